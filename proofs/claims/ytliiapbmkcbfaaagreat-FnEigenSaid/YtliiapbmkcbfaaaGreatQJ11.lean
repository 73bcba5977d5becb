/-
  The walk over plain data, and contracts of functions of the program and of its laws.
  Conditions: those that each theorem names.
-/
import Derived.Test.YtliiapbmkcbfaaaGreatQJ10
import Derived.Test.YtliiapbmkcbfaaaGreatQJ8
namespace Go.Proofs.YtliiapbmkcbfaaaGreat
set_option linter.unusedSimpArgs false
set_option linter.unusedVariables false
set_option linter.unusedSectionVars false
set_option maxRecDepth 4000
set_option maxHeartbeats 8000000
section
open Go.RowKit
theorem zcx:exC Ex.zero=[.int .i64 0,.str [],.sl 2 [],.str [],.sl 5 [],.sl 2 [],.sl 7 []]:=by rw[zae];rfl
theorem zzh {α:Type}(f:α->List T)(xs:List α)(i:Nat)(r:α)(hi:i<xs.length)(hl:(f r).length=(f xs[i]).length):zec (xs.map f) i 0 (f r)=(xs.set i r).map f:=by
 unfold zec setR
 rw[List.getD_eq_getElem?_getD,List.getElem?_map,List.getElem?_eq_getElem hi]
 simp only[Kc,Ku,Yi,Ki,Q2,hl,List.drop_length,Kj]
 rw[List.map_set]
noncomputable def qmt (a b:Ex)(pos:Bool):Ex×Bool:=if(mrg a b pos).2=true then mrg a b pos else (Ex.zero,false)
abbrev mgP (p b:Ex)(pos:Bool):Prop:=FC Tryz.prog 71 [exD p,exD b,bD pos] [exD (qmt p b pos).1,bD (qmt p b pos).2]
theorem qgd (a:Ex)(ha:a.wt<=1048576)(H:∀p∈a.parts,∀b:Ex,b.wt<=1048576->∀pos,zbe p pos=true->zbe b pos=true->p.form=b.form->mgP p b pos)(b:Ex)(hb:b.wt<=1048576)(pos:Bool)(hna:zbe a pos=true)(hnb:zbe b pos=true)(hf:a.form=b.form):mgP a b pos:=by
 have hv:=qer a b pos
 have hWa:=a.wt_eq
 have hWb:=b.wt_eq
 have hTa:zie a.terms=a.terms.length+(a.terms.map Tm.wt).sum:=rfl
 have hTb:zie b.terms=b.terms.length+(b.terms.map Tm.wt).sum:=rfl
 have hL1l:=zhb a b pos
 have hL2l:=znu a b pos
 have hL1k:∀k (h:k<a.parts.length),(zsg a b pos)[k]'(by rw[hL1l];exact h)=mrg a.parts[k] (b.parts.getD k Ex.zero) (sgn a.form k pos):=fun k h=>by simp only[Q5]
 have hL2k:∀k (h:k<a.parts.length),(qfa a b pos)[k]'(by rw[hL2l];exact h)=if 0<=kx a.terms b.terms k then mrg a.parts[k] (b.parts.getD (kx a.terms b.terms k).toNat Ex.zero) pos else (a.parts[k],true):=fun k h=>by simp only[Q5]
 have hpe:=qb2 (a:=a) (b:=b) (pos:=pos)
 have HO:=zfu a ha
 have HQ:=zan a.form.op
 have HSt:=zil a.form pos
 have hse:isQ a.form.op=true->((a.form.op==8)==pos)=zax a.form pos:=fun h=>(zpl h).symm
 have HEq:=zgc a.terms b.terms same 116 [] fun x _ y _=>zf3 x y
 rw[zj1 fun _ _ _=>rfl]at HEq
 have hpa:=(zbq hna).1
 have hpb:=(zbq hnb).1
 unfold mgP qmt
 rw[hv]
 generalize hL1:zsg a b pos=L1 at hL1l hL1k⊢
 generalize hL2:qfa a b pos=L2 at hL2l hL2k hpe⊢
 have hRR:∃R,(if(zlw a.form a.terms b pos L1 L2).2=true then zlw a.form a.terms b pos L1 L2 else (Ex.zero,false))=R:=⟨_,rfl⟩
 obtain⟨R,hR⟩:=hRR
 rw[hR]
 simp only[exD,zae a,zae b,zae R.1,fmD,zab a.form]at HO HSt⊢
 have hnwq:isQ a.form.op=false->¬(isQ a.form.op&&!zax a.form pos)=true:=fun h=>by rw[h];simp
 have hnws:zax a.form pos=true->¬(isQ a.form.op&&!zax a.form pos)=true:=fun h=>by rw[h];simp
 cases hq:isQ a.form.op
 ·-- no quantifier
  have hnw:=hnwq hq;have ht0:a.terms.length=0:=by
   rw[zc2,hq,if_neg (by simp)]at hna;simp only[Qc,Qr]at hna;exact hna.1.1
  have hu0:b.terms.length=0:=by
   rw[zc2,<-hf,hq,if_neg (by simp)]at hnb;simp only[Qc,Qr]at hnb;exact hnb.1.1
  have htn:a.terms=[]:=Q8.1 ht0;have hun:b.terms=[]:=Q8.1 hu0;have hsm:¬(!decide (a.terms.length=0)&&!same (a.terms.getD 0 Tm.zero) (b.terms.getD 0 Tm.zero))=true:=by rw[ht0];simp
  obtain⟨hpl,hfm⟩:=zlb hna hnb hf hq;have htk1:a.terms.take 1=a.terms:=by rw[htn];rfl
  rw[show same a.terms b.terms=true from zbg.2 (by rw[htn,hun])]at HEq;rw[hq]at HQ;refine zak Tryz.call71 Tryz.func71 rfl Ys (zaz Ys) ?_;simp -implicitDefEqProofs only[go_sem,Tryz.results71];refine callF (HO) Yr ?_;simp -implicitDefEqProofs only[go_sem];refine callF (HQ) Yr ?_;simp -implicitDefEqProofs only[go_sem];refine callF (HEq) Yr ?_;simp -implicitDefEqProofs only[go_sem]
  refine zaf (fun k:Nat=>hd [(2,vT (.bool pos)),(3,.one (.bx 3 0)),(4,.one (.bx 4 0)),(6,.one (.bx 6 0)),(7,vT (.bool false)),(8,.one (.bx 8 0)),(9,.one (.bx 9 0)),(97,vT (exS a.parts)),(98,vI a.parts.length),(99,vI k)] [(3,[.t (.int .i64 a.form.op),.t (.str a.form.atom.name),.t (tmS a.form.atom.args),.t (.str a.form.var),.t (fmS a.form.parts),.t (tmS a.terms),.t (exS a.parts)]),(4,[.t (.int .i64 b.form.op),.t (.str b.form.atom.name),.t (tmS b.form.atom.args),.t (.str b.form.var),.t (fmS b.form.parts),.t (tmS b.terms),.t (exS b.parts)]),(6,[.t (.int .i64 0),.t (.str []),.nl 2,.t (.str []),.nl 5,.nl 2,.nl 7]),(8,[.t (.int .i64 a.form.op),.t (.str a.form.atom.name),.t (tmS a.form.atom.args),.t (.str a.form.var),.t (fmS a.form.parts)]),(9,[.t (.int .i64 a.form.op),.t (.str a.form.atom.name),.ow 706 0,.t (.str a.form.var),.ow 708 0,.ow 709 0,.ow 710 0])]
   [(706,⟨true,2,a.form.atom.args.map tmC,0,true⟩),(708,⟨true,5,a.form.parts.map fmC,0,true⟩),(709,⟨true,2,a.terms.map tmC,0,true⟩),(710,⟨true,7,((L1.take k).map fun q=>exC q.1)++(a.parts.drop k).map exC,0,true⟩)]) (fun k=>k<=a.parts.length/\∀j (_:j<k) (h:j<L1.length),L1[j].2=true) (fun k=>a.parts.length-k) 0 (zad ?_) ⟨Q1 _,fun j h=>absurd h Yt⟩ ?_
  ·simp -implicitDefEqProofs only[go_sem,Yi,List.drop_zero,Qk,Ki]
  ·rintro k ⟨hk,hal⟩;by_cases hlt:k<a.parts.length
   ·have hkb:k<b.parts.length:=by omega
    have hkL:k<L1.length:=by omega
    have hfk:=hfm k hlt hkb;have hwa:=zay Ex.wt a.parts a.parts[k] (Qd hlt);have hwb:=zay Ex.wt b.parts b.parts[k] (Qd hkb);have HPo:=zgi a.form k pos;have hsg:(pos != (a.form.op==4||(a.form.op==7&&((k:Int)==0))))=sgn a.form k pos:=rfl;rw[hsg]at HPo;have HC:=H a.parts[k] (Qd hlt) b.parts[k] Yt (sgn a.form k pos) (hpa k hlt) (by rw[hf];exact hpb k hkb) hfk;have hRk:=hL1k k hlt;rw[za2 hkb]at hRk;unfold mgP qmt at HC;rw[<-hRk]at HC;have htk:L1.take (k+1)=L1.take k++[L1[k]]:=Qj hkL;have hdk:a.parts.drop k=a.parts[k]::a.parts.drop (k+1):=Qx hlt;generalize hq:L1[k]=q at HC htk hRk;have hAl:((L1.take k).map fun q=>exC q.1).length=k:=by rw[Qa,Qo];omega
    simp only[fmD,zab a.form]at HPo;cases hq2:q.2
    ·rw[hq2,if_neg (by simp)]at HC;simp only[exD,zae a.parts[k],zae b.parts[k],zcx]at HC;have hRe:R=(Ex.zero,false):=by
      rw[<-hR,if_neg];unfold zlw;rw[if_neg hnw,if_neg hsm,zir (fun q:Ex×Bool=>q.2) L1 hkL (by rw[hq];exact hq2)];simp
     subst hRe;simp -implicitDefEqProofs only[go_sem,hlt,zac,zae a.parts[k]];refine drawn Ys ?_;simp -implicitDefEqProofs only[go_sem,hkb,zac,zae b.parts[k]];refine zaj (HPo) Yr ?_;simp -implicitDefEqProofs only[go_sem];refine zaj (HC) Yr ?_;simp -implicitDefEqProofs only[go_sem];refine⟨Ys,?_⟩;exact⟨rfl,rfl,rfl,rfl,rfl,rfl,rfl⟩
    ·rw[hq2,if_pos rfl]at HC;simp only[exD,zae a.parts[k],zae b.parts[k],zae q.1,hq2]at HC;rw[hdk];simp -implicitDefEqProofs only[go_sem,hlt,zac,zae a.parts[k]];refine drawn Ys ?_;simp -implicitDefEqProofs only[go_sem,hkb,zac,zae b.parts[k]];refine zaj (HPo) Yr ?_;simp -implicitDefEqProofs only[go_sem];refine zaj (HC) Yr ?_;simp -implicitDefEqProofs only[go_sem];refine⟨Ys,?_⟩;refine⟨by rw[Qo,Kr];omega,?_⟩;refine zqe (by simp -implicitDefEqProofs only[go_sem,hAl];simp) ?_;simp -implicitDefEqProofs only[go_sem,hAl];refine⟨k+1,⟨hlt,zgj hal (hk:=hkL) (by rw[hq];exact hq2)⟩,Yt,zad ?_⟩;simp -implicitDefEqProofs only[go_sem];rw[zam Yt,htk,Qt,Q7,zae q.1,Km];exact⟨rfl,rfl⟩
   ·have ht:L1.take k=L1:=Qm Yt;have hd0:a.parts.drop k=[]:=Q0 Yt;obtain⟨w1,w2⟩:=zf6 (fun q:Ex×Bool=>q.2) L1 fun j h=>hal j Yt h;have hRe:R=(.mk a.form a.terms (L1.map fun q=>q.1),true):=by
     rw[<-hR];unfold zlw;rw[if_neg hnw,if_neg hsm,w1,w2,htk1,if_pos rfl]
    subst hRe;rw[ht,hd0];simp -implicitDefEqProofs only[go_sem,hlt,Qk,Kj];exact⟨rfl,rfl,rfl,rfl,rfl,rfl,by simp only[Ex.parts,Kh];rfl⟩
 ·have hse:=hse hq;rw[hse]at HSt;rw[hq]at HQ;cases hs:zax a.form pos
  ·-- weak
   rw[hs]at HSt;have hw:(isQ a.form.op&&!zax a.form pos)=true:=by rw[hq,hs];rfl
   have hla:=(zb9 hna).1 hq;have hlb:=(zb9 hnb).1 (hf▸hq);have hda:=zeu hna hq;have hdb:=zeu hnb (hf▸hq);refine zak Tryz.call71 Tryz.func71 rfl Ys (zaz Ys) ?_;simp -implicitDefEqProofs only[go_sem,Tryz.results71];refine callF (HO) Yr ?_;simp -implicitDefEqProofs only[go_sem];refine callF (HQ) Yr ?_;simp -implicitDefEqProofs only[go_sem];refine callF (HSt) Yr ?_;simp -implicitDefEqProofs only[go_sem]
   refine zaf (fun k:Nat=>hd [(2,vT (.bool pos)),(3,.one (.bx 3 0)),(4,.one (.bx 4 0)),(6,.one (.bx 6 0)),(7,vT (.bool false)),(8,.one (.bx 8 0)),(9,.one (.bx 9 0)),(33,vT (tmS b.terms)),(34,vI b.terms.length),(35,vI k)] [(3,[.t (.int .i64 a.form.op),.t (.str a.form.atom.name),.t (tmS a.form.atom.args),.t (.str a.form.var),.t (fmS a.form.parts),.t (tmS a.terms),.t (exS a.parts)]),(4,[.t (.int .i64 b.form.op),.t (.str b.form.atom.name),.t (tmS b.form.atom.args),.t (.str b.form.var),.t (fmS b.form.parts),.t (tmS b.terms),.t (exS b.parts)]),(6,[.t (.int .i64 0),.t (.str []),.nl 2,.t (.str []),.nl 5,.nl 2,.nl 7]),(8,[.t (.int .i64 a.form.op),.t (.str a.form.atom.name),.t (tmS a.form.atom.args),.t (.str a.form.var),.t (fmS a.form.parts)]),(9,[.t (.int .i64 a.form.op),.t (.str a.form.atom.name),.ow 706 0,.t (.str a.form.var),.ow 708 0,.ow 709 0,.ow 710 0])]
    [(706,⟨true,2,a.form.atom.args.map tmC,0,true⟩),(708,⟨true,5,a.form.parts.map fmC,0,true⟩),(709,⟨true,2,(tkM a b k).map tmC,0,true⟩),(710,⟨true,7,(pkM a b pos k).map exC,0,true⟩)]) (fun k=>k<=b.terms.length/\∀i (h:i<L2.length),0<=kx a.terms b.terms i->kx a.terms b.terms i<(k:Int)->L2[i].2=true) (fun k=>b.terms.length-k) 0 (zad ?_) ⟨Q1 _,fun i h h1 h2=>absurd h2 Yt⟩ ?_
   ·simp -implicitDefEqProofs only[go_sem,zu4,ztv]
   ·rintro k ⟨hk,hal⟩;by_cases hlt:k<b.terms.length
    ·have hkp:k<b.parts.length:=by omega
     have hTk:=zay Tm.wt b.terms b.terms[k] (Qd hlt);have hwk:=zay Ex.wt b.parts b.parts[k] (Qd hkp);have HTk:=zet b.terms[k] Yt;have HOk:=zfu b.parts[k] Yt;have HIx:=zhi (tkM a b k) b.terms[k];have hrl:=qh9 a.terms b.terms k;have htl:(tkM a b k).length=a.terms.length+(zow a.terms b.terms k).length:=by unfold tkM;simp
     have hpl:=zrw a b pos k;simp only[exD,zae b.parts[k],tmD,zaa b.terms[k]]at HTk HOk HIx;by_cases hm:b.terms[k]∈a.terms
     ·obtain⟨i,hi,e⟩:=Jh.1 hm;rw[qnr hda hlt hi e]at HIx;have hip:i<a.parts.length:=by omega
      have hiL:i<L2.length:=by omega
      have hiP:i<(pkM a b pos k).length:=by omega
      have hat:(pkM a b pos k)[i]'hiP=a.parts[i]:=qkf (pos:=pos) hdb hla hlt hi e;have hwi:=zay Ex.wt a.parts a.parts[i] (Qd hip);have hpi:=hpa i hip;have hpk:=hpb k hkp;rw[zqu hq]at hpi;rw[zqu (hf▸hq)]at hpk;have HC:=H a.parts[i] (Qd hip) b.parts[k] Yt pos hpi hpk (zev hna hnb hf hq hip hkp (by rw[za2 hi,za2 hlt,e]));have hqi:=hL2k i hip;rw[qhn hdb hlt hi e,if_pos Yt,Jw,za2 hkp]at hqi;have htn:=qed hlt hm;have hpn:=qdq (pos:=pos) hda hdb hla hlb hlt hi e;unfold mgP qmt at HC;rw[<-hqi]at HC hpn;generalize tkM a b k=T at HIx htl htn⊢;obtain⟨P,hP⟩:∃P,pkM a b pos k=P:=⟨_,rfl⟩;have hiP:i<P.length:=hP▸hiP;have hat:P[i]'hiP=a.parts[i]:=by subst hP;exact hat
      rw[hP]at hpl hpn⊢;generalize hqq:L2[i]=q at HC hqi hpn;cases hq2:q.2
      ·rw[hq2,if_neg (by simp)]at HC;simp only[exD,zae a.parts[i],zae b.parts[k],zcx]at HC;have hRe:R=(Ex.zero,false):=by
        rw[<-hR,if_neg];unfold zlw;rw[if_pos hw,if_neg (by rw[zir (fun q:Ex×Bool=>q.2) L2 hiL (by rw[hqq];exact hq2)];simp)];simp
       subst hRe;simp -implicitDefEqProofs only[go_sem,hlt,zac,zaa b.terms[k]];refine callF (HIx) Yr ?_;simp -implicitDefEqProofs only[go_sem];refine drawn Ys ?_;simp -implicitDefEqProofs only[go_sem,hiP,zac,hat,zae a.parts[i],hkp,zae b.parts[k]];refine zaj (HC) Yr ?_;simp -implicitDefEqProofs only[go_sem];refine⟨Ys,?_⟩;exact⟨rfl,rfl,rfl,rfl,rfl,rfl,rfl⟩
      ·rw[hq2,if_pos rfl]at HC;simp only[exD,zae a.parts[i],zae b.parts[k],zae q.1,hq2]at HC;have hst:=zzh exC P i q.1 hiP (by rw[zae,zae];rfl);rw[zae q.1]at hst;simp -implicitDefEqProofs only[go_sem,hlt,zac,zaa b.terms[k]];refine callF (HIx) Yr ?_;simp -implicitDefEqProofs only[go_sem];refine drawn Ys ?_;simp -implicitDefEqProofs only[go_sem,hiP,zac,hat,zae a.parts[i],hkp,zae b.parts[k]];refine zaj (HC) Yr ?_;simp -implicitDefEqProofs only[go_sem];refine⟨Ys,?_⟩
       trace_state
       refine⟨hiP,?_⟩;refine zqe (by simp -implicitDefEqProofs only[go_sem,hiP,Qa];simp) ?_;simp -implicitDefEqProofs only[go_sem,hiP,Qa,hst];refine⟨k+1,⟨hlt,fun j hj h0 h1=>?_⟩,Yt,zad ?_⟩
       ·by_cases hjk:kx a.terms b.terms j=(k:Int)
        ·obtain⟨_,e3⟩:=qjb (by omega:j<a.terms.length) hjk;have:=zes hda hi (by omega:j<a.terms.length) (e.trans e3);subst this;rw[hqq];exact hq2
        ·exact hal j hj h0 Yt
       ·simp -implicitDefEqProofs only[go_sem];rw[zam Yt,htn,hpn];exact⟨rfl,rfl,rfl⟩
     ·have hany:=qly hdb hlt hm;have htn:=qdo hlt hm;have hpn:=qbs (pos:=pos) hla hlb hlt hm;rw[<-zez,Kz]at hany;generalize (zc9 (tkM a b k) fun x=>same x b.terms[k])=x at HIx hany;have hx0:(x<0)=True:=by simp;omega
      have hm1:(tkM a b k).length<=4294967295:=by omega
      have hm2:(tkM a b k).length+1<=4294967296:=by omega
      have hm3:(pkM a b pos k).length<=4294967295:=by omega
      have hm4:(pkM a b pos k).length+1<=4294967296:=by omega
      generalize tkM a b k=T at HIx hm1 hm2 htn⊢;generalize pkM a b pos k=P at hm3 hm4 hpn⊢;simp -implicitDefEqProofs only[go_sem,hlt,zac,zaa b.terms[k]];refine callF (HIx) (by simp -implicitDefEqProofs only[go_sem,hx0]) ?_;simp -implicitDefEqProofs only[go_sem,hx0];refine drawn Ys ?_;simp -implicitDefEqProofs only[go_sem];refine zaj (HTk) Yr ?_;simp -implicitDefEqProofs only[go_sem];refine za8 Yr ?_;simp -implicitDefEqProofs only[go_sem];refine zek true (by simp -implicitDefEqProofs only[go_sem,ne_eq,Qa,hm1,hm2]) ?_;simp -implicitDefEqProofs only[go_sem,ne_eq,Qa,hm1,hm2];refine⟨Ys,?_⟩;refine drawn Ys ?_;simp -implicitDefEqProofs only[go_sem,hkp,zac,zae b.parts[k]];refine zaj (HOk) Yr ?_;simp -implicitDefEqProofs only[go_sem];refine za8 Yr ?_;simp -implicitDefEqProofs only[go_sem];refine zek true (by simp -implicitDefEqProofs only[go_sem,ne_eq,Qa,hm3,hm4]) ?_;simp -implicitDefEqProofs only[go_sem,ne_eq,Qa,hm3,hm4];refine⟨Ys,k+1,⟨hlt,fun j hj h0 h1=>hal j hj h0 ?_⟩,Yt,zad ?_⟩
      ·have hne:kx a.terms b.terms j≠(k:Int):=fun e2=>by
        obtain⟨_,e3⟩:=qjb (by omega:j<a.terms.length) e2;exact hm (e3▸Qd _)
       omega
      ·simp -implicitDefEqProofs only[go_sem];rw[zam Yt,htn,hpn,Qt,Qt,Q7,Q7,zae b.parts[k],zaa b.terms[k]];exact⟨rfl,rfl,rfl⟩
    ·have hk2:k=b.terms.length:=by omega
     subst hk2;have hall:∀j (h:j<L2.length),L2[j].2=true:=fun j h=>by
      by_cases h0:0<=kx a.terms b.terms j
      ·obtain⟨h1,_⟩:=zwj (by omega:j<a.terms.length) h0;exact hal j h h0 Yt
      ·rw[hL2k j Yt,if_neg h0]
     obtain⟨w1,w2⟩:=zf6 (fun q:Ex×Bool=>q.2) L2 hall;have hRe:R=(.mk a.form (tkM a b b.terms.length) (pkM a b pos b.terms.length),true):=by
      rw[<-hR];unfold zlw;rw[if_pos hw,if_pos w2,if_pos rfl,hpe hla];rfl
     subst hRe;simp -implicitDefEqProofs only[go_sem,hlt];exact⟨rfl,rfl,rfl,rfl,rfl,rfl,rfl⟩
  ·-- strong
   have hnw:=hnws hs;rw[hs]at HSt;obtain⟨ta,pa⟩:=zcv hna hs;obtain⟨tb,pb⟩:=zcv hnb (by rw[<-hf];exact hs);obtain⟨t,hta⟩:=Jb.1 ta;obtain⟨u,htb⟩:=Jb.1 tb;have hga:a.terms.getD 0 Tm.zero=t:=by rw[hta];rfl
   have hgb:b.terms.getD 0 Tm.zero=u:=by rw[htb];rfl
   have hsame:same a.terms b.terms=same t u:=by rw[hta,htb,zh5,zj7,Yh]
   rw[hsame]at HEq;cases hsm0:same t u
   ·rw[hsm0]at HEq;have hRe:R=(Ex.zero,false):=by
     rw[<-hR,if_neg];unfold zlw;rw[if_neg hnw,hga,hgb,hsm0,if_pos (by rw[ta];rfl)];simp
    subst hRe;refine zak Tryz.call71 Tryz.func71 rfl Ys (zaz Ys) ?_;simp -implicitDefEqProofs only[go_sem,Tryz.results71];refine callF (HO) Yr ?_;simp -implicitDefEqProofs only[go_sem];refine callF (HQ) Yr ?_;simp -implicitDefEqProofs only[go_sem];refine callF (HSt) Yr ?_;simp -implicitDefEqProofs only[go_sem];refine callF (HEq) Yr ?_;simp -implicitDefEqProofs only[go_sem];exact⟨rfl,rfl,rfl,rfl,rfl,rfl,rfl⟩
   ·rw[hsm0]at HEq;have hsm:¬(!decide (a.terms.length=0)&&!same (a.terms.getD 0 Tm.zero) (b.terms.getD 0 Tm.zero))=true:=by rw[hga,hgb,hsm0];simp
    have hpl:a.parts.length=b.parts.length:=by omega
    have hfm:∀i (h1:i<a.parts.length) (h2:i<b.parts.length),a.parts[i].form=b.parts[i].form:=fun i h1 h2=>by
     obtain rfl:i=0:=by omega
     exact zev hna hnb hf hq h1 h2 (by rw[hga,hgb];exact zbg.1 hsm0)
    have htk1:a.terms.take 1=a.terms:=Qm Yt;refine zak Tryz.call71 Tryz.func71 rfl Ys (zaz Ys) ?_;simp -implicitDefEqProofs only[go_sem,Tryz.results71];refine callF (HO) Yr ?_;simp -implicitDefEqProofs only[go_sem];refine callF (HQ) Yr ?_;simp -implicitDefEqProofs only[go_sem];refine callF (HSt) Yr ?_;simp -implicitDefEqProofs only[go_sem];refine callF (HEq) Yr ?_;simp -implicitDefEqProofs only[go_sem]
    refine zaf (fun k:Nat=>hd [(2,vT (.bool pos)),(3,.one (.bx 3 0)),(4,.one (.bx 4 0)),(6,.one (.bx 6 0)),(7,vT (.bool false)),(8,.one (.bx 8 0)),(9,.one (.bx 9 0)),(97,vT (exS a.parts)),(98,vI a.parts.length),(99,vI k)] [(3,[.t (.int .i64 a.form.op),.t (.str a.form.atom.name),.t (tmS a.form.atom.args),.t (.str a.form.var),.t (fmS a.form.parts),.t (tmS a.terms),.t (exS a.parts)]),(4,[.t (.int .i64 b.form.op),.t (.str b.form.atom.name),.t (tmS b.form.atom.args),.t (.str b.form.var),.t (fmS b.form.parts),.t (tmS b.terms),.t (exS b.parts)]),(6,[.t (.int .i64 0),.t (.str []),.nl 2,.t (.str []),.nl 5,.nl 2,.nl 7]),(8,[.t (.int .i64 a.form.op),.t (.str a.form.atom.name),.t (tmS a.form.atom.args),.t (.str a.form.var),.t (fmS a.form.parts)]),(9,[.t (.int .i64 a.form.op),.t (.str a.form.atom.name),.ow 706 0,.t (.str a.form.var),.ow 708 0,.ow 709 0,.ow 710 0])]
     [(706,⟨true,2,a.form.atom.args.map tmC,0,true⟩),(708,⟨true,5,a.form.parts.map fmC,0,true⟩),(709,⟨true,2,a.terms.map tmC,0,true⟩),(710,⟨true,7,((L1.take k).map fun q=>exC q.1)++(a.parts.drop k).map exC,0,true⟩)]) (fun k=>k<=a.parts.length/\∀j (_:j<k) (h:j<L1.length),L1[j].2=true) (fun k=>a.parts.length-k) 0 (zad ?_) ⟨Q1 _,fun j h=>absurd h Yt⟩ ?_
    ·simp -implicitDefEqProofs only[go_sem,Yi,List.drop_zero,Qk,Ki]
    ·rintro k ⟨hk,hal⟩;by_cases hlt:k<a.parts.length
     ·have hkb:k<b.parts.length:=by omega
      have hkL:k<L1.length:=by omega
      have hfk:=hfm k hlt hkb;have hwa:=zay Ex.wt a.parts a.parts[k] (Qd hlt);have hwb:=zay Ex.wt b.parts b.parts[k] (Qd hkb);have HPo:=zgi a.form k pos;have hsg:(pos != (a.form.op==4||(a.form.op==7&&((k:Int)==0))))=sgn a.form k pos:=rfl;rw[hsg]at HPo;have HC:=H a.parts[k] (Qd hlt) b.parts[k] Yt (sgn a.form k pos) (hpa k hlt) (by rw[hf];exact hpb k hkb) hfk;have hRk:=hL1k k hlt;rw[za2 hkb]at hRk;unfold mgP qmt at HC;rw[<-hRk]at HC;have htk:L1.take (k+1)=L1.take k++[L1[k]]:=Qj hkL;have hdk:a.parts.drop k=a.parts[k]::a.parts.drop (k+1):=Qx hlt;generalize hq:L1[k]=q at HC htk hRk;have hAl:((L1.take k).map fun q=>exC q.1).length=k:=by rw[Qa,Qo];omega
      simp only[fmD,zab a.form]at HPo;cases hq2:q.2
      ·rw[hq2,if_neg (by simp)]at HC;simp only[exD,zae a.parts[k],zae b.parts[k],zcx]at HC;have hRe:R=(Ex.zero,false):=by
        rw[<-hR,if_neg];unfold zlw;rw[if_neg hnw,if_neg hsm,zir (fun q:Ex×Bool=>q.2) L1 hkL (by rw[hq];exact hq2)];simp
       subst hRe;simp -implicitDefEqProofs only[go_sem,hlt,zac,zae a.parts[k]];refine drawn Ys ?_;simp -implicitDefEqProofs only[go_sem,hkb,zac,zae b.parts[k]];refine zaj (HPo) Yr ?_;simp -implicitDefEqProofs only[go_sem];refine zaj (HC) Yr ?_;simp -implicitDefEqProofs only[go_sem];refine⟨Ys,?_⟩;exact⟨rfl,rfl,rfl,rfl,rfl,rfl,rfl⟩
      ·rw[hq2,if_pos rfl]at HC;simp only[exD,zae a.parts[k],zae b.parts[k],zae q.1,hq2]at HC;rw[hdk];simp -implicitDefEqProofs only[go_sem,hlt,zac,zae a.parts[k]];refine drawn Ys ?_;simp -implicitDefEqProofs only[go_sem,hkb,zac,zae b.parts[k]];refine zaj (HPo) Yr ?_;simp -implicitDefEqProofs only[go_sem];refine zaj (HC) Yr ?_;simp -implicitDefEqProofs only[go_sem];refine⟨Ys,?_⟩;refine⟨by rw[Qo,Kr];omega,?_⟩;refine zqe (by simp -implicitDefEqProofs only[go_sem,hAl];simp) ?_;simp -implicitDefEqProofs only[go_sem,hAl];refine⟨k+1,⟨hlt,zgj hal (hk:=hkL) (by rw[hq];exact hq2)⟩,Yt,zad ?_⟩;simp -implicitDefEqProofs only[go_sem];rw[zam Yt,htk,Qt,Q7,zae q.1,Km];exact⟨rfl,rfl⟩
     ·have ht:L1.take k=L1:=Qm Yt;have hd0:a.parts.drop k=[]:=Q0 Yt;obtain⟨w1,w2⟩:=zf6 (fun q:Ex×Bool=>q.2) L1 fun j h=>hal j Yt h;have hRe:R=(.mk a.form a.terms (L1.map fun q=>q.1),true):=by
       rw[<-hR];unfold zlw;rw[if_neg hnw,if_neg hsm,w1,w2,htk1,if_pos rfl]
      subst hRe;rw[ht,hd0];simp -implicitDefEqProofs only[go_sem,hlt,Qk,Kj];exact⟨rfl,rfl,rfl,rfl,rfl,rfl,by simp only[Ex.parts,Kh];rfl⟩
theorem qlr:∀a:Ex,a.wt<=1048576->∀b:Ex,b.wt<=1048576->∀pos,zbe a pos=true->zbe b pos=true->a.form=b.form->mgP a b pos :=
 zcp fun f ts ps ih ha b hb pos hna hnb hf=>qgd (.mk f ts ps) ha (fun p hp b hb pos hna hnb hf=>ih p hp (Q9 (zci (a:=.mk f ts ps) hp) ha) b hb pos hna hnb hf) b hb pos hna hnb hf
end
section
open Go.RowKit
noncomputable def qff (a b:Ex)(pos:Bool):Bool:=zbx a pos&&zbx b pos&&same a.form b.form&&(mrg a b pos).2&&zbx (mrg a b pos).1 pos
noncomputable def mgR (a b:Ex)(pos:Bool):Ex:=if qff a b pos=true then (mrg a b pos).1 else Ex.zero
theorem qod:Ex.zero.wt=0:=rfl
theorem mgR_wt (a b:Ex)(pos:Bool):(mgR a b pos).wt<=a.wt+b.wt:=by
 unfold mgR
 split
 ·rename_i h;unfold qff at h;simp only[Qc]at h;obtain⟨⟨⟨⟨h1,h2⟩,h3⟩,h4⟩,_⟩:=h;exact zyx a b pos (zbr h1).2.1 (zbr h2).2.1 (zbg.1 h3) h4
 ·rw[qod];omega
theorem zgd (a b:Ex)(hab:a.wt+b.wt<=1048576)(pos:Bool):FC Tryz.prog 26 [exD a,exD b,bD pos] [exD (mgR a b pos),bD (qff a b pos)]:=by
 have H1:=zb1 a Yt pos
 have H2:=zb1 b Yt pos
 have H3:=zfb a.form b.form
 rw[zjr]at H1 H2
 simp only[exD,zae a,zae b,fmD,zab a.form,zab b.form]at H1 H2 H3
 unfold mgR
 obtain⟨ok,hok⟩:∃ok,qff a b pos=ok:=⟨_,rfl⟩
 rw[hok]
 unfold qff at hok
 cases h1:zbx a pos
 ·rw[h1]at H1 hok;simp only[Ql]at hok;subst hok;rw[if_neg (by simp)];simp only[exD,zae a,zae b,zcx];refine zak Tryz.call26 Tryz.func26 rfl Ys (zaz Ys) ?_;simp -implicitDefEqProofs only[go_sem,Tryz.results26];refine callF (H1) Yr ?_;simp -implicitDefEqProofs only[go_sem]
 ·rw[h1]at H1 hok;cases h2:zbx b pos
  ·rw[h2]at H2 hok;simp only[Ql,Q6]at hok;subst hok;rw[if_neg (by simp)];simp only[exD,zae a,zae b,zcx];refine zak Tryz.call26 Tryz.func26 rfl Ys (zaz Ys) ?_;simp -implicitDefEqProofs only[go_sem,Tryz.results26];refine callF (H1) Yr ?_;simp -implicitDefEqProofs only[go_sem];refine callF (H2) Yr ?_;simp -implicitDefEqProofs only[go_sem]
  ·rw[h2]at H2 hok;cases h3:same a.form b.form
   ·rw[h3]at H3 hok;simp only[Ql,Q6]at hok;subst hok;rw[if_neg (by simp)];simp only[exD,zae a,zae b,zcx];refine zak Tryz.call26 Tryz.func26 rfl Ys (zaz Ys) ?_;simp -implicitDefEqProofs only[go_sem,Tryz.results26];refine callF (H1) Yr ?_;simp -implicitDefEqProofs only[go_sem];refine callF (H2) Yr ?_;simp -implicitDefEqProofs only[go_sem];refine callF (H3) Yr ?_;simp -implicitDefEqProofs only[go_sem]
   ·rw[h3]at H3 hok;have HM:=qlr a Yt b Yt pos (zbr h1).2.1 (zbr h2).2.1 (zbg.1 h3);have hw:=zyx a b pos (zbr h1).2.1 (zbr h2).2.1 (zbg.1 h3);unfold mgP qmt at HM;generalize mrg a b pos=q at HM hok hw⊢;cases h4:q.2
    ·rw[h4,if_neg (by simp)]at HM;rw[h4]at hok;simp only[Ql,Q6]at hok;subst hok;rw[if_neg (by simp)];simp only[exD,zae a,zae b,zcx]at HM⊢;refine zak Tryz.call26 Tryz.func26 rfl Ys (zaz Ys) ?_;simp -implicitDefEqProofs only[go_sem,Tryz.results26];refine callF (H1) Yr ?_;simp -implicitDefEqProofs only[go_sem];refine callF (H2) Yr ?_;simp -implicitDefEqProofs only[go_sem];refine callF (H3) Yr ?_;simp -implicitDefEqProofs only[go_sem];refine callF (HM) Yr ?_;simp -implicitDefEqProofs only[go_sem]
    ·rw[h4,if_pos rfl]at HM;rw[h4]at hok;have hw:=hw h4;have H5:=zb1 q.1 Yt pos;rw[zjr]at H5;simp only[Qq]at hok;rw[hok]at H5;cases ok
     ·rw[if_neg (by simp)];simp only[exD,zae a,zae b,zcx,zae q.1,h4]at HM H5⊢;refine zak Tryz.call26 Tryz.func26 rfl Ys (zaz Ys) ?_;simp -implicitDefEqProofs only[go_sem,Tryz.results26];refine callF (H1) Yr ?_;simp -implicitDefEqProofs only[go_sem];refine callF (H2) Yr ?_;simp -implicitDefEqProofs only[go_sem];refine callF (H3) Yr ?_;simp -implicitDefEqProofs only[go_sem];refine callF (HM) Yr ?_;simp -implicitDefEqProofs only[go_sem];refine callF (H5) Yr ?_;simp -implicitDefEqProofs only[go_sem]
     ·rw[if_pos rfl];simp only[exD,zae a,zae b,zae q.1,h4]at HM H5⊢;refine zak Tryz.call26 Tryz.func26 rfl Ys (zaz Ys) ?_;simp -implicitDefEqProofs only[go_sem,Tryz.results26];refine callF (H1) Yr ?_;simp -implicitDefEqProofs only[go_sem];refine callF (H2) Yr ?_;simp -implicitDefEqProofs only[go_sem];refine callF (H3) Yr ?_;simp -implicitDefEqProofs only[go_sem];refine callF (HM) Yr ?_;simp -implicitDefEqProofs only[go_sem];refine callF (H5) Yr ?_;simp -implicitDefEqProofs only[go_sem]
theorem zf1 (a b:Ex)(hab:a.wt+b.wt<=1048576)(pos:Bool):FC Tryz.prog 27 [exD a,exD b,bD pos] [exD (mgR a b pos),bD (qff a b pos)]:=by
 have H1:=zg9 a Yt pos
 have H2:=zg9 b Yt pos
 have H3:=zj5 a.form b.form
 simp only[exD,zae a,zae b,fmD,zab a.form,zab b.form]at H1 H2 H3
 unfold mgR
 obtain⟨ok,hok⟩:∃ok,qff a b pos=ok:=⟨_,rfl⟩
 rw[hok]
 unfold qff at hok
 cases h1:zbx a pos
 ·rw[h1]at H1 hok;simp only[Ql]at hok;subst hok;rw[if_neg (by simp)];simp only[exD,zae a,zae b,zcx];refine zak Tryz.call27 Tryz.func27 rfl Ys (zaz Ys) ?_;simp -implicitDefEqProofs only[go_sem,Tryz.results27];refine callF (H1) Yr ?_;simp -implicitDefEqProofs only[go_sem]
 ·rw[h1]at H1 hok;cases h2:zbx b pos
  ·rw[h2]at H2 hok;simp only[Ql,Q6]at hok;subst hok;rw[if_neg (by simp)];simp only[exD,zae a,zae b,zcx];refine zak Tryz.call27 Tryz.func27 rfl Ys (zaz Ys) ?_;simp -implicitDefEqProofs only[go_sem,Tryz.results27];refine callF (H1) Yr ?_;simp -implicitDefEqProofs only[go_sem];refine callF (H2) Yr ?_;simp -implicitDefEqProofs only[go_sem]
  ·rw[h2]at H2 hok;cases h3:same a.form b.form
   ·rw[h3]at H3 hok;simp only[Ql,Q6]at hok;subst hok;rw[if_neg (by simp)];simp only[exD,zae a,zae b,zcx];refine zak Tryz.call27 Tryz.func27 rfl Ys (zaz Ys) ?_;simp -implicitDefEqProofs only[go_sem,Tryz.results27];refine callF (H1) Yr ?_;simp -implicitDefEqProofs only[go_sem];refine callF (H2) Yr ?_;simp -implicitDefEqProofs only[go_sem];refine callF (H3) Yr ?_;simp -implicitDefEqProofs only[go_sem]
   ·rw[h3]at H3 hok;have HM:=zw1 a Yt b Yt pos (zbr h1).2.1 (zbr h2).2.1 (zbg.1 h3);have hw:=zyx a b pos (zbr h1).2.1 (zbr h2).2.1 (zbg.1 h3);unfold qk7 at HM;generalize mrg a b pos=q at HM hok hw⊢;cases h4:q.2
    ·rw[h4]at HM hok;simp only[Ql,Q6]at hok;subst hok;rw[if_neg (by simp)];simp only[exD,zae a,zae b,zcx,zae q.1]at HM⊢;refine zak Tryz.call27 Tryz.func27 rfl Ys (zaz Ys) ?_;simp -implicitDefEqProofs only[go_sem,Tryz.results27];refine callF (H1) Yr ?_;simp -implicitDefEqProofs only[go_sem];refine callF (H2) Yr ?_;simp -implicitDefEqProofs only[go_sem];refine callF (H3) Yr ?_;simp -implicitDefEqProofs only[go_sem];refine callF (HM) Yr ?_;simp -implicitDefEqProofs only[go_sem]
    ·rw[h4]at HM hok;have hw:=hw h4;have H5:=zg9 q.1 Yt pos;simp only[Qq]at hok;rw[hok]at H5;cases ok
     ·rw[if_neg (by simp)];simp only[exD,zae a,zae b,zcx,zae q.1]at HM H5⊢;refine zak Tryz.call27 Tryz.func27 rfl Ys (zaz Ys) ?_;simp -implicitDefEqProofs only[go_sem,Tryz.results27];refine callF (H1) Yr ?_;simp -implicitDefEqProofs only[go_sem];refine callF (H2) Yr ?_;simp -implicitDefEqProofs only[go_sem];refine callF (H3) Yr ?_;simp -implicitDefEqProofs only[go_sem];refine callF (HM) Yr ?_;simp -implicitDefEqProofs only[go_sem];refine callF (H5) Yr ?_;simp -implicitDefEqProofs only[go_sem]
     ·rw[if_pos rfl];simp only[exD,zae a,zae b,zae q.1]at HM H5⊢;refine zak Tryz.call27 Tryz.func27 rfl Ys (zaz Ys) ?_;simp -implicitDefEqProofs only[go_sem,Tryz.results27];refine callF (H1) Yr ?_;simp -implicitDefEqProofs only[go_sem];refine callF (H2) Yr ?_;simp -implicitDefEqProofs only[go_sem];refine callF (H3) Yr ?_;simp -implicitDefEqProofs only[go_sem];refine callF (HM) Yr ?_;simp -implicitDefEqProofs only[go_sem];refine callF (H5) Yr ?_;simp -implicitDefEqProofs only[go_sem]
end
section
open Go.RowKit
theorem vBig_c (code:List UInt8):FC Tryz.prog 24 [.one (zou code)] [bD (decide (65536<(code.length:Int)))]:=by
 refine zak Tryz.call24 Tryz.func24 rfl Ys (zaz Ys) ?_
 simp -implicitDefEqProofs only[go_sem,Tryz.results24]
def q0 (code:List UInt8):Cu:=⟨code,0,0⟩
end
section
open Go.RowKit
variable {P:Program}
theorem zw9 {args:List D}{w:World}{vs:List Value}{N:Nat}{g:Gh}{a:Act}{A:Nat->Prop}(hr:zbv w (fun b=>b<w.heap.size/\A b) args vs)(hR:Rel (fun b=>b<w.heap.size/\b∉([]:List Nat)) N (zdq (rd args)) g a w)
  (ht:a.tmps=(⟨vs⟩:Array Value)++Array.replicate (N-vs.length) undef) (hA:∀b,A b->g.A0 b):Rel (fun b=>b<w.heap.size/\b∉([]:List Nat)) N (zg6 args) g a w:=by
 have hbx:∀(ds:List D) (k:Nat),zfh k (rd ds)=fun _=>none:=fun ds=>by
  induction ds with
  | nil=>intro k;rfl
  | cons d ds ih=>intro k;exact ih (k+1)
 have hG:∀b,(b<w.heap.size/\A b)->zb6 (zg6 args) g w b:=fun b hb=>by
  refine⟨⟨fun k hk=>absurd rfl hk,fun e x he _=>(by cases he),hb.1,hA b hb.2⟩,?_⟩;rintro e ⟨x,hx,_⟩;cases hx
 refine hR.slots_of (σ':=zg6 args) rfl ?_ hR.defers hR.size fun i=>?_
 ·show(fun _=>none)=zfh 0 (rd args)
  rw[hbx]
 ·show VR (zdq (rd args)) g w (zhk 0 args i) _
  have hi:=zkb args 0 i;rw[Q2]at hi;rw[hi];cases hd:args[i]? with
  | none=>trivial
  | some d =>
   obtain⟨v,hv1,hv2⟩:=zbv.at hr i d hd;have hlt:i<vs.length:=(List.getElem?_eq_some_iff.1 hv1).1;have e:a.tmps.getD i (g.R0.ξ i)=v:=by
    rw[ht];rw[Array.getD_eq_getD_getElem?,Array.getElem?_append_left (by simpa using hlt)];simp[hv1]
   rw[e];have hx:=zm2 hG hv2;exact(Mv.of_eq (σ:=zg6 args) (σ':=zdq (rd args)) g w rfl (by show zfh 0 (rd args)=fun _=>none;rw[hbx])).vr hx
theorem zrp {f:FuncId}{fn:Func}{c:Code}{args res:List D}(hc:zbw P f)(hf:P.funcs[f]?=some fn)(hb:fn.body=some c)(hd:zei fn.ntmps c=true)(hN:(rd args).length<=fn.ntmps)
  (h:ex P c [] (PRe P fn.results.toList res) (zg6 args)):RC P f args res:=by
 refine⟨hc,fun w vs A hv=>?_⟩
 refine calls_of_wp hf hb ?_
 have hg:∀(ds:List D) (vs:List Value),zbv w (fun b=>b<w.heap.size/\A b) ds vs->za0 w (fun b=>b<w.heap.size/\A b/\b∉([]:List Nat)) (rd ds) vs [] []:=by
  intro ds;induction ds with
  | nil=>intro vs h;exact⟨h,rfl,rfl⟩
  | cons d ds ih =>
   rintro vs ⟨v,vs',rfl,h1,h2⟩;refine⟨v,vs',rfl,?_,ih _ h2⟩;cases d with
   | one t=>exact zas.keep (fun _ _=>rfl) (fun b hb=>⟨hb.1,hb.2,by simp⟩) t _ h1
   | agg ts=>obtain⟨a,h0,h1⟩:=h1;exact⟨a,h0,zah.keep (fun _ _=>rfl) (fun b hb=>⟨hb.1,hb.2,by simp⟩) ts a h1⟩
 obtain⟨g,hg,hR⟩:=Rel.start (A:=A) (A0:=fun b=>A b\/w.heap.size<=b) (R0:=RP.of fun _=>True) (N:=fn.ntmps) (hg _ _ hv) Kf (zd6 args) hN (fun _ hb=>Or.inl hb) (fun b hb=>by simp at hb) (fun b hb=>⟨Or.inr (by
  refine Nat.le_of_not_lt fun hlt=>hb ⟨hlt,by simp⟩),trivial⟩)
 have hR2:=zw9 hv hR rfl (fun b hb=>by rw[(Jq hg).1];exact Or.inl hb)
 refine wp_mono (zby (w0:=w) c (zg6 args) _ hd h g _ w hR2 (fun k hk=>hk.1) (Bk.refl _ _) hg) fun e a' w' hq=>?_
 obtain⟨σ',g',h1,h2,h3,h4,h5⟩:=hq
 have key:zav (zb3 P σ' fn.results.toList) (fun vs=>RVe σ' vs res)->∃v,(results fn a'.tmps).run P w'=.ok v w'/\∃us,Ending.returned v=.returned (zck us)/\zbv w' (fun b=>b<w'.heap.size/\(A b\/w.heap.size<=b)) res us/\Below w.heap.size w w':=fun hk=>by
  unfold zav at hk;split at hk
  ·rename_i vs hvs;obtain⟨us,r1,r2⟩:=zco h2 fn hvs;refine⟨_,r1,us,rfl,(RVe.rep h2 hk r2).keep (fun _ _=>rfl) fun b hb=>⟨hb.1,?_⟩,h4.os,h4.tape,h4.output,h4.size,fun k hk=>h4.block k ⟨hk,by simp⟩⟩;have:=hb.2;simp only[Qp]at h5;rw[h5.1]at this;exact this
  ·exact hk.elim
 cases e with
 | normal=>exact⟨h2.defers,key h1⟩
 | ret=>exact⟨h2.defers,key h1⟩
 | exit _=>exact h1.elim
 | goto _=>exact h1.elim
 | panic _=>exact h1.elim
 | outgrown=>exact h1.elim
end
section
open Go.RowKit
theorem zul {w:World}{A:Nat->Prop}:∀(ds:List D)(vs:List Value)(fp tp:List Nat),za0 w A (rd ds) vs fp tp->zbv w A ds vs/\fp=[]/\tp=[]
 | [],vs,fp,tp,h=>h
 | d::ds,vs,fp,tp,h=>by
  obtain⟨v,vs',rfl,h1,h2⟩:=h;obtain⟨h3,h4,h5⟩:=zul ds vs' fp tp h2;exact⟨⟨v,vs',rfl,h1,h3⟩,h4,h5⟩
theorem qhg {P:Program}{f:FuncId}{args:List D}{b:Bool}(h:RC P f args [bD b]):FC P f args [bD b]:=by
 refine⟨h.1,fun w vs fp tp hv hn=>?_⟩
 obtain⟨h1,rfl,rfl⟩:=zul _ _ _ _ hv
 refine(h.2 w vs (fun k=>k∉([]:List Nat)) h1).mono ?_
 rintro e w' ⟨us,rfl,hr,hb⟩
 obtain⟨u,us',rfl,hu,hz⟩:=hr
 have hz:us'=[]:=hz
 subst hz
 have hu:u=.bool b:=hu
 subst hu
 exact⟨[.bool b],[],[],rfl,⟨_,[],[],[],[],[],rfl,rfl,rfl,⟨⟨rfl,rfl⟩,rfl⟩,rfl,rfl,rfl⟩,Kf,fun b hb=>absurd hb (by simp),⟨hb.os,hb.tape,hb.output,hb.size,fun k hk=>hb.block k hk.1⟩⟩
end
section
open Go.RowKit
theorem qhl {α:Type}{xs:List α}{p:α->Bool}(h:0<=zc9 xs p)(hj:(zc9 xs p).toNat<xs.length):p xs[(zc9 xs p).toNat]=true:=by
 have ha:xs.any p=true:=by
  cases hx:xs.any p
  ·unfold zc9 at h;rw[hx]at h;simp at h
  ·rfl
 have e:zc9 xs p=(xs.findIdx p:Nat):=by unfold zc9;rw[if_pos ha]
 have hf:xs.findIdx p<xs.length:=List.findIdx_lt_length.2 (Yc.1 ha)
 have e2:(zc9 xs p).toNat=xs.findIdx p:=by rw[e];rfl
 simp only[e2]
 exact List.findIdx_getElem (w:=hf)
theorem zmq (N:List Str)(Pr:List (Str×Str)):∀(n:Nat)(out:List Str),out.Nodup->(zw8 N Pr n out).1.Nodup
 | 0,out,h=>h
 | n+1,out,h=>by
  unfold zw8;by_cases h0:0<=zc9 N (zus N Pr out)
  ·rw[if_pos h0];have hj:=(zsb h0).1;have hp:=qhl h0 hj;refine zmq N Pr n _ ?_;rw[za2 hj];generalize N[(zc9 N (zus N Pr out)).toNat]=x at hp;unfold zus at hp;rw[Qc,Jk,List.contains_eq_mem,Kz]at hp;refine Ka.2 ⟨h,by simp,fun a ha b hb=>?_⟩;rw[Kg]at hb;subst hb;rintro rfl;exact hp.1 ha
  ·rw[if_neg h0];exact h
theorem zz3 (e:Ex)(pos:Bool)(ok:Bool):(eoR e pos ok).Nodup:=by
 unfold eoR arS
 split
 ·exact zmq _ _ _ _ Kf
 ·exact Kf
theorem qhx (code:List UInt8):RC Tryz.prog 5 [.one (zou code)] [bD true]:=by
 have HB:=vBig_c code
 by_cases hbig:(65536:Int)<code.length
 ·rw[show decide ((65536:Int)<code.length)=true by simpa using hbig]at HB;refine zrp Tryz.call5 Tryz.func5 rfl Ys (zaz Ys) ?_;simp -implicitDefEqProofs only[go_sem,Tryz.results5];refine callF (HB) Yr ?_;simp -implicitDefEqProofs only[go_sem]
 rw[show decide ((65536:Int)<code.length)=false by simpa using hbig]at HB
 obtain⟨a,b,pos,o,hw,HD⟩:=qhr code
 have hff:(!(false==false))=false:=rfl
 have hff2:(false==false)=true:=rfl
 have htt:(!(true==true))=false:=rfl
 have HI:=zgd a b hw pos
 have HS:=zf1 a b hw pos
 simp only[exD,zae a,zae b,zae (mgR a b pos)]at HD HI HS
 cases hok:qff a b pos
 ·rw[hok]at HI HS;cases o
  all_goals
   refine zrp Tryz.call5 Tryz.func5 rfl Ys (zaz Ys) ?_;simp -implicitDefEqProofs only[go_sem,Tryz.results5];refine callF (HB) Yr ?_;simp -implicitDefEqProofs only[go_sem];refine callQ [] (HD) (by decide) Yr Yr ?_;simp -implicitDefEqProofs only[go_sem];refine callF (HI) Yr ?_;simp -implicitDefEqProofs only[go_sem];refine callF (HS) (by simp -implicitDefEqProofs only[go_sem,hff,hff2]) ?_;simp -implicitDefEqProofs only[go_sem,hff,hff2]
 ·rw[hok]at HI HS;have hmg:=hok;unfold qff at hmg;simp only[Qc]at hmg;obtain⟨⟨⟨⟨ha,hb⟩,h3⟩,h4⟩,hc⟩:=hmg;have hmr:mgR a b pos=(mrg a b pos).1:=by unfold mgR;rw[if_pos hok]
  rw[<-hmr]at hc;have hcw:(mgR a b pos).wt<=1048576:=Q9 (mgR_wt a b pos) hw;have HX:=zvn (mgR a b pos) hcw pos;have HL:=zvn a Yt pos;have HW:FC Tryz.prog 29 [exD a,bD pos] [.one (zbm (eoR a pos (zbx a pos))),bD (zbx a pos&&(arS a pos).2),bD (zbx a pos)]:=zjk a Yt pos;have HV:=zb1 (mgR a b pos) hcw pos;rw[zjr,hc]at HV;have hnd:=zz3 (mgR a b pos) pos (zbx (mgR a b pos) pos);have hxl:=qms (mgR a b pos) pos (zbx (mgR a b pos) pos);have hxn:=zdp (mgR a b pos);rw[hc]at HX hnd hxl;rw[ha]at HL HW;generalize eoR (mgR a b pos) pos true=X at HX hnd hxl;generalize eoR a pos true=L at HL HW;simp only[Qq]at HX HL HW;generalize (arS a pos).2=A at HL HW;generalize (arS (mgR a b pos) pos).2=C at HX;generalize mgR a b pos=c at *;simp only[exD,zae a,zae c]at HX HL HW HV;have hAA:(!(A==A))=false:=by simp
  have hLL:(!(((L.length:Nat):Int)==((L.length:Nat):Int)))=false:=by simp
  have hL2:(((L.length:Nat):Int) != ((L.length:Nat):Int))=false:=by simp
  cases o
  all_goals
   refine zrp Tryz.call5 Tryz.func5 rfl Ys (zaz Ys) ?_;simp -implicitDefEqProofs only[go_sem,Tryz.results5];refine callF (HB) Yr ?_;simp -implicitDefEqProofs only[go_sem];refine callQ [] (HD) (by decide) Yr Yr ?_;simp -implicitDefEqProofs only[go_sem];refine callF (HI) Yr ?_;simp -implicitDefEqProofs only[go_sem];refine callF (HS) (by simp -implicitDefEqProofs only[go_sem,htt]) ?_;simp -implicitDefEqProofs only[go_sem,htt];refine callF (HX) Yr ?_;simp -implicitDefEqProofs only[go_sem];refine callF (HL) Yr ?_;simp -implicitDefEqProofs only[go_sem];refine callF (HW) (by simp -implicitDefEqProofs only[go_sem,hAA,hLL,hL2,Qa]) ?_;simp -implicitDefEqProofs only[go_sem,hAA,hLL,hL2,Qa];refine callF (HV) Yr ?_;simp -implicitDefEqProofs only[go_sem];refine zaf (fun i:Nat=>hd [(10,vT (zbm X)),(19,vI i)] [] []) (fun i=>i<=X.length) (fun i=>X.length-i) 0 ?_ (Q1 _) ?_
   ·refine Wk.fzO 1792 ?_;simp -implicitDefEqProofs only[go_sem];refine zad ?_;simp -implicitDefEqProofs only[go_sem]
   ·intro i hi;by_cases hil:i<X.length
    ·have hwi:IntKind.i64.wrap ((i:Int)+1)=((i+1:Nat):Int):=zam Yt;simp -implicitDefEqProofs only[go_sem,hil,Qa];refine zaf (fun k:Nat=>hd [(10,vT (zbm X)),(19,vI i),(20,vI k)] [] []) (fun k=>k<=i) (fun k=>i-k) 0 (zad Yr) (Q1 _) ?_;intro k hk;by_cases hkl:k<i
     ·have hwk:IntKind.i64.wrap ((k:Int)+1)=((k+1:Nat):Int):=zam Yt;have hkx:k<X.length:=by omega
      have hne:(X[i]==X[k])=false:=by
       rw[Qy];intro h;have:=(List.getElem_inj hnd).1 h;omega
      simp -implicitDefEqProofs only[go_sem,hkl];refine drawn Ys ?_;simp -implicitDefEqProofs only[go_sem,hil,hkx,zac,Qa,hne];refine⟨Ys,k+1,hkl,Yt,zad ?_⟩;simp -implicitDefEqProofs only[go_sem];rw[hwk]
     ·simp -implicitDefEqProofs only[go_sem,hkl];refine⟨i+1,hil,Yt,zad ?_⟩;simp -implicitDefEqProofs only[go_sem];rw[hwi]
    ·simp -implicitDefEqProofs only[go_sem,hil,Qa]
theorem qi9 (code:List UInt8):FC Tryz.prog 5 [.one (zou code)] [bD true]:=qhg (qhx code)
end
end Go.Proofs.YtliiapbmkcbfaaaGreat
