/-
  The walk over plain data, and contracts of functions of the program and of its laws.
  Conditions: those that each theorem names.
-/
import Derived.Test.YtliiapbmkcbfaaaGreatQJ7
import Derived.Test.YtliiapbmkcbfaaaGreatQJ5
import Derived.Test.YtliiapbmkcbfaaaGreatQJ4
import Derived.Lib.Walk
import Derived.Lib.SliceRun
import Derived.Lib.AppendZeros
import Derived.Test.YtliiapbmkcbfaaaGreatQJ6
import Derived.Deep.LoopGhost
namespace Go.Proofs.YtliiapbmkcbfaaaGreat
set_option linter.unusedSimpArgs false
set_option linter.unusedVariables false
set_option linter.unusedSectionVars false
set_option maxRecDepth 4000
set_option maxHeartbeats 8000000
section
open Go.RowKit
def zbi:Ex->Bool->List Str:=Ex.fold fun f ts ps rs pos=>(if zax f pos=true then [(ts.getD 0 Tm.zero).name]else [])++((ps.zip rs).mapIdx fun i q=>q.2 (sgn f i pos)).flatten
theorem zfo (e:Ex)(pos:Bool):zbi e pos=(if zax e.form pos=true then [(e.terms.getD 0 Tm.zero).name]else [])++(e.parts.mapIdx fun i p=>zbi p (sgn e.form i pos)).flatten:=by
 cases e with
 | mk f ts ps =>
  conv=>lhs;unfold zbi;rw[Ex.fold_eq]
  simp only[zis];rfl
theorem zqu {f:Fm}(h:isQ f.op=true)(i:Nat)(pos:Bool):sgn f i pos=pos:=by
 have h8:f.op=8\/f.op=9:=by unfold isQ at h;rw[Jl,Ko,Ko]at h;exact h
 unfold sgn
 rcases h8 with e|e<;>rw[e]<;>cases pos<;>rfl
theorem zm1 (w:Nat->Nat):∀(l:List (List Str))(j:Nat),(∀i (h:i<l.length),l[i].length<=w (j+i))->l.flatten.length<=((List.range l.length).map fun i=>w (j+i)).sum
 | [],_,_=>by simp
 | x::l,j,h=>by
  have h0:=h 0 (by simp);rw[J9]at h0;have h0:x.length<=w j:=h0;have ih:=zm1 w l (j+1) fun i hi=>by
   have:=h (i+1) (by simpa using hi);rw[show j+1+i=j+(i+1) by omega];simpa using this
  have e:((List.range (x::l).length).map fun i=>w (j+i)).sum=w j+((List.range l.length).map fun i=>w (j+1+i)).sum:=by
   rw[Qb,List.range_succ_eq_map,Qi,Qz,Kh]
   congr 2
   refine Kk fun i _=>?_;show w (j+(i+1))=_
   rw[show j+(i+1)=j+1+i by omega]
  rw[e,Q4,Qh];omega
theorem zep:∀(e:Ex)(pos:Bool),(zbi e pos).length<=e.nodes:=zcp fun f ts ps ih pos=>by
 rw[zfo,Ex.nodes_eq]
 have hr:=zpi ps
 have key:=zm1 (fun i=>(ps.getD i (.mk (mkF 0 []) [] [])).nodes) (ps.mapIdx fun i p=>zbi p (sgn f i pos)) 0 fun i h=>by
  have hi:i<ps.length:=by simpa using h
  have:=ih ps[i] (Qd hi) (sgn f i pos);simp only[Q5,Q2];rw[List.getD_eq_getElem?_getD,List.getElem?_eq_getElem hi];exact this
 simp only[Jj,Q2]at key
 rw[hr]at key
 show((if zax f pos=true then [(ts.getD 0 Tm.zero).name]else [])++(ps.mapIdx fun i p=>zbi p (sgn f i pos)).flatten).length<=1+(ps.map Ex.nodes).sum
 rw[Qh]
 split
 ·rw[J4];omega
 ·rw[Qe];omega
theorem zbq {e:Ex}{pos:Bool}(h:zbe e pos=true):(∀i (hi:i<e.parts.length),zbe e.parts[i] (sgn e.form i pos)=true)/\(zax e.form pos=true->e.terms.length=1):=by
 rw[zc2]at h
 cases hq:isQ e.form.op
 ·rw[hq,if_neg (by simp),Qc,Qs]at h;refine⟨fun i hi=>?_,fun hs=>by unfold zax at hs;rw[hq]at hs;cases hs⟩;have:=h.2 _ (Qd (l:=e.parts.mapIdx fun i p=>(same p.form (e.form.parts.getD i (mkF 0 []))&&zbe p (sgn e.form i pos))) (n:=i) (by simpa using hi));simp only[Q5,id,Qc]at this;exact this.2
 ·rw[hq,if_pos rfl,Qc,Qc,Qs]at h;refine⟨fun i hi=>?_,fun hs=>?_⟩
  ·have:=h.2 _ (Qd (l:=e.parts.mapIdx fun i p=>(zjq e.form e.terms i p&&zbe p pos)) (n:=i) (by simpa using hi));simp only[Q5,id,Qc]at this;rw[zqu hq];exact this.2
  ·have:=h.1.2;rw[hs]at this;simp only[Jr,Jf,Qc,Qr]at this;exact this.1
theorem zrz (e:Ex)(he:e.wt<=1048576)(pos:Bool)(hn:zbe e pos=true)(H:∀p∈e.parts,∀pos,zbe p pos=true->FC Tryz.prog 75 [exD p,bD pos] [.one (zbm (zbi p pos))]):FC Tryz.prog 75 [exD e,bD pos] [.one (zbm (zbi e pos))]:=by
 have hv:=zfo e pos
 have hW:=e.wt_eq
 have hln:=zep e pos
 have hen:=zdp e
 have HSt:=zd3 e.form pos
 have hse:(isQ e.form.op&&((e.form.op==8)==pos))=zax e.form pos:=rfl
 rw[hse]at HSt
 obtain⟨hpts,hst1⟩:=zbq hn
 rw[hv]
 rw[hv]at hln
 generalize hL:(e.parts.mapIdx fun i p=>zbi p (sgn e.form i pos))=L at hv hln⊢
 have hLl:L.length=e.parts.length:=by rw[<-hL,Jj]
 have hLf:L.flatten.length<=e.nodes:=by rw[Qh]at hln;omega
 have hgrow:∀k,((L.take k).flatten).length<=L.flatten.length:=fun k=>by
  have:=congrArg (fun l=>l.flatten.length) (K0 k L);simp only[Ke,Qh]at this;omega
 simp only[exD,zae,fmD,zab e.form]at HSt⊢
 cases hst:zax e.form pos
 ·rw[hst]at HSt hln;rw[hst]at hv;refine zak Tryz.call75 Tryz.func75 rfl Ys (zaz Ys) ?_;simp -implicitDefEqProofs only[go_sem,Tryz.results75];refine zap Yr ?_;simp -implicitDefEqProofs only[go_sem];refine callF (HSt) Yr ?_;simp -implicitDefEqProofs only[go_sem];refine zaf (fun k:Nat=>hd [(1,vT (.bool pos)),(2,.one (.bx 2 0)),(5,.one (.ow 224 0)),(6,vI k)] [(2,[.t (.int .i64 e.form.op),.t (.str e.form.atom.name),.t (tmS e.form.atom.args),.t (.str e.form.var),.t (fmS e.form.parts),.t (tmS e.terms),.t (exS e.parts)])] [(224,⟨true,1,(([]:List Str)++(L.take k).flatten).map fun s=>[.str s],0,true⟩)]) (fun k=>k<=e.parts.length) (fun k=>e.parts.length-k) 0 (zad ?_) (Q1 _) ?_
  ·simp -implicitDefEqProofs only[go_sem]
  ·intro k hk;by_cases hlt:k<e.parts.length
   ·have HPo:=zdr e.form k pos;have hsg:(pos != (e.form.op==4||(e.form.op==7&&((k:Int)==0))))=sgn e.form k pos:=rfl;rw[hsg]at HPo;have HC:=H e.parts[k] (Qd hlt) (sgn e.form k pos) (hpts k hlt);have hgk:=hgrow k;have hLk:L[k]'Yt=zbi e.parts[k] (sgn e.form k pos):=by simp only[<-hL,Q5]
    simp only[fmD,zab e.form,exD,zae e.parts[k]]at HPo HC;have hg2:=hgrow (k+1);have e9:(L.take (k+1)).flatten=(L.take k).flatten++zbi e.parts[k] (sgn e.form k pos):=by
     rw[Qj Yt,Ke,hLk];simp
    rw[e9,Qh]at hg2;have hap:(L.take k).flatten.length+(zbi e.parts[k] (sgn e.form k pos)).length<=4294967296:=by omega
    have hap2:(L.take k).flatten.length+1+(zbi e.parts[k] (sgn e.form k pos)).length<=4294967296:=by omega
    simp -implicitDefEqProofs only[go_sem,hlt];refine drawn Ys ?_;simp -implicitDefEqProofs only[go_sem,hlt,zac,zae e.parts[k]];refine zaj (HPo) Yr ?_;simp -implicitDefEqProofs only[go_sem];refine zaj (HC) Yr ?_;simp -implicitDefEqProofs only[go_sem];refine zek true (by simp -implicitDefEqProofs only[go_sem,ne_eq,Qa,hap,hap2]) ?_;simp -implicitDefEqProofs only[go_sem,ne_eq,Qa,hap,hap2];refine⟨Ys,k+1,hlt,Yt,zad ?_⟩;simp -implicitDefEqProofs only[go_sem];rw[zam Yt,e9,Qt];exact⟨rfl,rfl⟩
   ·have htk:(L.take k)=L:=Qm Yt;simp -implicitDefEqProofs only[go_sem,hlt,htk]
 ·rw[hst]at HSt hln;rw[hst]at hv;obtain⟨t,ht⟩:=Jb.1 (hst1 hst);have h1:e.terms.length=1:=hst1 hst;have hgd:e.terms.getD 0 Tm.zero=t:=by rw[ht];rfl
  have e0:(List.map tmC e.terms).getD 0 []=tmC t:=by rw[ht];rfl
  rw[hgd];rw[hgd]at hln;refine zak Tryz.call75 Tryz.func75 rfl Ys (zaz Ys) ?_;simp -implicitDefEqProofs only[go_sem,Tryz.results75];refine zap Yr ?_;simp -implicitDefEqProofs only[go_sem];refine callF (HSt) (by simp -implicitDefEqProofs only[go_sem,h1,e0,zaa t]) ?_;simp -implicitDefEqProofs only[go_sem,h1,e0,zaa t];refine zap Yr ?_;simp -implicitDefEqProofs only[go_sem];refine apD true (by simp -implicitDefEqProofs only[go_sem,ne_eq]) ?_;simp -implicitDefEqProofs only[go_sem,ne_eq];refine zaf (fun k:Nat=>hd [(1,vT (.bool pos)),(2,.one (.bx 2 0)),(5,.one (.ow 224 0)),(6,vI k)] [(2,[.t (.int .i64 e.form.op),.t (.str e.form.atom.name),.t (tmS e.form.atom.args),.t (.str e.form.var),.t (fmS e.form.parts),.t (tmS e.terms),.t (exS e.parts)])] [(224,⟨true,1,([t.name]++(L.take k).flatten).map fun s=>[.str s],0,true⟩)]) (fun k=>k<=e.parts.length) (fun k=>e.parts.length-k) 0 (zad ?_) (Q1 _) ?_
  ·simp -implicitDefEqProofs only[go_sem]
  ·intro k hk;by_cases hlt:k<e.parts.length
   ·have HPo:=zdr e.form k pos;have hsg:(pos != (e.form.op==4||(e.form.op==7&&((k:Int)==0))))=sgn e.form k pos:=rfl;rw[hsg]at HPo;have HC:=H e.parts[k] (Qd hlt) (sgn e.form k pos) (hpts k hlt);have hgk:=hgrow k;have hLk:L[k]'Yt=zbi e.parts[k] (sgn e.form k pos):=by simp only[<-hL,Q5]
    simp only[fmD,zab e.form,exD,zae e.parts[k]]at HPo HC;have hg2:=hgrow (k+1);have e9:(L.take (k+1)).flatten=(L.take k).flatten++zbi e.parts[k] (sgn e.form k pos):=by
     rw[Qj Yt,Ke,hLk];simp
    rw[e9,Qh]at hg2;have hap:(L.take k).flatten.length+(zbi e.parts[k] (sgn e.form k pos)).length<=4294967296:=by omega
    have hap2:(L.take k).flatten.length+1+(zbi e.parts[k] (sgn e.form k pos)).length<=4294967296:=by omega
    simp -implicitDefEqProofs only[go_sem,hlt];refine drawn Ys ?_;simp -implicitDefEqProofs only[go_sem,hlt,zac,zae e.parts[k]];refine zaj (HPo) Yr ?_;simp -implicitDefEqProofs only[go_sem];refine zaj (HC) Yr ?_;simp -implicitDefEqProofs only[go_sem];refine zek true (by simp -implicitDefEqProofs only[go_sem,ne_eq,Qa,hap,hap2]) ?_;simp -implicitDefEqProofs only[go_sem,ne_eq,Qa,hap,hap2];refine⟨Ys,k+1,hlt,Yt,zad ?_⟩;simp -implicitDefEqProofs only[go_sem];rw[zam Yt,e9,Qt];exact⟨rfl,rfl⟩
   ·have htk:(L.take k)=L:=Qm Yt;simp -implicitDefEqProofs only[go_sem,hlt,htk]
end
section
open Go.RowKit
theorem zl0:∀e:Ex,e.wt<=1048576->∀pos,zbe e pos=true->FC Tryz.prog 75 [exD e,bD pos] [.one (zbm (zbi e pos))] :=
 zcp fun f ts ps ih he pos hn=>zrz (.mk f ts ps) he pos hn fun p hp pos hn=>ih p hp (Q9 (zci (a:=.mk f ts ps) hp) he) pos hn
theorem zz7:∀e:Ex,e.wt<=1048576->e.form.forms=true->∀pos,zjg e pos :=
 zcp fun f ts ps ih he hf pos=>zxs (.mk f ts ps) he hf (fun p hp hpf pos=>ih p hp (Q9 (zci (a:=.mk f ts ps) hp) he) hpf pos) pos
noncomputable def zbx (e:Ex)(pos:Bool):Bool:=e.form.good&&decide (e.nodes<=60)&&zbe e pos&&dec ((zbi e pos).Nodup/\∀n∈zbi e pos,n∉zbb [] (vf e.form []))
theorem zg9 (e:Ex)(he:e.wt<=1048576)(pos:Bool):FC Tryz.prog 42 [exD e,bD pos] [bD (zbx e pos)]:=by
 have hv:zbx e pos=(e.form.good&&decide (e.nodes<=60)&&zbe e pos&&dec ((zbi e pos).Nodup/\∀n∈zbi e pos,n∉zbb [] (vf e.form []))):=rfl
 have HN:=qeo e Yt 60 Yt Yt
 have hs:decide (zen e 60<=60)=decide (e.nodes<=60):=qjs e 60
 have hfw:=zte e
 have HG:=ztp e.form Yt
 simp only[exD,zae,fmD,zab]at HN HG⊢
 cases hg:e.form.good
 ·rw[hg,Ql,Ql,Ql]at hv;rw[hv];rw[hg]at HG;refine zak Tryz.call42 Tryz.func42 rfl Ys (zaz Ys) ?_;simp -implicitDefEqProofs only[go_sem,Tryz.results42];refine callF (HG) Yr ?_;simp -implicitDefEqProofs only[go_sem]
 ·rw[hg,Qq]at hv;rw[hg]at HG;cases hn:decide (e.nodes<=60)
  ·have hs2:decide (60<zen e 60)=true:=by rw[hn]at hs;rw[Qr];rw[Kz]at hs;omega
   rw[hn,Ql,Ql]at hv;rw[hv];refine zak Tryz.call42 Tryz.func42 rfl Ys (zaz Ys) ?_;simp -implicitDefEqProofs only[go_sem,Tryz.results42];refine callF (HG) Yr ?_;simp -implicitDefEqProofs only[go_sem];refine callF (HN) (by simp -implicitDefEqProofs only[go_sem,hs2]) ?_;simp -implicitDefEqProofs only[go_sem,hs2]
  ·have hs2:decide (60<zen e 60)=false:=by rw[hn]at hs;rw[Kz];rw[Qr]at hs;omega
   rw[hn,Qq]at hv;have HD:=zz7 e he (ze2 hg) pos;unfold zjg at HD;simp only[exD,zae]at HD;cases hnd:zbe e pos
   ·rw[hnd,Ql]at hv;rw[hv];rw[hnd]at HD;refine zak Tryz.call42 Tryz.func42 rfl Ys (zaz Ys) ?_;simp -implicitDefEqProofs only[go_sem,Tryz.results42];refine callF (HG) Yr ?_;simp -implicitDefEqProofs only[go_sem];refine callF (HN) (by simp -implicitDefEqProofs only[go_sem,hs2]) ?_;simp -implicitDefEqProofs only[go_sem,hs2];refine callF (HD) Yr ?_;simp -implicitDefEqProofs only[go_sem]
   ·rw[hnd,Qq]at hv;rw[hnd]at HD;have HM:=zl0 e he pos hnd;have HF:=zu3 e.form (ze2 hg) Yt;have hnl:=zep e pos;have hen:=zdp e;generalize zbi e pos=ns at hv HM hnl;generalize zbb [] (vf e.form [])=V at hv HF;simp only[exD,zae,fmD,zab]at HM HF;refine zdw Tryz.call42 Tryz.func42 rfl Ys (zaz Ys) ?_;simp -implicitDefEqProofs only[go_sem,Tryz.results42];refine callF (HG) Yr ?_;simp -implicitDefEqProofs only[go_sem];refine callF (HN) (by simp -implicitDefEqProofs only[go_sem,hs2]) ?_;simp -implicitDefEqProofs only[go_sem,hs2];refine callF (HD) Yr ?_;simp -implicitDefEqProofs only[go_sem];refine zku (HM) Yr ?_;simp -implicitDefEqProofs only[go_sem];refine zku (HF) Yr ?_;simp -implicitDefEqProofs only[go_sem];refine zaf (fun k:Nat=>hd [(5,.one (.rn (zbm ns))),(6,.one (.rn (zbm V))),(7,vI k)] [] []) (fun k=>k<=ns.length/\(ns.take k).Nodup/\∀n∈ns.take k,n∉V) (fun k=>ns.length-k) 0 (zad ?_) ⟨Q1 _,Kf,by simp⟩ ?_
    ·simp -implicitDefEqProofs only[go_sem]
    ·rintro k ⟨hk,hT,hT2⟩;by_cases hlt:k<ns.length
     ·have H1:=zjd (ns.take k) ns[k];have H2:=zjd V ns[k];have eT:zbm (ns.take k)=.sl 1 ((ns.map fun s=>[T.str s]).take k):=by unfold zbm;rw[List.map_take]
      rw[eT]at H1;cases h1:(ns.take k).contains ns[k]
      ·rw[h1]at H1;cases h2:V.contains ns[k]
       ·rw[h2]at H2;simp -implicitDefEqProofs only[go_sem,hlt];refine drawn Ys ?_;simp -implicitDefEqProofs only[go_sem,zac,hlt];refine⟨hk,?_⟩;refine zaj (H1) (by simp -implicitDefEqProofs only[go_sem,zac,hlt]) ?_;simp -implicitDefEqProofs only[go_sem,zac,hlt];refine zbk (H2) Yr ?_;simp -implicitDefEqProofs only[go_sem];refine⟨Ys,k+1,⟨hlt,?_,?_⟩,Yt,zad ?_⟩
        ·rw[Qj hlt,Ka];refine⟨hT,by simp,?_⟩;rintro a ha b hb rfl;rw[Kg]at hb;subst hb;rw[Kd.2 ha]at h1;cases h1
        ·intro n hn;rw[Qj hlt]at hn;rcases Qv.1 hn with hn|hn
         ·exact hT2 n hn
         ·rw[Kg]at hn;subst hn;intro hm;rw[Kd.2 hm]at h2;cases h2
        ·simp -implicitDefEqProofs only[go_sem];rw[zam Yt]
       ·rw[h2]at H2;have hbad:dec (ns.Nodup/\∀n∈ns,n∉V)=false:=zu5.2 fun h=>h.2 _ (Qd hlt) (Kd.1 h2);rw[hv,hbad];simp -implicitDefEqProofs only[go_sem,hlt];refine drawn Ys ?_;simp -implicitDefEqProofs only[go_sem,zac,hlt];refine⟨hk,?_⟩;refine zaj (H1) (by simp -implicitDefEqProofs only[go_sem,zac,hlt]) ?_;simp -implicitDefEqProofs only[go_sem,zac,hlt];refine zbk (H2) Yr ?_;simp -implicitDefEqProofs only[go_sem];kernel_rfl
      ·rw[h1]at H1;have hbad:dec (ns.Nodup/\∀n∈ns,n∉V)=false:=zu5.2 fun h=>by
        have h3:=h.1.sublist (List.take_sublist (k+1) ns);rw[Qj hlt,Ka]at h3;exact h3.2.2 _ (Kd.1 h1) _ (by simp) rfl
       rw[hv,hbad];simp -implicitDefEqProofs only[go_sem,hlt];refine drawn Ys ?_;simp -implicitDefEqProofs only[go_sem,zac,hlt];refine⟨hk,?_⟩;refine zaj (H1) (by simp -implicitDefEqProofs only[go_sem,zac,hlt]) ?_;simp -implicitDefEqProofs only[go_sem,zac,hlt];kernel_rfl
     ·rw[Qm Yt]at hT hT2;rw[show dec (ns.Nodup/\∀n∈ns,n∉V)=true from zg1.2 ⟨hT,hT2⟩]at hv;rw[hv];simp -implicitDefEqProofs only[go_sem,hlt]
end
section
open Go.RowKit
theorem zlv (xs:List Str)(p:Str->Bool)(g:FuncId)(caps:List T)(H:∀x∈xs,FC Tryz.prog g (sD x::caps.map .one) [bD (p x)]):FC Tryz.prog 156 [.one (zbm xs),.one (.fn g caps)] [iD (zc9 xs p)]:=by
 refine zfp (fun hw=>?_) Tryz.call156
 have hl:xs.length<=9223372036854775807:=by simpa[zlj,wfT]using hw.1.1
 refine zak Tryz.call156 Tryz.func156 rfl Ys (zaz Ys) ?_
 simp -implicitDefEqProofs only[go_sem,Tryz.results156]
 refine zaf (fun k:Nat=>hd [(0,vT (zbm xs)),(1,vT (.fn g caps)),(7,vI xs.length),(8,vI k)] [] []) (fun k=>k<=xs.length/\∀x∈xs.take k,p x=false) (fun k=>xs.length-k) 0 (zad ?_) ?_ ?_
 ·simp -implicitDefEqProofs only[go_sem]
 ·simp
 ·intro k ⟨hk,hr⟩;by_cases hlt:k<xs.length
  ·simp -implicitDefEqProofs only[go_sem,zac,hlt,ne_eq];refine callF (H xs[k] (Qd hlt)) (by simp -implicitDefEqProofs only[go_sem,ne_eq]) ?_;simp -implicitDefEqProofs only[go_sem,ne_eq];refine⟨fun h=>?_,fun h=>⟨k+1,⟨hlt,zcd hlt hr h⟩,Yt,zad (by simp -implicitDefEqProofs only[go_sem];rw[zam Yt])⟩⟩;rw[zcy hlt hr h]
  ·simp -implicitDefEqProofs only[go_sem,hlt];rw[Qm Yt]at hr;rw[zd9 hr]
theorem ziw (xs:List Str)(p:Str->Bool)(g:FuncId)(caps:List T)(H:∀x∈xs,FC Tryz.prog g (sD x::caps.map .one) [bD (p x)]):FC Tryz.prog 82 [.one (zbm xs),.one (.fn g caps)] [bD (xs.any p)]:=by
 refine zak Tryz.call82 Tryz.func82 rfl Ys (zaz Ys) ?_
 simp -implicitDefEqProofs only[go_sem,Tryz.results82]
 refine callF (zlv xs p g caps H) Yr ?_
 simp -implicitDefEqProofs only[go_sem]
 rw[zez]
end
section
open Go.RowKit
noncomputable def qg3 (e:Ex)(pos:Bool):Bool:=decide (e.nodes<=60)&&e.form.good&&(zb5 e pos []).1&&!((zb5 e pos []).2.any fun n=>(zbb [] (vf e.form [])).contains n)
theorem zoo (V:List Str)(s:Str):FC Tryz.prog 83 [sD s,.one (.ptr [zbm V])] [bD (V.contains s)]:=by
 have H:=zbu V s
 refine zak Tryz.call83 Tryz.func83 rfl Ys (zaz Ys) ?_
 simp -implicitDefEqProofs only[go_sem,Tryz.results83]
 refine callF (H) Yr ?_
 simp -implicitDefEqProofs only[go_sem]
theorem zb1 (e:Ex)(he:e.wt<=1048576)(pos:Bool):FC Tryz.prog 30 [exD e,bD pos] [bD (qg3 e pos)]:=by
 have hv:qg3 e pos=(decide (e.nodes<=60)&&e.form.good&&(zb5 e pos []).1&&!((zb5 e pos []).2.any fun n=>(zbb [] (vf e.form [])).contains n)):=rfl
 have HN:=zyu e Yt
 have hs:=qgi e
 have hfw:=zte e
 have HG:=zc1 e.form Yt
 simp only[exD,zae,fmD,zab]at HN HG⊢
 cases hn:decide (e.nodes<=60)
 ·have hs2:decide (60<ze7 e)=true:=by rw[hn]at hs;rw[Qr];rw[Kz]at hs;omega
  rw[hn,Ql,Ql,Ql]at hv;rw[hv];refine zdw Tryz.call30 Tryz.func30 rfl Ys (zaz Ys) ?_;simp -implicitDefEqProofs only[go_sem,Tryz.results30];refine callF (HN) (by simp -implicitDefEqProofs only[go_sem,hs2]) ?_;simp -implicitDefEqProofs only[go_sem,hs2]
 ·have hs2:decide (60<ze7 e)=false:=by rw[hn]at hs;rw[Kz];rw[Qr]at hs;omega
  cases hg:e.form.good
  ·rw[hn,hg,Qq,Ql,Ql]at hv;rw[hv];rw[hg]at HG;refine zdw Tryz.call30 Tryz.func30 rfl Ys (zaz Ys) ?_;simp -implicitDefEqProofs only[go_sem,Tryz.results30];refine callF (HN) (by simp -implicitDefEqProofs only[go_sem,hs2]) ?_;simp -implicitDefEqProofs only[go_sem,hs2];refine callF (HG) Yr ?_;simp -implicitDefEqProofs only[go_sem]
  ·rw[hn,hg,Qq,Qq]at hv;rw[hg]at HG;have HF:=qjt e.form (ze2 hg) Yt;have hen:=zdp e;have HI:=node_c e he (ze2 hg) pos [] (by simp only[Qe];omega);unfold zs0 at HI;generalize (zb5 e pos []).1=b at hv HI;generalize (zb5 e pos []).2=E at hv HI;generalize zbb [] (vf e.form [])=V at hv HF;have HA:=ziw E (fun s=>V.contains s) 83 [.ptr [zbm V]] fun s _=>zoo V s;simp only[exD,zae,fmD,zab,Qk]at HI HF;refine zdw Tryz.call30 Tryz.func30 rfl Ys (zaz Ys) ?_;simp -implicitDefEqProofs only[go_sem,Tryz.results30];refine callF (HN) (by simp -implicitDefEqProofs only[go_sem,hs2]) ?_;simp -implicitDefEqProofs only[go_sem,hs2];refine callF (HG) Yr ?_;simp -implicitDefEqProofs only[go_sem];refine zku (HF) Yr ?_;simp -implicitDefEqProofs only[go_sem];refine zaq [4,5,6] [21,22,23] [17] [] (HI) (by decide) rfl Yr Yr Yr Yr ?_;simp -implicitDefEqProofs only[go_sem];refine⟨fun hb=>?_,fun hb=>Or.inl (by rw[hv,hb];rfl)⟩;refine callF (HA) Yr ?_;simp -implicitDefEqProofs only[go_sem];exact Or.inl (by rw[hv,hb];rfl)
end
section
open Go.RowKit
theorem zq1 (n:Str)(t:Tm):∀f:Fm,f.forms=true->(zbf n t f).2=true->(zbf n t f).1.nodes=f.nodes:=zb7 fun o a v ps ih hf h=>by
 have hP:=zk1 n t (.mk o a v ps)
 have hf0:=hf
 rw[Fm.forms_eq,Qc]at hf0
 obtain⟨hh,hps⟩:=hf0
 have hps:∀x∈ps,x.forms=true:=Qs.1 hps
 cases h3:o==3
 ·rw[hP]at h⊢
  change (if(o==3)=true then _ else if(isQ o&&_)=true then _ else if(isQ o&&_)=true then _ else (Fm.mk o (.mk [] []) v ((ps.takeWhile fun x=>(zbf n t x).2).map fun x=>(zbf n t x).1),ps.all fun x=>(zbf n t x).2):Fm×Bool).2=true at h
  change (if(o==3)=true then _ else if(isQ o&&_)=true then _ else if(isQ o&&_)=true then _ else (Fm.mk o (.mk [] []) v ((ps.takeWhile fun x=>(zbf n t x).2).map fun x=>(zbf n t x).1),ps.all fun x=>(zbf n t x).2):Fm×Bool).1.nodes=_
  rw[h3,if_neg (by simp)]at h⊢;split
  ·rfl
  ·rename_i h1;rw[if_neg h1]at h;split
   ·rename_i h2;rw[if_pos h2]at h;cases h
   ·rename_i h2;rw[if_neg h2]at h;have h1:(ps.all fun x=>(zbf n t x).2)=true:=h;have hA:=Qs.1 h1;have hw:(ps.takeWhile fun x=>(zbf n t x).2)=ps:=by
     have:=(zcw (l:=ps) (p:=fun x=>(zbf n t x).2) (k:=ps.length) (Qw _) (by rw[Kv];exact hA) fun h=>absurd h (Ya _)).1;rw[this,Kv]
    rw[hw];show(Fm.mk o (.mk [] []) v (ps.map fun x=>(zbf n t x).1)).nodes=_
    rw[Fm.nodes_eq,Fm.nodes_eq];show 1+((ps.map fun x=>(zbf n t x).1).map Fm.nodes).sum=1+(ps.map Fm.nodes).sum
    rw[Kh];show 1+(ps.map fun x=>(zbf n t x).1.nodes).sum=_
    rw[Kk (g:=Fm.nodes) fun x hx=>ih x hx (hps x hx) (hA x hx)]
 ·have ho3:o=3:=by simpa using h3
  obtain⟨_,hp⟩:=zge (f:=.mk o a v ps) hh ho3;have hp:ps=[]:=hp;rw[hP]
  change (if(o==3)=true then (Fm.mk o (zef (bnd n t) a) v [],(zef (bnd n t) a).atomOk)else _:Fm×Bool).1.nodes=_
  rw[h3,if_pos rfl,hp,Fm.nodes_eq,Fm.nodes_eq];rfl
theorem zpe {α:Type}(a b:α):same a b=same b a:=by
 rw[Kq,zbg,zbg];exact eq_comm
theorem sb_put (n:Str)(t:Tm)(q:Fm)(hq:q.good=true)(hn:za9 n=true)(ht:t.good=true)(g:Fm):((sbF n t q).2&&same (sbF n t q).1 g)=((zbf n t q).2&&same g (zbf n t q).1):=by
 have htn:t.names=true:=((Qc _ _).mp ht).2
 have hqf:=ze2 hq
 have h1:=qjn n t hn htn q hqf
 have h2:=qa8 n t hn htn q hqf
 unfold sbF
 rw[hq,hn,ht]
 simp only[Bool.and_self,Qq]
 rw[h1]
 cases hp:(zbf n t q).2
 ·simp only[Ql,Qn,if_false]
 ·have hpf:=zib n t q hqf hp;have hpg:(zbf n t q).1.good=true:=by
   unfold Fm.good at hq⊢;rw[Qc,Qr]at hq⊢;rw[zq1 n t q hqf hp];exact⟨hq.1,hpf⟩
  rw[hpg];simp only[Bool.and_self,if_true,Qq];rw[h2.2 hp hpf,zpe]
theorem zpb {f q:Fm}(h:f.good=true)(hm:q∈f.parts):q.good=true:=by
 unfold Fm.good at h⊢
 rw[Qc,Qr]at h⊢
 have hp:=zwt hm
 have:=h.2
 rw[Fm.forms_eq,Qc]at this
 exact⟨Yt,Qs.1 this.2 q hm⟩
theorem zqk:∀(L:List (Bool×(List Str->Bool×List Str)))(S:List (Bool×List Str))(hl:L.length=S.length)(E:List Str),E.Nodup->(∀i (h:i<L.length),L[i].1=true->∀E:List Str,E.Nodup->((L[i].2 E).1=true↔(S[i]'Yt).1=true/\(E++(S[i]'Yt).2).Nodup)/\((L[i].2 E).1=true->(L[i].2 E).2=E++(S[i]'Yt).2)) →
  ((zg3 L E).1=true↔(∀i (h:i<L.length),L[i].1=true/\(S[i]'Yt).1=true)/\(E++(S.map Prod.snd).flatten).Nodup)/\((zg3 L E).1=true->(zg3 L E).2=E++(S.map Prod.snd).flatten)
 | [],[],_,E,hE,_=>⟨⟨fun _=>⟨fun i h=>by simp at h,by simpa using hE⟩,fun _=>rfl⟩,fun _=>by simp[zg3]⟩
 | [],_::_,hl,_,_,_=>by simp at hl
 | _::_,[],hl,_,_,_=>by simp at hl
 | (c,g)::L,(s,N)::S,hl,E,hE,h=>by
  have hl':L.length=S.length:=by simpa using hl
  cases hc:c
  ·have:zg3 ((false,g)::L) E=(false,E):=rfl;rw[this];refine⟨⟨fun h=>(by cases h),fun h=>?_⟩,fun h=>(by cases h)⟩;have:=(h.1 0 (by simp)).1;cases this
  ·subst hc;obtain⟨k1,k2⟩:=h 0 (by simp) rfl E hE;have k1:(g E).1=true↔s=true/\(E++N).Nodup:=k1;have k2:(g E).1=true->(g E).2=E++N:=k2;cases hg:(g E).1
   ·have e0:zg3 ((true,g)::L) E=(false,(g E).2):=by unfold zg3;rw[if_pos rfl,hg,if_neg (by simp)]
    rw[e0];rw[hg]at k1;refine⟨⟨fun h=>(by cases h),fun h=>?_⟩,fun h=>(by cases h)⟩;have h1:=(h.1 0 (by simp)).2;have h2:(E++N).Nodup:=by
     have:=h.2;rw[Qi,Q4,<-Km]at this;exact(Ka.1 this).1
    exact(by have:=k1.2 ⟨h1,h2⟩;cases this)
   ·have e0:zg3 ((true,g)::L) E=zg3 L (g E).2:=by unfold zg3;rw[if_pos rfl,hg,if_pos rfl];cases L<;>rfl
    rw[e0,k2 hg];obtain⟨s1,n1⟩:=k1.1 hg;obtain⟨r1,r2⟩:=zqk L S hl' (E++N) n1 fun i hi hci E hE=>by
     have:=h (i+1) (by simpa using hi) (by simpa using hci) E hE;simpa using this
    rw[Qi,Q4,<-Km];refine⟨r1.trans ⟨fun⟨a,b⟩=>⟨fun i hi=>?_,b⟩,fun⟨a,b⟩=>⟨fun i hi=>?_,b⟩⟩,r2⟩
    ·cases i with
     | zero=>exact⟨rfl,s1⟩
     | succ i=>exact a i (by simpa using hi)
    ·exact a (i+1) (by simpa using hi)
end
section
open Go.RowKit
theorem ziy {ps:List Ex}(t:Nat->Ex->Bool)(s:Nat->Ex->Bool):(ps.mapIdx fun i p=>(t i p&&s i p)).all id=true↔∀i (h:i<ps.length),t i ps[i]=true/\s i ps[i]=true:=by
 rw[Qs]
 constructor
 ·intro h i hi;have:=h _ (Qd (l:=ps.mapIdx fun i p=>(t i p&&s i p)) (n:=i) (by simpa using hi));simpa only[Q5,id,Qc]using this
 ·intro h x hx;obtain⟨i,hi,rfl⟩:=Jv hx;have hi':i<ps.length:=by simpa using hi
  simp only[Q5,id,Qc];exact h i hi'
theorem zm0 (ps:List Ex)(t:Nat->Ex->Bool)(sg:Nat->Bool)(ih:∀i (h:i<ps.length),t i ps[i]=true->∀E:List Str,E.Nodup->((zb5 ps[i] (sg i) E).1=true↔zbe ps[i] (sg i)=true/\(E++zbi ps[i] (sg i)).Nodup)/\((zb5 ps[i] (sg i) E).1=true->(zb5 ps[i] (sg i) E).2=E++zbi ps[i] (sg i)))(E:List Str)(hE:E.Nodup) :
  ((zg3 (ps.mapIdx fun i p=>(t i p,zb5 p (sg i))) E).1=true↔(ps.mapIdx fun i p=>(t i p&&zbe p (sg i))).all id=true/\(E++(ps.mapIdx fun i p=>zbi p (sg i)).flatten).Nodup)/\((zg3 (ps.mapIdx fun i p=>(t i p,zb5 p (sg i))) E).1=true->(zg3 (ps.mapIdx fun i p=>(t i p,zb5 p (sg i))) E).2=E++(ps.mapIdx fun i p=>zbi p (sg i)).flatten):=by
 have h:=zqk (ps.mapIdx fun i p=>(t i p,zb5 p (sg i))) (ps.mapIdx fun i p=>(zbe p (sg i),zbi p (sg i))) (by simp) E hE fun i hi hc E hE=>by
  have hi':i<ps.length:=by simpa using hi
  simp only[Q5]at hc⊢;exact ih i hi' hc E hE
 have em:(ps.mapIdx fun i p=>(zbe p (sg i),zbi p (sg i))).map Prod.snd=ps.mapIdx fun i p=>zbi p (sg i):=by
  refine List.ext_getElem? fun i=>?_;simp only[List.getElem?_map,List.getElem?_mapIdx,Option.map_map,K8]
 rw[em]at h
 refine⟨h.1.trans (and_congr_left fun _=>?_),h.2⟩
 rw[ziy]
 constructor
 ·intro a i hi;have:=a i (by simpa using hi);simpa only[Q5]using this
 ·intro a i hi;have:=a i (by simpa using hi);simpa only[Q5]using this
theorem qd0:∀e:Ex,e.form.good=true->∀pos (E:List Str),E.Nodup->((zb5 e pos E).1=true↔zbe e pos=true/\(E++zbi e pos).Nodup)/\((zb5 e pos E).1=true->(zb5 e pos E).2=E++zbi e pos):=zcp fun f ts ps ih hg pos E hE=>by
 rw[zn4,zc2,zfo]
 have hg:f.good=true:=hg
 have eF:(Ex.mk f ts ps).form=f:=rfl
 have eT:(Ex.mk f ts ps).terms=ts:=rfl
 have eP:(Ex.mk f ts ps).parts=ps:=rfl
 simp only[eF,eT,eP]
 cases hq:isQ f.op
 ·have hst:zax f pos=false:=by unfold zax;rw[hq];rfl
  rw[hst];simp only[Qn,if_false,Ki];by_cases hc:ts.length=0/\ps.length=f.parts.length
  ·rw[if_pos hc]
   have h:=zm0 ps (zyj f) (fun i=>sgn f i pos) (fun i hi ht E hE=>ih ps[i] (Qd hi) (by
    have hif:i<f.parts.length:=by omega
    unfold zyj at ht;rw[za2 hif]at ht;rw[<-zbg.1 ht]
    exact zpb hg (Qd hif)) _ E hE) E hE
   rw[show decide (ts.length=0)=true by simp[hc.1],show decide (ps.length=f.parts.length)=true by simp[hc.2],Qq,Qq];have e1:(fun(i:Nat) (p:Ex)=>(same p.form (f.parts.getD i (mkF 0 []))&&zbe p (sgn f i pos)))=fun i p=>(zyj f i p&&zbe p (sgn f i pos)):=by
    funext i p;unfold zyj;rw[zpe]
   rw[e1];exact h
  ·rw[if_neg hc];refine⟨⟨fun h=>(by cases h),fun h=>?_⟩,fun h=>(by cases h)⟩;have h:=h.1;simp only[Qc,Qr]at h;exact absurd h.1 hc
 ·obtain⟨q,hp,hqf⟩:=zk2 hq (ze2 hg);have hqg:q.good=true:=zpb hg (by rw[hp];simp);have hvar:za9 f.var=true:=by
   have:=ze2 hg;rw[Fm.forms_eq,Qc]at this;exact qbd this.1 hq
  have esg:(fun(i:Nat) (p:Ex)=>zbi p (sgn f i pos))=fun i p=>zbi p pos:=by funext i p;rw[zqu hq]
  have hse:zax f pos=((f.op==8)==pos):=by unfold zax;rw[hq,Qq]
  simp only[if_true];rw[esg];have core:TOk ts->ts.length=ps.length->∀E1:List Str,E1.Nodup->((zg3 (ps.mapIdx fun i p=>(zwp f ts i p,zb5 p pos)) E1).1=true↔(ps.mapIdx fun i p=>(zjq f ts i p&&zbe p pos)).all id=true/\(E1++(ps.mapIdx fun i p=>zbi p pos).flatten).Nodup)/\((zg3 (ps.mapIdx fun i p=>(zwp f ts i p,zb5 p pos)) E1).1=true->(zg3 (ps.mapIdx fun i p=>(zwp f ts i p,zb5 p pos)) E1).2=E1++(ps.mapIdx fun i p=>zbi p pos).flatten):=fun hT hl E1 hE1=>by
   have et:∀i (h:i<ps.length),zwp f ts i ps[i]=zjq f ts i ps[i]:=fun i hi=>by
    have hit:i<ts.length:=by omega
    obtain⟨g1,g2⟩:=hT i hit;have hpq:f.parts.getD 0 (mkF 0 [])=q:=by
     have hp:f.parts=[q]:=hp;rw[hp];rfl
    unfold zwp zjq;rw[za2 hit,hpq,sb_put f.var ts[i] q hqg hvar g1,g1,g2];simp only[Jp,Bool.and_self,Qq]
   have em:(ps.mapIdx fun i p=>(zwp f ts i p,zb5 p pos))=ps.mapIdx fun i p=>(zjq f ts i p,zb5 p pos):=by
    refine Yb (by simp) fun i h1 h2=>?_;simp only[Q5];rw[et i (by simpa using h1)]
   rw[em];refine zm0 ps (zjq f ts) (fun _=>pos) (fun i hi ht E hE=>ih ps[i] (Qd hi) ?_ _ E hE) E1 hE1;have hit:i<ts.length:=by omega
   have hpq:f.parts.getD 0 (mkF 0 [])=q:=by
    have hp:f.parts=[q]:=hp;rw[hp];rfl
   unfold zjq at ht;rw[za2 hit,hpq]at ht;simp only[Qc]at ht;rw[zbg.1 ht.2];unfold Fm.good at hqg⊢;rw[Qc,Qr]at hqg⊢;rw[zq1 _ _ q hqf ht.1.2];exact⟨hqg.1,zib _ _ q hqf ht.1.2⟩
  have hTS:ts.length=ps.length->(ps.mapIdx fun i p=>(zjq f ts i p&&zbe p pos)).all id=true->TOk ts:=fun hl h k hk=>by
   have h:=(ziy (zjq f ts) (fun _ p=>zbe p pos)).1 h k Yt;have h:=h.1;unfold zjq at h;rw[za2 hk]at h;simp only[Qc,Jk]at h;exact⟨h.1.1.1,h.1.1.2⟩
  unfold zcb;simp only[eF,eT,eP];cases hd:dec (TOk ts)
  ·rw[if_neg (by simp)];simp only[Qn,if_false,false_iff,false_implies,and_true];rintro⟨h1,_⟩;simp only[Qc,Qr]at h1;exact zu5.1 hd (hTS h1.1.1 h1.2)
  ·have hT:TOk ts:=zg1.1 hd;rw[if_pos rfl,<-hse];cases hst:zax f pos
   ·simp only[Qn,if_false,Jp,Bool.true_or,Yh,Ki];by_cases hl:ps.length=ts.length
    ·have hl':ts.length=ps.length:=hl.symm;rw[show decide (ps.length=ts.length)=true by simp[hl],show decide (ts.length=ps.length)=true by simp[hl'],if_pos rfl,Qq];exact core hT hl' E hE
    ·rw[show decide (ps.length=ts.length)=false by simp[hl],show decide (ts.length=ps.length)=false by simp;omega];simp
   ·simp only[if_true,Jr,Jf];have hbad:ts.length≠1->∀X:Prop,¬((decide (ts.length=ps.length)&&(decide (ts.length=1)&&za9 (ts.getD 0 Tm.zero).name)&&(ps.mapIdx fun i p=>(zjq f ts i p&&zbe p pos)).all id)=true/\X):=fun h X hh=>by
     have:=hh.1;simp only[Qc,Qr]at this;exact h this.1.2.1
    match ts,hT,core,hbad with
    | [],_,_,hbad=>exact⟨⟨fun h=>(by cases h),fun h=>absurd h (hbad (by simp) _)⟩,fun h=>(by cases h)⟩
    | _::_::_,_,_,hbad=>exact⟨⟨fun h=>(by cases h),fun h=>absurd h (hbad (by simp) _)⟩,fun h=>(by cases h)⟩
    | [t],hT,core,_ =>
     have e0:([t].getD 0 Tm.zero)=t:=rfl;simp only[e0,J4,decide_true,Qq];cases hv:za9 t.name
     ·simp only[Ql,Qn,if_false,Q6,false_and,iff_false,Ye,false_implies,and_self]
     ·cases hcn:E.contains t.name
      ·have hn:t.name∉E:=fun hm=>by rw[Kd.2 hm]at hcn;cases hcn
       have hE1:(E++[t.name]).Nodup:=by
        rw[Ka];refine⟨hE,by simp,?_⟩;rintro a ha b hb rfl;rw[Kg]at hb;subst hb;exact hn ha
       by_cases hl:ps.length=1
       ·simp only[Qq,Jp,if_true,hl,decide_true,Yh];have:=core hT hl.symm (E++[t.name]) hE1;rw[Km]at this;exact this
       ·have hl2:¬1=ps.length:=fun h=>hl h.symm;simp only[Qq,Jp,if_true,hl,hl2,decide_false,Qn,if_false,Ql,false_and,iff_false,Ye,false_implies,and_self]
      ·simp only[Jr,Q6,Qn,if_false,false_iff,false_implies,and_true];rintro⟨_,h⟩;have hm:t.name∈E:=Kd.1 hcn;have:=(Ka.1 h).2.2 _ hm t.name (by simp);exact this rfl
theorem zjr (e:Ex)(pos:Bool):qg3 e pos=zbx e pos:=by
 unfold qg3 zbx
 cases hg:e.form.good
 ·simp
 ·obtain⟨h1,h2⟩:=qd0 e hg pos [] Kf;rw[Ki]at h1 h2;cases hn:decide (e.nodes<=60)
  ·simp
  ·simp only[Qq];rw[Kq,Qc,Qc,h1,zg1];constructor
   ·rintro⟨⟨a,b⟩,c⟩;refine⟨a,b,fun n hn hm=>?_⟩;rw[h2 (h1.2 ⟨a,b⟩),Jk,List.any_eq_false]at c;exact c n hn (Kd.2 hm)
   ·rintro⟨a,b,c⟩;refine⟨⟨a,b⟩,?_⟩;rw[h2 (h1.2 ⟨a,b⟩),Jk,List.any_eq_false];exact fun n hn hm=>c n hn (Kd.1 hm)
end
section
open Go.RowKit
theorem zkz {α β γ:Type}(f:β->γ)(g:Nat->α->β)(l:List α):(l.mapIdx g).map f=l.mapIdx fun i a=>f (g i a):=Yb (by simp) fun i h1 h2=>by simp
theorem zb9 {e:Ex}{pos:Bool}(h:zbe e pos=true):(isQ e.form.op=true->e.terms.length=e.parts.length)/\(isQ e.form.op=false->e.parts.length=e.form.parts.length):=by
 rw[zc2]at h
 cases hq:isQ e.form.op
 ·rw[hq,if_neg (by simp)]at h;simp only[Qc,Qr]at h;exact⟨fun h=>(by cases h),fun _=>h.1.2⟩
 ·rw[hq,if_pos rfl]at h;simp only[Qc,Qr]at h;exact⟨fun _=>h.1.1,fun h=>(by cases h)⟩
theorem zcv {e:Ex}{pos:Bool}(h:zbe e pos=true)(hs:zax e.form pos=true):e.terms.length=1/\e.parts.length=1:=by
 have h1:=(zbq h).2 hs
 have hq:isQ e.form.op=true:=by unfold zax at hs;rw[Qc]at hs;exact hs.1
 have:e.terms.length=e.parts.length:=by
  rw[zc2,hq,if_pos rfl]at h;simp only[Qc,Qr]at h;exact h.1.1
 omega
theorem zf5 {α β:Type}(ps:List α)(g h:Nat->α->β)(H:∀i (hi:i<ps.length),g i ps[i]=h i ps[i]):ps.mapIdx g=ps.mapIdx h:=by
 refine Yb (by simp) fun i h1 h2=>?_
 have hi:i<ps.length:=by simpa using h1
 simp only[Q5]
 exact H i hi
theorem zes {α:Type}{l:List α}(h:l.Nodup){i j:Nat}(hi:i<l.length)(hj:j<l.length)(e:l[i]=l[j]):i=j:=by
 rw[List.nodup_iff_pairwise_ne,List.pairwise_iff_getElem]at h
 rcases Nat.lt_trichotomy i j with h1|h1|h1
 ·exact absurd e (h i j hi hj h1)
 ·exact h1
 ·exact absurd e.symm (h j i hj hi h1)
theorem qgm {f:Fm}(h:f.here=true)(hq:isQ f.op=false):f.var=[]:=by
 unfold Fm.here at h
 rw[hq]at h
 simp only[Qn,if_false]at h
 (repeat' split at h)<;>first|(simp only[Qc,Ko]at h;exact h.2)|cases h
end
section
open Go.RowKit
abbrev Eg:=Str×List Str
def zlu:Ex->Bool->List Str->List Eg:=Ex.fold fun f ts ps rs pos ab=>((ps.zip rs).mapIdx fun i q =>
 if zax f pos=true then ((ts.getD i Tm.zero).name,ab)::q.2 (sgn f i pos) ab else q.2 (sgn f i pos) (if isQ f.op=true then ab++zbb [] (voI (ts.getD i Tm.zero))else ab)).flatten
theorem zs9 (e:Ex)(pos:Bool)(ab:List Str):zlu e pos ab=(e.parts.mapIdx fun i p =>
 if zax e.form pos=true then ((e.terms.getD i Tm.zero).name,ab)::zlu p (sgn e.form i pos) ab else zlu p (sgn e.form i pos) (if isQ e.form.op=true then ab++zbb [] (voI (e.terms.getD i Tm.zero))else ab)).flatten:=by
 cases e with
 | mk f ts ps =>
  conv=>lhs;unfold zlu;rw[Ex.fold_eq]
  simp only[zis];rfl
def zft:Ex->Bool->List Str->List (Str×Str):=Ex.fold fun f ts ps rs pos ab=>(if zax f pos=true then ab.map fun x=>(x,(ts.getD 0 Tm.zero).name)else []) ++
 ((ps.zip rs).mapIdx fun i q=>q.2 (sgn f i pos) (if(isQ f.op&&!zax f pos)=true then zbb ab (voS (ts.getD i Tm.zero))else ab)).flatten
theorem zok (e:Ex)(pos:Bool)(ab:List Str):zft e pos ab=(if zax e.form pos=true then ab.map fun x=>(x,(e.terms.getD 0 Tm.zero).name)else []) ++
 (e.parts.mapIdx fun i p=>zft p (sgn e.form i pos) (if(isQ e.form.op&&!zax e.form pos)=true then zbb ab (voS (e.terms.getD i Tm.zero))else ab)).flatten:=by
 cases e with
 | mk f ts ps =>
  conv=>lhs;unfold zft;rw[Ex.fold_eq]
  simp only[zis];rfl
theorem zm4:∀(e:Ex)(pos:Bool)(ab:List Str),zbe e pos=true->(zlu e pos ab).map Prod.fst=zbi e pos:=zcp fun f ts ps ih pos ab hn=>by
 rw[zs9,zfo,List.map_flatten,zkz]
 have hp:=(zbq hn).1
 have eF:(Ex.mk f ts ps).form=f:=rfl
 have eT:(Ex.mk f ts ps).terms=ts:=rfl
 have eP:(Ex.mk f ts ps).parts=ps:=rfl
 simp only[eF,eT,eP]at hp⊢
 cases hs:zax f pos
 ·simp only[Qn,if_false,Ki]
  congr 1
  exact zf5 _ _ _ fun i hi=>ih ps[i] (Qd hi) _ _ (hp i hi)
 ·obtain⟨_,h1⟩:=zcv hn hs;have h1:ps.length=1:=h1;obtain⟨p,rfl⟩:=Jb.1 h1;have h0:=ih p (by simp) (sgn f 0 pos) ab (hp 0 (by simp));simp only[if_true,List.mapIdx_cons,List.mapIdx_nil,Q4,Yd,Kj,Qi,h0];rfl
theorem zmh {l ss:List Str}{x:Str}:x∈zbb l ss↔x∈l\/x∈ss:=(zhm ss l x).trans or_comm
theorem zgs {a:Tm}(h:a.good=true):a.names=true:=by unfold Tm.good at h;rw[Qc]at h;exact h.2
theorem ze4 {e:Ex}{pos:Bool}(h:zbe e pos=true)(hq:isQ e.form.op=true):∀i,i<e.terms.length->(e.terms.getD i Tm.zero).good=true:=fun i hi=>by
 rw[zc2,hq,if_pos rfl]at h
 simp only[Qc,Qr]at h
 obtain⟨⟨hl,_⟩,h⟩:=h
 have hi':i<e.parts.length:=by omega
 have:=(ziy (ps:=e.parts) (fun i p=>zjq e.form e.terms i p) (fun i p=>zbe p pos)).1 h i hi'
 have:=this.1
 unfold zjq at this
 simp only[Qc]at this
 exact this.1.1.1
theorem qc0:∀(e:Ex)(pos:Bool)(ab ab':List Str),zbe e pos=true->(∀x,x∈ab'↔x∈ab)->∀x y,(x,y)∈zft e pos ab'↔∃a,(y,a)∈zlu e pos ab/\x∈a:=zcp fun f ts ps ih pos ab ab' hn hab x y=>by
 have hp:=(zbq hn).1
 have hl:=(zb9 hn).1
 have hg:=ze4 hn
 have hso:=zcv hn
 rw[zok,zs9]
 have eF:(Ex.mk f ts ps).form=f:=rfl
 have eT:(Ex.mk f ts ps).terms=ts:=rfl
 have eP:(Ex.mk f ts ps).parts=ps:=rfl
 simp only[eF,eT,eP]at hp hl hg hso⊢
 have mf:∀{β:Type} (g:Nat->Ex->List β) (z:β),z∈(ps.mapIdx g).flatten↔∃i,∃h:i<ps.length,z∈g i ps[i]:=fun g z=>by
  rw[List.mem_flatten];constructor
  ·rintro⟨l,hl,hz⟩;obtain⟨i,hi,rfl⟩:=Jv hl;have hi':i<ps.length:=by simpa using hi
   rw[Q5]at hz;exact⟨i,hi',hz⟩
  ·rintro⟨i,hi,hz⟩;exact⟨g i ps[i],by rw[Jh];exact⟨i,by simpa using hi,by simp⟩,hz⟩
 cases hs:zax f pos
 ·simp only[Qn,if_false,Ki,Jp,Yh];rw[mf];constructor
  ·rintro⟨i,hi,hm⟩;have hab2:∀z,z∈(if isQ f.op=true then zbb ab' (voS (ts.getD i Tm.zero))else ab')↔z∈(if isQ f.op=true then ab++zbb [] (voI (ts.getD i Tm.zero))else ab):=fun z=>by
    cases hq:isQ f.op
    ·simpa using hab z
    ·have hv:=zgk _ (zgs (hg hq i (by have:=hl hq;omega)));simp only[if_true,zmh,Qv,hv.1,hab z];simp
   obtain⟨a,h1,h2⟩:=(ih ps[i] (Qd hi) (sgn f i pos) _ _ (hp i hi) hab2 x y).1 hm;exact⟨a,(mf _ _).2 ⟨i,hi,h1⟩,h2⟩
  ·rintro⟨a,hm,hx⟩;obtain⟨i,hi,h1⟩:=(mf _ _).1 hm;have hab2:∀z,z∈(if isQ f.op=true then zbb ab' (voS (ts.getD i Tm.zero))else ab')↔z∈(if isQ f.op=true then ab++zbb [] (voI (ts.getD i Tm.zero))else ab):=fun z=>by
    cases hq:isQ f.op
    ·simpa using hab z
    ·have hv:=zgk _ (zgs (hg hq i (by have:=hl hq;omega)));simp only[if_true,zmh,Qv,hv.1,hab z];simp
   exact⟨i,hi,(ih ps[i] (Qd hi) (sgn f i pos) _ _ (hp i hi) hab2 x y).2 ⟨a,h1,hx⟩⟩
 ·obtain⟨h2,h1⟩:=hso hs;obtain⟨p,rfl⟩:=Jb.1 h1;have h0:=ih p (by simp) (sgn f 0 pos) ab ab' (hp 0 (by simp)) hab x y;simp only[if_true,Jr,Q6,Qn,if_false,List.mapIdx_cons,List.mapIdx_nil,Q4,Yd,Kj,Qv,Kn,Qu,h0];constructor
  ·rintro(⟨z,hz,e⟩|⟨a,h3,h4⟩)
   ·cases e;exact⟨ab,Or.inl rfl,(hab _).1 hz⟩
   ·exact⟨a,Or.inr h3,h4⟩
  ·rintro⟨a,h3|h3,h4⟩
   ·cases h3;exact Or.inl ⟨x,(hab x).2 h4,rfl⟩
   ·exact Or.inr ⟨a,h3,h4⟩
def ztj (L:List Eg)(out:List Str)(x:Eg):Bool:=!out.contains x.1&&!(L.any fun y=>x.2.contains y.1&&!out.contains y.1)
def zus (N:List Str)(Pr:List (Str×Str))(out:List Str)(n:Str):Bool:=!out.contains n&&!(Pr.any fun p=>p.2==n&&N.contains p.1&&!out.contains p.1)
theorem qhm {L:List Eg}{N:List Str}{Pr:List (Str×Str)}(hN:L.map Prod.fst=N)(hd:N.Nodup)(hP:∀x y,(x,y)∈Pr↔∃a,(y,a)∈L/\x∈a)(out:List Str){z:Eg}(hz:z∈L):ztj L out z=zus N Pr out z.1:=by
 have huni:∀a,(z.1,a)∈L->a=z.2:=fun a ha=>by
  rw[<-hN]at hd;obtain⟨i,hi,e1⟩:=Jh.1 ha;obtain⟨j,hj,e2⟩:=Jh.1 hz;have:i=j:=zes hd (by simpa using hi) (by simpa using hj) (by simp[e1,e2]);subst this;rw[e1]at e2;exact congrArg Prod.snd e2
 have key:(L.any fun y=>z.2.contains y.1&&!out.contains y.1)=(Pr.any fun p=>p.2==z.1&&N.contains p.1&&!out.contains p.1):=by
  rw[Kq,Yc,Yc];constructor
  ·rintro⟨y,hy,h⟩;rw[Qc,Kd]at h;refine⟨(y.1,z.1),(hP _ _).2 ⟨z.2,hz,h.1⟩,?_⟩;simp only[beq_self_eq_true,Qq,Qc,Kd];exact⟨by rw[<-hN];exact List.mem_map_of_mem hy,h.2⟩
  ·rintro⟨⟨x,y⟩,hp,h⟩;simp only[Qc,Ko,Kd]at h;obtain⟨⟨rfl,h1⟩,h2⟩:=h;obtain⟨a,h3,h4⟩:=(hP _ _).1 hp;obtain rfl:=huni a h3;rw[<-hN]at h1;obtain⟨w,hw,rfl⟩:=Kn.1 h1;exact⟨w,hw,by rw[Qc,Kd];exact⟨h4,h2⟩⟩
 unfold ztj zus
 rw[key]
end
section
open Go.RowKit
theorem zpl {f:Fm}{pos:Bool}(hq:isQ f.op=true):zax f pos=((f.op==8)==pos):=by unfold zax;rw[hq,Qq]
theorem zbr {e:Ex}{pos:Bool}(h:zbx e pos=true):e.form.good=true/\zbe e pos=true/\e.nodes<=60:=by
 unfold zbx at h
 simp only[Qc,Qr]at h
 exact⟨h.1.1.1,h.1.2,h.1.1.2⟩
end
section
open Go.RowKit
variable {P:Program}
def VDn (σ:St):List V->List D->Prop
 | [],ds=>ds=[]
 | v::vs,ds=>∃d ds',ds=d::ds'/\(VD σ v d\/∃s sz,v=.one (.nl s)/\d=.one (.pin (.slice none 0 0) (.sl sz [])))/\VDn σ vs ds'
theorem VD.rep1 {n0:Nat->Prop}{N:Nat}{σ:St}{g:Gh}{a:Act}{w:World}(hR:Rel n0 N σ g a w){x:V}{d:D}(h:VD σ x d){v:Value}(hv:VR σ g w x v):zys w (·<w.heap.size) d v:=by
 have:VDs σ [x] [d]:=⟨d,[],rfl,h,rfl⟩
 obtain⟨_,_,e,h1,_⟩:=VDs.rep hR this (vs:=[v]) ⟨v,[],rfl,hv,rfl⟩
 cases e
 exact h1
theorem VDn.rep {n0:Nat->Prop}{N:Nat}{σ:St}{g:Gh}{a:Act}{w:World}(hR:Rel n0 N σ g a w):∀{xs:List V}{ds:List D},VDn σ xs ds->∀{vs:List Value},VRl σ g w xs vs->zbv w (·<w.heap.size) ds vs
 | [],ds,h,vs,hv=>by rw[show ds=[] from h];exact hv
 | x::xs,ds,h,vs,hv=>by
  obtain⟨d,ds',rfl,h1,h2⟩:=h;obtain⟨v,vs',rfl,k1,k2⟩:=hv;refine⟨v,vs',rfl,?_,VDn.rep hR h2 k2⟩;rcases h1 with h1|⟨s,sz,rfl,rfl⟩
  ·exact VD.rep1 hR h1 k1
  ·have k1:v=.slice none 0 0:=k1;subst k1;show zas _ _ (.pin _ _) _
   unfold zas;refine⟨rfl,?_⟩;unfold zas;exact⟨none,0,rfl,Qw _,by simp,Or.inl rfl⟩
theorem zxv {o:Oper}{σ:St}{x:Operand}{asx:Array Operand}{ts:Array TypeId}{f:FuncId}{cvs:List V}{d:Nat}{ds res:List D}(ho:o.op=.call ⟨.value x,asx,ts⟩)(hd:o.dst=some d)
  (h:FC P f ds res) (hc:za1 (σ.get P 0 x)=some (f,cvs)) (hv:VDn σ (σ.gets P asx ts++cvs) ds) (hf:zg7 d 0 (zbd res) σ.ev):zai P o σ (σ.callF d res):=by
 intro n0 N g a w hR hn hdN
 obtain⟨vs,h1,h2⟩:=zdc hR ho hc h.1
 unfold Oper.wp
 rw[h1]
 refine(h.use (VDn.rep hR hv h2)).mono ?_
 rintro e w' ⟨us,fp,rfl,o1,o2,o3,hb⟩
 obtain⟨g',k1,k2,k3⟩:=New.cells (σ:=σ) (g:=g) (NB:=(w.heap.size<=·)) (w':=w') d (zbd res) _ fp 0 σ.ev g [] (New.refl _ _ _ _ hR.slc) (fun e h1 h2=>absurd h1 h2) hf o1.cells o2 (fun b hb'=>⟨o3 b hb',by simp⟩)
 have hR':=hR.after hn hb k1
 refine⟨g',?_,Bk.of_below hb hn,k1.A0,k1.R0⟩
 have hp:=hR'.put (some d) (x:=zlk (zyd d 0 res)) (v:=zck us) (zd7 (zlc d 0 o1 (k3 _ _ rfl)) (zia d res 0)) (fun i hi=>by cases hi;exact hdN d hd)
 rw[hd]
 exact hp
section
variable {ks:List Fr}{Q:Exit->St->Prop}{σ:St}{ops:Array Oper}{os:List Oper}{ty:TypeId}{ps:String}{af:Array Edge}
theorem callFn {d:Nat}{x:Operand}{asx:Array Operand}{ts:Array TypeId}{f:FuncId}{ds res:List D}(h:FC P f ds res)(hp:zav (za1 (σ.get P 0 x)) fun p=>p.1=f/\VDn σ (σ.gets P asx ts++p.2) ds/\zg7 d 0 (zbd res) σ.ev)
  (k:exo P ops os ks Q (σ.callF d res)):exo P ops (⟨some d,.call ⟨.value x,asx,ts⟩,ty,ps,af,none⟩::os) ks Q σ:=by
 obtain⟨⟨f',cvs⟩,h1,rfl,h2,h3⟩:=zar hp
 exact zda rfl rfl (zxv rfl rfl h h1 h2 h3) k
end
theorem vdn_nl (σ:St)(s sz:Nat)(vs:List V)(ds:List D):VDn σ (.one (.nl s)::vs) (.one (.pin (.slice none 0 0) (.sl sz []))::ds)=VDn σ vs ds:=propext ⟨fun h=>by
 obtain⟨d,ds',e,_,h⟩:=h
 obtain⟨rfl,rfl⟩:=List.cons.inj e
 exact h,fun h=>⟨_,_,rfl,Or.inr ⟨_,_,rfl,rfl⟩,h⟩⟩
theorem vdn_t (σ:St)(t:T)(vs:List V)(ds:List D):VDn σ (.one (.t t)::vs) (.one t::ds)=VDn σ vs ds:=propext ⟨fun h=>by
 obtain⟨d,ds',e,_,h⟩:=h
 obtain⟨rfl,rfl⟩:=List.cons.inj e
 exact h,fun h=>⟨_,_,rfl,Or.inl rfl,h⟩⟩
theorem qm8 (σ:St):VDn σ [] []=True:=by unfold VDn;simp
end
section
open Go.RowKit
set_option maxRecDepth 100000 in
theorem zy8 (n:Nat)(hn:n<=1099511627776):FC Tryz.prog 245 [.one (.pin (.slice none 0 0) (.sl 1 [])),iD n] [.one (.sl 1 [])]:=by
 refine⟨Tryz.call245,fun w vs fp tp hv hnd=>?_⟩
 obtain⟨v1,_,rfl,h1,hv⟩:=hv
 obtain⟨v2,_,rfl,h2,hv⟩:=hv
 obtain⟨rfl,rfl,rfl⟩:=hv
 have e1:v1=.slice none 0 0:=by
  have h:zas w (fun b=>b<w.heap.size/\¬b∈[]) (.pin (.slice none 0 0) (.sl 1 [])) v1:=h1;unfold zas at h;exact h.1
 have e2:v2=.int .i64 n:=by
  have h:zas w (fun b=>b<w.heap.size/\¬b∈[]) (.int .i64 n) v2:=h2;unfold zas at h;exact h.1
 clear h1 h2
 subst e1 e2
 obtain⟨i,hi,hz,hs,hby⟩:∃i,Tryz.prog.info? 9=some i/\i.zero=some (.string ⟨#[]⟩)/\i.size=1/\i.bytes=16:=⟨_,rfl,rfl,rfl,rfl⟩
 have g1:¬((n:Int)<0):=by omega
 have g2:wrap64 ((0:Int)-0)=0:=by unfold wrap64;omega
 have g3:wrap64 ((n:Int)-0)=n:=by unfold wrap64;omega
 by_cases h0:n=0
 ·subst h0
  go_enter Tryz.func245,Tryz.ntmps245
  go_wp2
  go_ret
  refine⟨[.slice none 0 0],rfl,[],⟨_,_,[],[],[],_,[],rfl,rfl,rfl,⟨?_,rfl⟩,rfl,rfl,rfl⟩,Kf,by simp,Bk.refl _ _⟩;unfold za3;exact⟨none,0,rfl,Qw _,by simp,Or.inl ⟨rfl,rfl,rfl,rfl⟩⟩
 ·have g4:(n:Int)>0:=by omega
  have hrz:=fun ty=>Lib.run_append_nil_zeros (P:=Tryz.prog) w 64 3 ty 9 i (.string ⟨#[]⟩) .i64 .i64 Tryz.underlying64 Tryz.underlying3 hi hz n Yt Yt Yt (by rw[hby];omega)
  go_enter Tryz.func245,Tryz.ntmps245
  go_wp2_with (at_builtin;refine Lib.wpList_append_run _ rfl _ _ _ _ rfl _ _ rfl rfl _ _ (hrz _) ?_)
  go_ret
  have hge:=grownCap_ge w n 0 9;have hle:=grownCap_le_maxLen w n 0 9 (by unfold maxLen;omega);generalize grownCap w n 0 9=G at hge hle⊢;refine⟨[.slice (some ⟨w.heap.size,0,none⟩) 0 G],rfl,[w.heap.size],⟨_,_,[],[w.heap.size],[],_,[],rfl,rfl,rfl,⟨?_,rfl⟩,rfl,rfl,rfl⟩,by simp,by simp,⟨rfl,rfl,rfl,?_,fun k hk=>?_⟩⟩
  ·unfold za3;refine⟨_,G,rfl,Q1 _,by unfold maxLen at hle;omega,Or.inr ⟨w.heap.size,Builtin.zeroCells #[.string ⟨#[]⟩] n++Builtin.zeroCells #[.string ⟨#[]⟩] (G-n),9,[],rfl,rfl,?_,?_,by unfold zao;rfl⟩⟩
   ·show(w.heap.push _)[w.heap.size]?=_
    simp
   ·simp[size_zeroCells];omega
  ·show w.heap.size<=(w.heap.push _).size
   rw[Array.size_push];omega
  ·show(w.heap.push _)[k]?=_
   have hk:k<w.heap.size:=by simpa using hk
   rw[Array.getElem?_push_lt hk,Array.getElem?_eq_getElem hk]
def cLen (A B:List Str):Nat->Nat
 | 0=>0
 | 1=>A.length
 | _=>A.length+B.length
def cRow (A B:List Str):Nat->List Str
 | 0=>[]
 | 1=>A
 | _=>A++B
theorem qkm (A B:List Str):cLen A B 0=0:=rfl
theorem qkb (A B:List Str):cLen A B 1=A.length:=rfl
theorem qlm (A B:List Str):cLen A B 2=A.length+B.length:=rfl
theorem qky (A B:List Str):cRow A B 0=[]:=rfl
theorem qjz (A B:List Str):cRow A B 1=A:=rfl
theorem qke (A B:List Str):cRow A B 2=A++B:=rfl
theorem zti (A B:List Str)(hA:A.length+B.length<=4194304):FC Tryz.prog 203 [.one (.sl 1 [[zbm A],[zbm B]])] [.one (zbm (A++B))]:=by
 have hG:=zy8 (A.length+B.length) Yt
 have w1:IntKind.i64.wrap ((A.length:Int)+(B.length:Int))=((A.length+B.length:Nat):Int):=by rw[zbn Yt Yt];omega
 have w0:IntKind.i64.wrap (0+(A.length:Int))=((A.length:Nat):Int):=by rw[zbn Yt Yt];omega
 have u1:IntKind.i64.wrap 1=1:=rfl
 have u2:IntKind.i64.wrap 2=2:=rfl
 have ha1:A.length<=4294967296:=by omega
 have ha2:A.length+B.length<=4294967296:=by omega
 refine zak Tryz.call203 Tryz.func203 rfl Ys (zaz Ys) ?_
 simp -implicitDefEqProofs only[go_sem,Tryz.results203]
 refine zaf (fun k:Nat=>hd [(0,vT (.sl 1 [[zbm A],[zbm B]])),(3,vI (cLen A B k)),(9,vT (.sl 1 [[zbm A],[zbm B]])),(10,vI 2),(11,vI k)] [] []) (fun k=>k<=2) (fun k=>2-k) 0 (zad ?_) (Q1 _) ?_
 ·simp -implicitDefEqProofs only[go_sem,qkm]
 ·intro k hk;rcases(by omega:k=0\/k=1\/k=2)with rfl|rfl|rfl
  ·simp -implicitDefEqProofs only[go_sem,qkm,w0];refine⟨1,Yt,Yt,zad ?_⟩;simp -implicitDefEqProofs only[go_sem,qkb,u1]
  ·simp -implicitDefEqProofs only[go_sem,qkb,w1];refine⟨2,Yt,Yt,zad ?_⟩;simp -implicitDefEqProofs only[go_sem,qlm,u2]
  ·simp -implicitDefEqProofs only[go_sem,qlm];refine callFn hG (by simp -implicitDefEqProofs only[go_sem,vdn_nl,vdn_t,qm8]) ?_;simp -implicitDefEqProofs only[go_sem];refine zaf (fun k:Nat=>hd [(6,.one (.ow 768 0)),(25,vT (.sl 1 [[zbm A],[zbm B]])),(26,vI 2),(27,vI k)] [] [(768,⟨true,1,(cRow A B k).map fun s=>[.str s],0,true⟩)]) (fun k=>k<=2) (fun k=>2-k) 0 (zad ?_) (Q1 _) ?_
   ·simp -implicitDefEqProofs only[go_sem,qky,Qk]
   ·intro k hk;rcases(by omega:k=0\/k=1\/k=2)with rfl|rfl|rfl
    ·simp -implicitDefEqProofs only[go_sem,qky,Qk];refine apD true (by simp -implicitDefEqProofs only[go_sem,ne_eq,Qa,ha1,Q2,za5]) ?_;simp -implicitDefEqProofs only[go_sem,ne_eq,Qa,ha1,Q2,za5];refine⟨1,Yt,Yt,zad ?_⟩;simp -implicitDefEqProofs only[go_sem,qjz,u1]
    ·simp -implicitDefEqProofs only[go_sem,qjz];refine apD true (by simp -implicitDefEqProofs only[go_sem,ne_eq,Qa,ha2,za5]) ?_;simp -implicitDefEqProofs only[go_sem,ne_eq,Qa,ha2,za5];refine⟨2,Yt,Yt,zad ?_⟩;simp -implicitDefEqProofs only[go_sem,qke,u2,Qt]
    ·simp -implicitDefEqProofs only[go_sem,qke]
end
section
open Go.RowKit
section
variable {P:Program}
theorem ct0_A {n0:Nat->Prop}{N:Nat}{σ:St}{g:Gh}{a:Act}{w:World}(hR:Rel n0 N σ g a w){c:C}{t:T}(h:CT0 σ c t){v:Value}(hv:CR σ g w c v):zas w (fun b=>b<w.heap.size/\g.A0 b) t v:=by
 have hF:∀b,Fix σ g w b->b<w.heap.size/\g.A0 b:=fun b hb=>⟨hb.2.2.1,hb.2.2.2⟩
 have hFr:∀b,zb6 σ g w b->b<w.heap.size/\g.A0 b:=fun b hb=>hF b hb.1
 cases c with
 | t x =>
  have h:x=t:=h;subst h;exact zas.keep (fun _ _=>rfl) hF x v hv
 | rn x =>
  have h:x=t:=h;subst h;exact zas.keep (fun _ _=>rfl) hFr x v hv
 | nl s =>
  cases t with
  | sl sz rows =>
   have h:rows=[]:=h;subst h;have hv:v=.slice none 0 0:=hv;subst hv;unfold zas;exact⟨none,0,rfl,Qw _,by simp,Or.inl rfl⟩
  | _=>exact h.elim
 | ow e n =>
  cases t with
  | sl sz rows =>
   obtain⟨d,o,he⟩:=h;obtain⟨rfl,-⟩:=hv;cases o
   ·exact zas.keep (fun _ _=>rfl) hF _ _ (hR.offs e _ he rfl).1
   ·have hOn:σ.On e:=⟨_,he,rfl⟩;have hlt:∀b∈g.φ e,b<w.heap.size:=(hR.evs e _ he rfl).lt;obtain⟨ao,cap,e1,e2,e3,e4⟩:=hR.evs e _ he rfl;unfold zas;refine⟨ao,cap,e1,e2,e3,?_⟩;rcases e4 with⟨_,_,e4,_⟩|⟨b,cells,ty,fps,k1,k2,k3,k4,k5⟩
    ·exact Or.inl e4
    ·have hA:∀b'∈g.φ e,b'<w.heap.size/\g.A0 b':=fun b' hb'=>⟨hlt b' hb',(hR.ebase e hOn b' hb').1⟩;refine Or.inr ⟨b,0,k1,hA b (by rw[k2];simp),?_⟩;split at k5
     ·exact zao.rep b cells ty k3 0 sz rows fps k5 fun b' hb'=>hA b' (by rw[k2];simp[hb'])
     ·exact zat.keep (fun _ _=>rfl) hF b rfl 0 sz rows k5.2
  | _=>exact h.elim
 | el cs o =>
  cases t with
  | ptr cs' =>
   obtain⟨rfl,rfl⟩:=h;obtain⟨b,q,h1,h2,h3⟩:=hv;unfold zas;exact⟨b,q,h1,hF b h2,zbj.keep (fun _ _=>rfl) hF b rfl q cs h3⟩
  | _=>exact h.elim
 | er cs o =>
  cases t with
  | ptr cs' =>
   obtain⟨rfl,rfl⟩:=h;obtain⟨b,q,h1,h2,h3⟩:=hv;unfold zas;exact⟨b,q,h1,hFr b h2,zbj.keep (fun _ _=>rfl) hFr b rfl q cs h3⟩
  | _=>exact h.elim
 | _=>cases t<;>exact h.elim
theorem qla {n0:Nat->Prop}{N:Nat}{σ:St}{g:Gh}{a:Act}{w:World}(hR:Rel n0 N σ g a w):∀{cs:List C}{ts:List T},zpn σ cs ts->∀{vs:List Value},CRs σ g w cs vs->zah w (fun b=>b<w.heap.size/\g.A0 b) ts vs
 | [],ts,h,vs,hv=>by rw[show ts=[] from h];unfold zah;exact hv
 | c::cs,ts,h,vs,hv=>by
  obtain⟨t,ts',rfl,h1,h2⟩:=h;obtain⟨v,vs',rfl,k1,k2⟩:=hv;unfold zah;exact⟨v,vs',rfl,ct0_A hR h1 k1,qla hR h2 k2⟩
def RVe (σ:St):List V->List D->Prop
 | [],[]=>True
 | .one c::vs,.one t::ds=>CT0 σ c t/\RVe σ vs ds
 | .agg cs::vs,.agg ts::ds=>zpn σ cs ts/\RVe σ vs ds
 | _,_=>False
theorem RVe.rep {n0:Nat->Prop}{N:Nat}{σ:St}{g:Gh}{a:Act}{w:World}(hR:Rel n0 N σ g a w):∀{vs:List V}{ds:List D},RVe σ vs ds->∀{us:List Value},VRl σ g w vs us->zbv w (fun b=>b<w.heap.size/\g.A0 b) ds us
 | [],[],_,us,hv=>hv
 | .one c::vs,.one t::ds,h,us,hv=>by
  obtain⟨u,us',rfl,k1,k2⟩:=hv;exact⟨u,us',rfl,ct0_A hR h.1 k1,RVe.rep hR h.2 k2⟩
 | .agg cs::vs,.agg ts::ds,h,us,hv=>by
  obtain⟨u,us',rfl,⟨q,rfl,k1⟩,k2⟩:=hv;exact⟨_,us',rfl,⟨q,rfl,qla hR h.1 k1⟩,RVe.rep hR h.2 k2⟩
 | [],_::_,h,_,_=>h.elim
 | .one _::_,[],h,_,_=>h.elim
 | .one _::_,.agg _::_,h,_,_=>h.elim
 | .agg _::_,[],h,_,_=>h.elim
 | .agg _::_,.one _::_,h,_,_=>h.elim
 | .tup _::_,[],h,_,_=>h.elim
 | .tup _::_,_::_,h,_,_=>h.elim
def PRe (P:Program)(rs:List ResultVar)(res:List D)(e:Exit)(σ:St):Prop:=match e with
 | .normal=>zav (zb3 P σ rs) fun vs=>RVe σ vs res
 | .ret=>zav (zb3 P σ rs) fun vs=>RVe σ vs res
 | _=>False
theorem RC_ofE {f:FuncId}{fn:Func}{c:Code}{args res:List D}(hc:zbw P f)(hf:P.funcs[f]?=some fn)(hb:fn.body=some c)(hd:zei fn.ntmps c=true)(hN:(rd args).length<=fn.ntmps)
  (h:ex P c [] (PRe P fn.results.toList res) (zdq (rd args))):RC P f args res:=by
 refine⟨hc,fun w vs A hv=>?_⟩
 refine calls_of_wp hf hb ?_
 have hg:∀(ds:List D) (vs:List Value),zbv w (fun b=>b<w.heap.size/\A b) ds vs->za0 w (fun b=>b<w.heap.size/\A b/\b∉([]:List Nat)) (rd ds) vs [] []:=by
  intro ds;induction ds with
  | nil=>intro vs h;exact⟨h,rfl,rfl⟩
  | cons d ds ih =>
   rintro vs ⟨v,vs',rfl,h1,h2⟩;refine⟨v,vs',rfl,?_,ih _ h2⟩;cases d with
   | one t=>exact zas.keep (fun _ _=>rfl) (fun b hb=>⟨hb.1,hb.2,by simp⟩) t _ h1
   | agg ts=>obtain⟨a,h0,h1⟩:=h1;exact⟨a,h0,zah.keep (fun _ _=>rfl) (fun b hb=>⟨hb.1,hb.2,by simp⟩) ts a h1⟩
 obtain⟨g,hg,hR⟩:=Rel.start (A:=A) (A0:=fun b=>A b\/w.heap.size<=b) (R0:=RP.of fun _=>True) (N:=fn.ntmps) (hg _ _ hv) Kf (zd6 args) hN (fun _ hb=>Or.inl hb) (fun b hb=>by simp at hb) (fun b hb=>⟨Or.inr (by
  refine Nat.le_of_not_lt fun hlt=>hb ⟨hlt,by simp⟩),trivial⟩)
 refine wp_mono (zby (w0:=w) c (zdq (rd args)) _ hd h g _ w hR (fun k hk=>hk.1) (Bk.refl _ _) hg) fun e a' w' hq=>?_
 obtain⟨σ',g',h1,h2,h3,h4,h5⟩:=hq
 have key:zav (zb3 P σ' fn.results.toList) (fun vs=>RVe σ' vs res)->∃v,(results fn a'.tmps).run P w'=.ok v w'/\∃us,Ending.returned v=.returned (zck us)/\zbv w' (fun b=>b<w'.heap.size/\(A b\/w.heap.size<=b)) res us/\Below w.heap.size w w':=fun hk=>by
  unfold zav at hk;split at hk
  ·rename_i vs hvs;obtain⟨us,r1,r2⟩:=zco h2 fn hvs;refine⟨_,r1,us,rfl,(RVe.rep h2 hk r2).keep (fun _ _=>rfl) fun b hb=>⟨hb.1,?_⟩,h4.os,h4.tape,h4.output,h4.size,fun k hk=>h4.block k ⟨hk,by simp⟩⟩;have:=hb.2;simp only[Qp]at h5;rw[h5.1]at this;exact this
  ·exact hk.elim
 cases e with
 | normal=>exact⟨h2.defers,key h1⟩
 | ret=>exact⟨h2.defers,key h1⟩
 | exit _=>exact h1.elim
 | goto _=>exact h1.elim
 | panic _=>exact h1.elim
 | outgrown=>exact h1.elim
attribute [go_sem] PRe RVe
end
end
section
open Go.RowKit
abbrev egC (x:Eg):List T:=[.str x.1,.sl 1 (x.2.map fun s=>[.str s])]
abbrev egS (xs:List Eg):T:=.sl 2 (xs.map egC)
abbrev eigL (e:Ex)(pos:Bool)(ab:List Str):List (List Eg):=e.parts.mapIdx fun i p =>
 if zax e.form pos=true then ((e.terms.getD i Tm.zero).name,ab)::zlu p (sgn e.form i pos) ab else zlu p (sgn e.form i pos) (if isQ e.form.op=true then ab++zbb [] (voI (e.terms.getD i Tm.zero))else ab)
abbrev qj7 (p:Ex)(pos:Bool)(ab:List Str):Prop:=RC Tryz.prog 145 [exD p,bD pos,.one (zbm ab)] [.one (egS (zlu p pos ab))]
end
section
open Go.RowKit
theorem zy3 (e:Ex)(pos:Bool)(ab:List Str){k:Nat}(hlt:k<e.parts.length):(eigL e pos ab).take (k+1)=(eigL e pos ab).take k++[if zax e.form pos=true then ((e.terms.getD k Tm.zero).name,ab)::zlu e.parts[k] (sgn e.form k pos) ab else zlu e.parts[k] (sgn e.form k pos) (if isQ e.form.op=true then ab++zbb [] (voI (e.terms.getD k Tm.zero))else ab)]:=by
 rw[Qj (by simpa using hlt),Q5]
theorem zwc (e:Ex)(pos:Bool)(ab:List Str)(h:zbe e pos=true):(zlu e pos ab).length<=e.nodes:=by
 have h1:=congrArg List.length (zm4 e pos ab h)
 rw[Qa]at h1
 rw[h1]
 exact zep e pos
theorem zq0 {α:Type}(L:List (List α))(k:Nat):(L.take k).flatten.length<=L.flatten.length:=by
 have:=congrArg (fun l=>l.flatten.length) (K0 k L)
 simp only[Ke,Qh]at this
 omega
theorem ztk {α β:Type}(f:α->List β)(w:α->Nat):∀(l:List α),(∀x∈l,(f x).length<=w x)->(l.map f).flatten.length<=(l.map w).sum
 | [],_=>by simp
 | a::l,h=>by
  have h1:=h a (by simp);have h2:=ztk f w l fun x hx=>h x (by simp[hx]);simp only[Qi,Q4,Qh,Qz];omega
theorem zz1 {α:Type}(w:α->Nat):∀xs:List α,(xs.map fun x=>1+w x).sum=xs.length+(xs.map w).sum
 | []=>rfl
 | a::l=>by rw[Qi,Qz,zz1 w l,Qb,Qi,Qz];omega
theorem qbn:∀a:Tm,(voI a).length<=1+a.wt:=zb0 fun n xs ih=>by
 rw[zu8]
 split
 ·simp only[Qb,Qe];omega
 ·have h1:=ztk voI (fun x=>1+x.wt) xs ih;have h2:=zz1 Tm.wt xs;have h3:=Tm.wt_eq (.mk n xs);simp only[Tm.name,Tm.args]at h3⊢;omega
theorem qdx (e:Ex)(he:e.wt<=1048576)(pos:Bool)(hn:zbe e pos=true)(ab:List Str)(hab:ab.length+e.wt<=2097152)(H:∀p∈e.parts,∀pos ab,zbe p pos=true->ab.length+p.wt<=2097152->qj7 p pos ab):qj7 e pos ab:=by
 have hv:zlu e pos ab=(eigL e pos ab).flatten:=zs9 e pos ab
 have hW:=e.wt_eq
 have hen:=zdp e
 have hTW:zie e.terms=e.terms.length+(e.terms.map Tm.wt).sum:=rfl
 have hln:=zwc e pos ab hn
 have hpts:=(zbq hn).1
 have hTP:=(zb9 hn).1
 have hg:=ze4 hn
 have HQ:=zan e.form.op
 have HSt:=zil e.form pos
 have hLl:(eigL e pos ab).length=e.parts.length:=by simp
 have hLk:=fun k (hlt:k<e.parts.length)=>zy3 e pos ab hlt
 have hgrow:=zq0 (eigL e pos ab)
 unfold qj7
 rw[hv]
 rw[hv]at hln
 generalize eigL e pos ab=L at hv hLl hLk hgrow hln⊢
 simp only[exD,zae e,fmD,zab e.form]at HSt⊢
 refine RC_ofE Tryz.call145 Tryz.func145 rfl Ys (zaz Ys) ?_
 simp -implicitDefEqProofs only[go_sem,Tryz.results145]
 refine zny Yr ?_
 simp -implicitDefEqProofs only[go_sem]
 refine zaf (fun k:Nat=>hd [(1,vT (.bool pos)),(2,vT (zbm ab)),(3,.one (.bx 3 0)),(7,.one (.ow 384 0)),(8,.one (.bx 8 0)),(16,vT (exS e.parts)),(17,vI e.parts.length),(18,vI k)] [(3,[.t (.int .i64 e.form.op),.t (.str e.form.atom.name),.t (tmS e.form.atom.args),.t (.str e.form.var),.t (fmS e.form.parts),.t (tmS e.terms),.t (exS e.parts)]),(8,[.t (.int .i64 e.form.op),.t (.str e.form.atom.name),.t (tmS e.form.atom.args),.t (.str e.form.var),.t (fmS e.form.parts)])] [(384,⟨false,2,(L.take k).flatten.map egC,0,true⟩)]) (fun k=>k<=e.parts.length) (fun k=>e.parts.length-k) 0 (zad ?_) (Q1 _) ?_
 ·simp -implicitDefEqProofs only[go_sem]
 ·intro k hk;by_cases hlt:k<e.parts.length
  ·have hLk:=hLk k hlt;have hgk:=hgrow (k+1);have hpk:=zay Ex.wt e.parts e.parts[k] (Qd hlt);have HPo:=zgi e.form k pos;have hsg:(pos != (e.form.op==4||(e.form.op==7&&((k:Int)==0))))=sgn e.form k pos:=rfl;rw[hsg]at HPo;simp only[fmD,zab e.form]at HPo;generalize hDn:(L.take k).flatten=dn at hgk⊢;cases hq:isQ e.form.op
   ·have hst:zax e.form pos=false:=by unfold zax;rw[hq];rfl
    rw[hst,hq,if_neg (by simp),if_neg (by simp)]at hLk;rw[hLk,Ke,Qh,Kx,hDn]at hgk;rw[hq]at HQ;have HC:=H e.parts[k] (Qd hlt) (sgn e.form k pos) ab (hpts k hlt) Yt;unfold qj7 at HC;generalize hEi:zlu e.parts[k] (sgn e.form k pos) ab=ei at HC hLk hgk;have ha1:dn.length+ei.length<=4294967296:=by omega
    simp only[exD,zae e.parts[k]]at HC;simp -implicitDefEqProofs only[go_sem,hlt,zac,zae e.parts[k]];refine callF (HQ) Yr ?_;simp -implicitDefEqProofs only[go_sem];refine drawn Ys ?_;simp -implicitDefEqProofs only[go_sem];refine zaj (HPo) Yr ?_;simp -implicitDefEqProofs only[go_sem];refine ztx HC Yr ?_;simp -implicitDefEqProofs only[go_sem];refine zek false (by simp -implicitDefEqProofs only[go_sem,ne_eq,Qa,ha1]) ?_;simp -implicitDefEqProofs only[go_sem,ne_eq,Qa,ha1];refine⟨Ys,k+1,hlt,Yt,zad ?_⟩;simp -implicitDefEqProofs only[go_sem];rw[zam Yt,hLk,Ke,Kx,hDn,Qt];exact⟨rfl,rfl⟩
   ·rw[hq]at HQ;have hkt:k<e.terms.length:=by have:=hTP hq;omega
    have hTk:=zay Tm.wt e.terms e.terms[k] (Qd hkt);have hgd:=hg hq k hkt;rw[za2 hkt]at hgd hLk;rw[<-zpl hq]at HSt;cases hst:zax e.form pos
    ·rw[hst]at HSt;rw[hst,hq,if_neg (by simp),if_pos rfl]at hLk;rw[hLk,Ke,Qh,Kx,hDn]at hgk;have hvl:=qbn e.terms[k];have hpl:=zcs (voI e.terms[k]) [];simp only[Qe]at hpl;have HV:=zko e.terms[k] (zgk _ (zgs hgd)).2 Yt Yt;generalize hVs:zbb [] (voI e.terms[k])=vs at HV hLk hpl hgk;have HCc:=zti ab vs Yt;have HC:=H e.parts[k] (Qd hlt) (sgn e.form k pos) (ab++vs) (hpts k hlt) (by rw[Qh];omega);unfold qj7 at HC;generalize hEi:zlu e.parts[k] (sgn e.form k pos) (ab++vs)=ei at HC hLk hgk;have ha1:dn.length+ei.length<=4294967296:=by omega
     simp only[exD,zae e.parts[k],tmD,zaa e.terms[k]]at HC HV;simp -implicitDefEqProofs only[go_sem,hlt,zac,zae e.parts[k]];refine callF (HQ) Yr ?_;simp -implicitDefEqProofs only[go_sem];refine callF (HSt) (by simp -implicitDefEqProofs only[go_sem,hkt,zac,zaa e.terms[k]]) ?_;simp -implicitDefEqProofs only[go_sem,hkt,zac,zaa e.terms[k]];refine callF (HV) Yr ?_;simp -implicitDefEqProofs only[go_sem];refine zd0 1504 rfl rfl ?_;simp -implicitDefEqProofs only[go_sem];refine zny Yr ?_;simp -implicitDefEqProofs only[go_sem];refine callF (HCc) Yr ?_;simp -implicitDefEqProofs only[go_sem];refine frzD 1568 ?_;simp -implicitDefEqProofs only[go_sem];refine drawn Ys ?_;simp -implicitDefEqProofs only[go_sem];refine zaj (HPo) Yr ?_;simp -implicitDefEqProofs only[go_sem];refine ztx HC Yr ?_;simp -implicitDefEqProofs only[go_sem];refine zek false (by simp -implicitDefEqProofs only[go_sem,ne_eq,Qa,ha1]) ?_;simp -implicitDefEqProofs only[go_sem,ne_eq,Qa,ha1];refine⟨Ys,k+1,hlt,Yt,zad ?_⟩;simp -implicitDefEqProofs only[go_sem];rw[zam Yt,hLk,Ke,Kx,hDn,Qt];exact⟨rfl,rfl⟩
    ·rw[hst]at HSt;rw[hst,if_pos rfl]at hLk;rw[hLk,Ke,Qh,Kx,hDn,Qb]at hgk;have HC:=H e.parts[k] (Qd hlt) (sgn e.form k pos) ab (hpts k hlt) Yt;unfold qj7 at HC;generalize hEi:zlu e.parts[k] (sgn e.form k pos) ab=ei at HC hLk hgk;have ha1:dn.length+1+ei.length<=4294967296:=by omega
     have ha2:dn.length<=4294967295:=by omega
     simp only[exD,zae e.parts[k]]at HC;simp -implicitDefEqProofs only[go_sem,hlt,zac,zae e.parts[k]];refine callF (HQ) Yr ?_;simp -implicitDefEqProofs only[go_sem];refine callF (HSt) (by simp -implicitDefEqProofs only[go_sem,hkt,zac,zaa e.terms[k]]) ?_;simp -implicitDefEqProofs only[go_sem,hkt,zac,zaa e.terms[k]];refine zny Yr ?_;simp -implicitDefEqProofs only[go_sem];refine apD false (by simp -implicitDefEqProofs only[go_sem,ne_eq,Qa,ha2]) ?_;simp -implicitDefEqProofs only[go_sem,ne_eq,Qa,ha2];refine drawn Ys ?_;simp -implicitDefEqProofs only[go_sem];refine zaj (HPo) Yr ?_;simp -implicitDefEqProofs only[go_sem];refine ztx HC Yr ?_;simp -implicitDefEqProofs only[go_sem];refine zek false (by simp -implicitDefEqProofs only[go_sem,ne_eq,Qa,Qh,Qb,Qe,ha1]) ?_;simp -implicitDefEqProofs only[go_sem,ne_eq,Qa,Qh,Qb,Qe,ha1];refine⟨Ys,k+1,hlt,Yt,zad ?_⟩;simp -implicitDefEqProofs only[go_sem];rw[zam Yt,hLk,Ke,Kx,hDn,Qt,Qi];simp only[Km,K6,Ki];exact⟨trivial,trivial⟩
  ·have ht:L.take k=L:=Qm Yt;simp -implicitDefEqProofs only[go_sem,hlt,ht]
end
section
open Go.RowKit
theorem qil:∀e:Ex,e.wt<=1048576->∀pos ab,zbe e pos=true->ab.length+e.wt<=2097152->qj7 e pos ab :=
 zcp fun f ts ps ih he pos ab hn hab=>qdx (.mk f ts ps) he pos hn ab hab fun p hp pos ab hn hab=>ih p hp (Q9 (zci (a:=.mk f ts ps) hp) he) pos ab hn hab
theorem znp (xs:List Eg)(p:Eg->Bool)(g:FuncId)(caps:List T)(H:∀x∈xs,FC Tryz.prog g (.agg (egC x)::caps.map .one) [bD (p x)]):FC Tryz.prog 146 [.one (egS xs),.one (.fn g caps)] [iD (zc9 xs p)]:=by
 refine zfp (fun hw=>?_) Tryz.call146
 have hl:xs.length<=9223372036854775807:=by simpa[zlj,wfT]using hw.1.1
 refine zak Tryz.call146 Tryz.func146 rfl Ys (zaz Ys) ?_
 simp -implicitDefEqProofs only[go_sem,Tryz.results146]
 refine zaf (fun k:Nat=>hd [(0,vT (egS xs)),(1,vT (.fn g caps)),(7,vI xs.length),(8,vI k)] [] []) (fun k=>k<=xs.length/\∀x∈xs.take k,p x=false) (fun k=>xs.length-k) 0 (zad ?_) ?_ ?_
 ·simp -implicitDefEqProofs only[go_sem]
 ·simp
 ·intro k ⟨hk,hr⟩;by_cases hlt:k<xs.length
  ·simp -implicitDefEqProofs only[go_sem,zac,hlt,ne_eq];refine callF (H xs[k] (Qd hlt)) (by simp -implicitDefEqProofs only[go_sem,ne_eq]) ?_;simp -implicitDefEqProofs only[go_sem,ne_eq];refine⟨fun h=>?_,fun h=>⟨k+1,⟨hlt,zcd hlt hr h⟩,Yt,zad (by simp -implicitDefEqProofs only[go_sem];rw[zam Yt])⟩⟩;rw[zcy hlt hr h]
  ·simp -implicitDefEqProofs only[go_sem,hlt];rw[Qm Yt]at hr;rw[zd9 hr]
theorem zji (xs:List Eg)(p:Eg->Bool)(g:FuncId)(caps:List T)(H:∀x∈xs,FC Tryz.prog g (.agg (egC x)::caps.map .one) [bD (p x)]):FC Tryz.prog 148 [.one (egS xs),.one (.fn g caps)] [bD (xs.any p)]:=by
 refine zak Tryz.call148 Tryz.func148 rfl Ys (zaz Ys) ?_
 simp -implicitDefEqProofs only[go_sem,Tryz.results148]
 refine callF (znp xs p g caps H) Yr ?_
 simp -implicitDefEqProofs only[go_sem]
 rw[zez]
theorem cl2_c (x y:Eg)(out:List Str):FC Tryz.prog 149 [.agg (egC y),.one (.ptr (egC x)),.one (.ptr [zbm out])] [bD (x.2.contains y.1&&!out.contains y.1)]:=by
 have H1:=zbu x.2 y.1
 have H2:=zbu out y.1
 cases h1:x.2.contains y.1
 ·rw[h1]at H1;refine zak Tryz.call149 Tryz.func149 rfl Ys (zaz Ys) ?_;simp -implicitDefEqProofs only[go_sem,Tryz.results149];refine callF (H1) Yr ?_;simp -implicitDefEqProofs only[go_sem]
 ·rw[h1]at H1;refine zak Tryz.call149 Tryz.func149 rfl Ys (zaz Ys) ?_;simp -implicitDefEqProofs only[go_sem,Tryz.results149];refine callF (H1) Yr ?_;simp -implicitDefEqProofs only[go_sem];refine callF (H2) Yr ?_;simp -implicitDefEqProofs only[go_sem]
abbrev arB (list:List Eg)(out:List Str):Bxs:=[[(true,zbm out)],[(false,egS list)]]
theorem cl1_c (list:List Eg)(out:List Str)(x:Eg):PC Tryz.prog 147 (arB list out) [.d false (.agg (egC x)),.p 0,.p 1] (arB list out) [(true,bD (ztj list out x))]:=by
 have H1:=zbu out x.1
 have H2:=zji list (fun y=>x.2.contains y.1&&!out.contains y.1) 149 [.ptr (egC x),.ptr [zbm out]] fun y _=>cl2_c x y out
 unfold ztj
 generalize (list.any fun y=>x.2.contains y.1&&!out.contains y.1)=r at H2⊢
 cases h1:out.contains x.1
 ·rw[h1]at H1;refine zbh Tryz.call147 Tryz.func147 rfl Ys (by simp only[Qb,Qe,Tryz.ntmps147];omega) (by simp only[Tryz.ntmps147];omega) rfl rfl (by simp[zau,T.isPin,AF.ds,bxA]) (by simp[gFS,T.fs,T.flat,AF.ds,bxA]) rfl ?_;simp -implicitDefEqProofs only[go_sem,Tryz.results147];refine callF (H1) Yr ?_;simp -implicitDefEqProofs only[go_sem];refine callF (H2) Yr ?_;simp -implicitDefEqProofs only[go_sem]
 ·rw[h1]at H1;refine zbh Tryz.call147 Tryz.func147 rfl Ys (by simp only[Qb,Qe,Tryz.ntmps147];omega) (by simp only[Tryz.ntmps147];omega) rfl rfl (by simp[zau,T.isPin,AF.ds,bxA]) (by simp[gFS,T.fs,T.flat,AF.ds,bxA]) rfl ?_;simp -implicitDefEqProofs only[go_sem,Tryz.results147];refine callF (H1) Yr ?_;simp -implicitDefEqProofs only[go_sem]
theorem idxB_c (list:List Eg)(out:List Str)(hl:list.length<=1048577):PC Tryz.prog 146 (arB list out) [.d false (.one (egS list)),.fn 147 [0,1]] (arB list out) [(true,iD (zc9 list (ztj list out)))]:=by
 refine zbh Tryz.call146 Tryz.func146 rfl Ys (by simp only[Qb,Qe,Tryz.ntmps146];omega) (by simp only[Tryz.ntmps146];omega) rfl rfl (by simp[zau,T.isPin,AF.ds,bxA]) (by simp[gFS,T.fs,T.flat,AF.ds,bxA]) rfl ?_
 simp -implicitDefEqProofs only[go_sem,Tryz.results146]
 refine zaf (fun k:Nat=>hd [(0,.one (.rn (egS list))),(1,.one (.fn 147 [1000000,1000001])),(7,vI list.length),(8,vI k),(1000000,.one (.bx 1000000 0)),(1000001,.one (.bx 1000001 0))] [(1000000,[.ow 32 0]),(1000001,[.rn (egS list)])] [(32,⟨true,1,out.map fun s=>[.str s],0,true⟩)]) (fun k=>k<=list.length/\∀x∈list.take k,ztj list out x=false) (fun k=>list.length-k) 0 (zad ?_) ?_ ?_
 ·simp -implicitDefEqProofs only[go_sem]
 ·simp
 ·intro k ⟨hk,hr⟩;by_cases hlt:k<list.length
  ·have HC:=cl1_c list out list[k];simp -implicitDefEqProofs only[go_sem,zac,hlt];refine zaq [0,1,5,7,8,11,1000000,1000001] [15] [1000000,1000001] [] (HC) (by decide) rfl Yr Yr Yr Yr ?_;simp -implicitDefEqProofs only[go_sem];refine⟨fun h=>Or.inl (by rw[zcy hlt hr h]),fun h=>⟨k+1,⟨hlt,zcd hlt hr h⟩,Yt,zch 32 513 ?_⟩⟩;simp -implicitDefEqProofs only[go_sem];rw[zam Yt]
  ·simp -implicitDefEqProofs only[go_sem,hlt];rw[Qm Yt]at hr;rw[zd9 hr];exact Or.inl rfl
def qle (L:List Eg):Nat->List Str->List Str×Bool
 | 0,out=>(out,true)
 | n+1,out=>if 0<=zc9 L (ztj L out)then qle L n (out++[(L.getD (zc9 L (ztj L out)).toNat ([],[])).1])else (out,false)
theorem zsb {α:Type}{xs:List α}{p:α->Bool}(h:0<=zc9 xs p):(zc9 xs p).toNat<xs.length/\zc9 xs p=((zc9 xs p).toNat:Nat):=by
 unfold zc9 at h⊢
 split at h
 ·rename_i ha;have h2:xs.findIdx p<xs.length:=List.findIdx_lt_length.2 (Yc.1 ha);rw[if_pos ha];simp only[Jw];exact⟨h2,trivial⟩
 ·omega
noncomputable def arI (e:Ex)(pos:Bool):List Str×Bool:=qle (zlu e pos []) (zlu e pos []).length []
theorem qdn (e:Ex)(he:e.wt<=1048576)(pos:Bool)(hn:zbe e pos=true):FC Tryz.prog 74 [exD e,bD pos] [.one (zbm (arI e pos).1),bD (arI e pos).2]:=by
 have HE:=qil e he pos [] hn (by simp;omega)
 have hl:=zwc e pos [] hn
 have hen:=zdp e
 have hv:arI e pos=qle (zlu e pos []) (zlu e pos []).length []:=rfl
 unfold qj7 at HE
 generalize zlu e pos []=list at HE hl hv
 generalize arI e pos=R at hv⊢
 rw[show zbm []=.sl 1 [] from rfl]at HE
 simp only[exD,zae e]at HE⊢
 refine zdw Tryz.call74 Tryz.func74 rfl Ys (zaz Ys) ?_
 simp -implicitDefEqProofs only[go_sem,Tryz.results74]
 refine callRn (HE) Yr ?_
 simp -implicitDefEqProofs only[go_sem]
 refine zap Yr ?_
 simp -implicitDefEqProofs only[go_sem]
 refine zaf (fun out:List Str=>hd [(4,.one (.nl 1)),(5,vT (.bool false)),(6,.one (.bx 6 0)),(7,.one (.bx 7 0))] [(6,[.rn (egS list)]),(7,[.ow 384 0])] [(384,⟨true,1,out.map fun s=>[.str s],0,true⟩)]) (fun out=>out.length<=list.length/\qle list (list.length-out.length) out=R) (fun out=>list.length-out.length) [] (zad ?_) ⟨Q1 _,hv.symm⟩ ?_
 ·simp -implicitDefEqProofs only[go_sem]
 ·intro out ⟨ho,hr⟩;by_cases hlt:out.length<list.length
  ·have hI:=idxB_c list out Yt;obtain⟨n,hn2⟩:∃n,list.length-out.length=n+1:=⟨list.length-out.length-1,Yt⟩;rw[hn2]at hr;unfold qle at hr;have hil:=fun h=>zsb (xs:=list) (p:=ztj list out) h;generalize zc9 list (ztj list out)=x at hI hr hil;by_cases h0:0<=x
   ·obtain⟨h1,h2⟩:=hil h0;obtain⟨j,hj⟩:∃j,x.toNat=j:=⟨_,rfl⟩;rw[hj]at h1 h2;rw[if_pos h0,hj,za2 h1]at hr;subst h2;have ha:out.length<=4294967295:=by omega
    simp -implicitDefEqProofs only[go_sem,hlt];refine zaq [4,5,6,7] [18,19] [7,6] [] (hI) (by decide) rfl Yr Yr Yr Yr ?_;simp -implicitDefEqProofs only[go_sem];refine drawn Ys ?_;simp -implicitDefEqProofs only[go_sem,h1,zac];refine za8 Yr ?_;simp -implicitDefEqProofs only[go_sem];refine zek true (by simp -implicitDefEqProofs only[go_sem,ne_eq,Qa,ha]) ?_;simp -implicitDefEqProofs only[go_sem,ne_eq,Qa,ha];refine⟨Ys,out++[list[j].1],⟨by rw[Qh];simp;omega,by rw[<-hr];congr 1;rw[Qh];simp;omega⟩,by rw[Qh];simp;omega,zch 384 641 ?_⟩;simp -implicitDefEqProofs only[go_sem];rw[Qt,Q7]
   ·have hx0:(x<0)=True:=by simp;omega
    rw[if_neg h0]at hr;subst hr;simp -implicitDefEqProofs only[go_sem,hlt];refine zaq [4,5,6,7] [18,19] [7,6] [] (hI) (by decide) rfl (by simp -implicitDefEqProofs only[go_sem,hx0]) (by simp -implicitDefEqProofs only[go_sem,hx0]) (by simp -implicitDefEqProofs only[go_sem,hx0]) (by simp -implicitDefEqProofs only[go_sem,hx0]) ?_;simp -implicitDefEqProofs only[go_sem,hx0]
  ·have h0:list.length-out.length=0:=by omega
   rw[h0]at hr;unfold qle at hr;subst hr;simp -implicitDefEqProofs only[go_sem,hlt]
end
section
open Go.RowKit
theorem qan {o:Int}{a:Tm}{v:Str}{xs:List Fm}(h:(Fm.mk o a v xs).forms=true):(Fm.mk o a v xs).here=true/\∀x∈xs,x.forms=true:=by
 rw[Fm.forms_eq,Qc]at h
 exact⟨h.1,Qs.1 h.2⟩
theorem qlh {o:Int}(h3:(o==3)=true){a:Tm}{v:Str}{xs:List Fm}(h:(Fm.mk o a v xs).here=true):o=3/\xs=[]/\v=[]/\a.atomOk=true:=by
 have e:o=3:=by simpa using h3
 subst e
 rw[qbo]at h
 simp only[show((3:Int)==1||(3:Int)==2)=false from rfl,Qn,if_false,h3,if_true,Qc,Qr,Ko]at h
 exact⟨rfl,Q8.1 h.1.1,h.2,h.1.2⟩
end
section
open Go.RowKit
theorem zx4 {a:Tm}(h:a.atomOk=true):a.wt<=238:=by
 rw[qcy,Qc]at h
 obtain⟨h1,h2⟩:=h
 have h4:=(nmA_eq h1).2
 have hl:a.name.length<=6:=by
  unfold nmA at h1;split at h1
  ·rename_i he;rw[Ko.1 he];simp
  ·rw[Qc]at h1;have h1:=h1.1;unfold zce inB at h1;simp only[Qc,Qr]at h1;omega
 unfold zdh at h2
 simp only[Qc,Qr]at h2
 have hn:=a.nodes_eq
 have hw:=a.wt_eq
 have h3:=zp1 (xs:=a.args) fun x hx=>qii x (Qs.1 h4 x hx)
 omega
theorem zzc:∀f:Fm,f.forms=true->f.wt<=238*f.nodes:=zb7 fun o a v xs ih hf=>by
 obtain⟨hh,hx⟩:=qan hf
 have hw:(Fm.mk o a v xs).wt=a.wt+v.length+xs.length+(xs.map Fm.wt).sum:=Fm.wt_eq _
 have hn:(Fm.mk o a v xs).nodes=1+(xs.map Fm.nodes).sum:=Fm.nodes_eq _
 have hs:(xs.map Fm.wt).sum<=(xs.map fun x=>238*x.nodes).sum:=qaf _ _ xs fun x hm=>ih x hm (hx x hm)
 have hs2:(xs.map fun x=>238*x.nodes).sum=238*(xs.map Fm.nodes).sum:=by
  clear hs hw hn hx hh hf ih;induction xs with
  | nil=>rfl
  | cons x xs ih2=>rw[Qi,Qz,ih2,Qi,Qz];omega
 rw[hw,hn]
 cases h3:o==3
 ·have h3':((Fm.mk o a v xs).op==3)=false:=h3;have ha:a=.mk [] []:=zhd hh h3';have haw:a.wt=0:=by rw[ha];rfl
  have hl:xs.length<=2/\v.length<=4:=by
   rcases ze0 hf with⟨h1,h2⟩|⟨p,h1,_⟩|⟨o',p,q,_,h1,_⟩|⟨o',v',p,ho,h1,_⟩
   ·have h1:xs=[]:=h1;refine⟨by rw[h1];simp,?_⟩;have:=qgm hh (by rcases h2 with h|h|h<;>(rw[h];rfl));have this:v=[]:=this;rw[this];simp
   ·cases h1;exact⟨by simp,by simp⟩
   ·cases h1;exact⟨by simp,by simp⟩
   ·cases h1;refine⟨by simp,?_⟩;have:=qbd hh (by rcases ho with h|h<;>(rw[show(Fm.mk o _ v [p]).op=o from rfl,h];rfl));have this:za9 v=true:=this;unfold za9 inB at this;simp only[Qc,Qr]at this;omega
  omega
 ·obtain⟨rfl,rfl,rfl,h4⟩:=qlh h3 hh;have:=zx4 h4;simp only[Qe,Qk,Ks];omega
end
section
open Go.RowKit
variable {P:Program}
def C.fs (e:Nat)(x:Ev):C->C
 | .ow e' g=>if e'=e then (if g=x.gen then .t (.sl x.sz x.rows)else .any)else .ow e' g
 | .eo e' g sz i o=>if e'=e then .any else .eo e' g sz i o
 | .vw e' g sz o=>if e'=e then .any else .vw e' g sz o
 | c=>c
def fsS (f:Nat->V)(e:Nat)(x:Ev):Nat->V:=fun i=>(f i).map (C.fs e x)
def fsB (f:Nat->Option (List C))(e:Nat)(x:Ev):Nat->Option (List C):=fun b=>(f b).map fun cs=>cs.map (C.fs e x)
def fsE (f:Nat->Option Ev)(e:Nat):Nat->Option Ev:=fun k=>if k=e then none else f k
theorem zt3 (f:Nat->Option (List C))(e:Nat)(x:Ev)(b:Nat):fsB f e x b=(f b).map fun cs=>cs.map (C.fs e x):=rfl
def St.fs (σ:St)(e:Nat)(x:Ev):St:=⟨fsS σ.sl e x,fsB σ.bx e x,fsE σ.ev e⟩
theorem fs_wkG {σ:St}{e:Nat}{x:Ev}(hx:σ.ev e=some x)(hd:x.deep=false)(ho:x.on=true){n0:Nat->Prop}{N:Nat}{g:Gh}{a:Act}{w:World}(h:Rel n0 N σ g a w):Rel n0 N (σ.fs e x) g a w/\∀b∈g.φ e,b<w.heap.size->zb6 (σ.fs e x) g w b:=by
 have hev:∀e',e'≠e->(σ.fs e x).ev e'=σ.ev e':=fun e' he=>by show(if e'=e then none else σ.ev e')=_;rw[if_neg he]
 have hee:(σ.fs e x).ev e=none:=by show(if e=e then none else σ.ev e)=_;rw[if_pos rfl]
 have hsome:∀e' z,(σ.fs e x).ev e'=some z->e'≠e/\σ.ev e'=some z:=fun e' z hz=>by
  by_cases he:e'=e
  ·subst he;rw[hee]at hz;cases hz
  ·exact⟨he,by rw[<-hev e' he];exact hz⟩
 have hon:∀e',(σ.fs e x).On e'->e'≠e/\σ.On e':=fun e' ⟨z,hz,h1⟩=>⟨(hsome e' z hz).1,z,(hsome e' z hz).2,h1⟩
 have hbx:∀b,(σ.fs e x).bx b≠none↔σ.bx b≠none:=fun b=>by unfold St.fs;simp[zt3]
 have hOn:σ.On e:=⟨x,hx,ho⟩
 have hf:∀b,Fix σ g w b->Fix (σ.fs e x) g w b:=fun b hf=>⟨fun k hk=>hf.1 k ((hbx k).1 hk),fun e' z hz h1=>hf.2.1 e' z (hsome e' z hz).2 h1,hf.2.2⟩
 have hfr:∀b,zb6 σ g w b->zb6 (σ.fs e x) g w b:=fun b hb=>⟨hf b hb.1,fun e' h'=>hb.2 e' (hon e' h').2⟩
 have hgone:∀b∈g.φ e,b<w.heap.size->zb6 (σ.fs e x) g w b:=fun b hb hl=>by
  have hne:∀e',(σ.fs e x).On e'->b∉g.φ e':=fun e' he' hm=>h.apart e e' hOn (hon e' he').2 (Ne.symm (hon e' he').1) b hb hm;exact⟨⟨fun j hj hjb=>h.ebx e j hOn ((hbx j).1 hj) (by rw[hjb];exact hb),fun e' z hz h1 hh=>hne e' ⟨z,hz,h1⟩ (List.mem_of_mem_head? hh),hl,(h.ebase e hOn b hb).1⟩,hne⟩
 have hhas:∀e' n,e'≠e->σ.has e' n->(σ.fs e x).has e' n:=fun e' n he ⟨z,hz,h1⟩=>⟨z,by rw[hev e' he];exact hz,h1⟩
 have cr:∀c v,CR σ g w c v->CR (σ.fs e x) g w (c.fs e x) v:=fun c v hc=>by
  cases c with
  | t y=>exact zas.keep (fun _ _=>rfl) hf y v hc
  | nl s=>exact hc
  | ow e' n =>
   show CR _ _ _ (if e'=e then (if n=x.gen then .t (.sl x.sz x.rows)else .any)else .ow e' n) v
   by_cases he:e'=e
   ·subst he;rw[if_pos rfl];by_cases hn:n=x.gen
    ·rw[if_pos hn];subst hn;obtain⟨ao,cap,e1,e2,e3,e4⟩:=h.evs _ x hx ho;rw[<-hc.1]at e1;show zas _ _ _ _
     unfold zas;refine⟨ao,cap,e1,e2,e3,?_⟩;rcases e4 with⟨_,_,e4,_⟩|⟨b,cells,ty,fps,k1,k2,k3,k4,k5⟩
     ·exact Or.inl e4
     ·rw[if_neg (by rw[hd];simp)]at k5;exact Or.inr ⟨b,0,k1,(hgone b (by rw[k2];simp) (Array.getElem?_eq_some_iff.1 k3).1).1,zat.keep (fun _ _=>rfl) hf b rfl 0 x.sz x.rows k5.2⟩
    ·rw[if_neg hn];trivial
   ·rw[if_neg he];exact⟨hc.1,hhas e' n he hc.2⟩
  | bx b o=>exact⟨hc.1,(hbx b).2 hc.2⟩
  | el cs o=>obtain⟨b,q,h1,h2,h3⟩:=hc;exact⟨b,q,h1,hf b h2,zbj.keep (fun _ _=>rfl) hf b rfl q cs h3⟩
  | eo e' s sz i o =>
   show CR _ _ _ (if e'=e then .any else .eo e' s sz i o) v
   by_cases he:e'=e
   ·rw[if_pos he];trivial
   ·rw[if_neg he];obtain⟨b,n,c,h1,h2,h3,h4⟩:=hc;exact⟨b,n,c,h1,h2,h3,hhas e' s he h4⟩
  | vw e' s sz o =>
   show CR _ _ _ (if e'=e then .any else .vw e' s sz o) v
   by_cases he:e'=e
   ·rw[if_pos he];trivial
   ·rw[if_neg he];obtain⟨b,n,c,h1,h2,h3,h4⟩:=hc;exact⟨b,n,c,h1,h2,h3,hhas e' s he h4⟩
  | fn f caps=>exact⟨hc.1,fun b hb=>(hbx b).2 (hc.2 b hb)⟩
  | cv u=>exact hc
  | any=>trivial
  | rn y=>exact zas.keep (fun _ _=>rfl) hfr y v hc
  | er cs o=>obtain⟨b,q,h1,h2,h3⟩:=hc;exact⟨b,q,h1,hfr b h2,zbj.keep (fun _ _=>rfl) hfr b rfl q cs h3⟩
 refine⟨⟨h.defers,h.size,h.anew,fun i=>VR.map cr (h.slots i),fun b cs hb=>?_,fun b hb=>h.base b ((hbx b).1 hb),fun b b' h1 h2=>h.inj b b' ((hbx b).1 h1) ((hbx b').1 h2),fun e' z hz h1=>?_,fun e' z hz h1=>?_,h.slc,fun e' h1=>h.ebase e' (hon e' h1).2,fun e' h1=>h.etop e' (hon e' h1).2,fun e' h1=>h.nodup e' (hon e' h1).2,fun e1 e2 h1 h2=>h.apart e1 e2 (hon e1 h1).2 (hon e2 h2).2,fun e' k h1 h2=>h.ebx e' k (hon e' h1).2 ((hbx k).1 h2)⟩,hgone⟩
 ·cases hc:σ.bx b with
  | none=>unfold St.fs at hb;simp only[zt3,hc,J2]at hb;cases hb
  | some cs0 =>
   unfold St.fs at hb;simp only[zt3,hc,Kc,Qf]at hb;subst hb;obtain⟨vs,ty,k1,k2⟩:=h.boxes b cs0 hc;exact⟨vs,ty,k1,CRs.map cr k2⟩
 ·obtain⟨ao,cap,e1,e2,e3,e4⟩:=h.evs e' z (hsome e' z hz).2 h1;refine⟨ao,cap,e1,e2,e3,?_⟩;rcases e4 with e4|⟨b,cells,ty,fps,k1,k2,k3,k4,k5⟩
  ·exact Or.inl e4
  ·refine Or.inr ⟨b,cells,ty,fps,k1,k2,k3,k4,?_⟩;split at k5
   ·rw[if_pos ‹_›];exact k5
   ·rw[if_neg ‹_›];exact⟨k5.1,zat.keep (fun _ _=>rfl) hf b rfl 0 z.sz z.rows k5.2⟩
 ·exact⟨zas.keep (fun _ _=>rfl) hf _ _ (h.offs e' z (hsome e' z hz).2 h1).1,(h.offs e' z (hsome e' z hz).2 h1).2⟩
attribute [go_sem] C.fs St.fs zt3
end
section
open Go.RowKit
variable {P:Program}
theorem qlt {σ:St}{g:Gh}{w:World}{e:Nat}{x:Ev}(he:σ.ev e=none):∀{c:C}{v:Value},CR σ g w c v->C.fs e x c=c:=fun {c v} hc=>by
 have key:∀e' n,σ.has e' n->e'≠e:=fun e' n ⟨y,hy,_⟩ h=>by
  rw[h,he]at hy;cases hy
 cases c with
 | ow e' n =>
  show(if e'=e then (if n=x.gen then C.t (.sl x.sz x.rows)else .any)else .ow e' n)=_
  rw[if_neg (key e' n hc.2)]
 | eo e' s sz i o =>
  obtain⟨b,n,c,h1,h2,h3,h4⟩:=hc;show(if e'=e then C.any else .eo e' s sz i o)=_
  rw[if_neg (key e' s h4)]
 | vw e' s sz o =>
  obtain⟨b,n,c,h1,h2,h3,h4⟩:=hc;show(if e'=e then C.any else .vw e' s sz o)=_
  rw[if_neg (key e' s h4)]
 | _=>rfl
theorem zvc {σ:St}{g:Gh}{w:World}{e:Nat}{x:Ev}(he:σ.ev e=none):∀{cs:List C}{vs:List Value},CRs σ g w cs vs->cs.map (C.fs e x)=cs
 | [],_,_=>rfl
 | c::cs,_,h=>by
  obtain⟨v,vs',rfl,h1,h2⟩:=h;rw[Qi,qlt he h1,zvc he h2]
theorem nor_t {σ:St}{g:Gh}{w:World}{e:Nat}{x:Ev}(he:σ.ev e=none):∀{xs:List (Bool×List C)}{vs:List Value},CRt σ g w xs vs->xs.map (fun y=>(y.1,y.2.map (C.fs e x)))=xs
 | [],_,_=>rfl
 | y::ys,_,h=>by
  obtain⟨v,vs',rfl,h1,h2⟩:=h;rw[Qi,nor_t he h2];obtain⟨b,cs⟩:=y;unfold CRx at h1;simp only at h1⊢;split at h1
  ·obtain⟨a,_,h1⟩:=h1;rw[zvc he h1]
  ·obtain⟨c,rfl,h1⟩:=h1;rw[Qi,qlt he h1,Qk]
theorem nor_v {σ:St}{g:Gh}{w:World}{e:Nat}{x:Ev}(he:σ.ev e=none){y:V}{v:Value}(h:VR σ g w y v):V.map (C.fs e x) y=y:=by
 cases y with
 | one c=>exact congrArg V.one (qlt he h)
 | agg cs=>obtain⟨a,_,h⟩:=h;exact congrArg V.agg (zvc he h)
 | tup xs=>obtain⟨vs,_,h⟩:=h;exact congrArg V.tup (nor_t he h)
section
variable {ks:List Fr}{Q:Exit->St->Prop}{σ:St}{ops:Array Oper}{os:List Oper}{L:List (List Ky×List Ky)}{d:Nat}{t:TypeId}{ty:TypeId}{ps:String}{af:Array Edge}{len:Nat}{parts:Array (Nat×Operand)}{n:Nat}{rs:List (List C)}{rows:List (List T)}
def slOf:Option (Ev×List (Nat×Ev))->T
 | some (x,_)=>.sl x.sz x.rows
 | none=>.sl 0 []
end
attribute [go_sem] slOf
end
section
open Go.RowKit
abbrev qfb (q:Cu):Bxs:=[[(false,zou q.code),(false,.int .i64 q.pos),(false,.int .u64 q.seed)]]
theorem qmg (b:UInt8):IntKind.i64.wrap (b.toNat:Int)=b.toNat:=by
 have:=b.toNat_lt
 exact zbn Yt Yt
theorem qgl (x:Int):0<=(IntKind.u64.wrap x).fdiv (2^40)/\(IntKind.u64.wrap x).fdiv (2^40)<=18446744073709551615:=by
 have h:0<=IntKind.u64.wrap x/\IntKind.u64.wrap x<=18446744073709551615:=by
  have:=I64.wrap .u64 x;have m1:IntKind.min .u64=0:=by decide
  have m2:IntKind.max .u64=18446744073709551615:=by decide
  rw[m1,m2]at this;exact this
 generalize IntKind.u64.wrap x=y at h
 rw[Int.fdiv_eq_ediv_of_nonneg _ (by decide)]
 omega
theorem qik (q:Cu)(hp:q.pos<=1099511627776):PC Tryz.prog 195 (qfb q) [.p 0] (qfb q.nx) [(true,iD q.v)]:=by
 obtain⟨code,pos,seed⟩:=q
 have hpw:IntKind.i64.wrap ((pos:Int)+1)=((pos+1:Nat):Int):=zam (by dsimp only at hp;omega)
 unfold Cu.v Cu.nx Cu.sd Cu.b
 dsimp only at hp⊢
 by_cases hlt:pos<code.length
 ·have hli:((pos:Int)<code.length)=True:=by simp;omega
  have hle:(((pos+1:Nat):Int)<=code.length)=True:=by simp;omega
  have hg:code.getD pos 0=code[pos]:=by rw[List.getD_eq_getElem?_getD,List.getElem?_eq_getElem hlt];rfl
  rw[if_pos hlt,if_pos Yt,hg];refine zbh Tryz.call195 Tryz.func195 rfl Ys (by simp only[Qb,Qe,Tryz.ntmps195];omega) (by simp only[Tryz.ntmps195];omega) rfl rfl (by simp[zau,T.isPin,AF.ds,bxA]) (by simp[gFS,T.fs,T.flat,AF.ds,bxA]) rfl ?_;simp -implicitDefEqProofs only[go_sem,Tryz.results195];refine drawn Ys ?_;simp -implicitDefEqProofs only[go_sem,hli];refine⟨Ys,?_⟩;refine drawn Ys ?_;simp -implicitDefEqProofs only[go_sem,hlt,zac,qmg];refine⟨Ys,?_⟩;rw[hpw];refine drawn Ys ?_;simp -implicitDefEqProofs only[go_sem,hle];kernel_rfl
 ·have hli:((pos:Int)<code.length)=False:=by simp;omega
  have hle:(((pos+1:Nat):Int)<=code.length)=False:=by simp;omega
  rw[if_neg hlt,if_neg Yt];refine zbh Tryz.call195 Tryz.func195 rfl Ys (by simp only[Qb,Qe,Tryz.ntmps195];omega) (by simp only[Tryz.ntmps195];omega) rfl rfl (by simp[zau,T.isPin,AF.ds,bxA]) (by simp[gFS,T.fs,T.flat,AF.ds,bxA]) rfl ?_;simp -implicitDefEqProofs only[go_sem,Tryz.results195];refine drawn Ys ?_;simp -implicitDefEqProofs only[go_sem,hli];refine⟨Ys,?_⟩;rw[hpw];refine drawn Ys ?_;simp -implicitDefEqProofs only[go_sem,hle];refine⟨Ys,?_⟩;rw[show min 40 64=40 from rfl];exact⟨qgl _,Or.inl rfl⟩
theorem qlf (q:Cu)(hp:q.pos<=1099511627776)(n:Int)(hn:n<=200):PC Tryz.prog 134 (qfb q) [.p 0,.d false (iD n)] (qfb (q.pick n).1) [(true,iD (q.pick n).2)]:=by
 have HN:=qik q hp
 have hv:=q.v_bd
 unfold Cu.pick
 by_cases h1:n<=1
 ·rw[if_pos h1];refine zbh Tryz.call134 Tryz.func134 rfl Ys (by simp only[Qb,Qe,Tryz.ntmps134];omega) (by simp only[Tryz.ntmps134];omega) rfl rfl (by simp[zau,T.isPin,AF.ds,bxA]) (by simp[gFS,T.fs,T.flat,AF.ds,bxA]) rfl ?_;simp -implicitDefEqProofs only[go_sem,Tryz.results134,h1]
 ·have h2:(200<n)=False:=by simp;omega
  rw[if_neg h1];refine zbh Tryz.call134 Tryz.func134 rfl Ys (by simp only[Qb,Qe,Tryz.ntmps134];omega) (by simp only[Tryz.ntmps134];omega) rfl rfl (by simp[zau,T.isPin,AF.ds,bxA]) (by simp[gFS,T.fs,T.flat,AF.ds,bxA]) rfl ?_;simp -implicitDefEqProofs only[go_sem,Tryz.results134,h1];refine zaq [1,1000000] [8] [1000000] [] (HN) (by decide) rfl (by simp -implicitDefEqProofs only[go_sem,h2]) (by simp -implicitDefEqProofs only[go_sem,h2]) (by simp -implicitDefEqProofs only[go_sem,h2]) (by simp -implicitDefEqProofs only[go_sem,h2]) ?_;simp -implicitDefEqProofs only[go_sem,h2];have ht:0<=q.v.tmod n/\q.v.tmod n<n:=by
   rw[Int.tmod_eq_emod_of_nonneg hv.1];exact⟨Int.emod_nonneg _ Yt,Int.emod_lt_of_pos _ Yt⟩
  exact⟨Yt,Yt,Yt⟩
theorem one_c (q:Cu)(hp:q.pos<=1099511627776)(n:Int)(hn:n<=200):PC Tryz.prog 66 (qfb q) [.p 0,.d false (iD n)] (qfb (q.pick n).1) [(true,bD ((q.pick n).2==0))]:=by
 have HN:=qlf q hp n hn
 refine zbh Tryz.call66 Tryz.func66 rfl Ys (by simp only[Qb,Qe,Tryz.ntmps66];omega) (by simp only[Tryz.ntmps66];omega) rfl rfl (by simp[zau,T.isPin,AF.ds,bxA]) (by simp[gFS,T.fs,T.flat,AF.ds,bxA]) rfl ?_
 simp -implicitDefEqProofs only[go_sem,Tryz.results66]
 refine zaq [1000000] [5,6] [1000000] [] (HN) (by decide) rfl Yr Yr Yr Yr ?_
 simp -implicitDefEqProofs only[go_sem]
abbrev za4 (code:List UInt8)(q:Cu):Bxs:=[[(false,zou code),(false,.int .i64 q.pos),(false,.int .u64 q.seed)]]
theorem zvl {code:List UInt8}{q:Cu}(hc:q.code=code)(hp:q.pos<=1099511627776)(n:Int)(hn:n<=200):PC Tryz.prog 134 (za4 code q) [.p 0,.d false (iD n)] (za4 code (q.pick n).1) [(true,iD (q.pick n).2)]:=by
 subst hc
 have h:=qlf q hp n hn
 rw[show qfb (q.pick n).1=za4 q.code (q.pick n).1 by unfold qfb;rw[q.pick_code]]at h
 exact h
theorem one_k {code:List UInt8}{q:Cu}(hc:q.code=code)(hp:q.pos<=1099511627776)(n:Int)(hn:n<=200):PC Tryz.prog 66 (za4 code q) [.p 0,.d false (iD n)] (za4 code (q.pick n).1) [(true,bD ((q.pick n).2==0))]:=by
 subst hc
 have h:=one_c q hp n hn
 rw[show qfb (q.pick n).1=za4 q.code (q.pick n).1 by unfold qfb;rw[q.pick_code]]at h
 exact h
end
section
open Go.RowKit
theorem qlz {code:List UInt8}{q:Cu}(hc:q.code=code)(hp:q.pos<=1099511627776)(l:List Int)(hl:1<=l.length)(hn:l.length<=200):PC Tryz.prog 138 (za4 code q) [.p 0,.d true (.one (intS l))] (za4 code (ammQ q l).1) [(true,iD (ammQ q l).2)]:=by
 have HN:=zvl hc hp l.length Yt
 have hb:=q.pick_bd (n:=l.length) Yt
 unfold ammQ
 obtain⟨j,hj⟩:∃j:Nat,(q.pick l.length).2=j:=⟨(q.pick l.length).2.toNat,Yt⟩
 have hjl:j<l.length:=by omega
 rw[hj]at HN⊢
 refine zbh Tryz.call138 Tryz.func138 rfl Ys (by simp only[Qb,Qe,Tryz.ntmps138];omega) (by simp only[Tryz.ntmps138];omega) rfl rfl (by simp[zau,T.isPin,AF.ds,bxA]) (by simp[gFS,T.fs,T.flat,AF.ds,bxA]) rfl ?_
 simp -implicitDefEqProofs only[go_sem,Tryz.results138]
 refine zaq [5,1000000] [6,8] [1000000] [] (HN) (by decide) rfl (by simp -implicitDefEqProofs only[go_sem,hjl,zac]) (by simp -implicitDefEqProofs only[go_sem,hjl,zac]) (by simp -implicitDefEqProofs only[go_sem,hjl,zac]) (by simp -implicitDefEqProofs only[go_sem,hjl,zac]) ?_
 simp -implicitDefEqProofs only[go_sem,hjl,zac]
 exact Or.inl (by rw[List.getD_eq_getElem?_getD,List.getElem?_eq_getElem hjl];rfl)
end
section
open Go.RowKit
def Drw {α:Type}(code:List UInt8)(f:FuncId)(l:List AF)(c:Nat)(d:α->Bool×D)(ok:α->Prop):Prop :=
 ∀q:Cu,q.code=code->q.pos+c<=1099511627776->∃(q':Cu) (x:α),q'.code=code/\q'.pos<=q.pos+c/\ok x/\PC Tryz.prog f (za4 code q) l (za4 code q') [d x]
theorem zjn (code:List UInt8)(n:Int)(h1:1<=n)(hn:n<=200):Drw code 134 [.p 0,.d false (iD n)] 1 (fun x:Int=>(true,iD x)) (fun x=>0<=x/\x<n):=fun q hq hp =>
 ⟨(q.pick n).1,(q.pick n).2,(q.pick_code n).trans hq,(q.pick_pos n).2,q.pick_bd h1,zvl hq Yt n hn⟩
theorem qfe (code:List UInt8)(n:Int)(hn:n<=200):Drw code 66 [.p 0,.d false (iD n)] 1 (fun b:Bool=>(true,bD b)) (fun _=>True):=fun q hq hp =>
 ⟨(q.pick n).1,_,(q.pick_code n).trans hq,(q.pick_pos n).2,trivial,one_k hq Yt n hn⟩
theorem qjv (code:List UInt8)(l:List Int)(hl:1<=l.length)(hn:l.length<=200):Drw code 138 [.p 0,.d true (.one (intS l))] 1 (fun x:Int=>(true,iD x)) (fun x=>x∈l):=fun q hq hp=>by
 have hb:=q.pick_bd (n:=l.length) Yt
 refine⟨(ammQ q l).1,(ammQ q l).2,(q.pick_code _).trans hq,(q.pick_pos _).2,?_,qlz hq Yt l hl hn⟩
 have hj:(q.pick l.length).2.toNat<l.length:=by omega
 show l.getD (q.pick l.length).2.toNat 0∈l
 rw[List.getD_eq_getElem?_getD,List.getElem?_eq_getElem hj]
 exact Qd hj
theorem ofD (code:List UInt8)(l:List Str)(hl:1<=l.length)(hn:l.length<=200):Drw code 137 [.p 0,.d true (.one (zbm l))] 1 (fun x:Str=>(true,.one (.str x))) (fun x=>x∈l):=fun q hq hp=>by
 have HN:=zvl hq Yt l.length Yt
 have hb:=q.pick_bd (n:=l.length) Yt
 obtain⟨j,hj⟩:∃j:Nat,(q.pick l.length).2=j:=⟨(q.pick l.length).2.toNat,Yt⟩
 have hjl:j<l.length:=by omega
 refine⟨(q.pick l.length).1,l[j],(q.pick_code _).trans hq,(q.pick_pos _).2,Qd hjl,?_⟩
 rw[hj]at HN
 refine zbh Tryz.call137 Tryz.func137 rfl Ys (by simp only[Qb,Qe,Tryz.ntmps137];omega) (by simp only[Tryz.ntmps137];omega) rfl rfl (by simp[zau,T.isPin,AF.ds,bxA]) (by simp[gFS,T.fs,T.flat,AF.ds,bxA]) rfl ?_
 simp -implicitDefEqProofs only[go_sem,Tryz.results137]
 refine zaq [5,1000000] [6,8] [1000000] [] (HN) (by decide) rfl (by simp -implicitDefEqProofs only[go_sem,hjl,zac]) (by simp -implicitDefEqProofs only[go_sem,hjl,zac]) (by simp -implicitDefEqProofs only[go_sem,hjl,zac]) (by simp -implicitDefEqProofs only[go_sem,hjl,zac]) ?_
 simp -implicitDefEqProofs only[go_sem,hjl,zac]
abbrev grL:List Str:=[[88],[89],[90],[97],[98],[88],[97]]
structure TmG (t:Tm)(N D:Nat):Prop where
 nm:t.names=true
 nd:t.nodes<=N
 dp:t.depth<=D
theorem TmG.mono {t:Tm}{N D N' D':Nat}(h:TmG t N D)(hn:N<=N')(hd:D<=D'):TmG t N' D':=⟨h.nm,Q9 h.nd hn,Q9 h.dp hd⟩
theorem TmG.leaf {s:Str}(h:(Tm.mk s []).names=true):TmG (.mk s []) 1 1:=⟨h,by rw[Tm.nodes_eq];exact Qw _,by rw[Tm.depth_eq];exact Qw _⟩
theorem TmG.one {f:Str}{a:Tm}{N D:Nat}(ha:TmG a N D)(hf:za9 f=false/\zce f=true):TmG (.mk f [a]) (N+1) (D+1):=by
 refine⟨?_,?_,?_⟩
 ·rw[Tm.names_eq];show(if za9 f=true then _ else zce f&&decide ([a].length<=4)&&[a].all Tm.names)=true
  rw[hf.1,if_neg (by simp),hf.2];simp[ha.nm]
 ·rw[Tm.nodes_eq];show 1+([a].map Tm.nodes).sum<=_
  have:=ha.nd;simp only[Qi,Qk,Qz,Ks];omega
 ·rw[Tm.depth_eq];show([a].map Tm.depth).foldl max 0+1<=_
  have:=ha.dp;simp only[Qi,Qk,Jd,Yj];omega
theorem TmG.two {f:Str}{a b:Tm}{N D:Nat}(ha:TmG a N D)(hb:TmG b N D)(hf:za9 f=false/\zce f=true):TmG (.mk f [a,b]) (2*N+1) (D+1):=by
 refine⟨?_,?_,?_⟩
 ·rw[Tm.names_eq];show(if za9 f=true then _ else zce f&&decide ([a,b].length<=4)&&[a,b].all Tm.names)=true
  rw[hf.1,if_neg (by simp),hf.2];simp[ha.nm,hb.nm]
 ·rw[Tm.nodes_eq];show 1+([a,b].map Tm.nodes).sum<=_
  have:=ha.nd;have:=hb.nd;simp only[Qi,Qk,Qz,Ks];omega
 ·rw[Tm.depth_eq];show([a,b].map Tm.depth).foldl max 0+1<=_
  have:=ha.dp;have:=hb.dp;simp only[Qi,Qk,Jd,Yj];omega
theorem zwk {s:Str}(h:s∈grL):(Tm.mk s []).names=true:=(show ∀s∈grL,(Tm.mk s []).names=true by decide) s h
theorem zsh {l:List Str}(hl:∀s∈l,s.length<=8){s:Str}(h:s∈l):(Tm.mk s []).wt<=8:=by
 rw[Tm.wt_eq]
 have:=hl s h
 simp only[Tm.name,Tm.args,Qe,Qk,Ks]
 omega
theorem zmb (code:List UInt8)(d:Int)(hd:d<=1)(q:Cu)(hq:q.code=code)(hp:q.pos+1<=1099511627776):∃(q':Cu)(t:Tm),q'.code=code/\q'.pos<=q.pos+1/\(t.wt<=8/\TmG t 1 1)/\PC Tryz.prog 200 (za4 code q) [.p 0,.d false (iD d)] (za4 code q') [(true,tmD t)]:=by
 obtain⟨q1,s,c1,p1,o1,H1⟩:=ofD code grL (by simp) (by simp) q hq hp
 refine⟨q1,.mk s [],c1,p1,⟨zsh (by decide) o1,TmG.leaf (zwk o1)⟩,?_⟩
 have hd1:(d<=1)=True:=by simp[hd]
 refine zbh Tryz.call200 Tryz.func200 rfl Ys (by simp only[Qb,Qe,Tryz.ntmps200];omega) (by simp only[Tryz.ntmps200];omega) rfl rfl (by simp[zau,T.isPin,AF.ds,bxA]) (by simp[gFS,T.fs,T.flat,AF.ds,bxA]) rfl ?_
 simp -implicitDefEqProofs only[go_sem,Tryz.results200,hd1]
 refine zap Yr ?_
 simp -implicitDefEqProofs only[go_sem]
 refine zaq [4,1000000] [11,12] [1000000] [] (H1) (by decide) rfl Yr Yr Yr Yr ?_
 simp -implicitDefEqProofs only[go_sem]
 rw[zaa]
 left
 simp -implicitDefEqProofs only[go_sem,Tm.name,Tm.args,Qk]
theorem zmk (code:List UInt8)(k:Nat)(hk:k<=8)(c W N D:Nat)(hN:1<=N)(H:Drw code 200 [.p 0,.d false (iD ((k:Int)+1))] c (fun t:Tm=>(true,tmD t)) (fun t=>t.wt<=W/\TmG t N D)) :
  Drw code 200 [.p 0,.d false (iD ((k:Int)+2))] (2*c+3) (fun t:Tm=>(true,tmD t)) (fun t=>t.wt<=2*W+8/\TmG t (2*N+1) (D+1)):=fun q hq hp=>by
 have hd1:((k:Int)+2<=1)=False:=by simp;omega
 have hw:IntKind.i64.wrap ((k:Int)+2-1)=(k:Int)+1:=by rw[zbn Yt Yt];omega
 obtain⟨q1,b,c1,p1,_,H1⟩:=qfe code 3 Yt q hq Yt
 cases b
 ·obtain⟨q2,b2,c2,p2,_,H2⟩:=qfe code 2 Yt q1 c1 Yt;obtain⟨q3,t3,c3,p3,o3,H3⟩:=H q2 c2 Yt;simp only[tmD,zaa t3]at H3;cases b2
  ·obtain⟨q4,t4,c4,p4,o4,H4⟩:=H q3 c3 Yt;simp only[tmD,zaa t4]at H4;refine⟨q4,.mk [103] [t3,t4],c4,Yt,?_,?_⟩
   ·refine⟨?_,TmG.two o3.2 o4.2 (by decide)⟩;show(Tm.mk [103] [t3,t4]).wt<=2*W+8
    rw[Tm.wt_eq];simp only[Tm.name,Tm.args,Qb,Qe,Qi,Qk,Qz,Ks];omega
   ·refine zbh Tryz.call200 Tryz.func200 rfl Ys (by simp only[Qb,Qe,Tryz.ntmps200];omega) (by simp only[Tryz.ntmps200];omega) rfl rfl (by simp[zau,T.isPin,AF.ds,bxA]) (by simp[gFS,T.fs,T.flat,AF.ds,bxA]) rfl ?_;simp -implicitDefEqProofs only[go_sem,Tryz.results200,hd1];refine zaq [0,1,4,7,1000000] [8] [1000000] [] (H1) (by decide) rfl Yr Yr Yr Yr ?_;simp -implicitDefEqProofs only[go_sem];refine zaq [0,1,4,1000000] [15] [1000000] [] (H2) (by decide) rfl Yr Yr Yr Yr ?_;simp -implicitDefEqProofs only[go_sem];rw[hw];refine zaq [0,1,4,1000000] [23,25] [1000000] [] (H3) (by decide) rfl Yr Yr Yr Yr ?_;simp -implicitDefEqProofs only[go_sem];rw[hw];refine zaq [4,26,1000000] [27,29] [1000000] [] (H4) (by decide) rfl Yr Yr Yr Yr ?_;simp -implicitDefEqProofs only[go_sem];refine zap Yr ?_;simp -implicitDefEqProofs only[go_sem];rw[zaa (.mk [103] [t3,t4])];left;simp -implicitDefEqProofs only[go_sem,Tm.name,Tm.args,Qi,Qk,zaa t3,zaa t4]
  ·refine⟨q3,.mk [102] [t3],c3,Yt,?_,?_⟩
   ·refine⟨?_,(TmG.one o3.2 (by decide)).mono Yt (Qw _)⟩;show(Tm.mk [102] [t3]).wt<=2*W+8
    rw[Tm.wt_eq];simp only[Tm.name,Tm.args,Qb,Qe,Qi,Qk,Qz,Ks];omega
   ·refine zbh Tryz.call200 Tryz.func200 rfl Ys (by simp only[Qb,Qe,Tryz.ntmps200];omega) (by simp only[Tryz.ntmps200];omega) rfl rfl (by simp[zau,T.isPin,AF.ds,bxA]) (by simp[gFS,T.fs,T.flat,AF.ds,bxA]) rfl ?_;simp -implicitDefEqProofs only[go_sem,Tryz.results200,hd1];refine zaq [0,1,4,7,1000000] [8] [1000000] [] (H1) (by decide) rfl Yr Yr Yr Yr ?_;simp -implicitDefEqProofs only[go_sem];refine zaq [0,1,4,1000000] [15] [1000000] [] (H2) (by decide) rfl Yr Yr Yr Yr ?_;simp -implicitDefEqProofs only[go_sem];rw[hw];refine zaq [4,1000000] [17,19] [1000000] [] (H3) (by decide) rfl Yr Yr Yr Yr ?_;simp -implicitDefEqProofs only[go_sem];refine zap Yr ?_;simp -implicitDefEqProofs only[go_sem];rw[zaa (.mk [102] [t3])];left;simp -implicitDefEqProofs only[go_sem,Tm.name,Tm.args,Qi,Qk,zaa t3]
 ·obtain⟨q2,s,c2,p2,o2,H2⟩:=ofD code grL (by simp) (by simp) q1 c1 Yt;refine⟨q2,.mk s [],c2,Yt,⟨Q9 (zsh (by decide) o2) Yt,(TmG.leaf (zwk o2)).mono Yt Yt⟩,?_⟩;refine zbh Tryz.call200 Tryz.func200 rfl Ys (by simp only[Qb,Qe,Tryz.ntmps200];omega) (by simp only[Tryz.ntmps200];omega) rfl rfl (by simp[zau,T.isPin,AF.ds,bxA]) (by simp[gFS,T.fs,T.flat,AF.ds,bxA]) rfl ?_;simp -implicitDefEqProofs only[go_sem,Tryz.results200,hd1];refine zaq [0,1,4,7,1000000] [8] [1000000] [] (H1) (by decide) rfl Yr Yr Yr Yr ?_;simp -implicitDefEqProofs only[go_sem];refine zap Yr ?_;simp -implicitDefEqProofs only[go_sem];refine zaq [4,1000000] [11,12] [1000000] [] (H2) (by decide) rfl Yr Yr Yr Yr ?_;simp -implicitDefEqProofs only[go_sem];rw[zaa];left;simp -implicitDefEqProofs only[go_sem,Tm.name,Tm.args,Qk]
theorem Drw.mono {α:Type}{code:List UInt8}{f:FuncId}{l:List AF}{c c':Nat}{d:α->Bool×D}{ok ok':α->Prop}(h:Drw code f l c d ok)(hc:c<=c')(ho:∀x,ok x->ok' x):Drw code f l c' d ok':=fun q hq hp=>by
 obtain⟨q',x,c1,p1,o1,H⟩:=h q hq Yt
 exact⟨q',x,c1,Yt,ho x o1,H⟩
theorem zvj (code:List UInt8)(d:Int)(hd:d<=3):Drw code 200 [.p 0,.d false (iD d)] 13 (fun t:Tm=>(true,tmD t)) (fun t=>t.wt<=56/\TmG t 7 3):=by
 have g1:Drw code 200 [.p 0,.d false (iD (((0:Nat):Int)+1))] 1 (fun t:Tm=>(true,tmD t)) (fun t=>t.wt<=8/\TmG t 1 1):=fun q hq hp=>zmb code _ Yt q hq hp
 have g2:=zmk code 0 Yt 1 8 1 1 Yt g1
 have g3:=zmk code 1 Yt 5 24 3 2 Yt g2
 by_cases h1:d<=1
 ·exact Drw.mono (fun q hq hp=>zmb code d h1 q hq hp) (c:=1) (ok:=fun t=>t.wt<=8/\TmG t 1 1) Yt fun x h=>⟨Yt,h.2.mono Yt Yt⟩
 ·by_cases h2:d=2
  ·subst h2;exact g2.mono Yt fun x h=>⟨Yt,h.2.mono Yt Yt⟩
  ·have h3:d=3:=by omega
   subst h3;exact g3.mono Yt fun x h=>⟨Yt,h.2⟩
theorem zqc (code:List UInt8):Drw code 141 [.p 0] 14 (fun t:Tm=>(true,tmD t)) (fun t=>t.wt<=56/\TmG t 7 3):=fun q hq hp=>by
 obtain⟨q1,x,c1,p1,o1,H1⟩:=zjn code 3 Yt Yt q hq Yt
 obtain⟨q2,t,c2,p2,o2,H2⟩:=zvj code (1+x) Yt q1 c1 Yt
 have hw:IntKind.i64.wrap (1+x)=1+x:=zbn Yt Yt
 simp only[tmD,zaa t]at H2
 refine⟨q2,t,c2,Yt,o2,?_⟩
 simp only[tmD,zaa t]
 refine zbh Tryz.call141 Tryz.func141 rfl Ys (by simp only[Qb,Qe,Tryz.ntmps141];omega) (by simp only[Tryz.ntmps141];omega) rfl rfl (by simp[zau,T.isPin,AF.ds,bxA]) (by simp[gFS,T.fs,T.flat,AF.ds,bxA]) rfl ?_
 simp -implicitDefEqProofs only[go_sem,Tryz.results141]
 refine zaq [2,3,1000000] [4] [1000000] [] (H1) (by decide) rfl Yr Yr Yr Yr ?_
 simp -implicitDefEqProofs only[go_sem]
 rw[hw]
 refine zaq [2,1000000] [3,6] [1000000] [] (H2) (by decide) rfl Yr Yr Yr Yr ?_
 simp -implicitDefEqProofs only[go_sem]
end
section
open Go.RowKit
theorem zc6 (n:Str)(xs:List Tm):(Tm.mk n xs).wt=n.length+xs.length+(xs.map Tm.wt).sum:=Tm.wt_eq _
theorem atEq {a b:Tm}(ha:TmG a 7 3)(hb:TmG b 7 3):(Tm.mk [61] [a,b]).atomOk=true:=by
 have hs:zdh (.mk [61] [a,b])=true:=by
  unfold zdh;rw[Qc,Qr,Qr,Tm.nodes_eq,Tm.depth_eq];show 1+([a,b].map Tm.nodes).sum<=30/\([a,b].map Tm.depth).foldl max 0+1<=8
  have:=ha.nd;have:=hb.nd;have:=ha.dp;have:=hb.dp;simp only[Qi,Qk,Qz,Ks,Jd,Yj];omega
 show(if([61]==([61]:Str))=true then decide ([a,b].length=2)&&zdh (.mk [61] [a,b])&&[a,b].all Tm.names else _)=true
 rw[if_pos (show([61]==([61]:Str))=true from rfl),hs]
 simp[ha.nm,hb.nm]
theorem TmG.good {t:Tm}{N D:Nat}(h:TmG t N D)(hN:N<=30)(hD:D<=8):t.good=true:=by
 unfold Tm.good zdh
 rw[h.nm,decide_eq_true (Q9 h.nd hN),decide_eq_true (Q9 h.dp hD)];rfl
theorem atSym {t:Tm}{N D:Nat}(h:TmG t N D)(hs:(t.name==[61])=false/\zce t.name=true)(hN:N<=30)(hD:D<=8):t.atomOk=true:=by
 unfold Tm.atomOk
 rw[hs.1,if_neg (by simp),hs.2,h.good hN hD];rfl
theorem atomD (code:List UInt8):Drw code 236 [.p 0] 30 (fun t:Tm=>(true,tmD t)) (fun t=>t.wt<=200/\t.atomOk=true):=fun q hq hp=>by
 obtain⟨q1,x,c1,p1,o1,H1⟩:=zjn code 8 Yt Yt q hq Yt
 by_cases hx:x=0\/x=1
 ·obtain⟨q2,a,c2,p2,o2,H2⟩:=zqc code q1 c1 Yt;obtain⟨q3,b,c3,p3,o3,H3⟩:=zqc code q2 c2 Yt;simp only[tmD,zaa a]at H2;simp only[tmD,zaa b]at H3;refine⟨q3,.mk [61] [a,b],c3,Yt,?_,?_⟩
  ·refine⟨?_,atEq o2.2 o3.2⟩;show(Tm.mk [61] [a,b]).wt<=200
   rw[zc6];simp only[Qb,Qe,Qi,Qk,Qz,Ks];omega
  rcases hx with rfl|rfl
  all_goals
   refine zbh Tryz.call236 Tryz.func236 rfl Ys (by simp only[Qb,Qe,Tryz.ntmps236];omega) (by simp only[Tryz.ntmps236];omega) rfl rfl (by simp[zau,T.isPin,AF.ds,bxA]) (by simp[gFS,T.fs,T.flat,AF.ds,bxA]) rfl ?_;simp -implicitDefEqProofs only[go_sem,Tryz.results236];refine zaq [0,2,1000000] [3] [1000000] [] (H1) (by decide) rfl Yr Yr Yr Yr ?_;simp -implicitDefEqProofs only[go_sem];refine zaq [0,2,1000000] [8] [1000000] [] (H2) (by decide) rfl Yr Yr Yr Yr ?_;simp -implicitDefEqProofs only[go_sem];refine zaq [2,9,1000000] [10] [1000000] [] (H3) (by decide) rfl Yr Yr Yr Yr ?_;simp -implicitDefEqProofs only[go_sem];refine zap Yr ?_;simp -implicitDefEqProofs only[go_sem];rw[zaa (.mk [61] [a,b])];left;simp -implicitDefEqProofs only[go_sem,Tm.name,Tm.args,Qi,Qk,zaa a,zaa b]
 ·by_cases hx2:x=2
  ·subst hx2;refine⟨q1,.mk [114] [],c1,Yt,?_,?_⟩
   ·refine⟨?_,by decide⟩;show(Tm.mk [114] []).wt<=200
    rw[zc6];simp
   refine zbh Tryz.call236 Tryz.func236 rfl Ys (by simp only[Qb,Qe,Tryz.ntmps236];omega) (by simp only[Tryz.ntmps236];omega) rfl rfl (by simp[zau,T.isPin,AF.ds,bxA]) (by simp[gFS,T.fs,T.flat,AF.ds,bxA]) rfl ?_;simp -implicitDefEqProofs only[go_sem,Tryz.results236];refine zaq [0,2,1000000] [3] [1000000] [] (H1) (by decide) rfl Yr Yr Yr Yr ?_;simp -implicitDefEqProofs only[go_sem];rw[zaa (.mk [114] [])];left;simp -implicitDefEqProofs only[go_sem,Tm.name,Tm.args,Qi,Qk]
  ·by_cases hx3:x=3\/x=4
   ·obtain⟨q2,a,c2,p2,o2,H2⟩:=zvj code 2 Yt q1 c1 Yt;obtain⟨q3,b,c3,p3,o3,H3⟩:=zvj code 2 Yt q2 c2 Yt;simp only[tmD,zaa a]at H2;simp only[tmD,zaa b]at H3;refine⟨q3,.mk [113] [a,b],c3,Yt,?_,?_⟩
    ·refine⟨?_,atSym (TmG.two o2.2 o3.2 (by decide)) ⟨rfl,(by decide:zce [113]=true)⟩ Yt Yt⟩;show(Tm.mk [113] [a,b]).wt<=200
     rw[zc6];simp only[Qb,Qe,Qi,Qk,Qz,Ks];omega
    rcases hx3 with rfl|rfl
    all_goals
     refine zbh Tryz.call236 Tryz.func236 rfl Ys (by simp only[Qb,Qe,Tryz.ntmps236];omega) (by simp only[Tryz.ntmps236];omega) rfl rfl (by simp[zau,T.isPin,AF.ds,bxA]) (by simp[gFS,T.fs,T.flat,AF.ds,bxA]) rfl ?_;simp -implicitDefEqProofs only[go_sem,Tryz.results236];refine zaq [0,2,1000000] [3] [1000000] [] (H1) (by decide) rfl Yr Yr Yr Yr ?_;simp -implicitDefEqProofs only[go_sem];refine zaq [0,2,1000000] [20] [1000000] [] (H2) (by decide) rfl Yr Yr Yr Yr ?_;simp -implicitDefEqProofs only[go_sem];refine zaq [2,21,1000000] [22] [1000000] [] (H3) (by decide) rfl Yr Yr Yr Yr ?_;simp -implicitDefEqProofs only[go_sem];refine zap Yr ?_;simp -implicitDefEqProofs only[go_sem];rw[zaa (.mk [113] [a,b])];left;simp -implicitDefEqProofs only[go_sem,Tm.name,Tm.args,Qi,Qk,zaa a,zaa b]
   ·obtain⟨q2,a,c2,p2,o2,H2⟩:=zvj code 2 Yt q1 c1 Yt;simp only[tmD,zaa a]at H2;refine⟨q2,.mk [112] [a],c2,Yt,?_,?_⟩
    ·refine⟨?_,atSym (TmG.one o2.2 (by decide)) ⟨rfl,(by decide:zce [112]=true)⟩ Yt Yt⟩;show(Tm.mk [112] [a]).wt<=200
     rw[zc6];simp only[Qb,Qe,Qi,Qk,Qz,Ks];omega
    have e0:(x==0)=false:=by rw[Qy];omega
    have e1:(x==1)=false:=by rw[Qy];omega
    have e2:(x==2)=false:=by rw[Qy];omega
    have e3:(x==3)=false:=by rw[Qy];omega
    have e4:(x==4)=false:=by rw[Qy];omega
    refine zbh Tryz.call236 Tryz.func236 rfl Ys (by simp only[Qb,Qe,Tryz.ntmps236];omega) (by simp only[Tryz.ntmps236];omega) rfl rfl (by simp[zau,T.isPin,AF.ds,bxA]) (by simp[gFS,T.fs,T.flat,AF.ds,bxA]) rfl ?_;simp -implicitDefEqProofs only[go_sem,Tryz.results236];refine zaq [0,2,1000000] [3] [1000000] [] (H1) (by decide) rfl (by simp -implicitDefEqProofs only[go_sem,e0,e1,e2,e3,e4]) (by simp -implicitDefEqProofs only[go_sem,e0,e1,e2,e3,e4]) (by simp -implicitDefEqProofs only[go_sem,e0,e1,e2,e3,e4]) (by simp -implicitDefEqProofs only[go_sem,e0,e1,e2,e3,e4]) ?_;simp -implicitDefEqProofs only[go_sem,e0,e1,e2,e3,e4];refine zaq [2,1000000] [26] [1000000] [] (H2) (by decide) rfl Yr Yr Yr Yr ?_;simp -implicitDefEqProofs only[go_sem];refine zap Yr ?_;simp -implicitDefEqProofs only[go_sem];rw[zaa (.mk [112] [a])];left;simp -implicitDefEqProofs only[go_sem,Tm.name,Tm.args,Qi,Qk,zaa a]
def twT (t:Tm):Nat->Tm
 | 0=>t
 | k+1=>.mk [102] [twT t k]
theorem qkl (t:Tm):∀k:Nat,(twT t k).wt=t.wt+2*k
 | 0=>rfl
 | k+1=>by
  show(Tm.mk [102] [twT t k]).wt=_
  rw[zc6,Qi,Qk,Qz,Ks,qkl t k];simp only[Qb,Qe];omega
abbrev twL:List Str:=[[88],[97]]
def twS (code:List UInt8)(q:Cu)(s:Str)(n:Nat):Nat->St
 | 0=>hd [(1,vI n),(4,.one (.bx 4 0)),(5,.one (.bx 5 0)),(1000000,.one (.bx 1000000 0))] [(4,[.t (.str []),.nl 2]),(5,[.t (.str s),.nl 2]),(1000000,[.rn (zou code),.t (.int .i64 q.pos),.t (.int .u64 q.seed)])] []
 | k+1=>hd [(1,.one (.t (.int .i64 ((n:Int)-(k+1))))),(4,.one (.bx 4 0)),(5,.one (.bx 5 0)),(1000000,.one (.bx 1000000 0))] [(4,[.t (.str []),.nl 2]),(5,[.t (.str [102]),.ow 5000 0]),(1000000,[.rn (zou code),.t (.int .i64 q.pos),.t (.int .u64 q.seed)])] [(5000,⟨true,2,[tmC (twT (.mk s []) k)],0,true⟩)]
theorem towerD (code:List UInt8)(n:Nat)(hn:n<=20):Drw code 243 [.p 0,.d false (iD (n:Int))] 1 (fun t:Tm=>(true,tmD t)) (fun t=>t.wt<=60):=fun q hq hp=>by
 obtain⟨q1,s,c1,p1,o1,H1⟩:=ofD code twL (by simp) (by simp) q hq hp
 refine⟨q1,twT (.mk s []) (n-1),c1,p1,?_,?_⟩
 ·show(twT (.mk s []) (n-1)).wt<=60
  rw[qkl];have:=zsh (l:=twL) (by decide) o1;omega
 refine zbh Tryz.call243 Tryz.func243 rfl Ys (by simp only[Qb,Qe,Tryz.ntmps243];omega) (by simp only[Tryz.ntmps243];omega) rfl rfl (by simp[zau,T.isPin,AF.ds,bxA]) (by simp[gFS,T.fs,T.flat,AF.ds,bxA]) rfl ?_
 simp -implicitDefEqProofs only[go_sem,Tryz.results243]
 refine zap Yr ?_
 simp -implicitDefEqProofs only[go_sem]
 refine zaq [1,4,1000000] [6,7] [1000000] [] (H1) (by decide) rfl Yr Yr Yr Yr ?_
 simp -implicitDefEqProofs only[go_sem]
 refine zaf (twS code q1 s n) (fun k=>k<=n-1) (fun k=>n-k) 0 (zad ?_) (Q1 _) ?_
 ·simp -implicitDefEqProofs only[go_sem]
 ·intro k hk;by_cases hlt:k+1<n
  ·cases k with
   | zero =>
    have h0:(1<(n:Int))=True:=by simp;omega
    have hwk:IntKind.i64.wrap ((n:Int)-1)=(n:Int)-1:=zbn Yt Yt;show ex _ _ _ _ (hd _ _ _)
    simp -implicitDefEqProofs only[go_sem,h0];refine zap Yr ?_;simp -implicitDefEqProofs only[go_sem];rw[hwk];refine⟨1,Yt,Yt,zch 480 5000 ?_⟩;simp -implicitDefEqProofs only[go_sem];rw[show twT (.mk s []) 0=.mk s [] from rfl,zaa (.mk s [])];rfl
   | succ k =>
    have h0:(1<(n:Int)-((k:Int)+1))=True:=by simp;omega
    have hwk:IntKind.i64.wrap ((n:Int)-((k:Int)+1)-1)=(n:Int)-((k:Int)+1+1):=by rw[zbn Yt Yt];omega
    show ex _ _ _ _ (hd _ _ _)
    simp -implicitDefEqProofs only[go_sem,h0];refine zap Yr ?_;simp -implicitDefEqProofs only[go_sem];rw[hwk];refine⟨k+2,Yt,Yt,zch 480 5000 ?_⟩;simp -implicitDefEqProofs only[go_sem];rw[show twT (.mk s []) (k+1)=.mk [102] [twT (.mk s []) k] from rfl,zaa (.mk [102] [twT (.mk s []) k]),show((k+1:Nat):Int)=(k:Int)+1 by omega];exact⟨rfl,rfl⟩
  ·cases k with
   | zero =>
    have h0:(1<(n:Int))=False:=by simp;omega
    have e:n-1=0:=by omega
    rw[e];show ex _ _ _ _ (hd _ _ _)
    simp -implicitDefEqProofs only[go_sem,h0];rw[show twT (.mk s []) 0=.mk s [] from rfl,zaa (.mk s [])];left;simp -implicitDefEqProofs only[go_sem,Tm.name,Tm.args,Qk]
   | succ k =>
    have h0:(1<(n:Int)-((k:Int)+1))=False:=by simp;omega
    have e:n-1=k+1:=by omega
    rw[e];show ex _ _ _ _ (hd _ _ _)
    simp -implicitDefEqProofs only[go_sem,h0];rw[show twT (.mk s []) (k+1)=.mk [102] [twT (.mk s []) k] from rfl,zaa (.mk [102] [twT (.mk s []) k])];left;simp -implicitDefEqProofs only[go_sem,Tm.name,Tm.args,Qi,Qk]
end
section
open Go.RowKit
variable {P:Program}
theorem zmc {sz:Nat}:∀{rows:List (List T)}(k:Nat),lens sz rows->(rows.take k).flatten=rows.flatten.take (k*sz)
 | [],k,_=>by simp
 | r::rs,0,_=>by simp
 | r::rs,k+1,h=>by
  have h1:=h r (by simp);rw[List.take_succ_cons,Q4,Q4,zmc k fun y hy=>h y (by simp[hy]),show(k+1)*sz=r.length+k*sz by rw[h1,Kl];omega,List.take_length_add_append]
theorem qhv {σ:St}{K:St->Prop}{d:Nat}{t el:TypeId}{x hi:Operand}{ty:TypeId}{ps:String}{af:Array Edge}{e gn sz k:Nat}{rows:List (List T)}{kk:IntKind}(s1:σ.get P t x=.one (.ow e gn))(s2:σ.get P 0 hi=.one (.t (.int kk k)))(he:σ.ev e=some ⟨true,sz,rows,gn,true⟩)
  (hkl:k<=rows.length) (hk0:0<rows.length) (hel:elT P t=some el) (hsz:zbt P el=some sz) (hK:K ((σ.apd e [] ⟨true,sz,rows.take k,gn+1,true⟩).put (some d) (.one (.ow e (gn+1))))):zb2 P ⟨some d,.slice t x none (some hi) none,ty,ps,af,none⟩ σ K:=by
 intro n0 N g a w hR hn hdN
 have v1:=hR.get P t x
 rw[s1]at v1
 obtain⟨v1,-⟩:=v1
 obtain⟨vs0,fps,top,hT⟩:=hR.tgt he rfl
 have hlens:=hT.lens
 simp only at hlens
 rcases hT.val with⟨_,hh,_⟩|⟨b,cap,cells,cty,w1,w2,w3,w4,w5,w6,w7⟩
 ·simp only at hh;rw[hh]at hk0;simp at hk0
 simp only at w1 w2 w5 w6
 have hown:=hT.own rfl
 simp only at hown
 have hl2:lens sz (rows.take k):=fun r hr=>hlens r (List.mem_of_mem_take hr)
 rw[<-K0 (k*sz) rows.flatten,<-zmc k hlens]at hown
 obtain⟨u1,u2,f1,f2,hu,hf,k1,k2⟩:=hown.split
 have hnd:(b::f1).Nodup:=Ja.2 ⟨fun hb=>hT.topfp b w7.symm (by rw[hf];exact J7 _ hb),(Ka.1 (hf▸hT.nodup)).1⟩
 have hbn:=zew (P:=P) (low:=none) (high:=some hi) (len:=rows.length) (cap:=cap) hR true (l:=0) (u:=(k:Int)) rfl (by simp only[zlp,s2]) Yt Yt Yt w2
 have hun:P.underlying t=some (.slice el):=zic hel
 have e0:(execOp a.eval ⟨some d,.slice t x none (some hi) none,ty,ps,af,none⟩).run P w=.ok (.value (.slice (some ⟨b,0,none⟩) k cap)) w:=by
  unfold execOp;have hcp:¬cap=0:=by omega
  rw[Jw,show((0:Int).toNat)=0 from rfl,Kc,J2]at hbn;simp only[Instr.sliceAt,Instr.slice,Sem.run_bind,run_underlying hun,Result.andThen,v1,w1,Kc,J2,hbn,zcm hsz,Sem.run_pure];rw[if_neg hcp];simp only[Addr.add]
  congr 2
  simp
 unfold Oper.wp
 rw[e0]
 have hTl:(rows.take k).length=k:=by rw[Qo];omega
 have hR':=hR.apd_fin (w':=w) (y:=⟨true,sz,rows.take k,gn+1,true⟩) (v':=.slice (some ⟨b,0,none⟩) k cap) (fp':=b::f1) (fps2:=[]) hT rfl (fun m hm=>by
   obtain⟨q,hq,hmq⟩:=hm;rw[he,Qf]at hq;subst hq;simp only at hmq⊢
   exact⟨Yt,fun em=>by omega⟩) (cons:=[]) (fun p hp=>by simp at hp) (fun b hb=>by simp at hb) b (Or.inl w7.symm) (fun k _ _=>rfl) (Qw _) hn hnd (fun c hc=>by
   rcases Qu.1 hc with h|h
   ·exact Or.inl h
   ·exact Or.inr (Or.inl (by rw[hf];exact J7 _ h))) (fun c hc=>by simpa using hc.symm) fun A' hA'=>by
  refine⟨some ⟨b,0,none⟩,cap,by simp only[hTl],by simp only[hTl];omega,w3,Or.inr ⟨b,cells,cty,f1,rfl,rfl,w4,w5,?_⟩⟩;simp only[if_true];refine zao.of_vals hl2 k1 fun j u hj=>?_;have hju:vs0[j]?=some u:=by rw[hu,List.getElem?_append_left (List.getElem?_eq_some_iff.1 hj).1];exact hj
  have hc:cells.toList[j]?=some u:=by
   rw[<-w6,List.getElem?_take]at hju;split at hju
   ·exact hju
   ·cases hju
  rw[Q2];simpa using hc
 have hE:(σ.apd e [] ⟨true,sz,rows.take k,gn+1,true⟩).ev e=some ⟨true,sz,rows.take k,gn+1,true⟩:=by simp[St.apd,zag]
 exact⟨_,_,hK,hR'.put (some d) (x:=.one (.ow e (gn+1))) (v:=.slice (some ⟨b,0,none⟩) k cap) ⟨by simp only[zag],_,hE,Qw _⟩ (fun j hj=>hdN j hj),Bk.refl _ _,rfl,rfl⟩
def ctM (P:Program)(t:TypeId)(x hi:Operand)(d:Nat)(K:St->Prop)(σ:St):Prop:=match σ.get P t x,σ.get P 0 hi with
 | .one (.ow e gn),.one (.t (.int _ k))=>zav (σ.ev e) fun y=>y.gen=gn/\y.deep=true/\y.on=true/\(0<=k/\k<=y.rows.length/\0<y.rows.length)/\(elT P t).bind (zbt P)=some y.sz/\K ((σ.apd e [] ⟨true,y.sz,y.rows.take k.toNat,gn+1,true⟩).put (some d) (.one (.ow e (gn+1))))
 | _,_=>False
theorem cutF {ks:List Fr}{Q:Exit->St->Prop}{σ:St}{ops:Array Oper}{os:List Oper}{d:Nat}{t:TypeId}{x hi:Operand}{ty:TypeId}{ps:String}{af:Array Edge}(k:ctM P t x hi d (exo P ops os ks Q) σ):exoS P ops ⟨some d,.slice t x none (some hi) none,ty,ps,af,none⟩ os ks Q σ:=by
 unfold ctM at k
 split at k
 ·rename_i e gn kk k' s1 s2;obtain⟨y,he,h3⟩:=zar k;obtain⟨dp,sz,rows,g',on⟩:=y;obtain⟨rfl,rfl,rfl,⟨h0,hl,hl0⟩,hsz,hK⟩:=h3;simp only at hl hl0 hsz hK;obtain⟨kn,rfl⟩:∃kn:Nat,k'=kn:=⟨k'.toNat,Yt⟩;obtain⟨el,hel,hse⟩:=Qg.1 hsz;rw[Jw]at hK;exact qhv s1 s2 he Yt hl0 hel hse hK
 ·exact k.elim
attribute [go_sem] ctM
end
section
open Go.RowKit
def fa:Tm:=.mk [102] [.mk [97] []]
def fb:Tm:=.mk [102] [.mk [98] []]
def hpt (k:Nat):Tm:=.mk [104] (List.replicate k fa)
def wdR (b1 b2:Bool):Tm:=.mk [103] (if b1=true then (if b2=true then [hpt 4,hpt 4,hpt 4,fb]else [hpt 4,hpt 4,hpt 4])else [hpt 4,hpt 4,hpt 4,hpt 4])
theorem fa_c:tmC fa=[.str [102],.sl 2 [[.str [97],.sl 2 []]]]:=rfl
theorem rep_c (x:Tm)(k:Nat):(List.replicate (k+1) x).map tmC=(List.replicate k x).map tmC++[tmC x]:=by
 rw[List.replicate_succ',Qt];rfl
theorem wideD (code:List UInt8):Drw code 244 [.p 0] 2 (fun t:Tm=>(true,tmD t)) (fun t=>t.wt<=200):=fun q hq hp=>by
 obtain⟨q1,b1,c1,p1,_,H1⟩:=qfe code 2 Yt q hq Yt
 obtain⟨q2,b2,c2,p2,_,H2⟩:=qfe code 2 Yt q1 c1 Yt
 refine⟨q2,wdR b1 b2,c2,Yt,?_,?_⟩
 ·show(wdR b1 b2).wt<=200
  cases b1<;>cases b2<;>decide
 refine zbh Tryz.call244 Tryz.func244 rfl Ys (by simp only[Qb,Qe,Tryz.ntmps244];omega) (by simp only[Tryz.ntmps244];omega) rfl rfl (by simp[zau,T.isPin,AF.ds,bxA]) (by simp[gFS,T.fs,T.flat,AF.ds,bxA]) rfl ?_
 simp -implicitDefEqProofs only[go_sem,Tryz.results244]
 refine zaf (fun i:Nat=>hd [(0,.one (.bx 1000000 0)),(2,.one (.bx 2 0)),(3,.one (.bx 3 0)),(4,vI i),(1000000,.one (.bx 1000000 0))] [(2,[.t (.str []),.nl 2]),(3,[.t (.str [103]),.ow 6000 i]),(1000000,[.rn (zou code),.t (.int .i64 q.pos),.t (.int .u64 q.seed)])] [(6000,⟨true,2,(List.replicate i (hpt 4)).map tmC,i,true⟩)]) (fun i=>i<=4) (fun i=>4-i) 0 (zad ?_) (Q1 _) ?_
 ·simp -implicitDefEqProofs only[go_sem]
 ·intro i hi;by_cases hlt:i<4
  ·have h0:((i:Int)<4)=True:=by simp;omega
   simp -implicitDefEqProofs only[go_sem,h0];refine zaf (fun k:Nat=>hd [(0,.one (.bx 1000000 0)),(2,.one (.bx 2 0)),(3,.one (.bx 3 0)),(4,vI i),(5,.one (.bx 5 0)),(6,vI k),(1000000,.one (.bx 1000000 0))] [(2,[.t (.str []),.nl 2]),(3,[.t (.str [103]),.ow 6000 i]),(5,[.t (.str [104]),.ow 7000 k]),(1000000,[.rn (zou code),.t (.int .i64 q.pos),.t (.int .u64 q.seed)])] [(7000,⟨true,2,(List.replicate k fa).map tmC,k,true⟩),(6000,⟨true,2,(List.replicate i (hpt 4)).map tmC,i,true⟩)]) (fun k=>k<=4) (fun k=>4-k) 0 (zad ?_) (Q1 _) ?_
   ·simp -implicitDefEqProofs only[go_sem]
   ·intro k hk;by_cases hlk:k<4
    ·have h1:((k:Int)<4)=True:=by simp;omega
     simp -implicitDefEqProofs only[go_sem,h1];refine zap Yr ?_;simp -implicitDefEqProofs only[go_sem];refine zap Yr ?_;simp -implicitDefEqProofs only[go_sem];have hk4:k<=4294967295:=by omega
     refine apD true (by simp -implicitDefEqProofs only[go_sem,ne_eq,Qa,K9,hk4]) ?_;simp -implicitDefEqProofs only[go_sem,ne_eq,Qa,K9,hk4];have hwk:IntKind.i64.wrap ((k:Int)+1)=((k+1:Nat):Int):=zam Yt;refine⟨k+1,Yt,Yt,zad ?_⟩;rw[rep_c,fa_c];simp -implicitDefEqProofs only[go_sem];rw[hwk]
    ·have h1:((k:Int)<4)=False:=by simp;omega
     have e4:k=4:=by omega
     simp -implicitDefEqProofs only[go_sem,h1];refine zap Yr ?_;simp -implicitDefEqProofs only[go_sem];have hi4:i<=4294967295:=by omega
     refine apD true (by simp -implicitDefEqProofs only[go_sem,ne_eq,Qa,K9,hi4]) ?_;simp -implicitDefEqProofs only[go_sem,ne_eq,Qa,K9,hi4];have hwk:IntKind.i64.wrap ((i:Int)+1)=((i+1:Nat):Int):=zam Yt;refine⟨i+1,Yt,Yt,zad ?_⟩;rw[rep_c];simp -implicitDefEqProofs only[go_sem];rw[hwk,e4];exact⟨rfl,rfl⟩
  ·have h0:((i:Int)<4)=False:=by simp;omega
   have e4:i=4:=by omega
   simp -implicitDefEqProofs only[go_sem,h0];subst e4;refine zaq [0,2,3,1000000] [31] [1000000] [] (H1) (by decide) rfl Yr Yr Yr Yr ?_;simp -implicitDefEqProofs only[go_sem];refine⟨fun hb=>?_,fun hb=>?_⟩
   ·subst hb;refine cutF ?_;simp -implicitDefEqProofs only[go_sem,ctM,Qa,K9];cases b2
    ·refine zaq [2,3,1000000] [37] [1000000] [] (H2) (by decide) rfl Yr Yr Yr Yr ?_;simp -implicitDefEqProofs only[go_sem];rw[show tmC (wdR true false)=[.str [103],.sl 2 [tmC (hpt 4),tmC (hpt 4),tmC (hpt 4)]] from rfl];left;simp -implicitDefEqProofs only[go_sem]
    ·refine zaq [2,3,1000000] [37] [1000000] [] (H2) (by decide) rfl Yr Yr Yr Yr ?_;simp -implicitDefEqProofs only[go_sem];refine zap Yr ?_;simp -implicitDefEqProofs only[go_sem];refine zap Yr ?_;simp -implicitDefEqProofs only[go_sem];refine apD true (by simp -implicitDefEqProofs only[go_sem,ne_eq,Qb,Qe]) ?_;simp -implicitDefEqProofs only[go_sem,ne_eq,Qb,Qe];rw[show tmC (wdR true true)=[.str [103],.sl 2 [tmC (hpt 4),tmC (hpt 4),tmC (hpt 4),tmC fb]] from rfl];left;simp -implicitDefEqProofs only[go_sem];exact Or.inl rfl
   ·subst hb;cases b2
    ·refine zaq [2,3,1000000] [37] [1000000] [] (H2) (by decide) rfl Yr Yr Yr Yr ?_;simp -implicitDefEqProofs only[go_sem];rw[show tmC (wdR false false)=[.str [103],.sl 2 [tmC (hpt 4),tmC (hpt 4),tmC (hpt 4),tmC (hpt 4)]] from rfl];left;simp -implicitDefEqProofs only[go_sem]
    ·refine zaq [2,3,1000000] [37] [1000000] [] (H2) (by decide) rfl Yr Yr Yr Yr ?_;simp -implicitDefEqProofs only[go_sem];rw[show tmC (wdR false true)=[.str [103],.sl 2 [tmC (hpt 4),tmC (hpt 4),tmC (hpt 4),tmC (hpt 4)]] from rfl];left;simp -implicitDefEqProofs only[go_sem]
end
section
open Go.RowKit
theorem zwf (code:List UInt8)(q q1 q2:Cu)(t:Tm)(x:Int)(hx:5<=x\/x=4/\t.args=[])(H1:PC Tryz.prog 141 (za4 code q) [.p 0] (za4 code q1) [(true,tmD t)])(H2:PC Tryz.prog 134 (za4 code q1) [.p 0,.d false (iD 24)] (za4 code q2) [(true,iD x)]) :
  PC Tryz.prog 201 (za4 code q) [.p 0] (za4 code q2) [(true,tmD t)]:=by
 have e0:(x==0)=false:=by rw[Qy];omega
 have e1:(x==1)=false:=by rw[Qy];omega
 have e2:(x==2)=false:=by rw[Qy];omega
 have e3:(x==3)=false:=by rw[Qy];omega
 simp only[tmD,zaa t]at H1⊢
 rcases hx with hx|⟨hx,ha⟩
 ·have e4:(x==4)=false:=by rw[Qy];omega
  refine zbh Tryz.call201 Tryz.func201 rfl Ys (by simp only[Qb,Qe,Tryz.ntmps201];omega) (by simp only[Tryz.ntmps201];omega) rfl rfl (by simp[zau,T.isPin,AF.ds,bxA]) (by simp[gFS,T.fs,T.flat,AF.ds,bxA]) rfl ?_;simp -implicitDefEqProofs only[go_sem,Tryz.results201];refine zaq [0,2,1000000] [4] [1000000] [] (H1) (by decide) rfl Yr Yr Yr Yr ?_;simp -implicitDefEqProofs only[go_sem];refine zaq [0,2,3,1000000] [6] [1000000] [] (H2) (by decide) rfl (by simp -implicitDefEqProofs only[go_sem,e0,e1,e2,e3,e4]) (by simp -implicitDefEqProofs only[go_sem,e0,e1,e2,e3,e4]) (by simp -implicitDefEqProofs only[go_sem,e0,e1,e2,e3,e4]) (by simp -implicitDefEqProofs only[go_sem,e0,e1,e2,e3,e4]) ?_;simp -implicitDefEqProofs only[go_sem,e0,e1,e2,e3,e4]
 ·subst hx;rw[ha]at H1⊢;refine zbh Tryz.call201 Tryz.func201 rfl Ys (by simp only[Qb,Qe,Tryz.ntmps201];omega) (by simp only[Tryz.ntmps201];omega) rfl rfl (by simp[zau,T.isPin,AF.ds,bxA]) (by simp[gFS,T.fs,T.flat,AF.ds,bxA]) rfl ?_;simp -implicitDefEqProofs only[go_sem,Tryz.results201];refine zaq [0,2,1000000] [4] [1000000] [] (H1) (by decide) rfl Yr Yr Yr Yr ?_;simp -implicitDefEqProofs only[go_sem];refine zaq [0,2,3,1000000] [6] [1000000] [] (H2) (by decide) rfl (by simp -implicitDefEqProofs only[go_sem,Qe,Qk]) (by simp -implicitDefEqProofs only[go_sem,Qe,Qk]) (by simp -implicitDefEqProofs only[go_sem,Qe,Qk]) (by simp -implicitDefEqProofs only[go_sem,Qe,Qk]) ?_;simp -implicitDefEqProofs only[go_sem,Qe,Qk]
abbrev nmL:List Str:=[[],[116,114,117,101],[116,114,117,116,104],[105,102],[88,121,122,57],[88,121,122,57,57],[120,65],[97,95,98],[97,98,99,100,101,102],[97,98,99,100,101,102,103],[95,97],[57],[88,95],[61]]
theorem qg0 (code:List UInt8)(q q1 q2 q3:Cu)(t:Tm)(s:Str)(H1:PC Tryz.prog 141 (za4 code q) [.p 0] (za4 code q1) [(true,tmD t)])(H2:PC Tryz.prog 134 (za4 code q1) [.p 0,.d false (iD 24)] (za4 code q2) [(true,iD 0)])
  (H3:PC Tryz.prog 137 (za4 code q2) [.p 0,.d true (.one (zbm nmL))] (za4 code q3) [(true,.one (.str s))]) :
  PC Tryz.prog 201 (za4 code q) [.p 0] (za4 code q3) [(true,tmD (.mk s t.args))]:=by
 simp only[tmD,zaa t]at H1
 unfold tmD
 rw[show tmC (.mk s t.args)=[.str s,.sl 2 (t.args.map tmC)] from zaa _]
 refine zbh Tryz.call201 Tryz.func201 rfl Ys (by simp only[Qb,Qe,Tryz.ntmps201];omega) (by simp only[Tryz.ntmps201];omega) rfl rfl (by simp[zau,T.isPin,AF.ds,bxA]) (by simp[gFS,T.fs,T.flat,AF.ds,bxA]) rfl ?_
 simp -implicitDefEqProofs only[go_sem,Tryz.results201]
 refine zaq [0,2,1000000] [4] [1000000] [] (H1) (by decide) rfl Yr Yr Yr Yr ?_
 simp -implicitDefEqProofs only[go_sem]
 refine zaq [0,2,3,1000000] [6] [1000000] [] (H2) (by decide) rfl Yr Yr Yr Yr ?_
 simp -implicitDefEqProofs only[go_sem]
 refine zap Yr ?_
 simp -implicitDefEqProofs only[go_sem]
 refine zaq [2,3,1000000] [10,11] [1000000] [] (H3) (by decide) rfl Yr Yr Yr Yr ?_
 simp -implicitDefEqProofs only[go_sem]
theorem qca (code:List UInt8)(q q1 q2 q3 q4:Cu)(t t2:Tm)(x:Int)(hx:0<=x/\x<3)(H1:PC Tryz.prog 141 (za4 code q) [.p 0] (za4 code q1) [(true,tmD t)])(H2:PC Tryz.prog 134 (za4 code q1) [.p 0,.d false (iD 24)] (za4 code q2) [(true,iD 1)])
  (H3:PC Tryz.prog 134 (za4 code q2) [.p 0,.d false (iD 3)] (za4 code q3) [(true,iD x)]) (H4:PC Tryz.prog 243 (za4 code q3) [.p 0,.d false (iD (7+x))] (za4 code q4) [(true,tmD t2)]) :
  PC Tryz.prog 201 (za4 code q) [.p 0] (za4 code q4) [(true,tmD t2)]:=by
 have hw:IntKind.i64.wrap (7+x)=7+x:=zbn Yt Yt
 simp only[tmD,zaa t]at H1
 simp only[tmD,zaa t2]at H4⊢
 refine zbh Tryz.call201 Tryz.func201 rfl Ys (by simp only[Qb,Qe,Tryz.ntmps201];omega) (by simp only[Tryz.ntmps201];omega) rfl rfl (by simp[zau,T.isPin,AF.ds,bxA]) (by simp[gFS,T.fs,T.flat,AF.ds,bxA]) rfl ?_
 simp -implicitDefEqProofs only[go_sem,Tryz.results201]
 refine zaq [0,2,1000000] [4] [1000000] [] (H1) (by decide) rfl Yr Yr Yr Yr ?_
 simp -implicitDefEqProofs only[go_sem]
 refine zaq [0,2,3,1000000] [6] [1000000] [] (H2) (by decide) rfl Yr Yr Yr Yr ?_
 simp -implicitDefEqProofs only[go_sem]
 refine zaq [2,16,1000000] [17] [1000000] [] (H3) (by decide) rfl Yr Yr Yr Yr ?_
 simp -implicitDefEqProofs only[go_sem]
 rw[hw]
 refine zaq [2,1000000] [16,19] [1000000] [] (H4) (by decide) rfl Yr Yr Yr Yr ?_
 simp -implicitDefEqProofs only[go_sem]
theorem qis (code:List UInt8)(q q1 q2 q3:Cu)(t t2:Tm)(H1:PC Tryz.prog 141 (za4 code q) [.p 0] (za4 code q1) [(true,tmD t)])(H2:PC Tryz.prog 134 (za4 code q1) [.p 0,.d false (iD 24)] (za4 code q2) [(true,iD 2)])
  (H3:PC Tryz.prog 244 (za4 code q2) [.p 0] (za4 code q3) [(true,tmD t2)]) :
  PC Tryz.prog 201 (za4 code q) [.p 0] (za4 code q3) [(true,tmD t2)]:=by
 simp only[tmD,zaa t]at H1
 simp only[tmD,zaa t2]at H3⊢
 refine zbh Tryz.call201 Tryz.func201 rfl Ys (by simp only[Qb,Qe,Tryz.ntmps201];omega) (by simp only[Tryz.ntmps201];omega) rfl rfl (by simp[zau,T.isPin,AF.ds,bxA]) (by simp[gFS,T.fs,T.flat,AF.ds,bxA]) rfl ?_
 simp -implicitDefEqProofs only[go_sem,Tryz.results201]
 refine zaq [0,2,1000000] [4] [1000000] [] (H1) (by decide) rfl Yr Yr Yr Yr ?_
 simp -implicitDefEqProofs only[go_sem]
 refine zaq [0,2,3,1000000] [6] [1000000] [] (H2) (by decide) rfl Yr Yr Yr Yr ?_
 simp -implicitDefEqProofs only[go_sem]
 refine zaq [2,1000000] [23] [1000000] [] (H3) (by decide) rfl Yr Yr Yr Yr ?_
 simp -implicitDefEqProofs only[go_sem]
theorem qih (code:List UInt8)(q q1 q2 q3 q4 q5:Cu)(t a b c:Tm)(hl:t.args.length<=100)(H1:PC Tryz.prog 141 (za4 code q) [.p 0] (za4 code q1) [(true,tmD t)])(H2:PC Tryz.prog 134 (za4 code q1) [.p 0,.d false (iD 24)] (za4 code q2) [(true,iD 3)])
  (H3:PC Tryz.prog 141 (za4 code q2) [.p 0] (za4 code q3) [(true,tmD a)]) (H4:PC Tryz.prog 141 (za4 code q3) [.p 0] (za4 code q4) [(true,tmD b)]) (H5:PC Tryz.prog 141 (za4 code q4) [.p 0] (za4 code q5) [(true,tmD c)]) :
  PC Tryz.prog 201 (za4 code q) [.p 0] (za4 code q5) [(true,tmD (.mk t.name (t.args++[a,b,c])))]:=by
 simp only[tmD,zaa t]at H1
 simp only[tmD,zaa a]at H3
 simp only[tmD,zaa b]at H4
 simp only[tmD,zaa c]at H5
 unfold tmD
 rw[show tmC (.mk t.name (t.args++[a,b,c]))=[.str t.name,.sl 2 ((t.args++[a,b,c]).map tmC)] from zaa _]
 refine zbh Tryz.call201 Tryz.func201 rfl Ys (by simp only[Qb,Qe,Tryz.ntmps201];omega) (by simp only[Tryz.ntmps201];omega) rfl rfl (by simp[zau,T.isPin,AF.ds,bxA]) (by simp[gFS,T.fs,T.flat,AF.ds,bxA]) rfl ?_
 simp -implicitDefEqProofs only[go_sem,Tryz.results201]
 refine zaq [0,2,1000000] [4] [1000000] [] (H1) (by decide) rfl Yr Yr Yr Yr ?_
 simp -implicitDefEqProofs only[go_sem]
 refine zaq [0,2,3,1000000] [6] [1000000] [] (H2) (by decide) rfl Yr Yr Yr Yr ?_
 simp -implicitDefEqProofs only[go_sem]
 refine drawn Ys ?_
 simp -implicitDefEqProofs only[go_sem]
 refine zfk [1000000] (H3) (by decide) Yr Yr ?_
 simp -implicitDefEqProofs only[go_sem]
 refine zfk [1000000] (H4) (by decide) Yr Yr ?_
 simp -implicitDefEqProofs only[go_sem]
 refine zfk [1000000] (H5) (by decide) Yr Yr ?_
 simp -implicitDefEqProofs only[go_sem]
 have hl2:t.args.length<=4294967293:=by omega
 refine za8 Yr ?_
 simp -implicitDefEqProofs only[go_sem]
 refine zek true (by simp -implicitDefEqProofs only[go_sem,ne_eq,Qa,Qb,Qe,hl2]) ?_
 simp -implicitDefEqProofs only[go_sem,ne_eq,Qa,Qb,Qe,hl2]
 refine⟨Ys,?_⟩
 left
 rw[Qt,Qi,Qi,Qi,Qk,zaa a,zaa b,zaa c]
 simp -implicitDefEqProofs only[go_sem]
end
end Go.Proofs.YtliiapbmkcbfaaaGreat
