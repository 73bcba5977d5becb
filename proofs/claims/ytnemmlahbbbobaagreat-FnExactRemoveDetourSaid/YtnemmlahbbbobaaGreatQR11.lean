/-
  The walk over plain data, and contracts of functions of the program and of its laws.
  Conditions: those that each theorem names.
-/
import Derived.Test.YtnemmlahbbbobaaGreatQR10
import Derived.Test.YtnemmlahbbbobaaGreatQR8
import Derived.Test.YtnemmlahbbbobaaGreatQR5
import Derived.Test.YtnemmlahbbbobaaGreatQR9
import Derived.Test.YtnemmlahbbbobaaGreatQR6
import Derived.Test.YtnemmlahbbbobaaGreatQR7
import Derived.Lib.Walk
import Derived.Lib.SliceRun
import Derived.Lib.AppendZeros
namespace Go.Proofs.YtnemmlahbbbobaaGreat
set_option linter.unusedSimpArgs false
set_option linter.unusedVariables false
set_option linter.unusedSectionVars false
set_option maxRecDepth 4000
set_option maxHeartbeats 8000000
section
open Go.RowKit
def agr (pl:List Int)(m:Sum (List Int) (List An))(r:List An×List Int×Bool):Prop:=match m with
 | .inl pos=>r.2.2=false/\r.2.1=pl++pos
 | .inr out=>r.2.2=true/\r.1.Perm out
theorem qki (p:Nt)(hw:Fit p)(pl:List Int):∀(qs pre:List Nt)(acc acc':List (List An)),p.parts=pre++qs->acc.length=pre.length->PermL acc' acc->(∀own∈acc,okZ own)->(∀q∈pre,q.form.good=true)->(∀q∈qs,∀pl,agr pl (zle q) (spM q pl))->agr pl (goR p pre.length (qs.map zle) acc') (goS p pl pre.length (qs.map spM) acc)
 | [],pre,acc,acc',hp,hl,hP,hZ,hg,_=>by
  rw[Ko]at hp;obtain⟨n1,n2⟩:=qor p (by rw[hp];exact hg) acc (by rw[hp];exact hl) hZ;show agr pl (match opR p acc' with|none=>.inl []|some out=>.inr out) ((spR p acc).1,pl,(spR p acc).2)
  rcases zri (p:=p) hP (λo ho=>(hZ o ho).1)with⟨e1,e2⟩|⟨r,r',e1,e2,e3⟩
  ·rw[e1];rw[e2]at n1;exact⟨n1,(Ko pl).symm⟩
  ·rw[e1];rw[e2]at n1 n2;obtain⟨r2,h2,h3⟩:=n2 n1;cases h2;exact⟨n1,h3.trans e3.symm⟩
 | q::qs,pre,acc,acc',hp,hl,hP,hZ,hg,hq=>by
  have h0:=hq q (by simp) (pl++[(pre.length:Int)]);have hmem:q∈p.parts:=by rw[hp];simp
  have hqw:=zfu hmem;have hok:=qqm q (hw.sub q hmem) (pl++[(pre.length:Int)]);rw[Qc,Qc,goS];cases hi:zle q with
  | inl pos =>
   rw[hi]at h0;obtain⟨k1,k2⟩:=h0;rw[if_neg (by rw[k1];simp),goR];exact⟨k1,by rw[k2,Kd];rfl⟩
  | inr out =>
   rw[hi]at h0;obtain⟨k1,k2⟩:=h0;rw[if_pos k1,goR]
   have:=qki p hw pl qs (pre++[q]) (acc++[(spM q (pl++[(pre.length:Int)])).1]) (acc'++[out]) (by rw[hp,Kd];rfl) (by simp[hl]) (hP.snoc k2.symm) (λo ho=>by
    rcases Qw.1 ho with h|h
    ·exact hZ o h
    ·rw[Q4.1 h];exact(hok k1).1) (λx hx=>by
    rcases Qw.1 hx with h|h
    ·exact hg x h
    ·rw[Q4.1 h];exact(hok k1).2) λx hx=>hq x (by simp[hx])
   rwa [Qy,List.length_singleton]at this
theorem agree:∀p:Nt,Fit p->∀pl,agr pl (zle p) (spM p pl) :=
 zbu λr f l t ps ih hw pl=>by
  rw[zm4,qhb];exact qki (.mk r f l t ps) hw pl ps [] [] [] rfl rfl .nil (λo ho=>by cases ho) (λq hq=>by cases hq) λq hq=>ih q hq (hw.sub q hq)
end
section
open Go.RowKit
theorem val_eq (p:Nt)(hw:Fit p):zeg p=valS p:=by
 have h:=agree p hw []
 unfold zeg valS
 rw[qv4]
 congr 1
 cases hi:zle p with
 | inl pos=>rw[hi]at h;exact h.1.symm
 | inr out=>rw[hi]at h;exact h.1.symm
end
section
open Go.RowKit
def mpS (ps:List (Str×Tm)):T:=.mp true (ps.map bnC)
theorem zpl (s:Str):∀ps:List (Str×Tm),zb8 (.str s) (ps.map bnC)=some ((ps.find? λp=>p.1==s).map λp=>tmC p.2)
 | []=>rfl
 | p::ps=>by
  have ih:=zpl s ps;show zb8 (.str s) ((.str p.1::tmC p.2)::ps.map bnC)=_
  unfold zb8;rw[show zsg (.str s) (.str p.1)=some (decide (s=p.1)) from rfl,List.find?_cons];by_cases h:s=p.1
  ·subst h;simp
  ·have h2:(p.1==s)=false:=by simpa using λe=>h e.symm
   rw[decide_eq_false h,h2];exact ih
def rvT (ps:List (Str×Tm)):Tm->Tm:=Tm.fold λm _ rs=>if rs.length=0 then (match ps.find? λp=>p.1==m with|some p=>p.2|none=>.mk m [])else .mk m rs
theorem qqn (ps:List (Str×Tm))(a:Tm):rvT ps a=if a.args.length=0 then (match ps.find? λp=>p.1==a.name with|some p=>p.2|none=>.mk a.name [])else .mk a.name (a.args.map (rvT ps)):=by
 unfold rvT
 rw[Tm.fold_eq]
 simp only[Qa]
theorem quu:qql Tryz.prog 35=some (.tup [(true,[.t (.str []),.nl 2]),(false,[.t (.bool false)])]):=by kernel_rfl
theorem zob (ps:List (Str×Tm))(hp:∀p∈ps,p.2.wt<=1048576)(a:Tm)(ha:a.args.length<=1048576)(H:∀x∈a.args,FC Tryz.prog 154 [tmD x,.one (mpS ps)] [tmD (rvT ps x)]):FC Tryz.prog 154 [tmD a,.one (mpS ps)] [tmD (rvT ps a)]:=by
 have hv:=qqn ps a
 have hf:=zpl a.name ps
 have hpw:∀p,(ps.find? λp=>p.1==a.name)=some p->p.2.wt<=1048576:=λp h=>hp p (List.mem_of_find?_eq_some h)
 have hz:=quu
 unfold mpS at H⊢
 generalize ps.map bnC=R at H hf⊢
 generalize (ps.find? λp=>p.1==a.name)=r at hf hv hpw
 have e1:tmD (.mk a.name (a.args.map (rvT ps)))=.agg [.str a.name,.sl 2 (a.args.map λx=>tmC (rvT ps x))]:=by unfold tmD;rw[zab];simp only[Tm.name,Tm.args,Kw,J0]
 cases r with
 | none =>
  rw[show(none:Option (Str×Tm)).map (λp=>tmC p.2)=none from rfl]at hf;have hv:rvT ps a=.mk a.name (a.args.map (rvT ps)):=by
   rw[hv];split
   ·rename_i h0;rw[Kf.1 h0];rfl
   ·rfl
  rw[hv,e1];simp only[tmD,zab a]at H⊢;refine zae Tryz.call154 Tryz.func154 rfl Yz (zao Yz) ?_;simp -implicitDefEqProofs only[go_sem,Tryz.results154];refine qig (v:=.tup [(true,[.t (.str []),.nl 2]),(false,[.t (.bool false)])]) (by simp -implicitDefEqProofs only[go_sem,hf,hz,Tryz.underlying150,Tryz.underlying9];rfl) ?_;refine Y1 ?_;refine zah (λk:Nat=>hd [(1,vT (.mp true R)),(4,.one (.bx 4 0)),(7,.one (.bx 7 0)),(30,vT (tmS a.args)),(31,vI a.args.length),(32,vI k)] [(4,[.t (.str []),.nl 2]),(7,[.t (.str a.name),.ow 3000 0])] [(3000,⟨true,2,(a.args.take k).map λx=>tmC (rvT ps x),0,true⟩)]) (λk=>k<=a.args.length) (λk=>a.args.length-k) 0 (zad ?_) (Kc _) ?_
  ·exact Yy
  ·intro k hk;by_cases hlt:k<a.args.length
   ·have hmin:min k a.args.length<=4294967295:=by omega
    have HC:=H a.args[k] (Qk hlt);simp only[tmD,zab a.args[k],zab (rvT ps a.args[k])]at HC;refine Zc hlt (zab a.args[k]) ?_;refine drawn Yz ?_;refine Y1 ?_;refine zai (HC) Yy ?_;refine Y1 ?_;refine zbj Yy ?_;refine Y1 ?_;refine zg5 true (Zs hmin) ?_;refine Zt hmin ?_;refine⟨Yz,k+1,hlt,Y0,zad ?_⟩;refine Y1 ?_;rw[zaq Y0,Qn hlt,Q1,Q6,zab (rvT ps a.args[k])]
    trivial
   ·have ht:a.args.take k=a.args:=Qr Y0;exact Y9 hlt ht
 | some p =>
  have HC:=zft p.2 (hpw p rfl);rw[show(some p).map (λp=>tmC p.2)=some (tmC p.2) from rfl]at hf;simp only[tmD,zab p.2]at HC hf;by_cases h0:a.args.length=0
  ·rw[if_pos h0]at hv;rw[hv];have e0:((a.args.length:Int)==0)=true:=by simp[h0]
   simp only[tmD,zab a,zab p.2];refine zae Tryz.call154 Tryz.func154 rfl Yz (zao Yz) ?_;simp -implicitDefEqProofs only[go_sem,Tryz.results154];refine qig (by simp -implicitDefEqProofs only[go_sem,hf,hz,Tryz.underlying150,Tryz.underlying9];rfl) ?_;refine Y2 e0 ?_;refine callF (HC) Yy ?_;exact Yy
  ·rw[if_neg h0]at hv;have e0:((a.args.length:Int)==0)=false:=by simp[h0]
   rw[hv,e1];simp only[tmD,zab a]at H⊢;refine zae Tryz.call154 Tryz.func154 rfl Yz (zao Yz) ?_;simp -implicitDefEqProofs only[go_sem,Tryz.results154];refine qig (by simp -implicitDefEqProofs only[go_sem,hf,hz,Tryz.underlying150,Tryz.underlying9];rfl) ?_;refine Y2 e0 ?_;refine zah (λk:Nat=>hd [(1,vT (.mp true R)),(4,.one (.bx 4 0)),(7,.one (.bx 7 0)),(30,vT (tmS a.args)),(31,vI a.args.length),(32,vI k)] [(4,[.t (.str []),.nl 2]),(7,[.t (.str a.name),.ow 3000 0])] [(3000,⟨true,2,(a.args.take k).map λx=>tmC (rvT ps x),0,true⟩)]) (λk=>k<=a.args.length) (λk=>a.args.length-k) 0 (zad ?_) (Kc _) ?_
   ·exact Yy
   ·intro k hk;by_cases hlt:k<a.args.length
    ·have hmin:min k a.args.length<=4294967295:=by omega
     have HC:=H a.args[k] (Qk hlt);simp only[tmD,zab a.args[k],zab (rvT ps a.args[k])]at HC;refine Zc hlt (zab a.args[k]) ?_;refine drawn Yz ?_;refine Y1 ?_;refine zai (HC) Yy ?_;refine Y1 ?_;refine zbj Yy ?_;refine Y1 ?_;refine zg5 true (Zs hmin) ?_;refine Zt hmin ?_;refine⟨Yz,k+1,hlt,Y0,zad ?_⟩;refine Y1 ?_;rw[zaq Y0,Qn hlt,Q1,Q6,zab (rvT ps a.args[k])]
     trivial
    ·have ht:a.args.take k=a.args:=Qr Y0;exact Y9 hlt ht
theorem zqb (ps:List (Str×Tm))(hp:∀p∈ps,p.2.wt<=1048576):∀a:Tm,a.wt<=1048576->FC Tryz.prog 154 [tmD a,.one (mpS ps)] [tmD (rvT ps a)] :=
 zb3 λm xs ih hs=>by
  obtain⟨h1,h2⟩:=Tm.wt_args hs;exact zob ps hp (.mk m xs) h1 λx hx=>ih x hx (h2 x hx)
end
section
open Go.RowKit
theorem quv {m:Str}(h:za9 m=true)(xs:List Tm):(Tm.mk m xs).names=decide (xs.length=0):=by rw[Tm.names_eq];exact if_pos h
theorem quq {m:Str}(h:¬za9 m=true)(xs:List Tm):(Tm.mk m xs).names=(zdg m&&decide (xs.length<=4)&&xs.all Tm.names):=by rw[Tm.names_eq];exact if_neg h
def nmA (a:Tm):Bool:=if(a.name==[61])=true then decide (a.args.length=2)&&a.args.all Tm.names else zdg a.name&&a.names
theorem qkl (a:Tm):a.atomOk=(nmA a&&zet a):=by
 unfold Tm.atomOk nmA Tm.good
 split
 ·rw[Yn,Bool.and_comm (zet a),Yn]
 ·rw[Bool.and_comm (zet a),Yn]
theorem nmA_eq {a:Tm}(h:nmA a=true):za9 a.name=false/\a.args.all Tm.names=true:=by
 unfold nmA at h
 split at h
 ·rename_i he;have he:a.name=[61]:=by simpa using he
  rw[Qb]at h;rw[he];exact⟨by decide,h.2⟩
 ·rw[Qb]at h;have hv:=qap h.1;have h2:=h.2;rw[Tm.names_eq,hv,if_neg (by simp)]at h2;simp only[Qb]at h2;exact⟨hv,h2.2⟩
theorem qdz {α:Type}(f g:α->Nat):∀(xs:List α),(∀x∈xs,f x<=g x)->(xs.map f).sum<=(xs.map g).sum
 | [],_=>Qz _
 | x::xs,H=>by
  have:=H x (by simp);have:=qdz f g xs λy hy=>H y (by simp[hy]);rw[Qc,Qc,Kt,Kt];omega
theorem zxu {α:Type}(f:α->Nat):∀xs:List α,(xs.map λx=>8*f x).sum=8*(xs.map f).sum
 | []=>rfl
 | x::xs=>by rw[Qc,Kt,zxu f xs,Qc,Kt];omega
theorem qlc {α:Type}(w:α->Nat):∀xs:List α,(xs.map λx=>1+w x).sum=xs.length+(xs.map w).sum
 | []=>rfl
 | a::l=>by rw[Qc,Kt,qlc w l,Qg,Qc,Kt];omega
theorem zss {xs:List Tm}(H:∀x∈xs,1+x.wt<=8*x.nodes):xs.length+(xs.map Tm.wt).sum<=8*(xs.map Tm.nodes).sum:=by
 rw[<-qlc,<-zxu]
 exact qdz _ _ xs H
theorem zzk:∀a:Tm,a.names=true->1+a.wt<=8*a.nodes:=zb3 λm xs ih h=>by
 have hw:(Tm.mk m xs).wt=m.length+xs.length+(xs.map Tm.wt).sum:=Tm.wt_eq _
 have hn:(Tm.mk m xs).nodes=1+(xs.map Tm.nodes).sum:=Tm.nodes_eq _
 rw[hw,hn]
 by_cases hm:za9 m=true
 ·rw[quv hm]at h;have hx:xs=[]:=Kf.1 (Jc h);subst hx;unfold za9 inB at hm;simp only[Qb,Q2]at hm;simp only[Qi,List.sum_nil,Qs];omega
 ·rw[quq hm]at h;simp only[Qb]at h;have h1:zdg m=true:=h.1.1;unfold zdg inB at h1;simp only[Qb,Q2]at h1;have h2:=zss λx hx=>ih x hx (Qq.1 h.2 x hx);omega
theorem qgk {a:Tm}(h:a.atomOk=true):a.wt<=512:=by
 rw[qkl,Qb]at h
 obtain⟨h1,h2⟩:=h
 have h4:=(nmA_eq h1).2
 have hl:a.name.length<=6:=by
  unfold nmA at h1;split at h1
  ·rename_i he;rw[Q9.1 he];simp
  ·rw[Qb]at h1;have h1:=h1.1;unfold zdg inB at h1;simp only[Qb,Q2]at h1;omega
 unfold zet at h2
 simp only[Qb,Q2]at h2
 have hn:=a.nodes_eq
 have hw:=a.wt_eq
 have h5:=zss λx hx=>zzk x (Qq.1 h4 x hx)
 omega
end
section
open Go.RowKit
def evF:Fm->(Tm->Bool)->Bool:=Fm.fold λo a _ _ rs v =>
 if(o==1)=true then true else if(o==3)=true then v a else if(o==4)=true then !((rs.map λr=>r v).getD 0 false)
 else if(o==5)=true then (rs.map λr=>r v).getD 0 false&&(rs.map λr=>r v).getD 1 false
 else if(o==6)=true then (rs.map λr=>r v).getD 0 false||(rs.map λr=>r v).getD 1 false
 else if(o==7)=true then !((rs.map λr=>r v).getD 0 false)||(rs.map λr=>r v).getD 1 false else false
def evs (f:Fm)(v:Tm->Bool):List Bool:=f.parts.map λp=>evF p v
end
section
open Go.RowKit
theorem qmj {f:Fm}(h:f.here=true)(hq:isQ f.op=false):f.var=[]:=by
 unfold Fm.here at h
 rw[hq]at h
 simp only[Qp,if_false]at h
 (repeat' split at h)<;>first|(simp only[Qb,Q9]at h;exact h.2)|cases h
end
section
open Go.RowKit
theorem zor {α:Type}{p q:α->Bool}:∀{xs:List α},(∀x∈xs,p x=q x)->xs.all p=xs.all q
 | [],_=>rfl
 | x::xs,h=>by rw[Ks,Ks,h x (by simp),zor λy hy=>h y (by simp[hy])]
theorem qsp {o:Int}{a:Tm}{v:Str}{xs:List Fm}(h:(Fm.mk o a v xs).forms=true):(Fm.mk o a v xs).here=true/\∀x∈xs,x.forms=true:=by
 rw[Fm.forms_eq,Qb]at h
 exact⟨h.1,Qq.1 h.2⟩
theorem here_a {o:Int}(h3:(o==3)=true){a:Tm}{v:Str}{xs:List Fm}(h:(Fm.mk o a v xs).here=true):o=3/\xs=[]/\v=[]/\a.atomOk=true:=by
 have e:o=3:=by simpa using h3
 subst e
 rw[qk1]at h
 simp only[show((3:Int)==1||(3:Int)==2)=false from rfl,Qp,if_false,h3,if_true,Qb,Q2,Q9]at h
 exact⟨rfl,Kf.1 h.1.1,h.2,h.1.2⟩
theorem qon {t:Tm}(h:t.good=true):t.names=true:=by unfold Tm.good at h;rw[Qb]at h;exact h.2
theorem qp4:∀f:Fm,f.forms=true->f.wt<=520*f.nodes:=zck λo a v xs ih hf=>by
 obtain⟨hh,hx⟩:=qsp hf
 have hw:(Fm.mk o a v xs).wt=a.wt+v.length+xs.length+(xs.map Fm.wt).sum:=Fm.wt_eq _
 have hn:(Fm.mk o a v xs).nodes=1+(xs.map Fm.nodes).sum:=Fm.nodes_eq _
 have hs:(xs.map Fm.wt).sum<=(xs.map λx=>520*x.nodes).sum:=qdz _ _ xs λx hm=>ih x hm (hx x hm)
 have hs2:(xs.map λx=>520*x.nodes).sum=520*(xs.map Fm.nodes).sum:=by
  clear hs hw hn hx hh hf ih;induction xs with
  | nil=>rfl
  | cons x xs ih2=>rw[Qc,Kt,ih2,Qc,Kt];omega
 rw[hw,hn]
 cases h3:o==3
 ·have h3':((Fm.mk o a v xs).op==3)=false:=h3;have ha:a=.mk [] []:=znf hh h3';have haw:a.wt=0:=by rw[ha];rfl
  have hl:xs.length<=2/\v.length<=4:=by
   rcases zwq hf with⟨h1,h2⟩|⟨p,h1,_⟩|⟨o',p,q,_,h1,_⟩|⟨o',v',p,ho,h1,_⟩
   ·have h1:xs=[]:=h1;refine⟨by rw[h1];simp,?_⟩;have:=qmj hh (by rcases h2 with h|h|h<;>(rw[h];rfl));have this:v=[]:=this;rw[this];simp
   ·cases h1;exact⟨by simp,by simp⟩
   ·cases h1;exact⟨by simp,by simp⟩
   ·cases h1;refine⟨by simp,?_⟩;have:=qq9 hh (by rcases ho with h|h<;>(rw[show(Fm.mk o _ v [p]).op=o from rfl,h];rfl));have this:za9 v=true:=this;unfold za9 inB at this;simp only[Qb,Q2]at this;omega
  omega
 ·obtain⟨rfl,rfl,rfl,h4⟩:=here_a h3 hh;have:=qgk h4;simp only[Qs,Qi,List.sum_nil];omega
theorem qif {f:Fm}(h:f.good=true):f.wt<=20800:=by
 have h1:=qp4 f (qi4 h)
 unfold Fm.good at h
 rw[Qb,Q2]at h
 omega
end
section
open Go.RowKit
theorem zgf {t:Tm}(h:t.good=true):t.wt<=240:=by
 have h1:=zzk t (qon h)
 unfold Tm.good zet at h
 simp only[Qb,Q2]at h
 omega
end
section
open Go.RowKit
def Nt.gdn:Nt->Bool:=Nt.fold λr f _ t ps rs=>(zbd r==(ps.length:Int))&&(f.good&&((if inB r 15 18=true then t.good else t.none)&&((!(r==15||r==18)||za9 t.name)&&rs.all id)))
theorem Nt.gdn_eq (p:Nt):p.gdn=((zbd p.rule==(p.parts.length:Int))&&(p.form.good&&((if inB p.rule 15 18=true then p.term.good else p.term.none)&&((!(p.rule==15||p.rule==18)||za9 p.term.name)&&p.parts.all Nt.gdn)))):=by
 unfold Nt.gdn
 rw[Nt.fold_eq,J8]
 rfl
theorem Nt.gdn_is {p:Nt}(h:p.gdn=true):zbd p.rule=(p.parts.length:Int)/\p.form.good=true/\(if inB p.rule 15 18=true then p.term.good else p.term.none)=true/\∀q∈p.parts,q.gdn=true:=by
 rw[Nt.gdn_eq,Qb,Qb,Qb,Qb,Q9]at h
 exact⟨h.1,h.2.1,h.2.2.1,Qq.1 h.2.2.2.2⟩
theorem Nt.gdn_var {p:Nt}(h:p.gdn=true)(hr:p.rule=15\/p.rule=18):za9 p.term.name=true:=by
 rw[Nt.gdn_eq,Qb,Qb,Qb,Qb]at h
 have h1:=h.2.2.2.1
 rcases hr with e|e<;>(rw[e]at h1;simpa using h1)
theorem qt6 {p:Nt}(h:shI p=true)(hr:p.rule=15\/p.rule=18):za9 p.term.name=true:=by
 unfold shI at h
 rcases hr with e|e
 ·rw[e]at h;have h:(za9 p.term.name&&qcv ((p.parts.map Nt.form).getD 0 zF) p.form 8 p.term)=true:=h;rw[Qb]at h;exact h.1
 ·rw[e]at h;have h:(((p.parts.map Nt.form).getD 0 zF).op==9&&za9 p.term.name&&((sbs ((p.parts.map Nt.form).getD 0 zF) p.term).2&&same ((p.parts.map Nt.form).getD 1 zF) p.form))=true:=h;rw[Qb,Qb]at h;exact h.1.2
def Nt.wfn:Nt->Bool:=Nt.fold λr _ _ _ ps rs=>(zbd r==(ps.length:Int))&&rs.all id
theorem Nt.wfn_eq (p:Nt):p.wfn=((zbd p.rule==(p.parts.length:Int))&&p.parts.all Nt.wfn):=by
 unfold Nt.wfn
 rw[Nt.fold_eq,J8]
 rfl
theorem Nt.wfn_is {p:Nt}(h:p.wfn=true):zbd p.rule=(p.parts.length:Int)/\∀q∈p.parts,q.wfn=true:=by
 rw[Nt.wfn_eq,Qb,Q9]at h
 exact⟨h.1,Qq.1 h.2⟩
theorem zdz:∀p:Nt,p.gdn=true->p.wfn=true:=zbu λr f l t ps ih h=>by
 obtain⟨h1,h2,h3,h4⟩:=Nt.gdn_is h
 rw[Nt.wfn_eq,Qb,Q9]
 exact⟨h1,Qq.2 λq hq=>ih q hq (h4 q hq)⟩
theorem qed {p:Nt}:∀(rs:List (Sum (List Int) (List An)))(i:Nat)(acc:List (List An))(out:List An),goR p i rs acc=.inr out->(∀r∈rs,∃o,r=.inr o)/\stI p (shI p)=true
 | [],i,acc,out,e=>by
  unfold goR at e;refine⟨λr hr=>absurd hr (by simp),?_⟩;cases ho:opR p acc with
  | none=>rw[ho]at e;cases e
  | some o =>
   unfold opR at ho;split at ho
   ·assumption
   ·cases ho
 | .inl pos::rs,i,acc,out,e=>by unfold goR at e;cases e
 | .inr own::rs,i,acc,out,e=>by
  unfold goR at e;obtain⟨h1,h2⟩:=qed rs (i+1) _ out e;refine⟨λr hr=>?_,h2⟩;rcases Qu.1 hr with h|h
  ·exact⟨own,h⟩
  ·exact h1 r h
theorem quw:∀(p:Nt)(out:List An),zle p=.inr out->p.gdn=true:=zbu λr f l t ps ih out e=>by
 rw[zm4]at e
 obtain⟨h1,h2⟩:=qed _ _ _ _ e
 obtain⟨s1,s2,s3,s4,s5,s6⟩:=zfi h2
 rw[Nt.gdn_eq,Qb,Qb,Qb,Qb,Q9]
 refine⟨s1,s2,s5,?_,Qq.2 λq hq=>?_⟩
 ·cases hc:((Nt.mk r f l t ps).rule==15||(Nt.mk r f l t ps).rule==18)
  ·rfl
  ·rw[qt6 s6 (by simpa using hc)];rfl
 obtain⟨o,ho⟩:=h1 (zle q) (Ka.2 ⟨q,hq,rfl⟩)
 exact ih q hq o ho
theorem zho {p:Nt}(h:zeg p=true):p.gdn=true/\p.nodes<=60:=by
 unfold zeg at h
 rw[Qb]at h
 obtain⟨h1,h2⟩:=h
 have hs:=zyc p
 rw[Jy]at hs
 refine⟨?_,hs.1 (by simpa using h1)⟩
 cases hi:zle p with
 | inl pos=>rw[hi]at h2;cases h2
 | inr out=>exact quw p out hi
def Nt.okn:Nt->Bool:=Nt.fold λ_ f _ t ps rs=>decide (f.wt<=20800)&&(decide (t.wt<=8000)&&(decide (ps.length<=3)&&rs.all id))
theorem Nt.okn_eq (p:Nt):p.okn=(decide (p.form.wt<=20800)&&(decide (p.term.wt<=8000)&&(decide (p.parts.length<=3)&&p.parts.all Nt.okn))):=by
 unfold Nt.okn
 rw[Nt.fold_eq,J8]
 rfl
theorem Nt.okn_is {p:Nt}(h:p.okn=true):p.form.wt<=20800/\p.term.wt<=8000/\p.parts.length<=3/\∀q∈p.parts,q.okn=true:=by
 rw[Nt.okn_eq,Qb,Qb,Qb,Q2,Q2,Q2]at h
 exact⟨h.1,h.2.1,h.2.2.1,Qq.1 h.2.2.2⟩
theorem Nt.okn_mk {p:Nt}(h1:p.form.wt<=20800)(h2:p.term.wt<=8000)(h3:p.parts.length<=3)(h4:∀q∈p.parts,q.okn=true):p.okn=true:=by
 rw[Nt.okn_eq,Qb,Qb,Qb,Q2,Q2,Q2]
 exact⟨h1,h2,h3,Qq.2 h4⟩
theorem qkx (K:Nat):∀ps:List Nt,(∀q∈ps,q.wt<=K*q.nodes)->(ps.map Nt.wt).sum<=K*(ps.map Nt.nodes).sum
 | [],_=>Kc _
 | a::ps,h=>by
  have h1:=h a (by simp);have h2:=qkx K ps λq hq=>h q (by simp[hq]);simp only[Qc,Kt];rw[Nat.mul_add];omega
theorem okn_wt:∀p:Nt,p.okn=true->p.wt<=28803*p.nodes:=zbu λr f l t ps ih h=>by
 obtain⟨h1,h2,h3,h4⟩:=Nt.okn_is h
 have hs:=qkx 28803 ps λq hq=>ih q hq (h4 q hq)
 rw[Nt.wt_eq,Nt.nodes_eq]
 simp only[Nt.form,Nt.term,Nt.parts]at h1 h2 h3⊢
 omega
theorem zhp {p q:Nt}(h:q∈p.parts):q.nodes<=p.nodes:=by
 rw[p.nodes_eq]
 have:=zbz Nt.nodes p.parts q h
 omega
theorem zl9:∀p:Nt,p.okn=true->p.nodes<=37000->Fit p:=zbu λr f l t ps ih h hn=>by
 obtain⟨h1,h2,h3,h4⟩:=Nt.okn_is h
 have hw:=okn_wt _ h
 refine .mk _ Y0 Y0 (λq hq=>?_) λq hq=>ih q hq (h4 q hq) (Je (zhp hq) hn)
 have:=(Nt.okn_is (h4 q hq)).1
 omega
theorem qiv {t:Tm}(h:t.none=true):t.wt=0:=by
 have:=ql0 h
 subst this
 rfl
theorem qb9 (r:Int):zbd r<=3:=by
 unfold zbd
 split
 ·omega
 ·split
  ·omega
  ·split
   ·omega
   ·split<;>omega
theorem zc0:∀p:Nt,p.gdn=true->p.okn=true:=zbu λr f l t ps ih h=>by
 obtain⟨h1,h2,h3,h4⟩:=Nt.gdn_is h
 have hl:=qb9 (Nt.mk r f l t ps).rule
 refine Nt.okn_mk (qif h2) ?_ Y0 λq hq=>ih q hq (h4 q hq)
 split at h3
 ·have:=zgf h3;omega
 ·rw[qiv h3];omega
theorem znq {p:Nt}(h:zeg p=true):Fit p:=by
 obtain⟨h1,h2⟩:=zho h
 exact zl9 p (zc0 p h1) Y0
def sel (d:Nat->Bool)(g:Nt->Nt):Nat->List Nt->List Nt
 | _,[]=>[]
 | i,x::xs=>(if d i=true then x else g x)::sel d g (i+1) xs
def selR (d:Nat->Bool):Nat->List Nt->List Nt->List Nt
 | i,x::xs,y::ys=>(if d i=true then x else y)::selR d (i+1) xs ys
 | _,_,_=>[]
theorem zzn (d:Nat->Bool)(g:Nt->Nt):∀(xs:List Nt)(i:Nat),selR d i xs (xs.map g)=sel d g i xs
 | [],i=>rfl
 | x::xs,i=>by rw[Qc,selR,sel,zzn d g xs]
theorem zyi (d:Nat->Bool)(g:Nt->Nt)(x:Nt):∀(xs:List Nt)(i:Nat),sel d g i (xs++[x])=sel d g i xs++[if d (i+xs.length)=true then x else g x]
 | [],i=>rfl
 | y::xs,i=>by
  rw[Ja,sel,sel,zyi d g x xs,Ja,Qg]
  congr 4
  rw[show i+1+xs.length=i+(xs.length+1) from by omega]
theorem zii (d:Nat->Bool)(g:Nt->Nt):∀(xs:List Nt)(i:Nat),(sel d g i xs).length=xs.length
 | [],i=>rfl
 | x::xs,i=>by rw[sel,Qg,Qg,zii]
theorem zsp {d d':Nat->Bool}{g g':Nt->Nt}:∀(xs:List Nt)(i:Nat),(∀j<xs.length,d (i+j)=d' (i+j))->(∀x∈xs,g x=g' x)->sel d g i xs=sel d' g' i xs
 | [],i,_,_=>rfl
 | x::xs,i,h,hg=>by
  have h0:d i=d' i:=h 0 (by simp)
  have e:=zsp (d:=d) (d':=d') (g:=g) (g':=g') xs (i+1) (λj hj=>by
   have h1:=h (j+1) (by simp;omega);rw[show i+(j+1)=i+1+j from by omega]at h1
   exact h1) λy hy=>hg y (by simp[hy])
  rw[sel,sel,h0,hg x (by simp),e]
theorem qjg {d:Nat->Bool}{g:Nt->Nt}:∀{xs:List Nt}{i:Nat}{y:Nt},y∈sel d g i xs->∃x∈xs,y=x\/y=g x
 | [],i,y,h=>by cases h
 | x::xs,i,y,h=>by
  rw[sel]at h;rcases Qu.1 h with e|e
  ·refine⟨x,by simp,?_⟩;split at e
   ·exact Or.inl e
   ·exact Or.inr e
  ·obtain⟨z,hz,k⟩:=qjg e;exact⟨z,by simp[hz],k⟩
def zcx (dis:Int->Int->Bool)(l:Int)(q:Nt):Nt->Nt:=Nt.fold λr f lab t ps rs=>if(r==1&&lab==l)=true then q else .mk r f lab t (selR (λi=>dis r i&&lab==l) 0 ps rs)
theorem zj8 (dis:Int->Int->Bool)(l:Int)(q p:Nt):zcx dis l q p=if(p.rule==1&&p.label==l)=true then q else .mk p.rule p.form p.label p.term (sel (λi=>dis p.rule i&&p.label==l) (zcx dis l q) 0 p.parts):=by
 conv=>lhs;unfold zcx;rw[Nt.fold_eq]
 rw[<-zzn]
 rfl
theorem zio (l:Int)(q:Nt):∀p:Nt,p.wfn=true->zcx za2 l q p=zcx za7 l q p:=zbu λr f lab t ps ih h=>by
 obtain⟨h1,h2⟩:=Nt.wfn_is h
 rw[zj8,zj8]
 rw[zsp (d':=λi=>za7 (Nt.mk r f lab t ps).rule i&&(Nt.mk r f lab t ps).label==l) (g':=zcx za7 l q) (Nt.mk r f lab t ps).parts 0 (λj hj=>by
  show(za2 _ ((0+j:Nat):Int)&&_)=(za7 _ ((0+j:Nat):Int)&&_)
  rw[Q7,zxq _ j _ h1 hj]) λx hx=>ih x hx (h2 x hx)]
theorem zmg (dis:Int->Int->Bool)(l:Int)(q:Nt)(hq:q.okn=true):∀p:Nt,p.okn=true->(zcx dis l q p).okn=true:=zbu λr f lab t ps ih h=>by
 obtain⟨h1,h2,h3,h4⟩:=Nt.okn_is h
 rw[zj8]
 split
 ·exact hq
 ·refine Nt.okn_mk h1 h2 (by show(sel _ _ 0 ps).length<=3;rw[zii];exact h3) λy hy=>?_;obtain⟨x,hx,e⟩:=qjg hy;rcases e with rfl|rfl
  ·exact h4 _ hx
  ·exact ih x hx (h4 x hx)
theorem znh (p:Nt):1<=p.nodes:=by rw[p.nodes_eq];omega
theorem zsk {d:Nat->Bool}{g:Nt->Nt}(K:Nat)(hK:1<=K):∀(xs:List Nt)(i:Nat),(∀x∈xs,(g x).nodes<=x.nodes*K)->((sel d g i xs).map Nt.nodes).sum<=(xs.map Nt.nodes).sum*K
 | [],i,_=>Kc _
 | x::xs,i,h=>by
  have h1:=h x (by simp);have h2:=zsk K hK (d:=d) (g:=g) xs (i+1) λy hy=>h y (by simp[hy]);rw[sel];simp only[Qc,Kt];rw[Ku];have h3:x.nodes<=x.nodes*K:=Nat.le_mul_of_pos_right _ hK;split<;>omega
theorem zsr (dis:Int->Int->Bool)(l:Int)(q:Nt):∀p:Nt,(zcx dis l q p).nodes<=p.nodes*q.nodes:=zbu λr f lab t ps ih=>by
 have hq:=znh q
 rw[zj8]
 split
 ·rw[Nt.nodes_eq (.mk r f lab t ps),Ku];omega
 ·rw[Nt.nodes_eq,Nt.nodes_eq (.mk r f lab t ps),Ku];have:=zsk (d:=λi=>dis r i&&lab==l) (g:=zcx dis l q) q.nodes hq ps 0 λx hx=>ih x hx;show 1+((sel _ _ 0 ps).map Nt.nodes).sum<=1*q.nodes+(ps.map Nt.nodes).sum*q.nodes
  simp only[Nt.rule,Nt.label];omega
theorem qf3 {dis:Int->Int->Bool}{l:Int}{p q:Nt}(hp:p.okn=true)(hq:q.okn=true)(np:p.nodes<=60)(nq:q.nodes<=60):Fit (zcx dis l q p) :=
 zl9 _ (zmg dis l q hq p hp) (by
  have h1:=zsr dis l q p;have h2:p.nodes*q.nodes<=60*60:=J3 np nq
  omega)
def zcp (r e:Int):Bool:=if(e==6||e==7)=true then r==5 else if(e==10)=true then r==8||r==9 else if(e==12)=true then r==11 else if(e==14)=true then r==13 else if(e==16)=true then r==15 else if(e==18)=true then r==17 else false
def znx (p:Nt):Bool:=match p.parts with
 | []=>false
 | q::_=>zcp q.rule p.rule
def zuz:Nat->List (Option (List Int))->Option (List Int)
 | _,[]=>none
 | i,some pos::_=>some ((i:Int)::pos)
 | i,none::rs=>zuz (i+1) rs
def dtr:Nt->Option (List Int):=Nt.fold λr f l t ps rs=>if znx (.mk r f l t ps)=true then some []else zuz 0 rs
theorem qku (p:Nt):dtr p=if znx p=true then some []else zuz 0 (p.parts.map dtr):=by
 unfold dtr
 rw[Nt.fold_eq,Nt.eta]
inductive Path:List Int->Nt->Prop
 | here {p:Nt} (h:znx p=true):Path [] p
 | down {p:Nt} (k:Nat) (pos:List Int) (h:k<p.parts.length) (h2:Path pos p.parts[k]):Path ((k:Int)::pos) p
theorem qin:∀(rs:List (Option (List Int)))(i:Nat)(pos:List Int),zuz i rs=some pos->∃k pos',∃h:k<rs.length,rs[k]=some pos'/\pos=((i+k:Nat):Int)::pos'
 | [],i,pos,e=>by cases e
 | some q::rs,i,pos,e=>by
  rw[zuz]at e;cases e;exact⟨0,q,by simp,rfl,rfl⟩
 | none::rs,i,pos,e=>by
  rw[zuz]at e;obtain⟨k,pos',h,h1,h2⟩:=qin rs (i+1) pos e;refine⟨k+1,pos',by simp;omega,by simpa using h1,?_⟩;rw[h2,show i+1+k=i+(k+1) from by omega]
theorem zi0:∀(p:Nt)(pos:List Int),dtr p=some pos->Path pos p:=zbu λr f l t ps ih pos e=>by
 rw[qku]at e
 split at e
 ·rename_i h;cases e;exact .here h
 ·obtain⟨k,pos',h,h1,h2⟩:=qin _ _ _ e;rw[Qa]at h;rw[Ym]at h1;rw[h2,Q7];exact .down k pos' h (ih _ (Qk h) pos' h1)
theorem qpj {pos:List Int}{p:Nt}(h:Path pos p):pos.length+1<=p.nodes:=by
 induction h with
 | here h=>exact znh _
 | @down p k pos h h2 ih =>
  have:=zbz Nt.nodes p.parts p.parts[k] (Qk h);rw[p.nodes_eq,Qg];omega
def zN:Nt:=.mk 0 (mkF 0 []) 0 (.mk [] []) []
theorem qsx {n:Str}{t:Tm}{f:Fm}(hf:f.good=true)(hv:za9 n=true)(ht:t.good=true):(sbF n t f).2=(zbs n t f).2/\((sbF n t f).2=true->(sbF n t f).1=(zbs n t f).1/\(sbF n t f).1.good=true):=by
 have hn:t.names=true:=by unfold Tm.good at ht;rw[Qb]at ht;exact ht.2
 have h1:=zp8 n t hv hn f (zbp hf)
 obtain⟨_,h2⟩:=zqh n t hv hn f (zbp hf)
 unfold sbF
 rw[hf,hv,ht]
 simp only[Qv]
 rw[h1]
 cases hp:(zbs n t f).2
 ·simp
 ·have k1:=zo4 n t f (zbp hf) hp;have k2:=zoz n t f (zbp hf) hp;have k3:(zbs n t f).1.good=true:=by
   unfold Fm.good at hf⊢;rw[Qb,Q2]at hf⊢;rw[k2];exact⟨hf.1,k1⟩
  rw[k3,Yj,if_pos rfl];exact⟨rfl,λ_=>⟨h2 hp k1,by rw[h2 hp k1];exact k3⟩⟩
theorem sbF_wt {n:Str}{t:Tm}{f:Fm}:(sbF n t f).1.wt<=20800:=by
 unfold sbF
 split
 ·rename_i h;rw[Qb]at h;exact qif h.2
 ·show(mkF 0 []).wt<=_
  rw[qgd];omega
noncomputable def zfs (n:Str)(t:Tm):Nt->Nt×Bool:=Nt.fold λr f l u _ rs=>(.mk r (sbF n t f).1 l (rvT [(n,t)] u) (rs.map Prod.fst),(sbF n t f).2&&rs.all Prod.snd)
theorem zna (n:Str)(t:Tm)(p:Nt):zfs n t p=(.mk p.rule (sbF n t p.form).1 p.label (rvT [(n,t)] p.term) (p.parts.map λx=>(zfs n t x).1),(sbF n t p.form).2&&p.parts.all λx=>(zfs n t x).2):=by
 conv=>lhs;unfold zfs;rw[Nt.fold_eq]
 rw[Kw,J8]
 rfl
def zei (n:Str)(t:Tm):Nt->Nt×Bool:=Nt.fold λr f l u _ rs=>if((zbs n t f).2&&rs.all Prod.snd)=true then (.mk r (zbs n t f).1 l (zez (bnd n t) u) (rs.map Prod.fst),true)else (zN,false)
theorem qeo (n:Str)(t:Tm)(p:Nt):zei n t p=if((zbs n t p.form).2&&p.parts.all λx=>(zei n t x).2)=true then (.mk p.rule (zbs n t p.form).1 p.label (zez (bnd n t) p.term) (p.parts.map λx=>(zei n t x).1),true)else (zN,false):=by
 conv=>lhs;unfold zei;rw[Nt.fold_eq]
 rw[Kw,J8]
 rfl
theorem qio (n:Str)(t:Tm):∀a:Tm,rvT [(n,t)] a=zgt n t a:=zb3 λm xs ih=>by
 rw[qqn,zj7]
 split
 ·show(match [(n,t)].find? (λp=>p.1==m)with|some p=>p.2|none=>Tm.mk m [])=(if(n==m)=true then t else Tm.mk m [])
  cases h:(n==m)
  ·simp only[List.find?_cons,h,List.find?_nil];rfl
  ·simp only[List.find?_cons,h];rfl
 ·congr 1
  exact Kv λx hx=>ih x hx
theorem rv_put {n:Str}{t u:Tm}(hv:za9 n=true)(ht:t.good=true)(hu:u.good=true\/u.none=true):rvT [(n,t)] u=zez (bnd n t) u:=by
 have hn:t.names=true:=by unfold Tm.good at ht;rw[Qb]at ht;exact ht.2
 rw[qio]
 rcases hu with hu|hu
 ·have hun:u.names=true:=by unfold Tm.good at hu;rw[Qb]at hu;exact hu.2
  exact zmr n t hv hn u hun
 ·rw[ql0 hu,zj7,zmh];have h0:za9 ([]:Str)=false:=by decide
  have h1:(n==([]:Str))=false:=by
   cases n with
   | nil=>rw[h0]at hv;cases hv
   | cons a b=>rfl
  show(if([]:List Tm).length=0 then (if(n==([]:Str))=true then t else Tm.mk [] [])else _)=if za9 ([]:Str)=true then _ else Tm.mk [] (([]:List Tm).map (zez (bnd n t)))
  rw[if_pos (show([]:List Tm).length=0 from rfl),h0,h1,if_neg (by simp),if_neg (by simp)];rfl
theorem qjn {p:Nt}(h:(if inB p.rule 15 18=true then p.term.good else p.term.none)=true):p.term.good=true\/p.term.none=true:=by
 split at h
 ·exact Or.inl h
 ·exact Or.inr h
theorem zlz {n:Str}{t:Tm}(hv:za9 n=true)(ht:t.good=true):∀p:Nt,p.gdn=true->(zfs n t p).2=(zei n t p).2/\((zfs n t p).2=true->(zfs n t p).1=(zei n t p).1):=zbu λr f l u ps ih h=>by
 obtain⟨h1,h2,h3,h4⟩:=Nt.gdn_is h
 obtain⟨e1,e2⟩:=qsx (n:=n) (t:=t) h2 hv ht
 have eA:((Nt.mk r f l u ps).parts.all λx=>(zfs n t x).2)=(Nt.mk r f l u ps).parts.all λx=>(zei n t x).2:=zor λx hx=>(ih x hx (h4 x hx)).1
 rw[zna,qeo,<-e1,<-eA]
 simp only
 generalize hb:((sbF n t (Nt.mk r f l u ps).form).2&&(Nt.mk r f l u ps).parts.all λx=>(zfs n t x).2)=B
 cases B
 ·rw[if_neg (by simp)];exact⟨rfl,λh=>by cases h⟩
 ·rw[if_pos rfl];refine⟨rfl,λ_=>?_⟩;rw[Qb]at hb;have hall:=Qq.1 hb.2;rw[(e2 hb.1).1,rv_put hv ht (qjn h3)]
  congr 1
  exact Kv λx hx=>(ih x hx (h4 x hx)).2 (hall x hx)
theorem zjf (n:Str)(t:Tm):∀p:Nt,(zfs n t p).1.nodes=p.nodes:=zbu λr f l u ps ih=>by
 rw[zna,Nt.nodes_eq,Nt.nodes_eq]
 show 1+((ps.map λx=>(zfs n t x).1).map Nt.nodes).sum=1+(ps.map Nt.nodes).sum
 rw[Kw]
 congr 2
 exact Kv λx hx=>ih x hx
theorem qez (n:Str)(t:Tm):∀p:Nt,p.wfn=true->(zfs n t p).1.wfn=true:=zbu λr f l u ps ih h=>by
 obtain⟨h1,h2⟩:=Nt.wfn_is h
 rw[zna,Nt.wfn_eq,Qb,Q9]
 refine⟨by show _=(((ps.map λx=>(zfs n t x).1).length:Nat):Int);rw[Qa];exact h1,Qq.2 λy hy=>?_⟩
 obtain⟨x,hx,rfl⟩:=Ka.1 hy
 exact ih x hx (h2 x hx)
theorem qt1 {t:Tm}(h:t.good=true):t.nodes<=30:=by
 unfold Tm.good zet at h
 simp only[Qb,Q2]at h
 omega
theorem zrf {n:Str}{t:Tm}(ht:t.good=true):∀p:Nt,p.gdn=true->(zfs n t p).1.okn=true:=zbu λr f l u ps ih h=>by
 obtain⟨h1,h2,h3,h4⟩:=Nt.gdn_is h
 have ho:=Nt.okn_is (zc0 _ h)
 have hw:=zgf ht
 rw[zna]
 refine Nt.okn_mk sbF_wt ?_ (by show(ps.map _).length<=3;rw[Qa];exact ho.2.2.1) λy hy=>?_
 ·show(rvT [(n,t)] u).wt<=8000
  rw[qio];have h5:=qje n t u;rcases qjn h3 with hu|hu
  ·have hu:u.good=true:=hu;have k1:=qt1 hu;have k2:=zgf hu;have k3:u.nodes*t.wt<=30*240:=J3 k1 hw;omega
  ·have hu:u.none=true:=hu;have e:=ql0 hu;rw[qiv hu]at h5;have k1:u.nodes=1:=by rw[e];rfl
   rw[k1]at h5;omega
 ·obtain⟨x,hx,rfl⟩:=Ka.1 hy;exact ih x hx (h4 x hx)
def zi9 (p:Nt)(i:Nat):Nt:=p.parts.getD i zN
noncomputable def ztu (p:Nt):Nt×Bool :=
 let d:=zi9 p 0
 if(p.rule==6||p.rule==7)=true then (zi9 d (p.rule-6).toNat,true)
 else if(p.rule==10)=true then (zcx za2 p.label (zi9 d 0) (zi9 p (1+d.rule-8).toNat),true)
 else if(p.rule==12||p.rule==14)=true then (zcx za2 d.label (zi9 p 1) (zi9 d 0),true)
 else if(p.rule==16)=true then zfs d.term.name p.term (zi9 d 0)
 else (zcx za2 p.label (zi9 d 0) (zfs p.term.name d.term (zi9 p 1)).1,(zfs p.term.name d.term (zi9 p 1)).2)
noncomputable def qcc (p:Nt):Nt×Bool :=
 let d:=zi9 p 0
 if(p.rule==6)=true then (zi9 d 0,true)
 else if(p.rule==7)=true then (zi9 d 1,true)
 else if(p.rule==10)=true then (if(d.rule==8)=true then (zcx za7 p.label (zi9 d 0) (zi9 p 1),true)else (zcx za7 p.label (zi9 d 0) (zi9 p 2),true))
 else if(p.rule==12||p.rule==14)=true then (zcx za7 d.label (zi9 p 1) (zi9 d 0),true)
 else if(p.rule==16)=true then zei d.term.name p.term (zi9 d 0)
 else if(zei p.term.name d.term (zi9 p 1)).2=true then (zcx za7 p.label (zi9 d 0) (zei p.term.name d.term (zi9 p 1)).1,true)else (zN,false)
noncomputable def atI:List Int->Nt->Nt×Bool
 | [],p=>ztu p
 | i::pos,p=>(.mk p.rule p.form p.label p.term (p.parts.set i.toNat (atI pos (zi9 p i.toNat)).1),(atI pos (zi9 p i.toNat)).2)
noncomputable def atS:List Int->Nt->Nt×Bool
 | [],p=>qcc p
 | i::pos,p=>if(atS pos (zi9 p i.toNat)).2=true then (.mk p.rule p.form p.label p.term (p.parts.set i.toNat (atS pos (zi9 p i.toNat)).1),true)else (zN,false)
end
section
open Go.RowKit
theorem qvk {p:Nt}(h:znx p=true):∃d rest,p.parts=d::rest/\zcp d.rule p.rule=true:=by
 unfold znx at h
 cases hp:p.parts with
 | nil=>rw[hp]at h;cases h
 | cons d rest=>rw[hp]at h;exact⟨d,rest,rfl,h⟩
theorem qg9 {r e:Int}(h:zcp r e=true):((e=6\/e=7)/\r=5)\/(e=10/\(r=8\/r=9))\/(e=12/\r=11)\/(e=14/\r=13)\/(e=16/\r=15)\/(e=18/\r=17):=by
 unfold zcp at h
 split at h
 ·rename_i k;simp only[K1,Q9]at k h;exact Or.inl ⟨k,h⟩
 split at h
 ·rename_i k;simp only[K1,Q9]at k h;exact Or.inr (Or.inl ⟨k,h⟩)
 split at h
 ·rename_i k;simp only[Q9]at k h;exact Or.inr (Or.inr (Or.inl ⟨k,h⟩))
 split at h
 ·rename_i k;simp only[Q9]at k h;exact Or.inr (Or.inr (Or.inr (Or.inl ⟨k,h⟩)))
 split at h
 ·rename_i k;simp only[Q9]at k h;exact Or.inr (Or.inr (Or.inr (Or.inr (Or.inl ⟨k,h⟩))))
 split at h
 ·rename_i k;simp only[Q9]at k h;exact Or.inr (Or.inr (Or.inr (Or.inr (Or.inr ⟨k,h⟩))))
 ·cases h
theorem zlt {p:Nt}(hg:p.wfn=true)(h:znx p=true) :
  (∃d a b,(p.rule=6\/p.rule=7)/\p.parts=[d]/\d.rule=5/\d.parts=[a,b]) ∨
  (∃d x y a,p.rule=10/\p.parts=[d,x,y]/\(d.rule=8\/d.rule=9)/\d.parts=[a]) ∨
  (∃d x a,(p.rule=12/\d.rule=11\/p.rule=14/\d.rule=13)/\p.parts=[d,x]/\d.parts=[a]) ∨
  (∃d a,p.rule=16/\p.parts=[d]/\d.rule=15/\d.parts=[a]) ∨
  (∃d x a,p.rule=18/\p.parts=[d,x]/\d.rule=17/\d.parts=[a]):=by
 obtain⟨d,rest,hp,hi⟩:=qvk h
 obtain⟨h1,h2⟩:=Nt.wfn_is hg
 have hd:=h2 d (by rw[hp];simp)
 obtain⟨d1,_⟩:=Nt.wfn_is hd
 obtain⟨n0,n2,n3,n1⟩:=zf6 h1
 obtain⟨m0,m2,m3,m1⟩:=zf6 d1
 rcases qg9 hi with⟨e,k⟩|⟨e,k⟩|⟨e,k⟩|⟨e,k⟩|⟨e,k⟩|⟨e,k⟩
 ·obtain⟨q,hq⟩:=zgv (n1 Y0);obtain⟨a,b,hab⟩:=zp9 (m2 Y0);rw[hq]at hp;cases hp;exact Or.inl ⟨d,a,b,e,hq,k,hab⟩
 ·obtain⟨q,x,y,hq⟩:=lnn3 (n3 e);obtain⟨a,ha⟩:=zgv (m1 Y0);rw[hq]at hp;cases hp;exact Or.inr (Or.inl ⟨d,x,y,a,e,hq,k,ha⟩)
 ·obtain⟨q,x,hq⟩:=zp9 (n2 Y0);obtain⟨a,ha⟩:=zgv (m1 Y0);rw[hq]at hp;cases hp;exact Or.inr (Or.inr (Or.inl ⟨d,x,a,Or.inl ⟨e,k⟩,hq,ha⟩))
 ·obtain⟨q,x,hq⟩:=zp9 (n2 Y0);obtain⟨a,ha⟩:=zgv (m1 Y0);rw[hq]at hp;cases hp;exact Or.inr (Or.inr (Or.inl ⟨d,x,a,Or.inr ⟨e,k⟩,hq,ha⟩))
 ·obtain⟨q,hq⟩:=zgv (n1 Y0);obtain⟨a,ha⟩:=zgv (m1 Y0);rw[hq]at hp;cases hp;exact Or.inr (Or.inr (Or.inr (Or.inl ⟨d,a,e,hq,k,ha⟩)))
 ·obtain⟨q,x,hq⟩:=zp9 (n2 Y0);obtain⟨a,ha⟩:=zgv (m1 Y0);rw[hq]at hp;cases hp;exact Or.inr (Or.inr (Or.inr (Or.inr ⟨d,x,a,e,hq,k,ha⟩)))
theorem qe0 {p d a b:Nt}(h:p.rule=6\/p.rule=7)(hp:p.parts=[d])(ha:d.parts=[a,b]):ztu p=(if p.rule=6 then a else b,true):=by
 obtain⟨r,f,l,t,ps⟩:=p
 obtain⟨r2,f2,l2,t2,ps2⟩:=d
 have ha:ps2=[a,b]:=ha
 subst ha
 have hp:ps=[.mk r2 f2 l2 t2 [a,b]]:=hp
 subst hp
 rcases h with e|e
 ·have e:r=6:=e;subst e;rfl
 ·have e:r=7:=e;subst e;rfl
theorem zvq {p d x y a:Nt}(h:p.rule=10)(hp:p.parts=[d,x,y])(hd:d.rule=8\/d.rule=9)(ha:d.parts=[a]):ztu p=(zcx za2 p.label a (if d.rule=8 then x else y),true):=by
 obtain⟨r,f,l,t,ps⟩:=p
 obtain⟨r2,f2,l2,t2,ps2⟩:=d
 have ha:ps2=[a]:=ha
 subst ha
 have hp:ps=[.mk r2 f2 l2 t2 [a],x,y]:=hp
 subst hp
 have h:r=10:=h
 subst h
 rcases hd with e|e
 ·have e:r2=8:=e;subst e;rfl
 ·have e:r2=9:=e;subst e;rfl
theorem zxg {p d x a:Nt}(h:p.rule=12\/p.rule=14)(hp:p.parts=[d,x])(ha:d.parts=[a]):ztu p=(zcx za2 d.label x a,true):=by
 obtain⟨r,f,l,t,ps⟩:=p
 obtain⟨r2,f2,l2,t2,ps2⟩:=d
 have ha:ps2=[a]:=ha
 subst ha
 have hp:ps=[.mk r2 f2 l2 t2 [a],x]:=hp
 subst hp
 rcases h with e|e
 ·have e:r=12:=e;subst e;rfl
 ·have e:r=14:=e;subst e;rfl
theorem zwv {p d a:Nt}(h:p.rule=16)(hp:p.parts=[d])(ha:d.parts=[a]):ztu p=zfs d.term.name p.term a:=by
 obtain⟨r,f,l,t,ps⟩:=p
 obtain⟨r2,f2,l2,t2,ps2⟩:=d
 have ha:ps2=[a]:=ha
 subst ha
 have hp:ps=[.mk r2 f2 l2 t2 [a]]:=hp
 subst hp
 have h:r=16:=h
 subst h
 rfl
theorem zvc {p d x a:Nt}(h:p.rule=18)(hp:p.parts=[d,x])(ha:d.parts=[a]):ztu p=(zcx za2 p.label a (zfs p.term.name d.term x).1,(zfs p.term.name d.term x).2):=by
 obtain⟨r,f,l,t,ps⟩:=p
 obtain⟨r2,f2,l2,t2,ps2⟩:=d
 have ha:ps2=[a]:=ha
 subst ha
 have hp:ps=[.mk r2 f2 l2 t2 [a],x]:=hp
 subst hp
 have h:r=18:=h
 subst h
 rfl
theorem qq2 {p d a b:Nt}(h:p.rule=6\/p.rule=7)(hp:p.parts=[d])(ha:d.parts=[a,b]):qcc p=(if p.rule=6 then a else b,true):=by
 obtain⟨r,f,l,t,ps⟩:=p
 obtain⟨r2,f2,l2,t2,ps2⟩:=d
 have ha:ps2=[a,b]:=ha
 subst ha
 have hp:ps=[.mk r2 f2 l2 t2 [a,b]]:=hp
 subst hp
 rcases h with e|e
 ·have e:r=6:=e;subst e;rfl
 ·have e:r=7:=e;subst e;rfl
theorem qh3 {p d x y a:Nt}(h:p.rule=10)(hp:p.parts=[d,x,y])(hd:d.rule=8\/d.rule=9)(ha:d.parts=[a]):qcc p=(zcx za7 p.label a (if d.rule=8 then x else y),true):=by
 obtain⟨r,f,l,t,ps⟩:=p
 obtain⟨r2,f2,l2,t2,ps2⟩:=d
 have ha:ps2=[a]:=ha
 subst ha
 have hp:ps=[.mk r2 f2 l2 t2 [a],x,y]:=hp
 subst hp
 have h:r=10:=h
 subst h
 rcases hd with e|e
 ·have e:r2=8:=e;subst e;rfl
 ·have e:r2=9:=e;subst e;rfl
theorem qjl {p d x a:Nt}(h:p.rule=12\/p.rule=14)(hp:p.parts=[d,x])(ha:d.parts=[a]):qcc p=(zcx za7 d.label x a,true):=by
 obtain⟨r,f,l,t,ps⟩:=p
 obtain⟨r2,f2,l2,t2,ps2⟩:=d
 have ha:ps2=[a]:=ha
 subst ha
 have hp:ps=[.mk r2 f2 l2 t2 [a],x]:=hp
 subst hp
 rcases h with e|e
 ·have e:r=12:=e;subst e;rfl
 ·have e:r=14:=e;subst e;rfl
theorem qet {p d a:Nt}(h:p.rule=16)(hp:p.parts=[d])(ha:d.parts=[a]):qcc p=zei d.term.name p.term a:=by
 obtain⟨r,f,l,t,ps⟩:=p
 obtain⟨r2,f2,l2,t2,ps2⟩:=d
 have ha:ps2=[a]:=ha
 subst ha
 have hp:ps=[.mk r2 f2 l2 t2 [a]]:=hp
 subst hp
 have h:r=16:=h
 subst h
 rfl
theorem qd3 {p d x a:Nt}(h:p.rule=18)(hp:p.parts=[d,x])(ha:d.parts=[a]):qcc p=if(zei p.term.name d.term x).2=true then (zcx za7 p.label a (zei p.term.name d.term x).1,true)else (zN,false):=by
 obtain⟨r,f,l,t,ps⟩:=p
 obtain⟨r2,f2,l2,t2,ps2⟩:=d
 have ha:ps2=[a]:=ha
 subst ha
 have hp:ps=[.mk r2 f2 l2 t2 [a],x]:=hp
 subst hp
 have h:r=18:=h
 subst h
 rfl
theorem zbb {p x:Nt}(h:p.gdn=true){xs:List Nt}(hp:p.parts=xs)(hx:x∈xs):x.gdn=true:=(Nt.gdn_is h).2.2.2 x (hp▸hx)
theorem zfk {p:Nt}(h:p.gdn=true)(hr:p.rule=15\/p.rule=16\/p.rule=17\/p.rule=18):p.term.good=true:=by
 have:=(Nt.gdn_is h).2.2.1
 rcases hr with e|e|e|e<;>(rw[e]at this;exact this)
theorem qk0 {p:Nt}(h:p.gdn=true)(hd:znx p=true):(ztu p).2=(qcc p).2/\((ztu p).2=true->(ztu p).1=(qcc p).1):=by
 rcases zlt (zdz p h) hd with⟨d,a,b,e,hp,k,ha⟩|⟨d,x,y,a,e,hp,k,ha⟩|⟨d,x,a,e,hp,ha⟩|⟨d,a,e,hp,k,ha⟩|⟨d,x,a,e,hp,k,ha⟩
 ·rw[qe0 e hp ha,qq2 e hp ha];exact⟨rfl,λ_=>rfl⟩
 ·have hx:=zdz x (zbb h hp (by simp));have hy:=zdz y (zbb h hp (by simp));rw[zvq e hp k ha,qh3 e hp k ha,zio]
  ·exact⟨rfl,λ_=>rfl⟩
  ·split
   ·exact hx
   ·exact hy
 ·have hgd:=zbb h hp (x:=d) (by simp);have e:p.rule=12\/p.rule=14:=e.imp And.left And.left;rw[zxg e hp ha,qjl e hp ha,zio _ _ _ (zdz a (zbb hgd ha (by simp)))];exact⟨rfl,λ_=>rfl⟩
 ·have hgd:=zbb h hp (x:=d) (by simp);rw[zwv e hp ha,qet e hp ha];exact zlz (Nt.gdn_var hgd (Or.inl k)) (zfk h Y0) a (zbb hgd ha (by simp))
 ·have hgd:=zbb h hp (x:=d) (by simp);have hgx:=zbb h hp (x:=x) (by simp);obtain⟨r1,r2⟩:=zlz (n:=p.term.name) (t:=d.term) (Nt.gdn_var h (Or.inr e)) (zfk hgd Y0) x hgx;have hwf:=qez p.term.name d.term x (zdz x hgx);rw[zvc e hp ha,qd3 e hp ha,<-r1,zio _ _ _ hwf];cases hb:(zfs p.term.name d.term x).2
  ·rw[if_neg (by simp)];exact⟨rfl,λh=>by cases h⟩
  ·rw[if_pos rfl,r2 hb];exact⟨rfl,λ_=>rfl⟩
theorem zc5 {p x:Nt}{xs:List Nt}(hp:p.parts=xs)(hx:x∈xs):x.nodes<=p.nodes:=zhp (hp▸hx)
theorem zzc {dis:Int->Int->Bool}{l:Int}{p q:Nt}(np:p.nodes<=60)(nq:q.nodes<=60):(zcx dis l q p).nodes<=3600:=by
 have h1:=zsr dis l q p
 have h2:p.nodes*q.nodes<=60*60:=J3 np nq
 omega
theorem ztk {p:Nt}(h:p.gdn=true)(hn:p.nodes<=60)(hd:znx p=true):(ztu p).1.okn=true/\(ztu p).1.nodes<=3600:=by
 rcases zlt (zdz p h) hd with⟨d,a,b,e,hp,k,ha⟩|⟨d,x,y,a,e,hp,k,ha⟩|⟨d,x,a,e,hp,ha⟩|⟨d,a,e,hp,k,ha⟩|⟨d,x,a,e,hp,k,ha⟩
 ·have hgd:=zbb h hp (x:=d) (by simp);have n1:=zc5 hp (x:=d) (by simp);have n2:=zc5 ha (x:=a) (by simp);have n3:=zc5 ha (x:=b) (by simp);rw[qe0 e hp ha];show(if p.rule=6 then a else b).okn=true/\(if p.rule=6 then a else b).nodes<=3600
  split
  ·exact⟨zc0 _ (zbb hgd ha (by simp)),Y0⟩
  ·exact⟨zc0 _ (zbb hgd ha (by simp)),Y0⟩
 ·have hgd:=zbb h hp (x:=d) (by simp);have n1:=zc5 hp (x:=d) (by simp);have n2:=zc5 ha (x:=a) (by simp);have n3:=zc5 hp (x:=x) (by simp);have n4:=zc5 hp (x:=y) (by simp);have ha':=zc0 _ (zbb hgd ha (x:=a) (by simp));rw[zvq e hp k ha];split
  ·exact⟨zmg _ _ _ ha' _ (zc0 _ (zbb h hp (by simp))),zzc Y0 Y0⟩
  ·exact⟨zmg _ _ _ ha' _ (zc0 _ (zbb h hp (by simp))),zzc Y0 Y0⟩
 ·have hgd:=zbb h hp (x:=d) (by simp);have n1:=zc5 hp (x:=d) (by simp);have n2:=zc5 ha (x:=a) (by simp);have n3:=zc5 hp (x:=x) (by simp);have e:p.rule=12\/p.rule=14:=e.imp And.left And.left;rw[zxg e hp ha];exact⟨zmg _ _ _ (zc0 _ (zbb h hp (by simp))) _ (zc0 _ (zbb hgd ha (by simp))),zzc Y0 Y0⟩
 ·have hgd:=zbb h hp (x:=d) (by simp);have n1:=zc5 hp (x:=d) (by simp);have n2:=zc5 ha (x:=a) (by simp);rw[zwv e hp ha];exact⟨zrf (zfk h Y0) a (zbb hgd ha (by simp)),by rw[zjf];omega⟩
 ·have hgd:=zbb h hp (x:=d) (by simp);have n1:=zc5 hp (x:=d) (by simp);have n2:=zc5 ha (x:=a) (by simp);have n3:=zc5 hp (x:=x) (by simp);rw[zvc e hp ha];exact⟨zmg _ _ _ (zc0 _ (zbb hgd ha (by simp))) _ (zrf (zfk hgd Y0) x (zbb h hp (by simp))),zzc (by rw[zjf];omega) Y0⟩
theorem zpz {p:Nt}{k:Nat}(h:k<p.parts.length):zi9 p ((k:Int).toNat)=p.parts[k]:=by
 unfold zi9
 rw[K4,List.getD_eq_getElem?_getD,List.getElem?_eq_getElem h];rfl
theorem qm7 {pos:List Int}{p:Nt}(hp:Path pos p):p.gdn=true->(atI pos p).2=(atS pos p).2/\((atI pos p).2=true->(atI pos p).1=(atS pos p).1):=by
 induction hp with
 | here h=>exact λhg=>qk0 hg h
 | @down p k pos h h2 ih =>
  intro hg;obtain⟨i1,i2⟩:=ih ((Nt.gdn_is hg).2.2.2 _ (Qk h));rw[atI,atS,zpz h,<-i1];cases hb:(atI pos p.parts[k]).2
  ·rw[if_neg (by simp)];exact⟨rfl,λh=>by cases h⟩
  ·rw[if_pos rfl,i2 hb];exact⟨rfl,λ_=>rfl⟩
theorem qdq (y:Nt):∀(xs:List Nt)(k:Nat)(_:k<xs.length),((xs.set k y).map Nt.nodes).sum+xs[k].nodes=(xs.map Nt.nodes).sum+y.nodes
 | x::xs,0,h=>by
  simp only[Yr,Qc,Kt,Kk];omega
 | x::xs,k+1,h=>by
  have:=qdq y xs k (by simpa using h);simp only[List.set_cons_succ,Qc,Kt,Kl];omega
theorem qpf {pos:List Int}{p:Nt}(hp:Path pos p):p.gdn=true->p.nodes<=60->(atI pos p).1.okn=true/\(atI pos p).1.nodes<=p.nodes+3600:=by
 induction hp with
 | here h=>exact λhg hn=>⟨(ztk hg hn h).1,by have:=(ztk hg hn h).2;show(ztu _).1.nodes<=_;omega⟩
 | @down p k pos h h2 ih =>
  intro hg hn;have hk:=Qk h;have hnk:=zhp hk;obtain⟨i1,i2⟩:=ih ((Nt.gdn_is hg).2.2.2 _ hk) Y0;rw[atI,zpz h,K4];obtain⟨o1,o2,o3,o4⟩:=Nt.okn_is (zc0 p hg);refine⟨Nt.okn_mk o1 o2 (by show(p.parts.set k _).length<=3;rw[List.length_set];exact o3) λq hq=>?_,?_⟩
  ·rcases List.mem_or_eq_of_mem_set hq with hm|rfl
   ·exact o4 q hm
   ·exact i1
  ·have e1:(Nt.mk p.rule p.form p.label p.term (p.parts.set k (atI pos p.parts[k]).1)).nodes=1+((p.parts.set k (atI pos p.parts[k]).1).map Nt.nodes).sum:=Nt.nodes_eq _;have e2:=p.nodes_eq;have:=qdq (atI pos p.parts[k]).1 p.parts k h;show(Nt.mk p.rule p.form p.label p.term (p.parts.set k (atI pos p.parts[k]).1)).nodes<=_
   omega
noncomputable def rmI (p:Nt):Nt×Bool:=if zeg p=true then (match dtr p with
 | none=>(zN,false)
 | some pos=>if((atI pos p).2&&zeg (atI pos p).1)=true then ((atI pos p).1,true)else (zN,false))else (zN,false)
theorem qrj {p:Nt}(h:zeg p=true){pos:List Int}(hd:dtr p=some pos):Fit (atI pos p).1:=by
 obtain⟨h1,h2⟩:=zho h
 obtain⟨s1,s2⟩:=qpf (zi0 p pos hd) h1 h2
 exact zl9 _ s1 Y0
theorem zzt {p:Nt}(h:(rmI p).2=true):zeg (rmI p).1=true:=by
 unfold rmI at h⊢
 split at h
 ·rename_i hv;rw[if_pos hv];cases hd:dtr p with
  | none=>rw[hd]at h;cases h
  | some pos =>
   rw[hd]at h;simp only at h⊢;split at h
   ·rename_i hb;rw[if_pos hb];rw[Qb]at hb;exact hb.2
   ·cases h
 ·cases h
noncomputable def nmI:Nat->Nat->Nt->Nt×Nat
 | 0,n,p=>(p,n)
 | k+1,n,p=>if(rmI p).2=true then nmI k (n+1) (rmI p).1 else (p,n)
noncomputable def qm1 (p:Nt)(l:Int)(q:Nt):Nt×Bool:=if(zeg p&&zeg q&&zeg (zcx za2 l q p))=true then (zcx za2 l q p,true)else (zN,false)
end
section
open Go.RowKit
theorem zxy {w:World}{A:Nat->Prop}:∀(ds:List D)(vs:List Value)(fp tp:List Nat),za5 w A (rd ds) vs fp tp->zbn w A ds vs/\fp=[]/\tp=[]
 | [],vs,fp,tp,h=>h
 | d::ds,vs,fp,tp,h=>by
  obtain⟨v,vs',rfl,h1,h2⟩:=h;obtain⟨h3,h4,h5⟩:=zxy ds vs' fp tp h2;exact⟨⟨v,vs',rfl,h1,h3⟩,h4,h5⟩
theorem qab {P:Program}{f:FuncId}{args:List D}{b:Bool}(h:RC P f args [bD b]):FC P f args [bD b]:=by
 refine⟨h.1,λw vs fp tp hv hn=>?_⟩
 obtain⟨h1,rfl,rfl⟩:=zxy _ _ _ _ hv
 refine(h.2 w vs (λk=>k∉([]:List Nat)) h1).mono ?_
 rintro e w' ⟨us,rfl,hr,hb⟩
 obtain⟨u,us',rfl,hu,hz⟩:=hr
 have hz:us'=[]:=hz
 subst hz
 have hu:u=.bool b:=hu
 subst hu
 exact⟨[.bool b],[],[],rfl,⟨_,[],[],[],[],[],rfl,rfl,rfl,⟨⟨rfl,rfl⟩,rfl⟩,rfl,rfl,rfl⟩,Kr,λb hb=>absurd hb (by simp),⟨hb.os,hb.tape,hb.output,hb.size,λk hk=>hb.block k hk.1⟩⟩
theorem zjd (p:Nt)(hw:Fit p):FC Tryz.prog 14 [ntD p] [bD (zeg p)]:=qab (zk7 p hw)
theorem zka (p:Nt)(hw:Fit p):FC Tryz.prog 44 [ntD p] [bD (zeg p)]:=by
 rw[val_eq p hw];exact qab (qe2 p hw)
def zNB:List C:=[.t (.int .i64 0),.t (.int .i64 0),.t (.str []),.nl 2,.t (.str []),.nl 5,.t (.int .i64 0),.t (.str []),.nl 2,.nl 10]
attribute [go_sem] zNB
theorem zdc:ntC zN=[.int .i64 0,.int .i64 0,.str [],.sl 2 [],.str [],.sl 5 [],.int .i64 0,.str [],.sl 2 [],.sl 10 []]:=by rw[zac];rfl
theorem zoe (p:Nt)(hw:Fit p)(H:∀x∈p.parts,FC Tryz.prog 80 [ntD x] [ntD x]):FC Tryz.prog 80 [ntD p] [ntD p]:=by
 have hW:=hw.own
 have HF:=zjm p.form Y0
 have HT:=zft p.term Y0
 simp only[ntD,zac p,fmD,zaa p.form,tmD,zab p.term]at HF HT⊢
 refine zae Tryz.call80 Tryz.func80 rfl Yz (zao Yz) ?_
 simp -implicitDefEqProofs only[go_sem,Tryz.results80]
 refine drawn Yz ?_
 refine Y1 ?_
 refine zai (HF) Yy ?_
 refine Y1 ?_
 refine zai (HT) Yy ?_
 refine Y1 ?_
 refine⟨Yz,?_⟩
 refine zah (λk:Nat=>hd [(2,.one (.bx 2 0)),(3,.one (.bx 3 0)),(18,vT (ntS p.parts)),(19,vI p.parts.length),(20,vI k)] [(2,zNB),(3,[.t (.int .i64 p.rule),.t (.int .i64 p.form.op),.t (.str p.form.atom.name),.ow 322 0,.t (.str p.form.var),.ow 324 0,.t (.int .i64 p.label),.t (.str p.term.name),.ow 481 0,.ow 3000 0])]
  [(322,⟨true,2,p.form.atom.args.map tmC,0,true⟩),(324,⟨true,5,p.form.parts.map fmC,0,true⟩),(481,⟨true,2,p.term.args.map tmC,0,true⟩),(3000,⟨true,10,(p.parts.take k).map ntC,0,true⟩)]) (λk=>k<=p.parts.length) (λk=>p.parts.length-k) 0 (zad ?_) (Kc _) ?_
 ·exact Yy
 ·intro k hk;by_cases hlt:k<p.parts.length
  ·have hmin:min k p.parts.length<=4294967295:=by omega
   have HC:=H p.parts[k] (Qk hlt);simp only[ntD,zac p.parts[k]]at HC;refine Zc hlt (zac p.parts[k]) ?_;refine drawn Yz ?_;refine Y1 ?_;refine zai (HC) Yy ?_;refine Y1 ?_;refine zbj Yy ?_;refine Y1 ?_;refine zg5 true (Zs hmin) ?_;refine Zt hmin ?_;refine⟨Yz,k+1,hlt,Y0,zad ?_⟩;refine Y1 ?_;rw[zaq Y0,Qn hlt,Q1,Q6,zac p.parts[k]];exact⟨rfl,rfl⟩
  ·have ht:p.parts.take k=p.parts:=Qr Y0;exact Y9 hlt ht
theorem zdb:∀p:Nt,Fit p->FC Tryz.prog 80 [ntD p] [ntD p] :=
 zbu λr f l t ps ih hw=>zoe (.mk r f l t ps) hw λx hx=>ih x hx (hw.sub x hx)
theorem qi7 (p:Nt)(hw:Fit p)(H:∀x∈p.parts,FC Tryz.prog 78 [ntD x] [ntD x]):FC Tryz.prog 78 [ntD p] [ntD p]:=by
 have hW:=hw.own
 have HF:=zu4 p.form Y0
 have HT:=zmv p.term Y0
 simp only[ntD,zac p,fmD,zaa p.form,tmD,zab p.term]at HF HT⊢
 refine zae Tryz.call78 Tryz.func78 rfl Yz (zao Yz) ?_
 simp -implicitDefEqProofs only[go_sem,Tryz.results78]
 refine drawn Yz ?_
 refine Y1 ?_
 refine zai (HF) Yy ?_
 refine Y1 ?_
 refine zai (HT) Yy ?_
 refine Y1 ?_
 refine⟨Yz,?_⟩
 refine zah (λk:Nat=>hd [(1,.one (.bx 1 0)),(2,.one (.bx 2 0)),(3,.one (.bx 3 0)),(4,vI k)] [(1,ntB p),(2,zNB),(3,[.t (.int .i64 p.rule),.t (.int .i64 p.form.op),.t (.str p.form.atom.name),.ow 290 0,.t (.str p.form.var),.ow 292 0,.t (.int .i64 p.label),.t (.str p.term.name),.ow 449 0,.ow 3000 0])]
  [(290,⟨true,2,p.form.atom.args.map tmC,0,true⟩),(292,⟨true,5,p.form.parts.map fmC,0,true⟩),(449,⟨true,2,p.term.args.map tmC,0,true⟩),(3000,⟨true,10,(p.parts.take k).map ntC,0,true⟩)]) (λk=>k<=p.parts.length) (λk=>p.parts.length-k) 0 (zad ?_) (Kc _) ?_
 ·exact Yy
 ·intro k hk;by_cases hlt:k<p.parts.length
  ·have hmin:min k p.parts.length<=4294967295:=by omega
   have HC:=H p.parts[k] (Qk hlt);simp only[ntD,zac p.parts[k]]at HC;refine Y6 hlt ?_;refine drawn Yz ?_;refine Vj ?_;refine zai (HC) Yy ?_;refine Y1 ?_;refine zbj Yy ?_;refine Y1 ?_;refine zg5 true (Zs hmin) ?_;refine Zt hmin ?_;refine⟨Yz,?_⟩;rw[zaq Y0];refine⟨k+1,hlt,Y0,zad ?_⟩;refine Y1 ?_;rw[Qn hlt,Q1,Q6,zac p.parts[k]]
  ·have ht:p.parts.take k=p.parts:=Qr Y0;exact Z8 hlt ht
theorem zfc:∀p:Nt,Fit p->FC Tryz.prog 78 [ntD p] [ntD p] :=
 zbu λr f l t ps ih hw=>qi7 (.mk r f l t ps) hw λx hx=>ih x hx (hw.sub x hx)
theorem zs2 (r e:Int):FC Tryz.prog 126 [iD r,iD e] [bD (zcp r e)]:=by
 by_cases h6:e=6
 ·subst h6;refine zae Tryz.call126 Tryz.func126 rfl Yz (zao Yz) ?_;refine Xf ?_
  all_goals simp[zcp]
 by_cases h7:e=7
 ·subst h7;refine zae Tryz.call126 Tryz.func126 rfl Yz (zao Yz) ?_;refine Xf ?_
  all_goals simp[zcp]
 by_cases h10:e=10
 ·subst h10;cases h8:(r==8)
  ·refine zae Tryz.call126 Tryz.func126 rfl Yz (zao Yz) ?_;simp -implicitDefEqProofs only[go_sem,Tryz.results126,h8]
   all_goals simp[zcp,h8]
  ·refine zae Tryz.call126 Tryz.func126 rfl Yz (zao Yz) ?_;simp -implicitDefEqProofs only[go_sem,Tryz.results126,h8]
   all_goals simp[zcp,h8]
 by_cases h12:e=12
 ·subst h12;refine zae Tryz.call126 Tryz.func126 rfl Yz (zao Yz) ?_;refine Xf ?_
  all_goals simp[zcp]
 by_cases h14:e=14
 ·subst h14;refine zae Tryz.call126 Tryz.func126 rfl Yz (zao Yz) ?_;refine Xf ?_
  all_goals simp[zcp]
 by_cases h16:e=16
 ·subst h16;refine zae Tryz.call126 Tryz.func126 rfl Yz (zao Yz) ?_;refine Xf ?_
  all_goals simp[zcp]
 by_cases h18:e=18
 ·subst h18;refine zae Tryz.call126 Tryz.func126 rfl Yz (zao Yz) ?_;refine Xf ?_
  all_goals simp[zcp]
 have e6:(e==6)=false:=by simpa using h6
 have e7:(e==7)=false:=by simpa using h7
 have e10:(e==10)=false:=by simpa using h10
 have e12:(e==12)=false:=by simpa using h12
 have e14:(e==14)=false:=by simpa using h14
 have e16:(e==16)=false:=by simpa using h16
 have e18:(e==18)=false:=by simpa using h18
 refine zae Tryz.call126 Tryz.func126 rfl Yz (zao Yz) ?_
 simp -implicitDefEqProofs only[go_sem,Tryz.results126,e6,e7,e10,e12,e14,e16,e18]
 simp[zcp,e6,e7,e10,e12,e14,e16,e18]
theorem qcq (p:Nt):FC Tryz.prog 96 [ntD p] [bD (znx p)]:=by
 cases hp:p.parts with
 | nil =>
  have e:znx p=false:=by unfold znx;rw[hp]
  rw[e];simp only[ntD,zac p,hp,Qi];refine zae Tryz.call96 Tryz.func96 rfl Yz (zao Yz) ?_;simp -implicitDefEqProofs only[go_sem,Tryz.results96];refine drawn Yz ?_;simp -implicitDefEqProofs only[go_sem,Qs];kernel_rfl
 | cons q rest =>
  have e:znx p=zcp q.rule p.rule:=by unfold znx;rw[hp]
  rw[e];have HI:=zs2 q.rule p.rule;have hl:(0<((rest.length+1:Nat):Int))=True:=eq_true Y0;simp only[ntD,zac p,hp,Qc];refine zae Tryz.call96 Tryz.func96 rfl Yz (zao Yz) ?_;simp -implicitDefEqProofs only[go_sem,Tryz.results96];refine drawn Yz ?_;simp -implicitDefEqProofs only[go_sem,Qg,hl,decide_true,Qh,zac q];refine zaz (HI) Yy ?_;refine Y1 ?_;kernel_rfl
theorem zq3 (p:Nt):FC Tryz.prog 95 [ntD p] [bD (znx p)]:=by
 cases hp:p.parts with
 | nil =>
  have e:znx p=false:=by unfold znx;rw[hp]
  rw[e];simp only[ntD,zac p,hp,Qi];refine zae Tryz.call95 Tryz.func95 rfl Yz (zao Yz) ?_;simp -implicitDefEqProofs only[go_sem,Tryz.results95,Qs]
 | cons q rest =>
  have e:znx p=zcp q.rule p.rule:=by unfold znx;rw[hp]
  rw[e];have hl:(((rest.length+1:Nat):Int)==0)=false:=by rw[Jd];omega
  have hl2:(0<((rest.length+1:Nat):Int))=True:=eq_true Y0;obtain⟨r,f,l,t,ps⟩:=p;have hp:ps=q::rest:=hp;subst hp;show FC _ _ [ntD (.mk r f l t (q::rest))] [bD (zcp q.rule r)]
  simp only[ntD,zbe,Qc];generalize hqr:q.rule=s;by_cases h6:r=6
  ·subst h6;refine zae Tryz.call95 Tryz.func95 rfl Yz (zao Yz) ?_;refine Vm ?_
   all_goals simp[zcp]
  by_cases h7:r=7
  ·subst h7;refine zae Tryz.call95 Tryz.func95 rfl Yz (zao Yz) ?_;refine Vm ?_
   all_goals simp[zcp]
  by_cases h10:r=10
  ·subst h10;cases h8:(s==8)
   ·refine zae Tryz.call95 Tryz.func95 rfl Yz (zao Yz) ?_;simp -implicitDefEqProofs only[go_sem,Tryz.results95,Qg,hl,hl2,Qh,zac q,hqr,h8]
    all_goals simp[zcp,h8]
   ·refine zae Tryz.call95 Tryz.func95 rfl Yz (zao Yz) ?_;simp -implicitDefEqProofs only[go_sem,Tryz.results95,Qg,hl,hl2,Qh,zac q,hqr,h8]
    all_goals simp[zcp,h8]
  by_cases h12:r=12
  ·subst h12;refine zae Tryz.call95 Tryz.func95 rfl Yz (zao Yz) ?_;refine Vm ?_
   all_goals simp[zcp]
  by_cases h14:r=14
  ·subst h14;refine zae Tryz.call95 Tryz.func95 rfl Yz (zao Yz) ?_;refine Vm ?_
   all_goals simp[zcp]
  by_cases h16:r=16
  ·subst h16;refine zae Tryz.call95 Tryz.func95 rfl Yz (zao Yz) ?_;refine Vm ?_
   all_goals simp[zcp]
  by_cases h18:r=18
  ·subst h18;refine zae Tryz.call95 Tryz.func95 rfl Yz (zao Yz) ?_;refine Vm ?_
   all_goals simp[zcp]
  have e6:(r==6)=false:=by simpa using h6
  have e7:(r==7)=false:=by simpa using h7
  have e10:(r==10)=false:=by simpa using h10
  have e12:(r==12)=false:=by simpa using h12
  have e14:(r==14)=false:=by simpa using h14
  have e16:(r==16)=false:=by simpa using h16
  have e18:(r==18)=false:=by simpa using h18
  refine zae Tryz.call95 Tryz.func95 rfl Yz (zao Yz) ?_;simp -implicitDefEqProofs only[go_sem,Tryz.results95,Qg,hl,hl2,Qh,zac q,hqr,e6,e7,e10,e12,e14,e16,e18];simp[zcp,e6,e7,e10,e12,e14,e16,e18]
end
section
open Go.RowKit
theorem qux {p:Nt}(hw:Fit p):((dtr p).getD []).length<=1073741824:=by
 have h1:=hw.all
 have h2:=zm0 p
 cases hd:dtr p with
 | none=>exact Kc _
 | some pos =>
  have:=qpj (zi0 p pos hd);show pos.length<=_
  omega
theorem zn4 (p:Nt)(hw:Fit p)(H:∀x∈p.parts,FC Tryz.prog 59 [ntD x] [.one (ze2 ((dtr x).getD [])),bD (dtr x).isSome]):FC Tryz.prog 59 [ntD p] [.one (ze2 ((dtr p).getD [])),bD (dtr p).isSome]:=by
 have hW:=hw.own
 have HI:=qcq p
 have hv:=qku p
 simp only[ntD,zac p]at HI⊢
 cases hdt:znx p
 ·rw[hdt]at HI;rw[hdt,if_neg (by simp)]at hv;rw[hv];refine zae Tryz.call59 Tryz.func59 rfl Yz (zao Yz) ?_;simp -implicitDefEqProofs only[go_sem,Tryz.results59];refine callF (HI) Yy ?_;refine Y1 ?_;refine zah (λk:Nat=>hd [(12,vT (ntS p.parts)),(13,vI p.parts.length),(14,vI k)] [] []) (λk=>k<=p.parts.length/\zuz 0 (p.parts.map dtr)=zuz k ((p.parts.drop k).map dtr)) (λk=>p.parts.length-k) 0 (zad ?_) ⟨Kc _,by rw[J9]⟩ ?_
  ·exact Yy
  ·rintro k ⟨hk,hrec⟩;by_cases hlt:k<p.parts.length
   ·have HC:=H p.parts[k] (Qk hlt);have hlen:=qux (hw.sub p.parts[k] (Qk hlt));rw[Qm hlt,Qc]at hrec;generalize dtr p.parts[k]=B at HC hrec hlen;simp only[ntD,zac p.parts[k]]at HC;cases B with
    | none =>
     rw[zuz]at hrec;simp only[Option.getD_none,Yp]at HC;refine Zc hlt (zac p.parts[k]) ?_;refine callF (HC) Yy ?_;refine Y1 ?_;refine⟨k+1,⟨hlt,hrec⟩,Y0,zad ?_⟩;refine Y1 ?_;rw[zaq Y0]
    | some R =>
     rw[zuz]at hrec;rw[hrec];simp only[Kq,Jv]at HC hlen⊢;have hap:1+R.length<=4294967296:=by omega
     refine Zc hlt (zac p.parts[k]) ?_;refine callF (HC) Yy ?_;refine Y1 ?_;refine zbg Yy ?_;refine Y1 ?_;refine apD true (by simp -implicitDefEqProofs only[go_sem,ne_eq,Qa,Qg,Qs,hap]) ?_;simp -implicitDefEqProofs only[go_sem,ne_eq,Qa,Qg,Qs,hap]
   ·rw[Q0 Y0]at hrec;rw[hrec];refine Vd ?_;exact⟨rfl,rfl⟩
 ·rw[hdt]at HI;rw[hdt,if_pos rfl]at hv;rw[hv];show FC _ _ _ [.one (.sl 1 []),bD true]
  refine zae Tryz.call59 Tryz.func59 rfl Yz (zao Yz) ?_;simp -implicitDefEqProofs only[go_sem,Tryz.results59];refine callF (HI) Yy ?_;refine Y1 ?_;refine zbg Yy ?_;exact Yy
theorem zra:∀p:Nt,Fit p->FC Tryz.prog 59 [ntD p] [.one (ze2 ((dtr p).getD [])),bD (dtr p).isSome] :=
 zbu λr f l t ps ih hw=>zn4 (.mk r f l t ps) hw λx hx=>ih x hx (hw.sub x hx)
def dtK (pl:List Int)(o:Option (List Int)):List Int:=match o with
 | some pos=>pl++pos
 | none=>[]
theorem zt4 (p:Nt)(hw:Fit p)(H:∀x∈p.parts,∀pl:List Int,pl.length+x.nodes<=2000000000->RC Tryz.prog 58 [ntD x,.one (ze2 pl)] [.one (ze2 (dtK pl (dtr x))),bD (dtr x).isSome])(pl:List Int)(hp:pl.length+p.nodes<=2000000000):RC Tryz.prog 58 [ntD p,.one (ze2 pl)] [.one (ze2 (dtK pl (dtr p))),bD (dtr p).isSome]:=by
 have hW:=hw.own
 have hn:=p.nodes_eq
 have HI:=zq3 p
 have hv:=qku p
 simp only[ntD,zac p]at HI⊢
 cases hdt:znx p
 ·rw[hdt]at HI;rw[hdt,if_neg (by simp)]at hv;rw[hv];have hrec0:zuz 0 (p.parts.map dtr)=zuz 0 ((p.parts.drop 0).map dtr):=by rw[J9]
  generalize zuz 0 (p.parts.map dtr)=X at hrec0⊢;refine zcb Tryz.call58 Tryz.func58 rfl Yz (zao Yz) ?_;simp -implicitDefEqProofs only[go_sem,Tryz.results58];refine callF (HI) Yy ?_;refine Y1 ?_;refine zah (λk:Nat=>hd [(1,vT (ze2 pl)),(2,.one (.bx 2 0)),(6,vI k)] [(2,ntB p)] []) (λk=>k<=p.parts.length/\X=zuz k ((p.parts.drop k).map dtr)) (λk=>p.parts.length-k) 0 (zad ?_) ⟨Kc _,hrec0⟩ ?_
  ·exact Yy
  ·rintro k ⟨hk,hrec⟩;by_cases hlt:k<p.parts.length
   ·have hxn:=zbz Nt.nodes p.parts p.parts[k] (Qk hlt);have hxn1:=znh p.parts[k];have HO:=zx4 pl Y0;have HC:=H p.parts[k] (Qk hlt) (pl++[(k:Int)]) (by rw[Qy];simp;omega);rw[Qm hlt,Qc]at hrec;generalize dtr p.parts[k]=B at HC hrec;have hap:pl.length<=4294967295:=by omega
    simp only[ntD,zac p.parts[k],ze2,Q1,Qc,Qi]at HC;cases B with
    | none =>
     rw[zuz]at hrec;simp only[dtK,Yp,Qi]at HC;refine Y6 hlt ?_;refine drawn Yz ?_;refine Vj ?_;refine zai (HO) Yy ?_;refine Y1 ?_;refine zbj Yy ?_;refine Y1 ?_;refine zg5 true (Zk hap) ?_;refine Zl hap ?_;refine zwc 832 HC Yy ?_;refine Y1 ?_;refine⟨Yz,k+1,⟨hlt,hrec⟩,Y0,zad ?_⟩;refine Y1 ?_;rw[zaq Y0]
    | some R =>
     rw[zuz]at hrec;simp only[dtK,Jv]at HC;have hX:ze2 (dtK pl X)=.sl 1 ((pl++[(k:Int)]++R).map λs=>[.int .i64 s]):=by
      rw[hrec];show ze2 (pl++((k:Int)::R))=_
      rw[Kd];rfl
     have hXs:X.isSome=true:=by rw[hrec];rfl
     rw[hX,hXs];refine Y6 hlt ?_;refine drawn Yz ?_;refine Vj ?_;refine zai (HO) Yy ?_;refine Y1 ?_;refine zbj Yy ?_;refine Y1 ?_;refine zg5 true (Zk hap) ?_;refine Zl hap ?_;refine zwc 832 HC Yy ?_;refine Y1 ?_;kernel_rfl
   ·rw[Q0 Y0]at hrec;rw[hrec];refine Y6 hlt ?_;refine zde Yy ?_;refine Y1 ?_
    first|exact⟨rfl,rfl⟩|rfl
 ·rw[hdt]at HI;rw[hdt,if_pos rfl]at hv;rw[hv];show RC _ _ _ [.one (ze2 (pl++[])),bD true]
  rw[Ko];refine zcb Tryz.call58 Tryz.func58 rfl Yz (zao Yz) ?_;simp -implicitDefEqProofs only[go_sem,Tryz.results58];refine callF (HI) Yy ?_;exact Yy
theorem zvh:∀p:Nt,Fit p->∀pl:List Int,pl.length+p.nodes<=2000000000->RC Tryz.prog 58 [ntD p,.one (ze2 pl)] [.one (ze2 (dtK pl (dtr p))),bD (dtr p).isSome] :=
 zbu λr f l t ps ih hw=>zt4 (.mk r f l t ps) hw λx hx=>ih x hx (hw.sub x hx)
noncomputable def fdI (p:Nt):List Int×Bool×Bool:=if zeg p=true then ((dtr p).getD [],(dtr p).isSome,true)else ([],false,false)
theorem zqo (p:Nt)(hw:Fit p):FC Tryz.prog 23 [ntD p] [.one (ze2 (fdI p).1),bD (fdI p).2.1,bD (fdI p).2.2]:=by
 have HV:=zjd p hw
 have HD:=zra p hw
 unfold fdI
 simp only[ntD,zac p]at HV HD⊢
 cases hv:zeg p
 ·rw[hv]at HV;rw[if_neg (by simp)];show FC _ _ _ [.one (.sl 1 []),_,_]
  refine zae Tryz.call23 Tryz.func23 rfl Yz (zao Yz) ?_;simp -implicitDefEqProofs only[go_sem,Tryz.results23];refine callF (HV) Yy ?_;exact Yy
 ·rw[hv]at HV;rw[if_pos rfl];generalize (dtr p).getD []=R at HD⊢;generalize (dtr p).isSome=B at HD⊢;refine zae Tryz.call23 Tryz.func23 rfl Yz (zao Yz) ?_;simp -implicitDefEqProofs only[go_sem,Tryz.results23];refine callF (HV) Yy ?_;refine Y1 ?_;refine callF (HD) Yy ?_;exact Yy
theorem qvx (o:Option (List Int)):dtK [] o=o.getD []:=by cases o<;>rfl
end
section
open Go.RowKit
theorem zqr (f:Nt->List T)(xs:List Nt)(i:Nat)(r:Nt)(hi:i<xs.length)(hl:(f r).length=(f xs[i]).length):zep (xs.map f) i 0 (f r)=(xs.set i r).map f:=by
 unfold zep setR
 rw[List.getD_eq_getElem?_getD,List.getElem?_map,List.getElem?_eq_getElem hi]
 simp only[Q8,Kq,Jw,K5,Q7,hl,List.drop_length,Ko]
 rw[List.map_set]
theorem zhb (d:Nat->Bool)(g:Nt->Nt)(xs:List Nt){k:Nat}(h:k<xs.length):sel d g 0 (xs.take (k+1))=sel d g 0 (xs.take k)++[if d k=true then xs[k]else g xs[k]]:=by
 rw[Qn h,zyi,Q7,Qo,Jm Y0]
theorem qpo (d:Nat->Bool)(g:Nt->Nt)(xs:List Nt){k:Nat}(h:k<xs.length):(sel d g 0 (xs.take k)++xs.drop k).set k (if d k=true then xs[k]else g xs[k])=sel d g 0 (xs.take (k+1))++xs.drop (k+1):=by
 have hl:(sel d g 0 (xs.take k)).length=k:=by rw[zii,Qo,Jm Y0]
 rw[zhb d g xs h,Qm h,List.set_append_right _ _ Y0,hl,Ys,Yr,Kd]
 rfl
theorem qna (d:Nat->Bool)(g:Nt->Nt)(xs:List Nt){k:Nat}(h:k<xs.length)(hd:d k=true):sel d g 0 (xs.take k)++xs.drop k=sel d g 0 (xs.take (k+1))++xs.drop (k+1):=by
 rw[zhb d g xs h,Qm h,if_pos hd,Kd]
 rfl
theorem qhh (l:Int)(q:Nt)(hq:Fit q)(p:Nt)(hw:Fit p)(hwf:p.wfn=true)(H:∀x∈p.parts,FC Tryz.prog 71 [ntD x,iD l,ntD q] [ntD (zcx za2 l q x)]):FC Tryz.prog 71 [ntD p,iD l,ntD q] [ntD (zcx za2 l q p)]:=by
 have hW:=hw.own
 have HCp:=zdb p hw
 have HCq:=zdb q hq
 have hv:=zj8 za2 l q p
 obtain⟨w1,w2⟩:=Nt.wfn_is hwf
 cases r1:(p.rule==1)
 ·rw[r1,Qx,if_neg (by simp)]at hv;rw[hv];generalize hdf:(λi:Nat=>za2 p.rule i&&p.label==l)=d;have hdk:∀k:Nat,d k=(za2 p.rule k&&p.label==l):=λk=>by rw[<-hdf]
  have hsl:∀k,(sel d (zcx za2 l q) 0 (p.parts.take k)++p.parts.drop k).length=p.parts.length:=λk=>by
   rw[Qy,zii,Qo,K3];omega
  simp only[ntD,zac p,zac q,zbe]at HCp H⊢;refine zae Tryz.call71 Tryz.func71 rfl Yz (zao Yz) ?_;simp -implicitDefEqProofs only[go_sem,Tryz.results71,r1];refine callF (HCp) Yy ?_;refine Y1 ?_
  refine zah (λk:Nat=>hd [(1,vI l),(3,.one (.bx 3 0)),(5,.one (.bx 5 0)),(6,.one (.bx 6 0)),(7,.one (.bx 7 0)),(24,vT (ntS p.parts)),(25,vI p.parts.length),(26,vI k)] [(3,ntB p),(5,ntB q),(6,zNB),(7,[.t (.int .i64 p.rule),.t (.int .i64 p.form.op),.t (.str p.form.atom.name),.ow 707 0,.t (.str p.form.var),.ow 709 0,.t (.int .i64 p.label),.t (.str p.term.name),.ow 712 0,.ow 713 0])]
   [(707,⟨true,2,p.form.atom.args.map tmC,0,true⟩),(709,⟨true,5,p.form.parts.map fmC,0,true⟩),(712,⟨true,2,p.term.args.map tmC,0,true⟩),(713,⟨true,10,(sel d (zcx za2 l q) 0 (p.parts.take k)++p.parts.drop k).map ntC,0,true⟩)]) (λk=>k<=p.parts.length) (λk=>p.parts.length-k) 0 (zad ?_) (Kc _) ?_
  ·simp -implicitDefEqProofs only[go_sem,Jw,J9,sel,K5]
  ·intro k hk;by_cases hlt:k<p.parts.length
   ·have HC:=H p.parts[k] (Qk hlt);have HD:=zfp p.rule k;have hk1:=hdk k;have hkeep:=qna d (zcx za2 l q) p.parts hlt;have hstep:=qpo d (zcx za2 l q) p.parts hlt;have hlen:=hsl k;have hst:∀X:List Nt,X.length=p.parts.length->zep (X.map ntC) k 0 (ntC (zcx za2 l q p.parts[k]))=(X.set k (zcx za2 l q p.parts[k])).map ntC:=λX hX=>zqr ntC X k _ Y0 (by rw[zac,zac];rfl);have hst:=hst _ hlen;generalize hX:sel d (zcx za2 l q) 0 (p.parts.take k)++p.parts.drop k=X at hkeep hstep hlen hst⊢;generalize zcx za2 l q p.parts[k]=y at HC hstep hst;have hltX:k<X.length:=by omega
    simp only[zac p.parts[k],zac y]at HC hst;cases hb:(p.label==l)
    ·have hbn:(p.label != l)=true:=by unfold bne;rw[hb];rfl
     rw[hb,Ke]at hk1;rw[hk1,if_neg (by simp)]at hstep;refine Vw ?_;refine drawn Yz ?_;refine Y1 ?_;refine zai (HC) (Xq hltX) ?_;refine Y6 hltX ?_;refine znr (by simp -implicitDefEqProofs only[go_sem,hltX,Qa];simp) ?_;simp -implicitDefEqProofs only[go_sem,hltX,Qa,hst];refine⟨Yz,k+1,hlt,Y0,zad ?_⟩;refine Y1 ?_;rw[zaq Y0,hstep];exact⟨rfl,rfl⟩
    ·have hbn:(p.label != l)=false:=by unfold bne;rw[hb];rfl
     rw[hb,Kz]at hk1;rw[<-hk1]at HD;cases hdk2:d k
     ·rw[hdk2]at HD;rw[hdk2,if_neg (by simp)]at hstep;refine Vw ?_;refine callF (HD) (Zz hbn) ?_;refine Z9 hbn ?_;refine drawn Yz ?_;refine Y1 ?_;refine zai (HC) (Xq hltX) ?_;refine Y6 hltX ?_;refine znr (by simp -implicitDefEqProofs only[go_sem,hltX,Qa];simp) ?_;simp -implicitDefEqProofs only[go_sem,hltX,Qa,hst];refine⟨Yz,k+1,hlt,Y0,zad ?_⟩;refine Y1 ?_;rw[zaq Y0,hstep];exact⟨rfl,rfl⟩
     ·rw[hdk2]at HD;have hkeep:=hkeep hdk2;refine Vw ?_;refine callF (HD) (Zv hbn) ?_;refine Zw hbn ?_;refine⟨k+1,hlt,Y0,zad ?_⟩;refine Y1 ?_;rw[zaq Y0,hkeep];exact⟨rfl,rfl⟩
   ·have ht:sel d (zcx za2 l q) 0 (p.parts.take k)++p.parts.drop k=sel d (zcx za2 l q) 0 p.parts:=by
     rw[Qr Y0,Q0 Y0,Ko]
    exact Y9 hlt ht
 ·rw[r1,Qv]at hv;cases hb:(p.label==l)
  ·rw[hb,if_neg (by simp)]at hv;have hr:p.rule=1:=by simpa using r1
   have hps:p.parts=[]:=by
    rw[hr]at w1;have w1:(0:Int)=(p.parts.length:Int):=w1;exact Kn Y0
   have e:zcx za2 l q p=p:=by
    rw[hv,hps,sel,<-hps];exact p.eta
   rw[e];simp only[ntD,zac p,zac q]at HCp⊢;refine zae Tryz.call71 Tryz.func71 rfl Yz (zao Yz) ?_;simp -implicitDefEqProofs only[go_sem,Tryz.results71,r1,hb];refine callF (HCp) Yy ?_;exact Yy
  ·rw[hb,if_pos rfl]at hv;rw[hv];simp only[ntD,zac p,zac q]at HCq⊢;refine zae Tryz.call71 Tryz.func71 rfl Yz (zao Yz) ?_;simp -implicitDefEqProofs only[go_sem,Tryz.results71,r1,hb];refine callF (HCq) Yy ?_;exact Yy
theorem zju (l:Int)(q:Nt)(hq:Fit q):∀p:Nt,Fit p->p.wfn=true->FC Tryz.prog 71 [ntD p,iD l,ntD q] [ntD (zcx za2 l q p)] :=
 zbu λr f lab t ps ih hw hwf=>qhh l q hq (.mk r f lab t ps) hw hwf λx hx=>ih x hx (hw.sub x hx) ((Nt.wfn_is hwf).2 x hx)
theorem ztj (l:Int)(q:Nt)(hq:Fit q)(p:Nt)(hw:Fit p)(H:∀x∈p.parts,FC Tryz.prog 69 [ntD x,iD l,ntD q] [ntD (zcx za7 l q x)]):FC Tryz.prog 69 [ntD p,iD l,ntD q] [ntD (zcx za7 l q p)]:=by
 have hW:=hw.own
 have HCq:=zfc q hq
 have HF:=zu4 p.form Y0
 have HT:=zmv p.term Y0
 have hv:=zj8 za7 l q p
 generalize hdf:(λi:Nat=>za7 p.rule i&&p.label==l)=d at hv
 have hdk:∀k:Nat,d k=(za7 p.rule k&&p.label==l):=λk=>by rw[<-hdf]
 simp only[ntD,zac p,zac q,fmD,zaa p.form,tmD,zab p.term]at HF HT HCq H⊢
 cases r1:(p.rule==1)<;>cases hb:(p.label==l)
 ·rw[r1,hb,Ke,if_neg (by simp)]at hv;rw[hv];simp only[zbe];refine zae Tryz.call69 Tryz.func69 rfl Yz (zao Yz) ?_;refine Vs ?_;refine drawn Yz ?_;refine Y1 ?_;refine zai (HF) Yy ?_;refine Y1 ?_;refine zai (HT) Yy ?_;refine Y1 ?_;refine⟨Yz,?_⟩
  refine zah (λk:Nat=>hd [(1,vI l),(3,.one (.bx 3 0)),(5,.one (.bx 5 0)),(6,.one (.bx 6 0)),(7,.one (.bx 7 0)),(8,vI k)] [(3,ntB p),(5,ntB q),(6,zNB),(7,[.t (.int .i64 p.rule),.t (.int .i64 p.form.op),.t (.str p.form.atom.name),.ow 770 0,.t (.str p.form.var),.ow 772 0,.t (.int .i64 p.label),.t (.str p.term.name),.ow 929 0,.ow 3000 0])]
   [(770,⟨true,2,p.form.atom.args.map tmC,0,true⟩),(772,⟨true,5,p.form.parts.map fmC,0,true⟩),(929,⟨true,2,p.term.args.map tmC,0,true⟩),(3000,⟨true,10,(sel d (zcx za7 l q) 0 (p.parts.take k)).map ntC,0,true⟩)]) (λk=>k<=p.parts.length) (λk=>p.parts.length-k) 0 (zad ?_) (Kc _) ?_
  ·exact X7
  ·intro k hk;by_cases hlt:k<p.parts.length
   ·have hxw:=hw.sub p.parts[k] (Qk hlt);have HC:=H p.parts[k] (Qk hlt);have HO:=zfc p.parts[k] hxw;have HD:=zcm p.rule k;have hk1:=hdk k;have hstep:=zhb d (zcx za7 l q) p.parts hlt;have hlen:(sel d (zcx za7 l q) 0 (p.parts.take k)).length<=4294967295:=by rw[zii,Qo];omega
    generalize sel d (zcx za7 l q) 0 (p.parts.take k)=X at hstep hlen⊢;generalize zcx za7 l q p.parts[k]=y at HC hstep;rw[hb]at hk1;simp only[ntD,zac p.parts[k],zac y]at HC HO;cases hds:za7 p.rule k
    ·rw[hds]at HD hk1;have hk1:d k=false:=hk1;rw[hk1,if_neg (by simp)]at hstep;refine Y6 hlt ?_;refine callF (HD) (Y3 hb) ?_;refine Y2 hb ?_;refine drawn Yz ?_;refine Vj ?_;refine zai (HC) Yy ?_;refine Y1 ?_;refine zbj Yy ?_;refine Y1 ?_;refine zg5 true (Zk hlen) ?_;refine Zl hlen ?_;refine⟨Yz,?_⟩;rw[zaq Y0];refine⟨k+1,hlt,Y0,zad ?_⟩;refine Y1 ?_;rw[hstep,Q1,Q6,zac y]
    ·rw[hds]at HD hk1;have hk1:d k=false:=hk1;rw[hk1,if_neg (by simp)]at hstep;refine Y6 hlt ?_;refine callF (HD) (Y3 hb) ?_;refine Y2 hb ?_;refine drawn Yz ?_;refine Vj ?_;refine zai (HC) Yy ?_;refine Y1 ?_;refine zbj Yy ?_;refine Y1 ?_;refine zg5 true (Zk hlen) ?_;refine Zl hlen ?_;refine⟨Yz,?_⟩;rw[zaq Y0];refine⟨k+1,hlt,Y0,zad ?_⟩;refine Y1 ?_;rw[hstep,Q1,Q6,zac y]
   ·have ht:p.parts.take k=p.parts:=Qr Y0;exact Z8 hlt ht
 ·rw[r1,hb,Qx,if_neg (by simp)]at hv;rw[hv];simp only[zbe];refine zae Tryz.call69 Tryz.func69 rfl Yz (zao Yz) ?_;refine Vs ?_;refine drawn Yz ?_;refine Y1 ?_;refine zai (HF) Yy ?_;refine Y1 ?_;refine zai (HT) Yy ?_;refine Y1 ?_;refine⟨Yz,?_⟩
  refine zah (λk:Nat=>hd [(1,vI l),(3,.one (.bx 3 0)),(5,.one (.bx 5 0)),(6,.one (.bx 6 0)),(7,.one (.bx 7 0)),(8,vI k)] [(3,ntB p),(5,ntB q),(6,zNB),(7,[.t (.int .i64 p.rule),.t (.int .i64 p.form.op),.t (.str p.form.atom.name),.ow 770 0,.t (.str p.form.var),.ow 772 0,.t (.int .i64 p.label),.t (.str p.term.name),.ow 929 0,.ow 3000 0])]
   [(770,⟨true,2,p.form.atom.args.map tmC,0,true⟩),(772,⟨true,5,p.form.parts.map fmC,0,true⟩),(929,⟨true,2,p.term.args.map tmC,0,true⟩),(3000,⟨true,10,(sel d (zcx za7 l q) 0 (p.parts.take k)).map ntC,0,true⟩)]) (λk=>k<=p.parts.length) (λk=>p.parts.length-k) 0 (zad ?_) (Kc _) ?_
  ·exact X7
  ·intro k hk;by_cases hlt:k<p.parts.length
   ·have hxw:=hw.sub p.parts[k] (Qk hlt);have HC:=H p.parts[k] (Qk hlt);have HO:=zfc p.parts[k] hxw;have HD:=zcm p.rule k;have hk1:=hdk k;have hstep:=zhb d (zcx za7 l q) p.parts hlt;have hlen:(sel d (zcx za7 l q) 0 (p.parts.take k)).length<=4294967295:=by rw[zii,Qo];omega
    generalize sel d (zcx za7 l q) 0 (p.parts.take k)=X at hstep hlen⊢;generalize zcx za7 l q p.parts[k]=y at HC hstep;rw[hb]at hk1;simp only[ntD,zac p.parts[k],zac y]at HC HO;cases hds:za7 p.rule k
    ·rw[hds]at HD hk1;have hk1:d k=false:=hk1;rw[hk1,if_neg (by simp)]at hstep;refine Y6 hlt ?_;refine callF (HD) (Y3 hb) ?_;refine Y2 hb ?_;refine drawn Yz ?_;refine Vj ?_;refine zai (HC) Yy ?_;refine Y1 ?_;refine zbj Yy ?_;refine Y1 ?_;refine zg5 true (Zk hlen) ?_;refine Zl hlen ?_;refine⟨Yz,?_⟩;rw[zaq Y0];refine⟨k+1,hlt,Y0,zad ?_⟩;refine Y1 ?_;rw[hstep,Q1,Q6,zac y]
    ·rw[hds]at HD hk1;have hk1:d k=true:=hk1;rw[hk1,if_pos rfl]at hstep;refine Y6 hlt ?_;refine callF (HD) (Y3 hb) ?_;refine Y2 hb ?_;refine drawn Yz ?_;refine Vj ?_;refine zai (HO) Yy ?_;refine Y1 ?_;refine zbj Yy ?_;refine Y1 ?_;refine zg5 true (Zk hlen) ?_;refine Zl hlen ?_;refine⟨Yz,?_⟩;rw[zaq Y0];refine⟨k+1,hlt,Y0,zad ?_⟩;refine Y1 ?_;rw[hstep,Q1,Q6,zac p.parts[k]]
   ·have ht:p.parts.take k=p.parts:=Qr Y0;exact Z8 hlt ht
 ·rw[r1,hb,Ke,if_neg (by simp)]at hv;rw[hv];simp only[zbe];refine zae Tryz.call69 Tryz.func69 rfl Yz (zao Yz) ?_;refine Vs ?_;refine drawn Yz ?_;refine Y1 ?_;refine zai (HF) Yy ?_;refine Y1 ?_;refine zai (HT) Yy ?_;refine Y1 ?_;refine⟨Yz,?_⟩
  refine zah (λk:Nat=>hd [(1,vI l),(3,.one (.bx 3 0)),(5,.one (.bx 5 0)),(6,.one (.bx 6 0)),(7,.one (.bx 7 0)),(8,vI k)] [(3,ntB p),(5,ntB q),(6,zNB),(7,[.t (.int .i64 p.rule),.t (.int .i64 p.form.op),.t (.str p.form.atom.name),.ow 770 0,.t (.str p.form.var),.ow 772 0,.t (.int .i64 p.label),.t (.str p.term.name),.ow 929 0,.ow 3000 0])]
   [(770,⟨true,2,p.form.atom.args.map tmC,0,true⟩),(772,⟨true,5,p.form.parts.map fmC,0,true⟩),(929,⟨true,2,p.term.args.map tmC,0,true⟩),(3000,⟨true,10,(sel d (zcx za7 l q) 0 (p.parts.take k)).map ntC,0,true⟩)]) (λk=>k<=p.parts.length) (λk=>p.parts.length-k) 0 (zad ?_) (Kc _) ?_
  ·exact X7
  ·intro k hk;by_cases hlt:k<p.parts.length
   ·have hxw:=hw.sub p.parts[k] (Qk hlt);have HC:=H p.parts[k] (Qk hlt);have HO:=zfc p.parts[k] hxw;have HD:=zcm p.rule k;have hk1:=hdk k;have hstep:=zhb d (zcx za7 l q) p.parts hlt;have hlen:(sel d (zcx za7 l q) 0 (p.parts.take k)).length<=4294967295:=by rw[zii,Qo];omega
    generalize sel d (zcx za7 l q) 0 (p.parts.take k)=X at hstep hlen⊢;generalize zcx za7 l q p.parts[k]=y at HC hstep;rw[hb]at hk1;simp only[ntD,zac p.parts[k],zac y]at HC HO;cases hds:za7 p.rule k
    ·rw[hds]at HD hk1;have hk1:d k=false:=hk1;rw[hk1,if_neg (by simp)]at hstep;refine Y6 hlt ?_;refine callF (HD) (Y3 hb) ?_;refine Y2 hb ?_;refine drawn Yz ?_;refine Vj ?_;refine zai (HC) Yy ?_;refine Y1 ?_;refine zbj Yy ?_;refine Y1 ?_;refine zg5 true (Zk hlen) ?_;refine Zl hlen ?_;refine⟨Yz,?_⟩;rw[zaq Y0];refine⟨k+1,hlt,Y0,zad ?_⟩;refine Y1 ?_;rw[hstep,Q1,Q6,zac y]
    ·rw[hds]at HD hk1;have hk1:d k=false:=hk1;rw[hk1,if_neg (by simp)]at hstep;refine Y6 hlt ?_;refine callF (HD) (Y3 hb) ?_;refine Y2 hb ?_;refine drawn Yz ?_;refine Vj ?_;refine zai (HC) Yy ?_;refine Y1 ?_;refine zbj Yy ?_;refine Y1 ?_;refine zg5 true (Zk hlen) ?_;refine Zl hlen ?_;refine⟨Yz,?_⟩;rw[zaq Y0];refine⟨k+1,hlt,Y0,zad ?_⟩;refine Y1 ?_;rw[hstep,Q1,Q6,zac y]
   ·have ht:p.parts.take k=p.parts:=Qr Y0;exact Z8 hlt ht
 ·rw[r1,hb,Yj,if_pos rfl]at hv;rw[hv];simp only[zac q];refine zae Tryz.call69 Tryz.func69 rfl Yz (zao Yz) ?_;refine Vs ?_;refine callF (HCq) Yy ?_;exact Yy
theorem ze9 (l:Int)(q:Nt)(hq:Fit q):∀p:Nt,Fit p->FC Tryz.prog 69 [ntD p,iD l,ntD q] [ntD (zcx za7 l q p)] :=
 zbu λr f lab t ps ih hw=>ztj l q hq (.mk r f lab t ps) hw λx hx=>ih x hx (hw.sub x hx)
theorem znj (p:Nt)(hw:Fit p):GC Tryz.prog 70 [(true,ntD p)] [ntD (if zeg p=true then p else zN),bD (zeg p)]:=by
 have HV:=zjd p hw
 simp only[ntD,zac p]at HV⊢
 cases hv:zeg p
 ·rw[hv]at HV;rw[if_neg (by simp),zdc];refine qcd Tryz.call70 Tryz.func70 rfl Yz (by simp only[Qg,Qs,Tryz.ntmps70];omega) (by simp[zcj,T.isPin]) ?_;simp -implicitDefEqProofs only[go_sem,Tryz.results70];refine callF (HV) Yy ?_;exact Yy
 ·rw[hv]at HV;rw[if_pos rfl,zac p];refine qcd Tryz.call70 Tryz.func70 rfl Yz (by simp only[Qg,Qs,Tryz.ntmps70];omega) (by simp[zcj,T.isPin]) ?_;simp -implicitDefEqProofs only[go_sem,Tryz.results70];refine callF (HV) Yy ?_;exact Yy
theorem zrb (p:Nt)(l:Int)(q:Nt)(hp:Fit p)(hq:Fit q):FC Tryz.prog 35 [ntD p,iD l,ntD q] [ntD (qm1 p l q).1,bD (qm1 p l q).2]:=by
 have HP:=zjd p hp
 have HQ:=zjd q hq
 unfold qm1
 cases vp:zeg p
 ·rw[vp]at HP;rw[Qx,Qx,if_neg (by simp)];simp only[ntD,zac p,zac q,zdc]at HP⊢;refine zae Tryz.call35 Tryz.func35 rfl Yz (zao Yz) ?_;simp -implicitDefEqProofs only[go_sem,Tryz.results35];refine callF (HP) Yy ?_;exact Yy
 ·rw[vp]at HP;cases vq:zeg q
  ·rw[vq]at HQ;rw[Ke,Qx,if_neg (by simp)];simp only[ntD,zac p,zac q,zdc]at HP HQ⊢;refine zae Tryz.call35 Tryz.func35 rfl Yz (zao Yz) ?_;simp -implicitDefEqProofs only[go_sem,Tryz.results35];refine callF (HP) Yy ?_;refine Y1 ?_;refine callF (HQ) Yy ?_;exact Yy
  ·rw[vq]at HQ;obtain⟨gp,np⟩:=zho vp;obtain⟨gq,nq⟩:=zho vq;have HI:=zju l q hq p hp (zdz p gp);have HIf:=znj (zcx za2 l q p) (qf3 (zc0 p gp) (zc0 q gq) np nq);rw[Qv,Qv];have e:(if zeg (zcx za2 l q p)=true then (zcx za2 l q p,true)else (zN,false))=((if zeg (zcx za2 l q p)=true then zcx za2 l q p else zN),zeg (zcx za2 l q p)):=by
    cases zeg (zcx za2 l q p)<;>rfl
   rw[e];generalize zcx za2 l q p=y at HI HIf⊢;generalize (if zeg y=true then y else zN)=z at HIf⊢;generalize zeg y=b at HIf⊢;simp only[ntD,zac p,zac q,zac y,zac z]at HP HQ HI HIf⊢;refine zae Tryz.call35 Tryz.func35 rfl Yz (zao Yz) ?_;simp -implicitDefEqProofs only[go_sem,Tryz.results35];refine callF (HP) Yy ?_;refine Y1 ?_;refine callF (HQ) Yy ?_;refine Y1 ?_;refine callF (HI) Yy ?_;refine Y1 ?_;refine zem [6] [20] [] (HIf) Yy Yy Yy Yy ?_;exact Yy
theorem zn2 (p:Nt)(l:Int)(q:Nt)(hp:Fit p)(hq:Fit q):FC Tryz.prog 34 [ntD p,iD l,ntD q] [ntD (qm1 p l q).1,bD (qm1 p l q).2]:=by
 have HP:=zka p hp
 have HQ:=zka q hq
 unfold qm1
 cases vp:zeg p
 ·rw[vp]at HP;rw[Qx,Qx,if_neg (by simp)];simp only[ntD,zac p,zac q,zdc]at HP⊢;refine zae Tryz.call34 Tryz.func34 rfl Yz (zao Yz) ?_;refine Xx ?_;refine callF (HP) Yy ?_;exact Yy
 ·rw[vp]at HP;cases vq:zeg q
  ·rw[vq]at HQ;rw[Ke,Qx,if_neg (by simp)];simp only[ntD,zac p,zac q,zdc]at HP HQ⊢;refine zae Tryz.call34 Tryz.func34 rfl Yz (zao Yz) ?_;refine Xx ?_;refine callF (HP) Yy ?_;refine Y1 ?_;refine callF (HQ) Yy ?_;exact Yy
  ·rw[vq]at HQ;obtain⟨gp,np⟩:=zho vp;obtain⟨gq,nq⟩:=zho vq;have HI:=ze9 l q hq p hp;have hfit:=qf3 (dis:=za2) (l:=l) (zc0 p gp) (zc0 q gq) np nq;have HG:=zka (zcx za2 l q p) hfit;rw[<-zio l q p (zdz p gp)]at HI;rw[Qv,Qv];generalize zcx za2 l q p=y at HI HG⊢;simp only[ntD,zac p,zac q,zac y]at HP HQ HI HG;cases hb:zeg y
   ·rw[hb]at HG;rw[if_neg (by simp)];simp only[ntD,zac p,zac q,zdc];refine zae Tryz.call34 Tryz.func34 rfl Yz (zao Yz) ?_;refine Xx ?_;refine callF (HP) Yy ?_;refine Y1 ?_;refine callF (HQ) Yy ?_;refine Y1 ?_;refine callF (HI) Yy ?_;refine Y1 ?_;refine callF (HG) Yy ?_;exact Yy
   ·rw[hb]at HG;rw[if_pos rfl];simp only[ntD,zac p,zac q,zac y];refine zae Tryz.call34 Tryz.func34 rfl Yz (zao Yz) ?_;refine Xx ?_;refine callF (HP) Yy ?_;refine Y1 ?_;refine callF (HQ) Yy ?_;refine Y1 ?_;refine callF (HI) Yy ?_;refine Y1 ?_;refine callF (HG) Yy ?_;exact Yy
end
section
open Go.RowKit
variable {P:Program}
theorem qfv {ops:Array Oper}{J:(Nat->Bool)->Act->World->Prop}{Q:Exit->Act->World->Prop}
  (hlt:∀j (h:j<ops.size),∀e∈ops[j].after,Region.binds .any e=true->e.on<j)
  (hbef:∀j (h:j<ops.size),∀i,i<ops.size->((Region.before ops).getD j 0).testBit i=true->∃e∈ops[j].after,Region.binds .any e=true/\(e.on=i\/((Region.before ops).getD e.on 0).testBit i=true))
  (hstep:∀i (_:i<ops.size) (p:Nat->Bool) a w,p i=false->(∀j,j<ops.size->((Region.before ops).getD i 0).testBit j=true->p j=true)->(∀j,j<ops.size->p j=true->((Region.before ops).getD j 0).testBit i=true->p i=true)->J p a w →
   if Region.wanted ops[i] (yielded ops a.tmps)=true then ops[i].wp P a w (λa' w'=>J (λj=>if j=i then true else p j) a' w') (λ_ _ _=>False)else J (λj=>if j=i then true else p j) (a.put ops[i].dst undef) w)
  (hQ:∀p a w,(∀j,j<ops.size->p j=true)->J p a w->Q .normal a w) :
  ∀(fuel:Nat) (listed:Array Bool) (a:Act) (w:World),listed.size=ops.size->cnt (λi=>listed.getD i false) ops.size=fuel →
   (∀j (h:j<ops.size),listed.getD j false=true->∀e∈ops[j].after,Region.binds .any e=true->listed.getD e.on false=true) →
   J (λi=>listed.getD i false) a w->wpAny P .any ops Q fuel listed a w:=by
 intro fuel
 induction fuel with
 | zero =>
  intro listed a w hsz hc hcl hJ;have hall:=zit _ hc;refine⟨?_,hQ _ a w hall hJ⟩;unfold Region.ready;rw[List.filter_eq_nil_iff];intro i hi;have hi':=Jn.1 hi;have:=hall i hi';simp only[Array.getD_eq_getD_getElem?]at this⊢;rw[Array.getElem?_eq_getElem Y0]at this⊢;simp only[Kq]at this⊢;simp[this]
 | succ fuel ih =>
  intro listed a w hsz hc hcl hJ;have hbb:∀j (h:j<ops.size),listed.getD j false=true->∀i,i<ops.size->((Region.before ops).getD j 0).testBit i=true->listed.getD i false=true:=by
   intro j;induction j using Nat.strongRecOn with
   | _ j ihj =>
    intro h hl i hi hbi;obtain⟨e,he,h1,h2⟩:=hbef j h i hi hbi;have hle:=hcl j h hl e he h1;have hlt':=hlt j h e he h1;rcases h2 with rfl|h2
    ·exact hle
    ·exact ihj e.on hlt' Y0 hle i hi h2
  refine⟨λhr=>?_,λi hi=>?_⟩
  ·exfalso;have:∀j,j<ops.size->listed.getD j false=true:=by
    intro j;induction j using Nat.strongRecOn with
    | _ j ihj =>
     intro hj;cases hl:listed.getD j false with
     | true=>rfl
     | false =>
      exfalso;have hmem:j∈Region.ready .any ops listed:=by
       unfold Region.ready;rw[Jq];refine⟨Jn.2 hj,?_⟩;have hl':listed.getD j true=false:=by
        simp only[Array.getD_eq_getD_getElem?]at hl⊢;rw[Array.getElem?_eq_getElem Y0]at hl⊢;exact hl
       rw[hl',Array.getElem?_eq_getElem hj];simp only[Qj,Qv,Q8,Kq];rw[Km];intro e he;cases hbd:Region.binds .any e with
       | false=>rfl
       | true=>simpa using ihj e.on (hlt j hj e he hbd) (by have:=hlt j hj e he hbd;omega)
      rw[hr]at hmem;exact absurd hmem (by simp)
   have hz:cnt (λi=>listed.getD i false) ops.size=0:=by
    have:∀m,m<=ops.size->cnt (λi=>listed.getD i false) m=0:=by
     intro m;induction m with
     | zero=>intro _;rfl
     | succ m ihm=>intro hm;unfold cnt;rw[if_pos (this m Y0),ihm Y0]
    exact this _ (Qz _)
   omega
  ·unfold Region.ready at hi;rw[Jq]at hi;obtain⟨hi1,hi2⟩:=hi;have hi':=Jn.1 hi1;rw[Array.getElem?_eq_getElem hi']at hi2;simp only[Q8,Kq,Qb,J4]at hi2;obtain⟨hl0,hafter⟩:=hi2;have hl:listed.getD i false=false:=by
    simp only[Array.getD_eq_getD_getElem?]at hl0⊢;rw[Array.getElem?_eq_getElem Y0]at hl0⊢;exact hl0
   have hdue:∀e∈ops[i].after,Region.binds .any e=true->listed.getD e.on false=true:=λe he hbd=>by
    have:=(Km.1 hafter) e he;simpa[hbd]using this
   have h1:∀j,j<ops.size->((Region.before ops).getD i 0).testBit j=true->listed.getD j false=true:=λj hj hbj=>by
    obtain⟨e,he,k1,k2⟩:=hbef i hi' j hj hbj;have hle:=hdue e he k1;have hlt':=hlt i hi' e he k1;rcases k2 with rfl|k2
    ·exact hle
    ·exact hbb e.on Y0 hle j hj k2
   have h2:∀j,j<ops.size->listed.getD j false=true->((Region.before ops).getD j 0).testBit i=true->listed.getD i false=true:=λj hj hlj hbj=>hbb j hj hlj i hi' hbj;have hset:(λj=>(listed.setIfInBounds i true).getD j false)=λj=>if j=i then true else listed.getD j false:=funext λj=>by
    simp only[Array.getD_eq_getD_getElem?,Array.getElem?_setIfInBounds];by_cases hji:j=i
    ·subst hji;rw[if_pos rfl,if_pos Y0,if_pos rfl];rfl
    ·rw[if_neg (λh=>hji h.symm),if_neg hji]
   have hset':∀j,(listed.setIfInBounds i true).getD j false=if j=i then true else listed.getD j false:=congrFun hset
   have hcnt:=zj9 (p:=λi=>listed.getD i false) (q:=λj=>(listed.setIfInBounds i true).getD j false) hl hset' ops.size hi';have hS:=hstep i hi' (λi=>listed.getD i false) a w hl h1 h2 hJ;rw[<-hset]at hS;have next:∀a' w',J (λj=>(listed.setIfInBounds i true).getD j false) a' w'->wpAny P .any ops Q fuel (listed.setIfInBounds i true) a' w':=λa' w' hJ'=>by
    refine ih _ a' w' (by simpa using hsz) Y0 (λj hj hlj e he hbd=>?_) hJ';rw[hset']at hlj⊢;by_cases heo:e.on=i
    ·rw[if_pos heo]
    ·rw[if_neg heo];by_cases hji:j=i
     ·subst hji;exact hdue e he hbd
     ·rw[if_neg hji]at hlj;exact hcl j hj hlj e he hbd
   unfold wpOp;rw[Array.getElem?_eq_getElem hi'];simp only;split
   ·rename_i hwd;rw[if_pos hwd]at hS;exact Or.inl (zcu next hS)
   ·rename_i hwd;rw[if_neg hwd]at hS;exact next _ _ hS
def mpOk (d0 im ii:Nat)(ops:Array Oper)(L:List (List Ky×List Ky)):Bool :=
 let b:=Region.before ops
 (b.getD ii 0).testBit im&&(List.range ops.size).all λi=>i==im||i==ii||(b.getD i 0).testBit ii||(!(L.getD i ([],[])).1.contains (0,d0)&&!(L.getD i ([],[])).2.contains (0,d0))
theorem qml {ag:Bool}{b:Nat}{mt:TypeId}{x k v:Operand}{σ σ1:St}{rows:List (List T)}{K:List (List T)->Prop}(h1:σ1.get P 0 x=σ.get P 0 x)(h2:σ1.get P 0 k=σ.get P 0 k)(h3:σ1.get P 0 v=σ.get P 0 v)(h:qic P ag b mt x k v σ rows λ_ r=>K r):qic P ag b mt x k v σ1 rows λ_ r=>K r:=by
 unfold qic at h⊢
 rw[h1,h2,h3]
 exact h
theorem nk1 {x d0:Nat}(h:x≠d0):((0,x):Ky)∉[((0,d0):Ky)]:=by simp[h]
theorem nk2 {c x d0:Nat}(h:c≠0):((c,x):Ky)∉[((0,d0):Ky)]:=by simp[h]
theorem qfq {ops:Array Oper}{σs:Nat->St}{L:List (List Ky×List Ky)}{n0:Nat->Prop}{N:Nat}{w0:World}{A0:(Nat->Prop)×RP}{Q:Exit->Act->World->Prop}{d0 im ii:Nat}{mt mt2 ty1 ty2:TypeId}{k v:Operand}{ps1 ps2:String}{af1 af2:Array Edge}{ag:Bool}{row:List T}
  (him:im<ops.size) (hii:ii<ops.size) (om:ops[im]=⟨some d0,.makeMap mt none,ty1,ps1,af1,none⟩) (oi:ops[ii]=⟨none,.insert mt2 (.tmp d0) k v,ty2,ps2,af2,none⟩)
  (hL:∀i (h:i<ops.size),i≠im->i≠ii->Loc P ops ops[i] (L.getD i ([],[])).1 (L.getD i ([],[])).2 (σs i) (σs (i+1)))
  (Lm:L.getD im ([],[])=([],[(0,d0)])) (Sm:σs (im+1)=(σs im).put (some d0) (.one .any))
  (Li:L.getD ii ([],[])=(zas [.tmp d0,k,v],[(0,d0)])) (Si:σs (ii+1)=(σs ii).put (some d0) (.one (.rn (.mp ag [row]))))
  (hk0:(0,d0)∉zas [k,v]) (hupd:∀b,qic P ag b mt2 (.tmp d0) k v ((σs ii).put (some d0) (.one (.cv (.map (some b))))) [] λ_ rows=>rows=[row])
  (hord:zqd ops L=true) (hmp:mpOk d0 im ii ops L=true) (hdst:∀o∈ops,∀d,o.dst=some d->d<N)
  (hQ:∀g a w,Rel n0 N (σs ops.size) g a w->LtK n0 w->Bk n0 w0 w->(g.A0,g.R0)=A0->Q .normal a w) :
  ∀(fuel:Nat) (listed:Array Bool) (g:Gh) (a:Act) (w:World),listed.size=ops.size->cnt (λi=>listed.getD i false) ops.size=fuel->(∀j,listed.getD j false=false) →
   Rel n0 N (σs 0) g a w->LtK n0 w->Bk n0 w0 w->(g.A0,g.R0)=A0->wpAny P .any ops Q fuel listed a w:=by
 have hd0:d0<N:=hdst ops[im] (Yb him) d0 (by rw[om])
 have hne:im≠ii:=λe=>by
  subst e;rw[om]at oi;cases oi
 have hOK:∀i,i<ops.size->okK (L.getD i ([],[])).1=true/\okK (L.getD i ([],[])).2=true/\(∀k:Ky,k.1<3->k∉(L.getD i ([],[])).2->za8 (σs i) (σs (i+1)) k):=λi h=>by
  by_cases h1:i=im
  ·subst h1;rw[Lm,Sm];exact⟨rfl,rfl,λk _ hk=>zdx (d:=some d0) hk⟩
  ·by_cases h2:i=ii
   ·subst h2;rw[Li,Si];exact⟨zbh _,rfl,λk _ hk=>zdx (d:=some d0) hk⟩
   ·obtain⟨q1,q2,q3,_⟩:=hL i h h1 h2;exact⟨q2,q1,q3⟩
 have hok:∀i,i<ops.size->okK (L.getD i ([],[])).2=true:=λi h=>(hOK i h).2.1
 have hRk:∀i,i<ops.size->okK (L.getD i ([],[])).1=true:=λi h=>(hOK i h).1
 have hoff:∀i,i<ops.size->∀k:Ky,k.1<3->k∉(L.getD i ([],[])).2->za8 (σs i) (σs (i+1)) k:=λi h=>(hOK i h).2.2
 have hget:∀j (h:j<ops.size),ops.getD j default=ops[j]:=λj h=>by simp[Array.getD,h]
 unfold zqd at hord
 simp only[Qq,Jn,Qb]at hord
 have hlt:∀j (h:j<ops.size),∀e∈ops[j].after,Region.binds .any e=true->e.on<j:=λj h e he hb=>by
  have:=(hord j h).1.1;rw[hget j h]at this;have:=(Km.1 this) e he;simpa[hb]using this
 have hbef:∀j (h:j<ops.size),∀i,i<ops.size->((Region.before ops).getD j 0).testBit i=true->∃e∈ops[j].after,Region.binds .any e=true/\(e.on=i\/((Region.before ops).getD e.on 0).testBit i=true):=λj h i hi hb=>by
  have:=(hord j h).1.2 i hi;rw[hb,hget j h]at this;simp only[Qd,K0]at this;obtain⟨e,he,h1⟩:=Array.any_eq_true'.1 this;simp only[Qb,K1,Q9]at h1;exact⟨e,he,h1.1,h1.2⟩
 have hdis:∀i j,i<j->j<ops.size->((Region.before ops).getD j 0).testBit i=false->(∀k∈(L.getD i ([],[])).2,k∉(L.getD j ([],[])).1/\k∉(L.getD j ([],[])).2)/\∀k∈(L.getD i ([],[])).1,k∉(L.getD j ([],[])).2:=λi j hij hj hb=>by
  have:=(hord j hj).2 i hij;rw[hb]at this;simp only[K0,Qb,Qq,J4,List.contains_eq_mem,Ju]at this;exact⟨λk hk=>this.1 k hk,λk hk=>this.2 k hk⟩
 unfold mpOk at hmp
 simp only[Qb,Qq,Jn,K1,Q9,J4,List.contains_eq_mem,Ju]at hmp
 obtain⟨hbi,hx⟩:=hmp
 have hx:∀i,i<ops.size->i≠im->i≠ii->((Region.before ops).getD i 0).testBit ii=false->(0,d0)∉(L.getD i ([],[])).1/\(0,d0)∉(L.getD i ([],[])).2:=λi h h1 h2 h3=>by
  rcases hx i h with((q|q)|q)|q
  ·exact absurd q h1
  ·exact absurd q h2
  ·rw[h3]at q;cases q
  ·exact q
 intro fuel listed g0 a0 w1 hsz hc hnone hrel0 hn0 hb0 hA0
 refine qfv (J:=λp a w=>LtK n0 w/\Bk n0 w0 w/\((p im=false\/p ii=true)->∃g,Rel n0 N (Fp σs (λi=>L.getD i ([],[])) p ops.size) g a w/\(g.A0,g.R0)=A0) ∧
  (p im=true->p ii=false->∃b g,RelM n0 N ((Fp σs (λi=>L.getD i ([],[])) p ops.size).put (some d0) (.one (.cv (.map (some b))))) ag [] b A0 g a w)) hlt hbef ?_ ?_ fuel listed a0 w1 hsz hc (λj _ hl=>by rw[hnone]at hl;cases hl) ?_
 ·intro i hi p a w hp h1 h2 ⟨hn,hb,hJ1,hJ2⟩;have hFw:=zix (σs:=σs) (RW:=λi=>L.getD i ([],[])) (b:=λj i=>((Region.before ops).getD j 0).testBit i) (p:=p) hok hdis hi hp h1 h2 (p':=λj=>if j=i then true else p j) (λj=>rfl);have hFr:=λk hk=>zrr (σs:=σs) (RW:=λi=>L.getD i ([],[])) (b:=λj i=>((Region.before ops).getD j 0).testBit i) (p:=p) hok hoff hRk hdis hi hp h1 h2 (k:=k) hk;generalize hF:Fp σs (λi=>L.getD i ([],[])) p ops.size=F at hFw hFr hJ1 hJ2;generalize hF':Fp σs (λi=>L.getD i ([],[])) (λj=>if j=i then true else p j) ops.size=F' at hFw⊢;by_cases him':i=im
  ·-- the map is made
   subst him';have hpi:p ii=false:=by
    cases hpi:p ii with
    | false=>rfl
    | true=>rw[h2 ii hii hpi hbi]at hp;cases hp
   obtain⟨g,hR,hA⟩:=hJ1 (Or.inl hp);have hw:Region.wanted ops[i] (yielded ops a.tmps)=true:=by rw[om];simp[Region.wanted]
   rw[if_pos hw,om];unfold Oper.wp;have e0:(execOp a.eval ⟨some d0,.makeMap mt none,ty1,ps1,af1,none⟩).run P w=.ok (.value (.map (some w.heap.size))) (w.alloc (.map #[] 0)):=by
    unfold execOp;simp only[J1,Sem.run_bind,zkq,Result.andThen_ok,Sem.run_pure]
   rw[e0];have hbk:Bk n0 w (w.alloc (.map #[] 0)):=⟨rfl,rfl,rfl,by simp,λk hk=>Below.heap_alloc w _ k (hn k hk)⟩;have hR1:=(hR.enter1 (.map #[] 0)).put (some d0) (x:=.one (.cv (.map (some w.heap.size)))) (v:=.map (some w.heap.size)) rfl (λj hj=>by cases hj;exact hd0);have hM:RelM n0 N (F.put (some d0) (.one (.cv (.map (some w.heap.size))))) ag [] w.heap.size A0 { g with A0:=λb=>g.A0 b/\b≠w.heap.size } (a.put (some d0) (.map (some w.heap.size))) (w.alloc (.map #[] 0)):=by
    refine⟨⟨λb=>n0 b\/b=w.heap.size,#[],0,λx hx=>Or.inl hx,Or.inr rfl,λq=>q.2 rfl,hR1,λx hx=>?_,(Go.MapKept.heap_alloc w _).1,?_⟩,hn.new (Qz _),λx hx=>?_,?_,λx hx=>?_⟩
    ·rcases hx with q|q
     ·have:=hn x q;simp;omega
     ·simp;omega
    ·unfold zal;rfl
    ·rw[<-hA];exact hx.1
    ·rw[<-hA]
    ·rw[<-hA];exact hR.anew x hx
   have eF:F'.put (some d0) (.one (.cv (.map (some w.heap.size))))=F.put (some d0) (.one (.cv (.map (some w.heap.size)))):=by
    rw[hFw,Lm];refine za8.all3 λc x hc=>?_
    match c,hc with
    | 0,_ =>
     show upd _ d0 _ x=upd _ d0 _ x
     by_cases hxd:x=d0
     ·subst hxd;rw[zaf,zaf]
     ·rw[zan _ _ hxd,zan _ _ hxd];exact zb6 (n:=0) Y0 (nk1 hxd)
    | 1,_ =>
     have h:=zb6 (σ:=F) (σ':=σs (i+1)) (W:=[(0,d0)]) (n:=1) (i:=x) Y0 (nk2 Y0);exact h
    | 2,_ =>
     have h:=zb6 (σ:=F) (σ':=σs (i+1)) (W:=[(0,d0)]) (n:=2) (i:=x) Y0 (nk2 Y0);exact h
   refine⟨hn.mono hbk.size,hb.trans hbk,λh=>?_,λ_ _=>⟨w.heap.size,_,by rw[eF];exact hM⟩⟩;rcases h with h|h
   ·simp at h
   ·have h:(if ii=i then true else p ii)=true:=h;rw[if_neg (λe=>hne e.symm),hpi]at h;cases h
  ·by_cases hii':i=ii
   ·-- its entry
    subst hii';have hpm:p im=true:=h1 im him hbi;obtain⟨b,g,hM⟩:=hJ2 hpm hp;have hw:Region.wanted ops[i] (yielded ops a.tmps)=true:=by rw[oi];simp[Region.wanted]
    rw[if_pos hw,oi];unfold Oper.wp;have hgk:∀y∈[k,v],(F.put (some d0) (.one (.cv (.map (some b))))).get P 0 y=((σs i).put (some d0) (.one (.cv (.map (some b))))).get P 0 y:=λy hy=>by
     refine zca (l:=[k,v]) (λq hq=>?_) hy 0;have hq3:q≠(0,d0):=λe=>hk0 (e▸hq);have hqr:q∈(L.getD i ([],[])).1:=by
      rw[Li];show q∈zas [.tmp d0,k,v]
      exact zcn hq
     have:=hFr q hqr;obtain⟨c,x⟩:=q;have hc:c<3:=by
      have:=zbh [k,v];unfold okK at this;rw[Qq]at this;simpa using this _ hq
     match c,hc with
     | 0,_ =>
      have hxd:x≠d0:=λe=>hq3 (by rw[e]);show upd _ d0 _ x=upd _ d0 _ x
      rw[zan _ _ hxd,zan _ _ hxd];exact this
     | 1,_=>exact this
     | 2,_=>exact this
    have hgx:(F.put (some d0) (.one (.cv (.map (some b))))).get P 0 (.tmp d0)=((σs i).put (some d0) (.one (.cv (.map (some b))))).get P 0 (.tmp d0):=by
     show(if d0<1000000 then upd _ d0 _ d0 else _)=if d0<1000000 then upd _ d0 _ d0 else _
     rw[zaf,zaf]
    have hK:=qml (P:=P) (σ:=(σs i).put (some d0) (.one (.cv (.map (some b))))) (σ1:=F.put (some d0) (.one (.cv (.map (some b))))) hgx (hgk k (by simp)) (hgk v (by simp)) (hupd b);obtain⟨rows',w2,c1,c2,c3,c4,c5⟩:=ins_op (ty:=ty2) (ps:=ps2) (af:=af2) hM hn hK;subst c1;rw[c2];obtain⟨g',r1,r2⟩:=c3.leave (zaf _ _ _);have eF:F'=(F.put (some d0) (.one (.cv (.map (some b))))).put (some d0) (.one (.rn (.mp ag [row]))):=by
     rw[hFw,Li,Si];refine za8.all3 λc x hc=>?_
     match c,hc with
     | 0,_ =>
      by_cases hxd:x=d0
      ·subst hxd;refine(ze7 (W:=[(0,x)]) rfl (by simp)).trans ?_;show upd _ x _ x=upd _ x _ x
       rw[zaf,zaf]
      ·refine(zb6 (n:=0) Y0 (nk1 hxd)).trans ?_;show F.sl x=upd (upd F.sl d0 _) d0 _ x
       rw[zan _ _ hxd,zan _ _ hxd]
     | 1,_ =>
      have h:=zb6 (σ:=F) (σ':=(σs i).put (some d0) (.one (.rn (.mp ag [row])))) (W:=[(0,d0)]) (n:=1) (i:=x) Y0 (nk2 Y0);exact h
     | 2,_ =>
      have h:=zb6 (σ:=F) (σ':=(σs i).put (some d0) (.one (.rn (.mp ag [row])))) (W:=[(0,d0)]) (n:=2) (i:=x) Y0 (nk2 Y0);exact h
    refine⟨c4,hb.trans c5,λ_=>⟨g',by rw[eF];exact r1,r2⟩,λ_ h=>?_⟩;simp at h
   ·-- another operation
    obtain⟨l1,l2,l3,hstep⟩:=hL i hi him' hii';have ep:∀j,j≠i->(if j=i then true else p j)=p j:=λj hj=>if_neg hj;simp only[ep im (λe=>him' e.symm),ep ii (λe=>hii' e.symm)];by_cases hph:p im=false\/p ii=true
    ·obtain⟨g,hR,hA⟩:=hJ1 hph;have hG:=hstep F hFr n0 N g a w hR hn (hdst _ (Yb hi));rw[<-hFw]at hG;have hno:¬(p im=true/\p ii=false):=λ⟨q1,q2⟩=>by
      rcases hph with h|h
      ·rw[q1]at h;cases h
      ·rw[q2]at h;cases h
     split
     ·rename_i hwd;rw[if_pos hwd]at hG;refine zcu ?_ hG;rintro a' w' ⟨g',k1,k2,k3,k4⟩;exact⟨hn.mono k2.size,hb.trans k2,λ_=>⟨g',k1,by rw[k3,k4];exact hA⟩,λq1 q2=>absurd ⟨q1,q2⟩ hno⟩
     ·rename_i hwd;rw[if_neg hwd]at hG;obtain⟨g',k1,k2,k3⟩:=hG;exact⟨hn,hb,λ_=>⟨g',k1,by rw[k2,k3];exact hA⟩,λq1 q2=>absurd ⟨q1,q2⟩ hno⟩
    ·have hpm:p im=true:=by
      cases h:p im with
      | true=>rfl
      | false=>exact absurd (Or.inl h) hph
     have hpi:p ii=false:=by
      cases h:p ii with
      | false=>rfl
      | true=>exact absurd (Or.inr h) hph
     have hbif:((Region.before ops).getD i 0).testBit ii=false:=by
      cases h:((Region.before ops).getD i 0).testBit ii with
      | false=>rfl
      | true=>rw[h1 ii hii h]at hpi;cases hpi
     obtain⟨x1,x2⟩:=hx i hi him' hii' hbif;obtain⟨b,g,hM⟩:=hJ2 hpm hpi;obtain⟨n1,es,clk,k1,k2,k3,k4,k5,k6,k7⟩:=hM.rel;have hoffd:∀q:Ky,q.1<3->q≠(0,d0)->za8 F (F.put (some d0) (.one (.cv (.map (some b))))) q:=λq _ hq=>zdx (d:=some d0) (by simpa[dK]using hq)
     have hG:=hstep (F.put (some d0) (.one (.cv (.map (some b))))) (λq hq=>by
      have hq3:q.1<3:=by
       unfold okK at l2;rw[Qq]at l2;simpa using l2 _ hq
      exact(hFr q hq).trans (hoffd q hq3 λe=>x1 (e▸hq))) n1 N g a w k4 k5 (hdst _ (Yb hi))
     have eF:zny (F.put (some d0) (.one (.cv (.map (some b))))) (L.getD i ([],[])).2 (σs (i+1))=F'.put (some d0) (.one (.cv (.map (some b)))):=by
      rw[hFw];refine za8.all3 λc x hc=>?_;by_cases hin:(c,x)∈(L.getD i ([],[])).2
      ·have hq:(c,x)≠(0,d0):=λe=>x2 (e▸hin);refine(ze7 l1 hin).trans (za8.trans ?_ (zdx (d:=some d0) (by simpa[dK]using hq)));exact(ze7 l1 hin).symm
      ·refine(zb6 hc hin).trans ?_;by_cases hq:(c,x)=(0,d0)
       ·cases hq;show upd _ d0 _ d0=upd _ d0 _ d0
        rw[zaf,zaf]
       ·refine(zdx (d:=some d0) (by simpa[dK]using hq)).symm.trans (za8.trans ?_ (zdx (d:=some d0) (by simpa[dK]using hq)));exact(zb6 hc hin).symm
     rw[eF]at hG;split
     ·rename_i hwd;rw[if_pos hwd]at hG;refine zcu ?_ hG;rintro a' w' ⟨g',m1,m2,m3,m4⟩;refine⟨hn.mono m2.size,hb.trans (qim k1 m2),λh=>absurd h hph,λ_ _=>⟨b,g',hM.keep k1 k2 k3 k6 k7 m1 (k5.mono m2.size) m2 (by rw[m3,m4])⟩⟩
     ·rename_i hwd;rw[if_neg hwd]at hG;obtain⟨g',m1,m2,m3⟩:=hG;exact⟨hn,hb,λh=>absurd h hph,λ_ _=>⟨b,g',hM.keep k1 k2 k3 k6 k7 m1 k5 (Bk.refl _ _) (by rw[m2,m3])⟩⟩
 ·intro p a w hall ⟨hn,hb,hJ1,_⟩;obtain⟨g,hR,hA⟩:=hJ1 (Or.inr (hall ii hii));rw[znv hok hoff ops.size (Qz _) hall]at hR;exact hQ g a w hR hn hb hA
 ·refine⟨hn0,hb0,λ_=>⟨g0,?_,hA0⟩,λh=>by
   have h:listed.getD im false=true:=h
   rw[hnone]at h;cases h⟩
  have hF0:∀m,Fp σs (λi=>L.getD i ([],[])) (λi=>listed.getD i false) m=σs 0:=λm=>by
   induction m with
   | zero=>rfl
   | succ m ih=>unfold Fp;rw[hnone,if_neg (by simp)];exact ih
  rw[hF0];exact hrel0
def mpiK (P:Program)(ops:Array Oper)(d0 im ii:Nat)(ks:List Fr)(Q:Exit->St->Prop)(ag:Bool)(mt:TypeId)(k v:Operand)(post:List Oper)(L:List (List Ky×List Ky))(σ:St):Prop :=
 (zas [k,v]).contains (0,d0)=false/\∃row,(∀b,qic P ag b mt (.tmp d0) k v (σ.put (some d0) (.one (.cv (.map (some b))))) [] λ_ rows=>rows=[row]) ∧
  exk P (λL σ=>(zqd ops L&&mpOk d0 im ii ops L)=true/\rt P .normal ks Q σ) post (L++[(zas [.tmp d0,k,v],[(0,d0)])]) (σ.put (some d0) (.one (.rn (.mp ag [row]))))
theorem qod (pl1:List Nat)(im:Nat)(pl2:List Nat)(ii:Nat)(pl3:List Nat)(ag:Bool){d0:Nat}{id:Nat}{mt mt2 ty1 ty2:TypeId}{k v:Operand}{ps1 ps2:String}{af1 af2:Array Edge}{ops:Array Oper}{ks:List Fr}{Q:Exit->St->Prop}{σ:St}(hmx:P.follows .mixedOrders=true)
  (hp:pl1++im::(pl2++ii::pl3)=List.range ops.size) (om:ops[im]?=some ⟨some d0,.makeMap mt none,ty1,ps1,af1,none⟩) (oi:ops[ii]?=some ⟨none,.insert mt2 (.tmp d0) k v,ty2,ps2,af2,none⟩)
  (h:exk P (λL1 σ1=>exk P (mpiK P ops d0 im ii ks Q ag mt2 k v (opL ops pl3)) (opL ops pl2) (L1++[([],[(0,d0)])]) (σ1.put (some d0) (.one .any))) (opL ops pl1) [] σ):ex P (.region id ops true) ks Q σ:=by
 show zef P id ops σ _
 intro n0 N g a w hR hn hd
 have him:im<ops.size:=by
  rcases Yw im ops.size with h|h
  ·exact h
  ·rw[Array.getElem?_eq_none h]at om;cases om
 have hii:ii<ops.size:=by
  rcases Yw ii ops.size with h|h
  ·exact h
  ·rw[Array.getElem?_eq_none h]at oi;cases oi
 rw[Array.getElem?_eq_getElem him,Qe]at om
 rw[Array.getElem?_eq_getElem hii,Qe]at oi
 have hlen:pl1.length+(pl2.length+(pl3.length+1)+1)=ops.size:=by
  have:=congrArg List.length hp;simp only[Qy,Qg,List.length_range]at this;omega
 have hat:∀j,j<ops.size->(pl1++im::(pl2++ii::pl3))[j]?=some j:=λj hj=>by
  rw[hp,List.getElem?_range hj]
 have h1:∀j,j<pl1.length->pl1[j]?=some j:=λj hj=>by
  have:=hat j Y0
  rwa [List.getElem?_append_left hj]at this
 have eim:pl1.length=im:=by
  have:=hat pl1.length Y0;rw[List.getElem?_append_right (Qz _),Ys,List.getElem?_cons_zero,Qe]at this;exact this.symm
 have h2:∀j,j<pl2.length->pl2[j]?=some (im+1+j):=λj hj=>by
  have:=hat (im+1+j) Y0
  rwa [List.getElem?_append_right Y0,show im+1+j-pl1.length=j+1 by omega,List.getElem?_cons_succ,List.getElem?_append_left hj]at this
 have eii:im+1+pl2.length=ii:=by
  have:=hat (im+1+pl2.length) Y0;rw[List.getElem?_append_right Y0,show im+1+pl2.length-pl1.length=pl2.length+1 by omega,List.getElem?_cons_succ,List.getElem?_append_right (Qz _),Ys,List.getElem?_cons_zero,Qe]at this;exact this.symm
 have h3:∀j,j<pl3.length->pl3[j]?=some (ii+1+j):=λj hj=>by
  have:=hat (ii+1+j) Y0
  rwa [List.getElem?_append_right Y0,show ii+1+j-pl1.length=(pl2.length+(j+1))+1 by omega,List.getElem?_cons_succ,List.getElem?_append_right Y0,show pl2.length+(j+1)-pl2.length=j+1 by omega,List.getElem?_cons_succ]at this
 have hopl:∀(l:List Nat) (o j:Nat) (hj:j<l.length) (ho:o<ops.size),l[j]?=some o->(opL ops l)[j]'(by simpa[opL]using hj)=ops[o]:=λl o j hj ho e=>by
  rw[qd9,List.getD_eq_getElem?_getD (l:=l),e,Kq,ziz ho]
 obtain⟨L1,τ1,a1,a2,a3,a4⟩:=zfz _ _ _ h
 obtain⟨L2,τ2,b1,b2,b3,b4⟩:=zfz _ _ _ a4
 obtain⟨hk0,row,hupd,b5⟩:=b4
 obtain⟨L3,τ3,c1,c2,c3,c4,c5⟩:=zfz _ _ _ b5
 have l1:(opL ops pl1).length=pl1.length:=by simp[opL]
 have l2:(opL ops pl2).length=pl2.length:=by simp[opL]
 have l3:(opL ops pl3).length=pl3.length:=by simp[opL]
 rw[l1]at a1
 rw[l2]at b1
 rw[l3]at c1
 rw[l1]at b2
 rw[l2]at hupd c2
 rw[l3]at c5
 rw[K5]at c4
 rw[Qb]at c4
 generalize hLL:L1++[([],[(0,d0)])]++L2++[(zas [.tmp d0,k,v],[(0,d0)])]++L3=L at c4
 have g1:∀j,j<im->L.getD j ([],[])=L1.getD j ([],[]):=λj hj=>by
  rw[<-hLL];simp only[List.getD_eq_getElem?_getD,Kd];rw[List.getElem?_append_left Y0]
 have gm:L.getD im ([],[])=([],[(0,d0)]):=by
  rw[<-hLL];simp only[List.getD_eq_getElem?_getD,Kd];rw[List.getElem?_append_right Y0,show im-L1.length=0 by omega];rfl
 have g2:∀j,j<pl2.length->L.getD (im+1+j) ([],[])=L2.getD j ([],[]):=λj hj=>by
  rw[<-hLL];simp only[List.getD_eq_getElem?_getD,Kd];rw[List.getElem?_append_right Y0,show im+1+j-L1.length=j+1 by omega,Js,List.getElem?_cons_succ,List.getElem?_append_left Y0]
 have gi:L.getD ii ([],[])=(zas [.tmp d0,k,v],[(0,d0)]):=by
  rw[<-hLL];simp only[List.getD_eq_getElem?_getD,Kd];rw[List.getElem?_append_right Y0,show ii-L1.length=pl2.length+1 by omega,Js,List.getElem?_cons_succ,List.getElem?_append_right Y0,show pl2.length-L2.length=0 by omega];rfl
 have g3:∀j,j<pl3.length->L.getD (ii+1+j) ([],[])=L3.getD j ([],[]):=λj hj=>by
  rw[<-hLL];simp only[List.getD_eq_getElem?_getD,Kd];rw[List.getElem?_append_right Y0,show ii+1+j-L1.length=(pl2.length+(j+1))+1 by omega,Js,List.getElem?_cons_succ,List.getElem?_append_right Y0,show pl2.length+(j+1)-L2.length=j+1 by omega,Js,List.getElem?_cons_succ]
 let σs:Nat->St:=λj=>if j<=im then τ1 j else if j<=ii then τ2 (j-(im+1))else τ3 (j-(ii+1))
 have s1:∀j,j<=im->σs j=τ1 j:=λj hj=>if_pos hj
 have s2:∀j,j<=pl2.length->σs (im+1+j)=τ2 j:=λj hj=>by
  show(if _ then _ else if _ then _ else _)=_
  rw[if_neg Y0,if_pos Y0]
  congr 1;omega
 have s3:∀j,σs (ii+1+j)=τ3 j:=λj=>by
  show(if _ then _ else if _ then _ else _)=_
  rw[if_neg Y0,if_neg Y0]
  congr 1;omega
 refine wp_region_any hmx ?_
 have hb:Below w.heap.size w { w with drawn:=w.drawn+1 }:=⟨rfl,rfl,rfl,Qz _,λ_ _=>rfl⟩
 have hR':Rel n0 N (σs 0) g a { w with drawn:=w.drawn+1 }:=by
  rw[s1 0 (Kc _),a2];exact hR.after hn hb (New.refl σ g (w.heap.size<=·) _ hR.slc)
 have hpf:∀i,(Array.replicate ops.size false).getD i false=false:=λi=>by
  simp only[Array.getD_eq_getD_getElem?,Array.getElem?_replicate];split<;>rfl
 have hcnt:cnt (λi=>(Array.replicate ops.size false).getD i false) ops.size=ops.size:=by
  have:∀m',cnt (λi=>(Array.replicate ops.size false).getD i false) m'=m':=by
   intro m';induction m' with
   | zero=>rfl
   | succ m' ih=>unfold cnt;rw[hpf,if_neg (by simp),ih];omega
  exact this _
 refine qfq (P:=P) (σs:=σs) (L:=L) (d0:=d0) (im:=im) (ii:=ii) (ag:=ag) (row:=row) (w0:=w) (A0:=(g.A0,g.R0)) him hii om oi (λi hi e1 e2=>?_) gm ?_ gi ?_ (by simpa using hk0) ?_ c4.1 c4.2 hd ?_ ops.size _ g a _ (by simp) hcnt hpf hR' (λk hk=>Jp (hn k hk) hb.size) (Bk.of_below hb hn) rfl
 ·rcases Yw i im with q|q
  ·obtain⟨q0,q1⟩:=a3 i Y0;rw[g1 i q,s1 i Y0,s1 (i+1) Y0];rw[hopl pl1 i i Y0 hi (h1 i Y0)]at q0 q1;exact q1.loc q0
  ·rcases Yw i ii with q'|q'
   ·obtain⟨j,rfl⟩:∃j,i=im+1+j:=⟨i-(im+1),Y0⟩;have hj:j<pl2.length:=by omega
    obtain⟨q0,q1⟩:=b3 j Y0;rw[g2 j hj,s2 j Y0,show im+1+j+1=im+1+(j+1) by omega,s2 (j+1) Y0];rw[hopl pl2 (im+1+j) j hj hi (h2 j hj)]at q0 q1;exact q1.loc q0
   ·obtain⟨j,rfl⟩:∃j,i=ii+1+j:=⟨i-(ii+1),Y0⟩;have hj:j<pl3.length:=by omega
    obtain⟨q0,q1⟩:=c3 j Y0;rw[g3 j hj,s3 j,show ii+1+j+1=ii+1+(j+1) by omega,s3 (j+1)];rw[hopl pl3 (ii+1+j) j hj hi (h3 j hj)]at q0 q1;exact q1.loc q0
 ·rw[show im+1=im+1+0 from rfl,s2 0 (Kc _),b2,s1 im (Qz _),eim]
 ·rw[show ii+1=ii+1+0 from rfl,s3 0,c2,<-eii,s2 pl2.length (Qz _)]
 ·rw[<-eii,s2 pl2.length (Qz _)];exact hupd
 ·intro g' a' w' k1 k2 k3 k4;have e:ops.size=ii+1+pl3.length:=by omega
  rw[e,s3]at k1;exact⟨rfl,_,g',c5,k1,k2,k3,(K7 k4).1,(K7 k4).2⟩
end
section
open Go.RowKit
variable {P:Program}
section
variable (K:List (List Ky×List Ky)->St->Prop)(σ:St)(os:List Oper)(L:List (List Ky×List Ky))(d:Option Nat)(ty:TypeId)(ps:String)(af:Array Edge)
theorem qfd (t:TypeId):exk P K (⟨d,.alloc t,ty,ps,af,none⟩::os) L σ=thn (st P ⟨d,.alloc t,ty,ps,af,none⟩ σ) (exk P K os (L++[(bK d,dK d++bK d)])):=zkr _ _ _ _ rfl rfl
theorem qe6 (t:TypeId)(parts:Array (Nat×Operand)):exk P K (⟨d,.build t parts,ty,ps,af,none⟩::os) L σ=thn (st P ⟨d,.build t parts,ty,ps,af,none⟩ σ) (exk P K os (L++[(zas (parts.toList.map (·.2))++[],dK d++[])])):=zkr _ _ _ _ rfl rfl
def exkS (P:Program)(K:List (List Ky×List Ky)->St->Prop)(o:Oper)(os:List Oper)(L:List (List Ky×List Ky))(σ:St):Prop:=∃R W σ',zf1 P o R W σ σ'/\exk P K os (L++[(R,W)]) σ'
theorem qdo (t:TypeId)(a x:Operand):exk P K (⟨d,.store t a x,ty,ps,af,none⟩::os) L σ=zif (σ.get P 0 a) (exkS P K ⟨d,.store t a x,ty,ps,af,none⟩ os L σ) (thn (st P ⟨d,.store t a x,ty,ps,af,none⟩ σ) (exk P K os (L++[(zas [a,x]++vK (σ.get P 0 a),dK d++vK (σ.get P 0 a))]))):=by
 unfold zif
 split
 ·rename_i h;rw[exk];unfold ze6;rw[if_pos (by unfold znc qb4;simp only[h,Bool.or_true])];simp only[true_and];rfl
 ·rename_i h;exact zkr _ _ _ _ rfl (by unfold znc qb4;simpa[ztf]using h)
end
section
variable {K:List (List Ky×List Ky)->St->Prop}{σ:St}{os:List Oper}{L:List (List Ky×List Ky)}{ty:TypeId}{ps:String}{af:Array Edge}{x:Operand}{asx:Array Operand}{ts:Array TypeId}{f:FuncId}{ds res:List D}
theorem kCallF {d:Nat}(h:FC P f ds res)(hp:zav (za0 (σ.get P 0 x)) λp=>p.1=f/\VDs σ (σ.gets P asx ts++p.2) ds/\zi6 d 0 (zbi res) σ.ev)
  (k:exk P K os (L++[(zas (x::asx.toList)++(vsK σ (σ.gets P asx ts++qmc (za0 (σ.get P 0 x)))++eK (owL d 0 (zbi res))),dK (some d)++eK (owL d 0 (zbi res)))]) (σ.callF d res)) :
  exk P K (⟨some d,.call ⟨.value x,asx,ts⟩,ty,ps,af,none⟩::os) L σ:=by
 obtain⟨⟨f',cvs⟩,h1,rfl,h2,h3⟩:=zap hp
 rw[h1]at k
 exact zmi rfl rfl (znm rfl rfl h h1 h2 h3) k
theorem insR {ops:Array Oper}{d0 im ii:Nat}{ks:List Fr}{Q:Exit->St->Prop}{ag:Bool}{mt:TypeId}{y v:Operand}{post:List Oper}(row:List T)(h:(zas [y,v]).contains (0,d0)=false)(hu:∀b,qic P ag b mt (.tmp d0) y v (σ.put (some d0) (.one (.cv (.map (some b))))) [] λ_ rows=>rows=[row])
  (k:exk P (λL σ=>(zqd ops L&&mpOk d0 im ii ops L)=true/\rt P .normal ks Q σ) post (L++[(zas [.tmp d0,y,v],[(0,d0)])]) (σ.put (some d0) (.one (.rn (.mp ag [row]))))):mpiK P ops d0 im ii ks Q ag mt y v post L σ:=⟨h,row,hu,k⟩
end
theorem qvy {P:Program}{ops:Array Oper}{d0 im ii:Nat}{ks:List Fr}{Q:Exit->St->Prop}{ag:Bool}{mt:TypeId}{k v:Operand}{post:List Oper}{L:List (List Ky×List Ky)}{σ σ':St}(h:σ=σ'){L':List (List Ky×List Ky)}(hL:L=L'):mpiK P ops d0 im ii ks Q ag mt k v post L σ=mpiK P ops d0 im ii ks Q ag mt k v post L' σ':=h▸hL▸rfl
attribute [go_sem ↓] qfd qe6 qdo
attribute [congr] qvy
end
end Go.Proofs.YtnemmlahbbbobaaGreat
