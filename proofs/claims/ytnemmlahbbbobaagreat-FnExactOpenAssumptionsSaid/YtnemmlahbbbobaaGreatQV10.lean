/-
  The walk over plain data, and contracts of functions of the program and of its laws.
  Conditions: those that each theorem names.
-/
import Derived.Test.YtnemmlahbbbobaaGreatQV9
namespace Go.Proofs.YtnemmlahbbbobaaGreat
set_option linter.unusedSimpArgs false
set_option linter.unusedVariables false
set_option linter.unusedSectionVars false
set_option maxRecDepth 4000
set_option maxHeartbeats 8000000
section
open Go.RowKit
noncomputable def fwI (p:Nt):List Int×Bool×Bool:=if zeg p>60 then ([],false,false)else match zfd p with|.inl pos=>(pos,true,true)|.inr _=>([],false,true)
theorem zk4 (p:Nt)(hw:Fit p):RC Tryz.prog 17 [ntD p] [.one (zd8 (fwI p).1),bD (fwI p).2.1,bD (fwI p).2.2]:=by
 have HN:=zfj p (by have:=hw.all;omega)
 have HI:=zi9 p hw
 unfold fwI
 simp only[ntD,zaj p]at HN HI⊢
 by_cases hs:zeg p>60
 ·rw[if_pos hs];refine zbo Tryz.call17 Tryz.func17 rfl Yo (zao Yo) ?_;simp -implicitDefEqProofs only[go_sem,Tryz.results17];refine callF (HN) (by simp -implicitDefEqProofs only[go_sem,hs,Jv]) ?_;simp -implicitDefEqProofs only[go_sem,hs,Jv]
 ·rw[if_neg hs];cases hi:zfd p with
  | inl pos =>
   rw[hi]at HI;refine zbo Tryz.call17 Tryz.func17 rfl Yo (zao Yo) ?_;simp -implicitDefEqProofs only[go_sem,Tryz.results17];refine callF (HN) (by simp -implicitDefEqProofs only[go_sem,hs,Jh]) ?_;simp -implicitDefEqProofs only[go_sem,hs,Jh];refine zhq HI Yn ?_;rintro res rfl;simp -implicitDefEqProofs only[go_sem,Qg]
  | inr out =>
   rw[hi]at HI;refine zbo Tryz.call17 Tryz.func17 rfl Yo (zao Yo) ?_;simp -implicitDefEqProofs only[go_sem,Tryz.results17];refine callF (HN) (by simp -implicitDefEqProofs only[go_sem,hs,Jh]) ?_;simp -implicitDefEqProofs only[go_sem,hs,Jh];refine zhq HI Yn ?_;rintro res ⟨ags,hp,rfl⟩;simp -implicitDefEqProofs only[go_sem,Qb];rfl
noncomputable def zur (p:Nt):Bool:=!decide (zeg p>60)&&(match zfd p with|.inl _=>false|.inr _=>true)
theorem qwi (p:Nt):zur p=((fwI p).2.2&&!(fwI p).2.1):=by
 unfold zur fwI
 by_cases hs:zeg p>60
 ·simp[hs]
 ·simp only[hs,Jh,Qg,Qs,if_false];cases zfd p<;>rfl
theorem zgi (p:Nt)(hw:Fit p):RC Tryz.prog 14 [ntD p] [bD (zur p)]:=by
 have HF:=zk4 p hw
 rw[qwi]
 generalize fwI p=r at HF⊢
 obtain⟨r1,r2,r3⟩:=r
 simp only[ntD,zaj p]at HF⊢
 cases r3
 ·refine zbo Tryz.call14 Tryz.func14 rfl Yo (zao Yo) ?_;simp -implicitDefEqProofs only[go_sem,Tryz.results14];refine callR (HF) Yn ?_;simp -implicitDefEqProofs only[go_sem]
 ·refine zbo Tryz.call14 Tryz.func14 rfl Yo (zao Yo) ?_;simp -implicitDefEqProofs only[go_sem,Tryz.results14];refine callR (HF) Yn ?_;simp -implicitDefEqProofs only[go_sem]
end
section
open Go.RowKit
noncomputable def puS:List An->An->List An×Bool
 | [],x=>([x],true)
 | a::l,x=>if a.label<x.label then (a::(puS l x).1,(puS l x).2)else if a.label=x.label then (a::l,same a.form x.form)else (x::a::l,true)
theorem puS_at (l:List An)(x:An)(i:Nat)(hi:i<=l.length)(h:∀a∈l.take i,a.label<x.label):puS l x=(l.take i++(puS (l.drop i) x).1,(puS (l.drop i) x).2):=by
 induction l generalizing i with
 | nil=>simp
 | cons a l ih =>
  cases i with
  | zero=>simp
  | succ i =>
   have h0:=h a (by simp);have:=ih i (by simpa using hi) fun b hb=>h b (by simp[hb]);rw[puS,if_pos h0];rw[List.take_succ_cons,List.drop_succ_cons];rw[this];simp
theorem qmz (l:List An)(x:An)(hl:l.length<=1048576):RC Tryz.prog 91 [.one (anS l),anD x] [.one (anS (puS l x).1),bD (puS l x).2]:=by
 simp only[anD,zcb x]
 refine zbo Tryz.call91 Tryz.func91 rfl Yo (zao Yo) ?_
 simp -implicitDefEqProofs only[go_sem,Tryz.results91]
 refine zag (fun k:Nat=>hd [(0,vT (anS l)),(3,.one (.bx 3 0)),(6,vI k)] [(3,[.t (.int .i64 x.label),.t (.int .i64 x.form.op),.t (.str x.form.atom.name),.t (tmS x.form.atom.args),.t (.str x.form.var),.t (fmS x.form.parts)])] []) (fun k=>k<=l.length/\∀a∈l.take k,a.label<x.label) (fun k=>l.length-k) 0 (zac ?_) ⟨Kd _,fun a ha=>by cases ha⟩ ?_
 ·simp -implicitDefEqProofs only[go_sem]
 ·intro k ⟨hk,hp⟩;have hpu:=puS_at l x k hk hp;by_cases hlt:k<l.length
  ·rw[Qh hlt,puS]at hpu;by_cases h1:l[k].label<x.label
   ·simp -implicitDefEqProofs only[go_sem];refine drawn Yo ?_;simp -implicitDefEqProofs only[go_sem,Qa,zan,hlt,zcb,h1];refine⟨Yo,?_⟩;rw[zap Yp];refine⟨k+1,⟨hlt,fun a ha=>?_⟩,Yp,zac Yn⟩;rw[Qk hlt]at ha;rcases Qm.1 ha with h|h
    ·exact hp a h
    ·rw[Qy.1 h];exact h1
   ·rw[if_neg h1]at hpu;simp -implicitDefEqProofs only[go_sem];refine drawn Yo ?_;simp -implicitDefEqProofs only[go_sem,Qa,zan,hlt,zcb,h1];refine⟨Yo,?_⟩;refine drawn Yo ?_;by_cases h2:l[k].label=x.label
    ·have h2b:(l[k].label==x.label)=true:=by simpa using h2
     rw[if_pos h2]at hpu;have H:=zcu l[k].form x.form;generalize same l[k].form x.form=b at H hpu;simp only[fmD,zaa l[k].form,zaa x.form]at H;simp -implicitDefEqProofs only[go_sem,Qa,zan,hlt,zcb,h2b];refine⟨Yo,?_⟩;refine drawn Yo ?_;simp -implicitDefEqProofs only[go_sem,Qa,zan,hlt,zcb];refine zav (H) Yn ?_;simp -implicitDefEqProofs only[go_sem];refine⟨Yo,?_⟩;have hlk:l.take k++l[k]::l.drop (k+1)=l:=by rw[<-Qh hlt,Jg]
     rw[hpu];exact⟨by rw[hlk],rfl⟩
    ·have h2b:(l[k].label==x.label)=false:=by simpa using h2
     rw[if_neg h2]at hpu;simp -implicitDefEqProofs only[go_sem,Qa,zan,hlt,zcb,h2b];refine⟨Yo,?_⟩;refine drawn Yo ?_;have hkl:(k:Int)<=(l.length:Int):=by omega
     simp -implicitDefEqProofs only[go_sem,Qa,hkl];refine zit (by simp -implicitDefEqProofs only[go_sem,hk]) ?_;simp -implicitDefEqProofs only[go_sem,hk];have hm1:0+min k l.length<=4294967296:=by omega
     have hm2:min k l.length<=4294967295:=by omega
     have hm3:min k l.length+1+(l.length-k)<=4294967296:=by omega
     refine zjp false (by simp -implicitDefEqProofs only[go_sem,ne_eq,Q6,Qa,Qq,hm1]) ?_;simp -implicitDefEqProofs only[go_sem,ne_eq,Q6,Qa,Qq,hm1];refine zit Yn ?_;simp -implicitDefEqProofs only[go_sem];refine zjp false (by simp -implicitDefEqProofs only[go_sem,ne_eq,Q6,Qa,Qq,hm2,hkl,hk]) ?_;simp -implicitDefEqProofs only[go_sem,ne_eq,Q6,Qa,Qq,hm2,hkl,hk];refine zjp false (by simp -implicitDefEqProofs only[go_sem,ne_eq,Q6,Qa,Qq,Qu,Qi,Q4,Ks,Nat.min_self,hm3]) ?_;simp -implicitDefEqProofs only[go_sem,ne_eq,Q6,Qa,Qq,Qu,Qi,Q4,Ks,Nat.min_self,hm3];refine⟨Yo,?_⟩;rw[hpu,show l[k]::l.drop (k+1)=l.drop k from(Qh hlt).symm];refine⟨?_,rfl⟩;rw[Qv (show(l.map anC).length<=l.length by simp),Q2,Qf,List.map_take,List.map_drop,zcb x,Kf];rfl
  ·simp -implicitDefEqProofs only[go_sem];refine drawn Yo ?_;simp -implicitDefEqProofs only[go_sem,Qa,hlt];refine⟨Yo,?_⟩;refine drawn Yo ?_;simp -implicitDefEqProofs only[go_sem,Qa,hlt];refine⟨Yo,?_⟩;refine drawn Yo ?_;have hkl:(k:Int)<=(l.length:Int):=by omega
   simp -implicitDefEqProofs only[go_sem,Qa,hkl];refine zit (by simp -implicitDefEqProofs only[go_sem,hk]) ?_;simp -implicitDefEqProofs only[go_sem,hk];have hm1:0+min k l.length<=4294967296:=by omega
   have hm2:min k l.length<=4294967295:=by omega
   have hm3:min k l.length+1+(l.length-k)<=4294967296:=by omega
   refine zjp false (by simp -implicitDefEqProofs only[go_sem,ne_eq,Q6,Qa,Qq,hm1]) ?_;simp -implicitDefEqProofs only[go_sem,ne_eq,Q6,Qa,Qq,hm1];refine zit Yn ?_;simp -implicitDefEqProofs only[go_sem];refine zjp false (by simp -implicitDefEqProofs only[go_sem,ne_eq,Q6,Qa,Qq,hm2,hkl,hk]) ?_;simp -implicitDefEqProofs only[go_sem,ne_eq,Q6,Qa,Qq,hm2,hkl,hk];refine zjp false (by simp -implicitDefEqProofs only[go_sem,ne_eq,Q6,Qa,Qq,Qu,Qi,Q4,Ks,Nat.min_self,hm3]) ?_;simp -implicitDefEqProofs only[go_sem,ne_eq,Q6,Qa,Qq,Qu,Qi,Q4,Ks,Nat.min_self,hm3];refine⟨Yo,?_⟩;rw[Qt Yp]at hpu;rw[hpu];refine⟨?_,rfl⟩;rw[Qv (show(l.map anC).length<=l.length by simp),Qt (show(l.map anC).length<=k by simp;omega),Q2,List.map_take,Kh,puS,Qf,Qo,zcb x]
end
section
open Go.RowKit
theorem zz3 (op:Int)(a b:Fm):RC Tryz.prog 110 [iD op,fmD a,fmD b] [fmD (mkF op [a,b])]:=by
 have hm:fmC (mkF op [a,b])=[.int .i64 op,.str [],.sl 2 [],.str [],.sl 5 [fmC a,fmC b]]:=zaa _
 simp only[fmD,hm,zaa a,zaa b]
 refine zbo Tryz.call110 Tryz.func110 rfl Yo (zao Yo) ?_
 simp -implicitDefEqProofs only[go_sem,Tryz.results110]
 refine zcc Yn ?_
 simp -implicitDefEqProofs only[go_sem]
theorem zxf (a:Fm):RC Tryz.prog 111 [fmD a] [fmD (mkF 4 [a])]:=by
 have hm:fmC (mkF 4 [a])=[.int .i64 4,.str [],.sl 2 [],.str [],.sl 5 [fmC a]]:=zaa _
 simp only[fmD,hm,zaa a]
 refine zbo Tryz.call111 Tryz.func111 rfl Yo (zao Yo) ?_
 simp -implicitDefEqProofs only[go_sem,Tryz.results111]
 refine zcc Yn ?_
 simp -implicitDefEqProofs only[go_sem]
theorem zew (p:Nt)(i:Nat):RC Tryz.prog 108 [ntD p,iD i] [fmD ((p.parts.map Nt.form).getD i zF)]:=by
 by_cases hi:i<p.parts.length
 ·rw[show(p.parts.map Nt.form).getD i zF=p.parts[i].form by rw[List.getD_eq_getElem?_getD,List.getElem?_map,List.getElem?_eq_getElem hi];rfl];simp only[ntD,zaj p,fmD,zaa p.parts[i].form];refine zbo Tryz.call108 Tryz.func108 rfl Yo (zao Yo) ?_;simp -implicitDefEqProofs only[go_sem,Tryz.results108];simp -implicitDefEqProofs only[go_sem,hi,Qa,zan,zaj p.parts[i]]
 ·rw[show(p.parts.map Nt.form).getD i zF=zF by rw[List.getD_eq_getElem?_getD,List.getElem?_eq_none (by simp;omega)];rfl];have hm:fmC zF=[.int .i64 0,.str [],.sl 2 [],.str [],.sl 5 []]:=zaa _;simp only[ntD,zaj p,fmD,hm];refine zbo Tryz.call108 Tryz.func108 rfl Yo (zao Yo) ?_;simp -implicitDefEqProofs only[go_sem,Tryz.results108];simp -implicitDefEqProofs only[go_sem,hi,Qa]
theorem qaw (l:List An)(n:Str)(hok:∀a∈l,okF a.form)(hl:l.length<=1048576):FC Tryz.prog 90 [.one (anS l),sD n] [bD (l.all fun a=>!frN n a.form)]:=by
 refine zad Tryz.call90 Tryz.func90 rfl Yo (zao Yo) ?_
 simp -implicitDefEqProofs only[go_sem,Tryz.results90]
 refine zag (fun k:Nat=>hd [(0,vT (anS l)),(1,.one (.t (.str n))),(5,vI k)] [] []) (fun k=>k<=l.length/\∀a∈l.take k,frN n a.form=false) (fun k=>l.length-k) 0 (zac ?_) ⟨Kd _,fun a ha=>by cases ha⟩ ?_
 ·simp -implicitDefEqProofs only[go_sem]
 ·intro k ⟨hk,hp⟩;by_cases hlt:k<l.length
  ·have hm:l[k]∈l:=Qj hlt;obtain⟨g1,g2⟩:=hok _ hm;have H1:=zlj l[k].form g1 g2;have H2:=zof (zbl [] (vf l[k].form [])) n;have hfr:frN n l[k].form=(zbl [] (vf l[k].form [])).contains n:=rfl;generalize zbl [] (vf l[k].form [])=xs at H1 H2 hfr;simp only[fmD,zaa l[k].form]at H1;simp -implicitDefEqProofs only[go_sem,Qa,zan,hlt,zcb l[k]];refine callF (H1) Yn ?_;simp -implicitDefEqProofs only[go_sem];cases hc:xs.contains n
   ·rw[hc]at H2 hfr;refine callF (H2) Yn ?_;simp -implicitDefEqProofs only[go_sem];rw[zap Yp];refine⟨k+1,⟨hlt,fun a ha=>?_⟩,Yp,zac Yn⟩;rw[Qk hlt]at ha;rcases Qm.1 ha with h|h
    ·exact hp a h
    ·rw[Qy.1 h];exact hfr
   ·rw[hc]at H2 hfr;refine callF (H2) Yn ?_;simp -implicitDefEqProofs only[go_sem];rw[J9.2 ⟨l[k],hm,by rw[hfr];simp⟩]
  ·simp -implicitDefEqProofs only[go_sem,Qa,hlt];rw[Qv Yp]at hp;rw[Qx.2 fun a ha=>by rw[hp a ha];rfl]
end
section
open Go.RowKit
theorem zoh {f q:Fm}(h:f.forms=true)(hm:q∈f.parts):q.forms=true:=by
 rw[Fm.forms_eq,Qe]at h
 exact Qx.1 h.2 q hm
theorem put_c (q:Fm)(t:Tm)(hq:q.forms=true)(hs:q.wt+t.wt<=1048576)(hp:q.parts≠[]):FC Tryz.prog 135 [fmD (q.parts.headD (mkF 0 [])),sD q.var,tmD t] [fmD (pbs q t).1,bD (pbs q t).2]:=by
 cases hps:q.parts with
 | nil=>exact absurd hps hp
 | cons g rest =>
  have hm:g∈q.parts:=by rw[hps];simp
  have hg:g.wt+t.wt<=1048576:=by have:=zbz Fm.wt q.parts g hm;have:=q.wt_eq;omega
  have:=qva q.var t Yp g (zoh hq hm) Yp (by
   by_cases h:g.wt<=524288
   ·have h1:(1+g.wt)*t.wt<=524289*1048576:=Nat.mul_le_mul Yp Yp;omega
   ·have h1:(1+g.wt)*t.wt<=1048577*524288:=Nat.mul_le_mul Yp Yp
    omega)
  unfold pbs;rw[hps];exact this
noncomputable def dsS (p:Nt)(i:Nat):Fm×Bool :=
 let a:=(p.parts.map Nt.form).getD 0 zF
 if p.rule=4 then (mkF 4 [p.form],true)else if p.rule=10 then (a.parts.getD (i-1) (mkF 0 []),true)else if p.rule=18 then pbs a p.term else (p.form.parts.getD 0 (mkF 0 []),true)
theorem zmz (c:Fm)(l:Int)(t:Tm)(p0:Nt)(i:Int):RC Tryz.prog 114 [ntD (.mk 4 c l t [p0]),iD i] [fmD (mkF 4 [c]),bD true]:=by
 have HN:=zxf c
 have hm:fmC (mkF 4 [c])=[.int .i64 4,.str [],.sl 2 [],.str [],.sl 5 [fmC c]]:=zaa _
 simp only[ntD,zbe,fmD,hm,zaa c,Qf,Qo]at HN⊢
 refine zbo Tryz.call114 Tryz.func114 rfl Yo (zao Yo) ?_
 simp -implicitDefEqProofs only[go_sem,Tryz.results114]
 refine callR (HN) Yn ?_
 simp -implicitDefEqProofs only[go_sem]
theorem zkz (c:Fm)(l:Int)(t:Tm)(p0 p1 p2:Nt)(j:Nat)(hj:j<2)(ha:p0.form.parts.length=2):RC Tryz.prog 114 [ntD (.mk 10 c l t [p0,p1,p2]),iD (j+1)] [fmD (p0.form.parts.getD j (mkF 0 [])),bD true]:=by
 have hl:j<p0.form.parts.length:=by omega
 have hli:(j:Int)<(p0.form.parts.length:Int):=by omega
 have hw:IntKind.i64.wrap (((j:Int)+1)-1)=j:=by rw[za6 Yp Yp];omega
 have hat:=zee hl
 rw[zaa (p0.form.parts.getD j (mkF 0 []))]at hat
 generalize p0.form.parts.getD j (mkF 0 [])=G at hat⊢
 simp only[ntD,zbe,fmD,zaa c,zaa G,Qf,Qo]
 refine zbo Tryz.call114 Tryz.func114 rfl Yo (zao Yo) ?_
 simp -implicitDefEqProofs only[go_sem,Tryz.results114]
 simp -implicitDefEqProofs only[go_sem,zaj p0,hw,hli,hat,Qa,Int.toNat_natCast,Int.natCast_nonneg]
theorem zgk (c:Fm)(l:Int)(t:Tm)(p0:Nt)(i:Int)(r:Int)(hr:r=11\/r=13)(ha:0<c.parts.length):RC Tryz.prog 114 [ntD (.mk r c l t [p0]),iD i] [fmD (c.parts.getD 0 (mkF 0 [])),bD true]:=by
 have hli:(0:Int)<(c.parts.length:Int):=by omega
 have hat:=zee ha
 rw[zaa (c.parts.getD 0 (mkF 0 []))]at hat
 generalize c.parts.getD 0 (mkF 0 [])=G at hat⊢
 simp only[ntD,zbe,fmD,zaa c,zaa G,Qf,Qo]
 rcases hr with rfl|rfl
 ·refine zbo Tryz.call114 Tryz.func114 rfl Yo (zao Yo) ?_;simp -implicitDefEqProofs only[go_sem,Tryz.results114];simp -implicitDefEqProofs only[go_sem,hli,hat,Qa]
 ·refine zbo Tryz.call114 Tryz.func114 rfl Yo (zao Yo) ?_;simp -implicitDefEqProofs only[go_sem,Tryz.results114];simp -implicitDefEqProofs only[go_sem,hli,hat,Qa]
theorem zk0 (c:Fm)(l:Int)(t:Tm)(p0 p1:Nt)(i:Int)(ha:0<p0.form.parts.length)(S1:Fm)(S2:Bool)(HU:FC Tryz.prog 135 [fmD (p0.form.parts.getD 0 (mkF 0 [])),sD p0.form.var,tmD t] [fmD S1,bD S2]):RC Tryz.prog 114 [ntD (.mk 18 c l t [p0,p1]),iD i] [fmD S1,bD S2]:=by
 have hli:(0:Int)<(p0.form.parts.length:Int):=by omega
 have hat:=zee ha
 rw[zaa (p0.form.parts.getD 0 (mkF 0 []))]at hat
 generalize p0.form.parts.getD 0 (mkF 0 [])=G at hat HU⊢
 simp only[ntD,zbe,tmD,zab t,fmD,zaa c,zaa G,zaa S1,Qf,Qo]at HU⊢
 refine zbo Tryz.call114 Tryz.func114 rfl Yo (zao Yo) ?_
 simp -implicitDefEqProofs only[go_sem,Tryz.results114]
 simp -implicitDefEqProofs only[go_sem,zaj p0]
 refine drawn Yo ?_
 simp -implicitDefEqProofs only[go_sem,hli,hat,Qa]
 refine zav (HU) (by simp -implicitDefEqProofs only[go_sem,hli,hat]) ?_
 simp -implicitDefEqProofs only[go_sem,hli,hat]
 kernel_rfl
noncomputable def woG (lab:Int)(f:Fm):List An->List An×Bool
 | []=>([],true)
 | a::l=>if a.label≠lab then (a::(woG lab f l).1,(woG lab f l).2)else if same a.form f=true then woG lab f l else ([],false)
theorem zto (p:Nt)(i:Nat)(l:List An)(hl:l.length<=1048576)(f:Fm)(ok:Bool)(HD:zcp p.rule i=true->RC Tryz.prog 114 [ntD p,iD i] [fmD f,bD ok]) :
  RC Tryz.prog 89 [ntD p,iD i,.one (anS l)] [.one (anS (if zcp p.rule i=true then (if ok=true then (woG p.label f l).1 else l)else l)),bD (if zcp p.rule i=true then (if ok=true then (woG p.label f l).2 else false)else true)]:=by
 have H0:=ze4 p.rule i
 cases hdd:zcp p.rule i
 ·rw[hdd]at H0;simp only[Ql,if_false];simp only[ntD,zaj p];refine zbo Tryz.call89 Tryz.func89 rfl Yo (zao Yo) ?_;simp -implicitDefEqProofs only[go_sem,Tryz.results89];refine callF (H0) (by simp -implicitDefEqProofs only[go_sem,Qg]) ?_;simp -implicitDefEqProofs only[go_sem,Qg]
 ·rw[hdd]at H0;have HD:=HD hdd;simp only[if_true];simp only[ntD,zaj p,fmD,zaa f]at HD⊢;cases ok
  ·simp only[Ql,if_false];refine zbo Tryz.call89 Tryz.func89 rfl Yo (zao Yo) ?_;simp -implicitDefEqProofs only[go_sem,Tryz.results89];refine callF (H0) (by simp -implicitDefEqProofs only[go_sem,Qb]) ?_;simp -implicitDefEqProofs only[go_sem,Qb];refine callR (HD) (by simp -implicitDefEqProofs only[go_sem,Qg]) ?_;simp -implicitDefEqProofs only[go_sem,Qg]
  ·simp only[if_true];refine zbo Tryz.call89 Tryz.func89 rfl Yo (zao Yo) ?_;simp -implicitDefEqProofs only[go_sem,Tryz.results89];refine callF (H0) (by simp -implicitDefEqProofs only[go_sem,Qb]) ?_;simp -implicitDefEqProofs only[go_sem,Qb];refine callR (HD) (by simp -implicitDefEqProofs only[go_sem,Qb]) ?_;simp -implicitDefEqProofs only[go_sem,Qb];refine zcc Yn ?_;simp -implicitDefEqProofs only[go_sem];refine zag (fun x:Nat×List An=>hd [(2,vT (anS l)),(3,.one (.bx 3 0)),(8,.one (.bx 8 0)),(10,.one (.ow 864 0)),(11,vI x.1)] [(3,ntB p),(8,[.t (.int .i64 f.op),.t (.str f.atom.name),.t (tmS f.atom.args),.t (.str f.var),.t (fmS f.parts)])] [(864,⟨false,6,x.2.map anC,0,true⟩)])
    (fun x=>x.1<=l.length/\x.2.length<=x.1/\woG p.label f l=(x.2++(woG p.label f (l.drop x.1)).1,(woG p.label f (l.drop x.1)).2)) (fun x=>l.length-x.1) (0,[]) (zac ?_) ⟨Kd _,Qz _,by simp⟩ ?_
   ·simp -implicitDefEqProofs only[go_sem,Qo]
   ·rintro⟨k,out⟩ ⟨hk,hlo,hg⟩;simp only at hk hlo hg⊢;by_cases hlt:k<l.length
    ·rw[Qh hlt,woG]at hg;have H:=zcu l[k].form f;simp only[fmD,zaa l[k].form,zaa f]at H;by_cases h1:l[k].label=p.label
     ·have h1b:(l[k].label != p.label)=false:=by simpa using h1
      rw[if_neg (by simpa using h1)]at hg;cases hs:same l[k].form f
      ·rw[hs]at hg H;rw[if_neg (by simp)]at hg;simp -implicitDefEqProofs only[go_sem,hlt,Qa];refine drawn Yo ?_;simp -implicitDefEqProofs only[go_sem,hlt,Qa,zan,zcb l[k],h1b];refine⟨Yo,?_⟩;refine drawn Yo ?_;simp -implicitDefEqProofs only[go_sem,hlt,Qa,zan,zcb l[k]];refine zav (H) (by simp -implicitDefEqProofs only[go_sem,Qg]) ?_;simp -implicitDefEqProofs only[go_sem,Qg];refine⟨Yo,?_⟩;rw[hg];simp
      ·rw[hs]at hg H;rw[if_pos rfl]at hg;simp -implicitDefEqProofs only[go_sem,hlt,Qa];refine drawn Yo ?_;simp -implicitDefEqProofs only[go_sem,hlt,Qa,zan,zcb l[k],h1b];refine⟨Yo,?_⟩;refine drawn Yo ?_;simp -implicitDefEqProofs only[go_sem,hlt,Qa,zan,zcb l[k]];refine zav (H) (by simp -implicitDefEqProofs only[go_sem,Qb]) ?_;simp -implicitDefEqProofs only[go_sem,Qb];refine⟨Yo,?_⟩;rw[zap Yp];exact⟨(k+1,out),⟨hlt,by simp only;omega,hg⟩,by simp only;omega,zac Yn⟩
     ·have h1b:(l[k].label != p.label)=true:=by simpa using h1
      rw[if_pos (by simpa using h1)]at hg;have hm:out.length<=4294967295:=by omega
      simp -implicitDefEqProofs only[go_sem,hlt,Qa];refine drawn Yo ?_;simp -implicitDefEqProofs only[go_sem,hlt,Qa,zan,zcb l[k],h1b];refine⟨Yo,?_⟩;refine zcc Yn ?_;simp -implicitDefEqProofs only[go_sem];refine apD false (by simp -implicitDefEqProofs only[go_sem,ne_eq,Q6,Qa,hm]) ?_;simp -implicitDefEqProofs only[go_sem,ne_eq,Q6,Qa,hm];rw[zap Yp];refine⟨(k+1,out++[l[k]]),⟨hlt,by simp;omega,by rw[hg];simp⟩,by simp only;omega,zac ?_⟩;simp -implicitDefEqProofs only[go_sem,Q2,Qf,Qo,zcb l[k]]
    ·rw[Qt Yp,woG]at hg;simp -implicitDefEqProofs only[go_sem,hlt,Qa];rw[hg];simp
end
section
open Go.RowKit
theorem RC.ofX {P:Program}{f:FuncId}{args res:List D}(h:RX P f args (fun r=>r=res)):RC P f args res:=⟨h.1,fun w vs A hv=>(h.2 w vs A hv).mono fun _ _ ⟨r,us,e,h1,h2,h3⟩=>⟨us,h1,e▸h2,h3⟩⟩
def qip (r:Int):Bool:=r==1||zcp r 0||zcp r 1
def stS (p:Nt):Bool:=zbg p.rule==(p.parts.length:Int)&&(p.form.good&&((qip p.rule==(p.label != 0))&&((!qip p.rule||inB p.label 1 20)&&(if inB p.rule 15 18=true then p.term.good else p.term.none))))
theorem zuz (p:Nt)(hw:Fit p)(hz:same p.term (.mk [] [])=p.term.none):RC Tryz.prog 87 [ntD p] [bD (stS p)]:=by
 refine RC.ofX ?_
 have hfw:p.form.wt<=1048576:=by have:=hw.own;omega
 have htw:p.term.wt<=1048576:=by have:=hw.own;omega
 have HP:=qa2 p.rule
 have HV:=qoe p.form Yp
 have HD0:=ze4 p.rule 0
 have HD1:=ze4 p.rule 1
 have HW:=zsw p.label 1 20
 have HT:=zsw p.rule 15 18
 have HVT:=zzm p.term Yp
 have HZ:=zyz p.term (.mk [] [])
 rw[hz]at HZ
 have hzt:tmC (.mk [] [])=[.str [],.sl 2 []]:=zab _
 have btt:(true != true)=false:=rfl
 have bff:(false != false)=false:=rfl
 have btf:(true != false)=true:=rfl
 have bft:(false != true)=true:=rfl
 have qtf:(true==false)=false:=rfl
 have qft:(false==true)=false:=rfl
 simp only[ntD,fmD,tmD,zaj p,zaa p.form,zab p.term,hzt]at HV HVT HZ⊢
 refine zoj Tryz.call87 Tryz.func87 rfl (zao Yo) ?_
 refine zb6.cut 0 rfl Yo ?_
 simp -implicitDefEqProofs only[go_sem,Tryz.results87]
 refine zb6.join (hd [(1,.one (.bx 1 0)),(3,vB (qip p.rule))] [(1,ntR p)] []) Yo ?_ ?_
 ·unfold qip;cases e1:(p.rule==1)
  ·cases e2:zcp p.rule 0
   ·rw[e2]at HD0;simp -implicitDefEqProofs only[go_sem,e1];refine callF (HD0) (by simp -implicitDefEqProofs only[go_sem,e1]) ?_;simp -implicitDefEqProofs only[go_sem,e1];refine callF (HD1) (by simp -implicitDefEqProofs only[go_sem,e1]) ?_;simp -implicitDefEqProofs only[go_sem,e1];refine zac ?_;simp -implicitDefEqProofs only[go_sem,Kt]
   ·rw[e2]at HD0;simp -implicitDefEqProofs only[go_sem,e1];refine callF (HD0) (by simp -implicitDefEqProofs only[go_sem,e1]) ?_;simp -implicitDefEqProofs only[go_sem,e1];refine zac ?_;simp -implicitDefEqProofs only[go_sem,Kt,J1]
  ·simp -implicitDefEqProofs only[go_sem,e1];refine zac ?_;simp -implicitDefEqProofs only[go_sem,J1]
 have hst:stS p=(zbg p.rule==(p.parts.length:Int)&&(p.form.good&&((qip p.rule==(p.label != 0))&&((!qip p.rule||inB p.label 1 20)&&(if inB p.rule 15 18=true then p.term.good else p.term.none))))):=rfl
 generalize qip p.rule=lb at hst⊢
 generalize stS p=st at hst⊢
 refine zb6.cut 0 rfl Yo ?_
 by_cases c1:zbg p.rule=(p.parts.length:Int)
 ·have e1:(((p.parts.length:Nat):Int) != ((p.parts.length:Nat):Int))=false:=by simp
  rw[show(zbg p.rule==(p.parts.length:Int))=true by simpa using c1,Qs]at hst;rw[c1]at HP;cases c2:p.form.good
  ·rw[c2]at HV hst;simp -implicitDefEqProofs only[go_sem];refine drawn Yo ?_;simp -implicitDefEqProofs only[go_sem];refine zav (HP) (by simp -implicitDefEqProofs only[go_sem,e1]) ?_;simp -implicitDefEqProofs only[go_sem,e1];refine zaz (HV) (by simp -implicitDefEqProofs only[go_sem,e1,Qg]) ?_;simp -implicitDefEqProofs only[go_sem,e1,Qg];exact⟨Yo,[bD st],rfl,by simp -implicitDefEqProofs only[go_sem];rw[hst];rfl⟩
  ·rw[c2,Qs]at hst;rw[c2]at HV;cases c3:(lb==(p.label != 0))
   ·rw[c3,Q1]at hst;have c3':(lb != (p.label != 0))=true:=by unfold bne at c3⊢;rw[c3];rfl
    generalize hq:(p.label != 0)=q at c3' c3;cases lb<;>cases q<;>first|cases c3|skip
    ·simp -implicitDefEqProofs only[go_sem];refine drawn Yo ?_;simp -implicitDefEqProofs only[go_sem];refine zav (HP) (by simp -implicitDefEqProofs only[go_sem,e1]) ?_;simp -implicitDefEqProofs only[go_sem,e1];refine zaz (HV) (by simp -implicitDefEqProofs only[go_sem,e1,Qb,hq,bft,qft,Qg]) ?_;simp -implicitDefEqProofs only[go_sem,e1,Qb,hq,bft,qft,Qg];exact⟨Yo,[bD st],rfl,by simp -implicitDefEqProofs only[go_sem];rw[hst]⟩
    ·simp -implicitDefEqProofs only[go_sem];refine drawn Yo ?_;simp -implicitDefEqProofs only[go_sem];refine zav (HP) (by simp -implicitDefEqProofs only[go_sem,e1]) ?_;simp -implicitDefEqProofs only[go_sem,e1];refine zaz (HV) (by simp -implicitDefEqProofs only[go_sem,e1,Qb,hq,btf,qtf,Qg]) ?_;simp -implicitDefEqProofs only[go_sem,e1,Qb,hq,btf,qtf,Qg];exact⟨Yo,[bD st],rfl,by simp -implicitDefEqProofs only[go_sem];rw[hst]⟩
   ·rw[c3,Qs]at hst;have c3':(p.label != 0)=lb:=(by simpa using c3:lb=(p.label != 0)).symm;cases lb
    ·rw[Qg,J1,Qs]at hst;simp -implicitDefEqProofs only[go_sem];refine drawn Yo ?_;simp -implicitDefEqProofs only[go_sem];refine zav (HP) (by simp -implicitDefEqProofs only[go_sem,e1]) ?_;simp -implicitDefEqProofs only[go_sem,e1];refine zaz (HV) (by simp -implicitDefEqProofs only[go_sem,e1,Qb,c3',bff,Qw,Qb]) ?_;simp -implicitDefEqProofs only[go_sem,e1,Qb,c3',bff,Qw,Qb];refine⟨Yo,?_⟩;refine zb6.ofEx Yo ?_;cases ht:inB p.rule 15 18
     ·rw[ht]at HT hst;rw[if_neg (by simp)]at hst;simp -implicitDefEqProofs only[go_sem];refine callF (HT) Yn ?_;simp -implicitDefEqProofs only[go_sem];refine callF (HZ) Yn ?_;simp -implicitDefEqProofs only[go_sem];exact⟨[bD st],rfl,by simp -implicitDefEqProofs only[go_sem];rw[hst]⟩
     ·rw[ht]at HT hst;rw[if_pos rfl]at hst;simp -implicitDefEqProofs only[go_sem];refine callF (HT) Yn ?_;simp -implicitDefEqProofs only[go_sem];refine callF (HVT) Yn ?_;simp -implicitDefEqProofs only[go_sem];exact⟨[bD st],rfl,by simp -implicitDefEqProofs only[go_sem];rw[hst]⟩
    ·rw[Qb,Kt]at hst;cases c4:inB p.label 1 20
     ·rw[c4,Q1]at hst;rw[c4]at HW;simp -implicitDefEqProofs only[go_sem];refine drawn Yo ?_;simp -implicitDefEqProofs only[go_sem];refine zav (HP) (by simp -implicitDefEqProofs only[go_sem,e1]) ?_;simp -implicitDefEqProofs only[go_sem,e1];refine zaz (HV) (by simp -implicitDefEqProofs only[go_sem,e1,Qb,c3',btt,Qw,Qb]) ?_;simp -implicitDefEqProofs only[go_sem,e1,Qb,c3',btt,Qw,Qb];refine zaz (HW) (by simp -implicitDefEqProofs only[go_sem,Qg]) ?_;simp -implicitDefEqProofs only[go_sem,Qg];exact⟨Yo,[bD st],rfl,by simp -implicitDefEqProofs only[go_sem];rw[hst]⟩
     ·rw[c4,Qs]at hst;rw[c4]at HW;simp -implicitDefEqProofs only[go_sem];refine drawn Yo ?_;simp -implicitDefEqProofs only[go_sem];refine zav (HP) (by simp -implicitDefEqProofs only[go_sem,e1]) ?_;simp -implicitDefEqProofs only[go_sem,e1];refine zaz (HV) (by simp -implicitDefEqProofs only[go_sem,e1,Qb,c3',btt,Qw,Qb]) ?_;simp -implicitDefEqProofs only[go_sem,e1,Qb,c3',btt,Qw,Qb];refine zaz (HW) (by simp -implicitDefEqProofs only[go_sem,Qb]) ?_;simp -implicitDefEqProofs only[go_sem,Qb];refine⟨Yo,?_⟩;refine zb6.ofEx Yo ?_;cases ht:inB p.rule 15 18
      ·rw[ht]at HT hst;rw[if_neg (by simp)]at hst;simp -implicitDefEqProofs only[go_sem];refine callF (HT) Yn ?_;simp -implicitDefEqProofs only[go_sem];refine callF (HZ) Yn ?_;simp -implicitDefEqProofs only[go_sem];exact⟨[bD st],rfl,by simp -implicitDefEqProofs only[go_sem];rw[hst]⟩
      ·rw[ht]at HT hst;rw[if_pos rfl]at hst;simp -implicitDefEqProofs only[go_sem];refine callF (HT) Yn ?_;simp -implicitDefEqProofs only[go_sem];refine callF (HVT) Yn ?_;simp -implicitDefEqProofs only[go_sem];exact⟨[bD st],rfl,by simp -implicitDefEqProofs only[go_sem];rw[hst]⟩
 ·have e1:(zbg p.rule != (p.parts.length:Int))=true:=by simpa using c1
  rw[show(zbg p.rule==(p.parts.length:Int))=false by simpa using c1,Q1]at hst;simp -implicitDefEqProofs only[go_sem];refine drawn Yo ?_;simp -implicitDefEqProofs only[go_sem];refine zav (HP) (by simp -implicitDefEqProofs only[go_sem,e1]) ?_;simp -implicitDefEqProofs only[go_sem,e1];exact⟨Yo,[bD st],rfl,by simp -implicitDefEqProofs only[go_sem];rw[hst]⟩
end
section
open Go.RowKit
theorem step_1 (c:Fm)(l:Int)(t:Tm)(ps:List Nt)(a b:Fm)(HA:RC Tryz.prog 108 [ntD (.mk 1 c l t ps),iD 0] [fmD a])(HB:RC Tryz.prog 108 [ntD (.mk 1 c l t ps),iD 1] [fmD b]):FC Tryz.prog 88 [ntD (.mk 1 c l t ps)] [bD (true)]:=by
 simp only[ntD,zbe,fmD,tmD,zab t,zaa a,zaa b,zaa c]at HA HB  ⊢
 refine zad Tryz.call88 Tryz.func88 rfl Yo (zao Yo) ?_
 simp -implicitDefEqProofs only[go_sem,Tryz.results88]
 refine drawn Yo ?_
 simp -implicitDefEqProofs only[go_sem]
 refine zay HA Yn ?_
 simp -implicitDefEqProofs only[go_sem]
 refine zay HB Yn ?_
 simp -implicitDefEqProofs only[go_sem]
 kernel_rfl
theorem step_2 (c:Fm)(l:Int)(t:Tm)(ps:List Nt)(a b:Fm)(HA:RC Tryz.prog 108 [ntD (.mk 2 c l t ps),iD 0] [fmD a])(HB:RC Tryz.prog 108 [ntD (.mk 2 c l t ps),iD 1] [fmD b]):FC Tryz.prog 88 [ntD (.mk 2 c l t ps)] [bD (c.op==1)]:=by
 simp only[ntD,zbe,fmD,tmD,zab t,zaa a,zaa b,zaa c]at HA HB  ⊢
 refine zad Tryz.call88 Tryz.func88 rfl Yo (zao Yo) ?_
 simp -implicitDefEqProofs only[go_sem,Tryz.results88]
 refine drawn Yo ?_
 simp -implicitDefEqProofs only[go_sem]
 refine zay HA Yn ?_
 simp -implicitDefEqProofs only[go_sem]
 refine zay HB Yn ?_
 simp -implicitDefEqProofs only[go_sem]
 kernel_rfl
theorem step_3 (c:Fm)(l:Int)(t:Tm)(ps:List Nt)(a b:Fm)(HA:RC Tryz.prog 108 [ntD (.mk 3 c l t ps),iD 0] [fmD a])(HB:RC Tryz.prog 108 [ntD (.mk 3 c l t ps),iD 1] [fmD b]):FC Tryz.prog 88 [ntD (.mk 3 c l t ps)] [bD (a.op==2)]:=by
 simp only[ntD,zbe,fmD,tmD,zab t,zaa a,zaa b,zaa c]at HA HB  ⊢
 refine zad Tryz.call88 Tryz.func88 rfl Yo (zao Yo) ?_
 simp -implicitDefEqProofs only[go_sem,Tryz.results88]
 refine drawn Yo ?_
 simp -implicitDefEqProofs only[go_sem]
 refine zay HA Yn ?_
 simp -implicitDefEqProofs only[go_sem]
 refine zay HB Yn ?_
 simp -implicitDefEqProofs only[go_sem]
 kernel_rfl
theorem step_4 (c:Fm)(l:Int)(t:Tm)(ps:List Nt)(a b:Fm)(HA:RC Tryz.prog 108 [ntD (.mk 4 c l t ps),iD 0] [fmD a])(HB:RC Tryz.prog 108 [ntD (.mk 4 c l t ps),iD 1] [fmD b]):FC Tryz.prog 88 [ntD (.mk 4 c l t ps)] [bD (a.op==2)]:=by
 simp only[ntD,zbe,fmD,tmD,zab t,zaa a,zaa b,zaa c]at HA HB  ⊢
 refine zad Tryz.call88 Tryz.func88 rfl Yo (zao Yo) ?_
 simp -implicitDefEqProofs only[go_sem,Tryz.results88]
 refine drawn Yo ?_
 simp -implicitDefEqProofs only[go_sem]
 refine zay HA Yn ?_
 simp -implicitDefEqProofs only[go_sem]
 refine zay HB Yn ?_
 simp -implicitDefEqProofs only[go_sem]
 kernel_rfl
theorem step_5 (c:Fm)(l:Int)(t:Tm)(ps:List Nt)(a b:Fm)(HA:RC Tryz.prog 108 [ntD (.mk 5 c l t ps),iD 0] [fmD a])(HB:RC Tryz.prog 108 [ntD (.mk 5 c l t ps),iD 1] [fmD b]):FC Tryz.prog 88 [ntD (.mk 5 c l t ps)] [bD (same c (mkF 5 [a,b]))]:=by
 have HT:=zz3 5 a b
 have HE:=zcu c (mkF 5 [a,b])
 generalize same c (mkF 5 [a,b])=s at HE⊢
 have hm:fmC (mkF 5 [a,b])=[.int .i64 5,.str [],.sl 2 [],.str [],.sl 5 [fmC a,fmC b]]:=zaa _
 simp only[fmD,hm]at HT HE
 simp only[ntD,zbe,fmD,tmD,zab t,zaa a,zaa b,zaa c]at HA HB HT HE⊢
 refine zad Tryz.call88 Tryz.func88 rfl Yo (zao Yo) ?_
 simp -implicitDefEqProofs only[go_sem,Tryz.results88]
 refine drawn Yo ?_
 simp -implicitDefEqProofs only[go_sem]
 refine zay HA Yn ?_
 simp -implicitDefEqProofs only[go_sem]
 refine zay HB Yn ?_
 simp -implicitDefEqProofs only[go_sem]
 refine⟨Yo,?_⟩
 refine drawn Yo ?_
 simp -implicitDefEqProofs only[go_sem]
 refine zay HT Yn ?_
 simp -implicitDefEqProofs only[go_sem]
 refine zav (HE) Yn ?_
 simp -implicitDefEqProofs only[go_sem]
 kernel_rfl
end
section
open Go.RowKit
theorem step_6 (c:Fm)(l:Int)(t:Tm)(ps:List Nt)(a b:Fm)(HA:RC Tryz.prog 108 [ntD (.mk 6 c l t ps),iD 0] [fmD a])(HB:RC Tryz.prog 108 [ntD (.mk 6 c l t ps),iD 1] [fmD b])(ha:a.op=5->a.parts.length=2):FC Tryz.prog 88 [ntD (.mk 6 c l t ps)] [bD (a.op==5&&same c (a.parts.getD 0 (mkF 0 [])))]:=by
 have HE:=zcu c (a.parts.getD 0 (mkF 0 []))
 simp only[ntD,zbe,fmD,tmD,zab t,zaa a,zaa b,zaa c]at HA HB HE⊢
 cases e:(a.op==5)
 ·refine zad Tryz.call88 Tryz.func88 rfl Yo (zao Yo) ?_;simp -implicitDefEqProofs only[go_sem,Tryz.results88];refine drawn Yo ?_;simp -implicitDefEqProofs only[go_sem];refine zay HA Yn ?_;simp -implicitDefEqProofs only[go_sem];refine zay HB Yn ?_;simp -implicitDefEqProofs only[go_sem];refine⟨Yo,?_⟩;refine drawn Yo ?_;simp -implicitDefEqProofs only[go_sem,e];kernel_rfl
 ·have hl:0<a.parts.length:=by rw[ha (by simpa using e)];omega
  have hli:(0:Int)<(a.parts.length:Int):=by omega
  have hat:=zee hl;rw[zaa (a.parts.getD 0 (mkF 0 []))]at hat;generalize a.parts.getD 0 (mkF 0 [])=G at hat HE⊢;simp only[zaa G]at HE;generalize same c G=s at HE⊢;refine zad Tryz.call88 Tryz.func88 rfl Yo (zao Yo) ?_;simp -implicitDefEqProofs only[go_sem,Tryz.results88];refine drawn Yo ?_;simp -implicitDefEqProofs only[go_sem];refine zay HA Yn ?_;simp -implicitDefEqProofs only[go_sem];refine zay HB Yn ?_;simp -implicitDefEqProofs only[go_sem];refine⟨Yo,?_⟩;refine drawn Yo ?_;simp -implicitDefEqProofs only[go_sem,e,hli,hat,Qa];refine zaz HE (by simp -implicitDefEqProofs only[go_sem,e,hli,hat]) ?_;simp -implicitDefEqProofs only[go_sem,e,hli,hat];kernel_rfl
theorem step_7 (c:Fm)(l:Int)(t:Tm)(ps:List Nt)(a b:Fm)(HA:RC Tryz.prog 108 [ntD (.mk 7 c l t ps),iD 0] [fmD a])(HB:RC Tryz.prog 108 [ntD (.mk 7 c l t ps),iD 1] [fmD b])(ha:a.op=5->a.parts.length=2):FC Tryz.prog 88 [ntD (.mk 7 c l t ps)] [bD (a.op==5&&same c (a.parts.getD 1 (mkF 0 [])))]:=by
 have HE:=zcu c (a.parts.getD 1 (mkF 0 []))
 simp only[ntD,zbe,fmD,tmD,zab t,zaa a,zaa b,zaa c]at HA HB HE⊢
 cases e:(a.op==5)
 ·refine zad Tryz.call88 Tryz.func88 rfl Yo (zao Yo) ?_;simp -implicitDefEqProofs only[go_sem,Tryz.results88];refine drawn Yo ?_;simp -implicitDefEqProofs only[go_sem];refine zay HA Yn ?_;simp -implicitDefEqProofs only[go_sem];refine zay HB Yn ?_;simp -implicitDefEqProofs only[go_sem];refine⟨Yo,?_⟩;refine drawn Yo ?_;simp -implicitDefEqProofs only[go_sem,e];kernel_rfl
 ·have hl:1<a.parts.length:=by rw[ha (by simpa using e)];omega
  have hli:(1:Int)<(a.parts.length:Int):=by omega
  have hat:=zee hl;rw[zaa (a.parts.getD 1 (mkF 0 []))]at hat;generalize a.parts.getD 1 (mkF 0 [])=G at hat HE⊢;simp only[zaa G]at HE;generalize same c G=s at HE⊢;refine zad Tryz.call88 Tryz.func88 rfl Yo (zao Yo) ?_;simp -implicitDefEqProofs only[go_sem,Tryz.results88];refine drawn Yo ?_;simp -implicitDefEqProofs only[go_sem];refine zay HA Yn ?_;simp -implicitDefEqProofs only[go_sem];refine zay HB Yn ?_;simp -implicitDefEqProofs only[go_sem];refine⟨Yo,?_⟩;refine drawn Yo ?_;simp -implicitDefEqProofs only[go_sem,e,hli,hat,Qa];refine zaz HE (by simp -implicitDefEqProofs only[go_sem,e,hli,hat]) ?_;simp -implicitDefEqProofs only[go_sem,e,hli,hat];kernel_rfl
theorem step_8 (c:Fm)(l:Int)(t:Tm)(ps:List Nt)(a b:Fm)(HA:RC Tryz.prog 108 [ntD (.mk 8 c l t ps),iD 0] [fmD a])(HB:RC Tryz.prog 108 [ntD (.mk 8 c l t ps),iD 1] [fmD b])(ha:c.op=6->c.parts.length=2):FC Tryz.prog 88 [ntD (.mk 8 c l t ps)] [bD (c.op==6&&same a (c.parts.getD 0 (mkF 0 [])))]:=by
 have HE:=zcu a (c.parts.getD 0 (mkF 0 []))
 simp only[ntD,zbe,fmD,tmD,zab t,zaa a,zaa b,zaa c]at HA HB HE⊢
 cases e:(c.op==6)
 ·refine zad Tryz.call88 Tryz.func88 rfl Yo (zao Yo) ?_;simp -implicitDefEqProofs only[go_sem,Tryz.results88];refine drawn Yo ?_;simp -implicitDefEqProofs only[go_sem];refine zay HA Yn ?_;simp -implicitDefEqProofs only[go_sem];refine zay HB Yn ?_;simp -implicitDefEqProofs only[go_sem];refine⟨Yo,?_⟩;refine drawn Yo ?_;simp -implicitDefEqProofs only[go_sem,e];kernel_rfl
 ·have hl:0<c.parts.length:=by rw[ha (by simpa using e)];omega
  have hli:(0:Int)<(c.parts.length:Int):=by omega
  have hat:=zee hl;rw[zaa (c.parts.getD 0 (mkF 0 []))]at hat;generalize c.parts.getD 0 (mkF 0 [])=G at hat HE⊢;simp only[zaa G]at HE;generalize same a G=s at HE⊢;refine zad Tryz.call88 Tryz.func88 rfl Yo (zao Yo) ?_;simp -implicitDefEqProofs only[go_sem,Tryz.results88];refine drawn Yo ?_;simp -implicitDefEqProofs only[go_sem];refine zay HA Yn ?_;simp -implicitDefEqProofs only[go_sem];refine zay HB Yn ?_;simp -implicitDefEqProofs only[go_sem];refine⟨Yo,?_⟩;refine drawn Yo ?_;simp -implicitDefEqProofs only[go_sem,e,hli,hat,Qa];refine zaz HE (by simp -implicitDefEqProofs only[go_sem,e,hli,hat]) ?_;simp -implicitDefEqProofs only[go_sem,e,hli,hat];kernel_rfl
theorem step_9 (c:Fm)(l:Int)(t:Tm)(ps:List Nt)(a b:Fm)(HA:RC Tryz.prog 108 [ntD (.mk 9 c l t ps),iD 0] [fmD a])(HB:RC Tryz.prog 108 [ntD (.mk 9 c l t ps),iD 1] [fmD b])(ha:c.op=6->c.parts.length=2):FC Tryz.prog 88 [ntD (.mk 9 c l t ps)] [bD (c.op==6&&same a (c.parts.getD 1 (mkF 0 [])))]:=by
 have HE:=zcu a (c.parts.getD 1 (mkF 0 []))
 simp only[ntD,zbe,fmD,tmD,zab t,zaa a,zaa b,zaa c]at HA HB HE⊢
 cases e:(c.op==6)
 ·refine zad Tryz.call88 Tryz.func88 rfl Yo (zao Yo) ?_;simp -implicitDefEqProofs only[go_sem,Tryz.results88];refine drawn Yo ?_;simp -implicitDefEqProofs only[go_sem];refine zay HA Yn ?_;simp -implicitDefEqProofs only[go_sem];refine zay HB Yn ?_;simp -implicitDefEqProofs only[go_sem];refine⟨Yo,?_⟩;refine drawn Yo ?_;simp -implicitDefEqProofs only[go_sem,e];kernel_rfl
 ·have hl:1<c.parts.length:=by rw[ha (by simpa using e)];omega
  have hli:(1:Int)<(c.parts.length:Int):=by omega
  have hat:=zee hl;rw[zaa (c.parts.getD 1 (mkF 0 []))]at hat;generalize c.parts.getD 1 (mkF 0 [])=G at hat HE⊢;simp only[zaa G]at HE;generalize same a G=s at HE⊢;refine zad Tryz.call88 Tryz.func88 rfl Yo (zao Yo) ?_;simp -implicitDefEqProofs only[go_sem,Tryz.results88];refine drawn Yo ?_;simp -implicitDefEqProofs only[go_sem];refine zay HA Yn ?_;simp -implicitDefEqProofs only[go_sem];refine zay HB Yn ?_;simp -implicitDefEqProofs only[go_sem];refine⟨Yo,?_⟩;refine drawn Yo ?_;simp -implicitDefEqProofs only[go_sem,e,hli,hat,Qa];refine zaz HE (by simp -implicitDefEqProofs only[go_sem,e,hli,hat]) ?_;simp -implicitDefEqProofs only[go_sem,e,hli,hat];kernel_rfl
end
section
open Go.RowKit
theorem qwo (c:Fm)(l:Int)(t:Tm)(ps:List Nt)(a b:Fm)(HA:RC Tryz.prog 108 [ntD (.mk 10 c l t ps),iD 0] [fmD a])(HB:RC Tryz.prog 108 [ntD (.mk 10 c l t ps),iD 1] [fmD b])(d:Fm)(HC:RC Tryz.prog 108 [ntD (.mk 10 c l t ps),iD 2] [fmD d]):FC Tryz.prog 88 [ntD (.mk 10 c l t ps)] [bD (a.op==6&&same b c&&same d c)]:=by
 have HE:=zcu b c
 have HE2:=zcu d c
 simp only[ntD,zbe,fmD,zaa d,zaa c]at HC HE2
 simp only[ntD,zbe,fmD,tmD,zab t,zaa a,zaa b,zaa c]at HA HB HE⊢
 generalize same b c=s1 at HE⊢
 generalize same d c=s2 at HE2⊢
 cases e:(a.op==6)
 ·refine zad Tryz.call88 Tryz.func88 rfl Yo (zao Yo) ?_;simp -implicitDefEqProofs only[go_sem,Tryz.results88];refine drawn Yo ?_;simp -implicitDefEqProofs only[go_sem];refine zay HA Yn ?_;simp -implicitDefEqProofs only[go_sem];refine zay HB Yn ?_;simp -implicitDefEqProofs only[go_sem];refine⟨Yo,?_⟩;refine drawn Yo ?_;simp -implicitDefEqProofs only[go_sem,e];kernel_rfl
 ·cases s1
  ·refine zad Tryz.call88 Tryz.func88 rfl Yo (zao Yo) ?_;simp -implicitDefEqProofs only[go_sem,Tryz.results88];refine drawn Yo ?_;simp -implicitDefEqProofs only[go_sem];refine zay HA Yn ?_;simp -implicitDefEqProofs only[go_sem];refine zay HB Yn ?_;simp -implicitDefEqProofs only[go_sem];refine⟨Yo,?_⟩;refine drawn Yo ?_;simp -implicitDefEqProofs only[go_sem,e];refine zaz HE (by simp -implicitDefEqProofs only[go_sem,e]) ?_;simp -implicitDefEqProofs only[go_sem,e];kernel_rfl
  ·refine zad Tryz.call88 Tryz.func88 rfl Yo (zao Yo) ?_;simp -implicitDefEqProofs only[go_sem,Tryz.results88];refine drawn Yo ?_;simp -implicitDefEqProofs only[go_sem];refine zay HA Yn ?_;simp -implicitDefEqProofs only[go_sem];refine zay HB Yn ?_;simp -implicitDefEqProofs only[go_sem];refine⟨Yo,?_⟩;refine drawn Yo ?_;simp -implicitDefEqProofs only[go_sem,e];refine zaz HE (by simp -implicitDefEqProofs only[go_sem,e]) ?_;simp -implicitDefEqProofs only[go_sem,e];refine zgg HC (by simp -implicitDefEqProofs only[go_sem,e]) ?_;simp -implicitDefEqProofs only[go_sem,e];refine zaz HE2 (by simp -implicitDefEqProofs only[go_sem,e]) ?_;simp -implicitDefEqProofs only[go_sem,e];kernel_rfl
theorem qtx (c:Fm)(l:Int)(t:Tm)(ps:List Nt)(a b:Fm)(HA:RC Tryz.prog 108 [ntD (.mk 11 c l t ps),iD 0] [fmD a])(HB:RC Tryz.prog 108 [ntD (.mk 11 c l t ps),iD 1] [fmD b])(ha:c.op=7->c.parts.length=2):FC Tryz.prog 88 [ntD (.mk 11 c l t ps)] [bD (c.op==7&&same a (c.parts.getD 1 (mkF 0 [])))]:=by
 have HE:=zcu a (c.parts.getD 1 (mkF 0 []))
 simp only[ntD,zbe,fmD,tmD,zab t,zaa a,zaa b,zaa c]at HA HB HE⊢
 cases e:(c.op==7)
 ·refine zad Tryz.call88 Tryz.func88 rfl Yo (zao Yo) ?_;simp -implicitDefEqProofs only[go_sem,Tryz.results88];refine drawn Yo ?_;simp -implicitDefEqProofs only[go_sem];refine zay HA Yn ?_;simp -implicitDefEqProofs only[go_sem];refine zay HB Yn ?_;simp -implicitDefEqProofs only[go_sem];refine⟨Yo,?_⟩;refine drawn Yo ?_;simp -implicitDefEqProofs only[go_sem,e];kernel_rfl
 ·have hl:1<c.parts.length:=by rw[ha (by simpa using e)];omega
  have hli:(1:Int)<(c.parts.length:Int):=by omega
  have hat:=zee hl;rw[zaa (c.parts.getD 1 (mkF 0 []))]at hat;generalize c.parts.getD 1 (mkF 0 [])=G at hat HE⊢;simp only[zaa G]at HE;generalize same a G=s at HE⊢;refine zad Tryz.call88 Tryz.func88 rfl Yo (zao Yo) ?_;simp -implicitDefEqProofs only[go_sem,Tryz.results88];refine drawn Yo ?_;simp -implicitDefEqProofs only[go_sem];refine zay HA Yn ?_;simp -implicitDefEqProofs only[go_sem];refine zay HB Yn ?_;simp -implicitDefEqProofs only[go_sem];refine⟨Yo,?_⟩;refine drawn Yo ?_;simp -implicitDefEqProofs only[go_sem,e,hli,hat,Qa];refine zaz HE (by simp -implicitDefEqProofs only[go_sem,e,hli,hat]) ?_;simp -implicitDefEqProofs only[go_sem,e,hli,hat];kernel_rfl
theorem qt9 (c:Fm)(l:Int)(t:Tm)(ps:List Nt)(a b:Fm)(HA:RC Tryz.prog 108 [ntD (.mk 12 c l t ps),iD 0] [fmD a])(HB:RC Tryz.prog 108 [ntD (.mk 12 c l t ps),iD 1] [fmD b]):FC Tryz.prog 88 [ntD (.mk 12 c l t ps)] [bD (same a (mkF 7 [b,c]))]:=by
 have HT:=zz3 7 b c
 have HE:=zcu a (mkF 7 [b,c])
 generalize same a (mkF 7 [b,c])=s at HE⊢
 have hm:fmC (mkF 7 [b,c])=[.int .i64 7,.str [],.sl 2 [],.str [],.sl 5 [fmC b,fmC c]]:=zaa _
 simp only[fmD,hm]at HT HE
 simp only[ntD,zbe,fmD,tmD,zab t,zaa a,zaa b,zaa c]at HA HB HT HE⊢
 refine zad Tryz.call88 Tryz.func88 rfl Yo (zao Yo) ?_
 simp -implicitDefEqProofs only[go_sem,Tryz.results88]
 refine drawn Yo ?_
 simp -implicitDefEqProofs only[go_sem]
 refine zay HA Yn ?_
 simp -implicitDefEqProofs only[go_sem]
 refine zay HB Yn ?_
 simp -implicitDefEqProofs only[go_sem]
 refine⟨Yo,?_⟩
 refine drawn Yo ?_
 simp -implicitDefEqProofs only[go_sem]
 refine zay HT Yn ?_
 simp -implicitDefEqProofs only[go_sem]
 refine zav (HE) Yn ?_
 simp -implicitDefEqProofs only[go_sem]
 kernel_rfl
theorem qs0 (c:Fm)(l:Int)(t:Tm)(ps:List Nt)(a b:Fm)(HA:RC Tryz.prog 108 [ntD (.mk 13 c l t ps),iD 0] [fmD a])(HB:RC Tryz.prog 108 [ntD (.mk 13 c l t ps),iD 1] [fmD b]):FC Tryz.prog 88 [ntD (.mk 13 c l t ps)] [bD (c.op==4&&a.op==2)]:=by
 simp only[ntD,zbe,fmD,tmD,zab t,zaa a,zaa b,zaa c]at HA HB  ⊢
 cases e:(c.op==4)
 ·refine zad Tryz.call88 Tryz.func88 rfl Yo (zao Yo) ?_;simp -implicitDefEqProofs only[go_sem,Tryz.results88];refine drawn Yo ?_;simp -implicitDefEqProofs only[go_sem];refine zay HA Yn ?_;simp -implicitDefEqProofs only[go_sem];refine zay HB (by simp -implicitDefEqProofs only[go_sem,e]) ?_;simp -implicitDefEqProofs only[go_sem,e];kernel_rfl
 ·refine zad Tryz.call88 Tryz.func88 rfl Yo (zao Yo) ?_;simp -implicitDefEqProofs only[go_sem,Tryz.results88];refine drawn Yo ?_;simp -implicitDefEqProofs only[go_sem];refine zay HA Yn ?_;simp -implicitDefEqProofs only[go_sem];refine zay HB (by simp -implicitDefEqProofs only[go_sem,e]) ?_;simp -implicitDefEqProofs only[go_sem,e];kernel_rfl
theorem qv5 (c:Fm)(l:Int)(t:Tm)(ps:List Nt)(a b:Fm)(HA:RC Tryz.prog 108 [ntD (.mk 14 c l t ps),iD 0] [fmD a])(HB:RC Tryz.prog 108 [ntD (.mk 14 c l t ps),iD 1] [fmD b]):FC Tryz.prog 88 [ntD (.mk 14 c l t ps)] [bD (c.op==2&&same a (mkF 4 [b]))]:=by
 have HT:=zxf b
 have HE:=zcu a (mkF 4 [b])
 generalize same a (mkF 4 [b])=s at HE⊢
 have hm:fmC (mkF 4 [b])=[.int .i64 4,.str [],.sl 2 [],.str [],.sl 5 [fmC b]]:=zaa _
 simp only[fmD,hm]at HT HE
 simp only[ntD,zbe,fmD,tmD,zab t,zaa a,zaa b,zaa c]at HA HB HT HE⊢
 cases e:(c.op==2)
 ·refine zad Tryz.call88 Tryz.func88 rfl Yo (zao Yo) ?_;simp -implicitDefEqProofs only[go_sem,Tryz.results88];refine drawn Yo ?_;simp -implicitDefEqProofs only[go_sem];refine zay HA Yn ?_;simp -implicitDefEqProofs only[go_sem];refine zay HB Yn ?_;simp -implicitDefEqProofs only[go_sem];refine⟨Yo,?_⟩;refine drawn Yo ?_;simp -implicitDefEqProofs only[go_sem,e];kernel_rfl
 ·refine zad Tryz.call88 Tryz.func88 rfl Yo (zao Yo) ?_;simp -implicitDefEqProofs only[go_sem,Tryz.results88];refine drawn Yo ?_;simp -implicitDefEqProofs only[go_sem];refine zay HA Yn ?_;simp -implicitDefEqProofs only[go_sem];refine zay HB Yn ?_;simp -implicitDefEqProofs only[go_sem];refine⟨Yo,?_⟩;refine drawn Yo ?_;simp -implicitDefEqProofs only[go_sem,e];refine zgg HT (by simp -implicitDefEqProofs only[go_sem,e]) ?_;simp -implicitDefEqProofs only[go_sem,e];refine zaz HE (by simp -implicitDefEqProofs only[go_sem,e]) ?_;simp -implicitDefEqProofs only[go_sem,e];kernel_rfl
end
section
open Go.RowKit
theorem qtd (c:Fm)(l:Int)(t:Tm)(ps:List Nt)(a b:Fm)(HA:RC Tryz.prog 108 [ntD (.mk 15 c l t ps),iD 0] [fmD a])(HB:RC Tryz.prog 108 [ntD (.mk 15 c l t ps),iD 1] [fmD b])(s:Bool)(HN:FC Tryz.prog 113 [fmD c,iD 8,tmD t,fmD a] [bD s]):FC Tryz.prog 88 [ntD (.mk 15 c l t ps)] [bD (zbd t.name&&s)]:=by
 have HV:=zh0 t.name
 simp only[ntD,zbe,fmD,tmD,zab t,zaa a,zaa b,zaa c]at HA HB HN⊢
 cases e:zbd t.name
 ·rw[e]at HV;refine zad Tryz.call88 Tryz.func88 rfl Yo (zao Yo) ?_;simp -implicitDefEqProofs only[go_sem,Tryz.results88];refine drawn Yo ?_;simp -implicitDefEqProofs only[go_sem];refine zay HA Yn ?_;simp -implicitDefEqProofs only[go_sem];refine zay HB Yn ?_;simp -implicitDefEqProofs only[go_sem];refine⟨Yo,?_⟩;refine callF (HV) Yn ?_;simp -implicitDefEqProofs only[go_sem]
 ·rw[e]at HV;refine zad Tryz.call88 Tryz.func88 rfl Yo (zao Yo) ?_;simp -implicitDefEqProofs only[go_sem,Tryz.results88];refine drawn Yo ?_;simp -implicitDefEqProofs only[go_sem];refine zay HA Yn ?_;simp -implicitDefEqProofs only[go_sem];refine zay HB Yn ?_;simp -implicitDefEqProofs only[go_sem];refine⟨Yo,?_⟩;refine callF (HV) Yn ?_;simp -implicitDefEqProofs only[go_sem];refine callF (HN) Yn ?_;simp -implicitDefEqProofs only[go_sem]
theorem qum (c:Fm)(l:Int)(t:Tm)(ps:List Nt)(a b:Fm)(HA:RC Tryz.prog 108 [ntD (.mk 16 c l t ps),iD 0] [fmD a])(HB:RC Tryz.prog 108 [ntD (.mk 16 c l t ps),iD 1] [fmD b])(s:Bool)(HN:FC Tryz.prog 113 [fmD a,iD 8,tmD t,fmD c] [bD s]):FC Tryz.prog 88 [ntD (.mk 16 c l t ps)] [bD (s)]:=by
 simp only[ntD,zbe,fmD,tmD,zab t,zaa a,zaa b,zaa c]at HA HB HN⊢
 refine zad Tryz.call88 Tryz.func88 rfl Yo (zao Yo) ?_
 simp -implicitDefEqProofs only[go_sem,Tryz.results88]
 refine drawn Yo ?_
 simp -implicitDefEqProofs only[go_sem]
 refine zay HA Yn ?_
 simp -implicitDefEqProofs only[go_sem]
 refine zay HB Yn ?_
 simp -implicitDefEqProofs only[go_sem]
 refine⟨Yo,?_⟩
 refine callF (HN) Yn ?_
 simp -implicitDefEqProofs only[go_sem]
theorem qwe (c:Fm)(l:Int)(t:Tm)(ps:List Nt)(a b:Fm)(HA:RC Tryz.prog 108 [ntD (.mk 17 c l t ps),iD 0] [fmD a])(HB:RC Tryz.prog 108 [ntD (.mk 17 c l t ps),iD 1] [fmD b])(s:Bool)(HN:FC Tryz.prog 113 [fmD c,iD 9,tmD t,fmD a] [bD s]):FC Tryz.prog 88 [ntD (.mk 17 c l t ps)] [bD (s)]:=by
 simp only[ntD,zbe,fmD,tmD,zab t,zaa a,zaa b,zaa c]at HA HB HN⊢
 refine zad Tryz.call88 Tryz.func88 rfl Yo (zao Yo) ?_
 simp -implicitDefEqProofs only[go_sem,Tryz.results88]
 refine drawn Yo ?_
 simp -implicitDefEqProofs only[go_sem]
 refine zay HA Yn ?_
 simp -implicitDefEqProofs only[go_sem]
 refine zay HB Yn ?_
 simp -implicitDefEqProofs only[go_sem]
 refine⟨Yo,?_⟩
 refine callF (HN) Yn ?_
 simp -implicitDefEqProofs only[go_sem]
theorem qtk (c:Fm)(l:Int)(t:Tm)(ps:List Nt)(a b:Fm)(HA:RC Tryz.prog 108 [ntD (.mk 18 c l t ps),iD 0] [fmD a])(HB:RC Tryz.prog 108 [ntD (.mk 18 c l t ps),iD 1] [fmD b]):FC Tryz.prog 88 [ntD (.mk 18 c l t ps)] [bD (a.op==9&&same b c&&zbd t.name)]:=by
 have HV:=zh0 t.name
 have HE:=zcu b c
 simp only[ntD,zbe,fmD,tmD,zab t,zaa a,zaa b,zaa c]at HA HB HE⊢
 generalize same b c=s at HE⊢
 cases e:(a.op==9)
 ·refine zad Tryz.call88 Tryz.func88 rfl Yo (zao Yo) ?_;simp -implicitDefEqProofs only[go_sem,Tryz.results88];refine drawn Yo ?_;simp -implicitDefEqProofs only[go_sem];refine zay HA Yn ?_;simp -implicitDefEqProofs only[go_sem];refine zay HB (by simp -implicitDefEqProofs only[go_sem,e]) ?_;simp -implicitDefEqProofs only[go_sem,e];kernel_rfl
 ·cases s
  ·refine zad Tryz.call88 Tryz.func88 rfl Yo (zao Yo) ?_;simp -implicitDefEqProofs only[go_sem,Tryz.results88];refine drawn Yo ?_;simp -implicitDefEqProofs only[go_sem];refine zay HA Yn ?_;simp -implicitDefEqProofs only[go_sem];refine zay HB (by simp -implicitDefEqProofs only[go_sem,e]) ?_;simp -implicitDefEqProofs only[go_sem,e];refine⟨Yo,?_⟩;refine callF (HE) (by simp -implicitDefEqProofs only[go_sem,e]) ?_;simp -implicitDefEqProofs only[go_sem,e]
  ·refine zad Tryz.call88 Tryz.func88 rfl Yo (zao Yo) ?_;simp -implicitDefEqProofs only[go_sem,Tryz.results88];refine drawn Yo ?_;simp -implicitDefEqProofs only[go_sem];refine zay HA Yn ?_;simp -implicitDefEqProofs only[go_sem];refine zay HB (by simp -implicitDefEqProofs only[go_sem,e]) ?_;simp -implicitDefEqProofs only[go_sem,e];refine⟨Yo,?_⟩;refine callF (HE) (by simp -implicitDefEqProofs only[go_sem,e]) ?_;simp -implicitDefEqProofs only[go_sem,e];refine callF (HV) (by simp -implicitDefEqProofs only[go_sem,e]) ?_;simp -implicitDefEqProofs only[go_sem,e]
end
section
open Go.RowKit
noncomputable def spS (p:Nt):Bool :=
 let a:=(p.parts.map Nt.form).getD 0 zF
 let b:=(p.parts.map Nt.form).getD 1 zF
 let d:=(p.parts.map Nt.form).getD 2 zF
 let c:=p.form
 let t:=p.term
 if p.rule=2 then c.op==1
 else if p.rule=3 then a.op==2
 else if p.rule=4 then a.op==2
 else if p.rule=5 then same c (mkF 5 [a,b])
 else if p.rule=6 then a.op==5&&same c (a.parts.getD 0 (mkF 0 []))
 else if p.rule=7 then a.op==5&&same c (a.parts.getD 1 (mkF 0 []))
 else if p.rule=8 then c.op==6&&same a (c.parts.getD 0 (mkF 0 []))
 else if p.rule=9 then c.op==6&&same a (c.parts.getD 1 (mkF 0 []))
 else if p.rule=10 then a.op==6&&same b c&&same d c
 else if p.rule=11 then c.op==7&&same a (c.parts.getD 1 (mkF 0 []))
 else if p.rule=12 then same a (mkF 7 [b,c])
 else if p.rule=13 then c.op==4&&a.op==2
 else if p.rule=14 then c.op==2&&same a (mkF 4 [b])
 else if p.rule=15 then zbd t.name&&qhb c 8 t a
 else if p.rule=16 then qhb a 8 t c
 else if p.rule=17 then qhb c 9 t a
 else if p.rule=18 then a.op==9&&same b c&&zbd t.name
 else true
theorem qdj (p:Nt)(hw:Fit p)(h1:zbg p.rule=(p.parts.length:Int))(h2:p.form.forms=true)(hf:∀q∈p.parts,q.form.forms=true):FC Tryz.prog 88 [ntD p] [bD (spS p)]:=by
 have HA:=zew p 0
 have HB:=zew p 1
 have HC:=zew p 2
 obtain⟨r,c,l,t,ps⟩:=p
 have hwe:c.wt+t.wt+ps.length<=1048576:=hw.own
 have hf:∀q∈ps,q.form.forms=true:=hf
 have h1:zbg r=(ps.length:Int):=h1
 have h2:c.forms=true:=h2
 obtain⟨ac4,ac2,ac1⟩:=zgt h2
 obtain⟨n0,n2,n3,n1⟩:=zg4 h1
 have hcw:c.wt+t.wt<=1048576:=by omega
 have hqw:∀q∈ps,q.form.wt+t.wt<=1048576:=hw.part
 have hI:∀f q:Fm,∀op,(op=8\/op=9)->q.forms=true->q.wt+t.wt<=1048576->FC Tryz.prog 113 [fmD q,iD op,tmD t,fmD f] [bD (qhb q op t f)]:=fun f q op ho hq hs=>zpx q op t f fun e=>by
  have hp:q.parts≠[]:=fun hn=>by
   have:=(zgt hq).2.2 (by rw[e];exact ho);rw[hn]at this;cases this
  exact⟨hp,put_c q t hq hs hp⟩
 rcases zvi (r:=r) Yp with h|h|h|h|h|h|h|h|h|h|h|h|h|h|h|h|h|h<;>subst h
 ·exact step_1 c l t ps _ _ HA HB
 ·exact step_2 c l t ps _ _ HA HB
 ·exact step_3 c l t ps _ _ HA HB
 ·exact step_4 c l t ps _ _ HA HB
 ·exact step_5 c l t ps _ _ HA HB
 ·obtain⟨p0,rfl⟩:=zh5 (n1 (by decide));exact step_6 c l t _ _ _ HA HB fun e=>(zgt (hf p0 (Q9 ..))).2.1 (Or.inl e)
 ·obtain⟨p0,rfl⟩:=zh5 (n1 (by decide));exact step_7 c l t _ _ _ HA HB fun e=>(zgt (hf p0 (Q9 ..))).2.1 (Or.inl e)
 ·exact step_8 c l t ps _ _ HA HB fun e=>ac2 (Or.inr (Or.inl e))
 ·exact step_9 c l t ps _ _ HA HB fun e=>ac2 (Or.inr (Or.inl e))
 ·exact qwo c l t ps _ _ HA HB _ HC
 ·exact qtx c l t ps _ _ HA HB fun e=>ac2 (Or.inr (Or.inr e))
 ·exact qt9 c l t ps _ _ HA HB
 ·exact qs0 c l t ps _ _ HA HB
 ·exact qv5 c l t ps _ _ HA HB
 ·exact qtd c l t ps _ _ HA HB _ (hI _ _ 8 (Or.inl rfl) h2 hcw)
 ·obtain⟨p0,rfl⟩:=zh5 (n1 (by decide));exact qum c l t _ _ _ HA HB _ (hI _ _ 8 (Or.inl rfl) (hf p0 (Q9 ..)) (hqw p0 (Q9 ..)))
 ·exact qwe c l t ps _ _ HA HB _ (hI _ _ 9 (Or.inr rfl) h2 hcw)
 ·exact qtk c l t ps _ _ HA HB
noncomputable def woS (p:Nt)(i:Nat)(l:List An):List An×Bool:=if zcp p.rule i=true then (if(dsS p i).2=true then woG p.label (dsS p i).1 l else (l,false))else (l,true)
theorem woS_c (p:Nt)(hw:Fit p)(h1:zbg p.rule=(p.parts.length:Int))(h2:p.form.forms=true)(hf:∀q∈p.parts,q.form.forms=true)(hs:spS p=true)(i:Nat)(hi:i<p.parts.length)(l:List An)(hl:l.length<=1048576):RC Tryz.prog 89 [ntD p,iD i,.one (anS l)] [.one (anS (woS p i l).1),bD (woS p i l).2]:=by
 have key:zcp p.rule i=true->RC Tryz.prog 114 [ntD p,iD i] [fmD (dsS p i).1,bD (dsS p i).2]:=fun hd=>by
  obtain⟨r,c,l,t,ps⟩:=p;have hwe:c.wt+t.wt+ps.length<=1048576:=hw.own;have hwp:∀q∈ps,q.form.wt+t.wt<=1048576:=hw.part;have hf:∀q∈ps,q.form.forms=true:=hf;have hi:i<ps.length:=hi;have h1:zbg r=(ps.length:Int):=h1;have h2:c.forms=true:=h2;have hd:zcp r i=true:=hd;obtain⟨ac4,ac2,ac1⟩:=zgt h2;obtain⟨n0,n2,n3,n1⟩:=zg4 h1;have hr:r=4\/r=11\/r=13\/(r=10/\0<i)\/r=18:=by
   unfold zcp at hd;split at hd
   ·rename_i e;simp only[K5,Kk]at e;omega
   ·split at hd
    ·rename_i e;simp only[Kk]at e;simp only[K5,Kk]at hd;omega
    ·split at hd
     ·rename_i e;simp only[Kk]at e;omega
     ·cases hd
  rcases hr with h|h|h|⟨h,h0⟩|h<;>subst h
  ·obtain⟨p0,rfl⟩:=zh5 (n1 (by decide));exact zmz c l t p0 i
  ·obtain⟨p0,rfl⟩:=zh5 (n1 (by decide));have e:c.op=7:=by
    have h6:(c.op==7&&same p0.form (c.parts.getD 1 (mkF 0 [])))=true:=hs;rw[Qe,Kk]at h6;exact h6.1
   exact zgk c l t p0 i 11 (Or.inl rfl) (by rw[ac2 (Or.inr (Or.inr e))];omega)
  ·obtain⟨p0,rfl⟩:=zh5 (n1 (by decide));have e:c.op=4:=by
    have h6:(c.op==4&&p0.form.op==2)=true:=hs;rw[Qe,Kk]at h6;exact h6.1
   exact zgk c l t p0 i 13 (Or.inr rfl) (by rw[ac4 e];omega)
  ·obtain⟨p0,p1,p2,rfl⟩:=lnn3 (n3 (by decide));have e:p0.form.op=6:=by
    have h6:(p0.form.op==6&&same p1.form c&&same p2.form c)=true:=hs;rw[Qe,Qe,Kk]at h6;exact h6.1.1
   obtain⟨j,rfl⟩:∃j,i=j+1:=⟨i-1,Yp⟩;have hi:j+1<3:=hi;exact zkz c l t p0 p1 p2 j Yp ((zgt (hf p0 (Q9 ..))).2.1 (Or.inr (Or.inl e)))
  ·obtain⟨p0,p1,rfl⟩:=zvr (n2 (by decide));have e:p0.form.op=9:=by
    have h6:(p0.form.op==9&&same p1.form c&&zbd t.name)=true:=hs;rw[Qe,Qe,Kk]at h6;exact h6.1.1
   have hl:=(zgt (hf p0 (Q9 ..))).2.2 (Or.inr e);have hp:p0.form.parts≠[]:=fun hn=>by rw[hn]at hl;cases hl
   have e1:=hwp p0 (Q9 ..);have HU:=put_c p0.form t (hf p0 (Q9 ..)) Yp hp;rw[zkb]at HU;exact zk0 c l t p0 p1 i Yp _ _ HU
 have H:=zto p i l hl (dsS p i).1 (dsS p i).2 key
 have e:woS p i l=((if zcp p.rule i=true then (if(dsS p i).2=true then (woG p.label (dsS p i).1 l).1 else l)else l),(if zcp p.rule i=true then (if(dsS p i).2=true then (woG p.label (dsS p i).1 l).2 else false)else true)):=by
  unfold woS;split
  ·split<;>rfl
  ·rfl
 rw[e]
 exact H
end
section
open Go.RowKit
noncomputable def puL:List An->List An->List An×Bool
 | out,[]=>(out,true)
 | out,x::xs=>if(puS out x).2=true then puL (puS out x).1 xs else ((puS out x).1,false)
def frC (p:Nt)(i:Nat):Bool:=p.rule==15||(p.rule==18&&i==1)
noncomputable def znf (p:Nt):Nat->List An->List (List An)->List An×Bool
 | _,out,[]=>(out,true)
 | i,out,own::Ls=>if(woS p i own).2=true then (if(frC p i&&!(woS p i own).1.all fun a=>!frN p.term.name a.form)=true then (out,false)else if(puL out (woS p i own).1).2=true then znf p (i+1) (puL out (woS p i own).1).1 Ls else ((puL out (woS p i own).1).1,false))else (out,false)
def qcs (p:Nt):Bool:=(p.rule==15&&frN p.term.name p.form)||(p.rule==18&&(frN p.term.name p.form||frN p.term.name ((p.parts.map Nt.form).getD 0 zF)))
noncomputable def spR (p:Nt)(Ls:List (List An)):List An×Bool :=
 if(stS p&&spS p)=true then (if p.rule=1 then ([⟨p.label,p.form⟩],true)else if(znf p 0 [] Ls).2=true then ((znf p 0 [] Ls).1,!qcs p)else znf p 0 [] Ls)else ([],false)
noncomputable def goS (p:Nt)(pl:List Int):Nat->List (List Int->List An×List Int×Bool)->List (List An)->List An×List Int×Bool
 | _,[],acc=>((spR p acc).1,pl,(spR p acc).2)
 | i,f::fs,acc=>if(f (pl++[(i:Int)])).2.2=true then goS p pl (i+1) fs (acc++[(f (pl++[(i:Int)])).1])else f (pl++[(i:Int)])
noncomputable def spM:Nt->List Int->List An×List Int×Bool:=Nt.fold fun r f l t ps rs pl=>goS (.mk r f l t ps) pl 0 rs []
theorem qio (p:Nt)(pl:List Int):spM p pl=goS p pl 0 (p.parts.map spM) []:=by
 unfold spM
 rw[Nt.fold_eq,Nt.eta]
theorem zw7 {l:List An}{x:An}(hl:okA l)(hx:okF x.form/\1<=x.label/\x.label<=20)(h:(puS l x).2=true)(hs:(l.map An.label).Pairwise (·<·)):okA (puS l x).1/\((puS l x).1.map An.label).Pairwise (·<·)/\(∀a∈(puS l x).1,a∈l\/a=x):=by
 have key:((puS l x).1.map An.label).Pairwise (·<·)/\(∀a∈(puS l x).1,a∈l\/a=x):=by
  clear hl hx;induction l with
  | nil=>simp[puS]
  | cons a l ih =>
   rw[Qf,K9]at hs;unfold puS at h⊢;split
   ·rename_i hlt;rw[if_pos hlt]at h;obtain⟨k1,k2⟩:=ih h hs.2;refine⟨?_,fun b hb=>?_⟩
    ·rw[Qf,K9];refine⟨fun y hy=>?_,k1⟩;obtain⟨b,hb,rfl⟩:=Ka.1 hy;rcases k2 b hb with h|rfl
     ·exact hs.1 _ (Jt h)
     ·exact hlt
    ·rcases Qp.1 hb with rfl|hb
     ·exact Or.inl (by simp)
     ·rcases k2 b hb with h|h
      ·exact Or.inl (by simp[h])
      ·exact Or.inr h
   ·split
    ·refine⟨by rw[Qf,K9];exact hs,fun b hb=>Or.inl hb⟩
    ·rename_i h1 h2;refine⟨?_,fun b hb=>?_⟩
     ·rw[Qf,Qf,K9,K9];refine⟨fun y hy=>?_,hs⟩;rcases Qp.1 hy with rfl|hy
      ·show x.label<a.label;omega
      ·have:=hs.1 y hy;show x.label<y;omega
     ·rcases Qp.1 hb with rfl|hb
      ·exact Or.inr rfl
      ·exact Or.inl hb
 refine⟨⟨?_,fun a ha=>?_⟩,key⟩
 ·exact key.1.imp fun h=>by omega
 ·rcases key.2 a ha with h|rfl
  ·exact hl.2 a h
  ·exact hx
end
section
open Go.RowKit
def okZ (l:List An):Prop:=okA l/\(l.map An.label).Pairwise (·<·)
theorem zvt:okZ []:=⟨zmc,List.Pairwise.nil⟩
theorem zn0 {l:List An}(h:okZ l)(q:An->Bool):okZ (l.filter q):=⟨zhn h.1 q,h.2.sublist (List.Sublist.map _ (List.filter_sublist ..))⟩
theorem qj5 (lab:Int)(f:Fm):∀l:List An,(woG lab f l).2=true->(woG lab f l).1=l.filter fun a=>!(a.label==lab)
 | [],_=>rfl
 | a::l,h=>by
  by_cases h1:a.label=lab
  ·have e1:(!(a.label==lab))=false:=by simpa using h1
   rw[Jm,e1,if_neg (by simp)];have e2:woG lab f (a::l)=if same a.form f=true then woG lab f l else ([],false):=by rw[woG,if_neg (by simpa using h1)]
   rw[e2]at h⊢;by_cases h2:same a.form f=true
   ·rw[if_pos h2]at h⊢;exact qj5 lab f l h
   ·rw[if_neg h2]at h;cases h
  ·have e1:(!(a.label==lab))=true:=by simpa using h1
   rw[Jm,e1,if_pos rfl];have e2:woG lab f (a::l)=(a::(woG lab f l).1,(woG lab f l).2):=by rw[woG,if_pos h1]
   rw[e2]at h⊢;rw[qj5 lab f l h]
theorem qsl {p:Nt}{i:Nat}{l:List An}(h:(woS p i l).2=true):(woS p i l).1=l.filter fun a=>!(a.label==p.label&&zcp p.rule i):=by
 unfold woS at h⊢
 split
 ·rename_i hd;rw[if_pos hd]at h;rw[hd];split
  ·rename_i ho;rw[if_pos ho]at h;rw[qj5 _ _ _ h];simp only[K3]
  ·rename_i ho;rw[if_neg ho]at h;cases h
 ·rename_i hd;have:zcp p.rule i=false:=by simpa using hd
  rw[this];simp only[Ki,Qg];exact(List.filter_eq_self.2 fun _ _=>rfl).symm
theorem qr8 {p:Nt}{i:Nat}{l:List An}(hl:okZ l)(h:(woS p i l).2=true):okZ (woS p i l).1:=by
 rw[qsl h];exact zn0 hl _
theorem qg8:∀{xs out:List An},okZ out->okA xs->(puL out xs).2=true->okZ (puL out xs).1
 | [],out,ho,_,_=>ho
 | x::xs,out,ho,hx,h=>by
  unfold puL at h⊢;split
  ·rename_i h1;rw[if_pos h1]at h;obtain⟨k1,k2,_⟩:=zw7 ho.1 (hx.2 x (by simp)) h1 ho.2;exact qg8 ⟨k1,k2⟩ ⟨(Kp.1 hx.1).2,fun a ha=>hx.2 a (by simp[ha])⟩ h
  ·rename_i h1;rw[if_neg h1]at h;cases h
theorem qgi {p:Nt}:∀{Ls:List (List An)}{i:Nat}{out:List An},okZ out->(∀own∈Ls,okZ own)->(znf p i out Ls).2=true->okZ (znf p i out Ls).1
 | [],_,_,ho,_,_=>ho
 | own::Ls,i,out,ho,hL,h=>by
  unfold znf at h⊢;split
  ·rename_i h1;rw[if_pos h1]at h;split
   ·rename_i h2;rw[if_pos h2]at h;cases h
   ·rename_i h2;rw[if_neg h2]at h;split
    ·rename_i h3;rw[if_pos h3]at h;exact qgi (qg8 ho (qr8 (hL own (by simp)) h1).1 h3) (fun o ho=>hL o (by simp[ho])) h
    ·rename_i h3;rw[if_neg h3]at h;cases h
  ·rename_i h1;rw[if_neg h1]at h;cases h
theorem zyn {p:Nt}(h:stS p=true):zbg p.rule=(p.parts.length:Int)/\p.form.good=true/\qip p.rule=(p.label != 0)/\(qip p.rule=true->inB p.label 1 20=true)/\(if inB p.rule 15 18=true then p.term.good else p.term.none)=true:=by
 unfold stS at h
 simp only[Qe,Kk]at h
 obtain⟨h1,h2,h3,h4,h5⟩:=h
 refine⟨h1,h2,h3,fun e=>?_,h5⟩
 rw[e]at h4
 simpa using h4
theorem spR_ok {p:Nt}{Ls:List (List An)}(hw:Fit p)(hL:∀own∈Ls,okZ own)(h:(spR p Ls).2=true):okZ (spR p Ls).1/\p.form.good=true:=by
 unfold spR at h⊢
 split
 ·rename_i h1;rw[if_pos h1]at h;rw[Qe]at h1;obtain⟨s1,s2,s3,s4,s5⟩:=zyn h1.1;refine⟨?_,s2⟩;split
  ·rename_i h2;refine⟨⟨by simp[aNd],fun a ha=>?_⟩,by simp⟩;have ha:a∈[(⟨p.label,p.form⟩:An)]:=ha;rw[Qy]at ha;subst ha;have:=hw.own;have h3:=s4 (by rw[h2];rfl);simp only[inB,Qe,Kb]at h3;exact⟨⟨zbt s2,by show p.form.wt<=_;omega⟩,h3.1,h3.2⟩
  ·rename_i h2;rw[if_neg h2]at h;split
   ·rename_i h3;exact qgi zvt hL h3
   ·rename_i h3;rw[if_neg h3]at h;exact absurd h h3
 ·rename_i h1;rw[if_neg h1]at h;cases h
theorem qry {p:Nt}(hw:Fit p){pl:List Int}:∀(fs:List (List Int->List An×List Int×Bool))(i:Nat)(acc:List (List An)),(∀own∈acc,okZ own)->(∀f∈fs,∀pl,(f pl).2.2=true->okZ (f pl).1)->(goS p pl i fs acc).2.2=true->okZ (goS p pl i fs acc).1/\p.form.good=true
 | [],i,acc,ha,_,h=>spR_ok hw ha h
 | f::fs,i,acc,ha,hf,h=>by
  unfold goS at h⊢;split
  ·rename_i h1;rw[if_pos h1]at h
   exact qry hw fs (i+1) _ (fun o ho=>by
    rcases Qm.1 ho with k|k
    ·exact ha o k
    ·rw[Qy.1 k];exact hf f (by simp) _ h1) (fun g hg=>hf g (by simp[hg])) h
  ·rename_i h1;rw[if_neg h1]at h;exact absurd h h1
theorem qks:∀p:Nt,Fit p->∀pl,(spM p pl).2.2=true->okZ (spM p pl).1/\p.form.good=true :=
 zda fun r f l t ps ih hw pl h=>by
  rw[qio]at h⊢
  exact qry hw _ _ _ (fun o ho=>by cases ho) (fun g hg pl2 h2=>by
   obtain⟨q,hq,rfl⟩:=Ka.1 hg
   exact(ih q hq (hw.sub q hq) pl2 h2).1) h
end
section
open Go.RowKit
attribute [go_sem] qqa
theorem zyq (xs:List Int)(hl:xs.length<=4294967296):FC Tryz.prog 86 [.one (zd8 xs)] [.one (zd8 xs)]:=by
 refine zad Tryz.call86 Tryz.func86 rfl Yo (zao Yo) ?_
 simp -implicitDefEqProofs only[go_sem,Tryz.results86]
 refine za7 Yn ?_
 simp -implicitDefEqProofs only[go_sem]
 refine apD true (by simp -implicitDefEqProofs only[go_sem,ne_eq,Qa,Q5,hl]) ?_
 simp -implicitDefEqProofs only[go_sem,ne_eq,Qa,Q5,hl]
theorem qad (p:Nt)(pl:List Int)(hw:Fit p)(hpl:pl.length+p.wt<=2147483648)(H:∀x∈p.parts,∀pl:List Int,pl.length+x.wt<=2147483648->RC Tryz.prog 52 [ntD x,.one (zd8 pl)] [.one (anS (spM x pl).1),.one (zd8 (spM x pl).2.1),bD (spM x pl).2.2]) :
  RC Tryz.prog 52 [ntD p,.one (zd8 pl)] [.one (anS (spM p pl).1),.one (zd8 (spM p pl).2.1),bD (spM p pl).2.2]:=by
 have hl:p.parts.length<=1048576:=by have:=hw.own;omega
 have hwa:=hw.all
 have HOwn:=zyq pl Yp
 simp only[ntD,zaj p]at⊢
 refine RC.ofX ?_
 refine zoj Tryz.call52 Tryz.func52 rfl (zao Yo) ?_
 refine zb6.cut 3 rfl Yo ?_
 simp -implicitDefEqProofs only[go_sem,Tryz.results52]
 refine zcc Yn ?_
 simp -implicitDefEqProofs only[go_sem]
 refine zag (fun x:Nat×List (List An)=>hd [(1,.one (.rn (zd8 pl))),(2,.one (.bx 2 0)),(7,.one (.ow 544 0)),(8,vI x.1)] [(2,ntR p)] [(544,⟨false,1,x.2.map fun own=>[anS own],0,true⟩)])
  (fun x=>x.1<=p.parts.length/\x.2.length=x.1/\spM p pl=goS p pl x.1 ((p.parts.drop x.1).map spM) x.2/\(∀own∈x.2,okZ own)/\∀q∈p.parts.take x.1,q.form.forms=true) (fun x=>p.parts.length-x.1) (0,[]) (zac ?_) ⟨Kd _,rfl,qio p pl,(fun o ho=>by cases ho),fun q hq=>by cases hq⟩ ?_
 ·simp -implicitDefEqProofs only[go_sem,Qo]
 rintro⟨k,acc⟩ ⟨hk,hlk,hm,hok,hf⟩
 simp only at hk hlk hm hf⊢
 by_cases hlt:k<p.parts.length
 ·have hmem:p.parts[k]∈p.parts:=Qj hlt;have hqw:=zd6 hmem;have Hk:=H _ hmem (pl++[(k:Int)]) (by rw[Qu,List.length_singleton];omega);have hio:=qks p.parts[k] (hw.sub _ hmem) (pl++[(k:Int)]);rw[Qh hlt,Qf,goS]at hm;have htk:p.parts.take (k+1)=p.parts.take k++[p.parts[k]]:=Qk hlt;simp -implicitDefEqProofs only[go_sem,hlt,Qa];refine drawn Yo ?_;simp -implicitDefEqProofs only[go_sem,zan,hlt,zaj p.parts[k],Qa];generalize hq:p.parts[k]=q at *;generalize spM q (pl++[(k:Int)])=res at *;simp only[ntD,zaj q,zd8,Q2,Qf,Qo]at Hk;have hpl2:pl.length<=4294967295:=by omega
  refine zav (HOwn) Yn ?_;simp -implicitDefEqProofs only[go_sem];refine zb9 Yn ?_;simp -implicitDefEqProofs only[go_sem];refine zjp true (by simp -implicitDefEqProofs only[go_sem,ne_eq,Q6,Qa,hpl2]) ?_;simp -implicitDefEqProofs only[go_sem,ne_eq,Q6,Qa,hpl2];refine zwq 1024 Hk Yn ?_;simp -implicitDefEqProofs only[go_sem];refine⟨Yo,?_⟩;obtain⟨r1,r2,r3⟩:=res;cases r3
  ·simp -implicitDefEqProofs only[go_sem,Qg];rw[if_neg (by simp)]at hm;exact⟨_,rfl,by simp -implicitDefEqProofs only[go_sem];rw[hm];exact⟨rfl,rfl,rfl⟩⟩
  ·rw[if_pos rfl]at hm;obtain⟨ho1,ho2⟩:=hio rfl;simp -implicitDefEqProofs only[go_sem,Qb];refine zcc Yn ?_;simp -implicitDefEqProofs only[go_sem];have hkl:acc.length<=4294967295:=by omega
   refine apD false (by simp -implicitDefEqProofs only[go_sem,ne_eq,Q6,Qa,hkl]) ?_;simp -implicitDefEqProofs only[go_sem,ne_eq,Q6,Qa,hkl];rw[zap Yp];refine⟨(k+1,acc++[r1]),⟨hlt,by simp[hlk],hm,fun o ho=>?_,fun x hx=>?_⟩,by simp only;omega,zac ?_⟩
   ·rcases Qm.1 ho with h|h
    ·exact hok o h
    ·rw[Qy.1 h];exact ho1
   ·rw[htk]at hx;rcases Qm.1 hx with h|h
    ·exact hf x h
    ·rw[Qy.1 h];exact zbt ho2
   ·simp -implicitDefEqProofs only[go_sem,Q2,Qf,Qo]
 ·have hke:k=p.parts.length:=by omega
  subst hke;rw[Kv]at hf;rw[Yf]at hm;have hm:spM p pl=((spR p acc).1,pl,(spR p acc).2):=hm
  have HF:=zuz p hw (by
   rw[Kl,zbj];obtain⟨n,xs⟩:=p.term;simp[Tm.none]
   exact Iff.rfl)
  simp only[ntD,zaj p]at HF;simp -implicitDefEqProofs only[go_sem,hlt,Qa];refine zcc Yn ?_;simp -implicitDefEqProofs only[go_sem];refine zb6.cut 1 rfl Yo ?_;simp -implicitDefEqProofs only[go_sem];cases hst:stS p
  ·rw[hst]at HF;have hr:spR p acc=([],false):=by unfold spR;rw[hst];rfl
   rw[hr]at hm;refine callR (HF) (by simp -implicitDefEqProofs only[go_sem,Qg]) ?_;simp -implicitDefEqProofs only[go_sem,Qg];exact⟨_,rfl,by simp -implicitDefEqProofs only[go_sem];rw[hm];exact⟨rfl,rfl,rfl⟩⟩
  ·rw[hst]at HF;obtain⟨s1,s2,s3,s4,s5⟩:=zyn hst;have HS:=qdj p hw s1 (zbt s2) hf;simp only[ntD,zaj p]at HS;cases hsp:spS p
   ·rw[hsp]at HS;have hr:spR p acc=([],false):=by unfold spR;rw[hsp,Ki];rfl
    rw[hr]at hm;refine callR (HF) (by simp -implicitDefEqProofs only[go_sem,Qb]) ?_;simp -implicitDefEqProofs only[go_sem,Qb];refine callF (HS) (by simp -implicitDefEqProofs only[go_sem,Qg]) ?_;simp -implicitDefEqProofs only[go_sem,Qg];exact⟨_,rfl,by simp -implicitDefEqProofs only[go_sem];rw[hm];exact⟨rfl,rfl,rfl⟩⟩
   ·rw[hsp]at HS;refine callR (HF) (by simp -implicitDefEqProofs only[go_sem,Qb]) ?_;simp -implicitDefEqProofs only[go_sem,Qb];refine callF (HS) (by simp -implicitDefEqProofs only[go_sem,Qb]) ?_;simp -implicitDefEqProofs only[go_sem,Qb];by_cases h1:p.rule=1
    ·have h1b:(p.rule==1)=true:=by simpa using h1
     have hr:spR p acc=([⟨p.label,p.form⟩],true):=by unfold spR;rw[hst,hsp,Bool.and_self,if_pos rfl,if_pos h1]
     rw[hr]at hm;simp -implicitDefEqProofs only[go_sem,h1b];refine zcc Yn ?_;simp -implicitDefEqProofs only[go_sem];exact⟨_,rfl,by simp -implicitDefEqProofs only[go_sem];rw[hm];exact⟨rfl,rfl,rfl⟩⟩
    ·have h1b:(p.rule==1)=false:=by simpa using h1
     have hr:spR p acc=if(znf p 0 [] acc).2=true then ((znf p 0 [] acc).1,!qcs p)else znf p 0 [] acc:=by unfold spR;rw[hst,hsp,Bool.and_self,if_pos rfl,if_neg h1]
     simp -implicitDefEqProofs only[go_sem,h1b];refine zb6.seq ?_;refine zb6.cut 0 rfl Yo ?_;simp -implicitDefEqProofs only[go_sem];refine zb6.block ?_;refine zb6.loop (fun x:Nat×List An=>hd [(1,.one (.rn (zd8 pl))),(2,.one (.bx 2 0)),(7,.one (.ow 544 0)),(12,vT (anS x.2)),(13,vI x.1)] [(2,ntR p)] [(544,⟨false,1,acc.map fun own=>[anS own],0,true⟩)])
      (fun x=>x.1<=acc.length/\okZ x.2/\znf p 0 [] acc=znf p x.1 x.2 (acc.drop x.1)) (fun x=>acc.length-x.1) (0,[]) (Wk.trans (qts (e:=1536) (x:=⟨false,6,[],0,true⟩) Yn rfl rfl) (zac ?_)) ⟨Kd _,zvt,rfl⟩ ?_
     ·simp -implicitDefEqProofs only[go_sem,Qo];rfl
     rintro⟨k,out⟩ ⟨hk2,hoz,hnd⟩;simp only at hk2 hoz hnd⊢;have hol:=zjx hoz.1;by_cases hlt2:k<acc.length
     ·have hown:=hok _ (Qj hlt2);have hownl:=zjx hown.1;have HW:=woS_c p hw s1 (zbt s2) hf hsp k Yp acc[k] Yp;have hwo:=fun h=>qr8 (p:=p) (i:=k) hown h;rw[Qh hlt2,znf]at hnd;refine zb6.cut 0 rfl Yo ?_;simp -implicitDefEqProofs only[go_sem,hlt2,Qa];refine zb6.seq ?_;refine zb6.block ?_;refine zb6.cut 1 rfl Yo ?_;simp -implicitDefEqProofs only[go_sem];refine drawn Yo ?_;simp -implicitDefEqProofs only[go_sem,hlt2,Qa,zan];generalize woS p k acc[k]=res at HW hwo hnd;obtain⟨w1,w2⟩:=res;simp only at hwo hnd HW;simp only[ntD,zaj p]at HW;refine zay HW Yn ?_;simp -implicitDefEqProofs only[go_sem];refine⟨Yo,?_⟩;cases w2
      ·rw[if_neg (by simp)]at hnd;have hr2:spR p acc=(out,false):=by rw[hr,hnd,if_neg (by simp)]
       rw[hr2]at hm;simp -implicitDefEqProofs only[go_sem,Qg];exact⟨_,rfl,by simp -implicitDefEqProofs only[go_sem];rw[hm];exact⟨rfl,rfl,rfl⟩⟩
      ·rw[if_pos rfl]at hnd;have hw1:=hwo rfl;have hw1l:=zjx hw1.1;simp -implicitDefEqProofs only[go_sem,Qb];have HFr:=qaw w1 p.term.name (fun a ha=>(hw1.1.2 a ha).1) Yp;generalize (w1.all fun a=>!frN p.term.name a.form)=fr at HFr hnd;have hki:((k:Int)==1)=(k==1):=by rw[Kl];simp only[Kk];omega
       cases hfc:(frC p k&&!fr)
       ·rw[hfc,if_neg (by simp)]at hnd;refine zb6.join (hd [(1,.one (.rn (zd8 pl))),(2,.one (.bx 2 0)),(7,.one (.ow 544 0)),(12,vT (anS out)),(13,vI k),(14,vT (anS w1))] [(2,ntR p)] [(544,⟨false,1,acc.map fun own=>[anS own],0,true⟩)]) Yo ?_ ?_
        ·cases e15:(p.rule==15)
         ·cases e18:(p.rule==18)
          ·simp -implicitDefEqProofs only[go_sem,e15,e18];refine zac ?_;simp -implicitDefEqProofs only[go_sem]
          ·cases ek:(k==1)
           ·simp -implicitDefEqProofs only[go_sem,e15,e18,hki,ek];refine zac ?_;simp -implicitDefEqProofs only[go_sem]
           ·have hfr:fr=true:=by unfold frC at hfc;rw[e15,e18,ek]at hfc;simpa using hfc
            rw[hfr]at HFr;simp -implicitDefEqProofs only[go_sem,e15,e18,hki,ek];refine callF (HFr) (by simp -implicitDefEqProofs only[go_sem,Qb]) ?_;simp -implicitDefEqProofs only[go_sem,Qb];refine zac ?_;simp -implicitDefEqProofs only[go_sem]
         ·have hfr:fr=true:=by unfold frC at hfc;rw[e15]at hfc;simpa using hfc
          rw[hfr]at HFr;simp -implicitDefEqProofs only[go_sem,e15];refine callF (HFr) (by simp -implicitDefEqProofs only[go_sem,Qb]) ?_;simp -implicitDefEqProofs only[go_sem,Qb];refine zac ?_;simp -implicitDefEqProofs only[go_sem]
        ·refine zb6.cut 0 rfl Yo ?_;simp -implicitDefEqProofs only[go_sem];refine zb6.block ?_;refine zb6.loop (fun x:Nat×List An=>hd [(1,.one (.rn (zd8 pl))),(2,.one (.bx 2 0)),(7,.one (.ow 544 0)),(12,vT (anS x.2)),(13,vI k),(14,vT (anS w1)),(16,vI x.1)] [(2,ntR p)] [(544,⟨false,1,acc.map fun own=>[anS own],0,true⟩)])
          (fun x=>x.1<=w1.length/\okZ x.2/\puL out w1=puL x.2 (w1.drop x.1)) (fun x=>w1.length-x.1) (0,out) (zac ?_) ⟨Kd _,hoz,rfl⟩ ?_
         ·simp -implicitDefEqProofs only[go_sem]
         rintro⟨j,o3⟩ ⟨hj,ho3,hpu⟩;simp only at hj ho3 hpu⊢;by_cases hlj:j<w1.length
         ·have ho3l:=zjx ho3.1;have HPu:=qmz o3 w1[j] Yp;rw[Qh hlj,puL]at hpu;have hx:=hw1.1.2 w1[j] (Qj hlj);have hpo:=fun h=>zw7 ho3.1 hx h ho3.2;refine zb6.cut 0 rfl Yo ?_;simp -implicitDefEqProofs only[go_sem,hlj,Qa];refine zb6.seq ?_;refine zb6.block ?_;refine zb6.ofEx Yo ?_;simp -implicitDefEqProofs only[go_sem,zan,hlj,Qa,zcb w1[j]];generalize puS o3 w1[j]=res at HPu hpu hpo;obtain⟨u1,u2⟩:=res;simp only[anD,zcb w1[j]]at HPu;refine callR (HPu) Yn ?_;simp -implicitDefEqProofs only[go_sem];cases u2
          ·rw[if_neg (by simp)]at hpu;have hr2:spR p acc=(u1,false):=by rw[hr,hnd,hpu];rfl
           rw[hr2]at hm;simp -implicitDefEqProofs only[go_sem,Qg];exact⟨_,rfl,by simp -implicitDefEqProofs only[go_sem];rw[hm];exact⟨rfl,rfl,rfl⟩⟩
          ·rw[if_pos rfl]at hpu;obtain⟨k1,k2,_⟩:=hpo rfl;simp -implicitDefEqProofs only[go_sem,Qb];refine zb6.ofEx Yo ?_;simp -implicitDefEqProofs only[go_sem];rw[zap Yp];exact⟨(j+1,u1),⟨hlj,⟨k1,k2⟩,hpu⟩,by simp only;omega,zac Yn⟩
         ·rw[Qt Yp,puL]at hpu;rw[hpu,if_pos rfl]at hnd;refine zb6.cut 0 rfl Yo ?_;simp -implicitDefEqProofs only[go_sem,hlj,Qa];refine zb6.ofEx Yo ?_;simp -implicitDefEqProofs only[go_sem];rw[zap Yp];exact⟨(k+1,o3),⟨hlt2,ho3,hnd⟩,by simp only;omega,zac Yn⟩
       ·rw[hfc,if_pos rfl]at hnd;have hr2:spR p acc=(out,false):=by rw[hr,hnd,if_neg (by simp)]
        rw[hr2]at hm;have hfr:fr=false:=by cases fr with|false=>rfl|true=>simp at hfc
        rw[hfr]at HFr;refine zb6.cut 0 rfl Yo ?_;cases e15:(p.rule==15)
        ·have h2:(p.rule==18)=true/\(k==1)=true:=by unfold frC at hfc;rw[e15,Kt,Qe,Qe]at hfc;exact hfc.1
         simp -implicitDefEqProofs only[go_sem,e15,h2.1,hki,h2.2];refine callF (HFr) (by simp -implicitDefEqProofs only[go_sem,Qg]) ?_;simp -implicitDefEqProofs only[go_sem,Qg];exact⟨_,rfl,by simp -implicitDefEqProofs only[go_sem];rw[hm];exact⟨rfl,rfl,rfl⟩⟩
        ·simp -implicitDefEqProofs only[go_sem,e15];refine callF (HFr) (by simp -implicitDefEqProofs only[go_sem,Qg]) ?_;simp -implicitDefEqProofs only[go_sem,Qg];exact⟨_,rfl,by simp -implicitDefEqProofs only[go_sem];rw[hm];exact⟨rfl,rfl,rfl⟩⟩
     ·have hke2:k=acc.length:=by omega
      rw[hke2,Yf,znf]at hnd;have hr3:spR p acc=(out,!qcs p):=by rw[hr,hnd,if_pos rfl]
      rw[hr3]at hm;have HFc:=zlj p.form (zbt s2) (by have:=hw.own;omega);have HIc:=zof (zbl [] (vf p.form [])) p.term.name;have hbc:frN p.term.name p.form=(zbl [] (vf p.form [])).contains p.term.name:=rfl;generalize zbl [] (vf p.form [])=xc at HFc HIc hbc;simp only[fmD,zaa p.form]at HFc;refine zb6.cut 0 rfl Yo ?_;simp -implicitDefEqProofs only[go_sem,hlt2,Qa];refine zb6.ofEx Yo ?_;simp -implicitDefEqProofs only[go_sem];refine drawn Yo ?_;cases e15:(p.rule==15)
      ·cases e18:(p.rule==18)
       ·have he:qcs p=false:=by unfold qcs;rw[e15,e18];rfl
        rw[he]at hm;simp -implicitDefEqProofs only[go_sem,e15];refine⟨Yo,?_⟩;refine drawn Yo ?_;simp -implicitDefEqProofs only[go_sem,e18];exact⟨Yo,_,rfl,by simp -implicitDefEqProofs only[go_sem];rw[hm];exact⟨rfl,rfl,rfl⟩⟩
       ·have hp2:p.parts.length=2:=(zg4 s1).2.1 (Or.inr (Or.inr (Or.inr (by simpa using e18))));obtain⟨q0,q1,hps⟩:=zvr hp2;have hq0:q0∈p.parts:=by rw[hps];simp
        have hq0w:=zd6 hq0;have HFa:=zlj q0.form (hf q0 hq0) (by have:=hw.part q0 hq0;omega);have HIa:=zof (zbl [] (vf q0.form [])) p.term.name;have hba:frN p.term.name q0.form=(zbl [] (vf q0.form [])).contains p.term.name:=rfl;generalize zbl [] (vf q0.form [])=xa at HFa HIa hba;simp only[fmD,zaa q0.form]at HFa;have he:qcs p=(xc.contains p.term.name||xa.contains p.term.name):=by
         unfold qcs;rw[e15,e18,Q1,Kt,Qs,hbc,hps,<-hba];rfl
        rw[he]at hm;simp -implicitDefEqProofs only[go_sem,e15];refine⟨Yo,?_⟩;refine drawn Yo ?_;cases hc:xc.contains p.term.name
        ·rw[hc]at HIc hm;cases hx:xa.contains p.term.name
         ·rw[hx]at HIa hm;simp -implicitDefEqProofs only[go_sem,e18,hps,Qf,Qo];refine zaz (HFc) (by simp -implicitDefEqProofs only[go_sem,e18,hps,Qf,Qo]) ?_;simp -implicitDefEqProofs only[go_sem,e18,hps,Qf,Qo];refine zaz (HIc) (by simp -implicitDefEqProofs only[go_sem,e18,hps,Qf,Qo,zaj q0]) ?_;simp -implicitDefEqProofs only[go_sem,e18,hps,Qf,Qo,zaj q0];refine zaz (HFa) Yn ?_;simp -implicitDefEqProofs only[go_sem];refine zaz (HIa) Yn ?_;simp -implicitDefEqProofs only[go_sem];exact⟨Yo,_,rfl,by simp -implicitDefEqProofs only[go_sem];rw[hm];exact⟨rfl,rfl,rfl⟩⟩
         ·rw[hx]at HIa hm;simp -implicitDefEqProofs only[go_sem,e18,hps,Qf,Qo];refine zaz (HFc) (by simp -implicitDefEqProofs only[go_sem,e18,hps,Qf,Qo]) ?_;simp -implicitDefEqProofs only[go_sem,e18,hps,Qf,Qo];refine zaz (HIc) (by simp -implicitDefEqProofs only[go_sem,e18,hps,Qf,Qo,zaj q0]) ?_;simp -implicitDefEqProofs only[go_sem,e18,hps,Qf,Qo,zaj q0];refine zaz (HFa) Yn ?_;simp -implicitDefEqProofs only[go_sem];refine zaz (HIa) Yn ?_;simp -implicitDefEqProofs only[go_sem];exact⟨Yo,_,rfl,by simp -implicitDefEqProofs only[go_sem];rw[hm];exact⟨rfl,rfl,rfl⟩⟩
        ·rw[hc]at HIc hm;simp -implicitDefEqProofs only[go_sem,e18];refine zaz (HFc) (by simp -implicitDefEqProofs only[go_sem,e18]) ?_;simp -implicitDefEqProofs only[go_sem,e18];refine zaz (HIc) (by simp -implicitDefEqProofs only[go_sem,e18]) ?_;simp -implicitDefEqProofs only[go_sem,e18];exact⟨Yo,_,rfl,by simp -implicitDefEqProofs only[go_sem];rw[hm];exact⟨rfl,rfl,rfl⟩⟩
      ·have e18:(p.rule==18)=false:=by
        have:p.rule=15:=by simpa using e15
        rw[this];rfl
       have he:qcs p=xc.contains p.term.name:=by unfold qcs;rw[e15,e18,Qs,Q1,Yj,hbc]
       rw[he]at hm;cases hc:xc.contains p.term.name
       ·rw[hc]at HIc hm;simp -implicitDefEqProofs only[go_sem,e15];refine zaz (HFc) (by simp -implicitDefEqProofs only[go_sem,e15]) ?_;simp -implicitDefEqProofs only[go_sem,e15];refine zaz (HIc) (by simp -implicitDefEqProofs only[go_sem,e15]) ?_;simp -implicitDefEqProofs only[go_sem,e15];refine⟨Yo,?_⟩;refine drawn Yo ?_;simp -implicitDefEqProofs only[go_sem,e18];exact⟨Yo,_,rfl,by simp -implicitDefEqProofs only[go_sem];rw[hm];exact⟨rfl,rfl,rfl⟩⟩
       ·rw[hc]at HIc hm;simp -implicitDefEqProofs only[go_sem,e15];refine zaz (HFc) (by simp -implicitDefEqProofs only[go_sem,e15]) ?_;simp -implicitDefEqProofs only[go_sem,e15];refine zaz (HIc) (by simp -implicitDefEqProofs only[go_sem,e15]) ?_;simp -implicitDefEqProofs only[go_sem,e15];exact⟨Yo,_,rfl,by simp -implicitDefEqProofs only[go_sem];rw[hm];exact⟨rfl,rfl,rfl⟩⟩
theorem zmh:∀p:Nt,Fit p->∀pl:List Int,pl.length+p.wt<=2147483648->RC Tryz.prog 52 [ntD p,.one (zd8 pl)] [.one (anS (spM p pl).1),.one (zd8 (spM p pl).2.1),bD (spM p pl).2.2] :=
 zda fun r f l t ps ih hw pl hpl=>qad (.mk r f l t ps) pl hw hpl fun x hx pl2 h2=>ih x hx (hw.sub x hx) pl2 h2
end
section
open Go.RowKit
noncomputable def valS (p:Nt):Bool:=!decide (zd9 p 60>60)&&(spM p []).2.2
theorem ztl (p:Nt)(hw:Fit p):RC Tryz.prog 44 [ntD p] [bD (valS p)]:=by
 have HN:=zsk p (by have:=hw.all;omega) 60 Yp Yp
 have HO:=zmh p hw [] (by have:=hw.all;simp;omega)
 unfold valS
 generalize spM p []=res at HO⊢
 obtain⟨r1,r2,r3⟩:=res
 simp only[ntD,zaj p,zd8,Qo]at HN HO⊢
 by_cases hs:zd9 p 60>60
 ·refine zbo Tryz.call44 Tryz.func44 rfl Yo (zao Yo) ?_;simp -implicitDefEqProofs only[go_sem,Tryz.results44];refine callF (HN) (by simp -implicitDefEqProofs only[go_sem,hs,Jv]) ?_;simp -implicitDefEqProofs only[go_sem,hs,Jv]
  try simp[hs]
 ·refine zbo Tryz.call44 Tryz.func44 rfl Yo (zao Yo) ?_;simp -implicitDefEqProofs only[go_sem,Tryz.results44];refine callF (HN) (by simp -implicitDefEqProofs only[go_sem,hs,Jh]) ?_;simp -implicitDefEqProofs only[go_sem,hs,Jh];refine zi8 Yn ?_;simp -implicitDefEqProofs only[go_sem];refine callR (HO) Yn ?_;simp -implicitDefEqProofs only[go_sem]
  try simp[hs]
theorem zjh (p:Nt)(hw:Fit p):RC Tryz.prog 12 [ntD p] [bD (valS p)]:=by
 have HG:=ztl p hw
 simp only[ntD,zaj p]at HG⊢
 refine zbo Tryz.call12 Tryz.func12 rfl Yo (zao Yo) ?_
 simp -implicitDefEqProofs only[go_sem,Tryz.results12]
 refine callR (HG) Yn ?_
 simp -implicitDefEqProofs only[go_sem]
noncomputable def fwS (p:Nt):List Int×Bool×Bool:=if zd9 p 60>60 then ([],false,false)else if(spM p []).2.2=true then ([],false,true)else ((spM p []).2.1,true,true)
theorem zjg (p:Nt)(hw:Fit p):RC Tryz.prog 16 [ntD p] [.one (zd8 (fwS p).1),bD (fwS p).2.1,bD (fwS p).2.2]:=by
 have HN:=zsk p (by have:=hw.all;omega) 60 Yp Yp
 have HO:=zmh p hw [] (by have:=hw.all;simp;omega)
 unfold fwS
 generalize spM p []=res at HO⊢
 obtain⟨r1,r2,r3⟩:=res
 simp only[ntD,zaj p]at HN HO⊢
 have e0:zd8 []=.sl 1 []:=rfl
 rw[e0]at HO
 by_cases hs:zd9 p 60>60
 ·rw[if_pos hs];refine zbo Tryz.call16 Tryz.func16 rfl Yo (zao Yo) ?_;simp -implicitDefEqProofs only[go_sem,Tryz.results16];refine callF (HN) (by simp -implicitDefEqProofs only[go_sem,hs,Jv]) ?_;simp -implicitDefEqProofs only[go_sem,hs,Jv];refine zi8 Yn ?_;simp -implicitDefEqProofs only[go_sem];rfl
 ·rw[if_neg hs];cases r3
  ·refine zbo Tryz.call16 Tryz.func16 rfl Yo (zao Yo) ?_;simp -implicitDefEqProofs only[go_sem,Tryz.results16];refine callF (HN) (by simp -implicitDefEqProofs only[go_sem,hs,Jh]) ?_;simp -implicitDefEqProofs only[go_sem,hs,Jh];refine zi8 Yn ?_;simp -implicitDefEqProofs only[go_sem];refine callR (HO) Yn ?_;simp -implicitDefEqProofs only[go_sem]
  ·refine zbo Tryz.call16 Tryz.func16 rfl Yo (zao Yo) ?_;simp -implicitDefEqProofs only[go_sem,Tryz.results16];refine callF (HN) (by simp -implicitDefEqProofs only[go_sem,hs,Jh]) ?_;simp -implicitDefEqProofs only[go_sem,hs,Jh];refine zi8 Yn ?_;simp -implicitDefEqProofs only[go_sem];refine callR (HO) Yn ?_;simp -implicitDefEqProofs only[go_sem];refine zi8 Yn ?_;simp -implicitDefEqProofs only[go_sem];rfl
end
section
open Go.RowKit
theorem qua (r:Int):qip r=zei r:=by
 unfold qip zei zbh zcp
 by_cases h4:r=4
 ·subst h4;rfl
 by_cases h10:r=10
 ·subst h10;rfl
 by_cases h11:r=11
 ·subst h11;rfl
 by_cases h13:r=13
 ·subst h13;rfl
 by_cases h18:r=18
 ·subst h18;rfl
 have e4:(r==4)=false:=by simpa using h4
 have e10:(r==10)=false:=by simpa using h10
 have e11:(r==11)=false:=by simpa using h11
 have e13:(r==13)=false:=by simpa using h13
 have e18:(r==18)=false:=by simpa using h18
 simp[e4,e10,e11,e13,e18]
theorem qlg (p:Nt):stI p true=stS p:=by
 unfold stI stS
 rw[qua,K3]
 generalize zei p.rule=lb
 congr 2
 rw[<-Bool.and_assoc,<-Bool.and_assoc]
 congr 1
 cases hi:inB p.label 1 20
 ·cases lb<;>by_cases h:p.label=0<;>simp[h,bne]
 ·have h:p.label≠0:=by
   unfold inB at hi;simp only[Qe,Kb]at hi;omega
  cases lb<;>simp[h,bne]
theorem qfm (p:Nt):decide (zeg p>60)=decide (zd9 p 60>60):=by
 have h1:=qo3 p
 have h2:=qma p 60
 rw[Js]at h1 h2⊢
 have h2:zd9 p 60<=60↔p.nodes<=60:=h2
 omega
theorem qqz (r:Int)(i n:Nat)(h:zbg r=n)(hi:i<n):zcp r i=zbh r i:=by
 obtain⟨n0,n2,n3,n1⟩:=zg4 h
 unfold zcp zbh
 by_cases h4:r=4
 ·have:=n1 Yp;subst h4;obtain rfl:i=0:=by omega
  rfl
 by_cases h11:r=11
 ·have:=n1 Yp;subst h11;obtain rfl:i=0:=by omega
  rfl
 by_cases h13:r=13
 ·have:=n1 Yp;subst h13;obtain rfl:i=0:=by omega
  rfl
 by_cases h10:r=10
 ·have:=n3 h10;subst h10;obtain rfl|rfl|rfl:i=0\/i=1\/i=2:=by omega
  ·rfl
  ·rfl
  ·rfl
 by_cases h18:r=18
 ·have:=n2 Yp;subst h18;obtain rfl|rfl:i=0\/i=1:=by omega
  ·rfl
  ·rfl
 have e4:(r==4)=false:=by simpa using h4
 have e10:(r==10)=false:=by simpa using h10
 have e11:(r==11)=false:=by simpa using h11
 have e13:(r==13)=false:=by simpa using h13
 have e18:(r==18)=false:=by simpa using h18
 simp[e4,e10,e11,e13,e18]
theorem qsq (lab:Int)(f:Fm):∀l:List An,(woG lab f l).2=l.all fun a=>!(a.label==lab)||same a.form f
 | []=>rfl
 | a::l=>by
  have ih:=qsq lab f l;by_cases h1:a.label=lab
  ·have e2:woG lab f (a::l)=if same a.form f=true then woG lab f l else ([],false):=by rw[woG,if_neg (by simpa using h1)]
   rw[e2,Kq,show(a.label==lab)=true by simpa using h1];cases hs:same a.form f
   ·rfl
   ·rw[if_pos rfl,ih];rfl
  ·have e2:woG lab f (a::l)=(a::(woG lab f l).1,(woG lab f l).2):=by rw[woG,if_pos h1]
   rw[e2,Kq,show(a.label==lab)=false by simpa using h1];show(woG lab f l).2=_
   rw[ih];rfl
end
section
open Go.RowKit
theorem zjw (a:An)(l:List An)(k:Int):zeo (a::l) k=if a.label=k then some a.form else zeo l k:=by
 unfold zeo
 rw[List.find?_cons]
 by_cases h:a.label=k
 ·rw[if_pos h,show(a.label==k)=true by simpa using h];rfl
 ·rw[if_neg h,show(a.label==k)=false by simpa using h]
theorem zz1 (x:An):∀l:List An,(l.map An.label).Pairwise (·<·)->(zeo l x.label=none/\(puS l x).2=true/\(puS l x).1.Perm (x::l))\/∃f,zeo l x.label=some f/\(puS l x).2=same f x.form/\(puS l x).1=l
 | [],_=>Or.inl ⟨rfl,rfl,Jn _⟩
 | a::l,hs=>by
  rw[Qf,K9]at hs;rw[zjw];unfold puS;by_cases h1:a.label<x.label
  ·rw[if_pos h1,if_neg Yp];rcases zz1 x l hs.2 with⟨k1,k2,k3⟩|⟨f,k1,k2,k3⟩
   ·exact Or.inl ⟨k1,k2,(k3.cons a).trans (List.Perm.swap x a l)⟩
   ·exact Or.inr ⟨f,k1,k2,by rw[k3]⟩
  ·rw[if_neg h1];by_cases h2:a.label=x.label
   ·rw[if_pos h2,if_pos h2];exact Or.inr ⟨a.form,rfl,rfl,rfl⟩
   ·rw[if_neg h2,if_neg h2];refine Or.inl ⟨zfs.2 fun b hb=>?_,rfl,Jn _⟩;have:=hs.1 _ (Jt hb);omega
theorem zpf:∀(xs out:List An),okZ out->okA xs->(puL out xs).2=zrj out xs/\((puL out xs).2=true->(puL out xs).1.Perm (mrg out xs))
 | [],out,_,_=>⟨rfl,fun _=>by unfold puL mrg;simp⟩
 | x::xs,out,ho,hx=>by
  have hnx:∀y∈xs,x.label≠y.label:=fun y hy e=>by
   have:=hx.1;unfold aNd at this;rw[Qf,Kp]at this;exact this.1 (e▸Jt hy)
  have hxs:okA xs:=⟨(Kp.1 hx.1).2,fun a ha=>hx.2 a (by simp[ha])⟩;have hm:zrj out (x::xs)=((match zeo out x.label with|some f=>same f x.form|none=>true)&&zrj out xs):=by unfold zrj;rw[Kq];rfl
  unfold puL;rcases zz1 x out ho.2 with⟨k1,k2,k3⟩|⟨f,k1,k2,k3⟩
  ·have hok:=zw7 ho.1 (hx.2 x (by simp)) k2 ho.2;rw[if_pos k2];obtain⟨i1,i2⟩:=zpf xs _ ⟨hok.1,hok.2.1⟩ hxs;have hag:∀y∈xs,zeo (puS out x).1 y.label=zeo out y.label:=fun y hy=>by
    rw[zfr k3 hok.1.1,zjw,if_neg (hnx y hy)]
   have e1:zrj (puS out x).1 xs=zrj out xs:=by
    unfold zrj;rw[Kl,Qx,Qx];exact⟨fun h y hy=>by rw[<-hag y hy];exact h y hy,fun h y hy=>by rw[hag y hy];exact h y hy⟩
   refine⟨by rw[i1,e1,hm,k1,Qs],fun h=>(i2 h).trans ?_⟩;unfold mrg;rw[Jm,k1];simp only[Option.isNone_none,if_true];have e2:(xs.filter fun a=>(zeo (puS out x).1 a.label).isNone)=xs.filter fun a=>(zeo out a.label).isNone:=List.filter_congr fun y hy=>by rw[hag y hy]
   rw[e2]
   exact(k3.append_right _).trans (by
    rw[Jb]
    exact List.perm_middle.symm)
  ·have e3:(puS out x).1=out:=k3;rw[k2,e3];cases hs:same f x.form
   ·rw[if_neg (by simp)];refine⟨by rw[hm,k1];show false=(same f x.form&&_);rw[hs];rfl,fun h=>by cases h⟩
   ·rw[if_pos rfl];obtain⟨i1,i2⟩:=zpf xs out ho hxs;refine⟨by rw[i1,hm,k1];show _=(same f x.form&&_);rw[hs];rfl,fun h=>(i2 h).trans ?_⟩;unfold mrg;rw[Jm,k1];simp
end
section
open Go.RowKit
theorem zjb {α:Type}(a b:α):same a b=same b a:=by
 rw[Kl,zbj,zbj]
 exact⟨fun h=>h.symm,fun h=>h.symm⟩
theorem qhw {f:Fm}(h:f.forms=true)(ho:f.op=4\/f.op=5\/f.op=6\/f.op=7):f=mkF f.op f.parts:=by
 rw[Fm.forms_eq,Qe]at h
 have h:=h.1
 unfold Fm.here at h
 obtain⟨o,a,v,ps⟩:=f
 have key:a.none=true/\v=[]:=by
  have ho:o=4\/o=5\/o=6\/o=7:=ho;rcases ho with rfl|rfl|rfl|rfl<;>simp[zky,isQ,Fm.op,Fm.atom,Fm.var]at h<;>exact⟨h.1.2,h.2⟩
 obtain⟨n,xs⟩:=a
 have h1:n=[]/\xs=[]:=by simpa[Tm.none,Tm.name,Tm.args]using key.1
 obtain⟨rfl,rfl⟩:=h1
 obtain rfl:=key.2
 rfl
theorem zwx {f:Fm}(h:f.forms=true)(op:Int)(ho:op=4\/op=5\/op=6\/op=7)(ps:List Fm):same f (mkF op ps)=(f.op==op&&same f.parts ps):=by
 rw[Kl,Qe,zbj,zbj,Kk]
 constructor
 ·rintro rfl;exact⟨rfl,rfl⟩
 ·rintro⟨e1,e2⟩;have:=qhw h (by rw[e1];exact ho);rw[e1,e2]at this;exact this
theorem qd6 (f q:Fm)(op:Int)(t:Tm)(ho:op=8\/op=9)(hq:q.good=true)(hqp:∀x∈q.parts,x.good=true)(ht:t.good=true)(hf:f.good=true):qjh f q op t=qhb q op t f:=by
 unfold qjh qhb
 by_cases e:q.op=op
 ·congr 1
  have hfo:=zbt hq;have hl:=(zgt hfo).2.2 (by rw[e];exact ho);obtain⟨g,hg⟩:=zh5 hl;have hgg:=hqp g (by rw[hg];simp);have hv:zbd q.var=true:=by
   rw[Fm.forms_eq,Qe]at hfo;have h:=hfo.1;unfold Fm.here at h;rcases ho with rfl|rfl<;>rw[e]at h<;>simp[zky,isQ]at h<;>exact h.2
  have hn:t.names=true:=by unfold Tm.good at ht;rw[Qe]at ht;exact ht.2
  unfold sbs pbs;rw[hg];show((sbF q.var t g).2&&same (sbF q.var t g).1 f)=((zbx q.var t g).2&&same (zbx q.var t g).1 f)
  have h1:=zxy q.var t hv hn g (zbt hgg);obtain⟨_,h2⟩:=zvv q.var t hv hn g (zbt hgg);unfold sbF;rw[hgg,hv,ht];simp only[Qs];rw[h1];rw[Kl];constructor
  ·intro h;split at h
   ·rename_i hc;rw[Qe]at hc;rw[h2 hc.1 (zbt hc.2)]at h;rw[hc.1];exact h
   ·rename_i hc;cases h
  ·intro h;rw[Qe,zbj]at h;obtain⟨k1,k2⟩:=h;have k3:(zbx q.var t g).1.good=true:=by rw[k2];exact hf
   rw[if_pos (by rw[k1,k3];rfl)];rw[h2 k1 (zbt k3),k2];simp[zbj]
 ·have:(q.op==op)=false:=by simpa using e
  rw[this];rfl
end
section
open Go.RowKit
theorem zj4 {f q:Fm}(h:f.good=true)(hm:q∈f.parts):q.good=true:=by
 unfold Fm.good at h⊢
 rw[Qe,Kb]at h⊢
 refine⟨?_,zoh h.2 hm⟩
 have:=zbz Fm.nodes f.parts q hm
 have:=f.nodes_eq
 omega
theorem sh_eq (p:Nt)(hs:stI p true=true)(hf:∀q∈p.parts,q.form.good=true):shI p=(spS p&&(!(p.rule==18)||(sbs ((p.parts.map Nt.form).getD 0 zF) p.term).2)):=by
 obtain⟨h1,h2,h3,h4,h5,_⟩:=zf2 hs
 obtain⟨r,c,l,t,ps⟩:=p
 have hf:∀q∈ps,q.form.good=true:=hf
 have h1:zbg r=(ps.length:Int):=h1
 have h2:c.good=true:=h2
 have h5:(if inB r 15 18=true then t.good else t.none)=true:=h5
 obtain⟨n0,n2,n3,n1⟩:=zg4 h1
 have hcp:∀x∈c.parts,x.good=true:=fun x hx=>zj4 h2 hx
 rcases zvi (r:=r) Yp with h|h|h|h|h|h|h|h|h|h|h|h|h|h|h|h|h|h<;>subst h
 ·rfl
 ·show(c.op==1)=_;simp[spS,Nt.rule,Nt.form]
 ·show(_==(2:Int))=((_==(2:Int))&&true);rw[K3]
 ·show(_==(2:Int))=((_==(2:Int))&&true);rw[K3]
 ·obtain⟨p0,p1,rfl⟩:=zvr (n2 (by decide));show(c.op==5&&same c.parts [p0.form,p1.form])=(same c (mkF 5 [p0.form,p1.form])&&true)
  rw[zwx (f:=c) (zbt h2) 5 Yp,K3]
 ·obtain⟨p0,rfl⟩:=zh5 (n1 (by decide));show(p0.form.op==5&&same (p0.form.parts.getD 0 (mkF 0 [])) c)=((p0.form.op==5&&same c (p0.form.parts.getD 0 (mkF 0 [])))&&true)
  rw[zjb,K3]
 ·obtain⟨p0,rfl⟩:=zh5 (n1 (by decide));show(p0.form.op==5&&same (p0.form.parts.getD 1 (mkF 0 [])) c)=((p0.form.op==5&&same c (p0.form.parts.getD 1 (mkF 0 [])))&&true)
  rw[zjb,K3]
 ·obtain⟨p0,rfl⟩:=zh5 (n1 (by decide));show(c.op==6&&same (c.parts.getD 0 (mkF 0 [])) p0.form)=((c.op==6&&same p0.form (c.parts.getD 0 (mkF 0 [])))&&true)
  rw[zjb,K3]
 ·obtain⟨p0,rfl⟩:=zh5 (n1 (by decide));show(c.op==6&&same (c.parts.getD 1 (mkF 0 [])) p0.form)=((c.op==6&&same p0.form (c.parts.getD 1 (mkF 0 [])))&&true)
  rw[zjb,K3]
 ·show _=(_&&true);rw[K3];rfl
 ·obtain⟨p0,rfl⟩:=zh5 (n1 (by decide));show(c.op==7&&same (c.parts.getD 1 (mkF 0 [])) p0.form)=((c.op==7&&same p0.form (c.parts.getD 1 (mkF 0 [])))&&true)
  rw[zjb,K3]
 ·obtain⟨p0,p1,rfl⟩:=zvr (n2 (by decide));show(p0.form.op==7&&same p0.form.parts [p1.form,c])=(same p0.form (mkF 7 [p1.form,c])&&true)
  rw[zwx (zbt (hf p0 (Q9 ..))) 7 Yp,K3]
 ·show _=(_&&true);rw[K3];rfl
 ·obtain⟨p0,p1,rfl⟩:=zvr (n2 (by decide));show(p0.form.op==4&&same p0.form.parts [p1.form]&&c.op==2)=((c.op==2&&same p0.form (mkF 4 [p1.form]))&&true)
  rw[zwx (zbt (hf p0 (Q9 ..))) 4 Yp,K3,Bool.and_comm]
 ·obtain⟨p0,rfl⟩:=zh5 (n1 (by decide));show(zbd t.name&&qjh p0.form c 8 t)=((zbd t.name&&qhb c 8 t p0.form)&&true)
  rw[qd6 p0.form c 8 t (Or.inl rfl) h2 hcp h5 (hf p0 (Q9 ..)),K3]
 ·obtain⟨p0,rfl⟩:=zh5 (n1 (by decide));show qjh c p0.form 8 t=(qhb p0.form 8 t c&&true)
  rw[qd6 c p0.form 8 t (Or.inl rfl) (hf p0 (Q9 ..)) (fun x hx=>zj4 (hf p0 (Q9 ..)) hx) h5 h2,K3]
 ·obtain⟨p0,rfl⟩:=zh5 (n1 (by decide));show qjh p0.form c 9 t=(qhb c 9 t p0.form&&true)
  rw[qd6 p0.form c 9 t (Or.inr rfl) h2 hcp h5 (hf p0 (Q9 ..)),K3]
 ·obtain⟨p0,p1,rfl⟩:=zvr (n2 (by decide));show(p0.form.op==9&&zbd t.name&&((sbs p0.form t).2&&same p1.form c))=((p0.form.op==9&&same p1.form c&&zbd t.name)&&(sbs p0.form t).2)
  cases (p0.form.op==9)<;>cases zbd t.name<;>cases (sbs p0.form t).2<;>cases same p1.form c<;>rfl
end
section
open Go.RowKit
theorem qa7 (n:Str)(t:Tm):∀f:Fm,f.forms=true->(zbx n t f).2=true->(zbx n t f).1.forms=true:=zcn fun o a v ps ih hf h=>by
 have hP:=zpe n t (.mk o a v ps)
 have hf0:=hf
 rw[Fm.forms_eq,Qe]at hf0
 obtain⟨hh,hps⟩:=hf0
 have hps:∀x∈ps,x.forms=true:=Qx.1 hps
 cases h3:o==3
 ·have ha:a=.mk [] []:=zr6 hh h3;rw[hP]at h⊢
  change (if(o==3)=true then _ else if(isQ o&&_)=true then _ else if(isQ o&&_)=true then _ else (Fm.mk o (.mk [] []) v ((ps.takeWhile fun x=>(zbx n t x).2).map fun x=>(zbx n t x).1),ps.all fun x=>(zbx n t x).2):Fm×Bool).2=true at h
  change (if(o==3)=true then _ else if(isQ o&&_)=true then _ else if(isQ o&&_)=true then _ else (Fm.mk o (.mk [] []) v ((ps.takeWhile fun x=>(zbx n t x).2).map fun x=>(zbx n t x).1),ps.all fun x=>(zbx n t x).2):Fm×Bool).1.forms=true
  rw[h3,if_neg (by simp)]at h⊢;split
  ·exact hf
  ·rename_i h1;rw[if_neg h1]at h;split
   ·rename_i h2;rw[if_pos h2]at h;cases h
   ·rename_i h2;rw[if_neg h2]at h;have h1:(ps.all fun x=>(zbx n t x).2)=true:=h;have hA:=Qx.1 h1;have hw:(ps.takeWhile fun x=>(zbx n t x).2)=ps:=by
     have:=(zc0 (l:=ps) (p:=fun x=>(zbx n t x).2) (k:=ps.length) (Qz _) (by rw[Kv];exact hA) fun h=>absurd h (Yc _)).1;rw[this,Kv]
    rw[hw,<-ha];show(Fm.mk o a v (ps.map fun x=>(zbx n t x).1)).forms=true
    rw[zhj,Qe];refine⟨zm7 (f:=.mk o a v ps) hh h3 (by show(ps.map _).length=ps.length;rw[Qa]),Qx.2 fun y hy=>?_⟩;obtain⟨x,hx,rfl⟩:=Ka.1 hy;exact ih x hx (hps x hx) (hA x hx)
 ·have ho3:o=3:=by simpa using h3
  rw[hP]at h⊢
  change (if(o==3)=true then (Fm.mk o (zfn (bnd n t) a) v [],(zfn (bnd n t) a).atomOk)else _:Fm×Bool).2=true at h
  change (if(o==3)=true then (Fm.mk o (zfn (bnd n t) a) v [],(zfn (bnd n t) a).atomOk)else _:Fm×Bool).1.forms=true
  rw[h3,if_pos rfl]at h⊢;have h9:(zfn (bnd n t) a).atomOk=true:=h;show(Fm.mk o (zfn (bnd n t) a) v []).forms=true
  rw[zhj,Qe];refine⟨?_,rfl⟩;subst ho3;unfold Fm.here at hh⊢
  change (decide (ps.length=0)&&a.atomOk&&(v==[]))=true at hh
  change (decide (([]:List Fm).length=0)&&(zfn (bnd n t) a).atomOk&&(v==[]))=true
  simp only[Qe]at hh;rw[h9,hh.2];rfl
theorem qbg (n:Str)(t:Tm):∀f:Fm,f.forms=true->(zbx n t f).2=true->(zbx n t f).1.nodes=f.nodes:=zcn fun o a v ps ih hf h=>by
 have hP:=zpe n t (.mk o a v ps)
 have hf0:=hf
 rw[Fm.forms_eq,Qe]at hf0
 obtain⟨hh,hps⟩:=hf0
 have hps:∀x∈ps,x.forms=true:=Qx.1 hps
 cases h3:o==3
 ·rw[hP]at h⊢
  change (if(o==3)=true then _ else if(isQ o&&_)=true then _ else if(isQ o&&_)=true then _ else (Fm.mk o (.mk [] []) v ((ps.takeWhile fun x=>(zbx n t x).2).map fun x=>(zbx n t x).1),ps.all fun x=>(zbx n t x).2):Fm×Bool).2=true at h
  change (if(o==3)=true then _ else if(isQ o&&_)=true then _ else if(isQ o&&_)=true then _ else (Fm.mk o (.mk [] []) v ((ps.takeWhile fun x=>(zbx n t x).2).map fun x=>(zbx n t x).1),ps.all fun x=>(zbx n t x).2):Fm×Bool).1.nodes=_
  rw[h3,if_neg (by simp)]at h⊢;split
  ·rfl
  ·rename_i h1;rw[if_neg h1]at h;split
   ·rename_i h2;rw[if_pos h2]at h;cases h
   ·rename_i h2;rw[if_neg h2]at h;have h1:(ps.all fun x=>(zbx n t x).2)=true:=h;have hA:=Qx.1 h1;have hw:(ps.takeWhile fun x=>(zbx n t x).2)=ps:=by
     have:=(zc0 (l:=ps) (p:=fun x=>(zbx n t x).2) (k:=ps.length) (Qz _) (by rw[Kv];exact hA) fun h=>absurd h (Yc _)).1;rw[this,Kv]
    rw[hw];show(Fm.mk o (.mk [] []) v (ps.map fun x=>(zbx n t x).1)).nodes=_
    rw[Fm.nodes_eq,Fm.nodes_eq];show 1+((ps.map fun x=>(zbx n t x).1).map Fm.nodes).sum=1+(ps.map Fm.nodes).sum
    rw[K2];show 1+(ps.map fun x=>(zbx n t x).1.nodes).sum=_
    rw[K0 (g:=Fm.nodes) fun x hx=>ih x hx (hps x hx) (hA x hx)]
 ·have ho3:o=3:=by simpa using h3
  obtain⟨_,hp⟩:=zg3 (f:=.mk o a v ps) hh ho3;have hp:ps=[]:=hp;rw[hP]
  change (if(o==3)=true then (Fm.mk o (zfn (bnd n t) a) v [],(zfn (bnd n t) a).atomOk)else _:Fm×Bool).1.nodes=_
  rw[h3,if_pos rfl,hp,Fm.nodes_eq,Fm.nodes_eq];rfl
theorem qln (q:Fm)(t:Tm)(ho:q.op=8\/q.op=9)(hq:q.good=true)(ht:t.good=true):(sbs q t).2=(pbs q t).2/\((sbs q t).2=true->(sbs q t).1=(pbs q t).1):=by
 have hfo:=zbt hq
 obtain⟨g,hg⟩:=zh5 ((zgt hfo).2.2 ho)
 have hgg:=zj4 hq (show g∈q.parts by rw[hg];simp)
 have hv:zbd q.var=true:=by
  rw[Fm.forms_eq,Qe]at hfo;have h:=hfo.1;unfold Fm.here at h;rcases ho with e|e<;>rw[e]at h<;>simp[zky,isQ]at h<;>exact h.2
 have hn:t.names=true:=by unfold Tm.good at ht;rw[Qe]at ht;exact ht.2
 unfold sbs pbs
 rw[hg]
 show(sbF q.var t g).2=(zbx q.var t g).2/\((sbF q.var t g).2=true->(sbF q.var t g).1=(zbx q.var t g).1)
 have h1:=zxy q.var t hv hn g (zbt hgg)
 obtain⟨_,h2⟩:=zvv q.var t hv hn g (zbt hgg)
 unfold sbF
 rw[hgg,hv,ht]
 simp only[Qs]
 rw[h1]
 cases hp:(zbx q.var t g).2
 ·simp
 ·have k1:=qa7 q.var t g (zbt hgg) hp;have k2:=qbg q.var t g (zbt hgg) hp;have k3:(zbx q.var t g).1.good=true:=by
   unfold Fm.good at hgg⊢;rw[Qe,Kb]at hgg⊢;rw[k2];exact⟨hgg.1,k1⟩
  rw[k3,Bool.and_self,if_pos rfl];exact⟨rfl,fun _=>h2 hp k1⟩
end
section
open Go.RowKit
theorem qpl {p:Nt}{i n:Nat}(h:zbg p.rule=n)(hi:i<n)(hds:zbh p.rule i=true->dsS p i=(zum p i,true))(l:List An):(woS p i l).2=zv6 l p.label (zbh p.rule i) (zum p i)/\((woS p i l).2=true->(woS p i l).1=lft l p.label (zbh p.rule i)):=by
 have he:=qqz p.rule i n h hi
 refine⟨?_,fun hk=>by rw[qsl hk,he];rfl⟩
 unfold woS zv6
 rw[he]
 cases hd:zbh p.rule i
 ·rw[if_neg (by simp)]
  symm
  rw[Qx];intro a _;simp
 ·rw[if_pos rfl,hds hd];simp only[if_true];rw[qsq];simp only[K3]
theorem dsS_eq (p:Nt)(i:Nat)(h18:p.rule=18->sbs ((p.parts.map Nt.form).getD 0 zF) p.term=pbs ((p.parts.map Nt.form).getD 0 zF) p.term/\(pbs ((p.parts.map Nt.form).getD 0 zF) p.term).2=true):dsS p i=(zum p i,true):=by
 unfold dsS zum
 by_cases h4:p.rule=4
 ·simp only[if_pos h4]
 ·simp only[if_neg h4];by_cases h10:p.rule=10
  ·simp only[if_pos h10]
  ·simp only[if_neg h10];by_cases h:p.rule=18
   ·simp only[if_pos h];obtain⟨e1,e2⟩:=h18 h;rw[e1,<-e2]
   ·simp only[if_neg h]
end
section
open Go.RowKit
theorem qif {l:Int}{d:Nat->Bool}{dis:Nat->Fm}:∀(Ls:List (List An))(i:Nat)(out' out:List An),out'.Perm out->okA out->(∀own∈Ls,okA own)->(opM l d dis i out' Ls=none/\opM l d dis i out Ls=none)\/∃r r',opM l d dis i out' Ls=some r'/\opM l d dis i out Ls=some r/\r'.Perm r:=fun Ls i out' out hp ho hL=>by
 have h:PermL Ls Ls:=by
  clear hL;induction Ls with
  | nil=>exact .nil
  | cons a Ls ih=>exact .cons (Jn _) ih
 exact zx5 h i out' out hp ho hL
theorem zul {p:Nt}{n:Nat}(hn:zbg p.rule=n)(hds:∀i,i<n->zbh p.rule i=true->dsS p i=(zum p i,true)):∀(Ls:List (List An))(i:Nat)(out:List An),i+Ls.length=n->okZ out->(∀own∈Ls,okZ own) →
  (znf p i out Ls).2=((opM p.label (fun i=>zbh p.rule i) (zum p) i out Ls).isSome&&(List.range Ls.length).all fun j=>!frC p (i+j)||(lft (Ls.getD j []) p.label (zbh p.rule ((i+j:Nat):Int))).all fun a=>!frN p.term.name a.form) ∧
  ((znf p i out Ls).2=true->∃r,opM p.label (fun i=>zbh p.rule i) (zum p) i out Ls=some r/\(znf p i out Ls).1.Perm r)
 | [],i,out,_,_,_=>⟨rfl,fun _=>⟨out,rfl,Jn _⟩⟩
 | own::Ls,i,out,hi,ho,hL=>by
  rw[Qi]at hi;obtain⟨w1,w2⟩:=qpl hn (show i<n by omega) (hds i Yp) own;have hown:=hL own (by simp);have hrng:(List.range (own::Ls).length).all (fun j=>!frC p (i+j)||(lft ((own::Ls).getD j []) p.label (zbh p.rule ((i+j:Nat):Int))).all fun a=>!frN p.term.name a.form)=((!frC p i||(lft own p.label (zbh p.rule i)).all fun a=>!frN p.term.name a.form)&&(List.range Ls.length).all fun j=>!frC p (i+1+j)||(lft (Ls.getD j []) p.label (zbh p.rule ((i+1+j:Nat):Int))).all fun a=>!frN p.term.name a.form):=by
   rw[Qi,List.range_succ_eq_map,Kq,List.all_map]
   congr 1
   refine congrArg _ (funext fun j=>?_);show(!frC p (i+(j+1))||_)=_
   rw[show i+(j+1)=i+1+j by omega];rfl
  rw[hrng];unfold znf opM;rw[w1];cases hd:zv6 own p.label (zbh p.rule i) (zum p i)
  ·simp
  ·have hw:=w2 (by rw[w1,hd]);rw[hw];simp only[if_true,Qs];have hlok:okZ (lft own p.label (zbh p.rule i)):=zn0 hown _;obtain⟨m1,m2⟩:=zpf (lft own p.label (zbh p.rule i)) out ho hlok.1;cases hfr:(frC p i&&!(lft own p.label (zbh p.rule i)).all fun a=>!frN p.term.name a.form)
   ·have hfr2:(!frC p i||(lft own p.label (zbh p.rule i)).all fun a=>!frN p.term.name a.form)=true:=by
     cases h1:frC p i<;>cases h2:((lft own p.label (zbh p.rule i)).all fun a=>!frN p.term.name a.form)<;>rw[h1,h2]at hfr<;>first|rfl|cases hfr
    rw[hfr2,Qs,if_neg (by simp),m1];cases hm:zrj out (lft own p.label (zbh p.rule i))
    ·simp
    ·rw[hm]at m1;have hz:=qg8 ho hlok.1 m1;obtain⟨i1,i2⟩:=zul hn hds Ls (i+1) (puL out (lft own p.label (zbh p.rule i))).1 Yp hz fun o ho=>hL o (by simp[ho]);simp only[if_true];have hpm:=m2 m1;have hmo:okA (mrg out (lft own p.label (zbh p.rule i))):=zu7 ho.1 hlok.1;rcases qif (l:=p.label) (d:=fun i=>zbh p.rule i) (dis:=zum p) Ls (i+1) _ _ hpm hmo (fun o ho=>(hL o (by simp[ho])).1)with⟨e1,e2⟩|⟨r,r',e1,e2,e3⟩
     ·rw[e1]at i1 i2;rw[e2];exact⟨i1,fun h=>by obtain⟨r,hr,_⟩:=i2 h;cases hr⟩
     ·rw[e1]at i1 i2;rw[e2];refine⟨i1,fun h=>?_⟩;obtain⟨r2,hr2,hp2⟩:=i2 h;cases hr2;exact⟨r,rfl,hp2.trans e3⟩
   ·have hfr2:(!frC p i||(lft own p.label (zbh p.rule i)).all fun a=>!frN p.term.name a.form)=false:=by
     cases h1:frC p i<;>cases h2:((lft own p.label (zbh p.rule i)).all fun a=>!frN p.term.name a.form)<;>rw[h1,h2]at hfr<;>first|rfl|cases hfr
    rw[hfr2,Q1,Ki,if_pos rfl];exact⟨rfl,fun h=>by cases h⟩
end
section
open Go.RowKit
theorem zvn {α:Type}(l:List α)(q:α->Bool):(l.all fun a=>!q a)=!l.any q:=by
 induction l with
 | nil=>rfl
 | cons a l ih=>rw[Kq,List.any_cons,ih];cases q a<;>rfl
theorem new_eq {p:Nt}{Ls:List (List An)}(h:zbg p.rule=(p.parts.length:Int))(hl:Ls.length=p.parts.length):(((List.range Ls.length).all fun j=>!frC p (0+j)||(lft (Ls.getD j []) p.label (zbh p.rule ((0+j:Nat):Int))).all fun a=>!frN p.term.name a.form)&&!qcs p)=nwI p (zfe p Ls Ls.length):=by
 obtain⟨n0,n2,n3,n1⟩:=zg4 h
 unfold nwI qcs
 by_cases h15:p.rule=15
 ·have e:p.parts.length=1:=n1 Yp;rw[hl,e];have e15:(p.rule==15)=true:=by simpa using h15
  have e18:(p.rule==18)=false:=by rw[h15];rfl
  simp only[if_pos h15,e15,e18,Qs,Q1,Yj];show((((!frC p 0)||_)&&true)&&_)=_
  rw[show frC p 0=true by unfold frC;rw[e15];rfl,K3,zvn];show((false||!(zfe p Ls 1).any fun a=>frN p.term.name a.form)&&!frN p.term.name p.form)=_
  rw[Kt,Bool.not_or]
 ·by_cases h18:p.rule=18
  ·have e:p.parts.length=2:=n2 Yp;rw[hl,e];have e15:(p.rule==15)=false:=by simpa using h15
   have e18:(p.rule==18)=true:=by simpa using h18
   simp only[if_neg h15,if_pos h18,e15,e18,Qs,Q1,Kt];show((((!frC p 0)||_)&&(((!frC p 1)||_)&&true))&&_)=_
   rw[show frC p 0=false by unfold frC;rw[e15,e18];rfl,show frC p 1=true by unfold frC;rw[e15,e18];rfl,K3,zvn,zvn];show((true||_)&&(false||!(zfe p Ls 2).any fun a=>frN p.term.name a.form)&&!(frN p.term.name p.form||_))=_
   rw[J1,Qs,Kt,<-Bool.not_or]
  ·have e15:(p.rule==15)=false:=by simpa using h15
   have e18:(p.rule==18)=false:=by simpa using h18
   simp only[if_neg h15,if_neg h18,e15,e18,Q1,Yj,Qg,K3];rw[Qx];intro j _;rw[show frC p (0+j)=false by unfold frC;rw[e15,e18];rfl];rfl
end
section
open Go.RowKit
theorem qvs (p:Nt)(sh:Bool):stI p sh=(stI p true&&sh):=by
 unfold stI
 cases sh<;>simp
theorem zy2 {p:Nt}{o0 o1:List An}(h18:p.rule=18)(hb:(dsS p 1).2=false):(znf p 0 [] [o0,o1]).2=false:=by
 have hw:∀l,(woS p 1 l).2=false:=fun l=>by
  unfold woS;rw[show zcp p.rule (1:Nat)=true by rw[h18];rfl,if_pos rfl,if_neg (by rw[hb];simp)]
 unfold znf
 split
 ·split
  ·rfl
  ·split
   ·unfold znf;rw[if_neg (by rw[hw];simp)]
   ·rfl
 ·rfl
theorem qpq (p:Nt)(hf:∀q∈p.parts,q.form.good=true)(Ls:List (List An))(hl:Ls.length=p.parts.length)(hL:∀own∈Ls,okZ own) :
  (spR p Ls).2=(opR p Ls).isSome/\((spR p Ls).2=true->∃r,opR p Ls=some r/\(spR p Ls).1.Perm r):=by
 unfold spR opR
 rw[qvs,qlg]
 cases hs:stS p
 ·exact⟨rfl,fun h=>by cases h⟩
 ·have hst:stI p true=true:=by rw[qlg,hs]
  obtain⟨s1,s2,s3,s4,s5,_⟩:=zf2 hst;rw[sh_eq p hst hf];cases hp:spS p
  ·exact⟨rfl,fun h=>by cases h⟩
  ·simp only[Qs];by_cases h1:p.rule=1
   ·have e18:(p.rule==18)=false:=by rw[h1];rfl
    rw[e18];simp only[Qg,J1,if_true,if_pos h1];exact⟨rfl,fun _=>⟨_,rfl,Jn _⟩⟩
   ·simp only[if_true,if_neg h1];by_cases hbad:p.rule=18/\(sbs ((p.parts.map Nt.form).getD 0 zF) p.term).2=false
    ·obtain⟨h18,hb⟩:=hbad;have e18:(p.rule==18)=true:=by simpa using h18
     have hp2:p.parts.length=2:=(zg4 s1).2.1 Yp;obtain⟨o0,o1,rfl⟩:=zvr (hl.trans hp2);obtain⟨q0,q1,hps⟩:=zvr hp2;have hd:(dsS p 1).2=false:=by
      unfold dsS;rw[if_neg Yp,if_neg Yp,if_pos h18];have hop:q0.form.op=9:=by
       unfold spS at hp;simp only[h18,hps]at hp;simp at hp;exact hp.1.1
      have:=(qln q0.form p.term (Or.inr hop) (hf q0 (by rw[hps];simp)) (by rw[h18]at s5;exact s5)).1;rw[hps]at hb⊢;exact this.symm.trans hb
     rw[e18,hb];simp only[Qb,Kt,Ql,if_false];rw[zy2 h18 hd];simp only[Ql,if_false];rw[zy2 h18 hd];exact⟨rfl,fun h=>by cases h⟩
    ·have h18:p.rule=18->sbs ((p.parts.map Nt.form).getD 0 zF) p.term=pbs ((p.parts.map Nt.form).getD 0 zF) p.term/\(pbs ((p.parts.map Nt.form).getD 0 zF) p.term).2=true:=fun h18=>by
      have hp2:p.parts.length=2:=(zg4 s1).2.1 Yp;obtain⟨q0,q1,hps⟩:=zvr hp2;have hop:q0.form.op=9:=by
       unfold spS at hp;simp only[h18,hps]at hp;simp at hp;exact hp.1.1
      obtain⟨e1,e2⟩:=qln q0.form p.term (Or.inr hop) (hf q0 (by rw[hps];simp)) (by rw[h18]at s5;exact s5);rw[hps]at hbad⊢;have hb:(sbs q0.form p.term).2=true:=by
       cases h:(sbs q0.form p.term).2 with
       | true=>rfl
       | false=>exact absurd ⟨h18,h⟩ hbad
      exact⟨Prod.ext (e2 hb) e1,e1.symm.trans hb⟩
     have hg:(!(p.rule==18)||(sbs ((p.parts.map Nt.form).getD 0 zF) p.term).2)=true:=by
      by_cases h:p.rule=18
      ·rw[(h18 h).1,(h18 h).2];simp
      ·rw[show(p.rule==18)=false by simpa using h];rfl
     rw[hg];simp only[if_true];obtain⟨a1,a2⟩:=zul s1 (fun i _ _=>dsS_eq p i h18) Ls 0 [] Yp zvt hL;have hne:=new_eq s1 hl;have hop:opN p Ls (zum p) 0 []=opM p.label (fun i=>zbh p.rule i) (zum p) 0 [] Ls:=rfl;rw[hop,<-hne];cases hn:(znf p 0 [] Ls).2
     ·rw[hn]at a1;simp only[Ql,if_false];rw[hn];refine⟨?_,fun h=>by cases h⟩;cases ho:opM p.label (fun i=>zbh p.rule i) (zum p) 0 [] Ls with
      | none=>rfl
      | some r =>
       rw[ho,Yh,Qs]at a1;rw[<-a1];rfl
     ·obtain⟨r,hr,hperm⟩:=a2 hn;rw[hn,hr,Yh,Qs]at a1;rw[hr,<-a1];simp only[if_true,Ke,Qs];cases qcs p
      ·exact⟨rfl,fun _=>⟨r,rfl,hperm⟩⟩
      ·exact⟨rfl,fun h=>by cases h⟩
end
section
open Go.RowKit
def agr (pl:List Int)(m:Sum (List Int) (List An))(r:List An×List Int×Bool):Prop:=match m with
 | .inl pos=>r.2.2=false/\r.2.1=pl++pos
 | .inr out=>r.2.2=true/\r.1.Perm out
theorem qdw (p:Nt)(hw:Fit p)(pl:List Int):∀(qs pre:List Nt)(acc acc':List (List An)),p.parts=pre++qs->acc.length=pre.length->PermL acc' acc->(∀own∈acc,okZ own)->(∀q∈pre,q.form.good=true)->(∀q∈qs,∀pl,agr pl (zfd q) (spM q pl))->agr pl (goR p pre.length (qs.map zfd) acc') (goS p pl pre.length (qs.map spM) acc)
 | [],pre,acc,acc',hp,hl,hP,hZ,hg,_=>by
  rw[Kh]at hp;obtain⟨n1,n2⟩:=qpq p (by rw[hp];exact hg) acc (by rw[hp];exact hl) hZ;show agr pl (match opR p acc' with|none=>.inl []|some out=>.inr out) ((spR p acc).1,pl,(spR p acc).2)
  rcases zga (p:=p) hP (fun o ho=>(hZ o ho).1)with⟨e1,e2⟩|⟨r,r',e1,e2,e3⟩
  ·rw[e1];rw[e2]at n1;exact⟨n1,(Kh pl).symm⟩
  ·rw[e1];rw[e2]at n1 n2;obtain⟨r2,h2,h3⟩:=n2 n1;cases h2;exact⟨n1,h3.trans e3.symm⟩
 | q::qs,pre,acc,acc',hp,hl,hP,hZ,hg,hq=>by
  have h0:=hq q (by simp) (pl++[(pre.length:Int)]);have hmem:q∈p.parts:=by rw[hp];simp
  have hqw:=zd6 hmem;have hok:=qks q (hw.sub q hmem) (pl++[(pre.length:Int)]);rw[Qf,Qf,goS];cases hi:zfd q with
  | inl pos =>
   rw[hi]at h0;obtain⟨k1,k2⟩:=h0;rw[if_neg (by rw[k1];simp),goR];exact⟨k1,by rw[k2,Kf];rfl⟩
  | inr out =>
   rw[hi]at h0;obtain⟨k1,k2⟩:=h0;rw[if_pos k1,goR]
   have:=qdw p hw pl qs (pre++[q]) (acc++[(spM q (pl++[(pre.length:Int)])).1]) (acc'++[out]) (by rw[hp,Kf];rfl) (by simp[hl]) (hP.snoc k2.symm) (fun o ho=>by
    rcases Qm.1 ho with h|h
    ·exact hZ o h
    ·rw[Qy.1 h];exact(hok k1).1) (fun x hx=>by
    rcases Qm.1 hx with h|h
    ·exact hg x h
    ·rw[Qy.1 h];exact(hok k1).2) fun x hx=>hq x (by simp[hx])
   rwa [Qu,List.length_singleton]at this
theorem qtq:∀p:Nt,Fit p->∀pl,agr pl (zfd p) (spM p pl) :=
 zda fun r f l t ps ih hw pl=>by
  rw[zj0,qio];exact qdw (.mk r f l t ps) hw pl ps [] [] [] rfl rfl .nil (fun o ho=>by cases ho) (fun q hq=>by cases hq) fun q hq=>ih q hq (hw.sub q hq)
end
section
open Go.RowKit
theorem qsj (p:Nt)(hw:Fit p):zur p=valS p:=by
 have h:=qtq p hw []
 unfold zur valS
 rw[qfm]
 congr 1
 cases hi:zfd p with
 | inl pos=>rw[hi]at h;exact h.1.symm
 | inr out=>rw[hi]at h;exact h.1.symm
theorem fw_eq (p:Nt)(hw:Fit p):fwI p=fwS p:=by
 have h:=qtq p hw []
 have hs:zeg p>60↔zd9 p 60>60:=by
  have:=qfm p
  rwa [Js]at this
 unfold fwI fwS
 by_cases hm:zd9 p 60>60
 ·rw[if_pos hm,if_pos (hs.2 hm)]
 ·rw[if_neg hm,if_neg fun k=>hm (hs.1 k)];cases hi:zfd p with
  | inl pos =>
   rw[hi]at h;rw[if_neg (by rw[h.1];simp),h.2];rfl
  | inr out =>
   rw[hi]at h;rw[if_pos h.1]
end
section
open Go.RowKit
theorem qpw (d:Nt):FC Tryz.prog 3 [ntD d] [bD true]:=by
 have HZ:=zet d 1048576 Yp Yp
 simp only[ntD,zaj d]at HZ⊢
 refine zfg Tryz.call3 Tryz.func3 rfl Yo (zao Yo) ?_
 simp -implicitDefEqProofs only[go_sem,Tryz.results3]
 refine callF (HZ) Yn ?_
 simp -implicitDefEqProofs only[go_sem]
 refine⟨fun h=>trivial,fun h=>?_⟩
 have hw:d.wt<=1048576:=by have:=(zdx (by simpa using h)).1;omega
 have HS:=zjh d (Fit.of d hw)
 have HI:=zgi d (Fit.of d hw)
 rw[qsj d (Fit.of d hw)]at HI
 have HT:=ze7 d hw
 have HE:=ze3 d d
 generalize valS d=G at HS HI
 simp only[ntD,zaj d]at HS HI HT HE
 have n1:∀b:Bool,(!(b==b))=false:=by decide
 have n2:∀b:Bool,(b != b)=false:=by decide
 refine zzo (HT) Yn ?_
 simp -implicitDefEqProofs only[go_sem]
 refine zot (HS) Yn ?_
 simp -implicitDefEqProofs only[go_sem]
 refine zzo (HT) Yn ?_
 simp -implicitDefEqProofs only[go_sem]
 refine zot (HI) (by simp -implicitDefEqProofs only[go_sem,n1,n2]) ?_
 simp -implicitDefEqProofs only[go_sem,n1,n2]
 refine drawn Yo ?_
 simp -implicitDefEqProofs only[go_sem]
 refine zav (HT) Yn ?_
 simp -implicitDefEqProofs only[go_sem]
 refine zav (HE) Yn ?_
 simp -implicitDefEqProofs only[go_sem]
 refine⟨Yo,fun h=>?_,fun _=>trivial⟩
 simp[zax]at h
end
end Go.Proofs.YtnemmlahbbbobaaGreat
