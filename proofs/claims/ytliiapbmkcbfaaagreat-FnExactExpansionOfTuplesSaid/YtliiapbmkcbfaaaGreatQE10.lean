/-
  The walk over plain data, and contracts of functions of the program and of its laws.
  Conditions: those that each theorem names.
-/
import Derived.Test.YtliiapbmkcbfaaaGreatQE5
import Derived.Test.YtliiapbmkcbfaaaGreatQE8
import Derived.Test.YtliiapbmkcbfaaaGreatQE9
import Derived.Test.YtliiapbmkcbfaaaGreatQE6
namespace Go.Proofs.YtliiapbmkcbfaaaGreat
set_option linter.unusedSimpArgs false
set_option linter.unusedVariables false
set_option linter.unusedSectionVars false
section
set_option maxRecDepth 4000
open Go.RowKit
mutual
def zh3:Ex->Nat->Ex × Nat
 | .mk (.mk o0 (.mk n0 s0) v0 p0) t0 e0,k=>(.mk (.mk ((k:Nat):Int) (.mk (mtx (k + 1)) (zai s0 ((k + 1) + 1)).1) (mtx (zai s0 ((k + 1) + 1)).2) (za1 p0 ((zai s0 ((k + 1) + 1)).2 + 1)).1) (zai t0 (za1 p0 ((zai s0 ((k + 1) + 1)).2 + 1)).2).1 (zbz e0 (zai t0 (za1 p0 ((zai s0 ((k + 1) + 1)).2 + 1)).2).2).1,(zbz e0 (zai t0 (za1 p0 ((zai s0 ((k + 1) + 1)).2 + 1)).2).2).2)
def zbz:List Ex->Nat->List Ex × Nat
 | [],k=>([],k)
 | a :: xs,k=>((zh3 a k).1 :: (zbz xs (zh3 a k).2).1,(zbz xs (zh3 a k).2).2)
end
mutual
def zjb:Ex->Nat
 | .mk (.mk o0 (.mk n0 s0) v0 p0) t0 e0=>1 + 1 + 1 + zda s0 + 1 + zdn p0 + zda t0 + zdz e0
def zdz:List Ex->Nat
 | []=>0
 | a :: xs=>zjb a + zdz xs
end
mutual
theorem qe9:∀ (a:Ex) (k:Nat),k <= (zh3 a k).2 /\ (zh3 a k).2 <= k + zjb a
 | .mk (.mk o0 (.mk n0 s0) v0 p0) t0 e0,k=>by have h_s0:=zbj s0 ((k + 1) + 1); have h_p0:=zc3 p0 ((zai s0 ((k + 1) + 1)).2 + 1); have h_t0:=zbj t0 (za1 p0 ((zai s0 ((k + 1) + 1)).2 + 1)).2; have h_e0:=zjg e0 (zai t0 (za1 p0 ((zai s0 ((k + 1) + 1)).2 + 1)).2).2; simp only [zh3,zjb]; omega
theorem zjg:∀ (xs:List Ex) (k:Nat),k <= (zbz xs k).2 /\ (zbz xs k).2 <= k + zdz xs
 | [],k=>⟨Qw _,Qw _⟩
 | a :: xs,k=>by have h1:=qe9 a k; have h2:=zjg xs (zh3 a k).2; simp only [zbz,zdz]; omega
end
theorem zl9:∀ xs:List Ex,xs.length <= zdz xs
  | []=>Qw _
  | a :: xs=>by
    have:=zl9 xs
    have:1 <= zjb a:=by obtain ⟨⟨o0,⟨n0,s0⟩,v0,p0⟩,t0,e0⟩:=a; simp only [zjb]; omega
    simp only [Qm,zdz]; omega
theorem zfp (xs:List Ex) (H:∀ a ∈ xs,∀ k:Nat,0 < k->k + zdz a.parts <= 4611686018427387904->IC Tryz.prog 55 [] (.one (exS a.parts)) [iD k] (.one (exS (zbz a.parts k).1)) [iD (zbz a.parts k).2]) :
  ∀ k:Nat,0 < k->k + zdz xs <= 4611686018427387904->IC Tryz.prog 55 [] (.one (exS xs)) [iD k] (.one (exS (zbz xs k).1)) [iD (zbz xs k).2]:=by
 intro k h0 hk
 refine zyq Tryz.call55 Tryz.func55 rfl (by kernel_rfl) (by simp only [zdx,rd,Qi,Qy,Kl,Qm,Qv,Tryz.ntmps55]; omega) (by simp only [Tryz.ntmps55]; omega) (fun vs=>?_)
 simp -implicitDefEqProofs only[go_sem,Tryz.results55,qd3,zl2,zdx,PI]
 refine zae (fun (x:List Ex × List Ex × Nat)=>hd [(0,.one (.ow 0 0)),(1000000,.one (.ow 0 0)),(1,vI x.2.2),(5,vI x.1.length)] [] [(0,⟨true,7,x.1.map exC ++ zew vs x.1.length (x.2.1.map exC),0,true⟩)])
  (fun x=>(zbz xs k).1 = x.1 ++ (zbz x.2.1 x.2.2).1 /\ (zbz xs k).2 = (zbz x.2.1 x.2.2).2 /\ 0 < x.2.2 /\ x.2.2 + zdz x.2.1 <= 4611686018427387904 /\ x.1.length + x.2.1.length = xs.length /\ ∀ a ∈ x.2.1,a ∈ xs) (fun x=>x.2.1.length) ([],xs,k) (zac ?_) ?_ ?_
 ·simp -implicitDefEqProofs only[go_sem]
 ·exact ⟨rfl,rfl,h0,hk,by simp,fun _ h=>h⟩
 ·intro ⟨dn,rest,kk⟩ ⟨h1,h2,h3,h4,h6,h5⟩
  simp only at h1 h2 h3 h4 h5 h6
  cases rest with
  | nil =>
   simp only [zbz,Kd] at h1 h2
   simp -implicitDefEqProofs only[go_sem,h1,h2]
  | cons a rest =>
   obtain ⟨⟨o0,⟨n0,s0⟩,v0,p0⟩,t0,e0⟩:=a
   simp only [zbz,zh3,zdz,zjb] at h1 h2 h4
   have hc_s0:=zbj s0 ((kk + 1) + 1)
   have hc_p0:=zc3 p0 ((zai s0 ((kk + 1) + 1)).2 + 1)
   have hc_t0:=zbj t0 (za1 p0 ((zai s0 ((kk + 1) + 1)).2 + 1)).2
   have hc_e0:=zjg e0 (zai t0 (za1 p0 ((zai s0 ((kk + 1) + 1)).2 + 1)).2).2
   have w0:IntKind.i64.wrap (((kk:Nat):Int) + 1) = ((kk + 1:Nat):Int):=zal (by omega)
   have w1:IntKind.i64.wrap ((((kk + 1):Nat):Int) + 1) = (((kk + 1) + 1:Nat):Int):=zal (by omega)
   have w2:IntKind.i64.wrap ((((zai s0 ((kk + 1) + 1)).2:Nat):Int) + 1) = (((zai s0 ((kk + 1) + 1)).2 + 1:Nat):Int):=zal (by omega)
   have hln:=zl9 xs
   rw [Qm] at h6
   have wl:IntKind.i64.wrap ((dn.length:Int) + 1) = ((dn.length + 1:Nat):Int):=zal (by omega)
   simp -implicitDefEqProofs only[go_sem,zap (.mk _ _ _),Ex.form,Ex.terms,Ex.parts,Fm.op,Fm.atom,Fm.var,Fm.parts,Tm.name,Tm.args]
   refine zgs (by simp -implicitDefEqProofs only[go_sem,implies_true,w0,w1,w2]) ?_
   simp -implicitDefEqProofs only[go_sem,implies_true,w0,w1,w2]
   refine callF (zcl (kk + 1) (by omega) (by omega)) (by simp -implicitDefEqProofs only[go_sem,w0,w1,w2]) ?_
   simp -implicitDefEqProofs only[go_sem,w0,w1,w2]
   refine zgs (by simp -implicitDefEqProofs only[go_sem,implies_true,w0,w1,w2]) ?_
   simp -implicitDefEqProofs only[go_sem,implies_true,w0,w1,w2]
   refine callN (l:=[(0,.one (.ow 0 0)),(1000000,.one (.ow 0 0)),(5,vI dn.length),(36,.one (.cv (vs dn.length 2))),(37,vI (((kk + 1) + 1):Nat))]) (bl:=[]) (el:=[(0,⟨true,7,dn.map exC ++ [.int .i64 ((kk:Nat):Int),.str (mtx (kk + 1)),.pin (vs dn.length 2) (tmS s0),.str v0,.pin (vs dn.length 4) (fmS p0),.pin (vs dn.length 5) (tmS t0),.pin (vs dn.length 6) (exS e0)] :: zew vs (dn.length + 1) (rest.map exC),0,true⟩)]) 0 dn.length 2 (zds s0 ((kk + 1) + 1) (by omega) (by omega)) (by simp -implicitDefEqProofs only[go_sem,w0,w1,w2,tmS]) rfl rfl rfl (by simp -implicitDefEqProofs only[go_sem,tmS,Ex.form,Ex.terms,Ex.parts,Fm.op,Fm.atom,Fm.var,Fm.parts,Tm.name,Tm.args]) rfl ?_
   simp -implicitDefEqProofs only[go_sem,w0,w1,w2,Ex.form,Ex.terms,Ex.parts,Fm.op,Fm.atom,Fm.var,Fm.parts,Tm.name,Tm.args]
   refine callF (zcl (zai s0 ((kk + 1) + 1)).2 (by omega) (by omega)) (by simp -implicitDefEqProofs only[go_sem,w0,w1,w2]) ?_
   simp -implicitDefEqProofs only[go_sem,w0,w1,w2]
   refine zgs (by simp -implicitDefEqProofs only[go_sem,implies_true,w0,w1,w2]) ?_
   simp -implicitDefEqProofs only[go_sem,implies_true,w0,w1,w2]
   refine callN (l:=[(0,.one (.ow 0 0)),(1000000,.one (.ow 0 0)),(5,vI dn.length),(53,.one (.cv (vs dn.length 4))),(54,vI (((zai s0 ((kk + 1) + 1)).2 + 1):Nat))]) (bl:=[]) (el:=[(0,⟨true,7,dn.map exC ++ [.int .i64 ((kk:Nat):Int),.str (mtx (kk + 1)),tmS (zai s0 ((kk + 1) + 1)).1,.str (mtx (zai s0 ((kk + 1) + 1)).2),.pin (vs dn.length 4) (fmS p0),.pin (vs dn.length 5) (tmS t0),.pin (vs dn.length 6) (exS e0)] :: zew vs (dn.length + 1) (rest.map exC),0,true⟩)]) 0 dn.length 4 (zhz p0 ((zai s0 ((kk + 1) + 1)).2 + 1) (by omega) (by omega)) (by simp -implicitDefEqProofs only[go_sem,w0,w1,w2,fmS]) rfl rfl rfl (by simp -implicitDefEqProofs only[go_sem,fmS,Ex.form,Ex.terms,Ex.parts,Fm.op,Fm.atom,Fm.var,Fm.parts,Tm.name,Tm.args]) rfl ?_
   simp -implicitDefEqProofs only[go_sem,w0,w1,w2,Ex.form,Ex.terms,Ex.parts,Fm.op,Fm.atom,Fm.var,Fm.parts,Tm.name,Tm.args]
   refine callN (l:=[(0,.one (.ow 0 0)),(1000000,.one (.ow 0 0)),(5,vI dn.length),(60,.one (.cv (vs dn.length 5))),(61,vI ((za1 p0 ((zai s0 ((kk + 1) + 1)).2 + 1)).2:Nat))]) (bl:=[]) (el:=[(0,⟨true,7,dn.map exC ++ [.int .i64 ((kk:Nat):Int),.str (mtx (kk + 1)),tmS (zai s0 ((kk + 1) + 1)).1,.str (mtx (zai s0 ((kk + 1) + 1)).2),fmS (za1 p0 ((zai s0 ((kk + 1) + 1)).2 + 1)).1,.pin (vs dn.length 5) (tmS t0),.pin (vs dn.length 6) (exS e0)] :: zew vs (dn.length + 1) (rest.map exC),0,true⟩)]) 0 dn.length 5 (zds t0 (za1 p0 ((zai s0 ((kk + 1) + 1)).2 + 1)).2 (by omega) (by omega)) (by simp -implicitDefEqProofs only[go_sem,w0,w1,w2,tmS]) rfl rfl rfl (by simp -implicitDefEqProofs only[go_sem,tmS,Ex.form,Ex.terms,Ex.parts,Fm.op,Fm.atom,Fm.var,Fm.parts,Tm.name,Tm.args]) rfl ?_
   simp -implicitDefEqProofs only[go_sem,w0,w1,w2,Ex.form,Ex.terms,Ex.parts,Fm.op,Fm.atom,Fm.var,Fm.parts,Tm.name,Tm.args]
   refine callN (l:=[(0,.one (.ow 0 0)),(1000000,.one (.ow 0 0)),(5,vI dn.length),(67,.one (.cv (vs dn.length 6))),(68,vI ((zai t0 (za1 p0 ((zai s0 ((kk + 1) + 1)).2 + 1)).2).2:Nat))]) (bl:=[]) (el:=[(0,⟨true,7,dn.map exC ++ [.int .i64 ((kk:Nat):Int),.str (mtx (kk + 1)),tmS (zai s0 ((kk + 1) + 1)).1,.str (mtx (zai s0 ((kk + 1) + 1)).2),fmS (za1 p0 ((zai s0 ((kk + 1) + 1)).2 + 1)).1,tmS (zai t0 (za1 p0 ((zai s0 ((kk + 1) + 1)).2 + 1)).2).1,.pin (vs dn.length 6) (exS e0)] :: zew vs (dn.length + 1) (rest.map exC),0,true⟩)]) 0 dn.length 6 (H (.mk (.mk o0 (.mk n0 s0) v0 p0) t0 e0) (h5 _ (by simp)) (zai t0 (za1 p0 ((zai s0 ((kk + 1) + 1)).2 + 1)).2).2 (by omega) (by show (zai t0 (za1 p0 ((zai s0 ((kk + 1) + 1)).2 + 1)).2).2 + zdz e0 <= _; omega)) (by simp -implicitDefEqProofs only[go_sem,w0,w1,w2,exS]) rfl rfl rfl (by simp -implicitDefEqProofs only[go_sem,exS,Ex.form,Ex.terms,Ex.parts,Fm.op,Fm.atom,Fm.var,Fm.parts,Tm.name,Tm.args]) rfl ?_
   simp -implicitDefEqProofs only[go_sem,w0,w1,w2,Ex.form,Ex.terms,Ex.parts,Fm.op,Fm.atom,Fm.var,Fm.parts,Tm.name,Tm.args]
   refine ⟨(dn ++ [.mk (.mk ((kk:Nat):Int) (.mk (mtx (kk + 1)) (zai s0 ((kk + 1) + 1)).1) (mtx (zai s0 ((kk + 1) + 1)).2) (za1 p0 ((zai s0 ((kk + 1) + 1)).2 + 1)).1) (zai t0 (za1 p0 ((zai s0 ((kk + 1) + 1)).2 + 1)).2).1 (zbz e0 (zai t0 (za1 p0 ((zai s0 ((kk + 1) + 1)).2 + 1)).2).2).1],rest,(zbz e0 (zai t0 (za1 p0 ((zai s0 ((kk + 1) + 1)).2 + 1)).2).2).2),⟨by simpa using h1,h2,by show 0 < (zbz e0 (zai t0 (za1 p0 ((zai s0 ((kk + 1) + 1)).2 + 1)).2).2).2; omega,by show (zbz e0 (zai t0 (za1 p0 ((zai s0 ((kk + 1) + 1)).2 + 1)).2).2).2 + zdz rest <= _; omega,by simp; omega,fun b hb=>h5 b (by simp [hb])⟩,by simp,zac ?_⟩
   simp -implicitDefEqProofs only[go_sem,wl,zap (.mk _ _ _),Ex.form,Ex.terms,Ex.parts,Fm.op,Fm.atom,Fm.var,Fm.parts,Tm.name,Tm.args,Q0,Kh]
theorem zk0 (xs:List Ex) (k:Nat) (h0:0 < k) (hk:k + zdz xs <= 4611686018427387904):IC Tryz.prog 55 [] (.one (exS xs)) [iD k] (.one (exS (zbz xs k).1)) [iD (zbz xs k).2] :=
 zfp xs (fun a _=>zd8 (P:=fun a=>∀ k:Nat,0 < k->k + zdz a.parts <= 4611686018427387904->IC Tryz.prog 55 [] (.one (exS a.parts)) [iD k] (.one (exS (zbz a.parts k).1)) [iD (zbz a.parts k).2]) (fun _ _ ps ih=>zfp ps ih) a) k h0 hk
theorem zfd (xs:List Ex) (H:∀ a ∈ xs,∀ k:Nat,0 < k->k + zdz a.parts <= 4611686018427387904->FC Tryz.prog 58 [.one (exS (zbz a.parts k).1),iD k] [iD (zbz a.parts k).2]) :
  ∀ k:Nat,0 < k->k + zdz xs <= 4611686018427387904->FC Tryz.prog 58 [.one (exS (zbz xs k).1),iD k] [iD (zbz xs k).2]:=by
 intro k h0 hk
 refine zaj Tryz.call58 Tryz.func58 rfl (by kernel_rfl) (zax (by kernel_rfl)) ?_
 simp -implicitDefEqProofs only[go_sem,Tryz.results58]
 refine zae (fun (x:List Ex × List Ex × Nat)=>hd [(0,vT (.sl 7 (x.1.map exC ++ (zbz x.2.1 x.2.2).1.map exC))),(1,vI x.2.2),(5,vI x.1.length)] [] [])
  (fun x=>(zbz xs k).1 = x.1 ++ (zbz x.2.1 x.2.2).1 /\ (zbz xs k).2 = (zbz x.2.1 x.2.2).2 /\ 0 < x.2.2 /\ x.2.2 + zdz x.2.1 <= 4611686018427387904 /\ x.1.length + x.2.1.length = xs.length /\ ∀ a ∈ x.2.1,a ∈ xs) (fun x=>x.2.1.length) ([],xs,k) (zac ?_) ?_ ?_
 ·simp -implicitDefEqProofs only[go_sem]
 ·exact ⟨rfl,rfl,h0,hk,by simp,fun _ h=>h⟩
 ·intro ⟨dn,rest,kk⟩ ⟨h1,h2,h3,h4,h6,h5⟩
  simp only at h1 h2 h3 h4 h5 h6
  cases rest with
  | nil =>
   simp only [zbz,Kd] at h1 h2
   simp -implicitDefEqProofs only[go_sem,h2,zbz]
  | cons a rest =>
   obtain ⟨⟨o0,⟨n0,s0⟩,v0,p0⟩,t0,e0⟩:=a
   simp only [zbz,zh3,zdz,zjb] at h1 h2 h4
   have hc_s0:=zbj s0 ((kk + 1) + 1)
   have hc_p0:=zc3 p0 ((zai s0 ((kk + 1) + 1)).2 + 1)
   have hc_t0:=zbj t0 (za1 p0 ((zai s0 ((kk + 1) + 1)).2 + 1)).2
   have hc_e0:=zjg e0 (zai t0 (za1 p0 ((zai s0 ((kk + 1) + 1)).2 + 1)).2).2
   have w0:IntKind.i64.wrap (((kk:Nat):Int) + 1) = ((kk + 1:Nat):Int):=zal (by omega)
   have w1:IntKind.i64.wrap ((((kk + 1):Nat):Int) + 1) = (((kk + 1) + 1:Nat):Int):=zal (by omega)
   have w2:IntKind.i64.wrap ((((zai s0 ((kk + 1) + 1)).2:Nat):Int) + 1) = (((zai s0 ((kk + 1) + 1)).2 + 1:Nat):Int):=zal (by omega)
   have hln:=zl9 xs
   rw [Qm] at h6
   have wl:IntKind.i64.wrap ((dn.length:Int) + 1) = ((dn.length + 1:Nat):Int):=zal (by omega)
   simp -implicitDefEqProofs only[go_sem,zbz,zh3,zap (.mk _ _ _),Ex.form,Ex.terms,Ex.parts,Fm.op,Fm.atom,Fm.var,Fm.parts,Tm.name,Tm.args]
   simp only [Ja]
   simp -implicitDefEqProofs only[go_sem,w0,w1,w2]
   refine drawn (by kernel_rfl) ?_
   simp -implicitDefEqProofs only[go_sem]
   refine zao (zcl (kk + 1) (by omega) (by omega)) (by simp -implicitDefEqProofs only[go_sem,K6,Ja,w0,w1,w2]) ?_
   simp -implicitDefEqProofs only[go_sem,K6,Ja,w0,w1,w2]
   refine ⟨by kernel_rfl,?_⟩
   refine callF (zes s0 ((kk + 1) + 1) (by omega) (by omega)) (by simp -implicitDefEqProofs only[go_sem,w0,w1,w2,Ex.form,Ex.terms,Ex.parts,Fm.op,Fm.atom,Fm.var,Fm.parts,Tm.name,Tm.args]) ?_
   simp -implicitDefEqProofs only[go_sem,w0,w1,w2,Ex.form,Ex.terms,Ex.parts,Fm.op,Fm.atom,Fm.var,Fm.parts,Tm.name,Tm.args]
   refine drawn (by kernel_rfl) ?_
   simp -implicitDefEqProofs only[go_sem]
   refine zao (zcl (zai s0 ((kk + 1) + 1)).2 (by omega) (by omega)) (by simp -implicitDefEqProofs only[go_sem,K6,Ja,w0,w1,w2]) ?_
   simp -implicitDefEqProofs only[go_sem,K6,Ja,w0,w1,w2]
   refine ⟨by kernel_rfl,?_⟩
   refine callF (zh4 p0 ((zai s0 ((kk + 1) + 1)).2 + 1) (by omega) (by omega)) (by simp -implicitDefEqProofs only[go_sem,w0,w1,w2,Ex.form,Ex.terms,Ex.parts,Fm.op,Fm.atom,Fm.var,Fm.parts,Tm.name,Tm.args]) ?_
   simp -implicitDefEqProofs only[go_sem,w0,w1,w2,Ex.form,Ex.terms,Ex.parts,Fm.op,Fm.atom,Fm.var,Fm.parts,Tm.name,Tm.args]
   refine callF (zes t0 (za1 p0 ((zai s0 ((kk + 1) + 1)).2 + 1)).2 (by omega) (by omega)) (by simp -implicitDefEqProofs only[go_sem,w0,w1,w2,Ex.form,Ex.terms,Ex.parts,Fm.op,Fm.atom,Fm.var,Fm.parts,Tm.name,Tm.args]) ?_
   simp -implicitDefEqProofs only[go_sem,w0,w1,w2,Ex.form,Ex.terms,Ex.parts,Fm.op,Fm.atom,Fm.var,Fm.parts,Tm.name,Tm.args]
   refine callF (H (.mk (.mk o0 (.mk n0 s0) v0 p0) t0 e0) (h5 _ (by simp)) (zai t0 (za1 p0 ((zai s0 ((kk + 1) + 1)).2 + 1)).2).2 (by omega) (by show (zai t0 (za1 p0 ((zai s0 ((kk + 1) + 1)).2 + 1)).2).2 + zdz e0 <= _; omega)) (by simp -implicitDefEqProofs only[go_sem,w0,w1,w2,Ex.form,Ex.terms,Ex.parts,Fm.op,Fm.atom,Fm.var,Fm.parts,Tm.name,Tm.args]) ?_
   simp -implicitDefEqProofs only[go_sem,w0,w1,w2,Ex.form,Ex.terms,Ex.parts,Fm.op,Fm.atom,Fm.var,Fm.parts,Tm.name,Tm.args]
   refine ⟨(dn ++ [.mk (.mk ((kk:Nat):Int) (.mk (mtx (kk + 1)) (zai s0 ((kk + 1) + 1)).1) (mtx (zai s0 ((kk + 1) + 1)).2) (za1 p0 ((zai s0 ((kk + 1) + 1)).2 + 1)).1) (zai t0 (za1 p0 ((zai s0 ((kk + 1) + 1)).2 + 1)).2).1 (zbz e0 (zai t0 (za1 p0 ((zai s0 ((kk + 1) + 1)).2 + 1)).2).2).1],rest,(zbz e0 (zai t0 (za1 p0 ((zai s0 ((kk + 1) + 1)).2 + 1)).2).2).2),⟨by simpa using h1,h2,by show 0 < (zbz e0 (zai t0 (za1 p0 ((zai s0 ((kk + 1) + 1)).2 + 1)).2).2).2; omega,by show (zbz e0 (zai t0 (za1 p0 ((zai s0 ((kk + 1) + 1)).2 + 1)).2).2).2 + zdz rest <= _; omega,by simp; omega,fun b hb=>h5 b (by simp [hb])⟩,by simp,zac ?_⟩
   simp -implicitDefEqProofs only[go_sem,wl,zap (.mk _ _ _),Ex.form,Ex.terms,Ex.parts,Fm.op,Fm.atom,Fm.var,Fm.parts,Tm.name,Tm.args,Q0,Kh]
theorem zk1 (xs:List Ex) (k:Nat) (h0:0 < k) (hk:k + zdz xs <= 4611686018427387904):FC Tryz.prog 58 [.one (exS (zbz xs k).1),iD k] [iD (zbz xs k).2] :=
 zfd xs (fun a _=>zd8 (P:=fun a=>∀ k:Nat,0 < k->k + zdz a.parts <= 4611686018427387904->FC Tryz.prog 58 [.one (exS (zbz a.parts k).1),iD k] [iD (zbz a.parts k).2]) (fun _ _ ps ih=>zfd ps ih) a) k h0 hk
end
section
set_option maxRecDepth 4000
open Go.RowKit
def za3:Ex->Nat->Ex × Nat
 | .mk (.mk o0 (.mk n0 s0) v0 p0) t0 e0,k=>(.mk (.mk o0 (.mk n0 (zai s0 k).1) v0 (za1 p0 (zai s0 k).2).1) (zai t0 (za1 p0 (zai s0 k).2).2).1 (zbz e0 (zai t0 (za1 p0 (zai s0 k).2).2).2).1,(zbz e0 (zai t0 (za1 p0 (zai s0 k).2).2).2).2)
def zcc:Ex->Nat
 | .mk (.mk _ (.mk _ s0) _ p0) t0 e0=>zda s0 + zdn p0 + zda t0 + zdz e0
theorem zmf:∀ (a:Ex) (k:Nat),k <= (za3 a k).2 /\ (za3 a k).2 <= k + zcc a
 | .mk (.mk o0 (.mk n0 s0) v0 p0) t0 e0,k=>by
  have h1:=zbj s0 k
  have h2:=zc3 p0 (zai s0 k).2
  have h3:=zbj t0 (za1 p0 (zai s0 k).2).2
  have h4:=zjg e0 (zai t0 (za1 p0 (zai s0 k).2).2).2
  simp only [za3,zcc]; omega
mutual
theorem qdq:∀ a:Ex,zjb a <= 6 + 6 * a.wt
 | .mk (.mk o (.mk n s) v p) t e=>by
  have h1:=zed s
  have h2:=zim p
  have h3:=zed t
  have h4:=zqz e
  rw [Ex.wt_eq,zjb]; unfold zsh at h2; unfold exsW at h4
  simp only [Ex.form,Ex.terms,Ex.parts]
  rw [Fm.wt_eq]
  simp only [Fm.atom,Fm.var,Fm.parts]
  rw [Tm.wt_eq]
  have e1:zec s = s.length + (s.map Tm.wt).sum:=rfl
  simp only [Tm.name,Tm.args]; omega
theorem zqz:∀ xs:List Ex,zdz xs <= 6 * exsW xs
 | []=>by simp [zdz]
 | a :: xs=>by
  have h1:=qdq a
  have h2:=zqz xs
  unfold exsW at h2 ⊢
  rw [zdz,Qm,Qi,Q3]; omega
end
theorem zlg (a:Ex):zcc a <= 6 * a.wt:=by
 obtain ⟨⟨o,⟨n,s⟩,v,p⟩,t,e⟩:=a
 have h1:=zed s
 have h2:=zim p
 have h3:=zed t
 have h4:=zqz e
 rw [Ex.wt_eq,zcc]; unfold zsh at h2; unfold exsW at h4
 simp only [Ex.form,Ex.terms,Ex.parts]
 rw [Fm.wt_eq]
 simp only [Fm.atom,Fm.var,Fm.parts]
 rw [Tm.wt_eq]
 have e1:zec s = s.length + (s.map Tm.wt).sum:=rfl
 simp only [Tm.name,Tm.args]; omega
theorem zji (e:Ex) (k:Nat):exC (za3 e k).1 = [.int .i64 e.form.op,.str e.form.atom.name,.sl 2 ((za3 e k).1.form.atom.args.map tmC),.str e.form.var,.sl 5 ((za3 e k).1.form.parts.map fmC),.sl 2 ((za3 e k).1.terms.map tmC),.sl 7 ((za3 e k).1.parts.map exC)]:=by
 obtain ⟨⟨o,⟨n,s⟩,v,p⟩,t,ps⟩:=e
 rw [zap]; rfl
theorem zmm (a:Ex) (k:Nat) (h0:0 < k) (hk:k + zcc a <= 4611686018427387904):IC Tryz.prog 18 [] (.agg (exC a)) [iD k] (.agg (exC (za3 a k).1)) [iD (za3 a k).2]:=by
 obtain ⟨⟨o0,⟨n0,s0⟩,v0,p0⟩,t0,e0⟩:=a
 simp only [zcc] at hk
 have hc0:=zbj s0 k
 have hc1:=zc3 p0 (zai s0 k).2
 have hc2:=zbj t0 (za1 p0 (zai s0 k).2).2
 have H1:=zi5 (.mk o0 (.mk n0 s0) v0 p0) k h0 (by simp only [zcm,ze5]; omega)
 have H2:=zds t0 (za1 p0 (zai s0 k).2).2 (by omega) (by omega)
 have H3:=zk0 e0 (zai t0 (za1 p0 (zai s0 k).2).2).2 (by omega) (by omega)
 simp only [zab (.mk _ _ _ _),zap (.mk _ _ _),zaa (.mk _ _),Ex.form,Ex.terms,Ex.parts,Fm.op,Fm.atom,Fm.var,Fm.parts,Tm.name,Tm.args,za3,zbb,zbh] at H1 H2 H3 ⊢
 generalize (zai s0 k).1 = s1 at H1 ⊢
 generalize (za1 p0 (zai s0 k).2).1 = p1 at H1 ⊢
 generalize (za1 p0 (zai s0 k).2).2 = k2 at H1 H2 H3 ⊢
 generalize (zai t0 k2).1 = t1 at H2 ⊢
 generalize (zai t0 k2).2 = k3 at H2 H3 ⊢
 generalize (zbz e0 k3).1 = e1 at H3 ⊢
 generalize (zbz e0 k3).2 = k4 at H3 ⊢
 refine qni Tryz.call18 Tryz.func18 rfl (by kernel_rfl) (by simp only [zdx,rd,Qi,Qy,Kl,Qm,Qv,Tryz.ntmps18]; omega) (by simp only [Tryz.ntmps18]; omega) ⟨⟨by simp,by simp [T.isPin]⟩,zcx _⟩ trivial ?_
 simp -implicitDefEqProofs only[go_sem,Tryz.results18,zl2,zdx,PI]
 refine zjv [1000000,2,6,7] (H1) (by simp -implicitDefEqProofs only[go_sem]) (by simp -implicitDefEqProofs only[go_sem]) (by simp -implicitDefEqProofs only[go_sem]) (by simp -implicitDefEqProofs only[go_sem]) (by simp -implicitDefEqProofs only[go_sem]) rfl ?_
 simp -implicitDefEqProofs only[go_sem]
 refine zjv [1000000,2,10,11] (H2) (by simp -implicitDefEqProofs only[go_sem]) (by simp -implicitDefEqProofs only[go_sem]) (by simp -implicitDefEqProofs only[go_sem]) (by simp -implicitDefEqProofs only[go_sem]) (by simp -implicitDefEqProofs only[go_sem]) rfl ?_
 simp -implicitDefEqProofs only[go_sem]
 refine zjv [1000000,2,14,15] (H3) (by simp -implicitDefEqProofs only[go_sem]) (by simp -implicitDefEqProofs only[go_sem]) (by simp -implicitDefEqProofs only[go_sem]) (by simp -implicitDefEqProofs only[go_sem]) (by simp -implicitDefEqProofs only[go_sem]) rfl ?_
 simp -implicitDefEqProofs only[go_sem]
theorem zma (a:Ex) (k:Nat) (h0:0 < k) (hk:k + zcc a <= 4611686018427387904):FC Tryz.prog 19 [.agg (exC (za3 a k).1),iD k] [iD (za3 a k).2]:=by
 obtain ⟨⟨o0,⟨n0,s0⟩,v0,p0⟩,t0,e0⟩:=a
 simp only [zcc] at hk
 have hc0:=zbj s0 k
 have hc1:=zc3 p0 (zai s0 k).2
 have hc2:=zbj t0 (za1 p0 (zai s0 k).2).2
 have H1:=zqu (.mk o0 (.mk n0 s0) v0 p0) k h0 (by simp only [zcm,ze5]; omega)
 have H2:=zes t0 (za1 p0 (zai s0 k).2).2 (by omega) (by omega)
 have H3:=zk1 e0 (zai t0 (za1 p0 (zai s0 k).2).2).2 (by omega) (by omega)
 simp only [zab (.mk _ _ _ _),zap (.mk _ _ _),zaa (.mk _ _),Ex.form,Ex.terms,Ex.parts,Fm.op,Fm.atom,Fm.var,Fm.parts,Tm.name,Tm.args,za3,zbb,zbh] at H1 H2 H3 ⊢
 refine zaj Tryz.call19 Tryz.func19 rfl (by kernel_rfl) (zax (by kernel_rfl)) ?_
 simp -implicitDefEqProofs only[go_sem,Tryz.results19]
 refine callF (H1) (by simp -implicitDefEqProofs only[go_sem]) ?_
 simp -implicitDefEqProofs only[go_sem]
 refine callF (H2) (by simp -implicitDefEqProofs only[go_sem]) ?_
 simp -implicitDefEqProofs only[go_sem]
 refine callF (H3) (by simp -implicitDefEqProofs only[go_sem]) ?_
 simp -implicitDefEqProofs only[go_sem]
end
section
set_option maxRecDepth 4000
open Go.RowKit
set_option maxHeartbeats 400000 in
theorem zzy (xs ys:List (List Tm)):FC Tryz.prog 15 [.one (zht xs),.one (zht ys)] [bD (same xs ys)]:=by
 refine zdi (fun hw=>?_) Tryz.call15
 have hl:xs.length <= 9223372036854775807:=by simpa [zgg,wfT] using hw.1.1
 have hl2:ys.length <= 9223372036854775807:=by simpa [zgg,wfT] using hw.2.1.1
 refine zaj Tryz.call15 Tryz.func15 rfl (by kernel_rfl) (zax (by kernel_rfl)) ?_
 simp -implicitDefEqProofs only[go_sem,Tryz.results15]
 refine ⟨fun h=>?_,fun h=>?_⟩
 ·rw [zc0.2 (by rintro rfl; simp at h)]
 ·have hlen:xs.length = ys.length:=by simp at h; omega
  refine zae (fun k:Nat=>hd [(0,vT (zht xs)),(1,vT (zht ys)),(4,vB false),(5,vI k)] [] []) (fun k=>k <= xs.length /\ same xs ys = same (xs.drop k) (ys.drop k)) (fun k=>xs.length - k) 0 (zac ?_) ?_ ?_
  ·simp -implicitDefEqProofs only[go_sem]
  ·simp
  ·intro k ⟨hk,hr⟩
   by_cases hlt:k < xs.length
   ·have hk2:k < ys.length:=by omega
    simp -implicitDefEqProofs only[go_sem,Qb,hlt]
    refine drawn (by kernel_rfl) ?_
    simp -implicitDefEqProofs only[go_sem,Qb,zad,hlt,hk2]
    refine zao (zrx xs[k] ys[k]) (by simp -implicitDefEqProofs only[go_sem]) ?_
    simp -implicitDefEqProofs only[go_sem]
    refine ⟨by kernel_rfl,fun h=>?_,fun h=>?_⟩
    ·rw [hr,Qh hlt,Qh hk2,zcv,show same xs[k] ys[k] = false by simpa using h]; rfl
    ·rw [Qh hlt,Qh hk2,zcv,show same xs[k] ys[k] = true by simpa using h,Qn] at hr
     rw [zal (by omega)]
     exact ⟨k + 1,⟨by omega,hr⟩,by omega,zac (by simp -implicitDefEqProofs only[go_sem])⟩
   ·simp -implicitDefEqProofs only[go_sem,Qb,hlt]
    rw [hr,Qs (by omega),Qs (by omega),zf4]
end
section
set_option maxRecDepth 4000
open Go.RowKit
theorem zzl (xs:List (List Tm)) (l:Int) (h0:0 <= l) (h1:l <= 1048576):FC Tryz.prog 8 [.one (zht xs),iD l] [iD (szR (zxg xs) l)]:=by
 refine zdi (fun hw=>?_) Tryz.call8
 have hl:xs.length <= 9223372036854775807:=by simpa [zgg,wfT] using hw.1.1
 refine zaj Tryz.call8 Tryz.func8 rfl (by kernel_rfl) (zax (by kernel_rfl)) ?_
 simp -implicitDefEqProofs only[go_sem,Tryz.results8]
 rw [zb2 (by omega) (by omega)]
 have hW:zxg xs = xs.length + (xs.map zec).sum:=rfl
 refine ⟨fun h=>?_,fun h=>?_⟩
 ·rw [zet (by simp at h; omega)]
 ·have hlen:(xs.length:Int) <= l:=by simp at h; omega
  refine zae (fun k:Nat=>hd [(0,vT (zht xs)),(1,vI (l - xs.length - zq7 zec xs k)),(5,vI k)] [] []) (fun k=>k <= xs.length /\ 0 <= l - xs.length - zq7 zec xs k) (fun k=>xs.length - k) 0 (zac ?_) ?_ ?_
  ·simp -implicitDefEqProofs only[go_sem]
   simp [zfc]
  ·simpa [zfc] using hlen
  ·intro k ⟨hk,hp⟩
   by_cases hlt:k < xs.length
   ·have hs:=zll zec xs k hlt
    have hs2:=zvs zec xs (k + 1)
    simp -implicitDefEqProofs only[go_sem,Qb,zad,hlt]
    refine callF (qeo xs[k] (l - xs.length - zq7 zec xs k) hp (by omega)) (by simp -implicitDefEqProofs only[go_sem]) ?_
    simp -implicitDefEqProofs only[go_sem]
    refine ⟨fun h=>?_,fun h=>?_⟩
    ·have:=zj6 hp (by simpa using h)
     rw [zet (by omega)]
    ·obtain ⟨h2,h3⟩:=zg7 (by simpa using h)
     rw [zal (by omega)]
     exact ⟨k + 1,⟨hlt,by omega⟩,by omega,zac (by simp -implicitDefEqProofs only[go_sem]; rw [h3]; congr 1; omega)⟩
   ·simp -implicitDefEqProofs only[go_sem,Qb,hlt]
    have hall:=zpe zec xs k (by omega)
    rw [hall,zs5 (by omega)]; congr 1; omega
set_option maxHeartbeats 400000 in
theorem zz0 (xs:List (List Tm)) (hs:zxg xs <= 1048576):FC Tryz.prog 11 [.one (zht xs)] [.one (zht xs)]:=by
 have hW:zxg xs = xs.length + (xs.map zec).sum:=rfl
 refine zaj Tryz.call11 Tryz.func11 rfl (by kernel_rfl) (zax (by kernel_rfl)) ?_
 simp -implicitDefEqProofs only[go_sem,Tryz.results11]
 refine qkn (by simp -implicitDefEqProofs only[go_sem]; omega) ?_
 simp -implicitDefEqProofs only[go_sem]
 refine zae (fun k:Nat=>hd [(0,vT (zht xs)),(3,.one (.ow 224 0)),(4,vI k)] [] [(224,⟨true,1,(xs.take k).map (fun s=>[tmS s]) ++ List.replicate (xs.length - k) [T.sl 2 []],0,true⟩)]) (fun k=>k <= xs.length) (fun k=>xs.length - k) 0 (zac ?_) (Ka _) ?_
 ·simp -implicitDefEqProofs only[go_sem]
  simp
 ·intro k hk
  by_cases hlt:k < xs.length
  ·have hlen:((xs.take k).map (fun s=>[tmS s]) ++ List.replicate (xs.length - k) [T.sl 2 []]).length = xs.length:=by simp; omega
   have hlt2:k < k + (xs.length - k):=by omega
   have hmw:=zbo zec xs xs[k] (Qe hlt)
   simp -implicitDefEqProofs only[go_sem,Qb,zad,hlt]
   refine callF (qdr xs[k] (by omega)) (by simp -implicitDefEqProofs only[go_sem,hlen,hlt,Qr,Qb,Qp,Kv,Jh hk,hlt2]) ?_
   simp -implicitDefEqProofs only[go_sem,hlen,hlt,Qr,Qb,Qp,Kv,Jh hk,hlt2]
   refine zgs (by simp -implicitDefEqProofs only[go_sem]; simp) ?_
   simp -implicitDefEqProofs only[go_sem]
   rw [zal (by omega)]
   refine ⟨k + 1,by omega,by omega,zac ?_⟩
   simp -implicitDefEqProofs only[go_sem]
   have hf:=zg5 ((xs.take k).map fun s=>[tmS s]) xs.length k [T.sl 2 []] [tmS xs[k]] (by simp; omega) hlt (by simp)
   rw [hf,Qf hlt,Q0,Q7]
  ·simp -implicitDefEqProofs only[go_sem,Qb,hlt]
   simp [Qk (show xs.length <= k by omega),show xs.length - k = 0 by omega]
theorem ztb:∀ xs:List (List Tm),zgd xs <= 2 * zxg xs
 | []=>Ka _
 | a :: xs=>by
  have h1:=ztb xs
  have h2:=zed a
  unfold zxg at h1 ⊢
  rw [zgd,zh8,Qm,Qi,Q3]
  omega
end
section
set_option maxRecDepth 4000
open Go.RowKit
def keep (i x:Int):Bool:=!(x == i)
end
section
set_option maxRecDepth 4000
open Go.RowKit
theorem zf9 {α:Type} (p:α->Bool) (xs:List α) {k:Nat} (h:k < xs.length):(xs.take (k + 1)).filter p = (xs.take k).filter p ++ if p xs[k] = true then [xs[k]] else []:=by
 rw [Qf h,List.filter_append]
 congr 1
 rw [List.filter_cons]
 split <;> simp
end
section
set_option maxRecDepth 4000
open Go.RowKit
noncomputable def plE:Fm->Ex:=Fm.fold fun o a v ps rs=>.mk (.mk o a v ps) [] rs
theorem qmr (f:Fm):plE f = .mk f [] (f.parts.map plE):=by
 unfold plE
 rw [Fm.fold_eq]
 cases f; rfl
def ze0 (ts:List Tm):Tm:=ts.getD 0 Tm.zero
noncomputable def hdU (xs:List Tm):Nat->List Tm
 | 0=>[]
 | k + 1=>hdU xs k ++ if ((hdU xs k).any fun a=>same a (xs.getD k Tm.zero)) = true then [] else [xs.getD k Tm.zero]
noncomputable def hds (tss:List (List Tm)):List Tm:=hdU (tss.map ze0) tss.length
noncomputable def zfa (tss:List (List Tm)) (t:Tm):List (List Tm):=(tss.filter fun ts=>same (ze0 ts) t).map List.tail
noncomputable def zlc (f:Fm) (t:Tm):Fm:=(za5 f.var t (f.parts.getD 0 (mkF 0 []))).1
noncomputable def zkv:Nat->Fm->List (List Tm)->Ex
 | 0,f,_=>plE f
 | n + 1,f,tss=>.mk f (hds tss) ((hds tss).map fun t=>zkv n (zlc f t) (zfa tss t))
theorem qf8 {xs:List Tm}:∀ k,k <= xs.length->∀ t ∈ hdU xs k,t ∈ xs
 | 0,_,t,h=>by cases h
 | k + 1,hk,t,h=>by
  unfold hdU at h
  rcases Qt.1 h with h | h
  ·exact qf8 k (by omega) t h
  ·split at h
   ·cases h
   ·rw [Q5.1 h,zdr (by omega)]
    exact Qe _
theorem qdn {tss:List (List Tm)} {t:Tm} (h:t ∈ hds tss) : ∃ ts ∈ tss,ze0 ts = t:=by
 have:=qf8 _ (by rw [Qb]; exact Qw _) t h
 exact Kf.1 this
theorem zl3 (xs:List Tm):∀ k,(hdU xs k).Nodup
 | 0=>Km
 | k + 1=>by
  unfold hdU
  split
  ·rw [Kd]; exact zl3 xs k
  ·rename_i h
   rw [Q8]
   refine ⟨zl3 xs k,by simp,fun a ha b hb=>?_⟩
   rw [Q5.1 hb]
   intro e
   exact h (List.any_eq_true.2 ⟨a,ha,zbc.2 e⟩)
theorem zuv (xs:List Tm):∀ k,(hdU xs k).length <= k
 | 0=>Qw _
 | k + 1=>by
  have:=zuv xs k
  unfold hdU
  rw [Qr]
  split <;> simp <;> omega
theorem qce {xs:List Tm}:∀ k,k <= xs.length->∀ j,j < k->xs.getD j Tm.zero ∈ hdU xs k
 | 0,_,_,h=>by omega
 | k + 1,hk,j,h=>by
  unfold hdU
  rw [Qt]
  by_cases hj:j < k
  ·exact Or.inl (qce k (by omega) j hj)
  ·have e:j = k:=by omega
   subst e
   split
   ·rename_i h2
    obtain ⟨a,ha,h3⟩:=List.any_eq_true.1 h2
    rw [zbc] at h3
    exact Or.inl (h3 ▸ ha)
   ·exact Or.inr (by simp)
structure Her (f:Fm) (n:Nat) (tss:List (List Tm)):Prop where
 good:f.good = true
 nodup:(exN f).1.Nodup
 plain:zbu (exN f).2 = true
 len:(exN f).1.length = n
 all:∀ ts ∈ tss,ts.length = n /\ ts.all grT = true /\ (pF ((exN f).1.zip ts) (exN f).2).forms = true
theorem her_0 {f:Fm} {tss:List (List Tm)} (h:Her f 0 tss):(f.op == 9) = false:=by
 cases h9:(f.op == 9)
 ·rfl
 ·obtain ⟨p,hp,_⟩:=ziu h9 (zbw h.good)
  have:=h.len
  rw [zj3 h9 hp] at this
  cases this
theorem qi3 {f:Fm} {n:Nat} {tss:List (List Tm)} (h:Her f (n + 1) tss):f.op = 9 /\ ∃ p,f.parts = [p] /\ p.good = true /\ zay f.var = true:=by
 have hf:=zbw h.good
 cases h9:(f.op == 9)
 ·have:=h.len
  rw [zku h9] at this
  cases this
 ·obtain ⟨p,hp,hpf⟩:=ziu h9 hf
  have e9:=Ki.1 h9
  refine ⟨e9,p,hp,?_,zmo (by rw [Fm.forms_eq,Qa] at hf; exact hf.1) (by rw [e9]; rfl)⟩
  have hn:=zdb (f:=f) (x:=p) (by rw [hp]; simp)
  have hg:=h.good
  unfold Fm.good at hg ⊢
  rw [Qa,Qg] at hg ⊢
  exact ⟨by omega,hpf⟩
theorem zpv {f:Fm} {n:Nat} {tss:List (List Tm)} (h:Her f (n + 1) tss) {ts:List Tm} (hts:ts ∈ tss):grT (ze0 ts) = true /\ (za5 f.var (ze0 ts) (f.parts.getD 0 (mkF 0 []))).2 = true /\ Her (zlc f (ze0 ts)) n (zfa tss (ze0 ts)):=by
 obtain ⟨e9,p,hp,hpg,hvo⟩:=qi3 h
 have h9:(f.op == 9) = true:=Ki.2 e9
 have hN:=zj3 h9 hp
 have hnd:=h.nodup
 have hpl:=h.plain
 have hlen:=h.len
 have hall:=h.all
 rw [hN] at hnd hpl hlen hall
 simp only [Qm,Nat.add_right_cancel_iff] at hlen
 obtain ⟨hx,hnd2⟩:=Ku.1 hnd
 have hpd:f.parts.getD 0 (mkF 0 []) = p:=by rw [hp]; rfl
 obtain ⟨k1,k2,k3⟩:=hall ts hts
 obtain ⟨t,us,rfl⟩ : ∃ t us,ts = t :: us:=by
  cases ts with
  | nil=>cases k1
  | cons t us=>exact ⟨t,us,rfl⟩
 have ht:ze0 (t :: us) = t:=rfl
 rw [ht]
 simp only [Ks,Qa] at k2
 obtain ⟨g1,g2⟩:=k2
 have hg1:t.good = true /\ voS t = []:=by unfold grT at g1; rw [Qa,Qg] at g1; exact g1
 have hpf:=zbw hpg
 have hM:=zm0 p hpf
 have hvs:∀ n ∈ (exN p).1,zay n = true:=fun n hn=>(zgh p).2 n hn hpf
 have k3:(pF ((f.var,t) :: (exN p).1.zip us) (exN p).2).forms = true:=k3
 have hA:=formsA hM hg1.1 hg1.2 k3
 obtain ⟨o1,o2⟩:=putEx f.var t hvo hg1.1 hg1.2 p hpf hx hpl hA
 unfold zlc
 rw [hpd]
 refine ⟨g1,o1,?_,by rw [o2.names]; exact hnd2,o2.plain,by rw [o2.names]; exact hlen,fun vs hvs2=>?_⟩
 ·unfold Fm.good
  rw [Qa,Qg]
  refine ⟨?_,o2.forms⟩
  rw [o2.nodes]
  unfold Fm.good at hpg
  rw [Qa,Qg] at hpg
  exact hpg.1
 ·unfold zfa at hvs2
  obtain ⟨ws,hws,rfl⟩:=Kf.1 hvs2
  rw [Yh] at hws
  obtain ⟨q1,q2,q3⟩:=hall ws hws.1
  obtain ⟨t2,ws,rfl⟩ : ∃ t us,ws = t :: us:=by
   cases ws with
   | nil=>cases q1
   | cons t us=>exact ⟨t,us,rfl⟩
  have e2:t2 = t:=zbc.1 hws.2
  subst e2
  simp only [Ks,Qa] at q2
  have q3:(pF ((f.var,t2) :: (exN p).1.zip ws) (exN p).2).forms = true:=q3
  have q1:ws.length = n:=by simpa using q1
  refine ⟨q1,q2.2,?_⟩
  show (pF ((exN (za5 f.var t2 p).1).1.zip ws) _).forms = true
  rw [o2.names]
  refine o2.inst _ (zq4 hvs q2.2) (fun pr hpr e=>?_) q3
  exact hx (e ▸ (List.of_mem_zip hpr).1)
noncomputable def gdE:Ex->Prop:=Ex.fold fun f ts ps rs=>f.good = true /\ (∀ t ∈ ts,t.good = true) /\ ts.length <= ps.length /\ ∀ r ∈ rs,r
theorem zye (e:Ex):gdE e = (e.form.good = true /\ (∀ t ∈ e.terms,t.good = true) /\ e.terms.length <= e.parts.length /\ ∀ r ∈ e.parts.map gdE,r):=Ex.fold_eq _ e
end
section
set_option maxRecDepth 4000
open Go.RowKit
theorem qaa {a:Tm} (h:a.atomOk = true):a.wt <= 238:=by
 rw [zc9,Qa] at h
 obtain ⟨h1,h2⟩:=h
 have h4:=(zns h1).2
 have hl:a.name.length <= 6:=by
  unfold nmA at h1
  split at h1
  ·rename_i he
   rw [Ki.1 he]; simp
  ·rw [Qa] at h1
   have h1:=h1.1
   unfold zc4 inB at h1
   simp only [Qa,Qg] at h1
   omega
 unfold zdc at h2
 simp only [Qa,Qg] at h2
 have hn:=a.nodes_eq
 have hw:=a.wt_eq
 have h3:=zl0 (xs:=a.args) fun x hx=>zpa x (Ql.1 h4 x hx)
 omega
theorem qdj:∀ f:Fm,f.forms = true->f.wt <= 238 * f.nodes:=za8 fun o a v xs ih hf=>by
 obtain ⟨hh,hx⟩:=zeq hf
 have hw:(Fm.mk o a v xs).wt = a.wt + v.length + xs.length + (xs.map Fm.wt).sum:=Fm.wt_eq _
 have hn:(Fm.mk o a v xs).nodes = 1 + (xs.map Fm.nodes).sum:=Fm.nodes_eq _
 have hs:(xs.map Fm.wt).sum <= (xs.map fun x=>238 * x.nodes).sum:=zje _ _ xs fun x hm=>ih x hm (hx x hm)
 have hs2:(xs.map fun x=>238 * x.nodes).sum = 238 * (xs.map Fm.nodes).sum:=by
  clear hs hw hn hx hh hf ih
  induction xs with
  | nil=>rfl
  | cons x xs ih2=>rw [Qi,Q3,ih2,Qi,Q3]; omega
 rw [hw,hn]
 cases h3:o == 3
 ·have h3':((Fm.mk o a v xs).op == 3) = false:=h3
  have ha:a = .mk [] []:=zer hh h3'
  have haw:a.wt = 0:=by rw [ha]; rfl
  have hl:xs.length <= 2 /\ v.length <= 4:=by
   rcases zie hf with ⟨h1,h2⟩ | ⟨p,h1,_⟩ | ⟨o',p,q,_,h1,_⟩ | ⟨o',v',p,ho,h1,_⟩
   ·have h1:xs = []:=h1
    refine ⟨by rw [h1]; simp,?_⟩
    have:=zq2 hh (by rcases h2 with h | h | h <;> (rw [h]; rfl))
    have this:v = []:=this
    rw [this]; simp
   ·cases h1; exact ⟨by simp,by simp⟩
   ·cases h1; exact ⟨by simp,by simp⟩
   ·cases h1
    refine ⟨by simp,?_⟩
    have:=zmo hh (by rcases ho with h | h <;> (rw [show (Fm.mk o _ v [p]).op = o from rfl,h]; rfl))
    have this:zay v = true:=this
    unfold zay inB at this
    simp only [Qa,Qg] at this
    omega
  omega
 ·obtain ⟨rfl,rfl,rfl,h4⟩:=zkf h3 hh
  have:=qaa h4
  simp only [Qv,Qy,Yj]
  omega
theorem zdh {f:Fm} (h:f.good = true):f.wt <= 9520 /\ f.nodes <= 40:=by
 have h1:=qdj f (zbw h)
 unfold Fm.good at h
 rw [Qa,Qg] at h
 omega
theorem qjo {ts:List Tm} (h:∀ t ∈ ts,t.good = true):zec ts <= 241 * ts.length:=by
 unfold zec
 induction ts with
 | nil=>exact Qw _
 | cons t ts ih =>
  have h1:=ih fun x hx=>h x (by simp [hx])
  have h2:=zhq (h t (by simp))
  rw [Qi,Q3,Qm]; omega
theorem zx2 {α:Type} (g:α->Nat) (c:Nat):∀ ps:List α,(ps.map fun p=>g p + c).sum = (ps.map g).sum + c * ps.length
 | []=>rfl
 | p :: ps=>by rw [Qi,Q3,zx2 g c ps,Qi,Q3,Qm,Nat.mul_add]; omega
theorem zrp {α:Type} (g:α->Nat) (c:Nat):∀ ps:List α,(ps.map fun p=>c * g p).sum = c * (ps.map g).sum
 | []=>rfl
 | p :: ps=>by rw [Qi,Q3,zrp g c ps,Qi,Q3,Nat.mul_add]
theorem qel:∀ e:Ex,gdE e->e.wt + 242 <= 9762 * e.nodes:=zd8 fun f ts ps ih h=>by
 rw [zye] at h
 obtain ⟨h1,h2,h3,h4⟩:=h
 have hw:(Ex.mk f ts ps).wt = f.wt + zec ts + (ps.length + (ps.map Ex.wt).sum):=Ex.wt_eq _
 have hn:(Ex.mk f ts ps).nodes = 1 + (ps.map Ex.nodes).sum:=Ex.nodes_eq _
 have hf:=(zdh h1).1
 have ht:=qjo h2
 have h3:ts.length <= ps.length:=h3
 have hf:f.wt <= 9520:=hf
 have ht:zec ts <= 241 * ts.length:=ht
 have hs:(ps.map fun p=>p.wt + 242).sum <= (ps.map fun p=>9762 * p.nodes).sum:=zje _ _ ps fun p hp=>ih p hp (h4 _ (Kf.2 ⟨p,hp,rfl⟩))
 have e1:=zx2 Ex.wt 242 ps
 have e2:=zrp Ex.nodes 9762 ps
 rw [hw,hn]
 omega
theorem plE_gd:∀ f:Fm,f.good = true->gdE (plE f) /\ (plE f).nodes = f.nodes:=za8 fun o a v xs ih hf=>by
 have hx:∀ x ∈ xs,x.good = true:=fun x hx=>by
  have hn:=zdb (f:=.mk o a v xs) (x:=x) hx
  have h1:=(zeq (zbw hf)).2 x hx
  unfold Fm.good at hf ⊢
  rw [Qa,Qg] at hf ⊢
  exact ⟨by omega,h1⟩
 rw [qmr]
 constructor
 ·rw [zye]
  refine ⟨hf,fun t h=>(by cases h),Ka _,fun r hr=>?_⟩
  obtain ⟨e,he,rfl⟩:=Kf.1 hr
  obtain ⟨x,hx2,rfl⟩:=Kf.1 he
  exact (ih x hx2 (hx x hx2)).1
 ·rw [Ex.nodes_eq,Fm.nodes_eq]
  show 1 + ((xs.map plE).map Ex.nodes).sum = 1 + (xs.map Fm.nodes).sum
  rw [Ke]
  congr 2
  exact Q6 fun x hx2=>(ih x hx2 (hx x hx2)).2
theorem ql5 {t:Tm}:∀ L:List Tm,L.Nodup->(L.map fun a=>if same t a = true then 1 else 0).sum <= 1
 | [],_=>Ka _
 | a :: L,h=>by
  obtain ⟨h1,h2⟩:=Ku.1 h
  have ih:=ql5 (t:=t) L h2
  rw [Qi,Q3]
  split
  ·rename_i hs
   rw [zbc] at hs
   subst hs
   have:(L.map fun a=>if same t a = true then 1 else 0) = L.map fun _=>0:=Q6 fun x hx=>if_neg fun e=>h1 (by rw [zbc.1 e]; exact hx)
   rw [this]
   have:(L.map fun _=>0).sum = 0:=by clear this ih h h1 h2; induction L with | nil=>rfl | cons x L ih=>rw [Qi,Q3,ih]
   omega
  ·omega
theorem qfw {L:List Tm} (h:L.Nodup):∀ tss:List (List Tm),(L.map fun t=>(zfa tss t).length).sum <= tss.length
 | []=>by
  have:(L.map fun t=>(zfa [] t).length) = L.map fun _=>0:=rfl
  rw [this]
  clear this h
  induction L with
  | nil=>exact Qw _
  | cons x L ih=>rw [Qi,Q3]; exact (Q4 _).symm ▸ ih
 | ts :: tss=>by
  have ih:=qfw h tss
  have hi:=ql5 (t:=ze0 ts) L h
  have e:(L.map fun t=>(zfa (ts :: tss) t).length).sum = (L.map fun a=>if same (ze0 ts) a = true then 1 else 0).sum + (L.map fun t=>(zfa tss t).length).sum:=by
   clear ih hi h
   induction L with
   | nil=>rfl
   | cons a L ih =>
    rw [Qi,Q3,ih,Qi,Q3,Qi,Q3]
    have:(zfa (ts :: tss) a).length = (if same (ze0 ts) a = true then 1 else 0) + (zfa tss a).length:=by
     unfold zfa
     rw [List.filter_cons]
     split <;> simp <;> omega
    omega
  rw [e,Qm]; omega
theorem qnr {tss:List (List Tm)} {t:Tm} (h:t ∈ hds tss):1 <= (zfa tss t).length:=by
 obtain ⟨ts,h1,h2⟩:=qdn h
 unfold zfa
 rw [Qb]
 exact List.length_pos_of_mem (Yh.2 ⟨h1,zbc.2 h2⟩)
theorem zuz:∀ (n:Nat) (f:Fm) (tss:List (List Tm)),Her f n tss->gdE (zkv n f tss) /\ (zkv n f tss).nodes <= 40 + (40 + n) * tss.length /\ (1 <= tss.length->(zkv n f tss).nodes <= (40 + n) * tss.length)
 | 0,f,tss,h=>by
  obtain ⟨h1,h2⟩:=plE_gd f h.good
  have h3:=(zdh h.good).2
  refine ⟨h1,?_,fun hl=>?_⟩
  ·show (plE f).nodes <= _; omega
  ·show (plE f).nodes <= _
   have:40 * 1 <= 40 * tss.length:=Nat.mul_le_mul_left _ hl
   omega
 | n + 1,f,tss,h=>by
  have hch:∀ t ∈ hds tss,t.good = true /\ Her (zlc f t) n (zfa tss t):=fun t ht=>by
   obtain ⟨ts,h1,rfl⟩:=qdn ht
   obtain ⟨g1,_,g3⟩:=zpv h h1
   exact ⟨by unfold grT at g1; rw [Qa] at g1; exact g1.1,g3⟩
  have e:zkv (n + 1) f tss = .mk f (hds tss) ((hds tss).map fun t=>zkv n (zlc f t) (zfa tss t)):=rfl
  have hgd:gdE (zkv (n + 1) f tss):=by
   rw [e,zye]
   refine ⟨h.good,fun t ht=>(hch t ht).1,?_,fun r hr=>?_⟩
   ·show (hds tss).length <= ((hds tss).map _).length
    rw [Qb]; exact Qw _
   ·obtain ⟨x,hx,rfl⟩:=Kf.1 hr
    obtain ⟨t,ht,rfl⟩:=Kf.1 hx
    exact (zuz n _ _ (hch t ht).2).1
  have hn:(zkv (n + 1) f tss).nodes = 1 + ((hds tss).map fun t=>(zkv n (zlc f t) (zfa tss t)).nodes).sum:=by
   rw [Ex.nodes_eq,e]
   show 1 + (((hds tss).map fun t=>zkv n (zlc f t) (zfa tss t)).map Ex.nodes).sum = _
   rw [Ke]; rfl
  have hs:((hds tss).map fun t=>(zkv n (zlc f t) (zfa tss t)).nodes).sum <= ((hds tss).map fun t=>(40 + n) * (zfa tss t).length).sum:=zje _ _ _ fun t ht=>(zuz n _ _ (hch t ht).2).2.2 (qnr ht)
  have hp:=qfw (zl3 (tss.map ze0) tss.length) tss
  have e2:((hds tss).map fun t=>(40 + n) * (zfa tss t).length).sum = (40 + n) * ((hds tss).map fun t=>(zfa tss t).length).sum:=by
   generalize hds tss = L
   induction L with
   | nil=>rfl
   | cons t L ih=>rw [Qi,Q3,ih,Qi,Q3,Nat.mul_add]
  have h5:(40 + n) * ((hds tss).map fun t=>(zfa tss t).length).sum <= (40 + n) * tss.length:=Nat.mul_le_mul_left _ hp
  have h6:(40 + (n + 1)) * tss.length = (40 + n) * tss.length + tss.length:=by rw [show 40 + (n + 1) = (40 + n) + 1 by omega,Kq,Yg]
  refine ⟨hgd,by omega,fun hl=>by omega⟩
end
section
set_option maxRecDepth 4000
open Go.RowKit
theorem zx4 (f:Fm):exC (plE f) = [.int .i64 f.op,.str f.atom.name,.sl 2 (f.atom.args.map tmC),.str f.var,.sl 5 (f.parts.map fmC),.sl 2 [],.sl 7 ((f.parts.map plE).map exC)]:=by rw [qmr,zxq]; rfl
theorem qjr (f:Fm) (hf:f.wt <= 1048576) (H:∀ p ∈ f.parts,FC Tryz.prog 112 [fmD p] [exD (plE p)]):FC Tryz.prog 112 [fmD f] [exD (plE f)]:=by
 have hW:=f.wt_eq
 have HF:=zf0 f (by omega)
 simp only [exD,zx4 f,fmD,zab f] at HF ⊢
 refine zaj Tryz.call112 Tryz.func112 rfl (by kernel_rfl) (zax (by kernel_rfl)) ?_
 simp -implicitDefEqProofs only[go_sem,Tryz.results112]
 refine callF (HF) (by simp -implicitDefEqProofs only[go_sem]) ?_
 simp -implicitDefEqProofs only[go_sem]
 refine zae (fun k:Nat=>hd [(2,.one (.bx 2 0)),(3,.one (.bx 3 0)),(10,vT (fmS f.parts)),(11,vI f.parts.length),(12,vI k)] [(2,[.t (.int .i64 0),.t (.str []),.nl 2,.t (.str []),.nl 5,.nl 2,.nl 7]),(3,[.t (.int .i64 f.op),.t (.str f.atom.name),.ow 226 0,.t (.str f.var),.ow 228 0,.nl 2,.ow 3001 0])]
  [(226,⟨true,2,f.atom.args.map tmC,0,true⟩),(228,⟨true,5,f.parts.map fmC,0,true⟩),(3001,⟨true,7,((f.parts.take k).map plE).map exC,0,true⟩)]) (fun k=>k <= f.parts.length) (fun k=>f.parts.length - k) 0 (zac ?_) (Ka _) ?_
 ·simp -implicitDefEqProofs only[go_sem]
 ·intro k hk
  by_cases hlt:k < f.parts.length
  ·have hmin:min k f.parts.length <= 4294967295:=by omega
   have HC:=H f.parts[k] (Qe hlt)
   simp only [exD,fmD,zap (plE f.parts[k]),zab f.parts[k]] at HC
   simp -implicitDefEqProofs only[go_sem,hlt,zad,zab f.parts[k]]
   refine drawn (by kernel_rfl) ?_
   simp -implicitDefEqProofs only[go_sem]
   refine zao (HC) (by simp -implicitDefEqProofs only[go_sem]) ?_
   simp -implicitDefEqProofs only[go_sem]
   refine zbi (by simp -implicitDefEqProofs only[go_sem]) ?_
   simp -implicitDefEqProofs only[go_sem]
   refine zj0 true (by simp -implicitDefEqProofs only[go_sem,ne_eq,Qb,Qp,hmin]) ?_
   simp -implicitDefEqProofs only[go_sem,ne_eq,Qb,Qp,hmin]
   refine ⟨by kernel_rfl,k + 1,hlt,by omega,zac ?_⟩
   simp -implicitDefEqProofs only[go_sem]
   rw [zal (by omega),Qf hlt,Q0,Q7,<-zap (plE f.parts[k])]
   exact ⟨rfl,rfl⟩
  ·have ht:f.parts.take k = f.parts:=Qk (by omega)
   simp -implicitDefEqProofs only[go_sem,hlt,ht]
theorem qnc:∀ f:Fm,f.wt <= 1048576->FC Tryz.prog 112 [fmD f] [exD (plE f)] :=
 za8 fun o a v ps ih hf=>qjr (.mk o a v ps) hf fun p hp=>ih p hp (Kg (zbt (a:=.mk o a v ps) hp) hf)
theorem zux (f:Fm) (hf:f.wt <= 1048576) (H:∀ p ∈ f.parts,FC Tryz.prog 98 [fmD p] [exD (plE p)]):FC Tryz.prog 98 [fmD f] [exD (plE f)]:=by
 have hW:=f.wt_eq
 have HF:=zmg f (by omega)
 simp only [exD,zx4 f,fmD,zab f] at HF ⊢
 refine zaj Tryz.call98 Tryz.func98 rfl (by kernel_rfl) (zax (by kernel_rfl)) ?_
 simp -implicitDefEqProofs only[go_sem,Tryz.results98]
 refine callF (HF) (by simp -implicitDefEqProofs only[go_sem]) ?_
 simp -implicitDefEqProofs only[go_sem]
 refine zae (fun k:Nat=>hd [(1,.one (.bx 1 0)),(2,.one (.bx 2 0)),(3,.one (.bx 3 0)),(4,vI k)] [(1,[.t (.int .i64 f.op),.t (.str f.atom.name),.t (tmS f.atom.args),.t (.str f.var),.t (fmS f.parts)]),(2,[.t (.int .i64 0),.t (.str []),.nl 2,.t (.str []),.nl 5,.nl 2,.nl 7]),(3,[.t (.int .i64 f.op),.t (.str f.atom.name),.ow 194 0,.t (.str f.var),.ow 196 0,.nl 2,.ow 3001 0])]
  [(194,⟨true,2,f.atom.args.map tmC,0,true⟩),(196,⟨true,5,f.parts.map fmC,0,true⟩),(3001,⟨true,7,((f.parts.take k).map plE).map exC,0,true⟩)]) (fun k=>k <= f.parts.length) (fun k=>f.parts.length - k) 0 (zac ?_) (Ka _) ?_
 ·simp -implicitDefEqProofs only[go_sem]
 ·intro k hk
  by_cases hlt:k < f.parts.length
  ·have hmin:min k f.parts.length <= 4294967295:=by omega
   have HC:=H f.parts[k] (Qe hlt)
   simp only [exD,fmD,zap (plE f.parts[k]),zab f.parts[k]] at HC
   simp -implicitDefEqProofs only[go_sem,hlt]
   refine drawn (by kernel_rfl) ?_
   simp -implicitDefEqProofs only[go_sem,hlt,zad,zab f.parts[k]]
   refine zao (HC) (by simp -implicitDefEqProofs only[go_sem]) ?_
   simp -implicitDefEqProofs only[go_sem]
   refine zbi (by simp -implicitDefEqProofs only[go_sem]) ?_
   simp -implicitDefEqProofs only[go_sem]
   refine zj0 true (by simp -implicitDefEqProofs only[go_sem,ne_eq,Qb,Qp,hmin]) ?_
   simp -implicitDefEqProofs only[go_sem,ne_eq,Qb,Qp,hmin]
   refine ⟨by kernel_rfl,k + 1,hlt,by omega,zac ?_⟩
   simp -implicitDefEqProofs only[go_sem]
   rw [zal (by omega),Qf hlt,Q0,Q7,<-zap (plE f.parts[k])]
   exact ⟨rfl,rfl⟩
  ·have ht:f.parts.take k = f.parts:=Qk (by omega)
   simp -implicitDefEqProofs only[go_sem,hlt,ht]
theorem qaw:∀ f:Fm,f.wt <= 1048576->FC Tryz.prog 98 [fmD f] [exD (plE f)] :=
 za8 fun o a v ps ih hf=>zux (.mk o a v ps) hf fun p hp=>ih p hp (Kg (zbt (a:=.mk o a v ps) hp) hf)
end
section
set_option maxRecDepth 4000
open Go.RowKit
theorem zx9 (xs:List Tm) (k:Nat):hdU xs (k + 1) = hdU xs k ++ if ((hdU xs k).any fun a=>same a (xs.getD k Tm.zero)) = true then [] else [xs.getD k Tm.zero]:=rfl
theorem qlc (tss:List (List Tm)) (t:Tm) {j:Nat} (h:j < tss.length):zfa (tss.take (j + 1)) t = zfa (tss.take j) t ++ if same (ze0 tss[j]) t = true then [tss[j].tail] else []:=by
 unfold zfa
 rw [zf9 _ tss h,Q0]
 congr 1
 split <;> rfl
theorem qdg (tss:List (List Tm)) (t:Tm):(zfa tss t).length <= tss.length:=by
 unfold zfa
 rw [Qb]
 exact J2 _ _
theorem sb_her {f:Fm} {n:Nat} {tss:List (List Tm)} (h:Her f (n + 1) tss) {ts:List Tm} (hts:ts ∈ tss):sbF f.var (ze0 ts) (f.parts.getD 0 (mkF 0 [])) = (zlc f (ze0 ts),true):=by
 obtain ⟨g1,o1,H1⟩:=zpv h hts
 obtain ⟨_,p,hp,hpg,hvo⟩:=qi3 h
 have hpd:f.parts.getD 0 (mkF 0 []) = p:=by rw [hp]; rfl
 have hgg:=H1.good
 unfold zlc at hgg ⊢
 rw [hpd] at o1 hgg ⊢
 have hg1:(ze0 ts).good = true:=by unfold grT at g1; rw [Qa] at g1; exact g1.1
 obtain ⟨k1,k2⟩:=zui f.var (ze0 ts) hvo (zhl hg1) p (zbw hpg)
 have e:=k2 o1 (zbw hgg)
 have e2:=(k1.2 ⟨o1,zbw hgg⟩).1
 unfold sbF
 rw [hpg,hvo,hg1,e2,e,hgg]
 rfl
abbrev qnb (n:Nat) (f:Fm) (tss:List (List Tm)):Prop:=FC Tryz.prog 47 [fmD f,.one (zht tss)] [exD (zkv n f tss),bD true]
set_option maxHeartbeats 4000000 in
theorem qes (n:Nat) (H:∀ (f:Fm) (tss:List (List Tm)),Her f n tss->tss.length <= 40->qnb n f tss) (f:Fm) (tss:List (List Tm)) (h:Her f (n + 1) tss) (hl:tss.length <= 40):qnb (n + 1) f tss:=by
 obtain ⟨e9,p,hp,hpg,hvo⟩:=qi3 h
 have hfw:=(zdh h.good).1
 have hpw:=(zdh hpg).1
 have HF:=zf0 f (by omega)
 have e:zkv (n + 1) f tss = .mk f (hds tss) ((hds tss).map fun t=>zkv n (zlc f t) (zfa tss t)):=rfl
 unfold qnb
 rw [e]
 simp only [exD,zxq,fmD,zab f,e9] at HF ⊢
 refine zaj Tryz.call47 Tryz.func47 rfl (by kernel_rfl) (zax (by kernel_rfl)) ?_
 simp -implicitDefEqProofs only[go_sem,Tryz.results47]
 refine callF (HF) (by simp -implicitDefEqProofs only[go_sem]) ?_
 simp -implicitDefEqProofs only[go_sem]
 refine zae (fun k:Nat=>hd [(1,vT (zht tss)),(2,.one (.bx 2 0)),(4,.one (.bx 4 0)),(5,vT (.bool false)),(6,.one (.bx 6 0)),(23,vT (zht tss)),(24,vI tss.length),(25,vI k)] [(2,[.t (.int .i64 9),.t (.str f.atom.name),.t (tmS f.atom.args),.t (.str f.var),.t (fmS f.parts)]),(4,[.t (.int .i64 0),.t (.str []),.nl 2,.t (.str []),.nl 5,.nl 2,.nl 7]),(6,[.t (.int .i64 9),.t (.str f.atom.name),.ow 674 0,.t (.str f.var),.ow 676 0,.ow 3000 0,.ow 3001 0])]
  [(674,⟨true,2,f.atom.args.map tmC,0,true⟩),(676,⟨true,5,f.parts.map fmC,0,true⟩),(3000,⟨true,2,(hdU (tss.map ze0) k).map tmC,0,true⟩),(3001,⟨true,7,((hdU (tss.map ze0) k).map fun t=>zkv n (zlc f t) (zfa tss t)).map exC,0,true⟩)]) (fun k=>k <= tss.length) (fun k=>tss.length - k) 0 (zac ?_) (Ka _) ?_
 ·simp -implicitDefEqProofs only[go_sem,hdU]
 ·intro k hk
  by_cases hlt:k < tss.length
  ·have hts:=Qe hlt
   obtain ⟨t,us,htu⟩ : ∃ t us,tss[k] = t :: us:=by
    have:=(h.all _ hts).1
    cases hx:tss[k] with
    | nil=>rw [hx] at this; cases this
    | cons t us=>exact ⟨t,us,rfl⟩
   have hft:ze0 tss[k] = t:=by rw [htu]; rfl
   have hSP:=sb_her h hts
   obtain ⟨g1,o1,H1⟩:=zpv h hts
   rw [hft] at hSP g1 H1
   have hUs:=zx9 (tss.map ze0) k
   rw [show (tss.map ze0).getD k Tm.zero = t by rw [zdr (by simpa using hlt),Yf,hft]] at hUs
   have hUl:=zuv (tss.map ze0) k
   have hgt:t.good = true:=by unfold grT at g1; rw [Qa] at g1; exact g1.1
   have htw:=zhq hgt
   have HI:=zja (hdU (tss.map ze0) k) t
   have hany:=zhp (hdU (tss.map ze0) k) (fun a=>same a t)
   have HS:=zej p f.var t (by omega) (by omega) (by
    have:(1 + p.wt) * t.wt <= 10000 * 240:=Ye (by omega) htw
    omega)
   rw [show f.parts.getD 0 (mkF 0 []) = p by rw [hp]; rfl] at hSP
   rw [hSP] at HS
   have HR:=H (zlc f t) (zfa tss t) H1 (Kg (qdg tss t) hl)
   have HC:=zeg t (by omega)
   unfold qnb at HR
   generalize hq:zkv n (zlc f t) (zfa tss t) = q at HR
   generalize hg:zlc f t = g at HS HR
   simp only [tmD,zaa t,fmD,zab p,zab g,exD,zap q] at HI HS HR HC
   generalize hU:hdU (tss.map ze0) k = U at HI hany hUs hUl ⊢
   generalize zxz U (fun a=>same a t) = x at HI hany
   have hul:U.length <= 4294967295:=by omega
   have hp0:(0:Int) < ((us.length + 1:Nat):Int):=by omega
   cases hb:(U.any fun a=>same a t)
   ·have hx0:(x >= 0) = False:=by rw [hb,Ko] at hany; simpa using hany
    rw [hb,if_neg (by simp)] at hUs
    simp -implicitDefEqProofs only[go_sem,hlt,zad,htu]
    refine drawn (by kernel_rfl) ?_
    simp -implicitDefEqProofs only[go_sem,zaa t,hp0]
    refine zao (HI) (by simp -implicitDefEqProofs only[go_sem,hx0]) ?_
    simp -implicitDefEqProofs only[go_sem,hx0]
    refine ⟨by kernel_rfl,?_⟩
    refine drawn (by kernel_rfl) ?_
    simp -implicitDefEqProofs only[go_sem,zaa t,hp0,hp,zab p]
    refine zao (HS) (by simp -implicitDefEqProofs only[go_sem]) ?_
    simp -implicitDefEqProofs only[go_sem]
    refine ⟨by kernel_rfl,?_⟩
    refine zgl (by simp -implicitDefEqProofs only[go_sem]) ?_
    simp -implicitDefEqProofs only[go_sem]
    refine zae (fun j:Nat=>hd [(1,vT (zht tss)),(2,.one (.bx 2 0)),(4,.one (.bx 4 0)),(5,vT (.bool false)),(6,.one (.bx 6 0)),(8,vT (.sl 2 (tmC t :: us.map tmC))),(9,.one (.bx 9 0)),(11,.one (.ow 1664 0)),(23,vT (zht tss)),(24,vI tss.length),(25,vI k),(53,vT (zht tss)),(54,vI tss.length),(55,vI j)] [(2,[.t (.int .i64 9),.t (.str f.atom.name),.t (tmS f.atom.args),.t (.str f.var),.t (fmS f.parts)]),(4,[.t (.int .i64 0),.t (.str []),.nl 2,.t (.str []),.nl 5,.nl 2,.nl 7]),(6,[.t (.int .i64 9),.t (.str f.atom.name),.ow 674 0,.t (.str f.var),.ow 676 0,.ow 3000 0,.ow 3001 0]),(9,[.t (.int .i64 g.op),.t (.str g.atom.name),.ow 1474 0,.t (.str g.var),.ow 1476 0])]
     [(674,⟨true,2,f.atom.args.map tmC,0,true⟩),(676,⟨true,5,f.parts.map fmC,0,true⟩),(3000,⟨true,2,U.map tmC,0,true⟩),(3001,⟨true,7,(U.map fun t=>zkv n (zlc f t) (zfa tss t)).map exC,0,true⟩),(1474,⟨true,2,g.atom.args.map tmC,0,true⟩),(1476,⟨true,5,g.parts.map fmC,0,true⟩),(1664,⟨false,1,(zfa (tss.take j) t).map fun s=>[tmS s],0,true⟩)]) (fun j=>j <= tss.length) (fun j=>tss.length - j) 0 (zac ?_) (Ka _) ?_
    ·simp -implicitDefEqProofs only[go_sem]
     exact ⟨rfl,by rw [hp],by rw [hp,Q7,zab p],rfl⟩
    ·intro j hj
     by_cases hlj:j < tss.length
     ·obtain ⟨t2,us2,htu2⟩ : ∃ t us,tss[j] = t :: us:=by
       have:=(h.all _ (Qe hlj)).1
       cases hx:tss[j] with
       | nil=>rw [hx] at this; cases this
       | cons t us=>exact ⟨t,us,rfl⟩
      have hrt:=qlc tss t hlj
      rw [htu2] at hrt
      have hrl:=qdg (tss.take j) t
      have hrl2:(zfa (tss.take j) t).length <= 4294967295:=by rw [Qp] at hrl; omega
      have HE:=zha t2 t
      have hp2:(0:Int) < ((us2.length + 1:Nat):Int):=by omega
      simp only [tmD,zaa t2,zaa t] at HE
      cases hs:same t2 t
      ·have hrt:zfa (tss.take (j + 1)) t = zfa (tss.take j) t:=by rw [hrt,show same (ze0 (t2 :: us2)) t = false from hs,if_neg (by simp),Kd]
       rw [hs] at HE
       simp -implicitDefEqProofs only[go_sem,hlj,zad,htu2]
       refine drawn (by kernel_rfl) ?_
       simp -implicitDefEqProofs only[go_sem,zaa t2,zaa t,hp0,hp2]
       refine zao (HE) (by simp -implicitDefEqProofs only[go_sem]) ?_
       simp -implicitDefEqProofs only[go_sem]
       refine ⟨by kernel_rfl,j + 1,hlj,by omega,zac ?_⟩
       simp -implicitDefEqProofs only[go_sem]
       rw [zal (by omega),hrt]
       exact ⟨rfl,rfl⟩
      ·have hrt:zfa (tss.take (j + 1)) t = zfa (tss.take j) t ++ [us2]:=by rw [hrt,show same (ze0 (t2 :: us2)) t = true from hs,if_pos rfl]; rfl
       rw [hs] at HE
       simp -implicitDefEqProofs only[go_sem,hlj,zad,htu2]
       refine drawn (by kernel_rfl) ?_
       simp -implicitDefEqProofs only[go_sem,zaa t2,zaa t,hp0,hp2]
       refine zao (HE) (by simp -implicitDefEqProofs only[go_sem]) ?_
       simp -implicitDefEqProofs only[go_sem]
       refine ⟨by kernel_rfl,by omega,?_⟩
       refine zgl (by simp -implicitDefEqProofs only[go_sem]) ?_
       simp -implicitDefEqProofs only[go_sem]
       refine apD false (by simp -implicitDefEqProofs only[go_sem,ne_eq,Qb,hrl2]) ?_
       simp -implicitDefEqProofs only[go_sem,ne_eq,Qb,hrl2]
       refine ⟨j + 1,hlj,by omega,zac ?_⟩
       simp -implicitDefEqProofs only[go_sem]
       rw [zal (by omega),hrt,Q0,Q7,Qk (l:=us2.map tmC) (by rw [Qb]; exact Qw _)]
       exact ⟨rfl,rfl⟩
     ·have htk:tss.take j = tss:=Qk (by omega)
      rw [htk]
      simp -implicitDefEqProofs only[go_sem,hlj]
      refine callF (HR) (by simp -implicitDefEqProofs only[go_sem]) ?_
      simp -implicitDefEqProofs only[go_sem]
      refine drawn (by kernel_rfl) ?_
      simp -implicitDefEqProofs only[go_sem,zaa t,hp0]
      refine zao (HC) (by simp -implicitDefEqProofs only[go_sem]) ?_
      simp -implicitDefEqProofs only[go_sem]
      refine zbi (by simp -implicitDefEqProofs only[go_sem]) ?_
      simp -implicitDefEqProofs only[go_sem]
      refine zj0 true (by simp -implicitDefEqProofs only[go_sem,ne_eq,Qb,hul]) ?_
      simp -implicitDefEqProofs only[go_sem,ne_eq,Qb,hul]
      refine ⟨by kernel_rfl,?_⟩
      refine zbx (by simp -implicitDefEqProofs only[go_sem]) ?_
      simp -implicitDefEqProofs only[go_sem]
      refine apD true (by simp -implicitDefEqProofs only[go_sem,ne_eq,Qb,hul]) ?_
      simp -implicitDefEqProofs only[go_sem,ne_eq,Qb,hul]
      refine ⟨k + 1,hlt,by omega,zac ?_⟩
      simp -implicitDefEqProofs only[go_sem]
      rw [zal (by omega),hUs]
      exact ⟨rfl,by rw [hp],by rw [hp,Q7,zab p],by rw [Q0,Q7,zaa t],by rw [Q0,Q7]; simp only [Function.comp_apply,hq,zap q]⟩
   ·have hx0:(x >= 0) = True:=by rw [hb,Qg] at hany; simpa using hany
    rw [hb,if_pos rfl,Kd] at hUs
    simp -implicitDefEqProofs only[go_sem,hlt,zad,htu]
    refine drawn (by kernel_rfl) ?_
    simp -implicitDefEqProofs only[go_sem,zaa t,hp0]
    refine zao (HI) (by simp -implicitDefEqProofs only[go_sem,hx0]) ?_
    simp -implicitDefEqProofs only[go_sem,hx0]
    refine ⟨by kernel_rfl,k + 1,hlt,by omega,zac ?_⟩
    simp -implicitDefEqProofs only[go_sem]
    rw [zal (by omega),hUs]
    exact ⟨rfl,rfl,rfl⟩
  ·have hkn:k = tss.length:=by omega
   subst hkn
   simp -implicitDefEqProofs only[go_sem,hlt]
   exact ⟨rfl,rfl⟩
theorem zx8:∀ (n:Nat) (f:Fm) (tss:List (List Tm)),Her f n tss->tss.length <= 40->qnb n f tss
 | 0,f,tss,h,_=>by
  have h9:=her_0 h
  have h9n:(f.op != 9) = true:=by unfold bne; rw [h9]; rfl
  have hw:=(zdh h.good).1
  have HP:=qnc f (by omega)
  unfold qnb
  show FC _ _ _ [exD (plE f),bD true]
  simp only [exD,zx4 f,fmD,zab f] at HP ⊢
  refine zaj Tryz.call47 Tryz.func47 rfl (by kernel_rfl) (zax (by kernel_rfl)) ?_
  simp -implicitDefEqProofs only[go_sem,Tryz.results47,h9n]
  refine callF (HP) (by simp -implicitDefEqProofs only[go_sem]) ?_
  simp -implicitDefEqProofs only[go_sem]
 | n + 1,f,tss,h,hl=>qes n (fun f tss h hl=>zx8 n f tss h hl) f tss h hl
end
section
set_option maxRecDepth 4000
open Go.RowKit
theorem zoc (op:Int) (z:Fm):∀ xs:List Fm,xs.length <= (zdk op xs z).nodes
 | []=>Ka _
 | [x]=>by
  have:=x.nodes_eq
  show 1 <= x.nodes
  omega
 | x :: y :: xs=>by
  have ih:=zoc op z (y :: xs)
  have e:zdk op (x :: y :: xs) z = mkF op [x,zdk op (y :: xs) z]:=rfl
  rw [e,Fm.nodes_eq]
  show _ <= 1 + ([x,zdk op (y :: xs) z].map Fm.nodes).sum
  have:=x.nodes_eq
  simp only [Qi,Qy,Q3,Yj,Qm] at ih ⊢
  omega
theorem qff {f:Fm} {tss:List (List Tm)} (h:hdB f tss = true):Her f (exN f).1.length tss /\ tss.length <= 40:=by
 unfold hdB qh0 at h
 simp only [Qa] at h
 obtain ⟨⟨h1,h2⟩,h3⟩:=h
 obtain ⟨p1,p2,p3,p4⟩:=zj8 h1
 have hn:=zoc 6 (mkF 2 []) (tss.map (zv4 f))
 rw [Qb] at hn
 have hg:=(zdh h3).2
 refine ⟨⟨p1,p2,p3,rfl,fun ts hts=>?_⟩,?_⟩
 ·have h4:=Ql.1 h2 ts hts
  unfold okT at h4
  rw [Qa,Qg] at h4
  have h5:=zlr 6 (Or.inr (Or.inl rfl)) (mkF 2 []) h3 (zv4 f ts) (Kf.2 ⟨ts,hts,rfl⟩)
  exact ⟨h4.1,h4.2,zbw h5⟩
 ·unfold zzz at hg
  omega
theorem znf (e:Ex) (hg:gdE e) (hn:e.nodes <= 10000) (pos:Bool):FC Tryz.prog 30 [exD e,bD pos] [bD (qa7 e pos)]:=by
 have hw:=qel e hg
 by_cases h60:e.nodes <= 60
 ·exact zin e (by omega) pos
 ·have hv:qa7 e pos = (decide (e.nodes <= 60) && e.form.good && (zb7 e pos []).1 && !((zb7 e pos []).2.any fun n=>(zba [] (vf e.form [])).contains n)):=rfl
  have HN:=zsb e (by omega)
  have hs:=zwu e
  have hn:decide (e.nodes <= 60) = false:=decide_eq_false h60
  have hs2:decide (60 < zfk e) = true:=by rw [hn] at hs; rw [Qg]; rw [Ko] at hs; omega
  rw [hn,Qj,Qj,Qj] at hv
  rw [hv]
  simp only [exD,zap] at HN ⊢
  refine zcq Tryz.call30 Tryz.func30 rfl (by kernel_rfl) (zax (by kernel_rfl)) ?_
  simp -implicitDefEqProofs only[go_sem,Tryz.results30]
  refine callF (HN) (by simp -implicitDefEqProofs only[go_sem,hs2]) ?_
  simp -implicitDefEqProofs only[go_sem,hs2]
noncomputable def exZ:Ex:=.mk (mkF 0 []) [] []
theorem zzr:exC exZ = [.int .i64 0,.str [],.sl 2 [],.str [],.sl 5 [],.sl 2 [],.sl 7 []]:=by unfold exZ; rw [zxq]; rfl
noncomputable def etE (f:Fm) (tss:List (List Tm)):Ex:=zkv (exN f).1.length f tss
noncomputable def etR (f:Fm) (tss:List (List Tm)):Ex × Bool:=if hdB f tss = true then (if (f.op == 9) = true then (if zhy (etE f tss) true = true then (etE f tss,true) else (exZ,false)) else (exZ,false)) else (exZ,false)
theorem qbz {f:Fm} {tss:List (List Tm)} (h:hdB f tss = true):gdE (etE f tss) /\ (etE f tss).nodes <= 10000:=by
 obtain ⟨h1,h2⟩:=qff h
 obtain ⟨g1,g2,_⟩:=zuz _ _ _ h1
 have h3:=ze8 f
 have h4:=(zdh h1.good).2
 have h5:(40 + (exN f).1.length) * tss.length <= 80 * 40:=Ye (by omega) h2
 exact ⟨g1,by unfold etE; omega⟩
theorem etR_wt (f:Fm) (tss:List (List Tm)):(etR f tss).1.wt <= 1000000:=by
 have hz:exZ.wt <= 1000000:=by
  have e:exZ.wt = (mkF 0 []).wt + zec [] + (0 + 0):=Ex.wt_eq _
  have e2:(mkF 0 []).wt = 0 + 0 + 0 + 0:=Fm.wt_eq _
  have e3:zec [] = 0:=rfl
  omega
 unfold etR
 split
 ·rename_i h
  split
  ·split
   ·rename_i hs
    have hw:=qel _ (qbz h).1
    unfold zhy at hs
    simp only [Qa,Qg] at hs
    show (etE f tss).wt <= 1000000
    have:=hs.1.1.2
    omega
   ·exact hz
  ·exact hz
 ·exact hz
set_option maxHeartbeats 2000000 in
theorem qi4 (f:Fm) (hw:f.wt <= 1048576) (tss:List (List Tm)) (ht:zxg tss <= 1048576):FC Tryz.prog 12 [fmD f,.one (zht tss)] [exD (etR f tss).1,bD (etR f tss).2]:=by
 have HH:=qlk f hw tss ht
 unfold etR
 cases hb:hdB f tss
 ·rw [hb] at HH
  rw [if_neg (by simp)]
  simp only [exD,zzr,fmD,zab f,zab (hdR f tss)] at HH ⊢
  refine zaj Tryz.call12 Tryz.func12 rfl (by kernel_rfl) (zax (by kernel_rfl)) ?_
  simp -implicitDefEqProofs only[go_sem,Tryz.results12]
  refine callF (HH) (by simp -implicitDefEqProofs only[go_sem]) ?_
  simp -implicitDefEqProofs only[go_sem]
 ·rw [hb] at HH
  rw [if_pos rfl]
  obtain ⟨h1,h2⟩:=qff hb
  obtain ⟨g1,g2⟩:=qbz hb
  have HX:=zx8 _ f tss h1 h2
  have HV:=znf _ g1 g2 true
  rw [qih] at HV
  unfold qnb at HX
  have he:zkv (exN f).1.length f tss = etE f tss:=rfl
  rw [he] at HX
  generalize etE f tss = e at HX HV ⊢
  simp only [exD,zap e,fmD,zab f,zab (hdR f tss)] at HH HX HV ⊢
  cases h9:(f.op == 9)
  ·have h9n:(f.op != 9) = true:=by unfold bne; rw [h9]; rfl
   rw [if_neg (by simp)]
   simp only [zzr]
   refine zaj Tryz.call12 Tryz.func12 rfl (by kernel_rfl) (zax (by kernel_rfl)) ?_
   simp -implicitDefEqProofs only[go_sem,Tryz.results12]
   refine callF (HH) (by simp -implicitDefEqProofs only[go_sem,h9n]) ?_
   simp -implicitDefEqProofs only[go_sem,h9n]
  ·have h9n:(f.op != 9) = false:=by unfold bne; rw [h9]; rfl
   rw [if_pos rfl]
   cases hs:zhy e true
   ·rw [hs] at HV
    rw [if_neg (by simp)]
    simp only [zzr]
    refine zaj Tryz.call12 Tryz.func12 rfl (by kernel_rfl) (zax (by kernel_rfl)) ?_
    simp -implicitDefEqProofs only[go_sem,Tryz.results12]
    refine callF (HH) (by simp -implicitDefEqProofs only[go_sem,h9n]) ?_
    simp -implicitDefEqProofs only[go_sem,h9n]
    refine callF (HX) (by simp -implicitDefEqProofs only[go_sem]) ?_
    simp -implicitDefEqProofs only[go_sem]
    refine callF (HV) (by simp -implicitDefEqProofs only[go_sem]) ?_
    simp -implicitDefEqProofs only[go_sem]
   ·rw [hs] at HV
    rw [if_pos rfl]
    simp only [zap e]
    refine zaj Tryz.call12 Tryz.func12 rfl (by kernel_rfl) (zax (by kernel_rfl)) ?_
    simp -implicitDefEqProofs only[go_sem,Tryz.results12]
    refine callF (HH) (by simp -implicitDefEqProofs only[go_sem,h9n]) ?_
    simp -implicitDefEqProofs only[go_sem,h9n]
    refine callF (HX) (by simp -implicitDefEqProofs only[go_sem]) ?_
    simp -implicitDefEqProofs only[go_sem]
    refine callF (HV) (by simp -implicitDefEqProofs only[go_sem]) ?_
    simp -implicitDefEqProofs only[go_sem]
end
section
set_option maxRecDepth 4000
open Go.RowKit
abbrev qob (n:Nat) (f:Fm) (d:Nat) (tss:List (List Tm)):Prop:=FC Tryz.prog 41 [fmD f,.one (zht tss),iD d] [exD (zkv n f (tss.map (List.drop d)))]
noncomputable def qks (d:Nat) (t:Tm) (w:List Tm):Bool:=same (ze0 (w.drop d)) t
theorem qlg (d:Nat) (t:Tm) (tss:List (List Tm)):(tss.filter (qks d t)).map (List.drop (d + 1)) = zfa (tss.map (List.drop d)) t:=by
 unfold zfa
 rw [List.filter_map,Ke]
 refine Q6 fun w _=>?_
 show w.drop (d + 1) = (w.drop d).tail
 rw [List.tail_drop]
set_option maxHeartbeats 4000000 in
theorem qic (n:Nat) (H:∀ (f:Fm) (d:Nat) (tss:List (List Tm)),Her f n (tss.map (List.drop d))->tss.length <= 40->d + n <= 1000->qob n f d tss) (f:Fm) (d:Nat) (tss:List (List Tm)) (h:Her f (n + 1) (tss.map (List.drop d))) (hl:tss.length <= 40) (hdn:d + (n + 1) <= 1000):qob (n + 1) f d tss:=by
 obtain ⟨e9,p,hp,hpg,hvo⟩:=qi3 h
 have hfw:=(zdh h.good).1
 have hpw:=(zdh hpg).1
 have HF:=zmg f (by omega)
 have hDl:(tss.map (List.drop d)).length = tss.length:=Qb ..
 have hDk:∀ k (hk:k < tss.length),(tss.map (List.drop d))[k]'(by rw [hDl]; exact hk) = tss[k].drop d:=fun k hk=>Yf ..
 have hrd:=fun t=>qlg d t tss
 unfold qob
 generalize hD:tss.map (List.drop d) = D at h hDl hDk hrd ⊢
 have e:zkv (n + 1) f D = .mk f (hds D) ((hds D).map fun t=>zkv n (zlc f t) (zfa D t)):=rfl
 rw [e]
 have hlen:∀ k (hk:k < tss.length),d < tss[k].length:=fun k hk=>by
  have:=(h.all _ (Qe (l:=D) (n:=k) (by omega))).1
  rw [hDk k hk,Kx] at this
  omega
 have hfst:∀ k (hk:k < tss.length),ze0 (tss[k].drop d) = tss[k][d]'(hlen k hk):=fun k hk=>by
  unfold ze0
  rw [Qh (hlen k hk)]; rfl
 simp only [exD,zxq,fmD,zab f,e9] at HF ⊢
 refine zaj Tryz.call41 Tryz.func41 rfl (by kernel_rfl) (zax (by kernel_rfl)) ?_
 simp -implicitDefEqProofs only[go_sem,Tryz.results41]
 refine callF (HF) (by simp -implicitDefEqProofs only[go_sem]) ?_
 simp -implicitDefEqProofs only[go_sem]
 refine zae (fun k:Nat=>hd [(1,vT (zht tss)),(2,vI d),(3,.one (.bx 3 0)),(6,.one (.bx 6 0)),(7,.one (.bx 7 0)),(8,vI k)] [(3,[.t (.int .i64 9),.t (.str f.atom.name),.t (tmS f.atom.args),.t (.str f.var),.t (fmS f.parts)]),(6,[.t (.int .i64 0),.t (.str []),.nl 2,.t (.str []),.nl 5,.nl 2,.nl 7]),(7,[.t (.int .i64 9),.t (.str f.atom.name),.ow 642 0,.t (.str f.var),.ow 644 0,.ow 3000 0,.ow 3001 0])]
  [(642,⟨true,2,f.atom.args.map tmC,0,true⟩),(644,⟨true,5,f.parts.map fmC,0,true⟩),(3000,⟨true,2,(hdU (D.map ze0) k).map tmC,0,true⟩),(3001,⟨true,7,((hdU (D.map ze0) k).map fun t=>zkv n (zlc f t) (zfa D t)).map exC,0,true⟩)]) (fun k=>k <= tss.length) (fun k=>tss.length - k) 0 (zac ?_) (Ka _) ?_
 ·simp -implicitDefEqProofs only[go_sem,hdU]
 ·intro k hk
  by_cases hlt:k < tss.length
  ·have hkD:k < D.length:=by omega
   have hts:D[k] ∈ D:=Qe hkD
   have hdl:=hlen k hlt
   obtain ⟨t,ht⟩ : ∃ t,tss[k][d] = t:=⟨_,rfl⟩
   have hft:ze0 D[k] = t:=by rw [hDk k hlt,hfst k hlt,ht]
   obtain ⟨g1,o1,H1⟩:=zpv h hts
   rw [hft] at g1 o1 H1
   have hUs:=zx9 (D.map ze0) k
   rw [show (D.map ze0).getD k Tm.zero = t by rw [zdr (by simpa using hkD),Yf,hft]] at hUs
   have hUl:=zuv (D.map ze0) k
   have hUa:∀ j,j < k->∀ hj:j < tss.length,ze0 (tss[j].drop d) ∈ hdU (D.map ze0) k:=fun j hj hj2=>by
    have:=qce (xs:=D.map ze0) k (by rw [Qb]; omega) j hj
    rw [zdr (by rw [Qb]; omega),Yf,hDk j hj2] at this
    exact this
   have hgt:t.good = true:=by unfold grT at g1; rw [Qa] at g1; exact g1.1
   have htw:=zhq hgt
   have HI:=zjr (hdU (D.map ze0) k) t
   have hany:=zhp (hdU (D.map ze0) k) (fun a=>same a t)
   have HP:=zo9 f.var t (by omega) p (zbw hpg) (by omega) (by
    have:(1 + p.wt) * t.wt <= 10000 * 240:=Ye (by omega) htw
    omega)
   rw [show f.parts.getD 0 (mkF 0 []) = p by rw [hp]; rfl] at o1
   have hsn:(za5 f.var t p).1 = zlc f t:=by unfold zlc; rw [hp]; rfl
   rw [o1,hsn] at HP
   have HR:=H (zlc f t) (d + 1) (tss.filter (qks d t)) (by rw [hrd]; exact H1) (Kg (J2 _ _) hl) (by omega)
   have HC:=zqj t (by omega)
   unfold qob at HR
   rw [hrd] at HR
   generalize hq:zkv n (zlc f t) (zfa D t) = q at HR
   generalize hg:zlc f t = g at HP HR
   simp only [tmD,zaa t,fmD,zab p,zab g,exD,zap q] at HI HP HR HC
   generalize hU:hdU (D.map ze0) k = U at HI hany hUs hUl hUa ⊢
   generalize zxz U (fun a=>same a t) = x at HI hany
   have hul:U.length <= 4294967295:=by omega
   cases hb:(U.any fun a=>same a t)
   ·have hx0:(x >= 0) = False:=by rw [hb,Ko] at hany; simpa using hany
    rw [hb,if_neg (by simp)] at hUs
    have hno:(tss.take k).filter (qks d t) = []:=by
     rw [List.filter_eq_nil_iff]
     intro w hw hc
     obtain ⟨j,hj,rfl⟩:=Jl hw
     rw [Qp] at hj
     rw [List.getElem_take] at hc
     have h1:=hUa j (by omega) (by omega)
     have:(U.any fun a=>same a t) = true:=List.any_eq_true.2 ⟨_,h1,hc⟩
     rw [hb] at this; cases this
    simp -implicitDefEqProofs only[go_sem,hlt,zad,hdl,ht,zaa t]
    refine callF (HI) (by simp -implicitDefEqProofs only[go_sem,hx0]) ?_
    simp -implicitDefEqProofs only[go_sem,hx0]
    refine zgl (by simp -implicitDefEqProofs only[go_sem]) ?_
    simp -implicitDefEqProofs only[go_sem]
    refine zae (fun j:Nat=>hd [(1,vT (zht tss)),(2,vI d),(3,.one (.bx 3 0)),(6,.one (.bx 6 0)),(7,.one (.bx 7 0)),(8,vI k),(9,.one (.bx 9 0)),(10,.one (.ow 1280 0)),(11,vI j)] [(3,[.t (.int .i64 9),.t (.str f.atom.name),.t (tmS f.atom.args),.t (.str f.var),.t (fmS f.parts)]),(6,[.t (.int .i64 0),.t (.str []),.nl 2,.t (.str []),.nl 5,.nl 2,.nl 7]),(7,[.t (.int .i64 9),.t (.str f.atom.name),.ow 642 0,.t (.str f.var),.ow 644 0,.ow 3000 0,.ow 3001 0]),(9,[.t (.str t.name),.t (tmS t.args)])]
     [(642,⟨true,2,f.atom.args.map tmC,0,true⟩),(644,⟨true,5,f.parts.map fmC,0,true⟩),(3000,⟨true,2,U.map tmC,0,true⟩),(3001,⟨true,7,(U.map fun t=>zkv n (zlc f t) (zfa D t)).map exC,0,true⟩),(1280,⟨false,1,((tss.take j).filter (qks d t)).map fun s=>[tmS s],0,true⟩)]) (fun j=>k <= j /\ j <= tss.length) (fun j=>tss.length - j) k (zac ?_) ⟨Qw _,hk⟩ ?_
    ·simp -implicitDefEqProofs only[go_sem,hno]
    ·rintro j ⟨hkj,hj⟩
     by_cases hlj:j < tss.length
     ·have hdl2:=hlen j hlj
      obtain ⟨t2,ht2⟩ : ∃ t,tss[j][d] = t:=⟨_,rfl⟩
      have hft2:=zf9 (qks d t) tss hlj
      have hh:qks d t tss[j] = same t2 t:=by unfold qks; rw [hfst j hlj,ht2]
      rw [hh] at hft2
      have hrl:=J2 (qks d t) (tss.take j)
      have hrl2:((tss.take j).filter (qks d t)).length <= 4294967295:=by rw [Qp] at hrl; omega
      have HE:=zo2 t2 t
      simp only [tmD,zaa t2,zaa t] at HE
      cases hs:same t2 t
      ·rw [hs,if_neg (by simp),Kd] at hft2
       rw [hs] at HE
       simp -implicitDefEqProofs only[go_sem,hlj]
       refine drawn (by kernel_rfl) ?_
       simp -implicitDefEqProofs only[go_sem,hlj,zad,hdl2,ht2,zaa t2]
       refine zao (HE) (by simp -implicitDefEqProofs only[go_sem]) ?_
       simp -implicitDefEqProofs only[go_sem]
       refine ⟨by kernel_rfl,j + 1,⟨by omega,hlj⟩,by omega,zac ?_⟩
       simp -implicitDefEqProofs only[go_sem]
       rw [zal (by omega),hft2]
       exact ⟨rfl,rfl⟩
      ·rw [hs,if_pos rfl] at hft2
       rw [hs] at HE
       simp -implicitDefEqProofs only[go_sem,hlj]
       refine drawn (by kernel_rfl) ?_
       simp -implicitDefEqProofs only[go_sem,hlj,zad,hdl2,ht2,zaa t2]
       refine zao (HE) (by simp -implicitDefEqProofs only[go_sem]) ?_
       simp -implicitDefEqProofs only[go_sem]
       refine ⟨by kernel_rfl,?_⟩
       simp -implicitDefEqProofs only[go_sem,hlj,zad]
       refine zgl (by simp -implicitDefEqProofs only[go_sem]) ?_
       simp -implicitDefEqProofs only[go_sem]
       refine apD false (by simp -implicitDefEqProofs only[go_sem,ne_eq,Qb,hrl2]) ?_
       simp -implicitDefEqProofs only[go_sem,ne_eq,Qb,hrl2]
       refine ⟨j + 1,⟨by omega,hlj⟩,by omega,zac ?_⟩
       simp -implicitDefEqProofs only[go_sem]
       rw [zal (by omega),hft2,Q0,Q7]
       exact ⟨rfl,rfl⟩
     ·have htk:tss.take j = tss:=Qk (by omega)
      rw [htk]
      have e1:IntKind.i64.wrap ((d:Int) + 1) = ((d + 1:Nat):Int):=zal (by omega)
      simp -implicitDefEqProofs only[go_sem,hlj]
      refine drawn (by kernel_rfl) ?_
      simp -implicitDefEqProofs only[go_sem,hp,zab p]
      refine zao (HP) (by simp -implicitDefEqProofs only[go_sem]) ?_
      simp -implicitDefEqProofs only[go_sem]
      refine ⟨by kernel_rfl,?_⟩
      refine drawn (by kernel_rfl) ?_
      simp -implicitDefEqProofs only[go_sem]
      refine zao (HC) (by simp -implicitDefEqProofs only[go_sem]) ?_
      simp -implicitDefEqProofs only[go_sem]
      refine zbi (by simp -implicitDefEqProofs only[go_sem]) ?_
      simp -implicitDefEqProofs only[go_sem]
      refine zj0 true (by simp -implicitDefEqProofs only[go_sem,ne_eq,Qb,hul]) ?_
      simp -implicitDefEqProofs only[go_sem,ne_eq,Qb,hul]
      refine ⟨by kernel_rfl,?_⟩
      refine drawn (by kernel_rfl) ?_
      simp -implicitDefEqProofs only[go_sem,e1]
      refine zao (HR) (by simp -implicitDefEqProofs only[go_sem]) ?_
      simp -implicitDefEqProofs only[go_sem]
      refine zbi (by simp -implicitDefEqProofs only[go_sem]) ?_
      simp -implicitDefEqProofs only[go_sem]
      refine zj0 true (by simp -implicitDefEqProofs only[go_sem,ne_eq,Qb,hul]) ?_
      simp -implicitDefEqProofs only[go_sem,ne_eq,Qb,hul]
      refine ⟨by kernel_rfl,?_⟩
      refine ⟨k + 1,hlt,by omega,zac ?_⟩
      simp -implicitDefEqProofs only[go_sem]
      rw [zal (by omega),hUs]
      exact ⟨rfl,by rw [Q0,Q7,zaa t],by rw [Q0,Q7]; simp only [Function.comp_apply,hq,zap q]⟩
   ·have hx0:(x >= 0) = True:=by rw [hb,Qg] at hany; simpa using hany
    rw [hb,if_pos rfl,Kd] at hUs
    simp -implicitDefEqProofs only[go_sem,hlt,zad,hdl,ht,zaa t]
    refine callF (HI) (by simp -implicitDefEqProofs only[go_sem,hx0]) ?_
    simp -implicitDefEqProofs only[go_sem,hx0]
    refine ⟨k + 1,hlt,by omega,zac ?_⟩
    simp -implicitDefEqProofs only[go_sem]
    rw [zal (by omega),hUs]
    exact ⟨rfl,rfl,rfl⟩
  ·have hkn:k = tss.length:=by omega
   subst hkn
   have hhd:hds D = hdU (D.map ze0) tss.length:=by unfold hds; rw [hDl]
   simp -implicitDefEqProofs only[go_sem,hlt,hhd]
theorem qdi:∀ (n:Nat) (f:Fm) (d:Nat) (tss:List (List Tm)),Her f n (tss.map (List.drop d))->tss.length <= 40->d + n <= 1000->qob n f d tss
 | 0,f,d,tss,h,_,_=>by
  have h9:=her_0 h
  have h9n:(f.op != 9) = true:=by unfold bne; rw [h9]; rfl
  have hw:=(zdh h.good).1
  have HP:=qaw f (by omega)
  unfold qob
  show FC _ _ _ [exD (plE f)]
  simp only [exD,zx4 f,fmD,zab f] at HP ⊢
  refine zaj Tryz.call41 Tryz.func41 rfl (by kernel_rfl) (zax (by kernel_rfl)) ?_
  simp -implicitDefEqProofs only[go_sem,Tryz.results41,h9n]
  refine callF (HP) (by simp -implicitDefEqProofs only[go_sem]) ?_
  simp -implicitDefEqProofs only[go_sem]
 | n + 1,f,d,tss,h,hl,hd=>qic n (fun f d tss h hl hd=>qdi n f d tss h hl hd) f d tss h hl hd
theorem zvc (e:Ex) (hg:gdE e) (hn:e.nodes <= 10000) (pos:Bool):FC Tryz.prog 42 [exD e,bD pos] [bD (zhy e pos)]:=by
 have hw:=qel e hg
 by_cases h60:e.nodes <= 60
 ·exact qe2 e (by omega) pos
 ·have hv:zhy e pos = (e.form.good && decide (e.nodes <= 60) && zct e pos && dec ((zbn e pos).Nodup /\ ∀ n ∈ zbn e pos,n ∉ zba [] (vf e.form []))):=rfl
  have hfg:e.form.good = true:=by rw [zye] at hg; exact hg.1
  have HN:=zq9 e (by omega) 60 (by omega) (by omega)
  have hs:decide (zep e 60 <= 60) = decide (e.nodes <= 60):=zx6 e 60
  have hfw:=zo6 e
  have HG:=zhi e.form (by omega)
  have hn:decide (e.nodes <= 60) = false:=decide_eq_false h60
  have hs2:decide (60 < zep e 60) = true:=by rw [hn] at hs; rw [Qg]; rw [Ko] at hs; omega
  rw [hfg,Qn,hn,Qj,Qj] at hv
  rw [hv]
  rw [hfg] at HG
  simp only [exD,zap,fmD,zab] at HN HG ⊢
  refine zaj Tryz.call42 Tryz.func42 rfl (by kernel_rfl) (zax (by kernel_rfl)) ?_
  simp -implicitDefEqProofs only[go_sem,Tryz.results42]
  refine callF (HG) (by simp -implicitDefEqProofs only[go_sem]) ?_
  simp -implicitDefEqProofs only[go_sem]
  refine callF (HN) (by simp -implicitDefEqProofs only[go_sem,hs2]) ?_
  simp -implicitDefEqProofs only[go_sem,hs2]
set_option maxHeartbeats 2000000 in
theorem qie (f:Fm) (hw:f.wt <= 1048576) (tss:List (List Tm)) (ht:zxg tss <= 1048576):FC Tryz.prog 9 [fmD f,.one (zht tss)] [exD (etR f tss).1,bD (etR f tss).2]:=by
 have HH:=zky f hw tss ht
 unfold etR
 cases hb:hdB f tss
 ·rw [hb] at HH
  rw [if_neg (by simp)]
  simp only [exD,zzr,fmD,zab f,zab (hdR f tss)] at HH ⊢
  refine zaj Tryz.call9 Tryz.func9 rfl (by kernel_rfl) (zax (by kernel_rfl)) ?_
  simp -implicitDefEqProofs only[go_sem,Tryz.results9]
  refine callF (HH) (by simp -implicitDefEqProofs only[go_sem]) ?_
  simp -implicitDefEqProofs only[go_sem]
 ·rw [hb] at HH
  rw [if_pos rfl]
  obtain ⟨h1,h2⟩:=qff hb
  obtain ⟨g1,g2⟩:=qbz hb
  have hd0:tss.map (List.drop 0) = tss:=by
   have:(List.drop 0:List Tm->List Tm) = id:=by funext w; rfl
   rw [this,J9]
  have hnl:=ze8 f
  have hgn:=(zdh h1.good).2
  have HX:=qdi (exN f).1.length f 0 tss (by rw [hd0]; exact h1) h2 (by omega)
  have HV:=zvc _ g1 g2 true
  unfold qob at HX
  rw [hd0] at HX
  have he:zkv (exN f).1.length f tss = etE f tss:=rfl
  rw [he] at HX
  generalize etE f tss = e at HX HV ⊢
  simp only [exD,zap e,fmD,zab f,zab (hdR f tss)] at HH HX HV ⊢
  cases h9:(f.op == 9)
  ·have h9n:(f.op != 9) = true:=by unfold bne; rw [h9]; rfl
   rw [if_neg (by simp)]
   simp only [zzr]
   refine zaj Tryz.call9 Tryz.func9 rfl (by kernel_rfl) (zax (by kernel_rfl)) ?_
   simp -implicitDefEqProofs only[go_sem,Tryz.results9]
   refine callF (HH) (by simp -implicitDefEqProofs only[go_sem,h9n]) ?_
   simp -implicitDefEqProofs only[go_sem,h9n]
  ·have h9n:(f.op != 9) = false:=by unfold bne; rw [h9]; rfl
   rw [if_pos rfl]
   cases hs:zhy e true
   ·rw [hs] at HV
    rw [if_neg (by simp)]
    simp only [zzr]
    refine zaj Tryz.call9 Tryz.func9 rfl (by kernel_rfl) (zax (by kernel_rfl)) ?_
    simp -implicitDefEqProofs only[go_sem,Tryz.results9]
    refine callF (HH) (by simp -implicitDefEqProofs only[go_sem,h9n]) ?_
    simp -implicitDefEqProofs only[go_sem,h9n]
    refine callF (HX) (by simp -implicitDefEqProofs only[go_sem]) ?_
    simp -implicitDefEqProofs only[go_sem]
    refine callF (HV) (by simp -implicitDefEqProofs only[go_sem]) ?_
    simp -implicitDefEqProofs only[go_sem]
   ·rw [hs] at HV
    rw [if_pos rfl]
    simp only [zap e]
    refine zaj Tryz.call9 Tryz.func9 rfl (by kernel_rfl) (zax (by kernel_rfl)) ?_
    simp -implicitDefEqProofs only[go_sem,Tryz.results9]
    refine callF (HH) (by simp -implicitDefEqProofs only[go_sem,h9n]) ?_
    simp -implicitDefEqProofs only[go_sem,h9n]
    refine callF (HX) (by simp -implicitDefEqProofs only[go_sem]) ?_
    simp -implicitDefEqProofs only[go_sem]
    refine callF (HV) (by simp -implicitDefEqProofs only[go_sem]) ?_
    simp -implicitDefEqProofs only[go_sem]
end
section
set_option maxRecDepth 4000
open Go.RowKit
set_option maxHeartbeats 4000000 in
theorem qnt (f:Fm) (tss:List (List Tm)):FC Tryz.prog 3 [fmD f,.one (zht tss)] [bD true]:=by
 have HZ:=zu6 f 1048576 (by omega) (by omega)
 simp only [fmD,zab f] at HZ ⊢
 refine zcq Tryz.call3 Tryz.func3 rfl (by kernel_rfl) (zax (by kernel_rfl)) ?_
 simp -implicitDefEqProofs only[go_sem,Tryz.results3]
 refine callF (HZ) (by simp -implicitDefEqProofs only[go_sem]) ?_
 simp -implicitDefEqProofs only[go_sem]
 refine ⟨fun h=>trivial,fun h=>?_⟩
 obtain ⟨hw1,hw2⟩:=zg7 (show ¬ szR f.wt 1048576 < 0 by simpa using h)
 have HZ2:=zzl tss (szR f.wt 1048576) (by omega) (by omega)
 refine callF (HZ2) (by simp -implicitDefEqProofs only[go_sem]) ?_
 simp -implicitDefEqProofs only[go_sem]
 refine ⟨fun h=>trivial,fun h2=>?_⟩
 obtain ⟨hw3,hw4⟩:=zg7 (show ¬ szR (zxg tss) (szR f.wt 1048576) < 0 by simpa using h2)
 have hw:f.wt <= 1048576:=by omega
 have hws:zxg tss <= 1048576:=by omega
 have HS:=qie f hw tss hws
 have HI:=qi4 f hw tss hws
 have hrw:=etR_wt f tss
 have HT:=zvb f hw
 have HT2:=zz0 tss hws
 have HE:=zm1 f f
 have HE2:=zzy tss tss
 generalize etR f tss = A at HS HI hrw
 obtain ⟨R,G⟩:=A
 simp only at HS HI hrw
 have HF:=zpd R R
 simp only [fmD,zab f,exD,zap R] at HS HI HT HE HF
 have n2:∀ b:Bool,(b != b) = false:=by decide
 refine callF (HT) (by simp -implicitDefEqProofs only[go_sem]) ?_
 simp -implicitDefEqProofs only[go_sem]
 refine callF (HT2) (by simp -implicitDefEqProofs only[go_sem]) ?_
 simp -implicitDefEqProofs only[go_sem]
 refine callF (HS) (by simp -implicitDefEqProofs only[go_sem]) ?_
 simp -implicitDefEqProofs only[go_sem]
 refine callF (HT) (by simp -implicitDefEqProofs only[go_sem]) ?_
 simp -implicitDefEqProofs only[go_sem]
 refine callF (HT2) (by simp -implicitDefEqProofs only[go_sem]) ?_
 simp -implicitDefEqProofs only[go_sem]
 refine callF (HI) (by simp -implicitDefEqProofs only[go_sem]) ?_
 simp -implicitDefEqProofs only[go_sem]
 refine callF (HF) (by simp -implicitDefEqProofs only[go_sem,zbm]) ?_
 simp -implicitDefEqProofs only[go_sem,zbm]
 refine ⟨fun h=>by simp at h,fun _=>?_⟩
 refine drawn (by kernel_rfl) ?_
 simp -implicitDefEqProofs only[go_sem]
 refine zao (HT) (by simp -implicitDefEqProofs only[go_sem]) ?_
 simp -implicitDefEqProofs only[go_sem]
 refine zao (HE) (by simp -implicitDefEqProofs only[go_sem]) ?_
 simp -implicitDefEqProofs only[go_sem]
 refine ⟨by kernel_rfl,fun h=>?_,fun _=>?_⟩
 ·simp [zbm] at h
 refine callF (HT2) (by simp -implicitDefEqProofs only[go_sem]) ?_
 simp -implicitDefEqProofs only[go_sem]
 refine callF (HE2) (by simp -implicitDefEqProofs only[go_sem,zbm]) ?_
 simp -implicitDefEqProofs only[go_sem,zbm]
 have hc:=zpk f
 have hc2:=ztb tss
 have hcR:=zlg R
 have hka:=zp2 f 1
 have HM1:=zi5 f 1 (by omega) (by omega)
 have HMb:=zsm tss (zbb f 1).2 (by omega) (by omega)
 have HM2:=zmm R 1 (by omega) (by omega)
 have HL:=zma R 1 (by omega) (by omega)
 have hkb:=(zst tss (zbb f 1).2).1
 have hmR:=(zmf R 1).1
 rw [zkz] at HM1
 rw [zji] at HM2 HL
 generalize (zbb f 1).1.atom.args = f2 at HM1
 generalize (zbb f 1).1.parts = f5 at HM1
 generalize (zbb f 1).2 = k1 at HM1 HMb hka hkb
 generalize (zdy tss k1).1 = b1 at HMb
 generalize (zdy tss k1).2 = k2 at HMb hkb
 generalize (za3 R 1).1.form.atom.args = r2 at HM2 HL
 generalize (za3 R 1).1.form.parts = r5 at HM2 HL
 generalize (za3 R 1).1.terms = r6 at HM2 HL
 generalize (za3 R 1).1.parts = r7 at HM2 HL
 generalize (za3 R 1).2 = k3 at HM2 HL hmR
 rw [zab] at HM1
 rw [zap] at HM2
 refine zjv [1,2,4,6,7,8,9,10,11,64,65] (HM1) (by simp -implicitDefEqProofs only[go_sem]) (by simp -implicitDefEqProofs only[go_sem]) (by simp -implicitDefEqProofs only[go_sem]) (by simp -implicitDefEqProofs only[go_sem]) (by simp -implicitDefEqProofs only[go_sem]) rfl ?_
 simp -implicitDefEqProofs only[go_sem]
 refine zjv [1,2,4,6,7,8,9,10,11,67,68] (HMb) (by simp -implicitDefEqProofs only[go_sem]) (by simp -implicitDefEqProofs only[go_sem]) (by simp -implicitDefEqProofs only[go_sem]) (by simp -implicitDefEqProofs only[go_sem]) (by simp -implicitDefEqProofs only[go_sem]) rfl ?_
 simp -implicitDefEqProofs only[go_sem]
 refine callF (HF) (by simp -implicitDefEqProofs only[go_sem,zbm]) ?_
 simp -implicitDefEqProofs only[go_sem,zbm]
 refine ⟨fun h=>by simp at h,fun _=>?_⟩
 refine zjv [1,2,4,6,7,10,11,13,83,84] (HM2) (by simp -implicitDefEqProofs only[go_sem]) (by simp -implicitDefEqProofs only[go_sem]) (by simp -implicitDefEqProofs only[go_sem]) (by simp -implicitDefEqProofs only[go_sem]) (by simp -implicitDefEqProofs only[go_sem]) rfl ?_
 simp -implicitDefEqProofs only[go_sem]
 refine callF (HL) (by simp -implicitDefEqProofs only[go_sem]) ?_
 simp -implicitDefEqProofs only[go_sem]
 refine ⟨fun h=>by simp at h,fun _=>?_⟩
 refine callF (HT) (by simp -implicitDefEqProofs only[go_sem]) ?_
 simp -implicitDefEqProofs only[go_sem]
 refine callF (HT2) (by simp -implicitDefEqProofs only[go_sem]) ?_
 simp -implicitDefEqProofs only[go_sem]
 refine callF (HI) (by simp -implicitDefEqProofs only[go_sem]) ?_
 simp -implicitDefEqProofs only[go_sem]
 refine callF (HF) (by simp -implicitDefEqProofs only[go_sem,zbm]) ?_
 simp -implicitDefEqProofs only[go_sem,zbm]
 refine ⟨fun h=>by simp at h,fun _=>?_⟩
 refine callF (HL) (by simp -implicitDefEqProofs only[go_sem]) ?_
 simp -implicitDefEqProofs only[go_sem]
 refine ⟨fun h=>by simp at h,fun _=>trivial⟩
end
end Go.Proofs.YtliiapbmkcbfaaaGreat
