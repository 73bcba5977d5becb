/-
  The walk over plain data, and contracts of functions of the program and of its laws.
  Conditions: those that each theorem names.
-/
import Derived.Test.YtliiapbmkcbfaaaGreatQE7
import Derived.Test.YtliiapbmkcbfaaaGreatQE5
import Derived.Test.YtliiapbmkcbfaaaGreatQE6
namespace Go.Proofs.YtliiapbmkcbfaaaGreat
set_option linter.unusedSimpArgs false
set_option linter.unusedVariables false
set_option linter.unusedSectionVars false
section
set_option maxRecDepth 4000
open Go.RowKit
mutual
def zhw:Tm->Nat->Tm × Nat
 | .mk n0 s0,k=>(.mk (mtx k) (zai s0 (k + 1)).1,(zai s0 (k + 1)).2)
def zai:List Tm->Nat->List Tm × Nat
 | [],k=>([],k)
 | a :: xs,k=>((zhw a k).1 :: (zai xs (zhw a k).2).1,(zai xs (zhw a k).2).2)
end
mutual
def zir:Tm->Nat
 | .mk n0 s0=>1 + 1 + zda s0
def zda:List Tm->Nat
 | []=>0
 | a :: xs=>zir a + zda xs
end
mutual
theorem qec:∀ (a:Tm) (k:Nat),k <= (zhw a k).2 /\ (zhw a k).2 <= k + zir a
 | .mk n0 s0,k=>by have h_s0:=zbj s0 (k + 1); simp only [zhw,zir]; omega
theorem zbj:∀ (xs:List Tm) (k:Nat),k <= (zai xs k).2 /\ (zai xs k).2 <= k + zda xs
 | [],k=>⟨Qw _,Qw _⟩
 | a :: xs,k=>by have h1:=qec a k; have h2:=zbj xs (zhw a k).2; simp only [zai,zda]; omega
end
theorem zml:∀ xs:List Tm,xs.length <= zda xs
  | []=>Qw _
  | a :: xs=>by
    have:=zml xs
    have:1 <= zir a:=by obtain ⟨n0,s0⟩:=a; simp only [zir]; omega
    simp only [Qm,zda]; omega
theorem zkl (xs:List Tm) (H:∀ a ∈ xs,∀ k:Nat,0 < k->k + zda a.args <= 4611686018427387904->IC Tryz.prog 54 [] (.one (tmS a.args)) [iD k] (.one (tmS (zai a.args k).1)) [iD (zai a.args k).2]) :
  ∀ k:Nat,0 < k->k + zda xs <= 4611686018427387904->IC Tryz.prog 54 [] (.one (tmS xs)) [iD k] (.one (tmS (zai xs k).1)) [iD (zai xs k).2]:=by
 intro k h0 hk
 refine zyq Tryz.call54 Tryz.func54 rfl (by kernel_rfl) (by simp only [zdx,rd,Qi,Qy,Kl,Qm,Qv,Tryz.ntmps54]; omega) (by simp only [Tryz.ntmps54]; omega) (fun vs=>?_)
 simp -implicitDefEqProofs only[go_sem,Tryz.results54,qd3,zl2,zdx,PI]
 refine zae (fun (x:List Tm × List Tm × Nat)=>hd [(0,.one (.ow 0 0)),(1000000,.one (.ow 0 0)),(1,vI x.2.2),(5,vI x.1.length)] [] [(0,⟨true,2,x.1.map tmC ++ zew vs x.1.length (x.2.1.map tmC),0,true⟩)])
  (fun x=>(zai xs k).1 = x.1 ++ (zai x.2.1 x.2.2).1 /\ (zai xs k).2 = (zai x.2.1 x.2.2).2 /\ 0 < x.2.2 /\ x.2.2 + zda x.2.1 <= 4611686018427387904 /\ x.1.length + x.2.1.length = xs.length /\ ∀ a ∈ x.2.1,a ∈ xs) (fun x=>x.2.1.length) ([],xs,k) (zac ?_) ?_ ?_
 ·simp -implicitDefEqProofs only[go_sem]
 ·exact ⟨rfl,rfl,h0,hk,by simp,fun _ h=>h⟩
 ·intro ⟨dn,rest,kk⟩ ⟨h1,h2,h3,h4,h6,h5⟩
  simp only at h1 h2 h3 h4 h5 h6
  cases rest with
  | nil =>
   simp only [zai,Kd] at h1 h2
   simp -implicitDefEqProofs only[go_sem,h1,h2]
  | cons a rest =>
   obtain ⟨n0,s0⟩:=a
   simp only [zai,zhw,zda,zir] at h1 h2 h4
   have hc_s0:=zbj s0 (kk + 1)
   have w0:IntKind.i64.wrap (((kk:Nat):Int) + 1) = ((kk + 1:Nat):Int):=zal (by omega)
   have hln:=zml xs
   rw [Qm] at h6
   have wl:IntKind.i64.wrap ((dn.length:Int) + 1) = ((dn.length + 1:Nat):Int):=zal (by omega)
   simp -implicitDefEqProofs only[go_sem,zaa (.mk _ _),Tm.name,Tm.args]
   refine callF (zcl kk (by omega) (by omega)) (by simp -implicitDefEqProofs only[go_sem,w0]) ?_
   simp -implicitDefEqProofs only[go_sem,w0]
   refine zgs (by simp -implicitDefEqProofs only[go_sem,implies_true,w0]) ?_
   simp -implicitDefEqProofs only[go_sem,implies_true,w0]
   refine callN (l:=[(0,.one (.ow 0 0)),(1000000,.one (.ow 0 0)),(5,vI dn.length),(24,.one (.cv (vs dn.length 1))),(25,vI ((kk + 1):Nat))]) (bl:=[]) (el:=[(0,⟨true,2,dn.map tmC ++ [.str (mtx kk),.pin (vs dn.length 1) (tmS s0)] :: zew vs (dn.length + 1) (rest.map tmC),0,true⟩)]) 0 dn.length 1 (H (.mk n0 s0) (h5 _ (by simp)) (kk + 1) (by omega) (by show (kk + 1) + zda s0 <= _; omega)) (by simp -implicitDefEqProofs only[go_sem,w0,tmS]) rfl rfl rfl (by simp -implicitDefEqProofs only[go_sem,tmS,Tm.name,Tm.args]) rfl ?_
   simp -implicitDefEqProofs only[go_sem,w0,Tm.name,Tm.args]
   refine ⟨(dn ++ [.mk (mtx kk) (zai s0 (kk + 1)).1],rest,(zai s0 (kk + 1)).2),⟨by simpa using h1,h2,by show 0 < (zai s0 (kk + 1)).2; omega,by show (zai s0 (kk + 1)).2 + zda rest <= _; omega,by simp; omega,fun b hb=>h5 b (by simp [hb])⟩,by simp,zac ?_⟩
   simp -implicitDefEqProofs only[go_sem,wl,zaa (.mk _ _),Tm.name,Tm.args,Q0,Kh]
theorem zds (xs:List Tm) (k:Nat) (h0:0 < k) (hk:k + zda xs <= 4611686018427387904):IC Tryz.prog 54 [] (.one (tmS xs)) [iD k] (.one (tmS (zai xs k).1)) [iD (zai xs k).2] :=
 zkl xs (fun a _=>zbf (P:=fun a=>∀ k:Nat,0 < k->k + zda a.args <= 4611686018427387904->IC Tryz.prog 54 [] (.one (tmS a.args)) [iD k] (.one (tmS (zai a.args k).1)) [iD (zai a.args k).2]) (fun n ys ih=>zkl ys ih) a) k h0 hk
theorem zks (xs:List Tm) (H:∀ a ∈ xs,∀ k:Nat,0 < k->k + zda a.args <= 4611686018427387904->FC Tryz.prog 57 [.one (tmS (zai a.args k).1),iD k] [iD (zai a.args k).2]) :
  ∀ k:Nat,0 < k->k + zda xs <= 4611686018427387904->FC Tryz.prog 57 [.one (tmS (zai xs k).1),iD k] [iD (zai xs k).2]:=by
 intro k h0 hk
 refine zaj Tryz.call57 Tryz.func57 rfl (by kernel_rfl) (zax (by kernel_rfl)) ?_
 simp -implicitDefEqProofs only[go_sem,Tryz.results57]
 refine zae (fun (x:List Tm × List Tm × Nat)=>hd [(0,vT (.sl 2 (x.1.map tmC ++ (zai x.2.1 x.2.2).1.map tmC))),(1,vI x.2.2),(5,vI x.1.length)] [] [])
  (fun x=>(zai xs k).1 = x.1 ++ (zai x.2.1 x.2.2).1 /\ (zai xs k).2 = (zai x.2.1 x.2.2).2 /\ 0 < x.2.2 /\ x.2.2 + zda x.2.1 <= 4611686018427387904 /\ x.1.length + x.2.1.length = xs.length /\ ∀ a ∈ x.2.1,a ∈ xs) (fun x=>x.2.1.length) ([],xs,k) (zac ?_) ?_ ?_
 ·simp -implicitDefEqProofs only[go_sem]
 ·exact ⟨rfl,rfl,h0,hk,by simp,fun _ h=>h⟩
 ·intro ⟨dn,rest,kk⟩ ⟨h1,h2,h3,h4,h6,h5⟩
  simp only at h1 h2 h3 h4 h5 h6
  cases rest with
  | nil =>
   simp only [zai,Kd] at h1 h2
   simp -implicitDefEqProofs only[go_sem,h2,zai]
  | cons a rest =>
   obtain ⟨n0,s0⟩:=a
   simp only [zai,zhw,zda,zir] at h1 h2 h4
   have hc_s0:=zbj s0 (kk + 1)
   have w0:IntKind.i64.wrap (((kk:Nat):Int) + 1) = ((kk + 1:Nat):Int):=zal (by omega)
   have hln:=zml xs
   rw [Qm] at h6
   have wl:IntKind.i64.wrap ((dn.length:Int) + 1) = ((dn.length + 1:Nat):Int):=zal (by omega)
   simp -implicitDefEqProofs only[go_sem,zai,zhw,zaa (.mk _ _),Tm.name,Tm.args]
   refine drawn (by kernel_rfl) ?_
   simp -implicitDefEqProofs only[go_sem]
   refine zao (zcl kk (by omega) (by omega)) (by simp -implicitDefEqProofs only[go_sem,K6,Ja,w0]) ?_
   simp -implicitDefEqProofs only[go_sem,K6,Ja,w0]
   refine ⟨by kernel_rfl,?_⟩
   refine callF (H (.mk n0 s0) (h5 _ (by simp)) (kk + 1) (by omega) (by show (kk + 1) + zda s0 <= _; omega)) (by simp -implicitDefEqProofs only[go_sem,w0,Tm.name,Tm.args]) ?_
   simp -implicitDefEqProofs only[go_sem,w0,Tm.name,Tm.args]
   refine ⟨(dn ++ [.mk (mtx kk) (zai s0 (kk + 1)).1],rest,(zai s0 (kk + 1)).2),⟨by simpa using h1,h2,by show 0 < (zai s0 (kk + 1)).2; omega,by show (zai s0 (kk + 1)).2 + zda rest <= _; omega,by simp; omega,fun b hb=>h5 b (by simp [hb])⟩,by simp,zac ?_⟩
   simp -implicitDefEqProofs only[go_sem,wl,zaa (.mk _ _),Tm.name,Tm.args,Q0,Kh]
theorem zes (xs:List Tm) (k:Nat) (h0:0 < k) (hk:k + zda xs <= 4611686018427387904):FC Tryz.prog 57 [.one (tmS (zai xs k).1),iD k] [iD (zai xs k).2] :=
 zks xs (fun a _=>zbf (P:=fun a=>∀ k:Nat,0 < k->k + zda a.args <= 4611686018427387904->FC Tryz.prog 57 [.one (tmS (zai a.args k).1),iD k] [iD (zai a.args k).2]) (fun n ys ih=>zks ys ih) a) k h0 hk
mutual
def zh2:Fm->Nat->Fm × Nat
 | .mk o0 (.mk n0 s0) v0 p0,k=>(.mk ((k:Nat):Int) (.mk (mtx (k + 1)) (zai s0 ((k + 1) + 1)).1) (mtx (zai s0 ((k + 1) + 1)).2) (za1 p0 ((zai s0 ((k + 1) + 1)).2 + 1)).1,(za1 p0 ((zai s0 ((k + 1) + 1)).2 + 1)).2)
def za1:List Fm->Nat->List Fm × Nat
 | [],k=>([],k)
 | a :: xs,k=>((zh2 a k).1 :: (za1 xs (zh2 a k).2).1,(za1 xs (zh2 a k).2).2)
end
mutual
def ziw:Fm->Nat
 | .mk o0 (.mk n0 s0) v0 p0=>1 + 1 + 1 + zda s0 + 1 + zdn p0
def zdn:List Fm->Nat
 | []=>0
 | a :: xs=>ziw a + zdn xs
end
mutual
theorem qb2:∀ (a:Fm) (k:Nat),k <= (zh2 a k).2 /\ (zh2 a k).2 <= k + ziw a
 | .mk o0 (.mk n0 s0) v0 p0,k=>by have h_s0:=zbj s0 ((k + 1) + 1); have h_p0:=zc3 p0 ((zai s0 ((k + 1) + 1)).2 + 1); simp only [zh2,ziw]; omega
theorem zc3:∀ (xs:List Fm) (k:Nat),k <= (za1 xs k).2 /\ (za1 xs k).2 <= k + zdn xs
 | [],k=>⟨Qw _,Qw _⟩
 | a :: xs,k=>by have h1:=qb2 a k; have h2:=zc3 xs (zh2 a k).2; simp only [za1,zdn]; omega
end
theorem zmv:∀ xs:List Fm,xs.length <= zdn xs
  | []=>Qw _
  | a :: xs=>by
    have:=zmv xs
    have:1 <= ziw a:=by obtain ⟨o0,⟨n0,s0⟩,v0,p0⟩:=a; simp only [ziw]; omega
    simp only [Qm,zdn]; omega
theorem zg0 (xs:List Fm) (H:∀ a ∈ xs,∀ k:Nat,0 < k->k + zdn a.parts <= 4611686018427387904->IC Tryz.prog 53 [] (.one (fmS a.parts)) [iD k] (.one (fmS (za1 a.parts k).1)) [iD (za1 a.parts k).2]) :
  ∀ k:Nat,0 < k->k + zdn xs <= 4611686018427387904->IC Tryz.prog 53 [] (.one (fmS xs)) [iD k] (.one (fmS (za1 xs k).1)) [iD (za1 xs k).2]:=by
 intro k h0 hk
 refine zyq Tryz.call53 Tryz.func53 rfl (by kernel_rfl) (by simp only [zdx,rd,Qi,Qy,Kl,Qm,Qv,Tryz.ntmps53]; omega) (by simp only [Tryz.ntmps53]; omega) (fun vs=>?_)
 simp -implicitDefEqProofs only[go_sem,Tryz.results53,qd3,zl2,zdx,PI]
 refine zae (fun (x:List Fm × List Fm × Nat)=>hd [(0,.one (.ow 0 0)),(1000000,.one (.ow 0 0)),(1,vI x.2.2),(5,vI x.1.length)] [] [(0,⟨true,5,x.1.map fmC ++ zew vs x.1.length (x.2.1.map fmC),0,true⟩)])
  (fun x=>(za1 xs k).1 = x.1 ++ (za1 x.2.1 x.2.2).1 /\ (za1 xs k).2 = (za1 x.2.1 x.2.2).2 /\ 0 < x.2.2 /\ x.2.2 + zdn x.2.1 <= 4611686018427387904 /\ x.1.length + x.2.1.length = xs.length /\ ∀ a ∈ x.2.1,a ∈ xs) (fun x=>x.2.1.length) ([],xs,k) (zac ?_) ?_ ?_
 ·simp -implicitDefEqProofs only[go_sem]
 ·exact ⟨rfl,rfl,h0,hk,by simp,fun _ h=>h⟩
 ·intro ⟨dn,rest,kk⟩ ⟨h1,h2,h3,h4,h6,h5⟩
  simp only at h1 h2 h3 h4 h5 h6
  cases rest with
  | nil =>
   simp only [za1,Kd] at h1 h2
   simp -implicitDefEqProofs only[go_sem,h1,h2]
  | cons a rest =>
   obtain ⟨o0,⟨n0,s0⟩,v0,p0⟩:=a
   simp only [za1,zh2,zdn,ziw] at h1 h2 h4
   have hc_s0:=zbj s0 ((kk + 1) + 1)
   have hc_p0:=zc3 p0 ((zai s0 ((kk + 1) + 1)).2 + 1)
   have w0:IntKind.i64.wrap (((kk:Nat):Int) + 1) = ((kk + 1:Nat):Int):=zal (by omega)
   have w1:IntKind.i64.wrap ((((kk + 1):Nat):Int) + 1) = (((kk + 1) + 1:Nat):Int):=zal (by omega)
   have w2:IntKind.i64.wrap ((((zai s0 ((kk + 1) + 1)).2:Nat):Int) + 1) = (((zai s0 ((kk + 1) + 1)).2 + 1:Nat):Int):=zal (by omega)
   have hln:=zmv xs
   rw [Qm] at h6
   have wl:IntKind.i64.wrap ((dn.length:Int) + 1) = ((dn.length + 1:Nat):Int):=zal (by omega)
   simp -implicitDefEqProofs only[go_sem,zab (.mk _ _ _ _),Fm.op,Fm.atom,Fm.var,Fm.parts,Tm.name,Tm.args]
   refine zgs (by simp -implicitDefEqProofs only[go_sem,implies_true,w0,w1,w2]) ?_
   simp -implicitDefEqProofs only[go_sem,implies_true,w0,w1,w2]
   refine callF (zcl (kk + 1) (by omega) (by omega)) (by simp -implicitDefEqProofs only[go_sem,w0,w1,w2]) ?_
   simp -implicitDefEqProofs only[go_sem,w0,w1,w2]
   refine zgs (by simp -implicitDefEqProofs only[go_sem,implies_true,w0,w1,w2]) ?_
   simp -implicitDefEqProofs only[go_sem,implies_true,w0,w1,w2]
   refine callN (l:=[(0,.one (.ow 0 0)),(1000000,.one (.ow 0 0)),(5,vI dn.length),(33,.one (.cv (vs dn.length 2))),(34,vI (((kk + 1) + 1):Nat))]) (bl:=[]) (el:=[(0,⟨true,5,dn.map fmC ++ [.int .i64 ((kk:Nat):Int),.str (mtx (kk + 1)),.pin (vs dn.length 2) (tmS s0),.str v0,.pin (vs dn.length 4) (fmS p0)] :: zew vs (dn.length + 1) (rest.map fmC),0,true⟩)]) 0 dn.length 2 (zds s0 ((kk + 1) + 1) (by omega) (by omega)) (by simp -implicitDefEqProofs only[go_sem,w0,w1,w2,tmS]) rfl rfl rfl (by simp -implicitDefEqProofs only[go_sem,tmS,Fm.op,Fm.atom,Fm.var,Fm.parts,Tm.name,Tm.args]) rfl ?_
   simp -implicitDefEqProofs only[go_sem,w0,w1,w2,Fm.op,Fm.atom,Fm.var,Fm.parts,Tm.name,Tm.args]
   refine callF (zcl (zai s0 ((kk + 1) + 1)).2 (by omega) (by omega)) (by simp -implicitDefEqProofs only[go_sem,w0,w1,w2]) ?_
   simp -implicitDefEqProofs only[go_sem,w0,w1,w2]
   refine zgs (by simp -implicitDefEqProofs only[go_sem,implies_true,w0,w1,w2]) ?_
   simp -implicitDefEqProofs only[go_sem,implies_true,w0,w1,w2]
   refine callN (l:=[(0,.one (.ow 0 0)),(1000000,.one (.ow 0 0)),(5,vI dn.length),(48,.one (.cv (vs dn.length 4))),(49,vI (((zai s0 ((kk + 1) + 1)).2 + 1):Nat))]) (bl:=[]) (el:=[(0,⟨true,5,dn.map fmC ++ [.int .i64 ((kk:Nat):Int),.str (mtx (kk + 1)),tmS (zai s0 ((kk + 1) + 1)).1,.str (mtx (zai s0 ((kk + 1) + 1)).2),.pin (vs dn.length 4) (fmS p0)] :: zew vs (dn.length + 1) (rest.map fmC),0,true⟩)]) 0 dn.length 4 (H (.mk o0 (.mk n0 s0) v0 p0) (h5 _ (by simp)) ((zai s0 ((kk + 1) + 1)).2 + 1) (by omega) (by show ((zai s0 ((kk + 1) + 1)).2 + 1) + zdn p0 <= _; omega)) (by simp -implicitDefEqProofs only[go_sem,w0,w1,w2,fmS]) rfl rfl rfl (by simp -implicitDefEqProofs only[go_sem,fmS,Fm.op,Fm.atom,Fm.var,Fm.parts,Tm.name,Tm.args]) rfl ?_
   simp -implicitDefEqProofs only[go_sem,w0,w1,w2,Fm.op,Fm.atom,Fm.var,Fm.parts,Tm.name,Tm.args]
   refine ⟨(dn ++ [.mk ((kk:Nat):Int) (.mk (mtx (kk + 1)) (zai s0 ((kk + 1) + 1)).1) (mtx (zai s0 ((kk + 1) + 1)).2) (za1 p0 ((zai s0 ((kk + 1) + 1)).2 + 1)).1],rest,(za1 p0 ((zai s0 ((kk + 1) + 1)).2 + 1)).2),⟨by simpa using h1,h2,by show 0 < (za1 p0 ((zai s0 ((kk + 1) + 1)).2 + 1)).2; omega,by show (za1 p0 ((zai s0 ((kk + 1) + 1)).2 + 1)).2 + zdn rest <= _; omega,by simp; omega,fun b hb=>h5 b (by simp [hb])⟩,by simp,zac ?_⟩
   simp -implicitDefEqProofs only[go_sem,wl,zab (.mk _ _ _ _),Fm.op,Fm.atom,Fm.var,Fm.parts,Tm.name,Tm.args,Q0,Kh]
theorem zhz (xs:List Fm) (k:Nat) (h0:0 < k) (hk:k + zdn xs <= 4611686018427387904):IC Tryz.prog 53 [] (.one (fmS xs)) [iD k] (.one (fmS (za1 xs k).1)) [iD (za1 xs k).2] :=
 zg0 xs (fun a _=>za8 (P:=fun a=>∀ k:Nat,0 < k->k + zdn a.parts <= 4611686018427387904->IC Tryz.prog 53 [] (.one (fmS a.parts)) [iD k] (.one (fmS (za1 a.parts k).1)) [iD (za1 a.parts k).2]) (fun o b v ps ih=>zg0 ps ih) a) k h0 hk
theorem zg4 (xs:List Fm) (H:∀ a ∈ xs,∀ k:Nat,0 < k->k + zdn a.parts <= 4611686018427387904->FC Tryz.prog 120 [.one (fmS (za1 a.parts k).1),iD k] [iD (za1 a.parts k).2]) :
  ∀ k:Nat,0 < k->k + zdn xs <= 4611686018427387904->FC Tryz.prog 120 [.one (fmS (za1 xs k).1),iD k] [iD (za1 xs k).2]:=by
 intro k h0 hk
 refine zaj Tryz.call120 Tryz.func120 rfl (by kernel_rfl) (zax (by kernel_rfl)) ?_
 simp -implicitDefEqProofs only[go_sem,Tryz.results120]
 refine zae (fun (x:List Fm × List Fm × Nat)=>hd [(0,vT (.sl 5 (x.1.map fmC ++ (za1 x.2.1 x.2.2).1.map fmC))),(1,vI x.2.2),(5,vI x.1.length)] [] [])
  (fun x=>(za1 xs k).1 = x.1 ++ (za1 x.2.1 x.2.2).1 /\ (za1 xs k).2 = (za1 x.2.1 x.2.2).2 /\ 0 < x.2.2 /\ x.2.2 + zdn x.2.1 <= 4611686018427387904 /\ x.1.length + x.2.1.length = xs.length /\ ∀ a ∈ x.2.1,a ∈ xs) (fun x=>x.2.1.length) ([],xs,k) (zac ?_) ?_ ?_
 ·simp -implicitDefEqProofs only[go_sem]
 ·exact ⟨rfl,rfl,h0,hk,by simp,fun _ h=>h⟩
 ·intro ⟨dn,rest,kk⟩ ⟨h1,h2,h3,h4,h6,h5⟩
  simp only at h1 h2 h3 h4 h5 h6
  cases rest with
  | nil =>
   simp only [za1,Kd] at h1 h2
   simp -implicitDefEqProofs only[go_sem,h2,za1]
  | cons a rest =>
   obtain ⟨o0,⟨n0,s0⟩,v0,p0⟩:=a
   simp only [za1,zh2,zdn,ziw] at h1 h2 h4
   have hc_s0:=zbj s0 ((kk + 1) + 1)
   have hc_p0:=zc3 p0 ((zai s0 ((kk + 1) + 1)).2 + 1)
   have w0:IntKind.i64.wrap (((kk:Nat):Int) + 1) = ((kk + 1:Nat):Int):=zal (by omega)
   have w1:IntKind.i64.wrap ((((kk + 1):Nat):Int) + 1) = (((kk + 1) + 1:Nat):Int):=zal (by omega)
   have w2:IntKind.i64.wrap ((((zai s0 ((kk + 1) + 1)).2:Nat):Int) + 1) = (((zai s0 ((kk + 1) + 1)).2 + 1:Nat):Int):=zal (by omega)
   have hln:=zmv xs
   rw [Qm] at h6
   have wl:IntKind.i64.wrap ((dn.length:Int) + 1) = ((dn.length + 1:Nat):Int):=zal (by omega)
   simp -implicitDefEqProofs only[go_sem,za1,zh2,zab (.mk _ _ _ _),Fm.op,Fm.atom,Fm.var,Fm.parts,Tm.name,Tm.args]
   simp only [Ja]
   simp -implicitDefEqProofs only[go_sem,w0,w1,w2]
   refine drawn (by kernel_rfl) ?_
   simp -implicitDefEqProofs only[go_sem]
   refine zao (zcl (kk + 1) (by omega) (by omega)) (by simp -implicitDefEqProofs only[go_sem,K6,Ja,w0,w1,w2]) ?_
   simp -implicitDefEqProofs only[go_sem,K6,Ja,w0,w1,w2]
   refine ⟨by kernel_rfl,?_⟩
   refine callF (zes s0 ((kk + 1) + 1) (by omega) (by omega)) (by simp -implicitDefEqProofs only[go_sem,w0,w1,w2,Fm.op,Fm.atom,Fm.var,Fm.parts,Tm.name,Tm.args]) ?_
   simp -implicitDefEqProofs only[go_sem,w0,w1,w2,Fm.op,Fm.atom,Fm.var,Fm.parts,Tm.name,Tm.args]
   refine drawn (by kernel_rfl) ?_
   simp -implicitDefEqProofs only[go_sem]
   refine zao (zcl (zai s0 ((kk + 1) + 1)).2 (by omega) (by omega)) (by simp -implicitDefEqProofs only[go_sem,K6,Ja,w0,w1,w2]) ?_
   simp -implicitDefEqProofs only[go_sem,K6,Ja,w0,w1,w2]
   refine ⟨by kernel_rfl,?_⟩
   refine callF (H (.mk o0 (.mk n0 s0) v0 p0) (h5 _ (by simp)) ((zai s0 ((kk + 1) + 1)).2 + 1) (by omega) (by show ((zai s0 ((kk + 1) + 1)).2 + 1) + zdn p0 <= _; omega)) (by simp -implicitDefEqProofs only[go_sem,w0,w1,w2,Fm.op,Fm.atom,Fm.var,Fm.parts,Tm.name,Tm.args]) ?_
   simp -implicitDefEqProofs only[go_sem,w0,w1,w2,Fm.op,Fm.atom,Fm.var,Fm.parts,Tm.name,Tm.args]
   refine ⟨(dn ++ [.mk ((kk:Nat):Int) (.mk (mtx (kk + 1)) (zai s0 ((kk + 1) + 1)).1) (mtx (zai s0 ((kk + 1) + 1)).2) (za1 p0 ((zai s0 ((kk + 1) + 1)).2 + 1)).1],rest,(za1 p0 ((zai s0 ((kk + 1) + 1)).2 + 1)).2),⟨by simpa using h1,h2,by show 0 < (za1 p0 ((zai s0 ((kk + 1) + 1)).2 + 1)).2; omega,by show (za1 p0 ((zai s0 ((kk + 1) + 1)).2 + 1)).2 + zdn rest <= _; omega,by simp; omega,fun b hb=>h5 b (by simp [hb])⟩,by simp,zac ?_⟩
   simp -implicitDefEqProofs only[go_sem,wl,zab (.mk _ _ _ _),Fm.op,Fm.atom,Fm.var,Fm.parts,Tm.name,Tm.args,Q0,Kh]
theorem zh4 (xs:List Fm) (k:Nat) (h0:0 < k) (hk:k + zdn xs <= 4611686018427387904):FC Tryz.prog 120 [.one (fmS (za1 xs k).1),iD k] [iD (za1 xs k).2] :=
 zg4 xs (fun a _=>za8 (P:=fun a=>∀ k:Nat,0 < k->k + zdn a.parts <= 4611686018427387904->FC Tryz.prog 120 [.one (fmS (za1 a.parts k).1),iD k] [iD (za1 a.parts k).2]) (fun o b v ps ih=>zg4 ps ih) a) k h0 hk
def zbh:Tm->Nat->Tm × Nat
 | .mk n0 s0,k=>(.mk n0 (zai s0 k).1,(zai s0 k).2)
def ze5:Tm->Nat
 | .mk n0 s0=>zda s0
theorem zjo:∀ (a:Tm) (k:Nat),k <= (zbh a k).2 /\ (zbh a k).2 <= k + ze5 a
 | .mk n0 s0,k=>by have h0:=zbj s0 k; simp only [zbh,ze5]; omega
theorem qax (a:Tm) (k:Nat) (h0:0 < k) (hk:k + ze5 a <= 4611686018427387904):IC Tryz.prog 52 [] (.agg (tmC a)) [iD k] (.agg (tmC (zbh a k).1)) [iD (zbh a k).2]:=by
 obtain ⟨n0,s0⟩:=a
 simp only [ze5] at hk
 have hc0:=zbj s0 k
 simp only [zaa (.mk _ _),Tm.name,Tm.args,zbh]
 refine qni Tryz.call52 Tryz.func52 rfl (by kernel_rfl) (by simp only [zdx,rd,Qi,Qy,Kl,Qm,Qv,Tryz.ntmps52]; omega) (by simp only [Tryz.ntmps52]; omega) ⟨⟨by simp,by simp [T.isPin]⟩,zcx _⟩ trivial ?_
 simp -implicitDefEqProofs only[go_sem,Tryz.results52,zl2,zdx,PI]
 refine zxt (l:=[(1000000,.agg [.t (.str n0),.ow 1 0]),(2,.one (.bx 2 0)),(6,.one (.ow 1 0)),(7,vI (k:Nat))]) (bl:=[(2,[.t (.str n0),.ow 1 0])]) (el:=[(1,⟨true,2,(s0).map tmC,0,true⟩)]) (zds s0 k (by omega) (by omega)) (by simp -implicitDefEqProofs only[go_sem,zaa (.mk _ _),Tm.name,Tm.args,tmS]) rfl rfl rfl (by simp -implicitDefEqProofs only[go_sem,zaa (.mk _ _),Tm.name,Tm.args,tmS]) rfl ?_
 simp -implicitDefEqProofs only[go_sem,zaa (.mk _ _),Tm.name,Tm.args,tmS]
theorem zz3 (a:Tm) (k:Nat) (h0:0 < k) (hk:k + ze5 a <= 4611686018427387904):FC Tryz.prog 119 [.agg (tmC (zbh a k).1),iD k] [iD (zbh a k).2]:=by
 obtain ⟨n0,s0⟩:=a
 simp only [ze5] at hk
 have hc0:=zbj s0 k
 simp only [zaa (.mk _ _),Tm.name,Tm.args,zbh]
 refine zaj Tryz.call119 Tryz.func119 rfl (by kernel_rfl) (zax (by kernel_rfl)) ?_
 simp -implicitDefEqProofs only[go_sem,Tryz.results119]
 refine callF (zes s0 k (by omega) (by omega)) (by simp -implicitDefEqProofs only[go_sem,zaa (.mk _ _),Tm.name,Tm.args]) ?_
 simp -implicitDefEqProofs only[go_sem,zaa (.mk _ _),Tm.name,Tm.args]
def zbb:Fm->Nat->Fm × Nat
 | .mk o0 (.mk n0 s0) v0 p0,k=>(.mk o0 (.mk n0 (zbh (.mk n0 s0) k).1.args) v0 (za1 p0 (zbh (.mk n0 s0) k).2).1,(za1 p0 (zbh (.mk n0 s0) k).2).2)
def zcm:Fm->Nat
 | .mk o0 (.mk n0 s0) v0 p0=>ze5 (.mk n0 s0) + zdn p0
theorem zp2:∀ (a:Fm) (k:Nat),k <= (zbb a k).2 /\ (zbb a k).2 <= k + zcm a
 | .mk o0 (.mk n0 s0) v0 p0,k=>by have h0:=zjo (.mk n0 s0) k; have h37:=zc3 p0 (zbh (.mk n0 s0) k).2; simp only [zbb,zcm]; omega
theorem zi5 (a:Fm) (k:Nat) (h0:0 < k) (hk:k + zcm a <= 4611686018427387904):IC Tryz.prog 16 [] (.agg (fmC a)) [iD k] (.agg (fmC (zbb a k).1)) [iD (zbb a k).2]:=by
 obtain ⟨o0,⟨n0,s0⟩,v0,p0⟩:=a
 simp only [zcm] at hk
 have hc0:=zjo (.mk n0 s0) k
 have hc1:=zc3 p0 (zbh (.mk n0 s0) k).2
 simp only [zab (.mk _ _ _ _),zaa (.mk _ _),Fm.op,Fm.atom,Fm.var,Fm.parts,Tm.name,Tm.args,zbb,zbh]
 refine qni Tryz.call16 Tryz.func16 rfl (by kernel_rfl) (by simp only [zdx,rd,Qi,Qy,Kl,Qm,Qv,Tryz.ntmps16]; omega) (by simp only [Tryz.ntmps16]; omega) ⟨⟨by simp,by simp [T.isPin]⟩,zcx _⟩ trivial ?_
 simp -implicitDefEqProofs only[go_sem,Tryz.results16,zl2,zdx,PI]
 refine zxt (l:=[(1000000,.agg [.t (.int .i64 o0),.t (.str n0),.ow 2 0,.t (.str v0),.ow 4 0]),(2,.one (.bx 2 0)),(6,.agg [.t (.str n0),.ow 2 0]),(7,vI (k:Nat))]) (bl:=[(2,[.t (.int .i64 o0),.t (.str n0),.ow 2 0,.t (.str v0),.ow 4 0])]) (el:=[(2,⟨true,2,(s0).map tmC,0,true⟩),(4,⟨true,5,(p0).map fmC,0,true⟩)]) (qax (.mk n0 s0) k (by omega) (by omega)) (by simp -implicitDefEqProofs only[go_sem,zab (.mk _ _ _ _),zaa (.mk _ _),Fm.op,Fm.atom,Fm.var,Fm.parts,Tm.name,Tm.args,zbh,tmS]) rfl rfl rfl (by simp -implicitDefEqProofs only[go_sem,zab (.mk _ _ _ _),zaa (.mk _ _),Fm.op,Fm.atom,Fm.var,Fm.parts,Tm.name,Tm.args,zbh,tmS]) rfl ?_
 simp -implicitDefEqProofs only[go_sem,zab (.mk _ _ _ _),zaa (.mk _ _),Fm.op,Fm.atom,Fm.var,Fm.parts,Tm.name,Tm.args,zbh,tmS]
 refine zxt (l:=[(1000000,.agg [.t (.int .i64 o0),.t (.str n0),.ow 2 0,.t (.str v0),.ow 4 0]),(2,.one (.bx 2 0)),(10,.one (.ow 4 0)),(11,vI ((zbh (.mk n0 s0) k).2:Nat))]) (bl:=[(2,[.t (.int .i64 o0),.t (.str n0),.ow 2 0,.t (.str v0),.ow 4 0])]) (el:=[(2,⟨true,2,((zai s0 k).1).map tmC,0,true⟩),(4,⟨true,5,(p0).map fmC,0,true⟩)]) (zhz p0 (zbh (.mk n0 s0) k).2 (by omega) (by omega)) (by simp -implicitDefEqProofs only[go_sem,zab (.mk _ _ _ _),zaa (.mk _ _),Fm.op,Fm.atom,Fm.var,Fm.parts,Tm.name,Tm.args,zbh,fmS]) rfl rfl rfl (by simp -implicitDefEqProofs only[go_sem,zab (.mk _ _ _ _),zaa (.mk _ _),Fm.op,Fm.atom,Fm.var,Fm.parts,Tm.name,Tm.args,zbh,fmS]) rfl ?_
 simp -implicitDefEqProofs only[go_sem,zab (.mk _ _ _ _),zaa (.mk _ _),Fm.op,Fm.atom,Fm.var,Fm.parts,Tm.name,Tm.args,zbh,fmS]
theorem zqu (a:Fm) (k:Nat) (h0:0 < k) (hk:k + zcm a <= 4611686018427387904):FC Tryz.prog 56 [.agg (fmC (zbb a k).1),iD k] [iD (zbb a k).2]:=by
 obtain ⟨o0,⟨n0,s0⟩,v0,p0⟩:=a
 simp only [zcm] at hk
 have hc0:=zjo (.mk n0 s0) k
 have hc1:=zc3 p0 (zbh (.mk n0 s0) k).2
 simp only [zab (.mk _ _ _ _),zaa (.mk _ _),Fm.op,Fm.atom,Fm.var,Fm.parts,Tm.name,Tm.args,zbb]
 refine zaj Tryz.call56 Tryz.func56 rfl (by kernel_rfl) (zax (by kernel_rfl)) ?_
 simp -implicitDefEqProofs only[go_sem,Tryz.results56]
 refine callF (zz3 (.mk n0 s0) k (by omega) (by omega)) (by simp -implicitDefEqProofs only[go_sem,zab (.mk _ _ _ _),zaa (.mk _ _),Fm.op,Fm.atom,Fm.var,Fm.parts,Tm.name,Tm.args,zbh]) ?_
 simp -implicitDefEqProofs only[go_sem,zab (.mk _ _ _ _),zaa (.mk _ _),Fm.op,Fm.atom,Fm.var,Fm.parts,Tm.name,Tm.args,zbh]
 refine callF (zh4 p0 (zbh (.mk n0 s0) k).2 (by omega) (by omega)) (by simp -implicitDefEqProofs only[go_sem,zab (.mk _ _ _ _),zaa (.mk _ _),Fm.op,Fm.atom,Fm.var,Fm.parts,Tm.name,Tm.args,zbh]) ?_
 simp -implicitDefEqProofs only[go_sem,zab (.mk _ _ _ _),zaa (.mk _ _),Fm.op,Fm.atom,Fm.var,Fm.parts,Tm.name,Tm.args,zbh]
end
section
set_option maxRecDepth 4000
open Go.RowKit
theorem wt_mkF (o:Int) (ps:List Fm):(mkF o ps).wt = ps.length + (ps.map Fm.wt).sum:=by
 rw [Fm.wt_eq]
 show (Tm.mk [] []).wt + 0 + ps.length + _ = _
 rw [Tm.wt_eq]
 simp [Tm.name,Tm.args,mkF,Fm.parts]
mutual
theorem qdz:∀ a:Tm,zir a <= 2 + 2 * a.wt
 | .mk n s=>by
  have:=zed s
  rw [Tm.wt_eq,zir]; unfold zec at this
  simp only [Tm.name,Tm.args]; omega
theorem zed:∀ xs:List Tm,zda xs <= 2 * zec xs
 | []=>by simp [zda]
 | a :: xs=>by
  have h1:=qdz a
  have h2:=zed xs
  unfold zec at h2 ⊢
  rw [zda,Qm,Qi,Q3]; omega
end
mutual
theorem qhs:∀ a:Fm,ziw a <= 4 + 4 * a.wt
 | .mk o (.mk n s) v p=>by
  have h1:=zed s
  have h2:=zim p
  rw [Fm.wt_eq,ziw]; unfold zsh at h2; unfold zec at h1
  simp only [Fm.atom,Fm.var,Fm.parts]
  rw [Tm.wt_eq]
  simp only [Tm.name,Tm.args]; omega
theorem zim:∀ xs:List Fm,zdn xs <= 4 * zsh xs
 | []=>by simp [zdn]
 | a :: xs=>by
  have h1:=qhs a
  have h2:=zim xs
  unfold zsh at h2 ⊢
  rw [zdn,Qm,Qi,Q3]; omega
end
theorem zpk (a:Fm):zcm a <= 4 * a.wt:=by
 obtain ⟨o,⟨n,s⟩,v,p⟩:=a
 have h1:=zed s
 have h2:=zim p
 rw [Fm.wt_eq,zcm,ze5]; unfold zsh at h2; unfold zec at h1
 simp only [Fm.atom,Fm.var,Fm.parts]
 rw [Tm.wt_eq]
 simp only [Tm.name,Tm.args]; omega
theorem zkz (f:Fm) (k:Nat):fmC (zbb f k).1 = [.int .i64 f.op,.str f.atom.name,.sl 2 ((zbb f k).1.atom.args.map tmC),.str f.var,.sl 5 ((zbb f k).1.parts.map fmC)]:=by
 obtain ⟨o,⟨n,s⟩,v,p⟩:=f
 rw [zab]; rfl
end
section
set_option maxRecDepth 4000
open Go.RowKit
theorem zmz (f:Fm) (hs:f.wt <= 1099511627776):GC Tryz.prog 89 [(true,fmD f)] [fmD (if f.good = true then f else mkF 0 []),bD f.good]:=by
 cases h:f.good
 ·rw [if_neg (by simp)]
  simp only [fmD,zab f,zcg,Qy]
  refine qgg Tryz.call89 Tryz.func89 rfl (by kernel_rfl) (by simp only [Qm,Qv,Tryz.ntmps89]; omega) (by simp [zbq,T.isPin]) ?_
  simp -implicitDefEqProofs only[go_sem,Tryz.results89]
  refine callF (zb6 f hs) (by simp -implicitDefEqProofs only[go_sem,zab f,h]) ?_
  simp -implicitDefEqProofs only[go_sem,zab f,h]
 ·rw [if_pos rfl]
  simp only [fmD,zab f]
  refine qgg Tryz.call89 Tryz.func89 rfl (by kernel_rfl) (by simp only [Qm,Qv,Tryz.ntmps89]; omega) (by simp [zbq,T.isPin]) ?_
  simp -implicitDefEqProofs only[go_sem,Tryz.results89]
  refine callF (zb6 f hs) (by simp -implicitDefEqProofs only[go_sem,zab f,h]) ?_
  simp -implicitDefEqProofs only[go_sem,zab f,h]
theorem zuq (op:Int) (z:Fm):∀ xs:List Fm,(zdk op xs z).wt <= 2 * xs.length + (xs.map Fm.wt).sum + z.wt
 | []=>by simp [zdk]
 | x :: xs=>by
  by_cases h:xs = []
  ·subst h; simp [zdk]; omega
  ·rw [zho op x h,wt_mkF]
   have:=zuq op z xs
   simp; omega
end
section
set_option maxRecDepth 4000
open Go.RowKit
theorem zvt {n m:Str} (hn:zay n = true) (hm:zc4 m = true):(n == m) = false:=by
 rw [Je]
 rintro rfl
 have h1:=(zq3 hn).1
 have h2:=(zls hm).1
 rw [h1] at h2
 cases h2
theorem qav {n:Str} (h:zc4 n = true):zay n = false:=by
 cases hv:zay n
 ·rfl
 ·have:=zvt hv h
  simp at this
theorem qnq (v:Str) (hv:zay v = true):∀ a:Tm,a.names = true->(decide (0 < zjh v a) = (voS a).contains v):=zbf fun m xs ih h=>by
 rw [Tm.names_eq] at h
 rw [zvv,zkp]
 change (if zay m = true then decide (xs.length = 0) else zc4 m && decide (xs.length <= 4) && xs.all Tm.names) = true at h
 change decide (0 < (if (m == v) = true then 1 else 0) + (xs.map (zjh v)).sum) = (if zay m = true then [m] else (xs.map voS).flatten).contains v
 rw [Kk,Qg,Kn]
 by_cases hm:zay m = true
 ·rw [if_pos hm] at h ⊢
  have hx:xs = []:=Qx.1 (K4 h)
  subst hx
  simp only [Qy,Yj,Q5,Ki]
  by_cases e:m = v
  ·simp [e]
  ·simp [e]; exact fun h=>e h.symm
 ·rw [if_neg hm] at h ⊢
  simp only [Qa] at h
  have hne:=zvt hv h.1.1
  have hmv:(m == v) = false:=by rw [Je] at hne ⊢; exact fun e=>hne e.symm
  rw [hmv,if_neg (by simp),Q4]
  have hI:∀ x ∈ xs,(0 < zjh v x ↔ v ∈ voS x):=fun x hx=>by
   have:=ih x hx (Ql.1 h.2 x hx)
   rwa [Kk,Qg,Kn] at this
  clear ih h
  rw [List.mem_flatten]
  constructor
  ·intro hs
   have : ∃ x ∈ xs,0 < zjh v x:=by
    revert hs
    clear hI
    induction xs with
    | nil=>simp
    | cons x xs ih2 =>
     intro hs
     simp only [Qi,Q3] at hs
     by_cases h0:0 < zjh v x
     ·exact ⟨x,by simp,h0⟩
     ·obtain ⟨y,hy,h1⟩:=ih2 (by omega)
      exact ⟨y,by simp [hy],h1⟩
   obtain ⟨x,hx,h1⟩:=this
   exact ⟨voS x,Kf.2 ⟨x,hx,rfl⟩,(hI x hx).1 h1⟩
  ·rintro ⟨l,hl,hv2⟩
   obtain ⟨x,hx,rfl⟩:=Kf.1 hl
   have h1:=(hI x hx).2 hv2
   have h2:=zbo (zjh v) xs x hx
   omega
theorem vf_mem:∀ (f:Fm) (b:List Str) (x:Str),x ∈ vf f b ↔ x ∈ vf f [] /\ x ∉ b:=za8 fun o a v ps ih b x=>by
 rw [zzc (.mk o a v ps) b,zzc (.mk o a v ps) []]
 change x ∈ (if (o == 3) = true then (zba [] (voS a)).filter (fun s=>!b.contains s) else (ps.map fun y=>vf y (if isQ o = true then b ++ [v] else b)).flatten) ↔ x ∈ (if (o == 3) = true then (zba [] (voS a)).filter (fun s=>!([]:List Str).contains s) else (ps.map fun y=>vf y (if isQ o = true then [] ++ [v] else [])).flatten) /\ x ∉ b
 split
 ·simp [Yh]
 ·have hI:∀ y ∈ ps,∀ c,x ∈ vf y c ↔ x ∈ vf y [] /\ x ∉ c:=fun y hy c=>ih y hy c x
  simp only [List.mem_flatten,Kf]
  constructor
  ·rintro ⟨l,⟨y,hy,rfl⟩,hx⟩
   rw [hI y hy] at hx
   refine ⟨⟨_,⟨y,hy,rfl⟩,?_⟩,?_⟩
   ·rw [hI y hy]
    refine ⟨hx.1,fun hm=>hx.2 ?_⟩
    split at hm
    ·rw [if_pos ‹_›]; simp at hm; simp [hm]
    ·simp at hm
   ·intro hm
    apply hx.2
    split
    ·simp [hm]
    ·exact hm
  ·rintro ⟨⟨l,⟨y,hy,rfl⟩,hx⟩,hb⟩
   rw [hI y hy] at hx
   refine ⟨_,⟨y,hy,rfl⟩,?_⟩
   rw [hI y hy]
   refine ⟨hx.1,fun hm=>?_⟩
   split at hm
   ·rw [if_pos ‹_›] at hx
    rcases Qt.1 hm with hm | hm
    ·exact hb hm
    ·exact hx.2 (by simpa using hm)
   ·exact hb hm
theorem zgv (l:List Str) (n:Str):(zba [] l).contains n = l.contains n:=by
 rw [Kk,Kn,Kn,zmu]; simp
theorem qe7 {f q:Fm} {n:Str} (hq:isQ f.op = true) (hp:f.parts = [q]) (hn:(f.var == n) = false):(zba [] (vf f [])).contains n = (zkx f.parts).contains n:=by
 have h3:(f.op == 3) = false:=by
  rw [Je]; intro e; rw [e] at hq; exact absurd hq (by decide)
 rw [zgv,hp]
 show _ = (zba [] (vf q [])).contains n
 rw [zgv,Kk,Kn,Kn,zzc f [],h3,if_neg (by simp),if_pos hq,hp]
 simp only [Qi,Qy,Q9,List.flatten_nil,Kd,Kl]
 rw [vf_mem]
 rw [Je] at hn
 constructor
 ·exact fun h=>h.1
 ·exact fun h=>⟨h,by simpa using fun e=>hn e.symm⟩
theorem zsu (n:Str) (t:Tm) (hn:zay n = true) (ht:t.names = true):∀ a:Tm,a.names = true->zge n t a = zb9 (bnd n t) a:=zbf fun m xs ih h=>by
 rw [Tm.names_eq] at h
 rw [zqi,zfx]
 change (if zay m = true then decide (xs.length = 0) else zc4 m && decide (xs.length <= 4) && xs.all Tm.names) = true at h
 change (if xs.length = 0 then (if (n == m) = true then t else .mk m []) else .mk m (xs.map (zge n t))) = (if zay m = true then (match (bnd n t).find? fun (p:Str × Tm)=>p.1 == m with | some p=>p.2 | none=>.mk m []) else .mk m (xs.map (zb9 (bnd n t))))
 by_cases hm:zay m = true
 ·rw [if_pos hm] at h ⊢
  rw [if_pos (K4 h)]
  unfold bnd
  cases htn:t.name == n
  ·cases hnm:n == m <;> simp only [hnm,if_true,if_false,Qo,List.find?_cons,List.find?_nil]
  ·cases hnm:n == m
   ·simp only [if_true,if_false,Qo,List.find?_nil]
   ·simp only [if_true,List.find?_nil]
    have e1:t.name = m:=by rw [Ki] at htn hnm; rw [htn,hnm]
    rw [Tm.names_eq,e1,if_pos hm] at ht
    have e2:t.args = []:=Qx.1 (K4 ht)
    cases t with
    | mk tn ta=>simp only [Tm.name,Tm.args] at e1 e2; rw [e1,e2]
 ·rw [if_neg hm] at h ⊢
  simp only [Qa] at h
  have hne:=zvt hn h.1.1
  by_cases hx:xs.length = 0
  ·rw [if_pos hx,hne,if_neg (by simp)]
   have hx:xs = []:=Qx.1 hx
   subst hx; rfl
  ·rw [if_neg hx]
   rw [Q6 fun x hx=>ih x hx (Ql.1 h.2 x hx)]
theorem qds (n:Str) (t:Tm) (hn:zay n = true) (ht:t.names = true) (a:Tm) (h:a.atomOk = true):zge n t a = zb9 (bnd n t) a:=by
 unfold Tm.atomOk at h
 split at h
 ·rename_i he
  have he:a.name = [61]:=by simpa using he
  simp only [Qa,Qg] at h
  rw [zqi,zfx,he,show zay [61] = false by decide,if_neg (by omega),if_neg (by simp)]
  rw [Q6 fun x hx=>zsu n t hn ht x (Ql.1 h.2 x hx)]
 ·simp only [Qa] at h
  have:=h.2
  unfold Tm.good at this
  rw [Qa] at this
  exact zsu n t hn ht a this.2
theorem noneT {a:Tm} (h:a.none = true):a = .mk [] []:=by
 unfold Tm.none at h
 rw [Qa,Ki,Qg,Qx] at h
 cases a with
 | mk n xs=>simp only [Tm.name,Tm.args] at h; rw [h.1,h.2]
theorem zer {f:Fm} (h:f.here = true) (h3:(f.op == 3) = false):f.atom = .mk [] []:=by
 apply noneT
 unfold Fm.here at h
 rw [h3] at h
 simp only [Qo,if_false] at h
 split at h
 ·simp only [Qa] at h; exact h.1.2
 ·split at h
  ·simp only [Qa] at h; exact h.1.2
  ·split at h
   ·simp only [Qa] at h; exact h.1.2
   ·split at h
    ·simp only [Qa] at h; exact h.1.2
    ·cases h
theorem zi6 {f:Fm} {ps:List Fm} (h:f.here = true) (h3:(f.op == 3) = false) (hl:ps.length = f.parts.length):(Fm.mk f.op f.atom f.var ps).here = true:=by
 have e:(Fm.mk f.op f.atom f.var ps).here = f.here:=by
  unfold Fm.here
  show (if (f.op == 1 || f.op == 2) = true then decide (ps.length = 0) && f.atom.none && (f.var == []) else if (f.op == 3) = true then decide (ps.length = 0) && f.atom.atomOk && (f.var == []) else if (f.op == 4) = true then decide (ps.length = 1) && f.atom.none && (f.var == []) else if zm8 f.op = true then decide (ps.length = 2) && f.atom.none && (f.var == []) else if isQ f.op = true then decide (ps.length = 1) && f.atom.none && zay f.var else false) = _
  rw [hl]
 rw [e]; exact h
theorem zmo {f:Fm} (h1:f.here = true) (h:isQ f.op = true):zay f.var = true:=by
 unfold Fm.here at h1
 have h2:(f.op == 1 || f.op == 2) = false /\ (f.op == 3) = false /\ (f.op == 4) = false /\ zm8 f.op = false:=by
  have h8:f.op = 8 \/ f.op = 9:=by unfold isQ at h; rw [Ji,Ki,Ki] at h; exact h
  rcases h8 with e | e <;> rw [e] <;> decide
 rw [h2.1,h2.2.1,h2.2.2.1,h2.2.2.2,h] at h1
 simp only [Qo,if_false,if_true,Qa] at h1
 exact h1.2
theorem ze2 (o:Int) (a:Tm) (v:Str) (ps:List Fm):(Fm.mk o a v ps).forms = ((Fm.mk o a v ps).here && ps.all Fm.forms):=Fm.forms_eq _
theorem zui (n:Str) (t:Tm) (hn:zay n = true) (ht:t.names = true):∀ f:Fm,f.forms = true->(((zdo n t f).2 = true /\ (zdo n t f).1.forms = true) ↔ ((za5 n t f).2 = true /\ (za5 n t f).1.forms = true)) /\ ((za5 n t f).2 = true->(za5 n t f).1.forms = true->(zdo n t f).1 = (za5 n t f).1):=za8 fun o a v ps ih hf=>by
 have hS:=zwg n t (.mk o a v ps)
 have hP:=zic n t (.mk o a v ps)
 have hf0:=hf
 rw [Fm.forms_eq,Qa] at hf0
 obtain ⟨hh,hps⟩:=hf0
 have hps:∀ x ∈ ps,x.forms = true:=Ql.1 hps
 have ihx:∀ x ∈ ps,_:=fun x hx=>ih x hx (hps x hx)
 cases h3:o == 3
 ·have h3':((Fm.mk o a v ps).op == 3) = false:=h3
  have ha:a = .mk [] []:=zer hh h3'
  have hall:(∀ x ∈ ps,(zdo n t x).2 = true /\ (zdo n t x).1.forms = true) ↔ (∀ x ∈ ps,(za5 n t x).2 = true /\ (za5 n t x).1.forms = true):=forall_congr' fun x=>forall_congr' fun hx=>(ihx x hx).1
  have main:((zdo n t (.mk o a v ps)) = (.mk o a v (ps.map fun x=>(zdo n t x).1),ps.all fun x=>(zdo n t x).2))->((za5 n t (.mk o a v ps)) = (.mk o a v ((ps.takeWhile fun x=>(za5 n t x).2).map fun x=>(za5 n t x).1),ps.all fun x=>(za5 n t x).2))->_:=fun e1 e2=>by
   have l1:((zdo n t (.mk o a v ps)).2 = true /\ (zdo n t (.mk o a v ps)).1.forms = true) ↔ (∀ x ∈ ps,(zdo n t x).2 = true /\ (zdo n t x).1.forms = true):=by
    rw [e1]
    show ((ps.all fun x=>(zdo n t x).2) = true /\ (Fm.mk o a v (ps.map fun x=>(zdo n t x).1)).forms = true) ↔ _
    rw [ze2,Ql,Qa,Ql]
    have hhe:(Fm.mk o a v (ps.map fun x=>(zdo n t x).1)).here = true:=zi6 (f:=.mk o a v ps) hh h3' (by show (ps.map _).length = ps.length; rw [Qb])
    constructor
    ·rintro ⟨h1,_,h2⟩ x hx; exact ⟨h1 x hx,h2 _ (Kf.2 ⟨x,hx,rfl⟩)⟩
    ·intro h; refine ⟨fun x hx=>(h x hx).1,hhe,fun y hy=>?_⟩
     obtain ⟨x,hx,rfl⟩:=Kf.1 hy; exact (h x hx).2
   have l2:((za5 n t (.mk o a v ps)).2 = true /\ (za5 n t (.mk o a v ps)).1.forms = true) ↔ (∀ x ∈ ps,(za5 n t x).2 = true /\ (za5 n t x).1.forms = true):=by
    rw [e2]
    show ((ps.all fun x=>(za5 n t x).2) = true /\ (Fm.mk o a v ((ps.takeWhile fun x=>(za5 n t x).2).map fun x=>(za5 n t x).1)).forms = true) ↔ _
    constructor
    ·rintro ⟨h1,h2⟩ x hx
     have hw:(ps.takeWhile fun x=>(za5 n t x).2) = ps:=by
      have:=(zc1 (l:=ps) (p:=fun x=>(za5 n t x).2) (k:=ps.length) (Qw _) (by rw [Kz]; exact Ql.1 h1) fun h=>absurd h (Yc _)).1
      rw [this,Kz]
     rw [hw,ze2,Qa,Ql] at h2
     exact ⟨Ql.1 h1 x hx,h2.2 _ (Kf.2 ⟨x,hx,rfl⟩)⟩
    ·intro h
     have h1:(ps.all fun x=>(za5 n t x).2) = true:=Ql.2 fun x hx=>(h x hx).1
     have hw:(ps.takeWhile fun x=>(za5 n t x).2) = ps:=by
      have:=(zc1 (l:=ps) (p:=fun x=>(za5 n t x).2) (k:=ps.length) (Qw _) (by rw [Kz]; exact Ql.1 h1) fun h=>absurd h (Yc _)).1
      rw [this,Kz]
     have hhe:(Fm.mk o a v (ps.map fun x=>(za5 n t x).1)).here = true:=zi6 (f:=.mk o a v ps) hh h3' (by show (ps.map _).length = ps.length; rw [Qb])
     rw [hw,ze2,Qa]
     refine ⟨h1,hhe,Ql.2 fun y hy=>?_⟩
     obtain ⟨x,hx,rfl⟩:=Kf.1 hy; exact (h x hx).2
   refine (⟨l1.trans (hall.trans l2.symm),fun p1 p2=>?_⟩:(((zdo n t (.mk o a v ps)).2 = true /\ (zdo n t (.mk o a v ps)).1.forms = true) ↔ ((za5 n t (.mk o a v ps)).2 = true /\ (za5 n t (.mk o a v ps)).1.forms = true)) /\ ((za5 n t (.mk o a v ps)).2 = true->(za5 n t (.mk o a v ps)).1.forms = true->(zdo n t (.mk o a v ps)).1 = (za5 n t (.mk o a v ps)).1))
   have hA:=l2.1 ⟨p1,p2⟩
   have h1:(ps.all fun x=>(za5 n t x).2) = true:=Ql.2 fun x hx=>(hA x hx).1
   have hw:(ps.takeWhile fun x=>(za5 n t x).2) = ps:=by
    have:=(zc1 (l:=ps) (p:=fun x=>(za5 n t x).2) (k:=ps.length) (Qw _) (by rw [Kz]; exact Ql.1 h1) fun h=>absurd h (Yc _)).1
    rw [this,Kz]
   rw [e1,e2,hw]
   show Fm.mk o a v (ps.map fun x=>(zdo n t x).1) = Fm.mk o a v (ps.map fun x=>(za5 n t x).1)
   rw [Q6 fun x hx=>(ihx x hx).2 (hA x hx).1 (hA x hx).2]
  cases hq:isQ o
  ·refine main ?_ ?_
   ·rw [hS]
    show (if (isQ o && _) = true then _ else if (isQ o && _) = true then _ else (Fm.mk o (if (o == 3) = true then zge n t a else a) v _,_)) = _
    rw [hq,h3]
    simp only [Qj,Qo,if_false]
    rfl
   ·rw [hP]
    show (if (o == 3) = true then _ else if (isQ o && _) = true then _ else if (isQ o && _) = true then _ else (Fm.mk o (.mk [] []) v _,_)) = _
    rw [hq,h3]
    simp only [Qj,Qo,if_false]
    rw [<-ha]
    rfl
  ·obtain ⟨q,hp,hqf⟩:=zlh (f:=.mk o a v ps) hq hf
   cases hvn:v == n
   ·have hfp:=qe7 (f:=.mk o a v ps) (n:=n) hq hp hvn
    have hvok:zay v = true:=zmo (f:=.mk o a v ps) hh hq
    have hoc:=qnq v hvok t ht
    have hc2:(zba [] (voS t)).contains v = (voS t).contains v:=zgv _ _
    have hS2:zdo n t (.mk o a v ps) = if (!(zkx ps).contains n) = true then (.mk o a v ps,true) else if (voS t).contains v = true then (mkF 0 [],false) else (.mk o a v (ps.map fun x=>(zdo n t x).1),ps.all fun x=>(zdo n t x).2):=by
     rw [hS]
     show (if (isQ o && (v == n || !((zba [] (vf (.mk o a v ps) [])).contains n))) = true then _ else if (isQ o && decide (0 < zjh v t)) = true then _ else (Fm.mk o (if (o == 3) = true then zge n t a else a) v _,_)) = _
     rw [hfp,hq,hvn,h3,hoc]
     simp only [Qn,Jc,Qo,if_false]
     rfl
    have hP2:za5 n t (.mk o a v ps) = if (!(zkx ps).contains n) = true then (.mk o a v ps,true) else if (voS t).contains v = true then (.mk o (.mk [] []) v [],false) else (.mk o a v ((ps.takeWhile fun x=>(za5 n t x).2).map fun x=>(za5 n t x).1),ps.all fun x=>(za5 n t x).2):=by
     rw [hP]
     show (if (o == 3) = true then _ else if (isQ o && (v == n || !((zkx ps).contains n))) = true then _ else if (isQ o && (zba [] (voS t)).contains v) = true then _ else (Fm.mk o (.mk [] []) v _,_)) = _
     rw [hq,hvn,h3,hc2]
     simp only [Qn,Jc,Qo,if_false]
     rw [<-ha]
     rfl
    cases hfc:(!(zkx ps).contains n)
    ·rw [hfc] at hS2 hP2
     simp only [Qo,if_false] at hS2 hP2
     cases hvc:(voS t).contains v
     ·rw [hvc] at hS2 hP2
      simp only [Qo,if_false] at hS2 hP2
      exact main hS2 hP2
     ·rw [hvc] at hS2 hP2
      simp only [if_true] at hS2 hP2
      rw [hS2,hP2]
      exact ⟨⟨fun h=>(by cases h.1),fun h=>(by cases h.1)⟩,fun h=>(by cases h)⟩
    ·rw [hfc] at hS2 hP2
     simp only [if_true] at hS2 hP2
     rw [hS2,hP2]
     exact ⟨Iff.rfl,fun _ _=>rfl⟩
   ·have hS2:zdo n t (.mk o a v ps) = (.mk o a v ps,true):=by
     rw [hS]
     show (if (isQ o && (v == n || _)) = true then _ else _) = _
     rw [hq,hvn]
     simp only [Qn,Bool.true_or,if_true]
    have hP2:za5 n t (.mk o a v ps) = (.mk o a v ps,true):=by
     rw [hP]
     show (if (o == 3) = true then _ else if (isQ o && (v == n || _)) = true then _ else _) = _
     rw [hq,hvn,h3]
     simp only [Qn,Bool.true_or,if_true,Qo,if_false]
    rw [hS2,hP2]
    exact ⟨Iff.rfl,fun _ _=>rfl⟩
 ·have ho3:o = 3:=by simpa using h3
  obtain ⟨hat,hp⟩:=zgx (f:=.mk o a v ps) hh ho3
  have hp:ps = []:=hp
  have hat:a.atomOk = true:=hat
  have hq:isQ o = false:=by rw [ho3]; decide
  have hS2:zdo n t (.mk o a v ps) = (.mk o (zb9 (bnd n t) a) v [],true):=by
   rw [hS]
   show (if (isQ o && _) = true then _ else if (isQ o && _) = true then _ else (Fm.mk o (if (o == 3) = true then zge n t a else a) v (ps.map _),ps.all _)) = _
   rw [hq,h3,hp]
   simp only [Qj,Qo,if_false,if_true,Qy,List.all_nil]
   rw [qds n t hn ht a hat]
  have hP2:za5 n t (.mk o a v ps) = (.mk o (zb9 (bnd n t) a) v [],(zb9 (bnd n t) a).atomOk):=by
   rw [hP]
   show (if (o == 3) = true then _ else _) = _
   rw [h3]
   rfl
  rw [hS2,hP2]
  refine ⟨⟨fun h=>⟨?_,h.2⟩,fun h=>⟨rfl,h.2⟩⟩,fun _ _=>rfl⟩
  have:=h.2
  rw [ze2,Qa] at this
  exact (zgx (f:=.mk o (zb9 (bnd n t) a) v []) this.1 ho3).1
theorem zbw {f:Fm} (h:f.good = true):f.forms = true:=(Qa _ _ ▸ h:_ /\ _).2
noncomputable def sbF (n:Str) (t:Tm) (f:Fm):Fm × Bool:=if (f.good && zay n && t.good && (zdo n t f).2 && (zdo n t f).1.good) = true then ((zdo n t f).1,true) else (mkF 0 [],false)
theorem qj5 (n:Str) (t:Tm) (hn:zay n = true) (ht:t.names = true) (f:Fm) (hf:f.forms = true):((zdo n t f).2 && (zdo n t f).1.good) = ((za5 n t f).2 && (za5 n t f).1.good):=by
 obtain ⟨h1,h2⟩:=zui n t hn ht f hf
 rw [Kk,Qa,Qa]
 unfold Fm.good
 rw [Qa,Qa]
 constructor
 ·rintro ⟨a,b,c⟩
  obtain ⟨p,q⟩:=h1.1 ⟨a,c⟩
  exact ⟨p,by rw [<-h2 p q]; exact b,q⟩
 ·rintro ⟨a,b,c⟩
  obtain ⟨p,q⟩:=h1.2 ⟨a,c⟩
  exact ⟨p,by rw [h2 a c]; exact b,q⟩
theorem zej (f:Fm) (n:Str) (t:Tm) (hw:f.wt <= 1048576) (ht:t.wt <= 1048576) (hb:f.wt + (1 + f.wt) * t.wt <= 1099511627776):FC Tryz.prog 115 [fmD f,sD n,tmD t] [fmD (sbF n t f).1,bD (sbF n t f).2]:=by
 have hv:sbF n t f = if (f.good && zay n && t.good && (zdo n t f).2 && (zdo n t f).1.good) = true then ((zdo n t f).1,true) else (mkF 0 [],false):=rfl
 have HF:=zb6 f (by omega)
 have HN:=ze4 n
 have HT:=zee t (by omega)
 cases hg:f.good
 ·rw [hg] at hv HF
  simp only [Qj,Qo,if_false] at hv
  rw [hv]
  simp only [fmD,zab f,tmD,zaa t,zcg,Qy] at HF ⊢
  refine zaj Tryz.call115 Tryz.func115 rfl (by kernel_rfl) (zax (by kernel_rfl)) ?_
  simp -implicitDefEqProofs only[go_sem,Tryz.results115]
  refine callF (HF) (by simp -implicitDefEqProofs only[go_sem]) ?_
  simp -implicitDefEqProofs only[go_sem]
 ·cases hn:zay n
  ·rw [hg,hn] at hv
   rw [hg] at HF
   rw [hn] at HN
   simp only [Qj,Qn,Qo,if_false] at hv
   rw [hv]
   simp only [fmD,zab f,tmD,zaa t,zcg,Qy] at HF ⊢
   refine zaj Tryz.call115 Tryz.func115 rfl (by kernel_rfl) (zax (by kernel_rfl)) ?_
   simp -implicitDefEqProofs only[go_sem,Tryz.results115]
   refine callF (HF) (by simp -implicitDefEqProofs only[go_sem]) ?_
   simp -implicitDefEqProofs only[go_sem]
   refine callF (HN) (by simp -implicitDefEqProofs only[go_sem]) ?_
   simp -implicitDefEqProofs only[go_sem]
  ·cases htg:t.good
   ·rw [hg,hn,htg] at hv
    rw [hg] at HF
    rw [hn] at HN
    rw [htg] at HT
    simp only [Qj,Qn,Qo,if_false] at hv
    rw [hv]
    simp only [fmD,zab f,tmD,zaa t,zcg,Qy] at HF HT ⊢
    refine zaj Tryz.call115 Tryz.func115 rfl (by kernel_rfl) (zax (by kernel_rfl)) ?_
    simp -implicitDefEqProofs only[go_sem,Tryz.results115]
    refine callF (HF) (by simp -implicitDefEqProofs only[go_sem]) ?_
    simp -implicitDefEqProofs only[go_sem]
    refine callF (HN) (by simp -implicitDefEqProofs only[go_sem]) ?_
    simp -implicitDefEqProofs only[go_sem]
    refine callF (HT) (by simp -implicitDefEqProofs only[go_sem]) ?_
    simp -implicitDefEqProofs only[go_sem]
   ·rw [hg,hn,htg] at hv
    rw [hg] at HF
    rw [hn] at HN
    rw [htg] at HT
    have HS:=zqt n t ht f (zbw hg) hw
    have hwt:=qns n t f
    generalize (zdo n t f).1 = R at HS hv hwt
    simp only [Qn] at hv
    cases hok:(zdo n t f).2
    ·rw [hok] at hv HS
     simp only [Qj,Qo,if_false] at hv
     rw [hv]
     simp only [fmD,zab f,tmD,zaa t,zab R,zcg,Qy] at HF HT HS ⊢
     refine zaj Tryz.call115 Tryz.func115 rfl (by kernel_rfl) (zax (by kernel_rfl)) ?_
     simp -implicitDefEqProofs only[go_sem,Tryz.results115]
     refine callF (HF) (by simp -implicitDefEqProofs only[go_sem]) ?_
     simp -implicitDefEqProofs only[go_sem]
     refine callF (HN) (by simp -implicitDefEqProofs only[go_sem]) ?_
     simp -implicitDefEqProofs only[go_sem]
     refine callF (HT) (by simp -implicitDefEqProofs only[go_sem]) ?_
     simp -implicitDefEqProofs only[go_sem]
     refine callF (HS) (by simp -implicitDefEqProofs only[go_sem]) ?_
     simp -implicitDefEqProofs only[go_sem]
    ·rw [hok] at hv HS
     have HI:=zmz R (by omega)
     simp only [Qn] at hv
     have hv2:sbF n t f = ((if R.good = true then R else mkF 0 []),R.good):=by rw [hv]; cases R.good <;> rfl
     rw [hv2]
     generalize (if R.good = true then R else mkF 0 []) = Z at HI ⊢
     generalize R.good = G at HI ⊢
     simp only [fmD,zab f,tmD,zaa t,zab R,zab Z] at HF HT HS HI ⊢
     refine zaj Tryz.call115 Tryz.func115 rfl (by kernel_rfl) (zax (by kernel_rfl)) ?_
     simp -implicitDefEqProofs only[go_sem,Tryz.results115]
     refine callF (HF) (by simp -implicitDefEqProofs only[go_sem]) ?_
     simp -implicitDefEqProofs only[go_sem]
     refine callF (HN) (by simp -implicitDefEqProofs only[go_sem]) ?_
     simp -implicitDefEqProofs only[go_sem]
     refine callF (HT) (by simp -implicitDefEqProofs only[go_sem]) ?_
     simp -implicitDefEqProofs only[go_sem]
     refine callF (HS) (by simp -implicitDefEqProofs only[go_sem]) ?_
     simp -implicitDefEqProofs only[go_sem]
     refine zc7 [6] [34] [] (HI) (by simp -implicitDefEqProofs only[go_sem]) (by simp -implicitDefEqProofs only[go_sem]) (by simp -implicitDefEqProofs only[go_sem]) (by simp -implicitDefEqProofs only[go_sem]) ?_
     simp -implicitDefEqProofs only[go_sem]
end
section
set_option maxRecDepth 4000
open Go.RowKit
theorem zfe {a x:Ex} (h:x ∈ a.parts):x.wt <= a.wt:=by
 have:=a.wt_eq
 have:=zbo Ex.wt a.parts x h
 omega
theorem zo6 (a:Ex):a.form.wt <= a.wt:=by have:=a.wt_eq; omega
def Ex.nodes:Ex->Nat:=Ex.fold fun _ _ _ rs=>1 + rs.sum
theorem Ex.nodes_eq (a:Ex):a.nodes = 1 + (a.parts.map Ex.nodes).sum:=Ex.fold_eq _ a
theorem zg8:∀ a:Ex,a.nodes <= 1 + a.wt:=by
 refine zd8 fun f t xs ih=>?_
 rw [Ex.nodes_eq,Ex.wt_eq]
 show 1 + (xs.map Ex.nodes).sum <= 1 + (f.wt + zec t + (xs.length + (xs.map Ex.wt).sum))
 have:(xs.map Ex.nodes).sum <= xs.length + (xs.map Ex.wt).sum:=by
  induction xs with
  | nil=>simp
  | cons x xs ih2 =>
   have h1:=ih x (by simp)
   have h2:=ih2 fun y hy=>ih y (by simp [hy])
   simp only [Qi,Q3,Qm]
   omega
 omega
def zfk:Ex->Int:=Ex.fold fun _ _ _ rs=>szL 60 1 rs
theorem zwz (a:Ex):zfk a = szL 60 1 (a.parts.map zfk):=Ex.fold_eq _ a
theorem znl:∀ a:Ex,1 <= zfk a /\ zfk a <= a.nodes /\ (zfk a <= 60->zfk a = a.nodes):=by
 refine zd8 fun f t xs ih=>?_
 rw [zwz,Ex.nodes_eq]
 show 1 <= szL 60 1 (xs.map zfk) /\ szL 60 1 (xs.map zfk) <= ((1 + (xs.map Ex.nodes).sum:Nat):Int) /\ _
 obtain ⟨k1,k2,k3⟩:=zk5 zfk Ex.nodes 60 xs 1 (by omega) ih
 refine ⟨k2,by omega,fun h=>?_⟩
 have:=k3 h
 show szL 60 1 (xs.map zfk) = _
 rw [this]; show _ = ((1 + (xs.map Ex.nodes).sum:Nat):Int); omega
theorem zwu (a:Ex):decide (zfk a <= 60) = decide (a.nodes <= 60):=by
 obtain ⟨h1,h2,h3⟩:=znl a
 rw [Ju]
 exact ⟨fun h=>by have:=h3 h; omega,fun h=>by omega⟩
set_option maxHeartbeats 400000 in
theorem qay (a:Ex) (hs:a.wt <= 1099511627776) (H:∀ x ∈ a.parts,FC Tryz.prog 78 [exD x] [iD (zfk x)]):FC Tryz.prog 78 [exD a] [iD (zfk a)]:=by
 have hl:a.parts.length <= 9223372036854775807:=by rw [Ex.wt_eq] at hs; omega
 have hn:=zg8 a
 have hN:=a.nodes_eq
 simp only [exD,zap]
 refine zaj Tryz.call78 Tryz.func78 rfl (by kernel_rfl) (zax (by kernel_rfl)) ?_
 simp -implicitDefEqProofs only[go_sem,Tryz.results78]
 refine zae (fun p:Nat × Int=>hd [(3,vI p.2),(7,vT (exS a.parts)),(8,vI a.parts.length),(9,vI p.1)] [] []) (fun p=>p.1 <= a.parts.length /\ zfk a = szL 60 p.2 ((a.parts.drop p.1).map zfk) /\ 1 <= p.2 /\ p.2 + qa4 Ex.nodes a.parts p.1 <= a.nodes) (fun p=>a.parts.length - p.1) (0,1) (zac ?_) ?_ ?_
 ·simp -implicitDefEqProofs only[go_sem]
 ·exact ⟨by simp,by rw [zwz]; rfl,by omega,by rw [zd0]; omega⟩
 ·intro ⟨k,n⟩ ⟨hk,hr,h1,h2⟩
  simp only at hk hr h1 h2
  by_cases hlt:k < a.parts.length
  ·have hd:=zg1 Ex.nodes a.parts k hlt
   obtain ⟨s1,s2,s3⟩:=znl a.parts[k]
   rw [Qh hlt,Qi,szL] at hr
   simp -implicitDefEqProofs only[go_sem,zad,hlt,zap]
   refine ⟨fun h=>?_,fun h=>?_⟩
   ·rw [hr,if_pos (by simpa using h)]
   ·refine callF (H a.parts[k] (Qe hlt)) (by simp -implicitDefEqProofs only[go_sem,zap]) ?_
    simp -implicitDefEqProofs only[go_sem,zap]
    rw [if_neg (by simpa using h)] at hr
    exact ⟨(k + 1,n + zfk a.parts[k]),⟨hlt,hr,by simp only; omega,by simp only; omega⟩,by simp only; omega,zac (by simp -implicitDefEqProofs only[go_sem]; rw [zal (by omega),zb2 (by omega) (by omega)]; exact ⟨rfl,rfl⟩)⟩
  ·simp -implicitDefEqProofs only[go_sem,hlt]
   rw [hr,Qs (by omega)]; rfl
theorem zsb:∀ a:Ex,a.wt <= 1099511627776->FC Tryz.prog 78 [exD a] [iD (zfk a)] :=
 zd8 fun f t xs ih hs=>qay (.mk f t xs) hs fun x hx=>ih x hx (Kg (zfe (a:=.mk f t xs) hx) hs)
def zep:Ex->Int->Int:=Ex.fold fun _ _ _ rs m=>mnL m 1 rs
theorem zwl (a:Ex) (m:Int):zep a m = mnL m 1 (a.parts.map zep):=congrFun (Ex.fold_eq _ a) m
theorem zog:∀ (a:Ex) (m:Int),0 <= m->1 <= zep a m /\ zep a m <= a.nodes /\ (zep a m <= m->zep a m = a.nodes):=by
 refine zd8 fun b0 b1 xs ih m hm=>?_
 rw [zwl,Ex.nodes_eq]
 show 1 <= mnL m 1 (xs.map zep) /\ mnL m 1 (xs.map zep) <= ((1 + (xs.map Ex.nodes).sum:Nat):Int) /\ (mnL m 1 (xs.map zep) <= m->mnL m 1 (xs.map zep) = ((1 + (xs.map Ex.nodes).sum:Nat):Int))
 obtain ⟨k1,k2,k3⟩:=zle zep Ex.nodes m xs 1 (by omega) ih
 refine ⟨k2,by omega,fun h=>?_⟩
 have:=k3 h
 omega
theorem zx6 (a:Ex) (m:Nat):decide (zep a m <= m) = decide (a.nodes <= m):=by
 obtain ⟨h1,h2,h3⟩:=zog a m (by omega)
 rw [Ju]
 exact ⟨fun h=>by have:=h3 h; omega,fun h=>by omega⟩
set_option maxHeartbeats 400000 in
theorem qa0 (a:Ex) (hs:a.wt <= 1099511627776) (H:∀ x ∈ a.parts,∀ m:Int,0 <= m->m <= 1099511627776->FC Tryz.prog 103 [exD x,iD m] [iD (zep x m)]) (m:Int) (h0:0 <= m) (h1:m <= 1099511627776):FC Tryz.prog 103 [exD a,iD m] [iD (zep a m)]:=by
 have hl:a.parts.length <= 9223372036854775807:=by rw [Ex.wt_eq] at hs; omega
 have hn:=zg8 a
 have hN:=a.nodes_eq
 simp only [exD,zap]
 refine zaj Tryz.call103 Tryz.func103 rfl (by kernel_rfl) (zax (by kernel_rfl)) ?_
 simp -implicitDefEqProofs only[go_sem,Tryz.results103]
 refine zae (fun p:Nat × Int=>hd [(1,vI m),(2,.one (.bx 2 0)),(5,vI p.2),(6,vI p.1)] [(2,[.t (.int .i64 a.form.op),.t (.str a.form.atom.name),.t (tmS a.form.atom.args),.t (.str a.form.var),.t (fmS a.form.parts),.t (tmS a.terms),.t (exS a.parts)])] []) (fun p=>p.1 <= a.parts.length /\ zep a m = mnL m p.2 ((a.parts.drop p.1).map zep) /\ 1 <= p.2 /\ p.2 + qa4 Ex.nodes a.parts p.1 <= a.nodes) (fun p=>a.parts.length - p.1) (0,1) (zac ?_) ?_ ?_
 ·simp -implicitDefEqProofs only[go_sem]
 ·exact ⟨by simp,by rw [zwl]; rfl,by omega,by rw [zd0]; omega⟩
 ·intro ⟨k,n⟩ ⟨hk,hr,h2,h3⟩
  simp only at hk hr h2 h3
  by_cases hlt:k < a.parts.length
  ·have hd:=zg1 Ex.nodes a.parts k hlt
   rw [Qh hlt,Qi,mnL] at hr
   simp -implicitDefEqProofs only[go_sem,zad,hlt,zap]
   refine ⟨fun h=>?_,fun h=>?_⟩
   ·have hle:n <= m:=by simpa using h
    obtain ⟨s1,s2,s3⟩:=zog a.parts[k] (m - n) (by omega)
    rw [zb2 (n:=m - n) (by omega) (by omega)]
    refine callF (H a.parts[k] (Qe hlt) (m - n) (by omega) (by omega)) (by simp -implicitDefEqProofs only[go_sem,zap]) ?_
    simp -implicitDefEqProofs only[go_sem,zap]
    rw [if_pos hle] at hr
    exact ⟨(k + 1,n + zep a.parts[k] (m - n)),⟨hlt,hr,by simp only; omega,by simp only; omega⟩,by simp only; omega,zac (by simp -implicitDefEqProofs only[go_sem]; rw [zal (by omega),zb2 (by omega) (by omega)]; exact ⟨rfl,rfl⟩)⟩
   ·rw [hr,if_neg (by simpa using h)]
  ·simp -implicitDefEqProofs only[go_sem,hlt]
   rw [hr,Qs (by omega)]; rfl
theorem zq9:∀ a:Ex,a.wt <= 1099511627776->∀ m:Int,0 <= m->m <= 1099511627776->FC Tryz.prog 103 [exD a,iD m] [iD (zep a m)] :=
 zd8 fun b0 b1 xs ih hs=>qa0 (.mk b0 b1 xs) hs fun x hx=>ih x hx (Kg (zfe (a:=.mk b0 b1 xs) hx) hs)
theorem zy9 (f:Fm) (i:Int) (b:Bool):FC Tryz.prog 133 [fmD f,iD i,bD b] [bD (b != (f.op == 4 || (f.op == 7 && i == 0)))]:=by
 simp only [fmD,zab]
 refine zaj Tryz.call133 Tryz.func133 rfl (by kernel_rfl) (zax (by kernel_rfl)) ?_
 simp -implicitDefEqProofs only[go_sem,Tryz.results133]
 generalize (f.op == 4) = x
 generalize (f.op == 7) = y
 generalize (i == 0) = z
 cases x <;> cases y <;> cases z <;> cases b <;> simp
theorem zy8 (f:Fm) (b:Bool):FC Tryz.prog 131 [fmD f,bD b] [bD ((f.op == 8) == b)]:=by
 simp only [fmD,zab]
 refine zaj Tryz.call131 Tryz.func131 rfl (by kernel_rfl) (zax (by kernel_rfl)) ?_
 simp -implicitDefEqProofs only[go_sem,Tryz.results131]
theorem zlt (f:Fm) (i:Int) (b:Bool):FC Tryz.prog 128 [fmD f,iD i,bD b] [bD (b != (f.op == 4 || (f.op == 7 && i == 0)))]:=by
 simp only [fmD,zab]
 refine zaj Tryz.call128 Tryz.func128 rfl (by kernel_rfl) (zax (by kernel_rfl)) ?_
 simp -implicitDefEqProofs only[go_sem,Tryz.results128]
 generalize (f.op == 4) = x
 generalize (f.op == 7) = y
 generalize (i == 0) = z
 cases x <;> cases y <;> cases z <;> cases b <;> simp
theorem zl7 (f:Fm):FC Tryz.prog 124 [fmD f] [bD (isQ f.op)]:=by
 simp only [fmD,zab]
 refine zaj Tryz.call124 Tryz.func124 rfl (by kernel_rfl) (zax (by kernel_rfl)) ?_
 simp -implicitDefEqProofs only[go_sem,Tryz.results124]
 unfold isQ
 generalize (f.op == 8) = x
 generalize (f.op == 9) = y
 cases x <;> cases y <;> simp
theorem zm7 (f:Fm) (b:Bool):FC Tryz.prog 125 [fmD f,bD b] [bD (isQ f.op && ((f.op == 8) == b))]:=by
 simp only [fmD,zab]
 have h89:(f.op == 8) = true->(f.op == 9) = false:=fun h=>by
  rw [Ki] at h
  rw [h]; decide
 refine zaj Tryz.call125 Tryz.func125 rfl (by kernel_rfl) (zax (by kernel_rfl)) ?_
 simp -implicitDefEqProofs only[go_sem,Tryz.results125]
 unfold isQ
 revert h89
 generalize (f.op == 8) = x
 generalize (f.op == 9) = y
 cases x <;> cases y <;> cases b <;> simp
theorem ztz (a t:Tm):FC Tryz.prog 185 [tmD a,.one (.ptr (tmC t))] [bD (same a t)]:=by
 have H:=zha a t
 simp only [tmD,zaa] at H ⊢
 refine zaj Tryz.call185 Tryz.func185 rfl (by kernel_rfl) (zax (by kernel_rfl)) ?_
 simp -implicitDefEqProofs only[go_sem,Tryz.results185]
 refine callF (H) (by simp -implicitDefEqProofs only[go_sem]) ?_
 simp -implicitDefEqProofs only[go_sem]
theorem zja (xs:List Tm) (t:Tm):FC Tryz.prog 114 [.one (tmS xs),tmD t] [iD (zxz xs fun a=>same a t)]:=by
 have H:=zgy xs (fun a=>same a t) 185 [.ptr (tmC t)] fun x _=>ztz x t
 simp only [tmD,zaa t] at H ⊢
 refine zaj Tryz.call114 Tryz.func114 rfl (by kernel_rfl) (zax (by kernel_rfl)) ?_
 simp -implicitDefEqProofs only[go_sem,Tryz.results114]
 refine callF (H) (by simp -implicitDefEqProofs only[go_sem]) ?_
 simp -implicitDefEqProofs only[go_sem]
theorem zjr (xs:List Tm) (t:Tm):FC Tryz.prog 100 [.one (tmS xs),tmD t] [iD (zxz xs fun a=>same a t)]:=by
 refine zdi (fun hw=>?_) Tryz.call100
 have hl:xs.length <= 9223372036854775807:=by simpa [zgg,wfT] using hw.1.1
 simp only [tmD,zaa t]
 refine zaj Tryz.call100 Tryz.func100 rfl (by kernel_rfl) (zax (by kernel_rfl)) ?_
 simp -implicitDefEqProofs only[go_sem,Tryz.results100]
 refine zae (fun k:Nat=>hd [(0,vT (tmS xs)),(3,.one (.bx 3 0)),(5,vI k)] [(3,[.t (.str t.name),.t (tmS t.args)])] []) (fun k=>k <= xs.length /\ ∀ x ∈ xs.take k,same x t = false) (fun k=>xs.length - k) 0 (zac ?_) ⟨Ka _,by simp⟩ ?_
 ·simp -implicitDefEqProofs only[go_sem]
 ·rintro k ⟨hk,hT⟩
  by_cases hlt:k < xs.length
  ·have HC:=zo2 xs[k] t
   simp only [tmD,zaa xs[k],zaa t] at HC
   simp -implicitDefEqProofs only[go_sem,hlt]
   refine drawn (by kernel_rfl) ?_
   simp -implicitDefEqProofs only[go_sem,zad,hlt,zaa xs[k]]
   refine zao (HC) (by simp -implicitDefEqProofs only[go_sem]) ?_
   simp -implicitDefEqProofs only[go_sem]
   refine ⟨by kernel_rfl,fun h=>?_,fun h=>?_⟩
   ·rw [zhh hlt hT h]
   ·refine ⟨k + 1,⟨hlt,zef hlt hT h⟩,by omega,zac ?_⟩
    simp -implicitDefEqProofs only[go_sem]
    rw [zal (by omega)]
  ·simp -implicitDefEqProofs only[go_sem,hlt]
   rw [Qk (by omega)] at hT
   rw [zif hT]
end
section
set_option maxRecDepth 4000
open Go.RowKit
variable {P:Program}
theorem qog {w:World} {A:Nat->Prop} {x:Ev} {v:Value} {fp:List Nat} (h:EvR w A x v fp) (hd:x.deep = true) (hf:flR x.rows = true):∀ b ∈ fp,fp.head? = some b:=by
 obtain ⟨ao,cap,e1,e2,e3,e4⟩:=h
 rcases e4 with ⟨_,_,_,rfl⟩ | ⟨b',cells,ty,fps,_,rfl,e7,e8,e9⟩
 ·intro b hb; simp at hb
 ·rw [if_pos hd] at e9
  rw [e9.flat hf]
  intro b hb
  simp at hb
  rw [hb]; rfl
def zwe (g:Gh) (e n:Nat) (v:Value) (fp:List Nat):Gh:=⟨g.β,fun e' n'=>if e' = e /\ n' = n then v else g.ψ e' n',upd g.φ e fp,g.A0,g.R0⟩
theorem Rel.turnB {n0:Nat->Prop} {N:Nat} {σ:St} {g:Gh} {a:Act} {w w':World} {k e:Nat} {x:Ev} {rows':List (List T)} {v':Value} {fp':List Nat} (h:Rel n0 N σ g a w) (hn0:LtK n0 w) (hk:σ.bx k ≠ none) (hx:σ.ev e = some x) (hxo:x.on = true) (hxd:x.deep = true) (hfl:flR x.rows = true)
  (hb:Bk (fun b=>b < w.heap.size /\ b ∉ g.φ e /\ b ≠ g.β k) w w') (ho:zaz w' (.sl x.sz rows') v' fp') (hnd:fp'.Nodup) (hfp:∀ b ∈ fp',b ∈ g.φ e \/ w.heap.size <= b) (hbx : ∃ ty,w'.heap[g.β k]? = some (.cells ⟨[v']⟩ ty (0,0))) :
  Rel n0 N ⟨σ.sl,upd σ.bx k (some [.ow e (x.gen + 1)]),upd σ.ev e (some ⟨true,x.sz,rows',x.gen + 1,true⟩)⟩ (zwe g e (x.gen + 1) v' fp') a w':=by
 have hOn:σ.On e:=⟨x,hx,hxo⟩
 have hE:=h.evs e x hx hxo
 have hhd:=qog hE hxd hfl
 have hlt:∀ e',σ.On e'->∀ b ∈ g.φ e',b < w.heap.size:=fun e' ⟨y,hy,hyo⟩=>(h.evs e' y hy hyo).lt
 have hon:∀ e',e' ≠ e->St.On ⟨σ.sl,upd σ.bx k (some [.ow e (x.gen + 1)]),upd σ.ev e (some ⟨true,x.sz,rows',x.gen + 1,true⟩)⟩ e'->σ.On e':=fun e' hne ⟨y,hy,hyo⟩=>⟨y,by have hy:upd σ.ev e _ e' = some y:=hy; rw [zam _ _ hne] at hy; exact hy,hyo⟩
 have hφn:∀ e',e' ≠ e->(zwe g e (x.gen + 1) v' fp').φ e' = g.φ e':=fun e' hne=>zam _ _ hne
 have hφe:(zwe g e (x.gen + 1) v' fp').φ e = fp':=zag _ _ _
 have hdom:∀ b,upd σ.bx k (some [C.ow e (x.gen + 1)]) b ≠ none ↔ σ.bx b ≠ none:=fun b=>by
  by_cases hbk:b = k
  ·subst hbk; rw [zag]; exact ⟨fun _=>hk,fun _=>by simp⟩
  ·rw [zam _ _ hbk]
 have hfixn:∀ b,Fix σ g w b->b ∉ g.φ e:=fun b hf hm=>hf.2.1 e x hx hxo (hhd b hm)
 have hnew:∀ b,b < w.heap.size->b ∉ g.φ e->b ∉ fp':=fun b hl hn hm=>by
  rcases hfp b hm with h1 | h1
  ·exact hn h1
  ·omega
 have hψ:∀ e' n,(e' ≠ e \/ n <= x.gen)->(zwe g e (x.gen + 1) v' fp').ψ e' n = g.ψ e' n:=fun e' n hh=>if_neg fun hc=>by
  rcases hh with hh | hh
  ·exact hh hc.1
  ·omega
 have m:Mv σ ⟨σ.sl,upd σ.bx k (some [.ow e (x.gen + 1)]),upd σ.ev e (some ⟨true,x.sz,rows',x.gen + 1,true⟩)⟩ g (zwe g e (x.gen + 1) v' fp') w w':=by
  refine ⟨fun b hf=>hb.block b ⟨hf.2.2.1,hfixn b hf,fun e'=>hf.1 k hk e'.symm⟩,fun b hf=>⟨fun j hj=>hf.1 j ((hdom j).1 hj),fun e' y hy hyo hh=>?_,Jb hf.2.2.1 hb.size,hf.2.2.2⟩,fun b hbb=>⟨rfl,(hdom b).2 hbb⟩,fun e' n he=>?_,fun b hf e' he hm=>?_⟩
  ·by_cases hee:e' = e
   ·subst hee
    rw [hφe] at hh
    exact hnew b hf.2.2.1 (hfixn b hf) (List.mem_of_mem_head? hh)
   ·rw [hφn e' hee] at hh
    have hy:upd σ.ev e _ e' = some y:=hy
    rw [zam _ _ hee] at hy
    exact hf.2.1 e' y hy hyo hh
  ·obtain ⟨y,hy,hg⟩:=he
   by_cases hee:e' = e
   ·subst hee
    rw [hx] at hy
    cases hy
    exact ⟨⟨_,zag _ _ _,Nat.le_succ_of_le hg⟩,hψ _ _ (Or.inr hg)⟩
   ·exact ⟨⟨y,(zam _ _ hee).trans hy,hg⟩,hψ _ _ (Or.inl hee)⟩
  ·by_cases hee:e' = e
   ·subst hee
    rw [hφe] at hm
    exact hnew b hf.1.2.2.1 (hf.2 e' hOn) hm
   ·rw [hφn e' hee] at hm
    exact hf.2 e' (hon e' hee he) hm
 refine ⟨h.defers,h.size,h.anew,fun i=>m.vr (h.slots i),fun b cs hbb=>?_,fun b hbb=>h.base b ((hdom b).1 hbb),fun b b' h1 h2 h3=>h.inj b b' ((hdom b).1 h1) ((hdom b').1 h2) h3,fun e' y he hyo=>?_,fun e' y he hyo=>?_,fun e' n=>?_,fun e' he b hbb=>?_,fun e' he b hbb=>?_,fun e' he=>?_,fun e1 e2 h1 h2 hne b hb1 hb2=>?_,fun e' j he hj hm=>?_⟩
 ·have hbb:upd σ.bx k _ b = some cs:=hbb
  by_cases hbk:b = k
  ·subst hbk
   rw [zag] at hbb
   cases hbb
   obtain ⟨ty,hbx⟩:=hbx
   exact ⟨_,ty,hbx,v',[],rfl,⟨(if_pos ⟨rfl,rfl⟩).symm,_,zag _ _ _,Qw _⟩,rfl⟩
  ·rw [zam _ _ hbk] at hbb
   obtain ⟨vs,ty,k1,k2⟩:=h.boxes b cs hbb
   have hne0:σ.bx b ≠ none:=by rw [hbb]; simp
   exact ⟨vs,ty,by rw [<-k1]; exact hb.block _ ⟨h.lt hne0,h.ebx e b hOn hne0,fun e'=>hbk (h.inj b k hne0 hk e')⟩,m.crs k2⟩
 ·by_cases hee:e' = e
  ·subst hee
   have he:upd σ.ev e' _ e' = some y:=he
   rw [zag] at he
   cases he
   rw [hφe]
   show EvR w' _ _ (if e' = e' /\ x.gen + 1 = x.gen + 1 then v' else _) fp'
   rw [if_pos ⟨rfl,rfl⟩]
   unfold zaz at ho
   obtain ⟨ao,cap,j1,j2,j3,j4⟩:=ho
   refine ⟨ao,cap,j1,j2,j3,?_⟩
   rcases j4 with j4 | ⟨b,cells,ty,fps,j4,j5,j6,j7,j8⟩
   ·exact Or.inl j4
   ·exact Or.inr ⟨b,cells,ty,fps,j4,j5,j6,j7,by rw [if_pos rfl]; exact j8⟩
  ·have he:upd σ.ev e _ e' = some y:=he
   rw [zam _ _ hee] at he
   rw [hφn e' hee,hψ _ _ (Or.inl hee)]
   refine m.evr (h.evs e' y he hyo) fun b hbb=>hb.block b ⟨hlt e' ⟨y,he,hyo⟩ b hbb,fun hm=>h.apart e' e ⟨y,he,hyo⟩ hOn hee b hbb hm,fun e''=>h.ebx e' k ⟨y,he,hyo⟩ hk (e'' ▸ hbb)⟩
 ·by_cases hee:e' = e
  ·subst hee
   have he:upd σ.ev e' _ e' = some y:=he
   rw [zag] at he
   cases he
   cases hyo
  ·have he:upd σ.ev e _ e' = some y:=he
   rw [zam _ _ hee] at he
   rw [hψ _ _ (Or.inl hee)]
   exact ⟨m.rep (h.offs e' y he hyo).1,(h.offs e' y he hyo).2⟩
 ·by_cases hc:e' = e /\ n = x.gen + 1
  ·obtain ⟨rfl,rfl⟩:=hc
   unfold zaz at ho
   obtain ⟨ao,cap,j1,_⟩:=ho
   exact ⟨ao,_,cap,by rw [<-j1]; exact if_pos ⟨rfl,rfl⟩⟩
  ·show ∃ ao l c,(if e' = e /\ n = x.gen + 1 then v' else g.ψ e' n) = _
   rw [if_neg hc]
   exact h.slc e' n
 ·by_cases hee:e' = e
  ·subst hee
   rw [hφe] at hbb
   rcases hfp b hbb with h1 | h1
   ·exact h.ebase e' hOn b h1
   ·exact h.anew b (hn0.new h1)
  ·rw [hφn e' hee] at hbb
   exact h.ebase e' (hon e' hee he) b hbb
 ·by_cases hee:e' = e
  ·subst hee
   rw [hφe] at hbb
   rcases hfp b hbb with h1 | h1
   ·exact h.etop e' hOn b h1
   ·exact hn0.new h1
  ·rw [hφn e' hee] at hbb
   exact h.etop e' (hon e' hee he) b hbb
 ·by_cases hee:e' = e
  ·subst hee; rw [hφe]; exact hnd
  ·rw [hφn e' hee]; exact h.nodup e' (hon e' hee he)
 ·by_cases g1:e1 = e
  ·subst g1
   rw [hφe] at hb1
   have hee:e2 ≠ e1:=fun hh=>hne hh.symm
   rw [hφn e2 hee] at hb2
   rcases hfp b hb1 with h3 | h3
   ·exact h.apart e1 e2 hOn (hon e2 hee h2) hne b h3 hb2
   ·have:=hlt e2 (hon e2 hee h2) b hb2; omega
  ·rw [hφn e1 g1] at hb1
   by_cases g2:e2 = e
   ·subst g2
    rw [hφe] at hb2
    rcases hfp b hb2 with h3 | h3
    ·exact h.apart e1 e2 (hon e1 g1 h1) hOn hne b hb1 h3
    ·have:=hlt e1 (hon e1 g1 h1) b hb1; omega
   ·rw [hφn e2 g2] at hb2
    exact h.apart e1 e2 (hon e1 g1 h1) (hon e2 g2 h2) hne b hb1 hb2
 ·have hj':=(hdom j).1 hj
  by_cases hee:e' = e
  ·subst hee
   rw [hφe] at hm
   rcases hfp _ hm with h3 | h3
   ·exact h.ebx e' j hOn hj' h3
   ·have h3:w.heap.size <= g.β j:=h3
    have:=h.lt hj'; omega
  ·rw [hφn e' hee] at hm
   exact h.ebx e' j (hon e' hee he) hj' hm
def qj7 (σ:St) (k:Nat) (sz:Nat) (rows:List (List T)) (K:Nat->Ev->Prop):Prop:=match σ.bx k with
 | some [.ow e n]=>zat (σ.ev e) fun x=>x.deep = true /\ x.on = true /\ x.gen = n /\ x.sz = sz /\ x.rows = rows /\ flR rows = true /\ K e x
 | _=>False
theorem qg7 {σ:St} {k sz:Nat} {rows:List (List T)} {K:Nat->Ev->Prop} (h:qj7 σ k sz rows K) : ∃ e x,σ.bx k = some [.ow e x.gen] /\ σ.ev e = some x /\ x.deep = true /\ x.on = true /\ x.sz = sz /\ x.rows = rows /\ flR rows = true /\ K e x:=by
 unfold qj7 at h
 split at h
 ·rename_i e n hb
  obtain ⟨x,h1,h2,h3,rfl,h5,h6,h7,h8⟩:=zaq h
  exact ⟨e,x,hb,h1,h2,h3,h5,h6,h7,h8⟩
 ·exact h.elim
def St.bxE (σ:St) (k:Nat):Nat:=match σ.bx k with
 | some [.ow e _]=>e
 | _=>0
def zqm (σ:St) (k:Nat) (rows':List (List T)):List (Nat × Ev):=match σ.ev (σ.bxE k) with
 | some x=>[(σ.bxE k,⟨true,x.sz,rows',x.gen + 1,true⟩)]
 | none=>[]
def zpr (σ:St) (k:Nat):List (Nat × List C):=match σ.ev (σ.bxE k) with
 | some x=>[(k,[.ow (σ.bxE k) (x.gen + 1)])]
 | none=>[]
def flD:List (Bool × D)->Bool
 | []=>true
 | (_,.one t) :: ds=>t.flat && flD ds
 | _=>false
def flV:List (Bool × D)->List V
 | []=>[]
 | (_,.one t) :: ds=>.one (.t t) :: flV ds
 | (_,.agg ts) :: ds=>.agg (ts.map .t) :: flV ds
theorem zur:∀ (ds:List (Bool × D)),∀ v ∈ flV ds,v.isTup = false
 | [],v,h=>by simp [flV] at h
 | (_,.one t) :: ds,v,h=>by
  simp only [flV,Qu] at h
  rcases h with rfl | h
  ·rfl
  ·exact zur ds v h
 | (_,.agg t) :: ds,v,h=>by
  simp only [flV,Qu] at h
  rcases h with rfl | h
  ·rfl
  ·exact zur ds v h
theorem qd2 {σ:St} {g:Gh} {w w':World} {A:Nat->Prop}:∀ {ds:List (Bool × D)} {us:List Value} {fp tp:List Nat},flD ds = true->zau w' A ds us fp tp->VRl σ g w (flV ds) us /\ fp = []
 | [],us,fp,tp,_,h=>⟨h.1,h.2.1⟩
 | (false,.one t) :: ds,us,fp,tp,hf,h=>by
  rw [flD,Qa] at hf
  obtain ⟨v,vs',rfl,h1,h2⟩:=h
  obtain ⟨k1,k2⟩:=qd2 (σ:=σ) (g:=g) (w:=w) hf.2 h2
  have h1:zar w' A t v:=h1
  exact ⟨⟨v,vs',rfl,zdv hf.1 h1,k1⟩,k2⟩
 | (true,.one t) :: ds,us,fp,tp,hf,h=>by
  rw [flD,Qa] at hf
  obtain ⟨v,vs',f1,f2,t1,t2,rfl,rfl,rfl,h1,h2⟩:=h
  obtain ⟨k1,k2⟩:=qd2 (σ:=σ) (g:=g) (w:=w) hf.2 h2
  have h1:zaz w' t v f1:=h1.1
  have h0:f1 = [] /\ zar w (Fix σ g w) t v:=by
   have hf1:=hf.1
   cases t <;> simp only [T.flat,Qo] at hf1
   ·unfold zaz at h1; unfold zar; exact ⟨h1.2.2.2,h1.1,h1.2.1,h1.2.2.1⟩
   ·unfold zaz at h1; unfold zar; exact ⟨h1.2,h1.1⟩
   ·unfold zaz at h1; unfold zar; exact ⟨h1.2.2,h1.1,h1.2.1⟩
   ·unfold zaz at h1; unfold zar; exact ⟨h1.2,h1.1⟩
  exact ⟨⟨v,vs',rfl,h0.2,k1⟩,by rw [h0.1,k2]; rfl⟩
 | (_,.agg _) :: _,_,_,_,hf,_=>by cases hf
def St.callT (σ:St) (d k:Nat) (rows':List (List T)) (res:List (Bool × D)):St:=(σ.upEB (zqm σ k rows') (zpr σ k)).put (some d) (zm4 (flV res))
theorem zse {o:Oper} {σ:St} {x:Operand} {asx:Array Operand} {ts:Array TypeId} {f:FuncId} {cvs:List V} {d k sz:Nat} {rows rows':List (List T)} {l:List AF} {res:List (Bool × D)} (ho:o.op = .call ⟨.value x,asx,ts⟩) (hd:o.dst = some d)
  (h:PC P f [[(true,.sl sz rows)]] l [[(true,.sl sz rows')]] res) (hc:zaw (σ.get P 0 x) = some (f,cvs)) (hr:flD res = true)
  (hv:mtK [k] l (σ.gets P asx ts ++ cvs) fun us=>gvQ us (AF.ds l)) (hb:qj7 σ k sz rows fun _ _=>True):zah P o σ (σ.callT d k rows' res):=by
 intro n0 N g a w hR hn hdN
 obtain ⟨vs,h1,h2⟩:=zdf hR ho hc h.1
 unfold Oper.wp
 rw [h1]
 obtain ⟨e,z,hbx,hz,zd,zo,rfl,rfl,zf,_⟩:=qg7 hb
 have hk:σ.bx k ≠ none:=by rw [hbx]; simp
 have hOn:σ.On e:=⟨z,hz,zo⟩
 let bs:Nat->Nat:=fun j=>g.β (([k]:List Nat).getD j 0)
 have hbs:∀ j b,([k]:List Nat)[j]? = some b->bs j = g.β b:=fun j b hj=>by show g.β (([k]:List Nat).getD j 0) = _; rw [List.getD_eq_getElem?_getD,hj]; rfl
 obtain ⟨us,dvs,a1,a2,a3,rfl⟩:=zfq hbs hv h2
 have k2:=zi2 a1 a2
 obtain ⟨cvs',ty,b1,b2⟩:=hR.boxes k _ hbx
 obtain ⟨v,vs',e1,⟨b3,_⟩,b4⟩:=b2
 have b4:vs' = []:=b4
 subst b4
 have hown:zaz w (.sl z.sz z.rows) (g.ψ e z.gen) (g.φ e):=zel hR (by obtain ⟨zd',zs',zr',zg',zo'⟩:=z; simp only at zd zo; subst zd zo; exact hz)
 have hfn:∀ b,zcj σ g w b->b ∉ g.φ e:=fun b hb=>hb.2 e hOn
 have hbs0:bs 0 = g.β k:=rfl
 have hga:zau w (fun q=>(q < w.heap.size /\ q ∉ g.φ e /\ ∀ j,j < 1->q ≠ bs j) /\ zcj σ g w q) (AF.ds l ++ bxA [(true,.sl z.sz z.rows)]) (dvs ++ [v]) ([] ++ g.φ e) ([] ++ zkj (.sl z.sz z.rows) (g.φ e)):=by
  have hq:∀ b,zcj σ g w b->∀ j,j < 1->b ≠ bs j:=fun b hb j hj he=>by
   have hj0:j = 0:=by omega
   subst hj0
   exact hb.1.1 k hk (by rw [<-hbs0,he])
  refine zau.append (zau.keepA (fun b hb=>⟨⟨hb.1.2.2.1,hfn b hb,hq b hb⟩,hb⟩) k2) ?_
  ·exact ⟨v,[],g.φ e,[],_,[],rfl,by simp,by simp,⟨by rw [b3]; exact hown,rfl⟩,rfl,rfl,rfl⟩
 rw [Kl,Kl] at hga
 have hbf:∀ j,j < ([[(true,T.sl z.sz z.rows)]]:Bxs).length->bs j ∉ g.φ e:=fun j hj=>by
  simp only [Js] at hj
  have hj0:j = 0:=by omega
  subst hj0
  rw [hbs0]
  exact hR.ebx e k hOn hk
 have hBI:zzb w bs 0 [[v]] [[(true,T.sl z.sz z.rows)]]:=by
  refine ⟨rfl,⟨ty,?_⟩,trivial⟩
  rw [hbs0,b1]
  have:cvs' = ⟨[v]⟩:=by cases cvs'; simp only at e1; rw [e1]
  rw [this]
 refine (h.2.2 w bs [[v]] dvs (g.φ e) _ (zcj σ g w) (fun i j hi hj _=>by simp only [Js] at hi hj; omega) hbf hBI hga (hR.nodup e hOn) a3).mono ?_
 rintro en w' ⟨us',bvs',fp',tp',rfl,hbx',hlu,o1,o2,o3,hbk⟩
 obtain ⟨v1,v2,f1,f2,t1,t2,ev,rfl,et,p1,p2⟩:=zau.split o1
 obtain ⟨rfl,rfl⟩:=Jx ev (by rw [hlu,zau.len p1])
 match bvs',hbx' with
 | [cs],⟨hl1,⟨ty',hty⟩,_⟩ =>
  obtain ⟨v',e2⟩:=Jp.1 (show cs.length = 1 from hl1)
  subst e2
  have p2:zau w' _ [(true,.one (.sl z.sz rows'))] [v'] f2 t2:=p2
  obtain ⟨u,us2,g1,g2,s1,s2,e3,rfl,rfl,⟨hown',_⟩,e4⟩:=p2
  obtain ⟨rfl,rfl,rfl⟩:=e4
  cases e3
  have hown':zaz w' (.sl z.sz rows') v' g1:=hown'
  obtain ⟨hf1,hf1e⟩:=qd2 (σ:=⟨σ.sl,upd σ.bx k (some [.ow e (z.gen + 1)]),upd σ.ev e (some ⟨true,z.sz,rows',z.gen + 1,true⟩)⟩) (g:=zwe g e (z.gen + 1) v' g1) (w:=w') hr p1
  subst hf1e
  rw [Kl,Kd] at o2 o3
  have hT:=hR.turnB (k:=k) (e:=e) hn hk hz zo zd zf (w':=w') (rows':=rows') (v':=v') (fp':=g1) ⟨hbk.os,hbk.tape,hbk.output,hbk.size,fun q hq=>hbk.block q ⟨hq.1,hq.2.1,fun j hj he=>by
   simp only [Js] at hj
   have hj0:j = 0:=by omega
   subst hj0
   exact hq.2.2 (he.trans hbs0)⟩⟩ hown' o2 o3 ⟨ty',by rw [hbs0] at hty; exact hty⟩
  have hBk:Bk n0 w w':=⟨hbk.os,hbk.tape,hbk.output,hbk.size,fun q hq=>hbk.block q ⟨hn q hq,fun hm=>hR.etop e hOn q hm hq,fun j hj he=>by
   simp only [Js] at hj
   have hj0:j = 0:=by omega
   subst hj0
   exact hR.base k hk (by rw [<-hbs0,<-he]; exact hq)⟩⟩
  have hE:σ.bxE k = e:=by unfold St.bxE; rw [hbx]
  have hst:σ.upEB (zqm σ k rows') (zpr σ k) = ⟨σ.sl,upd σ.bx k (some [.ow e (z.gen + 1)]),upd σ.ev e (some ⟨true,z.sz,rows',z.gen + 1,true⟩)⟩:=by
   unfold St.upEB zqm zpr
   rw [hE,hz]
   rfl
  refine ⟨zwe g e (z.gen + 1) v' g1,?_,hBk,rfl,rfl⟩
  have hp:=hT.put (some d) (x:=zm4 (flV res)) (v:=zb5 us') (ze6 hf1 (zur res)) (fun i hi=>by cases hi; exact hdN d hd)
  unfold St.callT
  rw [hst,hd]
  exact hp
section
variable {ks:List Fr} {Q:Exit->St->Prop} {σ:St} {ops:Array Oper} {os:List Oper} {L:List (List Ky × List Ky)} {gR:List Ky} {ty:TypeId} {ps:String} {af:Array Edge} {d k sz:Nat} {x:Operand} {asx:Array Operand} {ts:Array TypeId} {f:FuncId} {rows rows':List (List T)} {l:List AF} {res:List (Bool × D)}
theorem callT (k:Nat) (h:PC P f [[(true,.sl sz rows)]] l [[(true,.sl sz rows')]] res) (hr:flD res = true)
  (hp:zat (zaw (σ.get P 0 x)) fun p=>p.1 = f /\ mtK [k] l (σ.gets P asx ts ++ p.2) fun us=>gvQ us (AF.ds l)) (hb:qj7 σ k sz rows fun _ _=>True)
  (c:exo P ops os ks Q (σ.callT d k rows' res)):exo P ops (⟨some d,.call ⟨.value x,asx,ts⟩,ty,ps,af,none⟩ :: os) ks Q σ:=by
 obtain ⟨⟨f',cvs⟩,h1,rfl,h2⟩:=zaq hp
 exact zc6 rfl rfl (zse rfl rfl h h1 hr h2 hb) c
theorem qgu {cvs:List V} (h:PC P f [[(true,.sl sz rows)]] l [[(true,.sl sz rows')]] res) (hr:flD res = true) (hc:zaw (σ.get P 0 x) = some (f,cvs))
  (hv:mtK [k] l (σ.gets P asx ts ++ cvs) fun us=>gvQ us (AF.ds l)) (hb:qj7 σ k sz rows fun _ _=>True) :
  zh5 P ⟨some d,.call ⟨.value x,asx,ts⟩,ty,ps,af,none⟩ (zav (x :: asx.toList) ++ [(1,k),(2,σ.bxE k)]) (dK (some d) ++ (boK (zpr σ k) ++ eK (zqm σ k rows'))) σ (σ.callT d k rows' res):=by
 unfold St.callT
 refine zh5.ofB rfl (zbp (zb8 _) rfl) fun σ1 hs=>?_
 have e1:σ1.get P 0 x = σ.get P 0 x:=zco (l:=x :: asx.toList) (fun k hk=>hs k (by simp only [Qt]; exact Or.inl hk)) (by simp) 0
 have e2:σ1.gets P asx ts = σ.gets P asx ts:=ztt fun k hk=>hs k (by simp only [Qt]; exact Or.inl (zgm hk))
 have e3:σ1.bx k = σ.bx k:=Eq.symm (hs (1,k) (by simp))
 have e4:σ1.bxE k = σ.bxE k:=by unfold St.bxE; rw [e3]
 have e5:σ1.ev (σ.bxE k) = σ.ev (σ.bxE k):=Eq.symm (hs (2,σ.bxE k) (by simp))
 have t1:zqm σ1 k rows' = zqm σ k rows':=by unfold zqm; rw [e4,e5]
 have t2:zpr σ1 k = zpr σ k:=by unfold zpr; rw [e4,e5]
 have hb1:qj7 σ1 k sz rows fun _ _=>True:=by
  obtain ⟨e,z,q1,q2,q3,q4,q5,q6,q7,_⟩:=qg7 hb
  have hE:σ.bxE k = e:=by unfold St.bxE; rw [q1]
  unfold qj7
  rw [e3,q1]
  rw [hE] at e5
  simp only
  rw [e5,q2]
  exact ⟨q3,q4,rfl,q5,q6,q7,trivial⟩
 rw [<-t1,<-t2]
 exact zse rfl rfl h (by rw [e1]; exact hc) hr (by rw [e2]; exact hv) hb1
theorem ql0 (k:Nat) (h:PC P f [[(true,.sl sz rows)]] l [[(true,.sl sz rows')]] res) (hr:flD res = true)
  (hp:zat (zaw (σ.get P 0 x)) fun p=>p.1 = f /\ mtK [k] l (σ.gets P asx ts ++ p.2) fun us=>gvQ us (AF.ds l)) (hb:qj7 σ k sz rows fun _ _=>True)
  (c:exd P ops os (L ++ [(gR ++ (zav (x :: asx.toList) ++ [(1,k),(2,σ.bxE k)]),dK (some d) ++ (boK (zpr σ k) ++ eK (zqm σ k rows')))]) ks Q (σ.callT d k rows' res)) :
  zn9 P ops ⟨some d,.call ⟨.value x,asx,ts⟩,ty,ps,af,none⟩ os L gR ks Q σ:=by
 obtain ⟨⟨f',cvs⟩,h1,rfl,h2⟩:=zaq hp
 exact qgk _ _ _ _ _ _ rfl (qgu h hr h1 h2 hb) c
end
section
variable {d:Option Nat} {ty:TypeId} {ps:String} {af:Array Edge} (ops:Array Oper) (os:List Oper) (L:List (List Ky × List Ky)) (ks:List Fr) (Q:Exit->St->Prop) (σ:St)
def exdGS (P:Program) (ops:Array Oper) (o:Oper) (os:List Oper) (L:List (List Ky × List Ky)) (gR:List Ky) (ks:List Fr) (Q:Exit->St->Prop) (σ:St):Prop:=zn9 P ops o os L gR ks Q σ
theorem qad (gR:List Ky) (t:TypeId) (x:Operand) (l h m:Option Operand):zn9 P ops ⟨d,.slice t x l h m,ty,ps,af,none⟩ os L gR ks Q σ = owK (σ.get P t x) (exdGS P ops ⟨d,.slice t x l h m,ty,ps,af,none⟩ os L gR ks Q σ) (thn (st P ⟨d,.slice t x l h m,ty,ps,af,none⟩ σ) (exd P ops os (L ++ [(gR ++ (zav (x :: (l.toList ++ h.toList ++ m.toList)) ++ []),dK d ++ [])]) ks Q)):=by
 unfold owK
 split
 ·rfl
 ·rename_i h
  exact zf7 _ _ _ _ _ _ (by unfold zqe qbc; simpa [qaq] using h)
end
attribute [go_sem ↓] qad
theorem bxE_at (σ:St) (k:Nat):σ.bxE k = match σ.bx k with
 | some [.ow e _]=>e
 | _=>0:=rfl
attribute [go_sem] qj7 bxE_at zqm zpr flV St.upEB St.callT
end
section
set_option maxRecDepth 4000
open Go.RowKit
noncomputable def dec (p:Prop):Bool:=@decide p (Classical.propDecidable _)
theorem zjt {p:Prop}:dec p = true ↔ p:=by simp [dec]
theorem zy5 {p:Prop}:dec p = false ↔ ¬ p:=by simp [dec]
def TOk (xs:List Tm):Prop:=∀ k (h:k < xs.length),xs[k].good = true /\ ((xs.take k).any fun a=>same a xs[k]) = false
noncomputable def zcd (e:Ex) (pos:Bool) (E:List Str):Bool × List Str :=
 if dec (TOk e.terms) = true then
  (if ((e.form.op == 8) == pos) = true then
   (match e.terms with
   | [t]=>if (zay t.name && !E.contains t.name) = true then (decide (e.parts.length = 1),E ++ [t.name]) else (false,E)
   | _=>(false,E))
  else (decide (e.parts.length = e.terms.length),E))
 else (false,E)
theorem up_var {t:Tm} (h:t.good = true):zlm (t.name.getD 0 0) = zay t.name /\ 0 < t.name.length:=by
 unfold Tm.good at h
 rw [Qa] at h
 have h:=h.2
 rw [Tm.names_eq] at h
 by_cases hv:zay t.name = true
 ·obtain ⟨h1,h2⟩:=zq3 hv
  exact ⟨h1.trans hv.symm,h2⟩
 ·rw [if_neg hv] at h
  simp only [Qa] at h
  obtain ⟨h1,h2⟩:=zls h.1.1
  exact ⟨h1.trans (by simpa using hv),h2⟩
theorem TOk.snoc {xs:List Tm} {k:Nat} (h:k < xs.length) (hT:∀ j,j < k->∀ hj:j < xs.length,xs[j].good = true /\ ((xs.take j).any fun a=>same a xs[j]) = false) (h1:xs[k].good = true) (h2:((xs.take k).any fun a=>same a xs[k]) = false):∀ j,j < k + 1->∀ hj:j < xs.length,xs[j].good = true /\ ((xs.take j).any fun a=>same a xs[j]) = false:=fun j hj hl=>by
 by_cases e:j = k
 ·subst e; exact ⟨h1,h2⟩
 ·exact hT j (by omega) hl
theorem qqc (e:Ex) (he:e.wt <= 1048576) (pos:Bool) (E:List Str) (hE:E.length <= 4194304):PC Tryz.prog 155 [[(true,.sl 1 (E.map fun s=>[.str s]))]] [.p 0,.d false (exD e),.d false (bD pos)] [[(true,.sl 1 ((zcd e pos E).2.map fun s=>[.str s]))]] [(true,bD (zcd e pos E).1)]:=by
 have hW:=e.wt_eq
 have hTW:zec e.terms = e.terms.length + (e.terms.map Tm.wt).sum:=rfl
 have HS:=zy8 e.form pos
 simp only [exD,zap,fmD,zab] at HS ⊢
 refine zry Tryz.call155 Tryz.func155 rfl (by kernel_rfl) (by simp only [Qm,Qv,Tryz.ntmps155]; omega) (by simp only [Tryz.ntmps155]; omega) rfl rfl (by simp [zbq,T.isPin,AF.ds,bxA]) (by simp [gFS,T.fs,T.flat,AF.ds,bxA]) rfl ?_
 simp -implicitDefEqProofs only[go_sem,Tryz.results155]
 refine zae (fun k:Nat=>hd [(0,.one (.bx 1000000 0)),(1000000,.one (.bx 1000000 0)),(2,.one (.t (.bool pos))),(4,.one (.bx 4 0)),(10,.one (.rn (tmS e.terms))),(11,vI e.terms.length),(12,vI k)] [(1000000,[.ow 64 0]),(4,[.t (.int .i64 e.form.op),.t (.str e.form.atom.name),.rn (tmS e.form.atom.args),.t (.str e.form.var),.rn (fmS e.form.parts),.rn (tmS e.terms),.rn (exS e.parts)])] [(64,⟨true,1,E.map fun s=>[.str s],0,true⟩)]) (fun k=>k <= e.terms.length /\ ∀ j,j < k->∀ hj:j < e.terms.length,e.terms[j].good = true /\ ((e.terms.take j).any fun a=>same a e.terms[j]) = false) (fun k=>e.terms.length - k) 0 (zac ?_) ⟨Ka _,fun j hj=>by omega⟩ ?_
 ·simp -implicitDefEqProofs only[go_sem]
 ·rintro k ⟨hk,hT⟩
  by_cases hlt:k < e.terms.length
  ·have hwt:e.terms[k].wt <= 1099511627776:=by have:=zbo Tm.wt e.terms _ (Qe hlt); omega
   have HV:=zee e.terms[k] hwt
   have HI:=zja (e.terms.take k) e.terms[k]
   have hi2:=zu1 (e.terms.take k) fun a=>same a e.terms[k]
   have hbad:(e.terms[k].good = false \/ ((e.terms.take k).any fun a=>same a e.terms[k]) = true)->zcd e pos E = (false,E):=fun h=>by
    unfold zcd
    have:dec (TOk e.terms) = false:=zy5.2 fun hh=>by
     obtain ⟨q1,q2⟩:=hh k hlt
     rcases h with h | h
     ·rw [q1] at h; cases h
     ·rw [q2] at h; cases h
    rw [this,if_neg (by simp)]
   simp only [tmD,zaa e.terms[k]] at HV HI
   simp -implicitDefEqProofs only[go_sem,hlt]
   cases hg:e.terms[k].good
   ·rw [hbad (Or.inl hg)]
    rw [hg] at HV
    simp -implicitDefEqProofs only[go_sem,zad,hlt,zaa e.terms[k]]
    refine drawn (by kernel_rfl) ?_
    simp -implicitDefEqProofs only[go_sem]
    refine zao (HV) (by simp -implicitDefEqProofs only[go_sem]) ?_
    simp -implicitDefEqProofs only[go_sem]
    kernel_rfl
   ·rw [hg] at HV
    simp -implicitDefEqProofs only[go_sem,zad,hlt,zaa e.terms[k]]
    refine drawn (by kernel_rfl) ?_
    simp -implicitDefEqProofs only[go_sem]
    refine zao (HV) (by simp -implicitDefEqProofs only[go_sem]) ?_
    simp -implicitDefEqProofs only[go_sem]
    refine ⟨hk,?_⟩
    have eT:tmS (e.terms.take k) = .sl 2 ((e.terms.map tmC).take k):=by unfold tmS; rw [Yi]
    rw [eT] at HI
    cases hi:(e.terms.take k).any fun a=>same a e.terms[k]
    ·rw [hi] at hi2
     refine zbl (HI) (by simp -implicitDefEqProofs only[go_sem,hi2]) ?_
     simp -implicitDefEqProofs only[go_sem,hi2]
     refine ⟨by kernel_rfl,k + 1,⟨hlt,TOk.snoc hlt hT hg hi⟩,by omega,zac ?_⟩
     simp -implicitDefEqProofs only[go_sem]
     rw [zal (by omega)]
    ·rw [hi] at hi2
     rw [hbad (Or.inr hi)]
     refine zbl (HI) (by simp -implicitDefEqProofs only[go_sem,hi2]) ?_
     simp -implicitDefEqProofs only[go_sem,hi2]
     kernel_rfl
  ·have hTok:dec (TOk e.terms) = true:=zjt.2 fun j hj=>hT j (by omega) hj
   have hval:zcd e pos E = if ((e.form.op == 8) == pos) = true then (match e.terms with | [t]=>if (zay t.name && !E.contains t.name) = true then (decide (e.parts.length = 1),E ++ [t.name]) else (false,E) | _=>(false,E)) else (decide (e.parts.length = e.terms.length),E):=by
    unfold zcd; rw [hTok,if_pos rfl]
   cases hst:(e.form.op == 8) == pos
   ·rw [hst,if_neg (by simp)] at hval
    rw [hst] at HS
    rw [hval]
    have hle:((e.parts.length:Int) == (e.terms.length:Int)) = decide (e.parts.length = e.terms.length):=by rw [Kk]; simp only [Ki,Qg]; omega
    simp -implicitDefEqProofs only[go_sem,hlt]
    refine callF (HS) (by simp -implicitDefEqProofs only[go_sem]) ?_
    simp -implicitDefEqProofs only[go_sem]
    exact Or.inl (by rw [hle])
   ·rw [hst,if_pos rfl] at hval
    rw [hst] at HS
    by_cases h1:e.terms.length = 1
    ·obtain ⟨t,ht⟩:=Jp.1 h1
     have htg:t.good = true:=by have:=(zjt.1 hTok) 0 (by omega); simpa [ht] using this.1
     obtain ⟨hu,hn0⟩:=up_var htg
     have HV:=qhf t hn0
     rw [hu] at HV
     have hval2:zcd e pos E = if (zay t.name && !E.contains t.name) = true then (decide (e.parts.length = 1),E ++ [t.name]) else (false,E):=by rw [hval,ht]
     have HCt:=zcf E t.name
     have e0:(List.map tmC e.terms).getD 0 [] = tmC t:=by rw [ht]; rfl
     have hle:((e.parts.length:Int) == 1) = decide (e.parts.length = 1):=by rw [Kk]; simp only [Ki,Qg]; omega
     simp only [tmD,zaa t] at HV
     simp -implicitDefEqProofs only[go_sem,hlt]
     refine callF (HS) (by simp -implicitDefEqProofs only[go_sem]) ?_
     simp -implicitDefEqProofs only[go_sem]
     cases hv:zay t.name
     ·rw [hv,Qj,if_neg (by simp)] at hval2
      rw [hv] at HV
      rw [hval2]
      refine drawn (by kernel_rfl) ?_
      simp -implicitDefEqProofs only[go_sem,h1,e0,zaa t]
      refine zbl (HV) (by simp -implicitDefEqProofs only[go_sem]) ?_
      simp -implicitDefEqProofs only[go_sem]
      kernel_rfl
     ·rw [hv,Qn] at hval2
      rw [hv] at HV
      cases hc:E.contains t.name
      ·rw [hc,if_pos (by simp)] at hval2
       rw [hc] at HCt
       rw [hval2]
       refine drawn (by kernel_rfl) ?_
       simp -implicitDefEqProofs only[go_sem,h1,e0,zaa t]
       refine zbl (HV) (by simp -implicitDefEqProofs only[go_sem,h1,e0,zaa t]) ?_
       simp -implicitDefEqProofs only[go_sem,h1,e0,zaa t]
       refine zbl (HCt) (by simp -implicitDefEqProofs only[go_sem]) ?_
       simp -implicitDefEqProofs only[go_sem]
       refine ⟨by kernel_rfl,?_⟩
       refine drawn (by kernel_rfl) ?_
       simp -implicitDefEqProofs only[go_sem,h1,e0,zaa t]
       have hE2:E.length <= 4294967295:=by omega
       refine zbi (by simp -implicitDefEqProofs only[go_sem]) ?_
       simp -implicitDefEqProofs only[go_sem]
       refine zj0 true (by simp -implicitDefEqProofs only[go_sem,hE2,ne_eq,Qb]) ?_
       simp -implicitDefEqProofs only[go_sem,hE2,ne_eq,Qb]
       refine ⟨by kernel_rfl,?_⟩
       simp -implicitDefEqProofs only[go_sem,h1,hle]
       exact Or.inl (Or.inl (by simp))
      ·rw [hc,if_neg (by simp)] at hval2
       rw [hc] at HCt
       rw [hval2]
       refine drawn (by kernel_rfl) ?_
       simp -implicitDefEqProofs only[go_sem,h1,e0,zaa t]
       refine zbl (HV) (by simp -implicitDefEqProofs only[go_sem,h1,e0,zaa t]) ?_
       simp -implicitDefEqProofs only[go_sem,h1,e0,zaa t]
       refine zbl (HCt) (by simp -implicitDefEqProofs only[go_sem]) ?_
       simp -implicitDefEqProofs only[go_sem]
       kernel_rfl
    ·have hval2:zcd e pos E = (false,E):=by
      rw [hval]
      split
      ·rename_i t ht; rw [ht] at h1; exact absurd rfl h1
      ·rfl
     rw [hval2]
     have hne:((e.terms.length:Int) != 1) = true:=by rw [bne_iff_ne]; omega
     simp -implicitDefEqProofs only[go_sem,hlt]
     refine callF (HS) (by simp -implicitDefEqProofs only[go_sem]) ?_
     simp -implicitDefEqProofs only[go_sem]
     refine drawn (by kernel_rfl) ?_
     simp -implicitDefEqProofs only[go_sem,hne]
     kernel_rfl
end
section
set_option maxRecDepth 4000
open Go.RowKit
def zh7:List (Bool × (List Str->Bool × List Str))->List Str->Bool × List Str
 | [],E=>(true,E)
 | (c,g) :: l,E=>if c = true then (if (g E).1 = true then zh7 l (g E).2 else (false,(g E).2)) else (false,E)
def Tm.zero:Tm:=.mk [] []
noncomputable def zwo (f:Fm) (ts:List Tm) (i:Nat) (p:Ex):Bool:=(sbF f.var (ts.getD i Tm.zero) (f.parts.getD 0 (mkF 0 []))).2 && same (sbF f.var (ts.getD i Tm.zero) (f.parts.getD 0 (mkF 0 []))).1 p.form
noncomputable def qbf (f:Fm) (i:Nat) (p:Ex):Bool:=same (f.parts.getD i (mkF 0 [])) p.form
def sgn (f:Fm) (i:Nat) (pos:Bool):Bool:=pos != (f.op == 4 || (f.op == 7 && ((i:Int) == 0)))
noncomputable def zb7:Ex->Bool->List Str->Bool × List Str:=Ex.fold fun f ts ps rs pos E =>
 if isQ f.op = true then
  (if (zcd (.mk f ts ps) pos E).1 = true then zh7 ((ps.zip rs).mapIdx fun i q=>(zwo f ts i q.1,q.2 pos)) (zcd (.mk f ts ps) pos E).2 else (false,(zcd (.mk f ts ps) pos E).2))
 else if ts.length = 0 /\ ps.length = f.parts.length then zh7 ((ps.zip rs).mapIdx fun i q=>(qbf f i q.1,q.2 (sgn f i pos))) E
 else (false,E)
theorem zvf {α β γ:Type} (f:α->β) (g:Nat->α × β->γ) (xs:List α):(xs.zip (xs.map f)).mapIdx g = xs.mapIdx fun i x=>g i (x,f x):=by
 have:xs.zip (xs.map f) = xs.map fun x=>(x,f x):=by
  induction xs with
  | nil=>rfl
  | cons x xs ih=>rw [Qi,List.zip_cons_cons,ih]; rfl
 rw [this]
 refine List.ext_getElem? fun i=>?_
 simp only [List.getElem?_mapIdx,List.getElem?_map,Option.map_map,K5]
theorem zpp (e:Ex) (pos:Bool) (E:List Str):zb7 e pos E = if isQ e.form.op = true then
  (if (zcd e pos E).1 = true then zh7 (e.parts.mapIdx fun i p=>(zwo e.form e.terms i p,zb7 p pos)) (zcd e pos E).2 else (false,(zcd e pos E).2))
 else if e.terms.length = 0 /\ e.parts.length = e.form.parts.length then zh7 (e.parts.mapIdx fun i p=>(qbf e.form i p,zb7 p (sgn e.form i pos))) E
 else (false,E):=by
 cases e with
 | mk f ts ps =>
  conv=>lhs; unfold zb7; rw [Ex.fold_eq]
  simp only [zvf]
  rfl
theorem zop (e:Ex) (pos:Bool) (E:List Str):(zcd e pos E).2.length <= E.length + 1:=by
 unfold zcd
 split
 ·split
  ·split
   ·split
    ·simp
    ·exact Nat.le_succ _
   ·exact Nat.le_succ _
  ·exact Nat.le_succ _
 ·exact Nat.le_succ _
theorem zym (w:Nat->Nat):∀ (l:List (Bool × (List Str->Bool × List Str))) (j:Nat) (E:List Str),(∀ i (h:i < l.length) (E:List Str),(l[i].2 E).2.length <= E.length + w (j + i))->(zh7 l E).2.length <= E.length + ((List.range l.length).map fun i=>w (j + i)).sum
 | [],_,E,_=>by simp [zh7]
 | (c,g) :: l,j,E,h=>by
  have h0:=h 0 (by simp) E
  rw [Jz] at h0
  have h0:(g E).2.length <= E.length + w j:=h0
  have ih:=zym w l (j + 1) (g E).2 fun i hi E=>by
   have:=h (i + 1) (by simpa using hi) E
   rw [show j + 1 + i = j + (i + 1) by omega]
   simpa using this
  have e:((List.range ((c,g) :: l).length).map fun i=>w (j + i)).sum = w j + ((List.range l.length).map fun i=>w (j + 1 + i)).sum:=by
   rw [Qm,List.range_succ_eq_map,Qi,Q3,Ke]
   congr 2
   refine Q6 fun i _=>?_
   show w (j + (i + 1)) = _
   rw [show j + (i + 1) = j + 1 + i by omega]
  rw [e]
  unfold zh7
  split
  ·split
   ·omega
   ·show (g E).2.length <= _; omega
  ·show E.length <= _; omega
theorem zsx (ps:List Ex):((List.range ps.length).map fun i=>(ps.getD i (.mk (mkF 0 []) [] [])).nodes).sum = (ps.map Ex.nodes).sum:=by
 congr 1
 refine List.ext_getElem (by simp) fun i h1 h2=>?_
 have h2:i < ps.length:=by simpa using h2
 simp [List.getD,h2]
theorem zs0:∀ (e:Ex) (pos:Bool) (E:List Str),(zb7 e pos E).2.length <= E.length + e.nodes:=zd8 fun f ts ps ih pos E=>by
 rw [zpp,Ex.nodes_eq]
 have hr:=zsx ps
 have key:∀ (tst:Nat->Ex->Bool) (sg:Nat->Bool) (E:List Str),(zh7 (ps.mapIdx fun i p=>(tst i p,zb7 p (sg i))) E).2.length <= E.length + (ps.map Ex.nodes).sum:=fun tst sg E=>by
  have:=zym (fun i=>(ps.getD i (.mk (mkF 0 []) [] [])).nodes) (ps.mapIdx fun i p=>(tst i p,zb7 p (sg i))) 0 E fun i h E=>by
   have hi:i < ps.length:=by simpa using h
   have:=ih ps[i] (Qe hi) (sg i) E
   simp only [Kp,Q4]
   rw [List.getD_eq_getElem?_getD,List.getElem?_eq_getElem hi]
   exact this
  simp only [Jv,Q4] at this
  rw [hr] at this
  exact this
 show (if isQ f.op = true then (if (zcd (.mk f ts ps) pos E).1 = true then zh7 (ps.mapIdx fun i p=>(zwo f ts i p,zb7 p pos)) (zcd (.mk f ts ps) pos E).2 else (false,(zcd (.mk f ts ps) pos E).2)) else if ts.length = 0 /\ ps.length = f.parts.length then zh7 (ps.mapIdx fun i p=>(qbf f i p,zb7 p (sgn f i pos))) E else (false,E)).2.length <= E.length + (1 + (ps.map Ex.nodes).sum)
 have ht:=zop (.mk f ts ps) pos E
 split
 ·split
  ·have:=key (fun i p=>zwo f ts i p) (fun _=>pos) (zcd (.mk f ts ps) pos E).2
   omega
  ·show (zcd (.mk f ts ps) pos E).2.length <= _; omega
 ·split
  ·have:=key (fun i p=>qbf f i p) (fun i=>sgn f i pos) E
   omega
  ·show E.length <= _; omega
end
section
set_option maxRecDepth 4000
open Go.RowKit
theorem zl8 {a b:Nat} (h:a + b <= 1048576):a + (1 + a) * b <= 1099511627776:=by
 by_cases hb:b <= 524288
 ·have:(1 + a) * b <= 1048577 * 524288:=Ye (by omega) hb
  omega
 ·have:(1 + a) * b <= 524289 * 1048576:=Ye (by omega) (by omega)
  omega
theorem qfr (l:List (Bool × (List Str->Bool × List Str))) (k:Nat) (h:k < l.length) (E:List Str):zh7 (l.drop k) E = if l[k].1 = true then (if (l[k].2 E).1 = true then zh7 (l.drop (k + 1)) (l[k].2 E).2 else (false,(l[k].2 E).2)) else (false,E):=by
 rw [Qh h]
 rfl
theorem zdr {α:Type} {xs:List α} {k:Nat} (h:k < xs.length) (d:α):xs.getD k d = xs[k]:=by rw [List.getD_eq_getElem?_getD,List.getElem?_eq_getElem h]; rfl
abbrev zvw (p:Ex) (pos:Bool) (E:List Str):Prop:=PC Tryz.prog 81 [[(true,.sl 1 (E.map fun s=>[.str s]))]] [.p 0,.d false (exD p),.d false (bD pos)] [[(true,.sl 1 ((zb7 p pos E).2.map fun s=>[.str s]))]] [(true,bD (zb7 p pos E).1)]
theorem zuw {e:Ex} {pos:Bool} {E:List Str} (h:(zcd e pos E).1 = true):e.parts.length = e.terms.length /\ TOk e.terms:=by
 unfold zcd at h
 split at h
 ·rename_i h0
  refine ⟨?_,zjt.1 h0⟩
  split at h
  ·split at h
   ·rename_i t ht
    split at h
    ·rw [ht]; exact K4 h
    ·cases h
   ·cases h
  ·exact K4 h
 ·cases h
theorem qfm {n:Str} {t:Tm} {f:Fm} (h:(sbF n t f).2 = true):(sbF n t f).1.forms = true:=by
 unfold sbF at h ⊢
 split at h
 ·rename_i h0
  rw [if_pos h0]
  rw [Qa] at h0
  exact zbw h0.2
 ·cases h
set_option maxHeartbeats 4000000 in
theorem qol (e:Ex) (he:e.wt <= 1048576) (hf:e.form.forms = true) (H:∀ p ∈ e.parts,p.form.forms = true->∀ pos E,E.length + p.nodes <= 4194304->zvw p pos E) (pos:Bool) (E:List Str) (hE:E.length + e.nodes <= 4194304):zvw e pos E:=by
 have hv:=zpp e pos E
 have hW:=e.wt_eq
 have hTW:zec e.terms = e.terms.length + (e.terms.map Tm.wt).sum:=rfl
 have hNe:=e.nodes_eq
 have HQ:=zan e.form.op
 unfold zvw
 cases hq:isQ e.form.op
 ·rw [hq,if_neg (by simp)] at hv
  rw [hq] at HQ
  have hfl:e.form.parts.length <= 1048576:=by have:=e.form.wt_eq; omega
  by_cases hc:e.terms.length = 0 /\ e.parts.length = e.form.parts.length
  ·rw [if_pos hc] at hv
   obtain ⟨hc1,hc2⟩:=hc
   have hc3:((e.form.parts.length:Int) != (e.form.parts.length:Int)) = false:=by simp
   have hps:∀ x ∈ e.form.parts,x.forms = true:=by
    rw [Fm.forms_eq,Qa] at hf
    exact Ql.1 hf.2
   simp only [exD,zap]
   refine zry Tryz.call81 Tryz.func81 rfl (by kernel_rfl) (by simp only [Qm,Qv,Tryz.ntmps81]; omega) (by simp only [Tryz.ntmps81]; omega) rfl rfl (by simp [zbq,T.isPin,AF.ds,bxA]) (by simp [gFS,T.fs,T.flat,AF.ds,bxA]) rfl ?_
   simp -implicitDefEqProofs only[go_sem,Tryz.results81]
   refine callF (HQ) (by simp -implicitDefEqProofs only[go_sem,hc1,hc2,hc3]) ?_
   simp -implicitDefEqProofs only[go_sem,hc1,hc2,hc3]
   refine zae (fun x:Nat × List Str=>hd [(0,.one (.bx 1000000 0)),(1000000,.one (.bx 1000000 0)),(2,.one (.t (.bool pos))),(4,.one (.bx 4 0)),(7,.one (.bx 7 0)),(78,.one (.rn (exS e.parts))),(79,vI e.form.parts.length),(80,vI x.1)] [(1000000,[.ow 64 0]),(4,[.t (.int .i64 e.form.op),.t (.str e.form.atom.name),.rn (tmS e.form.atom.args),.t (.str e.form.var),.rn (fmS e.form.parts),.rn (tmS e.terms),.rn (exS e.parts)]),(7,[.t (.int .i64 e.form.op),.t (.str e.form.atom.name),.rn (tmS e.form.atom.args),.t (.str e.form.var),.rn (fmS e.form.parts)])] [(64,⟨true,1,x.2.map fun s=>[.str s],0,true⟩)]) (fun x=>x.1 <= e.parts.length /\ zh7 ((e.parts.mapIdx fun i p=>(qbf e.form i p,zb7 p (sgn e.form i pos))).drop x.1) x.2 = zb7 e pos E /\ x.2.length + qa4 Ex.nodes e.parts x.1 <= E.length + e.nodes) (fun x=>e.parts.length - x.1) (0,E) (zac ?_) ⟨Ka _,hv.symm,by rw [zd0]; show E.length + _ <= _; omega⟩ ?_
   ·simp -implicitDefEqProofs only[go_sem]
   ·rintro ⟨k,E'⟩ ⟨hk,hr,hl⟩
    simp only at hk hr hl
    by_cases hlt:k < e.parts.length
    ·have hd:=zg1 Ex.nodes e.parts k hlt
     have hrk:=qfr (e.parts.mapIdx fun i p=>(qbf e.form i p,zb7 p (sgn e.form i pos))) k (by simpa using hlt) E'
     rw [hr] at hrk
     simp only [Kp] at hrk
     have hkf:k < e.form.parts.length:=by omega
     have htst:qbf e.form k e.parts[k] = same e.form.parts[k] e.parts[k].form:=by
      unfold qbf
      rw [zdr hkf]
     rw [htst] at hrk
     have HSm:=zis e.form.parts[k] e.parts[k].form
     have HPo:=zy9 e.form k pos
     have hsg:(pos != (e.form.op == 4 || (e.form.op == 7 && ((k:Int) == 0)))) = sgn e.form k pos:=rfl
     rw [hsg] at HPo
     simp only [fmD,zab e.form.parts[k],zab e.parts[k].form,zab e.form] at HSm HPo
     simp -implicitDefEqProofs only[go_sem,hkf,zad,hlt,zap e.parts[k]]
     cases hsm:same e.form.parts[k] e.parts[k].form
     ·rw [hsm,if_neg (by simp)] at hrk
      rw [hsm] at HSm
      rw [hrk]
      refine drawn (by kernel_rfl) ?_
      simp -implicitDefEqProofs only[go_sem,hkf,zad,zab e.form.parts[k]]
      refine zao (HSm) (by simp -implicitDefEqProofs only[go_sem]) ?_
      simp -implicitDefEqProofs only[go_sem]
      kernel_rfl
     ·rw [hsm,if_pos rfl] at hrk
      rw [hsm] at HSm
      have hpf:e.parts[k].form.forms = true:=by rw [<-zbc.1 hsm]; exact hps _ (Qe hkf)
      have HC:=H e.parts[k] (Qe hlt) hpf (sgn e.form k pos) E' (by omega)
      have hnl:=zs0 e.parts[k] (sgn e.form k pos) E'
      unfold zvw at HC
      simp only [exD,zap e.parts[k]] at HC
      generalize hN1:(zb7 e.parts[k] (sgn e.form k pos) E').1 = b1 at HC hrk
      generalize hN2:(zb7 e.parts[k] (sgn e.form k pos) E').2 = E2 at HC hrk hnl
      cases hb1:b1
      ·rw [hb1,if_neg (by simp)] at hrk
       rw [hb1] at HC
       rw [hrk]
       refine drawn (by kernel_rfl) ?_
       simp -implicitDefEqProofs only[go_sem,hkf,zad,zab e.form.parts[k]]
       refine zao (HSm) (by simp -implicitDefEqProofs only[go_sem]) ?_
       simp -implicitDefEqProofs only[go_sem]
       refine zbl (HPo) (by simp -implicitDefEqProofs only[go_sem]) ?_
       simp -implicitDefEqProofs only[go_sem]
       refine ql0 1000000 (HC) rfl (by simp -implicitDefEqProofs only[go_sem,za4]) (by simp -implicitDefEqProofs only[go_sem,za4]) ?_
       simp -implicitDefEqProofs only[go_sem,za4]
       kernel_rfl
      ·rw [hb1,if_pos rfl] at hrk
       rw [hb1] at HC
       refine drawn (by kernel_rfl) ?_
       simp -implicitDefEqProofs only[go_sem,hkf,zad,zab e.form.parts[k]]
       refine zao (HSm) (by simp -implicitDefEqProofs only[go_sem]) ?_
       simp -implicitDefEqProofs only[go_sem]
       refine zbl (HPo) (by simp -implicitDefEqProofs only[go_sem]) ?_
       simp -implicitDefEqProofs only[go_sem]
       refine ql0 1000000 (HC) rfl (by simp -implicitDefEqProofs only[go_sem,za4]) (by simp -implicitDefEqProofs only[go_sem,za4]) ?_
       simp -implicitDefEqProofs only[go_sem,za4]
       refine ⟨by kernel_rfl,(k + 1,E2),⟨hlt,hrk.symm,by simp only; omega⟩,by simp only; omega,zac ?_⟩
       simp -implicitDefEqProofs only[go_sem]
       rw [zal (by omega)]
    ·have hkf:¬ k < e.form.parts.length:=by omega
     simp -implicitDefEqProofs only[go_sem,hkf]
     rw [Qs (by rw [Jv]; omega)] at hr
     exact Or.inl ⟨by rw [<-hr]; rfl,Or.inl (by rw [<-hr]; rfl)⟩
  ·rw [if_neg hc] at hv
   rw [hv]
   simp only [exD,zap]
   by_cases hc1:e.terms.length = 0
   ·have hc2:((e.parts.length:Int) != (e.form.parts.length:Int)) = true:=by rw [bne_iff_ne]; omega
    refine zry Tryz.call81 Tryz.func81 rfl (by kernel_rfl) (by simp only [Qm,Qv,Tryz.ntmps81]; omega) (by simp only [Tryz.ntmps81]; omega) rfl rfl (by simp [zbq,T.isPin,AF.ds,bxA]) (by simp [gFS,T.fs,T.flat,AF.ds,bxA]) rfl ?_
    simp -implicitDefEqProofs only[go_sem,Tryz.results81]
    refine callF (HQ) (by simp -implicitDefEqProofs only[go_sem,hc1,hc2]) ?_
    simp -implicitDefEqProofs only[go_sem,hc1,hc2]
   ·have hc1':(0:Int) < (e.terms.length:Int):=by omega
    refine zry Tryz.call81 Tryz.func81 rfl (by kernel_rfl) (by simp only [Qm,Qv,Tryz.ntmps81]; omega) (by simp only [Tryz.ntmps81]; omega) rfl rfl (by simp [zbq,T.isPin,AF.ds,bxA]) (by simp [gFS,T.fs,T.flat,AF.ds,bxA]) rfl ?_
    simp -implicitDefEqProofs only[go_sem,Tryz.results81]
    refine callF (HQ) (by simp -implicitDefEqProofs only[go_sem,hc1']) ?_
    simp -implicitDefEqProofs only[go_sem,hc1']
 ·rw [hq,if_pos rfl] at hv
  rw [hq] at HQ
  obtain ⟨q,hp,hqf⟩:=zlh hq hf
  have HT:=qqc e he pos E (by omega)
  have hTl:=zop e pos E
  cases ht:(zcd e pos E).1
  ·rw [ht,if_neg (by simp)] at hv
   rw [ht] at HT
   rw [hv]
   simp only [exD,zap] at HT ⊢
   refine zry Tryz.call81 Tryz.func81 rfl (by kernel_rfl) (by simp only [Qm,Qv,Tryz.ntmps81]; omega) (by simp only [Tryz.ntmps81]; omega) rfl rfl (by simp [zbq,T.isPin,AF.ds,bxA]) (by simp [gFS,T.fs,T.flat,AF.ds,bxA]) rfl ?_
   simp -implicitDefEqProofs only[go_sem,Tryz.results81]
   refine callF (HQ) (by simp -implicitDefEqProofs only[go_sem]) ?_
   simp -implicitDefEqProofs only[go_sem]
   refine callT 1000000 (HT) rfl (by simp -implicitDefEqProofs only[go_sem,za4,zap e]) (by simp -implicitDefEqProofs only[go_sem,za4,zap e]) ?_
   simp -implicitDefEqProofs only[go_sem,za4,zap e]
  ·rw [ht,if_pos rfl] at hv
   rw [ht] at HT
   obtain ⟨hlen,_⟩:=zuw ht
   generalize hE1:(zcd e pos E).2 = E1 at hv HT hTl
   simp only [exD,zap] at HT ⊢
   refine zry Tryz.call81 Tryz.func81 rfl (by kernel_rfl) (by simp only [Qm,Qv,Tryz.ntmps81]; omega) (by simp only [Tryz.ntmps81]; omega) rfl rfl (by simp [zbq,T.isPin,AF.ds,bxA]) (by simp [gFS,T.fs,T.flat,AF.ds,bxA]) rfl ?_
   simp -implicitDefEqProofs only[go_sem,Tryz.results81]
   refine callF (HQ) (by simp -implicitDefEqProofs only[go_sem]) ?_
   simp -implicitDefEqProofs only[go_sem]
   refine callT 1000000 (HT) rfl (by simp -implicitDefEqProofs only[go_sem,za4,zap e]) (by simp -implicitDefEqProofs only[go_sem,za4,zap e]) ?_
   simp -implicitDefEqProofs only[go_sem,za4,zap e]
   refine zae (fun x:Nat × List Str=>hd [(0,.one (.bx 1000000 0)),(1000000,.one (.bx 1000000 0)),(2,.one (.t (.bool pos))),(4,.one (.bx 4 0)),(7,.one (.bx 7 0)),(25,.one (.rn (exS e.parts))),(26,vI e.parts.length),(27,vI x.1)] [(1000000,[.ow 64 0]),(4,[.t (.int .i64 e.form.op),.t (.str e.form.atom.name),.rn (tmS e.form.atom.args),.t (.str e.form.var),.rn (fmS e.form.parts),.rn (tmS e.terms),.rn (exS e.parts)]),(7,[.t (.int .i64 e.form.op),.t (.str e.form.atom.name),.rn (tmS e.form.atom.args),.t (.str e.form.var),.rn (fmS e.form.parts)])] [(64,⟨true,1,x.2.map fun s=>[.str s],0,true⟩)]) (fun x=>x.1 <= e.parts.length /\ zh7 ((e.parts.mapIdx fun i p=>(zwo e.form e.terms i p,zb7 p pos)).drop x.1) x.2 = zb7 e pos E /\ x.2.length + qa4 Ex.nodes e.parts x.1 <= E.length + e.nodes) (fun x=>e.parts.length - x.1) (0,E1) (zac ?_) ⟨Ka _,hv.symm,by rw [zd0]; show E1.length + _ <= _; omega⟩ ?_
   ·simp -implicitDefEqProofs only[go_sem]
   ·rintro ⟨k,E'⟩ ⟨hk,hr,hl⟩
    simp only at hk hr hl
    by_cases hlt:k < e.parts.length
    ·have hd:=zg1 Ex.nodes e.parts k hlt
     have hrk:=qfr (e.parts.mapIdx fun i p=>(zwo e.form e.terms i p,zb7 p pos)) k (by simpa using hlt) E'
     rw [hr] at hrk
     simp only [Kp] at hrk
     have hkt:k < e.terms.length:=by omega
     have hform:e.parts[k].form.wt <= e.wt:=Kg (zo6 _) (zfe (Qe hlt))
     have htw:e.terms[k].wt + e.form.wt <= 1048576:=by have:=zbo Tm.wt e.terms _ (Qe hkt); omega
     have hqw:q.wt <= e.form.wt:=zbt (by rw [hp]; simp)
     have HSb:=zej q e.form.var e.terms[k] (by omega) (by omega) (zl8 (by omega))
     have htst:zwo e.form e.terms k e.parts[k] = ((sbF e.form.var e.terms[k] q).2 && same (sbF e.form.var e.terms[k] q).1 e.parts[k].form):=by
      unfold zwo
      rw [zdr hkt,hp]; rfl
     rw [htst] at hrk
     have hsf:(sbF e.form.var e.terms[k] q).2 = true->(sbF e.form.var e.terms[k] q).1.forms = true:=qfm
     generalize (sbF e.form.var e.terms[k] q).1 = R at HSb hrk hsf
     generalize (sbF e.form.var e.terms[k] q).2 = ok at HSb hrk hsf
     have HSm:=zis R e.parts[k].form
     simp only [fmD,tmD,zab q,zaa e.terms[k],zab R,zab e.parts[k].form] at HSb HSm
     have e0:(List.map fmC e.form.parts).getD 0 [] = fmC q:=by rw [hp]; rfl
     have hp0:e.form.parts.length = 1:=by rw [hp]; rfl
     simp -implicitDefEqProofs only[go_sem,hlt,zad,zap e.parts[k]]
     refine drawn (by kernel_rfl) ?_
     simp -implicitDefEqProofs only[go_sem,hp0,e0,zab q,zad,hkt,zaa e.terms[k]]
     refine zao (HSb) (by simp -implicitDefEqProofs only[go_sem]) ?_
     simp -implicitDefEqProofs only[go_sem]
     refine ⟨by kernel_rfl,?_⟩
     cases hok:ok
     ·rw [hok,Qj,if_neg (by simp)] at hrk
      rw [hrk]
      simp -implicitDefEqProofs only[go_sem,hok]
     ·rw [hok,Qn] at hrk
      cases hsm:same R e.parts[k].form
      ·rw [hsm,if_neg (by simp)] at hrk
       rw [hsm] at HSm
       rw [hrk]
       simp -implicitDefEqProofs only[go_sem,hok]
       refine callF (HSm) (by simp -implicitDefEqProofs only[go_sem]) ?_
       simp -implicitDefEqProofs only[go_sem]
      ·rw [hsm,if_pos rfl] at hrk
       rw [hsm] at HSm
       have hpf:e.parts[k].form.forms = true:=by rw [<-zbc.1 hsm]; exact hsf hok
       have HC:=H e.parts[k] (Qe hlt) hpf pos E' (by omega)
       have hnl:=zs0 e.parts[k] pos E'
       unfold zvw at HC
       simp only [exD,zap e.parts[k]] at HC
       generalize hN1:(zb7 e.parts[k] pos E').1 = b1 at HC hrk
       generalize hN2:(zb7 e.parts[k] pos E').2 = E2 at HC hrk hnl
       cases hb1:b1
       ·rw [hb1,if_neg (by simp)] at hrk
        rw [hb1] at HC
        rw [hrk]
        simp -implicitDefEqProofs only[go_sem,hok]
        refine callF (HSm) (by simp -implicitDefEqProofs only[go_sem]) ?_
        simp -implicitDefEqProofs only[go_sem]
        refine callT 1000000 (HC) rfl (by simp -implicitDefEqProofs only[go_sem,za4]) (by simp -implicitDefEqProofs only[go_sem,za4]) ?_
        simp -implicitDefEqProofs only[go_sem,za4]
       ·rw [hb1,if_pos rfl] at hrk
        rw [hb1] at HC
        simp -implicitDefEqProofs only[go_sem,hok]
        refine callF (HSm) (by simp -implicitDefEqProofs only[go_sem]) ?_
        simp -implicitDefEqProofs only[go_sem]
        refine callT 1000000 (HC) rfl (by simp -implicitDefEqProofs only[go_sem,za4]) (by simp -implicitDefEqProofs only[go_sem,za4]) ?_
        simp -implicitDefEqProofs only[go_sem,za4]
        refine ⟨(k + 1,E2),⟨hlt,hrk.symm,by simp only; omega⟩,by simp only; omega,zac ?_⟩
        simp -implicitDefEqProofs only[go_sem]
        rw [zal (by omega)]
        trace_state
    ·simp -implicitDefEqProofs only[go_sem,hlt]
     rw [Qs (by rw [Jv]; omega)] at hr
     exact Or.inl ⟨by rw [<-hr]; rfl,Or.inl (by rw [<-hr]; rfl)⟩
theorem node_c:∀ e:Ex,e.wt <= 1048576->e.form.forms = true->∀ pos E,E.length + e.nodes <= 4194304->zvw e pos E :=
 zd8 fun f ts ps ih he hf pos E hE=>qol (.mk f ts ps) he hf (fun p hp hpf pos E hE=>ih p hp (Kg (zfe (a:=.mk f ts ps) hp) he) hpf pos E hE) pos E hE
end
section
set_option maxRecDepth 4000
open Go.RowKit
theorem zix (n:Str) (t:Tm):∀ f:Fm,f.forms = true->(za5 n t f).2 = true->(za5 n t f).1.forms = true:=za8 fun o a v ps ih hf h=>by
 have hP:=zic n t (.mk o a v ps)
 have hf0:=hf
 rw [Fm.forms_eq,Qa] at hf0
 obtain ⟨hh,hps⟩:=hf0
 have hps:∀ x ∈ ps,x.forms = true:=Ql.1 hps
 cases h3:o == 3
 ·have ha:a = .mk [] []:=zer hh h3
  rw [hP] at h ⊢
  change (if (o == 3) = true then _ else if (isQ o && _) = true then _ else if (isQ o && _) = true then _ else (Fm.mk o (.mk [] []) v ((ps.takeWhile fun x=>(za5 n t x).2).map fun x=>(za5 n t x).1),ps.all fun x=>(za5 n t x).2):Fm × Bool).2 = true at h
  change (if (o == 3) = true then _ else if (isQ o && _) = true then _ else if (isQ o && _) = true then _ else (Fm.mk o (.mk [] []) v ((ps.takeWhile fun x=>(za5 n t x).2).map fun x=>(za5 n t x).1),ps.all fun x=>(za5 n t x).2):Fm × Bool).1.forms = true
  rw [h3,if_neg (by simp)] at h ⊢
  split
  ·exact hf
  ·rename_i h1
   rw [if_neg h1] at h
   split
   ·rename_i h2
    rw [if_pos h2] at h; cases h
   ·rename_i h2
    rw [if_neg h2] at h
    have h1:(ps.all fun x=>(za5 n t x).2) = true:=h
    have hA:=Ql.1 h1
    have hw:(ps.takeWhile fun x=>(za5 n t x).2) = ps:=by
     have:=(zc1 (l:=ps) (p:=fun x=>(za5 n t x).2) (k:=ps.length) (Qw _) (by rw [Kz]; exact hA) fun h=>absurd h (Yc _)).1
     rw [this,Kz]
    rw [hw,<-ha]
    show (Fm.mk o a v (ps.map fun x=>(za5 n t x).1)).forms = true
    rw [ze2,Qa]
    refine ⟨zi6 (f:=.mk o a v ps) hh h3 (by show (ps.map _).length = ps.length; rw [Qb]),Ql.2 fun y hy=>?_⟩
    obtain ⟨x,hx,rfl⟩:=Kf.1 hy
    exact ih x hx (hps x hx) (hA x hx)
 ·have ho3:o = 3:=by simpa using h3
  rw [hP] at h ⊢
  change (if (o == 3) = true then (Fm.mk o (zb9 (bnd n t) a) v [],(zb9 (bnd n t) a).atomOk) else _:Fm × Bool).2 = true at h
  change (if (o == 3) = true then (Fm.mk o (zb9 (bnd n t) a) v [],(zb9 (bnd n t) a).atomOk) else _:Fm × Bool).1.forms = true
  rw [h3,if_pos rfl] at h ⊢
  have h9:(zb9 (bnd n t) a).atomOk = true:=h
  show (Fm.mk o (zb9 (bnd n t) a) v []).forms = true
  rw [ze2,Qa]
  refine ⟨?_,rfl⟩
  subst ho3
  unfold Fm.here at hh ⊢
  change (decide (ps.length = 0) && a.atomOk && (v == [])) = true at hh
  change (decide (([]:List Fm).length = 0) && (zb9 (bnd n t) a).atomOk && (v == [])) = true
  simp only [Qa] at hh
  rw [h9,hh.2]; rfl
noncomputable def zq8 (f:Fm) (ts:List Tm) (i:Nat) (p:Ex):Bool:=(ts.getD i Tm.zero).good && !((ts.take i).any fun a=>same a (ts.getD i Tm.zero)) && (za5 f.var (ts.getD i Tm.zero) (f.parts.getD 0 (mkF 0 []))).2 && same p.form (za5 f.var (ts.getD i Tm.zero) (f.parts.getD 0 (mkF 0 []))).1
def zcs (f:Fm) (pos:Bool):Bool:=isQ f.op && ((f.op == 8) == pos)
noncomputable def zct:Ex->Bool->Bool:=Ex.fold fun f ts ps rs pos =>
 if isQ f.op = true then decide (ts.length = ps.length) && (!zcs f pos || (decide (ts.length = 1) && zay (ts.getD 0 Tm.zero).name)) && ((ps.zip rs).mapIdx fun i q=>(zq8 f ts i q.1 && q.2 pos)).all id
 else decide (ts.length = 0) && decide (ps.length = f.parts.length) && ((ps.zip rs).mapIdx fun i q=>(same q.1.form (f.parts.getD i (mkF 0 [])) && q.2 (sgn f i pos))).all id
theorem zqp (e:Ex) (pos:Bool):zct e pos = if isQ e.form.op = true then decide (e.terms.length = e.parts.length) && (!zcs e.form pos || (decide (e.terms.length = 1) && zay (e.terms.getD 0 Tm.zero).name)) && (e.parts.mapIdx fun i p=>(zq8 e.form e.terms i p && zct p pos)).all id
 else decide (e.terms.length = 0) && decide (e.parts.length = e.form.parts.length) && (e.parts.mapIdx fun i p=>(same p.form (e.form.parts.getD i (mkF 0 [])) && zct p (sgn e.form i pos))).all id:=by
 cases e with
 | mk f ts ps =>
  conv=>lhs; unfold zct; rw [Ex.fold_eq]
  simp only [zvf]
  rfl
theorem zgb {L:List Bool} {k:Nat} (h:k < L.length) (hf:L[k] = false):L.all id = false:=by
 rw [Jq]; exact ⟨_,Qe h,by simp [hf]⟩
theorem zvl {L:List Bool} (h:∀ k (h:k < L.length),L[k] = true):L.all id = true:=by
 rw [Ql]; intro x hx; obtain ⟨k,hk,rfl⟩:=Jl hx; exact h k hk
theorem zo3 {L:List Bool} {k:Nat} (hT:∀ j,j < k->∀ h:j < L.length,L[j] = true) {hk:k < L.length} (h1:L[k] = true):∀ j,j < k + 1->∀ h:j < L.length,L[j] = true:=fun j hj h=>by
 by_cases e:j = k
 ·subst e; exact h1
 ·exact hT j (by omega) h
end
section
set_option maxRecDepth 4000
open Go.RowKit
abbrev zko (p:Ex) (pos:Bool):Prop:=FC Tryz.prog 104 [exD p,bD pos] [bD (zct p pos)]
set_option maxHeartbeats 4000000 in
theorem zz8 (e:Ex) (he:e.wt <= 1048576) (hf:e.form.forms = true) (H:∀ p ∈ e.parts,p.form.forms = true->∀ pos,zko p pos) (pos:Bool):zko e pos:=by
 have hv:=zqp e pos
 have hW:=e.wt_eq
 have hTW:zec e.terms = e.terms.length + (e.terms.map Tm.wt).sum:=rfl
 have HQ:=zl7 e.form
 have hfl:e.form.parts.length <= 1048576:=by have:=e.form.wt_eq; omega
 unfold zko
 cases hq:isQ e.form.op
 ·rw [hq,if_neg (by simp)] at hv
  rw [hq] at HQ
  by_cases hc1:e.terms.length = 0
  ·by_cases hc2:e.parts.length = e.form.parts.length
   ·rw [show decide (e.terms.length = 0) = true by simp [hc1],show decide (e.parts.length = e.form.parts.length) = true by simp [hc2],Qn,Qn] at hv
    have hc3:((e.form.parts.length:Int) != (e.form.parts.length:Int)) = false:=by simp
    have hps:∀ x ∈ e.form.parts,x.forms = true:=by
     rw [Fm.forms_eq,Qa] at hf
     exact Ql.1 hf.2
    generalize hL:(e.parts.mapIdx fun i p=>(same p.form (e.form.parts.getD i (mkF 0 [])) && zct p (sgn e.form i pos))) = L at hv
    have hLl:L.length = e.parts.length:=by rw [<-hL,Jv]
    simp only [exD,zap,fmD,zab e.form] at HQ ⊢
    refine zaj Tryz.call104 Tryz.func104 rfl (by kernel_rfl) (zax (by kernel_rfl)) ?_
    simp -implicitDefEqProofs only[go_sem,Tryz.results104]
    refine callF (HQ) (by simp -implicitDefEqProofs only[go_sem,hc1,hc2,hc3]) ?_
    simp -implicitDefEqProofs only[go_sem,hc1,hc2,hc3]
    refine zae (fun k:Nat=>hd [(1,vT (.bool pos)),(2,.one (.bx 2 0)),(5,.one (.bx 5 0)),(6,vI k)] [(2,[.t (.int .i64 e.form.op),.t (.str e.form.atom.name),.t (tmS e.form.atom.args),.t (.str e.form.var),.t (fmS e.form.parts),.t (tmS e.terms),.t (exS e.parts)]),(5,[.t (.int .i64 e.form.op),.t (.str e.form.atom.name),.t (tmS e.form.atom.args),.t (.str e.form.var),.t (fmS e.form.parts)])] []) (fun k=>k <= e.parts.length /\ ∀ j,j < k->∀ h:j < L.length,L[j] = true) (fun k=>e.parts.length - k) 0 (zac ?_) ⟨Ka _,fun j hj=>by omega⟩ ?_
    ·simp -implicitDefEqProofs only[go_sem]
    ·rintro k ⟨hk,hT⟩
     by_cases hlt:k < e.parts.length
     ·have hkf:k < e.form.parts.length:=by omega
      have hkL:k < L.length:=by omega
      have hLk:L[k] = (same e.parts[k].form e.form.parts[k] && zct e.parts[k] (sgn e.form k pos)):=by
       simp only [<-hL,Kp]
       rw [zdr hkf]
      have HSm:=zo1 e.parts[k].form e.form.parts[k]
      have HPo:=zlt e.form k pos
      have hsg:(pos != (e.form.op == 4 || (e.form.op == 7 && ((k:Int) == 0)))) = sgn e.form k pos:=rfl
      rw [hsg] at HPo
      simp only [fmD,zab e.form.parts[k],zab e.parts[k].form,zab e.form] at HSm HPo
      cases hsm:same e.parts[k].form e.form.parts[k]
      ·rw [hsm,Qj] at hLk
       rw [hsm] at HSm
       rw [hv,zgb hkL hLk]
       simp -implicitDefEqProofs only[go_sem,hc2,hkf]
       refine drawn (by kernel_rfl) ?_
       simp -implicitDefEqProofs only[go_sem,hlt,hkf,zad,zab e.form.parts[k],zap e.parts[k]]
       refine zao (HSm) (by simp -implicitDefEqProofs only[go_sem]) ?_
       simp -implicitDefEqProofs only[go_sem]
       kernel_rfl
      ·rw [hsm,Qn] at hLk
       rw [hsm] at HSm
       have hpf:e.parts[k].form.forms = true:=by rw [zbc.1 hsm]; exact hps _ (Qe hkf)
       have HC:=H e.parts[k] (Qe hlt) hpf (sgn e.form k pos)
       unfold zko at HC
       simp only [exD,zap e.parts[k]] at HC
       cases hb:zct e.parts[k] (sgn e.form k pos)
       ·rw [hb] at hLk HC
        rw [hv,zgb hkL hLk]
        simp -implicitDefEqProofs only[go_sem,hc2,hkf]
        refine drawn (by kernel_rfl) ?_
        simp -implicitDefEqProofs only[go_sem,hlt,hkf,zad,zab e.form.parts[k],zap e.parts[k]]
        refine zao (HSm) (by simp -implicitDefEqProofs only[go_sem,hlt,hkf,hc2,zad,zap e.parts[k]]) ?_
        simp -implicitDefEqProofs only[go_sem,hlt,hkf,hc2,zad,zap e.parts[k]]
        refine zbl (HPo) (by simp -implicitDefEqProofs only[go_sem]) ?_
        simp -implicitDefEqProofs only[go_sem]
        refine zbl (HC) (by simp -implicitDefEqProofs only[go_sem]) ?_
        simp -implicitDefEqProofs only[go_sem]
        kernel_rfl
       ·rw [hb] at hLk HC
        simp -implicitDefEqProofs only[go_sem,hc2,hkf]
        refine drawn (by kernel_rfl) ?_
        simp -implicitDefEqProofs only[go_sem,hlt,hkf,zad,zab e.form.parts[k],zap e.parts[k]]
        refine zao (HSm) (by simp -implicitDefEqProofs only[go_sem,hlt,hkf,hc2,zad,zap e.parts[k]]) ?_
        simp -implicitDefEqProofs only[go_sem,hlt,hkf,hc2,zad,zap e.parts[k]]
        refine zbl (HPo) (by simp -implicitDefEqProofs only[go_sem]) ?_
        simp -implicitDefEqProofs only[go_sem]
        refine zbl (HC) (by simp -implicitDefEqProofs only[go_sem]) ?_
        simp -implicitDefEqProofs only[go_sem]
        refine ⟨by kernel_rfl,k + 1,⟨by omega,zo3 hT hLk⟩,by omega,zac ?_⟩
        simp -implicitDefEqProofs only[go_sem]
        rw [zal (by omega)]
     ·have hkf:¬ k < e.form.parts.length:=by omega
      rw [hv,zvl fun j hj=>hT j (by omega) hj]
      simp -implicitDefEqProofs only[go_sem,hc2,hkf]
   ·rw [show decide (e.parts.length = e.form.parts.length) = false by simp [hc2],Kb,Qj] at hv
    rw [hv]
    have hc3:((e.parts.length:Int) != (e.form.parts.length:Int)) = true:=by rw [bne_iff_ne]; omega
    simp only [exD,zap,fmD,zab e.form] at HQ ⊢
    refine zaj Tryz.call104 Tryz.func104 rfl (by kernel_rfl) (zax (by kernel_rfl)) ?_
    simp -implicitDefEqProofs only[go_sem,Tryz.results104]
    refine callF (HQ) (by simp -implicitDefEqProofs only[go_sem,hc1,hc3]) ?_
    simp -implicitDefEqProofs only[go_sem,hc1,hc3]
  ·rw [show decide (e.terms.length = 0) = false by simp [hc1],Qj,Qj] at hv
   rw [hv]
   have hc1':(0:Int) < (e.terms.length:Int):=by omega
   simp only [exD,zap,fmD,zab e.form] at HQ ⊢
   refine zaj Tryz.call104 Tryz.func104 rfl (by kernel_rfl) (zax (by kernel_rfl)) ?_
   simp -implicitDefEqProofs only[go_sem,Tryz.results104]
   refine callF (HQ) (by simp -implicitDefEqProofs only[go_sem,hc1']) ?_
   simp -implicitDefEqProofs only[go_sem,hc1']
 ·rw [hq,if_pos rfl] at hv
  rw [hq] at HQ
  obtain ⟨q,hp,hqf⟩:=zlh hq hf
  have HSt:=zm7 e.form pos
  have hse:zcs e.form pos = ((e.form.op == 8) == pos):=by unfold zcs; rw [hq,Qn]
  rw [hq,Qn,<-hse] at HSt
  by_cases hlen:e.terms.length = e.parts.length
  ·rw [show decide (e.terms.length = e.parts.length) = true by simp [hlen],Qn] at hv
   have hne:((e.terms.length:Int) != (e.parts.length:Int)) = false:=by rw [hlen]; simp
   generalize hL:(e.parts.mapIdx fun i p=>(zq8 e.form e.terms i p && zct p pos)) = L at hv
   have hLl:L.length = e.parts.length:=by rw [<-hL,Jv]
   simp only [exD,zap,fmD,zab e.form] at HQ HSt ⊢
   cases hst:zcs e.form pos
   ·rw [hst] at hv HSt
    simp only [Jo,Bool.true_or,Qn] at hv
    refine zaj Tryz.call104 Tryz.func104 rfl (by kernel_rfl) (zax (by kernel_rfl)) ?_
    simp -implicitDefEqProofs only[go_sem,Tryz.results104]
    refine callF (HQ) (by simp -implicitDefEqProofs only[go_sem,hne]) ?_
    simp -implicitDefEqProofs only[go_sem,hne]
    refine callF (HSt) (by simp -implicitDefEqProofs only[go_sem]) ?_
    simp -implicitDefEqProofs only[go_sem]
    refine zae (fun k:Nat=>hd [(1,vT (.bool pos)),(2,.one (.bx 2 0)),(5,.one (.bx 5 0)),(7,vI k)] [(2,[.t (.int .i64 e.form.op),.t (.str e.form.atom.name),.t (tmS e.form.atom.args),.t (.str e.form.var),.t (fmS e.form.parts),.t (tmS e.terms),.t (exS e.parts)]),(5,[.t (.int .i64 e.form.op),.t (.str e.form.atom.name),.t (tmS e.form.atom.args),.t (.str e.form.var),.t (fmS e.form.parts)])] []) (fun k=>k <= e.parts.length /\ ∀ j,j < k->∀ h:j < L.length,L[j] = true) (fun k=>e.parts.length - k) 0 (zac ?_) ⟨Ka _,fun j hj=>by omega⟩ ?_
    ·simp -implicitDefEqProofs only[go_sem]
    ·rintro k ⟨hk,hT⟩
     by_cases hlt:k < e.parts.length
     ·have hkt:k < e.terms.length:=by omega
      have hkL:k < L.length:=by omega
      have htw:e.terms[k].wt + e.form.wt <= 1048576:=by have:=zbo Tm.wt e.terms _ (Qe hkt); omega
      have hqw:q.wt <= e.form.wt:=zbt (by rw [hp]; simp)
      have htk:zq8 e.form e.terms k e.parts[k] = (e.terms[k].good && !((e.terms.take k).any fun a=>same a e.terms[k]) && (za5 e.form.var e.terms[k] q).2 && same e.parts[k].form (za5 e.form.var e.terms[k] q).1):=by
       unfold zq8
       rw [zdr hkt,hp]
       rfl
      have hLk:L[k] = (e.terms[k].good && !((e.terms.take k).any fun a=>same a e.terms[k]) && (za5 e.form.var e.terms[k] q).2 && same e.parts[k].form (za5 e.form.var e.terms[k] q).1 && zct e.parts[k] pos):=by
       simp only [<-hL,Kp]
       rw [htk]
      have HV:=zk6 e.terms[k] (by omega)
      have HI:=zjr (e.terms.take k) e.terms[k]
      have hi2:=zu1 (e.terms.take k) fun a=>same a e.terms[k]
      have HPt:=zo9 e.form.var e.terms[k] (by omega) q hqf (by omega) (zl8 (by omega))
      have hpff:=zix e.form.var e.terms[k] q hqf
      generalize (za5 e.form.var e.terms[k] q).1 = R at HPt hLk hpff
      generalize (za5 e.form.var e.terms[k] q).2 = ok at HPt hLk hpff
      have HSm:=zo1 e.parts[k].form R
      have eT:tmS (e.terms.take k) = .sl 2 ((e.terms.map tmC).take k):=by unfold tmS; rw [Yi]
      rw [eT] at HI
      have e0:(List.map fmC e.form.parts).getD 0 [] = fmC q:=by rw [hp]; rfl
      have hp0:e.form.parts.length = 1:=by rw [hp]; rfl
      simp only [tmD,fmD,zaa e.terms[k],zab q,zab R,zab e.parts[k].form] at HV HI HPt HSm
      cases hg:e.terms[k].good
      ·rw [hg] at hLk HV
       simp only [Qj] at hLk
       rw [hv,zgb hkL hLk]
       simp -implicitDefEqProofs only[go_sem,hkt]
       refine drawn (by kernel_rfl) ?_
       simp -implicitDefEqProofs only[go_sem,hkt,zad,zaa e.terms[k]]
       refine zao (HV) (by simp -implicitDefEqProofs only[go_sem]) ?_
       simp -implicitDefEqProofs only[go_sem]
       kernel_rfl
      ·rw [hg] at HV
       cases hi:(e.terms.take k).any fun a=>same a e.terms[k]
       ·rw [hi] at hi2
        cases hok:ok
        ·rw [hg,hi,hok] at hLk
         simp only [Kb,Qj] at hLk
         rw [hv,zgb hkL hLk]
         rw [hok] at HPt
         simp -implicitDefEqProofs only[go_sem,hkt]
         refine drawn (by kernel_rfl) ?_
         simp -implicitDefEqProofs only[go_sem,hkt,zad,zaa e.terms[k]]
         refine zao (HV) (by simp -implicitDefEqProofs only[go_sem,hkt,zad,zaa e.terms[k]]) ?_
         simp -implicitDefEqProofs only[go_sem,hkt,zad,zaa e.terms[k]]
         refine ⟨by omega,?_⟩
         refine zbl (HI) (by simp -implicitDefEqProofs only[go_sem,hi2]) ?_
         simp -implicitDefEqProofs only[go_sem,hi2]
         refine ⟨by kernel_rfl,?_⟩
         refine drawn (by kernel_rfl) ?_
         simp -implicitDefEqProofs only[go_sem,hp0,e0,zab q,hkt,zad,zaa e.terms[k]]
         refine zao (HPt) (by simp -implicitDefEqProofs only[go_sem]) ?_
         simp -implicitDefEqProofs only[go_sem]
         refine ⟨by kernel_rfl,?_⟩
         refine drawn (by kernel_rfl) ?_
         simp -implicitDefEqProofs only[go_sem]
         kernel_rfl
        ·rw [hok] at HPt
         cases hsm:same e.parts[k].form R
         ·rw [hg,hi,hok,hsm] at hLk
          simp only [Kb,Qj] at hLk
          rw [hv,zgb hkL hLk]
          rw [hsm] at HSm
          simp -implicitDefEqProofs only[go_sem,hkt]
          refine drawn (by kernel_rfl) ?_
          simp -implicitDefEqProofs only[go_sem,hkt,zad,zaa e.terms[k]]
          refine zao (HV) (by simp -implicitDefEqProofs only[go_sem,hkt,zad,zaa e.terms[k]]) ?_
          simp -implicitDefEqProofs only[go_sem,hkt,zad,zaa e.terms[k]]
          refine ⟨by omega,?_⟩
          refine zbl (HI) (by simp -implicitDefEqProofs only[go_sem,hi2]) ?_
          simp -implicitDefEqProofs only[go_sem,hi2]
          refine ⟨by kernel_rfl,?_⟩
          refine drawn (by kernel_rfl) ?_
          simp -implicitDefEqProofs only[go_sem,hp0,e0,zab q,hkt,zad,zaa e.terms[k]]
          refine zao (HPt) (by simp -implicitDefEqProofs only[go_sem]) ?_
          simp -implicitDefEqProofs only[go_sem]
          refine ⟨by kernel_rfl,?_⟩
          refine drawn (by kernel_rfl) ?_
          simp -implicitDefEqProofs only[go_sem,hlt,zad,zap e.parts[k]]
          refine zbl (HSm) (by simp -implicitDefEqProofs only[go_sem]) ?_
          simp -implicitDefEqProofs only[go_sem]
          kernel_rfl
         ·have hpf:e.parts[k].form.forms = true:=by rw [zbc.1 hsm]; exact hpff hok
          have HC:=H e.parts[k] (Qe hlt) hpf pos
          unfold zko at HC
          simp only [exD,zap e.parts[k]] at HC
          rw [hg,hi,hok,hsm] at hLk
          simp only [Jo,Yb,Qn] at hLk
          rw [hsm] at HSm
          cases hb:zct e.parts[k] pos
          ·rw [hb] at hLk HC
           rw [hv,zgb hkL hLk]
           simp -implicitDefEqProofs only[go_sem,hkt]
           refine drawn (by kernel_rfl) ?_
           simp -implicitDefEqProofs only[go_sem,hkt,zad,zaa e.terms[k]]
           refine zao (HV) (by simp -implicitDefEqProofs only[go_sem,hkt,zad,zaa e.terms[k]]) ?_
           simp -implicitDefEqProofs only[go_sem,hkt,zad,zaa e.terms[k]]
           refine ⟨by omega,?_⟩
           refine zbl (HI) (by simp -implicitDefEqProofs only[go_sem,hi2]) ?_
           simp -implicitDefEqProofs only[go_sem,hi2]
           refine ⟨by kernel_rfl,?_⟩
           refine drawn (by kernel_rfl) ?_
           simp -implicitDefEqProofs only[go_sem,hp0,e0,zab q,hkt,zad,zaa e.terms[k]]
           refine zao (HPt) (by simp -implicitDefEqProofs only[go_sem]) ?_
           simp -implicitDefEqProofs only[go_sem]
           refine ⟨by kernel_rfl,?_⟩
           refine drawn (by kernel_rfl) ?_
           simp -implicitDefEqProofs only[go_sem,hlt,zad,zap e.parts[k]]
           refine zbl (HSm) (by simp -implicitDefEqProofs only[go_sem,hlt,zad,zap e.parts[k]]) ?_
           simp -implicitDefEqProofs only[go_sem,hlt,zad,zap e.parts[k]]
           refine zbl (HC) (by simp -implicitDefEqProofs only[go_sem]) ?_
           simp -implicitDefEqProofs only[go_sem]
           kernel_rfl
          ·rw [hb] at hLk HC
           simp -implicitDefEqProofs only[go_sem,hkt]
           refine drawn (by kernel_rfl) ?_
           simp -implicitDefEqProofs only[go_sem,hkt,zad,zaa e.terms[k]]
           refine zao (HV) (by simp -implicitDefEqProofs only[go_sem,hkt,zad,zaa e.terms[k]]) ?_
           simp -implicitDefEqProofs only[go_sem,hkt,zad,zaa e.terms[k]]
           refine ⟨by omega,?_⟩
           refine zbl (HI) (by simp -implicitDefEqProofs only[go_sem,hi2]) ?_
           simp -implicitDefEqProofs only[go_sem,hi2]
           refine ⟨by kernel_rfl,?_⟩
           refine drawn (by kernel_rfl) ?_
           simp -implicitDefEqProofs only[go_sem,hp0,e0,zab q,hkt,zad,zaa e.terms[k]]
           refine zao (HPt) (by simp -implicitDefEqProofs only[go_sem]) ?_
           simp -implicitDefEqProofs only[go_sem]
           refine ⟨by kernel_rfl,?_⟩
           refine drawn (by kernel_rfl) ?_
           simp -implicitDefEqProofs only[go_sem,hlt,zad,zap e.parts[k]]
           refine zbl (HSm) (by simp -implicitDefEqProofs only[go_sem,hlt,zad,zap e.parts[k]]) ?_
           simp -implicitDefEqProofs only[go_sem,hlt,zad,zap e.parts[k]]
           refine zbl (HC) (by simp -implicitDefEqProofs only[go_sem]) ?_
           simp -implicitDefEqProofs only[go_sem]
           refine ⟨by kernel_rfl,k + 1,⟨by omega,zo3 hT hLk⟩,by omega,zac ?_⟩
           simp -implicitDefEqProofs only[go_sem]
           rw [zal (by omega)]
       ·rw [hg,hi] at hLk
        rw [hi] at hi2
        simp only [J1,Kb,Qj] at hLk
        rw [hv,zgb hkL hLk]
        simp -implicitDefEqProofs only[go_sem,hkt]
        refine drawn (by kernel_rfl) ?_
        simp -implicitDefEqProofs only[go_sem,hkt,zad,zaa e.terms[k]]
        refine zao (HV) (by simp -implicitDefEqProofs only[go_sem,hkt,zad,zaa e.terms[k]]) ?_
        simp -implicitDefEqProofs only[go_sem,hkt,zad,zaa e.terms[k]]
        refine ⟨by omega,?_⟩
        refine zbl (HI) (by simp -implicitDefEqProofs only[go_sem,hi2]) ?_
        simp -implicitDefEqProofs only[go_sem,hi2]
        kernel_rfl
     ·have hkt:¬ k < e.terms.length:=by omega
      rw [hv,zvl fun j hj=>hT j (by omega) hj]
      simp -implicitDefEqProofs only[go_sem,hkt]
   ·rw [hst] at hv HSt
    simp only [J1,Jc] at hv
    by_cases h1:e.terms.length = 1
    ·obtain ⟨t,ht⟩:=Jp.1 h1
     have hgd:e.terms.getD 0 Tm.zero = t:=by rw [ht]; rfl
     rw [show decide (e.terms.length = 1) = true by simp [h1],hgd,Qn] at hv
     have HVr:=zjx t.name
     have e0:(List.map tmC e.terms).getD 0 [] = tmC t:=by rw [ht]; rfl
     have h1p:e.parts.length = 1:=by omega
     have hne1:((1:Int) != (e.parts.length:Int)) = false:=by rw [h1p]; rfl
     cases hvv:zay t.name
     ·rw [hvv,Qj] at hv
      rw [hvv] at HVr
      rw [hv]
      refine zaj Tryz.call104 Tryz.func104 rfl (by kernel_rfl) (zax (by kernel_rfl)) ?_
      simp -implicitDefEqProofs only[go_sem,Tryz.results104]
      refine callF (HQ) (by simp -implicitDefEqProofs only[go_sem,h1,h1p,hne1]) ?_
      simp -implicitDefEqProofs only[go_sem,h1,h1p,hne1]
      refine callF (HSt) (by simp -implicitDefEqProofs only[go_sem,h1,h1p,e0,zaa t]) ?_
      simp -implicitDefEqProofs only[go_sem,h1,h1p,e0,zaa t]
      refine callF (HVr) (by simp -implicitDefEqProofs only[go_sem]) ?_
      simp -implicitDefEqProofs only[go_sem]
     ·rw [hvv,Qn] at hv
      rw [hvv] at HVr
      refine zaj Tryz.call104 Tryz.func104 rfl (by kernel_rfl) (zax (by kernel_rfl)) ?_
      simp -implicitDefEqProofs only[go_sem,Tryz.results104]
      refine callF (HQ) (by simp -implicitDefEqProofs only[go_sem,h1,h1p,hne1]) ?_
      simp -implicitDefEqProofs only[go_sem,h1,h1p,hne1]
      refine callF (HSt) (by simp -implicitDefEqProofs only[go_sem,h1,h1p,e0,zaa t]) ?_
      simp -implicitDefEqProofs only[go_sem,h1,h1p,e0,zaa t]
      refine callF (HVr) (by simp -implicitDefEqProofs only[go_sem]) ?_
      simp -implicitDefEqProofs only[go_sem]
      refine zae (fun k:Nat=>hd [(1,vT (.bool pos)),(2,.one (.bx 2 0)),(5,.one (.bx 5 0)),(7,vI k)] [(2,[.t (.int .i64 e.form.op),.t (.str e.form.atom.name),.t (tmS e.form.atom.args),.t (.str e.form.var),.t (fmS e.form.parts),.t (tmS e.terms),.t (exS e.parts)]),(5,[.t (.int .i64 e.form.op),.t (.str e.form.atom.name),.t (tmS e.form.atom.args),.t (.str e.form.var),.t (fmS e.form.parts)])] []) (fun k=>k <= e.parts.length /\ ∀ j,j < k->∀ h:j < L.length,L[j] = true) (fun k=>e.parts.length - k) 0 (zac ?_) ⟨Ka _,fun j hj=>by omega⟩ ?_
      ·simp -implicitDefEqProofs only[go_sem]
      ·rintro k ⟨hk,hT⟩
       by_cases hlt:k < e.parts.length
       ·have hkt:k < e.terms.length:=by omega
        have hkL:k < L.length:=by omega
        have htw:e.terms[k].wt + e.form.wt <= 1048576:=by have:=zbo Tm.wt e.terms _ (Qe hkt); omega
        have hqw:q.wt <= e.form.wt:=zbt (by rw [hp]; simp)
        have htk:zq8 e.form e.terms k e.parts[k] = (e.terms[k].good && !((e.terms.take k).any fun a=>same a e.terms[k]) && (za5 e.form.var e.terms[k] q).2 && same e.parts[k].form (za5 e.form.var e.terms[k] q).1):=by
         unfold zq8
         rw [zdr hkt,hp]
         rfl
        have hLk:L[k] = (e.terms[k].good && !((e.terms.take k).any fun a=>same a e.terms[k]) && (za5 e.form.var e.terms[k] q).2 && same e.parts[k].form (za5 e.form.var e.terms[k] q).1 && zct e.parts[k] pos):=by
         simp only [<-hL,Kp]
         rw [htk]
        have HV:=zk6 e.terms[k] (by omega)
        have HI:=zjr (e.terms.take k) e.terms[k]
        have hi2:=zu1 (e.terms.take k) fun a=>same a e.terms[k]
        have HPt:=zo9 e.form.var e.terms[k] (by omega) q hqf (by omega) (zl8 (by omega))
        have hpff:=zix e.form.var e.terms[k] q hqf
        generalize (za5 e.form.var e.terms[k] q).1 = R at HPt hLk hpff
        generalize (za5 e.form.var e.terms[k] q).2 = ok at HPt hLk hpff
        have HSm:=zo1 e.parts[k].form R
        have eT:tmS (e.terms.take k) = .sl 2 ((e.terms.map tmC).take k):=by unfold tmS; rw [Yi]
        rw [eT] at HI
        have e0:(List.map fmC e.form.parts).getD 0 [] = fmC q:=by rw [hp]; rfl
        have hp0:e.form.parts.length = 1:=by rw [hp]; rfl
        simp only [tmD,fmD,zaa e.terms[k],zab q,zab R,zab e.parts[k].form] at HV HI HPt HSm
        cases hg:e.terms[k].good
        ·rw [hg] at hLk HV
         simp only [Qj] at hLk
         rw [hv,zgb hkL hLk]
         simp -implicitDefEqProofs only[go_sem,hkt]
         refine drawn (by kernel_rfl) ?_
         simp -implicitDefEqProofs only[go_sem,hkt,zad,zaa e.terms[k]]
         refine zao (HV) (by simp -implicitDefEqProofs only[go_sem]) ?_
         simp -implicitDefEqProofs only[go_sem]
         kernel_rfl
        ·rw [hg] at HV
         cases hi:(e.terms.take k).any fun a=>same a e.terms[k]
         ·rw [hi] at hi2
          cases hok:ok
          ·rw [hg,hi,hok] at hLk
           simp only [Kb,Qj] at hLk
           rw [hv,zgb hkL hLk]
           rw [hok] at HPt
           simp -implicitDefEqProofs only[go_sem,hkt]
           refine drawn (by kernel_rfl) ?_
           simp -implicitDefEqProofs only[go_sem,hkt,zad,zaa e.terms[k]]
           refine zao (HV) (by simp -implicitDefEqProofs only[go_sem,hkt,zad,zaa e.terms[k]]) ?_
           simp -implicitDefEqProofs only[go_sem,hkt,zad,zaa e.terms[k]]
           refine ⟨by omega,?_⟩
           refine zbl (HI) (by simp -implicitDefEqProofs only[go_sem,hi2]) ?_
           simp -implicitDefEqProofs only[go_sem,hi2]
           refine ⟨by kernel_rfl,?_⟩
           refine drawn (by kernel_rfl) ?_
           simp -implicitDefEqProofs only[go_sem,hp0,e0,zab q,hkt,zad,zaa e.terms[k]]
           refine zao (HPt) (by simp -implicitDefEqProofs only[go_sem]) ?_
           simp -implicitDefEqProofs only[go_sem]
           refine ⟨by kernel_rfl,?_⟩
           refine drawn (by kernel_rfl) ?_
           simp -implicitDefEqProofs only[go_sem]
           kernel_rfl
          ·rw [hok] at HPt
           cases hsm:same e.parts[k].form R
           ·rw [hg,hi,hok,hsm] at hLk
            simp only [Kb,Qj] at hLk
            rw [hv,zgb hkL hLk]
            rw [hsm] at HSm
            simp -implicitDefEqProofs only[go_sem,hkt]
            refine drawn (by kernel_rfl) ?_
            simp -implicitDefEqProofs only[go_sem,hkt,zad,zaa e.terms[k]]
            refine zao (HV) (by simp -implicitDefEqProofs only[go_sem,hkt,zad,zaa e.terms[k]]) ?_
            simp -implicitDefEqProofs only[go_sem,hkt,zad,zaa e.terms[k]]
            refine ⟨by omega,?_⟩
            refine zbl (HI) (by simp -implicitDefEqProofs only[go_sem,hi2]) ?_
            simp -implicitDefEqProofs only[go_sem,hi2]
            refine ⟨by kernel_rfl,?_⟩
            refine drawn (by kernel_rfl) ?_
            simp -implicitDefEqProofs only[go_sem,hp0,e0,zab q,hkt,zad,zaa e.terms[k]]
            refine zao (HPt) (by simp -implicitDefEqProofs only[go_sem]) ?_
            simp -implicitDefEqProofs only[go_sem]
            refine ⟨by kernel_rfl,?_⟩
            refine drawn (by kernel_rfl) ?_
            simp -implicitDefEqProofs only[go_sem,hlt,zad,zap e.parts[k]]
            refine zbl (HSm) (by simp -implicitDefEqProofs only[go_sem]) ?_
            simp -implicitDefEqProofs only[go_sem]
            kernel_rfl
           ·have hpf:e.parts[k].form.forms = true:=by rw [zbc.1 hsm]; exact hpff hok
            have HC:=H e.parts[k] (Qe hlt) hpf pos
            unfold zko at HC
            simp only [exD,zap e.parts[k]] at HC
            rw [hg,hi,hok,hsm] at hLk
            simp only [Jo,Yb,Qn] at hLk
            rw [hsm] at HSm
            cases hb:zct e.parts[k] pos
            ·rw [hb] at hLk HC
             rw [hv,zgb hkL hLk]
             simp -implicitDefEqProofs only[go_sem,hkt]
             refine drawn (by kernel_rfl) ?_
             simp -implicitDefEqProofs only[go_sem,hkt,zad,zaa e.terms[k]]
             refine zao (HV) (by simp -implicitDefEqProofs only[go_sem,hkt,zad,zaa e.terms[k]]) ?_
             simp -implicitDefEqProofs only[go_sem,hkt,zad,zaa e.terms[k]]
             refine ⟨by omega,?_⟩
             refine zbl (HI) (by simp -implicitDefEqProofs only[go_sem,hi2]) ?_
             simp -implicitDefEqProofs only[go_sem,hi2]
             refine ⟨by kernel_rfl,?_⟩
             refine drawn (by kernel_rfl) ?_
             simp -implicitDefEqProofs only[go_sem,hp0,e0,zab q,hkt,zad,zaa e.terms[k]]
             refine zao (HPt) (by simp -implicitDefEqProofs only[go_sem]) ?_
             simp -implicitDefEqProofs only[go_sem]
             refine ⟨by kernel_rfl,?_⟩
             refine drawn (by kernel_rfl) ?_
             simp -implicitDefEqProofs only[go_sem,hlt,zad,zap e.parts[k]]
             refine zbl (HSm) (by simp -implicitDefEqProofs only[go_sem,hlt,zad,zap e.parts[k]]) ?_
             simp -implicitDefEqProofs only[go_sem,hlt,zad,zap e.parts[k]]
             refine zbl (HC) (by simp -implicitDefEqProofs only[go_sem]) ?_
             simp -implicitDefEqProofs only[go_sem]
             kernel_rfl
            ·rw [hb] at hLk HC
             simp -implicitDefEqProofs only[go_sem,hkt]
             refine drawn (by kernel_rfl) ?_
             simp -implicitDefEqProofs only[go_sem,hkt,zad,zaa e.terms[k]]
             refine zao (HV) (by simp -implicitDefEqProofs only[go_sem,hkt,zad,zaa e.terms[k]]) ?_
             simp -implicitDefEqProofs only[go_sem,hkt,zad,zaa e.terms[k]]
             refine ⟨by omega,?_⟩
             refine zbl (HI) (by simp -implicitDefEqProofs only[go_sem,hi2]) ?_
             simp -implicitDefEqProofs only[go_sem,hi2]
             refine ⟨by kernel_rfl,?_⟩
             refine drawn (by kernel_rfl) ?_
             simp -implicitDefEqProofs only[go_sem,hp0,e0,zab q,hkt,zad,zaa e.terms[k]]
             refine zao (HPt) (by simp -implicitDefEqProofs only[go_sem]) ?_
             simp -implicitDefEqProofs only[go_sem]
             refine ⟨by kernel_rfl,?_⟩
             refine drawn (by kernel_rfl) ?_
             simp -implicitDefEqProofs only[go_sem,hlt,zad,zap e.parts[k]]
             refine zbl (HSm) (by simp -implicitDefEqProofs only[go_sem,hlt,zad,zap e.parts[k]]) ?_
             simp -implicitDefEqProofs only[go_sem,hlt,zad,zap e.parts[k]]
             refine zbl (HC) (by simp -implicitDefEqProofs only[go_sem]) ?_
             simp -implicitDefEqProofs only[go_sem]
             refine ⟨by kernel_rfl,k + 1,⟨by omega,zo3 hT hLk⟩,by omega,zac ?_⟩
             simp -implicitDefEqProofs only[go_sem]
             rw [zal (by omega)]
         ·rw [hg,hi] at hLk
          rw [hi] at hi2
          simp only [J1,Kb,Qj] at hLk
          rw [hv,zgb hkL hLk]
          simp -implicitDefEqProofs only[go_sem,hkt]
          refine drawn (by kernel_rfl) ?_
          simp -implicitDefEqProofs only[go_sem,hkt,zad,zaa e.terms[k]]
          refine zao (HV) (by simp -implicitDefEqProofs only[go_sem,hkt,zad,zaa e.terms[k]]) ?_
          simp -implicitDefEqProofs only[go_sem,hkt,zad,zaa e.terms[k]]
          refine ⟨by omega,?_⟩
          refine zbl (HI) (by simp -implicitDefEqProofs only[go_sem,hi2]) ?_
          simp -implicitDefEqProofs only[go_sem,hi2]
          kernel_rfl
       ·have hkt:¬ k < e.terms.length:=by omega
        rw [hv,zvl fun j hj=>hT j (by omega) hj]
        simp -implicitDefEqProofs only[go_sem,hkt]
    ·rw [show decide (e.terms.length = 1) = false by simp [h1],Qj,Qj] at hv
     rw [hv]
     have hn1:((e.terms.length:Int) != 1) = true:=by rw [bne_iff_ne]; omega
     refine zaj Tryz.call104 Tryz.func104 rfl (by kernel_rfl) (zax (by kernel_rfl)) ?_
     simp -implicitDefEqProofs only[go_sem,Tryz.results104]
     refine callF (HQ) (by simp -implicitDefEqProofs only[go_sem,hne]) ?_
     simp -implicitDefEqProofs only[go_sem,hne]
     refine callF (HSt) (by simp -implicitDefEqProofs only[go_sem,hn1]) ?_
     simp -implicitDefEqProofs only[go_sem,hn1]
  ·rw [show decide (e.terms.length = e.parts.length) = false by simp [hlen],Qj,Qj] at hv
   rw [hv]
   have hne:((e.terms.length:Int) != (e.parts.length:Int)) = true:=by rw [bne_iff_ne]; omega
   simp only [exD,zap,fmD,zab e.form] at HQ ⊢
   refine zaj Tryz.call104 Tryz.func104 rfl (by kernel_rfl) (zax (by kernel_rfl)) ?_
   simp -implicitDefEqProofs only[go_sem,Tryz.results104]
   refine callF (HQ) (by simp -implicitDefEqProofs only[go_sem,hne]) ?_
   simp -implicitDefEqProofs only[go_sem,hne]
end
section
set_option maxRecDepth 4000
open Go.RowKit
def zbn:Ex->Bool->List Str:=Ex.fold fun f ts ps rs pos=>(if zcs f pos = true then [(ts.getD 0 Tm.zero).name] else []) ++ ((ps.zip rs).mapIdx fun i q=>q.2 (sgn f i pos)).flatten
theorem zm2 (e:Ex) (pos:Bool):zbn e pos = (if zcs e.form pos = true then [(e.terms.getD 0 Tm.zero).name] else []) ++ (e.parts.mapIdx fun i p=>zbn p (sgn e.form i pos)).flatten:=by
 cases e with
 | mk f ts ps =>
  conv=>lhs; unfold zbn; rw [Ex.fold_eq]
  simp only [zvf]
  rfl
theorem sgn_q {f:Fm} (h:isQ f.op = true) (i:Nat) (pos:Bool):sgn f i pos = pos:=by
 have h8:f.op = 8 \/ f.op = 9:=by unfold isQ at h; rw [Ji,Ki,Ki] at h; exact h
 unfold sgn
 rcases h8 with e | e <;> rw [e] <;> cases pos <;> rfl
theorem znp (w:Nat->Nat):∀ (l:List (List Str)) (j:Nat),(∀ i (h:i < l.length),l[i].length <= w (j + i))->l.flatten.length <= ((List.range l.length).map fun i=>w (j + i)).sum
 | [],_,_=>by simp
 | x :: l,j,h=>by
  have h0:=h 0 (by simp)
  rw [Jz] at h0
  have h0:x.length <= w j:=h0
  have ih:=znp w l (j + 1) fun i hi=>by
   have:=h (i + 1) (by simpa using hi)
   rw [show j + 1 + i = j + (i + 1) by omega]
   simpa using this
  have e:((List.range (x :: l).length).map fun i=>w (j + i)).sum = w j + ((List.range l.length).map fun i=>w (j + 1 + i)).sum:=by
   rw [Qm,List.range_succ_eq_map,Qi,Q3,Ke]
   congr 2
   refine Q6 fun i _=>?_
   show w (j + (i + 1)) = _
   rw [show j + (i + 1) = j + 1 + i by omega]
  rw [e,Q9,Qr]
  omega
theorem zoq:∀ (e:Ex) (pos:Bool),(zbn e pos).length <= e.nodes:=zd8 fun f ts ps ih pos=>by
 rw [zm2,Ex.nodes_eq]
 have hr:=zsx ps
 have key:=znp (fun i=>(ps.getD i (.mk (mkF 0 []) [] [])).nodes) (ps.mapIdx fun i p=>zbn p (sgn f i pos)) 0 fun i h=>by
  have hi:i < ps.length:=by simpa using h
  have:=ih ps[i] (Qe hi) (sgn f i pos)
  simp only [Kp,Q4]
  rw [List.getD_eq_getElem?_getD,List.getElem?_eq_getElem hi]
  exact this
 simp only [Jv,Q4] at key
 rw [hr] at key
 show ((if zcs f pos = true then [(ts.getD 0 Tm.zero).name] else []) ++ (ps.mapIdx fun i p=>zbn p (sgn f i pos)).flatten).length <= 1 + (ps.map Ex.nodes).sum
 rw [Qr]
 split
 ·rw [Js]; omega
 ·rw [Qv]; omega
theorem zt9 {e:Ex} {pos:Bool} (h:zct e pos = true):(∀ i (hi:i < e.parts.length),zct e.parts[i] (sgn e.form i pos) = true) /\ (zcs e.form pos = true->e.terms.length = 1):=by
 rw [zqp] at h
 cases hq:isQ e.form.op
 ·rw [hq,if_neg (by simp),Qa,Ql] at h
  refine ⟨fun i hi=>?_,fun hs=>by unfold zcs at hs; rw [hq] at hs; cases hs⟩
  have:=h.2 _ (Qe (l:=e.parts.mapIdx fun i p=>(same p.form (e.form.parts.getD i (mkF 0 [])) && zct p (sgn e.form i pos))) (n:=i) (by simpa using hi))
  simp only [Kp,id,Qa] at this
  exact this.2
 ·rw [hq,if_pos rfl,Qa,Qa,Ql] at h
  refine ⟨fun i hi=>?_,fun hs=>?_⟩
  ·have:=h.2 _ (Qe (l:=e.parts.mapIdx fun i p=>(zq8 e.form e.terms i p && zct p pos)) (n:=i) (by simpa using hi))
   simp only [Kp,id,Qa] at this
   rw [sgn_q hq]; exact this.2
  ·have:=h.1.2
   rw [hs] at this
   simp only [J1,Jc,Qa,Qg] at this
   exact this.1
theorem zwb (e:Ex) (he:e.wt <= 1048576) (pos:Bool) (hn:zct e pos = true) (H:∀ p ∈ e.parts,∀ pos,zct p pos = true->FC Tryz.prog 75 [exD p,bD pos] [.one (zca (zbn p pos))]):FC Tryz.prog 75 [exD e,bD pos] [.one (zca (zbn e pos))]:=by
 have hv:=zm2 e pos
 have hW:=e.wt_eq
 have hln:=zoq e pos
 have hen:=zg8 e
 have HSt:=zm7 e.form pos
 have hse:(isQ e.form.op && ((e.form.op == 8) == pos)) = zcs e.form pos:=rfl
 rw [hse] at HSt
 obtain ⟨hpts,hst1⟩:=zt9 hn
 rw [hv]
 rw [hv] at hln
 generalize hL:(e.parts.mapIdx fun i p=>zbn p (sgn e.form i pos)) = L at hv hln ⊢
 have hLl:L.length = e.parts.length:=by rw [<-hL,Jv]
 have hLf:L.flatten.length <= e.nodes:=by rw [Qr] at hln; omega
 have hgrow:∀ k,((L.take k).flatten).length <= L.flatten.length:=fun k=>by
  have:=congrArg (fun l=>l.flatten.length) (K7 k L)
  simp only [Jd,Qr] at this
  omega
 simp only [exD,zap,fmD,zab e.form] at HSt ⊢
 cases hst:zcs e.form pos
 ·rw [hst] at HSt hln
  rw [hst] at hv
  refine zaj Tryz.call75 Tryz.func75 rfl (by kernel_rfl) (zax (by kernel_rfl)) ?_
  simp -implicitDefEqProofs only[go_sem,Tryz.results75]
  refine zbx (by simp -implicitDefEqProofs only[go_sem]) ?_
  simp -implicitDefEqProofs only[go_sem]
  refine callF (HSt) (by simp -implicitDefEqProofs only[go_sem]) ?_
  simp -implicitDefEqProofs only[go_sem]
  refine zae (fun k:Nat=>hd [(1,vT (.bool pos)),(2,.one (.bx 2 0)),(5,.one (.ow 224 0)),(6,vI k)] [(2,[.t (.int .i64 e.form.op),.t (.str e.form.atom.name),.t (tmS e.form.atom.args),.t (.str e.form.var),.t (fmS e.form.parts),.t (tmS e.terms),.t (exS e.parts)])] [(224,⟨true,1,(([]:List Str) ++ (L.take k).flatten).map fun s=>[.str s],0,true⟩)]) (fun k=>k <= e.parts.length) (fun k=>e.parts.length - k) 0 (zac ?_) (Ka _) ?_
  ·simp -implicitDefEqProofs only[go_sem]
  ·intro k hk
   by_cases hlt:k < e.parts.length
   ·have HPo:=zlt e.form k pos
    have hsg:(pos != (e.form.op == 4 || (e.form.op == 7 && ((k:Int) == 0)))) = sgn e.form k pos:=rfl
    rw [hsg] at HPo
    have HC:=H e.parts[k] (Qe hlt) (sgn e.form k pos) (hpts k hlt)
    have hgk:=hgrow k
    have hLk:L[k]'(by omega) = zbn e.parts[k] (sgn e.form k pos):=by simp only [<-hL,Kp]
    simp only [fmD,zab e.form,exD,zap e.parts[k]] at HPo HC
    have hg2:=hgrow (k + 1)
    have e9:(L.take (k + 1)).flatten = (L.take k).flatten ++ zbn e.parts[k] (sgn e.form k pos):=by
     rw [Qf (by omega),Jd,hLk]; simp
    rw [e9,Qr] at hg2
    have hap:(L.take k).flatten.length + (zbn e.parts[k] (sgn e.form k pos)).length <= 4294967296:=by omega
    have hap2:(L.take k).flatten.length + 1 + (zbn e.parts[k] (sgn e.form k pos)).length <= 4294967296:=by omega
    simp -implicitDefEqProofs only[go_sem,hlt]
    refine drawn (by kernel_rfl) ?_
    simp -implicitDefEqProofs only[go_sem,hlt,zad,zap e.parts[k]]
    refine zao (HPo) (by simp -implicitDefEqProofs only[go_sem]) ?_
    simp -implicitDefEqProofs only[go_sem]
    refine zao (HC) (by simp -implicitDefEqProofs only[go_sem]) ?_
    simp -implicitDefEqProofs only[go_sem]
    refine zj0 true (by simp -implicitDefEqProofs only[go_sem,ne_eq,Qb,hap,hap2]) ?_
    simp -implicitDefEqProofs only[go_sem,ne_eq,Qb,hap,hap2]
    refine ⟨by kernel_rfl,k + 1,hlt,by omega,zac ?_⟩
    simp -implicitDefEqProofs only[go_sem]
    rw [zal (by omega),e9,Q0]
    exact ⟨rfl,rfl⟩
   ·have htk:(L.take k) = L:=Qk (by omega)
    simp -implicitDefEqProofs only[go_sem,hlt,htk]
 ·rw [hst] at HSt hln
  rw [hst] at hv
  obtain ⟨t,ht⟩:=Jp.1 (hst1 hst)
  have h1:e.terms.length = 1:=hst1 hst
  have hgd:e.terms.getD 0 Tm.zero = t:=by rw [ht]; rfl
  have e0:(List.map tmC e.terms).getD 0 [] = tmC t:=by rw [ht]; rfl
  rw [hgd]
  rw [hgd] at hln
  refine zaj Tryz.call75 Tryz.func75 rfl (by kernel_rfl) (zax (by kernel_rfl)) ?_
  simp -implicitDefEqProofs only[go_sem,Tryz.results75]
  refine zbx (by simp -implicitDefEqProofs only[go_sem]) ?_
  simp -implicitDefEqProofs only[go_sem]
  refine callF (HSt) (by simp -implicitDefEqProofs only[go_sem,h1,e0,zaa t]) ?_
  simp -implicitDefEqProofs only[go_sem,h1,e0,zaa t]
  refine zbx (by simp -implicitDefEqProofs only[go_sem]) ?_
  simp -implicitDefEqProofs only[go_sem]
  refine apD true (by simp -implicitDefEqProofs only[go_sem,ne_eq]) ?_
  simp -implicitDefEqProofs only[go_sem,ne_eq]
  refine zae (fun k:Nat=>hd [(1,vT (.bool pos)),(2,.one (.bx 2 0)),(5,.one (.ow 224 0)),(6,vI k)] [(2,[.t (.int .i64 e.form.op),.t (.str e.form.atom.name),.t (tmS e.form.atom.args),.t (.str e.form.var),.t (fmS e.form.parts),.t (tmS e.terms),.t (exS e.parts)])] [(224,⟨true,1,([t.name] ++ (L.take k).flatten).map fun s=>[.str s],0,true⟩)]) (fun k=>k <= e.parts.length) (fun k=>e.parts.length - k) 0 (zac ?_) (Ka _) ?_
  ·simp -implicitDefEqProofs only[go_sem]
  ·intro k hk
   by_cases hlt:k < e.parts.length
   ·have HPo:=zlt e.form k pos
    have hsg:(pos != (e.form.op == 4 || (e.form.op == 7 && ((k:Int) == 0)))) = sgn e.form k pos:=rfl
    rw [hsg] at HPo
    have HC:=H e.parts[k] (Qe hlt) (sgn e.form k pos) (hpts k hlt)
    have hgk:=hgrow k
    have hLk:L[k]'(by omega) = zbn e.parts[k] (sgn e.form k pos):=by simp only [<-hL,Kp]
    simp only [fmD,zab e.form,exD,zap e.parts[k]] at HPo HC
    have hg2:=hgrow (k + 1)
    have e9:(L.take (k + 1)).flatten = (L.take k).flatten ++ zbn e.parts[k] (sgn e.form k pos):=by
     rw [Qf (by omega),Jd,hLk]; simp
    rw [e9,Qr] at hg2
    have hap:(L.take k).flatten.length + (zbn e.parts[k] (sgn e.form k pos)).length <= 4294967296:=by omega
    have hap2:(L.take k).flatten.length + 1 + (zbn e.parts[k] (sgn e.form k pos)).length <= 4294967296:=by omega
    simp -implicitDefEqProofs only[go_sem,hlt]
    refine drawn (by kernel_rfl) ?_
    simp -implicitDefEqProofs only[go_sem,hlt,zad,zap e.parts[k]]
    refine zao (HPo) (by simp -implicitDefEqProofs only[go_sem]) ?_
    simp -implicitDefEqProofs only[go_sem]
    refine zao (HC) (by simp -implicitDefEqProofs only[go_sem]) ?_
    simp -implicitDefEqProofs only[go_sem]
    refine zj0 true (by simp -implicitDefEqProofs only[go_sem,ne_eq,Qb,hap,hap2]) ?_
    simp -implicitDefEqProofs only[go_sem,ne_eq,Qb,hap,hap2]
    refine ⟨by kernel_rfl,k + 1,hlt,by omega,zac ?_⟩
    simp -implicitDefEqProofs only[go_sem]
    rw [zal (by omega),e9,Q0]
    exact ⟨rfl,rfl⟩
   ·have htk:(L.take k) = L:=Qk (by omega)
    simp -implicitDefEqProofs only[go_sem,hlt,htk]
end
section
set_option maxRecDepth 4000
open Go.RowKit
theorem qaj:∀ e:Ex,e.wt <= 1048576->∀ pos,zct e pos = true->FC Tryz.prog 75 [exD e,bD pos] [.one (zca (zbn e pos))] :=
 zd8 fun f ts ps ih he pos hn=>zwb (.mk f ts ps) he pos hn fun p hp pos hn=>ih p hp (Kg (zfe (a:=.mk f ts ps) hp) he) pos hn
theorem qfz:∀ e:Ex,e.wt <= 1048576->e.form.forms = true->∀ pos,zko e pos :=
 zd8 fun f ts ps ih he hf pos=>zz8 (.mk f ts ps) he hf (fun p hp hpf pos=>ih p hp (Kg (zfe (a:=.mk f ts ps) hp) he) hpf pos) pos
noncomputable def zhy (e:Ex) (pos:Bool):Bool:=e.form.good && decide (e.nodes <= 60) && zct e pos && dec ((zbn e pos).Nodup /\ ∀ n ∈ zbn e pos,n ∉ zba [] (vf e.form []))
set_option maxHeartbeats 2000000 in
theorem qe2 (e:Ex) (he:e.wt <= 1048576) (pos:Bool):FC Tryz.prog 42 [exD e,bD pos] [bD (zhy e pos)]:=by
 have hv:zhy e pos = (e.form.good && decide (e.nodes <= 60) && zct e pos && dec ((zbn e pos).Nodup /\ ∀ n ∈ zbn e pos,n ∉ zba [] (vf e.form []))):=rfl
 have HN:=zq9 e (by omega) 60 (by omega) (by omega)
 have hs:decide (zep e 60 <= 60) = decide (e.nodes <= 60):=zx6 e 60
 have hfw:=zo6 e
 have HG:=zhi e.form (by omega)
 simp only [exD,zap,fmD,zab] at HN HG ⊢
 cases hg:e.form.good
 ·rw [hg,Qj,Qj,Qj] at hv
  rw [hv]
  rw [hg] at HG
  refine zaj Tryz.call42 Tryz.func42 rfl (by kernel_rfl) (zax (by kernel_rfl)) ?_
  simp -implicitDefEqProofs only[go_sem,Tryz.results42]
  refine callF (HG) (by simp -implicitDefEqProofs only[go_sem]) ?_
  simp -implicitDefEqProofs only[go_sem]
 ·rw [hg,Qn] at hv
  rw [hg] at HG
  cases hn:decide (e.nodes <= 60)
  ·have hs2:decide (60 < zep e 60) = true:=by rw [hn] at hs; rw [Qg]; rw [Ko] at hs; omega
   rw [hn,Qj,Qj] at hv
   rw [hv]
   refine zaj Tryz.call42 Tryz.func42 rfl (by kernel_rfl) (zax (by kernel_rfl)) ?_
   simp -implicitDefEqProofs only[go_sem,Tryz.results42]
   refine callF (HG) (by simp -implicitDefEqProofs only[go_sem]) ?_
   simp -implicitDefEqProofs only[go_sem]
   refine callF (HN) (by simp -implicitDefEqProofs only[go_sem,hs2]) ?_
   simp -implicitDefEqProofs only[go_sem,hs2]
  ·have hs2:decide (60 < zep e 60) = false:=by rw [hn] at hs; rw [Ko]; rw [Qg] at hs; omega
   rw [hn,Qn] at hv
   have HD:=qfz e he (zbw hg) pos
   unfold zko at HD
   simp only [exD,zap] at HD
   cases hnd:zct e pos
   ·rw [hnd,Qj] at hv
    rw [hv]
    rw [hnd] at HD
    refine zaj Tryz.call42 Tryz.func42 rfl (by kernel_rfl) (zax (by kernel_rfl)) ?_
    simp -implicitDefEqProofs only[go_sem,Tryz.results42]
    refine callF (HG) (by simp -implicitDefEqProofs only[go_sem]) ?_
    simp -implicitDefEqProofs only[go_sem]
    refine callF (HN) (by simp -implicitDefEqProofs only[go_sem,hs2]) ?_
    simp -implicitDefEqProofs only[go_sem,hs2]
    refine callF (HD) (by simp -implicitDefEqProofs only[go_sem]) ?_
    simp -implicitDefEqProofs only[go_sem]
   ·rw [hnd,Qn] at hv
    rw [hnd] at HD
    have HM:=qaj e he pos hnd
    have HF:=zp0 e.form (zbw hg) (by omega)
    have hnl:=zoq e pos
    have hen:=zg8 e
    generalize zbn e pos = ns at hv HM hnl
    generalize zba [] (vf e.form []) = V at hv HF
    simp only [exD,zap,fmD,zab] at HM HF
    refine zcq Tryz.call42 Tryz.func42 rfl (by kernel_rfl) (zax (by kernel_rfl)) ?_
    simp -implicitDefEqProofs only[go_sem,Tryz.results42]
    refine callF (HG) (by simp -implicitDefEqProofs only[go_sem]) ?_
    simp -implicitDefEqProofs only[go_sem]
    refine callF (HN) (by simp -implicitDefEqProofs only[go_sem,hs2]) ?_
    simp -implicitDefEqProofs only[go_sem,hs2]
    refine callF (HD) (by simp -implicitDefEqProofs only[go_sem]) ?_
    simp -implicitDefEqProofs only[go_sem]
    refine zjf (HM) (by simp -implicitDefEqProofs only[go_sem]) ?_
    simp -implicitDefEqProofs only[go_sem]
    refine zjf (HF) (by simp -implicitDefEqProofs only[go_sem]) ?_
    simp -implicitDefEqProofs only[go_sem]
    refine zae (fun k:Nat=>hd [(5,.one (.rn (zca ns))),(6,.one (.rn (zca V))),(7,vI k)] [] []) (fun k=>k <= ns.length /\ (ns.take k).Nodup /\ ∀ n ∈ ns.take k,n ∉ V) (fun k=>ns.length - k) 0 (zac ?_) ⟨Ka _,Km,by simp⟩ ?_
    ·simp -implicitDefEqProofs only[go_sem]
    ·rintro k ⟨hk,hT,hT2⟩
     by_cases hlt:k < ns.length
     ·have H1:=zn0 (ns.take k) ns[k]
      have H2:=zn0 V ns[k]
      have eT:zca (ns.take k) = .sl 1 ((ns.map fun s=>[T.str s]).take k):=by unfold zca; rw [Yi]
      rw [eT] at H1
      cases h1:(ns.take k).contains ns[k]
      ·rw [h1] at H1
       cases h2:V.contains ns[k]
       ·rw [h2] at H2
        simp -implicitDefEqProofs only[go_sem,hlt]
        refine drawn (by kernel_rfl) ?_
        simp -implicitDefEqProofs only[go_sem,zad,hlt]
        refine ⟨hk,?_⟩
        refine zao (H1) (by simp -implicitDefEqProofs only[go_sem,zad,hlt]) ?_
        simp -implicitDefEqProofs only[go_sem,zad,hlt]
        refine zbl (H2) (by simp -implicitDefEqProofs only[go_sem]) ?_
        simp -implicitDefEqProofs only[go_sem]
        refine ⟨by kernel_rfl,k + 1,⟨hlt,?_,?_⟩,by omega,zac ?_⟩
        ·rw [Qf hlt,Q8]
         refine ⟨hT,by simp,?_⟩
         rintro a ha b hb rfl
         rw [Q5] at hb
         subst hb
         rw [Kn.2 ha] at h1
         cases h1
        ·intro n hn
         rw [Qf hlt] at hn
         rcases Qt.1 hn with hn | hn
         ·exact hT2 n hn
         ·rw [Q5] at hn
          subst hn
          intro hm
          rw [Kn.2 hm] at h2
          cases h2
        ·simp -implicitDefEqProofs only[go_sem]
         rw [zal (by omega)]
       ·rw [h2] at H2
        have hbad:dec (ns.Nodup /\ ∀ n ∈ ns,n ∉ V) = false:=zy5.2 fun h=>h.2 _ (Qe hlt) (Kn.1 h2)
        rw [hv,hbad]
        simp -implicitDefEqProofs only[go_sem,hlt]
        refine drawn (by kernel_rfl) ?_
        simp -implicitDefEqProofs only[go_sem,zad,hlt]
        refine ⟨hk,?_⟩
        refine zao (H1) (by simp -implicitDefEqProofs only[go_sem,zad,hlt]) ?_
        simp -implicitDefEqProofs only[go_sem,zad,hlt]
        refine zbl (H2) (by simp -implicitDefEqProofs only[go_sem]) ?_
        simp -implicitDefEqProofs only[go_sem]
        kernel_rfl
      ·rw [h1] at H1
       have hbad:dec (ns.Nodup /\ ∀ n ∈ ns,n ∉ V) = false:=zy5.2 fun h=>by
        have h3:=h.1.sublist (List.take_sublist (k + 1) ns)
        rw [Qf hlt,Q8] at h3
        exact h3.2.2 _ (Kn.1 h1) _ (by simp) rfl
       rw [hv,hbad]
       simp -implicitDefEqProofs only[go_sem,hlt]
       refine drawn (by kernel_rfl) ?_
       simp -implicitDefEqProofs only[go_sem,zad,hlt]
       refine ⟨hk,?_⟩
       refine zao (H1) (by simp -implicitDefEqProofs only[go_sem,zad,hlt]) ?_
       simp -implicitDefEqProofs only[go_sem,zad,hlt]
       kernel_rfl
     ·rw [Qk (by omega)] at hT hT2
      rw [show dec (ns.Nodup /\ ∀ n ∈ ns,n ∉ V) = true from zjt.2 ⟨hT,hT2⟩] at hv
      rw [hv]
      simp -implicitDefEqProofs only[go_sem,hlt]
end
end Go.Proofs.YtliiapbmkcbfaaaGreat
