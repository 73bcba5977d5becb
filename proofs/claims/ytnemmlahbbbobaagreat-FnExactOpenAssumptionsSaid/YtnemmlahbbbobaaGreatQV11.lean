/-
  The walk over plain data, and contracts of functions of the program and of its laws.
  Conditions: those that each theorem names.
-/
import Derived.Test.YtnemmlahbbbobaaGreatQV5
import Derived.Test.YtnemmlahbbbobaaGreatQV8
import Derived.Test.YtnemmlahbbbobaaGreatQV7
import Derived.Test.YtnemmlahbbbobaaGreatQV6
import Derived.Lib.Walk
import Derived.Lib.SliceRun
import Derived.Lib.AppendZeros
import Derived.Test.YtnemmlahbbbobaaGreatQV10
import Derived.Test.YtnemmlahbbbobaaGreatQV9
namespace Go.Proofs.YtnemmlahbbbobaaGreat
set_option linter.unusedSimpArgs false
set_option linter.unusedVariables false
set_option linter.unusedSectionVars false
set_option maxRecDepth 4000
set_option maxHeartbeats 8000000
section
open Go.RowKit
mutual
def zkr:Nt->Nat->Nt×Nat
 | .mk r0 (.mk o0 (.mk n0 s0) v0 p0) l0 (.mk n1 s1) d0,k=>(.mk ((k:Nat):Int) (.mk (((k+1):Nat):Int) (.mk (mtx ((k+1)+1)) (zal s0 (((k+1)+1)+1)).1) (mtx (zal s0 (((k+1)+1)+1)).2) (za1 p0 ((zal s0 (((k+1)+1)+1)).2+1)).1) (((za1 p0 ((zal s0 (((k+1)+1)+1)).2+1)).2:Nat):Int) (.mk (mtx ((za1 p0 ((zal s0 (((k+1)+1)+1)).2+1)).2+1)) (zal s1 (((za1 p0 ((zal s0 (((k+1)+1)+1)).2+1)).2+1)+1)).1) (zd0 d0 (zal s1 (((za1 p0 ((zal s0 (((k+1)+1)+1)).2+1)).2+1)+1)).2).1,(zd0 d0 (zal s1 (((za1 p0 ((zal s0 (((k+1)+1)+1)).2+1)).2+1)+1)).2).2)
def zd0:List Nt->Nat->List Nt×Nat
 | [],k=>([],k)
 | a::xs,k=>((zkr a k).1::(zd0 xs (zkr a k).2).1,(zd0 xs (zkr a k).2).2)
end
mutual
def zkm:Nt->Nat
 | .mk r0 (.mk o0 (.mk n0 s0) v0 p0) l0 (.mk n1 s1) d0=>1+1+1+1+zc7 s0+1+zdf p0+1+1+zc7 s1+zgm d0
def zgm:List Nt->Nat
 | []=>0
 | a::xs=>zkm a+zgm xs
end
mutual
theorem qdy:∀(a:Nt)(k:Nat),k<=(zkr a k).2/\(zkr a k).2<=k+zkm a
 | .mk r0 (.mk o0 (.mk n0 s0) v0 p0) l0 (.mk n1 s1) d0,k=>by have h_s0:=zb1 s0 (((k+1)+1)+1);have h_p0:=zca p0 ((zal s0 (((k+1)+1)+1)).2+1);have h_s1:=zb1 s1 (((za1 p0 ((zal s0 (((k+1)+1)+1)).2+1)).2+1)+1);have h_d0:=zlb d0 (zal s1 (((za1 p0 ((zal s0 (((k+1)+1)+1)).2+1)).2+1)+1)).2;simp only[zkr,zkm];omega
theorem zlb:∀(xs:List Nt)(k:Nat),k<=(zd0 xs k).2/\(zd0 xs k).2<=k+zgm xs
 | [],k=>⟨Qz _,Qz _⟩
 | a::xs,k=>by have h1:=qdy a k;have h2:=zlb xs (zkr a k).2;simp only[zd0,zgm];omega
end
theorem zru:∀xs:List Nt,xs.length<=zgm xs
 | []=>Qz _
 | a::xs=>by
  have:=zru xs;have:1<=zkm a:=by obtain⟨r0,⟨o0,⟨n0,s0⟩,v0,p0⟩,l0,⟨n1,s1⟩,d0⟩:=a;simp only[zkm];omega
  simp only[Qi,zgm];omega
theorem zgr (xs:List Nt)(H:∀a∈xs,∀k:Nat,0<k->k+zgm a.parts<=4611686018427387904->IC Tryz.prog 57 [] (.one (ntS a.parts)) [iD k] (.one (ntS (zd0 a.parts k).1)) [iD (zd0 a.parts k).2]) :
  ∀k:Nat,0<k->k+zgm xs<=4611686018427387904->IC Tryz.prog 57 [] (.one (ntS xs)) [iD k] (.one (ntS (zd0 xs k).1)) [iD (zd0 xs k).2]:=by
 intro k h0 hk
 refine zrz Tryz.call57 Tryz.func57 rfl Yo (by simp only[zdm,rd,Qf,Qo,Kx,Qi,Q4,Tryz.ntmps57];omega) (by simp only[Tryz.ntmps57];omega) (fun vs=>?_)
 simp -implicitDefEqProofs only[go_sem,Tryz.results57,qav,zjm,zdm,PI]
 refine zag (fun(x:List Nt×List Nt×Nat)=>hd [(0,.one (.ow 0 0)),(1000000,.one (.ow 0 0)),(1,vI x.2.2),(5,vI x.1.length)] [] [(0,⟨true,10,x.1.map ntC++zdz vs x.1.length (x.2.1.map ntC),0,true⟩)])
  (fun x=>(zd0 xs k).1=x.1++(zd0 x.2.1 x.2.2).1/\(zd0 xs k).2=(zd0 x.2.1 x.2.2).2/\0<x.2.2/\x.2.2+zgm x.2.1<=4611686018427387904/\x.1.length+x.2.1.length=xs.length/\∀a∈x.2.1,a∈xs) (fun x=>x.2.1.length) ([],xs,k) (zac ?_) ?_ ?_
 ·simp -implicitDefEqProofs only[go_sem]
 ·exact⟨rfl,rfl,h0,hk,by simp,fun _ h=>h⟩
 ·intro ⟨dn,rest,kk⟩ ⟨h1,h2,h3,h4,h6,h5⟩;simp only at h1 h2 h3 h4 h5 h6;cases rest with
  | nil =>
   simp only[zd0,Kh]at h1 h2;simp -implicitDefEqProofs only[go_sem,h1,h2]
  | cons a rest =>
   obtain⟨r0,⟨o0,⟨n0,s0⟩,v0,p0⟩,l0,⟨n1,s1⟩,d0⟩:=a;simp only[zd0,zkr,zgm,zkm]at h1 h2 h4;have hc_s0:=zb1 s0 (((kk+1)+1)+1);have hc_p0:=zca p0 ((zal s0 (((kk+1)+1)+1)).2+1);have hc_s1:=zb1 s1 (((za1 p0 ((zal s0 (((kk+1)+1)+1)).2+1)).2+1)+1);have hc_d0:=zlb d0 (zal s1 (((za1 p0 ((zal s0 (((kk+1)+1)+1)).2+1)).2+1)+1)).2;have w0:IntKind.i64.wrap (((kk:Nat):Int)+1)=((kk+1:Nat):Int):=zap Yp;have w1:IntKind.i64.wrap ((((kk+1):Nat):Int)+1)=(((kk+1)+1:Nat):Int):=zap Yp;have w2:IntKind.i64.wrap (((((kk+1)+1):Nat):Int)+1)=((((kk+1)+1)+1:Nat):Int):=zap Yp;have w3:IntKind.i64.wrap ((((zal s0 (((kk+1)+1)+1)).2:Nat):Int)+1)=(((zal s0 (((kk+1)+1)+1)).2+1:Nat):Int):=zap Yp;have w4:IntKind.i64.wrap ((((za1 p0 ((zal s0 (((kk+1)+1)+1)).2+1)).2:Nat):Int)+1)=(((za1 p0 ((zal s0 (((kk+1)+1)+1)).2+1)).2+1:Nat):Int):=zap Yp;have w5:IntKind.i64.wrap (((((za1 p0 ((zal s0 (((kk+1)+1)+1)).2+1)).2+1):Nat):Int)+1)=((((za1 p0 ((zal s0 (((kk+1)+1)+1)).2+1)).2+1)+1:Nat):Int):=zap Yp;have hln:=zru xs;rw[Qi]at h6;have wl:IntKind.i64.wrap ((dn.length:Int)+1)=((dn.length+1:Nat):Int):=zap Yp;simp -implicitDefEqProofs only[go_sem,zaj (.mk _ _ _ _ _),Nt.rule,Nt.form,Nt.label,Nt.term,Nt.parts,Fm.op,Fm.atom,Fm.var,Fm.parts,Tm.name,Tm.args];refine zdq (by simp -implicitDefEqProofs only[go_sem,implies_true,w0,w1,w2,w3,w4,w5]) ?_;simp -implicitDefEqProofs only[go_sem,implies_true,w0,w1,w2,w3,w4,w5];refine zdq (by simp -implicitDefEqProofs only[go_sem,implies_true,w0,w1,w2,w3,w4,w5]) ?_;simp -implicitDefEqProofs only[go_sem,implies_true,w0,w1,w2,w3,w4,w5];refine callF (zb5 ((kk+1)+1) Yp Yp) (by simp -implicitDefEqProofs only[go_sem,w0,w1,w2,w3,w4,w5]) ?_;simp -implicitDefEqProofs only[go_sem,w0,w1,w2,w3,w4,w5];refine zdq (by simp -implicitDefEqProofs only[go_sem,implies_true,w0,w1,w2,w3,w4,w5]) ?_;simp -implicitDefEqProofs only[go_sem,implies_true,w0,w1,w2,w3,w4,w5];refine callN (l:=[(0,.one (.ow 0 0)),(1000000,.one (.ow 0 0)),(5,vI dn.length),(43,.one (.cv (vs dn.length 3))),(44,vI ((((kk+1)+1)+1):Nat))]) (bl:=[]) (el:=[(0,⟨true,10,dn.map ntC++[.int .i64 ((kk:Nat):Int),.int .i64 (((kk+1):Nat):Int),.str (mtx ((kk+1)+1)),.pin (vs dn.length 3) (tmS s0),.str v0,.pin (vs dn.length 5) (fmS p0),.int .i64 l0,.str n1,.pin (vs dn.length 8) (tmS s1),.pin (vs dn.length 9) (ntS d0)]::zdz vs (dn.length+1) (rest.map ntC),0,true⟩)]) 0 dn.length 3 (zez s0 (((kk+1)+1)+1) Yp Yp) (by simp -implicitDefEqProofs only[go_sem,w0,w1,w2,w3,w4,w5,tmS]) rfl rfl rfl (by simp -implicitDefEqProofs only[go_sem,tmS,Nt.rule,Nt.form,Nt.label,Nt.term,Nt.parts,Fm.op,Fm.atom,Fm.var,Fm.parts,Tm.name,Tm.args]) rfl ?_;simp -implicitDefEqProofs only[go_sem,w0,w1,w2,w3,w4,w5,Nt.rule,Nt.form,Nt.label,Nt.term,Nt.parts,Fm.op,Fm.atom,Fm.var,Fm.parts,Tm.name,Tm.args];refine callF (zb5 (zal s0 (((kk+1)+1)+1)).2 Yp Yp) (by simp -implicitDefEqProofs only[go_sem,w0,w1,w2,w3,w4,w5]) ?_;simp -implicitDefEqProofs only[go_sem,w0,w1,w2,w3,w4,w5];refine zdq (by simp -implicitDefEqProofs only[go_sem,implies_true,w0,w1,w2,w3,w4,w5]) ?_;simp -implicitDefEqProofs only[go_sem,implies_true,w0,w1,w2,w3,w4,w5];refine callN (l:=[(0,.one (.ow 0 0)),(1000000,.one (.ow 0 0)),(5,vI dn.length),(60,.one (.cv (vs dn.length 5))),(61,vI (((zal s0 (((kk+1)+1)+1)).2+1):Nat))]) (bl:=[]) (el:=[(0,⟨true,10,dn.map ntC++[.int .i64 ((kk:Nat):Int),.int .i64 (((kk+1):Nat):Int),.str (mtx ((kk+1)+1)),tmS (zal s0 (((kk+1)+1)+1)).1,.str (mtx (zal s0 (((kk+1)+1)+1)).2),.pin (vs dn.length 5) (fmS p0),.int .i64 l0,.str n1,.pin (vs dn.length 8) (tmS s1),.pin (vs dn.length 9) (ntS d0)]::zdz vs (dn.length+1) (rest.map ntC),0,true⟩)]) 0 dn.length 5 (zc8 p0 ((zal s0 (((kk+1)+1)+1)).2+1) Yp Yp) (by simp -implicitDefEqProofs only[go_sem,w0,w1,w2,w3,w4,w5,fmS]) rfl rfl rfl (by simp -implicitDefEqProofs only[go_sem,fmS,Nt.rule,Nt.form,Nt.label,Nt.term,Nt.parts,Fm.op,Fm.atom,Fm.var,Fm.parts,Tm.name,Tm.args]) rfl ?_;simp -implicitDefEqProofs only[go_sem,w0,w1,w2,w3,w4,w5,Nt.rule,Nt.form,Nt.label,Nt.term,Nt.parts,Fm.op,Fm.atom,Fm.var,Fm.parts,Tm.name,Tm.args];refine zdq (by simp -implicitDefEqProofs only[go_sem,implies_true,w0,w1,w2,w3,w4,w5]) ?_;simp -implicitDefEqProofs only[go_sem,implies_true,w0,w1,w2,w3,w4,w5];refine callF (zb5 ((za1 p0 ((zal s0 (((kk+1)+1)+1)).2+1)).2+1) Yp Yp) (by simp -implicitDefEqProofs only[go_sem,w0,w1,w2,w3,w4,w5]) ?_;simp -implicitDefEqProofs only[go_sem,w0,w1,w2,w3,w4,w5];refine zdq (by simp -implicitDefEqProofs only[go_sem,implies_true,w0,w1,w2,w3,w4,w5]) ?_;simp -implicitDefEqProofs only[go_sem,implies_true,w0,w1,w2,w3,w4,w5];refine callN (l:=[(0,.one (.ow 0 0)),(1000000,.one (.ow 0 0)),(5,vI dn.length),(84,.one (.cv (vs dn.length 8))),(85,vI ((((za1 p0 ((zal s0 (((kk+1)+1)+1)).2+1)).2+1)+1):Nat))]) (bl:=[]) (el:=[(0,⟨true,10,dn.map ntC++[.int .i64 ((kk:Nat):Int),.int .i64 (((kk+1):Nat):Int),.str (mtx ((kk+1)+1)),tmS (zal s0 (((kk+1)+1)+1)).1,.str (mtx (zal s0 (((kk+1)+1)+1)).2),fmS (za1 p0 ((zal s0 (((kk+1)+1)+1)).2+1)).1,.int .i64 (((za1 p0 ((zal s0 (((kk+1)+1)+1)).2+1)).2:Nat):Int),.str (mtx ((za1 p0 ((zal s0 (((kk+1)+1)+1)).2+1)).2+1)),.pin (vs dn.length 8) (tmS s1),.pin (vs dn.length 9) (ntS d0)]::zdz vs (dn.length+1) (rest.map ntC),0,true⟩)]) 0 dn.length 8 (zez s1 (((za1 p0 ((zal s0 (((kk+1)+1)+1)).2+1)).2+1)+1) Yp Yp) (by simp -implicitDefEqProofs only[go_sem,w0,w1,w2,w3,w4,w5,tmS]) rfl rfl rfl (by simp -implicitDefEqProofs only[go_sem,tmS,Nt.rule,Nt.form,Nt.label,Nt.term,Nt.parts,Fm.op,Fm.atom,Fm.var,Fm.parts,Tm.name,Tm.args]) rfl ?_;simp -implicitDefEqProofs only[go_sem,w0,w1,w2,w3,w4,w5,Nt.rule,Nt.form,Nt.label,Nt.term,Nt.parts,Fm.op,Fm.atom,Fm.var,Fm.parts,Tm.name,Tm.args];refine callN (l:=[(0,.one (.ow 0 0)),(1000000,.one (.ow 0 0)),(5,vI dn.length),(91,.one (.cv (vs dn.length 9))),(92,vI ((zal s1 (((za1 p0 ((zal s0 (((kk+1)+1)+1)).2+1)).2+1)+1)).2:Nat))]) (bl:=[]) (el:=[(0,⟨true,10,dn.map ntC++[.int .i64 ((kk:Nat):Int),.int .i64 (((kk+1):Nat):Int),.str (mtx ((kk+1)+1)),tmS (zal s0 (((kk+1)+1)+1)).1,.str (mtx (zal s0 (((kk+1)+1)+1)).2),fmS (za1 p0 ((zal s0 (((kk+1)+1)+1)).2+1)).1,.int .i64 (((za1 p0 ((zal s0 (((kk+1)+1)+1)).2+1)).2:Nat):Int),.str (mtx ((za1 p0 ((zal s0 (((kk+1)+1)+1)).2+1)).2+1)),tmS (zal s1 (((za1 p0 ((zal s0 (((kk+1)+1)+1)).2+1)).2+1)+1)).1,.pin (vs dn.length 9) (ntS d0)]::zdz vs (dn.length+1) (rest.map ntC),0,true⟩)]) 0 dn.length 9 (H (.mk r0 (.mk o0 (.mk n0 s0) v0 p0) l0 (.mk n1 s1) d0) (h5 _ (by simp)) (zal s1 (((za1 p0 ((zal s0 (((kk+1)+1)+1)).2+1)).2+1)+1)).2 Yp (by show(zal s1 (((za1 p0 ((zal s0 (((kk+1)+1)+1)).2+1)).2+1)+1)).2+zgm d0<=_;omega)) (by simp -implicitDefEqProofs only[go_sem,w0,w1,w2,w3,w4,w5,ntS]) rfl rfl rfl (by simp -implicitDefEqProofs only[go_sem,ntS,Nt.rule,Nt.form,Nt.label,Nt.term,Nt.parts,Fm.op,Fm.atom,Fm.var,Fm.parts,Tm.name,Tm.args]) rfl ?_;simp -implicitDefEqProofs only[go_sem,w0,w1,w2,w3,w4,w5,Nt.rule,Nt.form,Nt.label,Nt.term,Nt.parts,Fm.op,Fm.atom,Fm.var,Fm.parts,Tm.name,Tm.args];refine⟨(dn++[.mk ((kk:Nat):Int) (.mk (((kk+1):Nat):Int) (.mk (mtx ((kk+1)+1)) (zal s0 (((kk+1)+1)+1)).1) (mtx (zal s0 (((kk+1)+1)+1)).2) (za1 p0 ((zal s0 (((kk+1)+1)+1)).2+1)).1) (((za1 p0 ((zal s0 (((kk+1)+1)+1)).2+1)).2:Nat):Int) (.mk (mtx ((za1 p0 ((zal s0 (((kk+1)+1)+1)).2+1)).2+1)) (zal s1 (((za1 p0 ((zal s0 (((kk+1)+1)+1)).2+1)).2+1)+1)).1) (zd0 d0 (zal s1 (((za1 p0 ((zal s0 (((kk+1)+1)+1)).2+1)).2+1)+1)).2).1],rest,(zd0 d0 (zal s1 (((za1 p0 ((zal s0 (((kk+1)+1)+1)).2+1)).2+1)+1)).2).2),⟨by simpa using h1,h2,by show 0<(zd0 d0 (zal s1 (((za1 p0 ((zal s0 (((kk+1)+1)+1)).2+1)).2+1)+1)).2).2;omega,by show(zd0 d0 (zal s1 (((za1 p0 ((zal s0 (((kk+1)+1)+1)).2+1)).2+1)+1)).2).2+zgm rest<=_;omega,by simp;omega,fun b hb=>h5 b (by simp[hb])⟩,by simp,zac ?_⟩;simp -implicitDefEqProofs only[go_sem,wl,zaj (.mk _ _ _ _ _),Nt.rule,Nt.form,Nt.label,Nt.term,Nt.parts,Fm.op,Fm.atom,Fm.var,Fm.parts,Tm.name,Tm.args,Q2,Kf]
theorem znj (xs:List Nt)(k:Nat)(h0:0<k)(hk:k+zgm xs<=4611686018427387904):IC Tryz.prog 57 [] (.one (ntS xs)) [iD k] (.one (ntS (zd0 xs k).1)) [iD (zd0 xs k).2] :=
 zgr xs (fun a _=>zda (P:=fun a=>∀k:Nat,0<k->k+zgm a.parts<=4611686018427387904->IC Tryz.prog 57 [] (.one (ntS a.parts)) [iD k] (.one (ntS (zd0 a.parts k).1)) [iD (zd0 a.parts k).2]) (fun _ _ _ _ ps ih=>zgr ps ih) a) k h0 hk
def zhs:An->Nat->An×Nat
 | ⟨l0,.mk o0 (.mk n0 s0) v0 p0⟩,k=>(⟨((k:Nat):Int),.mk (((k+1):Nat):Int) (.mk (mtx ((k+1)+1)) (zal s0 (((k+1)+1)+1)).1) (mtx (zal s0 (((k+1)+1)+1)).2) (za1 p0 ((zal s0 (((k+1)+1)+1)).2+1)).1⟩,(za1 p0 ((zal s0 (((k+1)+1)+1)).2+1)).2)
def zdn:List An->Nat->List An×Nat
 | [],k=>([],k)
 | a::xs,k=>((zhs a k).1::(zdn xs (zhs a k).2).1,(zdn xs (zhs a k).2).2)
def zkt:An->Nat
 | ⟨l0,.mk o0 (.mk n0 s0) v0 p0⟩=>1+1+1+1+zc7 s0+1+zdf p0
def zgl:List An->Nat
 | []=>0
 | a::xs=>zkt a+zgl xs
theorem qdi:∀(a:An)(k:Nat),k<=(zhs a k).2/\(zhs a k).2<=k+zkt a
 | ⟨l0,.mk o0 (.mk n0 s0) v0 p0⟩,k=>by have h_s0:=zb1 s0 (((k+1)+1)+1);have h_p0:=zca p0 ((zal s0 (((k+1)+1)+1)).2+1);simp only[zhs,zkt];omega
theorem zz8:∀(xs:List An)(k:Nat),k<=(zdn xs k).2/\(zdn xs k).2<=k+zgl xs
 | [],k=>⟨Qz _,Qz _⟩
 | a::xs,k=>by have h1:=qdi a k;have h2:=zz8 xs (zhs a k).2;simp only[zdn,zgl];omega
theorem zl5:∀xs:List An,xs.length<=zgl xs
 | []=>Qz _
 | a::xs=>by
  have:=zl5 xs;have:1<=zkt a:=by obtain⟨l0,⟨o0,⟨n0,s0⟩,v0,p0⟩⟩:=a;simp only[zkt];omega
  simp only[Qi,zgl];omega
theorem ziu (xs:List An) :
  ∀k:Nat,0<k->k+zgl xs<=4611686018427387904->IC Tryz.prog 32 [] (.one (anS xs)) [iD k] (.one (anS (zdn xs k).1)) [iD (zdn xs k).2]:=by
 intro k h0 hk
 refine zrz Tryz.call32 Tryz.func32 rfl Yo (by simp only[zdm,rd,Qf,Qo,Kx,Qi,Q4,Tryz.ntmps32];omega) (by simp only[Tryz.ntmps32];omega) (fun vs=>?_)
 simp -implicitDefEqProofs only[go_sem,Tryz.results32,qav,zjm,zdm,PI]
 refine zag (fun(x:List An×List An×Nat)=>hd [(0,.one (.ow 0 0)),(1000000,.one (.ow 0 0)),(1,vI x.2.2),(5,vI x.1.length)] [] [(0,⟨true,6,x.1.map anC++zdz vs x.1.length (x.2.1.map anC),0,true⟩)])
  (fun x=>(zdn xs k).1=x.1++(zdn x.2.1 x.2.2).1/\(zdn xs k).2=(zdn x.2.1 x.2.2).2/\0<x.2.2/\x.2.2+zgl x.2.1<=4611686018427387904/\x.1.length+x.2.1.length=xs.length/\∀a∈x.2.1,a∈xs) (fun x=>x.2.1.length) ([],xs,k) (zac ?_) ?_ ?_
 ·simp -implicitDefEqProofs only[go_sem]
 ·exact⟨rfl,rfl,h0,hk,by simp,fun _ h=>h⟩
 ·intro ⟨dn,rest,kk⟩ ⟨h1,h2,h3,h4,h6,h5⟩;simp only at h1 h2 h3 h4 h5 h6;cases rest with
  | nil =>
   simp only[zdn,Kh]at h1 h2;simp -implicitDefEqProofs only[go_sem,h1,h2]
  | cons a rest =>
   obtain⟨l0,⟨o0,⟨n0,s0⟩,v0,p0⟩⟩:=a;simp only[zdn,zhs,zgl,zkt]at h1 h2 h4;have hc_s0:=zb1 s0 (((kk+1)+1)+1);have hc_p0:=zca p0 ((zal s0 (((kk+1)+1)+1)).2+1);have w0:IntKind.i64.wrap (((kk:Nat):Int)+1)=((kk+1:Nat):Int):=zap Yp;have w1:IntKind.i64.wrap ((((kk+1):Nat):Int)+1)=(((kk+1)+1:Nat):Int):=zap Yp;have w2:IntKind.i64.wrap (((((kk+1)+1):Nat):Int)+1)=((((kk+1)+1)+1:Nat):Int):=zap Yp;have w3:IntKind.i64.wrap ((((zal s0 (((kk+1)+1)+1)).2:Nat):Int)+1)=(((zal s0 (((kk+1)+1)+1)).2+1:Nat):Int):=zap Yp;have hln:=zl5 xs;rw[Qi]at h6;have wl:IntKind.i64.wrap ((dn.length:Int)+1)=((dn.length+1:Nat):Int):=zap Yp;simp -implicitDefEqProofs only[go_sem,anC,Fm.op,Fm.atom,Fm.var,Fm.parts,Tm.name,Tm.args];refine zdq (by simp -implicitDefEqProofs only[go_sem,implies_true,w0,w1,w2,w3]) ?_;simp -implicitDefEqProofs only[go_sem,implies_true,w0,w1,w2,w3];refine zdq (by simp -implicitDefEqProofs only[go_sem,implies_true,w0,w1,w2,w3]) ?_;simp -implicitDefEqProofs only[go_sem,implies_true,w0,w1,w2,w3];refine callF (zb5 ((kk+1)+1) Yp Yp) (by simp -implicitDefEqProofs only[go_sem,w0,w1,w2,w3]) ?_;simp -implicitDefEqProofs only[go_sem,w0,w1,w2,w3];refine zdq (by simp -implicitDefEqProofs only[go_sem,implies_true,w0,w1,w2,w3]) ?_;simp -implicitDefEqProofs only[go_sem,implies_true,w0,w1,w2,w3];refine callN (l:=[(0,.one (.ow 0 0)),(1000000,.one (.ow 0 0)),(5,vI dn.length),(43,.one (.cv (vs dn.length 3))),(44,vI ((((kk+1)+1)+1):Nat))]) (bl:=[]) (el:=[(0,⟨true,6,dn.map anC++[.int .i64 ((kk:Nat):Int),.int .i64 (((kk+1):Nat):Int),.str (mtx ((kk+1)+1)),.pin (vs dn.length 3) (tmS s0),.str v0,.pin (vs dn.length 5) (fmS p0)]::zdz vs (dn.length+1) (rest.map anC),0,true⟩)]) 0 dn.length 3 (zez s0 (((kk+1)+1)+1) Yp Yp) (by simp -implicitDefEqProofs only[go_sem,w0,w1,w2,w3,tmS]) rfl rfl rfl (by simp -implicitDefEqProofs only[go_sem,tmS,Fm.op,Fm.atom,Fm.var,Fm.parts,Tm.name,Tm.args]) rfl ?_;simp -implicitDefEqProofs only[go_sem,w0,w1,w2,w3,Fm.op,Fm.atom,Fm.var,Fm.parts,Tm.name,Tm.args];refine callF (zb5 (zal s0 (((kk+1)+1)+1)).2 Yp Yp) (by simp -implicitDefEqProofs only[go_sem,w0,w1,w2,w3]) ?_;simp -implicitDefEqProofs only[go_sem,w0,w1,w2,w3];refine zdq (by simp -implicitDefEqProofs only[go_sem,implies_true,w0,w1,w2,w3]) ?_;simp -implicitDefEqProofs only[go_sem,implies_true,w0,w1,w2,w3];refine callN (l:=[(0,.one (.ow 0 0)),(1000000,.one (.ow 0 0)),(5,vI dn.length),(60,.one (.cv (vs dn.length 5))),(61,vI (((zal s0 (((kk+1)+1)+1)).2+1):Nat))]) (bl:=[]) (el:=[(0,⟨true,6,dn.map anC++[.int .i64 ((kk:Nat):Int),.int .i64 (((kk+1):Nat):Int),.str (mtx ((kk+1)+1)),tmS (zal s0 (((kk+1)+1)+1)).1,.str (mtx (zal s0 (((kk+1)+1)+1)).2),.pin (vs dn.length 5) (fmS p0)]::zdz vs (dn.length+1) (rest.map anC),0,true⟩)]) 0 dn.length 5 (zc8 p0 ((zal s0 (((kk+1)+1)+1)).2+1) Yp Yp) (by simp -implicitDefEqProofs only[go_sem,w0,w1,w2,w3,fmS]) rfl rfl rfl (by simp -implicitDefEqProofs only[go_sem,fmS,Fm.op,Fm.atom,Fm.var,Fm.parts,Tm.name,Tm.args]) rfl ?_;simp -implicitDefEqProofs only[go_sem,w0,w1,w2,w3,Fm.op,Fm.atom,Fm.var,Fm.parts,Tm.name,Tm.args];refine⟨(dn++[⟨((kk:Nat):Int),.mk (((kk+1):Nat):Int) (.mk (mtx ((kk+1)+1)) (zal s0 (((kk+1)+1)+1)).1) (mtx (zal s0 (((kk+1)+1)+1)).2) (za1 p0 ((zal s0 (((kk+1)+1)+1)).2+1)).1⟩],rest,(za1 p0 ((zal s0 (((kk+1)+1)+1)).2+1)).2),⟨by simpa using h1,h2,by show 0<(za1 p0 ((zal s0 (((kk+1)+1)+1)).2+1)).2;omega,by show(za1 p0 ((zal s0 (((kk+1)+1)+1)).2+1)).2+zgl rest<=_;omega,by simp;omega,fun b hb=>h5 b (by simp[hb])⟩,by simp,zac ?_⟩;simp -implicitDefEqProofs only[go_sem,wl,anC,Fm.op,Fm.atom,Fm.var,Fm.parts,Tm.name,Tm.args,Q2,Kf]
theorem zj7 (xs:List An)(k:Nat)(h0:0<k)(hk:k+zgl xs<=4611686018427387904):IC Tryz.prog 32 [] (.one (anS xs)) [iD k] (.one (anS (zdn xs k).1)) [iD (zdn xs k).2]:=ziu xs k h0 hk
theorem zi4 (xs:List An) :
  ∀k:Nat,0<k->k+zgl xs<=4611686018427387904->FC Tryz.prog 33 [.one (anS (zdn xs k).1),iD k] [iD (zdn xs k).2]:=by
 intro k h0 hk
 refine zad Tryz.call33 Tryz.func33 rfl Yo (zao Yo) ?_
 simp -implicitDefEqProofs only[go_sem,Tryz.results33]
 refine zag (fun(x:List An×List An×Nat)=>hd [(0,vT (.sl 6 (x.1.map anC++(zdn x.2.1 x.2.2).1.map anC))),(1,vI x.2.2),(5,vI x.1.length)] [] [])
  (fun x=>(zdn xs k).1=x.1++(zdn x.2.1 x.2.2).1/\(zdn xs k).2=(zdn x.2.1 x.2.2).2/\0<x.2.2/\x.2.2+zgl x.2.1<=4611686018427387904/\x.1.length+x.2.1.length=xs.length/\∀a∈x.2.1,a∈xs) (fun x=>x.2.1.length) ([],xs,k) (zac ?_) ?_ ?_
 ·simp -implicitDefEqProofs only[go_sem]
 ·exact⟨rfl,rfl,h0,hk,by simp,fun _ h=>h⟩
 ·intro ⟨dn,rest,kk⟩ ⟨h1,h2,h3,h4,h6,h5⟩;simp only at h1 h2 h3 h4 h5 h6;cases rest with
  | nil =>
   simp only[zdn,Kh]at h1 h2;simp -implicitDefEqProofs only[go_sem,h2,zdn]
  | cons a rest =>
   obtain⟨l0,⟨o0,⟨n0,s0⟩,v0,p0⟩⟩:=a;simp only[zdn,zhs,zgl,zkt]at h1 h2 h4;have hc_s0:=zb1 s0 (((kk+1)+1)+1);have hc_p0:=zca p0 ((zal s0 (((kk+1)+1)+1)).2+1);have w0:IntKind.i64.wrap (((kk:Nat):Int)+1)=((kk+1:Nat):Int):=zap Yp;have w1:IntKind.i64.wrap ((((kk+1):Nat):Int)+1)=(((kk+1)+1:Nat):Int):=zap Yp;have w2:IntKind.i64.wrap (((((kk+1)+1):Nat):Int)+1)=((((kk+1)+1)+1:Nat):Int):=zap Yp;have w3:IntKind.i64.wrap ((((zal s0 (((kk+1)+1)+1)).2:Nat):Int)+1)=(((zal s0 (((kk+1)+1)+1)).2+1:Nat):Int):=zap Yp;have hln:=zl5 xs;rw[Qi]at h6;have wl:IntKind.i64.wrap ((dn.length:Int)+1)=((dn.length+1:Nat):Int):=zap Yp;simp -implicitDefEqProofs only[go_sem,zdn,zhs,anC,Fm.op,Fm.atom,Fm.var,Fm.parts,Tm.name,Tm.args];simp only[K7];simp -implicitDefEqProofs only[go_sem,w0,w1,w2,w3];simp only[K7];simp -implicitDefEqProofs only[go_sem,w0,w1,w2,w3];refine drawn Yo ?_;simp -implicitDefEqProofs only[go_sem];refine zav (zb5 ((kk+1)+1) Yp Yp) (by simp -implicitDefEqProofs only[go_sem,Qw,K7,w0,w1,w2,w3]) ?_;simp -implicitDefEqProofs only[go_sem,Qw,K7,w0,w1,w2,w3];refine⟨Yo,?_⟩;refine callF (zl4 s0 (((kk+1)+1)+1) Yp Yp) (by simp -implicitDefEqProofs only[go_sem,w0,w1,w2,w3,Fm.op,Fm.atom,Fm.var,Fm.parts,Tm.name,Tm.args]) ?_;simp -implicitDefEqProofs only[go_sem,w0,w1,w2,w3,Fm.op,Fm.atom,Fm.var,Fm.parts,Tm.name,Tm.args];refine drawn Yo ?_;simp -implicitDefEqProofs only[go_sem];refine zav (zb5 (zal s0 (((kk+1)+1)+1)).2 Yp Yp) (by simp -implicitDefEqProofs only[go_sem,Qw,K7,w0,w1,w2,w3]) ?_;simp -implicitDefEqProofs only[go_sem,Qw,K7,w0,w1,w2,w3];refine⟨Yo,?_⟩;refine callF (zfk p0 ((zal s0 (((kk+1)+1)+1)).2+1) Yp Yp) (by simp -implicitDefEqProofs only[go_sem,w0,w1,w2,w3,Fm.op,Fm.atom,Fm.var,Fm.parts,Tm.name,Tm.args]) ?_;simp -implicitDefEqProofs only[go_sem,w0,w1,w2,w3,Fm.op,Fm.atom,Fm.var,Fm.parts,Tm.name,Tm.args];refine⟨(dn++[⟨((kk:Nat):Int),.mk (((kk+1):Nat):Int) (.mk (mtx ((kk+1)+1)) (zal s0 (((kk+1)+1)+1)).1) (mtx (zal s0 (((kk+1)+1)+1)).2) (za1 p0 ((zal s0 (((kk+1)+1)+1)).2+1)).1⟩],rest,(za1 p0 ((zal s0 (((kk+1)+1)+1)).2+1)).2),⟨by simpa using h1,h2,by show 0<(za1 p0 ((zal s0 (((kk+1)+1)+1)).2+1)).2;omega,by show(za1 p0 ((zal s0 (((kk+1)+1)+1)).2+1)).2+zgl rest<=_;omega,by simp;omega,fun b hb=>h5 b (by simp[hb])⟩,by simp,zac ?_⟩;simp -implicitDefEqProofs only[go_sem,wl,anC,Fm.op,Fm.atom,Fm.var,Fm.parts,Tm.name,Tm.args,Q2,Kf]
theorem zj1 (xs:List An)(k:Nat)(h0:0<k)(hk:k+zgl xs<=4611686018427387904):FC Tryz.prog 33 [.one (anS (zdn xs k).1),iD k] [iD (zdn xs k).2]:=zi4 xs k h0 hk
end
section
open Go.RowKit
def za2:Nt->Nat->Nt×Nat
 | .mk r (.mk o1 (.mk n1 s1) v1 p1) l (.mk n0 s0) d0,k =>
  let a:=zal s1 k
  let b:=za1 p1 a.2
  let c:=zal s0 b.2
  let d:=zd0 d0 c.2
  (.mk r (.mk o1 (.mk n1 a.1) v1 b.1) l (.mk n0 c.1) d.1,d.2)
def zer:Nt->Nat
 | .mk _ (.mk _ (.mk _ s1) _ p1) _ (.mk _ s0) d0=>zc7 s1+zdf p1+zc7 s0+zgm d0
theorem zel:∀(a:Nt)(k:Nat),k<=(za2 a k).2/\(za2 a k).2<=k+zer a
 | .mk r (.mk o1 (.mk n1 s1) v1 p1) l (.mk n0 s0) d0,k=>by
  have h1:=zb1 s1 k;have h2:=zca p1 (zal s1 k).2;have h3:=zb1 s0 (za1 p1 (zal s1 k).2).2;have h4:=zlb d0 (zal s0 (za1 p1 (zal s1 k).2).2).2;simp only[za2,zer];omega
mutual
theorem qc7:∀a:Nt,zkm a<=8+8*a.wt
 | .mk r (.mk o (.mk n1 s1) v p) l (.mk n s) e=>by
  have h3:=ze8 s;have h4:=ze8 s1;have h5:=zf8 p;have h6:=zp0 e;rw[Nt.wt_eq,zkm];unfold zus at h6;simp only[Nt.form,Nt.term,Nt.parts];rw[Fm.wt_eq,Tm.wt_eq];simp only[Fm.atom,Fm.var,Fm.parts,Tm.name,Tm.args];rw[Tm.wt_eq];simp only[Tm.name,Tm.args];have e1:zrg s=s.length+(s.map Tm.wt).sum:=rfl;have e2:zrg s1=s1.length+(s1.map Tm.wt).sum:=rfl;have e3:zh8 p=p.length+(p.map Fm.wt).sum:=rfl;omega
theorem zp0:∀xs:List Nt,zgm xs<=8*zus xs
 | []=>by simp[zgm]
 | a::xs=>by
  have h1:=qc7 a;have h2:=zp0 xs;unfold zus at h2⊢;rw[zgm,Qi,Qf,Jd];omega
end
theorem zem (a:Nt):zer a<=8*a.wt:=by
 obtain⟨r,⟨o,⟨n1,s1⟩,v,p⟩,l,⟨n,s⟩,e⟩:=a
 have h3:=ze8 s
 have h4:=ze8 s1
 have h5:=zf8 p
 have h6:=zp0 e
 rw[Nt.wt_eq,zer];unfold zus at h6
 simp only[Nt.form,Nt.term,Nt.parts]
 rw[Fm.wt_eq,Tm.wt_eq]
 simp only[Fm.atom,Fm.var,Fm.parts,Tm.name,Tm.args]
 rw[Tm.wt_eq]
 simp only[Tm.name,Tm.args]
 have e1:zrg s=s.length+(s.map Tm.wt).sum:=rfl
 have e2:zrg s1=s1.length+(s1.map Tm.wt).sum:=rfl
 have e3:zh8 p=p.length+(p.map Fm.wt).sum:=rfl
 omega
theorem zdd (d:Nt)(k:Nat):ntC (za2 d k).1=[.int .i64 d.rule,.int .i64 d.form.op,.str d.form.atom.name,.sl 2 ((za2 d k).1.form.atom.args.map tmC),.str d.form.var,.sl 5 ((za2 d k).1.form.parts.map fmC),.int .i64 d.label,.str d.term.name,.sl 2 ((za2 d k).1.term.args.map tmC),.sl 10 ((za2 d k).1.parts.map ntC)]:=by
 obtain⟨r,⟨o,⟨n1,s1⟩,v,p⟩,l,⟨n,s⟩,e⟩:=d
 rw[zaj];rfl
theorem zzv:∀xs:List An,zgl xs<=8*qtb xs
 | []=>by simp[zgl]
 | ⟨l,.mk o (.mk n s) v p⟩::xs=>by
  have h0:=ze8 s;have h1:=zf8 p;have h2:=zzv xs;unfold qtb at h2⊢;rw[zgl,Qi,Qf,Jd,zkt,An.wt_eq];simp only;rw[Fm.wt_eq];simp only[Fm.atom,Fm.var,Fm.parts];rw[Tm.wt_eq];simp only[Tm.name,Tm.args];have e1:zrg s=s.length+(s.map Tm.wt).sum:=rfl;have e3:zh8 p=p.length+(p.map Fm.wt).sum:=rfl;omega
theorem zen (a:Nt)(k:Nat)(h0:0<k)(hk:k+zer a<=4611686018427387904):IC Tryz.prog 19 [] (.agg (ntC a)) [iD k] (.agg (ntC (za2 a k).1)) [iD (za2 a k).2]:=by
 obtain⟨r,⟨o,⟨n1,s1⟩,v,p⟩,l,⟨n,s⟩,e⟩:=a
 simp only[zer]at hk
 have h1:=zb1 s1 k
 have h2:=zca p (zal s1 k).2
 have h3:=zb1 s (za1 p (zal s1 k).2).2
 have H1:=zq5 (.mk o (.mk n1 s1) v p) k h0 (by simp only[zjy,zh4];omega)
 have H2:=zos (.mk n s) (za1 p (zal s1 k).2).2 Yp (by simp only[zh4];omega)
 have H4:=znj e (zal s (za1 p (zal s1 k).2).2).2 Yp Yp
 simp only[zaa (.mk _ _ _ _),zaj (.mk _ _ _ _ _),zab (.mk _ _),Nt.rule,Nt.form,Nt.label,Nt.term,Nt.parts,Fm.op,Fm.atom,Fm.var,Fm.parts,Tm.name,Tm.args,za2,zhk,zck]at H1 H2 H4⊢
 generalize (zal s1 k).1=l1 at H1⊢
 generalize (zal s1 k).2=k1 at H1 H2 H4⊢
 generalize (za1 p k1).1=g1 at H1⊢
 generalize (za1 p k1).2=k2 at H1 H2 H4⊢
 generalize (zal s k2).1=t1 at H2⊢
 generalize (zal s k2).2=k3 at H2 H4⊢
 generalize (zd0 e k3).1=e1 at H4⊢
 generalize (zd0 e k3).2=k6 at H4⊢
 refine qnc Tryz.call19 Tryz.func19 rfl Yo (by simp only[zdm,rd,Qf,Qo,Kx,Qi,Q4,Tryz.ntmps19];omega) (by simp only[Tryz.ntmps19];omega) ⟨⟨by simp,by simp[T.isPin]⟩,zcl _⟩ trivial ?_
 simp -implicitDefEqProofs only[go_sem,Tryz.results19,zjm,zdm,PI]
 refine zev [1000000,2,6,7] (H1) Yn Yn Yn Yn Yn rfl ?_
 simp -implicitDefEqProofs only[go_sem]
 refine zev [1000000,2,10,11] (H2) Yn Yn Yn Yn Yn rfl ?_
 simp -implicitDefEqProofs only[go_sem]
 refine zev [1000000,2,14,15] (H4) Yn Yn Yn Yn Yn rfl ?_
 simp -implicitDefEqProofs only[go_sem]
end
section
open Go.RowKit
def znq:Int->Nat->Int×Nat
 | o0,k=>(((k:Nat):Int),(k+1))
def zhx:List Int->Nat->List Int×Nat
 | [],k=>([],k)
 | a::xs,k=>((znq a k).1::(zhx xs (znq a k).2).1,(zhx xs (znq a k).2).2)
def zsn:Int->Nat
 | _=>1+1
def zte:List Int->Nat
 | []=>0
 | a::xs=>zsn a+zte xs
theorem qn7:∀(a:Int)(k:Nat),k<=(znq a k).2/\(znq a k).2<=k+zsn a
 | o0,k=>by simp only[znq,zsn];omega
theorem zut:∀(xs:List Int)(k:Nat),k<=(zhx xs k).2/\(zhx xs k).2<=k+zte xs
 | [],k=>⟨Qz _,Qz _⟩
 | a::xs,k=>by have h1:=qn7 a k;have h2:=zut xs (znq a k).2;simp only[zhx,zte];omega
theorem zp2:∀xs:List Int,xs.length<=zte xs
 | []=>Qz _
 | a::xs=>by
  have:=zp2 xs;have:1<=zsn a:=by simp only[zsn];omega
  simp only[Qi,zte];omega
theorem zw4 (xs:List Int) :
  ∀k:Nat,0<k->k+zte xs<=4611686018427387904->IC Tryz.prog 20 [] (.one (zd8 xs)) [iD k] (.one (zd8 (zhx xs k).1)) [iD (zhx xs k).2]:=by
 intro k h0 hk
 refine zrz Tryz.call20 Tryz.func20 rfl Yo (by simp only[zdm,rd,Qf,Qo,Kx,Qi,Q4,Tryz.ntmps20];omega) (by simp only[Tryz.ntmps20];omega) (fun vs=>?_)
 simp -implicitDefEqProofs only[go_sem,Tryz.results20,qav,zjm,zdm,PI]
 refine zag (fun(x:List Int×List Int×Nat)=>hd [(0,.one (.ow 0 0)),(1000000,.one (.ow 0 0)),(1,vI x.2.2),(5,vI x.1.length)] [] [(0,⟨true,1,x.1.map (fun s=>[T.int .i64 s])++zdz vs x.1.length (x.2.1.map (fun s=>[T.int .i64 s])),0,true⟩)])
  (fun x=>(zhx xs k).1=x.1++(zhx x.2.1 x.2.2).1/\(zhx xs k).2=(zhx x.2.1 x.2.2).2/\0<x.2.2/\x.2.2+zte x.2.1<=4611686018427387904/\x.1.length+x.2.1.length=xs.length/\∀a∈x.2.1,a∈xs) (fun x=>x.2.1.length) ([],xs,k) (zac ?_) ?_ ?_
 ·simp -implicitDefEqProofs only[go_sem]
 ·exact⟨rfl,rfl,h0,hk,by simp,fun _ h=>h⟩
 ·intro ⟨dn,rest,kk⟩ ⟨h1,h2,h3,h4,h6,h5⟩;simp only at h1 h2 h3 h4 h5 h6;cases rest with
  | nil =>
   simp only[zhx,Kh]at h1 h2;simp -implicitDefEqProofs only[go_sem,h1,h2]
  | cons o0 rest =>
   simp only[zhx,znq,zte,zsn]at h1 h2 h4;have w0:IntKind.i64.wrap (((kk:Nat):Int)+1)=((kk+1:Nat):Int):=zap Yp;have hln:=zp2 xs;rw[Qi]at h6;have wl:IntKind.i64.wrap ((dn.length:Int)+1)=((dn.length+1:Nat):Int):=zap Yp;simp -implicitDefEqProofs only[go_sem,Qf];refine zdq (by simp -implicitDefEqProofs only[go_sem,implies_true,w0]) ?_;simp -implicitDefEqProofs only[go_sem,implies_true,w0];refine⟨(dn++[((kk:Nat):Int)],rest,(kk+1)),⟨by simpa using h1,h2,by show 0<(kk+1);omega,by show(kk+1)+zte rest<=_;omega,by simp;omega,fun b hb=>h5 b (by simp[hb])⟩,by simp,zac ?_⟩;simp -implicitDefEqProofs only[go_sem,wl,Qf,Q2,Kf]
theorem zn8 (xs:List Int)(k:Nat)(h0:0<k)(hk:k+zte xs<=4611686018427387904):IC Tryz.prog 20 [] (.one (zd8 xs)) [iD k] (.one (zd8 (zhx xs k).1)) [iD (zhx xs k).2]:=zw4 xs k h0 hk
theorem zvs (xs:List Int) :
  ∀k:Nat,0<k->k+zte xs<=4611686018427387904->FC Tryz.prog 21 [.one (zd8 (zhx xs k).1),iD k] [iD (zhx xs k).2]:=by
 intro k h0 hk
 refine zad Tryz.call21 Tryz.func21 rfl Yo (zao Yo) ?_
 simp -implicitDefEqProofs only[go_sem,Tryz.results21]
 refine zag (fun(x:List Int×List Int×Nat)=>hd [(0,vT (.sl 1 (x.1.map (fun s=>[T.int .i64 s])++(zhx x.2.1 x.2.2).1.map (fun s=>[T.int .i64 s])))),(1,vI x.2.2),(5,vI x.1.length)] [] [])
  (fun x=>(zhx xs k).1=x.1++(zhx x.2.1 x.2.2).1/\(zhx xs k).2=(zhx x.2.1 x.2.2).2/\0<x.2.2/\x.2.2+zte x.2.1<=4611686018427387904/\x.1.length+x.2.1.length=xs.length/\∀a∈x.2.1,a∈xs) (fun x=>x.2.1.length) ([],xs,k) (zac ?_) ?_ ?_
 ·simp -implicitDefEqProofs only[go_sem]
 ·exact⟨rfl,rfl,h0,hk,by simp,fun _ h=>h⟩
 ·intro ⟨dn,rest,kk⟩ ⟨h1,h2,h3,h4,h6,h5⟩;simp only at h1 h2 h3 h4 h5 h6;cases rest with
  | nil =>
   simp only[zhx,Kh]at h1 h2;simp -implicitDefEqProofs only[go_sem,h2,zhx]
  | cons o0 rest =>
   simp only[zhx,znq,zte,zsn]at h1 h2 h4;have w0:IntKind.i64.wrap (((kk:Nat):Int)+1)=((kk+1:Nat):Int):=zap Yp;have hln:=zp2 xs;rw[Qi]at h6;have wl:IntKind.i64.wrap ((dn.length:Int)+1)=((dn.length+1:Nat):Int):=zap Yp;simp -implicitDefEqProofs only[go_sem,zhx,znq,Qf];simp only[K7];simp -implicitDefEqProofs only[go_sem,w0];refine⟨(dn++[((kk:Nat):Int)],rest,(kk+1)),⟨by simpa using h1,h2,by show 0<(kk+1);omega,by show(kk+1)+zte rest<=_;omega,by simp;omega,fun b hb=>h5 b (by simp[hb])⟩,by simp,zac ?_⟩;simp -implicitDefEqProofs only[go_sem,wl,Qf,Q2,Kf]
theorem zo0 (xs:List Int)(k:Nat)(h0:0<k)(hk:k+zte xs<=4611686018427387904):FC Tryz.prog 21 [.one (zd8 (zhx xs k).1),iD k] [iD (zhx xs k).2]:=zvs xs k h0 hk
theorem qaa (xs ys:List Int):FC Tryz.prog 18 [.one (zd8 xs),.one (zd8 ys)] [bD (same xs ys)]:=by
 refine zd1 (fun hw=>?_) Tryz.call18
 have hl:xs.length<=9223372036854775807:=by simpa[zgs,wfT]using hw.1.1
 have hl2:ys.length<=9223372036854775807:=by simpa[zgs,wfT]using hw.2.1.1
 refine zad Tryz.call18 Tryz.func18 rfl Yo (zao Yo) ?_
 simp -implicitDefEqProofs only[go_sem,Tryz.results18]
 refine⟨fun h=>?_,fun h=>?_⟩
 ·rw[zb2.2 (by rintro rfl;simp at h)]
 ·have hlen:xs.length=ys.length:=by simp at h;omega
  refine zag (fun k:Nat=>hd [(0,vT (zd8 xs)),(1,vT (zd8 ys)),(4,vB false),(5,vI k)] [] []) (fun k=>k<=xs.length/\same xs ys=same (xs.drop k) (ys.drop k)) (fun k=>xs.length-k) 0 (zac ?_) ?_ ?_
  ·simp -implicitDefEqProofs only[go_sem]
  ·simp
  ·intro k ⟨hk,hr⟩;by_cases hlt:k<xs.length
   ·have hk2:k<ys.length:=by omega
    simp -implicitDefEqProofs only[go_sem,Qa,hlt];refine drawn Yo ?_;simp -implicitDefEqProofs only[go_sem,Qa,zan,hlt,hk2];refine⟨Yo,fun h=>?_,fun h=>?_⟩
    ·rw[hr,Qh hlt,Qh hk2,zcm,show same xs[k] ys[k]=false from zb2.2 (by simpa using h)];rfl
    ·rw[Qh hlt,Qh hk2,zcm,show same xs[k] ys[k]=true from zbj.2 (by simpa using h),Qs]at hr;rw[zap Yp];exact⟨k+1,⟨Yp,hr⟩,Yp,zac Yn⟩
   ·simp -implicitDefEqProofs only[go_sem,Qa,hlt];rw[hr,Qt Yp,Qt Yp,zfb]
theorem zu2:∀xs:List Int,zte xs=2*xs.length
 | []=>rfl
 | a::xs=>by rw[zte,zu2 xs,zsn,Qi];omega
end
section
open Go.RowKit
def evF:Fm->(Tm->Bool)->Bool:=Fm.fold fun o a _ _ rs v =>
 if(o==1)=true then true else if(o==3)=true then v a else if(o==4)=true then !((rs.map fun r=>r v).getD 0 false)
 else if(o==5)=true then (rs.map fun r=>r v).getD 0 false&&(rs.map fun r=>r v).getD 1 false
 else if(o==6)=true then (rs.map fun r=>r v).getD 0 false||(rs.map fun r=>r v).getD 1 false
 else if(o==7)=true then !((rs.map fun r=>r v).getD 0 false)||(rs.map fun r=>r v).getD 1 false else false
def evs (f:Fm)(v:Tm->Bool):List Bool:=f.parts.map fun p=>evF p v
end
section
open Go.RowKit
theorem zti (p:Nt):1<=p.nodes:=by rw[p.nodes_eq];omega
def zcy (r e:Int):Bool:=if(e==6||e==7)=true then r==5 else if(e==10)=true then r==8||r==9 else if(e==12)=true then r==11 else if(e==14)=true then r==13 else if(e==16)=true then r==15 else if(e==18)=true then r==17 else false
def zwe (p:Nt):Bool:=match p.parts with
 | []=>false
 | q::_=>zcy q.rule p.rule
def zun:Nat->List (Option (List Int))->Option (List Int)
 | _,[]=>none
 | i,some pos::_=>some ((i:Int)::pos)
 | i,none::rs=>zun (i+1) rs
def dtr:Nt->Option (List Int):=Nt.fold fun r f l t ps rs=>if zwe (.mk r f l t ps)=true then some []else zun 0 rs
theorem qjp (p:Nt):dtr p=if zwe p=true then some []else zun 0 (p.parts.map dtr):=by
 unfold dtr
 rw[Nt.fold_eq,Nt.eta]
inductive Path:List Int->Nt->Prop
 | here {p:Nt} (h:zwe p=true):Path [] p
 | down {p:Nt} (k:Nat) (pos:List Int) (h:k<p.parts.length) (h2:Path pos p.parts[k]):Path ((k:Int)::pos) p
theorem qgv:∀(rs:List (Option (List Int)))(i:Nat)(pos:List Int),zun i rs=some pos->∃k pos',∃h:k<rs.length,rs[k]=some pos'/\pos=((i+k:Nat):Int)::pos'
 | [],i,pos,e=>by cases e
 | some q::rs,i,pos,e=>by
  rw[zun]at e;cases e;exact⟨0,q,by simp,rfl,rfl⟩
 | none::rs,i,pos,e=>by
  rw[zun]at e;obtain⟨k,pos',h,h1,h2⟩:=qgv rs (i+1) pos e;refine⟨k+1,pos',by simp;omega,by simpa using h1,?_⟩;rw[h2,show i+1+k=i+(k+1) from by omega]
theorem qnm:∀(p:Nt)(pos:List Int),dtr p=some pos->Path pos p:=zda fun r f l t ps ih pos e=>by
 rw[qjp]at e
 split at e
 ·rename_i h;cases e;exact .here h
 ·obtain⟨k,pos',h,h1,h2⟩:=qgv _ _ _ e;rw[Qa]at h;rw[Ye]at h1;rw[h2,Q5];exact .down k pos' h (ih _ (Qj h) pos' h1)
theorem qnl {pos:List Int}{p:Nt}(h:Path pos p):pos.length+1<=p.nodes:=by
 induction h with
 | here h=>exact zti _
 | @down p k pos h h2 ih =>
  have:=zbz Nt.nodes p.parts p.parts[k] (Qj h);rw[p.nodes_eq,Qi];omega
end
section
open Go.RowKit
theorem zy8 {w:World}{A:Nat->Prop}:∀(ds:List D)(vs:List Value)(fp tp:List Nat),za3 w A (rd ds) vs fp tp->zbf w A ds vs/\fp=[]/\tp=[]
 | [],vs,fp,tp,h=>h
 | d::ds,vs,fp,tp,h=>by
  obtain⟨v,vs',rfl,h1,h2⟩:=h;obtain⟨h3,h4,h5⟩:=zy8 ds vs' fp tp h2;exact⟨⟨v,vs',rfl,h1,h3⟩,h4,h5⟩
theorem zx0 {P:Program}{f:FuncId}{args:List D}{b:Bool}(h:RC P f args [bD b]):FC P f args [bD b]:=by
 refine⟨h.1,fun w vs fp tp hv hn=>?_⟩
 obtain⟨h1,rfl,rfl⟩:=zy8 _ _ _ _ hv
 refine(h.2 w vs (fun k=>k∉([]:List Nat)) h1).mono ?_
 rintro e w' ⟨us,rfl,hr,hb⟩
 obtain⟨u,us',rfl,hu,hz⟩:=hr
 have hz:us'=[]:=hz
 subst hz
 have hu:u=.bool b:=hu
 subst hu
 exact⟨[.bool b],[],[],rfl,⟨_,[],[],[],[],[],rfl,rfl,rfl,⟨⟨rfl,rfl⟩,rfl⟩,rfl,rfl,rfl⟩,Kn,fun b hb=>absurd hb (by simp),⟨hb.os,hb.tape,hb.output,hb.size,fun k hk=>hb.block k hk.1⟩⟩
theorem zzz (p:Nt)(hw:Fit p):FC Tryz.prog 14 [ntD p] [bD (zur p)]:=zx0 (zgi p hw)
theorem qlk (p:Nt)(hw:Fit p):FC Tryz.prog 44 [ntD p] [bD (zur p)]:=by
 rw[qsj p hw];exact zx0 (ztl p hw)
theorem zta (r e:Int):FC Tryz.prog 126 [iD r,iD e] [bD (zcy r e)]:=by
 by_cases h6:e=6
 ·subst h6;refine zad Tryz.call126 Tryz.func126 rfl Yo (zao Yo) ?_;simp -implicitDefEqProofs only[go_sem,Tryz.results126]
  all_goals simp[zcy]
 by_cases h7:e=7
 ·subst h7;refine zad Tryz.call126 Tryz.func126 rfl Yo (zao Yo) ?_;simp -implicitDefEqProofs only[go_sem,Tryz.results126]
  all_goals simp[zcy]
 by_cases h10:e=10
 ·subst h10;cases h8:(r==8)
  ·refine zad Tryz.call126 Tryz.func126 rfl Yo (zao Yo) ?_;simp -implicitDefEqProofs only[go_sem,Tryz.results126,h8]
   all_goals simp[zcy,h8]
  ·refine zad Tryz.call126 Tryz.func126 rfl Yo (zao Yo) ?_;simp -implicitDefEqProofs only[go_sem,Tryz.results126,h8]
   all_goals simp[zcy,h8]
 by_cases h12:e=12
 ·subst h12;refine zad Tryz.call126 Tryz.func126 rfl Yo (zao Yo) ?_;simp -implicitDefEqProofs only[go_sem,Tryz.results126]
  all_goals simp[zcy]
 by_cases h14:e=14
 ·subst h14;refine zad Tryz.call126 Tryz.func126 rfl Yo (zao Yo) ?_;simp -implicitDefEqProofs only[go_sem,Tryz.results126]
  all_goals simp[zcy]
 by_cases h16:e=16
 ·subst h16;refine zad Tryz.call126 Tryz.func126 rfl Yo (zao Yo) ?_;simp -implicitDefEqProofs only[go_sem,Tryz.results126]
  all_goals simp[zcy]
 by_cases h18:e=18
 ·subst h18;refine zad Tryz.call126 Tryz.func126 rfl Yo (zao Yo) ?_;simp -implicitDefEqProofs only[go_sem,Tryz.results126]
  all_goals simp[zcy]
 have e6:(e==6)=false:=by simpa using h6
 have e7:(e==7)=false:=by simpa using h7
 have e10:(e==10)=false:=by simpa using h10
 have e12:(e==12)=false:=by simpa using h12
 have e14:(e==14)=false:=by simpa using h14
 have e16:(e==16)=false:=by simpa using h16
 have e18:(e==18)=false:=by simpa using h18
 refine zad Tryz.call126 Tryz.func126 rfl Yo (zao Yo) ?_
 simp -implicitDefEqProofs only[go_sem,Tryz.results126,e6,e7,e10,e12,e14,e16,e18]
 simp[zcy,e6,e7,e10,e12,e14,e16,e18]
theorem qcg (p:Nt):FC Tryz.prog 96 [ntD p] [bD (zwe p)]:=by
 cases hp:p.parts with
 | nil =>
  have e:zwe p=false:=by unfold zwe;rw[hp]
  rw[e];simp only[ntD,zaj p,hp,Qo];refine zad Tryz.call96 Tryz.func96 rfl Yo (zao Yo) ?_;simp -implicitDefEqProofs only[go_sem,Tryz.results96];refine drawn Yo ?_;simp -implicitDefEqProofs only[go_sem,Q4];kernel_rfl
 | cons q rest =>
  have e:zwe p=zcy q.rule p.rule:=by unfold zwe;rw[hp]
  rw[e];have HI:=zta q.rule p.rule;have hl:(0<((rest.length+1:Nat):Int))=True:=eq_true Yp;simp only[ntD,zaj p,hp,Qf];refine zad Tryz.call96 Tryz.func96 rfl Yo (zao Yo) ?_;simp -implicitDefEqProofs only[go_sem,Tryz.results96];refine drawn Yo ?_;simp -implicitDefEqProofs only[go_sem,Qi,hl,Jv,Qr,zaj q];refine zaz (HI) Yn ?_;simp -implicitDefEqProofs only[go_sem];kernel_rfl
theorem zpa (p:Nt):FC Tryz.prog 95 [ntD p] [bD (zwe p)]:=by
 cases hp:p.parts with
 | nil =>
  have e:zwe p=false:=by unfold zwe;rw[hp]
  rw[e];simp only[ntD,zaj p,hp,Qo];refine zad Tryz.call95 Tryz.func95 rfl Yo (zao Yo) ?_;simp -implicitDefEqProofs only[go_sem,Tryz.results95,Q4]
 | cons q rest =>
  have e:zwe p=zcy q.rule p.rule:=by unfold zwe;rw[hp]
  rw[e];have hl:(((rest.length+1:Nat):Int)==0)=false:=by rw[Jj];omega
  have hl2:(0<((rest.length+1:Nat):Int))=True:=eq_true Yp;obtain⟨r,f,l,t,ps⟩:=p;have hp:ps=q::rest:=hp;subst hp;show FC _ _ [ntD (.mk r f l t (q::rest))] [bD (zcy q.rule r)]
  simp only[ntD,zbe,Qf];generalize hqr:q.rule=s;by_cases h6:r=6
  ·subst h6;refine zad Tryz.call95 Tryz.func95 rfl Yo (zao Yo) ?_;simp -implicitDefEqProofs only[go_sem,Tryz.results95,Qi,hl,hl2,Qr,zaj q,hqr]
   all_goals simp[zcy]
  by_cases h7:r=7
  ·subst h7;refine zad Tryz.call95 Tryz.func95 rfl Yo (zao Yo) ?_;simp -implicitDefEqProofs only[go_sem,Tryz.results95,Qi,hl,hl2,Qr,zaj q,hqr]
   all_goals simp[zcy]
  by_cases h10:r=10
  ·subst h10;cases h8:(s==8)
   ·refine zad Tryz.call95 Tryz.func95 rfl Yo (zao Yo) ?_;simp -implicitDefEqProofs only[go_sem,Tryz.results95,Qi,hl,hl2,Qr,zaj q,hqr,h8]
    all_goals simp[zcy,h8]
   ·refine zad Tryz.call95 Tryz.func95 rfl Yo (zao Yo) ?_;simp -implicitDefEqProofs only[go_sem,Tryz.results95,Qi,hl,hl2,Qr,zaj q,hqr,h8]
    all_goals simp[zcy,h8]
  by_cases h12:r=12
  ·subst h12;refine zad Tryz.call95 Tryz.func95 rfl Yo (zao Yo) ?_;simp -implicitDefEqProofs only[go_sem,Tryz.results95,Qi,hl,hl2,Qr,zaj q,hqr]
   all_goals simp[zcy]
  by_cases h14:r=14
  ·subst h14;refine zad Tryz.call95 Tryz.func95 rfl Yo (zao Yo) ?_;simp -implicitDefEqProofs only[go_sem,Tryz.results95,Qi,hl,hl2,Qr,zaj q,hqr]
   all_goals simp[zcy]
  by_cases h16:r=16
  ·subst h16;refine zad Tryz.call95 Tryz.func95 rfl Yo (zao Yo) ?_;simp -implicitDefEqProofs only[go_sem,Tryz.results95,Qi,hl,hl2,Qr,zaj q,hqr]
   all_goals simp[zcy]
  by_cases h18:r=18
  ·subst h18;refine zad Tryz.call95 Tryz.func95 rfl Yo (zao Yo) ?_;simp -implicitDefEqProofs only[go_sem,Tryz.results95,Qi,hl,hl2,Qr,zaj q,hqr]
   all_goals simp[zcy]
  have e6:(r==6)=false:=by simpa using h6
  have e7:(r==7)=false:=by simpa using h7
  have e10:(r==10)=false:=by simpa using h10
  have e12:(r==12)=false:=by simpa using h12
  have e14:(r==14)=false:=by simpa using h14
  have e16:(r==16)=false:=by simpa using h16
  have e18:(r==18)=false:=by simpa using h18
  refine zad Tryz.call95 Tryz.func95 rfl Yo (zao Yo) ?_;simp -implicitDefEqProofs only[go_sem,Tryz.results95,Qi,hl,hl2,Qr,zaj q,hqr,e6,e7,e10,e12,e14,e16,e18];simp[zcy,e6,e7,e10,e12,e14,e16,e18]
end
section
open Go.RowKit
theorem qkm {p:Nt}(hw:Fit p):((dtr p).getD []).length<=1073741824:=by
 have h1:=hw.all
 have h2:=zih p
 cases hd:dtr p with
 | none=>exact Kd _
 | some pos =>
  have:=qnl (qnm p pos hd);show pos.length<=_
  omega
theorem zns (p:Nt)(hw:Fit p)(H:∀x∈p.parts,FC Tryz.prog 59 [ntD x] [.one (zd8 ((dtr x).getD [])),bD (dtr x).isSome]):FC Tryz.prog 59 [ntD p] [.one (zd8 ((dtr p).getD [])),bD (dtr p).isSome]:=by
 have hW:=hw.own
 have HI:=qcg p
 have hv:=qjp p
 simp only[ntD,zaj p]at HI⊢
 cases hdt:zwe p
 ·rw[hdt]at HI;rw[hdt,if_neg (by simp)]at hv;rw[hv];refine zad Tryz.call59 Tryz.func59 rfl Yo (zao Yo) ?_;simp -implicitDefEqProofs only[go_sem,Tryz.results59];refine callF (HI) Yn ?_;simp -implicitDefEqProofs only[go_sem];refine zag (fun k:Nat=>hd [(12,vT (ntS p.parts)),(13,vI p.parts.length),(14,vI k)] [] []) (fun k=>k<=p.parts.length/\zun 0 (p.parts.map dtr)=zun k ((p.parts.drop k).map dtr)) (fun k=>p.parts.length-k) 0 (zac ?_) ⟨Kd _,by rw[List.drop_zero]⟩ ?_
  ·simp -implicitDefEqProofs only[go_sem]
  ·rintro k ⟨hk,hrec⟩;by_cases hlt:k<p.parts.length
   ·have HC:=H p.parts[k] (Qj hlt);have hlen:=qkm (hw.sub p.parts[k] (Qj hlt));rw[Qh hlt,Qf]at hrec;generalize dtr p.parts[k]=B at HC hrec hlen;simp only[ntD,zaj p.parts[k]]at HC;cases B with
    | none =>
     rw[zun]at hrec;simp only[Option.getD_none,Option.isSome_none]at HC;simp -implicitDefEqProofs only[go_sem,hlt,zan,zaj p.parts[k]];refine callF (HC) Yn ?_;simp -implicitDefEqProofs only[go_sem];refine⟨k+1,⟨hlt,hrec⟩,Yp,zac ?_⟩;simp -implicitDefEqProofs only[go_sem];rw[zap Yp]
    | some R =>
     rw[zun]at hrec;rw[hrec];simp only[Jc,Yh]at HC hlen⊢;have hap:1+R.length<=4294967296:=by omega
     simp -implicitDefEqProofs only[go_sem,hlt,zan,zaj p.parts[k]];refine callF (HC) Yn ?_;simp -implicitDefEqProofs only[go_sem];refine za7 Yn ?_;simp -implicitDefEqProofs only[go_sem];refine apD true (by simp -implicitDefEqProofs only[go_sem,ne_eq,Qa,Qi,Q4,hap]) ?_;simp -implicitDefEqProofs only[go_sem,ne_eq,Qa,Qi,Q4,hap]
   ·rw[Qt Yp]at hrec;rw[hrec];simp -implicitDefEqProofs only[go_sem,hlt];exact⟨rfl,rfl⟩
 ·rw[hdt]at HI;rw[hdt,if_pos rfl]at hv;rw[hv];show FC _ _ _ [.one (.sl 1 []),bD true]
  refine zad Tryz.call59 Tryz.func59 rfl Yo (zao Yo) ?_;simp -implicitDefEqProofs only[go_sem,Tryz.results59];refine callF (HI) Yn ?_;simp -implicitDefEqProofs only[go_sem];refine za7 Yn ?_;simp -implicitDefEqProofs only[go_sem]
theorem zp5:∀p:Nt,Fit p->FC Tryz.prog 59 [ntD p] [.one (zd8 ((dtr p).getD [])),bD (dtr p).isSome] :=
 zda fun r f l t ps ih hw=>zns (.mk r f l t ps) hw fun x hx=>ih x hx (hw.sub x hx)
def dtK (pl:List Int)(o:Option (List Int)):List Int:=match o with
 | some pos=>pl++pos
 | none=>[]
theorem ztv (p:Nt)(hw:Fit p)(H:∀x∈p.parts,∀pl:List Int,pl.length+x.nodes<=2000000000->RC Tryz.prog 58 [ntD x,.one (zd8 pl)] [.one (zd8 (dtK pl (dtr x))),bD (dtr x).isSome])(pl:List Int)(hp:pl.length+p.nodes<=2000000000):RC Tryz.prog 58 [ntD p,.one (zd8 pl)] [.one (zd8 (dtK pl (dtr p))),bD (dtr p).isSome]:=by
 have hW:=hw.own
 have hn:=p.nodes_eq
 have HI:=zpa p
 have hv:=qjp p
 simp only[ntD,zaj p]at HI⊢
 cases hdt:zwe p
 ·rw[hdt]at HI;rw[hdt,if_neg (by simp)]at hv;rw[hv];have hrec0:zun 0 (p.parts.map dtr)=zun 0 ((p.parts.drop 0).map dtr):=by rw[List.drop_zero]
  generalize zun 0 (p.parts.map dtr)=X at hrec0⊢;refine zbo Tryz.call58 Tryz.func58 rfl Yo (zao Yo) ?_;simp -implicitDefEqProofs only[go_sem,Tryz.results58];refine callF (HI) Yn ?_;simp -implicitDefEqProofs only[go_sem];refine zag (fun k:Nat=>hd [(1,vT (zd8 pl)),(2,.one (.bx 2 0)),(6,vI k)] [(2,ntB p)] []) (fun k=>k<=p.parts.length/\X=zun k ((p.parts.drop k).map dtr)) (fun k=>p.parts.length-k) 0 (zac ?_) ⟨Kd _,hrec0⟩ ?_
  ·simp -implicitDefEqProofs only[go_sem]
  ·rintro k ⟨hk,hrec⟩;by_cases hlt:k<p.parts.length
   ·have hxn:=zbz Nt.nodes p.parts p.parts[k] (Qj hlt);have hxn1:=zti p.parts[k];have HO:=zyq pl Yp;have HC:=H p.parts[k] (Qj hlt) (pl++[(k:Int)]) (by rw[Qu];simp;omega);rw[Qh hlt,Qf]at hrec;generalize dtr p.parts[k]=B at HC hrec;have hap:pl.length<=4294967295:=by omega
    simp only[ntD,zaj p.parts[k],zd8,Q2,Qf,Qo]at HC;cases B with
    | none =>
     rw[zun]at hrec;simp only[dtK,Option.isSome_none,Qo]at HC;simp -implicitDefEqProofs only[go_sem,hlt,Qa];refine drawn Yo ?_;simp -implicitDefEqProofs only[go_sem,hlt,Qa,zan,zaj p.parts[k]];refine zav (HO) Yn ?_;simp -implicitDefEqProofs only[go_sem];refine zb9 Yn ?_;simp -implicitDefEqProofs only[go_sem];refine zjp true (by simp -implicitDefEqProofs only[go_sem,ne_eq,Qa,hap]) ?_;simp -implicitDefEqProofs only[go_sem,ne_eq,Qa,hap];refine zwq 832 HC Yn ?_;simp -implicitDefEqProofs only[go_sem];refine⟨Yo,k+1,⟨hlt,hrec⟩,Yp,zac ?_⟩;simp -implicitDefEqProofs only[go_sem];rw[zap Yp]
    | some R =>
     rw[zun]at hrec;simp only[dtK,Yh]at HC;have hX:zd8 (dtK pl X)=.sl 1 ((pl++[(k:Int)]++R).map fun s=>[.int .i64 s]):=by
      rw[hrec];show zd8 (pl++((k:Int)::R))=_
      rw[Kf];rfl
     have hXs:X.isSome=true:=by rw[hrec];rfl
     rw[hX,hXs];simp -implicitDefEqProofs only[go_sem,hlt,Qa];refine drawn Yo ?_;simp -implicitDefEqProofs only[go_sem,hlt,Qa,zan,zaj p.parts[k]];refine zav (HO) Yn ?_;simp -implicitDefEqProofs only[go_sem];refine zb9 Yn ?_;simp -implicitDefEqProofs only[go_sem];refine zjp true (by simp -implicitDefEqProofs only[go_sem,ne_eq,Qa,hap]) ?_;simp -implicitDefEqProofs only[go_sem,ne_eq,Qa,hap];refine zwq 832 HC Yn ?_;simp -implicitDefEqProofs only[go_sem];kernel_rfl
   ·rw[Qt Yp]at hrec;rw[hrec];simp -implicitDefEqProofs only[go_sem,hlt,Qa];refine zcc Yn ?_;simp -implicitDefEqProofs only[go_sem]
    first|exact⟨rfl,rfl⟩|rfl
 ·rw[hdt]at HI;rw[hdt,if_pos rfl]at hv;rw[hv];show RC _ _ _ [.one (zd8 (pl++[])),bD true]
  rw[Kh];refine zbo Tryz.call58 Tryz.func58 rfl Yo (zao Yo) ?_;simp -implicitDefEqProofs only[go_sem,Tryz.results58];refine callF (HI) Yn ?_;simp -implicitDefEqProofs only[go_sem]
theorem zwm:∀p:Nt,Fit p->∀pl:List Int,pl.length+p.nodes<=2000000000->RC Tryz.prog 58 [ntD p,.one (zd8 pl)] [.one (zd8 (dtK pl (dtr p))),bD (dtr p).isSome] :=
 zda fun r f l t ps ih hw=>ztv (.mk r f l t ps) hw fun x hx=>ih x hx (hw.sub x hx)
noncomputable def fdI (p:Nt):List Int×Bool×Bool:=if zur p=true then ((dtr p).getD [],(dtr p).isSome,true)else ([],false,false)
theorem zp3 (p:Nt)(hw:Fit p):FC Tryz.prog 23 [ntD p] [.one (zd8 (fdI p).1),bD (fdI p).2.1,bD (fdI p).2.2]:=by
 have HV:=zzz p hw
 have HD:=zp5 p hw
 unfold fdI
 simp only[ntD,zaj p]at HV HD⊢
 cases hv:zur p
 ·rw[hv]at HV;rw[if_neg (by simp)];show FC _ _ _ [.one (.sl 1 []),_,_]
  refine zad Tryz.call23 Tryz.func23 rfl Yo (zao Yo) ?_;simp -implicitDefEqProofs only[go_sem,Tryz.results23];refine callF (HV) Yn ?_;simp -implicitDefEqProofs only[go_sem]
 ·rw[hv]at HV;rw[if_pos rfl];generalize (dtr p).getD []=R at HD⊢;generalize (dtr p).isSome=B at HD⊢;refine zad Tryz.call23 Tryz.func23 rfl Yo (zao Yo) ?_;simp -implicitDefEqProofs only[go_sem,Tryz.results23];refine callF (HV) Yn ?_;simp -implicitDefEqProofs only[go_sem];refine callF (HD) Yn ?_;simp -implicitDefEqProofs only[go_sem]
theorem quv (o:Option (List Int)):dtK [] o=o.getD []:=by cases o<;>rfl
theorem znr (p:Nt)(hw:Fit p):RC Tryz.prog 22 [ntD p] [.one (zd8 (fdI p).1),bD (fdI p).2.1,bD (fdI p).2.2]:=by
 have HV:=qlk p hw
 have hnw:=zih p
 have hwa:=hw.all
 have HD:=zwm p hw [] (by simp;omega)
 rw[quv]at HD
 unfold fdI
 have e0:zd8 []=.sl 1 []:=rfl
 simp only[ntD,zaj p,e0]at HV HD⊢
 cases hv:zur p
 ·rw[hv]at HV;rw[if_neg (by simp)];refine zbo Tryz.call22 Tryz.func22 rfl Yo (zao Yo) ?_;simp -implicitDefEqProofs only[go_sem,Tryz.results22];refine callF (HV) Yn ?_;simp -implicitDefEqProofs only[go_sem];refine zcc Yn ?_;simp -implicitDefEqProofs only[go_sem]
 ·rw[hv]at HV;rw[if_pos rfl];generalize (dtr p).getD []=R at HD⊢;generalize (dtr p).isSome=B at HD⊢;refine zbo Tryz.call22 Tryz.func22 rfl Yo (zao Yo) ?_;simp -implicitDefEqProofs only[go_sem,Tryz.results22];refine callF (HV) Yn ?_;simp -implicitDefEqProofs only[go_sem];refine zi8 Yn ?_;simp -implicitDefEqProofs only[go_sem];refine callR (HD) Yn ?_;simp -implicitDefEqProofs only[go_sem]
end
section
open Go.RowKit
theorem qs9 (d:Nt)(hw:Fit d):(fdI d).1.length<=1073741824:=by
 unfold fdI
 split
 ·exact qkm hw
 ·exact Kd _
theorem qvi (d:Nt):FC Tryz.prog 5 [ntD d] [bD true]:=by
 have HZ:=zet d 1048576 Yp Yp
 simp only[ntD,zaj d]at HZ⊢
 refine zfg Tryz.call5 Tryz.func5 rfl Yo (zao Yo) ?_
 simp -implicitDefEqProofs only[go_sem,Tryz.results5]
 refine callF (HZ) Yn ?_
 simp -implicitDefEqProofs only[go_sem]
 refine⟨fun h=>trivial,fun h=>?_⟩
 have hw:d.wt<=1048576:=by have:=(zdx (by simpa using h)).1;omega
 have HS:=znr d (Fit.of d hw)
 have HI:=zp3 d (Fit.of d hw)
 have HT:=ze7 d hw
 have HE:=ze3 d d
 have hrl:=qs9 d (Fit.of d hw)
 generalize fdI d=A at HS HI hrl
 obtain⟨R,G,G2⟩:=A
 simp only at HS HI hrl
 have HF:=qaa R R
 simp only[ntD,zaj d]at HS HI HT HE
 refine callF (HT) Yn ?_
 simp -implicitDefEqProofs only[go_sem]
 refine ztk 771 rfl rfl ?_
 simp -implicitDefEqProofs only[go_sem]
 refine ztk 773 rfl rfl ?_
 simp -implicitDefEqProofs only[go_sem]
 refine ztk 776 rfl rfl ?_
 simp -implicitDefEqProofs only[go_sem]
 refine ztk 777 rfl rfl ?_
 simp -implicitDefEqProofs only[go_sem]
 refine zot (HS) Yn ?_
 simp -implicitDefEqProofs only[go_sem]
 refine callF (HT) Yn ?_
 simp -implicitDefEqProofs only[go_sem]
 refine callF (HI) Yn ?_
 simp -implicitDefEqProofs only[go_sem]
 refine callF (HF) (by simp -implicitDefEqProofs only[go_sem,zax,Qw,Qb]) ?_
 simp -implicitDefEqProofs only[go_sem,zax,Qw,Qb]
 refine drawn Yo ?_
 simp -implicitDefEqProofs only[go_sem]
 refine zav (HT) Yn ?_
 simp -implicitDefEqProofs only[go_sem]
 refine zav (HE) Yn ?_
 simp -implicitDefEqProofs only[go_sem]
 refine⟨Yo,fun h=>?_,fun _=>?_⟩
 ·simp[zax]at h
 have hcD:=zem d
 have HM1:=zen d 1 Yp Yp
 have hm1:=zel d 1
 rw[zdd]at HM1
 generalize (za2 d 1).2=k3 at HM1 hm1
 generalize (za2 d 1).1.form.atom.args=f3 at HM1
 generalize (za2 d 1).1.form.parts=f4 at HM1
 generalize (za2 d 1).1.term.args=f5 at HM1
 generalize (za2 d 1).1.parts=f8 at HM1
 simp only[zaj d]at HM1
 have hcR:=zu2 R
 have HM2:=zn8 R 1 Yp Yp
 have HL:=zo0 R 1 Yp Yp
 have hmR:=(zut R 1).1
 generalize (zhx R 1).2=k2 at HM2 HL hmR
 generalize (zhx R 1).1=r1 at HM2 HL
 refine zev [1,4,5,6,7,8,9,10,56,57] (HM1) Yn Yn Yn Yn Yn rfl ?_
 simp -implicitDefEqProofs only[go_sem]
 refine callF (HF) (by simp -implicitDefEqProofs only[go_sem,zax,Qw,Qb]) ?_
 simp -implicitDefEqProofs only[go_sem,zax,Qw,Qb]
 refine zev [1,4,5,6,8,9,10,77,78] (HM2) Yn Yn Yn Yn Yn rfl ?_
 simp -implicitDefEqProofs only[go_sem]
 refine callF (HL) Yn ?_
 simp -implicitDefEqProofs only[go_sem]
 refine⟨fun h=>by simp at h,fun _=>?_⟩
 refine callF (HT) Yn ?_
 simp -implicitDefEqProofs only[go_sem]
 refine callF (HI) Yn ?_
 simp -implicitDefEqProofs only[go_sem]
 refine callF (HF) (by simp -implicitDefEqProofs only[go_sem,zax,Qw,Qb]) ?_
 simp -implicitDefEqProofs only[go_sem,zax,Qw,Qb]
 refine callF (HL) Yn ?_
 simp -implicitDefEqProofs only[go_sem]
 refine⟨fun h=>by simp at h,fun _=>trivial⟩
end
section
open Go.RowKit
def zow (out:List An)(k:Nat):List An:=(List.range k).filterMap fun(j:Nat)=>(zeo out ((j:Int)+1)).map fun f=>⟨(j:Int)+1,f⟩
theorem zth {out:List An}{k:Nat}(h:zeo out ((k:Int)+1)=none):zow out (k+1)=zow out k:=by
 unfold zow
 rw[List.range_succ,List.filterMap_append,List.filterMap_cons,h]
 simp
theorem zuf {out:List An}{k:Nat}{f:Fm}(h:zeo out ((k:Int)+1)=some f):zow out (k+1)=zow out k++[⟨(k:Int)+1,f⟩]:=by
 unfold zow
 rw[List.range_succ,List.filterMap_append,List.filterMap_cons,h]
 simp
theorem zsp {out ags:List An}(h:ags.Perm out)(hn:aNd ags)(k:Nat):zow ags k=zow out k:=by
 unfold zow
 congr 1
 funext j
 rw[zfr h hn]
theorem zx3 (out:List An)(k:Nat):(zow out k).length<=k:=by
 have:=List.length_filterMap_le (fun(j:Nat)=>(zeo out ((j:Int)+1)).map fun f=>(⟨(j:Int)+1,f⟩:An)) (List.range k)
 rw[List.length_range]at this
 exact this
theorem zkx (n:Int):∀L:List An,(L.map An.label).Pairwise (·<·)->L.filter (fun a=>decide (a.label<=n+1))=L.filter (fun a=>decide (a.label<=n))++(match zeo L (n+1)with|some f=>[⟨n+1,f⟩]|none=>[])
 | [],_=>rfl
 | a::L,h=>by
  rw[Qf,K9]at h;have hlt:∀b∈L,a.label<b.label:=fun b hb=>h.1 _ (Ka.2 ⟨b,hb,rfl⟩);have ih:=zkx n L h.2;rw[zjw];by_cases h1:a.label<=n
  ·rw[List.filter_cons_of_pos (by simp;omega),List.filter_cons_of_pos (by simpa using h1),if_neg Yp,ih];rfl
  ·have e0:∀m:Int,m<=n+1->L.filter (fun b=>decide (b.label<=m))=[]:=fun m hm=>by
    rw[List.filter_eq_nil_iff];intro b hb;have:=hlt b hb;simp;omega
   by_cases h2:a.label=n+1
   ·rw[List.filter_cons_of_pos (by simp;omega),List.filter_cons_of_neg (by simp;omega),if_pos h2,e0 _ (Int.le_refl _),e0 n Yp,<-h2];rfl
   ·rw[List.filter_cons_of_neg (by simp;omega),List.filter_cons_of_neg (by simp;omega),if_neg h2,e0 _ (Int.le_refl _),e0 n Yp];have:zeo L (n+1)=none:=zfs.2 fun b hb=>by have:=hlt b hb;omega
    rw[this];rfl
theorem zl0 {L:List An}(h:(L.map An.label).Pairwise (·<·))(h1:∀a∈L,1<=a.label):∀k:Nat,zow L k=L.filter fun a=>decide (a.label<=(k:Int))
 | 0=>by
  show[]=_
  symm
  rw[List.filter_eq_nil_iff];intro a ha;have:=h1 a ha;simp;omega
 | k+1=>by
  have ih:=zl0 h h1 k;have hs:=zkx (k:Int) L h;have e:((k+1:Nat):Int)=(k:Int)+1:=by omega
  rw[e,hs];cases ha:zeo L ((k:Int)+1)with
  | none=>rw[zth ha,ih];simp
  | some f=>rw[zuf ha,ih]
theorem qqm {L:List An}(h:okZ L):zow L 20=L:=by
 rw[zl0 h.2 (fun a ha=>(h.1.2 a ha).2.1)]
 rw[List.filter_eq_self]
 intro a ha
 have:=(h.1.2 a ha).2.2
 simpa using this
noncomputable def oaI (p:Nt):List An×Bool:=if zur p=true then (match zfd p with|.inr out=>(zow out 20,true)|.inl _=>([],false))else ([],false)
theorem RX.res {P:Program}{f:FuncId}{args:List D}{K K':List D->Prop}(h:RX P f args K)(hk:∀r,K r->∃r',K' r'/\∀w A us,zbf w A r us->zbf w A r' us):RX P f args K' :=
 ⟨h.1,fun w vs A hv=>(h.2 w vs A hv).mono fun _ _ ⟨res,us,h0,h1,h2,h3⟩=>by
  obtain⟨r',k1,k2⟩:=hk res h0
  exact⟨r',us,k1,h1,k2 _ _ _ h2,h3⟩⟩
theorem rep_mq {w:World}{A:Nat->Prop}{ag:Bool}{rows:List (List T)}{v:Value}(h:zas w A (.mq ag rows) v):zas w A (.mp ag rows) v:=by
 unfold zas at h⊢
 obtain⟨b,es,clk,h1,h2,h3,h4,_⟩:=h
 exact⟨b,es,clk,h1,h2,h3,h4⟩
theorem qck (p:Nt)(hw:Fit p)(out:List An)(hi:zfd p=.inr out):RX Tryz.prog 54 [ntD p] (fun res=>∃ags:List An,ags.Perm out/\res=[.one (.mp true (ags.map anC)),.one (.sl 1 []),bD true]):=by
 have HI:=zi9 p hw
 rw[hi]at HI
 refine HI.res ?_
 rintro r ⟨ags,h1,rfl⟩
 refine⟨_,⟨ags,h1,rfl⟩,fun w A us hu=>?_⟩
 obtain⟨u,us',rfl,k1,k2⟩:=hu
 exact⟨u,us',rfl,rep_mq k1,k2⟩
theorem qjj {p:Nt}(h:zur p=true):∃out,zfd p=.inr out:=by
 unfold zur at h
 rw[Qe]at h
 cases hi:zfd p with
 | inl pos=>rw[hi]at h;cases h.2
 | inr out=>exact⟨out,rfl⟩
theorem qrr {p:Nt}(h:zur p=true){out:List An}(hi:zfd p=.inr out):oaI p=(zow out 20,true):=by
 unfold oaI
 rw[if_pos h,hi]
theorem qwp:qsp Tryz.prog 38=some (.tup [(true,[.t (.int .i64 0),.t (.str []),.nl 2,.t (.str []),.nl 5]),(false,[.t (.bool false)])]):=by kernel_rfl
theorem zfu (p:Nt)(hw:Fit p):FC Tryz.prog 30 [ntD p] [.one (anS (oaI p).1),bD (oaI p).2]:=by
 have HV:=zzz p hw
 cases hv:zur p
 ·have e:oaI p=([],false):=by unfold oaI;rw[if_neg (by rw[hv];simp)]
  rw[hv]at HV;rw[e];simp only[ntD,zaj p]at HV⊢;show FC _ _ _ [.one (.sl 6 []),_]
  refine zad Tryz.call30 Tryz.func30 rfl Yo (zao Yo) ?_;simp -implicitDefEqProofs only[go_sem,Tryz.results30];refine callF (HV) Yn ?_;simp -implicitDefEqProofs only[go_sem]
 ·obtain⟨out,hi⟩:=qjj hv;have HI:=qck p hw out hi;have hok:=(zjz p hw out hi).1;have hz:=qwp;rw[hv]at HV;rw[qrr hv hi];simp only[ntD,zaj p]at HV HI⊢;refine zad Tryz.call30 Tryz.func30 rfl Yo (zao Yo) ?_;simp -implicitDefEqProofs only[go_sem,Tryz.results30];refine callF (HV) Yn ?_;simp -implicitDefEqProofs only[go_sem];refine zhq HI Yn ?_;rintro res ⟨ags,hperm,rfl⟩;have hoka:=zqo hperm.symm hok;rw[<-zsp hperm hoka.1];have hrow:=fun k=>zhe k ags;generalize ags.map anC=R at hrow⊢;simp -implicitDefEqProofs only[go_sem];refine za7 Yn ?_;simp -implicitDefEqProofs only[go_sem];refine zag (fun k:Nat=>hd [(4,vT (.mp true R)),(7,.one (.ow 640 0)),(8,vI ((k:Int)+1))] [] [(640,⟨true,6,(zow ags k).map anC,0,true⟩)]) (fun k=>k<=20) (fun k=>20-k) 0 (zac ?_) (Kd _) ?_
  ·simp -implicitDefEqProofs only[go_sem];rfl
  ·intro k hk;have hlen:=zx3 ags k;have hl2:(zow ags k).length<=4294967295:=by omega
   by_cases hlt:k<20
   ·have hle:((k:Int)+1<=20)=True:=by simp;omega
    have hf:=hrow ((k:Int)+1);cases ha:zeo ags ((k:Int)+1)with
    | none =>
     rw[ha]at hf;have hf:zch (.int .i64 ((k:Int)+1)) R=some none:=hf;simp -implicitDefEqProofs only[go_sem,hle];refine qrv (v:=.tup [(true,[.t (.int .i64 0),.t (.str []),.nl 2,.t (.str []),.nl 5]),(false,[.t (.bool false)])]) (by simp -implicitDefEqProofs only[go_sem,hf,Tryz.underlying82,Tryz.underlying3];exact hz) ?_;simp -implicitDefEqProofs only[go_sem];rw[za6 Yp Yp];refine⟨k+1,hlt,Yp,zac ?_⟩;simp -implicitDefEqProofs only[go_sem];rw[zth ha];exact⟨by congr 1,rfl⟩
    | some f =>
     rw[ha]at hf;have hf:zch (.int .i64 ((k:Int)+1)) R=some (some (fmC f)):=hf;obtain⟨a,ha1,ha2,ha3⟩:=zq0 ha;have hfw:=(hoka.2 a ha1).1.2;rw[ha3]at hfw;have HC:=zf1 f hfw;simp only[fmD,zaa f]at HC hf;simp -implicitDefEqProofs only[go_sem,hle];refine qrv (by simp -implicitDefEqProofs only[go_sem,hf,hz,Tryz.underlying82,Tryz.underlying3];rfl) ?_;simp -implicitDefEqProofs only[go_sem];refine callF (HC) Yn ?_;simp -implicitDefEqProofs only[go_sem];refine za7 Yn ?_;simp -implicitDefEqProofs only[go_sem];refine apD true (by simp -implicitDefEqProofs only[go_sem,ne_eq,Qa,hl2]) ?_;simp -implicitDefEqProofs only[go_sem,ne_eq,Qa,hl2];rw[za6 Yp Yp];refine⟨k+1,hlt,Yp,zac ?_⟩;simp -implicitDefEqProofs only[go_sem];rw[zuf ha,Q2,Ko,zcb];exact⟨by congr 1,rfl⟩
   ·have hk2:k=20:=by omega
    subst hk2;simp -implicitDefEqProofs only[go_sem]
    first|done|trivial|rfl
theorem zfa (p:Nt)(hw:Fit p):RC Tryz.prog 29 [ntD p] [.one (anS (oaI p).1),bD (oaI p).2]:=by
 have HV:=qlk p hw
 have hwa:=hw.all
 have HO:=zmh p hw [] (by simp;omega)
 cases hv:zur p
 ·have e:oaI p=([],false):=by unfold oaI;rw[if_neg (by rw[hv];simp)]
  rw[hv]at HV;rw[e];simp only[ntD,zaj p]at HV⊢;show RC _ _ _ [.one (.sl 6 []),_]
  refine zbo Tryz.call29 Tryz.func29 rfl Yo (zao Yo) ?_;simp -implicitDefEqProofs only[go_sem,Tryz.results29];refine zcc Yn ?_;simp -implicitDefEqProofs only[go_sem];refine callF (HV) Yn ?_;simp -implicitDefEqProofs only[go_sem]
 ·obtain⟨out,hi⟩:=qjj hv;have hag:=qtq p hw [];rw[hi]at hag;obtain⟨g1,g2⟩:=hag;have hZ:=(qks p hw [] g1).1;have hok:=(zjz p hw out hi).1;rw[qrr hv hi,<-zsp g2 hZ.1.1,qqm hZ];rw[hv]at HV;rw[g1]at HO;generalize (spM p []).1=L at HO hZ⊢;generalize (spM p []).2.1=pl at HO;have hll:=zjx hZ.1;have e0:zd8 []=.sl 1 []:=rfl;simp only[ntD,zaj p,e0]at HV HO⊢;refine zbo Tryz.call29 Tryz.func29 rfl Yo (zao Yo) ?_;simp -implicitDefEqProofs only[go_sem,Tryz.results29];refine za7 Yn ?_;simp -implicitDefEqProofs only[go_sem];refine callF (HV) Yn ?_;simp -implicitDefEqProofs only[go_sem];refine zi8 Yn ?_;simp -implicitDefEqProofs only[go_sem];refine callR (HO) Yn ?_;simp -implicitDefEqProofs only[go_sem];refine zag (fun k:Nat=>hd [(4,.one (.ow 288 0)),(5,vT (anS L)),(8,vI k)] [] [(288,⟨true,6,(L.take k).map anC,0,true⟩)]) (fun k=>k<=L.length) (fun k=>L.length-k) 0 (zac ?_) (Kd _) ?_
  ·simp -implicitDefEqProofs only[go_sem]
   first|done|rfl|exact⟨rfl,rfl⟩
  ·intro k hk;by_cases hlt:k<L.length
   ·have hmin:min k L.length<=4294967295:=by omega
    have hfw:=(hZ.1.2 L[k] (Qj hlt)).1.2;have HC:=zvf L[k].form hfw;simp only[fmD,zaa L[k].form]at HC;simp -implicitDefEqProofs only[go_sem,hlt,Qa];refine drawn Yo ?_;simp -implicitDefEqProofs only[go_sem,hlt,Qa,zan,zcb L[k]];refine zav (HC) Yn ?_;simp -implicitDefEqProofs only[go_sem];refine zb9 Yn ?_;simp -implicitDefEqProofs only[go_sem];refine zjp true (by simp -implicitDefEqProofs only[go_sem,ne_eq,Qa,Qq,hmin]) ?_;simp -implicitDefEqProofs only[go_sem,ne_eq,Qa,Qq,hmin];refine⟨Yo,?_⟩;rw[zap Yp];refine⟨k+1,hlt,Yp,zac ?_⟩;simp -implicitDefEqProofs only[go_sem];rw[Qk hlt,Q2,Ko,zcb L[k]]
   ·have ht:L.take k=L:=Qv Yp;simp -implicitDefEqProofs only[go_sem,hlt,Qa,ht]
    first|done|rfl
end
section
open Go.RowKit
theorem zlw (xs ys:List An):FC Tryz.prog 31 [.one (anS xs),.one (anS ys)] [bD (same xs ys)]:=zk3 xs ys fun x _ y=>znp x y
theorem qr9 (d:Nt)(hw:Fit d):qtb (oaI d).1<=1073741824:=by
 unfold oaI
 split
 ·cases hi:zfd d with
  | inl pos=>exact Kd _
  | inr out =>
   have hok:=(zjz d hw out hi).1;have hl:=zx3 out 20;have hall:∀a∈zow out 20,a.wt<=1048576:=fun a ha=>by
    unfold zow at ha;obtain⟨j,_,hj⟩:=List.mem_filterMap.1 ha;obtain⟨f,h1,rfl⟩:=Q0.1 hj;obtain⟨b,hb,_,h2⟩:=zq0 h1;have:=(hok.2 b hb).1.2;show f.wt<=_
    rw[<-h2];exact this
   show qtb (zow out 20)<=_
   generalize zow out 20=L at hl hall;have:∀L:List An,(∀a∈L,a.wt<=1048576)->(L.map An.wt).sum<=L.length*1048576:=fun L=>by
    induction L with
    | nil=>intro _;exact Kd _
    | cons a L ih =>
     intro h;have h1:=ih fun b hb=>h b (by simp[hb]);have h2:=h a (by simp);simp only[Qf,Jd,Qi];omega
   have:=this L hall;unfold qtb;omega
 ·exact Kd _
theorem qty (d:Nt):FC Tryz.prog 7 [ntD d] [bD true]:=by
 have HZ:=zet d 1048576 Yp Yp
 simp only[ntD,zaj d]at HZ⊢
 refine zfg Tryz.call7 Tryz.func7 rfl Yo (zao Yo) ?_
 simp -implicitDefEqProofs only[go_sem,Tryz.results7]
 refine callF (HZ) Yn ?_
 simp -implicitDefEqProofs only[go_sem]
 refine⟨fun h=>trivial,fun h=>?_⟩
 have hw:d.wt<=1048576:=by have:=(zdx (by simpa using h)).1;omega
 have HS:=zfa d (Fit.of d hw)
 have HI:=zfu d (Fit.of d hw)
 have HT:=ze7 d hw
 have HE:=ze3 d d
 have hrl:=qr9 d (Fit.of d hw)
 generalize oaI d=A at HS HI hrl
 obtain⟨R,G⟩:=A
 simp only at HS HI hrl
 have HF:=zlw R R
 simp only[ntD,zaj d]at HS HI HT HE
 refine callF (HT) Yn ?_
 simp -implicitDefEqProofs only[go_sem]
 refine ztk 675 rfl rfl ?_
 simp -implicitDefEqProofs only[go_sem]
 refine ztk 677 rfl rfl ?_
 simp -implicitDefEqProofs only[go_sem]
 refine ztk 680 rfl rfl ?_
 simp -implicitDefEqProofs only[go_sem]
 refine ztk 681 rfl rfl ?_
 simp -implicitDefEqProofs only[go_sem]
 refine zot (HS) Yn ?_
 simp -implicitDefEqProofs only[go_sem]
 refine callF (HT) Yn ?_
 simp -implicitDefEqProofs only[go_sem]
 refine callF (HI) Yn ?_
 simp -implicitDefEqProofs only[go_sem]
 refine callF (HF) (by simp -implicitDefEqProofs only[go_sem,zax,Qw,Qb]) ?_
 simp -implicitDefEqProofs only[go_sem,zax,Qw,Qb]
 refine drawn Yo ?_
 simp -implicitDefEqProofs only[go_sem]
 refine zav (HT) Yn ?_
 simp -implicitDefEqProofs only[go_sem]
 refine zav (HE) Yn ?_
 simp -implicitDefEqProofs only[go_sem]
 refine⟨Yo,fun h=>?_,fun _=>?_⟩
 ·simp[zax]at h
 have hcD:=zem d
 have HM1:=zen d 1 Yp Yp
 have hm1:=zel d 1
 rw[zdd]at HM1
 generalize (za2 d 1).2=k3 at HM1 hm1
 generalize (za2 d 1).1.form.atom.args=f3 at HM1
 generalize (za2 d 1).1.form.parts=f4 at HM1
 generalize (za2 d 1).1.term.args=f5 at HM1
 generalize (za2 d 1).1.parts=f8 at HM1
 simp only[zaj d]at HM1
 have hcR:=zzv R
 have HM2:=zj7 R 1 Yp Yp
 have HL:=zj1 R 1 Yp Yp
 have hmR:=(zz8 R 1).1
 generalize (zdn R 1).2=k2 at HM2 HL hmR
 generalize (zdn R 1).1=r1 at HM2 HL
 refine zev [1,4,5,6,7,8,46,47] (HM1) Yn Yn Yn Yn Yn rfl ?_
 simp -implicitDefEqProofs only[go_sem]
 refine callF (HF) (by simp -implicitDefEqProofs only[go_sem,zax,Qw,Qb]) ?_
 simp -implicitDefEqProofs only[go_sem,zax,Qw,Qb]
 refine zev [1,4,5,7,8,62,63] (HM2) Yn Yn Yn Yn Yn rfl ?_
 simp -implicitDefEqProofs only[go_sem]
 refine callF (HL) Yn ?_
 simp -implicitDefEqProofs only[go_sem]
 refine⟨fun h=>by simp at h,fun _=>?_⟩
 refine callF (HT) Yn ?_
 simp -implicitDefEqProofs only[go_sem]
 refine callF (HI) Yn ?_
 simp -implicitDefEqProofs only[go_sem]
 refine callF (HF) (by simp -implicitDefEqProofs only[go_sem,zax,Qw,Qb]) ?_
 simp -implicitDefEqProofs only[go_sem,zax,Qw,Qb]
 refine callF (HL) Yn ?_
 simp -implicitDefEqProofs only[go_sem]
 refine⟨fun h=>by simp at h,fun _=>trivial⟩
end
section
open Go.RowKit
variable {P:Program}
def qga:V->V
 | .one (.cv (.map none))=>.one (.rn .nmp)
 | v=>v
theorem qm5 {σ:St}{g:Gh}{w:World}{x:V}{v:Value}(h:VR σ g w x v):VR σ g w (qga x) v:=by
 unfold qga
 split
 ·have h:v=.map none:=h;subst h;show zas _ _ _ _
  unfold zas;rfl
 ·exact h
theorem zs9 {σ:St}{g:Gh}{w:World}:∀{xs:List V}{vs:List Value},VRl σ g w xs vs->VRl σ g w (xs.map qga) vs
 | [],_,h=>h
 | _::_,_,⟨v,vs',e,h1,h2⟩=>⟨v,vs',e,qm5 h1,zs9 h2⟩
def qpz (P:Program)(rs:List ResultVar)(res:List (Bool×D))(pl:List (Nat×Nat×Nat))(σ:St):Prop:=zar (zbu P σ rs) fun vs=>gvA σ (fun _=>True) [] pl (vs.map qga) res
def PMm (P:Program)(rs:List ResultVar)(res:List (Bool×D))(e:Exit)(σ:St):Prop:=match e with
 | .normal=>qpz P rs res [] σ\/∃pl,qpz P rs res pl σ
 | .ret=>qpz P rs res [] σ\/∃pl,qpz P rs res pl σ
 | _=>False
theorem XC_ofM {f:FuncId}{fn:Func}{c:Code}{args res:List (Bool×D)}(hc:zbb P f)(hf:P.funcs[f]?=some fn)(hb:fn.body=some c)(hd:zc2 fn.ntmps c=true)(hN:args.length<=fn.ntmps)(hs:zcg args)
  (h:ex P c [] (PMm P fn.results.toList res) (zc4 args)):XC P f args res:=by
 refine⟨hc,fun w vs fp tp A hv hn=>?_⟩
 refine calls_of_wp hf hb ?_
 have hv':za3 w (fun b=>b<w.heap.size/\A b/\b∉fp) args vs fp tp:=za3.keepA (fun b hb=>⟨hb.1.1,hb.2,hb.1.2⟩) hv
 obtain⟨g,hg,hR⟩:=Rel.start (A0:=fun b=>A b\/w.heap.size<=b\/b∈fp) (R0:=RP.of fun b=>b∈fp\/w.heap.size<=b) (N:=fn.ntmps) hv' hn hs hN (fun _ h=>Or.inl h) (fun b hb=>⟨Or.inr (Or.inr hb),Or.inl hb⟩) (fun b hb=>by
  by_cases hlt:b<w.heap.size
  ·have hm:b∈fp:=Classical.byContradiction fun h=>hb ⟨hlt,h⟩;exact⟨Or.inr (Or.inr hm),Or.inl hm⟩
  ·exact⟨Or.inr (Or.inl Yp),Or.inr Yp⟩)
 have hR0:=zh6 hv' hR rfl (fun b hb=>⟨⟨hb.1,hb.2.2⟩,by rw[(K1 hg).1];exact Or.inl hb.2.1⟩)
 refine wp_mono (zbs (w0:=w) c (zc4 args) _ hd h g _ w hR0 (fun k hk=>hk.1) (Bk.refl _ _) hg) fun e a' w' hq=>?_
 obtain⟨σ',g',h1,h2,h3,h4,h5⟩:=hq
 have key:(∃pl,qpz P fn.results.toList res pl σ')->∃v,(results fn a'.tmps).run P w'=.ok v w'/\∃us fp' tp',Ending.returned v=.returned (zci us)/\za3 w' (fun k=>(k<w'.heap.size/\k∉fp')/\(A k\/w.heap.size<=k\/k∈fp)) res us fp' tp'/\fp'.Nodup/\(∀b∈fp',b∈fp\/w.heap.size<=b)/\Bk (fun k=>k<w.heap.size/\k∉fp) w w':=by
  rintro⟨pl,hk⟩;obtain⟨vs,hvs,hk⟩:=zai hk;obtain⟨us,r1,r2⟩:=zbr h2 fn hvs;have r2:=zs9 r2;obtain⟨B,hB⟩:=h2.fam;obtain⟨s,k1,⟨tp',k2⟩,k3,k4⟩:=zgc h2 hB hk r2;rw[Kh]at k4;have hsp:s.Pairwise okP:=(J0.1 (k4 List.Pairwise.nil)).imp fun h=>h.symm;have hin:∀b∈bks B s,∃e,σ'.On e/\b∈g'.φ e:=fun b hb=>by
   obtain⟨x,hx,hm⟩:=Jr.1 hb;exact⟨x.1,k3 x hx,hB.sub x.1 x.2 b (k3 x hx) hm⟩
  have hA:∀b,zb8 σ' g' w' b->(b<w'.heap.size/\b∉bks B s)/\(A b\/w.heap.size<=b\/b∈fp):=fun b hb=>by
   refine⟨⟨hb.1.2.2.1,fun hm=>?_⟩,?_⟩
   ·obtain⟨e,ho,hm⟩:=hin b hm;exact hb.2 e ho hm
   ·have:=hb.1.2.2.2;rw[(K1 h5).1]at this;exact this
  refine⟨_,r1,us,bks B s,tp',rfl,za3.keepA hA k2,zey h2 hB k3 hsp,fun b hb=>?_,h4⟩;obtain⟨e,ho,hm⟩:=hin b hb;have:=(h2.ebase e ho b hm).2;rw[(K1 h5).2]at this;exact this
 have key':∀{Y:Prop},(qpz P fn.results.toList res [] σ'\/∃pl,qpz P fn.results.toList res pl σ')->((∃pl,qpz P fn.results.toList res pl σ')->Y)->Y:=fun h k=>h.elim (fun h=>k ⟨[],h⟩) k
 cases e with
 | normal=>exact⟨h2.defers,key' h1 key⟩
 | ret=>exact⟨h2.defers,key' h1 key⟩
 | exit _=>exact h1.elim
 | goto _=>exact h1.elim
 | panic _=>exact h1.elim
 | outgrown=>exact h1.elim
attribute [go_sem] PMm qpz qga
end
section
open Go.RowKit
abbrev inX (x:Nt)(pos:List Int):Prop:=XC Tryz.prog 54 [(false,ntD x)] [(false,.one .nmp),(true,.one (zd8 pos)),(true,bD false)]
theorem zw8 (p:Nt)(hw:Fit p)(pos0:List Int)(hm0:zfd p=.inl pos0)(H:∀x∈p.parts,∀pos,zfd x=.inl pos->inX x pos):inX p pos0:=by
 have hl:p.parts.length<=1048576:=by have:=hw.own;omega
 have HO:=qdv p
 unfold inX
 simp only[ntD,zaj p]at HO⊢
 refine XC_ofM Tryz.call54 Tryz.func54 rfl Yo (by simp only[Qi,Q4,Tryz.ntmps54];omega) (by simp[zcg,T.isPin]) ?_
 simp -implicitDefEqProofs only[go_sem,Tryz.results54]
 refine zcc Yn ?_
 simp -implicitDefEqProofs only[go_sem]
 refine zag (fun x:Nat×List (List An)=>hd [(1,.one (.bx 1 0)),(5,.one (.ow 416 0)),(15,.one (.rn (ntS p.parts))),(16,vI p.parts.length),(17,vI x.1)] [(1,ntR p)] [(416,⟨false,1,x.2.map fun ags=>[anM ags],0,true⟩)])
  (fun x=>x.1<=p.parts.length/\x.2.length=x.1/\∃acc,zfd p=goR p x.1 ((p.parts.drop x.1).map zfd) acc/\PermL x.2 acc/\(∀own∈acc,okA own)/\∀q∈p.parts.take x.1,q.form.forms=true) (fun x=>p.parts.length-x.1) (0,[]) (zac ?_) ?_ ?_
 ·simp -implicitDefEqProofs only[go_sem,Qa]
 ·exact⟨Kd _,rfl,[],zj0 p,.nil,(fun o ho=>by cases ho),fun q hq=>by cases hq⟩
 ·rintro⟨k,Ls⟩ ⟨hk,hlk,acc,hm,hp,hok,hf⟩;simp only at hk hlk hm hp hf⊢;rw[hm0]at hm;by_cases hlt:k<p.parts.length
  ·have hmem:p.parts[k]∈p.parts:=Qj hlt;have Hk:=H _ hmem;have Hr:=zi9 p.parts[k] (hw.sub _ hmem);have hqw:=zd6 hmem;have hwa:=hw.all;have hio:=zjz p.parts[k] (hw.sub _ hmem);have hil:=zlp p.parts[k];rw[Qh hlt,Qf]at hm;have htk:p.parts.take (k+1)=p.parts.take k++[p.parts[k]]:=Qk hlt;simp -implicitDefEqProofs only[go_sem,zan,hlt,zaj p.parts[k],Qa];generalize hq:p.parts[k]=q at *;unfold inX at Hk;simp only[ntD,zaj q]at Hk Hr;cases hi:zfd q with
   | inl pos =>
    have Hk:=Hk pos hi;rw[hi]at hm;have hm:(.inl pos0:Sum (List Int) (List An))=.inl ((k:Int)::pos):=hm;cases hm;have hpl:=hil pos hi;have hpl2:1+pos.length<=4294967296:=by omega
    have hfl:=qqa pos;refine zzd [6] [23] [] (Hk) (by simp -implicitDefEqProofs only[go_sem,Qg]) (by simp -implicitDefEqProofs only[go_sem,Qg]) (by simp -implicitDefEqProofs only[go_sem,Qg]) (by simp -implicitDefEqProofs only[go_sem,Qg]) ?_;simp -implicitDefEqProofs only[go_sem,Qg];refine za7 Yn ?_;simp -implicitDefEqProofs only[go_sem];refine apD true (by simp -implicitDefEqProofs only[go_sem,ne_eq,Q6,Qa,hpl2,hfl]) ?_;simp -implicitDefEqProofs only[go_sem,ne_eq,Q6,Qa,hpl2,hfl]
   | inr out =>
    rw[hi]at Hr hm;refine zhq Hr Yn ?_;rintro res ⟨ags,hperm,rfl⟩;obtain⟨ho1,ho2⟩:=hio out hi;simp -implicitDefEqProofs only[go_sem,Qb];refine zcc Yn ?_;simp -implicitDefEqProofs only[go_sem];have hkl:Ls.length<=4294967295:=by omega
    refine apD false (by simp -implicitDefEqProofs only[go_sem,ne_eq,Q6,Qa,hkl]) ?_;simp -implicitDefEqProofs only[go_sem,ne_eq,Q6,Qa,hkl];rw[zap Yp];refine⟨(k+1,Ls++[ags]),⟨hlt,by simp[hlk],acc++[out],by rw[hm0];exact hm,hp.snoc hperm,fun o ho=>?_,fun x hx=>?_⟩,by simp only;omega,zac ?_⟩
    ·rcases Qm.1 ho with h|h
     ·exact hok o h
     ·rw[Qy.1 h];exact ho1
    ·rw[htk]at hx;rcases Qm.1 hx with h|h
     ·exact hf x h
     ·rw[Qy.1 h];exact zbt ho2
    ·simp -implicitDefEqProofs only[go_sem,Q2,Qf,Qo]
  ·have hke:k=p.parts.length:=by omega
   subst hke;rw[Kv]at hf;have HO':=HO Ls hw hf hlk (hp.ok hok);rw[Yf]at hm;have hm2:(.inl pos0:Sum (List Int) (List An))=match opR p acc with|none=>.inl []|some out=>.inr out:=hm
   simp -implicitDefEqProofs only[go_sem,hlt];refine frzS 416 rfl rfl ?_;simp -implicitDefEqProofs only[go_sem];refine zhq HO' Yn ?_;intro res hres;rcases hres with⟨h1,x,rfl⟩|⟨out,ags,h1,h2,rfl⟩
   ·have e2:opR p acc=none:=by
     rcases zga (p:=p) hp hok with⟨_,e⟩|⟨r,r',e1,_⟩
     ·exact e
     ·rw[e1]at h1;cases h1
    rw[e2]at hm2;cases hm2;simp -implicitDefEqProofs only[go_sem,Qg];refine za7 Yn ?_;simp -implicitDefEqProofs only[go_sem]
   ·obtain⟨r,e2,e3⟩:∃r,opR p acc=some r/\ags.Perm r:=by
     rcases zga (p:=p) hp hok with⟨e,_⟩|⟨r,r',e1,e2,e3⟩
     ·rw[e]at h1;cases h1
     ·rw[e1]at h1;cases h1;exact⟨r,e2,h2.trans e3⟩
    rw[e2]at hm2;cases hm2
theorem qa9:∀p:Nt,Fit p->∀pos,zfd p=.inl pos->inX p pos :=
 zda fun r f l t ps ih hw pos hm=>zw8 (.mk r f l t ps) hw pos hm fun x hx=>ih x hx (hw.sub x hx)
end
section
open Go.RowKit
variable {P:Program}
abbrev nilP (z:Nat):T:=.pin (.slice none 0 0) (.sl z [])
def RV2 (σ:St):V->D->Prop
 | .one (.nl z),.one (.pin (.slice none 0 0) (.sl y []))=>z=y
 | v,d=>RV1 σ v d
theorem RV2.rep {n0:Nat->Prop}{N:Nat}{σ:St}{g:Gh}{a:Act}{w:World}(hR:Rel n0 N σ g a w){v:V}{d:D}{u:Value}(h:RV2 σ v d)(hv:VR σ g w v u):zt2 w (fun b=>b<w.heap.size/\g.A0 b) d u:=by
 unfold RV2 at h
 split at h
 ·have hv:u=.slice none 0 0:=hv;subst hv;show zas _ _ _ _
  unfold zas;refine⟨rfl,?_⟩;unfold zas;exact⟨none,0,rfl,Qz _,by decide,Or.inl rfl⟩
 ·exact h.rep hR hv
def RVn (σ:St):List V->List D->Prop
 | [],[]=>True
 | v::vs,d::ds=>RV2 σ v d/\RVn σ vs ds
 | _,_=>False
theorem RVn.rep {n0:Nat->Prop}{N:Nat}{σ:St}{g:Gh}{a:Act}{w:World}(hR:Rel n0 N σ g a w):∀{vs:List V}{ds:List D},RVn σ vs ds->∀{us:List Value},VRl σ g w vs us->zbf w (fun b=>b<w.heap.size/\g.A0 b) ds us
 | [],[],_,us,hv=>hv
 | v::vs,d::ds,h,us,hv=>by
  obtain⟨u,us',rfl,k1,k2⟩:=hv;exact⟨u,us',rfl,h.1.rep hR k1,RVn.rep hR h.2 k2⟩
 | [],_::_,h,_,_=>h.elim
 | _::_,[],h,_,_=>h.elim
def PRN (P:Program)(rs:List ResultVar)(K:List D->Prop)(e:Exit)(σ:St):Prop:=(e=.normal\/e=.ret)/\∃res,K res/\zar (zbu P σ rs) fun vs=>RVn σ vs res
theorem RX_ofN {f:FuncId}{fn:Func}{c:Code}{args:List D}{K:List D->Prop}(hc:zbb P f)(hf:P.funcs[f]?=some fn)(hb:fn.body=some c)(hN:(rd args).length<=fn.ntmps)
  (h:zb6 P fn.ntmps c (zc4 (rd args)) (PRN P fn.results.toList K)):RX P f args K:=by
 refine⟨hc,fun w vs A hv=>zwk hf hb hN h hv fun e σ' g' a' w' hq h2 h3 h4=>?_⟩
 obtain⟨he,res,hk,hr⟩:=hq
 obtain⟨us0,hvs,hr⟩:=zai hr
 obtain⟨us,r1,r2⟩:=zbr h2 fn hvs
 exact⟨he,_,r1,res,us,hk,rfl,(RVn.rep h2 hr r2).keep (fun _ _=>rfl) fun b hb=>⟨hb.1,h4 b hb.2⟩,h3⟩
theorem qt5 (σ:St):RVn σ [] []=True:=rfl
theorem qng (σ:St)(v:V)(vs:List V)(d:D)(ds:List D):RVn σ (v::vs) (d::ds)=(RV2 σ v d/\RVn σ vs ds):=rfl
theorem RV2_nl (σ:St)(z y:Nat):RV2 σ (.one (.nl z)) (.one (nilP y))=(z=y):=rfl
theorem RV2_t (σ:St)(x:T)(d:D):RV2 σ (.one (.t x)) d=RV1 σ (.one (.t x)) d:=by unfold RV2;split<;>first|rfl|(rename_i h;cases h)
attribute [go_sem] PRN qt5 qng RV2_nl RV2_t
theorem Wk.nlP {σ:St}(i:Nat){z:Nat}(h:σ.sl i=.one (.t (nilP z))):Wk σ (σ.put (some i) (.one (.nl z))):=fun n0 N g a w hR=>by
 refine⟨g,hR.slots_of rfl rfl hR.defers hR.size fun j=>?_,rfl,rfl⟩
 show VR σ g w (upd σ.sl i _ j) _
 by_cases hj:j=i
 ·subst hj;rw[zae];have hv:=hR.slots j;rw[h]at hv;have hv:zas w (Fix σ g w) (nilP z) (a.tmps.getD j (g.R0.ξ j)):=hv;unfold zas at hv;exact hv.1
 ·rw[zak _ _ hj];exact hR.slots j
end
section
open Go.RowKit
theorem qbd (p:Nt)(hw:Fit p)(out0:List An)(hm0:zfd p=.inr out0):RX Tryz.prog 54 [ntD p] (fun res=>∃ags:List An,ags.Perm out0/\res=[.one (anM ags),.one (nilP 1),bD true]):=by
 have H:∀x∈p.parts,RX Tryz.prog 54 [ntD x] (insK (zfd x)):=fun x hx=>zi9 x (hw.sub x hx)
 have hl:p.parts.length<=1048576:=by have:=hw.own;omega
 have HO:=qdv p
 simp only[ntD,zaj p]at HO⊢
 refine RX_ofN Tryz.call54 Tryz.func54 rfl (zao Yo) ?_
 refine zb6.ofEx Yo ?_
 simp -implicitDefEqProofs only[go_sem,Tryz.results54]
 refine zcc Yn ?_
 simp -implicitDefEqProofs only[go_sem]
 refine zag (fun x:Nat×List (List An)=>hd [(1,.one (.bx 1 0)),(5,.one (.ow 416 0)),(15,.one (.rn (ntS p.parts))),(16,vI p.parts.length),(17,vI x.1)] [(1,ntR p)] [(416,⟨false,1,x.2.map fun ags=>[anM ags],0,true⟩)])
  (fun x=>x.1<=p.parts.length/\x.2.length=x.1/\∃acc,zfd p=goR p x.1 ((p.parts.drop x.1).map zfd) acc/\PermL x.2 acc/\(∀own∈acc,okA own)/\∀q∈p.parts.take x.1,q.form.forms=true) (fun x=>p.parts.length-x.1) (0,[]) (zac ?_) ?_ ?_
 ·simp -implicitDefEqProofs only[go_sem,Qa]
 ·exact⟨Kd _,rfl,[],zj0 p,.nil,(fun o ho=>by cases ho),fun q hq=>by cases hq⟩
 ·rintro⟨k,Ls⟩ ⟨hk,hlk,acc,hm,hp,hok,hf⟩;simp only at hk hlk hm hp hf⊢;by_cases hlt:k<p.parts.length
  ·have hmem:p.parts[k]∈p.parts:=Qj hlt;have Hk:=H _ hmem;have hqw:=zd6 hmem;have hwa:=hw.all;have hio:=zjz p.parts[k] (hw.sub _ hmem);have hil:=zlp p.parts[k];rw[Qh hlt,Qf]at hm;have htk:p.parts.take (k+1)=p.parts.take k++[p.parts[k]]:=Qk hlt;simp -implicitDefEqProofs only[go_sem,zan,hlt,zaj p.parts[k],Qa];generalize hq:p.parts[k]=q at *;simp only[ntD,zaj q]at Hk;refine zhq Hk Yn ?_;intro res hres;cases hi:zfd q with
   | inl pos =>
    rw[hi]at hm;have hm:zfd p=.inl ((k:Int)::pos):=hm;rw[hm0]at hm;cases hm
   | inr out =>
    rw[hi]at hres hm;obtain⟨ags,hperm,rfl⟩:=hres;obtain⟨ho1,ho2⟩:=hio out hi;simp -implicitDefEqProofs only[go_sem,Qb];refine zcc Yn ?_;simp -implicitDefEqProofs only[go_sem];have hkl:Ls.length<=4294967295:=by omega
    refine apD false (by simp -implicitDefEqProofs only[go_sem,ne_eq,Q6,Qa,hkl]) ?_;simp -implicitDefEqProofs only[go_sem,ne_eq,Q6,Qa,hkl];rw[zap Yp];refine⟨(k+1,Ls++[ags]),⟨hlt,by simp[hlk],acc++[out],hm,hp.snoc hperm,fun o ho=>?_,fun x hx=>?_⟩,by simp only;omega,zac ?_⟩
    ·rcases Qm.1 ho with h|h
     ·exact hok o h
     ·rw[Qy.1 h];exact ho1
    ·rw[htk]at hx;rcases Qm.1 hx with h|h
     ·exact hf x h
     ·rw[Qy.1 h];exact zbt ho2
    ·simp -implicitDefEqProofs only[go_sem,Q2,Qf,Qo]
  ·have hke:k=p.parts.length:=by omega
   subst hke;rw[Kv]at hf;have HO':=HO Ls hw hf hlk (hp.ok hok);have hm2:zfd p=match opR p acc with|none=>.inl []|some out=>.inr out:=by
    rw[hm,Yf];rfl
   simp -implicitDefEqProofs only[go_sem,hlt];refine frzS 416 rfl rfl ?_;simp -implicitDefEqProofs only[go_sem];refine zhq HO' Yn ?_;intro res hres;rcases hres with⟨h1,x,rfl⟩|⟨out,ags,h1,h2,rfl⟩
   ·have e2:opR p acc=none:=by
     rcases zga (p:=p) hp hok with⟨_,e⟩|⟨r,r',e1,_⟩
     ·exact e
     ·rw[e1]at h1;cases h1
    rw[e2,hm0]at hm2;cases hm2
   ·obtain⟨r,e2,e3⟩:∃r,opR p acc=some r/\ags.Perm r:=by
     rcases zga (p:=p) hp hok with⟨e,_⟩|⟨r,r',e1,e2,e3⟩
     ·rw[e]at h1;cases h1
     ·rw[e1]at h1;cases h1;exact⟨r,e2,h2.trans e3⟩
    rw[e2,hm0]at hm2;have hm2:(.inr out0:Sum (List Int) (List An))=.inr r:=hm2;cases hm2;simp -implicitDefEqProofs only[go_sem,Qb];exact⟨_,⟨ags,e3,rfl⟩,by simp -implicitDefEqProofs only[go_sem]⟩
theorem zkc (p:Nt)(hw:Fit p)(hs:¬zeg p>60)(out:List An)(hi:zfd p=.inr out):FC Tryz.prog 17 [ntD p] [.one (zd8 []),bD false,bD true]:=by
 have HN:=zfj p (by have:=hw.all;omega)
 have HI:=qbd p hw out hi
 have e0:zd8 []=.sl 1 []:=rfl
 simp only[ntD,zaj p,e0]at HN HI⊢
 refine qu6 Tryz.call17 Tryz.func17 rfl (zao Yo) ?_
 refine zb6.cut 0 rfl Yo ?_
 simp -implicitDefEqProofs only[go_sem,Tryz.results17]
 refine zb6.cut 0 rfl Yo ?_
 simp -implicitDefEqProofs only[go_sem]
 refine callF (HN) (by simp -implicitDefEqProofs only[go_sem,hs,Jh]) ?_
 simp -implicitDefEqProofs only[go_sem,hs,Jh]
 refine zb6.cut 0 rfl Yo ?_
 simp -implicitDefEqProofs only[go_sem]
 refine zhq HI Yn ?_
 rintro res ⟨ags,hperm,rfl⟩
 simp -implicitDefEqProofs only[go_sem]
 refine zb6.wkS (Wk.nlP 6 (z:=1) rfl) ?_
 refine zb6.ofEx Yo ?_
 simp -implicitDefEqProofs only[go_sem,Qb]
theorem zj2 (p:Nt)(hw:Fit p):FC Tryz.prog 17 [ntD p] [.one (zd8 (fwI p).1),bD (fwI p).2.1,bD (fwI p).2.2]:=by
 have HN:=zfj p (by have:=hw.all;omega)
 unfold fwI
 by_cases hs:zeg p>60
 ·rw[if_pos hs];show FC _ _ _ [.one (.sl 1 []),bD false,bD false]
  simp only[ntD,zaj p]at HN⊢;refine zad Tryz.call17 Tryz.func17 rfl Yo (zao Yo) ?_;simp -implicitDefEqProofs only[go_sem,Tryz.results17];refine callF (HN) (by simp -implicitDefEqProofs only[go_sem,hs,Jv]) ?_;simp -implicitDefEqProofs only[go_sem,hs,Jv]
 ·rw[if_neg hs];cases hi:zfd p with
  | inl pos =>
   have HI:=qa9 p hw pos hi;unfold inX at HI;simp only[ntD,zaj p]at HN HI⊢;refine zfg Tryz.call17 Tryz.func17 rfl Yo (zao Yo) ?_;simp -implicitDefEqProofs only[go_sem,Tryz.results17];refine callF (HN) (by simp -implicitDefEqProofs only[go_sem,hs,Jh]) ?_;simp -implicitDefEqProofs only[go_sem,hs,Jh];refine zzd [1] [12] [] (HI) (by simp -implicitDefEqProofs only[go_sem,Qg]) (by simp -implicitDefEqProofs only[go_sem,Qg]) (by simp -implicitDefEqProofs only[go_sem,Qg]) (by simp -implicitDefEqProofs only[go_sem,Qg]) ?_;simp -implicitDefEqProofs only[go_sem,Qg]
  | inr out=>exact zkc p hw hs out hi
end
section
open Go.RowKit
theorem qtu (d:Nt)(hw:d.wt<=1048576):(fwS d).1.length<=1048576:=by
 rw[<-fw_eq d (Fit.of d hw)]
 unfold fwI
 split
 ·exact Kd _
 ·cases hi:zfd d with
  | inl pos=>exact Ja (zlp d pos hi) hw
  | inr out=>exact Kd _
theorem qm4 (d:Nt):FC Tryz.prog 4 [ntD d] [bD true]:=by
 have HZ:=zet d 1048576 Yp Yp
 simp only[ntD,zaj d]at HZ⊢
 refine zfg Tryz.call4 Tryz.func4 rfl Yo (zao Yo) ?_
 simp -implicitDefEqProofs only[go_sem,Tryz.results4]
 refine callF (HZ) Yn ?_
 simp -implicitDefEqProofs only[go_sem]
 refine⟨fun h=>trivial,fun h=>?_⟩
 have hw:d.wt<=1048576:=by have:=(zdx (by simpa using h)).1;omega
 have HS:=zjg d (Fit.of d hw)
 have HI:=zj2 d (Fit.of d hw)
 rw[fw_eq d (Fit.of d hw)]at HI
 have HT:=ze7 d hw
 have HE:=ze3 d d
 have hrl:=qtu d hw
 generalize fwS d=A at HS HI hrl
 obtain⟨R,G,G2⟩:=A
 simp only at HS HI hrl
 have HF:=qaa R R
 simp only[ntD,zaj d]at HS HI HT HE
 refine callF (HT) Yn ?_
 simp -implicitDefEqProofs only[go_sem]
 refine ztk 771 rfl rfl ?_
 simp -implicitDefEqProofs only[go_sem]
 refine ztk 773 rfl rfl ?_
 simp -implicitDefEqProofs only[go_sem]
 refine ztk 776 rfl rfl ?_
 simp -implicitDefEqProofs only[go_sem]
 refine ztk 777 rfl rfl ?_
 simp -implicitDefEqProofs only[go_sem]
 refine zot (HS) Yn ?_
 simp -implicitDefEqProofs only[go_sem]
 refine callF (HT) Yn ?_
 simp -implicitDefEqProofs only[go_sem]
 refine callF (HI) Yn ?_
 simp -implicitDefEqProofs only[go_sem]
 refine callF (HF) (by simp -implicitDefEqProofs only[go_sem,zax,Qw,Qb]) ?_
 simp -implicitDefEqProofs only[go_sem,zax,Qw,Qb]
 refine drawn Yo ?_
 simp -implicitDefEqProofs only[go_sem]
 refine zav (HT) Yn ?_
 simp -implicitDefEqProofs only[go_sem]
 refine zav (HE) Yn ?_
 simp -implicitDefEqProofs only[go_sem]
 refine⟨Yo,fun h=>?_,fun _=>?_⟩
 ·simp[zax]at h
 have hcD:=zem d
 have hcR:=zu2 R
 have HM1:=zen d 1 Yp Yp
 have hm1:=zel d 1
 have HM2:=zn8 R 1 Yp Yp
 have HL:=zo0 R 1 Yp Yp
 have hmR:=(zut R 1).1
 rw[zdd]at HM1
 generalize (za2 d 1).2=k3 at HM1 hm1
 generalize (za2 d 1).1.form.atom.args=f3 at HM1
 generalize (za2 d 1).1.form.parts=f4 at HM1
 generalize (za2 d 1).1.term.args=f5 at HM1
 generalize (za2 d 1).1.parts=f8 at HM1
 generalize (zhx R 1).2=k2 at HM2 HL hmR
 generalize (zhx R 1).1=r1 at HM2 HL
 simp only[zaj d]at HM1
 refine zev [1,4,5,6,7,8,9,10,56,57] (HM1) Yn Yn Yn Yn Yn rfl ?_
 simp -implicitDefEqProofs only[go_sem]
 refine callF (HF) (by simp -implicitDefEqProofs only[go_sem,zax,Qw,Qb]) ?_
 simp -implicitDefEqProofs only[go_sem,zax,Qw,Qb]
 refine zev [1,4,5,6,8,9,10,77,78] (HM2) Yn Yn Yn Yn Yn rfl ?_
 simp -implicitDefEqProofs only[go_sem]
 refine callF (HL) Yn ?_
 simp -implicitDefEqProofs only[go_sem]
 refine⟨fun h=>by simp at h,fun _=>?_⟩
 refine callF (HT) Yn ?_
 simp -implicitDefEqProofs only[go_sem]
 refine callF (HI) Yn ?_
 simp -implicitDefEqProofs only[go_sem]
 refine callF (HF) (by simp -implicitDefEqProofs only[go_sem,zax,Qw,Qb]) ?_
 simp -implicitDefEqProofs only[go_sem,zax,Qw,Qb]
 refine callF (HL) Yn ?_
 simp -implicitDefEqProofs only[go_sem]
 refine⟨fun h=>by simp at h,fun _=>trivial⟩
end
section
open Go.RowKit
variable {P:Program}
theorem qh9 {σ:St}{g:Gh}{w:World}{v:Value}{c:C}:∀{cs:List C}{vs:List Value}{m:Nat},CRs σ g w cs vs->cs[m]?=some (.cv v)->CR σ g w c v->CRs σ g w (cs.set m c) vs
 | [],_,_,h,_,_=>h
 | x::cs,vs,0,h,hm,hc=>by
  obtain⟨u,us,rfl,h1,h2⟩:=h;rw[List.getElem?_cons_zero,Qc]at hm;subst hm;have h1:u=v:=h1;subst h1;exact⟨u,us,rfl,hc,h2⟩
 | x::cs,vs,m+1,h,hm,hc=>by
  obtain⟨u,us,rfl,h1,h2⟩:=h;rw[List.getElem?_cons_succ]at hm;exact⟨u,us,rfl,h1,qh9 h2 hm hc⟩
theorem Rel.takeA {n0:Nat->Prop}{N:Nat}{σ:St}{g:Gh}{a:Act}{w:World}(hR:Rel n0 N σ g a w){e e' s m i j sz gn sz1:Nat}{cz:List C}{rows rows1:List (List T)}{r:List T}{v:Value}(hD:Deep ⟨upd σ.sl s (.one .any),σ.bx,σ.ev⟩)
  (hsl:σ.sl s=.agg cz) (hcs:cz.all C.mOk=true) (hm:cz[m]?=some (.cv v)) (he:σ.ev e=some ⟨true,sz,rows,gn,true⟩) (hr:rows[i]?=some r) (hc:r[j]?=some (.pin v (.sl sz1 rows1))) (hne:σ.ev e'=none) :
  ∃ao ln c,∃g',Rel n0 N ⟨upd σ.sl s (.agg (cz.set m (.ow e' 0))),σ.bx,upd (upd σ.ev e (some ⟨true,sz,rows.set i (r.set j (.vs ao ln c)),gn,true⟩)) e' (some ⟨true,sz1,rows1,0,true⟩)⟩ g' a w/\g'.A0=g.A0/\g'.R0=g.R0:=by
 have hOn:σ.On e:=⟨_,he,rfl⟩
 have hee:e≠e':=fun h=>by rw[h,hne]at he;cases he
 have hO:=zea hR he
 have hnd:=hR.nodup e hOn
 unfold za5 at hO
 obtain⟨ao0,cap,e1,e2,e3,e4⟩:=hO
 rcases e4 with⟨_,_,rfl,_⟩|⟨b0,cells,ty,fps,k1,k2,k3,k4,k5⟩
 ·simp at hr
 obtain⟨f1,ff,f2,u,rfl,c1,c2,c3⟩:=zaq.cell k5 hr hc
 unfold za5 at c2
 obtain⟨rfl,c2⟩:=c2
 have c2':=c2
 unfold za5 at c2'
 obtain⟨ao,cp,hv,hv2,hv3,hv4⟩:=c2'
 rw[k2]at hnd
 obtain⟨nb,nd⟩:=Kp.1 hnd
 obtain⟨nd1,nd2,nd3⟩:=Q8.1 nd
 obtain⟨nd4,nd5,nd6⟩:=Q8.1 nd2
 have hsubf:∀b,b∈ff->b∈g.φ e:=fun b hb=>by rw[k2];simp[hb]
 have hsubr:∀b,b∈b0::(f1++f2)->b∈g.φ e:=fun b hb=>by
  rw[k2];simp only[Qp,Qm]at hb⊢;rcases hb with h|h|h
  ·exact Or.inl h
  ·exact Or.inr (Or.inl h)
  ·exact Or.inr (Or.inr (Or.inr h))
 have hdis:∀b,b∈b0::(f1++f2)->b∉ff:=fun b h hm=>by
  simp only[Qp,Qm]at h;rcases h with rfl|h|h
  ·exact nb (by simp[hm])
  ·exact nd3 b h b (by simp[hm]) rfl
  ·exact nd6 b hm b h rfl
 have hndr:(b0::(f1++f2)).Nodup:=by
  refine Kp.2 ⟨fun hm=>nb ?_,Q8.2 ⟨nd1,nd5,fun x hx y hy hxy=>nd3 x hx y (by simp[hy]) hxy⟩⟩;simp only[Qm]at hm⊢;rcases hm with h|h
  ·exact Or.inl h
  ·exact Or.inr (Or.inr h)
 have hrows:=c3 w (.vs ao rows1.length cp) [] (fun _ _=>rfl) (by unfold za5;exact⟨hv,rfl⟩)
 rw[Kx]at hrows
 obtain⟨d1,d2,d3⟩:=hD
 refine⟨ao,rows1.length,cp,{ g with ψ:=fun q n=>if q=e' then u else g.ψ q n,φ:=upd (upd g.φ e (b0::(f1++f2))) e' ff },?_,rfl,rfl⟩
 have φe:(upd (upd g.φ e (b0::(f1++f2))) e' ff) e=b0::(f1++f2):=by rw[zak _ _ hee,zae]
 have φe':(upd (upd g.φ e (b0::(f1++f2))) e' ff) e'=ff:=zae _ _ _
 have φo:∀q,q≠e->q≠e'->(upd (upd g.φ e (b0::(f1++f2))) e' ff) q=g.φ q:=fun q h1 h2=>by rw[zak _ _ h2,zak _ _ h1]
 have hev:∀q,q≠e->q≠e'->(upd (upd σ.ev e (some ⟨true,sz,rows.set i (r.set j (.vs ao rows1.length cp)),gn,true⟩)) e' (some ⟨true,sz1,rows1,0,true⟩)) q=σ.ev q:=fun q h1 h2=>by rw[zak _ _ h2,zak _ _ h1]
 have heve:(upd (upd σ.ev e (some ⟨true,sz,rows.set i (r.set j (.vs ao rows1.length cp)),gn,true⟩)) e' (some ⟨true,sz1,rows1,0,true⟩)) e=some ⟨true,sz,rows.set i (r.set j (.vs ao rows1.length cp)),gn,true⟩:=by rw[zak _ _ hee,zae]
 have heve':(upd (upd σ.ev e (some ⟨true,sz,rows.set i (r.set j (.vs ao rows1.length cp)),gn,true⟩)) e' (some ⟨true,sz1,rows1,0,true⟩)) e'=some ⟨true,sz1,rows1,0,true⟩:=zae _ _ _
 generalize hE:(upd (upd σ.ev e (some ⟨true,sz,rows.set i (r.set j (.vs ao rows1.length cp)),gn,true⟩)) e' (some ⟨true,sz1,rows1,0,true⟩))=ev2 at hev heve heve'
 generalize hF:(upd (upd g.φ e (b0::(f1++f2))) e' ff)=φ2 at φe φe' φo
 have hψe:∀q n,q≠e'->(if q=e' then u else g.ψ q n)=g.ψ q n:=fun q n h=>if_neg h
 have hold:∀q,St.On ⟨upd σ.sl s (.agg (cz.set m (.ow e' 0))),σ.bx,ev2⟩ q->∃p,σ.On p/\(∀b∈φ2 q,b∈g.φ p)/\(q≠e'->p=q)/\(q=e'->p=e):=fun q hq=>by
  by_cases h1:q=e'
  ·subst h1;exact⟨e,hOn,fun b hb=>hsubf b (by rw[φe']at hb;exact hb),fun h=>absurd rfl h,fun _=>rfl⟩
  ·by_cases h2:q=e
   ·subst h2;exact⟨q,hOn,fun b hb=>hsubr b (by rw[φe]at hb;exact hb),fun _=>rfl,fun h=>absurd h h1⟩
   ·obtain⟨x,hx,ho⟩:=hq;have hx:ev2 q=some x:=hx;rw[hev q h2 h1]at hx;exact⟨q,⟨x,hx,ho⟩,fun b hb=>by rw[φo q h2 h1]at hb;exact hb,fun _=>rfl,fun h=>absurd h h1⟩
 have hhas:∀q n,σ.has q n->St.has ⟨upd σ.sl s (.agg (cz.set m (.ow e' 0))),σ.bx,ev2⟩ q n/\(if q=e' then u else g.ψ q n)=g.ψ q n:=fun q n ⟨x,hx,hg⟩=>by
  have h1:q≠e':=fun h=>by rw[h,hne]at hx;cases hx
  refine⟨?_,hψe q n h1⟩;by_cases h2:q=e
  ·subst h2;rw[he]at hx;cases hx;exact⟨_,heve,hg⟩
  ·exact⟨x,(hev q h2 h1).trans hx,hg⟩
 have hrn:∀b,zb8 σ g w b->zb8 ⟨upd σ.sl s (.agg (cz.set m (.ow e' 0))),σ.bx,ev2⟩ { g with ψ:=fun q n=>if q=e' then u else g.ψ q n,φ:=φ2 } w b:=fun b hb=>by
  have hno:∀q,St.On ⟨upd σ.sl s (.agg (cz.set m (.ow e' 0))),σ.bx,ev2⟩ q->b∉φ2 q:=fun q hq hm=>by
   obtain⟨p,p1,p2,_⟩:=hold q hq;exact hb.2 p p1 (p2 b hm)
  exact⟨⟨hb.1.1,fun q x hx ho hh=>hno q ⟨x,hx,ho⟩ (List.mem_of_mem_head? hh),hb.1.2.2⟩,hno⟩
 have hdeep:∀q x,q≠e->q≠e'->ev2 q=some x->σ.ev q=some x/\x.on=true/\x.deep=true:=fun q x h1 h2 hx=>by
  rw[hev q h1 h2]at hx;exact⟨hx,d3 q x hx⟩
 refine⟨hR.defers,hR.size,hR.anew,fun q=>?_,fun b cs hb=>?_,hR.base,hR.inj,fun q x hx ho=>?_,fun q x hx ho=>?_,fun q n=>?_,fun q hq b hb=>?_,fun q hq b hb=>?_,fun q hq=>?_,fun q q' hq hq' hne' b hb hb'=>?_,fun q k hq hk hb=>?_⟩
 ·show VR _ _ _ (upd σ.sl s (.agg (cz.set m (.ow e' 0))) q) _
  have hv0:=hR.slots q;by_cases hqs:q=s
  ·subst hqs;rw[zae];rw[hsl]at hv0;obtain⟨a1,k1,k2⟩:=hv0;have k3:=ztw (σ:=σ) (g:=g) (σ':=⟨upd σ.sl q (.agg (cz.set m (.ow e' 0))),σ.bx,ev2⟩) (g':={ g with ψ:=fun q n=>if q=e' then u else g.ψ q n,φ:=φ2 }) rfl rfl hhas hrn hcs k2;exact⟨a1,k1,qh9 k3 hm ⟨(if_pos rfl).symm,⟨_,heve',Qz _⟩⟩⟩
  ·rw[zak _ _ hqs];have hm:=d1 q;have hm:(upd σ.sl s (.one .any) q).mOk=true:=hm;rw[zak _ _ hqs]at hm;exact mv_vr (σ:=σ) (g:=g) (σ':=⟨upd σ.sl s (.agg (cz.set m (.ow e' 0))),σ.bx,ev2⟩) (g':={ g with ψ:=fun q n=>if q=e' then u else g.ψ q n,φ:=φ2 }) rfl rfl hhas hrn hm hv0
 ·obtain⟨vs,ty,q1,q2⟩:=hR.boxes b cs hb;exact⟨vs,ty,q1,ztw (σ:=σ) (g:=g) (σ':=⟨upd σ.sl s (.agg (cz.set m (.ow e' 0))),σ.bx,ev2⟩) (g':={ g with ψ:=fun q n=>if q=e' then u else g.ψ q n,φ:=φ2 }) rfl rfl hhas hrn (d2 b cs hb) q2⟩
 ·have hx2:ev2 q=some x:=hx;clear hx;show EvR w _ x (if q=e' then u else g.ψ q x.gen) (φ2 q)
  by_cases h1:q=e'
  ·subst h1;rw[heve']at hx2;cases hx2;rw[if_pos rfl,φe'];refine⟨ao,cp,hv,hv2,hv3,?_⟩;rcases hv4 with h|⟨b,cells,ty,fps,q1,q2,q3,q4,q5⟩
   ·exact Or.inl h
   ·exact Or.inr ⟨b,cells,ty,fps,q1,q2,q3,q4,by rw[if_pos rfl];exact q5⟩
  ·rw[if_neg h1];by_cases h2:q=e
   ·subst h2;rw[heve]at hx2;cases hx2;rw[φe];exact⟨ao0,cap,by simpa using e1,by simpa using e2,e3,Or.inr ⟨b0,cells,ty,_,k1,rfl,k3,k4,by rw[if_pos rfl];exact hrows⟩⟩
   ·obtain⟨g1,g2,g3⟩:=hdeep q x h2 h1 hx2;rw[φo q h2 h1];obtain⟨ao,cap,r1,r2,r3,r4⟩:=hR.evs q x g1 g2;refine⟨ao,cap,r1,r2,r3,?_⟩;rcases r4 with r4|⟨b,cells,ty,fps,r4,r5,r6,r7,r8⟩
    ·exact Or.inl r4
    ·rw[if_pos g3]at r8;exact Or.inr ⟨b,cells,ty,fps,r4,r5,r6,r7,by rw[if_pos g3];exact r8⟩
 ·have hx2:ev2 q=some x:=hx;clear hx;by_cases h1:q=e'
  ·subst h1;rw[heve']at hx2;cases hx2;cases ho
  ·by_cases h2:q=e
   ·subst h2;rw[heve]at hx2;cases hx2;cases ho
   ·have:=(hdeep q x h2 h1 hx2).2.1;rw[this]at ho;cases ho
 ·show ∃ao l c,(if q=e' then u else g.ψ q n)=.slice ao l c
  by_cases h1:q=e'
  ·rw[if_pos h1];exact⟨_,_,_,hv⟩
  ·rw[if_neg h1];exact hR.slc q n
 ·obtain⟨p,p1,p2,_⟩:=hold q hq;exact hR.ebase p p1 b (p2 b hb)
 ·obtain⟨p,p1,p2,_⟩:=hold q hq;exact hR.etop p p1 b (p2 b hb)
 ·show(φ2 q).Nodup
  by_cases h1:q=e'
  ·subst h1;rw[φe'];exact nd4
  ·by_cases h2:q=e
   ·subst h2;rw[φe];exact hndr
   ·obtain⟨p,p1,p2,p3,_⟩:=hold q hq;rw[φo q h2 h1];have:=p3 h1;subst this;exact hR.nodup p p1
 ·have hb2:b∈φ2 q:=hb;clear hb;have hb2':b∈φ2 q':=hb';clear hb';by_cases h1:q=e'
  ·subst h1;by_cases h2:q'=e
   ·subst h2;rw[φe']at hb2;rw[φe]at hb2';exact hdis b hb2' hb2
   ·obtain⟨p,p1,p2,p3,_⟩:=hold q' hq';have:=p3 (Ne.symm hne');subst this;rw[φe']at hb2;exact hR.apart e p hOn p1 (Ne.symm h2) b (hsubf b hb2) (p2 b hb2')
  ·by_cases h3:q'=e'
   ·subst h3;by_cases h2:q=e
    ·subst h2;rw[φe']at hb2';rw[φe]at hb2;exact hdis b hb2 hb2'
    ·obtain⟨p,p1,p2,p3,_⟩:=hold q hq;have:=p3 h1;subst this;rw[φe']at hb2';exact hR.apart e p hOn p1 (Ne.symm h2) b (hsubf b hb2') (p2 b hb2)
   ·obtain⟨p,p1,p2,p3,_⟩:=hold q hq;obtain⟨p',p1',p2',p3',_⟩:=hold q' hq';have:=p3 h1;subst this;have:=p3' h3;subst this;exact hR.apart p p' p1 p1' hne' b (p2 b hb2) (p2' b hb2')
 ·obtain⟨p,p1,p2,_⟩:=hold q hq;exact hR.ebx p k p1 hk (p2 _ hb)
def St.tkA (σ:St)(e e' s m i j:Nat)(cs:List C)(t:T)(sz1:Nat)(rows1:List (List T)):St:=⟨upd σ.sl s (.agg (cs.set m (.ow e' 0))),σ.bx,upd (upd σ.ev e ((σ.ev e).map (evC i j t))) e' (some ⟨true,sz1,rows1,0,true⟩)⟩
def cvA (x:V)(m:Nat)(K:List C->Value->Prop):Prop:=match x with
 | .agg cs=>match cs[m]? with
  | some (.cv v)=>cs.all C.mOk=true/\K cs v
  | _=>False
 | _=>False
theorem qf3 {K:St->Prop}{l:List (Nat×V)}{bl:List (Nat×List C)}{el:List (Nat×Ev)}(e e' s m i j sz1:Nat)(rows1:List (List T))(hd1:(l.all fun p=>p.1==s||p.2.mOk)=true)(hd2:(bl.all fun p=>p.2.all C.mOk)=true)(hd3:(el.all fun p=>p.2.on&&p.2.deep)=true)
  (hn:tbl el e'=none) (k:cvA (zjl l s) m fun cs v=>onN (tbl el e) i j v (.sl sz1 rows1)/\∀ao ln c,K ((hd l bl el).tkA e e' s m i j cs (.vs ao ln c) sz1 rows1)):WkX (hd l bl el) K:=fun n0 N g a w hR hnw=>by
 unfold cvA at k
 split at k
 ·rename_i cs hx;split at k
  ·rename_i v hm;obtain⟨hcs,h4,hk⟩:=k;obtain⟨⟨dp,sz,rows,gn,on⟩,he,rfl,rfl,h5,h6⟩:=zai h4;obtain⟨r,hr'⟩:=Je.1 h5;have hg:rows.getD i []=r:=by rw[List.getD_eq_getElem?_getD,hr'];rfl
   rw[hg]at h6;have hD:Deep ⟨upd (hd l bl el).sl s (.one .any),(hd l bl el).bx,(hd l bl el).ev⟩:=by
    obtain⟨q1,q2,q3⟩:=zvx (l:=[]) (bl:=bl) (el:=el) rfl hd2 hd3;exact⟨zxp hd1,q2,q3⟩
   obtain⟨ao,ln,c,g',h7,h8,h9⟩:=hR.takeA hD hx hcs hm he hr' h6 hn;refine⟨_,g',hk ao ln c,?_,h8,h9⟩;have e0:(hd l bl el).tkA e e' s m i j cs (.vs ao ln c) sz1 rows1=⟨upd (hd l bl el).sl s (.agg (cs.set m (.ow e' 0))),(hd l bl el).bx,upd (upd (hd l bl el).ev e (some ⟨true,sz,rows.set i (r.set j (.vs ao ln c)),gn,true⟩)) e' (some ⟨true,sz1,rows1,0,true⟩)⟩:=by
    unfold St.tkA;rw[show(hd l bl el).ev e=_ from he];simp only[Q7,zm5,evC,hg]
   rw[e0];exact h7
  ·exact k.elim
 ·exact k.elim
section
variable {ks:List Fr}{Q:Exit->St->Prop}{σ:St}{ops:Array Oper}{os:List Oper}{o:Oper}
theorem takeA {l:List (Nat×V)}{bl:List (Nat×List C)}{el:List (Nat×Ev)}(e e' s m i j sz1:Nat)(rows1:List (List T))(hg:o.guard=none)(hs:zrh o.op=true)(hw:Wk σ (hd l bl el))(hd1:(l.all fun p=>p.1==s||p.2.mOk)=true)(hd2:(bl.all fun p=>p.2.all C.mOk)=true)(hd3:(el.all fun p=>p.2.on&&p.2.deep)=true)
  (hn:tbl el e'=none) (k:cvA (zjl l s) m fun cs v=>onN (tbl el e) i j v (.sl sz1 rows1)/\∀ao ln c,exo P ops (o::os) ks Q ((hd l bl el).tkA e e' s m i j cs (.vs ao ln c) sz1 rows1)):exo P ops (o::os) ks Q σ :=
 zq7 hw hg hs (qp6 hg hs (qf3 e e' s m i j sz1 rows1 hd1 hd2 hd3 hn k))
end
attribute [go_sem] cvA St.tkA
end
section
open Go.RowKit
noncomputable def nsI (p:Nt):Sq×Bool:=if((oaI p).2&&decide ((oaI p).1.length<=10))=true then (⟨(oaI p).1.map An.form,[p.form]⟩,true)else (⟨[],[]⟩,false)
theorem zjs (p:Nt)(hw:Fit p):RC Tryz.prog 24 [ntD p] [sqD (nsI p).1,bD (nsI p).2]:=by
 have HO:=zfa p hw
 have hfw:=hw.own
 have HF:=zvf p.form Yp
 have hn:nsI p=if((oaI p).2&&decide ((oaI p).1.length<=10))=true then (⟨(oaI p).1.map An.form,[p.form]⟩,true)else (⟨[],[]⟩,false):=rfl
 generalize oaI p=A at HO hn
 obtain⟨L,b⟩:=A
 simp only at HO hn
 simp only[ntD,zaj p,fmD,zaa p.form]at HO HF⊢
 cases b
 ·rw[Q1,if_neg (by simp)]at hn;rw[hn];show RC _ _ _ [.agg [.sl 5 [],.sl 5 []],bD false]
  refine zbo Tryz.call24 Tryz.func24 rfl Yo (zao Yo) ?_;simp -implicitDefEqProofs only[go_sem,Tryz.results24];refine callR (HO) Yn ?_;simp -implicitDefEqProofs only[go_sem]
 ·rw[Qs]at hn;by_cases hl:L.length<=10
  ·rw[if_pos (by simpa using hl)]at hn;rw[hn];have hgt:(10<(L.length:Int))=False:=eq_false Yp;show RC _ _ _ [.agg [.sl 5 ((L.map An.form).map fmC),.sl 5 [fmC p.form]],bD true]
   rw[zaa p.form];refine zbo Tryz.call24 Tryz.func24 rfl Yo (zao Yo) ?_;simp -implicitDefEqProofs only[go_sem,Tryz.results24];refine callR (HO) (by simp -implicitDefEqProofs only[go_sem,hgt,Jh,Qa]) ?_;simp -implicitDefEqProofs only[go_sem,hgt,Jh,Qa];refine callF (HF) Yn ?_;simp -implicitDefEqProofs only[go_sem];refine za7 Yn ?_;simp -implicitDefEqProofs only[go_sem];refine zag (fun k:Nat=>hd [(2,.one (.bx 2 0)),(4,vT (anS L)),(6,.one (.bx 6 0)),(7,vI k)] [(2,[.nl 5,.nl 5]),(6,[.ow 3000 0,.ow 768 0])] [(768,⟨true,5,[[.int .i64 p.form.op,.str p.form.atom.name,.sl 2 (p.form.atom.args.map tmC),.str p.form.var,.sl 5 (p.form.parts.map fmC)]],0,true⟩),(3000,⟨false,5,((L.take k).map An.form).map fmC,0,true⟩)]) (fun k=>k<=L.length) (fun k=>L.length-k) 0 (zac ?_) (Kd _) ?_
   ·simp -implicitDefEqProofs only[go_sem]
    first|done|rfl|exact⟨rfl,rfl⟩
   ·intro k hk;by_cases hlt:k<L.length
    ·have hmin:(((L.take k).map An.form).map fmC).length<=4294967295:=by rw[Qa,Qa,Qq];omega
     have hstep:((L.take (k+1)).map An.form).map fmC=((L.take k).map An.form).map fmC++[fmC L[k].form]:=by
      rw[Qk hlt,Q2,Q2];rfl
     rw[zaa L[k].form]at hstep;generalize ((L.take k).map An.form).map fmC=X at hmin hstep⊢;simp -implicitDefEqProofs only[go_sem,hlt,Qa];refine drawn Yo ?_;simp -implicitDefEqProofs only[go_sem,hlt,Qa,zan,zcb L[k]];refine zit Yn ?_;simp -implicitDefEqProofs only[go_sem];refine zjp false (by simp -implicitDefEqProofs only[go_sem,ne_eq,Qa,hmin]) ?_;simp -implicitDefEqProofs only[go_sem,ne_eq,Qa,hmin];refine⟨Yo,?_⟩;rw[zap Yp];refine⟨k+1,hlt,Yp,zac ?_⟩;simp -implicitDefEqProofs only[go_sem];rw[K2]at hstep;rw[hstep]
    ·have ht:L.take k=L:=Qv Yp;rw[ht];simp -implicitDefEqProofs only[go_sem,hlt,Qa]
     first|done|rfl|exact⟨rfl,rfl⟩
  ·rw[if_neg (by simpa using hl)]at hn;rw[hn];have hgt:(10<(L.length:Int))=True:=eq_true Yp;show RC _ _ _ [.agg [.sl 5 [],.sl 5 []],bD false]
   refine zbo Tryz.call24 Tryz.func24 rfl Yo (zao Yo) ?_;simp -implicitDefEqProofs only[go_sem,Tryz.results24];refine callR (HO) (by simp -implicitDefEqProofs only[go_sem,hgt,Jv,Qa]) ?_;simp -implicitDefEqProofs only[go_sem,hgt,Jv,Qa]
theorem zk5 (p:Nt)(hw:Fit p):FC Tryz.prog 25 [ntD p] [sqD (nsI p).1,bD (nsI p).2]:=by
 have HO:=zfu p hw
 have hfw:=hw.own
 have HF:=zf1 p.form Yp
 have hn:nsI p=if((oaI p).2&&decide ((oaI p).1.length<=10))=true then (⟨(oaI p).1.map An.form,[p.form]⟩,true)else (⟨[],[]⟩,false):=rfl
 generalize oaI p=A at HO hn
 obtain⟨L,b⟩:=A
 simp only at HO hn
 simp only[ntD,zaj p,fmD,zaa p.form]at HO HF⊢
 cases b
 ·rw[Q1,if_neg (by simp)]at hn;rw[hn];show FC _ _ _ [.agg [.sl 5 [],.sl 5 []],bD false]
  refine zad Tryz.call25 Tryz.func25 rfl Yo (zao Yo) ?_;simp -implicitDefEqProofs only[go_sem,Tryz.results25];refine callF (HO) Yn ?_;simp -implicitDefEqProofs only[go_sem]
 ·rw[Qs]at hn;by_cases hl:L.length<=10
  ·rw[if_pos (by simpa using hl)]at hn;rw[hn];have hgt:(10<(L.length:Int))=False:=eq_false Yp;show FC _ _ _ [.agg [.sl 5 ((L.map An.form).map fmC),.sl 5 [fmC p.form]],bD true]
   rw[zaa p.form];refine zad Tryz.call25 Tryz.func25 rfl Yo (zao Yo) ?_;simp -implicitDefEqProofs only[go_sem,Tryz.results25];refine qtv 352 HO Yn Yn fun vs=>?_;simp -implicitDefEqProofs only[go_sem,hgt,Jh,Qa];refine callF (HF) Yn ?_;simp -implicitDefEqProofs only[go_sem];refine za7 Yn ?_;simp -implicitDefEqProofs only[go_sem];refine zag (fun x:List (List T)×List An=>hd [(2,.one (.bx 2 0)),(6,.one (.bx 6 0)),(27,.one (.ow 352 0)),(28,vI L.length),(29,vI x.1.length)] [(2,[.nl 5,.nl 5]),(6,[.ow 3000 0,.ow 800 0])] [(352,⟨true,6,x.1++zdz vs x.1.length (x.2.map anC),0,true⟩),(800,⟨true,5,[[.int .i64 p.form.op,.str p.form.atom.name,.sl 2 (p.form.atom.args.map tmC),.str p.form.var,.sl 5 (p.form.parts.map fmC)]],0,true⟩),(3000,⟨true,5,((L.take x.1.length).map An.form).map fmC,0,true⟩)]) (fun x=>x.1.length<=L.length/\x.2=L.drop x.1.length) (fun x=>x.2.length) ([],L) (zac ?_) ⟨Kd _,rfl⟩ ?_
   ·simp -implicitDefEqProofs only[go_sem]
    first|done|rfl|exact⟨rfl,rfl⟩
   ·rintro⟨W,rest⟩ ⟨hk,hr⟩;simp only at hk hr;cases rest with
    | nil =>
     have hfl:W.length=L.length:=by
      have:=congrArg List.length hr;rw[Ks]at this;simp only[Q4]at this;omega
     have htl:L.take W.length=L:=Qv Yp;have hnl:¬W.length<L.length:=by omega
     rw[htl];simp -implicitDefEqProofs only[go_sem,hnl]
     first|done|rfl|exact⟨rfl,rfl⟩
    | cons a rest =>
     have hlt:W.length<L.length:=by
      have:=congrArg List.length hr;rw[Ks,Qi]at this;omega
     rw[Qh hlt]at hr;obtain⟨ha,hr⟩:=Yb hr;have hmin:(((L.take W.length).map An.form).map fmC).length<=4294967295:=by rw[Qa,Qa,Qq];omega
     have hstep:((L.take (W.length+1)).map An.form).map fmC=((L.take W.length).map An.form).map fmC++[fmC a.form]:=by
      rw[Qk hlt,Q2,Q2,<-ha];rfl
     rw[zaa a.form]at hstep;generalize ((L.take W.length).map An.form).map fmC=X at hmin hstep⊢;simp -implicitDefEqProofs only[go_sem,hlt,zan,Qf,zcb a];refine takeA (l:=[(2,.one (.bx 2 0)),(6,.one (.bx 6 0)),(27,.one (.ow 352 0)),(28,vI L.length),(29,vI W.length),(34,.one (.ow 3000 0)),(36,.agg [.t (.int .i64 a.form.op),.t (.str a.form.atom.name),.cv (vs W.length 3),.t (.str a.form.var),.cv (vs W.length 5)])]) (bl:=[(2,[.nl 5,.nl 5]),(6,[.ow 3000 0,.ow 800 0])]) (el:=[(352,⟨true,6,W++[.int .i64 a.label,.int .i64 a.form.op,.str a.form.atom.name,.pin (vs W.length 3) (.sl 2 (a.form.atom.args.map tmC)),.str a.form.var,.pin (vs W.length 5) (.sl 5 (a.form.parts.map fmC))]::zdz vs (W.length+1) (rest.map anC),0,true⟩),(800,⟨true,5,[[.int .i64 p.form.op,.str p.form.atom.name,.sl 2 (p.form.atom.args.map tmC),.str p.form.var,.sl 5 (p.form.parts.map fmC)]],0,true⟩),(3000,⟨true,5,X,0,true⟩)]) 352 4000 36 2 W.length 3 2 (a.form.atom.args.map tmC) rfl rfl (zac Yn) (by simp -implicitDefEqProofs only[go_sem,J1,Bool.or_true,Kt,Yj]) Yn Yn Yn ?_;simp -implicitDefEqProofs only[go_sem];intro ao ln c;refine takeA (l:=[(2,.one (.bx 2 0)),(6,.one (.bx 6 0)),(27,.one (.ow 352 0)),(28,vI L.length),(29,vI W.length),(34,.one (.ow 3000 0)),(36,.agg [.t (.int .i64 a.form.op),.t (.str a.form.atom.name),.ow 4000 0,.t (.str a.form.var),.cv (vs W.length 5)])]) (bl:=[(2,[.nl 5,.nl 5]),(6,[.ow 3000 0,.ow 800 0])]) (el:=[(352,⟨true,6,W++[.int .i64 a.label,.int .i64 a.form.op,.str a.form.atom.name,.vs ao ln c,.str a.form.var,.pin (vs W.length 5) (.sl 5 (a.form.parts.map fmC))]::zdz vs (W.length+1) (rest.map anC),0,true⟩),(800,⟨true,5,[[.int .i64 p.form.op,.str p.form.atom.name,.sl 2 (p.form.atom.args.map tmC),.str p.form.var,.sl 5 (p.form.parts.map fmC)]],0,true⟩),(3000,⟨true,5,X,0,true⟩),(4000,⟨true,2,a.form.atom.args.map tmC,0,true⟩)]) 352 4001 36 4 W.length 5 5 (a.form.parts.map fmC) rfl rfl (zac Yn) (by simp -implicitDefEqProofs only[go_sem,J1,Bool.or_true,Kt,Yj]) Yn Yn Yn ?_;simp -implicitDefEqProofs only[go_sem];intro ao2 ln2 c2;refine za7 Yn ?_;simp -implicitDefEqProofs only[go_sem];refine apD true (by simp -implicitDefEqProofs only[go_sem,ne_eq,Qa,hmin]) ?_;simp -implicitDefEqProofs only[go_sem,ne_eq,Qa,hmin];refine⟨(W++[[.int .i64 a.label,.int .i64 a.form.op,.str a.form.atom.name,.vs ao ln c,.str a.form.var,.vs ao2 ln2 c2]],rest),⟨by simp only[Qu,Qi,Q4];omega,by simp only[Qu,Qi,Q4];exact hr⟩,by simp,zac ?_⟩;simp -implicitDefEqProofs only[go_sem];rw[K2]at hstep;rw[zap Yp,hstep];exact⟨rfl,by rw[Kf];rfl,rfl⟩
  ·rw[if_neg (by simpa using hl)]at hn;rw[hn];have hgt:(10<(L.length:Int))=True:=eq_true Yp;show FC _ _ _ [.agg [.sl 5 [],.sl 5 []],bD false]
   refine zad Tryz.call25 Tryz.func25 rfl Yo (zao Yo) ?_;simp -implicitDefEqProofs only[go_sem,Tryz.results25];refine callF (HO) (by simp -implicitDefEqProofs only[go_sem,hgt,Jv,Qa]) ?_;simp -implicitDefEqProofs only[go_sem,hgt,Jv,Qa]
end
section
open Go.RowKit
theorem zpp (s:Sq):zdi s<=4*s.wt:=by
 have h1:=zf8 s.left
 have h2:=zf8 s.right
 have hW:=s.wt_eq
 obtain⟨l,r⟩:=s
 simp only[zdi]
 simp only at h1 h2 hW
 omega
end
section
open Go.RowKit
theorem znm (a:Sq)(k:Nat)(h0:0<k)(hk:k+zdi a<=4611686018427387904):FC Tryz.prog 28 [.agg (sqC (zcf a k).1),iD k] [iD (zcf a k).2]:=by
 obtain⟨l0,r0⟩:=a
 simp only[zdi]at hk
 have hc0:=zca l0 k
 have hc1:=zca r0 (za1 l0 k).2
 simp only[ze0,zcf]
 refine zad Tryz.call28 Tryz.func28 rfl Yo (zao Yo) ?_
 simp -implicitDefEqProofs only[go_sem,Tryz.results28]
 refine callF (zfk l0 k Yp Yp) Yn ?_
 simp -implicitDefEqProofs only[go_sem]
 refine callF (zfk r0 (za1 l0 k).2 Yp Yp) Yn ?_
 simp -implicitDefEqProofs only[go_sem]
theorem nsI_wt (d:Nt)(hw:Fit d):(nsI d).1.wt<=2147483648:=by
 have h1:=qr9 d hw
 have h2:=hw.own
 unfold nsI
 split
 ·rw[Sq.wt_eq];show zh8 ((oaI d).1.map An.form)+zh8 [d.form]<=_
  have e1:zh8 ((oaI d).1.map An.form)=qtb (oaI d).1:=by
   unfold zh8 qtb;rw[Qa,K2];rfl
  have e2:zh8 [d.form]=1+d.form.wt:=by unfold zh8;simp
  omega
 ·show Sq.wt ⟨[],[]⟩<=_
  rw[Sq.wt_eq];show zh8 []+zh8 []<=_
  unfold zh8;simp
theorem qtc (d:Nt):FC Tryz.prog 6 [ntD d] [bD true]:=by
 have HZ:=zet d 1048576 Yp Yp
 simp only[ntD,zaj d]at HZ⊢
 refine zfg Tryz.call6 Tryz.func6 rfl Yo (zao Yo) ?_
 simp -implicitDefEqProofs only[go_sem,Tryz.results6]
 refine callF (HZ) Yn ?_
 simp -implicitDefEqProofs only[go_sem]
 refine⟨fun h=>trivial,fun h=>?_⟩
 have hw:d.wt<=1048576:=by have:=(zdx (by simpa using h)).1;omega
 have HS:=zjs d (Fit.of d hw)
 have HI:=zk5 d (Fit.of d hw)
 have HT:=ze7 d hw
 have HE:=ze3 d d
 have hrl:=nsI_wt d (Fit.of d hw)
 generalize nsI d=A at HS HI hrl
 obtain⟨R,G⟩:=A
 simp only at HS HI hrl
 have HF:=zxa R R
 simp only[ntD,zaj d,sqD,ze0]at HS HI HT HE HF
 refine callF (HT) Yn ?_
 simp -implicitDefEqProofs only[go_sem]
 refine ztk 675 rfl rfl ?_
 simp -implicitDefEqProofs only[go_sem]
 refine ztk 677 rfl rfl ?_
 simp -implicitDefEqProofs only[go_sem]
 refine ztk 680 rfl rfl ?_
 simp -implicitDefEqProofs only[go_sem]
 refine ztk 681 rfl rfl ?_
 simp -implicitDefEqProofs only[go_sem]
 refine zot (HS) Yn ?_
 simp -implicitDefEqProofs only[go_sem]
 refine callF (HT) Yn ?_
 simp -implicitDefEqProofs only[go_sem]
 refine callF (HI) Yn ?_
 simp -implicitDefEqProofs only[go_sem]
 refine callF (HF) (by simp -implicitDefEqProofs only[go_sem,zax,Qw,Qb]) ?_
 simp -implicitDefEqProofs only[go_sem,zax,Qw,Qb]
 refine drawn Yo ?_
 simp -implicitDefEqProofs only[go_sem]
 refine zav (HT) Yn ?_
 simp -implicitDefEqProofs only[go_sem]
 refine zav (HE) Yn ?_
 simp -implicitDefEqProofs only[go_sem]
 refine⟨Yo,fun h=>?_,fun _=>?_⟩
 ·simp[zax]at h
 have hcD:=zem d
 have HM1:=zen d 1 Yp Yp
 have hm1:=zel d 1
 rw[zdd]at HM1
 generalize (za2 d 1).2=k3 at HM1 hm1
 generalize (za2 d 1).1.form.atom.args=f3 at HM1
 generalize (za2 d 1).1.form.parts=f4 at HM1
 generalize (za2 d 1).1.term.args=f5 at HM1
 generalize (za2 d 1).1.parts=f8 at HM1
 simp only[zaj d]at HM1
 have hcR:=zpp R
 have HM2:=zps R 1 Yp Yp
 have HL:=znm R 1 Yp Yp
 have hmR:=(zqt R 1).1
 simp only[ze0]at HM2 HL
 generalize (zcf R 1).2=k2 at HM2 HL hmR
 generalize (zcf R 1).1.left=r1 at HM2 HL
 generalize (zcf R 1).1.right=r2 at HM2 HL
 refine zev [1,4,5,6,7,8,46,47] (HM1) Yn Yn Yn Yn Yn rfl ?_
 simp -implicitDefEqProofs only[go_sem]
 refine callF (HF) (by simp -implicitDefEqProofs only[go_sem,zax,Qw,Qb]) ?_
 simp -implicitDefEqProofs only[go_sem,zax,Qw,Qb]
 refine zev [1,4,5,7,8,62,63] (HM2) Yn Yn Yn Yn Yn rfl ?_
 simp -implicitDefEqProofs only[go_sem]
 refine callF (HL) Yn ?_
 simp -implicitDefEqProofs only[go_sem]
 refine⟨fun h=>by simp at h,fun _=>?_⟩
 refine callF (HT) Yn ?_
 simp -implicitDefEqProofs only[go_sem]
 refine callF (HI) Yn ?_
 simp -implicitDefEqProofs only[go_sem]
 refine callF (HF) (by simp -implicitDefEqProofs only[go_sem,zax,Qw,Qb]) ?_
 simp -implicitDefEqProofs only[go_sem,zax,Qw,Qb]
 refine callF (HL) Yn ?_
 simp -implicitDefEqProofs only[go_sem]
 refine⟨fun h=>by simp at h,fun _=>trivial⟩
end
end Go.Proofs.YtnemmlahbbbobaaGreat
