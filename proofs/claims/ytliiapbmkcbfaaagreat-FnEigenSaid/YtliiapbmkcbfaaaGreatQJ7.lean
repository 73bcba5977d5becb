/-
  The walk over plain data, and contracts of functions of the program and of its laws.
  Conditions: those that each theorem names.
-/
import Derived.Test.YtliiapbmkcbfaaaGreatQJ6
import Derived.Test.YtliiapbmkcbfaaaGreatQJ4
import Derived.RangeFuncNested
import Derived.RangeFuncBound
import Derived.RangeFuncCalls
import Derived.TacticsInMore
import Derived.LoopNIn
import Derived.LoopIn
import Derived.MapKept
namespace Go.Proofs.YtliiapbmkcbfaaaGreat
set_option linter.unusedSimpArgs false
set_option linter.unusedVariables false
set_option linter.unusedSectionVars false
set_option maxRecDepth 4000
set_option maxHeartbeats 8000000
section
open Go.RowKit
def bnd (n:Str)(t:Tm):List (Str×Tm):=if(t.name==n)=true then []else [(n,t)]
def zo2 (ps:List Fm):List Str:=match ps with
 | p::_=>zbb [] (vf p [])
 | []=>[]
def zbf (n:Str)(t:Tm):Fm->Fm×Bool:=Fm.fold fun o a v ps rs =>
 if(o==3)=true then (.mk o (zef (bnd n t) a) v [],(zef (bnd n t) a).atomOk)
 else if(isQ o&&(v==n||!((zo2 ps).contains n)))=true then (.mk o a v ps,true)
 else if(isQ o&&(zbb [] (voS t)).contains v)=true then (.mk o (.mk [] []) v [],false)
 else (.mk o (.mk [] []) v ((rs.takeWhile Prod.snd).map Prod.fst),rs.all Prod.snd)
theorem qk1 {α β:Type}(p:β->Bool)(f:α->β):∀xs:List α,(xs.map f).takeWhile p=(xs.takeWhile fun x=>p (f x)).map f
 | []=>rfl
 | x::xs=>by
  simp only[Qi,J1];cases p (f x)
  ·rfl
  ·simp only[if_true,Qi,qk1 p f xs]
theorem zk1 (n:Str)(t:Tm)(f:Fm):zbf n t f=if(f.op==3)=true then (.mk f.op (zef (bnd n t) f.atom) f.var [],(zef (bnd n t) f.atom).atomOk)
  else if(isQ f.op&&(f.var==n||!((zo2 f.parts).contains n)))=true then (f,true)
  else if(isQ f.op&&(zbb [] (voS t)).contains f.var)=true then (.mk f.op (.mk [] []) f.var [],false)
  else (.mk f.op (.mk [] []) f.var ((f.parts.takeWhile fun x=>(zbf n t x).2).map fun x=>(zbf n t x).1),f.parts.all fun x=>(zbf n t x).2):=by
 cases f with
 | mk o a v ps =>
  conv=>lhs;unfold zbf;rw[Fm.fold_eq]
  simp only[qk1,Kh,Yp];rfl
theorem zk2 {f:Fm}(h:isQ f.op=true)(hf:f.forms=true):∃p,f.parts=[p]/\p.forms=true:=by
 rw[Fm.forms_eq,Qc]at hf
 have h1:=hf.1
 unfold Fm.here at h1
 have h2:(f.op==1||f.op==2)=false/\(f.op==3)=false/\(f.op==4)=false/\zm3 f.op=false:=by
  have h8:f.op=8\/f.op=9:=by unfold isQ at h;rw[Jl,Ko,Ko]at h;exact h
  rcases h8 with e|e<;>rw[e]<;>decide
 rw[h2.1,h2.2.1,h2.2.2.1,h2.2.2.2,h]at h1
 simp only[Qn,if_false,if_true,Qc,Qr]at h1
 obtain⟨p,hp⟩:=Jb.1 h1.1.1
 exact⟨p,hp,Qs.1 hf.2 p (by rw[hp];simp)⟩
theorem qn1 (n:Str)(t:Tm):(bnd n t).length<=1:=by unfold bnd;split<;>simp
theorem bnd_wt (n:Str)(t:Tm)(ht:t.wt<=1048576):∀p∈bnd n t,p.2.wt<=1048576:=by
 unfold bnd
 split
 ·simp
 ·intro p hp;simp at hp;rw[hp];exact ht
theorem qiv (n:Str)(t:Tm)(ht:t.wt<=1048576)(f:Fm)(hf:f.forms=true)(hw:f.wt<=1048576)(hwa:(zef (bnd n t) f.atom).wt<=1099511627776)(H:∀x∈f.parts,FC Tryz.prog 95 [fmD x,sD n,tmD t] [fmD (zbf n t x).1,bD (zbf n t x).2]) :
  FC Tryz.prog 95 [fmD f,sD n,tmD t] [fmD (zbf n t f).1,bD (zbf n t f).2]:=by
 have hv:=zk1 n t f
 have hfl:f.parts.length<=1048576:=by have:=f.wt_eq;omega
 cases h3:f.op==3
 ·rw[h3,if_neg (by simp)]at hv;cases hq:isQ f.op
  ·rw[hq,Ql,if_neg (by simp),Ql,if_neg (by simp)]at hv;have hq8:(f.op==8)=false/\(f.op==9)=false:=by unfold isQ at hq;rw[Bool.or_eq_false_iff]at hq;exact hq
   simp only[fmD,zab f,tmD,zaa t];refine zak Tryz.call95 Tryz.func95 rfl Ys (zaz Ys) ?_;simp -implicitDefEqProofs only[go_sem,Tryz.results95,h3,hq8.1,hq8.2];refine zaf (fun k:Nat=>hd [(1,vT (.str n)),(3,.one (.bx 3 0)),(5,.one (.bx 5 0)),(6,.one (.bx 6 0)),(8,.one (.bx 8 0)),(9,vI k)] [(3,[.t (.int .i64 f.op),.t (.str f.atom.name),.t (tmS f.atom.args),.t (.str f.var),.t (fmS f.parts)]),(5,[.t (.str t.name),.t (tmS t.args)]),(6,[.t (.int .i64 0),.t (.str []),.nl 2,.t (.str []),.nl 5]),(8,[.t (.int .i64 f.op),.t (.str []),.nl 2,.t (.str f.var),.ow 8000 0])] [(8000,⟨true,5,(f.parts.take k).map fun x=>fmC (zbf n t x).1,0,true⟩)]) (fun k=>k<=f.parts.length/\∀x∈f.parts.take k,(zbf n t x).2=true) (fun k=>f.parts.length-k) 0 (zad ?_) ⟨Q1 _,by simp⟩ ?_
   ·simp -implicitDefEqProofs only[go_sem]
   ·rintro k ⟨hk,hT⟩;by_cases hlt:k<f.parts.length
    ·have HC:=H f.parts[k] (Qd hlt);have hmin:min k f.parts.length<=4294967295:=by omega
     simp only[fmD,zab f.parts[k],zab (zbf n t f.parts[k]).1,tmD,zaa t]at HC;cases hk2:(zbf n t f.parts[k]).2
     ·rw[hk2]at HC;have htw:=(zcw (p:=fun x=>(zbf n t x).2) hk hT fun _=>hk2).1;have hall:(f.parts.all fun x=>(zbf n t x).2)=false:=by rw[Yn];exact⟨_,Qd hlt,by rw[hk2];simp⟩
      rw[htw,hall]at hv;rw[hv];simp -implicitDefEqProofs only[go_sem,hlt];refine drawn Ys ?_;simp -implicitDefEqProofs only[go_sem,zac,hlt,zab f.parts[k]];refine zaj (HC) Yr ?_;simp -implicitDefEqProofs only[go_sem];refine⟨Ys,?_⟩;simp -implicitDefEqProofs only[go_sem,zd8,Kh,K8];exact⟨rfl,rfl⟩
     ·rw[hk2]at HC;simp -implicitDefEqProofs only[go_sem,hlt];refine drawn Ys ?_;simp -implicitDefEqProofs only[go_sem,zac,hlt,zab f.parts[k]];refine zaj (HC) Yr ?_;simp -implicitDefEqProofs only[go_sem];refine⟨Ys,?_⟩;refine zap Yr ?_;simp -implicitDefEqProofs only[go_sem];refine apD true (by simp -implicitDefEqProofs only[go_sem,ne_eq,Qa,Qo,hmin]) ?_;simp -implicitDefEqProofs only[go_sem,ne_eq,Qa,Qo,hmin];refine⟨k+1,⟨hlt,fun x hx=>?_⟩,Yt,zad ?_⟩
      ·rw[Qj hlt]at hx;rcases Qv.1 hx with hx|hx
       ·exact hT x hx
       ·rw[Kg]at hx;subst hx;exact hk2
      ·simp -implicitDefEqProofs only[go_sem];rw[zam Yt,Qj hlt,Qt,Q7];simp only[zab]
       trivial
    ·have htk:f.parts.take k=f.parts:=Qm Yt;rw[htk]at hT;have hall:(f.parts.all fun x=>(zbf n t x).2)=true:=Qs.2 hT;have htw:(f.parts.takeWhile fun x=>(zbf n t x).2)=f.parts:=by
      have:=(zcw (l:=f.parts) (p:=fun x=>(zbf n t x).2) (k:=f.parts.length) (Qw _) (by rw[Kv];exact hT) fun h=>absurd h (Ya _)).1;rw[this,Kv]
     rw[htw,hall]at hv;rw[hv];simp -implicitDefEqProofs only[go_sem,hlt,htk,zd8,Kh,K8];exact⟨rfl,rfl⟩
  ·obtain⟨q,hp,hpf⟩:=zk2 hq hf;have key:(f.op==8)=true\/((f.op==8)=false/\(f.op==9)=true):=by
    have hq8:=hq;unfold isQ at hq8;cases h8:f.op==8
    ·rw[h8,Jf]at hq8;exact Or.inr ⟨rfl,hq8⟩
    ·exact Or.inl rfl
   have HFr:=zu3 q hpf (by have:=f.wt_eq;rw[hp]at this;simp only[Qi,Qk,Qz,Ks]at this;omega);have HOw:=zkc f hw;have hfr:zo2 f.parts=zbb [] (vf q []):=by rw[hp];rfl
   rw[hfr]at hv;generalize zbb [] (vf q [])=V at hv HFr;have HIn:=zjd V n;have hvl:=znr t;have HVs:=zvg t Yt Yt;generalize zbb [] (voS t)=TV at hv HVs;have HIt:=zjd TV f.var;rw[hq,Qq,Qq]at hv;have hp0:f.parts.length=1:=by rw[hp];rfl
   have e0:(List.map fmC f.parts).getD 0 []=fmC q:=by rw[hp];rfl
   cases hvn:f.var==n
   ·rw[hvn,Jf]at hv;cases hcn:V.contains n
    ·rw[hcn,if_pos (by simp)]at hv;rw[hcn]at HIn;rw[hv];simp only[fmD,zab f,tmD,zaa t,zab q]at HOw HFr⊢;rcases key with e8|⟨e8,e9⟩
     ·refine zak Tryz.call95 Tryz.func95 rfl Ys (zaz Ys) ?_;simp -implicitDefEqProofs only[go_sem,Tryz.results95,h3,e8,hvn,hp0,e0,zab q];refine callF (HFr) Yr ?_;simp -implicitDefEqProofs only[go_sem];refine callF (HIn) Yr ?_;simp -implicitDefEqProofs only[go_sem];refine callF (HOw) Yr ?_;simp -implicitDefEqProofs only[go_sem]
     ·refine zak Tryz.call95 Tryz.func95 rfl Ys (zaz Ys) ?_;simp -implicitDefEqProofs only[go_sem,Tryz.results95,h3,e8,e9,hvn,hp0,e0,zab q];refine callF (HFr) Yr ?_;simp -implicitDefEqProofs only[go_sem];refine callF (HIn) Yr ?_;simp -implicitDefEqProofs only[go_sem];refine callF (HOw) Yr ?_;simp -implicitDefEqProofs only[go_sem]
    ·rw[hcn,if_neg (by simp)]at hv;rw[hcn]at HIn;cases hti:TV.contains f.var
     ·rw[hti,if_neg (by simp)]at hv;rw[hti]at HIt;simp only[fmD,zab f,tmD,zaa t,zab q]at HVs HFr⊢;rcases key with e8|⟨e8,e9⟩
      ·refine zak Tryz.call95 Tryz.func95 rfl Ys (zaz Ys) ?_;simp -implicitDefEqProofs only[go_sem,Tryz.results95,h3,e8,hvn,hp0,e0,zab q];refine callF (HFr) Yr ?_;simp -implicitDefEqProofs only[go_sem];refine callF (HIn) Yr ?_;simp -implicitDefEqProofs only[go_sem];refine drawn Ys ?_;simp -implicitDefEqProofs only[go_sem];refine zaj (HVs) Yr ?_;simp -implicitDefEqProofs only[go_sem];refine zaj (HIt) Yr ?_;simp -implicitDefEqProofs only[go_sem];refine⟨Ys,?_⟩;refine zaf (fun k:Nat=>hd [(1,vT (.str n)),(3,.one (.bx 3 0)),(5,.one (.bx 5 0)),(6,.one (.bx 6 0)),(8,.one (.bx 8 0)),(9,vI k)] [(3,[.t (.int .i64 f.op),.t (.str f.atom.name),.t (tmS f.atom.args),.t (.str f.var),.t (fmS f.parts)]),(5,[.t (.str t.name),.t (tmS t.args)]),(6,[.t (.int .i64 0),.t (.str []),.nl 2,.t (.str []),.nl 5]),(8,[.t (.int .i64 f.op),.t (.str []),.nl 2,.t (.str f.var),.ow 8000 0])] [(8000,⟨true,5,(f.parts.take k).map fun x=>fmC (zbf n t x).1,0,true⟩)]) (fun k=>k<=f.parts.length/\∀x∈f.parts.take k,(zbf n t x).2=true) (fun k=>f.parts.length-k) 0 (zad ?_) ⟨Q1 _,by simp⟩ ?_
       ·simp -implicitDefEqProofs only[go_sem]
       ·rintro k ⟨hk,hT⟩;by_cases hlt:k<f.parts.length
        ·have HC:=H f.parts[k] (Qd hlt);have hmin:min k f.parts.length<=4294967295:=by omega
         simp only[fmD,zab f.parts[k],zab (zbf n t f.parts[k]).1,tmD,zaa t]at HC;cases hk2:(zbf n t f.parts[k]).2
         ·rw[hk2]at HC;have htw:=(zcw (p:=fun x=>(zbf n t x).2) hk hT fun _=>hk2).1;have hall:(f.parts.all fun x=>(zbf n t x).2)=false:=by rw[Yn];exact⟨_,Qd hlt,by rw[hk2];simp⟩
          rw[htw,hall]at hv;rw[hv];simp -implicitDefEqProofs only[go_sem,hlt];refine drawn Ys ?_;simp -implicitDefEqProofs only[go_sem,zac,hlt,zab f.parts[k]];refine zaj (HC) Yr ?_;simp -implicitDefEqProofs only[go_sem];refine⟨Ys,?_⟩;simp -implicitDefEqProofs only[go_sem,zd8,Kh,K8];exact⟨rfl,rfl⟩
         ·rw[hk2]at HC;simp -implicitDefEqProofs only[go_sem,hlt];refine drawn Ys ?_;simp -implicitDefEqProofs only[go_sem,zac,hlt,zab f.parts[k]];refine zaj (HC) Yr ?_;simp -implicitDefEqProofs only[go_sem];refine⟨Ys,?_⟩;refine zap Yr ?_;simp -implicitDefEqProofs only[go_sem];refine apD true (by simp -implicitDefEqProofs only[go_sem,ne_eq,Qa,Qo,hmin]) ?_;simp -implicitDefEqProofs only[go_sem,ne_eq,Qa,Qo,hmin];refine⟨k+1,⟨hlt,fun x hx=>?_⟩,Yt,zad ?_⟩
          ·rw[Qj hlt]at hx;rcases Qv.1 hx with hx|hx
           ·exact hT x hx
           ·rw[Kg]at hx;subst hx;exact hk2
          ·simp -implicitDefEqProofs only[go_sem];rw[zam Yt,Qj hlt,Qt,Q7];simp only[zab]
           trivial
        ·have htk:f.parts.take k=f.parts:=Qm Yt;rw[htk]at hT;have hall:(f.parts.all fun x=>(zbf n t x).2)=true:=Qs.2 hT;have htw:(f.parts.takeWhile fun x=>(zbf n t x).2)=f.parts:=by
          have:=(zcw (l:=f.parts) (p:=fun x=>(zbf n t x).2) (k:=f.parts.length) (Qw _) (by rw[Kv];exact hT) fun h=>absurd h (Ya _)).1;rw[this,Kv]
         rw[htw,hall]at hv;rw[hv];simp -implicitDefEqProofs only[go_sem,hlt,htk,zd8,Kh,K8];exact⟨rfl,rfl⟩
      ·refine zak Tryz.call95 Tryz.func95 rfl Ys (zaz Ys) ?_;simp -implicitDefEqProofs only[go_sem,Tryz.results95,h3,e8,e9,hvn,hp0,e0,zab q];refine callF (HFr) Yr ?_;simp -implicitDefEqProofs only[go_sem];refine callF (HIn) Yr ?_;simp -implicitDefEqProofs only[go_sem];refine drawn Ys ?_;simp -implicitDefEqProofs only[go_sem];refine zaj (HVs) Yr ?_;simp -implicitDefEqProofs only[go_sem];refine zaj (HIt) Yr ?_;simp -implicitDefEqProofs only[go_sem];refine⟨Ys,?_⟩;refine zaf (fun k:Nat=>hd [(1,vT (.str n)),(3,.one (.bx 3 0)),(5,.one (.bx 5 0)),(6,.one (.bx 6 0)),(8,.one (.bx 8 0)),(9,vI k)] [(3,[.t (.int .i64 f.op),.t (.str f.atom.name),.t (tmS f.atom.args),.t (.str f.var),.t (fmS f.parts)]),(5,[.t (.str t.name),.t (tmS t.args)]),(6,[.t (.int .i64 0),.t (.str []),.nl 2,.t (.str []),.nl 5]),(8,[.t (.int .i64 f.op),.t (.str []),.nl 2,.t (.str f.var),.ow 8000 0])] [(8000,⟨true,5,(f.parts.take k).map fun x=>fmC (zbf n t x).1,0,true⟩)]) (fun k=>k<=f.parts.length/\∀x∈f.parts.take k,(zbf n t x).2=true) (fun k=>f.parts.length-k) 0 (zad ?_) ⟨Q1 _,by simp⟩ ?_
       ·simp -implicitDefEqProofs only[go_sem]
       ·rintro k ⟨hk,hT⟩;by_cases hlt:k<f.parts.length
        ·have HC:=H f.parts[k] (Qd hlt);have hmin:min k f.parts.length<=4294967295:=by omega
         simp only[fmD,zab f.parts[k],zab (zbf n t f.parts[k]).1,tmD,zaa t]at HC;cases hk2:(zbf n t f.parts[k]).2
         ·rw[hk2]at HC;have htw:=(zcw (p:=fun x=>(zbf n t x).2) hk hT fun _=>hk2).1;have hall:(f.parts.all fun x=>(zbf n t x).2)=false:=by rw[Yn];exact⟨_,Qd hlt,by rw[hk2];simp⟩
          rw[htw,hall]at hv;rw[hv];simp -implicitDefEqProofs only[go_sem,hlt];refine drawn Ys ?_;simp -implicitDefEqProofs only[go_sem,zac,hlt,zab f.parts[k]];refine zaj (HC) Yr ?_;simp -implicitDefEqProofs only[go_sem];refine⟨Ys,?_⟩;simp -implicitDefEqProofs only[go_sem,zd8,Kh,K8];exact⟨rfl,rfl⟩
         ·rw[hk2]at HC;simp -implicitDefEqProofs only[go_sem,hlt];refine drawn Ys ?_;simp -implicitDefEqProofs only[go_sem,zac,hlt,zab f.parts[k]];refine zaj (HC) Yr ?_;simp -implicitDefEqProofs only[go_sem];refine⟨Ys,?_⟩;refine zap Yr ?_;simp -implicitDefEqProofs only[go_sem];refine apD true (by simp -implicitDefEqProofs only[go_sem,ne_eq,Qa,Qo,hmin]) ?_;simp -implicitDefEqProofs only[go_sem,ne_eq,Qa,Qo,hmin];refine⟨k+1,⟨hlt,fun x hx=>?_⟩,Yt,zad ?_⟩
          ·rw[Qj hlt]at hx;rcases Qv.1 hx with hx|hx
           ·exact hT x hx
           ·rw[Kg]at hx;subst hx;exact hk2
          ·simp -implicitDefEqProofs only[go_sem];rw[zam Yt,Qj hlt,Qt,Q7];simp only[zab]
           trivial
        ·have htk:f.parts.take k=f.parts:=Qm Yt;rw[htk]at hT;have hall:(f.parts.all fun x=>(zbf n t x).2)=true:=Qs.2 hT;have htw:(f.parts.takeWhile fun x=>(zbf n t x).2)=f.parts:=by
          have:=(zcw (l:=f.parts) (p:=fun x=>(zbf n t x).2) (k:=f.parts.length) (Qw _) (by rw[Kv];exact hT) fun h=>absurd h (Ya _)).1;rw[this,Kv]
         rw[htw,hall]at hv;rw[hv];simp -implicitDefEqProofs only[go_sem,hlt,htk,zd8,Kh,K8];exact⟨rfl,rfl⟩
     ·rw[hti,if_pos rfl]at hv;rw[hti]at HIt;rw[hv];have e5:fmD (.mk f.op (.mk [] []) f.var [])=.agg [.int .i64 f.op,.str [],.sl 2 [],.str f.var,.sl 5 []]:=by unfold fmD;rw[zab];rfl
      rw[e5];simp only[fmD,zab f,tmD,zaa t,zab q]at HVs HFr⊢;rcases key with e8|⟨e8,e9⟩
      ·refine zak Tryz.call95 Tryz.func95 rfl Ys (zaz Ys) ?_;simp -implicitDefEqProofs only[go_sem,Tryz.results95,h3,e8,hvn,hp0,e0,zab q];refine callF (HFr) Yr ?_;simp -implicitDefEqProofs only[go_sem];refine callF (HIn) Yr ?_;simp -implicitDefEqProofs only[go_sem];refine drawn Ys ?_;simp -implicitDefEqProofs only[go_sem];refine zaj (HVs) Yr ?_;simp -implicitDefEqProofs only[go_sem];refine zaj (HIt) Yr ?_;simp -implicitDefEqProofs only[go_sem];kernel_rfl
      ·refine zak Tryz.call95 Tryz.func95 rfl Ys (zaz Ys) ?_;simp -implicitDefEqProofs only[go_sem,Tryz.results95,h3,e8,e9,hvn,hp0,e0,zab q];refine callF (HFr) Yr ?_;simp -implicitDefEqProofs only[go_sem];refine callF (HIn) Yr ?_;simp -implicitDefEqProofs only[go_sem];refine drawn Ys ?_;simp -implicitDefEqProofs only[go_sem];refine zaj (HVs) Yr ?_;simp -implicitDefEqProofs only[go_sem];refine zaj (HIt) Yr ?_;simp -implicitDefEqProofs only[go_sem];kernel_rfl
   ·rw[hvn,Bool.true_or,if_pos rfl]at hv;rw[hv];simp only[fmD,zab f,tmD,zaa t]at HOw⊢;rcases key with e8|⟨e8,e9⟩
    ·refine zak Tryz.call95 Tryz.func95 rfl Ys (zaz Ys) ?_;simp -implicitDefEqProofs only[go_sem,Tryz.results95,h3,e8,hvn];refine callF (HOw) Yr ?_;simp -implicitDefEqProofs only[go_sem]
    ·refine zak Tryz.call95 Tryz.func95 rfl Ys (zaz Ys) ?_;simp -implicitDefEqProofs only[go_sem,Tryz.results95,h3,e8,e9,hvn];refine callF (HOw) Yr ?_;simp -implicitDefEqProofs only[go_sem]
 ·rw[h3,if_pos rfl]at hv;have HA:=qa5 (bnd n t) (qn1 n t) (bnd_wt n t ht) f.atom (by have:=zii f;omega);rw[hv];generalize zef (bnd n t) f.atom=R at HA hwa⊢;have HO:=zv0 R hwa;cases hn:t.name==n
  ·have e0:bnd n t=[(n,t)]:=by unfold bnd;rw[hn,if_neg (by simp)]
   have HP:=qdd n t ht hn;have hS0:sbS []=.sl 3 []:=rfl;rw[e0]at HA;generalize [(n,t)]=B at HA HP;rw[hS0]at HP;unfold sbS at HP HA;generalize B.map bnC=L at HA HP;simp only[fmD,zab f,tmD,zaa t,zaa f.atom,zaa R,zd8,Qk]at HA HP HO⊢;refine zak Tryz.call95 Tryz.func95 rfl Ys (zaz Ys) ?_;simp -implicitDefEqProofs only[go_sem,Tryz.results95,h3];refine drawn Ys ?_;simp -implicitDefEqProofs only[go_sem];refine zaj (HP) Yr ?_;simp -implicitDefEqProofs only[go_sem];refine zaj (HA) Yr ?_;simp -implicitDefEqProofs only[go_sem];refine⟨Ys,?_⟩;refine drawn Ys ?_;simp -implicitDefEqProofs only[go_sem];refine zaj (HO) Yr ?_;simp -implicitDefEqProofs only[go_sem];kernel_rfl
  ·have e0:bnd n t=[]:=by unfold bnd;rw[hn,if_pos rfl]
   have HP:=zxe n t hn;have hS0:sbS []=.sl 3 []:=rfl;rw[e0]at HA;rw[hS0]at HP HA;simp only[fmD,zab f,tmD,zaa t,zaa f.atom,zaa R,zd8,Qk]at HA HP HO⊢;refine zak Tryz.call95 Tryz.func95 rfl Ys (zaz Ys) ?_;simp -implicitDefEqProofs only[go_sem,Tryz.results95,h3];refine drawn Ys ?_;simp -implicitDefEqProofs only[go_sem];refine ztx HP Yr ?_;simp -implicitDefEqProofs only[go_sem];refine zaj (HA) Yr ?_;simp -implicitDefEqProofs only[go_sem];refine⟨Ys,?_⟩;refine drawn Ys ?_;simp -implicitDefEqProofs only[go_sem];refine zaj (HO) Yr ?_;simp -implicitDefEqProofs only[go_sem];kernel_rfl
end
section
open Go.RowKit
theorem qml (n:Str)(t:Tm):∀a:Tm,(zfi n t a).wt<=a.wt+a.nodes*t.wt:=zb0 fun m xs ih=>by
 rw[znl,Tm.nodes_eq]
 show(if xs.length=0 then (if(n==m)=true then t else .mk m [])else .mk m (xs.map (zfi n t))).wt<=(Tm.mk m xs).wt+(1+(xs.map Tm.nodes).sum)*t.wt
 have hs:(xs.map fun x=>(zfi n t x).wt).sum<=(xs.map Tm.wt).sum+(xs.map Tm.nodes).sum*t.wt:=by
  revert ih;induction xs with
  | nil=>simp
  | cons x xs ih2 =>
   intro ih;have h1:=ih x (by simp);have h2:=ih2 fun y hy=>ih y (by simp[hy]);simp only[Qi,Qz,Kl];omega
 have h0:=Tm.wt_eq (.mk m xs)
 have h0:(Tm.mk m xs).wt=m.length+xs.length+(xs.map Tm.wt).sum:=h0
 rw[Kl,Yk]
 split
 ·split
  ·omega
  ·have h1:=Tm.wt_eq (.mk m []);have h1:(Tm.mk m []).wt=m.length+0+0:=h1;omega
 ·have h1:=Tm.wt_eq (.mk m (xs.map (zfi n t)));have h1:(Tm.mk m (xs.map (zfi n t))).wt=m.length+(xs.map (zfi n t)).length+((xs.map (zfi n t)).map Tm.wt).sum:=h1;rw[Qa,Kh]at h1;have h2:(xs.map (Tm.wt∘zfi n t)).sum=(xs.map fun x=>(zfi n t x).wt).sum:=rfl;omega
theorem qmp (l:List (Str×Tm))(W:Nat)(hW:∀p∈l,p.2.wt<=W):∀a:Tm,(zef l a).wt<=a.wt+a.nodes*W:=zb0 fun m xs ih=>by
 rw[zm7,Tm.nodes_eq]
 show(if za9 m=true then (match l.find? fun(p:Str×Tm)=>p.1==m with|some p=>p.2|none=>.mk m [])else .mk m (xs.map (zef l))).wt<=(Tm.mk m xs).wt+(1+(xs.map Tm.nodes).sum)*W
 have hs:(xs.map fun x=>(zef l x).wt).sum<=(xs.map Tm.wt).sum+(xs.map Tm.nodes).sum*W:=by
  revert ih;induction xs with
  | nil=>simp
  | cons x xs ih2 =>
   intro ih;have h1:=ih x (by simp);have h2:=ih2 fun y hy=>ih y (by simp[hy]);simp only[Qi,Qz,Kl];omega
 have h0:=Tm.wt_eq (.mk m xs)
 have h0:(Tm.mk m xs).wt=m.length+xs.length+(xs.map Tm.wt).sum:=h0
 rw[Kl,Yk]
 split
 ·split
  ·rename_i p hp;have:=hW p (List.mem_of_find?_eq_some hp);omega
  ·have h1:=Tm.wt_eq (.mk m []);have h1:(Tm.mk m []).wt=m.length+0+0:=h1;omega
 ·have h1:=Tm.wt_eq (.mk m (xs.map (zef l)));have h1:(Tm.mk m (xs.map (zef l))).wt=m.length+(xs.map (zef l)).length+((xs.map (zef l)).map Tm.wt).sum:=h1;rw[Qa,Kh]at h1;have h2:(xs.map (Tm.wt∘zef l)).sum=(xs.map fun x=>(zef l x).wt).sum:=rfl;omega
theorem qno (n:Str)(t:Tm):∀p∈bnd n t,p.2.wt<=t.wt:=by
 unfold bnd
 split
 ·simp
 ·intro p hp;simp at hp;rw[hp];exact Qw _
theorem zre (n:Str)(t:Tm)(ht:t.wt<=1048576):∀f:Fm,f.forms=true->f.wt<=1048576->f.wt+(1+f.wt)*t.wt<=1099511627776->FC Tryz.prog 95 [fmD f,sD n,tmD t] [fmD (zbf n t f).1,bD (zbf n t f).2] :=
 zb7 fun o a v ps ih hf hw hb=>by
  refine qiv n t ht (.mk o a v ps) hf hw ?_ fun x hx=>ih x hx (by rw[Fm.forms_eq,Qc]at hf;exact Qs.1 hf.2 x hx) (Q9 (zb8 (a:=.mk o a v ps) hx) hw) ?_
  ·have h1:=qmp (bnd n t) t.wt (qno n t) a;have h2:=ze3 a;have h3:a.wt<=(Fm.mk o a v ps).wt:=zii (.mk o a v ps);have h4:a.nodes*t.wt<=(1+(Fm.mk o a v ps).wt)*t.wt:=Jc _ Yt;show(zef (bnd n t) a).wt<=_
   omega
  ·have h3:=zb8 (a:=.mk o a v ps) hx;have h4:(1+x.wt)*t.wt<=(1+(Fm.mk o a v ps).wt)*t.wt:=Jc _ Yt;omega
theorem ql7:(mkF 0 []).wt=0:=rfl
theorem zzw {α:Type}{g w:α->Nat}{W:Nat}:∀ps:List α,(∀x∈ps,g x<=w x+(1+w x)*W)->(ps.map g).sum<=(ps.map w).sum+(ps.length+(ps.map w).sum)*W
 | [],_=>by simp
 | x::xs,ih=>by
  have h1:=ih x (by simp);have h2:=zzw (g:=g) (w:=w) (W:=W) xs fun y hy=>ih y (by simp[hy]);simp only[Qi,Qz,Qb];have e:(xs.length+1+(w x+(xs.map w).sum))*W=(1+w x)*W+(xs.length+(xs.map w).sum)*W:=by rw[<-Kl];congr 1;omega
  rw[e];omega
theorem ql6 (n:Str)(t:Tm):∀f:Fm,(zdi n t f).1.wt<=f.wt+(1+f.wt)*t.wt:=zb7 fun o a v ps ih=>by
 rw[zrv]
 have h0:(Fm.mk o a v ps).wt=a.wt+v.length+ps.length+(ps.map Fm.wt).sum:=Fm.wt_eq (.mk o a v ps)
 split
 ·exact Nat.le_add_right _ _
 ·split
  ·rw[ql7];exact Q1 _
  ·have hs:(ps.map fun x=>(zdi n t x).1.wt).sum<=(ps.map Fm.wt).sum+(ps.length+(ps.map Fm.wt).sum)*t.wt:=zzw (g:=fun x=>(zdi n t x).1.wt) (w:=Fm.wt) (W:=t.wt) ps ih;have ha:=qml n t a;have hn:=ze3 a;show(Fm.mk o (if(o==3)=true then zfi n t a else a) v (ps.map fun x=>(zdi n t x).1)).wt<=_
   have h1:=Fm.wt_eq (.mk o (if(o==3)=true then zfi n t a else a) v (ps.map fun x=>(zdi n t x).1));have h1:(Fm.mk o (if(o==3)=true then zfi n t a else a) v (ps.map fun x=>(zdi n t x).1)).wt=(if(o==3)=true then zfi n t a else a).wt+v.length+(ps.map fun x=>(zdi n t x).1).length+((ps.map fun x=>(zdi n t x).1).map Fm.wt).sum:=h1;rw[Qa,Kh]at h1;have h2:(ps.map (Fm.wt∘fun x=>(zdi n t x).1)).sum=(ps.map fun x=>(zdi n t x).1.wt).sum:=rfl;have h3:(if(o==3)=true then zfi n t a else a).wt<=a.wt+(1+a.wt)*t.wt:=by
    have:a.nodes*t.wt<=(1+a.wt)*t.wt:=Jc _ Yt;split<;>omega
   have h4:(1+a.wt)*t.wt+(ps.length+(ps.map Fm.wt).sum)*t.wt<=(1+(Fm.mk o a v ps).wt)*t.wt:=by rw[<-Kl];exact Jc _ Yt
   omega
end
section
open Go.RowKit
attribute [local go_sem] Oper.semAt_some
end
section
open Go.RowKit
theorem zsk (f:Fm)(hs:f.wt<=1099511627776):GC Tryz.prog 89 [(true,fmD f)] [fmD (if f.good=true then f else mkF 0 []),bD f.good]:=by
 cases h:f.good
 ·rw[if_neg (by simp)];simp only[fmD,zab f,zig,Qk];refine qgh Tryz.call89 Tryz.func89 rfl Ys (by simp only[Qb,Qe,Tryz.ntmps89];omega) (by simp[zau,T.isPin]) ?_;simp -implicitDefEqProofs only[go_sem,Tryz.results89];refine callF (zc1 f hs) (by simp -implicitDefEqProofs only[go_sem,zab f,h]) ?_;simp -implicitDefEqProofs only[go_sem,zab f,h]
 ·rw[if_pos rfl];simp only[fmD,zab f];refine qgh Tryz.call89 Tryz.func89 rfl Ys (by simp only[Qb,Qe,Tryz.ntmps89];omega) (by simp[zau,T.isPin]) ?_;simp -implicitDefEqProofs only[go_sem,Tryz.results89];refine callF (zc1 f hs) (by simp -implicitDefEqProofs only[go_sem,zab f,h]) ?_;simp -implicitDefEqProofs only[go_sem,zab f,h]
end
section
open Go.RowKit
theorem zsx {n m:Str}(hn:za9 n=true)(hm:zce m=true):(n==m)=false:=by
 rw[Qy]
 rintro rfl
 have h1:=(zm9 hn).1
 have h2:=(zky hm).1
 rw[h1]at h2
 cases h2
theorem zxy {n:Str}(h:zce n=true):za9 n=false:=by
 cases hv:za9 n
 ·rfl
 ·have:=zsx hv h;simp at this
theorem qm4 (v:Str)(hv:za9 v=true):∀a:Tm,a.names=true->(decide (0<zid v a)=(voS a).contains v):=zb0 fun m xs ih h=>by
 rw[Tm.names_eq]at h
 rw[zs3,zq2]
 change (if za9 m=true then decide (xs.length=0)else zce m&&decide (xs.length<=4)&&xs.all Tm.names)=true at h
 change decide (0<(if(m==v)=true then 1 else 0)+(xs.map (zid v)).sum)=(if za9 m=true then [m]else (xs.map voS).flatten).contains v
 rw[Kq,Qr,Kd]
 by_cases hm:za9 m=true
 ·rw[if_pos hm]at h⊢;have hx:xs=[]:=Q8.1 (Jm h);subst hx;simp only[Qk,Ks,Kg,Ko];by_cases e:m=v
  ·simp[e]
  ·simp[e];exact fun h=>e h.symm
 ·rw[if_neg hm]at h⊢;simp only[Qc]at h;have hne:=zsx hv h.1.1;have hmv:(m==v)=false:=by rw[Qy]at hne⊢;exact fun e=>hne e.symm
  rw[hmv,if_neg (by simp),Q2];have hI:∀x∈xs,(0<zid v x↔v∈voS x):=fun x hx=>by
   have:=ih x hx (Qs.1 h.2 x hx)
   rwa [Kq,Qr,Kd]at this
  clear ih h;rw[List.mem_flatten];constructor
  ·intro hs;have:∃x∈xs,0<zid v x:=by
    revert hs;clear hI;induction xs with
    | nil=>simp
    | cons x xs ih2 =>
     intro hs;simp only[Qi,Qz]at hs;by_cases h0:0<zid v x
     ·exact⟨x,by simp,h0⟩
     ·obtain⟨y,hy,h1⟩:=ih2 Yt;exact⟨y,by simp[hy],h1⟩
   obtain⟨x,hx,h1⟩:=this;exact⟨voS x,Kn.2 ⟨x,hx,rfl⟩,(hI x hx).1 h1⟩
  ·rintro⟨l,hl,hv2⟩;obtain⟨x,hx,rfl⟩:=Kn.1 hl;have h1:=(hI x hx).2 hv2;have h2:=zay (zid v) xs x hx;omega
theorem vf_mem:∀(f:Fm)(b:List Str)(x:Str),x∈vf f b↔x∈vf f []/\x∉b:=zb7 fun o a v ps ih b x=>by
 rw[zxt (.mk o a v ps) b,zxt (.mk o a v ps) []]
 change x∈(if(o==3)=true then (zbb [] (voS a)).filter (fun s=>!b.contains s)else (ps.map fun y=>vf y (if isQ o=true then b++[v]else b)).flatten)↔x∈(if(o==3)=true then (zbb [] (voS a)).filter (fun s=>!([]:List Str).contains s)else (ps.map fun y=>vf y (if isQ o=true then []++[v]else [])).flatten)/\x∉b
 split
 ·simp[Ym]
 ·have hI:∀y∈ps,∀c,x∈vf y c↔x∈vf y []/\x∉c:=fun y hy c=>ih y hy c x;simp only[List.mem_flatten,Kn];constructor
  ·rintro⟨l,⟨y,hy,rfl⟩,hx⟩;rw[hI y hy]at hx;refine⟨⟨_,⟨y,hy,rfl⟩,?_⟩,?_⟩
   ·rw[hI y hy];refine⟨hx.1,fun hm=>hx.2 ?_⟩;split at hm
    ·rw[if_pos ‹_›];simp at hm;simp[hm]
    ·simp at hm
   ·intro hm;apply hx.2;split
    ·simp[hm]
    ·exact hm
  ·rintro⟨⟨l,⟨y,hy,rfl⟩,hx⟩,hb⟩;rw[hI y hy]at hx;refine⟨_,⟨y,hy,rfl⟩,?_⟩;rw[hI y hy];refine⟨hx.1,fun hm=>?_⟩;split at hm
   ·rw[if_pos ‹_›]at hx;rcases Qv.1 hm with hm|hm
    ·exact hb hm
    ·exact hx.2 (by simpa using hm)
   ·exact hb hm
theorem zfv (l:List Str)(n:Str):(zbb [] l).contains n=l.contains n:=by
 rw[Kq,Kd,Kd,zhm];simp
theorem qaq {f q:Fm}{n:Str}(hq:isQ f.op=true)(hp:f.parts=[q])(hn:(f.var==n)=false):(zbb [] (vf f [])).contains n=(zo2 f.parts).contains n:=by
 have h3:(f.op==3)=false:=by
  rw[Qy];intro e;rw[e]at hq;exact absurd hq (by decide)
 rw[zfv,hp]
 show _=(zbb [] (vf q [])).contains n
 rw[zfv,Kq,Kd,Kd,zxt f [],h3,if_neg (by simp),if_pos hq,hp]
 simp only[Qi,Qk,Q4,Yd,Kj,Ki]
 rw[vf_mem]
 rw[Qy]at hn
 constructor
 ·exact fun h=>h.1
 ·exact fun h=>⟨h,by simpa using fun e=>hn e.symm⟩
theorem zq6 (n:Str)(t:Tm)(hn:za9 n=true)(ht:t.names=true):∀a:Tm,a.names=true->zfi n t a=zef (bnd n t) a:=zb0 fun m xs ih h=>by
 rw[Tm.names_eq]at h
 rw[znl,zm7]
 change (if za9 m=true then decide (xs.length=0)else zce m&&decide (xs.length<=4)&&xs.all Tm.names)=true at h
 change (if xs.length=0 then (if(n==m)=true then t else .mk m [])else .mk m (xs.map (zfi n t)))=(if za9 m=true then (match (bnd n t).find? fun(p:Str×Tm)=>p.1==m with|some p=>p.2|none=>.mk m [])else .mk m (xs.map (zef (bnd n t))))
 by_cases hm:za9 m=true
 ·rw[if_pos hm]at h⊢;rw[if_pos (Jm h)];unfold bnd;cases htn:t.name==n
  ·cases hnm:n==m<;>simp only[hnm,if_true,if_false,Qn,List.find?_cons,List.find?_nil]
  ·cases hnm:n==m
   ·simp only[if_true,if_false,Qn,List.find?_nil]
   ·simp only[if_true,List.find?_nil];have e1:t.name=m:=by rw[Ko]at htn hnm;rw[htn,hnm]
    rw[Tm.names_eq,e1,if_pos hm]at ht;have e2:t.args=[]:=Q8.1 (Jm ht);cases t with
    | mk tn ta=>simp only[Tm.name,Tm.args]at e1 e2;rw[e1,e2]
 ·rw[if_neg hm]at h⊢;simp only[Qc]at h;have hne:=zsx hn h.1.1;by_cases hx:xs.length=0
  ·rw[if_pos hx,hne,if_neg (by simp)];have hx:xs=[]:=Q8.1 hx;subst hx;rfl
  ·rw[if_neg hx];rw[Kk fun x hx=>ih x hx (Qs.1 h.2 x hx)]
theorem qar (n:Str)(t:Tm)(hn:za9 n=true)(ht:t.names=true)(a:Tm)(h:a.atomOk=true):zfi n t a=zef (bnd n t) a:=by
 unfold Tm.atomOk at h
 split at h
 ·rename_i he;have he:a.name=[61]:=by simpa using he
  simp only[Qc,Qr]at h;rw[znl,zm7,he,show za9 [61]=false by decide,if_neg Yt,if_neg (by simp)];rw[Kk fun x hx=>zq6 n t hn ht x (Qs.1 h.2 x hx)]
 ·simp only[Qc]at h;have:=h.2;unfold Tm.good at this;rw[Qc]at this;exact zq6 n t hn ht a this.2
theorem noneT {a:Tm}(h:a.none=true):a=.mk [] []:=by
 unfold Tm.none at h
 rw[Qc,Ko,Qr,Q8]at h
 cases a with
 | mk n xs=>simp only[Tm.name,Tm.args]at h;rw[h.1,h.2]
theorem zhd {f:Fm}(h:f.here=true)(h3:(f.op==3)=false):f.atom=.mk [] []:=by
 apply noneT
 unfold Fm.here at h
 rw[h3]at h
 simp only[Qn,if_false]at h
 split at h
 ·simp only[Qc]at h;exact h.1.2
 ·split at h
  ·simp only[Qc]at h;exact h.1.2
  ·split at h
   ·simp only[Qc]at h;exact h.1.2
   ·split at h
    ·simp only[Qc]at h;exact h.1.2
    ·cases h
theorem zkr {f:Fm}{ps:List Fm}(h:f.here=true)(h3:(f.op==3)=false)(hl:ps.length=f.parts.length):(Fm.mk f.op f.atom f.var ps).here=true:=by
 have e:(Fm.mk f.op f.atom f.var ps).here=f.here:=by
  unfold Fm.here;show(if(f.op==1||f.op==2)=true then decide (ps.length=0)&&f.atom.none&&(f.var==[])else if(f.op==3)=true then decide (ps.length=0)&&f.atom.atomOk&&(f.var==[])else if(f.op==4)=true then decide (ps.length=1)&&f.atom.none&&(f.var==[])else if zm3 f.op=true then decide (ps.length=2)&&f.atom.none&&(f.var==[])else if isQ f.op=true then decide (ps.length=1)&&f.atom.none&&za9 f.var else false)=_
  rw[hl]
 rw[e];exact h
theorem qbd {f:Fm}(h1:f.here=true)(h:isQ f.op=true):za9 f.var=true:=by
 unfold Fm.here at h1
 have h2:(f.op==1||f.op==2)=false/\(f.op==3)=false/\(f.op==4)=false/\zm3 f.op=false:=by
  have h8:f.op=8\/f.op=9:=by unfold isQ at h;rw[Jl,Ko,Ko]at h;exact h
  rcases h8 with e|e<;>rw[e]<;>decide
 rw[h2.1,h2.2.1,h2.2.2.1,h2.2.2.2,h]at h1
 simp only[Qn,if_false,if_true,Qc]at h1
 exact h1.2
theorem zgt (o:Int)(a:Tm)(v:Str)(ps:List Fm):(Fm.mk o a v ps).forms=((Fm.mk o a v ps).here&&ps.all Fm.forms):=Fm.forms_eq _
theorem qa8 (n:Str)(t:Tm)(hn:za9 n=true)(ht:t.names=true):∀f:Fm,f.forms=true->(((zdi n t f).2=true/\(zdi n t f).1.forms=true)↔((zbf n t f).2=true/\(zbf n t f).1.forms=true))/\((zbf n t f).2=true->(zbf n t f).1.forms=true->(zdi n t f).1=(zbf n t f).1):=zb7 fun o a v ps ih hf=>by
 have hS:=zrv n t (.mk o a v ps)
 have hP:=zk1 n t (.mk o a v ps)
 have hf0:=hf
 rw[Fm.forms_eq,Qc]at hf0
 obtain⟨hh,hps⟩:=hf0
 have hps:∀x∈ps,x.forms=true:=Qs.1 hps
 have ihx:∀x∈ps,_:=fun x hx=>ih x hx (hps x hx)
 cases h3:o==3
 ·have h3':((Fm.mk o a v ps).op==3)=false:=h3;have ha:a=.mk [] []:=zhd hh h3';have hall:(∀x∈ps,(zdi n t x).2=true/\(zdi n t x).1.forms=true)↔(∀x∈ps,(zbf n t x).2=true/\(zbf n t x).1.forms=true):=forall_congr' fun x=>forall_congr' fun hx=>(ihx x hx).1;have main:((zdi n t (.mk o a v ps))=(.mk o a v (ps.map fun x=>(zdi n t x).1),ps.all fun x=>(zdi n t x).2))->((zbf n t (.mk o a v ps))=(.mk o a v ((ps.takeWhile fun x=>(zbf n t x).2).map fun x=>(zbf n t x).1),ps.all fun x=>(zbf n t x).2))->_:=fun e1 e2=>by
   have l1:((zdi n t (.mk o a v ps)).2=true/\(zdi n t (.mk o a v ps)).1.forms=true)↔(∀x∈ps,(zdi n t x).2=true/\(zdi n t x).1.forms=true):=by
    rw[e1];show((ps.all fun x=>(zdi n t x).2)=true/\(Fm.mk o a v (ps.map fun x=>(zdi n t x).1)).forms=true)↔_
    rw[zgt,Qs,Qc,Qs];have hhe:(Fm.mk o a v (ps.map fun x=>(zdi n t x).1)).here=true:=zkr (f:=.mk o a v ps) hh h3' (by show(ps.map _).length=ps.length;rw[Qa]);constructor
    ·rintro⟨h1,_,h2⟩ x hx;exact⟨h1 x hx,h2 _ (Kn.2 ⟨x,hx,rfl⟩)⟩
    ·intro h;refine⟨fun x hx=>(h x hx).1,hhe,fun y hy=>?_⟩;obtain⟨x,hx,rfl⟩:=Kn.1 hy;exact(h x hx).2
   have l2:((zbf n t (.mk o a v ps)).2=true/\(zbf n t (.mk o a v ps)).1.forms=true)↔(∀x∈ps,(zbf n t x).2=true/\(zbf n t x).1.forms=true):=by
    rw[e2];show((ps.all fun x=>(zbf n t x).2)=true/\(Fm.mk o a v ((ps.takeWhile fun x=>(zbf n t x).2).map fun x=>(zbf n t x).1)).forms=true)↔_
    constructor
    ·rintro⟨h1,h2⟩ x hx;have hw:(ps.takeWhile fun x=>(zbf n t x).2)=ps:=by
      have:=(zcw (l:=ps) (p:=fun x=>(zbf n t x).2) (k:=ps.length) (Qw _) (by rw[Kv];exact Qs.1 h1) fun h=>absurd h (Ya _)).1;rw[this,Kv]
     rw[hw,zgt,Qc,Qs]at h2;exact⟨Qs.1 h1 x hx,h2.2 _ (Kn.2 ⟨x,hx,rfl⟩)⟩
    ·intro h;have h1:(ps.all fun x=>(zbf n t x).2)=true:=Qs.2 fun x hx=>(h x hx).1;have hw:(ps.takeWhile fun x=>(zbf n t x).2)=ps:=by
      have:=(zcw (l:=ps) (p:=fun x=>(zbf n t x).2) (k:=ps.length) (Qw _) (by rw[Kv];exact Qs.1 h1) fun h=>absurd h (Ya _)).1;rw[this,Kv]
     have hhe:(Fm.mk o a v (ps.map fun x=>(zbf n t x).1)).here=true:=zkr (f:=.mk o a v ps) hh h3' (by show(ps.map _).length=ps.length;rw[Qa]);rw[hw,zgt,Qc];refine⟨h1,hhe,Qs.2 fun y hy=>?_⟩;obtain⟨x,hx,rfl⟩:=Kn.1 hy;exact(h x hx).2
   refine(⟨l1.trans (hall.trans l2.symm),fun p1 p2=>?_⟩:(((zdi n t (.mk o a v ps)).2=true/\(zdi n t (.mk o a v ps)).1.forms=true)↔((zbf n t (.mk o a v ps)).2=true/\(zbf n t (.mk o a v ps)).1.forms=true))/\((zbf n t (.mk o a v ps)).2=true->(zbf n t (.mk o a v ps)).1.forms=true->(zdi n t (.mk o a v ps)).1=(zbf n t (.mk o a v ps)).1));have hA:=l2.1 ⟨p1,p2⟩;have h1:(ps.all fun x=>(zbf n t x).2)=true:=Qs.2 fun x hx=>(hA x hx).1;have hw:(ps.takeWhile fun x=>(zbf n t x).2)=ps:=by
    have:=(zcw (l:=ps) (p:=fun x=>(zbf n t x).2) (k:=ps.length) (Qw _) (by rw[Kv];exact Qs.1 h1) fun h=>absurd h (Ya _)).1;rw[this,Kv]
   rw[e1,e2,hw];show Fm.mk o a v (ps.map fun x=>(zdi n t x).1)=Fm.mk o a v (ps.map fun x=>(zbf n t x).1)
   rw[Kk fun x hx=>(ihx x hx).2 (hA x hx).1 (hA x hx).2]
  cases hq:isQ o
  ·refine main ?_ ?_
   ·rw[hS];show(if(isQ o&&_)=true then _ else if(isQ o&&_)=true then _ else (Fm.mk o (if(o==3)=true then zfi n t a else a) v _,_))=_
    rw[hq,h3];simp only[Ql,Qn,if_false];rfl
   ·rw[hP];show(if(o==3)=true then _ else if(isQ o&&_)=true then _ else if(isQ o&&_)=true then _ else (Fm.mk o (.mk [] []) v _,_))=_
    rw[hq,h3];simp only[Ql,Qn,if_false];rw[<-ha];rfl
  ·obtain⟨q,hp,hqf⟩:=zk2 (f:=.mk o a v ps) hq hf;cases hvn:v==n
   ·have hfp:=qaq (f:=.mk o a v ps) (n:=n) hq hp hvn;have hvok:za9 v=true:=qbd (f:=.mk o a v ps) hh hq;have hoc:=qm4 v hvok t ht;have hc2:(zbb [] (voS t)).contains v=(voS t).contains v:=zfv _ _;have hS2:zdi n t (.mk o a v ps)=if(!(zo2 ps).contains n)=true then (.mk o a v ps,true)else if(voS t).contains v=true then (mkF 0 [],false)else (.mk o a v (ps.map fun x=>(zdi n t x).1),ps.all fun x=>(zdi n t x).2):=by
     rw[hS];show(if(isQ o&&(v==n||!((zbb [] (vf (.mk o a v ps) [])).contains n)))=true then _ else if(isQ o&&decide (0<zid v t))=true then _ else (Fm.mk o (if(o==3)=true then zfi n t a else a) v _,_))=_
     rw[hfp,hq,hvn,h3,hoc];simp only[Qq,Jf,Qn,if_false];rfl
    have hP2:zbf n t (.mk o a v ps)=if(!(zo2 ps).contains n)=true then (.mk o a v ps,true)else if(voS t).contains v=true then (.mk o (.mk [] []) v [],false)else (.mk o a v ((ps.takeWhile fun x=>(zbf n t x).2).map fun x=>(zbf n t x).1),ps.all fun x=>(zbf n t x).2):=by
     rw[hP];show(if(o==3)=true then _ else if(isQ o&&(v==n||!((zo2 ps).contains n)))=true then _ else if(isQ o&&(zbb [] (voS t)).contains v)=true then _ else (Fm.mk o (.mk [] []) v _,_))=_
     rw[hq,hvn,h3,hc2];simp only[Qq,Jf,Qn,if_false];rw[<-ha];rfl
    cases hfc:(!(zo2 ps).contains n)
    ·rw[hfc]at hS2 hP2;simp only[Qn,if_false]at hS2 hP2;cases hvc:(voS t).contains v
     ·rw[hvc]at hS2 hP2;simp only[Qn,if_false]at hS2 hP2;exact main hS2 hP2
     ·rw[hvc]at hS2 hP2;simp only[if_true]at hS2 hP2;rw[hS2,hP2];exact⟨⟨fun h=>(by cases h.1),fun h=>(by cases h.1)⟩,fun h=>(by cases h)⟩
    ·rw[hfc]at hS2 hP2;simp only[if_true]at hS2 hP2;rw[hS2,hP2];exact⟨Iff.rfl,fun _ _=>rfl⟩
   ·have hS2:zdi n t (.mk o a v ps)=(.mk o a v ps,true):=by
     rw[hS];show(if(isQ o&&(v==n||_))=true then _ else _)=_
     rw[hq,hvn];simp only[Qq,Bool.true_or,if_true]
    have hP2:zbf n t (.mk o a v ps)=(.mk o a v ps,true):=by
     rw[hP];show(if(o==3)=true then _ else if(isQ o&&(v==n||_))=true then _ else _)=_
     rw[hq,hvn,h3];simp only[Qq,Bool.true_or,if_true,Qn,if_false]
    rw[hS2,hP2];exact⟨Iff.rfl,fun _ _=>rfl⟩
 ·have ho3:o=3:=by simpa using h3
  obtain⟨hat,hp⟩:=zge (f:=.mk o a v ps) hh ho3;have hp:ps=[]:=hp;have hat:a.atomOk=true:=hat;have hq:isQ o=false:=by rw[ho3];decide
  have hS2:zdi n t (.mk o a v ps)=(.mk o (zef (bnd n t) a) v [],true):=by
   rw[hS];show(if(isQ o&&_)=true then _ else if(isQ o&&_)=true then _ else (Fm.mk o (if(o==3)=true then zfi n t a else a) v (ps.map _),ps.all _))=_
   rw[hq,h3,hp];simp only[Ql,Qn,if_false,if_true,Qk,List.all_nil];rw[qar n t hn ht a hat]
  have hP2:zbf n t (.mk o a v ps)=(.mk o (zef (bnd n t) a) v [],(zef (bnd n t) a).atomOk):=by
   rw[hP];show(if(o==3)=true then _ else _)=_
   rw[h3];rfl
  rw[hS2,hP2];refine⟨⟨fun h=>⟨?_,h.2⟩,fun h=>⟨rfl,h.2⟩⟩,fun _ _=>rfl⟩;have:=h.2;rw[zgt,Qc]at this;exact(zge (f:=.mk o (zef (bnd n t) a) v []) this.1 ho3).1
theorem ze2 {f:Fm}(h:f.good=true):f.forms=true:=(Qc _ _▸h:_/\_).2
noncomputable def sbF (n:Str)(t:Tm)(f:Fm):Fm×Bool:=if(f.good&&za9 n&&t.good&&(zdi n t f).2&&(zdi n t f).1.good)=true then ((zdi n t f).1,true)else (mkF 0 [],false)
theorem qjn (n:Str)(t:Tm)(hn:za9 n=true)(ht:t.names=true)(f:Fm)(hf:f.forms=true):((zdi n t f).2&&(zdi n t f).1.good)=((zbf n t f).2&&(zbf n t f).1.good):=by
 obtain⟨h1,h2⟩:=qa8 n t hn ht f hf
 rw[Kq,Qc,Qc]
 unfold Fm.good
 rw[Qc,Qc]
 constructor
 ·rintro⟨a,b,c⟩;obtain⟨p,q⟩:=h1.1 ⟨a,c⟩;exact⟨p,by rw[<-h2 p q];exact b,q⟩
 ·rintro⟨a,b,c⟩;obtain⟨p,q⟩:=h1.2 ⟨a,c⟩;exact⟨p,by rw[h2 a c];exact b,q⟩
theorem zg8 (f:Fm)(n:Str)(t:Tm)(hw:f.wt<=1048576)(ht:t.wt<=1048576)(hb:f.wt+(1+f.wt)*t.wt<=1099511627776):FC Tryz.prog 115 [fmD f,sD n,tmD t] [fmD (sbF n t f).1,bD (sbF n t f).2]:=by
 have hv:sbF n t f=if(f.good&&za9 n&&t.good&&(zdi n t f).2&&(zdi n t f).1.good)=true then ((zdi n t f).1,true)else (mkF 0 [],false):=rfl
 have HF:=zc1 f Yt
 have HN:=zeh n
 have HT:=zfa t Yt
 cases hg:f.good
 ·rw[hg]at hv HF;simp only[Ql,Qn,if_false]at hv;rw[hv];simp only[fmD,zab f,tmD,zaa t,zig,Qk]at HF⊢;refine zak Tryz.call115 Tryz.func115 rfl Ys (zaz Ys) ?_;simp -implicitDefEqProofs only[go_sem,Tryz.results115];refine callF (HF) Yr ?_;simp -implicitDefEqProofs only[go_sem]
 ·cases hn:za9 n
  ·rw[hg,hn]at hv;rw[hg]at HF;rw[hn]at HN;simp only[Ql,Qq,Qn,if_false]at hv;rw[hv];simp only[fmD,zab f,tmD,zaa t,zig,Qk]at HF⊢;refine zak Tryz.call115 Tryz.func115 rfl Ys (zaz Ys) ?_;simp -implicitDefEqProofs only[go_sem,Tryz.results115];refine callF (HF) Yr ?_;simp -implicitDefEqProofs only[go_sem];refine callF (HN) Yr ?_;simp -implicitDefEqProofs only[go_sem]
  ·cases htg:t.good
   ·rw[hg,hn,htg]at hv;rw[hg]at HF;rw[hn]at HN;rw[htg]at HT;simp only[Ql,Qq,Qn,if_false]at hv;rw[hv];simp only[fmD,zab f,tmD,zaa t,zig,Qk]at HF HT⊢;refine zak Tryz.call115 Tryz.func115 rfl Ys (zaz Ys) ?_;simp -implicitDefEqProofs only[go_sem,Tryz.results115];refine callF (HF) Yr ?_;simp -implicitDefEqProofs only[go_sem];refine callF (HN) Yr ?_;simp -implicitDefEqProofs only[go_sem];refine callF (HT) Yr ?_;simp -implicitDefEqProofs only[go_sem]
   ·rw[hg,hn,htg]at hv;rw[hg]at HF;rw[hn]at HN;rw[htg]at HT;have HS:=zn9 n t ht f (ze2 hg) hw;have hwt:=ql6 n t f;generalize (zdi n t f).1=R at HS hv hwt;simp only[Qq]at hv;cases hok:(zdi n t f).2
    ·rw[hok]at hv HS;simp only[Ql,Qn,if_false]at hv;rw[hv];simp only[fmD,zab f,tmD,zaa t,zab R,zig,Qk]at HF HT HS⊢;refine zak Tryz.call115 Tryz.func115 rfl Ys (zaz Ys) ?_;simp -implicitDefEqProofs only[go_sem,Tryz.results115];refine callF (HF) Yr ?_;simp -implicitDefEqProofs only[go_sem];refine callF (HN) Yr ?_;simp -implicitDefEqProofs only[go_sem];refine callF (HT) Yr ?_;simp -implicitDefEqProofs only[go_sem];refine callF (HS) Yr ?_;simp -implicitDefEqProofs only[go_sem]
    ·rw[hok]at hv HS;have HI:=zsk R Yt;simp only[Qq]at hv;have hv2:sbF n t f=((if R.good=true then R else mkF 0 []),R.good):=by rw[hv];cases R.good<;>rfl
     rw[hv2];generalize (if R.good=true then R else mkF 0 [])=Z at HI⊢;generalize R.good=G at HI⊢;simp only[fmD,zab f,tmD,zaa t,zab R,zab Z]at HF HT HS HI⊢;refine zak Tryz.call115 Tryz.func115 rfl Ys (zaz Ys) ?_;simp -implicitDefEqProofs only[go_sem,Tryz.results115];refine callF (HF) Yr ?_;simp -implicitDefEqProofs only[go_sem];refine callF (HN) Yr ?_;simp -implicitDefEqProofs only[go_sem];refine callF (HT) Yr ?_;simp -implicitDefEqProofs only[go_sem];refine callF (HS) Yr ?_;simp -implicitDefEqProofs only[go_sem];refine zdx [6] [34] [] (HI) Yr Yr Yr Yr ?_;simp -implicitDefEqProofs only[go_sem]
end
section
open Go.RowKit
variable {P:Program}
theorem qoh {w:World}{A:Nat->Prop}{x:Ev}{v:Value}{fp:List Nat}(h:EvR w A x v fp)(hd:x.deep=true)(hf:flR x.rows=true):∀b∈fp,fp.head?=some b:=by
 obtain⟨ao,cap,e1,e2,e3,e4⟩:=h
 rcases e4 with⟨_,_,_,rfl⟩|⟨b',cells,ty,fps,_,rfl,e7,e8,e9⟩
 ·intro b hb;simp at hb
 ·rw[if_pos hd]at e9;rw[e9.flat hf];intro b hb;simp at hb;rw[hb];rfl
def zs1 (g:Gh)(e n:Nat)(v:Value)(fp:List Nat):Gh:=⟨g.β,fun e' n'=>if e'=e/\n'=n then v else g.ψ e' n',upd g.φ e fp,g.A0,g.R0⟩
theorem Rel.turnB {n0:Nat->Prop}{N:Nat}{σ:St}{g:Gh}{a:Act}{w w':World}{k e:Nat}{x:Ev}{rows':List (List T)}{v':Value}{fp':List Nat}(h:Rel n0 N σ g a w)(hn0:LtK n0 w)(hk:σ.bx k≠none)(hx:σ.ev e=some x)(hxo:x.on=true)(hxd:x.deep=true)(hfl:flR x.rows=true)
  (hb:Bk (fun b=>b<w.heap.size/\b∉g.φ e/\b≠g.β k) w w') (ho:za3 w' (.sl x.sz rows') v' fp') (hnd:fp'.Nodup) (hfp:∀b∈fp',b∈g.φ e\/w.heap.size<=b) (hbx:∃ty,w'.heap[g.β k]?=some (.cells ⟨[v']⟩ ty (0,0))) :
  Rel n0 N ⟨σ.sl,upd σ.bx k (some [.ow e (x.gen+1)]),upd σ.ev e (some ⟨true,x.sz,rows',x.gen+1,true⟩)⟩ (zs1 g e (x.gen+1) v' fp') a w':=by
 have hOn:σ.On e:=⟨x,hx,hxo⟩
 have hE:=h.evs e x hx hxo
 have hhd:=qoh hE hxd hfl
 have hlt:∀e',σ.On e'->∀b∈g.φ e',b<w.heap.size:=fun e' ⟨y,hy,hyo⟩=>(h.evs e' y hy hyo).lt
 have hon:∀e',e'≠e->St.On ⟨σ.sl,upd σ.bx k (some [.ow e (x.gen+1)]),upd σ.ev e (some ⟨true,x.sz,rows',x.gen+1,true⟩)⟩ e'->σ.On e':=fun e' hne ⟨y,hy,hyo⟩=>⟨y,by have hy:upd σ.ev e _ e'=some y:=hy;rw[zal _ _ hne]at hy;exact hy,hyo⟩
 have hφn:∀e',e'≠e->(zs1 g e (x.gen+1) v' fp').φ e'=g.φ e':=fun e' hne=>zal _ _ hne
 have hφe:(zs1 g e (x.gen+1) v' fp').φ e=fp':=zag _ _ _
 have hdom:∀b,upd σ.bx k (some [C.ow e (x.gen+1)]) b≠none↔σ.bx b≠none:=fun b=>by
  by_cases hbk:b=k
  ·subst hbk;rw[zag];exact⟨fun _=>hk,fun _=>by simp⟩
  ·rw[zal _ _ hbk]
 have hfixn:∀b,Fix σ g w b->b∉g.φ e:=fun b hf hm=>hf.2.1 e x hx hxo (hhd b hm)
 have hnew:∀b,b<w.heap.size->b∉g.φ e->b∉fp':=fun b hl hn hm=>by
  rcases hfp b hm with h1|h1
  ·exact hn h1
  ·omega
 have hψ:∀e' n,(e'≠e\/n<=x.gen)->(zs1 g e (x.gen+1) v' fp').ψ e' n=g.ψ e' n:=fun e' n hh=>if_neg fun hc=>by
  rcases hh with hh|hh
  ·exact hh hc.1
  ·omega
 have m:Mv σ ⟨σ.sl,upd σ.bx k (some [.ow e (x.gen+1)]),upd σ.ev e (some ⟨true,x.sz,rows',x.gen+1,true⟩)⟩ g (zs1 g e (x.gen+1) v' fp') w w':=by
  refine⟨fun b hf=>hb.block b ⟨hf.2.2.1,hfixn b hf,fun e'=>hf.1 k hk e'.symm⟩,fun b hf=>⟨fun j hj=>hf.1 j ((hdom j).1 hj),fun e' y hy hyo hh=>?_,Jn hf.2.2.1 hb.size,hf.2.2.2⟩,fun b hbb=>⟨rfl,(hdom b).2 hbb⟩,fun e' n he=>?_,fun b hf e' he hm=>?_⟩
  ·by_cases hee:e'=e
   ·subst hee;rw[hφe]at hh;exact hnew b hf.2.2.1 (hfixn b hf) (List.mem_of_mem_head? hh)
   ·rw[hφn e' hee]at hh;have hy:upd σ.ev e _ e'=some y:=hy;rw[zal _ _ hee]at hy;exact hf.2.1 e' y hy hyo hh
  ·obtain⟨y,hy,hg⟩:=he;by_cases hee:e'=e
   ·subst hee;rw[hx]at hy;cases hy;exact⟨⟨_,zag _ _ _,Nat.le_succ_of_le hg⟩,hψ _ _ (Or.inr hg)⟩
   ·exact⟨⟨y,(zal _ _ hee).trans hy,hg⟩,hψ _ _ (Or.inl hee)⟩
  ·by_cases hee:e'=e
   ·subst hee;rw[hφe]at hm;exact hnew b hf.1.2.2.1 (hf.2 e' hOn) hm
   ·rw[hφn e' hee]at hm;exact hf.2 e' (hon e' hee he) hm
 refine⟨h.defers,h.size,h.anew,fun i=>m.vr (h.slots i),fun b cs hbb=>?_,fun b hbb=>h.base b ((hdom b).1 hbb),fun b b' h1 h2 h3=>h.inj b b' ((hdom b).1 h1) ((hdom b').1 h2) h3,fun e' y he hyo=>?_,fun e' y he hyo=>?_,fun e' n=>?_,fun e' he b hbb=>?_,fun e' he b hbb=>?_,fun e' he=>?_,fun e1 e2 h1 h2 hne b hb1 hb2=>?_,fun e' j he hj hm=>?_⟩
 ·have hbb:upd σ.bx k _ b=some cs:=hbb;by_cases hbk:b=k
  ·subst hbk;rw[zag]at hbb;cases hbb;obtain⟨ty,hbx⟩:=hbx;exact⟨_,ty,hbx,v',[],rfl,⟨(if_pos ⟨rfl,rfl⟩).symm,_,zag _ _ _,Qw _⟩,rfl⟩
  ·rw[zal _ _ hbk]at hbb;obtain⟨vs,ty,k1,k2⟩:=h.boxes b cs hbb;have hne0:σ.bx b≠none:=by rw[hbb];simp
   exact⟨vs,ty,by rw[<-k1];exact hb.block _ ⟨h.lt hne0,h.ebx e b hOn hne0,fun e'=>hbk (h.inj b k hne0 hk e')⟩,m.crs k2⟩
 ·by_cases hee:e'=e
  ·subst hee;have he:upd σ.ev e' _ e'=some y:=he;rw[zag]at he;cases he;rw[hφe];show EvR w' _ _ (if e'=e'/\x.gen+1=x.gen+1 then v' else _) fp'
   rw[if_pos ⟨rfl,rfl⟩];unfold za3 at ho;obtain⟨ao,cap,j1,j2,j3,j4⟩:=ho;refine⟨ao,cap,j1,j2,j3,?_⟩;rcases j4 with j4|⟨b,cells,ty,fps,j4,j5,j6,j7,j8⟩
   ·exact Or.inl j4
   ·exact Or.inr ⟨b,cells,ty,fps,j4,j5,j6,j7,by rw[if_pos rfl];exact j8⟩
  ·have he:upd σ.ev e _ e'=some y:=he;rw[zal _ _ hee]at he;rw[hφn e' hee,hψ _ _ (Or.inl hee)];refine m.evr (h.evs e' y he hyo) fun b hbb=>hb.block b ⟨hlt e' ⟨y,he,hyo⟩ b hbb,fun hm=>h.apart e' e ⟨y,he,hyo⟩ hOn hee b hbb hm,fun e''=>h.ebx e' k ⟨y,he,hyo⟩ hk (e''▸hbb)⟩
 ·by_cases hee:e'=e
  ·subst hee;have he:upd σ.ev e' _ e'=some y:=he;rw[zag]at he;cases he;cases hyo
  ·have he:upd σ.ev e _ e'=some y:=he;rw[zal _ _ hee]at he;rw[hψ _ _ (Or.inl hee)];exact⟨m.rep (h.offs e' y he hyo).1,(h.offs e' y he hyo).2⟩
 ·by_cases hc:e'=e/\n=x.gen+1
  ·obtain⟨rfl,rfl⟩:=hc;unfold za3 at ho;obtain⟨ao,cap,j1,_⟩:=ho;exact⟨ao,_,cap,by rw[<-j1];exact if_pos ⟨rfl,rfl⟩⟩
  ·show ∃ao l c,(if e'=e/\n=x.gen+1 then v' else g.ψ e' n)=_
   rw[if_neg hc];exact h.slc e' n
 ·by_cases hee:e'=e
  ·subst hee;rw[hφe]at hbb;rcases hfp b hbb with h1|h1
   ·exact h.ebase e' hOn b h1
   ·exact h.anew b (hn0.new h1)
  ·rw[hφn e' hee]at hbb;exact h.ebase e' (hon e' hee he) b hbb
 ·by_cases hee:e'=e
  ·subst hee;rw[hφe]at hbb;rcases hfp b hbb with h1|h1
   ·exact h.etop e' hOn b h1
   ·exact hn0.new h1
  ·rw[hφn e' hee]at hbb;exact h.etop e' (hon e' hee he) b hbb
 ·by_cases hee:e'=e
  ·subst hee;rw[hφe];exact hnd
  ·rw[hφn e' hee];exact h.nodup e' (hon e' hee he)
 ·by_cases g1:e1=e
  ·subst g1;rw[hφe]at hb1;have hee:e2≠e1:=fun hh=>hne hh.symm;rw[hφn e2 hee]at hb2;rcases hfp b hb1 with h3|h3
   ·exact h.apart e1 e2 hOn (hon e2 hee h2) hne b h3 hb2
   ·have:=hlt e2 (hon e2 hee h2) b hb2;omega
  ·rw[hφn e1 g1]at hb1;by_cases g2:e2=e
   ·subst g2;rw[hφe]at hb2;rcases hfp b hb2 with h3|h3
    ·exact h.apart e1 e2 (hon e1 g1 h1) hOn hne b hb1 h3
    ·have:=hlt e1 (hon e1 g1 h1) b hb1;omega
   ·rw[hφn e2 g2]at hb2;exact h.apart e1 e2 (hon e1 g1 h1) (hon e2 g2 h2) hne b hb1 hb2
 ·have hj':=(hdom j).1 hj;by_cases hee:e'=e
  ·subst hee;rw[hφe]at hm;rcases hfp _ hm with h3|h3
   ·exact h.ebx e' j hOn hj' h3
   ·have h3:w.heap.size<=g.β j:=h3;have:=h.lt hj';omega
  ·rw[hφn e' hee]at hm;exact h.ebx e' j (hon e' hee he) hj' hm
def qga (σ:St)(k:Nat)(sz:Nat)(rows:List (List T))(K:Nat->Ev->Prop):Prop:=match σ.bx k with
 | some [.ow e n]=>zav (σ.ev e) fun x=>x.deep=true/\x.on=true/\x.gen=n/\x.sz=sz/\x.rows=rows/\flR rows=true/\K e x
 | _=>False
theorem qem {σ:St}{k sz:Nat}{rows:List (List T)}{K:Nat->Ev->Prop}(h:qga σ k sz rows K):∃e x,σ.bx k=some [.ow e x.gen]/\σ.ev e=some x/\x.deep=true/\x.on=true/\x.sz=sz/\x.rows=rows/\flR rows=true/\K e x:=by
 unfold qga at h
 split at h
 ·rename_i e n hb;obtain⟨x,h1,h2,h3,rfl,h5,h6,h7,h8⟩:=zar h;exact⟨e,x,hb,h1,h2,h3,h5,h6,h7,h8⟩
 ·exact h.elim
def St.bxE (σ:St)(k:Nat):Nat:=match σ.bx k with
 | some [.ow e _]=>e
 | _=>0
def zn5 (σ:St)(k:Nat)(rows':List (List T)):List (Nat×Ev):=match σ.ev (σ.bxE k)with
 | some x=>[(σ.bxE k,⟨true,x.sz,rows',x.gen+1,true⟩)]
 | none=>[]
def znq (σ:St)(k:Nat):List (Nat×List C):=match σ.ev (σ.bxE k)with
 | some x=>[(k,[.ow (σ.bxE k) (x.gen+1)])]
 | none=>[]
def flD:List (Bool×D)->Bool
 | []=>true
 | (_,.one t)::ds=>t.flat&&flD ds
 | _=>false
def flV:List (Bool×D)->List V
 | []=>[]
 | (_,.one t)::ds=>.one (.t t)::flV ds
 | (_,.agg ts)::ds=>.agg (ts.map .t)::flV ds
theorem zsc:∀(ds:List (Bool×D)),∀v∈flV ds,v.isTup=false
 | [],v,h=>by simp[flV]at h
 | (_,.one t)::ds,v,h=>by
  simp only[flV,Qu]at h;rcases h with rfl|h
  ·rfl
  ·exact zsc ds v h
 | (_,.agg t)::ds,v,h=>by
  simp only[flV,Qu]at h;rcases h with rfl|h
  ·rfl
  ·exact zsc ds v h
theorem qal {σ:St}{g:Gh}{w w':World}{A:Nat->Prop}:∀{ds:List (Bool×D)}{us:List Value}{fp tp:List Nat},flD ds=true->za0 w' A ds us fp tp->VRl σ g w (flV ds) us/\fp=[]
 | [],us,fp,tp,_,h=>⟨h.1,h.2.1⟩
 | (false,.one t)::ds,us,fp,tp,hf,h=>by
  rw[flD,Qc]at hf;obtain⟨v,vs',rfl,h1,h2⟩:=h;obtain⟨k1,k2⟩:=qal (σ:=σ) (g:=g) (w:=w) hf.2 h2;have h1:zas w' A t v:=h1;exact⟨⟨v,vs',rfl,zdy hf.1 h1,k1⟩,k2⟩
 | (true,.one t)::ds,us,fp,tp,hf,h=>by
  rw[flD,Qc]at hf;obtain⟨v,vs',f1,f2,t1,t2,rfl,rfl,rfl,h1,h2⟩:=h;obtain⟨k1,k2⟩:=qal (σ:=σ) (g:=g) (w:=w) hf.2 h2;have h1:za3 w' t v f1:=h1.1;have h0:f1=[]/\zas w (Fix σ g w) t v:=by
   have hf1:=hf.1;cases t<;>simp only[T.flat,Qn]at hf1
   ·unfold za3 at h1;unfold zas;exact⟨h1.2.2.2,h1.1,h1.2.1,h1.2.2.1⟩
   ·unfold za3 at h1;unfold zas;exact⟨h1.2,h1.1⟩
   ·unfold za3 at h1;unfold zas;exact⟨h1.2.2,h1.1,h1.2.1⟩
   ·unfold za3 at h1;unfold zas;exact⟨h1.2,h1.1⟩
  exact⟨⟨v,vs',rfl,h0.2,k1⟩,by rw[h0.1,k2];rfl⟩
 | (_,.agg _)::_,_,_,_,hf,_=>by cases hf
def St.callT (σ:St)(d k:Nat)(rows':List (List T))(res:List (Bool×D)):St:=(σ.upEB (zn5 σ k rows') (znq σ k)).put (some d) (zlk (flV res))
theorem zqb {o:Oper}{σ:St}{x:Operand}{asx:Array Operand}{ts:Array TypeId}{f:FuncId}{cvs:List V}{d k sz:Nat}{rows rows':List (List T)}{l:List AF}{res:List (Bool×D)}(ho:o.op=.call ⟨.value x,asx,ts⟩)(hd:o.dst=some d)
  (h:PC P f [[(true,.sl sz rows)]] l [[(true,.sl sz rows')]] res) (hc:za1 (σ.get P 0 x)=some (f,cvs)) (hr:flD res=true)
  (hv:mtK [k] l (σ.gets P asx ts++cvs) fun us=>gvQ us (AF.ds l)) (hb:qga σ k sz rows fun _ _=>True):zai P o σ (σ.callT d k rows' res):=by
 intro n0 N g a w hR hn hdN
 obtain⟨vs,h1,h2⟩:=zdc hR ho hc h.1
 unfold Oper.wp
 rw[h1]
 obtain⟨e,z,hbx,hz,zd,zo,rfl,rfl,zf,_⟩:=qem hb
 have hk:σ.bx k≠none:=by rw[hbx];simp
 have hOn:σ.On e:=⟨z,hz,zo⟩
 let bs:Nat->Nat:=fun j=>g.β (([k]:List Nat).getD j 0)
 have hbs:∀j b,([k]:List Nat)[j]?=some b->bs j=g.β b:=fun j b hj=>by show g.β (([k]:List Nat).getD j 0)=_;rw[List.getD_eq_getElem?_getD,hj];rfl
 obtain⟨us,dvs,a1,a2,a3,rfl⟩:=zeq hbs hv h2
 have k2:=zhj a1 a2
 obtain⟨cvs',ty,b1,b2⟩:=hR.boxes k _ hbx
 obtain⟨v,vs',e1,⟨b3,_⟩,b4⟩:=b2
 have b4:vs'=[]:=b4
 subst b4
 have hown:za3 w (.sl z.sz z.rows) (g.ψ e z.gen) (g.φ e):=zeb hR (by obtain⟨zd',zs',zr',zg',zo'⟩:=z;simp only at zd zo;subst zd zo;exact hz)
 have hfn:∀b,zb6 σ g w b->b∉g.φ e:=fun b hb=>hb.2 e hOn
 have hbs0:bs 0=g.β k:=rfl
 have hga:za0 w (fun q=>(q<w.heap.size/\q∉g.φ e/\∀j,j<1->q≠bs j)/\zb6 σ g w q) (AF.ds l++bxA [(true,.sl z.sz z.rows)]) (dvs++[v]) ([]++g.φ e) ([]++zj3 (.sl z.sz z.rows) (g.φ e)):=by
  have hq:∀b,zb6 σ g w b->∀j,j<1->b≠bs j:=fun b hb j hj he=>by
   have hj0:j=0:=by omega
   subst hj0;exact hb.1.1 k hk (by rw[<-hbs0,he])
  refine za0.append (za0.keepA (fun b hb=>⟨⟨hb.1.2.2.1,hfn b hb,hq b hb⟩,hb⟩) k2) ?_
  ·exact⟨v,[],g.φ e,[],_,[],rfl,by simp,by simp,⟨by rw[b3];exact hown,rfl⟩,rfl,rfl,rfl⟩
 rw[Ki,Ki]at hga
 have hbf:∀j,j<([[(true,T.sl z.sz z.rows)]]:Bxs).length->bs j∉g.φ e:=fun j hj=>by
  simp only[J4]at hj;have hj0:j=0:=by omega
  subst hj0;rw[hbs0];exact hR.ebx e k hOn hk
 have hBI:zw2 w bs 0 [[v]] [[(true,T.sl z.sz z.rows)]]:=by
  refine⟨rfl,⟨ty,?_⟩,trivial⟩;rw[hbs0,b1];have:cvs'=⟨[v]⟩:=by cases cvs';simp only at e1;rw[e1]
  rw[this]
 refine(h.2.2 w bs [[v]] dvs (g.φ e) _ (zb6 σ g w) (fun i j hi hj _=>by simp only[J4]at hi hj;omega) hbf hBI hga (hR.nodup e hOn) a3).mono ?_
 rintro en w' ⟨us',bvs',fp',tp',rfl,hbx',hlu,o1,o2,o3,hbk⟩
 obtain⟨v1,v2,f1,f2,t1,t2,ev,rfl,et,p1,p2⟩:=za0.split o1
 obtain⟨rfl,rfl⟩:=J8 ev (by rw[hlu,za0.len p1])
 match bvs',hbx' with
 | [cs],⟨hl1,⟨ty',hty⟩,_⟩ =>
  obtain⟨v',e2⟩:=Jb.1 (show cs.length=1 from hl1);subst e2;have p2:za0 w' _ [(true,.one (.sl z.sz rows'))] [v'] f2 t2:=p2;obtain⟨u,us2,g1,g2,s1,s2,e3,rfl,rfl,⟨hown',_⟩,e4⟩:=p2;obtain⟨rfl,rfl,rfl⟩:=e4;cases e3;have hown':za3 w' (.sl z.sz rows') v' g1:=hown';obtain⟨hf1,hf1e⟩:=qal (σ:=⟨σ.sl,upd σ.bx k (some [.ow e (z.gen+1)]),upd σ.ev e (some ⟨true,z.sz,rows',z.gen+1,true⟩)⟩) (g:=zs1 g e (z.gen+1) v' g1) (w:=w') hr p1;subst hf1e;rw[Ki,Kj]at o2 o3
  have hT:=hR.turnB (k:=k) (e:=e) hn hk hz zo zd zf (w':=w') (rows':=rows') (v':=v') (fp':=g1) ⟨hbk.os,hbk.tape,hbk.output,hbk.size,fun q hq=>hbk.block q ⟨hq.1,hq.2.1,fun j hj he=>by
   simp only[J4]at hj;have hj0:j=0:=by omega
   subst hj0
   exact hq.2.2 (he.trans hbs0)⟩⟩ hown' o2 o3 ⟨ty',by rw[hbs0]at hty;exact hty⟩
  have hBk:Bk n0 w w':=⟨hbk.os,hbk.tape,hbk.output,hbk.size,fun q hq=>hbk.block q ⟨hn q hq,fun hm=>hR.etop e hOn q hm hq,fun j hj he=>by
   simp only[J4]at hj;have hj0:j=0:=by omega
   subst hj0
   exact hR.base k hk (by rw[<-hbs0,<-he];exact hq)⟩⟩
  have hE:σ.bxE k=e:=by unfold St.bxE;rw[hbx]
  have hst:σ.upEB (zn5 σ k rows') (znq σ k)=⟨σ.sl,upd σ.bx k (some [.ow e (z.gen+1)]),upd σ.ev e (some ⟨true,z.sz,rows',z.gen+1,true⟩)⟩:=by
   unfold St.upEB zn5 znq;rw[hE,hz];rfl
  refine⟨zs1 g e (z.gen+1) v' g1,?_,hBk,rfl,rfl⟩;have hp:=hT.put (some d) (x:=zlk (flV res)) (v:=zck us') (zd7 hf1 (zsc res)) (fun i hi=>by cases hi;exact hdN d hd);unfold St.callT;rw[hst,hd];exact hp
section
variable {ks:List Fr}{Q:Exit->St->Prop}{σ:St}{ops:Array Oper}{os:List Oper}{L:List (List Ky×List Ky)}{gR:List Ky}{ty:TypeId}{ps:String}{af:Array Edge}{d k sz:Nat}{x:Operand}{asx:Array Operand}{ts:Array TypeId}{f:FuncId}{rows rows':List (List T)}{l:List AF}{res:List (Bool×D)}
theorem callT (k:Nat)(h:PC P f [[(true,.sl sz rows)]] l [[(true,.sl sz rows')]] res)(hr:flD res=true)
  (hp:zav (za1 (σ.get P 0 x)) fun p=>p.1=f/\mtK [k] l (σ.gets P asx ts++p.2) fun us=>gvQ us (AF.ds l)) (hb:qga σ k sz rows fun _ _=>True)
  (c:exo P ops os ks Q (σ.callT d k rows' res)):exo P ops (⟨some d,.call ⟨.value x,asx,ts⟩,ty,ps,af,none⟩::os) ks Q σ:=by
 obtain⟨⟨f',cvs⟩,h1,rfl,h2⟩:=zar hp
 exact zda rfl rfl (zqb rfl rfl h h1 hr h2 hb) c
theorem qbe {cvs:List V}(h:PC P f [[(true,.sl sz rows)]] l [[(true,.sl sz rows')]] res)(hr:flD res=true)(hc:za1 (σ.get P 0 x)=some (f,cvs))
  (hv:mtK [k] l (σ.gets P asx ts++cvs) fun us=>gvQ us (AF.ds l)) (hb:qga σ k sz rows fun _ _=>True) :
  zgz P ⟨some d,.call ⟨.value x,asx,ts⟩,ty,ps,af,none⟩ (zaw (x::asx.toList)++[(1,k),(2,σ.bxE k)]) (dK (some d)++(boK (znq σ k)++eK (zn5 σ k rows'))) σ (σ.callT d k rows' res):=by
 unfold St.callT
 refine zgz.ofB rfl (zbp (zbz _) rfl) fun σ1 hs=>?_
 have e1:σ1.get P 0 x=σ.get P 0 x:=zcg (l:=x::asx.toList) (fun k hk=>hs k (by simp only[Qv];exact Or.inl hk)) (by simp) 0
 have e2:σ1.gets P asx ts=σ.gets P asx ts:=zp0 fun k hk=>hs k (by simp only[Qv];exact Or.inl (zf9 hk))
 have e3:σ1.bx k=σ.bx k:=Eq.symm (hs (1,k) (by simp))
 have e4:σ1.bxE k=σ.bxE k:=by unfold St.bxE;rw[e3]
 have e5:σ1.ev (σ.bxE k)=σ.ev (σ.bxE k):=Eq.symm (hs (2,σ.bxE k) (by simp))
 have t1:zn5 σ1 k rows'=zn5 σ k rows':=by unfold zn5;rw[e4,e5]
 have t2:znq σ1 k=znq σ k:=by unfold znq;rw[e4,e5]
 have hb1:qga σ1 k sz rows fun _ _=>True:=by
  obtain⟨e,z,q1,q2,q3,q4,q5,q6,q7,_⟩:=qem hb;have hE:σ.bxE k=e:=by unfold St.bxE;rw[q1]
  unfold qga;rw[e3,q1];rw[hE]at e5;simp only;rw[e5,q2];exact⟨q3,q4,rfl,q5,q6,q7,trivial⟩
 rw[<-t1,<-t2]
 exact zqb rfl rfl h (by rw[e1];exact hc) hr (by rw[e2];exact hv) hb1
theorem qku (k:Nat)(h:PC P f [[(true,.sl sz rows)]] l [[(true,.sl sz rows')]] res)(hr:flD res=true)
  (hp:zav (za1 (σ.get P 0 x)) fun p=>p.1=f/\mtK [k] l (σ.gets P asx ts++p.2) fun us=>gvQ us (AF.ds l)) (hb:qga σ k sz rows fun _ _=>True)
  (c:exd P ops os (L++[(gR++(zaw (x::asx.toList)++[(1,k),(2,σ.bxE k)]),dK (some d)++(boK (znq σ k)++eK (zn5 σ k rows')))]) ks Q (σ.callT d k rows' res)) :
  zlz P ops ⟨some d,.call ⟨.value x,asx,ts⟩,ty,ps,af,none⟩ os L gR ks Q σ:=by
 obtain⟨⟨f',cvs⟩,h1,rfl,h2⟩:=zar hp
 exact qe6 _ _ _ _ _ _ rfl (qbe h hr h1 h2 hb) c
end
section
variable {d:Option Nat}{ty:TypeId}{ps:String}{af:Array Edge}(ops:Array Oper)(os:List Oper)(L:List (List Ky×List Ky))(ks:List Fr)(Q:Exit->St->Prop)(σ:St)
def exdGS (P:Program)(ops:Array Oper)(o:Oper)(os:List Oper)(L:List (List Ky×List Ky))(gR:List Ky)(ks:List Fr)(Q:Exit->St->Prop)(σ:St):Prop:=zlz P ops o os L gR ks Q σ
theorem zwq (gR:List Ky)(t:TypeId)(x:Operand)(l h m:Option Operand):zlz P ops ⟨d,.slice t x l h m,ty,ps,af,none⟩ os L gR ks Q σ=owK (σ.get P t x) (exdGS P ops ⟨d,.slice t x l h m,ty,ps,af,none⟩ os L gR ks Q σ) (thn (st P ⟨d,.slice t x l h m,ty,ps,af,none⟩ σ) (exd P ops os (L++[(gR++(zaw (x::(l.toList++h.toList++m.toList))++[]),dK d++[])]) ks Q)):=by
 unfold owK
 split
 ·rfl
 ·rename_i h;exact ze9 _ _ _ _ _ _ (by unfold zn3 zyn;simpa[zxw]using h)
end
attribute [go_sem ↓] zwq
theorem bxE_at (σ:St)(k:Nat):σ.bxE k=match σ.bx k with
 | some [.ow e _]=>e
 | _=>0:=rfl
attribute [go_sem] qga bxE_at zn5 znq flV St.upEB St.callT
end
section
open Go.RowKit
variable {P:Program}
section
variable {σ σ':St}{g g':Gh}{w:World}
theorem qn0 (hβ:g'.β=g.β)(hb:σ'.bx=σ.bx)(hh:∀e n,σ.has e n->σ'.has e n/\g'.ψ e n=g.ψ e n)(hrn:∀b,zb6 σ g w b->zb6 σ' g' w b){c:C}{v:Value}(hc:c.mOk=true)(h:CR σ g w c v):CR σ' g' w c v:=by
 cases c with
 | t x=>exact zdy hc h
 | nl s=>exact h
 | ow e n=>exact⟨by rw[(hh e n h.2).2];exact h.1,(hh e n h.2).1⟩
 | bx b o=>exact⟨by rw[hβ];exact h.1,by rw[hb];exact h.2⟩
 | el cs o=>cases hc
 | eo e s sz i o=>obtain⟨b,n,c,k1,k2,k3,k4⟩:=h;exact⟨b,n,c,by rw[(hh e s k4).2];exact k1,k2,k3,(hh e s k4).1⟩
 | vw e s sz i=>obtain⟨b,n,c,k1,k2,k3,k4⟩:=h;exact⟨b,n,c,by rw[(hh e s k4).2];exact k1,k2,k3,(hh e s k4).1⟩
 | fn f caps=>exact⟨by rw[hβ];exact h.1,by rw[hb];exact h.2⟩
 | cv u=>exact h
 | any=>trivial
 | rn x=>exact zas.keep (fun _ _=>rfl) hrn x v h
 | er cs o=>obtain⟨b,q,h1,h2,h3⟩:=h;exact⟨b,q,h1,hrn b h2,zbj.keep (fun _ _=>rfl) hrn b rfl q cs h3⟩
theorem zq9 (hβ:g'.β=g.β)(hb:σ'.bx=σ.bx)(hh:∀e n,σ.has e n->σ'.has e n/\g'.ψ e n=g.ψ e n)(hrn:∀b,zb6 σ g w b->zb6 σ' g' w b):∀{cs:List C}{vs:List Value},cs.all C.mOk=true->CRs σ g w cs vs->CRs σ' g' w cs vs
 | [],_,_,h=>h
 | c::cs,vs,hc,h=>by
  rw[Kt,Qc]at hc;obtain⟨v,vs',rfl,h1,h2⟩:=h;exact⟨v,vs',rfl,qn0 hβ hb hh hrn hc.1 h1,zq9 hβ hb hh hrn hc.2 h2⟩
theorem qli (hβ:g'.β=g.β)(hb:σ'.bx=σ.bx)(hh:∀e n,σ.has e n->σ'.has e n/\g'.ψ e n=g.ψ e n)(hrn:∀b,zb6 σ g w b->zb6 σ' g' w b):∀{xs:List (Bool×List C)}{vs:List Value},(xs.all fun x=>x.2.all C.mOk)=true->CRt σ g w xs vs->CRt σ' g' w xs vs
 | [],_,_,h=>h
 | x::xs,vs,hc,h=>by
  rw[Kt,Qc]at hc;obtain⟨v,vs',rfl,h1,h2⟩:=h;refine⟨v,vs',rfl,?_,qli hβ hb hh hrn hc.2 h2⟩;unfold CRx at h1⊢;split at h1
  ·rw[if_pos ‹_›];obtain⟨a,k1,k2⟩:=h1;exact⟨a,k1,zq9 hβ hb hh hrn hc.1 k2⟩
  ·rw[if_neg ‹_›];obtain⟨c,k1,k2⟩:=h1;refine⟨c,k1,qn0 hβ hb hh hrn ?_ k2⟩;have:=hc.1;rw[k1]at this;simpa using this
theorem mv_vr (hβ:g'.β=g.β)(hb:σ'.bx=σ.bx)(hh:∀e n,σ.has e n->σ'.has e n/\g'.ψ e n=g.ψ e n)(hrn:∀b,zb6 σ g w b->zb6 σ' g' w b){x:V}{v:Value}(hc:x.mOk=true)(h:VR σ g w x v):VR σ' g' w x v:=by
 cases x with
 | one c=>exact qn0 hβ hb hh hrn hc h
 | agg cs=>obtain⟨a,k1,k2⟩:=h;exact⟨a,k1,zq9 hβ hb hh hrn hc k2⟩
 | tup xs=>obtain⟨a,k1,k2⟩:=h;exact⟨a,k1,qli hβ hb hh hrn hc k2⟩
end
def WkX (σ:St)(K:St->Prop):Prop:=∀n0 N g a w,Rel n0 N σ g a w->LtK n0 w->∃σ' g',K σ'/\Rel n0 N σ' g' a w/\g'.A0=g.A0/\g'.R0=g.R0
theorem zb2.preX {o:Oper}{σ:St}{K:St->Prop}(h:WkX σ fun σ'=>zb2 P o σ' K):zb2 P o σ K:=fun n0 N g a w hR hn hd=>by
 obtain⟨σ1,g1,k,h1,h2,h3⟩:=h n0 N g a w hR hn
 have:=k n0 N g1 a w h1 hn hd
 unfold Oper.wp at this⊢
 revert this
 cases (execOp a.eval o).run P w<;>intro this<;>try exact this
 all_goals (revert this;rw[h2,h3];exact id)
end
section
open Go.RowKit
variable {P:Program}
attribute [go_sem] zjf
end
section
open Go.RowKit
variable {P:Program}{N:Nat}
attribute [go_sem] Option.bind_some Option.map_some
end
section
open Go.RowKit
theorem qoa {m:Str}(h:za9 m=true)(xs:List Tm):(Tm.mk m xs).names=decide (xs.length=0):=by rw[Tm.names_eq];exact if_pos h
theorem qmr {m:Str}(h:¬za9 m=true)(xs:List Tm):(Tm.mk m xs).names=(zce m&&decide (xs.length<=4)&&xs.all Tm.names):=by rw[Tm.names_eq];exact if_neg h
def nmA (a:Tm):Bool:=if(a.name==[61])=true then decide (a.args.length=2)&&a.args.all Tm.names else zce a.name&&a.names
theorem qcy (a:Tm):a.atomOk=(nmA a&&zdh a):=by
 unfold Tm.atomOk nmA Tm.good
 split
 ·rw[Bool.and_assoc,Bool.and_comm (zdh a),Bool.and_assoc]
 ·rw[Bool.and_comm (zdh a),Bool.and_assoc]
theorem nmA_eq {a:Tm}(h:nmA a=true):za9 a.name=false/\a.args.all Tm.names=true:=by
 unfold nmA at h
 split at h
 ·rename_i he;have he:a.name=[61]:=by simpa using he
  rw[Qc]at h;rw[he];exact⟨by decide,h.2⟩
 ·rw[Qc]at h;have hv:=zxy h.1;have h2:=h.2;rw[Tm.names_eq,hv,if_neg (by simp)]at h2;simp only[Qc]at h2;exact⟨hv,h2.2⟩
theorem qaf {α:Type}(f g:α->Nat):∀(xs:List α),(∀x∈xs,f x<=g x)->(xs.map f).sum<=(xs.map g).sum
 | [],_=>Qw _
 | x::xs,H=>by
  have:=H x (by simp);have:=qaf f g xs fun y hy=>H y (by simp[hy]);rw[Qi,Qi,Qz,Qz];omega
theorem zvr {α:Type}(f:α->Nat):∀xs:List α,(xs.map fun x=>8*f x).sum=8*(xs.map f).sum
 | []=>rfl
 | x::xs=>by rw[Qi,Qz,zvr f xs,Qi,Qz];omega
theorem qdz {α:Type}(w:α->Nat):∀xs:List α,(xs.map fun x=>1+w x).sum=xs.length+(xs.map w).sum
 | []=>rfl
 | a::l=>by rw[Qi,Qz,qdz w l,Qb,Qi,Qz];omega
theorem zp1 {xs:List Tm}(H:∀x∈xs,1+x.wt<=8*x.nodes):xs.length+(xs.map Tm.wt).sum<=8*(xs.map Tm.nodes).sum:=by
 rw[<-qdz,<-zvr]
 exact qaf _ _ xs H
theorem qii:∀a:Tm,a.names=true->1+a.wt<=8*a.nodes:=zb0 fun m xs ih h=>by
 have hw:(Tm.mk m xs).wt=m.length+xs.length+(xs.map Tm.wt).sum:=Tm.wt_eq _
 have hn:(Tm.mk m xs).nodes=1+(xs.map Tm.nodes).sum:=Tm.nodes_eq _
 rw[hw,hn]
 by_cases hm:za9 m=true
 ·rw[qoa hm]at h;have hx:xs=[]:=Q8.1 (Jm h);subst hx;unfold za9 inB at hm;simp only[Qc,Qr]at hm;simp only[Qk,Ks,Qe];omega
 ·rw[qmr hm]at h;simp only[Qc]at h;have h1:zce m=true:=h.1.1;unfold zce inB at h1;simp only[Qc,Qr]at h1;have h2:=zp1 fun x hx=>ih x hx (Qs.1 h.2 x hx);omega
end
section
open Go.RowKit
inductive Ex where
 | mk (form:Fm) (terms:List Tm) (parts:List Ex)
def Ex.form:Ex->Fm|.mk f _ _=>f
def Ex.terms:Ex->List Tm|.mk _ t _=>t
def Ex.parts:Ex->List Ex|.mk _ _ ps=>ps
theorem Ex.eta:∀a:Ex,Ex.mk a.form a.terms a.parts=a|.mk _ _ _=>rfl
mutual
theorem zcp {P:Ex->Prop}(h:∀f t ps,(∀x∈ps,P x)->P (.mk f t ps)):∀e,P e
 | .mk f t ps=>h f t ps (qam h ps)
theorem qam {P:Ex->Prop}(h:∀f t ps,(∀x∈ps,P x)->P (.mk f t ps)):∀xs:List Ex,∀x∈xs,P x
 | [],x,hx=>absurd hx (by simp)
 | a::xs,x,hx=>(Qu.1 hx).elim (fun e=>e▸zcp h a) (qam h xs x)
end
mutual
def Ex.fold {α:Type}(g:Fm->List Tm->List Ex->List α->α):Ex->α
 | .mk f t ps=>g f t ps (Ex.folds g ps)
def Ex.folds {α:Type}(g:Fm->List Tm->List Ex->List α->α):List Ex->List α
 | []=>[]
 | a::xs=>Ex.fold g a::Ex.folds g xs
end
theorem Ex.folds_map {α:Type}(g:Fm->List Tm->List Ex->List α->α)(xs:List Ex):Ex.folds g xs=xs.map (Ex.fold g):=by
 induction xs with
 | nil=>rfl
 | cons a xs ih=>rw[Ex.folds,ih];rfl
theorem Ex.fold_eq {α:Type}(g:Fm->List Tm->List Ex->List α->α)(a:Ex):Ex.fold g a=g a.form a.terms a.parts (a.parts.map (Ex.fold g)):=by
 cases a;rw[Ex.fold,Ex.folds_map];rfl
def exC:Ex->List T:=Ex.fold fun f t _ rs=>[.int .i64 f.op,.str f.atom.name,.sl 2 (f.atom.args.map tmC),.str f.var,.sl 5 (f.parts.map fmC),.sl 2 (t.map tmC),.sl 7 rs]
theorem zae (a:Ex):exC a=[.int .i64 a.form.op,.str a.form.atom.name,.sl 2 (a.form.atom.args.map tmC),.str a.form.var,.sl 5 (a.form.parts.map fmC),.sl 2 (a.terms.map tmC),.sl 7 (a.parts.map exC)]:=Ex.fold_eq _ a
theorem zi5 (f:Fm)(t:List Tm)(ps:List Ex):exC (.mk f t ps)=[.int .i64 f.op,.str f.atom.name,.sl 2 (f.atom.args.map tmC),.str f.var,.sl 5 (f.parts.map fmC),.sl 2 (t.map tmC),.sl 7 (ps.map exC)]:=zae _
abbrev exD (a:Ex):D:=.agg (exC a)
abbrev exS (xs:List Ex):T:=.sl 7 (xs.map exC)
def Ex.wt:Ex->Nat:=Ex.fold fun f t ps rs=>f.wt+zie t+(ps.length+rs.sum)
theorem Ex.wt_eq (a:Ex):a.wt=a.form.wt+zie a.terms+(a.parts.length+(a.parts.map Ex.wt).sum):=Ex.fold_eq _ a
end
section
open Go.RowKit
theorem zci {a x:Ex}(h:x∈a.parts):x.wt<=a.wt:=by
 have:=a.wt_eq
 have:=zay Ex.wt a.parts x h
 omega
theorem zte (a:Ex):a.form.wt<=a.wt:=by have:=a.wt_eq;omega
def Ex.nodes:Ex->Nat:=Ex.fold fun _ _ _ rs=>1+rs.sum
theorem Ex.nodes_eq (a:Ex):a.nodes=1+(a.parts.map Ex.nodes).sum:=Ex.fold_eq _ a
theorem zdp:∀a:Ex,a.nodes<=1+a.wt:=by
 refine zcp fun f t xs ih=>?_
 rw[Ex.nodes_eq,Ex.wt_eq]
 show 1+(xs.map Ex.nodes).sum<=1+(f.wt+zie t+(xs.length+(xs.map Ex.wt).sum))
 have:(xs.map Ex.nodes).sum<=xs.length+(xs.map Ex.wt).sum:=by
  induction xs with
  | nil=>simp
  | cons x xs ih2 =>
   have h1:=ih x (by simp);have h2:=ih2 fun y hy=>ih y (by simp[hy]);simp only[Qi,Qz,Qb];omega
 omega
def ze7:Ex->Int:=Ex.fold fun _ _ _ rs=>szL 60 1 rs
theorem zvd (a:Ex):ze7 a=szL 60 1 (a.parts.map ze7):=Ex.fold_eq _ a
theorem zmm:∀a:Ex,1<=ze7 a/\ze7 a<=a.nodes/\(ze7 a<=60->ze7 a=a.nodes):=by
 refine zcp fun f t xs ih=>?_
 rw[zvd,Ex.nodes_eq]
 show 1<=szL 60 1 (xs.map ze7)/\szL 60 1 (xs.map ze7)<=((1+(xs.map Ex.nodes).sum:Nat):Int)/\_
 obtain⟨k1,k2,k3⟩:=zjy ze7 Ex.nodes 60 xs 1 Yt ih
 refine⟨k2,Yt,fun h=>?_⟩
 have:=k3 h
 show szL 60 1 (xs.map ze7)=_
 rw[this];show _=((1+(xs.map Ex.nodes).sum:Nat):Int);omega
theorem qgi (a:Ex):decide (ze7 a<=60)=decide (a.nodes<=60):=by
 obtain⟨h1,h2,h3⟩:=zmm a
 rw[Ju]
 exact⟨fun h=>by have:=h3 h;omega,fun h=>by omega⟩
theorem zxf (a:Ex)(hs:a.wt<=1099511627776)(H:∀x∈a.parts,FC Tryz.prog 78 [exD x] [iD (ze7 x)]):FC Tryz.prog 78 [exD a] [iD (ze7 a)]:=by
 have hl:a.parts.length<=9223372036854775807:=by rw[Ex.wt_eq]at hs;omega
 have hn:=zdp a
 have hN:=a.nodes_eq
 simp only[exD,zae]
 refine zak Tryz.call78 Tryz.func78 rfl Ys (zaz Ys) ?_
 simp -implicitDefEqProofs only[go_sem,Tryz.results78]
 refine zaf (fun p:Nat×Int=>hd [(3,vI p.2),(7,vT (exS a.parts)),(8,vI a.parts.length),(9,vI p.1)] [] []) (fun p=>p.1<=a.parts.length/\ze7 a=szL 60 p.2 ((a.parts.drop p.1).map ze7)/\1<=p.2/\p.2+zx7 Ex.nodes a.parts p.1<=a.nodes) (fun p=>a.parts.length-p.1) (0,1) (zad ?_) ?_ ?_
 ·simp -implicitDefEqProofs only[go_sem]
 ·exact⟨by simp,by rw[zvd];rfl,Yt,by rw[zdo];omega⟩
 ·intro ⟨k,n⟩ ⟨hk,hr,h1,h2⟩;simp only at hk hr h1 h2;by_cases hlt:k<a.parts.length
  ·have hd:=zfs Ex.nodes a.parts k hlt;obtain⟨s1,s2,s3⟩:=zmm a.parts[k];rw[Qx hlt,Qi,szL]at hr;simp -implicitDefEqProofs only[go_sem,zac,hlt,zae];refine⟨fun h=>?_,fun h=>?_⟩
   ·rw[hr,if_pos (by simpa using h)]
   ·refine callF (H a.parts[k] (Qd hlt)) (by simp -implicitDefEqProofs only[go_sem,zae]) ?_;simp -implicitDefEqProofs only[go_sem,zae];rw[if_neg (by simpa using h)]at hr;exact⟨(k+1,n+ze7 a.parts[k]),⟨hlt,hr,by simp only;omega,by simp only;omega⟩,by simp only;omega,zad (by simp -implicitDefEqProofs only[go_sem];rw[zam Yt,zbn Yt Yt];exact⟨rfl,rfl⟩)⟩
  ·simp -implicitDefEqProofs only[go_sem,hlt];rw[hr,Q0 Yt];rfl
theorem zyu:∀a:Ex,a.wt<=1099511627776->FC Tryz.prog 78 [exD a] [iD (ze7 a)] :=
 zcp fun f t xs ih hs=>zxf (.mk f t xs) hs fun x hx=>ih x hx (Q9 (zci (a:=.mk f t xs) hx) hs)
def zen:Ex->Int->Int:=Ex.fold fun _ _ _ rs m=>mnL m 1 rs
theorem zvb (a:Ex)(m:Int):zen a m=mnL m 1 (a.parts.map zen):=congrFun (Ex.fold_eq _ a) m
theorem zmn:∀(a:Ex)(m:Int),0<=m->1<=zen a m/\zen a m<=a.nodes/\(zen a m<=m->zen a m=a.nodes):=by
 refine zcp fun b0 b1 xs ih m hm=>?_
 rw[zvb,Ex.nodes_eq]
 show 1<=mnL m 1 (xs.map zen)/\mnL m 1 (xs.map zen)<=((1+(xs.map Ex.nodes).sum:Nat):Int)/\(mnL m 1 (xs.map zen)<=m->mnL m 1 (xs.map zen)=((1+(xs.map Ex.nodes).sum:Nat):Int))
 obtain⟨k1,k2,k3⟩:=zj0 zen Ex.nodes m xs 1 Yt ih
 refine⟨k2,Yt,fun h=>?_⟩
 have:=k3 h
 omega
theorem qjs (a:Ex)(m:Nat):decide (zen a m<=m)=decide (a.nodes<=m):=by
 obtain⟨h1,h2,h3⟩:=zmn a m Yt
 rw[Ju]
 exact⟨fun h=>by have:=h3 h;omega,fun h=>by omega⟩
theorem zxc (a:Ex)(hs:a.wt<=1099511627776)(H:∀x∈a.parts,∀m:Int,0<=m->m<=1099511627776->FC Tryz.prog 103 [exD x,iD m] [iD (zen x m)])(m:Int)(h0:0<=m)(h1:m<=1099511627776):FC Tryz.prog 103 [exD a,iD m] [iD (zen a m)]:=by
 have hl:a.parts.length<=9223372036854775807:=by rw[Ex.wt_eq]at hs;omega
 have hn:=zdp a
 have hN:=a.nodes_eq
 simp only[exD,zae]
 refine zak Tryz.call103 Tryz.func103 rfl Ys (zaz Ys) ?_
 simp -implicitDefEqProofs only[go_sem,Tryz.results103]
 refine zaf (fun p:Nat×Int=>hd [(1,vI m),(2,.one (.bx 2 0)),(5,vI p.2),(6,vI p.1)] [(2,[.t (.int .i64 a.form.op),.t (.str a.form.atom.name),.t (tmS a.form.atom.args),.t (.str a.form.var),.t (fmS a.form.parts),.t (tmS a.terms),.t (exS a.parts)])] []) (fun p=>p.1<=a.parts.length/\zen a m=mnL m p.2 ((a.parts.drop p.1).map zen)/\1<=p.2/\p.2+zx7 Ex.nodes a.parts p.1<=a.nodes) (fun p=>a.parts.length-p.1) (0,1) (zad ?_) ?_ ?_
 ·simp -implicitDefEqProofs only[go_sem]
 ·exact⟨by simp,by rw[zvb];rfl,Yt,by rw[zdo];omega⟩
 ·intro ⟨k,n⟩ ⟨hk,hr,h2,h3⟩;simp only at hk hr h2 h3;by_cases hlt:k<a.parts.length
  ·have hd:=zfs Ex.nodes a.parts k hlt;rw[Qx hlt,Qi,mnL]at hr;simp -implicitDefEqProofs only[go_sem,zac,hlt,zae];refine⟨fun h=>?_,fun h=>?_⟩
   ·have hle:n<=m:=by simpa using h
    obtain⟨s1,s2,s3⟩:=zmn a.parts[k] (m-n) Yt;rw[zbn (n:=m-n) Yt Yt];refine callF (H a.parts[k] (Qd hlt) (m-n) Yt Yt) (by simp -implicitDefEqProofs only[go_sem,zae]) ?_;simp -implicitDefEqProofs only[go_sem,zae];rw[if_pos hle]at hr;exact⟨(k+1,n+zen a.parts[k] (m-n)),⟨hlt,hr,by simp only;omega,by simp only;omega⟩,by simp only;omega,zad (by simp -implicitDefEqProofs only[go_sem];rw[zam Yt,zbn Yt Yt];exact⟨rfl,rfl⟩)⟩
   ·rw[hr,if_neg (by simpa using h)]
  ·simp -implicitDefEqProofs only[go_sem,hlt];rw[hr,Q0 Yt];rfl
theorem qeo:∀a:Ex,a.wt<=1099511627776->∀m:Int,0<=m->m<=1099511627776->FC Tryz.prog 103 [exD a,iD m] [iD (zen a m)] :=
 zcp fun b0 b1 xs ih hs=>zxc (.mk b0 b1 xs) hs fun x hx=>ih x hx (Q9 (zci (a:=.mk b0 b1 xs) hx) hs)
theorem zgi (f:Fm)(i:Int)(b:Bool):FC Tryz.prog 133 [fmD f,iD i,bD b] [bD (b != (f.op==4||(f.op==7&&i==0)))]:=by
 simp only[fmD,zab]
 refine zak Tryz.call133 Tryz.func133 rfl Ys (zaz Ys) ?_
 simp -implicitDefEqProofs only[go_sem,Tryz.results133]
 generalize (f.op==4)=x
 generalize (f.op==7)=y
 generalize (i==0)=z
 cases x<;>cases y<;>cases z<;>cases b<;>simp
theorem zil (f:Fm)(b:Bool):FC Tryz.prog 131 [fmD f,bD b] [bD ((f.op==8)==b)]:=by
 simp only[fmD,zab]
 refine zak Tryz.call131 Tryz.func131 rfl Ys (zaz Ys) ?_
 simp -implicitDefEqProofs only[go_sem,Tryz.results131]
theorem zdr (f:Fm)(i:Int)(b:Bool):FC Tryz.prog 128 [fmD f,iD i,bD b] [bD (b != (f.op==4||(f.op==7&&i==0)))]:=by
 simp only[fmD,zab]
 refine zak Tryz.call128 Tryz.func128 rfl Ys (zaz Ys) ?_
 simp -implicitDefEqProofs only[go_sem,Tryz.results128]
 generalize (f.op==4)=x
 generalize (f.op==7)=y
 generalize (i==0)=z
 cases x<;>cases y<;>cases z<;>cases b<;>simp
theorem zcr (f:Fm):FC Tryz.prog 124 [fmD f] [bD (isQ f.op)]:=by
 simp only[fmD,zab]
 refine zak Tryz.call124 Tryz.func124 rfl Ys (zaz Ys) ?_
 simp -implicitDefEqProofs only[go_sem,Tryz.results124]
 unfold isQ
 generalize (f.op==8)=x
 generalize (f.op==9)=y
 cases x<;>cases y<;>simp
theorem zd3 (f:Fm)(b:Bool):FC Tryz.prog 125 [fmD f,bD b] [bD (isQ f.op&&((f.op==8)==b))]:=by
 simp only[fmD,zab]
 have h89:(f.op==8)=true->(f.op==9)=false:=fun h=>by
  rw[Ko]at h;rw[h];decide
 refine zak Tryz.call125 Tryz.func125 rfl Ys (zaz Ys) ?_
 simp -implicitDefEqProofs only[go_sem,Tryz.results125]
 unfold isQ
 revert h89
 generalize (f.op==8)=x
 generalize (f.op==9)=y
 cases x<;>cases y<;>cases b<;>simp
theorem zo7 (a t:Tm):FC Tryz.prog 185 [tmD a,.one (.ptr (tmC t))] [bD (same a t)]:=by
 have H:=zf3 a t
 simp only[tmD,zaa]at H⊢
 refine zak Tryz.call185 Tryz.func185 rfl Ys (zaz Ys) ?_
 simp -implicitDefEqProofs only[go_sem,Tryz.results185]
 refine callF (H) Yr ?_
 simp -implicitDefEqProofs only[go_sem]
theorem zhi (xs:List Tm)(t:Tm):FC Tryz.prog 114 [.one (tmS xs),tmD t] [iD (zc9 xs fun a=>same a t)]:=by
 have H:=zf4 xs (fun a=>same a t) 185 [.ptr (tmC t)] fun x _=>zo7 x t
 simp only[tmD,zaa t]at H⊢
 refine zak Tryz.call114 Tryz.func114 rfl Ys (zaz Ys) ?_
 simp -implicitDefEqProofs only[go_sem,Tryz.results114]
 refine callF (H) Yr ?_
 simp -implicitDefEqProofs only[go_sem]
theorem zc7 (xs:List Tm)(t:Tm):FC Tryz.prog 100 [.one (tmS xs),tmD t] [iD (zc9 xs fun a=>same a t)]:=by
 refine zfp (fun hw=>?_) Tryz.call100
 have hl:xs.length<=9223372036854775807:=by simpa[zlj,wfT]using hw.1.1
 simp only[tmD,zaa t]
 refine zak Tryz.call100 Tryz.func100 rfl Ys (zaz Ys) ?_
 simp -implicitDefEqProofs only[go_sem,Tryz.results100]
 refine zaf (fun k:Nat=>hd [(0,vT (tmS xs)),(3,.one (.bx 3 0)),(5,vI k)] [(3,[.t (.str t.name),.t (tmS t.args)])] []) (fun k=>k<=xs.length/\∀x∈xs.take k,same x t=false) (fun k=>xs.length-k) 0 (zad ?_) ⟨Q1 _,by simp⟩ ?_
 ·simp -implicitDefEqProofs only[go_sem]
 ·rintro k ⟨hk,hT⟩;by_cases hlt:k<xs.length
  ·have HC:=zoh xs[k] t;simp only[tmD,zaa xs[k],zaa t]at HC;simp -implicitDefEqProofs only[go_sem,hlt];refine drawn Ys ?_;simp -implicitDefEqProofs only[go_sem,zac,hlt,zaa xs[k]];refine zaj (HC) Yr ?_;simp -implicitDefEqProofs only[go_sem];refine⟨Ys,fun h=>?_,fun h=>?_⟩
   ·rw[zcy hlt hT h]
   ·refine⟨k+1,⟨hlt,zcd hlt hT h⟩,Yt,zad ?_⟩;simp -implicitDefEqProofs only[go_sem];rw[zam Yt]
  ·simp -implicitDefEqProofs only[go_sem,hlt];rw[Qm Yt]at hT;rw[zd9 hT]
end
section
open Go.RowKit
noncomputable def dec (p:Prop):Bool:=@decide p (Classical.propDecidable _)
theorem zg1 {p:Prop}:dec p=true↔p:=by simp[dec]
theorem zu5 {p:Prop}:dec p=false↔¬p:=by simp[dec]
def TOk (xs:List Tm):Prop:=∀k (h:k<xs.length),xs[k].good=true/\((xs.take k).any fun a=>same a xs[k])=false
noncomputable def zcb (e:Ex)(pos:Bool)(E:List Str):Bool×List Str :=
 if dec (TOk e.terms)=true then
  (if((e.form.op==8)==pos)=true then
   (match e.terms with
   | [t]=>if(za9 t.name&&!E.contains t.name)=true then (decide (e.parts.length=1),E++[t.name])else (false,E)
   | _=>(false,E))
  else (decide (e.parts.length=e.terms.length),E))
 else (false,E)
theorem up_var {t:Tm}(h:t.good=true):zjl (t.name.getD 0 0)=za9 t.name/\0<t.name.length:=by
 unfold Tm.good at h
 rw[Qc]at h
 have h:=h.2
 rw[Tm.names_eq]at h
 by_cases hv:za9 t.name=true
 ·obtain⟨h1,h2⟩:=zm9 hv;exact⟨h1.trans hv.symm,h2⟩
 ·rw[if_neg hv]at h;simp only[Qc]at h;obtain⟨h1,h2⟩:=zky h.1.1;exact⟨h1.trans (by simpa using hv),h2⟩
theorem TOk.snoc {xs:List Tm}{k:Nat}(h:k<xs.length)(hT:∀j,j<k->∀hj:j<xs.length,xs[j].good=true/\((xs.take j).any fun a=>same a xs[j])=false)(h1:xs[k].good=true)(h2:((xs.take k).any fun a=>same a xs[k])=false):∀j,j<k+1->∀hj:j<xs.length,xs[j].good=true/\((xs.take j).any fun a=>same a xs[j])=false:=fun j hj hl=>by
 by_cases e:j=k
 ·subst e;exact⟨h1,h2⟩
 ·exact hT j Yt hl
theorem qm6 (e:Ex)(he:e.wt<=1048576)(pos:Bool)(E:List Str)(hE:E.length<=4194304):PC Tryz.prog 155 [[(true,.sl 1 (E.map fun s=>[.str s]))]] [.p 0,.d false (exD e),.d false (bD pos)] [[(true,.sl 1 ((zcb e pos E).2.map fun s=>[.str s]))]] [(true,bD (zcb e pos E).1)]:=by
 have hW:=e.wt_eq
 have hTW:zie e.terms=e.terms.length+(e.terms.map Tm.wt).sum:=rfl
 have HS:=zil e.form pos
 simp only[exD,zae,fmD,zab]at HS⊢
 refine zbh Tryz.call155 Tryz.func155 rfl Ys (by simp only[Qb,Qe,Tryz.ntmps155];omega) (by simp only[Tryz.ntmps155];omega) rfl rfl (by simp[zau,T.isPin,AF.ds,bxA]) (by simp[gFS,T.fs,T.flat,AF.ds,bxA]) rfl ?_
 simp -implicitDefEqProofs only[go_sem,Tryz.results155]
 refine zaf (fun k:Nat=>hd [(0,.one (.bx 1000000 0)),(1000000,.one (.bx 1000000 0)),(2,.one (.t (.bool pos))),(4,.one (.bx 4 0)),(10,.one (.rn (tmS e.terms))),(11,vI e.terms.length),(12,vI k)] [(1000000,[.ow 64 0]),(4,[.t (.int .i64 e.form.op),.t (.str e.form.atom.name),.rn (tmS e.form.atom.args),.t (.str e.form.var),.rn (fmS e.form.parts),.rn (tmS e.terms),.rn (exS e.parts)])] [(64,⟨true,1,E.map fun s=>[.str s],0,true⟩)]) (fun k=>k<=e.terms.length/\∀j,j<k->∀hj:j<e.terms.length,e.terms[j].good=true/\((e.terms.take j).any fun a=>same a e.terms[j])=false) (fun k=>e.terms.length-k) 0 (zad ?_) ⟨Q1 _,fun j hj=>by omega⟩ ?_
 ·simp -implicitDefEqProofs only[go_sem]
 ·rintro k ⟨hk,hT⟩;by_cases hlt:k<e.terms.length
  ·have hwt:e.terms[k].wt<=1099511627776:=by have:=zay Tm.wt e.terms _ (Qd hlt);omega
   have HV:=zfa e.terms[k] hwt;have HI:=zhi (e.terms.take k) e.terms[k];have hi2:=zr4 (e.terms.take k) fun a=>same a e.terms[k];have hbad:(e.terms[k].good=false\/((e.terms.take k).any fun a=>same a e.terms[k])=true)->zcb e pos E=(false,E):=fun h=>by
    unfold zcb;have:dec (TOk e.terms)=false:=zu5.2 fun hh=>by
     obtain⟨q1,q2⟩:=hh k hlt;rcases h with h|h
     ·rw[q1]at h;cases h
     ·rw[q2]at h;cases h
    rw[this,if_neg (by simp)]
   simp only[tmD,zaa e.terms[k]]at HV HI;simp -implicitDefEqProofs only[go_sem,hlt];cases hg:e.terms[k].good
   ·rw[hbad (Or.inl hg)];rw[hg]at HV;simp -implicitDefEqProofs only[go_sem,zac,hlt,zaa e.terms[k]];refine drawn Ys ?_;simp -implicitDefEqProofs only[go_sem];refine zaj (HV) Yr ?_;simp -implicitDefEqProofs only[go_sem];kernel_rfl
   ·rw[hg]at HV;simp -implicitDefEqProofs only[go_sem,zac,hlt,zaa e.terms[k]];refine drawn Ys ?_;simp -implicitDefEqProofs only[go_sem];refine zaj (HV) Yr ?_;simp -implicitDefEqProofs only[go_sem];refine⟨hk,?_⟩;have eT:tmS (e.terms.take k)=.sl 2 ((e.terms.map tmC).take k):=by unfold tmS;rw[List.map_take]
    rw[eT]at HI;cases hi:(e.terms.take k).any fun a=>same a e.terms[k]
    ·rw[hi]at hi2;refine zbk (HI) (by simp -implicitDefEqProofs only[go_sem,hi2]) ?_;simp -implicitDefEqProofs only[go_sem,hi2];refine⟨Ys,k+1,⟨hlt,TOk.snoc hlt hT hg hi⟩,Yt,zad ?_⟩;simp -implicitDefEqProofs only[go_sem];rw[zam Yt]
    ·rw[hi]at hi2;rw[hbad (Or.inr hi)];refine zbk (HI) (by simp -implicitDefEqProofs only[go_sem,hi2]) ?_;simp -implicitDefEqProofs only[go_sem,hi2];kernel_rfl
  ·have hTok:dec (TOk e.terms)=true:=zg1.2 fun j hj=>hT j Yt hj;have hval:zcb e pos E=if((e.form.op==8)==pos)=true then (match e.terms with|[t]=>if(za9 t.name&&!E.contains t.name)=true then (decide (e.parts.length=1),E++[t.name])else (false,E)|_=>(false,E))else (decide (e.parts.length=e.terms.length),E):=by
    unfold zcb;rw[hTok,if_pos rfl]
   cases hst:(e.form.op==8)==pos
   ·rw[hst,if_neg (by simp)]at hval;rw[hst]at HS;rw[hval];have hle:((e.parts.length:Int)==(e.terms.length:Int))=decide (e.parts.length=e.terms.length):=by rw[Kq];simp only[Ko,Qr];omega
    simp -implicitDefEqProofs only[go_sem,hlt];refine callF (HS) Yr ?_;simp -implicitDefEqProofs only[go_sem];exact Or.inl (by rw[hle])
   ·rw[hst,if_pos rfl]at hval;rw[hst]at HS;by_cases h1:e.terms.length=1
    ·obtain⟨t,ht⟩:=Jb.1 h1;have htg:t.good=true:=by have:=(zg1.1 hTok) 0 Yt;simpa[ht]using this.1
     obtain⟨hu,hn0⟩:=up_var htg;have HV:=qa0 t hn0;rw[hu]at HV;have hval2:zcb e pos E=if(za9 t.name&&!E.contains t.name)=true then (decide (e.parts.length=1),E++[t.name])else (false,E):=by rw[hval,ht]
     have HCt:=zbu E t.name;have e0:(List.map tmC e.terms).getD 0 []=tmC t:=by rw[ht];rfl
     have hle:((e.parts.length:Int)==1)=decide (e.parts.length=1):=by rw[Kq];simp only[Ko,Qr];omega
     simp only[tmD,zaa t]at HV;simp -implicitDefEqProofs only[go_sem,hlt];refine callF (HS) Yr ?_;simp -implicitDefEqProofs only[go_sem];cases hv:za9 t.name
     ·rw[hv,Ql,if_neg (by simp)]at hval2;rw[hv]at HV;rw[hval2];refine drawn Ys ?_;simp -implicitDefEqProofs only[go_sem,h1,e0,zaa t];refine zbk (HV) Yr ?_;simp -implicitDefEqProofs only[go_sem];kernel_rfl
     ·rw[hv,Qq]at hval2;rw[hv]at HV;cases hc:E.contains t.name
      ·rw[hc,if_pos (by simp)]at hval2;rw[hc]at HCt;rw[hval2];refine drawn Ys ?_;simp -implicitDefEqProofs only[go_sem,h1,e0,zaa t];refine zbk (HV) (by simp -implicitDefEqProofs only[go_sem,h1,e0,zaa t]) ?_;simp -implicitDefEqProofs only[go_sem,h1,e0,zaa t];refine zbk (HCt) Yr ?_;simp -implicitDefEqProofs only[go_sem];refine⟨Ys,?_⟩;refine drawn Ys ?_;simp -implicitDefEqProofs only[go_sem,h1,e0,zaa t];have hE2:E.length<=4294967295:=by omega
       refine za8 Yr ?_;simp -implicitDefEqProofs only[go_sem];refine zek true (by simp -implicitDefEqProofs only[go_sem,hE2,ne_eq,Qa]) ?_;simp -implicitDefEqProofs only[go_sem,hE2,ne_eq,Qa];refine⟨Ys,?_⟩;simp -implicitDefEqProofs only[go_sem,h1,hle];exact Or.inl (Or.inl (by simp))
      ·rw[hc,if_neg (by simp)]at hval2;rw[hc]at HCt;rw[hval2];refine drawn Ys ?_;simp -implicitDefEqProofs only[go_sem,h1,e0,zaa t];refine zbk (HV) (by simp -implicitDefEqProofs only[go_sem,h1,e0,zaa t]) ?_;simp -implicitDefEqProofs only[go_sem,h1,e0,zaa t];refine zbk (HCt) Yr ?_;simp -implicitDefEqProofs only[go_sem];kernel_rfl
    ·have hval2:zcb e pos E=(false,E):=by
      rw[hval];split
      ·rename_i t ht;rw[ht]at h1;exact absurd rfl h1
      ·rfl
     rw[hval2];have hne:((e.terms.length:Int) != 1)=true:=by rw[bne_iff_ne];omega
     simp -implicitDefEqProofs only[go_sem,hlt];refine callF (HS) Yr ?_;simp -implicitDefEqProofs only[go_sem];refine drawn Ys ?_;simp -implicitDefEqProofs only[go_sem,hne];kernel_rfl
end
section
open Go.RowKit
def zg3:List (Bool×(List Str->Bool×List Str))->List Str->Bool×List Str
 | [],E=>(true,E)
 | (c,g)::l,E=>if c=true then (if(g E).1=true then zg3 l (g E).2 else (false,(g E).2))else (false,E)
def Tm.zero:Tm:=.mk [] []
noncomputable def zwp (f:Fm)(ts:List Tm)(i:Nat)(p:Ex):Bool:=(sbF f.var (ts.getD i Tm.zero) (f.parts.getD 0 (mkF 0 []))).2&&same (sbF f.var (ts.getD i Tm.zero) (f.parts.getD 0 (mkF 0 []))).1 p.form
noncomputable def zyj (f:Fm)(i:Nat)(p:Ex):Bool:=same (f.parts.getD i (mkF 0 [])) p.form
def sgn (f:Fm)(i:Nat)(pos:Bool):Bool:=pos != (f.op==4||(f.op==7&&((i:Int)==0)))
noncomputable def zb5:Ex->Bool->List Str->Bool×List Str:=Ex.fold fun f ts ps rs pos E =>
 if isQ f.op=true then
  (if(zcb (.mk f ts ps) pos E).1=true then zg3 ((ps.zip rs).mapIdx fun i q=>(zwp f ts i q.1,q.2 pos)) (zcb (.mk f ts ps) pos E).2 else (false,(zcb (.mk f ts ps) pos E).2))
 else if ts.length=0/\ps.length=f.parts.length then zg3 ((ps.zip rs).mapIdx fun i q=>(zyj f i q.1,q.2 (sgn f i pos))) E
 else (false,E)
theorem zis {α β γ:Type}(f:α->β)(g:Nat->α×β->γ)(xs:List α):(xs.zip (xs.map f)).mapIdx g=xs.mapIdx fun i x=>g i (x,f x):=by
 have:xs.zip (xs.map f)=xs.map fun x=>(x,f x):=by
  induction xs with
  | nil=>rfl
  | cons x xs ih=>rw[Qi,List.zip_cons_cons,ih];rfl
 rw[this]
 refine List.ext_getElem? fun i=>?_
 simp only[List.getElem?_mapIdx,List.getElem?_map,Option.map_map,K8]
theorem zn4 (e:Ex)(pos:Bool)(E:List Str):zb5 e pos E=if isQ e.form.op=true then
  (if(zcb e pos E).1=true then zg3 (e.parts.mapIdx fun i p=>(zwp e.form e.terms i p,zb5 p pos)) (zcb e pos E).2 else (false,(zcb e pos E).2))
 else if e.terms.length=0/\e.parts.length=e.form.parts.length then zg3 (e.parts.mapIdx fun i p=>(zyj e.form i p,zb5 p (sgn e.form i pos))) E
 else (false,E):=by
 cases e with
 | mk f ts ps =>
  conv=>lhs;unfold zb5;rw[Ex.fold_eq]
  simp only[zis];rfl
theorem zl3 (e:Ex)(pos:Bool)(E:List Str):(zcb e pos E).2.length<=E.length+1:=by
 unfold zcb
 split
 ·split
  ·split
   ·split
    ·simp
    ·exact Nat.le_succ _
   ·exact Nat.le_succ _
  ·exact Nat.le_succ _
 ·exact Nat.le_succ _
theorem zwm (w:Nat->Nat):∀(l:List (Bool×(List Str->Bool×List Str)))(j:Nat)(E:List Str),(∀i (h:i<l.length)(E:List Str),(l[i].2 E).2.length<=E.length+w (j+i))->(zg3 l E).2.length<=E.length+((List.range l.length).map fun i=>w (j+i)).sum
 | [],_,E,_=>by simp[zg3]
 | (c,g)::l,j,E,h=>by
  have h0:=h 0 (by simp) E;rw[J9]at h0;have h0:(g E).2.length<=E.length+w j:=h0;have ih:=zwm w l (j+1) (g E).2 fun i hi E=>by
   have:=h (i+1) (by simpa using hi) E;rw[show j+1+i=j+(i+1) by omega];simpa using this
  have e:((List.range ((c,g)::l).length).map fun i=>w (j+i)).sum=w j+((List.range l.length).map fun i=>w (j+1+i)).sum:=by
   rw[Qb,List.range_succ_eq_map,Qi,Qz,Kh]
   congr 2
   refine Kk fun i _=>?_;show w (j+(i+1))=_
   rw[show j+(i+1)=j+1+i by omega]
  rw[e];unfold zg3;split
  ·split
   ·omega
   ·show(g E).2.length<=_;omega
  ·show E.length<=_;omega
theorem zpi (ps:List Ex):((List.range ps.length).map fun i=>(ps.getD i (.mk (mkF 0 []) [] [])).nodes).sum=(ps.map Ex.nodes).sum:=by
 congr 1
 refine Yb (by simp) fun i h1 h2=>?_
 have h2:i<ps.length:=by simpa using h2
 simp[List.getD,h2]
theorem zqn:∀(e:Ex)(pos:Bool)(E:List Str),(zb5 e pos E).2.length<=E.length+e.nodes:=zcp fun f ts ps ih pos E=>by
 rw[zn4,Ex.nodes_eq]
 have hr:=zpi ps
 have key:∀(tst:Nat->Ex->Bool) (sg:Nat->Bool) (E:List Str),(zg3 (ps.mapIdx fun i p=>(tst i p,zb5 p (sg i))) E).2.length<=E.length+(ps.map Ex.nodes).sum:=fun tst sg E=>by
  have:=zwm (fun i=>(ps.getD i (.mk (mkF 0 []) [] [])).nodes) (ps.mapIdx fun i p=>(tst i p,zb5 p (sg i))) 0 E fun i h E=>by
   have hi:i<ps.length:=by simpa using h
   have:=ih ps[i] (Qd hi) (sg i) E;simp only[Q5,Q2];rw[List.getD_eq_getElem?_getD,List.getElem?_eq_getElem hi];exact this
  simp only[Jj,Q2]at this;rw[hr]at this;exact this
 show(if isQ f.op=true then (if(zcb (.mk f ts ps) pos E).1=true then zg3 (ps.mapIdx fun i p=>(zwp f ts i p,zb5 p pos)) (zcb (.mk f ts ps) pos E).2 else (false,(zcb (.mk f ts ps) pos E).2))else if ts.length=0/\ps.length=f.parts.length then zg3 (ps.mapIdx fun i p=>(zyj f i p,zb5 p (sgn f i pos))) E else (false,E)).2.length<=E.length+(1+(ps.map Ex.nodes).sum)
 have ht:=zl3 (.mk f ts ps) pos E
 split
 ·split
  ·have:=key (fun i p=>zwp f ts i p) (fun _=>pos) (zcb (.mk f ts ps) pos E).2;omega
  ·show(zcb (.mk f ts ps) pos E).2.length<=_;omega
 ·split
  ·have:=key (fun i p=>zyj f i p) (fun i=>sgn f i pos) E;omega
  ·show E.length<=_;omega
end
section
open Go.RowKit
theorem zk6 {a b:Nat}(h:a+b<=1048576):a+(1+a)*b<=1099511627776:=by
 by_cases hb:b<=524288
 ·have:(1+a)*b<=1048577*524288:=Yo Yt hb;omega
 ·have:(1+a)*b<=524289*1048576:=Yo Yt Yt;omega
theorem qd1 (l:List (Bool×(List Str->Bool×List Str)))(k:Nat)(h:k<l.length)(E:List Str):zg3 (l.drop k) E=if l[k].1=true then (if(l[k].2 E).1=true then zg3 (l.drop (k+1)) (l[k].2 E).2 else (false,(l[k].2 E).2))else (false,E):=by
 rw[Qx h]
 rfl
theorem za2 {α:Type}{xs:List α}{k:Nat}(h:k<xs.length)(d:α):xs.getD k d=xs[k]:=by rw[List.getD_eq_getElem?_getD,List.getElem?_eq_getElem h];rfl
abbrev zs0 (p:Ex)(pos:Bool)(E:List Str):Prop:=PC Tryz.prog 81 [[(true,.sl 1 (E.map fun s=>[.str s]))]] [.p 0,.d false (exD p),.d false (bD pos)] [[(true,.sl 1 ((zb5 p pos E).2.map fun s=>[.str s]))]] [(true,bD (zb5 p pos E).1)]
theorem zry {e:Ex}{pos:Bool}{E:List Str}(h:(zcb e pos E).1=true):e.parts.length=e.terms.length/\TOk e.terms:=by
 unfold zcb at h
 split at h
 ·rename_i h0;refine⟨?_,zg1.1 h0⟩;split at h
  ·split at h
   ·rename_i t ht;split at h
    ·rw[ht];exact Jm h
    ·cases h
   ·cases h
  ·exact Jm h
 ·cases h
theorem zz5 {n:Str}{t:Tm}{f:Fm}(h:(sbF n t f).2=true):(sbF n t f).1.forms=true:=by
 unfold sbF at h⊢
 split at h
 ·rename_i h0;rw[if_pos h0];rw[Qc]at h0;exact ze2 h0.2
 ·cases h
theorem qn3 (e:Ex)(he:e.wt<=1048576)(hf:e.form.forms=true)(H:∀p∈e.parts,p.form.forms=true->∀pos E,E.length+p.nodes<=4194304->zs0 p pos E)(pos:Bool)(E:List Str)(hE:E.length+e.nodes<=4194304):zs0 e pos E:=by
 have hv:=zn4 e pos E
 have hW:=e.wt_eq
 have hTW:zie e.terms=e.terms.length+(e.terms.map Tm.wt).sum:=rfl
 have hNe:=e.nodes_eq
 have HQ:=zan e.form.op
 unfold zs0
 cases hq:isQ e.form.op
 ·rw[hq,if_neg (by simp)]at hv;rw[hq]at HQ;have hfl:e.form.parts.length<=1048576:=by have:=e.form.wt_eq;omega
  by_cases hc:e.terms.length=0/\e.parts.length=e.form.parts.length
  ·rw[if_pos hc]at hv;obtain⟨hc1,hc2⟩:=hc;have hc3:((e.form.parts.length:Int) != (e.form.parts.length:Int))=false:=by simp
   have hps:∀x∈e.form.parts,x.forms=true:=by
    rw[Fm.forms_eq,Qc]at hf;exact Qs.1 hf.2
   simp only[exD,zae];refine zbh Tryz.call81 Tryz.func81 rfl Ys (by simp only[Qb,Qe,Tryz.ntmps81];omega) (by simp only[Tryz.ntmps81];omega) rfl rfl (by simp[zau,T.isPin,AF.ds,bxA]) (by simp[gFS,T.fs,T.flat,AF.ds,bxA]) rfl ?_;simp -implicitDefEqProofs only[go_sem,Tryz.results81];refine callF (HQ) (by simp -implicitDefEqProofs only[go_sem,hc1,hc2,hc3]) ?_;simp -implicitDefEqProofs only[go_sem,hc1,hc2,hc3];refine zaf (fun x:Nat×List Str=>hd [(0,.one (.bx 1000000 0)),(1000000,.one (.bx 1000000 0)),(2,.one (.t (.bool pos))),(4,.one (.bx 4 0)),(7,.one (.bx 7 0)),(78,.one (.rn (exS e.parts))),(79,vI e.form.parts.length),(80,vI x.1)] [(1000000,[.ow 64 0]),(4,[.t (.int .i64 e.form.op),.t (.str e.form.atom.name),.rn (tmS e.form.atom.args),.t (.str e.form.var),.rn (fmS e.form.parts),.rn (tmS e.terms),.rn (exS e.parts)]),(7,[.t (.int .i64 e.form.op),.t (.str e.form.atom.name),.rn (tmS e.form.atom.args),.t (.str e.form.var),.rn (fmS e.form.parts)])] [(64,⟨true,1,x.2.map fun s=>[.str s],0,true⟩)]) (fun x=>x.1<=e.parts.length/\zg3 ((e.parts.mapIdx fun i p=>(zyj e.form i p,zb5 p (sgn e.form i pos))).drop x.1) x.2=zb5 e pos E/\x.2.length+zx7 Ex.nodes e.parts x.1<=E.length+e.nodes) (fun x=>e.parts.length-x.1) (0,E) (zad ?_) ⟨Q1 _,hv.symm,by rw[zdo];show E.length+_<=_;omega⟩ ?_
   ·simp -implicitDefEqProofs only[go_sem]
   ·rintro⟨k,E'⟩ ⟨hk,hr,hl⟩;simp only at hk hr hl;by_cases hlt:k<e.parts.length
    ·have hd:=zfs Ex.nodes e.parts k hlt;have hrk:=qd1 (e.parts.mapIdx fun i p=>(zyj e.form i p,zb5 p (sgn e.form i pos))) k (by simpa using hlt) E';rw[hr]at hrk;simp only[Q5]at hrk;have hkf:k<e.form.parts.length:=by omega
     have htst:zyj e.form k e.parts[k]=same e.form.parts[k] e.parts[k].form:=by
      unfold zyj;rw[za2 hkf]
     rw[htst]at hrk;have HSm:=zfb e.form.parts[k] e.parts[k].form;have HPo:=zgi e.form k pos;have hsg:(pos != (e.form.op==4||(e.form.op==7&&((k:Int)==0))))=sgn e.form k pos:=rfl;rw[hsg]at HPo;simp only[fmD,zab e.form.parts[k],zab e.parts[k].form,zab e.form]at HSm HPo;simp -implicitDefEqProofs only[go_sem,hkf,zac,hlt,zae e.parts[k]];cases hsm:same e.form.parts[k] e.parts[k].form
     ·rw[hsm,if_neg (by simp)]at hrk;rw[hsm]at HSm;rw[hrk];refine drawn Ys ?_;simp -implicitDefEqProofs only[go_sem,hkf,zac,zab e.form.parts[k]];refine zaj (HSm) Yr ?_;simp -implicitDefEqProofs only[go_sem];kernel_rfl
     ·rw[hsm,if_pos rfl]at hrk;rw[hsm]at HSm;have hpf:e.parts[k].form.forms=true:=by rw[<-zbg.1 hsm];exact hps _ (Qd hkf)
      have HC:=H e.parts[k] (Qd hlt) hpf (sgn e.form k pos) E' Yt;have hnl:=zqn e.parts[k] (sgn e.form k pos) E';unfold zs0 at HC;simp only[exD,zae e.parts[k]]at HC;generalize hN1:(zb5 e.parts[k] (sgn e.form k pos) E').1=b1 at HC hrk;generalize hN2:(zb5 e.parts[k] (sgn e.form k pos) E').2=E2 at HC hrk hnl;cases hb1:b1
      ·rw[hb1,if_neg (by simp)]at hrk;rw[hb1]at HC;rw[hrk];refine drawn Ys ?_;simp -implicitDefEqProofs only[go_sem,hkf,zac,zab e.form.parts[k]];refine zaj (HSm) Yr ?_;simp -implicitDefEqProofs only[go_sem];refine zbk (HPo) Yr ?_;simp -implicitDefEqProofs only[go_sem];refine qku 1000000 (HC) rfl (by simp -implicitDefEqProofs only[go_sem,za5]) (by simp -implicitDefEqProofs only[go_sem,za5]) ?_;simp -implicitDefEqProofs only[go_sem,za5];kernel_rfl
      ·rw[hb1,if_pos rfl]at hrk;rw[hb1]at HC;refine drawn Ys ?_;simp -implicitDefEqProofs only[go_sem,hkf,zac,zab e.form.parts[k]];refine zaj (HSm) Yr ?_;simp -implicitDefEqProofs only[go_sem];refine zbk (HPo) Yr ?_;simp -implicitDefEqProofs only[go_sem];refine qku 1000000 (HC) rfl (by simp -implicitDefEqProofs only[go_sem,za5]) (by simp -implicitDefEqProofs only[go_sem,za5]) ?_;simp -implicitDefEqProofs only[go_sem,za5];refine⟨Ys,(k+1,E2),⟨hlt,hrk.symm,by simp only;omega⟩,by simp only;omega,zad ?_⟩;simp -implicitDefEqProofs only[go_sem];rw[zam Yt]
    ·have hkf:¬k<e.form.parts.length:=by omega
     simp -implicitDefEqProofs only[go_sem,hkf];rw[Q0 (by rw[Jj];omega)]at hr;exact Or.inl ⟨by rw[<-hr];rfl,Or.inl (by rw[<-hr];rfl)⟩
  ·rw[if_neg hc]at hv;rw[hv];simp only[exD,zae];by_cases hc1:e.terms.length=0
   ·have hc2:((e.parts.length:Int) != (e.form.parts.length:Int))=true:=by rw[bne_iff_ne];omega
    refine zbh Tryz.call81 Tryz.func81 rfl Ys (by simp only[Qb,Qe,Tryz.ntmps81];omega) (by simp only[Tryz.ntmps81];omega) rfl rfl (by simp[zau,T.isPin,AF.ds,bxA]) (by simp[gFS,T.fs,T.flat,AF.ds,bxA]) rfl ?_;simp -implicitDefEqProofs only[go_sem,Tryz.results81];refine callF (HQ) (by simp -implicitDefEqProofs only[go_sem,hc1,hc2]) ?_;simp -implicitDefEqProofs only[go_sem,hc1,hc2]
   ·have hc1':(0:Int)<(e.terms.length:Int):=by omega
    refine zbh Tryz.call81 Tryz.func81 rfl Ys (by simp only[Qb,Qe,Tryz.ntmps81];omega) (by simp only[Tryz.ntmps81];omega) rfl rfl (by simp[zau,T.isPin,AF.ds,bxA]) (by simp[gFS,T.fs,T.flat,AF.ds,bxA]) rfl ?_;simp -implicitDefEqProofs only[go_sem,Tryz.results81];refine callF (HQ) (by simp -implicitDefEqProofs only[go_sem,hc1']) ?_;simp -implicitDefEqProofs only[go_sem,hc1']
 ·rw[hq,if_pos rfl]at hv;rw[hq]at HQ;obtain⟨q,hp,hqf⟩:=zk2 hq hf;have HT:=qm6 e he pos E Yt;have hTl:=zl3 e pos E;cases ht:(zcb e pos E).1
  ·rw[ht,if_neg (by simp)]at hv;rw[ht]at HT;rw[hv];simp only[exD,zae]at HT⊢;refine zbh Tryz.call81 Tryz.func81 rfl Ys (by simp only[Qb,Qe,Tryz.ntmps81];omega) (by simp only[Tryz.ntmps81];omega) rfl rfl (by simp[zau,T.isPin,AF.ds,bxA]) (by simp[gFS,T.fs,T.flat,AF.ds,bxA]) rfl ?_;simp -implicitDefEqProofs only[go_sem,Tryz.results81];refine callF (HQ) Yr ?_;simp -implicitDefEqProofs only[go_sem];refine callT 1000000 (HT) rfl (by simp -implicitDefEqProofs only[go_sem,za5,zae e]) (by simp -implicitDefEqProofs only[go_sem,za5,zae e]) ?_;simp -implicitDefEqProofs only[go_sem,za5,zae e]
  ·rw[ht,if_pos rfl]at hv;rw[ht]at HT;obtain⟨hlen,_⟩:=zry ht;generalize hE1:(zcb e pos E).2=E1 at hv HT hTl;simp only[exD,zae]at HT⊢;refine zbh Tryz.call81 Tryz.func81 rfl Ys (by simp only[Qb,Qe,Tryz.ntmps81];omega) (by simp only[Tryz.ntmps81];omega) rfl rfl (by simp[zau,T.isPin,AF.ds,bxA]) (by simp[gFS,T.fs,T.flat,AF.ds,bxA]) rfl ?_;simp -implicitDefEqProofs only[go_sem,Tryz.results81];refine callF (HQ) Yr ?_;simp -implicitDefEqProofs only[go_sem];refine callT 1000000 (HT) rfl (by simp -implicitDefEqProofs only[go_sem,za5,zae e]) (by simp -implicitDefEqProofs only[go_sem,za5,zae e]) ?_;simp -implicitDefEqProofs only[go_sem,za5,zae e];refine zaf (fun x:Nat×List Str=>hd [(0,.one (.bx 1000000 0)),(1000000,.one (.bx 1000000 0)),(2,.one (.t (.bool pos))),(4,.one (.bx 4 0)),(7,.one (.bx 7 0)),(25,.one (.rn (exS e.parts))),(26,vI e.parts.length),(27,vI x.1)] [(1000000,[.ow 64 0]),(4,[.t (.int .i64 e.form.op),.t (.str e.form.atom.name),.rn (tmS e.form.atom.args),.t (.str e.form.var),.rn (fmS e.form.parts),.rn (tmS e.terms),.rn (exS e.parts)]),(7,[.t (.int .i64 e.form.op),.t (.str e.form.atom.name),.rn (tmS e.form.atom.args),.t (.str e.form.var),.rn (fmS e.form.parts)])] [(64,⟨true,1,x.2.map fun s=>[.str s],0,true⟩)]) (fun x=>x.1<=e.parts.length/\zg3 ((e.parts.mapIdx fun i p=>(zwp e.form e.terms i p,zb5 p pos)).drop x.1) x.2=zb5 e pos E/\x.2.length+zx7 Ex.nodes e.parts x.1<=E.length+e.nodes) (fun x=>e.parts.length-x.1) (0,E1) (zad ?_) ⟨Q1 _,hv.symm,by rw[zdo];show E1.length+_<=_;omega⟩ ?_
   ·simp -implicitDefEqProofs only[go_sem]
   ·rintro⟨k,E'⟩ ⟨hk,hr,hl⟩;simp only at hk hr hl;by_cases hlt:k<e.parts.length
    ·have hd:=zfs Ex.nodes e.parts k hlt;have hrk:=qd1 (e.parts.mapIdx fun i p=>(zwp e.form e.terms i p,zb5 p pos)) k (by simpa using hlt) E';rw[hr]at hrk;simp only[Q5]at hrk;have hkt:k<e.terms.length:=by omega
     have hform:e.parts[k].form.wt<=e.wt:=Q9 (zte _) (zci (Qd hlt));have htw:e.terms[k].wt+e.form.wt<=1048576:=by have:=zay Tm.wt e.terms _ (Qd hkt);omega
     have hqw:q.wt<=e.form.wt:=zb8 (by rw[hp];simp);have HSb:=zg8 q e.form.var e.terms[k] Yt Yt (zk6 Yt);have htst:zwp e.form e.terms k e.parts[k]=((sbF e.form.var e.terms[k] q).2&&same (sbF e.form.var e.terms[k] q).1 e.parts[k].form):=by
      unfold zwp;rw[za2 hkt,hp];rfl
     rw[htst]at hrk;have hsf:(sbF e.form.var e.terms[k] q).2=true->(sbF e.form.var e.terms[k] q).1.forms=true:=zz5;generalize (sbF e.form.var e.terms[k] q).1=R at HSb hrk hsf;generalize (sbF e.form.var e.terms[k] q).2=ok at HSb hrk hsf;have HSm:=zfb R e.parts[k].form;simp only[fmD,tmD,zab q,zaa e.terms[k],zab R,zab e.parts[k].form]at HSb HSm;have e0:(List.map fmC e.form.parts).getD 0 []=fmC q:=by rw[hp];rfl
     have hp0:e.form.parts.length=1:=by rw[hp];rfl
     simp -implicitDefEqProofs only[go_sem,hlt,zac,zae e.parts[k]];refine drawn Ys ?_;simp -implicitDefEqProofs only[go_sem,hp0,e0,zab q,zac,hkt,zaa e.terms[k]];refine zaj (HSb) Yr ?_;simp -implicitDefEqProofs only[go_sem];refine⟨Ys,?_⟩;cases hok:ok
     ·rw[hok,Ql,if_neg (by simp)]at hrk;rw[hrk];simp -implicitDefEqProofs only[go_sem,hok]
     ·rw[hok,Qq]at hrk;cases hsm:same R e.parts[k].form
      ·rw[hsm,if_neg (by simp)]at hrk;rw[hsm]at HSm;rw[hrk];simp -implicitDefEqProofs only[go_sem,hok];refine callF (HSm) Yr ?_;simp -implicitDefEqProofs only[go_sem]
      ·rw[hsm,if_pos rfl]at hrk;rw[hsm]at HSm;have hpf:e.parts[k].form.forms=true:=by rw[<-zbg.1 hsm];exact hsf hok
       have HC:=H e.parts[k] (Qd hlt) hpf pos E' Yt;have hnl:=zqn e.parts[k] pos E';unfold zs0 at HC;simp only[exD,zae e.parts[k]]at HC;generalize hN1:(zb5 e.parts[k] pos E').1=b1 at HC hrk;generalize hN2:(zb5 e.parts[k] pos E').2=E2 at HC hrk hnl;cases hb1:b1
       ·rw[hb1,if_neg (by simp)]at hrk;rw[hb1]at HC;rw[hrk];simp -implicitDefEqProofs only[go_sem,hok];refine callF (HSm) Yr ?_;simp -implicitDefEqProofs only[go_sem];refine callT 1000000 (HC) rfl (by simp -implicitDefEqProofs only[go_sem,za5]) (by simp -implicitDefEqProofs only[go_sem,za5]) ?_;simp -implicitDefEqProofs only[go_sem,za5]
       ·rw[hb1,if_pos rfl]at hrk;rw[hb1]at HC;simp -implicitDefEqProofs only[go_sem,hok];refine callF (HSm) Yr ?_;simp -implicitDefEqProofs only[go_sem];refine callT 1000000 (HC) rfl (by simp -implicitDefEqProofs only[go_sem,za5]) (by simp -implicitDefEqProofs only[go_sem,za5]) ?_;simp -implicitDefEqProofs only[go_sem,za5];refine⟨(k+1,E2),⟨hlt,hrk.symm,by simp only;omega⟩,by simp only;omega,zad ?_⟩;simp -implicitDefEqProofs only[go_sem];rw[zam Yt]
        trace_state
    ·simp -implicitDefEqProofs only[go_sem,hlt];rw[Q0 (by rw[Jj];omega)]at hr;exact Or.inl ⟨by rw[<-hr];rfl,Or.inl (by rw[<-hr];rfl)⟩
theorem node_c:∀e:Ex,e.wt<=1048576->e.form.forms=true->∀pos E,E.length+e.nodes<=4194304->zs0 e pos E :=
 zcp fun f ts ps ih he hf pos E hE=>qn3 (.mk f ts ps) he hf (fun p hp hpf pos E hE=>ih p hp (Q9 (zci (a:=.mk f ts ps) hp) he) hpf pos E hE) pos E hE
end
section
open Go.RowKit
theorem zib (n:Str)(t:Tm):∀f:Fm,f.forms=true->(zbf n t f).2=true->(zbf n t f).1.forms=true:=zb7 fun o a v ps ih hf h=>by
 have hP:=zk1 n t (.mk o a v ps)
 have hf0:=hf
 rw[Fm.forms_eq,Qc]at hf0
 obtain⟨hh,hps⟩:=hf0
 have hps:∀x∈ps,x.forms=true:=Qs.1 hps
 cases h3:o==3
 ·have ha:a=.mk [] []:=zhd hh h3;rw[hP]at h⊢
  change (if(o==3)=true then _ else if(isQ o&&_)=true then _ else if(isQ o&&_)=true then _ else (Fm.mk o (.mk [] []) v ((ps.takeWhile fun x=>(zbf n t x).2).map fun x=>(zbf n t x).1),ps.all fun x=>(zbf n t x).2):Fm×Bool).2=true at h
  change (if(o==3)=true then _ else if(isQ o&&_)=true then _ else if(isQ o&&_)=true then _ else (Fm.mk o (.mk [] []) v ((ps.takeWhile fun x=>(zbf n t x).2).map fun x=>(zbf n t x).1),ps.all fun x=>(zbf n t x).2):Fm×Bool).1.forms=true
  rw[h3,if_neg (by simp)]at h⊢;split
  ·exact hf
  ·rename_i h1;rw[if_neg h1]at h;split
   ·rename_i h2;rw[if_pos h2]at h;cases h
   ·rename_i h2;rw[if_neg h2]at h;have h1:(ps.all fun x=>(zbf n t x).2)=true:=h;have hA:=Qs.1 h1;have hw:(ps.takeWhile fun x=>(zbf n t x).2)=ps:=by
     have:=(zcw (l:=ps) (p:=fun x=>(zbf n t x).2) (k:=ps.length) (Qw _) (by rw[Kv];exact hA) fun h=>absurd h (Ya _)).1;rw[this,Kv]
    rw[hw,<-ha];show(Fm.mk o a v (ps.map fun x=>(zbf n t x).1)).forms=true
    rw[zgt,Qc];refine⟨zkr (f:=.mk o a v ps) hh h3 (by show(ps.map _).length=ps.length;rw[Qa]),Qs.2 fun y hy=>?_⟩;obtain⟨x,hx,rfl⟩:=Kn.1 hy;exact ih x hx (hps x hx) (hA x hx)
 ·have ho3:o=3:=by simpa using h3
  rw[hP]at h⊢
  change (if(o==3)=true then (Fm.mk o (zef (bnd n t) a) v [],(zef (bnd n t) a).atomOk)else _:Fm×Bool).2=true at h
  change (if(o==3)=true then (Fm.mk o (zef (bnd n t) a) v [],(zef (bnd n t) a).atomOk)else _:Fm×Bool).1.forms=true
  rw[h3,if_pos rfl]at h⊢;have h9:(zef (bnd n t) a).atomOk=true:=h;show(Fm.mk o (zef (bnd n t) a) v []).forms=true
  rw[zgt,Qc];refine⟨?_,rfl⟩;subst ho3;unfold Fm.here at hh⊢
  change (decide (ps.length=0)&&a.atomOk&&(v==[]))=true at hh
  change (decide (([]:List Fm).length=0)&&(zef (bnd n t) a).atomOk&&(v==[]))=true
  simp only[Qc]at hh;rw[h9,hh.2];rfl
noncomputable def zjq (f:Fm)(ts:List Tm)(i:Nat)(p:Ex):Bool:=(ts.getD i Tm.zero).good&&!((ts.take i).any fun a=>same a (ts.getD i Tm.zero))&&(zbf f.var (ts.getD i Tm.zero) (f.parts.getD 0 (mkF 0 []))).2&&same p.form (zbf f.var (ts.getD i Tm.zero) (f.parts.getD 0 (mkF 0 []))).1
def zax (f:Fm)(pos:Bool):Bool:=isQ f.op&&((f.op==8)==pos)
noncomputable def zbe:Ex->Bool->Bool:=Ex.fold fun f ts ps rs pos =>
 if isQ f.op=true then decide (ts.length=ps.length)&&(!zax f pos||(decide (ts.length=1)&&za9 (ts.getD 0 Tm.zero).name))&&((ps.zip rs).mapIdx fun i q=>(zjq f ts i q.1&&q.2 pos)).all id
 else decide (ts.length=0)&&decide (ps.length=f.parts.length)&&((ps.zip rs).mapIdx fun i q=>(same q.1.form (f.parts.getD i (mkF 0 []))&&q.2 (sgn f i pos))).all id
theorem zc2 (e:Ex)(pos:Bool):zbe e pos=if isQ e.form.op=true then decide (e.terms.length=e.parts.length)&&(!zax e.form pos||(decide (e.terms.length=1)&&za9 (e.terms.getD 0 Tm.zero).name))&&(e.parts.mapIdx fun i p=>(zjq e.form e.terms i p&&zbe p pos)).all id
 else decide (e.terms.length=0)&&decide (e.parts.length=e.form.parts.length)&&(e.parts.mapIdx fun i p=>(same p.form (e.form.parts.getD i (mkF 0 []))&&zbe p (sgn e.form i pos))).all id:=by
 cases e with
 | mk f ts ps =>
  conv=>lhs;unfold zbe;rw[Ex.fold_eq]
  simp only[zis];rfl
theorem zff {L:List Bool}{k:Nat}(h:k<L.length)(hf:L[k]=false):L.all id=false:=by
 rw[Yn];exact⟨_,Qd h,by simp[hf]⟩
theorem zst {L:List Bool}(h:∀k (h:k<L.length),L[k]=true):L.all id=true:=by
 rw[Qs];intro x hx;obtain⟨k,hk,rfl⟩:=Jv hx;exact h k hk
theorem zoi {L:List Bool}{k:Nat}(hT:∀j,j<k->∀h:j<L.length,L[j]=true){hk:k<L.length}(h1:L[k]=true):∀j,j<k+1->∀h:j<L.length,L[j]=true:=fun j hj h=>by
 by_cases e:j=k
 ·subst e;exact h1
 ·exact hT j Yt h
end
section
open Go.RowKit
abbrev zjg (p:Ex)(pos:Bool):Prop:=FC Tryz.prog 104 [exD p,bD pos] [bD (zbe p pos)]
theorem zxs (e:Ex)(he:e.wt<=1048576)(hf:e.form.forms=true)(H:∀p∈e.parts,p.form.forms=true->∀pos,zjg p pos)(pos:Bool):zjg e pos:=by
 have hv:=zc2 e pos
 have hW:=e.wt_eq
 have hTW:zie e.terms=e.terms.length+(e.terms.map Tm.wt).sum:=rfl
 have HQ:=zcr e.form
 have hfl:e.form.parts.length<=1048576:=by have:=e.form.wt_eq;omega
 unfold zjg
 cases hq:isQ e.form.op
 ·rw[hq,if_neg (by simp)]at hv;rw[hq]at HQ;by_cases hc1:e.terms.length=0
  ·by_cases hc2:e.parts.length=e.form.parts.length
   ·rw[show decide (e.terms.length=0)=true by simp[hc1],show decide (e.parts.length=e.form.parts.length)=true by simp[hc2],Qq,Qq]at hv;have hc3:((e.form.parts.length:Int) != (e.form.parts.length:Int))=false:=by simp
    have hps:∀x∈e.form.parts,x.forms=true:=by
     rw[Fm.forms_eq,Qc]at hf;exact Qs.1 hf.2
    generalize hL:(e.parts.mapIdx fun i p=>(same p.form (e.form.parts.getD i (mkF 0 []))&&zbe p (sgn e.form i pos)))=L at hv;have hLl:L.length=e.parts.length:=by rw[<-hL,Jj]
    simp only[exD,zae,fmD,zab e.form]at HQ⊢;refine zak Tryz.call104 Tryz.func104 rfl Ys (zaz Ys) ?_;simp -implicitDefEqProofs only[go_sem,Tryz.results104];refine callF (HQ) (by simp -implicitDefEqProofs only[go_sem,hc1,hc2,hc3]) ?_;simp -implicitDefEqProofs only[go_sem,hc1,hc2,hc3];refine zaf (fun k:Nat=>hd [(1,vT (.bool pos)),(2,.one (.bx 2 0)),(5,.one (.bx 5 0)),(6,vI k)] [(2,[.t (.int .i64 e.form.op),.t (.str e.form.atom.name),.t (tmS e.form.atom.args),.t (.str e.form.var),.t (fmS e.form.parts),.t (tmS e.terms),.t (exS e.parts)]),(5,[.t (.int .i64 e.form.op),.t (.str e.form.atom.name),.t (tmS e.form.atom.args),.t (.str e.form.var),.t (fmS e.form.parts)])] []) (fun k=>k<=e.parts.length/\∀j,j<k->∀h:j<L.length,L[j]=true) (fun k=>e.parts.length-k) 0 (zad ?_) ⟨Q1 _,fun j hj=>by omega⟩ ?_
    ·simp -implicitDefEqProofs only[go_sem]
    ·rintro k ⟨hk,hT⟩;by_cases hlt:k<e.parts.length
     ·have hkf:k<e.form.parts.length:=by omega
      have hkL:k<L.length:=by omega
      have hLk:L[k]=(same e.parts[k].form e.form.parts[k]&&zbe e.parts[k] (sgn e.form k pos)):=by
       simp only[<-hL,Q5];rw[za2 hkf]
      have HSm:=zj5 e.parts[k].form e.form.parts[k];have HPo:=zdr e.form k pos;have hsg:(pos != (e.form.op==4||(e.form.op==7&&((k:Int)==0))))=sgn e.form k pos:=rfl;rw[hsg]at HPo;simp only[fmD,zab e.form.parts[k],zab e.parts[k].form,zab e.form]at HSm HPo;cases hsm:same e.parts[k].form e.form.parts[k]
      ·rw[hsm,Ql]at hLk;rw[hsm]at HSm;rw[hv,zff hkL hLk];simp -implicitDefEqProofs only[go_sem,hc2,hkf];refine drawn Ys ?_;simp -implicitDefEqProofs only[go_sem,hlt,hkf,zac,zab e.form.parts[k],zae e.parts[k]];refine zaj (HSm) Yr ?_;simp -implicitDefEqProofs only[go_sem];kernel_rfl
      ·rw[hsm,Qq]at hLk;rw[hsm]at HSm;have hpf:e.parts[k].form.forms=true:=by rw[zbg.1 hsm];exact hps _ (Qd hkf)
       have HC:=H e.parts[k] (Qd hlt) hpf (sgn e.form k pos);unfold zjg at HC;simp only[exD,zae e.parts[k]]at HC;cases hb:zbe e.parts[k] (sgn e.form k pos)
       ·rw[hb]at hLk HC;rw[hv,zff hkL hLk];simp -implicitDefEqProofs only[go_sem,hc2,hkf];refine drawn Ys ?_;simp -implicitDefEqProofs only[go_sem,hlt,hkf,zac,zab e.form.parts[k],zae e.parts[k]];refine zaj (HSm) (by simp -implicitDefEqProofs only[go_sem,hlt,hkf,hc2,zac,zae e.parts[k]]) ?_;simp -implicitDefEqProofs only[go_sem,hlt,hkf,hc2,zac,zae e.parts[k]];refine zbk (HPo) Yr ?_;simp -implicitDefEqProofs only[go_sem];refine zbk (HC) Yr ?_;simp -implicitDefEqProofs only[go_sem];kernel_rfl
       ·rw[hb]at hLk HC;simp -implicitDefEqProofs only[go_sem,hc2,hkf];refine drawn Ys ?_;simp -implicitDefEqProofs only[go_sem,hlt,hkf,zac,zab e.form.parts[k],zae e.parts[k]];refine zaj (HSm) (by simp -implicitDefEqProofs only[go_sem,hlt,hkf,hc2,zac,zae e.parts[k]]) ?_;simp -implicitDefEqProofs only[go_sem,hlt,hkf,hc2,zac,zae e.parts[k]];refine zbk (HPo) Yr ?_;simp -implicitDefEqProofs only[go_sem];refine zbk (HC) Yr ?_;simp -implicitDefEqProofs only[go_sem];refine⟨Ys,k+1,⟨Yt,zoi hT hLk⟩,Yt,zad ?_⟩;simp -implicitDefEqProofs only[go_sem];rw[zam Yt]
     ·have hkf:¬k<e.form.parts.length:=by omega
      rw[hv,zst fun j hj=>hT j Yt hj];simp -implicitDefEqProofs only[go_sem,hc2,hkf]
   ·rw[show decide (e.parts.length=e.form.parts.length)=false by simp[hc2],Q6,Ql]at hv;rw[hv];have hc3:((e.parts.length:Int) != (e.form.parts.length:Int))=true:=by rw[bne_iff_ne];omega
    simp only[exD,zae,fmD,zab e.form]at HQ⊢;refine zak Tryz.call104 Tryz.func104 rfl Ys (zaz Ys) ?_;simp -implicitDefEqProofs only[go_sem,Tryz.results104];refine callF (HQ) (by simp -implicitDefEqProofs only[go_sem,hc1,hc3]) ?_;simp -implicitDefEqProofs only[go_sem,hc1,hc3]
  ·rw[show decide (e.terms.length=0)=false by simp[hc1],Ql,Ql]at hv;rw[hv];have hc1':(0:Int)<(e.terms.length:Int):=by omega
   simp only[exD,zae,fmD,zab e.form]at HQ⊢;refine zak Tryz.call104 Tryz.func104 rfl Ys (zaz Ys) ?_;simp -implicitDefEqProofs only[go_sem,Tryz.results104];refine callF (HQ) (by simp -implicitDefEqProofs only[go_sem,hc1']) ?_;simp -implicitDefEqProofs only[go_sem,hc1']
 ·rw[hq,if_pos rfl]at hv;rw[hq]at HQ;obtain⟨q,hp,hqf⟩:=zk2 hq hf;have HSt:=zd3 e.form pos;have hse:zax e.form pos=((e.form.op==8)==pos):=by unfold zax;rw[hq,Qq]
  rw[hq,Qq,<-hse]at HSt;by_cases hlen:e.terms.length=e.parts.length
  ·rw[show decide (e.terms.length=e.parts.length)=true by simp[hlen],Qq]at hv;have hne:((e.terms.length:Int) != (e.parts.length:Int))=false:=by rw[hlen];simp
   generalize hL:(e.parts.mapIdx fun i p=>(zjq e.form e.terms i p&&zbe p pos))=L at hv;have hLl:L.length=e.parts.length:=by rw[<-hL,Jj]
   simp only[exD,zae,fmD,zab e.form]at HQ HSt⊢;cases hst:zax e.form pos
   ·rw[hst]at hv HSt;simp only[Jp,Bool.true_or,Qq]at hv;refine zak Tryz.call104 Tryz.func104 rfl Ys (zaz Ys) ?_;simp -implicitDefEqProofs only[go_sem,Tryz.results104];refine callF (HQ) (by simp -implicitDefEqProofs only[go_sem,hne]) ?_;simp -implicitDefEqProofs only[go_sem,hne];refine callF (HSt) Yr ?_;simp -implicitDefEqProofs only[go_sem];refine zaf (fun k:Nat=>hd [(1,vT (.bool pos)),(2,.one (.bx 2 0)),(5,.one (.bx 5 0)),(7,vI k)] [(2,[.t (.int .i64 e.form.op),.t (.str e.form.atom.name),.t (tmS e.form.atom.args),.t (.str e.form.var),.t (fmS e.form.parts),.t (tmS e.terms),.t (exS e.parts)]),(5,[.t (.int .i64 e.form.op),.t (.str e.form.atom.name),.t (tmS e.form.atom.args),.t (.str e.form.var),.t (fmS e.form.parts)])] []) (fun k=>k<=e.parts.length/\∀j,j<k->∀h:j<L.length,L[j]=true) (fun k=>e.parts.length-k) 0 (zad ?_) ⟨Q1 _,fun j hj=>by omega⟩ ?_
    ·simp -implicitDefEqProofs only[go_sem]
    ·rintro k ⟨hk,hT⟩;by_cases hlt:k<e.parts.length
     ·have hkt:k<e.terms.length:=by omega
      have hkL:k<L.length:=by omega
      have htw:e.terms[k].wt+e.form.wt<=1048576:=by have:=zay Tm.wt e.terms _ (Qd hkt);omega
      have hqw:q.wt<=e.form.wt:=zb8 (by rw[hp];simp);have htk:zjq e.form e.terms k e.parts[k]=(e.terms[k].good&&!((e.terms.take k).any fun a=>same a e.terms[k])&&(zbf e.form.var e.terms[k] q).2&&same e.parts[k].form (zbf e.form.var e.terms[k] q).1):=by
       unfold zjq;rw[za2 hkt,hp];rfl
      have hLk:L[k]=(e.terms[k].good&&!((e.terms.take k).any fun a=>same a e.terms[k])&&(zbf e.form.var e.terms[k] q).2&&same e.parts[k].form (zbf e.form.var e.terms[k] q).1&&zbe e.parts[k] pos):=by
       simp only[<-hL,Q5];rw[htk]
      have HV:=zjt e.terms[k] Yt;have HI:=zc7 (e.terms.take k) e.terms[k];have hi2:=zr4 (e.terms.take k) fun a=>same a e.terms[k];have HPt:=zre e.form.var e.terms[k] Yt q hqf Yt (zk6 Yt);have hpff:=zib e.form.var e.terms[k] q hqf;generalize (zbf e.form.var e.terms[k] q).1=R at HPt hLk hpff;generalize (zbf e.form.var e.terms[k] q).2=ok at HPt hLk hpff;have HSm:=zj5 e.parts[k].form R;have eT:tmS (e.terms.take k)=.sl 2 ((e.terms.map tmC).take k):=by unfold tmS;rw[List.map_take]
      rw[eT]at HI;have e0:(List.map fmC e.form.parts).getD 0 []=fmC q:=by rw[hp];rfl
      have hp0:e.form.parts.length=1:=by rw[hp];rfl
      simp only[tmD,fmD,zaa e.terms[k],zab q,zab R,zab e.parts[k].form]at HV HI HPt HSm;cases hg:e.terms[k].good
      ·rw[hg]at hLk HV;simp only[Ql]at hLk;rw[hv,zff hkL hLk];simp -implicitDefEqProofs only[go_sem,hkt];refine drawn Ys ?_;simp -implicitDefEqProofs only[go_sem,hkt,zac,zaa e.terms[k]];refine zaj (HV) Yr ?_;simp -implicitDefEqProofs only[go_sem];kernel_rfl
      ·rw[hg]at HV;cases hi:(e.terms.take k).any fun a=>same a e.terms[k]
       ·rw[hi]at hi2;cases hok:ok
        ·rw[hg,hi,hok]at hLk;simp only[Q6,Ql]at hLk;rw[hv,zff hkL hLk];rw[hok]at HPt;simp -implicitDefEqProofs only[go_sem,hkt];refine drawn Ys ?_;simp -implicitDefEqProofs only[go_sem,hkt,zac,zaa e.terms[k]];refine zaj (HV) (by simp -implicitDefEqProofs only[go_sem,hkt,zac,zaa e.terms[k]]) ?_;simp -implicitDefEqProofs only[go_sem,hkt,zac,zaa e.terms[k]];refine⟨Yt,?_⟩;refine zbk (HI) (by simp -implicitDefEqProofs only[go_sem,hi2]) ?_;simp -implicitDefEqProofs only[go_sem,hi2];refine⟨Ys,?_⟩;refine drawn Ys ?_;simp -implicitDefEqProofs only[go_sem,hp0,e0,zab q,hkt,zac,zaa e.terms[k]];refine zaj (HPt) Yr ?_;simp -implicitDefEqProofs only[go_sem];refine⟨Ys,?_⟩;refine drawn Ys ?_;simp -implicitDefEqProofs only[go_sem];kernel_rfl
        ·rw[hok]at HPt;cases hsm:same e.parts[k].form R
         ·rw[hg,hi,hok,hsm]at hLk;simp only[Q6,Ql]at hLk;rw[hv,zff hkL hLk];rw[hsm]at HSm;simp -implicitDefEqProofs only[go_sem,hkt];refine drawn Ys ?_;simp -implicitDefEqProofs only[go_sem,hkt,zac,zaa e.terms[k]];refine zaj (HV) (by simp -implicitDefEqProofs only[go_sem,hkt,zac,zaa e.terms[k]]) ?_;simp -implicitDefEqProofs only[go_sem,hkt,zac,zaa e.terms[k]];refine⟨Yt,?_⟩;refine zbk (HI) (by simp -implicitDefEqProofs only[go_sem,hi2]) ?_;simp -implicitDefEqProofs only[go_sem,hi2];refine⟨Ys,?_⟩;refine drawn Ys ?_;simp -implicitDefEqProofs only[go_sem,hp0,e0,zab q,hkt,zac,zaa e.terms[k]];refine zaj (HPt) Yr ?_;simp -implicitDefEqProofs only[go_sem];refine⟨Ys,?_⟩;refine drawn Ys ?_;simp -implicitDefEqProofs only[go_sem,hlt,zac,zae e.parts[k]];refine zbk (HSm) Yr ?_;simp -implicitDefEqProofs only[go_sem];kernel_rfl
         ·have hpf:e.parts[k].form.forms=true:=by rw[zbg.1 hsm];exact hpff hok
          have HC:=H e.parts[k] (Qd hlt) hpf pos;unfold zjg at HC;simp only[exD,zae e.parts[k]]at HC;rw[hg,hi,hok,hsm]at hLk;simp only[Jp,Yh,Qq]at hLk;rw[hsm]at HSm;cases hb:zbe e.parts[k] pos
          ·rw[hb]at hLk HC;rw[hv,zff hkL hLk];simp -implicitDefEqProofs only[go_sem,hkt];refine drawn Ys ?_;simp -implicitDefEqProofs only[go_sem,hkt,zac,zaa e.terms[k]];refine zaj (HV) (by simp -implicitDefEqProofs only[go_sem,hkt,zac,zaa e.terms[k]]) ?_;simp -implicitDefEqProofs only[go_sem,hkt,zac,zaa e.terms[k]];refine⟨Yt,?_⟩;refine zbk (HI) (by simp -implicitDefEqProofs only[go_sem,hi2]) ?_;simp -implicitDefEqProofs only[go_sem,hi2];refine⟨Ys,?_⟩;refine drawn Ys ?_;simp -implicitDefEqProofs only[go_sem,hp0,e0,zab q,hkt,zac,zaa e.terms[k]];refine zaj (HPt) Yr ?_;simp -implicitDefEqProofs only[go_sem];refine⟨Ys,?_⟩;refine drawn Ys ?_;simp -implicitDefEqProofs only[go_sem,hlt,zac,zae e.parts[k]];refine zbk (HSm) (by simp -implicitDefEqProofs only[go_sem,hlt,zac,zae e.parts[k]]) ?_;simp -implicitDefEqProofs only[go_sem,hlt,zac,zae e.parts[k]];refine zbk (HC) Yr ?_;simp -implicitDefEqProofs only[go_sem];kernel_rfl
          ·rw[hb]at hLk HC;simp -implicitDefEqProofs only[go_sem,hkt];refine drawn Ys ?_;simp -implicitDefEqProofs only[go_sem,hkt,zac,zaa e.terms[k]];refine zaj (HV) (by simp -implicitDefEqProofs only[go_sem,hkt,zac,zaa e.terms[k]]) ?_;simp -implicitDefEqProofs only[go_sem,hkt,zac,zaa e.terms[k]];refine⟨Yt,?_⟩;refine zbk (HI) (by simp -implicitDefEqProofs only[go_sem,hi2]) ?_;simp -implicitDefEqProofs only[go_sem,hi2];refine⟨Ys,?_⟩;refine drawn Ys ?_;simp -implicitDefEqProofs only[go_sem,hp0,e0,zab q,hkt,zac,zaa e.terms[k]];refine zaj (HPt) Yr ?_;simp -implicitDefEqProofs only[go_sem];refine⟨Ys,?_⟩;refine drawn Ys ?_;simp -implicitDefEqProofs only[go_sem,hlt,zac,zae e.parts[k]];refine zbk (HSm) (by simp -implicitDefEqProofs only[go_sem,hlt,zac,zae e.parts[k]]) ?_;simp -implicitDefEqProofs only[go_sem,hlt,zac,zae e.parts[k]];refine zbk (HC) Yr ?_;simp -implicitDefEqProofs only[go_sem];refine⟨Ys,k+1,⟨Yt,zoi hT hLk⟩,Yt,zad ?_⟩;simp -implicitDefEqProofs only[go_sem];rw[zam Yt]
       ·rw[hg,hi]at hLk;rw[hi]at hi2;simp only[Jr,Q6,Ql]at hLk;rw[hv,zff hkL hLk];simp -implicitDefEqProofs only[go_sem,hkt];refine drawn Ys ?_;simp -implicitDefEqProofs only[go_sem,hkt,zac,zaa e.terms[k]];refine zaj (HV) (by simp -implicitDefEqProofs only[go_sem,hkt,zac,zaa e.terms[k]]) ?_;simp -implicitDefEqProofs only[go_sem,hkt,zac,zaa e.terms[k]];refine⟨Yt,?_⟩;refine zbk (HI) (by simp -implicitDefEqProofs only[go_sem,hi2]) ?_;simp -implicitDefEqProofs only[go_sem,hi2];kernel_rfl
     ·have hkt:¬k<e.terms.length:=by omega
      rw[hv,zst fun j hj=>hT j Yt hj];simp -implicitDefEqProofs only[go_sem,hkt]
   ·rw[hst]at hv HSt;simp only[Jr,Jf]at hv;by_cases h1:e.terms.length=1
    ·obtain⟨t,ht⟩:=Jb.1 h1;have hgd:e.terms.getD 0 Tm.zero=t:=by rw[ht];rfl
     rw[show decide (e.terms.length=1)=true by simp[h1],hgd,Qq]at hv;have HVr:=zij t.name;have e0:(List.map tmC e.terms).getD 0 []=tmC t:=by rw[ht];rfl
     have h1p:e.parts.length=1:=by omega
     have hne1:((1:Int) != (e.parts.length:Int))=false:=by rw[h1p];rfl
     cases hvv:za9 t.name
     ·rw[hvv,Ql]at hv;rw[hvv]at HVr;rw[hv];refine zak Tryz.call104 Tryz.func104 rfl Ys (zaz Ys) ?_;simp -implicitDefEqProofs only[go_sem,Tryz.results104];refine callF (HQ) (by simp -implicitDefEqProofs only[go_sem,h1,h1p,hne1]) ?_;simp -implicitDefEqProofs only[go_sem,h1,h1p,hne1];refine callF (HSt) (by simp -implicitDefEqProofs only[go_sem,h1,h1p,e0,zaa t]) ?_;simp -implicitDefEqProofs only[go_sem,h1,h1p,e0,zaa t];refine callF (HVr) Yr ?_;simp -implicitDefEqProofs only[go_sem]
     ·rw[hvv,Qq]at hv;rw[hvv]at HVr;refine zak Tryz.call104 Tryz.func104 rfl Ys (zaz Ys) ?_;simp -implicitDefEqProofs only[go_sem,Tryz.results104];refine callF (HQ) (by simp -implicitDefEqProofs only[go_sem,h1,h1p,hne1]) ?_;simp -implicitDefEqProofs only[go_sem,h1,h1p,hne1];refine callF (HSt) (by simp -implicitDefEqProofs only[go_sem,h1,h1p,e0,zaa t]) ?_;simp -implicitDefEqProofs only[go_sem,h1,h1p,e0,zaa t];refine callF (HVr) Yr ?_;simp -implicitDefEqProofs only[go_sem];refine zaf (fun k:Nat=>hd [(1,vT (.bool pos)),(2,.one (.bx 2 0)),(5,.one (.bx 5 0)),(7,vI k)] [(2,[.t (.int .i64 e.form.op),.t (.str e.form.atom.name),.t (tmS e.form.atom.args),.t (.str e.form.var),.t (fmS e.form.parts),.t (tmS e.terms),.t (exS e.parts)]),(5,[.t (.int .i64 e.form.op),.t (.str e.form.atom.name),.t (tmS e.form.atom.args),.t (.str e.form.var),.t (fmS e.form.parts)])] []) (fun k=>k<=e.parts.length/\∀j,j<k->∀h:j<L.length,L[j]=true) (fun k=>e.parts.length-k) 0 (zad ?_) ⟨Q1 _,fun j hj=>by omega⟩ ?_
      ·simp -implicitDefEqProofs only[go_sem]
      ·rintro k ⟨hk,hT⟩;by_cases hlt:k<e.parts.length
       ·have hkt:k<e.terms.length:=by omega
        have hkL:k<L.length:=by omega
        have htw:e.terms[k].wt+e.form.wt<=1048576:=by have:=zay Tm.wt e.terms _ (Qd hkt);omega
        have hqw:q.wt<=e.form.wt:=zb8 (by rw[hp];simp);have htk:zjq e.form e.terms k e.parts[k]=(e.terms[k].good&&!((e.terms.take k).any fun a=>same a e.terms[k])&&(zbf e.form.var e.terms[k] q).2&&same e.parts[k].form (zbf e.form.var e.terms[k] q).1):=by
         unfold zjq;rw[za2 hkt,hp];rfl
        have hLk:L[k]=(e.terms[k].good&&!((e.terms.take k).any fun a=>same a e.terms[k])&&(zbf e.form.var e.terms[k] q).2&&same e.parts[k].form (zbf e.form.var e.terms[k] q).1&&zbe e.parts[k] pos):=by
         simp only[<-hL,Q5];rw[htk]
        have HV:=zjt e.terms[k] Yt;have HI:=zc7 (e.terms.take k) e.terms[k];have hi2:=zr4 (e.terms.take k) fun a=>same a e.terms[k];have HPt:=zre e.form.var e.terms[k] Yt q hqf Yt (zk6 Yt);have hpff:=zib e.form.var e.terms[k] q hqf;generalize (zbf e.form.var e.terms[k] q).1=R at HPt hLk hpff;generalize (zbf e.form.var e.terms[k] q).2=ok at HPt hLk hpff;have HSm:=zj5 e.parts[k].form R;have eT:tmS (e.terms.take k)=.sl 2 ((e.terms.map tmC).take k):=by unfold tmS;rw[List.map_take]
        rw[eT]at HI;have e0:(List.map fmC e.form.parts).getD 0 []=fmC q:=by rw[hp];rfl
        have hp0:e.form.parts.length=1:=by rw[hp];rfl
        simp only[tmD,fmD,zaa e.terms[k],zab q,zab R,zab e.parts[k].form]at HV HI HPt HSm;cases hg:e.terms[k].good
        ·rw[hg]at hLk HV;simp only[Ql]at hLk;rw[hv,zff hkL hLk];simp -implicitDefEqProofs only[go_sem,hkt];refine drawn Ys ?_;simp -implicitDefEqProofs only[go_sem,hkt,zac,zaa e.terms[k]];refine zaj (HV) Yr ?_;simp -implicitDefEqProofs only[go_sem];kernel_rfl
        ·rw[hg]at HV;cases hi:(e.terms.take k).any fun a=>same a e.terms[k]
         ·rw[hi]at hi2;cases hok:ok
          ·rw[hg,hi,hok]at hLk;simp only[Q6,Ql]at hLk;rw[hv,zff hkL hLk];rw[hok]at HPt;simp -implicitDefEqProofs only[go_sem,hkt];refine drawn Ys ?_;simp -implicitDefEqProofs only[go_sem,hkt,zac,zaa e.terms[k]];refine zaj (HV) (by simp -implicitDefEqProofs only[go_sem,hkt,zac,zaa e.terms[k]]) ?_;simp -implicitDefEqProofs only[go_sem,hkt,zac,zaa e.terms[k]];refine⟨Yt,?_⟩;refine zbk (HI) (by simp -implicitDefEqProofs only[go_sem,hi2]) ?_;simp -implicitDefEqProofs only[go_sem,hi2];refine⟨Ys,?_⟩;refine drawn Ys ?_;simp -implicitDefEqProofs only[go_sem,hp0,e0,zab q,hkt,zac,zaa e.terms[k]];refine zaj (HPt) Yr ?_;simp -implicitDefEqProofs only[go_sem];refine⟨Ys,?_⟩;refine drawn Ys ?_;simp -implicitDefEqProofs only[go_sem];kernel_rfl
          ·rw[hok]at HPt;cases hsm:same e.parts[k].form R
           ·rw[hg,hi,hok,hsm]at hLk;simp only[Q6,Ql]at hLk;rw[hv,zff hkL hLk];rw[hsm]at HSm;simp -implicitDefEqProofs only[go_sem,hkt];refine drawn Ys ?_;simp -implicitDefEqProofs only[go_sem,hkt,zac,zaa e.terms[k]];refine zaj (HV) (by simp -implicitDefEqProofs only[go_sem,hkt,zac,zaa e.terms[k]]) ?_;simp -implicitDefEqProofs only[go_sem,hkt,zac,zaa e.terms[k]];refine⟨Yt,?_⟩;refine zbk (HI) (by simp -implicitDefEqProofs only[go_sem,hi2]) ?_;simp -implicitDefEqProofs only[go_sem,hi2];refine⟨Ys,?_⟩;refine drawn Ys ?_;simp -implicitDefEqProofs only[go_sem,hp0,e0,zab q,hkt,zac,zaa e.terms[k]];refine zaj (HPt) Yr ?_;simp -implicitDefEqProofs only[go_sem];refine⟨Ys,?_⟩;refine drawn Ys ?_;simp -implicitDefEqProofs only[go_sem,hlt,zac,zae e.parts[k]];refine zbk (HSm) Yr ?_;simp -implicitDefEqProofs only[go_sem];kernel_rfl
           ·have hpf:e.parts[k].form.forms=true:=by rw[zbg.1 hsm];exact hpff hok
            have HC:=H e.parts[k] (Qd hlt) hpf pos;unfold zjg at HC;simp only[exD,zae e.parts[k]]at HC;rw[hg,hi,hok,hsm]at hLk;simp only[Jp,Yh,Qq]at hLk;rw[hsm]at HSm;cases hb:zbe e.parts[k] pos
            ·rw[hb]at hLk HC;rw[hv,zff hkL hLk];simp -implicitDefEqProofs only[go_sem,hkt];refine drawn Ys ?_;simp -implicitDefEqProofs only[go_sem,hkt,zac,zaa e.terms[k]];refine zaj (HV) (by simp -implicitDefEqProofs only[go_sem,hkt,zac,zaa e.terms[k]]) ?_;simp -implicitDefEqProofs only[go_sem,hkt,zac,zaa e.terms[k]];refine⟨Yt,?_⟩;refine zbk (HI) (by simp -implicitDefEqProofs only[go_sem,hi2]) ?_;simp -implicitDefEqProofs only[go_sem,hi2];refine⟨Ys,?_⟩;refine drawn Ys ?_;simp -implicitDefEqProofs only[go_sem,hp0,e0,zab q,hkt,zac,zaa e.terms[k]];refine zaj (HPt) Yr ?_;simp -implicitDefEqProofs only[go_sem];refine⟨Ys,?_⟩;refine drawn Ys ?_;simp -implicitDefEqProofs only[go_sem,hlt,zac,zae e.parts[k]];refine zbk (HSm) (by simp -implicitDefEqProofs only[go_sem,hlt,zac,zae e.parts[k]]) ?_;simp -implicitDefEqProofs only[go_sem,hlt,zac,zae e.parts[k]];refine zbk (HC) Yr ?_;simp -implicitDefEqProofs only[go_sem];kernel_rfl
            ·rw[hb]at hLk HC;simp -implicitDefEqProofs only[go_sem,hkt];refine drawn Ys ?_;simp -implicitDefEqProofs only[go_sem,hkt,zac,zaa e.terms[k]];refine zaj (HV) (by simp -implicitDefEqProofs only[go_sem,hkt,zac,zaa e.terms[k]]) ?_;simp -implicitDefEqProofs only[go_sem,hkt,zac,zaa e.terms[k]];refine⟨Yt,?_⟩;refine zbk (HI) (by simp -implicitDefEqProofs only[go_sem,hi2]) ?_;simp -implicitDefEqProofs only[go_sem,hi2];refine⟨Ys,?_⟩;refine drawn Ys ?_;simp -implicitDefEqProofs only[go_sem,hp0,e0,zab q,hkt,zac,zaa e.terms[k]];refine zaj (HPt) Yr ?_;simp -implicitDefEqProofs only[go_sem];refine⟨Ys,?_⟩;refine drawn Ys ?_;simp -implicitDefEqProofs only[go_sem,hlt,zac,zae e.parts[k]];refine zbk (HSm) (by simp -implicitDefEqProofs only[go_sem,hlt,zac,zae e.parts[k]]) ?_;simp -implicitDefEqProofs only[go_sem,hlt,zac,zae e.parts[k]];refine zbk (HC) Yr ?_;simp -implicitDefEqProofs only[go_sem];refine⟨Ys,k+1,⟨Yt,zoi hT hLk⟩,Yt,zad ?_⟩;simp -implicitDefEqProofs only[go_sem];rw[zam Yt]
         ·rw[hg,hi]at hLk;rw[hi]at hi2;simp only[Jr,Q6,Ql]at hLk;rw[hv,zff hkL hLk];simp -implicitDefEqProofs only[go_sem,hkt];refine drawn Ys ?_;simp -implicitDefEqProofs only[go_sem,hkt,zac,zaa e.terms[k]];refine zaj (HV) (by simp -implicitDefEqProofs only[go_sem,hkt,zac,zaa e.terms[k]]) ?_;simp -implicitDefEqProofs only[go_sem,hkt,zac,zaa e.terms[k]];refine⟨Yt,?_⟩;refine zbk (HI) (by simp -implicitDefEqProofs only[go_sem,hi2]) ?_;simp -implicitDefEqProofs only[go_sem,hi2];kernel_rfl
       ·have hkt:¬k<e.terms.length:=by omega
        rw[hv,zst fun j hj=>hT j Yt hj];simp -implicitDefEqProofs only[go_sem,hkt]
    ·rw[show decide (e.terms.length=1)=false by simp[h1],Ql,Ql]at hv;rw[hv];have hn1:((e.terms.length:Int) != 1)=true:=by rw[bne_iff_ne];omega
     refine zak Tryz.call104 Tryz.func104 rfl Ys (zaz Ys) ?_;simp -implicitDefEqProofs only[go_sem,Tryz.results104];refine callF (HQ) (by simp -implicitDefEqProofs only[go_sem,hne]) ?_;simp -implicitDefEqProofs only[go_sem,hne];refine callF (HSt) (by simp -implicitDefEqProofs only[go_sem,hn1]) ?_;simp -implicitDefEqProofs only[go_sem,hn1]
  ·rw[show decide (e.terms.length=e.parts.length)=false by simp[hlen],Ql,Ql]at hv;rw[hv];have hne:((e.terms.length:Int) != (e.parts.length:Int))=true:=by rw[bne_iff_ne];omega
   simp only[exD,zae,fmD,zab e.form]at HQ⊢;refine zak Tryz.call104 Tryz.func104 rfl Ys (zaz Ys) ?_;simp -implicitDefEqProofs only[go_sem,Tryz.results104];refine callF (HQ) (by simp -implicitDefEqProofs only[go_sem,hne]) ?_;simp -implicitDefEqProofs only[go_sem,hne]
end
end Go.Proofs.YtliiapbmkcbfaaaGreat
