/-
  The walk over plain data, and contracts of functions of the program and of its laws.
  Conditions: those that each theorem names.
-/
import Derived.Test.YtpcmmboblbjpfaaGreatQP6
import Derived.Test.YtpcmmboblbjpfaaGreatQP4
import Derived.OrdersIn
import Derived.Laws.IdiomRangeMap
import Derived.Test.YtpcmmboblbjpfaaGreatQP5
import Derived.Lib.Walk
import Derived.Lib.SliceRun
import Derived.Lib.AppendZeros
import Derived.Shelf.Sort.Plain
import Derived.Shelf.Slices.In.SortNone
import Derived.Shelf.Slices.CompactS
namespace Go.Proofs.YtpcmmboblbjpfaaGreat
set_option linter.unusedSimpArgs false
set_option linter.unusedVariables false
set_option linter.unusedSectionVars false
set_option maxRecDepth 4000
open Go.RowKit
def zw4 (b:UInt8):Bool:=zk0 b||zik b||b==95
theorem zn7 (b:UInt8):FC Tryz.prog 219 [uD b] [bD (zw4 b)]:=by
 have HS:=zjn b
 unfold zw4 zik
 have e95:((b.toNat:Int)==95)=(b==95):=by
  rw[Kq,Kr,Kr,<-UInt8.toNat_inj];show _↔b.toNat=95
  omega
 cases h:zk0 b
 ·rw[h]at HS;by_cases h1:(65:Int)<=b.toNat
  ·by_cases h2:(b.toNat:Int)<=90
   ·have g1:((b.toNat:Int)>=65)=True:=by simp;omega
    have g2:((b.toNat:Int)<=90)=True:=by simp;omega
    refine zai Tryz.call219 Tryz.func219 rfl Yn (zau Yn) ?_;simp -implicitDefEqProofs only[go_sem,Tryz.results219];refine callF (HS) (by simp -implicitDefEqProofs only[go_sem,g1,g2]) ?_;simp -implicitDefEqProofs only[go_sem,g1,g2];rfl
   ·have g1:((b.toNat:Int)>=65)=True:=by simp;omega
    have g2:((b.toNat:Int)<=90)=False:=by simp;omega
    refine zai Tryz.call219 Tryz.func219 rfl Yn (zau Yn) ?_;simp -implicitDefEqProofs only[go_sem,Tryz.results219];refine callF (HS) (by simp -implicitDefEqProofs only[go_sem,g1,g2,e95]) ?_;simp -implicitDefEqProofs only[go_sem,g1,g2,e95];rfl
  ·have g1:((b.toNat:Int)>=65)=False:=by simp;omega
   refine zai Tryz.call219 Tryz.func219 rfl Yn (zau Yn) ?_;simp -implicitDefEqProofs only[go_sem,Tryz.results219];refine callF (HS) (by simp -implicitDefEqProofs only[go_sem,g1,e95]) ?_;simp -implicitDefEqProofs only[go_sem,g1,e95];rfl
 ·rw[h]at HS;refine zai Tryz.call219 Tryz.func219 rfl Yn (zau Yn) ?_;simp -implicitDefEqProofs only[go_sem,Tryz.results219];refine callF (HS) Ym ?_;simp -implicitDefEqProofs only[go_sem];rfl
abbrev qis (s:Str)(a e:Nat):Str:=(s.take e).drop a
structure Word (s:Str)(a e:Nat):Prop where
 lt:a<e
 le:e<=s.length
 sm:s.length<=4000
 all:∀i,a<=i->i<e->zw4 (s.getD i 0)=true
theorem zfq (s:Str)(a e:Nat)(h:Word s a e)(he:e=s.length\/e<s.length/\zw4 (s.getD e 0)=false/\((s.getD e 0).toNat:Int)≠40):FC Tryz.prog 165 [.one (.str s),iD a] [tmD (.mk (qis s a e) []),iD e]:=by
 obtain⟨h1,h2,h3,h4⟩:=h
 have hne:((e:Int)==(a:Int))=false:=by rw[Ql];omega
 simp only[tmD,zab]
 refine zai Tryz.call165 Tryz.func165 rfl Yn (zau Yn) ?_
 simp -implicitDefEqProofs only[go_sem,Tryz.results165]
 refine zaf (fun i:Nat=>hd [(0,vT (.str s)),(1,vI a),(4,.one (.bx 4 0)),(6,vI i)] [(4,[.t (.str []),.nl 2])] []) (fun i=>a<=i/\i<=e) (fun i=>e-i) a (zac ?_) ⟨Qz _,Yo⟩ ?_
 ·simp -implicitDefEqProofs only[go_sem]
 ·intro i ⟨i1,i2⟩;by_cases hlt:i<e
  ·have hls:i<s.length:=by omega
   have HW:=zn7 (s.getD i 0);rw[h4 i i1 hlt]at HW;have hwk:IntKind.i64.wrap ((i:Int)+1)=((i+1:Nat):Int):=zaw Yo;simp -implicitDefEqProofs only[go_sem,hls];refine callF (HW) Ym ?_;simp -implicitDefEqProofs only[go_sem];rw[hwk];exact⟨i+1,⟨Yo,hlt⟩,Yo,zac Ym⟩
  ·have e1:i=e:=by omega
   subst e1;rcases he with he|⟨k1,k2,k3⟩
   ·have hls:¬i<s.length:=by omega
    have heq:((i:Int)==(s.length:Int))=true:=by rw[Kr];omega
    simp -implicitDefEqProofs only[go_sem,hls,hne,heq,Tm.name,Tm.args];exact⟨i1,h2⟩
   ·have heq:((i:Int)==(s.length:Int))=false:=by rw[Ql];omega
    have h40:(((s.getD i 0).toNat:Int) != 40)=true:=by simpa using k3
    have HW:=zn7 (s.getD i 0);rw[k2]at HW;simp -implicitDefEqProofs only[go_sem,k1];refine callF (HW) (by simp -implicitDefEqProofs only[go_sem,k1,hne,heq,h40,Tm.name,Tm.args]) ?_;simp -implicitDefEqProofs only[go_sem,k1,hne,heq,h40,Tm.name,Tm.args];exact⟨i1,h2⟩
theorem zks (s:Str)(a:Nat)(E:Nat->Nat)(xs:List Tm)(h:Word s a (E 0))(h0:E 0<s.length)(h40:s.getD (E 0) 0=40)(hx:0<xs.length)(hxs:xs.length<=1000)(hE:∀k,k<=xs.length->E k<s.length)
  (H:∀k (hk:k<xs.length),FC Tryz.prog 165 [.one (.str s),iD ((E k+1:Nat):Int)] [tmD xs[k],iD (E (k+1))]) (hc:∀k,k<xs.length->s.getD (E (k+1)) 0=if k+1<xs.length then 44 else 41) :
  FC Tryz.prog 165 [.one (.str s),iD a] [tmD (.mk (qis s a (E 0)) xs),iD ((E xs.length+1:Nat):Int)]:=by
 obtain⟨h1,h2,h3,h4⟩:=h
 have hne:(((E 0:Nat):Int)==(a:Int))=false:=by rw[Ql];omega
 simp only[tmD,zab]
 refine zai Tryz.call165 Tryz.func165 rfl Yn (zau Yn) ?_
 simp -implicitDefEqProofs only[go_sem,Tryz.results165]
 refine zaf (fun i:Nat=>hd [(0,vT (.str s)),(1,vI a),(4,.one (.bx 4 0)),(6,vI i)] [(4,[.t (.str []),.nl 2])] []) (fun i=>a<=i/\i<=E 0) (fun i=>E 0-i) a (zac ?_) ⟨Qz _,Yo⟩ ?_
 ·simp -implicitDefEqProofs only[go_sem]
 ·intro i ⟨i1,i2⟩;have hls:i<s.length:=by omega
  have hwk:IntKind.i64.wrap ((i:Int)+1)=((i+1:Nat):Int):=zaw Yo;have HW:=zn7 (s.getD i 0);by_cases hlt:i<E 0
  ·rw[h4 i i1 hlt]at HW;simp -implicitDefEqProofs only[go_sem,hls];refine callF (HW) Ym ?_;simp -implicitDefEqProofs only[go_sem];rw[hwk];exact⟨i+1,⟨Yo,hlt⟩,Yo,zac Ym⟩
  ·have e1:i=E 0:=by omega
   rw[e1]at HW hls hwk⊢;rw[h40,show zw4 40=false from rfl]at HW;have heq:(((E 0:Nat):Int)==(s.length:Int))=false:=by rw[Ql];omega
   have h40':((((40:UInt8).toNat:Nat):Int) != 40)=false:=by decide
   simp -implicitDefEqProofs only[go_sem,hls];rw[h40];refine callF (HW) (by simp -implicitDefEqProofs only[go_sem,hls,hne,heq,h40,h40']) ?_;simp -implicitDefEqProofs only[go_sem,hls,hne,heq,h40,h40'];refine⟨⟨Yo,h2⟩,?_⟩;refine zaf (fun k:Nat=>hd [(0,vT (.str s)),(4,.one (.bx 4 0)),(6,vI (E k)),(7,.one (.bx 7 0))] [(4,[.t (.str []),.nl 2]),(7,[.t (.str (qis s a (E 0))),.ow 6000 k])] [(6000,⟨true,2,(xs.take k).map tmC,k,true⟩)]) (fun k=>k<xs.length) (fun k=>xs.length-k) 0 (zac ?_) hx ?_
   ·simp -implicitDefEqProofs only[go_sem]
   ·intro k hk;have HK:=H k hk;have hck:=hc k hk;have hlk:=hE (k+1) Yo;have hw1:IntKind.i64.wrap ((E k:Int)+1)=((E k+1:Nat):Int):=zaw (by have:=hE k Yo;omega);have hw2:IntKind.i64.wrap ((E (k+1):Int)+1)=((E (k+1)+1:Nat):Int):=zaw Yo;have heq:(((E (k+1):Nat):Int)==(s.length:Int))=false:=by rw[Ql];omega
    have hn0:(((E (k+1):Nat):Int)<0)=False:=by simp
    have hk4:k<=4294967295:=by omega
    simp only[tmD,zab xs[k]]at HK;by_cases hlast:k+1<xs.length
    ·rw[if_pos hlast]at hck;have n1:((((44:UInt8).toNat:Nat):Int) != 44)=false:=by decide
     have n2:((((44:UInt8).toNat:Nat):Int)==41)=false:=by decide
     simp -implicitDefEqProofs only[go_sem];rw[hw1];refine callF (HK) (by simp -implicitDefEqProofs only[go_sem,heq,hn0,hlk,hck,n1,n2]) ?_;simp -implicitDefEqProofs only[go_sem,heq,hn0,hlk,hck,n1,n2];refine zad Ym ?_;simp -implicitDefEqProofs only[go_sem];refine apD true (by simp -implicitDefEqProofs only[go_sem,ne_eq,Qa,Qs,Jy (Nat.le_of_lt hk),hk4,hlk,hck,n2]) ?_;simp -implicitDefEqProofs only[go_sem,ne_eq,Qa,Qs,Jy (Nat.le_of_lt hk),hk4,hlk,hck,n2];refine⟨k+1,hlast,Yo,zac ?_⟩;rw[Qk hk,Qy,Qg,Qh,zab xs[k]];simp -implicitDefEqProofs only[go_sem]
    ·rw[if_neg hlast]at hck;have e:k+1=xs.length:=by omega
     have n1:((((41:UInt8).toNat:Nat):Int) != 44)=true:=by decide
     have n3:((((41:UInt8).toNat:Nat):Int) != 41)=false:=by decide
     have n2:((((41:UInt8).toNat:Nat):Int)==41)=true:=by decide
     simp -implicitDefEqProofs only[go_sem];rw[hw1];refine callF (HK) (by simp -implicitDefEqProofs only[go_sem,heq,hn0,hlk,hck,n1,n2,n3]) ?_;simp -implicitDefEqProofs only[go_sem,heq,hn0,hlk,hck,n1,n2,n3];refine zad Ym ?_;simp -implicitDefEqProofs only[go_sem];refine apD true (by simp -implicitDefEqProofs only[go_sem,ne_eq,Qa,Qs,Jy (Nat.le_of_lt hk),hk4,hlk,hck,n2]) ?_;simp -implicitDefEqProofs only[go_sem,ne_eq,Qa,Qs,Jy (Nat.le_of_lt hk),hk4,hlk,hck,n2];have hrows:(xs.take k).map tmC++[[T.str xs[k].name,T.sl 2 (xs[k].args.map tmC)]]=xs.map tmC:=by
      rw[<-zab xs[k],show[tmC xs[k]]=[xs[k]].map tmC from rfl,<-Qy,<-Qk hk,e,Kx]
     rw[hrows,hw2,e];exact⟨rfl,rfl,rfl⟩
end Go.Proofs.YtpcmmboblbjpfaaGreat
namespace Go.Proofs.YtpcmmboblbjpfaaGreat
set_option linter.unusedSimpArgs false
set_option linter.unusedVariables false
set_option linter.unusedSectionVars false
set_option maxRecDepth 4000
open Go.RowKit
theorem qj3 (s:Str)(t:Tm)(hs:s.length<=4000)(hw:t.wt<=4000)(hg:t.good=true)(HR:FC Tryz.prog 165 [.one (.str s),iD 0] [tmD t,iD s.length]):FC Tryz.prog 90 [.one (.str s)] [tmD t,bD true]:=by
 have HG:=zns t Yo
 rw[hg]at HG
 have hne:((s.length:Int) != (s.length:Int))=false:=by simp
 simp only[tmD,zab t]at HR HG⊢
 refine zai Tryz.call90 Tryz.func90 rfl Yn (zau Yn) ?_
 simp -implicitDefEqProofs only[go_sem,Tryz.results90]
 refine callF (HR) (by simp -implicitDefEqProofs only[go_sem,hne]) ?_
 simp -implicitDefEqProofs only[go_sem,hne]
 refine callF (HG) Ym ?_
 simp -implicitDefEqProofs only[go_sem]
theorem qkw (s g:Str)(hs:s.length<=4000)(hg:g.length<=4000)(h:∀i:Nat,i+g.length<=s.length->qis s i (i+g.length)≠g):FC Tryz.prog 289 [.one (.str s),.one (.str g)] [iD (-1)]:=by
 refine zai Tryz.call289 Tryz.func289 rfl Yn (zau Yn) ?_
 simp -implicitDefEqProofs only[go_sem,Tryz.results289]
 refine zaf (fun i:Nat=>hd [(0,vT (.str s)),(1,vT (.str g)),(5,vI i)] [] []) (fun i=>i<=s.length+1) (fun i=>s.length+1-i) 0 (zac ?_) (Q3 _) ?_
 ·simp -implicitDefEqProofs only[go_sem]
 ·intro i hi;have hw1:IntKind.i64.wrap ((i:Int)+(g.length:Int))=((i+g.length:Nat):Int):=by rw[za1 Yo Yo];omega
  have hw2:IntKind.i64.wrap ((i:Int)+1)=((i+1:Nat):Int):=zaw Yo;by_cases hlt:i+g.length<=s.length
  ·have hle:(((i+g.length:Nat):Int)<=(s.length:Int))=True:=by simp;omega
   have hne:(qis s i (i+g.length)==g)=false:=by rw[Ql];exact h i hlt
   simp -implicitDefEqProofs only[go_sem,hw1,hle];refine⟨Yo,fun hh=>?_,fun _=>⟨i+1,Yo,Yo,zac ?_⟩⟩
   ·rw[hne]at hh;cases hh
   ·simp -implicitDefEqProofs only[go_sem];rw[hw2]
  ·have hle:(((i+g.length:Nat):Int)<=(s.length:Int))=False:=by simp;omega
   simp -implicitDefEqProofs only[go_sem,hw1,hle]
theorem zr6 (s g:Str)(HF:FC Tryz.prog 289 [.one (.str s),.one (.str g)] [iD (-1)]):FC Tryz.prog 275 [.one (.str s),.one (.str g)] [tmD (.mk [] []),bD false]:=by
 simp only[tmD,zab]
 refine zai Tryz.call275 Tryz.func275 rfl Yn (zau Yn) ?_
 simp -implicitDefEqProofs only[go_sem,Tryz.results275]
 refine callF (HF) (by simp -implicitDefEqProofs only[go_sem,Tm.name,Tm.args]) ?_
 simp -implicitDefEqProofs only[go_sem,Tm.name,Tm.args]
theorem zjc (s:Str)(t:Tm)(hs:s.length<=4000)(hw:t.wt<=4000)(hg:t.good=true)(hat:t.atomOk=true)(HR:FC Tryz.prog 165 [.one (.str s),iD 0] [tmD t,iD s.length])(h:∀i:Nat,i+3<=s.length->qis s i (i+3)≠[32,61,32]):FC Tryz.prog 123 [.one (.str s)] [tmD t]:=by
 have HE:=zr6 s [32,61,32] (qkw s [32,61,32] hs (by simp) h)
 have HW:=qj3 s t hs hw hg HR
 have HA:=zmo t Yo
 rw[hat]at HA
 simp only[tmD,zab t,zab (.mk [] [])]at HE HW HA
 have HL:FC Tryz.prog 237 [.one (.str s)] [tmD t,bD true]:=by
  simp only[tmD,zab t];refine zai Tryz.call237 Tryz.func237 rfl Yn (zau Yn) ?_;simp -implicitDefEqProofs only[go_sem,Tryz.results237];refine callF (HE) Ym ?_;simp -implicitDefEqProofs only[go_sem];refine callF (HW) Ym ?_;simp -implicitDefEqProofs only[go_sem];refine callF (HA) Ym ?_;simp -implicitDefEqProofs only[go_sem]
 simp only[tmD,zab t]at HL
 have h4:((s.length:Int)>4000)=False:=by simp;omega
 have HP:FC Tryz.prog 186 [.one (.str s)] [tmD t,bD true]:=by
  simp only[tmD,zab t];refine zai Tryz.call186 Tryz.func186 rfl Yn (zau Yn) ?_;simp -implicitDefEqProofs only[go_sem,Tryz.results186,h4];refine callF (HL) Ym ?_;simp -implicitDefEqProofs only[go_sem]
 simp only[tmD,zab t]at HP⊢
 refine zai Tryz.call123 Tryz.func123 rfl Yn (zau Yn) ?_
 simp -implicitDefEqProofs only[go_sem,Tryz.results123]
 refine callF (HP) Ym ?_
 simp -implicitDefEqProofs only[go_sem]
abbrev atL:List Str:=[[114],[112,40,97,41],[112,40,88,41],[113,40,88,44,98,41],[114],[112,40,97,41]]
theorem zf5 {s:Str}{a e:Nat}(h1:a<e)(h2:e<=s.length)(h3:s.length<=4000)(h4:(List.range e).all (fun i=>decide (i<a)||zw4 (s.getD i 0))=true):Word s a e:=by
 refine⟨h1,h2,h3,fun i hi he=>?_⟩
 rw[Qn]at h4
 have:=h4 i (K2.2 he)
 rw[K7,Qm]at this
 rcases this with h|h
 ·omega
 ·exact h
theorem znk {s:Str}(h:(List.range s.length).all (fun i=>decide (qis s i (i+3)≠[32,61,32]))=true):∀i:Nat,i+3<=s.length->qis s i (i+3)≠[32,61,32]:=fun i hi=>by
 rw[Qn]at h
 exact Jj (h i (K2.2 Yo))
theorem read_r:FC Tryz.prog 165 [.one (.str [114]),iD 0] [tmD (.mk [114] []),iD 1] :=
 zfq [114] 0 1 (zf5 Yo (by simp) (by simp) (by decide)) (Or.inl rfl)
theorem qhy (c:UInt8)(hc:c=97\/c=88):FC Tryz.prog 165 [.one (.str [112,40,c,41]),iD 0] [tmD (.mk [112] [.mk [c] []]),iD 4]:=by
 rcases hc with rfl|rfl
 ·have H1:FC Tryz.prog 165 [.one (.str [112,40,97,41]),iD 2] [tmD (.mk [97] []),iD 3]:=zfq _ 2 3 (zf5 Yo (by simp) (by simp) (by decide)) (Or.inr ⟨by simp,by decide,by decide⟩)
  exact zks [112,40,97,41] 0 (fun k=>if k=0 then 1 else 3) [.mk [97] []] (zf5 (by simp) (by simp) (by simp) (by decide)) (by simp) rfl (by simp) (by simp) (fun k hk=>by
    show(if k=0 then 1 else 3)<4
    split<;>omega)
   (fun k hk=>by
    have:k=0:=by simp at hk;omega
    subst this
    exact H1)
   (fun k hk=>by
    have:k=0:=by simp at hk;omega
    subst this
    rfl)
 ·have H1:FC Tryz.prog 165 [.one (.str [112,40,88,41]),iD 2] [tmD (.mk [88] []),iD 3]:=zfq _ 2 3 (zf5 Yo (by simp) (by simp) (by decide)) (Or.inr ⟨by simp,by decide,by decide⟩)
  exact zks [112,40,88,41] 0 (fun k=>if k=0 then 1 else 3) [.mk [88] []] (zf5 (by simp) (by simp) (by simp) (by decide)) (by simp) rfl (by simp) (by simp) (fun k hk=>by
    show(if k=0 then 1 else 3)<4
    split<;>omega)
   (fun k hk=>by
    have:k=0:=by simp at hk;omega
    subst this
    exact H1)
   (fun k hk=>by
    have:k=0:=by simp at hk;omega
    subst this
    rfl)
theorem read_q:FC Tryz.prog 165 [.one (.str [113,40,88,44,98,41]),iD 0] [tmD (.mk [113] [.mk [88] [],.mk [98] []]),iD 6]:=by
 have H1:FC Tryz.prog 165 [.one (.str [113,40,88,44,98,41]),iD 2] [tmD (.mk [88] []),iD 3] :=
  zfq _ 2 3 (zf5 Yo (by simp) (by simp) (by decide)) (Or.inr ⟨by simp,by decide,by decide⟩)
 have H2:FC Tryz.prog 165 [.one (.str [113,40,88,44,98,41]),iD 4] [tmD (.mk [98] []),iD 5] :=
  zfq _ 4 5 (zf5 Yo (by simp) (by simp) (by decide)) (Or.inr ⟨by simp,by decide,by decide⟩)
 exact zks [113,40,88,44,98,41] 0 (fun k=>if k=0 then 1 else if k=1 then 3 else 5) [.mk [88] [],.mk [98] []] (zf5 (by simp) (by simp) (by simp) (by decide)) (by simp) rfl (by simp) (by simp) (fun k hk=>by
   show(if k=0 then 1 else if k=1 then 3 else 5)<6
   split
   ·omega
   ·split<;>omega)
  (fun k hk=>by
   have:k=0\/k=1:=by simp at hk;omega
   rcases this with rfl|rfl
   ·exact H1
   ·exact H2)
  (fun k hk=>by
   have:k=0\/k=1:=by simp at hk;omega
   rcases this with rfl|rfl<;>rfl)
theorem zqe (s:Str)(h:s∈atL):∃t:Tm,t.wt<=20/\FC Tryz.prog 123 [.one (.str s)] [tmD t]:=by
 have hr:=zjc [114] (.mk [114] []) (by simp) (by decide) (by decide) (by decide) read_r (znk (by decide))
 have ha:=zjc [112,40,97,41] (.mk [112] [.mk [97] []]) (by simp) (by decide) (by decide) (by decide) (qhy 97 (Or.inl rfl)) (znk (by decide))
 have hX:=zjc [112,40,88,41] (.mk [112] [.mk [88] []]) (by simp) (by decide) (by decide) (by decide) (qhy 88 (Or.inr rfl)) (znk (by decide))
 have hq:=zjc [113,40,88,44,98,41] (.mk [113] [.mk [88] [],.mk [98] []]) (by simp) (by decide) (by decide) (by decide) read_q (znk (by decide))
 simp only[Qr,Kn,or_false]at h
 rcases h with rfl|rfl|rfl|rfl|rfl|rfl
 ·exact⟨_,by decide,hr⟩
 ·exact⟨_,by decide,ha⟩
 ·exact⟨_,by decide,hX⟩
 ·exact⟨_,by decide,hq⟩
 ·exact⟨_,by decide,hr⟩
 ·exact⟨_,by decide,ha⟩
end Go.Proofs.YtpcmmboblbjpfaaGreat
namespace Go.Proofs.YtpcmmboblbjpfaaGreat
set_option linter.unusedSimpArgs false
set_option linter.unusedVariables false
set_option linter.unusedSectionVars false
set_option maxRecDepth 4000
open Go.RowKit
theorem zll (code:List UInt8)(d:Int)(hd:d<=1):Drw code 73 [.p 0,.d false (iD d)] 2 (fun f:Fm=>(true,fmD f)) (fun f=>f.wt<=100):=fun q hq hp=>by
 have hd1:(d<=1)=True:=by simp[hd]
 obtain⟨q1,b,c1,p1,_,H1⟩:=zmf code 20 Yo q hq Yo
 cases b
 ·obtain⟨q2,s,c2,p2,o2,H2⟩:=ofD code atL (by simp) (by simp) q1 c1 Yo;obtain⟨a,ha,HA⟩:=zqe s o2;simp only[tmD,zab a]at HA;refine⟨q2,.mk 3 a [] [],c2,Yo,?_,?_⟩
  ·show(Fm.mk 3 a [] []).wt<=100
   rw[ze3];simp;omega
  refine zbp Tryz.call73 Tryz.func73 rfl Yn (by simp only[Qc,Qd,Tryz.ntmps73];omega) (by simp only[Tryz.ntmps73];omega) rfl rfl (by simp[zay,T.isPin,AF.ds,bxA]) (by simp[gFS,T.fs,T.flat,AF.ds,bxA]) rfl ?_;simp -implicitDefEqProofs only[go_sem,Tryz.results73,hd1];refine zag [0,4,1000000] [13] [1000000] [] (H1) (by decide) rfl Ym Ym Ym Ym ?_;simp -implicitDefEqProofs only[go_sem];refine zad Ym ?_;simp -implicitDefEqProofs only[go_sem];refine zag [4,1000000] [20,21] [1000000] [] (H2) (by decide) rfl Ym Ym Ym Ym ?_;simp -implicitDefEqProofs only[go_sem];refine callF (HA) Ym ?_;simp -implicitDefEqProofs only[go_sem];rw[show fmC (.mk 3 a [] [])=[.int .i64 3,.str a.name,.sl 2 (a.args.map tmC),.str [],.sl 5 []] from zaa _];left;simp -implicitDefEqProofs only[go_sem]
 ·obtain⟨q2,x,c2,p2,o2,H2⟩:=zeh code 2 Yo Yo q1 c1 Yo;have hw:IntKind.i64.wrap (1+x)=1+x:=za1 Yo Yo;refine⟨q2,.mk (1+x) (.mk [] []) [] [],c2,Yo,?_,?_⟩
  ·show(Fm.mk (1+x) (.mk [] []) [] []).wt<=100
   rw[ze3,zb4];simp
  refine zbp Tryz.call73 Tryz.func73 rfl Yn (by simp only[Qc,Qd,Tryz.ntmps73];omega) (by simp only[Tryz.ntmps73];omega) rfl rfl (by simp[zay,T.isPin,AF.ds,bxA]) (by simp[gFS,T.fs,T.flat,AF.ds,bxA]) rfl ?_;simp -implicitDefEqProofs only[go_sem,Tryz.results73,hd1];refine zag [0,4,1000000] [13] [1000000] [] (H1) (by decide) rfl Ym Ym Ym Ym ?_;simp -implicitDefEqProofs only[go_sem];refine zag [4,1000000] [15] [1000000] [] (H2) (by decide) rfl Ym Ym Ym Ym ?_;simp -implicitDefEqProofs only[go_sem];rw[hw];rw[show fmC (.mk (1+x) (.mk [] []) [] [])=[.int .i64 (1+x),.str [],.sl 2 [],.str [],.sl 5 []] from zaa _];left;simp -implicitDefEqProofs only[go_sem]
abbrev o7L:List Int:=[4,5,6,7,5,6,7]
abbrev o9L:List Int:=[4,5,6,7,5,6,7,8,9]
theorem qid {x:Int}(h:0<=x/\x<3):x.tdiv 3=0:=by rcases(show x=0\/x=1\/x=2 by omega)with rfl|rfl|rfl<;>rfl
section
variable (code:List UInt8)(k:Nat)(hk:k<=8)(q q1 q2 q3:Cu)(x o:Int)(hx:0<=x/\x<4)(H1:PC Tryz.prog 32 (za0 code q) [.p 0,.d false (iD 4)] (za0 code q1) [(true,bD false)])(H2:PC Tryz.prog 29 (za0 code q1) [.p 0,.d false (iD 4)] (za0 code q2) [(true,iD x)])(H3:PC Tryz.prog 54 (za0 code q2) [.p 0,.d true (.one (zo1 (if x=3 then o9L else o7L)))] (za0 code q3) [(true,iD o)])
include hk hx H1 H2 H3
set_option maxHeartbeats 1000000 in
theorem qan (q4:Cu)(f:Fm)(ho:o=4)(H4:PC Tryz.prog 73 (za0 code q3) [.p 0,.d false (iD ((k:Int)+1))] (za0 code q4) [(true,fmD f)]) :
  PC Tryz.prog 73 (za0 code q) [.p 0,.d false (iD ((k:Int)+2))] (za0 code q4) [(true,fmD (.mk 4 (.mk [] []) [] [f]))]:=by
 have hd1:((k:Int)+2<=1)=False:=by simp;omega
 have hw:IntKind.i64.wrap ((k:Int)+2-1)=(k:Int)+1:=by rw[za1 Yo Yo];omega
 subst ho
 simp only[fmD,zaa f]at H4
 by_cases h3:x=3
 ·subst h3;rw[if_pos rfl]at H3;have HH:IntKind.i64.wrap (7+IntKind.i64.wrap (2*IntKind.i64.wrap ((3:Int).tdiv 3)))=9:=by decide
  refine zbp Tryz.call73 Tryz.func73 rfl Yn (by simp only[Qc,Qd,Tryz.ntmps73];omega) (by simp only[Tryz.ntmps73];omega) rfl rfl (by simp[zay,T.isPin,AF.ds,bxA]) (by simp[gFS,T.fs,T.flat,AF.ds,bxA]) rfl ?_;simp -implicitDefEqProofs only[go_sem,Tryz.results73,hd1];refine zag [0,1,4,9,1000000] [10] [1000000] [] (H1) (by decide) rfl Ym Ym Ym Ym ?_;simp -implicitDefEqProofs only[go_sem];refine zad Ym ?_;simp -implicitDefEqProofs only[go_sem];refine zag [0,1,4,25,26,1000000] [27] [1000000] [] (H2) (by decide) rfl Ym Ym Ym Ym ?_;simp -implicitDefEqProofs only[go_sem];refine⟨by decide,?_⟩;rw[HH];refine cutF ?_;simp -implicitDefEqProofs only[go_sem,ctM];refine zag [0,1,4,1000000] [25,32] [1000000] [] (H3) (by decide) rfl Ym Ym Ym Ym ?_;simp -implicitDefEqProofs only[go_sem];rw[hw];refine zag [4,36,1000000] [37,39] [1000000] [] (H4) (by decide) rfl Ym Ym Ym Ym ?_;simp -implicitDefEqProofs only[go_sem];refine zad Ym ?_;simp -implicitDefEqProofs only[go_sem];rw[show fmC (.mk 4 (.mk [] []) [] [f])=[.int .i64 4,.str [],.sl 2 [],.str [],.sl 5 [fmC f]] from zaa _,zaa f];left;simp -implicitDefEqProofs only[go_sem]
 ·rw[if_neg h3]at H3;have hq:=qid (x:=x) Yo;have HH:IntKind.i64.wrap (7+IntKind.i64.wrap (2*IntKind.i64.wrap (x.tdiv 3)))=7:=by rw[hq];decide
  refine zbp Tryz.call73 Tryz.func73 rfl Yn (by simp only[Qc,Qd,Tryz.ntmps73];omega) (by simp only[Tryz.ntmps73];omega) rfl rfl (by simp[zay,T.isPin,AF.ds,bxA]) (by simp[gFS,T.fs,T.flat,AF.ds,bxA]) rfl ?_;simp -implicitDefEqProofs only[go_sem,Tryz.results73,hd1];refine zag [0,1,4,9,1000000] [10] [1000000] [] (H1) (by decide) rfl Ym Ym Ym Ym ?_;simp -implicitDefEqProofs only[go_sem];refine zad Ym ?_;simp -implicitDefEqProofs only[go_sem];refine zag [0,1,4,25,26,1000000] [27] [1000000] [] (H2) (by decide) rfl Ym Ym Ym Ym ?_;simp -implicitDefEqProofs only[go_sem];refine⟨by decide,?_⟩;rw[HH];refine cutF ?_;simp -implicitDefEqProofs only[go_sem,ctM];refine zag [0,1,4,1000000] [25,32] [1000000] [] (H3) (by decide) rfl Ym Ym Ym Ym ?_;simp -implicitDefEqProofs only[go_sem];rw[hw];refine zag [4,36,1000000] [37,39] [1000000] [] (H4) (by decide) rfl Ym Ym Ym Ym ?_;simp -implicitDefEqProofs only[go_sem];refine zad Ym ?_;simp -implicitDefEqProofs only[go_sem];rw[show fmC (.mk 4 (.mk [] []) [] [f])=[.int .i64 4,.str [],.sl 2 [],.str [],.sl 5 [fmC f]] from zaa _,zaa f];left;simp -implicitDefEqProofs only[go_sem]
set_option maxHeartbeats 1000000 in
theorem qbv (q4:Cu)(f:Fm)(ho:o=8\/o=9)(h3:x=3)(H4:PC Tryz.prog 73 (za0 code q3) [.p 0,.d false (iD ((k:Int)+1))] (za0 code q4) [(true,fmD f)]) :
  PC Tryz.prog 73 (za0 code q) [.p 0,.d false (iD ((k:Int)+2))] (za0 code q4) [(true,fmD (.mk o (.mk [] []) [88] [f]))]:=by
 have hd1:((k:Int)+2<=1)=False:=by simp;omega
 have hw:IntKind.i64.wrap ((k:Int)+2-1)=(k:Int)+1:=by rw[za1 Yo Yo];omega
 simp only[fmD,zaa f]at H4
 subst h3
 rw[if_pos rfl]at H3
 have HH:IntKind.i64.wrap (7+IntKind.i64.wrap (2*IntKind.i64.wrap ((3:Int).tdiv 3)))=9:=by decide
 rcases ho with rfl|rfl
 all_goals
  refine zbp Tryz.call73 Tryz.func73 rfl Yn (by simp only[Qc,Qd,Tryz.ntmps73];omega) (by simp only[Tryz.ntmps73];omega) rfl rfl (by simp[zay,T.isPin,AF.ds,bxA]) (by simp[gFS,T.fs,T.flat,AF.ds,bxA]) rfl ?_;simp -implicitDefEqProofs only[go_sem,Tryz.results73,hd1];refine zag [0,1,4,9,1000000] [10] [1000000] [] (H1) (by decide) rfl Ym Ym Ym Ym ?_;simp -implicitDefEqProofs only[go_sem];refine zad Ym ?_;simp -implicitDefEqProofs only[go_sem];refine zag [0,1,4,25,26,1000000] [27] [1000000] [] (H2) (by decide) rfl Ym Ym Ym Ym ?_;simp -implicitDefEqProofs only[go_sem];refine⟨by decide,?_⟩;rw[HH];refine cutF ?_;simp -implicitDefEqProofs only[go_sem,ctM];refine zag [0,1,4,1000000] [25,32] [1000000] [] (H3) (by decide) rfl Ym Ym Ym Ym ?_;simp -implicitDefEqProofs only[go_sem];rw[hw];refine zag [4,49,1000000] [50,52] [1000000] [] (H4) (by decide) rfl Ym Ym Ym Ym ?_;simp -implicitDefEqProofs only[go_sem];refine zad Ym ?_;simp -implicitDefEqProofs only[go_sem];rw[show fmC (.mk _ (.mk [] []) [88] [f])=[.int .i64 _,.str [],.sl 2 [],.str [88],.sl 5 [fmC f]] from zaa _,zaa f];left;simp -implicitDefEqProofs only[go_sem];rfl
set_option maxHeartbeats 1000000 in
theorem qa7 (q4 q5:Cu)(f g:Fm)(ho:o=5\/o=6\/o=7)(H4:PC Tryz.prog 73 (za0 code q3) [.p 0,.d false (iD ((k:Int)+1))] (za0 code q4) [(true,fmD f)])(H5:PC Tryz.prog 73 (za0 code q4) [.p 0,.d false (iD ((k:Int)+1))] (za0 code q5) [(true,fmD g)]) :
  PC Tryz.prog 73 (za0 code q) [.p 0,.d false (iD ((k:Int)+2))] (za0 code q5) [(true,fmD (.mk o (.mk [] []) [] [f,g]))]:=by
 have hd1:((k:Int)+2<=1)=False:=by simp;omega
 have hw:IntKind.i64.wrap ((k:Int)+2-1)=(k:Int)+1:=by rw[za1 Yo Yo];omega
 have e4:(o==4)=false:=by rw[Ql];omega
 have e8:(o==8)=false:=by rw[Ql];omega
 have e9:(o==9)=false:=by rw[Ql];omega
 simp only[fmD,zaa f]at H4
 simp only[fmD,zaa g]at H5
 by_cases h3:x=3
 ·subst h3;rw[if_pos rfl]at H3;have HH:IntKind.i64.wrap (7+IntKind.i64.wrap (2*IntKind.i64.wrap ((3:Int).tdiv 3)))=9:=by decide
  refine zbp Tryz.call73 Tryz.func73 rfl Yn (by simp only[Qc,Qd,Tryz.ntmps73];omega) (by simp only[Tryz.ntmps73];omega) rfl rfl (by simp[zay,T.isPin,AF.ds,bxA]) (by simp[gFS,T.fs,T.flat,AF.ds,bxA]) rfl ?_;simp -implicitDefEqProofs only[go_sem,Tryz.results73,hd1];refine zag [0,1,4,9,1000000] [10] [1000000] [] (H1) (by decide) rfl Ym Ym Ym Ym ?_;simp -implicitDefEqProofs only[go_sem];refine zad Ym ?_;simp -implicitDefEqProofs only[go_sem];refine zag [0,1,4,25,26,1000000] [27] [1000000] [] (H2) (by decide) rfl Ym Ym Ym Ym ?_;simp -implicitDefEqProofs only[go_sem];refine⟨by decide,?_⟩;rw[HH];refine cutF ?_;simp -implicitDefEqProofs only[go_sem,ctM];refine zag [0,1,4,1000000] [25,32] [1000000] [] (H3) (by decide) rfl (by simp -implicitDefEqProofs only[go_sem,e4,e8,e9]) (by simp -implicitDefEqProofs only[go_sem,e4,e8,e9]) (by simp -implicitDefEqProofs only[go_sem,e4,e8,e9]) (by simp -implicitDefEqProofs only[go_sem,e4,e8,e9]) ?_;simp -implicitDefEqProofs only[go_sem,e4,e8,e9];rw[hw];refine zag [0,1,4,56,1000000] [57,59] [1000000] [] (H4) (by decide) rfl Ym Ym Ym Ym ?_;simp -implicitDefEqProofs only[go_sem];rw[hw];refine zag [4,56,60,1000000] [61,63] [1000000] [] (H5) (by decide) rfl Ym Ym Ym Ym ?_;simp -implicitDefEqProofs only[go_sem];refine zad Ym ?_;simp -implicitDefEqProofs only[go_sem];rw[show fmC (.mk o (.mk [] []) [] [f,g])=[.int .i64 o,.str [],.sl 2 [],.str [],.sl 5 [fmC f,fmC g]] from zaa _,zaa f,zaa g];left;simp -implicitDefEqProofs only[go_sem]
 ·rw[if_neg h3]at H3;have hq:=qid (x:=x) Yo;have HH:IntKind.i64.wrap (7+IntKind.i64.wrap (2*IntKind.i64.wrap (x.tdiv 3)))=7:=by rw[hq];decide
  refine zbp Tryz.call73 Tryz.func73 rfl Yn (by simp only[Qc,Qd,Tryz.ntmps73];omega) (by simp only[Tryz.ntmps73];omega) rfl rfl (by simp[zay,T.isPin,AF.ds,bxA]) (by simp[gFS,T.fs,T.flat,AF.ds,bxA]) rfl ?_;simp -implicitDefEqProofs only[go_sem,Tryz.results73,hd1];refine zag [0,1,4,9,1000000] [10] [1000000] [] (H1) (by decide) rfl Ym Ym Ym Ym ?_;simp -implicitDefEqProofs only[go_sem];refine zad Ym ?_;simp -implicitDefEqProofs only[go_sem];refine zag [0,1,4,25,26,1000000] [27] [1000000] [] (H2) (by decide) rfl Ym Ym Ym Ym ?_;simp -implicitDefEqProofs only[go_sem];refine⟨by decide,?_⟩;rw[HH];refine cutF ?_;simp -implicitDefEqProofs only[go_sem,ctM];refine zag [0,1,4,1000000] [25,32] [1000000] [] (H3) (by decide) rfl (by simp -implicitDefEqProofs only[go_sem,e4,e8,e9]) (by simp -implicitDefEqProofs only[go_sem,e4,e8,e9]) (by simp -implicitDefEqProofs only[go_sem,e4,e8,e9]) (by simp -implicitDefEqProofs only[go_sem,e4,e8,e9]) ?_;simp -implicitDefEqProofs only[go_sem,e4,e8,e9];rw[hw];refine zag [0,1,4,56,1000000] [57,59] [1000000] [] (H4) (by decide) rfl Ym Ym Ym Ym ?_;simp -implicitDefEqProofs only[go_sem];rw[hw];refine zag [4,56,60,1000000] [61,63] [1000000] [] (H5) (by decide) rfl Ym Ym Ym Ym ?_;simp -implicitDefEqProofs only[go_sem];refine zad Ym ?_;simp -implicitDefEqProofs only[go_sem];rw[show fmC (.mk o (.mk [] []) [] [f,g])=[.int .i64 o,.str [],.sl 2 [],.str [],.sl 5 [fmC f,fmC g]] from zaa _,zaa f,zaa g];left;simp -implicitDefEqProofs only[go_sem]
end
theorem qbk (code:List UInt8)(k:Nat)(hk:k<=8)(q q0:Cu)(hq:q0.code=code)(hp:q0.pos+2<=1099511627776)(H0:PC Tryz.prog 32 (za0 code q) [.p 0,.d false (iD 4)] (za0 code q0) [(true,bD true)]) :
  ∃(q':Cu) (f:Fm),q'.code=code/\q'.pos<=q0.pos+2/\f.wt<=100/\PC Tryz.prog 73 (za0 code q) [.p 0,.d false (iD ((k:Int)+2))] (za0 code q') [(true,fmD f)]:=by
 have hd1:((k:Int)+2<=1)=False:=by simp;omega
 obtain⟨q1,b,c1,p1,_,H1⟩:=zmf code 20 Yo q0 hq Yo
 cases b
 ·obtain⟨q2,s,c2,p2,o2,H2⟩:=ofD code atL (by simp) (by simp) q1 c1 Yo;obtain⟨a,ha,HA⟩:=zqe s o2;simp only[tmD,zab a]at HA;refine⟨q2,.mk 3 a [] [],c2,Yo,?_,?_⟩
  ·show(Fm.mk 3 a [] []).wt<=100
   rw[ze3];simp;omega
  refine zbp Tryz.call73 Tryz.func73 rfl Yn (by simp only[Qc,Qd,Tryz.ntmps73];omega) (by simp only[Tryz.ntmps73];omega) rfl rfl (by simp[zay,T.isPin,AF.ds,bxA]) (by simp[gFS,T.fs,T.flat,AF.ds,bxA]) rfl ?_;simp -implicitDefEqProofs only[go_sem,Tryz.results73,hd1];refine zag [0,1,4,9,1000000] [10] [1000000] [] (H0) (by decide) rfl Ym Ym Ym Ym ?_;simp -implicitDefEqProofs only[go_sem];refine zag [0,4,1000000] [13] [1000000] [] (H1) (by decide) rfl Ym Ym Ym Ym ?_;simp -implicitDefEqProofs only[go_sem];refine zad Ym ?_;simp -implicitDefEqProofs only[go_sem];refine zag [4,1000000] [20,21] [1000000] [] (H2) (by decide) rfl Ym Ym Ym Ym ?_;simp -implicitDefEqProofs only[go_sem];refine callF (HA) Ym ?_;simp -implicitDefEqProofs only[go_sem];rw[show fmC (.mk 3 a [] [])=[.int .i64 3,.str a.name,.sl 2 (a.args.map tmC),.str [],.sl 5 []] from zaa _];left;simp -implicitDefEqProofs only[go_sem]
 ·obtain⟨q2,x,c2,p2,o2,H2⟩:=zeh code 2 Yo Yo q1 c1 Yo;have hw:IntKind.i64.wrap (1+x)=1+x:=za1 Yo Yo;refine⟨q2,.mk (1+x) (.mk [] []) [] [],c2,Yo,?_,?_⟩
  ·show(Fm.mk (1+x) (.mk [] []) [] []).wt<=100
   rw[ze3,zb4];simp
  refine zbp Tryz.call73 Tryz.func73 rfl Yn (by simp only[Qc,Qd,Tryz.ntmps73];omega) (by simp only[Tryz.ntmps73];omega) rfl rfl (by simp[zay,T.isPin,AF.ds,bxA]) (by simp[gFS,T.fs,T.flat,AF.ds,bxA]) rfl ?_;simp -implicitDefEqProofs only[go_sem,Tryz.results73,hd1];refine zag [0,1,4,9,1000000] [10] [1000000] [] (H0) (by decide) rfl Ym Ym Ym Ym ?_;simp -implicitDefEqProofs only[go_sem];refine zag [0,4,1000000] [13] [1000000] [] (H1) (by decide) rfl Ym Ym Ym Ym ?_;simp -implicitDefEqProofs only[go_sem];refine zag [4,1000000] [15] [1000000] [] (H2) (by decide) rfl Ym Ym Ym Ym ?_;simp -implicitDefEqProofs only[go_sem];rw[hw];rw[show fmC (.mk (1+x) (.mk [] []) [] [])=[.int .i64 (1+x),.str [],.sl 2 [],.str [],.sl 5 []] from zaa _];left;simp -implicitDefEqProofs only[go_sem]
theorem zlv (code:List UInt8)(k:Nat)(hk:k<=8)(c W:Nat)(H:Drw code 73 [.p 0,.d false (iD ((k:Int)+1))] c (fun f:Fm=>(true,fmD f)) (fun f=>f.wt<=W)) :
  Drw code 73 [.p 0,.d false (iD ((k:Int)+2))] (2*c+5) (fun f:Fm=>(true,fmD f)) (fun f=>f.wt<=2*W+100):=fun q hq hp=>by
 obtain⟨q1,b,c1,p1,_,H1⟩:=zmf code 4 Yo q hq Yo
 cases b
 ·obtain⟨q2,x,c2,p2,o2,H2⟩:=zeh code 4 Yo Yo q1 c1 Yo;obtain⟨q3,o,c3,p3,o3,H3⟩:=qh0 code (if x=3 then o9L else o7L) (by split<;>simp) (by split<;>simp) q2 c2 Yo;obtain⟨q4,f,c4,p4,o4,H4⟩:=H q3 c3 Yo;by_cases h4:o=4
  ·refine⟨q4,.mk 4 (.mk [] []) [] [f],c4,Yo,?_,qan code k hk q q1 q2 q3 x o o2 H1 H2 H3 q4 f h4 H4⟩;show(Fm.mk 4 (.mk [] []) [] [f]).wt<=2*W+100
   rw[ze3,zb4];simp;omega
  ·by_cases h8:o=8\/o=9
   ·have h3:x=3:=by
     refine Classical.byContradiction fun h=>?_;rw[if_neg h]at o3;simp at o3;omega
    refine⟨q4,.mk o (.mk [] []) [88] [f],c4,Yo,?_,qbv code k hk q q1 q2 q3 x o o2 H1 H2 H3 q4 f h8 h3 H4⟩;show(Fm.mk o (.mk [] []) [88] [f]).wt<=2*W+100
    rw[ze3,zb4];simp;omega
   ·have h567:o=5\/o=6\/o=7:=by
     split at o3<;>· simp at o3;omega
    obtain⟨q5,g,c5,p5,o5,H5⟩:=H q4 c4 Yo;refine⟨q5,.mk o (.mk [] []) [] [f,g],c5,Yo,?_,qa7 code k hk q q1 q2 q3 x o o2 H1 H2 H3 q4 q5 f g h567 H4 H5⟩;show(Fm.mk o (.mk [] []) [] [f,g]).wt<=2*W+100
    rw[ze3,zb4];simp;omega
 ·obtain⟨q2,f,c2,p2,o2,H2⟩:=qbk code k hk q q1 c1 Yo H1;exact⟨q2,f,c2,Yo,(show f.wt<=2*W+100 by omega),H2⟩
theorem zen (code:List UInt8)(d:Int)(hd:d<=3):Drw code 73 [.p 0,.d false (iD d)] 60 (fun f:Fm=>(true,fmD f)) (fun f=>f.wt<=1000):=by
 have g1:Drw code 73 [.p 0,.d false (iD (((0:Nat):Int)+1))] 2 (fun f:Fm=>(true,fmD f)) (fun f=>f.wt<=100):=zll code _ Yo
 have g2:=zlv code 0 Yo 2 100 g1
 have g3:=zlv code 1 Yo _ _ g2
 by_cases h1:d<=1
 ·exact(zll code d h1).mono Yo fun x h=>by omega
 ·rcases(show d=2\/d=3 by omega)with rfl|rfl
  ·exact g2.mono Yo fun x h=>by omega
  ·exact g3.mono Yo fun x h=>by omega
end Go.Proofs.YtpcmmboblbjpfaaGreat
namespace Go.Proofs.YtpcmmboblbjpfaaGreat
set_option linter.unusedSimpArgs false
set_option linter.unusedVariables false
set_option linter.unusedSectionVars false
set_option maxRecDepth 4000
open Go.RowKit
def zc3 (xs:List Fm):Bool:=decide (xs.length<=10)&&xs.all Fm.good
def Sq.good (s:Sq):Bool:=zc3 s.left&&zc3 s.right
theorem qla {s:Sq}{x:Fm}(h:x∈s.left\/x∈s.right):x.wt<=s.wt:=by
 have:=s.wt_eq
 unfold zdm at this
 rcases h with h|h
 ·have:=zb8 Fm.wt _ x h;omega
 ·have:=zb8 Fm.wt _ x h;omega
theorem zfk (s:Sq)(hs:s.wt<=1099511627776):FC Tryz.prog 23 [sqD s] [bD s.good]:=by
 have H1:∀x:Fm,x∈s.left\/x∈s.right->FC Tryz.prog 77 [fmD x] [bD (!x.good)]:=fun x hx=>by
  have hx:=Kk (qla hx) hs;simp only[fmD,zaa];refine zai Tryz.call77 Tryz.func77 rfl Yn (zau Yn) ?_;simp -implicitDefEqProofs only[go_sem,Tryz.results77];refine callF (zcm x hx) (by simp -implicitDefEqProofs only[go_sem,zaa]) ?_;simp -implicitDefEqProofs only[go_sem,zaa]
 simp only[sqD,zat]
 refine zai Tryz.call23 Tryz.func23 rfl Yn (zau Yn) ?_
 simp -implicitDefEqProofs only[go_sem,Tryz.results23]
 have hG:s.good=(zc3 s.left&&zc3 s.right):=rfl
 unfold zc3 at hG
 by_cases h1:s.left.length<=10
 ·by_cases h2:s.right.length<=10
  ·rw[show decide (s.left.length<=10)=true by simpa using h1,show decide (s.right.length<=10)=true by simpa using h2,Qv,Qv]at hG;refine⟨fun _=>⟨fun _=>?_,fun h=>by simp at h;omega⟩,fun h=>by simp at h;omega⟩;refine callF (zav s.left (fun x=>!x.good) _ [] fun x hx=>H1 x (Or.inl hx)) Ym ?_;simp -implicitDefEqProofs only[go_sem];rw[zdx];refine⟨fun h3=>?_,fun h3=>?_⟩
   ·refine callF (zav s.right (fun x=>!x.good) _ [] fun x hx=>H1 x (Or.inr hx)) Ym ?_;simp -implicitDefEqProofs only[go_sem];rw[zdx,hG,h3,Qv]
   ·rw[hG,h3,Qq]
  ·rw[show decide (s.right.length<=10)=false by simpa using h2,Qq,Ka]at hG;refine⟨fun _=>⟨fun h=>by simp at h;omega,fun _=>by rw[hG]⟩,fun h=>by simp at h;omega⟩
 ·rw[show decide (s.left.length<=10)=false by simpa using h1,Qq,Qq]at hG;refine⟨fun h=>by simp at h;omega,fun _=>by rw[hG]⟩
theorem zol (xs:List Fm)(hs:zdm xs<=1099511627776):FC Tryz.prog 84 [.one (fmS xs)] [bD (zc3 xs)]:=by
 have hW:zdm xs=xs.length+(xs.map Fm.wt).sum:=rfl
 have hG:zc3 xs=(decide (xs.length<=10)&&xs.all Fm.good):=rfl
 refine zai Tryz.call84 Tryz.func84 rfl Yn (zau Yn) ?_
 simp -implicitDefEqProofs only[go_sem,Tryz.results84]
 refine zaf (fun k:Nat=>hd [(0,vT (fmS xs)),(3,vI k)] [] []) (fun k=>k<=xs.length/\k<=11/\xs.all Fm.good=(xs.drop k).all Fm.good) (fun k=>xs.length-k) 0 (zac ?_) ?_ ?_
 ·simp -implicitDefEqProofs only[go_sem]
 ·exact⟨Yo,Yo,rfl⟩
 ·intro k ⟨hk,hk2,hr⟩;by_cases hlt:k<xs.length
  ·have hx:xs[k].wt<=1099511627776:=by have:=zb8 Fm.wt xs xs[k] (Qj hlt);omega
   by_cases h10:(k:Int)<=10
   ·have h10':k<=10:=by omega
    rw[Qx hlt,Ke]at hr;simp -implicitDefEqProofs only[go_sem,zae,hlt,h10,h10',zaa];refine callF (zul xs[k] hx) (by simp -implicitDefEqProofs only[go_sem,zaa]) ?_;simp -implicitDefEqProofs only[go_sem,zaa];refine⟨fun h=>?_,fun h=>⟨k+1,⟨hlt,Yo,?_⟩,Yo,zac (by simp -implicitDefEqProofs only[go_sem];rw[zaw Yo])⟩⟩
    ·rw[hG,hr,show xs[k].good=false by simpa using h,Qq,Ka]
    ·rw[hr,show xs[k].good=true by simpa using h];rfl
   ·have h10':¬k<=10:=by omega
    simp -implicitDefEqProofs only[go_sem,hlt,h10,h10'];rw[hG,show decide (xs.length<=10)=false by simp;omega,Qq];rw[show decide ((xs.length:Int)<=10)=false by simp;omega]
  ·simp -implicitDefEqProofs only[go_sem,hlt];rw[hG,hr,Q6 Yo,Jd,K4]
   congr 1
   rw[J5];omega
theorem zpl (s:Sq)(hs:s.wt<=1099511627776):FC Tryz.prog 25 [sqD s] [bD s.good]:=by
 have hW:=s.wt_eq
 have hG:s.good=(zc3 s.left&&zc3 s.right):=rfl
 simp only[sqD,zat]
 refine zai Tryz.call25 Tryz.func25 rfl Yn (zau Yn) ?_
 simp -implicitDefEqProofs only[go_sem,Tryz.results25]
 refine callF (zol s.left Yo) Ym ?_
 simp -implicitDefEqProofs only[go_sem]
 refine⟨fun h=>?_,fun h=>?_⟩
 ·refine callF (zol s.right Yo) Ym ?_;simp -implicitDefEqProofs only[go_sem];rw[hG,h,Qv]
 ·rw[hG,h,Qq]
end Go.Proofs.YtpcmmboblbjpfaaGreat
namespace Go.Proofs.YtpcmmboblbjpfaaGreat
set_option linter.unusedSimpArgs false
set_option linter.unusedVariables false
set_option linter.unusedSectionVars false
set_option maxRecDepth 4000
open Go.RowKit
def prc (a b:Fm):Fm:=.mk 7 (.mk [] []) [] [.mk 7 (.mk [] []) [] [.mk 7 (.mk [] []) [] [a,b],a],a]
theorem f2_c (o:Int)(a b:Fm):fmC (.mk o (.mk [] []) [] [a,b])=[.int .i64 o,.str [],.sl 2 [],.str [],.sl 5 [fmC a,fmC b]]:=zaa _
theorem prc_c (a b:Fm):fmC (prc a b)=[.int .i64 7,.str [],.sl 2 [],.str [],.sl 5 [[.int .i64 7,.str [],.sl 2 [],.str [],.sl 5 [[.int .i64 7,.str [],.sl 2 [],.str [],.sl 5 [fmC a,fmC b]],fmC a]],fmC a]]:=by
 unfold prc
 rw[f2_c,f2_c,f2_c]
theorem prc_wt (a b:Fm):(prc a b).wt=6+3*a.wt+b.wt:=by
 unfold prc
 rw[ze3,Qg,Qg,Qh,Q2,Q2,Ku,ze3,Qg,Qg,Qh,Q2,Q2,Ku,ze3,Qg,Qg,Qh,Q2,Q2,Ku,zb4]
 simp only[Qc,Qd,Qh,Ku];omega
def sqS0 (code:List UInt8)(q:Cu)(X:Nat->Fm)(m k:Nat):St:=hd [(0,.one (.bx 1000000 0)),(2,.one (.bx 2 0)),(3,.one (.bx 3 0)),(4,vI ((m:Int)-k)),(1000000,.one (.bx 1000000 0))] [(2,[.nl 5,.nl 5]),(3,[.ow 6000 k,.nl 5]),(1000000,[.rn (zeg code),.t (.int .i64 q.pos),.t (.int .u64 q.seed)])] [(6000,⟨true,5,(upX X k).map fmC,k,true⟩)]
def sqS1 (code:List UInt8)(q:Cu)(X Y:Nat->Fm)(n m k:Nat):St:=hd [(0,.one (.bx 1000000 0)),(2,.one (.bx 2 0)),(3,.one (.bx 3 0)),(5,vI ((m:Int)-k)),(1000000,.one (.bx 1000000 0))] [(2,[.nl 5,.nl 5]),(3,[.ow 6000 n,.ow 6001 k]),(1000000,[.rn (zeg code),.t (.int .i64 q.pos),.t (.int .u64 q.seed)])] [(6000,⟨true,5,(upX X n).map fmC,n,true⟩),(6001,⟨true,5,(upX Y k).map fmC,k,true⟩)]
structure SqOk (s:Sq):Prop where
 left:s.left.length<=3
 right:s.right.length<=4
 lw:∀f∈s.left,f.wt<=5000
 rw:∀f∈s.right,f.wt<=5000
set_option maxHeartbeats 1000000 in
theorem qg0 (code:List UInt8):Drw code 71 [.p 0] 1000 (fun s:Sq=>(true,sqD s)) SqOk:=fun q hq hp=>by
 obtain⟨q1,n1,c1,p1,o1,H1⟩:=zeh code 3 Yo Yo q hq Yo
 obtain⟨m,rfl⟩:∃m:Nat,n1=m:=⟨n1.toNat,Yo⟩
 obtain⟨Q,X,Q0,hQ,hX⟩:=zz3 zrF (zen code 3 Yo) m q1 c1 Yo
 have eQ:=hQ m (Qz _)
 have hm:m<=2:=by omega
 have hm1:m*60<=120:=by omega
 obtain⟨q2,n2,c2,p2,o2,H2⟩:=zeh code 3 Yo Yo (Q m) eQ.1 Yo
 obtain⟨n,rfl⟩:∃n:Nat,n2=n:=⟨n2.toNat,Yo⟩
 obtain⟨R,Y,R0,hR,hY⟩:=zz3 zrF (zen code 3 Yo) n q2 c2 Yo
 have eR:=hR n (Qz _)
 have hn:n<=2:=by omega
 have hn1:n*60<=120:=by omega
 obtain⟨q3,b1,c3,p3,_,H3⟩:=zmf code 3 Yo (R n) eR.1 Yo
 obtain⟨q4,F,c4,p4,o4,HB1⟩:∃(q4:Cu) (F:List Fm),q4.code=code/\q4.pos<=q3.pos+60/\(F.length<=1/\∀f∈F,f.wt<=1000)/\(b1=false/\q4=q3/\F=[]\/b1=true/\∃f,F=[f]/\PC Tryz.prog 73 (za0 code q3) [.p 0,.d false (iD 3)] (za0 code q4) [(true,fmD f)]):=by
  cases b1
  ·exact⟨q3,[],c3,Yo,by simp,Or.inl ⟨rfl,rfl,rfl⟩⟩
  ·obtain⟨q4,f,c4,p4,o4,H⟩:=zen code 3 Yo q3 c3 Yo;exact⟨q4,[f],c4,p4,by simpa using o4,Or.inr ⟨rfl,f,rfl,H⟩⟩
 obtain⟨q5,b2,c5,p5,_,H5⟩:=zmf code 4 Yo q4 c4 Yo
 obtain⟨q6,G,c6,p6,o6,HB2⟩:∃(q6:Cu) (G:List Fm),q6.code=code/\q6.pos<=q5.pos+120/\(G.length<=1/\∀f∈G,f.wt<=5000)/\(b2=false/\q6=q5/\G=[]\/b2=true/\∃(r:Cu) (a b:Fm),G=[prc a b]/\a.wt<=1000/\PC Tryz.prog 73 (za0 code q5) [.p 0,.d false (iD 2)] (za0 code r) [(true,fmD a)]/\PC Tryz.prog 73 (za0 code r) [.p 0,.d false (iD 2)] (za0 code q6) [(true,fmD b)]):=by
  cases b2
  ·exact⟨q5,[],c5,Yo,by simp,Or.inl ⟨rfl,rfl,rfl⟩⟩
  ·obtain⟨r,a,cr,pr,oa,HA⟩:=zen code 2 Yo q5 c5 Yo;obtain⟨q6,b,c6,p6,ob,HB⟩:=zen code 2 Yo r cr Yo;refine⟨q6,[prc a b],c6,Yo,⟨by simp,fun f hf=>?_⟩,Or.inr ⟨rfl,r,a,b,rfl,oa,HA,HB⟩⟩;rw[Qw.1 hf,prc_wt];omega
 refine⟨q6,⟨upX X m++F,upX Y n++F++G⟩,c6,Yo,⟨?_,?_,?_,?_⟩,?_⟩
 ·show(upX X m++F).length<=3
  rw[Qi,zbh];omega
 ·show(upX Y n++F++G).length<=4
  rw[Qi,Qi,zbh];omega
 ·intro f hf;rcases Qt.1 hf with h|h
  ·obtain⟨i,hi,rfl⟩:=zmv h;have:=(hX i hi).1;omega
  ·have:=o4.2 f h;omega
 ·intro f hf;rcases Qt.1 hf with h|h
  ·rcases Qt.1 h with h|h
   ·obtain⟨i,hi,rfl⟩:=zmv h;have:=(hY i hi).1;omega
   ·have:=o4.2 f h;omega
  ·exact o6.2 f h
 clear hQ hR
 simp only[sqD,zat]
 refine zbp Tryz.call71 Tryz.func71 rfl Yn (by simp only[Qc,Qd,Tryz.ntmps71];omega) (by simp only[Tryz.ntmps71];omega) rfl rfl (by simp[zay,T.isPin,AF.ds,bxA]) (by simp[gFS,T.fs,T.flat,AF.ds,bxA]) rfl ?_
 simp -implicitDefEqProofs only[go_sem,Tryz.results71]
 refine zag [0,2,3,1000000] [11] [1000000] [] (H1) (by decide) rfl Ym Ym Ym Ym ?_
 simp -implicitDefEqProofs only[go_sem]
 refine zaf (fun k=>sqS0 code (Q k) X m k) (fun k=>k<=m) (fun k=>m-k) 0 (zac ?_) (Q3 _) ?_
 ·rw[Q0];simp -implicitDefEqProofs only[go_sem,zi6,Qh];rw[Int.sub_zero]
 ·intro k hk;by_cases hlt:k<m
  ·have h0:((m:Int)-(k:Int)>0)=True:=by simp;omega
   have hwk:IntKind.i64.wrap ((m:Int)-(k:Int)-1)=(m:Int)-((k+1:Nat):Int):=by rw[za1 Yo Yo];omega
   have HX:=(hX k hlt).2;have hk4:k<=4294967295:=by omega
   simp only[fmD,zaa (X k)]at HX;show ex _ _ _ _ (hd _ _ _)
   simp -implicitDefEqProofs only[go_sem,h0];refine drawn Yn ?_;simp -implicitDefEqProofs only[go_sem];refine zdr [1000000] (HX) (by decide) Ym Ym ?_;simp -implicitDefEqProofs only[go_sem];refine za2 Ym ?_;simp -implicitDefEqProofs only[go_sem];refine zgr true (by simp -implicitDefEqProofs only[go_sem,ne_eq,Qa,zbh,hk4]) ?_;simp -implicitDefEqProofs only[go_sem,ne_eq,Qa,zbh,hk4];refine⟨Yn,k+1,Yo,Yo,zac ?_⟩;rw[zjb,Qy,Qg,Qh,zaa (X k)];simp -implicitDefEqProofs only[go_sem];rw[hwk]
  ·have h0:((m:Int)-(k:Int)>0)=False:=by simp;omega
   have e:k=m:=by omega
   subst e;show ex _ _ _ _ (hd _ _ _)
   simp -implicitDefEqProofs only[go_sem,h0];refine zag [0,2,3,1000000] [24] [1000000] [] (H2) (by decide) rfl Ym Ym Ym Ym ?_;simp -implicitDefEqProofs only[go_sem];refine zaf (fun j=>sqS1 code (R j) X Y k n j) (fun j=>j<=n) (fun j=>n-j) 0 (zac ?_) (Q3 _) ?_
   ·rw[R0];simp -implicitDefEqProofs only[go_sem,zi6,Qh];rw[Int.sub_zero]
   ·intro j hj;by_cases hlt2:j<n
    ·have h1:((n:Int)-(j:Int)>0)=True:=by simp;omega
     have hwk:IntKind.i64.wrap ((n:Int)-(j:Int)-1)=(n:Int)-((j+1:Nat):Int):=by rw[za1 Yo Yo];omega
     have HY:=(hY j hlt2).2;have hk4:j<=4294967295:=by omega
     simp only[fmD,zaa (Y j)]at HY;show ex _ _ _ _ (hd _ _ _)
     simp -implicitDefEqProofs only[go_sem,h1];refine drawn Yn ?_;simp -implicitDefEqProofs only[go_sem];refine zdr [1000000] (HY) (by decide) Ym Ym ?_;simp -implicitDefEqProofs only[go_sem];refine za2 Ym ?_;simp -implicitDefEqProofs only[go_sem];refine zgr true (by simp -implicitDefEqProofs only[go_sem,ne_eq,Qa,zbh,hk4]) ?_;simp -implicitDefEqProofs only[go_sem,ne_eq,Qa,zbh,hk4];refine⟨Yn,j+1,Yo,Yo,zac ?_⟩;rw[zjb,Qy,Qg,Qh,zaa (Y j)];simp -implicitDefEqProofs only[go_sem];rw[hwk]
    ·have h1:((n:Int)-(j:Int)>0)=False:=by simp;omega
     have e:j=n:=by omega
     subst e;show ex _ _ _ _ (hd _ _ _)
     simp -implicitDefEqProofs only[go_sem,h1];have hj4:j<=4294967295:=by omega
     have hk4:k<=4294967295:=by omega
     rcases HB1 with⟨rfl,rfl,rfl⟩|⟨rfl,f,rfl,HF⟩
     ·refine zag [0,2,3,1000000] [37] [1000000] [] (H3) (by decide) rfl Ym Ym Ym Ym ?_;simp -implicitDefEqProofs only[go_sem];rcases HB2 with⟨rfl,rfl,rfl⟩|⟨rfl,r,a,b,rfl,oa,HA,HB⟩
      ·refine zag [0,2,3,1000000] [54] [1000000] [] (H5) (by decide) rfl Ym Ym Ym Ym ?_;simp -implicitDefEqProofs only[go_sem]
      ·have HO:=zic a Yo;simp only[fmD,zaa a]at HA HO;simp only[fmD,zaa b]at HB;refine zag [0,2,3,1000000] [54] [1000000] [] (H5) (by decide) rfl Ym Ym Ym Ym ?_;simp -implicitDefEqProofs only[go_sem];refine zag [0,2,3,1000000] [56] [1000000] [] (HA) (by decide) rfl Ym Ym Ym Ym ?_;simp -implicitDefEqProofs only[go_sem];refine zag [2,3,57,1000000] [58] [1000000] [] (HB) (by decide) rfl Ym Ym Ym Ym ?_;simp -implicitDefEqProofs only[go_sem];refine drawn Yn ?_;simp -implicitDefEqProofs only[go_sem];refine zal (HO) Ym ?_;simp -implicitDefEqProofs only[go_sem];refine za2 Ym ?_;simp -implicitDefEqProofs only[go_sem];refine⟨Yn,?_⟩;refine drawn Yn ?_;simp -implicitDefEqProofs only[go_sem];refine zal (HO) Ym ?_;simp -implicitDefEqProofs only[go_sem];refine za2 Ym ?_;simp -implicitDefEqProofs only[go_sem];refine za2 Ym ?_;simp -implicitDefEqProofs only[go_sem];refine za2 Ym ?_;simp -implicitDefEqProofs only[go_sem];refine zgr true (by simp -implicitDefEqProofs only[go_sem,ne_eq,Qa,Qi,Qc,Qd,zbh,hj4]) ?_;simp -implicitDefEqProofs only[go_sem,ne_eq,Qa,Qi,Qc,Qd,zbh,hj4];refine⟨Yn,?_⟩;left;left;simp only[Qy,Qg,Qh,prc_c,zaa a,zaa b]
     ·have HO1:=zic f (by have:=o4.2 f (by simp);omega);simp only[fmD,zaa f]at HF HO1;have hj5:j<=4294967294:=by omega
      refine zag [0,2,3,1000000] [37] [1000000] [] (H3) (by decide) rfl Ym Ym Ym Ym ?_;simp -implicitDefEqProofs only[go_sem];refine zag [0,2,3,1000000] [39] [1000000] [] (HF) (by decide) rfl Ym Ym Ym Ym ?_;simp -implicitDefEqProofs only[go_sem];refine drawn Yn ?_;simp -implicitDefEqProofs only[go_sem];refine zal (HO1) Ym ?_;simp -implicitDefEqProofs only[go_sem];refine za2 Ym ?_;simp -implicitDefEqProofs only[go_sem];refine zgr true (by simp -implicitDefEqProofs only[go_sem,ne_eq,Qa,zbh,hk4]) ?_;simp -implicitDefEqProofs only[go_sem,ne_eq,Qa,zbh,hk4];refine⟨Yn,?_⟩;refine zad Ym ?_;simp -implicitDefEqProofs only[go_sem];refine apD true (by simp -implicitDefEqProofs only[go_sem,ne_eq,Qa,zbh,hj4]) ?_;simp -implicitDefEqProofs only[go_sem,ne_eq,Qa,zbh,hj4];rcases HB2 with⟨rfl,rfl,rfl⟩|⟨rfl,r,a,b,rfl,oa,HA,HB⟩
      ·refine zag [0,2,3,1000000] [54] [1000000] [] (H5) (by decide) rfl Ym Ym Ym Ym ?_;simp -implicitDefEqProofs only[go_sem];left;refine⟨Or.inl ?_,Or.inl ?_⟩
       ·rw[Qy,Qg,Qh,zaa f]
       ·rw[Qy,Qg,Qh,zaa f]
      ·have HO:=zic a Yo;simp only[fmD,zaa a]at HA HO;simp only[fmD,zaa b]at HB;refine zag [0,2,3,1000000] [54] [1000000] [] (H5) (by decide) rfl Ym Ym Ym Ym ?_;simp -implicitDefEqProofs only[go_sem];refine zag [0,2,3,1000000] [56] [1000000] [] (HA) (by decide) rfl Ym Ym Ym Ym ?_;simp -implicitDefEqProofs only[go_sem];refine zag [2,3,57,1000000] [58] [1000000] [] (HB) (by decide) rfl Ym Ym Ym Ym ?_;simp -implicitDefEqProofs only[go_sem];refine drawn Yn ?_;simp -implicitDefEqProofs only[go_sem];refine zal (HO) Ym ?_;simp -implicitDefEqProofs only[go_sem];refine za2 Ym ?_;simp -implicitDefEqProofs only[go_sem];refine⟨Yn,?_⟩;refine drawn Yn ?_;simp -implicitDefEqProofs only[go_sem];refine zal (HO) Ym ?_;simp -implicitDefEqProofs only[go_sem];refine za2 Ym ?_;simp -implicitDefEqProofs only[go_sem];refine za2 Ym ?_;simp -implicitDefEqProofs only[go_sem];refine za2 Ym ?_;simp -implicitDefEqProofs only[go_sem];refine zgr true (by simp -implicitDefEqProofs only[go_sem,ne_eq,Qa,Qi,Qc,Qd,zbh,hj5,hj4]) ?_;simp -implicitDefEqProofs only[go_sem,ne_eq,Qa,Qi,Qc,Qd,zbh,hj5,hj4];refine⟨Yn,?_⟩;left;refine⟨Or.inl ?_,Or.inl ?_⟩
       ·rw[Qy,Qg,Qh,zaa f]
       ·simp only[Qy,Qg,Qh,prc_c,zaa f,zaa a,zaa b]
end Go.Proofs.YtpcmmboblbjpfaaGreat
namespace Go.Proofs.YtpcmmboblbjpfaaGreat
set_option linter.unusedSimpArgs false
set_option linter.unusedVariables false
set_option linter.unusedSectionVars false
set_option maxRecDepth 4000
open Go.RowKit
theorem zqm (code:List UInt8)(q q1 q2:Cu)(f:Fm)(x:Int)(hx:6<=x\/x=5/\f.parts=[])(H1:PC Tryz.prog 141 (za0 code q) [.p 0] (za0 code q1) [(true,fmD f)])(H2:PC Tryz.prog 29 (za0 code q1) [.p 0,.d false (iD 24)] (za0 code q2) [(true,iD x)]) :
  PC Tryz.prog 72 (za0 code q) [.p 0] (za0 code q2) [(true,fmD f)]:=by
 have e0:(x==0)=false:=by rw[Ql];omega
 have e1:(x==1)=false:=by rw[Ql];omega
 have e2:(x==2)=false:=by rw[Ql];omega
 have e3:(x==3)=false:=by rw[Ql];omega
 have e4:(x==4)=false:=by rw[Ql];omega
 simp only[fmD,zaa f]at H1⊢
 rcases hx with hx|⟨hx,ha⟩
 ·have e5:(x==5)=false:=by rw[Ql];omega
  refine zbp Tryz.call72 Tryz.func72 rfl Yn (by simp only[Qc,Qd,Tryz.ntmps72];omega) (by simp only[Tryz.ntmps72];omega) rfl rfl (by simp[zay,T.isPin,AF.ds,bxA]) (by simp[gFS,T.fs,T.flat,AF.ds,bxA]) rfl ?_;simp -implicitDefEqProofs only[go_sem,Tryz.results72];refine zag [0,2,1000000] [5] [1000000] [] (H1) (by decide) rfl Ym Ym Ym Ym ?_;simp -implicitDefEqProofs only[go_sem];refine zag [0,2,3,1000000] [7] [1000000] [] (H2) (by decide) rfl (by simp -implicitDefEqProofs only[go_sem,e0,e1,e2,e3,e4,e5]) (by simp -implicitDefEqProofs only[go_sem,e0,e1,e2,e3,e4,e5]) (by simp -implicitDefEqProofs only[go_sem,e0,e1,e2,e3,e4,e5]) (by simp -implicitDefEqProofs only[go_sem,e0,e1,e2,e3,e4,e5]) ?_;simp -implicitDefEqProofs only[go_sem,e0,e1,e2,e3,e4,e5]
 ·subst hx;rw[ha]at H1⊢;refine zbp Tryz.call72 Tryz.func72 rfl Yn (by simp only[Qc,Qd,Tryz.ntmps72];omega) (by simp only[Tryz.ntmps72];omega) rfl rfl (by simp[zay,T.isPin,AF.ds,bxA]) (by simp[gFS,T.fs,T.flat,AF.ds,bxA]) rfl ?_;simp -implicitDefEqProofs only[go_sem,Tryz.results72];refine zag [0,2,1000000] [5] [1000000] [] (H1) (by decide) rfl Ym Ym Ym Ym ?_;simp -implicitDefEqProofs only[go_sem];refine zag [0,2,3,1000000] [7] [1000000] [] (H2) (by decide) rfl (by simp -implicitDefEqProofs only[go_sem,Qd,Qh]) (by simp -implicitDefEqProofs only[go_sem,Qd,Qh]) (by simp -implicitDefEqProofs only[go_sem,Qd,Qh]) (by simp -implicitDefEqProofs only[go_sem,Qd,Qh]) ?_;simp -implicitDefEqProofs only[go_sem,Qd,Qh]
theorem qi7 (code:List UInt8)(q q1 q2 q3:Cu)(f:Fm)(x:Int)(H1:PC Tryz.prog 141 (za0 code q) [.p 0] (za0 code q1) [(true,fmD f)])(H2:PC Tryz.prog 29 (za0 code q1) [.p 0,.d false (iD 24)] (za0 code q2) [(true,iD 0)])
  (H3:PC Tryz.prog 29 (za0 code q2) [.p 0,.d false (iD 11)] (za0 code q3) [(true,iD x)]) :
  PC Tryz.prog 72 (za0 code q) [.p 0] (za0 code q3) [(true,fmD (.mk x f.atom f.var f.parts))]:=by
 simp only[fmD,zaa f]at H1
 unfold fmD
 rw[show fmC (.mk x f.atom f.var f.parts)=[.int .i64 x,.str f.atom.name,.sl 2 (f.atom.args.map tmC),.str f.var,.sl 5 (f.parts.map fmC)] from zaa _]
 refine zbp Tryz.call72 Tryz.func72 rfl Yn (by simp only[Qc,Qd,Tryz.ntmps72];omega) (by simp only[Tryz.ntmps72];omega) rfl rfl (by simp[zay,T.isPin,AF.ds,bxA]) (by simp[gFS,T.fs,T.flat,AF.ds,bxA]) rfl ?_
 simp -implicitDefEqProofs only[go_sem,Tryz.results72]
 refine zag [0,2,1000000] [5] [1000000] [] (H1) (by decide) rfl Ym Ym Ym Ym ?_
 simp -implicitDefEqProofs only[go_sem]
 refine zag [0,2,3,1000000] [7] [1000000] [] (H2) (by decide) rfl Ym Ym Ym Ym ?_
 simp -implicitDefEqProofs only[go_sem]
 refine zag [2,3,1000000] [11] [1000000] [] (H3) (by decide) rfl Ym Ym Ym Ym ?_
 simp -implicitDefEqProofs only[go_sem]
abbrev vaL:List Str:=[[88],[97],[]]
theorem qf0 (code:List UInt8)(q q1 q2 q3:Cu)(f:Fm)(s:Str)(H1:PC Tryz.prog 141 (za0 code q) [.p 0] (za0 code q1) [(true,fmD f)])(H2:PC Tryz.prog 29 (za0 code q1) [.p 0,.d false (iD 24)] (za0 code q2) [(true,iD 1)])
  (H3:PC Tryz.prog 31 (za0 code q2) [.p 0,.d true (.one (zb5 vaL))] (za0 code q3) [(true,.one (.str s))]) :
  PC Tryz.prog 72 (za0 code q) [.p 0] (za0 code q3) [(true,fmD (.mk f.op f.atom s f.parts))]:=by
 simp only[fmD,zaa f]at H1
 unfold fmD
 rw[show fmC (.mk f.op f.atom s f.parts)=[.int .i64 f.op,.str f.atom.name,.sl 2 (f.atom.args.map tmC),.str s,.sl 5 (f.parts.map fmC)] from zaa _]
 refine zbp Tryz.call72 Tryz.func72 rfl Yn (by simp only[Qc,Qd,Tryz.ntmps72];omega) (by simp only[Tryz.ntmps72];omega) rfl rfl (by simp[zay,T.isPin,AF.ds,bxA]) (by simp[gFS,T.fs,T.flat,AF.ds,bxA]) rfl ?_
 simp -implicitDefEqProofs only[go_sem,Tryz.results72]
 refine zag [0,2,1000000] [5] [1000000] [] (H1) (by decide) rfl Ym Ym Ym Ym ?_
 simp -implicitDefEqProofs only[go_sem]
 refine zag [0,2,3,1000000] [7] [1000000] [] (H2) (by decide) rfl Ym Ym Ym Ym ?_
 simp -implicitDefEqProofs only[go_sem]
 refine zad Ym ?_
 simp -implicitDefEqProofs only[go_sem]
 refine zag [2,3,1000000] [16,17] [1000000] [] (H3) (by decide) rfl Ym Ym Ym Ym ?_
 simp -implicitDefEqProofs only[go_sem]
theorem qay (code:List UInt8)(q q1 q2 q3:Cu)(f:Fm)(u:Tm)(H1:PC Tryz.prog 141 (za0 code q) [.p 0] (za0 code q1) [(true,fmD f)])(H2:PC Tryz.prog 29 (za0 code q1) [.p 0,.d false (iD 24)] (za0 code q2) [(true,iD 2)])
  (H3:PC Tryz.prog 33 (za0 code q2) [.p 0] (za0 code q3) [(true,tmD u)]) :
  PC Tryz.prog 72 (za0 code q) [.p 0] (za0 code q3) [(true,fmD (.mk f.op u f.var f.parts))]:=by
 simp only[fmD,zaa f]at H1
 simp only[tmD,zab u]at H3
 unfold fmD
 rw[show fmC (.mk f.op u f.var f.parts)=[.int .i64 f.op,.str u.name,.sl 2 (u.args.map tmC),.str f.var,.sl 5 (f.parts.map fmC)] from zaa _]
 refine zbp Tryz.call72 Tryz.func72 rfl Yn (by simp only[Qc,Qd,Tryz.ntmps72];omega) (by simp only[Tryz.ntmps72];omega) rfl rfl (by simp[zay,T.isPin,AF.ds,bxA]) (by simp[gFS,T.fs,T.flat,AF.ds,bxA]) rfl ?_
 simp -implicitDefEqProofs only[go_sem,Tryz.results72]
 refine zag [0,2,1000000] [5] [1000000] [] (H1) (by decide) rfl Ym Ym Ym Ym ?_
 simp -implicitDefEqProofs only[go_sem]
 refine zag [0,2,3,1000000] [7] [1000000] [] (H2) (by decide) rfl Ym Ym Ym Ym ?_
 simp -implicitDefEqProofs only[go_sem]
 refine zag [2,3,1000000] [22] [1000000] [] (H3) (by decide) rfl Ym Ym Ym Ym ?_
 simp -implicitDefEqProofs only[go_sem]
theorem zz7 (code:List UInt8)(q q1 q2 q3:Cu)(f g:Fm)(hl:f.parts.length<=100000)(H1:PC Tryz.prog 141 (za0 code q) [.p 0] (za0 code q1) [(true,fmD f)])(H2:PC Tryz.prog 29 (za0 code q1) [.p 0,.d false (iD 24)] (za0 code q2) [(true,iD 3)])
  (H3:PC Tryz.prog 141 (za0 code q2) [.p 0] (za0 code q3) [(true,fmD g)]) :
  PC Tryz.prog 72 (za0 code q) [.p 0] (za0 code q3) [(true,fmD (.mk f.op f.atom f.var (f.parts++[g])))]:=by
 simp only[fmD,zaa f]at H1
 simp only[fmD,zaa g]at H3
 unfold fmD
 rw[show fmC (.mk f.op f.atom f.var (f.parts++[g]))=[.int .i64 f.op,.str f.atom.name,.sl 2 (f.atom.args.map tmC),.str f.var,.sl 5 ((f.parts++[g]).map fmC)] from zaa _]
 have hl2:f.parts.length<=4294967295:=by omega
 refine zbp Tryz.call72 Tryz.func72 rfl Yn (by simp only[Qc,Qd,Tryz.ntmps72];omega) (by simp only[Tryz.ntmps72];omega) rfl rfl (by simp[zay,T.isPin,AF.ds,bxA]) (by simp[gFS,T.fs,T.flat,AF.ds,bxA]) rfl ?_
 simp -implicitDefEqProofs only[go_sem,Tryz.results72]
 refine zag [0,2,1000000] [5] [1000000] [] (H1) (by decide) rfl Ym Ym Ym Ym ?_
 simp -implicitDefEqProofs only[go_sem]
 refine zag [0,2,3,1000000] [7] [1000000] [] (H2) (by decide) rfl Ym Ym Ym Ym ?_
 simp -implicitDefEqProofs only[go_sem]
 refine drawn Yn ?_
 simp -implicitDefEqProofs only[go_sem]
 refine zdr [1000000] (H3) (by decide) Ym Ym ?_
 simp -implicitDefEqProofs only[go_sem]
 refine za2 Ym ?_
 simp -implicitDefEqProofs only[go_sem]
 refine zgr true (by simp -implicitDefEqProofs only[go_sem,ne_eq,Qa,Qc,Qd,hl2]) ?_
 simp -implicitDefEqProofs only[go_sem,ne_eq,Qa,Qc,Qd,hl2]
 refine⟨Yn,?_⟩
 left
 rw[Qy,Qg,Qh,zaa g]
 simp -implicitDefEqProofs only[go_sem]
end Go.Proofs.YtpcmmboblbjpfaaGreat
namespace Go.Proofs.YtpcmmboblbjpfaaGreat
set_option linter.unusedSimpArgs false
set_option linter.unusedVariables false
set_option linter.unusedSectionVars false
set_option maxRecDepth 4000
open Go.RowKit
theorem zyk (code:List UInt8)(q q1 q2 q3:Cu)(f p:Fm)(ps:List Fm)(x:Int)(hf:f.parts=p::ps)(H1:PC Tryz.prog 141 (za0 code q) [.p 0] (za0 code q1) [(true,fmD f)])(H2:PC Tryz.prog 29 (za0 code q1) [.p 0,.d false (iD 24)] (za0 code q2) [(true,iD 5)])
  (H3:PC Tryz.prog 29 (za0 code q2) [.p 0,.d false (iD 11)] (za0 code q3) [(true,iD x)]) :
  PC Tryz.prog 72 (za0 code q) [.p 0] (za0 code q3) [(true,fmD (.mk f.op f.atom f.var (.mk x p.atom p.var p.parts::ps)))]:=by
 have hgt:decide (0<((ps.length+1:Nat):Int))=true:=by simp
 simp only[fmD,zaa f,hf,Qg,zaa p]at H1
 unfold fmD
 rw[show fmC (.mk f.op f.atom f.var (.mk x p.atom p.var p.parts::ps))=[.int .i64 f.op,.str f.atom.name,.sl 2 (f.atom.args.map tmC),.str f.var,.sl 5 ((.mk x p.atom p.var p.parts::ps).map fmC)] from zaa _]
 refine zbp Tryz.call72 Tryz.func72 rfl Yn (by simp only[Qc,Qd,Tryz.ntmps72];omega) (by simp only[Tryz.ntmps72];omega) rfl rfl (by simp[zay,T.isPin,AF.ds,bxA]) (by simp[gFS,T.fs,T.flat,AF.ds,bxA]) rfl ?_
 simp -implicitDefEqProofs only[go_sem,Tryz.results72]
 refine zag [0,2,1000000] [5] [1000000] [] (H1) (by decide) rfl Ym Ym Ym Ym ?_
 simp -implicitDefEqProofs only[go_sem]
 refine zag [0,2,3,1000000] [7] [1000000] [] (H2) (by decide) rfl (by simp -implicitDefEqProofs only[go_sem,Qc,hgt]) (by simp -implicitDefEqProofs only[go_sem,Qc,hgt]) (by simp -implicitDefEqProofs only[go_sem,Qc,hgt]) (by simp -implicitDefEqProofs only[go_sem,Qc,hgt]) ?_
 simp -implicitDefEqProofs only[go_sem,Qc,hgt]
 refine drawn Yn ?_
 simp -implicitDefEqProofs only[go_sem,Qc,Qa]
 refine zdr [1000000] (H3) (by decide) Ym Ym ?_
 simp -implicitDefEqProofs only[go_sem]
 refine⟨Yo,?_⟩
 refine qav (by
  simp -implicitDefEqProofs only[go_sem]
  exact fun _=>trivial) ?_
 simp -implicitDefEqProofs only[go_sem]
 refine⟨Yn,?_⟩
 left
 rw[zaa (.mk x p.atom p.var p.parts)]
 exact Or.inl rfl
end Go.Proofs.YtpcmmboblbjpfaaGreat
namespace Go.Proofs.YtpcmmboblbjpfaaGreat
set_option linter.unusedSimpArgs false
set_option linter.unusedVariables false
set_option linter.unusedSectionVars false
set_option maxRecDepth 4000
open Go.RowKit
theorem qai (a:Fm)(hs:a.wt<=1099511627776)(H:∀x∈a.parts,FC Tryz.prog 142 [fmD x] [iD x.nodes]):FC Tryz.prog 142 [fmD a] [iD a.nodes]:=by
 have hl:a.parts.length<=9223372036854775807:=by rw[Fm.wt_eq]at hs;omega
 have hn:=zdp a
 have hN:=a.nodes_eq
 simp only[fmD,zaa a]
 refine zai Tryz.call142 Tryz.func142 rfl Yn (zau Yn) ?_
 simp -implicitDefEqProofs only[go_sem,Tryz.results142]
 refine zaf (fun k:Nat=>hd [(1,.one (.bx 1 0)),(3,vI ((1+zw7 Fm.nodes a.parts k:Nat):Int)),(4,vI k)] [(1,[.t (.int .i64 a.op),.t (.str a.atom.name),.t (tmS a.atom.args),.t (.str a.var),.t (fmS a.parts)])] []) (fun k=>k<=a.parts.length) (fun k=>a.parts.length-k) 0 (zac ?_) (Q3 _) ?_
 ·rw[zy9];simp -implicitDefEqProofs only[go_sem]
 ·intro k hk;by_cases hlt:k<a.parts.length
  ·have hp:=zzo Fm.nodes a.parts k hlt;have hle:=qkh Fm.nodes a.parts (k+1);have HC:=H a.parts[k] (Qj hlt);simp only[fmD,zaa a.parts[k]]at HC;have hw1:IntKind.i64.wrap (((1+zw7 Fm.nodes a.parts k:Nat):Int)+(a.parts[k].nodes:Int))=((1+zw7 Fm.nodes a.parts (k+1):Nat):Int):=by rw[za1 Yo Yo];omega
   have hwk:IntKind.i64.wrap ((k:Int)+1)=((k+1:Nat):Int):=zaw Yo;simp -implicitDefEqProofs only[go_sem,zae,hlt,zaa a.parts[k]];refine callF (HC) Ym ?_;simp -implicitDefEqProofs only[go_sem];rw[hw1,hwk];exact⟨k+1,hlt,Yo,zac Ym⟩
  ·simp -implicitDefEqProofs only[go_sem,hlt];rw[qfi Fm.nodes a.parts k Yo,hN]
theorem qha:∀a:Fm,a.wt<=1099511627776->FC Tryz.prog 142 [fmD a] [iD a.nodes] :=
 zcc fun b0 b1 b2 xs ih hs=>qai (.mk b0 b1 b2 xs) hs fun x hx=>ih x hx (Kk (zck (a:=.mk b0 b1 b2 xs) hx) hs)
def zsn (f:Fm):Nat->Fm
 | 0=>f
 | k+1=>.mk 4 (.mk [] []) [] [zsn f k]
theorem zs7 (f:Fm)(k:Nat):fmC (zsn f (k+1))=[.int .i64 4,.str [],.sl 2 [],.str [],.sl 5 [fmC (zsn f k)]]:=zaa _
theorem zra (f:Fm):∀k:Nat,(zsn f k).wt=f.wt+k
 | 0=>rfl
 | k+1=>by
  show(Fm.mk 4 (.mk [] []) [] [zsn f k]).wt=_
  rw[ze3,zb4,Qg,Qh,Q2,Ku,zra f k];simp only[Qc,Qd,Qh,Ku];omega
theorem zlo (f:Fm):∀k:Nat,(zsn f k).nodes=f.nodes+k
 | 0=>rfl
 | k+1=>by
  rw[Fm.nodes_eq];show 1+([zsn f k].map Fm.nodes).sum=_
  rw[Qg,Qh,Q2,Ku,zlo f k];omega
def ntF (f:Fm)(n:Nat):Fm:=zsn f (n-f.nodes)
theorem ntF_wt (f:Fm)(n:Nat):(ntF f n).wt<=f.wt+n:=by
 unfold ntF;rw[zra];omega
def ntS (code:List UInt8)(q:Cu)(f:Fm)(m:Nat):Nat->St
 | 0=>hd [(2,.one (.bx 2 0)),(3,.one (.bx 3 0)),(4,vI m),(1000000,.one (.bx 1000000 0))] [(2,[.t (.int .i64 0),.t (.str []),.nl 2,.t (.str []),.nl 5]),(3,[.t (.int .i64 f.op),.t (.str f.atom.name),.ow 194 0,.t (.str f.var),.ow 196 0]),(1000000,[.rn (zeg code),.t (.int .i64 q.pos),.t (.int .u64 q.seed)])] [(194,⟨true,2,f.atom.args.map tmC,0,true⟩),(196,⟨true,5,f.parts.map fmC,0,true⟩)]
 | k+1=>hd [(2,.one (.bx 2 0)),(3,.one (.bx 3 0)),(4,vI m),(1000000,.one (.bx 1000000 0))] [(2,[.t (.int .i64 0),.t (.str []),.nl 2,.t (.str []),.nl 5]),(3,[.t (.int .i64 4),.t (.str []),.nl 2,.t (.str []),.ow 5000 0]),(1000000,[.rn (zeg code),.t (.int .i64 q.pos),.t (.int .u64 q.seed)])] [(5000,⟨true,5,[fmC (zsn f k)],0,true⟩)]
theorem qca (code:List UInt8)(q q1 q2 q3:Cu)(f:Fm)(x:Int)(hx:0<=x/\x<5)(hf:f.wt<=3000)(H1:PC Tryz.prog 141 (za0 code q) [.p 0] (za0 code q1) [(true,fmD f)])(H2:PC Tryz.prog 29 (za0 code q1) [.p 0,.d false (iD 24)] (za0 code q2) [(true,iD 4)])
  (H3:PC Tryz.prog 29 (za0 code q2) [.p 0,.d false (iD 5)] (za0 code q3) [(true,iD x)]) :
  PC Tryz.prog 72 (za0 code q) [.p 0] (za0 code q3) [(true,fmD (ntF f (36+x).toNat))]:=by
 obtain⟨m,hm⟩:∃m:Nat,36+x=m:=⟨(36+x).toNat,Yo⟩
 have hm2:(36+x).toNat=m:=by omega
 have hw:IntKind.i64.wrap (36+x)=(m:Int):=by rw[za1 Yo Yo];exact hm
 have hZ:∀k,k<=m->(zsn f k).wt<=1099511627776:=fun k hk=>by rw[zra];omega
 rw[hm2]
 unfold ntF
 simp only[fmD,zaa f]at H1
 refine zbp Tryz.call72 Tryz.func72 rfl Yn (by simp only[Qc,Qd,Tryz.ntmps72];omega) (by simp only[Tryz.ntmps72];omega) rfl rfl (by simp[zay,T.isPin,AF.ds,bxA]) (by simp[gFS,T.fs,T.flat,AF.ds,bxA]) rfl ?_
 simp -implicitDefEqProofs only[go_sem,Tryz.results72]
 refine zag [0,2,1000000] [5] [1000000] [] (H1) (by decide) rfl Ym Ym Ym Ym ?_
 simp -implicitDefEqProofs only[go_sem]
 refine zag [0,2,3,1000000] [7] [1000000] [] (H2) (by decide) rfl Ym Ym Ym Ym ?_
 simp -implicitDefEqProofs only[go_sem]
 refine zag [2,3,1000000] [36] [1000000] [] (H3) (by decide) rfl Ym Ym Ym Ym ?_
 simp -implicitDefEqProofs only[go_sem]
 rw[hw]
 refine zaf (ntS code q3 f m) (fun k=>k<=m-f.nodes) (fun k=>m-f.nodes-k) 0 (zac ?_) (Q3 _) ?_
 ·simp -implicitDefEqProofs only[go_sem]
 ·intro k hk;have HS:=qha (zsn f k) (hZ k Yo);rw[zlo]at HS;by_cases hlt:k<m-f.nodes
  ·have h0:(((f.nodes+k:Nat):Int)<(m:Int))=True:=by simp;omega
   cases k with
   | zero =>
    simp only[fmD,show zsn f 0=f from rfl,zaa f]at HS;show ex _ _ _ _ (hd _ _ _)
    simp -implicitDefEqProofs only[go_sem];refine callF (HS) (by simp -implicitDefEqProofs only[go_sem,h0]) ?_;simp -implicitDefEqProofs only[go_sem,h0];refine zad Ym ?_;simp -implicitDefEqProofs only[go_sem];refine⟨1,Yo,Yo,zb0 1408 5000 ?_⟩;simp -implicitDefEqProofs only[go_sem];rw[show zsn f 0=f from rfl,zaa f]
   | succ k =>
    simp only[fmD,zs7 f k]at HS;show ex _ _ _ _ (hd _ _ _)
    simp -implicitDefEqProofs only[go_sem];refine callF (HS) (by simp -implicitDefEqProofs only[go_sem,h0]) ?_;simp -implicitDefEqProofs only[go_sem,h0];refine zad Ym ?_;simp -implicitDefEqProofs only[go_sem];refine⟨k+2,Yo,Yo,zb0 1408 5000 ?_⟩;simp -implicitDefEqProofs only[go_sem];rw[zs7 f k]
  ·have h0:(((f.nodes+k:Nat):Int)<(m:Int))=False:=by simp;omega
   have e:m-f.nodes=k:=by omega
   rw[e];cases k with
   | zero =>
    simp only[fmD,show zsn f 0=f from rfl,zaa f]at HS;show ex _ _ _ _ (hd _ _ _)
    simp -implicitDefEqProofs only[go_sem];refine callF (HS) (by simp -implicitDefEqProofs only[go_sem,h0]) ?_;simp -implicitDefEqProofs only[go_sem,h0];rw[show zsn f 0=f from rfl,zaa f];left;simp -implicitDefEqProofs only[go_sem]
   | succ k =>
    simp only[fmD,zs7 f k]at HS;show ex _ _ _ _ (hd _ _ _)
    simp -implicitDefEqProofs only[go_sem];refine callF (HS) (by simp -implicitDefEqProofs only[go_sem,h0]) ?_;simp -implicitDefEqProofs only[go_sem,h0];rw[zs7 f k];left;simp -implicitDefEqProofs only[go_sem]
end Go.Proofs.YtpcmmboblbjpfaaGreat
namespace Go.Proofs.YtpcmmboblbjpfaaGreat
set_option linter.unusedSimpArgs false
set_option linter.unusedVariables false
set_option linter.unusedSectionVars false
set_option maxRecDepth 4000
open Go.RowKit
variable {P:Program}{N:Nat}
theorem Wk.fzO {σ σ':St}(e:Nat)(k:zax (σ.ev e) fun x=>x.deep=true/\x.on=true/\Wk (σ.fz e x) σ'):Wk σ σ':=by
 obtain⟨x,hx,h1,h2,h3⟩:=zap k
 exact(qjw hx h1 h2).trans h3
theorem zfh.wkS {c:Code}{σ σ':St}{Q:Exit->St->Prop}(h:Wk σ σ')(k:zfh P N c σ' Q):zfh P N c σ Q:=fun n0 w0 A0 g a w h1 h2 h3 h4=>by
 obtain⟨g',r1,r2,r3⟩:=h _ _ _ _ _ h1
 exact k n0 w0 A0 g' a w r1 h2 h3 (by rw[r2,r3];exact h4)
end Go.Proofs.YtpcmmboblbjpfaaGreat
namespace Go.Proofs.YtpcmmboblbjpfaaGreat
set_option linter.unusedSimpArgs false
set_option linter.unusedVariables false
set_option linter.unusedSectionVars false
set_option maxRecDepth 4000
open Go.RowKit
variable {P:Program}{N:Nat}
inductive Ob
 | mp (ag:Bool) (rows:List (List T))
 | it (src:Nat) (ag:Bool) (left:List (List T)) (last:Option (List T))
abbrev Hid:=List (Nat×Ob)
end Go.Proofs.YtpcmmboblbjpfaaGreat
namespace Go.Proofs.YtpcmmboblbjpfaaGreat
set_option linter.unusedSimpArgs false
set_option linter.unusedVariables false
set_option linter.unusedSectionVars false
set_option maxRecDepth 4000
open Go.RowKit
variable {P:Program}
def VDn (σ:St):List V->List D->Prop
 | [],ds=>ds=[]
 | v::vs,ds=>∃d ds',ds=d::ds'/\(VD σ v d\/∃s sz,v=.one (.nl s)/\d=.one (.pin (.slice none 0 0) (.sl sz [])))/\VDn σ vs ds'
theorem VD.rep1 {n0:Nat->Prop}{N:Nat}{σ:St}{g:Gh}{a:Act}{w:World}(hR:Rel n0 N σ g a w){x:V}{d:D}(h:VD σ x d){v:Value}(hv:VR σ g w x v):zw9 w (·<w.heap.size) d v:=by
 have:VDs σ [x] [d]:=⟨d,[],rfl,h,rfl⟩
 obtain⟨_,_,e,h1,_⟩:=VDs.rep hR this (vs:=[v]) ⟨v,[],rfl,hv,rfl⟩
 cases e
 exact h1
theorem VDn.rep {n0:Nat->Prop}{N:Nat}{σ:St}{g:Gh}{a:Act}{w:World}(hR:Rel n0 N σ g a w):∀{xs:List V}{ds:List D},VDn σ xs ds->∀{vs:List Value},VRl σ g w xs vs->zb1 w (·<w.heap.size) ds vs
 | [],ds,h,vs,hv=>by rw[show ds=[] from h];exact hv
 | x::xs,ds,h,vs,hv=>by
  obtain⟨d,ds',rfl,h1,h2⟩:=h;obtain⟨v,vs',rfl,k1,k2⟩:=hv;refine⟨v,vs',rfl,?_,VDn.rep hR h2 k2⟩;rcases h1 with h1|⟨s,sz,rfl,rfl⟩
  ·exact VD.rep1 hR h1 k1
  ·have k1:v=.slice none 0 0:=k1;subst k1;show zas _ _ (.pin _ _) _
   unfold zas;refine⟨rfl,?_⟩;unfold zas;exact⟨none,0,rfl,Qz _,by simp,Or.inl rfl⟩
theorem zws {o:Oper}{σ:St}{x:Operand}{asx:Array Operand}{ts:Array TypeId}{f:FuncId}{cvs:List V}{d:Nat}{ds res:List D}(ho:o.op=.call ⟨.value x,asx,ts⟩)(hd:o.dst=some d)
  (h:FC P f ds res) (hc:za8 (σ.get P 0 x)=some (f,cvs)) (hv:VDn σ (σ.gets P asx ts++cvs) ds) (hf:zg0 d 0 (zbf res) σ.ev):zak P o σ (σ.callF d res):=by
 intro n0 N g a w hR hn hdN
 obtain⟨vs,h1,h2⟩:=zd8 hR ho hc h.1
 unfold Oper.wp
 rw[h1]
 refine(h.use (VDn.rep hR hv h2)).mono ?_
 rintro e w' ⟨us,fp,rfl,o1,o2,o3,hb⟩
 obtain⟨g',k1,k2,k3⟩:=New.cells (σ:=σ) (g:=g) (NB:=(w.heap.size<=·)) (w':=w') d (zbf res) _ fp 0 σ.ev g [] (New.refl _ _ _ _ hR.slc) (fun e h1 h2=>absurd h1 h2) hf o1.cells o2 (fun b hb'=>⟨o3 b hb',by simp⟩)
 have hR':=hR.after hn hb k1
 refine⟨g',?_,Bk.of_below hb hn,k1.A0,k1.R0⟩
 have hp:=hR'.put (some d) (x:=znp (zv1 d 0 res)) (v:=zcj us) (ze6 (zki d 0 o1 (k3 _ _ rfl)) (zg3 d res 0)) (fun i hi=>by cases hi;exact hdN d hd)
 rw[hd]
 exact hp
section
variable {ks:List Fr}{Q:Exit->St->Prop}{σ:St}{ops:Array Oper}{os:List Oper}{ty:TypeId}{ps:String}{af:Array Edge}
theorem callFn {d:Nat}{x:Operand}{asx:Array Operand}{ts:Array TypeId}{f:FuncId}{ds res:List D}(h:FC P f ds res)(hp:zax (za8 (σ.get P 0 x)) fun p=>p.1=f/\VDn σ (σ.gets P asx ts++p.2) ds/\zg0 d 0 (zbf res) σ.ev)
  (k:exo P ops os ks Q (σ.callF d res)):exo P ops (⟨some d,.call ⟨.value x,asx,ts⟩,ty,ps,af,none⟩::os) ks Q σ:=by
 obtain⟨⟨f',cvs⟩,h1,rfl,h2,h3⟩:=zap hp
 exact zdh rfl rfl (zws rfl rfl h h1 h2 h3) k
end
theorem vdn_nl (σ:St)(s sz:Nat)(vs:List V)(ds:List D):VDn σ (.one (.nl s)::vs) (.one (.pin (.slice none 0 0) (.sl sz []))::ds)=VDn σ vs ds:=propext ⟨fun h=>by
 obtain⟨d,ds',e,_,h⟩:=h
 obtain⟨rfl,rfl⟩:=List.cons.inj e
 exact h,fun h=>⟨_,_,rfl,Or.inr ⟨_,_,rfl,rfl⟩,h⟩⟩
theorem vdn_t (σ:St)(t:T)(vs:List V)(ds:List D):VDn σ (.one (.t t)::vs) (.one t::ds)=VDn σ vs ds:=propext ⟨fun h=>by
 obtain⟨d,ds',e,_,h⟩:=h
 obtain⟨rfl,rfl⟩:=List.cons.inj e
 exact h,fun h=>⟨_,_,rfl,Or.inl rfl,h⟩⟩
theorem qj0 (σ:St):VDn σ [] []=True:=by unfold VDn;simp
end Go.Proofs.YtpcmmboblbjpfaaGreat
namespace Go.Proofs.YtpcmmboblbjpfaaGreat
set_option linter.unusedSimpArgs false
set_option linter.unusedVariables false
set_option linter.unusedSectionVars false
set_option maxRecDepth 4000
open Go.RowKit
section
variable {P:Program}
theorem ct0_A {n0:Nat->Prop}{N:Nat}{σ:St}{g:Gh}{a:Act}{w:World}(hR:Rel n0 N σ g a w){c:C}{t:T}(h:CT0 σ c t){v:Value}(hv:CR σ g w c v):zas w (fun b=>b<w.heap.size/\g.A0 b) t v:=by
 have hF:∀b,Fix σ g w b->b<w.heap.size/\g.A0 b:=fun b hb=>⟨hb.2.2.1,hb.2.2.2⟩
 have hFr:∀b,zcd σ g w b->b<w.heap.size/\g.A0 b:=fun b hb=>hF b hb.1
 cases c with
 | t x =>
  have h:x=t:=h;subst h;exact zas.keep (fun _ _=>rfl) hF x v hv
 | rn x =>
  have h:x=t:=h;subst h;exact zas.keep (fun _ _=>rfl) hFr x v hv
 | nl s =>
  cases t with
  | sl sz rows =>
   have h:rows=[]:=h;subst h;have hv:v=.slice none 0 0:=hv;subst hv;unfold zas;exact⟨none,0,rfl,Qz _,by simp,Or.inl rfl⟩
  | _=>exact h.elim
 | ow e n =>
  cases t with
  | sl sz rows =>
   obtain⟨d,o,he⟩:=h;obtain⟨rfl,-⟩:=hv;cases o
   ·exact zas.keep (fun _ _=>rfl) hF _ _ (hR.offs e _ he rfl).1
   ·have hOn:σ.On e:=⟨_,he,rfl⟩;have hlt:∀b∈g.φ e,b<w.heap.size:=(hR.evs e _ he rfl).lt;obtain⟨ao,cap,e1,e2,e3,e4⟩:=hR.evs e _ he rfl;unfold zas;refine⟨ao,cap,e1,e2,e3,?_⟩;rcases e4 with⟨_,_,e4,_⟩|⟨b,cells,ty,fps,k1,k2,k3,k4,k5⟩
    ·exact Or.inl e4
    ·have hA:∀b'∈g.φ e,b'<w.heap.size/\g.A0 b':=fun b' hb'=>⟨hlt b' hb',(hR.ebase e hOn b' hb').1⟩;refine Or.inr ⟨b,0,k1,hA b (by rw[k2];simp),?_⟩;split at k5
     ·exact zao.rep b cells ty k3 0 sz rows fps k5 fun b' hb'=>hA b' (by rw[k2];simp[hb'])
     ·exact zar.keep (fun _ _=>rfl) hF b rfl 0 sz rows k5.2
  | _=>exact h.elim
 | el cs o =>
  cases t with
  | ptr cs' =>
   obtain⟨rfl,rfl⟩:=h;obtain⟨b,q,h1,h2,h3⟩:=hv;unfold zas;exact⟨b,q,h1,hF b h2,zbg.keep (fun _ _=>rfl) hF b rfl q cs h3⟩
  | _=>exact h.elim
 | er cs o =>
  cases t with
  | ptr cs' =>
   obtain⟨rfl,rfl⟩:=h;obtain⟨b,q,h1,h2,h3⟩:=hv;unfold zas;exact⟨b,q,h1,hFr b h2,zbg.keep (fun _ _=>rfl) hFr b rfl q cs h3⟩
  | _=>exact h.elim
 | _=>cases t<;>exact h.elim
theorem qij {n0:Nat->Prop}{N:Nat}{σ:St}{g:Gh}{a:Act}{w:World}(hR:Rel n0 N σ g a w):∀{cs:List C}{ts:List T},zp1 σ cs ts->∀{vs:List Value},CRs σ g w cs vs->zaj w (fun b=>b<w.heap.size/\g.A0 b) ts vs
 | [],ts,h,vs,hv=>by rw[show ts=[] from h];unfold zaj;exact hv
 | c::cs,ts,h,vs,hv=>by
  obtain⟨t,ts',rfl,h1,h2⟩:=h;obtain⟨v,vs',rfl,k1,k2⟩:=hv;unfold zaj;exact⟨v,vs',rfl,ct0_A hR h1 k1,qij hR h2 k2⟩
def RVe (σ:St):List V->List D->Prop
 | [],[]=>True
 | .one c::vs,.one t::ds=>CT0 σ c t/\RVe σ vs ds
 | .agg cs::vs,.agg ts::ds=>zp1 σ cs ts/\RVe σ vs ds
 | _,_=>False
theorem RVe.rep {n0:Nat->Prop}{N:Nat}{σ:St}{g:Gh}{a:Act}{w:World}(hR:Rel n0 N σ g a w):∀{vs:List V}{ds:List D},RVe σ vs ds->∀{us:List Value},VRl σ g w vs us->zb1 w (fun b=>b<w.heap.size/\g.A0 b) ds us
 | [],[],_,us,hv=>hv
 | .one c::vs,.one t::ds,h,us,hv=>by
  obtain⟨u,us',rfl,k1,k2⟩:=hv;exact⟨u,us',rfl,ct0_A hR h.1 k1,RVe.rep hR h.2 k2⟩
 | .agg cs::vs,.agg ts::ds,h,us,hv=>by
  obtain⟨u,us',rfl,⟨q,rfl,k1⟩,k2⟩:=hv;exact⟨_,us',rfl,⟨q,rfl,qij hR h.1 k1⟩,RVe.rep hR h.2 k2⟩
 | [],_::_,h,_,_=>h.elim
 | .one _::_,[],h,_,_=>h.elim
 | .one _::_,.agg _::_,h,_,_=>h.elim
 | .agg _::_,[],h,_,_=>h.elim
 | .agg _::_,.one _::_,h,_,_=>h.elim
 | .tup _::_,[],h,_,_=>h.elim
 | .tup _::_,_::_,h,_,_=>h.elim
def PRe (P:Program)(rs:List ResultVar)(res:List D)(e:Exit)(σ:St):Prop:=match e with
 | .normal=>zax (zb9 P σ rs) fun vs=>RVe σ vs res
 | .ret=>zax (zb9 P σ rs) fun vs=>RVe σ vs res
 | _=>False
theorem zbn {f:FuncId}{fn:Func}{c:Code}{args res:List D}(hc:zbv P f)(hf:P.funcs[f]?=some fn)(hb:fn.body=some c)(hd:zdz fn.ntmps c=true)(hN:(rd args).length<=fn.ntmps)
  (h:ex P c [] (PRe P fn.results.toList res) (zdt (rd args))):RC P f args res:=by
 refine⟨hc,fun w vs A hv=>?_⟩
 refine calls_of_wp hf hb ?_
 have hg:∀(ds:List D) (vs:List Value),zb1 w (fun b=>b<w.heap.size/\A b) ds vs->za6 w (fun b=>b<w.heap.size/\A b/\b∉([]:List Nat)) (rd ds) vs [] []:=by
  intro ds;induction ds with
  | nil=>intro vs h;exact⟨h,rfl,rfl⟩
  | cons d ds ih =>
   rintro vs ⟨v,vs',rfl,h1,h2⟩;refine⟨v,vs',rfl,?_,ih _ h2⟩;cases d with
   | one t=>exact zas.keep (fun _ _=>rfl) (fun b hb=>⟨hb.1,hb.2,by simp⟩) t _ h1
   | agg ts=>obtain⟨a,h0,h1⟩:=h1;exact⟨a,h0,zaj.keep (fun _ _=>rfl) (fun b hb=>⟨hb.1,hb.2,by simp⟩) ts a h1⟩
 obtain⟨g,hg,hR⟩:=Rel.start (A:=A) (A0:=fun b=>A b\/w.heap.size<=b) (R0:=RP.of fun _=>True) (N:=fn.ntmps) (hg _ _ hv) Kp (zec args) hN (fun _ hb=>Or.inl hb) (fun b hb=>by simp at hb) (fun b hb=>⟨Or.inr (by
  refine Nat.le_of_not_lt fun hlt=>hb ⟨hlt,by simp⟩),trivial⟩)
 refine wp_mono (zbu (w0:=w) c (zdt (rd args)) _ hd h g _ w hR (fun k hk=>hk.1) (Bk.refl _ _) hg) fun e a' w' hq=>?_
 obtain⟨σ',g',h1,h2,h3,h4,h5⟩:=hq
 have key:zax (zb9 P σ' fn.results.toList) (fun vs=>RVe σ' vs res)->∃v,(results fn a'.tmps).run P w'=.ok v w'/\∃us,Ending.returned v=.returned (zcj us)/\zb1 w' (fun b=>b<w'.heap.size/\(A b\/w.heap.size<=b)) res us/\Below w.heap.size w w':=fun hk=>by
  unfold zax at hk;split at hk
  ·rename_i vs hvs;obtain⟨us,r1,r2⟩:=zch h2 fn hvs;refine⟨_,r1,us,rfl,(RVe.rep h2 hk r2).keep (fun _ _=>rfl) fun b hb=>⟨hb.1,?_⟩,h4.os,h4.tape,h4.output,h4.size,fun k hk=>h4.block k ⟨hk,by simp⟩⟩;have:=hb.2;simp only[Qo]at h5;rw[h5.1]at this;exact this
  ·exact hk.elim
 cases e with
 | normal=>exact⟨h2.defers,key h1⟩
 | ret=>exact⟨h2.defers,key h1⟩
 | exit _=>exact h1.elim
 | goto _=>exact h1.elim
 | panic _=>exact h1.elim
 | outgrown=>exact h1.elim
attribute [go_sem] PRe RVe
end
end Go.Proofs.YtpcmmboblbjpfaaGreat
namespace Go.Proofs.YtpcmmboblbjpfaaGreat
set_option linter.unusedSimpArgs false
set_option linter.unusedVariables false
set_option linter.unusedSectionVars false
set_option maxRecDepth 4000
open Go.RowKit
variable {P:Program}{N:Nat}
def jnW (τ:St)(Q:Exit->St->Prop)(e:Exit)(σ:St):Prop:=match e with|.normal=>Wk σ τ|e=>Q e σ
theorem zw2 (τ:St)(Q:Exit->St->Prop)(σ:St):jnW τ Q .normal σ=Wk σ τ:=rfl
theorem qgy (τ:St)(Q:Exit->St->Prop)(σ:St)(i:Nat):jnW τ Q (.exit i) σ=Q (.exit i) σ:=rfl
theorem zfh.join {c rest:Code}{σ:St}{Q:Exit->St->Prop}(τ:St)(hd:zdz N c=true)(h:ex P c [] (jnW τ Q) σ)(k:zfh P N rest τ Q):zfh P N (.seq c rest) σ Q:=by
 refine zfh.seq (zfh.mono (fun e σ' q=>?_) (zfh.ofEx hd h))
 cases e with
 | normal=>exact zfh.wkS q k
 | exit i=>exact q
 | goto l=>exact q
 | ret=>exact q
 | panic ch=>exact q
 | outgrown=>exact q
attribute [go_sem] zw2 qgy
end Go.Proofs.YtpcmmboblbjpfaaGreat
namespace Go.Proofs.YtpcmmboblbjpfaaGreat
set_option linter.unusedSimpArgs false
set_option linter.unusedVariables false
set_option linter.unusedSectionVars false
set_option maxRecDepth 4000
open Go.RowKit
variable {P:Program}
theorem qcr {σ:St}{g:Gh}{w:World}{v:Value}{c:C}:∀{cs:List C}{vs:List Value}{m:Nat},CRs σ g w cs vs->cs[m]?=some (.cv v)->CR σ g w c v->CRs σ g w (cs.set m c) vs
 | [],_,_,h,_,_=>h
 | x::cs,vs,0,h,hm,hc=>by
  obtain⟨u,us,rfl,h1,h2⟩:=h;rw[List.getElem?_cons_zero,Qe]at hm;subst hm;have h1:u=v:=h1;subst h1;exact⟨u,us,rfl,hc,h2⟩
 | x::cs,vs,m+1,h,hm,hc=>by
  obtain⟨u,us,rfl,h1,h2⟩:=h;rw[List.getElem?_cons_succ]at hm;exact⟨u,us,rfl,h1,qcr h2 hm hc⟩
theorem Rel.takeA {n0:Nat->Prop}{N:Nat}{σ:St}{g:Gh}{a:Act}{w:World}(hR:Rel n0 N σ g a w){e e' s m i j sz gn sz1:Nat}{cz:List C}{rows rows1:List (List T)}{r:List T}{v:Value}(hD:Deep ⟨upd σ.sl s (.one .any),σ.bx,σ.ev⟩)
  (hsl:σ.sl s=.agg cz) (hcs:cz.all C.mOk=true) (hm:cz[m]?=some (.cv v)) (he:σ.ev e=some ⟨true,sz,rows,gn,true⟩) (hr:rows[i]?=some r) (hc:r[j]?=some (.pin v (.sl sz1 rows1))) (hne:σ.ev e'=none) :
  ∃ao ln c,∃g',Rel n0 N ⟨upd σ.sl s (.agg (cz.set m (.ow e' 0))),σ.bx,upd (upd σ.ev e (some ⟨true,sz,rows.set i (r.set j (.vs ao ln c)),gn,true⟩)) e' (some ⟨true,sz1,rows1,0,true⟩)⟩ g' a w/\g'.A0=g.A0/\g'.R0=g.R0:=by
 have hOn:σ.On e:=⟨_,he,rfl⟩
 have hee:e≠e':=fun h=>by rw[h,hne]at he;cases he
 have hO:=zeq hR he
 have hnd:=hR.nodup e hOn
 unfold za7 at hO
 obtain⟨ao0,cap,e1,e2,e3,e4⟩:=hO
 rcases e4 with⟨_,_,rfl,_⟩|⟨b0,cells,ty,fps,k1,k2,k3,k4,k5⟩
 ·simp at hr
 obtain⟨f1,ff,f2,u,rfl,c1,c2,c3⟩:=zao.cell k5 hr hc
 unfold za7 at c2
 obtain⟨rfl,c2⟩:=c2
 have c2':=c2
 unfold za7 at c2'
 obtain⟨ao,cp,hv,hv2,hv3,hv4⟩:=c2'
 rw[k2]at hnd
 obtain⟨nb,nd⟩:=K6.1 hnd
 obtain⟨nd1,nd2,nd3⟩:=Kf.1 nd
 obtain⟨nd4,nd5,nd6⟩:=Kf.1 nd2
 have hsubf:∀b,b∈ff->b∈g.φ e:=fun b hb=>by rw[k2];simp[hb]
 have hsubr:∀b,b∈b0::(f1++f2)->b∈g.φ e:=fun b hb=>by
  rw[k2];simp only[Qr,Qt]at hb⊢;rcases hb with h|h|h
  ·exact Or.inl h
  ·exact Or.inr (Or.inl h)
  ·exact Or.inr (Or.inr (Or.inr h))
 have hdis:∀b,b∈b0::(f1++f2)->b∉ff:=fun b h hm=>by
  simp only[Qr,Qt]at h;rcases h with rfl|h|h
  ·exact nb (by simp[hm])
  ·exact nd3 b h b (by simp[hm]) rfl
  ·exact nd6 b hm b h rfl
 have hndr:(b0::(f1++f2)).Nodup:=by
  refine K6.2 ⟨fun hm=>nb ?_,Kf.2 ⟨nd1,nd5,fun x hx y hy hxy=>nd3 x hx y (by simp[hy]) hxy⟩⟩;simp only[Qt]at hm⊢;rcases hm with h|h
  ·exact Or.inl h
  ·exact Or.inr (Or.inr h)
 have hrows:=c3 w (.vs ao rows1.length cp) [] (fun _ _=>rfl) (by unfold za7;exact⟨hv,rfl⟩)
 rw[Jb]at hrows
 obtain⟨d1,d2,d3⟩:=hD
 refine⟨ao,rows1.length,cp,{ g with ψ:=fun q n=>if q=e' then u else g.ψ q n,φ:=upd (upd g.φ e (b0::(f1++f2))) e' ff },?_,rfl,rfl⟩
 have φe:(upd (upd g.φ e (b0::(f1++f2))) e' ff) e=b0::(f1++f2):=by rw[zam _ _ hee,zah]
 have φe':(upd (upd g.φ e (b0::(f1++f2))) e' ff) e'=ff:=zah _ _ _
 have φo:∀q,q≠e->q≠e'->(upd (upd g.φ e (b0::(f1++f2))) e' ff) q=g.φ q:=fun q h1 h2=>by rw[zam _ _ h2,zam _ _ h1]
 have hev:∀q,q≠e->q≠e'->(upd (upd σ.ev e (some ⟨true,sz,rows.set i (r.set j (.vs ao rows1.length cp)),gn,true⟩)) e' (some ⟨true,sz1,rows1,0,true⟩)) q=σ.ev q:=fun q h1 h2=>by rw[zam _ _ h2,zam _ _ h1]
 have heve:(upd (upd σ.ev e (some ⟨true,sz,rows.set i (r.set j (.vs ao rows1.length cp)),gn,true⟩)) e' (some ⟨true,sz1,rows1,0,true⟩)) e=some ⟨true,sz,rows.set i (r.set j (.vs ao rows1.length cp)),gn,true⟩:=by rw[zam _ _ hee,zah]
 have heve':(upd (upd σ.ev e (some ⟨true,sz,rows.set i (r.set j (.vs ao rows1.length cp)),gn,true⟩)) e' (some ⟨true,sz1,rows1,0,true⟩)) e'=some ⟨true,sz1,rows1,0,true⟩:=zah _ _ _
 generalize hE:(upd (upd σ.ev e (some ⟨true,sz,rows.set i (r.set j (.vs ao rows1.length cp)),gn,true⟩)) e' (some ⟨true,sz1,rows1,0,true⟩))=ev2 at hev heve heve'
 generalize hF:(upd (upd g.φ e (b0::(f1++f2))) e' ff)=φ2 at φe φe' φo
 have hψe:∀q n,q≠e'->(if q=e' then u else g.ψ q n)=g.ψ q n:=fun q n h=>if_neg h
 have hold:∀q,St.On ⟨upd σ.sl s (.agg (cz.set m (.ow e' 0))),σ.bx,ev2⟩ q->∃p,σ.On p/\(∀b∈φ2 q,b∈g.φ p)/\(q≠e'->p=q)/\(q=e'->p=e):=fun q hq=>by
  by_cases h1:q=e'
  ·subst h1;exact⟨e,hOn,fun b hb=>hsubf b (by rw[φe']at hb;exact hb),fun h=>absurd rfl h,fun _=>rfl⟩
  ·by_cases h2:q=e
   ·subst h2;exact⟨q,hOn,fun b hb=>hsubr b (by rw[φe]at hb;exact hb),fun _=>rfl,fun h=>absurd h h1⟩
   ·obtain⟨x,hx,ho⟩:=hq;have hx:ev2 q=some x:=hx;rw[hev q h2 h1]at hx;exact⟨q,⟨x,hx,ho⟩,fun b hb=>by rw[φo q h2 h1]at hb;exact hb,fun _=>rfl,fun h=>absurd h h1⟩
 have hhas:∀q n,σ.has q n->St.has ⟨upd σ.sl s (.agg (cz.set m (.ow e' 0))),σ.bx,ev2⟩ q n/\(if q=e' then u else g.ψ q n)=g.ψ q n:=fun q n ⟨x,hx,hg⟩=>by
  have h1:q≠e':=fun h=>by rw[h,hne]at hx;cases hx
  refine⟨?_,hψe q n h1⟩;by_cases h2:q=e
  ·subst h2;rw[he]at hx;cases hx;exact⟨_,heve,hg⟩
  ·exact⟨x,(hev q h2 h1).trans hx,hg⟩
 have hrn:∀b,zcd σ g w b->zcd ⟨upd σ.sl s (.agg (cz.set m (.ow e' 0))),σ.bx,ev2⟩ { g with ψ:=fun q n=>if q=e' then u else g.ψ q n,φ:=φ2 } w b:=fun b hb=>by
  have hno:∀q,St.On ⟨upd σ.sl s (.agg (cz.set m (.ow e' 0))),σ.bx,ev2⟩ q->b∉φ2 q:=fun q hq hm=>by
   obtain⟨p,p1,p2,_⟩:=hold q hq;exact hb.2 p p1 (p2 b hm)
  exact⟨⟨hb.1.1,fun q x hx ho hh=>hno q ⟨x,hx,ho⟩ (List.mem_of_mem_head? hh),hb.1.2.2⟩,hno⟩
 have hdeep:∀q x,q≠e->q≠e'->ev2 q=some x->σ.ev q=some x/\x.on=true/\x.deep=true:=fun q x h1 h2 hx=>by
  rw[hev q h1 h2]at hx;exact⟨hx,d3 q x hx⟩
 refine⟨hR.defers,hR.size,hR.anew,fun q=>?_,fun b cs hb=>?_,hR.base,hR.inj,fun q x hx ho=>?_,fun q x hx ho=>?_,fun q n=>?_,fun q hq b hb=>?_,fun q hq b hb=>?_,fun q hq=>?_,fun q q' hq hq' hne' b hb hb'=>?_,fun q k hq hk hb=>?_⟩
 ·show VR _ _ _ (upd σ.sl s (.agg (cz.set m (.ow e' 0))) q) _
  have hv0:=hR.slots q;by_cases hqs:q=s
  ·subst hqs;rw[zah];rw[hsl]at hv0;obtain⟨a1,k1,k2⟩:=hv0;have k3:=zoq (σ:=σ) (g:=g) (σ':=⟨upd σ.sl q (.agg (cz.set m (.ow e' 0))),σ.bx,ev2⟩) (g':={ g with ψ:=fun q n=>if q=e' then u else g.ψ q n,φ:=φ2 }) rfl rfl hhas hrn hcs k2;exact⟨a1,k1,qcr k3 hm ⟨(if_pos rfl).symm,⟨_,heve',Qz _⟩⟩⟩
  ·rw[zam _ _ hqs];have hm:=d1 q;have hm:(upd σ.sl s (.one .any) q).mOk=true:=hm;rw[zam _ _ hqs]at hm;exact mv_vr (σ:=σ) (g:=g) (σ':=⟨upd σ.sl s (.agg (cz.set m (.ow e' 0))),σ.bx,ev2⟩) (g':={ g with ψ:=fun q n=>if q=e' then u else g.ψ q n,φ:=φ2 }) rfl rfl hhas hrn hm hv0
 ·obtain⟨vs,ty,q1,q2⟩:=hR.boxes b cs hb;exact⟨vs,ty,q1,zoq (σ:=σ) (g:=g) (σ':=⟨upd σ.sl s (.agg (cz.set m (.ow e' 0))),σ.bx,ev2⟩) (g':={ g with ψ:=fun q n=>if q=e' then u else g.ψ q n,φ:=φ2 }) rfl rfl hhas hrn (d2 b cs hb) q2⟩
 ·have hx2:ev2 q=some x:=hx;clear hx;show EvR w _ x (if q=e' then u else g.ψ q x.gen) (φ2 q)
  by_cases h1:q=e'
  ·subst h1;rw[heve']at hx2;cases hx2;rw[if_pos rfl,φe'];refine⟨ao,cp,hv,hv2,hv3,?_⟩;rcases hv4 with h|⟨b,cells,ty,fps,q1,q2,q3,q4,q5⟩
   ·exact Or.inl h
   ·exact Or.inr ⟨b,cells,ty,fps,q1,q2,q3,q4,by rw[if_pos rfl];exact q5⟩
  ·rw[if_neg h1];by_cases h2:q=e
   ·subst h2;rw[heve]at hx2;cases hx2;rw[φe];exact⟨ao0,cap,by simpa using e1,by simpa using e2,e3,Or.inr ⟨b0,cells,ty,_,k1,rfl,k3,k4,by rw[if_pos rfl];exact hrows⟩⟩
   ·obtain⟨g1,g2,g3⟩:=hdeep q x h2 h1 hx2;rw[φo q h2 h1];obtain⟨ao,cap,r1,r2,r3,r4⟩:=hR.evs q x g1 g2;refine⟨ao,cap,r1,r2,r3,?_⟩;rcases r4 with r4|⟨b,cells,ty,fps,r4,r5,r6,r7,r8⟩
    ·exact Or.inl r4
    ·rw[if_pos g3]at r8;exact Or.inr ⟨b,cells,ty,fps,r4,r5,r6,r7,by rw[if_pos g3];exact r8⟩
 ·have hx2:ev2 q=some x:=hx;clear hx;by_cases h1:q=e'
  ·subst h1;rw[heve']at hx2;cases hx2;cases ho
  ·by_cases h2:q=e
   ·subst h2;rw[heve]at hx2;cases hx2;cases ho
   ·have:=(hdeep q x h2 h1 hx2).2.1;rw[this]at ho;cases ho
 ·show ∃ao l c,(if q=e' then u else g.ψ q n)=.slice ao l c
  by_cases h1:q=e'
  ·rw[if_pos h1];exact⟨_,_,_,hv⟩
  ·rw[if_neg h1];exact hR.slc q n
 ·obtain⟨p,p1,p2,_⟩:=hold q hq;exact hR.ebase p p1 b (p2 b hb)
 ·obtain⟨p,p1,p2,_⟩:=hold q hq;exact hR.etop p p1 b (p2 b hb)
 ·show(φ2 q).Nodup
  by_cases h1:q=e'
  ·subst h1;rw[φe'];exact nd4
  ·by_cases h2:q=e
   ·subst h2;rw[φe];exact hndr
   ·obtain⟨p,p1,p2,p3,_⟩:=hold q hq;rw[φo q h2 h1];have:=p3 h1;subst this;exact hR.nodup p p1
 ·have hb2:b∈φ2 q:=hb;clear hb;have hb2':b∈φ2 q':=hb';clear hb';by_cases h1:q=e'
  ·subst h1;by_cases h2:q'=e
   ·subst h2;rw[φe']at hb2;rw[φe]at hb2';exact hdis b hb2' hb2
   ·obtain⟨p,p1,p2,p3,_⟩:=hold q' hq';have:=p3 (Ne.symm hne');subst this;rw[φe']at hb2;exact hR.apart e p hOn p1 (Ne.symm h2) b (hsubf b hb2) (p2 b hb2')
  ·by_cases h3:q'=e'
   ·subst h3;by_cases h2:q=e
    ·subst h2;rw[φe']at hb2';rw[φe]at hb2;exact hdis b hb2 hb2'
    ·obtain⟨p,p1,p2,p3,_⟩:=hold q hq;have:=p3 h1;subst this;rw[φe']at hb2';exact hR.apart e p hOn p1 (Ne.symm h2) b (hsubf b hb2') (p2 b hb2)
   ·obtain⟨p,p1,p2,p3,_⟩:=hold q hq;obtain⟨p',p1',p2',p3',_⟩:=hold q' hq';have:=p3 h1;subst this;have:=p3' h3;subst this;exact hR.apart p p' p1 p1' hne' b (p2 b hb2) (p2' b hb2')
 ·obtain⟨p,p1,p2,_⟩:=hold q hq;exact hR.ebx p k p1 hk (p2 _ hb)
end Go.Proofs.YtpcmmboblbjpfaaGreat
namespace Go.Proofs.YtpcmmboblbjpfaaGreat
set_option linter.unusedSimpArgs false
set_option linter.unusedVariables false
set_option linter.unusedSectionVars false
set_option maxRecDepth 4000
open Go.RowKit
variable {P:Program}
theorem zbg.flat {w:World}{A A':Nat->Prop}{b:Nat}:∀{r:List T}{o:Nat},r.all T.flat=true->zbg w A b o r->zbg w A' b o r
 | [],_,_,_=>by unfold zbg;trivial
 | c::cs,o,hf,h=>by
  rw[Ke,Qb]at hf;unfold zbg at h⊢;obtain⟨⟨v,h1,h2⟩,h3⟩:=h;exact⟨⟨v,h1,zem hf.1 h2⟩,zbg.flat hf.2 h3⟩
theorem zar.flat {w:World}{A A':Nat->Prop}{b sz:Nat}:∀{rows:List (List T)}{o:Nat},flR rows=true->zar w A b o sz rows->zar w A' b o sz rows
 | [],_,_,_=>by unfold zar;trivial
 | r::rs,o,hf,h=>by
  unfold flR at hf;rw[Qb]at hf;unfold zar at h⊢;exact⟨h.1,zbg.flat hf.1 h.2.1,zar.flat hf.2 h.2.2⟩
theorem V.mapid (x:V):V.map id x=x:=by
 cases x with
 | one c=>rfl
 | agg cs=>exact congrArg V.agg (Ye cs)
 | tup xs=>exact congrArg V.tup ((Kg fun y _=>by simp).trans (Ye xs))
section
variable {ks:List Fr}{Q:Exit->St->Prop}{σ:St}{ops:Array Oper}{os:List Oper}{L:List (List Ky×List Ky)}{d:Nat}{t:TypeId}{ty:TypeId}{ps:String}{af:Array Edge}{len:Nat}{parts:Array (Nat×Operand)}{n:Nat}{rs:List (List C)}{rows:List (List T)}
theorem qdp (h:zim P (σ.get P) t len parts=some (n,rs)/\zob σ rs=some rows/\σ.ev (d*32)=none)(hf:flR rows=true):zak P ⟨some d,.buildSlice t len parts,ty,ps,af,none⟩ σ (σ.put (some d) (.one (.rn (.sl n rows)))):=fun n0 N g a w hR hn hdN=>by
 refine Oper.wp_mono ?_ (zi8 (P:=P) (ty:=ty) (ps:=ps) (af:=af) h n0 N g a w hR hn hdN)
 rintro a' w' ⟨g',r1,r2,r3,r4⟩
 have he:=h.2.2
 obtain⟨s1,hg⟩:=qh3 (σ:=(σ.apd (d*32) [] ⟨false,n,rows,0,true⟩).put (some d) (.one (.ow (d*32) 0))) (e:=d*32) (x:=⟨false,n,rows,0,true⟩) (zah _ _ _) rfl rfl r1
 have e1:((σ.apd (d*32) [] ⟨false,n,rows,0,true⟩).put (some d) (.one (.ow (d*32) 0))).fs (d*32) ⟨false,n,rows,0,true⟩=σ.put (some d) (.one (.t (.sl n rows))):=by
  have q1:fsS (upd σ.sl d (.one (.ow (d*32) 0))) (d*32) ⟨false,n,rows,0,true⟩=upd σ.sl d (.one (.t (.sl n rows))):=funext fun i=>by
   show V.map _ (upd σ.sl d _ i)=_
   by_cases hi:i=d
   ·subst hi;rw[zah,zah];show V.one (C.fs _ _ (.ow _ 0))=_
    simp[C.fs]
   ·rw[zam _ _ hi,zam _ _ hi];exact nor_v he (hR.slots i)
  have q2:fsB σ.bx (d*32) ⟨false,n,rows,0,true⟩=σ.bx:=funext fun b=>by
   show(σ.bx b).map _=_
   cases hb:σ.bx b with
   | none=>rfl
   | some cs =>
    obtain⟨vs,ty',k1,k2⟩:=hR.boxes b cs hb;exact congrArg some (zql he k2)
  have q3:fsE (upd σ.ev (d*32) (some ⟨false,n,rows,0,true⟩)) (d*32)=σ.ev:=funext fun k=>by
   show(if k=d*32 then none else upd σ.ev (d*32) _ k)=_
   by_cases hk:k=d*32
   ·rw[if_pos hk,hk,he]
   ·rw[if_neg hk,zam _ _ hk]
  show St.mk (fsS (upd σ.sl d (.one (.ow (d*32) 0))) (d*32) ⟨false,n,rows,0,true⟩) (fsB σ.bx (d*32) ⟨false,n,rows,0,true⟩) (fsE (upd σ.ev (d*32) (some ⟨false,n,rows,0,true⟩)) (d*32))=_
  rw[q1,q2,q3];rfl
 rw[e1]at s1 hg
 have hsl:=r1.slots d
 rw[show((σ.apd (d*32) [] ⟨false,n,rows,0,true⟩).put (some d) (.one (.ow (d*32) 0))).sl d=.one (.ow (d*32) 0) from zah _ _ _]at hsl
 obtain⟨ao,cap,f1,f2,f3,f4⟩:=r1.evs (d*32) ⟨false,n,rows,0,true⟩ (zah _ _ _) rfl
 have cr:∀c v,CR (σ.put (some d) (.one (.t (.sl n rows)))) g' w' c v->CR (σ.put (some d) (.one (.rn (.sl n rows)))) g' w' c v:=fun c v h=>by cases c<;>exact h
 have hb:∀(b:Nat) (cs:List C),(σ.put (some d) (.one (.rn (.sl n rows)))).bx b=some cs->∃vs ty,w'.heap[g'.β b]?=some (Obj.cells vs ty)/\CRs (σ.put (some d) (.one (.rn (.sl n rows)))) g' w' cs vs.toList:=fun b cs hb=>by
  obtain⟨vs,ty,k1,k2⟩:=s1.boxes b cs hb;have:=CRs.map (f:=id) cr k2;rw[Ye]at this;exact⟨vs,ty,k1,this⟩
 refine⟨g',{ s1 with slots:=fun i=>?_,boxes:=hb },r2,r3,r4⟩
 by_cases hi:i=d
 ·subst hi;rw[show(σ.put (some i) (.one (.rn (.sl n rows)))).sl i=.one (.rn (.sl n rows)) from zah _ _ _];have hv:=hsl.1;rw[f1]at hv;show zas w' (zcd _ g' w') (.sl n rows) _
  rw[hv];unfold zas;refine⟨ao,cap,rfl,f2,f3,?_⟩;rcases f4 with⟨_,_,f4,_⟩|⟨b,cells,ty,fps,k1,k2,k3,k4,k5⟩
  ·exact Or.inl f4
  ·rw[if_neg (by simp)]at k5;exact Or.inr ⟨b,0,k1,hg b (by rw[k2];simp) (Array.getElem?_eq_some_iff.1 k3).1,zar.flat hf k5.2⟩
 ·have:=s1.slots i;rw[show(σ.put (some d) (.one (.t (.sl n rows)))).sl i=σ.sl i from zam _ _ hi]at this;rw[show(σ.put (some d) (.one (.rn (.sl n rows)))).sl i=σ.sl i from zam _ _ hi];have h2:=VR.map (f:=id) cr this;rw[V.mapid]at h2;exact h2
theorem qk4 (h:zax (blS P σ t len parts) fun _=>σ.ev (d*32)=none)(hf:(match slOf (blS P σ t len parts)with|.sl _ rows=>flR rows|_=>false)=true)
  (k:exd P ops os (L++[(zaz (parts.toList.map (·.2))++(rK (qah (zim P (σ.get P) t len parts))++[(2,d*32)]),dK (some d)++eK [])]) ks Q (σ.put (some d) (.one (.rn (slOf (blS P σ t len parts)))))) :
  exd P ops (⟨some d,.buildSlice t len parts,ty,ps,af,none⟩::os) L ks Q σ:=by
 obtain⟨⟨x,cons⟩,h1,h2⟩:=zap h
 rw[h1]at k hf
 unfold blS at h1
 obtain⟨p,e1,h1⟩:=Qf.1 h1
 obtain⟨q,e2,h1⟩:=Q4.1 h1
 simp only[Qo]at h1
 obtain⟨rfl,rfl⟩:=h1
 rw[e1]at k
 have hf:flR q=true:=hf
 refine zfj rfl rfl ?_ k
 have:=zgo.of (P:=P) (σ:=σ) (o:=⟨some d,.buildSlice t len parts,ty,ps,af,none⟩) (l:=[]) (v:=.one (.rn (.sl p.1 q))) (R:=zaz (parts.toList.map (·.2))++(rK p.2++[(2,d*32)])) (zbj (zbx _) (zbj (zrn _) rfl)) fun σ1 h1=>?_
 ·exact this
 ·have e3:zim P (σ1.get P) t len parts=zim P (σ.get P) t len parts:=zja fun t x hx=>zcb (fun k hk=>h1 k (by simp[hk])) hx t;have e4:zob σ1 p.2=zob σ p.2:=zjj fun k hk=>h1 k (by simp[hk]);exact qdp ⟨e3.trans e1,e4.trans e2,(Eq.symm (h1 (2,d*32) (by simp))).trans h2⟩ hf
end
theorem zm7 {σ:St}{f f':Nat->V}{g:Gh}{w:World}(c:C)(v:Value)(h:CR ⟨f,σ.bx,σ.ev⟩ g w c v):CR ⟨f',σ.bx,σ.ev⟩ g w c v:=by cases c<;>exact h
theorem qd6 {σ:St}{f:Nat->V}(h:∀(g:Gh)(w:World)(i:Nat)(v:Value),VR σ g w (σ.sl i) v->VR ⟨f,σ.bx,σ.ev⟩ g w (f i) v):Wk σ ⟨f,σ.bx,σ.ev⟩:=fun n0 N g a w hR=>by
 have hb:∀(b:Nat) (cs:List C),(⟨f,σ.bx,σ.ev⟩:St).bx b=some cs->∃vs ty,w.heap[g.β b]?=some (Obj.cells vs ty)/\CRs ⟨f,σ.bx,σ.ev⟩ g w cs vs.toList:=fun b cs hb=>by
  obtain⟨vs,ty,k1,k2⟩:=hR.boxes b cs hb;have:=CRs.map (f:=id) (zm7 (σ:=σ) (f:=σ.sl) (f':=f)) k2;rw[Ye]at this;exact⟨vs,ty,k1,this⟩
 exact⟨g,{ hR with slots:=fun i=>h g w i _ (hR.slots i),boxes:=hb },rfl,rfl⟩
theorem qd9 {σ:St}{f f':Nat->V}{g:Gh}{w:World}{x:V}{v:Value}(h:VR ⟨f,σ.bx,σ.ev⟩ g w x v):VR ⟨f',σ.bx,σ.ev⟩ g w x v:=by
 have h2:=VR.map (f:=id) (zm7 (σ:=σ) (f:=f) (f':=f')) h
 rw[V.mapid]at h2
 exact h2
theorem takeP {ks:List Fr}{Q:Exit->St->Prop}{σ:St}{ops:Array Oper}{o:Oper}{os:List Oper}(e e' s s2 i j sz1:Nat)(rows1:List (List T)){sz gn:Nat}{rows:List (List T)}{r:List T}{c0:C}{v:Value}
  (hsl:σ.sl s=.agg [c0,.t (.pin v (.sl sz1 rows1))]) (h0:c0.mOk=true) (hD:Deep ⟨upd (upd σ.sl s2 (.one .any)) s (.one .any),σ.bx,σ.ev⟩) (he:σ.ev e=some ⟨true,sz,rows,gn,true⟩) (hr:rows[i]?=some r) (hc:r[j]?=some (.pin v (.sl sz1 rows1))) (hne:σ.ev e'=none) (hss:s≠s2)
  (k:∀ao ln c,exoS P ops o os ks Q ⟨upd (upd σ.sl s2 (.one .any)) s (.agg [c0,.ow e' 0]),σ.bx,upd (upd σ.ev e (some ⟨true,sz,rows.set i (r.set j (.vs ao ln c)),gn,true⟩)) e' (some ⟨true,sz1,rows1,0,true⟩)⟩):exoS P ops o os ks Q σ:=by
 refine zb7.pre (σ':=⟨upd (upd σ.sl s2 (.one .any)) s (.agg [c0,.cv v]),σ.bx,σ.ev⟩) (qd6 fun g w q u hv=>?_) (zb7.preX fun n0 N g a w hR hn=>?_)
 ·by_cases h1:q=s
  ·subst h1;rw[zah];rw[hsl]at hv;obtain⟨x,rfl,u1,us,rfl,f3,u2,us2,rfl,f5,rfl⟩:=hv;refine⟨_,rfl,u1,_,rfl,zm7 (σ:=σ) _ _ f3,u2,_,rfl,?_,rfl⟩;have f5:zas w _ (.pin v _) u2:=f5;unfold zas at f5;exact f5.1
  ·rw[zam _ _ h1];by_cases h2:q=s2
   ·subst h2;rw[zah];trivial
   ·rw[zam _ _ h2];exact qd9 (σ:=σ) hv
 ·have hD':Deep ⟨upd (upd (upd σ.sl s2 (.one .any)) s (.agg [c0,.cv v])) s (.one .any),σ.bx,σ.ev⟩:=⟨fun q=>by
   show(upd (upd (upd σ.sl s2 (.one .any)) s (.agg [c0,.cv v])) s (.one .any) q).mOk=true
   have:=hD.1 q
   change (upd (upd σ.sl s2 (.one .any)) s (.one .any) q).mOk=true at this
   by_cases h1:q=s
   ·subst h1;rw[zah];rfl
   ·rw[zam _ _ h1,zam _ _ h1]
    rwa [zam _ _ h1]at this,hD.2.1,hD.2.2⟩
  obtain⟨ao,ln,c,g',r1,r2,r3⟩:=hR.takeA (e:=e) (e':=e') (s:=s) (m:=1) (i:=i) (j:=j) hD' (zah _ _ _) (by show(c0.mOk&&((C.cv v).mOk&&true))=true;rw[h0];rfl) rfl he hr hc hne;refine⟨_,g',?_,r1,r2,r3⟩;have e1:upd (upd (upd σ.sl s2 (.one .any)) s (.agg [c0,.cv v])) s (.agg (([c0,.cv v]:List C).set 1 (.ow e' 0)))=upd (upd σ.sl s2 (.one .any)) s (.agg [c0,.ow e' 0]):=funext fun q=>by
   by_cases h1:q=s
   ·subst h1;rw[zah,zah];rfl
   ·rw[zam _ _ h1,zam _ _ h1,zam _ _ h1]
  show zb7 P o ⟨_,_,_⟩ _
  rw[e1];exact k ao ln c
end Go.Proofs.YtpcmmboblbjpfaaGreat
namespace Go.Proofs.YtpcmmboblbjpfaaGreat
set_option linter.unusedSimpArgs false
set_option linter.unusedVariables false
set_option linter.unusedSectionVars false
set_option maxRecDepth 4000
open Go.RowKit
theorem ofR (code:List UInt8)(l:List Str)(hl:1<=l.length)(hn:l.length<=200):Drw code 31 [.p 0,.d false (.one (zb5 l))] 1 (fun x:Str=>(true,.one (.str x))) (fun x=>x∈l):=fun q hq hp=>by
 have HN:=zt3 hq Yo l.length Yo
 have hb:=q.pick_bd (n:=l.length) Yo
 obtain⟨j,hj⟩:∃j:Nat,(q.pick l.length).2=j:=⟨(q.pick l.length).2.toNat,Yo⟩
 have hjl:j<l.length:=by omega
 refine⟨(q.pick l.length).1,l[j],(q.pick_code _).trans hq,(q.pick_pos _).2,Qj hjl,?_⟩
 rw[hj]at HN
 refine zbp Tryz.call31 Tryz.func31 rfl Yn (by simp only[Qc,Qd,Tryz.ntmps31];omega) (by simp only[Tryz.ntmps31];omega) rfl rfl (by simp[zay,T.isPin,AF.ds,bxA]) (by simp[gFS,T.fs,T.flat,AF.ds,bxA]) rfl ?_
 simp -implicitDefEqProofs only[go_sem,Tryz.results31]
 refine zag [5,1000000] [6,8] [1000000] [] (HN) (by decide) rfl (by simp -implicitDefEqProofs only[go_sem,hjl,zae]) (by simp -implicitDefEqProofs only[go_sem,hjl,zae]) (by simp -implicitDefEqProofs only[go_sem,hjl,zae]) (by simp -implicitDefEqProofs only[go_sem,hjl,zae]) ?_
 simp -implicitDefEqProofs only[go_sem,hjl,zae]
theorem zp4 (vs:Nat->Nat->Value):∀(us:List Tm)(i:Nat),List.map (fun r=>List.map zkq r) (zhp vs i (us.map tmC))=us.map tmC
 | [],_=>rfl
 | u::us,i=>by
  rw[Qg,zhp,Qg,zp4 vs us,zab u];rfl
theorem qjd {c:Prop} [Decidable c]{x y:V}(hx:x.mOk=true)(hy:y.mOk=true):(if c then x else y).mOk=true:=by
 split
 ·exact hx
 ·exact hy
abbrev hdL:List Str:=[[61],[],[81,49],[98,50]]
theorem qdl (code:List UInt8)(q q1 q2 q3:Cu)(t u:Tm)(us:List Tm)(s:Str)(ht:t.args=u::us)(hl:t.args.length<=100)(H1:PC Tryz.prog 76 (za0 code q) [.p 0] (za0 code q1) [(true,tmD t)])(H2:PC Tryz.prog 29 (za0 code q1) [.p 0,.d false (iD 24)] (za0 code q2) [(true,iD 4)])
  (H3:PC Tryz.prog 31 (za0 code q2) [.p 0,.d false (.one (zb5 hdL))] (za0 code q3) [(true,.one (.str s))]) :
  PC Tryz.prog 33 (za0 code q) [.p 0] (za0 code q3) [(true,tmD (.mk t.name (.mk s u.args::us)))]:=by
 have hgt:decide (0<((us.length+1:Nat):Int))=true:=by simp
 simp only[tmD,zab t,ht,Qg,zab u]at H1
 simp only[zb5,hdL,Qg,Qh]at H3
 unfold tmD
 rw[show tmC (.mk t.name (.mk s u.args::us))=[.str t.name,.sl 2 ((.mk s u.args::us).map tmC)] from zab _]
 refine zbp Tryz.call33 Tryz.func33 rfl Yn (by simp only[Qc,Qd,Tryz.ntmps33];omega) (by simp only[Tryz.ntmps33];omega) rfl rfl (by simp[zay,T.isPin,AF.ds,bxA]) (by simp[gFS,T.fs,T.flat,AF.ds,bxA]) rfl ?_
 simp -implicitDefEqProofs only[go_sem,Tryz.results33]
 refine zag [0,2,1000000] [4] [1000000] [] (H1) (by decide) rfl Ym Ym Ym Ym ?_
 simp -implicitDefEqProofs only[go_sem]
 refine zag [0,2,3,1000000] [6] [1000000] [] (H2) (by decide) rfl (by simp -implicitDefEqProofs only[go_sem,Qc,hgt]) (by simp -implicitDefEqProofs only[go_sem,Qc,hgt]) (by simp -implicitDefEqProofs only[go_sem,Qc,hgt]) (by simp -implicitDefEqProofs only[go_sem,Qc,hgt]) ?_
 simp -implicitDefEqProofs only[go_sem,Qc,hgt]
 refine qlb 161 12 Yn Yn Ym fun vs=>?_
 simp -implicitDefEqProofs only[go_sem,Qc,Qa]
 refine qk4 Ym Ym ?_
 simp -implicitDefEqProofs only[go_sem]
 refine zdr [1000000] (H3) (by decide) Ym Ym ?_
 simp -implicitDefEqProofs only[go_sem]
 refine⟨Yo,Yo,Yn,?_⟩
 refine takeP 161 5000 54 53 0 1 2 (u.args.map tmC) (sz:=2) (gn:=0) (rows:=[.str u.name,.pin (vs 0 1) (.sl 2 (u.args.map tmC))]::zhp vs 1 (us.map tmC)) (r:=[.str u.name,.pin (vs 0 1) (.sl 2 (u.args.map tmC))]) (c0:=.t (.str s)) (v:=vs 0 1) rfl rfl ⟨fun i=>?_,fun b cs hb=>?_,fun e x he=>?_⟩ rfl rfl rfl rfl (by decide) fun ao ln c=>?_
 ·by_cases h1:i=54
  ·subst h1;rfl
  by_cases h2:i=53
  ·subst h2;rfl
  simp only[upd,if_neg h1,if_neg h2]
  repeat refine qjd rfl ?_
  refine zud ?_ i;rfl
 ·simp only[upd]at hb;split at hb
  ·cases hb;rfl
  ·refine zt2 ?_ hb;rfl
 ·simp only[upd]at he;split at he
  ·cases he;exact⟨rfl,rfl⟩
  ·refine zu0 ?_ he;rfl
 refine qho (by
  simp -implicitDefEqProofs only[go_sem]
  exact fun _ h=>by rw[h];exact(by decide:(5000:Nat)≠161)) ?_
 simp -implicitDefEqProofs only[go_sem]
 left;right
 rw[zab (.mk s u.args)]
 show[T.str s,T.sl 2 (u.args.map tmC)]::List.map (fun r=>List.map zkq r) (zhp vs 1 (us.map tmC))=_
 rw[zp4]
 rfl
end Go.Proofs.YtpcmmboblbjpfaaGreat
namespace Go.Proofs.YtpcmmboblbjpfaaGreat
set_option linter.unusedSimpArgs false
set_option linter.unusedVariables false
set_option linter.unusedSectionVars false
set_option maxRecDepth 4000
open Go.RowKit
theorem len_wt (t:Tm){W:Nat}(h:t.wt<=W):t.args.length<=W:=by rw[Tm.wt_eq]at h;omega
theorem qgd (code:List UInt8):Drw code 33 [.p 0] 60 (fun t:Tm=>(true,tmD t)) (fun t=>t.wt<=400):=fun q hq hp=>by
 obtain⟨q1,t,c1,p1,o1,H1⟩:=zss code q hq Yo
 obtain⟨q2,x,c2,p2,o2,H2⟩:=zeh code 24 Yo Yo q1 c1 Yo
 have hl:=len_wt t o1
 have hw:=Tm.wt_eq t
 by_cases h5:5<=x
 ·exact⟨q2,t,c2,Yo,(show t.wt<=400 by omega),zuk code q q1 q2 t x (Or.inl h5) H1 H2⟩
 rcases(show x=0\/x=1\/x=2\/x=3\/x=4 by omega)with rfl|rfl|rfl|rfl|rfl
 ·obtain⟨q3,s,c3,p3,o3,H3⟩:=ofD code nmL (by simp) (by simp) q2 c2 Yo;have hs:s.length<=8:=(show ∀s∈nmL,s.length<=8 by decide) s o3;refine⟨q3,.mk s t.args,c3,Yo,?_,qgq code q q1 q2 q3 t s H1 H2 H3⟩;show(Tm.mk s t.args).wt<=400
  rw[zb4];omega
 ·obtain⟨q3,y,c3,p3,o3,H3⟩:=zeh code 3 Yo Yo q2 c2 Yo;obtain⟨m,hm⟩:∃m:Nat,7+y=m:=⟨(7+y).toNat,Yo⟩;obtain⟨q4,u,c4,p4,o4,H4⟩:=towerD code m Yo q3 c3 Yo;rw[<-hm]at H4;exact⟨q4,u,c4,Yo,(show u.wt<=400 by omega),zya code q q1 q2 q3 q4 t u y o3 H1 H2 H3 H4⟩
 ·obtain⟨q3,u,c3,p3,o3,H3⟩:=wideD code q2 c2 Yo;exact⟨q3,u,c3,Yo,(show u.wt<=400 by omega),qfs code q q1 q2 q3 t u H1 H2 H3⟩
 ·obtain⟨q3,a,c3,p3,o3,H3⟩:=zss code q2 c2 Yo;obtain⟨q4,b,c4,p4,o4,H4⟩:=zss code q3 c3 Yo;obtain⟨q5,c,c5,p5,o5,H5⟩:=zss code q4 c4 Yo;refine⟨q5,.mk t.name (t.args++[a,b,c]),c5,Yo,?_,qeh code q q1 q2 q3 q4 q5 t a b c Yo H1 H2 H3 H4 H5⟩;show(Tm.mk t.name (t.args++[a,b,c])).wt<=400
  rw[zb4];simp only[Qi,Qc,Qd,Qy,Qg,Qh,J8,Q2,Ku];omega
 ·cases ha:t.args with
  | nil=>exact⟨q2,t,c2,Yo,(show t.wt<=400 by omega),zuk code q q1 q2 t 4 (Or.inr ⟨rfl,ha⟩) H1 H2⟩
  | cons u us =>
   obtain⟨q3,s,c3,p3,o3,H3⟩:=ofR code hdL (by simp) (by simp) q2 c2 Yo;have hs:s.length<=8:=(show ∀s∈hdL,s.length<=8 by decide) s o3;refine⟨q3,.mk t.name (.mk s u.args::us),c3,Yo,?_,qdl code q q1 q2 q3 t u us s ha Yo H1 H2 H3⟩;show(Tm.mk t.name (.mk s u.args::us)).wt<=400
   have hu:=Tm.wt_eq u;rw[ha]at hw;simp only[Qc,Qg,Q2]at hw;rw[zb4];simp only[Qc,Qg,Q2];rw[zb4];omega
end Go.Proofs.YtpcmmboblbjpfaaGreat
namespace Go.Proofs.YtpcmmboblbjpfaaGreat
set_option linter.unusedSimpArgs false
set_option linter.unusedVariables false
set_option linter.unusedSectionVars false
set_option maxRecDepth 4000
open Go.RowKit
theorem zlg (f:Fm)(o:Int)(a:Tm)(v:Str)(ps:List Fm):(Fm.mk o a v ps).wt=a.wt+v.length+(ps.length+(ps.map Fm.wt).sum):=by rw[ze3];omega
theorem zq3 (code:List UInt8):Drw code 72 [.p 0] 1500 (fun f:Fm=>(true,fmD f)) (fun f=>f.wt<=8000):=fun q hq hp=>by
 obtain⟨q1,f,c1,p1,o1,H1⟩:=zui code q hq Yo
 obtain⟨q2,x,c2,p2,o2,H2⟩:=zeh code 24 Yo Yo q1 c1 Yo
 have hw:=Fm.wt_eq f
 by_cases h6:6<=x
 ·exact⟨q2,f,c2,Yo,(show f.wt<=8000 by omega),zqm code q q1 q2 f x (Or.inl h6) H1 H2⟩
 rcases(show x=0\/x=1\/x=2\/x=3\/x=4\/x=5 by omega)with rfl|rfl|rfl|rfl|rfl|rfl
 ·obtain⟨q3,y,c3,p3,o3,H3⟩:=zeh code 11 Yo Yo q2 c2 Yo;refine⟨q3,.mk y f.atom f.var f.parts,c3,Yo,?_,qi7 code q q1 q2 q3 f y H1 H2 H3⟩;show(Fm.mk y f.atom f.var f.parts).wt<=8000
  rw[zlg f];omega
 ·obtain⟨q3,s,c3,p3,o3,H3⟩:=ofD code vaL (by simp) (by simp) q2 c2 Yo;have hs:s.length<=8:=(show ∀s∈vaL,s.length<=8 by decide) s o3;refine⟨q3,.mk f.op f.atom s f.parts,c3,Yo,?_,qf0 code q q1 q2 q3 f s H1 H2 H3⟩;show(Fm.mk f.op f.atom s f.parts).wt<=8000
  rw[zlg f];omega
 ·obtain⟨q3,u,c3,p3,o3,H3⟩:=qgd code q2 c2 Yo;refine⟨q3,.mk f.op u f.var f.parts,c3,Yo,?_,qay code q q1 q2 q3 f u H1 H2 H3⟩;show(Fm.mk f.op u f.var f.parts).wt<=8000
  rw[zlg f];omega
 ·obtain⟨q3,g,c3,p3,o3,H3⟩:=zui code q2 c2 Yo;refine⟨q3,.mk f.op f.atom f.var (f.parts++[g]),c3,Yo,?_,zz7 code q q1 q2 q3 f g Yo H1 H2 H3⟩;show(Fm.mk f.op f.atom f.var (f.parts++[g])).wt<=8000
  rw[zlg f];simp only[Qi,Qc,Qd,Qy,Qg,Qh,J8,Q2,Ku];omega
 ·obtain⟨q3,y,c3,p3,o3,H3⟩:=zeh code 5 Yo Yo q2 c2 Yo;refine⟨q3,ntF f (36+y).toNat,c3,Yo,?_,qca code q q1 q2 q3 f y o3 o1 H1 H2 H3⟩;show(ntF f _).wt<=8000
  have:=ntF_wt f (36+y).toNat;omega
 ·cases ha:f.parts with
  | nil=>exact⟨q2,f,c2,Yo,(show f.wt<=8000 by omega),zqm code q q1 q2 f 5 (Or.inr ⟨rfl,ha⟩) H1 H2⟩
  | cons g gs =>
   obtain⟨q3,y,c3,p3,o3,H3⟩:=zeh code 11 Yo Yo q2 c2 Yo;refine⟨q3,.mk f.op f.atom f.var (.mk y g.atom g.var g.parts::gs),c3,Yo,?_,zyk code q q1 q2 q3 f g gs y ha H1 H2 H3⟩;show(Fm.mk f.op f.atom f.var (.mk y g.atom g.var g.parts::gs)).wt<=8000
   have hg:=Fm.wt_eq g;rw[ha]at hw;simp only[Qc,Qg,Q2]at hw;rw[zlg f];simp only[Qc,Qg,Q2];rw[zlg f];omega
end Go.Proofs.YtpcmmboblbjpfaaGreat
namespace Go.Proofs.YtpcmmboblbjpfaaGreat
set_option linter.unusedSimpArgs false
set_option linter.unusedVariables false
set_option linter.unusedSectionVars false
set_option maxRecDepth 4000
open Go.RowKit
theorem zu8 {α β:Type}(f:α->β)(xs ys:List α)(x:α):(xs++(ys++[x])).map f=(xs++ys).map f++[f x]:=by
 rw[<-Ji,Qy,Qg,Qh]
theorem qcs (code:List UInt8)(q q1 q2:Cu)(s:Sq)(x:Int)(hx:4<=x)(H1:PC Tryz.prog 71 (za0 code q) [.p 0] (za0 code q1) [(true,sqD s)])(H2:PC Tryz.prog 29 (za0 code q1) [.p 0,.d false (iD 30)] (za0 code q2) [(true,iD x)]) :
  PC Tryz.prog 21 (za0 code q) [.p 0] (za0 code q2) [(true,sqD s)]:=by
 simp only[sqD,zat s]at H1
 simp only[sqD,zat]
 have e0:(x==0)=false:=by rw[Ql];omega
 have e1:(x==1)=false:=by rw[Ql];omega
 have e2:(x==2)=false:=by rw[Ql];omega
 have e3:(x==3)=false:=by rw[Ql];omega
 refine zbp Tryz.call21 Tryz.func21 rfl Yn (by simp only[Qc,Qd,Tryz.ntmps21];omega) (by simp only[Tryz.ntmps21];omega) rfl rfl (by simp[zay,T.isPin,AF.ds,bxA]) (by simp[gFS,T.fs,T.flat,AF.ds,bxA]) rfl ?_
 simp -implicitDefEqProofs only[go_sem,Tryz.results21]
 refine zag [0,2,1000000] [4] [1000000] [] (H1) (by decide) rfl Ym Ym Ym Ym ?_
 simp -implicitDefEqProofs only[go_sem]
 refine zag [0,2,3,1000000] [6] [1000000] [] (H2) (by decide) rfl (by simp -implicitDefEqProofs only[go_sem,e0,e1,e2,e3]) (by simp -implicitDefEqProofs only[go_sem,e0,e1,e2,e3]) (by simp -implicitDefEqProofs only[go_sem,e0,e1,e2,e3]) (by simp -implicitDefEqProofs only[go_sem,e0,e1,e2,e3]) ?_
 simp -implicitDefEqProofs only[go_sem,e0,e1,e2,e3]
theorem qbh (code:List UInt8)(q q1 q2 q3:Cu)(s:Sq)(f:Fm)(hl:s.left.length<=100)(H1:PC Tryz.prog 71 (za0 code q) [.p 0] (za0 code q1) [(true,sqD s)])(H2:PC Tryz.prog 29 (za0 code q1) [.p 0,.d false (iD 30)] (za0 code q2) [(true,iD 0)])(H3:PC Tryz.prog 72 (za0 code q2) [.p 0] (za0 code q3) [(true,fmD f)]) :
  PC Tryz.prog 21 (za0 code q) [.p 0] (za0 code q3) [(true,sqD ⟨s.left++[f],s.right⟩)]:=by
 simp only[sqD,zat s]at H1
 simp only[sqD,zat]
 have hl2:s.left.length<=4294967295:=by omega
 simp only[fmD,zaa f]at H3
 refine zbp Tryz.call21 Tryz.func21 rfl Yn (by simp only[Qc,Qd,Tryz.ntmps21];omega) (by simp only[Tryz.ntmps21];omega) rfl rfl (by simp[zay,T.isPin,AF.ds,bxA]) (by simp[gFS,T.fs,T.flat,AF.ds,bxA]) rfl ?_
 simp -implicitDefEqProofs only[go_sem,Tryz.results21]
 refine zag [0,2,1000000] [4] [1000000] [] (H1) (by decide) rfl Ym Ym Ym Ym ?_
 simp -implicitDefEqProofs only[go_sem]
 refine zag [0,2,3,1000000] [6] [1000000] [] (H2) (by decide) rfl Ym Ym Ym Ym ?_
 simp -implicitDefEqProofs only[go_sem]
 refine drawn Yn ?_
 simp -implicitDefEqProofs only[go_sem]
 refine zdr [1000000] (H3) (by decide) Ym Ym ?_
 simp -implicitDefEqProofs only[go_sem]
 refine za2 Ym ?_
 simp -implicitDefEqProofs only[go_sem]
 refine zgr true (by simp -implicitDefEqProofs only[go_sem,ne_eq,Qa,Qc,Qd,hl2]) ?_
 simp -implicitDefEqProofs only[go_sem,ne_eq,Qa,Qc,Qd,hl2]
 refine⟨Yn,?_⟩
 left
 rw[Qy,Qg,Qh,zaa f]
 simp -implicitDefEqProofs only[go_sem]
theorem zyj (code:List UInt8)(q q1 q2:Cu)(s:Sq)(hl:s.right.length<=100)(H1:PC Tryz.prog 71 (za0 code q) [.p 0] (za0 code q1) [(true,sqD s)])(H2:PC Tryz.prog 29 (za0 code q1) [.p 0,.d false (iD 30)] (za0 code q2) [(true,iD 1)]) :
  PC Tryz.prog 21 (za0 code q) [.p 0] (za0 code q2) [(true,sqD ⟨s.left,s.right++[zrF]⟩)]:=by
 simp only[sqD,zat s]at H1
 simp only[sqD,zat]
 have hl2:s.right.length<=4294967295:=by omega
 refine zbp Tryz.call21 Tryz.func21 rfl Yn (by simp only[Qc,Qd,Tryz.ntmps21];omega) (by simp only[Tryz.ntmps21];omega) rfl rfl (by simp[zay,T.isPin,AF.ds,bxA]) (by simp[gFS,T.fs,T.flat,AF.ds,bxA]) rfl ?_
 simp -implicitDefEqProofs only[go_sem,Tryz.results21]
 refine zag [0,2,1000000] [4] [1000000] [] (H1) (by decide) rfl Ym Ym Ym Ym ?_
 simp -implicitDefEqProofs only[go_sem]
 refine zag [0,2,3,1000000] [6] [1000000] [] (H2) (by decide) rfl Ym Ym Ym Ym ?_
 simp -implicitDefEqProofs only[go_sem]
 refine zad Ym ?_
 simp -implicitDefEqProofs only[go_sem]
 refine apD true (by simp -implicitDefEqProofs only[go_sem,ne_eq,Qa,Qc,Qd,hl2]) ?_
 simp -implicitDefEqProofs only[go_sem,ne_eq,Qa,Qc,Qd,hl2]
 left
 rw[Qy,Qg,Qh,show fmC zrF=[.int .i64 0,.str [],.sl 2 [],.str [],.sl 5 []] from rfl]
 simp -implicitDefEqProofs only[go_sem]
def flleft (code:List UInt8)(q:Cu)(s:Sq)(X:Nat->Fm)(k:Nat):St:=hd [(0,.one (.bx 1000000 0)),(2,.one (.bx 2 0)),(3,.one (.bx 3 0)),(1000000,.one (.bx 1000000 0))] [(2,[.nl 5,.nl 5]),(3,[.ow 6000 k,.ow 161 0]),(1000000,[.rn (zeg code),.t (.int .i64 q.pos),.t (.int .u64 q.seed)])] [(6000,⟨true,5,(s.left++upX X k).map fmC,k,true⟩),(161,⟨true,5,s.right.map fmC,0,true⟩)]
set_option maxHeartbeats 1000000 in
theorem zvt (code:List UInt8)(q q1 q2:Cu)(s:Sq)(hl:s.left.length<=100)(m:Nat)(hm:m<=100)(Q R:Nat->Cu)(B:Nat->Int)(X:Nat->Fm)(hQ0:Q 0=q2)(hB:∀k,k<=m->(0<=B k/\B k<2)/\PC Tryz.prog 29 (za0 code (Q k)) [.p 0,.d false (iD 2)] (za0 code (R k)) [(true,iD (B k))])
  (hX:∀k,k<m->((s.left.length+k:Nat):Int)<10+B k/\PC Tryz.prog 73 (za0 code (R k)) [.p 0,.d false (iD 2)] (za0 code (Q (k+1))) [(true,fmD (X k))]) (hE:¬(((s.left.length+m:Nat):Int)<10+B m)) (H1:PC Tryz.prog 71 (za0 code q) [.p 0] (za0 code q1) [(true,sqD s)]) (H2:PC Tryz.prog 29 (za0 code q1) [.p 0,.d false (iD 30)] (za0 code q2) [(true,iD 2)]) :
  PC Tryz.prog 21 (za0 code q) [.p 0] (za0 code (R m)) [(true,sqD ⟨s.left++upX X m,s.right⟩)]:=by
 simp only[sqD,zat s]at H1
 simp only[sqD,zat]
 refine zbp Tryz.call21 Tryz.func21 rfl Yn (by simp only[Qc,Qd,Tryz.ntmps21];omega) (by simp only[Tryz.ntmps21];omega) rfl rfl (by simp[zay,T.isPin,AF.ds,bxA]) (by simp[gFS,T.fs,T.flat,AF.ds,bxA]) rfl ?_
 simp -implicitDefEqProofs only[go_sem,Tryz.results21]
 refine zag [0,2,1000000] [4] [1000000] [] (H1) (by decide) rfl Ym Ym Ym Ym ?_
 simp -implicitDefEqProofs only[go_sem]
 refine zag [0,2,3,1000000] [6] [1000000] [] (H2) (by decide) rfl Ym Ym Ym Ym ?_
 simp -implicitDefEqProofs only[go_sem]
 rw[<-hQ0]
 refine zaf (fun k=>flleft code (Q k) s X k) (fun k=>k<=m) (fun k=>m-k) 0 (zb0 160 6000 ?_) (Q3 _) ?_
 ·simp -implicitDefEqProofs only[go_sem,zi6,Ks]
 ·intro k hk;obtain⟨hb,HB⟩:=hB k hk;have hw:IntKind.i64.wrap (10+B k)=10+B k:=za1 Yo Yo;by_cases hlt:k<m
  ·obtain⟨hc,HX⟩:=hX k hlt;have h0:(((s.left.length+k:Nat):Int)<10+B k)=True:=by simp only[hc]
   have hl2:s.left.length+k<=4294967295:=by omega
   simp only[fmD,zaa (X k)]at HX;show ex _ _ _ _ (hd _ _ _)
   simp -implicitDefEqProofs only[go_sem];refine drawn Yn ?_;simp -implicitDefEqProofs only[go_sem,Qa,Qi,zbh];refine zdr [1000000] (HB) (by decide) (by simp -implicitDefEqProofs only[go_sem,hw,Qa,Qi,zbh,h0]) (by simp -implicitDefEqProofs only[go_sem,hw,Qa,Qi,zbh,h0]) ?_;simp -implicitDefEqProofs only[go_sem,hw,Qa,Qi,zbh,h0];refine⟨Yn,?_⟩;refine drawn Yn ?_;simp -implicitDefEqProofs only[go_sem];refine zdr [1000000] (HX) (by decide) Ym Ym ?_;simp -implicitDefEqProofs only[go_sem];refine za2 Ym ?_;simp -implicitDefEqProofs only[go_sem];refine zgr true (by simp -implicitDefEqProofs only[go_sem,ne_eq,Qa,Qi,zbh,hl2]) ?_;simp -implicitDefEqProofs only[go_sem,ne_eq,Qa,Qi,zbh,hl2];refine⟨Yn,k+1,Yo,Yo,zac ?_⟩;rw[zjb,zu8,zaa (X k)];simp -implicitDefEqProofs only[go_sem]
  ·have e:k=m:=by omega
   subst e;have h0:(((s.left.length+k:Nat):Int)<10+B k)=False:=by simp only[hE]
   show ex _ _ _ _ (hd _ _ _)
   simp -implicitDefEqProofs only[go_sem];refine drawn Yn ?_;simp -implicitDefEqProofs only[go_sem,Qa,Qi,zbh];refine zdr [1000000] (HB) (by decide) (by simp -implicitDefEqProofs only[go_sem,hw,Qa,Qi,zbh,h0]) (by simp -implicitDefEqProofs only[go_sem,hw,Qa,Qi,zbh,h0]) ?_;simp -implicitDefEqProofs only[go_sem,hw,Qa,Qi,zbh,h0];kernel_rfl
def qme (code:List UInt8)(q:Cu)(s:Sq)(X:Nat->Fm)(k:Nat):St:=hd [(0,.one (.bx 1000000 0)),(2,.one (.bx 2 0)),(3,.one (.bx 3 0)),(1000000,.one (.bx 1000000 0))] [(2,[.nl 5,.nl 5]),(3,[.ow 160 0,.ow 6000 k]),(1000000,[.rn (zeg code),.t (.int .i64 q.pos),.t (.int .u64 q.seed)])] [(160,⟨true,5,s.left.map fmC,0,true⟩),(6000,⟨true,5,(s.right++upX X k).map fmC,k,true⟩)]
set_option maxHeartbeats 1000000 in
theorem zwo (code:List UInt8)(q q1 q2:Cu)(s:Sq)(hl:s.right.length<=100)(m:Nat)(hm:m<=100)(Q R:Nat->Cu)(B:Nat->Int)(X:Nat->Fm)(hQ0:Q 0=q2)(hB:∀k,k<=m->(0<=B k/\B k<2)/\PC Tryz.prog 29 (za0 code (Q k)) [.p 0,.d false (iD 2)] (za0 code (R k)) [(true,iD (B k))])
  (hX:∀k,k<m->((s.right.length+k:Nat):Int)<9+B k/\PC Tryz.prog 73 (za0 code (R k)) [.p 0,.d false (iD 2)] (za0 code (Q (k+1))) [(true,fmD (X k))]) (hE:¬(((s.right.length+m:Nat):Int)<9+B m)) (H1:PC Tryz.prog 71 (za0 code q) [.p 0] (za0 code q1) [(true,sqD s)]) (H2:PC Tryz.prog 29 (za0 code q1) [.p 0,.d false (iD 30)] (za0 code q2) [(true,iD 3)]) :
  PC Tryz.prog 21 (za0 code q) [.p 0] (za0 code (R m)) [(true,sqD ⟨s.left,s.right++upX X m⟩)]:=by
 simp only[sqD,zat s]at H1
 simp only[sqD,zat]
 refine zbp Tryz.call21 Tryz.func21 rfl Yn (by simp only[Qc,Qd,Tryz.ntmps21];omega) (by simp only[Tryz.ntmps21];omega) rfl rfl (by simp[zay,T.isPin,AF.ds,bxA]) (by simp[gFS,T.fs,T.flat,AF.ds,bxA]) rfl ?_
 simp -implicitDefEqProofs only[go_sem,Tryz.results21]
 refine zag [0,2,1000000] [4] [1000000] [] (H1) (by decide) rfl Ym Ym Ym Ym ?_
 simp -implicitDefEqProofs only[go_sem]
 refine zag [0,2,3,1000000] [6] [1000000] [] (H2) (by decide) rfl Ym Ym Ym Ym ?_
 simp -implicitDefEqProofs only[go_sem]
 rw[<-hQ0]
 refine zaf (fun k=>qme code (Q k) s X k) (fun k=>k<=m) (fun k=>m-k) 0 (zb0 161 6000 ?_) (Q3 _) ?_
 ·simp -implicitDefEqProofs only[go_sem,zi6,Ks]
 ·intro k hk;obtain⟨hb,HB⟩:=hB k hk;have hw:IntKind.i64.wrap (9+B k)=9+B k:=za1 Yo Yo;by_cases hlt:k<m
  ·obtain⟨hc,HX⟩:=hX k hlt;have h0:(((s.right.length+k:Nat):Int)<9+B k)=True:=by simp only[hc]
   have hl2:s.right.length+k<=4294967295:=by omega
   simp only[fmD,zaa (X k)]at HX;show ex _ _ _ _ (hd _ _ _)
   simp -implicitDefEqProofs only[go_sem];refine drawn Yn ?_;simp -implicitDefEqProofs only[go_sem,Qa,Qi,zbh];refine zdr [1000000] (HB) (by decide) (by simp -implicitDefEqProofs only[go_sem,hw,Qa,Qi,zbh,h0]) (by simp -implicitDefEqProofs only[go_sem,hw,Qa,Qi,zbh,h0]) ?_;simp -implicitDefEqProofs only[go_sem,hw,Qa,Qi,zbh,h0];refine⟨Yn,?_⟩;refine drawn Yn ?_;simp -implicitDefEqProofs only[go_sem];refine zdr [1000000] (HX) (by decide) Ym Ym ?_;simp -implicitDefEqProofs only[go_sem];refine za2 Ym ?_;simp -implicitDefEqProofs only[go_sem];refine zgr true (by simp -implicitDefEqProofs only[go_sem,ne_eq,Qa,Qi,zbh,hl2]) ?_;simp -implicitDefEqProofs only[go_sem,ne_eq,Qa,Qi,zbh,hl2];refine⟨Yn,k+1,Yo,Yo,zac ?_⟩;rw[zjb,zu8,zaa (X k)];simp -implicitDefEqProofs only[go_sem]
  ·have e:k=m:=by omega
   subst e;have h0:(((s.right.length+k:Nat):Int)<9+B k)=False:=by simp only[hE]
   show ex _ _ _ _ (hd _ _ _)
   simp -implicitDefEqProofs only[go_sem];refine drawn Yn ?_;simp -implicitDefEqProofs only[go_sem,Qa,Qi,zbh];refine zdr [1000000] (HB) (by decide) (by simp -implicitDefEqProofs only[go_sem,hw,Qa,Qi,zbh,h0]) (by simp -implicitDefEqProofs only[go_sem,hw,Qa,Qi,zbh,h0]) ?_;simp -implicitDefEqProofs only[go_sem,hw,Qa,Qi,zbh,h0];kernel_rfl
structure SqBd (s:Sq):Prop where
 left:s.left.length<=20
 right:s.right.length<=20
 lw:∀f∈s.left,f.wt<=8000
 rw:∀f∈s.right,f.wt<=8000
theorem zq0 (code:List UInt8):Drw code 21 [.p 0] 4000 (fun s:Sq=>(true,sqD s)) SqBd:=fun q hq hp=>by
 obtain⟨q1,s,c1,p1,o1,H1⟩:=qg0 code q hq Yo
 obtain⟨q2,x,c2,p2,o2,H2⟩:=zeh code 30 Yo Yo q1 c1 Yo
 obtain⟨b1,b2,b3,b4⟩:=o1
 have b3':∀f∈s.left,f.wt<=8000:=fun f h=>by have:=b3 f h;omega
 have b4':∀f∈s.right,f.wt<=8000:=fun f h=>by have:=b4 f h;omega
 by_cases h4:4<=x
 ·exact⟨q2,s,c2,Yo,⟨Yo,Yo,b3',b4'⟩,qcs code q q1 q2 s x h4 H1 H2⟩
 rcases(show x=0\/x=1\/x=2\/x=3 by omega)with rfl|rfl|rfl|rfl
 ·obtain⟨q3,f,c3,p3,o3,H3⟩:=zq3 code q2 c2 Yo;refine⟨q3,⟨s.left++[f],s.right⟩,c3,Yo,⟨?_,(show s.right.length<=20 by omega),fun g hg=>?_,b4'⟩,qbh code q q1 q2 q3 s f Yo H1 H2 H3⟩
  ·show(s.left++[f]).length<=20
   rw[Qi,List.length_singleton];omega
  ·rcases Qt.1 hg with h|h
   ·exact b3' g h
   ·rw[Qw.1 h];exact o3
 ·refine⟨q2,⟨s.left,s.right++[zrF]⟩,c2,Yo,⟨(show s.left.length<=20 by omega),?_,b3',fun g hg=>?_⟩,zyj code q q1 q2 s Yo H1 H2⟩
  ·show(s.right++[zrF]).length<=20
   rw[Qi,List.length_singleton];omega
  ·rcases Qt.1 hg with h|h
   ·exact b4' g h
   ·rw[Qw.1 h];decide
 ·obtain⟨m,Q,R,B,X,hm,e0,hQ,hX,hE⟩:=qld zrF (zen code 2 Yo) 10 (11-s.left.length) s.left.length q2 Yo c2 Yo;have eR:=hQ m (Qz _);refine⟨R m,⟨s.left++upX X m,s.right⟩,eR.2.1,by have:=eR.2.2.1;omega,⟨?_,(show s.right.length<=20 by omega),fun g hg=>?_,b4'⟩,zvt code q q1 q2 s Yo m Yo Q R B X e0 (fun k hk=>(hQ k hk).2.2.2) (fun k hk=>⟨(hX k hk).1,(hX k hk).2.2⟩) hE H1 H2⟩
  ·show(s.left++upX X m).length<=20
   rw[Qi,zbh];omega
  ·rcases Qt.1 hg with h|h
   ·exact b3' g h
   ·obtain⟨i,hi,rfl⟩:=zmv h;have:=(hX i hi).2.1;omega
 ·obtain⟨m,Q,R,B,X,hm,e0,hQ,hX,hE⟩:=qld zrF (zen code 2 Yo) 9 (10-s.right.length) s.right.length q2 Yo c2 Yo;have eR:=hQ m (Qz _);refine⟨R m,⟨s.left,s.right++upX X m⟩,eR.2.1,by have:=eR.2.2.1;omega,⟨(show s.left.length<=20 by omega),?_,b3',fun g hg=>?_⟩,zwo code q q1 q2 s Yo m Yo Q R B X e0 (fun k hk=>(hQ k hk).2.2.2) (fun k hk=>⟨(hX k hk).1,(hX k hk).2.2⟩) hE H1 H2⟩
  ·show(s.right++upX X m).length<=20
   rw[Qi,zbh];omega
  ·rcases Qt.1 hg with h|h
   ·exact b4' g h
   ·obtain⟨i,hi,rfl⟩:=zmv h;have:=(hX i hi).2.1;omega
end Go.Proofs.YtpcmmboblbjpfaaGreat
namespace Go.Proofs.YtpcmmboblbjpfaaGreat
set_option linter.unusedSimpArgs false
set_option linter.unusedVariables false
set_option linter.unusedSectionVars false
set_option maxRecDepth 4000
open Go.RowKit
abbrev sqS (xs:List Sq):T:=.sl 2 (xs.map sqC)
def sqsW (xs:List Sq):Nat:=xs.length+(xs.map Sq.wt).sum
inductive Dv where
 | mk (rule:Int) (seq:Sq) (main:Int) (term:Tm) (cut:Fm) (parts:List Dv)
def Dv.rule:Dv->Int|.mk a _ _ _ _ _=>a
def Dv.seq:Dv->Sq|.mk _ a _ _ _ _=>a
def Dv.main:Dv->Int|.mk _ _ a _ _ _=>a
def Dv.term:Dv->Tm|.mk _ _ _ a _ _=>a
def Dv.cut:Dv->Fm|.mk _ _ _ _ a _=>a
def Dv.parts:Dv->List Dv|.mk _ _ _ _ _ a=>a
mutual
def Dv.fold {α:Type}(g:Int->Sq->Int->Tm->Fm->List Dv->List α->α):Dv->α
 | .mk r s m t c ps=>g r s m t c ps (Dv.folds g ps)
def Dv.folds {α:Type}(g:Int->Sq->Int->Tm->Fm->List Dv->List α->α):List Dv->List α
 | []=>[]
 | a::xs=>Dv.fold g a::Dv.folds g xs
end
theorem Dv.folds_map {α:Type}(g:Int->Sq->Int->Tm->Fm->List Dv->List α->α)(xs:List Dv):Dv.folds g xs=xs.map (Dv.fold g):=by
 induction xs with
 | nil=>rfl
 | cons a xs ih=>rw[Dv.folds,ih];rfl
theorem Dv.fold_eq {α:Type}(g:Int->Sq->Int->Tm->Fm->List Dv->List α->α)(a:Dv):Dv.fold g a=g a.rule a.seq a.main a.term a.cut a.parts (a.parts.map (Dv.fold g)):=by
 cases a;rw[Dv.fold,Dv.folds_map];rfl
def dvC:Dv->List T:=Dv.fold fun r s m t c _ rs=>[.int .i64 r,.sl 5 (s.left.map fmC),.sl 5 (s.right.map fmC),.int .i64 m,.str t.name,.sl 2 (t.args.map tmC),.int .i64 c.op,.str c.atom.name,.sl 2 (c.atom.args.map tmC),.str c.var,.sl 5 (c.parts.map fmC),.sl 12 rs]
theorem zfi (a:Dv):dvC a=[.int .i64 a.rule,.sl 5 (a.seq.left.map fmC),.sl 5 (a.seq.right.map fmC),.int .i64 a.main,.str a.term.name,.sl 2 (a.term.args.map tmC),.int .i64 a.cut.op,.str a.cut.atom.name,.sl 2 (a.cut.atom.args.map tmC),.str a.cut.var,.sl 5 (a.cut.parts.map fmC),.sl 12 (a.parts.map dvC)]:=Dv.fold_eq _ a
theorem zbq (r:Int)(s:Sq)(m:Int)(t:Tm)(c:Fm)(ps:List Dv):dvC (.mk r s m t c ps)=[.int .i64 r,.sl 5 (s.left.map fmC),.sl 5 (s.right.map fmC),.int .i64 m,.str t.name,.sl 2 (t.args.map tmC),.int .i64 c.op,.str c.atom.name,.sl 2 (c.atom.args.map tmC),.str c.var,.sl 5 (c.parts.map fmC),.sl 12 (ps.map dvC)]:=zfi _
abbrev dvD (a:Dv):D:=.agg (dvC a)
abbrev dvS (xs:List Dv):T:=.sl 12 (xs.map dvC)
def Dv.wt:Dv->Nat:=Dv.fold fun _ s _ t c ps rs=>s.wt+t.wt+c.wt+(ps.length+rs.sum)
theorem Dv.wt_eq (a:Dv):a.wt=a.seq.wt+a.term.wt+a.cut.wt+(a.parts.length+(a.parts.map Dv.wt).sum):=Dv.fold_eq _ a
end Go.Proofs.YtpcmmboblbjpfaaGreat
namespace Go.Proofs
open Go.Shelf
set_option maxRecDepth 100000
def Tryz.lays190_ren : Go.Shelf.Ren := ⟨fun | 190 => 102 | 125 => 174 | 258 => 173 | 128 => 233 | 129 => 234 | 302 => 224 | 303 => 225 | 304 => 226 | 305 => 227 | 306 => 228 | 307 => 229 | 308 => 230 | 309 => 231 | 310 => 232 | 333 => 262 | 329 => 263 | 330 => 264 | 334 => 265 | 335 => 266 | 336 => 248 | 344 => 285 | n => n, fun | 31 => 41 | 9 => 9 | 3 => 3 | 46 => 177 | 0 => 0 | 51 => 222 | 53 => 65 | 4 => 4 | 183 => 215 | 182 => 214 | 131 => 62 | 5 => 5 | 218 => 240 | 222 => 244 | 228 => 255 | 229 => 256 | n => n, fun | n => n⟩
theorem Tryz.lays190 : Go.Proofs.Lays.n190 Tryz.prog Tryz.lays190_ren := {
 mixed := by kernel_rfl
 f125 := Tryz.func174.trans (congrArg some (by kernel_rfl))
 f128 := Tryz.func233.trans (congrArg some (by kernel_rfl))
 f129 := Tryz.func234.trans (congrArg some (by kernel_rfl))
 f190 := Tryz.func102.trans (congrArg some (by kernel_rfl))
 f258 := Tryz.func173.trans (congrArg some (by kernel_rfl))
 f302 := Tryz.func224.trans (congrArg some (by kernel_rfl))
 f303 := Tryz.func225.trans (congrArg some (by kernel_rfl))
 f304 := Tryz.func226.trans (congrArg some (by kernel_rfl))
 f305 := Tryz.func227.trans (congrArg some (by kernel_rfl))
 f306 := Tryz.func228.trans (congrArg some (by kernel_rfl))
 f307 := Tryz.func229.trans (congrArg some (by kernel_rfl))
 f308 := Tryz.func230.trans (congrArg some (by kernel_rfl))
 f309 := Tryz.func231.trans (congrArg some (by kernel_rfl))
 f310 := Tryz.func232.trans (congrArg some (by kernel_rfl))
 f329 := Tryz.func263.trans (congrArg some (by kernel_rfl))
 f330 := Tryz.func264.trans (congrArg some (by kernel_rfl))
 f333 := Tryz.func262.trans (congrArg some (by kernel_rfl))
 f334 := Tryz.func265.trans (congrArg some (by kernel_rfl))
 f335 := Tryz.func266.trans (congrArg some (by kernel_rfl))
 f336 := Tryz.func248.trans (congrArg some (by kernel_rfl))
 f344 := Tryz.func285.trans (congrArg some (by kernel_rfl))
 t0 := Tryz.underlying0
 a0 := Tryz.isAgg0
 z0 := Tryz.sizeOf0
 v0 := Tryz.zeroValue0
 t3 := Tryz.underlying3
 a3 := Tryz.isAgg3
 z3 := Tryz.sizeOf3
 v3 := Tryz.zeroValue3
 t4 := Tryz.underlying4
 a4 := Tryz.isAgg4
 z4 := Tryz.sizeOf4
 v4 := Tryz.zeroValue4
 t5 := Tryz.underlying5
 a5 := Tryz.isAgg5
 z5 := Tryz.sizeOf5
 v5 := Tryz.zeroValue5
 t9 := Tryz.underlying9
 a9 := Tryz.isAgg9
 z9 := Tryz.sizeOf9
 v9 := Tryz.zeroValue9
 t31 := Tryz.underlying41
 a31 := Tryz.isAgg41
 z31 := Tryz.sizeOf41
 v31 := Tryz.zeroValue41
 t46 := Tryz.underlying177
 a46 := Tryz.isAgg177
 z46 := Tryz.sizeOf177
 v46 := Tryz.zeroValue177
 t51 := Tryz.underlying222
 a51 := Tryz.isAgg222
 z51 := Tryz.sizeOf222
 v51 := Tryz.zeroValue222
 t53 := Tryz.underlying65
 a53 := Tryz.isAgg65
 z53 := Tryz.sizeOf65
 v53 := Tryz.zeroValue65
 t131 := Tryz.underlying62
 a131 := Tryz.isAgg62
 z131 := Tryz.sizeOf62
 v131 := Tryz.zeroValue62
 t182 := Tryz.underlying214
 a182 := Tryz.isAgg214
 z182 := Tryz.sizeOf214
 v182 := Tryz.zeroValue214
 t183 := Tryz.underlying215
 a183 := Tryz.isAgg215
 z183 := Tryz.sizeOf215
 v183 := Tryz.zeroValue215
 t218 := Tryz.underlying240
 a218 := Tryz.isAgg240
 z218 := Tryz.sizeOf240
 v218 := Tryz.zeroValue240
 t222 := Tryz.underlying244
 a222 := Tryz.isAgg244
 z222 := Tryz.sizeOf244
 v222 := Tryz.zeroValue244
 t228 := Tryz.underlying255
 a228 := Tryz.isAgg255
 z228 := Tryz.sizeOf255
 v228 := Tryz.zeroValue255
 t229 := Tryz.underlying256
 a229 := Tryz.isAgg256
 z229 := Tryz.sizeOf256
 v229 := Tryz.zeroValue256 }
end Go.Proofs
