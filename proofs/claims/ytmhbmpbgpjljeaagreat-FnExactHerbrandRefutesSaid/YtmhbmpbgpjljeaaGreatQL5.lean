/-
  The walk over plain data, and contracts of functions of the program and of its laws.
  Conditions: those that each theorem names.
-/
import Derived.Test.YtmhbmpbgpjljeaaGreatQL4
import Derived.MapKept
import Derived.OrdersIn
import Derived.Laws.IdiomRangeMap
namespace Go.Proofs.YtmhbmpbgpjljeaaGreat
set_option linter.unusedSimpArgs false
set_option linter.unusedVariables false
set_option linter.unusedSectionVars false
set_option maxRecDepth 4000
set_option maxHeartbeats 8000000
section
open Go.RowKit
variable {P:Program}
structure KeptB (W:List Nat)(σ τ:St):Prop where
 sl:∀i,τ.sl i=.one .any\/(τ.sl i=σ.sl i/\(τ.sl i).okU τ)
 bx:∀b cs,b∉W->τ.bx b=some cs->σ.bx b=some cs/\qi7 τ cs
 bxW:∀b∈W,σ.bx b≠none/\τ.bx b≠none
 ev:∀e x,τ.ev e=some x->σ.ev e=some x/\x.on=true/\x.deep=true
theorem Rel.givenB {W:List Nat}{n0:Nat->Prop}{N:Nat}{σ τ:St}{g g':Gh}{a:Act}{w w':World}(hR:Rel n0 N σ g a w)(hn0:LtK n0 w)(hK:KeptB W σ τ){fp:List Nat}(hfp:∀b∈fp,∃e,σ.On e/\τ.ev e=none/\b∈g.φ e)(hbk:Bk (λk=>k<w.heap.size/\k∉fp/\∀b∈W,k≠g.β b) w w')
  {ev':Nat->Option Ev} {F:List Nat} (hn:New τ g (λb=>b∈fp\/w.heap.size<=b) w' ev' g' F) (hW:∀b∈W,∀cs,τ.bx b=some cs->∃vs ty,w'.heap[g.β b]?=some (.cells vs ty (0,0))/\CRs ⟨τ.sl,τ.bx,ev'⟩ g' w' cs vs.toList):Rel n0 N ⟨τ.sl,τ.bx,ev'⟩ g' a w':=by
 have hOnσ:∀e,τ.On e->σ.On e:=λe ⟨x,hx,ho⟩=>⟨x,(hK.ev e x hx).1,ho⟩
 have hlt:∀e,σ.On e->∀b∈g.φ e,b<w.heap.size:=λe ⟨x,hx,ho⟩=>(hR.evs e x hx ho).lt
 have hbne:∀b,τ.bx b≠none->σ.bx b≠none:=λb hb=>by
  by_cases hbW:b∈W
  ·exact(hK.bxW b hbW).1
  obtain⟨cs,hcs⟩:=K3.1 hb;rw[(hK.bx b cs hbW hcs).1];simp
 have hfR:∀b∈fp,g.A0 b/\g.R0 b/\¬n0 b:=λb hb=>by
  obtain⟨e,ho,_,hm⟩:=hfp b hb;obtain⟨k1,k2⟩:=hR.ebase e ho b hm;exact⟨k1,k2,hR.etop e ho b hm⟩
 have hNB:∀b,(b∈fp\/w.heap.size<=b)->g.A0 b/\g.R0 b/\¬n0 b:=λb hb=>by
  rcases hb with hb|hb
  ·exact hfR b hb
  ·have hnn:=hn0.new hb;exact⟨(hR.anew b hnn).1,(hR.anew b hnn).2,hnn⟩
 have hβfp:∀b,τ.bx b≠none->¬(g.β b∈fp\/w.heap.size<=g.β b):=λb hb h=>by
  rcases h with h|h
  ·obtain⟨e,ho,_,hm⟩:=hfp _ h;exact hR.ebx e b ho (hbne b hb) hm
  ·have:=hR.lt (hbne b hb);omega
 have hφfp:∀e,τ.On e->∀b∈g.φ e,¬(b∈fp\/w.heap.size<=b):=λe ho b hb h=>by
  rcases h with h|h
  ·obtain⟨e',ho',hno,hm⟩:=hfp b h;refine hR.apart e e' (hOnσ e ho) ho' (λhee=>?_) b hb hm;subst hee;obtain⟨x,hx,_⟩:=ho;rw[hx]at hno;cases hno
  ·have:=hlt e (hOnσ e ho) b hb;omega
 have hon:∀e,St.On ⟨τ.sl,τ.bx,ev'⟩ e->τ.ev e≠none->τ.On e:=λe ⟨x,hx,ho⟩ hee=>⟨x,(hn.old e hee).1.symm.trans hx,ho⟩
 have hkeep:∀b,b<w.heap.size->b∉fp->(∀k∈W,b≠g.β k)->w'.heap[b]?=w.heap[b]?:=λb h1 h2 h3=>hbk.block b ⟨h1,h2,h3⟩
 have hrn:∀b,zcl σ g w b->w'.heap[b]?=w.heap[b]?/\zcl ⟨τ.sl,τ.bx,ev'⟩ g' w' b:=λb hb=>by
  obtain⟨hf,hr⟩:=hb;have hnb:∀e,St.On ⟨τ.sl,τ.bx,ev'⟩ e->b∉g'.φ e:=λe ho hm=>by
   by_cases hee:τ.ev e=none
   ·obtain⟨x,hx,_⟩:=ho;rcases((hn.new e x hee hx).2.2.1 b hm).1 with h|h
    ·obtain⟨e',ho',_,hm'⟩:=hfp b h;exact hr e' ho' hm'
    ·have:=hf.2.2.1;omega
   ·rw[(hn.old e hee).2.2]at hm;exact hr e (hOnσ e (hon e ho hee)) hm
  refine⟨hkeep b hf.2.2.1 (λhm=>by obtain⟨e',ho',_,hm'⟩:=hfp b hm;exact hr e' ho' hm') (λk hk e=>hf.1 k (hK.bxW k hk).1 e.symm),⟨λk hk=>by rw[hn.β];exact hf.1 k (hbne k hk),λe x hx hon' hh=>hnb e ⟨x,hx,hon'⟩ (List.mem_of_mem_head? hh),Je hf.2.2.1 hbk.size,by rw[hn.A0];exact hf.2.2.2⟩,hnb⟩
 have hψ:∀e,τ.ev e≠none->ev' e=τ.ev e/\g'.ψ e=g.ψ e:=λe he=>⟨(hn.old e he).1,(hn.old e he).2.1⟩
 refine⟨by rw[hR.defers],hR.size,by rw[hn.A0,hn.R0];exact hR.anew,λi=>?_,λb cs hb=>?_,λb hb=>by rw[hn.β];exact hR.base b (hbne b hb),λb b' h1 h2 h3=>by rw[hn.β]at h3;exact hR.inj b b' (hbne b h1) (hbne b' h2) h3,λe x he ho=>?_,λe x he ho=>?_,hn.slc,λe he b hb=>?_,λe he b hb=>?_,λe he=>?_,λe e' h1 h2 hne b hb1 hb2=>?_,λe k he hk hm=>?_⟩
 ·rcases hK.sl i with h|⟨h,hok⟩
  ·rw[show(⟨τ.sl,τ.bx,ev'⟩:St).sl i=.one .any from h];trivial
  ·rw[hn.R0];show VR _ g' w' (τ.sl i) _
   have hs:=hR.slots i;rw[<-h]at hs;exact qoi hn.β hψ hrn hok hs
 ·by_cases hbW:b∈W
  ·rw[hn.β];exact hW b hbW cs hb
  obtain⟨hb1,hb2⟩:=hK.bx b cs hbW hb;obtain⟨vs,ty,k1,k2⟩:=hR.boxes b cs hb1;have hne:τ.bx b≠none:=by rw[show τ.bx b=some cs from hb];simp
  have hnf:=hβfp b hne;exact⟨vs,ty,by rw[hn.β,hkeep _ (hR.lt (hbne b hne)) (λh=>hnf (Or.inl h)) (λk hk e=>hbW (hR.inj b k (hbne b hne) (hK.bxW k hk).1 e▸hk))];exact k1,zlm hn.β hψ hrn hb2 k2⟩
 ·by_cases hee:τ.ev e=none
  ·obtain⟨⟨k1,_,k0⟩,k2,k3,k4⟩:=hn.new e x hee he;rw[k0];unfold zas at k2;obtain⟨ao,cap,j1,j2,j3,j4⟩:=k2;refine⟨ao,cap,j1,j2,j3,?_⟩;rcases j4 with j4|⟨b,cells,ty,fps,j4,j5,j6,j7,j8⟩
   ·exact Or.inl j4
   ·exact Or.inr ⟨b,cells,ty,fps,j4,j5,j6,j7,by rw[if_pos k1];exact j8⟩
  ·obtain⟨o1,o2,o3⟩:=hn.old e hee;have hx:τ.ev e=some x:=o1.symm.trans he;obtain⟨k1,k2,k3⟩:=hK.ev e x hx;have hE:=hR.evs e x k1 k2;have hno:=hφfp e ⟨x,hx,k2⟩;have hl:=hlt e ⟨x,k1,k2⟩;have hkp:∀b∈g.φ e,w'.heap[b]?=w.heap[b]?:=λb hb=>hkeep b (hl b hb) (λh=>hno b hb (Or.inl h)) λk' hk' e=>hR.ebx _ k' ⟨x,k1,k2⟩ (hK.bxW k' hk').1 (e▸hb);rw[o2,o3];obtain⟨ao,cap,r1,r2,r3,r4⟩:=hE;refine⟨ao,cap,r1,r2,r3,?_⟩;rcases r4 with r4|⟨b,cells,ty,fps,r4,r5,r6,r7,r8⟩
   ·exact Or.inl r4
   ·rw[if_pos k3]at r8;exact Or.inr ⟨b,cells,ty,fps,r4,r5,by rw[hkp b (by rw[r5];simp)];exact r6,r7,by rw[if_pos k3];exact zak.keep cells 0 x.sz x.rows fps r8 λb' hb'=>hkp b' (by rw[r5];simp[hb'])⟩
 ·by_cases hee:τ.ev e=none
  ·rw[(hn.new e x hee he).1.2.1]at ho;cases ho
  ·have hx:τ.ev e=some x:=(hn.old e hee).1.symm.trans he;rw[(hK.ev e x hx).2.1]at ho;cases ho
 ·rw[hn.A0,hn.R0];by_cases hee:τ.ev e=none
  ·obtain⟨x,hx,_⟩:=he;have:=hNB b ((hn.new e x hee hx).2.2.1 b hb).1;exact⟨this.1,this.2.1⟩
  ·rw[(hn.old e hee).2.2]at hb;exact hR.ebase e (hOnσ e (hon e he hee)) b hb
 ·by_cases hee:τ.ev e=none
  ·obtain⟨x,hx,_⟩:=he;exact(hNB b ((hn.new e x hee hx).2.2.1 b hb).1).2.2
  ·rw[(hn.old e hee).2.2]at hb;exact hR.etop e (hOnσ e (hon e he hee)) b hb
 ·by_cases hee:τ.ev e=none
  ·obtain⟨x,hx,_⟩:=he;exact(hn.new e x hee hx).2.2.2
  ·rw[(hn.old e hee).2.2];exact hR.nodup e (hOnσ e (hon e he hee))
 ·by_cases hee:τ.ev e=none
  ·obtain⟨x,hx,_⟩:=h1;by_cases hee':τ.ev e'=none
   ·obtain⟨x',hx',_⟩:=h2;exact hn.apart e e' hee hee' (by rw[show ev' e=some x from hx];simp) (by rw[show ev' e'=some x' from hx'];simp) hne b hb1 hb2
   ·rw[(hn.old e' hee').2.2]at hb2;exact hφfp e' (hon e' h2 hee') b hb2 ((hn.new e x hee hx).2.2.1 b hb1).1
  ·rw[(hn.old e hee).2.2]at hb1;by_cases hee':τ.ev e'=none
   ·obtain⟨x',hx',_⟩:=h2;exact hφfp e (hon e h1 hee) b hb1 ((hn.new e' x' hee' hx').2.2.1 b hb2).1
   ·rw[(hn.old e' hee').2.2]at hb2;exact hR.apart e e' (hOnσ e (hon e h1 hee)) (hOnσ e' (hon e' h2 hee')) hne b hb1 hb2
 ·rw[hn.β]at hm;by_cases hee:τ.ev e=none
  ·obtain⟨x,hx,_⟩:=he;exact hβfp k hk ((hn.new e x hee hx).2.2.1 _ hm).1
  ·rw[(hn.old e hee).2.2]at hm;exact hR.ebx e k (hOnσ e (hon e he hee)) (hbne k hk) hm
def mtK (W:List Nat):List AF->List V->(List V->Prop)->Prop
 | [],[],K=>K []
 | .d _ _::l,v::vs,K=>mtK W l vs λu=>K (v::u)
 | .p j::l,.one (.bx b o)::vs,K=>W[j]?=some b/\o=0/\mtK W l vs K
 | .fn g js::l,.one (.fn g' bs)::vs,K=>g'=g/\js.map (λj=>W[j]?)=bs.map some/\mtK W l vs K
 | _,_,_=>False
theorem qe3 {g:Gh}{W:List Nat}{bs:Nat->Nat}(hb:∀j b,W[j]?=some b->bs j=g.β b):∀(js bs':List Nat),js.map (λj=>W[j]?)=bs'.map some->bs'.map (λb=>Value.pointer (some ⟨g.β b,0,none⟩))=js.map λj=>zl7 (bs j)
 | [],[],_=>rfl
 | [],_::_,e=>by cases e
 | _::_,[],e=>by cases e
 | j::js,b::bs',e=>by
  simp only[Qk,Jv]at e;rw[Qk,Qk,qe3 hb js bs' e.2,hb j b e.1];rfl
theorem zg6 {σ:St}{g:Gh}{w:World}{W:List Nat}{bs:Nat->Nat}(hb:∀j b,W[j]?=some b->bs j=g.β b):∀{l:List AF}{xs:List V}{K:List V->Prop}{vs:List Value},mtK W l xs K->VRl σ g w xs vs →
  ∃us dvs,K us/\VRl σ g w us dvs/\dvs.length=(AF.ds l).length/\vs=AF.vals bs l dvs
 | [],[],K,vs,h,hv=>⟨[],[],h,rfl,rfl,hv⟩
 | .d _ _::l,x::xs,K,vs,h,hv=>by
  obtain⟨v,vs',rfl,h1,h2⟩:=hv;obtain⟨us,dvs,k1,k2,k3,k4⟩:=zg6 hb (l:=l) h h2;exact⟨x::us,v::dvs,k1,⟨v,dvs,rfl,h1,k2⟩,by simp[AF.ds,k3],by rw[k4];rfl⟩
 | .p j::l,.one (.bx b o)::xs,K,vs,h,hv=>by
  obtain⟨v,vs',rfl,h1,h2⟩:=hv;obtain⟨e1,rfl,h⟩:=h;obtain⟨us,dvs,k1,k2,k3,k4⟩:=zg6 hb (l:=l) h h2;refine⟨us,dvs,k1,k2,k3,?_⟩;have h1:CR σ g w (.bx b 0) v:=h1;rw[k4,h1.1,<-hb j b e1];rfl
 | .fn f js::l,.one (.fn f' bs')::xs,K,vs,h,hv=>by
  obtain⟨v,vs',rfl,h1,h2⟩:=hv;obtain⟨rfl,e1,h⟩:=h;obtain⟨us,dvs,k1,k2,k3,k4⟩:=zg6 hb (l:=l) h h2;refine⟨us,dvs,k1,k2,k3,?_⟩;have h1:CR σ g w (.fn f' bs') v:=h1;rw[k4,h1.1];rw[qe3 hb js bs' e1];rfl
 | .d _ _::_,[],_,_,h,_=>h.elim
 | .p _::_,[],_,_,h,_=>h.elim
 | .fn _ _::_,[],_,_,h,_=>h.elim
 | [],_::_,_,_,h,_=>h.elim
 | .p _::_,.agg _::_,_,_,h,_=>h.elim
 | .p _::_,.tup _::_,_,_,h,_=>h.elim
 | .fn _ _::_,.agg _::_,_,_,h,_=>h.elim
 | .fn _ _::_,.tup _::_,_,_,h,_=>h.elim
 | .p _::_,.one (.t _)::_,_,_,h,_=>h.elim
 | .p _::_,.one (.nl _)::_,_,_,h,_=>h.elim
 | .p _::_,.one (.ow _ _)::_,_,_,h,_=>h.elim
 | .p _::_,.one (.el _ _)::_,_,_,h,_=>h.elim
 | .p _::_,.one (.eo _ _ _ _ _)::_,_,_,h,_=>h.elim
 | .p _::_,.one (.fn _ _)::_,_,_,h,_=>h.elim
 | .p _::_,.one (.cv _)::_,_,_,h,_=>h.elim
 | .p _::_,.one .any::_,_,_,h,_=>h.elim
 | .p _::_,.one (.rn _)::_,_,_,h,_=>h.elim
 | .p _::_,.one (.er _ _)::_,_,_,h,_=>h.elim
 | .fn _ _::_,.one (.t _)::_,_,_,h,_=>h.elim
 | .fn _ _::_,.one (.nl _)::_,_,_,h,_=>h.elim
 | .fn _ _::_,.one (.ow _ _)::_,_,_,h,_=>h.elim
 | .fn _ _::_,.one (.el _ _)::_,_,_,h,_=>h.elim
 | .fn _ _::_,.one (.eo _ _ _ _ _)::_,_,_,h,_=>h.elim
 | .fn _ _::_,.one (.bx _ _)::_,_,_,h,_=>h.elim
 | .fn _ _::_,.one (.cv _)::_,_,_,h,_=>h.elim
 | .fn _ _::_,.one .any::_,_,_,h,_=>h.elim
 | .fn _ _::_,.one (.rn _)::_,_,_,h,_=>h.elim
 | .fn _ _::_,.one (.er _ _)::_,_,_,h,_=>h.elim
def qqa (σ:St):List Nat->Bxs->(List V->Prop)->Prop
 | [],[],K=>K []
 | k::W,b::bx,K=>zaq (σ.bx k) λcs=>cs.length=b.length/\qqa σ W bx λl=>K (cs.map .one++l)
 | _,_,_=>False
theorem zms {n0:Nat->Prop}{N:Nat}{σ:St}{g:Gh}{a:Act}{w:World}(hR:Rel n0 N σ g a w){bs:Nat->Nat}:∀{W:List Nat}{bx:Bxs}{j:Nat}{K:List V->Prop},(∀i b,W[i]?=some b->bs (j+i)=g.β b)->qqa σ W bx K →
  ∃l bvs,K l/\VRl σ g w l bvs.flatten/\zfd w bs j bvs bx/\W.length=bx.length/\∀b∈W,σ.bx b≠none
 | [],[],j,K,_,h=>⟨[],[],h,rfl,trivial,rfl,λb hb=>by simp at hb⟩
 | k::W,b::bx,j,K,hb,h=>by
  obtain⟨cs,h1,h2,h3⟩:=zao h;obtain⟨l,bvs,k1,k2,k3,k4,k5⟩:=zms hR (W:=W) (bx:=bx) (j:=j+1) (λi b hi=>by have:=hb (i+1) b (by simpa using hi);rw[show j+(i+1)=j+1+i by omega]at this;exact this) h3;obtain⟨us,ty,j1,j2⟩:=hR.boxes k cs h1;have hk:=hb 0 k rfl;rw[Yx]at hk;refine⟨_,us.toList::bvs,k1,VRl.append j2.ones k2,⟨by rw[j2.len,h2],⟨ty,by rw[hk];exact j1⟩,k3⟩,by simp[k4],λx hx=>?_⟩;rcases Qs.1 hx with rfl|hx
  ·rw[h1];simp
  ·exact k5 x hx
 | [],_::_,_,_,_,h=>h.elim
 | _::_,[],_,_,_,h=>h.elim
theorem qe0 {σ:St}{K K':List V->Prop}(hK:∀l,K l->K' l):∀{W:List Nat}{bx:Bxs},qqa σ W bx K->qqa σ W bx K':=fun {W}=>by
 induction W generalizing K K' with
 | nil=>intro bx h;cases bx with
  | nil=>exact hK _ h
  | cons _ _=>exact h.elim
 | cons k W ih=>intro bx h;cases bx with
  | nil=>exact h.elim
  | cons b bx =>
   obtain⟨cs,h1,h2,h3⟩:=zao h;show zaq (σ.bx k) _
   rw[h1];exact⟨h2,ih (λl=>hK _) h3⟩
theorem qkm {W:List Nat}:∀{l:List AF}{xs:List V}{K K':List V->Prop},(∀u,K u->K' u)->mtK W l xs K->mtK W l xs K':=fun {l}=>by
 induction l with
 | nil=>intro xs K K' hK h;cases xs with
  | nil=>exact hK _ h
  | cons _ _=>exact h.elim
 | cons a l ih=>intro xs K K' hK h;cases xs with
  | nil=>cases a<;>exact h.elim
  | cons x xs =>
   cases a with
   | d b y=>exact ih (λu=>hK _) h
   | p j =>
    cases x with
    | one c=>cases c<;>first|exact h.elim|exact⟨h.1,h.2.1,ih hK h.2.2⟩
    | agg _=>exact h.elim
    | tup _=>exact h.elim
   | fn g js =>
    cases x with
    | one c=>cases c<;>first|exact h.elim|exact⟨h.1,h.2.1,ih hK h.2.2⟩
    | agg _=>exact h.elim
    | tup _=>exact h.elim
def zj4 (d:Nat):Nat->List Nat->Bxs->(Nat->Option (List C))->(Nat->Option (List C))
 | m,k::W,b::bx,f=>upd (zj4 d (m+b.length) W bx f) k (some (mC d m b))
 | _,_,_,f=>f
theorem zxy (d:Nat):∀(W:List Nat)(bx:Bxs)(m:Nat)(f:Nat->Option (List C))(b:Nat),b∉W->zj4 d m W bx f b=f b
 | [],_,_,_,_,_=>by unfold zj4;rfl
 | k::W,[],_,_,_,_=>by unfold zj4;rfl
 | k::W,c::bx,m,f,b,hb=>by
  unfold zj4;rw[zan _ _ (λe=>hb (by simp[e]))];exact zxy d W bx _ f b λh=>hb (by simp[h])
theorem qhc (d:Nat):∀(W:List Nat)(bx:Bxs)(m:Nat)(f:Nat->Option (List C))(b:Nat),W.length=bx.length->b∈W->zj4 d m W bx f b≠none
 | [],_,_,_,_,_,hb=>by simp at hb
 | k::W,[],_,_,_,hl,_=>by simp at hl
 | k::W,c::bx,m,f,b,hl,hb=>by
  unfold zj4;by_cases h:b=k
  ·subst h;rw[zah];simp
  ·rw[zan _ _ h];exact qhc d W bx _ f b (by simpa using hl) ((Qs.1 hb).resolve_left h)
theorem zmy {σ:St}{g:Gh}{w:World}{bs:Nat->Nat}(d:Nat){β:Nat->Nat}:∀(W:List Nat)(bx:Bxs)(bvs:List (List Value))(j m:Nat)(f:Nat->Option (List C)),(∀i b,W[i]?=some b->bs (j+i)=β b)->zfd w bs j bvs bx->CRs σ g w (mC d m bx.flatten) bvs.flatten->W.length=bx.length →
  ∀b∈W,∀cs,zj4 d m W bx f b=some cs->∃vs ty,w.heap[β b]?=some (.cells vs ty (0,0))/\CRs σ g w cs vs.toList
 | [],_,_,_,_,_,_,_,_,_,b,hb,_,_=>by simp at hb
 | k::W,[],_,_,_,_,_,_,_,hl,_,_,_,_=>by simp at hl
 | k::W,c::bx,[],_,_,_,_,h0,_,_,_,_,_,_=>h0.elim
 | k::W,c::bx,vs::bvs,j,m,f,hβ,h0,hc,hl,b,hb,cs,hs=>by
  obtain⟨h1,⟨ty,h2⟩,h3⟩:=h0;rw[Q5,Q5,zfu]at hc;obtain⟨v1,v2,e,c1,c2⟩:=hc.split;obtain⟨e1,e2⟩:=Yv e (by rw[c1.len,zqy,h1]);subst e1 e2;unfold zj4 at hs;by_cases h:b=k
  ·subst h;rw[zah]at hs;cases hs;have:=hβ 0 b rfl;rw[Yx]at this;exact⟨⟨vs⟩,ty,by rw[<-this];exact h2,c1⟩
  ·rw[zan _ _ h]at hs;exact zmy d W bx bvs (j+1) (m+c.length) f (λi b hi=>by have:=hβ (i+1) b (by simpa using hi);rw[show j+(i+1)=j+1+i by omega]at this;exact this) h3 c2 (by simpa using hl) b ((Qs.1 hb).resolve_left h) cs hs
def St.callP (σ:St)(d:Nat)(W:List Nat)(bx':Bxs)(res:List (Bool×D)):St:={ sl:=upd σ.sl d (qh4 (mD d 0 res)),bx:=zj4 d (zce res).length W bx' σ.bx,ev:=mE d 0 (zce res++bx'.flatten) σ.ev }
theorem CRs.split_flat {σ:St}{g:Gh}{w w':World}{A:Nat->Prop}{d m:Nat}{l:List (Bool×T)}{c:Bxs}{us vs:List Value}(h:CRs σ g w (mC d 0 (l++c.flatten)) (us++vs))(hl:us.length=l.length):CRs σ g w (mC d 0 l) us/\CRs σ g w (mC d l.length c.flatten) vs:=by
 rw[zfu]at h
 obtain⟨v1,v2,e,c1,c2⟩:=h.split
 obtain⟨e1,e2⟩:=Yv e (by rw[c1.len,zqy,hl])
 subst e1 e2
 rw[Qi]at c2
 exact⟨c1,c2⟩
theorem zaw.one_vals {w:World}{A:Nat->Prop}:∀{ds:List (Bool×D)}{vs:List Value}{fp tp:List Nat},zaw w A ds vs fp tp->(vs.flatMap λu=>u.cells.toList).length=(zce ds).length:=fun {ds vs fp tp} h=>by
 obtain⟨tp',h'⟩:=h.flat
 rw[zaw.len h']
 unfold bxA
 rw[Qa]
theorem qec {W:List Nat}{o:Oper}{σ:St}{τs:Nat->V}{τe:Nat->Option Ev}{τb:Nat->Option (List C)}{x:Operand}{asx:Array Operand}{ts:Array TypeId}{f:FuncId}{cvs:List V}{d:Nat}{bx bx':Bxs}{l:List AF}{res:List (Bool×D)}{ps:List (Nat×Nat×Nat)}(ho:o.op=.call ⟨.value x,asx,ts⟩)(hd:o.dst=some d)
  (h:PC P f bx l bx' res) (hc:za3 (σ.get P 0 x)=some (f,cvs)) (hK:KeptB W σ ⟨τs,zj4 d (zce res).length W bx' τb,τe⟩) (hWn:W.Nodup)
  (hv:mtK W l (σ.gets P asx ts++cvs) λus=>qqa σ W bx λcs=>gvA σ (λu=>∀s∈u,τe s.1=none) [] ps (us++cs) (AF.ds l++bxA bx.flatten)) (hf:mF d 0 (zce res++bx'.flatten) τe):zag P o σ (St.callP ⟨τs,τb,τe⟩ d W bx' res):=by
 intro n0 N g a w hR hn hdN
 obtain⟨vs,h1,h2⟩:=zd7 hR ho hc h.1
 unfold Oper.wp
 rw[h1]
 obtain⟨B,hB⟩:=hR.fam
 let bs:Nat->Nat:=λj=>g.β (W.getD j 0)
 have hbs:∀j b,W[j]?=some b->bs j=g.β b:=λj b hj=>by show g.β (W.getD j 0)=_;rw[List.getD_eq_getElem?_getD,hj];rfl
 obtain⟨us,dvs,a1,a2,a3,rfl⟩:=zg6 hbs hv h2
 obtain⟨cs,bvs,b1,b2,b3,b4,b5⟩:=zms hR (bs:=bs) (j:=0) (λi b hi=>by rw[Qi];exact hbs i b hi) a1
 obtain⟨s,k1,⟨tp,k2⟩,k3,k4⟩:=zf9 hR hB b1 (VRl.append a2 b2)
 rw[Kh]at k1 k4
 have hsp:s.Pairwise okP:=(Yu.1 (k4 List.Pairwise.nil)).imp λh=>h.symm
 have hnd:=zef hR hB k3 hsp
 have hfp:∀b∈bks B s,∃e,σ.On e/\τe e=none/\b∈g.φ e:=λb hb=>by
  obtain⟨x,hx,hm⟩:=Jw.1 hb;exact⟨x.1,k3 x hx,k1 x (List.mem_reverse.2 hx),hB.sub x.1 x.2 b (k3 x hx) hm⟩
 have hfn:∀b,zcl σ g w b->b∉bks B s:=λb hb hm=>by obtain⟨e,h1,_,h3⟩:=hfp b hm;exact hb.2 e h1 h3
 have hWj:∀j,j<bx.length->∃b,W[j]?=some b/\b∈W/\bs j=g.β b:=λj hj=>by
  have hlt:j<W.length:=by omega
  exact⟨W[j],List.getElem?_eq_getElem hlt,Qe hlt,hbs j _ (List.getElem?_eq_getElem hlt)⟩
 have hWb:∀b∈W,∃j,j<bx.length/\bs j=g.β b:=λb hb=>by
  obtain⟨j,hj,rfl⟩:=Js hb;exact⟨j,Zi,hbs j _ (List.getElem?_eq_getElem hj)⟩
 have hinj:∀i j,i<bx.length->j<bx.length->bs i=bs j->i=j:=λi j hi hj he=>by
  obtain⟨b,e1,e2,e3⟩:=hWj i hi;obtain⟨c,f1,f2,f3⟩:=hWj j hj;have:b=c:=hR.inj b c (b5 b e2) (b5 c f2) (by rw[<-e3,<-f3];exact he);subst this;have hi':i<W.length:=by omega
  have hj':j<W.length:=by omega
  rw[List.getElem?_eq_getElem hi']at e1;rw[List.getElem?_eq_getElem hj']at f1;exact(List.getElem_inj hWn).1 ((Jg e1).trans (Jg f1).symm)
 have hbf:∀j,j<bx.length->bs j∉bks B s:=λj hj hm=>by
  obtain⟨b,_,e2,e3⟩:=hWj j hj;obtain⟨e,h1,_,h3⟩:=hfp _ hm;exact hR.ebx e b h1 (b5 b e2) (e3▸h3)
 have hfb:∀b,zcl σ g w b->∀j,j<bx.length->b≠bs j:=λb hb j hj e=>by
  obtain⟨c,_,e2,e3⟩:=hWj j hj;exact hb.1.1 c (b5 c e2) (by rw[<-e3,e])
 refine(h.2.2 w bs bvs dvs (bks B s) tp (zcl σ g w) hinj hbf b3 (zaw.keepA (λb hb=>⟨⟨hb.1.2.2.1,hfn b hb,hfb b hb⟩,hb⟩) k2) hnd a3).mono ?_
 rintro e w' ⟨us',bvs',fp',tp',rfl,hbx',hlu,o1,o2,o3,hbk⟩
 obtain⟨v1,v2,f1,f2,t1,t2,ev,ef,et,p1,p2⟩:=zaw.split o1
 obtain⟨rfl,rfl⟩:=Yv ev (by rw[hlu,zaw.len p1])
 subst ef
 obtain⟨t1',p1'⟩:=p1.flat
 have pp:=zaw.append p1' p2
 rw[<-zdt]at pp
 have hnew:=New.refl ⟨τs,zj4 d (zce res).length W bx' τb,τe⟩ g (λb=>b∈bks B s\/w.heap.size<=b) w' hR.slc
 obtain⟨g',q1,q2,q3⟩:=New.mix (τ:=⟨τs,zj4 d (zce res).length W bx' τb,τe⟩) (g:=g) (NB:=λb=>b∈bks B s\/w.heap.size<=b) (w':=w') d (zce res++bx'.flatten) _ (f1++f2) _ 0 τe g [] hnew hf pp o2 (λb hb'=>⟨o3 b hb',by simp⟩)
 have hbk':Bk (λk=>k<w.heap.size/\k∉bks B s/\∀b∈W,k≠g.β b) w w':=⟨hbk.os,hbk.tape,hbk.output,hbk.size,λk hk=>hbk.block k ⟨hk.1,hk.2.1,λj hj e=>by
  obtain⟨c,_,e2,e3⟩:=hWj j hj
  exact hk.2.2 c e2 (by rw[<-e3,e])⟩⟩
 have hfree:∀k,((k<w'.heap.size/\k∉f1++f2/\∀j,j<bx.length->k≠bs j)/\(zcl σ g w k\/w.heap.size<=k\/k∈bks B s))->zcl ⟨τs,zj4 d (zce res).length W bx' τb,mE d 0 (zce res++bx'.flatten) τe⟩ g' w' k:=λk hk=>by
  have hOnσ:∀e,St.On ⟨τs,zj4 d (zce res).length W bx' τb,τe⟩ e->σ.On e:=λe ⟨x,hx,ho⟩=>⟨x,(hK.ev e x hx).1,ho⟩;have hno:∀e,St.On ⟨τs,zj4 d (zce res).length W bx' τb,mE d 0 (zce res++bx'.flatten) τe⟩ e->k∉g'.φ e:=λe ho' hm=>by
   by_cases hee:τe e=none
   ·obtain⟨x,hx,_⟩:=ho';have:=((q1.new e x hee hx).2.2.1 k hm).2;rw[Jf]at this;exact hk.1.2.1 this
   ·rw[(q1.old e hee).2.2]at hm;obtain⟨x,hx,hon⟩:=ho';have ho2:St.On ⟨τs,zj4 d (zce res).length W bx' τb,τe⟩ e:=⟨x,(q1.old e hee).1.symm.trans hx,hon⟩;rcases hk.2 with h|h|h
    ·exact h.2 e (hOnσ e ho2) hm
    ·obtain⟨y,hy,hyo⟩:=hOnσ e ho2;have:=(hR.evs e y hy hyo).lt k hm;omega
    ·obtain⟨e',h1,h2,h3⟩:=hfp k h;refine hR.apart e e' (hOnσ e ho2) h1 (λee=>?_) k hm h3;subst ee;obtain⟨y,hy,_⟩:=ho2;have hy:τe e=some y:=hy;rw[h2]at hy;cases hy
  have hbne:∀b,zj4 d (zce res).length W bx' τb b≠none->σ.bx b≠none:=λb hb=>by
   by_cases hbW:b∈W
   ·exact(hK.bxW b hbW).1
   obtain⟨cs,hcs⟩:=K3.1 hb;rw[(hK.bx b cs hbW hcs).1];simp
  refine⟨⟨λj hj e=>?_,λe x hx hon hh=>hno e ⟨x,hx,hon⟩ (List.mem_of_mem_head? hh),hk.1.1,?_⟩,hno⟩
  ·have hj':=hbne j hj;rw[q1.β]at e;rcases hk.2 with h|h|h
   ·exact h.1.1 j hj' e
   ·have:=hR.lt hj';omega
   ·obtain⟨e',h1,_,h3⟩:=hfp k h;exact hR.ebx e' j h1 hj' (e▸h3)
  ·rw[q1.A0];rcases hk.2 with h|h|h
   ·exact h.1.2.2.2
   ·exact(hR.anew k (hn.new h)).1
   ·obtain⟨e',h1,_,h3⟩:=hfp k h;exact(hR.ebase e' h1 k h3).1
 have hcr:=q3 ⟨τs,zj4 d (zce res).length W bx' τb,mE d 0 (zce res++bx'.flatten) τe⟩ w' rfl λt v h=>zai.keep (λ_ _=>rfl) hfree t v h
 obtain⟨hc1,hc2⟩:=hcr.split_flat (A:=λ_=>True) (w':=w') (m:=0) (zaw.one_vals p1)
 have hR':=hR.givenB hn hK (λb hb=>by obtain⟨e,x1,x2,x3⟩:=hfp b hb;exact⟨e,x1,x2,x3⟩) hbk' q1 (zmy d W bx' bvs' 0 (zce res).length τb (λi b hi=>by rw[Qi];exact hbs i b hi) hbx' hc2 (by rw[h.2.1];omega))
 have hBk:Bk n0 w w':=⟨hbk.os,hbk.tape,hbk.output,hbk.size,λk hk=>hbk.block k ⟨hn k hk,λhm=>by
  obtain⟨e,h1,_,h3⟩:=hfp k hm;exact hR.etop e h1 k h3 hk,λj hj e=>by
  obtain⟨c,_,e2,e3⟩:=hWj j hj
  exact hR.base c (b5 c e2) (by rw[<-e3,<-e];exact hk)⟩⟩
 refine⟨g',?_,hBk,q1.A0,q1.R0⟩
 have hp:=hR'.put (some d) (x:=qh4 (mD d 0 res)) (v:=zcm us') (zih (qfb d 0 p1 hc1) (qg9 d res 0)) (λi hi=>by cases hi;exact hdN d hd)
 rw[hd]
 exact hp
end
section
open Go.RowKit
variable {P:Program}
def subN:List Nat->List Nat->Prop
 | [],_=>True
 | x::xs,l=>noK x l=false/\subN xs l
theorem qb6:∀{x:Nat}{l:List Nat},noK x l=false->x∈l
 | _,[],h=>by cases h
 | x,y::l,h=>by
  unfold noK at h;by_cases e:x=y
  ·simp[e]
  ·rw[if_neg e]at h;exact J4 _ (qb6 h)
theorem zj2:∀{xs l:List Nat},subN xs l->∀x∈xs,x∈l
 | [],_,_,x,hx=>by simp at hx
 | y::xs,l,h,x,hx=>by
  rcases Qs.1 hx with rfl|hx
  ·exact qb6 h.1
  ·exact zj2 h.2 x hx
theorem zk1 {σ:St}:∀(L:List Nat)(i:Nat),(i∈L->zgi (σ.lL L) i=σ.sl i)/\(i∉L->zgi (σ.lL L) i=.one .any)
 | [],i=>⟨λh=>by simp at h,λ_=>rfl⟩
 | j::L,i=>by
  show(_->(if i=j then σ.sl j else zgi (σ.lL L) i)=_)/\(_->(if i=j then σ.sl j else zgi (σ.lL L) i)=_)
  by_cases h:i=j
  ·subst h;rw[if_pos rfl];exact⟨λ_=>rfl,λh=>by simp at h⟩
  ·rw[if_neg h];exact⟨λhm=>(zk1 L i).1 ((Qs.1 hm).resolve_left h),λhm=>(zk1 L i).2 λh'=>hm (J4 _ h')⟩
theorem zez {α:Type}(f:Nat->α):∀(L:List Nat)(i:Nat),(i∈L->tbl (L.map λb=>(b,f b)) i=some (f i))/\(i∉L->tbl (L.map λb=>(b,f b)) i=none)
 | [],i=>⟨λh=>by simp at h,λ_=>rfl⟩
 | j::L,i=>by
  show(_->(if i=j then some (f j)else tbl (L.map λb=>(b,f b)) i)=_)/\(_->(if i=j then some (f j)else tbl (L.map λb=>(b,f b)) i)=_)
  by_cases h:i=j
  ·subst h;rw[if_pos rfl];exact⟨λ_=>rfl,λh=>by simp at h⟩
  ·rw[if_neg h];exact⟨λhm=>(zez f L i).1 ((Qs.1 hm).resolve_left h),λhm=>(zez f L i).2 λh'=>hm (J4 _ h')⟩
def blank (W:List Nat)(f:Nat->Option (List C)):Nat->Option (List C)
 | b=>if noK b W=true then f b else some []
theorem qm3 (W:List Nat)(f:Nat->Option (List C))(b:Nat):blank W f b=if noK b W=true then f b else some []:=rfl
def St.wB (σ:St)(W:List Nat):St:=⟨σ.sl,blank W σ.bx,σ.ev⟩
def St.BW (σ:St)(L W:List Nat):List Nat:=dif W ((σ.wB W).KB L)
def St.EW (σ:St)(L W:List Nat):List Nat:=(σ.wB W).KE L
def St.hW (σ:St)(L W:List Nat):St:=⟨zgi (σ.lL L),tbl (σ.lB (σ.BW L W)),tbl (σ.lE (σ.EW L W))⟩
section
variable {ks:List Fr}{Q:Exit->St->Prop}{σ:St}{ops:Array Oper}{os:List Oper}{ty:TypeId}{ps:String}{af:Array Edge}{d:Nat}{x:Operand}{asx:Array Operand}{ts:Array TypeId}{f:FuncId}{bx bx':Bxs}{l:List AF}{res:List (Bool×D)}
theorem znd (L A W:List Nat)(pl:List (Nat×Nat×Nat))(h:PC P f bx l bx' res)(hWn:W.Nodup)(hWl:W.length=bx'.length)(hw:wkK σ (A++L))
  (hk:subN (σ.BW L W) (σ.KB (A++L))/\subN W (σ.KB (A++L))/\subN (σ.EW L W) (σ.KE (A++L))/\okL ⟨zgi (σ.lL L),zj4 d (zce res).length W bx' (tbl (σ.lB (σ.BW L W))),tbl (σ.lE (σ.EW L W))⟩ (σ.lL L)/\okB ⟨zgi (σ.lL L),zj4 d (zce res).length W bx' (tbl (σ.lB (σ.BW L W))),tbl (σ.lE (σ.EW L W))⟩ (σ.lB (σ.BW L W))/\okE (σ.lE (σ.EW L W)))
  (hp:zaq (za3 ((σ.hL (A++L)).get P 0 x)) λp=>p.1=f/\mtK W l ((σ.hL (A++L)).gets P asx ts++p.2) λus=>qqa (σ.hL (A++L)) W bx λcs=>gvA (σ.hL (A++L)) (zzz (σ.lE (σ.EW L W))) [] pl (us++cs) (AF.ds l++bxA bx.flatten))
  (hf:mF d 0 (zce res++bx'.flatten) (tbl (σ.lE (σ.EW L W))))
  (k:exo P ops os ks Q ((σ.hW L W).callP d W bx' res)):exo P ops (⟨some d,.call ⟨.value x,asx,ts⟩,ty,ps,af,none⟩::os) ks Q σ:=by
 obtain⟨⟨f',cvs⟩,h1,rfl,h2⟩:=zao hp
 obtain⟨k1,k2,k3,k4,k5,k6⟩:=hk
 have hK:KeptB W (σ.hL (A++L)) ⟨zgi (σ.lL L),zj4 d (zce res).length W bx' (tbl (σ.lB (σ.BW L W))),tbl (σ.lE (σ.EW L W))⟩:=by
  refine⟨λi=>?_,λb cs hb hcs=>?_,λb hb=>⟨?_,qhc d W bx' _ _ b hWl hb⟩,λe x he=>?_⟩
  ·by_cases hi:i∈L
   ·refine Or.inr ⟨?_,zua k4 i⟩;show zgi (σ.lL L) i=zgi (σ.lL (A++L)) i
    rw[(zk1 L i).1 hi,(zk1 (A++L) i).1 (Jz _ hi)]
   ·exact Or.inl ((zk1 L i).2 hi)
  ·have hcs:zj4 d (zce res).length W bx' (tbl (σ.lB (σ.BW L W))) b=some cs:=hcs;rw[zxy d W bx' _ _ b hb]at hcs;by_cases hm:b∈σ.BW L W
   ·refine⟨?_,zul k5 b cs hcs⟩;have e1:=(zez (λb=>(σ.bx b).getD []) (σ.BW L W) b).1 hm;have e2:=(zez (λb=>(σ.bx b).getD []) (σ.KB (A++L)) b).1 (zj2 k1 b hm);have e1:tbl (σ.lB (σ.BW L W)) b=some ((σ.bx b).getD []):=e1;rw[e1]at hcs;cases hcs;exact e2
   ·have e1:=(zez (λb=>(σ.bx b).getD []) (σ.BW L W) b).2 hm;have e1:tbl (σ.lB (σ.BW L W)) b=none:=e1;rw[e1]at hcs;cases hcs
  ·have e2:=(zez (λb=>(σ.bx b).getD []) (σ.KB (A++L)) b).1 (zj2 k2 b hb);have e2:(σ.hL (A++L)).bx b=some ((σ.bx b).getD []):=e2;rw[e2];simp
  ·have he:tbl (σ.lE (σ.EW L W)) e=some x:=he;by_cases hm:e∈σ.EW L W
   ·refine⟨?_,zun k6 e x he⟩;have e1:=(zez (λe=>(σ.ev e).getD ⟨false,0,[],0,false⟩) (σ.EW L W) e).1 hm;have e2:=(zez (λe=>(σ.ev e).getD ⟨false,0,[],0,false⟩) (σ.KE (A++L)) e).1 (zj2 k3 e hm);have e1:tbl (σ.lE (σ.EW L W)) e=some ((σ.ev e).getD ⟨false,0,[],0,false⟩):=e1;rw[e1]at he;cases he;exact e2
   ·have e1:=(zez (λe=>(σ.ev e).getD ⟨false,0,[],0,false⟩) (σ.EW L W) e).2 hm;have e1:tbl (σ.lE (σ.EW L W)) e=none:=e1;rw[e1]at he;cases he
 refine zdc rfl rfl (zag.pre (wkK_wk hw) (qec (P:=P) (o:=⟨some d,.call ⟨.value x,asx,ts⟩,ty,ps,af,none⟩) rfl rfl h h1 hK hWn (ps:=pl) ?_ hf)) k
 exact qkm (λus hu=>qe0 (λcs hc=>zg1 (λu hu=>zk5 hu) hc) hu) h2
end
def qam:Option (Nat×Ev×List (Nat×Ev))->List Ky
 | some (e,_,_)=>[(2,e)]
 | none=>[]
def stoW:Option (Nat×Ev×List (Nat×Ev))->List (Nat×Ev)
 | some (e,y,cons)=>(e,y)::zw3 cons
 | none=>[]
theorem qis {σ σ1:St}{t:TypeId}{x y:Operand}(h:∀k∈zau [x,y]++(rK [(σ.get P t y).cells]++qam (ztf P σ t x y)),za4 σ σ1 k){r:Nat×Ev×List (Nat×Ev)}(hr:ztf P σ t x y=some r):ztf P σ1 t x y=some r:=by
 have e1:σ1.get P 0 x=σ.get P 0 x:=zc4 (l:=[x,y]) (λk hk=>h k (by simp[hk])) (by simp) 0
 have e2:σ1.get P t y=σ.get P t y:=zc4 (l:=[x,y]) (λk hk=>h k (by simp[hk])) (by simp) t
 have e3:zwb σ1 (σ.get P t y).cells=zwb σ (σ.get P t y).cells:=zpd λk hk=>h k (by simp[rK,hk])
 rw[hr]at h
 rw[<-hr]
 unfold ztf at hr⊢
 rw[e1,e2]
 split at hr
 ·rename_i e g sz i o hx;obtain⟨z,hz,hr⟩:=Qh.1 hr;obtain⟨n,hn,hr⟩:=Qh.1 hr;split at hr
  ·obtain⟨q,_,hr⟩:=Q3.1 hr;subst hr;have e4:σ1.ev e=σ.ev e:=Eq.symm (h (2,e) (by simp[qam]));simp only[e4,e3]
  ·cases hr
 ·cases hr
section
variable {ks:List Fr}{Q:Exit->St->Prop}{σ:St}{ops:Array Oper}{os:List Oper}{L:List (List Ky×List Ky)}{ty:TypeId}{ps:String}{af:Array Edge}{ds:Option Nat}{x y:Operand}{t:TypeId}
theorem qme (r:Option (Nat×Ev×List (Nat×Ev))):okK (qam r)=true:=by
 cases r with
 | none=>rfl
 | some r=>rfl
theorem qqk (h:zaq (ztf P σ t x y) λr=>(r.2.2.map (·.1)).Nodup/\∀p∈r.2.2,p.1≠r.1)
  (k:exd P ops os (L++[(zau [x,y]++(rK [(σ.get P t y).cells]++qam (ztf P σ t x y)),dK ds++eK (stoW (ztf P σ t x y)))]) ks Q ((σ.apdO (ztf P σ t x y)).put ds (.one .any))):exdS P ops ⟨ds,.store t x y,ty,ps,af,none⟩ os L ks Q σ:=by
 obtain⟨⟨e,z,cons⟩,h1,h2,h3⟩:=zao h
 refine⟨_,_,_,?_,k⟩
 have hloc:∀σ1,(∀k∈zau [x,y]++(rK [(σ.get P t y).cells]++qam (ztf P σ t x y)),za4 σ σ1 k)->ztf P σ1 t x y=some (e,z,cons):=λσ1 hs=>qis hs h1
 rw[h1]
 show zj7 P _ _ (dK ds++eK ((e,z)::zw3 cons)) σ ((σ.apd e cons z).put ds _)
 rw[zd3]
 rw[h1]at hloc
 refine zj7.of (o:=⟨ds,_,ty,ps,af,none⟩) (l:=(e,z)::zw3 cons) (zbk (zb2 _) (zbk (qch _) (qme _))) λσ1 hs=>?_
 have hh:=hloc σ1 hs
 have hs2:=zx3 (σ:=σ1) (ty:=ty) (ps:=ps) (af:=af) (ds:=ds) (x:=x) (y:=y) (t:=t) (P:=P) (by rw[hh];exact⟨h2,h3⟩)
 rw[hh]at hs2
 have hs2:zag P ⟨ds,.store t x y,ty,ps,af,none⟩ σ1 ((σ1.apd e cons z).put ds (.one .any)):=hs2
 rw[zd3]at hs2
 exact hs2
end
attribute [go_sem] qam stoW AF.ds c1P zyj zk0 zc8 zi2 zhz bxE PB PB0 mtK qqa zj4 St.callP subN qm3 St.wB St.BW St.EW St.hW bxA List.flatten_cons List.flatten_nil
end
section
open Go.RowKit
variable {P:Program}
section
variable {ks:List Fr}{Q:Exit->St->Prop}{σ:St}{ops:Array Oper}{os:List Oper}{L:List (List Ky×List Ky)}{ty:TypeId}{ps:String}{af:Array Edge}{d:Nat}{x:Operand}{asx:Array Operand}{ts:Array TypeId}{f:FuncId}{bx bx':Bxs}{l:List AF}{res:List (Bool×D)}
theorem zbf {ds0 res0:List D}{gR:List Ky}(h:FC P f ds0 res0)(hp:zaq (za3 (σ.get P 0 x)) λp=>p.1=f/\VDs σ (σ.gets P asx ts++p.2) ds0/\zid d 0 (za6 res0) σ.ev)
  (k:exd P ops os (L++[(gR++(zau (x::asx.toList)++(vsK σ (σ.gets P asx ts++qqr (za3 (σ.get P 0 x)))++eK (owL d 0 (za6 res0)))),dK (some d)++eK (owL d 0 (za6 res0)))]) ks Q (σ.callF d res0)) :
  zq2 P ops ⟨some d,.call ⟨.value x,asx,ts⟩,ty,ps,af,none⟩ os L gR ks Q σ:=by
 obtain⟨⟨f',cvs⟩,h1,rfl,h2,h3⟩:=zao hp
 rw[h1]at k
 exact qph _ _ _ _ _ _ rfl (zra rfl rfl h h1 h2 h3) k
end
end
section
open Go.RowKit
variable {P:Program}
def zxp (ops:Array Oper)(L:List (List Ky×List Ky))(m:Nat):Bool :=
 let b:=Region.before ops
 decide (m<=ops.size)&&(List.range ops.size).all λj =>
  ((ops.getD j default).after.all λe=>!Region.binds .any e||decide (e.on<j)) &&
  ((List.range ops.size).all λi=>!(b.getD j 0).testBit i||(ops.getD j default).after.any λe=>Region.binds .any e&&(e.on==i||(b.getD e.on 0).testBit i)) &&
  ((List.range j).all λi=>(decide (i=0)&&decide (m<=j))||((b.getD j 0).testBit i||(decide (j<m)&&((L.getD i ([],[])).2.all λk=>!(L.getD j ([],[])).1.contains k&&!(L.getD j ([],[])).2.contains k)&&(L.getD i ([],[])).1.all λk=>!(L.getD j ([],[])).2.contains k)))
theorem qa2 {ops:Array Oper}{σs:Nat->St}{L:List (List Ky×List Ky)}{n0:Nat->Prop}{N:Nat}{w0:World}{A0:(Nat->Prop)×RP}{Q:Exit->Act->World->Prop}{K:St->Prop}{m:Nat}
  (hm0:0<m) (hL:∀i (h:i<ops.size),i<m->Loc P ops ops[i] (L.getD i ([],[])).1 (L.getD i ([],[])).2 (σs i) (σs (i+1))) (hord:zxp ops L m=true) (hdst:∀o∈ops,∀d,o.dst=some d->d<N)
  (hT:zbj P ops (ops.toList.drop m) (σs m) K) (hQ:∀σ g a w,K σ->Rel n0 N σ g a w->LtK n0 w->Bk n0 w0 w->(g.A0,g.R0)=A0->Q .normal a w) :
  ∀(fuel:Nat) (listed:Array Bool) (g:Gh) (a:Act) (w:World),listed.size=ops.size->cnt (λi=>listed.getD i false) ops.size=fuel →
   (∀j (h:j<ops.size),listed.getD j false=true->∀e∈ops[j].after,Region.binds .any e=true->listed.getD e.on false=true)->(∀j,m<=j->listed.getD j false=false)->listed.getD 0 false=true →
   Rel n0 N (Fp σs (λi=>L.getD i ([],[])) (λi=>listed.getD i false) m) g a w->LtK n0 w->Bk n0 w0 w->(g.A0,g.R0)=A0->wpAny P .any ops Q fuel listed a w:=by
 have hget:∀j (h:j<ops.size),ops.getD j default=ops[j]:=λj h=>by simp[Array.getD,h]
 unfold zxp at hord
 rw[Qd]at hord
 obtain⟨hm,hord⟩:=hord
 have hm:m<=ops.size:=by simpa using hm
 have hok:∀i,i<m->okK (L.getD i ([],[])).2=true:=λi h=>(hL i Zi h).1
 have hRk:∀i,i<m->okK (L.getD i ([],[])).1=true:=λi h=>(hL i Zi h).2.1
 have hoff:∀i,i<m->∀k:Ky,k.1<3->k∉(L.getD i ([],[])).2->za4 (σs i) (σs (i+1)) k:=λi h=>(hL i Zi h).2.2.1
 simp only[Qr,K4,Qd]at hord
 have hlt:∀j (h:j<ops.size),∀e∈ops[j].after,Region.binds .any e=true->e.on<j:=λj h e he hb=>by
  have:=(hord j h).1.1;rw[hget j h]at this;have:=(Kb.1 this) e he;simpa[hb]using this
 have hbef:∀j (h:j<ops.size),∀i,i<ops.size->((Region.before ops).getD j 0).testBit i=true->∃e∈ops[j].after,Region.binds .any e=true/\(e.on=i\/((Region.before ops).getD e.on 0).testBit i=true):=λj h i hi hb=>by
  have:=(hord j h).1.2 i hi;rw[hb,hget j h]at this;simp only[K8,K5]at this;obtain⟨e,he,h1⟩:=Array.any_eq_true'.1 this;simp only[Qd,Yb,Jo]at h1;exact⟨e,he,h1.1,h1.2⟩
 have hdis:∀i j,i<j->j<m->((Region.before ops).getD j 0).testBit i=false->(∀k∈(L.getD i ([],[])).2,k∉(L.getD j ([],[])).1/\k∉(L.getD j ([],[])).2)/\∀k∈(L.getD i ([],[])).1,k∉(L.getD j ([],[])).2:=λi j hij hj hb=>by
  have:=(hord j Zi).2 i hij;rw[show decide (m<=j)=false from Kv Zi,J0,K5]at this;rw[hb]at this;simp only[K5,Qd,Qr,Jk,List.contains_eq_mem,Ko]at this;exact⟨λk hk=>this.1.2 k hk,λk hk=>this.2 k hk⟩
 have hchain:∀i j,i≠0->i<j->j<ops.size->m<=j->((Region.before ops).getD j 0).testBit i=true:=λi j hi0 hij hj hmj=>by
  have:=(hord j hj).2 i hij;rw[show decide (i=0)=false from Kv hi0,Q4,K5]at this;cases hb:((Region.before ops).getD j 0).testBit i with
  | true=>rfl
  | false =>
   rw[hb]at this;simp only[K5,Qd,Q0]at this;omega
 have hclosed:∀listed:Array Bool,(∀j (h:j<ops.size),listed.getD j false=true->∀e∈ops[j].after,Region.binds .any e=true->listed.getD e.on false=true)->∀j (h:j<ops.size),listed.getD j false=true->∀i,i<ops.size->((Region.before ops).getD j 0).testBit i=true->listed.getD i false=true:=by
  intro listed hcl j;induction j using Nat.strongRecOn with
  | _ j ihj =>
   intro h hl i hi hbi;obtain⟨e,he,h1,h2⟩:=hbef j h i hi hbi;have hle:=hcl j h hl e he h1;have hlt':=hlt j h e he h1;rcases h2 with rfl|h2
   ·exact hle
   ·exact ihj e.on hlt' Zi hle i hi h2
 have hready:∀(listed:Array Bool),listed.size=ops.size->∀i,i∈Region.ready .any ops listed->∃hi:i<ops.size,listed.getD i false=false/\∀e∈ops[i].after,Region.binds .any e=true->listed.getD e.on false=true:=λlisted hsz i hi=>by
  unfold Region.ready at hi;rw[Kp]at hi;obtain⟨hi1,hi2⟩:=hi;have hi':=K4.1 hi1;rw[Array.getElem?_eq_getElem hi']at hi2;simp only[Q9,Kj,Qd,Jk]at hi2;obtain⟨hl0,hafter⟩:=hi2;refine⟨hi',?_,λe he hbd=>?_⟩
  ·simp only[Array.getD_eq_getD_getElem?]at hl0⊢;rw[Array.getElem?_eq_getElem Zi]at hl0⊢;exact hl0
  ·have:=(Kb.1 hafter) e he;simpa[hbd]using this
 have hsome:∀(listed:Array Bool),listed.size=ops.size->Region.ready .any ops listed=[]->cnt (λi=>listed.getD i false) ops.size=0:=λlisted hsz hr=>by
  have:∀j,j<ops.size->listed.getD j false=true:=by
   intro j;induction j using Nat.strongRecOn with
   | _ j ihj =>
    intro hj;cases hl:listed.getD j false with
    | true=>rfl
    | false =>
     exfalso;have hmem:j∈Region.ready .any ops listed:=by
      unfold Region.ready;rw[Kp];refine⟨K4.2 hj,?_⟩;have hl':listed.getD j true=false:=by
       simp only[Array.getD_eq_getD_getElem?]at hl⊢;rw[Array.getElem?_eq_getElem Zi]at hl⊢;exact hl
      rw[hl',Array.getElem?_eq_getElem hj];simp only[Ja,Q2,Q9,Kj];rw[Kb];intro e he;cases hbd:Region.binds .any e with
      | false=>rfl
      | true=>simpa using ihj e.on (hlt j hj e he hbd) (by have:=hlt j hj e he hbd;omega)
     rw[hr]at hmem;exact absurd hmem (by simp)
  have:∀k,k<=ops.size->cnt (λi=>listed.getD i false) k=0:=by
   intro k;induction k with
   | zero=>intro _;rfl
   | succ k ihk=>intro hk;unfold cnt;rw[if_pos (this k Zi),ihk Zi]
  exact this _ (Qp _)
 have hset:∀(listed:Array Bool) (i:Nat),i<listed.size->∀j,(listed.setIfInBounds i true).getD j false=if j=i then true else listed.getD j false:=λlisted i hi j=>by
  simp only[Array.getD_eq_getD_getElem?,Array.getElem?_setIfInBounds];by_cases hji:j=i
  ·subst hji;rw[if_pos rfl,if_pos hi,if_pos rfl];rfl
  ·rw[if_neg (λh=>hji h.symm),if_neg hji]
 have hnone:∀(listed:Array Bool),listed.size=ops.size->(∀j,j<ops.size->listed.getD j false=true)->Region.ready .any ops listed=[]:=λlisted hsz hall=>by
  unfold Region.ready;rw[Yq];intro i hi;have hi':=K4.1 hi;have:=hall i hi';simp only[Array.getD_eq_getD_getElem?]at this⊢;rw[Array.getElem?_eq_getElem Zi]at this⊢;simp only[Kj]at this⊢;simp[this]
 have tail:∀(k j:Nat) (listed:Array Bool) (σ:St) (g:Gh) (a:Act) (w:World),j+k=ops.size->m<=j->listed.size=ops.size->(∀i,i<ops.size->listed.getD i false=decide (i<j))->zbj P ops (ops.toList.drop j) σ K->Rel n0 N σ g a w->LtK n0 w->Bk n0 w0 w->(g.A0,g.R0)=A0->wpAny P .any ops Q k listed a w:=by
  intro k;induction k with
  | zero =>
   intro j listed σ g a w hjk hmj hsz hls h hrel hn hb hA;have:ops.toList.drop j=[]:=Q1 (by simp;omega);rw[this]at h;exact⟨hnone listed hsz λi hi=>by rw[hls i hi];simp;omega,hQ σ g a w h hrel hn hb hA⟩
  | succ k ih =>
   intro j listed σ g a w hjk hmj hsz hls h hrel hn hb hA;have hj:j<ops.size:=by omega
   refine⟨λhr=>?_,λi hi=>?_⟩
   ·exfalso;have hz:listed.getD j false=true:=zd4 _ (hsome listed hsz hr) j hj;rw[hls j hj]at hz;simp at hz
   ·obtain⟨hi',hl,hdue⟩:=hready listed hsz i hi;have hij:i=j:=by
     rcases Yg i j with h1|h1|h1
     ·rw[hls i hi']at hl;simp at hl;omega
     ·exact h1
     ·exfalso;obtain⟨e,he,k1,k2⟩:=hbef i hi' j hj (hchain j i Zi h1 hi' Zi);have hle:=hdue e he k1;have hel:=hlt i hi' e he k1;rw[hls e.on Zi]at hle;have hle:e.on<j:=by simpa using hle
      rcases k2 with k2|k2
      ·omega
      ·have:∀x,x<ops.size->∀y,y<ops.size->((Region.before ops).getD x 0).testBit y=true->y<x:=by
        intro x;induction x using Nat.strongRecOn with
        | _ x ihx =>
         intro hx y hy hbxy;obtain⟨e',he',q1,q2⟩:=hbef x hx y hy hbxy;have:=hlt x hx e' he' q1;rcases q2 with rfl|q2
         ·exact this
         ·have:=ihx e'.on this Zi y hy q2;omega
       have:=this e.on Zi j hj k2;omega
    subst hij;have hcons:ops.toList.drop i=ops[i]::ops.toList.drop (i+1):=by
     rw[Qn (by simpa using hi')];rfl
    rw[hcons]at h;refine zwf hi' (K:=λσ'=>zbj P ops (ops.toList.drop (i+1)) σ' K) h hrel hn (hdst _ (Yp hi')) λσ' a' w' hh hK=>?_;obtain⟨g',k1,k2,k3,k4⟩:=hh;refine ih (i+1) _ σ' g' a' w' Zi Zi (by simpa using hsz) (λx hx=>?_) hK k1 (hn.mono k2.size) (hb.trans k2) (by rw[k3,k4];exact hA);rw[hset listed i Zi,hls x hx];by_cases hxi:x=i
    ·subst hxi;simp
    ·rw[if_neg hxi]
     congr 1
     simp only[eq_iff_iff];omega
 intro fuel
 induction fuel with
 | zero =>
  intro listed g a w hsz hc hcl hno hz0 hrel hn hb hA;have hall:=zd4 _ hc;have hme:m=ops.size:=by
   rcases Y8 m ops.size with h|h
   ·have h1:=hall m h;rw[hno m (Qp _)]at h1;cases h1
   ·omega
  refine⟨hnone listed hsz hall,?_⟩;rw[zeb hok hoff m (Qp _) λj hj=>hall j Zi]at hrel;have hd:ops.toList.drop m=[]:=Q1 (by simp;omega);rw[hd]at hT;exact hQ _ g a w hT hrel hn hb hA
 | succ fuel ih =>
  intro listed g a w hsz hc hcl hno hz0 hrel hn hb hA;have hbb:=hclosed listed hcl;refine⟨λhr=>?_,λi hi=>?_⟩
  ·exfalso;have:=hsome listed hsz hr;omega
  ·obtain⟨hi',hl,hdue⟩:=hready listed hsz i hi;have h1:∀j,j<ops.size->((Region.before ops).getD i 0).testBit j=true->listed.getD j false=true:=λj hj hbj=>by
    obtain⟨e,he,k1,k2⟩:=hbef i hi' j hj hbj;have hle:=hdue e he k1;have hlt':=hlt i hi' e he k1;rcases k2 with rfl|k2
    ·exact hle
    ·exact hbb e.on Zi hle j hj k2
   by_cases him:i<m
   ·have h2:∀j,j<m->listed.getD j false=true->((Region.before ops).getD j 0).testBit i=true->listed.getD i false=true:=λj hj hlj hbj=>hbb j Zi hlj i hi' hbj;have hset':=hset listed i Zi;obtain⟨_,_,_,hstep⟩:=hL i hi' him;have hG:=hstep _ (λk hk=>zn6 (σs:=σs) (RW:=λi=>L.getD i ([],[])) (b:=λj i=>((Region.before ops).getD j 0).testBit i) (p:=λi=>listed.getD i false) hok hoff hRk hdis him hl (λj hj hb=>h1 j Zi hb) h2 hk);have hw:=zjw (σs:=σs) (RW:=λi=>L.getD i ([],[])) (b:=λj i=>((Region.before ops).getD j 0).testBit i) (p:=λi=>listed.getD i false) hok hdis him hl (λj hj hb=>h1 j Zi hb) h2 (p':=λj=>(listed.setIfInBounds i true).getD j false) hset';have hcnt:=zl3 (p:=λi=>listed.getD i false) (q:=λj=>(listed.setIfInBounds i true).getD j false) hl hset' ops.size hi';have hG':=hG n0 N g a w hrel hn (hdst _ (Yp hi'));rw[<-hw]at hG';have next:∀a' w',(∃g',Rel n0 N (Fp σs (λi=>L.getD i ([],[])) (λj=>(listed.setIfInBounds i true).getD j false) m) g' a' w'/\Bk n0 w w'/\g'.A0=g.A0/\g'.R0=g.R0)->wpAny P .any ops Q fuel (listed.setIfInBounds i true) a' w':=by
     rintro a' w' ⟨g',k1,k2,k3,k4⟩;refine ih _ g' a' w' (by simpa using hsz) Zi (λj hj hlj e he hbd=>?_) (λj hj=>by rw[hset',if_neg Zi];exact hno j hj) (by rw[hset'];split;rfl;exact hz0) k1 (hn.mono k2.size) (hb.trans k2) (by rw[k3,k4];exact hA);rw[hset']at hlj⊢;by_cases heo:e.on=i
     ·rw[if_pos heo]
     ·rw[if_neg heo];by_cases hji:j=i
      ·subst hji;exact hdue e he hbd
      ·rw[if_neg hji]at hlj;exact hcl j hj hlj e he hbd
    unfold wpOp;rw[Array.getElem?_eq_getElem hi'];simp only;split
    ·rename_i hwd;rw[if_pos hwd]at hG';exact Or.inl (zca next hG')
    ·rename_i hwd;rw[if_neg hwd]at hG';obtain⟨g',k1,k2,k3⟩:=hG';exact next _ _ ⟨g',k1,Bk.refl _ _,k2,k3⟩
   ·-- the chain begins
    have hmi:i=m:=by
     rcases Yg i m with h3|h3|h3
     ·omega
     ·exact h3
     ·exfalso;have:=h1 m Zi (hchain m i Zi h3 hi' Zi);rw[hno m (Qp _)]at this;cases this
    subst hmi;have hall:∀j,j<i->listed.getD j false=true:=λj hj=>if h0:j=0 then by rw[h0];exact hz0 else h1 j Zi (hchain j i h0 hj hi' (Qp _))
    rw[zeb hok hoff i (Qp _) hall]at hrel;have hls:∀x,x<ops.size->listed.getD x false=decide (x<i):=λx hx=>by
     by_cases hxi:x<i
     ·rw[hall x hxi];simp[hxi]
     ·rw[hno x Zi];simp[hxi]
    have hcnt:fuel+1=ops.size-i:=by
     rw[<-hc];have:∀n,n<=ops.size->cnt (λi=>listed.getD i false) n=n-i:=by
      intro n;induction n with
      | zero=>intro _;simp[cnt]
      | succ n ihn =>
       intro hn';unfold cnt;rw[ihn Zi,hls n Zi];by_cases hni:n<i
       ·rw[if_pos (by simpa using hni)];omega
       ·rw[if_neg (by simpa using hni)];omega
     exact this _ (Qp _)
    have:=tail (fuel+1) i listed (σs i) g a w Zi (Qp _) hsz hls hT hrel hn hb hA;exact this.2 i hi
def zwh (ops:Array Oper)(m:Nat):Bool :=
 let b:=Region.before ops
 decide (0<m)&&decide (m<=ops.size)&&(List.range ops.size).all λj=>decide (j<m)||(List.range j).all λi=>decide (i=0)||(b.getD j 0).testBit i
theorem qcw {ops:Array Oper}{L:List (List Ky×List Ky)}{m:Nat}(h1:zmg ops L=true)(h2:zwh ops m=true):zxp ops L m=true:=by
 unfold zmg at h1
 unfold zwh at h2
 unfold zxp
 simp only[Qr,K4,Qd,Yb,Q0]at h1 h2⊢
 refine⟨h2.1.2,λj hj=>⟨⟨(h1 j hj).1.1,(h1 j hj).1.2⟩,λi hi=>?_⟩⟩
 rcases(h1 j hj).2 i hi with h3|h3
 ·exact Or.inr (Or.inl h3)
 ·rcases h2.2 j hj with h4|h4
  ·exact Or.inr (Or.inr ⟨⟨h4,h3.1⟩,h3.2⟩)
  ·rcases h4 i hi with h5|h5
   ·by_cases h6:j<m
    ·exact Or.inr (Or.inr ⟨⟨h6,h3.1⟩,h3.2⟩)
    ·exact Or.inl ⟨h5,Zi⟩
   ·exact Or.inr (Or.inl h5)
def qoe (ops:Array Oper):Bool :=
 let o:=ops.getD 0 default
 (match o.op with|.move (.tmp _)=>true|_=>false)&&o.dst.isSome&&o.guard.isNone&&decide (0<ops.size)&&Region.noSelect ops&&Region.free .any ops (Array.replicate ops.size false) 0&&(Region.ready .any ops (Array.replicate ops.size false)).contains 0
theorem qnq (m:Nat){id:Nat}{ops:Array Oper}{ks:List Fr}{Q:Exit->St->Prop}{σ:St}(hmx:P.follows .mixedOrders=true)(hf:qoe ops=true)(hch:zwh ops m=true)(h:exd P ops (ops.toList.take m) [] [] (tailQ P ops m ks Q) σ):ex P (.region id ops true) ks Q σ:=by
 show zdm P id ops σ _
 intro n0 N g a w hR hn hd
 have hm:0<m/\m<=ops.size:=by unfold zwh at hch;simp only[Qd,Q0]at hch;exact hch.1
 obtain⟨L,σs,h0,hloc,hord,hK⟩:=ze2 hm.2 (ops.toList.take m) 0 [] (λ_=>σ) rfl (Qy _) rfl (λj _ hj=>by omega) h
 have hordZ:=qcw hord hch
 refine wp_region_any hmx ?_
 have hb:Below w.heap.size w { w with drawn:=w.drawn+1 }:=⟨rfl,rfl,rfl,Qp _,λ_ _=>rfl⟩
 have hR':Rel n0 N (σs 0) g a { w with drawn:=w.drawn+1 }:=by
  rw[h0];exact hR.after hn hb (New.refl σ g (w.heap.size<=·) _ hR.slc)
 have hsz:0<ops.size:=by omega
 have hgD:ops.getD 0 default=ops[0]:=by simp[Array.getD,hsz]
 unfold qoe at hf
 simp only[hgD,Qd,Q0]at hf
 obtain⟨⟨⟨⟨⟨⟨f1,f2⟩,f3⟩,-⟩,f4⟩,f5⟩,f6⟩:=hf
 obtain⟨x,hx⟩:∃x,ops[0].op=.move (.tmp x):=by
  revert f1;cases h:ops[0].op with
  | move y=>cases y with
   | tmp x=>intro _;exact⟨x,rfl⟩
   | _=>intro h;cases h
  | _=>intro h;cases h
 have hgu:ops[0].guard=none:=by simpa using f3
 have hrun:∀a:Act,∀w,(execOp a.eval ops[0]).run P w=.ok (.value (a.eval (.tmp x))) w:=λa w=>by
  unfold execOp;rw[hx];rfl
 have hwant:Region.wanted ops[0] (yielded ops a.tmps)=true:=by unfold Region.wanted;rw[hgu]
 obtain⟨fu,hfu⟩:∃fu,ops.size=fu+1:=⟨ops.size-1,Zi⟩
 have hy:Yields P ops ops[0] (a.eval (.tmp x)) a:=Or.inl ⟨hwant,hrun a⟩
 have hset0:∀j,((Array.replicate ops.size false).setIfInBounds 0 true).getD j false=decide (j=0):=λj=>by
  simp only[Array.getD_eq_getD_getElem?,Array.getElem?_setIfInBounds,Array.size_replicate,Array.getElem?_replicate];by_cases hj:j=0
  ·subst hj;simp[hsz]
  ·rw[if_neg (λh=>hj h.symm)];split<;>simp[hj]
 have hok:∀i,i<m->okK (L.getD i ([],[])).2=true:=λi h=>(hloc i Zi h).1
 have hoff:∀i,i<m->∀k:Ky,k.1<3->k∉(L.getD i ([],[])).2->za4 (σs i) (σs (i+1)) k:=λi h=>(hloc i Zi h).2.2.1
 have hF:∀n,n<m->Fp σs (λi=>L.getD i ([],[])) (λi=>((Array.replicate ops.size false).setIfInBounds 0 true).getD i false) (n+1)=σs 1:=by
  intro n;induction n with
  | zero =>
   intro _;exact zeb (p:=λi=>((Array.replicate ops.size false).setIfInBounds 0 true).getD i false) hok hoff 1 Zi λj hj=>by rw[hset0];simp;omega
  | succ n ih =>
   intro hn';unfold Fp;rw[hset0,if_neg (by simp)];exact ih Zi
 have hp1:zve (σs 0) (L.getD 0 ([],[])).2 (σs 1)=σs 1:=by
  have:=hF 0 hm.1;unfold Fp at this;rw[hset0,if_pos (by simp)]at this;unfold Fp at this;exact this
 obtain⟨_,_,_,hstep⟩:=hloc 0 hsz hm.1
 have hG:=hstep (σs 0) (λk _=>za4.refl _ _) n0 N g a _ hR' (hn.mono (Qp _)) (hd _ (Yp hsz))
 rw[hp1,if_pos hwant]at hG
 unfold Oper.wp at hG
 rw[hrun a]at hG
 obtain⟨g1,k1,k2,k3,k4⟩:=hG
 have hcnt:cnt (λi=>((Array.replicate ops.size false).setIfInBounds 0 true).getD i false) ops.size=fu:=by
  have:∀n,cnt (λi=>((Array.replicate ops.size false).setIfInBounds 0 true).getD i false) n=n-1:=by
   intro n;induction n with
   | zero=>rfl
   | succ n ih =>
    unfold cnt;rw[ih,hset0];by_cases hn0:n=0
    ·subst hn0;rfl
    ·rw[if_neg (by simpa using hn0)];omega
  rw[this];omega
 have hrep:∀i,(Array.replicate ops.size false).getD i false=false:=λi=>by
  simp only[Array.getD_eq_getD_getElem?,Array.getElem?_replicate];split<;>rfl
 have hrdy:=mem_ready.1 (by simpa using f6:0∈Region.ready .any ops (Array.replicate ops.size false))
 have key:=qa2 (w0:=w) (A0:=(g.A0,g.R0)) (K:=zuf P ks Q .normal) (Q:=λe a' w'=>e=.normal/\∃σ' g',zuf P ks Q .normal σ'/\Rel n0 N σ' g' a' w'/\LtK n0 w'/\Bk n0 w w'/\g'.A0=g.A0/\g'.R0=g.R0) hm.1 hloc hordZ hd hK (λσ' g' a' w' kk k1 k2 k3 k4=>⟨rfl,σ',g',kk,k1,k2,k3,(Jr k4).1,(Jr k4).2⟩) fu ((Array.replicate ops.size false).setIfInBounds 0 true) g1 (a.put ops[0].dst (a.eval (.tmp x))) { w with drawn:=w.drawn+1 } (by simp) hcnt (λj h hl e he hb=>?_) (λj hj=>by rw[hset0];simp;omega) (by rw[hset0];rfl) ?_ (hn.mono (Qp _)) (Bk.of_below hb hn) (by rw[k3,k4])
 ·rw[hfu];rw[hfu]at key f5 f6;exact wpAny_take (oi:=ops[0]) (Array.getElem?_eq_getElem hsz) f4 f5 f6 (λc a w hq=>by cases hq.1) hy key
 ·rw[hset0]at hl;have hj0:j=0:=by simpa using hl
  subst hj0;obtain⟨_,oj,ho,hall⟩:=hrdy;rw[Array.getElem?_eq_getElem hsz]at ho;cases ho;have:=hall e he hb;rw[hrep]at this;cases this
 ·have:=hF (m-1) Zi;rw[show m-1+1=m by omega]at this;rw[this];exact k1
attribute [go_sem] ziy
end
section
open Go.RowKit
variable {P:Program}
section
variable {ks:List Fr}{Q:Exit->St->Prop}{σ:St}{ops:Array Oper}{os:List Oper}{L:List (List Ky×List Ky)}{d:Nat}{t:TypeId}{ty:TypeId}{ps:String}{af:Array Edge}{len:Nat}{parts:Array (Nat×Operand)}
theorem zbi (h:zaq (blS P σ t len parts) λ_=>σ.ev (d*32)=none)
  (k:exd P ops os (L++[(zau (parts.toList.map (·.2))++(rK (qji (zl8 P (σ.get P) t len parts))++[(2,d*32)]),dK (some d)++eK (blK d (blS P σ t len parts)))]) ks Q ((σ.bl d (blS P σ t len parts)).put (some d) (.one (.ow (d*32) 0)))) :
  exd P ops (⟨some d,.buildSlice t len parts,ty,ps,af,none⟩::os) L ks Q σ:=by
 obtain⟨⟨x,cons⟩,h1,h2⟩:=zao h
 rw[h1]at k
 unfold blS at h1
 obtain⟨p,e1,h1⟩:=Qh.1 h1
 obtain⟨q,e2,h1⟩:=Q3.1 h1
 simp only[Qx]at h1
 obtain⟨rfl,rfl⟩:=h1
 rw[e1]at k
 exact qq3 ⟨e1,e2,h2⟩ k
end
end
section
open Go.RowKit
variable {P:Program}{N:Nat}
def zgx (P:Program)(N:Nat)(c:Code)(σ:St)(Q:Exit->St->Prop):Prop:=∀n0 w0 A0 g a w,Rel n0 N σ g a w->LtK n0 w->Bk n0 w0 w->(g.A0,g.R0)=A0->c.wp P (Ends n0 N w0 A0 Q) a w
theorem Ends.mono {n0:Nat->Prop}{w0:World}{A0:(Nat->Prop)×RP}{Q Q':Exit->St->Prop}(h:∀e σ,Q e σ->Q' e σ){e:Exit}{a:Act}{w:World}:Ends n0 N w0 A0 Q e a w->Ends n0 N w0 A0 Q' e a w
 | ⟨σ,g,h1,h2⟩=>⟨σ,g,h _ _ h1,h2⟩
theorem zgx.mono {c:Code}{σ:St}{Q Q':Exit->St->Prop}(h:∀e σ,Q e σ->Q' e σ)(k:zgx P N c σ Q):zgx P N c σ Q':=λn0 w0 A0 g a w h1 h2 h3 h4=>wp_mono (k n0 w0 A0 g a w h1 h2 h3 h4) λ_ _ _=>Ends.mono h
theorem zgx.ofEx {c:Code}{σ:St}{Q:Exit->St->Prop}(hd:zcj N c=true)(h:ex P c [] Q σ):zgx P N c σ Q:=λ_ _ _ g a w h1 h2 h3 h4=>zbo c σ Q hd h g a w h1 h2 h3 h4
def qo8 (P:Program)(N:Nat)(c:Code)(Q:Exit->St->Prop)(e:Exit)(σ:St):Prop:=match e with|.normal=>zgx P N c σ Q|e=>Q e σ
theorem zqs (c:Code)(Q:Exit->St->Prop)(σ:St):qo8 P N c Q .normal σ=zgx P N c σ Q:=rfl
theorem zgx.seq {x y:Code}{σ:St}{Q:Exit->St->Prop}(h:zgx P N x σ (qo8 P N y Q)):zgx P N (.seq x y) σ Q:=λn0 w0 A0 g a w h1 h2 h3 h4=>by
 refine wp_seq (wp_mono (h n0 w0 A0 g a w h1 h2 h3 h4) λe a' w' hq=>?_)
 obtain⟨σ',g',k1,k2,k3,k4,k5⟩:=hq
 cases e with
 | normal=>exact k1 n0 w0 A0 g' a' w' k2 k3 k4 k5
 | exit i=>exact⟨σ',g',k1,k2,k3,k4,k5⟩
 | goto l=>exact⟨σ',g',k1,k2,k3,k4,k5⟩
 | ret=>exact⟨σ',g',k1,k2,k3,k4,k5⟩
 | panic ch=>exact⟨σ',g',k1,k2,k3,k4,k5⟩
 | outgrown=>exact⟨σ',g',k1,k2,k3,k4,k5⟩
def zzm:Nat->Code->Code
 | 0,.seq x _=>x
 | n+1,.seq x y=>.seq x (zzm n y)
 | _,c=>c
def qp7:Nat->Code->Code
 | 0,.seq _ y=>y
 | n+1,.seq _ y=>qp7 n y
 | _,_=>.skip
def okC:Nat->Code->Bool
 | 0,.seq _ _=>true
 | n+1,.seq _ y=>okC n y
 | _,_=>false
theorem zgx.cut:∀(n:Nat){c:Code}{σ:St}{Q:Exit->St->Prop},okC n c=true->zcj N (zzm n c)=true->ex P (zzm n c) [] (qo8 P N (qp7 n c) Q) σ->zgx P N c σ Q
 | 0,.seq x y,σ,Q,_,hd,h=>zgx.seq (zgx.ofEx hd h)
 | n+1,.seq x y,σ,Q,ho,hd,h=>by
  simp only[zzm,zcj,Qd]at hd;refine zgx.seq (zgx.mono (λe σ' k=>?_) (zgx.ofEx (Q:=_) hd.1 h));cases e with
  | normal=>exact zgx.cut n ho hd.2 k
  | exit i=>exact k
  | goto l=>exact k
  | ret=>exact k
  | panic ch=>exact k
  | outgrown=>exact k
def blkQ (i:Nat)(Q:Exit->St->Prop)(e:Exit)(σ:St):Prop:=match e with|.exit j=>if j=i then Q .normal σ else Q (.exit j) σ|e=>Q e σ
structure RelM (n0:Nat->Prop)(N:Nat)(σ:St)(ag:Bool)(rows:List (List T))(b:Nat)(A0:(Nat->Prop)×RP)(g:Gh)(a:Act)(w:World):Prop where
 rel:∃(n1:Nat->Prop) (es:Array MapEntry) (clk:Nat),(∀x,n0 x->n1 x)/\n1 b/\¬g.A0 b/\Rel n1 N σ g a w/\LtK n1 w/\w.heap[b]?=some (.map es clk)/\zaz w (λx=>n1 x/\g.A0 x) ag rows es.toList
 nb:¬n0 b
 sub:∀x,g.A0 x->A0.1 x
 r0:g.R0=A0.2
 new:∀x,¬n0 x->A0.1 x/\A0.2 x
def zqu (n0:Nat->Prop)(N:Nat)(w0:World)(A0:(Nat->Prop)×RP)(ag:Bool)(b:Nat)(Q:Exit->St->List (List T)->Prop)(e:Exit)(a:Act)(w:World):Prop:=∃σ rows g,Q e σ rows/\RelM n0 N σ ag rows b A0 g a w/\LtK n0 w/\Bk n0 w0 w
def zfh (P:Program)(N:Nat)(ag:Bool)(b:Nat)(c:Code)(σ:St)(rows:List (List T))(Q:Exit->St->List (List T)->Prop):Prop:=∀n0 w0 A0 g a w,RelM n0 N σ ag rows b A0 g a w->LtK n0 w->Bk n0 w0 w->c.wp P (zqu n0 N w0 A0 ag b Q) a w
section
variable {ag:Bool}{b:Nat}
theorem zqu.mono {n0:Nat->Prop}{w0:World}{A0:(Nat->Prop)×RP}{Q Q':Exit->St->List (List T)->Prop}(h:∀e σ r,Q e σ r->Q' e σ r){e:Exit}{a:Act}{w:World}:zqu n0 N w0 A0 ag b Q e a w->zqu n0 N w0 A0 ag b Q' e a w
 | ⟨σ,r,g,h1,h2⟩=>⟨σ,r,g,h _ _ _ h1,h2⟩
theorem zfh.mono {c:Code}{σ:St}{rows:List (List T)}{Q Q':Exit->St->List (List T)->Prop}(h:∀e σ r,Q e σ r->Q' e σ r)(k:zfh P N ag b c σ rows Q):zfh P N ag b c σ rows Q':=λn0 w0 A0 g a w h1 h2 h3=>wp_mono (k n0 w0 A0 g a w h1 h2 h3) λ_ _ _=>zqu.mono h
theorem RelM.keep {n0 n1:Nat->Prop}{σ σ':St}{rows:List (List T)}{A0:(Nat->Prop)×RP}{g g':Gh}{a a':Act}{w w':World}{es:Array MapEntry}{clk:Nat}(h:RelM n0 N σ ag rows b A0 g a w)(hn:∀x,n0 x->n1 x)(hb:n1 b)(hA:¬g.A0 b)(he:w.heap[b]?=some (.map es clk))(hr:zaz w (λx=>n1 x/\g.A0 x) ag rows es.toList)
  (h2:Rel n1 N σ' g' a' w') (h3:LtK n1 w') (h4:Bk n1 w w') (h5:(g'.A0,g'.R0)=(g.A0,g.R0)):RelM n0 N σ' ag rows b A0 g' a' w':=by
 have e1:g'.A0=g.A0:=(Jr h5).1
 have e2:g'.R0=g.R0:=(Jr h5).2
 exact⟨⟨n1,es,clk,hn,hb,by rw[e1];exact hA,h2,h3,(h4.block b hb).trans he,zaz.keep (λx hx=>h4.block x hx.1) (λx hx=>⟨hx.1,by rw[e1];exact hx.2⟩) ag rows _ hr⟩,h.nb,by rw[e1];exact h.sub,by rw[e2];exact h.r0,h.new⟩
theorem znk {n0 n1:Nat->Prop}{w w':World}(hn:∀x,n0 x->n1 x)(h:Bk n1 w w'):Bk n0 w w':=⟨h.os,h.tape,h.output,h.size,λk hk=>h.block k (hn k hk)⟩
theorem zfh.ofEx {c:Code}{σ:St}{rows:List (List T)}{Q:Exit->St->List (List T)->Prop}(hd:zcj N c=true)(h:ex P c [] (λe σ'=>Q e σ' rows) σ):zfh P N ag b c σ rows Q:=λn0 w0 A0 g a w hM h2 h3=>by
 obtain⟨n1,es,clk,k1,k2,k3,k4,k5,k6,k7⟩:=hM.rel
 refine wp_mono (zbo (w0:=w) (A0:=(g.A0,g.R0)) c σ _ hd h g a w k4 k5 (Bk.refl _ _) rfl) λe a' w' hq=>?_
 obtain⟨σ',g',h1,m2,m3,m4,m5⟩:=hq
 exact⟨σ',rows,g',h1,hM.keep k1 k2 k3 k6 k7 m2 m3 m4 m5,h2.mono m4.size,h3.trans (znk k1 m4)⟩
def qez (P:Program)(N:Nat)(ag:Bool)(b:Nat)(c:Code)(Q:Exit->St->List (List T)->Prop)(e:Exit)(σ:St)(rows:List (List T)):Prop:=match e with|.normal=>zfh P N ag b c σ rows Q|e=>Q e σ rows
theorem zse (c:Code)(Q:Exit->St->List (List T)->Prop)(σ:St)(rows:List (List T)):qez P N ag b c Q .normal σ rows=zfh P N ag b c σ rows Q:=rfl
theorem qaw (c:Code)(Q:Exit->St->List (List T)->Prop)(σ:St)(rows:List (List T))(i:Nat):qez P N ag b c Q (.exit i) σ rows=Q (.exit i) σ rows:=rfl
theorem zfh.seq {x y:Code}{σ:St}{rows:List (List T)}{Q:Exit->St->List (List T)->Prop}(h:zfh P N ag b x σ rows (qez P N ag b y Q)):zfh P N ag b (.seq x y) σ rows Q:=λn0 w0 A0 g a w h1 h2 h3=>by
 refine wp_seq (wp_mono (h n0 w0 A0 g a w h1 h2 h3) λe a' w' hq=>?_)
 obtain⟨σ',r',g',k1,k2,k3,k4⟩:=hq
 cases e with
 | normal=>exact k1 n0 w0 A0 g' a' w' k2 k3 k4
 | exit i=>exact⟨σ',r',g',k1,k2,k3,k4⟩
 | goto l=>exact⟨σ',r',g',k1,k2,k3,k4⟩
 | ret=>exact⟨σ',r',g',k1,k2,k3,k4⟩
 | panic ch=>exact⟨σ',r',g',k1,k2,k3,k4⟩
 | outgrown=>exact⟨σ',r',g',k1,k2,k3,k4⟩
theorem zfh.cut:∀(n:Nat){c:Code}{σ:St}{rows:List (List T)}{Q:Exit->St->List (List T)->Prop},okC n c=true->zcj N (zzm n c)=true->ex P (zzm n c) [] (λe σ'=>qez P N ag b (qp7 n c) Q e σ' rows) σ->zfh P N ag b c σ rows Q
 | 0,.seq x y,σ,rows,Q,_,hd,h=>zfh.seq (zfh.ofEx hd h)
 | n+1,.seq x y,σ,rows,Q,ho,hd,h=>by
  simp only[zzm,zcj,Qd]at hd;refine zfh.seq (zfh.mono (Q:=λe σ' r=>r=rows/\zuf P [.seq (zzm n y)] (λe σ'=>qez P N ag b (qp7 n y) Q e σ' rows) e σ') (λe σ' r k=>?_) (zfh.ofEx hd.1 (zcs (λe σ' k=>⟨rfl,k⟩) h)));obtain⟨rfl,k⟩:=k;cases e with
  | normal=>exact zfh.cut n ho hd.2 k
  | exit i=>exact k
  | goto l=>exact k
  | ret=>exact k
  | panic ch=>exact k
  | outgrown=>exact k
def blkM (i:Nat)(Q:Exit->St->List (List T)->Prop)(e:Exit)(σ:St)(rows:List (List T)):Prop:=match e with|.exit j=>if j=i then Q .normal σ rows else Q (.exit j) σ rows|e=>Q e σ rows
theorem zup (i:Nat)(Q:Exit->St->List (List T)->Prop)(σ:St)(rows:List (List T)):blkM i Q .normal σ rows=Q .normal σ rows:=rfl
theorem zqq (i j:Nat)(Q:Exit->St->List (List T)->Prop)(σ:St)(rows:List (List T)):blkM i Q (.exit j) σ rows=if j=i then Q .normal σ rows else Q (.exit j) σ rows:=rfl
theorem zfh.block {i:Nat}{c:Code}{σ:St}{rows:List (List T)}{Q:Exit->St->List (List T)->Prop}(h:zfh P N ag b c σ rows (blkM i Q)):zfh P N ag b (.block i c) σ rows Q:=λn0 w0 A0 g a w h1 h2 h3=>by
 refine wp_block (wp_mono (h n0 w0 A0 g a w h1 h2 h3) λe a' w' hq=>?_)
 obtain⟨σ',r',g',k1,k2,k3,k4⟩:=hq
 cases e with
 | exit j =>
  simp only[Exit.inBlock];simp only[zqq]at k1;split at k1
  ·rw[if_pos ‹_›];exact⟨σ',r',g',k1,k2,k3,k4⟩
  ·rw[if_neg ‹_›];exact⟨σ',r',g',k1,k2,k3,k4⟩
 | normal=>exact⟨σ',r',g',k1,k2,k3,k4⟩
 | goto l=>exact⟨σ',r',g',k1,k2,k3,k4⟩
 | ret=>exact⟨σ',r',g',k1,k2,k3,k4⟩
 | panic ch=>exact⟨σ',r',g',k1,k2,k3,k4⟩
 | outgrown=>exact⟨σ',r',g',k1,k2,k3,k4⟩
theorem RelM.wk {n0:Nat->Prop}{σ σ':St}{rows:List (List T)}{A0:(Nat->Prop)×RP}{g:Gh}{a:Act}{w:World}(h:RelM n0 N σ ag rows b A0 g a w)(k:Wk σ σ'):∃g',RelM n0 N σ' ag rows b A0 g' a w:=by
 obtain⟨n1,es,clk,k1,k2,k3,k4,k5,k6,k7⟩:=h.rel
 obtain⟨g',r1,r2,r3⟩:=k _ _ _ _ _ k4
 exact⟨g',h.keep k1 k2 k3 k6 k7 r1 k5 (Bk.refl _ _) (by rw[r2,r3])⟩
def lpM {X:Type}(I:X->St)(J:X->List (List T))(Pr:X->Prop)(μ:X->Nat)(x:X)(Q:Exit->St->List (List T)->Prop)(e:Exit)(σ:St)(rows:List (List T)):Prop:=match e with|.normal=>∃x',Pr x'/\μ x'<μ x/\J x'=rows/\Wk σ (I x')|e=>Q e σ rows
section
variable {X:Type}(I:X->St)(J:X->List (List T))(Pr:X->Prop)(μ:X->Nat)(x:X)
theorem qau (Q:Exit->St->List (List T)->Prop)(σ:St)(rows:List (List T)):lpM I J Pr μ x Q .normal σ rows=∃x',Pr x'/\μ x'<μ x/\J x'=rows/\Wk σ (I x'):=rfl
theorem qiz (Q:Exit->St->List (List T)->Prop)(σ:St)(rows:List (List T))(i:Nat):lpM I J Pr μ x Q (.exit i) σ rows=Q (.exit i) σ rows:=rfl
theorem zfh.loop {c:Code}{σ:St}{rows:List (List T)}{Q:Exit->St->List (List T)->Prop}(x0:X)(h0:Wk σ (I x0))(j0:J x0=rows)(p0:Pr x0)(hr:∀x,Pr x->zfh P N ag b c (I x) (J x) (lpM I J Pr μ x Q)):zfh P N ag b (.loop c) σ rows Q:=λn0 w0 A0 g a w h1 h2 h3=>by
 subst j0
 refine zn2 (λn a w=>∃x g1,Pr x/\μ x=n/\RelM n0 N (I x) ag (J x) b A0 g1 a w/\LtK n0 w/\Bk n0 w0 w) ?_ (n:=μ x0) (by obtain⟨g0,r1⟩:=h1.wk h0;exact⟨x0,g0,p0,rfl,r1,h2,h3⟩)
 rintro n a w ⟨x,g1,px,rfl,k2,k3,k4⟩
 refine wp_mono (hr x px n0 w0 A0 g1 a w k2 k3 k4) λe a' w' hq=>?_
 obtain⟨σ',r',g',h1,h2,h3,h4⟩:=hq
 cases e with
 | normal =>
  obtain⟨x',p',hlt,rfl,hwk⟩:=h1;obtain⟨g2,r1⟩:=h2.wk hwk;exact⟨μ x',hlt,x',g2,p',rfl,r1,h3,h4⟩
 | exit i=>exact⟨σ',r',g',h1,h2,h3,h4⟩
 | goto l=>exact⟨σ',r',g',h1,h2,h3,h4⟩
 | ret=>exact⟨σ',r',g',h1,h2,h3,h4⟩
 | panic ch=>exact⟨σ',r',g',h1,h2,h3,h4⟩
 | outgrown=>exact⟨σ',r',g',h1,h2,h3,h4⟩
end
end
attribute [go_sem] zqs zzm qp7 zse qaw zup zqq qau qiz
end
section
open Go.RowKit
variable {P:Program}{N:Nat}
theorem zqf {mt kt et:TypeId}{d:TypeDesc}(hm:P.underlying mt=some (.map kt et))(hd:P.underlying kt=some d){w:World}{r:Nat}{es:Array MapEntry}{clk:Nat}{key val:Value}(hb:w.heap[r]?=some (.map es clk))(hk:Go.MapKept.IsKey d key)(hf:Instr.findNow d key es.toList 0=some none) :
  (Instr.mapUpdate mt (.map (some r)) key val).run P w=.ok () { w with heap:=w.heap.setIfInBounds r (.map (es.push { key,val,born:=clk }) (clk+1)) }:=by
 simp[Instr.mapUpdate,run_underlying hm,Go.MapKept.run_getObj_map hb,Go.MapKept.run_checkKey hd hk,Go.MapKept.run_findKey hd hf,Go.MapKept.run_setObj_map _ hb,Result.andThen]
theorem zsi {mt:TypeId}{w:World}:(Instr.makeMap mt none).run P w=.ok (.map (some w.heap.size)) (w.alloc (.map #[] 0)):=by
 simp[Instr.makeMap,Result.andThen]
theorem zti {ops:Array Oper}{K:St->Prop}{n0:Nat->Prop}{w0:World}{A0:(Nat->Prop)×RP}{R:Exit->Act->World->Prop}{rest:List Nat}(hg:∀o∈ops.toList,o.guard=none)(hR:∀a w σ g,K σ->Rel n0 N σ g a w->LtK n0 w->Bk n0 w0 w->(g.A0,g.R0)=A0->wpOps P ops R rest a w) :
  ∀(k i:Nat),i+k<=ops.size->(∀o∈ops.toList,∀d,o.dst=some d->d<N)->∀(σ:St) (g:Gh) (a:Act) (w:World),zbj P ops ((ops.toList.drop i).take k) σ K->Rel n0 N σ g a w->LtK n0 w->Bk n0 w0 w->(g.A0,g.R0)=A0->wpOps P ops R (List.range' i k++rest) a w
 | 0,i,hi,hd,σ,g,a,w,h,hr,hn,hb,hA=>by
  rw[List.take_zero]at h;exact hR a w σ g h hr hn hb hA
 | k+1,i,hi,hd,σ,g,a,w,h,hr,hn,hb,hA=>by
  have hlt:i<ops.size:=by omega
  have hcons:ops.toList.drop i=ops[i]::ops.toList.drop (i+1):=by
   rw[Qn (by simpa using hlt)];rfl
  rw[hcons,Y2]at h;rw[show List.range' i (k+1)++rest=i::(List.range' (i+1) k++rest) from rfl,wpOps_cons];have ho:ops[i]?=some ops[i]:=by simp[hlt]
  have hdi:∀d,ops[i].dst=some d->d<N:=hd _ (by simp);have hgi:ops[i].guard=none:=hg _ (by simp);unfold wpOp;simp only[ho];unfold zbj exG at h;rw[hgi]at h;have:Region.wanted ops[i] (yielded ops a.tmps)=true:=by simp[Region.wanted,hgi]
  rw[if_pos this];exact Or.inl (zca (λa' w' ⟨σ',g',h0,k1,k2,k3,k4⟩=>zti hg hR k (i+1) Zi hd σ' g' a' w' h0 k1 (hn.mono k2.size) (hb.trans k2) (by rw[k3,k4];exact hA)) (ze4 h n0 N g a w hr hn hdi))
def mvC:C->Option T
 | .rn t=>some t
 | .t t=>if t.flat=true then some t else none
 | _=>none
def mvCs:List C->Option (List T)
 | []=>some []
 | c::cs=>(mvC c).bind λt=>(mvCs cs).map λts=>t::ts
def mvV (ag:Bool):V->Option (List T)
 | .agg cs=>if ag=true then mvCs cs else none
 | .one c=>if ag=true then none else (mvC c).map λt=>[t]
 | _=>none
theorem qco {σ:St}{g:Gh}{w:World}{A:Nat->Prop}(hA:∀b,zcl σ g w b->A b){c:C}{t:T}{v:Value}(h:mvC c=some t)(hv:CR σ g w c v):zai w A t v:=by
 cases c<;>simp only[mvC,Qf,reduceCtorEq]at h
 ·split at h
  ·rename_i hf;obtain rfl:=Jg h;exact zdq hf hv
  ·cases h
 ·subst h;exact zai.keep (λ_ _=>rfl) hA _ _ hv
theorem zxe {σ:St}{g:Gh}{w:World}{A:Nat->Prop}(hA:∀b,zcl σ g w b->A b):∀{cs:List C}{ts:List T}{vs:List Value},mvCs cs=some ts->CRs σ g w cs vs->zae w A ts vs
 | [],ts,vs,h,hv=>by
  obtain rfl:=Jg h;unfold zae;exact hv
 | c::cs,ts,vs,h,hv=>by
  obtain⟨t,h1,h⟩:=Qh.1 h;obtain⟨ts',h2,rfl⟩:=Q3.1 h;obtain⟨v,vs',rfl,k1,k2⟩:=hv;unfold zae;exact⟨v,vs',rfl,qco hA h1 k1,zxe hA h2 k2⟩
theorem qpd {σ:St}{g:Gh}{w:World}{A:Nat->Prop}(hA:∀b,zcl σ g w b->A b){ag:Bool}{x:V}{ts:List T}{v:Value}(h:mvV ag x=some ts)(hv:VR σ g w x v):∃us,(if ag=true then v=.agg ⟨us⟩else us=[v])/\zae w A ts us:=by
 cases x with
 | agg cs =>
  simp only[mvV]at h;split at h
  ·rename_i hag;obtain⟨us,rfl,hc⟩:=hv;exact⟨us,by rw[if_pos hag],zxe hA h hc⟩
  ·cases h
 | one c =>
  simp only[mvV]at h;split at h
  ·cases h
  ·rename_i hag;obtain⟨t,h1,rfl⟩:=Q3.1 h;refine⟨[v],by rw[if_neg hag],?_⟩;unfold zae;refine⟨v,[],rfl,qco hA h1 hv,?_⟩;unfold zae;rfl
 | tup _=>cases h
theorem zaz.push {w:World}{A:Nat->Prop}{ag:Bool}{r:List T}{e:MapEntry}(he:∃us,(if ag=true then e.val=.agg ⟨us⟩else us=[e.val])/\zae w A r (e.key::us)):∀{rows:List (List T)}{es:List MapEntry},zaz w A ag rows es->zaz w A ag (rows++[r]) (es++[e])
 | [],es,h=>by
  unfold zaz at h;subst h;obtain⟨us,h1,h2⟩:=he;show zaz w A ag [r] [e]
  unfold zaz;refine⟨e,[],us,rfl,h1,h2,?_⟩;unfold zaz;rfl
 | _::rows,es,h=>by
  unfold zaz at h;obtain⟨e',es',us,rfl,h1,h2,h3⟩:=h;show zaz w A ag (_::(rows++[r])) (e'::(es'++[e]))
  unfold zaz;exact⟨e',_,us,rfl,h1,h2,zaz.push he h3⟩
def updM (P:Program)(ag:Bool)(b:Nat)(mt:TypeId)(x k v:Operand)(σ:St)(rows:List (List T))(K:St->List (List T)->Prop):Prop:=match σ.get P 0 x,σ.get P 0 k,mapT P mt,mvV ag (σ.get P 0 v)with
 | .one (.cv (.map (some b'))),.one (.t kT),some (d,_),some vts=>b'=b/\qf2 d kT=true/\zdy kT rows=some none/\K σ (rows++[kT::vts])
 | _,_,_,_=>False
theorem qp1 {ag:Bool}{b:Nat}{mt:TypeId}{x k v:Operand}{σ:St}{rows:List (List T)}{K:St->List (List T)->Prop}(h:updM P ag b mt x k v σ rows K):∃kT d et vts,σ.get P 0 x=.one (.cv (.map (some b)))/\σ.get P 0 k=.one (.t kT)/\mapT P mt=some (d,et)/\mvV ag (σ.get P 0 v)=some vts/\qf2 d kT=true/\zdy kT rows=some none/\K σ (rows++[kT::vts]):=by
 unfold updM at h
 split at h
 ·rename_i b' kT d et vts h1 h2 h3 h4;obtain⟨rfl,h5,h6,h7⟩:=h;exact⟨kT,d,et,vts,h1,h2,h3,h4,h5,h6,h7⟩
 ·exact h.elim
theorem zqv {d:TypeDesc}{k:T}(h:qf2 d k=true):k.flat=true:=by
 cases d<;>cases k<;>simp[qf2]at h<;>rfl
section
variable {ag:Bool}{b:Nat}
theorem zfh.upd {i:Nat}{ops:Array Oper}{mt:TypeId}{x k v:Operand}{ty:TypeId}{ps:String}{af:Array Edge}{σ:St}{rows:List (List T)}{Q:Exit->St->List (List T)->Prop}(m:Nat)(hz:ops.size=m+1)(hl:ops[m]?=some ⟨none,.mapUpdate mt x k v,ty,ps,af,none⟩)(hg:(ops.toList.all λo=>o.guard.isNone)=true)(hd:zcj N (.region i ops false)=true)
  (h:exo P ops (ops.toList.take m) [] (λ_ σ'=>updM P ag b mt x k v σ' rows (Q .normal)) σ):zfh P N ag b (.region i ops false) σ rows Q:=λn0 w0 A0 g a w hM h2 h3=>by
 obtain⟨n1,es,clk,k1,k2,k3,k4,k5,k6,k7⟩:=hM.rel
 refine wp_region ?_
 have hd':∀o∈ops.toList,∀d,o.dst=some d->d<N:=λo ho d hdd=>by
  simp only[zcj,Kb]at hd;have:=hd o (by simpa using ho);rw[hdd]at this;simpa using this
 have hg':∀o∈ops.toList,o.guard=none:=λo ho=>by
  have:=Qr.1 hg o ho;simpa using this
 rw[hz,List.range_eq_range',show List.range' 0 (m+1)=List.range' 0 m++[m] by rw[List.range'_1_concat,Qi]]
 refine zti (w0:=w) (A0:=(g.A0,g.R0)) hg' ?_ m 0 Zi hd' σ g a w (by simpa[exo,zuf]using h) k4 k5 (Bk.refl _ _) rfl
 intro a' w' σ' g' hK m2 m3 m4 m5
 obtain⟨kT,d,et,vts,c1,c2,c3,c4,c5,c6,c7⟩:=qp1 hK
 obtain⟨kt,t1,t2⟩:=qh1 c3
 have hM':=hM.keep k1 k2 k3 k6 k7 m2 m3 m4 m5
 have e1:g'.A0=g.A0:=(Jr m5).1
 have hA':¬g'.A0 b:=by rw[e1];exact k3
 have he:w'.heap[b]?=some (.map es clk):=(m4.block b k2).trans k6
 have hr:zaz w' (λx=>n1 x/\g'.A0 x) ag rows es.toList:=zaz.keep (λx hx=>m4.block x hx.1) (λx hx=>⟨hx.1,by rw[e1];exact hx.2⟩) ag rows _ k7
 have v1:=m2.get P 0 x
 have v2:=m2.get P 0 k
 have v3:=m2.get P 0 v
 rw[c1]at v1
 rw[c2]at v2
 have v1:a'.eval x=.map (some b):=v1
 have v2:zai w' (Fix σ' g' w') kT (a'.eval k):=v2
 have hfn:=ze3 c5 (zdq (A':=λx=>n1 x/\g'.A0 x) (w':=w') (zqv c5) v2) ag rows es.toList 0 none hr c6
 have hkey:=zoc c5 v2
 have hrun:=zqf t1 t2 (val:=a'.eval v) he hkey hfn
 rw[wpOps_cons]
 unfold wpOp
 simp only[hl]
 rw[if_pos (by simp[Region.wanted])]
 refine Or.inl ?_
 unfold Oper.wp
 have hex:(execOp a'.eval ⟨none,.mapUpdate mt x k v,ty,ps,af,none⟩).run P w'=.ok .skip { w' with heap:=w'.heap.setIfInBounds b (.map (es.push { key:=a'.eval k,val:=a'.eval v,born:=clk }) (clk+1)) }:=by
  unfold execOp;simp only[v1,Sem.run_bind,hrun,Result.andThen_ok,Sem.run_pure]
 rw[hex]
 have hh:=(Go.MapKept.heap_set (o':=.map (es.push { key:=a'.eval k,val:=a'.eval v,born:=clk }) (clk+1)) he)
 have hother:∀x,x≠b->({ w' with heap:=w'.heap.setIfInBounds b (.map (es.push { key:=a'.eval k,val:=a'.eval v,born:=clk }) (clk+1)) }:World).heap[x]?=w'.heap[x]?:=hh.2
 have hsize:({ w' with heap:=w'.heap.setIfInBounds b (.map (es.push { key:=a'.eval k,val:=a'.eval v,born:=clk }) (clk+1)) }:World).heap.size=w'.heap.size:=by simp
 have hself:({ w' with heap:=w'.heap.setIfInBounds b (.map (es.push { key:=a'.eval k,val:=a'.eval v,born:=clk }) (clk+1)) }:World).heap[b]?=_:=hh.1
 have hbk:Bk n0 w' { w' with heap:=w'.heap.setIfInBounds b (.map (es.push { key:=a'.eval k,val:=a'.eval v,born:=clk }) (clk+1)) }:=⟨rfl,rfl,rfl,by rw[hsize];exact Qp _,λj hj=>hother j λe=>hM.nb (e▸hj)⟩
 have hfree:∀y,zcl σ' g' w' y->y<w'.heap.size/\g'.A0 y:=λy hy=>⟨hy.1.2.2.1,hy.1.2.2.2⟩
 generalize hw:({ w' with heap:=w'.heap.setIfInBounds b (.map (es.push { key:=a'.eval k,val:=a'.eval v,born:=clk }) (clk+1)) }:World)=w2 at hother hsize hself hbk⊢
 have hR2:Rel (λy=>n1 y\/zcl σ' g' w' y) N σ' g' a' w2:=by
  refine m2.turn (n1:=λy=>n1 y\/zcl σ' g' w' y) (A1:=g'.A0) (w':=w2) (λy hf=>⟨hf.2.2.2,hother y λe=>hA' (e▸hf.2.2.2)⟩) (by rw[hsize];exact Qp _) (λy hy=>m2.anew y λq=>hy (Or.inl q)) (λj hj=>⟨?_,hother _ λe=>m2.base j hj (e▸k2)⟩) λe ho y hy=>⟨?_,(m2.ebase e ho y hy).1,hother _ λq=>m2.etop e ho y hy (q▸k2)⟩
  ·rintro(q|q)
   ·exact m2.base j hj q
   ·exact q.1.1 j hj rfl
  ·rintro(q|q)
   ·exact m2.etop e ho y hy q
   ·exact q.2 e ho hy
 obtain⟨us,u1,u2⟩:=qpd (A:=λy=>(n1 y\/zcl σ' g' w' y)/\g'.A0 y) (λy hy=>⟨Or.inr hy,hy.1.2.2.2⟩) c4 v3
 refine⟨σ',rows++[kT::vts],g',c7,⟨⟨λy=>n1 y\/zcl σ' g' w' y,es.push { key:=a'.eval k,val:=a'.eval v,born:=clk },clk+1,λy hy=>Or.inl (k1 y hy),Or.inl k2,hA',hR2,λy hy=>?_,hself,?_⟩,hM'.nb,hM'.sub,hM'.r0,hM'.new⟩,(h2.mono m4.size).mono hbk.size,(h3.trans (znk k1 m4)).trans hbk⟩
 ·rw[hsize];rcases hy with q|q
  ·exact m3 y q
  ·exact(hfree y q).1
 ·rw[Array.toList_push];refine zaz.keep (A:=λy=>(n1 y\/zcl σ' g' w' y)/\g'.A0 y) (λy hy=>hother y λe=>hA' (e▸hy.2)) (λy hy=>hy) ag _ _ (zaz.push ⟨us,u1,?_⟩ (zaz.keep (λ_ _=>rfl) (λy hy=>⟨Or.inl hy.1,hy.2⟩) ag rows _ hr));unfold zae;exact⟨_,_,rfl,zdq (zqv c5) v2,u2⟩
end
theorem Rel.enter1 {n0:Nat->Prop}{σ:St}{g:Gh}{a:Act}{w:World}(h:Rel n0 N σ g a w)(o1:Obj) :
  Rel (λb=>n0 b\/b=w.heap.size) N σ { g with A0:=λb=>g.A0 b/\b≠w.heap.size } a (w.alloc o1):=by
 have hs:∀b,b<w.heap.size->(w.alloc o1).heap[b]?=w.heap[b]?:=λb hb=>Below.heap_alloc _ _ _ hb
 refine h.turn (λb hf=>⟨⟨hf.2.2.2,?_⟩,hs b hf.2.2.1⟩) (by simp) (λb hb=>?_) (λk hk=>⟨?_,hs _ (h.lt hk)⟩) (λe ho b hm=>?_)
 ·have:=hf.2.2.1;omega
 ·have h1:¬n0 b:=λk=>hb (Or.inl k);exact⟨⟨(h.anew b h1).1,λe=>hb (Or.inr e)⟩,(h.anew b h1).2⟩
 ·have:=h.lt hk;rintro(k1|k1)
  ·exact h.base k hk k1
  ·omega
 ·have:=h.elt ho hm;refine⟨?_,⟨(h.ebase e ho b hm).1,Zi⟩,hs b this⟩;rintro(k1|k1)
  ·exact h.etop e ho b hm k1
  ·omega
def onM (ag:Bool)(b d:Nat)(σ:St)(rows:List (List T))(K:St->Prop):Prop:=σ.sl d=.one (.cv (.map (some b)))/\K (σ.put (some d) (.one (.rn (.mp ag rows))))
theorem RelM.leave {n0:Nat->Prop}{σ:St}{ag:Bool}{rows:List (List T)}{b d:Nat}{A0:(Nat->Prop)×RP}{g:Gh}{a:Act}{w:World}(h:RelM n0 N σ ag rows b A0 g a w)(hd:σ.sl d=.one (.cv (.map (some b)))) :
  ∃g',Rel n0 N (σ.put (some d) (.one (.rn (.mp ag rows)))) g' a w/\(g'.A0,g'.R0)=A0:=by
 obtain⟨n1,es,clk,k1,k2,k3,k4,k5,k6,k7⟩:=h.rel
 have hL:Rel n0 N σ { g with A0:=A0.1 } a w:=k4.leave k1 h.sub λx hx=>⟨(h.new x hx).1,by rw[h.r0];exact(h.new x hx).2⟩
 have hF:∀x,n1 x->A0.1 x->zcl σ { g with A0:=A0.1 } w x:=λx h1 h2=>⟨⟨λk hk e=>k4.base k hk (e▸h1),λe y he ho hh=>k4.etop e ⟨y,he,ho⟩ x (List.mem_of_mem_head? hh) h1,k5 x h1,h2⟩,λe ho hm=>k4.etop e ho x hm h1⟩
 refine⟨{ g with A0:=A0.1 },hL.slots_of rfl rfl hL.defers hL.size λi=>?_,by show(A0.1,g.R0)=A0;rw[h.r0]⟩
 show VR σ _ w (upd σ.sl d _ i) _
 by_cases hi:i=d
 ·subst hi;rw[zah];have hv:=k4.slots i;rw[hd]at hv;have hv:a.tmps.getD i (g.R0.ξ i)=.map (some b):=hv;show CR σ _ w (.rn (.mp ag rows)) (a.tmps.getD i (g.R0.ξ i))
  rw[hv];show zai w _ (.mp ag rows) (.map (some b))
  unfold zai;exact⟨b,es,clk,rfl,hF b k2 (h.new b h.nb).1,k6,zaz.keep (λ_ _=>rfl) (λx hx=>hF x hx.1 (h.sub x hx.2)) ag rows _ k7⟩
 ·rw[zan _ _ hi];exact hL.slots i
theorem zgx.scope {i d0 d1:Nat}{mt t0 t1:TypeId}{p0 p1:String}{f0 f1:Array Edge}{X Y:Code}{σ:St}{Q:Exit->St->Prop}{ops:Array Oper}(ag:Bool)(hz:ops.size=2)(c0:ops[0]?=some ⟨some d0,.makeMap mt none,t0,p0,f0,none⟩)(c1:ops[1]?=some ⟨some d1,.assign (.tmp d0),t1,p1,f1,none⟩)(hd:d0<N/\d1<N)
  (h:∀b,zfh P N ag b X ((σ.put (some d0) (.one (.cv (.map (some b))))).put (some d1) (.one (.cv (.map (some b))))) [] (λe σ' rows=>e=.normal/\onM ag b d1 σ' rows λσ''=>zgx P N Y σ'' Q)) :
  zgx P N (.seq (.region i ops false) (.seq X Y)) σ Q:=λn0 w0 A0 g a w hR h2 h3 h4=>by
 refine wp_seq (wp_region ?_)
 have e0:(execOp a.eval ⟨some d0,.makeMap mt none,t0,p0,f0,none⟩).run P w=.ok (.value (.map (some w.heap.size))) (w.alloc (.map #[] 0)):=by
  unfold execOp;simp only[J5,Sem.run_bind,zsi,Result.andThen_ok,Sem.run_pure]
 have hR1:=(hR.enter1 (.map #[] 0)).put (some d0) (x:=.one (.cv (.map (some w.heap.size)))) (v:=.map (some w.heap.size)) rfl (λj hj=>by cases hj;exact hd.1)
 have ev:(a.put (some d0) (.map (some w.heap.size))).eval (.tmp d0)=.map (some w.heap.size):=by
  show(a.tmps.setIfInBounds d0 _).getD d0 undef=_
  exact zhb hR.size hd.1 _ _
 have hR2:=hR1.put (some d1) (x:=.one (.cv (.map (some w.heap.size)))) (v:=.map (some w.heap.size)) rfl (λj hj=>by cases hj;exact hd.2)
 rw[hz]
 show wpOps P _ _ [0,1] a w
 rw[wpOps_cons]
 unfold wpOp
 simp only[c0]
 rw[if_pos (by simp[Region.wanted])]
 refine Or.inl ?_
 unfold Oper.wp
 rw[e0]
 show wpOps P _ _ [1] _ _
 rw[wpOps_cons]
 unfold wpOp
 simp only[c1]
 rw[if_pos (by simp[Region.wanted])]
 refine Or.inl ?_
 unfold Oper.wp
 have e1:∀(a:Act) (w:World),(execOp a.eval ⟨some d1,.assign (.tmp d0),t1,p1,f1,none⟩).run P w=.ok (.value (a.eval (.tmp d0))) w:=λa w=>rfl
 rw[e1,ev]
 have hbk:Bk n0 w (w.alloc (.map #[] 0)):=⟨rfl,rfl,rfl,by simp,λk hk=>Below.heap_alloc w _ k (h2 k hk)⟩
 have hM:RelM n0 N ((σ.put (some d0) (.one (.cv (.map (some w.heap.size))))).put (some d1) (.one (.cv (.map (some w.heap.size))))) ag [] w.heap.size A0 { g with A0:=λb=>g.A0 b/\b≠w.heap.size } ((a.put (some d0) (.map (some w.heap.size))).put (some d1) (.map (some w.heap.size))) (w.alloc (.map #[] 0)):=by
  refine⟨⟨λb=>n0 b\/b=w.heap.size,#[],0,λx hx=>Or.inl hx,Or.inr rfl,λq=>q.2 rfl,hR2,λx hx=>?_,(Go.MapKept.heap_alloc w _).1,?_⟩,h2.new (Qp _),λx hx=>?_,?_,λx hx=>?_⟩
  ·rcases hx with q|q
   ·have:=h2 x q;simp;omega
   ·simp;omega
  ·unfold zaz;rfl
  ·rw[<-h4];exact hx.1
  ·rw[<-h4]
  ·rw[<-h4];exact hR.anew x hx
 refine wp_seq (wp_mono (h w.heap.size n0 w0 A0 _ _ _ hM (h2.mono hbk.size) (h3.trans hbk)) λe a' w' hq=>?_)
 obtain⟨σ',rows,g',⟨rfl,q1,q2⟩,q3,q4,q5⟩:=hq
 obtain⟨g'',r1,r2⟩:=q3.leave q1
 exact q2 n0 w0 A0 g'' a' w' r1 q4 q5 r2
end
section
open Go.RowKit
variable {P:Program}{N:Nat}
def mpOf:V->Option (Bool×List (List T))
 | .one (.t (.mp ag rows))=>some (ag,rows)
 | .one (.rn (.mp ag rows))=>some (ag,rows)
 | _=>none
def tupX:V->Option (Bool×List C)
 | .agg cs=>some (true,cs)
 | .one c=>some (false,[c])
 | _=>none
theorem qd4 {σ:St}{g:Gh}{w:World}{x:V}{y:Bool×List C}{v:Value}(h:tupX x=some y)(hv:VR σ g w x v):CRx σ g w y v:=by
 cases x with
 | agg cs=>obtain rfl:=Jg h;obtain⟨a,h1,h2⟩:=hv;exact⟨a,h1,h2⟩
 | one c=>obtain rfl:=Jg h;exact⟨c,rfl,hv⟩
 | tup _=>cases h
theorem qnc {σ:St}{g:Gh}{w:World}{x:V}{ag:Bool}{rows:List (List T)}{v:Value}(h:mpOf x=some (ag,rows))(hv:VR σ g w x v):zai w (Fix σ g w) (.mp ag rows) v:=by
 unfold mpOf at h
 split at h
 ·cases h;exact hv
 ·cases h;exact zai.keep (λ_ _=>rfl) (λb hb=>hb.1) _ _ hv
 ·cases h
def lk2Z (P:Program)(et:TypeId):Option V:=((P.info? et).bind (·.zero)).bind λz=>(tupX (ofV P et z)).map λy=>.tup [y,(false,[.t (.bool false)])]
def lk2 (P:Program)(σ:St)(mt:TypeId)(x ix:Operand):Option V:=match mpOf (σ.get P 0 x),σ.get P 0 ix,mapT P mt with
 | some (ag,rows),.one (.t k),some (d,et)=>if qf2 d k=true then (zdy k rows).bind λr=>match r with
  | some vs=>(rowV ag vs).bind λv=>(tupX v).map λy=>.tup [y,(false,[.t (.bool true)])]
  | none=>lk2Z P et
  else none
 | _,_,_=>none
theorem zvq {o:Oper}{σ:St}{mt:TypeId}{x ix:Operand}{v:V}(ho:o.op=.lookup mt x ix true)(h:lk2 P σ mt x ix=some v):zag P o σ (σ.put o.dst v) :=
 zag.value λn0 N g a w hR=>by
  unfold lk2 at h;split at h
  ·rename_i ag rows k d et hm hi ht;split at h
   ·rename_i hk;obtain⟨r,hf,h⟩:=Qh.1 h;obtain⟨kt,t1,t2⟩:=qh1 ht;have h1:=qnc hm (hR.get P 0 x);have h2:=hR.get P 0 ix;rw[hi]at h2;have h2:zai w (Fix σ g w) k (a.eval ix):=h2;unfold zai at h1;obtain⟨b,es,clk,e1,hA,hb,he⟩:=h1;cases r with
    | some vs =>
     obtain⟨y,hv,h⟩:=Qh.1 h;obtain⟨z,hz,rfl⟩:=Q3.1 h;obtain⟨j,u,us,f1,f2,f3⟩:=ze3 hk h2 ag rows es.toList 0 (some vs) he hf;have hvr:VR σ g w y u:=by
      unfold rowV at hv;by_cases hag:ag=true
      ·rw[if_pos hag]at hv f2;cases hv;exact⟨us,f2,qoc f3⟩
      ·rw[if_neg hag]at hv f2;subst f2;rcases vs with _|⟨t,_|⟨t',vs⟩⟩
       ·cases hv
       ·cases hv;unfold zae at f3;obtain⟨v',vs',e,h3,_⟩:=f3;cases e;exact h3
       ·cases hv
     refine⟨.tuple #[u,.bool true],?_,[u,.bool true],rfl,u,[.bool true],rfl,qd4 hz hvr,.bool true,[],rfl,⟨.t (.bool true),rfl,rfl⟩,rfl⟩;unfold execOp;simp only[ho];simp[Instr.lookup,run_underlying t1,e1,Go.MapKept.run_getObj_map hb,Go.MapKept.run_checkKey t2 (zoc hk h2),Go.MapKept.run_findKey t2 f1,Result.andThen]
    | none =>
     obtain⟨zv,hz0,h⟩:=Qh.1 h;obtain⟨y,hy,rfl⟩:=Q3.1 h;obtain⟨i,hi1,hi2⟩:=Qh.1 hz0;have f1:=ze3 hk h2 ag rows es.toList 0 none he hf;have hvr:VR σ g w (ofV P et zv) zv:=qny P σ g w et zv;refine⟨.tuple #[zv,.bool false],?_,[zv,.bool false],rfl,zv,[.bool false],rfl,qd4 hy hvr,.bool false,[],rfl,⟨.t (.bool false),rfl,rfl⟩,rfl⟩;unfold execOp;simp only[ho];simp[Instr.lookup,run_underlying t1,e1,Go.MapKept.run_getObj_map hb,Go.MapKept.run_checkKey t2 (zoc hk h2),Go.MapKept.run_findKey t2 f1,Result.andThen,zeroValue,typeInfo,hi1,hi2]
   ·cases h
  ·cases h
section
variable {ks:List Fr}{Q:Exit->St->Prop}{σ:St}{ops:Array Oper}{os:List Oper}{L:List (List Ky×List Ky)}{ty:TypeId}{ps:String}{af:Array Edge}{dst:Option Nat}{mt:TypeId}{x ix:Operand}{v:V}
theorem qgf (h:lk2 P σ mt x ix=some v)(k:exo P ops os ks Q (σ.put dst v)):exo P ops (⟨dst,.lookup mt x ix true,ty,ps,af,none⟩::os) ks Q σ:=zdc rfl rfl (zvq rfl h) k
end
attribute [go_sem] mpOf tupX lk2 onM updM mvC mvCs mvV Option.bind_some Option.map_some
end
section
open Go.RowKit
variable {P:Program}
theorem qox {f:FuncId}{fn:Func}{c:Code}{bx bx':Bxs}{l:List AF}{res:List (Bool×D)}(hc:za8 P f)(hf:P.funcs[f]?=some fn)(hb:fn.body=some c)(hN:l.length<=fn.ntmps)(hN2:fn.ntmps<=1000000)(hbl:bx'.length=bx.length)(hj:AF.okJ bx.length l=true)(hs:zb6 (AF.ds l++bxA bx.flatten))(hfs:gFS (AF.ds l++bxA bx.flatten)=true)(hrl:fn.results.toList.length=res.length)
  (h:zgx P fn.ntmps c (zhz l bx) (PB P fn.results.toList res bx')):PC P f bx l bx' res:=by
 refine⟨hc,hbl,λw bs bvs dvs fp tp A hinj hbf hbx hv hn hl=>?_⟩
 refine calls_of_wp hf hb ?_
 obtain⟨g,hg,hR⟩:=zq7 (N:=fn.ntmps) hinj hbf hbx hv hn hl hj hN hN2 hs hfs (ξ:=λi=>if 1000000<=i then zl7 (bs (i-1000000))else undef) (λi hi=>if_neg Zi) (λi b=>by
  by_cases h:1000000<=i
  ·rw[if_pos h];exact λe=>by cases e
  ·rw[if_neg h];exact λe=>by cases e) (λj hj=>by
  rw[if_pos Zi,show 1000000+j-1000000=j by omega])
 refine wp_mono (h _ w _ g _ w hR (λk hk=>hk.1) (Bk.refl _ _) hg) λe a' w' hq=>?_
 obtain⟨σ',g',h1,h2,h3,h4,h5⟩:=hq
 have hξ:∀q,q<bx'.length->g'.R0.ξ (1000000+(0+q))=zl7 (bs (0+q)):=λq hq=>by
  rw[(Jr h5).2,Qi];show(if 1000000<=1000000+q then zl7 (bs (1000000+q-1000000))else undef)=_
  rw[if_pos Zi,show 1000000+q-1000000=q by omega]
 have key:(∃pl,PB0 P fn.results.toList res bx' pl σ')->∃v,(results fn a'.tmps).run P w'=.ok v w'/\∃us bvs' fp' tp',Ending.returned v=.returned (zcm us)/\zfd w' bs 0 bvs' bx'/\us.length=res.length ∧
   zaw w' (λk=>(k<w'.heap.size/\k∉fp'/\∀j,j<bx.length->k≠bs j)/\(A k\/w.heap.size<=k\/k∈fp)) (res++bxA bx'.flatten) (us++bvs'.flatten) fp' tp'/\fp'.Nodup/\(∀b∈fp',b∈fp\/w.heap.size<=b)/\Bk (λk=>k<w.heap.size/\k∉fp/\∀j,j<bx.length->k≠bs j) w w':=by
  rintro⟨pl,hk⟩;obtain⟨vs,hvs,hk⟩:=zao hk;obtain⟨us,r1,r2⟩:=zb9 h2 fn hvs;obtain⟨cs,bvs',k0,b1,b2,b3⟩:=zlu (bs:=bs) h2 hN2 hξ hk;obtain⟨B,hB⟩:=h2.fam;obtain⟨s,k1,⟨tp',k2⟩,k3,k4⟩:=zf9 h2 hB k0 (VRl.append r2 b2);rw[Kh]at k4;have hsp:s.Pairwise okP:=(Yu.1 (k4 List.Pairwise.nil)).imp λh=>h.symm;have hin:∀b∈bks B s,∃e,σ'.On e/\b∈g'.φ e:=λb hb=>by
   obtain⟨x,hx,hm⟩:=Jw.1 hb;exact⟨x.1,k3 x hx,hB.sub x.1 x.2 b (k3 x hx) hm⟩
  have hbβ:∀j,j<bx.length->σ'.bx (1000000+j)≠none/\g'.β (1000000+j)=bs j:=λj hj=>by
   have:=b3 j Zi
   rwa [Qi]at this
  have hA:∀b,zcl σ' g' w' b->(b<w'.heap.size/\b∉bks B s/\∀j,j<bx.length->b≠bs j)/\(A b\/w.heap.size<=b\/b∈fp):=λb hb=>by
   have hnb:∀j,j<bx.length->b≠bs j:=λj hj e=>hb.1.1 _ (hbβ j hj).1 (by rw[(hbβ j hj).2,e]);refine⟨⟨hb.1.2.2.1,λhm=>?_,hnb⟩,?_⟩
   ·obtain⟨e,ho,hm⟩:=hin b hm;exact hb.2 e ho hm
   ·have h0:=hb.1.2.2.2;rw[(Jr h5).1]at h0;rcases h0 with h0|h0|h0|⟨j,hj,h0⟩
    ·exact Or.inl h0
    ·exact Or.inr (Or.inl h0)
    ·exact Or.inr (Or.inr h0)
    ·exact absurd h0 (hnb j hj)
  refine⟨_,r1,us,bvs',bks B s,tp',rfl,b1,by rw[r2.len,<-hrl];exact zgs hvs,zaw.keepA hA k2,zef h2 hB k3 hsp,λb hb=>?_,h4⟩;obtain⟨e,ho,hm⟩:=hin b hb;have h0:=(h2.ebase e ho b hm).2;rw[(Jr h5).2]at h0;rcases h0 with h0|h0|⟨j,hj,h0⟩
  ·exact Or.inl h0
  ·exact Or.inr h0
  ·have:=h2.ebx e _ ho (hbβ j hj).1;rw[(hbβ j hj).2]at this;exact absurd (h0▸hm) this
 have key':∀{Y:Prop},(PB0 P fn.results.toList res bx' [] σ'\/∃pl,PB0 P fn.results.toList res bx' pl σ')->((∃pl,PB0 P fn.results.toList res bx' pl σ')->Y)->Y:=λh k=>h.elim (λh=>k ⟨[],h⟩) k
 cases e with
 | normal=>exact⟨h2.defers,key' h1 key⟩
 | ret=>exact⟨h2.defers,key' h1 key⟩
 | exit _=>exact h1.elim
 | goto _=>exact h1.elim
 | panic _=>exact h1.elim
 | outgrown=>exact h1.elim
end
section
open Go.RowKit
variable {P:Program}
def C.fb (j:Nat)(ts:List T):C->C
 | .bx b o=>if b=j then .el ts o else .bx b o
 | .fn f [k]=>if k=j then .t (.fn f [.ptr ts])else .fn f [k]
 | .fn f []=>.fn f []
 | .fn _ _=>.any
 | c=>c
def qna:List C->Option (List T)
 | []=>some []
 | .t x::cs=>(qna cs).map (x::·)
 | .rn x::cs=>(qna cs).map (x::·)
 | _::_=>none
def fbS (f:Nat->V)(j:Nat)(ts:List T):Nat->V:=λi=>(f i).map (C.fb j ts)
def fbB (f:Nat->Option (List C))(j:Nat)(ts:List T):Nat->Option (List C):=λb=>if b=j then none else (f b).map λcs=>cs.map (C.fb j ts)
theorem fbS_at (f:Nat->V)(j:Nat)(ts:List T)(i:Nat):fbS f j ts i=(f i).map (C.fb j ts):=rfl
def St.fb (σ:St)(j:Nat)(ts:List T):St:=⟨fbS σ.sl j ts,fbB σ.bx j ts,σ.ev⟩
theorem qhy {σ:St}{g:Gh}{w:World}:∀{cs:List C}{ts:List T}{vs:List Value},qna cs=some ts->CRs σ g w cs vs->∀(i:Nat)(t:T),ts[i]?=some t->∃v,vs[i]?=some v/\zai w (Fix σ g w) t v
 | [],ts,vs,h,_,i,t,ht=>by
  unfold qna at h;cases h;simp at ht
 | c::cs,ts,vs,h,hv,i,t,ht=>by
  obtain⟨v,vs',rfl,h1,h2⟩:=hv;have key:∀x,(qna cs).map (x::·)=some ts->zai w (Fix σ g w) x v->∃v',(v::vs')[i]?=some v'/\zai w (Fix σ g w) t v':=λx hx hr=>by
   cases hc:qna cs with
   | none=>rw[hc]at hx;cases hx
   | some ts' =>
    rw[hc]at hx;simp only[Q9,Qf]at hx;subst hx;cases i with
    | zero =>
     simp only[List.getElem?_cons_zero,Qf]at ht;subst ht;exact⟨v,rfl,hr⟩
    | succ i =>
     simp only[List.getElem?_cons_succ]at ht⊢;exact qhy hc h2 i t ht
  cases c with
  | t x=>exact key x h h1
  | rn x=>exact key x h (zai.keep (λ_ _=>rfl) (λb hb=>hb.1) x v h1)
  | _=>cases h
theorem fb_wk {σ:St}{j:Nat}{cs:List C}{ts:List T}(hb:σ.bx j=some cs)(ht:qna cs=some ts):Wk σ (σ.fb j ts):=by
 intro n0 N g a w h
 have hj:σ.bx j≠none:=by rw[hb];simp
 have hbx:∀b,(σ.fb j ts).bx b≠none↔b≠j/\σ.bx b≠none:=λb=>by
  show(if b=j then none else (σ.bx b).map λcs=>cs.map (C.fb j ts))≠none↔_
  by_cases hbj:b=j
  ·rw[if_pos hbj];simp[hbj]
  ·rw[if_neg hbj];simp[hbj]
 have hf:∀b,Fix σ g w b->Fix (σ.fb j ts) g w b:=λb hf=>⟨λk hk=>hf.1 k ((hbx k).1 hk).2,hf.2.1,hf.2.2⟩
 have hfr:∀b,zcl σ g w b->zcl (σ.fb j ts) g w b:=λb hb=>⟨hf b hb.1,hb.2⟩
 obtain⟨vs,ty,e1,e2⟩:=h.boxes j cs hb
 have hfix:Fix (σ.fb j ts) g w (g.β j):=by
  refine⟨λk hk e=>((hbx k).1 hk).1 (h.inj k j ((hbx k).1 hk).2 hj e),λe x hx ho hh=>?_,?_,(h.anew _ (h.base j hj)).1⟩
  ·exact h.ebx e j ⟨x,hx,ho⟩ hj (List.mem_of_mem_head? hh)
  ·exact(Array.getElem?_eq_some_iff.1 e1).1
 have hat:za5 w (Fix (σ.fb j ts) g w) (g.β j) 0 ts:=za5.mk λi t hi=>by
  obtain⟨v,k1,k2⟩:=qhy ht e2 i t hi;refine⟨v,?_,zai.keep (λ_ _=>rfl) hf t v k2⟩;have:vs[i]?=some v:=by rw[<-Array.getElem?_toList];exact k1
  rw[Qi];simp[World.cell?,e1,this]
 have cr:∀c v,CR σ g w c v->CR (σ.fb j ts) g w (c.fb j ts) v:=λc v hc=>by
  cases c with
  | t y=>exact zai.keep (λ_ _=>rfl) hf y v hc
  | nl s=>exact hc
  | ow e' n=>exact hc
  | bx b o =>
   show CR _ _ _ (if b=j then .el ts o else .bx b o) v
   by_cases he:b=j
   ·subst he;rw[if_pos rfl];exact⟨g.β b,0,by rw[Qi];exact hc.1,hfix,hat⟩
   ·rw[if_neg he];exact⟨hc.1,(hbx b).2 ⟨he,hc.2⟩⟩
  | el cs o=>obtain⟨b,q,h1,h2,h3⟩:=hc;exact⟨b,q,h1,hf b h2,za5.keep (λ_ _=>rfl) hf b rfl q cs h3⟩
  | eo e' s sz i o=>exact hc
  | vw e' s sz o=>exact hc
  | fn f caps =>
   match caps,hc with
   | [],hc=>exact⟨hc.1,λb hb=>absurd hb (by simp)⟩
   | [k],hc =>
    show CR _ _ _ (if k=j then .t (.fn f [.ptr ts])else .fn f [k]) v
    by_cases he:k=j
    ·subst he;rw[if_pos rfl];show zai _ _ _ _
     unfold zai;refine⟨_,hc.1,?_⟩;unfold zae;refine⟨_,[],rfl,?_,by unfold zae;rfl⟩;unfold zai;exact⟨g.β k,0,rfl,hfix,hat⟩
    ·rw[if_neg he];exact⟨hc.1,λb hb=>(hbx b).2 ⟨by rw[Qv.1 hb];exact he,hc.2 b hb⟩⟩
   | _::_::_,_=>trivial
  | cv u=>exact hc
  | any=>trivial
  | rn y=>exact zai.keep (λ_ _=>rfl) hfr y v hc
  | er cs o=>obtain⟨b,q,h1,h2,h3⟩:=hc;exact⟨b,q,h1,hfr b h2,za5.keep (λ_ _=>rfl) hfr b rfl q cs h3⟩
 refine⟨g,⟨h.defers,h.size,h.anew,λi=>VR.map cr (h.slots i),λb cs' hb'=>?_,λb hb=>h.base b ((hbx b).1 hb).2,λb b' h1 h2=>h.inj b b' ((hbx b).1 h1).2 ((hbx b').1 h2).2,λe' z hz h1=>?_,λe' z hz h1=>?_,h.slc,h.ebase,h.etop,h.nodup,h.apart,λe' k he hk=>h.ebx e' k he ((hbx k).1 hk).2⟩,rfl,rfl⟩
 ·have hne:=(hbx b).1 (by rw[hb'];simp);cases hc:σ.bx b with
  | none=>exact absurd hc hne.2
  | some cs0 =>
   have hb':(if b=j then none else (σ.bx b).map λcs=>cs.map (C.fb j ts))=some cs':=hb';rw[if_neg hne.1,hc]at hb';simp only[Q9,Qf]at hb';subst hb';obtain⟨vs,ty,k1,k2⟩:=h.boxes b cs0 hc;exact⟨vs,ty,k1,CRs.map cr k2⟩
 ·obtain⟨ao,cap,e1,e2,e3,e4⟩:=h.evs e' z hz h1;refine⟨ao,cap,e1,e2,e3,?_⟩;rcases e4 with e4|⟨b,cells,ty,fps,k1,k2,k3,k4,k5⟩
  ·exact Or.inl e4
  ·refine Or.inr ⟨b,cells,ty,fps,k1,k2,k3,k4,?_⟩;split at k5
   ·rw[if_pos ‹_›];exact k5
   ·rw[if_neg ‹_›];exact⟨k5.1,zal.keep (λ_ _=>rfl) hf b rfl 0 z.sz z.rows k5.2⟩
 ·exact⟨zai.keep (λ_ _=>rfl) hf _ _ (h.offs e' z hz h1).1,(h.offs e' z hz h1).2⟩
section
variable {ks:List Fr}{Q:Exit->St->Prop}{σ:St}{ops:Array Oper}{os:List Oper}{o:Oper}
theorem frzX (j:Nat)(hg:o.guard=none)(hs:zzf o.op=true)(k:zaq (σ.bx j) λcs=>zaq (qna cs) λts=>exo P ops (o::os) ks Q (σ.fb j ts)):exo P ops (o::os) ks Q σ:=by
 obtain⟨cs,hx,h1⟩:=zao k
 obtain⟨ts,ht,h2⟩:=zao h1
 exact zgv (fb_wk hx ht) hg hs h2
end
attribute [go_sem] C.fb St.fb fbS_at qna
end
section
open Go.RowKit
variable {P:Program}
def C.fs (e:Nat)(x:Ev):C->C
 | .ow e' g=>if e'=e then (if g=x.gen then .t (.sl x.sz x.rows)else .any)else .ow e' g
 | .eo e' g sz i o=>if e'=e then .any else .eo e' g sz i o
 | .vw e' g sz o=>if e'=e then .any else .vw e' g sz o
 | c=>c
def fsS (f:Nat->V)(e:Nat)(x:Ev):Nat->V:=λi=>(f i).map (C.fs e x)
def fsB (f:Nat->Option (List C))(e:Nat)(x:Ev):Nat->Option (List C):=λb=>(f b).map λcs=>cs.map (C.fs e x)
def fsE (f:Nat->Option Ev)(e:Nat):Nat->Option Ev:=λk=>if k=e then none else f k
theorem fsS_at (f:Nat->V)(e:Nat)(x:Ev)(i:Nat):fsS f e x i=(f i).map (C.fs e x):=rfl
theorem zyp (f:Nat->Option (List C))(e:Nat)(x:Ev)(b:Nat):fsB f e x b=(f b).map λcs=>cs.map (C.fs e x):=rfl
theorem fsE_at (f:Nat->Option Ev)(e k:Nat):fsE f e k=if k=e then none else f k:=rfl
def St.fs (σ:St)(e:Nat)(x:Ev):St:=⟨fsS σ.sl e x,fsB σ.bx e x,fsE σ.ev e⟩
theorem qpt {σ:St}{e:Nat}{x:Ev}(hx:σ.ev e=some x)(hd:x.deep=false)(ho:x.on=true):Wk σ (σ.fs e x):=by
 intro n0 N g a w h
 have hev:∀e',e'≠e->(σ.fs e x).ev e'=σ.ev e':=λe' he=>by show(if e'=e then none else σ.ev e')=_;rw[if_neg he]
 have hee:(σ.fs e x).ev e=none:=by show(if e=e then none else σ.ev e)=_;rw[if_pos rfl]
 have hsome:∀e' z,(σ.fs e x).ev e'=some z->e'≠e/\σ.ev e'=some z:=λe' z hz=>by
  by_cases he:e'=e
  ·subst he;rw[hee]at hz;cases hz
  ·exact⟨he,by rw[<-hev e' he];exact hz⟩
 have hon:∀e',(σ.fs e x).On e'->e'≠e/\σ.On e':=λe' ⟨z,hz,h1⟩=>⟨(hsome e' z hz).1,z,(hsome e' z hz).2,h1⟩
 have hbx:∀b,(σ.fs e x).bx b≠none↔σ.bx b≠none:=λb=>by unfold St.fs;simp[zyp]
 have hOn:σ.On e:=⟨x,hx,ho⟩
 have hf:∀b,Fix σ g w b->Fix (σ.fs e x) g w b:=λb hf=>⟨λk hk=>hf.1 k ((hbx k).1 hk),λe' z hz h1=>hf.2.1 e' z (hsome e' z hz).2 h1,hf.2.2⟩
 have hfr:∀b,zcl σ g w b->zcl (σ.fs e x) g w b:=λb hb=>⟨hf b hb.1,λe' h'=>hb.2 e' (hon e' h').2⟩
 have hgone:∀b∈g.φ e,b<w.heap.size->zcl (σ.fs e x) g w b:=λb hb hl=>by
  have hne:∀e',(σ.fs e x).On e'->b∉g.φ e':=λe' he' hm=>h.apart e e' hOn (hon e' he').2 (Ne.symm (hon e' he').1) b hb hm;exact⟨⟨λj hj hjb=>h.ebx e j hOn ((hbx j).1 hj) (by rw[hjb];exact hb),λe' z hz h1 hh=>hne e' ⟨z,hz,h1⟩ (List.mem_of_mem_head? hh),hl,(h.ebase e hOn b hb).1⟩,hne⟩
 have hhas:∀e' n,e'≠e->σ.has e' n->(σ.fs e x).has e' n:=λe' n he ⟨z,hz,h1⟩=>⟨z,by rw[hev e' he];exact hz,h1⟩
 have cr:∀c v,CR σ g w c v->CR (σ.fs e x) g w (c.fs e x) v:=λc v hc=>by
  cases c with
  | t y=>exact zai.keep (λ_ _=>rfl) hf y v hc
  | nl s=>exact hc
  | ow e' n =>
   show CR _ _ _ (if e'=e then (if n=x.gen then .t (.sl x.sz x.rows)else .any)else .ow e' n) v
   by_cases he:e'=e
   ·subst he;rw[if_pos rfl];by_cases hn:n=x.gen
    ·rw[if_pos hn];subst hn;obtain⟨ao,cap,e1,e2,e3,e4⟩:=h.evs _ x hx ho;rw[<-hc.1]at e1;show zai _ _ _ _
     unfold zai;refine⟨ao,cap,e1,e2,e3,?_⟩;rcases e4 with⟨_,_,e4,_⟩|⟨b,cells,ty,fps,k1,k2,k3,k4,k5⟩
     ·exact Or.inl e4
     ·rw[if_neg (by rw[hd];simp)]at k5;exact Or.inr ⟨b,0,k1,(hgone b (by rw[k2];simp) (Array.getElem?_eq_some_iff.1 k3).1).1,zal.keep (λ_ _=>rfl) hf b rfl 0 x.sz x.rows k5.2⟩
    ·rw[if_neg hn];trivial
   ·rw[if_neg he];exact⟨hc.1,hhas e' n he hc.2⟩
  | bx b o=>exact⟨hc.1,(hbx b).2 hc.2⟩
  | el cs o=>obtain⟨b,q,h1,h2,h3⟩:=hc;exact⟨b,q,h1,hf b h2,za5.keep (λ_ _=>rfl) hf b rfl q cs h3⟩
  | eo e' s sz i o =>
   show CR _ _ _ (if e'=e then .any else .eo e' s sz i o) v
   by_cases he:e'=e
   ·rw[if_pos he];trivial
   ·rw[if_neg he];obtain⟨b,n,c,h1,h2,h3,h4⟩:=hc;exact⟨b,n,c,h1,h2,h3,hhas e' s he h4⟩
  | vw e' s sz o =>
   show CR _ _ _ (if e'=e then .any else .vw e' s sz o) v
   by_cases he:e'=e
   ·rw[if_pos he];trivial
   ·rw[if_neg he];obtain⟨b,n,c,h1,h2,h3,h4⟩:=hc;exact⟨b,n,c,h1,h2,h3,hhas e' s he h4⟩
  | fn f caps=>exact⟨hc.1,λb hb=>(hbx b).2 (hc.2 b hb)⟩
  | cv u=>exact hc
  | any=>trivial
  | rn y=>exact zai.keep (λ_ _=>rfl) hfr y v hc
  | er cs o=>obtain⟨b,q,h1,h2,h3⟩:=hc;exact⟨b,q,h1,hfr b h2,za5.keep (λ_ _=>rfl) hfr b rfl q cs h3⟩
 refine⟨g,⟨h.defers,h.size,h.anew,λi=>VR.map cr (h.slots i),λb cs hb=>?_,λb hb=>h.base b ((hbx b).1 hb),λb b' h1 h2=>h.inj b b' ((hbx b).1 h1) ((hbx b').1 h2),λe' z hz h1=>?_,λe' z hz h1=>?_,h.slc,λe' h1=>h.ebase e' (hon e' h1).2,λe' h1=>h.etop e' (hon e' h1).2,λe' h1=>h.nodup e' (hon e' h1).2,λe1 e2 h1 h2=>h.apart e1 e2 (hon e1 h1).2 (hon e2 h2).2,λe' k h1 h2=>h.ebx e' k (hon e' h1).2 ((hbx k).1 h2)⟩,rfl,rfl⟩
 ·cases hc:σ.bx b with
  | none=>unfold St.fs at hb;simp only[zyp,hc,J5]at hb;cases hb
  | some cs0 =>
   unfold St.fs at hb;simp only[zyp,hc,Q9,Qf]at hb;subst hb;obtain⟨vs,ty,k1,k2⟩:=h.boxes b cs0 hc;exact⟨vs,ty,k1,CRs.map cr k2⟩
 ·obtain⟨ao,cap,e1,e2,e3,e4⟩:=h.evs e' z (hsome e' z hz).2 h1;refine⟨ao,cap,e1,e2,e3,?_⟩;rcases e4 with e4|⟨b,cells,ty,fps,k1,k2,k3,k4,k5⟩
  ·exact Or.inl e4
  ·refine Or.inr ⟨b,cells,ty,fps,k1,k2,k3,k4,?_⟩;split at k5
   ·rw[if_pos ‹_›];exact k5
   ·rw[if_neg ‹_›];exact⟨k5.1,zal.keep (λ_ _=>rfl) hf b rfl 0 z.sz z.rows k5.2⟩
 ·exact⟨zai.keep (λ_ _=>rfl) hf _ _ (h.offs e' z (hsome e' z hz).2 h1).1,(h.offs e' z (hsome e' z hz).2 h1).2⟩
section
variable {ks:List Fr}{Q:Exit->St->Prop}{σ:St}{ops:Array Oper}{os:List Oper}{o:Oper}
theorem frzS (e:Nat)(hg:o.guard=none)(hs:zzf o.op=true)(k:zaq (σ.ev e) λx=>x.deep=false/\x.on=true/\exo P ops (o::os) ks Q (σ.fs e x)):exo P ops (o::os) ks Q σ:=by
 obtain⟨x,hx,h1,h2,h3⟩:=zao k
 exact zgv (qpt hx h1 h2) hg hs h3
end
attribute [go_sem] C.fs St.fs fsS_at zyp fsE_at
end
section
open Go.RowKit
variable {P:Program}
theorem qqq {σ:St}{g:Gh}{w:World}{e:Nat}{x:Ev}(he:σ.ev e=none):∀{c:C}{v:Value},CR σ g w c v->C.fs e x c=c:=fun {c v} hc=>by
 have key:∀e' n,σ.has e' n->e'≠e:=λe' n ⟨y,hy,_⟩ h=>by
  rw[h,he]at hy;cases hy
 cases c with
 | ow e' n =>
  show(if e'=e then (if n=x.gen then C.t (.sl x.sz x.rows)else .any)else .ow e' n)=_
  rw[if_neg (key e' n hc.2)]
 | eo e' s sz i o =>
  obtain⟨b,n,c,h1,h2,h3,h4⟩:=hc;show(if e'=e then C.any else .eo e' s sz i o)=_
  rw[if_neg (key e' s h4)]
 | vw e' s sz o =>
  obtain⟨b,n,c,h1,h2,h3,h4⟩:=hc;show(if e'=e then C.any else .vw e' s sz o)=_
  rw[if_neg (key e' s h4)]
 | _=>rfl
theorem zv0 {σ:St}{g:Gh}{w:World}{e:Nat}{x:Ev}(he:σ.ev e=none):∀{cs:List C}{vs:List Value},CRs σ g w cs vs->cs.map (C.fs e x)=cs
 | [],_,_=>rfl
 | c::cs,_,h=>by
  obtain⟨v,vs',rfl,h1,h2⟩:=h;rw[Qk,qqq he h1,zv0 he h2]
theorem nor_t {σ:St}{g:Gh}{w:World}{e:Nat}{x:Ev}(he:σ.ev e=none):∀{xs:List (Bool×List C)}{vs:List Value},CRt σ g w xs vs->xs.map (λy=>(y.1,y.2.map (C.fs e x)))=xs
 | [],_,_=>rfl
 | y::ys,_,h=>by
  obtain⟨v,vs',rfl,h1,h2⟩:=h;rw[Qk,nor_t he h2];obtain⟨b,cs⟩:=y;unfold CRx at h1;simp only at h1⊢;split at h1
  ·obtain⟨a,_,h1⟩:=h1;rw[zv0 he h1]
  ·obtain⟨c,rfl,h1⟩:=h1;rw[Qk,qqq he h1,Q6]
theorem nor_v {σ:St}{g:Gh}{w:World}{e:Nat}{x:Ev}(he:σ.ev e=none){y:V}{v:Value}(h:VR σ g w y v):V.map (C.fs e x) y=y:=by
 cases y with
 | one c=>exact congrArg V.one (qqq he h)
 | agg cs=>obtain⟨a,_,h⟩:=h;exact congrArg V.agg (zv0 he h)
 | tup xs=>obtain⟨vs,_,h⟩:=h;exact congrArg V.tup (nor_t he h)
section
variable {ks:List Fr}{Q:Exit->St->Prop}{σ:St}{ops:Array Oper}{os:List Oper}{L:List (List Ky×List Ky)}{d:Nat}{t:TypeId}{ty:TypeId}{ps:String}{af:Array Edge}{len:Nat}{parts:Array (Nat×Operand)}{n:Nat}{rs:List (List C)}{rows:List (List T)}
theorem zwn (h:zl8 P (σ.get P) t len parts=some (n,rs)/\zvb σ rs=some rows/\σ.ev (d*32)=none):zag P ⟨some d,.buildSlice t len parts,ty,ps,af,none⟩ σ (σ.put (some d) (.one (.t (.sl n rows)))):=λn0 N g a w hR hn hdN=>by
 refine Oper.wp_mono ?_ (zoi (P:=P) (ty:=ty) (ps:=ps) (af:=af) h n0 N g a w hR hn hdN)
 rintro a' w' ⟨g',r1,r2,r3,r4⟩
 have he:=h.2.2
 obtain⟨g2,s1,s2,s3⟩:=qpt (σ:=(σ.apd (d*32) [] ⟨false,n,rows,0,true⟩).put (some d) (.one (.ow (d*32) 0))) (e:=d*32) (x:=⟨false,n,rows,0,true⟩) (zah _ _ _) rfl rfl n0 N g' a' w' r1
 refine⟨g2,?_,r2,s2.trans r3,s3.trans r4⟩
 have e1:((σ.apd (d*32) [] ⟨false,n,rows,0,true⟩).put (some d) (.one (.ow (d*32) 0))).fs (d*32) ⟨false,n,rows,0,true⟩=σ.put (some d) (.one (.t (.sl n rows))):=by
  have q1:fsS (upd σ.sl d (.one (.ow (d*32) 0))) (d*32) ⟨false,n,rows,0,true⟩=upd σ.sl d (.one (.t (.sl n rows))):=funext λi=>by
   show V.map _ (upd σ.sl d _ i)=_
   by_cases hi:i=d
   ·subst hi;rw[zah,zah];show V.one (C.fs _ _ (.ow _ 0))=_
    simp[C.fs]
   ·rw[zan _ _ hi,zan _ _ hi];exact nor_v he (hR.slots i)
  have q2:fsB σ.bx (d*32) ⟨false,n,rows,0,true⟩=σ.bx:=funext λb=>by
   show(σ.bx b).map _=_
   cases hb:σ.bx b with
   | none=>rfl
   | some cs =>
    obtain⟨vs,ty',k1,k2⟩:=hR.boxes b cs hb;exact congrArg some (zv0 he k2)
  have q3:fsE (upd σ.ev (d*32) (some ⟨false,n,rows,0,true⟩)) (d*32)=σ.ev:=funext λk=>by
   show(if k=d*32 then none else upd σ.ev (d*32) _ k)=_
   by_cases hk:k=d*32
   ·rw[if_pos hk,hk,he]
   ·rw[if_neg hk,zan _ _ hk]
  show St.mk (fsS (upd σ.sl d (.one (.ow (d*32) 0))) (d*32) ⟨false,n,rows,0,true⟩) (fsB σ.bx (d*32) ⟨false,n,rows,0,true⟩) (fsE (upd σ.ev (d*32) (some ⟨false,n,rows,0,true⟩)) (d*32))=_
  rw[q1,q2,q3];rfl
 rw[e1]at s1
 exact s1
def slOf:Option (Ev×List (Nat×Ev))->T
 | some (x,_)=>.sl x.sz x.rows
 | none=>.sl 0 []
theorem zb7 (h:zaq (blS P σ t len parts) λ_=>σ.ev (d*32)=none)(k:exo P ops os ks Q (σ.put (some d) (.one (.t (slOf (blS P σ t len parts)))))):exo P ops (⟨some d,.buildSlice t len parts,ty,ps,af,none⟩::os) ks Q σ:=by
 obtain⟨⟨x,cons⟩,h1,h2⟩:=zao h
 rw[h1]at k
 unfold blS at h1
 obtain⟨p,e1,h1⟩:=Qh.1 h1
 obtain⟨q,e2,h1⟩:=Q3.1 h1
 simp only[Qx]at h1
 obtain⟨rfl,rfl⟩:=h1
 exact zdc rfl rfl (zwn ⟨e1,e2,h2⟩) k
theorem zof (h:zaq (blS P σ t len parts) λ_=>σ.ev (d*32)=none)
  (k:exd P ops os (L++[(zau (parts.toList.map (·.2))++(rK (qji (zl8 P (σ.get P) t len parts))++[(2,d*32)]),dK (some d)++eK [])]) ks Q (σ.put (some d) (.one (.t (slOf (blS P σ t len parts)))))) :
  exd P ops (⟨some d,.buildSlice t len parts,ty,ps,af,none⟩::os) L ks Q σ:=by
 obtain⟨⟨x,cons⟩,h1,h2⟩:=zao h
 rw[h1]at k
 unfold blS at h1
 obtain⟨p,e1,h1⟩:=Qh.1 h1
 obtain⟨q,e2,h1⟩:=Q3.1 h1
 simp only[Qx]at h1
 obtain⟨rfl,rfl⟩:=h1
 rw[e1]at k
 refine zjb rfl rfl ?_ k
 have:=zj7.of (P:=P) (σ:=σ) (o:=⟨some d,.buildSlice t len parts,ty,ps,af,none⟩) (l:=[]) (v:=.one (.t (.sl p.1 q))) (R:=zau (parts.toList.map (·.2))++(rK p.2++[(2,d*32)])) (zbk (zb2 _) (zbk (qch _) rfl)) λσ1 h1=>?_
 ·exact this
 ·have e3:zl8 P (σ1.get P) t len parts=zl8 P (σ.get P) t len parts:=zpt λt x hx=>zc4 (λk hk=>h1 k (by simp[hk])) hx t;have e4:zvb σ1 p.2=zvb σ p.2:=zn9 λk hk=>h1 k (by simp[hk]);exact zwn ⟨e3.trans e1,e4.trans e2,(Eq.symm (h1 (2,d*32) (by simp))).trans h2⟩
end
attribute [go_sem] slOf
end
section
open Go.RowKit
variable {P:Program}{N:Nat}
theorem Wk.fzO {σ σ':St}(e:Nat)(k:zaq (σ.ev e) λx=>x.deep=true/\x.on=true/\Wk (σ.fz e x) σ'):Wk σ σ':=by
 obtain⟨x,hx,h1,h2,h3⟩:=zao k
 exact(qrm hx h1 h2).trans h3
end
section
open Go.RowKit
variable {P:Program}{N:Nat}
inductive Ob
 | mp (ag:Bool) (rows:List (List T))
 | it (src:Nat) (ag:Bool) (left:List (List T)) (last:Option (List T))
abbrev Hid:=List (Nat×Ob)
end
section
open Go.RowKit
variable {P:Program}{N:Nat}
attribute [go_sem] lk2Z
end
section
open Go.RowKit
variable {P:Program}{N:Nat}
theorem zaz.len {w:World}{A:Nat->Prop}{ag:Bool}:∀{rows:List (List T)}{es:List MapEntry},zaz w A ag rows es->es.length=rows.length
 | [],es,h=>by unfold zaz at h;subst h;rfl
 | r::rows,es,h=>by
  unfold zaz at h;obtain⟨e,es',us,rfl,h1,h2,h3⟩:=h;simp[zaz.len h3]
end
section
open Go.RowKit
variable {P:Program}{N:Nat}
theorem qaz {ops:Array Oper}{σs:Nat->St}{L:List (List Ky×List Ky)}{n0:Nat->Prop}{N:Nat}{w0:World}{A0:(Nat->Prop)×RP}{Q:Exit->Act->World->Prop}{m:Nat}
  (hL:∀i (h:i<ops.size),i<m->Loc P ops ops[i] (L.getD i ([],[])).1 (L.getD i ([],[])).2 (σs i) (σs (i+1))) (hord:zm8 ops L m=true) (hdst:∀o∈ops,∀d,o.dst=some d->d<N)
  (hT:∀g a w,Rel n0 N (σs m) g a w->LtK n0 w->Bk n0 w0 w->(g.A0,g.R0)=A0->wpOps P ops Q (List.range' m (ops.size-m)) a w) :
  ∀(fuel:Nat) (listed:Array Bool) (g:Gh) (a:Act) (w:World),listed.size=ops.size->cnt (λi=>listed.getD i false) ops.size=fuel →
   (∀j (h:j<ops.size),listed.getD j false=true->∀e∈ops[j].after,Region.binds .any e=true->listed.getD e.on false=true)->(∀j,m<=j->listed.getD j false=false) →
   Rel n0 N (Fp σs (λi=>L.getD i ([],[])) (λi=>listed.getD i false) m) g a w->LtK n0 w->Bk n0 w0 w->(g.A0,g.R0)=A0->wpAny P .any ops Q fuel listed a w:=by
 have hget:∀j (h:j<ops.size),ops.getD j default=ops[j]:=λj h=>by simp[Array.getD,h]
 unfold zm8 at hord
 rw[Qd]at hord
 obtain⟨hm,hord⟩:=hord
 have hm:m<=ops.size:=by simpa using hm
 have hok:∀i,i<m->okK (L.getD i ([],[])).2=true:=λi h=>(hL i Zi h).1
 have hRk:∀i,i<m->okK (L.getD i ([],[])).1=true:=λi h=>(hL i Zi h).2.1
 have hoff:∀i,i<m->∀k:Ky,k.1<3->k∉(L.getD i ([],[])).2->za4 (σs i) (σs (i+1)) k:=λi h=>(hL i Zi h).2.2.1
 simp only[Qr,K4,Qd]at hord
 have hlt:∀j (h:j<ops.size),∀e∈ops[j].after,Region.binds .any e=true->e.on<j:=λj h e he hb=>by
  have:=(hord j h).1.1;rw[hget j h]at this;have:=(Kb.1 this) e he;simpa[hb]using this
 have hbef:∀j (h:j<ops.size),∀i,i<ops.size->((Region.before ops).getD j 0).testBit i=true->∃e∈ops[j].after,Region.binds .any e=true/\(e.on=i\/((Region.before ops).getD e.on 0).testBit i=true):=λj h i hi hb=>by
  have:=(hord j h).1.2 i hi;rw[hb,hget j h]at this;simp only[K8,K5]at this;obtain⟨e,he,h1⟩:=Array.any_eq_true'.1 this;simp only[Qd,Yb,Jo]at h1;exact⟨e,he,h1.1,h1.2⟩
 have hdis:∀i j,i<j->j<m->((Region.before ops).getD j 0).testBit i=false->(∀k∈(L.getD i ([],[])).2,k∉(L.getD j ([],[])).1/\k∉(L.getD j ([],[])).2)/\∀k∈(L.getD i ([],[])).1,k∉(L.getD j ([],[])).2:=λi j hij hj hb=>by
  have:=(hord j Zi).2 i hij;rw[hb]at this;simp only[K5,Qd,Qr,Jk,List.contains_eq_mem,Ko]at this;exact⟨λk hk=>this.1.2 k hk,λk hk=>this.2 k hk⟩
 have hchain:∀i j,i<j->j<ops.size->m<=j->((Region.before ops).getD j 0).testBit i=true:=λi j hij hj hmj=>by
  have:=(hord j hj).2 i hij;cases hb:((Region.before ops).getD j 0).testBit i with
  | true=>rfl
  | false =>
   rw[hb]at this;simp only[K5,Qd,Q0]at this;omega
 have hclosed:∀listed:Array Bool,(∀j (h:j<ops.size),listed.getD j false=true->∀e∈ops[j].after,Region.binds .any e=true->listed.getD e.on false=true)->∀j (h:j<ops.size),listed.getD j false=true->∀i,i<ops.size->((Region.before ops).getD j 0).testBit i=true->listed.getD i false=true:=by
  intro listed hcl j;induction j using Nat.strongRecOn with
  | _ j ihj =>
   intro h hl i hi hbi;obtain⟨e,he,h1,h2⟩:=hbef j h i hi hbi;have hle:=hcl j h hl e he h1;have hlt':=hlt j h e he h1;rcases h2 with rfl|h2
   ·exact hle
   ·exact ihj e.on hlt' Zi hle i hi h2
 have hready:∀(listed:Array Bool),listed.size=ops.size->∀i,i∈Region.ready .any ops listed->∃hi:i<ops.size,listed.getD i false=false/\∀e∈ops[i].after,Region.binds .any e=true->listed.getD e.on false=true:=λlisted hsz i hi=>by
  unfold Region.ready at hi;rw[Kp]at hi;obtain⟨hi1,hi2⟩:=hi;have hi':=K4.1 hi1;rw[Array.getElem?_eq_getElem hi']at hi2;simp only[Q9,Kj,Qd,Jk]at hi2;obtain⟨hl0,hafter⟩:=hi2;refine⟨hi',?_,λe he hbd=>?_⟩
  ·simp only[Array.getD_eq_getD_getElem?]at hl0⊢;rw[Array.getElem?_eq_getElem Zi]at hl0⊢;exact hl0
  ·have:=(Kb.1 hafter) e he;simpa[hbd]using this
 have hsome:∀(listed:Array Bool),listed.size=ops.size->Region.ready .any ops listed=[]->cnt (λi=>listed.getD i false) ops.size=0:=λlisted hsz hr=>by
  have:∀j,j<ops.size->listed.getD j false=true:=by
   intro j;induction j using Nat.strongRecOn with
   | _ j ihj =>
    intro hj;cases hl:listed.getD j false with
    | true=>rfl
    | false =>
     exfalso;have hmem:j∈Region.ready .any ops listed:=by
      unfold Region.ready;rw[Kp];refine⟨K4.2 hj,?_⟩;have hl':listed.getD j true=false:=by
       simp only[Array.getD_eq_getD_getElem?]at hl⊢;rw[Array.getElem?_eq_getElem Zi]at hl⊢;exact hl
      rw[hl',Array.getElem?_eq_getElem hj];simp only[Ja,Q2,Q9,Kj];rw[Kb];intro e he;cases hbd:Region.binds .any e with
      | false=>rfl
      | true=>simpa using ihj e.on (hlt j hj e he hbd) (by have:=hlt j hj e he hbd;omega)
     rw[hr]at hmem;exact absurd hmem (by simp)
  have:∀k,k<=ops.size->cnt (λi=>listed.getD i false) k=0:=by
   intro k;induction k with
   | zero=>intro _;rfl
   | succ k ihk=>intro hk;unfold cnt;rw[if_pos (this k Zi),ihk Zi]
  exact this _ (Qp _)
 have hset:∀(listed:Array Bool) (i:Nat),i<listed.size->∀j,(listed.setIfInBounds i true).getD j false=if j=i then true else listed.getD j false:=λlisted i hi j=>by
  simp only[Array.getD_eq_getD_getElem?,Array.getElem?_setIfInBounds];by_cases hji:j=i
  ·subst hji;rw[if_pos rfl,if_pos hi,if_pos rfl];rfl
  ·rw[if_neg (λh=>hji h.symm),if_neg hji]
 have hnone:∀(listed:Array Bool),listed.size=ops.size->(∀j,j<ops.size->listed.getD j false=true)->Region.ready .any ops listed=[]:=λlisted hsz hall=>by
  unfold Region.ready;rw[Yq];intro i hi;have hi':=K4.1 hi;have:=hall i hi';simp only[Array.getD_eq_getD_getElem?]at this⊢;rw[Array.getElem?_eq_getElem Zi]at this⊢;simp only[Kj]at this⊢;simp[this]
 have tail:∀(k j:Nat) (listed:Array Bool) (a:Act) (w:World),j+k=ops.size->m<=j->listed.size=ops.size->(∀i,i<ops.size->listed.getD i false=decide (i<j))->wpOps P ops Q (List.range' j k) a w->wpAny P .any ops Q k listed a w:=by
  intro k;induction k with
  | zero =>
   intro j listed a w hjk hmj hsz hls h;exact⟨hnone listed hsz λi hi=>by rw[hls i hi];simp;omega,h⟩
  | succ k ih =>
   intro j listed a w hjk hmj hsz hls h;have hj:j<ops.size:=by omega
   refine⟨λhr=>?_,λi hi=>?_⟩
   ·exfalso;have hz:listed.getD j false=true:=zd4 _ (hsome listed hsz hr) j hj;rw[hls j hj]at hz;simp at hz
   ·obtain⟨hi',hl,hdue⟩:=hready listed hsz i hi;have hij:i=j:=by
     rcases Yg i j with h1|h1|h1
     ·rw[hls i hi']at hl;simp at hl;omega
     ·exact h1
     ·exfalso;obtain⟨e,he,k1,k2⟩:=hbef i hi' j hj (hchain j i h1 hi' Zi);have hle:=hdue e he k1;have hel:=hlt i hi' e he k1;rw[hls e.on Zi]at hle;have hle:e.on<j:=by simpa using hle
      rcases k2 with k2|k2
      ·omega
      ·have:∀x,x<ops.size->∀y,y<ops.size->((Region.before ops).getD x 0).testBit y=true->y<x:=by
        intro x;induction x using Nat.strongRecOn with
        | _ x ihx =>
         intro hx y hy hbxy;obtain⟨e',he',q1,q2⟩:=hbef x hx y hy hbxy;have:=hlt x hx e' he' q1;rcases q2 with rfl|q2
         ·exact this
         ·have:=ihx e'.on this Zi y hy q2;omega
       have:=this e.on Zi j hj k2;omega
    subst hij;rw[List.range'_succ,wpOps_cons]at h;refine wpOp_mono (λa' w' hK=>ih (i+1) _ a' w' Zi Zi (by simpa using hsz) (λx hx=>?_) hK) h;rw[hset listed i Zi,hls x hx];by_cases hxi:x=i
    ·subst hxi;simp
    ·rw[if_neg hxi]
     congr 1
     simp only[eq_iff_iff];omega
 intro fuel
 induction fuel with
 | zero =>
  intro listed g a w hsz hc hcl hno hrel hn hb hA;have hall:=zd4 _ hc;have hme:m=ops.size:=by
   rcases Y8 m ops.size with h|h
   ·have h1:=hall m h;rw[hno m (Qp _)]at h1;cases h1
   ·omega
  refine⟨hnone listed hsz hall,?_⟩;rw[zeb hok hoff m (Qp _) λj hj=>hall j Zi]at hrel;have:=hT g a w hrel hn hb hA;rw[hme,Nat.sub_self]at this;exact this
 | succ fuel ih =>
  intro listed g a w hsz hc hcl hno hrel hn hb hA;have hbb:=hclosed listed hcl;refine⟨λhr=>?_,λi hi=>?_⟩
  ·exfalso;have:=hsome listed hsz hr;omega
  ·obtain⟨hi',hl,hdue⟩:=hready listed hsz i hi;have h1:∀j,j<ops.size->((Region.before ops).getD i 0).testBit j=true->listed.getD j false=true:=λj hj hbj=>by
    obtain⟨e,he,k1,k2⟩:=hbef i hi' j hj hbj;have hle:=hdue e he k1;have hlt':=hlt i hi' e he k1;rcases k2 with rfl|k2
    ·exact hle
    ·exact hbb e.on Zi hle j hj k2
   by_cases him:i<m
   ·have h2:∀j,j<m->listed.getD j false=true->((Region.before ops).getD j 0).testBit i=true->listed.getD i false=true:=λj hj hlj hbj=>hbb j Zi hlj i hi' hbj;have hset':=hset listed i Zi;obtain⟨_,_,_,hstep⟩:=hL i hi' him;have hG:=hstep _ (λk hk=>zn6 (σs:=σs) (RW:=λi=>L.getD i ([],[])) (b:=λj i=>((Region.before ops).getD j 0).testBit i) (p:=λi=>listed.getD i false) hok hoff hRk hdis him hl (λj hj hb=>h1 j Zi hb) h2 hk);have hw:=zjw (σs:=σs) (RW:=λi=>L.getD i ([],[])) (b:=λj i=>((Region.before ops).getD j 0).testBit i) (p:=λi=>listed.getD i false) hok hdis him hl (λj hj hb=>h1 j Zi hb) h2 (p':=λj=>(listed.setIfInBounds i true).getD j false) hset';have hcnt:=zl3 (p:=λi=>listed.getD i false) (q:=λj=>(listed.setIfInBounds i true).getD j false) hl hset' ops.size hi';have hG':=hG n0 N g a w hrel hn (hdst _ (Yp hi'));rw[<-hw]at hG';have next:∀a' w',(∃g',Rel n0 N (Fp σs (λi=>L.getD i ([],[])) (λj=>(listed.setIfInBounds i true).getD j false) m) g' a' w'/\Bk n0 w w'/\g'.A0=g.A0/\g'.R0=g.R0)->wpAny P .any ops Q fuel (listed.setIfInBounds i true) a' w':=by
     rintro a' w' ⟨g',k1,k2,k3,k4⟩;refine ih _ g' a' w' (by simpa using hsz) Zi (λj hj hlj e he hbd=>?_) (λj hj=>by rw[hset',if_neg Zi];exact hno j hj) k1 (hn.mono k2.size) (hb.trans k2) (by rw[k3,k4];exact hA);rw[hset']at hlj⊢;by_cases heo:e.on=i
     ·rw[if_pos heo]
     ·rw[if_neg heo];by_cases hji:j=i
      ·subst hji;exact hdue e he hbd
      ·rw[if_neg hji]at hlj;exact hcl j hj hlj e he hbd
    unfold wpOp;rw[Array.getElem?_eq_getElem hi'];simp only;split
    ·rename_i hwd;rw[if_pos hwd]at hG';exact Or.inl (zca next hG')
    ·rename_i hwd;rw[if_neg hwd]at hG';obtain⟨g',k1,k2,k3⟩:=hG';exact next _ _ ⟨g',k1,Bk.refl _ _,k2,k3⟩
   ·-- the chain begins
    have hmi:i=m:=by
     rcases Yg i m with h3|h3|h3
     ·omega
     ·exact h3
     ·exfalso;have:=h1 m Zi (hchain m i h3 hi' Zi);rw[hno m (Qp _)]at this;cases this
    subst hmi;have hall:∀j,j<i->listed.getD j false=true:=λj hj=>h1 j Zi (hchain j i hj hi' (Qp _));rw[zeb hok hoff i (Qp _) hall]at hrel;have hls:∀x,x<ops.size->listed.getD x false=decide (x<i):=λx hx=>by
     by_cases hxi:x<i
     ·rw[hall x hxi];simp[hxi]
     ·rw[hno x Zi];simp[hxi]
    have hcnt:fuel+1=ops.size-i:=by
     rw[<-hc];have:∀n,n<=ops.size->cnt (λi=>listed.getD i false) n=n-i:=by
      intro n;induction n with
      | zero=>intro _;simp[cnt]
      | succ n ihn =>
       intro hn';unfold cnt;rw[ihn Zi,hls n Zi];by_cases hni:n<i
       ·rw[if_pos (by simpa using hni)];omega
       ·rw[if_neg (by simpa using hni)];omega
     exact this _ (Qp _)
    have:=tail (fuel+1) i listed a w Zi (Qp _) hsz hls (by rw[hcnt];exact hT g a w hrel hn hb hA);exact this.2 i hi
structure Hj where
 F:Nat->Prop
 R:Nat->Prop
 I:World->Prop
structure GoodJ (J:Hj):Prop where
 dis:∀x,J.R x->¬J.F x
 keep:∀w w':World,(∀x,J.F x\/J.R x->w'.heap[x]?=w.heap[x]?)->J.I w->J.I w'
structure OkJ (J:Hj)(n1 A0:Nat->Prop)(w:World):Prop where
 good:GoodJ J
 F:∀x,J.F x->n1 x/\¬A0 x
 R:∀x,J.R x->n1 x
 I:J.I w
structure RelJ (n0:Nat->Prop)(N:Nat)(σ:St)(J:Hj)(A0:(Nat->Prop)×RP)(g:Gh)(a:Act)(w:World):Prop where
 rel:∃n1:Nat->Prop,(∀x,n0 x->n1 x)/\OkJ J n1 g.A0 w/\Rel n1 N σ g a w/\LtK n1 w
 nb:∀x,J.F x->¬n0 x
 sub:∀x,g.A0 x->A0.1 x
 r0:g.R0=A0.2
 new:∀x,¬n0 x->A0.1 x/\A0.2 x
theorem RelJ.keep {n0 n1:Nat->Prop}{σ σ':St}{J:Hj}{A0:(Nat->Prop)×RP}{g g':Gh}{a a':Act}{w w':World}(h:RelJ n0 N σ J A0 g a w)(hn:∀x,n0 x->n1 x)(ho:OkJ J n1 g.A0 w)
  (h2:Rel n1 N σ' g' a' w') (h3:LtK n1 w') (h4:Bk n1 w w') (h5:(g'.A0,g'.R0)=(g.A0,g.R0)):RelJ n0 N σ' J A0 g' a' w':=by
 have e1:g'.A0=g.A0:=(Jr h5).1
 have e2:g'.R0=g.R0:=(Jr h5).2
 exact⟨⟨n1,hn,⟨ho.good,by rw[e1];exact ho.F,ho.R,ho.good.keep w w' (λx hx=>h4.block x (hx.elim (λk=>(ho.F x k).1) (ho.R x))) ho.I⟩,h2,h3⟩,h.nb,by rw[e1];exact h.sub,by rw[e2];exact h.r0,h.new⟩
def EndsJ (n0:Nat->Prop)(N:Nat)(w0:World)(A0:(Nat->Prop)×RP)(Q:Exit->St->Hj->Prop)(e:Exit)(a:Act)(w:World):Prop:=∃σ J g,Q e σ J/\RelJ n0 N σ J A0 g a w/\LtK n0 w/\Bk n0 w0 w
def zba (P:Program)(N:Nat)(c:Code)(σ:St)(J:Hj)(Q:Exit->St->Hj->Prop):Prop:=∀n0 w0 A0 g a w,RelJ n0 N σ J A0 g a w->LtK n0 w->Bk n0 w0 w->c.wp P (EndsJ n0 N w0 A0 Q) a w
theorem zba.ofEx {c:Code}{σ:St}{J:Hj}{Q:Exit->St->Hj->Prop}(hd:zcj N c=true)(h:ex P c [] (λe σ'=>Q e σ' J) σ):zba P N c σ J Q:=λn0 w0 A0 g a w hM h2 h3=>by
 obtain⟨n1,k1,k2,k4,k5⟩:=hM.rel
 refine wp_mono (zbo (w0:=w) (A0:=(g.A0,g.R0)) c σ _ hd h g a w k4 k5 (Bk.refl _ _) rfl) λe a' w' hq=>?_
 obtain⟨σ',g',h1,m2,m3,m4,m5⟩:=hq
 exact⟨σ',J,g',h1,hM.keep k1 k2 m2 m3 m4 m5,h2.mono m4.size,h3.trans (znk k1 m4)⟩
def qbd (P:Program)(N:Nat)(c:Code)(Q:Exit->St->Hj->Prop)(e:Exit)(σ:St)(J:Hj):Prop:=match e with|.normal=>zba P N c σ J Q|e=>Q e σ J
theorem zr1 (c:Code)(Q:Exit->St->Hj->Prop)(σ:St)(J:Hj):qbd P N c Q .normal σ J=zba P N c σ J Q:=rfl
theorem qdi (c:Code)(Q:Exit->St->Hj->Prop)(σ:St)(J:Hj):qbd P N c Q .ret σ J=Q .ret σ J:=rfl
theorem qay (c:Code)(Q:Exit->St->Hj->Prop)(σ:St)(J:Hj)(i:Nat):qbd P N c Q (.exit i) σ J=Q (.exit i) σ J:=rfl
theorem zba.seq {x y:Code}{σ:St}{J:Hj}{Q:Exit->St->Hj->Prop}(h:zba P N x σ J (qbd P N y Q)):zba P N (.seq x y) σ J Q:=λn0 w0 A0 g a w h1 h2 h3=>by
 refine wp_seq (wp_mono (h n0 w0 A0 g a w h1 h2 h3) λe a' w' hq=>?_)
 obtain⟨σ',r',g',k1,k2,k3,k4⟩:=hq
 cases e with
 | normal=>exact k1 n0 w0 A0 g' a' w' k2 k3 k4
 | exit i=>exact⟨σ',r',g',k1,k2,k3,k4⟩
 | goto l=>exact⟨σ',r',g',k1,k2,k3,k4⟩
 | ret=>exact⟨σ',r',g',k1,k2,k3,k4⟩
 | panic ch=>exact⟨σ',r',g',k1,k2,k3,k4⟩
 | outgrown=>exact⟨σ',r',g',k1,k2,k3,k4⟩
def blkJ (i:Nat)(Q:Exit->St->Hj->Prop)(e:Exit)(σ:St)(J:Hj):Prop:=match e with|.exit j=>if j=i then Q .normal σ J else Q (.exit j) σ J|e=>Q e σ J
theorem ztx (i:Nat)(Q:Exit->St->Hj->Prop)(σ:St)(J:Hj):blkJ i Q .normal σ J=Q .normal σ J:=rfl
theorem qkd (i:Nat)(Q:Exit->St->Hj->Prop)(σ:St)(J:Hj):blkJ i Q .ret σ J=Q .ret σ J:=rfl
theorem zqw (i j:Nat)(Q:Exit->St->Hj->Prop)(σ:St)(J:Hj):blkJ i Q (.exit j) σ J=if j=i then Q .normal σ J else Q (.exit j) σ J:=rfl
theorem zba.block {i:Nat}{c:Code}{σ:St}{J:Hj}{Q:Exit->St->Hj->Prop}(h:zba P N c σ J (blkJ i Q)):zba P N (.block i c) σ J Q:=λn0 w0 A0 g a w h1 h2 h3=>by
 refine wp_block (wp_mono (h n0 w0 A0 g a w h1 h2 h3) λe a' w' hq=>?_)
 obtain⟨σ',r',g',k1,k2,k3,k4⟩:=hq
 cases e with
 | exit j =>
  simp only[Exit.inBlock];simp only[zqw]at k1;split at k1
  ·rw[if_pos ‹_›];exact⟨σ',r',g',k1,k2,k3,k4⟩
  ·rw[if_neg ‹_›];exact⟨σ',r',g',k1,k2,k3,k4⟩
 | normal=>exact⟨σ',r',g',k1,k2,k3,k4⟩
 | goto l=>exact⟨σ',r',g',k1,k2,k3,k4⟩
 | ret=>exact⟨σ',r',g',k1,k2,k3,k4⟩
 | panic ch=>exact⟨σ',r',g',k1,k2,k3,k4⟩
 | outgrown=>exact⟨σ',r',g',k1,k2,k3,k4⟩
theorem RelJ.wk {n0:Nat->Prop}{σ σ':St}{J:Hj}{A0:(Nat->Prop)×RP}{g:Gh}{a:Act}{w:World}(h:RelJ n0 N σ J A0 g a w)(k:Wk σ σ'):∃g',RelJ n0 N σ' J A0 g' a w:=by
 obtain⟨n1,k1,k2,k4,k5⟩:=h.rel
 obtain⟨g',r1,r2,r3⟩:=k _ _ _ _ _ k4
 exact⟨g',h.keep k1 k2 r1 k5 (Bk.refl _ _) (by rw[r2,r3])⟩
def lpJ {X:Type}(I:X->St)(JX:X->Hj)(Pr:X->Prop)(μ:X->Nat)(x:X)(Q:Exit->St->Hj->Prop)(e:Exit)(σ:St)(J:Hj):Prop:=match e with|.normal=>∃x',Pr x'/\μ x'<μ x/\J=JX x'/\Wk σ (I x')|e=>Q e σ J
section
variable {X:Type}(I:X->St)(JX:X->Hj)(Pr:X->Prop)(μ:X->Nat)(x:X)
theorem qbg (Q:Exit->St->Hj->Prop)(σ:St)(J:Hj):lpJ I JX Pr μ x Q .normal σ J=∃x',Pr x'/\μ x'<μ x/\J=JX x'/\Wk σ (I x'):=rfl
theorem qr8 (Q:Exit->St->Hj->Prop)(σ:St)(J:Hj):lpJ I JX Pr μ x Q .ret σ J=Q .ret σ J:=rfl
theorem qki (Q:Exit->St->Hj->Prop)(σ:St)(J:Hj)(i:Nat):lpJ I JX Pr μ x Q (.exit i) σ J=Q (.exit i) σ J:=rfl
theorem zba.loop {c:Code}{σ:St}{J:Hj}{Q:Exit->St->Hj->Prop}(x0:X)(h0:Wk σ (I x0))(j0:J=JX x0)(p0:Pr x0)(hr:∀x,Pr x->zba P N c (I x) (JX x) (lpJ I JX Pr μ x Q)):zba P N (.loop c) σ J Q:=λn0 w0 A0 g a w h1 h2 h3=>by
 subst j0
 refine zn2 (λn a w=>∃x g1,Pr x/\μ x=n/\RelJ n0 N (I x) (JX x) A0 g1 a w/\LtK n0 w/\Bk n0 w0 w) ?_ (n:=μ x0) (by obtain⟨g0,r1⟩:=h1.wk h0;exact⟨x0,g0,p0,rfl,r1,h2,h3⟩)
 rintro n a w ⟨x,g1,px,rfl,k2,k3,k4⟩
 refine wp_mono (hr x px n0 w0 A0 g1 a w k2 k3 k4) λe a' w' hq=>?_
 obtain⟨σ',r',g',h1,h2,h3,h4⟩:=hq
 cases e with
 | normal =>
  obtain⟨x',p',hlt,hj,hwk⟩:=h1;subst hj;obtain⟨g2,r1⟩:=h2.wk hwk;exact⟨μ x',hlt,x',g2,p',rfl,r1,h3,h4⟩
 | exit i=>exact⟨σ',r',g',h1,h2,h3,h4⟩
 | goto l=>exact⟨σ',r',g',h1,h2,h3,h4⟩
 | ret=>exact⟨σ',r',g',h1,h2,h3,h4⟩
 | panic ch=>exact⟨σ',r',g',h1,h2,h3,h4⟩
 | outgrown=>exact⟨σ',r',g',h1,h2,h3,h4⟩
end
def zdd (P:Program)(N:Nat)(ops:Array Oper)(i:Nat)(σ:St)(J:Hj)(K:St->Hj->Prop):Prop:=∀(Q:Exit->St->Hj->Prop) n0 w0 A0 g a w,(∀σ' J',K σ' J'->Q .normal σ' J')->RelJ n0 N σ J A0 g a w->LtK n0 w->Bk n0 w0 w->wpOps P ops (EndsJ n0 N w0 A0 Q) (List.range' i (ops.size-i)) a w
theorem zba.region {id:Nat}{ops:Array Oper}{σ:St}{J:Hj}{Q:Exit->St->Hj->Prop}(h:zdd P N ops 0 σ J (Q .normal)):zba P N (.region id ops false) σ J Q:=λn0 w0 A0 g a w h1 h2 h3=>by
 refine wp_region ?_
 rw[List.range_eq_range']
 exact h Q n0 w0 A0 g a w (λ_ _ k=>k) h1 h2 h3
section
variable {ops:Array Oper}{i:Nat}{σ:St}{J:Hj}{K:St->Hj->Prop}
theorem zdd.done (hi:ops.size=i)(h:K σ J):zdd P N ops i σ J K:=λQ n0 w0 A0 g a w hK h1 h2 h3=>by
 rw[hi,Nat.sub_self]
 exact⟨σ,J,g,hK _ _ h,h1,h2,h3⟩
theorem zdd.plain (k:Nat)(hk:i+k<=ops.size)(hg:(ops.toList.all λo=>o.guard.isNone)=true)(hd:zcj N (.region 0 ops false)=true)(h:exo P ops ((ops.toList.drop i).take k) [] (λ_ σ'=>zdd P N ops (i+k) σ' J K) σ):zdd P N ops i σ J K:=λQ n0 w0 A0 g a w hK h1 h2 h3=>by
 obtain⟨n1,k1,k2,k4,k5⟩:=h1.rel
 have hd':∀o∈ops.toList,∀d,o.dst=some d->d<N:=λo ho d hdd=>by
  simp only[zcj,Kb]at hd;have:=hd o (by simpa using ho);rw[hdd]at this;simpa using this
 have hg':∀o∈ops.toList,o.guard=none:=λo ho=>by
  have:=Qr.1 hg o ho;simpa using this
 have hr:List.range' i (ops.size-i)=List.range' i k++List.range' (i+k) (ops.size-(i+k)):=by
  rw[List.range'_append_1];congr 1;omega
 rw[hr]
 refine zti (w0:=w) (A0:=(g.A0,g.R0)) hg' ?_ k i hk hd' σ g a w (by simpa[exo,zuf]using h) k4 k5 (Bk.refl _ _) rfl
 intro a' w' σ' g' hK' m2 m3 m4 m5
 exact hK' Q n0 w0 A0 g' a' w' hK (h1.keep k1 k2 m2 m3 m4 m5) (h2.mono m4.size) (h3.trans (znk k1 m4))
structure EndJ (J:Hj)(w:World)(J':Hj)(w':World):Prop where
 good:GoodJ J'
 I:J'.I w'
 F:∀x,J'.F x->(J.F x\/w.heap.size<=x)/\x<w'.heap.size
 R:∀x,J'.R x->J.R x
 bk:Bk (λx=>x<w.heap.size/\¬J.F x) w w'
theorem zdd.call {d:Nat}{x:Operand}{asx:Array Operand}{ts:Array TypeId}{ty:TypeId}{ps:String}{af:Array Edge}(Kr:Bool->Hj->Prop)(hl:ops[i]?=some ⟨some d,.call ⟨.value x,asx,ts⟩,ty,ps,af,none⟩)(hd:d<N)
  (h:∀n1 g a w,Rel n1 N σ g a w->LtK n1 w->OkJ J n1 g.A0 w->∃f vs,(execOp a.eval ⟨some d,.call ⟨.value x,asx,ts⟩,ty,ps,af,none⟩).run P w=.ok (.enter f vs) w/\Calls P f vs w λe w'=>∃b J',e=.returned (.bool b)/\Kr b J'/\EndJ J w J' w')
  (k:∀b J',Kr b J'->zdd P N ops (i+1) (σ.put (some d) (.one (.t (.bool b)))) J' K):zdd P N ops i σ J K:=λQ n0 w0 A0 g a w hK h1 h2 h3=>by
 have hlt:i<ops.size:=(Array.getElem?_eq_some_iff.1 hl).1
 obtain⟨n1,k1,k2,k4,k5⟩:=h1.rel
 obtain⟨f,vs,hex,hc⟩:=h n1 g a w k4 k5 k2
 rw[show List.range' i (ops.size-i)=i::List.range' (i+1) (ops.size-(i+1)) by rw[show ops.size-i=(ops.size-(i+1))+1 by omega];rfl,wpOps_cons]
 unfold wpOp
 simp only[hl]
 rw[if_pos (by simp[Region.wanted])]
 refine Or.inl ?_
 unfold Oper.wp
 rw[hex,Oper.upon_enter]
 refine hc.mono ?_
 rintro e w' ⟨b,J',rfl,hKr,hE⟩
 have hsame:∀y,y<w.heap.size->¬J.F y->w'.heap[y]?=w.heap[y]?:=λy a b=>hE.bk.block y ⟨a,b⟩
 have hnF:∀y,y<w.heap.size->¬J.F y->¬J'.F y:=λy a b c=>((hE.F y c).1).elim b λz=>by omega
 have hR:Rel (λy=>n1 y\/J'.F y) N σ { g with A0:=λy=>g.A0 y/\¬J'.F y } a w':=by
  refine k4.turn (λb hf=>?_) hE.bk.size (λb hb=>?_) (λk hk=>?_) (λe ho b hm=>?_)
  ·have h5:¬J.F b:=λhF=>(k2.F b hF).2 hf.2.2.2;exact⟨⟨hf.2.2.2,hnF b hf.2.2.1 h5⟩,hsame b hf.2.2.1 h5⟩
  ·have h5:=k4.anew b λq=>hb (Or.inl q);exact⟨⟨h5.1,λq=>hb (Or.inr q)⟩,h5.2⟩
  ·have h5:¬J.F (g.β k):=λhF=>k4.base k hk (k2.F _ hF).1;exact⟨λq=>q.elim (k4.base k hk) (hnF _ (k4.lt hk) h5),hsame _ (k4.lt hk) h5⟩
  ·have h5:¬J.F b:=λhF=>k4.etop e ho b hm (k2.F _ hF).1;have h6:=k4.elt ho hm;exact⟨λq=>q.elim (k4.etop e ho b hm) (hnF b h6 h5),⟨(k4.ebase e ho b hm).1,hnF b h6 h5⟩,hsame b h6 h5⟩
 have hR':=hR.put (some d) (x:=.one (.t (.bool b))) (v:=.bool b) (by show zai _ _ _ _;unfold zai;rfl) (λj hj=>by cases hj;exact hd)
 have hn0:Bk n0 w w':=⟨hE.bk.os,hE.bk.tape,hE.bk.output,hE.bk.size,λy hy=>hsame y (h2 y hy) λhF=>h1.nb y hF hy⟩
 refine k b J' hKr Q n0 w0 A0 { g with A0:=λy=>g.A0 y/\¬J'.F y } _ w' hK ⟨⟨λy=>n1 y\/J'.F y,λy hy=>Or.inl (k1 y hy),⟨hE.good,λy hy=>⟨Or.inr hy,λq=>q.2 hy⟩,λy hy=>Or.inl (k2.R y (hE.R y hy)),hE.I⟩,hR',λy hy=>hy.elim (λq=>Je (k5 y q) hE.bk.size) λq=>(hE.F y q).2⟩,λy hy hn=>?_,λy hy=>h1.sub y hy.1,h1.r0,h1.new⟩ (h2.mono hE.bk.size) (h3.trans hn0)
 rcases(hE.F y hy).1 with q|q
 ·exact h1.nb y q hn
 ·have:=h2 y hn;omega
end
theorem zba.drawn (m:Nat){id:Nat}{ops:Array Oper}{σ:St}{J:Hj}{Q:Exit->St->Hj->Prop}(hmx:P.follows .mixedOrders=true)(hch:zns ops m=true)(hd:zcj N (.region 0 ops false)=true)(h:exd P ops (ops.toList.take m) [] [] (λe σ'=>match e with|.normal=>zdd P N ops m σ' J (Q .normal)|_=>False) σ):zba P N (.region id ops true) σ J Q:=λn0 w0 A0 g a w hM h2 h3=>by
 obtain⟨n1,q1,q2,hR,hn⟩:=hM.rel
 have hd':∀o∈ops,∀d,o.dst=some d->d<N:=λo ho d hdd=>by
  simp only[zcj,Kb]at hd;have:=hd o ho;rw[hdd]at this;simpa using this
 have hm:m<=ops.size:=by unfold zns at hch;rw[Qd]at hch;simpa using hch.1
 obtain⟨L,σs,h0,hloc,hord,hK⟩:=ze2 hm (ops.toList.take m) 0 [] (λ_=>σ) rfl (Qy _) rfl (λj _ hj=>by omega) h
 refine wp_region_any hmx ?_
 have hb:Below w.heap.size w { w with drawn:=w.drawn+1 }:=⟨rfl,rfl,rfl,Qp _,λ_ _=>rfl⟩
 have hR':Rel n1 N (σs 0) g a { w with drawn:=w.drawn+1 }:=by
  rw[h0];exact hR.after hn hb (New.refl σ g (w.heap.size<=·) _ hR.slc)
 have hF:Fp σs (λi=>L.getD i ([],[])) (λi=>(Array.replicate ops.size false).getD i false) m=σs 0:=by
  have hp:∀i,(Array.replicate ops.size false).getD i false=false:=λi=>by
   simp only[Array.getD_eq_getD_getElem?,Array.getElem?_replicate];split<;>rfl
  have:∀m,Fp σs (λi=>L.getD i ([],[])) (λi=>(Array.replicate ops.size false).getD i false) m=σs 0:=by
   intro m;induction m with
   | zero=>rfl
   | succ m ih=>unfold Fp;rw[hp,if_neg (by simp)];exact ih
  exact this _
 have hcnt:cnt (λi=>(Array.replicate ops.size false).getD i false) ops.size=ops.size:=by
  have hp:∀i,(Array.replicate ops.size false).getD i false=false:=λi=>by
   simp only[Array.getD_eq_getD_getElem?,Array.getElem?_replicate];split<;>rfl
  have:∀m,cnt (λi=>(Array.replicate ops.size false).getD i false) m=m:=by
   intro m;induction m with
   | zero=>rfl
   | succ m ih=>unfold cnt;rw[hp,if_neg (by simp),ih];omega
  exact this _
 refine qaz (n0:=n1) (w0:=w) (A0:=(g.A0,g.R0)) hloc (qig hord hch) hd' (λg' a' w' k1 k2 k3 k4=>?_) ops.size _ g a _ (by simp) hcnt (λj h hl=>?_) (λj _=>?_) (by rw[hF];exact hR') (hn.mono (Qp _)) (Bk.of_below hb hn) rfl
 ·exact hK Q n0 w0 A0 g' a' w' (λ_ _ k=>k) (hM.keep q1 q2 k1 k2 k3 k4) (h2.mono k3.size) (h3.trans (znk q1 k3))
 ·simp only[Array.getD_eq_getD_getElem?,Array.getElem?_replicate]at hl;split at hl<;>cases hl
 ·simp only[Array.getD_eq_getD_getElem?,Array.getElem?_replicate];split<;>rfl
def JC (P:Program)(f:FuncId)(args:List D)(J:Hj)(K:Bool->Hj->Prop):Prop:=za8 P f/\∀(w:World)(vs:List Value)(A:Nat->Prop),GoodJ J->J.I w->(∀x,J.F x->x<w.heap.size/\¬A x)->(∀x,J.R x->x<w.heap.size)->zbc w (λb=>b<w.heap.size/\A b) args vs →
 Calls P f ⟨vs⟩ w λe w'=>∃b J',e=.returned (.bool b)/\K b J'/\EndJ J w J' w'
def PJ (P:Program)(rs:List ResultVar)(K:Bool->Hj->Prop)(e:Exit)(σ:St)(J:Hj):Prop:=match e with
 | .normal=>∃b,zaq (zbq P σ rs) (λvs=>RV σ vs [.one (.bool b)])/\K b J
 | .ret=>∃b,zaq (zbq P σ rs) (λvs=>RV σ vs [.one (.bool b)])/\K b J
 | _=>False
theorem qr7 {f:FuncId}{fn:Func}{c:Code}{args:List D}{J:Hj}{K:Bool->Hj->Prop}(hc:za8 P f)(hf:P.funcs[f]?=some fn)(hb:fn.body=some c)(hN:(rd args).length<=fn.ntmps)(hKR:∀b J',K b J'->∀x,J'.R x->J.R x)
  (h:zba P fn.ntmps c (zd9 (rd args)) J (PJ P fn.results.toList K)):JC P f args J K:=by
 refine⟨hc,λw vs A hJ hI hF hRd hv=>?_⟩
 refine calls_of_wp hf hb ?_
 have hg:∀(ds:List D) (vs:List Value),zbc w (λb=>b<w.heap.size/\A b) ds vs->zaw w (λb=>b<w.heap.size/\A b/\b∉([]:List Nat)) (rd ds) vs [] []:=by
  intro ds;induction ds with
  | nil=>intro vs h;exact⟨h,rfl,rfl⟩
  | cons d ds ih =>
   rintro vs ⟨v,vs',rfl,h1,h2⟩;refine⟨v,vs',rfl,?_,ih _ h2⟩;cases d with
   | one t=>exact zai.keep (λ_ _=>rfl) (λb hb=>⟨hb.1,hb.2,by simp⟩) t _ h1
   | agg ts=>obtain⟨a,h0,h1⟩:=h1;exact⟨a,h0,zae.keep (λ_ _=>rfl) (λb hb=>⟨hb.1,hb.2,by simp⟩) ts a h1⟩
 obtain⟨g,hgg,hR⟩:=Rel.start (A:=A) (A0:=λb=>A b\/w.heap.size<=b) (R0:=RP.of λ_=>True) (N:=fn.ntmps) (hg _ _ hv) Kn (zeo args) hN (λ_ hb=>Or.inl hb) (λb hb=>by simp at hb) (λb hb=>⟨Or.inr (by
  refine Nat.le_of_not_lt λhlt=>hb ⟨hlt,by simp⟩),trivial⟩)
 have e1:g.A0=λb=>A b\/w.heap.size<=b:=(Jr hgg).1
 have e2:g.R0=RP.of λ_=>True:=(Jr hgg).2
 refine wp_mono (h (λx=>x<w.heap.size/\¬J.F x) w (λb=>True,RP.of λ_=>True) g _ w ⟨⟨_,λx hx=>⟨hx.1,by simp⟩,⟨hJ,λx hx=>⟨⟨(hF x hx).1,by simp⟩,λq=>?_⟩,λx hx=>⟨hRd x hx,by simp⟩,hI⟩,hR,λk hk=>hk.1⟩,λx hx q=>q.2 hx,λ_ _=>trivial,e2,λ_ _=>⟨trivial,trivial⟩⟩ (λk hk=>hk.1) (Bk.refl _ _)) λe a' w' hq=>?_
 ·rw[e1]at q;rcases q with q|q
  ·exact(hF x hx).2 q
  ·have:=(hF x hx).1;omega
 obtain⟨σ',J',g',h1,h2,h3,h4⟩:=hq
 obtain⟨n1,m1,m2,m3,m4⟩:=h2.rel
 have key:(∃b,zaq (zbq P σ' fn.results.toList) (λvs=>RV σ' vs [.one (.bool b)])/\K b J')->∃v,(results fn a'.tmps).run P w'=.ok v w'/\∃b J',Ending.returned v=.returned (.bool b)/\K b J'/\EndJ J w J' w':=by
  rintro⟨b,hk,hKb⟩;obtain⟨vs,hvs,hk⟩:=zao hk;obtain⟨us,r1,r2⟩:=zb9 m3 fn hvs;obtain⟨u,us',rfl,hu,hus⟩:=RV.rep hk r2;obtain rfl:=hus;have hu:zai w' (Fix σ' g' w') (.bool b) u:=hu;unfold zai at hu;subst hu;refine⟨_,r1,b,J',rfl,hKb,m2.good,m2.I,λx hx=>⟨?_,m4 x (m2.F x hx).1⟩,λx hx=>?_,h4⟩
  ·by_cases hlt:x<w.heap.size
   ·refine Or.inl (Classical.byContradiction λhn=>h2.nb x hx ⟨hlt,hn⟩)
   ·exact Or.inr Zi
  ·exact hKR b J' hKb x hx
 cases e with
 | normal=>exact⟨m3.defers,key h1⟩
 | ret=>exact⟨m3.defers,key h1⟩
 | exit _=>exact h1.elim
 | goto _=>exact h1.elim
 | panic _=>exact h1.elim
 | outgrown=>exact h1.elim
attribute [go_sem] zr1 qdi qay ztx qkd zqw qbg qr8 qki
end
section
open Go.RowKit
variable {P:Program}{N:Nat}
theorem zba.cond {c:Operand}{x y:Code}{σ:St}{J:Hj}{Q:Exit->St->Hj->Prop}{b:Bool}(hv:σ.get P 0 c=.one (.t (.bool b)))(ht:b=true->zba P N x σ J Q)(hf:b=false->zba P N y σ J Q):zba P N (.cond c x y) σ J Q:=λn0 w0 A0 g a w h1 h2 h3=>by
 obtain⟨n1,z1,z2,z4,z5⟩:=h1.rel
 have hs:=z4.get P 0 c
 rw[hv]at hs
 simp only[VR,CR,zai]at hs
 exact wp_cond_split hs (λe=>ht e n0 w0 A0 g a w h1 h2 h3) (λe=>hf e n0 w0 A0 g a w h1 h2 h3)
theorem zba.mono {c:Code}{σ:St}{J:Hj}{Q R:Exit->St->Hj->Prop}(h:∀e σ' J',Q e σ' J'->R e σ' J')(k:zba P N c σ J Q):zba P N c σ J R:=λn0 w0 A0 g a w h1 h2 h3=>by
 refine wp_mono (k n0 w0 A0 g a w h1 h2 h3) λe a' w' hq=>?_
 obtain⟨σ',r',g',k1,k2,k3,k4⟩:=hq
 exact⟨σ',r',g',h _ _ _ k1,k2,k3,k4⟩
theorem zba.cut:∀(n:Nat){c:Code}{σ:St}{H:Hj}{Q:Exit->St->Hj->Prop},okC n c=true->zcj N (zzm n c)=true->ex P (zzm n c) [] (λe σ'=>qbd P N (qp7 n c) Q e σ' H) σ->zba P N c σ H Q
 | 0,.seq x y,σ,H,Q,_,hd,h=>zba.seq (zba.ofEx hd h)
 | n+1,.seq x y,σ,H,Q,ho,hd,h=>by
  simp only[zzm,zcj,Qd]at hd;refine zba.seq (zba.mono (Q:=λe σ' r=>r=H/\zuf P [.seq (zzm n y)] (λe σ'=>qbd P N (qp7 n y) Q e σ' H) e σ') (λe σ' r k=>?_) (zba.ofEx hd.1 (zcs (λe σ' k=>⟨rfl,k⟩) h)));obtain⟨rfl,k⟩:=k;cases e with
  | normal=>exact zba.cut n ho hd.2 k
  | exit i=>exact k
  | goto l=>exact k
  | ret=>exact k
  | panic ch=>exact k
  | outgrown=>exact k
def Hj.wide (J:Hj)(E:Nat->Prop)(C:World->Prop):Hj:=⟨J.F,λx=>J.R x\/E x,λw=>J.I w/\C w⟩
def zs2 (E:Nat->Prop)(C:World->Prop):Prop:=∀w w':World,(∀x,E x->w'.heap[x]?=w.heap[x]?)->C w->C w'
theorem Hj.wide_good {J:Hj}{E:Nat->Prop}{C:World->Prop}(h:GoodJ J)(hd:∀x,E x->¬J.F x)(hk:zs2 E C):GoodJ (J.wide E C) :=
 ⟨λx hx=>hx.elim (h.dis x) (hd x),λw w' hs hi=>⟨h.keep w w' (λx hx=>hs x (hx.elim Or.inl λq=>Or.inr (Or.inl q))) hi.1,hk w w' (λx hx=>hs x (Or.inr (Or.inr hx))) hi.2⟩⟩
theorem Hj.wide_end {J J2:Hj}{E:Nat->Prop}{C:World->Prop}{w w':World}(h:EndJ J w J2 w')(hd:∀x,E x->x<w.heap.size/\¬J.F x)(hk:zs2 E C)(hc:C w):EndJ (J.wide E C) w (J2.wide E C) w' :=
 ⟨Hj.wide_good h.good (λx hx hf=>(h.F x hf).1.elim (hd x hx).2 λq=>by have:=(hd x hx).1;omega) hk,⟨h.I,hk w w' (λx hx=>h.bk.block x (hd x hx)) hc⟩,h.F,λx hx=>hx.elim (λq=>Or.inl (h.R x q)) Or.inr,h.bk⟩
theorem Hj.wide_drop {J J2:Hj}{E:Nat->Prop}{C:World->Prop}{w w':World}(h:EndJ (J.wide E C) w (J2.wide E C) w')(hg:GoodJ J2)(hr:∀x,J2.R x->J.R x):EndJ J w J2 w' :=
 ⟨hg,h.I.1,h.F,hr,h.bk⟩
theorem zqe {n0:Nat->Prop}{σ:St}{g:Gh}{a:Act}{w:World}(hR:Rel n0 N σ g a w){o:Oper}{x:Operand}{asx:Array Operand}{ts:Array TypeId}{f:FuncId}{caps:List Value}(ho:o.op=.call ⟨.value x,asx,ts⟩)
  (hc:σ.get P 0 x=.one (.t (.cl f caps))) (hf:za8 P f):∃us,(execOp a.eval o).run P w=.ok (.enter f ⟨us++caps⟩) w/\VRl σ g w (σ.gets P asx ts) us:=by
 have hv:=hR.get P 0 x
 rw[hc]at hv
 simp only[VR,CR,zai]at hv
 refine⟨asx.toList.map a.eval,?_,zuj hR asx ts⟩
 unfold execOp
 simp only[ho,resolve,hv,Deferred.ofValue,invoke,Sem.run_bind,Sem.run_pure,Result.andThen]
 refine(hf _ w).trans ?_
 congr 2
 apply Array.ext'
 simp
theorem EvR.rep {w:World}{A:Nat->Prop}{x:Ev}{v:Value}{fp:List Nat}(h:EvR w A x v fp):zai w (λb=>A b\/b∈fp) (.sl x.sz x.rows) v:=by
 obtain⟨ao,cap,rfl,h1,h2,h3⟩:=h
 unfold zai
 refine⟨ao,cap,rfl,h1,h2,?_⟩
 rcases h3 with⟨_,_,h,_⟩|⟨b,cells,ty,fps,rfl,rfl,k1,k2,k3⟩
 ·exact Or.inl h
 ·refine Or.inr ⟨b,0,rfl,Or.inr (by simp),?_⟩;split at k3
  ·exact zak.rep b cells ty k1 0 x.sz x.rows fps k3 λq hq=>Or.inr (by simp[hq])
  ·exact zal.keep (λ_ _=>rfl) (λq hq=>Or.inl hq) b rfl 0 x.sz x.rows k3.2
theorem qrz {n1:Nat->Prop}{σ:St}{J:Hj}{g:Gh}{a:Act}{w:World}(hR:Rel n1 N σ g a w)(hn:LtK n1 w)(hJ:OkJ J n1 g.A0 w){e n:Nat}{x:Ev}(he:σ.ev e=some x)(ho:x.on=true)(hg:x.gen=n) :
  zai w (λb=>(b<w.heap.size/\¬J.F b)) (.sl x.sz x.rows) (g.ψ e n):=by
 subst hg
 have hE:=hR.evs e x he ho
 refine zai.keep (λ_ _=>rfl) (λb hb=>?_) _ _ hE.rep
 rcases hb with hb|hb
 ·exact⟨hb.2.2.1,λhF=>(hJ.F b hF).2 hb.2.2.2⟩
 ·exact⟨hE.lt b hb,λhF=>hR.etop e ⟨x,he,ho⟩ b hb (hJ.F b hF).1⟩
end
section
open Go.RowKit
def zfl (b:UInt8):Bool:=decide (97<=(b.toNat:Int))&&decide ((b.toNat:Int)<=122)
def ql2 (b:UInt8):Bool:=decide (48<=(b.toNat:Int))&&decide ((b.toNat:Int)<=57)
def zh2 (b:UInt8):Bool:=decide (65<=(b.toNat:Int))&&decide ((b.toNat:Int)<=90)
def zpw (b:UInt8):Bool:=zfl b||ql2 b
abbrev uD (b:UInt8):D:=.one (.int .u8 b.toNat)
theorem zht (b:UInt8):FC Tryz.prog 216 [uD b] [bD (zfl b)]:=by
 unfold zfl
 refine zam Tryz.call216 Tryz.func216 rfl Zh (zat Zh) ?_
 simp -implicitDefEqProofs only[go_sem,Tryz.results216]
 refine⟨λh=>?_,λh=>?_⟩<;>simp at h⊢<;>omega
theorem zr4 (b:UInt8):FC Tryz.prog 217 [uD b] [bD (ql2 b)]:=by
 unfold ql2
 refine zam Tryz.call217 Tryz.func217 rfl Zh (zat Zh) ?_
 simp -implicitDefEqProofs only[go_sem,Tryz.results217]
 refine⟨λh=>?_,λh=>?_⟩<;>simp at h⊢<;>omega
theorem zqt (b:UInt8):FC Tryz.prog 201 [uD b] [bD (zh2 b)]:=by
 unfold zh2
 refine zam Tryz.call201 Tryz.func201 rfl Zh (zat Zh) ?_
 simp -implicitDefEqProofs only[go_sem,Tryz.results201]
 refine⟨λh=>?_,λh=>?_⟩<;>simp at h⊢<;>omega
def inB (n lo hi:Int):Bool:=decide (lo<=n)&&decide (n<=hi)
theorem zju (n lo hi:Int):FC Tryz.prog 45 [iD n,iD lo,iD hi] [bD (inB n lo hi)]:=by
 unfold inB
 refine zam Tryz.call45 Tryz.func45 rfl Zh (zat Zh) ?_
 simp -implicitDefEqProofs only[go_sem,Tryz.results45]
 refine⟨λh=>?_,λh=>?_⟩<;>simp at h⊢<;>omega
theorem qgj (n lo hi:Int):FC Tryz.prog 37 [iD n,iD lo,iD hi] [bD (inB n lo hi)]:=by
 unfold inB
 refine zam Tryz.call37 Tryz.func37 rfl Zh (zat Zh) ?_
 simp -implicitDefEqProofs only[go_sem,Tryz.results37]
 refine⟨λh=>?_,λh=>?_⟩<;>simp at h⊢<;>omega
theorem zyd (a b:Int):FC Tryz.prog 86 [iD a,iD b] [iD (max a b)]:=by
 refine zam Tryz.call86 Tryz.func86 rfl Zh (zat Zh) ?_
 simp -implicitDefEqProofs only[go_sem,Tryz.results86]
 refine⟨λh=>?_,λh=>?_⟩<;>simp at h<;>exact znc Zi
theorem zrs (b:UInt8):FC Tryz.prog 198 [uD b] [bD (zpw b)]:=by
 unfold zpw zfl ql2
 refine zam Tryz.call198 Tryz.func198 rfl Zh (zat Zh) ?_
 simp -implicitDefEqProofs only[go_sem,Tryz.results198]
 simp only[T.bool.injEq,Q0,Ko]
 refine⟨λh=>⟨λh2=>⟨λh3=>?_,λh3=>?_⟩,λh2=>?_⟩,λh=>⟨λh2=>?_,λh2=>?_⟩⟩<;>simp[h,h2]<;>omega
def zth:Str->Bool
 | []=>true
 | c::cs=>zh2 c&&cs.all zpw
def zax (s:Str):Bool:=zth s&&inB s.length 1 4
theorem zr3 (s:Str):FC Tryz.prog 167 [sD s] [bD (zax s)]:=by
 refine zbz (λhw=>?_) Tryz.call167
 have hl:s.length<=9223372036854775807:=by simpa[zee,wfT]using hw.1
 refine zam Tryz.call167 Tryz.func167 rfl Zh (zat Zh) ?_
 simp -implicitDefEqProofs only[go_sem,Tryz.results167]
 refine zad (λk:Nat=>hd [(0,vT (.str s)),(5,vI s.length),(6,vI k)] [] []) (λk=>k<=s.length/\zth s=if k=0 then zth s else (s.drop k).all zpw) (λk=>s.length-k) 0 (zab ?_) ?_ ?_
 ·exact Zg
 ·simp
 ·intro k ⟨hk,hr⟩;by_cases hlt:k<s.length
  ·by_cases h0:k=0
   ·subst h0;have hl0:(0:Int)<s.length:=by omega
    have he:zth s=(zh2 (s.getD 0 0)&&(s.drop 1).all zpw):=by cases s;exact absurd hlt (by simp);rfl
    refine Zr hlt hl0 ?_;refine callF (zqt (s.getD 0 0)) Zg ?_;refine Zj ?_;refine⟨λh=>⟨1,⟨hlt,?_⟩,Zi,zab (by simp -implicitDefEqProofs only[go_sem];rw[zay Zi Zi])⟩,λh=>?_⟩
    ·have:zh2 (s.getD 0 0)=true:=by simpa using h
     rw[he,this];rfl
    ·have:zh2 (s.getD 0 0)=false:=by simpa using h
     rw[zax,he,this];rfl
   ·have h1:((k:Int)==0)=false:=by simp;omega
    have h2:(0:Int)<k:=by omega
    have hg:s.getD k 0=s[k]:=by simp[List.getD,hlt]
    rw[if_neg h0,Qn hlt,Jl]at hr;simp -implicitDefEqProofs only[go_sem,hlt,h1,h2];refine callF (zht (s.getD k 0)) Zg ?_;refine Zj ?_;simp only[hg];refine⟨λh=>⟨hlt,?_⟩,λh=>?_⟩
    ·refine callF (zr4 s[k]) Zg ?_;refine Zj ?_;refine⟨λh'=>?_,λh'=>⟨k+1,⟨hlt,?_⟩,Zi,zab (by simp -implicitDefEqProofs only[go_sem];rw[zaf Zi])⟩⟩
     ·have:zpw s[k]=false:=by simp[zpw];simp at h h';exact⟨h,h'⟩
      simp[zax,hr,this]
     ·have:zpw s[k]=true:=by simp[zpw];right;simpa using h'
      rw[hr,this];simp
    ·refine⟨k+1,⟨hlt,?_⟩,Zi,zab (by simp -implicitDefEqProofs only[go_sem];rw[zaf Zi])⟩;have:zpw s[k]=true:=by simp[zpw];left;simpa using h
     rw[hr,this];simp
  ·refine Xo ?_;refine callF (zju s.length 1 4) Zg ?_;refine Zj ?_;have:zth s=true:=by
    by_cases h0:k=0
    ·have:s=[]:=Kc.1 Zi;rw[this];rfl
    ·rw[hr,if_neg h0,Q1 Zi];rfl
   simp[zax,this]
end
end Go.Proofs.YtmhbmpbgpjljeaaGreat
