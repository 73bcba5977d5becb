/-
  The walk over plain data, and contracts of functions of the program and of its laws.
  Conditions: those that each theorem names.
-/
import Derived.Test.YtnemmlahbbbobaaGreatQR4
import Derived.MapKept
import Derived.OrdersIn
import Derived.Laws.IdiomRangeMap
import Derived.Test.YtnemmlahbbbobaaGreatQR5
namespace Go.Proofs.YtnemmlahbbbobaaGreat
set_option linter.unusedSimpArgs false
set_option linter.unusedVariables false
set_option linter.unusedSectionVars false
set_option maxRecDepth 4000
set_option maxHeartbeats 8000000
section
open Go.RowKit
variable {P:Program}
inductive AF
 | d (b:Bool) (x:D)
 | p (j:Nat)
 | fn (g:FuncId) (js:List Nat)
def AF.ds:List AF->List (Bool×D)
 | []=>[]
 | .d b x::l=>(b,x)::AF.ds l
 | .p _::l=>AF.ds l
 | .fn _ _::l=>AF.ds l
def qlo (b:Nat):Value:=.pointer (some ⟨b,0,none⟩)
def AF.vals (bs:Nat->Nat):List AF->List Value->List Value
 | [],_=>[]
 | .d _ _::l,v::vs=>v::AF.vals bs l vs
 | .d _ _::_,[]=>[]
 | .p j::l,vs=>qlo (bs j)::AF.vals bs l vs
 | .fn g js::l,vs=>.func (.func g) #[] ⟨js.map λj=>qlo (bs j)⟩::AF.vals bs l vs
def AF.okJ (n:Nat):List AF->Bool
 | []=>true
 | .d _ _::l=>AF.okJ n l
 | .p j::l=>decide (j<n)&&AF.okJ n l
 | .fn _ js::l=>js.all (λj=>decide (j<n))&&AF.okJ n l
abbrev Bxs:=List (List (Bool×T))
def qcy (w:World)(bs:Nat->Nat):Nat->List (List Value)->Bxs->Prop
 | _,[],[]=>True
 | j,vs::bvs,b::bx=>vs.length=b.length/\(∃ty,w.heap[bs j]?=some (.cells ⟨vs⟩ ty (0,0)))/\qcy w bs (j+1) bvs bx
 | _,_,_=>False
theorem qcy.lt {w:World}{bs:Nat->Nat}:∀{j:Nat}{bvs:List (List Value)}{bx:Bxs},qcy w bs j bvs bx->∀i,i<bx.length->bs (j+i)<w.heap.size
 | _,[],[],_,i,hi=>by simp at hi
 | j,_::_,_::_,h,0,hi=>by obtain⟨ty,h⟩:=h.2.1;exact(Array.getElem?_eq_some_iff.1 h).1
 | j,_::_,_::_,h,i+1,hi=>by rw[show j+(i+1)=j+1+i by omega];exact qcy.lt h.2.2 i (by simpa using hi)
 | _,[],_::_,h,_,_=>h.elim
 | _,_::_,[],h,_,_=>h.elim
def PC (P:Program)(f:FuncId)(bx:Bxs)(l:List AF)(bx':Bxs)(res:List (Bool×D)):Prop:=zbl P f/\bx'.length=bx.length/\∀(w:World)(bs:Nat->Nat)(bvs:List (List Value))(dvs:List Value)(fp tp:List Nat)(A:Nat->Prop),
 (∀i j,i<bx.length->j<bx.length->bs i=bs j->i=j)->(∀j,j<bx.length->bs j∉fp)->qcy w bs 0 bvs bx →
 za5 w (λk=>(k<w.heap.size/\k∉fp/\∀j,j<bx.length->k≠bs j)/\A k) (AF.ds l++bxA bx.flatten) (dvs++bvs.flatten) fp tp->fp.Nodup->dvs.length=(AF.ds l).length →
 Calls P f ⟨AF.vals bs l dvs⟩ w λe w'=>∃us bvs' fp' tp',e=.returned (zc4 us)/\qcy w' bs 0 bvs' bx'/\us.length=res.length ∧
  za5 w' (λk=>(k<w'.heap.size/\k∉fp'/\∀j,j<bx.length->k≠bs j)/\(A k\/w.heap.size<=k\/k∈fp)) (res++bxA bx'.flatten) (us++bvs'.flatten) fp' tp'/\fp'.Nodup/\(∀b∈fp',b∈fp\/w.heap.size<=b) ∧
  Bk (λk=>k<w.heap.size/\k∉fp/\∀j,j<bx.length->k≠bs j) w w'
def c1P (k:Nat):Bool×T->C
 | (true,t)=>owC k 0 t
 | (false,t)=>t.toN
def zyb:Nat->List (Bool×T)->List C
 | _,[]=>[]
 | k,p::ps=>c1P k p::zyb (k+1) ps
def zns:Nat->Nat->Bxs->Nat->Option (List C)
 | _,_,[]=>λ_=>none
 | j,k,b::bs=>upd (zns (j+1) (k+b.length) bs) (1000000+j) (some (zyb k b))
def zea:Nat->Nat->List AF->Nat->V
 | _,_,[]=>λ_=>.one .any
 | i,k,.d b x::l=>upd (zea (i+1) (k+1) l) i (gVN k (b,x))
 | i,k,.p j::l=>upd (zea (i+1) k l) i (.one (.bx (1000000+j) 0))
 | i,k,.fn g js::l=>upd (zea (i+1) k l) i (.one (.fn g (js.map (1000000+·))))
def zko:Nat->Bxs->(Nat->V)->Nat->V
 | _,[],f=>f
 | j,_::bs,f=>upd (zko (j+1) bs f) (1000000+j) (.one (.bx (1000000+j) 0))
def zj1 (l:List AF)(bx:Bxs):St:=⟨zko 0 bx (zea 0 0 l),zns 0 (AF.ds l).length bx,zim 0 (AF.ds l++bxA bx.flatten)⟩
theorem qt4 (k:Nat)(p:Bool×T):gVN k (p.1,.one p.2)=.one (c1P k p):=by obtain⟨b,t⟩:=p;cases b<;>rfl
theorem zt9:∀(bx:Bxs)(j:Nat)(f:Nat->V)(i:Nat),((∃q,q<bx.length/\i=1000000+(j+q))/\zko j bx f i=.one (.bx i 0))\/((∀q,q<bx.length->i≠1000000+(j+q))/\zko j bx f i=f i)
 | [],j,f,i=>Or.inr ⟨λq hq=>by simp at hq,rfl⟩
 | b::bx,j,f,i=>by
  by_cases hi:i=1000000+j
  ·subst hi;exact Or.inl ⟨⟨0,by simp,rfl⟩,by unfold zko;rw[zaf]⟩
  ·unfold zko;rw[zan _ _ hi];rcases zt9 bx (j+1) f i with⟨⟨q,h1,h2⟩,h3⟩|⟨h1,h2⟩
   ·exact Or.inl ⟨⟨q+1,by simp;omega,Y0⟩,h3⟩
   ·refine Or.inr ⟨λq hq=>?_,h2⟩;cases q with
    | zero=>exact hi
    | succ q=>have:=h1 q (by simpa using hq);omega
theorem zt8:∀(bx:Bxs)(j k b:Nat),zns j k bx b≠none↔∃q,q<bx.length/\b=1000000+(j+q)
 | [],j,k,b=>⟨λh=>absurd rfl h,λ⟨q,hq,_⟩=>by simp at hq⟩
 | c::bx,j,k,b=>by
  unfold zns;by_cases hi:b=1000000+j
  ·subst hi;rw[zaf];exact⟨λ_=>⟨0,by simp,rfl⟩,λ_=>by simp⟩
  ·rw[zan _ _ hi,zt8 bx (j+1) _ b];refine⟨λ⟨q,h1,h2⟩=>⟨q+1,by simp;omega,Y0⟩,λ⟨q,h1,h2⟩=>?_⟩;cases q with
   | zero=>exact absurd h2 hi
   | succ q=>exact⟨q,by simpa using h1,Y0⟩
theorem zpn {σ:St}{g:Gh}{w:World}:∀{b:List (Bool×T)}{vs:List Value}{k:Nat},vs.length=b.length->(∀i p v,b[i]?=some p->vs[i]?=some v->CR σ g w (c1P (k+i) p) v)->CRs σ g w (zyb k b) vs
 | [],vs,_,hl,_=>Kf.1 hl
 | p::b,[],_,hl,_=>by simp at hl
 | p::b,v::vs,k,hl,h=>⟨v,vs,rfl,by simpa using h 0 p v rfl rfl,zpn (by simpa using hl) λi q u h1 h2=>by
   have:=h (i+1) q u (by simpa using h1) (by simpa using h2);rw[show k+(i+1)=k+1+i by omega]at this
   exact this⟩
theorem zuu {σ:St}{g:Gh}{w:World}{bs:Nat->Nat}:∀(bx:Bxs)(bvs:List (List Value))(j k:Nat),qcy w bs j bvs bx->(∀i p v,bx.flatten[i]?=some p->bvs.flatten[i]?=some v->CR σ g w (c1P (k+i) p) v) →
  ∀b cs,zns j k bx b=some cs->∃q vs ty,q<bx.length/\b=1000000+(j+q)/\w.heap[bs (j+q)]?=some (.cells ⟨vs⟩ ty (0,0))/\CRs σ g w cs vs
 | [],_,_,_,_,_,b,cs,h=>by cases h
 | c::bx,[],_,_,h0,_,_,_,_=>h0.elim
 | c::bx,vs::bvs,j,k,h0,hc,b,cs,h=>by
  obtain⟨h1,⟨ty,h2⟩,h3⟩:=h0;unfold zns at h;by_cases hi:b=1000000+j
  ·subst hi;rw[zaf]at h;cases h;refine⟨0,vs,ty,by simp,rfl,h2,zpn h1 λi p v e1 e2=>hc i p v ?_ ?_⟩
   ·rw[Ki,List.getElem?_append_left (List.getElem?_eq_some_iff.1 e1).1];exact e1
   ·rw[Ki,List.getElem?_append_left (List.getElem?_eq_some_iff.1 e2).1];exact e2
  ·rw[zan _ _ hi]at h
   obtain⟨q,vs',ty',k1,k2,k3,k4⟩:=zuu bx bvs (j+1) (k+c.length) h3 (λi p v e1 e2=>by
    have:=hc (c.length+i) p v (by rw[Ki,List.getElem?_append_right Y0,show c.length+i-c.length=i by omega];exact e1) (by rw[Ki,List.getElem?_append_right Y0,show c.length+i-vs.length=i by omega];exact e2);rw[show k+(c.length+i)=k+c.length+i by omega]at this
    exact this) b cs h
   exact⟨q+1,vs',ty',by simp;omega,Y0,by rw[show j+(q+1)=j+1+q by omega];exact k3,k4⟩
theorem zh0:∀(l:List AF)(i0 k i:Nat),l.length<=i->zea i0 k l (i0+i)=.one .any
 | [],_,_,_,_=>rfl
 | a::l,i0,k,0,h=>by simp at h
 | .d b x::l,i0,k,i+1,h=>by unfold zea;rw[zan _ _ Y0,show i0+(i+1)=i0+1+i by omega];exact zh0 l _ _ i (by simpa using h)
 | .p j::l,i0,k,i+1,h=>by unfold zea;rw[zan _ _ Y0,show i0+(i+1)=i0+1+i by omega];exact zh0 l _ _ i (by simpa using h)
 | .fn g js::l,i0,k,i+1,h=>by unfold zea;rw[zan _ _ Y0,show i0+(i+1)=i0+1+i by omega];exact zh0 l _ _ i (by simpa using h)
theorem zis {σ:St}{g:Gh}{w:World}{bs:Nat->Nat}{n:Nat}(hb:∀j,j<n->σ.bx (1000000+j)≠none/\g.β (1000000+j)=bs j):∀(l:List AF)(i0 k:Nat)(dvs:List Value),AF.okJ n l=true->dvs.length=(AF.ds l).length->(∀i d v,(AF.ds l)[i]?=some d->dvs[i]?=some v->VR σ g w (gVN (k+i) d) v) →
  ∀i,i<l.length->∃v,(AF.vals bs l dvs)[i]?=some v/\VR σ g w (zea i0 k l (i0+i)) v
 | [],_,_,_,_,_,_,i,hi=>by simp at hi
 | .d b x::l,i0,k,[],_,hl,_,i,hi=>by simp[AF.ds]at hl
 | .d b x::l,i0,k,v::dvs,ho,hl,h,i,hi=>by
  cases i with
  | zero=>exact⟨v,rfl,by unfold zea;show VR σ g w (upd _ i0 _ i0) v;rw[zaf];simpa using h 0 (b,x) v rfl rfl⟩
  | succ i =>
   obtain⟨u,k1,k2⟩:=zis hb l (i0+1) (k+1) dvs ho (by simpa[AF.ds]using hl) (λi d v h1 h2=>by
    have:=h (i+1) d v (by simpa[AF.ds]using h1) (by simpa using h2);rw[show k+(i+1)=k+1+i by omega]at this
    exact this) i (by simpa using hi)
   exact⟨u,by unfold AF.vals;simpa using k1,by unfold zea;rw[zan _ _ Y0,show i0+(i+1)=i0+1+i by omega];exact k2⟩
 | .p j::l,i0,k,dvs,ho,hl,h,i,hi=>by
  unfold AF.okJ at ho;rw[Qb,Q2]at ho;cases i with
  | zero=>exact⟨_,rfl,by unfold zea;show VR σ g w (upd _ i0 _ i0) _;rw[zaf];exact⟨by rw[(hb j ho.1).2];rfl,(hb j ho.1).1⟩⟩
  | succ i =>
   obtain⟨u,k1,k2⟩:=zis hb l (i0+1) k dvs ho.2 hl h i (by simpa using hi);exact⟨u,by unfold AF.vals;simpa using k1,by unfold zea;rw[zan _ _ Y0,show i0+(i+1)=i0+1+i by omega];exact k2⟩
 | .fn f js::l,i0,k,dvs,ho,hl,h,i,hi=>by
  unfold AF.okJ at ho;rw[Qb,Qq]at ho;cases i with
  | zero =>
   refine⟨_,rfl,?_⟩;unfold zea;show VR σ g w (upd _ i0 _ i0) _
   rw[zaf];refine⟨?_,λb hb'=>?_⟩
   ·rw[Kw]
    congr 2
    refine Kv λj hj=>?_;show qlo (bs j)=.pointer (some ⟨g.β (1000000+j),0,none⟩)
    rw[(hb j (by simpa using ho.1 j hj)).2];rfl
   ·obtain⟨j,hj,rfl⟩:=Ka.1 hb';exact(hb j (by simpa using ho.1 j hj)).1
  | succ i =>
   obtain⟨u,k1,k2⟩:=zis hb l (i0+1) k dvs ho.2 hl h i (by simpa using hi);exact⟨u,by unfold AF.vals;simpa using k1,by unfold zea;rw[zan _ _ Y0,show i0+(i+1)=i0+1+i by omega];exact k2⟩
theorem AF.vals_len (bs:Nat->Nat):∀(l:List AF)(dvs:List Value),dvs.length=(AF.ds l).length->(AF.vals bs l dvs).length=l.length
 | [],_,_=>rfl
 | .d _ _::l,[],h=>by simp[AF.ds]at h
 | .d _ _::l,v::vs,h=>by simp[AF.vals,AF.vals_len bs l vs (by simpa[AF.ds]using h)]
 | .p _::l,vs,h=>by simp[AF.vals,AF.vals_len bs l vs h]
 | .fn _ _::l,vs,h=>by simp[AF.vals,AF.vals_len bs l vs h]
def T.fs:T->Bool
 | .sl _ _=>true
 | t=>t.flat
def gFS:List (Bool×D)->Bool
 | []=>true
 | (false,_)::ds=>gFS ds
 | (true,.one t)::ds=>t.fs&&gFS ds
 | (true,.agg ts)::ds=>ts.all T.fs&&gFS ds
theorem zyr:∀{ds:List (Bool×D)},gFS ds=true->∀(i:Nat) d,ds[i]?=some (true,d)->match d with|.one t=>t.fs=true|.agg ts=>ts.all T.fs=true
 | [],_,i,d,h=>by simp at h
 | (false,x)::ds,hg,0,d,h=>by simp at h
 | (false,x)::ds,hg,i+1,d,h=>zyr (ds:=ds) hg i d (by simpa using h)
 | (true,.one t)::ds,hg,0,d,h=>by
  simp only[List.getElem?_cons_zero,Qe,Qt,true_and]at h;subst h;exact((Qb _ _).mp hg).1
 | (true,.agg t)::ds,hg,0,d,h=>by
  simp only[List.getElem?_cons_zero,Qe,Qt,true_and]at h;subst h;exact((Qb _ _).mp hg).1
 | (true,.one t)::ds,hg,i+1,d,h=>zyr (ds:=ds) ((Qb _ _).mp hg).2 i d (by simpa using h)
 | (true,.agg t)::ds,hg,i+1,d,h=>zyr (ds:=ds) ((Qb _ _).mp hg).2 i d (by simpa using h)
theorem zyq {σ σ':St}{g g':Gh}{w:World}(he:σ'.ev=σ.ev)(hψ:g'.ψ=g.ψ){k j:Nat}{t:T}{v:Value}(ht:t.fs=true)(h:CR σ g w (owC k j t) v):CR σ' g' w (owC k j t) v:=by
 cases t
 case sl=>exact⟨by rw[hψ];exact h.1,by obtain⟨x,h1,h2⟩:=h.2;exact⟨x,by rw[he];exact h1,h2⟩⟩
 all_goals exact zcq (A:=Fix σ g w) (w:=w) ht h
theorem ztq {σ σ':St}{g g':Gh}{w:World}(he:σ'.ev=σ.ev)(hψ:g'.ψ=g.ψ){k:Nat}:∀{ts:List T}{j:Nat}{vs:List Value},ts.all T.fs=true->CRs σ g w (zrj k j ts) vs->CRs σ' g' w (zrj k j ts) vs
 | [],_,_,_,h=>h
 | t::ts,j,vs,ht,h=>by
  rw[Ks,Qb]at ht;obtain⟨v,vs',rfl,h1,h2⟩:=h;exact⟨v,vs',rfl,zyq he hψ ht.1 h1,ztq he hψ ht.2 h2⟩
theorem zq0 (d:Nat):∀(ts:List T)(j:Nat)(f:Nat->Option Ev),(∀e x,f e=some x->x.deep=true/\x.on=true)->∀e x,owE d j ts f e=some x->x.deep=true/\x.on=true
 | [],_,f,h,e,x,hx=>h e x hx
 | t::ts,j,f,h,e,x,hx=>zq0 d ts (j+1) _ (λe x hx=>by
   cases t<;>first|exact h e x hx|skip
   rename_i sz rows;by_cases he:e=d*32+j
   ·subst he;simp only[zu3,zaf,Qe]at hx;subst hx;exact⟨rfl,rfl⟩
   ·simp only[zu3,zan _ _ he]at hx;exact h e x hx) e x hx
theorem zh5:∀(ds:List (Bool×D))(k e:Nat)(x:Ev),zim k ds e=some x->x.deep=true/\x.on=true
 | [],_,_,_,h=>by cases h
 | (false,_)::ds,k,e,x,h=>zh5 ds (k+1) e x h
 | (true,.one t)::ds,k,e,x,h=>zq0 k [t] 0 _ (λe x hx=>zh5 ds (k+1) e x hx) e x h
 | (true,.agg ts)::ds,k,e,x,h=>zq0 k ts 0 _ (λe x hx=>zh5 ds (k+1) e x hx) e x h
theorem qeg {w:World}{l:List AF}{bx:Bxs}{bs:Nat->Nat}{bvs:List (List Value)}{dvs:List Value}{fp tp:List Nat}{A:Nat->Prop}{N:Nat}(hinj:∀i j,i<bx.length->j<bx.length->bs i=bs j->i=j)(hbf:∀j,j<bx.length->bs j∉fp)(hbx:qcy w bs 0 bvs bx)
  (hv:za5 w (λk=>(k<w.heap.size/\k∉fp/\∀j,j<bx.length->k≠bs j)/\A k) (AF.ds l++bxA bx.flatten) (dvs++bvs.flatten) fp tp) (hn:fp.Nodup) (hl:dvs.length=(AF.ds l).length) (hj:AF.okJ bx.length l=true) (hN:l.length<=N) (hN2:N<=1000000) (hs:zcj (AF.ds l++bxA bx.flatten)) (hfs:gFS (AF.ds l++bxA bx.flatten)=true)
  {ξ:Nat->Value} (h1:∀i,i<1000000->ξ i=undef) (h2:∀i b,ξ i≠.bool b) (h3:∀j,j<bx.length->ξ (1000000+j)=qlo (bs j)) :
  ∃g,(g.A0,g.R0)=(λb=>A b\/w.heap.size<=b\/b∈fp\/∃j,j<bx.length/\b=bs j,⟨λb=>b∈fp\/w.heap.size<=b\/∃j,j<bx.length/\b=bs j,ξ,h1,h2⟩) ∧
   Rel (λb=>b<w.heap.size/\b∉fp/\∀j,j<bx.length->b≠bs j) N (zj1 l bx) g { tmps:=(⟨AF.vals bs l dvs⟩:Array Value)++Array.replicate (N-(AF.vals bs l dvs).length) undef,defers:=[] } w:=by
 have hv':za5 w (λb=>b<w.heap.size/\(A b/\∀j,j<bx.length->b≠bs j)/\b∉fp) (AF.ds l++bxA bx.flatten) (dvs++bvs.flatten) fp tp:=za5.keepA (λb hb=>⟨hb.1.1,⟨hb.2,hb.1.2.2⟩,hb.1.2.1⟩) hv
 obtain⟨g,hg,hR⟩:=Rel.start (N:=(AF.ds l++bxA bx.flatten).length) (A0:=λb=>A b\/w.heap.size<=b\/b∈fp\/∃j,j<bx.length/\b=bs j) (R0:=⟨λb=>b∈fp\/w.heap.size<=b\/∃j,j<bx.length/\b=bs j,ξ,h1,h2⟩) hv' hn hs (Qz _) (λb hb=>Or.inl hb.1) (λb hb=>⟨Or.inr (Or.inr (Or.inl hb)),Or.inl hb⟩) (λb hb=>by
  by_cases hlt:b<w.heap.size
  ·have hm:b∈fp:=Classical.byContradiction λh=>hb ⟨hlt,h⟩;exact⟨Or.inr (Or.inr (Or.inl hm)),Or.inl hm⟩
  ·exact⟨Or.inr (Or.inl Y0),Or.inr (Or.inl Y0)⟩)
 have hg1:g.A0=_:=(K7 hg).1
 have hg2:g.R0=_:=(K7 hg).2
 refine⟨{ g with β:=λk=>bs (k-1000000) },hg,?_⟩
 have hlen:(dvs++bvs.flatten).length=(AF.ds l++bxA bx.flatten).length:=za5.len hv
 have hbne:∀b,(zj1 l bx).bx b≠none↔∃q,q<bx.length/\b=1000000+q:=λb=>by
  have:=zt8 bx 0 (AF.ds l).length b;simp only[Q7]at this;exact this
 have hblt:∀q,q<bx.length->bs q<w.heap.size:=λq hq=>by have:=hbx.lt q hq;rwa [Q7]at this
 have hdeep:∀e x,(zj1 l bx).ev e=some x->x.deep=true/\x.on=true:=λe x hx=>zh5 _ _ e x hx
 have hφ:∀e,(zj1 l bx).On e->∀b∈g.φ e,¬(b<w.heap.size/\b∉fp):=λe he b hb=>hR.etop e he b hb
 have hfree:∀b,((b<w.heap.size/\b∉fp/\∀j,j<bx.length->b≠bs j)/\A b)->zch (zj1 l bx) { g with β:=λk=>bs (k-1000000) } w b:=λb hb=>by
  refine⟨⟨λk hk=>?_,λe x hx ho hh=>hφ e ⟨x,hx,ho⟩ b (List.mem_of_mem_head? hh) ⟨hb.1.1,hb.1.2.1⟩,hb.1.1,?_⟩,λe he hm=>hφ e he b hm ⟨hb.1.1,hb.1.2.1⟩⟩
  ·obtain⟨q,hq,rfl⟩:=(hbne k).1 hk;show bs (1000000+q-1000000)≠b
   rw[show 1000000+q-1000000=q by omega];exact λe=>hb.1.2.2 q hq e.symm
  ·show g.A0 b
   rw[hg1];exact Or.inl hb.2
 have hat:∀(i:Nat) d v,(AF.ds l++bxA bx.flatten)[i]?=some d->(dvs++bvs.flatten)[i]?=some v->VR (zj1 l bx) { g with β:=λk=>bs (k-1000000) } w (gVN i d) v:=λi d v hd hv1=>by
  obtain⟨b,d⟩:=d;cases b with
  | false =>
   obtain⟨u,e1,e2⟩:=za5.atR hv i d hd;rw[e1]at hv1;cases hv1;exact zsw hfree e2
  | true =>
   have h0:=hR.slots i;have hj0:=ziq (AF.ds l++bxA bx.flatten) 0 i;rw[Q7,hd]at hj0;have h0':VR (zeq (AF.ds l++bxA bx.flatten)) g w (zil 0 (AF.ds l++bxA bx.flatten) i) _:=h0;rw[hj0]at h0';have hlt:i<(dvs++bvs.flatten).length:=(List.getElem?_eq_some_iff.1 hv1).1;have e:((⟨dvs++bvs.flatten⟩:Array Value)++Array.replicate ((AF.ds l++bxA bx.flatten).length-(dvs++bvs.flatten).length) undef).getD i (g.R0.ξ i)=v:=by
    rw[Array.getD_eq_getD_getElem?,Array.getElem?_append_left (by simpa using hlt)];simp only[List.getElem?_toArray,hv1,Kq]
   rw[e]at h0';have hf:=zyr hfs i d hd;cases d with
   | one t=>exact zyq (σ:=zeq (AF.ds l++bxA bx.flatten)) (σ':=zj1 l bx) (g:=g) (g':={ g with β:=λk=>bs (k-1000000) }) rfl rfl hf h0'
   | agg ts=>obtain⟨a,e1,e2⟩:=h0';exact⟨a,e1,ztq (σ:=zeq (AF.ds l++bxA bx.flatten)) (σ':=zj1 l bx) (g:=g) (g':={ g with β:=λk=>bs (k-1000000) }) rfl rfl hf e2⟩
 have hvl:=AF.vals_len bs l dvs hl
 refine⟨rfl,by simp;omega,λb hb=>?_,λi=>?_,λb cs hb=>?_,λb hb=>?_,λb b' hb hb' he=>?_,λe x he ho=>?_,λe x he ho=>?_,hR.slc,λe he b hb=>?_,λe he b hb=>?_,λe he=>hR.nodup e he,λe e' h1 h2 hne=>hR.apart e e' h1 h2 hne,λe k he hk hm=>?_⟩
 ·show g.A0 b/\g.R0 b
  rw[hg1,hg2];show(A b\/_)/\(b∈fp\/_)
  by_cases hlt:b<w.heap.size
  ·by_cases hm:b∈fp
   ·exact⟨Or.inr (Or.inr (Or.inl hm)),Or.inl hm⟩
   ·have:∃j,j<bx.length/\b=bs j:=Classical.byContradiction λhh=>hb ⟨hlt,hm,λj hj e=>hh ⟨j,hj,e⟩⟩;exact⟨Or.inr (Or.inr (Or.inr this)),Or.inr (Or.inr this)⟩
  ·exact⟨Or.inr (Or.inl Y0),Or.inr (Or.inl Y0)⟩
 ·show VR _ _ _ (zko 0 bx (zea 0 0 l) i) _
  rcases zt9 bx 0 (zea 0 0 l) i with⟨⟨q,h4,rfl⟩,h5⟩|⟨_,h5⟩
  ·rw[h5,Q7,Array.getD_eq_getD_getElem?,Array.getElem?_eq_none (by simp;omega)];refine⟨?_,(hbne _).2 ⟨q,h4,rfl⟩⟩;show(none:Option Value).getD (g.R0.ξ (1000000+q))=.pointer (some ⟨bs (1000000+q-1000000),0,none⟩)
   rw[hg2,show 1000000+q-1000000=q by omega];exact h3 q h4
  ·rw[h5];by_cases hi:i<l.length
   ·obtain⟨u,e1,e2⟩:=zis (σ:=zj1 l bx) (g:={ g with β:=λk=>bs (k-1000000) }) (w:=w) (bs:=bs) (n:=bx.length) (λj hj=>⟨(hbne _).2 ⟨j,hj,rfl⟩,by show bs (1000000+j-1000000)=bs j;rw[show 1000000+j-1000000=j by omega]⟩) l 0 0 dvs hj hl (λi d v e1 e2=>by
     rw[Q7]
     exact hat i d v (by rw[List.getElem?_append_left (List.getElem?_eq_some_iff.1 e1).1];exact e1) (by rw[List.getElem?_append_left (List.getElem?_eq_some_iff.1 e2).1];exact e2)) i hi
    rw[Q7]at e2;rw[Array.getD_eq_getD_getElem?,Array.getElem?_append_left (by simp;omega)];simp only[List.getElem?_toArray,e1,Kq];exact e2
   ·have:=zh0 l 0 0 i Y0;rw[Q7]at this;rw[this]
    trivial
 ·obtain⟨q,vs,ty,k1,k2,k3,k4⟩:=zuu (σ:=zj1 l bx) (g:={ g with β:=λk=>bs (k-1000000) }) bx bvs 0 (AF.ds l).length hbx (λi p v e1 e2=>by
   have:=hat ((AF.ds l).length+i) (p.1,.one p.2) v (by rw[List.getElem?_append_right Y0,show(AF.ds l).length+i-(AF.ds l).length=i by omega];unfold bxA;rw[List.getElem?_map,e1];rfl) (by rw[List.getElem?_append_right Y0,show(AF.ds l).length+i-dvs.length=i by omega];exact e2);rw[qt4]at this
   exact this) b cs hb
  rw[Q7]at k2 k3;subst k2;exact⟨⟨vs⟩,ty,by show w.heap[bs (1000000+q-1000000)]?=_;rw[show 1000000+q-1000000=q by omega];exact k3,k4⟩
 ·obtain⟨q,hq,rfl⟩:=(hbne b).1 hb;intro h;have h:=h.2.2 q hq;exact h (show bs (1000000+q-1000000)=bs q by rw[show 1000000+q-1000000=q by omega])
 ·obtain⟨q,hq,rfl⟩:=(hbne b).1 hb;obtain⟨q',hq',rfl⟩:=(hbne b').1 hb';have he:bs (1000000+q-1000000)=bs (1000000+q'-1000000):=he;rw[show 1000000+q-1000000=q by omega,show 1000000+q'-1000000=q' by omega]at he;rw[hinj q q' hq hq' he]
 ·obtain⟨ao,cap,e1,e2,e3,e4⟩:=hR.evs e x he ho;refine⟨ao,cap,e1,e2,e3,?_⟩;rcases e4 with e4|⟨b,cells,ty,fps,j1,j2,j3,j4,j5⟩
  ·exact Or.inl e4
  ·rw[if_pos (hdeep e x he).1]at j5;exact Or.inr ⟨b,cells,ty,fps,j1,j2,j3,j4,by rw[if_pos (hdeep e x he).1];exact j5⟩
 ·rw[(hdeep e x he).2]at ho;cases ho
 ·exact hR.ebase e he b hb
 ·exact λh=>hφ e he b hb ⟨h.1,h.2.1⟩
 ·obtain⟨q,hq,rfl⟩:=(hbne k).1 hk;have hm:bs (1000000+q-1000000)∈g.φ e:=hm;rw[show 1000000+q-1000000=q by omega]at hm;exact hφ e he _ hm ⟨hblt q hq,hbf q hq⟩
def bxE (σ:St):Nat->Bxs->(List V->Prop)->Prop
 | _,[],K=>K []
 | j,b::bs,K=>σ.sl (1000000+j)=.one (.bx (1000000+j) 0)/\zav (σ.bx (1000000+j)) λcs=>cs.length=b.length/\bxE σ (j+1) bs λvs=>K (cs.map .one++vs)
theorem CRs.ones {σ:St}{g:Gh}{w:World}:∀{cs:List C}{vs:List Value},CRs σ g w cs vs->VRl σ g w (cs.map .one) vs
 | [],_,h=>h
 | c::cs,_,h=>by obtain⟨v,vs',rfl,h1,h2⟩:=h;exact⟨v,vs',rfl,h1,CRs.ones h2⟩
theorem zuk {n0:Nat->Prop}{N:Nat}{σ:St}{g:Gh}{a:Act}{w:World}{bs:Nat->Nat}(hR:Rel n0 N σ g a w)(hN:N<=1000000):∀{bx:Bxs}{j:Nat}{K:List V->Prop},(∀q,q<bx.length->g.R0.ξ (1000000+(j+q))=qlo (bs (j+q)))->bxE σ j bx K →
  ∃vs bvs,K vs/\qcy w bs j bvs bx/\VRl σ g w vs bvs.flatten/\∀q,q<bx.length->σ.bx (1000000+(j+q))≠none/\g.β (1000000+(j+q))=bs (j+q)
 | [],j,K,_,h=>⟨[],[],h,trivial,rfl,λq hq=>by simp at hq⟩
 | b::bx,j,K,hξ,h=>by
  obtain⟨h1,h2⟩:=h;obtain⟨cs,h3,h4,h5⟩:=zap h2;obtain⟨vs,bvs,k1,k2,k3,k4⟩:=zuk hR hN (bx:=bx) (j:=j+1) (λq hq=>by have:=hξ (q+1) (by simpa using hq);rw[show j+(q+1)=j+1+q by omega]at this;exact this) h5;have h0:=hR.slots (1000000+j);rw[h1,Array.getD_eq_getD_getElem?,Array.getElem?_eq_none (by rw[hR.size];omega)]at h0;have hx:=hξ 0 (by simp);rw[Yo]at hx;have h0:CR σ g w (.bx (1000000+j) 0) (g.R0.ξ (1000000+j)):=h0;rw[hx]at h0;have hβ:g.β (1000000+j)=bs j:=by
   have:=h0.1;unfold qlo at this;simp only[Value.pointer.injEq,Qe]at this;injection this with e
   exact e.symm
  obtain⟨us,ty,j1,j2⟩:=hR.boxes _ cs h3;rw[hβ]at j1;refine⟨_,us.toList::bvs,k1,⟨by rw[j2.len,h4],⟨ty,j1⟩,k2⟩,VRl.append j2.ones k3,λq hq=>?_⟩;cases q with
  | zero=>exact⟨h0.2,hβ⟩
  | succ q=>rw[show j+(q+1)=j+1+q by omega];exact k4 q (by simpa using hq)
def PB0 (P:Program)(rs:List ResultVar)(res:List (Bool×D))(bx:Bxs)(pl:List (Nat×Nat×Nat))(σ:St):Prop:=zav (zb5 P σ rs) λvs=>bxE σ 0 bx λcs=>gvA σ (λ_=>True) [] pl (vs++cs) (res++bxA bx.flatten)
def PB (P:Program)(rs:List ResultVar)(res:List (Bool×D))(bx:Bxs)(e:Exit)(σ:St):Prop:=match e with
 | .normal=>PB0 P rs res bx [] σ\/∃pl,PB0 P rs res bx pl σ
 | .ret=>PB0 P rs res bx [] σ\/∃pl,PB0 P rs res bx pl σ
 | _=>False
theorem zl2 {σ:St}:∀{rs:List ResultVar}{vs:List V},zb5 P σ rs=some vs->vs.length=rs.length
 | [],vs,h=>by cases h;rfl
 | r::rs,vs,h=>by
  unfold zb5 at h;cases h1:qbm P σ r with
  | none=>rw[h1]at h;cases h
  | some v =>
   rw[h1]at h;simp only[Kj]at h;cases h2:zb5 P σ rs with
   | none=>rw[h2]at h;cases h
   | some us=>rw[h2]at h;cases h;simp[zl2 h2]
theorem VRl.len {σ:St}{g:Gh}{w:World}:∀{xs:List V}{vs:List Value},VRl σ g w xs vs->vs.length=xs.length
 | [],_,h=>by rw[show _=[] from h];rfl
 | x::xs,_,h=>by obtain⟨v,vs',rfl,_,h2⟩:=h;simp[VRl.len h2]
theorem PC_of {f:FuncId}{fn:Func}{c:Code}{bx bx':Bxs}{l:List AF}{res:List (Bool×D)}(hc:zbl P f)(hf:P.funcs[f]?=some fn)(hb:fn.body=some c)(hd:zdf fn.ntmps c=true)(hN:l.length<=fn.ntmps)(hN2:fn.ntmps<=1000000)(hbl:bx'.length=bx.length)(hj:AF.okJ bx.length l=true)(hs:zcj (AF.ds l++bxA bx.flatten))(hfs:gFS (AF.ds l++bxA bx.flatten)=true)(hrl:fn.results.toList.length=res.length)
  (h:ex P c [] (PB P fn.results.toList res bx') (zj1 l bx)):PC P f bx l bx' res:=by
 refine⟨hc,hbl,λw bs bvs dvs fp tp A hinj hbf hbx hv hn hl=>?_⟩
 refine calls_of_wp hf hb ?_
 obtain⟨g,hg,hR⟩:=qeg (N:=fn.ntmps) hinj hbf hbx hv hn hl hj hN hN2 hs hfs (ξ:=λi=>if 1000000<=i then qlo (bs (i-1000000))else undef) (λi hi=>if_neg Y0) (λi b=>by
  by_cases h:1000000<=i
  ·rw[if_pos h];exact λe=>by cases e
  ·rw[if_neg h];exact λe=>by cases e) (λj hj=>by
  rw[if_pos Y0,show 1000000+j-1000000=j by omega])
 refine wp_mono (zb0 (w0:=w) c (zj1 l bx) _ hd h g _ w hR (λk hk=>hk.1) (Bk.refl _ _) hg) λe a' w' hq=>?_
 obtain⟨σ',g',h1,h2,h3,h4,h5⟩:=hq
 have hξ:∀q,q<bx'.length->g'.R0.ξ (1000000+(0+q))=qlo (bs (0+q)):=λq hq=>by
  rw[(K7 h5).2,Q7];show(if 1000000<=1000000+q then qlo (bs (1000000+q-1000000))else undef)=_
  rw[if_pos Y0,show 1000000+q-1000000=q by omega]
 have key:(∃pl,PB0 P fn.results.toList res bx' pl σ')->∃v,(results fn a'.tmps).run P w'=.ok v w'/\∃us bvs' fp' tp',Ending.returned v=.returned (zc4 us)/\qcy w' bs 0 bvs' bx'/\us.length=res.length ∧
   za5 w' (λk=>(k<w'.heap.size/\k∉fp'/\∀j,j<bx.length->k≠bs j)/\(A k\/w.heap.size<=k\/k∈fp)) (res++bxA bx'.flatten) (us++bvs'.flatten) fp' tp'/\fp'.Nodup/\(∀b∈fp',b∈fp\/w.heap.size<=b)/\Bk (λk=>k<w.heap.size/\k∉fp/\∀j,j<bx.length->k≠bs j) w w':=by
  rintro⟨pl,hk⟩;obtain⟨vs,hvs,hk⟩:=zap hk;obtain⟨us,r1,r2⟩:=zcg h2 fn hvs;obtain⟨cs,bvs',k0,b1,b2,b3⟩:=zuk (bs:=bs) h2 hN2 hξ hk;obtain⟨B,hB⟩:=h2.fam;obtain⟨s,k1,⟨tp',k2⟩,k3,k4⟩:=zhr h2 hB k0 (VRl.append r2 b2);rw[Ko]at k4;have hsp:s.Pairwise okP:=(Ye.1 (k4 List.Pairwise.nil)).imp λh=>h.symm;have hin:∀b∈bks B s,∃e,σ'.On e/\b∈g'.φ e:=λb hb=>by
   obtain⟨x,hx,hm⟩:=J2.1 hb;exact⟨x.1,k3 x hx,hB.sub x.1 x.2 b (k3 x hx) hm⟩
  have hbβ:∀j,j<bx.length->σ'.bx (1000000+j)≠none/\g'.β (1000000+j)=bs j:=λj hj=>by
   have:=b3 j Y0
   rwa [Q7]at this
  have hA:∀b,zch σ' g' w' b->(b<w'.heap.size/\b∉bks B s/\∀j,j<bx.length->b≠bs j)/\(A b\/w.heap.size<=b\/b∈fp):=λb hb=>by
   have hnb:∀j,j<bx.length->b≠bs j:=λj hj e=>hb.1.1 _ (hbβ j hj).1 (by rw[(hbβ j hj).2,e]);refine⟨⟨hb.1.2.2.1,λhm=>?_,hnb⟩,?_⟩
   ·obtain⟨e,ho,hm⟩:=hin b hm;exact hb.2 e ho hm
   ·have h0:=hb.1.2.2.2;rw[(K7 h5).1]at h0;rcases h0 with h0|h0|h0|⟨j,hj,h0⟩
    ·exact Or.inl h0
    ·exact Or.inr (Or.inl h0)
    ·exact Or.inr (Or.inr h0)
    ·exact absurd h0 (hnb j hj)
  refine⟨_,r1,us,bvs',bks B s,tp',rfl,b1,by rw[r2.len,<-hrl];exact zl2 hvs,za5.keepA hA k2,zf4 h2 hB k3 hsp,λb hb=>?_,h4⟩;obtain⟨e,ho,hm⟩:=hin b hb;have h0:=(h2.ebase e ho b hm).2;rw[(K7 h5).2]at h0;rcases h0 with h0|h0|⟨j,hj,h0⟩
  ·exact Or.inl h0
  ·exact Or.inr h0
  ·have:=h2.ebx e _ ho (hbβ j hj).1;rw[(hbβ j hj).2]at this;exact absurd (h0▸hm) this
 have key':∀{Y:Prop},(PB0 P fn.results.toList res bx' [] σ'\/∃pl,PB0 P fn.results.toList res bx' pl σ')->((∃pl,PB0 P fn.results.toList res bx' pl σ')->Y)->Y:=λh k=>h.elim (λh=>k ⟨[],h⟩) k
 cases e with
 | normal=>exact⟨h2.defers,key' h1 key⟩
 | ret=>exact⟨h2.defers,key' h1 key⟩
 | exit _=>exact h1.elim
 | goto _=>exact h1.elim
 | panic _=>exact h1.elim
 | outgrown=>exact h1.elim
end
section
open Go.RowKit
variable {P:Program}
def mtK (W:List Nat):List AF->List V->(List V->Prop)->Prop
 | [],[],K=>K []
 | .d _ _::l,v::vs,K=>mtK W l vs λu=>K (v::u)
 | .p j::l,.one (.bx b o)::vs,K=>W[j]?=some b/\o=0/\mtK W l vs K
 | .fn g js::l,.one (.fn g' bs)::vs,K=>g'=g/\js.map (λj=>W[j]?)=bs.map some/\mtK W l vs K
 | _,_,_=>False
theorem qgu {g:Gh}{W:List Nat}{bs:Nat->Nat}(hb:∀j b,W[j]?=some b->bs j=g.β b):∀(js bs':List Nat),js.map (λj=>W[j]?)=bs'.map some->bs'.map (λb=>Value.pointer (some ⟨g.β b,0,none⟩))=js.map λj=>qlo (bs j)
 | [],[],_=>rfl
 | [],_::_,e=>by cases e
 | _::_,[],e=>by cases e
 | j::js,b::bs',e=>by
  simp only[Qc,List.cons.injEq]at e;rw[Qc,Qc,qgu hb js bs' e.2,hb j b e.1];rfl
theorem ziw {σ:St}{g:Gh}{w:World}{W:List Nat}{bs:Nat->Nat}(hb:∀j b,W[j]?=some b->bs j=g.β b):∀{l:List AF}{xs:List V}{K:List V->Prop}{vs:List Value},mtK W l xs K->VRl σ g w xs vs →
  ∃us dvs,K us/\VRl σ g w us dvs/\dvs.length=(AF.ds l).length/\vs=AF.vals bs l dvs
 | [],[],K,vs,h,hv=>⟨[],[],h,rfl,rfl,hv⟩
 | .d _ _::l,x::xs,K,vs,h,hv=>by
  obtain⟨v,vs',rfl,h1,h2⟩:=hv;obtain⟨us,dvs,k1,k2,k3,k4⟩:=ziw hb (l:=l) h h2;exact⟨x::us,v::dvs,k1,⟨v,dvs,rfl,h1,k2⟩,by simp[AF.ds,k3],by rw[k4];rfl⟩
 | .p j::l,.one (.bx b o)::xs,K,vs,h,hv=>by
  obtain⟨v,vs',rfl,h1,h2⟩:=hv;obtain⟨e1,rfl,h⟩:=h;obtain⟨us,dvs,k1,k2,k3,k4⟩:=ziw hb (l:=l) h h2;refine⟨us,dvs,k1,k2,k3,?_⟩;have h1:CR σ g w (.bx b 0) v:=h1;rw[k4,h1.1,<-hb j b e1];rfl
 | .fn f js::l,.one (.fn f' bs')::xs,K,vs,h,hv=>by
  obtain⟨v,vs',rfl,h1,h2⟩:=hv;obtain⟨rfl,e1,h⟩:=h;obtain⟨us,dvs,k1,k2,k3,k4⟩:=ziw hb (l:=l) h h2;refine⟨us,dvs,k1,k2,k3,?_⟩;have h1:CR σ g w (.fn f' bs') v:=h1;rw[k4,h1.1];rw[qgu hb js bs' e1];rfl
 | .d _ _::_,[],_,_,h,_=>h.elim
 | .p _::_,[],_,_,h,_=>h.elim
 | .fn _ _::_,[],_,_,h,_=>h.elim
 | [],_::_,_,_,h,_=>h.elim
 | .p _::_,.agg _::_,_,_,h,_=>h.elim
 | .p _::_,.tup _::_,_,_,h,_=>h.elim
 | .fn _ _::_,.agg _::_,_,_,h,_=>h.elim
 | .fn _ _::_,.tup _::_,_,_,h,_=>h.elim
 | .p _::_,.one (.t _)::_,_,_,h,_=>h.elim
 | .p _::_,.one (.nl _)::_,_,_,h,_=>h.elim
 | .p _::_,.one (.ow _ _)::_,_,_,h,_=>h.elim
 | .p _::_,.one (.el _ _)::_,_,_,h,_=>h.elim
 | .p _::_,.one (.eo _ _ _ _ _)::_,_,_,h,_=>h.elim
 | .p _::_,.one (.fn _ _)::_,_,_,h,_=>h.elim
 | .p _::_,.one (.cv _)::_,_,_,h,_=>h.elim
 | .p _::_,.one .any::_,_,_,h,_=>h.elim
 | .p _::_,.one (.rn _)::_,_,_,h,_=>h.elim
 | .p _::_,.one (.er _ _)::_,_,_,h,_=>h.elim
 | .fn _ _::_,.one (.t _)::_,_,_,h,_=>h.elim
 | .fn _ _::_,.one (.nl _)::_,_,_,h,_=>h.elim
 | .fn _ _::_,.one (.ow _ _)::_,_,_,h,_=>h.elim
 | .fn _ _::_,.one (.el _ _)::_,_,_,h,_=>h.elim
 | .fn _ _::_,.one (.eo _ _ _ _ _)::_,_,_,h,_=>h.elim
 | .fn _ _::_,.one (.bx _ _)::_,_,_,h,_=>h.elim
 | .fn _ _::_,.one (.cv _)::_,_,_,h,_=>h.elim
 | .fn _ _::_,.one .any::_,_,_,h,_=>h.elim
 | .fn _ _::_,.one (.rn _)::_,_,_,h,_=>h.elim
 | .fn _ _::_,.one (.er _ _)::_,_,_,h,_=>h.elim
def qrt (σ:St):List Nat->Bxs->(List V->Prop)->Prop
 | [],[],K=>K []
 | k::W,b::bx,K=>zav (σ.bx k) λcs=>cs.length=b.length/\qrt σ W bx λl=>K (cs.map .one++l)
 | _,_,_=>False
theorem zpr {n0:Nat->Prop}{N:Nat}{σ:St}{g:Gh}{a:Act}{w:World}(hR:Rel n0 N σ g a w){bs:Nat->Nat}:∀{W:List Nat}{bx:Bxs}{j:Nat}{K:List V->Prop},(∀i b,W[i]?=some b->bs (j+i)=g.β b)->qrt σ W bx K →
  ∃l bvs,K l/\VRl σ g w l bvs.flatten/\qcy w bs j bvs bx/\W.length=bx.length/\∀b∈W,σ.bx b≠none
 | [],[],j,K,_,h=>⟨[],[],h,rfl,trivial,rfl,λb hb=>by simp at hb⟩
 | k::W,b::bx,j,K,hb,h=>by
  obtain⟨cs,h1,h2,h3⟩:=zap h;obtain⟨l,bvs,k1,k2,k3,k4,k5⟩:=zpr hR (W:=W) (bx:=bx) (j:=j+1) (λi b hi=>by have:=hb (i+1) b (by simpa using hi);rw[show j+(i+1)=j+1+i by omega]at this;exact this) h3;obtain⟨us,ty,j1,j2⟩:=hR.boxes k cs h1;have hk:=hb 0 k rfl;rw[Yo]at hk;refine⟨_,us.toList::bvs,k1,VRl.append j2.ones k2,⟨by rw[j2.len,h2],⟨ty,by rw[hk];exact j1⟩,k3⟩,by simp[k4],λx hx=>?_⟩;rcases Qu.1 hx with rfl|hx
  ·rw[h1];simp
  ·exact k5 x hx
 | [],_::_,_,_,_,h=>h.elim
 | _::_,[],_,_,_,h=>h.elim
theorem qot {W:List Nat}:∀{l:List AF}{xs:List V}{K K':List V->Prop},(∀u,K u->K' u)->mtK W l xs K->mtK W l xs K':=fun {l}=>by
 induction l with
 | nil=>intro xs K K' hK h;cases xs with
  | nil=>exact hK _ h
  | cons _ _=>exact h.elim
 | cons a l ih=>intro xs K K' hK h;cases xs with
  | nil=>cases a<;>exact h.elim
  | cons x xs =>
   cases a with
   | d b y=>exact ih (λu=>hK _) h
   | p j =>
    cases x with
    | one c=>cases c<;>first|exact h.elim|exact⟨h.1,h.2.1,ih hK h.2.2⟩
    | agg _=>exact h.elim
    | tup _=>exact h.elim
   | fn g js =>
    cases x with
    | one c=>cases c<;>first|exact h.elim|exact⟨h.1,h.2.1,ih hK h.2.2⟩
    | agg _=>exact h.elim
    | tup _=>exact h.elim
def zp2 (d:Nat):Nat->List Nat->Bxs->(Nat->Option (List C))->(Nat->Option (List C))
 | m,k::W,b::bx,f=>upd (zp2 d (m+b.length) W bx f) k (some (mC d m b))
 | _,_,_,f=>f
theorem zq9 (d:Nat):∀(W:List Nat)(bx:Bxs)(m:Nat)(f:Nat->Option (List C))(b:Nat),b∉W->zp2 d m W bx f b=f b
 | [],_,_,_,_,_=>by unfold zp2;rfl
 | k::W,[],_,_,_,_=>by unfold zp2;rfl
 | k::W,c::bx,m,f,b,hb=>by
  unfold zp2;rw[zan _ _ (λe=>hb (by simp[e]))];exact zq9 d W bx _ f b λh=>hb (by simp[h])
theorem qjc (d:Nat):∀(W:List Nat)(bx:Bxs)(m:Nat)(f:Nat->Option (List C))(b:Nat),W.length=bx.length->b∈W->zp2 d m W bx f b≠none
 | [],_,_,_,_,_,hb=>by simp at hb
 | k::W,[],_,_,_,hl,_=>by simp at hl
 | k::W,c::bx,m,f,b,hl,hb=>by
  unfold zp2;by_cases h:b=k
  ·subst h;rw[zaf];simp
  ·rw[zan _ _ h];exact qjc d W bx _ f b (by simpa using hl) ((Qu.1 hb).resolve_left h)
theorem zpi {σ:St}{g:Gh}{w:World}{bs:Nat->Nat}(d:Nat){β:Nat->Nat}:∀(W:List Nat)(bx:Bxs)(bvs:List (List Value))(j m:Nat)(f:Nat->Option (List C)),(∀i b,W[i]?=some b->bs (j+i)=β b)->qcy w bs j bvs bx->CRs σ g w (mC d m bx.flatten) bvs.flatten->W.length=bx.length →
  ∀b∈W,∀cs,zp2 d m W bx f b=some cs->∃vs ty,w.heap[β b]?=some (.cells vs ty (0,0))/\CRs σ g w cs vs.toList
 | [],_,_,_,_,_,_,_,_,_,b,hb,_,_=>by simp at hb
 | k::W,[],_,_,_,_,_,_,_,hl,_,_,_,_=>by simp at hl
 | k::W,c::bx,[],_,_,_,_,h0,_,_,_,_,_,_=>h0.elim
 | k::W,c::bx,vs::bvs,j,m,f,hβ,h0,hc,hl,b,hb,cs,hs=>by
  obtain⟨h1,⟨ty,h2⟩,h3⟩:=h0;rw[Ki,Ki,zg4]at hc;obtain⟨v1,v2,e,c1,c2⟩:=hc.split;obtain⟨e1,e2⟩:=Yt e (by rw[c1.len,zt5,h1]);subst e1 e2;unfold zp2 at hs;by_cases h:b=k
  ·subst h;rw[zaf]at hs;cases hs;have:=hβ 0 b rfl;rw[Yo]at this;exact⟨⟨vs⟩,ty,by rw[<-this];exact h2,c1⟩
  ·rw[zan _ _ h]at hs;exact zpi d W bx bvs (j+1) (m+c.length) f (λi b hi=>by have:=hβ (i+1) b (by simpa using hi);rw[show j+(i+1)=j+1+i by omega]at this;exact this) h3 c2 (by simpa using hl) b ((Qu.1 hb).resolve_left h) cs hs
theorem CRs.split_flat {σ:St}{g:Gh}{w w':World}{A:Nat->Prop}{d m:Nat}{l:List (Bool×T)}{c:Bxs}{us vs:List Value}(h:CRs σ g w (mC d 0 (l++c.flatten)) (us++vs))(hl:us.length=l.length):CRs σ g w (mC d 0 l) us/\CRs σ g w (mC d l.length c.flatten) vs:=by
 rw[zg4]at h
 obtain⟨v1,v2,e,c1,c2⟩:=h.split
 obtain⟨e1,e2⟩:=Yt e (by rw[c1.len,zt5,hl])
 subst e1 e2
 rw[Q7]at c2
 exact⟨c1,c2⟩
theorem za5.one_vals {w:World}{A:Nat->Prop}:∀{ds:List (Bool×D)}{vs:List Value}{fp tp:List Nat},za5 w A ds vs fp tp->(vs.flatMap λu=>u.cells.toList).length=(zcl ds).length:=fun {ds vs fp tp} h=>by
 obtain⟨tp',h'⟩:=h.flat
 rw[za5.len h']
 unfold bxA
 rw[Qa]
end
section
open Go.RowKit
variable {P:Program}
def mkZ (P:Program)(t:TypeId):List (List C):=match (elT P t).bind (zdu P)with
 | some z=>[z]
 | none=>[]
def mkEv (d:Nat):Option (Prop×Ev)->List (Nat×Ev)
 | some (_,y)=>[(d*32,y)]
 | none=>[]
theorem qtd {σ σ1:St}{t:TypeId}{l c:Operand}(h:∀k∈zas [l,c]++rK (mkZ P t),za8 σ σ1 k):mkD P σ1 t l c=mkD P σ t l c:=by
 have e1:σ1.get P 0 l=σ.get P 0 l:=zca (l:=[l,c]) (λk hk=>h k (by simp[hk])) (by simp) 0
 have e2:σ1.get P 0 c=σ.get P 0 c:=zca (l:=[l,c]) (λk hk=>h k (by simp[hk])) (by simp) 0
 unfold mkD
 rw[e1,e2]
 unfold mkZ at h
 cases hel:elT P t with
 | none=>rfl
 | some el =>
  simp only[Kj];rw[hel]at h;cases hz:zdu P el with
  | none=>simp only[Option.bind_none]
  | some z =>
   rw[Kj,hz]at h;have e3:zux σ1 z=zux σ z:=zlm λk hk=>h k (by simp[rK,hk]);simp only[Kj,e3]
section
variable {ks:List Fr}{Q:Exit->St->Prop}{σ:St}{ops:Array Oper}{os:List Oper}{L:List (List Ky×List Ky)}{ty:TypeId}{ps:String}{af:Array Edge}{d:Nat}{l c:Operand}{t:TypeId}
theorem dMakeD (h:zav (mkD P σ t l c) λr=>r.1/\σ.ev (d*32)=none)
  (k:exd P ops os (L++[(zas [l,c]++(rK (mkZ P t)++[(2,d*32)]),dK (some d)++eK (mkEv d (mkD P σ t l c)))]) ks Q ((σ.mk1 d (mkD P σ t l c)).put (some d) (.one (.ow (d*32) 0)))) :
  exd P ops (⟨some d,.makeSlice t l c,ty,ps,af,none⟩::os) L ks Q σ:=by
 obtain⟨⟨p,y⟩,h1,h2,h3⟩:=zap h
 rw[h1]at k
 have hloc:∀σ1,(∀k∈zas [l,c]++(rK (mkZ P t)++[(2,d*32)]),za8 σ σ1 k)->mkD P σ1 t l c=some (p,y)/\σ1.ev (d*32)=none:=λσ1 hs =>
  ⟨(qtd λk hk=>hs k (by simp only[Qw]at hk⊢;rcases hk with hk|hk<;>simp[hk])).trans h1,(Eq.symm (hs (2,d*32) (by simp))).trans h3⟩
 refine zgw rfl rfl ?_ k
 show zf1 P _ _ _ σ ((σ.apd (d*32) [] y).put (some d) _)
 rw[zc3]
 refine zf1.of (o:=⟨some d,_,ty,ps,af,none⟩) (l:=[(d*32,y)]) (zbf (zbh _) (zbf (zv0 _) rfl)) λσ1 hs=>?_
 obtain⟨h1,h3⟩:=hloc σ1 hs
 show zak P _ σ1 ((σ1.upE ((d*32,y)::zrp [])).put _ _)
 rw[<-zc3]
 unfold mkD at h1
 obtain⟨el,e1,h1⟩:=Qf.1 h1
 obtain⟨n,e2,h1⟩:=Qf.1 h1
 obtain⟨bts,e3,h1⟩:=Qf.1 h1
 obtain⟨z,e4,h1⟩:=Qf.1 h1
 obtain⟨⟨q1,q2⟩,e5,h1⟩:=Qf.1 h1
 split at h1
 ·rename_i kl a kc b hl hc;split at h1
  ·rename_i hh;obtain⟨k1,k2,k3⟩:=hh;have:q2=[]:=Kn k2;subst this;simp only[Qe,Qt]at h1;obtain⟨rfl,rfl⟩:=h1;exact qqv e1 e2 e3 e4 k1 e5 hl hc k3 h2.1 h2.2.1 h2.2.2 h3
  ·cases h1
 ·cases h1
end
def qci:Option (Nat×Ev×List (Nat×Ev))->List Ky
 | some (e,_,_)=>[(2,e)]
 | none=>[]
def stoW:Option (Nat×Ev×List (Nat×Ev))->List (Nat×Ev)
 | some (e,y,cons)=>(e,y)::zrp cons
 | none=>[]
theorem qok {σ σ1:St}{t:TypeId}{x y:Operand}(h:∀k∈zas [x,y]++(rK [(σ.get P t y).cells]++qci (zuw P σ t x y)),za8 σ σ1 k){r:Nat×Ev×List (Nat×Ev)}(hr:zuw P σ t x y=some r):zuw P σ1 t x y=some r:=by
 have e1:σ1.get P 0 x=σ.get P 0 x:=zca (l:=[x,y]) (λk hk=>h k (by simp[hk])) (by simp) 0
 have e2:σ1.get P t y=σ.get P t y:=zca (l:=[x,y]) (λk hk=>h k (by simp[hk])) (by simp) t
 have e3:zux σ1 (σ.get P t y).cells=zux σ (σ.get P t y).cells:=zlm λk hk=>h k (by simp[rK,hk])
 rw[hr]at h
 rw[<-hr]
 unfold zuw at hr⊢
 rw[e1,e2]
 split at hr
 ·rename_i e g sz i o hx;obtain⟨z,hz,hr⟩:=Qf.1 hr;obtain⟨n,hn,hr⟩:=Qf.1 hr;split at hr
  ·obtain⟨q,_,hr⟩:=Q5.1 hr;subst hr;have e4:σ1.ev e=σ.ev e:=Eq.symm (h (2,e) (by simp[qci]));simp only[e4,e3]
  ·cases hr
 ·cases hr
section
variable {ks:List Fr}{Q:Exit->St->Prop}{σ:St}{ops:Array Oper}{os:List Oper}{L:List (List Ky×List Ky)}{ty:TypeId}{ps:String}{af:Array Edge}{ds:Option Nat}{x y:Operand}{t:TypeId}
theorem qmd (r:Option (Nat×Ev×List (Nat×Ev))):okK (qci r)=true:=by
 cases r with
 | none=>rfl
 | some r=>rfl
theorem znr (h:zav (zuw P σ t x y) λr=>(r.2.2.map (·.1)).Nodup/\∀p∈r.2.2,p.1≠r.1)
  (k:exd P ops os (L++[(zas [x,y]++(rK [(σ.get P t y).cells]++qci (zuw P σ t x y)),dK ds++eK (stoW (zuw P σ t x y)))]) ks Q ((σ.apdO (zuw P σ t x y)).put ds (.one .any))):exdS P ops ⟨ds,.store t x y,ty,ps,af,none⟩ os L ks Q σ:=by
 obtain⟨⟨e,z,cons⟩,h1,h2,h3⟩:=zap h
 refine⟨_,_,_,?_,k⟩
 have hloc:∀σ1,(∀k∈zas [x,y]++(rK [(σ.get P t y).cells]++qci (zuw P σ t x y)),za8 σ σ1 k)->zuw P σ1 t x y=some (e,z,cons):=λσ1 hs=>qok hs h1
 rw[h1]
 show zf1 P _ _ (dK ds++eK ((e,z)::zrp cons)) σ ((σ.apd e cons z).put ds _)
 rw[zc3]
 rw[h1]at hloc
 refine zf1.of (o:=⟨ds,_,ty,ps,af,none⟩) (l:=(e,z)::zrp cons) (zbf (zbh _) (zbf (zv0 _) (qmd _))) λσ1 hs=>?_
 have hh:=hloc σ1 hs
 have hs2:=zzs (σ:=σ1) (ty:=ty) (ps:=ps) (af:=af) (ds:=ds) (x:=x) (y:=y) (t:=t) (P:=P) (by rw[hh];exact⟨h2,h3⟩)
 rw[hh]at hs2
 have hs2:zak P ⟨ds,.store t x y,ty,ps,af,none⟩ σ1 ((σ1.apd e cons z).put ds (.one .any)):=hs2
 rw[zc3]at hs2
 exact hs2
end
attribute [go_sem] mkZ mkEv qci stoW AF.ds c1P zyb zns zea zko zj1 bxE PB PB0 mtK qrt zp2 bxA List.flatten_cons List.flatten_nil
end
section
open Go.RowKit
variable {P:Program}
theorem Rel.afterB {W:List Nat}{bx':Nat->Option (List C)}{n0:Nat->Prop}{N:Nat}{σ:St}{g g':Gh}{a:Act}{w w':World}{ev':Nat->Option Ev}{F:List Nat}(h:Rel n0 N σ g a w)(hn0:LtK n0 w)(hb:Bk (λk=>k<w.heap.size/\∀b∈W,k≠g.β b) w w')(hdom:∀b,bx' b≠none↔σ.bx b≠none)(hsm:∀b,b∉W->bx' b=σ.bx b)(hWσ:∀b∈W,σ.bx b≠none)(hn:New σ g (w.heap.size<=·) w' ev' g' F)(hW:∀b∈W,∀cs,bx' b=some cs->∃vs ty,w'.heap[g.β b]?=some (.cells vs ty (0,0))/\CRs ⟨σ.sl,bx',ev'⟩ g' w' cs vs.toList):Rel n0 N ⟨σ.sl,bx',ev'⟩ g' a w':=by
 have hlt:∀e x,σ.ev e=none->ev' e=some x->∀b∈g'.φ e,w.heap.size<=b:=λe x h1 h2 b hbb=>((hn.new e x h1 h2).2.2.1 b hbb).1
 have hold:∀e,σ.On e->∀b∈g.φ e,b<w.heap.size:=λe he b hbb=>by
  obtain⟨x,hx,ho⟩:=he;exact(h.evs e x hx ho).lt b hbb
 have hon:∀e,St.On ⟨σ.sl,bx',ev'⟩ e->σ.ev e≠none->σ.On e:=λe he hee=>by
  obtain⟨x,hx,ho⟩:=he;exact⟨x,(hn.old e hee).1.symm.trans hx,ho⟩
 have hne:∀e,St.On ⟨σ.sl,bx',ev'⟩ e->∃x,ev' e=some x:=λe he=>⟨_,he.choose_spec.1⟩
 have m:Mv σ ⟨σ.sl,bx',ev'⟩ g g' w w':=by
  refine⟨λb hf=>hb.block b ⟨hf.2.2.1,λk hk e=>hf.1 k (hWσ k hk) e.symm⟩,λb hf=>⟨λk hk=>by rw[hn.β];exact hf.1 k ((hdom k).1 hk),λe x hx ho hh=>?_,Jp hf.2.2.1 hb.size,by rw[hn.A0];exact hf.2.2.2⟩,λb hbb=>⟨by rw[hn.β],(hdom b).2 hbb⟩,λe n he=>?_,λb hf e he hm=>?_⟩
  ·by_cases hee:σ.ev e=none
   ·have:=hlt e x hee hx b (List.mem_of_mem_head? hh);have:=hf.2.2.1;omega
   ·rw[(hn.old e hee).2.2]at hh;exact hf.2.1 e x ((hn.old e hee).1.symm.trans hx) ho hh
  ·obtain⟨x,hx,hg⟩:=he;have hee:σ.ev e≠none:=by rw[hx];simp
   exact⟨⟨x,(hn.old e hee).1.trans hx,hg⟩,by rw[(hn.old e hee).2.1]⟩
  ·by_cases hee:σ.ev e=none
   ·obtain⟨x,hx⟩:=hne e he;have:=hlt e x hee hx b hm;have:=hf.1.2.2.1;omega
   ·rw[(hn.old e hee).2.2]at hm;exact hf.2 e (hon e he hee) hm
 refine⟨h.defers,h.size,by rw[hn.A0,hn.R0];exact h.anew,λi=>by rw[hn.R0];exact m.vr (h.slots i),λb cs hbb=>?_,λb hbb=>by rw[hn.β];exact h.base b ((hdom b).1 hbb),λb b' h1 h2 h3=>by rw[hn.β]at h3;exact h.inj b b' ((hdom b).1 h1) ((hdom b').1 h2) h3,λe x he ho=>?_,λe x he ho=>?_,hn.slc,λe he b hbb=>?_,λe he b hbb=>?_,λe he=>?_,λe e' h1 h2 hne' b hb1 hb2=>?_,λe k he hk hm=>?_⟩
 ·by_cases hbW:b∈W
  ·rw[hn.β];exact hW b hbW cs hbb
  have hbb:bx' b=some cs:=hbb;rw[hsm b hbW]at hbb;obtain⟨vs,ty,k1,k2⟩:=h.boxes b cs hbb;have hne0:σ.bx b≠none:=by rw[hbb];simp
  exact⟨vs,ty,by rw[hn.β,hb.block _ ⟨h.lt hne0,λk hk e=>hbW (h.inj b k hne0 (hWσ k hk) e▸hk)⟩];exact k1,m.crs k2⟩
 ·by_cases hee:σ.ev e=none
  ·obtain⟨⟨k1,_,k0⟩,k2,k3,k4⟩:=hn.new e x hee he;rw[k0];unfold zba at k2;obtain⟨ao,cap,j1,j2,j3,j4⟩:=k2;refine⟨ao,cap,j1,j2,j3,?_⟩;rcases j4 with j4|⟨b,cells,ty,fps,j4,j5,j6,j7,j8⟩
   ·exact Or.inl j4
   ·exact Or.inr ⟨b,cells,ty,fps,j4,j5,j6,j7,by rw[if_pos k1];exact j8⟩
  ·have he':=he;simp only[(hn.old e hee).1]at he;rw[(hn.old e hee).2.1,(hn.old e hee).2.2];exact m.evr (h.evs e x he ho) λb hbb=>hb.block b ⟨hold e ⟨x,he,ho⟩ b hbb,λk hk e'=>h.ebx e k ⟨x,he,ho⟩ (hWσ k hk) (e'▸hbb)⟩
 ·by_cases hee:σ.ev e=none
  ·obtain⟨⟨_,k1,_⟩,_⟩:=hn.new e x hee he;rw[k1]at ho;cases ho
  ·simp only[(hn.old e hee).1]at he;rw[(hn.old e hee).2.1];exact⟨m.rep (h.offs e x he ho).1,(h.offs e x he ho).2⟩
 ·by_cases hee:σ.ev e=none
  ·obtain⟨x,hx⟩:=hne e he;rw[hn.A0,hn.R0];exact h.anew b (hn0.new (hlt e x hee hx b hbb))
  ·rw[(hn.old e hee).2.2]at hbb;rw[hn.A0,hn.R0];exact h.ebase e (hon e he hee) b hbb
 ·by_cases hee:σ.ev e=none
  ·obtain⟨x,hx⟩:=hne e he;exact hn0.new (hlt e x hee hx b hbb)
  ·rw[(hn.old e hee).2.2]at hbb;exact h.etop e (hon e he hee) b hbb
 ·by_cases hee:σ.ev e=none
  ·obtain⟨x,hx⟩:=hne e he;exact(hn.new e x hee hx).2.2.2
  ·rw[(hn.old e hee).2.2];exact h.nodup e (hon e he hee)
 ·obtain⟨x,hx⟩:=hne e h1;obtain⟨x',hx'⟩:=hne e' h2;by_cases e1:σ.ev e=none<;>by_cases e2:σ.ev e'=none
  ·exact hn.apart e e' e1 e2 (by rw[hx];simp) (by rw[hx'];simp) hne' b hb1 hb2
  ·rw[(hn.old e' e2).2.2]at hb2;have:=hlt e x e1 hx b hb1;have:=hold e' (hon e' h2 e2) b hb2;omega
  ·rw[(hn.old e e1).2.2]at hb1;have:=hlt e' x' e2 hx' b hb2;have:=hold e (hon e h1 e1) b hb1;omega
  ·rw[(hn.old e e1).2.2]at hb1;rw[(hn.old e' e2).2.2]at hb2;exact h.apart e e' (hon e h1 e1) (hon e' h2 e2) hne' b hb1 hb2
 ·rw[hn.β]at hm;by_cases hee:σ.ev e=none
  ·obtain⟨x,hx⟩:=hne e he;have:=hlt e x hee hx _ hm;have:=h.lt ((hdom k).1 hk);omega
  ·rw[(hn.old e hee).2.2]at hm;exact h.ebx e k (hon e he hee) ((hdom k).1 hk) hm
def gvQ:List V->List (Bool×D)->Prop
 | [],[]=>True
 | v::vs,(false,d)::ds=>rdV v d/\gvQ vs ds
 | .one (.t x)::vs,(true,.one t)::ds=>x=t/\t.flat=true/\gvQ vs ds
 | _,_=>False
theorem qn2 {w:World}{A:Nat->Prop}{t:T}{v:Value}(hf:t.flat=true)(h:zau w A t v):zba w t v []/\zlg t []=[]:=by
 cases t<;>simp only[T.flat,Qp]at hf
 ·unfold zau at h;unfold zba;exact⟨⟨h.1,h.2.1,h.2.2,rfl⟩,rfl⟩
 ·unfold zau at h;unfold zba;exact⟨⟨h,rfl⟩,rfl⟩
 ·unfold zau at h;unfold zba;exact⟨⟨h.1,h.2,rfl⟩,rfl⟩
 ·unfold zau at h;unfold zba;exact⟨⟨h,rfl⟩,rfl⟩
theorem zmy {σ:St}{g:Gh}{w:World}:∀{xs:List V}{ds:List (Bool×D)}{vs:List Value},gvQ xs ds->VRl σ g w xs vs->za5 w (zch σ g w) ds vs [] []
 | [],[],vs,_,hv=>⟨hv,rfl,rfl⟩
 | [],_::_,_,h,_=>h.elim
 | x::xs,[],_,h,_=>by cases x with
  | one c=>cases c<;>exact h.elim
  | agg _=>exact h.elim
  | tup _=>exact h.elim
 | x::xs,(false,d)::ds,vs,h,hv=>by
  obtain⟨v,vs',rfl,h1,h2⟩:=hv;have h:rdV x d/\gvQ xs ds:=by cases x with
   | one c=>cases c<;>exact h
   | agg _=>exact h
   | tup _=>exact h
  exact⟨v,vs',rfl,qrh h.1 h1,zmy h.2 h2⟩
 | .one (.t x)::xs,(true,.one t)::ds,vs,h,hv=>by
  obtain⟨v,vs',rfl,h1,h2⟩:=hv;obtain⟨rfl,hf,h⟩:=h;obtain⟨k1,k2⟩:=qn2 hf h1;exact⟨v,vs',[],[],[],[],rfl,rfl,rfl,⟨k1,k2.symm⟩,zmy h h2⟩
 | x::_,(true,.agg _)::_,_,h,_=>by cases x with
  | one c=>cases c<;>exact h.elim
  | agg _=>exact h.elim
  | tup _=>exact h.elim
 | .one (.nl _)::_,(true,.one _)::_,_,h,_=>h.elim
 | .one (.ow _ _)::_,(true,.one _)::_,_,h,_=>h.elim
 | .one (.bx _ _)::_,(true,.one _)::_,_,h,_=>h.elim
 | .one (.el _ _)::_,(true,.one _)::_,_,h,_=>h.elim
 | .one (.eo _ _ _ _ _)::_,(true,.one _)::_,_,h,_=>h.elim
 | .one (.fn _ _)::_,(true,.one _)::_,_,h,_=>h.elim
 | .one (.cv _)::_,(true,.one _)::_,_,h,_=>h.elim
 | .one .any::_,(true,.one _)::_,_,h,_=>h.elim
 | .one (.rn _)::_,(true,.one _)::_,_,h,_=>h.elim
 | .one (.er _ _)::_,(true,.one _)::_,_,h,_=>h.elim
 | .agg _::_,(true,.one _)::_,_,h,_=>h.elim
 | .tup _::_,(true,.one _)::_,_,h,_=>h.elim
def qc0:List (Nat×List C)->(Nat->Option (List C))->(Nat->Option (List C))
 | [],f=>f
 | (k,cs)::l,f=>upd (qc0 l f) k (some cs)
def boL (d:Nat):Nat->List Nat->Bxs->List (Nat×List C)
 | m,k::W,b::bx=>(k,mC d m b)::boL d (m+b.length) W bx
 | _,_,_=>[]
theorem qag (d:Nat):∀(W:List Nat)(bx:Bxs)(m:Nat)(f:Nat->Option (List C)),zp2 d m W bx f=qc0 (boL d m W bx) f
 | [],bx,m,f=>by unfold zp2 boL;rfl
 | k::W,[],m,f=>by unfold zp2 boL;rfl
 | k::W,b::bx,m,f=>by unfold zp2 boL qc0;rw[qag d W bx]
def mEl (d:Nat):Nat->List (Bool×T)->List (Nat×Ev)->List (Nat×Ev)
 | _,[],acc=>acc
 | j,(true,.sl sz rows)::ts,acc=>mEl d (j+1) ts ((d*32+j,⟨true,sz,rows,0,true⟩)::acc)
 | j,(_,_)::ts,acc=>mEl d (j+1) ts acc
theorem zyx (d:Nat):∀(ts:List (Bool×T))(j:Nat)(acc:List (Nat×Ev))(f:Nat->Option Ev),mE d j ts (zph acc f)=zph (mEl d j ts acc) f
 | [],_,_,_=>rfl
 | (false,t)::ts,j,acc,f=>by
  have:mEl d j ((false,t)::ts) acc=mEl d (j+1) ts acc:=by cases t<;>rfl
  rw[this];exact zyx d ts (j+1) acc f
 | (true,t)::ts,j,acc,f=>by
  cases t
  case sl sz rows=>exact zyx d ts (j+1) ((d*32+j,⟨true,sz,rows,0,true⟩)::acc) f
  all_goals exact zyx d ts (j+1) acc f
theorem zls (d:Nat):∀(ts:List (Bool×T))(j:Nat)(acc:List (Nat×Ev))(k:Ky),k∈eK acc->k∈eK (mEl d j ts acc)
 | [],_,_,_,h=>h
 | (false,t)::ts,j,acc,k,h=>by
  have:mEl d j ((false,t)::ts) acc=mEl d (j+1) ts acc:=by cases t<;>rfl
  rw[this];exact zls d ts (j+1) acc k h
 | (true,t)::ts,j,acc,k,h=>by
  cases t
  case sl sz rows=>exact zls d ts (j+1) _ k (by unfold eK;exact Yg _ h)
  all_goals exact zls d ts (j+1) acc k h
theorem zz2 (d:Nat):∀(ts:List (Bool×T))(j:Nat)(acc:List (Nat×Ev))(f f':Nat->Option Ev),(∀e,(2,e)∈eK (mEl d j ts acc)->f' e=f e)->mF d j ts f->mF d j ts f'
 | [],_,_,_,_,_,_=>trivial
 | (false,t)::ts,j,acc,f,f',hk,h=>by
  have e0:mEl d j ((false,t)::ts) acc=mEl d (j+1) ts acc:=by cases t<;>rfl
  rw[e0]at hk;exact zz2 d ts (j+1) acc f f' hk h
 | (true,t)::ts,j,acc,f,f',hk,h=>by
  cases t
  case sl sz rows =>
   obtain⟨h1,h2⟩:=h;have hm:(2,d*32+j)∈eK (mEl d j ((true,.sl sz rows)::ts) acc):=zls d ts (j+1) _ _ (by unfold eK;simp);refine⟨(hk _ hm).trans h1,zz2 d ts (j+1) ((d*32+j,⟨true,sz,rows,0,true⟩)::acc) _ _ (λe he=>?_) h2⟩;by_cases hee:e=d*32+j
   ·subst hee;show upd _ _ _ _=upd _ _ _ _;rw[zaf,zaf]
   ·show upd _ _ _ _=upd _ _ _ _;rw[zan _ _ hee,zan _ _ hee];exact hk e he
  all_goals exact⟨h.1,zz2 d ts (j+1) acc _ _ hk h.2⟩
def boK:List (Nat×List C)->List Ky
 | []=>[]
 | (k,_)::l=>(1,k)::boK l
def wK1:List Nat->List Ky
 | []=>[]
 | k::l=>(1,k)::wK1 l
theorem zws {n e:Nat}:∀{l:List (Nat×List C)},(n,e)∈boK l->n=1
 | [],h=>by simp[boK]at h
 | (e',x)::l,h=>by
  simp only[boK,Qu,Qt]at h;rcases h with h|h
  ·exact h.1
  ·exact zws h
theorem qq5:∀l,okK (boK l)=true
 | []=>rfl
 | (e,x)::l=>by have:=qq5 l;unfold okK at *;simpa[boK]using this
theorem qrn:∀l,okK (wK1 l)=true
 | []=>rfl
 | e::l=>by have:=qrn l;unfold okK at *;simpa[wK1]using this
theorem qir:∀{l:List (Nat×List C)}(f f':Nat->Option (List C)){e:Nat},(1,e)∈boK l->qc0 l f e=qc0 l f' e
 | [],f,f',e,h=>by simp[boK]at h
 | (e',x)::l,f,f',e,h=>by
  unfold qc0;by_cases he:e=e'
  ·subst he;rw[zaf,zaf]
  ·rw[zan _ _ he,zan _ _ he];simp only[boK,Qu,Qt]at h;exact qir f f' (h.resolve_left λhh=>he hh.2)
theorem zpx:∀{l:List (Nat×List C)}(f:Nat->Option (List C)){e:Nat},(1,e)∉boK l->qc0 l f e=f e
 | [],f,e,h=>rfl
 | (e',x)::l,f,e,h=>by
  simp only[boK,Qu,Qt,true_and,not_or]at h;unfold qc0;rw[zan _ _ h.1,zpx f h.2]
def St.upEB (σ:St)(l:List (Nat×Ev))(bl:List (Nat×List C)):St:=⟨σ.sl,qc0 bl σ.bx,zph l σ.ev⟩
theorem zf1.ofB {o:Oper}{σ:St}{R:List Ky}{l:List (Nat×Ev)}{bl:List (Nat×List C)}{v:V}{d:Nat}(hd:o.dst=some d)(hR:okK R=true)(h:∀σ1,(∀k∈R,za8 σ σ1 k)->zak P o σ1 ((σ1.upEB l bl).put (some d) v)):zf1 P o R (dK (some d)++(boK bl++eK l)) σ ((σ.upEB l bl).put (some d) v):=by
 have hW:okK (dK (some d)++(boK bl++eK l))=true:=zbf (zvv _) (zbf (qq5 _) (qcl _))
 refine⟨hW,hR,λk hk3 hk=>?_,λσ1 h1=>?_⟩
 ·simp only[Qw,not_or]at hk;refine za8.trans ?_ (zdx hk.1);obtain⟨n,i⟩:=k
  match n,hk3 with
  | 0,_=>rfl
  | 1,_=>exact(zpx σ.bx hk.2.1).symm
  | 2,_=>exact(zjj σ.ev hk.2.2).symm
 ·have:zny σ1 (dK (some d)++(boK bl++eK l)) ((σ.upEB l bl).put (some d) v)=(σ1.upEB l bl).put (some d) v:=by
   refine za8.all3 λc i hc=>?_;by_cases hin:(c,i)∈dK (some d)++(boK bl++eK l)
   ·refine(ze7 hW hin).trans ?_;simp only[Qw]at hin
    match c,hc with
    | 0,_ =>
     rcases hin with h|h|h
     ·simp only[dK,Qu,K2,or_false,Qt,true_and]at h;subst h;show upd _ _ _ _=upd _ _ _ _
      rw[zaf,zaf]
     ·have:=zws h;omega
     ·have:=ztz h;omega
    | 1,_ =>
     rcases hin with h|h|h
     ·simp[dK]at h
     ·exact qir _ _ h
     ·have:=ztz h;omega
    | 2,_ =>
     rcases hin with h|h|h
     ·simp[dK]at h
     ·have:=zws h;omega
     ·exact zvr _ _ h
   ·refine(zb6 hc hin).trans ?_;simp only[Qw,not_or]at hin;refine za8.trans ?_ (zdx hin.1)
    match c,hc with
    | 0,_=>rfl
    | 1,_=>exact(zpx σ1.bx hin.2.1).symm
    | 2,_=>exact(zjj σ1.ev hin.2.2).symm
  rw[this];exact h σ1 h1
def St.callQ (σ:St)(d:Nat)(W:List Nat)(bx':Bxs)(res:List (Bool×D)):St:={ sl:=upd σ.sl d (zn7 (mD d 0 res)),bx:=qc0 (boL d (zcl res).length W bx') σ.bx,ev:=zph (mEl d 0 (zcl res++bx'.flatten) []) σ.ev }
theorem zy6 (σ:St)(d:Nat)(W:List Nat)(bx':Bxs)(res:List (Bool×D)):σ.callQ d W bx' res=((σ.upEB (mEl d 0 (zcl res++bx'.flatten) []) (boL d (zcl res).length W bx')).put (some d) (zn7 (mD d 0 res))):=rfl
theorem zug {W:List Nat}{o:Oper}{σ:St}{x:Operand}{asx:Array Operand}{ts:Array TypeId}{f:FuncId}{cvs:List V}{d:Nat}{bx bx':Bxs}{l:List AF}{res:List (Bool×D)}(ho:o.op=.call ⟨.value x,asx,ts⟩)(hd:o.dst=some d)
  (h:PC P f bx l bx' res) (hc:za0 (σ.get P 0 x)=some (f,cvs)) (hWn:W.Nodup)
  (hv:mtK W l (σ.gets P asx ts++cvs) λus=>qrt σ W bx λcs=>gvQ (us++cs) (AF.ds l++bxA bx.flatten)) (hf:mF d 0 (zcl res++bx'.flatten) σ.ev):zak P o σ (σ.callQ d W bx' res):=by
 intro n0 N g a w hR hn hdN
 obtain⟨vs,h1,h2⟩:=zdw hR ho hc h.1
 unfold Oper.wp
 rw[h1]
 let bs:Nat->Nat:=λj=>g.β (W.getD j 0)
 have hbs:∀j b,W[j]?=some b->bs j=g.β b:=λj b hj=>by show g.β (W.getD j 0)=_;rw[List.getD_eq_getElem?_getD,hj];rfl
 obtain⟨us,dvs,a1,a2,a3,rfl⟩:=ziw hbs hv h2
 obtain⟨cs,bvs,b1,b2,b3,b4,b5⟩:=zpr hR (bs:=bs) (j:=0) (λi b hi=>by rw[Q7];exact hbs i b hi) a1
 have k2:=zmy b1 (VRl.append a2 b2)
 have hWj:∀j,j<bx.length->∃b,W[j]?=some b/\b∈W/\bs j=g.β b:=λj hj=>by
  have hlt:j<W.length:=by omega
  exact⟨W[j],List.getElem?_eq_getElem hlt,Qk hlt,hbs j _ (List.getElem?_eq_getElem hlt)⟩
 have hinj:∀i j,i<bx.length->j<bx.length->bs i=bs j->i=j:=λi j hi hj he=>by
  obtain⟨b,e1,e2,e3⟩:=hWj i hi;obtain⟨c,f1,f2,f3⟩:=hWj j hj;have:b=c:=hR.inj b c (b5 b e2) (b5 c f2) (by rw[<-e3,<-f3];exact he);subst this;have hi':i<W.length:=by omega
  have hj':j<W.length:=by omega
  rw[List.getElem?_eq_getElem hi']at e1;rw[List.getElem?_eq_getElem hj']at f1;exact(List.getElem_inj hWn).1 ((Yf e1).trans (Yf f1).symm)
 have hfb:∀b,zch σ g w b->∀j,j<bx.length->b≠bs j:=λb hb j hj e=>by
  obtain⟨c,_,e2,e3⟩:=hWj j hj;exact hb.1.1 c (b5 c e2) (by rw[<-e3,e])
 refine(h.2.2 w bs bvs dvs [] [] (zch σ g w) hinj (λj _=>by simp) b3 (za5.keepA (λb hb=>⟨⟨hb.1.2.2.1,by simp,hfb b hb⟩,hb⟩) k2) Kr a3).mono ?_
 rintro e w' ⟨us',bvs',fp',tp',rfl,hbx',hlu,o1,o2,o3,hbk⟩
 obtain⟨v1,v2,f1,f2,t1,t2,ev,ef,et,p1,p2⟩:=za5.split o1
 obtain⟨rfl,rfl⟩:=Yt ev (by rw[hlu,za5.len p1])
 subst ef
 obtain⟨t1',p1'⟩:=p1.flat
 have pp:=za5.append p1' p2
 rw[<-zkf]at pp
 have e0:mE d 0 (zcl res++bx'.flatten) σ.ev=zph (mEl d 0 (zcl res++bx'.flatten) []) σ.ev:=zyx d _ 0 [] σ.ev
 have e1:zp2 d (zcl res).length W bx' σ.bx=qc0 (boL d (zcl res).length W bx') σ.bx:=qag d W bx' _ _
 obtain⟨g',q1,q2,q3⟩:=New.mix (τ:=σ) (g:=g) (NB:=λb=>w.heap.size<=b) (w':=w') d (zcl res++bx'.flatten) _ (f1++f2) _ 0 σ.ev g [] (New.refl _ _ _ _ hR.slc) hf pp o2 (λb hb'=>⟨by simpa using o3 b hb',by simp⟩)
 have hbk':Bk (λk=>k<w.heap.size/\∀b∈W,k≠g.β b) w w':=⟨hbk.os,hbk.tape,hbk.output,hbk.size,λk hk=>hbk.block k ⟨hk.1,by simp,λj hj e=>by
  obtain⟨c,_,e2,e3⟩:=hWj j hj
  exact hk.2 c e2 (by rw[<-e3,e])⟩⟩
 have hWl:W.length=bx'.length:=by rw[h.2.1];omega
 have hdom:∀b,zp2 d (zcl res).length W bx' σ.bx b≠none↔σ.bx b≠none:=λb=>by
  by_cases hbW:b∈W
  ·exact⟨λ_=>b5 b hbW,λ_=>qjc d W bx' _ _ b hWl hbW⟩
  ·rw[zq9 d W bx' _ _ b hbW]
 have hfree:∀k,((k<w'.heap.size/\k∉f1++f2/\∀j,j<bx.length->k≠bs j)/\(zch σ g w k\/w.heap.size<=k\/k∈([]:List Nat)))->zch ⟨σ.sl,zp2 d (zcl res).length W bx' σ.bx,mE d 0 (zcl res++bx'.flatten) σ.ev⟩ g' w' k:=λk hk=>by
  have hno:∀e,St.On ⟨σ.sl,zp2 d (zcl res).length W bx' σ.bx,mE d 0 (zcl res++bx'.flatten) σ.ev⟩ e->k∉g'.φ e:=λe ho' hm=>by
   by_cases hee:σ.ev e=none
   ·obtain⟨x,hx,_⟩:=ho';have:=((q1.new e x hee hx).2.2.1 k hm).2;rw[K5]at this;exact hk.1.2.1 this
   ·rw[(q1.old e hee).2.2]at hm;obtain⟨x,hx,hon⟩:=ho';have ho2:σ.On e:=⟨x,(q1.old e hee).1.symm.trans hx,hon⟩;rcases hk.2 with h|h|h
    ·exact h.2 e ho2 hm
    ·obtain⟨y,hy,hyo⟩:=ho2;have:=(hR.evs e y hy hyo).lt k hm;omega
    ·simp at h
  refine⟨⟨λj hj e=>?_,λe x hx hon hh=>hno e ⟨x,hx,hon⟩ (List.mem_of_mem_head? hh),hk.1.1,?_⟩,hno⟩
  ·have hj':=(hdom j).1 hj;rw[q1.β]at e;rcases hk.2 with h|h|h
   ·exact h.1.1 j hj' e
   ·have:=hR.lt hj';omega
   ·simp at h
  ·rw[q1.A0];rcases hk.2 with h|h|h
   ·exact h.1.2.2.2
   ·exact(hR.anew k (hn.new h)).1
   ·simp at h
 have hcr:=q3 ⟨σ.sl,zp2 d (zcl res).length W bx' σ.bx,mE d 0 (zcl res++bx'.flatten) σ.ev⟩ w' rfl λt v h=>zau.keep (λ_ _=>rfl) hfree t v h
 obtain⟨hc1,hc2⟩:=hcr.split_flat (A:=λ_=>True) (w':=w') (m:=0) (za5.one_vals p1)
 have hR':=hR.afterB hn hbk' hdom (λb hb=>zq9 d W bx' _ _ b hb) b5 q1 (zpi d W bx' bvs' 0 (zcl res).length σ.bx (λi b hi=>by rw[Q7];exact hbs i b hi) hbx' hc2 hWl)
 have hBk:Bk n0 w w':=⟨hbk.os,hbk.tape,hbk.output,hbk.size,λk hk=>hbk.block k ⟨hn k hk,by simp,λj hj e=>by
  obtain⟨c,_,e2,e3⟩:=hWj j hj
  exact hR.base c (b5 c e2) (by rw[<-e3,<-e];exact hk)⟩⟩
 refine⟨g',?_,hBk,q1.A0,q1.R0⟩
 have hp:=hR'.put (some d) (x:=zn7 (mD d 0 res)) (v:=zc4 us') (zfq (qa8 d 0 p1 hc1) (zy8 d res 0)) (λi hi=>by cases hi;exact hdN d hd)
 rw[e0,e1]at hp
 rw[hd]
 exact hp
section
variable {ks:List Fr}{Q:Exit->St->Prop}{σ:St}{ops:Array Oper}{os:List Oper}{L:List (List Ky×List Ky)}{ty:TypeId}{ps:String}{af:Array Edge}{d:Nat}{x:Operand}{asx:Array Operand}{ts:Array TypeId}{f:FuncId}{bx bx':Bxs}{l:List AF}{res:List (Bool×D)}
theorem callQ (W:List Nat)(h:PC P f bx l bx' res)(hWn:W.Nodup)
  (hp:zav (za0 (σ.get P 0 x)) λp=>p.1=f/\mtK W l (σ.gets P asx ts++p.2) λus=>qrt σ W bx λcs=>gvQ (us++cs) (AF.ds l++bxA bx.flatten)) (hf:mF d 0 (zcl res++bx'.flatten) σ.ev)
  (k:exo P ops os ks Q (σ.callQ d W bx' res)):exo P ops (⟨some d,.call ⟨.value x,asx,ts⟩,ty,ps,af,none⟩::os) ks Q σ:=by
 obtain⟨⟨f',cvs⟩,h1,rfl,h2⟩:=zap hp
 exact zdo rfl rfl (zug rfl rfl h h1 hWn h2 hf) k
theorem zym {σ1:St}:∀{W:List Nat}{bx:Bxs}{K:List V->Prop},(∀k∈wK1 W,za8 σ σ1 k)->qrt σ W bx K->qrt σ1 W bx K
 | [],[],_,_,h=>h
 | [],_::_,_,_,h=>h.elim
 | _::_,[],_,_,h=>h.elim
 | k::W,b::bx,K,hs,h=>by
  obtain⟨cs,h1,h2,h3⟩:=zap h;have:σ1.bx k=some cs:=(Eq.symm (hs (1,k) (by simp[wK1]))).trans h1;show zav (σ1.bx k) _
  rw[this];exact⟨h2,zym (W:=W) (λk hk=>hs k (by simp[wK1,hk])) h3⟩
theorem qi8 {σ1:St}{asx:Array Operand}{ts:Array TypeId}(h:∀k∈zas asx.toList,za8 σ σ1 k):σ1.gets P asx ts=σ.gets P asx ts:=by
 unfold St.gets
 refine Kv λp hp=>?_
 exact zca h (List.of_mem_zip hp).1 _
theorem zmf {x:Operand}{l:List Operand}{k:Ky}(h:k∈zas l):k∈zas (x::l):=by
 cases x<;>first|exact Yg _ h|exact h
theorem dCallQ (W:List Nat)(h:PC P f bx l bx' res)(hWn:W.Nodup)
  (hp:zav (za0 (σ.get P 0 x)) λp=>p.1=f/\mtK W l (σ.gets P asx ts++p.2) λus=>qrt σ W bx λcs=>gvQ (us++cs) (AF.ds l++bxA bx.flatten)) (hf:mF d 0 (zcl res++bx'.flatten) σ.ev)
  (k:exd P ops os (L++[(zas (x::asx.toList)++(wK1 W++eK (mEl d 0 (zcl res++bx'.flatten) [])),dK (some d)++(boK (boL d (zcl res).length W bx')++eK (mEl d 0 (zcl res++bx'.flatten) [])))]) ks Q (σ.callQ d W bx' res)) :
  exd P ops (⟨some d,.call ⟨.value x,asx,ts⟩,ty,ps,af,none⟩::os) L ks Q σ:=by
 obtain⟨⟨f',cvs⟩,h1,rfl,h2⟩:=zap hp
 refine zgw rfl rfl ?_ k
 rw[zy6]
 refine zf1.ofB rfl (zbf (zbh _) (zbf (qrn _) (qcl _))) λσ1 hs=>?_
 rw[<-zy6]
 have e1:σ1.get P 0 x=σ.get P 0 x:=zca (l:=x::asx.toList) (λk hk=>hs k (by simp only[Qw];exact Or.inl hk)) (by simp) 0
 have e2:σ1.gets P asx ts=σ.gets P asx ts:=qi8 λk hk=>hs k (by simp only[Qw];exact Or.inl (zmf hk))
 refine zug rfl rfl h (by rw[e1];exact h1) hWn (by rw[e2];exact qot (λus hu=>zym (λk hk=>hs k (by simp only[Qw];exact Or.inr (Or.inl hk))) hu) h2) ?_
 exact zz2 d _ 0 [] _ _ (λe he=>Eq.symm (hs (2,e) (by simp only[Qw];exact Or.inr (Or.inr he)))) hf
theorem zaz {ds0 res0:List D}{gR:List Ky}(h:FC P f ds0 res0)(hp:zav (za0 (σ.get P 0 x)) λp=>p.1=f/\VDs σ (σ.gets P asx ts++p.2) ds0/\zi6 d 0 (zbi res0) σ.ev)
  (k:exd P ops os (L++[(gR++(zas (x::asx.toList)++(vsK σ (σ.gets P asx ts++qmc (za0 (σ.get P 0 x)))++eK (owL d 0 (zbi res0)))),dK (some d)++eK (owL d 0 (zbi res0)))]) ks Q (σ.callF d res0)) :
  zr3 P ops ⟨some d,.call ⟨.value x,asx,ts⟩,ty,ps,af,none⟩ os L gR ks Q σ:=by
 obtain⟨⟨f',cvs⟩,h1,rfl,h2,h3⟩:=zap hp
 rw[h1]at k
 exact qdm _ _ _ _ _ _ rfl (znm rfl rfl h h1 h2 h3) k
end
attribute [go_sem] gvQ qc0 boL mEl boK wK1 St.callQ
end
section
open Go.RowKit
variable {P:Program}
attribute [go_sem] St.upEB
end
section
open Go.RowKit
variable {P:Program}
section
variable {ks:List Fr}{Q:Exit->St->Prop}{σ:St}{ops:Array Oper}{os:List Oper}{L:List (List Ky×List Ky)}{d:Nat}{t:TypeId}{ty:TypeId}{ps:String}{af:Array Edge}{len:Nat}{parts:Array (Nat×Operand)}
theorem zld (h:zav (blS P σ t len parts) λ_=>σ.ev (d*32)=none)
  (k:exd P ops os (L++[(zas (parts.toList.map (·.2))++(rK (qiu (zlb P (σ.get P) t len parts))++[(2,d*32)]),dK (some d)++eK (blK d (blS P σ t len parts)))]) ks Q ((σ.bl d (blS P σ t len parts)).put (some d) (.one (.ow (d*32) 0)))) :
  exd P ops (⟨some d,.buildSlice t len parts,ty,ps,af,none⟩::os) L ks Q σ:=by
 obtain⟨⟨x,cons⟩,h1,h2⟩:=zap h
 rw[h1]at k
 unfold blS at h1
 obtain⟨p,e1,h1⟩:=Qf.1 h1
 obtain⟨q,e2,h1⟩:=Q5.1 h1
 simp only[Qt]at h1
 obtain⟨rfl,rfl⟩:=h1
 rw[e1]at k
 exact qut ⟨e1,e2,h2⟩ k
end
end
section
open Go.RowKit
variable {P:Program}{N:Nat}
def zci (P:Program)(N:Nat)(c:Code)(σ:St)(Q:Exit->St->Prop):Prop:=∀n0 w0 A0 g a w,Rel n0 N σ g a w->LtK n0 w->Bk n0 w0 w->(g.A0,g.R0)=A0->c.wp P (Ends n0 N w0 A0 Q) a w
theorem Ends.mono {n0:Nat->Prop}{w0:World}{A0:(Nat->Prop)×RP}{Q Q':Exit->St->Prop}(h:∀e σ,Q e σ->Q' e σ){e:Exit}{a:Act}{w:World}:Ends n0 N w0 A0 Q e a w->Ends n0 N w0 A0 Q' e a w
 | ⟨σ,g,h1,h2⟩=>⟨σ,g,h _ _ h1,h2⟩
theorem zci.mono {c:Code}{σ:St}{Q Q':Exit->St->Prop}(h:∀e σ,Q e σ->Q' e σ)(k:zci P N c σ Q):zci P N c σ Q':=λn0 w0 A0 g a w h1 h2 h3 h4=>wp_mono (k n0 w0 A0 g a w h1 h2 h3 h4) λ_ _ _=>Ends.mono h
theorem zci.ofEx {c:Code}{σ:St}{Q:Exit->St->Prop}(hd:zdf N c=true)(h:ex P c [] Q σ):zci P N c σ Q:=λ_ _ _ g a w h1 h2 h3 h4=>zb0 c σ Q hd h g a w h1 h2 h3 h4
def qiq (P:Program)(N:Nat)(c:Code)(Q:Exit->St->Prop)(e:Exit)(σ:St):Prop:=match e with|.normal=>zci P N c σ Q|e=>Q e σ
theorem zup (c:Code)(Q:Exit->St->Prop)(σ:St):qiq P N c Q .normal σ=zci P N c σ Q:=rfl
theorem qhm (c:Code)(Q:Exit->St->Prop)(σ:St):qiq P N c Q .ret σ=Q .ret σ:=rfl
theorem qb3 (c:Code)(Q:Exit->St->Prop)(σ:St)(i:Nat):qiq P N c Q (.exit i) σ=Q (.exit i) σ:=rfl
theorem zci.seq {x y:Code}{σ:St}{Q:Exit->St->Prop}(h:zci P N x σ (qiq P N y Q)):zci P N (.seq x y) σ Q:=λn0 w0 A0 g a w h1 h2 h3 h4=>by
 refine wp_seq (wp_mono (h n0 w0 A0 g a w h1 h2 h3 h4) λe a' w' hq=>?_)
 obtain⟨σ',g',k1,k2,k3,k4,k5⟩:=hq
 cases e with
 | normal=>exact k1 n0 w0 A0 g' a' w' k2 k3 k4 k5
 | exit i=>exact⟨σ',g',k1,k2,k3,k4,k5⟩
 | goto l=>exact⟨σ',g',k1,k2,k3,k4,k5⟩
 | ret=>exact⟨σ',g',k1,k2,k3,k4,k5⟩
 | panic ch=>exact⟨σ',g',k1,k2,k3,k4,k5⟩
 | outgrown=>exact⟨σ',g',k1,k2,k3,k4,k5⟩
def qo5:Nat->Code->Code
 | 0,.seq x _=>x
 | n+1,.seq x y=>.seq x (qo5 n y)
 | _,c=>c
def sufC:Nat->Code->Code
 | 0,.seq _ y=>y
 | n+1,.seq _ y=>sufC n y
 | _,_=>.skip
def okC:Nat->Code->Bool
 | 0,.seq _ _=>true
 | n+1,.seq _ y=>okC n y
 | _,_=>false
theorem zci.cut:∀(n:Nat){c:Code}{σ:St}{Q:Exit->St->Prop},okC n c=true->zdf N (qo5 n c)=true->ex P (qo5 n c) [] (qiq P N (sufC n c) Q) σ->zci P N c σ Q
 | 0,.seq x y,σ,Q,_,hd,h=>zci.seq (zci.ofEx hd h)
 | n+1,.seq x y,σ,Q,ho,hd,h=>by
  simp only[qo5,zdf,Qb]at hd;refine zci.seq (zci.mono (λe σ' k=>?_) (zci.ofEx (Q:=_) hd.1 h));cases e with
  | normal=>exact zci.cut n ho hd.2 k
  | exit i=>exact k
  | goto l=>exact k
  | ret=>exact k
  | panic ch=>exact k
  | outgrown=>exact k
def blkQ (i:Nat)(Q:Exit->St->Prop)(e:Exit)(σ:St):Prop:=match e with|.exit j=>if j=i then Q .normal σ else Q (.exit j) σ|e=>Q e σ
theorem zu2 (i:Nat)(Q:Exit->St->Prop)(σ:St):blkQ i Q .normal σ=Q .normal σ:=rfl
theorem qqc (i:Nat)(Q:Exit->St->Prop)(σ:St):blkQ i Q .ret σ=Q .ret σ:=rfl
theorem zut (i j:Nat)(Q:Exit->St->Prop)(σ:St):blkQ i Q (.exit j) σ=if j=i then Q .normal σ else Q (.exit j) σ:=rfl
theorem zci.block {i:Nat}{c:Code}{σ:St}{Q:Exit->St->Prop}(h:zci P N c σ (blkQ i Q)):zci P N (.block i c) σ Q:=λn0 w0 A0 g a w h1 h2 h3 h4=>by
 refine wp_block (wp_mono (h n0 w0 A0 g a w h1 h2 h3 h4) λe a' w' hq=>?_)
 obtain⟨σ',g',k1,k2,k3,k4,k5⟩:=hq
 cases e with
 | exit j =>
  simp only[Exit.inBlock];simp only[zut]at k1;split at k1
  ·rw[if_pos ‹_›];exact⟨σ',g',k1,k2,k3,k4,k5⟩
  ·rw[if_neg ‹_›];exact⟨σ',g',k1,k2,k3,k4,k5⟩
 | normal=>exact⟨σ',g',k1,k2,k3,k4,k5⟩
 | goto l=>exact⟨σ',g',k1,k2,k3,k4,k5⟩
 | ret=>exact⟨σ',g',k1,k2,k3,k4,k5⟩
 | panic ch=>exact⟨σ',g',k1,k2,k3,k4,k5⟩
 | outgrown=>exact⟨σ',g',k1,k2,k3,k4,k5⟩
def lpQ {X:Type}(I:X->St)(Pr:X->Prop)(μ:X->Nat)(x:X)(Q:Exit->St->Prop)(e:Exit)(σ:St):Prop:=match e with|.normal=>∃x',Pr x'/\μ x'<μ x/\Wk σ (I x')|e=>Q e σ
section
variable {X:Type}(I:X->St)(Pr:X->Prop)(μ:X->Nat)(x:X)
theorem qa2 (Q:Exit->St->Prop)(σ:St):lpQ I Pr μ x Q .normal σ=∃x',Pr x'/\μ x'<μ x/\Wk σ (I x'):=rfl
theorem qup (Q:Exit->St->Prop)(σ:St):lpQ I Pr μ x Q .ret σ=Q .ret σ:=rfl
theorem qn1 (Q:Exit->St->Prop)(σ:St)(i:Nat):lpQ I Pr μ x Q (.exit i) σ=Q (.exit i) σ:=rfl
end
theorem zci.loop {b:Code}{σ:St}{Q:Exit->St->Prop}{X:Type}(I:X->St)(Pr:X->Prop)(μ:X->Nat)(x0:X)(h0:Wk σ (I x0))(p0:Pr x0)(hr:∀x,Pr x->zci P N b (I x) (lpQ I Pr μ x Q)):zci P N (.loop b) σ Q:=λn0 w0 A0 g a w h1 h2 h3 h4=>by
 refine zrm (λn a w=>∃x g1,Pr x/\μ x=n/\Rel n0 N (I x) g1 a w/\LtK n0 w/\Bk n0 w0 w/\(g1.A0,g1.R0)=A0) ?_ (n:=μ x0) (by obtain⟨g0,r1,r2,r3⟩:=h0 _ _ _ _ _ h1;exact⟨x0,g0,p0,rfl,r1,h2,h3,by rw[r2,r3];exact h4⟩)
 rintro n a w ⟨x,g1,px,rfl,k2,k3,k4,k5⟩
 refine wp_mono (hr x px n0 w0 A0 g1 a w k2 k3 k4 k5) λe a' w' hq=>?_
 obtain⟨σ',g',h1,h2,h3,h4,h5⟩:=hq
 cases e with
 | normal =>
  obtain⟨x',p',hlt,hwk⟩:=h1;obtain⟨g2,r1,r2,r3⟩:=hwk _ _ _ _ _ h2;exact⟨μ x',hlt,x',g2,p',rfl,r1,h3,h4,by rw[r2,r3];exact h5⟩
 | exit i=>exact⟨σ',g',h1,h2,h3,h4,h5⟩
 | goto l=>exact⟨σ',g',h1,h2,h3,h4,h5⟩
 | ret=>exact⟨σ',g',h1,h2,h3,h4,h5⟩
 | panic ch=>exact⟨σ',g',h1,h2,h3,h4,h5⟩
 | outgrown=>exact⟨σ',g',h1,h2,h3,h4,h5⟩
structure RelM (n0:Nat->Prop)(N:Nat)(σ:St)(ag:Bool)(rows:List (List T))(b:Nat)(A0:(Nat->Prop)×RP)(g:Gh)(a:Act)(w:World):Prop where
 rel:∃(n1:Nat->Prop) (es:Array MapEntry) (clk:Nat),(∀x,n0 x->n1 x)/\n1 b/\¬g.A0 b/\Rel n1 N σ g a w/\LtK n1 w/\w.heap[b]?=some (.map es clk)/\zal w (λx=>n1 x/\g.A0 x) ag rows es.toList
 nb:¬n0 b
 sub:∀x,g.A0 x->A0.1 x
 r0:g.R0=A0.2
 new:∀x,¬n0 x->A0.1 x/\A0.2 x
section
variable {ag:Bool}{b:Nat}
theorem RelM.keep {n0 n1:Nat->Prop}{σ σ':St}{rows:List (List T)}{A0:(Nat->Prop)×RP}{g g':Gh}{a a':Act}{w w':World}{es:Array MapEntry}{clk:Nat}(h:RelM n0 N σ ag rows b A0 g a w)(hn:∀x,n0 x->n1 x)(hb:n1 b)(hA:¬g.A0 b)(he:w.heap[b]?=some (.map es clk))(hr:zal w (λx=>n1 x/\g.A0 x) ag rows es.toList)
  (h2:Rel n1 N σ' g' a' w') (h3:LtK n1 w') (h4:Bk n1 w w') (h5:(g'.A0,g'.R0)=(g.A0,g.R0)):RelM n0 N σ' ag rows b A0 g' a' w':=by
 have e1:g'.A0=g.A0:=(K7 h5).1
 have e2:g'.R0=g.R0:=(K7 h5).2
 exact⟨⟨n1,es,clk,hn,hb,by rw[e1];exact hA,h2,h3,(h4.block b hb).trans he,zal.keep (λx hx=>h4.block x hx.1) (λx hx=>⟨hx.1,by rw[e1];exact hx.2⟩) ag rows _ hr⟩,h.nb,by rw[e1];exact h.sub,by rw[e2];exact h.r0,h.new⟩
theorem qim {n0 n1:Nat->Prop}{w w':World}(hn:∀x,n0 x->n1 x)(h:Bk n1 w w'):Bk n0 w w':=⟨h.os,h.tape,h.output,h.size,λk hk=>h.block k (hn k hk)⟩
end
attribute [go_sem] zup qhm qb3 zu2 qqc zut qa2 qup qn1 qo5 sufC
end
section
open Go.RowKit
variable {P:Program}{N:Nat}
theorem zky {mt kt et:TypeId}{d:TypeDesc}(hm:P.underlying mt=some (.map kt et))(hd:P.underlying kt=some d){w:World}{r:Nat}{es:Array MapEntry}{clk:Nat}{key val:Value}(hb:w.heap[r]?=some (.map es clk))(hk:Go.MapKept.IsKey d key)(hf:Instr.findNow d key es.toList 0=some none) :
  (Instr.mapUpdate mt (.map (some r)) key val).run P w=.ok () { w with heap:=w.heap.setIfInBounds r (.map (es.push { key,val,born:=clk }) (clk+1)) }:=by
 simp[Instr.mapUpdate,run_underlying hm,Go.MapKept.run_getObj_map hb,Go.MapKept.run_checkKey hd hk,Go.MapKept.run_findKey hd hf,Go.MapKept.run_setObj_map _ hb,Result.andThen]
theorem zkq {mt:TypeId}{w:World}:(Instr.makeMap mt none).run P w=.ok (.map (some w.heap.size)) (w.alloc (.map #[] 0)):=by
 simp[Instr.makeMap,Result.andThen]
theorem qil {ops:Array Oper}{K:St->Prop}{n0:Nat->Prop}{w0:World}{A0:(Nat->Prop)×RP}{R:Exit->Act->World->Prop}{rest:List Nat}(hg:∀o∈ops.toList,o.guard=none)(hR:∀a w σ g,K σ->Rel n0 N σ g a w->LtK n0 w->Bk n0 w0 w->(g.A0,g.R0)=A0->wpOps P ops R rest a w) :
  ∀(k i:Nat),i+k<=ops.size->(∀o∈ops.toList,∀d,o.dst=some d->d<N)->∀(σ:St) (g:Gh) (a:Act) (w:World),zcf P ops ((ops.toList.drop i).take k) σ K->Rel n0 N σ g a w->LtK n0 w->Bk n0 w0 w->(g.A0,g.R0)=A0->wpOps P ops R (List.range' i k++rest) a w
 | 0,i,hi,hd,σ,g,a,w,h,hr,hn,hb,hA=>by
  rw[Jw]at h;exact hR a w σ g h hr hn hb hA
 | k+1,i,hi,hd,σ,g,a,w,h,hr,hn,hb,hA=>by
  have hlt:i<ops.size:=by omega
  have hcons:ops.toList.drop i=ops[i]::ops.toList.drop (i+1):=by
   rw[Qm (by simpa using hlt)];rfl
  rw[hcons,List.take_succ_cons]at h;rw[show List.range' i (k+1)++rest=i::(List.range' (i+1) k++rest) from rfl,wpOps_cons];have ho:ops[i]?=some ops[i]:=by simp[hlt]
  have hdi:∀d,ops[i].dst=some d->d<N:=hd _ (by simp);have hgi:ops[i].guard=none:=hg _ (by simp);unfold wpOp;simp only[ho];unfold zcf exG at h;rw[hgi]at h;have:Region.wanted ops[i] (yielded ops a.tmps)=true:=by simp[Region.wanted,hgi]
  rw[if_pos this];exact Or.inl (zcu (λa' w' ⟨σ',g',h0,k1,k2,k3,k4⟩=>qil hg hR k (i+1) Y0 hd σ' g' a' w' h0 k1 (hn.mono k2.size) (hb.trans k2) (by rw[k3,k4];exact hA)) (zi8 h n0 N g a w hr hn hdi))
def mvC:C->Option T
 | .rn t=>some t
 | .t t=>if t.flat=true then some t else none
 | _=>none
def mvCs:List C->Option (List T)
 | []=>some []
 | c::cs=>(mvC c).bind λt=>(mvCs cs).map λts=>t::ts
def mvV (ag:Bool):V->Option (List T)
 | .agg cs=>if ag=true then mvCs cs else none
 | .one c=>if ag=true then none else (mvC c).map λt=>[t]
 | _=>none
theorem qgx {σ:St}{g:Gh}{w:World}{A:Nat->Prop}(hA:∀b,zch σ g w b->A b){c:C}{t:T}{v:Value}(h:mvC c=some t)(hv:CR σ g w c v):zau w A t v:=by
 cases c<;>simp only[mvC,Qe,reduceCtorEq]at h
 ·split at h
  ·rename_i hf;obtain rfl:=Yf h;exact zcq hf hv
  ·cases h
 ·subst h;exact zau.keep (λ_ _=>rfl) hA _ _ hv
theorem zx6 {σ:St}{g:Gh}{w:World}{A:Nat->Prop}(hA:∀b,zch σ g w b->A b):∀{cs:List C}{ts:List T}{vs:List Value},mvCs cs=some ts->CRs σ g w cs vs->zag w A ts vs
 | [],ts,vs,h,hv=>by
  obtain rfl:=Yf h;unfold zag;exact hv
 | c::cs,ts,vs,h,hv=>by
  obtain⟨t,h1,h⟩:=Qf.1 h;obtain⟨ts',h2,rfl⟩:=Q5.1 h;obtain⟨v,vs',rfl,k1,k2⟩:=hv;unfold zag;exact⟨v,vs',rfl,qgx hA h1 k1,zx6 hA h2 k2⟩
theorem zvz {σ:St}{g:Gh}{w:World}{A:Nat->Prop}(hA:∀b,zch σ g w b->A b){ag:Bool}{x:V}{ts:List T}{v:Value}(h:mvV ag x=some ts)(hv:VR σ g w x v):∃us,(if ag=true then v=.agg ⟨us⟩else us=[v])/\zag w A ts us:=by
 cases x with
 | agg cs =>
  simp only[mvV]at h;split at h
  ·rename_i hag;obtain⟨us,rfl,hc⟩:=hv;exact⟨us,by rw[if_pos hag],zx6 hA h hc⟩
  ·cases h
 | one c =>
  simp only[mvV]at h;split at h
  ·cases h
  ·rename_i hag;obtain⟨t,h1,rfl⟩:=Q5.1 h;refine⟨[v],by rw[if_neg hag],?_⟩;unfold zag;refine⟨v,[],rfl,qgx hA h1 hv,?_⟩;unfold zag;rfl
 | tup _=>cases h
theorem zal.push {w:World}{A:Nat->Prop}{ag:Bool}{r:List T}{e:MapEntry}(he:∃us,(if ag=true then e.val=.agg ⟨us⟩else us=[e.val])/\zag w A r (e.key::us)):∀{rows:List (List T)}{es:List MapEntry},zal w A ag rows es->zal w A ag (rows++[r]) (es++[e])
 | [],es,h=>by
  unfold zal at h;subst h;obtain⟨us,h1,h2⟩:=he;show zal w A ag [r] [e]
  unfold zal;refine⟨e,[],us,rfl,h1,h2,?_⟩;unfold zal;rfl
 | _::rows,es,h=>by
  unfold zal at h;obtain⟨e',es',us,rfl,h1,h2,h3⟩:=h;show zal w A ag (_::(rows++[r])) (e'::(es'++[e]))
  unfold zal;exact⟨e',_,us,rfl,h1,h2,zal.push he h3⟩
def qic (P:Program)(ag:Bool)(b:Nat)(mt:TypeId)(x k v:Operand)(σ:St)(rows:List (List T))(K:St->List (List T)->Prop):Prop:=match σ.get P 0 x,σ.get P 0 k,qc8 P mt,mvV ag (σ.get P 0 v)with
 | .one (.cv (.map (some b'))),.one (.t kT),some (d,_),some vts=>b'=b/\zr4 d kT=true/\zb8 kT rows=some none/\K σ (rows++[kT::vts])
 | _,_,_,_=>False
theorem quk {ag:Bool}{b:Nat}{mt:TypeId}{x k v:Operand}{σ:St}{rows:List (List T)}{K:St->List (List T)->Prop}(h:qic P ag b mt x k v σ rows K):∃kT d et vts,σ.get P 0 x=.one (.cv (.map (some b)))/\σ.get P 0 k=.one (.t kT)/\qc8 P mt=some (d,et)/\mvV ag (σ.get P 0 v)=some vts/\zr4 d kT=true/\zb8 kT rows=some none/\K σ (rows++[kT::vts]):=by
 unfold qic at h
 split at h
 ·rename_i b' kT d et vts h1 h2 h3 h4;obtain⟨rfl,h5,h6,h7⟩:=h;exact⟨kT,d,et,vts,h1,h2,h3,h4,h5,h6,h7⟩
 ·exact h.elim
theorem zel {d:TypeDesc}{k:T}(h:zr4 d k=true):k.flat=true:=by
 cases d<;>cases k<;>simp[zr4]at h<;>rfl
theorem Rel.enter1 {n0:Nat->Prop}{σ:St}{g:Gh}{a:Act}{w:World}(h:Rel n0 N σ g a w)(o1:Obj) :
  Rel (λb=>n0 b\/b=w.heap.size) N σ { g with A0:=λb=>g.A0 b/\b≠w.heap.size } a (w.alloc o1):=by
 have hs:∀b,b<w.heap.size->(w.alloc o1).heap[b]?=w.heap[b]?:=λb hb=>Below.heap_alloc _ _ _ hb
 refine h.turn (λb hf=>⟨⟨hf.2.2.2,?_⟩,hs b hf.2.2.1⟩) (by simp) (λb hb=>?_) (λk hk=>⟨?_,hs _ (h.lt hk)⟩) (λe ho b hm=>?_)
 ·have:=hf.2.2.1;omega
 ·have h1:¬n0 b:=λk=>hb (Or.inl k);exact⟨⟨(h.anew b h1).1,λe=>hb (Or.inr e)⟩,(h.anew b h1).2⟩
 ·have:=h.lt hk;rintro(k1|k1)
  ·exact h.base k hk k1
  ·omega
 ·have:=h.elt ho hm;refine⟨?_,⟨(h.ebase e ho b hm).1,Y0⟩,hs b this⟩;rintro(k1|k1)
  ·exact h.etop e ho b hm k1
  ·omega
theorem RelM.leave {n0:Nat->Prop}{σ:St}{ag:Bool}{rows:List (List T)}{b d:Nat}{A0:(Nat->Prop)×RP}{g:Gh}{a:Act}{w:World}(h:RelM n0 N σ ag rows b A0 g a w)(hd:σ.sl d=.one (.cv (.map (some b)))) :
  ∃g',Rel n0 N (σ.put (some d) (.one (.rn (.mp ag rows)))) g' a w/\(g'.A0,g'.R0)=A0:=by
 obtain⟨n1,es,clk,k1,k2,k3,k4,k5,k6,k7⟩:=h.rel
 have hL:Rel n0 N σ { g with A0:=A0.1 } a w:=k4.leave k1 h.sub λx hx=>⟨(h.new x hx).1,by rw[h.r0];exact(h.new x hx).2⟩
 have hF:∀x,n1 x->A0.1 x->zch σ { g with A0:=A0.1 } w x:=λx h1 h2=>⟨⟨λk hk e=>k4.base k hk (e▸h1),λe y he ho hh=>k4.etop e ⟨y,he,ho⟩ x (List.mem_of_mem_head? hh) h1,k5 x h1,h2⟩,λe ho hm=>k4.etop e ho x hm h1⟩
 refine⟨{ g with A0:=A0.1 },hL.slots_of rfl rfl hL.defers hL.size λi=>?_,by show(A0.1,g.R0)=A0;rw[h.r0]⟩
 show VR σ _ w (upd σ.sl d _ i) _
 by_cases hi:i=d
 ·subst hi;rw[zaf];have hv:=k4.slots i;rw[hd]at hv;have hv:a.tmps.getD i (g.R0.ξ i)=.map (some b):=hv;show CR σ _ w (.rn (.mp ag rows)) (a.tmps.getD i (g.R0.ξ i))
  rw[hv];show zau w _ (.mp ag rows) (.map (some b))
  unfold zau;exact⟨b,es,clk,rfl,hF b k2 (h.new b h.nb).1,k6,zal.keep (λ_ _=>rfl) (λx hx=>hF x hx.1 (h.sub x hx.2)) ag rows _ k7⟩
 ·rw[zan _ _ hi];exact hL.slots i
end
section
open Go.RowKit
variable {P:Program}{N:Nat}
def mpOf:V->Option (Bool×List (List T))
 | .one (.t (.mp ag rows))=>some (ag,rows)
 | .one (.rn (.mp ag rows))=>some (ag,rows)
 | _=>none
def tupX:V->Option (Bool×List C)
 | .agg cs=>some (true,cs)
 | .one c=>some (false,[c])
 | _=>none
theorem zw4 {σ:St}{g:Gh}{w:World}{x:V}{y:Bool×List C}{v:Value}(h:tupX x=some y)(hv:VR σ g w x v):CRx σ g w y v:=by
 cases x with
 | agg cs=>obtain rfl:=Yf h;obtain⟨a,h1,h2⟩:=hv;exact⟨a,h1,h2⟩
 | one c=>obtain rfl:=Yf h;exact⟨c,rfl,hv⟩
 | tup _=>cases h
theorem qn6 {σ:St}{g:Gh}{w:World}{x:V}{ag:Bool}{rows:List (List T)}{v:Value}(h:mpOf x=some (ag,rows))(hv:VR σ g w x v):zau w (Fix σ g w) (.mp ag rows) v:=by
 unfold mpOf at h
 split at h
 ·cases h;exact hv
 ·cases h;exact zau.keep (λ_ _=>rfl) (λb hb=>hb.1) _ _ hv
 ·cases h
def qql (P:Program)(et:TypeId):Option V:=((P.info? et).bind (·.zero)).bind λz=>(tupX (ofV P et z)).map λy=>.tup [y,(false,[.t (.bool false)])]
def lk2 (P:Program)(σ:St)(mt:TypeId)(x ix:Operand):Option V:=match mpOf (σ.get P 0 x),σ.get P 0 ix,qc8 P mt with
 | some (ag,rows),.one (.t k),some (d,et)=>if zr4 d k=true then (zb8 k rows).bind λr=>match r with
  | some vs=>(rowV ag vs).bind λv=>(tupX v).map λy=>.tup [y,(false,[.t (.bool true)])]
  | none=>qql P et
  else none
 | _,_,_=>none
theorem zw0 {o:Oper}{σ:St}{mt:TypeId}{x ix:Operand}{v:V}(ho:o.op=.lookup mt x ix true)(h:lk2 P σ mt x ix=some v):zak P o σ (σ.put o.dst v) :=
 zak.value λn0 N g a w hR=>by
  unfold lk2 at h;split at h
  ·rename_i ag rows k d et hm hi ht;split at h
   ·rename_i hk;obtain⟨r,hf,h⟩:=Qf.1 h;obtain⟨kt,t1,t2⟩:=zkj ht;have h1:=qn6 hm (hR.get P 0 x);have h2:=hR.get P 0 ix;rw[hi]at h2;have h2:zau w (Fix σ g w) k (a.eval ix):=h2;unfold zau at h1;obtain⟨b,es,clk,e1,hA,hb,he⟩:=h1;cases r with
    | some vs =>
     obtain⟨y,hv,h⟩:=Qf.1 h;obtain⟨z,hz,rfl⟩:=Q5.1 h;obtain⟨j,u,us,f1,f2,f3⟩:=zdm hk h2 ag rows es.toList 0 (some vs) he hf;have hvr:VR σ g w y u:=by
      unfold rowV at hv;by_cases hag:ag=true
      ·rw[if_pos hag]at hv f2;cases hv;exact⟨us,f2,qqg f3⟩
      ·rw[if_neg hag]at hv f2;subst f2;rcases vs with _|⟨t,_|⟨t',vs⟩⟩
       ·cases hv
       ·cases hv;unfold zag at f3;obtain⟨v',vs',e,h3,_⟩:=f3;cases e;exact h3
       ·cases hv
     refine⟨.tuple #[u,.bool true],?_,[u,.bool true],rfl,u,[.bool true],rfl,zw4 hz hvr,.bool true,[],rfl,⟨.t (.bool true),rfl,rfl⟩,rfl⟩;unfold execOp;simp only[ho];simp[Instr.lookup,run_underlying t1,e1,Go.MapKept.run_getObj_map hb,Go.MapKept.run_checkKey t2 (zhv hk h2),Go.MapKept.run_findKey t2 f1,Result.andThen]
    | none =>
     obtain⟨zv,hz0,h⟩:=Qf.1 h;obtain⟨y,hy,rfl⟩:=Q5.1 h;obtain⟨i,hi1,hi2⟩:=Qf.1 hz0;have f1:=zdm hk h2 ag rows es.toList 0 none he hf;have hvr:VR σ g w (ofV P et zv) zv:=qi6 P σ g w et zv;refine⟨.tuple #[zv,.bool false],?_,[zv,.bool false],rfl,zv,[.bool false],rfl,zw4 hy hvr,.bool false,[],rfl,⟨.t (.bool false),rfl,rfl⟩,rfl⟩;unfold execOp;simp only[ho];simp[Instr.lookup,run_underlying t1,e1,Go.MapKept.run_getObj_map hb,Go.MapKept.run_checkKey t2 (zhv hk h2),Go.MapKept.run_findKey t2 f1,Result.andThen,zeroValue,typeInfo,hi1,hi2]
   ·cases h
  ·cases h
section
variable {ks:List Fr}{Q:Exit->St->Prop}{σ:St}{ops:Array Oper}{os:List Oper}{L:List (List Ky×List Ky)}{ty:TypeId}{ps:String}{af:Array Edge}{dst:Option Nat}{mt:TypeId}{x ix:Operand}{v:V}
theorem qig (h:lk2 P σ mt x ix=some v)(k:exo P ops os ks Q (σ.put dst v)):exo P ops (⟨dst,.lookup mt x ix true,ty,ps,af,none⟩::os) ks Q σ:=zdo rfl rfl (zw0 rfl h) k
end
attribute [go_sem] mpOf tupX lk2 qic mvC mvCs mvV Option.bind_some Option.map_some
end
section
open Go.RowKit
variable {P:Program}
def C.fb (j:Nat)(ts:List T):C->C
 | .bx b o=>if b=j then .el ts o else .bx b o
 | .fn f [k]=>if k=j then .t (.fn f [.ptr ts])else .fn f [k]
 | .fn f []=>.fn f []
 | .fn _ _=>.any
 | c=>c
def qln:List C->Option (List T)
 | []=>some []
 | .t x::cs=>(qln cs).map (x::·)
 | .rn x::cs=>(qln cs).map (x::·)
 | _::_=>none
def fbS (f:Nat->V)(j:Nat)(ts:List T):Nat->V:=λi=>(f i).map (C.fb j ts)
def fbB (f:Nat->Option (List C))(j:Nat)(ts:List T):Nat->Option (List C):=λb=>if b=j then none else (f b).map λcs=>cs.map (C.fb j ts)
theorem fbS_at (f:Nat->V)(j:Nat)(ts:List T)(i:Nat):fbS f j ts i=(f i).map (C.fb j ts):=rfl
theorem fbB_at (f:Nat->Option (List C))(j:Nat)(ts:List T)(b:Nat):fbB f j ts b=if b=j then none else (f b).map λcs=>cs.map (C.fb j ts):=rfl
def St.fb (σ:St)(j:Nat)(ts:List T):St:=⟨fbS σ.sl j ts,fbB σ.bx j ts,σ.ev⟩
theorem qkf {σ:St}{g:Gh}{w:World}:∀{cs:List C}{ts:List T}{vs:List Value},qln cs=some ts->CRs σ g w cs vs->∀(i:Nat)(t:T),ts[i]?=some t->∃v,vs[i]?=some v/\zau w (Fix σ g w) t v
 | [],ts,vs,h,_,i,t,ht=>by
  unfold qln at h;cases h;simp at ht
 | c::cs,ts,vs,h,hv,i,t,ht=>by
  obtain⟨v,vs',rfl,h1,h2⟩:=hv;have key:∀x,(qln cs).map (x::·)=some ts->zau w (Fix σ g w) x v->∃v',(v::vs')[i]?=some v'/\zau w (Fix σ g w) t v':=λx hx hr=>by
   cases hc:qln cs with
   | none=>rw[hc]at hx;cases hx
   | some ts' =>
    rw[hc]at hx;simp only[Q8,Qe]at hx;subst hx;cases i with
    | zero =>
     simp only[List.getElem?_cons_zero,Qe]at ht;subst ht;exact⟨v,rfl,hr⟩
    | succ i =>
     simp only[List.getElem?_cons_succ]at ht⊢;exact qkf hc h2 i t ht
  cases c with
  | t x=>exact key x h h1
  | rn x=>exact key x h (zau.keep (λ_ _=>rfl) (λb hb=>hb.1) x v h1)
  | _=>cases h
theorem fb_wk {σ:St}{j:Nat}{cs:List C}{ts:List T}(hb:σ.bx j=some cs)(ht:qln cs=some ts):Wk σ (σ.fb j ts):=by
 intro n0 N g a w h
 have hj:σ.bx j≠none:=by rw[hb];simp
 have hbx:∀b,(σ.fb j ts).bx b≠none↔b≠j/\σ.bx b≠none:=λb=>by
  show(if b=j then none else (σ.bx b).map λcs=>cs.map (C.fb j ts))≠none↔_
  by_cases hbj:b=j
  ·rw[if_pos hbj];simp[hbj]
  ·rw[if_neg hbj];simp[hbj]
 have hf:∀b,Fix σ g w b->Fix (σ.fb j ts) g w b:=λb hf=>⟨λk hk=>hf.1 k ((hbx k).1 hk).2,hf.2.1,hf.2.2⟩
 have hfr:∀b,zch σ g w b->zch (σ.fb j ts) g w b:=λb hb=>⟨hf b hb.1,hb.2⟩
 obtain⟨vs,ty,e1,e2⟩:=h.boxes j cs hb
 have hfix:Fix (σ.fb j ts) g w (g.β j):=by
  refine⟨λk hk e=>((hbx k).1 hk).1 (h.inj k j ((hbx k).1 hk).2 hj e),λe x hx ho hh=>?_,?_,(h.anew _ (h.base j hj)).1⟩
  ·exact h.ebx e j ⟨x,hx,ho⟩ hj (List.mem_of_mem_head? hh)
  ·exact(Array.getElem?_eq_some_iff.1 e1).1
 have hat:zbo w (Fix (σ.fb j ts) g w) (g.β j) 0 ts:=zbo.mk λi t hi=>by
  obtain⟨v,k1,k2⟩:=qkf ht e2 i t hi;refine⟨v,?_,zau.keep (λ_ _=>rfl) hf t v k2⟩;have:vs[i]?=some v:=by rw[<-Array.getElem?_toList];exact k1
  rw[Q7];simp[World.cell?,e1,this]
 have cr:∀c v,CR σ g w c v->CR (σ.fb j ts) g w (c.fb j ts) v:=λc v hc=>by
  cases c with
  | t y=>exact zau.keep (λ_ _=>rfl) hf y v hc
  | nl s=>exact hc
  | ow e' n=>exact hc
  | bx b o =>
   show CR _ _ _ (if b=j then .el ts o else .bx b o) v
   by_cases he:b=j
   ·subst he;rw[if_pos rfl];exact⟨g.β b,0,by rw[Q7];exact hc.1,hfix,hat⟩
   ·rw[if_neg he];exact⟨hc.1,(hbx b).2 ⟨he,hc.2⟩⟩
  | el cs o=>obtain⟨b,q,h1,h2,h3⟩:=hc;exact⟨b,q,h1,hf b h2,zbo.keep (λ_ _=>rfl) hf b rfl q cs h3⟩
  | eo e' s sz i o=>exact hc
  | fn f caps =>
   match caps,hc with
   | [],hc=>exact⟨hc.1,λb hb=>absurd hb (by simp)⟩
   | [k],hc =>
    show CR _ _ _ (if k=j then .t (.fn f [.ptr ts])else .fn f [k]) v
    by_cases he:k=j
    ·subst he;rw[if_pos rfl];show zau _ _ _ _
     unfold zau;refine⟨_,hc.1,?_⟩;unfold zag;refine⟨_,[],rfl,?_,by unfold zag;rfl⟩;unfold zau;exact⟨g.β k,0,rfl,hfix,hat⟩
    ·rw[if_neg he];exact⟨hc.1,λb hb=>(hbx b).2 ⟨by rw[Q4.1 hb];exact he,hc.2 b hb⟩⟩
   | _::_::_,_=>trivial
  | cv u=>exact hc
  | any=>trivial
  | rn y=>exact zau.keep (λ_ _=>rfl) hfr y v hc
  | er cs o=>obtain⟨b,q,h1,h2,h3⟩:=hc;exact⟨b,q,h1,hfr b h2,zbo.keep (λ_ _=>rfl) hfr b rfl q cs h3⟩
 refine⟨g,⟨h.defers,h.size,h.anew,λi=>VR.map cr (h.slots i),λb cs' hb'=>?_,λb hb=>h.base b ((hbx b).1 hb).2,λb b' h1 h2=>h.inj b b' ((hbx b).1 h1).2 ((hbx b').1 h2).2,λe' z hz h1=>?_,λe' z hz h1=>?_,h.slc,h.ebase,h.etop,h.nodup,h.apart,λe' k he hk=>h.ebx e' k he ((hbx k).1 hk).2⟩,rfl,rfl⟩
 ·have hne:=(hbx b).1 (by rw[hb'];simp);cases hc:σ.bx b with
  | none=>exact absurd hc hne.2
  | some cs0 =>
   have hb':(if b=j then none else (σ.bx b).map λcs=>cs.map (C.fb j ts))=some cs':=hb';rw[if_neg hne.1,hc]at hb';simp only[Q8,Qe]at hb';subst hb';obtain⟨vs,ty,k1,k2⟩:=h.boxes b cs0 hc;exact⟨vs,ty,k1,CRs.map cr k2⟩
 ·obtain⟨ao,cap,e1,e2,e3,e4⟩:=h.evs e' z hz h1;refine⟨ao,cap,e1,e2,e3,?_⟩;rcases e4 with e4|⟨b,cells,ty,fps,k1,k2,k3,k4,k5⟩
  ·exact Or.inl e4
  ·refine Or.inr ⟨b,cells,ty,fps,k1,k2,k3,k4,?_⟩;split at k5
   ·rw[if_pos ‹_›];exact k5
   ·rw[if_neg ‹_›];exact⟨k5.1,zax.keep (λ_ _=>rfl) hf b rfl 0 z.sz z.rows k5.2⟩
 ·exact⟨zau.keep (λ_ _=>rfl) hf _ _ (h.offs e' z hz h1).1,(h.offs e' z hz h1).2⟩
section
variable {ks:List Fr}{Q:Exit->St->Prop}{σ:St}{ops:Array Oper}{os:List Oper}{o:Oper}
theorem qrq (j:Nat)(hg:o.guard=none)(hs:ztf o.op=true)(k:zav (σ.bx j) λcs=>zav (qln cs) λts=>exo P ops (o::os) ks Q (σ.fb j ts)):exo P ops (o::os) ks Q σ:=by
 obtain⟨cs,hx,h1⟩:=zap k
 obtain⟨ts,ht,h2⟩:=zap h1
 exact zu5 (fb_wk hx ht) hg hs h2
theorem zge (j:Nat){i:Nat}(k:zav (σ.bx j) λcs=>zav (qln cs) λts=>ex P (.region i ops true) ks Q (σ.fb j ts)):ex P (.region i ops true) ks Q σ:=by
 obtain⟨cs,hx,h1⟩:=zap k
 obtain⟨ts,ht,h2⟩:=zap h1
 exact zef.pre (fb_wk hx ht) h2
end
attribute [go_sem] C.fb St.fb fbS_at fbB_at qln
end
section
open Go.RowKit
variable {P:Program}
def C.fs (e:Nat)(x:Ev):C->C
 | .ow e' g=>if e'=e then (if g=x.gen then .t (.sl x.sz x.rows)else .any)else .ow e' g
 | .eo e' g sz i o=>if e'=e then .any else .eo e' g sz i o
 | c=>c
def fsS (f:Nat->V)(e:Nat)(x:Ev):Nat->V:=λi=>(f i).map (C.fs e x)
def fsB (f:Nat->Option (List C))(e:Nat)(x:Ev):Nat->Option (List C):=λb=>(f b).map λcs=>cs.map (C.fs e x)
def fsE (f:Nat->Option Ev)(e:Nat):Nat->Option Ev:=λk=>if k=e then none else f k
theorem fsS_at (f:Nat->V)(e:Nat)(x:Ev)(i:Nat):fsS f e x i=(f i).map (C.fs e x):=rfl
theorem zzr (f:Nat->Option (List C))(e:Nat)(x:Ev)(b:Nat):fsB f e x b=(f b).map λcs=>cs.map (C.fs e x):=rfl
theorem fsE_at (f:Nat->Option Ev)(e k:Nat):fsE f e k=if k=e then none else f k:=rfl
def St.fs (σ:St)(e:Nat)(x:Ev):St:=⟨fsS σ.sl e x,fsB σ.bx e x,fsE σ.ev e⟩
theorem qug {σ:St}{e:Nat}{x:Ev}(hx:σ.ev e=some x)(hd:x.deep=false)(ho:x.on=true):Wk σ (σ.fs e x):=by
 intro n0 N g a w h
 have hev:∀e',e'≠e->(σ.fs e x).ev e'=σ.ev e':=λe' he=>by show(if e'=e then none else σ.ev e')=_;rw[if_neg he]
 have hee:(σ.fs e x).ev e=none:=by show(if e=e then none else σ.ev e)=_;rw[if_pos rfl]
 have hsome:∀e' z,(σ.fs e x).ev e'=some z->e'≠e/\σ.ev e'=some z:=λe' z hz=>by
  by_cases he:e'=e
  ·subst he;rw[hee]at hz;cases hz
  ·exact⟨he,by rw[<-hev e' he];exact hz⟩
 have hon:∀e',(σ.fs e x).On e'->e'≠e/\σ.On e':=λe' ⟨z,hz,h1⟩=>⟨(hsome e' z hz).1,z,(hsome e' z hz).2,h1⟩
 have hbx:∀b,(σ.fs e x).bx b≠none↔σ.bx b≠none:=λb=>by unfold St.fs;simp[zzr]
 have hOn:σ.On e:=⟨x,hx,ho⟩
 have hf:∀b,Fix σ g w b->Fix (σ.fs e x) g w b:=λb hf=>⟨λk hk=>hf.1 k ((hbx k).1 hk),λe' z hz h1=>hf.2.1 e' z (hsome e' z hz).2 h1,hf.2.2⟩
 have hfr:∀b,zch σ g w b->zch (σ.fs e x) g w b:=λb hb=>⟨hf b hb.1,λe' h'=>hb.2 e' (hon e' h').2⟩
 have hgone:∀b∈g.φ e,b<w.heap.size->zch (σ.fs e x) g w b:=λb hb hl=>by
  have hne:∀e',(σ.fs e x).On e'->b∉g.φ e':=λe' he' hm=>h.apart e e' hOn (hon e' he').2 (Ne.symm (hon e' he').1) b hb hm;exact⟨⟨λj hj hjb=>h.ebx e j hOn ((hbx j).1 hj) (by rw[hjb];exact hb),λe' z hz h1 hh=>hne e' ⟨z,hz,h1⟩ (List.mem_of_mem_head? hh),hl,(h.ebase e hOn b hb).1⟩,hne⟩
 have hhas:∀e' n,e'≠e->σ.has e' n->(σ.fs e x).has e' n:=λe' n he ⟨z,hz,h1⟩=>⟨z,by rw[hev e' he];exact hz,h1⟩
 have cr:∀c v,CR σ g w c v->CR (σ.fs e x) g w (c.fs e x) v:=λc v hc=>by
  cases c with
  | t y=>exact zau.keep (λ_ _=>rfl) hf y v hc
  | nl s=>exact hc
  | ow e' n =>
   show CR _ _ _ (if e'=e then (if n=x.gen then .t (.sl x.sz x.rows)else .any)else .ow e' n) v
   by_cases he:e'=e
   ·subst he;rw[if_pos rfl];by_cases hn:n=x.gen
    ·rw[if_pos hn];subst hn;obtain⟨ao,cap,e1,e2,e3,e4⟩:=h.evs _ x hx ho;rw[<-hc.1]at e1;show zau _ _ _ _
     unfold zau;refine⟨ao,cap,e1,e2,e3,?_⟩;rcases e4 with⟨_,_,e4,_⟩|⟨b,cells,ty,fps,k1,k2,k3,k4,k5⟩
     ·exact Or.inl e4
     ·rw[if_neg (by rw[hd];simp)]at k5;exact Or.inr ⟨b,0,k1,(hgone b (by rw[k2];simp) (Array.getElem?_eq_some_iff.1 k3).1).1,zax.keep (λ_ _=>rfl) hf b rfl 0 x.sz x.rows k5.2⟩
    ·rw[if_neg hn];trivial
   ·rw[if_neg he];exact⟨hc.1,hhas e' n he hc.2⟩
  | bx b o=>exact⟨hc.1,(hbx b).2 hc.2⟩
  | el cs o=>obtain⟨b,q,h1,h2,h3⟩:=hc;exact⟨b,q,h1,hf b h2,zbo.keep (λ_ _=>rfl) hf b rfl q cs h3⟩
  | eo e' s sz i o =>
   show CR _ _ _ (if e'=e then .any else .eo e' s sz i o) v
   by_cases he:e'=e
   ·rw[if_pos he];trivial
   ·rw[if_neg he];obtain⟨b,n,c,h1,h2,h3,h4⟩:=hc;exact⟨b,n,c,h1,h2,h3,hhas e' s he h4⟩
  | fn f caps=>exact⟨hc.1,λb hb=>(hbx b).2 (hc.2 b hb)⟩
  | cv u=>exact hc
  | any=>trivial
  | rn y=>exact zau.keep (λ_ _=>rfl) hfr y v hc
  | er cs o=>obtain⟨b,q,h1,h2,h3⟩:=hc;exact⟨b,q,h1,hfr b h2,zbo.keep (λ_ _=>rfl) hfr b rfl q cs h3⟩
 refine⟨g,⟨h.defers,h.size,h.anew,λi=>VR.map cr (h.slots i),λb cs hb=>?_,λb hb=>h.base b ((hbx b).1 hb),λb b' h1 h2=>h.inj b b' ((hbx b).1 h1) ((hbx b').1 h2),λe' z hz h1=>?_,λe' z hz h1=>?_,h.slc,λe' h1=>h.ebase e' (hon e' h1).2,λe' h1=>h.etop e' (hon e' h1).2,λe' h1=>h.nodup e' (hon e' h1).2,λe1 e2 h1 h2=>h.apart e1 e2 (hon e1 h1).2 (hon e2 h2).2,λe' k h1 h2=>h.ebx e' k (hon e' h1).2 ((hbx k).1 h2)⟩,rfl,rfl⟩
 ·cases hc:σ.bx b with
  | none=>unfold St.fs at hb;simp only[zzr,hc,J1]at hb;cases hb
  | some cs0 =>
   unfold St.fs at hb;simp only[zzr,hc,Q8,Qe]at hb;subst hb;obtain⟨vs,ty,k1,k2⟩:=h.boxes b cs0 hc;exact⟨vs,ty,k1,CRs.map cr k2⟩
 ·obtain⟨ao,cap,e1,e2,e3,e4⟩:=h.evs e' z (hsome e' z hz).2 h1;refine⟨ao,cap,e1,e2,e3,?_⟩;rcases e4 with e4|⟨b,cells,ty,fps,k1,k2,k3,k4,k5⟩
  ·exact Or.inl e4
  ·refine Or.inr ⟨b,cells,ty,fps,k1,k2,k3,k4,?_⟩;split at k5
   ·rw[if_pos ‹_›];exact k5
   ·rw[if_neg ‹_›];exact⟨k5.1,zax.keep (λ_ _=>rfl) hf b rfl 0 z.sz z.rows k5.2⟩
 ·exact⟨zau.keep (λ_ _=>rfl) hf _ _ (h.offs e' z (hsome e' z hz).2 h1).1,(h.offs e' z (hsome e' z hz).2 h1).2⟩
section
variable {ks:List Fr}{Q:Exit->St->Prop}{σ:St}{ops:Array Oper}{os:List Oper}{o:Oper}
theorem frzS (e:Nat)(hg:o.guard=none)(hs:ztf o.op=true)(k:zav (σ.ev e) λx=>x.deep=false/\x.on=true/\exo P ops (o::os) ks Q (σ.fs e x)):exo P ops (o::os) ks Q σ:=by
 obtain⟨x,hx,h1,h2,h3⟩:=zap k
 exact zu5 (qug hx h1 h2) hg hs h3
end
attribute [go_sem] C.fs St.fs fsS_at zzr fsE_at
end
section
open Go.RowKit
variable {P:Program}
theorem qt8 {σ:St}{g:Gh}{w:World}{e:Nat}{x:Ev}(he:σ.ev e=none):∀{c:C}{v:Value},CR σ g w c v->C.fs e x c=c:=fun {c v} hc=>by
 have key:∀e' n,σ.has e' n->e'≠e:=λe' n ⟨y,hy,_⟩ h=>by
  rw[h,he]at hy;cases hy
 cases c with
 | ow e' n =>
  show(if e'=e then (if n=x.gen then C.t (.sl x.sz x.rows)else .any)else .ow e' n)=_
  rw[if_neg (key e' n hc.2)]
 | eo e' s sz i o =>
  obtain⟨b,n,c,h1,h2,h3,h4⟩:=hc;show(if e'=e then C.any else .eo e' s sz i o)=_
  rw[if_neg (key e' s h4)]
 | _=>rfl
theorem qaf {σ:St}{g:Gh}{w:World}{e:Nat}{x:Ev}(he:σ.ev e=none):∀{cs:List C}{vs:List Value},CRs σ g w cs vs->cs.map (C.fs e x)=cs
 | [],_,_=>rfl
 | c::cs,_,h=>by
  obtain⟨v,vs',rfl,h1,h2⟩:=h;rw[Qc,qt8 he h1,qaf he h2]
theorem nor_t {σ:St}{g:Gh}{w:World}{e:Nat}{x:Ev}(he:σ.ev e=none):∀{xs:List (Bool×List C)}{vs:List Value},CRt σ g w xs vs->xs.map (λy=>(y.1,y.2.map (C.fs e x)))=xs
 | [],_,_=>rfl
 | y::ys,_,h=>by
  obtain⟨v,vs',rfl,h1,h2⟩:=h;rw[Qc,nor_t he h2];obtain⟨b,cs⟩:=y;unfold CRx at h1;simp only at h1⊢;split at h1
  ·obtain⟨a,_,h1⟩:=h1;rw[qaf he h1]
  ·obtain⟨c,rfl,h1⟩:=h1;rw[Qc,qt8 he h1,Qi]
theorem nor_v {σ:St}{g:Gh}{w:World}{e:Nat}{x:Ev}(he:σ.ev e=none){y:V}{v:Value}(h:VR σ g w y v):V.map (C.fs e x) y=y:=by
 cases y with
 | one c=>exact congrArg V.one (qt8 he h)
 | agg cs=>obtain⟨a,_,h⟩:=h;exact congrArg V.agg (qaf he h)
 | tup xs=>obtain⟨vs,_,h⟩:=h;exact congrArg V.tup (nor_t he h)
section
variable {ks:List Fr}{Q:Exit->St->Prop}{σ:St}{ops:Array Oper}{os:List Oper}{L:List (List Ky×List Ky)}{d:Nat}{t:TypeId}{ty:TypeId}{ps:String}{af:Array Edge}{len:Nat}{parts:Array (Nat×Operand)}{n:Nat}{rs:List (List C)}{rows:List (List T)}
theorem zre (h:zlb P (σ.get P) t len parts=some (n,rs)/\zta σ rs=some rows/\σ.ev (d*32)=none):zak P ⟨some d,.buildSlice t len parts,ty,ps,af,none⟩ σ (σ.put (some d) (.one (.t (.sl n rows)))):=λn0 N g a w hR hn hdN=>by
 refine Oper.wp_mono ?_ (zqt (P:=P) (ty:=ty) (ps:=ps) (af:=af) h n0 N g a w hR hn hdN)
 rintro a' w' ⟨g',r1,r2,r3,r4⟩
 have he:=h.2.2
 obtain⟨g2,s1,s2,s3⟩:=qug (σ:=(σ.apd (d*32) [] ⟨false,n,rows,0,true⟩).put (some d) (.one (.ow (d*32) 0))) (e:=d*32) (x:=⟨false,n,rows,0,true⟩) (zaf _ _ _) rfl rfl n0 N g' a' w' r1
 refine⟨g2,?_,r2,s2.trans r3,s3.trans r4⟩
 have e1:((σ.apd (d*32) [] ⟨false,n,rows,0,true⟩).put (some d) (.one (.ow (d*32) 0))).fs (d*32) ⟨false,n,rows,0,true⟩=σ.put (some d) (.one (.t (.sl n rows))):=by
  have q1:fsS (upd σ.sl d (.one (.ow (d*32) 0))) (d*32) ⟨false,n,rows,0,true⟩=upd σ.sl d (.one (.t (.sl n rows))):=funext λi=>by
   show V.map _ (upd σ.sl d _ i)=_
   by_cases hi:i=d
   ·subst hi;rw[zaf,zaf];show V.one (C.fs _ _ (.ow _ 0))=_
    simp[C.fs]
   ·rw[zan _ _ hi,zan _ _ hi];exact nor_v he (hR.slots i)
  have q2:fsB σ.bx (d*32) ⟨false,n,rows,0,true⟩=σ.bx:=funext λb=>by
   show(σ.bx b).map _=_
   cases hb:σ.bx b with
   | none=>rfl
   | some cs =>
    obtain⟨vs,ty',k1,k2⟩:=hR.boxes b cs hb;exact congrArg some (qaf he k2)
  have q3:fsE (upd σ.ev (d*32) (some ⟨false,n,rows,0,true⟩)) (d*32)=σ.ev:=funext λk=>by
   show(if k=d*32 then none else upd σ.ev (d*32) _ k)=_
   by_cases hk:k=d*32
   ·rw[if_pos hk,hk,he]
   ·rw[if_neg hk,zan _ _ hk]
  show St.mk (fsS (upd σ.sl d (.one (.ow (d*32) 0))) (d*32) ⟨false,n,rows,0,true⟩) (fsB σ.bx (d*32) ⟨false,n,rows,0,true⟩) (fsE (upd σ.ev (d*32) (some ⟨false,n,rows,0,true⟩)) (d*32))=_
  rw[q1,q2,q3];rfl
 rw[e1]at s1
 exact s1
def slOf:Option (Ev×List (Nat×Ev))->T
 | some (x,_)=>.sl x.sz x.rows
 | none=>.sl 0 []
theorem zno (h:zav (blS P σ t len parts) λ_=>σ.ev (d*32)=none)(k:exo P ops os ks Q (σ.put (some d) (.one (.t (slOf (blS P σ t len parts)))))):exo P ops (⟨some d,.buildSlice t len parts,ty,ps,af,none⟩::os) ks Q σ:=by
 obtain⟨⟨x,cons⟩,h1,h2⟩:=zap h
 rw[h1]at k
 unfold blS at h1
 obtain⟨p,e1,h1⟩:=Qf.1 h1
 obtain⟨q,e2,h1⟩:=Q5.1 h1
 simp only[Qt]at h1
 obtain⟨rfl,rfl⟩:=h1
 exact zdo rfl rfl (zre ⟨e1,e2,h2⟩) k
theorem qdt (h:zav (blS P σ t len parts) λ_=>σ.ev (d*32)=none)
  (k:exd P ops os (L++[(zas (parts.toList.map (·.2))++(rK (qiu (zlb P (σ.get P) t len parts))++[(2,d*32)]),dK (some d)++eK [])]) ks Q (σ.put (some d) (.one (.t (slOf (blS P σ t len parts)))))) :
  exd P ops (⟨some d,.buildSlice t len parts,ty,ps,af,none⟩::os) L ks Q σ:=by
 obtain⟨⟨x,cons⟩,h1,h2⟩:=zap h
 rw[h1]at k
 unfold blS at h1
 obtain⟨p,e1,h1⟩:=Qf.1 h1
 obtain⟨q,e2,h1⟩:=Q5.1 h1
 simp only[Qt]at h1
 obtain⟨rfl,rfl⟩:=h1
 rw[e1]at k
 refine zgw rfl rfl ?_ k
 have:=zf1.of (P:=P) (σ:=σ) (o:=⟨some d,.buildSlice t len parts,ty,ps,af,none⟩) (l:=[]) (v:=.one (.t (.sl p.1 q))) (R:=zas (parts.toList.map (·.2))++(rK p.2++[(2,d*32)])) (zbf (zbh _) (zbf (zv0 _) rfl)) λσ1 h1=>?_
 ·exact this
 ·have e3:zlb P (σ1.get P) t len parts=zlb P (σ.get P) t len parts:=zlx λt x hx=>zca (λk hk=>h1 k (by simp[hk])) hx t;have e4:zta σ1 p.2=zta σ p.2:=zlv λk hk=>h1 k (by simp[hk]);exact zre ⟨e3.trans e1,e4.trans e2,(Eq.symm (h1 (2,d*32) (by simp))).trans h2⟩
end
attribute [go_sem] slOf
end
section
open Go.RowKit
variable {P:Program}
def CTo (σ:St)(e:Nat)(x:Ev):C->T->Prop
 | .ow e' n,t=>e'=e/\n=x.gen/\t=.sl x.sz x.rows
 | c,t=>CT1 σ c t
def VDo (σ:St)(e:Nat)(x:Ev):V->D->Prop
 | .one c,.one t=>CTo σ e x c t
 | .agg cs,.agg ts=>zl3 σ cs ts
 | _,_=>False
def zq5 (σ:St)(e:Nat)(x:Ev):List V->List D->Prop
 | [],ds=>ds=[]
 | v::vs,ds=>∃d ds',ds=d::ds'/\VDo σ e x v d/\zq5 σ e x vs ds'
theorem CTo_ow (σ:St)(e:Nat)(x:Ev)(e' n:Nat)(t:T):CTo σ e x (.ow e' n) t=(e'=e/\n=x.gen/\t=.sl x.sz x.rows):=rfl
theorem CTo_t (σ:St)(e:Nat)(x:Ev)(y t:T):CTo σ e x (.t y) t=(y=t):=rfl
theorem qu9 (σ:St)(e:Nat)(x:Ev)(c:C)(t:T):VDo σ e x (.one c) (.one t)=CTo σ e x c t:=rfl
theorem qsc (σ:St)(e:Nat)(x:Ev)(cs:List C)(ts:List T):VDo σ e x (.agg cs) (.agg ts)=zl3 σ cs ts:=rfl
theorem qnc (σ:St)(e:Nat)(x:Ev)(ds:List D):zq5 σ e x [] ds=(ds=[]):=rfl
theorem qj5 (σ:St)(e:Nat)(x:Ev)(v:V)(vs:List V)(d:D)(ds:List D):zq5 σ e x (v::vs) (d::ds)=(VDo σ e x v d/\zq5 σ e x vs ds):=propext ⟨λ⟨d',ds',h,h1,h2⟩=>by
 obtain⟨rfl,rfl⟩:=Yu h
 exact⟨h1,h2⟩,λh=>⟨_,_,rfl,h.1,h.2⟩⟩
theorem zsj {σ:St}{e:Nat}{x:Ev}{c:C}{t:T}(h:∀e' n,c≠.ow e' n):CTo σ e x c t=CT1 σ c t:=by
 cases c with
 | ow e' n=>exact absurd rfl (h e' n)
 | _=>rfl
theorem CTo.loc {σ σ1:St}{e:Nat}{x:Ev}{c:C}{t:T}(h:CTo σ e x c t):CTo σ1 e x c t:=by
 by_cases hc:∃e' n,c=.ow e' n
 ·obtain⟨e',n,rfl⟩:=hc;exact h
 ·have hc:∀e' n,c≠.ow e' n:=λe' n he=>hc ⟨e',n,he⟩;rw[zsj hc]at h⊢;exact CT1.loc h
theorem zq5.loc {σ σ1:St}{e:Nat}{x:Ev}:∀{vs:List V}{ds:List D},zq5 σ e x vs ds->zq5 σ1 e x vs ds
 | [],_,h=>h
 | v::vs,_,h=>by
  obtain⟨d,ds',rfl,h1,h2⟩:=h;refine⟨d,ds',rfl,?_,zq5.loc h2⟩;have h1:VDo σ e x v d:=h1;cases v with
  | one c =>
   cases d with
   | one t=>exact CTo.loc h1
   | agg ts=>exact h1.elim
  | agg cs =>
   cases d with
   | one t=>exact h1.elim
   | agg ts=>exact zl3.loc h1
  | tup zs=>cases d<;>exact h1.elim
theorem zq5.rep {n0:Nat->Prop}{N:Nat}{σ σ':St}{g:Gh}{a:Act}{w:World}{e:Nat}{x:Ev}(hR:Rel n0 N σ' g a w)(hx:σ'.ev e=some x.off):∀{xs:List V}{ds:List D},zq5 σ e x xs ds->∀{vs:List Value},VRl σ' g w xs vs->zbn w (Fix σ' g w) ds vs
 | [],ds,h,vs,hv=>by rw[show ds=[] from h];exact hv
 | y::xs,ds,h,vs,hv=>by
  obtain⟨d,ds',rfl,h1,h2⟩:=h;obtain⟨v,vs',rfl,k1,k2⟩:=hv;refine⟨v,vs',rfl,?_,zq5.rep hR hx h2 k2⟩;have h1':VDo σ e x y d:=h1;cases y with
  | one c =>
   cases d with
   | one t =>
    have h1:CTo σ e x c t:=h1';have k1:CR σ' g w c v:=k1;show zau w (Fix σ' g w) t v
    by_cases hc:∃e' n,c=.ow e' n
    ·obtain⟨e',n,rfl⟩:=hc;obtain⟨rfl,rfl,rfl⟩:=h1;have:=(hR.offs _ _ hx rfl).1;rw[k1.1];exact this
    ·have hc:∀e' n,c≠.ow e' n:=λe' n he=>hc ⟨e',n,he⟩;rw[zsj hc]at h1;have h3:CT1 σ' c t:=CT1.loc h1;exact CT1.rep h3 k1
   | agg ts=>exact h1'.elim
  | agg cs =>
   cases d with
   | one t=>exact h1'.elim
   | agg ts =>
    have h1:zl3 σ' cs ts:=zl3.loc h1';obtain⟨u,rfl,k1⟩:=k1;exact⟨u,rfl,zl3.rep h1 k1⟩
  | tup zs=>cases d<;>exact h1'.elim
theorem zot {o:Oper}{σ:St}{x:Operand}{asx:Array Operand}{ts:Array TypeId}{f:FuncId}{cvs:List V}{ds res:List D}{e:Nat}{y:Ev}(hy:σ.ev e=some y)(ho:o.op=.call ⟨.value x,asx,ts⟩)
  (h:RC P f ds res) (hc:za0 (σ.get P 0 x)=some (f,cvs)) (hv:zq5 σ e y (σ.gets P asx ts++cvs) ds):zak P o σ ((σ.upE [(e,y.off)]).callR o.dst res):=by
 refine zak.pre (frz_wk hy) ?_
 intro n0 N g a w hR hn hdN
 have hey:(σ.frz e y).ev e=some y.off:=zaf _ _ _
 obtain⟨vs,h1,h2⟩:=zdw hR ho (f:=f) (cvs:=cvs) hc h.1
 unfold Oper.wp
 rw[h1]
 have hargs:=(zq5.rep hR hey hv h2).keep (A':=λb=>b<w.heap.size/\Fix (σ.frz e y) g w b) (λ_ _=>rfl) λb hb=>⟨hb.2.2.1,hb⟩
 refine(h.2 w vs (Fix (σ.frz e y) g w) hargs).mono ?_
 rintro e2 w' ⟨us,rfl,o1,hb⟩
 have hR':Rel n0 N (σ.frz e y) g a w':=hR.after hn hb (New.refl (σ.frz e y) g (w.heap.size<=·) w' hR.slc)
 refine⟨g,?_,Bk.of_below hb hn,rfl,rfl⟩
 have hfix:∀b,(b<w'.heap.size/\(Fix (σ.frz e y) g w b\/w.heap.size<=b))->Fix (σ.frz e y) g w' b:=λb hb'=>by
  rcases hb'.2 with hf|hf
  ·exact⟨hf.1,hf.2.1,hb'.1,hf.2.2.2⟩
  ·refine⟨λk hk e=>by have:=hR.lt hk;omega,λe x hx ho hh=>?_,hb'.1,(hR.anew b (hn.new hf)).1⟩;have:=(hR.evs e x hx ho).lt b (List.mem_of_mem_head? hh);omega
 exact hR'.put o.dst (zfq (zbn.vrl (o1.keep (λ_ _=>rfl) hfix)) (λy hy=>by
  obtain⟨d,_,rfl⟩:=Ka.1 hy
  cases d<;>rfl)) hdN
section
variable {ks:List Fr}{Q:Exit->St->Prop}{σ:St}{ops:Array Oper}{os:List Oper}{L:List (List Ky×List Ky)}{ty:TypeId}{ps:String}{af:Array Edge}{x:Operand}{asx:Array Operand}{ts:Array TypeId}{f:FuncId}{ds res:List D}
theorem zwc {d:Option Nat}(e:Nat)(h:RC P f ds res)(hp:zav (σ.ev e) λy=>zav (za0 (σ.get P 0 x)) λp=>p.1=f/\zq5 σ e y (σ.gets P asx ts++p.2) ds)
  (k:zav (σ.ev e) λy=>exd P ops os (L++[(zas (x::asx.toList)++[(2,e)],dK d++eK [(e,y.off)])]) ks Q ((σ.upE [(e,y.off)]).callR d res)) :
  exd P ops (⟨d,.call ⟨.value x,asx,ts⟩,ty,ps,af,none⟩::os) L ks Q σ:=by
 obtain⟨y,hy,hp⟩:=zap hp
 obtain⟨y',hy',k⟩:=zap k
 rw[hy]at hy'
 cases hy'
 obtain⟨⟨f',cvs⟩,h1,rfl,h2⟩:=zap hp
 refine zgw rfl rfl ?_ k
 have:=zf1.of (P:=P) (σ:=σ) (o:=⟨d,.call ⟨.value x,asx,ts⟩,ty,ps,af,none⟩) (l:=[(e,y.off)]) (v:=zn7 (res.map D.toV)) (R:=zas (x::asx.toList)++[(2,e)]) (zbf (zbh _) rfl) λσ1 h3=>?_
 ·exact this
 ·have e1:σ1.get P 0 x=σ.get P 0 x:=zca (l:=x::asx.toList) (λk hk=>h3 k (by simp[hk])) (by simp) 0;have e2:σ1.gets P asx ts=σ.gets P asx ts:=zje ts λk hk=>h3 k (Qw.2 (Or.inl (zcn hk)));have e3:σ1.ev e=some y:=(Eq.symm (h3 (2,e) (by simp))).trans hy;have hv:zq5 σ1 e y (σ1.gets P asx ts++cvs) ds:=by rw[e2];exact zq5.loc h2
  exact zot e3 rfl h (by rw[e1];exact h1) hv
end
attribute [go_sem] qnc qj5 qu9 qsc CTo_ow CTo_t
end
section
open Go.RowKit
variable {P:Program}{N:Nat}
theorem ins_op {n0:Nat->Prop}{ag:Bool}{b:Nat}{A0:(Nat->Prop)×RP}{g:Gh}{a:Act}{w:World}{mt:TypeId}{x k v:Operand}{ty:TypeId}{ps:String}{af:Array Edge}{σ:St}{rows:List (List T)}{K:St->List (List T)->Prop}(hM:RelM n0 N σ ag rows b A0 g a w)(h2:LtK n0 w)(hK:qic P ag b mt x k v σ rows K) :
  ∃rows' w2,K σ rows'/\(execOp a.eval ⟨none,.insert mt x k v,ty,ps,af,none⟩).run P w=.ok .skip w2/\RelM n0 N σ ag rows' b A0 g a w2/\LtK n0 w2/\Bk n0 w w2:=by
 obtain⟨n1,es,clk,k1,k2,k3,k4,k5,k6,k7⟩:=hM.rel
 obtain⟨kT,d,et,vts,c1,c2,c3,c4,c5,c6,c7⟩:=quk hK
 obtain⟨kt,t1,t2⟩:=zkj c3
 have hA':¬g.A0 b:=k3
 have he:w.heap[b]?=some (.map es clk):=k6
 have hr:zal w (λx=>n1 x/\g.A0 x) ag rows es.toList:=k7
 have v1:=k4.get P 0 x
 have v2:=k4.get P 0 k
 have v3:=k4.get P 0 v
 rw[c1]at v1
 rw[c2]at v2
 have v1:a.eval x=.map (some b):=v1
 have v2:zau w (Fix σ g w) kT (a.eval k):=v2
 have hfn:=zdm c5 (zcq (A':=λx=>n1 x/\g.A0 x) (w:=w) (zel c5) v2) ag rows es.toList 0 none hr c6
 have hkey:=zhv c5 v2
 have hrun:=zky t1 t2 (val:=a.eval v) he hkey hfn
 have hex:(execOp a.eval ⟨none,.insert mt x k v,ty,ps,af,none⟩).run P w=.ok .skip { w with heap:=w.heap.setIfInBounds b (.map (es.push { key:=a.eval k,val:=a.eval v,born:=clk }) (clk+1)) }:=by
  unfold execOp;simp only[v1,Sem.run_bind,hrun,Result.andThen_ok,Sem.run_pure]
 have hh:=(Go.MapKept.heap_set (o':=.map (es.push { key:=a.eval k,val:=a.eval v,born:=clk }) (clk+1)) he)
 have hother:∀x,x≠b->({ w with heap:=w.heap.setIfInBounds b (.map (es.push { key:=a.eval k,val:=a.eval v,born:=clk }) (clk+1)) }:World).heap[x]?=w.heap[x]?:=hh.2
 have hsize:({ w with heap:=w.heap.setIfInBounds b (.map (es.push { key:=a.eval k,val:=a.eval v,born:=clk }) (clk+1)) }:World).heap.size=w.heap.size:=by simp
 have hself:({ w with heap:=w.heap.setIfInBounds b (.map (es.push { key:=a.eval k,val:=a.eval v,born:=clk }) (clk+1)) }:World).heap[b]?=_:=hh.1
 have hbk:Bk n0 w { w with heap:=w.heap.setIfInBounds b (.map (es.push { key:=a.eval k,val:=a.eval v,born:=clk }) (clk+1)) }:=⟨rfl,rfl,rfl,by rw[hsize];exact Qz _,λj hj=>hother j λe=>hM.nb (e▸hj)⟩
 have hfree:∀y,zch σ g w y->y<w.heap.size/\g.A0 y:=λy hy=>⟨hy.1.2.2.1,hy.1.2.2.2⟩
 generalize hw:({ w with heap:=w.heap.setIfInBounds b (.map (es.push { key:=a.eval k,val:=a.eval v,born:=clk }) (clk+1)) }:World)=w2 at hother hsize hself hbk hex⊢
 have hR2:Rel (λy=>n1 y\/zch σ g w y) N σ g a w2:=by
  refine k4.turn (n1:=λy=>n1 y\/zch σ g w y) (A1:=g.A0) (w':=w2) (λy hf=>⟨hf.2.2.2,hother y λe=>hA' (e▸hf.2.2.2)⟩) (by rw[hsize];exact Qz _) (λy hy=>k4.anew y λq=>hy (Or.inl q)) (λj hj=>⟨?_,hother _ λe=>k4.base j hj (e▸k2)⟩) λe ho y hy=>⟨?_,(k4.ebase e ho y hy).1,hother _ λq=>k4.etop e ho y hy (q▸k2)⟩
  ·rintro(q|q)
   ·exact k4.base j hj q
   ·exact q.1.1 j hj rfl
  ·rintro(q|q)
   ·exact k4.etop e ho y hy q
   ·exact q.2 e ho hy
 obtain⟨us,u1,u2⟩:=zvz (A:=λy=>(n1 y\/zch σ g w y)/\g.A0 y) (λy hy=>⟨Or.inr hy,hy.1.2.2.2⟩) c4 v3
 refine⟨rows++[kT::vts],w2,c7,hex,⟨⟨λy=>n1 y\/zch σ g w y,es.push { key:=a.eval k,val:=a.eval v,born:=clk },clk+1,λy hy=>Or.inl (k1 y hy),Or.inl k2,hA',hR2,λy hy=>?_,hself,?_⟩,hM.nb,hM.sub,hM.r0,hM.new⟩,h2.mono hbk.size,hbk⟩
 ·rw[hsize];rcases hy with q|q
  ·exact k5 y q
  ·exact(hfree y q).1
 ·rw[Array.toList_push];refine zal.keep (A:=λy=>(n1 y\/zch σ g w y)/\g.A0 y) (λy hy=>hother y λe=>hA' (e▸hy.2)) (λy hy=>hy) ag _ _ (zal.push ⟨us,u1,?_⟩ (zal.keep (λ_ _=>rfl) (λy hy=>⟨Or.inl hy.1,hy.2⟩) ag rows _ hr));unfold zag;exact⟨_,_,rfl,zcq (zel c5) v2,u2⟩
end
section
open Go.RowKit
variable {P:Program}{N:Nat}
theorem zci.wkS {c:Code}{σ σ':St}{Q:Exit->St->Prop}(h:Wk σ σ')(k:zci P N c σ' Q):zci P N c σ Q:=λn0 w0 A0 g a w h1 h2 h3 h4=>by
 obtain⟨g',r1,r2,r3⟩:=h _ _ _ _ _ h1
 exact k n0 w0 A0 g' a w r1 h2 h3 (by rw[r2,r3];exact h4)
end
section
open Go.RowKit
variable {P:Program}{N:Nat}
inductive Ob
 | mp (ag:Bool) (rows:List (List T))
 | it (src:Nat) (ag:Bool) (left:List (List T)) (last:Option (List T))
abbrev Hid:=List (Nat×Ob)
def zu7 (w:World)(A n1:Nat->Prop)(b:Nat):Ob->Prop
 | .mp ag rows=>∃es clk,w.heap[b]?=some (.map es clk)/\zal w A ag rows es.toList/\Go.MapKept.Stamped es clk
 | .it src ag left last=>n1 src/\∃es clk seen,w.heap[b]?=some (.mapIter (some src) clk seen clk)/\w.heap[src]?=some (.map es clk)/\Go.MapKept.Stamped es clk/\zal w A ag left (leftOf es seen).toList/\∀r,last=some r->∃e∈es.toList,seen.back?=some e.born/\zal w A ag [r] [e]
theorem zu7.keep {w w':World}{A A' n1 n1':Nat->Prop}(hs:∀x,n1 x->w'.heap[x]?=w.heap[x]?)(hA:∀x,A x->n1 x)(ha:∀x,A x->A' x)(hn:∀x,n1 x->n1' x){b:Nat}(hb:n1 b):∀{o:Ob},zu7 w A n1 b o->zu7 w' A' n1' b o
 | .mp ag rows,⟨es,clk,h1,h2,h3⟩=>⟨es,clk,(hs b hb).trans h1,zal.keep (λx hx=>hs x (hA x hx)) ha ag rows _ h2,h3⟩
 | .it src ag left last,⟨h0,es,clk,seen,h1,h2,h3,h4,h5⟩=>⟨hn src h0,es,clk,seen,(hs b hb).trans h1,(hs src h0).trans h2,h3,zal.keep (λx hx=>hs x (hA x hx)) ha ag left _ h4,λr hr=>by
   obtain⟨e,k1,k2,k3⟩:=h5 r hr
   exact⟨e,k1,k2,zal.keep (λx hx=>hs x (hA x hx)) ha ag [r] _ k3⟩⟩
structure RelH (n0:Nat->Prop)(N:Nat)(σ:St)(H:Hid)(A0:(Nat->Prop)×RP)(g:Gh)(a:Act)(w:World):Prop where
 rel:∃n1:Nat->Prop,(∀x,n0 x->n1 x)/\(∀p∈H,n1 p.1/\¬g.A0 p.1)/\Rel n1 N σ g a w/\LtK n1 w/\∀p∈H,zu7 w (λx=>n1 x/\g.A0 x) n1 p.1 p.2
 nb:∀p∈H,¬n0 p.1
 nd:(H.map (·.1)).Nodup
 sub:∀x,g.A0 x->A0.1 x
 r0:g.R0=A0.2
 new:∀x,¬n0 x->A0.1 x/\A0.2 x
theorem RelH.keep {n0 n1:Nat->Prop}{σ σ':St}{H:Hid}{A0:(Nat->Prop)×RP}{g g':Gh}{a a':Act}{w w':World}(h:RelH n0 N σ H A0 g a w)(hn:∀x,n0 x->n1 x)(hH:∀p∈H,n1 p.1/\¬g.A0 p.1)(ho:∀p∈H,zu7 w (λx=>n1 x/\g.A0 x) n1 p.1 p.2)
  (h2:Rel n1 N σ' g' a' w') (h3:LtK n1 w') (h4:Bk n1 w w') (h5:(g'.A0,g'.R0)=(g.A0,g.R0)):RelH n0 N σ' H A0 g' a' w':=by
 have e1:g'.A0=g.A0:=(K7 h5).1
 have e2:g'.R0=g.R0:=(K7 h5).2
 exact⟨⟨n1,hn,λp hp=>by rw[e1];exact hH p hp,h2,h3,λp hp=>zu7.keep h4.block (λx hx=>hx.1) (λx hx=>⟨hx.1,by rw[e1];exact hx.2⟩) (λx hx=>hx) (hH p hp).1 (ho p hp)⟩,h.nb,h.nd,by rw[e1];exact h.sub,by rw[e2];exact h.r0,h.new⟩
def qcs (n0:Nat->Prop)(N:Nat)(w0:World)(A0:(Nat->Prop)×RP)(Q:Exit->St->Hid->Prop)(e:Exit)(a:Act)(w:World):Prop:=∃σ H g,Q e σ H/\RelH n0 N σ H A0 g a w/\LtK n0 w/\Bk n0 w0 w
def zbt (P:Program)(N:Nat)(c:Code)(σ:St)(H:Hid)(Q:Exit->St->Hid->Prop):Prop:=∀n0 w0 A0 g a w,RelH n0 N σ H A0 g a w->LtK n0 w->Bk n0 w0 w->c.wp P (qcs n0 N w0 A0 Q) a w
theorem qcs.mono {n0:Nat->Prop}{w0:World}{A0:(Nat->Prop)×RP}{Q Q':Exit->St->Hid->Prop}(h:∀e σ r,Q e σ r->Q' e σ r){e:Exit}{a:Act}{w:World}:qcs n0 N w0 A0 Q e a w->qcs n0 N w0 A0 Q' e a w
 | ⟨σ,r,g,h1,h2⟩=>⟨σ,r,g,h _ _ _ h1,h2⟩
theorem zbt.mono {c:Code}{σ:St}{H:Hid}{Q Q':Exit->St->Hid->Prop}(h:∀e σ r,Q e σ r->Q' e σ r)(k:zbt P N c σ H Q):zbt P N c σ H Q':=λn0 w0 A0 g a w h1 h2 h3=>wp_mono (k n0 w0 A0 g a w h1 h2 h3) λ_ _ _=>qcs.mono h
theorem zbt.ofEx {c:Code}{σ:St}{H:Hid}{Q:Exit->St->Hid->Prop}(hd:zdf N c=true)(h:ex P c [] (λe σ'=>Q e σ' H) σ):zbt P N c σ H Q:=λn0 w0 A0 g a w hM h2 h3=>by
 obtain⟨n1,k1,k2,k4,k5,k7⟩:=hM.rel
 refine wp_mono (zb0 (w0:=w) (A0:=(g.A0,g.R0)) c σ _ hd h g a w k4 k5 (Bk.refl _ _) rfl) λe a' w' hq=>?_
 obtain⟨σ',g',h1,m2,m3,m4,m5⟩:=hq
 exact⟨σ',H,g',h1,hM.keep k1 k2 k7 m2 m3 m4 m5,h2.mono m4.size,h3.trans (qim k1 m4)⟩
def qay (P:Program)(N:Nat)(c:Code)(Q:Exit->St->Hid->Prop)(e:Exit)(σ:St)(H:Hid):Prop:=match e with|.normal=>zbt P N c σ H Q|e=>Q e σ H
theorem zsx (c:Code)(Q:Exit->St->Hid->Prop)(σ:St)(H:Hid):qay P N c Q .normal σ H=zbt P N c σ H Q:=rfl
theorem qi3 (c:Code)(Q:Exit->St->Hid->Prop)(σ:St)(H:Hid):qay P N c Q .ret σ H=Q .ret σ H:=rfl
theorem qbv (c:Code)(Q:Exit->St->Hid->Prop)(σ:St)(H:Hid)(i:Nat):qay P N c Q (.exit i) σ H=Q (.exit i) σ H:=rfl
theorem zbt.seq {x y:Code}{σ:St}{H:Hid}{Q:Exit->St->Hid->Prop}(h:zbt P N x σ H (qay P N y Q)):zbt P N (.seq x y) σ H Q:=λn0 w0 A0 g a w h1 h2 h3=>by
 refine wp_seq (wp_mono (h n0 w0 A0 g a w h1 h2 h3) λe a' w' hq=>?_)
 obtain⟨σ',r',g',k1,k2,k3,k4⟩:=hq
 cases e with
 | normal=>exact k1 n0 w0 A0 g' a' w' k2 k3 k4
 | exit i=>exact⟨σ',r',g',k1,k2,k3,k4⟩
 | goto l=>exact⟨σ',r',g',k1,k2,k3,k4⟩
 | ret=>exact⟨σ',r',g',k1,k2,k3,k4⟩
 | panic ch=>exact⟨σ',r',g',k1,k2,k3,k4⟩
 | outgrown=>exact⟨σ',r',g',k1,k2,k3,k4⟩
def blkH (i:Nat)(Q:Exit->St->Hid->Prop)(e:Exit)(σ:St)(H:Hid):Prop:=match e with|.exit j=>if j=i then Q .normal σ H else Q (.exit j) σ H|e=>Q e σ H
theorem zvu (i:Nat)(Q:Exit->St->Hid->Prop)(σ:St)(H:Hid):blkH i Q .normal σ H=Q .normal σ H:=rfl
theorem qnz (i:Nat)(Q:Exit->St->Hid->Prop)(σ:St)(H:Hid):blkH i Q .ret σ H=Q .ret σ H:=rfl
theorem ztx (i j:Nat)(Q:Exit->St->Hid->Prop)(σ:St)(H:Hid):blkH i Q (.exit j) σ H=if j=i then Q .normal σ H else Q (.exit j) σ H:=rfl
theorem zbt.block {i:Nat}{c:Code}{σ:St}{H:Hid}{Q:Exit->St->Hid->Prop}(h:zbt P N c σ H (blkH i Q)):zbt P N (.block i c) σ H Q:=λn0 w0 A0 g a w h1 h2 h3=>by
 refine wp_block (wp_mono (h n0 w0 A0 g a w h1 h2 h3) λe a' w' hq=>?_)
 obtain⟨σ',r',g',k1,k2,k3,k4⟩:=hq
 cases e with
 | exit j =>
  simp only[Exit.inBlock];simp only[ztx]at k1;split at k1
  ·rw[if_pos ‹_›];exact⟨σ',r',g',k1,k2,k3,k4⟩
  ·rw[if_neg ‹_›];exact⟨σ',r',g',k1,k2,k3,k4⟩
 | normal=>exact⟨σ',r',g',k1,k2,k3,k4⟩
 | goto l=>exact⟨σ',r',g',k1,k2,k3,k4⟩
 | ret=>exact⟨σ',r',g',k1,k2,k3,k4⟩
 | panic ch=>exact⟨σ',r',g',k1,k2,k3,k4⟩
 | outgrown=>exact⟨σ',r',g',k1,k2,k3,k4⟩
theorem RelH.wk {n0:Nat->Prop}{σ σ':St}{H:Hid}{A0:(Nat->Prop)×RP}{g:Gh}{a:Act}{w:World}(h:RelH n0 N σ H A0 g a w)(k:Wk σ σ'):∃g',RelH n0 N σ' H A0 g' a w:=by
 obtain⟨n1,k1,k2,k4,k5,k7⟩:=h.rel
 obtain⟨g',r1,r2,r3⟩:=k _ _ _ _ _ k4
 exact⟨g',h.keep k1 k2 k7 r1 k5 (Bk.refl _ _) (by rw[r2,r3])⟩
theorem zbt.wkS {c:Code}{σ σ':St}{H:Hid}{Q:Exit->St->Hid->Prop}(h:Wk σ σ')(k:zbt P N c σ' H Q):zbt P N c σ H Q:=λn0 w0 A0 g a w h1 h2 h3=>by
 obtain⟨g',r⟩:=h1.wk h
 exact k n0 w0 A0 g' a w r h2 h3
theorem RelH.drop {n0:Nat->Prop}{σ:St}{H J:Hid}{A0:(Nat->Prop)×RP}{g:Gh}{a:Act}{w:World}(h:RelH n0 N σ H A0 g a w)(hs:J.Sublist H):RelH n0 N σ J A0 g a w:=by
 obtain⟨n1,k1,k2,k4,k5,k7⟩:=h.rel
 exact⟨⟨n1,k1,λp hp=>k2 p (hs.subset hp),k4,k5,λp hp=>k7 p (hs.subset hp)⟩,λp hp=>h.nb p (hs.subset hp),h.nd.sublist (hs.map _),h.sub,h.r0,h.new⟩
def lpH {X:Type}(I:X->St)(J:X->Hid)(Pr:X->Prop)(μ:X->Nat)(x:X)(Q:Exit->St->Hid->Prop)(e:Exit)(σ:St)(H:Hid):Prop:=match e with|.normal=>∃x',Pr x'/\μ x'<μ x/\(J x').Sublist H/\Wk σ (I x')|e=>Q e σ H
section
variable {X:Type}(I:X->St)(J:X->Hid)(Pr:X->Prop)(μ:X->Nat)(x:X)
theorem qan (Q:Exit->St->Hid->Prop)(σ:St)(H:Hid):lpH I J Pr μ x Q .normal σ H=∃x',Pr x'/\μ x'<μ x/\(J x').Sublist H/\Wk σ (I x'):=rfl
theorem qs7 (Q:Exit->St->Hid->Prop)(σ:St)(H:Hid):lpH I J Pr μ x Q .ret σ H=Q .ret σ H:=rfl
theorem qoa (Q:Exit->St->Hid->Prop)(σ:St)(H:Hid)(i:Nat):lpH I J Pr μ x Q (.exit i) σ H=Q (.exit i) σ H:=rfl
theorem zbt.loop {c:Code}{σ:St}{H:Hid}{Q:Exit->St->Hid->Prop}(x0:X)(h0:Wk σ (I x0))(j0:(J x0).Sublist H)(p0:Pr x0)(hr:∀x,Pr x->zbt P N c (I x) (J x) (lpH I J Pr μ x Q)):zbt P N (.loop c) σ H Q:=λn0 w0 A0 g a w h1 h2 h3=>by
 refine zrm (λn a w=>∃x g1,Pr x/\μ x=n/\RelH n0 N (I x) (J x) A0 g1 a w/\LtK n0 w/\Bk n0 w0 w) ?_ (n:=μ x0) (by obtain⟨g0,r1⟩:=(h1.drop j0).wk h0;exact⟨x0,g0,p0,rfl,r1,h2,h3⟩)
 rintro n a w ⟨x,g1,px,rfl,k2,k3,k4⟩
 refine wp_mono (hr x px n0 w0 A0 g1 a w k2 k3 k4) λe a' w' hq=>?_
 obtain⟨σ',r',g',h1,h2,h3,h4⟩:=hq
 cases e with
 | normal =>
  obtain⟨x',p',hlt,hj,hwk⟩:=h1;obtain⟨g2,r1⟩:=(h2.drop hj).wk hwk;exact⟨μ x',hlt,x',g2,p',rfl,r1,h3,h4⟩
 | exit i=>exact⟨σ',r',g',h1,h2,h3,h4⟩
 | goto l=>exact⟨σ',r',g',h1,h2,h3,h4⟩
 | ret=>exact⟨σ',r',g',h1,h2,h3,h4⟩
 | panic ch=>exact⟨σ',r',g',h1,h2,h3,h4⟩
 | outgrown=>exact⟨σ',r',g',h1,h2,h3,h4⟩
end
end
section
open Go.RowKit
variable {P:Program}{N:Nat}
def zbx (P:Program)(N:Nat)(ops:Array Oper)(i:Nat)(σ:St)(H:Hid)(K:St->Hid->Prop):Prop:=∀(Q:Exit->St->Hid->Prop) n0 w0 A0 g a w,(∀σ' H',K σ' H'->Q .normal σ' H')->RelH n0 N σ H A0 g a w->LtK n0 w->Bk n0 w0 w->wpOps P ops (qcs n0 N w0 A0 Q) (List.range' i (ops.size-i)) a w
theorem zbt.region {id:Nat}{ops:Array Oper}{σ:St}{H:Hid}{Q:Exit->St->Hid->Prop}(h:zbx P N ops 0 σ H (Q .normal)):zbt P N (.region id ops false) σ H Q:=λn0 w0 A0 g a w h1 h2 h3=>by
 refine wp_region ?_
 rw[List.range_eq_range']
 exact h Q n0 w0 A0 g a w (λ_ _ k=>k) h1 h2 h3
section
variable {ops:Array Oper}{i:Nat}{σ:St}{H:Hid}{K:St->Hid->Prop}
theorem zbx.done (hi:ops.size=i)(h:K σ H):zbx P N ops i σ H K:=λQ n0 w0 A0 g a w hK h1 h2 h3=>by
 rw[hi,Ys]
 exact⟨σ,H,g,hK _ _ h,h1,h2,h3⟩
theorem zbx.plain (k:Nat)(hk:i+k<=ops.size)(hg:(ops.toList.all λo=>o.guard.isNone)=true)(hd:zdf N (.region 0 ops false)=true)(h:exo P ops ((ops.toList.drop i).take k) [] (λ_ σ'=>zbx P N ops (i+k) σ' H K) σ):zbx P N ops i σ H K:=λQ n0 w0 A0 g a w hK h1 h2 h3=>by
 obtain⟨n1,k1,k2,k4,k5,k7⟩:=h1.rel
 have hd':∀o∈ops.toList,∀d,o.dst=some d->d<N:=λo ho d hdd=>by
  simp only[zdf,Km]at hd;have:=hd o (by simpa using ho);rw[hdd]at this;simpa using this
 have hg':∀o∈ops.toList,o.guard=none:=λo ho=>by
  have:=Qq.1 hg o ho;simpa using this
 have hr:List.range' i (ops.size-i)=List.range' i k++List.range' (i+k) (ops.size-(i+k)):=by
  rw[List.range'_append_1];congr 1;omega
 rw[hr]
 refine qil (w0:=w) (A0:=(g.A0,g.R0)) hg' ?_ k i hk hd' σ g a w (by simpa[exo,qc9]using h) k4 k5 (Bk.refl _ _) rfl
 intro a' w' σ' g' hK' m2 m3 m4 m5
 exact hK' Q n0 w0 A0 g' a' w' hK (h1.keep k1 k2 k7 m2 m3 m4 m5) (h2.mono m4.size) (h3.trans (qim k1 m4))
theorem zbx.stepV {o:Oper}(hl:ops[i]?=some o)(hg:o.guard=none)(h:∀n0 A0 g a w,RelH n0 N σ H A0 g a w->LtK n0 w->∃v w' σ' H' g',(execOp a.eval o).run P w=.ok (.value v) w'/\RelH n0 N σ' H' A0 g' (a.put o.dst v) w'/\Bk n0 w w'/\zbx P N ops (i+1) σ' H' K):zbx P N ops i σ H K:=λQ n0 w0 A0 g a w hK h1 h2 h3=>by
 have hlt:i<ops.size:=(Array.getElem?_eq_some_iff.1 hl).1
 obtain⟨v,w',σ',H',g',hex,hR,hb,hr⟩:=h n0 A0 g a w h1 h2
 rw[show List.range' i (ops.size-i)=i::List.range' (i+1) (ops.size-(i+1)) by rw[show ops.size-i=(ops.size-(i+1))+1 by omega];rfl,wpOps_cons]
 unfold wpOp
 simp only[hl]
 rw[if_pos (by simp[Region.wanted,hg])]
 refine Or.inl ?_
 unfold Oper.wp
 rw[hex]
 exact hr Q n0 w0 A0 g' _ w' hK hR (h2.mono hb.size) (h3.trans hb)
theorem zbx.stepS {o:Oper}(hl:ops[i]?=some o)(hg:o.guard=none)(h:∀n0 A0 g a w,RelH n0 N σ H A0 g a w->LtK n0 w->∃w' σ' H' g',(execOp a.eval o).run P w=.ok .skip w'/\RelH n0 N σ' H' A0 g' (a.put o.dst undef) w'/\Bk n0 w w'/\zbx P N ops (i+1) σ' H' K):zbx P N ops i σ H K:=λQ n0 w0 A0 g a w hK h1 h2 h3=>by
 have hlt:i<ops.size:=(Array.getElem?_eq_some_iff.1 hl).1
 obtain⟨w',σ',H',g',hex,hR,hb,hr⟩:=h n0 A0 g a w h1 h2
 rw[show List.range' i (ops.size-i)=i::List.range' (i+1) (ops.size-(i+1)) by rw[show ops.size-i=(ops.size-(i+1))+1 by omega];rfl,wpOps_cons]
 unfold wpOp
 simp only[hl]
 rw[if_pos (by simp[Region.wanted,hg])]
 refine Or.inl ?_
 unfold Oper.wp
 rw[hex]
 exact hr Q n0 w0 A0 g' _ w' hK hR (h2.mono hb.size) (h3.trans hb)
variable {ty:TypeId}{ps:String}{af:Array Edge}{mt:TypeId}
theorem zbx.make {d:Nat}(ag:Bool)(hl:ops[i]?=some ⟨some d,.makeMap mt none,ty,ps,af,none⟩)(hd:d<N)(k:∀b,(∀p∈H,p.1≠b)->zbx P N ops (i+1) (σ.put (some d) (.one (.cv (.map (some b))))) ((b,.mp ag [])::H) K):zbx P N ops i σ H K:=zbx.stepV hl rfl λn0 A0 g a w h1 h2=>by
 obtain⟨n1,k1,k2,k4,k5,k7⟩:=h1.rel
 have hlt:∀p∈H,p.1<w.heap.size:=λp hp=>k5 p.1 (k2 p hp).1
 have hne:∀p∈H,p.1≠w.heap.size:=λp hp=>by have:=hlt p hp;omega
 have hR1:=(k4.enter1 (.map #[] 0)).put (some d) (x:=.one (.cv (.map (some w.heap.size)))) (v:=.map (some w.heap.size)) rfl (λj hj=>by cases hj;exact hd)
 have hold:∀x,x<w.heap.size->(w.alloc (.map #[] 0)).heap[x]?=w.heap[x]?:=λx hx=>Below.heap_alloc _ _ _ hx
 refine⟨.map (some w.heap.size),w.alloc (.map #[] 0),_,_,_,?_,⟨⟨λb=>n1 b\/b=w.heap.size,λx hx=>Or.inl (k1 x hx),λp hp=>?_,hR1,λx hx=>?_,λp hp=>?_⟩,λp hp=>?_,?_,λx hx=>h1.sub x hx.1,h1.r0,h1.new⟩,⟨rfl,rfl,rfl,by simp,λk hk=>hold k (h2 k hk)⟩,k w.heap.size hne⟩
 ·unfold execOp;simp only[J1,Sem.run_bind,zkq,Result.andThen_ok,Sem.run_pure]
 ·rcases Qu.1 hp with rfl|hp
  ·exact⟨Or.inr rfl,λq=>q.2 rfl⟩
  ·exact⟨Or.inl (k2 p hp).1,λq=>(k2 p hp).2 q.1⟩
 ·rcases hx with q|q
  ·have:=k5 x q;simp;omega
  ·simp;omega
 ·rcases Qu.1 hp with rfl|hp
  ·refine⟨#[],0,(Go.MapKept.heap_alloc w _).1,?_,Go.MapKept.stamped_empty 0⟩;unfold zal;rfl
  ·exact zu7.keep (λx hx=>hold x (k5 x hx)) (λx hx=>hx.1) (λx hx=>⟨Or.inl hx.1,hx.2,λe=>by have:=k5 x hx.1;omega⟩) (λx hx=>Or.inl hx) (k2 p hp).1 (k7 p hp)
 ·rcases Qu.1 hp with rfl|hp
  ·exact h2.new (Qz _)
  ·exact h1.nb p hp
 ·rw[Qc,Kx];refine⟨λhm=>?_,h1.nd⟩;obtain⟨p,hp,e⟩:=Ka.1 hm;exact hne p hp e
end
end
section
open Go.RowKit
variable {P:Program}{N:Nat}
theorem Rel.freeze {n1:Nat->Prop}{σ:St}{g:Gh}{a:Act}{w:World}(h:Rel n1 N σ g a w)(hn:LtK n1 w):Rel (λy=>n1 y\/zch σ g w y) N σ g a w/\LtK (λy=>n1 y\/zch σ g w y) w:=by
 refine⟨?_,λy hy=>?_⟩
 ·have:=h.turn (n1:=λy=>n1 y\/zch σ g w y) (A1:=g.A0) (w':=w) (λy hf=>⟨hf.2.2.2,rfl⟩) (Qz _) (λy hy=>h.anew y λq=>hy (Or.inl q)) (λj hj=>⟨?_,rfl⟩) λe ho y hy=>⟨?_,(h.ebase e ho y hy).1,rfl⟩
  ·exact this
  ·rintro(q|q)
   ·exact h.base j hj q
   ·exact q.1.1 j hj rfl
  ·rintro(q|q)
   ·exact h.etop e ho y hy q
   ·exact q.2 e ho hy
 ·rcases hy with q|q
  ·exact hn y q
  ·exact q.1.2.2.1
theorem zvk {n1:Nat->Prop}{σ:St}{g:Gh}{a:Act}{w:World}(h:Rel n1 N σ g a w)(hn:LtK n1 w){x:Nat}(h1:n1 x)(h2:g.A0 x):zch σ g w x :=
 ⟨⟨λk hk e=>h.base k hk (e▸h1),λe y he ho hh=>h.etop e ⟨y,he,ho⟩ x (List.mem_of_mem_head? hh) h1,hn x h1,h2⟩,λe ho hm=>h.etop e ho x hm h1⟩
theorem RelH.freeze {n0:Nat->Prop}{σ:St}{H:Hid}{A0:(Nat->Prop)×RP}{g:Gh}{a:Act}{w:World}(h:RelH n0 N σ H A0 g a w):∃n1:Nat->Prop,(∀x,n0 x->n1 x)/\(∀p∈H,n1 p.1/\¬g.A0 p.1)/\Rel n1 N σ g a w/\LtK n1 w/\(∀p∈H,zu7 w (λx=>n1 x/\g.A0 x) n1 p.1 p.2)/\∀x,zch σ g w x->n1 x:=by
 obtain⟨n1,k1,k2,k4,k5,k7⟩:=h.rel
 obtain⟨r1,r2⟩:=k4.freeze k5
 exact⟨λy=>n1 y\/zch σ g w y,λx hx=>Or.inl (k1 x hx),λp hp=>⟨Or.inl (k2 p hp).1,(k2 p hp).2⟩,r1,r2,λp hp=>zu7.keep (λ_ _=>rfl) (λx hx=>hx.1) (λx hx=>⟨Or.inl hx.1,hx.2⟩) (λx hx=>Or.inl hx) (k2 p hp).1 (k7 p hp),λx hx=>Or.inr hx⟩
theorem qkr {n1 A:Nat->Prop}{w w':World}{H:Hid}{j b:Nat}{o o':Ob}(hj:H[j]?=some (b,o))(hnd:(H.map (·.1)).Nodup)(hsrc:∀p∈H,∀src ag left last,p.2=.it src ag left last->src≠b)(hA:∀x,A x->n1 x)(hAb:¬A b)(hs:∀x,x≠b->w'.heap[x]?=w.heap[x]?)
  (ho:∀p∈H,zu7 w A n1 p.1 p.2) (hn:∀p∈H,n1 p.1) (hb:zu7 w' A n1 b o'):∀p∈H.set j (b,o'),zu7 w' A n1 p.1 p.2:=λp hp=>by
 obtain⟨k,hk,rfl⟩:=List.getElem_of_mem hp
 rw[List.length_set]at hk
 by_cases hkj:k=j
 ·subst hkj;rw[List.getElem_set_self];exact hb
 ·rw[List.getElem_set_ne Y0];have hm:H[k]∈H:=Qk hk;obtain⟨hlt,hje⟩:=List.getElem?_eq_some_iff.1 hj;have hne:H[k].1≠b:=λe=>by
   have:=(List.getElem_inj (xs:=H.map (·.1)) (i:=k) (j:=j) (h₀:=by simpa using hk) (h₁:=by simpa using hlt) hnd).1 (by rw[Ym,Ym,hje,e]);exact hkj this
  have h0:=ho _ hm;revert h0;generalize hp2:H[k].2=q;cases q with
  | mp ag rows =>
   rintro⟨es,clk,h1,h2,h3⟩;exact⟨es,clk,(hs _ hne).trans h1,zal.keep (λx hx=>hs x λe=>hAb (e▸hx)) (λx hx=>hx) ag rows _ h2,h3⟩
  | it src ag left last =>
   rintro⟨h0,es,clk,seen,h1,h2,h3,h4,h5⟩;refine⟨h0,es,clk,seen,(hs _ hne).trans h1,(hs _ (hsrc _ hm _ _ _ _ hp2)).trans h2,h3,zal.keep (λx hx=>hs x λe=>hAb (e▸hx)) (λx hx=>hx) ag left _ h4,λr hr=>?_⟩;obtain⟨e,q1,q2,q3⟩:=h5 r hr;exact⟨e,q1,q2,zal.keep (λx hx=>hs x λe=>hAb (e▸hx)) (λx hx=>hx) ag [r] _ q3⟩
def qcu (b:Nat)(H:Hid):Prop:=∀p∈H,∀src ag left last,p.2=.it src ag left last->src≠b
theorem zvd {H:Hid}{j b:Nat}{o o':Ob}(hj:H[j]?=some (b,o)):(H.set j (b,o')).map (·.1)=H.map (·.1):=by
 rw[List.map_set]
 obtain⟨hlt,hje⟩:=List.getElem?_eq_some_iff.1 hj
 apply List.ext_getElem
 ·simp
 ·intro k h1 h2;by_cases hk:k=j
  ·subst hk;rw[List.getElem_set_self,Ym,hje]
  ·rw[List.getElem_set_ne Y0]
theorem zgg {H:Hid}{j b:Nat}{o o':Ob}(hj:H[j]?=some (b,o)){p:Nat×Ob}(hp:p∈H.set j (b,o')):∃q∈H,q.1=p.1:=by
 have:p.1∈H.map (·.1):=by rw[<-zvd (o':=o') hj];exact Ka.2 ⟨p,hp,rfl⟩
 obtain⟨q,h1,h2⟩:=Ka.1 this
 exact⟨q,h1,h2⟩
theorem zoq {d:TypeDesc}{k:Value}:∀(l:List MapEntry)(i:Nat),Instr.findNow d k l i=some none->(∀v:Value,Instr.sameNow d k v=some false->v≠k)->∀x∈l,x.key≠k
 | [],_,_,_,x,hx=>by simp at hx
 | e::es,i,h,hk,x,hx=>by
  unfold Instr.findNow at h;cases hs:Instr.sameNow d k e.key with
  | none=>rw[hs]at h;simp at h
  | some r =>
   rw[hs]at h;cases r with
   | true=>simp at h
   | false =>
    rcases Qu.1 hx with rfl|hx
    ·exact hk _ hs
    ·exact zoq es (i+1) (by simpa using h) hk x hx
end
section
open Go.RowKit
variable {P:Program}{N:Nat}
theorem qau {k x:T}(h:zsg k x=some true):x=k:=by
 cases k<;>cases x<;>simp only[zsg,Qe,reduceCtorEq]at h
 ·split at h
  ·simp at h;rename_i e;rw[e,h]
  ·cases h
 ·simp at h;rw[h]
 ·simp at h;rw[h]
theorem zom {w:World}{A:Nat->Prop}{d:TypeDesc}{k:T}{kv:Value}(hd:zr4 d k=true)(hk:zau w A k kv)(ag:Bool):∀(rows:List (List T))(es:List MapEntry)(i:Nat)(vs:List T),zal w A ag rows es->zb8 k rows=some (some vs) →
  ∃m e,Instr.findNow d kv es i=some (some (i+m,e.val))/\es[m]?=some e/\rows[m]?=some (k::vs)/\zau w A k e.key
 | [],es,i,vs,h,hf=>by cases hf
 | []::_,_,_,_,_,hf=>by cases hf
 | (x::xs)::rows,es,i,vs,h,hf=>by
  unfold zal at h;obtain⟨e,es',us,rfl,h1,h2,h3⟩:=h;unfold zag at h2;obtain⟨xv,us',e1,h2,h4⟩:=h2;cases e1;unfold zb8 at hf;split at hf
  ·rename_i hq;cases hf;have hx:=qau hq;subst hx;exact⟨0,e,by simp[Instr.findNow,zja hd hq hk h2],rfl,rfl,h2⟩
  ·rename_i hq;obtain⟨m,e',f1,f2,f3,f4⟩:=zom hd hk ag rows es' (i+1) vs h3 hf;refine⟨m+1,e',?_,by simpa using f2,by simpa using f3,f4⟩;simp only[Instr.findNow,zja hd hq hk h2];rw[f1];congr 3;omega
  ·cases hf
theorem qoq {w w':World}{A A':Nat->Prop}{d:TypeDesc}{k:T}{u v:Value}(hd:zr4 d k=true)(h:zau w A k u)(h':zau w' A' k v):u=v:=by
 cases d<;>cases k<;>simp[zr4]at hd<;>unfold zau at h h'
 ·rw[h,h']
 ·rw[h.1,h'.1]
 ·rw[h.1,h'.1]
theorem zal.modify {w:World}{A:Nat->Prop}{ag:Bool}{f:MapEntry->MapEntry}:∀{rows:List (List T)}{es:List MapEntry}{m:Nat}{r:List T}{e:MapEntry},zal w A ag rows es->rows[m]?=some r->es[m]?=some e->zal w A ag [r] [f e]->zal w A ag rows (es.modify m f)
 | [],_,m,r,e,_,hr,_,_=>by simp at hr
 | r0::rows,es,m,r,e,h,hr,he,hn=>by
  unfold zal at h;obtain⟨e0,es',us,rfl,h1,h2,h3⟩:=h;cases m with
  | zero =>
   simp only[List.getElem?_cons_zero,Qe]at hr he;subst hr he;unfold zal at hn;obtain⟨e1,es1,us1,q1,q2,q3,q4⟩:=hn;obtain⟨rfl,rfl⟩:=Yu q1;show zal w A ag (r0::rows) (f e0::es')
   unfold zal;exact⟨_,_,us1,rfl,q2,q3,h3⟩
  | succ m =>
   show zal w A ag (r0::rows) (e0::es'.modify m f)
   unfold zal;exact⟨_,_,us,rfl,h1,h2,zal.modify h3 (by simpa using hr) (by simpa using he) hn⟩
def zu9 (P:Program)(σ:St)(H:Hid)(j:Nat)(mt:TypeId)(x k v:Operand)(K:Hid->Prop):Prop:=match H[j]?,σ.get P 0 x,σ.get P 0 k,qc8 P mt with
 | some (b,.mp ag rows),.one (.cv (.map (some b'))),.one (.t kT),some (d,_)=>match mvV ag (σ.get P 0 v)with
  | some vts=>b'=b/\zr4 d kT=true/\((zb8 kT rows=some none/\K (H.set j (b,.mp ag (rows++[kT::vts]))))\/(zb8 kT rows=some (some vts)/\K H))
  | none=>False
 | _,_,_,_=>False
theorem qo3 {σ:St}{H:Hid}{j:Nat}{mt:TypeId}{x k v:Operand}{K:Hid->Prop}(h:zu9 P σ H j mt x k v K):∃b ag rows kT d et vts,H[j]?=some (b,.mp ag rows)/\σ.get P 0 x=.one (.cv (.map (some b)))/\σ.get P 0 k=.one (.t kT)/\qc8 P mt=some (d,et)/\mvV ag (σ.get P 0 v)=some vts/\zr4 d kT=true ∧
  ((zb8 kT rows=some none/\K (H.set j (b,.mp ag (rows++[kT::vts]))))\/(zb8 kT rows=some (some vts)/\K H)):=by
 unfold zu9 at h
 split at h
 ·rename_i b ag rows b' kT d et h1 h2 h3 h4;split at h
  ·rename_i vts h5;obtain⟨rfl,h6,h7⟩:=h;exact⟨_,ag,rows,kT,d,et,vts,h1,h2,h3,h4,h5,h6,h7⟩
  ·exact h.elim
 ·exact h.elim
section
variable {ops:Array Oper}{i:Nat}{σ:St}{H:Hid}{K:St->Hid->Prop}{ty:TypeId}{ps:String}{af:Array Edge}{mt:TypeId}{x k v:Operand}
theorem qdr {n0:Nat->Prop}{A0:(Nat->Prop)×RP}{g:Gh}{a:Act}{w:World}{b j:Nat}{ag:Bool}{rows rows':List (List T)}(h1:RelH n0 N σ H A0 g a w)(h2:LtK n0 w)(hj:H[j]?=some (b,.mp ag rows))(hni:qcu b H){es':Array MapEntry}{clk':Nat}
  (hm:∀n1:Nat->Prop,(∀x,zch σ g w x->n1 x)->Rel n1 N σ g a w->∀es clk,w.heap[b]?=some (.map es clk)->zal w (λx=>n1 x/\g.A0 x) ag rows es.toList->Go.MapKept.Stamped es clk->zal w (λx=>n1 x/\g.A0 x) ag rows' es'.toList/\Go.MapKept.Stamped es' clk') :
  RelH n0 N σ (H.set j (b,.mp ag rows')) A0 g a { w with heap:=w.heap.setIfInBounds b (.map es' clk') }/\Bk n0 w { w with heap:=w.heap.setIfInBounds b (.map es' clk') }:=by
 obtain⟨n1,k1,k2,k4,k5,k7,kF⟩:=h1.freeze
 have hmem:(b,Ob.mp ag rows)∈H:=List.mem_of_getElem? hj
 obtain⟨es,clk,q1,q2,q3⟩:=k7 _ hmem
 obtain⟨r1,r2⟩:=hm n1 kF k4 es clk q1 q2 q3
 obtain⟨hb1,hb2⟩:=k2 _ hmem
 have hb1:n1 b:=hb1
 have hb2:¬g.A0 b:=hb2
 have hset:=Go.MapKept.heap_set (o':=.map es' clk') q1
 have hother:∀x,x≠b->({ w with heap:=w.heap.setIfInBounds b (.map es' clk') }:World).heap[x]?=w.heap[x]?:=hset.2
 have hself:({ w with heap:=w.heap.setIfInBounds b (.map es' clk') }:World).heap[b]?=some (.map es' clk'):=hset.1
 have hsize:({ w with heap:=w.heap.setIfInBounds b (.map es' clk') }:World).heap.size=w.heap.size:=by simp
 have hbk:Bk n0 w { w with heap:=w.heap.setIfInBounds b (.map es' clk') }:=⟨rfl,rfl,rfl,by rw[hsize];exact Qz _,λy hy=>hother y λe=>h1.nb _ hmem (e▸hy)⟩
 generalize hw:({ w with heap:=w.heap.setIfInBounds b (.map es' clk') }:World)=w2 at hother hself hsize hbk⊢
 have hR2:Rel n1 N σ g a w2:=k4.turn (A1:=g.A0) (w':=w2) (λy hf=>⟨hf.2.2.2,hother y λe=>hb2 (e▸hf.2.2.2)⟩) (by rw[hsize];exact Qz _) (λy hy=>k4.anew y hy) (λl hl=>⟨k4.base l hl,hother _ λe=>k4.base l hl (e▸hb1)⟩) λe ho y hy=>⟨k4.etop e ho y hy,(k4.ebase e ho y hy).1,hother y λq=>k4.etop e ho y hy (q▸hb1)⟩
 refine⟨⟨⟨n1,k1,λp hp=>?_,hR2,λy hy=>by rw[hsize];exact k5 y hy,?_⟩,λp hp=>?_,by rw[zvd hj];exact h1.nd,h1.sub,h1.r0,h1.new⟩,hbk⟩
 ·obtain⟨q,hq,e⟩:=zgg hj hp;rw[<-e];exact k2 q hq
 ·refine qkr hj h1.nd hni (λx hx=>hx.1) (λh=>hb2 h.2) hother k7 (λp hp=>(k2 p hp).1) ⟨es',clk',hself,?_,r2⟩;exact zal.keep (λy hy=>hother y λe=>hb2 (e▸hy.2)) (λy hy=>hy) ag rows' _ r1
 ·obtain⟨q,hq,e⟩:=zgg hj hp;rw[<-e];exact h1.nb q hq
end
end
section
open Go.RowKit
variable {P:Program}{N:Nat}
section
variable {ops:Array Oper}{i:Nat}{σ:St}{H:Hid}{K:St->Hid->Prop}{ty:TypeId}{ps:String}{af:Array Edge}{mt:TypeId}{x k v:Operand}
theorem key_ne {d:TypeDesc}{kv:Value}(hk:Go.MapKept.IsKey d kv)(u:Value)(h:Instr.sameNow d kv u=some false):u≠kv:=λe=>by
 subst e
 obtain⟨r,h1,h2⟩:=Go.MapKept.sameNow_of_keys hk hk
 rw[h2.2 rfl]at h1
 rw[h1]at h
 cases h
theorem qel {o:Oper}(j:Nat)(ho:o.op=.mapUpdate mt x k v\/o.op=.insert mt x k v)(hd0:o.dst=none)(hg:o.guard=none)(hl:ops[i]?=some o)(h:zu9 P σ H j mt x k v λH'=>qcu (H'.getD j (0,.mp true [])).1 H/\zbx P N ops (i+1) σ H' K):zbx P N ops i σ H K:=zbx.stepS hl hg λn0 A0 g a w h1 h2=>by
 obtain⟨b,ag,rows,kT,d,et,vts,hj,c1,c2,c3,c4,c5,hK⟩:=qo3 h
 obtain⟨kt,t1,t2⟩:=zkj c3
 obtain⟨hjl,hje⟩:=List.getElem?_eq_some_iff.1 hj
 obtain⟨n1,k1,k2,k4,k5,k7,kF⟩:=h1.freeze
 obtain⟨es,clk,q1,q2,q3⟩:=k7 _ (List.mem_of_getElem? hj)
 have v1:=k4.get P 0 x
 have v2:=k4.get P 0 k
 have v3:=k4.get P 0 v
 rw[c1]at v1
 rw[c2]at v2
 have v1:a.eval x=.map (some b):=v1
 have v2:zau w (Fix σ g w) kT (a.eval k):=v2
 have hkey:=zhv c5 v2
 have hput:a.put o.dst undef=a:=by rw[hd0];rfl
 rw[hput]
 rcases hK with⟨hf,hni,hK⟩|⟨hf,hni,hK⟩
 ·have hni:qcu b H:=by
   rw[List.getD_eq_getElem?_getD,List.getElem?_set_self hjl]at hni;exact hni
  have hfn:=zdm c5 (zcq (A':=λx=>n1 x/\g.A0 x) (w':=w) (zel c5) v2) ag rows es.toList 0 none q2 hf;have hrun:=zky t1 t2 (val:=a.eval v) q1 hkey hfn;have hex:(execOp a.eval o).run P w=.ok .skip { w with heap:=w.heap.setIfInBounds b (.map (es.push { key:=a.eval k,val:=a.eval v,born:=clk }) (clk+1)) }:=by
   unfold execOp;rcases ho with ho|ho<;>rw[ho]<;>simp only[v1,Sem.run_bind,hrun,Result.andThen_ok,Sem.run_pure]
  obtain⟨r1,r2⟩:=qdr (rows':=rows++[kT::vts]) (es':=es.push { key:=a.eval k,val:=a.eval v,born:=clk }) (clk':=clk+1) h1 h2 hj hni λn2 hF hR es2 clk2 z1 z2 z3=>by
   rw[q1]at z1;obtain⟨rfl,rfl⟩:es=es2/\clk=clk2:=by cases z1;exact⟨rfl,rfl⟩
   refine⟨?_,Go.MapKept.stamped_push z3 (zoq es.toList 0 hfn (key_ne hkey))⟩;obtain⟨us,u1,u2⟩:=zvz (A:=λy=>n2 y/\g.A0 y) (λy hy=>⟨hF y hy,hy.1.2.2.2⟩) c4 v3;rw[Array.toList_push];refine zal.push ⟨us,u1,?_⟩ z2;unfold zag;exact⟨_,_,rfl,zcq (zel c5) v2,u2⟩
  exact⟨_,σ,_,g,hex,r1,r2,hK⟩
 ·have hni:qcu b H:=by
   rw[List.getD_eq_getElem?_getD,hj]at hni;exact hni
  obtain⟨m,e,f1,f2,f3,f4⟩:=zom c5 (zcq (A':=λx=>n1 x/\g.A0 x) (w':=w) (zel c5) v2) ag rows es.toList 0 vts q2 hf;have hke:e.key=a.eval k:=qoq c5 f4 v2;have f2':es[m]?=some e:=by simpa using f2
  have hrun:(Instr.mapUpdate mt (.map (some b)) (a.eval k) (a.eval v)).run P w=.ok () { w with heap:=w.heap.setIfInBounds b (.map (es.modify m λe'=>{ e' with key:=a.eval k,val:=a.eval v }) clk) }:=by
   rw[Q7]at f1;simp[Instr.mapUpdate,run_underlying t1,Go.MapKept.run_getObj_map q1,Go.MapKept.run_checkKey t2 hkey,Go.MapKept.run_findKey t2 f1,f2',hke,Go.MapKept.run_keyThatStays hkey,Go.MapKept.run_setObj_map _ q1,Result.andThen]
  have hex:(execOp a.eval o).run P w=.ok .skip { w with heap:=w.heap.setIfInBounds b (.map (es.modify m λe'=>{ e' with key:=a.eval k,val:=a.eval v }) clk) }:=by
   unfold execOp;rcases ho with ho|ho<;>rw[ho]<;>simp only[v1,Sem.run_bind,hrun,Result.andThen_ok,Sem.run_pure]
  obtain⟨r1,r2⟩:=qdr (rows':=rows) (es':=es.modify m λe'=>{ e' with key:=a.eval k,val:=a.eval v }) (clk':=clk) h1 h2 hj hni λn2 hF hR es2 clk2 z1 z2 z3=>by
   rw[q1]at z1;obtain⟨rfl,rfl⟩:es=es2/\clk=clk2:=by cases z1;exact⟨rfl,rfl⟩
   obtain⟨us,u1,u2⟩:=zvz (A:=λy=>n2 y/\g.A0 y) (λy hy=>⟨hF y hy,hy.1.2.2.2⟩) c4 v3;refine⟨?_,Go.MapKept.stamped_modify z3 _ _ (λ_ _=>rfl) λe' _ he'=>by rw[f2']at he';cases he';exact hke.symm⟩;rw[Array.toList_modify];refine zal.modify z2 f3 f2 ?_;unfold zal;refine⟨_,[],us,rfl,u1,?_,?_⟩
   ·unfold zag;exact⟨_,_,rfl,zcq (zel c5) v2,u2⟩
   ·unfold zal;rfl
  have hset:H.set j (b,.mp ag rows)=H:=by
   rw[<-hje];exact List.set_getElem_self hjl
  rw[hset]at r1;exact⟨_,σ,_,g,hex,r1,r2,hK⟩
theorem zbx.upd (j:Nat)(hl:ops[i]?=some ⟨none,.mapUpdate mt x k v,ty,ps,af,none⟩)(h:zu9 P σ H j mt x k v λH'=>qcu (H'.getD j (0,.mp true [])).1 H/\zbx P N ops (i+1) σ H' K):zbx P N ops i σ H K:=qel j (Or.inl rfl) rfl rfl hl h
theorem zbx.ins (j:Nat)(hl:ops[i]?=some ⟨none,.insert mt x k v,ty,ps,af,none⟩)(h:zu9 P σ H j mt x k v λH'=>qcu (H'.getD j (0,.mp true [])).1 H/\zbx P N ops (i+1) σ H' K):zbx P N ops i σ H K:=qel j (Or.inr rfl) rfl rfl hl h
def qsa (ag:Bool)(vs:List T):Bool×List C:=(ag,vs.map T.toN)
theorem qkj {σ:St}{g:Gh}{w:World}{t:T}{v:Value}(h:zau w (zch σ g w) t v):CR σ g w t.toN v:=by
 cases t<;>first|exact h|exact zau.keep (λ_ _=>rfl) (λb hb=>hb.1) _ v h
theorem zyh {σ:St}{g:Gh}{w:World}:∀{ts:List T}{vs:List Value},zag w (zch σ g w) ts vs->CRs σ g w (ts.map T.toN) vs
 | [],vs,h=>by unfold zag at h;exact h
 | t::ts,vs,h=>by
  unfold zag at h;obtain⟨v,vs',rfl,h1,h2⟩:=h;exact⟨v,vs',rfl,qkj h1,zyh h2⟩
theorem qfn {σ:St}{g:Gh}{w:World}{ag:Bool}{vs:List T}{u:Value}{us:List Value}(hu:if ag=true then u=.agg ⟨us⟩else us=[u])(h:zag w (zch σ g w) vs us):CRx σ g w (qsa ag vs) u:=by
 unfold CRx qsa
 cases ag
 ·simp only[Qp,if_false]at hu⊢;subst hu;cases vs with
  | nil=>unfold zag at h;cases h
  | cons t vs =>
   unfold zag at h;obtain⟨v,vs',e,h1,h2⟩:=h;cases e;cases vs with
   | nil=>exact⟨_,rfl,qkj h1⟩
   | cons t' vs'=>unfold zag at h2;obtain⟨_,_,e,_⟩:=h2;cases e
 ·simp only[if_true]at hu⊢;exact⟨us,hu,zyh h⟩
def lkH (P:Program)(σ:St)(H:Hid)(j:Nat)(mt:TypeId)(x ix:Operand)(K:V->Prop):Prop:=match H[j]?,σ.get P 0 x,σ.get P 0 ix,qc8 P mt with
 | some (b,.mp ag rows),.one (.cv (.map (some b'))),.one (.t kT),some (d,et)=>b'=b/\zr4 d kT=true/\zav (zb8 kT rows) λr=>match r with
  | some vs=>K (.tup [qsa ag vs,(false,[.t (.bool true)])])
  | none=>zav (qql P et) K
 | _,_,_,_=>False
theorem zbx.look {d:Nat}(j:Nat)(hl:ops[i]?=some ⟨some d,.lookup mt x k true,ty,ps,af,none⟩)(hd:d<N)(h:lkH P σ H j mt x k λy=>zbx P N ops (i+1) (σ.put (some d) y) H K):zbx P N ops i σ H K:=zbx.stepV hl rfl λn0 A0 g a w h1 h2=>by
 unfold lkH at h
 split at h
 ·rename_i b ag rows b' kT dd et hj c1 c2 c3;obtain⟨rfl,c5,h⟩:=h;obtain⟨r,hf,h⟩:=zap h;obtain⟨kt,t1,t2⟩:=zkj c3;obtain⟨n1,k1,k2,k4,k5,k7⟩:=h1.rel;obtain⟨es,clk,q1,q2,q3⟩:=k7 _ (List.mem_of_getElem? hj);have q1:w.heap[b']?=some (.map es clk):=q1;have v1:=k4.get P 0 x;have v2:=k4.get P 0 k;rw[c1]at v1;rw[c2]at v2;have v1:a.eval x=.map (some b'):=v1;have v2:zau w (Fix σ g w) kT (a.eval k):=v2;have hfr:∀y,n1 y/\g.A0 y->zch σ g w y:=λy hy=>zvk k4 k5 hy.1 hy.2;have fin:∀{V:V} {u:Value},VR σ g w V u->RelH n0 N (σ.put (some d) V) H A0 g (a.put (some d) u) w:=λhV=>h1.keep k1 k2 k7 (k4.put (some d) hV (λq hq=>by cases hq;exact hd)) k5 (Bk.refl _ _) rfl;cases r with
  | some vs =>
   obtain⟨m,u,us,f1,f2,f3⟩:=zdm c5 (zcq (A':=λx=>n1 x/\g.A0 x) (w':=w) (zel c5) v2) ag rows es.toList 0 (some vs) q2 hf;refine⟨.tuple #[u,.bool true],w,_,H,g,?_,fin (V:=.tup [qsa ag vs,(false,[.t (.bool true)])]) ⟨[u,.bool true],rfl,u,[.bool true],rfl,qfn f2 (zag.keep (λ_ _=>rfl) hfr _ _ f3),.bool true,[],rfl,⟨.t (.bool true),rfl,rfl⟩,rfl⟩,Bk.refl _ _,h⟩;unfold execOp;simp[Instr.lookup,run_underlying t1,v1,Go.MapKept.run_getObj_map q1,Go.MapKept.run_checkKey t2 (zhv c5 v2),Go.MapKept.run_findKey t2 f1,Result.andThen]
  | none =>
   obtain⟨V,hV,h⟩:=zap h;unfold qql at hV;obtain⟨zv,hz0,hV⟩:=Qf.1 hV;obtain⟨y,hy,rfl⟩:=Q5.1 hV;obtain⟨ii,hi1,hi2⟩:=Qf.1 hz0;have f1:=zdm c5 (zcq (A':=λx=>n1 x/\g.A0 x) (w':=w) (zel c5) v2) ag rows es.toList 0 none q2 hf;refine⟨.tuple #[zv,.bool false],w,_,H,g,?_,fin (V:=.tup [y,(false,[.t (.bool false)])]) ⟨[zv,.bool false],rfl,zv,[.bool false],rfl,zw4 hy (qi6 P σ g w et zv),.bool false,[],rfl,⟨.t (.bool false),rfl,rfl⟩,rfl⟩,Bk.refl _ _,h⟩;unfold execOp;simp[Instr.lookup,run_underlying t1,v1,Go.MapKept.run_getObj_map q1,Go.MapKept.run_checkKey t2 (zhv c5 v2),Go.MapKept.run_findKey t2 f1,Result.andThen,zeroValue,typeInfo,hi1,hi2]
 ·exact h.elim
end
attribute [go_sem] zu9 lkH qsa qql
end
section
open Go.RowKit
variable {P:Program}{N:Nat}
theorem zal.len {w:World}{A:Nat->Prop}{ag:Bool}:∀{rows:List (List T)}{es:List MapEntry},zal w A ag rows es->es.length=rows.length
 | [],es,h=>by unfold zal at h;subst h;rfl
 | r::rows,es,h=>by
  unfold zal at h;obtain⟨e,es',us,rfl,h1,h2,h3⟩:=h;simp[zal.len h3]
theorem zal.at {w:World}{A:Nat->Prop}{ag:Bool}:∀{rows:List (List T)}{es:List MapEntry},zal w A ag rows es->∀(m:Nat) e,es[m]?=some e->∃r,rows[m]?=some r/\zal w A ag [r] [e]
 | [],es,h,m,e,he=>by unfold zal at h;subst h;simp at he
 | r::rows,es,h,m,e,he=>by
  unfold zal at h;obtain⟨e0,es',us,rfl,h1,h2,h3⟩:=h;cases m with
  | zero =>
   simp only[List.getElem?_cons_zero,Qe]at he;subst he;refine⟨r,rfl,?_⟩;unfold zal;refine⟨e0,[],us,rfl,h1,h2,?_⟩;unfold zal;rfl
  | succ m=>simpa using zal.at h3 m e (by simpa using he)
theorem zal.erase {w:World}{A:Nat->Prop}{ag:Bool}:∀{rows:List (List T)}{es:List MapEntry}(m:Nat),zal w A ag rows es->zal w A ag (rows.eraseIdx m) (es.eraseIdx m)
 | [],es,m,h=>by unfold zal at h;subst h;show zal w A ag [] [];unfold zal;rfl
 | r::rows,es,m,h=>by
  unfold zal at h;obtain⟨e0,es',us,rfl,h1,h2,h3⟩:=h;cases m with
  | zero=>exact h3
  | succ m =>
   show zal w A ag (r::rows.eraseIdx m) (e0::es'.eraseIdx m)
   unfold zal;exact⟨e0,_,us,rfl,h1,h2,zal.erase m h3⟩
theorem znk {l:List MapEntry}:∀{m:Nat}{e:MapEntry},(l.map (·.born)).Nodup->l[m]?=some e->l.filter (λx=>!(x.born==e.born))=l.eraseIdx m:=by
 induction l with
 | nil=>intro m e _ h;simp at h
 | cons x l ih =>
  intro m e hn h;rw[Qc,Kx]at hn;cases m with
  | zero =>
   simp only[List.getElem?_cons_zero,Qe]at h;subst h;rw[Jo,if_neg (by simp),List.eraseIdx_cons_zero,List.filter_eq_self];intro y hy;have:y.born≠x.born:=λe=>hn.1 (e▸Ka.2 ⟨y,hy,rfl⟩);simpa using this
  | succ m =>
   have h':l[m]?=some e:=by simpa using h
   have:x.born≠e.born:=λq=>hn.1 (q▸Ka.2 ⟨e,List.mem_of_getElem? h',rfl⟩);rw[Jo,if_pos (by simpa using this),ih hn.2 h',List.eraseIdx_cons_succ]
theorem qgq {es:Array MapEntry}{seen:Array Nat}{m:Nat}{e:MapEntry}(hn:(es.toList.map (·.born)).Nodup)(h:(leftOf es seen).toList[m]?=some e):(leftOf es (seen.push e.born)).toList=(leftOf es seen).toList.eraseIdx m:=by
 have hn2:((leftOf es seen).toList.map (·.born)).Nodup:=by
  unfold leftOf;rw[Array.toList_filter];exact hn.sublist ((List.filter_sublist).map _)
 rw[<-znk hn2 h]
 unfold leftOf
 rw[Array.toList_filter,Array.toList_filter,List.filter_filter]
 congr 1
 funext x
 rw[Array.contains_push]
 cases seen.contains x.born<;>simp[Bool.beq_comm,eq_comm]<;>rfl
theorem zvl {w:World}(ty:TypeId)(r bm clk:Nat)(seen:Array Nat)(es:Array MapEntry)(hr:w.heap[r]?=some (.mapIter (some bm) clk seen clk))(hb:w.heap[bm]?=some (.map es clk))(hold:∀x∈es.toList,x.born<clk) :
  ((leftOf es seen).toList=[]/\(Instr.next (.pointer (some ⟨r,0,none⟩)) false ty).run P w=.ok (.tuple #[.bool false]) w) ∨
  ∃(m:Nat) (e:MapEntry) (n:Nat),(leftOf es seen).toList[m]?=some e/\(Instr.next (.pointer (some ⟨r,0,none⟩)) false ty).run P w=.ok (.tuple #[.bool true,e.key,e.val]) { w with heap:=w.heap.setIfInBounds r (.mapIter (some bm) clk (seen.push e.born) clk),drawn:=w.drawn+n }:=by
 simp only[Instr.next,getObj,Sem.run_bind,Sem.run,hr,hb,Result.andThen,next_test_false seen es clk clk hold (Qz _),Qp,if_false]
 unfold leftOf
 have hmem:∀x∈(Array.filter (λe=>!seen.contains e.born) es).toList,x.born<clk:=λx hx=>hold x (by simp at hx⊢;exact hx.1)
 generalize Array.filter (λe=>!seen.contains e.born) es=L at hmem⊢
 have e1:L.filter (λx=>decide (x.born<clk))=L:=Array.filter_eq_self.2 (λx hx=>by simpa using hmem x (by simpa using hx))
 have e2:L.filter (λx=>decide (x.born>=clk))=#[]:=by
  rw[Array.filter_eq_empty_iff];intro x hx;have:=hmem x (by simpa using hx);simp;omega
 simp only[e1,e2,Array.append_empty]
 by_cases h0:L.size=0
 ·left;have:L=#[]:=Array.eq_empty_of_size_eq_zero h0;subst this;refine⟨rfl,?_⟩;simp[choose,Sem.run,Question.forced]
 ·right;have hne:L.isEmpty=false:=by simp[Array.isEmpty,h0]
  simp only[hne,Qp,if_false,Array.empty_append,Array.size_map];have hch:∃(j n:Nat),j<L.size/\(choose (Question.mapNext L.size)).run P w=.ok j { w with drawn:=w.drawn+n }:=by
   by_cases hf:L.size<=1
   ·exact⟨0,0,Y0,by simp[choose,Sem.run,Question.forced,hf]⟩
   ·exact⟨_,1,Nat.mod_lt _ Y0,by
     simp only[choose,Sem.run,Question.forced,Q2,hf,if_false,Question.cut]
     rfl⟩
  obtain⟨j,n,hj,hrun⟩:=hch;refine⟨j,L[j],n,by simp[hj],?_⟩;have hset:∀(o':Obj),(setObj r o').run P { w with drawn:=w.drawn+n }=.ok () { w with heap:=w.heap.setIfInBounds r o',drawn:=w.drawn+n }:=λo'=>by
   simp only[setObj,Sem.run];rw[hr]
  simp only[hrun,Array.getElem?_map,Array.getElem?_eq_getElem hj,Q8,Sem.run_bind,hset,Result.andThen];rfl
end
end Go.Proofs.YtnemmlahbbbobaaGreat
