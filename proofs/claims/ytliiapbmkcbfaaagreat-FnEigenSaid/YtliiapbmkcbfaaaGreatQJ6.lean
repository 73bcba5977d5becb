/-
  The walk over plain data, and contracts of functions of the program and of its laws.
  Conditions: those that each theorem names.
-/
import Derived.Test.YtliiapbmkcbfaaaGreatQJ4
import Derived.Test.YtliiapbmkcbfaaaGreatQJ5
namespace Go.Proofs.YtliiapbmkcbfaaaGreat
set_option linter.unusedSimpArgs false
set_option linter.unusedVariables false
set_option linter.unusedSectionVars false
set_option maxRecDepth 4000
set_option maxHeartbeats 8000000
section
open Go.RowKit
variable {P:Program}
inductive AF
 | d (b:Bool) (x:D)
 | p (j:Nat)
 | fn (g:FuncId) (js:List Nat)
def AF.ds:List AF->List (Bool×D)
 | []=>[]
 | .d b x::l=>(b,x)::AF.ds l
 | .p _::l=>AF.ds l
 | .fn _ _::l=>AF.ds l
def qfc (b:Nat):Value:=.pointer (some ⟨b,0,none⟩)
def AF.vals (bs:Nat->Nat):List AF->List Value->List Value
 | [],_=>[]
 | .d _ _::l,v::vs=>v::AF.vals bs l vs
 | .d _ _::_,[]=>[]
 | .p j::l,vs=>qfc (bs j)::AF.vals bs l vs
 | .fn g js::l,vs=>.func (.func g) #[] ⟨js.map fun j=>qfc (bs j)⟩::AF.vals bs l vs
def AF.okJ (n:Nat):List AF->Bool
 | []=>true
 | .d _ _::l=>AF.okJ n l
 | .p j::l=>decide (j<n)&&AF.okJ n l
 | .fn _ js::l=>js.all (fun j=>decide (j<n))&&AF.okJ n l
abbrev Bxs:=List (List (Bool×T))
def zw2 (w:World)(bs:Nat->Nat):Nat->List (List Value)->Bxs->Prop
 | _,[],[]=>True
 | j,vs::bvs,b::bx=>vs.length=b.length/\(∃ty,w.heap[bs j]?=some (.cells ⟨vs⟩ ty (0,0)))/\zw2 w bs (j+1) bvs bx
 | _,_,_=>False
theorem zw2.lt {w:World}{bs:Nat->Nat}:∀{j:Nat}{bvs:List (List Value)}{bx:Bxs},zw2 w bs j bvs bx->∀i,i<bx.length->bs (j+i)<w.heap.size
 | _,[],[],_,i,hi=>by simp at hi
 | j,_::_,_::_,h,0,hi=>by obtain⟨ty,h⟩:=h.2.1;exact(Array.getElem?_eq_some_iff.1 h).1
 | j,_::_,_::_,h,i+1,hi=>by rw[show j+(i+1)=j+1+i by omega];exact zw2.lt h.2.2 i (by simpa using hi)
 | _,[],_::_,h,_,_=>h.elim
 | _,_::_,[],h,_,_=>h.elim
def PC (P:Program)(f:FuncId)(bx:Bxs)(l:List AF)(bx':Bxs)(res:List (Bool×D)):Prop:=zbw P f/\bx'.length=bx.length/\∀(w:World)(bs:Nat->Nat)(bvs:List (List Value))(dvs:List Value)(fp tp:List Nat)(A:Nat->Prop),
 (∀i j,i<bx.length->j<bx.length->bs i=bs j->i=j)->(∀j,j<bx.length->bs j∉fp)->zw2 w bs 0 bvs bx →
 za0 w (fun k=>(k<w.heap.size/\k∉fp/\∀j,j<bx.length->k≠bs j)/\A k) (AF.ds l++bxA bx.flatten) (dvs++bvs.flatten) fp tp->fp.Nodup->dvs.length=(AF.ds l).length →
 Calls P f ⟨AF.vals bs l dvs⟩ w fun e w'=>∃us bvs' fp' tp',e=.returned (zck us)/\zw2 w' bs 0 bvs' bx'/\us.length=res.length ∧
  za0 w' (fun k=>(k<w'.heap.size/\k∉fp'/\∀j,j<bx.length->k≠bs j)/\(A k\/w.heap.size<=k\/k∈fp)) (res++bxA bx'.flatten) (us++bvs'.flatten) fp' tp'/\fp'.Nodup/\(∀b∈fp',b∈fp\/w.heap.size<=b) ∧
  Bk (fun k=>k<w.heap.size/\k∉fp/\∀j,j<bx.length->k≠bs j) w w'
def c1P (k:Nat):Bool×T->C
 | (true,t)=>owC k 0 t
 | (false,t)=>t.toN
def zve:Nat->List (Bool×T)->List C
 | _,[]=>[]
 | k,p::ps=>c1P k p::zve (k+1) ps
def zki:Nat->Nat->Bxs->Nat->Option (List C)
 | _,_,[]=>fun _=>none
 | j,k,b::bs=>upd (zki (j+1) (k+b.length) bs) (1000000+j) (some (zve k b))
def zdg:Nat->Nat->List AF->Nat->V
 | _,_,[]=>fun _=>.one .any
 | i,k,.d b x::l=>upd (zdg (i+1) (k+1) l) i (gVN k (b,x))
 | i,k,.p j::l=>upd (zdg (i+1) k l) i (.one (.bx (1000000+j) 0))
 | i,k,.fn g js::l=>upd (zdg (i+1) k l) i (.one (.fn g (js.map (1000000+·))))
def zi9:Nat->Bxs->(Nat->V)->Nat->V
 | _,[],f=>f
 | j,_::bs,f=>upd (zi9 (j+1) bs f) (1000000+j) (.one (.bx (1000000+j) 0))
def zi0 (l:List AF)(bx:Bxs):St:=⟨zi9 0 bx (zdg 0 0 l),zki 0 (AF.ds l).length bx,zfh 0 (AF.ds l++bxA bx.flatten)⟩
theorem qnu (k:Nat)(p:Bool×T):gVN k (p.1,.one p.2)=.one (c1P k p):=by obtain⟨b,t⟩:=p;cases b<;>rfl
theorem zpu:∀(bx:Bxs)(j:Nat)(f:Nat->V)(i:Nat),((∃q,q<bx.length/\i=1000000+(j+q))/\zi9 j bx f i=.one (.bx i 0))\/((∀q,q<bx.length->i≠1000000+(j+q))/\zi9 j bx f i=f i)
 | [],j,f,i=>Or.inr ⟨fun q hq=>by simp at hq,rfl⟩
 | b::bx,j,f,i=>by
  by_cases hi:i=1000000+j
  ·subst hi;exact Or.inl ⟨⟨0,by simp,rfl⟩,by unfold zi9;rw[zag]⟩
  ·unfold zi9;rw[zal _ _ hi];rcases zpu bx (j+1) f i with⟨⟨q,h1,h2⟩,h3⟩|⟨h1,h2⟩
   ·exact Or.inl ⟨⟨q+1,by simp;omega,Yt⟩,h3⟩
   ·refine Or.inr ⟨fun q hq=>?_,h2⟩;cases q with
    | zero=>exact hi
    | succ q=>have:=h1 q (by simpa using hq);omega
theorem zph:∀(bx:Bxs)(j k b:Nat),zki j k bx b≠none↔∃q,q<bx.length/\b=1000000+(j+q)
 | [],j,k,b=>⟨fun h=>absurd rfl h,fun⟨q,hq,_⟩=>by simp at hq⟩
 | c::bx,j,k,b=>by
  unfold zki;by_cases hi:b=1000000+j
  ·subst hi;rw[zag];exact⟨fun _=>⟨0,by simp,rfl⟩,fun _=>by simp⟩
  ·rw[zal _ _ hi,zph bx (j+1) _ b];refine⟨fun⟨q,h1,h2⟩=>⟨q+1,by simp;omega,Yt⟩,fun⟨q,h1,h2⟩=>?_⟩;cases q with
   | zero=>exact absurd h2 hi
   | succ q=>exact⟨q,by simpa using h1,Yt⟩
theorem zmg {σ:St}{g:Gh}{w:World}:∀{b:List (Bool×T)}{vs:List Value}{k:Nat},vs.length=b.length->(∀i p v,b[i]?=some p->vs[i]?=some v->CR σ g w (c1P (k+i) p) v)->CRs σ g w (zve k b) vs
 | [],vs,_,hl,_=>Q8.1 hl
 | p::b,[],_,hl,_=>by simp at hl
 | p::b,v::vs,k,hl,h=>⟨v,vs,rfl,by simpa using h 0 p v rfl rfl,zmg (by simpa using hl) fun i q u h1 h2=>by
   have:=h (i+1) q u (by simpa using h1) (by simpa using h2);rw[show k+(i+1)=k+1+i by omega]at this
   exact this⟩
theorem zq3 {σ:St}{g:Gh}{w:World}{bs:Nat->Nat}:∀(bx:Bxs)(bvs:List (List Value))(j k:Nat),zw2 w bs j bvs bx->(∀i p v,bx.flatten[i]?=some p->bvs.flatten[i]?=some v->CR σ g w (c1P (k+i) p) v) →
  ∀b cs,zki j k bx b=some cs->∃q vs ty,q<bx.length/\b=1000000+(j+q)/\w.heap[bs (j+q)]?=some (.cells ⟨vs⟩ ty (0,0))/\CRs σ g w cs vs
 | [],_,_,_,_,_,b,cs,h=>by cases h
 | c::bx,[],_,_,h0,_,_,_,_=>h0.elim
 | c::bx,vs::bvs,j,k,h0,hc,b,cs,h=>by
  obtain⟨h1,⟨ty,h2⟩,h3⟩:=h0;unfold zki at h;by_cases hi:b=1000000+j
  ·subst hi;rw[zag]at h;cases h;refine⟨0,vs,ty,by simp,rfl,h2,zmg h1 fun i p v e1 e2=>hc i p v ?_ ?_⟩
   ·rw[Q4,List.getElem?_append_left (List.getElem?_eq_some_iff.1 e1).1];exact e1
   ·rw[Q4,List.getElem?_append_left (List.getElem?_eq_some_iff.1 e2).1];exact e2
  ·rw[zal _ _ hi]at h
   obtain⟨q,vs',ty',k1,k2,k3,k4⟩:=zq3 bx bvs (j+1) (k+c.length) h3 (fun i p v e1 e2=>by
    have:=hc (c.length+i) p v (by rw[Q4,List.getElem?_append_right Yt,show c.length+i-c.length=i by omega];exact e1) (by rw[Q4,List.getElem?_append_right Yt,show c.length+i-vs.length=i by omega];exact e2);rw[show k+(c.length+i)=k+c.length+i by omega]at this
    exact this) b cs h
   exact⟨q+1,vs',ty',by simp;omega,Yt,by rw[show j+(q+1)=j+1+q by omega];exact k3,k4⟩
theorem zgm:∀(l:List AF)(i0 k i:Nat),l.length<=i->zdg i0 k l (i0+i)=.one .any
 | [],_,_,_,_=>rfl
 | a::l,i0,k,0,h=>by simp at h
 | .d b x::l,i0,k,i+1,h=>by unfold zdg;rw[zal _ _ Yt,show i0+(i+1)=i0+1+i by omega];exact zgm l _ _ i (by simpa using h)
 | .p j::l,i0,k,i+1,h=>by unfold zdg;rw[zal _ _ Yt,show i0+(i+1)=i0+1+i by omega];exact zgm l _ _ i (by simpa using h)
 | .fn g js::l,i0,k,i+1,h=>by unfold zdg;rw[zal _ _ Yt,show i0+(i+1)=i0+1+i by omega];exact zgm l _ _ i (by simpa using h)
theorem zh4 {σ:St}{g:Gh}{w:World}{bs:Nat->Nat}{n:Nat}(hb:∀j,j<n->σ.bx (1000000+j)≠none/\g.β (1000000+j)=bs j):∀(l:List AF)(i0 k:Nat)(dvs:List Value),AF.okJ n l=true->dvs.length=(AF.ds l).length->(∀i d v,(AF.ds l)[i]?=some d->dvs[i]?=some v->VR σ g w (gVN (k+i) d) v) →
  ∀i,i<l.length->∃v,(AF.vals bs l dvs)[i]?=some v/\VR σ g w (zdg i0 k l (i0+i)) v
 | [],_,_,_,_,_,_,i,hi=>by simp at hi
 | .d b x::l,i0,k,[],_,hl,_,i,hi=>by simp[AF.ds]at hl
 | .d b x::l,i0,k,v::dvs,ho,hl,h,i,hi=>by
  cases i with
  | zero=>exact⟨v,rfl,by unfold zdg;show VR σ g w (upd _ i0 _ i0) v;rw[zag];simpa using h 0 (b,x) v rfl rfl⟩
  | succ i =>
   obtain⟨u,k1,k2⟩:=zh4 hb l (i0+1) (k+1) dvs ho (by simpa[AF.ds]using hl) (fun i d v h1 h2=>by
    have:=h (i+1) d v (by simpa[AF.ds]using h1) (by simpa using h2);rw[show k+(i+1)=k+1+i by omega]at this
    exact this) i (by simpa using hi)
   exact⟨u,by unfold AF.vals;simpa using k1,by unfold zdg;rw[zal _ _ Yt,show i0+(i+1)=i0+1+i by omega];exact k2⟩
 | .p j::l,i0,k,dvs,ho,hl,h,i,hi=>by
  unfold AF.okJ at ho;rw[Qc,Qr]at ho;cases i with
  | zero=>exact⟨_,rfl,by unfold zdg;show VR σ g w (upd _ i0 _ i0) _;rw[zag];exact⟨by rw[(hb j ho.1).2];rfl,(hb j ho.1).1⟩⟩
  | succ i =>
   obtain⟨u,k1,k2⟩:=zh4 hb l (i0+1) k dvs ho.2 hl h i (by simpa using hi);exact⟨u,by unfold AF.vals;simpa using k1,by unfold zdg;rw[zal _ _ Yt,show i0+(i+1)=i0+1+i by omega];exact k2⟩
 | .fn f js::l,i0,k,dvs,ho,hl,h,i,hi=>by
  unfold AF.okJ at ho;rw[Qc,Qs]at ho;cases i with
  | zero =>
   refine⟨_,rfl,?_⟩;unfold zdg;show VR σ g w (upd _ i0 _ i0) _
   rw[zag];refine⟨?_,fun b hb'=>?_⟩
   ·rw[Kh]
    congr 2
    refine Kk fun j hj=>?_;show qfc (bs j)=.pointer (some ⟨g.β (1000000+j),0,none⟩)
    rw[(hb j (by simpa using ho.1 j hj)).2];rfl
   ·obtain⟨j,hj,rfl⟩:=Kn.1 hb';exact(hb j (by simpa using ho.1 j hj)).1
  | succ i =>
   obtain⟨u,k1,k2⟩:=zh4 hb l (i0+1) k dvs ho.2 hl h i (by simpa using hi);exact⟨u,by unfold AF.vals;simpa using k1,by unfold zdg;rw[zal _ _ Yt,show i0+(i+1)=i0+1+i by omega];exact k2⟩
theorem AF.vals_len (bs:Nat->Nat):∀(l:List AF)(dvs:List Value),dvs.length=(AF.ds l).length->(AF.vals bs l dvs).length=l.length
 | [],_,_=>rfl
 | .d _ _::l,[],h=>by simp[AF.ds]at h
 | .d _ _::l,v::vs,h=>by simp[AF.vals,AF.vals_len bs l vs (by simpa[AF.ds]using h)]
 | .p _::l,vs,h=>by simp[AF.vals,AF.vals_len bs l vs h]
 | .fn _ _::l,vs,h=>by simp[AF.vals,AF.vals_len bs l vs h]
def T.fs:T->Bool
 | .sl _ _=>true
 | t=>t.flat
def gFS:List (Bool×D)->Bool
 | []=>true
 | (false,_)::ds=>gFS ds
 | (true,.one t)::ds=>t.fs&&gFS ds
 | (true,.agg ts)::ds=>ts.all T.fs&&gFS ds
theorem zun:∀{ds:List (Bool×D)},gFS ds=true->∀(i:Nat) d,ds[i]?=some (true,d)->match d with|.one t=>t.fs=true|.agg ts=>ts.all T.fs=true
 | [],_,i,d,h=>by simp at h
 | (false,x)::ds,hg,0,d,h=>by simp at h
 | (false,x)::ds,hg,i+1,d,h=>zun (ds:=ds) hg i d (by simpa using h)
 | (true,.one t)::ds,hg,0,d,h=>by
  simp only[List.getElem?_cons_zero,Qf,Qp,true_and]at h;subst h;exact((Qc _ _).mp hg).1
 | (true,.agg t)::ds,hg,0,d,h=>by
  simp only[List.getElem?_cons_zero,Qf,Qp,true_and]at h;subst h;exact((Qc _ _).mp hg).1
 | (true,.one t)::ds,hg,i+1,d,h=>zun (ds:=ds) ((Qc _ _).mp hg).2 i d (by simpa using h)
 | (true,.agg t)::ds,hg,i+1,d,h=>zun (ds:=ds) ((Qc _ _).mp hg).2 i d (by simpa using h)
theorem zvt {σ σ':St}{g g':Gh}{w:World}(he:σ'.ev=σ.ev)(hψ:g'.ψ=g.ψ){k j:Nat}{t:T}{v:Value}(ht:t.fs=true)(h:CR σ g w (owC k j t) v):CR σ' g' w (owC k j t) v:=by
 cases t
 case sl=>exact⟨by rw[hψ];exact h.1,by obtain⟨x,h1,h2⟩:=h.2;exact⟨x,by rw[he];exact h1,h2⟩⟩
 all_goals exact zdy (A:=Fix σ g w) (w:=w) ht h
theorem zo8 {σ σ':St}{g g':Gh}{w:World}(he:σ'.ev=σ.ev)(hψ:g'.ψ=g.ψ){k:Nat}:∀{ts:List T}{j:Nat}{vs:List Value},ts.all T.fs=true->CRs σ g w (zna k j ts) vs->CRs σ' g' w (zna k j ts) vs
 | [],_,_,_,h=>h
 | t::ts,j,vs,ht,h=>by
  rw[Kt,Qc]at ht;obtain⟨v,vs',rfl,h1,h2⟩:=h;exact⟨v,vs',rfl,zvt he hψ ht.1 h1,zo8 he hψ ht.2 h2⟩
theorem zoj (d:Nat):∀(ts:List T)(j:Nat)(f:Nat->Option Ev),(∀e x,f e=some x->x.deep=true/\x.on=true)->∀e x,owE d j ts f e=some x->x.deep=true/\x.on=true
 | [],_,f,h,e,x,hx=>h e x hx
 | t::ts,j,f,h,e,x,hx=>zoj d ts (j+1) _ (fun e x hx=>by
   cases t<;>first|exact h e x hx|skip
   rename_i sz rows;by_cases he:e=d*32+j
   ·subst he;simp only[zsa,zag,Qf]at hx;subst hx;exact⟨rfl,rfl⟩
   ·simp only[zsa,zal _ _ he]at hx;exact h e x hx) e x hx
theorem zgr:∀(ds:List (Bool×D))(k e:Nat)(x:Ev),zfh k ds e=some x->x.deep=true/\x.on=true
 | [],_,_,_,h=>by cases h
 | (false,_)::ds,k,e,x,h=>zgr ds (k+1) e x h
 | (true,.one t)::ds,k,e,x,h=>zoj k [t] 0 _ (fun e x hx=>zgr ds (k+1) e x hx) e x h
 | (true,.agg ts)::ds,k,e,x,h=>zoj k ts 0 _ (fun e x hx=>zgr ds (k+1) e x hx) e x h
theorem zz6 {w:World}{l:List AF}{bx:Bxs}{bs:Nat->Nat}{bvs:List (List Value)}{dvs:List Value}{fp tp:List Nat}{A:Nat->Prop}{N:Nat}(hinj:∀i j,i<bx.length->j<bx.length->bs i=bs j->i=j)(hbf:∀j,j<bx.length->bs j∉fp)(hbx:zw2 w bs 0 bvs bx)
  (hv:za0 w (fun k=>(k<w.heap.size/\k∉fp/\∀j,j<bx.length->k≠bs j)/\A k) (AF.ds l++bxA bx.flatten) (dvs++bvs.flatten) fp tp) (hn:fp.Nodup) (hl:dvs.length=(AF.ds l).length) (hj:AF.okJ bx.length l=true) (hN:l.length<=N) (hN2:N<=1000000) (hs:zau (AF.ds l++bxA bx.flatten)) (hfs:gFS (AF.ds l++bxA bx.flatten)=true)
  {ξ:Nat->Value} (h1:∀i,i<1000000->ξ i=undef) (h2:∀i b,ξ i≠.bool b) (h3:∀j,j<bx.length->ξ (1000000+j)=qfc (bs j)) :
  ∃g,(g.A0,g.R0)=(fun b=>A b\/w.heap.size<=b\/b∈fp\/∃j,j<bx.length/\b=bs j,⟨fun b=>b∈fp\/w.heap.size<=b\/∃j,j<bx.length/\b=bs j,ξ,h1,h2⟩) ∧
   Rel (fun b=>b<w.heap.size/\b∉fp/\∀j,j<bx.length->b≠bs j) N (zi0 l bx) g { tmps:=(⟨AF.vals bs l dvs⟩:Array Value)++Array.replicate (N-(AF.vals bs l dvs).length) undef,defers:=[] } w:=by
 have hv':za0 w (fun b=>b<w.heap.size/\(A b/\∀j,j<bx.length->b≠bs j)/\b∉fp) (AF.ds l++bxA bx.flatten) (dvs++bvs.flatten) fp tp:=za0.keepA (fun b hb=>⟨hb.1.1,⟨hb.2,hb.1.2.2⟩,hb.1.2.1⟩) hv
 obtain⟨g,hg,hR⟩:=Rel.start (N:=(AF.ds l++bxA bx.flatten).length) (A0:=fun b=>A b\/w.heap.size<=b\/b∈fp\/∃j,j<bx.length/\b=bs j) (R0:=⟨fun b=>b∈fp\/w.heap.size<=b\/∃j,j<bx.length/\b=bs j,ξ,h1,h2⟩) hv' hn hs (Qw _) (fun b hb=>Or.inl hb.1) (fun b hb=>⟨Or.inr (Or.inr (Or.inl hb)),Or.inl hb⟩) (fun b hb=>by
  by_cases hlt:b<w.heap.size
  ·have hm:b∈fp:=Classical.byContradiction fun h=>hb ⟨hlt,h⟩;exact⟨Or.inr (Or.inr (Or.inl hm)),Or.inl hm⟩
  ·exact⟨Or.inr (Or.inl Yt),Or.inr (Or.inl Yt)⟩)
 have hg1:g.A0=_:=(Jq hg).1
 have hg2:g.R0=_:=(Jq hg).2
 refine⟨{ g with β:=fun k=>bs (k-1000000) },hg,?_⟩
 have hlen:(dvs++bvs.flatten).length=(AF.ds l++bxA bx.flatten).length:=za0.len hv
 have hbne:∀b,(zi0 l bx).bx b≠none↔∃q,q<bx.length/\b=1000000+q:=fun b=>by
  have:=zph bx 0 (AF.ds l).length b;simp only[Q2]at this;exact this
 have hblt:∀q,q<bx.length->bs q<w.heap.size:=fun q hq=>by have:=hbx.lt q hq;rwa [Q2]at this
 have hdeep:∀e x,(zi0 l bx).ev e=some x->x.deep=true/\x.on=true:=fun e x hx=>zgr _ _ e x hx
 have hφ:∀e,(zi0 l bx).On e->∀b∈g.φ e,¬(b<w.heap.size/\b∉fp):=fun e he b hb=>hR.etop e he b hb
 have hfree:∀b,((b<w.heap.size/\b∉fp/\∀j,j<bx.length->b≠bs j)/\A b)->zb6 (zi0 l bx) { g with β:=fun k=>bs (k-1000000) } w b:=fun b hb=>by
  refine⟨⟨fun k hk=>?_,fun e x hx ho hh=>hφ e ⟨x,hx,ho⟩ b (List.mem_of_mem_head? hh) ⟨hb.1.1,hb.1.2.1⟩,hb.1.1,?_⟩,fun e he hm=>hφ e he b hm ⟨hb.1.1,hb.1.2.1⟩⟩
  ·obtain⟨q,hq,rfl⟩:=(hbne k).1 hk;show bs (1000000+q-1000000)≠b
   rw[show 1000000+q-1000000=q by omega];exact fun e=>hb.1.2.2 q hq e.symm
  ·show g.A0 b
   rw[hg1];exact Or.inl hb.2
 have hat:∀(i:Nat) d v,(AF.ds l++bxA bx.flatten)[i]?=some d->(dvs++bvs.flatten)[i]?=some v->VR (zi0 l bx) { g with β:=fun k=>bs (k-1000000) } w (gVN i d) v:=fun i d v hd hv1=>by
  obtain⟨b,d⟩:=d;cases b with
  | false =>
   obtain⟨u,e1,e2⟩:=za0.atR hv i d hd;rw[e1]at hv1;cases hv1;exact zm2 hfree e2
  | true =>
   have h0:=hR.slots i;have hj0:=zht (AF.ds l++bxA bx.flatten) 0 i;rw[Q2,hd]at hj0;have h0':VR (zdq (AF.ds l++bxA bx.flatten)) g w (zjj 0 (AF.ds l++bxA bx.flatten) i) _:=h0;rw[hj0]at h0';have hlt:i<(dvs++bvs.flatten).length:=(List.getElem?_eq_some_iff.1 hv1).1;have e:((⟨dvs++bvs.flatten⟩:Array Value)++Array.replicate ((AF.ds l++bxA bx.flatten).length-(dvs++bvs.flatten).length) undef).getD i (g.R0.ξ i)=v:=by
    rw[Array.getD_eq_getD_getElem?,Array.getElem?_append_left (by simpa using hlt)];simp only[List.getElem?_toArray,hv1,Ku]
   rw[e]at h0';have hf:=zun hfs i d hd;cases d with
   | one t=>exact zvt (σ:=zdq (AF.ds l++bxA bx.flatten)) (σ':=zi0 l bx) (g:=g) (g':={ g with β:=fun k=>bs (k-1000000) }) rfl rfl hf h0'
   | agg ts=>obtain⟨a,e1,e2⟩:=h0';exact⟨a,e1,zo8 (σ:=zdq (AF.ds l++bxA bx.flatten)) (σ':=zi0 l bx) (g:=g) (g':={ g with β:=fun k=>bs (k-1000000) }) rfl rfl hf e2⟩
 have hvl:=AF.vals_len bs l dvs hl
 refine⟨rfl,by simp;omega,fun b hb=>?_,fun i=>?_,fun b cs hb=>?_,fun b hb=>?_,fun b b' hb hb' he=>?_,fun e x he ho=>?_,fun e x he ho=>?_,hR.slc,fun e he b hb=>?_,fun e he b hb=>?_,fun e he=>hR.nodup e he,fun e e' h1 h2 hne=>hR.apart e e' h1 h2 hne,fun e k he hk hm=>?_⟩
 ·show g.A0 b/\g.R0 b
  rw[hg1,hg2];show(A b\/_)/\(b∈fp\/_)
  by_cases hlt:b<w.heap.size
  ·by_cases hm:b∈fp
   ·exact⟨Or.inr (Or.inr (Or.inl hm)),Or.inl hm⟩
   ·have:∃j,j<bx.length/\b=bs j:=Classical.byContradiction fun hh=>hb ⟨hlt,hm,fun j hj e=>hh ⟨j,hj,e⟩⟩;exact⟨Or.inr (Or.inr (Or.inr this)),Or.inr (Or.inr this)⟩
  ·exact⟨Or.inr (Or.inl Yt),Or.inr (Or.inl Yt)⟩
 ·show VR _ _ _ (zi9 0 bx (zdg 0 0 l) i) _
  rcases zpu bx 0 (zdg 0 0 l) i with⟨⟨q,h4,rfl⟩,h5⟩|⟨_,h5⟩
  ·rw[h5,Q2,Array.getD_eq_getD_getElem?,Array.getElem?_eq_none (by simp;omega)];refine⟨?_,(hbne _).2 ⟨q,h4,rfl⟩⟩;show(none:Option Value).getD (g.R0.ξ (1000000+q))=.pointer (some ⟨bs (1000000+q-1000000),0,none⟩)
   rw[hg2,show 1000000+q-1000000=q by omega];exact h3 q h4
  ·rw[h5];by_cases hi:i<l.length
   ·obtain⟨u,e1,e2⟩:=zh4 (σ:=zi0 l bx) (g:={ g with β:=fun k=>bs (k-1000000) }) (w:=w) (bs:=bs) (n:=bx.length) (fun j hj=>⟨(hbne _).2 ⟨j,hj,rfl⟩,by show bs (1000000+j-1000000)=bs j;rw[show 1000000+j-1000000=j by omega]⟩) l 0 0 dvs hj hl (fun i d v e1 e2=>by
     rw[Q2]
     exact hat i d v (by rw[List.getElem?_append_left (List.getElem?_eq_some_iff.1 e1).1];exact e1) (by rw[List.getElem?_append_left (List.getElem?_eq_some_iff.1 e2).1];exact e2)) i hi
    rw[Q2]at e2;rw[Array.getD_eq_getD_getElem?,Array.getElem?_append_left (by simp;omega)];simp only[List.getElem?_toArray,e1,Ku];exact e2
   ·have:=zgm l 0 0 i Yt;rw[Q2]at this;rw[this]
    trivial
 ·obtain⟨q,vs,ty,k1,k2,k3,k4⟩:=zq3 (σ:=zi0 l bx) (g:={ g with β:=fun k=>bs (k-1000000) }) bx bvs 0 (AF.ds l).length hbx (fun i p v e1 e2=>by
   have:=hat ((AF.ds l).length+i) (p.1,.one p.2) v (by rw[List.getElem?_append_right Yt,show(AF.ds l).length+i-(AF.ds l).length=i by omega];unfold bxA;rw[List.getElem?_map,e1];rfl) (by rw[List.getElem?_append_right Yt,show(AF.ds l).length+i-dvs.length=i by omega];exact e2);rw[qnu]at this
   exact this) b cs hb
  rw[Q2]at k2 k3;subst k2;exact⟨⟨vs⟩,ty,by show w.heap[bs (1000000+q-1000000)]?=_;rw[show 1000000+q-1000000=q by omega];exact k3,k4⟩
 ·obtain⟨q,hq,rfl⟩:=(hbne b).1 hb;intro h;have h:=h.2.2 q hq;exact h (show bs (1000000+q-1000000)=bs q by rw[show 1000000+q-1000000=q by omega])
 ·obtain⟨q,hq,rfl⟩:=(hbne b).1 hb;obtain⟨q',hq',rfl⟩:=(hbne b').1 hb';have he:bs (1000000+q-1000000)=bs (1000000+q'-1000000):=he;rw[show 1000000+q-1000000=q by omega,show 1000000+q'-1000000=q' by omega]at he;rw[hinj q q' hq hq' he]
 ·obtain⟨ao,cap,e1,e2,e3,e4⟩:=hR.evs e x he ho;refine⟨ao,cap,e1,e2,e3,?_⟩;rcases e4 with e4|⟨b,cells,ty,fps,j1,j2,j3,j4,j5⟩
  ·exact Or.inl e4
  ·rw[if_pos (hdeep e x he).1]at j5;exact Or.inr ⟨b,cells,ty,fps,j1,j2,j3,j4,by rw[if_pos (hdeep e x he).1];exact j5⟩
 ·rw[(hdeep e x he).2]at ho;cases ho
 ·exact hR.ebase e he b hb
 ·exact fun h=>hφ e he b hb ⟨h.1,h.2.1⟩
 ·obtain⟨q,hq,rfl⟩:=(hbne k).1 hk;have hm:bs (1000000+q-1000000)∈g.φ e:=hm;rw[show 1000000+q-1000000=q by omega]at hm;exact hφ e he _ hm ⟨hblt q hq,hbf q hq⟩
def bxE (σ:St):Nat->Bxs->(List V->Prop)->Prop
 | _,[],K=>K []
 | j,b::bs,K=>σ.sl (1000000+j)=.one (.bx (1000000+j) 0)/\zav (σ.bx (1000000+j)) fun cs=>cs.length=b.length/\bxE σ (j+1) bs fun vs=>K (cs.map .one++vs)
theorem CRs.ones {σ:St}{g:Gh}{w:World}:∀{cs:List C}{vs:List Value},CRs σ g w cs vs->VRl σ g w (cs.map .one) vs
 | [],_,h=>h
 | c::cs,_,h=>by obtain⟨v,vs',rfl,h1,h2⟩:=h;exact⟨v,vs',rfl,h1,CRs.ones h2⟩
theorem zpy {n0:Nat->Prop}{N:Nat}{σ:St}{g:Gh}{a:Act}{w:World}{bs:Nat->Nat}(hR:Rel n0 N σ g a w)(hN:N<=1000000):∀{bx:Bxs}{j:Nat}{K:List V->Prop},(∀q,q<bx.length->g.R0.ξ (1000000+(j+q))=qfc (bs (j+q)))->bxE σ j bx K →
  ∃vs bvs,K vs/\zw2 w bs j bvs bx/\VRl σ g w vs bvs.flatten/\∀q,q<bx.length->σ.bx (1000000+(j+q))≠none/\g.β (1000000+(j+q))=bs (j+q)
 | [],j,K,_,h=>⟨[],[],h,trivial,rfl,fun q hq=>by simp at hq⟩
 | b::bx,j,K,hξ,h=>by
  obtain⟨h1,h2⟩:=h;obtain⟨cs,h3,h4,h5⟩:=zar h2;obtain⟨vs,bvs,k1,k2,k3,k4⟩:=zpy hR hN (bx:=bx) (j:=j+1) (fun q hq=>by have:=hξ (q+1) (by simpa using hq);rw[show j+(q+1)=j+1+q by omega]at this;exact this) h5;have h0:=hR.slots (1000000+j);rw[h1,Array.getD_eq_getD_getElem?,Array.getElem?_eq_none (by rw[hR.size];omega)]at h0;have hx:=hξ 0 (by simp);rw[J9]at hx;have h0:CR σ g w (.bx (1000000+j) 0) (g.R0.ξ (1000000+j)):=h0;rw[hx]at h0;have hβ:g.β (1000000+j)=bs j:=by
   have:=h0.1;unfold qfc at this;simp only[Value.pointer.injEq,Qf]at this;injection this with e
   exact e.symm
  obtain⟨us,ty,j1,j2⟩:=hR.boxes _ cs h3;rw[hβ]at j1;refine⟨_,us.toList::bvs,k1,⟨by rw[j2.len,h4],⟨ty,j1⟩,k2⟩,VRl.append j2.ones k3,fun q hq=>?_⟩;cases q with
  | zero=>exact⟨h0.2,hβ⟩
  | succ q=>rw[show j+(q+1)=j+1+q by omega];exact k4 q (by simpa using hq)
def PB0 (P:Program)(rs:List ResultVar)(res:List (Bool×D))(bx:Bxs)(pl:List (Nat×Nat×Nat))(σ:St):Prop:=zav (zb3 P σ rs) fun vs=>bxE σ 0 bx fun cs=>gvA σ (fun _=>True) [] pl (vs++cs) (res++bxA bx.flatten)
def PB (P:Program)(rs:List ResultVar)(res:List (Bool×D))(bx:Bxs)(e:Exit)(σ:St):Prop:=match e with
 | .normal=>PB0 P rs res bx [] σ\/∃pl,PB0 P rs res bx pl σ
 | .ret=>PB0 P rs res bx [] σ\/∃pl,PB0 P rs res bx pl σ
 | _=>False
theorem zj8 {σ:St}:∀{rs:List ResultVar}{vs:List V},zb3 P σ rs=some vs->vs.length=rs.length
 | [],vs,h=>by cases h;rfl
 | r::rs,vs,h=>by
  unfold zb3 at h;cases h1:zx8 P σ r with
  | none=>rw[h1]at h;cases h
  | some v =>
   rw[h1]at h;simp only[Kb]at h;cases h2:zb3 P σ rs with
   | none=>rw[h2]at h;cases h
   | some us=>rw[h2]at h;cases h;simp[zj8 h2]
theorem VRl.len {σ:St}{g:Gh}{w:World}:∀{xs:List V}{vs:List Value},VRl σ g w xs vs->vs.length=xs.length
 | [],_,h=>by rw[show _=[] from h];rfl
 | x::xs,_,h=>by obtain⟨v,vs',rfl,_,h2⟩:=h;simp[VRl.len h2]
theorem zbh {f:FuncId}{fn:Func}{c:Code}{bx bx':Bxs}{l:List AF}{res:List (Bool×D)}(hc:zbw P f)(hf:P.funcs[f]?=some fn)(hb:fn.body=some c)(hd:zei fn.ntmps c=true)(hN:l.length<=fn.ntmps)(hN2:fn.ntmps<=1000000)(hbl:bx'.length=bx.length)(hj:AF.okJ bx.length l=true)(hs:zau (AF.ds l++bxA bx.flatten))(hfs:gFS (AF.ds l++bxA bx.flatten)=true)(hrl:fn.results.toList.length=res.length)
  (h:ex P c [] (PB P fn.results.toList res bx') (zi0 l bx)):PC P f bx l bx' res:=by
 refine⟨hc,hbl,fun w bs bvs dvs fp tp A hinj hbf hbx hv hn hl=>?_⟩
 refine calls_of_wp hf hb ?_
 obtain⟨g,hg,hR⟩:=zz6 (N:=fn.ntmps) hinj hbf hbx hv hn hl hj hN hN2 hs hfs (ξ:=fun i=>if 1000000<=i then qfc (bs (i-1000000))else undef) (fun i hi=>if_neg Yt) (fun i b=>by
  by_cases h:1000000<=i
  ·rw[if_pos h];exact fun e=>by cases e
  ·rw[if_neg h];exact fun e=>by cases e) (fun j hj=>by
  rw[if_pos Yt,show 1000000+j-1000000=j by omega])
 refine wp_mono (zby (w0:=w) c (zi0 l bx) _ hd h g _ w hR (fun k hk=>hk.1) (Bk.refl _ _) hg) fun e a' w' hq=>?_
 obtain⟨σ',g',h1,h2,h3,h4,h5⟩:=hq
 have hξ:∀q,q<bx'.length->g'.R0.ξ (1000000+(0+q))=qfc (bs (0+q)):=fun q hq=>by
  rw[(Jq h5).2,Q2];show(if 1000000<=1000000+q then qfc (bs (1000000+q-1000000))else undef)=_
  rw[if_pos Yt,show 1000000+q-1000000=q by omega]
 have key:(∃pl,PB0 P fn.results.toList res bx' pl σ')->∃v,(results fn a'.tmps).run P w'=.ok v w'/\∃us bvs' fp' tp',Ending.returned v=.returned (zck us)/\zw2 w' bs 0 bvs' bx'/\us.length=res.length ∧
   za0 w' (fun k=>(k<w'.heap.size/\k∉fp'/\∀j,j<bx.length->k≠bs j)/\(A k\/w.heap.size<=k\/k∈fp)) (res++bxA bx'.flatten) (us++bvs'.flatten) fp' tp'/\fp'.Nodup/\(∀b∈fp',b∈fp\/w.heap.size<=b)/\Bk (fun k=>k<w.heap.size/\k∉fp/\∀j,j<bx.length->k≠bs j) w w':=by
  rintro⟨pl,hk⟩;obtain⟨vs,hvs,hk⟩:=zar hk;obtain⟨us,r1,r2⟩:=zco h2 fn hvs;obtain⟨cs,bvs',k0,b1,b2,b3⟩:=zpy (bs:=bs) h2 hN2 hξ hk;obtain⟨B,hB⟩:=h2.fam;obtain⟨s,k1,⟨tp',k2⟩,k3,k4⟩:=ze1 h2 hB k0 (VRl.append r2 b2);rw[Kj]at k4;have hsp:s.Pairwise okP:=(J3.1 (k4 List.Pairwise.nil)).imp fun h=>h.symm;have hin:∀b∈bks B s,∃e,σ'.On e/\b∈g'.φ e:=fun b hb=>by
   obtain⟨x,hx,hm⟩:=Jt.1 hb;exact⟨x.1,k3 x hx,hB.sub x.1 x.2 b (k3 x hx) hm⟩
  have hbβ:∀j,j<bx.length->σ'.bx (1000000+j)≠none/\g'.β (1000000+j)=bs j:=fun j hj=>by
   have:=b3 j Yt
   rwa [Q2]at this
  have hA:∀b,zb6 σ' g' w' b->(b<w'.heap.size/\b∉bks B s/\∀j,j<bx.length->b≠bs j)/\(A b\/w.heap.size<=b\/b∈fp):=fun b hb=>by
   have hnb:∀j,j<bx.length->b≠bs j:=fun j hj e=>hb.1.1 _ (hbβ j hj).1 (by rw[(hbβ j hj).2,e]);refine⟨⟨hb.1.2.2.1,fun hm=>?_,hnb⟩,?_⟩
   ·obtain⟨e,ho,hm⟩:=hin b hm;exact hb.2 e ho hm
   ·have h0:=hb.1.2.2.2;rw[(Jq h5).1]at h0;rcases h0 with h0|h0|h0|⟨j,hj,h0⟩
    ·exact Or.inl h0
    ·exact Or.inr (Or.inl h0)
    ·exact Or.inr (Or.inr h0)
    ·exact absurd h0 (hnb j hj)
  refine⟨_,r1,us,bvs',bks B s,tp',rfl,b1,by rw[r2.len,<-hrl];exact zj8 hvs,za0.keepA hA k2,zd2 h2 hB k3 hsp,fun b hb=>?_,h4⟩;obtain⟨e,ho,hm⟩:=hin b hb;have h0:=(h2.ebase e ho b hm).2;rw[(Jq h5).2]at h0;rcases h0 with h0|h0|⟨j,hj,h0⟩
  ·exact Or.inl h0
  ·exact Or.inr h0
  ·have:=h2.ebx e _ ho (hbβ j hj).1;rw[(hbβ j hj).2]at this;exact absurd (h0▸hm) this
 have key':∀{Y:Prop},(PB0 P fn.results.toList res bx' [] σ'\/∃pl,PB0 P fn.results.toList res bx' pl σ')->((∃pl,PB0 P fn.results.toList res bx' pl σ')->Y)->Y:=fun h k=>h.elim (fun h=>k ⟨[],h⟩) k
 cases e with
 | normal=>exact⟨h2.defers,key' h1 key⟩
 | ret=>exact⟨h2.defers,key' h1 key⟩
 | exit _=>exact h1.elim
 | goto _=>exact h1.elim
 | panic _=>exact h1.elim
 | outgrown=>exact h1.elim
end
section
open Go.RowKit
variable {P:Program}
structure KeptB (W:List Nat)(σ τ:St):Prop where
 sl:∀i,τ.sl i=.one .any\/(τ.sl i=σ.sl i/\(τ.sl i).okU τ)
 bx:∀b cs,b∉W->τ.bx b=some cs->σ.bx b=some cs/\qf2 τ cs
 bxW:∀b∈W,σ.bx b≠none/\τ.bx b≠none
 ev:∀e x,τ.ev e=some x->σ.ev e=some x/\x.on=true/\x.deep=true
theorem Rel.givenB {W:List Nat}{n0:Nat->Prop}{N:Nat}{σ τ:St}{g g':Gh}{a:Act}{w w':World}(hR:Rel n0 N σ g a w)(hn0:LtK n0 w)(hK:KeptB W σ τ){fp:List Nat}(hfp:∀b∈fp,∃e,σ.On e/\τ.ev e=none/\b∈g.φ e)(hbk:Bk (fun k=>k<w.heap.size/\k∉fp/\∀b∈W,k≠g.β b) w w')
  {ev':Nat->Option Ev} {F:List Nat} (hn:New τ g (fun b=>b∈fp\/w.heap.size<=b) w' ev' g' F) (hW:∀b∈W,∀cs,τ.bx b=some cs->∃vs ty,w'.heap[g.β b]?=some (.cells vs ty (0,0))/\CRs ⟨τ.sl,τ.bx,ev'⟩ g' w' cs vs.toList):Rel n0 N ⟨τ.sl,τ.bx,ev'⟩ g' a w':=by
 have hOnσ:∀e,τ.On e->σ.On e:=fun e ⟨x,hx,ho⟩=>⟨x,(hK.ev e x hx).1,ho⟩
 have hlt:∀e,σ.On e->∀b∈g.φ e,b<w.heap.size:=fun e ⟨x,hx,ho⟩=>(hR.evs e x hx ho).lt
 have hbne:∀b,τ.bx b≠none->σ.bx b≠none:=fun b hb=>by
  by_cases hbW:b∈W
  ·exact(hK.bxW b hbW).1
  obtain⟨cs,hcs⟩:=Kp.1 hb;rw[(hK.bx b cs hbW hcs).1];simp
 have hfR:∀b∈fp,g.A0 b/\g.R0 b/\¬n0 b:=fun b hb=>by
  obtain⟨e,ho,_,hm⟩:=hfp b hb;obtain⟨k1,k2⟩:=hR.ebase e ho b hm;exact⟨k1,k2,hR.etop e ho b hm⟩
 have hNB:∀b,(b∈fp\/w.heap.size<=b)->g.A0 b/\g.R0 b/\¬n0 b:=fun b hb=>by
  rcases hb with hb|hb
  ·exact hfR b hb
  ·have hnn:=hn0.new hb;exact⟨(hR.anew b hnn).1,(hR.anew b hnn).2,hnn⟩
 have hβfp:∀b,τ.bx b≠none->¬(g.β b∈fp\/w.heap.size<=g.β b):=fun b hb h=>by
  rcases h with h|h
  ·obtain⟨e,ho,_,hm⟩:=hfp _ h;exact hR.ebx e b ho (hbne b hb) hm
  ·have:=hR.lt (hbne b hb);omega
 have hφfp:∀e,τ.On e->∀b∈g.φ e,¬(b∈fp\/w.heap.size<=b):=fun e ho b hb h=>by
  rcases h with h|h
  ·obtain⟨e',ho',hno,hm⟩:=hfp b h;refine hR.apart e e' (hOnσ e ho) ho' (fun hee=>?_) b hb hm;subst hee;obtain⟨x,hx,_⟩:=ho;rw[hx]at hno;cases hno
  ·have:=hlt e (hOnσ e ho) b hb;omega
 have hon:∀e,St.On ⟨τ.sl,τ.bx,ev'⟩ e->τ.ev e≠none->τ.On e:=fun e ⟨x,hx,ho⟩ hee=>⟨x,(hn.old e hee).1.symm.trans hx,ho⟩
 have hkeep:∀b,b<w.heap.size->b∉fp->(∀k∈W,b≠g.β k)->w'.heap[b]?=w.heap[b]?:=fun b h1 h2 h3=>hbk.block b ⟨h1,h2,h3⟩
 have hrn:∀b,zb6 σ g w b->w'.heap[b]?=w.heap[b]?/\zb6 ⟨τ.sl,τ.bx,ev'⟩ g' w' b:=fun b hb=>by
  obtain⟨hf,hr⟩:=hb;have hnb:∀e,St.On ⟨τ.sl,τ.bx,ev'⟩ e->b∉g'.φ e:=fun e ho hm=>by
   by_cases hee:τ.ev e=none
   ·obtain⟨x,hx,_⟩:=ho;rcases((hn.new e x hee hx).2.2.1 b hm).1 with h|h
    ·obtain⟨e',ho',_,hm'⟩:=hfp b h;exact hr e' ho' hm'
    ·have:=hf.2.2.1;omega
   ·rw[(hn.old e hee).2.2]at hm;exact hr e (hOnσ e (hon e ho hee)) hm
  refine⟨hkeep b hf.2.2.1 (fun hm=>by obtain⟨e',ho',_,hm'⟩:=hfp b hm;exact hr e' ho' hm') (fun k hk e=>hf.1 k (hK.bxW k hk).1 e.symm),⟨fun k hk=>by rw[hn.β];exact hf.1 k (hbne k hk),fun e x hx hon' hh=>hnb e ⟨x,hx,hon'⟩ (List.mem_of_mem_head? hh),Jn hf.2.2.1 hbk.size,by rw[hn.A0];exact hf.2.2.2⟩,hnb⟩
 have hψ:∀e,τ.ev e≠none->ev' e=τ.ev e/\g'.ψ e=g.ψ e:=fun e he=>⟨(hn.old e he).1,(hn.old e he).2.1⟩
 refine⟨by rw[hR.defers],hR.size,by rw[hn.A0,hn.R0];exact hR.anew,fun i=>?_,fun b cs hb=>?_,fun b hb=>by rw[hn.β];exact hR.base b (hbne b hb),fun b b' h1 h2 h3=>by rw[hn.β]at h3;exact hR.inj b b' (hbne b h1) (hbne b' h2) h3,fun e x he ho=>?_,fun e x he ho=>?_,hn.slc,fun e he b hb=>?_,fun e he b hb=>?_,fun e he=>?_,fun e e' h1 h2 hne b hb1 hb2=>?_,fun e k he hk hm=>?_⟩
 ·rcases hK.sl i with h|⟨h,hok⟩
  ·rw[show(⟨τ.sl,τ.bx,ev'⟩:St).sl i=.one .any from h];trivial
  ·rw[hn.R0];show VR _ g' w' (τ.sl i) _
   have hs:=hR.slots i;rw[<-h]at hs;exact qkz hn.β hψ hrn hok hs
 ·by_cases hbW:b∈W
  ·rw[hn.β];exact hW b hbW cs hb
  obtain⟨hb1,hb2⟩:=hK.bx b cs hbW hb;obtain⟨vs,ty,k1,k2⟩:=hR.boxes b cs hb1;have hne:τ.bx b≠none:=by rw[show τ.bx b=some cs from hb];simp
  have hnf:=hβfp b hne;exact⟨vs,ty,by rw[hn.β,hkeep _ (hR.lt (hbne b hne)) (fun h=>hnf (Or.inl h)) (fun k hk e=>hbW (hR.inj b k (hbne b hne) (hK.bxW k hk).1 e▸hk))];exact k1,zka hn.β hψ hrn hb2 k2⟩
 ·by_cases hee:τ.ev e=none
  ·obtain⟨⟨k1,_,k0⟩,k2,k3,k4⟩:=hn.new e x hee he;rw[k0];unfold za3 at k2;obtain⟨ao,cap,j1,j2,j3,j4⟩:=k2;refine⟨ao,cap,j1,j2,j3,?_⟩;rcases j4 with j4|⟨b,cells,ty,fps,j4,j5,j6,j7,j8⟩
   ·exact Or.inl j4
   ·exact Or.inr ⟨b,cells,ty,fps,j4,j5,j6,j7,by rw[if_pos k1];exact j8⟩
  ·obtain⟨o1,o2,o3⟩:=hn.old e hee;have hx:τ.ev e=some x:=o1.symm.trans he;obtain⟨k1,k2,k3⟩:=hK.ev e x hx;have hE:=hR.evs e x k1 k2;have hno:=hφfp e ⟨x,hx,k2⟩;have hl:=hlt e ⟨x,k1,k2⟩;have hkp:∀b∈g.φ e,w'.heap[b]?=w.heap[b]?:=fun b hb=>hkeep b (hl b hb) (fun h=>hno b hb (Or.inl h)) fun k' hk' e=>hR.ebx _ k' ⟨x,k1,k2⟩ (hK.bxW k' hk').1 (e▸hb);rw[o2,o3];obtain⟨ao,cap,r1,r2,r3,r4⟩:=hE;refine⟨ao,cap,r1,r2,r3,?_⟩;rcases r4 with r4|⟨b,cells,ty,fps,r4,r5,r6,r7,r8⟩
   ·exact Or.inl r4
   ·rw[if_pos k3]at r8;exact Or.inr ⟨b,cells,ty,fps,r4,r5,by rw[hkp b (by rw[r5];simp)];exact r6,r7,by rw[if_pos k3];exact zao.keep cells 0 x.sz x.rows fps r8 fun b' hb'=>hkp b' (by rw[r5];simp[hb'])⟩
 ·by_cases hee:τ.ev e=none
  ·rw[(hn.new e x hee he).1.2.1]at ho;cases ho
  ·have hx:τ.ev e=some x:=(hn.old e hee).1.symm.trans he;rw[(hK.ev e x hx).2.1]at ho;cases ho
 ·rw[hn.A0,hn.R0];by_cases hee:τ.ev e=none
  ·obtain⟨x,hx,_⟩:=he;have:=hNB b ((hn.new e x hee hx).2.2.1 b hb).1;exact⟨this.1,this.2.1⟩
  ·rw[(hn.old e hee).2.2]at hb;exact hR.ebase e (hOnσ e (hon e he hee)) b hb
 ·by_cases hee:τ.ev e=none
  ·obtain⟨x,hx,_⟩:=he;exact(hNB b ((hn.new e x hee hx).2.2.1 b hb).1).2.2
  ·rw[(hn.old e hee).2.2]at hb;exact hR.etop e (hOnσ e (hon e he hee)) b hb
 ·by_cases hee:τ.ev e=none
  ·obtain⟨x,hx,_⟩:=he;exact(hn.new e x hee hx).2.2.2
  ·rw[(hn.old e hee).2.2];exact hR.nodup e (hOnσ e (hon e he hee))
 ·by_cases hee:τ.ev e=none
  ·obtain⟨x,hx,_⟩:=h1;by_cases hee':τ.ev e'=none
   ·obtain⟨x',hx',_⟩:=h2;exact hn.apart e e' hee hee' (by rw[show ev' e=some x from hx];simp) (by rw[show ev' e'=some x' from hx'];simp) hne b hb1 hb2
   ·rw[(hn.old e' hee').2.2]at hb2;exact hφfp e' (hon e' h2 hee') b hb2 ((hn.new e x hee hx).2.2.1 b hb1).1
  ·rw[(hn.old e hee).2.2]at hb1;by_cases hee':τ.ev e'=none
   ·obtain⟨x',hx',_⟩:=h2;exact hφfp e (hon e h1 hee) b hb1 ((hn.new e' x' hee' hx').2.2.1 b hb2).1
   ·rw[(hn.old e' hee').2.2]at hb2;exact hR.apart e e' (hOnσ e (hon e h1 hee)) (hOnσ e' (hon e' h2 hee')) hne b hb1 hb2
 ·rw[hn.β]at hm;by_cases hee:τ.ev e=none
  ·obtain⟨x,hx,_⟩:=he;exact hβfp k hk ((hn.new e x hee hx).2.2.1 _ hm).1
  ·rw[(hn.old e hee).2.2]at hm;exact hR.ebx e k (hOnσ e (hon e he hee)) (hbne k hk) hm
def mtK (W:List Nat):List AF->List V->(List V->Prop)->Prop
 | [],[],K=>K []
 | .d _ _::l,v::vs,K=>mtK W l vs fun u=>K (v::u)
 | .p j::l,.one (.bx b o)::vs,K=>W[j]?=some b/\o=0/\mtK W l vs K
 | .fn g js::l,.one (.fn g' bs)::vs,K=>g'=g/\js.map (fun j=>W[j]?)=bs.map some/\mtK W l vs K
 | _,_,_=>False
theorem qdl {g:Gh}{W:List Nat}{bs:Nat->Nat}(hb:∀j b,W[j]?=some b->bs j=g.β b):∀(js bs':List Nat),js.map (fun j=>W[j]?)=bs'.map some->bs'.map (fun b=>Value.pointer (some ⟨g.β b,0,none⟩))=js.map fun j=>qfc (bs j)
 | [],[],_=>rfl
 | [],_::_,e=>by cases e
 | _::_,[],e=>by cases e
 | j::js,b::bs',e=>by
  simp only[Qi,List.cons.injEq]at e;rw[Qi,Qi,qdl hb js bs' e.2,hb j b e.1];rfl
theorem zeq {σ:St}{g:Gh}{w:World}{W:List Nat}{bs:Nat->Nat}(hb:∀j b,W[j]?=some b->bs j=g.β b):∀{l:List AF}{xs:List V}{K:List V->Prop}{vs:List Value},mtK W l xs K->VRl σ g w xs vs →
  ∃us dvs,K us/\VRl σ g w us dvs/\dvs.length=(AF.ds l).length/\vs=AF.vals bs l dvs
 | [],[],K,vs,h,hv=>⟨[],[],h,rfl,rfl,hv⟩
 | .d _ _::l,x::xs,K,vs,h,hv=>by
  obtain⟨v,vs',rfl,h1,h2⟩:=hv;obtain⟨us,dvs,k1,k2,k3,k4⟩:=zeq hb (l:=l) h h2;exact⟨x::us,v::dvs,k1,⟨v,dvs,rfl,h1,k2⟩,by simp[AF.ds,k3],by rw[k4];rfl⟩
 | .p j::l,.one (.bx b o)::xs,K,vs,h,hv=>by
  obtain⟨v,vs',rfl,h1,h2⟩:=hv;obtain⟨e1,rfl,h⟩:=h;obtain⟨us,dvs,k1,k2,k3,k4⟩:=zeq hb (l:=l) h h2;refine⟨us,dvs,k1,k2,k3,?_⟩;have h1:CR σ g w (.bx b 0) v:=h1;rw[k4,h1.1,<-hb j b e1];rfl
 | .fn f js::l,.one (.fn f' bs')::xs,K,vs,h,hv=>by
  obtain⟨v,vs',rfl,h1,h2⟩:=hv;obtain⟨rfl,e1,h⟩:=h;obtain⟨us,dvs,k1,k2,k3,k4⟩:=zeq hb (l:=l) h h2;refine⟨us,dvs,k1,k2,k3,?_⟩;have h1:CR σ g w (.fn f' bs') v:=h1;rw[k4,h1.1];rw[qdl hb js bs' e1];rfl
 | .d _ _::_,[],_,_,h,_=>h.elim
 | .p _::_,[],_,_,h,_=>h.elim
 | .fn _ _::_,[],_,_,h,_=>h.elim
 | [],_::_,_,_,h,_=>h.elim
 | .p _::_,.agg _::_,_,_,h,_=>h.elim
 | .p _::_,.tup _::_,_,_,h,_=>h.elim
 | .fn _ _::_,.agg _::_,_,_,h,_=>h.elim
 | .fn _ _::_,.tup _::_,_,_,h,_=>h.elim
 | .p _::_,.one (.t _)::_,_,_,h,_=>h.elim
 | .p _::_,.one (.nl _)::_,_,_,h,_=>h.elim
 | .p _::_,.one (.ow _ _)::_,_,_,h,_=>h.elim
 | .p _::_,.one (.el _ _)::_,_,_,h,_=>h.elim
 | .p _::_,.one (.eo _ _ _ _ _)::_,_,_,h,_=>h.elim
 | .p _::_,.one (.fn _ _)::_,_,_,h,_=>h.elim
 | .p _::_,.one (.cv _)::_,_,_,h,_=>h.elim
 | .p _::_,.one .any::_,_,_,h,_=>h.elim
 | .p _::_,.one (.rn _)::_,_,_,h,_=>h.elim
 | .p _::_,.one (.er _ _)::_,_,_,h,_=>h.elim
 | .fn _ _::_,.one (.t _)::_,_,_,h,_=>h.elim
 | .fn _ _::_,.one (.nl _)::_,_,_,h,_=>h.elim
 | .fn _ _::_,.one (.ow _ _)::_,_,_,h,_=>h.elim
 | .fn _ _::_,.one (.el _ _)::_,_,_,h,_=>h.elim
 | .fn _ _::_,.one (.eo _ _ _ _ _)::_,_,_,h,_=>h.elim
 | .fn _ _::_,.one (.bx _ _)::_,_,_,h,_=>h.elim
 | .fn _ _::_,.one (.cv _)::_,_,_,h,_=>h.elim
 | .fn _ _::_,.one .any::_,_,_,h,_=>h.elim
 | .fn _ _::_,.one (.rn _)::_,_,_,h,_=>h.elim
 | .fn _ _::_,.one (.er _ _)::_,_,_,h,_=>h.elim
def zyp (σ:St):List Nat->Bxs->(List V->Prop)->Prop
 | [],[],K=>K []
 | k::W,b::bx,K=>zav (σ.bx k) fun cs=>cs.length=b.length/\zyp σ W bx fun l=>K (cs.map .one++l)
 | _,_,_=>False
theorem zit {n0:Nat->Prop}{N:Nat}{σ:St}{g:Gh}{a:Act}{w:World}(hR:Rel n0 N σ g a w){bs:Nat->Nat}:∀{W:List Nat}{bx:Bxs}{j:Nat}{K:List V->Prop},(∀i b,W[i]?=some b->bs (j+i)=g.β b)->zyp σ W bx K →
  ∃l bvs,K l/\VRl σ g w l bvs.flatten/\zw2 w bs j bvs bx/\W.length=bx.length/\∀b∈W,σ.bx b≠none
 | [],[],j,K,_,h=>⟨[],[],h,rfl,trivial,rfl,fun b hb=>by simp at hb⟩
 | k::W,b::bx,j,K,hb,h=>by
  obtain⟨cs,h1,h2,h3⟩:=zar h;obtain⟨l,bvs,k1,k2,k3,k4,k5⟩:=zit hR (W:=W) (bx:=bx) (j:=j+1) (fun i b hi=>by have:=hb (i+1) b (by simpa using hi);rw[show j+(i+1)=j+1+i by omega]at this;exact this) h3;obtain⟨us,ty,j1,j2⟩:=hR.boxes k cs h1;have hk:=hb 0 k rfl;rw[J9]at hk;refine⟨_,us.toList::bvs,k1,VRl.append j2.ones k2,⟨by rw[j2.len,h2],⟨ty,by rw[hk];exact j1⟩,k3⟩,by simp[k4],fun x hx=>?_⟩;rcases Qu.1 hx with rfl|hx
  ·rw[h1];simp
  ·exact k5 x hx
 | [],_::_,_,_,_,h=>h.elim
 | _::_,[],_,_,_,h=>h.elim
theorem zzm {σ:St}{K K':List V->Prop}(hK:∀l,K l->K' l):∀{W:List Nat}{bx:Bxs},zyp σ W bx K->zyp σ W bx K':=fun {W}=>by
 induction W generalizing K K' with
 | nil=>intro bx h;cases bx with
  | nil=>exact hK _ h
  | cons _ _=>exact h.elim
 | cons k W ih=>intro bx h;cases bx with
  | nil=>exact h.elim
  | cons b bx =>
   obtain⟨cs,h1,h2,h3⟩:=zar h;show zav (σ.bx k) _
   rw[h1];exact⟨h2,ih (fun l=>hK _) h3⟩
theorem zv8 {W:List Nat}:∀{l:List AF}{xs:List V}{K K':List V->Prop},(∀u,K u->K' u)->mtK W l xs K->mtK W l xs K':=fun {l}=>by
 induction l with
 | nil=>intro xs K K' hK h;cases xs with
  | nil=>exact hK _ h
  | cons _ _=>exact h.elim
 | cons a l ih=>intro xs K K' hK h;cases xs with
  | nil=>cases a<;>exact h.elim
  | cons x xs =>
   cases a with
   | d b y=>exact ih (fun u=>hK _) h
   | p j =>
    cases x with
    | one c=>cases c<;>first|exact h.elim|exact⟨h.1,h.2.1,ih hK h.2.2⟩
    | agg _=>exact h.elim
    | tup _=>exact h.elim
   | fn g js =>
    cases x with
    | one c=>cases c<;>first|exact h.elim|exact⟨h.1,h.2.1,ih hK h.2.2⟩
    | agg _=>exact h.elim
    | tup _=>exact h.elim
def zgu (d:Nat):Nat->List Nat->Bxs->(Nat->Option (List C))->(Nat->Option (List C))
 | m,k::W,b::bx,f=>upd (zgu d (m+b.length) W bx f) k (some (mC d m b))
 | _,_,_,f=>f
theorem zjs (d:Nat):∀(W:List Nat)(bx:Bxs)(m:Nat)(f:Nat->Option (List C))(b:Nat),b∉W->zgu d m W bx f b=f b
 | [],_,_,_,_,_=>by unfold zgu;rfl
 | k::W,[],_,_,_,_=>by unfold zgu;rfl
 | k::W,c::bx,m,f,b,hb=>by
  unfold zgu;rw[zal _ _ (fun e=>hb (by simp[e]))];exact zjs d W bx _ f b fun h=>hb (by simp[h])
theorem zsm (d:Nat):∀(W:List Nat)(bx:Bxs)(m:Nat)(f:Nat->Option (List C))(b:Nat),W.length=bx.length->b∈W->zgu d m W bx f b≠none
 | [],_,_,_,_,_,hb=>by simp at hb
 | k::W,[],_,_,_,hl,_=>by simp at hl
 | k::W,c::bx,m,f,b,hl,hb=>by
  unfold zgu;by_cases h:b=k
  ·subst h;rw[zag];simp
  ·rw[zal _ _ h];exact zsm d W bx _ f b (by simpa using hl) ((Qu.1 hb).resolve_left h)
theorem zix {σ:St}{g:Gh}{w:World}{bs:Nat->Nat}(d:Nat){β:Nat->Nat}:∀(W:List Nat)(bx:Bxs)(bvs:List (List Value))(j m:Nat)(f:Nat->Option (List C)),(∀i b,W[i]?=some b->bs (j+i)=β b)->zw2 w bs j bvs bx->CRs σ g w (mC d m bx.flatten) bvs.flatten->W.length=bx.length →
  ∀b∈W,∀cs,zgu d m W bx f b=some cs->∃vs ty,w.heap[β b]?=some (.cells vs ty (0,0))/\CRs σ g w cs vs.toList
 | [],_,_,_,_,_,_,_,_,_,b,hb,_,_=>by simp at hb
 | k::W,[],_,_,_,_,_,_,_,hl,_,_,_,_=>by simp at hl
 | k::W,c::bx,[],_,_,_,_,h0,_,_,_,_,_,_=>h0.elim
 | k::W,c::bx,vs::bvs,j,m,f,hβ,h0,hc,hl,b,hb,cs,hs=>by
  obtain⟨h1,⟨ty,h2⟩,h3⟩:=h0;rw[Q4,Q4,zfx]at hc;obtain⟨v1,v2,e,c1,c2⟩:=hc.split;obtain⟨e1,e2⟩:=J8 e (by rw[c1.len,zq7,h1]);subst e1 e2;unfold zgu at hs;by_cases h:b=k
  ·subst h;rw[zag]at hs;cases hs;have:=hβ 0 b rfl;rw[J9]at this;exact⟨⟨vs⟩,ty,by rw[<-this];exact h2,c1⟩
  ·rw[zal _ _ h]at hs;exact zix d W bx bvs (j+1) (m+c.length) f (fun i b hi=>by have:=hβ (i+1) b (by simpa using hi);rw[show j+(i+1)=j+1+i by omega]at this;exact this) h3 c2 (by simpa using hl) b ((Qu.1 hb).resolve_left h) cs hs
def St.callP (σ:St)(d:Nat)(W:List Nat)(bx':Bxs)(res:List (Bool×D)):St:={ sl:=upd σ.sl d (zlk (mD d 0 res)),bx:=zgu d (zbl res).length W bx' σ.bx,ev:=mE d 0 (zbl res++bx'.flatten) σ.ev }
theorem CRs.split_flat {σ:St}{g:Gh}{w w':World}{A:Nat->Prop}{d m:Nat}{l:List (Bool×T)}{c:Bxs}{us vs:List Value}(h:CRs σ g w (mC d 0 (l++c.flatten)) (us++vs))(hl:us.length=l.length):CRs σ g w (mC d 0 l) us/\CRs σ g w (mC d l.length c.flatten) vs:=by
 rw[zfx]at h
 obtain⟨v1,v2,e,c1,c2⟩:=h.split
 obtain⟨e1,e2⟩:=J8 e (by rw[c1.len,zq7,hl])
 subst e1 e2
 rw[Q2]at c2
 exact⟨c1,c2⟩
theorem za0.one_vals {w:World}{A:Nat->Prop}:∀{ds:List (Bool×D)}{vs:List Value}{fp tp:List Nat},za0 w A ds vs fp tp->(vs.flatMap fun u=>u.cells.toList).length=(zbl ds).length:=fun {ds vs fp tp} h=>by
 obtain⟨tp',h'⟩:=h.flat
 rw[za0.len h']
 unfold bxA
 rw[Qa]
theorem qej {W:List Nat}{o:Oper}{σ:St}{τs:Nat->V}{τe:Nat->Option Ev}{τb:Nat->Option (List C)}{x:Operand}{asx:Array Operand}{ts:Array TypeId}{f:FuncId}{cvs:List V}{d:Nat}{bx bx':Bxs}{l:List AF}{res:List (Bool×D)}{ps:List (Nat×Nat×Nat)}(ho:o.op=.call ⟨.value x,asx,ts⟩)(hd:o.dst=some d)
  (h:PC P f bx l bx' res) (hc:za1 (σ.get P 0 x)=some (f,cvs)) (hK:KeptB W σ ⟨τs,zgu d (zbl res).length W bx' τb,τe⟩) (hWn:W.Nodup)
  (hv:mtK W l (σ.gets P asx ts++cvs) fun us=>zyp σ W bx fun cs=>gvA σ (fun u=>∀s∈u,τe s.1=none) [] ps (us++cs) (AF.ds l++bxA bx.flatten)) (hf:mF d 0 (zbl res++bx'.flatten) τe):zai P o σ (St.callP ⟨τs,τb,τe⟩ d W bx' res):=by
 intro n0 N g a w hR hn hdN
 obtain⟨vs,h1,h2⟩:=zdc hR ho hc h.1
 unfold Oper.wp
 rw[h1]
 obtain⟨B,hB⟩:=hR.fam
 let bs:Nat->Nat:=fun j=>g.β (W.getD j 0)
 have hbs:∀j b,W[j]?=some b->bs j=g.β b:=fun j b hj=>by show g.β (W.getD j 0)=_;rw[List.getD_eq_getElem?_getD,hj];rfl
 obtain⟨us,dvs,a1,a2,a3,rfl⟩:=zeq hbs hv h2
 obtain⟨cs,bvs,b1,b2,b3,b4,b5⟩:=zit hR (bs:=bs) (j:=0) (fun i b hi=>by rw[Q2];exact hbs i b hi) a1
 obtain⟨s,k1,⟨tp,k2⟩,k3,k4⟩:=ze1 hR hB b1 (VRl.append a2 b2)
 rw[Kj]at k1 k4
 have hsp:s.Pairwise okP:=(J3.1 (k4 List.Pairwise.nil)).imp fun h=>h.symm
 have hnd:=zd2 hR hB k3 hsp
 have hfp:∀b∈bks B s,∃e,σ.On e/\τe e=none/\b∈g.φ e:=fun b hb=>by
  obtain⟨x,hx,hm⟩:=Jt.1 hb;exact⟨x.1,k3 x hx,k1 x (List.mem_reverse.2 hx),hB.sub x.1 x.2 b (k3 x hx) hm⟩
 have hfn:∀b,zb6 σ g w b->b∉bks B s:=fun b hb hm=>by obtain⟨e,h1,_,h3⟩:=hfp b hm;exact hb.2 e h1 h3
 have hWj:∀j,j<bx.length->∃b,W[j]?=some b/\b∈W/\bs j=g.β b:=fun j hj=>by
  have hlt:j<W.length:=by omega
  exact⟨W[j],List.getElem?_eq_getElem hlt,Qd hlt,hbs j _ (List.getElem?_eq_getElem hlt)⟩
 have hWb:∀b∈W,∃j,j<bx.length/\bs j=g.β b:=fun b hb=>by
  obtain⟨j,hj,rfl⟩:=Jv hb;exact⟨j,Yt,hbs j _ (List.getElem?_eq_getElem hj)⟩
 have hinj:∀i j,i<bx.length->j<bx.length->bs i=bs j->i=j:=fun i j hi hj he=>by
  obtain⟨b,e1,e2,e3⟩:=hWj i hi;obtain⟨c,f1,f2,f3⟩:=hWj j hj;have:b=c:=hR.inj b c (b5 b e2) (b5 c f2) (by rw[<-e3,<-f3];exact he);subst this;have hi':i<W.length:=by omega
  have hj':j<W.length:=by omega
  rw[List.getElem?_eq_getElem hi']at e1;rw[List.getElem?_eq_getElem hj']at f1;exact(List.getElem_inj hWn).1 ((Option.some.inj e1).trans (Option.some.inj f1).symm)
 have hbf:∀j,j<bx.length->bs j∉bks B s:=fun j hj hm=>by
  obtain⟨b,_,e2,e3⟩:=hWj j hj;obtain⟨e,h1,_,h3⟩:=hfp _ hm;exact hR.ebx e b h1 (b5 b e2) (e3▸h3)
 have hfb:∀b,zb6 σ g w b->∀j,j<bx.length->b≠bs j:=fun b hb j hj e=>by
  obtain⟨c,_,e2,e3⟩:=hWj j hj;exact hb.1.1 c (b5 c e2) (by rw[<-e3,e])
 refine(h.2.2 w bs bvs dvs (bks B s) tp (zb6 σ g w) hinj hbf b3 (za0.keepA (fun b hb=>⟨⟨hb.1.2.2.1,hfn b hb,hfb b hb⟩,hb⟩) k2) hnd a3).mono ?_
 rintro e w' ⟨us',bvs',fp',tp',rfl,hbx',hlu,o1,o2,o3,hbk⟩
 obtain⟨v1,v2,f1,f2,t1,t2,ev,ef,et,p1,p2⟩:=za0.split o1
 obtain⟨rfl,rfl⟩:=J8 ev (by rw[hlu,za0.len p1])
 subst ef
 obtain⟨t1',p1'⟩:=p1.flat
 have pp:=za0.append p1' p2
 rw[<-zgf]at pp
 have hnew:=New.refl ⟨τs,zgu d (zbl res).length W bx' τb,τe⟩ g (fun b=>b∈bks B s\/w.heap.size<=b) w' hR.slc
 obtain⟨g',q1,q2,q3⟩:=New.mix (τ:=⟨τs,zgu d (zbl res).length W bx' τb,τe⟩) (g:=g) (NB:=fun b=>b∈bks B s\/w.heap.size<=b) (w':=w') d (zbl res++bx'.flatten) _ (f1++f2) _ 0 τe g [] hnew hf pp o2 (fun b hb'=>⟨o3 b hb',by simp⟩)
 have hbk':Bk (fun k=>k<w.heap.size/\k∉bks B s/\∀b∈W,k≠g.β b) w w':=⟨hbk.os,hbk.tape,hbk.output,hbk.size,fun k hk=>hbk.block k ⟨hk.1,hk.2.1,fun j hj e=>by
  obtain⟨c,_,e2,e3⟩:=hWj j hj
  exact hk.2.2 c e2 (by rw[<-e3,e])⟩⟩
 have hfree:∀k,((k<w'.heap.size/\k∉f1++f2/\∀j,j<bx.length->k≠bs j)/\(zb6 σ g w k\/w.heap.size<=k\/k∈bks B s))->zb6 ⟨τs,zgu d (zbl res).length W bx' τb,mE d 0 (zbl res++bx'.flatten) τe⟩ g' w' k:=fun k hk=>by
  have hOnσ:∀e,St.On ⟨τs,zgu d (zbl res).length W bx' τb,τe⟩ e->σ.On e:=fun e ⟨x,hx,ho⟩=>⟨x,(hK.ev e x hx).1,ho⟩;have hno:∀e,St.On ⟨τs,zgu d (zbl res).length W bx' τb,mE d 0 (zbl res++bx'.flatten) τe⟩ e->k∉g'.φ e:=fun e ho' hm=>by
   by_cases hee:τe e=none
   ·obtain⟨x,hx,_⟩:=ho';have:=((q1.new e x hee hx).2.2.1 k hm).2;rw[Ki]at this;exact hk.1.2.1 this
   ·rw[(q1.old e hee).2.2]at hm;obtain⟨x,hx,hon⟩:=ho';have ho2:St.On ⟨τs,zgu d (zbl res).length W bx' τb,τe⟩ e:=⟨x,(q1.old e hee).1.symm.trans hx,hon⟩;rcases hk.2 with h|h|h
    ·exact h.2 e (hOnσ e ho2) hm
    ·obtain⟨y,hy,hyo⟩:=hOnσ e ho2;have:=(hR.evs e y hy hyo).lt k hm;omega
    ·obtain⟨e',h1,h2,h3⟩:=hfp k h;refine hR.apart e e' (hOnσ e ho2) h1 (fun ee=>?_) k hm h3;subst ee;obtain⟨y,hy,_⟩:=ho2;have hy:τe e=some y:=hy;rw[h2]at hy;cases hy
  have hbne:∀b,zgu d (zbl res).length W bx' τb b≠none->σ.bx b≠none:=fun b hb=>by
   by_cases hbW:b∈W
   ·exact(hK.bxW b hbW).1
   obtain⟨cs,hcs⟩:=Kp.1 hb;rw[(hK.bx b cs hbW hcs).1];simp
  refine⟨⟨fun j hj e=>?_,fun e x hx hon hh=>hno e ⟨x,hx,hon⟩ (List.mem_of_mem_head? hh),hk.1.1,?_⟩,hno⟩
  ·have hj':=hbne j hj;rw[q1.β]at e;rcases hk.2 with h|h|h
   ·exact h.1.1 j hj' e
   ·have:=hR.lt hj';omega
   ·obtain⟨e',h1,_,h3⟩:=hfp k h;exact hR.ebx e' j h1 hj' (e▸h3)
  ·rw[q1.A0];rcases hk.2 with h|h|h
   ·exact h.1.2.2.2
   ·exact(hR.anew k (hn.new h)).1
   ·obtain⟨e',h1,_,h3⟩:=hfp k h;exact(hR.ebase e' h1 k h3).1
 have hcr:=q3 ⟨τs,zgu d (zbl res).length W bx' τb,mE d 0 (zbl res++bx'.flatten) τe⟩ w' rfl fun t v h=>zas.keep (fun _ _=>rfl) hfree t v h
 obtain⟨hc1,hc2⟩:=hcr.split_flat (A:=fun _=>True) (w':=w') (m:=0) (za0.one_vals p1)
 have hR':=hR.givenB hn hK (fun b hb=>by obtain⟨e,x1,x2,x3⟩:=hfp b hb;exact⟨e,x1,x2,x3⟩) hbk' q1 (zix d W bx' bvs' 0 (zbl res).length τb (fun i b hi=>by rw[Q2];exact hbs i b hi) hbx' hc2 (by rw[h.2.1];omega))
 have hBk:Bk n0 w w':=⟨hbk.os,hbk.tape,hbk.output,hbk.size,fun k hk=>hbk.block k ⟨hn k hk,fun hm=>by
  obtain⟨e,h1,_,h3⟩:=hfp k hm;exact hR.etop e h1 k h3 hk,fun j hj e=>by
  obtain⟨c,_,e2,e3⟩:=hWj j hj
  exact hR.base c (b5 c e2) (by rw[<-e3,<-e];exact hk)⟩⟩
 refine⟨g',?_,hBk,q1.A0,q1.R0⟩
 have hp:=hR'.put (some d) (x:=zlk (mD d 0 res)) (v:=zck us') (zd7 (zr7 d 0 p1 hc1) (zp3 d res 0)) (fun i hi=>by cases hi;exact hdN d hd)
 rw[hd]
 exact hp
end
section
open Go.RowKit
variable {P:Program}
def subN:List Nat->List Nat->Prop
 | [],_=>True
 | x::xs,l=>noK x l=false/\subN xs l
theorem zzu:∀{x:Nat}{l:List Nat},noK x l=false->x∈l
 | _,[],h=>by cases h
 | x,y::l,h=>by
  unfold noK at h;by_cases e:x=y
  ·simp[e]
  ·rw[if_neg e]at h;exact Jo _ (zzu h)
theorem zjx:∀{xs l:List Nat},subN xs l->∀x∈xs,x∈l
 | [],_,_,x,hx=>by simp at hx
 | y::xs,l,h,x,hx=>by
  rcases Qu.1 hx with rfl|hx
  ·exact zzu h.1
  ·exact zjx h.2 x hx
theorem zli {σ:St}:∀(L:List Nat)(i:Nat),(i∈L->zgw (σ.lL L) i=σ.sl i)/\(i∉L->zgw (σ.lL L) i=.one .any)
 | [],i=>⟨fun h=>by simp at h,fun _=>rfl⟩
 | j::L,i=>by
  show(_->(if i=j then σ.sl j else zgw (σ.lL L) i)=_)/\(_->(if i=j then σ.sl j else zgw (σ.lL L) i)=_)
  by_cases h:i=j
  ·subst h;rw[if_pos rfl];exact⟨fun _=>rfl,fun h=>by simp at h⟩
  ·rw[if_neg h];exact⟨fun hm=>(zli L i).1 ((Qu.1 hm).resolve_left h),fun hm=>(zli L i).2 fun h'=>hm (Jo _ h')⟩
theorem zfe {α:Type}(f:Nat->α):∀(L:List Nat)(i:Nat),(i∈L->tbl (L.map fun b=>(b,f b)) i=some (f i))/\(i∉L->tbl (L.map fun b=>(b,f b)) i=none)
 | [],i=>⟨fun h=>by simp at h,fun _=>rfl⟩
 | j::L,i=>by
  show(_->(if i=j then some (f j)else tbl (L.map fun b=>(b,f b)) i)=_)/\(_->(if i=j then some (f j)else tbl (L.map fun b=>(b,f b)) i)=_)
  by_cases h:i=j
  ·subst h;rw[if_pos rfl];exact⟨fun _=>rfl,fun h=>by simp at h⟩
  ·rw[if_neg h];exact⟨fun hm=>(zfe f L i).1 ((Qu.1 hm).resolve_left h),fun hm=>(zfe f L i).2 fun h'=>hm (Jo _ h')⟩
def blank (W:List Nat)(f:Nat->Option (List C)):Nat->Option (List C)
 | b=>if noK b W=true then f b else some []
theorem qjh (W:List Nat)(f:Nat->Option (List C))(b:Nat):blank W f b=if noK b W=true then f b else some []:=rfl
def St.wB (σ:St)(W:List Nat):St:=⟨σ.sl,blank W σ.bx,σ.ev⟩
def St.BW (σ:St)(L W:List Nat):List Nat:=dif W ((σ.wB W).KB L)
def St.EW (σ:St)(L W:List Nat):List Nat:=(σ.wB W).KE L
def St.hW (σ:St)(L W:List Nat):St:=⟨zgw (σ.lL L),tbl (σ.lB (σ.BW L W)),tbl (σ.lE (σ.EW L W))⟩
section
variable {ks:List Fr}{Q:Exit->St->Prop}{σ:St}{ops:Array Oper}{os:List Oper}{ty:TypeId}{ps:String}{af:Array Edge}{d:Nat}{x:Operand}{asx:Array Operand}{ts:Array TypeId}{f:FuncId}{bx bx':Bxs}{l:List AF}{res:List (Bool×D)}
theorem zaq (L A W:List Nat)(pl:List (Nat×Nat×Nat))(h:PC P f bx l bx' res)(hWn:W.Nodup)(hWl:W.length=bx'.length)(hw:wkK σ (A++L))
  (hk:subN (σ.BW L W) (σ.KB (A++L))/\subN W (σ.KB (A++L))/\subN (σ.EW L W) (σ.KE (A++L))/\okL ⟨zgw (σ.lL L),zgu d (zbl res).length W bx' (tbl (σ.lB (σ.BW L W))),tbl (σ.lE (σ.EW L W))⟩ (σ.lL L)/\okB ⟨zgw (σ.lL L),zgu d (zbl res).length W bx' (tbl (σ.lB (σ.BW L W))),tbl (σ.lE (σ.EW L W))⟩ (σ.lB (σ.BW L W))/\okE (σ.lE (σ.EW L W)))
  (hp:zav (za1 ((σ.hL (A++L)).get P 0 x)) fun p=>p.1=f/\mtK W l ((σ.hL (A++L)).gets P asx ts++p.2) fun us=>zyp (σ.hL (A++L)) W bx fun cs=>gvA (σ.hL (A++L)) (zpa (σ.lE (σ.EW L W))) [] pl (us++cs) (AF.ds l++bxA bx.flatten))
  (hf:mF d 0 (zbl res++bx'.flatten) (tbl (σ.lE (σ.EW L W))))
  (k:exo P ops os ks Q ((σ.hW L W).callP d W bx' res)):exo P ops (⟨some d,.call ⟨.value x,asx,ts⟩,ty,ps,af,none⟩::os) ks Q σ:=by
 obtain⟨⟨f',cvs⟩,h1,rfl,h2⟩:=zar hp
 obtain⟨k1,k2,k3,k4,k5,k6⟩:=hk
 have hK:KeptB W (σ.hL (A++L)) ⟨zgw (σ.lL L),zgu d (zbl res).length W bx' (tbl (σ.lB (σ.BW L W))),tbl (σ.lE (σ.EW L W))⟩:=by
  refine⟨fun i=>?_,fun b cs hb hcs=>?_,fun b hb=>⟨?_,zsm d W bx' _ _ b hWl hb⟩,fun e x he=>?_⟩
  ·by_cases hi:i∈L
   ·refine Or.inr ⟨?_,zne k4 i⟩;show zgw (σ.lL L) i=zgw (σ.lL (A++L)) i
    rw[(zli L i).1 hi,(zli (A++L) i).1 (Jx _ hi)]
   ·exact Or.inl ((zli L i).2 hi)
  ·have hcs:zgu d (zbl res).length W bx' (tbl (σ.lB (σ.BW L W))) b=some cs:=hcs;rw[zjs d W bx' _ _ b hb]at hcs;by_cases hm:b∈σ.BW L W
   ·refine⟨?_,zob k5 b cs hcs⟩;have e1:=(zfe (fun b=>(σ.bx b).getD []) (σ.BW L W) b).1 hm;have e2:=(zfe (fun b=>(σ.bx b).getD []) (σ.KB (A++L)) b).1 (zjx k1 b hm);have e1:tbl (σ.lB (σ.BW L W)) b=some ((σ.bx b).getD []):=e1;rw[e1]at hcs;cases hcs;exact e2
   ·have e1:=(zfe (fun b=>(σ.bx b).getD []) (σ.BW L W) b).2 hm;have e1:tbl (σ.lB (σ.BW L W)) b=none:=e1;rw[e1]at hcs;cases hcs
  ·have e2:=(zfe (fun b=>(σ.bx b).getD []) (σ.KB (A++L)) b).1 (zjx k2 b hb);have e2:(σ.hL (A++L)).bx b=some ((σ.bx b).getD []):=e2;rw[e2];simp
  ·have he:tbl (σ.lE (σ.EW L W)) e=some x:=he;by_cases hm:e∈σ.EW L W
   ·refine⟨?_,zor k6 e x he⟩;have e1:=(zfe (fun e=>(σ.ev e).getD ⟨false,0,[],0,false⟩) (σ.EW L W) e).1 hm;have e2:=(zfe (fun e=>(σ.ev e).getD ⟨false,0,[],0,false⟩) (σ.KE (A++L)) e).1 (zjx k3 e hm);have e1:tbl (σ.lE (σ.EW L W)) e=some ((σ.ev e).getD ⟨false,0,[],0,false⟩):=e1;rw[e1]at he;cases he;exact e2
   ·have e1:=(zfe (fun e=>(σ.ev e).getD ⟨false,0,[],0,false⟩) (σ.EW L W) e).2 hm;have e1:tbl (σ.lE (σ.EW L W)) e=none:=e1;rw[e1]at he;cases he
 refine zda rfl rfl (zai.pre (wkK_wk hw) (qej (P:=P) (o:=⟨some d,.call ⟨.value x,asx,ts⟩,ty,ps,af,none⟩) rfl rfl h h1 hK hWn (ps:=pl) ?_ hf)) k
 exact zv8 (fun us hu=>zzm (fun cs hc=>zgq (fun u hu=>zhf hu) hc) hu) h2
end
def mkZ (P:Program)(t:TypeId):List (List C):=match (elT P t).bind (zcz P)with
 | some z=>[z]
 | none=>[]
def mkEv (d:Nat):Option (Prop×Ev)->List (Nat×Ev)
 | some (_,y)=>[(d*32,y)]
 | none=>[]
theorem qmm {σ σ1:St}{t:TypeId}{l c:Operand}(h:∀k∈zaw [l,c]++rK (mkZ P t),zba σ σ1 k):mkD P σ1 t l c=mkD P σ t l c:=by
 have e1:σ1.get P 0 l=σ.get P 0 l:=zcg (l:=[l,c]) (fun k hk=>h k (by simp[hk])) (by simp) 0
 have e2:σ1.get P 0 c=σ.get P 0 c:=zcg (l:=[l,c]) (fun k hk=>h k (by simp[hk])) (by simp) 0
 unfold mkD
 rw[e1,e2]
 unfold mkZ at h
 cases hel:elT P t with
 | none=>rfl
 | some el =>
  simp only[Kb];rw[hel]at h;cases hz:zcz P el with
  | none=>simp only[Option.bind_none]
  | some z =>
   rw[Kb,hz]at h;have e3:zrb σ1 z=zrb σ z:=zjw fun k hk=>h k (by simp[rK,hk]);simp only[Kb,e3]
section
variable {ks:List Fr}{Q:Exit->St->Prop}{σ:St}{ops:Array Oper}{os:List Oper}{L:List (List Ky×List Ky)}{ty:TypeId}{ps:String}{af:Array Edge}{d:Nat}{l c:Operand}{t:TypeId}
theorem dMakeD (h:zav (mkD P σ t l c) fun r=>r.1/\σ.ev (d*32)=none)
  (k:exd P ops os (L++[(zaw [l,c]++(rK (mkZ P t)++[(2,d*32)]),dK (some d)++eK (mkEv d (mkD P σ t l c)))]) ks Q ((σ.mk1 d (mkD P σ t l c)).put (some d) (.one (.ow (d*32) 0)))) :
  exd P ops (⟨some d,.makeSlice t l c,ty,ps,af,none⟩::os) L ks Q σ:=by
 obtain⟨⟨p,y⟩,h1,h2,h3⟩:=zar h
 rw[h1]at k
 have hloc:∀σ1,(∀k∈zaw [l,c]++(rK (mkZ P t)++[(2,d*32)]),zba σ σ1 k)->mkD P σ1 t l c=some (p,y)/\σ1.ev (d*32)=none:=fun σ1 hs =>
  ⟨(qmm fun k hk=>hs k (by simp only[Qv]at hk⊢;rcases hk with hk|hk<;>simp[hk])).trans h1,(Eq.symm (hs (2,d*32) (by simp))).trans h3⟩
 refine zgy rfl rfl ?_ k
 show zgz P _ _ _ σ ((σ.apd (d*32) [] y).put (some d) _)
 rw[zeg]
 refine zgz.of (o:=⟨some d,_,ty,ps,af,none⟩) (l:=[(d*32,y)]) (zbp (zbz _) (zbp (qd6 _) rfl)) fun σ1 hs=>?_
 obtain⟨h1,h3⟩:=hloc σ1 hs
 show zai P _ σ1 ((σ1.upE ((d*32,y)::ztm [])).put _ _)
 rw[<-zeg]
 unfold mkD at h1
 obtain⟨el,e1,h1⟩:=Qg.1 h1
 obtain⟨n,e2,h1⟩:=Qg.1 h1
 obtain⟨bts,e3,h1⟩:=Qg.1 h1
 obtain⟨z,e4,h1⟩:=Qg.1 h1
 obtain⟨⟨q1,q2⟩,e5,h1⟩:=Qg.1 h1
 split at h1
 ·rename_i kl a kc b hl hc;split at h1
  ·rename_i hh;obtain⟨k1,k2,k3⟩:=hh;have:q2=[]:=K7 k2;subst this;simp only[Qf,Qp]at h1;obtain⟨rfl,rfl⟩:=h1;exact qj2 e1 e2 e3 e4 k1 e5 hl hc k3 h2.1 h2.2.1 h2.2.2 h3
  ·cases h1
 ·cases h1
end
def zw5:Option (Nat×Ev×List (Nat×Ev))->List Ky
 | some (e,_,_)=>[(2,e)]
 | none=>[]
def stoW:Option (Nat×Ev×List (Nat×Ev))->List (Nat×Ev)
 | some (e,y,cons)=>(e,y)::ztm cons
 | none=>[]
theorem qf1 {σ σ1:St}{t:TypeId}{x y:Operand}(h:∀k∈zaw [x,y]++(rK [(σ.get P t y).cells]++zw5 (zrd P σ t x y)),zba σ σ1 k){r:Nat×Ev×List (Nat×Ev)}(hr:zrd P σ t x y=some r):zrd P σ1 t x y=some r:=by
 have e1:σ1.get P 0 x=σ.get P 0 x:=zcg (l:=[x,y]) (fun k hk=>h k (by simp[hk])) (by simp) 0
 have e2:σ1.get P t y=σ.get P t y:=zcg (l:=[x,y]) (fun k hk=>h k (by simp[hk])) (by simp) t
 have e3:zrb σ1 (σ.get P t y).cells=zrb σ (σ.get P t y).cells:=zjw fun k hk=>h k (by simp[rK,hk])
 rw[hr]at h
 rw[<-hr]
 unfold zrd at hr⊢
 rw[e1,e2]
 split at hr
 ·rename_i e g sz i o hx;obtain⟨z,hz,hr⟩:=Qg.1 hr;obtain⟨n,hn,hr⟩:=Qg.1 hr;split at hr
  ·obtain⟨q,_,hr⟩:=Q3.1 hr;subst hr;have e4:σ1.ev e=σ.ev e:=Eq.symm (h (2,e) (by simp[zw5]));simp only[e4,e3]
  ·cases hr
 ·cases hr
section
variable {ks:List Fr}{Q:Exit->St->Prop}{σ:St}{ops:Array Oper}{os:List Oper}{L:List (List Ky×List Ky)}{ty:TypeId}{ps:String}{af:Array Edge}{ds:Option Nat}{x y:Operand}{t:TypeId}
theorem qi3 (r:Option (Nat×Ev×List (Nat×Ev))):okK (zw5 r)=true:=by
 cases r with
 | none=>rfl
 | some r=>rfl
theorem znt (h:zav (zrd P σ t x y) fun r=>(r.2.2.map (·.1)).Nodup/\∀p∈r.2.2,p.1≠r.1)
  (k:exd P ops os (L++[(zaw [x,y]++(rK [(σ.get P t y).cells]++zw5 (zrd P σ t x y)),dK ds++eK (stoW (zrd P σ t x y)))]) ks Q ((σ.apdO (zrd P σ t x y)).put ds (.one .any))):exdS P ops ⟨ds,.store t x y,ty,ps,af,none⟩ os L ks Q σ:=by
 obtain⟨⟨e,z,cons⟩,h1,h2,h3⟩:=zar h
 refine⟨_,_,_,?_,k⟩
 have hloc:∀σ1,(∀k∈zaw [x,y]++(rK [(σ.get P t y).cells]++zw5 (zrd P σ t x y)),zba σ σ1 k)->zrd P σ1 t x y=some (e,z,cons):=fun σ1 hs=>qf1 hs h1
 rw[h1]
 show zgz P _ _ (dK ds++eK ((e,z)::ztm cons)) σ ((σ.apd e cons z).put ds _)
 rw[zeg]
 rw[h1]at hloc
 refine zgz.of (o:=⟨ds,_,ty,ps,af,none⟩) (l:=(e,z)::ztm cons) (zbp (zbz _) (zbp (qd6 _) (qi3 _))) fun σ1 hs=>?_
 have hh:=hloc σ1 hs
 have hs2:=zuc (σ:=σ1) (ty:=ty) (ps:=ps) (af:=af) (ds:=ds) (x:=x) (y:=y) (t:=t) (P:=P) (by rw[hh];exact⟨h2,h3⟩)
 rw[hh]at hs2
 have hs2:zai P ⟨ds,.store t x y,ty,ps,af,none⟩ σ1 ((σ1.apd e cons z).put ds (.one .any)):=hs2
 rw[zeg]at hs2
 exact hs2
end
attribute [go_sem] mkZ mkEv zw5 stoW AF.ds c1P zve zki zdg zi9 zi0 bxE PB PB0 mtK zyp zgu St.callP subN qjh St.wB St.BW St.EW St.hW bxA List.flatten_cons List.flatten_nil
end
section
open Go.RowKit
variable {P:Program}
theorem Rel.afterB {W:List Nat}{bx':Nat->Option (List C)}{n0:Nat->Prop}{N:Nat}{σ:St}{g g':Gh}{a:Act}{w w':World}{ev':Nat->Option Ev}{F:List Nat}(h:Rel n0 N σ g a w)(hn0:LtK n0 w)(hb:Bk (fun k=>k<w.heap.size/\∀b∈W,k≠g.β b) w w')(hdom:∀b,bx' b≠none↔σ.bx b≠none)(hsm:∀b,b∉W->bx' b=σ.bx b)(hWσ:∀b∈W,σ.bx b≠none)(hn:New σ g (w.heap.size<=·) w' ev' g' F)(hW:∀b∈W,∀cs,bx' b=some cs->∃vs ty,w'.heap[g.β b]?=some (.cells vs ty (0,0))/\CRs ⟨σ.sl,bx',ev'⟩ g' w' cs vs.toList):Rel n0 N ⟨σ.sl,bx',ev'⟩ g' a w':=by
 have hlt:∀e x,σ.ev e=none->ev' e=some x->∀b∈g'.φ e,w.heap.size<=b:=fun e x h1 h2 b hbb=>((hn.new e x h1 h2).2.2.1 b hbb).1
 have hold:∀e,σ.On e->∀b∈g.φ e,b<w.heap.size:=fun e he b hbb=>by
  obtain⟨x,hx,ho⟩:=he;exact(h.evs e x hx ho).lt b hbb
 have hon:∀e,St.On ⟨σ.sl,bx',ev'⟩ e->σ.ev e≠none->σ.On e:=fun e he hee=>by
  obtain⟨x,hx,ho⟩:=he;exact⟨x,(hn.old e hee).1.symm.trans hx,ho⟩
 have hne:∀e,St.On ⟨σ.sl,bx',ev'⟩ e->∃x,ev' e=some x:=fun e he=>⟨_,he.choose_spec.1⟩
 have m:Mv σ ⟨σ.sl,bx',ev'⟩ g g' w w':=by
  refine⟨fun b hf=>hb.block b ⟨hf.2.2.1,fun k hk e=>hf.1 k (hWσ k hk) e.symm⟩,fun b hf=>⟨fun k hk=>by rw[hn.β];exact hf.1 k ((hdom k).1 hk),fun e x hx ho hh=>?_,Jn hf.2.2.1 hb.size,by rw[hn.A0];exact hf.2.2.2⟩,fun b hbb=>⟨by rw[hn.β],(hdom b).2 hbb⟩,fun e n he=>?_,fun b hf e he hm=>?_⟩
  ·by_cases hee:σ.ev e=none
   ·have:=hlt e x hee hx b (List.mem_of_mem_head? hh);have:=hf.2.2.1;omega
   ·rw[(hn.old e hee).2.2]at hh;exact hf.2.1 e x ((hn.old e hee).1.symm.trans hx) ho hh
  ·obtain⟨x,hx,hg⟩:=he;have hee:σ.ev e≠none:=by rw[hx];simp
   exact⟨⟨x,(hn.old e hee).1.trans hx,hg⟩,by rw[(hn.old e hee).2.1]⟩
  ·by_cases hee:σ.ev e=none
   ·obtain⟨x,hx⟩:=hne e he;have:=hlt e x hee hx b hm;have:=hf.1.2.2.1;omega
   ·rw[(hn.old e hee).2.2]at hm;exact hf.2 e (hon e he hee) hm
 refine⟨h.defers,h.size,by rw[hn.A0,hn.R0];exact h.anew,fun i=>by rw[hn.R0];exact m.vr (h.slots i),fun b cs hbb=>?_,fun b hbb=>by rw[hn.β];exact h.base b ((hdom b).1 hbb),fun b b' h1 h2 h3=>by rw[hn.β]at h3;exact h.inj b b' ((hdom b).1 h1) ((hdom b').1 h2) h3,fun e x he ho=>?_,fun e x he ho=>?_,hn.slc,fun e he b hbb=>?_,fun e he b hbb=>?_,fun e he=>?_,fun e e' h1 h2 hne' b hb1 hb2=>?_,fun e k he hk hm=>?_⟩
 ·by_cases hbW:b∈W
  ·rw[hn.β];exact hW b hbW cs hbb
  have hbb:bx' b=some cs:=hbb;rw[hsm b hbW]at hbb;obtain⟨vs,ty,k1,k2⟩:=h.boxes b cs hbb;have hne0:σ.bx b≠none:=by rw[hbb];simp
  exact⟨vs,ty,by rw[hn.β,hb.block _ ⟨h.lt hne0,fun k hk e=>hbW (h.inj b k hne0 (hWσ k hk) e▸hk)⟩];exact k1,m.crs k2⟩
 ·by_cases hee:σ.ev e=none
  ·obtain⟨⟨k1,_,k0⟩,k2,k3,k4⟩:=hn.new e x hee he;rw[k0];unfold za3 at k2;obtain⟨ao,cap,j1,j2,j3,j4⟩:=k2;refine⟨ao,cap,j1,j2,j3,?_⟩;rcases j4 with j4|⟨b,cells,ty,fps,j4,j5,j6,j7,j8⟩
   ·exact Or.inl j4
   ·exact Or.inr ⟨b,cells,ty,fps,j4,j5,j6,j7,by rw[if_pos k1];exact j8⟩
  ·have he':=he;simp only[(hn.old e hee).1]at he;rw[(hn.old e hee).2.1,(hn.old e hee).2.2];exact m.evr (h.evs e x he ho) fun b hbb=>hb.block b ⟨hold e ⟨x,he,ho⟩ b hbb,fun k hk e'=>h.ebx e k ⟨x,he,ho⟩ (hWσ k hk) (e'▸hbb)⟩
 ·by_cases hee:σ.ev e=none
  ·obtain⟨⟨_,k1,_⟩,_⟩:=hn.new e x hee he;rw[k1]at ho;cases ho
  ·simp only[(hn.old e hee).1]at he;rw[(hn.old e hee).2.1];exact⟨m.rep (h.offs e x he ho).1,(h.offs e x he ho).2⟩
 ·by_cases hee:σ.ev e=none
  ·obtain⟨x,hx⟩:=hne e he;rw[hn.A0,hn.R0];exact h.anew b (hn0.new (hlt e x hee hx b hbb))
  ·rw[(hn.old e hee).2.2]at hbb;rw[hn.A0,hn.R0];exact h.ebase e (hon e he hee) b hbb
 ·by_cases hee:σ.ev e=none
  ·obtain⟨x,hx⟩:=hne e he;exact hn0.new (hlt e x hee hx b hbb)
  ·rw[(hn.old e hee).2.2]at hbb;exact h.etop e (hon e he hee) b hbb
 ·by_cases hee:σ.ev e=none
  ·obtain⟨x,hx⟩:=hne e he;exact(hn.new e x hee hx).2.2.2
  ·rw[(hn.old e hee).2.2];exact h.nodup e (hon e he hee)
 ·obtain⟨x,hx⟩:=hne e h1;obtain⟨x',hx'⟩:=hne e' h2;by_cases e1:σ.ev e=none<;>by_cases e2:σ.ev e'=none
  ·exact hn.apart e e' e1 e2 (by rw[hx];simp) (by rw[hx'];simp) hne' b hb1 hb2
  ·rw[(hn.old e' e2).2.2]at hb2;have:=hlt e x e1 hx b hb1;have:=hold e' (hon e' h2 e2) b hb2;omega
  ·rw[(hn.old e e1).2.2]at hb1;have:=hlt e' x' e2 hx' b hb2;have:=hold e (hon e h1 e1) b hb1;omega
  ·rw[(hn.old e e1).2.2]at hb1;rw[(hn.old e' e2).2.2]at hb2;exact h.apart e e' (hon e h1 e1) (hon e' h2 e2) hne' b hb1 hb2
 ·rw[hn.β]at hm;by_cases hee:σ.ev e=none
  ·obtain⟨x,hx⟩:=hne e he;have:=hlt e x hee hx _ hm;have:=h.lt ((hdom k).1 hk);omega
  ·rw[(hn.old e hee).2.2]at hm;exact h.ebx e k (hon e he hee) ((hdom k).1 hk) hm
def gvQ:List V->List (Bool×D)->Prop
 | [],[]=>True
 | v::vs,(false,d)::ds=>rdV v d/\gvQ vs ds
 | .one (.t x)::vs,(true,.one t)::ds=>x=t/\t.flat=true/\gvQ vs ds
 | _,_=>False
theorem qg6 {w:World}{A:Nat->Prop}{t:T}{v:Value}(hf:t.flat=true)(h:zas w A t v):za3 w t v []/\zj3 t []=[]:=by
 cases t<;>simp only[T.flat,Qn]at hf
 ·unfold zas at h;unfold za3;exact⟨⟨h.1,h.2.1,h.2.2,rfl⟩,rfl⟩
 ·unfold zas at h;unfold za3;exact⟨⟨h,rfl⟩,rfl⟩
 ·unfold zas at h;unfold za3;exact⟨⟨h.1,h.2,rfl⟩,rfl⟩
 ·unfold zas at h;unfold za3;exact⟨⟨h,rfl⟩,rfl⟩
theorem zhj {σ:St}{g:Gh}{w:World}:∀{xs:List V}{ds:List (Bool×D)}{vs:List Value},gvQ xs ds->VRl σ g w xs vs->za0 w (zb6 σ g w) ds vs [] []
 | [],[],vs,_,hv=>⟨hv,rfl,rfl⟩
 | [],_::_,_,h,_=>h.elim
 | x::xs,[],_,h,_=>by cases x with
  | one c=>cases c<;>exact h.elim
  | agg _=>exact h.elim
  | tup _=>exact h.elim
 | x::xs,(false,d)::ds,vs,h,hv=>by
  obtain⟨v,vs',rfl,h1,h2⟩:=hv;have h:rdV x d/\gvQ xs ds:=by cases x with
   | one c=>cases c<;>exact h
   | agg _=>exact h
   | tup _=>exact h
  exact⟨v,vs',rfl,qes h.1 h1,zhj h.2 h2⟩
 | .one (.t x)::xs,(true,.one t)::ds,vs,h,hv=>by
  obtain⟨v,vs',rfl,h1,h2⟩:=hv;obtain⟨rfl,hf,h⟩:=h;obtain⟨k1,k2⟩:=qg6 hf h1;exact⟨v,vs',[],[],[],[],rfl,rfl,rfl,⟨k1,k2.symm⟩,zhj h h2⟩
 | x::_,(true,.agg _)::_,_,h,_=>by cases x with
  | one c=>cases c<;>exact h.elim
  | agg _=>exact h.elim
  | tup _=>exact h.elim
 | .one (.nl _)::_,(true,.one _)::_,_,h,_=>h.elim
 | .one (.ow _ _)::_,(true,.one _)::_,_,h,_=>h.elim
 | .one (.bx _ _)::_,(true,.one _)::_,_,h,_=>h.elim
 | .one (.el _ _)::_,(true,.one _)::_,_,h,_=>h.elim
 | .one (.eo _ _ _ _ _)::_,(true,.one _)::_,_,h,_=>h.elim
 | .one (.fn _ _)::_,(true,.one _)::_,_,h,_=>h.elim
 | .one (.cv _)::_,(true,.one _)::_,_,h,_=>h.elim
 | .one .any::_,(true,.one _)::_,_,h,_=>h.elim
 | .one (.rn _)::_,(true,.one _)::_,_,h,_=>h.elim
 | .one (.er _ _)::_,(true,.one _)::_,_,h,_=>h.elim
 | .agg _::_,(true,.one _)::_,_,h,_=>h.elim
 | .tup _::_,(true,.one _)::_,_,h,_=>h.elim
def zyq:List (Nat×List C)->(Nat->Option (List C))->(Nat->Option (List C))
 | [],f=>f
 | (k,cs)::l,f=>upd (zyq l f) k (some cs)
def boL (d:Nat):Nat->List Nat->Bxs->List (Nat×List C)
 | m,k::W,b::bx=>(k,mC d m b)::boL d (m+b.length) W bx
 | _,_,_=>[]
theorem zt2 (d:Nat):∀(W:List Nat)(bx:Bxs)(m:Nat)(f:Nat->Option (List C)),zgu d m W bx f=zyq (boL d m W bx) f
 | [],bx,m,f=>by unfold zgu boL;rfl
 | k::W,[],m,f=>by unfold zgu boL;rfl
 | k::W,b::bx,m,f=>by unfold zgu boL zyq;rw[zt2 d W bx]
def mEl (d:Nat):Nat->List (Bool×T)->List (Nat×Ev)->List (Nat×Ev)
 | _,[],acc=>acc
 | j,(true,.sl sz rows)::ts,acc=>mEl d (j+1) ts ((d*32+j,⟨true,sz,rows,0,true⟩)::acc)
 | j,(_,_)::ts,acc=>mEl d (j+1) ts acc
theorem zt8 (d:Nat):∀(ts:List (Bool×T))(j:Nat)(acc:List (Nat×Ev))(f:Nat->Option Ev),mE d j ts (zmj acc f)=zmj (mEl d j ts acc) f
 | [],_,_,_=>rfl
 | (false,t)::ts,j,acc,f=>by
  have:mEl d j ((false,t)::ts) acc=mEl d (j+1) ts acc:=by cases t<;>rfl
  rw[this];exact zt8 d ts (j+1) acc f
 | (true,t)::ts,j,acc,f=>by
  cases t
  case sl sz rows=>exact zt8 d ts (j+1) ((d*32+j,⟨true,sz,rows,0,true⟩)::acc) f
  all_goals exact zt8 d ts (j+1) acc f
theorem zj4 (d:Nat):∀(ts:List (Bool×T))(j:Nat)(acc:List (Nat×Ev))(k:Ky),k∈eK acc->k∈eK (mEl d j ts acc)
 | [],_,_,_,h=>h
 | (false,t)::ts,j,acc,k,h=>by
  have:mEl d j ((false,t)::ts) acc=mEl d (j+1) ts acc:=by cases t<;>rfl
  rw[this];exact zj4 d ts (j+1) acc k h
 | (true,t)::ts,j,acc,k,h=>by
  cases t
  case sl sz rows=>exact zj4 d ts (j+1) _ k (by unfold eK;exact Jo _ h)
  all_goals exact zj4 d ts (j+1) acc k h
theorem zux (d:Nat):∀(ts:List (Bool×T))(j:Nat)(acc:List (Nat×Ev))(f f':Nat->Option Ev),(∀e,(2,e)∈eK (mEl d j ts acc)->f' e=f e)->mF d j ts f->mF d j ts f'
 | [],_,_,_,_,_,_=>trivial
 | (false,t)::ts,j,acc,f,f',hk,h=>by
  have e0:mEl d j ((false,t)::ts) acc=mEl d (j+1) ts acc:=by cases t<;>rfl
  rw[e0]at hk;exact zux d ts (j+1) acc f f' hk h
 | (true,t)::ts,j,acc,f,f',hk,h=>by
  cases t
  case sl sz rows =>
   obtain⟨h1,h2⟩:=h;have hm:(2,d*32+j)∈eK (mEl d j ((true,.sl sz rows)::ts) acc):=zj4 d ts (j+1) _ _ (by unfold eK;simp);refine⟨(hk _ hm).trans h1,zux d ts (j+1) ((d*32+j,⟨true,sz,rows,0,true⟩)::acc) _ _ (fun e he=>?_) h2⟩;by_cases hee:e=d*32+j
   ·subst hee;show upd _ _ _ _=upd _ _ _ _;rw[zag,zag]
   ·show upd _ _ _ _=upd _ _ _ _;rw[zal _ _ hee,zal _ _ hee];exact hk e he
  all_goals exact⟨h.1,zux d ts (j+1) acc _ _ hk h.2⟩
def boK:List (Nat×List C)->List Ky
 | []=>[]
 | (k,_)::l=>(1,k)::boK l
def wK1:List Nat->List Ky
 | []=>[]
 | k::l=>(1,k)::wK1 l
theorem zs8 {n e:Nat}:∀{l:List (Nat×List C)},(n,e)∈boK l->n=1
 | [],h=>by simp[boK]at h
 | (e',x)::l,h=>by
  simp only[boK,Qu,Qp]at h;rcases h with h|h
  ·exact h.1
  ·exact zs8 h
theorem qkh:∀l,okK (boK l)=true
 | []=>rfl
 | (e,x)::l=>by have:=qkh l;unfold okK at *;simpa[boK]using this
theorem qkv:∀l,okK (wK1 l)=true
 | []=>rfl
 | e::l=>by have:=qkv l;unfold okK at *;simpa[wK1]using this
theorem zzy:∀{l:List (Nat×List C)}(f f':Nat->Option (List C)){e:Nat},(1,e)∈boK l->zyq l f e=zyq l f' e
 | [],f,f',e,h=>by simp[boK]at h
 | (e',x)::l,f,f',e,h=>by
  unfold zyq;by_cases he:e=e'
  ·subst he;rw[zag,zag]
  ·rw[zal _ _ he,zal _ _ he];simp only[boK,Qu,Qp]at h;exact zzy f f' (h.resolve_left fun hh=>he hh.2)
theorem zng:∀{l:List (Nat×List C)}(f:Nat->Option (List C)){e:Nat},(1,e)∉boK l->zyq l f e=f e
 | [],f,e,h=>rfl
 | (e',x)::l,f,e,h=>by
  simp only[boK,Qu,Qp,true_and,not_or]at h;unfold zyq;rw[zal _ _ h.1,zng f h.2]
def St.upEB (σ:St)(l:List (Nat×Ev))(bl:List (Nat×List C)):St:=⟨σ.sl,zyq bl σ.bx,zmj l σ.ev⟩
theorem zgz.ofB {o:Oper}{σ:St}{R:List Ky}{l:List (Nat×Ev)}{bl:List (Nat×List C)}{v:V}{d:Nat}(hd:o.dst=some d)(hR:okK R=true)(h:∀σ1,(∀k∈R,zba σ σ1 k)->zai P o σ1 ((σ1.upEB l bl).put (some d) v)):zgz P o R (dK (some d)++(boK bl++eK l)) σ ((σ.upEB l bl).put (some d) v):=by
 have hW:okK (dK (some d)++(boK bl++eK l))=true:=zbp (zs7 _) (zbp (qkh _) (zyg _))
 refine⟨hW,hR,fun k hk3 hk=>?_,fun σ1 h1=>?_⟩
 ·simp only[Qv,not_or]at hk;refine zba.trans ?_ (zga hk.1);obtain⟨n,i⟩:=k
  match n,hk3 with
  | 0,_=>rfl
  | 1,_=>exact(zng σ.bx hk.2.1).symm
  | 2,_=>exact(zh9 σ.ev hk.2.2).symm
 ·have:zsw σ1 (dK (some d)++(boK bl++eK l)) ((σ.upEB l bl).put (some d) v)=(σ1.upEB l bl).put (some d) v:=by
   refine zba.all3 fun c i hc=>?_;by_cases hin:(c,i)∈dK (some d)++(boK bl++eK l)
   ·refine(zg4 hW hin).trans ?_;simp only[Qv]at hin
    match c,hc with
    | 0,_ =>
     rcases hin with h|h|h
     ·simp only[dK,Qu,Jg,or_false,Qp,true_and]at h;subst h;show upd _ _ _ _=upd _ _ _ _
      rw[zag,zag]
     ·have:=zs8 h;omega
     ·have:=zqq h;omega
    | 1,_ =>
     rcases hin with h|h|h
     ·simp[dK]at h
     ·exact zzy _ _ h
     ·have:=zqq h;omega
    | 2,_ =>
     rcases hin with h|h|h
     ·simp[dK]at h
     ·have:=zs8 h;omega
     ·exact zrh _ _ h
   ·refine(zdl hc hin).trans ?_;simp only[Qv,not_or]at hin;refine zba.trans ?_ (zga hin.1)
    match c,hc with
    | 0,_=>rfl
    | 1,_=>exact(zng σ1.bx hin.2.1).symm
    | 2,_=>exact(zh9 σ1.ev hin.2.2).symm
  rw[this];exact h σ1 h1
def St.callQ (σ:St)(d:Nat)(W:List Nat)(bx':Bxs)(res:List (Bool×D)):St:={ sl:=upd σ.sl d (zlk (mD d 0 res)),bx:=zyq (boL d (zbl res).length W bx') σ.bx,ev:=zmj (mEl d 0 (zbl res++bx'.flatten) []) σ.ev }
theorem zvf (σ:St)(d:Nat)(W:List Nat)(bx':Bxs)(res:List (Bool×D)):σ.callQ d W bx' res=((σ.upEB (mEl d 0 (zbl res++bx'.flatten) []) (boL d (zbl res).length W bx')).put (some d) (zlk (mD d 0 res))):=rfl
theorem zpz {W:List Nat}{o:Oper}{σ:St}{x:Operand}{asx:Array Operand}{ts:Array TypeId}{f:FuncId}{cvs:List V}{d:Nat}{bx bx':Bxs}{l:List AF}{res:List (Bool×D)}(ho:o.op=.call ⟨.value x,asx,ts⟩)(hd:o.dst=some d)
  (h:PC P f bx l bx' res) (hc:za1 (σ.get P 0 x)=some (f,cvs)) (hWn:W.Nodup)
  (hv:mtK W l (σ.gets P asx ts++cvs) fun us=>zyp σ W bx fun cs=>gvQ (us++cs) (AF.ds l++bxA bx.flatten)) (hf:mF d 0 (zbl res++bx'.flatten) σ.ev):zai P o σ (σ.callQ d W bx' res):=by
 intro n0 N g a w hR hn hdN
 obtain⟨vs,h1,h2⟩:=zdc hR ho hc h.1
 unfold Oper.wp
 rw[h1]
 let bs:Nat->Nat:=fun j=>g.β (W.getD j 0)
 have hbs:∀j b,W[j]?=some b->bs j=g.β b:=fun j b hj=>by show g.β (W.getD j 0)=_;rw[List.getD_eq_getElem?_getD,hj];rfl
 obtain⟨us,dvs,a1,a2,a3,rfl⟩:=zeq hbs hv h2
 obtain⟨cs,bvs,b1,b2,b3,b4,b5⟩:=zit hR (bs:=bs) (j:=0) (fun i b hi=>by rw[Q2];exact hbs i b hi) a1
 have k2:=zhj b1 (VRl.append a2 b2)
 have hWj:∀j,j<bx.length->∃b,W[j]?=some b/\b∈W/\bs j=g.β b:=fun j hj=>by
  have hlt:j<W.length:=by omega
  exact⟨W[j],List.getElem?_eq_getElem hlt,Qd hlt,hbs j _ (List.getElem?_eq_getElem hlt)⟩
 have hinj:∀i j,i<bx.length->j<bx.length->bs i=bs j->i=j:=fun i j hi hj he=>by
  obtain⟨b,e1,e2,e3⟩:=hWj i hi;obtain⟨c,f1,f2,f3⟩:=hWj j hj;have:b=c:=hR.inj b c (b5 b e2) (b5 c f2) (by rw[<-e3,<-f3];exact he);subst this;have hi':i<W.length:=by omega
  have hj':j<W.length:=by omega
  rw[List.getElem?_eq_getElem hi']at e1;rw[List.getElem?_eq_getElem hj']at f1;exact(List.getElem_inj hWn).1 ((Option.some.inj e1).trans (Option.some.inj f1).symm)
 have hfb:∀b,zb6 σ g w b->∀j,j<bx.length->b≠bs j:=fun b hb j hj e=>by
  obtain⟨c,_,e2,e3⟩:=hWj j hj;exact hb.1.1 c (b5 c e2) (by rw[<-e3,e])
 refine(h.2.2 w bs bvs dvs [] [] (zb6 σ g w) hinj (fun j _=>by simp) b3 (za0.keepA (fun b hb=>⟨⟨hb.1.2.2.1,by simp,hfb b hb⟩,hb⟩) k2) Kf a3).mono ?_
 rintro e w' ⟨us',bvs',fp',tp',rfl,hbx',hlu,o1,o2,o3,hbk⟩
 obtain⟨v1,v2,f1,f2,t1,t2,ev,ef,et,p1,p2⟩:=za0.split o1
 obtain⟨rfl,rfl⟩:=J8 ev (by rw[hlu,za0.len p1])
 subst ef
 obtain⟨t1',p1'⟩:=p1.flat
 have pp:=za0.append p1' p2
 rw[<-zgf]at pp
 have e0:mE d 0 (zbl res++bx'.flatten) σ.ev=zmj (mEl d 0 (zbl res++bx'.flatten) []) σ.ev:=zt8 d _ 0 [] σ.ev
 have e1:zgu d (zbl res).length W bx' σ.bx=zyq (boL d (zbl res).length W bx') σ.bx:=zt2 d W bx' _ _
 obtain⟨g',q1,q2,q3⟩:=New.mix (τ:=σ) (g:=g) (NB:=fun b=>w.heap.size<=b) (w':=w') d (zbl res++bx'.flatten) _ (f1++f2) _ 0 σ.ev g [] (New.refl _ _ _ _ hR.slc) hf pp o2 (fun b hb'=>⟨by simpa using o3 b hb',by simp⟩)
 have hbk':Bk (fun k=>k<w.heap.size/\∀b∈W,k≠g.β b) w w':=⟨hbk.os,hbk.tape,hbk.output,hbk.size,fun k hk=>hbk.block k ⟨hk.1,by simp,fun j hj e=>by
  obtain⟨c,_,e2,e3⟩:=hWj j hj
  exact hk.2 c e2 (by rw[<-e3,e])⟩⟩
 have hWl:W.length=bx'.length:=by rw[h.2.1];omega
 have hdom:∀b,zgu d (zbl res).length W bx' σ.bx b≠none↔σ.bx b≠none:=fun b=>by
  by_cases hbW:b∈W
  ·exact⟨fun _=>b5 b hbW,fun _=>zsm d W bx' _ _ b hWl hbW⟩
  ·rw[zjs d W bx' _ _ b hbW]
 have hfree:∀k,((k<w'.heap.size/\k∉f1++f2/\∀j,j<bx.length->k≠bs j)/\(zb6 σ g w k\/w.heap.size<=k\/k∈([]:List Nat)))->zb6 ⟨σ.sl,zgu d (zbl res).length W bx' σ.bx,mE d 0 (zbl res++bx'.flatten) σ.ev⟩ g' w' k:=fun k hk=>by
  have hno:∀e,St.On ⟨σ.sl,zgu d (zbl res).length W bx' σ.bx,mE d 0 (zbl res++bx'.flatten) σ.ev⟩ e->k∉g'.φ e:=fun e ho' hm=>by
   by_cases hee:σ.ev e=none
   ·obtain⟨x,hx,_⟩:=ho';have:=((q1.new e x hee hx).2.2.1 k hm).2;rw[Ki]at this;exact hk.1.2.1 this
   ·rw[(q1.old e hee).2.2]at hm;obtain⟨x,hx,hon⟩:=ho';have ho2:σ.On e:=⟨x,(q1.old e hee).1.symm.trans hx,hon⟩;rcases hk.2 with h|h|h
    ·exact h.2 e ho2 hm
    ·obtain⟨y,hy,hyo⟩:=ho2;have:=(hR.evs e y hy hyo).lt k hm;omega
    ·simp at h
  refine⟨⟨fun j hj e=>?_,fun e x hx hon hh=>hno e ⟨x,hx,hon⟩ (List.mem_of_mem_head? hh),hk.1.1,?_⟩,hno⟩
  ·have hj':=(hdom j).1 hj;rw[q1.β]at e;rcases hk.2 with h|h|h
   ·exact h.1.1 j hj' e
   ·have:=hR.lt hj';omega
   ·simp at h
  ·rw[q1.A0];rcases hk.2 with h|h|h
   ·exact h.1.2.2.2
   ·exact(hR.anew k (hn.new h)).1
   ·simp at h
 have hcr:=q3 ⟨σ.sl,zgu d (zbl res).length W bx' σ.bx,mE d 0 (zbl res++bx'.flatten) σ.ev⟩ w' rfl fun t v h=>zas.keep (fun _ _=>rfl) hfree t v h
 obtain⟨hc1,hc2⟩:=hcr.split_flat (A:=fun _=>True) (w':=w') (m:=0) (za0.one_vals p1)
 have hR':=hR.afterB hn hbk' hdom (fun b hb=>zjs d W bx' _ _ b hb) b5 q1 (zix d W bx' bvs' 0 (zbl res).length σ.bx (fun i b hi=>by rw[Q2];exact hbs i b hi) hbx' hc2 hWl)
 have hBk:Bk n0 w w':=⟨hbk.os,hbk.tape,hbk.output,hbk.size,fun k hk=>hbk.block k ⟨hn k hk,by simp,fun j hj e=>by
  obtain⟨c,_,e2,e3⟩:=hWj j hj
  exact hR.base c (b5 c e2) (by rw[<-e3,<-e];exact hk)⟩⟩
 refine⟨g',?_,hBk,q1.A0,q1.R0⟩
 have hp:=hR'.put (some d) (x:=zlk (mD d 0 res)) (v:=zck us') (zd7 (zr7 d 0 p1 hc1) (zp3 d res 0)) (fun i hi=>by cases hi;exact hdN d hd)
 rw[e0,e1]at hp
 rw[hd]
 exact hp
section
variable {ks:List Fr}{Q:Exit->St->Prop}{σ:St}{ops:Array Oper}{os:List Oper}{L:List (List Ky×List Ky)}{ty:TypeId}{ps:String}{af:Array Edge}{d:Nat}{x:Operand}{asx:Array Operand}{ts:Array TypeId}{f:FuncId}{bx bx':Bxs}{l:List AF}{res:List (Bool×D)}
theorem callQ (W:List Nat)(h:PC P f bx l bx' res)(hWn:W.Nodup)
  (hp:zav (za1 (σ.get P 0 x)) fun p=>p.1=f/\mtK W l (σ.gets P asx ts++p.2) fun us=>zyp σ W bx fun cs=>gvQ (us++cs) (AF.ds l++bxA bx.flatten)) (hf:mF d 0 (zbl res++bx'.flatten) σ.ev)
  (k:exo P ops os ks Q (σ.callQ d W bx' res)):exo P ops (⟨some d,.call ⟨.value x,asx,ts⟩,ty,ps,af,none⟩::os) ks Q σ:=by
 obtain⟨⟨f',cvs⟩,h1,rfl,h2⟩:=zar hp
 exact zda rfl rfl (zpz rfl rfl h h1 hWn h2 hf) k
theorem zum {σ1:St}:∀{W:List Nat}{bx:Bxs}{K:List V->Prop},(∀k∈wK1 W,zba σ σ1 k)->zyp σ W bx K->zyp σ1 W bx K
 | [],[],_,_,h=>h
 | [],_::_,_,_,h=>h.elim
 | _::_,[],_,_,h=>h.elim
 | k::W,b::bx,K,hs,h=>by
  obtain⟨cs,h1,h2,h3⟩:=zar h;have:σ1.bx k=some cs:=(Eq.symm (hs (1,k) (by simp[wK1]))).trans h1;show zav (σ1.bx k) _
  rw[this];exact⟨h2,zum (W:=W) (fun k hk=>hs k (by simp[wK1,hk])) h3⟩
theorem zp0 {σ1:St}{asx:Array Operand}{ts:Array TypeId}(h:∀k∈zaw asx.toList,zba σ σ1 k):σ1.gets P asx ts=σ.gets P asx ts:=by
 unfold St.gets
 refine Kk fun p hp=>?_
 exact zcg h (List.of_mem_zip hp).1 _
theorem zf9 {x:Operand}{l:List Operand}{k:Ky}(h:k∈zaw l):k∈zaw (x::l):=by
 cases x<;>first|exact Jo _ h|exact h
theorem zfk (W:List Nat)(h:PC P f bx l bx' res)(hWn:W.Nodup)
  (hp:zav (za1 (σ.get P 0 x)) fun p=>p.1=f/\mtK W l (σ.gets P asx ts++p.2) fun us=>zyp σ W bx fun cs=>gvQ (us++cs) (AF.ds l++bxA bx.flatten)) (hf:mF d 0 (zbl res++bx'.flatten) σ.ev)
  (k:exd P ops os (L++[(zaw (x::asx.toList)++(wK1 W++eK (mEl d 0 (zbl res++bx'.flatten) [])),dK (some d)++(boK (boL d (zbl res).length W bx')++eK (mEl d 0 (zbl res++bx'.flatten) [])))]) ks Q (σ.callQ d W bx' res)) :
  exd P ops (⟨some d,.call ⟨.value x,asx,ts⟩,ty,ps,af,none⟩::os) L ks Q σ:=by
 obtain⟨⟨f',cvs⟩,h1,rfl,h2⟩:=zar hp
 refine zgy rfl rfl ?_ k
 rw[zvf]
 refine zgz.ofB rfl (zbp (zbz _) (zbp (qkv _) (zyg _))) fun σ1 hs=>?_
 rw[<-zvf]
 have e1:σ1.get P 0 x=σ.get P 0 x:=zcg (l:=x::asx.toList) (fun k hk=>hs k (by simp only[Qv];exact Or.inl hk)) (by simp) 0
 have e2:σ1.gets P asx ts=σ.gets P asx ts:=zp0 fun k hk=>hs k (by simp only[Qv];exact Or.inl (zf9 hk))
 refine zpz rfl rfl h (by rw[e1];exact h1) hWn (by rw[e2];exact zv8 (fun us hu=>zum (fun k hk=>hs k (by simp only[Qv];exact Or.inr (Or.inl hk))) hu) h2) ?_
 exact zux d _ 0 [] _ _ (fun e he=>Eq.symm (hs (2,e) (by simp only[Qv];exact Or.inr (Or.inr he)))) hf
theorem zbk {ds0 res0:List D}{gR:List Ky}(h:FC P f ds0 res0)(hp:zav (za1 (σ.get P 0 x)) fun p=>p.1=f/\VDs σ (σ.gets P asx ts++p.2) ds0/\zg7 d 0 (zbd res0) σ.ev)
  (k:exd P ops os (L++[(gR++(zaw (x::asx.toList)++(vsK σ (σ.gets P asx ts++ql1 (za1 (σ.get P 0 x)))++eK (owL d 0 (zbd res0)))),dK (some d)++eK (owL d 0 (zbd res0)))]) ks Q (σ.callF d res0)) :
  zlz P ops ⟨some d,.call ⟨.value x,asx,ts⟩,ty,ps,af,none⟩ os L gR ks Q σ:=by
 obtain⟨⟨f',cvs⟩,h1,rfl,h2,h3⟩:=zar hp
 rw[h1]at k
 exact qe6 _ _ _ _ _ _ rfl (zo5 rfl rfl h h1 h2 h3) k
end
attribute [go_sem] gvQ zyq boL mEl boK wK1 St.callQ
end
section
open Go.RowKit
theorem qdu (s:Str):FC Tryz.prog 278 [sD s] [bD false]:=by
 refine zak Tryz.call278 Tryz.func278 rfl Ys (zaz Ys) ?_
 simp -implicitDefEqProofs only[go_sem,Tryz.results278]
 simp
def cmpI (s t:Str):Int:=if Op.bytesLess s t=true then -1 else if(s==t)=true then 0 else 1
theorem qjo (s t:Str):FC Tryz.prog 282 [sD s,sD t] [iD (cmpI s t)]:=by
 have hc:cmpI s t=if Op.bytesLess s t=true then -1 else if(s==t)=true then 0 else 1:=rfl
 refine zak Tryz.call282 Tryz.func282 rfl Ys (zaz Ys) ?_
 simp -implicitDefEqProofs only[go_sem,Tryz.results282]
 refine callF (qdu s) Yr ?_
 simp -implicitDefEqProofs only[go_sem]
 refine callF (qdu t) Yr ?_
 simp -implicitDefEqProofs only[go_sem]
 refine⟨fun h=>by rw[hc,if_pos h],fun h=>⟨fun h2=>?_,fun h2=>?_⟩⟩
 ·rw[h,Jf,Jk]at h2;rw[hc,h,h2];rfl
 ·rw[h,Jf,Bool.not_eq_false']at h2;rw[hc,h,h2];rfl
def bnC (p:Str×Tm):List T:=.str p.1::tmC p.2
def sbS (l:List (Str×Tm)):T:=.sl 3 (l.map bnC)
theorem zhq (n:Str)(t:Tm):bnC (n,t)=[.str n,.str t.name,.sl 2 (t.args.map tmC)]:=by unfold bnC;rw[zaa]
theorem qbu (n:Str)(t:Tm)(x:Str):FC Tryz.prog 281 [.agg (bnC (n,t)),sD x] [iD (cmpI n x)]:=by
 rw[zhq]
 refine zak Tryz.call281 Tryz.func281 rfl Ys (zaz Ys) ?_
 simp -implicitDefEqProofs only[go_sem,Tryz.results281]
 refine callF (qjo n x) Yr ?_
 simp -implicitDefEqProofs only[go_sem]
theorem zu6 (n:Str)(t:Tm)(x:Str):FC Tryz.prog 280 [.one (sbS [(n,t)]),sD x,.one (.fn 281 [])] [iD (if Op.bytesLess n x=true then 1 else 0),bD (n==x)]:=by
 have H:=qbu n t x
 have hS:sbS [(n,t)]=.sl 3 [bnC (n,t)]:=rfl
 rw[hS]
 rw[zhq]at H⊢
 have hc:cmpI n x=if Op.bytesLess n x=true then -1 else if(n==x)=true then 0 else 1:=rfl
 refine zak Tryz.call280 Tryz.func280 rfl Ys (zaz Ys) ?_
 simp -implicitDefEqProofs only[go_sem,Tryz.results280]
 refine zaf (fun p:Nat×Nat=>hd [(0,vT (.sl 3 [[.str n,.str t.name,.sl 2 (t.args.map tmC)]])),(1,vT (.str x)),(2,vT (.fn 281 [])),(8,vI (1:Nat)),(9,vI p.1),(10,vI p.2)] [] []) (fun p=>p=(0,1)\/(p=(1,1)/\Op.bytesLess n x=true)\/(p=(0,0)/\Op.bytesLess n x=false)) (fun p=>p.2-p.1) (0,1) (zad ?_) (Or.inl rfl) ?_
 ·simp -implicitDefEqProofs only[go_sem]
 ·rintro p (rfl|⟨rfl,hl⟩|⟨rfl,hl⟩)
  ·have hz:(IntKind.u64.wrap (IntKind.i64.wrap 1)).fdiv (2^min 1 64)=0:=by decide
   have hz2:IntKind.i64.wrap 0=0:=by decide
   simp -implicitDefEqProofs only[go_sem,hz,hz2];refine callF (H) Yr ?_;simp -implicitDefEqProofs only[go_sem];cases hl:Op.bytesLess n x
   ·have hi:decide (cmpI n x<0)=false:=by rw[hc,hl];cases n==x<;>rfl
    simp -implicitDefEqProofs only[go_sem,hi];refine⟨(0,0),Or.inr (Or.inr rfl),by decide,zad ?_⟩;simp -implicitDefEqProofs only[go_sem]
   ·have hi:decide (cmpI n x<0)=true:=by rw[hc,hl];rfl
    have hz3:IntKind.i64.wrap 1=1:=by decide
    simp -implicitDefEqProofs only[go_sem,hi];refine⟨(1,1),Or.inr (Or.inl rfl),by decide,zad ?_⟩;simp -implicitDefEqProofs only[go_sem,hz3]
  ·rw[if_pos hl];simp -implicitDefEqProofs only[go_sem];have:(n==x)=false:=by
    rw[Qy];rintro rfl;rw[znk,Qr]at hl;exact zn2 n hl
   rw[this]
  ·rw[hl,if_neg (by simp)];simp -implicitDefEqProofs only[go_sem];refine callF (H) Yr ?_;simp -implicitDefEqProofs only[go_sem];rw[hc,hl];cases n==x<;>rfl
theorem zyf (n:Str)(t:Tm):XC Tryz.prog 269 [(false,.agg [sbS [(n,t)]]),(false,sD n)] [(false,tmD t),(true,bD true)]:=by
 have H:=zu6 n t n
 rw[show Op.bytesLess n n=false by rw[znk,Kz];exact zn2 n,beq_self_eq_true]at H
 have hS:sbS [(n,t)]=.sl 3 [bnC (n,t)]:=rfl
 rw[hS,zhq]at H⊢
 simp only[tmD,zaa]
 refine XC_of Tryz.call269 Tryz.func269 rfl Ys (by simp only[Qb,Qe,Tryz.ntmps269];omega) (by simp[zau,T.isPin]) ?_
 simp -implicitDefEqProofs only[go_sem,Tryz.results269]
 refine callF (H) Yr ?_
 simp -implicitDefEqProofs only[go_sem]
theorem qav (n:Str)(t:Tm)(x:Str)(h:(n==x)=false):XC Tryz.prog 269 [(false,.agg [sbS [(n,t)]]),(false,sD x)] [(false,tmD (.mk [] [])),(true,bD false)]:=by
 have H:=zu6 n t x
 rw[h]at H
 have hS:sbS [(n,t)]=.sl 3 [bnC (n,t)]:=rfl
 rw[hS,zhq]at H⊢
 simp only[tmD,zaa]
 refine XC_of Tryz.call269 Tryz.func269 rfl Ys (by simp only[Qb,Qe,Tryz.ntmps269];omega) (by simp[zau,T.isPin]) ?_
 simp -implicitDefEqProofs only[go_sem,Tryz.results269]
 refine callF (H) Yr ?_
 simp -implicitDefEqProofs only[go_sem]
 exact Or.inl ⟨rfl,rfl⟩
def zfi (n:Str)(t:Tm):Tm->Tm:=Tm.fold fun m _ rs=>if rs.length=0 then (if(n==m)=true then t else .mk m [])else .mk m rs
theorem znl (n:Str)(t a:Tm):zfi n t a=if a.args.length=0 then (if(n==a.name)=true then t else .mk a.name [])else .mk a.name (a.args.map (zfi n t)):=by
 unfold zfi
 rw[Tm.fold_eq]
 simp only[Qa]
theorem qiy (n:Str)(t:Tm)(ht:t.wt<=1048576)(a:Tm)(ha:a.args.length<=1048576)(H:∀x∈a.args,FC Tryz.prog 234 [.agg [sbS [(n,t)]],tmD x] [tmD (zfi n t x)]):FC Tryz.prog 234 [.agg [sbS [(n,t)]],tmD a] [tmD (zfi n t a)]:=by
 have hv:=znl n t a
 have HY:=zyf n t
 have HN:=qav n t
 have HK:=zet t ht
 have hS:sbS [(n,t)]=.sl 3 [bnC (n,t)]:=rfl
 rw[hS,zhq]at HY HN H⊢
 by_cases h0:a.args.length=0
 ·rw[if_pos h0]at hv;cases hn:n==a.name
  ·have HN:=HN a.name hn;rw[hn,if_neg (by simp)]at hv;rw[hv];have HN:XC Tryz.prog 269 [(false,.agg [.sl 3 [[.str n,.str t.name,.sl 2 (t.args.map tmC)]]]),(false,sD a.name)] [(false,.agg [.str [],.sl 2 []]),(true,bD false)]:=HN;have e1:tmD (.mk a.name [])=.agg [.str a.name,.sl 2 []]:=rfl;rw[e1];simp only[tmD,zaa a];refine zdw Tryz.call234 Tryz.func234 rfl Ys (zaz Ys) ?_;simp -implicitDefEqProofs only[go_sem,Tryz.results234,h0];refine qkn [3,4] [15,17] [] (HN) Yr Yr Yr Yr ?_;simp -implicitDefEqProofs only[go_sem]
  ·have hn':n=a.name:=by simpa using hn
   rw[hn,if_pos rfl]at hv;rw[hv];rw[hn']at HY⊢;simp only[tmD,zaa]at HY HK⊢;refine zdw Tryz.call234 Tryz.func234 rfl Ys (zaz Ys) ?_;simp -implicitDefEqProofs only[go_sem,Tryz.results234,h0];refine qkn [3,4] [15,17] [] (HY) Yr Yr Yr Yr ?_;simp -implicitDefEqProofs only[go_sem];refine callF (HK) Yr ?_;simp -implicitDefEqProofs only[go_sem]
 ·have hb:((a.args.length:Int)==0)=false:=by
   rw[Qy];omega
  rw[if_neg h0]at hv;rw[hv];have e1:tmD (.mk a.name (a.args.map (zfi n t)))=.agg [.str a.name,.sl 2 (a.args.map fun x=>tmC (zfi n t x))]:=by unfold tmD;rw[zaa];simp only[Tm.name,Tm.args,Kh,K8]
  rw[e1];simp only[tmD,zaa a]at H⊢;refine zak Tryz.call234 Tryz.func234 rfl Ys (zaz Ys) ?_;simp -implicitDefEqProofs only[go_sem,Tryz.results234,hb];refine drawn Ys ?_;simp -implicitDefEqProofs only[go_sem];refine dMakeD (by simp -implicitDefEqProofs only[go_sem];omega) ?_;simp -implicitDefEqProofs only[go_sem];refine⟨Ys,?_⟩;refine zaf (fun k:Nat=>hd [(2,.one (.bx 2 0)),(4,.one (.bx 4 0)),(7,.one (.bx 7 0)),(35,vT (tmS a.args)),(36,vI a.args.length),(37,vI k)] [(2,[.t (.sl 3 [[.str n,.str t.name,.sl 2 (t.args.map tmC)]])]),(4,[.t (.str []),.nl 2]),(7,[.t (.str a.name),.ow 1024 0])] [(1024,⟨true,2,((a.args.take k).map fun x=>tmC (zfi n t x))++List.replicate (a.args.length-k) [.str [],.sl 2 []],0,true⟩)]) (fun k=>k<=a.args.length) (fun k=>a.args.length-k) 0 (zad ?_) (Q1 _) ?_
  ·simp -implicitDefEqProofs only[go_sem];simp
  ·intro k hk;by_cases hlt:k<a.args.length
   ·have hlen:((a.args.take k).map (fun x=>tmC (zfi n t x))++List.replicate (a.args.length-k) [T.str [],T.sl 2 []]).length=a.args.length:=by simp;omega
    have HC:=H a.args[k] (Qd hlt);have hlt2:k<k+(a.args.length-k):=by omega
    simp only[zaa a.args[k],zaa (zfi n t a.args[k])]at HC;simp -implicitDefEqProofs only[go_sem,Qa,zac,hlt,zaa a.args[k]];refine drawn Ys ?_;simp -implicitDefEqProofs only[go_sem];refine zaj (HC) (by simp -implicitDefEqProofs only[go_sem,hlen,hlt,Qh,Qa,Qo,K9,Jz hk,hlt2]) ?_;simp -implicitDefEqProofs only[go_sem,hlen,hlt,Qh,Qa,Qo,K9,Jz hk,hlt2];refine znt (by simp -implicitDefEqProofs only[go_sem];simp) ?_;simp -implicitDefEqProofs only[go_sem];refine⟨Ys,k+1,hlt,Yt,zad ?_⟩;simp -implicitDefEqProofs only[go_sem];have hf:=zo6 ((a.args.take k).map fun x=>tmC (zfi n t x)) a.args.length k [T.str [],T.sl 2 []] (tmC (zfi n t a.args[k])) (by simp;omega) hlt (by simp[zaa]);rw[zam Yt,<-zaa (zfi n t a.args[k]),hf,Qj hlt,Qt,Q7];exact⟨rfl,rfl⟩
   ·have ht:a.args.take k=a.args:=Qm Yt;simp -implicitDefEqProofs only[go_sem,hlt,ht];simp[show a.args.length-k=0 by omega]
theorem ql9 (n:Str)(t:Tm)(ht:t.wt<=1048576):∀a:Tm,a.wt<=1048576->FC Tryz.prog 234 [.agg [sbS [(n,t)]],tmD a] [tmD (zfi n t a)] :=
 zb0 fun m xs ih hs=>by
  obtain⟨h1,h2⟩:=Tm.wt_args hs;exact qiy n t ht (.mk m xs) h1 fun x hx=>ih x hx (h2 x hx)
def zid (n:Str):Tm->Nat:=Tm.fold fun m _ rs=>(if(m==n)=true then 1 else 0)+rs.sum
theorem zs3 (n:Str)(a:Tm):zid n a=(if(a.name==n)=true then 1 else 0)+(a.args.map (zid n)).sum:=by unfold zid;rw[Tm.fold_eq]
theorem zwx (n:Str):∀a:Tm,zid n a<=a.nodes:=zb0 fun m xs ih=>by
 rw[zs3,Tm.nodes_eq]
 have:(xs.map (zid n)).sum<=(xs.map Tm.nodes).sum:=by
  revert ih;induction xs with
  | nil=>simp
  | cons x xs ih2 =>
   intro ih;have h1:=ih x (by simp);have h2:=ih2 fun y hy=>ih y (by simp[hy]);simp only[Qi,Qz];omega
 show(if(m==n)=true then 1 else 0)+(xs.map (zid n)).sum<=1+(xs.map Tm.nodes).sum
 split<;>omega
theorem zq5 (n:Str)(a:Tm)(ha:a.wt<=1099511627776)(H:∀x∈a.args,FC Tryz.prog 268 [tmD x,sD n] [iD (zid n x)]):FC Tryz.prog 268 [tmD a,sD n] [iD (zid n a)]:=by
 have hv:=zs3 n a
 have hN:=ze3 a
 have hNe:=a.nodes_eq
 have hle:=zwx n a
 simp only[tmD,zaa a]
 refine zak Tryz.call268 Tryz.func268 rfl Ys (zaz Ys) ?_
 simp -implicitDefEqProofs only[go_sem,Tryz.results268]
 obtain⟨z,hz⟩:∃z:Nat,(if(a.name==n)=true then 1 else 0)=z:=⟨_,rfl⟩
 rw[hz]at hv
 cases hn:a.name==n
 all_goals
  rw[hn]at hz;simp only[Qn,if_true,if_false]at hz;simp -implicitDefEqProofs only[go_sem,hn];refine zaf (fun k:Nat=>hd [(1,vT (.str n)),(5,vI (z+((a.args.take k).map (zid n)).sum:Nat)),(13,vT (tmS a.args)),(14,vI a.args.length),(15,vI k)] [] []) (fun k=>k<=a.args.length) (fun k=>a.args.length-k) 0 (zad ?_) (Q1 _) ?_
  ·simp -implicitDefEqProofs only[go_sem];subst hz;rfl
  ·intro k hk;by_cases hlt:k<a.args.length
   ·have HC:=H a.args[k] (Qd hlt);simp only[tmD,zaa a.args[k]]at HC;have hsm:((a.args.take (k+1)).map (zid n)).sum=((a.args.take k).map (zid n)).sum+zid n a.args[k]:=by rw[Qj hlt,Qt,Js,Q7,List.sum_singleton]
    have hle2:((a.args.take (k+1)).map (zid n)).sum<=(a.args.map (zid n)).sum:=by
     have:=congrArg (fun l=>(l.map (zid n)).sum) (K0 (k+1) a.args);simp only[Qt,Js]at this;omega
    have hlen:a.args.length<=a.wt:=by have:=a.wt_eq;omega
    simp -implicitDefEqProofs only[go_sem,zac,hlt,zaa a.args[k]];refine callF (HC) Yr ?_;simp -implicitDefEqProofs only[go_sem];refine⟨k+1,hlt,Yt,zad ?_⟩;simp -implicitDefEqProofs only[go_sem];rw[zam Yt,zbn Yt Yt,hsm];exact⟨by congr 1;omega,rfl⟩
   ·simp -implicitDefEqProofs only[go_sem,hlt];rw[hv,Qm Yt]
theorem zsd (n:Str):∀a:Tm,a.wt<=1099511627776->FC Tryz.prog 268 [tmD a,sD n] [iD (zid n a)] :=
 zb0 fun m xs ih hs=>zq5 n (.mk m xs) hs fun x hx=>ih x hx (Q9 (zkm (a:=.mk m xs) hx) hs)
theorem qhk (n:Str)(a:Tm)(hs:a.wt<=1099511627776):FC Tryz.prog 232 [sD n,tmD a] [bD (decide (0<zid n a))]:=by
 have H:=zsd n a hs
 simp only[tmD,zaa]at H⊢
 have e:decide ((0:Int)<(zid n a:Int))=decide (0<zid n a):=by rw[Kq,Qr,Qr];omega
 refine zak Tryz.call232 Tryz.func232 rfl Ys (zaz Ys) ?_
 simp -implicitDefEqProofs only[go_sem,Tryz.results232]
 refine callF (H) Yr ?_
 simp -implicitDefEqProofs only[go_sem]
 rw[e]
end
section
open Go.RowKit
def eqL {α:Type}(p:α->α->Bool):List α->List α->Bool
 | [],[]=>true
 | a::xs,b::ys=>p a b&&eqL p xs ys
 | _,_=>false
theorem zss {α:Type}{p:α->α->Bool}:∀{xs ys:List α},xs.length≠ys.length->eqL p xs ys=false
 | [],[],h=>absurd rfl h
 | [],_::_,_=>rfl
 | _::_,[],_=>rfl
 | a::xs,b::ys,h=>by simp only[eqL];rw[zss (by simpa using h),Q6]
theorem zj1 {α:Type}{p:α->α->Bool}:∀{xs ys:List α},(∀x∈xs,∀y,p x y=same x y)->eqL p xs ys=same xs ys
 | [],[],_=>zj7.symm
 | [],_::_,_=>(ziv.2 (by simp)).symm
 | _::_,[],_=>(ziv.2 (by simp)).symm
 | a::xs,b::ys,h=>by simp only[eqL];rw[zh5,h a (by simp) b,zj1 fun x hx y=>h x (by simp[hx]) y]
set_option maxRecDepth 10000 in
theorem zgc (xs ys:List Tm)(p:Tm->Tm->Bool)(g:FuncId)(caps:List T)(H:∀x∈xs,∀y∈ys,FC Tryz.prog g (tmD x::tmD y::caps.map .one) [bD (p x y)]):FC Tryz.prog 144 [.one (tmS xs),.one (tmS ys),.one (.fn g caps)] [bD (eqL p xs ys)]:=by
 refine zfp (fun hw=>?_) Tryz.call144
 have hl:xs.length<=9223372036854775807:=by simpa[zlj,wfT]using hw.1.1
 have hl2:ys.length<=9223372036854775807:=by simpa[zlj,wfT]using hw.2.1.1
 refine zak Tryz.call144 Tryz.func144 rfl Ys (zaz Ys) ?_
 simp -implicitDefEqProofs only[go_sem,Tryz.results144]
 refine⟨fun h=>?_,fun h=>?_⟩
 ·rw[zss (by rintro e;simp[e]at h)]
 ·have hlen:xs.length=ys.length:=by simp at h;omega
  refine zaf (fun k:Nat=>hd [(1,vT (tmS ys)),(2,.one (.t (.fn g caps))),(15,vT (tmS xs)),(16,vI xs.length),(17,vI k)] [] []) (fun k=>k<=xs.length/\eqL p xs ys=eqL p (xs.drop k) (ys.drop k)) (fun k=>xs.length-k) 0 (zad ?_) ?_ ?_
  ·simp -implicitDefEqProofs only[go_sem]
  ·simp
  ·intro k ⟨hk,hr⟩;by_cases hlt:k<xs.length
   ·have hk2:k<ys.length:=by omega
    simp -implicitDefEqProofs only[go_sem,Qa,zac,hlt,hk2,zaa];refine callF (H xs[k] (Qd hlt) ys[k] (Qd hk2)) (by simp -implicitDefEqProofs only[go_sem,zaa]) ?_;simp -implicitDefEqProofs only[go_sem,zaa];rw[Qx hlt,Qx hk2,eqL]at hr;refine⟨fun h=>?_,fun h=>?_⟩
    ·rw[hr,show p xs[k] ys[k]=false by simpa using h];rfl
    ·rw[show p xs[k] ys[k]=true by simpa using h,Qq]at hr;rw[zam Yt];exact⟨k+1,⟨Yt,hr⟩,Yt,zad Yr⟩
   ·simp -implicitDefEqProofs only[go_sem,Qa,hlt];rw[hr,Q0 Yt,Q0 Yt];rfl
set_option maxRecDepth 10000 in
theorem zh2 (xs ys:List Fm)(p:Fm->Fm->Bool)(g:FuncId)(caps:List T)(H:∀x∈xs,∀y∈ys,FC Tryz.prog g (fmD x::fmD y::caps.map .one) [bD (p x y)]):FC Tryz.prog 143 [.one (fmS xs),.one (fmS ys),.one (.fn g caps)] [bD (eqL p xs ys)]:=by
 refine zfp (fun hw=>?_) Tryz.call143
 have hl:xs.length<=9223372036854775807:=by simpa[zlj,wfT]using hw.1.1
 have hl2:ys.length<=9223372036854775807:=by simpa[zlj,wfT]using hw.2.1.1
 refine zak Tryz.call143 Tryz.func143 rfl Ys (zaz Ys) ?_
 simp -implicitDefEqProofs only[go_sem,Tryz.results143]
 refine⟨fun h=>?_,fun h=>?_⟩
 ·rw[zss (by rintro e;simp[e]at h)]
 ·have hlen:xs.length=ys.length:=by simp at h;omega
  refine zaf (fun k:Nat=>hd [(1,vT (fmS ys)),(2,.one (.t (.fn g caps))),(15,vT (fmS xs)),(16,vI xs.length),(17,vI k)] [] []) (fun k=>k<=xs.length/\eqL p xs ys=eqL p (xs.drop k) (ys.drop k)) (fun k=>xs.length-k) 0 (zad ?_) ?_ ?_
  ·simp -implicitDefEqProofs only[go_sem]
  ·simp
  ·intro k ⟨hk,hr⟩;by_cases hlt:k<xs.length
   ·have hk2:k<ys.length:=by omega
    simp -implicitDefEqProofs only[go_sem,Qa,zac,hlt,hk2,zab,zaa];refine callF (H xs[k] (Qd hlt) ys[k] (Qd hk2)) (by simp -implicitDefEqProofs only[go_sem,zab,zaa]) ?_;simp -implicitDefEqProofs only[go_sem,zab,zaa];rw[Qx hlt,Qx hk2,eqL]at hr;refine⟨fun h=>?_,fun h=>?_⟩
    ·rw[hr,show p xs[k] ys[k]=false by simpa using h];rfl
    ·rw[show p xs[k] ys[k]=true by simpa using h,Qq]at hr;rw[zam Yt];exact⟨k+1,⟨Yt,hr⟩,Yt,zad Yr⟩
   ·simp -implicitDefEqProofs only[go_sem,Qa,hlt];rw[hr,Q0 Yt,Q0 Yt];rfl
end
section
open Go.RowKit
theorem zj9 (a b:Tm):same a b=(same a.name b.name&&same a.args b.args):=by
 cases a;cases b
 rw[Kq]
 simp only[Qc,zbg,Tm.name,Tm.args,Tm.mk.injEq]
theorem zfw (a b:Fm):same a b=(same a.op b.op&&same a.atom b.atom&&same a.var b.var&&same a.parts b.parts):=by
 cases a;cases b
 rw[Kq]
 simp only[Qc,zbg,Fm.op,Fm.atom,Fm.var,Fm.parts,Fm.mk.injEq,and_assoc]
theorem zcn {α:Type} [BEq α] [LawfulBEq α](a b:α):(a==b)=same a b:=by
 rw[Kq,Ko,zbg]
theorem zxg (a b:Tm)(H:FC Tryz.prog 144 [.one (tmS a.args),.one (tmS b.args),.one (.fn 116 [])] [bD (same a.args b.args)]) :
  FC Tryz.prog 116 [tmD a,tmD b] [bD (same a b)]:=by
 simp only[tmD,zaa]
 refine zak Tryz.call116 Tryz.func116 rfl Ys (zaz Ys) ?_
 simp -implicitDefEqProofs only[go_sem,Tryz.results116]
 refine⟨fun h=>?_,fun h=>?_⟩
 ·refine callF (H) Yr ?_;simp -implicitDefEqProofs only[go_sem];rw[zj9,<-zcn a.name,h,Qq]
 ·rw[zj9,<-zcn a.name,h];rfl
theorem zf3:∀a b:Tm,FC Tryz.prog 116 [tmD a,tmD b] [bD (same a b)] :=
 zb0 fun n xs ih b=>zxg (.mk n xs) b (by
  rw[show same (Tm.mk n xs).args b.args=eqL same (Tm.mk n xs).args b.args from(zj1 fun _ _ _=>rfl).symm]
  exact zgc xs b.args same _ [] fun x hx y _=>ih x hx y)
theorem zln (a b:Fm)(H:FC Tryz.prog 143 [.one (fmS a.parts),.one (fmS b.parts),.one (.fn 70 [])] [bD (same a.parts b.parts)]) :
  FC Tryz.prog 70 [fmD a,fmD b] [bD (same a b)]:=by
 simp only[fmD,zab]
 refine zak Tryz.call70 Tryz.func70 rfl Ys (zaz Ys) ?_
 simp -implicitDefEqProofs only[go_sem,Tryz.results70]
 refine⟨fun h1=>?_,fun h1=>by rw[zfw,<-zcn a.op,h1];rfl⟩
 refine callF (zf3 a.atom b.atom) (by simp -implicitDefEqProofs only[go_sem,zaa]) ?_
 simp -implicitDefEqProofs only[go_sem,zaa]
 refine⟨fun h2=>?_,fun h2=>by rw[zfw,<-zcn a.op,h1,h2];rfl⟩
 refine⟨fun h3=>?_,fun h3=>by rw[zfw,<-zcn a.op,h1,h2,<-zcn a.var,h3];rfl⟩
 refine callF (H) Yr ?_
 simp -implicitDefEqProofs only[go_sem]
 rw[zfw,<-zcn a.op,h1,h2,<-zcn a.var,h3];rfl
theorem zfb:∀a b:Fm,FC Tryz.prog 70 [fmD a,fmD b] [bD (same a b)] :=
 zb7 fun o t v ps ih b=>zln (.mk o t v ps) b (by
  rw[show same (Fm.mk o t v ps).parts b.parts=eqL same (Fm.mk o t v ps).parts b.parts from(zj1 fun _ _ _=>rfl).symm]
  exact zh2 ps b.parts same _ [] fun x hx y _=>ih x hx y)
theorem qct (a b:Tm)(H:∀x∈a.args,∀y,FC Tryz.prog 101 [tmD x,tmD y] [bD (same x y)]):FC Tryz.prog 101 [tmD a,tmD b] [bD (same a b)]:=by
 refine zfp (fun hw=>?_) Tryz.call101
 simp only[tmD,zaa]at hw⊢
 have hl:a.args.length<=9223372036854775807:=by simp[zlj,wfT,zue]at hw;exact hw.1.2.1
 refine zak Tryz.call101 Tryz.func101 rfl Ys (zaz Ys) ?_
 simp -implicitDefEqProofs only[go_sem,Tryz.results101]
 refine⟨fun h1=>?_,fun h1=>by rw[zj9,<-zcn a.name,show(a.name==b.name)=false by simpa using h1];rfl⟩
 have h1':same a.name b.name=true:=by rw[<-zcn];simpa using h1
 refine⟨fun h2=>?_,fun h2=>?_⟩
 ·rw[zj9,h1',Qq,ziv.2 (by rintro e;simp[e]at h2)]
 have hlen:a.args.length=b.args.length:=by simp at h2;omega
 have hs:same a b=same a.args b.args:=by rw[zj9,h1',Qq]
 refine zaf (fun k:Nat=>hd [(2,.one (.bx 2 0)),(3,.one (.bx 3 0)),(4,vB false),(5,vI k)] [(2,[.t (.str a.name),.t (tmS a.args)]),(3,[.t (.str b.name),.t (tmS b.args)])] []) (fun k=>k<=a.args.length/\same a.args b.args=same (a.args.drop k) (b.args.drop k)) (fun k=>a.args.length-k) 0 (zad ?_) ?_ ?_
 ·simp -implicitDefEqProofs only[go_sem]
 ·simp
 ·intro k ⟨hk,hr⟩;by_cases hlt:k<a.args.length
  ·have hk2:k<b.args.length:=by omega
   simp -implicitDefEqProofs only[go_sem,hlt];refine drawn Ys ?_;simp -implicitDefEqProofs only[go_sem,zac,hlt,hk2,zaa];refine zaj (H a.args[k] (Qd hlt) b.args[k]) (by simp -implicitDefEqProofs only[go_sem,zaa]) ?_;simp -implicitDefEqProofs only[go_sem,zaa];rw[Qx hlt,Qx hk2,zh5]at hr;refine⟨Ys,fun h=>?_,fun h=>?_⟩
   ·rw[hs,hr,show same a.args[k] b.args[k]=false by simpa using h];rfl
   ·rw[show same a.args[k] b.args[k]=true by simpa using h,Qq]at hr;rw[zam Yt];exact⟨k+1,⟨Yt,hr⟩,Yt,zad Yr⟩
  ·simp -implicitDefEqProofs only[go_sem,hlt];rw[hs,hr,Q0 Yt,Q0 Yt,zj7]
theorem zoh:∀a b:Tm,FC Tryz.prog 101 [tmD a,tmD b] [bD (same a b)]:=zb0 fun n xs ih b=>qct (.mk n xs) b ih
theorem qe5 (a b:Fm)(H:∀x∈a.parts,∀y,FC Tryz.prog 72 [fmD x,fmD y] [bD (same x y)]):FC Tryz.prog 72 [fmD a,fmD b] [bD (same a b)]:=by
 refine zfp (fun hw=>?_) Tryz.call72
 simp only[fmD,zab]at hw⊢
 have hl:a.parts.length<=9223372036854775807:=by simp[zlj,wfT,zue]at hw;exact hw.1.2.2.2.2.1
 refine zak Tryz.call72 Tryz.func72 rfl Ys (zaz Ys) ?_
 simp -implicitDefEqProofs only[go_sem,Tryz.results72]
 refine⟨fun h1=>?_,fun h1=>by rw[zfw,<-zcn a.op,show(a.op==b.op)=false by simpa using h1];rfl⟩
 have h1':same a.op b.op=true:=by rw[<-zcn];simpa using h1
 refine⟨fun h2=>?_,fun h2=>by rw[zfw,h1',<-zcn a.var,show(a.var==b.var)=false by simpa using h2];simp⟩
 have h2':same a.var b.var=true:=by rw[<-zcn];simpa using h2
 refine callF (zoh a.atom b.atom) (by simp -implicitDefEqProofs only[go_sem,zaa]) ?_
 simp -implicitDefEqProofs only[go_sem,zaa]
 refine⟨fun h3=>?_,fun h3=>by rw[zfw,h1',show same a.atom b.atom=false by simpa using h3];rfl⟩
 have h3':same a.atom b.atom=true:=by simpa using h3
 have hs:same a b=same a.parts b.parts:=by rw[zfw,h1',h2',h3'];rfl
 refine⟨fun h4=>?_,fun h4=>?_⟩
 ·rw[hs,ziv.2 (by rintro e;simp[e]at h4)]
 have hlen:a.parts.length=b.parts.length:=by simp at h4;omega
 refine zaf (fun k:Nat=>hd [(2,.one (.bx 2 0)),(3,.one (.bx 3 0)),(4,vB false),(5,vI k)] [(2,[.t (.int .i64 a.op),.t (.str a.atom.name),.t (tmS a.atom.args),.t (.str a.var),.t (fmS a.parts)]),(3,[.t (.int .i64 b.op),.t (.str b.atom.name),.t (tmS b.atom.args),.t (.str b.var),.t (fmS b.parts)])] []) (fun k=>k<=a.parts.length/\same a.parts b.parts=same (a.parts.drop k) (b.parts.drop k)) (fun k=>a.parts.length-k) 0 (zad ?_) ?_ ?_
 ·simp -implicitDefEqProofs only[go_sem]
 ·simp
 ·intro k ⟨hk,hr⟩;by_cases hlt:k<a.parts.length
  ·have hk2:k<b.parts.length:=by omega
   simp -implicitDefEqProofs only[go_sem,hlt];refine drawn Ys ?_;simp -implicitDefEqProofs only[go_sem,zac,hlt,hk2,zab];refine zaj (H a.parts[k] (Qd hlt) b.parts[k]) (by simp -implicitDefEqProofs only[go_sem,zab]) ?_;simp -implicitDefEqProofs only[go_sem,zab];rw[Qx hlt,Qx hk2,zh5]at hr;refine⟨Ys,fun h=>?_,fun h=>?_⟩
   ·rw[hs,hr,show same a.parts[k] b.parts[k]=false by simpa using h];rfl
   ·rw[show same a.parts[k] b.parts[k]=true by simpa using h,Qq]at hr;rw[zam Yt];exact⟨k+1,⟨Yt,hr⟩,Yt,zad Yr⟩
  ·simp -implicitDefEqProofs only[go_sem,hlt];rw[hs,hr,Q0 Yt,Q0 Yt,zj7]
theorem zj5:∀a b:Fm,FC Tryz.prog 72 [fmD a,fmD b] [bD (same a b)]:=zb7 fun o t v ps ih b=>qe5 (.mk o t v ps) b ih
end
section
open Go.RowKit
def mkF (op:Int)(ps:List Fm):Fm:=.mk op (.mk [] []) [] ps
theorem zig (op:Int)(ps:List Fm):fmC (mkF op ps)=[.int .i64 op,.str [],.sl 2 [],.str [],.sl 5 (ps.map fmC)]:=zab _
end
section
open Go.RowKit
theorem zw6 (f:Fm)(hs:f.wt<=1099511627776)(H:∀x∈f.parts,FC Tryz.prog 152 [fmD x] [bD x.forms]):FC Tryz.prog 152 [fmD f] [bD f.forms]:=by
 have H1:∀x∈f.parts,FC Tryz.prog 210 [fmD x] [bD (!x.forms)]:=fun x hx=>by
  simp only[fmD,zab];refine zak Tryz.call210 Tryz.func210 rfl Ys (zaz Ys) ?_;simp -implicitDefEqProofs only[go_sem,Tryz.results210];refine callF (H x hx) (by simp -implicitDefEqProofs only[go_sem,zab]) ?_;simp -implicitDefEqProofs only[go_sem,zab]
 have hN:=f.forms_eq
 obtain⟨o,a,v,ps⟩:=f
 have ha:a.wt<=1099511627776:=Q9 (zii (.mk o a v ps)) hs
 have e0:((ps.length:Int) != 0)=!decide (ps.length=0):=zrt _ 0
 have e1:((ps.length:Int) != 1)=!decide (ps.length=1):=zrt _ 1
 have e2:((ps.length:Int) != 2)=!decide (ps.length=2):=zrt _ 2
 simp only[Fm.parts]at H1 hN
 rcases zv3 o with rfl|rfl|rfl|rfl|rfl|rfl|rfl|rfl|rfl|⟨n1,n2,n3,n4,n5,n6,n7,n8,n9⟩
 ·have hH:Fm.here (.mk 1 a v ps)=(decide (ps.length=0)&&a.none&&(v==[])):=rfl;rw[hH]at hN;have hq:isQ 1=false:=rfl;have hb:zm3 1=false:=rfl;simp only[fmD,zab,Fm.op,Fm.atom,Fm.var,Fm.parts];refine zak Tryz.call152 Tryz.func152 rfl Ys (zaz Ys) ?_;simp -implicitDefEqProofs only[go_sem,Tryz.results152];simp only[e0];refine⟨fun h=>?_,fun h=>?_⟩
  ·have h':decide (ps.length=0)=true:=by simpa using h
   refine callF (zan 1) (by simp -implicitDefEqProofs only[go_sem,hq]) ?_;simp -implicitDefEqProofs only[go_sem,hq];refine callF (zan 1) (by simp -implicitDefEqProofs only[go_sem,hq]) ?_;simp -implicitDefEqProofs only[go_sem,hq];refine⟨fun h1=>?_,fun h1=>?_⟩
   ·rw[hN,show(v==[])=false by simpa using h1,Q6,Ql]
   ·have h1':(v==[])=true:=by simpa using h1
    refine callF (zca a) (by simp -implicitDefEqProofs only[go_sem,zaa]) ?_;simp -implicitDefEqProofs only[go_sem,zaa];refine⟨fun h2=>?_,fun h2=>?_⟩
    ·rw[hN,show a.none=false by simpa using h2,Q6,Ql,Ql]
    ·have h2':a.none=true:=by simpa using h2
     refine callF (za6 ps (fun x=>!x.forms) _ [] H1) Yr ?_;simp -implicitDefEqProofs only[go_sem];rw[zem,hN,h',h1',h2'];rfl
  ·rw[hN,show decide (ps.length=0)=false by simpa using h];rfl
 ·have hH:Fm.here (.mk 2 a v ps)=(decide (ps.length=0)&&a.none&&(v==[])):=rfl;rw[hH]at hN;have hq:isQ 2=false:=rfl;have hb:zm3 2=false:=rfl;simp only[fmD,zab,Fm.op,Fm.atom,Fm.var,Fm.parts];refine zak Tryz.call152 Tryz.func152 rfl Ys (zaz Ys) ?_;simp -implicitDefEqProofs only[go_sem,Tryz.results152];simp only[e0];refine⟨fun h=>?_,fun h=>?_⟩
  ·have h':decide (ps.length=0)=true:=by simpa using h
   refine callF (zan 2) (by simp -implicitDefEqProofs only[go_sem,hq]) ?_;simp -implicitDefEqProofs only[go_sem,hq];refine callF (zan 2) (by simp -implicitDefEqProofs only[go_sem,hq]) ?_;simp -implicitDefEqProofs only[go_sem,hq];refine⟨fun h1=>?_,fun h1=>?_⟩
   ·rw[hN,show(v==[])=false by simpa using h1,Q6,Ql]
   ·have h1':(v==[])=true:=by simpa using h1
    refine callF (zca a) (by simp -implicitDefEqProofs only[go_sem,zaa]) ?_;simp -implicitDefEqProofs only[go_sem,zaa];refine⟨fun h2=>?_,fun h2=>?_⟩
    ·rw[hN,show a.none=false by simpa using h2,Q6,Ql,Ql]
    ·have h2':a.none=true:=by simpa using h2
     refine callF (za6 ps (fun x=>!x.forms) _ [] H1) Yr ?_;simp -implicitDefEqProofs only[go_sem];rw[zem,hN,h',h1',h2'];rfl
  ·rw[hN,show decide (ps.length=0)=false by simpa using h];rfl
 ·have hH:Fm.here (.mk 3 a v ps)=(decide (ps.length=0)&&a.atomOk&&(v==[])):=rfl;rw[hH]at hN;have hq:isQ 3=false:=rfl;have hb:zm3 3=false:=rfl;simp only[fmD,zab,Fm.op,Fm.atom,Fm.var,Fm.parts];refine zak Tryz.call152 Tryz.func152 rfl Ys (zaz Ys) ?_;simp -implicitDefEqProofs only[go_sem,Tryz.results152];simp only[e0];refine⟨fun h=>?_,fun h=>?_⟩
  ·have h':decide (ps.length=0)=true:=by simpa using h
   refine callF (zan 3) (by simp -implicitDefEqProofs only[go_sem,hq]) ?_;simp -implicitDefEqProofs only[go_sem,hq];refine callF (zan 3) (by simp -implicitDefEqProofs only[go_sem,hq]) ?_;simp -implicitDefEqProofs only[go_sem,hq];refine⟨fun h1=>?_,fun h1=>?_⟩
   ·rw[hN,show(v==[])=false by simpa using h1,Q6,Ql]
   ·have h1':(v==[])=true:=by simpa using h1
    refine callF (zom a ha) (by simp -implicitDefEqProofs only[go_sem,zaa]) ?_;simp -implicitDefEqProofs only[go_sem,zaa];refine And.symm ⟨fun h2=>?_,fun h2=>?_⟩
    ·rw[hN,show a.atomOk=false by simpa using h2,Q6,Ql,Ql]
    ·have h2':a.atomOk=true:=by simpa using h2
     refine callF (za6 ps (fun x=>!x.forms) _ [] H1) Yr ?_;simp -implicitDefEqProofs only[go_sem];rw[zem,hN,h',h1',h2'];rfl
  ·rw[hN,show decide (ps.length=0)=false by simpa using h];rfl
 ·have hH:Fm.here (.mk 4 a v ps)=(decide (ps.length=1)&&a.none&&(v==[])):=rfl;rw[hH]at hN;have hq:isQ 4=false:=rfl;have hb:zm3 4=false:=rfl;simp only[fmD,zab,Fm.op,Fm.atom,Fm.var,Fm.parts];refine zak Tryz.call152 Tryz.func152 rfl Ys (zaz Ys) ?_;simp -implicitDefEqProofs only[go_sem,Tryz.results152];simp only[e1];refine⟨fun h=>?_,fun h=>?_⟩
  ·have h':decide (ps.length=1)=true:=by simpa using h
   refine callF (zan 4) (by simp -implicitDefEqProofs only[go_sem,hq]) ?_;simp -implicitDefEqProofs only[go_sem,hq];refine callF (zan 4) (by simp -implicitDefEqProofs only[go_sem,hq]) ?_;simp -implicitDefEqProofs only[go_sem,hq];refine⟨fun h1=>?_,fun h1=>?_⟩
   ·rw[hN,show(v==[])=false by simpa using h1,Q6,Ql]
   ·have h1':(v==[])=true:=by simpa using h1
    refine callF (zca a) (by simp -implicitDefEqProofs only[go_sem,zaa]) ?_;simp -implicitDefEqProofs only[go_sem,zaa];refine⟨fun h2=>?_,fun h2=>?_⟩
    ·rw[hN,show a.none=false by simpa using h2,Q6,Ql,Ql]
    ·have h2':a.none=true:=by simpa using h2
     refine callF (za6 ps (fun x=>!x.forms) _ [] H1) Yr ?_;simp -implicitDefEqProofs only[go_sem];rw[zem,hN,h',h1',h2'];rfl
  ·rw[hN,show decide (ps.length=1)=false by simpa using h];rfl
 ·have hH:Fm.here (.mk 5 a v ps)=(decide (ps.length=2)&&a.none&&(v==[])):=rfl;rw[hH]at hN;have hq:isQ 5=false:=rfl;have hb:zm3 5=true:=rfl;simp only[fmD,zab,Fm.op,Fm.atom,Fm.var,Fm.parts];refine zak Tryz.call152 Tryz.func152 rfl Ys (zaz Ys) ?_;simp -implicitDefEqProofs only[go_sem,Tryz.results152];refine callF (zan 5) (by simp -implicitDefEqProofs only[go_sem,hq]) ?_;simp -implicitDefEqProofs only[go_sem,hq];refine callF (zgg 5) (by simp -implicitDefEqProofs only[go_sem,hb]) ?_;simp -implicitDefEqProofs only[go_sem,hb];simp only[e2];refine⟨fun h=>?_,fun h=>?_⟩
  ·have h':decide (ps.length=2)=true:=by simpa using h
   refine callF (zan 5) (by simp -implicitDefEqProofs only[go_sem,hq]) ?_;simp -implicitDefEqProofs only[go_sem,hq];refine callF (zan 5) (by simp -implicitDefEqProofs only[go_sem,hq]) ?_;simp -implicitDefEqProofs only[go_sem,hq];refine⟨fun h1=>?_,fun h1=>?_⟩
   ·rw[hN,show(v==[])=false by simpa using h1,Q6,Ql]
   ·have h1':(v==[])=true:=by simpa using h1
    refine callF (zca a) (by simp -implicitDefEqProofs only[go_sem,zaa]) ?_;simp -implicitDefEqProofs only[go_sem,zaa];refine⟨fun h2=>?_,fun h2=>?_⟩
    ·rw[hN,show a.none=false by simpa using h2,Q6,Ql,Ql]
    ·have h2':a.none=true:=by simpa using h2
     refine callF (za6 ps (fun x=>!x.forms) _ [] H1) Yr ?_;simp -implicitDefEqProofs only[go_sem];rw[zem,hN,h',h1',h2'];rfl
  ·rw[hN,show decide (ps.length=2)=false by simpa using h];rfl
 ·have hH:Fm.here (.mk 6 a v ps)=(decide (ps.length=2)&&a.none&&(v==[])):=rfl;rw[hH]at hN;have hq:isQ 6=false:=rfl;have hb:zm3 6=true:=rfl;simp only[fmD,zab,Fm.op,Fm.atom,Fm.var,Fm.parts];refine zak Tryz.call152 Tryz.func152 rfl Ys (zaz Ys) ?_;simp -implicitDefEqProofs only[go_sem,Tryz.results152];refine callF (zan 6) (by simp -implicitDefEqProofs only[go_sem,hq]) ?_;simp -implicitDefEqProofs only[go_sem,hq];refine callF (zgg 6) (by simp -implicitDefEqProofs only[go_sem,hb]) ?_;simp -implicitDefEqProofs only[go_sem,hb];simp only[e2];refine⟨fun h=>?_,fun h=>?_⟩
  ·have h':decide (ps.length=2)=true:=by simpa using h
   refine callF (zan 6) (by simp -implicitDefEqProofs only[go_sem,hq]) ?_;simp -implicitDefEqProofs only[go_sem,hq];refine callF (zan 6) (by simp -implicitDefEqProofs only[go_sem,hq]) ?_;simp -implicitDefEqProofs only[go_sem,hq];refine⟨fun h1=>?_,fun h1=>?_⟩
   ·rw[hN,show(v==[])=false by simpa using h1,Q6,Ql]
   ·have h1':(v==[])=true:=by simpa using h1
    refine callF (zca a) (by simp -implicitDefEqProofs only[go_sem,zaa]) ?_;simp -implicitDefEqProofs only[go_sem,zaa];refine⟨fun h2=>?_,fun h2=>?_⟩
    ·rw[hN,show a.none=false by simpa using h2,Q6,Ql,Ql]
    ·have h2':a.none=true:=by simpa using h2
     refine callF (za6 ps (fun x=>!x.forms) _ [] H1) Yr ?_;simp -implicitDefEqProofs only[go_sem];rw[zem,hN,h',h1',h2'];rfl
  ·rw[hN,show decide (ps.length=2)=false by simpa using h];rfl
 ·have hH:Fm.here (.mk 7 a v ps)=(decide (ps.length=2)&&a.none&&(v==[])):=rfl;rw[hH]at hN;have hq:isQ 7=false:=rfl;have hb:zm3 7=true:=rfl;simp only[fmD,zab,Fm.op,Fm.atom,Fm.var,Fm.parts];refine zak Tryz.call152 Tryz.func152 rfl Ys (zaz Ys) ?_;simp -implicitDefEqProofs only[go_sem,Tryz.results152];refine callF (zan 7) (by simp -implicitDefEqProofs only[go_sem,hq]) ?_;simp -implicitDefEqProofs only[go_sem,hq];refine callF (zgg 7) (by simp -implicitDefEqProofs only[go_sem,hb]) ?_;simp -implicitDefEqProofs only[go_sem,hb];simp only[e2];refine⟨fun h=>?_,fun h=>?_⟩
  ·have h':decide (ps.length=2)=true:=by simpa using h
   refine callF (zan 7) (by simp -implicitDefEqProofs only[go_sem,hq]) ?_;simp -implicitDefEqProofs only[go_sem,hq];refine callF (zan 7) (by simp -implicitDefEqProofs only[go_sem,hq]) ?_;simp -implicitDefEqProofs only[go_sem,hq];refine⟨fun h1=>?_,fun h1=>?_⟩
   ·rw[hN,show(v==[])=false by simpa using h1,Q6,Ql]
   ·have h1':(v==[])=true:=by simpa using h1
    refine callF (zca a) (by simp -implicitDefEqProofs only[go_sem,zaa]) ?_;simp -implicitDefEqProofs only[go_sem,zaa];refine⟨fun h2=>?_,fun h2=>?_⟩
    ·rw[hN,show a.none=false by simpa using h2,Q6,Ql,Ql]
    ·have h2':a.none=true:=by simpa using h2
     refine callF (za6 ps (fun x=>!x.forms) _ [] H1) Yr ?_;simp -implicitDefEqProofs only[go_sem];rw[zem,hN,h',h1',h2'];rfl
  ·rw[hN,show decide (ps.length=2)=false by simpa using h];rfl
 ·have hH:Fm.here (.mk 8 a v ps)=(decide (ps.length=1)&&a.none&&za9 v):=rfl;rw[hH]at hN;have hq:isQ 8=true:=rfl;have hb:zm3 8=false:=rfl;simp only[fmD,zab,Fm.op,Fm.atom,Fm.var,Fm.parts];refine zak Tryz.call152 Tryz.func152 rfl Ys (zaz Ys) ?_;simp -implicitDefEqProofs only[go_sem,Tryz.results152];refine callF (zan 8) (by simp -implicitDefEqProofs only[go_sem,hq]) ?_;simp -implicitDefEqProofs only[go_sem,hq];simp only[e1];refine⟨fun h=>?_,fun h=>?_⟩
  ·have h':decide (ps.length=1)=true:=by simpa using h
   refine callF (zan 8) (by simp -implicitDefEqProofs only[go_sem,hq]) ?_;simp -implicitDefEqProofs only[go_sem,hq];refine callF (zeh v) Yr ?_;simp -implicitDefEqProofs only[go_sem];refine⟨fun h1=>?_,fun h1=>?_⟩
   ·have h1':za9 v=true:=by simpa using h1
    refine callF (zan 8) (by simp -implicitDefEqProofs only[go_sem,hq]) ?_;simp -implicitDefEqProofs only[go_sem,hq];refine callF (zca a) (by simp -implicitDefEqProofs only[go_sem,zaa]) ?_;simp -implicitDefEqProofs only[go_sem,zaa];refine⟨fun h2=>?_,fun h2=>?_⟩
    ·rw[hN,show a.none=false by simpa using h2,Q6,Ql,Ql]
    ·have h2':a.none=true:=by simpa using h2
     refine callF (za6 ps (fun x=>!x.forms) _ [] H1) Yr ?_;simp -implicitDefEqProofs only[go_sem];rw[zem,hN,h',h1',h2'];rfl
   ·rw[hN,show za9 v=false by simpa using h1,Q6,Ql]
  ·rw[hN,show decide (ps.length=1)=false by simpa using h];rfl
 ·have hH:Fm.here (.mk 9 a v ps)=(decide (ps.length=1)&&a.none&&za9 v):=rfl;rw[hH]at hN;have hq:isQ 9=true:=rfl;have hb:zm3 9=false:=rfl;simp only[fmD,zab,Fm.op,Fm.atom,Fm.var,Fm.parts];refine zak Tryz.call152 Tryz.func152 rfl Ys (zaz Ys) ?_;simp -implicitDefEqProofs only[go_sem,Tryz.results152];refine callF (zan 9) (by simp -implicitDefEqProofs only[go_sem,hq]) ?_;simp -implicitDefEqProofs only[go_sem,hq];simp only[e1];refine⟨fun h=>?_,fun h=>?_⟩
  ·have h':decide (ps.length=1)=true:=by simpa using h
   refine callF (zan 9) (by simp -implicitDefEqProofs only[go_sem,hq]) ?_;simp -implicitDefEqProofs only[go_sem,hq];refine callF (zeh v) Yr ?_;simp -implicitDefEqProofs only[go_sem];refine⟨fun h1=>?_,fun h1=>?_⟩
   ·have h1':za9 v=true:=by simpa using h1
    refine callF (zan 9) (by simp -implicitDefEqProofs only[go_sem,hq]) ?_;simp -implicitDefEqProofs only[go_sem,hq];refine callF (zca a) (by simp -implicitDefEqProofs only[go_sem,zaa]) ?_;simp -implicitDefEqProofs only[go_sem,zaa];refine⟨fun h2=>?_,fun h2=>?_⟩
    ·rw[hN,show a.none=false by simpa using h2,Q6,Ql,Ql]
    ·have h2':a.none=true:=by simpa using h2
     refine callF (za6 ps (fun x=>!x.forms) _ [] H1) Yr ?_;simp -implicitDefEqProofs only[go_sem];rw[zem,hN,h',h1',h2'];rfl
   ·rw[hN,show za9 v=false by simpa using h1,Q6,Ql]
  ·rw[hN,show decide (ps.length=1)=false by simpa using h];rfl
 ·have hH:Fm.here (.mk o a v ps)=false:=by simp[Fm.here,zm3,isQ,Fm.op, *]
  rw[hH]at hN;have f1:(o==1)=false:=by simpa using n1
  have f2:(o==2)=false:=by simpa using n2
  have f3:(o==3)=false:=by simpa using n3
  have f4:(o==4)=false:=by simpa using n4
  have hq:isQ o=false:=by simp[isQ,n8,n9]
  have hb:zm3 o=false:=by simp[zm3,n5,n6,n7]
  simp only[fmD,zab,Fm.op,Fm.atom,Fm.var,Fm.parts];refine zak Tryz.call152 Tryz.func152 rfl Ys (zaz Ys) ?_;simp -implicitDefEqProofs only[go_sem,Tryz.results152,f1,f2,f3,f4];refine callF (zan o) (by simp -implicitDefEqProofs only[go_sem,hq]) ?_;simp -implicitDefEqProofs only[go_sem,hq];refine callF (zgg o) (by simp -implicitDefEqProofs only[go_sem,hb]) ?_;simp -implicitDefEqProofs only[go_sem,hb];rw[hN];rfl
theorem zyw:∀a:Fm,a.wt<=1099511627776->FC Tryz.prog 152 [fmD a] [bD a.forms] :=
 zb7 fun o a v xs ih hs=>zw6 (.mk o a v xs) hs fun x hx=>ih x hx (Q9 (zb8 (a:=.mk o a v xs) hx) hs)
theorem zc1 (a:Fm)(hs:a.wt<=1099511627776):FC Tryz.prog 79 [fmD a] [bD a.good]:=by
 simp only[fmD,zab]
 refine zak Tryz.call79 Tryz.func79 rfl Ys (zaz Ys) ?_
 simp -implicitDefEqProofs only[go_sem,Tryz.results79]
 refine callF (qhu a hs) (by simp -implicitDefEqProofs only[go_sem,zab]) ?_
 simp -implicitDefEqProofs only[go_sem,zab]
 rw[qhw]
 refine⟨fun h=>?_,fun h=>?_⟩
 ·refine callF (zyw a hs) (by simp -implicitDefEqProofs only[go_sem,zab]) ?_;simp -implicitDefEqProofs only[go_sem,zab];rw[Fm.good,h,Qq]
 ·rw[Fm.good,h,Ql]
end
section
open Go.RowKit
theorem zru {a:Tm}(h:a.none=true):a=.mk [] []:=by
 obtain⟨n,xs⟩:=a
 simp only[Tm.none,Tm.name,Tm.args,Qc,Ko,Qr,Q8]at h
 rw[h.1,h.2]
theorem len1 {α:Type}{xs:List α}(h:xs.length=1):∃x,xs=[x]:=by
 match xs,h with
 | [x],_=>exact⟨x,rfl⟩
theorem len2 {α:Type}{xs:List α}(h:xs.length=2):∃x y,xs=[x,y]:=by
 match xs,h with
 | [x,y],_=>exact⟨x,y,rfl⟩
theorem qbo (o:Int)(a:Tm)(v:Str)(ps:List Fm):Fm.here (.mk o a v ps) =
  if(o==1||o==2)=true then decide (ps.length=0)&&a.none&&(v==[])
  else if(o==3)=true then decide (ps.length=0)&&a.atomOk&&(v==[])
  else if(o==4)=true then decide (ps.length=1)&&a.none&&(v==[])
  else if(o==5||o==6||o==7)=true then decide (ps.length=2)&&a.none&&(v==[])
  else if(o==8||o==9)=true then decide (ps.length=1)&&a.none&&za9 v
  else false:=rfl
theorem ze0 {f:Fm}(h:f.forms=true) :
  (f.parts=[]/\(f.op=1\/f.op=2\/f.op=3))\/(∃p:Fm,f=mkF 4 [p]/\p.forms=true)\/(∃(o:Int) (p q:Fm),(o=5\/o=6\/o=7)/\f=mkF o [p,q]/\p.forms=true/\q.forms=true) ∨
   ∃(o:Int) (v:Str) (p:Fm),(o=8\/o=9)/\f=.mk o (.mk [] []) v [p]/\p.forms=true:=by
 rw[Fm.forms_eq,Qc]at h
 obtain⟨h1,h2⟩:=h
 obtain⟨o,a,v,ps⟩:=f
 rw[qbo]at h1
 simp only[Fm.op,Fm.parts]at h2⊢
 by_cases h12:(o==1||o==2)=true
 ·rw[if_pos h12]at h1;simp only[Jl,Ko,Qc,Qr,Q8]at h12 h1;exact Or.inl ⟨h1.1.1,Yt⟩
 rw[if_neg h12]at h1
 by_cases h3:(o==3)=true
 ·rw[if_pos h3]at h1;simp only[Ko,Qc,Qr,Q8]at h3 h1;exact Or.inl ⟨h1.1.1,Yt⟩
 rw[if_neg h3]at h1
 by_cases h4:(o==4)=true
 ·rw[if_pos h4]at h1;simp only[Ko,Qc,Qr]at h4 h1;obtain⟨⟨h5,h6⟩,h7⟩:=h1;obtain⟨x,rfl⟩:=len1 h5;rw[h4,zru h6,h7];exact Or.inr (Or.inl ⟨x,rfl,by simpa using h2⟩)
 rw[if_neg h4]at h1
 by_cases h5:(o==5||o==6||o==7)=true
 ·rw[if_pos h5]at h1;simp only[Jl,Ko,Qc,Qr]at h5 h1;obtain⟨⟨h6,h7⟩,h8⟩:=h1;obtain⟨x,y,rfl⟩:=len2 h6;rw[zru h7,h8];simp only[Kt,List.all_nil,Yh,Qc]at h2;exact Or.inr (Or.inr (Or.inl ⟨o,x,y,Yt,rfl,h2.1,h2.2⟩))
 rw[if_neg h5]at h1
 by_cases h6:(o==8||o==9)=true
 ·rw[if_pos h6]at h1;simp only[Jl,Ko,Qc,Qr]at h6 h1;obtain⟨⟨h7,h8⟩,h9⟩:=h1;obtain⟨x,rfl⟩:=len1 h7;rw[zru h8];exact Or.inr (Or.inr (Or.inr ⟨o,v,x,Yt,rfl,by simpa using h2⟩))
 ·rw[if_neg h6]at h1;cases h1
end
section
open Go.RowKit
theorem zwt {f:Fm}{x:Fm}(h:x∈f.parts):x.nodes<f.nodes:=by
 have:=f.nodes_eq
 obtain⟨i,hi,rfl⟩:=Jv h
 have:=zay Fm.nodes f.parts _ (Qd hi)
 omega
end
section
open Go.RowKit
def zdi (n:Str)(t:Tm):Fm->Fm×Bool:=Fm.fold fun o a v ps rs =>
 if(isQ o&&(v==n||!((zbb [] (vf (.mk o a v ps) [])).contains n)))=true then (.mk o a v ps,true)
 else if(isQ o&&decide (0<zid v t))=true then (mkF 0 [],false)
 else (.mk o (if(o==3)=true then zfi n t a else a) v (rs.map Prod.fst),rs.all Prod.snd)
theorem zrv (n:Str)(t:Tm)(f:Fm):zdi n t f=if(isQ f.op&&(f.var==n||!((zbb [] (vf f [])).contains n)))=true then (f,true)
  else if(isQ f.op&&decide (0<zid f.var t))=true then (mkF 0 [],false)
  else (.mk f.op (if(f.op==3)=true then zfi n t f.atom else f.atom) f.var (f.parts.map fun x=>(zdi n t x).1),f.parts.all fun x=>(zdi n t x).2):=by
 cases f with
 | mk o a v ps =>
  conv=>lhs;unfold zdi;rw[Fm.fold_eq]
  simp only[Kh,Yp];rfl
abbrev subX (n:Str)(t:Tm)(b:Bool):Bxs:=[[(false,.str n)],[(false,.str t.name),(false,.sl 2 (t.args.map tmC))],[(true,.bool b)]]
theorem qns (n:Str)(t:Tm)(f:Fm)(r:Fm)(ok b:Bool)(H:FC Tryz.prog 187 [fmD f,sD n,tmD t] [fmD r,bD ok]) :
  PC Tryz.prog 233 (subX n t b) [.d false (fmD f),.p 0,.p 1,.p 2] (subX n t (b&&ok)) [(true,fmD r)]:=by
 simp only[fmD,zab,tmD,zaa t]at H⊢
 refine zbh Tryz.call233 Tryz.func233 rfl Ys (by simp only[Qb,Qe,Tryz.ntmps233];omega) (by simp only[Tryz.ntmps233];omega) rfl rfl (by simp[zau,T.isPin,AF.ds,bxA]) (by simp[gFS,T.fs,T.flat,AF.ds,bxA]) rfl ?_
 simp -implicitDefEqProofs only[go_sem,Tryz.results233]
 refine callF (H) Yr ?_
 simp -implicitDefEqProofs only[go_sem]
 exact⟨fun h=>Or.inl (by rw[h];rfl),fun h=>Or.inl (by rw[h];rfl)⟩
theorem zp7 (n:Str)(t:Tm)(a:Fm)(g:FuncId)(φ:Fm->Fm)(ψ:Fm->Bool)(b:Bool)(H:∀x∈a.parts,∀b,PC Tryz.prog g (subX n t b) [.d false (fmD x),.p 0,.p 1,.p 2] (subX n t (b&&ψ x)) [(true,fmD (φ x))])(h0:a.atom.wt<=1048576)(hs:a.parts.length<=1048576) :
  PC Tryz.prog 181 (subX n t b) [.d false (fmD a),.fn g [0,1,2]] (subX n t (b&&a.parts.all ψ)) [(true,fmD (.mk a.op a.atom a.var (a.parts.map φ)))]:=by
 simp only[fmD,zab a,zd8]
 refine zbh Tryz.call181 Tryz.func181 rfl Ys (by simp only[Qb,Qe,Tryz.ntmps181];omega) (by simp only[Tryz.ntmps181];omega) rfl rfl (by simp[zau,T.isPin,AF.ds,bxA]) (by simp[gFS,T.fs,T.flat,AF.ds,bxA]) rfl ?_
 simp -implicitDefEqProofs only[go_sem,Tryz.results181]
 refine drawn Ys ?_
 simp -implicitDefEqProofs only[go_sem]
 refine zaj (zet a.atom h0) (by simp -implicitDefEqProofs only[go_sem,zaa]) ?_
 simp -implicitDefEqProofs only[go_sem,zaa]
 refine⟨Ys,?_⟩
 refine zaf (fun k:Nat=>hd [(1,.one (.fn g [1000000,1000001,1000002])),(4,.one (.bx 4 0)),(5,.one (.bx 5 0)),(17,.one (.rn (fmS a.parts))),(18,vI a.parts.length),(19,vI k),(1000000,.one (.bx 1000000 0)),(1000001,.one (.bx 1000001 0)),(1000002,.one (.bx 1000002 0))] [(4,[.t (.int .i64 0),.t (.str []),.nl 2,.t (.str []),.nl 5]),(5,[.t (.int .i64 a.op),.t (.str a.atom.name),.ow 385 0,.t (.str a.var),.ow 3000 0]),(1000000,[.t (.str n)]),(1000001,[.t (.str t.name),.rn (.sl 2 (t.args.map tmC))]),(1000002,[.t (.bool (b&&(a.parts.take k).all ψ))])]
  [(385,⟨true,2,a.atom.args.map tmC,0,true⟩),(3000,⟨true,5,(a.parts.take k).map fun x=>fmC (φ x),0,true⟩)]) (fun k=>k<=a.parts.length) (fun k=>a.parts.length-k) 0 (zad ?_) ?_ ?_
 ·simp -implicitDefEqProofs only[go_sem]
 ·simp
 ·intro k hk;by_cases hlt:k<a.parts.length
  ·have hmin:min k a.parts.length<=4294967295:=by omega
   have HC:=H a.parts[k] (Qd hlt) (b&&(a.parts.take k).all ψ);have hsuc:(a.parts.take (k+1)).all ψ=((a.parts.take k).all ψ&&ψ a.parts[k]):=by rw[Qj hlt,List.all_append];simp
   simp only[fmD,zab a.parts[k],zab (φ a.parts[k])]at HC;simp -implicitDefEqProofs only[go_sem,zac,hlt,zab a.parts[k]];refine drawn Ys ?_;simp -implicitDefEqProofs only[go_sem];refine zfk [1000000,1000001,1000002] (HC) (by decide) Yr Yr ?_;simp -implicitDefEqProofs only[go_sem];refine za8 Yr ?_;simp -implicitDefEqProofs only[go_sem];refine zek true (by simp -implicitDefEqProofs only[go_sem,ne_eq,Qa,Qo,hmin]) ?_;simp -implicitDefEqProofs only[go_sem,ne_eq,Qa,Qo,hmin];refine⟨Ys,k+1,hlt,Yt,zad ?_⟩;simp -implicitDefEqProofs only[go_sem];rw[zam Yt,Qj hlt,Qt,Q7];simp only[zab];rw[<-Qj hlt,hsuc,Bool.and_assoc];exact⟨trivial,rfl,trivial⟩
  ·have ht:a.parts.take k=a.parts:=Qm Yt;simp -implicitDefEqProofs only[go_sem,hlt,ht];exact Or.inl (Or.inl rfl)
theorem zll (n:Str)(t:Tm)(ht:t.wt<=1048576)(f:Fm)(hf:f.forms=true)(hw:f.wt<=1048576)(H:∀x∈f.parts,FC Tryz.prog 187 [fmD x,sD n,tmD t] [fmD (zdi n t x).1,bD (zdi n t x).2]) :
  FC Tryz.prog 187 [fmD f,sD n,tmD t] [fmD (zdi n t f).1,bD (zdi n t f).2]:=by
 have hv:=zrv n t f
 have HF:=qjt f hf hw
 have HO:=qhk f.var t Yt
 have HP:=zp7 n t f 233 (fun x=>(zdi n t x).1) (fun x=>(zdi n t x).2) true (fun x hx b=>qns n t x _ _ b (H x hx)) (by have:=zii f;omega) (by have:=f.wt_eq;omega)
 rw[Qq]at HP
 have HC:=zhz f hw
 generalize zbb [] (vf f [])=V at hv HF
 simp only[fmD,zab f,tmD,zaa t,zd8]at HF HO HC HP⊢
 refine zdw Tryz.call187 Tryz.func187 rfl Ys (zaz Ys) ?_
 simp -implicitDefEqProofs only[go_sem,Tryz.results187]
 cases hq:isQ f.op
 ·rw[hq,Ql,Ql,if_neg (by simp),if_neg (by simp)]at hv;have HI:=zan f.op;rw[hq]at HI;refine drawn Ys ?_;simp -implicitDefEqProofs only[go_sem];refine zaj (HI) Yr ?_;simp -implicitDefEqProofs only[go_sem];refine⟨Ys,?_⟩;refine callF (HI) Yr ?_;simp -implicitDefEqProofs only[go_sem];have HA:=ql9 n t ht f.atom (by have:=zii f;omega);have hS:sbS [(n,t)]=.sl 3 [[.str n,.str t.name,.sl 2 (t.args.map tmC)]]:=by unfold sbS;rw[Q7,zhq]
  rw[hS]at HA;simp only[tmD,zaa f.atom,zaa (zfi n t f.atom)]at HA;cases h3:f.op==3
  ·rw[h3,if_neg (by simp)]at hv;rw[hv];simp only[fmD,zd8];refine callQ [4,5,8] (HP) (by decide) (by simp -implicitDefEqProofs only[go_sem,h3]) (by simp -implicitDefEqProofs only[go_sem,h3]) ?_;simp -implicitDefEqProofs only[go_sem,h3];refine drawn Ys ?_;simp -implicitDefEqProofs only[go_sem];kernel_rfl
  ·rw[h3,if_pos rfl]at hv;rw[hv];simp only[fmD,zd8];refine callQ [4,5,8] (HP) (by decide) (by simp -implicitDefEqProofs only[go_sem,h3]) (by simp -implicitDefEqProofs only[go_sem,h3]) ?_;simp -implicitDefEqProofs only[go_sem,h3];refine zny Yr ?_;simp -implicitDefEqProofs only[go_sem];refine callF (HA) Yr ?_;simp -implicitDefEqProofs only[go_sem];refine drawn Ys ?_;simp -implicitDefEqProofs only[go_sem];kernel_rfl
 ·have HI:=zan f.op;rw[hq]at HI;rw[hq,Qq,Qq]at hv;cases hvn:f.var==n
  ·rw[hvn,Jf]at hv;have HCt:=zbu V n;refine drawn Ys ?_;simp -implicitDefEqProofs only[go_sem];refine zaj (HI) (by simp -implicitDefEqProofs only[go_sem,hvn]) ?_;simp -implicitDefEqProofs only[go_sem,hvn];cases hcn:V.contains n
   ·rw[hcn,if_pos (by simp)]at hv;rw[hcn]at HCt;rw[hv];simp only[fmD,zab f];refine zbk (HF) Yr ?_;simp -implicitDefEqProofs only[go_sem];refine zbk (HCt) Yr ?_;simp -implicitDefEqProofs only[go_sem];refine⟨Ys,?_⟩;refine callF (HC) Yr ?_;simp -implicitDefEqProofs only[go_sem]
   ·rw[hcn,if_neg (by simp)]at hv;rw[hcn]at HCt;refine zbk (HF) Yr ?_;simp -implicitDefEqProofs only[go_sem];refine zbk (HCt) Yr ?_;simp -implicitDefEqProofs only[go_sem];refine⟨Ys,?_⟩;refine callF (HI) Yr ?_;simp -implicitDefEqProofs only[go_sem];have h3:(f.op==3)=false:=by
     rw[Qy];intro e;rw[e]at hq;exact absurd hq (by decide)
    cases ho:decide (0<zid f.var t)
    ·rw[ho,if_neg (by simp),h3,if_neg (by simp)]at hv;rw[ho]at HO;rw[hv];simp only[fmD,zd8];refine callF (HO) Yr ?_;simp -implicitDefEqProofs only[go_sem];refine callQ [4,5,8] (HP) (by decide) (by simp -implicitDefEqProofs only[go_sem,h3]) (by simp -implicitDefEqProofs only[go_sem,h3]) ?_;simp -implicitDefEqProofs only[go_sem,h3];refine drawn Ys ?_;simp -implicitDefEqProofs only[go_sem];kernel_rfl
    ·rw[ho,if_pos rfl]at hv;rw[ho]at HO;rw[hv];simp only[fmD,zig,Qk];refine callF (HO) Yr ?_;simp -implicitDefEqProofs only[go_sem]
  ·rw[hvn,Bool.true_or,if_pos rfl]at hv;refine drawn Ys ?_;simp -implicitDefEqProofs only[go_sem];rw[hv];simp only[fmD,zab f];refine zaj (HI) (by simp -implicitDefEqProofs only[go_sem,hvn]) ?_;simp -implicitDefEqProofs only[go_sem,hvn];refine⟨Ys,?_⟩;refine callF (HC) Yr ?_;simp -implicitDefEqProofs only[go_sem]
theorem zn9 (n:Str)(t:Tm)(ht:t.wt<=1048576):∀f:Fm,f.forms=true->f.wt<=1048576->FC Tryz.prog 187 [fmD f,sD n,tmD t] [fmD (zdi n t f).1,bD (zdi n t f).2] :=
 zb7 fun o a v ps ih hf hw=>zll n t ht (.mk o a v ps) hf hw fun x hx=>ih x hx (by rw[Fm.forms_eq,Qc]at hf;exact Qs.1 hf.2 x hx) (Q9 (zb8 (a:=.mk o a v ps) hx) hw)
end
section
open Go.RowKit
theorem zxi (n:Str)(t:Tm)(x:Str):FC Tryz.prog 220 [.agg [sbS [(n,t)]],sD x] [iD (if(n==x)=true then 0 else -1)]:=by
 have hS:sbS [(n,t)]=.sl 3 [[.str n,.str t.name,.sl 2 (t.args.map tmC)]]:=by unfold sbS;rw[Q7,zhq]
 rw[hS]
 refine zak Tryz.call220 Tryz.func220 rfl Ys (zaz Ys) ?_
 simp -implicitDefEqProofs only[go_sem,Tryz.results220]
 refine zaf (fun k:Nat=>hd [(1,vT (.str x)),(2,.one (.bx 2 0)),(5,vI k)] [(2,[.t (.sl 3 [[.str n,.str t.name,.sl 2 (t.args.map tmC)]])])] []) (fun k=>k=0\/(k=1/\(n==x)=false)) (fun k=>1-k) 0 (zad ?_) (Or.inl rfl) ?_
 ·simp -implicitDefEqProofs only[go_sem]
 ·rintro k (rfl|⟨rfl,hn⟩)
  ·cases hn:n==x
   ·simp -implicitDefEqProofs only[go_sem,hn];refine⟨1,Or.inr rfl,by decide,zad ?_⟩;have hz:IntKind.i64.wrap 1=1:=by decide
    simp -implicitDefEqProofs only[go_sem,hz]
   ·simp -implicitDefEqProofs only[go_sem,hn]
  ·simp -implicitDefEqProofs only[go_sem,hn]
theorem qdd (n:Str)(t:Tm)(ht:t.wt<=1048576)(hn:(t.name==n)=false):FC Tryz.prog 169 [.agg [sbS []],sD n,tmD t] [.agg [sbS [(n,t)]]]:=by
 have hS:sbS [(n,t)]=.sl 3 [[.str n,.str t.name,.sl 2 (t.args.map tmC)]]:=by unfold sbS;rw[Q7,zhq]
 have hS0:sbS []=.sl 3 []:=rfl
 have HK:=zg2 t ht
 rw[hS,hS0]
 simp only[tmD,zaa t]at HK⊢
 refine zdw Tryz.call169 Tryz.func169 rfl Ys (zaz Ys) ?_
 simp -implicitDefEqProofs only[go_sem,Tryz.results169,hn]
 refine zaf (fun k:Nat=>hd [(1,vT (.str n)),(3,.one (.bx 3 0)),(5,.one (.bx 5 0)),(6,.one (.bx 6 0)),(7,vI (0:Nat))] [(3,[.rn (.sl 3 [])]),(5,[.t (.str t.name),.rn (.sl 2 (t.args.map tmC))]),(6,[.nl 3])] []) (fun k=>k=0) (fun k=>0) 0 (zad ?_) rfl ?_
 ·simp -implicitDefEqProofs only[go_sem]
 ·rintro k rfl;simp -implicitDefEqProofs only[go_sem];refine zap Yr ?_;simp -implicitDefEqProofs only[go_sem];refine apD true (by simp -implicitDefEqProofs only[go_sem,ne_eq]) ?_;simp -implicitDefEqProofs only[go_sem,ne_eq];refine callF (HK) Yr ?_;simp -implicitDefEqProofs only[go_sem];refine zap Yr ?_;simp -implicitDefEqProofs only[go_sem];refine apD true (by simp -implicitDefEqProofs only[go_sem,ne_eq]) ?_;simp -implicitDefEqProofs only[go_sem,ne_eq];refine apD true (by simp -implicitDefEqProofs only[go_sem,ne_eq]) ?_;simp -implicitDefEqProofs only[go_sem,ne_eq]
theorem zxe (n:Str)(t:Tm)(hn:(t.name==n)=true):RC Tryz.prog 169 [.agg [sbS []],sD n,tmD t] [.agg [sbS []]]:=by
 have hS0:sbS []=.sl 3 []:=rfl
 rw[hS0]
 simp only[tmD,zaa t]
 refine RC_of Tryz.call169 Tryz.func169 rfl Ys (zaz Ys) ?_
 simp -implicitDefEqProofs only[go_sem,Tryz.results169,hn]
def zef (l:List (Str×Tm)):Tm->Tm:=Tm.fold fun m _ rs=>if za9 m=true then (match l.find? fun p=>p.1==m with|some p=>p.2|none=>.mk m [])else .mk m rs
theorem zm7 (l:List (Str×Tm))(a:Tm):zef l a=if za9 a.name=true then (match l.find? fun p=>p.1==a.name with|some p=>p.2|none=>.mk a.name [])else .mk a.name (a.args.map (zef l)):=by unfold zef;rw[Tm.fold_eq]
theorem zs5 (x:Str):FC Tryz.prog 220 [.agg [sbS []],sD x] [iD (-1)]:=by
 have hS:sbS []=.sl 3 []:=rfl
 rw[hS]
 refine zak Tryz.call220 Tryz.func220 rfl Ys (zaz Ys) ?_
 simp -implicitDefEqProofs only[go_sem,Tryz.results220]
 refine zaf (fun k:Nat=>hd [(1,vT (.str x)),(2,.one (.bx 2 0)),(5,vI (0:Nat))] [(2,[.t (.sl 3 [])])] []) (fun k=>k=0) (fun k=>0) 0 (zad ?_) rfl ?_
 ·simp -implicitDefEqProofs only[go_sem]
 ·rintro k rfl;simp -implicitDefEqProofs only[go_sem]
theorem zxn (l:List (Str×Tm))(hl:l.length<=1)(hw:∀p∈l,p.2.wt<=1048576)(a:Tm)(ha:a.args.length<=1048576)(H:∀x∈a.args,FC Tryz.prog 168 [.agg [sbS l],tmD x] [tmD (zef l x)]):FC Tryz.prog 168 [.agg [sbS l],tmD a] [tmD (zef l a)]:=by
 have hv:=zm7 l a
 have HV:=zij a.name
 cases hva:za9 a.name
 ·rw[hva,if_neg (by simp)]at hv;rw[hva]at HV;rw[hv];have e1:tmD (.mk a.name (a.args.map (zef l)))=.agg [.str a.name,.sl 2 (a.args.map fun x=>tmC (zef l x))]:=by unfold tmD;rw[zaa];simp only[Tm.name,Tm.args,Kh,K8]
  rw[e1];simp only[tmD,zaa a]at H⊢;unfold sbS at H⊢;generalize l.map bnC=L at H⊢;refine zak Tryz.call168 Tryz.func168 rfl Ys (zaz Ys) ?_;simp -implicitDefEqProofs only[go_sem,Tryz.results168];refine callF (HV) Yr ?_;simp -implicitDefEqProofs only[go_sem];refine zaf (fun k:Nat=>hd [(2,.one (.bx 2 0)),(3,.one (.bx 3 0)),(4,.one (.bx 4 0)),(6,.one (.bx 6 0)),(7,vI k)] [(2,[.t (.sl 3 L)]),(3,[.t (.str a.name),.t (tmS a.args)]),(4,[.t (.str []),.nl 2]),(6,[.t (.str a.name),.ow 3000 0])] [(3000,⟨true,2,(a.args.take k).map fun x=>tmC (zef l x),0,true⟩)]) (fun k=>k<=a.args.length) (fun k=>a.args.length-k) 0 (zad ?_) (Q1 _) ?_
  ·simp -implicitDefEqProofs only[go_sem]
  ·intro k hk;by_cases hlt:k<a.args.length
   ·have HC:=H a.args[k] (Qd hlt);have hmin:min k a.args.length<=4294967295:=by omega
    simp only[zaa a.args[k],zaa (zef l a.args[k])]at HC;simp -implicitDefEqProofs only[go_sem,hlt];refine drawn Ys ?_;simp -implicitDefEqProofs only[go_sem,zac,hlt,zaa a.args[k]];refine zaj (HC) Yr ?_;simp -implicitDefEqProofs only[go_sem];refine za8 Yr ?_;simp -implicitDefEqProofs only[go_sem];refine zek true (by simp -implicitDefEqProofs only[go_sem,ne_eq,Qa,Qo,hmin]) ?_;simp -implicitDefEqProofs only[go_sem,ne_eq,Qa,Qo,hmin];refine⟨Ys,k+1,hlt,Yt,zad ?_⟩;simp -implicitDefEqProofs only[go_sem];rw[zam Yt,Qj hlt,Qt,Q7];simp only[zaa]
    trivial
   ·have ht:a.args.take k=a.args:=Qm Yt;simp -implicitDefEqProofs only[go_sem,hlt,ht]
 ·rw[hva,if_pos rfl]at hv;rw[hva]at HV;rw[hv]
  match l,hl with
  | [],_ =>
   have HN:=zs5 a.name;simp only[List.find?_nil];have e1:tmD (.mk a.name [])=.agg [.str a.name,.sl 2 []]:=rfl;have hS:sbS []=.sl 3 []:=rfl;rw[hS]at HN⊢;rw[e1];simp only[tmD,zaa a];refine zak Tryz.call168 Tryz.func168 rfl Ys (zaz Ys) ?_;simp -implicitDefEqProofs only[go_sem,Tryz.results168];refine callF (HV) Yr ?_;simp -implicitDefEqProofs only[go_sem];refine callF (HN) Yr ?_;simp -implicitDefEqProofs only[go_sem]
  | [(n,t)],_ =>
   have HO:=zxi n t a.name;have HK:=zg2 t (hw (n,t) (by simp));have hS:sbS [(n,t)]=.sl 3 [[.str n,.str t.name,.sl 2 (t.args.map tmC)]]:=by unfold sbS;rw[Q7,zhq]
   rw[hS]at HO⊢;cases hn:n==a.name
   ·rw[hn]at HO;simp only[List.find?_cons,hn,List.find?_nil];have e1:tmD (.mk a.name [])=.agg [.str a.name,.sl 2 []]:=rfl;rw[e1];simp only[tmD,zaa a];refine zak Tryz.call168 Tryz.func168 rfl Ys (zaz Ys) ?_;simp -implicitDefEqProofs only[go_sem,Tryz.results168];refine callF (HV) Yr ?_;simp -implicitDefEqProofs only[go_sem];refine callF (HO) Yr ?_;simp -implicitDefEqProofs only[go_sem]
   ·rw[hn]at HO;simp only[List.find?_cons,hn];simp only[tmD,zaa a,zaa t]at HK⊢;refine zak Tryz.call168 Tryz.func168 rfl Ys (zaz Ys) ?_;simp -implicitDefEqProofs only[go_sem,Tryz.results168];refine callF (HV) Yr ?_;simp -implicitDefEqProofs only[go_sem];refine callF (HO) Yr ?_;simp -implicitDefEqProofs only[go_sem];refine callF (HK) Yr ?_;simp -implicitDefEqProofs only[go_sem]
theorem qa5 (l:List (Str×Tm))(hl:l.length<=1)(hw:∀p∈l,p.2.wt<=1048576):∀a:Tm,a.wt<=1048576->FC Tryz.prog 168 [.agg [sbS l],tmD a] [tmD (zef l a)] :=
 zb0 fun m xs ih hs=>by
  obtain⟨h1,h2⟩:=Tm.wt_args hs;exact zxn l hl hw (.mk m xs) h1 fun x hx=>ih x hx (h2 x hx)
end
end Go.Proofs.YtliiapbmkcbfaaaGreat
