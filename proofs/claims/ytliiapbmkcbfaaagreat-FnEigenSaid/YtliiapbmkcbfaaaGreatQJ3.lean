/-
  The walk over plain data, and contracts of functions of the program and of its laws.
  Conditions: those that each theorem names.
-/
import Derived.Test.YtliiapbmkcbfaaaGreatQJ2
import Derived.Laws.MakeOwn
import Derived.MapKept
namespace Go.Proofs.YtliiapbmkcbfaaaGreat
set_option linter.unusedSimpArgs false
set_option linter.unusedVariables false
set_option linter.unusedSectionVars false
set_option maxRecDepth 4000
set_option maxHeartbeats 8000000
section
open Go.RowKit
variable {P:Program}
abbrev Ky:=Nat×Nat
def zba (σ σ1:St)(k:Ky):Prop:=match k.1 with
 | 0=>σ.sl k.2=σ1.sl k.2
 | 1=>σ.bx k.2=σ1.bx k.2
 | _=>σ.ev k.2=σ1.ev k.2
theorem zba.refl (σ:St)(k:Ky):zba σ σ k:=by unfold zba;split<;>rfl
theorem zba.symm {σ σ1:St}:∀{k:Ky},zba σ σ1 k->zba σ1 σ k
 | (0,_),h=>Eq.symm h
 | (1,_),h=>Eq.symm h
 | (_+2,_),h=>Eq.symm h
theorem zba.trans {σ σ1 σ2:St}:∀{k:Ky},zba σ σ1 k->zba σ1 σ2 k->zba σ σ2 k
 | (0,_),h,h'=>Eq.trans h h'
 | (1,_),h,h'=>Eq.trans h h'
 | (_+2,_),h,h'=>Eq.trans h h'
def zsw (σ:St)(W:List Ky)(σ':St):St :=
 ⟨fun i=>if(0,i)∈W then σ'.sl i else σ.sl i,fun b=>if(1,b)∈W then σ'.bx b else σ.bx b,fun e=>if(2,e)∈W then σ'.ev e else σ.ev e⟩
def okK (W:List Ky):Bool:=W.all fun k=>k.1<3
theorem zg4 {σ σ':St}{W:List Ky}(hW:okK W=true){k:Ky}(h:k∈W):zba (zsw σ W σ') σ' k:=by
 obtain⟨n,i⟩:=k
 have hn:n<3:=by
  unfold okK at hW;rw[Qs]at hW;simpa using hW _ h
 match n,hn with
 | 0,_=>show ite _ _ _=_;rw[if_pos h]
 | 1,_=>show ite _ _ _=_;rw[if_pos h]
 | 2,_=>show ite _ _ _=_;rw[if_pos h]
theorem zdl {σ σ':St}{W:List Ky}{n i:Nat}(hn:n<3)(h:(n,i)∉W):zba (zsw σ W σ') σ (n,i):=by
 match n,hn with
 | 0,_=>show ite _ _ _=_;rw[if_neg h]
 | 1,_=>show ite _ _ _=_;rw[if_neg h]
 | 2,_=>show ite _ _ _=_;rw[if_neg h]
theorem zba.all3 {σ σ1:St}(h:∀n i,n<3->zba σ σ1 (n,i)):σ=σ1:=by
 obtain⟨s,b,e⟩:=σ
 obtain⟨s1,b1,e1⟩:=σ1
 simp only[St.mk.injEq]
 exact⟨funext fun i=>h 0 i Yt,funext fun i=>h 1 i Yt,funext fun i=>h 2 i Yt⟩
def GStep (P:Program)(ops:Array Oper)(o:Oper)(σ σ':St):Prop :=
 ∀n0 N g a w,Rel n0 N σ g a w->LtK n0 w->(∀d,o.dst=some d->d<N) →
  if Region.wanted o (yielded ops a.tmps)=true then o.wp P a w (fun a' w'=>∃g',Rel n0 N σ' g' a' w'/\Bk n0 w w'/\g'.A0=g.A0/\g'.R0=g.R0) (fun _ _ _=>False)
  else ∃g',Rel n0 N σ' g' (a.put o.dst undef) w/\g'.A0=g.A0/\g'.R0=g.R0
def Loc (P:Program)(ops:Array Oper)(o:Oper)(R W:List Ky)(σ σ':St):Prop :=
 okK W=true/\okK R=true/\(∀k:Ky,k.1<3->k∉W->zba σ σ' k)/\∀σ1,(∀k∈R,zba σ σ1 k)->GStep P ops o σ1 (zsw σ1 W σ')
def zgz (P:Program)(o:Oper)(R W:List Ky)(σ σ':St):Prop :=
 okK W=true/\okK R=true/\(∀k:Ky,k.1<3->k∉W->zba σ σ' k)/\∀σ1,(∀k∈R,zba σ σ1 k)->zai P o σ1 (zsw σ1 W σ')
section
variable (σs:Nat->St)(RW:Nat->List Ky×List Ky)
def Fp (p:Nat->Bool):Nat->St
 | 0=>σs 0
 | m+1=>if p m=true then zsw (Fp p m) (RW m).2 (σs (m+1))else Fp p m
variable {σs RW}{n:Nat}(hok:∀i,i<n->okK (RW i).2=true)(hoff:∀i,i<n->∀k:Ky,k.1<3->k∉(RW i).2->zba (σs i) (σs (i+1)) k)
include hok hoff
theorem zla {p:Nat->Bool}:∀m,m<=n->(∀j,j<m->p j=true)->Fp σs RW p m=σs m
 | 0,_,_=>rfl
 | m+1,hm,h=>by
  unfold Fp;rw[if_pos (h m Yt),zla m Yt fun j hj=>h j Yt];refine zba.all3 fun c i hc=>?_;by_cases hk:(c,i)∈(RW m).2
  ·exact zg4 (hok m Yt) hk
  ·exact(zdl hc hk).trans (hoff m Yt _ hc hk)
omit hoff in
theorem znz {p q:Nat->Bool}{c i:Nat}(hc:c<3):∀m,m<=n->(∀j,j<m->(c,i)∈(RW j).2->p j=q j)->zba (Fp σs RW p m) (Fp σs RW q m) (c,i)
 | 0,_,_=>zba.refl _ _
 | m+1,hm,h=>by
  have ih:=znz (p:=p) (q:=q) hc m Yt fun j hj=>h j Yt;unfold Fp;by_cases hk:(c,i)∈(RW m).2
  ·rw[h m Yt hk];split
   ·exact(zg4 (hok m Yt) hk).trans (zg4 (hok m Yt) hk).symm
   ·exact ih
  ·split
   ·split
    ·exact((zdl hc hk).trans ih).trans (zdl hc hk).symm
    ·exact(zdl hc hk).trans ih
   ·split
    ·exact ih.trans (zdl hc hk).symm
    ·exact ih
omit hok hoff in
theorem zz0 {q:Nat->Bool}{i:Nat}(hq:∀j,i<=j->q j=false):∀d,Fp σs RW q (i+d)=Fp σs RW q i
 | 0=>rfl
 | d+1=>by
  rw[show i+(d+1)=(i+d)+1 by omega];show(if q (i+d)=true then _ else _)=_
  rw[hq (i+d) Yt];simp only[Qn,if_false];exact zz0 hq d
variable (hR:∀i,i<n->okK (RW i).1=true){b:Nat->Nat->Bool}(hdis:∀i j,i<j->j<n->b j i=false->(∀k∈(RW i).2,k∉(RW j).1/\k∉(RW j).2)/\∀k∈(RW i).1,k∉(RW j).2){p:Nat->Bool}{i:Nat}(hi:i<n)(hp:p i=false)(h1:∀j,j<n->b i j=true->p j=true)(h2:∀j,j<n->p j=true->b j i=true->p i=true)
include hR hdis hi hp h1 h2
theorem qd5 {k:Ky}(hk:k∈(RW i).1):zba (σs i) (Fp σs RW p n) k:=by
 obtain⟨c,x⟩:=k
 have hc:c<3:=by
  have:=hR i hi;unfold okK at this;rw[Qs]at this;simpa using this _ hk
 have e1:Fp σs RW (fun j=>decide (j<i)) i=σs i:=zla hok hoff i Yt fun j hj=>by simpa using hj
 have e2:Fp σs RW (fun j=>decide (j<i)) n=Fp σs RW (fun j=>decide (j<i)) i:=by
  have:=zz0 (σs:=σs) (RW:=RW) (q:=fun j=>decide (j<i)) (i:=i) (fun j hj=>by simp;omega) (n-i)
  rwa [show i+(n-i)=n by omega]at this
 rw[<-e1,<-e2]
 refine znz hok hc n (Qw _) fun j hj hw=>?_
 by_cases hji:j<i
 ·have hb:b i j=true:=by
   cases hbb:b i j with
   | true=>rfl
   | false=>exact absurd hk ((hdis j i hji hi hbb).1 _ hw).1
  rw[h1 j hj hb];simpa using hji
 ·have hfalse:p j=false:=by
   by_cases hje:j=i
   ·subst hje;exact hp
   ·cases hpj:p j with
    | false=>rfl
    | true =>
     have hb:b j i=true:=by
      cases hbb:b j i with
      | true=>rfl
      | false=>exact absurd hw ((hdis i j Yt hj hbb).2 _ hk)
     rw[h2 j hj hpj hb]at hp;cases hp
  rw[hfalse];simp;omega
omit hoff hR in
theorem zvy {p':Nat->Bool}(hp':∀j,p' j=if j=i then true else p j):Fp σs RW p' n=zsw (Fp σs RW p n) (RW i).2 (σs (i+1)):=by
 refine zba.all3 fun c x hc=>?_
 by_cases hk:(c,x)∈(RW i).2
 ·refine zba.trans ?_ (zg4 (hok i hi) hk).symm;have key:∀d,i+1+d<=n->zba (Fp σs RW p' (i+1+d)) (σs (i+1)) (c,x):=by
   intro d;induction d with
   | zero =>
    intro _;show zba (if p' i=true then _ else _) _ _
    rw[hp' i,if_pos rfl,if_pos rfl];exact zg4 (hok i hi) hk
   | succ d ih =>
    intro hd;rw[show i+1+(d+1)=(i+1+d)+1 by omega];show zba (if p' (i+1+d)=true then _ else _) _ _
    split
    ·rename_i hpp;have hnk:(c,x)∉(RW (i+1+d)).2:=fun hw=>by
      rw[hp',if_neg Yt]at hpp;have hb:b (i+1+d) i=true:=by
       cases hbb:b (i+1+d) i with
       | true=>rfl
       | false=>exact absurd hw ((hdis i (i+1+d) Yt Yt hbb).1 _ hk).2
      rw[h2 _ Yt hpp hb]at hp;cases hp
     exact(zdl hc hnk).trans (ih Yt)
    ·exact ih Yt
  have:=key (n-(i+1)) Yt
  rwa [show i+1+(n-(i+1))=n by omega]at this
 ·refine zba.trans (znz hok hc n (Qw _) fun j hj hw=>?_) (zdl hc hk).symm;have hji:j≠i:=fun hje=>hk (by subst hje;exact hw);rw[hp',if_neg hji]
end
def cnt (p:Nat->Bool):Nat->Nat
 | 0=>0
 | m+1=>(if p m=true then 0 else 1)+cnt p m
theorem zjz {p:Nat->Bool}:∀n,cnt p n=0->∀j,j<n->p j=true
 | 0,_,j,hj=>by omega
 | m+1,h,j,hj=>by
  unfold cnt at h;by_cases hpm:p m=true
  ·by_cases hjm:j=m
   ·exact hjm▸hpm
   ·exact zjz m Yt j Yt
  ·rw[if_neg hpm]at h;omega
theorem zvi {p q:Nat->Bool}:∀n,(∀j,j<n->p j=q j)->cnt p n=cnt q n
 | 0,_=>rfl
 | m+1,h=>by unfold cnt;rw[h m Yt,zvi m fun j hj=>h j Yt]
theorem ztc {p q:Nat->Bool}{i:Nat}(hp:p i=false)(hq:∀j,q j=if j=i then true else p j):∀n,i<n->cnt p n=cnt q n+1
 | 0,h=>by omega
 | m+1,h=>by
  unfold cnt;by_cases him:i=m
  ·subst him;rw[hq i,if_pos rfl,hp,zvi (p:=p) (q:=q) i fun j hj=>by rw[hq,if_neg Yt]];simp;omega
  ·have hqm:q m=p m:=by rw[hq,if_neg (fun h=>him h.symm)]
   rw[hqm,ztc hp hq m Yt];omega
def zqp (ops:Array Oper)(L:List (List Ky×List Ky)):Bool :=
 let b:=Region.before ops
 (List.range ops.size).all fun j =>
  ((ops.getD j default).after.all fun e=>!Region.binds .any e||decide (e.on<j)) &&
  ((List.range ops.size).all fun i=>!(b.getD j 0).testBit i||(ops.getD j default).after.any fun e=>Region.binds .any e&&(e.on==i||(b.getD e.on 0).testBit i)) &&
  ((List.range j).all fun i=>(b.getD j 0).testBit i||(((L.getD i ([],[])).2.all fun k=>!(L.getD j ([],[])).1.contains k&&!(L.getD j ([],[])).2.contains k)&&(L.getD i ([],[])).1.all fun k=>!(L.getD j ([],[])).2.contains k))
theorem qcv {ops:Array Oper}{σs:Nat->St}{L:List (List Ky×List Ky)}{n0:Nat->Prop}{N:Nat}{w0:World}{A0:(Nat->Prop)×RP}{Q:Exit->Act->World->Prop}
  (hL:∀i (h:i<ops.size),Loc P ops ops[i] (L.getD i ([],[])).1 (L.getD i ([],[])).2 (σs i) (σs (i+1))) (hord:zqp ops L=true) (hdst:∀o∈ops,∀d,o.dst=some d->d<N)
  (hQ:∀g a w,Rel n0 N (σs ops.size) g a w->LtK n0 w->Bk n0 w0 w->(g.A0,g.R0)=A0->Q .normal a w) :
  ∀(fuel:Nat) (listed:Array Bool) (g:Gh) (a:Act) (w:World),listed.size=ops.size->cnt (fun i=>listed.getD i false) ops.size=fuel →
   (∀j (h:j<ops.size),listed.getD j false=true->∀e∈ops[j].after,Region.binds .any e=true->listed.getD e.on false=true) →
   Rel n0 N (Fp σs (fun i=>L.getD i ([],[])) (fun i=>listed.getD i false) ops.size) g a w->LtK n0 w->Bk n0 w0 w->(g.A0,g.R0)=A0->wpAny P .any ops Q fuel listed a w:=by
 have hok:∀i,i<ops.size->okK (L.getD i ([],[])).2=true:=fun i h=>(hL i h).1
 have hRk:∀i,i<ops.size->okK (L.getD i ([],[])).1=true:=fun i h=>(hL i h).2.1
 have hoff:∀i,i<ops.size->∀k:Ky,k.1<3->k∉(L.getD i ([],[])).2->zba (σs i) (σs (i+1)) k:=fun i h=>(hL i h).2.2.1
 have hget:∀j (h:j<ops.size),ops.getD j default=ops[j]:=fun j h=>by simp[Array.getD,h]
 unfold zqp at hord
 simp only[Qs,J0,Qc]at hord
 have hlt:∀j (h:j<ops.size),∀e∈ops[j].after,Region.binds .any e=true->e.on<j:=fun j h e he hb=>by
  have:=(hord j h).1.1;rw[hget j h]at this;have:=(Kw.1 this) e he;simpa[hb]using this
 have hbef:∀j (h:j<ops.size),∀i,i<ops.size->((Region.before ops).getD j 0).testBit i=true->∃e∈ops[j].after,Region.binds .any e=true/\(e.on=i\/((Region.before ops).getD e.on 0).testBit i=true):=fun j h i hi hb=>by
  have:=(hord j h).1.2 i hi;rw[hb,hget j h]at this;simp only[Jr,Jf]at this;obtain⟨e,he,h1⟩:=Array.any_eq_true'.1 this;simp only[Qc,Jl,Ko]at h1;exact⟨e,he,h1.1,h1.2⟩
 have hdis:∀i j,i<j->j<ops.size->((Region.before ops).getD j 0).testBit i=false->(∀k∈(L.getD i ([],[])).2,k∉(L.getD j ([],[])).1/\k∉(L.getD j ([],[])).2)/\∀k∈(L.getD i ([],[])).1,k∉(L.getD j ([],[])).2:=fun i j hij hj hb=>by
  have:=(hord j hj).2 i hij;rw[hb]at this;simp only[Jf,Qc,Qs,Jk,List.contains_eq_mem,Kz]at this;exact⟨fun k hk=>this.1 k hk,fun k hk=>this.2 k hk⟩
 intro fuel
 induction fuel with
 | zero =>
  intro listed g a w hsz hc hcl hrel hn hb hA;have hall:=zjz _ hc;refine⟨?_,?_⟩
  ·unfold Region.ready;rw[List.filter_eq_nil_iff];intro i hi;have hi':=J0.1 hi;have:=hall i hi';simp only[Array.getD_eq_getD_getElem?]at this⊢;rw[Array.getElem?_eq_getElem Yt]at this⊢;simp only[Ku]at this⊢;simp[this]
  ·refine hQ g a w ?_ hn hb hA
   rwa [zla hok hoff ops.size (Qw _) hall]at hrel
 | succ fuel ih =>
  intro listed g a w hsz hc hcl hrel hn hb hA;have hbb:∀j (h:j<ops.size),listed.getD j false=true->∀i,i<ops.size->((Region.before ops).getD j 0).testBit i=true->listed.getD i false=true:=by
   intro j;induction j using Nat.strongRecOn with
   | _ j ihj =>
    intro h hl i hi hbi;obtain⟨e,he,h1,h2⟩:=hbef j h i hi hbi;have hle:=hcl j h hl e he h1;have hlt':=hlt j h e he h1;rcases h2 with rfl|h2
    ·exact hle
    ·exact ihj e.on hlt' Yt hle i hi h2
  refine⟨fun hr=>?_,fun i hi=>?_⟩
  ·-- some operation is due
   exfalso;have:∀j,j<ops.size->listed.getD j false=true:=by
    intro j;induction j using Nat.strongRecOn with
    | _ j ihj =>
     intro hj;cases hl:listed.getD j false with
     | true=>rfl
     | false =>
      exfalso;have hmem:j∈Region.ready .any ops listed:=by
       unfold Region.ready;rw[Ym];refine⟨J0.2 hj,?_⟩;have hl':listed.getD j true=false:=by
        simp only[Array.getD_eq_getD_getElem?]at hl⊢;rw[Array.getElem?_eq_getElem Yt]at hl⊢;exact hl
       rw[hl',Array.getElem?_eq_getElem hj];simp only[Jp,Qq,Kc,Ku];rw[Kw];intro e he;cases hbd:Region.binds .any e with
       | false=>rfl
       | true=>simpa using ihj e.on (hlt j hj e he hbd) (by have:=hlt j hj e he hbd;omega)
      rw[hr]at hmem;exact absurd hmem (by simp)
   have hz:cnt (fun i=>listed.getD i false) ops.size=0:=by
    have:∀m,m<=ops.size->cnt (fun i=>listed.getD i false) m=0:=by
     intro m;induction m with
     | zero=>intro _;rfl
     | succ m ihm=>intro hm;unfold cnt;rw[if_pos (this m Yt),ihm Yt]
    exact this _ (Qw _)
   omega
  ·unfold Region.ready at hi;rw[Ym]at hi;obtain⟨hi1,hi2⟩:=hi;have hi':=J0.1 hi1;rw[Array.getElem?_eq_getElem hi']at hi2;simp only[Kc,Ku,Qc,Jk]at hi2;obtain⟨hl0,hafter⟩:=hi2;have hl:listed.getD i false=false:=by
    simp only[Array.getD_eq_getD_getElem?]at hl0⊢;rw[Array.getElem?_eq_getElem Yt]at hl0⊢;exact hl0
   have hdue:∀e∈ops[i].after,Region.binds .any e=true->listed.getD e.on false=true:=fun e he hbd=>by
    have:=(Kw.1 hafter) e he;simpa[hbd]using this
   have h1:∀j,j<ops.size->((Region.before ops).getD i 0).testBit j=true->listed.getD j false=true:=fun j hj hbj=>by
    obtain⟨e,he,k1,k2⟩:=hbef i hi' j hj hbj;have hle:=hdue e he k1;have hlt':=hlt i hi' e he k1;rcases k2 with rfl|k2
    ·exact hle
    ·exact hbb e.on Yt hle j hj k2
   have h2:∀j,j<ops.size->listed.getD j false=true->((Region.before ops).getD j 0).testBit i=true->listed.getD i false=true:=fun j hj hlj hbj=>hbb j hj hlj i hi' hbj;have hset:∀j,(listed.setIfInBounds i true).getD j false=if j=i then true else listed.getD j false:=fun j=>by
    simp only[Array.getD_eq_getD_getElem?,Array.getElem?_setIfInBounds];by_cases hji:j=i
    ·subst hji;rw[if_pos rfl,if_pos Yt,if_pos rfl];rfl
    ·rw[if_neg (fun h=>hji h.symm),if_neg hji]
   obtain⟨_,_,_,hstep⟩:=hL i hi';have hG:=hstep _ (fun k hk=>qd5 (σs:=σs) (RW:=fun i=>L.getD i ([],[])) (b:=fun j i=>((Region.before ops).getD j 0).testBit i) (p:=fun i=>listed.getD i false) hok hoff hRk hdis hi' hl h1 h2 hk);have hw:=zvy (σs:=σs) (RW:=fun i=>L.getD i ([],[])) (b:=fun j i=>((Region.before ops).getD j 0).testBit i) (p:=fun i=>listed.getD i false) hok hdis hi' hl h1 h2 (p':=fun j=>(listed.setIfInBounds i true).getD j false) hset;have hcnt:=ztc (p:=fun i=>listed.getD i false) (q:=fun j=>(listed.setIfInBounds i true).getD j false) hl hset ops.size hi';have hG':=hG n0 N g a w hrel hn (hdst _ (Array.getElem_mem hi'));rw[<-hw]at hG';have next:∀a' w',(∃g',Rel n0 N (Fp σs (fun i=>L.getD i ([],[])) (fun j=>(listed.setIfInBounds i true).getD j false) ops.size) g' a' w'/\Bk n0 w w'/\g'.A0=g.A0/\g'.R0=g.R0)->wpAny P .any ops Q fuel (listed.setIfInBounds i true) a' w':=by
    rintro a' w' ⟨g',k1,k2,k3,k4⟩;refine ih _ g' a' w' (by simpa using hsz) Yt (fun j hj hlj e he hbd=>?_) k1 (hn.mono k2.size) (hb.trans k2) (by rw[k3,k4];exact hA);rw[hset]at hlj⊢;by_cases heo:e.on=i
    ·rw[if_pos heo]
    ·rw[if_neg heo];by_cases hji:j=i
     ·subst hji;exact hdue e he hbd
     ·rw[if_neg hji]at hlj;exact hcl j hj hlj e he hbd
   unfold wpOp;rw[Array.getElem?_eq_getElem hi'];simp only;split
   ·rename_i hwd;rw[if_pos hwd]at hG';exact Or.inl (zd5 next hG')
   ·rename_i hwd;rw[if_neg hwd]at hG';obtain⟨g',k1,k2,k3⟩:=hG';exact next _ _ ⟨g',k1,Bk.refl _ _,k2,k3⟩
end
section
open Go.RowKit
variable {P:Program}
def dK:Option Nat->List Ky
 | some d=>[(0,d)]
 | none=>[]
def zaw:List Operand->List Ky
 | []=>[]
 | .tmp t::l=>(0,t)::zaw l
 | _::l=>zaw l
def zov:Op->List Operand
 | .move x|.assign x|.box _ x|.load _ x|.nilCheck x|.unOp _ _ x|.convert _ _ x|.fieldAddr _ x _|.field _ x _|.extract x _=>[x]
 | .pick c a b=>[c,a,b]
 | .build _ ps=>ps.toList.map (·.2)
 | .store _ a v|.binOp _ _ a v _|.indexAddr _ a v|.index _ a v=>[a,v]
 | .makeFunc _ _ captured=>captured.toList
 | .call { args,.. }=>args.toList
 | .slice _ x l h m=>x::(l.toList++h.toList++m.toList)
 | _=>[]
def vK:V->List Ky
 | .one (.bx b _)=>[(1,b)]
 | .one (.ow e _)=>[(2,e)]
 | .one (.eo e _ _ _ _)=>[(2,e)]
 | .one (.vw e _ _ _)=>[(2,e)]
 | _=>[]
def bK:Option Nat->List Ky
 | some d=>[(1,d)]
 | none=>[]
def lenK (get:TypeId->Operand->V):List Operand->List TypeId->List Ky
 | [x],[t]=>vK (get t x)
 | _,_=>[]
def qba (P:Program)(o:Oper)(σ:St):List Ky :=
 match o.op with
 | .load _ x=>vK (σ.get P 0 x)
 | .indexAddr t x _=>vK (σ.get P t x)
 | .convert s _ x=>vK (σ.get P s x)
 | .call { callee:=.builtin .len,args,argTypes }=>lenK (σ.get P) args.toList argTypes.toList
 | .alloc _=>bK o.dst
 | .box _ _=>bK o.dst
 | .store _ a _=>vK (σ.get P 0 a)
 | _=>[]
def zyh (P:Program)(o:Oper)(σ:St):List Ky :=
 match o.op with
 | .alloc _=>bK o.dst
 | .box _ _=>bK o.dst
 | .store _ a _=>vK (σ.get P 0 a)
 | _=>[]
def stR (P:Program)(o:Oper)(σ:St):List Ky:=zaw (zov o.op)++qba P o σ
def stW (P:Program)(o:Oper)(σ:St):List Ky:=dK o.dst++zyh P o σ
theorem zmd {x:Nat}:∀{l:List Operand},Operand.tmp x∈l->(0,x)∈zaw l
 | [],h=>by simp at h
 | y::l,h=>by
  rcases Qu.1 h with h|h
  ·subst h;simp[zaw]
  ·have:=zmd h;cases y<;>simp[zaw,this]
theorem zcg {σ σ1:St}{l:List Operand}(h:∀k∈zaw l,zba σ σ1 k){x:Operand}(hx:x∈l)(t:TypeId):σ1.get P t x=σ.get P t x:=by
 cases x with
 | tmp i =>
  show(if i<1000000 then σ1.sl i else .one .any)=(if i<1000000 then σ.sl i else .one .any)
  rw[show σ1.sl i=σ.sl i from(h (0,i) (zmd hx)).symm]
 | const v=>rfl
 | global g=>rfl
 | func f=>rfl
theorem at_loc {σ σ1:St}{v:V}(h:∀k∈vK v,zba σ σ1 k):σ1.at v=σ.at v:=by
 unfold St.at
 split
 ·rename_i b o;have:=h (1,b) (by simp[vK]);rw[show σ1.bx b=σ.bx b from Eq.symm this]
 ·rfl
 ·rfl
 ·rfl
 ·rename_i e g z i o;have:=h (2,e) (by simp[vK]);rw[show σ1.ev e=σ.ev e from Eq.symm this]
 ·rfl
theorem zjv (σ σ1:St)(d:Option Nat)(v:V):zsw σ1 (dK d) (σ.put d v)=σ1.put d v:=by
 cases d with
 | none=>exact zba.all3 fun c i hc=>zdl hc (by simp[dK])
 | some d =>
  obtain⟨s,b,e⟩:=σ1;unfold zsw St.put dK;simp only[Qu,Jg,or_false,Qp,St.mk.injEq];refine⟨funext fun i=>?_,funext fun i=>?_,funext fun i=>?_⟩
  ·by_cases hi:i=d
   ·subst hi;simp[zag]
   ·simp[hi,zal]
  ·simp
  ·simp
theorem zga {σ:St}{d:Option Nat}{v:V}{k:Ky}(h:k∉dK d):zba σ (σ.put d v) k:=by
 cases d with
 | none=>exact zba.refl _ _
 | some d =>
  obtain⟨n,i⟩:=k
  match n with
  | 0 =>
   have hi:i≠d:=fun hi=>h (by subst hi;simp[dK]);exact(zal σ.sl v hi).symm
  | 1=>rfl
  | n+2=>rfl
theorem zs7 (d:Option Nat):okK (dK d)=true:=by cases d<;>rfl
theorem bK_ok (d:Option Nat):okK (bK d)=true:=by cases d<;>rfl
theorem qlq (v:V):okK (vK v)=true:=by unfold vK;split<;>rfl
theorem zbz:∀l:List Operand,okK (zaw l)=true
 | []=>rfl
 | x::l=>by
  have:=zbz l;unfold okK at *;cases x<;>simpa[zaw]using this
theorem zbp {a b:List Ky}(ha:okK a=true)(hb:okK b=true):okK (a++b)=true:=by
 unfold okK at *
 rw[List.all_append,ha,hb];rfl
theorem zzs (o:Oper)(σ:St):okK (qba P o σ)=true:=by
 unfold qba
 split<;>first|exact qlq _|exact bK_ok _|rfl|skip
 unfold lenK
 split
 ·exact qlq _
 ·rfl
theorem zzv (o:Oper)(σ:St):okK (zyh P o σ)=true:=by
 unfold zyh
 split<;>first|exact qlq _|exact bK_ok _|rfl
def qbv (P:Program)(o:Oper)(σ σ' σ1:St)(p:Prop):Prop:=∃v,σ'=σ.put o.dst v/\st0 P o σ1=some (p,σ1.put o.dst v)
theorem zcf {σ σ':St}(σ1:St){d:Option Nat}{X:Option V}{p:Prop}(h:σ.out d X=some (p,σ')):∃v,σ'=σ.put d v/\σ1.out d X=some (p,σ1.put d v):=by
 unfold St.out at *
 cases X with
 | none=>cases h
 | some v=>simp only[Kc,Qf,Qp]at h⊢;exact⟨v,h.2.symm,h.1,rfl⟩
theorem qf8 {σ σ':St}(σ1:St){d:Option Nat}{X:Option (Prop×C)}{p:Prop}(h:σ.outP d X=some (p,σ')):∃v,σ'=σ.put d v/\σ1.outP d X=some (p,σ1.put d v):=by
 unfold St.outP at *
 cases X with
 | none=>cases h
 | some v=>simp only[Kc,Qf,Qp]at h⊢;exact⟨.one v.2,h.2.symm,h.1,rfl⟩
theorem zhy {σ σ':St}(σ1:St){d:Option Nat}{v0:V}{q p:Prop}(h:some (q,σ.put d v0)=some (p,σ')):∃v,σ'=σ.put d v/\some (q,σ1.put d v0)=some (p,σ1.put d v):=by
 simp only[Qf,Qp]at h;exact⟨v0,h.2.symm,by rw[h.1]⟩
theorem zl7 {f g:TypeId->Operand->V}{t:TypeId}{pls:List (Nat×Nat)}:∀{parts:List (Nat×Operand)}{cs:List C},(∀t,∀x∈parts.map (·.2),g t x=f t x)->zeo P t pls g parts cs=zeo P t pls f parts cs
 | [],_,_=>rfl
 | (i,x)::rest,cs,h=>by
  have hx:∀t,g t x=f t x:=fun t=>h t x (by simp);have hr:∀cs,zeo P t pls g rest cs=zeo P t pls f rest cs:=fun cs=>zl7 fun t y hy=>h t y (by simp at hy⊢;exact Or.inr hy);unfold zeo;split
  ·rw[hx];split
   ·exact hr _
   ·rfl
  ·rfl
theorem zkd {f g:Operand->V}:∀{l:List Operand},(∀x∈l,g x=f x)->ze8 g l=ze8 f l
 | [],_=>rfl
 | x::l,h=>by
  unfold ze8;rw[h x (by simp),zkd fun y hy=>h y (by simp[hy])]
theorem st_put {o:Oper}{σ σ':St}{p:Prop}(h:st0 P o σ=some (p,σ'))(σ1:St)(h1:∀k∈zaw (zov o.op),zba σ σ1 k)(h2:∀k∈qba P o σ,zba σ σ1 k) :
  qbv P o σ σ' σ1 p\/(∃t,o.op=.alloc t)\/(∃t x,o.op=.box t x)\/∃t x y,o.op=.store t x y:=by
 have hg:∀x∈zov o.op,∀t,σ1.get P t x=σ.get P t x:=fun x hx t=>zcg h1 hx t
 unfold qbv
 unfold st0 at h⊢
 unfold qba at h2
 split at h
 all_goals rename_i ho
 all_goals try rw[ho]at hg
 all_goals try simp only[zov]at hg
 ·left;(try simp only[ho]);rw[hg _ (by simp)];exact zcf σ1 h
 ·left;(try simp only[ho]);rw[hg _ (by simp)];exact zcf σ1 h
 ·left;(try simp only[ho]);rw[hg _ (by simp),hg _ (by simp),hg _ (by simp)];split at h
  ·rename_i hc;(try rw[hc]);exact zcf σ1 h
  ·cases h
 ·left;(try simp only[ho]at h2⊢);rw[hg _ (by simp),at_loc h2];exact zcf σ1 h
 ·left;(try simp only[ho]);rw[hg _ (by simp),hg _ (by simp)];exact qf8 σ1 h
 ·left;(try simp only[ho]);rw[hg _ (by simp)];exact zcf σ1 h
 ·left;(try simp only[ho]);rw[hg _ (by simp)];split at h
  ·rename_i hc;(try rw[hc]);exact zcf σ1 h
  ·cases h
 ·left;(try simp only[ho]);rw[hg _ (by simp)];obtain⟨y,e1,h⟩:=Qg.1 h;obtain⟨q,ft⟩:=y;obtain⟨m,e2,h⟩:=Qg.1 h;rw[e1];simp only[Kb];rw[e2];simp only[Kb];split at h
  ·cases h
  ·rw[if_neg ‹_›];split at h
   all_goals first
    | (rename_i hc;(try rw[hc]);exact zcf σ1 h)
    | cases h
 ·left;(try simp only[ho]);rw[hg _ (by simp)];obtain⟨y,e1,h⟩:=Qg.1 h;obtain⟨q,ft⟩:=y;rw[e1];simp only[Kb];simp only at h;split at h
  ·rename_i hc;(try rw[hc]);exact zcf σ1 h
  ·cases h
 ·left;(try simp only[ho]at h2⊢);rw[hg _ (by simp),hg _ (by simp)];obtain⟨m,e1,h⟩:=Qg.1 h;rw[e1];simp only[Kb];split at h
  ·rename_i hc hc';(try rw[hc,hc']);exact zhy σ1 h
  ·rename_i hc hc';(try rw[hc,hc']);exact zhy σ1 h
  ·rename_i e g kk k hc hc'
   (try rw[hc,hc'])
   have he:σ1.ev e=σ.ev e:=Eq.symm (h2 (2,e) (by rw[hc];simp[vK]))
   (try simp only)
   (try rw[he])
   obtain⟨x,e2,h⟩:=Qg.1 h;rw[e2];simp only[Kb];split at h
   ·(try rw[if_pos ‹_›]);exact zhy σ1 h
   ·cases h
  ·rename_i e g z q kk k hc hc'
   (try rw[hc,hc'])
   have he:σ1.ev e=σ.ev e:=Eq.symm (h2 (2,e) (by rw[hc];simp[vK]))
   (try simp only)
   (try rw[he])
   obtain⟨x,e2,h⟩:=Qg.1 h;rw[e2];simp only[Kb];split at h
   ·(try rw[if_pos ‹_›]);exact zhy σ1 h
   ·cases h
  ·cases h
 ·left;(try simp only[ho]);rw[hg _ (by simp),hg _ (by simp)];split at h
  ·rename_i hc hc';(try rw[hc,hc'])
   (try simp only)
   split at h
   ·(try rw[if_pos ‹_›]);exact zhy σ1 h
   ·cases h
  ·cases h
 ·left;(try simp only[ho]);rw[hg _ (by simp)];split at h
  all_goals first
   | (rename_i hc;(try rw[hc]);exact zcf σ1 h)
   | cases h
 ·left;(try simp only[ho]at h2⊢);rw[hg _ (by simp)];have hcv:∀s d x,(∀k∈vK (σ.get P s x),zba σ σ1 k)->zsq P σ1 s d (σ.get P s x)=zsq P σ s d (σ.get P s x):=fun s d x hk=>by
   unfold zsq;split
   ·generalize σ.get P s x=v at hk;cases v with
    | one c =>
     cases c with
     | ow e g =>
      have he:σ1.ev e=σ.ev e:=Eq.symm (hk (2,e) (by simp[vK]));simp only[he]
     | t x=>cases x<;>rfl
     | _=>rfl
    | _=>rfl
   ·rfl
  split at h
  ·rename_i e1 e2 hc;(try rw[e1,e2,hc]);exact zcf σ1 h
  ·rename_i hn;rw[hcv _ _ _ h2];exact zcf σ1 h
 ·left;(try simp only[ho]at h2⊢);split at h
  ·rename_i e1 e2
   (try rw[e1]at h2)
   (try rw[e2]at h2)
   rw[e1]at hg;rw[hg _ (by simp)];split at h
   ·rename_i hc;(try rw[hc]);(try simp only);split at h
    ·(try rw[if_pos ‹_›]);exact zcf σ1 h
    ·cases h
   ·rename_i hc;(try rw[hc]);(try simp only);split at h
    ·(try rw[if_pos ‹_›]);exact zcf σ1 h
    ·cases h
   ·rename_i hc;(try rw[hc]);(try simp only);split at h
    ·(try rw[if_pos ‹_›]);exact zcf σ1 h
    ·cases h
   ·rename_i hc;(try rw[hc]);(try simp only);split at h
    ·(try rw[if_pos ‹_›]);exact zcf σ1 h
    ·cases h
   ·rename_i e g hc;have he:σ1.ev e=σ.ev e:=Eq.symm (h2 (2,e) (by show _∈vK _;rw[hc];simp[vK]))
    (try rw[hc]);(try simp only)
    split at h
    ·(try rw[if_pos ‹_›]);rw[he]
     obtain⟨x,e3,h⟩:=Qg.1 h;rw[e3];simp only[Kb];split at h
     ·(try rw[if_pos ‹_›]);exact zcf σ1 h
     ·cases h
    ·cases h
   ·rename_i e g z q hc;have he:σ1.ev e=σ.ev e:=Eq.symm (h2 (2,e) (by show _∈vK _;rw[hc];simp[vK]))
    (try rw[hc]);(try simp only)
    split at h
    ·(try rw[if_pos ‹_›]);rw[he]
     obtain⟨x,e3,h⟩:=Qg.1 h;rw[e3];simp only[Kb];split at h
     ·(try rw[if_pos ‹_›]);exact zcf σ1 h
     ·cases h
    ·cases h
   ·cases h
  ·cases h
 ·right;left;exact⟨_,ho⟩
 ·right;right;left;exact⟨_,_,ho⟩
 ·right;right;right;exact⟨_,_,_,ho⟩
 ·left;(try simp only[ho]);obtain⟨pls,e1,h⟩:=Qg.1 h;rw[e1];simp only[Kb];rw[show(fun z=>Option.map V.agg (zeo P _ pls (σ1.get P) _ z))=fun z=>Option.map V.agg (zeo P _ pls (σ.get P) _ z) from funext fun z=>by rw[zl7 fun t x hx=>hg x hx t]];exact zcf σ1 h
 ·left;(try simp only[ho]);split at h
  ·rw[if_pos ‹_›,zkd fun x hx=>hg x hx 0];obtain⟨bs,e1,h⟩:=Qg.1 h;rw[e1];exact zcf σ1 h
  ·cases h
 ·cases h
theorem zsu {σ σ1:St}{d b:Nat}{v:V}{cs:Option (List C)}:zsw σ1 [(0,d),(1,b)] { sl:=upd σ.sl d v,bx:=upd σ.bx b cs,ev:=σ.ev }={ sl:=upd σ1.sl d v,bx:=upd σ1.bx b cs,ev:=σ1.ev }:=by
 obtain⟨s,bb,e⟩:=σ1
 unfold zsw
 simp only[Qu,Jg,or_false,Qp,St.mk.injEq]
 refine⟨funext fun i=>?_,funext fun i=>?_,funext fun i=>?_⟩
 ·by_cases hi:i=d
  ·subst hi;simp[zag]
  ·simp[hi,zal]
 ·by_cases hi:i=b
  ·subst hi;simp[zag]
  ·simp[hi,zal]
 ·simp
theorem ptch_b {σ σ1:St}{b:Nat}{cs:Option (List C)}:zsw σ1 [(1,b)] { sl:=σ.sl,bx:=upd σ.bx b cs,ev:=σ.ev }={ sl:=σ1.sl,bx:=upd σ1.bx b cs,ev:=σ1.ev }:=by
 obtain⟨s,bb,e⟩:=σ1
 unfold zsw
 simp only[Qu,Jg,or_false,Qp,St.mk.injEq]
 refine⟨funext fun i=>?_,funext fun i=>?_,funext fun i=>?_⟩
 ·simp
 ·by_cases hi:i=b
  ·subst hi;simp[zag]
  ·simp[hi,zal]
 ·simp
theorem znm {σ:St}{d b:Nat}{v:V}{cs:Option (List C)}{k:Ky}(h:k∉[(0,d),(1,b)]):zba σ { sl:=upd σ.sl d v,bx:=upd σ.bx b cs,ev:=σ.ev } k:=by
 obtain⟨n,i⟩:=k
 match n with
 | 0=>exact(zal σ.sl v (fun hi=>h (by subst hi;simp))).symm
 | 1=>exact(zal σ.bx cs (fun hi=>h (by subst hi;simp))).symm
 | n+2=>rfl
theorem qoo {σ:St}{b:Nat}{cs:Option (List C)}{k:Ky}(h:k∉[(1,b)]):zba σ { sl:=σ.sl,bx:=upd σ.bx b cs,ev:=σ.ev } k:=by
 obtain⟨n,i⟩:=k
 match n with
 | 0=>rfl
 | 1=>exact(zal σ.bx cs (fun hi=>h (by subst hi;simp))).symm
 | n+2=>rfl
theorem qnk {o:Oper}{σ σ':St}{p:Prop}(h:st0 P o σ=some (p,σ'))(hp:p):zgz P o (stR P o σ) (stW P o σ) σ σ':=by
 refine⟨zbp (zs7 _) (zzv _ _),zbp (zbz _) (zzs _ _),?_⟩
 suffices hs:(∀k:Ky,k.1<3->k∉stW P o σ->zba σ σ' k)/\∀σ1,(∀k∈stR P o σ,zba σ σ1 k)->st0 P o σ1=some (p,zsw σ1 (stW P o σ) σ') from
  ⟨hs.1,fun σ1 h1=>zq4 (hs.2 σ1 h1) hp⟩
 have hput:=fun σ1 h1 h2=>st_put h σ1 h1 h2
 by_cases hx:(∃t,o.op=.alloc t)\/(∃t x,o.op=.box t x)\/∃t x y,o.op=.store t x y
 ·clear hput;rcases hx with⟨t,ho⟩|⟨t,x,ho⟩|⟨t,x,y,ho⟩
  ·unfold st0 at h⊢;unfold stR stW qba zyh zov;simp only[ho]at h⊢;cases hd:o.dst with
   | none=>rw[hd]at h;cases h
   | some d =>
    rw[hd]at h;simp only at h⊢;split at h
    ·obtain⟨z,hz,h⟩:=Qg.1 h;simp only[Qf,Qp]at h;obtain⟨rfl,rfl⟩:=h;refine⟨fun k _ hk=>znm hk,fun σ1 h1=>?_⟩;have hb:σ.bx d=σ1.bx d:=h1 (1,d) (by simp[bK]);rw[<-hb,if_pos ‹_›,hz];simp only[Kb,Qf,Qp,true_and];exact zsu.symm
    ·cases h
  ·unfold st0 at h⊢;unfold stR stW qba zyh zov;simp only[ho]at h⊢;cases hd:o.dst with
   | none=>rw[hd]at h;cases h
   | some d =>
    rw[hd]at h;simp only at h⊢;split at h
    ·simp only[Qf,Qp]at h;obtain⟨rfl,rfl⟩:=h;refine⟨fun k _ hk=>znm hk,fun σ1 h1=>?_⟩;have hb:σ.bx d=σ1.bx d:=h1 (1,d) (by simp[bK]);have hg:σ1.get P t x=σ.get P t x:=zcg (l:=[x]) (fun k hk=>h1 k (by simp[hk])) (by simp) t;rw[<-hb,hg,if_pos ‹_›];simp only[Qf,Qp,true_and];exact zsu.symm
    ·cases h
  ·unfold st0 at h⊢;unfold stR stW qba zyh zov;simp only[ho]at h⊢;split at h
   ·rename_i b q n hx hn;obtain⟨cs,hcs,h⟩:=Qg.1 h;split at h
    ·simp only[Qf,Qp]at h;obtain⟨rfl,rfl⟩:=h;rw[hx];simp only[vK];have fin:∀σ1:St,(∀k∈zaw [x,y]++[(1,b)],zba σ σ1 k)->σ1.get P 0 x=.one (.bx b q)/\σ1.get P t y=σ.get P t y/\σ1.bx b=some cs:=fun σ1 h1=>by
      have hg:σ1.get P 0 x=σ.get P 0 x:=zcg (l:=[x,y]) (fun k hk=>h1 k (by simp[hk])) (by simp) 0;have hg':σ1.get P t y=σ.get P t y:=zcg (l:=[x,y]) (fun k hk=>h1 k (by simp[hk])) (by simp) t;have hb:σ.bx b=σ1.bx b:=h1 (1,b) (by simp);exact⟨hg.trans hx,hg',hb.symm.trans hcs⟩
     cases hd:o.dst with
     | none =>
      refine⟨fun k _ hk=>qoo hk,fun σ1 h1=>?_⟩;obtain⟨k1,k2,k3⟩:=fin σ1 h1;rw[k1,k2];simp only[hn,k3,Kb];rw[if_pos ‹_›];simp only[Qf,Qp,true_and];exact ptch_b.symm
     | some d =>
      refine⟨fun k _ hk=>znm hk,fun σ1 h1=>?_⟩;obtain⟨k1,k2,k3⟩:=fin σ1 h1;rw[k1,k2];simp only[hn,k3,Kb];rw[if_pos ‹_›];simp only[Qf,Qp,true_and];exact(zsu (σ:=σ) (σ1:=σ1) (d:=d) (b:=b) (v:=.one .any)).symm
    ·cases h
   ·cases h
 ·have hW:stW P o σ=dK o.dst:=by
   unfold stW zyh;split
   ·exact absurd (Or.inl ⟨_,‹_›⟩) hx
   ·exact absurd (Or.inr (Or.inl ⟨_,_,‹_›⟩)) hx
   ·exact absurd (Or.inr (Or.inr ⟨_,_,_,‹_›⟩)) hx
   ·simp
  have key:∀σ1,(∀k∈stR P o σ,zba σ σ1 k)->qbv P o σ σ' σ1 p:=fun σ1 h1=>by
   rcases hput σ1 (fun k hk=>h1 k (by unfold stR;simp[hk])) (fun k hk=>h1 k (by unfold stR;simp[hk]))with hh|hh
   ·exact hh
   ·exact absurd hh hx
  rw[hW];refine⟨fun k _ hk=>?_,fun σ1 h1=>?_⟩
  ·obtain⟨v,rfl,_⟩:=key σ fun k _=>zba.refl _ _;exact zga hk
  ·obtain⟨v,e1,e2⟩:=key σ1 h1;rw[e1,zjv];exact e2
theorem zvs {f g:TypeId->Operand->V}{d:Int}{x:Option Operand}(h:∀y∈x.toList,∀t,g t y=f t y):zlp g d x=zlp f d x:=by
 cases x with
 | none=>rfl
 | some y=>unfold zlp;simp only;rw[h y (by simp) 0]
theorem qmf {f g:TypeId->Operand->V}{op:Op}(h:∀y∈zov op,∀t,g t y=f t y):vop P g op=vop P f op:=by
 unfold vop
 split
 ·split
  ·rename_i hl;rw[h _ (by simp[zov,hl]) 0,h _ (by simp[zov,hl]) 0]
  ·rfl
 ·split
  ·rename_i hl;rw[h _ (by simp[zov,hl]) 0,h _ (by simp[zov,hl]) 0]
  ·rfl
 ·rename_i t x low high;rw[h x (by simp[zov]) t];unfold zuu;have hl:∀d,zlp g d low=zlp f d low:=fun d=>zvs fun y hy t=>h y (by simp only[zov];simp[hy]) t;have hh:∀d,zlp g d high=zlp f d high:=fun d=>zvs fun y hy t=>h y (by simp only[zov];simp[hy]) t;simp only[hl,hh]
 ·rfl
theorem qhi {o:Oper}(σ:St)(h:zns o.op=true):zyh P o σ=[]:=by
 unfold zyh
 split
 ·rename_i ho;rw[ho]at h;cases h
 ·rename_i ho;rw[ho]at h;cases h
 ·rename_i ho;rw[ho]at h;cases h
 ·rfl
theorem st_loc {o:Oper}{σ σ':St}{p:Prop}(h:st P o σ=some (p,σ'))(hp:p):zgz P o (stR P o σ) (stW P o σ) σ σ':=by
 by_cases hv:zns o.op=true
 ·unfold st at h;rw[if_pos hv]at h;unfold St.outV at h;obtain⟨x,hx,h⟩:=Q3.1 h;simp only[Qp]at h;obtain⟨rfl,rfl⟩:=h;have hW:stW P o σ=dK o.dst:=by unfold stW;rw[qhi σ hv];simp
  refine⟨zbp (zs7 _) (zzv _ _),zbp (zbz _) (zzs _ _),fun k _ hk=>?_,fun σ1 h1=>?_⟩
  ·rw[hW]at hk;exact zga hk
  ·rw[hW,zjv];have e:vop P (σ1.get P) o.op=vop P (σ.get P) o.op:=qmf fun y hy t=>zcg (fun k hk=>h1 k (by unfold stR;simp[hk])) hy t;exact zp8 (e.trans hx) hp
 ·unfold st at h;rw[if_neg hv]at h;exact qnk h hp
theorem zgz.loc {ops:Array Oper}{o:Oper}{R W:List Ky}{σ σ':St}(hg:o.guard=none)(h:zgz P o R W σ σ'):Loc P ops o R W σ σ' :=
 ⟨h.1,h.2.1,h.2.2.1,fun σ1 h1 n0 N g a w hR hn hd=>by
  have:Region.wanted o (yielded ops a.tmps)=true:=by simp[Region.wanted,hg]
  rw[if_pos this]
  exact h.2.2.2 σ1 h1 n0 N g a w hR hn hd⟩
theorem zqz {ops:Array Oper}{o:Oper}{n0:Nat->Prop}{N:Nat}{σ:St}{g:Gh}{a:Act}{w:World}(hR:Rel n0 N σ g a w){j d:Nat}{want c:Bool}(hg:o.guard=some (j,want))(hd:(ops[j]?).bind (·.dst)=some d)(hc:σ.sl d=.one (.t (.bool c))):Region.wanted o (yielded ops a.tmps)=(c==want):=by
 have hv:=hR.slots d
 rw[hc]at hv
 simp only[VR,CR,zas]at hv
 have hy:yielded ops a.tmps j=some c:=by
  unfold yielded;rw[hd];simp only[Kb];cases ht:a.tmps[d]? with
  | none=>rw[Array.getD_eq_getD_getElem?,ht]at hv;exact absurd hv (g.R0.nb _ _)
  | some u=>rw[Array.getD_eq_getD_getElem?,ht]at hv;simp only[Ku]at hv;subst hv;rfl
 unfold Region.wanted
 rw[hg]
 simp only[hy]
 cases c<;>cases want<;>rfl
theorem zgz.run {ops:Array Oper}{o:Oper}{R W:List Ky}{σ σ':St}{j d:Nat}{want:Bool}(hg:o.guard=some (j,want))(hd:(ops[j]?).bind (·.dst)=some d)(hc:σ.sl d=.one (.t (.bool want)))(h:zgz P { o with guard:=none } R W σ σ'):Loc P ops o ((0,d)::R) W σ σ':=by
 refine⟨h.1,?_,h.2.2.1,fun σ1 h1 n0 N g a w hR hn hdn=>?_⟩
 ·have:=h.2.1;unfold okK at *;simpa using this
 ·have hc1:σ1.sl d=.one (.t (.bool want)):=(show σ.sl d=σ1.sl d from h1 (0,d) (by simp))▸hc;rw[zqz hR hg hd hc1,beq_self_eq_true,if_pos rfl];exact h.2.2.2 σ1 (fun k hk=>h1 k (by simp[hk])) n0 N g a w hR hn hdn
theorem Loc.skip {ops:Array Oper}{o:Oper}{σ:St}{j d:Nat}{want:Bool}(hg:o.guard=some (j,want))(hd:(ops[j]?).bind (·.dst)=some d)(hc:σ.sl d=.one (.t (.bool !want))):Loc P ops o [(0,d)] (dK o.dst) σ (σ.put o.dst (.tup [])):=by
 refine⟨zs7 _,rfl,fun k _ hk=>zga hk,fun σ1 h1 n0 N g a w hR hn hdn=>?_⟩
 have hc1:σ1.sl d=.one (.t (.bool !want)):=(show σ.sl d=σ1.sl d from h1 (0,d) (by simp))▸hc
 rw[zqz hR hg hd hc1,show((!want)==want)=false by cases want<;>rfl]
 simp only[Qn,if_false]
 rw[zjv]
 exact⟨g,hR.put _ (x:=.tup []) ⟨[],rfl,rfl⟩ hdn,rfl,rfl⟩
theorem Loc.skipT {ops:Array Oper}{o:Oper}{σ:St}{j d:Nat}{want:Bool}{xs:List (Bool×List C)}(hg:o.guard=some (j,want))(hd:(ops[j]?).bind (·.dst)=some d)(hc:σ.sl d=.tup xs):Loc P ops o [(0,d)] (dK o.dst) σ (σ.put o.dst (.tup [])):=by
 refine⟨zs7 _,rfl,fun k _ hk=>zga hk,fun σ1 h1 n0 N g a w hR hn hdn=>?_⟩
 have hc1:σ1.sl d=.tup xs:=(show σ.sl d=σ1.sl d from h1 (0,d) (by simp))▸hc
 have hv:=hR.slots d
 rw[hc1]at hv
 obtain⟨vs,hv,_⟩:=hv
 have hy:yielded ops a.tmps j=none:=by
  unfold yielded;rw[hd];simp only[Kb];cases ht:a.tmps[d]? with
  | none=>rfl
  | some u=>rw[Array.getD_eq_getD_getElem?,ht]at hv;simp only[Ku]at hv;subst hv;rfl
 have hw:Region.wanted o (yielded ops a.tmps)=false:=by
  unfold Region.wanted;rw[hg];simp only[hy];rfl
 rw[hw]
 simp only[Qn,if_false]
 rw[zjv]
 exact⟨g,hR.put _ (x:=.tup []) ⟨[],rfl,rfl⟩ hdn,rfl,rfl⟩
def zgb (P:Program)(o:Oper)(σ:St)(K:List Ky->List Ky->St->Prop):Prop :=
 if zn3 P o σ=true then ∃R W σ',zgz P o R W σ σ'/\K R W σ' else match st P o σ with
 | some (p,σ')=>p/\K (stR P o σ) (stW P o σ) σ'
 | none=>False
def qj9 (P:Program)(ops:Array Oper)(o:Oper)(σ:St)(K:List Ky->List Ky->St->Prop):Prop :=
 match o.guard with
 | none=>zgb P o σ K
 | some (j,want)=>match (ops[j]?).bind (·.dst)with
  | some d=>match σ.sl d with
   | .one (.t (.bool c))=>(c=want->zgb P { o with guard:=none } (σ.put (some d) (.one (.t (.bool want)))) fun R W σ'=>K ((0,d)::R) W σ')/\(c=!want->K [(0,d)] (dK o.dst) ((σ.put (some d) (.one (.t (.bool !want)))).put o.dst (.tup [])))
   | .tup _=>K [(0,d)] (dK o.dst) (σ.put o.dst (.tup []))
   | _=>False
  | none=>False
def zgx (P:Program)(ops:Array Oper):List Oper->List (List Ky×List Ky)->St->(St->Prop)->Prop
 | [],L,σ,K=>zqp ops L=true/\K σ
 | o::os,L,σ,K=>qj9 P ops o σ fun R W σ'=>zgx P ops os (L++[(R,W)]) σ' K
theorem zi8 {o:Oper}{σ:St}{K:List Ky->List Ky->St->Prop}(h:zgb P o σ K):∃R W σ',zgz P o R W σ σ'/\K R W σ':=by
 unfold zgb at h
 split at h
 ·exact h
 ·split at h
  ·rename_i p σ' hst;exact⟨_,_,_,st_loc hst h.1,h.2⟩
  ·exact h.elim
theorem zly {ops:Array Oper}{o:Oper}{σ:St}{K:List Ky->List Ky->St->Prop}(h:qj9 P ops o σ K):∃R W σ',Loc P ops o R W σ σ'/\K R W σ':=by
 unfold qj9 at h
 split at h
 ·rename_i hg;obtain⟨R,W,σ',h1,h2⟩:=zi8 h;exact⟨R,W,σ',h1.loc hg,h2⟩
 ·rename_i j want hg;split at h
  ·rename_i d hd;split at h
   ·rename_i c hc;by_cases hcw:c=want
    ·subst hcw;obtain⟨R,W,σ',h1,h2⟩:=zi8 (h.1 rfl);rw[zgo hc]at h1;exact⟨_,W,σ',h1.run hg hd hc,h2⟩
    ·have hnot:c=!want:=by cases c<;>cases want<;>simp_all
     subst hnot;have hh:=h.2 rfl;rw[zgo hc]at hh;exact⟨_,_,_,Loc.skip hg hd hc,hh⟩
   ·rename_i xs hc;exact⟨_,_,_,Loc.skipT hg hd hc,h⟩
   ·exact h.elim
  ·exact h.elim
theorem zi1 {ops:Array Oper}{K:St->Prop}:∀(os:List Oper)(i:Nat)(L:List (List Ky×List Ky))(σs:Nat->St),os=ops.toList.drop i->i<=ops.size->L.length=i →
  (∀j (h:j<ops.size),j<i->Loc P ops ops[j] (L.getD j ([],[])).1 (L.getD j ([],[])).2 (σs j) (σs (j+1)))->zgx P ops os L (σs i) K →
  ∃(L':List (List Ky×List Ky)) (σs':Nat->St),σs' 0=σs 0/\(∀j (h:j<ops.size),Loc P ops ops[j] (L'.getD j ([],[])).1 (L'.getD j ([],[])).2 (σs' j) (σs' (j+1)))/\zqp ops L'=true/\K (σs' ops.size)
 | [],i,L,σs,ho,hi,hl,hloc,h=>by
  have hle:ops.size<=i:=by
   have:=congrArg List.length ho;simp at this;omega
  have hie:i=ops.size:=by omega
  subst hie;exact⟨L,σs,rfl,fun j hj=>hloc j hj hj,h.1,h.2⟩
 | o::os,i,L,σs,ho,hi,hl,hloc,h=>by
  have hlt:i<ops.size:=by
   have:=congrArg List.length ho;simp at this;omega
  have hcons:ops.toList.drop i=ops[i]::ops.toList.drop (i+1):=by
   rw[Qx (by simpa using hlt)];rfl
  rw[hcons]at ho;obtain⟨rfl,hos⟩:=List.cons.inj ho;obtain⟨R,W,σ',h1,h2⟩:=zly h
  have:=zi1 os (i+1) (L++[(R,W)]) (fun j=>if j<=i then σs j else σ') hos Yt (by simp[hl]) (fun j hj hji=>by
   by_cases hje:j=i
   ·subst hje;have hg:(L++[(R,W)]).getD j ([],[])=(R,W):=by simp[List.getD,<-hl]
    rw[hg,if_pos (Qw _),if_neg Yt];exact h1
   ·have hg:(L++[(R,W)]).getD j ([],[])=L.getD j ([],[]):=by
     simp only[List.getD_eq_getElem?_getD];rw[List.getElem?_append_left Yt]
    rw[hg,if_pos Yt,if_pos Yt]
    exact hloc j hj Yt) (by rw[if_neg Yt];exact h2)
  simpa using this
theorem zs6 {id:Nat}{ops:Array Oper}{σ:St}{K:St->Prop}(hm:P.follows .mixedOrders=true)(h:zgx P ops ops.toList [] σ K):zdj P id ops σ K:=by
 intro n0 N g a w hR hn hd
 obtain⟨L,σs,h0,hloc,hord,hK⟩:=zi1 ops.toList 0 [] (fun _=>σ) rfl (Q1 _) rfl (fun j _ hj=>by omega) h
 refine wp_region_any hm ?_
 have hb:Below w.heap.size w { w with drawn:=w.drawn+1 }:=⟨rfl,rfl,rfl,Qw _,fun _ _=>rfl⟩
 have hR':Rel n0 N (σs 0) g a { w with drawn:=w.drawn+1 }:=by
  rw[h0];exact hR.after hn hb (New.refl σ g (w.heap.size<=·) _ hR.slc)
 have hF:Fp σs (fun i=>L.getD i ([],[])) (fun i=>(Array.replicate ops.size false).getD i false) ops.size=σs 0:=by
  have hp:∀i,(Array.replicate ops.size false).getD i false=false:=fun i=>by
   simp only[Array.getD_eq_getD_getElem?,Array.getElem?_replicate];split<;>rfl
  have:∀m,Fp σs (fun i=>L.getD i ([],[])) (fun i=>(Array.replicate ops.size false).getD i false) m=σs 0:=by
   intro m;induction m with
   | zero=>rfl
   | succ m ih=>unfold Fp;rw[hp,if_neg (by simp)];exact ih
  exact this _
 have hcnt:cnt (fun i=>(Array.replicate ops.size false).getD i false) ops.size=ops.size:=by
  have hp:∀i,(Array.replicate ops.size false).getD i false=false:=fun i=>by
   simp only[Array.getD_eq_getD_getElem?,Array.getElem?_replicate];split<;>rfl
  have:∀m,cnt (fun i=>(Array.replicate ops.size false).getD i false) m=m:=by
   intro m;induction m with
   | zero=>rfl
   | succ m ih=>unfold cnt;rw[hp,if_neg (by simp),ih];omega
  exact this _
 refine qcv (w0:=w) (A0:=(g.A0,g.R0)) hloc hord hd (fun g' a' w' k1 k2 k3 k4=>⟨rfl,_,g',hK,k1,k2,k3,(Jq k4).1,(Jq k4).2⟩) ops.size _ g a _ (by simp) hcnt (fun j h hl=>?_) (by rw[hF];exact hR') (hn.mono (Qw _)) (Bk.of_below hb hn) rfl
 simp only[Array.getD_eq_getD_getElem?,Array.getElem?_replicate]at hl
 split at hl<;>cases hl
end
section
open Go.RowKit
variable {P:Program}
def zmj:List (Nat×Ev)->(Nat->Option Ev)->(Nat->Option Ev)
 | [],f=>f
 | (e,x)::l,f=>upd (zmj l f) e (some x)
def eK:List (Nat×Ev)->List Ky
 | []=>[]
 | (e,_)::l=>(2,e)::eK l
theorem ztl:∀(a b:List (Nat×Ev))(f:Nat->Option Ev),zmj (a++b) f=zmj a (zmj b f)
 | [],_,_=>rfl
 | (e,x)::a,b,f=>by simp only[K6,zmj,ztl a b f]
theorem zyg:∀l,okK (eK l)=true
 | []=>rfl
 | (e,x)::l=>by have:=zyg l;unfold okK at *;simpa[eK]using this
theorem zqq {n e:Nat}:∀{l:List (Nat×Ev)},(n,e)∈eK l->n=2
 | [],h=>by simp[eK]at h
 | (e',x)::l,h=>by
  simp only[eK,Qu,Qp]at h;rcases h with h|h
  ·exact h.1
  ·exact zqq h
theorem zrh:∀{l:List (Nat×Ev)}(f f':Nat->Option Ev){e:Nat},(2,e)∈eK l->zmj l f e=zmj l f' e
 | [],f,f',e,h=>by simp[eK]at h
 | (e',x)::l,f,f',e,h=>by
  unfold zmj;by_cases he:e=e'
  ·subst he;rw[zag,zag]
  ·rw[zal _ _ he,zal _ _ he];simp only[eK,Qu,Qp]at h;exact zrh f f' (h.resolve_left fun hh=>he hh.2)
theorem zh9:∀{l:List (Nat×Ev)}(f:Nat->Option Ev){e:Nat},(2,e)∉eK l->zmj l f e=f e
 | [],f,e,h=>rfl
 | (e',x)::l,f,e,h=>by
  simp only[eK,Qu,Qp,true_and,not_or]at h;unfold zmj;rw[zal _ _ h.1,zh9 f h.2]
def St.upE (σ:St)(l:List (Nat×Ev)):St:={ σ with ev:=zmj l σ.ev }
theorem zgz.of {o:Oper}{σ:St}{R:List Ky}{l:List (Nat×Ev)}{v:V}(hR:okK R=true)(h:∀σ1,(∀k∈R,zba σ σ1 k)->zai P o σ1 ((σ1.upE l).put o.dst v)):zgz P o R (dK o.dst++eK l) σ ((σ.upE l).put o.dst v):=by
 refine⟨zbp (zs7 _) (zyg _),hR,fun k hk3 hk=>?_,fun σ1 h1=>?_⟩
 ·simp only[Qv,not_or]at hk;refine zba.trans ?_ (zga hk.1);obtain⟨n,i⟩:=k
  match n,hk3 with
  | 0,_=>rfl
  | 1,_=>rfl
  | 2,_=>exact(zh9 σ.ev hk.2).symm
 ·have:zsw σ1 (dK o.dst++eK l) ((σ.upE l).put o.dst v)=(σ1.upE l).put o.dst v:=by
   refine zba.all3 fun c i hc=>?_;by_cases hin:(c,i)∈dK o.dst++eK l
   ·refine(zg4 (zbp (zs7 _) (zyg _)) hin).trans ?_
    match c,hc with
    | 0,_ =>
     rcases Qv.1 hin with h|h
     ·cases hd:o.dst with
      | none=>rw[hd]at h;simp[dK]at h
      | some d =>
       rw[hd]at h;simp only[dK,Qu,Jg,or_false,Qp,true_and]at h;subst h;show upd _ _ _ _=upd _ _ _ _
       rw[zag,zag]
     ·have:=zqq h;omega
    | 1,_ =>
     rcases Qv.1 hin with h|h
     ·cases hd:o.dst with
      | none=>rw[hd]at h;simp[dK]at h
      | some d=>rw[hd]at h;simp[dK]at h
     ·have:=zqq h;omega
    | 2,_ =>
     rcases Qv.1 hin with h|h
     ·cases hd:o.dst with
      | none=>rw[hd]at h;simp[dK]at h
      | some d=>rw[hd]at h;simp[dK]at h
     ·cases o.dst<;>exact zrh _ _ h
   ·refine(zdl hc hin).trans ?_;simp only[Qv,not_or]at hin;refine zba.trans ?_ (zga hin.1)
    match c,hc with
    | 0,_=>rfl
    | 1,_=>rfl
    | 2,_=>exact(zh9 σ1.ev hin.2).symm
  rw[this];exact h σ1 h1
def exd (P:Program)(ops:Array Oper)(os:List Oper)(L:List (List Ky×List Ky))(ks:List Fr)(Q:Exit->St->Prop)(σ:St):Prop:=zgx P ops os L σ (qfd P ks Q .normal)
theorem drawn {i:Nat}{ops:Array Oper}{ks:List Fr}{Q:Exit->St->Prop}{σ:St}(hm:P.follows .mixedOrders=true)(h:exd P ops ops.toList [] ks Q σ):ex P (.region i ops true) ks Q σ:=zs6 hm h
theorem zgy {ops:Array Oper}{o:Oper}{os:List Oper}{L:List (List Ky×List Ky)}{ks:List Fr}{Q:Exit->St->Prop}{σ σ':St}{R W:List Ky}(hg:o.guard=none)(hs:zxw o.op=true)(h:zgz P o R W σ σ')(k:exd P ops os (L++[(R,W)]) ks Q σ'):exd P ops (o::os) L ks Q σ:=by
 unfold exd zgx qj9
 rw[hg]
 simp only
 unfold zgb zn3
 rw[if_pos (by rw[hs];rfl)]
 exact⟨R,W,σ',h,k⟩
section
variable (ks:List Fr)(Q:Exit->St->Prop)(σ:St)(ops:Array Oper)(os:List Oper)(L:List (List Ky×List Ky))(d:Option Nat)(ty:TypeId)(ps:String)(af:Array Edge)
theorem qmy:exd P ops [] L ks Q σ=(zqp ops L=true/\rt P .normal ks Q σ):=rfl
theorem zdu {o:Oper}(hg:o.guard=none)(hs:zn3 P o σ=false):exd P ops (o::os) L ks Q σ=thn (st P o σ) (fun σ'=>exd P ops os (L++[(stR P o σ,stW P o σ)]) ks Q σ'):=by
 unfold exd
 rw[zgx]
 unfold qj9
 rw[hg]
 simp only
 unfold zgb
 rw[if_neg (by rw[hs];simp)]
 rfl
theorem qgo (x:Operand):exd P ops (⟨d,.move x,ty,ps,af,none⟩::os) L ks Q σ=exd P ops os (L++[(zaw [x],dK d)]) ks Q (σ.put d (σ.get P ty x)):=by
 rw[zdu _ _ _ _ _ _ rfl rfl]
 simp[st,st0,zns,St.out,thn,stR,stW,qba,zyh,zov]
theorem zww (x:Operand):exd P ops (⟨d,.assign x,ty,ps,af,none⟩::os) L ks Q σ=exd P ops os (L++[(zaw [x],dK d)]) ks Q (σ.put d (σ.get P ty x)):=by
 rw[zdu _ _ _ _ _ _ rfl rfl]
 simp[st,st0,zns,St.out,thn,stR,stW,qba,zyh,zov]
theorem qgv (t:TypeId)(x:Operand):exd P ops (⟨d,.load t x,ty,ps,af,none⟩::os) L ks Q σ=thn (st P ⟨d,.load t x,ty,ps,af,none⟩ σ) (exd P ops os (L++[(zaw [x]++vK (σ.get P 0 x),dK d++[])]) ks Q):=zdu _ _ _ _ _ _ rfl rfl
theorem qeb (op:BinOp)(t t':TypeId)(x y:Operand):exd P ops (⟨d,.binOp op t x y t',ty,ps,af,none⟩::os) L ks Q σ=thn (st P ⟨d,.binOp op t x y t',ty,ps,af,none⟩ σ) (exd P ops os (L++[(zaw [x,y]++[],dK d++[])]) ks Q):=zdu _ _ _ _ _ _ rfl rfl
theorem qg8 (op:UnOp)(t:TypeId)(x:Operand):exd P ops (⟨d,.unOp op t x,ty,ps,af,none⟩::os) L ks Q σ=thn (st P ⟨d,.unOp op t x,ty,ps,af,none⟩ σ) (exd P ops os (L++[(zaw [x]++[],dK d++[])]) ks Q):=zdu _ _ _ _ _ _ rfl rfl
theorem znb (t:TypeId)(x i:Operand):exd P ops (⟨d,.indexAddr t x i,ty,ps,af,none⟩::os) L ks Q σ=thn (st P ⟨d,.indexAddr t x i,ty,ps,af,none⟩ σ) (exd P ops os (L++[(zaw [x,i]++vK (σ.get P t x),dK d++[])]) ks Q):=zdu _ _ _ _ _ _ rfl rfl
theorem qm2 (asx:Array Operand)(ts:Array TypeId):exd P ops (⟨d,.call ⟨.builtin .len,asx,ts⟩,ty,ps,af,none⟩::os) L ks Q σ=thn (st P ⟨d,.call ⟨.builtin .len,asx,ts⟩,ty,ps,af,none⟩ σ) (exd P ops os (L++[(zaw asx.toList++lenK (σ.get P) asx.toList ts.toList,dK d++[])]) ks Q):=zdu _ _ _ _ _ _ rfl rfl
theorem zr8 (x:Operand)(i:Nat):exd P ops (⟨d,.extract x i,ty,ps,af,none⟩::os) L ks Q σ=thn (st P ⟨d,.extract x i,ty,ps,af,none⟩ σ) (exd P ops os (L++[(zaw [x]++[],dK d++[])]) ks Q):=zdu _ _ _ _ _ _ rfl rfl
theorem znx (t:TypeId)(x:Operand)(i:Nat):exd P ops (⟨d,.fieldAddr t x i,ty,ps,af,none⟩::os) L ks Q σ=thn (st P ⟨d,.fieldAddr t x i,ty,ps,af,none⟩ σ) (exd P ops os (L++[(zaw [x]++[],dK d++[])]) ks Q):=zdu _ _ _ _ _ _ rfl rfl
theorem zo3 (x:Operand):exd P ops (⟨d,.nilCheck x,ty,ps,af,none⟩::os) L ks Q σ=thn (st P ⟨d,.nilCheck x,ty,ps,af,none⟩ σ) (exd P ops os (L++[(zaw [x]++[],dK d++[])]) ks Q):=zdu _ _ _ _ _ _ rfl rfl
theorem zrx (s t:TypeId)(x:Operand):exd P ops (⟨d,.convert s t x,ty,ps,af,none⟩::os) L ks Q σ=thn (st P ⟨d,.convert s t x,ty,ps,af,none⟩ σ) (exd P ops os (L++[(zaw [x]++vK (σ.get P s x),dK d++[])]) ks Q):=zdu _ _ _ _ _ _ rfl rfl
theorem qco (t:TypeId):exd P ops (⟨d,.alloc t,ty,ps,af,none⟩::os) L ks Q σ=thn (st P ⟨d,.alloc t,ty,ps,af,none⟩ σ) (exd P ops os (L++[(bK d,dK d++bK d)]) ks Q):=zdu _ _ _ _ _ _ rfl rfl
def exdS (P:Program)(ops:Array Oper)(o:Oper)(os:List Oper)(L:List (List Ky×List Ky))(ks:List Fr)(Q:Exit->St->Prop)(σ:St):Prop:=∃R W σ',zgz P o R W σ σ'/\exd P ops os (L++[(R,W)]) ks Q σ'
theorem qb6 (t:TypeId)(a x:Operand):exd P ops (⟨d,.store t a x,ty,ps,af,none⟩::os) L ks Q σ=zja (σ.get P 0 a) (exdS P ops ⟨d,.store t a x,ty,ps,af,none⟩ os L ks Q σ) (thn (st P ⟨d,.store t a x,ty,ps,af,none⟩ σ) (exd P ops os (L++[(zaw [a,x]++vK (σ.get P 0 a),dK d++vK (σ.get P 0 a))]) ks Q)):=by
 unfold zja
 split
 ·rename_i h;unfold exd;rw[zgx];unfold qj9;simp only;unfold zgb;rw[if_pos (by unfold zn3 zyn;simp only[h,Bool.or_true])];rfl
 ·rename_i h;exact zdu _ _ _ _ _ _ rfl (by unfold zn3 zyn;simpa[zxw]using h)
theorem qcm (t:TypeId)(parts:Array (Nat×Operand)):exd P ops (⟨d,.build t parts,ty,ps,af,none⟩::os) L ks Q σ=thn (st P ⟨d,.build t parts,ty,ps,af,none⟩ σ) (exd P ops os (L++[(zaw (parts.toList.map (·.2))++[],dK d++[])]) ks Q):=zdu _ _ _ _ _ _ rfl rfl
theorem qfq (c x y:Operand):exd P ops (⟨d,.pick c x y,ty,ps,af,none⟩::os) L ks Q σ=thn (st P ⟨d,.pick c x y,ty,ps,af,none⟩ σ) (exd P ops os (L++[(zaw [c,x,y]++[],dK d++[])]) ks Q):=zdu _ _ _ _ _ _ rfl rfl
def zlz (P:Program)(ops:Array Oper)(o:Oper)(os:List Oper)(L:List (List Ky×List Ky))(gR:List Ky)(ks:List Fr)(Q:Exit->St->Prop)(σ:St):Prop:=zgb P o σ fun R W σ'=>exd P ops os (L++[(gR++R,W)]) ks Q σ'
def gdd (P:Program)(ops:Array Oper)(os:List Oper)(L:List (List Ky×List Ky))(ks:List Fr)(Q:Exit->St->Prop)(σ:St)(o:Oper)(c:Nat)(v:V)(want:Bool):Prop :=
 match v with
 | .one (.t (.bool b))=>(b=want->zlz P ops o os L [(0,c)] ks Q (σ.put (some c) (.one (.t (.bool want)))))/\(b=!want->exd P ops os (L++[([(0,c)],dK o.dst)]) ks Q ((σ.put (some c) (.one (.t (.bool !want)))).put o.dst (.tup [])))
 | .tup _=>exd P ops os (L++[([(0,c)],dK o.dst)]) ks Q (σ.put o.dst (.tup []))
 | _=>False
theorem zh7 (o:Oper)(c:Nat)(b want:Bool):gdd P ops os L ks Q σ o c (.one (.t (.bool b))) want=((b=want->zlz P ops o os L [(0,c)] ks Q (σ.put (some c) (.one (.t (.bool want)))))/\(b=!want->exd P ops os (L++[([(0,c)],dK o.dst)]) ks Q ((σ.put (some c) (.one (.t (.bool !want)))).put o.dst (.tup [])))):=rfl
theorem qnq (o:Oper)(c:Nat)(xs:List (Bool×List C))(want:Bool):gdd P ops os L ks Q σ o c (.tup xs) want=exd P ops os (L++[([(0,c)],dK o.dst)]) ks Q (σ.put o.dst (.tup [])):=rfl
theorem zy0 (t:TypeId)(x:Operand)(l h m:Option Operand):exd P ops (⟨d,.slice t x l h m,ty,ps,af,none⟩::os) L ks Q σ=owK (σ.get P t x) (exdS P ops ⟨d,.slice t x l h m,ty,ps,af,none⟩ os L ks Q σ) (thn (st P ⟨d,.slice t x l h m,ty,ps,af,none⟩ σ) (exd P ops os (L++[(zaw (x::(l.toList++h.toList++m.toList))++[],dK d++[])]) ks Q)):=by
 unfold owK
 split
 ·rename_i h;unfold exd;rw[zgx];unfold qj9;simp only;unfold zgb;rw[if_pos (by unfold zn3 zyn;simp only[h,Bool.or_true])];rfl
 ·rename_i h;exact zdu _ _ _ _ _ _ rfl (by unfold zn3 zyn;simpa[zxw]using h)
theorem ze9 {o:Oper}{gR:List Ky}(hs:zn3 P o σ=false):zlz P ops o os L gR ks Q σ=thn (st P o σ) (fun σ'=>exd P ops os (L++[(gR++stR P o σ,stW P o σ)]) ks Q σ'):=by
 unfold zlz zgb
 rw[if_neg (by rw[hs];simp)]
 rfl
theorem qe6 {o:Oper}{gR R W:List Ky}{σ':St}(hs:zxw o.op=true)(h:zgz P o R W σ σ')(k:exd P ops os (L++[(gR++R,W)]) ks Q σ'):zlz P ops o os L gR ks Q σ:=by
 unfold zlz zgb zn3
 rw[if_pos (by rw[hs];rfl)]
 exact⟨R,W,σ',h,k⟩
theorem qdm (gR:List Ky)(x:Operand):zlz P ops ⟨d,.move x,ty,ps,af,none⟩ os L gR ks Q σ=exd P ops os (L++[(gR++(zaw [x]),dK d)]) ks Q (σ.put d (σ.get P ty x)):=by
 rw[ze9 _ _ _ _ _ _ rfl]
 simp[st,st0,zns,St.out,thn,stR,stW,qba,zyh,zov]
theorem qev (gR:List Ky)(t:TypeId)(x:Operand):zlz P ops ⟨d,.load t x,ty,ps,af,none⟩ os L gR ks Q σ=thn (st P ⟨d,.load t x,ty,ps,af,none⟩ σ) (exd P ops os (L++[(gR++(zaw [x]++vK (σ.get P 0 x)),dK d++[])]) ks Q):=ze9 _ _ _ _ _ _ rfl
theorem zyb (gR:List Ky)(op:BinOp)(t t':TypeId)(x y:Operand):zlz P ops ⟨d,.binOp op t x y t',ty,ps,af,none⟩ os L gR ks Q σ=thn (st P ⟨d,.binOp op t x y t',ty,ps,af,none⟩ σ) (exd P ops os (L++[(gR++(zaw [x,y]++[]),dK d++[])]) ks Q):=ze9 _ _ _ _ _ _ rfl
theorem qae (gR:List Ky)(op:UnOp)(t:TypeId)(x:Operand):zlz P ops ⟨d,.unOp op t x,ty,ps,af,none⟩ os L gR ks Q σ=thn (st P ⟨d,.unOp op t x,ty,ps,af,none⟩ σ) (exd P ops os (L++[(gR++(zaw [x]++[]),dK d++[])]) ks Q):=ze9 _ _ _ _ _ _ rfl
theorem zlo (gR:List Ky)(t:TypeId)(x i:Operand):zlz P ops ⟨d,.indexAddr t x i,ty,ps,af,none⟩ os L gR ks Q σ=thn (st P ⟨d,.indexAddr t x i,ty,ps,af,none⟩ σ) (exd P ops os (L++[(gR++(zaw [x,i]++vK (σ.get P t x)),dK d++[])]) ks Q):=ze9 _ _ _ _ _ _ rfl
theorem zlm (gR:List Ky)(t:TypeId)(x:Operand)(i:Nat):zlz P ops ⟨d,.fieldAddr t x i,ty,ps,af,none⟩ os L gR ks Q σ=thn (st P ⟨d,.fieldAddr t x i,ty,ps,af,none⟩ σ) (exd P ops os (L++[(gR++(zaw [x]++[]),dK d++[])]) ks Q):=ze9 _ _ _ _ _ _ rfl
theorem zn1 (gR:List Ky)(x:Operand):zlz P ops ⟨d,.nilCheck x,ty,ps,af,none⟩ os L gR ks Q σ=thn (st P ⟨d,.nilCheck x,ty,ps,af,none⟩ σ) (exd P ops os (L++[(gR++(zaw [x]++[]),dK d++[])]) ks Q):=ze9 _ _ _ _ _ _ rfl
theorem zzg (gR:List Ky)(c x y:Operand):zlz P ops ⟨d,.pick c x y,ty,ps,af,none⟩ os L gR ks Q σ=thn (st P ⟨d,.pick c x y,ty,ps,af,none⟩ σ) (exd P ops os (L++[(gR++(zaw [c,x,y]++[]),dK d++[])]) ks Q):=ze9 _ _ _ _ _ _ rfl
theorem gdd_tt (o:Oper)(c:Nat):gdd P ops os L ks Q σ o c (.one (.t (.bool true))) true=zlz P ops o os L [(0,c)] ks Q (σ.put (some c) (.one (.t (.bool true)))):=by
 rw[zh7];simp
theorem gdd_ff (o:Oper)(c:Nat):gdd P ops os L ks Q σ o c (.one (.t (.bool false))) false=zlz P ops o os L [(0,c)] ks Q (σ.put (some c) (.one (.t (.bool false)))):=by
 rw[zh7];simp
theorem gdd_tf (o:Oper)(c:Nat):gdd P ops os L ks Q σ o c (.one (.t (.bool true))) false=exd P ops os (L++[([(0,c)],dK o.dst)]) ks Q ((σ.put (some c) (.one (.t (.bool true)))).put o.dst (.tup [])):=by
 rw[zh7];simp
theorem gdd_ft (o:Oper)(c:Nat):gdd P ops os L ks Q σ o c (.one (.t (.bool false))) true=exd P ops os (L++[([(0,c)],dK o.dst)]) ks Q ((σ.put (some c) (.one (.t (.bool false)))).put o.dst (.tup [])):=by
 rw[zh7];simp
theorem qbr (op:Op)(j:Nat)(want:Bool):exd P ops (⟨d,op,ty,ps,af,some (j,want)⟩::os) L ks Q σ=zav ((ops[j]?).bind (·.dst)) fun c=>gdd P ops os L ks Q σ ⟨d,op,ty,ps,af,none⟩ c (σ.sl c) want:=by
  unfold exd zgx qj9;simp only;unfold zav;split
  · rename_i c hc;simp only[hc];unfold gdd;split
    · rename_i b hb;first|(rw[hb];rfl)|rfl
    · rename_i b hb;first|(rw[hb];rfl)|rfl
    · rename_i hb hb2
      first
        | rfl
        | (split
           · exact absurd ‹_› (hb _)
           · exact absurd ‹_› (hb2 _)
           · rfl)
  · rename_i hc;simp only[hc]
end
theorem zxj:zaw []=[]:=rfl
theorem zya (t:Nat)(l:List Operand):zaw (.tmp t::l)=(0,t)::zaw l:=rfl
theorem zqm (v:Value)(l:List Operand):zaw (.const v::l)=zaw l:=rfl
theorem zrn (f:FuncId)(l:List Operand):zaw (.func f::l)=zaw l:=rfl
attribute [go_sem ↓] qmy qgo zww qgv qeb qg8 znb qm2 zr8 znx zo3 zrx qco qb6 qcm qfq qbr zy0 qdm qev zyb qae zlo zlm zn1 zzg
attribute [go_sem] Option.toList_none Option.toList_some zh7 qnq zxj zya zqm zrn dK bK vK lenK
theorem exd_cg {P:Program}{ops:Array Oper}{os:List Oper}{L:List (List Ky×List Ky)}{ks:List Fr}{Q:Exit->St->Prop}{σ σ':St}(h:σ=σ'){L':List (List Ky×List Ky)}(hL:L=L'):exd P ops os L ks Q σ=exd P ops os L' ks Q σ':=h▸hL▸rfl
theorem gdd_cg {P:Program}{ops:Array Oper}{os:List Oper}{L:List (List Ky×List Ky)}{ks:List Fr}{Q:Exit->St->Prop}{σ:St}{o:Oper}{c:Nat}{v v':V}{want:Bool}(h:v=v'):gdd P ops os L ks Q σ o c v want=gdd P ops os L ks Q σ o c v' want:=h▸rfl
attribute [go_sem high] gdd_tt gdd_ff gdd_tf gdd_ft
attribute [congr] exd_cg gdd_cg
end
section
open Go.RowKit
variable {P:Program}
def c0K:C->List Ky
 | .ow e _=>[(2,e)]
 | _=>[]
def zsl:List C->List Ky
 | []=>[]
 | c::cs=>c0K c++zsl cs
def bxK (σ:St)(b:Nat):List Ky:=(1,b)::match σ.bx b with|some cs=>zsl cs|none=>[]
def bsK (σ:St):List Nat->List Ky
 | []=>[]
 | b::bs=>bxK σ b++bsK σ bs
def cK (σ:St):C->List Ky
 | .bx b _=>bxK σ b
 | .fn _ caps=>bsK σ caps
 | c=>c0K c
def csK (σ:St):List C->List Ky
 | []=>[]
 | c::cs=>cK σ c++csK σ cs
def vsK (σ:St):List V->List Ky
 | []=>[]
 | v::vs=>csK σ v.cells++vsK σ vs
theorem c0K_ok (c:C):okK (c0K c)=true:=by cases c<;>rfl
theorem zr5:∀cs,okK (zsl cs)=true
 | []=>rfl
 | c::cs=>zbp (c0K_ok c) (zr5 cs)
theorem qj1 (σ:St)(b:Nat):okK (bxK σ b)=true:=by
 have:okK (match σ.bx b with|some cs=>zsl cs|none=>[])=true:=by
  split
  ·exact zr5 _
  ·rfl
 unfold bxK okK at *
 simpa using this
theorem qkt (σ:St):∀bs,okK (bsK σ bs)=true
 | []=>rfl
 | b::bs=>zbp (qj1 σ b) (qkt σ bs)
theorem cK_ok (σ:St)(c:C):okK (cK σ c)=true:=by
 cases c
 case bx=>exact qj1 _ _
 case fn=>exact qkt _ _
 all_goals rfl
theorem qlb (σ:St):∀cs,okK (csK σ cs)=true
 | []=>rfl
 | c::cs=>zbp (cK_ok σ c) (qlb σ cs)
theorem qk4 (σ:St):∀vs,okK (vsK σ vs)=true
 | []=>rfl
 | v::vs=>zbp (qlb σ _) (qk4 σ vs)
section
variable {σ σ1:St}
theorem CT0.loc {c:C}{t:T}(h:CT0 σ c t)(hk:∀k∈c0K c,zba σ σ1 k):CT0 σ1 c t:=by
 cases c
 case ow e g =>
  cases t
  case sl=>obtain⟨d,o,h⟩:=h;exact⟨d,o,(show σ.ev e=σ1.ev e from hk (2,e) (by simp[c0K]))▸h⟩
  all_goals exact h.elim
 all_goals (cases t<;>exact h)
theorem zpn.loc:∀{cs:List C}{ts:List T},zpn σ cs ts->(∀k∈zsl cs,zba σ σ1 k)->zpn σ1 cs ts
 | [],_,h,_=>h
 | c::cs,_,h,hk=>by
  obtain⟨t,ts',rfl,h1,h2⟩:=h;exact⟨t,ts',rfl,h1.loc fun k hh=>hk k (by simp[zsl,hh]),zpn.loc h2 fun k hh=>hk k (by simp[zsl,hh])⟩
theorem CTb.loc {b:Nat}{t:T}(h:CTb σ b t)(hk:∀k∈bxK σ b,zba σ σ1 k):CTb σ1 b t:=by
 obtain⟨cs,ts,h1,h2,h3⟩:=h
 refine⟨cs,ts,(show σ.bx b=σ1.bx b from hk (1,b) (by simp[bxK]))▸h1,h2,h3.loc fun k hh=>hk k ?_⟩
 unfold bxK
 rw[h1]
 simp[hh]
theorem CTf.loc:∀{bs:List Nat}{ts:List T},CTf σ bs ts->(∀k∈bsK σ bs,zba σ σ1 k)->CTf σ1 bs ts
 | [],_,h,_=>h
 | b::bs,_,h,hk=>by
  obtain⟨t,ts',rfl,h1,h2⟩:=h;exact⟨t,ts',rfl,h1.loc fun k hh=>hk k (by simp[bsK,hh]),CTf.loc h2 fun k hh=>hk k (by simp[bsK,hh])⟩
theorem CT.loc {c:C}{t:T}(h:CT σ c t)(hk:∀k∈cK σ c,zba σ σ1 k):CT σ1 c t:=by
 unfold CT at h⊢
 split at h
 ·exact h.loc hk
 ·exact⟨h.1,h.2.loc hk⟩
 ·rename_i hn1 hn2;cases c
  case bx b o =>
   cases o with
   | zero=>exact(hn1 b rfl).elim
   | succ o=>exact h
  case fn f caps =>
   cases t
   case fn g ts=>exact(hn2 f caps g ts rfl rfl).elim
   all_goals exact h
  all_goals exact CT0.loc h hk
theorem CTs.loc:∀{cs:List C}{ts:List T},CTs σ cs ts->(∀k∈csK σ cs,zba σ σ1 k)->CTs σ1 cs ts
 | [],_,h,_=>h
 | c::cs,_,h,hk=>by
  obtain⟨t,ts',rfl,h1,h2⟩:=h;exact⟨t,ts',rfl,h1.loc fun k hh=>hk k (by simp[csK,hh]),CTs.loc h2 fun k hh=>hk k (by simp[csK,hh])⟩
theorem VDs.loc:∀{vs:List V}{ds:List D},VDs σ vs ds->(∀k∈vsK σ vs,zba σ σ1 k)->VDs σ1 vs ds
 | [],_,h,_=>h
 | v::vs,_,h,hk=>by
  obtain⟨d,ds',rfl,h1,h2⟩:=h;refine⟨d,ds',rfl,?_,VDs.loc h2 fun k hh=>hk k (by simp[vsK,hh])⟩;unfold VD at h1⊢;split at h1
  ·exact h1.loc fun k hh=>hk k (by simp[vsK,V.cells,csK,hh])
  ·exact h1.loc fun k hh=>hk k (by simp[vsK,V.cells,hh])
  ·exact h1.elim
theorem CT1.loc {c:C}{t:T}(h:CT1 σ c t):CT1 σ1 c t:=by cases c<;>exact h
theorem zo9.loc:∀{cs:List C}{ts:List T},zo9 σ cs ts->zo9 σ1 cs ts
 | [],_,h=>h
 | c::cs,_,h=>by obtain⟨t,ts',rfl,h1,h2⟩:=h;exact⟨t,ts',rfl,h1.loc,zo9.loc h2⟩
theorem zrc.loc:∀{vs:List V}{ds:List D},zrc σ vs ds->zrc σ1 vs ds
 | [],_,h=>h
 | v::vs,_,h=>by
  obtain⟨d,ds',rfl,h1,h2⟩:=h;refine⟨d,ds',rfl,?_,zrc.loc h2⟩;unfold VD1 at h1⊢;split at h1
  ·exact h1.loc
  ·exact h1.loc
  ·exact h1.elim
end
def owL (d:Nat):Nat->List T->List (Nat×Ev)
 | _,[]=>[]
 | j,.sl sz rows::ts=>owL d (j+1) ts++[(d*32+j,⟨true,sz,rows,0,true⟩)]
 | j,_::ts=>owL d (j+1) ts
theorem zy7 (d:Nat):∀(ts:List T)(j:Nat)(f:Nat->Option Ev),owE d j ts f=zmj (owL d j ts) f
 | [],_,_=>rfl
 | t::ts,j,f=>by
  unfold owE;rw[zy7 d ts];cases t<;>simp only[owL,zsa,ztl,zmj]
theorem qd7:∀(a b:List (Nat×Ev)),eK (a++b)=eK a++eK b
 | [],_=>rfl
 | (e,x)::a,b=>by simp[eK,qd7 a b]
theorem zkg {σ σ1:St}(d:Nat):∀(ts:List T)(j:Nat),zg7 d j ts σ.ev->(∀k∈eK (owL d j ts),zba σ σ1 k)->zg7 d j ts σ1.ev
 | [],_,_,_=>trivial
 | t::ts,j,h,hk=>by
  obtain⟨h1,h2⟩:=h;cases t
  case sl sz rows =>
   refine⟨?_,zkg d ts (j+1) h2 fun k hh=>hk k (by simp[owL,qd7,hh])⟩;have:σ.ev (d*32+j)=σ1.ev (d*32+j):=hk (2,d*32+j) (by simp[owL,qd7,eK]);show σ1.ev (d*32+j)=none
   rw[<-this];exact h1
  case pin=>exact(show False from h1).elim
  all_goals exact⟨trivial,zkg d ts (j+1) h2 fun k hh=>hk k (by simpa[owL]using hh)⟩
theorem zuo (σ:St)(d:Nat)(res:List D):σ.callF d res=(σ.upE (owL d 0 (zbd res))).put (some d) (zlk (zyd d 0 res)):=by
 unfold St.callF St.upE St.put
 simp only[zy7]
theorem zua (σ:St)(d:Option Nat)(res:List D):σ.callR d res=(σ.upE []).put d (zlk (res.map D.toV)):=rfl
theorem zvv {σ σ1:St}{asx:Array Operand}(ts:Array TypeId)(h:∀k∈zaw asx.toList,zba σ σ1 k):σ1.gets P asx ts=σ.gets P asx ts:=by
 unfold St.gets
 refine Kk fun p hp=>?_
 obtain⟨x,t⟩:=p
 exact zcg h (List.of_mem_zip hp).1 t
theorem zfy {x:Operand}{l:List Operand}{k:Ky}(h:k∈zaw l):k∈zaw (x::l):=by
 cases x<;>simp[zaw,h]
section
variable {o:Oper}{σ:St}{x:Operand}{asx:Array Operand}{ts:Array TypeId}{f:FuncId}{cvs:List V}{d:Nat}{ds res:List D}
theorem zo5 (ho:o.op=.call ⟨.value x,asx,ts⟩)(hd:o.dst=some d)
  (h:FC P f ds res) (hc:za1 (σ.get P 0 x)=some (f,cvs)) (hv:VDs σ (σ.gets P asx ts++cvs) ds) (hf:zg7 d 0 (zbd res) σ.ev) :
  zgz P o (zaw (x::asx.toList)++(vsK σ (σ.gets P asx ts++cvs)++eK (owL d 0 (zbd res)))) (dK (some d)++eK (owL d 0 (zbd res))) σ (σ.callF d res):=by
 rw[zuo,<-hd]
 refine zgz.of (zbp (zbz _) (zbp (qk4 _ _) (zyg _))) fun σ1 h1=>?_
 rw[hd,<-zuo]
 have e1:σ1.get P 0 x=σ.get P 0 x:=zcg (l:=x::asx.toList) (fun k hk=>h1 k (by simp[hk])) (by simp) 0
 have e2:σ1.gets P asx ts=σ.gets P asx ts:=zvv ts fun k hk=>h1 k (by simp[zfy hk])
 exact zo4 ho hd h (by rw[e1];exact hc) (by rw[e2];exact hv.loc fun k hk=>h1 k (by simp[hk])) (zkg d _ 0 hf fun k hk=>h1 k (by simp[hk]))
theorem qa9 (ho:o.op=.call ⟨.value x,asx,ts⟩)
  (h:RC P f ds res) (hc:za1 (σ.get P 0 x)=some (f,cvs)) (hv:zrc σ (σ.gets P asx ts++cvs) ds):zgz P o (zaw (x::asx.toList)) (dK o.dst++eK []) σ (σ.callR o.dst res):=by
 rw[zua]
 refine zgz.of (zbz _) fun σ1 h1=>?_
 rw[<-zua]
 have e1:σ1.get P 0 x=σ.get P 0 x:=zcg (l:=x::asx.toList) h1 (by simp) 0
 have e2:σ1.gets P asx ts=σ.gets P asx ts:=zvv ts fun k hk=>h1 k (zfy hk)
 exact qac ho h (by rw[e1];exact hc) (by rw[e2];exact hv.loc)
end
def ql1:Option (FuncId×List V)->List V
 | some p=>p.2
 | none=>[]
section
variable {ks:List Fr}{Q:Exit->St->Prop}{σ:St}{ops:Array Oper}{os:List Oper}{L:List (List Ky×List Ky)}{ty:TypeId}{ps:String}{af:Array Edge}{x:Operand}{asx:Array Operand}{ts:Array TypeId}{f:FuncId}{ds res:List D}
theorem zaj {d:Nat}(h:FC P f ds res)(hp:zav (za1 (σ.get P 0 x)) fun p=>p.1=f/\VDs σ (σ.gets P asx ts++p.2) ds/\zg7 d 0 (zbd res) σ.ev)
  (k:exd P ops os (L++[(zaw (x::asx.toList)++(vsK σ (σ.gets P asx ts++ql1 (za1 (σ.get P 0 x)))++eK (owL d 0 (zbd res))),dK (some d)++eK (owL d 0 (zbd res)))]) ks Q (σ.callF d res)) :
  exd P ops (⟨some d,.call ⟨.value x,asx,ts⟩,ty,ps,af,none⟩::os) L ks Q σ:=by
 obtain⟨⟨f',cvs⟩,h1,rfl,h2,h3⟩:=zar hp
 rw[h1]at k
 exact zgy rfl rfl (zo5 rfl rfl h h1 h2 h3) k
theorem ztx {d:Option Nat}(h:RC P f ds res)(hp:zav (za1 (σ.get P 0 x)) fun p=>p.1=f/\zrc σ (σ.gets P asx ts++p.2) ds)
  (k:exd P ops os (L++[(zaw (x::asx.toList),dK d++[])]) ks Q (σ.callR d res)) :
  exd P ops (⟨d,.call ⟨.value x,asx,ts⟩,ty,ps,af,none⟩::os) L ks Q σ:=by
 obtain⟨⟨f',cvs⟩,h1,rfl,h2⟩:=zar hp
 exact zgy rfl rfl (qa9 rfl h h1 h2) k
end
attribute [go_sem] ql1
attribute [go_sem] c0K zsl bxK bsK cK csK vsK owL eK
end
section
open Go.RowKit
variable {P:Program}
theorem zai.pre {o:Oper}{σ σ' σ'':St}(h:Wk σ σ')(k:zai P o σ' σ''):zai P o σ σ'':=fun n0 N g a w hR hn hd=>by
 obtain⟨g1,r1,r2,r3⟩:=h n0 N g a w hR
 refine zd5 (fun a' w' hh=>?_) (k n0 N g1 a w r1 hn hd)
 obtain⟨g',k1,k2,k3,k4⟩:=hh
 exact⟨g',k1,k2,k3.trans r2,k4.trans r3⟩
def ztm:List (Nat×Ev)->List (Nat×Ev)
 | []=>[]
 | (e,x)::l=>(e,x.off)::ztm l
theorem ztt:∀(l:List (Nat×Ev))(f:Nat->Option Ev),offs l f=zmj (ztm l) f
 | [],_=>rfl
 | (e,x)::l,f=>by unfold offs;rw[ztt l f];rfl
theorem zeg (σ:St)(e:Nat)(cons:List (Nat×Ev))(x:Ev):σ.apd e cons x=σ.upE ((e,x)::ztm cons):=by
 unfold St.apd St.upE
 simp only[ztt];rfl
section
variable {ks:List Fr}{Q:Exit->St->Prop}{σ:St}{ops:Array Oper}{os:List Oper}{L:List (List Ky×List Ky)}{ty:TypeId}{ps:String}{af:Array Edge}{d:Nat}{s y:Operand}{t:TypeId}
theorem get2 {σ1:St}{K:List Ky}(h1:∀k∈zaw [s,y]++K,zba σ σ1 k):σ1.get P t s=σ.get P t s/\σ1.get P t y=σ.get P t y/\∀k∈K,zba σ σ1 k :=
 ⟨zcg (l:=[s,y]) (fun k hk=>h1 k (by simp[hk])) (by simp) t,zcg (l:=[s,y]) (fun k hk=>h1 k (by simp[hk])) (by simp) t,fun k hk=>h1 k (by simp[hk])⟩
theorem dApOO {e e2 gn gn2 sz sz2:Nat}{dp dp2:Bool}{rows rows2:List (List T)}(h:σ.get P t s=.one (.ow e gn)/\σ.get P t y=.one (.ow e2 gn2)/\σ.ev e=some ⟨dp,sz,rows,gn,true⟩/\σ.ev e2=some ⟨dp2,sz2,rows2,gn2,true⟩/\e2≠e/\sz2=sz)(hT:apT P t sz)(hb:rows.length+rows2.length<=4294967296)
  (k:exd P ops os (L++[(zaw [s,y]++[(2,e),(2,e2)],dK (some d)++[(2,e),(2,e2)])]) ks Q ((σ.apd e [(e2,⟨dp2,sz2,rows2,gn2,true⟩)] ⟨dp&&dp2,sz,rows++rows2,gn+1,true⟩).put (some d) (.one (.ow e (gn+1))))):exd P ops (⟨some d,.call ⟨.builtin .append,#[s,y],#[t,t]⟩,ty,ps,af,none⟩::os) L ks Q σ:=by
 refine zgy rfl rfl ?_ k
 rw[zeg]
 refine zgz.of (o:=⟨some d,_,ty,ps,af,none⟩) (R:=zaw [s,y]++[(2,e),(2,e2)]) (l:=(e,_)::ztm [(e2,_)]) (zbp (zbz _) rfl) fun σ1 h1=>?_
 rw[<-zeg]
 obtain⟨k1,k2,k3⟩:=get2 (P:=P) (t:=t) h1
 exact qki ⟨k1.trans h.1,k2.trans h.2.1,(Eq.symm (k3 (2,e) (by simp))).trans h.2.2.1,(Eq.symm (k3 (2,e2) (by simp))).trans h.2.2.2.1,h.2.2.2.2⟩ hT hb
theorem dApOT {e gn sz:Nat}{dp:Bool}{rows rows2:List (List T)}(dp2:Bool)(h:σ.get P t s=.one (.ow e gn)/\(σ.get P t y).rd=.one (.t (.sl sz rows2))/\σ.ev e=some ⟨dp,sz,rows,gn,true⟩)(hf:dp2=true->∀c∈rows2.flatten,c.flat=true)(hT:apT P t sz)(hb:rows.length+rows2.length<=4294967296)
  (k:exd P ops os (L++[(zaw [s,y]++[(2,e)],dK (some d)++[(2,e)])]) ks Q ((σ.apd e [] ⟨dp&&dp2,sz,rows++rows2,gn+1,true⟩).put (some d) (.one (.ow e (gn+1))))):exd P ops (⟨some d,.call ⟨.builtin .append,#[s,y],#[t,t]⟩,ty,ps,af,none⟩::os) L ks Q σ:=by
 refine zgy rfl rfl ?_ k
 rw[zeg]
 refine zgz.of (o:=⟨some d,_,ty,ps,af,none⟩) (R:=zaw [s,y]++[(2,e)]) (l:=(e,_)::ztm []) (zbp (zbz _) rfl) fun σ1 h1=>?_
 rw[<-zeg]
 obtain⟨k1,k2,k3⟩:=get2 (P:=P) (t:=t) h1
 exact qkp dp2 ⟨k1.trans h.1,(congrArg V.rd k2).trans h.2.1,(Eq.symm (k3 (2,e) (by simp))).trans h.2.2⟩ hf hT hb
theorem dApNO {z e2 sz gn2:Nat}{dp2:Bool}{rows2:List (List T)}(h:σ.get P t s=.one (.nl z)/\σ.get P t y=.one (.ow e2 gn2)/\σ.ev (d*32)=none/\σ.ev e2=some ⟨dp2,sz,rows2,gn2,true⟩/\e2≠d*32)(hT:apT P t sz)(hb:rows2.length<=4294967296)
  (k:exd P ops os (L++[(zaw [s,y]++[(2,d*32),(2,e2)],dK (some d)++[(2,d*32),(2,e2)])]) ks Q ((σ.apd (d*32) [(e2,⟨dp2,sz,rows2,gn2,true⟩)] ⟨dp2,sz,rows2,0,true⟩).put (some d) (.one (.ow (d*32) 0)))):exd P ops (⟨some d,.call ⟨.builtin .append,#[s,y],#[t,t]⟩,ty,ps,af,none⟩::os) L ks Q σ:=by
 refine zgy rfl rfl ?_ k
 rw[zeg]
 refine zgz.of (o:=⟨some d,_,ty,ps,af,none⟩) (R:=zaw [s,y]++[(2,d*32),(2,e2)]) (l:=(d*32,_)::ztm [(e2,_)]) (zbp (zbz _) rfl) fun σ1 h1=>?_
 rw[<-zeg]
 obtain⟨k1,k2,k3⟩:=get2 (P:=P) (t:=t) h1
 exact qj6 ⟨k1.trans h.1,k2.trans h.2.1,(Eq.symm (k3 (2,d*32) (by simp))).trans h.2.2.1,(Eq.symm (k3 (2,e2) (by simp))).trans h.2.2.2.1,h.2.2.2.2⟩ hT hb
theorem dApNT {z sz:Nat}{rows2:List (List T)}(dp2:Bool)(h:σ.get P t s=.one (.nl z)/\(σ.get P t y).rd=.one (.t (.sl sz rows2))/\σ.ev (d*32)=none)(hf:dp2=true->∀c∈rows2.flatten,c.flat=true)(hT:apT P t sz)(hb:rows2.length<=4294967296)
  (k:exd P ops os (L++[(zaw [s,y]++[(2,d*32)],dK (some d)++[(2,d*32)])]) ks Q ((σ.apd (d*32) [] ⟨dp2,sz,rows2,0,true⟩).put (some d) (.one (.ow (d*32) 0)))):exd P ops (⟨some d,.call ⟨.builtin .append,#[s,y],#[t,t]⟩,ty,ps,af,none⟩::os) L ks Q σ:=by
 refine zgy rfl rfl ?_ k
 rw[zeg]
 refine zgz.of (o:=⟨some d,_,ty,ps,af,none⟩) (R:=zaw [s,y]++[(2,d*32)]) (l:=(d*32,_)::ztm []) (zbp (zbz _) rfl) fun σ1 h1=>?_
 rw[<-zeg]
 obtain⟨k1,k2,k3⟩:=get2 (P:=P) (t:=t) h1
 exact qk5 dp2 ⟨k1.trans h.1,(congrArg V.rd k2).trans h.2.1,(Eq.symm (k3 (2,d*32) (by simp))).trans h.2.2⟩ hf hT hb
end
end
section
open Go.RowKit
variable {P:Program}
theorem zqv (n:Nat):∀(parts:List (Nat×Value))(k:Nat)(cells:Array Value),(∀(j i:Nat) v,parts[j]?=some (i,v)->i=k+j/\v.cells.size=n)->(k+parts.length)*n<=cells.size →
  ∃cells',Instr.fill (fun i=>some (i*n,n)) cells parts=some cells'/\cells'.toList=cells.toList.take (k*n)++(parts.flatMap fun p=>p.2.cells.toList)++cells.toList.drop ((k+parts.length)*n)
 | [],k,cells,_,_=>⟨cells,rfl,by simp⟩
 | (i,v)::rest,k,cells,h,hl=>by
  obtain⟨hik,hv⟩:=h 0 i v rfl;obtain rfl:k=i:=by omega
  have hl':(k+(rest.length+1))*n<=cells.size:=by simpa using hl
  have e1:(k+(rest.length+1))*n=k*n+n+rest.length*n:=by rw[Kl,Kl,Yk];omega
  have hset:=zm5 cells (k*n) v.cells.toList (by simp only[Je,hv];omega);have hlen:v.cells.toList.length=n:=by simpa using hv
  have hck:(cells.toList.take (k*n)).length=k*n:=by simp;omega
  obtain⟨cells',k1,k2⟩:=zqv n rest (k+1) ((v.cells.toList.toArray.zipIdx).foldl (fun cs (c,j)=>cs.setIfInBounds (k*n+j) c) cells) (fun j i u hu=>by
   have:=h (j+1) i u (by simpa using hu);exact⟨Yt,this.2⟩) (by
   have:(((v.cells.toList.toArray.zipIdx).foldl (fun cs (c,j)=>cs.setIfInBounds (k*n+j) c) cells).toList).length=cells.size:=by
    rw[hset];simp only[Qh,Qo,Kr,Je,hv];omega
   rw[Je]at this
   rw[this,show k+1+rest.length=k+(rest.length+1) by omega];exact hl')
  refine⟨cells',?_,?_⟩
  ·have hcond:¬(v.cells.size≠n||k*n+v.cells.size>cells.size)=true:=by simp[hv];omega
   simp only[Instr.fill,if_neg hcond];simpa using k1
  ·rw[k2,hset];rw[hlen];have e2:(k+1)*n=k*n+n:=by rw[Kl,Yk]
   have e3:(cells.toList.take (k*n)++v.cells.toList++cells.toList.drop (k*n+n)).take ((k+1)*n)=cells.toList.take (k*n)++v.cells.toList:=by
    rw[J6 (by rw[Qh,hck,hlen];omega),Qm (by rw[Qh,hck,hlen];omega)]
   have e4:(cells.toList.take (k*n)++v.cells.toList++cells.toList.drop (k*n+n)).drop ((k+1+rest.length)*n)=cells.toList.drop ((k+(rest.length+1))*n):=by
    have e5:(k+1+rest.length)*n=k*n+n+rest.length*n:=by rw[Kl,Kl,Yk]
    rw[List.drop_append,Q0 (by rw[Qh,hck,hlen];omega),Qh,hck,hlen,List.drop_drop,e5,e1];simp only[Ki]
    congr 1;omega
   rw[e3,e4];simp
theorem qm3 (w:World)(t e:TypeId)(len:Nat)(parts:Array (Nat×Value))(ie:TypeInfo)(z:Value)(hu:P.underlying t=some (.slice e))(hie:P.info? e=some ie)(hz:ie.zero=some z)(hsmall:len*ie.size<=2^24)
  (hl:parts.size=len) (h:∀(j i:Nat) v,parts.toList[j]?=some (i,v)->i=j/\v.cells.size=ie.size) :
  ∃cells,(Instr.buildSlice t len parts).run P w=.ok (.slice (some ⟨w.heap.size,0,none⟩) len len) (w.alloc (.cells cells e))/\cells.toList=parts.toList.flatMap fun p=>p.2.cells.toList:=by
 have hs:¬len*ie.size>2^24:=by omega
 obtain⟨cells,k1,k2⟩:=zqv ie.size parts.toList 0 ((Array.range (len*ie.size)).map ((if len*ie.size=0 then #[]else z.cells)[· % (if len*ie.size=0 then #[]else z.cells).size]!)) (fun j i v hj=>by obtain⟨e1,e2⟩:=h j i v hj;exact⟨Yt,e2⟩) (by simp[hl])
 refine⟨cells,?_,?_⟩
 ·by_cases h0:len*ie.size=0
  ·simp only[h0,if_true]at k1;simp[Instr.buildSlice,run_underlying hu,sizeOf,typeInfo,hie,h0,newRow]at k1⊢;rw[k1];rfl
  ·simp only[h0,if_false]at k1;simp[Instr.buildSlice,run_underlying hu,sizeOf,typeInfo,zeroValue,hie,hz,hs,h0,k1,newRow]
 ·rw[k2];simp[hl]
def zqo (P:Program)(el:TypeId)(n:Nat)(get:TypeId->Operand->V):Nat->List (Nat×Operand)->Option (List (List C))
 | _,[]=>some []
 | k,(i,x)::rest=>if i=k/\(get el x).cells.length=n/\(get el x).cells.all C.good=true/\(get el x).isTup=false then (zqo P el n get (k+1) rest).map ((get el x).cells::·)else none
theorem zp9 {el:TypeId}{n:Nat}{f g:TypeId->Operand->V}:∀{parts:List (Nat×Operand)}{k:Nat},(∀t,∀x∈parts.map (·.2),g t x=f t x)->zqo P el n g k parts=zqo P el n f k parts
 | [],_,_=>rfl
 | (i,x)::rest,k,h=>by
  unfold zqo;rw[h el x (by simp),zp9 fun t y hy=>h t y (by simp at hy⊢;exact Or.inr hy)]
theorem zv2 {n0:Nat->Prop}{N:Nat}{σ:St}{g:Gh}{a:Act}{w:World}(hR:Rel n0 N σ g a w){el:TypeId}{n:Nat}:∀{parts:List (Nat×Operand)}{k:Nat}{rs:List (List C)},zqo P el n (σ.get P) k parts=some rs →
  (∀(j i:Nat) v,(parts.map fun p=>(p.1,a.eval p.2))[j]?=some (i,v)->i=k+j/\v.cells.size=n)/\rs.length=parts.length/\CRs σ g w rs.flatten ((parts.map fun p=>(p.1,a.eval p.2)).flatMap fun p=>p.2.cells.toList)/\∀r∈rs,r.length=n
 | [],k,rs,h=>by cases h;exact⟨by simp,rfl,rfl,by simp⟩
 | (i,x)::rest,k,rs,h=>by
  unfold zqo at h;split at h
  ·rename_i hh;obtain⟨h1,h2,h3,h4⟩:=hh;obtain⟨rs',h5,rfl⟩:=Q3.1 h;obtain⟨k1,k2,k3,k4⟩:=zv2 hR h5;obtain⟨c1,c2⟩:=hR.vcells el x h3 h4;refine⟨fun j i' v hj=>?_,by simp[k2],?_,fun r hr=>?_⟩
   ·cases j with
    | zero =>
     simp only[Qi,List.getElem?_cons_zero,Qf,Qp]at hj;obtain⟨rfl,rfl⟩:=hj;exact⟨Yt,by rw[<-h2,<-c1.len];simp⟩
    | succ j =>
     have:=k1 j i' v (by simpa using hj);exact⟨Yt,this.2⟩
   ·rw[Q4,Qi,Ji];exact c1.append k3
   ·rcases Qu.1 hr with rfl|hr
    ·exact h2
    ·exact k4 r hr
  ·cases h
def dpC (σ:St):C->Option (T×List (Nat×Ev))
 | .t x=>if x.flat=true then some (x,[])else none
 | .nl s=>some (.sl s [],[])
 | .ow e g=>(σ.ev e).bind fun x=>if x.gen=g/\x.on=true/\x.deep=true then some (.sl x.sz x.rows,[(e,x)])else none
 | _=>none
def zrb (σ:St):List C->Option (List T×List (Nat×Ev))
 | []=>some ([],[])
 | c::cs=>(dpC σ c).bind fun p=>(zrb σ cs).map fun q=>(p.1::q.1,p.2++q.2)
def zyo (σ:St):List (List C)->Option (List (List T)×List (Nat×Ev))
 | []=>some ([],[])
 | r::rs=>(zrb σ r).bind fun p=>(zyo σ rs).map fun q=>(p.1::q.1,p.2++q.2)
def fpL (g:Gh)(l:List (Nat×Ev)):List Nat:=l.flatMap fun p=>g.φ p.1
section
variable {n0:Nat->Prop}{N:Nat}{σ:St}{g:Gh}{a:Act}{w:World}(hR:Rel n0 N σ g a w)
include hR
theorem qn4 {c:C}{v:Value}{t:T}{l:List (Nat×Ev)}(hv:CR σ g w c v)(h:dpC σ c=some (t,l)):za3 w t v (fpL g l)/\∀p∈l,σ.ev p.1=some p.2/\p.2.on=true:=by
 cases c with
 | t x =>
  simp only[dpC]at h;split at h
  ·rename_i hf;simp only[Qf,Qp]at h;obtain⟨rfl,rfl⟩:=h;refine⟨?_,by simp⟩;cases x<;>simp only[T.flat,Qn]at hf<;>simp only[CR,zas]at hv<;>unfold za3
   ·exact⟨hv.1,hv.2.1,hv.2.2,rfl⟩
   ·exact⟨hv,rfl⟩
   ·exact⟨hv.1,hv.2,rfl⟩
   ·exact⟨hv,rfl⟩
  ·cases h
 | nl s =>
  cases h;refine⟨?_,by simp⟩;unfold za3;exact⟨none,0,hv,by simp,by simp,Or.inl ⟨rfl,rfl,rfl,rfl⟩⟩
 | ow e n =>
  simp only[dpC]at h;obtain⟨x,hx,h'⟩:=Qg.1 h;clear h;by_cases hh:x.gen=n/\x.on=true/\x.deep=true
  ·rw[if_pos hh]at h';obtain⟨rfl,ho,hd⟩:=hh;cases h';refine⟨?_,fun p hp=>by simp only[Qu,Jg,or_false]at hp;subst hp;exact⟨hx,ho⟩⟩;have hE:=hR.evs e x hx ho;rw[hv.1];unfold za3;obtain⟨ao,cap,e1,e2,e3,e4⟩:=hE;refine⟨ao,cap,e1,e2,e3,?_⟩;simp only[fpL,Ji,List.flatMap_nil,Kj];rcases e4 with e4|⟨b,cells,ty,fps,k1,k2,k3,k4,k5⟩
   ·exact Or.inl e4
   ·rw[if_pos hd]at k5;exact Or.inr ⟨b,cells,ty,fps,k1,k2,k3,k4,k5⟩
  ·rw[if_neg hh]at h';cases h'
 | bx b o=>cases h
 | el cs o=>cases h
 | er cs o=>cases h
 | eo e s sz i o=>cases h
 | vw e s sz o=>cases h
 | fn f caps=>cases h
 | cv v=>cases h
 | any=>cases h
 | rn x=>cases h
theorem zj6:∀{cs:List C}{vs:List Value}{ts:List T}{l:List (Nat×Ev)},CRs σ g w cs vs->zrb σ cs=some (ts,l)->za7 w ts vs (fpL g l)/\(∀p∈l,σ.ev p.1=some p.2/\p.2.on=true)/\ts.length=cs.length
 | [],vs,ts,l,hv,h=>by
  cases h;exact⟨⟨hv,rfl⟩,by simp,rfl⟩
 | c::cs,vs,ts,l,hv,h=>by
  obtain⟨v,vs',rfl,h1,h2⟩:=hv;unfold zrb at h;obtain⟨p,e1,h⟩:=Qg.1 h;obtain⟨q,e2,h⟩:=Q3.1 h;obtain⟨p1,p2⟩:=p;obtain⟨q1,q2⟩:=q;simp only[Qp]at h;obtain⟨rfl,rfl⟩:=h;obtain⟨k1,k2⟩:=qn4 hR h1 e1;obtain⟨j1,j2,j3⟩:=zj6 h2 e2;refine⟨⟨v,vs',_,_,rfl,by simp[fpL],k1,j1⟩,fun p hp=>?_,by simp[j3]⟩;rcases Qv.1 hp with hp|hp
  ·exact k2 p hp
  ·exact j2 p hp
theorem zt0:∀{rs:List (List C)}{vs:List Value}{rows:List (List T)}{l:List (Nat×Ev)},CRs σ g w rs.flatten vs->zyo σ rs=some (rows,l)->za7 w rows.flatten vs (fpL g l)/\(∀p∈l,σ.ev p.1=some p.2/\p.2.on=true)/\(rows.map List.length)=rs.map List.length
 | [],vs,rows,l,hv,h=>by
  cases h;exact⟨⟨hv,rfl⟩,by simp,rfl⟩
 | r::rs,vs,rows,l,hv,h=>by
  rw[Q4]at hv;obtain⟨v1,v2,rfl,h1,h2⟩:=hv.split;unfold zyo at h;obtain⟨p,e1,h⟩:=Qg.1 h;obtain⟨q,e2,h⟩:=Q3.1 h;obtain⟨p1,p2⟩:=p;obtain⟨q1,q2⟩:=q;simp only[Qp]at h;obtain⟨rfl,rfl⟩:=h;obtain⟨k1,k2,k3⟩:=zj6 hR h1 e1;obtain⟨j1,j2,j3⟩:=zt0 h2 e2;refine⟨by rw[Q4,show fpL g (p2++q2)=fpL g p2++fpL g q2 by simp[fpL]];exact k1.append j1,fun p hp=>?_,by simp[j3,k3]⟩;rcases Qv.1 hp with hp|hp
  ·exact k2 p hp
  ·exact j2 p hp
theorem zkv:∀{l:List (Nat×Ev)},(∀p∈l,σ.ev p.1=some p.2/\p.2.on=true)->(l.map (·.1)).Nodup->(fpL g l).Nodup
 | [],_,_=>Kf
 | p::l,h,hn=>by
  have hO:∀q∈p::l,σ.On q.1:=fun q hq=>⟨q.2,h q hq⟩;rw[Qi,Ja]at hn;show(g.φ p.1++fpL g l).Nodup
  refine Ka.2 ⟨hR.nodup p.1 (hO p (by simp)),zkv (fun q hq=>h q (by simp[hq])) hn.2,fun b hb c hc hbc=>?_⟩;subst hbc;unfold fpL at hc;obtain⟨q,hq,hbq⟩:=Jt.1 hc;have hne:p.1≠q.1:=fun e=>hn.1 (by rw[e];exact Kn.2 ⟨q,hq,rfl⟩);exact hR.apart p.1 q.1 (hO p (by simp)) (hO q (by simp[hq])) hne b hb hbq
end
def shC (σ:St):C->Option T
 | .t x=>some x
 | .rn x=>some x
 | .nl s=>some (.sl s [])
 | .el cs 0=>some (.ptr cs)
 | .er cs 0=>some (.ptr cs)
 | .fn f []=>some (.fn f [])
 | .ow e g=>(σ.ev e).bind fun x=>if x.gen=g/\x.on=false then some (.sl x.sz x.rows)else none
 | _=>none
def qkx (σ:St):List C->Option (List T)
 | []=>some []
 | c::cs=>(shC σ c).bind fun t=>(qkx σ cs).map (t::·)
def zym (σ:St):List (List C)->Option (List (List T))
 | []=>some []
 | r::rs=>(qkx σ r).bind fun t=>(zym σ rs).map (t::·)
section
variable {n0:Nat->Prop}{N:Nat}{σ:St}{g:Gh}{a:Act}{w:World}(hR:Rel n0 N σ g a w)
include hR
theorem qmq {c:C}{v:Value}{t:T}(hv:CR σ g w c v)(h:shC σ c=some t):zas w (Fix σ g w) t v:=by
 unfold shC at h
 split at h
 ·cases h;exact hv
 ·cases h;exact zas.keep (fun _ _=>rfl) (fun _ hb=>hb.1) _ v hv
 ·cases h;unfold zas;exact⟨none,0,hv,by simp,by simp,Or.inl rfl⟩
 ·cases h;obtain⟨b,q,h1,h2,h3⟩:=hv;unfold zas;exact⟨b,q,h1,h2,h3⟩
 ·cases h;obtain⟨b,q,h1,h2,h3⟩:=hv;unfold zas;exact⟨b,q,h1,h2.1,zbj.keep (fun _ _=>rfl) (fun _ hb=>hb.1) b rfl q _ h3⟩
 ·cases h;unfold zas;exact⟨[],hv.1,by unfold zah;rfl⟩
 ·obtain⟨x,hx,h'⟩:=Qg.1 h;clear h;split at h'
  ·rename_i hh;cases h';have:=(hR.offs _ x hx hh.2).1;rw[hh.1]at this;rw[hv.1];exact this
  ·cases h'
 ·cases h
theorem zud:∀{cs:List C}{vs:List Value}{ts:List T},CRs σ g w cs vs->qkx σ cs=some ts->zah w (Fix σ g w) ts vs/\ts.length=cs.length
 | [],vs,ts,hv,h=>by cases h;unfold zah;exact⟨hv,rfl⟩
 | c::cs,vs,ts,hv,h=>by
  obtain⟨v,vs',rfl,h1,h2⟩:=hv;unfold qkx at h;obtain⟨p,e1,h⟩:=Qg.1 h;obtain⟨q,e2,rfl⟩:=Q3.1 h;obtain⟨j1,j2⟩:=zud h2 e2;unfold zah;exact⟨⟨v,vs',rfl,qmq hR h1 e1,j1⟩,by simp[j2]⟩
theorem zvp:∀{rs:List (List C)}{vs:List Value}{rows:List (List T)},CRs σ g w rs.flatten vs->zym σ rs=some rows->zah w (Fix σ g w) rows.flatten vs/\(rows.map List.length)=rs.map List.length
 | [],vs,rows,hv,h=>by cases h;exact⟨by unfold zah;exact hv,rfl⟩
 | r::rs,vs,rows,hv,h=>by
  rw[Q4]at hv;obtain⟨v1,v2,rfl,h1,h2⟩:=hv.split;unfold zym at h;obtain⟨p,e1,h⟩:=Qg.1 h;obtain⟨q,e2,rfl⟩:=Q3.1 h;obtain⟨k1,k2⟩:=zud hR h1 e1;obtain⟨j1,j2⟩:=zvp h2 e2;exact⟨by rw[Q4];exact k1.append j1,by simp[k2,j2]⟩
end
theorem qeq {rows:List (List T)}{rs:List (List C)}{n:Nat}(h:rows.map List.length=rs.map List.length)(hr:∀r∈rs,r.length=n):lens n rows:=fun r hr'=>by
 have:r.length∈rows.map List.length:=Kn.2 ⟨r,hr',rfl⟩
 rw[h]at this
 obtain⟨r',h1,h2⟩:=Kn.1 this
 rw[<-h2];exact hr r' h1
def zox (P:Program)(get:TypeId->Operand->V)(t:TypeId)(len:Nat)(parts:Array (Nat×Operand)):Option (Nat×List (List C)) :=
 (elT P t).bind fun el=>(zbt P el).bind fun n=>(zcz P el).bind fun _=>if parts.size=len/\len*n<=16777216/\len<=16777216 then (zqo P el n get 0 parts.toList).map fun rs=>(n,rs)else none
theorem zwg {σ:St}{t:TypeId}{len n:Nat}{parts:Array (Nat×Operand)}{rs:List (List C)}(h:zox P (σ.get P) t len parts=some (n,rs)){n0:Nat->Prop}{N:Nat}{g:Gh}{a:Act}{w:World}(hR:Rel n0 N σ g a w) :
  ∃(cells:Array Value) (el:TypeId),(Instr.buildSlice t len (parts.map fun(i,x)=>(i,a.eval x))).run P w=.ok (.slice (some ⟨w.heap.size,0,none⟩) len len) (w.alloc (.cells cells el))/\CRs σ g w rs.flatten cells.toList/\rs.length=len/\(∀r∈rs,r.length=n)/\cells.size=len*n/\len<=16777216:=by
 unfold zox at h
 obtain⟨el,h1,h⟩:=Qg.1 h
 obtain⟨n',h2,h⟩:=Qg.1 h
 obtain⟨z,h3,h⟩:=Qg.1 h
 split at h
 ·rename_i hh;obtain⟨rs',h4,h⟩:=Q3.1 h;simp only[Qp]at h;obtain⟨rfl,rfl⟩:=h;obtain⟨i,zv,i1,i2,_⟩:=zhx h3;have hin:i.size=n':=by unfold zbt at h2;rw[i1]at h2;simpa using h2
  obtain⟨k1,k2,k3,k4⟩:=zv2 hR h4;have hpl:(parts.map fun(i,x)=>(i,a.eval x)).toList=parts.toList.map fun p=>(p.1,a.eval p.2):=by simp
  obtain⟨cells,c1,c2⟩:=qm3 (P:=P) w t el len (parts.map fun(i,x)=>(i,a.eval x)) i zv (zic h1) i1 i2 (by rw[hin];simpa using hh.2.1) (by simp[hh.1]) (fun j i' v hj=>by
   rw[hpl]at hj;have:=k1 j i' v hj
   exact⟨Yt,by rw[hin];exact this.2⟩)
  rw[hpl]at c2;rw[<-c2]at k3;refine⟨cells,el,c1,k3,by rw[k2];simpa using hh.1,k4,?_,hh.2.2⟩;have hl:=k3.len;rw[Je]at hl;rw[hl];have:∀l:List (List C),(∀r∈l,r.length=n')->l.flatten.length=l.length*n':=by
   intro l;induction l with
   | nil=>intro _;simp
   | cons r l ih=>intro hr;simp[hr r (by simp),ih fun x hx=>hr x (by simp[hx]),Kl];omega
  rw[this rs' k4,k2]
  congr 1
  simpa using hh.1
 ·cases h
section
variable {ty:TypeId}{ps:String}{af:Array Edge}{d:Nat}{σ:St}{t:TypeId}{len n:Nat}{parts:Array (Nat×Operand)}{rs:List (List C)}{rows:List (List T)}{cons:List (Nat×Ev)}
theorem zu1 (h:zox P (σ.get P) t len parts=some (n,rs)/\zyo σ rs=some (rows,cons)/\σ.ev (d*32)=none/\(cons.map (·.1)).Nodup) :
  zai P ⟨some d,.buildSlice t len parts,ty,ps,af,none⟩ σ ((σ.apd (d*32) cons ⟨true,n,rows,0,true⟩).put (some d) (.one (.ow (d*32) 0))):=by
 intro n0 N g a w hR hn hdN
 obtain⟨h1,h2,h3,h4⟩:=h
 obtain⟨cells,el,c1,c2,c3,c4,c5,c6⟩:=zwg h1 hR
 obtain⟨o1,o2,o3⟩:=zt0 hR c2 h2
 have hlen:rows.length=len:=by rw[<-c3];simpa using congrArg List.length o3
 have hl:=qeq o3 c4
 have hvl:=o1.len
 have hfl:rows.flatten.length=len*n:=by rw[zk7 hl,hlen]
 obtain⟨g',r1,r2,r3,r4⟩:=hR.newown hn (e:=d*32) h3 (cons:=cons) (fun p hp=>⟨(o2 p hp).1,(o2 p hp).2,fun e=>by have:=(o2 p hp).1;rw[e,h3]at this;cases this⟩) (sz:=n) (rows:=rows) (vs:=cells.toList) hl (dp:=true) (by simp) (fun _=>o1) (by simp) (zkv hR o2 h4) (fun b hb=>by
  unfold fpL at hb;obtain⟨p,hp,hbp⟩:=Jt.1 hb
  exact⟨p,hp,hbp⟩) cells el len (by rw[c5]) Yt (by unfold zf0;omega) (Qm (by rw[hlen,Je,c5];omega))
 rw[hlen]at r2
 have hrun:(execOp a.eval ⟨some d,.buildSlice t len parts,ty,ps,af,none⟩).run P w=.ok (.value (.slice (some ⟨w.heap.size,0,none⟩) len len)) (w.alloc (.cells cells el)):=by
  unfold execOp;simp only[Sem.run_bind,c1,Result.andThen_ok,Sem.run_pure]
 unfold Oper.wp
 rw[hrun]
 refine⟨g',r1.put (some d) (x:=.one (.ow (d*32) 0)) ⟨r2,⟨true,n,rows,0,true⟩,by simp[St.apd,zag],Qw _⟩ hdN,?_,r3,r4⟩
 exact⟨rfl,rfl,rfl,by simp,fun k hk=>Below.heap_alloc w _ k (hn k hk)⟩
theorem ztz (h:zox P (σ.get P) t len parts=some (n,rs)/\zym σ rs=some rows/\σ.ev (d*32)=none) :
  zai P ⟨some d,.buildSlice t len parts,ty,ps,af,none⟩ σ ((σ.apd (d*32) [] ⟨false,n,rows,0,true⟩).put (some d) (.one (.ow (d*32) 0))):=by
 intro n0 N g a w hR hn hdN
 obtain⟨h1,h2,h3⟩:=h
 obtain⟨cells,el,c1,c2,c3,c4,c5,c6⟩:=zwg h1 hR
 obtain⟨o1,o3⟩:=zvp hR c2 h2
 have hlen:rows.length=len:=by rw[<-c3];simpa using congrArg List.length o3
 have hl:=qeq o3 c4
 obtain⟨g',r1,r2,r3,r4⟩:=hR.newown hn (e:=d*32) h3 (cons:=[]) (by simp) (sz:=n) (rows:=rows) (vs:=cells.toList) hl (dp:=false) (fun _=>o1) (by simp) (fun _=>rfl) Kf (by simp) cells el len (by rw[c5]) Yt (by unfold zf0;omega) (Qm (by rw[hlen,Je,c5];omega))
 rw[hlen]at r2
 have hrun:(execOp a.eval ⟨some d,.buildSlice t len parts,ty,ps,af,none⟩).run P w=.ok (.value (.slice (some ⟨w.heap.size,0,none⟩) len len)) (w.alloc (.cells cells el)):=by
  unfold execOp;simp only[Sem.run_bind,c1,Result.andThen_ok,Sem.run_pure]
 unfold Oper.wp
 rw[hrun]
 refine⟨g',r1.put (some d) (x:=.one (.ow (d*32) 0)) ⟨r2,⟨false,n,rows,0,true⟩,by simp[St.apd,zag],Qw _⟩ hdN,?_,r3,r4⟩
 exact⟨rfl,rfl,rfl,by simp,fun k hk=>Below.heap_alloc w _ k (hn k hk)⟩
variable {ks:List Fr}{Q:Exit->St->Prop}{ops:Array Oper}{os:List Oper}{L:List (List Ky×List Ky)}
def rK:List (List C)->List Ky
 | []=>[]
 | r::rs=>zsl r++rK rs
theorem qd6:∀rs,okK (rK rs)=true
 | []=>rfl
 | r::rs=>zbp (zr5 r) (qd6 rs)
theorem qnb {σ1:St}{c:C}(h:∀k∈c0K c,zba σ σ1 k):dpC σ1 c=dpC σ c:=by
 cases c with
 | ow e g=>simp only[dpC];rw[show σ1.ev e=σ.ev e from Eq.symm (h (2,e) (by simp[c0K]))]
 | _=>rfl
theorem zjw {σ1:St}:∀{cs:List C},(∀k∈zsl cs,zba σ σ1 k)->zrb σ1 cs=zrb σ cs
 | [],_=>rfl
 | c::cs,h=>by unfold zrb;rw[qnb fun k hk=>h k (by simp[zsl,hk]),zjw fun k hk=>h k (by simp[zsl,hk])]
theorem zv7 {σ1:St}:∀{rs:List (List C)},(∀k∈rK rs,zba σ σ1 k)->zyo σ1 rs=zyo σ rs
 | [],_=>rfl
 | r::rs,h=>by unfold zyo;rw[zjw fun k hk=>h k (by simp[rK,hk]),zv7 fun k hk=>h k (by simp[rK,hk])]
theorem qn9 {σ1:St}{c:C}(h:∀k∈c0K c,zba σ σ1 k):shC σ1 c=shC σ c:=by
 cases c with
 | ow e g=>simp only[shC];rw[show σ1.ev e=σ.ev e from Eq.symm (h (2,e) (by simp[c0K]))]
 | el cs o=>cases o<;>rfl
 | er cs o=>cases o<;>rfl
 | fn f caps=>cases caps<;>rfl
 | _=>rfl
theorem zwh {σ1:St}:∀{cs:List C},(∀k∈zsl cs,zba σ σ1 k)->qkx σ1 cs=qkx σ cs
 | [],_=>rfl
 | c::cs,h=>by unfold qkx;rw[qn9 fun k hk=>h k (by simp[zsl,hk]),zwh fun k hk=>h k (by simp[zsl,hk])]
theorem zu2 {σ1:St}:∀{rs:List (List C)},(∀k∈rK rs,zba σ σ1 k)->zym σ1 rs=zym σ rs
 | [],_=>rfl
 | r::rs,h=>by unfold zym;rw[zwh fun k hk=>h k (by simp[rK,hk]),zu2 fun k hk=>h k (by simp[rK,hk])]
theorem ztr {f g:TypeId->Operand->V}(h:∀t,∀x∈parts.toList.map (·.2),g t x=f t x):zox P g t len parts=zox P f t len parts:=by
 unfold zox
 congr 1;funext el;congr 1;funext n;congr 1;funext z
 rw[zp9 h]
theorem qol (h:zox P (σ.get P) t len parts=some (n,rs)/\zyo σ rs=some (rows,cons)/\σ.ev (d*32)=none/\(cons.map (·.1)).Nodup)
  (k:exd P ops os (L++[(zaw (parts.toList.map (·.2))++(rK rs++[(2,d*32)]),dK (some d)++eK ((d*32,⟨true,n,rows,0,true⟩)::ztm cons))]) ks Q ((σ.apd (d*32) cons ⟨true,n,rows,0,true⟩).put (some d) (.one (.ow (d*32) 0)))) :
  exd P ops (⟨some d,.buildSlice t len parts,ty,ps,af,none⟩::os) L ks Q σ:=by
 refine zgy rfl rfl ?_ k
 rw[zeg]
 refine zgz.of (o:=⟨some d,_,ty,ps,af,none⟩) (R:=zaw (parts.toList.map (·.2))++(rK rs++[(2,d*32)])) (zbp (zbz _) (zbp (qd6 _) rfl)) fun σ1 h1=>?_
 rw[<-zeg]
 have e1:zox P (σ1.get P) t len parts=zox P (σ.get P) t len parts:=ztr fun t x hx=>zcg (fun k hk=>h1 k (by simp[hk])) hx t
 have e2:zyo σ1 rs=zyo σ rs:=zv7 fun k hk=>h1 k (by simp[hk])
 exact zu1 ⟨e1.trans h.1,e2.trans h.2.1,(Eq.symm (h1 (2,d*32) (by simp))).trans h.2.2.1,h.2.2.2⟩
end
attribute [go_sem] rK ztm St.apd offs Ev.off St.upE zmj
end
section
open Go.RowKit
variable {P:Program}
def zec (rows:List (List T))(i o:Nat)(ts:List T):List (List T):=rows.set i (setR (rows.getD i []) o ts)
theorem zpk (rows:List (List T))(i o:Nat)(ts:List T):(zec rows i o ts).length=rows.length:=by simp[zec]
theorem qbi {α:Type}(r ts:List α)(h:ts.length=r.length):setR r 0 ts=ts:=by
 simp[setR,h]
theorem zxa {α:Type}(r fl ts:List α)(q:Nat):setR (r++fl) (r.length+q) ts=r++setR fl q ts:=by
 unfold setR
 rw[List.take_length_add_append,Yg,List.drop_length_add_append]
 simp
theorem zl4 {sz:Nat}:∀{rows:List (List T)}{i o:Nat}{ts:List T},lens sz rows->i<rows.length->o+ts.length<=sz->(zec rows i o ts).flatten=setR rows.flatten (i*sz+o) ts/\lens sz (zec rows i o ts)
 | [],i,o,ts,_,hi,_=>by simp at hi
 | r::rows,0,o,ts,hl,_,ho=>by
  have hr:=hl r (by simp);refine⟨?_,fun x hx=>?_⟩
  ·simp only[zec,List.set_cons_zero,List.getD_cons_zero,Q4,setR,Nat.zero_mul,Q2];rw[J6 Yt,List.drop_append_of_le_length Yt];simp
  ·simp only[zec,List.set_cons_zero,List.getD_cons_zero,Qu]at hx;rcases hx with rfl|hx
   ·rw[qha _ _ _ Yt];exact hr
   ·exact hl x (by simp[hx])
 | r::rows,i+1,o,ts,hl,hi,ho=>by
  have hr:=hl r (by simp);obtain⟨k1,k2⟩:=zl4 (rows:=rows) (i:=i) (o:=o) (ts:=ts) (fun x hx=>hl x (by simp[hx])) (by simpa using hi) ho;refine⟨?_,fun x hx=>?_⟩
  ·have e:zec (r::rows) (i+1) o ts=r::zec rows i o ts:=by simp[zec]
   have e2:(i+1)*sz+o=r.length+(i*sz+o):=by rw[hr,Kl,Yk];omega
   rw[e,Q4,k1,Q4,e2,zxa]
  ·have e:zec (r::rows) (i+1) o ts=r::zec rows i o ts:=by simp[zec]
   rw[e]at hx;rcases Qu.1 hx with rfl|hx
   ·exact hr
   ·exact k2 x hx
theorem qic {ds:Option Nat}{ty:TypeId}{ps:String}{af:Array Edge}{σ:St}{t:TypeId}{x y:Operand}{e gn sz i o n:Nat}{rows:List (List T)}{ts:List T}{cons:List (Nat×Ev)}
  (hx:σ.get P 0 x=.one (.eo e gn sz i o)) (hn:zbt P t=some n) (he:σ.ev e=some ⟨true,sz,rows,gn,true⟩) (hl:(σ.get P t y).cells.length=n) (hle:o+n<=sz) (hg:(σ.get P t y).cells.all C.good=true) (hy:(σ.get P t y).isTup=false)
  (hd:zrb σ (σ.get P t y).cells=some (ts,cons)) (hnd:(cons.map (·.1)).Nodup) (hne:∀p∈cons,p.1≠e) :
  zai P ⟨ds,.store t x y,ty,ps,af,none⟩ σ ((σ.apd e cons ⟨true,sz,zec rows i o ts,gn,true⟩).put ds (.one .any)):=by
 intro n0 N g a w hR hn0 hdN
 have hv:=hR.get P 0 x
 rw[hx]at hv
 obtain⟨b,nn,cp,v1,v2,v3,v4⟩:=hv
 obtain⟨vs0,fps,top,hT⟩:=hR.tgt he rfl
 rcases hT.val with⟨hh,_⟩|⟨b',cap,cells,cty,w1,w2,w3,w4,w5,w6,w7⟩
 ·simp only at hh;rw[v1]at hh;cases hh
 simp only at w1 w2 w5 w6
 rw[v1]at w1
 injection w1 with e1 e2 e3
 simp only[Qf,Addr.mk.injEq,and_true]at e1
 subst e1 e2 e3
 obtain⟨c1,c2⟩:=hR.vcells t y hg hy
 obtain⟨o1,o2,o3⟩:=zj6 hR c1 hd
 have hnews:(a.eval y).cells.toList.length=n:=by rw[c1.len];exact hl
 have hts:ts.length=n:=by rw[o3];exact hl
 have hlens:=hT.lens
 simp only at hlens
 obtain⟨q1,q2⟩:=zl4 (o:=o) (ts:=ts) hlens v3 (by rw[hts];exact hle)
 have hflat:=zk7 hlens
 have hq:i*sz+o+n<=rows.length*sz:=by
  have:(i+1)*sz<=rows.length*sz:=Jc _ v3;rw[Kl,Yk]at this;omega
 generalize hqq:i*sz+o=q at *
 have hsplit:rows.flatten=rows.flatten.take q++((rows.flatten.drop q).take n++rows.flatten.drop (q+n)):=by
  rw[<-List.drop_drop,K0,K0]
 have hown:=hT.own rfl
 simp only at hown
 rw[hsplit]at hown
 obtain⟨u1,u',f1,f',rfl,rfl,k1,k'⟩:=hown.split
 obtain⟨u2,u3,f2,f3,rfl,rfl,k2,k3⟩:=k'.split
 have l1:u1.length=q:=by rw[k1.len,Qo];omega
 have l2:u2.length=n:=by rw[k2.len,Qo,Kr];omega
 obtain⟨rest,hrest⟩:∃rest,cells.toList=u1++(u2++u3)++rest:=⟨cells.toList.drop (rows.length*sz),by rw[<-w6,K0]⟩
 have hcsz:q+n<=cells.size:=by
  have:=congrArg List.length hrest;simp only[Qh,Je]at this;omega
 have hnew:cells.toList.take q++(a.eval y).cells.toList++cells.toList.drop (q+(a.eval y).cells.toList.length)=u1++((a.eval y).cells.toList++(u3++rest)):=by
  rw[hnews,hrest,<-l1,<-l2];simp[List.drop_append]
 have hrun:(execOp a.eval ⟨ds,.store t x y,ty,ps,af,none⟩).run P w=.ok .skip (w.setRow b (u1++((a.eval y).cells.toList++(u3++rest))).toArray):=by
  have hst:=run_storeCells_at P b q cty (a.eval y).cells.toList 0 cells w w4 (by rw[hnews];omega) c2;simp only[J9]at hst;rw[hnew]at hst;have hcs:(a.eval y).cells.size=n:=by simpa using hnews
  unfold execOp;simp only[Instr.storeAt,v2,Instr.sureAddr,Sem.run_bind,Sem.run_pure,Result.andThen,storeVar,zcm hn,hcs,ne_eq,not_true,if_false,hst]
 unfold Oper.wp
 rw[hrun]
 have hcO:∀p∈cons,σ.On p.1:=fun p hp=>⟨p.2,o2 p hp⟩
 have hfpm:∀c∈fpL g cons,∃p∈cons,c∈g.φ p.1:=fun c hc=>by
  unfold fpL at hc;obtain⟨p,hp,hbp⟩:=Jt.1 hc;exact⟨p,hp,hbp⟩
 have hmix:∀c,(some c=top\/c∈f1++(f2++f3))->c∉fpL g cons:=fun c hc hm=>by
  obtain⟨p,hp,hcp⟩:=hfpm c hm;exact(hT.bx c hc).2.2.2 p.1 (hne p hp) (hcO p hp) hcp
 have hb0:b∉f1++(f2++f3):=hT.topfp b w7.symm
 have hnodup:(b::(f1++(fpL g cons++f3))).Nodup:=by
  have h0:=hT.nodup;obtain⟨d1,d2,d3⟩:=Ka.1 h0;obtain⟨d4,d5,d6⟩:=Ka.1 d2;refine Ja.2 ⟨fun hm=>?_,Ka.2 ⟨d1,Ka.2 ⟨zkv hR o2 hnd,d5,fun c hc d hd hcd=>?_⟩,fun c hc d hd hcd=>?_⟩⟩
  ·simp only[Qv,not_or]at hm hb0;rcases hm with hm|hm|hm
   ·exact hb0.1 hm
   ·exact hmix b (Or.inl w7.symm) hm
   ·exact hb0.2.2 hm
  ·subst hcd;exact hmix c (Or.inr (by simp[hd])) hc
  ·subst hcd;rcases Qv.1 hd with hd|hd
   ·exact hmix c (Or.inr (by simp[hc])) hd
   ·exact d3 c hc c (by simp[hd]) rfl
 have hsame:∀k,k≠b->(w.setRow b (u1++((a.eval y).cells.toList++(u3++rest))).toArray).heap[k]?=w.heap[k]?:=fun k hk=>setRow_other w _ k _ hk
 have hblk:=setRow_heap w b cells (u1++((a.eval y).cells.toList++(u3++rest))).toArray cty (0,0) w4
 have hsize:(w.setRow b (u1++((a.eval y).cells.toList++(u3++rest))).toArray).heap.size=w.heap.size:=setRow_size _ _ _
 have hbk:Bk n0 w (w.setRow b (u1++((a.eval y).cells.toList++(u3++rest))).toArray):=⟨rfl,rfl,rfl,Nat.le_of_eq hsize.symm,fun k hk=>hsame k fun e'=>(hT.bx b (Or.inl w7.symm)).2.1.2.2 (e'▸hk)⟩
 generalize w.setRow b (u1++((a.eval y).cells.toList++(u3++rest))).toArray=w' at hsame hblk hsize hbk⊢
 have hR':=hR.apd_fin (w':=w') (y:=⟨true,sz,zec rows i o ts,gn,true⟩) (v':=g.ψ e gn) (fp':=b::(f1++(fpL g cons++f3))) (fps2:=fpL g cons) hT rfl (fun m hm=>⟨by
   obtain⟨z,hz,hmz⟩:=hm;rw[he,Qf]at hz;subst hz
   exact hmz,fun em=>by simp only at em;rw[em]⟩) (cons:=cons) (fun p hp=>⟨(o2 p hp).1,(o2 p hp).2,hne p hp⟩) hfpm b (Or.inl w7.symm) (fun k _ hk=>hsame k hk) (Nat.le_of_eq hsize.symm) hn0 hnodup (fun c hc=>by
   simp only[Qu,Qv]at hc⊢
   rcases hc with h|h|h|h<;>simp[h]) (fun c hc=>by simpa using hc.symm) fun A' hA=>by
  refine⟨some ⟨b,0,none⟩,cp,by rw[zpk];exact v1,by rw[zpk];exact w2,w3,Or.inr ⟨b,_,cty,_,rfl,rfl,hblk,?_,?_⟩⟩
  ·have:=congrArg List.length hrest;simp only[Qh,Je]at this;simp only[List.size_toArray,Qh,hnews];omega
  ·simp only[if_true];have ha:za7 w' (zec rows i o ts).flatten (u1++((a.eval y).cells.toList++u3)) (f1++(fpL g cons++f3)):=by
    rw[q1];unfold setR;rw[hts,Km];refine(k1.append (o1.append k3)).keep fun c hc=>hsame c fun hcb=>?_;subst hcb;exact(Ja.1 hnodup).1 hc
   refine zao.of_vals q2 ha fun j u hu=>?_;rw[Q2];have:(u1++((a.eval y).cells.toList++(u3++rest)))=(u1++((a.eval y).cells.toList++u3))++rest:=by simp
   rw[this];simp only[List.getElem?_toArray];rw[List.getElem?_append_left (List.getElem?_eq_some_iff.1 hu).1];exact hu
 exact⟨_,hR'.put ds (x:=.one .any) trivial hdN,hbk,rfl,rfl⟩
def zrd (P:Program)(σ:St)(t:TypeId)(x y:Operand):Option (Nat×Ev×List (Nat×Ev)):=match σ.get P 0 x with
 | .one (.eo e g sz i o)=>(σ.ev e).bind fun z=>(zbt P t).bind fun n =>
  if z.deep=true/\z.sz=sz/\z.gen=g/\z.on=true/\(σ.get P t y).cells.length=n/\o+n<=sz/\(σ.get P t y).cells.all C.good=true/\(σ.get P t y).isTup=false then
   (zrb σ (σ.get P t y).cells).map fun q=>(e,⟨true,sz,zec z.rows i o q.1,g,true⟩,q.2)else none
 | _=>none
def St.apdO (σ:St):Option (Nat×Ev×List (Nat×Ev))->St
 | some (e,y,cons)=>σ.apd e cons y
 | none=>σ
section
variable {ks:List Fr}{Q:Exit->St->Prop}{σ:St}{ops:Array Oper}{os:List Oper}{L:List (List Ky×List Ky)}{ty:TypeId}{ps:String}{af:Array Edge}{ds:Option Nat}{x y:Operand}{t:TypeId}
theorem zuc (h:zav (zrd P σ t x y) fun r=>(r.2.2.map (·.1)).Nodup/\∀p∈r.2.2,p.1≠r.1):zai P ⟨ds,.store t x y,ty,ps,af,none⟩ σ ((σ.apdO (zrd P σ t x y)).put ds (.one .any)):=by
 obtain⟨⟨e,z',cons⟩,h1,h2,h3⟩:=zar h
 rw[h1]
 unfold zrd at h1
 split at h1
 ·rename_i e' g sz i o hx;obtain⟨z,hz,h1⟩:=Qg.1 h1;obtain⟨n,hn,h1⟩:=Qg.1 h1;split at h1
  ·rename_i hh;obtain⟨zd,zsz,zr,zg,zo⟩:=z;obtain⟨k1,k2,k3,k4,k5,k6,k7,k8⟩:=hh;obtain⟨⟨ts,cs⟩,hq,h1⟩:=Q3.1 h1;simp only at k1 k2 k3 k4;subst k1 k2 k3 k4;simp only[Qp]at h1;obtain⟨rfl,rfl,rfl⟩:=h1;exact qic hx hn hz k5 k6 k7 k8 hq h2 h3
  ·cases h1
 ·cases h1
theorem zqe (h:zav (zrd P σ t x y) fun r=>(r.2.2.map (·.1)).Nodup/\∀p∈r.2.2,p.1≠r.1)
  (k:exo P ops os ks Q ((σ.apdO (zrd P σ t x y)).put ds (.one .any))):exoS P ops ⟨ds,.store t x y,ty,ps,af,none⟩ os ks Q σ:=(zuc h).toX k
end
attribute [go_sem] zrd St.apdO dpC zrb zyo
end
section
open Go.RowKit
variable {P:Program}
theorem zpo (zc:Array Value)(n:Nat)(h:zc.size=n):∀c,(madeCells zc (c*n)).toList=(List.replicate c zc.toList).flatten
 | 0=>by simp[madeCells]
 | c+1=>by
  have ih:=zpo zc n h c;have key:(madeCells zc ((c+1)*n)).toList=(madeCells zc (c*n)).toList++zc.toList:=by
   unfold madeCells;simp only[Array.toList_map,Array.toList_range];rw[show(c+1)*n=c*n+n by rw[Kl,Yk],List.range_add,Qt]
   congr 1
   refine Yb (by simp[h]) fun j hj hj'=>?_;have hjn:j<n:=by simpa using hj
   simp only[List.getElem_map,List.getElem_range,h];rw[Nat.add_comm,Nat.add_mul_mod_self_right,Nat.mod_eq_of_lt hjn];simp[h,hjn]
  rw[key,ih,List.replicate_succ',Ke];simp
theorem za7.rep_rows {w:World}{ts:List T}{vs:List Value}(h:za7 w ts vs []):∀c:Nat,za7 w (List.replicate c ts).flatten (List.replicate c vs).flatten []
 | 0=>⟨rfl,rfl⟩
 | c+1=>by
  rw[List.replicate_succ,List.replicate_succ,Q4,Q4];exact h.append (za7.rep_rows h c)
theorem qj2 {d:Nat}{ty:TypeId}{ps:String}{af:Array Edge}{σ:St}{t el:TypeId}{l c:Operand}{n bts:Nat}{z:List C}{zts:List T}{kl kc:IntKind}{a b:Int}
  (h1:elT P t=some el) (h2:zbt P el=some n) (h3:zdn P el=some bts) (h4:zcz P el=some z) (hz:z.length=n) (hq:zrb σ z=some (zts,[])) (hl:σ.get P 0 l=.one (.t (.int kl a))) (hc:σ.get P 0 c=.one (.t (.int kc b)))
  (hp:0<bts) (h0:0<=a) (hab:a<=b) (hb:(bts:Int)*b<=281474976710656) (he:σ.ev (d*32)=none) :
  zai P ⟨some d,.makeSlice t l c,ty,ps,af,none⟩ σ ((σ.apd (d*32) [] ⟨true,n,List.replicate a.toNat zts,0,true⟩).put (some d) (.one (.ow (d*32) 0))):=by
 intro n0 N g act w hR hn hdN
 have v1:=hR.get P 0 l
 have v2:=hR.get P 0 c
 rw[hl]at v1
 rw[hc]at v2
 simp only[VR,CR,zas]at v1 v2
 obtain⟨i,zv,i1,i2,i3⟩:=zhx h4
 have hin:i.size=n:=by unfold zbt at h2;rw[i1]at h2;simpa using h2
 have hib:i.bytes=bts:=by unfold zdn at h3;rw[i1]at h3;simpa using h3
 have hb1:b<=281474976710656:=by
  have:(1:Int)*b<=(bts:Int)*b:=Int.mul_le_mul_of_nonneg_right Yt Yt;omega
 have hcr:=i3 σ g w
 obtain⟨o1,_,o3⟩:=zj6 hR hcr hq
 have hzs:zv.cells.size=n:=by have:=hcr.len;simp at this;omega
 have hr:=run_make (P:=P) w t el i zv (zic h1) i1 i2 kl kc a b h0 hab (by rw[hib];exact hb) Yt
 rw[hin]at hr
 have hrun:(execOp act.eval ⟨some d,.makeSlice t l c,ty,ps,af,none⟩).run P w=.ok (.value (.slice (some ⟨w.heap.size,0,none⟩) a.toNat b.toNat)) (w.alloc (.cells (madeCells zv.cells (b.toNat*n)) el)):=by
  unfold execOp;simp only[v1.1,v2.1,Sem.run_bind,hr,Result.andThen_ok,Sem.run_pure]
 have hrows:(List.replicate a.toNat zv.cells.toList).flatten=(madeCells zv.cells (b.toNat*n)).toList.take (a.toNat*n):=by
  rw[zpo _ _ hzs,show b.toNat=a.toNat+(b.toNat-a.toNat) by omega,<-List.replicate_append_replicate,Ke,J6 (by simp[hzs]),Qm (by simp[hzs])]
 have hlen:lens n (List.replicate a.toNat zts):=fun r hr=>by
  rw[List.eq_of_mem_replicate hr,o3,hz]
 obtain⟨g',r1,r2,r3,r4⟩:=hR.newown hn (e:=d*32) he (cons:=[]) (by simp) (sz:=n) (rows:=List.replicate a.toNat zts) (vs:=(List.replicate a.toNat zv.cells.toList).flatten) hlen (dp:=true) (by simp) (fun _=>za7.rep_rows o1 _) (by simp) Kf (by simp) (madeCells zv.cells (b.toNat*n)) el b.toNat (by rw[size_madeCells]) (by simp;omega) (by unfold zf0;omega) (by rw[K9];exact hrows.symm)
 rw[K9]at r2
 unfold Oper.wp
 rw[hrun]
 refine⟨g',r1.put (some d) (x:=.one (.ow (d*32) 0)) ⟨r2,⟨true,n,List.replicate a.toNat zts,0,true⟩,by simp[St.apd,zag],Qw _⟩ hdN,?_,r3,r4⟩
 exact⟨rfl,rfl,rfl,by simp,fun k hk=>Below.heap_alloc w _ k (hn k hk)⟩
def mkD (P:Program)(σ:St)(t:TypeId)(l c:Operand):Option (Prop×Ev) :=
 (elT P t).bind fun el=>(zbt P el).bind fun n=>(zdn P el).bind fun bts=>(zcz P el).bind fun z=>(zrb σ z).bind fun q=>match σ.get P 0 l,σ.get P 0 c with
  | .one (.t (.int _ a)),.one (.t (.int _ b))=>if z.length=n/\q.2.length=0/\0<bts then some ((0<=a/\a<=b/\(bts:Int)*b<=281474976710656),⟨true,n,List.replicate a.toNat q.1,0,true⟩)else none
  | _,_=>none
def St.mk1 (σ:St)(d:Nat):Option (Prop×Ev)->St
 | some (_,y)=>σ.apd (d*32) [] y
 | none=>σ
section
variable {ks:List Fr}{Q:Exit->St->Prop}{σ:St}{ops:Array Oper}{os:List Oper}{ty:TypeId}{ps:String}{af:Array Edge}{d:Nat}{l c:Operand}{t:TypeId}
theorem makeD (h:zav (mkD P σ t l c) fun r=>r.1/\σ.ev (d*32)=none)(k:exo P ops os ks Q ((σ.mk1 d (mkD P σ t l c)).put (some d) (.one (.ow (d*32) 0)))) :
  exo P ops (⟨some d,.makeSlice t l c,ty,ps,af,none⟩::os) ks Q σ:=by
 obtain⟨⟨p,y⟩,h1,h2,h3⟩:=zar h
 rw[h1]at k
 unfold mkD at h1
 obtain⟨el,e1,h1⟩:=Qg.1 h1
 obtain⟨n,e2,h1⟩:=Qg.1 h1
 obtain⟨bts,e3,h1⟩:=Qg.1 h1
 obtain⟨z,e4,h1⟩:=Qg.1 h1
 obtain⟨⟨q1,q2⟩,e5,h1⟩:=Qg.1 h1
 split at h1
 ·rename_i kl a kc b hl hc;split at h1
  ·rename_i hh;obtain⟨k1,k2,k3⟩:=hh;have:q2=[]:=K7 k2;subst this;simp only[Qf,Qp]at h1;obtain⟨rfl,rfl⟩:=h1;exact zda rfl rfl (qj2 e1 e2 e3 e4 k1 e5 hl hc k3 h2.1 h2.2.1 h2.2.2 h3) k
  ·cases h1
 ·cases h1
end
attribute [go_sem] mkD St.mk1
end
section
open Go.RowKit
variable {P:Program}
def blD (P:Program)(σ:St)(t:TypeId)(len:Nat)(parts:Array (Nat×Operand)):Option (Ev×List (Nat×Ev)) :=
 (zox P (σ.get P) t len parts).bind fun p=>(zyo σ p.2).map fun q=>(⟨true,p.1,q.1,0,true⟩,q.2)
def blS (P:Program)(σ:St)(t:TypeId)(len:Nat)(parts:Array (Nat×Operand)):Option (Ev×List (Nat×Ev)) :=
 (zox P (σ.get P) t len parts).bind fun p=>(zym σ p.2).map fun q=>(⟨false,p.1,q,0,true⟩,[])
def St.bl (σ:St)(d:Nat):Option (Ev×List (Nat×Ev))->St
 | some (x,cons)=>σ.apd (d*32) cons x
 | none=>σ
def flR:List (List T)->Bool
 | []=>true
 | r::rs=>r.all T.flat&&flR rs
theorem zkw:∀{rows:List (List T)},flR rows=true->∀c∈rows.flatten,c.flat=true
 | [],_,c,hc=>by simp at hc
 | r::rs,h,c,hc=>by
  unfold flR at h;simp only[Qc,Qs]at h;rw[Q4,Qv]at hc;exact hc.elim (h.1 c) (zkw h.2 c)
def apV (P:Program)(σ:St)(d:Nat)(t:TypeId)(s y:Operand)(dp2:Bool):Option (Prop×Nat×Ev×List (Nat×Ev)):=match σ.get P t s,(σ.get P t y).rd with
 | .one (.ow e gn),.one (.ow e2 gn2)=>(σ.ev e).bind fun x=>(σ.ev e2).bind fun z =>
  if x.gen=gn/\x.on=true/\z.gen=gn2/\z.on=true/\z.sz=x.sz/\e2≠e then some ((apT P t x.sz/\x.rows.length+z.rows.length<=4294967296),e,⟨x.deep&&z.deep,x.sz,x.rows++z.rows,gn+1,true⟩,[(e2,z)])
  else none
 | .one (.ow e gn),.one (.t (.sl sz rows2))=>(σ.ev e).bind fun x =>
  if x.gen=gn/\x.on=true/\sz=x.sz then some ((apT P t x.sz/\x.rows.length+rows2.length<=4294967296/\(dp2=true->flR rows2=true)),e,⟨x.deep&&dp2,x.sz,x.rows++rows2,gn+1,true⟩,[])
  else none
 | .one (.nl _),.one (.ow e2 gn2)=>(σ.ev e2).bind fun z =>
  if z.gen=gn2/\z.on=true/\e2≠d*32 then some ((apT P t z.sz/\z.rows.length<=4294967296/\σ.ev (d*32)=none),d*32,⟨z.deep,z.sz,z.rows,0,true⟩,[(e2,z)])else none
 | .one (.nl _),.one (.t (.sl sz rows2))=>some ((apT P t sz/\rows2.length<=4294967296/\(dp2=true->flR rows2=true)/\σ.ev (d*32)=none),d*32,⟨dp2,sz,rows2,0,true⟩,[])
 | _,_=>none
def St.apV (σ:St)(d:Nat):Option (Prop×Nat×Ev×List (Nat×Ev))->St
 | some (_,e,x,cons)=>(σ.apd e cons x).put (some d) (.one (.ow e x.gen))
 | none=>σ
section
variable {ks:List Fr}{Q:Exit->St->Prop}{σ:St}{ops:Array Oper}{os:List Oper}{L:List (List Ky×List Ky)}{d:Nat}{t:TypeId}{ty:TypeId}{ps:String}{af:Array Edge}{len:Nat}{parts:Array (Nat×Operand)}{s y:Operand}
theorem qmk (h:zav (blD P σ t len parts) fun r=>σ.ev (d*32)=none/\(r.2.map (·.1)).Nodup):zai P ⟨some d,.buildSlice t len parts,ty,ps,af,none⟩ σ ((σ.bl d (blD P σ t len parts)).put (some d) (.one (.ow (d*32) 0))):=by
 obtain⟨⟨x,cons⟩,h1,h2,h3⟩:=zar h
 rw[h1]
 unfold blD at h1
 obtain⟨p,e1,h1⟩:=Qg.1 h1
 obtain⟨q,e2,h1⟩:=Q3.1 h1
 simp only[Qp]at h1
 obtain⟨rfl,rfl⟩:=h1
 exact zu1 ⟨e1,e2,h2,h3⟩
theorem zap (h:zav (blD P σ t len parts) fun r=>σ.ev (d*32)=none/\(r.2.map (·.1)).Nodup)(k:exo P ops os ks Q ((σ.bl d (blD P σ t len parts)).put (some d) (.one (.ow (d*32) 0)))) :
  exo P ops (⟨some d,.buildSlice t len parts,ty,ps,af,none⟩::os) ks Q σ:=zda rfl rfl (qmk h) k
theorem qn7 (h:zav (blS P σ t len parts) fun _=>σ.ev (d*32)=none):zai P ⟨some d,.buildSlice t len parts,ty,ps,af,none⟩ σ ((σ.bl d (blS P σ t len parts)).put (some d) (.one (.ow (d*32) 0))):=by
 obtain⟨⟨x,cons⟩,h1,h2⟩:=zar h
 rw[h1]
 unfold blS at h1
 obtain⟨p,e1,h1⟩:=Qg.1 h1
 obtain⟨q,e2,h1⟩:=Q3.1 h1
 simp only[Qp]at h1
 obtain⟨rfl,rfl⟩:=h1
 exact ztz ⟨e1,e2,h2⟩
theorem zny (h:zav (blS P σ t len parts) fun _=>σ.ev (d*32)=none)(k:exo P ops os ks Q ((σ.bl d (blS P σ t len parts)).put (some d) (.one (.ow (d*32) 0)))) :
  exo P ops (⟨some d,.buildSlice t len parts,ty,ps,af,none⟩::os) ks Q σ:=zda rfl rfl (qn7 h) k
theorem qlv (dp2:Bool)(h:zav (apV P σ d t s y dp2) fun r=>r.1):zai P ⟨some d,.call ⟨.builtin .append,#[s,y],#[t,t]⟩,ty,ps,af,none⟩ σ (σ.apV d (apV P σ d t s y dp2)):=by
 obtain⟨⟨p,e,x,cons⟩,h1,h2⟩:=zar h
 rw[h1]
 unfold Go.Proofs.YtliiapbmkcbfaaaGreat.apV at h1
 split at h1
 ·rename_i e0 gn e2 gn2 hs hy;obtain⟨x0,k1,h3⟩:=Qg.1 h1;obtain⟨z,k2,h4⟩:=Qg.1 h3;clear h1 h3;by_cases hc:x0.gen=gn/\x0.on=true/\z.gen=gn2/\z.on=true/\z.sz=x0.sz/\e2≠e0
  ·rw[if_pos hc]at h4;obtain⟨rfl,c2,rfl,c4,c5,c6⟩:=hc;simp only[Qf,Qp]at h4;obtain⟨rfl,rfl,rfl,rfl⟩:=h4;obtain⟨dp,sz,rows,gn,on⟩:=x0;obtain⟨dp2,sz2,rows2,gn2,on2⟩:=z;simp only at c2 c4 c5;subst c2 c4 c5;exact qki ⟨hs,qi6 hy,k1,k2,c6,rfl⟩ h2.1 h2.2
  ·rw[if_neg hc]at h4;cases h4
 ·rename_i e0 gn sz rows2 hs hy;obtain⟨x0,k1,h4⟩:=Qg.1 h1;clear h1;by_cases hc:x0.gen=gn/\x0.on=true/\sz=x0.sz
  ·rw[if_pos hc]at h4;obtain⟨rfl,c2,rfl⟩:=hc;simp only[Qf,Qp]at h4;obtain⟨rfl,rfl,rfl,rfl⟩:=h4;obtain⟨dp,sz,rows,gn,on⟩:=x0;simp only at c2;subst c2;exact qkp dp2 ⟨hs,hy,k1⟩ (fun hd=>zkw (h2.2.2 hd)) h2.1 h2.2.1
  ·rw[if_neg hc]at h4;cases h4
 ·rename_i z0 e2 gn2 hs hy;obtain⟨z,k2,h4⟩:=Qg.1 h1;clear h1;by_cases hc:z.gen=gn2/\z.on=true/\e2≠d*32
  ·rw[if_pos hc]at h4;obtain⟨rfl,c2,c3⟩:=hc;simp only[Qf,Qp]at h4;obtain⟨rfl,rfl,rfl,rfl⟩:=h4;obtain⟨dp2,sz2,rows2,gn2,on2⟩:=z;simp only at c2;subst c2;exact qj6 ⟨hs,qi6 hy,h2.2.2,k2,c3⟩ h2.1 h2.2.1
  ·rw[if_neg hc]at h4;cases h4
 ·rename_i z0 sz rows2 hs hy;simp only[Qf,Qp]at h1;obtain⟨rfl,rfl,rfl,rfl⟩:=h1;exact qk5 dp2 ⟨hs,hy,h2.2.2.2⟩ (fun hd=>zkw (h2.2.2.1 hd)) h2.1 h2.2.1
 ·cases h1
theorem apD (dp2:Bool)(h:zav (apV P σ d t s y dp2) fun r=>r.1)(k:exo P ops os ks Q (σ.apV d (apV P σ d t s y dp2))) :
  exo P ops (⟨some d,.call ⟨.builtin .append,#[s,y],#[t,t]⟩,ty,ps,af,none⟩::os) ks Q σ:=zda rfl rfl (qlv dp2 h) k
end
attribute [go_sem] List.nodup_nil List.nodup_cons List.mem_cons List.not_mem_nil not_false_eq_true List.size_toArray zf0 blD blS St.bl apV St.apV flR zox zqo zym qkx shC
end
section
open Go.RowKit
variable {P:Program}
def D.sls:D->Prop
 | .one (.sl _ _)=>True
 | .agg _=>True
 | _=>False
def IC (P:Program)(f:FuncId)(pre:List D)(d:D)(post:List D)(d':D)(res:List D):Prop:=zbw P f/\∀(w:World)(us1:List Value)(v:Value)(us2:List Value)(fp tp:List Nat),
 zbv w (fun b=>b<w.heap.size/\b∉fp) pre us1->GD w d v fp tp->zbv w (fun b=>b<w.heap.size/\b∉fp) post us2->fp.Nodup →
 Calls P f ⟨us1++v::us2⟩ w fun e w'=>∃us fp' tp',e=.returned (zck us)/\GDs w' (d'::res) (v::us) fp' tp'/\fp'.Nodup/\(∀b∈fp',b∈fp\/w.heap.size<=b)/\Bk (fun k=>k<w.heap.size/\k∉fp) w w'
def inU:List C->List T->List (Nat×List (List T))
 | .ow e _::cs,.sl _ rows'::ts'=>(e,rows')::inU cs ts'
 | _::cs,_::ts'=>inU cs ts'
 | _,_=>[]
def zyr:List (Nat×List (List T))->(Nat->Option Ev)->Nat->Option Ev
 | [],f=>f
 | (e,rows')::U,f=>upd (zyr U f) e ((f e).map fun x=>{ x with rows:=rows' })
def St.inp (σ:St)(U:List (Nat×List (List T))):St:={ σ with ev:=zyr U σ.ev }
def inK (σ:St):List Nat->List C->List T->List T->Prop
 | _,[],[],[]=>True
 | used,.t x::cs,t::ts,t'::ts'=>x=t/\t'=t/\t.flat=true/\inK σ used cs ts ts'
 | used,.nl _::cs,.sl _ rows::ts,.sl _ rows'::ts'=>rows=[]/\rows'=[]/\inK σ used cs ts ts'
 | used,.ow e g::cs,.sl sz rows::ts,.sl sz' rows'::ts'=>e∉used/\sz'=sz/\σ.ev e=some ⟨true,sz,rows,g,true⟩/\inK σ (e::used) cs ts ts'
 | _,_,_,_=>False
theorem zh6 {U:List (Nat×List (List T))}{f:Nat->Option Ev}{e:Nat}(h:e∉U.map (·.1)):zyr U f e=f e:=by
 induction U with
 | nil=>rfl
 | cons p U ih =>
  simp only[Qi,Qu,not_or]at h;unfold zyr;rw[zal _ _ h.1,ih h.2]
theorem ql4 {U:List (Nat×List (List T))}{f:Nat->Option Ev}(hn:(U.map (·.1)).Nodup){e:Nat}{rows':List (List T)}(h:(e,rows')∈U):zyr U f e=(f e).map fun x=>{ x with rows:=rows' }:=by
 induction U with
 | nil=>simp at h
 | cons p U ih =>
  obtain⟨e0,r0⟩:=p;simp only[Qi,Ja]at hn;unfold zyr;rcases Qu.1 h with h|h
  ·cases h;rw[zag]
  ·have hne:e≠e0:=fun he=>hn.1 (he▸Kn.2 ⟨_,h,rfl⟩);rw[zal _ _ hne,ih hn.2 h]
theorem zfz {n0:Nat->Prop}{N:Nat}{σ:St}{g:Gh}{a:Act}{w:World}(hR:Rel n0 N σ g a w):∀{cs:List C}{ts ts':List T}{used:List Nat}{vs:List Value},inK σ used cs ts ts'->CRs σ g w cs vs →
  (inU cs ts').Pairwise (fun p q=>p.1≠q.1)/\(∀p∈inU cs ts',p.1∉used/\∃sz rows gn,σ.ev p.1=some ⟨true,sz,rows,gn,true⟩) ∧
  (∃fp tp,zyi w ts vs fp tp/\fp.Nodup/\(∀b∈fp,∃p∈inU cs ts',b∈g.φ p.1)/\∀p∈inU cs ts',∀b∈g.φ p.1,b∈fp) ∧
  ∀{w':World} {fp' tp':List Nat},zyi w' ts' vs fp' tp'->fp'.Nodup->∃φ':Nat->List Nat,(∀e,(∀p∈inU cs ts',p.1≠e)->φ' e=g.φ e)/\(∀p∈inU cs ts',∃sz rows gn,σ.ev p.1=some ⟨true,sz,rows,gn,true⟩/\za3 w' (.sl sz p.2) (g.ψ p.1 gn) (φ' p.1)/\(φ' p.1).Nodup/\∀b∈φ' p.1,b∈fp') ∧
   ∀p∈inU cs ts',∀q∈inU cs ts',p.1≠q.1->∀b∈φ' p.1,b∉φ' q.1
 | [],[],[],used,vs,h,hv=>by
  rw[show vs=[] from hv];refine⟨List.Pairwise.nil,by simp[inU],⟨[],[],⟨rfl,rfl,rfl⟩,Kf,by simp,by simp[inU]⟩,fun _ _=>⟨g.φ,fun _ _=>rfl,by simp[inU],by simp[inU]⟩⟩
 | .t x::cs,t::ts,t'::ts',used,vs,h,hv=>by
  obtain⟨hx,ht,hf,h⟩:=h;subst hx;subst ht;obtain⟨v,vs',rfl,hv1,hv2⟩:=hv;obtain⟨k1,k2,⟨fp,tp,k3,k4,k5,k6⟩,k7⟩:=zfz hR h hv2;have hU:∀y,inU (.t y::cs) (y::ts')=inU cs ts':=fun y=>by cases y<;>rfl
  rw[hU];have hown:∀y:T,y.flat=true->CR σ g w (.t y) v->za3 w y v []/\zj3 y []=[]:=fun y hf hv1=>by
   simp only[CR]at hv1;cases y<;>simp only[T.flat,Qn]at hf<;>unfold zas at hv1<;>unfold za3
   ·exact⟨⟨hv1.1,hv1.2.1,hv1.2.2,rfl⟩,rfl⟩
   ·exact⟨⟨hv1,rfl⟩,rfl⟩
   ·exact⟨⟨hv1.1,hv1.2,rfl⟩,rfl⟩
   ·exact⟨⟨hv1,rfl⟩,rfl⟩
  refine⟨k1,k2,⟨fp,tp,⟨v,vs',[],fp,tp,rfl,by simp,by rw[(hown _ hf hv1).2];simp,(hown _ hf hv1).1,k3⟩,k4,k5,k6⟩,fun hg hn=>?_⟩;obtain⟨v0,vs0,f1,f2,t2,e,rfl,_,_,hg2⟩:=hg;cases e;obtain⟨φ',j1,j2,j3⟩:=k7 hg2 (Ka.1 hn).2.1;exact⟨φ',j1,fun p hp=>by obtain⟨sz,rows,gn,q1,q2,q3,q4⟩:=j2 p hp;exact⟨sz,rows,gn,q1,q2,q3,fun b hb=>Jx _ (q4 b hb)⟩,j3⟩
 | .nl z::cs,.sl sz rows::ts,.sl sz' rows'::ts',used,vs,h,hv=>by
  obtain⟨rfl,rfl,h⟩:=h;obtain⟨v,vs',rfl,hv1,hv2⟩:=hv;obtain⟨k1,k2,⟨fp,tp,k3,k4,k5,k6⟩,k7⟩:=zfz hR h hv2;have hU:inU (.nl z::cs) (.sl sz' []::ts')=inU cs ts':=rfl;rw[hU];have hv1:v=.slice none 0 0:=hv1;refine⟨k1,k2,⟨fp,tp,⟨v,vs',[],fp,tp,rfl,by simp,by simp[zj3],by unfold za3;exact⟨none,0,hv1,by simp,by simp,Or.inl ⟨rfl,rfl,rfl,rfl⟩⟩,k3⟩,k4,k5,k6⟩,fun hg hn=>?_⟩;obtain⟨v0,vs0,f1,f2,t2,e,rfl,_,_,hg2⟩:=hg;cases e;obtain⟨φ',j1,j2,j3⟩:=k7 hg2 (Ka.1 hn).2.1;exact⟨φ',j1,fun p hp=>by obtain⟨sz,rows,gn,q1,q2,q3,q4⟩:=j2 p hp;exact⟨sz,rows,gn,q1,q2,q3,fun b hb=>Jx _ (q4 b hb)⟩,j3⟩
 | .ow e gn::cs,.sl sz rows::ts,.sl sz' rows'::ts',used,vs,h,hv=>by
  obtain⟨hu,rfl,he,h⟩:=h;obtain⟨v,vs',rfl,hv1,hv2⟩:=hv;obtain⟨k1,k2,⟨fp,tp,k3,k4,k5,k6⟩,k7⟩:=zfz hR h hv2;have hU:inU (.ow e gn::cs) (.sl sz' rows'::ts')=(e,rows')::inU cs ts':=rfl;rw[hU];have hO:σ.On e:=⟨_,he,rfl⟩;have hne:∀p∈inU cs ts',e≠p.1:=fun p hp hh=>(k2 p hp).1 (by simp[hh]);have hown:=zeb hR he;refine⟨J5.2 ⟨fun p hp=>hne p hp,k1⟩,fun p hp=>?_,⟨g.φ e++fp,zj3 (.sl sz' rows) (g.φ e)++tp,⟨v,vs',g.φ e,fp,tp,rfl,rfl,rfl,by rw[hv1.1];exact hown,k3⟩,Ka.2 ⟨hR.nodup e hO,k4,fun b hb c hc hbc=>?_⟩,fun b hb=>?_,fun p hp b hb=>?_⟩,fun {w'} {fp'} {tp'} hg hn=>?_⟩
  ·rcases Qu.1 hp with rfl|hp
   ·exact⟨hu,_,_,_,he⟩
   ·exact⟨fun hh=>(k2 p hp).1 (by simp[hh]),(k2 p hp).2⟩
  ·subst hbc;obtain⟨p,hp,hm⟩:=k5 b hc;obtain⟨sz2,rows2,gn2,hev⟩:=(k2 p hp).2;exact hR.apart e p.1 hO ⟨_,hev,rfl⟩ (hne p hp) b hb hm
  ·rcases Qv.1 hb with hb|hb
   ·exact⟨(e,rows'),by simp,hb⟩
   ·obtain⟨p,hp,hm⟩:=k5 b hb;exact⟨p,by simp[hp],hm⟩
  ·rcases Qu.1 hp with rfl|hp
   ·exact J7 _ hb
   ·exact Jx _ (k6 p hp b hb)
  ·obtain⟨v0,vs0,f1,f2,t2,e0,rfl,_,hg1,hg2⟩:=hg;cases e0;obtain⟨n1,n2,n3⟩:=Ka.1 hn;obtain⟨φ',j1,j2,j3⟩:=k7 hg2 n2;refine⟨upd φ' e f1,fun e' h'=>?_,fun p hp=>?_,fun p hp q hq hpq b hb hb'=>?_⟩
   ·rw[zal _ _ (Ne.symm (h' (e,rows') (by simp)))];exact j1 e' fun p hp=>h' p (by simp[hp])
   ·rcases Qu.1 hp with rfl|hp
    ·refine⟨sz',rows,gn,he,?_,by rw[zag];exact n1,fun b hb=>by rw[zag]at hb;exact J7 _ hb⟩;rw[zag,<-hv1.1];exact hg1
    ·obtain⟨sz2,rows2,gn2,q1,q2,q3,q4⟩:=j2 p hp;have:=Ne.symm (hne p hp);exact⟨sz2,rows2,gn2,q1,by rw[zal _ _ this];exact q2,by rw[zal _ _ this];exact q3,fun b hb=>by rw[zal _ _ this]at hb;exact Jx _ (q4 b hb)⟩
   ·rcases Qu.1 hp with rfl|hp<;>rcases Qu.1 hq with rfl|hq
    ·exact hpq rfl
    ·have hne2:=Ne.symm (hne q hq);rw[zag]at hb;rw[zal _ _ hne2]at hb';obtain⟨_,_,_,_,_,_,q4⟩:=j2 q hq;exact n3 b hb b (q4 b hb') rfl
    ·have hne2:=Ne.symm (hne p hp);rw[zal _ _ hne2]at hb;rw[zag]at hb';obtain⟨_,_,_,_,_,_,q4⟩:=j2 p hp;exact n3 b hb' b (q4 b hb) rfl
    ·rw[zal _ _ (Ne.symm (hne p hp))]at hb;rw[zal _ _ (Ne.symm (hne q hq))]at hb';exact j3 p hp q hq hpq b hb hb'
end
section
open Go.RowKit
variable {P:Program}
theorem Rel.inp {n0:Nat->Prop}{N:Nat}{σ:St}{g:Gh}{a:Act}{w w':World}(hR:Rel n0 N σ g a w)(hn:LtK n0 w){U:List (Nat×List (List T))}(hU:U.Pairwise (fun p q=>p.1≠q.1)){fp fp':List Nat}
  (hfp:∀p∈U,∀b∈g.φ p.1,b∈fp) (hfpU:∀b∈fp,∃p∈U,b∈g.φ p.1) (hbk:Bk (fun k=>k<w.heap.size/\k∉fp) w w') (hfp':∀b∈fp',b∈fp\/w.heap.size<=b)
  {φ':Nat->List Nat} (j1:∀e,(∀p∈U,p.1≠e)->φ' e=g.φ e)
  (j2:∀p∈U,∃sz rows gn,σ.ev p.1=some ⟨true,sz,rows,gn,true⟩/\za3 w' (.sl sz p.2) (g.ψ p.1 gn) (φ' p.1)/\(φ' p.1).Nodup/\∀b∈φ' p.1,b∈fp')
  (j3:∀p∈U,∀q∈U,p.1≠q.1->∀b∈φ' p.1,b∉φ' q.1)
  (hv1:∀i v,VR σ g w (σ.sl i) v->VR (σ.inp U) { g with φ:=φ' } w' (σ.sl i) v)
  (hv2:∀b cs vs,σ.bx b=some cs->CRs σ g w cs vs->CRs (σ.inp U) { g with φ:=φ' } w' cs vs)
  (hv3:∀e x,(∀p∈U,p.1≠e)->σ.ev e=some x->x.on=true->∀v fpx,EvR w (Fix σ g w) x v fpx->(∀b∈fpx,w'.heap[b]?=w.heap[b]?)->EvR w' (Fix (σ.inp U) { g with φ:=φ' } w') x v fpx)
  (hv4:∀e x,σ.ev e=some x->x.on=false->∀v,zas w (Fix σ g w) (.sl x.sz x.rows) v->zas w' (Fix (σ.inp U) { g with φ:=φ' } w') (.sl x.sz x.rows) v) :
  Rel n0 N (σ.inp U) { g with φ:=φ' } a w':=by
 have hNd:(U.map (·.1)).Nodup:=List.pairwise_map.2 hU
 have hin:∀p∈U,∃sz rows gn,σ.ev p.1=some ⟨true,sz,rows,gn,true⟩/\(σ.inp U).ev p.1=some ⟨true,sz,p.2,gn,true⟩/\za3 w' (.sl sz p.2) (g.ψ p.1 gn) (φ' p.1):=fun p hp=>by
  obtain⟨sz,rows,gn,q1,q2,_⟩:=j2 p hp;refine⟨sz,rows,gn,q1,?_,q2⟩;show zyr U σ.ev p.1=_
  rw[ql4 hNd (show(p.1,p.2)∈U from hp),q1];rfl
 have hout:∀e,(∀p∈U,p.1≠e)->(σ.inp U).ev e=σ.ev e:=fun e h=>zh6 fun hm=>by
  obtain⟨p,hp,he⟩:=Kn.1 hm;exact h p hp he
 have hcase:∀e,(∃p∈U,p.1=e)\/∀p∈U,p.1≠e:=fun e=>by
  by_cases h:∃p∈U,p.1=e
  ·exact Or.inl h
  ·exact Or.inr fun p hp he=>h ⟨p,hp,he⟩
 have hOU:∀p∈U,σ.On p.1:=fun p hp=>by obtain⟨sz,rows,gn,q1,_⟩:=hin p hp;exact⟨_,q1,rfl⟩
 have hon:∀e,(∀p∈U,p.1≠e)->(σ.inp U).On e->σ.On e:=fun e h ho=>by
  obtain⟨x,hx,ho⟩:=ho;exact⟨x,(hout e h).symm.trans hx,ho⟩
 have hold:∀b∈fp,b<w.heap.size:=fun b hb=>by
  obtain⟨p,hp,hm⟩:=hfpU b hb;obtain⟨x,hx,ho⟩:=hOU p hp;exact(hR.evs _ x hx ho).lt b hm
 have hbx:∀k,σ.bx k≠none->g.β k∉fp:=fun k hk hm=>by
  obtain⟨p,hp,hm⟩:=hfpU _ hm;exact hR.ebx p.1 k (hOU p hp) hk hm
 have happ:∀e,(∀p∈U,p.1≠e)->σ.On e->∀b∈g.φ e,b∉fp:=fun e h ho b hb hm=>by
  obtain⟨p,hp,hm⟩:=hfpU b hm;exact hR.apart e p.1 ho (hOU p hp) (Ne.symm (h p hp)) b hb hm
 have hlt:∀e,σ.On e->∀b∈g.φ e,b<w.heap.size:=fun e ho b hb=>by
  obtain⟨x,hx,ho⟩:=ho;exact(hR.evs e x hx ho).lt b hb
 have hb':∀p∈U,∀b∈φ' p.1,b∈fp\/w.heap.size<=b:=fun p hp b hb=>by
  obtain⟨_,_,_,_,_,_,q⟩:=j2 p hp;exact hfp' b (q b hb)
 refine⟨hR.defers,hR.size,hR.anew,fun i=>hv1 i _ (hR.slots i),fun b cs hb=>?_,hR.base,hR.inj,fun e x he ho=>?_,fun e x he ho=>?_,hR.slc,fun e he b hb=>?_,fun e he b hb=>?_,fun e he=>?_,fun e e' h1 h2 hne b hb1 hb2=>?_,fun e k he hk hm=>?_⟩
 ·obtain⟨vs,ty,k1,k2⟩:=hR.boxes b cs hb;have hne:σ.bx b≠none:=by rw[show σ.bx b=some cs from hb];simp
  exact⟨vs,ty,by rw[hbk.block _ ⟨hR.lt hne,hbx b hne⟩];exact k1,hv2 b cs _ hb k2⟩
 ·rcases hcase e with⟨p,hp,rfl⟩|h
  ·obtain⟨sz,rows,gn,q1,q2,q3⟩:=hin p hp;rw[q2,Qf]at he;subst he;unfold za3 at q3;obtain⟨ao,cap,r1,r2,r3,r4⟩:=q3;refine⟨ao,cap,r1,r2,r3,?_⟩;rcases r4 with r4|⟨b,cells,ty,fps,r4,r5,r6,r7,r8⟩
   ·exact Or.inl r4
   ·exact Or.inr ⟨b,cells,ty,fps,r4,r5,r6,r7,by rw[if_pos rfl];exact r8⟩
  ·rw[hout e h]at he;have hO:σ.On e:=⟨x,he,ho⟩;show EvR w' _ x (g.ψ e x.gen) (φ' e)
   rw[j1 e h];exact hv3 e x h he ho _ _ (hR.evs e x he ho) fun b hb=>hbk.block b ⟨hlt e hO b hb,happ e h hO b hb⟩
 ·rcases hcase e with⟨p,hp,rfl⟩|h
  ·obtain⟨sz,rows,gn,q1,q2,q3⟩:=hin p hp;rw[q2,Qf]at he;subst he;cases ho
  ·rw[hout e h]at he;exact⟨hv4 e x he ho _ (hR.offs e x he ho).1,(hR.offs e x he ho).2⟩
 ·rcases hcase e with⟨p,hp,rfl⟩|h
  ·rcases hb' p hp b hb with h1|h1
   ·obtain⟨q,hq,hm⟩:=hfpU b h1;exact hR.ebase q.1 (hOU q hq) b hm
   ·exact hR.anew b (hn.new h1)
  ·have hb:b∈g.φ e:=j1 e h▸hb;exact hR.ebase e (hon e h he) b hb
 ·rcases hcase e with⟨p,hp,rfl⟩|h
  ·rcases hb' p hp b hb with h1|h1
   ·obtain⟨q,hq,hm⟩:=hfpU b h1;exact hR.etop q.1 (hOU q hq) b hm
   ·exact hn.new h1
  ·have hb:b∈g.φ e:=j1 e h▸hb;exact hR.etop e (hon e h he) b hb
 ·rcases hcase e with⟨p,hp,rfl⟩|h
  ·obtain⟨_,_,_,_,_,q,_⟩:=j2 p hp;exact q
  ·show(φ' e).Nodup
   rw[j1 e h];exact hR.nodup e (hon e h he)
 ·have hb1:b∈φ' e:=hb1;have hb2:b∈φ' e':=hb2;rcases hcase e with⟨p,hp,rfl⟩|k1<;>rcases hcase e' with⟨q,hq,rfl⟩|k2
  ·exact j3 p hp q hq hne b hb1 hb2
  ·rw[j1 e' k2]at hb2;rcases hb' p hp b hb1 with h3|h3
   ·exact happ e' k2 (hon e' k2 h2) b hb2 h3
   ·have:=hlt e' (hon e' k2 h2) b hb2;omega
  ·rw[j1 e k1]at hb1;rcases hb' q hq b hb2 with h3|h3
   ·exact happ e k1 (hon e k1 h1) b hb1 h3
   ·have:=hlt e (hon e k1 h1) b hb1;omega
  ·rw[j1 e k1]at hb1;rw[j1 e' k2]at hb2;exact hR.apart e e' (hon e k1 h1) (hon e' k2 h2) hne b hb1 hb2
 ·have hm:g.β k∈φ' e:=hm;rcases hcase e with⟨p,hp,rfl⟩|h
  ·rcases hb' p hp _ hm with h1|h1
   ·exact hbx k hk h1
   ·have:=hR.lt hk;omega
  ·rw[j1 e h]at hm;exact hR.ebx e k (hon e h he) hk hm
def T.nm:T->Bool
 | .fn _ []=>true
 | t=>t.flat
def nmV:V->D->Prop
 | .one (.t x),.one y=>x=y/\T.nm y=true
 | .one (.fn f []),.one (.fn g [])=>f=g
 | _,_=>False
def qh1:List V->List D->Prop
 | [],[]=>True
 | v::vs,d::ds=>nmV v d/\qh1 vs ds
 | _,_=>False
theorem zdy {w w':World}{A A':Nat->Prop}{x:T}{v:Value}(hf:x.flat=true)(h:zas w A x v):zas w' A' x v:=by
 cases x<;>simp only[T.flat,Qn]at hf<;>unfold zas at h⊢<;>exact h
theorem zk9 {σ:St}{g:Gh}{w:World}{x:V}{d:D}{v:Value}(h:nmV x d)(hv:VR σ g w x v)(A:Nat->Prop):zys w A d v:=by
 unfold nmV at h
 split at h
 ·obtain⟨rfl,h⟩:=h;unfold T.nm at h;split at h
  ·simp only[VR,CR]at hv;unfold zas at hv;obtain⟨vs,e,h2⟩:=hv;unfold zah at h2;subst h2;show zas _ _ _ _
   unfold zas;exact⟨[],e,by unfold zah;rfl⟩
  ·exact zdy h hv
 ·subst h;obtain⟨e,_⟩:=hv;show zas _ _ _ _
  unfold zas;exact⟨[],e,by unfold zah;rfl⟩
 ·exact h.elim
theorem zot {σ:St}{g:Gh}{w:World}(A:Nat->Prop):∀{xs:List V}{ds:List D}{vs:List Value},qh1 xs ds->VRl σ g w xs vs->zbv w A ds vs
 | [],[],vs,_,h=>h
 | x::xs,d::ds,vs,h,hv=>by
  obtain⟨v,vs',rfl,h1,h2⟩:=hv;exact⟨v,vs',rfl,zk9 h.1 h1 A,zot A h.2 h2⟩
 | [],_::_,_,h,_=>h.elim
 | _::_,[],_,h,_=>h.elim
theorem VRl.split {σ:St}{g:Gh}{w:World}:∀{x1 x2:List V}{vs:List Value},VRl σ g w (x1++x2) vs->∃u1 u2,vs=u1++u2/\VRl σ g w x1 u1/\VRl σ g w x2 u2
 | [],_,vs,h=>⟨[],vs,rfl,rfl,h⟩
 | x::xs,_,vs,h=>by
  obtain⟨v,vs',rfl,h1,h2⟩:=h;obtain⟨u1,u2,rfl,k1,k2⟩:=VRl.split h2;exact⟨v::u1,u2,rfl,⟨v,u1,rfl,h1,k1⟩,k2⟩
def inG (σ:St):V->D->D->Prop
 | .one c,.one t,.one t'=>inK σ [] [c] [t] [t']
 | .agg cs,.agg ts,.agg ts'=>inK σ [] cs ts ts'
 | _,_,_=>False
def qlu:V->D->List (Nat×List (List T))
 | .one c,.one t'=>inU [c] [t']
 | .agg cs,.agg ts'=>inU cs ts'
 | _,_=>[]
def D.fl:D->Bool
 | .one t=>t.flat
 | .agg ts=>ts.all T.flat
theorem zqw {w:World}{A:Nat->Prop}:∀{ts:List T}{vs:List Value}{fp tp:List Nat},ts.all T.flat=true->zyi w ts vs fp tp->zah w A ts vs
 | [],vs,_,_,_,h=>by unfold zah;exact h.1
 | t::ts,vs,_,_,hf,h=>by
  rw[Kt,Qc]at hf;obtain⟨v,vs',f1,f2,t2,rfl,_,_,h1,h2⟩:=h;unfold zah;exact⟨v,vs',rfl,zdy hf.1 (za3.rep (A:=fun _=>True) t v f1 h1 fun _ _=>trivial),zqw hf.2 h2⟩
theorem zrf {w:World}{A:Nat->Prop}:∀{ds:List D}{vs:List Value}{fp tp:List Nat},ds.all D.fl=true->GDs w ds vs fp tp->zbv w A ds vs
 | [],vs,_,_,_,h=>h.1
 | .one t::ds,vs,_,_,hf,h=>by
  rw[Kt,Qc]at hf;obtain⟨v,vs',f1,f2,t1,t2,rfl,_,_,h1,h2⟩:=h;exact⟨v,vs',rfl,zdy hf.1 (za3.rep (A:=fun _=>True) t v f1 h1.1 fun _ _=>trivial),zrf hf.2 h2⟩
 | .agg ts::ds,vs,_,_,hf,h=>by
  rw[Kt,Qc]at hf;obtain⟨v,vs',f1,f2,t1,t2,rfl,_,_,⟨a,e,h1⟩,h2⟩:=h;exact⟨v,vs',rfl,⟨a,e,zqw hf.1 h1⟩,zrf hf.2 h2⟩
def C.mOk:C->Bool
 | .t x=>x.flat
 | .el _ _=>false
 | .er _ _=>true
 | _=>true
def V.mOk:V->Bool
 | .one c=>c.mOk
 | .agg cs=>cs.all C.mOk
 | .tup xs=>xs.all fun x=>x.2.all C.mOk
def Deep (σ:St):Prop:=(∀i,(σ.sl i).mOk=true)/\(∀b cs,σ.bx b=some cs->cs.all C.mOk=true)/\∀e x,σ.ev e=some x->x.on=true/\x.deep=true
def Shal (σ:St)(U:List (Nat×List (List T))):Prop:=∀p∈U,zav (σ.ev p.1) fun x=>flR x.rows=true
theorem zbo.flat {w:World}{cells:Array Value}:∀{r:List T}{o:Nat}{fps:List Nat},r.all T.flat=true->zbo w cells o r fps->fps=[]
 | [],_,_,_,h=>by unfold zbo at h;exact h
 | t::r,o,fps,hf,h=>by
  rw[Kt,Qc]at hf;unfold zbo at h;obtain⟨v,f1,f2,_,rfl,h1,h2⟩:=h;rw[zbo.flat hf.2 h2,Kj];have hf1:=hf.1;cases t<;>simp only[T.flat,Qn]at hf1<;>unfold za3 at h1
  ·exact h1.2.2.2
  ·exact h1.2
  ·exact h1.2.2
  ·exact h1.2
theorem zao.flat {w:World}{cells:Array Value}{sz:Nat}:∀{rows:List (List T)}{o:Nat}{fps:List Nat},flR rows=true->zao w cells o sz rows fps->fps=[]
 | [],_,_,_,h=>by unfold zao at h;exact h
 | r::rows,o,fps,hf,h=>by
  unfold flR at hf;rw[Qc]at hf;unfold zao at h;obtain⟨_,f1,f2,rfl,h1,h2⟩:=h;rw[zbo.flat hf.1 h1,zao.flat hf.2 h2,Kj]
section
variable {σ:St}{g g':Gh}{w w':World}{U:List (Nat×List (List T))}
theorem qbz (hβ:g'.β=g.β)(hψ:g'.ψ=g.ψ)(hh:∀e n,σ.has e n->(σ.inp U).has e n)(hrn:∀b,zb6 σ g w b->w'.heap[b]?=w.heap[b]?/\zb6 (σ.inp U) g' w' b){c:C}{v:Value}(hc:c.mOk=true)(h:CR σ g w c v):CR (σ.inp U) g' w' c v:=by
 cases c with
 | t x=>exact zdy hc h
 | nl s=>exact h
 | ow e n=>exact⟨by rw[hψ];exact h.1,hh e n h.2⟩
 | bx b o=>exact⟨by rw[hβ];exact h.1,h.2⟩
 | el cs o=>cases hc
 | eo e s sz i o=>obtain⟨b,n,c,k1,k2,k3,k4⟩:=h;exact⟨b,n,c,by rw[hψ];exact k1,k2,k3,hh e s k4⟩
 | vw e s sz i=>obtain⟨b,n,c,k1,k2,k3,k4⟩:=h;exact⟨b,n,c,by rw[hψ];exact k1,k2,k3,hh e s k4⟩
 | fn f caps=>exact⟨by rw[hβ];exact h.1,h.2⟩
 | cv u=>exact h
 | any=>trivial
 | rn x=>exact zas.keep (fun b hb=>(hrn b hb).1) (fun b hb=>(hrn b hb).2) x v h
 | er cs o=>obtain⟨b,q,h1,h2,h3⟩:=h;exact⟨b,q,h1,(hrn b h2).2,zbj.keep (fun b hb=>(hrn b hb).1) (fun b hb=>(hrn b hb).2) b (hrn b h2).1 q cs h3⟩
theorem zog (hβ:g'.β=g.β)(hψ:g'.ψ=g.ψ)(hh:∀e n,σ.has e n->(σ.inp U).has e n)(hrn:∀b,zb6 σ g w b->w'.heap[b]?=w.heap[b]?/\zb6 (σ.inp U) g' w' b):∀{cs:List C}{vs:List Value},cs.all C.mOk=true->CRs σ g w cs vs->CRs (σ.inp U) g' w' cs vs
 | [],_,_,h=>h
 | c::cs,vs,hc,h=>by
  rw[Kt,Qc]at hc;obtain⟨v,vs',rfl,h1,h2⟩:=h;exact⟨v,vs',rfl,qbz hβ hψ hh hrn hc.1 h1,zog hβ hψ hh hrn hc.2 h2⟩
theorem qee (hβ:g'.β=g.β)(hψ:g'.ψ=g.ψ)(hh:∀e n,σ.has e n->(σ.inp U).has e n)(hrn:∀b,zb6 σ g w b->w'.heap[b]?=w.heap[b]?/\zb6 (σ.inp U) g' w' b):∀{xs:List (Bool×List C)}{vs:List Value},(xs.all fun x=>x.2.all C.mOk)=true->CRt σ g w xs vs->CRt (σ.inp U) g' w' xs vs
 | [],_,_,h=>h
 | x::xs,vs,hc,h=>by
  rw[Kt,Qc]at hc;obtain⟨v,vs',rfl,h1,h2⟩:=h;refine⟨v,vs',rfl,?_,qee hβ hψ hh hrn hc.2 h2⟩;unfold CRx at h1⊢;split at h1
  ·rw[if_pos ‹_›];obtain⟨a,k1,k2⟩:=h1;exact⟨a,k1,zog hβ hψ hh hrn hc.1 k2⟩
  ·rw[if_neg ‹_›];obtain⟨c,k1,k2⟩:=h1;refine⟨c,k1,qbz hβ hψ hh hrn ?_ k2⟩;have:=hc.1;rw[k1]at this;simpa using this
theorem mOk_vr (hβ:g'.β=g.β)(hψ:g'.ψ=g.ψ)(hh:∀e n,σ.has e n->(σ.inp U).has e n)(hrn:∀b,zb6 σ g w b->w'.heap[b]?=w.heap[b]?/\zb6 (σ.inp U) g' w' b){x:V}{v:Value}(hc:x.mOk=true)(h:VR σ g w x v):VR (σ.inp U) g' w' x v:=by
 cases x with
 | one c=>exact qbz hβ hψ hh hrn hc h
 | agg cs=>obtain⟨a,k1,k2⟩:=h;exact⟨a,k1,zog hβ hψ hh hrn hc k2⟩
 | tup xs=>obtain⟨a,k1,k2⟩:=h;exact⟨a,k1,qee hβ hψ hh hrn hc k2⟩
end
end
section
open Go.RowKit
variable {P:Program}
theorem znc {σ:St}{U:List (Nat×List (List T))}{e n:Nat}(h:σ.has e n):(σ.inp U).has e n:=by
 obtain⟨x,hx,hn⟩:=h
 have:∀U:List (Nat×List (List T)),∃y,zyr U σ.ev e=some y/\y.gen=x.gen:=by
  intro U;induction U with
  | nil=>exact⟨x,hx,rfl⟩
  | cons p U ih =>
   obtain⟨y,hy,hg⟩:=ih;unfold zyr;by_cases he:e=p.1
   ·rw[he,zag,<-he,hx];exact⟨_,rfl,rfl⟩
   ·rw[zal _ _ he];exact⟨y,hy,hg⟩
 obtain⟨y,hy,hg⟩:=this U
 exact⟨y,hy,Yt⟩
theorem zwa {n0:Nat->Prop}{N:Nat}{σ:St}{g:Gh}{a:Act}{w w':World}(hR:Rel n0 N σ g a w){U:List (Nat×List (List T))}{fp:List Nat}(hfpU:∀b∈fp,∃p∈U,b∈g.φ p.1)(hOU:∀p∈U,σ.On p.1)(hbk:Bk (fun k=>k<w.heap.size/\k∉fp) w w')
  {φ':Nat->List Nat} (hb':∀p∈U,∀b∈φ' p.1,b∈fp\/w.heap.size<=b) (j1:∀e,(∀p∈U,p.1≠e)->φ' e=g.φ e) :
  ∀b,zb6 σ g w b->w'.heap[b]?=w.heap[b]?/\zb6 (σ.inp U) { g with φ:=φ' } w' b:=by
 rintro b ⟨hf,hr⟩
 have hnot:b∉fp:=fun hm=>by
  obtain⟨p,hp,hm⟩:=hfpU b hm;exact hr p.1 (hOU p hp) hm
 refine⟨hbk.block b ⟨hf.2.2.1,hnot⟩,⟨hf.1,fun e x hx hon hh=>?_,Jn hf.2.2.1 hbk.size,hf.2.2.2⟩,fun e ho hm=>?_⟩
 case refine_2 =>
  have hm:b∈φ' e:=hm;by_cases hU:∃p∈U,p.1=e
  ·obtain⟨p,hp,rfl⟩:=hU;rcases hb' p hp b hm with h3|h3
   ·exact hnot h3
   ·have:=hf.2.2.1;omega
  ·have hne:∀p∈U,p.1≠e:=fun p hp he=>hU ⟨p,hp,he⟩;rw[j1 e hne]at hm;obtain⟨x,hx,hon⟩:=ho;refine hr e ⟨x,?_,hon⟩ hm;rw[<-hx]
   exact(zh6 fun hm=>by
    obtain⟨p,hp,he⟩:=Kn.1 hm
    exact hne p hp he).symm
 have hh:(φ' e).head?=some b:=hh
 by_cases hU:∃p∈U,p.1=e
 ·obtain⟨p,hp,rfl⟩:=hU;rcases hb' p hp b (List.mem_of_mem_head? hh)with h3|h3
  ·exact hnot h3
  ·have:=hf.2.2.1;omega
 ·have hne:∀p∈U,p.1≠e:=fun p hp he=>hU ⟨p,hp,he⟩;rw[j1 e hne]at hh;refine hf.2.1 e x ?_ hon hh;rw[<-hx]
  exact(zh6 fun hm=>by
   obtain⟨p,hp,he⟩:=Kn.1 hm
   exact hne p hp he).symm
theorem qc8 {o:Oper}{σ:St}{x:Operand}{asx:Array Operand}{ts:Array TypeId}{f:FuncId}{cvs:List V}{pre:List D}{d:D}{post:List D}{d':D}{res:List D}{p1:List V}{gv:V}{p2:List V}(ho:o.op=.call ⟨.value x,asx,ts⟩)
  (h:IC P f pre d post d' res) (hc:za1 (σ.get P 0 x)=some (f,cvs)) (hx:σ.gets P asx ts++cvs=p1++gv::p2) (h1:qh1 p1 pre) (h2:qh1 p2 post) (hg:inG σ gv d d') (hr:res.all D.fl=true)
  (hview:Deep σ\/Shal σ (qlu gv d')):zai P o σ ((σ.inp (qlu gv d')).put o.dst (zlk (res.map D.toV))):=by
 intro n0 N g a w hR hn hdN
 obtain⟨vs,e1,e2⟩:=zdc hR ho hc h.1
 unfold Oper.wp
 rw[e1]
 rw[hx]at e2
 obtain⟨us1,vs2,rfl,v1,v2⟩:=e2.split
 obtain⟨v,us2,rfl,v3,v4⟩:=v2
 have hgiven:∃(U:List (Nat×List (List T))) (fp tp:List Nat),qlu gv d'=U/\U.Pairwise (fun p q=>p.1≠q.1)/\(∀p∈U,∃sz rows gn,σ.ev p.1=some ⟨true,sz,rows,gn,true⟩)/\GD w d v fp tp/\fp.Nodup/\(∀b∈fp,∃p∈U,b∈g.φ p.1)/\(∀p∈U,∀b∈g.φ p.1,b∈fp) ∧
   ∀{w':World} {fp' tp':List Nat},GD w' d' v fp' tp'->fp'.Nodup->∃φ':Nat->List Nat,(∀e,(∀p∈U,p.1≠e)->φ' e=g.φ e)/\(∀p∈U,∃sz rows gn,σ.ev p.1=some ⟨true,sz,rows,gn,true⟩/\za3 w' (.sl sz p.2) (g.ψ p.1 gn) (φ' p.1)/\(φ' p.1).Nodup/\∀b∈φ' p.1,b∈fp') ∧
    ∀p∈U,∀q∈U,p.1≠q.1->∀b∈φ' p.1,b∉φ' q.1:=by
  unfold inG at hg;split at hg
  ·rename_i c t t';obtain⟨k1,k2,⟨fp,tp,k3,k4,k5,k6⟩,k7⟩:=zfz hR hg (vs:=[v]) ⟨v,[],rfl,v3,rfl⟩;obtain⟨v0,vs0,f1,f2,t2,e,rfl,rfl,q1,q2⟩:=k3;cases e;obtain⟨_,rfl,rfl⟩:=q2;refine⟨_,f1++[],zj3 t f1++[],rfl,k1,fun p hp=>(k2 p hp).2,by simpa using⟨q1,rfl⟩,k4,k5,k6,fun hg' hn'=>k7 (fp':=_) (tp':=_) ⟨v,[],_,[],[],rfl,by simp,rfl,hg'.1,rfl,rfl,rfl⟩ hn'⟩
  ·rename_i cs ts ts';obtain⟨u,rfl,v3⟩:=v3;obtain⟨k1,k2,⟨fp,tp,k3,k4,k5,k6⟩,k7⟩:=zfz hR hg v3;refine⟨_,fp,tp,rfl,k1,fun p hp=>(k2 p hp).2,⟨u,rfl,k3⟩,k4,k5,k6,fun hg' hn'=>?_⟩;obtain⟨u',e,hg'⟩:=hg';cases e;exact k7 hg' hn'
  ·exact hg.elim
 obtain⟨U,fp,tp,hUe,u1,u2,u3,u4,u5,u6,u7⟩:=hgiven
 rw[hUe]at hview⊢
 refine(h.2 w us1 v us2 fp tp (zot _ h1 v1) u3 (zot _ h2 v4) u4).mono ?_
 rintro e w' ⟨us,fp',tp',rfl,q1,q2,q3,q4⟩
 obtain⟨v0,us0,f1,f2,t1,t2,e0,rfl,rfl,q5,q6⟩:=q1
 cases e0
 obtain⟨n1,n2,n3⟩:=Ka.1 q2
 obtain⟨φ',j1,j2,j3⟩:=u7 q5 n1
 have hsub:∀b∈f1,b∈fp\/w.heap.size<=b:=fun b hb=>q3 b (J7 _ hb)
 have hOU:∀p∈U,σ.On p.1:=fun p hp=>by obtain⟨sz,rows,gn,e⟩:=u2 p hp;exact⟨_,e,rfl⟩
 have hBk:Bk n0 w w':=⟨q4.os,q4.tape,q4.output,q4.size,fun k hk=>q4.block k ⟨hn k hk,fun hm=>by
  obtain⟨p,hp,hm⟩:=u5 k hm
  exact hR.etop p.1 (hOU p hp) k hm hk⟩⟩
 have hR':Rel n0 N (σ.inp U) { g with φ:=φ' } a w':=by
  have hb':∀p∈U,∀b∈φ' p.1,b∈fp\/w.heap.size<=b:=fun p hp b hb=>by
   obtain⟨_,_,_,_,_,_,q⟩:=j2 p hp;exact hsub b (q b hb)
  rcases hview with⟨d1,d2,d3⟩|hS
  ·refine hR.inp hn u1 u6 u5 q4 hsub j1 j2 j3 (fun i v h=>mOk_vr (g:=g) (g':={ g with φ:=φ' }) rfl rfl (fun e n=>znc) (zwa hR u5 hOU q4 hb' j1) (d1 i) h) (fun b cs vs hb h=>zog (g:=g) (g':={ g with φ:=φ' }) rfl rfl (fun e n=>znc) (zwa hR u5 hOU q4 hb' j1) (d2 b cs hb) h) (fun e x he hx hon v fpx hE hs=>?_) (fun e x hx hon=>?_)
   ·obtain⟨ao,cap,r1,r2,r3,r4⟩:=hE;refine⟨ao,cap,r1,r2,r3,?_⟩;rcases r4 with r4|⟨b,cells,ty,fps,r4,r5,r6,r7,r8⟩
    ·exact Or.inl r4
    ·subst r5;rw[if_pos (d3 e x hx).2]at r8;exact Or.inr ⟨b,cells,ty,fps,r4,rfl,by rw[hs b (by simp)];exact r6,r7,by rw[if_pos (d3 e x hx).2];exact zao.keep cells 0 x.sz x.rows fps r8 fun b' hb'=>hs b' (by simp[hb'])⟩
   ·rw[(d3 e x hx).1]at hon;cases hon
  ·have hhead:∀p∈U,∀b∈g.φ p.1,(g.φ p.1).head?=some b:=fun p hp b hb=>by
    obtain⟨sz,rows,gn,e⟩:=u2 p hp;have hf:=hS p hp;rw[e]at hf;obtain⟨ao,cap,r1,r2,r3,r4⟩:=hR.evs p.1 _ e rfl;rcases r4 with⟨_,_,_,r4⟩|⟨b0,cells,ty,fps,r4,r5,r6,r7,r8⟩
    ·rw[r4]at hb;cases hb
    ·rw[if_pos rfl]at r8;have:=zao.flat hf r8;rw[r5,this]at hb⊢;rw[Kg.1 hb];rfl
   have hnot:∀b,Fix σ g w b->b∉fp:=fun b hf hm=>by
    obtain⟨p,hp,hm⟩:=u5 b hm;obtain⟨sz,rows,gn,e⟩:=u2 p hp;exact hf.2.1 p.1 _ e rfl (hhead p hp b hm)
   have m:Mv σ (σ.inp U) g { g with φ:=φ' } w w':=by
    refine⟨fun b hf=>q4.block b ⟨hf.2.2.1,hnot b hf⟩,fun b hf=>⟨hf.1,fun e x hx hon hh=>?_,Jn hf.2.2.1 q4.size,hf.2.2.2⟩,fun b hb=>⟨rfl,hb⟩,fun e n he=>⟨znc he,rfl⟩,fun b hb=>(zwa hR u5 hOU q4 hb' j1 b hb).2.2⟩;have hh:(φ' e).head?=some b:=hh;by_cases hU:∃p∈U,p.1=e
    ·obtain⟨p,hp,rfl⟩:=hU;rcases hb' p hp b (List.mem_of_mem_head? hh)with h3|h3
     ·exact hnot b hf h3
     ·have:=hf.2.2.1;omega
    ·have hne:∀p∈U,p.1≠e:=fun p hp he=>hU ⟨p,hp,he⟩;rw[j1 e hne]at hh;refine hf.2.1 e x ?_ hon hh;rw[<-hx]
     exact(zh6 fun hm=>by
      obtain⟨p,hp,he⟩:=Kn.1 hm
      exact hne p hp he).symm
   exact hR.inp hn u1 u6 u5 q4 hsub j1 j2 j3 (fun i v h=>m.vr h) (fun b cs vs _ h=>m.crs h) (fun e x _ _ _ v fpx hE hs=>m.evr hE hs) (fun e x _ _ v h=>m.rep h)
 refine⟨{ g with φ:=φ' },?_,hBk,rfl,rfl⟩
 exact hR'.put o.dst (zd7 (zbv.vrl (zrf hr q6)) (fun y hy=>by
  obtain⟨d,_,rfl⟩:=Kn.1 hy
  cases d<;>rfl)) hdN
def qh6 (σ:St):List (Nat×List (List T))->Prop
 | []=>True
 | p::U=>zav (σ.ev p.1) (fun x=>flR x.rows=true)/\qh6 σ U
theorem zl6 {σ:St}:∀{U:List (Nat×List (List T))},qh6 σ U->Shal σ U
 | [],_,p,hp=>absurd hp (by simp)
 | q::U,h,p,hp=>by
  rcases Qu.1 hp with rfl|hp
  ·exact h.1
  ·exact zl6 h.2 p hp
theorem zu7:∀{l:List (Nat×V)},(l.all fun p=>p.2.mOk)=true->∀i,(zgw l i).mOk=true
 | [],_,_=>rfl
 | (j,v)::l,h,i=>by
  rw[Kt,Qc]at h;unfold zgw;split
  ·exact h.1
  ·exact zu7 h.2 i
theorem zvq:∀{bl:List (Nat×List C)},(bl.all fun p=>p.2.all C.mOk)=true->∀{b cs},tbl bl b=some cs->cs.all C.mOk=true
 | [],_,_,_,hb=>nomatch hb
 | (j,v)::l,h,b,cs,hb=>by
  rw[Kt,Qc]at h;unfold tbl at hb;split at hb
  ·cases hb;exact h.1
  ·exact zvq h.2 hb
theorem zur:∀{el:List (Nat×Ev)},(el.all fun p=>p.2.on&&p.2.deep)=true->∀{e x},tbl el e=some x->x.on=true/\x.deep=true
 | [],_,_,_,hb=>nomatch hb
 | (j,v)::l,h,b,cs,hb=>by
  rw[Kt,Qc]at h;unfold tbl at hb;split at hb
  ·cases hb;simpa using h.1
  ·exact zur h.2 hb
def spI (xs:List V)(n:Nat)(K:List V->V->List V->Prop):Prop:=match xs.drop n with
 | gv::p2=>K (xs.take n) gv p2
 | []=>False
theorem spI_ex {xs:List V}{n:Nat}{K:List V->V->List V->Prop}(h:spI xs n K):∃p1 gv p2,xs=p1++gv::p2/\p1.length<=n/\K p1 gv p2/\gv=(xs.drop n).headD (.one .any):=by
 unfold spI at h
 split at h
 ·rename_i gv p2 hd;exact⟨xs.take n,gv,p2,by rw[<-hd,K0],by simp;omega,h,by rw[hd];rfl⟩
 ·exact h.elim
def St.cI (P:Program)(σ:St)(x:Operand)(asx:Array Operand)(ts:Array TypeId)(n:Nat)(dst:Option Nat)(d':D)(res:List D):St :=
 (σ.inp (qlu (((σ.gets P asx ts++((za1 (σ.get P 0 x)).map (·.2)).getD []).drop n).headD (.one .any)) d')).put dst (zlk (res.map D.toV))
section
variable {ks:List Fr}{Q:Exit->St->Prop}{σ:St}{ops:Array Oper}{os:List Oper}{ty:TypeId}{ps:String}{af:Array Edge}{dst:Option Nat}{x:Operand}{asx:Array Operand}{ts:Array TypeId}{f:FuncId}{pre:List D}{d:D}{post:List D}{d':D}{res:List D}
theorem qde (hview:∀gv,(gv=(((σ.gets P asx ts++((za1 (σ.get P 0 x)).map (·.2)).getD []).drop pre.length).headD (.one .any)))->Deep σ\/Shal σ (qlu gv d'))(h:IC P f pre d post d' res)
  (hp:zav (za1 (σ.get P 0 x)) fun p=>p.1=f/\spI (σ.gets P asx ts++p.2) pre.length fun p1 gv p2=>qh1 p1 pre/\qh1 p2 post/\inG σ gv d d') (hr:res.all D.fl=true) :
  zai P ⟨dst,.call ⟨.value x,asx,ts⟩,ty,ps,af,none⟩ σ (σ.cI P x asx ts pre.length dst d' res):=by
 obtain⟨⟨f',cvs⟩,h1,rfl,h2⟩:=zar hp
 obtain⟨p1,gv,p2,e,_,⟨k1,k2,k3⟩,e2⟩:=spI_ex h2
 unfold St.cI
 have e3:((σ.gets P asx ts++((za1 (σ.get P 0 x)).map (·.2)).getD []).drop pre.length).headD (.one .any)=gv:=by rw[h1];exact e2.symm
 rw[e3]
 exact qc8 (o:=⟨dst,.call ⟨.value x,asx,ts⟩,ty,ps,af,none⟩) rfl h h1 e k1 k2 k3 hr (hview gv e3.symm)
theorem qk6 (h:IC P f pre d post d' res)
  (hp:zav (za1 (σ.get P 0 x)) fun p=>p.1=f/\spI (σ.gets P asx ts++p.2) pre.length fun p1 gv p2=>qh1 p1 pre/\qh1 p2 post/\inG σ gv d d')
  (hs:qh6 σ (qlu (((σ.gets P asx ts++((za1 (σ.get P 0 x)).map (·.2)).getD []).drop pre.length).headD (.one .any)) d')) (hr:res.all D.fl=true)
  (k:exo P ops os ks Q (σ.cI P x asx ts pre.length dst d' res)):exo P ops (⟨dst,.call ⟨.value x,asx,ts⟩,ty,ps,af,none⟩::os) ks Q σ :=
 zda rfl rfl (qde (fun gv e=>Or.inr (e▸zl6 hs)) h hp hr) k
end
attribute [go_sem] qh6 spI St.cI qlu inU St.inp zyr inG inK qh1 nmV T.nm D.fl V.mOk C.mOk List.drop_succ_cons List.take_zero List.take_succ_cons List.headD_cons Option.getD_some
end
end Go.Proofs.YtliiapbmkcbfaaaGreat
