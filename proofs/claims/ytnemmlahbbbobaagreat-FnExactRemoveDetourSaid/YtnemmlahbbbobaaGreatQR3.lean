/-
  The walk over plain data, and contracts of functions of the program and of its laws.
  Conditions: those that each theorem names.
-/
import Derived.Test.YtnemmlahbbbobaaGreatQR2
import Derived.Laws.MakeOwn
namespace Go.Proofs.YtnemmlahbbbobaaGreat
set_option linter.unusedSimpArgs false
set_option linter.unusedVariables false
set_option linter.unusedSectionVars false
set_option maxRecDepth 4000
set_option maxHeartbeats 8000000
section
open Go.RowKit
variable {P:Program}
abbrev Ky:=Nat×Nat
def za8 (σ σ1:St)(k:Ky):Prop:=match k.1 with
 | 0=>σ.sl k.2=σ1.sl k.2
 | 1=>σ.bx k.2=σ1.bx k.2
 | _=>σ.ev k.2=σ1.ev k.2
theorem za8.refl (σ:St)(k:Ky):za8 σ σ k:=by unfold za8;split<;>rfl
theorem za8.symm {σ σ1:St}:∀{k:Ky},za8 σ σ1 k->za8 σ1 σ k
 | (0,_),h=>Eq.symm h
 | (1,_),h=>Eq.symm h
 | (_+2,_),h=>Eq.symm h
theorem za8.trans {σ σ1 σ2:St}:∀{k:Ky},za8 σ σ1 k->za8 σ1 σ2 k->za8 σ σ2 k
 | (0,_),h,h'=>Eq.trans h h'
 | (1,_),h,h'=>Eq.trans h h'
 | (_+2,_),h,h'=>Eq.trans h h'
def zny (σ:St)(W:List Ky)(σ':St):St :=
 ⟨λi=>if(0,i)∈W then σ'.sl i else σ.sl i,λb=>if(1,b)∈W then σ'.bx b else σ.bx b,λe=>if(2,e)∈W then σ'.ev e else σ.ev e⟩
def okK (W:List Ky):Bool:=W.all λk=>k.1<3
theorem ze7 {σ σ':St}{W:List Ky}(hW:okK W=true){k:Ky}(h:k∈W):za8 (zny σ W σ') σ' k:=by
 obtain⟨n,i⟩:=k
 have hn:n<3:=by
  unfold okK at hW;rw[Qq]at hW;simpa using hW _ h
 match n,hn with
 | 0,_=>show ite _ _ _=_;rw[if_pos h]
 | 1,_=>show ite _ _ _=_;rw[if_pos h]
 | 2,_=>show ite _ _ _=_;rw[if_pos h]
theorem zb6 {σ σ':St}{W:List Ky}{n i:Nat}(hn:n<3)(h:(n,i)∉W):za8 (zny σ W σ') σ (n,i):=by
 match n,hn with
 | 0,_=>show ite _ _ _=_;rw[if_neg h]
 | 1,_=>show ite _ _ _=_;rw[if_neg h]
 | 2,_=>show ite _ _ _=_;rw[if_neg h]
theorem za8.all3 {σ σ1:St}(h:∀n i,n<3->za8 σ σ1 (n,i)):σ=σ1:=by
 obtain⟨s,b,e⟩:=σ
 obtain⟨s1,b1,e1⟩:=σ1
 simp only[St.mk.injEq]
 exact⟨funext λi=>h 0 i Y0,funext λi=>h 1 i Y0,funext λi=>h 2 i Y0⟩
def qnk (P:Program)(ops:Array Oper)(o:Oper)(σ σ':St):Prop :=
 ∀n0 N g a w,Rel n0 N σ g a w->LtK n0 w->(∀d,o.dst=some d->d<N) →
  if Region.wanted o (yielded ops a.tmps)=true then o.wp P a w (λa' w'=>∃g',Rel n0 N σ' g' a' w'/\Bk n0 w w'/\g'.A0=g.A0/\g'.R0=g.R0) (λ_ _ _=>False)
  else ∃g',Rel n0 N σ' g' (a.put o.dst undef) w/\g'.A0=g.A0/\g'.R0=g.R0
def Loc (P:Program)(ops:Array Oper)(o:Oper)(R W:List Ky)(σ σ':St):Prop :=
 okK W=true/\okK R=true/\(∀k:Ky,k.1<3->k∉W->za8 σ σ' k)/\∀σ1,(∀k∈R,za8 σ σ1 k)->qnk P ops o σ1 (zny σ1 W σ')
def zf1 (P:Program)(o:Oper)(R W:List Ky)(σ σ':St):Prop :=
 okK W=true/\okK R=true/\(∀k:Ky,k.1<3->k∉W->za8 σ σ' k)/\∀σ1,(∀k∈R,za8 σ σ1 k)->zak P o σ1 (zny σ1 W σ')
section
variable (σs:Nat->St)(RW:Nat->List Ky×List Ky)
def Fp (p:Nat->Bool):Nat->St
 | 0=>σs 0
 | m+1=>if p m=true then zny (Fp p m) (RW m).2 (σs (m+1))else Fp p m
variable {σs RW}{n:Nat}(hok:∀i,i<n->okK (RW i).2=true)(hoff:∀i,i<n->∀k:Ky,k.1<3->k∉(RW i).2->za8 (σs i) (σs (i+1)) k)
include hok hoff
theorem znv {p:Nat->Bool}:∀m,m<=n->(∀j,j<m->p j=true)->Fp σs RW p m=σs m
 | 0,_,_=>rfl
 | m+1,hm,h=>by
  unfold Fp;rw[if_pos (h m Y0),znv m Y0 λj hj=>h j Y0];refine za8.all3 λc i hc=>?_;by_cases hk:(c,i)∈(RW m).2
  ·exact ze7 (hok m Y0) hk
  ·exact(zb6 hc hk).trans (hoff m Y0 _ hc hk)
omit hoff in
theorem zqk {p q:Nat->Bool}{c i:Nat}(hc:c<3):∀m,m<=n->(∀j,j<m->(c,i)∈(RW j).2->p j=q j)->za8 (Fp σs RW p m) (Fp σs RW q m) (c,i)
 | 0,_,_=>za8.refl _ _
 | m+1,hm,h=>by
  have ih:=zqk (p:=p) (q:=q) hc m Y0 λj hj=>h j Y0;unfold Fp;by_cases hk:(c,i)∈(RW m).2
  ·rw[h m Y0 hk];split
   ·exact(ze7 (hok m Y0) hk).trans (ze7 (hok m Y0) hk).symm
   ·exact ih
  ·split
   ·split
    ·exact((zb6 hc hk).trans ih).trans (zb6 hc hk).symm
    ·exact(zb6 hc hk).trans ih
   ·split
    ·exact ih.trans (zb6 hc hk).symm
    ·exact ih
omit hok hoff in
theorem qkt {q:Nat->Bool}{i:Nat}(hq:∀j,i<=j->q j=false):∀d,Fp σs RW q (i+d)=Fp σs RW q i
 | 0=>rfl
 | d+1=>by
  rw[show i+(d+1)=(i+d)+1 by omega];show(if q (i+d)=true then _ else _)=_
  rw[hq (i+d) Y0];simp only[Qp,if_false];exact qkt hq d
variable (hR:∀i,i<n->okK (RW i).1=true){b:Nat->Nat->Bool}(hdis:∀i j,i<j->j<n->b j i=false->(∀k∈(RW i).2,k∉(RW j).1/\k∉(RW j).2)/\∀k∈(RW i).1,k∉(RW j).2){p:Nat->Bool}{i:Nat}(hi:i<n)(hp:p i=false)(h1:∀j,j<n->b i j=true->p j=true)(h2:∀j,j<n->p j=true->b j i=true->p i=true)
include hR hdis hi hp h1 h2
theorem zrr {k:Ky}(hk:k∈(RW i).1):za8 (σs i) (Fp σs RW p n) k:=by
 obtain⟨c,x⟩:=k
 have hc:c<3:=by
  have:=hR i hi;unfold okK at this;rw[Qq]at this;simpa using this _ hk
 have e1:Fp σs RW (λj=>decide (j<i)) i=σs i:=znv hok hoff i Y0 λj hj=>by simpa using hj
 have e2:Fp σs RW (λj=>decide (j<i)) n=Fp σs RW (λj=>decide (j<i)) i:=by
  have:=qkt (σs:=σs) (RW:=RW) (q:=λj=>decide (j<i)) (i:=i) (λj hj=>by simp;omega) (n-i)
  rwa [show i+(n-i)=n by omega]at this
 rw[<-e1,<-e2]
 refine zqk hok hc n (Qz _) λj hj hw=>?_
 by_cases hji:j<i
 ·have hb:b i j=true:=by
   cases hbb:b i j with
   | true=>rfl
   | false=>exact absurd hk ((hdis j i hji hi hbb).1 _ hw).1
  rw[h1 j hj hb];simpa using hji
 ·have hfalse:p j=false:=by
   by_cases hje:j=i
   ·subst hje;exact hp
   ·cases hpj:p j with
    | false=>rfl
    | true =>
     have hb:b j i=true:=by
      cases hbb:b j i with
      | true=>rfl
      | false=>exact absurd hw ((hdis i j Y0 hj hbb).2 _ hk)
     rw[h2 j hj hpj hb]at hp;cases hp
  rw[hfalse];simp;omega
omit hoff hR in
theorem zix {p':Nat->Bool}(hp':∀j,p' j=if j=i then true else p j):Fp σs RW p' n=zny (Fp σs RW p n) (RW i).2 (σs (i+1)):=by
 refine za8.all3 λc x hc=>?_
 by_cases hk:(c,x)∈(RW i).2
 ·refine za8.trans ?_ (ze7 (hok i hi) hk).symm;have key:∀d,i+1+d<=n->za8 (Fp σs RW p' (i+1+d)) (σs (i+1)) (c,x):=by
   intro d;induction d with
   | zero =>
    intro _;show za8 (if p' i=true then _ else _) _ _
    rw[hp' i,if_pos rfl,if_pos rfl];exact ze7 (hok i hi) hk
   | succ d ih =>
    intro hd;rw[show i+1+(d+1)=(i+1+d)+1 by omega];show za8 (if p' (i+1+d)=true then _ else _) _ _
    split
    ·rename_i hpp;have hnk:(c,x)∉(RW (i+1+d)).2:=λhw=>by
      rw[hp',if_neg Y0]at hpp;have hb:b (i+1+d) i=true:=by
       cases hbb:b (i+1+d) i with
       | true=>rfl
       | false=>exact absurd hw ((hdis i (i+1+d) Y0 Y0 hbb).1 _ hk).2
      rw[h2 _ Y0 hpp hb]at hp;cases hp
     exact(zb6 hc hnk).trans (ih Y0)
    ·exact ih Y0
  have:=key (n-(i+1)) Y0
  rwa [show i+1+(n-(i+1))=n by omega]at this
 ·refine za8.trans (zqk hok hc n (Qz _) λj hj hw=>?_) (zb6 hc hk).symm;have hji:j≠i:=λhje=>hk (by subst hje;exact hw);rw[hp',if_neg hji]
end
def cnt (p:Nat->Bool):Nat->Nat
 | 0=>0
 | m+1=>(if p m=true then 0 else 1)+cnt p m
theorem zit {p:Nat->Bool}:∀n,cnt p n=0->∀j,j<n->p j=true
 | 0,_,j,hj=>by omega
 | m+1,h,j,hj=>by
  unfold cnt at h;by_cases hpm:p m=true
  ·by_cases hjm:j=m
   ·exact hjm▸hpm
   ·exact zit m Y0 j Y0
  ·rw[if_neg hpm]at h;omega
theorem zzj {p q:Nat->Bool}:∀n,(∀j,j<n->p j=q j)->cnt p n=cnt q n
 | 0,_=>rfl
 | m+1,h=>by unfold cnt;rw[h m Y0,zzj m λj hj=>h j Y0]
theorem zj9 {p q:Nat->Bool}{i:Nat}(hp:p i=false)(hq:∀j,q j=if j=i then true else p j):∀n,i<n->cnt p n=cnt q n+1
 | 0,h=>by omega
 | m+1,h=>by
  unfold cnt;by_cases him:i=m
  ·subst him;rw[hq i,if_pos rfl,hp,zzj (p:=p) (q:=q) i λj hj=>by rw[hq,if_neg Y0]];simp;omega
  ·have hqm:q m=p m:=by rw[hq,if_neg (λh=>him h.symm)]
   rw[hqm,zj9 hp hq m Y0];omega
def zqd (ops:Array Oper)(L:List (List Ky×List Ky)):Bool :=
 let b:=Region.before ops
 (List.range ops.size).all λj =>
  ((ops.getD j default).after.all λe=>!Region.binds .any e||decide (e.on<j)) &&
  ((List.range ops.size).all λi=>!(b.getD j 0).testBit i||(ops.getD j default).after.any λe=>Region.binds .any e&&(e.on==i||(b.getD e.on 0).testBit i)) &&
  ((List.range j).all λi=>(b.getD j 0).testBit i||(((L.getD i ([],[])).2.all λk=>!(L.getD j ([],[])).1.contains k&&!(L.getD j ([],[])).2.contains k)&&(L.getD i ([],[])).1.all λk=>!(L.getD j ([],[])).2.contains k))
theorem qg7 {ops:Array Oper}{σs:Nat->St}{L:List (List Ky×List Ky)}{n0:Nat->Prop}{N:Nat}{w0:World}{A0:(Nat->Prop)×RP}{Q:Exit->Act->World->Prop}
  (hL:∀i (h:i<ops.size),Loc P ops ops[i] (L.getD i ([],[])).1 (L.getD i ([],[])).2 (σs i) (σs (i+1))) (hord:zqd ops L=true) (hdst:∀o∈ops,∀d,o.dst=some d->d<N)
  (hQ:∀g a w,Rel n0 N (σs ops.size) g a w->LtK n0 w->Bk n0 w0 w->(g.A0,g.R0)=A0->Q .normal a w) :
  ∀(fuel:Nat) (listed:Array Bool) (g:Gh) (a:Act) (w:World),listed.size=ops.size->cnt (λi=>listed.getD i false) ops.size=fuel →
   (∀j (h:j<ops.size),listed.getD j false=true->∀e∈ops[j].after,Region.binds .any e=true->listed.getD e.on false=true) →
   Rel n0 N (Fp σs (λi=>L.getD i ([],[])) (λi=>listed.getD i false) ops.size) g a w->LtK n0 w->Bk n0 w0 w->(g.A0,g.R0)=A0->wpAny P .any ops Q fuel listed a w:=by
 have hok:∀i,i<ops.size->okK (L.getD i ([],[])).2=true:=λi h=>(hL i h).1
 have hRk:∀i,i<ops.size->okK (L.getD i ([],[])).1=true:=λi h=>(hL i h).2.1
 have hoff:∀i,i<ops.size->∀k:Ky,k.1<3->k∉(L.getD i ([],[])).2->za8 (σs i) (σs (i+1)) k:=λi h=>(hL i h).2.2.1
 have hget:∀j (h:j<ops.size),ops.getD j default=ops[j]:=λj h=>by simp[Array.getD,h]
 unfold zqd at hord
 simp only[Qq,Jn,Qb]at hord
 have hlt:∀j (h:j<ops.size),∀e∈ops[j].after,Region.binds .any e=true->e.on<j:=λj h e he hb=>by
  have:=(hord j h).1.1;rw[hget j h]at this;have:=(Km.1 this) e he;simpa[hb]using this
 have hbef:∀j (h:j<ops.size),∀i,i<ops.size->((Region.before ops).getD j 0).testBit i=true->∃e∈ops[j].after,Region.binds .any e=true/\(e.on=i\/((Region.before ops).getD e.on 0).testBit i=true):=λj h i hi hb=>by
  have:=(hord j h).1.2 i hi;rw[hb,hget j h]at this;simp only[Qd,K0]at this;obtain⟨e,he,h1⟩:=Array.any_eq_true'.1 this;simp only[Qb,K1,Q9]at h1;exact⟨e,he,h1.1,h1.2⟩
 have hdis:∀i j,i<j->j<ops.size->((Region.before ops).getD j 0).testBit i=false->(∀k∈(L.getD i ([],[])).2,k∉(L.getD j ([],[])).1/\k∉(L.getD j ([],[])).2)/\∀k∈(L.getD i ([],[])).1,k∉(L.getD j ([],[])).2:=λi j hij hj hb=>by
  have:=(hord j hj).2 i hij;rw[hb]at this;simp only[K0,Qb,Qq,J4,List.contains_eq_mem,Ju]at this;exact⟨λk hk=>this.1 k hk,λk hk=>this.2 k hk⟩
 intro fuel
 induction fuel with
 | zero =>
  intro listed g a w hsz hc hcl hrel hn hb hA;have hall:=zit _ hc;refine⟨?_,?_⟩
  ·unfold Region.ready;rw[List.filter_eq_nil_iff];intro i hi;have hi':=Jn.1 hi;have:=hall i hi';simp only[Array.getD_eq_getD_getElem?]at this⊢;rw[Array.getElem?_eq_getElem Y0]at this⊢;simp only[Kq]at this⊢;simp[this]
  ·refine hQ g a w ?_ hn hb hA
   rwa [znv hok hoff ops.size (Qz _) hall]at hrel
 | succ fuel ih =>
  intro listed g a w hsz hc hcl hrel hn hb hA;have hbb:∀j (h:j<ops.size),listed.getD j false=true->∀i,i<ops.size->((Region.before ops).getD j 0).testBit i=true->listed.getD i false=true:=by
   intro j;induction j using Nat.strongRecOn with
   | _ j ihj =>
    intro h hl i hi hbi;obtain⟨e,he,h1,h2⟩:=hbef j h i hi hbi;have hle:=hcl j h hl e he h1;have hlt':=hlt j h e he h1;rcases h2 with rfl|h2
    ·exact hle
    ·exact ihj e.on hlt' Y0 hle i hi h2
  refine⟨λhr=>?_,λi hi=>?_⟩
  ·-- some operation is due
   exfalso;have:∀j,j<ops.size->listed.getD j false=true:=by
    intro j;induction j using Nat.strongRecOn with
    | _ j ihj =>
     intro hj;cases hl:listed.getD j false with
     | true=>rfl
     | false =>
      exfalso;have hmem:j∈Region.ready .any ops listed:=by
       unfold Region.ready;rw[Jq];refine⟨Jn.2 hj,?_⟩;have hl':listed.getD j true=false:=by
        simp only[Array.getD_eq_getD_getElem?]at hl⊢;rw[Array.getElem?_eq_getElem Y0]at hl⊢;exact hl
       rw[hl',Array.getElem?_eq_getElem hj];simp only[Qj,Qv,Q8,Kq];rw[Km];intro e he;cases hbd:Region.binds .any e with
       | false=>rfl
       | true=>simpa using ihj e.on (hlt j hj e he hbd) (by have:=hlt j hj e he hbd;omega)
      rw[hr]at hmem;exact absurd hmem (by simp)
   have hz:cnt (λi=>listed.getD i false) ops.size=0:=by
    have:∀m,m<=ops.size->cnt (λi=>listed.getD i false) m=0:=by
     intro m;induction m with
     | zero=>intro _;rfl
     | succ m ihm=>intro hm;unfold cnt;rw[if_pos (this m Y0),ihm Y0]
    exact this _ (Qz _)
   omega
  ·unfold Region.ready at hi;rw[Jq]at hi;obtain⟨hi1,hi2⟩:=hi;have hi':=Jn.1 hi1;rw[Array.getElem?_eq_getElem hi']at hi2;simp only[Q8,Kq,Qb,J4]at hi2;obtain⟨hl0,hafter⟩:=hi2;have hl:listed.getD i false=false:=by
    simp only[Array.getD_eq_getD_getElem?]at hl0⊢;rw[Array.getElem?_eq_getElem Y0]at hl0⊢;exact hl0
   have hdue:∀e∈ops[i].after,Region.binds .any e=true->listed.getD e.on false=true:=λe he hbd=>by
    have:=(Km.1 hafter) e he;simpa[hbd]using this
   have h1:∀j,j<ops.size->((Region.before ops).getD i 0).testBit j=true->listed.getD j false=true:=λj hj hbj=>by
    obtain⟨e,he,k1,k2⟩:=hbef i hi' j hj hbj;have hle:=hdue e he k1;have hlt':=hlt i hi' e he k1;rcases k2 with rfl|k2
    ·exact hle
    ·exact hbb e.on Y0 hle j hj k2
   have h2:∀j,j<ops.size->listed.getD j false=true->((Region.before ops).getD j 0).testBit i=true->listed.getD i false=true:=λj hj hlj hbj=>hbb j hj hlj i hi' hbj;have hset:∀j,(listed.setIfInBounds i true).getD j false=if j=i then true else listed.getD j false:=λj=>by
    simp only[Array.getD_eq_getD_getElem?,Array.getElem?_setIfInBounds];by_cases hji:j=i
    ·subst hji;rw[if_pos rfl,if_pos Y0,if_pos rfl];rfl
    ·rw[if_neg (λh=>hji h.symm),if_neg hji]
   obtain⟨_,_,_,hstep⟩:=hL i hi';have hG:=hstep _ (λk hk=>zrr (σs:=σs) (RW:=λi=>L.getD i ([],[])) (b:=λj i=>((Region.before ops).getD j 0).testBit i) (p:=λi=>listed.getD i false) hok hoff hRk hdis hi' hl h1 h2 hk);have hw:=zix (σs:=σs) (RW:=λi=>L.getD i ([],[])) (b:=λj i=>((Region.before ops).getD j 0).testBit i) (p:=λi=>listed.getD i false) hok hdis hi' hl h1 h2 (p':=λj=>(listed.setIfInBounds i true).getD j false) hset;have hcnt:=zj9 (p:=λi=>listed.getD i false) (q:=λj=>(listed.setIfInBounds i true).getD j false) hl hset ops.size hi';have hG':=hG n0 N g a w hrel hn (hdst _ (Yb hi'));rw[<-hw]at hG';have next:∀a' w',(∃g',Rel n0 N (Fp σs (λi=>L.getD i ([],[])) (λj=>(listed.setIfInBounds i true).getD j false) ops.size) g' a' w'/\Bk n0 w w'/\g'.A0=g.A0/\g'.R0=g.R0)->wpAny P .any ops Q fuel (listed.setIfInBounds i true) a' w':=by
    rintro a' w' ⟨g',k1,k2,k3,k4⟩;refine ih _ g' a' w' (by simpa using hsz) Y0 (λj hj hlj e he hbd=>?_) k1 (hn.mono k2.size) (hb.trans k2) (by rw[k3,k4];exact hA);rw[hset]at hlj⊢;by_cases heo:e.on=i
    ·rw[if_pos heo]
    ·rw[if_neg heo];by_cases hji:j=i
     ·subst hji;exact hdue e he hbd
     ·rw[if_neg hji]at hlj;exact hcl j hj hlj e he hbd
   unfold wpOp;rw[Array.getElem?_eq_getElem hi'];simp only;split
   ·rename_i hwd;rw[if_pos hwd]at hG';exact Or.inl (zcu next hG')
   ·rename_i hwd;rw[if_neg hwd]at hG';obtain⟨g',k1,k2,k3⟩:=hG';exact next _ _ ⟨g',k1,Bk.refl _ _,k2,k3⟩
end
section
open Go.RowKit
variable {P:Program}
def dK:Option Nat->List Ky
 | some d=>[(0,d)]
 | none=>[]
def zas:List Operand->List Ky
 | []=>[]
 | .tmp t::l=>(0,t)::zas l
 | _::l=>zas l
def zo6:Op->List Operand
 | .move x|.assign x|.box _ x|.load _ x|.nilCheck x|.unOp _ _ x|.convert _ _ x|.fieldAddr _ x _|.field _ x _|.extract x _=>[x]
 | .pick c a b=>[c,a,b]
 | .build _ ps=>ps.toList.map (·.2)
 | .store _ a v|.binOp _ _ a v _|.indexAddr _ a v|.index _ a v=>[a,v]
 | .makeFunc _ _ captured=>captured.toList
 | .call { args,.. }=>args.toList
 | .slice _ x l h m=>x::(l.toList++h.toList++m.toList)
 | _=>[]
def vK:V->List Ky
 | .one (.bx b _)=>[(1,b)]
 | .one (.ow e _)=>[(2,e)]
 | .one (.eo e _ _ _ _)=>[(2,e)]
 | _=>[]
def bK:Option Nat->List Ky
 | some d=>[(1,d)]
 | none=>[]
def lenK (get:TypeId->Operand->V):List Operand->List TypeId->List Ky
 | [x],[t]=>vK (get t x)
 | _,_=>[]
def qao (P:Program)(o:Oper)(σ:St):List Ky :=
 match o.op with
 | .load _ x=>vK (σ.get P 0 x)
 | .indexAddr t x _=>vK (σ.get P t x)
 | .convert s _ x=>vK (σ.get P s x)
 | .call { callee:=.builtin .len,args,argTypes }=>lenK (σ.get P) args.toList argTypes.toList
 | .alloc _=>bK o.dst
 | .box _ _=>bK o.dst
 | .store _ a _=>vK (σ.get P 0 a)
 | _=>[]
def zyg (P:Program)(o:Oper)(σ:St):List Ky :=
 match o.op with
 | .alloc _=>bK o.dst
 | .box _ _=>bK o.dst
 | .store _ a _=>vK (σ.get P 0 a)
 | _=>[]
def stR (P:Program)(o:Oper)(σ:St):List Ky:=zas (zo6 o.op)++qao P o σ
def stW (P:Program)(o:Oper)(σ:St):List Ky:=dK o.dst++zyg P o σ
theorem zpa {x:Nat}:∀{l:List Operand},Operand.tmp x∈l->(0,x)∈zas l
 | [],h=>by simp at h
 | y::l,h=>by
  rcases Qu.1 h with h|h
  ·subst h;simp[zas]
  ·have:=zpa h;cases y<;>simp[zas,this]
theorem zca {σ σ1:St}{l:List Operand}(h:∀k∈zas l,za8 σ σ1 k){x:Operand}(hx:x∈l)(t:TypeId):σ1.get P t x=σ.get P t x:=by
 cases x with
 | tmp i =>
  show(if i<1000000 then σ1.sl i else .one .any)=(if i<1000000 then σ.sl i else .one .any)
  rw[show σ1.sl i=σ.sl i from(h (0,i) (zpa hx)).symm]
 | const v=>rfl
 | global g=>rfl
 | func f=>rfl
theorem at_loc {σ σ1:St}{v:V}(h:∀k∈vK v,za8 σ σ1 k):σ1.at v=σ.at v:=by
 unfold St.at
 split
 ·rename_i b o;have:=h (1,b) (by simp[vK]);rw[show σ1.bx b=σ.bx b from Eq.symm this]
 ·rfl
 ·rfl
 ·rfl
 ·rename_i e g z i o;have:=h (2,e) (by simp[vK]);rw[show σ1.ev e=σ.ev e from Eq.symm this]
 ·rfl
theorem zli (σ σ1:St)(d:Option Nat)(v:V):zny σ1 (dK d) (σ.put d v)=σ1.put d v:=by
 cases d with
 | none=>exact za8.all3 λc i hc=>zb6 hc (by simp[dK])
 | some d =>
  obtain⟨s,b,e⟩:=σ1;unfold zny St.put dK;simp only[Qu,K2,or_false,Qt,St.mk.injEq];refine⟨funext λi=>?_,funext λi=>?_,funext λi=>?_⟩
  ·by_cases hi:i=d
   ·subst hi;simp[zaf]
   ·simp[hi,zan]
  ·simp
  ·simp
theorem zdx {σ:St}{d:Option Nat}{v:V}{k:Ky}(h:k∉dK d):za8 σ (σ.put d v) k:=by
 cases d with
 | none=>exact za8.refl _ _
 | some d =>
  obtain⟨n,i⟩:=k
  match n with
  | 0 =>
   have hi:i≠d:=λhi=>h (by subst hi;simp[dK]);exact(zan σ.sl v hi).symm
  | 1=>rfl
  | n+2=>rfl
theorem zvv (d:Option Nat):okK (dK d)=true:=by cases d<;>rfl
theorem bK_ok (d:Option Nat):okK (bK d)=true:=by cases d<;>rfl
theorem qvm (v:V):okK (vK v)=true:=by unfold vK;split<;>rfl
theorem zbh:∀l:List Operand,okK (zas l)=true
 | []=>rfl
 | x::l=>by
  have:=zbh l;unfold okK at *;cases x<;>simpa[zas]using this
theorem zbf {a b:List Ky}(ha:okK a=true)(hb:okK b=true):okK (a++b)=true:=by
 unfold okK at *
 rw[List.all_append,ha,hb];rfl
theorem qkd (o:Oper)(σ:St):okK (qao P o σ)=true:=by
 unfold qao
 split<;>first|exact qvm _|exact bK_ok _|rfl|skip
 unfold lenK
 split
 ·exact qvm _
 ·rfl
theorem qko (o:Oper)(σ:St):okK (zyg P o σ)=true:=by
 unfold zyg
 split<;>first|exact qvm _|exact bK_ok _|rfl
def qj3 (P:Program)(o:Oper)(σ σ' σ1:St)(p:Prop):Prop:=∃v,σ'=σ.put o.dst v/\st0 P o σ1=some (p,σ1.put o.dst v)
theorem zcz {σ σ':St}(σ1:St){d:Option Nat}{X:Option V}{p:Prop}(h:σ.out d X=some (p,σ')):∃v,σ'=σ.put d v/\σ1.out d X=some (p,σ1.put d v):=by
 unfold St.out at *
 cases X with
 | none=>cases h
 | some v=>simp only[Q8,Qe,Qt]at h⊢;exact⟨v,h.2.symm,h.1,rfl⟩
theorem qoj {σ σ':St}(σ1:St){d:Option Nat}{X:Option (Prop×C)}{p:Prop}(h:σ.outP d X=some (p,σ')):∃v,σ'=σ.put d v/\σ1.outP d X=some (p,σ1.put d v):=by
 unfold St.outP at *
 cases X with
 | none=>cases h
 | some v=>simp only[Q8,Qe,Qt]at h⊢;exact⟨.one v.2,h.2.symm,h.1,rfl⟩
theorem zln {σ σ':St}(σ1:St){d:Option Nat}{v0:V}{q p:Prop}(h:some (q,σ.put d v0)=some (p,σ')):∃v,σ'=σ.put d v/\some (q,σ1.put d v0)=some (p,σ1.put d v):=by
 simp only[Qe,Qt]at h;exact⟨v0,h.2.symm,by rw[h.1]⟩
theorem zok {f g:TypeId->Operand->V}{t:TypeId}{pls:List (Nat×Nat)}:∀{parts:List (Nat×Operand)}{cs:List C},(∀t,∀x∈parts.map (·.2),g t x=f t x)->zf3 P t pls g parts cs=zf3 P t pls f parts cs
 | [],_,_=>rfl
 | (i,x)::rest,cs,h=>by
  have hx:∀t,g t x=f t x:=λt=>h t x (by simp);have hr:∀cs,zf3 P t pls g rest cs=zf3 P t pls f rest cs:=λcs=>zok λt y hy=>h t y (by simp at hy⊢;exact Or.inr hy);unfold zf3;split
  ·rw[hx];split
   ·exact hr _
   ·rfl
  ·rfl
theorem zmc {f g:Operand->V}:∀{l:List Operand},(∀x∈l,g x=f x)->zf9 g l=zf9 f l
 | [],_=>rfl
 | x::l,h=>by
  unfold zf9;rw[h x (by simp),zmc λy hy=>h y (by simp[hy])]
theorem st_put {o:Oper}{σ σ':St}{p:Prop}(h:st0 P o σ=some (p,σ'))(σ1:St)(h1:∀k∈zas (zo6 o.op),za8 σ σ1 k)(h2:∀k∈qao P o σ,za8 σ σ1 k) :
  qj3 P o σ σ' σ1 p\/(∃t,o.op=.alloc t)\/(∃t x,o.op=.box t x)\/∃t x y,o.op=.store t x y:=by
 have hg:∀x∈zo6 o.op,∀t,σ1.get P t x=σ.get P t x:=λx hx t=>zca h1 hx t
 unfold qj3
 unfold st0 at h⊢
 unfold qao at h2
 split at h
 all_goals rename_i ho
 all_goals try rw[ho]at hg
 all_goals try simp only[zo6]at hg
 ·left;(try simp only[ho]);rw[hg _ (by simp)];exact zcz σ1 h
 ·left;(try simp only[ho]);rw[hg _ (by simp)];exact zcz σ1 h
 ·left;(try simp only[ho]);rw[hg _ (by simp),hg _ (by simp),hg _ (by simp)];split at h
  ·rename_i hc;(try rw[hc]);exact zcz σ1 h
  ·cases h
 ·left;(try simp only[ho]at h2⊢);rw[hg _ (by simp),at_loc h2];exact zcz σ1 h
 ·left;(try simp only[ho]);rw[hg _ (by simp),hg _ (by simp)];exact qoj σ1 h
 ·left;(try simp only[ho]);rw[hg _ (by simp)];exact zcz σ1 h
 ·left;(try simp only[ho]);rw[hg _ (by simp)];split at h
  ·rename_i hc;(try rw[hc]);exact zcz σ1 h
  ·cases h
 ·left;(try simp only[ho]);rw[hg _ (by simp)];obtain⟨y,e1,h⟩:=Qf.1 h;obtain⟨q,ft⟩:=y;obtain⟨m,e2,h⟩:=Qf.1 h;rw[e1];simp only[Kj];rw[e2];simp only[Kj];split at h
  ·cases h
  ·rw[if_neg ‹_›];split at h
   all_goals first
    | (rename_i hc;(try rw[hc]);exact zcz σ1 h)
    | cases h
 ·left;(try simp only[ho]);rw[hg _ (by simp)];obtain⟨y,e1,h⟩:=Qf.1 h;obtain⟨q,ft⟩:=y;rw[e1];simp only[Kj];simp only at h;split at h
  ·rename_i hc;(try rw[hc]);exact zcz σ1 h
  ·cases h
 ·left;(try simp only[ho]at h2⊢);rw[hg _ (by simp),hg _ (by simp)];obtain⟨m,e1,h⟩:=Qf.1 h;rw[e1];simp only[Kj];split at h
  ·rename_i hc hc';(try rw[hc,hc']);exact zln σ1 h
  ·rename_i hc hc';(try rw[hc,hc']);exact zln σ1 h
  ·rename_i e g kk k hc hc'
   (try rw[hc,hc'])
   have he:σ1.ev e=σ.ev e:=Eq.symm (h2 (2,e) (by rw[hc];simp[vK]))
   (try simp only)
   (try rw[he])
   obtain⟨x,e2,h⟩:=Qf.1 h;rw[e2];simp only[Kj];split at h
   ·(try rw[if_pos ‹_›]);exact zln σ1 h
   ·cases h
  ·cases h
 ·left;(try simp only[ho]);rw[hg _ (by simp),hg _ (by simp)];split at h
  ·rename_i hc hc';(try rw[hc,hc'])
   (try simp only)
   split at h
   ·(try rw[if_pos ‹_›]);exact zln σ1 h
   ·cases h
  ·cases h
 ·left;(try simp only[ho]);rw[hg _ (by simp)];split at h
  all_goals first
   | (rename_i hc;(try rw[hc]);exact zcz σ1 h)
   | cases h
 ·left;(try simp only[ho]at h2⊢);rw[hg _ (by simp)];have hcv:∀s d x,(∀k∈vK (σ.get P s x),za8 σ σ1 k)->zxj P σ1 s d (σ.get P s x)=zxj P σ s d (σ.get P s x):=λs d x hk=>by
   unfold zxj;split
   ·generalize σ.get P s x=v at hk;cases v with
    | one c =>
     cases c with
     | ow e g =>
      have he:σ1.ev e=σ.ev e:=Eq.symm (hk (2,e) (by simp[vK]));simp only[he]
     | t x=>cases x<;>rfl
     | _=>rfl
    | _=>rfl
   ·rfl
  split at h
  ·rename_i e1 e2 hc;(try rw[e1,e2,hc]);exact zcz σ1 h
  ·rename_i hn;rw[hcv _ _ _ h2];exact zcz σ1 h
 ·left;(try simp only[ho]at h2⊢);split at h
  ·rename_i e1 e2
   (try rw[e1]at h2)
   (try rw[e2]at h2)
   rw[e1]at hg;rw[hg _ (by simp)];split at h
   ·rename_i hc;(try rw[hc]);(try simp only);split at h
    ·(try rw[if_pos ‹_›]);exact zcz σ1 h
    ·cases h
   ·rename_i hc;(try rw[hc]);(try simp only);split at h
    ·(try rw[if_pos ‹_›]);exact zcz σ1 h
    ·cases h
   ·rename_i hc;(try rw[hc]);(try simp only);split at h
    ·(try rw[if_pos ‹_›]);exact zcz σ1 h
    ·cases h
   ·rename_i hc;(try rw[hc]);(try simp only);split at h
    ·(try rw[if_pos ‹_›]);exact zcz σ1 h
    ·cases h
   ·rename_i e g hc;have he:σ1.ev e=σ.ev e:=Eq.symm (h2 (2,e) (by show _∈vK _;rw[hc];simp[vK]))
    (try rw[hc]);(try simp only)
    split at h
    ·(try rw[if_pos ‹_›]);rw[he]
     obtain⟨x,e3,h⟩:=Qf.1 h;rw[e3];simp only[Kj];split at h
     ·(try rw[if_pos ‹_›]);exact zcz σ1 h
     ·cases h
    ·cases h
   ·cases h
  ·cases h
 ·right;left;exact⟨_,ho⟩
 ·right;right;left;exact⟨_,_,ho⟩
 ·right;right;right;exact⟨_,_,_,ho⟩
 ·left;(try simp only[ho]);obtain⟨pls,e1,h⟩:=Qf.1 h;rw[e1];simp only[Kj];rw[show(λz=>Option.map V.agg (zf3 P _ pls (σ1.get P) _ z))=λz=>Option.map V.agg (zf3 P _ pls (σ.get P) _ z) from funext λz=>by rw[zok λt x hx=>hg x hx t]];exact zcz σ1 h
 ·left;(try simp only[ho]);split at h
  ·rw[if_pos ‹_›,zmc λx hx=>hg x hx 0];obtain⟨bs,e1,h⟩:=Qf.1 h;rw[e1];exact zcz σ1 h
  ·cases h
 ·cases h
theorem zw2 {σ σ1:St}{d b:Nat}{v:V}{cs:Option (List C)}:zny σ1 [(0,d),(1,b)] { sl:=upd σ.sl d v,bx:=upd σ.bx b cs,ev:=σ.ev }={ sl:=upd σ1.sl d v,bx:=upd σ1.bx b cs,ev:=σ1.ev }:=by
 obtain⟨s,bb,e⟩:=σ1
 unfold zny
 simp only[Qu,K2,or_false,Qt,St.mk.injEq]
 refine⟨funext λi=>?_,funext λi=>?_,funext λi=>?_⟩
 ·by_cases hi:i=d
  ·subst hi;simp[zaf]
  ·simp[hi,zan]
 ·by_cases hi:i=b
  ·subst hi;simp[zaf]
  ·simp[hi,zan]
 ·simp
theorem ptch_b {σ σ1:St}{b:Nat}{cs:Option (List C)}:zny σ1 [(1,b)] { sl:=σ.sl,bx:=upd σ.bx b cs,ev:=σ.ev }={ sl:=σ1.sl,bx:=upd σ1.bx b cs,ev:=σ1.ev }:=by
 obtain⟨s,bb,e⟩:=σ1
 unfold zny
 simp only[Qu,K2,or_false,Qt,St.mk.injEq]
 refine⟨funext λi=>?_,funext λi=>?_,funext λi=>?_⟩
 ·simp
 ·by_cases hi:i=b
  ·subst hi;simp[zaf]
  ·simp[hi,zan]
 ·simp
theorem zrd {σ:St}{d b:Nat}{v:V}{cs:Option (List C)}{k:Ky}(h:k∉[(0,d),(1,b)]):za8 σ { sl:=upd σ.sl d v,bx:=upd σ.bx b cs,ev:=σ.ev } k:=by
 obtain⟨n,i⟩:=k
 match n with
 | 0=>exact(zan σ.sl v (λhi=>h (by subst hi;simp))).symm
 | 1=>exact(zan σ.bx cs (λhi=>h (by subst hi;simp))).symm
 | n+2=>rfl
theorem qs6 {σ:St}{b:Nat}{cs:Option (List C)}{k:Ky}(h:k∉[(1,b)]):za8 σ { sl:=σ.sl,bx:=upd σ.bx b cs,ev:=σ.ev } k:=by
 obtain⟨n,i⟩:=k
 match n with
 | 0=>rfl
 | 1=>exact(zan σ.bx cs (λhi=>h (by subst hi;simp))).symm
 | n+2=>rfl
theorem quc {o:Oper}{σ σ':St}{p:Prop}(h:st0 P o σ=some (p,σ'))(hp:p):zf1 P o (stR P o σ) (stW P o σ) σ σ':=by
 refine⟨zbf (zvv _) (qko _ _),zbf (zbh _) (qkd _ _),?_⟩
 suffices hs:(∀k:Ky,k.1<3->k∉stW P o σ->za8 σ σ' k)/\∀σ1,(∀k∈stR P o σ,za8 σ σ1 k)->st0 P o σ1=some (p,zny σ1 (stW P o σ) σ') from
  ⟨hs.1,λσ1 h1=>ztr (hs.2 σ1 h1) hp⟩
 have hput:=λσ1 h1 h2=>st_put h σ1 h1 h2
 by_cases hx:(∃t,o.op=.alloc t)\/(∃t x,o.op=.box t x)\/∃t x y,o.op=.store t x y
 ·clear hput;rcases hx with⟨t,ho⟩|⟨t,x,ho⟩|⟨t,x,y,ho⟩
  ·unfold st0 at h⊢;unfold stR stW qao zyg zo6;simp only[ho]at h⊢;cases hd:o.dst with
   | none=>rw[hd]at h;cases h
   | some d =>
    rw[hd]at h;simp only at h⊢;split at h
    ·obtain⟨z,hz,h⟩:=Qf.1 h;simp only[Qe,Qt]at h;obtain⟨rfl,rfl⟩:=h;refine⟨λk _ hk=>zrd hk,λσ1 h1=>?_⟩;have hb:σ.bx d=σ1.bx d:=h1 (1,d) (by simp[bK]);rw[<-hb,if_pos ‹_›,hz];simp only[Kj,Qe,Qt,true_and];exact zw2.symm
    ·cases h
  ·unfold st0 at h⊢;unfold stR stW qao zyg zo6;simp only[ho]at h⊢;cases hd:o.dst with
   | none=>rw[hd]at h;cases h
   | some d =>
    rw[hd]at h;simp only at h⊢;split at h
    ·simp only[Qe,Qt]at h;obtain⟨rfl,rfl⟩:=h;refine⟨λk _ hk=>zrd hk,λσ1 h1=>?_⟩;have hb:σ.bx d=σ1.bx d:=h1 (1,d) (by simp[bK]);have hg:σ1.get P t x=σ.get P t x:=zca (l:=[x]) (λk hk=>h1 k (by simp[hk])) (by simp) t;rw[<-hb,hg,if_pos ‹_›];simp only[Qe,Qt,true_and];exact zw2.symm
    ·cases h
  ·unfold st0 at h⊢;unfold stR stW qao zyg zo6;simp only[ho]at h⊢;split at h
   ·rename_i b q n hx hn;obtain⟨cs,hcs,h⟩:=Qf.1 h;split at h
    ·simp only[Qe,Qt]at h;obtain⟨rfl,rfl⟩:=h;rw[hx];simp only[vK];have fin:∀σ1:St,(∀k∈zas [x,y]++[(1,b)],za8 σ σ1 k)->σ1.get P 0 x=.one (.bx b q)/\σ1.get P t y=σ.get P t y/\σ1.bx b=some cs:=λσ1 h1=>by
      have hg:σ1.get P 0 x=σ.get P 0 x:=zca (l:=[x,y]) (λk hk=>h1 k (by simp[hk])) (by simp) 0;have hg':σ1.get P t y=σ.get P t y:=zca (l:=[x,y]) (λk hk=>h1 k (by simp[hk])) (by simp) t;have hb:σ.bx b=σ1.bx b:=h1 (1,b) (by simp);exact⟨hg.trans hx,hg',hb.symm.trans hcs⟩
     cases hd:o.dst with
     | none =>
      refine⟨λk _ hk=>qs6 hk,λσ1 h1=>?_⟩;obtain⟨k1,k2,k3⟩:=fin σ1 h1;rw[k1,k2];simp only[hn,k3,Kj];rw[if_pos ‹_›];simp only[Qe,Qt,true_and];exact ptch_b.symm
     | some d =>
      refine⟨λk _ hk=>zrd hk,λσ1 h1=>?_⟩;obtain⟨k1,k2,k3⟩:=fin σ1 h1;rw[k1,k2];simp only[hn,k3,Kj];rw[if_pos ‹_›];simp only[Qe,Qt,true_and];exact(zw2 (σ:=σ) (σ1:=σ1) (d:=d) (b:=b) (v:=.one .any)).symm
    ·cases h
   ·cases h
 ·have hW:stW P o σ=dK o.dst:=by
   unfold stW zyg;split
   ·exact absurd (Or.inl ⟨_,‹_›⟩) hx
   ·exact absurd (Or.inr (Or.inl ⟨_,_,‹_›⟩)) hx
   ·exact absurd (Or.inr (Or.inr ⟨_,_,_,‹_›⟩)) hx
   ·simp
  have key:∀σ1,(∀k∈stR P o σ,za8 σ σ1 k)->qj3 P o σ σ' σ1 p:=λσ1 h1=>by
   rcases hput σ1 (λk hk=>h1 k (by unfold stR;simp[hk])) (λk hk=>h1 k (by unfold stR;simp[hk]))with hh|hh
   ·exact hh
   ·exact absurd hh hx
  rw[hW];refine⟨λk _ hk=>?_,λσ1 h1=>?_⟩
  ·obtain⟨v,rfl,_⟩:=key σ λk _=>za8.refl _ _;exact zdx hk
  ·obtain⟨v,e1,e2⟩:=key σ1 h1;rw[e1,zli];exact e2
theorem zxk {f g:TypeId->Operand->V}{d:Int}{x:Option Operand}(h:∀y∈x.toList,∀t,g t y=f t y):zpf g d x=zpf f d x:=by
 cases x with
 | none=>rfl
 | some y=>unfold zpf;simp only;rw[h y (by simp) 0]
theorem qvu {f g:TypeId->Operand->V}{op:Op}(h:∀y∈zo6 op,∀t,g t y=f t y):vop P g op=vop P f op:=by
 unfold vop
 split
 ·split
  ·rename_i hl;rw[h _ (by simp[zo6,hl]) 0,h _ (by simp[zo6,hl]) 0]
  ·rfl
 ·split
  ·rename_i hl;rw[h _ (by simp[zo6,hl]) 0,h _ (by simp[zo6,hl]) 0]
  ·rfl
 ·rename_i t x low high;rw[h x (by simp[zo6]) t];unfold zyp;have hl:∀d,zpf g d low=zpf f d low:=λd=>zxk λy hy t=>h y (by simp only[zo6];simp[hy]) t;have hh:∀d,zpf g d high=zpf f d high:=λd=>zxk λy hy t=>h y (by simp only[zo6];simp[hy]) t;simp only[hl,hh]
 ·rfl
theorem qn4 {o:Oper}(σ:St)(h:zm3 o.op=true):zyg P o σ=[]:=by
 unfold zyg
 split
 ·rename_i ho;rw[ho]at h;cases h
 ·rename_i ho;rw[ho]at h;cases h
 ·rename_i ho;rw[ho]at h;cases h
 ·rfl
theorem st_loc {o:Oper}{σ σ':St}{p:Prop}(h:st P o σ=some (p,σ'))(hp:p):zf1 P o (stR P o σ) (stW P o σ) σ σ':=by
 by_cases hv:zm3 o.op=true
 ·unfold st at h;rw[if_pos hv]at h;unfold St.outV at h;obtain⟨x,hx,h⟩:=Q5.1 h;simp only[Qt]at h;obtain⟨rfl,rfl⟩:=h;have hW:stW P o σ=dK o.dst:=by unfold stW;rw[qn4 σ hv];simp
  refine⟨zbf (zvv _) (qko _ _),zbf (zbh _) (qkd _ _),λk _ hk=>?_,λσ1 h1=>?_⟩
  ·rw[hW]at hk;exact zdx hk
  ·rw[hW,zli];have e:vop P (σ1.get P) o.op=vop P (σ.get P) o.op:=qvu λy hy t=>zca (λk hk=>h1 k (by unfold stR;simp[hk])) hy t;exact zsf (e.trans hx) hp
 ·unfold st at h;rw[if_neg hv]at h;exact quc h hp
theorem zf1.loc {ops:Array Oper}{o:Oper}{R W:List Ky}{σ σ':St}(hg:o.guard=none)(h:zf1 P o R W σ σ'):Loc P ops o R W σ σ' :=
 ⟨h.1,h.2.1,h.2.2.1,λσ1 h1 n0 N g a w hR hn hd=>by
  have:Region.wanted o (yielded ops a.tmps)=true:=by simp[Region.wanted,hg]
  rw[if_pos this]
  exact h.2.2.2 σ1 h1 n0 N g a w hR hn hd⟩
theorem zuh {ops:Array Oper}{o:Oper}{n0:Nat->Prop}{N:Nat}{σ:St}{g:Gh}{a:Act}{w:World}(hR:Rel n0 N σ g a w){j d:Nat}{want c:Bool}(hg:o.guard=some (j,want))(hd:(ops[j]?).bind (·.dst)=some d)(hc:σ.sl d=.one (.t (.bool c))):Region.wanted o (yielded ops a.tmps)=(c==want):=by
 have hv:=hR.slots d
 rw[hc]at hv
 simp only[VR,CR,zau]at hv
 have hy:yielded ops a.tmps j=some c:=by
  unfold yielded;rw[hd];simp only[Kj];cases ht:a.tmps[d]? with
  | none=>rw[Array.getD_eq_getD_getElem?,ht]at hv;exact absurd hv (g.R0.nb _ _)
  | some u=>rw[Array.getD_eq_getD_getElem?,ht]at hv;simp only[Kq]at hv;subst hv;rfl
 unfold Region.wanted
 rw[hg]
 simp only[hy]
 cases c<;>cases want<;>rfl
theorem zf1.run {ops:Array Oper}{o:Oper}{R W:List Ky}{σ σ':St}{j d:Nat}{want:Bool}(hg:o.guard=some (j,want))(hd:(ops[j]?).bind (·.dst)=some d)(hc:σ.sl d=.one (.t (.bool want)))(h:zf1 P { o with guard:=none } R W σ σ'):Loc P ops o ((0,d)::R) W σ σ':=by
 refine⟨h.1,?_,h.2.2.1,λσ1 h1 n0 N g a w hR hn hdn=>?_⟩
 ·have:=h.2.1;unfold okK at *;simpa using this
 ·have hc1:σ1.sl d=.one (.t (.bool want)):=(show σ.sl d=σ1.sl d from h1 (0,d) (by simp))▸hc;rw[zuh hR hg hd hc1,Q3,if_pos rfl];exact h.2.2.2 σ1 (λk hk=>h1 k (by simp[hk])) n0 N g a w hR hn hdn
theorem Loc.skip {ops:Array Oper}{o:Oper}{σ:St}{j d:Nat}{want:Bool}(hg:o.guard=some (j,want))(hd:(ops[j]?).bind (·.dst)=some d)(hc:σ.sl d=.one (.t (.bool !want))):Loc P ops o [(0,d)] (dK o.dst) σ (σ.put o.dst (.tup [])):=by
 refine⟨zvv _,rfl,λk _ hk=>zdx hk,λσ1 h1 n0 N g a w hR hn hdn=>?_⟩
 have hc1:σ1.sl d=.one (.t (.bool !want)):=(show σ.sl d=σ1.sl d from h1 (0,d) (by simp))▸hc
 rw[zuh hR hg hd hc1,show((!want)==want)=false by cases want<;>rfl]
 simp only[Qp,if_false]
 rw[zli]
 exact⟨g,hR.put _ (x:=.tup []) ⟨[],rfl,rfl⟩ hdn,rfl,rfl⟩
theorem Loc.skipT {ops:Array Oper}{o:Oper}{σ:St}{j d:Nat}{want:Bool}{xs:List (Bool×List C)}(hg:o.guard=some (j,want))(hd:(ops[j]?).bind (·.dst)=some d)(hc:σ.sl d=.tup xs):Loc P ops o [(0,d)] (dK o.dst) σ (σ.put o.dst (.tup [])):=by
 refine⟨zvv _,rfl,λk _ hk=>zdx hk,λσ1 h1 n0 N g a w hR hn hdn=>?_⟩
 have hc1:σ1.sl d=.tup xs:=(show σ.sl d=σ1.sl d from h1 (0,d) (by simp))▸hc
 have hv:=hR.slots d
 rw[hc1]at hv
 obtain⟨vs,hv,_⟩:=hv
 have hy:yielded ops a.tmps j=none:=by
  unfold yielded;rw[hd];simp only[Kj];cases ht:a.tmps[d]? with
  | none=>rfl
  | some u=>rw[Array.getD_eq_getD_getElem?,ht]at hv;simp only[Kq]at hv;subst hv;rfl
 have hw:Region.wanted o (yielded ops a.tmps)=false:=by
  unfold Region.wanted;rw[hg];simp only[hy];rfl
 rw[hw]
 simp only[Qp,if_false]
 rw[zli]
 exact⟨g,hR.put _ (x:=.tup []) ⟨[],rfl,rfl⟩ hdn,rfl,rfl⟩
def ze6 (P:Program)(o:Oper)(σ:St)(K:List Ky->List Ky->St->Prop):Prop :=
 if znc P o σ=true then ∃R W σ',zf1 P o R W σ σ'/\K R W σ' else match st P o σ with
 | some (p,σ')=>p/\K (stR P o σ) (stW P o σ) σ'
 | none=>False
def qqd (P:Program)(ops:Array Oper)(o:Oper)(σ:St)(K:List Ky->List Ky->St->Prop):Prop :=
 match o.guard with
 | none=>ze6 P o σ K
 | some (j,want)=>match (ops[j]?).bind (·.dst)with
  | some d=>match σ.sl d with
   | .one (.t (.bool c))=>(c=want->ze6 P { o with guard:=none } (σ.put (some d) (.one (.t (.bool want)))) λR W σ'=>K ((0,d)::R) W σ')/\(c=!want->K [(0,d)] (dK o.dst) ((σ.put (some d) (.one (.t (.bool !want)))).put o.dst (.tup [])))
   | .tup _=>K [(0,d)] (dK o.dst) (σ.put o.dst (.tup []))
   | _=>False
  | none=>False
def zi2 (P:Program)(ops:Array Oper):List Oper->List (List Ky×List Ky)->St->(St->Prop)->Prop
 | [],L,σ,K=>zqd ops L=true/\K σ
 | o::os,L,σ,K=>qqd P ops o σ λR W σ'=>zi2 P ops os (L++[(R,W)]) σ' K
theorem zhm {o:Oper}{σ:St}{K:List Ky->List Ky->St->Prop}(h:ze6 P o σ K):∃R W σ',zf1 P o R W σ σ'/\K R W σ':=by
 unfold ze6 at h
 split at h
 ·exact h
 ·split at h
  ·rename_i p σ' hst;exact⟨_,_,_,st_loc hst h.1,h.2⟩
  ·exact h.elim
theorem qbw {ops:Array Oper}{o:Oper}{σ:St}{K:List Ky->List Ky->St->Prop}(h:qqd P ops o σ K):∃R W σ',Loc P ops o R W σ σ'/\K R W σ':=by
 unfold qqd at h
 split at h
 ·rename_i hg;obtain⟨R,W,σ',h1,h2⟩:=zhm h;exact⟨R,W,σ',h1.loc hg,h2⟩
 ·rename_i j want hg;split at h
  ·rename_i d hd;split at h
   ·rename_i c hc;by_cases hcw:c=want
    ·subst hcw;obtain⟨R,W,σ',h1,h2⟩:=zhm (h.1 rfl);rw[zlk hc]at h1;exact⟨_,W,σ',h1.run hg hd hc,h2⟩
    ·have hnot:c=!want:=by cases c<;>cases want<;>simp_all
     subst hnot;have hh:=h.2 rfl;rw[zlk hc]at hh;exact⟨_,_,_,Loc.skip hg hd hc,hh⟩
   ·rename_i xs hc;exact⟨_,_,_,Loc.skipT hg hd hc,h⟩
   ·exact h.elim
  ·exact h.elim
theorem zk4 {ops:Array Oper}{K:St->Prop}:∀(os:List Oper)(i:Nat)(L:List (List Ky×List Ky))(σs:Nat->St),os=ops.toList.drop i->i<=ops.size->L.length=i →
  (∀j (h:j<ops.size),j<i->Loc P ops ops[j] (L.getD j ([],[])).1 (L.getD j ([],[])).2 (σs j) (σs (j+1)))->zi2 P ops os L (σs i) K →
  ∃(L':List (List Ky×List Ky)) (σs':Nat->St),σs' 0=σs 0/\(∀j (h:j<ops.size),Loc P ops ops[j] (L'.getD j ([],[])).1 (L'.getD j ([],[])).2 (σs' j) (σs' (j+1)))/\zqd ops L'=true/\K (σs' ops.size)
 | [],i,L,σs,ho,hi,hl,hloc,h=>by
  have hle:ops.size<=i:=by
   have:=congrArg List.length ho;simp at this;omega
  have hie:i=ops.size:=by omega
  subst hie;exact⟨L,σs,rfl,λj hj=>hloc j hj hj,h.1,h.2⟩
 | o::os,i,L,σs,ho,hi,hl,hloc,h=>by
  have hlt:i<ops.size:=by
   have:=congrArg List.length ho;simp at this;omega
  have hcons:ops.toList.drop i=ops[i]::ops.toList.drop (i+1):=by
   rw[Qm (by simpa using hlt)];rfl
  rw[hcons]at ho;obtain⟨rfl,hos⟩:=Yu ho;obtain⟨R,W,σ',h1,h2⟩:=qbw h
  have:=zk4 os (i+1) (L++[(R,W)]) (λj=>if j<=i then σs j else σ') hos Y0 (by simp[hl]) (λj hj hji=>by
   by_cases hje:j=i
   ·subst hje;have hg:(L++[(R,W)]).getD j ([],[])=(R,W):=by simp[List.getD,<-hl]
    rw[hg,if_pos (Qz _),if_neg Y0];exact h1
   ·have hg:(L++[(R,W)]).getD j ([],[])=L.getD j ([],[]):=by
     simp only[List.getD_eq_getElem?_getD];rw[List.getElem?_append_left Y0]
    rw[hg,if_pos Y0,if_pos Y0]
    exact hloc j hj Y0) (by rw[if_neg Y0];exact h2)
  simpa using this
theorem zv4 {id:Nat}{ops:Array Oper}{σ:St}{K:St->Prop}(hm:P.follows .mixedOrders=true)(h:zi2 P ops ops.toList [] σ K):zef P id ops σ K:=by
 intro n0 N g a w hR hn hd
 obtain⟨L,σs,h0,hloc,hord,hK⟩:=zk4 ops.toList 0 [] (λ_=>σ) rfl (Kc _) rfl (λj _ hj=>by omega) h
 refine wp_region_any hm ?_
 have hb:Below w.heap.size w { w with drawn:=w.drawn+1 }:=⟨rfl,rfl,rfl,Qz _,λ_ _=>rfl⟩
 have hR':Rel n0 N (σs 0) g a { w with drawn:=w.drawn+1 }:=by
  rw[h0];exact hR.after hn hb (New.refl σ g (w.heap.size<=·) _ hR.slc)
 have hF:Fp σs (λi=>L.getD i ([],[])) (λi=>(Array.replicate ops.size false).getD i false) ops.size=σs 0:=by
  have hp:∀i,(Array.replicate ops.size false).getD i false=false:=λi=>by
   simp only[Array.getD_eq_getD_getElem?,Array.getElem?_replicate];split<;>rfl
  have:∀m,Fp σs (λi=>L.getD i ([],[])) (λi=>(Array.replicate ops.size false).getD i false) m=σs 0:=by
   intro m;induction m with
   | zero=>rfl
   | succ m ih=>unfold Fp;rw[hp,if_neg (by simp)];exact ih
  exact this _
 have hcnt:cnt (λi=>(Array.replicate ops.size false).getD i false) ops.size=ops.size:=by
  have hp:∀i,(Array.replicate ops.size false).getD i false=false:=λi=>by
   simp only[Array.getD_eq_getD_getElem?,Array.getElem?_replicate];split<;>rfl
  have:∀m,cnt (λi=>(Array.replicate ops.size false).getD i false) m=m:=by
   intro m;induction m with
   | zero=>rfl
   | succ m ih=>unfold cnt;rw[hp,if_neg (by simp),ih];omega
  exact this _
 refine qg7 (w0:=w) (A0:=(g.A0,g.R0)) hloc hord hd (λg' a' w' k1 k2 k3 k4=>⟨rfl,_,g',hK,k1,k2,k3,(K7 k4).1,(K7 k4).2⟩) ops.size _ g a _ (by simp) hcnt (λj h hl=>?_) (by rw[hF];exact hR') (hn.mono (Qz _)) (Bk.of_below hb hn) rfl
 simp only[Array.getD_eq_getD_getElem?,Array.getElem?_replicate]at hl
 split at hl<;>cases hl
end
section
open Go.RowKit
variable {P:Program}
def zph:List (Nat×Ev)->(Nat->Option Ev)->(Nat->Option Ev)
 | [],f=>f
 | (e,x)::l,f=>upd (zph l f) e (some x)
def eK:List (Nat×Ev)->List Ky
 | []=>[]
 | (e,_)::l=>(2,e)::eK l
theorem zza:∀(a b:List (Nat×Ev))(f:Nat->Option Ev),zph (a++b) f=zph a (zph b f)
 | [],_,_=>rfl
 | (e,x)::a,b,f=>by simp only[Ja,zph,zza a b f]
theorem qcl:∀l,okK (eK l)=true
 | []=>rfl
 | (e,x)::l=>by have:=qcl l;unfold okK at *;simpa[eK]using this
theorem ztz {n e:Nat}:∀{l:List (Nat×Ev)},(n,e)∈eK l->n=2
 | [],h=>by simp[eK]at h
 | (e',x)::l,h=>by
  simp only[eK,Qu,Qt]at h;rcases h with h|h
  ·exact h.1
  ·exact ztz h
theorem zvr:∀{l:List (Nat×Ev)}(f f':Nat->Option Ev){e:Nat},(2,e)∈eK l->zph l f e=zph l f' e
 | [],f,f',e,h=>by simp[eK]at h
 | (e',x)::l,f,f',e,h=>by
  unfold zph;by_cases he:e=e'
  ·subst he;rw[zaf,zaf]
  ·rw[zan _ _ he,zan _ _ he];simp only[eK,Qu,Qt]at h;exact zvr f f' (h.resolve_left λhh=>he hh.2)
theorem zjj:∀{l:List (Nat×Ev)}(f:Nat->Option Ev){e:Nat},(2,e)∉eK l->zph l f e=f e
 | [],f,e,h=>rfl
 | (e',x)::l,f,e,h=>by
  simp only[eK,Qu,Qt,true_and,not_or]at h;unfold zph;rw[zan _ _ h.1,zjj f h.2]
def St.upE (σ:St)(l:List (Nat×Ev)):St:={ σ with ev:=zph l σ.ev }
theorem zf1.of {o:Oper}{σ:St}{R:List Ky}{l:List (Nat×Ev)}{v:V}(hR:okK R=true)(h:∀σ1,(∀k∈R,za8 σ σ1 k)->zak P o σ1 ((σ1.upE l).put o.dst v)):zf1 P o R (dK o.dst++eK l) σ ((σ.upE l).put o.dst v):=by
 refine⟨zbf (zvv _) (qcl _),hR,λk hk3 hk=>?_,λσ1 h1=>?_⟩
 ·simp only[Qw,not_or]at hk;refine za8.trans ?_ (zdx hk.1);obtain⟨n,i⟩:=k
  match n,hk3 with
  | 0,_=>rfl
  | 1,_=>rfl
  | 2,_=>exact(zjj σ.ev hk.2).symm
 ·have:zny σ1 (dK o.dst++eK l) ((σ.upE l).put o.dst v)=(σ1.upE l).put o.dst v:=by
   refine za8.all3 λc i hc=>?_;by_cases hin:(c,i)∈dK o.dst++eK l
   ·refine(ze7 (zbf (zvv _) (qcl _)) hin).trans ?_
    match c,hc with
    | 0,_ =>
     rcases Qw.1 hin with h|h
     ·cases hd:o.dst with
      | none=>rw[hd]at h;simp[dK]at h
      | some d =>
       rw[hd]at h;simp only[dK,Qu,K2,or_false,Qt,true_and]at h;subst h;show upd _ _ _ _=upd _ _ _ _
       rw[zaf,zaf]
     ·have:=ztz h;omega
    | 1,_ =>
     rcases Qw.1 hin with h|h
     ·cases hd:o.dst with
      | none=>rw[hd]at h;simp[dK]at h
      | some d=>rw[hd]at h;simp[dK]at h
     ·have:=ztz h;omega
    | 2,_ =>
     rcases Qw.1 hin with h|h
     ·cases hd:o.dst with
      | none=>rw[hd]at h;simp[dK]at h
      | some d=>rw[hd]at h;simp[dK]at h
     ·cases o.dst<;>exact zvr _ _ h
   ·refine(zb6 hc hin).trans ?_;simp only[Qw,not_or]at hin;refine za8.trans ?_ (zdx hin.1)
    match c,hc with
    | 0,_=>rfl
    | 1,_=>rfl
    | 2,_=>exact(zjj σ1.ev hin.2).symm
  rw[this];exact h σ1 h1
def exd (P:Program)(ops:Array Oper)(os:List Oper)(L:List (List Ky×List Ky))(ks:List Fr)(Q:Exit->St->Prop)(σ:St):Prop:=zi2 P ops os L σ (qc9 P ks Q .normal)
theorem drawn {i:Nat}{ops:Array Oper}{ks:List Fr}{Q:Exit->St->Prop}{σ:St}(hm:P.follows .mixedOrders=true)(h:exd P ops ops.toList [] ks Q σ):ex P (.region i ops true) ks Q σ:=zv4 hm h
theorem zgw {ops:Array Oper}{o:Oper}{os:List Oper}{L:List (List Ky×List Ky)}{ks:List Fr}{Q:Exit->St->Prop}{σ σ':St}{R W:List Ky}(hg:o.guard=none)(hs:ztf o.op=true)(h:zf1 P o R W σ σ')(k:exd P ops os (L++[(R,W)]) ks Q σ'):exd P ops (o::os) L ks Q σ:=by
 unfold exd zi2 qqd
 rw[hg]
 simp only
 unfold ze6 znc
 rw[if_pos (by rw[hs];rfl)]
 exact⟨R,W,σ',h,k⟩
section
variable (ks:List Fr)(Q:Exit->St->Prop)(σ:St)(ops:Array Oper)(os:List Oper)(L:List (List Ky×List Ky))(d:Option Nat)(ty:TypeId)(ps:String)(af:Array Edge)
theorem qsv:exd P ops [] L ks Q σ=(zqd ops L=true/\rt P .normal ks Q σ):=rfl
theorem ze1 {o:Oper}(hg:o.guard=none)(hs:znc P o σ=false):exd P ops (o::os) L ks Q σ=thn (st P o σ) (λσ'=>exd P ops os (L++[(stR P o σ,stW P o σ)]) ks Q σ'):=by
 unfold exd
 rw[zi2]
 unfold qqd
 rw[hg]
 simp only
 unfold ze6
 rw[if_neg (by rw[hs];simp)]
 rfl
theorem qmr (x:Operand):exd P ops (⟨d,.move x,ty,ps,af,none⟩::os) L ks Q σ=exd P ops os (L++[(zas [x],dK d)]) ks Q (σ.put d (σ.get P ty x)):=by
 rw[ze1 _ _ _ _ _ _ rfl rfl]
 simp[st,st0,zm3,St.out,thn,stR,stW,qao,zyg,zo6]
theorem qam (x:Operand):exd P ops (⟨d,.assign x,ty,ps,af,none⟩::os) L ks Q σ=exd P ops os (L++[(zas [x],dK d)]) ks Q (σ.put d (σ.get P ty x)):=by
 rw[ze1 _ _ _ _ _ _ rfl rfl]
 simp[st,st0,zm3,St.out,thn,stR,stW,qao,zyg,zo6]
theorem qlw (t:TypeId)(x:Operand):exd P ops (⟨d,.load t x,ty,ps,af,none⟩::os) L ks Q σ=thn (st P ⟨d,.load t x,ty,ps,af,none⟩ σ) (exd P ops os (L++[(zas [x]++vK (σ.get P 0 x),dK d++[])]) ks Q):=ze1 _ _ _ _ _ _ rfl rfl
theorem qep (op:BinOp)(t t':TypeId)(x y:Operand):exd P ops (⟨d,.binOp op t x y t',ty,ps,af,none⟩::os) L ks Q σ=thn (st P ⟨d,.binOp op t x y t',ty,ps,af,none⟩ σ) (exd P ops os (L++[(zas [x,y]++[],dK d++[])]) ks Q):=ze1 _ _ _ _ _ _ rfl rfl
theorem qop (op:UnOp)(t:TypeId)(x:Operand):exd P ops (⟨d,.unOp op t x,ty,ps,af,none⟩::os) L ks Q σ=thn (st P ⟨d,.unOp op t x,ty,ps,af,none⟩ σ) (exd P ops os (L++[(zas [x]++[],dK d++[])]) ks Q):=ze1 _ _ _ _ _ _ rfl rfl
theorem zqj (t:TypeId)(x i:Operand):exd P ops (⟨d,.indexAddr t x i,ty,ps,af,none⟩::os) L ks Q σ=thn (st P ⟨d,.indexAddr t x i,ty,ps,af,none⟩ σ) (exd P ops os (L++[(zas [x,i]++vK (σ.get P t x),dK d++[])]) ks Q):=ze1 _ _ _ _ _ _ rfl rfl
theorem qvj (asx:Array Operand)(ts:Array TypeId):exd P ops (⟨d,.call ⟨.builtin .len,asx,ts⟩,ty,ps,af,none⟩::os) L ks Q σ=thn (st P ⟨d,.call ⟨.builtin .len,asx,ts⟩,ty,ps,af,none⟩ σ) (exd P ops os (L++[(zas asx.toList++lenK (σ.get P) asx.toList ts.toList,dK d++[])]) ks Q):=ze1 _ _ _ _ _ _ rfl rfl
theorem zw3 (x:Operand)(i:Nat):exd P ops (⟨d,.extract x i,ty,ps,af,none⟩::os) L ks Q σ=thn (st P ⟨d,.extract x i,ty,ps,af,none⟩ σ) (exd P ops os (L++[(zas [x]++[],dK d++[])]) ks Q):=ze1 _ _ _ _ _ _ rfl rfl
theorem zrl (t:TypeId)(x:Operand)(i:Nat):exd P ops (⟨d,.fieldAddr t x i,ty,ps,af,none⟩::os) L ks Q σ=thn (st P ⟨d,.fieldAddr t x i,ty,ps,af,none⟩ σ) (exd P ops os (L++[(zas [x]++[],dK d++[])]) ks Q):=ze1 _ _ _ _ _ _ rfl rfl
theorem qj1 (t:TypeId)(x:Operand)(i:Nat):exd P ops (⟨d,.field t x i,ty,ps,af,none⟩::os) L ks Q σ=thn (st P ⟨d,.field t x i,ty,ps,af,none⟩ σ) (exd P ops os (L++[(zas [x]++[],dK d++[])]) ks Q):=ze1 _ _ _ _ _ _ rfl rfl
theorem qie (t:TypeId):exd P ops (⟨d,.alloc t,ty,ps,af,none⟩::os) L ks Q σ=thn (st P ⟨d,.alloc t,ty,ps,af,none⟩ σ) (exd P ops os (L++[(bK d,dK d++bK d)]) ks Q):=ze1 _ _ _ _ _ _ rfl rfl
def exdS (P:Program)(ops:Array Oper)(o:Oper)(os:List Oper)(L:List (List Ky×List Ky))(ks:List Fr)(Q:Exit->St->Prop)(σ:St):Prop:=∃R W σ',zf1 P o R W σ σ'/\exd P ops os (L++[(R,W)]) ks Q σ'
theorem qfu (t:TypeId)(a x:Operand):exd P ops (⟨d,.store t a x,ty,ps,af,none⟩::os) L ks Q σ=zif (σ.get P 0 a) (exdS P ops ⟨d,.store t a x,ty,ps,af,none⟩ os L ks Q σ) (thn (st P ⟨d,.store t a x,ty,ps,af,none⟩ σ) (exd P ops os (L++[(zas [a,x]++vK (σ.get P 0 a),dK d++vK (σ.get P 0 a))]) ks Q)):=by
 unfold zif
 split
 ·rename_i h;unfold exd;rw[zi2];unfold qqd;simp only;unfold ze6;rw[if_pos (by unfold znc qb4;simp only[h,Bool.or_true])];rfl
 ·rename_i h;exact ze1 _ _ _ _ _ _ rfl (by unfold znc qb4;simpa[ztf]using h)
theorem qj4 (t:TypeId)(parts:Array (Nat×Operand)):exd P ops (⟨d,.build t parts,ty,ps,af,none⟩::os) L ks Q σ=thn (st P ⟨d,.build t parts,ty,ps,af,none⟩ σ) (exd P ops os (L++[(zas (parts.toList.map (·.2))++[],dK d++[])]) ks Q):=ze1 _ _ _ _ _ _ rfl rfl
theorem ql7 (c x y:Operand):exd P ops (⟨d,.pick c x y,ty,ps,af,none⟩::os) L ks Q σ=thn (st P ⟨d,.pick c x y,ty,ps,af,none⟩ σ) (exd P ops os (L++[(zas [c,x,y]++[],dK d++[])]) ks Q):=ze1 _ _ _ _ _ _ rfl rfl
def zr3 (P:Program)(ops:Array Oper)(o:Oper)(os:List Oper)(L:List (List Ky×List Ky))(gR:List Ky)(ks:List Fr)(Q:Exit->St->Prop)(σ:St):Prop:=ze6 P o σ λR W σ'=>exd P ops os (L++[(gR++R,W)]) ks Q σ'
def gdd (P:Program)(ops:Array Oper)(os:List Oper)(L:List (List Ky×List Ky))(ks:List Fr)(Q:Exit->St->Prop)(σ:St)(o:Oper)(c:Nat)(v:V)(want:Bool):Prop :=
 match v with
 | .one (.t (.bool b))=>(b=want->zr3 P ops o os L [(0,c)] ks Q (σ.put (some c) (.one (.t (.bool want)))))/\(b=!want->exd P ops os (L++[([(0,c)],dK o.dst)]) ks Q ((σ.put (some c) (.one (.t (.bool !want)))).put o.dst (.tup [])))
 | .tup _=>exd P ops os (L++[([(0,c)],dK o.dst)]) ks Q (σ.put o.dst (.tup []))
 | _=>False
theorem zjw (o:Oper)(c:Nat)(b want:Bool):gdd P ops os L ks Q σ o c (.one (.t (.bool b))) want=((b=want->zr3 P ops o os L [(0,c)] ks Q (σ.put (some c) (.one (.t (.bool want)))))/\(b=!want->exd P ops os (L++[([(0,c)],dK o.dst)]) ks Q ((σ.put (some c) (.one (.t (.bool !want)))).put o.dst (.tup [])))):=rfl
theorem qvh (o:Oper)(c:Nat)(xs:List (Bool×List C))(want:Bool):gdd P ops os L ks Q σ o c (.tup xs) want=exd P ops os (L++[([(0,c)],dK o.dst)]) ks Q (σ.put o.dst (.tup [])):=rfl
theorem qea (t:TypeId)(x:Operand)(l h m:Option Operand):exd P ops (⟨d,.slice t x l h m,ty,ps,af,none⟩::os) L ks Q σ=owK (σ.get P t x) (exdS P ops ⟨d,.slice t x l h m,ty,ps,af,none⟩ os L ks Q σ) (thn (st P ⟨d,.slice t x l h m,ty,ps,af,none⟩ σ) (exd P ops os (L++[(zas (x::(l.toList++h.toList++m.toList))++[],dK d++[])]) ks Q)):=by
 unfold owK
 split
 ·rename_i h;unfold exd;rw[zi2];unfold qqd;simp only;unfold ze6;rw[if_pos (by unfold znc qb4;simp only[h,Bool.or_true])];rfl
 ·rename_i h;exact ze1 _ _ _ _ _ _ rfl (by unfold znc qb4;simpa[ztf]using h)
theorem zg2 {o:Oper}{gR:List Ky}(hs:znc P o σ=false):zr3 P ops o os L gR ks Q σ=thn (st P o σ) (λσ'=>exd P ops os (L++[(gR++stR P o σ,stW P o σ)]) ks Q σ'):=by
 unfold zr3 ze6
 rw[if_neg (by rw[hs];simp)]
 rfl
theorem qdm {o:Oper}{gR R W:List Ky}{σ':St}(hs:ztf o.op=true)(h:zf1 P o R W σ σ')(k:exd P ops os (L++[(gR++R,W)]) ks Q σ'):zr3 P ops o os L gR ks Q σ:=by
 unfold zr3 ze6 znc
 rw[if_pos (by rw[hs];rfl)]
 exact⟨R,W,σ',h,k⟩
theorem qjy (gR:List Ky)(x:Operand):zr3 P ops ⟨d,.move x,ty,ps,af,none⟩ os L gR ks Q σ=exd P ops os (L++[(gR++(zas [x]),dK d)]) ks Q (σ.put d (σ.get P ty x)):=by
 rw[zg2 _ _ _ _ _ _ rfl]
 simp[st,st0,zm3,St.out,thn,stR,stW,qao,zyg,zo6]
theorem qeu (gR:List Ky)(t:TypeId)(x:Operand):zr3 P ops ⟨d,.load t x,ty,ps,af,none⟩ os L gR ks Q σ=thn (st P ⟨d,.load t x,ty,ps,af,none⟩ σ) (exd P ops os (L++[(gR++(zas [x]++vK (σ.get P 0 x)),dK d++[])]) ks Q):=zg2 _ _ _ _ _ _ rfl
theorem qa5 (gR:List Ky)(op:BinOp)(t t':TypeId)(x y:Operand):zr3 P ops ⟨d,.binOp op t x y t',ty,ps,af,none⟩ os L gR ks Q σ=thn (st P ⟨d,.binOp op t x y t',ty,ps,af,none⟩ σ) (exd P ops os (L++[(gR++(zas [x,y]++[]),dK d++[])]) ks Q):=zg2 _ _ _ _ _ _ rfl
theorem qdf (gR:List Ky)(op:UnOp)(t:TypeId)(x:Operand):zr3 P ops ⟨d,.unOp op t x,ty,ps,af,none⟩ os L gR ks Q σ=thn (st P ⟨d,.unOp op t x,ty,ps,af,none⟩ σ) (exd P ops os (L++[(gR++(zas [x]++[]),dK d++[])]) ks Q):=zg2 _ _ _ _ _ _ rfl
theorem zn8 (gR:List Ky)(t:TypeId)(x i:Operand):zr3 P ops ⟨d,.indexAddr t x i,ty,ps,af,none⟩ os L gR ks Q σ=thn (st P ⟨d,.indexAddr t x i,ty,ps,af,none⟩ σ) (exd P ops os (L++[(gR++(zas [x,i]++vK (σ.get P t x)),dK d++[])]) ks Q):=zg2 _ _ _ _ _ _ rfl
theorem zn3 (gR:List Ky)(t:TypeId)(x:Operand)(i:Nat):zr3 P ops ⟨d,.fieldAddr t x i,ty,ps,af,none⟩ os L gR ks Q σ=thn (st P ⟨d,.fieldAddr t x i,ty,ps,af,none⟩ σ) (exd P ops os (L++[(gR++(zas [x]++[]),dK d++[])]) ks Q):=zg2 _ _ _ _ _ _ rfl
theorem qa0 (gR:List Ky)(t:TypeId)(x:Operand)(i:Nat):zr3 P ops ⟨d,.field t x i,ty,ps,af,none⟩ os L gR ks Q σ=thn (st P ⟨d,.field t x i,ty,ps,af,none⟩ σ) (exd P ops os (L++[(gR++(zas [x]++[]),dK d++[])]) ks Q):=zg2 _ _ _ _ _ _ rfl
theorem qkb (gR:List Ky)(c x y:Operand):zr3 P ops ⟨d,.pick c x y,ty,ps,af,none⟩ os L gR ks Q σ=thn (st P ⟨d,.pick c x y,ty,ps,af,none⟩ σ) (exd P ops os (L++[(gR++(zas [c,x,y]++[]),dK d++[])]) ks Q):=zg2 _ _ _ _ _ _ rfl
theorem gdd_tt (o:Oper)(c:Nat):gdd P ops os L ks Q σ o c (.one (.t (.bool true))) true=zr3 P ops o os L [(0,c)] ks Q (σ.put (some c) (.one (.t (.bool true)))):=by
 rw[zjw];simp
theorem gdd_ff (o:Oper)(c:Nat):gdd P ops os L ks Q σ o c (.one (.t (.bool false))) false=zr3 P ops o os L [(0,c)] ks Q (σ.put (some c) (.one (.t (.bool false)))):=by
 rw[zjw];simp
theorem gdd_tf (o:Oper)(c:Nat):gdd P ops os L ks Q σ o c (.one (.t (.bool true))) false=exd P ops os (L++[([(0,c)],dK o.dst)]) ks Q ((σ.put (some c) (.one (.t (.bool true)))).put o.dst (.tup [])):=by
 rw[zjw];simp
theorem gdd_ft (o:Oper)(c:Nat):gdd P ops os L ks Q σ o c (.one (.t (.bool false))) true=exd P ops os (L++[([(0,c)],dK o.dst)]) ks Q ((σ.put (some c) (.one (.t (.bool false)))).put o.dst (.tup [])):=by
 rw[zjw];simp
theorem qfz (op:Op)(j:Nat)(want:Bool):exd P ops (⟨d,op,ty,ps,af,some (j,want)⟩::os) L ks Q σ=zav ((ops[j]?).bind (·.dst)) λc=>gdd P ops os L ks Q σ ⟨d,op,ty,ps,af,none⟩ c (σ.sl c) want:=by
  unfold exd zi2 qqd;simp only;unfold zav;split
  · rename_i c hc;simp only[hc];unfold gdd;split
    · rename_i b hb;first|(rw[hb];rfl)|rfl
    · rename_i b hb;first|(rw[hb];rfl)|rfl
    · rename_i hb hb2
      first
        | rfl
        | (split
           · exact absurd ‹_› (hb _)
           · exact absurd ‹_› (hb2 _)
           · rfl)
  · rename_i hc;simp only[hc]
end
theorem qb8:zas []=[]:=rfl
theorem qb6 (t:Nat)(l:List Operand):zas (.tmp t::l)=(0,t)::zas l:=rfl
theorem zt0 (v:Value)(l:List Operand):zas (.const v::l)=zas l:=rfl
theorem zvf (f:FuncId)(l:List Operand):zas (.func f::l)=zas l:=rfl
attribute [go_sem ↓] qsv qmr qam qlw qep qop zqj qvj zw3 zrl qj1 qie qfu qj4 ql7 qfz qea qjy qeu qa5 qdf zn8 zn3 qa0 qkb
attribute [go_sem] Option.toList_none Option.toList_some zjw qvh qb8 qb6 zt0 zvf dK bK vK lenK
theorem exd_cg {P:Program}{ops:Array Oper}{os:List Oper}{L:List (List Ky×List Ky)}{ks:List Fr}{Q:Exit->St->Prop}{σ σ':St}(h:σ=σ'){L':List (List Ky×List Ky)}(hL:L=L'):exd P ops os L ks Q σ=exd P ops os L' ks Q σ':=h▸hL▸rfl
theorem gdd_cg {P:Program}{ops:Array Oper}{os:List Oper}{L:List (List Ky×List Ky)}{ks:List Fr}{Q:Exit->St->Prop}{σ:St}{o:Oper}{c:Nat}{v v':V}{want:Bool}(h:v=v'):gdd P ops os L ks Q σ o c v want=gdd P ops os L ks Q σ o c v' want:=h▸rfl
attribute [go_sem high] gdd_tt gdd_ff gdd_tf gdd_ft
attribute [congr] exd_cg gdd_cg
end
section
open Go.RowKit
variable {P:Program}
def c0K:C->List Ky
 | .ow e _=>[(2,e)]
 | _=>[]
def zvx:List C->List Ky
 | []=>[]
 | c::cs=>c0K c++zvx cs
def bxK (σ:St)(b:Nat):List Ky:=(1,b)::match σ.bx b with|some cs=>zvx cs|none=>[]
def bsK (σ:St):List Nat->List Ky
 | []=>[]
 | b::bs=>bxK σ b++bsK σ bs
def cK (σ:St):C->List Ky
 | .bx b _=>bxK σ b
 | .fn _ caps=>bsK σ caps
 | c=>c0K c
def csK (σ:St):List C->List Ky
 | []=>[]
 | c::cs=>cK σ c++csK σ cs
def vsK (σ:St):List V->List Ky
 | []=>[]
 | v::vs=>csK σ v.cells++vsK σ vs
theorem c0K_ok (c:C):okK (c0K c)=true:=by cases c<;>rfl
theorem zva:∀cs,okK (zvx cs)=true
 | []=>rfl
 | c::cs=>zbf (c0K_ok c) (zva cs)
theorem qrd (σ:St)(b:Nat):okK (bxK σ b)=true:=by
 have:okK (match σ.bx b with|some cs=>zvx cs|none=>[])=true:=by
  split
  ·exact zva _
  ·rfl
 unfold bxK okK at *
 simpa using this
theorem qq3 (σ:St):∀bs,okK (bsK σ bs)=true
 | []=>rfl
 | b::bs=>zbf (qrd σ b) (qq3 σ bs)
theorem cK_ok (σ:St)(c:C):okK (cK σ c)=true:=by
 cases c
 case bx=>exact qrd _ _
 case fn=>exact qq3 _ _
 all_goals rfl
theorem qq7 (σ:St):∀cs,okK (csK σ cs)=true
 | []=>rfl
 | c::cs=>zbf (cK_ok σ c) (qq7 σ cs)
theorem qrf (σ:St):∀vs,okK (vsK σ vs)=true
 | []=>rfl
 | v::vs=>zbf (qq7 σ _) (qrf σ vs)
section
variable {σ σ1:St}
theorem CT0.loc {c:C}{t:T}(h:CT0 σ c t)(hk:∀k∈c0K c,za8 σ σ1 k):CT0 σ1 c t:=by
 cases c
 case ow e g =>
  cases t
  case sl=>obtain⟨d,o,h⟩:=h;exact⟨d,o,(show σ.ev e=σ1.ev e from hk (2,e) (by simp[c0K]))▸h⟩
  all_goals exact h.elim
 all_goals (cases t<;>exact h)
theorem zr0.loc:∀{cs:List C}{ts:List T},zr0 σ cs ts->(∀k∈zvx cs,za8 σ σ1 k)->zr0 σ1 cs ts
 | [],_,h,_=>h
 | c::cs,_,h,hk=>by
  obtain⟨t,ts',rfl,h1,h2⟩:=h;exact⟨t,ts',rfl,h1.loc λk hh=>hk k (by simp[zvx,hh]),zr0.loc h2 λk hh=>hk k (by simp[zvx,hh])⟩
theorem CTb.loc {b:Nat}{t:T}(h:CTb σ b t)(hk:∀k∈bxK σ b,za8 σ σ1 k):CTb σ1 b t:=by
 obtain⟨cs,ts,h1,h2,h3⟩:=h
 refine⟨cs,ts,(show σ.bx b=σ1.bx b from hk (1,b) (by simp[bxK]))▸h1,h2,h3.loc λk hh=>hk k ?_⟩
 unfold bxK
 rw[h1]
 simp[hh]
theorem CTf.loc:∀{bs:List Nat}{ts:List T},CTf σ bs ts->(∀k∈bsK σ bs,za8 σ σ1 k)->CTf σ1 bs ts
 | [],_,h,_=>h
 | b::bs,_,h,hk=>by
  obtain⟨t,ts',rfl,h1,h2⟩:=h;exact⟨t,ts',rfl,h1.loc λk hh=>hk k (by simp[bsK,hh]),CTf.loc h2 λk hh=>hk k (by simp[bsK,hh])⟩
theorem CT.loc {c:C}{t:T}(h:CT σ c t)(hk:∀k∈cK σ c,za8 σ σ1 k):CT σ1 c t:=by
 unfold CT at h⊢
 split at h
 ·exact h.loc hk
 ·exact⟨h.1,h.2.loc hk⟩
 ·rename_i hn1 hn2;cases c
  case bx b o =>
   cases o with
   | zero=>exact(hn1 b rfl).elim
   | succ o=>exact h
  case fn f caps =>
   cases t
   case fn g ts=>exact(hn2 f caps g ts rfl rfl).elim
   all_goals exact h
  all_goals exact CT0.loc h hk
theorem CTs.loc:∀{cs:List C}{ts:List T},CTs σ cs ts->(∀k∈csK σ cs,za8 σ σ1 k)->CTs σ1 cs ts
 | [],_,h,_=>h
 | c::cs,_,h,hk=>by
  obtain⟨t,ts',rfl,h1,h2⟩:=h;exact⟨t,ts',rfl,h1.loc λk hh=>hk k (by simp[csK,hh]),CTs.loc h2 λk hh=>hk k (by simp[csK,hh])⟩
theorem VDs.loc:∀{vs:List V}{ds:List D},VDs σ vs ds->(∀k∈vsK σ vs,za8 σ σ1 k)->VDs σ1 vs ds
 | [],_,h,_=>h
 | v::vs,_,h,hk=>by
  obtain⟨d,ds',rfl,h1,h2⟩:=h;refine⟨d,ds',rfl,?_,VDs.loc h2 λk hh=>hk k (by simp[vsK,hh])⟩;unfold VD at h1⊢;split at h1
  ·exact h1.loc λk hh=>hk k (by simp[vsK,V.cells,csK,hh])
  ·exact h1.loc λk hh=>hk k (by simp[vsK,V.cells,hh])
  ·exact h1.elim
theorem CT1.loc {c:C}{t:T}(h:CT1 σ c t):CT1 σ1 c t:=by cases c<;>exact h
theorem zl3.loc:∀{cs:List C}{ts:List T},zl3 σ cs ts->zl3 σ1 cs ts
 | [],_,h=>h
 | c::cs,_,h=>by obtain⟨t,ts',rfl,h1,h2⟩:=h;exact⟨t,ts',rfl,h1.loc,zl3.loc h2⟩
theorem zlf.loc:∀{vs:List V}{ds:List D},zlf σ vs ds->zlf σ1 vs ds
 | [],_,h=>h
 | v::vs,_,h=>by
  obtain⟨d,ds',rfl,h1,h2⟩:=h;refine⟨d,ds',rfl,?_,zlf.loc h2⟩;unfold VD1 at h1⊢;split at h1
  ·exact h1.loc
  ·exact h1.loc
  ·exact h1.elim
end
def owL (d:Nat):Nat->List T->List (Nat×Ev)
 | _,[]=>[]
 | j,.sl sz rows::ts=>owL d (j+1) ts++[(d*32+j,⟨true,sz,rows,0,true⟩)]
 | j,_::ts=>owL d (j+1) ts
theorem qj9 (d:Nat):∀(ts:List T)(j:Nat)(f:Nat->Option Ev),owE d j ts f=zph (owL d j ts) f
 | [],_,_=>rfl
 | t::ts,j,f=>by
  unfold owE;rw[qj9 d ts];cases t<;>simp only[owL,zu3,zza,zph]
theorem qhl:∀(a b:List (Nat×Ev)),eK (a++b)=eK a++eK b
 | [],_=>rfl
 | (e,x)::a,b=>by simp[eK,qhl a b]
theorem zng {σ σ1:St}(d:Nat):∀(ts:List T)(j:Nat),zi6 d j ts σ.ev->(∀k∈eK (owL d j ts),za8 σ σ1 k)->zi6 d j ts σ1.ev
 | [],_,_,_=>trivial
 | t::ts,j,h,hk=>by
  obtain⟨h1,h2⟩:=h;cases t
  case sl sz rows =>
   refine⟨?_,zng d ts (j+1) h2 λk hh=>hk k (by simp[owL,qhl,hh])⟩;have:σ.ev (d*32+j)=σ1.ev (d*32+j):=hk (2,d*32+j) (by simp[owL,qhl,eK]);show σ1.ev (d*32+j)=none
   rw[<-this];exact h1
  case pin=>exact(show False from h1).elim
  all_goals exact⟨trivial,zng d ts (j+1) h2 λk hh=>hk k (by simpa[owL]using hh)⟩
theorem zx9 (σ:St)(d:Nat)(res:List D):σ.callF d res=(σ.upE (owL d 0 (zbi res))).put (some d) (zn7 (qcx d 0 res)):=by
 unfold St.callF St.upE St.put
 simp only[qj9]
theorem zy1 (σ:St)(d:Option Nat)(res:List D):σ.callR d res=(σ.upE []).put d (zn7 (res.map D.toV)):=rfl
theorem zje {σ σ1:St}{asx:Array Operand}(ts:Array TypeId)(h:∀k∈zas asx.toList,za8 σ σ1 k):σ1.gets P asx ts=σ.gets P asx ts:=by
 unfold St.gets
 refine Kv λp hp=>?_
 obtain⟨x,t⟩:=p
 exact zca h (List.of_mem_zip hp).1 t
theorem zcn {x:Operand}{l:List Operand}{k:Ky}(h:k∈zas l):k∈zas (x::l):=by
 cases x<;>simp[zas,h]
section
variable {o:Oper}{σ:St}{x:Operand}{asx:Array Operand}{ts:Array TypeId}{f:FuncId}{cvs:List V}{d:Nat}{ds res:List D}
theorem znm (ho:o.op=.call ⟨.value x,asx,ts⟩)(hd:o.dst=some d)
  (h:FC P f ds res) (hc:za0 (σ.get P 0 x)=some (f,cvs)) (hv:VDs σ (σ.gets P asx ts++cvs) ds) (hf:zi6 d 0 (zbi res) σ.ev) :
  zf1 P o (zas (x::asx.toList)++(vsK σ (σ.gets P asx ts++cvs)++eK (owL d 0 (zbi res)))) (dK (some d)++eK (owL d 0 (zbi res))) σ (σ.callF d res):=by
 rw[zx9,<-hd]
 refine zf1.of (zbf (zbh _) (zbf (qrf _ _) (qcl _))) λσ1 h1=>?_
 rw[hd,<-zx9]
 have e1:σ1.get P 0 x=σ.get P 0 x:=zca (l:=x::asx.toList) (λk hk=>h1 k (by simp[hk])) (by simp) 0
 have e2:σ1.gets P asx ts=σ.gets P asx ts:=zje ts λk hk=>h1 k (by simp[zcn hk])
 exact zui ho hd h (by rw[e1];exact hc) (by rw[e2];exact hv.loc λk hk=>h1 k (by simp[hk])) (zng d _ 0 hf λk hk=>h1 k (by simp[hk]))
theorem ztn (ho:o.op=.call ⟨.value x,asx,ts⟩)
  (h:RC P f ds res) (hc:za0 (σ.get P 0 x)=some (f,cvs)) (hv:zlf σ (σ.gets P asx ts++cvs) ds):zf1 P o (zas (x::asx.toList)) (dK o.dst++eK []) σ (σ.callR o.dst res):=by
 rw[zy1]
 refine zf1.of (zbh _) λσ1 h1=>?_
 rw[<-zy1]
 have e1:σ1.get P 0 x=σ.get P 0 x:=zca (l:=x::asx.toList) h1 (by simp) 0
 have e2:σ1.gets P asx ts=σ.gets P asx ts:=zje ts λk hk=>h1 k (zcn hk)
 exact zum ho h (by rw[e1];exact hc) (by rw[e2];exact hv.loc)
end
def qmc:Option (FuncId×List V)->List V
 | some p=>p.2
 | none=>[]
section
variable {ks:List Fr}{Q:Exit->St->Prop}{σ:St}{ops:Array Oper}{os:List Oper}{L:List (List Ky×List Ky)}{ty:TypeId}{ps:String}{af:Array Edge}{x:Operand}{asx:Array Operand}{ts:Array TypeId}{f:FuncId}{ds res:List D}
theorem zai {d:Nat}(h:FC P f ds res)(hp:zav (za0 (σ.get P 0 x)) λp=>p.1=f/\VDs σ (σ.gets P asx ts++p.2) ds/\zi6 d 0 (zbi res) σ.ev)
  (k:exd P ops os (L++[(zas (x::asx.toList)++(vsK σ (σ.gets P asx ts++qmc (za0 (σ.get P 0 x)))++eK (owL d 0 (zbi res))),dK (some d)++eK (owL d 0 (zbi res)))]) ks Q (σ.callF d res)) :
  exd P ops (⟨some d,.call ⟨.value x,asx,ts⟩,ty,ps,af,none⟩::os) L ks Q σ:=by
 obtain⟨⟨f',cvs⟩,h1,rfl,h2,h3⟩:=zap hp
 rw[h1]at k
 exact zgw rfl rfl (znm rfl rfl h h1 h2 h3) k
theorem zay {d:Option Nat}(h:RC P f ds res)(hp:zav (za0 (σ.get P 0 x)) λp=>p.1=f/\zlf σ (σ.gets P asx ts++p.2) ds)
  (k:exd P ops os (L++[(zas (x::asx.toList),dK d++[])]) ks Q (σ.callR d res)) :
  exd P ops (⟨d,.call ⟨.value x,asx,ts⟩,ty,ps,af,none⟩::os) L ks Q σ:=by
 obtain⟨⟨f',cvs⟩,h1,rfl,h2⟩:=zap hp
 exact zgw rfl rfl (ztn rfl h h1 h2) k
end
attribute [go_sem] qmc
attribute [go_sem] c0K zvx bxK bsK cK csK vsK owL eK
end
section
open Go.RowKit
variable {P:Program}
def St.frz (σ:St)(e:Nat)(x:Ev):St:=σ.upE [(e,x.off)]
theorem frz_wk {σ:St}{e:Nat}{x:Ev}(hx:σ.ev e=some x):Wk σ (σ.frz e x):=by
 intro n0 N g a w hR
 have hev:∀e',e'≠e->(σ.frz e x).ev e'=σ.ev e':=λe' he=>zan _ _ he
 have heE:(σ.frz e x).ev e=some x.off:=zaf _ _ _
 have hlive:∀e' z,(σ.frz e x).ev e'=some z->z.on=true->e'≠e/\σ.ev e'=some z:=λe' z h ho=>by
  by_cases he:e'=e
  ·subst he;rw[heE,Qe]at h;subst h;cases ho
  ·rw[hev e' he]at h;exact⟨he,h⟩
 have hon:∀e',(σ.frz e x).On e'->e'≠e/\σ.On e':=λe' h=>by
  obtain⟨z,hz,ho⟩:=h;exact⟨(hlive e' z hz ho).1,z,(hlive e' z hz ho).2,ho⟩
 have hf:∀b,Fix σ g w b->Fix (σ.frz e x) g w b:=λb hf=>⟨hf.1,λe' z hz ho=>hf.2.1 e' z (hlive e' z hz ho).2 ho,hf.2.2⟩
 have m:Mv σ (σ.frz e x) g g w w:=⟨λ_ _=>rfl,hf,λb hb=>⟨rfl,hb⟩,λe' n h=>⟨by
  obtain⟨z,hz,hn⟩:=h;by_cases he:e'=e
  ·subst he;rw[hx,Qe]at hz;subst hz;exact⟨_,heE,hn⟩
  ·exact⟨z,by rw[hev e' he];exact hz,hn⟩,rfl⟩,λb hb e' h=>hb.2 e' (hon e' h).2⟩
 refine⟨g,⟨hR.defers,hR.size,hR.anew,λi=>m.vr (hR.slots i),λb cs hb=>?_,hR.base,hR.inj,λe' z he ho=>?_,λe' z he ho=>?_,hR.slc,λe' h=>hR.ebase e' (hon e' h).2,λe' h=>hR.etop e' (hon e' h).2,λe' h=>hR.nodup e' (hon e' h).2,λe1 e2 h1 h2=>hR.apart e1 e2 (hon e1 h1).2 (hon e2 h2).2,λe' k h=>hR.ebx e' k (hon e' h).2⟩,rfl,rfl⟩
 ·obtain⟨vs,ty,k1,k2⟩:=hR.boxes b cs hb;exact⟨vs,ty,k1,m.crs k2⟩
 ·exact m.evr (hR.evs e' z (hlive e' z he ho).2 ho) λ_ _=>rfl
 ·by_cases hee:e'=e
  ·subst hee;rw[heE,Qe]at he;subst he;cases hxo:x.on with
   | false =>
    have:=hR.offs e' x hx hxo;exact⟨m.rep this.1,this.2⟩
   | true =>
    have hO:σ.On e':=⟨x,hx,hxo⟩;obtain⟨ao,cap,vs2,k1,k2,k3,k4,k5,k6,k7⟩:=hR.vals hx hxo;rcases k7 with⟨rfl,_,j3,_⟩|⟨b,cells,ty,fps',rfl,j2,j3,j4,j5,_,_⟩
    ·refine⟨?_,λb o s n c hh=>?_⟩
     ·show zau _ _ (.sl x.sz x.rows) (g.ψ e' x.gen)
      unfold zau;exact⟨none,cap,k1,k2,k3,Or.inl j3⟩
     ·rw[show g.ψ e' x.off.gen=_ from k1]at hh;cases hh
    ·have hbm:b∈g.φ e':=by rw[j2];simp
     have hF:Fix (σ.frz e' x) g w b:=⟨λk hk hkb=>hR.ebx e' k hO hk (hkb▸hbm),λe2 z hz ho hh=>by
      obtain⟨h1,h2⟩:=hlive e2 z hz ho
      exact hR.apart e' e2 hO ⟨z,h2,ho⟩ (Ne.symm h1) b hbm (List.mem_of_mem_head? hh),(hR.evs e' x hx hxo).lt b hbm,(hR.ebase e' hO b hbm).1⟩
     refine⟨?_,λb' o s n c hh=>?_⟩
     ·show zau _ _ (.sl x.sz x.rows) (g.ψ e' x.gen)
      unfold zau;refine⟨_,cap,k1,k2,k3,Or.inr ⟨b,0,rfl,hF,zax.of_vals (vs:=vs2) k4 (zag.keep (λ_ _=>rfl) hf _ _ k6) λj u hu=>?_⟩⟩;rw[<-j5,List.getElem?_take]at hu;split at hu
      ·simpa[World.cell?,j3]using hu
      ·cases hu
     ·rw[show g.ψ e' x.off.gen=_ from k1]at hh;injection hh with hh _ _
      simp only[Qe,Addr.mk.injEq]at hh;exact⟨hh.2.1.symm,hh.2.2.symm⟩
  ·rw[hev e' hee]at he;have:=hR.offs e' z he ho;exact⟨m.rep this.1,this.2⟩
theorem zak.pre {o:Oper}{σ σ' σ'':St}(h:Wk σ σ')(k:zak P o σ' σ''):zak P o σ σ'':=λn0 N g a w hR hn hd=>by
 obtain⟨g1,r1,r2,r3⟩:=h n0 N g a w hR
 refine zcu (λa' w' hh=>?_) (k n0 N g1 a w r1 hn hd)
 obtain⟨g',k1,k2,k3,k4⟩:=hh
 exact⟨g',k1,k2,k3.trans r2,k4.trans r3⟩
def zrp:List (Nat×Ev)->List (Nat×Ev)
 | []=>[]
 | (e,x)::l=>(e,x.off)::zrp l
theorem zxo:∀(l:List (Nat×Ev))(f:Nat->Option Ev),offs l f=zph (zrp l) f
 | [],_=>rfl
 | (e,x)::l,f=>by unfold offs;rw[zxo l f];rfl
theorem zc3 (σ:St)(e:Nat)(cons:List (Nat×Ev))(x:Ev):σ.apd e cons x=σ.upE ((e,x)::zrp cons):=by
 unfold St.apd St.upE
 simp only[zxo];rfl
section
variable {ks:List Fr}{Q:Exit->St->Prop}{σ:St}{ops:Array Oper}{os:List Oper}{L:List (List Ky×List Ky)}{ty:TypeId}{ps:String}{af:Array Edge}{d:Nat}{s y:Operand}{t:TypeId}
theorem qqe {σ1:St}{K:List Ky}(h1:∀k∈zas [s,y]++K,za8 σ σ1 k):σ1.get P t s=σ.get P t s/\σ1.get P t y=σ.get P t y/\∀k∈K,za8 σ σ1 k :=
 ⟨zca (l:=[s,y]) (λk hk=>h1 k (by simp[hk])) (by simp) t,zca (l:=[s,y]) (λk hk=>h1 k (by simp[hk])) (by simp) t,λk hk=>h1 k (by simp[hk])⟩
theorem dApOO {e e2 gn gn2 sz sz2:Nat}{dp dp2:Bool}{rows rows2:List (List T)}(h:σ.get P t s=.one (.ow e gn)/\σ.get P t y=.one (.ow e2 gn2)/\σ.ev e=some ⟨dp,sz,rows,gn,true⟩/\σ.ev e2=some ⟨dp2,sz2,rows2,gn2,true⟩/\e2≠e/\sz2=sz)(hT:apT P t sz)(hb:rows.length+rows2.length<=4294967296)
  (k:exd P ops os (L++[(zas [s,y]++[(2,e),(2,e2)],dK (some d)++[(2,e),(2,e2)])]) ks Q ((σ.apd e [(e2,⟨dp2,sz2,rows2,gn2,true⟩)] ⟨dp&&dp2,sz,rows++rows2,gn+1,true⟩).put (some d) (.one (.ow e (gn+1))))):exd P ops (⟨some d,.call ⟨.builtin .append,#[s,y],#[t,t]⟩,ty,ps,af,none⟩::os) L ks Q σ:=by
 refine zgw rfl rfl ?_ k
 rw[zc3]
 refine zf1.of (o:=⟨some d,_,ty,ps,af,none⟩) (R:=zas [s,y]++[(2,e),(2,e2)]) (l:=(e,_)::zrp [(e2,_)]) (zbf (zbh _) rfl) λσ1 h1=>?_
 rw[<-zc3]
 obtain⟨k1,k2,k3⟩:=qqe (P:=P) (t:=t) h1
 exact qgw ⟨k1.trans h.1,k2.trans h.2.1,(Eq.symm (k3 (2,e) (by simp))).trans h.2.2.1,(Eq.symm (k3 (2,e2) (by simp))).trans h.2.2.2.1,h.2.2.2.2⟩ hT hb
theorem dApOT {e gn sz:Nat}{dp:Bool}{rows rows2:List (List T)}(dp2:Bool)(h:σ.get P t s=.one (.ow e gn)/\(σ.get P t y).rd=.one (.t (.sl sz rows2))/\σ.ev e=some ⟨dp,sz,rows,gn,true⟩)(hf:dp2=true->∀c∈rows2.flatten,c.flat=true)(hT:apT P t sz)(hb:rows.length+rows2.length<=4294967296)
  (k:exd P ops os (L++[(zas [s,y]++[(2,e)],dK (some d)++[(2,e)])]) ks Q ((σ.apd e [] ⟨dp&&dp2,sz,rows++rows2,gn+1,true⟩).put (some d) (.one (.ow e (gn+1))))):exd P ops (⟨some d,.call ⟨.builtin .append,#[s,y],#[t,t]⟩,ty,ps,af,none⟩::os) L ks Q σ:=by
 refine zgw rfl rfl ?_ k
 rw[zc3]
 refine zf1.of (o:=⟨some d,_,ty,ps,af,none⟩) (R:=zas [s,y]++[(2,e)]) (l:=(e,_)::zrp []) (zbf (zbh _) rfl) λσ1 h1=>?_
 rw[<-zc3]
 obtain⟨k1,k2,k3⟩:=qqe (P:=P) (t:=t) h1
 exact qi5 dp2 ⟨k1.trans h.1,(congrArg V.rd k2).trans h.2.1,(Eq.symm (k3 (2,e) (by simp))).trans h.2.2⟩ hf hT hb
theorem dApNO {z e2 sz gn2:Nat}{dp2:Bool}{rows2:List (List T)}(h:σ.get P t s=.one (.nl z)/\σ.get P t y=.one (.ow e2 gn2)/\σ.ev (d*32)=none/\σ.ev e2=some ⟨dp2,sz,rows2,gn2,true⟩/\e2≠d*32)(hT:apT P t sz)(hb:rows2.length<=4294967296)
  (k:exd P ops os (L++[(zas [s,y]++[(2,d*32),(2,e2)],dK (some d)++[(2,d*32),(2,e2)])]) ks Q ((σ.apd (d*32) [(e2,⟨dp2,sz,rows2,gn2,true⟩)] ⟨dp2,sz,rows2,0,true⟩).put (some d) (.one (.ow (d*32) 0)))):exd P ops (⟨some d,.call ⟨.builtin .append,#[s,y],#[t,t]⟩,ty,ps,af,none⟩::os) L ks Q σ:=by
 refine zgw rfl rfl ?_ k
 rw[zc3]
 refine zf1.of (o:=⟨some d,_,ty,ps,af,none⟩) (R:=zas [s,y]++[(2,d*32),(2,e2)]) (l:=(d*32,_)::zrp [(e2,_)]) (zbf (zbh _) rfl) λσ1 h1=>?_
 rw[<-zc3]
 obtain⟨k1,k2,k3⟩:=qqe (P:=P) (t:=t) h1
 exact qde ⟨k1.trans h.1,k2.trans h.2.1,(Eq.symm (k3 (2,d*32) (by simp))).trans h.2.2.1,(Eq.symm (k3 (2,e2) (by simp))).trans h.2.2.2.1,h.2.2.2.2⟩ hT hb
theorem dApNT {z sz:Nat}{rows2:List (List T)}(dp2:Bool)(h:σ.get P t s=.one (.nl z)/\(σ.get P t y).rd=.one (.t (.sl sz rows2))/\σ.ev (d*32)=none)(hf:dp2=true->∀c∈rows2.flatten,c.flat=true)(hT:apT P t sz)(hb:rows2.length<=4294967296)
  (k:exd P ops os (L++[(zas [s,y]++[(2,d*32)],dK (some d)++[(2,d*32)])]) ks Q ((σ.apd (d*32) [] ⟨dp2,sz,rows2,0,true⟩).put (some d) (.one (.ow (d*32) 0)))):exd P ops (⟨some d,.call ⟨.builtin .append,#[s,y],#[t,t]⟩,ty,ps,af,none⟩::os) L ks Q σ:=by
 refine zgw rfl rfl ?_ k
 rw[zc3]
 refine zf1.of (o:=⟨some d,_,ty,ps,af,none⟩) (R:=zas [s,y]++[(2,d*32)]) (l:=(d*32,_)::zrp []) (zbf (zbh _) rfl) λσ1 h1=>?_
 rw[<-zc3]
 obtain⟨k1,k2,k3⟩:=qqe (P:=P) (t:=t) h1
 exact qgz dp2 ⟨k1.trans h.1,(congrArg V.rd k2).trans h.2.1,(Eq.symm (k3 (2,d*32) (by simp))).trans h.2.2⟩ hf hT hb
end
end
section
open Go.RowKit
variable {P:Program}
theorem zty (n:Nat):∀(parts:List (Nat×Value))(k:Nat)(cells:Array Value),(∀(j i:Nat) v,parts[j]?=some (i,v)->i=k+j/\v.cells.size=n)->(k+parts.length)*n<=cells.size →
  ∃cells',Instr.fill (λi=>some (i*n,n)) cells parts=some cells'/\cells'.toList=cells.toList.take (k*n)++(parts.flatMap λp=>p.2.cells.toList)++cells.toList.drop ((k+parts.length)*n)
 | [],k,cells,_,_=>⟨cells,rfl,by simp⟩
 | (i,v)::rest,k,cells,h,hl=>by
  obtain⟨hik,hv⟩:=h 0 i v rfl;obtain rfl:k=i:=by omega
  have hl':(k+(rest.length+1))*n<=cells.size:=by simpa using hl
  have e1:(k+(rest.length+1))*n=k*n+n+rest.length*n:=by rw[Ku,Ku,Yv];omega
  have hset:=zox cells (k*n) v.cells.toList (by simp only[Ji,hv];omega);have hlen:v.cells.toList.length=n:=by simpa using hv
  have hck:(cells.toList.take (k*n)).length=k*n:=by simp;omega
  obtain⟨cells',k1,k2⟩:=zty n rest (k+1) ((v.cells.toList.toArray.zipIdx).foldl (λcs (c,j)=>cs.setIfInBounds (k*n+j) c) cells) (λj i u hu=>by
   have:=h (j+1) i u (by simpa using hu);exact⟨Y0,this.2⟩) (by
   have:(((v.cells.toList.toArray.zipIdx).foldl (λcs (c,j)=>cs.setIfInBounds (k*n+j) c) cells).toList).length=cells.size:=by
    rw[hset];simp only[Qy,Qo,K3,Ji,hv];omega
   rw[Ji]at this
   rw[this,show k+1+rest.length=k+(rest.length+1) by omega];exact hl')
  refine⟨cells',?_,?_⟩
  ·have hcond:¬(v.cells.size≠n||k*n+v.cells.size>cells.size)=true:=by simp[hv];omega
   simp only[Instr.fill,if_neg hcond];simpa using k1
  ·rw[k2,hset];rw[hlen];have e2:(k+1)*n=k*n+n:=by rw[Ku,Yv]
   have e3:(cells.toList.take (k*n)++v.cells.toList++cells.toList.drop (k*n+n)).take ((k+1)*n)=cells.toList.take (k*n)++v.cells.toList:=by
    rw[List.take_append_of_le_length (by rw[Qy,hck,hlen];omega),Qr (by rw[Qy,hck,hlen];omega)]
   have e4:(cells.toList.take (k*n)++v.cells.toList++cells.toList.drop (k*n+n)).drop ((k+1+rest.length)*n)=cells.toList.drop ((k+(rest.length+1))*n):=by
    have e5:(k+1+rest.length)*n=k*n+n+rest.length*n:=by rw[Ku,Ku,Yv]
    rw[List.drop_append,Q0 (by rw[Qy,hck,hlen];omega),Qy,hck,hlen,List.drop_drop,e5,e1];simp only[K5]
    congr 1;omega
   rw[e3,e4];simp
theorem qt2 (w:World)(t e:TypeId)(len:Nat)(parts:Array (Nat×Value))(ie:TypeInfo)(z:Value)(hu:P.underlying t=some (.slice e))(hie:P.info? e=some ie)(hz:ie.zero=some z)(hsmall:len*ie.size<=2^24)
  (hl:parts.size=len) (h:∀(j i:Nat) v,parts.toList[j]?=some (i,v)->i=j/\v.cells.size=ie.size) :
  ∃cells,(Instr.buildSlice t len parts).run P w=.ok (.slice (some ⟨w.heap.size,0,none⟩) len len) (w.alloc (.cells cells e))/\cells.toList=parts.toList.flatMap λp=>p.2.cells.toList:=by
 have hs:¬len*ie.size>2^24:=by omega
 obtain⟨cells,k1,k2⟩:=zty ie.size parts.toList 0 ((Array.range (len*ie.size)).map ((if len*ie.size=0 then #[]else z.cells)[· % (if len*ie.size=0 then #[]else z.cells).size]!)) (λj i v hj=>by obtain⟨e1,e2⟩:=h j i v hj;exact⟨Y0,e2⟩) (by simp[hl])
 refine⟨cells,?_,?_⟩
 ·by_cases h0:len*ie.size=0
  ·simp only[h0,if_true]at k1;simp[Instr.buildSlice,run_underlying hu,sizeOf,typeInfo,hie,h0,newRow]at k1⊢;rw[k1];rfl
  ·simp only[h0,if_false]at k1;simp[Instr.buildSlice,run_underlying hu,sizeOf,typeInfo,zeroValue,hie,hz,hs,h0,k1,newRow]
 ·rw[k2];simp[hl]
def ztc (P:Program)(el:TypeId)(n:Nat)(get:TypeId->Operand->V):Nat->List (Nat×Operand)->Option (List (List C))
 | _,[]=>some []
 | k,(i,x)::rest=>if i=k/\(get el x).cells.length=n/\(get el x).cells.all C.good=true/\(get el x).isTup=false then (ztc P el n get (k+1) rest).map ((get el x).cells::·)else none
theorem zt3 {el:TypeId}{n:Nat}{f g:TypeId->Operand->V}:∀{parts:List (Nat×Operand)}{k:Nat},(∀t,∀x∈parts.map (·.2),g t x=f t x)->ztc P el n g k parts=ztc P el n f k parts
 | [],_,_=>rfl
 | (i,x)::rest,k,h=>by
  unfold ztc;rw[h el x (by simp),zt3 λt y hy=>h t y (by simp at hy⊢;exact Or.inr hy)]
theorem zy7 {n0:Nat->Prop}{N:Nat}{σ:St}{g:Gh}{a:Act}{w:World}(hR:Rel n0 N σ g a w){el:TypeId}{n:Nat}:∀{parts:List (Nat×Operand)}{k:Nat}{rs:List (List C)},ztc P el n (σ.get P) k parts=some rs →
  (∀(j i:Nat) v,(parts.map λp=>(p.1,a.eval p.2))[j]?=some (i,v)->i=k+j/\v.cells.size=n)/\rs.length=parts.length/\CRs σ g w rs.flatten ((parts.map λp=>(p.1,a.eval p.2)).flatMap λp=>p.2.cells.toList)/\∀r∈rs,r.length=n
 | [],k,rs,h=>by cases h;exact⟨by simp,rfl,rfl,by simp⟩
 | (i,x)::rest,k,rs,h=>by
  unfold ztc at h;split at h
  ·rename_i hh;obtain⟨h1,h2,h3,h4⟩:=hh;obtain⟨rs',h5,rfl⟩:=Q5.1 h;obtain⟨k1,k2,k3,k4⟩:=zy7 hR h5;obtain⟨c1,c2⟩:=hR.vcells el x h3 h4;refine⟨λj i' v hj=>?_,by simp[k2],?_,λr hr=>?_⟩
   ·cases j with
    | zero =>
     simp only[Qc,List.getElem?_cons_zero,Qe,Qt]at hj;obtain⟨rfl,rfl⟩:=hj;exact⟨Y0,by rw[<-h2,<-c1.len];simp⟩
    | succ j =>
     have:=k1 j i' v (by simpa using hj);exact⟨Y0,this.2⟩
   ·rw[Ki,Qc,Jj];exact c1.append k3
   ·rcases Qu.1 hr with rfl|hr
    ·exact h2
    ·exact k4 r hr
  ·cases h
def dpC (σ:St):C->Option (T×List (Nat×Ev))
 | .t x=>if x.flat=true then some (x,[])else none
 | .nl s=>some (.sl s [],[])
 | .ow e g=>(σ.ev e).bind λx=>if x.gen=g/\x.on=true/\x.deep=true then some (.sl x.sz x.rows,[(e,x)])else none
 | _=>none
def zux (σ:St):List C->Option (List T×List (Nat×Ev))
 | []=>some ([],[])
 | c::cs=>(dpC σ c).bind λp=>(zux σ cs).map λq=>(p.1::q.1,p.2++q.2)
def qcw (σ:St):List (List C)->Option (List (List T)×List (Nat×Ev))
 | []=>some ([],[])
 | r::rs=>(zux σ r).bind λp=>(qcw σ rs).map λq=>(p.1::q.1,p.2++q.2)
def fpL (g:Gh)(l:List (Nat×Ev)):List Nat:=l.flatMap λp=>g.φ p.1
section
variable {n0:Nat->Prop}{N:Nat}{σ:St}{g:Gh}{a:Act}{w:World}(hR:Rel n0 N σ g a w)
include hR
theorem qt5 {c:C}{v:Value}{t:T}{l:List (Nat×Ev)}(hv:CR σ g w c v)(h:dpC σ c=some (t,l)):zba w t v (fpL g l)/\∀p∈l,σ.ev p.1=some p.2/\p.2.on=true:=by
 cases c with
 | t x =>
  simp only[dpC]at h;split at h
  ·rename_i hf;simp only[Qe,Qt]at h;obtain⟨rfl,rfl⟩:=h;refine⟨?_,by simp⟩;cases x<;>simp only[T.flat,Qp]at hf<;>simp only[CR,zau]at hv<;>unfold zba
   ·exact⟨hv.1,hv.2.1,hv.2.2,rfl⟩
   ·exact⟨hv,rfl⟩
   ·exact⟨hv.1,hv.2,rfl⟩
   ·exact⟨hv,rfl⟩
  ·cases h
 | nl s =>
  cases h;refine⟨?_,by simp⟩;unfold zba;exact⟨none,0,hv,by simp,by simp,Or.inl ⟨rfl,rfl,rfl,rfl⟩⟩
 | ow e n =>
  simp only[dpC]at h;obtain⟨x,hx,h'⟩:=Qf.1 h;clear h;by_cases hh:x.gen=n/\x.on=true/\x.deep=true
  ·rw[if_pos hh]at h';obtain⟨rfl,ho,hd⟩:=hh;cases h';refine⟨?_,λp hp=>by simp only[Qu,K2,or_false]at hp;subst hp;exact⟨hx,ho⟩⟩;have hE:=hR.evs e x hx ho;rw[hv.1];unfold zba;obtain⟨ao,cap,e1,e2,e3,e4⟩:=hE;refine⟨ao,cap,e1,e2,e3,?_⟩;simp only[fpL,Jj,List.flatMap_nil,Ko];rcases e4 with e4|⟨b,cells,ty,fps,k1,k2,k3,k4,k5⟩
   ·exact Or.inl e4
   ·rw[if_pos hd]at k5;exact Or.inr ⟨b,cells,ty,fps,k1,k2,k3,k4,k5⟩
  ·rw[if_neg hh]at h';cases h'
 | bx b o=>cases h
 | el cs o=>cases h
 | er cs o=>cases h
 | eo e s sz i o=>cases h
 | fn f caps=>cases h
 | cv v=>cases h
 | any=>cases h
 | rn x=>cases h
theorem zly:∀{cs:List C}{vs:List Value}{ts:List T}{l:List (Nat×Ev)},CRs σ g w cs vs->zux σ cs=some (ts,l)->zbc w ts vs (fpL g l)/\(∀p∈l,σ.ev p.1=some p.2/\p.2.on=true)/\ts.length=cs.length
 | [],vs,ts,l,hv,h=>by
  cases h;exact⟨⟨hv,rfl⟩,by simp,rfl⟩
 | c::cs,vs,ts,l,hv,h=>by
  obtain⟨v,vs',rfl,h1,h2⟩:=hv;unfold zux at h;obtain⟨p,e1,h⟩:=Qf.1 h;obtain⟨q,e2,h⟩:=Q5.1 h;obtain⟨p1,p2⟩:=p;obtain⟨q1,q2⟩:=q;simp only[Qt]at h;obtain⟨rfl,rfl⟩:=h;obtain⟨k1,k2⟩:=qt5 hR h1 e1;obtain⟨j1,j2,j3⟩:=zly h2 e2;refine⟨⟨v,vs',_,_,rfl,by simp[fpL],k1,j1⟩,λp hp=>?_,by simp[j3]⟩;rcases Qw.1 hp with hp|hp
  ·exact k2 p hp
  ·exact j2 p hp
theorem zzv:∀{rs:List (List C)}{vs:List Value}{rows:List (List T)}{l:List (Nat×Ev)},CRs σ g w rs.flatten vs->qcw σ rs=some (rows,l)->zbc w rows.flatten vs (fpL g l)/\(∀p∈l,σ.ev p.1=some p.2/\p.2.on=true)/\(rows.map List.length)=rs.map List.length
 | [],vs,rows,l,hv,h=>by
  cases h;exact⟨⟨hv,rfl⟩,by simp,rfl⟩
 | r::rs,vs,rows,l,hv,h=>by
  rw[Ki]at hv;obtain⟨v1,v2,rfl,h1,h2⟩:=hv.split;unfold qcw at h;obtain⟨p,e1,h⟩:=Qf.1 h;obtain⟨q,e2,h⟩:=Q5.1 h;obtain⟨p1,p2⟩:=p;obtain⟨q1,q2⟩:=q;simp only[Qt]at h;obtain⟨rfl,rfl⟩:=h;obtain⟨k1,k2,k3⟩:=zly hR h1 e1;obtain⟨j1,j2,j3⟩:=zzv h2 e2;refine⟨by rw[Ki,show fpL g (p2++q2)=fpL g p2++fpL g q2 by simp[fpL]];exact k1.append j1,λp hp=>?_,by simp[j3,k3]⟩;rcases Qw.1 hp with hp|hp
  ·exact k2 p hp
  ·exact j2 p hp
theorem zmu:∀{l:List (Nat×Ev)},(∀p∈l,σ.ev p.1=some p.2/\p.2.on=true)->(l.map (·.1)).Nodup->(fpL g l).Nodup
 | [],_,_=>Kr
 | p::l,h,hn=>by
  have hO:∀q∈p::l,σ.On q.1:=λq hq=>⟨q.2,h q hq⟩;rw[Qc,Kx]at hn;show(g.φ p.1++fpL g l).Nodup
  refine Kg.2 ⟨hR.nodup p.1 (hO p (by simp)),zmu (λq hq=>h q (by simp[hq])) hn.2,λb hb c hc hbc=>?_⟩;subst hbc;unfold fpL at hc;obtain⟨q,hq,hbq⟩:=J2.1 hc;have hne:p.1≠q.1:=λe=>hn.1 (by rw[e];exact Ka.2 ⟨q,hq,rfl⟩);exact hR.apart p.1 q.1 (hO p (by simp)) (hO q (by simp[hq])) hne b hb hbq
end
def shC (σ:St):C->Option T
 | .t x=>some x
 | .rn x=>some x
 | .nl s=>some (.sl s [])
 | .el cs 0=>some (.ptr cs)
 | .er cs 0=>some (.ptr cs)
 | .fn f []=>some (.fn f [])
 | .ow e g=>(σ.ev e).bind λx=>if x.gen=g/\x.on=false then some (.sl x.sz x.rows)else none
 | _=>none
def qra (σ:St):List C->Option (List T)
 | []=>some []
 | c::cs=>(shC σ c).bind λt=>(qra σ cs).map (t::·)
def zta (σ:St):List (List C)->Option (List (List T))
 | []=>some []
 | r::rs=>(qra σ r).bind λt=>(zta σ rs).map (t::·)
section
variable {n0:Nat->Prop}{N:Nat}{σ:St}{g:Gh}{a:Act}{w:World}(hR:Rel n0 N σ g a w)
include hR
theorem qvd {c:C}{v:Value}{t:T}(hv:CR σ g w c v)(h:shC σ c=some t):zau w (Fix σ g w) t v:=by
 unfold shC at h
 split at h
 ·cases h;exact hv
 ·cases h;exact zau.keep (λ_ _=>rfl) (λ_ hb=>hb.1) _ v hv
 ·cases h;unfold zau;exact⟨none,0,hv,by simp,by simp,Or.inl rfl⟩
 ·cases h;obtain⟨b,q,h1,h2,h3⟩:=hv;unfold zau;exact⟨b,q,h1,h2,h3⟩
 ·cases h;obtain⟨b,q,h1,h2,h3⟩:=hv;unfold zau;exact⟨b,q,h1,h2.1,zbo.keep (λ_ _=>rfl) (λ_ hb=>hb.1) b rfl q _ h3⟩
 ·cases h;unfold zau;exact⟨[],hv.1,by unfold zag;rfl⟩
 ·obtain⟨x,hx,h'⟩:=Qf.1 h;clear h;split at h'
  ·rename_i hh;cases h';have:=(hR.offs _ x hx hh.2).1;rw[hh.1]at this;rw[hv.1];exact this
  ·cases h'
 ·cases h
theorem zzz:∀{cs:List C}{vs:List Value}{ts:List T},CRs σ g w cs vs->qra σ cs=some ts->zag w (Fix σ g w) ts vs/\ts.length=cs.length
 | [],vs,ts,hv,h=>by cases h;unfold zag;exact⟨hv,rfl⟩
 | c::cs,vs,ts,hv,h=>by
  obtain⟨v,vs',rfl,h1,h2⟩:=hv;unfold qra at h;obtain⟨p,e1,h⟩:=Qf.1 h;obtain⟨q,e2,rfl⟩:=Q5.1 h;obtain⟨j1,j2⟩:=zzz h2 e2;unfold zag;exact⟨⟨v,vs',rfl,qvd hR h1 e1,j1⟩,by simp[j2]⟩
theorem zyf:∀{rs:List (List C)}{vs:List Value}{rows:List (List T)},CRs σ g w rs.flatten vs->zta σ rs=some rows->zag w (Fix σ g w) rows.flatten vs/\(rows.map List.length)=rs.map List.length
 | [],vs,rows,hv,h=>by cases h;exact⟨by unfold zag;exact hv,rfl⟩
 | r::rs,vs,rows,hv,h=>by
  rw[Ki]at hv;obtain⟨v1,v2,rfl,h1,h2⟩:=hv.split;unfold zta at h;obtain⟨p,e1,h⟩:=Qf.1 h;obtain⟨q,e2,rfl⟩:=Q5.1 h;obtain⟨k1,k2⟩:=zzz hR h1 e1;obtain⟨j1,j2⟩:=zyf h2 e2;exact⟨by rw[Ki];exact k1.append j1,by simp[k2,j2]⟩
end
theorem qg1 {rows:List (List T)}{rs:List (List C)}{n:Nat}(h:rows.map List.length=rs.map List.length)(hr:∀r∈rs,r.length=n):lens n rows:=λr hr'=>by
 have:r.length∈rows.map List.length:=Ka.2 ⟨r,hr',rfl⟩
 rw[h]at this
 obtain⟨r',h1,h2⟩:=Ka.1 this
 rw[<-h2];exact hr r' h1
def zlb (P:Program)(get:TypeId->Operand->V)(t:TypeId)(len:Nat)(parts:Array (Nat×Operand)):Option (Nat×List (List C)) :=
 (elT P t).bind λel=>(zby P el).bind λn=>(zdu P el).bind λ_=>if parts.size=len/\len*n<=16777216/\len<=16777216 then (ztc P el n get 0 parts.toList).map λrs=>(n,rs)else none
theorem zxx {σ:St}{t:TypeId}{len n:Nat}{parts:Array (Nat×Operand)}{rs:List (List C)}(h:zlb P (σ.get P) t len parts=some (n,rs)){n0:Nat->Prop}{N:Nat}{g:Gh}{a:Act}{w:World}(hR:Rel n0 N σ g a w) :
  ∃(cells:Array Value) (el:TypeId),(Instr.buildSlice t len (parts.map fun(i,x)=>(i,a.eval x))).run P w=.ok (.slice (some ⟨w.heap.size,0,none⟩) len len) (w.alloc (.cells cells el))/\CRs σ g w rs.flatten cells.toList/\rs.length=len/\(∀r∈rs,r.length=n)/\cells.size=len*n/\len<=16777216:=by
 unfold zlb at h
 obtain⟨el,h1,h⟩:=Qf.1 h
 obtain⟨n',h2,h⟩:=Qf.1 h
 obtain⟨z,h3,h⟩:=Qf.1 h
 split at h
 ·rename_i hh;obtain⟨rs',h4,h⟩:=Q5.1 h;simp only[Qt]at h;obtain⟨rfl,rfl⟩:=h;obtain⟨i,zv,i1,i2,_⟩:=zjv h3;have hin:i.size=n':=by unfold zby at h2;rw[i1]at h2;simpa using h2
  obtain⟨k1,k2,k3,k4⟩:=zy7 hR h4;have hpl:(parts.map fun(i,x)=>(i,a.eval x)).toList=parts.toList.map λp=>(p.1,a.eval p.2):=by simp
  obtain⟨cells,c1,c2⟩:=qt2 (P:=P) w t el len (parts.map fun(i,x)=>(i,a.eval x)) i zv (zl1 h1) i1 i2 (by rw[hin];simpa using hh.2.1) (by simp[hh.1]) (λj i' v hj=>by
   rw[hpl]at hj;have:=k1 j i' v hj
   exact⟨Y0,by rw[hin];exact this.2⟩)
  rw[hpl]at c2;rw[<-c2]at k3;refine⟨cells,el,c1,k3,by rw[k2];simpa using hh.1,k4,?_,hh.2.2⟩;have hl:=k3.len;rw[Ji]at hl;rw[hl];have:∀l:List (List C),(∀r∈l,r.length=n')->l.flatten.length=l.length*n':=by
   intro l;induction l with
   | nil=>intro _;simp
   | cons r l ih=>intro hr;simp[hr r (by simp),ih λx hx=>hr x (by simp[hx]),Ku];omega
  rw[this rs' k4,k2]
  congr 1
  simpa using hh.1
 ·cases h
section
variable {ty:TypeId}{ps:String}{af:Array Edge}{d:Nat}{σ:St}{t:TypeId}{len n:Nat}{parts:Array (Nat×Operand)}{rs:List (List C)}{rows:List (List T)}{cons:List (Nat×Ev)}
theorem zyk (h:zlb P (σ.get P) t len parts=some (n,rs)/\qcw σ rs=some (rows,cons)/\σ.ev (d*32)=none/\(cons.map (·.1)).Nodup) :
  zak P ⟨some d,.buildSlice t len parts,ty,ps,af,none⟩ σ ((σ.apd (d*32) cons ⟨true,n,rows,0,true⟩).put (some d) (.one (.ow (d*32) 0))):=by
 intro n0 N g a w hR hn hdN
 obtain⟨h1,h2,h3,h4⟩:=h
 obtain⟨cells,el,c1,c2,c3,c4,c5,c6⟩:=zxx h1 hR
 obtain⟨o1,o2,o3⟩:=zzv hR c2 h2
 have hlen:rows.length=len:=by rw[<-c3];simpa using congrArg List.length o3
 have hl:=qg1 o3 c4
 have hvl:=o1.len
 have hfl:rows.flatten.length=len*n:=by rw[zl4 hl,hlen]
 obtain⟨g',r1,r2,r3,r4⟩:=hR.newown hn (e:=d*32) h3 (cons:=cons) (λp hp=>⟨(o2 p hp).1,(o2 p hp).2,λe=>by have:=(o2 p hp).1;rw[e,h3]at this;cases this⟩) (sz:=n) (rows:=rows) (vs:=cells.toList) hl (dp:=true) (by simp) (λ_=>o1) (by simp) (zmu hR o2 h4) (λb hb=>by
  unfold fpL at hb;obtain⟨p,hp,hbp⟩:=J2.1 hb
  exact⟨p,hp,hbp⟩) cells el len (by rw[c5]) Y0 (by unfold zh1;omega) (Qr (by rw[hlen,Ji,c5];omega))
 rw[hlen]at r2
 have hrun:(execOp a.eval ⟨some d,.buildSlice t len parts,ty,ps,af,none⟩).run P w=.ok (.value (.slice (some ⟨w.heap.size,0,none⟩) len len)) (w.alloc (.cells cells el)):=by
  unfold execOp;simp only[Sem.run_bind,c1,Result.andThen_ok,Sem.run_pure]
 unfold Oper.wp
 rw[hrun]
 refine⟨g',r1.put (some d) (x:=.one (.ow (d*32) 0)) ⟨r2,⟨true,n,rows,0,true⟩,by simp[St.apd,zaf],Qz _⟩ hdN,?_,r3,r4⟩
 exact⟨rfl,rfl,rfl,by simp,λk hk=>Below.heap_alloc w _ k (hn k hk)⟩
theorem zqt (h:zlb P (σ.get P) t len parts=some (n,rs)/\zta σ rs=some rows/\σ.ev (d*32)=none) :
  zak P ⟨some d,.buildSlice t len parts,ty,ps,af,none⟩ σ ((σ.apd (d*32) [] ⟨false,n,rows,0,true⟩).put (some d) (.one (.ow (d*32) 0))):=by
 intro n0 N g a w hR hn hdN
 obtain⟨h1,h2,h3⟩:=h
 obtain⟨cells,el,c1,c2,c3,c4,c5,c6⟩:=zxx h1 hR
 obtain⟨o1,o3⟩:=zyf hR c2 h2
 have hlen:rows.length=len:=by rw[<-c3];simpa using congrArg List.length o3
 have hl:=qg1 o3 c4
 obtain⟨g',r1,r2,r3,r4⟩:=hR.newown hn (e:=d*32) h3 (cons:=[]) (by simp) (sz:=n) (rows:=rows) (vs:=cells.toList) hl (dp:=false) (λ_=>o1) (by simp) (λ_=>rfl) Kr (by simp) cells el len (by rw[c5]) Y0 (by unfold zh1;omega) (Qr (by rw[hlen,Ji,c5];omega))
 rw[hlen]at r2
 have hrun:(execOp a.eval ⟨some d,.buildSlice t len parts,ty,ps,af,none⟩).run P w=.ok (.value (.slice (some ⟨w.heap.size,0,none⟩) len len)) (w.alloc (.cells cells el)):=by
  unfold execOp;simp only[Sem.run_bind,c1,Result.andThen_ok,Sem.run_pure]
 unfold Oper.wp
 rw[hrun]
 refine⟨g',r1.put (some d) (x:=.one (.ow (d*32) 0)) ⟨r2,⟨false,n,rows,0,true⟩,by simp[St.apd,zaf],Qz _⟩ hdN,?_,r3,r4⟩
 exact⟨rfl,rfl,rfl,by simp,λk hk=>Below.heap_alloc w _ k (hn k hk)⟩
variable {ks:List Fr}{Q:Exit->St->Prop}{ops:Array Oper}{os:List Oper}{L:List (List Ky×List Ky)}
def rK:List (List C)->List Ky
 | []=>[]
 | r::rs=>zvx r++rK rs
theorem zv0:∀rs,okK (rK rs)=true
 | []=>rfl
 | r::rs=>zbf (zva r) (zv0 rs)
theorem qud {σ1:St}{c:C}(h:∀k∈c0K c,za8 σ σ1 k):dpC σ1 c=dpC σ c:=by
 cases c with
 | ow e g=>simp only[dpC];rw[show σ1.ev e=σ.ev e from Eq.symm (h (2,e) (by simp[c0K]))]
 | _=>rfl
theorem zlm {σ1:St}:∀{cs:List C},(∀k∈zvx cs,za8 σ σ1 k)->zux σ1 cs=zux σ cs
 | [],_=>rfl
 | c::cs,h=>by unfold zux;rw[qud λk hk=>h k (by simp[zvx,hk]),zlm λk hk=>h k (by simp[zvx,hk])]
theorem zz9 {σ1:St}:∀{rs:List (List C)},(∀k∈rK rs,za8 σ σ1 k)->qcw σ1 rs=qcw σ rs
 | [],_=>rfl
 | r::rs,h=>by unfold qcw;rw[zlm λk hk=>h k (by simp[rK,hk]),zz9 λk hk=>h k (by simp[rK,hk])]
theorem qsw {σ1:St}{c:C}(h:∀k∈c0K c,za8 σ σ1 k):shC σ1 c=shC σ c:=by
 cases c with
 | ow e g=>simp only[shC];rw[show σ1.ev e=σ.ev e from Eq.symm (h (2,e) (by simp[c0K]))]
 | el cs o=>cases o<;>rfl
 | er cs o=>cases o<;>rfl
 | fn f caps=>cases caps<;>rfl
 | _=>rfl
theorem qad {σ1:St}:∀{cs:List C},(∀k∈zvx cs,za8 σ σ1 k)->qra σ1 cs=qra σ cs
 | [],_=>rfl
 | c::cs,h=>by unfold qra;rw[qsw λk hk=>h k (by simp[zvx,hk]),qad λk hk=>h k (by simp[zvx,hk])]
theorem zlv {σ1:St}:∀{rs:List (List C)},(∀k∈rK rs,za8 σ σ1 k)->zta σ1 rs=zta σ rs
 | [],_=>rfl
 | r::rs,h=>by unfold zta;rw[qad λk hk=>h k (by simp[rK,hk]),zlv λk hk=>h k (by simp[rK,hk])]
theorem zlx {f g:TypeId->Operand->V}(h:∀t,∀x∈parts.toList.map (·.2),g t x=f t x):zlb P g t len parts=zlb P f t len parts:=by
 unfold zlb
 congr 1;funext el;congr 1;funext n;congr 1;funext z
 rw[zt3 h]
theorem qsn (h:zlb P (σ.get P) t len parts=some (n,rs)/\qcw σ rs=some (rows,cons)/\σ.ev (d*32)=none/\(cons.map (·.1)).Nodup)
  (k:exd P ops os (L++[(zas (parts.toList.map (·.2))++(rK rs++[(2,d*32)]),dK (some d)++eK ((d*32,⟨true,n,rows,0,true⟩)::zrp cons))]) ks Q ((σ.apd (d*32) cons ⟨true,n,rows,0,true⟩).put (some d) (.one (.ow (d*32) 0)))) :
  exd P ops (⟨some d,.buildSlice t len parts,ty,ps,af,none⟩::os) L ks Q σ:=by
 refine zgw rfl rfl ?_ k
 rw[zc3]
 refine zf1.of (o:=⟨some d,_,ty,ps,af,none⟩) (R:=zas (parts.toList.map (·.2))++(rK rs++[(2,d*32)])) (zbf (zbh _) (zbf (zv0 _) rfl)) λσ1 h1=>?_
 rw[<-zc3]
 have e1:zlb P (σ1.get P) t len parts=zlb P (σ.get P) t len parts:=zlx λt x hx=>zca (λk hk=>h1 k (by simp[hk])) hx t
 have e2:qcw σ1 rs=qcw σ rs:=zz9 λk hk=>h1 k (by simp[hk])
 exact zyk ⟨e1.trans h.1,e2.trans h.2.1,(Eq.symm (h1 (2,d*32) (by simp))).trans h.2.2.1,h.2.2.2⟩
theorem qut (h:zlb P (σ.get P) t len parts=some (n,rs)/\zta σ rs=some rows/\σ.ev (d*32)=none)
  (k:exd P ops os (L++[(zas (parts.toList.map (·.2))++(rK rs++[(2,d*32)]),dK (some d)++eK ((d*32,⟨false,n,rows,0,true⟩)::zrp []))]) ks Q ((σ.apd (d*32) [] ⟨false,n,rows,0,true⟩).put (some d) (.one (.ow (d*32) 0)))) :
  exd P ops (⟨some d,.buildSlice t len parts,ty,ps,af,none⟩::os) L ks Q σ:=by
 refine zgw rfl rfl ?_ k
 rw[zc3]
 refine zf1.of (o:=⟨some d,_,ty,ps,af,none⟩) (R:=zas (parts.toList.map (·.2))++(rK rs++[(2,d*32)])) (zbf (zbh _) (zbf (zv0 _) rfl)) λσ1 h1=>?_
 rw[<-zc3]
 have e1:zlb P (σ1.get P) t len parts=zlb P (σ.get P) t len parts:=zlx λt x hx=>zca (λk hk=>h1 k (by simp[hk])) hx t
 have e2:zta σ1 rs=zta σ rs:=zlv λk hk=>h1 k (by simp[hk])
 exact zqt ⟨e1.trans h.1,e2.trans h.2.1,(Eq.symm (h1 (2,d*32) (by simp))).trans h.2.2⟩
end
attribute [go_sem] rK zrp St.apd offs Ev.off St.frz St.upE zph
end
section
open Go.RowKit
variable {P:Program}
def zep (rows:List (List T))(i o:Nat)(ts:List T):List (List T):=rows.set i (setR (rows.getD i []) o ts)
theorem ztb (rows:List (List T))(i o:Nat)(ts:List T):(zep rows i o ts).length=rows.length:=by simp[zep]
theorem qg6 {α:Type}(r ts:List α)(h:ts.length=r.length):setR r 0 ts=ts:=by
 simp[setR,h]
theorem qca {α:Type}(r fl ts:List α)(q:Nat):setR (r++fl) (r.length+q) ts=r++setR fl q ts:=by
 unfold setR
 rw[List.take_length_add_append,Yi,List.drop_length_add_append]
 simp
theorem zop {sz:Nat}:∀{rows:List (List T)}{i o:Nat}{ts:List T},lens sz rows->i<rows.length->o+ts.length<=sz->(zep rows i o ts).flatten=setR rows.flatten (i*sz+o) ts/\lens sz (zep rows i o ts)
 | [],i,o,ts,_,hi,_=>by simp at hi
 | r::rows,0,o,ts,hl,_,ho=>by
  have hr:=hl r (by simp);refine⟨?_,λx hx=>?_⟩
  ·simp only[zep,Yr,Qh,Ki,setR,Nat.zero_mul,Q7];rw[List.take_append_of_le_length Y0,List.drop_append_of_le_length Y0];simp
  ·simp only[zep,Yr,Qh,Qu]at hx;rcases hx with rfl|hx
   ·rw[qo6 _ _ _ Y0];exact hr
   ·exact hl x (by simp[hx])
 | r::rows,i+1,o,ts,hl,hi,ho=>by
  have hr:=hl r (by simp);obtain⟨k1,k2⟩:=zop (rows:=rows) (i:=i) (o:=o) (ts:=ts) (λx hx=>hl x (by simp[hx])) (by simpa using hi) ho;refine⟨?_,λx hx=>?_⟩
  ·have e:zep (r::rows) (i+1) o ts=r::zep rows i o ts:=by simp[zep]
   have e2:(i+1)*sz+o=r.length+(i*sz+o):=by rw[hr,Ku,Yv];omega
   rw[e,Ki,k1,Ki,e2,qca]
  ·have e:zep (r::rows) (i+1) o ts=r::zep rows i o ts:=by simp[zep]
   rw[e]at hx;rcases Qu.1 hx with rfl|hx
   ·exact hr
   ·exact k2 x hx
theorem qqa {ds:Option Nat}{ty:TypeId}{ps:String}{af:Array Edge}{σ:St}{t:TypeId}{x y:Operand}{e gn sz i o n:Nat}{rows:List (List T)}{ts:List T}{cons:List (Nat×Ev)}
  (hx:σ.get P 0 x=.one (.eo e gn sz i o)) (hn:zby P t=some n) (he:σ.ev e=some ⟨true,sz,rows,gn,true⟩) (hl:(σ.get P t y).cells.length=n) (hle:o+n<=sz) (hg:(σ.get P t y).cells.all C.good=true) (hy:(σ.get P t y).isTup=false)
  (hd:zux σ (σ.get P t y).cells=some (ts,cons)) (hnd:(cons.map (·.1)).Nodup) (hne:∀p∈cons,p.1≠e) :
  zak P ⟨ds,.store t x y,ty,ps,af,none⟩ σ ((σ.apd e cons ⟨true,sz,zep rows i o ts,gn,true⟩).put ds (.one .any)):=by
 intro n0 N g a w hR hn0 hdN
 have hv:=hR.get P 0 x
 rw[hx]at hv
 obtain⟨b,nn,cp,v1,v2,v3,v4⟩:=hv
 obtain⟨vs0,fps,top,hT⟩:=hR.tgt he rfl
 rcases hT.val with⟨hh,_⟩|⟨b',cap,cells,cty,w1,w2,w3,w4,w5,w6,w7⟩
 ·simp only at hh;rw[v1]at hh;cases hh
 simp only at w1 w2 w5 w6
 rw[v1]at w1
 injection w1 with e1 e2 e3
 simp only[Qe,Addr.mk.injEq,and_true]at e1
 subst e1 e2 e3
 obtain⟨c1,c2⟩:=hR.vcells t y hg hy
 obtain⟨o1,o2,o3⟩:=zly hR c1 hd
 have hnews:(a.eval y).cells.toList.length=n:=by rw[c1.len];exact hl
 have hts:ts.length=n:=by rw[o3];exact hl
 have hlens:=hT.lens
 simp only at hlens
 obtain⟨q1,q2⟩:=zop (o:=o) (ts:=ts) hlens v3 (by rw[hts];exact hle)
 have hflat:=zl4 hlens
 have hq:i*sz+o+n<=rows.length*sz:=by
  have:(i+1)*sz<=rows.length*sz:=Jg _ v3;rw[Ku,Yv]at this;omega
 generalize hqq:i*sz+o=q at *
 have hsplit:rows.flatten=rows.flatten.take q++((rows.flatten.drop q).take n++rows.flatten.drop (q+n)):=by
  rw[<-List.drop_drop,Jh,Jh]
 have hown:=hT.own rfl
 simp only at hown
 rw[hsplit]at hown
 obtain⟨u1,u',f1,f',rfl,rfl,k1,k'⟩:=hown.split
 obtain⟨u2,u3,f2,f3,rfl,rfl,k2,k3⟩:=k'.split
 have l1:u1.length=q:=by rw[k1.len,Qo];omega
 have l2:u2.length=n:=by rw[k2.len,Qo,K3];omega
 obtain⟨rest,hrest⟩:∃rest,cells.toList=u1++(u2++u3)++rest:=⟨cells.toList.drop (rows.length*sz),by rw[<-w6,Jh]⟩
 have hcsz:q+n<=cells.size:=by
  have:=congrArg List.length hrest;simp only[Qy,Ji]at this;omega
 have hnew:cells.toList.take q++(a.eval y).cells.toList++cells.toList.drop (q+(a.eval y).cells.toList.length)=u1++((a.eval y).cells.toList++(u3++rest)):=by
  rw[hnews,hrest,<-l1,<-l2];simp[List.drop_append]
 have hrun:(execOp a.eval ⟨ds,.store t x y,ty,ps,af,none⟩).run P w=.ok .skip (w.setRow b (u1++((a.eval y).cells.toList++(u3++rest))).toArray):=by
  have hst:=run_storeCells_at P b q cty (a.eval y).cells.toList 0 cells w w4 (by rw[hnews];omega) c2;simp only[Yo]at hst;rw[hnew]at hst;have hcs:(a.eval y).cells.size=n:=by simpa using hnews
  unfold execOp;simp only[Instr.storeAt,v2,Instr.sureAddr,Sem.run_bind,Sem.run_pure,Result.andThen,storeVar,zc9 hn,hcs,ne_eq,not_true,if_false,hst]
 unfold Oper.wp
 rw[hrun]
 have hcO:∀p∈cons,σ.On p.1:=λp hp=>⟨p.2,o2 p hp⟩
 have hfpm:∀c∈fpL g cons,∃p∈cons,c∈g.φ p.1:=λc hc=>by
  unfold fpL at hc;obtain⟨p,hp,hbp⟩:=J2.1 hc;exact⟨p,hp,hbp⟩
 have hmix:∀c,(some c=top\/c∈f1++(f2++f3))->c∉fpL g cons:=λc hc hm=>by
  obtain⟨p,hp,hcp⟩:=hfpm c hm;exact(hT.bx c hc).2.2.2 p.1 (hne p hp) (hcO p hp) hcp
 have hb0:b∉f1++(f2++f3):=hT.topfp b w7.symm
 have hnodup:(b::(f1++(fpL g cons++f3))).Nodup:=by
  have h0:=hT.nodup;obtain⟨d1,d2,d3⟩:=Kg.1 h0;obtain⟨d4,d5,d6⟩:=Kg.1 d2;refine Kx.2 ⟨λhm=>?_,Kg.2 ⟨d1,Kg.2 ⟨zmu hR o2 hnd,d5,λc hc d hd hcd=>?_⟩,λc hc d hd hcd=>?_⟩⟩
  ·simp only[Qw,not_or]at hm hb0;rcases hm with hm|hm|hm
   ·exact hb0.1 hm
   ·exact hmix b (Or.inl w7.symm) hm
   ·exact hb0.2.2 hm
  ·subst hcd;exact hmix c (Or.inr (by simp[hd])) hc
  ·subst hcd;rcases Qw.1 hd with hd|hd
   ·exact hmix c (Or.inr (by simp[hc])) hd
   ·exact d3 c hc c (by simp[hd]) rfl
 have hsame:∀k,k≠b->(w.setRow b (u1++((a.eval y).cells.toList++(u3++rest))).toArray).heap[k]?=w.heap[k]?:=λk hk=>setRow_other w _ k _ hk
 have hblk:=setRow_heap w b cells (u1++((a.eval y).cells.toList++(u3++rest))).toArray cty (0,0) w4
 have hsize:(w.setRow b (u1++((a.eval y).cells.toList++(u3++rest))).toArray).heap.size=w.heap.size:=setRow_size _ _ _
 have hbk:Bk n0 w (w.setRow b (u1++((a.eval y).cells.toList++(u3++rest))).toArray):=⟨rfl,rfl,rfl,Nat.le_of_eq hsize.symm,λk hk=>hsame k λe'=>(hT.bx b (Or.inl w7.symm)).2.1.2.2 (e'▸hk)⟩
 generalize w.setRow b (u1++((a.eval y).cells.toList++(u3++rest))).toArray=w' at hsame hblk hsize hbk⊢
 have hR':=hR.apd_fin (w':=w') (y:=⟨true,sz,zep rows i o ts,gn,true⟩) (v':=g.ψ e gn) (fp':=b::(f1++(fpL g cons++f3))) (fps2:=fpL g cons) hT rfl (λm hm=>⟨by
   obtain⟨z,hz,hmz⟩:=hm;rw[he,Qe]at hz;subst hz
   exact hmz,λem=>by simp only at em;rw[em]⟩) (cons:=cons) (λp hp=>⟨(o2 p hp).1,(o2 p hp).2,hne p hp⟩) hfpm b (Or.inl w7.symm) (λk _ hk=>hsame k hk) (Nat.le_of_eq hsize.symm) hn0 hnodup (λc hc=>by
   simp only[Qu,Qw]at hc⊢
   rcases hc with h|h|h|h<;>simp[h]) (λc hc=>by simpa using hc.symm) λA' hA=>by
  refine⟨some ⟨b,0,none⟩,cp,by rw[ztb];exact v1,by rw[ztb];exact w2,w3,Or.inr ⟨b,_,cty,_,rfl,rfl,hblk,?_,?_⟩⟩
  ·have:=congrArg List.length hrest;simp only[Qy,Ji]at this;simp only[List.size_toArray,Qy,hnews];omega
  ·simp only[if_true];have ha:zbc w' (zep rows i o ts).flatten (u1++((a.eval y).cells.toList++u3)) (f1++(fpL g cons++f3)):=by
    rw[q1];unfold setR;rw[hts,Kd];refine(k1.append (o1.append k3)).keep λc hc=>hsame c λhcb=>?_;subst hcb;exact(Kx.1 hnodup).1 hc
   refine zat.of_vals q2 ha λj u hu=>?_;rw[Q7];have:(u1++((a.eval y).cells.toList++(u3++rest)))=(u1++((a.eval y).cells.toList++u3))++rest:=by simp
   rw[this];simp only[List.getElem?_toArray];rw[List.getElem?_append_left (List.getElem?_eq_some_iff.1 hu).1];exact hu
 exact⟨_,hR'.put ds (x:=.one .any) trivial hdN,hbk,rfl,rfl⟩
def zuw (P:Program)(σ:St)(t:TypeId)(x y:Operand):Option (Nat×Ev×List (Nat×Ev)):=match σ.get P 0 x with
 | .one (.eo e g sz i o)=>(σ.ev e).bind λz=>(zby P t).bind λn =>
  if z.deep=true/\z.sz=sz/\z.gen=g/\z.on=true/\(σ.get P t y).cells.length=n/\o+n<=sz/\(σ.get P t y).cells.all C.good=true/\(σ.get P t y).isTup=false then
   (zux σ (σ.get P t y).cells).map λq=>(e,⟨true,sz,zep z.rows i o q.1,g,true⟩,q.2)else none
 | _=>none
def St.apdO (σ:St):Option (Nat×Ev×List (Nat×Ev))->St
 | some (e,y,cons)=>σ.apd e cons y
 | none=>σ
section
variable {ks:List Fr}{Q:Exit->St->Prop}{σ:St}{ops:Array Oper}{os:List Oper}{L:List (List Ky×List Ky)}{ty:TypeId}{ps:String}{af:Array Edge}{ds:Option Nat}{x y:Operand}{t:TypeId}
theorem zzs (h:zav (zuw P σ t x y) λr=>(r.2.2.map (·.1)).Nodup/\∀p∈r.2.2,p.1≠r.1):zak P ⟨ds,.store t x y,ty,ps,af,none⟩ σ ((σ.apdO (zuw P σ t x y)).put ds (.one .any)):=by
 obtain⟨⟨e,z',cons⟩,h1,h2,h3⟩:=zap h
 rw[h1]
 unfold zuw at h1
 split at h1
 ·rename_i e' g sz i o hx;obtain⟨z,hz,h1⟩:=Qf.1 h1;obtain⟨n,hn,h1⟩:=Qf.1 h1;split at h1
  ·rename_i hh;obtain⟨zd,zsz,zr,zg,zo⟩:=z;obtain⟨k1,k2,k3,k4,k5,k6,k7,k8⟩:=hh;obtain⟨⟨ts,cs⟩,hq,h1⟩:=Q5.1 h1;simp only at k1 k2 k3 k4;subst k1 k2 k3 k4;simp only[Qt]at h1;obtain⟨rfl,rfl,rfl⟩:=h1;exact qqa hx hn hz k5 k6 k7 k8 hq h2 h3
  ·cases h1
 ·cases h1
theorem zfd (h:zav (zuw P σ t x y) λr=>(r.2.2.map (·.1)).Nodup/\∀p∈r.2.2,p.1≠r.1)
  (k:exo P ops os ks Q ((σ.apdO (zuw P σ t x y)).put ds (.one .any))):exoS P ops ⟨ds,.store t x y,ty,ps,af,none⟩ os ks Q σ:=(zzs h).toX k
end
attribute [go_sem] zuw St.apdO dpC zux qcw
end
section
open Go.RowKit
variable {P:Program}
theorem zti (zc:Array Value)(n:Nat)(h:zc.size=n):∀c,(madeCells zc (c*n)).toList=(List.replicate c zc.toList).flatten
 | 0=>by simp[madeCells]
 | c+1=>by
  have ih:=zti zc n h c;have key:(madeCells zc ((c+1)*n)).toList=(madeCells zc (c*n)).toList++zc.toList:=by
   unfold madeCells;simp only[Array.toList_map,Array.toList_range];rw[show(c+1)*n=c*n+n by rw[Ku,Yv],List.range_add,Q1]
   congr 1
   refine List.ext_getElem (by simp[h]) λj hj hj'=>?_;have hjn:j<n:=by simpa using hj
   simp only[Ym,List.getElem_range,h];rw[Nat.add_comm,Nat.add_mul_mod_self_right,Nat.mod_eq_of_lt hjn];simp[h,hjn]
  rw[key,ih,List.replicate_succ',Yd];simp
theorem zbc.rep_rows {w:World}{ts:List T}{vs:List Value}(h:zbc w ts vs []):∀c:Nat,zbc w (List.replicate c ts).flatten (List.replicate c vs).flatten []
 | 0=>⟨rfl,rfl⟩
 | c+1=>by
  rw[List.replicate_succ,List.replicate_succ,Ki,Ki];exact h.append (zbc.rep_rows h c)
theorem qqv {d:Nat}{ty:TypeId}{ps:String}{af:Array Edge}{σ:St}{t el:TypeId}{l c:Operand}{n bts:Nat}{z:List C}{zts:List T}{kl kc:IntKind}{a b:Int}
  (h1:elT P t=some el) (h2:zby P el=some n) (h3:zdy P el=some bts) (h4:zdu P el=some z) (hz:z.length=n) (hq:zux σ z=some (zts,[])) (hl:σ.get P 0 l=.one (.t (.int kl a))) (hc:σ.get P 0 c=.one (.t (.int kc b)))
  (hp:0<bts) (h0:0<=a) (hab:a<=b) (hb:(bts:Int)*b<=281474976710656) (he:σ.ev (d*32)=none) :
  zak P ⟨some d,.makeSlice t l c,ty,ps,af,none⟩ σ ((σ.apd (d*32) [] ⟨true,n,List.replicate a.toNat zts,0,true⟩).put (some d) (.one (.ow (d*32) 0))):=by
 intro n0 N g act w hR hn hdN
 have v1:=hR.get P 0 l
 have v2:=hR.get P 0 c
 rw[hl]at v1
 rw[hc]at v2
 simp only[VR,CR,zau]at v1 v2
 obtain⟨i,zv,i1,i2,i3⟩:=zjv h4
 have hin:i.size=n:=by unfold zby at h2;rw[i1]at h2;simpa using h2
 have hib:i.bytes=bts:=by unfold zdy at h3;rw[i1]at h3;simpa using h3
 have hb1:b<=281474976710656:=by
  have:(1:Int)*b<=(bts:Int)*b:=Int.mul_le_mul_of_nonneg_right Y0 Y0;omega
 have hcr:=i3 σ g w
 obtain⟨o1,_,o3⟩:=zly hR hcr hq
 have hzs:zv.cells.size=n:=by have:=hcr.len;simp at this;omega
 have hr:=run_make (P:=P) w t el i zv (zl1 h1) i1 i2 kl kc a b h0 hab (by rw[hib];exact hb) Y0
 rw[hin]at hr
 have hrun:(execOp act.eval ⟨some d,.makeSlice t l c,ty,ps,af,none⟩).run P w=.ok (.value (.slice (some ⟨w.heap.size,0,none⟩) a.toNat b.toNat)) (w.alloc (.cells (madeCells zv.cells (b.toNat*n)) el)):=by
  unfold execOp;simp only[v1.1,v2.1,Sem.run_bind,hr,Result.andThen_ok,Sem.run_pure]
 have hrows:(List.replicate a.toNat zv.cells.toList).flatten=(madeCells zv.cells (b.toNat*n)).toList.take (a.toNat*n):=by
  rw[zti _ _ hzs,show b.toNat=a.toNat+(b.toNat-a.toNat) by omega,<-List.replicate_append_replicate,Yd,List.take_append_of_le_length (by simp[hzs]),Qr (by simp[hzs])]
 have hlen:lens n (List.replicate a.toNat zts):=λr hr=>by
  rw[List.eq_of_mem_replicate hr,o3,hz]
 obtain⟨g',r1,r2,r3,r4⟩:=hR.newown hn (e:=d*32) he (cons:=[]) (by simp) (sz:=n) (rows:=List.replicate a.toNat zts) (vs:=(List.replicate a.toNat zv.cells.toList).flatten) hlen (dp:=true) (by simp) (λ_=>zbc.rep_rows o1 _) (by simp) Kr (by simp) (madeCells zv.cells (b.toNat*n)) el b.toNat (by rw[size_madeCells]) (by simp;omega) (by unfold zh1;omega) (by rw[Jb];exact hrows.symm)
 rw[Jb]at r2
 unfold Oper.wp
 rw[hrun]
 refine⟨g',r1.put (some d) (x:=.one (.ow (d*32) 0)) ⟨r2,⟨true,n,List.replicate a.toNat zts,0,true⟩,by simp[St.apd,zaf],Qz _⟩ hdN,?_,r3,r4⟩
 exact⟨rfl,rfl,rfl,by simp,λk hk=>Below.heap_alloc w _ k (hn k hk)⟩
def mkD (P:Program)(σ:St)(t:TypeId)(l c:Operand):Option (Prop×Ev) :=
 (elT P t).bind λel=>(zby P el).bind λn=>(zdy P el).bind λbts=>(zdu P el).bind λz=>(zux σ z).bind λq=>match σ.get P 0 l,σ.get P 0 c with
  | .one (.t (.int _ a)),.one (.t (.int _ b))=>if z.length=n/\q.2.length=0/\0<bts then some ((0<=a/\a<=b/\(bts:Int)*b<=281474976710656),⟨true,n,List.replicate a.toNat q.1,0,true⟩)else none
  | _,_=>none
def St.mk1 (σ:St)(d:Nat):Option (Prop×Ev)->St
 | some (_,y)=>σ.apd (d*32) [] y
 | none=>σ
section
variable {ks:List Fr}{Q:Exit->St->Prop}{σ:St}{ops:Array Oper}{os:List Oper}{ty:TypeId}{ps:String}{af:Array Edge}{d:Nat}{l c:Operand}{t:TypeId}
theorem qob (h:zav (mkD P σ t l c) λr=>r.1/\σ.ev (d*32)=none)(k:exo P ops os ks Q ((σ.mk1 d (mkD P σ t l c)).put (some d) (.one (.ow (d*32) 0)))) :
  exo P ops (⟨some d,.makeSlice t l c,ty,ps,af,none⟩::os) ks Q σ:=by
 obtain⟨⟨p,y⟩,h1,h2,h3⟩:=zap h
 rw[h1]at k
 unfold mkD at h1
 obtain⟨el,e1,h1⟩:=Qf.1 h1
 obtain⟨n,e2,h1⟩:=Qf.1 h1
 obtain⟨bts,e3,h1⟩:=Qf.1 h1
 obtain⟨z,e4,h1⟩:=Qf.1 h1
 obtain⟨⟨q1,q2⟩,e5,h1⟩:=Qf.1 h1
 split at h1
 ·rename_i kl a kc b hl hc;split at h1
  ·rename_i hh;obtain⟨k1,k2,k3⟩:=hh;have:q2=[]:=Kn k2;subst this;simp only[Qe,Qt]at h1;obtain⟨rfl,rfl⟩:=h1;exact zdo rfl rfl (qqv e1 e2 e3 e4 k1 e5 hl hc k3 h2.1 h2.2.1 h2.2.2 h3) k
  ·cases h1
 ·cases h1
end
attribute [go_sem] mkD St.mk1
end
section
open Go.RowKit
variable {P:Program}
def blD (P:Program)(σ:St)(t:TypeId)(len:Nat)(parts:Array (Nat×Operand)):Option (Ev×List (Nat×Ev)) :=
 (zlb P (σ.get P) t len parts).bind λp=>(qcw σ p.2).map λq=>(⟨true,p.1,q.1,0,true⟩,q.2)
def blS (P:Program)(σ:St)(t:TypeId)(len:Nat)(parts:Array (Nat×Operand)):Option (Ev×List (Nat×Ev)) :=
 (zlb P (σ.get P) t len parts).bind λp=>(zta σ p.2).map λq=>(⟨false,p.1,q,0,true⟩,[])
def St.bl (σ:St)(d:Nat):Option (Ev×List (Nat×Ev))->St
 | some (x,cons)=>σ.apd (d*32) cons x
 | none=>σ
def flR:List (List T)->Bool
 | []=>true
 | r::rs=>r.all T.flat&&flR rs
theorem zij:∀{rows:List (List T)},flR rows=true->∀c∈rows.flatten,c.flat=true
 | [],_,c,hc=>by simp at hc
 | r::rs,h,c,hc=>by
  unfold flR at h;simp only[Qb,Qq]at h;rw[Ki,Qw]at hc;exact hc.elim (h.1 c) (zij h.2 c)
def apV (P:Program)(σ:St)(d:Nat)(t:TypeId)(s y:Operand)(dp2:Bool):Option (Prop×Nat×Ev×List (Nat×Ev)):=match σ.get P t s,(σ.get P t y).rd with
 | .one (.ow e gn),.one (.ow e2 gn2)=>(σ.ev e).bind λx=>(σ.ev e2).bind λz =>
  if x.gen=gn/\x.on=true/\z.gen=gn2/\z.on=true/\z.sz=x.sz/\e2≠e then some ((apT P t x.sz/\x.rows.length+z.rows.length<=4294967296),e,⟨x.deep&&z.deep,x.sz,x.rows++z.rows,gn+1,true⟩,[(e2,z)])
  else none
 | .one (.ow e gn),.one (.t (.sl sz rows2))=>(σ.ev e).bind λx =>
  if x.gen=gn/\x.on=true/\sz=x.sz then some ((apT P t x.sz/\x.rows.length+rows2.length<=4294967296/\(dp2=true->flR rows2=true)),e,⟨x.deep&&dp2,x.sz,x.rows++rows2,gn+1,true⟩,[])
  else none
 | .one (.nl _),.one (.ow e2 gn2)=>(σ.ev e2).bind λz =>
  if z.gen=gn2/\z.on=true/\e2≠d*32 then some ((apT P t z.sz/\z.rows.length<=4294967296/\σ.ev (d*32)=none),d*32,⟨z.deep,z.sz,z.rows,0,true⟩,[(e2,z)])else none
 | .one (.nl _),.one (.t (.sl sz rows2))=>some ((apT P t sz/\rows2.length<=4294967296/\(dp2=true->flR rows2=true)/\σ.ev (d*32)=none),d*32,⟨dp2,sz,rows2,0,true⟩,[])
 | _,_=>none
def St.apV (σ:St)(d:Nat):Option (Prop×Nat×Ev×List (Nat×Ev))->St
 | some (_,e,x,cons)=>(σ.apd e cons x).put (some d) (.one (.ow e x.gen))
 | none=>σ
section
variable {ks:List Fr}{Q:Exit->St->Prop}{σ:St}{ops:Array Oper}{os:List Oper}{L:List (List Ky×List Ky)}{d:Nat}{t:TypeId}{ty:TypeId}{ps:String}{af:Array Edge}{len:Nat}{parts:Array (Nat×Operand)}{s y:Operand}
theorem qvc (h:zav (blD P σ t len parts) λr=>σ.ev (d*32)=none/\(r.2.map (·.1)).Nodup):zak P ⟨some d,.buildSlice t len parts,ty,ps,af,none⟩ σ ((σ.bl d (blD P σ t len parts)).put (some d) (.one (.ow (d*32) 0))):=by
 obtain⟨⟨x,cons⟩,h1,h2,h3⟩:=zap h
 rw[h1]
 unfold blD at h1
 obtain⟨p,e1,h1⟩:=Qf.1 h1
 obtain⟨q,e2,h1⟩:=Q5.1 h1
 simp only[Qt]at h1
 obtain⟨rfl,rfl⟩:=h1
 exact zyk ⟨e1,e2,h2,h3⟩
theorem zbg (h:zav (blD P σ t len parts) λr=>σ.ev (d*32)=none/\(r.2.map (·.1)).Nodup)(k:exo P ops os ks Q ((σ.bl d (blD P σ t len parts)).put (some d) (.one (.ow (d*32) 0)))) :
  exo P ops (⟨some d,.buildSlice t len parts,ty,ps,af,none⟩::os) ks Q σ:=zdo rfl rfl (qvc h) k
theorem qvf (h:zav (blS P σ t len parts) λ_=>σ.ev (d*32)=none):zak P ⟨some d,.buildSlice t len parts,ty,ps,af,none⟩ σ ((σ.bl d (blS P σ t len parts)).put (some d) (.one (.ow (d*32) 0))):=by
 obtain⟨⟨x,cons⟩,h1,h2⟩:=zap h
 rw[h1]
 unfold blS at h1
 obtain⟨p,e1,h1⟩:=Qf.1 h1
 obtain⟨q,e2,h1⟩:=Q5.1 h1
 simp only[Qt]at h1
 obtain⟨rfl,rfl⟩:=h1
 exact zqt ⟨e1,e2,h2⟩
theorem zde (h:zav (blS P σ t len parts) λ_=>σ.ev (d*32)=none)(k:exo P ops os ks Q ((σ.bl d (blS P σ t len parts)).put (some d) (.one (.ow (d*32) 0)))) :
  exo P ops (⟨some d,.buildSlice t len parts,ty,ps,af,none⟩::os) ks Q σ:=zdo rfl rfl (qvf h) k
theorem qtc (dp2:Bool)(h:zav (apV P σ d t s y dp2) λr=>r.1):zak P ⟨some d,.call ⟨.builtin .append,#[s,y],#[t,t]⟩,ty,ps,af,none⟩ σ (σ.apV d (apV P σ d t s y dp2)):=by
 obtain⟨⟨p,e,x,cons⟩,h1,h2⟩:=zap h
 rw[h1]
 unfold Go.Proofs.YtnemmlahbbbobaaGreat.apV at h1
 split at h1
 ·rename_i e0 gn e2 gn2 hs hy;obtain⟨x0,k1,h3⟩:=Qf.1 h1;obtain⟨z,k2,h4⟩:=Qf.1 h3;clear h1 h3;by_cases hc:x0.gen=gn/\x0.on=true/\z.gen=gn2/\z.on=true/\z.sz=x0.sz/\e2≠e0
  ·rw[if_pos hc]at h4;obtain⟨rfl,c2,rfl,c4,c5,c6⟩:=hc;simp only[Qe,Qt]at h4;obtain⟨rfl,rfl,rfl,rfl⟩:=h4;obtain⟨dp,sz,rows,gn,on⟩:=x0;obtain⟨dp2,sz2,rows2,gn2,on2⟩:=z;simp only at c2 c4 c5;subst c2 c4 c5;exact qgw ⟨hs,qak hy,k1,k2,c6,rfl⟩ h2.1 h2.2
  ·rw[if_neg hc]at h4;cases h4
 ·rename_i e0 gn sz rows2 hs hy;obtain⟨x0,k1,h4⟩:=Qf.1 h1;clear h1;by_cases hc:x0.gen=gn/\x0.on=true/\sz=x0.sz
  ·rw[if_pos hc]at h4;obtain⟨rfl,c2,rfl⟩:=hc;simp only[Qe,Qt]at h4;obtain⟨rfl,rfl,rfl,rfl⟩:=h4;obtain⟨dp,sz,rows,gn,on⟩:=x0;simp only at c2;subst c2;exact qi5 dp2 ⟨hs,hy,k1⟩ (λhd=>zij (h2.2.2 hd)) h2.1 h2.2.1
  ·rw[if_neg hc]at h4;cases h4
 ·rename_i z0 e2 gn2 hs hy;obtain⟨z,k2,h4⟩:=Qf.1 h1;clear h1;by_cases hc:z.gen=gn2/\z.on=true/\e2≠d*32
  ·rw[if_pos hc]at h4;obtain⟨rfl,c2,c3⟩:=hc;simp only[Qe,Qt]at h4;obtain⟨rfl,rfl,rfl,rfl⟩:=h4;obtain⟨dp2,sz2,rows2,gn2,on2⟩:=z;simp only at c2;subst c2;exact qde ⟨hs,qak hy,h2.2.2,k2,c3⟩ h2.1 h2.2.1
  ·rw[if_neg hc]at h4;cases h4
 ·rename_i z0 sz rows2 hs hy;simp only[Qe,Qt]at h1;obtain⟨rfl,rfl,rfl,rfl⟩:=h1;exact qgz dp2 ⟨hs,hy,h2.2.2.2⟩ (λhd=>zij (h2.2.2.1 hd)) h2.1 h2.2.1
 ·cases h1
theorem apD (dp2:Bool)(h:zav (apV P σ d t s y dp2) λr=>r.1)(k:exo P ops os ks Q (σ.apV d (apV P σ d t s y dp2))) :
  exo P ops (⟨some d,.call ⟨.builtin .append,#[s,y],#[t,t]⟩,ty,ps,af,none⟩::os) ks Q σ:=zdo rfl rfl (qtc dp2 h) k
end
attribute [go_sem] List.nodup_nil List.nodup_cons List.mem_cons List.not_mem_nil not_false_eq_true List.size_toArray zh1 blD blS St.bl apV St.apV flR zlb ztc zta qra shC
end
section
open Go.RowKit
variable {P:Program}
def D.sls:D->Prop
 | .one (.sl _ _)=>True
 | .agg _=>True
 | _=>False
def IC (P:Program)(f:FuncId)(pre:List D)(d:D)(post:List D)(d':D)(res:List D):Prop:=zbl P f/\∀(w:World)(us1:List Value)(v:Value)(us2:List Value)(fp tp:List Nat),
 zbn w (λb=>b<w.heap.size/\b∉fp) pre us1->GD w d v fp tp->zbn w (λb=>b<w.heap.size/\b∉fp) post us2->fp.Nodup →
 Calls P f ⟨us1++v::us2⟩ w λe w'=>∃us fp' tp',e=.returned (zc4 us)/\GDs w' (d'::res) (v::us) fp' tp'/\fp'.Nodup/\(∀b∈fp',b∈fp\/w.heap.size<=b)/\Bk (λk=>k<w.heap.size/\k∉fp) w w'
def zew (pre:List D)(d:D)(post:List D):List (Bool×D):=rd pre++(true,d)::rd post
def zoc (pre:List D)(d:D)(post:List D):St:={ zeq (zew pre d post)with sl:=upd (zil 0 (zew pre d post)) 1000000 (zil 0 (zew pre d post) pre.length) }
def PI (P:Program)(rs:List ResultVar)(d':D)(res:List D)(e:Exit)(σ:St):Prop:=match e with
 | .normal=>zav (zb5 P σ rs) λvs=>qgg σ [] (σ.sl 1000000::vs) (d'::res)
 | .ret=>zav (zb5 P σ rs) λvs=>qgg σ [] (σ.sl 1000000::vs) (d'::res)
 | _=>False
theorem za5.rd_append {w:World}{A:Nat->Prop}{ds:List (Bool×D)}{vs:List Value}{fp tp:List Nat}(h:za5 w A ds vs fp tp):∀{pre:List D}{us:List Value},zbn w A pre us->za5 w A (rd pre++ds) (us++vs) fp tp
 | [],us,hp=>by rw[show us=[] from hp];exact h
 | d::pre,us,hp=>by
  obtain⟨v,vs',rfl,h1,h2⟩:=hp;exact⟨v,vs'++vs,rfl,h1,za5.rd_append h h2⟩
theorem zz1 {w:World}{A:Nat->Prop}:∀{ds:List D}{vs:List Value},zbn w A ds vs->za5 w A (rd ds) vs [] []
 | [],vs,h=>⟨h,rfl,rfl⟩
 | d::ds,vs,h=>by obtain⟨v,vs',rfl,h1,h2⟩:=h;exact⟨v,vs',rfl,h1,zz1 h2⟩
theorem Rel.ghost {n0:Nat->Prop}{N:Nat}{σ:St}{g:Gh}{a:Act}{w:World}(h:Rel n0 N σ g a w){i:Nat}(hi:N<=i){x:V}(hv:VR σ g w x (g.R0.ξ i)):Rel n0 N { σ with sl:=upd σ.sl i x } g a w:=by
 refine h.slots_of rfl rfl h.defers h.size λj=>?_
 show VR σ g w (upd σ.sl i x j) _
 by_cases hj:j=i
 ·subst hj;rw[zaf,Array.getD_eq_getD_getElem?,Array.getElem?_eq_none (by rw[h.size];exact hi)];exact hv
 ·rw[zan _ _ hj];exact h.slots j
theorem qrp {f:FuncId}{fn:Func}{c:Code}{pre:List D}{d:D}{post:List D}{d':D}{res:List D}(hc:zbl P f)(hf:P.funcs[f]?=some fn)(hb:fn.body=some c)(hd:zdf fn.ntmps c=true)(hN:(zew pre d post).length<=fn.ntmps)(hN2:fn.ntmps<=1000000)(hs:zcj (zew pre d post))(hnb:d.sls)
  (h:∀n0 N g a w,Rel n0 N (zoc pre d post) g a w->LtK n0 w->∃σ0,ex P c [] (PI P fn.results.toList d' res) σ0/\Rel n0 N σ0 g a w):IC P f pre d post d' res:=by
 refine⟨hc,λw us1 v us2 fp tp h1 h2 h3 hn=>?_⟩
 refine calls_of_wp hf hb ?_
 have hga:za5 w (λb=>b<w.heap.size/\True/\b∉fp) (zew pre d post) (us1++v::us2) fp tp:=by
  have k:∀{ds:List D} {vs:List Value},zbn w (λb=>b<w.heap.size/\b∉fp) ds vs->zbn w (λb=>b<w.heap.size/\True/\b∉fp) ds vs:=λh=>zbn.keep (λ_ _=>rfl) (λb hb=>⟨hb.1,trivial,hb.2⟩) h;refine za5.rd_append ?_ (k h1);exact⟨v,us2,fp,[],tp,[],rfl,by simp,by simp,h2,zz1 (k h3)⟩
 have hvb:∀b,v≠.bool b:=λb hv=>by
  subst hv;cases d with
  | one t =>
   obtain⟨h2,_⟩:=h2;cases t
   case sl=>unfold zba at h2;obtain⟨ao,cap,e,_⟩:=h2;cases e
   all_goals exact hnb.elim
  | agg ts=>obtain⟨x,e,_⟩:=h2;cases e
 have hlen1:us1.length=pre.length:=zbn.len h1
 obtain⟨g,hg,hR⟩:=Rel.start (A:=λ_=>True) (A0:=λ_=>True) (R0:=⟨λb=>b∈fp\/w.heap.size<=b,λi=>if i=1000000 then v else undef,λi hi=>if_neg Y0,λi b=>by
  by_cases h:i=1000000
  ·rw[if_pos h];exact hvb b
  ·rw[if_neg h];exact λe=>by cases e⟩) (N:=fn.ntmps) hga hn hs hN (λ_ _=>trivial) (λb hb=>⟨trivial,Or.inl hb⟩) (λb hb=>⟨trivial,by
  by_cases hlt:b<w.heap.size
  ·exact Or.inl (Classical.byContradiction λh=>hb ⟨hlt,h⟩)
  ·exact Or.inr Y0⟩)
 have hR0:g.R0.ξ 1000000=v:=by rw[(K7 hg).2];show(if 1000000=1000000 then v else undef)=v;rw[if_pos rfl]
 have hv0:VR (zeq (zew pre d post)) g w (zil 0 (zew pre d post) pre.length) (g.R0.ξ 1000000):=by
  have hs0:=hR.slots pre.length;have hlt:pre.length<(us1++v::us2).length:=by simp;omega
  have e:(((⟨us1++v::us2⟩:Array Value)++Array.replicate (fn.ntmps-(us1++v::us2).length) undef)).getD pre.length (g.R0.ξ pre.length)=v:=by
   rw[Array.getD_eq_getD_getElem?,Array.getElem?_append_left (by simpa using hlt)];simp[hlt,hlen1]
  rw[hR0];rw[e]at hs0;exact hs0
 have hR1:=hR.ghost hN2 hv0
 obtain⟨σ0,hex,hR2⟩:=h _ _ g _ w hR1 (λk hk=>hk.1)
 refine wp_mono (zb0 (w0:=w) c σ0 _ hd hex g _ w hR2 (λk hk=>hk.1) (Bk.refl _ _) hg) λe a' w' hq=>?_
 obtain⟨σ',g',q1,q2,q3,q4,q5⟩:=hq
 have key:zav (zb5 P σ' fn.results.toList) (λvs=>qgg σ' [] (σ'.sl 1000000::vs) (d'::res))->∃u,(results fn a'.tmps).run P w'=.ok u w'/\∃us fp' tp',Ending.returned u=.returned (zc4 us)/\GDs w' (d'::res) (v::us) fp' tp'/\fp'.Nodup/\(∀b∈fp',b∈fp\/w.heap.size<=b)/\Bk (λk=>k<w.heap.size/\k∉fp) w w':=λhk=>by
  unfold zav at hk;split at hk
  ·rename_i vs hvs;obtain⟨us,r1,r2⟩:=zcg q2 fn hvs;have hgv:VR σ' g' w' (σ'.sl 1000000) v:=by
    have:=q2.slots 1000000;rw[Array.getD_eq_getD_getElem?,Array.getElem?_eq_none (by rw[q2.size];exact hN2),(K7 q5).2]at this;simpa using this
   obtain⟨used,fp',tp',o1,o2⟩:=zfy q2 hk (us:=v::us) ⟨v,us,rfl,hgv,r2⟩;refine⟨_,r1,us,fp',tp',rfl,o1,o2.1,λb hb=>?_,q4⟩;obtain⟨e,_,_,l,m⟩:=o2.2.1 b hb;have:=(q2.ebase e l b m).2;rw[(K7 q5).2]at this;exact this
  ·exact hk.elim
 cases e with
 | normal=>exact⟨q2.defers,key q1⟩
 | ret=>exact⟨q2.defers,key q1⟩
 | exit _=>exact q1.elim
 | goto _=>exact q1.elim
 | panic _=>exact q1.elim
 | outgrown=>exact q1.elim
theorem qus {f:FuncId}{fn:Func}{c:Code}{pre:List D}{d:D}{post:List D}{d':D}{res:List D}(hc:zbl P f)(hf:P.funcs[f]?=some fn)(hb:fn.body=some c)(hd:zdf fn.ntmps c=true)(hN:(zew pre d post).length<=fn.ntmps)(hN2:fn.ntmps<=1000000)(hs:zcj (zew pre d post))(hnb:d.sls)
  (h:ex P c [] (PI P fn.results.toList d' res) (zoc pre d post)):IC P f pre d post d' res :=
 qrp hc hf hb hd hN hN2 hs hnb λn0 N g a w hR hn=>⟨_,h,hR⟩
def inU:List C->List T->List (Nat×List (List T))
 | .ow e _::cs,.sl _ rows'::ts'=>(e,rows')::inU cs ts'
 | _::cs,_::ts'=>inU cs ts'
 | _,_=>[]
def qc7:List (Nat×List (List T))->(Nat->Option Ev)->Nat->Option Ev
 | [],f=>f
 | (e,rows')::U,f=>upd (qc7 U f) e ((f e).map λx=>{ x with rows:=rows' })
def St.inp (σ:St)(U:List (Nat×List (List T))):St:={ σ with ev:=qc7 U σ.ev }
def inK (σ:St):List Nat->List C->List T->List T->Prop
 | _,[],[],[]=>True
 | used,.t x::cs,t::ts,t'::ts'=>x=t/\t'=t/\t.flat=true/\inK σ used cs ts ts'
 | used,.nl _::cs,.sl _ rows::ts,.sl _ rows'::ts'=>rows=[]/\rows'=[]/\inK σ used cs ts ts'
 | used,.ow e g::cs,.sl sz rows::ts,.sl sz' rows'::ts'=>e∉used/\sz'=sz/\σ.ev e=some ⟨true,sz,rows,g,true⟩/\inK σ (e::used) cs ts ts'
 | _,_,_,_=>False
theorem zin {U:List (Nat×List (List T))}{f:Nat->Option Ev}{e:Nat}(h:e∉U.map (·.1)):qc7 U f e=f e:=by
 induction U with
 | nil=>rfl
 | cons p U ih =>
  simp only[Qc,Qu,not_or]at h;unfold qc7;rw[zan _ _ h.1,ih h.2]
theorem qr2 {U:List (Nat×List (List T))}{f:Nat->Option Ev}(hn:(U.map (·.1)).Nodup){e:Nat}{rows':List (List T)}(h:(e,rows')∈U):qc7 U f e=(f e).map λx=>{ x with rows:=rows' }:=by
 induction U with
 | nil=>simp at h
 | cons p U ih =>
  obtain⟨e0,r0⟩:=p;simp only[Qc,Kx]at hn;unfold qc7;rcases Qu.1 h with h|h
  ·cases h;rw[zaf]
  ·have hne:e≠e0:=λhe=>hn.1 (he▸Ka.2 ⟨_,h,rfl⟩);rw[zan _ _ hne,ih hn.2 h]
theorem zg7 {n0:Nat->Prop}{N:Nat}{σ:St}{g:Gh}{a:Act}{w:World}(hR:Rel n0 N σ g a w):∀{cs:List C}{ts ts':List T}{used:List Nat}{vs:List Value},inK σ used cs ts ts'->CRs σ g w cs vs →
  (inU cs ts').Pairwise (λp q=>p.1≠q.1)/\(∀p∈inU cs ts',p.1∉used/\∃sz rows gn,σ.ev p.1=some ⟨true,sz,rows,gn,true⟩) ∧
  (∃fp tp,qcz w ts vs fp tp/\fp.Nodup/\(∀b∈fp,∃p∈inU cs ts',b∈g.φ p.1)/\∀p∈inU cs ts',∀b∈g.φ p.1,b∈fp) ∧
  ∀{w':World} {fp' tp':List Nat},qcz w' ts' vs fp' tp'->fp'.Nodup->∃φ':Nat->List Nat,(∀e,(∀p∈inU cs ts',p.1≠e)->φ' e=g.φ e)/\(∀p∈inU cs ts',∃sz rows gn,σ.ev p.1=some ⟨true,sz,rows,gn,true⟩/\zba w' (.sl sz p.2) (g.ψ p.1 gn) (φ' p.1)/\(φ' p.1).Nodup/\∀b∈φ' p.1,b∈fp') ∧
   ∀p∈inU cs ts',∀q∈inU cs ts',p.1≠q.1->∀b∈φ' p.1,b∉φ' q.1
 | [],[],[],used,vs,h,hv=>by
  rw[show vs=[] from hv];refine⟨List.Pairwise.nil,by simp[inU],⟨[],[],⟨rfl,rfl,rfl⟩,Kr,by simp,by simp[inU]⟩,λ_ _=>⟨g.φ,λ_ _=>rfl,by simp[inU],by simp[inU]⟩⟩
 | .t x::cs,t::ts,t'::ts',used,vs,h,hv=>by
  obtain⟨hx,ht,hf,h⟩:=h;subst hx;subst ht;obtain⟨v,vs',rfl,hv1,hv2⟩:=hv;obtain⟨k1,k2,⟨fp,tp,k3,k4,k5,k6⟩,k7⟩:=zg7 hR h hv2;have hU:∀y,inU (.t y::cs) (y::ts')=inU cs ts':=λy=>by cases y<;>rfl
  rw[hU];have hown:∀y:T,y.flat=true->CR σ g w (.t y) v->zba w y v []/\zlg y []=[]:=λy hf hv1=>by
   simp only[CR]at hv1;cases y<;>simp only[T.flat,Qp]at hf<;>unfold zau at hv1<;>unfold zba
   ·exact⟨⟨hv1.1,hv1.2.1,hv1.2.2,rfl⟩,rfl⟩
   ·exact⟨⟨hv1,rfl⟩,rfl⟩
   ·exact⟨⟨hv1.1,hv1.2,rfl⟩,rfl⟩
   ·exact⟨⟨hv1,rfl⟩,rfl⟩
  refine⟨k1,k2,⟨fp,tp,⟨v,vs',[],fp,tp,rfl,by simp,by rw[(hown _ hf hv1).2];simp,(hown _ hf hv1).1,k3⟩,k4,k5,k6⟩,λhg hn=>?_⟩;obtain⟨v0,vs0,f1,f2,t2,e,rfl,_,_,hg2⟩:=hg;cases e;obtain⟨φ',j1,j2,j3⟩:=k7 hg2 (Kg.1 hn).2.1;exact⟨φ',j1,λp hp=>by obtain⟨sz,rows,gn,q1,q2,q3,q4⟩:=j2 p hp;exact⟨sz,rows,gn,q1,q2,q3,λb hb=>J7 _ (q4 b hb)⟩,j3⟩
 | .nl z::cs,.sl sz rows::ts,.sl sz' rows'::ts',used,vs,h,hv=>by
  obtain⟨rfl,rfl,h⟩:=h;obtain⟨v,vs',rfl,hv1,hv2⟩:=hv;obtain⟨k1,k2,⟨fp,tp,k3,k4,k5,k6⟩,k7⟩:=zg7 hR h hv2;have hU:inU (.nl z::cs) (.sl sz' []::ts')=inU cs ts':=rfl;rw[hU];have hv1:v=.slice none 0 0:=hv1;refine⟨k1,k2,⟨fp,tp,⟨v,vs',[],fp,tp,rfl,by simp,by simp[zlg],by unfold zba;exact⟨none,0,hv1,by simp,by simp,Or.inl ⟨rfl,rfl,rfl,rfl⟩⟩,k3⟩,k4,k5,k6⟩,λhg hn=>?_⟩;obtain⟨v0,vs0,f1,f2,t2,e,rfl,_,_,hg2⟩:=hg;cases e;obtain⟨φ',j1,j2,j3⟩:=k7 hg2 (Kg.1 hn).2.1;exact⟨φ',j1,λp hp=>by obtain⟨sz,rows,gn,q1,q2,q3,q4⟩:=j2 p hp;exact⟨sz,rows,gn,q1,q2,q3,λb hb=>J7 _ (q4 b hb)⟩,j3⟩
 | .ow e gn::cs,.sl sz rows::ts,.sl sz' rows'::ts',used,vs,h,hv=>by
  obtain⟨hu,rfl,he,h⟩:=h;obtain⟨v,vs',rfl,hv1,hv2⟩:=hv;obtain⟨k1,k2,⟨fp,tp,k3,k4,k5,k6⟩,k7⟩:=zg7 hR h hv2;have hU:inU (.ow e gn::cs) (.sl sz' rows'::ts')=(e,rows')::inU cs ts':=rfl;rw[hU];have hO:σ.On e:=⟨_,he,rfl⟩;have hne:∀p∈inU cs ts',e≠p.1:=λp hp hh=>(k2 p hp).1 (by simp[hh]);have hown:=zf7 hR he;refine⟨Jf.2 ⟨λp hp=>hne p hp,k1⟩,λp hp=>?_,⟨g.φ e++fp,zlg (.sl sz' rows) (g.φ e)++tp,⟨v,vs',g.φ e,fp,tp,rfl,rfl,rfl,by rw[hv1.1];exact hown,k3⟩,Kg.2 ⟨hR.nodup e hO,k4,λb hb c hc hbc=>?_⟩,λb hb=>?_,λp hp b hb=>?_⟩,fun {w'} {fp'} {tp'} hg hn=>?_⟩
  ·rcases Qu.1 hp with rfl|hp
   ·exact⟨hu,_,_,_,he⟩
   ·exact⟨λhh=>(k2 p hp).1 (by simp[hh]),(k2 p hp).2⟩
  ·subst hbc;obtain⟨p,hp,hm⟩:=k5 b hc;obtain⟨sz2,rows2,gn2,hev⟩:=(k2 p hp).2;exact hR.apart e p.1 hO ⟨_,hev,rfl⟩ (hne p hp) b hb hm
  ·rcases Qw.1 hb with hb|hb
   ·exact⟨(e,rows'),by simp,hb⟩
   ·obtain⟨p,hp,hm⟩:=k5 b hb;exact⟨p,by simp[hp],hm⟩
  ·rcases Qu.1 hp with rfl|hp
   ·exact Ya _ hb
   ·exact J7 _ (k6 p hp b hb)
  ·obtain⟨v0,vs0,f1,f2,t2,e0,rfl,_,hg1,hg2⟩:=hg;cases e0;obtain⟨n1,n2,n3⟩:=Kg.1 hn;obtain⟨φ',j1,j2,j3⟩:=k7 hg2 n2;refine⟨upd φ' e f1,λe' h'=>?_,λp hp=>?_,λp hp q hq hpq b hb hb'=>?_⟩
   ·rw[zan _ _ (Ne.symm (h' (e,rows') (by simp)))];exact j1 e' λp hp=>h' p (by simp[hp])
   ·rcases Qu.1 hp with rfl|hp
    ·refine⟨sz',rows,gn,he,?_,by rw[zaf];exact n1,λb hb=>by rw[zaf]at hb;exact Ya _ hb⟩;rw[zaf,<-hv1.1];exact hg1
    ·obtain⟨sz2,rows2,gn2,q1,q2,q3,q4⟩:=j2 p hp;have:=Ne.symm (hne p hp);exact⟨sz2,rows2,gn2,q1,by rw[zan _ _ this];exact q2,by rw[zan _ _ this];exact q3,λb hb=>by rw[zan _ _ this]at hb;exact J7 _ (q4 b hb)⟩
   ·rcases Qu.1 hp with rfl|hp<;>rcases Qu.1 hq with rfl|hq
    ·exact hpq rfl
    ·have hne2:=Ne.symm (hne q hq);rw[zaf]at hb;rw[zan _ _ hne2]at hb';obtain⟨_,_,_,_,_,_,q4⟩:=j2 q hq;exact n3 b hb b (q4 b hb') rfl
    ·have hne2:=Ne.symm (hne p hp);rw[zan _ _ hne2]at hb;rw[zaf]at hb';obtain⟨_,_,_,_,_,_,q4⟩:=j2 p hp;exact n3 b hb' b (q4 b hb) rfl
    ·rw[zan _ _ (Ne.symm (hne p hp))]at hb;rw[zan _ _ (Ne.symm (hne q hq))]at hb';exact j3 p hp q hq hpq b hb hb'
end
section
open Go.RowKit
variable {P:Program}
theorem Rel.inp {n0:Nat->Prop}{N:Nat}{σ:St}{g:Gh}{a:Act}{w w':World}(hR:Rel n0 N σ g a w)(hn:LtK n0 w){U:List (Nat×List (List T))}(hU:U.Pairwise (λp q=>p.1≠q.1)){fp fp':List Nat}
  (hfp:∀p∈U,∀b∈g.φ p.1,b∈fp) (hfpU:∀b∈fp,∃p∈U,b∈g.φ p.1) (hbk:Bk (λk=>k<w.heap.size/\k∉fp) w w') (hfp':∀b∈fp',b∈fp\/w.heap.size<=b)
  {φ':Nat->List Nat} (j1:∀e,(∀p∈U,p.1≠e)->φ' e=g.φ e)
  (j2:∀p∈U,∃sz rows gn,σ.ev p.1=some ⟨true,sz,rows,gn,true⟩/\zba w' (.sl sz p.2) (g.ψ p.1 gn) (φ' p.1)/\(φ' p.1).Nodup/\∀b∈φ' p.1,b∈fp')
  (j3:∀p∈U,∀q∈U,p.1≠q.1->∀b∈φ' p.1,b∉φ' q.1)
  (hv1:∀i v,VR σ g w (σ.sl i) v->VR (σ.inp U) { g with φ:=φ' } w' (σ.sl i) v)
  (hv2:∀b cs vs,σ.bx b=some cs->CRs σ g w cs vs->CRs (σ.inp U) { g with φ:=φ' } w' cs vs)
  (hv3:∀e x,(∀p∈U,p.1≠e)->σ.ev e=some x->x.on=true->∀v fpx,EvR w (Fix σ g w) x v fpx->(∀b∈fpx,w'.heap[b]?=w.heap[b]?)->EvR w' (Fix (σ.inp U) { g with φ:=φ' } w') x v fpx)
  (hv4:∀e x,σ.ev e=some x->x.on=false->∀v,zau w (Fix σ g w) (.sl x.sz x.rows) v->zau w' (Fix (σ.inp U) { g with φ:=φ' } w') (.sl x.sz x.rows) v) :
  Rel n0 N (σ.inp U) { g with φ:=φ' } a w':=by
 have hNd:(U.map (·.1)).Nodup:=List.pairwise_map.2 hU
 have hin:∀p∈U,∃sz rows gn,σ.ev p.1=some ⟨true,sz,rows,gn,true⟩/\(σ.inp U).ev p.1=some ⟨true,sz,p.2,gn,true⟩/\zba w' (.sl sz p.2) (g.ψ p.1 gn) (φ' p.1):=λp hp=>by
  obtain⟨sz,rows,gn,q1,q2,_⟩:=j2 p hp;refine⟨sz,rows,gn,q1,?_,q2⟩;show qc7 U σ.ev p.1=_
  rw[qr2 hNd (show(p.1,p.2)∈U from hp),q1];rfl
 have hout:∀e,(∀p∈U,p.1≠e)->(σ.inp U).ev e=σ.ev e:=λe h=>zin λhm=>by
  obtain⟨p,hp,he⟩:=Ka.1 hm;exact h p hp he
 have hcase:∀e,(∃p∈U,p.1=e)\/∀p∈U,p.1≠e:=λe=>by
  by_cases h:∃p∈U,p.1=e
  ·exact Or.inl h
  ·exact Or.inr λp hp he=>h ⟨p,hp,he⟩
 have hOU:∀p∈U,σ.On p.1:=λp hp=>by obtain⟨sz,rows,gn,q1,_⟩:=hin p hp;exact⟨_,q1,rfl⟩
 have hon:∀e,(∀p∈U,p.1≠e)->(σ.inp U).On e->σ.On e:=λe h ho=>by
  obtain⟨x,hx,ho⟩:=ho;exact⟨x,(hout e h).symm.trans hx,ho⟩
 have hold:∀b∈fp,b<w.heap.size:=λb hb=>by
  obtain⟨p,hp,hm⟩:=hfpU b hb;obtain⟨x,hx,ho⟩:=hOU p hp;exact(hR.evs _ x hx ho).lt b hm
 have hbx:∀k,σ.bx k≠none->g.β k∉fp:=λk hk hm=>by
  obtain⟨p,hp,hm⟩:=hfpU _ hm;exact hR.ebx p.1 k (hOU p hp) hk hm
 have happ:∀e,(∀p∈U,p.1≠e)->σ.On e->∀b∈g.φ e,b∉fp:=λe h ho b hb hm=>by
  obtain⟨p,hp,hm⟩:=hfpU b hm;exact hR.apart e p.1 ho (hOU p hp) (Ne.symm (h p hp)) b hb hm
 have hlt:∀e,σ.On e->∀b∈g.φ e,b<w.heap.size:=λe ho b hb=>by
  obtain⟨x,hx,ho⟩:=ho;exact(hR.evs e x hx ho).lt b hb
 have hb':∀p∈U,∀b∈φ' p.1,b∈fp\/w.heap.size<=b:=λp hp b hb=>by
  obtain⟨_,_,_,_,_,_,q⟩:=j2 p hp;exact hfp' b (q b hb)
 refine⟨hR.defers,hR.size,hR.anew,λi=>hv1 i _ (hR.slots i),λb cs hb=>?_,hR.base,hR.inj,λe x he ho=>?_,λe x he ho=>?_,hR.slc,λe he b hb=>?_,λe he b hb=>?_,λe he=>?_,λe e' h1 h2 hne b hb1 hb2=>?_,λe k he hk hm=>?_⟩
 ·obtain⟨vs,ty,k1,k2⟩:=hR.boxes b cs hb;have hne:σ.bx b≠none:=by rw[show σ.bx b=some cs from hb];simp
  exact⟨vs,ty,by rw[hbk.block _ ⟨hR.lt hne,hbx b hne⟩];exact k1,hv2 b cs _ hb k2⟩
 ·rcases hcase e with⟨p,hp,rfl⟩|h
  ·obtain⟨sz,rows,gn,q1,q2,q3⟩:=hin p hp;rw[q2,Qe]at he;subst he;unfold zba at q3;obtain⟨ao,cap,r1,r2,r3,r4⟩:=q3;refine⟨ao,cap,r1,r2,r3,?_⟩;rcases r4 with r4|⟨b,cells,ty,fps,r4,r5,r6,r7,r8⟩
   ·exact Or.inl r4
   ·exact Or.inr ⟨b,cells,ty,fps,r4,r5,r6,r7,by rw[if_pos rfl];exact r8⟩
  ·rw[hout e h]at he;have hO:σ.On e:=⟨x,he,ho⟩;show EvR w' _ x (g.ψ e x.gen) (φ' e)
   rw[j1 e h];exact hv3 e x h he ho _ _ (hR.evs e x he ho) λb hb=>hbk.block b ⟨hlt e hO b hb,happ e h hO b hb⟩
 ·rcases hcase e with⟨p,hp,rfl⟩|h
  ·obtain⟨sz,rows,gn,q1,q2,q3⟩:=hin p hp;rw[q2,Qe]at he;subst he;cases ho
  ·rw[hout e h]at he;exact⟨hv4 e x he ho _ (hR.offs e x he ho).1,(hR.offs e x he ho).2⟩
 ·rcases hcase e with⟨p,hp,rfl⟩|h
  ·rcases hb' p hp b hb with h1|h1
   ·obtain⟨q,hq,hm⟩:=hfpU b h1;exact hR.ebase q.1 (hOU q hq) b hm
   ·exact hR.anew b (hn.new h1)
  ·have hb:b∈g.φ e:=j1 e h▸hb;exact hR.ebase e (hon e h he) b hb
 ·rcases hcase e with⟨p,hp,rfl⟩|h
  ·rcases hb' p hp b hb with h1|h1
   ·obtain⟨q,hq,hm⟩:=hfpU b h1;exact hR.etop q.1 (hOU q hq) b hm
   ·exact hn.new h1
  ·have hb:b∈g.φ e:=j1 e h▸hb;exact hR.etop e (hon e h he) b hb
 ·rcases hcase e with⟨p,hp,rfl⟩|h
  ·obtain⟨_,_,_,_,_,q,_⟩:=j2 p hp;exact q
  ·show(φ' e).Nodup
   rw[j1 e h];exact hR.nodup e (hon e h he)
 ·have hb1:b∈φ' e:=hb1;have hb2:b∈φ' e':=hb2;rcases hcase e with⟨p,hp,rfl⟩|k1<;>rcases hcase e' with⟨q,hq,rfl⟩|k2
  ·exact j3 p hp q hq hne b hb1 hb2
  ·rw[j1 e' k2]at hb2;rcases hb' p hp b hb1 with h3|h3
   ·exact happ e' k2 (hon e' k2 h2) b hb2 h3
   ·have:=hlt e' (hon e' k2 h2) b hb2;omega
  ·rw[j1 e k1]at hb1;rcases hb' q hq b hb2 with h3|h3
   ·exact happ e k1 (hon e k1 h1) b hb1 h3
   ·have:=hlt e (hon e k1 h1) b hb1;omega
  ·rw[j1 e k1]at hb1;rw[j1 e' k2]at hb2;exact hR.apart e e' (hon e k1 h1) (hon e' k2 h2) hne b hb1 hb2
 ·have hm:g.β k∈φ' e:=hm;rcases hcase e with⟨p,hp,rfl⟩|h
  ·rcases hb' p hp _ hm with h1|h1
   ·exact hbx k hk h1
   ·have:=hR.lt hk;omega
  ·rw[j1 e h]at hm;exact hR.ebx e k (hon e h he) hk hm
def T.nm:T->Bool
 | .fn _ []=>true
 | t=>t.flat
def nmV:V->D->Prop
 | .one (.t x),.one y=>x=y/\T.nm y=true
 | .one (.fn f []),.one (.fn g [])=>f=g
 | _,_=>False
def zv5:List V->List D->Prop
 | [],[]=>True
 | v::vs,d::ds=>nmV v d/\zv5 vs ds
 | _,_=>False
theorem zcq {w w':World}{A A':Nat->Prop}{x:T}{v:Value}(hf:x.flat=true)(h:zau w A x v):zau w' A' x v:=by
 cases x<;>simp only[T.flat,Qp]at hf<;>unfold zau at h⊢<;>exact h
theorem zl8 {σ:St}{g:Gh}{w:World}{x:V}{d:D}{v:Value}(h:nmV x d)(hv:VR σ g w x v)(A:Nat->Prop):zsb w A d v:=by
 unfold nmV at h
 split at h
 ·obtain⟨rfl,h⟩:=h;unfold T.nm at h;split at h
  ·simp only[VR,CR]at hv;unfold zau at hv;obtain⟨vs,e,h2⟩:=hv;unfold zag at h2;subst h2;show zau _ _ _ _
   unfold zau;exact⟨[],e,by unfold zag;rfl⟩
  ·exact zcq h hv
 ·subst h;obtain⟨e,_⟩:=hv;show zau _ _ _ _
  unfold zau;exact⟨[],e,by unfold zag;rfl⟩
 ·exact h.elim
theorem zll {σ:St}{g:Gh}{w:World}(A:Nat->Prop):∀{xs:List V}{ds:List D}{vs:List Value},zv5 xs ds->VRl σ g w xs vs->zbn w A ds vs
 | [],[],vs,_,h=>h
 | x::xs,d::ds,vs,h,hv=>by
  obtain⟨v,vs',rfl,h1,h2⟩:=hv;exact⟨v,vs',rfl,zl8 h.1 h1 A,zll A h.2 h2⟩
 | [],_::_,_,h,_=>h.elim
 | _::_,[],_,h,_=>h.elim
theorem VRl.split {σ:St}{g:Gh}{w:World}:∀{x1 x2:List V}{vs:List Value},VRl σ g w (x1++x2) vs->∃u1 u2,vs=u1++u2/\VRl σ g w x1 u1/\VRl σ g w x2 u2
 | [],_,vs,h=>⟨[],vs,rfl,rfl,h⟩
 | x::xs,_,vs,h=>by
  obtain⟨v,vs',rfl,h1,h2⟩:=h;obtain⟨u1,u2,rfl,k1,k2⟩:=VRl.split h2;exact⟨v::u1,u2,rfl,⟨v,u1,rfl,h1,k1⟩,k2⟩
def inG (σ:St):V->D->D->Prop
 | .one c,.one t,.one t'=>inK σ [] [c] [t] [t']
 | .agg cs,.agg ts,.agg ts'=>inK σ [] cs ts ts'
 | _,_,_=>False
def qtn:V->D->List (Nat×List (List T))
 | .one c,.one t'=>inU [c] [t']
 | .agg cs,.agg ts'=>inU cs ts'
 | _,_=>[]
def D.fl:D->Bool
 | .one t=>t.flat
 | .agg ts=>ts.all T.flat
theorem zs7 {w:World}{A:Nat->Prop}:∀{ts:List T}{vs:List Value}{fp tp:List Nat},ts.all T.flat=true->qcz w ts vs fp tp->zag w A ts vs
 | [],vs,_,_,_,h=>by unfold zag;exact h.1
 | t::ts,vs,_,_,hf,h=>by
  rw[Ks,Qb]at hf;obtain⟨v,vs',f1,f2,t2,rfl,_,_,h1,h2⟩:=h;unfold zag;exact⟨v,vs',rfl,zcq hf.1 (zba.rep (A:=λ_=>True) t v f1 h1 λ_ _=>trivial),zs7 hf.2 h2⟩
theorem zqg {w:World}{A:Nat->Prop}:∀{ds:List D}{vs:List Value}{fp tp:List Nat},ds.all D.fl=true->GDs w ds vs fp tp->zbn w A ds vs
 | [],vs,_,_,_,h=>h.1
 | .one t::ds,vs,_,_,hf,h=>by
  rw[Ks,Qb]at hf;obtain⟨v,vs',f1,f2,t1,t2,rfl,_,_,h1,h2⟩:=h;exact⟨v,vs',rfl,zcq hf.1 (zba.rep (A:=λ_=>True) t v f1 h1.1 λ_ _=>trivial),zqg hf.2 h2⟩
 | .agg ts::ds,vs,_,_,hf,h=>by
  rw[Ks,Qb]at hf;obtain⟨v,vs',f1,f2,t1,t2,rfl,_,_,⟨a,e,h1⟩,h2⟩:=h;exact⟨v,vs',rfl,⟨a,e,zs7 hf.1 h1⟩,zqg hf.2 h2⟩
def C.mOk:C->Bool
 | .t x=>x.flat
 | .el _ _=>false
 | .er _ _=>true
 | _=>true
def V.mOk:V->Bool
 | .one c=>c.mOk
 | .agg cs=>cs.all C.mOk
 | .tup xs=>xs.all λx=>x.2.all C.mOk
def Deep (σ:St):Prop:=(∀i,(σ.sl i).mOk=true)/\(∀b cs,σ.bx b=some cs->cs.all C.mOk=true)/\∀e x,σ.ev e=some x->x.on=true/\x.deep=true
def Shal (σ:St)(U:List (Nat×List (List T))):Prop:=∀p∈U,zav (σ.ev p.1) λx=>flR x.rows=true
theorem zbr.flat {w:World}{cells:Array Value}:∀{r:List T}{o:Nat}{fps:List Nat},r.all T.flat=true->zbr w cells o r fps->fps=[]
 | [],_,_,_,h=>by unfold zbr at h;exact h
 | t::r,o,fps,hf,h=>by
  rw[Ks,Qb]at hf;unfold zbr at h;obtain⟨v,f1,f2,_,rfl,h1,h2⟩:=h;rw[zbr.flat hf.2 h2,Ko];have hf1:=hf.1;cases t<;>simp only[T.flat,Qp]at hf1<;>unfold zba at h1
  ·exact h1.2.2.2
  ·exact h1.2
  ·exact h1.2.2
  ·exact h1.2
theorem zat.flat {w:World}{cells:Array Value}{sz:Nat}:∀{rows:List (List T)}{o:Nat}{fps:List Nat},flR rows=true->zat w cells o sz rows fps->fps=[]
 | [],_,_,_,h=>by unfold zat at h;exact h
 | r::rows,o,fps,hf,h=>by
  unfold flR at hf;rw[Qb]at hf;unfold zat at h;obtain⟨_,f1,f2,rfl,h1,h2⟩:=h;rw[zbr.flat hf.1 h1,zat.flat hf.2 h2,Ko]
section
variable {σ:St}{g g':Gh}{w w':World}{U:List (Nat×List (List T))}
theorem qhn (hβ:g'.β=g.β)(hψ:g'.ψ=g.ψ)(hh:∀e n,σ.has e n->(σ.inp U).has e n)(hrn:∀b,zch σ g w b->w'.heap[b]?=w.heap[b]?/\zch (σ.inp U) g' w' b){c:C}{v:Value}(hc:c.mOk=true)(h:CR σ g w c v):CR (σ.inp U) g' w' c v:=by
 cases c with
 | t x=>exact zcq hc h
 | nl s=>exact h
 | ow e n=>exact⟨by rw[hψ];exact h.1,hh e n h.2⟩
 | bx b o=>exact⟨by rw[hβ];exact h.1,h.2⟩
 | el cs o=>cases hc
 | eo e s sz i o=>obtain⟨b,n,c,k1,k2,k3,k4⟩:=h;exact⟨b,n,c,by rw[hψ];exact k1,k2,k3,hh e s k4⟩
 | fn f caps=>exact⟨by rw[hβ];exact h.1,h.2⟩
 | cv u=>exact h
 | any=>trivial
 | rn x=>exact zau.keep (λb hb=>(hrn b hb).1) (λb hb=>(hrn b hb).2) x v h
 | er cs o=>obtain⟨b,q,h1,h2,h3⟩:=h;exact⟨b,q,h1,(hrn b h2).2,zbo.keep (λb hb=>(hrn b hb).1) (λb hb=>(hrn b hb).2) b (hrn b h2).1 q cs h3⟩
theorem zm6 (hβ:g'.β=g.β)(hψ:g'.ψ=g.ψ)(hh:∀e n,σ.has e n->(σ.inp U).has e n)(hrn:∀b,zch σ g w b->w'.heap[b]?=w.heap[b]?/\zch (σ.inp U) g' w' b):∀{cs:List C}{vs:List Value},cs.all C.mOk=true->CRs σ g w cs vs->CRs (σ.inp U) g' w' cs vs
 | [],_,_,h=>h
 | c::cs,vs,hc,h=>by
  rw[Ks,Qb]at hc;obtain⟨v,vs',rfl,h1,h2⟩:=h;exact⟨v,vs',rfl,qhn hβ hψ hh hrn hc.1 h1,zm6 hβ hψ hh hrn hc.2 h2⟩
theorem qe7 (hβ:g'.β=g.β)(hψ:g'.ψ=g.ψ)(hh:∀e n,σ.has e n->(σ.inp U).has e n)(hrn:∀b,zch σ g w b->w'.heap[b]?=w.heap[b]?/\zch (σ.inp U) g' w' b):∀{xs:List (Bool×List C)}{vs:List Value},(xs.all λx=>x.2.all C.mOk)=true->CRt σ g w xs vs->CRt (σ.inp U) g' w' xs vs
 | [],_,_,h=>h
 | x::xs,vs,hc,h=>by
  rw[Ks,Qb]at hc;obtain⟨v,vs',rfl,h1,h2⟩:=h;refine⟨v,vs',rfl,?_,qe7 hβ hψ hh hrn hc.2 h2⟩;unfold CRx at h1⊢;split at h1
  ·rw[if_pos ‹_›];obtain⟨a,k1,k2⟩:=h1;exact⟨a,k1,zm6 hβ hψ hh hrn hc.1 k2⟩
  ·rw[if_neg ‹_›];obtain⟨c,k1,k2⟩:=h1;refine⟨c,k1,qhn hβ hψ hh hrn ?_ k2⟩;have:=hc.1;rw[k1]at this;simpa using this
theorem qrw (hβ:g'.β=g.β)(hψ:g'.ψ=g.ψ)(hh:∀e n,σ.has e n->(σ.inp U).has e n)(hrn:∀b,zch σ g w b->w'.heap[b]?=w.heap[b]?/\zch (σ.inp U) g' w' b){x:V}{v:Value}(hc:x.mOk=true)(h:VR σ g w x v):VR (σ.inp U) g' w' x v:=by
 cases x with
 | one c=>exact qhn hβ hψ hh hrn hc h
 | agg cs=>obtain⟨a,k1,k2⟩:=h;exact⟨a,k1,zm6 hβ hψ hh hrn hc k2⟩
 | tup xs=>obtain⟨a,k1,k2⟩:=h;exact⟨a,k1,qe7 hβ hψ hh hrn hc k2⟩
end
end
end Go.Proofs.YtnemmlahbbbobaaGreat
