/-
  The walk over plain data, and contracts of functions of the program and of its laws.
  Conditions: those that each theorem names.
-/
import Derived.Test.YtliiapbmkcbfaaaGreatQE4
import Derived.Test.YtliiapbmkcbfaaaGreatProg
import Derived.KernelRfl
import Derived.Test.YtliiapbmkcbfaaaGreatQE1
import Derived.Sort.OwnSorted
import Derived.Sort.KeysCollected
import Derived.Sort.Walk0
import Derived.Laws.AppendOwn
import Derived.Shelf.Sort.Plain
import Derived.Shelf.Slices.In.SortNone
import Derived.Shelf.Slices.CompactS
import Derived.Lib.SliceRun
namespace Go.Proofs.YtliiapbmkcbfaaaGreat
set_option linter.unusedSimpArgs false
set_option linter.unusedVariables false
set_option linter.unusedSectionVars false
set_option maxRecDepth 4000
open Go.RowKit
variable {P:Program}
theorem zau.append {w:World} {A:Nat->Prop}:∀ {d1 d2:List (Bool × D)} {v1 v2:List Value} {f1 f2 t1 t2:List Nat},zau w A d1 v1 f1 t1->zau w A d2 v2 f2 t2->zau w A (d1 ++ d2) (v1 ++ v2) (f1 ++ f2) (t1 ++ t2)
 | [],_,_,_,_,_,_,_,h,k=>by obtain ⟨rfl,rfl,rfl⟩:=h; exact k
 | (true,d) :: ds,_,_,_,_,_,_,_,h,k=>by
  obtain ⟨v,vs',g1,g2,s1,s2,rfl,rfl,rfl,h1,h2⟩:=h
  exact ⟨v,_,g1,_,s1,_,rfl,by rw [Kh],by rw [Kh],h1,zau.append h2 k⟩
 | (false,d) :: ds,_,_,_,_,_,_,_,h,k=>by
  obtain ⟨v,vs',rfl,h1,h2⟩:=h
  exact ⟨v,_,rfl,h1,zau.append h2 k⟩
theorem zau.len {w:World} {A:Nat->Prop}:∀ {ds:List (Bool × D)} {vs:List Value} {fp tp:List Nat},zau w A ds vs fp tp->vs.length = ds.length
 | [],_,_,_,h=>by rw [h.1]; rfl
 | (true,d) :: ds,_,_,_,h=>by obtain ⟨v,vs',_,_,_,_,rfl,rfl,rfl,_,h2⟩:=h; simp [zau.len h2]
 | (false,d) :: ds,_,_,_,h=>by obtain ⟨v,vs',rfl,_,h2⟩:=h; simp [zau.len h2]
theorem zau.split {w:World} {A:Nat->Prop}:∀ {d1 d2:List (Bool × D)} {vs:List Value} {fp tp:List Nat},zau w A (d1 ++ d2) vs fp tp->∃ v1 v2 f1 f2 t1 t2,vs = v1 ++ v2 /\ fp = f1 ++ f2 /\ tp = t1 ++ t2 /\ zau w A d1 v1 f1 t1 /\ zau w A d2 v2 f2 t2
 | [],d2,vs,fp,tp,h=>⟨[],vs,[],fp,[],tp,rfl,rfl,rfl,⟨rfl,rfl,rfl⟩,h⟩
 | (true,d) :: ds,d2,_,_,_,h=>by
  obtain ⟨v,vs',g1,g2,s1,s2,rfl,rfl,rfl,h1,h2⟩:=h
  obtain ⟨v1,v2,f1,f2,t1,t2,rfl,rfl,rfl,k1,k2⟩:=zau.split h2
  exact ⟨v :: v1,v2,g1 ++ f1,f2,s1 ++ t1,t2,rfl,by rw [Kh],by rw [Kh],⟨v,v1,g1,f1,s1,t1,rfl,rfl,rfl,h1,k1⟩,k2⟩
 | (false,d) :: ds,d2,_,_,_,h=>by
  obtain ⟨v,vs',rfl,h1,h2⟩:=h
  obtain ⟨v1,v2,f1,f2,t1,t2,rfl,rfl,rfl,k1,k2⟩:=zau.split h2
  exact ⟨v :: v1,v2,f1,f2,t1,t2,rfl,rfl,rfl,⟨v,v1,rfl,h1,k1⟩,k2⟩
def zbg:List (Bool × D)->List (Bool × T)
 | []=>[]
 | (b,.one t) :: ds=>(b,t) :: zbg ds
 | (b,.agg ts) :: ds=>ts.map (fun t=>(b,t)) ++ zbg ds
def bxA (box:List (Bool × T)):List (Bool × D):=box.map fun p=>(p.1,.one p.2)
theorem zwr.ones {w:World} {A:Nat->Prop}:∀ {ts:List T} {vs:List Value} {fp tp:List Nat},zwr w ts vs fp tp->zau w A (bxA (ts.map fun t=>(true,t))) vs fp tp
 | [],_,_,_,h=>h
 | t :: ts,_,_,_,h=>by
  obtain ⟨v,vs',f1,f2,t2,rfl,rfl,rfl,h1,h2⟩:=h
  exact ⟨v,vs',f1,f2,_,t2,rfl,rfl,rfl,⟨h1,rfl⟩,zwr.ones h2⟩
theorem zaf.ones {w:World} {A:Nat->Prop}:∀ {ts:List T} {vs:List Value},zaf w A ts vs->zau w A (bxA (ts.map fun t=>(false,t))) vs [] []
 | [],_,h=>by unfold zaf at h; exact ⟨h,rfl,rfl⟩
 | t :: ts,_,h=>by
  unfold zaf at h
  obtain ⟨v,vs',rfl,h1,h2⟩:=h
  exact ⟨v,vs',rfl,h1,zaf.ones h2⟩
theorem zhn (a b:List (Bool × T)):bxA (a ++ b) = bxA a ++ bxA b:=Q0
theorem zar.cells1 {w:World} {A:Nat->Prop} {t:T} {v:Value} (h:zar w A t v):v.cells = #[v]:=(zar.one h).2
theorem zau.flat {w:World} {A:Nat->Prop}:∀ {ds:List (Bool × D)} {vs:List Value} {fp tp:List Nat},zau w A ds vs fp tp->∃ tp',zau w A (bxA (zbg ds)) (vs.flatMap fun u=>u.cells.toList) fp tp'
 | [],_,_,_,h=>by obtain ⟨rfl,rfl,rfl⟩:=h; exact ⟨[],rfl,rfl,rfl⟩
 | (true,.one t) :: ds,_,_,_,h=>by
  obtain ⟨v,vs',f1,f2,t1,t2,rfl,rfl,rfl,h1,h2⟩:=h
  obtain ⟨tp',h2⟩:=zau.flat h2
  have e:(v :: vs').flatMap (fun u=>u.cells.toList) = v :: vs'.flatMap fun u=>u.cells.toList:=by
   have h1':zaz w t v f1:=h1.1
   simp [h1'.one]
  exact ⟨t1 ++ tp',v,_,f1,f2,t1,tp',e,rfl,rfl,h1,h2⟩
 | (false,.one t) :: ds,_,_,_,h=>by
  obtain ⟨v,vs',rfl,h1,h2⟩:=h
  obtain ⟨tp',h2⟩:=zau.flat h2
  have e:(v :: vs').flatMap (fun u=>u.cells.toList) = v :: vs'.flatMap fun u=>u.cells.toList:=by
   have h1':zar w A t v:=h1
   simp [h1'.cells1]
  exact ⟨tp',v,_,e,h1,h2⟩
 | (true,.agg ts) :: ds,_,_,_,h=>by
  obtain ⟨v,vs',f1,f2,t1,t2,rfl,rfl,rfl,⟨a,rfl,h1⟩,h2⟩:=h
  obtain ⟨tp',h2⟩:=zau.flat h2
  refine ⟨t1 ++ tp',?_⟩
  show zau w A (bxA (ts.map (fun t=>(true,t)) ++ zbg ds)) (a ++ vs'.flatMap fun u=>u.cells.toList) _ _
  rw [zhn]
  exact zau.append h1.ones h2
 | (false,.agg ts) :: ds,_,_,_,h=>by
  obtain ⟨v,vs',rfl,⟨a,rfl,h1⟩,h2⟩:=h
  obtain ⟨tp',h2⟩:=zau.flat h2
  refine ⟨[] ++ tp',?_⟩
  show zau w A (bxA (ts.map (fun t=>(false,t)) ++ zbg ds)) (a ++ vs'.flatMap fun u=>u.cells.toList) _ _
  rw [zhn]
  exact zau.append h1.ones h2
def mC1 (d j:Nat):Bool × T->C
 | (true,t)=>owC d j t
 | (false,t)=>t.toN
def mC (d:Nat):Nat->List (Bool × T)->List C
 | _,[]=>[]
 | j,p :: ts=>mC1 d j p :: mC d (j + 1) ts
def mE (d:Nat):Nat->List (Bool × T)->(Nat->Option Ev)->(Nat->Option Ev)
 | _,[],f=>f
 | j,(true,t) :: ts,f=>mE d (j + 1) ts (zvm d j f t)
 | j,(false,_) :: ts,f=>mE d (j + 1) ts f
def mF (d:Nat):Nat->List (Bool × T)->(Nat->Option Ev)->Prop
 | _,[],_=>True
 | j,(true,t) :: ts,f=>qif d j f t /\ mF d (j + 1) ts (zvm d j f t)
 | j,(false,_) :: ts,f=>mF d (j + 1) ts f
def mD (d:Nat):Nat->List (Bool × D)->List V
 | _,[]=>[]
 | j,(b,.one t) :: ds=>.one (mC1 d j (b,t)) :: mD d (j + 1) ds
 | j,(b,.agg ts) :: ds=>.agg (mC d j (ts.map fun t=>(b,t))) :: mD d (j + ts.length) ds
theorem zrm (d:Nat):∀ (ts:List (Bool × T)) (j:Nat),(mC d j ts).length = ts.length
 | [],_=>rfl
 | t :: ts,j=>by simp [mC,zrm d ts]
theorem zgz (d:Nat):∀ (t1 t2:List (Bool × T)) (j:Nat),mC d j (t1 ++ t2) = mC d j t1 ++ mC d (j + t1.length) t2
 | [],_,_=>by simp [mC]
 | t :: ts,t2,j=>by simp only [Kw,mC,zgz d ts t2 (j + 1),Qm]; rw [show j + 1 + ts.length = j + (ts.length + 1) by omega]
theorem zru (d:Nat):∀ (ds:List (Bool × D)) (j:Nat),∀ x ∈ mD d j ds,x.isTup = false
 | [],_,x,hx=>by simp [mD] at hx
 | (_,.one t) :: ds,j,x,hx=>by
  simp only [mD,Qu] at hx
  rcases hx with rfl | hx
  ·rfl
  ·exact zru d ds _ x hx
 | (_,.agg ts) :: ds,j,x,hx=>by
  simp only [mD,Qu] at hx
  rcases hx with rfl | hx
  ·rfl
  ·exact zru d ds _ x hx
theorem New.mix {τ:St} {g:Gh} {NB:Nat->Prop} {w':World} {A:Nat->Prop} (d:Nat):∀ (ts:List (Bool × T)) (vs:List Value) (fp tp:List Nat) (j:Nat) (ev':Nat->Option Ev) (g':Gh) (F:List Nat),New τ g NB w' ev' g' F->mF d j ts ev'->zau w' A (bxA ts) vs fp tp->fp.Nodup->(∀ b ∈ fp,NB b /\ b ∉ F) →
  ∃ g'',New τ g NB w' (mE d j ts ev') g'' (F ++ fp) /\ (∀ e,ev' e ≠ none->mE d j ts ev' e = ev' e /\ g''.ψ e = g'.ψ e) /\ ∀ (σ':St) (w'':World),σ'.ev = mE d j ts ev'->(∀ t v,zar w' A t v->zar w'' (zcj σ' g'' w'') t v)->CRs σ' g'' w'' (mC d j ts) vs
 | [],vs,fp,tp,j,ev',g',F,hN,hf,ho,hd,hb=>by
  obtain ⟨rfl,rfl,rfl⟩:=ho
  exact ⟨g',by simpa [mE] using hN,fun e _=>⟨rfl,rfl⟩,fun _ _ _ _=>rfl⟩
 | (false,t) :: ts,vs,fp,tp,j,ev',g',F,hN,hf,ho,hd,hb=>by
  obtain ⟨v,vs',rfl,h1,h2⟩:=ho
  obtain ⟨g'',k1,k2,k3⟩:=New.mix d ts vs' fp tp (j + 1) ev' g' F hN hf h2 hd hb
  exact ⟨g'',k1,k2,fun σ' w'' hσ hr=>⟨v,vs',rfl,qfd (hr t v h1),k3 σ' w'' hσ hr⟩⟩
 | (true,t) :: ts,vs,fp,tp,j,ev',g',F,hN,hf,ho,hd,hb=>by
  obtain ⟨v,vs',f1,f2,t1,t2,rfl,rfl,rfl,⟨h1,_⟩,h2⟩:=ho
  obtain ⟨hf1,hf2⟩:=hf
  obtain ⟨hd1,hd2,hd3⟩:=Q8.1 hd
  have h1:zaz w' t v f1:=h1
  by_cases hfl:t.flat = true
  ·have hz:f1 = [] /\ owC d j t = .t t /\ zvm d j ev' t = ev' /\ ∀ (σ':St) (g'':Gh) (w'':World),CR σ' g'' w'' (.t t) v:=by
    cases t <;> simp only [T.flat,Qo] at hfl
    ·unfold zaz at h1; exact ⟨h1.2.2.2,rfl,rfl,fun _ _ _=>by simp only [CR,zar]; exact ⟨h1.1,h1.2.1,h1.2.2.1⟩⟩
    ·unfold zaz at h1; exact ⟨h1.2,rfl,rfl,fun _ _ _=>by simp only [CR,zar]; exact h1.1⟩
    ·unfold zaz at h1; exact ⟨h1.2.2,rfl,rfl,fun _ _ _=>by simp only [CR,zar]; exact ⟨h1.1,h1.2.1⟩⟩
    ·unfold zaz at h1; exact ⟨h1.2,rfl,rfl,fun _ _ _=>by simp only [CR,zar]; exact h1.1⟩
   obtain ⟨rfl,c2,c3,c4⟩:=hz
   rw [c3] at hf2
   obtain ⟨g'',k1,k2,k3⟩:=New.mix d ts vs' f2 t2 (j + 1) ev' g' F hN hf2 h2 hd2 (fun b hb'=>hb b (by simp [hb']))
   refine ⟨g'',by simpa [mE,c3] using k1,fun e he=>by simpa [mE,c3] using k2 e he,fun σ' w'' hσ hr=>⟨v,vs',rfl,?_,k3 σ' w'' (by simpa [mE,c3] using hσ) hr⟩⟩
   show CR σ' g'' w'' (owC d j t) v
   rw [c2]; exact c4 _ _ _
  ·cases t <;> simp only [T.flat,Qo,J6,not_true] at hfl
   ·rename_i sz rows
    have hi':ev' (d * 32 + j) = none:=hf1
    have hi:τ.ev (d * 32 + j) = none:=by
     cases hx:τ.ev (d * 32 + j) with
     | none=>rfl
     | some x=>have:=(hN.old (d * 32 + j) (by rw [hx]; simp)).1; rw [hi',hx] at this; cases this
    have hadd:=hN.add hi hi' h1 (fun b hb'=>(hb b (by simp [hb'])).1) hd1 (fun b hb'=>(hb b (by simp [hb'])).2)
    obtain ⟨g'',k1,k2,k3⟩:=New.mix d ts vs' f2 t2 (j + 1) _ _ _ hadd hf2 h2 hd2 (fun b hb'=>⟨(hb b (by simp [hb'])).1,by
      have:=(hb b (by simp [hb'])).2
      simp only [Qt,not_or]
      exact ⟨this,fun hf=>hd3 b hf b hb' rfl⟩⟩)
    refine ⟨g'',by simpa [mE,zvm] using k1,fun e he=>?_,fun σ' w'' hσ hr=>⟨v,vs',rfl,?_,k3 σ' w'' hσ hr⟩⟩
    ·have hne:e ≠ d * 32 + j:=fun h=>he (h ▸ hi')
     have:=k2 e (by rw [zam _ _ hne]; exact he)
     simp only [zam _ _ hne] at this
     exact this
    ·have:=k2 (d * 32 + j) (by rw [zag]; simp)
     simp only [zag] at this
     exact ⟨by rw [this.2],_,by rw [hσ]; exact this.1,Ka _⟩
   ·unfold zaz at h1; exact h1.elim
   ·unfold zaz at h1; exact h1.elim
   ·unfold zaz at h1; exact h1.elim
   ·exact (show False from hf1).elim
theorem zuj {σ:St} {g:Gh} {w w1:World} {A:Nat->Prop} (d:Nat):∀ {ds:List (Bool × D)} {us:List Value} {fp tp:List Nat} (j:Nat),zau w1 A ds us fp tp->CRs σ g w (mC d j (zbg ds)) (us.flatMap fun u=>u.cells.toList)->VRl σ g w (mD d j ds) us
 | [],us,fp,tp,j,h,_=>h.1
 | (true,.one t) :: ds,us,fp,tp,j,h,k=>by
  obtain ⟨v,vs',f1,f2,t1,t2,rfl,rfl,rfl,h1,h2⟩:=h
  have hv:zaz w1 t v f1:=h1.1
  simp only [K9,hv.one,zbg,mC] at k
  obtain ⟨u,us',e,k1,k2⟩:=k
  simp only [Kw,Kl,J4] at e
  obtain ⟨rfl,rfl⟩:=e
  exact ⟨v,vs',rfl,k1,zuj d (j + 1) h2 k2⟩
 | (false,.one t) :: ds,us,fp,tp,j,h,k=>by
  obtain ⟨v,vs',rfl,h1,h2⟩:=h
  have hv:zar w1 A t v:=h1
  simp only [K9,hv.cells1,zbg,mC] at k
  obtain ⟨u,us',e,k1,k2⟩:=k
  simp only [Kw,Kl,J4] at e
  obtain ⟨rfl,rfl⟩:=e
  exact ⟨v,vs',rfl,k1,zuj d (j + 1) h2 k2⟩
 | (true,.agg ts) :: ds,us,fp,tp,j,h,k=>by
  obtain ⟨v,vs',f1,f2,t1,t2,rfl,rfl,rfl,⟨x,rfl,h1⟩,h2⟩:=h
  simp only [K9,Value.cells,zbg,zgz] at k
  obtain ⟨v1,v2,e,k1,k2⟩:=k.split
  have hl:x.length = v1.length:=by rw [k1.len,zrm,Qb]; exact za2.len (za2.of_g h1)
  obtain ⟨e1,e2⟩:=Jx e hl
  subst e1 e2
  rw [Qb] at k2
  exact ⟨_,vs',rfl,⟨x,rfl,k1⟩,zuj d (j + ts.length) h2 k2⟩
 | (false,.agg ts) :: ds,us,fp,tp,j,h,k=>by
  obtain ⟨v,vs',rfl,⟨x,rfl,h1⟩,h2⟩:=h
  simp only [K9,Value.cells,zbg,zgz] at k
  obtain ⟨v1,v2,e,k1,k2⟩:=k.split
  have hl:x.length = v1.length:=by rw [k1.len,zrm,Qb]; exact h1.len
  obtain ⟨e1,e2⟩:=Jx e hl
  subst e1 e2
  rw [Qb] at k2
  exact ⟨_,vs',rfl,⟨x,rfl,k1⟩,zuj d (j + ts.length) h2 k2⟩
theorem zfz {σ:St} {g:Gh} {w:World} {n0:Nat->Prop} {N:Nat} {a:Act} (hR:Rel n0 N σ g a w) {B:Sr->List Nat} (hB:Fam w σ g B) {K:List Sr->Prop}:∀ {xs:List V} {ds:List (Bool × D)} {u:List Sr} {ps:List (Nat × Nat × Nat)} {vs:List Value},gvA σ K u ps xs ds->VRl σ g w xs vs →
  ∃ s,K (s.reverse ++ u) /\ (∃ tp,zau w (zcj σ g w) ds vs (bks B s) tp) /\ (∀ x ∈ s,σ.On x.1) /\ (u.Pairwise okP->(s.reverse ++ u).Pairwise okP)
 | [],[],u,ps,vs,h,hv=>⟨[],h,⟨[],hv,rfl,rfl⟩,by simp,fun h=>h⟩
 | [],_ :: _,_,_,_,h,_=>h.elim
 | x :: xs,[],_,_,_,h,_=>by cases x <;> exact h.elim
 | x :: xs,(false,d) :: ds,u,ps,vs,h,hv=>by
  obtain ⟨v,vs',rfl,h1,h2⟩:=hv
  unfold gvA at h
  obtain ⟨hr,h⟩:=h
  obtain ⟨s,k1,⟨tp,k2⟩,k3,k4⟩:=zfz hR hB h h2
  exact ⟨s,k1,⟨tp,v,vs',rfl,qm3 hr h1,k2⟩,k3,k4⟩
 | .one c :: xs,(true,.one t) :: ds,u,ps,vs,h,hv=>by
  obtain ⟨v,vs',rfl,h1,h2⟩:=hv
  unfold gvA at h
  obtain ⟨s,ps',tp,k1,k2,k3,k4⟩:=zdg hR hB h (vs:=[v]) ⟨v,[],rfl,h1,rfl⟩
  obtain ⟨s',j1,⟨tp',j2⟩,j3,j4⟩:=zfz hR hB k1 h2
  obtain ⟨v0,vs0,f1,f2,t2,e0,e1,rfl,q1,q2⟩:=k2
  cases e0
  obtain ⟨_,rfl,rfl⟩:=q2
  rw [Kd] at e1
  refine ⟨s ++ s',by simpa using j1,⟨zkj t f1 ++ tp',v,vs',bks B s,bks B s',_,tp',rfl,by unfold bks; rw [List.flatMap_append],rfl,⟨by rw [e1]; exact q1,by rw [e1]⟩,j2⟩,fun x hx=>?_,fun hu=>by simpa using j4 (k4 hu)⟩
  rcases Qt.1 hx with hx | hx
  ·exact k3 x hx
  ·exact j3 x hx
 | .agg cs :: xs,(true,.agg ts) :: ds,u,ps,vs,h,hv=>by
  obtain ⟨v,vs',rfl,⟨y,rfl,h1⟩,h2⟩:=hv
  unfold gvA at h
  obtain ⟨s,ps',tp,k1,k2,k3,k4⟩:=zdg hR hB h h1
  obtain ⟨s',j1,⟨tp',j2⟩,j3,j4⟩:=zfz hR hB k1 h2
  refine ⟨s ++ s',by simpa using j1,⟨tp ++ tp',_,vs',bks B s,bks B s',tp,tp',rfl,by unfold bks; rw [List.flatMap_append],rfl,⟨y,rfl,k2⟩,j2⟩,fun x hx=>?_,fun hu=>by simpa using j4 (k4 hu)⟩
  rcases Qt.1 hx with hx | hx
  ·exact k3 x hx
  ·exact j3 x hx
 | .one _ :: _,(true,.agg _) :: _,_,_,_,h,_=>h.elim
 | .agg _ :: _,(true,.one _) :: _,_,_,_,h,_=>h.elim
 | .tup _ :: _,(true,d) :: _,_,_,_,h,_=>by cases d <;> exact h.elim
def XC (P:Program) (f:FuncId) (args res:List (Bool × D)):Prop:=za7 P f /\ ∀ (w:World) (vs:List Value) (fp tp:List Nat) (A:Nat->Prop),zau w (fun k=>(k < w.heap.size /\ k ∉ fp) /\ A k) args vs fp tp->fp.Nodup →
 Calls P f ⟨vs⟩ w fun e w'=>∃ us fp' tp',e = .returned (zb5 us) /\ zau w' (fun k=>(k < w'.heap.size /\ k ∉ fp') /\ (A k \/ w.heap.size <= k \/ k ∈ fp)) res us fp' tp' /\ fp'.Nodup /\ (∀ b ∈ fp',b ∈ fp \/ w.heap.size <= b) /\ Bk (fun k=>k < w.heap.size /\ k ∉ fp) w w'
def PM0 (P:Program) (rs:List ResultVar) (res:List (Bool × D)) (pl:List (Nat × Nat × Nat)) (σ:St):Prop:=zat (zb4 P σ rs) fun vs=>gvA σ (fun _=>True) [] pl vs res
def PM (P:Program) (rs:List ResultVar) (res:List (Bool × D)) (e:Exit) (σ:St):Prop:=match e with
 | .normal=>PM0 P rs res [] σ \/ ∃ pl,PM0 P rs res pl σ
 | .ret=>PM0 P rs res [] σ \/ ∃ pl,PM0 P rs res pl σ
 | _=>False
theorem zvo {args:List (Bool × D)} {w:World} {vs:List Value} {fp tp:List Nat} {N:Nat} {g:Gh} {a:Act} {B:Nat->Prop} (hv:zau w B args vs fp tp) (hR:Rel (fun b=>b < w.heap.size /\ b ∉ fp) N (zea args) g a w)
  (ht:a.tmps = (⟨vs⟩:Array Value) ++ Array.replicate (N - vs.length) undef) (hB:∀ b,B b->(b < w.heap.size /\ b ∉ fp) /\ g.A0 b):Rel (fun b=>b < w.heap.size /\ b ∉ fp) N (zd7 args) g a w:=by
 have hm:Mv (zea args) (zd7 args) g g w w:=Mv.of_eq g w rfl rfl
 refine hR.slots_of (σ':=zd7 args) rfl rfl hR.defers hR.size fun i=>?_
 refine (Mv.of_eq (σ:=zd7 args) (σ':=zea args) g w rfl rfl).vr (σ:=zd7 args) ?_
 have hi:=zm3 args 0 i
 rw [Q4] at hi
 show VR _ _ _ (ziq 0 args i) _
 rw [hi]
 cases hd:args[i]? with
 | none=>trivial
 | some p =>
  obtain ⟨b,d⟩:=p
  cases b with
  | true =>
   have h0:=hm.vr (hR.slots i)
   have hj:=zjd args 0 i
   rw [Q4,hd] at hj
   have h0':VR (zd7 args) g w (zh6 0 args i) (a.tmps.getD i (g.R0.ξ i)):=h0
   rw [hj] at h0'
   exact h0'
  | false =>
   obtain ⟨v,hv1,hv2⟩:=zau.atR hv i d hd
   have hlt:i < vs.length:=(List.getElem?_eq_some_iff.1 hv1).1
   have e:a.tmps.getD i (g.R0.ξ i) = v:=by
    rw [ht,Array.getD_eq_getD_getElem?,Array.getElem?_append_left (by simpa using hlt)]
    simp [hv1]
   rw [e]
   exact hm.vr (zr5 (fun b hb=>hR.frOld (hB b hb).1 (hB b hb).1.1 (hB b hb).2) hv2)
theorem qlv {f:FuncId} {fn:Func} {c:Code} {args res:List (Bool × D)} (hc:za7 P f) (hf:P.funcs[f]? = some fn) (hb:fn.body = some c) (hd:zbv fn.ntmps c = true) (hN:args.length <= fn.ntmps) (hs:zbq args)
  (h:ex P c [] (PM P fn.results.toList res) (zd7 args)):XC P f args res:=by
 refine ⟨hc,fun w vs fp tp A hv hn=>?_⟩
 refine calls_of_wp hf hb ?_
 have hv':zau w (fun b=>b < w.heap.size /\ A b /\ b ∉ fp) args vs fp tp:=zau.keepA (fun b hb=>⟨hb.1.1,hb.2,hb.1.2⟩) hv
 obtain ⟨g,hg,hR⟩:=Rel.start (A0:=fun b=>A b \/ w.heap.size <= b \/ b ∈ fp) (R0:=RP.of fun b=>b ∈ fp \/ w.heap.size <= b) (N:=fn.ntmps) hv' hn hs hN (fun _ h=>Or.inl h) (fun b hb=>⟨Or.inr (Or.inr hb),Or.inl hb⟩) (fun b hb=>by
  by_cases hlt:b < w.heap.size
  ·have hm:b ∈ fp:=Classical.byContradiction fun h=>hb ⟨hlt,h⟩
   exact ⟨Or.inr (Or.inr hm),Or.inl hm⟩
  ·exact ⟨Or.inr (Or.inl (by omega)),Or.inr (by omega)⟩)
 have hR0:=zvo hv' hR rfl (fun b hb=>⟨⟨hb.1,hb.2.2⟩,by rw [(Kt hg).1]; exact Or.inl hb.2.1⟩)
 refine wp_mono (zbs (w0:=w) c (zd7 args) _ hd h g _ w hR0 (fun k hk=>hk.1) (Bk.refl _ _) hg) fun e a' w' hq=>?_
 obtain ⟨σ',g',h1,h2,h3,h4,h5⟩:=hq
 have key:(∃ pl,PM0 P fn.results.toList res pl σ')->∃ v,(results fn a'.tmps).run P w' = .ok v w' /\ ∃ us fp' tp',Ending.returned v = .returned (zb5 us) /\ zau w' (fun k=>(k < w'.heap.size /\ k ∉ fp') /\ (A k \/ w.heap.size <= k \/ k ∈ fp)) res us fp' tp' /\ fp'.Nodup /\ (∀ b ∈ fp',b ∈ fp \/ w.heap.size <= b) /\ Bk (fun k=>k < w.heap.size /\ k ∉ fp) w w':=by
  rintro ⟨pl,hk⟩
  obtain ⟨vs,hvs,hk⟩:=zaq hk
  obtain ⟨us,r1,r2⟩:=zb3 h2 fn hvs
  obtain ⟨B,hB⟩:=h2.fam
  obtain ⟨s,k1,⟨tp',k2⟩,k3,k4⟩:=zfz h2 hB hk r2
  rw [Kd] at k4
  have hsp:s.Pairwise okP:=(Jr.1 (k4 List.Pairwise.nil)).imp fun h=>h.symm
  have hin:∀ b ∈ bks B s,∃ e,σ'.On e /\ b ∈ g'.φ e:=fun b hb=>by
   obtain ⟨x,hx,hm⟩:=Jk.1 hb
   exact ⟨x.1,k3 x hx,hB.sub x.1 x.2 b (k3 x hx) hm⟩
  have hA:∀ b,zcj σ' g' w' b->(b < w'.heap.size /\ b ∉ bks B s) /\ (A b \/ w.heap.size <= b \/ b ∈ fp):=fun b hb=>by
   refine ⟨⟨hb.1.2.2.1,fun hm=>?_⟩,?_⟩
   ·obtain ⟨e,ho,hm⟩:=hin b hm
    exact hb.2 e ho hm
   ·have:=hb.1.2.2.2
    rw [(Kt h5).1] at this
    exact this
  refine ⟨_,r1,us,bks B s,tp',rfl,zau.keepA hA k2,zen h2 hB k3 hsp,fun b hb=>?_,h4⟩
  obtain ⟨e,ho,hm⟩:=hin b hb
  have:=(h2.ebase e ho b hm).2
  rw [(Kt h5).2] at this
  exact this
 have key':∀ {Y:Prop},(PM0 P fn.results.toList res [] σ' \/ ∃ pl,PM0 P fn.results.toList res pl σ')->((∃ pl,PM0 P fn.results.toList res pl σ')->Y)->Y:=fun h k=>h.elim (fun h=>k ⟨[],h⟩) k
 cases e with
 | normal=>exact ⟨h2.defers,key' h1 key⟩
 | ret=>exact ⟨h2.defers,key' h1 key⟩
 | exit _=>exact h1.elim
 | goto _=>exact h1.elim
 | panic _=>exact h1.elim
 | outgrown=>exact h1.elim
def St.callX (σ:St) (d:Nat) (res:List (Bool × D)):St:={ sl:=upd σ.sl d (zm4 (mD d 0 res)),bx:=σ.bx,ev:=mE d 0 (zbg res) σ.ev }
theorem qcd {o:Oper} {σ τ:St} {x:Operand} {asx:Array Operand} {ts:Array TypeId} {f:FuncId} {cvs:List V} {d:Nat} {ds res:List (Bool × D)} {ps:List (Nat × Nat × Nat)} (ho:o.op = .call ⟨.value x,asx,ts⟩) (hd:o.dst = some d)
  (h:XC P f ds res) (hc:zaw (σ.get P 0 x) = some (f,cvs)) (hK:Kept σ τ) (hv:gvA σ (fun u=>∀ s ∈ u,τ.ev s.1 = none) [] ps (σ.gets P asx ts ++ cvs) ds) (hf:mF d 0 (zbg res) τ.ev):zah P o σ (τ.callX d res):=by
 intro n0 N g a w hR hn hdN
 obtain ⟨vs,h1,h2⟩:=zdf hR ho hc h.1
 unfold Oper.wp
 rw [h1]
 obtain ⟨B,hB⟩:=hR.fam
 obtain ⟨s,k1,⟨tp,k2⟩,k3,k4⟩:=zfz hR hB hv h2
 rw [Kd] at k1 k4
 have hsp:s.Pairwise okP:=(Jr.1 (k4 List.Pairwise.nil)).imp fun h=>h.symm
 have hnd:=zen hR hB k3 hsp
 have hfp:∀ b ∈ bks B s,∃ e,σ.On e /\ τ.ev e = none /\ b ∈ g.φ e:=fun b hb=>by
  obtain ⟨x,hx,hm⟩:=Jk.1 hb
  exact ⟨x.1,k3 x hx,k1 x (List.mem_reverse.2 hx),hB.sub x.1 x.2 b (k3 x hx) hm⟩
 have hfn:∀ b,zcj σ g w b->b ∉ bks B s:=fun b hb hm=>by obtain ⟨e,h1,_,h3⟩:=hfp b hm; exact hb.2 e h1 h3
 refine (h.2 w vs (bks B s) tp (zcj σ g w) (zau.keepA (fun b hb=>⟨⟨hb.1.2.2.1,hfn b hb⟩,hb⟩) k2) hnd).mono ?_
 rintro e w' ⟨us,fp',tp',rfl,o1,o2,o3,hbk⟩
 obtain ⟨tp2,o1'⟩:=o1.flat
 obtain ⟨g',q1,q2,q3⟩:=New.mix (τ:=τ) (g:=g) (NB:=fun b=>b ∈ bks B s \/ w.heap.size <= b) (w':=w') d (zbg res) _ fp' tp2 0 τ.ev g [] (New.refl _ _ _ _ hR.slc) hf o1' o2 (fun b hb'=>⟨o3 b hb',by simp⟩)
 have hR':=hR.given hn hK hfp hbk q1
 have hBk:Bk n0 w w':=⟨hbk.os,hbk.tape,hbk.output,hbk.size,fun k hk=>hbk.block k ⟨hn k hk,fun hm=>by
  obtain ⟨e,h1,_,h3⟩:=hfp k hm
  exact hR.etop e h1 k h3 hk⟩⟩
 have hfree:∀ k,((k < w'.heap.size /\ k ∉ fp') /\ (zcj σ g w k \/ w.heap.size <= k \/ k ∈ bks B s))->zcj ⟨τ.sl,τ.bx,mE d 0 (zbg res) τ.ev⟩ g' w' k:=fun k hk=>by
  have hOnσ:∀ e,τ.On e->σ.On e:=fun e ⟨x,hx,ho⟩=>⟨x,(hK.ev e x hx).1,ho⟩
  have hno:∀ e,St.On ⟨τ.sl,τ.bx,mE d 0 (zbg res) τ.ev⟩ e->k ∉ g'.φ e:=fun e ho' hm=>by
   by_cases hee:τ.ev e = none
   ·obtain ⟨x,hx,_⟩:=ho'
    have:=((q1.new e x hee hx).2.2.1 k hm).2
    rw [Kl] at this
    exact hk.1.2 this
   ·rw [(q1.old e hee).2.2] at hm
    obtain ⟨x,hx,hon⟩:=ho'
    have ho2:τ.On e:=⟨x,(q1.old e hee).1.symm.trans hx,hon⟩
    rcases hk.2 with h | h | h
    ·exact h.2 e (hOnσ e ho2) hm
    ·obtain ⟨y,hy,hyo⟩:=hOnσ e ho2
     have:=(hR.evs e y hy hyo).lt k hm; omega
    ·obtain ⟨e',h1,h2,h3⟩:=hfp k h
     refine hR.apart e e' (hOnσ e ho2) h1 (fun ee=>?_) k hm h3
     subst ee
     obtain ⟨y,hy,_⟩:=ho2
     rw [h2] at hy; cases hy
  have hbne:∀ b,τ.bx b ≠ none->σ.bx b ≠ none:=fun b hb=>by
   obtain ⟨cs,hcs⟩:=Kr.1 hb
   rw [(hK.bx b cs hcs).1]; simp
  refine ⟨⟨fun j hj e=>?_,fun e x hx hon hh=>hno e ⟨x,hx,hon⟩ (List.mem_of_mem_head? hh),hk.1.1,?_⟩,hno⟩
  ·have hj':=hbne j hj
   rw [q1.β] at e
   rcases hk.2 with h | h | h
   ·exact h.1.1 j hj' e
   ·have:=hR.lt hj'; omega
   ·obtain ⟨e',h1,_,h3⟩:=hfp k h
    exact hR.ebx e' j h1 hj' (e ▸ h3)
  ·rw [q1.A0]
   rcases hk.2 with h | h | h
   ·exact h.1.2.2.2
   ·exact (hR.anew k (hn.new h)).1
   ·obtain ⟨e',h1,_,h3⟩:=hfp k h
    exact (hR.ebase e' h1 k h3).1
 refine ⟨g',?_,hBk,q1.A0,q1.R0⟩
 have hp:=hR'.put (some d) (x:=zm4 (mD d 0 res)) (v:=zb5 us) (ze6 (zuj d 0 o1 (q3 _ _ rfl fun t v h=>zar.keep (fun _ _=>rfl) hfree t v h)) (zru d res 0)) (fun i hi=>by cases hi; exact hdN d hd)
 rw [hd]
 exact hp
section
variable {ks:List Fr} {Q:Exit->St->Prop} {σ:St} {ops:Array Oper} {os:List Oper} {ty:TypeId} {ps:String} {af:Array Edge} {d:Nat} {x:Operand} {asx:Array Operand} {ts:Array TypeId} {f:FuncId} {ds res:List (Bool × D)}
theorem callX (la l:List (Nat × V)) (ba bl:List (Nat × List C)) (ea el:List (Nat × Ev)) (pl:List (Nat × Nat × Nat)) (h:XC P f ds res)
  (hw:wkL σ (hd (la ++ l) (ba ++ bl) (ea ++ el)) (la ++ l) /\ wkB σ (hd (la ++ l) (ba ++ bl) (ea ++ el)) (ba ++ bl) /\ wkE σ (ea ++ el))
  (hk:zd6 l la /\ zd6 bl ba /\ zd6 el ea /\ okL (hd l bl el) l /\ okB (hd l bl el) bl /\ okE el)
  (hp:zat (zaw ((hd (la ++ l) (ba ++ bl) (ea ++ el)).get P 0 x)) fun p=>p.1 = f /\ gvA (hd (la ++ l) (ba ++ bl) (ea ++ el)) (zre el) [] pl ((hd (la ++ l) (ba ++ bl) (ea ++ el)).gets P asx ts ++ p.2) ds) (hf:mF d 0 (zbg res) (hd l bl el).ev)
  (k:exo P ops os ks Q ((hd l bl el).callX d res)):exo P ops (⟨some d,.call ⟨.value x,asx,ts⟩,ty,ps,af,none⟩ :: os) ks Q σ:=by
 obtain ⟨⟨f',cvs⟩,h1,rfl,h2⟩:=zaq hp
 obtain ⟨k1,k2,k3,k4,k5,k6⟩:=hk
 refine zc6 rfl rfl (zah.pre (zac hw) (qcd (P:=P) (o:=⟨some d,.call ⟨.value x,asx,ts⟩,ty,ps,af,none⟩) rfl rfl h h1 (τ:=hd l bl el) ⟨fun i=>?_,fun b cs hb=>⟨zmy k2 b cs hb,zo7 k5 b cs hb⟩,fun e x he=>⟨zmy k3 e x he,zqy k6 e x he⟩⟩ (zhm (fun u hu=>zil hu) h2) hf)) k
 rcases zqd k1 i with h | h
 ·exact Or.inl h
 ·exact Or.inr ⟨h,zou k4 i⟩
theorem zoj (L A:List Nat) (pl:List (Nat × Nat × Nat)) (h:XC P f ds res)
  (hw:wkL σ (hd (σ.lL A ++ σ.lL L) (σ.lB (dif (σ.KB L) (σ.KB A)) ++ σ.lB (σ.KB L)) (σ.lE (dif (σ.KE L) (σ.KE A)) ++ σ.lE (σ.KE L))) (σ.lL A ++ σ.lL L) /\ wkB σ (hd (σ.lL A ++ σ.lL L) (σ.lB (dif (σ.KB L) (σ.KB A)) ++ σ.lB (σ.KB L)) (σ.lE (dif (σ.KE L) (σ.KE A)) ++ σ.lE (σ.KE L))) (σ.lB (dif (σ.KB L) (σ.KB A)) ++ σ.lB (σ.KB L)) /\ wkE σ (σ.lE (dif (σ.KE L) (σ.KE A)) ++ σ.lE (σ.KE L)))
  (hk:zd6 (σ.lL L) (σ.lL A) /\ zd6 (σ.lB (σ.KB L)) (σ.lB (dif (σ.KB L) (σ.KB A))) /\ zd6 (σ.lE (σ.KE L)) (σ.lE (dif (σ.KE L) (σ.KE A))) /\ okL (σ.hL L) (σ.lL L) /\ okB (σ.hL L) (σ.lB (σ.KB L)) /\ okE (σ.lE (σ.KE L)))
  (hp:zat (zaw ((hd (σ.lL A ++ σ.lL L) (σ.lB (dif (σ.KB L) (σ.KB A)) ++ σ.lB (σ.KB L)) (σ.lE (dif (σ.KE L) (σ.KE A)) ++ σ.lE (σ.KE L))).get P 0 x)) fun p=>p.1 = f /\ gvA (hd (σ.lL A ++ σ.lL L) (σ.lB (dif (σ.KB L) (σ.KB A)) ++ σ.lB (σ.KB L)) (σ.lE (dif (σ.KE L) (σ.KE A)) ++ σ.lE (σ.KE L))) (zre (σ.lE (σ.KE L))) [] pl ((hd (σ.lL A ++ σ.lL L) (σ.lB (dif (σ.KB L) (σ.KB A)) ++ σ.lB (σ.KB L)) (σ.lE (dif (σ.KE L) (σ.KE A)) ++ σ.lE (σ.KE L))).gets P asx ts ++ p.2) ds)
  (hf:mF d 0 (zbg res) (σ.hL L).ev) (k:exo P ops os ks Q ((σ.hL L).callX d res)):exo P ops (⟨some d,.call ⟨.value x,asx,ts⟩,ty,ps,af,none⟩ :: os) ks Q σ :=
 callX (σ.lL A) (σ.lL L) _ _ _ _ pl h hw hk hp hf k
end
attribute [go_sem] zbg mC1 mC mE mF mD St.callX PM PM0 zvm qif
end Go.Proofs.YtliiapbmkcbfaaaGreat
namespace Go.Proofs.YtliiapbmkcbfaaaGreat
set_option linter.unusedSimpArgs false
set_option linter.unusedVariables false
set_option linter.unusedSectionVars false
set_option maxRecDepth 4000
open Go.RowKit
variable {P:Program}
def C.fz (e:Nat) (x:Ev):C->C
 | .ow e' g=>if e' = e then (if g = x.gen then .rn (.sl x.sz x.rows) else .any) else .ow e' g
 | .eo e' g sz i o=>if e' = e then .any else .eo e' g sz i o
 | c=>c
def fzS (f:Nat->V) (e:Nat) (x:Ev):Nat->V:=fun i=>(f i).map (C.fz e x)
def fzB (f:Nat->Option (List C)) (e:Nat) (x:Ev):Nat->Option (List C):=fun b=>(f b).map fun cs=>cs.map (C.fz e x)
def fzE (f:Nat->Option Ev) (e:Nat):Nat->Option Ev:=fun k=>if k = e then none else f k
theorem fzS_at (f:Nat->V) (e:Nat) (x:Ev) (i:Nat):fzS f e x i = (f i).map (C.fz e x):=rfl
theorem zyw (f:Nat->Option (List C)) (e:Nat) (x:Ev) (b:Nat):fzB f e x b = (f b).map fun cs=>cs.map (C.fz e x):=rfl
theorem fzE_at (f:Nat->Option Ev) (e k:Nat):fzE f e k = if k = e then none else f k:=rfl
def St.fz (σ:St) (e:Nat) (x:Ev):St:=⟨fzS σ.sl e x,fzB σ.bx e x,fzE σ.ev e⟩
theorem fz_wk {σ:St} {e:Nat} {x:Ev} (hx:σ.ev e = some x) (hd:x.deep = true) (ho:x.on = true):Wk σ (σ.fz e x):=by
 intro n0 N g a w h
 have hev:∀ e',e' ≠ e->(σ.fz e x).ev e' = σ.ev e':=fun e' he=>by show (if e' = e then none else σ.ev e') = _; rw [if_neg he]
 have hee:(σ.fz e x).ev e = none:=by show (if e = e then none else σ.ev e) = _; rw [if_pos rfl]
 have hsome:∀ e' z,(σ.fz e x).ev e' = some z->e' ≠ e /\ σ.ev e' = some z:=fun e' z hz=>by
  by_cases he:e' = e
  ·subst he; rw [hee] at hz; cases hz
  ·exact ⟨he,by rw [<-hev e' he]; exact hz⟩
 have hon:∀ e',(σ.fz e x).On e'->e' ≠ e /\ σ.On e':=fun e' ⟨z,hz,h1⟩=>⟨(hsome e' z hz).1,z,(hsome e' z hz).2,h1⟩
 have hbx:∀ b,(σ.fz e x).bx b ≠ none ↔ σ.bx b ≠ none:=fun b=>by unfold St.fz; simp [zyw]
 have hOn:σ.On e:=⟨x,hx,ho⟩
 have hf:∀ b,Fix σ g w b->Fix (σ.fz e x) g w b:=fun b hf=>⟨fun k hk=>hf.1 k ((hbx k).1 hk),fun e' z hz h1=>hf.2.1 e' z (hsome e' z hz).2 h1,hf.2.2⟩
 have hfr:∀ b,zcj σ g w b->zcj (σ.fz e x) g w b:=fun b hb=>⟨hf b hb.1,fun e' h'=>hb.2 e' (hon e' h').2⟩
 have hgone:∀ b ∈ g.φ e,b < w.heap.size->zcj (σ.fz e x) g w b:=fun b hb hl=>by
  have hne:∀ e',(σ.fz e x).On e'->b ∉ g.φ e':=fun e' he' hm=>h.apart e e' hOn (hon e' he').2 (Ne.symm (hon e' he').1) b hb hm
  exact ⟨⟨fun j hj hjb=>h.ebx e j hOn ((hbx j).1 hj) (by rw [hjb]; exact hb),fun e' z hz h1 hh=>hne e' ⟨z,hz,h1⟩ (List.mem_of_mem_head? hh),hl,(h.ebase e hOn b hb).1⟩,hne⟩
 have hhas:∀ e' n,e' ≠ e->σ.has e' n->(σ.fz e x).has e' n:=fun e' n he ⟨z,hz,h1⟩=>⟨z,by rw [hev e' he]; exact hz,h1⟩
 have cr:∀ c v,CR σ g w c v->CR (σ.fz e x) g w (c.fz e x) v:=fun c v hc=>by
  cases c with
  | t y=>exact zar.keep (fun _ _=>rfl) hf y v hc
  | nl s=>exact hc
  | ow e' n =>
   show CR _ _ _ (if e' = e then (if n = x.gen then .rn (.sl x.sz x.rows) else .any) else .ow e' n) v
   by_cases he:e' = e
   ·subst he
    rw [if_pos rfl]
    by_cases hn:n = x.gen
    ·rw [if_pos hn]
     subst hn
     obtain ⟨ao,cap,e1,e2,e3,e4⟩:=h.evs _ x hx ho
     rw [<-hc.1] at e1
     show zar _ _ _ _
     unfold zar
     refine ⟨ao,cap,e1,e2,e3,?_⟩
     rcases e4 with ⟨_,_,e4,_⟩ | ⟨b,cells,ty,fps,k1,k2,k3,k4,k5⟩
     ·exact Or.inl e4
     ·rw [if_pos hd] at k5
      have hl:∀ b' ∈ fps,b' < w.heap.size:=zak.lt cells 0 x.sz x.rows fps k5
      exact Or.inr ⟨b,0,k1,hgone b (by rw [k2]; simp) (Array.getElem?_eq_some_iff.1 k3).1,zak.rep b cells ty k3 0 x.sz x.rows fps k5 fun b' hb'=>hgone b' (by rw [k2]; simp [hb']) (hl b' hb')⟩
    ·rw [if_neg hn]; trivial
   ·rw [if_neg he]; exact ⟨hc.1,hhas e' n he hc.2⟩
  | bx b o=>exact ⟨hc.1,(hbx b).2 hc.2⟩
  | el cs o=>obtain ⟨b,q,h1,h2,h3⟩:=hc; exact ⟨b,q,h1,hf b h2,zbk.keep (fun _ _=>rfl) hf b rfl q cs h3⟩
  | eo e' s sz i o =>
   show CR _ _ _ (if e' = e then .any else .eo e' s sz i o) v
   by_cases he:e' = e
   ·rw [if_pos he]; trivial
   ·rw [if_neg he]; obtain ⟨b,n,c,h1,h2,h3,h4⟩:=hc; exact ⟨b,n,c,h1,h2,h3,hhas e' s he h4⟩
  | fn f caps=>exact ⟨hc.1,fun b hb=>(hbx b).2 (hc.2 b hb)⟩
  | cv u=>exact hc
  | any=>trivial
  | rn y=>exact zar.keep (fun _ _=>rfl) hfr y v hc
  | er cs o=>obtain ⟨b,q,h1,h2,h3⟩:=hc; exact ⟨b,q,h1,hfr b h2,zbk.keep (fun _ _=>rfl) hfr b rfl q cs h3⟩
 refine ⟨g,⟨h.defers,h.size,h.anew,fun i=>VR.map cr (h.slots i),fun b cs hb=>?_,fun b hb=>h.base b ((hbx b).1 hb),fun b b' h1 h2=>h.inj b b' ((hbx b).1 h1) ((hbx b').1 h2),fun e' z hz h1=>?_,fun e' z hz h1=>?_,h.slc,fun e' h1=>h.ebase e' (hon e' h1).2,fun e' h1=>h.etop e' (hon e' h1).2,fun e' h1=>h.nodup e' (hon e' h1).2,fun e1 e2 h1 h2=>h.apart e1 e2 (hon e1 h1).2 (hon e2 h2).2,fun e' k h1 h2=>h.ebx e' k (hon e' h1).2 ((hbx k).1 h2)⟩,rfl,rfl⟩
 ·cases hc:σ.bx b with
  | none=>unfold St.fz at hb; simp only [zyw,hc,J3] at hb; cases hb
  | some cs0 =>
   unfold St.fz at hb
   simp only [zyw,hc,Kj,Qc] at hb
   subst hb
   obtain ⟨vs,ty,k1,k2⟩:=h.boxes b cs0 hc
   exact ⟨vs,ty,k1,CRs.map cr k2⟩
 ·obtain ⟨ao,cap,e1,e2,e3,e4⟩:=h.evs e' z (hsome e' z hz).2 h1
  refine ⟨ao,cap,e1,e2,e3,?_⟩
  rcases e4 with e4 | ⟨b,cells,ty,fps,k1,k2,k3,k4,k5⟩
  ·exact Or.inl e4
  ·refine Or.inr ⟨b,cells,ty,fps,k1,k2,k3,k4,?_⟩
   split at k5
   ·rw [if_pos ‹_›]; exact k5
   ·rw [if_neg ‹_›]; exact ⟨k5.1,zas.keep (fun _ _=>rfl) hf b rfl 0 z.sz z.rows k5.2⟩
 ·exact ⟨zar.keep (fun _ _=>rfl) hf _ _ (h.offs e' z (hsome e' z hz).2 h1).1,(h.offs e' z (hsome e' z hz).2 h1).2⟩
theorem zdu.pre {o:Oper} {σ σ':St} {K:St->Prop} (h:Wk σ σ') (k:zdu P o σ' K):zdu P o σ K:=fun n0 N g a w hR hn hd=>by
 obtain ⟨g1,h1,h2,h3⟩:=h n0 N g a w hR
 have:=k n0 N g1 a w h1 hn hd
 unfold Oper.wp at this ⊢
 revert this
 cases (execOp a.eval o).run P w <;> intro this <;> try exact this
 all_goals (revert this; rw [h2,h3]; exact id)
theorem zfb.pre {id:Nat} {ops:Array Oper} {σ σ':St} {K:St->Prop} (h:Wk σ σ') (k:zfb P id ops σ' K):zfb P id ops σ K:=fun n0 N g a w hR hn hd=>by
 obtain ⟨g1,h1,h2,h3⟩:=h n0 N g a w hR
 have:=k n0 N g1 a w h1 hn hd
 rw [h2,h3] at this
 exact this
section
variable {ks:List Fr} {Q:Exit->St->Prop} {σ:St} {ops:Array Oper} {os:List Oper} {o:Oper}
theorem qpo {σ':St} (h:Wk σ σ') (hg:o.guard = none) (hs:qaq o.op = true) (k:exo P ops (o :: os) ks Q σ'):exo P ops (o :: os) ks Q σ:=by
 unfold exo zb1 exG at k ⊢
 rw [hg] at k ⊢
 simp only at k ⊢
 unfold zcy zqe at k ⊢
 rw [if_pos (by rw [hs]; rfl)] at k ⊢
 exact k.pre h
theorem frzO (e:Nat) (hg:o.guard = none) (hs:qaq o.op = true) (k:zat (σ.ev e) fun x=>x.deep = true /\ x.on = true /\ exo P ops (o :: os) ks Q (σ.fz e x)):exo P ops (o :: os) ks Q σ:=by
 obtain ⟨x,hx,h1,h2,h3⟩:=zaq k
 exact qpo (fz_wk hx h1 h2) hg hs h3
theorem frzD (e:Nat) {i:Nat} (k:zat (σ.ev e) fun x=>x.deep = true /\ x.on = true /\ ex P (.region i ops true) ks Q (σ.fz e x)):ex P (.region i ops true) ks Q σ:=by
 obtain ⟨x,hx,h1,h2,h3⟩:=zaq k
 exact zfb.pre (fz_wk hx h1 h2) h3
end
attribute [go_sem] C.fz St.fz V.map fzS_at zyw fzE_at
end Go.Proofs.YtliiapbmkcbfaaaGreat
namespace Go.Proofs.YtliiapbmkcbfaaaGreat
theorem ag_3:zm9 Tryz.prog 3 = some false:=by kernel_rfl
theorem sz_3:zby Tryz.prog 3 = some 1:=by kernel_rfl
theorem in_3:qgi Tryz.prog 3 = some .i64:=by kernel_rfl
theorem ze_3:zde Tryz.prog 3 = some [.t (.int .i64 0)]:=by kernel_rfl
theorem ag_4:zm9 Tryz.prog 4 = some false:=by kernel_rfl
theorem sz_4:zby Tryz.prog 4 = some 1:=by kernel_rfl
theorem bo_4:qdf Tryz.prog 4 = true:=by kernel_rfl
theorem ze_4:zde Tryz.prog 4 = some [.t (.bool false)]:=by kernel_rfl
theorem sz_5:zby Tryz.prog 5 = some 1:=by kernel_rfl
theorem in_5:qgi Tryz.prog 5 = some .u8:=by kernel_rfl
theorem ze_5:zde Tryz.prog 5 = some [.t (.int .u8 0)]:=by kernel_rfl
theorem ag_9:zm9 Tryz.prog 9 = some false:=by kernel_rfl
theorem sz_9:zby Tryz.prog 9 = some 1:=by kernel_rfl
theorem in_9:qgi Tryz.prog 9 = none:=by kernel_rfl
theorem st_9:qhx Tryz.prog 9 = true:=by kernel_rfl
theorem ze_9:zde Tryz.prog 9 = some [.t (.str [])]:=by kernel_rfl
theorem ag_22:zm9 Tryz.prog 22 = some false:=by kernel_rfl
theorem sz_22:zby Tryz.prog 22 = some 1:=by kernel_rfl
theorem el_22:elT Tryz.prog 22 = some 24:=by kernel_rfl
theorem ag_24:zm9 Tryz.prog 24 = some true:=by kernel_rfl
theorem sz_24:zby Tryz.prog 24 = some 2:=by kernel_rfl
theorem qpb:zka Tryz.prog 24 0 = some (0,9):=by kernel_rfl
theorem qpf:zka Tryz.prog 24 1 = some (1,22):=by kernel_rfl
theorem ag_25:zm9 Tryz.prog 25 = some false:=by kernel_rfl
theorem sz_25:zby Tryz.prog 25 = some 1:=by kernel_rfl
theorem el_25:elT Tryz.prog 25 = some 27:=by kernel_rfl
theorem ag_27:zm9 Tryz.prog 27 = some true:=by kernel_rfl
theorem sz_27:zby Tryz.prog 27 = some 5:=by kernel_rfl
theorem qo0:zka Tryz.prog 27 0 = some (0,3):=by kernel_rfl
theorem qp4:zka Tryz.prog 27 1 = some (1,24):=by kernel_rfl
theorem qpw:zka Tryz.prog 27 2 = some (3,9):=by kernel_rfl
theorem qpt:zka Tryz.prog 27 3 = some (4,25):=by kernel_rfl
theorem el_28:elT Tryz.prog 28 = some 22:=by kernel_rfl
theorem nl_31:nlT Tryz.prog 31 = 2:=by kernel_rfl
theorem ag_31:zm9 Tryz.prog 31 = some false:=by kernel_rfl
theorem sz_31:zby Tryz.prog 31 = some 1:=by kernel_rfl
theorem el_31:elT Tryz.prog 31 = some 33:=by kernel_rfl
theorem zx7:zd9 Tryz.prog 33 = some 40:=by kernel_rfl
theorem ze_31:zde Tryz.prog 31 = some [.nl 2]:=by kernel_rfl
theorem ag_33:zm9 Tryz.prog 33 = some true:=by kernel_rfl
theorem sz_33:zby Tryz.prog 33 = some 2:=by kernel_rfl
theorem ze_33:zde Tryz.prog 33 = some [.t (.str []),.nl 2]:=by kernel_rfl
theorem pl_33:qhv Tryz.prog 33 = some [(0,1),(1,1)]:=by kernel_rfl
theorem qpe:zka Tryz.prog 33 0 = some (0,9):=by kernel_rfl
theorem qpj:zka Tryz.prog 33 1 = some (1,31):=by kernel_rfl
theorem nl_34:nlT Tryz.prog 34 = 5:=by kernel_rfl
theorem ag_34:zm9 Tryz.prog 34 = some false:=by kernel_rfl
theorem sz_34:zby Tryz.prog 34 = some 1:=by kernel_rfl
theorem el_34:elT Tryz.prog 34 = some 36:=by kernel_rfl
theorem zxx:zd9 Tryz.prog 36 = some 88:=by kernel_rfl
theorem ag_36:zm9 Tryz.prog 36 = some true:=by kernel_rfl
theorem sz_36:zby Tryz.prog 36 = some 5:=by kernel_rfl
theorem ze_36:zde Tryz.prog 36 = some [.t (.int .i64 0),.t (.str []),.nl 2,.t (.str []),.nl 5]:=by kernel_rfl
theorem pl_36:qhv Tryz.prog 36 = some [(0,1),(1,2),(3,1),(4,1)]:=by kernel_rfl
theorem qpa:zka Tryz.prog 36 0 = some (0,3):=by kernel_rfl
theorem qnh:zka Tryz.prog 36 1 = some (1,33):=by kernel_rfl
theorem qnw:zka Tryz.prog 36 2 = some (3,9):=by kernel_rfl
theorem qod:zka Tryz.prog 36 3 = some (4,34):=by kernel_rfl
theorem ag_37:zm9 Tryz.prog 37 = some false:=by kernel_rfl
theorem sz_37:zby Tryz.prog 37 = some 1:=by kernel_rfl
theorem el_37:elT Tryz.prog 37 = some 39:=by kernel_rfl
theorem zyl:zd9 Tryz.prog 39 = some 136:=by kernel_rfl
theorem ag_39:zm9 Tryz.prog 39 = some true:=by kernel_rfl
theorem sz_39:zby Tryz.prog 39 = some 7:=by kernel_rfl
theorem ze_39:zde Tryz.prog 39 = some [.t (.int .i64 0),.t (.str []),.nl 2,.t (.str []),.nl 5,.nl 2,.nl 7]:=by kernel_rfl
theorem pl_39:qhv Tryz.prog 39 = some [(0,5),(5,1),(6,1)]:=by kernel_rfl
theorem qqb:zka Tryz.prog 39 0 = some (0,36):=by kernel_rfl
theorem qor:zka Tryz.prog 39 1 = some (5,31):=by kernel_rfl
theorem qop:zka Tryz.prog 39 2 = some (6,37):=by kernel_rfl
theorem nl_43:nlT Tryz.prog 43 = 1:=by kernel_rfl
theorem el_43:elT Tryz.prog 43 = some 31:=by kernel_rfl
theorem zwk:zd9 Tryz.prog 31 = some 24:=by kernel_rfl
theorem el_59:elT Tryz.prog 59 = some 5:=by kernel_rfl
theorem us_59:u8S Tryz.prog 59 = true:=by kernel_rfl
theorem in_59:qgi Tryz.prog 59 = none:=by kernel_rfl
theorem nl_64:nlT Tryz.prog 64 = 1:=by kernel_rfl
theorem ag_64:zm9 Tryz.prog 64 = some false:=by kernel_rfl
theorem sz_64:zby Tryz.prog 64 = some 1:=by kernel_rfl
theorem el_64:elT Tryz.prog 64 = some 9:=by kernel_rfl
theorem qdo:zd9 Tryz.prog 9 = some 16:=by kernel_rfl
theorem ze_64:zde Tryz.prog 64 = some [.nl 1]:=by kernel_rfl
theorem ag_96:zm9 Tryz.prog 96 = some false:=by kernel_rfl
theorem el_96:elT Tryz.prog 96 = some 3:=by kernel_rfl
theorem ze_124:zde Tryz.prog 124 = some [.nl 1]:=by kernel_rfl
theorem pl_124:qhv Tryz.prog 124 = some [(0,1)]:=by kernel_rfl
theorem qh9:zka Tryz.prog 124 0 = some (0,64):=by kernel_rfl
theorem ag_143:zm9 Tryz.prog 143 = some false:=by kernel_rfl
theorem ag_184:zm9 Tryz.prog 184 = some false:=by kernel_rfl
theorem sz_184:zby Tryz.prog 184 = some 1:=by kernel_rfl
theorem qmv:elT Tryz.prog 184 = some 216:=by kernel_rfl
theorem zn6:zd9 Tryz.prog 216 = some 56:=by kernel_rfl
theorem ag_186:zm9 Tryz.prog 186 = some true:=by kernel_rfl
theorem sz_186:zby Tryz.prog 186 = some 1:=by kernel_rfl
theorem ze_186:zde Tryz.prog 186 = some [.nl 3]:=by kernel_rfl
theorem pl_186:qhv Tryz.prog 186 = some [(0,1)]:=by kernel_rfl
theorem qkk:zka Tryz.prog 186 0 = some (0,184):=by kernel_rfl
theorem in_198:qgi Tryz.prog 198 = some .u64:=by kernel_rfl
theorem ag_216:zm9 Tryz.prog 216 = some true:=by kernel_rfl
theorem qmw:zby Tryz.prog 216 = some 3:=by kernel_rfl
theorem qm0:zde Tryz.prog 216 = some [.t (.str []),.t (.str []),.nl 2]:=by kernel_rfl
theorem pl_216:qhv Tryz.prog 216 = some [(0,1),(1,2)]:=by kernel_rfl
theorem qjm:zka Tryz.prog 216 0 = some (0,9):=by kernel_rfl
theorem qi9:zka Tryz.prog 216 1 = some (1,33):=by kernel_rfl
theorem ap_31:apT Tryz.prog 31 2:=znm el_31 sz_33 zx7 (by decide) ze_33 rfl
theorem ap_34:apT Tryz.prog 34 5:=znm el_34 sz_36 zxx (by decide) ze_36 rfl
theorem ap_37:apT Tryz.prog 37 7:=znm el_37 sz_39 zyl (by decide) ze_39 rfl
theorem ap_43:apT Tryz.prog 43 1:=znm el_43 sz_31 zwk (by decide) ze_31 rfl
theorem ap_64:apT Tryz.prog 64 1:=znm el_64 sz_9 qdo (by decide) ze_9 rfl
theorem ap_184:apT Tryz.prog 184 3:=znm qmv qmw zn6 (by decide) qm0 rfl
attribute [go_sem] ag_3 sz_3 in_3 ze_3 ag_4 sz_4 bo_4 ze_4 sz_5 in_5 ze_5 ag_9 sz_9 in_9 st_9 ze_9 ag_22 sz_22 el_22 ag_24 sz_24 qpb qpf ag_25 sz_25 el_25 ag_27 sz_27 qo0 qp4 qpw qpt el_28 nl_31 ag_31 sz_31 el_31 zx7 ze_31 ag_33 sz_33 ze_33 pl_33 qpe qpj nl_34 ag_34 sz_34 el_34 zxx ag_36 sz_36 ze_36 pl_36 qpa qnh qnw qod ag_37 sz_37 el_37 zyl ag_39 sz_39 ze_39 pl_39 qqb qor qop nl_43 el_43 zwk el_59 us_59 in_59 nl_64 ag_64 sz_64 el_64 qdo ze_64 ag_96 el_96 ze_124 pl_124 qh9 ag_143 ag_184 sz_184 qmv zn6 ag_186 sz_186 ze_186 pl_186 qkk in_198 ag_216 qmw qm0 pl_216 qjm qi9 ap_31 ap_34 ap_37 ap_43 ap_64 ap_184
attribute [go_sem] Nat.reduceEqDiff reduceIte reduceCtorEq Nat.reduceAdd Nat.reduceMul Int.reduceLE Int.reduceNeg Int.reduceToNat Nat.reduceLeDiff Nat.reduceSub Nat.reduceLT Nat.le_refl Int.cast_ofNat_Int Int.reduceLT Int.reduceGT Int.reduceGE Int.reduceEq Int.reduceBEq Nat.reduceBEq Int.reduceBNe Int.reduceAdd Int.reduceSub gt_iff_lt ge_iff_le
end Go.Proofs.YtliiapbmkcbfaaaGreat
namespace Go.Proofs.YtliiapbmkcbfaaaGreat
set_option linter.unusedSimpArgs false
set_option linter.unusedVariables false
set_option linter.unusedSectionVars false
set_option maxRecDepth 4000
open Go.RowKit
abbrev Str:=List UInt8
inductive Tm where
 | mk (name:Str) (args:List Tm)
def Tm.name:Tm->Str | .mk n _=>n
def Tm.args:Tm->List Tm | .mk _ xs=>xs
theorem Tm.eta:∀ a:Tm,Tm.mk a.name a.args = a | .mk _ _=>rfl
mutual
theorem zbf {P:Tm->Prop} (h:∀ n xs,(∀ x ∈ xs,P x)->P (.mk n xs)):∀ a,P a
 | .mk n xs=>h n xs (qhk h xs)
theorem qhk {P:Tm->Prop} (h:∀ n xs,(∀ x ∈ xs,P x)->P (.mk n xs)):∀ xs:List Tm,∀ x ∈ xs,P x
 | [],x,hx=>absurd hx (by simp)
 | a :: xs,x,hx=>(Qu.1 hx).elim (fun e=>e ▸ zbf h a) (qhk h xs x)
end
mutual
def Tm.fold {α:Type} (f:Str->List Tm->List α->α):Tm->α
 | .mk n xs=>f n xs (Tm.folds f xs)
def Tm.folds {α:Type} (f:Str->List Tm->List α->α):List Tm->List α
 | []=>[]
 | a :: xs=>Tm.fold f a :: Tm.folds f xs
end
theorem Tm.folds_map {α:Type} (f:Str->List Tm->List α->α) (xs:List Tm):Tm.folds f xs = xs.map (Tm.fold f):=by
 induction xs with
 | nil=>rfl
 | cons a xs ih=>rw [Tm.folds,ih]; rfl
theorem Tm.fold_eq {α:Type} (f:Str->List Tm->List α->α) (a:Tm):Tm.fold f a = f a.name a.args (a.args.map (Tm.fold f)):=by
 cases a; rw [Tm.fold,Tm.folds_map]; rfl
inductive Fm where
 | mk (op:Int) (atom:Tm) (var:Str) (parts:List Fm)
def Fm.op:Fm->Int | .mk o _ _ _=>o
def Fm.atom:Fm->Tm | .mk _ a _ _=>a
def Fm.var:Fm->Str | .mk _ _ v _=>v
def Fm.parts:Fm->List Fm | .mk _ _ _ ps=>ps
theorem Fm.eta:∀ a:Fm,Fm.mk a.op a.atom a.var a.parts = a | .mk _ _ _ _=>rfl
mutual
theorem za8 {P:Fm->Prop} (h:∀ o a v ps,(∀ x ∈ ps,P x)->P (.mk o a v ps)):∀ f,P f
 | .mk o a v ps=>h o a v ps (qda h ps)
theorem qda {P:Fm->Prop} (h:∀ o a v ps,(∀ x ∈ ps,P x)->P (.mk o a v ps)):∀ xs:List Fm,∀ x ∈ xs,P x
 | [],x,hx=>absurd hx (by simp)
 | a :: xs,x,hx=>(Qu.1 hx).elim (fun e=>e ▸ za8 h a) (qda h xs x)
end
mutual
def Fm.fold {α:Type} (f:Int->Tm->Str->List Fm->List α->α):Fm->α
 | .mk o a v ps=>f o a v ps (Fm.folds f ps)
def Fm.folds {α:Type} (f:Int->Tm->Str->List Fm->List α->α):List Fm->List α
 | []=>[]
 | a :: xs=>Fm.fold f a :: Fm.folds f xs
end
theorem Fm.folds_map {α:Type} (f:Int->Tm->Str->List Fm->List α->α) (xs:List Fm):Fm.folds f xs = xs.map (Fm.fold f):=by
 induction xs with
 | nil=>rfl
 | cons a xs ih=>rw [Fm.folds,ih]; rfl
theorem Fm.fold_eq {α:Type} (f:Int->Tm->Str->List Fm->List α->α) (a:Fm):Fm.fold f a = f a.op a.atom a.var a.parts (a.parts.map (Fm.fold f)):=by
 cases a; rw [Fm.fold,Fm.folds_map]; rfl
def tmC:Tm->List T:=Tm.fold fun n _ rs=>[.str n,.sl 2 rs]
theorem zaa (a:Tm):tmC a = [.str a.name,.sl 2 (a.args.map tmC)]:=Tm.fold_eq _ a
def fmC:Fm->List T:=Fm.fold fun o a v _ rs=>[.int .i64 o,.str a.name,.sl 2 (a.args.map tmC),.str v,.sl 5 rs]
theorem zab (a:Fm):fmC a = [.int .i64 a.op,.str a.atom.name,.sl 2 (a.atom.args.map tmC),.str a.var,.sl 5 (a.parts.map fmC)]:=Fm.fold_eq _ a
theorem zdm (o:Int) (a:Tm) (v:Str) (ps:List Fm):fmC (.mk o a v ps) = [.int .i64 o,.str a.name,.sl 2 (a.args.map tmC),.str v,.sl 5 (ps.map fmC)]:=zab _
abbrev tmD (a:Tm):D:=.agg (tmC a)
abbrev fmD (a:Fm):D:=.agg (fmC a)
abbrev tmS (xs:List Tm):T:=.sl 2 (xs.map tmC)
abbrev fmS (xs:List Fm):T:=.sl 5 (xs.map fmC)
abbrev iD (n:Int):D:=.one (.int .i64 n)
abbrev bD (b:Bool):D:=.one (.bool b)
abbrev sD (s:Str):D:=.one (.str s)
theorem zad {α:Type} (f:α->List T) (xs:List α) (k:Nat) (h:k < xs.length):(xs.map f).getD k [] = f (xs[k]'h):=by simp [List.getD,h]
def Tm.wt:Tm->Nat:=Tm.fold fun n xs rs=>n.length + xs.length + rs.sum
theorem Tm.wt_eq (a:Tm):a.wt = a.name.length + a.args.length + (a.args.map Tm.wt).sum:=Tm.fold_eq _ a
def Fm.wt:Fm->Nat:=Fm.fold fun _ a v ps rs=>a.wt + v.length + ps.length + rs.sum
theorem Fm.wt_eq (a:Fm):a.wt = a.atom.wt + a.var.length + a.parts.length + (a.parts.map Fm.wt).sum:=Fm.fold_eq _ a
def zec (xs:List Tm):Nat:=xs.length + (xs.map Tm.wt).sum
def zsh (xs:List Fm):Nat:=xs.length + (xs.map Fm.wt).sum
def szR (w:Nat) (left:Int):Int:=if (w:Int) <= left then left - w else -1
def zq7 {α:Type} (f:α->Nat) (xs:List α) (k:Nat):Nat:=((xs.take k).map f).sum
theorem zfc {α:Type} (f:α->Nat) (xs:List α):zq7 f xs 0 = 0:=by simp [zq7]
theorem zll {α:Type} (f:α->Nat) (xs:List α) (k:Nat) (h:k < xs.length):zq7 f xs (k + 1) = zq7 f xs k + f xs[k]:=by
 unfold zq7
 rw [Qf h,Q0,List.sum_append]; simp
theorem zvs {α:Type} (f:α->Nat) (xs:List α) (k:Nat):zq7 f xs k <= (xs.map f).sum:=by
 unfold zq7
 conv=>rhs; rw [<-K7 k xs,Q0,List.sum_append]
 omega
theorem zpe {α:Type} (f:α->Nat) (xs:List α) (k:Nat) (h:xs.length <= k):zq7 f xs k = (xs.map f).sum:=by
 unfold zq7
 rw [Qk h]
theorem zbo {α:Type} (f:α->Nat) (xs:List α):∀ x ∈ xs,f x <= (xs.map f).sum:=by
 induction xs with
 | nil=>simp
 | cons a xs ih =>
  intro x hx
  rcases Qu.1 hx with rfl | hx
  ·simp
  ·have:=ih x hx; simp; omega
noncomputable def same {α:Type} (a b:α):Bool:=@decide (a = b) (Classical.propDecidable _)
theorem zbc {α:Type} {a b:α}:same a b = true ↔ a = b:=by simp [same]
theorem zc0 {α:Type} {a b:α}:same a b = false ↔ a ≠ b:=by simp [same]
theorem zbm {α:Type} (a:α):same a a = true:=by simp [same]
theorem zcv {α:Type} (a b:α) (xs ys:List α):same (a :: xs) (b :: ys) = (same a b && same xs ys):=by
 rw [Kk,Qa,zbc,zbc,zbc,J4]
theorem zf4 {α:Type}:same ([]:List α) [] = true:=zbm _
theorem zal {k:Nat} (h:k < 9223372036854775807):IntKind.i64.wrap ((k:Int) + 1) = ((k + 1:Nat):Int):=qcs h
theorem zj6 {w:Nat} {l:Int} (h0:0 <= l) (h:szR w l < 0):l < w:=by unfold szR at h; split at h <;> omega
theorem zg7 {w:Nat} {l:Int} (h:¬ szR w l < 0):(w:Int) <= l /\ szR w l = l - w:=by
 by_cases hh:(w:Int) <= l
 ·exact ⟨hh,if_pos hh⟩
 ·exact absurd (by rw [szR,if_neg hh]; omega) h
theorem zet {w:Nat} {l:Int} (h:l < w):szR w l = -1:=if_neg (by omega)
theorem zs5 {w:Nat} {l:Int} (h:(w:Int) <= l):szR w l = l - w:=if_pos h
theorem qgb {k:IntKind} {a b:Int} (h:a = b):T.int k a = T.int k b:=h ▸ rfl
theorem zg5 (A:List (List T)) (n k:Nat) (z ts:List T) (hA:A.length = k) (hk:k < n) (hz:ts.length = z.length):zfj (A ++ List.replicate (n - k) z) k 0 ts = A ++ [ts] ++ List.replicate (n - (k + 1)) z:=by
 subst hA
 have e:List.replicate (n - A.length) z = z :: List.replicate (n - (A.length + 1)) z:=by
  rw [show n - A.length = (n - (A.length + 1)) + 1 by omega]; rfl
 unfold zfj
 rw [e]
 simp [qdb _ _ hz]
end Go.Proofs.YtliiapbmkcbfaaaGreat
namespace Go.Proofs.YtliiapbmkcbfaaaGreat
set_option linter.unusedSimpArgs false
set_option linter.unusedVariables false
set_option linter.unusedSectionVars false
set_option maxRecDepth 4000
open Go.RowKit
theorem zd5.cons {P:Program} {t:TypeId} {ts:List TypeId} {xs:List PD} (h:zd5 P (t :: ts) xs) : ∃ x xs',xs = x :: xs' /\ zb0 P t x /\ zd5 P ts xs':=by
 cases xs with
 | nil=>rw [zd5] at h; cases h
 | cons x xs =>
  rw [zd5] at h
  obtain ⟨t',ts',e,h1,h2⟩:=h
  cases e
  exact ⟨x,xs,rfl,h1,h2⟩
theorem zd5.nil {P:Program} {xs:List PD} (h:zd5 P [] xs):xs = []:=by
 cases xs with
 | nil=>rfl
 | cons x xs =>
  rw [zd5] at h
  obtain ⟨t',ts',e,_⟩:=h
  cases e
theorem zs8 {Q:PD->Prop} (h:∀ d,(∀ d',SizeOf.sizeOf d' < SizeOf.sizeOf d->Q d')->Q d) (d:PD):Q d:=by
 have:∀ n (d:PD),SizeOf.sizeOf d < n->Q d:=by
  intro n
  induction n with
  | zero=>intro d hd; omega
  | succ n ih=>intro d hd; exact h d fun d' hd'=>ih d' (by omega)
 exact this _ d (Nat.lt_succ_self _)
theorem zff {α:Type} (c:α->List T):∀ (xs:List PD),(∀ x ∈ xs,∃ a,x.cells = c a)->∃ l:List α,PD.rows xs = l.map c
 | [],_=>⟨[],rfl⟩
 | x :: xs,h=>by
  obtain ⟨a,ha⟩:=h x (by simp)
  obtain ⟨l,hl⟩:=zff c xs fun y hy=>h y (by simp [hy])
  exact ⟨a :: l,by rw [PD.rows,ha,hl]; rfl⟩
theorem qcf:∀ d,zb0 Tryz.prog 24 d->∃ a:Tm,d.cells = tmC a :=
 zs8 fun d ih h=>by
  obtain ⟨fs,rfl,hf⟩:=h.st Tryz.underlying24
  have hf:zd5 Tryz.prog [9,22] fs:=hf
  obtain ⟨x1,r1,rfl,h1,hf⟩:=hf.cons
  obtain ⟨x2,r2,rfl,h2,hf⟩:=hf.cons
  obtain rfl:=hf.nil
  obtain ⟨n,rfl⟩:=h1.str Tryz.underlying9
  obtain ⟨xs,rfl,hx⟩:=h2.sl Tryz.underlying22
  obtain ⟨l,hl⟩:=zff tmC xs fun x hx'=>ih x (by have:=List.sizeOf_lt_of_mem hx'; simp; omega) (hx x hx')
  exact ⟨.mk n l,by
   rw [zaa,PD.cells,PD.flat,PD.flat,PD.flat,PD.cells,PD.cells,hl,show Tryz.prog.cellsOf 24 = 2 from by kernel_rfl]; rfl⟩
theorem qjh {d:PD} (h:zb0 Tryz.prog 22 d) : ∃ l:List Tm,d.cells = [tmS l]:=by
 obtain ⟨xs,rfl,hx⟩:=h.sl Tryz.underlying22
 obtain ⟨l,hl⟩:=zff tmC xs fun x hx'=>qcf x (hx x hx')
 exact ⟨l,by rw [PD.cells,hl,show Tryz.prog.cellsOf 24 = 2 from by kernel_rfl]⟩
theorem zzp:∀ d,zb0 Tryz.prog 27 d->∃ a:Fm,d.cells = fmC a :=
 zs8 fun d ih h=>by
  obtain ⟨fs,rfl,hf⟩:=h.st Tryz.underlying27
  have hf:zd5 Tryz.prog [3,24,9,25] fs:=hf
  obtain ⟨x1,r1,rfl,h1,hf⟩:=hf.cons
  obtain ⟨x2,r2,rfl,h2,hf⟩:=hf.cons
  obtain ⟨x3,r3,rfl,h3,hf⟩:=hf.cons
  obtain ⟨x4,r4,rfl,h4,hf⟩:=hf.cons
  obtain rfl:=hf.nil
  obtain ⟨o,rfl⟩:=h1.int Tryz.underlying3
  obtain ⟨a,ha⟩:=qcf _ h2
  obtain ⟨v,rfl⟩:=h3.str Tryz.underlying9
  obtain ⟨xs,rfl,hx⟩:=h4.sl Tryz.underlying25
  obtain ⟨l,hl⟩:=zff fmC xs fun x hx'=>ih x (by have:=List.sizeOf_lt_of_mem hx'; simp; omega) (hx x hx')
  exact ⟨.mk o a v l,by
   rw [zab,PD.cells,PD.flat,PD.flat,PD.flat,PD.flat,PD.flat,PD.cells,PD.cells,PD.cells,hl,ha,zaa,show Tryz.prog.cellsOf 27 = 5 from by kernel_rfl]; rfl⟩
end Go.Proofs.YtliiapbmkcbfaaaGreat
namespace Go.Proofs.YtliiapbmkcbfaaaGreat
set_option linter.unusedSimpArgs false
set_option linter.unusedVariables false
set_option linter.unusedSectionVars false
set_option maxRecDepth 4000
open Go.RowKit
set_option maxHeartbeats 400000 in
theorem znu (xs:List Tm) (H:∀ x ∈ xs,∀ l:Int,0 <= l->l <= 1048576->FC Tryz.prog 37 [tmD x,iD l] [iD (szR x.wt l)]) (l:Int) (h0:0 <= l) (h1:l <= 1048576) :
  FC Tryz.prog 39 [.one (tmS xs),iD l] [iD (szR (zec xs) l)]:=by
 refine zdi (fun hw=>?_) Tryz.call39
 have hl:xs.length <= 9223372036854775807:=by simpa [zgg,wfT] using hw.1.1
 refine zaj Tryz.call39 Tryz.func39 rfl (by kernel_rfl) (zax (by kernel_rfl)) ?_
 simp -implicitDefEqProofs only[go_sem,Tryz.results39]
 rw [zb2 (by omega) (by omega)]
 have hW:zec xs = xs.length + (xs.map Tm.wt).sum:=rfl
 refine ⟨fun h=>?_,fun h=>?_⟩
 ·rw [zet (by simp at h; omega)]
 ·have hlen:(xs.length:Int) <= l:=by simp at h; omega
  refine zae (fun k:Nat=>hd [(0,vT (tmS xs)),(1,vI (l - xs.length - zq7 Tm.wt xs k)),(5,vI k)] [] []) (fun k=>k <= xs.length /\ 0 <= l - xs.length - zq7 Tm.wt xs k) (fun k=>xs.length - k) 0 (zac ?_) ?_ ?_
  ·simp -implicitDefEqProofs only[go_sem]
   simp [zfc]
  ·simpa [zfc] using hlen
  ·intro k ⟨hk,hp⟩
   by_cases hlt:k < xs.length
   ·have hs:=zll Tm.wt xs k hlt
    have hs2:=zvs Tm.wt xs (k + 1)
    simp -implicitDefEqProofs only[go_sem,Qb,zad,hlt,zaa]
    refine callF (H xs[k] (Qe hlt) (l - xs.length - zq7 Tm.wt xs k) hp (by omega)) (by simp -implicitDefEqProofs only[go_sem,zaa]) ?_
    simp -implicitDefEqProofs only[go_sem,zaa]
    refine ⟨fun h=>?_,fun h=>?_⟩
    ·have:=zj6 hp (by simpa using h)
     rw [zet (by omega)]
    ·obtain ⟨h2,h3⟩:=zg7 (by simpa using h)
     rw [zal (by omega)]
     exact ⟨k + 1,⟨hlt,by omega⟩,by omega,zac (by simp -implicitDefEqProofs only[go_sem]; rw [h3]; congr 1; omega)⟩
   ·simp -implicitDefEqProofs only[go_sem,Qb,hlt]
    have hall:=zpe Tm.wt xs k (by omega)
    rw [hall,zs5 (by omega)]; congr 1; omega
set_option maxHeartbeats 400000 in
theorem znq (xs:List Tm) (H:∀ x ∈ xs,FC Tryz.prog 43 [tmD x] [tmD x]) (hs:xs.length <= 1048576) :
  FC Tryz.prog 45 [.one (tmS xs)] [.one (tmS xs)]:=by
 refine zdi (fun hw=>?_) Tryz.call45
 refine zaj Tryz.call45 Tryz.func45 rfl (by kernel_rfl) (zax (by kernel_rfl)) ?_
 simp -implicitDefEqProofs only[go_sem,Tryz.results45]
 refine qkn (by simp -implicitDefEqProofs only[go_sem]; omega) ?_
 simp -implicitDefEqProofs only[go_sem]
 refine zae (fun k:Nat=>hd [(0,vT (tmS xs)),(3,.one (.ow 224 0)),(4,vI k)] [] [(224,⟨true,2,(xs.take k).map tmC ++ List.replicate (xs.length - k) [T.str [],T.sl 2 []],0,true⟩)]) (fun k=>k <= xs.length) (fun k=>xs.length - k) 0 (zac ?_) ?_ ?_
 ·simp -implicitDefEqProofs only[go_sem]
  simp
 ·simp
 ·intro k hk
  by_cases hlt:k < xs.length
  ·have hlen:((xs.take k).map tmC ++ List.replicate (xs.length - k) [T.str [],T.sl 2 []]).length = xs.length:=by simp; omega
   have hlt2:k < k + (xs.length - k):=by omega
   simp -implicitDefEqProofs only[go_sem,Qb,zad,hlt,zaa]
   refine callF (H xs[k] (Qe hlt)) (by simp -implicitDefEqProofs only[go_sem,zaa,hlen,hlt,Qr,Qb,Qp,Kv,Jh hk,hlt2]) ?_
   simp -implicitDefEqProofs only[go_sem,zaa,hlen,hlt,Qr,Qb,Qp,Kv,Jh hk,hlt2]
   refine zgs (by simp -implicitDefEqProofs only[go_sem]; simp) ?_
   simp -implicitDefEqProofs only[go_sem]
   rw [zal (by omega)]
   refine ⟨k + 1,by omega,by omega,zac ?_⟩
   simp -implicitDefEqProofs only[go_sem]
   have hf:=zg5 ((xs.take k).map tmC) xs.length k [T.str [],T.sl 2 []] (tmC xs[k]) (by simp; omega) hlt (by simp [zaa])
   simp only [zaa] at hf
   rw [hf,Qf hlt,Q0,Q7]
   simp only [zaa]
  ·simp -implicitDefEqProofs only[go_sem,Qb,hlt]
   simp [Qk (show xs.length <= k by omega),show xs.length - k = 0 by omega]
set_option maxHeartbeats 400000 in
theorem zoh (xs ys:List Tm) (H:∀ x ∈ xs,∀ y,FC Tryz.prog 50 [tmD x,tmD y] [bD (same x y)]) :
  FC Tryz.prog 48 [.one (tmS xs),.one (tmS ys)] [bD (same xs ys)]:=by
 refine zdi (fun hw=>?_) Tryz.call48
 have hl:xs.length <= 9223372036854775807:=by simpa [zgg,wfT] using hw.1.1
 have hl2:ys.length <= 9223372036854775807:=by simpa [zgg,wfT] using hw.2.1.1
 refine zaj Tryz.call48 Tryz.func48 rfl (by kernel_rfl) (zax (by kernel_rfl)) ?_
 simp -implicitDefEqProofs only[go_sem,Tryz.results48]
 refine ⟨fun h=>?_,fun h=>?_⟩
 ·rw [zc0.2 (by rintro rfl; simp at h)]
 ·have hlen:xs.length = ys.length:=by simp at h; omega
  refine zae (fun k:Nat=>hd [(0,vT (tmS xs)),(1,vT (tmS ys)),(4,vB false),(5,vI k)] [] []) (fun k=>k <= xs.length /\ same xs ys = same (xs.drop k) (ys.drop k)) (fun k=>xs.length - k) 0 (zac ?_) ?_ ?_
  ·simp -implicitDefEqProofs only[go_sem]
  ·simp
  ·intro k ⟨hk,hr⟩
   by_cases hlt:k < xs.length
   ·have hk2:k < ys.length:=by omega
    simp -implicitDefEqProofs only[go_sem,Qb,hlt]
    refine drawn (by kernel_rfl) ?_
    simp -implicitDefEqProofs only[go_sem,Qb,zad,hlt,hk2,zaa]
    refine zao (H xs[k] (Qe hlt) ys[k]) (by simp -implicitDefEqProofs only[go_sem,zaa]) ?_
    simp -implicitDefEqProofs only[go_sem,zaa]
    refine ⟨by kernel_rfl,fun h=>?_,fun h=>?_⟩
    ·rw [hr,Qh hlt,Qh hk2,zcv,show same xs[k] ys[k] = false by simpa using h]; rfl
    ·rw [Qh hlt,Qh hk2,zcv,show same xs[k] ys[k] = true by simpa using h,Qn] at hr
     rw [zal (by omega)]
     exact ⟨k + 1,⟨by omega,hr⟩,by omega,zac (by simp -implicitDefEqProofs only[go_sem])⟩
   ·simp -implicitDefEqProofs only[go_sem,Qb,hlt]
    rw [hr,Qs (by omega),Qs (by omega),zf4]
set_option maxHeartbeats 400000 in
theorem qg9 (a:Tm) (H:∀ l:Int,0 <= l->l <= 1048576->FC Tryz.prog 39 [.one (tmS a.args),iD l] [iD (szR (zec a.args) l)]) (l:Int) (h0:0 <= l) (h1:l <= 1048576) :
  FC Tryz.prog 37 [tmD a,iD l] [iD (szR a.wt l)]:=by
 refine zdi (fun hw=>?_) Tryz.call37
 simp only [tmD,zaa] at hw ⊢
 have hW:=a.wt_eq
 have hls:a.name.length <= 9223372036854775807 /\ True:=by simp [zgg,wfT,zt5] at hw; simp [hw]
 refine zaj Tryz.call37 Tryz.func37 rfl (by kernel_rfl) (zax (by kernel_rfl)) ?_
 simp -implicitDefEqProofs only[go_sem,Tryz.results37]
 rw [zb2 (by omega) (by omega)]
 refine ⟨fun h1=>?_,fun h1=>?_⟩
 ·rw [zet (by simp at h1; have hu0:zec a.args = a.args.length + (a.args.map Tm.wt).sum:=rfl;  omega)]
 have k1:(a.name.length:Int) <= l:=by simp at h1; omega
 refine callF (H (l - (a.name.length:Int)) (by omega) (by omega)) (by simp -implicitDefEqProofs only[go_sem,zaa]) ?_
 simp -implicitDefEqProofs only[go_sem,zaa]
 refine ⟨fun h2=>?_,fun h2=>?_⟩
 ·have:=zj6 (by omega) (show szR (zec a.args) (l - (a.name.length:Int)) < 0 by simpa using h2)
  rw [zet (by have hu0:zec a.args = a.args.length + (a.args.map Tm.wt).sum:=rfl;  omega)]
 obtain ⟨k2,j2⟩:=zg7 (show ¬ szR (zec a.args) (l - (a.name.length:Int)) < 0 by simpa using h2)
 rw [show szR a.wt l = l - a.wt from zs5 (by have hu0:zec a.args = a.args.length + (a.args.map Tm.wt).sum:=rfl;  omega)]; exact qgb (by have hu0:zec a.args = a.args.length + (a.args.map Tm.wt).sum:=rfl;  omega)
set_option maxHeartbeats 400000 in
theorem qet (a:Tm) (H:FC Tryz.prog 45 [.one (tmS a.args)] [.one (tmS a.args)]) (hs:a.wt <= 1048576):FC Tryz.prog 43 [tmD a] [tmD a]:=by
 have hW:=a.wt_eq
 simp only [tmD,zaa]
 refine zaj Tryz.call43 Tryz.func43 rfl (by kernel_rfl) (zax (by kernel_rfl)) ?_
 simp -implicitDefEqProofs only[go_sem,Tryz.results43]
 refine callF (H) (by simp -implicitDefEqProofs only[go_sem,zaa]) ?_
 simp -implicitDefEqProofs only[go_sem,zaa]
set_option maxHeartbeats 400000 in
theorem qho (a b:Tm) (H:FC Tryz.prog 48 [.one (tmS a.args),.one (tmS b.args)] [bD (same a.args b.args)]):FC Tryz.prog 50 [tmD a,tmD b] [bD (same a b)]:=by
 simp only [tmD,zaa]
 refine zaj Tryz.call50 Tryz.func50 rfl (by kernel_rfl) (zax (by kernel_rfl)) ?_
 simp -implicitDefEqProofs only[go_sem,Tryz.results50]
 refine ⟨fun h1=>?_,fun h1=>?_⟩
 ·rw [zc0.2 (by rintro rfl; simp [zbm] at h1)]
 refine callF (H) (by simp -implicitDefEqProofs only[go_sem,zaa]) ?_
 simp -implicitDefEqProofs only[go_sem,zaa]
 refine ⟨fun h2=>?_,fun h2=>?_⟩
 ·rw [zc0.2 (by rintro rfl; simp [zbm] at h2)]
 rw [zbc.2 (by cases a; cases b; simp [zbc,Tm.name,Tm.args] at h1 h2 ⊢; simp [h1,h2])]
theorem zxd:∀ a:Tm,∀ l:Int,0 <= l->l <= 1048576->FC Tryz.prog 37 [tmD a,iD l] [iD (szR a.wt l)] :=
 zbf fun b0 xs ih l h0 h1=>qg9 (.mk b0 xs) (fun l h0 h1=>znu xs ih l h0 h1) l h0 h1
theorem qeo (xs:List Tm) (l:Int) (h0:0 <= l) (h1:l <= 1048576):FC Tryz.prog 39 [.one (tmS xs),iD l] [iD (szR (zec xs) l)]:=znu xs (fun x _=>zxd x) l h0 h1
theorem zxl:∀ a:Tm,a.wt <= 1048576->FC Tryz.prog 43 [tmD a] [tmD a]:=by
 refine zbf fun b0 xs ih hs=>?_
 have hW:=Tm.wt_eq (.mk b0 xs)
 simp only [Tm.name,Tm.args] at hW
 refine qet _ (znq xs (fun x hx=>ih x hx ?_) (by omega)) hs
 have:=zbo Tm.wt xs x hx
 omega
theorem qdr (xs:List Tm) (hs:zec xs <= 1048576):FC Tryz.prog 45 [.one (tmS xs)] [.one (tmS xs)] :=
 znq xs (fun x hx=>zxl x (by have:=zbo Tm.wt xs x hx; unfold zec at hs; omega)) (by unfold zec at hs; omega)
theorem zyg:∀ a b:Tm,FC Tryz.prog 50 [tmD a,tmD b] [bD (same a b)] :=
 zbf fun b0 xs ih b=>qho (.mk b0 xs) b (zoh xs b.args ih)
theorem zrx (xs ys:List Tm):FC Tryz.prog 48 [.one (tmS xs),.one (tmS ys)] [bD (same xs ys)]:=zoh xs ys fun x _=>zyg x
end Go.Proofs.YtliiapbmkcbfaaaGreat
namespace Go.Proofs.YtliiapbmkcbfaaaGreat
set_option linter.unusedSimpArgs false
set_option linter.unusedVariables false
set_option linter.unusedSectionVars false
set_option maxRecDepth 4000
open Go.RowKit
set_option maxHeartbeats 400000 in
theorem zp6 (xs:List Fm) (H:∀ x ∈ xs,∀ l:Int,0 <= l->l <= 1048576->FC Tryz.prog 7 [fmD x,iD l] [iD (szR x.wt l)]) (l:Int) (h0:0 <= l) (h1:l <= 1048576) :
  FC Tryz.prog 38 [.one (fmS xs),iD l] [iD (szR (zsh xs) l)]:=by
 refine zdi (fun hw=>?_) Tryz.call38
 have hl:xs.length <= 9223372036854775807:=by simpa [zgg,wfT] using hw.1.1
 refine zaj Tryz.call38 Tryz.func38 rfl (by kernel_rfl) (zax (by kernel_rfl)) ?_
 simp -implicitDefEqProofs only[go_sem,Tryz.results38]
 rw [zb2 (by omega) (by omega)]
 have hW:zsh xs = xs.length + (xs.map Fm.wt).sum:=rfl
 refine ⟨fun h=>?_,fun h=>?_⟩
 ·rw [zet (by simp at h; omega)]
 ·have hlen:(xs.length:Int) <= l:=by simp at h; omega
  refine zae (fun k:Nat=>hd [(0,vT (fmS xs)),(1,vI (l - xs.length - zq7 Fm.wt xs k)),(5,vI k)] [] []) (fun k=>k <= xs.length /\ 0 <= l - xs.length - zq7 Fm.wt xs k) (fun k=>xs.length - k) 0 (zac ?_) ?_ ?_
  ·simp -implicitDefEqProofs only[go_sem]
   simp [zfc]
  ·simpa [zfc] using hlen
  ·intro k ⟨hk,hp⟩
   by_cases hlt:k < xs.length
   ·have hs:=zll Fm.wt xs k hlt
    have hs2:=zvs Fm.wt xs (k + 1)
    simp -implicitDefEqProofs only[go_sem,Qb,zad,hlt,zab,zaa]
    refine callF (H xs[k] (Qe hlt) (l - xs.length - zq7 Fm.wt xs k) hp (by omega)) (by simp -implicitDefEqProofs only[go_sem,zab,zaa]) ?_
    simp -implicitDefEqProofs only[go_sem,zab,zaa]
    refine ⟨fun h=>?_,fun h=>?_⟩
    ·have:=zj6 hp (by simpa using h)
     rw [zet (by omega)]
    ·obtain ⟨h2,h3⟩:=zg7 (by simpa using h)
     rw [zal (by omega)]
     exact ⟨k + 1,⟨hlt,by omega⟩,by omega,zac (by simp -implicitDefEqProofs only[go_sem]; rw [h3]; congr 1; omega)⟩
   ·simp -implicitDefEqProofs only[go_sem,Qb,hlt]
    have hall:=zpe Fm.wt xs k (by omega)
    rw [hall,zs5 (by omega)]; congr 1; omega
set_option maxHeartbeats 400000 in
theorem zpy (xs:List Fm) (H:∀ x ∈ xs,FC Tryz.prog 10 [fmD x] [fmD x]) (hs:xs.length <= 1048576) :
  FC Tryz.prog 44 [.one (fmS xs)] [.one (fmS xs)]:=by
 refine zdi (fun hw=>?_) Tryz.call44
 refine zaj Tryz.call44 Tryz.func44 rfl (by kernel_rfl) (zax (by kernel_rfl)) ?_
 simp -implicitDefEqProofs only[go_sem,Tryz.results44]
 refine qkn (by simp -implicitDefEqProofs only[go_sem]; omega) ?_
 simp -implicitDefEqProofs only[go_sem]
 refine zae (fun k:Nat=>hd [(0,vT (fmS xs)),(3,.one (.ow 224 0)),(4,vI k)] [] [(224,⟨true,5,(xs.take k).map fmC ++ List.replicate (xs.length - k) [T.int .i64 0,T.str [],T.sl 2 [],T.str [],T.sl 5 []],0,true⟩)]) (fun k=>k <= xs.length) (fun k=>xs.length - k) 0 (zac ?_) ?_ ?_
 ·simp -implicitDefEqProofs only[go_sem]
  simp
 ·simp
 ·intro k hk
  by_cases hlt:k < xs.length
  ·have hlen:((xs.take k).map fmC ++ List.replicate (xs.length - k) [T.int .i64 0,T.str [],T.sl 2 [],T.str [],T.sl 5 []]).length = xs.length:=by simp; omega
   have hlt2:k < k + (xs.length - k):=by omega
   simp -implicitDefEqProofs only[go_sem,Qb,zad,hlt,zab,zaa]
   refine callF (H xs[k] (Qe hlt)) (by simp -implicitDefEqProofs only[go_sem,zab,zaa,hlen,hlt,Qr,Qb,Qp,Kv,Jh hk,hlt2]) ?_
   simp -implicitDefEqProofs only[go_sem,zab,zaa,hlen,hlt,Qr,Qb,Qp,Kv,Jh hk,hlt2]
   refine zgs (by simp -implicitDefEqProofs only[go_sem]; simp) ?_
   simp -implicitDefEqProofs only[go_sem]
   rw [zal (by omega)]
   refine ⟨k + 1,by omega,by omega,zac ?_⟩
   simp -implicitDefEqProofs only[go_sem]
   have hf:=zg5 ((xs.take k).map fmC) xs.length k [T.int .i64 0,T.str [],T.sl 2 [],T.str [],T.sl 5 []] (fmC xs[k]) (by simp; omega) hlt (by simp [zab,zaa])
   simp only [zab,zaa] at hf
   rw [hf,Qf hlt,Q0,Q7]
   simp only [zab,zaa]
  ·simp -implicitDefEqProofs only[go_sem,Qb,hlt]
   simp [Qk (show xs.length <= k by omega),show xs.length - k = 0 by omega]
set_option maxHeartbeats 400000 in
theorem zov (xs ys:List Fm) (H:∀ x ∈ xs,∀ y,FC Tryz.prog 14 [fmD x,fmD y] [bD (same x y)]) :
  FC Tryz.prog 51 [.one (fmS xs),.one (fmS ys)] [bD (same xs ys)]:=by
 refine zdi (fun hw=>?_) Tryz.call51
 have hl:xs.length <= 9223372036854775807:=by simpa [zgg,wfT] using hw.1.1
 have hl2:ys.length <= 9223372036854775807:=by simpa [zgg,wfT] using hw.2.1.1
 refine zaj Tryz.call51 Tryz.func51 rfl (by kernel_rfl) (zax (by kernel_rfl)) ?_
 simp -implicitDefEqProofs only[go_sem,Tryz.results51]
 refine ⟨fun h=>?_,fun h=>?_⟩
 ·rw [zc0.2 (by rintro rfl; simp at h)]
 ·have hlen:xs.length = ys.length:=by simp at h; omega
  refine zae (fun k:Nat=>hd [(0,vT (fmS xs)),(1,vT (fmS ys)),(4,vB false),(5,vI k)] [] []) (fun k=>k <= xs.length /\ same xs ys = same (xs.drop k) (ys.drop k)) (fun k=>xs.length - k) 0 (zac ?_) ?_ ?_
  ·simp -implicitDefEqProofs only[go_sem]
  ·simp
  ·intro k ⟨hk,hr⟩
   by_cases hlt:k < xs.length
   ·have hk2:k < ys.length:=by omega
    simp -implicitDefEqProofs only[go_sem,Qb,hlt]
    refine drawn (by kernel_rfl) ?_
    simp -implicitDefEqProofs only[go_sem,Qb,zad,hlt,hk2,zab,zaa]
    refine zao (H xs[k] (Qe hlt) ys[k]) (by simp -implicitDefEqProofs only[go_sem,zab,zaa]) ?_
    simp -implicitDefEqProofs only[go_sem,zab,zaa]
    refine ⟨by kernel_rfl,fun h=>?_,fun h=>?_⟩
    ·rw [hr,Qh hlt,Qh hk2,zcv,show same xs[k] ys[k] = false by simpa using h]; rfl
    ·rw [Qh hlt,Qh hk2,zcv,show same xs[k] ys[k] = true by simpa using h,Qn] at hr
     rw [zal (by omega)]
     exact ⟨k + 1,⟨by omega,hr⟩,by omega,zac (by simp -implicitDefEqProofs only[go_sem])⟩
   ·simp -implicitDefEqProofs only[go_sem,Qb,hlt]
    rw [hr,Qs (by omega),Qs (by omega),zf4]
set_option maxHeartbeats 400000 in
theorem ztg (a:Fm) (H:∀ l:Int,0 <= l->l <= 1048576->FC Tryz.prog 38 [.one (fmS a.parts),iD l] [iD (szR (zsh a.parts) l)]) (l:Int) (h0:0 <= l) (h1:l <= 1048576) :
  FC Tryz.prog 7 [fmD a,iD l] [iD (szR a.wt l)]:=by
 refine zdi (fun hw=>?_) Tryz.call7
 simp only [fmD,zab,zaa] at hw ⊢
 have hW:=a.wt_eq
 have hls:a.var.length <= 9223372036854775807 /\ True:=by simp [zgg,wfT,zt5] at hw; simp [hw]
 refine zaj Tryz.call7 Tryz.func7 rfl (by kernel_rfl) (zax (by kernel_rfl)) ?_
 simp -implicitDefEqProofs only[go_sem,Tryz.results7]
 refine callF (zxd a.atom l (by omega) (by omega)) (by simp -implicitDefEqProofs only[go_sem,zab,zaa,zaa]) ?_
 simp -implicitDefEqProofs only[go_sem,zab,zaa,zaa]
 refine ⟨fun h1=>?_,fun h1=>?_⟩
 ·have:=zj6 (by omega) (show szR a.atom.wt l < 0 by simpa using h1)
  rw [zet (by have hu0:zsh a.parts = a.parts.length + (a.parts.map Fm.wt).sum:=rfl;  omega)]
 obtain ⟨k1,j1⟩:=zg7 (show ¬ szR a.atom.wt l < 0 by simpa using h1)
 rw [zb2 (by omega) (by omega)]
 refine ⟨fun h2=>?_,fun h2=>?_⟩
 ·rw [zet (by simp at h2; have hu0:zsh a.parts = a.parts.length + (a.parts.map Fm.wt).sum:=rfl;  omega)]
 have k2:(a.var.length:Int) <= (szR a.atom.wt l):=by simp at h2; omega
 refine callF (H ((szR a.atom.wt l) - (a.var.length:Int)) (by omega) (by omega)) (by simp -implicitDefEqProofs only[go_sem,zab,zaa]) ?_
 simp -implicitDefEqProofs only[go_sem,zab,zaa]
 refine ⟨fun h3=>?_,fun h3=>?_⟩
 ·have:=zj6 (by omega) (show szR (zsh a.parts) ((szR a.atom.wt l) - (a.var.length:Int)) < 0 by simpa using h3)
  rw [zet (by have hu0:zsh a.parts = a.parts.length + (a.parts.map Fm.wt).sum:=rfl;  omega)]
 obtain ⟨k3,j3⟩:=zg7 (show ¬ szR (zsh a.parts) ((szR a.atom.wt l) - (a.var.length:Int)) < 0 by simpa using h3)
 rw [show szR a.wt l = l - a.wt from zs5 (by have hu0:zsh a.parts = a.parts.length + (a.parts.map Fm.wt).sum:=rfl;  omega)]; exact qgb (by have hu0:zsh a.parts = a.parts.length + (a.parts.map Fm.wt).sum:=rfl;  omega)
set_option maxHeartbeats 400000 in
theorem zrz (a:Fm) (H:FC Tryz.prog 44 [.one (fmS a.parts)] [.one (fmS a.parts)]) (hs:a.wt <= 1048576):FC Tryz.prog 10 [fmD a] [fmD a]:=by
 have hW:=a.wt_eq
 simp only [fmD,zab,zaa]
 refine zaj Tryz.call10 Tryz.func10 rfl (by kernel_rfl) (zax (by kernel_rfl)) ?_
 simp -implicitDefEqProofs only[go_sem,Tryz.results10]
 refine callF (zxl a.atom (by have hu0:zsh a.parts = a.parts.length + (a.parts.map Fm.wt).sum:=rfl;  omega)) (by simp -implicitDefEqProofs only[go_sem,zab,zaa,zaa]) ?_
 simp -implicitDefEqProofs only[go_sem,zab,zaa,zaa]
 refine callF (H) (by simp -implicitDefEqProofs only[go_sem,zab,zaa]) ?_
 simp -implicitDefEqProofs only[go_sem,zab,zaa]
set_option maxHeartbeats 400000 in
theorem zsd (a b:Fm) (H:FC Tryz.prog 51 [.one (fmS a.parts),.one (fmS b.parts)] [bD (same a.parts b.parts)]):FC Tryz.prog 14 [fmD a,fmD b] [bD (same a b)]:=by
 simp only [fmD,zab,zaa]
 refine zaj Tryz.call14 Tryz.func14 rfl (by kernel_rfl) (zax (by kernel_rfl)) ?_
 simp -implicitDefEqProofs only[go_sem,Tryz.results14]
 refine ⟨fun h1=>?_,fun h1=>?_⟩
 ·rw [zc0.2 (by rintro rfl; simp [zbm] at h1)]
 refine callF (zyg a.atom b.atom) (by simp -implicitDefEqProofs only[go_sem,zab,zaa,zaa]) ?_
 simp -implicitDefEqProofs only[go_sem,zab,zaa,zaa]
 refine ⟨fun h2=>?_,fun h2=>?_⟩
 ·rw [zc0.2 (by rintro rfl; simp [zbm] at h2)]
 refine ⟨fun h3=>?_,fun h3=>?_⟩
 ·rw [zc0.2 (by rintro rfl; simp [zbm] at h3)]
 refine callF (H) (by simp -implicitDefEqProofs only[go_sem,zab,zaa]) ?_
 simp -implicitDefEqProofs only[go_sem,zab,zaa]
 refine ⟨fun h4=>?_,fun h4=>?_⟩
 ·rw [zc0.2 (by rintro rfl; simp [zbm] at h4)]
 rw [zbc.2 (by cases a; cases b; simp [zbc,Fm.op,Fm.atom,Fm.var,Fm.parts] at h1 h2 h3 h4 ⊢; simp [h1,h2,h3,h4])]
theorem zu6:∀ a:Fm,∀ l:Int,0 <= l->l <= 1048576->FC Tryz.prog 7 [fmD a,iD l] [iD (szR a.wt l)] :=
 za8 fun b0 b1 b2 xs ih l h0 h1=>ztg (.mk b0 b1 b2 xs) (fun l h0 h1=>zp6 xs ih l h0 h1) l h0 h1
theorem zvb:∀ a:Fm,a.wt <= 1048576->FC Tryz.prog 10 [fmD a] [fmD a]:=by
 refine za8 fun b0 b1 b2 xs ih hs=>?_
 have hW:=Fm.wt_eq (.mk b0 b1 b2 xs)
 simp only [Fm.op,Fm.atom,Fm.var,Fm.parts] at hW
 refine zrz _ (zpy xs (fun x hx=>ih x hx ?_) (by omega)) hs
 have:=zbo Fm.wt xs x hx
 omega
theorem zm1:∀ a b:Fm,FC Tryz.prog 14 [fmD a,fmD b] [bD (same a b)] :=
 za8 fun b0 b1 b2 xs ih b=>zsd (.mk b0 b1 b2 xs) b (zov xs b.parts ih)
end Go.Proofs.YtliiapbmkcbfaaaGreat
namespace Go.Proofs.YtliiapbmkcbfaaaGreat
set_option linter.unusedSimpArgs false
set_option linter.unusedVariables false
set_option linter.unusedSectionVars false
set_option maxRecDepth 4000
open Go.RowKit
inductive Ex where
 | mk (form:Fm) (terms:List Tm) (parts:List Ex)
def Ex.form:Ex->Fm | .mk f _ _=>f
def Ex.terms:Ex->List Tm | .mk _ t _=>t
def Ex.parts:Ex->List Ex | .mk _ _ ps=>ps
theorem Ex.eta:∀ a:Ex,Ex.mk a.form a.terms a.parts = a | .mk _ _ _=>rfl
mutual
theorem zd8 {P:Ex->Prop} (h:∀ f t ps,(∀ x ∈ ps,P x)->P (.mk f t ps)):∀ e,P e
 | .mk f t ps=>h f t ps (qgl h ps)
theorem qgl {P:Ex->Prop} (h:∀ f t ps,(∀ x ∈ ps,P x)->P (.mk f t ps)):∀ xs:List Ex,∀ x ∈ xs,P x
 | [],x,hx=>absurd hx (by simp)
 | a :: xs,x,hx=>(Qu.1 hx).elim (fun e=>e ▸ zd8 h a) (qgl h xs x)
end
mutual
def Ex.fold {α:Type} (g:Fm->List Tm->List Ex->List α->α):Ex->α
 | .mk f t ps=>g f t ps (Ex.folds g ps)
def Ex.folds {α:Type} (g:Fm->List Tm->List Ex->List α->α):List Ex->List α
 | []=>[]
 | a :: xs=>Ex.fold g a :: Ex.folds g xs
end
theorem Ex.folds_map {α:Type} (g:Fm->List Tm->List Ex->List α->α) (xs:List Ex):Ex.folds g xs = xs.map (Ex.fold g):=by
 induction xs with
 | nil=>rfl
 | cons a xs ih=>rw [Ex.folds,ih]; rfl
theorem Ex.fold_eq {α:Type} (g:Fm->List Tm->List Ex->List α->α) (a:Ex):Ex.fold g a = g a.form a.terms a.parts (a.parts.map (Ex.fold g)):=by
 cases a; rw [Ex.fold,Ex.folds_map]; rfl
def exC:Ex->List T:=Ex.fold fun f t _ rs=>[.int .i64 f.op,.str f.atom.name,.sl 2 (f.atom.args.map tmC),.str f.var,.sl 5 (f.parts.map fmC),.sl 2 (t.map tmC),.sl 7 rs]
theorem zap (a:Ex):exC a = [.int .i64 a.form.op,.str a.form.atom.name,.sl 2 (a.form.atom.args.map tmC),.str a.form.var,.sl 5 (a.form.parts.map fmC),.sl 2 (a.terms.map tmC),.sl 7 (a.parts.map exC)]:=Ex.fold_eq _ a
theorem zxq (f:Fm) (t:List Tm) (ps:List Ex):exC (.mk f t ps) = [.int .i64 f.op,.str f.atom.name,.sl 2 (f.atom.args.map tmC),.str f.var,.sl 5 (f.parts.map fmC),.sl 2 (t.map tmC),.sl 7 (ps.map exC)]:=zap _
abbrev exD (a:Ex):D:=.agg (exC a)
abbrev exS (xs:List Ex):T:=.sl 7 (xs.map exC)
def Ex.wt:Ex->Nat:=Ex.fold fun f t ps rs=>f.wt + zec t + (ps.length + rs.sum)
theorem Ex.wt_eq (a:Ex):a.wt = a.form.wt + zec a.terms + (a.parts.length + (a.parts.map Ex.wt).sum):=Ex.fold_eq _ a
def exsW (xs:List Ex):Nat:=xs.length + (xs.map Ex.wt).sum
end Go.Proofs.YtliiapbmkcbfaaaGreat
namespace Go.Proofs.YtliiapbmkcbfaaaGreat
set_option linter.unusedSimpArgs false
set_option linter.unusedVariables false
set_option linter.unusedSectionVars false
set_option maxRecDepth 4000
open Go.RowKit
set_option maxHeartbeats 400000 in
theorem zmc (xs ys:List Ex) (H:∀ x ∈ xs,∀ y,FC Tryz.prog 13 [exD x,exD y] [bD (same x y)]) :
  FC Tryz.prog 49 [.one (exS xs),.one (exS ys)] [bD (same xs ys)]:=by
 refine zdi (fun hw=>?_) Tryz.call49
 have hl:xs.length <= 9223372036854775807:=by simpa [zgg,wfT] using hw.1.1
 have hl2:ys.length <= 9223372036854775807:=by simpa [zgg,wfT] using hw.2.1.1
 refine zaj Tryz.call49 Tryz.func49 rfl (by kernel_rfl) (zax (by kernel_rfl)) ?_
 simp -implicitDefEqProofs only[go_sem,Tryz.results49]
 refine ⟨fun h=>?_,fun h=>?_⟩
 ·rw [zc0.2 (by rintro rfl; simp at h)]
 ·have hlen:xs.length = ys.length:=by simp at h; omega
  refine zae (fun k:Nat=>hd [(0,vT (exS xs)),(1,vT (exS ys)),(4,vB false),(5,vI k)] [] []) (fun k=>k <= xs.length /\ same xs ys = same (xs.drop k) (ys.drop k)) (fun k=>xs.length - k) 0 (zac ?_) ?_ ?_
  ·simp -implicitDefEqProofs only[go_sem]
  ·simp
  ·intro k ⟨hk,hr⟩
   by_cases hlt:k < xs.length
   ·have hk2:k < ys.length:=by omega
    simp -implicitDefEqProofs only[go_sem,Qb,hlt]
    refine drawn (by kernel_rfl) ?_
    simp -implicitDefEqProofs only[go_sem,Qb,zad,hlt,hk2,zap,zab,zaa]
    refine zao (H xs[k] (Qe hlt) ys[k]) (by simp -implicitDefEqProofs only[go_sem,zap,zab,zaa]) ?_
    simp -implicitDefEqProofs only[go_sem,zap,zab,zaa]
    refine ⟨by kernel_rfl,fun h=>?_,fun h=>?_⟩
    ·rw [hr,Qh hlt,Qh hk2,zcv,show same xs[k] ys[k] = false by simpa using h]; rfl
    ·rw [Qh hlt,Qh hk2,zcv,show same xs[k] ys[k] = true by simpa using h,Qn] at hr
     rw [zal (by omega)]
     exact ⟨k + 1,⟨by omega,hr⟩,by omega,zac (by simp -implicitDefEqProofs only[go_sem])⟩
   ·simp -implicitDefEqProofs only[go_sem,Qb,hlt]
    rw [hr,Qs (by omega),Qs (by omega),zf4]
set_option maxHeartbeats 400000 in
theorem zna (a b:Ex) (H:FC Tryz.prog 49 [.one (exS a.parts),.one (exS b.parts)] [bD (same a.parts b.parts)]):FC Tryz.prog 13 [exD a,exD b] [bD (same a b)]:=by
 simp only [exD,zap,zab,zaa]
 refine zaj Tryz.call13 Tryz.func13 rfl (by kernel_rfl) (zax (by kernel_rfl)) ?_
 simp -implicitDefEqProofs only[go_sem,Tryz.results13]
 refine callF (zm1 a.form b.form) (by simp -implicitDefEqProofs only[go_sem,zap,zab,zaa,zab,zaa]) ?_
 simp -implicitDefEqProofs only[go_sem,zap,zab,zaa,zab,zaa]
 refine ⟨fun h1=>?_,fun h1=>?_⟩
 ·rw [zc0.2 (by rintro rfl; simp [zbm] at h1)]
 refine callF (zrx a.terms b.terms) (by simp -implicitDefEqProofs only[go_sem,zap,zab,zaa]) ?_
 simp -implicitDefEqProofs only[go_sem,zap,zab,zaa]
 refine ⟨fun h2=>?_,fun h2=>?_⟩
 ·rw [zc0.2 (by rintro rfl; simp [zbm] at h2)]
 refine callF (H) (by simp -implicitDefEqProofs only[go_sem,zap,zab,zaa]) ?_
 simp -implicitDefEqProofs only[go_sem,zap,zab,zaa]
 refine ⟨fun h3=>?_,fun h3=>?_⟩
 ·rw [zc0.2 (by rintro rfl; simp [zbm] at h3)]
 rw [zbc.2 (by cases a; cases b; simp [zbc,Ex.form,Ex.terms,Ex.parts] at h1 h2 h3 ⊢; simp [h1,h2,h3])]
theorem zpd:∀ a b:Ex,FC Tryz.prog 13 [exD a,exD b] [bD (same a b)] :=
 zd8 fun b0 b1 xs ih b=>zna (.mk b0 b1 xs) b (zmc xs b.parts ih)
end Go.Proofs.YtliiapbmkcbfaaaGreat
namespace Go.Proofs.YtliiapbmkcbfaaaGreat
set_option linter.unusedSimpArgs false
set_option linter.unusedVariables false
set_option linter.unusedSectionVars false
set_option maxRecDepth 4000
open Go.RowKit
def zgt (b:UInt8):Bool:=decide (97 <= (b.toNat:Int)) && decide ((b.toNat:Int) <= 122)
def qjf (b:UInt8):Bool:=decide (48 <= (b.toNat:Int)) && decide ((b.toNat:Int) <= 57)
def zlm (b:UInt8):Bool:=decide (65 <= (b.toNat:Int)) && decide ((b.toNat:Int) <= 90)
def zqo (b:UInt8):Bool:=zgt b || qjf b
abbrev uD (b:UInt8):D:=.one (.int .u8 b.toNat)
theorem zjl (b:UInt8):FC Tryz.prog 229 [uD b] [bD (zgt b)]:=by
 unfold zgt
 refine zaj Tryz.call229 Tryz.func229 rfl (by kernel_rfl) (zax (by kernel_rfl)) ?_
 simp -implicitDefEqProofs only[go_sem,Tryz.results229]
 refine ⟨fun h=>?_,fun h=>?_⟩ <;> simp at h ⊢ <;> omega
theorem zsp (b:UInt8):FC Tryz.prog 230 [uD b] [bD (qjf b)]:=by
 unfold qjf
 refine zaj Tryz.call230 Tryz.func230 rfl (by kernel_rfl) (zax (by kernel_rfl)) ?_
 simp -implicitDefEqProofs only[go_sem,Tryz.results230]
 refine ⟨fun h=>?_,fun h=>?_⟩ <;> simp at h ⊢ <;> omega
theorem zsf (b:UInt8):FC Tryz.prog 228 [uD b] [bD (zlm b)]:=by
 unfold zlm
 refine zaj Tryz.call228 Tryz.func228 rfl (by kernel_rfl) (zax (by kernel_rfl)) ?_
 simp -implicitDefEqProofs only[go_sem,Tryz.results228]
 refine ⟨fun h=>?_,fun h=>?_⟩ <;> simp at h ⊢ <;> omega
def inB (n lo hi:Int):Bool:=decide (lo <= n) && decide (n <= hi)
theorem zxf (n lo hi:Int):FC Tryz.prog 231 [iD n,iD lo,iD hi] [bD (inB n lo hi)]:=by
 unfold inB
 refine zaj Tryz.call231 Tryz.func231 rfl (by kernel_rfl) (zax (by kernel_rfl)) ?_
 simp -implicitDefEqProofs only[go_sem,Tryz.results231]
 refine ⟨fun h=>?_,fun h=>?_⟩ <;> simp at h ⊢ <;> omega
theorem ql4 (n lo hi:Int):FC Tryz.prog 223 [iD n,iD lo,iD hi] [bD (inB n lo hi)]:=by
 unfold inB
 refine zaj Tryz.call223 Tryz.func223 rfl (by kernel_rfl) (zax (by kernel_rfl)) ?_
 simp -implicitDefEqProofs only[go_sem,Tryz.results223]
 refine ⟨fun h=>?_,fun h=>?_⟩ <;> simp at h ⊢ <;> omega
theorem qiy (a b:Int):FC Tryz.prog 279 [iD a,iD b] [iD (max a b)]:=by
 refine zaj Tryz.call279 Tryz.func279 rfl (by kernel_rfl) (zax (by kernel_rfl)) ?_
 simp -implicitDefEqProofs only[go_sem,Tryz.results279]
 refine ⟨fun h=>?_,fun h=>?_⟩ <;> simp at h <;> exact qgb (by omega)
theorem zr1 (b:UInt8):FC Tryz.prog 224 [uD b] [bD (zqo b)]:=by
 unfold zqo zgt qjf
 refine zaj Tryz.call224 Tryz.func224 rfl (by kernel_rfl) (zax (by kernel_rfl)) ?_
 simp -implicitDefEqProofs only[go_sem,Tryz.results224]
 simp only [T.bool.injEq,Qg,Ko]
 refine ⟨fun h=>⟨fun h2=>⟨fun h3=>?_,fun h3=>?_⟩,fun h2=>?_⟩,fun h=>⟨fun h2=>?_,fun h2=>?_⟩⟩ <;> simp [h,h2] <;> omega
def zuy:Str->Bool
 | []=>true
 | c :: cs=>zlm c && cs.all zqo
def zay (s:Str):Bool:=zuy s && inB s.length 1 4
theorem ze4 (s:Str):FC Tryz.prog 186 [sD s] [bD (zay s)]:=by
 refine zdi (fun hw=>?_) Tryz.call186
 have hl:s.length <= 9223372036854775807:=by simpa [zgg,wfT] using hw.1
 refine zaj Tryz.call186 Tryz.func186 rfl (by kernel_rfl) (zax (by kernel_rfl)) ?_
 simp -implicitDefEqProofs only[go_sem,Tryz.results186]
 refine zae (fun k:Nat=>hd [(0,vT (.str s)),(5,vI s.length),(6,vI k)] [] []) (fun k=>k <= s.length /\ zuy s = if k = 0 then zuy s else (s.drop k).all zqo) (fun k=>s.length - k) 0 (zac ?_) ?_ ?_
 ·simp -implicitDefEqProofs only[go_sem]
 ·simp
 ·intro k ⟨hk,hr⟩
  by_cases hlt:k < s.length
  ·by_cases h0:k = 0
   ·subst h0
    have hl0:(0:Int) < s.length:=by omega
    have he:zuy s = (zlm (s.getD 0 0) && (s.drop 1).all zqo):=by cases s; exact absurd hlt (by simp); rfl
    simp -implicitDefEqProofs only[go_sem,hlt,hl0]
    refine callF (zsf (s.getD 0 0)) (by simp -implicitDefEqProofs only[go_sem]) ?_
    simp -implicitDefEqProofs only[go_sem]
    refine ⟨fun h=>⟨1,⟨hlt,?_⟩,by omega,zac (by simp -implicitDefEqProofs only[go_sem]; rw [zb2 (by omega) (by omega)])⟩,fun h=>?_⟩
    ·have:zlm (s.getD 0 0) = true:=by simpa using h
     rw [he,this]; rfl
    ·have:zlm (s.getD 0 0) = false:=by simpa using h
     rw [zay,he,this]; rfl
   ·have h1:((k:Int) == 0) = false:=by simp; omega
    have h2:(0:Int) < k:=by omega
    have hg:s.getD k 0 = s[k]:=by simp [List.getD,hlt]
    rw [if_neg h0,Qh hlt,Ks] at hr
    simp -implicitDefEqProofs only[go_sem,hlt,h1,h2]
    refine callF (zjl (s.getD k 0)) (by simp -implicitDefEqProofs only[go_sem]) ?_
    simp -implicitDefEqProofs only[go_sem]
    simp only [hg]
    refine ⟨fun h=>⟨hlt,?_⟩,fun h=>?_⟩
    ·refine callF (zsp s[k]) (by simp -implicitDefEqProofs only[go_sem]) ?_
     simp -implicitDefEqProofs only[go_sem]
     refine ⟨fun h'=>?_,fun h'=>⟨k + 1,⟨hlt,?_⟩,by omega,zac (by simp -implicitDefEqProofs only[go_sem]; rw [zal (by omega)])⟩⟩
     ·have:zqo s[k] = false:=by simp [zqo]; simp at h h'; exact ⟨h,h'⟩
      simp [zay,hr,this]
     ·have:zqo s[k] = true:=by simp [zqo]; right; simpa using h'
      rw [hr,this]; simp
    ·refine ⟨k + 1,⟨hlt,?_⟩,by omega,zac (by simp -implicitDefEqProofs only[go_sem]; rw [zal (by omega)])⟩
     have:zqo s[k] = true:=by simp [zqo]; left; simpa using h
     rw [hr,this]; simp
  ·simp -implicitDefEqProofs only[go_sem,hlt]
   refine callF (zxf s.length 1 4) (by simp -implicitDefEqProofs only[go_sem]) ?_
   simp -implicitDefEqProofs only[go_sem]
   have:zuy s = true:=by
    by_cases h0:k = 0
    ·have:s = []:=Qx.1 (by omega)
     rw [this]; rfl
    ·rw [hr,if_neg h0,Qs (by omega)]; rfl
   simp [zay,this]
end Go.Proofs.YtliiapbmkcbfaaaGreat
namespace Go.Proofs.YtliiapbmkcbfaaaGreat
set_option linter.unusedSimpArgs false
set_option linter.unusedVariables false
set_option linter.unusedSectionVars false
set_option maxRecDepth 4000
open Go.RowKit
abbrev zca (xs:List Str):T:=.sl 1 (xs.map fun s=>[.str s])
theorem zr3 {α:Type} [BEq α] [LawfulBEq α] {xs:List α} {s:α} {k:Nat} (hk:k < xs.length) (hn:s ∉ xs.take k) (e:xs[k] = s):xs.idxOf s = k:=by
 have h:xs = xs.take k ++ xs.drop k:=(K7 k xs).symm
 rw [Qh hk] at h
 rw [h,List.idxOf_append,if_neg hn,e]
 rw [show (s :: xs.drop (k + 1)).idxOf s = 0 from List.idxOf_cons_self ..]
 simp; omega
theorem zf1 {α:Type} {xs:List α} {s:α} {k:Nat} (hk:k < xs.length) (hn:s ∉ xs.take k) (e:xs[k] ≠ s):s ∉ xs.take (k + 1):=by
 rw [Qf hk]
 simp only [Qt,Q5,not_or]
 exact ⟨hn,fun h=>e h.symm⟩
def qm1 {α:Type} [BEq α] (xs:List α) (s:α):Int:=if xs.contains s then xs.idxOf s else -1
theorem zzs (xs:List Str) (s:Str):FC Tryz.prog 157 [.one (zca xs),sD s] [iD (qm1 xs s)]:=by
 refine zdi (fun hw=>?_) Tryz.call157
 have hl:xs.length <= 9223372036854775807:=by simpa [zgg,wfT] using hw.1.1
 refine zaj Tryz.call157 Tryz.func157 rfl (by kernel_rfl) (zax (by kernel_rfl)) ?_
 simp -implicitDefEqProofs only[go_sem,Tryz.results157]
 refine zae (fun k:Nat=>hd [(0,vT (zca xs)),(1,vT (.str s)),(7,vI xs.length),(8,vI k)] [] []) (fun k=>k <= xs.length /\ s ∉ xs.take k) (fun k=>xs.length - k) 0 (zac ?_) ?_ ?_
 ·simp -implicitDefEqProofs only[go_sem]
 ·simp
 ·intro k ⟨hk,hr⟩
  by_cases hlt:k < xs.length
  ·simp -implicitDefEqProofs only[go_sem,zad,hlt]
   refine ⟨fun h=>?_,fun h=>?_⟩
   ·have e:xs[k] = s:=(Ki.1 h).symm
    have hm:s ∈ xs:=e ▸ Qe hlt
    rw [qm1,if_pos (by simpa using hm),zr3 hlt hr e]
   ·have e:xs[k] ≠ s:=fun e=>by simp [e] at h
    exact ⟨k + 1,⟨hlt,zf1 hlt hr e⟩,by omega,zac (by simp -implicitDefEqProofs only[go_sem]; rw [zal (by omega)])⟩
  ·simp -implicitDefEqProofs only[go_sem,hlt]
   rw [Qk (by omega)] at hr
   rw [qm1,if_neg (by simpa using hr)]
theorem zcf (xs:List Str) (s:Str):FC Tryz.prog 84 [.one (zca xs),sD s] [bD (xs.contains s)]:=by
 refine zaj Tryz.call84 Tryz.func84 rfl (by kernel_rfl) (zax (by kernel_rfl)) ?_
 simp -implicitDefEqProofs only[go_sem,Tryz.results84]
 refine callF (zzs xs s) (by simp -implicitDefEqProofs only[go_sem]) ?_
 simp -implicitDefEqProofs only[go_sem]
 unfold qm1
 cases h:xs.contains s <;> simp
def zv0:List Str:=[[116,114,117,101],[102,97,108,115,101],[116,114,117,116,104],[98,111,116,104],[101,105,116,104,101,114],[105,102],[97,108,108],[115,111,109,101]]
theorem qae:FC Tryz.prog 272 [] [.one (zca zv0)]:=by
 refine zaj Tryz.call272 Tryz.func272 rfl (by kernel_rfl) (zax (by kernel_rfl)) ?_
 simp -implicitDefEqProofs only[go_sem,Tryz.results272]
 refine zbx (by simp -implicitDefEqProofs only[go_sem]) ?_
 simp -implicitDefEqProofs only[go_sem]
 rfl
def zpm (b:UInt8):Bool:=zqo b || b == 95
def zm5:Str->Bool
 | []=>true
 | c :: cs=>zgt c && cs.all zpm
def zc4 (s:Str):Bool:=zm5 s && inB s.length 1 6 && !zv0.contains s
theorem qn5 {b:UInt8} {n:Nat} (hn:n < 256):((b.toNat:Int) == (n:Int)) = (b == UInt8.ofNat n):=by
 rw [Kk]
 simp only [Ki]
 constructor
 ·intro h
  apply UInt8.toNat_inj.1
  simp [UInt8.toNat_ofNat]
  omega
 ·intro h
  subst h
  simp [UInt8.toNat_ofNat]
  omega
theorem zor (s:Str):FC Tryz.prog 247 [sD s] [bD (zc4 s)]:=by
 refine zdi (fun hw=>?_) Tryz.call247
 have hl:s.length <= 9223372036854775807:=by simpa [zgg,wfT] using hw.1
 refine zaj Tryz.call247 Tryz.func247 rfl (by kernel_rfl) (zax (by kernel_rfl)) ?_
 simp -implicitDefEqProofs only[go_sem,Tryz.results247]
 refine zae (fun k:Nat=>hd [(0,vT (.str s)),(5,vI s.length),(6,vI k)] [] []) (fun k=>k <= s.length /\ zm5 s = if k = 0 then zm5 s else (s.drop k).all zpm) (fun k=>s.length - k) 0 (zac ?_) ?_ ?_
 ·simp -implicitDefEqProofs only[go_sem]
 ·simp
 ·intro k ⟨hk,hr⟩
  by_cases hlt:k < s.length
  ·by_cases h0:k = 0
   ·subst h0
    have hl0:(0:Int) < s.length:=by omega
    have he:zm5 s = (zgt (s.getD 0 0) && (s.drop 1).all zpm):=by cases s; exact absurd hlt (by simp); rfl
    simp -implicitDefEqProofs only[go_sem,hlt,hl0]
    refine callF (zjl (s.getD 0 0)) (by simp -implicitDefEqProofs only[go_sem]) ?_
    simp -implicitDefEqProofs only[go_sem]
    refine ⟨fun h=>⟨hl0,?_⟩,fun h=>?_⟩
    ·have hi:zgt (s.getD 0 0) = true:=by simpa using h
     refine callF (zjl (s.getD 0 0)) (by simp -implicitDefEqProofs only[go_sem,hi]) ?_
     simp -implicitDefEqProofs only[go_sem,hi]
     refine ⟨1,⟨hlt,?_⟩,by omega,zac (by simp -implicitDefEqProofs only[go_sem]; rw [zb2 (by omega) (by omega)])⟩
     rw [he,hi]; rfl
    ·have:zgt (s.getD 0 0) = false:=by simpa using h
     rw [zc4,he,this]; rfl
   ·have h1:((k:Int) == 0) = false:=by simp; omega
    have h2:(0:Int) < k:=by omega
    have hg:s.getD k 0 = s[k]:=by simp [List.getD,hlt]
    rw [if_neg h0,Qh hlt,Ks] at hr
    simp -implicitDefEqProofs only[go_sem,hlt,h1,h2]
    refine callF (zjl (s.getD k 0)) (by simp -implicitDefEqProofs only[go_sem]) ?_
    simp -implicitDefEqProofs only[go_sem]
    simp only [hg]
    refine ⟨fun h=>⟨hlt,?_⟩,fun h=>?_⟩
    ·refine callF (zsp s[k]) (by simp -implicitDefEqProofs only[go_sem]) ?_
     simp -implicitDefEqProofs only[go_sem]
     simp only [hg]
     refine ⟨fun h'=>⟨hlt,fun h''=>?_,fun h''=>⟨k + 1,⟨hlt,?_⟩,by omega,zac (by simp -implicitDefEqProofs only[go_sem]; rw [zal (by omega)])⟩⟩,fun h'=>⟨k + 1,⟨hlt,?_⟩,by omega,zac (by simp -implicitDefEqProofs only[go_sem]; rw [zal (by omega)])⟩⟩
     ·have:zpm s[k] = false:=by
       have:=qn5 (b:=s[k]) (n:=95) (by omega)
       simp [zpm,zqo] at h h' ⊢
       refine ⟨⟨h,h'⟩,fun e=>?_⟩
       rw [e] at h''
       simp at h''
      rw [zc4,hr,this]; rfl
     ·have:zpm s[k] = true:=by
       have:=qn5 (b:=s[k]) (n:=95) (by omega)
       simp [zpm] at h'' ⊢
       right
       simpa [h''] using this
      rw [hr,this]; rfl
     ·have:zpm s[k] = true:=by simp [zpm,zqo]; simp at h'; simp [h']
      rw [hr,this]; rfl
    ·refine ⟨k + 1,⟨hlt,?_⟩,by omega,zac (by simp -implicitDefEqProofs only[go_sem]; rw [zal (by omega)])⟩
     have:zpm s[k] = true:=by simp [zpm,zqo]; simp at h; simp [h]
     rw [hr,this]; rfl
  ·simp -implicitDefEqProofs only[go_sem,hlt]
   refine callF (zxf s.length 1 6) (by simp -implicitDefEqProofs only[go_sem]) ?_
   simp -implicitDefEqProofs only[go_sem]
   have ha:zm5 s = true:=by
    by_cases h0:k = 0
    ·have:s = []:=Qx.1 (by omega)
     rw [this]; rfl
    ·rw [hr,if_neg h0,Qs (by omega)]; rfl
   refine ⟨fun h=>?_,fun h=>?_⟩
   ·refine callF (qae) (by simp -implicitDefEqProofs only[go_sem]) ?_
    simp -implicitDefEqProofs only[go_sem]
    refine callF (zcf zv0 s) (by simp -implicitDefEqProofs only[go_sem]) ?_
    simp -implicitDefEqProofs only[go_sem]
    rw [zc4,ha,h]; rfl
   ·rw [zc4,ha,h]; rfl
end Go.Proofs.YtliiapbmkcbfaaaGreat
namespace Go.Proofs.YtliiapbmkcbfaaaGreat
set_option linter.unusedSimpArgs false
set_option linter.unusedVariables false
set_option linter.unusedSectionVars false
set_option maxRecDepth 4000
open Go.RowKit Go.Sort Go.Proofs
variable {P:Program}
theorem zqa {w:World}:∀ {ss:List Str} {vs:List Value} {fps:List Nat},za2 w (ss.map T.str) vs fps->vs = ss.map encStr /\ fps = [] /\ ∀ s ∈ ss,s.length <= zf3
 | [],vs,fps,h=>⟨h.1,h.2,by simp⟩
 | s :: ss,vs,fps,h=>by
  obtain ⟨v,vs',f1,f2,rfl,rfl,h1,h2⟩:=h
  unfold zaz at h1
  obtain ⟨rfl,k1,rfl⟩:=h1
  obtain ⟨rfl,rfl,k2⟩:=zqa h2
  exact ⟨rfl,rfl,fun x hx=>(Qu.1 hx).elim (fun e=>e ▸ k1) (k2 x)⟩
theorem zqg {w:World}:∀ {ss:List Str},(∀ s ∈ ss,s.length <= zf3)->za2 w (ss.map T.str) (ss.map encStr) []
 | [],_=>⟨rfl,rfl⟩
 | s :: ss,h=>⟨_,_,[],[],rfl,rfl,by unfold zaz; exact ⟨rfl,h s (by simp),rfl⟩,zqg fun x hx=>h x (by simp [hx])⟩
theorem zgp (ss:List Str):(ss.map fun s=>[T.str s]).flatten = ss.map T.str:=by induction ss <;> simp_all
theorem ztx (ss:List Str):lens 1 (ss.map fun s=>[T.str s]):=fun r hr=>by obtain ⟨s,_,rfl⟩:=Kf.1 hr; rfl
abbrev zex (ss:List Str):List Str:=ss.mergeSort leB
theorem qnu {f:FuncId} (hc:za7 P f) (hS:∀ (blk off cap:Nat) (ss:List (List UInt8)) (w:World),Holds encStr w blk off ss.toArray->blk < w.heap.size->ss.length < 4611686018427387904 →
   Calls P f #[.slice (some ⟨blk,off,none⟩) ss.length cap] w fun e w'=>e = .returned (.tuple #[]) /\ ∃ n os,w' = grow (putRow encStr (Sort.ahead w n) blk off (ss.mergeSort fun x y=>decide (x <= y)).toArray) os)
  (hN:∀ (p:Option Addr) (cap:Nat) (w:World),Calls P f #[.slice p 0 cap] w fun e w'=>e = .returned (.tuple #[]) /\ w' = w) (ss:List Str) (hl:ss.length < 4611686018427387904):IC P f [] (.one (zca ss)) [] (.one (zca (zex ss))) []:=by
 refine ⟨hc,fun w us1 v us2 fp tp h1 hg h2 hn=>?_⟩
 rw [show us1 = [] from h1,show us2 = [] from h2]
 obtain ⟨hg,_⟩:=hg
 unfold zaz at hg
 obtain ⟨ao,cap,rfl,q1,q2,q3⟩:=hg
 rw [Qb] at q1 ⊢
 rcases q3 with ⟨rfl,rfl,q3,rfl⟩ | ⟨b,cells,ty,fps,rfl,rfl,q3,q4,q5⟩
 ·have hs:ss = []:=List.map_eq_nil_iff.1 q3
  subst hs
  refine (hN none 0 w).mono ?_
  rintro e w' ⟨rfl,rfl⟩
  refine ⟨[],[],[],rfl,⟨_,[],[],[],[],[],rfl,rfl,rfl,⟨?_,rfl⟩,rfl,rfl,rfl⟩,Km,by simp,Bk.refl _ _⟩
  unfold zaz
  exact ⟨none,0,by simp [zex],by simp [zex],by simp,Or.inl ⟨rfl,rfl,by simp [zex],rfl⟩⟩
 ·obtain ⟨_,vs,k1,k2,k3⟩:=q5.vals
  rw [zgp] at k3
  obtain ⟨rfl,rfl,k4⟩:=zqa k3
  have hsz:ss.length <= cells.size:=by omega
  have ht:cells.toList.take ss.length = ss.map encStr:=by
   apply List.ext_getElem?
   intro j
   by_cases hj:j < ss.length
   ·rw [List.getElem?_take_of_lt hj,Array.getElem?_toList]
    have:=k2 j _ (List.getElem?_eq_getElem (by simpa using hj))
    rw [Q4] at this
    rw [this,List.getElem?_eq_getElem (by simpa using hj)]
   ·rw [List.getElem?_take_eq_none (by omega),List.getElem?_eq_none (by simp; omega)]
  refine (hS b 0 cap ss w (holds_of_block q3 ht) (Array.getElem?_eq_some_iff.1 q3).1 hl).mono ?_
  rintro e w' ⟨rfl,n,os,rfl⟩
  have hgr:=grownBy_sorted (w:=w) (g:=b) (n:=n) (os:=os) (ss.mergeSort fun x y=>decide (x <= y)).toArray
  have hlen:(zex ss).length = ss.length:=by simp [zex]
  have htk:=take_putCells cells (zex ss) (by omega)
  refine ⟨[],[b],[b],rfl,⟨_,[],[b],[],[b],[],rfl,rfl,rfl,⟨?_,rfl⟩,rfl,rfl,rfl⟩,by simp,fun x hx=>Or.inl hx,⟨hgr.os,hgr.tape,hgr.output,hgr.size,fun k hk=>hgr.block k hk.1 fun e=>hk.2 (by cases e; simp)⟩⟩
  unfold zaz
  refine ⟨_,cap,by rw [Qb,hlen],by rw [Qb,hlen]; exact q1,q2,Or.inr ⟨b,_,ty,[],rfl,rfl,heap_sorted _ q3,by simp [putCells,q4],?_⟩⟩
  refine zak.of_vals (ztx _) (by rw [zgp]; exact zqg fun s hs=>k4 s ((Yd ss leB).mem_iff.1 hs)) fun j u hu=>?_
  rw [<-htk,List.getElem?_take] at hu
  split at hu
  ·simpa using hu
  ·cases hu
structure CloneOf (P:Program) (f:FuncId) (sz bytes:Nat):Prop where
 call:za7 P f
 old:∀ (ad:Addr) (n c:Nat) (news:List Value) (w:World),news.length = n * sz->n <= maxLen->n * bytes <= 140737488355328->(∀ j u,news[j]? = some u->w.cell? (ad.add j) = some u)->(∀ u ∈ news,u.oneCell' = true) →
  Calls P f #[.slice (some ad) n c] w fun e w'=>∃ t v',e = .returned v' /\ w'.ownsRow w.heap.size t sz v' n news /\ v' ≠ .slice none 0 0 /\ Below w.heap.size w w'
 none:∀ (n c:Nat) (w:World),Calls P f #[.slice none n c] w fun e w'=>e = .returned (.slice none 0 0) /\ w' = w
theorem zas.valsA {w:World} {A:Nat->Prop} {b sz:Nat} {rows:List (List T)} {o:Nat} (h:zas w A b o sz rows) : ∃ vs,vs.length = rows.length * sz /\ (∀ j u,vs[j]? = some u->w.cell? ⟨b,o + j,none⟩ = some u) /\ zaf w A rows.flatten vs /\ lens sz rows:=by
 obtain ⟨h1,vs,h2,h3,h4⟩:=h.vals
 exact ⟨vs,h2,h3,h4,h1⟩
theorem qb4 {f:FuncId} {sz bytes:Nat} (h:CloneOf P f sz bytes) (rows:List (List T)) (hb:rows.length * bytes <= 140737488355328) {w:World} {A:Nat->Prop} {v:Value} (h1:zar w A (.sl sz rows) v) :
  Calls P f #[v] w fun e w'=>∃ v',e = .returned v' /\ Below w.heap.size w w' /\ ((v' = .slice none 0 0 /\ rows = []) \/ ∃ g cap cur ty vs,v' = .slice (some ⟨g,0,none⟩) rows.length cap /\ w.heap.size <= g /\ w'.heap[g]? = some (.cells cur ty (0,0)) /\ rows.length <= cap /\ cap <= zf3 /\ cur.size = cap * sz /\ cur.toList.take (rows.length * sz) = vs /\ zaf w A rows.flatten vs /\ lens sz rows):=by
 unfold zar at h1
 obtain ⟨ao,cap,rfl,q1,q2,q3⟩:=h1
 cases ao with
 | none =>
  have hr:rows = []:=q3.resolve_right fun ⟨b,o,e,_⟩=>by cases e
  refine (h.none rows.length cap w).mono ?_
  rintro e w' ⟨rfl,rfl⟩
  exact ⟨_,rfl,Below.refl _ _,Or.inl ⟨rfl,hr⟩⟩
 | some ad =>
  have hx : ∃ news:List Value,news.length = rows.length * sz /\ (∀ j u,news[j]? = some u->w.cell? (ad.add j) = some u) /\ zaf w A rows.flatten news /\ lens sz rows:=by
   rcases q3 with rfl | ⟨b',o',e,_,q4⟩
   ·exact ⟨[],by simp,fun j u hj=>by simp at hj,by unfold zaf; rfl,fun r hr=>by simp at hr⟩
   ·cases e
    obtain ⟨news,k1,k2,k3,k4⟩:=q4.valsA
    exact ⟨news,k1,fun j u hj=>by rw [zf8]; exact k2 j u hj,k3,k4⟩
  obtain ⟨news,k1,k2,k3,k4⟩:=hx
  refine (h.old ad rows.length cap news w k1 (by unfold maxLen; have:=q2; unfold zf3 at this; omega) hb k2 k3.one).mono ?_
  rintro e w' ⟨t,v',rfl,⟨o1,o2⟩,hn,hbel⟩
  refine ⟨v',rfl,hbel,Or.inr ?_⟩
  rcases o2 with ⟨e,_⟩ | ⟨g,cap',cur,e,p1,p2,p3,p4,p5,p6⟩
  ·exact absurd e hn
  ·exact ⟨g,cap',cur,t,news,e,p1,p2,p3,by unfold maxLen at p4; omega,p5,p6,k3,k4⟩
theorem qpu {cur:Array Value} {vs:List Value} {n:Nat} (h:cur.toList.take n = vs):∀ j u,vs[j]? = some u->cur[0 + j]? = some u:=fun j u hu=>by
 rw [<-h,List.getElem?_take] at hu
 split at hu
 ·simpa using hu
 ·cases hu
theorem qi2 {f:FuncId} {sz bytes:Nat} (h:CloneOf P f sz bytes) (rows:List (List T)) (hb:rows.length * bytes <= 140737488355328) (hf:∀ c ∈ rows.flatten,c.flat = true):FC P f [.one (.sl sz rows)] [.one (.sl sz rows)]:=by
 refine ⟨h.call,fun w vs fp tp hv hn=>?_⟩
 obtain ⟨hr,rfl,rfl⟩:=zc8 hv
 obtain ⟨v,_,rfl,h1,rfl⟩:=hr
 refine (qb4 h rows hb h1).mono ?_
 rintro e w' ⟨v',rfl,hbel,hh⟩
 have hB:Bk (fun k=>k < w.heap.size /\ k ∉ ([]:List Nat)) w w':=⟨hbel.os,hbel.tape,hbel.output,hbel.size,fun k hk=>hbel.block k hk.1⟩
 rcases hh with ⟨rfl,hr⟩ | ⟨g,cap,cur,ty,vs,rfl,p1,p2,p3,p4,p5,p6,p7,p8⟩
 ·subst hr
  refine ⟨[_],[],[],rfl,⟨_,[],[],[],[],[],rfl,rfl,rfl,⟨?_,rfl⟩,rfl,rfl,rfl⟩,Km,by simp,hB⟩
  unfold zaz
  exact ⟨Option.none,0,rfl,Qw _,by simp,Or.inl ⟨rfl,rfl,rfl,rfl⟩⟩
 ·refine ⟨[_],[g],[g],rfl,⟨_,[],[g],[],[g],[],rfl,rfl,rfl,⟨?_,rfl⟩,rfl,rfl,rfl⟩,by simp,fun b hb=>by rw [Q5.1 hb]; exact Or.inr p1,hB⟩
  unfold zaz
  refine ⟨_,cap,rfl,p3,p4,Or.inr ⟨g,cur,ty,[],rfl,rfl,p2,p5,?_⟩⟩
  have hown:=zaf.own p7 hf
  exact zak.of_vals p8 (za2.keep hown fun b hb=>by simp at hb) fun j u hu=>qpu p6 j u hu
theorem zq5 (a b:Str):Op.bytesLess a b = decide (a < b):=bytesLess_eq a b
def Srt (xs:List Str):Prop:=xs.Pairwise (· < ·)
theorem zo4 (a:Str):¬ a < a:=List.lt_irrefl a
theorem zrr {xs:List Str} (h:Srt xs):xs.Nodup:=List.Pairwise.imp (fun {a b} (h:a < b) (e:a = b)=>zo4 b (e ▸ h)) h
theorem qpq {xs ys:List Str} (hx:Srt xs) (hy:Srt ys) (h:∀ s,s ∈ xs ↔ s ∈ ys):xs = ys:=by
 have hp:xs.Perm ys:=(List.perm_ext_iff_of_nodup (zrr hx) (zrr hy)).2 h
 exact hp.eq_of_pairwise (le:=fun a b=>a < b) (fun a b _ _ h1 h2=>absurd (List.lt_trans h1 h2) (zo4 a)) hx hy
theorem qm5 {a b:Str} (h:a <= b):a < b \/ a = b:=by
 by_cases h1:a < b
 ·exact Or.inl h1
 ·exact Or.inr (List.le_antisymm h (List.not_lt.1 h1))
theorem qfx (xs:List Str) (s:Str):s ∈ zex xs ↔ s ∈ xs:=(Yd xs leB).mem_iff
theorem qgx {xs:List Str} (h:xs.Nodup):Srt (zex xs):=by
 have tr:∀ a b c:List UInt8,leB a b = true->leB b c = true->leB a c = true:=fun a b c h1 h2=>by simp only [leB,Qg] at *; exact List.le_trans h1 h2
 have to:∀ a b:List UInt8,(leB a b || leB b a) = true:=fun a b=>by simp only [leB,Ji,Qg]; exact List.le_total a b
 have hs:=List.pairwise_mergeSort tr to xs
 have hn:(zex xs).Nodup:=(Yd xs leB).nodup_iff.2 h
 refine (List.Pairwise.and hs hn).imp ?_
 rintro a b ⟨h1,h2⟩
 simp only [leB,Qg] at h1
 exact (qm5 h1).resolve_right h2
def zy4 (l:List Str) (s:Str):List Str:=if (l.dropWhile fun x=>Op.bytesLess x s).head? = some s then l else (l.takeWhile fun x=>Op.bytesLess x s) ++ [s] ++ l.dropWhile fun x=>Op.bytesLess x s
theorem qjw (l:List Str) (s x:Str):x ∈ zy4 l s ↔ x = s \/ x ∈ l:=by
 have e:l = (l.takeWhile fun x=>Op.bytesLess x s) ++ l.dropWhile fun x=>Op.bytesLess x s:=(List.takeWhile_append_dropWhile).symm
 unfold zy4
 split
 ·rename_i h
  have:s ∈ l:=by rw [e]; exact Jm _ (List.mem_of_mem_head? h)
  exact ⟨Or.inr,fun h=>h.elim (fun e=>e ▸ this) id⟩
 ·conv=>rhs; rw [e]
  simp only [Qt,Q5,or_assoc]
  constructor
  ·rintro (h | h | h)
   ·exact Or.inr (Or.inl h)
   ·exact Or.inl h
   ·exact Or.inr (Or.inr h)
  ·rintro (h | h | h)
   ·exact Or.inr (Or.inl h)
   ·exact Or.inl h
   ·exact Or.inr (Or.inr h)
theorem znc {l:List Str} {p:Str->Bool} {x:Str} (h:(l.dropWhile p).head? = some x):p x = false:=by
 induction l with
 | nil=>simp at h
 | cons a l ih =>
  rw [List.dropWhile_cons] at h
  split at h
  ·exact ih h
  ·rename_i hp; simp only [List.head?_cons,Qc] at h; subst h; simpa using hp
theorem qio {l:List Str} (h:Srt l) (s:Str):Srt (zy4 l s):=by
 unfold zy4
 split
 ·exact h
 ·rename_i hne
  have e:(l.takeWhile fun x=>Op.bytesLess x s) ++ (l.dropWhile fun x=>Op.bytesLess x s) = l:=List.takeWhile_append_dropWhile
  have h':=h
  rw [<-e] at h'
  obtain ⟨h1,h2,h3⟩:=List.pairwise_append.1 h'
  have ht:∀ a ∈ l.takeWhile fun x=>Op.bytesLess x s,a < s:=fun a ha=>by
   have:=List.all_takeWhile (l:=l) (p:=fun x=>Op.bytesLess x s)
   have:=Ql.1 this a ha
   rw [zq5] at this
   exact K4 this
  have hd:∀ a ∈ l.dropWhile fun x=>Op.bytesLess x s,s < a:=fun a ha=>by
   cases hD:l.dropWhile fun x=>Op.bytesLess x s with
   | nil=>rw [hD] at ha; simp at ha
   | cons y ys =>
    have hy:=znc (l:=l) (p:=fun x=>Op.bytesLess x s) (x:=y) (by rw [hD]; rfl)
    have hys:s < y:=by
     have h0:¬ y < s:=by rw [zq5] at hy; exact of_decide_eq_false hy
     rcases qm5 (List.not_lt.1 h0) with h | h
     ·exact h
     ·exact absurd (by rw [hD,h]; rfl) hne
    rw [hD] at ha h2
    rcases Qu.1 ha with rfl | ha
    ·exact hys
    ·exact List.lt_trans hys ((Jt.1 h2).1 a ha)
  rw [Kh]
  refine List.pairwise_append.2 ⟨h1,?_,fun a ha b hb=>?_⟩
  ·exact Jt.2 ⟨hd,h2⟩
  ·rcases Qu.1 hb with rfl | hb
   ·exact ht a ha
   ·exact h3 a ha b hb
end Go.Proofs.YtliiapbmkcbfaaaGreat
namespace Go.Proofs.YtliiapbmkcbfaaaGreat
set_option linter.unusedSimpArgs false
set_option linter.unusedVariables false
set_option linter.unusedSectionVars false
set_option maxRecDepth 4000
open Go.RowKit
theorem Tm.wt_args {a:Tm} {n:Nat} (h:a.wt <= n):a.args.length <= n /\ ∀ x ∈ a.args,x.wt <= n:=by
 have e:=Tm.wt_eq a
 refine ⟨by omega,fun x hx=>?_⟩
 have:=zbo Tm.wt a.args x hx
 omega
theorem Fm.wt_parts {f:Fm} {n:Nat} (h:f.wt <= n):f.atom.wt <= n /\ f.parts.length <= n /\ ∀ x ∈ f.parts,x.wt <= n:=by
 have e:=Fm.wt_eq f
 refine ⟨by omega,by omega,fun x hx=>?_⟩
 have:=zbo Fm.wt f.parts x hx
 omega
set_option maxRecDepth 10000 in
theorem zs1 (xs:List Tm) (H:∀ x ∈ xs,FC Tryz.prog 117 [tmD x] [tmD x]) (hs:xs.length <= 1048576) :
  FC Tryz.prog 129 [.one (tmS xs)] [.one (tmS xs)]:=by
 by_cases h0:xs = []
 ·subst h0
  refine zaj Tryz.call129 Tryz.func129 rfl (by kernel_rfl) (zax (by kernel_rfl)) ?_
  simp -implicitDefEqProofs only[go_sem,Tryz.results129]
 ·have hp:((xs.length:Int) == 0) = false:=by
   have:0 < xs.length:=List.length_pos_iff.2 h0
   simp; omega
  refine zaj Tryz.call129 Tryz.func129 rfl (by kernel_rfl) (zax (by kernel_rfl)) ?_
  simp -implicitDefEqProofs only[go_sem,Tryz.results129,hp]
  refine qkn (by simp -implicitDefEqProofs only[go_sem]; omega) ?_
  simp -implicitDefEqProofs only[go_sem]
  refine zae (fun k:Nat=>hd [(12,vT (tmS xs)),(13,vI xs.length),(3,.one (.ow 352 0)),(14,vI k)] [] [(352,⟨true,2,(xs.take k).map tmC ++ List.replicate (xs.length - k) [T.str [],T.sl 2 []],0,true⟩)]) (fun k=>k <= xs.length) (fun k=>xs.length - k) 0 (zac ?_) ?_ ?_
  ·simp -implicitDefEqProofs only[go_sem]
   simp
  ·simp
  ·intro k hk
   by_cases hlt:k < xs.length
   ·have hlen:((xs.take k).map tmC ++ List.replicate (xs.length - k) [T.str [],T.sl 2 []]).length = xs.length:=by simp; omega
    have hlt2:k < k + (xs.length - k):=by omega
    simp -implicitDefEqProofs only[go_sem,Qb,zad,hlt,zaa]
    refine callF (H xs[k] (Qe hlt)) (by simp -implicitDefEqProofs only[go_sem,zaa,hlen,hlt,Qr,Qb,Qp,Kv,Jh hk,hlt2]) ?_
    simp -implicitDefEqProofs only[go_sem,zaa,hlen,hlt,Qr,Qb,Qp,Kv,Jh hk,hlt2]
    refine zgs (by simp -implicitDefEqProofs only[go_sem]; simp) ?_
    simp -implicitDefEqProofs only[go_sem]
    rw [zal (by omega)]
    refine ⟨k + 1,by omega,by omega,zac ?_⟩
    simp -implicitDefEqProofs only[go_sem]
    have hf:=zg5 ((xs.take k).map tmC) xs.length k [T.str [],T.sl 2 []] (tmC xs[k]) (by simp; omega) hlt (by simp [zaa])
    simp only [zaa] at hf
    rw [hf,Qf hlt,Q0,Q7]
    simp only [zaa]
   ·simp -implicitDefEqProofs only[go_sem,Qb,hlt]
    simp [Qk (show xs.length <= k by omega),show xs.length - k = 0 by omega]
theorem zu5 (a:Tm) (H:FC Tryz.prog 129 [.one (tmS a.args)] [.one (tmS a.args)]):FC Tryz.prog 117 [tmD a] [tmD a]:=by
 simp only [tmD,zaa a]
 refine zaj Tryz.call117 Tryz.func117 rfl (by kernel_rfl) (zax (by kernel_rfl)) ?_
 simp -implicitDefEqProofs only[go_sem,Tryz.results117]
 refine drawn (by kernel_rfl) ?_
 simp -implicitDefEqProofs only[go_sem]
 refine zao (H) (by simp -implicitDefEqProofs only[go_sem]) ?_
 simp -implicitDefEqProofs only[go_sem]
 kernel_rfl
theorem qju (a:Tm) (H:∀ x ∈ a.args,FC Tryz.prog 102 [tmD x] [tmD x]) (hs:a.args.length <= 1048576):FC Tryz.prog 102 [tmD a] [tmD a]:=by
 simp only [tmD,zaa a]
 refine zaj Tryz.call102 Tryz.func102 rfl (by kernel_rfl) (zax (by kernel_rfl)) ?_
 simp -implicitDefEqProofs only[go_sem,Tryz.results102]
 refine zae (fun k:Nat=>hd [(1,.one (.bx 1 0)),(2,.one (.bx 2 0)),(3,.one (.bx 3 0)),(4,vI k)] [(1,[.t (.str a.name),.t (tmS a.args)]),(2,[.t (.str []),.nl 2]),(3,[.t (.str a.name),.ow 3000 0])] [(3000,⟨true,2,(a.args.take k).map tmC,0,true⟩)]) (fun k=>k <= a.args.length) (fun k=>a.args.length - k) 0 (zac ?_) ?_ ?_
 ·simp -implicitDefEqProofs only[go_sem]
 ·simp
 ·intro k hk
  by_cases hlt:k < a.args.length
  ·simp -implicitDefEqProofs only[go_sem,hlt]
   refine drawn (by kernel_rfl) ?_
   have hmin:min k a.args.length <= 4294967295:=by omega
   simp -implicitDefEqProofs only[go_sem,zad,hlt,zaa]
   refine zao (H a.args[k] (Qe hlt)) (by simp -implicitDefEqProofs only[go_sem,zaa]) ?_
   simp -implicitDefEqProofs only[go_sem,zaa]
   refine zbi (by simp -implicitDefEqProofs only[go_sem]) ?_
   simp -implicitDefEqProofs only[go_sem]
   refine zj0 true (by simp -implicitDefEqProofs only[go_sem,ne_eq,Qb,Qp,hmin]) ?_
   simp -implicitDefEqProofs only[go_sem,ne_eq,Qb,Qp,hmin]
   refine ⟨by kernel_rfl,k + 1,hlt,by omega,zac ?_⟩
   simp -implicitDefEqProofs only[go_sem]
   rw [zal (by omega),Qf hlt,Q0,Q7]
   simp only [zaa]
   trivial
  ·have ht:a.args.take k = a.args:=Qk (by omega)
   simp -implicitDefEqProofs only[go_sem,hlt,ht]
theorem zeg:∀ a:Tm,a.wt <= 1048576->FC Tryz.prog 117 [tmD a] [tmD a] :=
 zbf fun n xs ih hs=>by
  obtain ⟨h1,h2⟩:=Tm.wt_args hs
  exact zu5 (.mk n xs) (zs1 xs (fun x hx=>ih x hx (h2 x hx)) h1)
theorem zqj:∀ a:Tm,a.wt <= 1048576->FC Tryz.prog 102 [tmD a] [tmD a] :=
 zbf fun n xs ih hs=>by
  obtain ⟨h1,h2⟩:=Tm.wt_args hs
  exact qju (.mk n xs) (fun x hx=>ih x hx (h2 x hx)) h1
set_option maxHeartbeats 1000000 in
theorem qkq (a:Fm) (H:∀ x ∈ a.parts,FC Tryz.prog 99 [fmD x] [fmD x]) (h0:a.atom.wt <= 1048576) (hs:a.parts.length <= 1048576):FC Tryz.prog 99 [fmD a] [fmD a]:=by
 simp only [fmD,zab a]
 refine zaj Tryz.call99 Tryz.func99 rfl (by kernel_rfl) (zax (by kernel_rfl)) ?_
 simp -implicitDefEqProofs only[go_sem,Tryz.results99]
 refine drawn (by kernel_rfl) ?_
 simp -implicitDefEqProofs only[go_sem]
 refine zao (zqj a.atom h0) (by simp -implicitDefEqProofs only[go_sem,zaa]) ?_
 simp -implicitDefEqProofs only[go_sem,zaa]
 refine ⟨by kernel_rfl,?_⟩
 refine zae (fun k:Nat=>hd [(1,.one (.bx 1 0)),(2,.one (.bx 2 0)),(3,.one (.bx 3 0)),(4,vI k)] [(1,[.t (.int .i64 a.op),.t (.str a.atom.name),.t (tmS a.atom.args),.t (.str a.var),.t (fmS a.parts)]),(2,[.t (.int .i64 0),.t (.str []),.nl 2,.t (.str []),.nl 5]),(3,[.t (.int .i64 a.op),.t (.str a.atom.name),.ow 289 0,.t (.str a.var),.ow 3000 0])]
  [(289,⟨true,2,a.atom.args.map tmC,0,true⟩),(3000,⟨true,5,(a.parts.take k).map fmC,0,true⟩)]) (fun k=>k <= a.parts.length) (fun k=>a.parts.length - k) 0 (zac ?_) ?_ ?_
 ·simp -implicitDefEqProofs only[go_sem]
 ·simp
 ·intro k hk
  by_cases hlt:k < a.parts.length
  ·simp -implicitDefEqProofs only[go_sem,hlt]
   refine drawn (by kernel_rfl) ?_
   have hmin:min k a.parts.length <= 4294967295:=by omega
   simp -implicitDefEqProofs only[go_sem,zad,hlt,zab]
   refine zao (H a.parts[k] (Qe hlt)) (by simp -implicitDefEqProofs only[go_sem,zab]) ?_
   simp -implicitDefEqProofs only[go_sem,zab]
   refine zbi (by simp -implicitDefEqProofs only[go_sem]) ?_
   simp -implicitDefEqProofs only[go_sem]
   refine zj0 true (by simp -implicitDefEqProofs only[go_sem,ne_eq,Qb,Qp,hmin]) ?_
   simp -implicitDefEqProofs only[go_sem,ne_eq,Qb,Qp,hmin]
   refine ⟨by kernel_rfl,k + 1,hlt,by omega,zac ?_⟩
   simp -implicitDefEqProofs only[go_sem]
   rw [zal (by omega),Qf hlt,Q0,Q7]
   simp only [zab]
   trivial
  ·have ht:a.parts.take k = a.parts:=Qk (by omega)
   simp -implicitDefEqProofs only[go_sem,hlt,ht]
theorem zmg:∀ a:Fm,a.wt <= 1048576->FC Tryz.prog 99 [fmD a] [fmD a] :=
 za8 fun o t v ps ih hs=>by
  obtain ⟨h1,h2,h3⟩:=Fm.wt_parts hs
  exact qkq (.mk o t v ps) (fun x hx=>ih x hx (h3 x hx)) h1 h2
set_option maxHeartbeats 1000000 in
theorem zvx (a:Fm) (g:FuncId) (φ:Fm->Fm) (H:∀ x ∈ a.parts,FC Tryz.prog g [fmD x] [fmD (φ x)]) (h0:a.atom.wt <= 1048576) (hs:a.parts.length <= 1048576):FC Tryz.prog 181 [fmD a,.one (.fn g [])] [fmD (.mk a.op a.atom a.var (a.parts.map φ))]:=by
 simp only [fmD,zab a,zdm]
 refine zaj Tryz.call181 Tryz.func181 rfl (by kernel_rfl) (zax (by kernel_rfl)) ?_
 simp -implicitDefEqProofs only[go_sem,Tryz.results181]
 refine drawn (by kernel_rfl) ?_
 simp -implicitDefEqProofs only[go_sem]
 refine zao (zeg a.atom h0) (by simp -implicitDefEqProofs only[go_sem,zaa]) ?_
 simp -implicitDefEqProofs only[go_sem,zaa]
 refine ⟨by kernel_rfl,?_⟩
 refine zae (fun k:Nat=>hd [(1,.one (.t (.fn g []))),(4,.one (.bx 4 0)),(5,.one (.bx 5 0)),(17,vT (fmS a.parts)),(18,vI a.parts.length),(19,vI k)] [(4,[.t (.int .i64 0),.t (.str []),.nl 2,.t (.str []),.nl 5]),(5,[.t (.int .i64 a.op),.t (.str a.atom.name),.ow 385 0,.t (.str a.var),.ow 3000 0])]
  [(385,⟨true,2,a.atom.args.map tmC,0,true⟩),(3000,⟨true,5,(a.parts.take k).map fun x=>fmC (φ x),0,true⟩)]) (fun k=>k <= a.parts.length) (fun k=>a.parts.length - k) 0 (zac ?_) ?_ ?_
 ·simp -implicitDefEqProofs only[go_sem]
 ·simp
 ·intro k hk
  by_cases hlt:k < a.parts.length
  ·have hmin:min k a.parts.length <= 4294967295:=by omega
   simp -implicitDefEqProofs only[go_sem,zad,hlt,zab a.parts[k]]
   refine drawn (by kernel_rfl) ?_
   simp -implicitDefEqProofs only[go_sem]
   refine zao (H a.parts[k] (Qe hlt)) (by simp -implicitDefEqProofs only[go_sem,zab]) ?_
   simp -implicitDefEqProofs only[go_sem,zab]
   refine zbi (by simp -implicitDefEqProofs only[go_sem]) ?_
   simp -implicitDefEqProofs only[go_sem]
   refine zj0 true (by simp -implicitDefEqProofs only[go_sem,ne_eq,Qb,Qp,hmin]) ?_
   simp -implicitDefEqProofs only[go_sem,ne_eq,Qb,Qp,hmin]
   refine ⟨by kernel_rfl,k + 1,hlt,by omega,zac ?_⟩
   simp -implicitDefEqProofs only[go_sem]
   rw [zal (by omega),Qf hlt,Q0,Q7]
   simp only [zab]
   trivial
  ·have ht:a.parts.take k = a.parts:=Qk (by omega)
   simp -implicitDefEqProofs only[go_sem,hlt,ht]
   rfl
set_option maxRecDepth 10000 in
theorem zf0:∀ a:Fm,a.wt <= 1048576->FC Tryz.prog 113 [fmD a] [fmD a] :=
 za8 fun o t v ps ih hs=>by
  obtain ⟨h1,h2,h3⟩:=Fm.wt_parts hs
  have H:=zvx (.mk o t v ps) 113 (fun x=>x) (fun x hx=>ih x hx (h3 x hx)) h1 h2
  simp only [Fm.op,Fm.atom,Fm.var,Fm.parts,List.map_id'] at H
  simp only [fmD,zdm] at H ⊢
  refine zaj Tryz.call113 Tryz.func113 rfl (by kernel_rfl) (zax (by kernel_rfl)) ?_
  simp -implicitDefEqProofs only[go_sem,Tryz.results113]
  refine callF (H) (by simp -implicitDefEqProofs only[go_sem]) ?_
  simp -implicitDefEqProofs only[go_sem]
  trace_state
end Go.Proofs.YtliiapbmkcbfaaaGreat
namespace Go.Proofs.YtliiapbmkcbfaaaGreat
set_option linter.unusedSimpArgs false
set_option linter.unusedVariables false
set_option linter.unusedSectionVars false
set_option maxRecDepth 4000
open Go.RowKit
theorem qn7 {P:Program} {t:TypeId} {n b:Nat} {z:List C} (h1:zby P t = some n) (h2:zd9 P t = some b) (h3:zde P t = some z) (h4:z.length = n) : ∃ i0 zv,P.info? t = some i0 /\ i0.zero = some zv /\ zv.cells.size = n /\ i0.size = n /\ i0.bytes = b:=by
 unfold zby at h1
 unfold zd9 at h2
 unfold zde at h3
 cases hi:P.info? t with
 | none=>rw [hi] at h1; cases h1
 | some i =>
  rw [hi] at h1 h2 h3
  simp only [Kj,Qc] at h1 h2
  simp only [Kc] at h3
  cases hz:i.zero with
  | none=>rw [hz] at h3; cases h3
  | some zv =>
   rw [hz] at h3
   simp only [Kj,Qc] at h3
   refine ⟨i,zv,rfl,hz,?_,h1,h2⟩
   rw [<-h4,<-h3]; simp
abbrev qk5 (xs:List Int):T:=.sl 1 (xs.map fun s=>[.int .i64 s])
theorem zz2 (xs:List Int) (s:Int):FC Tryz.prog 261 [.one (qk5 xs),iD s] [iD (qm1 xs s)]:=by
 refine zdi (fun hw=>?_) Tryz.call261
 have hl:xs.length <= 9223372036854775807:=by simpa [zgg,wfT] using hw.1.1
 refine zaj Tryz.call261 Tryz.func261 rfl (by kernel_rfl) (zax (by kernel_rfl)) ?_
 simp -implicitDefEqProofs only[go_sem,Tryz.results261]
 refine zae (fun k:Nat=>hd [(0,vT (qk5 xs)),(1,vT (.int .i64 s)),(7,vI xs.length),(8,vI k)] [] []) (fun k=>k <= xs.length /\ s ∉ xs.take k) (fun k=>xs.length - k) 0 (zac ?_) ?_ ?_
 ·simp -implicitDefEqProofs only[go_sem]
 ·simp
 ·intro k ⟨hk,hr⟩
  by_cases hlt:k < xs.length
  ·simp -implicitDefEqProofs only[go_sem,zad,hlt]
   refine ⟨fun h=>?_,fun h=>?_⟩
   ·have e:xs[k] = s:=(Ki.1 h).symm
    have hm:s ∈ xs:=e ▸ Qe hlt
    rw [qm1,if_pos (by simpa using hm),zr3 hlt hr e]
   ·have e:xs[k] ≠ s:=fun e=>by simp [e] at h
    exact ⟨k + 1,⟨hlt,zf1 hlt hr e⟩,by omega,zac (by simp -implicitDefEqProofs only[go_sem]; rw [zal (by omega)])⟩
  ·simp -implicitDefEqProofs only[go_sem,hlt]
   rw [Qk (by omega)] at hr
   rw [qm1,if_neg (by simpa using hr)]
theorem zpb (xs:List Int) (s:Int):FC Tryz.prog 216 [.one (qk5 xs),iD s] [bD (xs.contains s)]:=by
 refine zaj Tryz.call216 Tryz.func216 rfl (by kernel_rfl) (zax (by kernel_rfl)) ?_
 simp -implicitDefEqProofs only[go_sem,Tryz.results216]
 refine callF (zz2 xs s) (by simp -implicitDefEqProofs only[go_sem]) ?_
 simp -implicitDefEqProofs only[go_sem]
 unfold qm1
 cases h:xs.contains s <;> simp
end Go.Proofs.YtliiapbmkcbfaaaGreat
namespace Go.Proofs
open Go.Shelf
set_option maxRecDepth 100000
def Tryz.lays190_ren:Go.Shelf.Ren:=⟨fun | 190=>154 | 125=>212 | 258=>211 | 128=>258 | 129=>259 | 302=>249 | 303=>250 | 304=>251 | 305=>252 | 306=>253 | 307=>254 | 308=>255 | 309=>256 | 310=>257 | 333=>273 | 329=>274 | 330=>275 | 334=>276 | 335=>277 | 336=>278 | 344=>284 | n=>n,fun | 31=>64 | 9=>9 | 3=>3 | 46=>198 | 0=>0 | 51=>239 | 53=>104 | 4=>4 | 183=>231 | 182=>230 | 131=>236 | 5=>5 | 218=>246 | 222=>250 | 228=>256 | 229=>257 | n=>n,fun | n=>n⟩
theorem Tryz.lays190:Go.Proofs.Lays.n190 Tryz.prog Tryz.lays190_ren:={
 mixed:=by kernel_rfl
 f125:=Tryz.func212.trans (congrArg some (by kernel_rfl))
 f128:=Tryz.func258.trans (congrArg some (by kernel_rfl))
 f129:=Tryz.func259.trans (congrArg some (by kernel_rfl))
 f190:=Tryz.func154.trans (congrArg some (by kernel_rfl))
 f258:=Tryz.func211.trans (congrArg some (by kernel_rfl))
 f302:=Tryz.func249.trans (congrArg some (by kernel_rfl))
 f303:=Tryz.func250.trans (congrArg some (by kernel_rfl))
 f304:=Tryz.func251.trans (congrArg some (by kernel_rfl))
 f305:=Tryz.func252.trans (congrArg some (by kernel_rfl))
 f306:=Tryz.func253.trans (congrArg some (by kernel_rfl))
 f307:=Tryz.func254.trans (congrArg some (by kernel_rfl))
 f308:=Tryz.func255.trans (congrArg some (by kernel_rfl))
 f309:=Tryz.func256.trans (congrArg some (by kernel_rfl))
 f310:=Tryz.func257.trans (congrArg some (by kernel_rfl))
 f329:=Tryz.func274.trans (congrArg some (by kernel_rfl))
 f330:=Tryz.func275.trans (congrArg some (by kernel_rfl))
 f333:=Tryz.func273.trans (congrArg some (by kernel_rfl))
 f334:=Tryz.func276.trans (congrArg some (by kernel_rfl))
 f335:=Tryz.func277.trans (congrArg some (by kernel_rfl))
 f336:=Tryz.func278.trans (congrArg some (by kernel_rfl))
 f344:=Tryz.func284.trans (congrArg some (by kernel_rfl))
 t0:=Tryz.underlying0
 a0:=Tryz.isAgg0
 z0:=Tryz.sizeOf0
 v0:=Tryz.zeroValue0
 t3:=Tryz.underlying3
 a3:=Tryz.isAgg3
 z3:=Tryz.sizeOf3
 v3:=Tryz.zeroValue3
 t4:=Tryz.underlying4
 a4:=Tryz.isAgg4
 z4:=Tryz.sizeOf4
 v4:=Tryz.zeroValue4
 t5:=Tryz.underlying5
 a5:=Tryz.isAgg5
 z5:=Tryz.sizeOf5
 v5:=Tryz.zeroValue5
 t9:=Tryz.underlying9
 a9:=Tryz.isAgg9
 z9:=Tryz.sizeOf9
 v9:=Tryz.zeroValue9
 t31:=Tryz.underlying64
 a31:=Tryz.isAgg64
 z31:=Tryz.sizeOf64
 v31:=Tryz.zeroValue64
 t46:=Tryz.underlying198
 a46:=Tryz.isAgg198
 z46:=Tryz.sizeOf198
 v46:=Tryz.zeroValue198
 t51:=Tryz.underlying239
 a51:=Tryz.isAgg239
 z51:=Tryz.sizeOf239
 v51:=Tryz.zeroValue239
 t53:=Tryz.underlying104
 a53:=Tryz.isAgg104
 z53:=Tryz.sizeOf104
 v53:=Tryz.zeroValue104
 t131:=Tryz.underlying236
 a131:=Tryz.isAgg236
 z131:=Tryz.sizeOf236
 v131:=Tryz.zeroValue236
 t182:=Tryz.underlying230
 a182:=Tryz.isAgg230
 z182:=Tryz.sizeOf230
 v182:=Tryz.zeroValue230
 t183:=Tryz.underlying231
 a183:=Tryz.isAgg231
 z183:=Tryz.sizeOf231
 v183:=Tryz.zeroValue231
 t218:=Tryz.underlying246
 a218:=Tryz.isAgg246
 z218:=Tryz.sizeOf246
 v218:=Tryz.zeroValue246
 t222:=Tryz.underlying250
 a222:=Tryz.isAgg250
 z222:=Tryz.sizeOf250
 v222:=Tryz.zeroValue250
 t228:=Tryz.underlying256
 a228:=Tryz.isAgg256
 z228:=Tryz.sizeOf256
 v228:=Tryz.zeroValue256
 t229:=Tryz.underlying257
 a229:=Tryz.isAgg257
 z229:=Tryz.sizeOf257
 v229:=Tryz.zeroValue257 }
def Tryz.lays194_ren:Go.Shelf.Ren:=⟨fun | 194=>162 | n=>n,fun | 31=>64 | 9=>9 | 3=>3 | 4=>4 | 0=>0 | n=>n,fun | n=>n⟩
theorem Tryz.lays194:Go.Proofs.Lays.n194 Tryz.prog Tryz.lays194_ren:={
 mixed:=by kernel_rfl
 f194:=Tryz.func162.trans (congrArg some (by kernel_rfl))
 t0:=Tryz.underlying0
 a0:=Tryz.isAgg0
 z0:=Tryz.sizeOf0
 v0:=Tryz.zeroValue0
 t3:=Tryz.underlying3
 a3:=Tryz.isAgg3
 z3:=Tryz.sizeOf3
 v3:=Tryz.zeroValue3
 t4:=Tryz.underlying4
 a4:=Tryz.isAgg4
 z4:=Tryz.sizeOf4
 v4:=Tryz.zeroValue4
 t9:=Tryz.underlying9
 a9:=Tryz.isAgg9
 z9:=Tryz.sizeOf9
 v9:=Tryz.zeroValue9
 t31:=Tryz.underlying64
 a31:=Tryz.isAgg64
 z31:=Tryz.sizeOf64
 v31:=Tryz.zeroValue64 }
end Go.Proofs
namespace Go.Proofs.YtliiapbmkcbfaaaGreat
set_option linter.unusedSimpArgs false
set_option linter.unusedVariables false
set_option linter.unusedSectionVars false
set_option maxRecDepth 4000
open Go.RowKit
theorem zmk (ss:List Str) (hl:ss.length <= 1099511627776):IC Tryz.prog 154 [] (.one (zca ss)) [] (.one (zca (zex ss))) [] :=
 qnu Tryz.call154 (fun blk off cap ss w h1 h2 h3=>Any.slices_Sort_string Tryz.lays190 blk off cap ss w h1 h2 h3) (fun p cap w=>Any.slices_Sort_string_none Tryz.lays190 p cap w) ss (by omega)
set_option maxHeartbeats 1000000 in
theorem zz9:CloneOf Tryz.prog 163 1 16:=by
 have t22:=Tryz.underlying64
 have q22:∀ (w:World) (a:Option Addr) (n c n' c':Nat),(binOp .eql 64 (.slice a n c) (.slice none n' c')).run Tryz.prog w = .ok (.bool a.isNone) w:=fun w a n c n' c'=>Lib.run_eql_slice_nil w _ _ a n c n' c' t22
 have u22:∀ w,Sem.run Tryz.prog (underlying 64) w = .ok (TypeDesc.slice 9) w:=run_underlying t22
 refine ⟨Tryz.call163,fun ad n c news w hl hn hbig hc h1=>?_,fun n c w=>?_⟩
 ·have A:Aside (∀ j u,news[j]? = some u->w.cell? (ad.add j) = some u):=hc
  clear hc
  obtain ⟨i0,z,hi,hz0,hzs,hz1,hz2⟩:=qn7 (P:=Tryz.prog) (t:=9) (n:=1) (b:=16) (z:=[.t (.str [])]) (by kernel_rfl) (by kernel_rfl) (by kernel_rfl) rfl
  go_enter Tryz.func163,Tryz.ntmps163
  go_wp2_with (at_builtin; refine wpList_append_own _ rfl _ _ 64 rfl w.heap.size 9 i0 z 1 16 t22 hi hz0 hz1 hz2 hzs (by decide) _ _ _ rfl (World.ownsRow_made w #[] 0 (Qw _) (Ka _) (by simp)) ad n c news rfl ?qc1 ?qc2 ?qc3 ?qc4 ?qc5 ?qc6 ?_)
  case qc1=>exact hl
  case qc2 =>
   intro j u hj
   exact Lib.cell?_alloc_some _ (A.out j u hj)
  case qc3=>exact h1
  case qc4=>rw [Q4]; exact hn
  case qc5=>rw [Q4]; exact hbig
  case qc6=>simp
  intro v' w1 hown hgrow hnil
  go_wp2
  go_ret
  refine ⟨_,v',rfl,by simpa using hown,hnil,?_⟩
  exact ((Below.refl _ w).alloc (Qw _) _).grown hgrow (by simp) (by intro k hk; simp [Value.ownBlock] at hk; omega)
 ·go_enter Tryz.func163,Tryz.ntmps163
  go_wp2
  go_ret
  exact ⟨rfl,rfl⟩
theorem qa2 (ss:List Str):∀ c ∈ (ss.map fun s=>[T.str s]).flatten,c.flat = true:=fun c hc=>by
 rw [zgp] at hc
 obtain ⟨s,_,rfl⟩:=Kf.1 hc
 rfl
theorem zoi (ss:List Str) (hs:ss.length <= 1099511627776):FC Tryz.prog 163 [.one (zca ss)] [.one (zca ss)] :=
 qi2 zz9 _ (by simp; omega) (qa2 ss)
theorem zn0 (xs:List Str) (s:Str):FC Tryz.prog 77 [.one (zca xs),sD s] [bD (xs.contains s)]:=by
 refine zdi (fun hw=>?_) Tryz.call77
 have hl:xs.length <= 9223372036854775807:=by simpa [zgg,wfT] using hw.1.1
 refine zaj Tryz.call77 Tryz.func77 rfl (by kernel_rfl) (zax (by kernel_rfl)) ?_
 simp -implicitDefEqProofs only[go_sem,Tryz.results77]
 refine zae (fun k:Nat=>hd [(0,vT (zca xs)),(1,vT (.str s)),(5,vI k)] [] []) (fun k=>k <= xs.length /\ s ∉ xs.take k) (fun k=>xs.length - k) 0 (zac ?_) ?_ ?_
 ·simp -implicitDefEqProofs only[go_sem]
 ·simp
 ·intro k ⟨hk,hr⟩
  by_cases hlt:k < xs.length
  ·simp -implicitDefEqProofs only[go_sem,zad,hlt]
   refine ⟨fun h=>?_,fun h=>?_⟩
   ·have e:xs[k] = s:=by simpa using h
    rw [Kn.2 (e ▸ Qe hlt)]
   ·have e:xs[k] ≠ s:=by simpa using h
    exact ⟨k + 1,⟨hlt,zf1 hlt hr e⟩,by omega,zac (by simp -implicitDefEqProofs only[go_sem]; rw [zal (by omega)])⟩
  ·simp -implicitDefEqProofs only[go_sem,hlt]
   rw [Qk (by omega)] at hr
   simpa using hr
theorem zc1 {α:Type} {p:α->Bool}:∀ {l:List α} {k:Nat},k <= l.length->(∀ x ∈ l.take k,p x = true)->(∀ h:k < l.length,p l[k] = false)->l.takeWhile p = l.take k /\ l.dropWhile p = l.drop k
 | [],k,hk,_,_=>by simp
 | a :: l,0,hk,_,h2=>by have:=h2 (by simp); simp only [List.getElem_cons_zero] at this; simp [this]
 | a :: l,k + 1,hk,h1,h2=>by
  have ha:=h1 a (by simp)
  obtain ⟨e1,e2⟩:=zc1 (l:=l) (k:=k) (by simpa using hk) (fun x hx=>h1 x (by simp [hx])) (fun h=>h2 (by simpa using h))
  simp [ha,e1,e2]
theorem qb8 {l:List Str} {s:Str} {k:Nat} (hk:k <= l.length) (h1:∀ x ∈ l.take k,Op.bytesLess x s = true) (h2:∀ h:k < l.length,Op.bytesLess l[k] s = false):zy4 l s = if (l.drop k).head? = some s then l else l.take k ++ [s] ++ l.drop k:=by
 obtain ⟨e1,e2⟩:=zc1 (p:=fun x=>Op.bytesLess x s) hk h1 h2
 unfold zy4
 rw [e1,e2]
theorem flR_of {rows:List (List T)} (h:∀ r ∈ rows,r.all T.flat = true):flR rows = true:=by
 induction rows with
 | nil=>rfl
 | cons r rs ih=>unfold flR; rw [h r (by simp),ih fun r hr=>h r (by simp [hr])]; rfl
theorem za4 (l:List Str):flR (l.map fun s=>[T.str s]) = true:=flR_of fun r hr=>by obtain ⟨s,_,rfl⟩:=Kf.1 hr; rfl
theorem zck (k:Nat) (l:List Str):flR ((l.map fun s=>[T.str s]).take k) = true:=by rw [<-Yi]; exact za4 _
theorem zch (k:Nat) (l:List Str):flR ((l.map fun s=>[T.str s]).drop k) = true:=by rw [<-List.map_drop]; exact za4 _
theorem zga {α β:Type} (f:α->β) (l:List α):(l.map f).take l.length = l.map f:=Qk (by simp)
theorem qb1 (l:List Str) (s:Str) (hl:l.length <= 2147483648):GC Tryz.prog 205 [(true,.one (zca l)),(false,sD s)] [.one (zca (zy4 l s))]:=by
 refine qgg Tryz.call205 Tryz.func205 rfl (by kernel_rfl) (by simp only [Qm,Qv,Tryz.ntmps205]; omega) (by simp [zbq,T.isPin]) ?_
 simp -implicitDefEqProofs only[go_sem,Tryz.results205]
 refine zae (fun k:Nat=>hd [(0,.one (.ow 0 0)),(1,vT (.str s)),(5,vI k)] [] [(0,⟨true,1,l.map fun s=>[.str s],0,true⟩)]) (fun k=>k <= l.length /\ ∀ x ∈ l.take k,Op.bytesLess x s = true) (fun k=>l.length - k) 0 (zac ?_) ?_ ?_
 ·simp -implicitDefEqProofs only[go_sem]
 ·simp
 ·intro k ⟨hk,hr⟩
  have hm1:min k l.length <= 4294967296:=by omega
  have hm2:min k l.length <= 4294967295:=by omega
  have hm3:min k l.length + 1 + (l.length - k) <= 4294967296:=by omega
  by_cases hlt:k < l.length
  ·have hnx:∀ {b},Op.bytesLess l[k] s = b->b = true->∀ x ∈ l.take (k + 1),Op.bytesLess x s = true:=fun {b} e hb x hx=>by
    rw [Qf hlt] at hx
    rcases Qt.1 hx with hx | hx
    ·exact hr x hx
    ·rw [Q5.1 hx,e,hb]
   simp -implicitDefEqProofs only[go_sem,zad,hlt]
   refine ⟨fun h=>⟨k + 1,⟨hlt,hnx rfl h⟩,by omega,zac (by simp -implicitDefEqProofs only[go_sem]; rw [zal (by omega)])⟩,fun h=>?_⟩
   have hp:=qb8 hk hr (fun _=>h)
   have hh:(l.drop k).head? = some l[k]:=by rw [List.head?_drop,List.getElem?_eq_getElem hlt]
   refine ⟨fun h2=>?_,fun h2=>?_⟩
   ·rw [hp,if_pos (by rw [hh]; simpa using h2)]
   ·rw [if_neg (by rw [hh]; simpa using h2)] at hp
    refine frzD 0 ?_
    simp -implicitDefEqProofs only[go_sem]
    refine drawn (by kernel_rfl) ?_
    simp -implicitDefEqProofs only[go_sem,hk]
    refine zbi (by simp -implicitDefEqProofs only[go_sem,hk]) ?_
    simp -implicitDefEqProofs only[go_sem,hk]
    refine zj0 true (by simp -implicitDefEqProofs only[go_sem,hk,ne_eq,Q4,hm1,hm2,hm3,zck,zch,zga,Kx,Qp,Qr,Qb]) ?_
    simp -implicitDefEqProofs only[go_sem,hk,ne_eq,Q4,hm1,hm2,hm3,zck,zch,zga,Kx,Qp,Qr,Qb]
    refine zbi (by simp -implicitDefEqProofs only[go_sem,hk]) ?_
    simp -implicitDefEqProofs only[go_sem,hk]
    refine zj0 true (by simp -implicitDefEqProofs only[go_sem,hk,ne_eq,Q4,hm1,hm2,hm3,zck,zch,zga,Kx,Qp,Qr,Qb]) ?_
    simp -implicitDefEqProofs only[go_sem,hk,ne_eq,Q4,hm1,hm2,hm3,zck,zch,zga,Kx,Qp,Qr,Qb]
    refine zj0 true (by simp -implicitDefEqProofs only[go_sem,hk,ne_eq,Q4,hm1,hm2,hm3,zck,zch,zga,Kx,Qp,Qr,Qb]) ?_
    simp -implicitDefEqProofs only[go_sem,hk,ne_eq,Q4,hm1,hm2,hm3,zck,zch,zga,Kx,Qp,Qr,Qb]
    refine ⟨by kernel_rfl,?_⟩
    rw [hp]; simp
  ·simp -implicitDefEqProofs only[go_sem,hlt]
   have hp:=qb8 hk hr (fun h=>absurd h hlt)
   rw [if_neg (by rw [Qs (by omega)]; simp)] at hp
   refine frzD 0 ?_
   simp -implicitDefEqProofs only[go_sem]
   refine drawn (by kernel_rfl) ?_
   simp -implicitDefEqProofs only[go_sem,hk]
   refine zbi (by simp -implicitDefEqProofs only[go_sem,hk]) ?_
   simp -implicitDefEqProofs only[go_sem,hk]
   refine zj0 true (by simp -implicitDefEqProofs only[go_sem,hk,ne_eq,Q4,hm1,hm2,hm3,zck,zch,zga,Kx,Qp,Qr,Qb]) ?_
   simp -implicitDefEqProofs only[go_sem,hk,ne_eq,Q4,hm1,hm2,hm3,zck,zch,zga,Kx,Qp,Qr,Qb]
   refine zbi (by simp -implicitDefEqProofs only[go_sem,hk]) ?_
   simp -implicitDefEqProofs only[go_sem,hk]
   refine zj0 true (by simp -implicitDefEqProofs only[go_sem,hk,ne_eq,Q4,hm1,hm2,hm3,zck,zch,zga,Kx,Qp,Qr,Qb]) ?_
   simp -implicitDefEqProofs only[go_sem,hk,ne_eq,Q4,hm1,hm2,hm3,zck,zch,zga,Kx,Qp,Qr,Qb]
   refine zj0 true (by simp -implicitDefEqProofs only[go_sem,hk,ne_eq,Q4,hm1,hm2,hm3,zck,zch,zga,Kx,Qp,Qr,Qb]) ?_
   simp -implicitDefEqProofs only[go_sem,hk,ne_eq,Q4,hm1,hm2,hm3,zck,zch,zga,Kx,Qp,Qr,Qb]
   refine ⟨by kernel_rfl,?_⟩
   rw [hp]; simp
end Go.Proofs.YtliiapbmkcbfaaaGreat
namespace Go.Proofs.YtliiapbmkcbfaaaGreat
set_option linter.unusedSimpArgs false
set_option linter.unusedVariables false
set_option linter.unusedSectionVars false
set_option maxRecDepth 4000
open Go.RowKit
theorem qno {b:UInt8} (h1:decide ((b.toNat:Int) < 65) = false) (h2:decide ((90:Int) < b.toNat) = false):zlm b = true:=by
 simp [zlm] at *; omega
theorem qir {b:UInt8} (h1:decide ((b.toNat:Int) < 65) = true):zlm b = false:=by
 simp [zlm] at *; omega
theorem qjd {b:UInt8} (h2:decide ((90:Int) < b.toNat) = true):zlm b = false:=by
 simp [zlm] at *; omega
theorem qla {b:UInt8} (h1:decide ((b.toNat:Int) < 97) = false) (h2:decide ((122:Int) < b.toNat) = false):zgt b = true:=by
 simp [zgt] at *; omega
theorem qe3 {b:UInt8} (h1:decide ((b.toNat:Int) < 97) = true):zgt b = false:=by
 simp [zgt] at *; omega
theorem qck {b:UInt8} (h2:decide ((122:Int) < b.toNat) = true):zgt b = false:=by
 simp [zgt] at *; omega
theorem zw1 {s:Str} (h:0 < s.length):zuy s = (zlm (s.getD 0 0) && (s.drop 1).all zqo):=by
 cases s
 ·exact absurd h (by simp)
 ·rfl
theorem ztn {s:Str} (h:0 < s.length):zm5 s = (zgt (s.getD 0 0) && (s.drop 1).all zpm):=by
 cases s
 ·exact absurd h (by simp)
 ·rfl
theorem zjx (s:Str):FC Tryz.prog 174 [sD s] [bD (zay s)]:=by
 refine zdi (fun hw=>?_) Tryz.call174
 have hl:s.length <= 9223372036854775807:=by simpa [zgg,wfT] using hw.1
 refine zaj Tryz.call174 Tryz.func174 rfl (by kernel_rfl) (zax (by kernel_rfl)) ?_
 simp -implicitDefEqProofs only[go_sem,Tryz.results174]
 refine callF (ql4 s.length 1 4) (by simp -implicitDefEqProofs only[go_sem]) ?_
 simp -implicitDefEqProofs only[go_sem]
 by_cases hb:inB s.length 1 4 = true
 ·have hp:0 < s.length:=by simp [inB] at hb; omega
  have hp':(0:Int) < s.length:=by omega
  have he:=zw1 hp
  refine ⟨fun h=>⟨hp',fun h1=>⟨hp',fun h2=>?_,fun h2=>?_⟩,fun h1=>?_⟩,fun h=>by simp [hb] at h⟩
  ·rw [zay,he,qjd h2]; rfl
  ·rw [qno h1 h2,Qn] at he
   refine zae (fun k:Nat=>hd [(0,vT (.str s)),(3,vI k)] [] []) (fun k=>k <= s.length /\ zuy s = (s.drop k).all zqo) (fun k=>s.length - k) 1 (zac ?_) ?_ ?_
   ·simp -implicitDefEqProofs only[go_sem]
   ·exact ⟨hp,he⟩
   ·intro k ⟨hk,hr⟩
    by_cases hlt:k < s.length
    ·have hg:s.getD k 0 = s[k]:=by simp [List.getD,hlt]
     rw [Qh hlt,Ks] at hr
     simp -implicitDefEqProofs only[go_sem,hlt]
     simp only [hg]
     refine callF (zr1 s[k]) (by simp -implicitDefEqProofs only[go_sem]) ?_
     simp -implicitDefEqProofs only[go_sem]
     refine ⟨fun h=>?_,fun h=>⟨k + 1,⟨hlt,?_⟩,by omega,zac (by simp -implicitDefEqProofs only[go_sem]; rw [zal (by omega)])⟩⟩
     ·have:zqo s[k] = false:=by simpa using h
      rw [zay,hr,this]; rfl
     ·have:zqo s[k] = true:=by simpa using h
      rw [hr,this]; rfl
    ·simp -implicitDefEqProofs only[go_sem,hlt]
     rw [zay,hr,Qs (by omega),hb]; rfl
  ·rw [zay,he,qir h1]; rfl
 ·have hb':inB s.length 1 4 = false:=by simpa using hb
  refine ⟨fun h=>by simp [hb'] at h,fun h=>?_⟩
  rw [zay,hb',Kb]
set_option maxHeartbeats 1000000 in
theorem zn2 (s:Str):FC Tryz.prog 221 [sD s] [bD (zc4 s)]:=by
 refine zdi (fun hw=>?_) Tryz.call221
 have hl:s.length <= 9223372036854775807:=by simpa [zgg,wfT] using hw.1
 refine zaj Tryz.call221 Tryz.func221 rfl (by kernel_rfl) (zax (by kernel_rfl)) ?_
 simp -implicitDefEqProofs only[go_sem,Tryz.results221]
 refine callF (ql4 s.length 1 6) (by simp -implicitDefEqProofs only[go_sem]) ?_
 simp -implicitDefEqProofs only[go_sem]
 by_cases hb:inB s.length 1 6 = true
 ·have hp:0 < s.length:=by simp [inB] at hb; omega
  have hp':(0:Int) < s.length:=by omega
  have he:=ztn hp
  refine ⟨fun h=>⟨hp',fun h1=>⟨hp',fun h2=>?_,fun h2=>?_⟩,fun h1=>?_⟩,fun h=>by simp [hb] at h⟩
  ·rw [zc4,he,qck h2]; rfl
  ·rw [qla h1 h2,Qn] at he
   have leaf:∀ l,l ∈ zv0->(s == l) = true->T.bool false = T.bool (zc4 s):=fun l hl e=>by
    have:zv0.contains s = true:=by rw [Kn,Ki.1 e]; exact hl
    rw [zc4,this,J1,Kb]
   refine ⟨fun e=>⟨fun _=>leaf _ (by simp [zv0]) e,fun e'=>absurd (e.symm.trans e') (by simp)⟩,fun n1=>?_⟩
   refine ⟨fun e=>⟨fun _=>leaf _ (by simp [zv0]) e,fun e'=>absurd (e.symm.trans e') (by simp)⟩,fun n2=>?_⟩
   refine ⟨fun e=>⟨fun _=>leaf _ (by simp [zv0]) e,fun e'=>absurd (e.symm.trans e') (by simp)⟩,fun n3=>?_⟩
   refine ⟨fun e=>⟨fun _=>leaf _ (by simp [zv0]) e,fun e'=>absurd (e.symm.trans e') (by simp)⟩,fun n4=>?_⟩
   refine ⟨fun e=>⟨fun _=>leaf _ (by simp [zv0]) e,fun e'=>absurd (e.symm.trans e') (by simp)⟩,fun n5=>?_⟩
   refine ⟨fun e=>⟨fun _=>leaf _ (by simp [zv0]) e,fun e'=>absurd (e.symm.trans e') (by simp)⟩,fun n6=>?_⟩
   refine ⟨fun e=>⟨fun _=>leaf _ (by simp [zv0]) e,fun e'=>absurd (e.symm.trans e') (by simp)⟩,fun n7=>?_⟩
   refine ⟨fun e=>leaf _ (by simp [zv0]) e,fun n8=>?_⟩
   have hnc:zv0.contains s = false:=by
    simp only [Je,ne_eq] at n1 n2 n3 n4 n5 n6 n7 n8
    rw [Bool.eq_false_iff,ne_eq,Kn]
    simp only [zv0,Qu,Jj,or_false,not_or]
    exact ⟨n1,n2,n3,n4,n5,n6,n7,n8⟩
   refine zae (fun k:Nat=>hd [(0,vT (.str s)),(3,vI k)] [] []) (fun k=>k <= s.length /\ zm5 s = (s.drop k).all zpm) (fun k=>s.length - k) 1 (zac ?_) ?_ ?_
   ·simp -implicitDefEqProofs only[go_sem]
   ·exact ⟨hp,he⟩
   ·intro k ⟨hk,hr⟩
    by_cases hlt:k < s.length
    ·have hg:s.getD k 0 = s[k]:=by simp [List.getD,hlt]
     rw [Qh hlt,Ks] at hr
     simp -implicitDefEqProofs only[go_sem,hlt]
     simp only [hg]
     refine callF (zr1 s[k]) (by simp -implicitDefEqProofs only[go_sem]) ?_
     simp -implicitDefEqProofs only[go_sem]
     simp only [hg]
     refine ⟨fun h=>⟨hlt,fun h'=>?_,fun h'=>⟨k + 1,⟨hlt,?_⟩,by omega,zac (by simp -implicitDefEqProofs only[go_sem]; rw [zal (by omega)])⟩⟩,fun h=>⟨k + 1,⟨hlt,?_⟩,by omega,zac (by simp -implicitDefEqProofs only[go_sem]; rw [zal (by omega)])⟩⟩
     ·have:zpm s[k] = false:=by
       simp [zpm] at h ⊢
       refine ⟨h,fun e=>?_⟩
       rw [e] at h'
       simp at h'
      rw [zc4,hr,this]; rfl
     ·have:zpm s[k] = true:=by
       have:=qn5 (b:=s[k]) (n:=95) (by omega)
       simp [zpm] at h' ⊢
       right
       simpa [h'] using this
      rw [hr,this]; rfl
     ·have:zpm s[k] = true:=by simp [zpm]; simp at h; simp [h]
      rw [hr,this]; rfl
    ·simp -implicitDefEqProofs only[go_sem,hlt]
     rw [zc4,hr,Qs (by omega),hb,hnc]; rfl
  ·rw [zc4,he,qe3 h1]; rfl
 ·have hb':inB s.length 1 6 = false:=by simpa using hb
  refine ⟨fun h=>by simp [hb'] at h,fun h=>?_⟩
  rw [zc4,hb',Kb]; rfl
end Go.Proofs.YtliiapbmkcbfaaaGreat
namespace Go.Proofs.YtliiapbmkcbfaaaGreat
set_option linter.unusedSimpArgs false
set_option linter.unusedVariables false
set_option linter.unusedSectionVars false
set_option maxRecDepth 4000
open Go.RowKit
def Tm.nodes:Tm->Nat:=Tm.fold fun _ _ rs=>1 + rs.sum
theorem Tm.nodes_eq (a:Tm):a.nodes = 1 + (a.args.map Tm.nodes).sum:=Tm.fold_eq _ a
def Tm.depth:Tm->Nat:=Tm.fold fun _ _ rs=>rs.foldl max 0 + 1
theorem Tm.depth_eq (a:Tm):a.depth = (a.args.map Tm.depth).foldl max 0 + 1:=Tm.fold_eq _ a
theorem zey:∀ a:Tm,a.nodes <= 1 + a.wt:=by
 refine zbf fun n xs ih=>?_
 rw [Tm.nodes_eq,Tm.wt_eq]
 show 1 + (xs.map Tm.nodes).sum <= 1 + (n.length + xs.length + (xs.map Tm.wt).sum)
 have:(xs.map Tm.nodes).sum <= xs.length + (xs.map Tm.wt).sum:=by
  clear n
  induction xs with
  | nil=>simp
  | cons x xs ih2 =>
   have h1:=ih x (by simp)
   have h2:=ih2 fun y hy=>ih y (by simp [hy])
   simp only [Qi,Q3,Qm]
   omega
 omega
theorem zkh {B:Nat}:∀ (xs:List Nat) (m:Nat),m <= B->(∀ x ∈ xs,x <= B)->xs.foldl max m <= B
 | [],m,h,_=>h
 | x :: xs,m,h,h2=>zkh xs (max m x) (by have:=h2 x (by simp); omega) fun y hy=>h2 y (by simp [hy])
theorem zm6:∀ a:Tm,a.depth <= a.nodes:=by
 refine zbf fun n xs ih=>?_
 rw [Tm.nodes_eq,Tm.depth_eq]
 show (xs.map Tm.depth).foldl max 0 + 1 <= 1 + (xs.map Tm.nodes).sum
 have:=zkh (B:=(xs.map Tm.nodes).sum) (xs.map Tm.depth) 0 (by omega) fun d hd=>by
  obtain ⟨x,hx,rfl⟩:=Kf.1 hd
  exact Kg (ih x hx) (zbo Tm.nodes xs x hx)
 omega
def szL (lim:Int):Int->List Int->Int
 | n,[]=>n
 | n,r :: rs=>if n > lim then n else szL lim (n + r) rs
def zgo:Tm->Int:=Tm.fold fun _ _ rs=>szL 30 1 rs
theorem zxn (a:Tm):zgo a = szL 30 1 (a.args.map zgo):=Tm.fold_eq _ a
theorem zk5 {α:Type} (f:α->Int) (g:α->Nat) (lim:Int):∀ (xs:List α) (n:Int),0 <= n->(∀ x ∈ xs,1 <= f x /\ f x <= g x /\ (f x <= lim->f x = g x))->szL lim n (xs.map f) <= n + (xs.map g).sum /\ n <= szL lim n (xs.map f) /\ (szL lim n (xs.map f) <= lim->szL lim n (xs.map f) = n + (xs.map g).sum)
 | [],n,_,_=>by simp [szL]
 | x :: xs,n,hn,h=>by
  obtain ⟨h1,h2,h3⟩:=h x (by simp)
  obtain ⟨k1,k2,k3⟩:=zk5 f g lim xs (n + f x) (by omega) fun y hy=>h y (by simp [hy])
  simp only [Qi,szL,Q3]
  split
  ·refine ⟨by omega,by omega,fun hh=>by omega⟩
  ·refine ⟨by omega,by omega,fun hh=>?_⟩
   have:=k3 hh
   rw [this]
   have:f x = g x:=h3 (by omega)
   omega
theorem zod:∀ a:Tm,1 <= zgo a /\ zgo a <= a.nodes /\ (zgo a <= 30->zgo a = a.nodes):=by
 refine zbf fun n xs ih=>?_
 rw [zxn,Tm.nodes_eq]
 show 1 <= szL 30 1 (xs.map zgo) /\ szL 30 1 (xs.map zgo) <= ((1 + (xs.map Tm.nodes).sum:Nat):Int) /\ _
 obtain ⟨k1,k2,k3⟩:=zk5 zgo Tm.nodes 30 xs 1 (by omega) ih
 refine ⟨k2,by omega,fun h=>?_⟩
 have:=k3 h
 show szL 30 1 (xs.map zgo) = _
 rw [this]; show _ = ((1 + (xs.map Tm.nodes).sum:Nat):Int); omega
theorem qii (a:Tm):decide (zgo a <= 30) = decide (a.nodes <= 30):=by
 obtain ⟨h1,h2,h3⟩:=zod a
 rw [Ju]
 exact ⟨fun h=>by have:=h3 h; omega,fun h=>by omega⟩
def qa4 {α:Type} (f:α->Nat) (xs:List α) (k:Nat):Nat:=((xs.drop k).map f).sum
theorem zd0 {α:Type} (f:α->Nat) (xs:List α):qa4 f xs 0 = (xs.map f).sum:=by simp [qa4]
theorem zg1 {α:Type} (f:α->Nat) (xs:List α) (k:Nat) (h:k < xs.length):qa4 f xs k = f xs[k] + qa4 f xs (k + 1):=by
 unfold qa4
 rw [Qh h,Qi,Q3]
set_option maxHeartbeats 400000 in
theorem qpx (a:Tm) (hs:a.wt <= 1099511627776) (H:∀ x ∈ a.args,FC Tryz.prog 265 [tmD x] [iD (zgo x)]):FC Tryz.prog 265 [tmD a] [iD (zgo a)]:=by
 refine zdi (fun hw=>?_) Tryz.call265
 have hl:a.args.length <= 9223372036854775807:=by rw [Tm.wt_eq] at hs; omega
 have hn:=zey a
 have hN:=a.nodes_eq
 simp only [tmD,zaa]
 refine zaj Tryz.call265 Tryz.func265 rfl (by kernel_rfl) (zax (by kernel_rfl)) ?_
 simp -implicitDefEqProofs only[go_sem,Tryz.results265]
 refine zae (fun p:Nat × Int=>hd [(3,vI p.2),(7,vT (tmS a.args)),(8,vI a.args.length),(9,vI p.1)] [] []) (fun p=>p.1 <= a.args.length /\ zgo a = szL 30 p.2 ((a.args.drop p.1).map zgo) /\ 1 <= p.2 /\ p.2 + qa4 Tm.nodes a.args p.1 <= a.nodes) (fun p=>a.args.length - p.1) (0,1) (zac ?_) ?_ ?_
 ·simp -implicitDefEqProofs only[go_sem]
 ·exact ⟨by simp,by rw [zxn]; rfl,by omega,by rw [zd0]; omega⟩
 ·intro ⟨k,n⟩ ⟨hk,hr,h1,h2⟩
  simp only at hk hr h1 h2
  by_cases hlt:k < a.args.length
  ·have hd:=zg1 Tm.nodes a.args k hlt
   obtain ⟨s1,s2,s3⟩:=zod a.args[k]
   rw [Qh hlt,Qi,szL] at hr
   simp -implicitDefEqProofs only[go_sem,zad,hlt,zaa]
   refine ⟨fun h=>?_,fun h=>?_⟩
   ·rw [hr,if_pos (by simpa using h)]
   ·refine callF (H a.args[k] (Qe hlt)) (by simp -implicitDefEqProofs only[go_sem,zaa]) ?_
    simp -implicitDefEqProofs only[go_sem,zaa]
    rw [if_neg (by simpa using h)] at hr
    exact ⟨(k + 1,n + zgo a.args[k]),⟨hlt,hr,by simp only; omega,by simp only; omega⟩,by simp only; omega,zac (by simp -implicitDefEqProofs only[go_sem]; rw [zal (by omega),zb2 (by omega) (by omega)]; exact ⟨rfl,rfl⟩)⟩
  ·simp -implicitDefEqProofs only[go_sem,hlt]
   rw [hr,Qs (by omega)]; rfl
theorem size_c:∀ a:Tm,a.wt <= 1099511627776->FC Tryz.prog 265 [tmD a] [iD (zgo a)] :=
 zbf fun n xs ih hs=>qpx (.mk n xs) hs fun x hx=>ih x hx (by
  have:=Tm.wt_eq (.mk n xs)
  have:=zbo Tm.wt xs x hx
  simp only [Tm.args] at *; omega)
set_option maxHeartbeats 400000 in
theorem qh8 (a:Tm) (hs:a.wt <= 1099511627776) (H:∀ x ∈ a.args,FC Tryz.prog 266 [tmD x] [iD x.depth]):FC Tryz.prog 266 [tmD a] [iD a.depth]:=by
 have hl:a.args.length <= 9223372036854775807:=by rw [Tm.wt_eq] at hs; omega
 have hn:=zey a
 have hdn:=zm6 a
 have hD:=a.depth_eq
 simp only [tmD,zaa]
 refine zaj Tryz.call266 Tryz.func266 rfl (by kernel_rfl) (zax (by kernel_rfl)) ?_
 simp -implicitDefEqProofs only[go_sem,Tryz.results266]
 refine zae (fun p:Nat × Nat=>hd [(3,vI p.2),(7,vT (tmS a.args)),(8,vI a.args.length),(9,vI p.1)] [] []) (fun p=>p.1 <= a.args.length /\ a.depth = ((a.args.drop p.1).map Tm.depth).foldl max p.2 + 1) (fun p=>a.args.length - p.1) (0,0) (zac ?_) ?_ ?_
 ·simp -implicitDefEqProofs only[go_sem]
 ·exact ⟨by simp,hD⟩
 ·intro ⟨k,n⟩ ⟨hk,hr⟩
  simp only at hk hr
  by_cases hlt:k < a.args.length
  ·rw [Qh hlt,Qi,Jg] at hr
   simp -implicitDefEqProofs only[go_sem,zad,hlt,zaa]
   refine callF (H a.args[k] (Qe hlt)) (by simp -implicitDefEqProofs only[go_sem,zaa]) ?_
   simp -implicitDefEqProofs only[go_sem,zaa]
   exact ⟨(k + 1,max n a.args[k].depth),⟨hlt,hr⟩,by simp only; omega,zac (by simp -implicitDefEqProofs only[go_sem]; rw [zal (by omega)]; exact ⟨by congr 1; omega,rfl⟩)⟩
  ·simp -implicitDefEqProofs only[go_sem,hlt]
   rw [Qs (by omega)] at hr
   simp only [Qy,List.foldl_nil] at hr
   rw [hr,zal (by omega)]
theorem qn8:∀ a:Tm,a.wt <= 1099511627776->FC Tryz.prog 266 [tmD a] [iD a.depth] :=
 zbf fun n xs ih hs=>qh8 (.mk n xs) hs fun x hx=>ih x hx (by
  have:=Tm.wt_eq (.mk n xs)
  have:=zbo Tm.wt xs x hx
  simp only [Tm.args] at *; omega)
def zdc (a:Tm):Bool:=decide (a.nodes <= 30) && decide (a.depth <= 8)
theorem zri (a:Tm) (hs:a.wt <= 1099511627776):FC Tryz.prog 225 [tmD a] [bD (zdc a)]:=by
 simp only [tmD,zaa]
 refine zaj Tryz.call225 Tryz.func225 rfl (by kernel_rfl) (zax (by kernel_rfl)) ?_
 simp -implicitDefEqProofs only[go_sem,Tryz.results225]
 refine callF (size_c a hs) (by simp -implicitDefEqProofs only[go_sem,zaa]) ?_
 simp -implicitDefEqProofs only[go_sem,zaa]
 rw [qii]
 refine ⟨fun h=>?_,fun h=>?_⟩
 ·refine callF (qn8 a hs) (by simp -implicitDefEqProofs only[go_sem,zaa]) ?_
  simp -implicitDefEqProofs only[go_sem,zaa]
  rw [zdc,h,Qn]
  congr 1
  rw [Ju]; omega
 ·rw [zdc,h]; rfl
end Go.Proofs.YtliiapbmkcbfaaaGreat
namespace Go.Proofs.YtliiapbmkcbfaaaGreat
set_option linter.unusedSimpArgs false
set_option linter.unusedVariables false
set_option linter.unusedSectionVars false
set_option maxRecDepth 4000
open Go.RowKit
theorem qjx (σ:St) (caps:List T):VDs σ (caps.map fun t=>.one (.t t)) (caps.map .one) = True:=by
 induction caps with
 | nil=>simp [VDs]
 | cons t ts ih=>rw [Qi,Qi,zxv,ih]; simp [ql7,CT_t]
attribute [go_sem] qjx
def zxz {α:Type} (xs:List α) (p:α->Bool):Int:=if xs.any p then xs.findIdx p else -1
theorem zhh {α:Type} {xs:List α} {p:α->Bool} {k:Nat} (hk:k < xs.length) (hn:∀ x ∈ xs.take k,p x = false) (h:p xs[k] = true):zxz xs p = k:=by
 have ha:xs.any p = true:=List.any_eq_true.2 ⟨xs[k],Qe hk,h⟩
 have hf:xs.findIdx p = k:=(List.findIdx_eq hk).2 ⟨h,fun j hj=>hn _ (by
  rw [List.mem_take_iff_getElem]; exact ⟨j,by omega,rfl⟩)⟩
 rw [zxz,if_pos ha,hf]
theorem zif {α:Type} {xs:List α} {p:α->Bool} (hn:∀ x ∈ xs,p x = false):zxz xs p = -1:=by
 have ha:xs.any p = false:=by rw [List.any_eq_false]; exact fun x hx=>by simp [hn x hx]
 rw [zxz,ha]; rfl
theorem zhp {α:Type} (xs:List α) (p:α->Bool):decide (0 <= zxz xs p) = xs.any p:=by
 unfold zxz
 cases xs.any p <;> simp
theorem zu1 {α:Type} (xs:List α) (p:α->Bool):decide (zxz xs p >= 0) = xs.any p:=zhp xs p
theorem zef {α:Type} {xs:List α} {p:α->Bool} {k:Nat} (hk:k < xs.length) (hn:∀ x ∈ xs.take k,p x = false) (h:p xs[k] = false):∀ x ∈ xs.take (k + 1),p x = false:=by
 rw [Qf hk]
 intro x hx
 rcases Qt.1 hx with hx | hx
 ·exact hn x hx
 ·rw [Q5.1 hx]; exact h
theorem zgy (xs:List Tm) (p:Tm->Bool) (g:FuncId) (caps:List T) (H:∀ x ∈ xs,FC Tryz.prog g (tmD x :: caps.map .one) [bD (p x)]):FC Tryz.prog 176 [.one (tmS xs),.one (.fn g caps)] [iD (zxz xs p)]:=by
 refine zdi (fun hw=>?_) Tryz.call176
 have hl:xs.length <= 9223372036854775807:=by simpa [zgg,wfT] using hw.1.1
 refine zaj Tryz.call176 Tryz.func176 rfl (by kernel_rfl) (zax (by kernel_rfl)) ?_
 simp -implicitDefEqProofs only[go_sem,Tryz.results176]
 refine zae (fun k:Nat=>hd [(0,vT (tmS xs)),(1,vT (.fn g caps)),(7,vI xs.length),(8,vI k)] [] []) (fun k=>k <= xs.length /\ ∀ x ∈ xs.take k,p x = false) (fun k=>xs.length - k) 0 (zac ?_) ?_ ?_
 ·simp -implicitDefEqProofs only[go_sem]
 ·simp
 ·intro k ⟨hk,hr⟩
  by_cases hlt:k < xs.length
  ·simp -implicitDefEqProofs only[go_sem,zad,hlt,zaa]
   refine callF (H xs[k] (Qe hlt)) (by simp -implicitDefEqProofs only[go_sem,zaa]) ?_
   simp -implicitDefEqProofs only[go_sem,zaa]
   refine ⟨fun h=>?_,fun h=>⟨k + 1,⟨hlt,zef hlt hr h⟩,by omega,zac (by simp -implicitDefEqProofs only[go_sem]; rw [zal (by omega)])⟩⟩
   rw [zhh hlt hr h]
  ·simp -implicitDefEqProofs only[go_sem,hlt]
   rw [Qk (by omega)] at hr
   rw [zif hr]
theorem ze1 (xs:List Tm) (p:Tm->Bool) (g:FuncId) (caps:List T) (H:∀ x ∈ xs,FC Tryz.prog g (tmD x :: caps.map .one) [bD (p x)]):FC Tryz.prog 107 [.one (tmS xs),.one (.fn g caps)] [bD (xs.any p)]:=by
 refine zaj Tryz.call107 Tryz.func107 rfl (by kernel_rfl) (zax (by kernel_rfl)) ?_
 simp -implicitDefEqProofs only[go_sem,Tryz.results107]
 refine callF (zgy xs p g caps H) (by simp -implicitDefEqProofs only[go_sem]) ?_
 simp -implicitDefEqProofs only[go_sem]
 rw [zhp]
theorem zi8 (xs:List Fm) (p:Fm->Bool) (g:FuncId) (caps:List T) (H:∀ x ∈ xs,FC Tryz.prog g (fmD x :: caps.map .one) [bD (p x)]):FC Tryz.prog 248 [.one (fmS xs),.one (.fn g caps)] [iD (zxz xs p)]:=by
 refine zdi (fun hw=>?_) Tryz.call248
 have hl:xs.length <= 9223372036854775807:=by simpa [zgg,wfT] using hw.1.1
 refine zaj Tryz.call248 Tryz.func248 rfl (by kernel_rfl) (zax (by kernel_rfl)) ?_
 simp -implicitDefEqProofs only[go_sem,Tryz.results248]
 refine zae (fun k:Nat=>hd [(0,vT (fmS xs)),(1,vT (.fn g caps)),(7,vI xs.length),(8,vI k)] [] []) (fun k=>k <= xs.length /\ ∀ x ∈ xs.take k,p x = false) (fun k=>xs.length - k) 0 (zac ?_) ?_ ?_
 ·simp -implicitDefEqProofs only[go_sem]
 ·simp
 ·intro k ⟨hk,hr⟩
  by_cases hlt:k < xs.length
  ·simp -implicitDefEqProofs only[go_sem,zad,hlt,zab,zaa]
   refine callF (H xs[k] (Qe hlt)) (by simp -implicitDefEqProofs only[go_sem,zab,zaa]) ?_
   simp -implicitDefEqProofs only[go_sem,zab,zaa]
   refine ⟨fun h=>?_,fun h=>⟨k + 1,⟨hlt,zef hlt hr h⟩,by omega,zac (by simp -implicitDefEqProofs only[go_sem]; rw [zal (by omega)])⟩⟩
   rw [zhh hlt hr h]
  ·simp -implicitDefEqProofs only[go_sem,hlt]
   rw [Qk (by omega)] at hr
   rw [zif hr]
theorem za0 (xs:List Fm) (p:Fm->Bool) (g:FuncId) (caps:List T) (H:∀ x ∈ xs,FC Tryz.prog g (fmD x :: caps.map .one) [bD (p x)]):FC Tryz.prog 209 [.one (fmS xs),.one (.fn g caps)] [bD (xs.any p)]:=by
 refine zaj Tryz.call209 Tryz.func209 rfl (by kernel_rfl) (zax (by kernel_rfl)) ?_
 simp -implicitDefEqProofs only[go_sem,Tryz.results209]
 refine callF (zi8 xs p g caps H) (by simp -implicitDefEqProofs only[go_sem]) ?_
 simp -implicitDefEqProofs only[go_sem]
 rw [zhp]
end Go.Proofs.YtliiapbmkcbfaaaGreat
namespace Go.Proofs.YtliiapbmkcbfaaaGreat
set_option linter.unusedSimpArgs false
set_option linter.unusedVariables false
set_option linter.unusedSectionVars false
set_option maxRecDepth 4000
open Go.RowKit
def Tm.names:Tm->Bool:=Tm.fold fun n xs rs=>if zay n = true then decide (xs.length = 0) else zc4 n && decide (xs.length <= 4) && rs.all id
theorem Tm.names_eq (a:Tm):a.names = if zay a.name = true then decide (a.args.length = 0) else zc4 a.name && decide (a.args.length <= 4) && a.args.all Tm.names:=by
 unfold Tm.names
 rw [Tm.fold_eq]
 simp only [J0]
 rfl
theorem zd4 {α:Type} (xs:List α) (p:α->Bool):(!xs.any fun x=>!p x) = xs.all p:=by
 induction xs with
 | nil=>rfl
 | cons x xs ih=>simp only [List.any_cons,Ks,Bool.not_or,Bool.not_not,ih]
theorem zt8 (a:Tm) (H:∀ x ∈ a.args,FC Tryz.prog 226 [tmD x] [bD x.names]):FC Tryz.prog 226 [tmD a] [bD a.names]:=by
 have H1:∀ x ∈ a.args,FC Tryz.prog 267 [tmD x] [bD (!x.names)]:=fun x hx=>by
  simp only [tmD,zaa]
  refine zaj Tryz.call267 Tryz.func267 rfl (by kernel_rfl) (zax (by kernel_rfl)) ?_
  simp -implicitDefEqProofs only[go_sem,Tryz.results267]
  refine callF (H x hx) (by simp -implicitDefEqProofs only[go_sem,zaa]) ?_
  simp -implicitDefEqProofs only[go_sem,zaa]
 have hN:=a.names_eq
 simp only [tmD,zaa]
 refine zaj Tryz.call226 Tryz.func226 rfl (by kernel_rfl) (zax (by kernel_rfl)) ?_
 simp -implicitDefEqProofs only[go_sem,Tryz.results226]
 refine callF (ze4 a.name) (by simp -implicitDefEqProofs only[go_sem]) ?_
 simp -implicitDefEqProofs only[go_sem]
 refine ⟨fun h=>?_,fun h=>?_⟩
 ·rw [hN,if_pos h]
  congr 1
  rw [Kk]; simp
 ·rw [h] at hN
  simp only [Qo,if_false] at hN
  refine callF (zor a.name) (by simp -implicitDefEqProofs only[go_sem]) ?_
  simp -implicitDefEqProofs only[go_sem]
  refine ⟨fun h1=>⟨fun h2=>?_,fun h2=>?_⟩,fun h1=>?_⟩
  ·refine callF (ze1 a.args (fun x=>!x.names) _ [] H1) (by simp -implicitDefEqProofs only[go_sem]) ?_
   simp -implicitDefEqProofs only[go_sem]
   rw [zd4,hN,h1,Qn]
   rw [show decide (a.args.length <= 4) = true by simp at h2 ⊢; omega]; rfl
  ·rw [hN,h1,Qn,show decide (a.args.length <= 4) = false by simp at h2 ⊢; omega]; rfl
  ·rw [hN,h1]; rfl
theorem zjm:∀ a:Tm,FC Tryz.prog 226 [tmD a] [bD a.names]:=zbf fun n xs ih=>zt8 (.mk n xs) ih
def Tm.good (a:Tm):Bool:=zdc a && a.names
theorem zee (a:Tm) (hs:a.wt <= 1099511627776):FC Tryz.prog 177 [tmD a] [bD a.good]:=by
 simp only [tmD,zaa]
 refine zaj Tryz.call177 Tryz.func177 rfl (by kernel_rfl) (zax (by kernel_rfl)) ?_
 simp -implicitDefEqProofs only[go_sem,Tryz.results177]
 refine callF (zri a hs) (by simp -implicitDefEqProofs only[go_sem,zaa]) ?_
 simp -implicitDefEqProofs only[go_sem,zaa]
 refine ⟨fun h=>?_,fun h=>?_⟩
 ·refine callF (zjm a) (by simp -implicitDefEqProofs only[go_sem,zaa]) ?_
  simp -implicitDefEqProofs only[go_sem,zaa]
  rw [Tm.good,h,Qn]
 ·rw [Tm.good,h,Qj]
theorem ztj (a:Tm):FC Tryz.prog 246 [tmD a] [bD (a.name == [61])]:=by
 simp only [tmD,zaa]
 refine zaj Tryz.call246 Tryz.func246 rfl (by kernel_rfl) (zax (by kernel_rfl)) ?_
 simp -implicitDefEqProofs only[go_sem,Tryz.results246]
def Tm.atomOk (a:Tm):Bool:=if (a.name == [61]) = true then decide (a.args.length = 2) && zdc a && a.args.all Tm.names else zc4 a.name && a.good
theorem qfh {α:Type} {xs:List α} {p:α->Bool} (h:xs.length = 2):xs.all p = (p (xs[0]'(by omega)) && p (xs[1]'(by omega))):=by
 match xs,h with
 | [a,b],_=>simp
theorem zqw (a:Tm) (hs:a.wt <= 1099511627776):FC Tryz.prog 207 [tmD a] [bD a.atomOk]:=by
 have hN:a.atomOk = if (a.name == [61]) = true then decide (a.args.length = 2) && zdc a && a.args.all Tm.names else zc4 a.name && a.good:=rfl
 simp only [tmD,zaa]
 refine zaj Tryz.call207 Tryz.func207 rfl (by kernel_rfl) (zax (by kernel_rfl)) ?_
 simp -implicitDefEqProofs only[go_sem,Tryz.results207]
 refine callF (ztj a) (by simp -implicitDefEqProofs only[go_sem,zaa]) ?_
 simp -implicitDefEqProofs only[go_sem,zaa]
 refine ⟨fun h=>?_,fun h=>?_⟩
 ·rw [if_pos h] at hN
  by_cases h2:a.args.length = 2
  ·have k0:0 < a.args.length:=by omega
   have k1:1 < a.args.length:=by omega
   have e2:((a.args.length:Int) == 2) = true:=by simp [h2]
   have l0:(0:Int) < a.args.length:=by omega
   have l1:(1:Int) < a.args.length:=by omega
   rw [qfh h2,show decide (a.args.length = 2) = true by simp [h2]] at hN
   simp only [Qn] at hN
   simp only [e2,qfo,zg6,qo2,zfi,and_true]
   refine callF (zri a hs) (by simp -implicitDefEqProofs only[go_sem,zaa,l0,zad,k0]) ?_
   simp -implicitDefEqProofs only[go_sem,zaa,l0,zad,k0]
   refine ⟨fun h3=>?_,fun h3=>?_⟩
   ·refine callF (zjm a.args[0]) (by simp -implicitDefEqProofs only[go_sem,zaa,l1,zad,k1]) ?_
    simp -implicitDefEqProofs only[go_sem,zaa,l1,zad,k1]
    refine ⟨fun h4=>?_,fun h4=>?_⟩
    ·refine callF (zjm a.args[1]) (by simp -implicitDefEqProofs only[go_sem,zaa]) ?_
     simp -implicitDefEqProofs only[go_sem,zaa]
     rw [hN,h3,h4]; rfl
    ·rw [hN,h3,h4]; rfl
   ·rw [hN,h3]; rfl
  ·have e2:((a.args.length:Int) == 2) = false:=by simp; omega
   simp only [e2,qfo,qpc,zg6,zfi,and_true,true_and,qoo]
   rw [hN,show decide (a.args.length = 2) = false by simpa using h2]; rfl
 ·rw [h] at hN
  simp only [Qo,if_false] at hN
  refine callF (zor a.name) (by simp -implicitDefEqProofs only[go_sem]) ?_
  simp -implicitDefEqProofs only[go_sem]
  refine ⟨fun h3=>?_,fun h3=>?_⟩
  ·refine callF (zee a hs) (by simp -implicitDefEqProofs only[go_sem,zaa]) ?_
   simp -implicitDefEqProofs only[go_sem,zaa]
   rw [hN,h3,Qn]
  ·rw [hN,h3,Qj]
def Tm.none (a:Tm):Bool:=a.name == [] && decide (a.args.length = 0)
theorem zcb (a:Tm):FC Tryz.prog 208 [tmD a] [bD a.none]:=by
 simp only [tmD,zaa]
 refine zaj Tryz.call208 Tryz.func208 rfl (by kernel_rfl) (zax (by kernel_rfl)) ?_
 simp -implicitDefEqProofs only[go_sem,Tryz.results208]
 unfold Tm.none
 refine ⟨fun h=>?_,fun h=>?_⟩
 ·rw [h,Qn]
  congr 1
  rw [Kk]; simp
 ·rw [h]; rfl
def isQ (n:Int):Bool:=n == 8 || n == 9
def zm8 (n:Int):Bool:=n == 5 || n == 6 || n == 7
theorem zan (n:Int):FC Tryz.prog 130 [iD n] [bD (isQ n)]:=by
 refine zaj Tryz.call130 Tryz.func130 rfl (by kernel_rfl) (zax (by kernel_rfl)) ?_
 simp -implicitDefEqProofs only[go_sem,Tryz.results130]
 unfold isQ
 refine ⟨fun h=>?_,fun h=>?_⟩ <;> simp [h]
theorem zhd (n:Int):FC Tryz.prog 206 [iD n] [bD (zm8 n)]:=by
 refine zaj Tryz.call206 Tryz.func206 rfl (by kernel_rfl) (zax (by kernel_rfl)) ?_
 simp -implicitDefEqProofs only[go_sem,Tryz.results206]
 unfold zm8
 refine ⟨fun h=>⟨fun h2=>?_,fun h2=>?_⟩,fun h=>?_⟩ <;> simp [*]
end Go.Proofs.YtliiapbmkcbfaaaGreat
