/-
  The walk over plain data, and contracts of functions of the program and of its laws.
  Conditions: those that each theorem names.
-/
import Derived.Test.YtmhbmpbgpjljeaaGreatQL3
import Derived.RangeFuncNested
import Derived.RangeFuncLeaves
import Derived.Test.YtmhbmpbgpjljeaaGreatProg
import Derived.KernelRfl
import Derived.Test.YtmhbmpbgpjljeaaGreatQL1
namespace Go.Proofs.YtmhbmpbgpjljeaaGreat
set_option linter.unusedSimpArgs false
set_option linter.unusedVariables false
set_option linter.unusedSectionVars false
set_option maxRecDepth 4000
set_option maxHeartbeats 8000000
section
open Go.RowKit
variable {P:Program}
abbrev Sr:=Nat×Option (Nat×Nat)
def okQ:Option (Nat×Nat)->Option (Nat×Nat)->Bool
 | some a,some b=>!(a.1==b.1&&a.2==b.2)
 | _,_=>false
def okS:List Sr->Sr->Bool
 | [],_=>true
 | (e,p)::u,(e',p')=>(if e=e' then okQ p p' else true)&&okS u (e',p')
def owU (x:Option Ev)(sz:Nat)(rows:List (List T))(g:Nat):Prop:=zaq x λy=>y.deep=true/\y.sz=sz/\(y.rows=rows\/zgy y.rows=rows)/\y.gen=g/\y.on=true
def gvT (σ:St)(K:List Sr->List (Nat×Nat×Nat)->Prop)(u:List Sr)(ps:List (Nat×Nat×Nat))(x t:T):Prop:=match x,ps with
 | .pin v y,(e,i,j)::ps=>y=t/\okS u (e,some (i,j))=true/\onN (σ.ev e) i j v t/\K ((e,some (i,j))::u) ps
 | x,ps=>x=t/\t.flat=true/\K u ps
theorem qi6 {σ:St}{K K':List Sr->List (Nat×Nat×Nat)->Prop}(hK:∀u ps,K u ps->K' u ps){u:List Sr}{ps:List (Nat×Nat×Nat)}{x t:T}(h:gvT σ K u ps x t):gvT σ K' u ps x t:=by
 unfold gvT at h⊢
 split at h
 ·exact⟨h.1,h.2.1,h.2.2.1,hK _ _ h.2.2.2⟩
 ·exact⟨h.1,h.2.1,hK _ _ h.2.2⟩
def gvK (σ:St)(K:List Sr->List (Nat×Nat×Nat)->Prop):List Sr->List (Nat×Nat×Nat)->List C->List T->Prop
 | u,ps,[],[]=>K u ps
 | u,ps,.t x::cs,t::ts=>gvT σ (λu ps=>gvK σ K u ps cs ts) u ps x t
 | u,ps,.nl _::cs,.sl _ rows::ts=>rows=[]/\gvK σ K u ps cs ts
 | u,ps,.ow e g::cs,.sl sz rows::ts=>okS u (e,none)=true/\owU (σ.ev e) sz rows g/\gvK σ K ((e,none)::u) ps cs ts
 | u,(e,i,j)::ps,.cv v::cs,t::ts=>okS u (e,some (i,j))=true/\onN (σ.ev e) i j v t/\gvK σ K ((e,some (i,j))::u) ps cs ts
 | _,_,_,_=>False
def rdC:C->T->Prop
 | .t x,y=>x=y/\T.nm y=true
 | .fn f [],.fn g []=>f=g
 | .rn x,y=>x=y
 | .er cs o,.ptr cs'=>o=0/\cs=cs'
 | .nl _,.sl _ rows=>rows=[]
 | _,_=>False
def rdCs:List C->List T->Prop
 | [],[]=>True
 | c::cs,t::ts=>rdC c t/\rdCs cs ts
 | _,_=>False
def rdV:V->D->Prop
 | .one c,.one t=>rdC c t
 | .agg cs,.agg ts=>rdCs cs ts
 | _,_=>False
def gvA (σ:St)(K:List Sr->Prop):List Sr->List (Nat×Nat×Nat)->List V->List (Bool×D)->Prop
 | u,_,[],[]=>K u
 | u,ps,v::vs,(false,d)::ds=>rdV v d/\gvA σ K u ps vs ds
 | u,ps,.one c::vs,(true,.one t)::ds=>gvK σ (λu ps=>gvA σ K u ps vs ds) u ps [c] [t]
 | u,ps,.agg cs::vs,(true,.agg ts)::ds=>gvK σ (λu ps=>gvA σ K u ps vs ds) u ps cs ts
 | _,_,_,_=>False
theorem zf7 {σ:St}{K K':List Sr->List (Nat×Nat×Nat)->Prop}(hK:∀u ps,K u ps->K' u ps):∀{cs:List C}{ts:List T}{u:List Sr}{ps:List (Nat×Nat×Nat)},gvK σ K u ps cs ts->gvK σ K' u ps cs ts
 | [],[],_,_,h=>hK _ _ h
 | [],_::_,_,_,h=>by cases h
 | c::cs,[],u,ps,h=>by cases c<;>first|exact(show False from h).elim|(cases ps<;>exact(show False from h).elim)
 | c::cs,t::ts,u,ps,h=>by
  unfold gvK at h⊢;split at h
  ·rename_i e1 e2;cases e1
  ·rename_i e1 e2;cases e1;cases e2;exact qi6 (λu ps h=>zf7 hK h) h
  ·rename_i e1 e2;cases e1;cases e2;exact⟨h.1,zf7 hK h.2⟩
  ·rename_i e1 e2;cases e1;cases e2;exact⟨h.1,h.2.1,zf7 hK h.2.2⟩
  ·rename_i e1 e2;cases e1;cases e2;exact⟨h.1,h.2.1,zf7 hK h.2.2⟩
  ·exact h.elim
theorem zg1 {σ:St}{K K':List Sr->Prop}(hK:∀u,K u->K' u):∀{xs:List V}{ds:List (Bool×D)}{u:List Sr}{ps:List (Nat×Nat×Nat)},gvA σ K u ps xs ds->gvA σ K' u ps xs ds
 | [],[],_,_,h=>hK _ h
 | [],_::_,_,_,h=>h.elim
 | x::xs,[],_,_,h=>by cases x<;>exact h.elim
 | x::xs,(false,d)::ds,_,_,h=>by unfold gvA at h⊢;exact⟨h.1,zg1 hK h.2⟩
 | .one c::xs,(true,.one t)::ds,_,_,h=>by unfold gvA at h⊢;exact zf7 (λu ps hu=>zg1 hK hu) h
 | .agg cs::xs,(true,.agg ts)::ds,_,_,h=>by unfold gvA at h⊢;exact zf7 (λu ps hu=>zg1 hK hu) h
 | .one _::_,(true,.agg _)::_,_,_,h=>h.elim
 | .agg _::_,(true,.one _)::_,_,_,h=>h.elim
 | .tup _::_,(true,d)::_,_,_,h=>by cases d<;>exact h.elim
theorem zav.fam {w:World}:∀{cs:List T}{vs:List Value}{fps:List Nat},zav w cs vs fps->∃F:Nat->List Nat,(∀k c,cs[k]?=some c->∃v,vs[k]?=some v/\zas w c v (F k))/\(∀k b,b∈F k->b∈fps)/\(fps.Nodup->(∀k,(F k).Nodup)/\∀k k',k≠k'->∀b∈F k,b∉F k')
 | [],vs,fps,h=>⟨λ_=>[],λk c hc=>by simp at hc,by simp,λ_=>⟨by simp,by simp⟩⟩
 | c::cs,_,_,h=>by
  obtain⟨v,vs',f1,f2,rfl,rfl,h1,h2⟩:=h;obtain⟨F,k1,k2,k3⟩:=zav.fam h2;refine⟨λk=>match k with|0=>f1|k+1=>F k,λk c' hc=>?_,λk b hb=>?_,λhn=>?_⟩
  ·cases k with
   | zero=>simp only[List.getElem?_cons_zero,Qf]at hc;subst hc;exact⟨v,rfl,h1⟩
   | succ k=>exact k1 k c' (by simpa using hc)
  ·cases k with
   | zero=>exact Ji _ hb
   | succ k=>exact Jz _ (k2 k b hb)
  ·obtain⟨n1,n2,n3⟩:=Kk.1 hn;obtain⟨m1,m2⟩:=k3 n2;refine⟨λk=>?_,λk k' hne b hb hb'=>?_⟩
   ·cases k with
    | zero=>exact n1
    | succ k=>exact m1 k
   ·cases k with
    | zero =>
     cases k' with
     | zero=>exact hne rfl
     | succ k'=>exact n3 b hb b (k2 k' b hb') rfl
    | succ k =>
     cases k' with
     | zero=>exact n3 b hb' b (k2 k b hb) rfl
     | succ k'=>exact m2 k k' Zi b hb hb'
theorem qex {sz:Nat}:∀{rows:List (List T)}{i j:Nat}{r:List T}{c:T},lens sz rows->rows[i]?=some r->r[j]?=some c->rows.flatten[i*sz+j]?=some c
 | [],_,_,_,_,_,h,_=>by simp at h
 | d::rows,0,j,r,c,hl,hr,hc=>by
  simp only[List.getElem?_cons_zero,Qf]at hr;subst hr;have hj:j<d.length:=by
   rcases Y8 j d.length with h|h
   ·exact h
   ·rw[List.getElem?_eq_none h]at hc;cases hc
  rw[Q5,List.getElem?_append_left Zi];simpa using hc
 | d::rows,i+1,j,r,c,hl,hr,hc=>by
  have hd:d.length=sz:=hl d (by simp);have:=qex (sz:=sz) (rows:=rows) (λr hr=>hl r (by simp[hr])) (by simpa using hr) hc;rw[Q5,List.getElem?_append_right (by rw[hd,Km];omega)]
  rwa [show(i+1)*sz+j-d.length=i*sz+j by rw[hd,Km];omega]
structure Fam (w:World)(σ:St)(g:Gh)(B:Sr->List Nat):Prop where
 whole:∀e,B (e,none)=g.φ e
 cell:∀e i j v t,onN (σ.ev e) i j v t->zas w t v (B (e,some (i,j)))
 sub:∀e p b,σ.On e->b∈B (e,p)->b∈g.φ e
 nodup:∀e p,σ.On e->(B (e,p)).Nodup
 apart:∀e p p',σ.On e->p≠p'->∀b∈B (e,some p),b∉B (e,some p')
theorem Rel.fam {n0:Nat->Prop}{N:Nat}{σ:St}{g:Gh}{a:Act}{w:World}(hR:Rel n0 N σ g a w):∃B,Fam w σ g B:=by
 have h1:∀e,∃F:Nat×Nat->List Nat,∀dp sz rows gn,σ.ev e=some ⟨dp,sz,rows,gn,true⟩->((dp=true->∀i j v t,rows[i]?.isSome=true->(rows.getD i [])[j]?=some (.pin v t)->zas w t v (F (i,j)))/\(∀p b,b∈F p->b∈g.φ e)/\(∀p,(F p).Nodup)/\∀p p',p≠p'->∀b∈F p,b∉F p'):=by
  intro e;by_cases hon:∃sz rows gn,σ.ev e=some ⟨true,sz,rows,gn,true⟩
  ·obtain⟨sz,rows,gn,he⟩:=hon;have hnd:=hR.nodup e ⟨_,he,rfl⟩;obtain⟨ao,cap,vs,k1,k2,k3,k4,k5,k6,k7⟩:=hR.vals he rfl;rcases k7 with⟨_,_,k7,k8⟩|⟨b,cells,ty,fps,k7,k8,k9,k10,k11,k12,k13⟩
   ·refine⟨λ_=>[],λdp sz' rows' gn' he'=>?_⟩;rw[he,Qf]at he';cases he';have k7:rows=[]:=k7;subst k7;exact⟨λ_ i j v t h=>by simp at h,by simp,by simp,by simp⟩
   ·obtain⟨F,f1,f2,f3⟩:=(k12 rfl).fam;rw[k8]at hnd;obtain⟨m1,m2⟩:=f3 (Jc.1 hnd).2;refine⟨λp=>if p.2<sz/\p.1<rows.length then F (p.1*sz+p.2)else [],λdp sz' rows' gn' he'=>?_⟩;rw[he,Qf]at he';cases he';refine⟨λ_ i j v t h1 h2=>?_,λp b hb=>?_,λp=>?_,λp p' hne b hb hb'=>?_⟩
    ·obtain⟨r,hr⟩:=Yj.1 h1;have hg:rows.getD i []=r:=by rw[List.getD_eq_getElem?_getD,hr];rfl
     rw[hg]at h2;have hj:j<sz:=by
      have:r.length=sz:=k4 r (List.mem_of_getElem? hr);rcases Y8 j r.length with h|h
      ·omega
      ·rw[List.getElem?_eq_none h]at h2;cases h2
     have hi:i<rows.length:=(List.getElem?_eq_some_iff.1 hr).1;obtain⟨u,_,hu⟩:=f1 _ _ (qex k4 hr h2);show zas w t v (if j<sz/\i<rows.length then F (i*sz+j)else [])
     rw[if_pos ⟨hj,hi⟩];unfold zas at hu;obtain⟨rfl,hu⟩:=hu;exact hu
    ·by_cases hp:p.2<sz/\p.1<rows.length
     ·simp only[if_pos hp]at hb;rw[k8];exact J4 _ (f2 _ _ hb)
     ·simp only[if_neg hp]at hb;simp at hb
    ·by_cases hp:p.2<sz/\p.1<rows.length
     ·simp only[if_pos hp];exact m1 _
     ·simp only[if_neg hp];simp
    ·by_cases hp:p.2<sz/\p.1<rows.length
     ·by_cases hp':p'.2<sz/\p'.1<rows.length
      ·simp only[if_pos hp,if_pos hp']at hb hb';refine m2 _ _ (λheq=>hne ?_) b hb hb';obtain⟨i,j⟩:=p;obtain⟨i',j'⟩:=p';simp only at hp hp' heq;have hii:i=i':=by
        rcases Yg i i' with h|h|h
        ·have:=Kz sz (show i+1<=i' by omega);rw[Km]at this;omega
        ·exact h
        ·have:=Kz sz (show i'+1<=i by omega);rw[Km]at this;omega
       subst hii;have:j=j':=by omega
       subst this;rfl
      ·simp only[if_neg hp']at hb';simp at hb'
     ·simp only[if_neg hp]at hb;simp at hb
  ·refine⟨λ_=>[],λdp sz rows gn he=>⟨λhd=>?_,by simp,by simp,by simp⟩⟩;subst hd;exact absurd ⟨sz,rows,gn,he⟩ hon
 refine⟨λs=>match s.2 with|none=>g.φ s.1|some p=>Classical.choose (h1 s.1) p,⟨λe=>rfl,λe i j v t ho=>?_,λe p b ho hb=>?_,λe p ho=>?_,λe p p' ho hne b hb=>?_⟩⟩
 ·obtain⟨⟨dp,sz,rows,gn,on⟩,he,h2,h3,h4,h5⟩:=zao ho;simp only at h2 h3;subst h2 h3;exact(Classical.choose_spec (h1 e) true sz rows gn he).1 rfl i j v t h4 h5
 ·cases p with
  | none=>exact hb
  | some p =>
   obtain⟨⟨dp,sz,rows,gn,on⟩,he,ho⟩:=ho;simp only at ho;subst ho;exact(Classical.choose_spec (h1 e) dp sz rows gn he).2.1 p b hb
 ·cases p with
  | none=>exact hR.nodup e ho
  | some p =>
   obtain⟨⟨dp,sz,rows,gn,on⟩,he,ho⟩:=ho;simp only at ho;subst ho;exact(Classical.choose_spec (h1 e) dp sz rows gn he).2.2.1 p
 ·obtain⟨⟨dp,sz,rows,gn,on⟩,he,ho⟩:=ho;simp only at ho;subst ho;exact(Classical.choose_spec (h1 e) dp sz rows gn he).2.2.2 p p' hne b hb
def bks (B:Sr->List Nat)(u:List Sr):List Nat:=u.flatMap B
def okP (s s':Sr):Prop:=s.1≠s'.1\/(s.2≠none/\s'.2≠none/\s.2≠s'.2)
theorem okP.symm {s s':Sr}(h:okP s s'):okP s' s:=h.imp (λh=>Ne.symm h) λh=>⟨h.2.1,h.1,Ne.symm h.2.2⟩
theorem zwj:∀{u:List Sr}{s:Sr},okS u s=true->∀x∈u,okP s x
 | [],_,_,x,hx=>by simp at hx
 | (e,p)::u,(e',p'),h,x,hx=>by
  unfold okS at h;rw[Qd]at h;rcases Qs.1 hx with rfl|hx
  ·have h1:=h.1;by_cases he:e=e'
   ·rw[if_pos he]at h1;right;unfold okQ at h1;split at h1
    ·rename_i a b;refine⟨by simp,by simp,λe=>?_⟩;simp only[Qf]at e;subst e;simp at h1
    ·cases h1
   ·left;exact Ne.symm he
  ·exact zwj h.2 x hx
theorem zef {n0:Nat->Prop}{N:Nat}{σ:St}{g:Gh}{a:Act}{w:World}(hR:Rel n0 N σ g a w){B:Sr->List Nat}(hB:Fam w σ g B):∀{s:List Sr},(∀x∈s,σ.On x.1)->s.Pairwise okP->(bks B s).Nodup
 | [],_,_=>Kn
 | x::s,ho,hp=>by
  obtain⟨p1,p2⟩:=Jp.1 hp;unfold bks;rw[Kx];refine Kk.2 ⟨hB.nodup x.1 x.2 (ho x (by simp)),zef hR hB (λy hy=>ho y (by simp[hy])) p2,λb hb b' hb' hbb=>?_⟩;subst hbb;obtain⟨y,hy,hb'⟩:=Jw.1 hb';obtain⟨e,p⟩:=x;obtain⟨e',p'⟩:=y;have o1:=ho (e,p) (by simp);have o2:=ho (e',p') (by simp[hy]);rcases p1 (e',p') hy with h|⟨h1,h2,h3⟩
  ·exact hR.apart e e' o1 o2 h b (hB.sub e p b o1 hb) (hB.sub e' p' b o2 hb')
  ·by_cases hee:e=e'
   ·subst hee;cases p with
    | none=>exact h1 rfl
    | some p =>
     cases p' with
     | none=>exact h2 rfl
     | some p'=>exact hB.apart e p p' o1 (λh=>h3 (by rw[h])) b hb hb'
   ·exact hR.apart e e' o1 o2 hee b (hB.sub e p b o1 hb) (hB.sub e' p' b o2 hb')
theorem qnm {σ:St}{e i j:Nat}{v:Value}{t:T}(h:onN (σ.ev e) i j v t):σ.On e:=by
 obtain⟨x,hx,h2,_⟩:=zao h
 exact⟨x,hx,h2⟩
section
variable {n0:Nat->Prop}{N:Nat}{σ:St}{g:Gh}{a:Act}{w:World}(hR:Rel n0 N σ g a w){B:Sr->List Nat}(hB:Fam w σ g B)
include hR hB
theorem zcz {K:List Sr->List (Nat×Nat×Nat)->Prop}:∀{cs:List C}{ts:List T}{u:List Sr}{ps:List (Nat×Nat×Nat)}{vs:List Value},gvK σ K u ps cs ts->CRs σ g w cs vs →
  ∃s ps' tp,K (s.reverse++u) ps'/\qbv w ts vs (bks B s) tp/\(∀x∈s,σ.On x.1)/\(u.Pairwise okP->(s.reverse++u).Pairwise okP)
 | [],[],u,ps,vs,h,hv=>⟨[],ps,[],h,⟨hv,rfl,rfl⟩,by simp,λh=>h⟩
 | [],_::_,_,_,_,h,_=>by cases h
 | c::cs,[],u,ps,vs,h,hv=>by cases c<;>first|exact(show False from h).elim|(cases ps<;>exact(show False from h).elim)
 | c::cs,t::ts,u,ps,vs,h,hv=>by
  obtain⟨v,vs',rfl,h1,h2⟩:=hv;unfold gvK at h;split at h
  ·rename_i e1 e2;cases e1
  ·rename_i x cs' t' ts' e1 e2;cases e1;cases e2;unfold gvT at h;split at h
   ·rename_i v0 y e i j ps0;obtain⟨rfl,hok,he,h⟩:=h;obtain⟨s,ps',tp,k1,k2,k3,k4⟩:=zcz h h2;unfold CR zai at h1;obtain⟨rfl,_⟩:=h1;have ho:=hB.cell e i j v y he;refine⟨(e,some (i,j))::s,ps',zix y (B (e,some (i,j)))++tp,by simpa using k1,⟨v,vs',_,bks B s,tp,rfl,by unfold bks;rw[Kx],rfl,ho,k2⟩,λx hx=>?_,λhu=>?_⟩
    ·rcases Qs.1 hx with rfl|hx
     ·exact qnm he
     ·exact k3 x hx
    ·have:=k4 (Jp.2 ⟨zwj hok,hu⟩);simpa using this
   obtain⟨rfl,hf,h⟩:=h;obtain⟨s,ps',tp,k1,k2,k3,k4⟩:=zcz h h2;have ho:zas w x v []:=by
    cases x<;>simp only[T.flat,Qz]at hf<;>simp only[CR,zai]at h1<;>unfold zas
    ·exact⟨h1.1,h1.2.1,h1.2.2,rfl⟩
    ·exact⟨h1,rfl⟩
    ·exact⟨h1.1,h1.2,rfl⟩
    ·exact⟨h1,rfl⟩
   exact⟨s,ps',zix x []++tp,k1,⟨v,vs',[],_,tp,rfl,rfl,rfl,ho,k2⟩,k3,k4⟩
  ·rename_i z cs' sz rows ts' e1 e2;cases e1;cases e2;obtain⟨rfl,h⟩:=h;obtain⟨s,ps',tp,k1,k2,k3,k4⟩:=zcz h h2;have ho:zas w (.sl sz []) v []:=by
    unfold zas;exact⟨none,0,h1,by simp,by simp,Or.inl ⟨rfl,rfl,rfl,rfl⟩⟩
   exact⟨s,ps',zix (.sl sz []) []++tp,k1,⟨v,vs',[],_,tp,rfl,rfl,rfl,ho,k2⟩,k3,k4⟩
  ·rename_i e gn cs' sz rows ts' e1 e2;cases e1;cases e2;obtain⟨hok,he,h⟩:=h;obtain⟨s,ps',tp,k1,k2,k3,k4⟩:=zcz h h2;have hou:=he;obtain⟨⟨dp,sz0,rows0,gn0,on0⟩,hev,rfl,rfl,hrows,rfl,rfl⟩:=zao hou;have ho:zas w (.sl sz0 rows) (g.ψ e gn0) (g.φ e):=by
    rcases hrows with rfl|rfl
    ·exact zhp hR hev
    ·exact(zhp hR hev).unpins
   have h1:v=g.ψ e gn0/\_:=h1;rw[<-h1.1]at ho;refine⟨(e,none)::s,ps',zix (.sl _ _) (g.φ e)++tp,by simpa using k1,⟨v,vs',g.φ e,bks B s,tp,rfl,by unfold bks;rw[Kx,hB.whole],rfl,ho,k2⟩,λx hx=>?_,λhu=>?_⟩
   ·rcases Qs.1 hx with rfl|hx
    ·exact⟨_,hev,rfl⟩
    ·exact k3 x hx
   ·have:=k4 (Jp.2 ⟨zwj hok,hu⟩);simpa using this
  ·rename_i e i j ps0 v0 cs' t' ts' e1 e2;cases e1;cases e2;obtain⟨hok,he,h⟩:=h;obtain⟨s,ps',tp,k1,k2,k3,k4⟩:=zcz h h2;have h1:v=v0:=h1;subst h1;have ho:=hB.cell e i j v t he;refine⟨(e,some (i,j))::s,ps',zix t (B (e,some (i,j)))++tp,by simpa using k1,⟨v,vs',_,bks B s,tp,rfl,by unfold bks;rw[Kx],rfl,ho,k2⟩,λx hx=>?_,λhu=>?_⟩
   ·rcases Qs.1 hx with rfl|hx
    ·exact qnm he
    ·exact k3 x hx
   ·have:=k4 (Jp.2 ⟨zwj hok,hu⟩);simpa using this
  ·exact h.elim
omit hB in
theorem qd9 {FP:List Nat}(hFP:∀b∈FP,∃e,σ.On e/\b∈g.φ e){c:C}{t:T}{v:Value}(h:rdC c t)(hv:CR σ g w c v):zai w (λb=>b<w.heap.size/\b∉FP) t v:=by
 unfold rdC at h
 split at h
 ·rename_i x;obtain⟨rfl,hn⟩:=h;exact zlf (σ:=σ) (g:=g) (x:=.one (.t x)) (d:=.one x) ⟨rfl,hn⟩ hv _
 ·rename_i f f';subst h;exact zlf (σ:=σ) (g:=g) (x:=.one (.fn f [])) (d:=.one (.fn f [])) rfl hv _
 ·subst h;refine zai.keep (λ_ _=>rfl) (λb hb=>⟨hb.1.2.2.1,λhm=>?_⟩) _ v hv;obtain⟨e,ho,hm⟩:=hFP b hm;exact hb.2 e ho hm
 ·obtain⟨rfl,rfl⟩:=h;obtain⟨b,q,h1,h2,h3⟩:=hv;have hk:∀b,zcl σ g w b->b<w.heap.size/\b∉FP:=λb hb=>⟨hb.1.2.2.1,λhm=>by obtain⟨e,ho,hm⟩:=hFP b hm;exact hb.2 e ho hm⟩;unfold zai;exact⟨b,q,h1,hk b h2,za5.keep (λ_ _=>rfl) hk b rfl q _ h3⟩
 ·subst h;rw[show v=.slice none 0 0 from hv];unfold zai;exact⟨none,0,rfl,by simp,by simp,Or.inl rfl⟩
 ·exact h.elim
omit hB in
theorem zwv {FP:List Nat}(hFP:∀b∈FP,∃e,σ.On e/\b∈g.φ e):∀{cs:List C}{ts:List T}{vs:List Value},rdCs cs ts->CRs σ g w cs vs->zae w (λb=>b<w.heap.size/\b∉FP) ts vs
 | [],[],vs,_,hv=>by unfold zae;exact hv
 | [],_::_,_,h,_=>h.elim
 | _::_,[],_,h,_=>h.elim
 | c::cs,t::ts,vs,h,hv=>by
  obtain⟨v,vs',rfl,h1,h2⟩:=hv;unfold zae;exact⟨v,vs',rfl,qd9 hR hFP h.1 h1,zwv hFP h.2 h2⟩
theorem zfy {K:List Sr->Prop}:∀{xs:List V}{ds:List (Bool×D)}{u:List Sr}{ps:List (Nat×Nat×Nat)}{vs:List Value},gvA σ K u ps xs ds->VRl σ g w xs vs →
  ∃s,K (s.reverse++u)/\(∀FP:List Nat,(∀b∈FP,∃e,σ.On e/\b∈g.φ e)->∃tp,zaw w (λb=>b<w.heap.size/\b∉FP) ds vs (bks B s) tp)/\(∀x∈s,σ.On x.1)/\(u.Pairwise okP->(s.reverse++u).Pairwise okP)
 | [],[],u,ps,vs,h,hv=>⟨[],h,λ_ _=>⟨[],hv,rfl,rfl⟩,by simp,λh=>h⟩
 | [],_::_,_,_,_,h,_=>h.elim
 | x::xs,[],_,_,_,h,_=>by cases x<;>exact h.elim
 | x::xs,(false,d)::ds,u,ps,vs,h,hv=>by
  obtain⟨v,vs',rfl,h1,h2⟩:=hv;unfold gvA at h;obtain⟨hr,h⟩:=h;obtain⟨s,k1,k2,k3,k4⟩:=zfy h h2;refine⟨s,k1,λFP hFP=>?_,k3,k4⟩;obtain⟨tp,k2⟩:=k2 FP hFP;refine⟨tp,v,vs',rfl,?_,k2⟩;unfold rdV at hr;split at hr
  ·exact qd9 hR hFP hr h1
  ·obtain⟨b,e,h1⟩:=h1;exact⟨b,e,zwv hR hFP hr h1⟩
  ·exact hr.elim
 | .one c::xs,(true,.one t)::ds,u,ps,vs,h,hv=>by
  obtain⟨v,vs',rfl,h1,h2⟩:=hv;unfold gvA at h;obtain⟨s,ps',tp,k1,k2,k3,k4⟩:=zcz hR hB h (vs:=[v]) ⟨v,[],rfl,h1,rfl⟩;obtain⟨s',j1,j2,j3,j4⟩:=zfy k1 h2;obtain⟨v0,vs0,f1,f2,t2,e0,e1,rfl,q1,q2⟩:=k2;cases e0;obtain⟨_,rfl,rfl⟩:=q2;rw[Kh]at e1;refine⟨s++s',by simpa using j1,λFP hFP=>?_,λx hx=>?_,λhu=>by simpa using j4 (k4 hu)⟩
  ·obtain⟨tp',j2⟩:=j2 FP hFP;exact⟨zix t f1++tp',v,vs',bks B s,bks B s',_,tp',rfl,by unfold bks;rw[Ye],rfl,⟨by rw[e1];exact q1,by rw[e1]⟩,j2⟩
  ·rcases Qt.1 hx with hx|hx
   ·exact k3 x hx
   ·exact j3 x hx
 | .agg cs::xs,(true,.agg ts)::ds,u,ps,vs,h,hv=>by
  obtain⟨v,vs',rfl,⟨y,rfl,h1⟩,h2⟩:=hv;unfold gvA at h;obtain⟨s,ps',tp,k1,k2,k3,k4⟩:=zcz hR hB h h1;obtain⟨s',j1,j2,j3,j4⟩:=zfy k1 h2;refine⟨s++s',by simpa using j1,λFP hFP=>?_,λx hx=>?_,λhu=>by simpa using j4 (k4 hu)⟩
  ·obtain⟨tp',j2⟩:=j2 FP hFP;exact⟨tp++tp',_,vs',bks B s,bks B s',tp,tp',rfl,by unfold bks;rw[Ye],rfl,⟨y,rfl,k2⟩,j2⟩
  ·rcases Qt.1 hx with hx|hx
   ·exact k3 x hx
   ·exact j3 x hx
 | .one _::_,(true,.agg _)::_,_,_,_,h,_=>h.elim
 | .agg _::_,(true,.one _)::_,_,_,_,h,_=>h.elim
 | .tup _::_,(true,d)::_,_,_,_,h,_=>by cases d<;>exact h.elim
end
end
section
open Go.RowKit
variable {P:Program}
def C.okU (τ:St):C->Prop
 | .t x=>x.flat=true
 | .nl _=>True
 | .ow e g=>zaq (τ.ev e) λx=>g<=x.gen
 | .bx b _=>τ.bx b≠none
 | .el _ _=>False
 | .er _ _=>True
 | .eo e s _ _ _=>zaq (τ.ev e) λx=>s<=x.gen
 | .vw e s _ _=>zaq (τ.ev e) λx=>s<=x.gen
 | .fn _ caps=>qbm τ caps
 | .cv _=>True
 | .any=>True
 | .rn _=>True
def qi7 (τ:St):List C->Prop
 | []=>True
 | c::cs=>c.okU τ/\qi7 τ cs
def okUt (τ:St):List (Bool×List C)->Prop
 | []=>True
 | x::xs=>qi7 τ x.2/\okUt τ xs
def V.okU (τ:St):V->Prop
 | .one c=>c.okU τ
 | .agg cs=>qi7 τ cs
 | .tup xs=>okUt τ xs
structure Kept (σ τ:St):Prop where
 sl:∀i,τ.sl i=.one .any\/(τ.sl i=σ.sl i/\(τ.sl i).okU τ)
 bx:∀b cs,τ.bx b=some cs->σ.bx b=some cs/\qi7 τ cs
 ev:∀e x,τ.ev e=some x->σ.ev e=some x/\x.on=true/\x.deep=true
section
variable {σ τ:St}{g g':Gh}{w w':World}{ev':Nat->Option Ev}(hβ:g'.β=g.β)(hψ:∀e,τ.ev e≠none->ev' e=τ.ev e/\g'.ψ e=g.ψ e)(hrn:∀b,zcl σ g w b->w'.heap[b]?=w.heap[b]?/\zcl ⟨τ.sl,τ.bx,ev'⟩ g' w' b)
include hβ hψ hrn
theorem qfp {c:C}{v:Value}(hc:c.okU τ)(h:CR σ g w c v):CR ⟨τ.sl,τ.bx,ev'⟩ g' w' c v:=by
 have hh:∀{e n:Nat},zaq (τ.ev e) (λx=>n<=x.gen)->g'.ψ e=g.ψ e/\St.has ⟨τ.sl,τ.bx,ev'⟩ e n:=fun {e n} ho=>by
  obtain⟨x,hx,hn⟩:=zao ho;obtain⟨k1,k2⟩:=hψ e (by rw[hx];simp);exact⟨k2,x,k1.trans hx,hn⟩
 cases c with
 | t x=>exact zdq hc h
 | nl s=>exact h
 | ow e n=>obtain⟨k1,k2⟩:=hh hc;exact⟨by rw[k1];exact h.1,k2⟩
 | bx b o=>exact⟨by rw[hβ];exact h.1,hc⟩
 | el cs o=>exact hc.elim
 | eo e s sz i o=>obtain⟨k1,k2⟩:=hh hc;obtain⟨b,n,c,q1,q2,q3,q4⟩:=h;exact⟨b,n,c,by rw[k1];exact q1,q2,q3,k2⟩
 | vw e s sz i=>obtain⟨k1,k2⟩:=hh hc;obtain⟨b,n,c,q1,q2,q3,q4⟩:=h;exact⟨b,n,c,by rw[k1];exact q1,q2,q3,k2⟩
 | fn f caps=>exact⟨by rw[hβ];exact h.1,λb hb=>zkr (show qbm τ caps from hc) b hb⟩
 | cv u=>exact h
 | any=>trivial
 | rn x=>exact zai.keep (λb hb=>(hrn b hb).1) (λb hb=>(hrn b hb).2) x v h
 | er cs o=>obtain⟨b,q,h1,h2,h3⟩:=h;exact⟨b,q,h1,(hrn b h2).2,za5.keep (λb hb=>(hrn b hb).1) (λb hb=>(hrn b hb).2) b (hrn b h2).1 q cs h3⟩
theorem zlm:∀{cs:List C}{vs:List Value},qi7 τ cs->CRs σ g w cs vs->CRs ⟨τ.sl,τ.bx,ev'⟩ g' w' cs vs
 | [],_,_,h=>h
 | c::cs,vs,hc,h=>by
  obtain⟨v,vs',rfl,h1,h2⟩:=h;exact⟨v,vs',rfl,qfp hβ hψ hrn hc.1 h1,zlm hc.2 h2⟩
theorem qg5:∀{xs:List (Bool×List C)}{vs:List Value},okUt τ xs->CRt σ g w xs vs->CRt ⟨τ.sl,τ.bx,ev'⟩ g' w' xs vs
 | [],_,_,h=>h
 | x::xs,vs,hc,h=>by
  obtain⟨v,vs',rfl,h1,h2⟩:=h;refine⟨v,vs',rfl,?_,qg5 hc.2 h2⟩;unfold CRx at h1⊢;split at h1
  ·rw[if_pos ‹_›];obtain⟨a,k1,k2⟩:=h1;exact⟨a,k1,zlm hβ hψ hrn hc.1 k2⟩
  ·rw[if_neg ‹_›];obtain⟨c,k1,k2⟩:=h1;refine⟨c,k1,qfp hβ hψ hrn ?_ k2⟩;have:=hc.1;rw[k1]at this;exact this.1
theorem qoi {x:V}{v:Value}(hc:x.okU τ)(h:VR σ g w x v):VR ⟨τ.sl,τ.bx,ev'⟩ g' w' x v:=by
 cases x with
 | one c=>exact qfp hβ hψ hrn hc h
 | agg cs=>obtain⟨a,k1,k2⟩:=h;exact⟨a,k1,zlm hβ hψ hrn hc k2⟩
 | tup xs=>obtain⟨a,k1,k2⟩:=h;exact⟨a,k1,qg5 hβ hψ hrn hc k2⟩
end
theorem Rel.given {n0:Nat->Prop}{N:Nat}{σ τ:St}{g g':Gh}{a:Act}{w w':World}(hR:Rel n0 N σ g a w)(hn0:LtK n0 w)(hK:Kept σ τ){fp:List Nat}(hfp:∀b∈fp,∃e,σ.On e/\τ.ev e=none/\b∈g.φ e)(hbk:Bk (λk=>k<w.heap.size/\k∉fp) w w')
  {ev':Nat->Option Ev} {F:List Nat} (hn:New τ g (λb=>b∈fp\/w.heap.size<=b) w' ev' g' F):Rel n0 N ⟨τ.sl,τ.bx,ev'⟩ g' a w':=by
 have hOnσ:∀e,τ.On e->σ.On e:=λe ⟨x,hx,ho⟩=>⟨x,(hK.ev e x hx).1,ho⟩
 have hlt:∀e,σ.On e->∀b∈g.φ e,b<w.heap.size:=λe ⟨x,hx,ho⟩=>(hR.evs e x hx ho).lt
 have hbne:∀b,τ.bx b≠none->σ.bx b≠none:=λb hb=>by
  obtain⟨cs,hcs⟩:=K3.1 hb;rw[(hK.bx b cs hcs).1];simp
 have hfR:∀b∈fp,g.A0 b/\g.R0 b/\¬n0 b:=λb hb=>by
  obtain⟨e,ho,_,hm⟩:=hfp b hb;obtain⟨k1,k2⟩:=hR.ebase e ho b hm;exact⟨k1,k2,hR.etop e ho b hm⟩
 have hNB:∀b,(b∈fp\/w.heap.size<=b)->g.A0 b/\g.R0 b/\¬n0 b:=λb hb=>by
  rcases hb with hb|hb
  ·exact hfR b hb
  ·have hnn:=hn0.new hb;exact⟨(hR.anew b hnn).1,(hR.anew b hnn).2,hnn⟩
 have hβfp:∀b,τ.bx b≠none->¬(g.β b∈fp\/w.heap.size<=g.β b):=λb hb h=>by
  rcases h with h|h
  ·obtain⟨e,ho,_,hm⟩:=hfp _ h;exact hR.ebx e b ho (hbne b hb) hm
  ·have:=hR.lt (hbne b hb);omega
 have hφfp:∀e,τ.On e->∀b∈g.φ e,¬(b∈fp\/w.heap.size<=b):=λe ho b hb h=>by
  rcases h with h|h
  ·obtain⟨e',ho',hno,hm⟩:=hfp b h;refine hR.apart e e' (hOnσ e ho) ho' (λhee=>?_) b hb hm;subst hee;obtain⟨x,hx,_⟩:=ho;rw[hx]at hno;cases hno
  ·have:=hlt e (hOnσ e ho) b hb;omega
 have hon:∀e,St.On ⟨τ.sl,τ.bx,ev'⟩ e->τ.ev e≠none->τ.On e:=λe ⟨x,hx,ho⟩ hee=>⟨x,(hn.old e hee).1.symm.trans hx,ho⟩
 have hkeep:∀b,b<w.heap.size->b∉fp->w'.heap[b]?=w.heap[b]?:=λb h1 h2=>hbk.block b ⟨h1,h2⟩
 have hrn:∀b,zcl σ g w b->w'.heap[b]?=w.heap[b]?/\zcl ⟨τ.sl,τ.bx,ev'⟩ g' w' b:=λb hb=>by
  obtain⟨hf,hr⟩:=hb;have hnb:∀e,St.On ⟨τ.sl,τ.bx,ev'⟩ e->b∉g'.φ e:=λe ho hm=>by
   by_cases hee:τ.ev e=none
   ·obtain⟨x,hx,_⟩:=ho;rcases((hn.new e x hee hx).2.2.1 b hm).1 with h|h
    ·obtain⟨e',ho',_,hm'⟩:=hfp b h;exact hr e' ho' hm'
    ·have:=hf.2.2.1;omega
   ·rw[(hn.old e hee).2.2]at hm;exact hr e (hOnσ e (hon e ho hee)) hm
  refine⟨hkeep b hf.2.2.1 (λhm=>by obtain⟨e',ho',_,hm'⟩:=hfp b hm;exact hr e' ho' hm'),⟨λk hk=>by rw[hn.β];exact hf.1 k (hbne k hk),λe x hx hon' hh=>hnb e ⟨x,hx,hon'⟩ (List.mem_of_mem_head? hh),Je hf.2.2.1 hbk.size,by rw[hn.A0];exact hf.2.2.2⟩,hnb⟩
 have hψ:∀e,τ.ev e≠none->ev' e=τ.ev e/\g'.ψ e=g.ψ e:=λe he=>⟨(hn.old e he).1,(hn.old e he).2.1⟩
 refine⟨by rw[hR.defers],hR.size,by rw[hn.A0,hn.R0];exact hR.anew,λi=>?_,λb cs hb=>?_,λb hb=>by rw[hn.β];exact hR.base b (hbne b hb),λb b' h1 h2 h3=>by rw[hn.β]at h3;exact hR.inj b b' (hbne b h1) (hbne b' h2) h3,λe x he ho=>?_,λe x he ho=>?_,hn.slc,λe he b hb=>?_,λe he b hb=>?_,λe he=>?_,λe e' h1 h2 hne b hb1 hb2=>?_,λe k he hk hm=>?_⟩
 ·rcases hK.sl i with h|⟨h,hok⟩
  ·rw[show(⟨τ.sl,τ.bx,ev'⟩:St).sl i=.one .any from h];trivial
  ·rw[hn.R0];show VR _ g' w' (τ.sl i) _
   have hs:=hR.slots i;rw[<-h]at hs;exact qoi hn.β hψ hrn hok hs
 ·obtain⟨hb1,hb2⟩:=hK.bx b cs hb;obtain⟨vs,ty,k1,k2⟩:=hR.boxes b cs hb1;have hne:τ.bx b≠none:=by rw[show τ.bx b=some cs from hb];simp
  have hnf:=hβfp b hne;exact⟨vs,ty,by rw[hn.β,hkeep _ (hR.lt (hbne b hne)) (λh=>hnf (Or.inl h))];exact k1,zlm hn.β hψ hrn hb2 k2⟩
 ·by_cases hee:τ.ev e=none
  ·obtain⟨⟨k1,_,k0⟩,k2,k3,k4⟩:=hn.new e x hee he;rw[k0];unfold zas at k2;obtain⟨ao,cap,j1,j2,j3,j4⟩:=k2;refine⟨ao,cap,j1,j2,j3,?_⟩;rcases j4 with j4|⟨b,cells,ty,fps,j4,j5,j6,j7,j8⟩
   ·exact Or.inl j4
   ·exact Or.inr ⟨b,cells,ty,fps,j4,j5,j6,j7,by rw[if_pos k1];exact j8⟩
  ·obtain⟨o1,o2,o3⟩:=hn.old e hee;have hx:τ.ev e=some x:=o1.symm.trans he;obtain⟨k1,k2,k3⟩:=hK.ev e x hx;have hE:=hR.evs e x k1 k2;have hno:=hφfp e ⟨x,hx,k2⟩;have hl:=hlt e ⟨x,k1,k2⟩;have hkp:∀b∈g.φ e,w'.heap[b]?=w.heap[b]?:=λb hb=>hkeep b (hl b hb) λh=>hno b hb (Or.inl h);rw[o2,o3];obtain⟨ao,cap,r1,r2,r3,r4⟩:=hE;refine⟨ao,cap,r1,r2,r3,?_⟩;rcases r4 with r4|⟨b,cells,ty,fps,r4,r5,r6,r7,r8⟩
   ·exact Or.inl r4
   ·rw[if_pos k3]at r8;exact Or.inr ⟨b,cells,ty,fps,r4,r5,by rw[hkp b (by rw[r5];simp)];exact r6,r7,by rw[if_pos k3];exact zak.keep cells 0 x.sz x.rows fps r8 λb' hb'=>hkp b' (by rw[r5];simp[hb'])⟩
 ·by_cases hee:τ.ev e=none
  ·rw[(hn.new e x hee he).1.2.1]at ho;cases ho
  ·have hx:τ.ev e=some x:=(hn.old e hee).1.symm.trans he;rw[(hK.ev e x hx).2.1]at ho;cases ho
 ·rw[hn.A0,hn.R0];by_cases hee:τ.ev e=none
  ·obtain⟨x,hx,_⟩:=he;have:=hNB b ((hn.new e x hee hx).2.2.1 b hb).1;exact⟨this.1,this.2.1⟩
  ·rw[(hn.old e hee).2.2]at hb;exact hR.ebase e (hOnσ e (hon e he hee)) b hb
 ·by_cases hee:τ.ev e=none
  ·obtain⟨x,hx,_⟩:=he;exact(hNB b ((hn.new e x hee hx).2.2.1 b hb).1).2.2
  ·rw[(hn.old e hee).2.2]at hb;exact hR.etop e (hOnσ e (hon e he hee)) b hb
 ·by_cases hee:τ.ev e=none
  ·obtain⟨x,hx,_⟩:=he;exact(hn.new e x hee hx).2.2.2
  ·rw[(hn.old e hee).2.2];exact hR.nodup e (hOnσ e (hon e he hee))
 ·by_cases hee:τ.ev e=none
  ·obtain⟨x,hx,_⟩:=h1;by_cases hee':τ.ev e'=none
   ·obtain⟨x',hx',_⟩:=h2;exact hn.apart e e' hee hee' (by rw[show ev' e=some x from hx];simp) (by rw[show ev' e'=some x' from hx'];simp) hne b hb1 hb2
   ·rw[(hn.old e' hee').2.2]at hb2;exact hφfp e' (hon e' h2 hee') b hb2 ((hn.new e x hee hx).2.2.1 b hb1).1
  ·rw[(hn.old e hee).2.2]at hb1;by_cases hee':τ.ev e'=none
   ·obtain⟨x',hx',_⟩:=h2;exact hφfp e (hon e h1 hee) b hb1 ((hn.new e' x' hee' hx').2.2.1 b hb2).1
   ·rw[(hn.old e' hee').2.2]at hb2;exact hR.apart e e' (hOnσ e (hon e h1 hee)) (hOnσ e' (hon e' h2 hee')) hne b hb1 hb2
 ·rw[hn.β]at hm;by_cases hee:τ.ev e=none
  ·obtain⟨x,hx,_⟩:=he;exact hβfp k hk ((hn.new e x hee hx).2.2.1 _ hm).1
  ·rw[(hn.old e hee).2.2]at hm;exact hR.ebx e k (hOnσ e (hon e he hee)) (hbne k hk) hm
theorem qfn {o:Oper}{σ τ:St}{x:Operand}{asx:Array Operand}{ts:Array TypeId}{f:FuncId}{cvs:List V}{d:Nat}{ds:List (Bool×D)}{res:List D}{ps:List (Nat×Nat×Nat)}(ho:o.op=.call ⟨.value x,asx,ts⟩)(hd:o.dst=some d)
  (h:GC P f ds res) (hc:za3 (σ.get P 0 x)=some (f,cvs)) (hK:Kept σ τ) (hv:gvA σ (λu=>∀s∈u,τ.ev s.1=none) [] ps (σ.gets P asx ts++cvs) ds) (hf:zid d 0 (za6 res) τ.ev):zag P o σ (τ.callF d res):=by
 intro n0 N g a w hR hn hdN
 obtain⟨vs,h1,h2⟩:=zd7 hR ho hc h.1
 unfold Oper.wp
 rw[h1]
 obtain⟨B,hB⟩:=hR.fam
 obtain⟨s,k1,k2,k3,k4⟩:=zfy hR hB hv h2
 rw[Kh]at k1 k4
 have hsp:s.Pairwise okP:=by
  have:=(Yu.1 (k4 List.Pairwise.nil));exact this.imp λh=>h.symm
 have hnd:=zef hR hB k3 hsp
 have hfp:∀b∈bks B s,∃e,σ.On e/\τ.ev e=none/\b∈g.φ e:=λb hb=>by
  obtain⟨x,hx,hm⟩:=Jw.1 hb;exact⟨x.1,k3 x hx,k1 x (List.mem_reverse.2 hx),hB.sub x.1 x.2 b (k3 x hx) hm⟩
 obtain⟨tp,k2⟩:=k2 (bks B s) λb hb=>by obtain⟨e,h1,_,h3⟩:=hfp b hb;exact⟨e,h1,h3⟩
 refine(h.2 w vs (bks B s) tp k2 hnd).mono ?_
 rintro e w' ⟨us,fp',tp',rfl,o1,o2,o3,hbk⟩
 have o1':=zig.of_g o1
 obtain⟨g',q1,q2,q3⟩:=New.cells (σ:=τ) (g:=g) (NB:=λb=>b∈bks B s\/w.heap.size<=b) (w':=w') d (za6 res) _ fp' 0 τ.ev g [] (New.refl _ _ _ _ hR.slc) (λe h1 h2=>absurd h1 h2) hf o1'.cells o2 (λb hb'=>⟨o3 b hb',by simp⟩)
 have hR':=hR.given hn hK hfp hbk q1
 have hBk:Bk n0 w w':=⟨hbk.os,hbk.tape,hbk.output,hbk.size,λk hk=>hbk.block k ⟨hn k hk,λhm=>by
  obtain⟨e,h1,_,h3⟩:=hfp k hm
  exact hR.etop e h1 k h3 hk⟩⟩
 refine⟨g',?_,hBk,q1.A0,q1.R0⟩
 have hp:=hR'.put (some d) (x:=qh4 (qbs d 0 res)) (v:=zcm us) (zih (zpn d 0 o1' (q3 _ _ rfl)) (zjs d res 0)) (λi hi=>by cases hi;exact hdN d hd)
 rw[hd]
 exact hp
def qac {α:Type}:List (Nat×α)->Nat->Prop
 | [],_=>True
 | p::l,i=>(i=p.1)=False/\qac l i
def zgn {α β:Type}(l:List (Nat×β)):List (Nat×α)->Prop
 | []=>True
 | p::la=>qac l p.1/\zgn l la
def okL (τ:St):List (Nat×V)->Prop
 | []=>True
 | p::l=>p.2.okU τ/\okL τ l
def okB (τ:St):List (Nat×List C)->Prop
 | []=>True
 | p::l=>qi7 τ p.2/\okB τ l
def okE:List (Nat×Ev)->Prop
 | []=>True
 | p::l=>p.2.on=true/\p.2.deep=true/\okE l
def zzz (el:List (Nat×Ev)):List Sr->Prop
 | []=>True
 | s::u=>qac el s.1/\zzz el u
theorem zl4 {α:Type}:∀{l:List (Nat×α)}{i:Nat},qac l i->tbl l i=none
 | [],_,_=>rfl
 | (j,v)::l,i,h=>by unfold tbl;rw[if_neg (λe=>of_eq_false h.1 e),zl4 h.2]
theorem zk5 {el:List (Nat×Ev)}:∀{u:List Sr},zzz el u->∀s∈u,tbl el s.1=none
 | [],_,s,hs=>by simp at hs
 | x::u,h,s,hs=>by
  rcases Qs.1 hs with rfl|hs
  ·exact zl4 h.1
  ·exact zk5 h.2 s hs
theorem zmq:∀{l:List (Nat×V)}{i:Nat},qac l i->zgi l i=.one .any
 | [],_,_=>rfl
 | (j,v)::l,i,h=>by unfold zgi;rw[if_neg (λe=>of_eq_false h.1 e),zmq h.2]
theorem zyo {l:List (Nat×V)}:∀{la:List (Nat×V)},zgn l la->∀i,zgi l i=.one .any\/zgi l i=zgi (la++l) i
 | [],_,i=>Or.inr rfl
 | (j,v)::la,h,i=>by
  by_cases hij:i=j
  ·subst hij;exact Or.inl (zmq h.1)
  ·rw[Kt];show _\/zgi l i=if i=j then v else zgi (la++l) i
   rw[if_neg hij];exact zyo h.2 i
theorem zvs {α:Type}{l:List (Nat×α)}:∀{la:List (Nat×α)},zgn l la->∀i x,tbl l i=some x->tbl (la++l) i=some x
 | [],_,i,x,hx=>hx
 | (j,v)::la,h,i,x,hx=>by
  by_cases hij:i=j
  ·subst hij;rw[zl4 h.1]at hx;cases hx
  ·rw[Kt];show(if i=j then some v else tbl (la++l) i)=some x
   rw[if_neg hij];exact zvs h.2 i x hx
theorem zua {τ:St}:∀{l:List (Nat×V)},okL τ l->∀i,(zgi l i).okU τ
 | [],_,_=>trivial
 | (j,v)::l,h,i=>by
  unfold zgi;split
  ·exact h.1
  ·exact zua h.2 i
theorem zul {τ:St}:∀{l:List (Nat×List C)},okB τ l->∀b cs,tbl l b=some cs->qi7 τ cs
 | [],_,_,_,h=>by cases h
 | (j,v)::l,h,b,cs,hb=>by
  unfold tbl at hb;split at hb
  ·cases hb;exact h.1
  ·exact zul h.2 b cs hb
theorem zun:∀{l:List (Nat×Ev)},okE l->∀e x,tbl l e=some x->x.on=true/\x.deep=true
 | [],_,_,_,h=>by cases h
 | (j,v)::l,h,e,x,hb=>by
  unfold tbl at hb;split at hb
  ·cases hb;exact⟨h.1,h.2.1⟩
  ·exact zun h.2.2 e x hb
section
variable {ks:List Fr}{Q:Exit->St->Prop}{σ:St}{ops:Array Oper}{os:List Oper}{ty:TypeId}{ps:String}{af:Array Edge}{d:Nat}{x:Operand}{asx:Array Operand}{ts:Array TypeId}{f:FuncId}{ds:List (Bool×D)}{res:List D}
theorem callG (la l:List (Nat×V))(ba bl:List (Nat×List C))(ea el:List (Nat×Ev))(pl:List (Nat×Nat×Nat))(h:GC P f ds res)
  (hw:wkL σ (hd (la++l) (ba++bl) (ea++el)) (la++l)/\wkB σ (hd (la++l) (ba++bl) (ea++el)) (ba++bl)/\wkE σ (ea++el))
  (hk:zgn l la/\zgn bl ba/\zgn el ea/\okL (hd l bl el) l/\okB (hd l bl el) bl/\okE el)
  (hp:zaq (za3 ((hd (la++l) (ba++bl) (ea++el)).get P 0 x)) λp=>p.1=f/\gvA (hd (la++l) (ba++bl) (ea++el)) (zzz el) [] pl ((hd (la++l) (ba++bl) (ea++el)).gets P asx ts++p.2) ds) (hf:zid d 0 (za6 res) (hd l bl el).ev)
  (k:exo P ops os ks Q ((hd l bl el).callF d res)):exo P ops (⟨some d,.call ⟨.value x,asx,ts⟩,ty,ps,af,none⟩::os) ks Q σ:=by
 obtain⟨⟨f',cvs⟩,h1,rfl,h2⟩:=zao hp
 obtain⟨k1,k2,k3,k4,k5,k6⟩:=hk
 refine zdc rfl rfl (zag.pre (zab hw) (qfn (P:=P) (o:=⟨some d,.call ⟨.value x,asx,ts⟩,ty,ps,af,none⟩) rfl rfl h h1 (τ:=hd l bl el) ⟨λi=>?_,λb cs hb=>⟨zvs k2 b cs hb,zul k5 b cs hb⟩,λe x he=>⟨zvs k3 e x he,zun k6 e x he⟩⟩ (zg1 (λu hu=>zk5 hu) h2) hf)) k
 rcases zyo k1 i with h|h
 ·exact Or.inl h
 ·exact Or.inr ⟨h,zua k4 i⟩
end
attribute [go_sem] gvT owU zgy zta qac zgn okL okB okE zzz C.okU qi7 okUt V.okU gvA gvK okS okQ rdV rdC rdCs
end
section
open Go.RowKit
variable {P:Program}
def qji:Option (Nat×List (List C))->List (List C)
 | some p=>p.2
 | none=>[]
def blK (d:Nat):Option (Ev×List (Nat×Ev))->List (Nat×Ev)
 | some (x,cons)=>(d*32,x)::zw3 cons
 | none=>[]
def apKs:Option (Prop×Nat×Ev×List (Nat×Ev))->List Ky
 | some (_,e,_,cons)=>(2,e)::cons.map (λp=>(2,p.1))
 | none=>[]
section
variable {ks:List Fr}{Q:Exit->St->Prop}{σ:St}{ops:Array Oper}{os:List Oper}{L:List (List Ky×List Ky)}{d:Nat}{t:TypeId}{ty:TypeId}{ps:String}{af:Array Edge}{len:Nat}{parts:Array (Nat×Operand)}{s y:Operand}
theorem za7 (h:zaq (blD P σ t len parts) λr=>σ.ev (d*32)=none/\(r.2.map (·.1)).Nodup)
  (k:exd P ops os (L++[(zau (parts.toList.map (·.2))++(rK (qji (zl8 P (σ.get P) t len parts))++[(2,d*32)]),dK (some d)++eK (blK d (blD P σ t len parts)))]) ks Q ((σ.bl d (blD P σ t len parts)).put (some d) (.one (.ow (d*32) 0)))) :
  exd P ops (⟨some d,.buildSlice t len parts,ty,ps,af,none⟩::os) L ks Q σ:=by
 obtain⟨⟨x,cons⟩,h1,h2,h3⟩:=zao h
 rw[h1]at k
 unfold blD at h1
 obtain⟨p,e1,h1⟩:=Qh.1 h1
 obtain⟨q,e2,h1⟩:=Q3.1 h1
 simp only[Qx]at h1
 obtain⟨rfl,rfl⟩:=h1
 rw[e1]at k
 exact qr1 ⟨e1,e2,h2,h3⟩ k
theorem zcx (dp2:Bool)(h:zaq (apV P σ d t s y dp2) λr=>r.1)(k:exd P ops os (L++[(zau [s,y]++apKs (apV P σ d t s y dp2),dK (some d)++apKs (apV P σ d t s y dp2))]) ks Q (σ.apV d (apV P σ d t s y dp2))) :
  exd P ops (⟨some d,.call ⟨.builtin .append,#[s,y],#[t,t]⟩,ty,ps,af,none⟩::os) L ks Q σ:=by
 obtain⟨⟨p,e,x,cons⟩,h1,h2⟩:=zao h
 rw[h1]at k
 unfold Go.Proofs.YtmhbmpbgpjljeaaGreat.apV at h1
 split at h1
 ·rename_i e0 gn e2 gn2 hs hy;obtain⟨x0,k1,h3⟩:=Qh.1 h1;obtain⟨z,k2,h4⟩:=Qh.1 h3;clear h1 h3;by_cases hc:x0.gen=gn/\x0.on=true/\z.gen=gn2/\z.on=true/\z.sz=x0.sz/\e2≠e0
  ·rw[if_pos hc]at h4;obtain⟨rfl,c2,rfl,c4,c5,c6⟩:=hc;simp only[Qf,Qx]at h4;obtain⟨rfl,rfl,rfl,rfl⟩:=h4;obtain⟨dp,sz,rows,gn,on⟩:=x0;obtain⟨dp2,sz2,rows2,gn2,on2⟩:=z;simp only at c2 c4 c5;subst c2 c4 c5;exact dApOO ⟨hs,qkt hy,k1,k2,c6,rfl⟩ h2.1 h2.2 k
  ·rw[if_neg hc]at h4;cases h4
 ·rename_i e0 gn sz rows2 hs hy;obtain⟨x0,k1,h4⟩:=Qh.1 h1;clear h1;by_cases hc:x0.gen=gn/\x0.on=true/\sz=x0.sz
  ·rw[if_pos hc]at h4;obtain⟨rfl,c2,rfl⟩:=hc;simp only[Qf,Qx]at h4;obtain⟨rfl,rfl,rfl,rfl⟩:=h4;obtain⟨dp,sz,rows,gn,on⟩:=x0;simp only at c2;subst c2;exact dApOT dp2 ⟨hs,hy,k1⟩ (λhd=>zkn (h2.2.2 hd)) h2.1 h2.2.1 k
  ·rw[if_neg hc]at h4;cases h4
 ·rename_i z0 e2 gn2 hs hy;obtain⟨z,k2,h4⟩:=Qh.1 h1;clear h1;by_cases hc:z.gen=gn2/\z.on=true/\e2≠d*32
  ·rw[if_pos hc]at h4;obtain⟨rfl,c2,c3⟩:=hc;simp only[Qf,Qx]at h4;obtain⟨rfl,rfl,rfl,rfl⟩:=h4;obtain⟨dp2,sz2,rows2,gn2,on2⟩:=z;simp only at c2;subst c2;exact dApNO ⟨hs,qkt hy,h2.2.2,k2,c3⟩ h2.1 h2.2.1 k
  ·rw[if_neg hc]at h4;cases h4
 ·rename_i z0 sz rows2 hs hy;simp only[Qf,Qx]at h1;obtain⟨rfl,rfl,rfl,rfl⟩:=h1;exact dApNT dp2 ⟨hs,hy,h2.2.2.2⟩ (λhd=>zkn (h2.2.2.1 hd)) h2.1 h2.2.1 k
 ·cases h1
end
attribute [go_sem] qji blK apKs
end
section
open Go.RowKit
variable {P:Program}
theorem zwf {ops:Array Oper}{K:St->Prop}{n0:Nat->Prop}{N:Nat}{Q:Exit->Act->World->Prop}{K':Act->World->Prop}{i:Nat}(hlt:i<ops.size){σ:St}{g:Gh}{a:Act}{w:World}(h:exG P ops ops[i] σ K)(hr:Rel n0 N σ g a w)(hn:LtK n0 w)(hdi:∀d,ops[i].dst=some d->d<N)
  (next:∀σ' a' w',(∃g',Rel n0 N σ' g' a' w'/\Bk n0 w w'/\g'.A0=g.A0/\g'.R0=g.R0)->K σ'->K' a' w'):wpOp P ops Q i K' a w:=by
 have ho:ops[i]?=some ops[i]:=by simp[hlt]
 have run:∀σ0,σ0=σ->zcd P ops[i] σ0 K->ops[i].wp P a w K' Q:=λσ0 e0 h1=>by
  subst e0;exact zca (λa' w' ⟨σ',g',h0,hh⟩=>next σ' a' w' ⟨g',hh⟩ h0) (ze4 h1 n0 N g a w hr hn hdi)
 unfold wpOp
 simp only[ho]
 unfold exG at h
 split at h
 ·rename_i hg;have:Region.wanted ops[i] (yielded ops a.tmps)=true:=by simp[Region.wanted,hg]
  rw[if_pos this];exact Or.inl (run σ rfl h)
 ·rename_i j want hg;split at h
  ·rename_i d hdj;split at h
   ·rename_i c hc;have hv:=hr.slots d;rw[hc]at hv;simp only[VR,CR,zai]at hv;have hy:yielded ops a.tmps j=some c:=by
     unfold yielded;rw[hdj];simp only[Kf];cases ht:a.tmps[d]? with
     | none=>rw[Array.getD_eq_getD_getElem?,ht]at hv;exact absurd hv (g.R0.nb _ _)
     | some u=>rw[Array.getD_eq_getD_getElem?,ht]at hv;simp only[Kj]at hv;subst hv;rfl
    have hw:Region.wanted ops[i] (yielded ops a.tmps)=(c==want):=by
     unfold Region.wanted;rw[hg];simp only[hy];cases c<;>cases want<;>rfl
    rw[hw];by_cases hcw:c=want
    ·subst hcw;simp only[beq_self_eq_true,if_true];exact Or.inl (run _ (zgc hc) (h.1 rfl))
    ·have hne:(c==want)=false:=by simpa using hcw
     rw[hne];simp only[Qz,if_false];have hnot:c=!want:=by cases c<;>cases want<;>simp_all
     have hh:=h.2 hnot;rw[<-hnot,zgc hc]at hh;exact next _ _ _ ⟨g,hr.put _ (x:=.tup []) ⟨[],rfl,rfl⟩ hdi,Bk.refl _ _,rfl,rfl⟩ hh
   ·rename_i xs hc;have hv:=hr.slots d;rw[hc]at hv;obtain⟨vs,hv,_⟩:=hv;have hy:yielded ops a.tmps j=none:=by
     unfold yielded;rw[hdj];simp only[Kf];cases ht:a.tmps[d]? with
     | none=>rfl
     | some u=>rw[Array.getD_eq_getD_getElem?,ht]at hv;simp only[Kj]at hv;subst hv;rfl
    have hw:Region.wanted ops[i] (yielded ops a.tmps)=false:=by
     unfold Region.wanted;rw[hg];simp only[hy];rfl
    rw[hw];simp only[Qz,if_false];exact next _ _ _ ⟨g,hr.put _ (x:=.tup []) ⟨[],rfl,rfl⟩ hdi,Bk.refl _ _,rfl,rfl⟩ h
   ·exact h.elim
  ·exact h.elim
def zm8 (ops:Array Oper)(L:List (List Ky×List Ky))(m:Nat):Bool :=
 let b:=Region.before ops
 decide (m<=ops.size)&&(List.range ops.size).all λj =>
  ((ops.getD j default).after.all λe=>!Region.binds .any e||decide (e.on<j)) &&
  ((List.range ops.size).all λi=>!(b.getD j 0).testBit i||(ops.getD j default).after.any λe=>Region.binds .any e&&(e.on==i||(b.getD e.on 0).testBit i)) &&
  ((List.range j).all λi=>(b.getD j 0).testBit i||(decide (j<m)&&((L.getD i ([],[])).2.all λk=>!(L.getD j ([],[])).1.contains k&&!(L.getD j ([],[])).2.contains k)&&(L.getD i ([],[])).1.all λk=>!(L.getD j ([],[])).2.contains k))
theorem drawn_allT {ops:Array Oper}{σs:Nat->St}{L:List (List Ky×List Ky)}{n0:Nat->Prop}{N:Nat}{w0:World}{A0:(Nat->Prop)×RP}{Q:Exit->Act->World->Prop}{K:St->Prop}{m:Nat}
  (hL:∀i (h:i<ops.size),i<m->Loc P ops ops[i] (L.getD i ([],[])).1 (L.getD i ([],[])).2 (σs i) (σs (i+1))) (hord:zm8 ops L m=true) (hdst:∀o∈ops,∀d,o.dst=some d->d<N)
  (hT:zbj P ops (ops.toList.drop m) (σs m) K) (hQ:∀σ g a w,K σ->Rel n0 N σ g a w->LtK n0 w->Bk n0 w0 w->(g.A0,g.R0)=A0->Q .normal a w) :
  ∀(fuel:Nat) (listed:Array Bool) (g:Gh) (a:Act) (w:World),listed.size=ops.size->cnt (λi=>listed.getD i false) ops.size=fuel →
   (∀j (h:j<ops.size),listed.getD j false=true->∀e∈ops[j].after,Region.binds .any e=true->listed.getD e.on false=true)->(∀j,m<=j->listed.getD j false=false) →
   Rel n0 N (Fp σs (λi=>L.getD i ([],[])) (λi=>listed.getD i false) m) g a w->LtK n0 w->Bk n0 w0 w->(g.A0,g.R0)=A0->wpAny P .any ops Q fuel listed a w:=by
 have hget:∀j (h:j<ops.size),ops.getD j default=ops[j]:=λj h=>by simp[Array.getD,h]
 unfold zm8 at hord
 rw[Qd]at hord
 obtain⟨hm,hord⟩:=hord
 have hm:m<=ops.size:=by simpa using hm
 have hok:∀i,i<m->okK (L.getD i ([],[])).2=true:=λi h=>(hL i Zi h).1
 have hRk:∀i,i<m->okK (L.getD i ([],[])).1=true:=λi h=>(hL i Zi h).2.1
 have hoff:∀i,i<m->∀k:Ky,k.1<3->k∉(L.getD i ([],[])).2->za4 (σs i) (σs (i+1)) k:=λi h=>(hL i Zi h).2.2.1
 simp only[Qr,K4,Qd]at hord
 have hlt:∀j (h:j<ops.size),∀e∈ops[j].after,Region.binds .any e=true->e.on<j:=λj h e he hb=>by
  have:=(hord j h).1.1;rw[hget j h]at this;have:=(Kb.1 this) e he;simpa[hb]using this
 have hbef:∀j (h:j<ops.size),∀i,i<ops.size->((Region.before ops).getD j 0).testBit i=true->∃e∈ops[j].after,Region.binds .any e=true/\(e.on=i\/((Region.before ops).getD e.on 0).testBit i=true):=λj h i hi hb=>by
  have:=(hord j h).1.2 i hi;rw[hb,hget j h]at this;simp only[K8,K5]at this;obtain⟨e,he,h1⟩:=Array.any_eq_true'.1 this;simp only[Qd,Yb,Jo]at h1;exact⟨e,he,h1.1,h1.2⟩
 have hdis:∀i j,i<j->j<m->((Region.before ops).getD j 0).testBit i=false->(∀k∈(L.getD i ([],[])).2,k∉(L.getD j ([],[])).1/\k∉(L.getD j ([],[])).2)/\∀k∈(L.getD i ([],[])).1,k∉(L.getD j ([],[])).2:=λi j hij hj hb=>by
  have:=(hord j Zi).2 i hij;rw[hb]at this;simp only[K5,Qd,Qr,Jk,List.contains_eq_mem,Ko]at this;exact⟨λk hk=>this.1.2 k hk,λk hk=>this.2 k hk⟩
 have hchain:∀i j,i<j->j<ops.size->m<=j->((Region.before ops).getD j 0).testBit i=true:=λi j hij hj hmj=>by
  have:=(hord j hj).2 i hij;cases hb:((Region.before ops).getD j 0).testBit i with
  | true=>rfl
  | false =>
   rw[hb]at this;simp only[K5,Qd,Q0]at this;omega
 have hclosed:∀listed:Array Bool,(∀j (h:j<ops.size),listed.getD j false=true->∀e∈ops[j].after,Region.binds .any e=true->listed.getD e.on false=true)->∀j (h:j<ops.size),listed.getD j false=true->∀i,i<ops.size->((Region.before ops).getD j 0).testBit i=true->listed.getD i false=true:=by
  intro listed hcl j;induction j using Nat.strongRecOn with
  | _ j ihj =>
   intro h hl i hi hbi;obtain⟨e,he,h1,h2⟩:=hbef j h i hi hbi;have hle:=hcl j h hl e he h1;have hlt':=hlt j h e he h1;rcases h2 with rfl|h2
   ·exact hle
   ·exact ihj e.on hlt' Zi hle i hi h2
 have hready:∀(listed:Array Bool),listed.size=ops.size->∀i,i∈Region.ready .any ops listed->∃hi:i<ops.size,listed.getD i false=false/\∀e∈ops[i].after,Region.binds .any e=true->listed.getD e.on false=true:=λlisted hsz i hi=>by
  unfold Region.ready at hi;rw[Kp]at hi;obtain⟨hi1,hi2⟩:=hi;have hi':=K4.1 hi1;rw[Array.getElem?_eq_getElem hi']at hi2;simp only[Q9,Kj,Qd,Jk]at hi2;obtain⟨hl0,hafter⟩:=hi2;refine⟨hi',?_,λe he hbd=>?_⟩
  ·simp only[Array.getD_eq_getD_getElem?]at hl0⊢;rw[Array.getElem?_eq_getElem Zi]at hl0⊢;exact hl0
  ·have:=(Kb.1 hafter) e he;simpa[hbd]using this
 have hsome:∀(listed:Array Bool),listed.size=ops.size->Region.ready .any ops listed=[]->cnt (λi=>listed.getD i false) ops.size=0:=λlisted hsz hr=>by
  have:∀j,j<ops.size->listed.getD j false=true:=by
   intro j;induction j using Nat.strongRecOn with
   | _ j ihj =>
    intro hj;cases hl:listed.getD j false with
    | true=>rfl
    | false =>
     exfalso;have hmem:j∈Region.ready .any ops listed:=by
      unfold Region.ready;rw[Kp];refine⟨K4.2 hj,?_⟩;have hl':listed.getD j true=false:=by
       simp only[Array.getD_eq_getD_getElem?]at hl⊢;rw[Array.getElem?_eq_getElem Zi]at hl⊢;exact hl
      rw[hl',Array.getElem?_eq_getElem hj];simp only[Ja,Q2,Q9,Kj];rw[Kb];intro e he;cases hbd:Region.binds .any e with
      | false=>rfl
      | true=>simpa using ihj e.on (hlt j hj e he hbd) (by have:=hlt j hj e he hbd;omega)
     rw[hr]at hmem;exact absurd hmem (by simp)
  have:∀k,k<=ops.size->cnt (λi=>listed.getD i false) k=0:=by
   intro k;induction k with
   | zero=>intro _;rfl
   | succ k ihk=>intro hk;unfold cnt;rw[if_pos (this k Zi),ihk Zi]
  exact this _ (Qp _)
 have hset:∀(listed:Array Bool) (i:Nat),i<listed.size->∀j,(listed.setIfInBounds i true).getD j false=if j=i then true else listed.getD j false:=λlisted i hi j=>by
  simp only[Array.getD_eq_getD_getElem?,Array.getElem?_setIfInBounds];by_cases hji:j=i
  ·subst hji;rw[if_pos rfl,if_pos hi,if_pos rfl];rfl
  ·rw[if_neg (λh=>hji h.symm),if_neg hji]
 have hnone:∀(listed:Array Bool),listed.size=ops.size->(∀j,j<ops.size->listed.getD j false=true)->Region.ready .any ops listed=[]:=λlisted hsz hall=>by
  unfold Region.ready;rw[Yq];intro i hi;have hi':=K4.1 hi;have:=hall i hi';simp only[Array.getD_eq_getD_getElem?]at this⊢;rw[Array.getElem?_eq_getElem Zi]at this⊢;simp only[Kj]at this⊢;simp[this]
 have tail:∀(k j:Nat) (listed:Array Bool) (σ:St) (g:Gh) (a:Act) (w:World),j+k=ops.size->m<=j->listed.size=ops.size->(∀i,i<ops.size->listed.getD i false=decide (i<j))->zbj P ops (ops.toList.drop j) σ K->Rel n0 N σ g a w->LtK n0 w->Bk n0 w0 w->(g.A0,g.R0)=A0->wpAny P .any ops Q k listed a w:=by
  intro k;induction k with
  | zero =>
   intro j listed σ g a w hjk hmj hsz hls h hrel hn hb hA;have:ops.toList.drop j=[]:=Q1 (by simp;omega);rw[this]at h;exact⟨hnone listed hsz λi hi=>by rw[hls i hi];simp;omega,hQ σ g a w h hrel hn hb hA⟩
  | succ k ih =>
   intro j listed σ g a w hjk hmj hsz hls h hrel hn hb hA;have hj:j<ops.size:=by omega
   refine⟨λhr=>?_,λi hi=>?_⟩
   ·exfalso;have hz:listed.getD j false=true:=zd4 _ (hsome listed hsz hr) j hj;rw[hls j hj]at hz;simp at hz
   ·obtain⟨hi',hl,hdue⟩:=hready listed hsz i hi;have hij:i=j:=by
     rcases Yg i j with h1|h1|h1
     ·rw[hls i hi']at hl;simp at hl;omega
     ·exact h1
     ·exfalso;obtain⟨e,he,k1,k2⟩:=hbef i hi' j hj (hchain j i h1 hi' Zi);have hle:=hdue e he k1;have hel:=hlt i hi' e he k1;rw[hls e.on Zi]at hle;have hle:e.on<j:=by simpa using hle
      rcases k2 with k2|k2
      ·omega
      ·have:∀x,x<ops.size->∀y,y<ops.size->((Region.before ops).getD x 0).testBit y=true->y<x:=by
        intro x;induction x using Nat.strongRecOn with
        | _ x ihx =>
         intro hx y hy hbxy;obtain⟨e',he',q1,q2⟩:=hbef x hx y hy hbxy;have:=hlt x hx e' he' q1;rcases q2 with rfl|q2
         ·exact this
         ·have:=ihx e'.on this Zi y hy q2;omega
       have:=this e.on Zi j hj k2;omega
    subst hij;have hcons:ops.toList.drop i=ops[i]::ops.toList.drop (i+1):=by
     rw[Qn (by simpa using hi')];rfl
    rw[hcons]at h;refine zwf hi' (K:=λσ'=>zbj P ops (ops.toList.drop (i+1)) σ' K) h hrel hn (hdst _ (Yp hi')) λσ' a' w' hh hK=>?_;obtain⟨g',k1,k2,k3,k4⟩:=hh;refine ih (i+1) _ σ' g' a' w' Zi Zi (by simpa using hsz) (λx hx=>?_) hK k1 (hn.mono k2.size) (hb.trans k2) (by rw[k3,k4];exact hA);rw[hset listed i Zi,hls x hx];by_cases hxi:x=i
    ·subst hxi;simp
    ·rw[if_neg hxi]
     congr 1
     simp only[eq_iff_iff];omega
 intro fuel
 induction fuel with
 | zero =>
  intro listed g a w hsz hc hcl hno hrel hn hb hA;have hall:=zd4 _ hc;have hme:m=ops.size:=by
   rcases Y8 m ops.size with h|h
   ·have h1:=hall m h;rw[hno m (Qp _)]at h1;cases h1
   ·omega
  refine⟨hnone listed hsz hall,?_⟩;rw[zeb hok hoff m (Qp _) λj hj=>hall j Zi]at hrel;have hd:ops.toList.drop m=[]:=Q1 (by simp;omega);rw[hd]at hT;exact hQ _ g a w hT hrel hn hb hA
 | succ fuel ih =>
  intro listed g a w hsz hc hcl hno hrel hn hb hA;have hbb:=hclosed listed hcl;refine⟨λhr=>?_,λi hi=>?_⟩
  ·exfalso;have:=hsome listed hsz hr;omega
  ·obtain⟨hi',hl,hdue⟩:=hready listed hsz i hi;have h1:∀j,j<ops.size->((Region.before ops).getD i 0).testBit j=true->listed.getD j false=true:=λj hj hbj=>by
    obtain⟨e,he,k1,k2⟩:=hbef i hi' j hj hbj;have hle:=hdue e he k1;have hlt':=hlt i hi' e he k1;rcases k2 with rfl|k2
    ·exact hle
    ·exact hbb e.on Zi hle j hj k2
   by_cases him:i<m
   ·have h2:∀j,j<m->listed.getD j false=true->((Region.before ops).getD j 0).testBit i=true->listed.getD i false=true:=λj hj hlj hbj=>hbb j Zi hlj i hi' hbj;have hset':=hset listed i Zi;obtain⟨_,_,_,hstep⟩:=hL i hi' him;have hG:=hstep _ (λk hk=>zn6 (σs:=σs) (RW:=λi=>L.getD i ([],[])) (b:=λj i=>((Region.before ops).getD j 0).testBit i) (p:=λi=>listed.getD i false) hok hoff hRk hdis him hl (λj hj hb=>h1 j Zi hb) h2 hk);have hw:=zjw (σs:=σs) (RW:=λi=>L.getD i ([],[])) (b:=λj i=>((Region.before ops).getD j 0).testBit i) (p:=λi=>listed.getD i false) hok hdis him hl (λj hj hb=>h1 j Zi hb) h2 (p':=λj=>(listed.setIfInBounds i true).getD j false) hset';have hcnt:=zl3 (p:=λi=>listed.getD i false) (q:=λj=>(listed.setIfInBounds i true).getD j false) hl hset' ops.size hi';have hG':=hG n0 N g a w hrel hn (hdst _ (Yp hi'));rw[<-hw]at hG';have next:∀a' w',(∃g',Rel n0 N (Fp σs (λi=>L.getD i ([],[])) (λj=>(listed.setIfInBounds i true).getD j false) m) g' a' w'/\Bk n0 w w'/\g'.A0=g.A0/\g'.R0=g.R0)->wpAny P .any ops Q fuel (listed.setIfInBounds i true) a' w':=by
     rintro a' w' ⟨g',k1,k2,k3,k4⟩;refine ih _ g' a' w' (by simpa using hsz) Zi (λj hj hlj e he hbd=>?_) (λj hj=>by rw[hset',if_neg Zi];exact hno j hj) k1 (hn.mono k2.size) (hb.trans k2) (by rw[k3,k4];exact hA);rw[hset']at hlj⊢;by_cases heo:e.on=i
     ·rw[if_pos heo]
     ·rw[if_neg heo];by_cases hji:j=i
      ·subst hji;exact hdue e he hbd
      ·rw[if_neg hji]at hlj;exact hcl j hj hlj e he hbd
    unfold wpOp;rw[Array.getElem?_eq_getElem hi'];simp only;split
    ·rename_i hwd;rw[if_pos hwd]at hG';exact Or.inl (zca next hG')
    ·rename_i hwd;rw[if_neg hwd]at hG';obtain⟨g',k1,k2,k3⟩:=hG';exact next _ _ ⟨g',k1,Bk.refl _ _,k2,k3⟩
   ·-- the chain begins
    have hmi:i=m:=by
     rcases Yg i m with h3|h3|h3
     ·omega
     ·exact h3
     ·exfalso;have:=h1 m Zi (hchain m i h3 hi' Zi);rw[hno m (Qp _)]at this;cases this
    subst hmi;have hall:∀j,j<i->listed.getD j false=true:=λj hj=>h1 j Zi (hchain j i hj hi' (Qp _));rw[zeb hok hoff i (Qp _) hall]at hrel;have hls:∀x,x<ops.size->listed.getD x false=decide (x<i):=λx hx=>by
     by_cases hxi:x<i
     ·rw[hall x hxi];simp[hxi]
     ·rw[hno x Zi];simp[hxi]
    have hcnt:fuel+1=ops.size-i:=by
     rw[<-hc];have:∀n,n<=ops.size->cnt (λi=>listed.getD i false) n=n-i:=by
      intro n;induction n with
      | zero=>intro _;simp[cnt]
      | succ n ihn =>
       intro hn';unfold cnt;rw[ihn Zi,hls n Zi];by_cases hni:n<i
       ·rw[if_pos (by simpa using hni)];omega
       ·rw[if_neg (by simpa using hni)];omega
     exact this _ (Qp _)
    have:=tail (fuel+1) i listed (σs i) g a w Zi (Qp _) hsz hls hT hrel hn hb hA;exact this.2 i hi
def zns (ops:Array Oper)(m:Nat):Bool :=
 let b:=Region.before ops
 decide (m<=ops.size)&&(List.range ops.size).all λj=>decide (j<m)||(List.range j).all λi=>(b.getD j 0).testBit i
theorem qig {ops:Array Oper}{L:List (List Ky×List Ky)}{m:Nat}(h1:zmg ops L=true)(h2:zns ops m=true):zm8 ops L m=true:=by
 unfold zmg at h1
 unfold zns at h2
 unfold zm8
 simp only[Qr,K4,Qd,Yb]at h1 h2⊢
 refine⟨h2.1,λj hj=>⟨⟨(h1 j hj).1.1,(h1 j hj).1.2⟩,λi hi=>?_⟩⟩
 rcases(h1 j hj).2 i hi with h3|h3
 ·exact Or.inl h3
 ·rcases h2.2 j hj with h4|h4
  ·exact Or.inr ⟨⟨h4,h3.1⟩,h3.2⟩
  ·exact Or.inl (h4 i hi)
theorem ze2 {ops:Array Oper}{K:St->Prop}{m:Nat}(hm:m<=ops.size):∀(os:List Oper)(i:Nat)(L:List (List Ky×List Ky))(σs:Nat->St),os=(ops.toList.take m).drop i->i<=m->L.length=i →
  (∀j (h:j<ops.size),j<i->Loc P ops ops[j] (L.getD j ([],[])).1 (L.getD j ([],[])).2 (σs j) (σs (j+1)))->zgj P ops os L (σs i) K →
  ∃(L':List (List Ky×List Ky)) (σs':Nat->St),σs' 0=σs 0/\(∀j (h:j<ops.size),j<m->Loc P ops ops[j] (L'.getD j ([],[])).1 (L'.getD j ([],[])).2 (σs' j) (σs' (j+1)))/\zmg ops L'=true/\K (σs' m)
 | [],i,L,σs,ho,hi,hl,hloc,h=>by
  have hie:i=m:=by
   have:=congrArg List.length ho;simp at this;omega
  subst hie;exact⟨L,σs,rfl,λj hj hji=>hloc j hj hji,h.1,h.2⟩
 | o::os,i,L,σs,ho,hi,hl,hloc,h=>by
  have hlm:i<m:=by
   have:=congrArg List.length ho;simp at this;omega
  have hlt:i<ops.size:=by omega
  have hcons:(ops.toList.take m).drop i=ops[i]::(ops.toList.take m).drop (i+1):=by
   rw[Qn (by simp;omega)];simp
  rw[hcons]at ho;obtain⟨rfl,hos⟩:=List.cons.inj ho;obtain⟨R,W,σ',h1,h2⟩:=znf h
  have:=ze2 hm os (i+1) (L++[(R,W)]) (λj=>if j<=i then σs j else σ') hos Zi (by simp[hl]) (λj hj hji=>by
   by_cases hje:j=i
   ·subst hje;have hg:(L++[(R,W)]).getD j ([],[])=(R,W):=by simp[List.getD,<-hl]
    rw[hg,if_pos (Qp _),if_neg Zi];exact h1
   ·have hg:(L++[(R,W)]).getD j ([],[])=L.getD j ([],[]):=by
     simp only[List.getD_eq_getElem?_getD];rw[List.getElem?_append_left Zi]
    rw[hg,if_pos Zi,if_pos Zi]
    exact hloc j hj Zi) (by rw[if_neg Zi];exact h2)
  simpa using this
def tailQ (P:Program)(ops:Array Oper)(m:Nat)(ks:List Fr)(Q:Exit->St->Prop):Exit->St->Prop
 | .normal,σ=>exo P ops (ops.toList.drop m) ks Q σ
 | _,_=>False
theorem ziy (ops:Array Oper)(m:Nat)(ks:List Fr)(Q:Exit->St->Prop)(σ:St):tailQ P ops m ks Q .normal σ=exo P ops (ops.toList.drop m) ks Q σ:=rfl
attribute [go_sem] ziy
end
section
open Go.RowKit
variable {P:Program}
def PX (P:Program)(rs:List ResultVar)(res:List D)(σ:St):Prop:=∃pl,zaq (zbq P σ rs) λvs=>gvA σ (λ_=>True) [] pl vs (res.map λd=>(true,d))
def PS (P:Program)(rs:List ResultVar)(res:List D)(e:Exit)(σ:St):Prop:=match e with
 | .normal=>PF P rs res .normal σ\/PX P rs res σ
 | .ret=>PF P rs res .ret σ\/PX P rs res σ
 | _=>False
theorem zjd {w:World}{A:Nat->Prop}:∀{res:List D}{vs:List Value}{fp tp:List Nat},zaw w A (res.map λd=>(true,d)) vs fp tp->GDs w res vs fp tp
 | [],_,_,_,h=>h
 | d::ds,_,_,_,h=>by
  obtain⟨v,vs',f1,f2,t1,t2,rfl,rfl,rfl,h1,h2⟩:=h;exact⟨v,vs',f1,f2,t1,t2,rfl,rfl,rfl,h1,zjd h2⟩
theorem px_own {n0:Nat->Prop}{N:Nat}{σ:St}{g:Gh}{a:Act}{w:World}(hR:Rel n0 N σ g a w){vs:List V}{res:List D}{pl:List (Nat×Nat×Nat)}(h:gvA σ (λ_=>True) [] pl vs (res.map λd=>(true,d))){us:List Value}(hv:VRl σ g w vs us) :
  ∃fp tp,GDs w res us fp tp/\fp.Nodup/\∀b∈fp,∃e,σ.On e/\b∈g.φ e:=by
 obtain⟨B,hB⟩:=hR.fam
 obtain⟨s,k1,k2,k3,k4⟩:=zfy hR hB h hv
 rw[Kh]at k4
 have hsp:s.Pairwise okP:=(Yu.1 (k4 List.Pairwise.nil)).imp λh=>h.symm
 obtain⟨tp,k2⟩:=k2 [] (by simp)
 refine⟨_,tp,zjd k2,zef hR hB k3 hsp,λb hb=>?_⟩
 obtain⟨x,hx,hm⟩:=Jw.1 hb
 exact⟨x.1,k3 x hx,hB.sub x.1 x.2 b (k3 x hx) hm⟩
theorem qnf {f:FuncId}{fn:Func}{c:Code}{args:List (Bool×D)}{res:List D}(hc:za8 P f)(hf:P.funcs[f]?=some fn)(hb:fn.body=some c)(hd:zcj fn.ntmps c=true)(hN:args.length<=fn.ntmps)(hs:zb6 args)
  (h:∀(w:World) (vs:List Value) (fp tp:List Nat),zaw w (λb=>b<w.heap.size/\b∉fp) args vs fp tp->∀(g:Gh) (a:Act),Rel (λb=>b<w.heap.size/\b∉fp) fn.ntmps (zd9 args) g a w->(a.tmps=(⟨vs⟩:Array Value)++Array.replicate (fn.ntmps-vs.length) undef/\(g.A0,g.R0)=((λ_=>True),RP.of λb=>b∈fp\/w.heap.size<=b)) →
   ∃σ0,ex P c [] (PS P fn.results.toList res) σ0/\Rel (λb=>b<w.heap.size/\b∉fp) fn.ntmps σ0 g a w):GC P f args res:=by
 refine⟨hc,λw vs fp tp hv hn=>?_⟩
 refine calls_of_wp hf hb ?_
 have hv':zaw w (λb=>b<w.heap.size/\True/\b∉fp) args vs fp tp:=zaw.keepA (λb hb=>⟨hb.1,trivial,hb.2⟩) hv
 obtain⟨g,hg,hR⟩:=Rel.start (A0:=λ_=>True) (R0:=RP.of λb=>b∈fp\/w.heap.size<=b) (N:=fn.ntmps) hv' hn hs hN (λ_ _=>trivial) (λb hb=>⟨trivial,Or.inl hb⟩) (λb hb=>⟨trivial,by
  by_cases hlt:b<w.heap.size
  ·exact Or.inl (Classical.byContradiction λh=>hb ⟨hlt,h⟩)
  ·exact Or.inr Zi⟩)
 obtain⟨σ0,hex,hR0⟩:=h w vs fp tp hv g _ hR ⟨rfl,hg⟩
 refine wp_mono (zbo (w0:=w) c σ0 _ hd hex g _ w hR0 (λk hk=>hk.1) (Bk.refl _ _) hg) λe a' w' hq=>?_
 obtain⟨σ',g',h1,h2,h3,h4,h5⟩:=hq
 have fin:∀{us:List Value} {v:Value},(results fn a'.tmps).run P w'=.ok v w'->v=zcm us->(∃fp' tp',GDs w' res us fp' tp'/\fp'.Nodup/\∀b∈fp',∃e,σ'.On e/\b∈g'.φ e)->∃v,(results fn a'.tmps).run P w'=.ok v w'/\∃us fp' tp',Ending.returned v=.returned (zcm us)/\GDs w' res us fp' tp'/\fp'.Nodup/\(∀b∈fp',b∈fp\/w.heap.size<=b)/\Bk (λk=>k<w.heap.size/\k∉fp) w w':=fun {us v} r1 rv ⟨fp',tp',o1,o2,o3⟩=>by
  refine⟨_,r1,us,fp',tp',by rw[rv],o1,o2,λb hb=>?_,h4⟩;obtain⟨e,l,m⟩:=o3 b hb;have:=(h2.ebase e l b m).2;rw[(Jr h5).2]at this;exact this
 have key:(zaq (zbq P σ' fn.results.toList) (λvs=>qey σ' [] vs res)\/PX P fn.results.toList res σ')->∃v,(results fn a'.tmps).run P w'=.ok v w'/\∃us fp' tp',Ending.returned v=.returned (zcm us)/\GDs w' res us fp' tp'/\fp'.Nodup/\(∀b∈fp',b∈fp\/w.heap.size<=b)/\Bk (λk=>k<w.heap.size/\k∉fp) w w':=λhk=>by
  rcases hk with hk|⟨pl,hk⟩
  ·obtain⟨vs,hvs,hk⟩:=zao hk;obtain⟨us,r1,r2⟩:=zb9 h2 fn hvs;obtain⟨used,fp',tp',o1,o2⟩:=zem h2 hk r2;exact fin r1 rfl ⟨fp',tp',o1,o2.1,λb hb=>by obtain⟨e,_,_,l,m⟩:=o2.2.1 b hb;exact⟨e,l,m⟩⟩
  ·obtain⟨vs,hvs,hk⟩:=zao hk;obtain⟨us,r1,r2⟩:=zb9 h2 fn hvs;exact fin r1 rfl (px_own h2 hk r2)
 cases e with
 | normal=>exact⟨h2.defers,key h1⟩
 | ret=>exact⟨h2.defers,key h1⟩
 | exit _=>exact h1.elim
 | goto _=>exact h1.elim
 | panic _=>exact h1.elim
 | outgrown=>exact h1.elim
theorem qiv (p:Prop):(p\/True)=True:=by simp
theorem qit (p:Prop):(True\/p)=True:=by simp
attribute [go_sem] Bool.false_and Bool.and_false Bool.and_self
attribute [go_sem] PS qiv qit
section
variable (A B:List (List T))(r:List T)
theorem zrb {k:Nat}(h:A.length=k)(o:Nat)(ts:List T):zda (A++r::B) k o ts=A++setR r o ts::B:=by subst h;simp[zda]
end
theorem zux (n m:Nat):(n<n+(m+1))=True:=by simp
attribute [go_sem] zux List.length_append zrb
theorem qo9 (n:Nat):((n:Int)<0)=False:=by simp
attribute [go_sem] qo9 List.set_cons_succ List.set_cons_zero
end
section
open Go.RowKit
variable {P:Program}
def D.toN:D->V
 | .one t=>.one t.toN
 | .agg ts=>.agg (ts.map T.toN)
def zit:Nat->List D->Nat->V
 | _,[]=>λ_=>.one .any
 | k,d::ds=>upd (zit (k+1) ds) k d.toN
def zpk (args:List D):St:=⟨zit 0 args,λ_=>none,λ_=>none⟩
theorem zsl:∀(ds:List D)(k i:Nat),zit k ds (k+i)=match ds[i]? with|some d=>d.toN|none=>.one .any
 | [],k,i=>by simp[zit]
 | d::ds,k,0=>by simp[zit,upd]
 | d::ds,k,i+1=>by
  unfold zit;rw[zan _ _ Zi,show k+(i+1)=k+1+i by omega,zsl ds (k+1) i];simp
theorem qor {σ:St}{g:Gh}{w:World}{A:Nat->Prop}(hA:∀b,A b->zcl σ g w b){x:T}{v:Value}(h:zai w A x v):CR σ g w x.toN v:=by
 cases x<;>first|exact zai.keep (λ_ _=>rfl) (λb hb=>(hA b hb).1) _ v h|exact zai.keep (λ_ _=>rfl) hA _ v h
theorem qbz {σ:St}{g:Gh}{w:World}{A:Nat->Prop}(hA:∀b,A b->zcl σ g w b):∀{ts:List T}{vs:List Value},zae w A ts vs->CRs σ g w (ts.map T.toN) vs
 | [],vs,h=>by unfold zae at h;exact h
 | t::ts,vs,h=>by
  unfold zae at h;obtain⟨v,vs',rfl,h1,h2⟩:=h;exact⟨v,vs',rfl,qor hA h1,qbz hA h2⟩
theorem qho {σ:St}{g:Gh}{w:World}{A:Nat->Prop}(hA:∀b,A b->zcl σ g w b){d:D}{v:Value}(h:qbo w A d v):VR σ g w d.toN v:=by
 cases d with
 | one t=>exact qor hA h
 | agg ts=>obtain⟨a,h0,h1⟩:=h;exact⟨a,h0,qbz hA h1⟩
theorem zbc.at {w:World}{A:Nat->Prop}:∀{ds:List D}{vs:List Value},zbc w A ds vs->∀(i:Nat) d,ds[i]?=some d->∃v,vs[i]?=some v/\qbo w A d v
 | [],_,_,i,d,h=>by simp at h
 | d0::ds,vs,h,0,d,hi=>by
  obtain⟨v,vs',rfl,h1,h2⟩:=h;simp only[List.getElem?_cons_zero,Qf]at hi;subst hi;exact⟨v,rfl,h1⟩
 | d0::ds,vs,h,i+1,d,hi=>by
  obtain⟨v,vs',rfl,h1,h2⟩:=h;simpa using zbc.at h2 i d (by simpa using hi)
theorem zdf {w:World}{A:Nat->Prop}:∀{ds:List D}{vs:List Value}{fp tp:List Nat},zaw w A (rd ds) vs fp tp->zbc w A ds vs/\fp=[]/\tp=[]
 | [],_,_,_,h=>⟨h.1,h.2.1,h.2.2⟩
 | d::ds,_,_,_,h=>by
  obtain⟨v,vs',rfl,h1,h2⟩:=h;obtain⟨k1,k2,k3⟩:=zdf h2;exact⟨⟨v,vs',rfl,h1,k1⟩,k2,k3⟩
theorem qfk {args:List D}{w:World}{vs:List Value}{N:Nat}{g:Gh}{a:Act}(hr:zbc w (λb=>b<w.heap.size/\b∉([]:List Nat)) args vs)(hR:Rel (λb=>b<w.heap.size/\b∉([]:List Nat)) N (zd9 (rd args)) g a w)
  (hg:a.tmps=(⟨vs⟩:Array Value)++Array.replicate (N-vs.length) undef/\(g.A0,g.R0)=((λ_=>True),RP.of λb=>b∈([]:List Nat)\/w.heap.size<=b)):Rel (λb=>b<w.heap.size/\b∉([]:List Nat)) N (zpk args) g a w:=by
 have hbx:∀(ds:List D) (k:Nat),zgu k (rd ds)=λ_=>none:=λds=>by
  induction ds with
  | nil=>intro k;rfl
  | cons d ds ih=>intro k;exact ih (k+1)
 have hG:∀b,(b<w.heap.size/\b∉([]:List Nat))->zcl (zpk args) g w b:=λb hb=>by
  refine⟨⟨λk hk=>absurd rfl hk,λe x he _=>(by cases he),hb.1,by rw[(Jr hg.2).1];trivial⟩,?_⟩;rintro e ⟨x,hx,_⟩;cases hx
 refine hR.slots_of (σ':=zpk args) rfl ?_ hR.defers hR.size λi=>?_
 ·show(λ_=>none)=zgu 0 (rd args)
  rw[hbx]
 ·have hm:Mv (zpk args) (zpk args) g g w w:=Mv.of_eq g w rfl rfl;show VR (zd9 (rd args)) g w (zit 0 args i) _
  have hi:=zsl args 0 i;rw[Qi]at hi;rw[hi];cases hd:args[i]? with
  | none=>trivial
  | some d =>
   obtain⟨v,hv1,hv2⟩:=zbc.at hr i d hd;have hlt:i<vs.length:=(List.getElem?_eq_some_iff.1 hv1).1;have e:a.tmps.getD i (g.R0.ξ i)=v:=by
    rw[hg.1];rw[Array.getD_eq_getD_getElem?,Array.getElem?_append_left (by simpa using hlt)];simp[hv1]
   rw[e];have hx:=qho hG hv2;exact(Mv.of_eq (σ:=zpk args) (σ':=zd9 (rd args)) g w rfl (by show zgu 0 (rd args)=λ_=>none;rw[hbx])).vr hx
theorem zcc {f:FuncId}{fn:Func}{c:Code}{args res:List D}(hc:za8 P f)(hf:P.funcs[f]?=some fn)(hb:fn.body=some c)(hd:zcj fn.ntmps c=true)(hN:(rd args).length<=fn.ntmps)
  (h:ex P c [] (PS P fn.results.toList res) (zpk args)):FC P f args res:=by
 refine qnf hc hf hb hd hN (zeo args) λw vs fp tp hv g a hR hg=>?_
 obtain⟨hr,rfl,rfl⟩:=zdf hv
 exact⟨zpk args,h,qfk hr hR hg⟩
attribute [go_sem] zpk zit D.toN T.toN
end
section
open Go.RowKit
variable {P:Program}
def Ag (D:Nat->Prop)(a a':Act):Prop:=∀i,¬D i->a'.tmps.getD i undef=a.tmps.getD i undef
theorem Ag.put {D:Nat->Prop}{a0 a:Act}(h:Ag D a0 a){d:Option Nat}(hd:∀i,d=some i->D i)(v:Value):Ag D a0 (a.put d v):=λi hi=>by
 cases d with
 | none=>exact h i hi
 | some j =>
  have hij:i≠j:=λe=>hi (e▸hd j rfl);rw[show(a.put (some j) v).tmps=a.tmps.setIfInBounds j v from rfl,zi3 a hij];exact h i hi
end
section
open Go.RowKit
variable {P:Program}
theorem Rel.turn {n0 n1 A1:Nat->Prop}{N:Nat}{σ:St}{g:Gh}{a:Act}{w w':World}(h:Rel n0 N σ g a w)(hF:∀b,Fix σ g w b->A1 b/\w'.heap[b]?=w.heap[b]?)(hz:w.heap.size<=w'.heap.size)
  (hn:∀b,¬n1 b->A1 b/\g.R0 b) (hb:∀k,σ.bx k≠none->¬n1 (g.β k)/\w'.heap[g.β k]?=w.heap[g.β k]?) (he:∀e,σ.On e->∀b∈g.φ e,¬n1 b/\A1 b/\w'.heap[b]?=w.heap[b]?):Rel n1 N σ { g with A0:=A1 } a w':=by
 have m:Mv σ σ g { g with A0:=A1 } w w':=⟨λb hf=>(hF b hf).2,λb hf=>⟨hf.1,hf.2.1,Je hf.2.2.1 hz,(hF b hf).1⟩,λb hbb=>⟨rfl,hbb⟩,λe n hh=>⟨hh,rfl⟩,λb hb=>hb.2⟩
 refine⟨h.defers,h.size,hn,λi=>m.vr (h.slots i),λb cs hbb=>?_,λb hbb=>(hb b hbb).1,h.inj,λe x hx ho=>m.evr (h.evs e x hx ho) λb hm=>(he e ⟨x,hx,ho⟩ b hm).2.2,λe x hx ho=>⟨m.rep (h.offs e x hx ho).1,(h.offs e x hx ho).2⟩,h.slc,λe ho b hm=>⟨(he e ho b hm).2.1,(h.ebase e ho b hm).2⟩,λe ho b hm=>(he e ho b hm).1,h.nodup,h.apart,h.ebx⟩
 obtain⟨vs,ty,k1,k2⟩:=h.boxes b cs hbb
 exact⟨vs,ty,by rw[(hb b (by rw[hbb];simp)).2];exact k1,m.crs k2⟩
theorem Rel.elt {n0:Nat->Prop}{N:Nat}{σ:St}{g:Gh}{a:Act}{w:World}(h:Rel n0 N σ g a w){e:Nat}(ho:σ.On e){b:Nat}(hm:b∈g.φ e):b<w.heap.size:=by
 obtain⟨x,hx,hon⟩:=ho
 exact(h.evs e x hx hon).lt b hm
theorem Rel.leave {n0 n1 A1:Nat->Prop}{N:Nat}{σ:St}{g:Gh}{a:Act}{w:World}(h:Rel n1 N σ g a w)(hn:∀b,n0 b->n1 b)(hA:∀b,g.A0 b->A1 b)(hnew:∀b,¬n0 b->A1 b/\g.R0 b):Rel n0 N σ { g with A0:=A1 } a w :=
 h.turn (λb hf=>⟨hA b hf.2.2.2,rfl⟩) (Qp _) hnew (λk hk=>⟨λk1=>h.base k hk (hn _ k1),rfl⟩) (λe ho b hm=>⟨λk1=>h.etop e ho b hm (hn _ k1),hA b (h.ebase e ho b hm).1,rfl⟩)
end
section
open Go.RowKit
variable {P:Program}
theorem owK_rn (t:T)(A B:Prop):owK (.one (.rn t)) A B=B:=by simp[owK,isOw]
attribute [go_sem] owK_rn
end
section
open Go.RowKit
variable {P:Program}
mutual
def GrT (w:World):T->T->List Nat->Prop
 | .vs a l c,y,ex=>zas w y (.slice a l c) ex
 | .sl sz rows,y,ex=>∃rows',y=.sl sz rows'/\zng w rows rows' ex
 | x,y,ex=>y=x/\ex=[]
def zng (w:World):List (List T)->List (List T)->List Nat->Prop
 | [],ys,ex=>ys=[]/\ex=[]
 | r::rs,ys,ex=>∃r' rs' e1 e2,ys=r'::rs'/\ex=e1++e2/\GrAt w r r' e1/\zng w rs rs' e2
def GrAt (w:World):List T->List T->List Nat->Prop
 | [],ys,ex=>ys=[]/\ex=[]
 | c::cs,ys,ex=>∃c' cs' e1 e2,ys=c'::cs'/\ex=e1++e2/\GrT w c c' e1/\GrAt w cs cs' e2
end
theorem zng.len {w:World}:∀{rs ys:List (List T)}{ex:List Nat},zng w rs ys ex->ys.length=rs.length
 | [],ys,ex,h=>by unfold zng at h;rw[h.1]
 | r::rs,ys,ex,h=>by
  unfold zng at h;obtain⟨r',rs',e1,e2,rfl,_,_,h2⟩:=h;simp[h2.len]
theorem GrAt.len {w:World}:∀{rs ys:List T}{ex:List Nat},GrAt w rs ys ex->ys.length=rs.length
 | [],ys,ex,h=>by unfold GrAt at h;rw[h.1]
 | r::rs,ys,ex,h=>by
  unfold GrAt at h;obtain⟨r',rs',e1,e2,rfl,_,_,h2⟩:=h;simp[h2.len]
end
section
open Go.RowKit
variable {P:Program}
def swp (a b e:Nat):Nat:=if e=a then b else if e=b then a else e
theorem zdl (a b e:Nat):swp a b (swp a b e)=e:=by unfold swp;split<;>(try split)<;>(try split)<;>omega
def C.ren (a b:Nat):C->C
 | .ow e g=>.ow (swp a b e) g
 | .eo e g sz i o=>.eo (swp a b e) g sz i o
 | .vw e g sz o=>.vw (swp a b e) g sz o
 | c=>c
def V.ren (a b:Nat):V->V
 | .one c=>.one (c.ren a b)
 | .agg cs=>.agg (cs.map (C.ren a b))
 | .tup xs=>.tup (xs.map λx=>(x.1,x.2.map (C.ren a b)))
def St.ren (σ:St)(a b:Nat):St:=⟨λi=>(σ.sl i).ren a b,λk=>(σ.bx k).map (·.map (C.ren a b)),λe=>σ.ev (swp a b e)⟩
def Gh.ren (g:Gh)(a b:Nat):Gh:={ g with ψ:=λe=>g.ψ (swp a b e),φ:=λe=>g.φ (swp a b e) }
theorem zi0 {σ:St}{a b k:Nat}:(σ.ren a b).bx k≠none↔σ.bx k≠none:=by unfold St.ren;simp
theorem zty {σ:St}{a b e n:Nat}(h:σ.has e n):(σ.ren a b).has (swp a b e) n:=by
 obtain⟨x,h1,h2⟩:=h
 exact⟨x,by show σ.ev (swp a b (swp a b e))=_;rw[zdl];exact h1,h2⟩
theorem zto {σ:St}{g:Gh}{w:World}{a b:Nat}:Fix (σ.ren a b) (g.ren a b) w=Fix σ g w:=by
 funext q
 refine propext ⟨λh=>⟨λk hk=>h.1 k (zi0.2 hk),λe x he ho=>?_,h.2.2⟩,λh=>⟨λk hk=>h.1 k (zi0.1 hk),λe x he ho=>h.2.1 (swp a b e) x he ho,h.2.2⟩⟩
 have:=h.2.1 (swp a b e) x (by show σ.ev (swp a b (swp a b e))=_;rw[zdl];exact he) ho
 have e2:(g.ren a b).φ (swp a b e)=g.φ e:=by show g.φ (swp a b (swp a b e))=_;rw[zdl]
 rwa [e2]at this
theorem qck {σ:St}{g:Gh}{w:World}{a b:Nat}:zcl (σ.ren a b) (g.ren a b) w=zcl σ g w:=by
 funext q
 unfold zcl
 rw[zto]
 refine propext ⟨λh=>⟨h.1,λe ho hm=>h.2 (swp a b e) ?_ ?_⟩,λh=>⟨h.1,λe ho hm=>h.2 (swp a b e) ho hm⟩⟩
 ·show σ.On (swp a b (swp a b e));rw[zdl];exact ho
 ·show q∈g.φ (swp a b (swp a b e));rw[zdl];exact hm
theorem qe7 {σ:St}{g:Gh}{w:World}{a b:Nat}{c:C}{v:Value}(h:CR σ g w c v):CR (σ.ren a b) (g.ren a b) w (c.ren a b) v:=by
 have hF:=zto (σ:=σ) (g:=g) (w:=w) (a:=a) (b:=b)
 have hψ:∀e,(g.ren a b).ψ (swp a b e)=g.ψ e:=λe=>by show g.ψ (swp a b (swp a b e))=_;rw[zdl]
 cases c with
 | t x=>show zai _ _ _ _;rw[hF];exact h
 | nl s=>exact h
 | ow e n=>exact⟨by show v=(g.ren a b).ψ (swp a b e) n;rw[hψ];exact h.1,zty h.2⟩
 | bx q o=>exact⟨h.1,zi0.2 h.2⟩
 | el cs o=>obtain⟨q,r,h1,h2,h3⟩:=h;exact⟨q,r,h1,by rw[hF];exact h2,by rw[hF];exact h3⟩
 | eo e s sz i o=>obtain⟨q,n,c,h1,h2,h3,h4⟩:=h;exact⟨q,n,c,by rw[hψ];exact h1,h2,h3,zty h4⟩
 | vw e s sz i=>obtain⟨q,n,c,h1,h2,h3,h4⟩:=h;exact⟨q,n,c,by rw[hψ];exact h1,h2,h3,zty h4⟩
 | fn f caps=>exact⟨h.1,λq hq=>zi0.2 (h.2 q hq)⟩
 | cv u=>exact h
 | any=>trivial
 | rn x=>show zai _ _ _ _;rw[qck];exact h
 | er cs o=>obtain⟨q,r,h1,h2,h3⟩:=h;exact⟨q,r,h1,by rw[qck];exact h2,by rw[qck];exact h3⟩
theorem zo9 {σ:St}{g:Gh}{w:World}{a b:Nat}:∀{cs:List C}{vs:List Value},CRs σ g w cs vs->CRs (σ.ren a b) (g.ren a b) w (cs.map (C.ren a b)) vs
 | [],_,h=>h
 | c::cs,_,h=>by obtain⟨v,vs',rfl,h1,h2⟩:=h;exact⟨v,vs',rfl,qe7 h1,zo9 h2⟩
theorem qcc {σ:St}{g:Gh}{w:World}{a b:Nat}:∀{xs:List (Bool×List C)}{vs:List Value},CRt σ g w xs vs->CRt (σ.ren a b) (g.ren a b) w (xs.map λx=>(x.1,x.2.map (C.ren a b))) vs
 | [],_,h=>h
 | x::xs,_,h=>by
  obtain⟨v,vs',rfl,h1,h2⟩:=h;refine⟨v,vs',rfl,?_,qcc h2⟩;unfold CRx at h1⊢;split at h1
  ·rw[if_pos ‹_›];obtain⟨q,h3,h4⟩:=h1;exact⟨q,h3,zo9 h4⟩
  ·rw[if_neg ‹_›];obtain⟨c,h3,h4⟩:=h1;exact⟨c.ren a b,by simp[h3],qe7 h4⟩
theorem vr_ren {σ:St}{g:Gh}{w:World}{a b:Nat}{x:V}{v:Value}(h:VR σ g w x v):VR (σ.ren a b) (g.ren a b) w (x.ren a b) v:=by
 cases x with
 | one c=>exact qe7 h
 | agg cs=>obtain⟨q,h1,h2⟩:=h;exact⟨q,h1,zo9 h2⟩
 | tup xs=>obtain⟨q,h1,h2⟩:=h;exact⟨q,h1,qcc h2⟩
theorem zmt {σ:St}{a b e:Nat}(h:(σ.ren a b).On e):σ.On (swp a b e):=h
theorem Rel.ren {n0:Nat->Prop}{N:Nat}{σ:St}{g:Gh}{ac:Act}{w:World}(h:Rel n0 N σ g ac w)(a b:Nat):Rel n0 N (σ.ren a b) (g.ren a b) ac w:=by
 have hF:=zto (σ:=σ) (g:=g) (w:=w) (a:=a) (b:=b)
 refine⟨h.defers,h.size,h.anew,λi=>vr_ren (h.slots i),λk cs hk=>?_,λk hk=>h.base k (zi0.1 hk),λk k' h1 h2=>h.inj k k' (zi0.1 h1) (zi0.1 h2),λe x he ho=>?_,λe x he ho=>?_,λe n=>h.slc (swp a b e) n,λe he=>h.ebase _ (zmt he),λe he=>h.etop _ (zmt he),λe he=>h.nodup _ (zmt he),λe e' he he' hne=>h.apart _ _ (zmt he) (zmt he') (λk=>hne (by rw[<-zdl a b e,k,zdl])),λe k he hk=>h.ebx _ k (zmt he) (zi0.1 hk)⟩
 ·obtain⟨cs0,h1,rfl⟩:=Q3.1 hk;obtain⟨vs,ty,k1,k2⟩:=h.boxes k cs0 h1;exact⟨vs,ty,k1,zo9 k2⟩
 ·rw[hF];exact h.evs (swp a b e) x he ho
 ·rw[hF];exact h.offs (swp a b e) x he ho
theorem zv5 (a b:Nat):∀(l:List (Nat×V))(i:Nat),(zgi l i).ren a b=zgi (l.map λp=>(p.1,p.2.ren a b)) i
 | [],i=>rfl
 | (j,v)::l,i=>by
  simp only[Qk,zgi];split
  ·rfl
  ·exact zv5 a b l i
theorem qfm {α β:Type}(f:α->β):∀(l:List (Nat×α))(i:Nat),(tbl l i).map f=tbl (l.map λp=>(p.1,f p.2)) i
 | [],i=>rfl
 | (j,v)::l,i=>by
  simp only[Qk,tbl];split
  ·rfl
  ·exact qfm f l i
theorem qdq {α:Type}(a b:Nat):∀(l:List (Nat×α))(i:Nat),tbl l (swp a b i)=tbl (l.map λp=>(swp a b p.1,p.2)) i
 | [],i=>rfl
 | (j,v)::l,i=>by
  simp only[Qk,tbl];by_cases h:swp a b i=j
  ·rw[if_pos h,if_pos (by rw[<-h,zdl])]
  ·rw[if_neg h,if_neg (λe=>h (by rw[e,zdl]))];exact qdq a b l i
theorem wk_ren (a b:Nat)(l:List (Nat×V))(bl:List (Nat×List C))(el:List (Nat×Ev)):Wk (hd l bl el) (hd (l.map λp=>(p.1,p.2.ren a b)) (bl.map λp=>(p.1,p.2.map (C.ren a b))) (el.map λp=>(swp a b p.1,p.2))):=λn0 N g ac w hR=>by
 have e:(hd l bl el).ren a b=hd (l.map λp=>(p.1,p.2.ren a b)) (bl.map λp=>(p.1,p.2.map (C.ren a b))) (el.map λp=>(swp a b p.1,p.2)):=by
  unfold hd St.ren;simp only[St.mk.injEq];exact⟨funext λi=>zv5 a b l i,funext λk=>qfm _ bl k,funext λe=>qdq a b el e⟩
 exact⟨g.ren a b,e▸hR.ren a b,rfl,rfl⟩
end
section
open Go.RowKit
variable {P:Program}
def C.evs:C->List Nat
 | .ow e _=>[e]
 | .eo e _ _ _ _=>[e]
 | .vw e _ _ _=>[e]
 | _=>[]
def C.bxs:C->List Nat
 | .bx b _=>[b]
 | .fn _ caps=>caps
 | _=>[]
def V.alls:V->List C
 | .one c=>[c]
 | .agg cs=>cs
 | .tup xs=>xs.flatMap (·.2)
def ins (x:Nat):List Nat->List Nat
 | []=>[x]
 | y::l=>if x=y then y::l else y::ins x l
def zmx:List Nat->List Nat->List Nat
 | [],l=>l
 | x::xs,l=>zmx xs (ins x l)
def noK (x:Nat):List Nat->Bool
 | []=>true
 | y::l=>if x=y then false else noK x l
def dif (l:List Nat):List Nat->List Nat
 | []=>[]
 | x::xs=>if noK x l=true then x::dif l xs else dif l xs
def ql0:List C->List Nat
 | []=>[]
 | c::cs=>c.bxs++ql0 cs
def qk6:List C->List Nat
 | []=>[]
 | c::cs=>c.evs++qk6 cs
def St.kb0 (σ:St):List Nat->List Nat
 | []=>[]
 | i::L=>zmx (ql0 (σ.sl i).alls) (σ.kb0 L)
def St.kb1 (σ:St):List Nat->List Nat
 | []=>[]
 | b::B=>zmx (b::ql0 ((σ.bx b).getD [])) (σ.kb1 B)
def St.KB (σ:St)(L:List Nat):List Nat:=σ.kb1 (σ.kb0 L)
def St.ke0 (σ:St):List Nat->List Nat
 | []=>[]
 | i::L=>zmx (qk6 (σ.sl i).alls) (σ.ke0 L)
def St.ke1 (σ:St)(l:List Nat):List Nat->List Nat
 | []=>l
 | b::B=>zmx (qk6 ((σ.bx b).getD [])) (σ.ke1 l B)
def St.KE (σ:St)(L:List Nat):List Nat:=σ.ke1 (σ.ke0 L) (σ.KB L)
def St.lL (σ:St)(L:List Nat):List (Nat×V):=L.map λi=>(i,σ.sl i)
def St.lB (σ:St)(B:List Nat):List (Nat×List C):=B.map λb=>(b,(σ.bx b).getD [])
def St.lE (σ:St)(E:List Nat):List (Nat×Ev):=E.map λe=>(e,(σ.ev e).getD ⟨false,0,[],0,false⟩)
def St.hL (σ:St)(L:List Nat):St:=hd (σ.lL L) (σ.lB (σ.KB L)) (σ.lE (σ.KE L))
def wkK (σ:St)(L:List Nat):Prop:=wkL σ (σ.hL L) (σ.lL L)/\wkB σ (σ.hL L) (σ.lB (σ.KB L))/\wkE σ (σ.lE (σ.KE L))
theorem wkK_wk {σ:St}{L:List Nat}(h:wkK σ L):Wk σ (σ.hL L):=zab h
section
variable {ks:List Fr}{Q:Exit->St->Prop}{σ:St}{ops:Array Oper}{os:List Oper}{ty:TypeId}{ps:String}{af:Array Edge}{dst:Option Nat}{x:Operand}{asx:Array Operand}{ts:Array TypeId}{f:FuncId}
theorem zvh {pre:List D}{d:D}{post:List D}{d':D}{res:List D}(L:List Nat)(h:IC P f pre d post d' res)(hw:wkK σ L)
  (hd1:((σ.lL L).all λp=>p.2.mOk)=true) (hd2:((σ.lB (σ.KB L)).all λp=>p.2.all C.mOk)=true) (hd3:((σ.lE (σ.KE L)).all λp=>p.2.on&&p.2.deep)=true)
  (hp:zaq (za3 ((σ.hL L).get P 0 x)) λp=>p.1=f/\spI ((σ.hL L).gets P asx ts++p.2) pre.length λp1 gv p2=>qao p1 pre/\qao p2 post/\inG (σ.hL L) gv d d') (hr:res.all D.fl=true)
  (k:exo P ops os ks Q ((σ.hL L).cI P x asx ts pre.length dst d' res)):exo P ops (⟨dst,.call ⟨.value x,asx,ts⟩,ty,ps,af,none⟩::os) ks Q σ :=
 callId h hw hd1 hd2 hd3 hp hr k
theorem zei {d:Nat}{ds:List (Bool×D)}{res:List D}(L A:List Nat)(pl:List (Nat×Nat×Nat))(h:GC P f ds res)
  (hw:wkL σ (hd (σ.lL A++σ.lL L) (σ.lB (dif (σ.KB L) (σ.KB A))++σ.lB (σ.KB L)) (σ.lE (dif (σ.KE L) (σ.KE A))++σ.lE (σ.KE L))) (σ.lL A++σ.lL L)/\wkB σ (hd (σ.lL A++σ.lL L) (σ.lB (dif (σ.KB L) (σ.KB A))++σ.lB (σ.KB L)) (σ.lE (dif (σ.KE L) (σ.KE A))++σ.lE (σ.KE L))) (σ.lB (dif (σ.KB L) (σ.KB A))++σ.lB (σ.KB L))/\wkE σ (σ.lE (dif (σ.KE L) (σ.KE A))++σ.lE (σ.KE L)))
  (hk:zgn (σ.lL L) (σ.lL A)/\zgn (σ.lB (σ.KB L)) (σ.lB (dif (σ.KB L) (σ.KB A)))/\zgn (σ.lE (σ.KE L)) (σ.lE (dif (σ.KE L) (σ.KE A)))/\okL (σ.hL L) (σ.lL L)/\okB (σ.hL L) (σ.lB (σ.KB L))/\okE (σ.lE (σ.KE L)))
  (hp:zaq (za3 ((hd (σ.lL A++σ.lL L) (σ.lB (dif (σ.KB L) (σ.KB A))++σ.lB (σ.KB L)) (σ.lE (dif (σ.KE L) (σ.KE A))++σ.lE (σ.KE L))).get P 0 x)) λp=>p.1=f/\gvA (hd (σ.lL A++σ.lL L) (σ.lB (dif (σ.KB L) (σ.KB A))++σ.lB (σ.KB L)) (σ.lE (dif (σ.KE L) (σ.KE A))++σ.lE (σ.KE L))) (zzz (σ.lE (σ.KE L))) [] pl ((hd (σ.lL A++σ.lL L) (σ.lB (dif (σ.KB L) (σ.KB A))++σ.lB (σ.KB L)) (σ.lE (dif (σ.KE L) (σ.KE A))++σ.lE (σ.KE L))).gets P asx ts++p.2) ds)
  (hf:zid d 0 (za6 res) (σ.hL L).ev) (k:exo P ops os ks Q ((σ.hL L).callF d res)):exo P ops (⟨some d,.call ⟨.value x,asx,ts⟩,ty,ps,af,none⟩::os) ks Q σ :=
 callG (σ.lL A) (σ.lL L) _ _ _ _ pl h hw hk hp hf k
theorem zav.lt {w:World}:∀{cs:List T}{vs:List Value}{fps:List Nat},zav w cs vs fps->∀b∈fps,b<w.heap.size
 | [],_,_,h,b,hb=>by rw[h.2]at hb;simp at hb
 | c::cs,_,_,h,b,hb=>by
  obtain⟨v,vs',f1,f2,rfl,rfl,h1,h2⟩:=h;rcases Qt.1 hb with hb|hb
  ·exact zas.lt c v f1 h1 b hb
  ·exact zav.lt h2 b hb
theorem qnt {g:Gh}{w:World}{c:C}{t:T}{v:Value}(h:rdC c t)(hv:CR σ g w c v):zai w (zcl σ g w) t v:=by
 unfold rdC at h
 split at h
 ·rename_i x;obtain⟨rfl,hn⟩:=h;exact zlf (σ:=σ) (g:=g) (x:=.one (.t x)) (d:=.one x) ⟨rfl,hn⟩ hv _
 ·rename_i f f';subst h;exact zlf (σ:=σ) (g:=g) (x:=.one (.fn f [])) (d:=.one (.fn f [])) rfl hv _
 ·subst h;exact hv
 ·obtain⟨rfl,rfl⟩:=h;obtain⟨b,q,h1,h2,h3⟩:=hv;unfold zai;exact⟨b,q,h1,h2,h3⟩
 ·subst h;rw[show v=.slice none 0 0 from hv];unfold zai;exact⟨none,0,rfl,by simp,by simp,Or.inl rfl⟩
 ·exact h.elim
theorem qd6 {g:Gh}{w:World}:∀{cs:List C}{ts:List T}{vs:List Value},rdCs cs ts->CRs σ g w cs vs->zae w (zcl σ g w) ts vs
 | [],[],vs,_,hv=>by unfold zae;exact hv
 | [],_::_,_,h,_=>h.elim
 | _::_,[],_,h,_=>h.elim
 | c::cs,t::ts,vs,h,hv=>by
  obtain⟨v,vs',rfl,h1,h2⟩:=hv;unfold zae;exact⟨v,vs',rfl,qnt h.1 h1,qd6 h.2 h2⟩
theorem rdV_fr {g:Gh}{w:World}{x:V}{d:D}{v:Value}(h:rdV x d)(hv:VR σ g w x v):qbo w (zcl σ g w) d v:=by
 unfold rdV at h
 split at h
 ·exact qnt h hv
 ·obtain⟨b,e,hv⟩:=hv;exact⟨b,e,qd6 h hv⟩
 ·exact h.elim
end
def gVN (k:Nat):Bool×D->V
 | (false,d)=>d.toN
 | (true,d)=>gV k (true,d)
def zja:Nat->List (Bool×D)->Nat->V
 | _,[]=>λ_=>.one .any
 | k,d::ds=>upd (zja (k+1) ds) k (gVN k d)
def zi1 (args:List (Bool×D)):St:=⟨zja 0 args,λ_=>none,zgu 0 args⟩
theorem zsr:∀(ds:List (Bool×D))(k i:Nat),zja k ds (k+i)=match ds[i]? with|some d=>gVN (k+i) d|none=>.one .any
 | [],k,i=>by simp[zja]
 | d::ds,k,0=>by simp[zja,upd]
 | d::ds,k,i+1=>by
  unfold zja;rw[zan _ _ Zi,show k+(i+1)=k+1+i by omega,zsr ds (k+1) i];simp
theorem zaw.atR {w:World}{A:Nat->Prop}:∀{ds:List (Bool×D)}{vs:List Value}{fp tp:List Nat},zaw w A ds vs fp tp->∀(i:Nat) d,ds[i]?=some (false,d)->∃v,vs[i]?=some v/\qbo w A d v
 | [],_,_,_,_,i,d,h=>by simp at h
 | (false,e)::ds,_,_,_,h,0,d,hi=>by
  obtain⟨v,vs',rfl,h1,_⟩:=h;simp only[List.getElem?_cons_zero,Qf,Qx,true_and]at hi;subst hi;exact⟨v,rfl,h1⟩
 | (true,e)::ds,_,_,_,h,0,d,hi=>by simp at hi
 | (false,e)::ds,_,_,_,h,i+1,d,hi=>by
  obtain⟨v,vs',rfl,_,h2⟩:=h;simpa using zaw.atR h2 i d (by simpa using hi)
 | (true,e)::ds,_,_,_,h,i+1,d,hi=>by
  obtain⟨v,vs',f1,f2,t1,t2,rfl,rfl,rfl,_,h2⟩:=h;simpa using zaw.atR h2 i d (by simpa using hi)
theorem Rel.frOld {n0:Nat->Prop}{N:Nat}{σ:St}{g:Gh}{a:Act}{w:World}(h:Rel n0 N σ g a w){b:Nat}(h1:n0 b)(h2:b<w.heap.size)(h3:g.A0 b):zcl σ g w b :=
 ⟨⟨λk hk e=>h.base k hk (e▸h1),λe x hx ho hh=>h.etop e ⟨x,hx,ho⟩ b (List.mem_of_mem_head? hh) h1,h2,h3⟩,λe ho hm=>h.etop e ho b hm h1⟩
theorem zzu {args:List (Bool×D)}{w:World}{vs:List Value}{fp tp:List Nat}{N:Nat}{g:Gh}{a:Act}(hv:zaw w (λb=>b<w.heap.size/\b∉fp) args vs fp tp)(hR:Rel (λb=>b<w.heap.size/\b∉fp) N (zd9 args) g a w)
  (ht:a.tmps=(⟨vs⟩:Array Value)++Array.replicate (N-vs.length) undef) (hA:∀b,g.A0 b):Rel (λb=>b<w.heap.size/\b∉fp) N (zi1 args) g a w:=by
 have hm:Mv (zd9 args) (zi1 args) g g w w:=Mv.of_eq g w rfl rfl
 refine hR.slots_of (σ':=zi1 args) rfl rfl hR.defers hR.size λi=>?_
 refine(Mv.of_eq (σ:=zi1 args) (σ':=zd9 args) g w rfl rfl).vr (σ:=zi1 args) ?_
 have hi:=zsr args 0 i
 rw[Qi]at hi
 show VR _ _ _ (zja 0 args i) _
 rw[hi]
 cases hd:args[i]? with
 | none=>trivial
 | some p =>
  obtain⟨b,d⟩:=p;cases b with
  | true =>
   have h0:=hm.vr (hR.slots i);have hj:=zjt args 0 i;rw[Qi,hd]at hj;have h0':VR (zi1 args) g w (zlk 0 args i) (a.tmps.getD i (g.R0.ξ i)):=h0;rw[hj]at h0';exact h0'
  | false =>
   obtain⟨v,hv1,hv2⟩:=zaw.atR hv i d hd;have hlt:i<vs.length:=(List.getElem?_eq_some_iff.1 hv1).1;have e:a.tmps.getD i (g.R0.ξ i)=v:=by
    rw[ht,Array.getD_eq_getD_getElem?,Array.getElem?_append_left (by simpa using hlt)];simp[hv1]
   rw[e];exact hm.vr (qho (λb hb=>hR.frOld hb hb.1 (hA b)) hv2)
theorem zs4 {f:FuncId}{fn:Func}{c:Code}{args:List (Bool×D)}{res:List D}(hc:za8 P f)(hf:P.funcs[f]?=some fn)(hb:fn.body=some c)(hd:zcj fn.ntmps c=true)(hN:args.length<=fn.ntmps)(hs:zb6 args)
  (h:ex P c [] (PS P fn.results.toList res) (zi1 args)):GC P f args res :=
 qnf hc hf hb hd hN hs λw vs fp tp hv g a hR hg=>⟨_,h,zzu hv hR hg.1 λb=>by rw[(Jr hg.2).1];trivial⟩
def renL (a b:Nat)(l:List (Nat×V)):List (Nat×V):=l.map λp=>(p.1,p.2.ren a b)
def renB (a b:Nat)(l:List (Nat×List C)):List (Nat×List C):=l.map λp=>(p.1,p.2.map (C.ren a b))
def renE (a b:Nat)(l:List (Nat×Ev)):List (Nat×Ev):=l.map λp=>(swp a b p.1,p.2)
theorem zy9 (a b:Nat)(c:C):(c.ren a b).ren a b=c:=by cases c<;>simp[C.ren,zdl]
theorem zpb (a b:Nat)(cs:List C):(cs.map (C.ren a b)).map (C.ren a b)=cs:=by
 rw[Jj];exact(Jb λc _=>zy9 a b c).trans (Ze cs)
theorem qkc (a b:Nat)(v:V):(v.ren a b).ren a b=v:=by
 cases v with
 | one c=>simp[V.ren,zy9]
 | agg cs=>simp only[V.ren,zpb]
 | tup xs =>
  simp only[V.ren,Jj]
  congr 1
  exact(Jb λx _=>by simp only[Function.comp,zpb];rfl).trans (Ze xs)
theorem zcn (a b:Nat){σ:St}{l:List (Nat×V)}{bl:List (Nat×List C)}{el:List (Nat×Ev)}(h:wkL σ (hd (renL a b l) (renB a b bl) (renE a b el)) (renL a b l)/\wkB σ (hd (renL a b l) (renB a b bl) (renE a b el)) (renB a b bl)/\wkE σ (renE a b el)):Wk σ (hd l bl el):=by
 have h1:=(zab h).trans (wk_ren a b _ _ _)
 have e1:(renL a b l).map (λp=>(p.1,p.2.ren a b))=l:=by
  unfold renL;rw[Jj];exact(Jb λp _=>by simp only[Function.comp,qkc];rfl).trans (Ze l)
 have e2:(renB a b bl).map (λp=>(p.1,p.2.map (C.ren a b)))=bl:=by
  unfold renB;rw[Jj];exact(Jb λp _=>by simp only[Function.comp,zpb];rfl).trans (Ze bl)
 have e3:(renE a b el).map (λp=>(swp a b p.1,p.2))=el:=by
  unfold renE;rw[Jj];exact(Jb λp _=>by simp only[Function.comp,zdl];rfl).trans (Ze el)
 rw[e1,e2,e3]at h1
 exact h1
attribute [go_sem] C.evs C.bxs V.alls ins zmx noK dif ql0 qk6 St.kb0 St.kb1 St.KB St.ke0 St.ke1 St.KE St.lL St.lB St.lE St.hL wkK gVN zja zi1 renL renB renE C.ren V.ren swp
end
section
open Go.RowKit
variable {P:Program}
theorem zaw.append {w:World}{A:Nat->Prop}:∀{d1 d2:List (Bool×D)}{v1 v2:List Value}{f1 f2 t1 t2:List Nat},zaw w A d1 v1 f1 t1->zaw w A d2 v2 f2 t2->zaw w A (d1++d2) (v1++v2) (f1++f2) (t1++t2)
 | [],_,_,_,_,_,_,_,h,k=>by obtain⟨rfl,rfl,rfl⟩:=h;exact k
 | (true,d)::ds,_,_,_,_,_,_,_,h,k=>by
  obtain⟨v,vs',g1,g2,s1,s2,rfl,rfl,rfl,h1,h2⟩:=h;exact⟨v,_,g1,_,s1,_,rfl,by rw[Kl],by rw[Kl],h1,zaw.append h2 k⟩
 | (false,d)::ds,_,_,_,_,_,_,_,h,k=>by
  obtain⟨v,vs',rfl,h1,h2⟩:=h;exact⟨v,_,rfl,h1,zaw.append h2 k⟩
theorem zaw.len {w:World}{A:Nat->Prop}:∀{ds:List (Bool×D)}{vs:List Value}{fp tp:List Nat},zaw w A ds vs fp tp->vs.length=ds.length
 | [],_,_,_,h=>by rw[h.1];rfl
 | (true,d)::ds,_,_,_,h=>by obtain⟨v,vs',_,_,_,_,rfl,rfl,rfl,_,h2⟩:=h;simp[zaw.len h2]
 | (false,d)::ds,_,_,_,h=>by obtain⟨v,vs',rfl,_,h2⟩:=h;simp[zaw.len h2]
theorem zaw.split {w:World}{A:Nat->Prop}:∀{d1 d2:List (Bool×D)}{vs:List Value}{fp tp:List Nat},zaw w A (d1++d2) vs fp tp->∃v1 v2 f1 f2 t1 t2,vs=v1++v2/\fp=f1++f2/\tp=t1++t2/\zaw w A d1 v1 f1 t1/\zaw w A d2 v2 f2 t2
 | [],d2,vs,fp,tp,h=>⟨[],vs,[],fp,[],tp,rfl,rfl,rfl,⟨rfl,rfl,rfl⟩,h⟩
 | (true,d)::ds,d2,_,_,_,h=>by
  obtain⟨v,vs',g1,g2,s1,s2,rfl,rfl,rfl,h1,h2⟩:=h;obtain⟨v1,v2,f1,f2,t1,t2,rfl,rfl,rfl,k1,k2⟩:=zaw.split h2;exact⟨v::v1,v2,g1++f1,f2,s1++t1,t2,rfl,by rw[Kl],by rw[Kl],⟨v,v1,g1,f1,s1,t1,rfl,rfl,rfl,h1,k1⟩,k2⟩
 | (false,d)::ds,d2,_,_,_,h=>by
  obtain⟨v,vs',rfl,h1,h2⟩:=h;obtain⟨v1,v2,f1,f2,t1,t2,rfl,rfl,rfl,k1,k2⟩:=zaw.split h2;exact⟨v::v1,v2,f1,f2,t1,t2,rfl,rfl,rfl,⟨v,v1,rfl,h1,k1⟩,k2⟩
def zce:List (Bool×D)->List (Bool×T)
 | []=>[]
 | (b,.one t)::ds=>(b,t)::zce ds
 | (b,.agg ts)::ds=>ts.map (λt=>(b,t))++zce ds
def bxA (box:List (Bool×T)):List (Bool×D):=box.map λp=>(p.1,.one p.2)
theorem qbv.ones {w:World}{A:Nat->Prop}:∀{ts:List T}{vs:List Value}{fp tp:List Nat},qbv w ts vs fp tp->zaw w A (bxA (ts.map λt=>(true,t))) vs fp tp
 | [],_,_,_,h=>h
 | t::ts,_,_,_,h=>by
  obtain⟨v,vs',f1,f2,t2,rfl,rfl,rfl,h1,h2⟩:=h;exact⟨v,vs',f1,f2,_,t2,rfl,rfl,rfl,⟨h1,rfl⟩,qbv.ones h2⟩
theorem zae.ones {w:World}{A:Nat->Prop}:∀{ts:List T}{vs:List Value},zae w A ts vs->zaw w A (bxA (ts.map λt=>(false,t))) vs [] []
 | [],_,h=>by unfold zae at h;exact⟨h,rfl,rfl⟩
 | t::ts,_,h=>by
  unfold zae at h;obtain⟨v,vs',rfl,h1,h2⟩:=h;exact⟨v,vs',rfl,h1,zae.ones h2⟩
theorem zdt (a b:List (Bool×T)):bxA (a++b)=bxA a++bxA b:=Qq
theorem zai.cells1 {w:World}{A:Nat->Prop}{t:T}{v:Value}(h:zai w A t v):v.cells=#[v]:=(zai.one h).2
theorem zaw.flat {w:World}{A:Nat->Prop}:∀{ds:List (Bool×D)}{vs:List Value}{fp tp:List Nat},zaw w A ds vs fp tp->∃tp',zaw w A (bxA (zce ds)) (vs.flatMap λu=>u.cells.toList) fp tp'
 | [],_,_,_,h=>by obtain⟨rfl,rfl,rfl⟩:=h;exact⟨[],rfl,rfl,rfl⟩
 | (true,.one t)::ds,_,_,_,h=>by
  obtain⟨v,vs',f1,f2,t1,t2,rfl,rfl,rfl,h1,h2⟩:=h;obtain⟨tp',h2⟩:=zaw.flat h2;have e:(v::vs').flatMap (λu=>u.cells.toList)=v::vs'.flatMap λu=>u.cells.toList:=by
   have h1':zas w t v f1:=h1.1;simp[h1'.one]
  exact⟨t1++tp',v,_,f1,f2,t1,tp',e,rfl,rfl,h1,h2⟩
 | (false,.one t)::ds,_,_,_,h=>by
  obtain⟨v,vs',rfl,h1,h2⟩:=h;obtain⟨tp',h2⟩:=zaw.flat h2;have e:(v::vs').flatMap (λu=>u.cells.toList)=v::vs'.flatMap λu=>u.cells.toList:=by
   have h1':zai w A t v:=h1;simp[h1'.cells1]
  exact⟨tp',v,_,e,h1,h2⟩
 | (true,.agg ts)::ds,_,_,_,h=>by
  obtain⟨v,vs',f1,f2,t1,t2,rfl,rfl,rfl,⟨a,rfl,h1⟩,h2⟩:=h;obtain⟨tp',h2⟩:=zaw.flat h2;refine⟨t1++tp',?_⟩;show zaw w A (bxA (ts.map (λt=>(true,t))++zce ds)) (a++vs'.flatMap λu=>u.cells.toList) _ _
  rw[zdt];exact zaw.append h1.ones h2
 | (false,.agg ts)::ds,_,_,_,h=>by
  obtain⟨v,vs',rfl,⟨a,rfl,h1⟩,h2⟩:=h;obtain⟨tp',h2⟩:=zaw.flat h2;refine⟨[]++tp',?_⟩;show zaw w A (bxA (ts.map (λt=>(false,t))++zce ds)) (a++vs'.flatMap λu=>u.cells.toList) _ _
  rw[zdt];exact zaw.append h1.ones h2
def mC1 (d j:Nat):Bool×T->C
 | (true,t)=>owC d j t
 | (false,t)=>t.toN
def mC (d:Nat):Nat->List (Bool×T)->List C
 | _,[]=>[]
 | j,p::ts=>mC1 d j p::mC d (j+1) ts
def mE (d:Nat):Nat->List (Bool×T)->(Nat->Option Ev)->(Nat->Option Ev)
 | _,[],f=>f
 | j,(true,t)::ts,f=>mE d (j+1) ts (ztj d j f t)
 | j,(false,_)::ts,f=>mE d (j+1) ts f
def mF (d:Nat):Nat->List (Bool×T)->(Nat->Option Ev)->Prop
 | _,[],_=>True
 | j,(true,t)::ts,f=>qkg d j f t/\mF d (j+1) ts (ztj d j f t)
 | j,(false,_)::ts,f=>mF d (j+1) ts f
def mD (d:Nat):Nat->List (Bool×D)->List V
 | _,[]=>[]
 | j,(b,.one t)::ds=>.one (mC1 d j (b,t))::mD d (j+1) ds
 | j,(b,.agg ts)::ds=>.agg (mC d j (ts.map λt=>(b,t)))::mD d (j+ts.length) ds
theorem zqy (d:Nat):∀(ts:List (Bool×T))(j:Nat),(mC d j ts).length=ts.length
 | [],_=>rfl
 | t::ts,j=>by simp[mC,zqy d ts]
theorem zfu (d:Nat):∀(t1 t2:List (Bool×T))(j:Nat),mC d j (t1++t2)=mC d j t1++mC d (j+t1.length) t2
 | [],_,_=>by simp[mC]
 | t::ts,t2,j=>by simp only[Kt,mC,zfu d ts t2 (j+1),Qj];rw[show j+1+ts.length=j+(ts.length+1) by omega]
theorem qg9 (d:Nat):∀(ds:List (Bool×D))(j:Nat),∀x∈mD d j ds,x.isTup=false
 | [],_,x,hx=>by simp[mD]at hx
 | (_,.one t)::ds,j,x,hx=>by
  simp only[mD,Qs]at hx;rcases hx with rfl|hx
  ·rfl
  ·exact qg9 d ds _ x hx
 | (_,.agg ts)::ds,j,x,hx=>by
  simp only[mD,Qs]at hx;rcases hx with rfl|hx
  ·rfl
  ·exact qg9 d ds _ x hx
theorem New.mix {τ:St}{g:Gh}{NB:Nat->Prop}{w':World}{A:Nat->Prop}(d:Nat):∀(ts:List (Bool×T))(vs:List Value)(fp tp:List Nat)(j:Nat)(ev':Nat->Option Ev)(g':Gh)(F:List Nat),New τ g NB w' ev' g' F->mF d j ts ev'->zaw w' A (bxA ts) vs fp tp->fp.Nodup->(∀b∈fp,NB b/\b∉F) →
  ∃g'',New τ g NB w' (mE d j ts ev') g'' (F++fp)/\(∀e,ev' e≠none->mE d j ts ev' e=ev' e/\g''.ψ e=g'.ψ e)/\∀(σ':St) (w'':World),σ'.ev=mE d j ts ev'->(∀t v,zai w' A t v->zai w'' (zcl σ' g'' w'') t v)->CRs σ' g'' w'' (mC d j ts) vs
 | [],vs,fp,tp,j,ev',g',F,hN,hf,ho,hd,hb=>by
  obtain⟨rfl,rfl,rfl⟩:=ho;exact⟨g',by simpa[mE]using hN,λe _=>⟨rfl,rfl⟩,λ_ _ _ _=>rfl⟩
 | (false,t)::ts,vs,fp,tp,j,ev',g',F,hN,hf,ho,hd,hb=>by
  obtain⟨v,vs',rfl,h1,h2⟩:=ho;obtain⟨g'',k1,k2,k3⟩:=New.mix d ts vs' fp tp (j+1) ev' g' F hN hf h2 hd hb;exact⟨g'',k1,k2,λσ' w'' hσ hr=>⟨v,vs',rfl,qg3 (hr t v h1),k3 σ' w'' hσ hr⟩⟩
 | (true,t)::ts,vs,fp,tp,j,ev',g',F,hN,hf,ho,hd,hb=>by
  obtain⟨v,vs',f1,f2,t1,t2,rfl,rfl,rfl,⟨h1,_⟩,h2⟩:=ho;obtain⟨hf1,hf2⟩:=hf;obtain⟨hd1,hd2,hd3⟩:=Kk.1 hd;have h1:zas w' t v f1:=h1;by_cases hfl:t.flat=true
  ·have hz:f1=[]/\owC d j t=.t t/\ztj d j ev' t=ev'/\∀(σ':St) (g'':Gh) (w'':World),CR σ' g'' w'' (.t t) v:=by
    cases t<;>simp only[T.flat,Qz]at hfl
    ·unfold zas at h1;exact⟨h1.2.2.2,rfl,rfl,λ_ _ _=>by simp only[CR,zai];exact⟨h1.1,h1.2.1,h1.2.2.1⟩⟩
    ·unfold zas at h1;exact⟨h1.2,rfl,rfl,λ_ _ _=>by simp only[CR,zai];exact h1.1⟩
    ·unfold zas at h1;exact⟨h1.2.2,rfl,rfl,λ_ _ _=>by simp only[CR,zai];exact⟨h1.1,h1.2.1⟩⟩
    ·unfold zas at h1;exact⟨h1.2,rfl,rfl,λ_ _ _=>by simp only[CR,zai];exact h1.1⟩
   obtain⟨rfl,c2,c3,c4⟩:=hz;rw[c3]at hf2;obtain⟨g'',k1,k2,k3⟩:=New.mix d ts vs' f2 t2 (j+1) ev' g' F hN hf2 h2 hd2 (λb hb'=>hb b (by simp[hb']));refine⟨g'',by simpa[mE,c3]using k1,λe he=>by simpa[mE,c3]using k2 e he,λσ' w'' hσ hr=>⟨v,vs',rfl,?_,k3 σ' w'' (by simpa[mE,c3]using hσ) hr⟩⟩;show CR σ' g'' w'' (owC d j t) v
   rw[c2];exact c4 _ _ _
  ·cases t<;>simp only[T.flat,Qz,Kd,not_true]at hfl
   ·rename_i sz rows;have hi':ev' (d*32+j)=none:=hf1;have hi:τ.ev (d*32+j)=none:=by
     cases hx:τ.ev (d*32+j)with
     | none=>rfl
     | some x=>have:=(hN.old (d*32+j) (by rw[hx];simp)).1;rw[hi',hx]at this;cases this
    have hadd:=hN.add hi hi' h1 (λb hb'=>(hb b (by simp[hb'])).1) hd1 (λb hb'=>(hb b (by simp[hb'])).2)
    obtain⟨g'',k1,k2,k3⟩:=New.mix d ts vs' f2 t2 (j+1) _ _ _ hadd hf2 h2 hd2 (λb hb'=>⟨(hb b (by simp[hb'])).1,by
      have:=(hb b (by simp[hb'])).2;simp only[Qt,not_or]
      exact⟨this,λhf=>hd3 b hf b hb' rfl⟩⟩)
    refine⟨g'',by simpa[mE,ztj]using k1,λe he=>?_,λσ' w'' hσ hr=>⟨v,vs',rfl,?_,k3 σ' w'' hσ hr⟩⟩
    ·have hne:e≠d*32+j:=λh=>he (h▸hi');have:=k2 e (by rw[zan _ _ hne];exact he);simp only[zan _ _ hne]at this;exact this
    ·have:=k2 (d*32+j) (by rw[zah];simp);simp only[zah]at this;exact⟨by rw[this.2],_,by rw[hσ];exact this.1,Qy _⟩
   ·unfold zas at h1;exact h1.elim
   ·unfold zas at h1;exact h1.elim
   ·unfold zas at h1;exact h1.elim
   ·exact(show False from hf1).elim
   ·unfold zas at h1;exact h1.elim
   ·unfold zas at h1;exact h1.elim
   ·unfold zas at h1;exact h1.elim
theorem qfb {σ:St}{g:Gh}{w w1:World}{A:Nat->Prop}(d:Nat):∀{ds:List (Bool×D)}{us:List Value}{fp tp:List Nat}(j:Nat),zaw w1 A ds us fp tp->CRs σ g w (mC d j (zce ds)) (us.flatMap λu=>u.cells.toList)->VRl σ g w (mD d j ds) us
 | [],us,fp,tp,j,h,_=>h.1
 | (true,.one t)::ds,us,fp,tp,j,h,k=>by
  obtain⟨v,vs',f1,f2,t1,t2,rfl,rfl,rfl,h1,h2⟩:=h;have hv:zas w1 t v f1:=h1.1;simp only[Kx,hv.one,zce,mC]at k;obtain⟨u,us',e,k1,k2⟩:=k;simp only[Kt,Jf,Jv]at e;obtain⟨rfl,rfl⟩:=e;exact⟨v,vs',rfl,k1,qfb d (j+1) h2 k2⟩
 | (false,.one t)::ds,us,fp,tp,j,h,k=>by
  obtain⟨v,vs',rfl,h1,h2⟩:=h;have hv:zai w1 A t v:=h1;simp only[Kx,hv.cells1,zce,mC]at k;obtain⟨u,us',e,k1,k2⟩:=k;simp only[Kt,Jf,Jv]at e;obtain⟨rfl,rfl⟩:=e;exact⟨v,vs',rfl,k1,qfb d (j+1) h2 k2⟩
 | (true,.agg ts)::ds,us,fp,tp,j,h,k=>by
  obtain⟨v,vs',f1,f2,t1,t2,rfl,rfl,rfl,⟨x,rfl,h1⟩,h2⟩:=h;simp only[Kx,Value.cells,zce,zfu]at k;obtain⟨v1,v2,e,k1,k2⟩:=k.split;have hl:x.length=v1.length:=by rw[k1.len,zqy,Qa];exact zav.len (zav.of_g h1)
  obtain⟨e1,e2⟩:=Yv e hl;subst e1 e2;rw[Qa]at k2;exact⟨_,vs',rfl,⟨x,rfl,k1⟩,qfb d (j+ts.length) h2 k2⟩
 | (false,.agg ts)::ds,us,fp,tp,j,h,k=>by
  obtain⟨v,vs',rfl,⟨x,rfl,h1⟩,h2⟩:=h;simp only[Kx,Value.cells,zce,zfu]at k;obtain⟨v1,v2,e,k1,k2⟩:=k.split;have hl:x.length=v1.length:=by rw[k1.len,zqy,Qa];exact h1.len
  obtain⟨e1,e2⟩:=Yv e hl;subst e1 e2;rw[Qa]at k2;exact⟨_,vs',rfl,⟨x,rfl,k1⟩,qfb d (j+ts.length) h2 k2⟩
theorem zf9 {σ:St}{g:Gh}{w:World}{n0:Nat->Prop}{N:Nat}{a:Act}(hR:Rel n0 N σ g a w){B:Sr->List Nat}(hB:Fam w σ g B){K:List Sr->Prop}:∀{xs:List V}{ds:List (Bool×D)}{u:List Sr}{ps:List (Nat×Nat×Nat)}{vs:List Value},gvA σ K u ps xs ds->VRl σ g w xs vs →
  ∃s,K (s.reverse++u)/\(∃tp,zaw w (zcl σ g w) ds vs (bks B s) tp)/\(∀x∈s,σ.On x.1)/\(u.Pairwise okP->(s.reverse++u).Pairwise okP)
 | [],[],u,ps,vs,h,hv=>⟨[],h,⟨[],hv,rfl,rfl⟩,by simp,λh=>h⟩
 | [],_::_,_,_,_,h,_=>h.elim
 | x::xs,[],_,_,_,h,_=>by cases x<;>exact h.elim
 | x::xs,(false,d)::ds,u,ps,vs,h,hv=>by
  obtain⟨v,vs',rfl,h1,h2⟩:=hv;unfold gvA at h;obtain⟨hr,h⟩:=h;obtain⟨s,k1,⟨tp,k2⟩,k3,k4⟩:=zf9 hR hB h h2;exact⟨s,k1,⟨tp,v,vs',rfl,rdV_fr hr h1,k2⟩,k3,k4⟩
 | .one c::xs,(true,.one t)::ds,u,ps,vs,h,hv=>by
  obtain⟨v,vs',rfl,h1,h2⟩:=hv;unfold gvA at h;obtain⟨s,ps',tp,k1,k2,k3,k4⟩:=zcz hR hB h (vs:=[v]) ⟨v,[],rfl,h1,rfl⟩;obtain⟨s',j1,⟨tp',j2⟩,j3,j4⟩:=zf9 hR hB k1 h2;obtain⟨v0,vs0,f1,f2,t2,e0,e1,rfl,q1,q2⟩:=k2;cases e0;obtain⟨_,rfl,rfl⟩:=q2;rw[Kh]at e1;refine⟨s++s',by simpa using j1,⟨zix t f1++tp',v,vs',bks B s,bks B s',_,tp',rfl,by unfold bks;rw[Ye],rfl,⟨by rw[e1];exact q1,by rw[e1]⟩,j2⟩,λx hx=>?_,λhu=>by simpa using j4 (k4 hu)⟩;rcases Qt.1 hx with hx|hx
  ·exact k3 x hx
  ·exact j3 x hx
 | .agg cs::xs,(true,.agg ts)::ds,u,ps,vs,h,hv=>by
  obtain⟨v,vs',rfl,⟨y,rfl,h1⟩,h2⟩:=hv;unfold gvA at h;obtain⟨s,ps',tp,k1,k2,k3,k4⟩:=zcz hR hB h h1;obtain⟨s',j1,⟨tp',j2⟩,j3,j4⟩:=zf9 hR hB k1 h2;refine⟨s++s',by simpa using j1,⟨tp++tp',_,vs',bks B s,bks B s',tp,tp',rfl,by unfold bks;rw[Ye],rfl,⟨y,rfl,k2⟩,j2⟩,λx hx=>?_,λhu=>by simpa using j4 (k4 hu)⟩;rcases Qt.1 hx with hx|hx
  ·exact k3 x hx
  ·exact j3 x hx
 | .one _::_,(true,.agg _)::_,_,_,_,h,_=>h.elim
 | .agg _::_,(true,.one _)::_,_,_,_,h,_=>h.elim
 | .tup _::_,(true,d)::_,_,_,_,h,_=>by cases d<;>exact h.elim
attribute [go_sem] zce mC1 mC mE mF mD ztj qkg
end
section
open Go.RowKit
variable {P:Program}
def C.fz (e:Nat)(x:Ev):C->C
 | .ow e' g=>if e'=e then (if g=x.gen then .rn (.sl x.sz x.rows)else .any)else .ow e' g
 | .eo e' g sz i o=>if e'=e then .any else .eo e' g sz i o
 | .vw e' g sz o=>if e'=e then .any else .vw e' g sz o
 | c=>c
def fzS (f:Nat->V)(e:Nat)(x:Ev):Nat->V:=λi=>(f i).map (C.fz e x)
def fzB (f:Nat->Option (List C))(e:Nat)(x:Ev):Nat->Option (List C):=λb=>(f b).map λcs=>cs.map (C.fz e x)
def fzE (f:Nat->Option Ev)(e:Nat):Nat->Option Ev:=λk=>if k=e then none else f k
theorem fzS_at (f:Nat->V)(e:Nat)(x:Ev)(i:Nat):fzS f e x i=(f i).map (C.fz e x):=rfl
theorem zwu (f:Nat->Option (List C))(e:Nat)(x:Ev)(b:Nat):fzB f e x b=(f b).map λcs=>cs.map (C.fz e x):=rfl
theorem fzE_at (f:Nat->Option Ev)(e k:Nat):fzE f e k=if k=e then none else f k:=rfl
def St.fz (σ:St)(e:Nat)(x:Ev):St:=⟨fzS σ.sl e x,fzB σ.bx e x,fzE σ.ev e⟩
theorem qrm {σ:St}{e:Nat}{x:Ev}(hx:σ.ev e=some x)(hd:x.deep=true)(ho:x.on=true):Wk σ (σ.fz e x):=by
 intro n0 N g a w h
 have hev:∀e',e'≠e->(σ.fz e x).ev e'=σ.ev e':=λe' he=>by show(if e'=e then none else σ.ev e')=_;rw[if_neg he]
 have hee:(σ.fz e x).ev e=none:=by show(if e=e then none else σ.ev e)=_;rw[if_pos rfl]
 have hsome:∀e' z,(σ.fz e x).ev e'=some z->e'≠e/\σ.ev e'=some z:=λe' z hz=>by
  by_cases he:e'=e
  ·subst he;rw[hee]at hz;cases hz
  ·exact⟨he,by rw[<-hev e' he];exact hz⟩
 have hon:∀e',(σ.fz e x).On e'->e'≠e/\σ.On e':=λe' ⟨z,hz,h1⟩=>⟨(hsome e' z hz).1,z,(hsome e' z hz).2,h1⟩
 have hbx:∀b,(σ.fz e x).bx b≠none↔σ.bx b≠none:=λb=>by unfold St.fz;simp[zwu]
 have hOn:σ.On e:=⟨x,hx,ho⟩
 have hf:∀b,Fix σ g w b->Fix (σ.fz e x) g w b:=λb hf=>⟨λk hk=>hf.1 k ((hbx k).1 hk),λe' z hz h1=>hf.2.1 e' z (hsome e' z hz).2 h1,hf.2.2⟩
 have hfr:∀b,zcl σ g w b->zcl (σ.fz e x) g w b:=λb hb=>⟨hf b hb.1,λe' h'=>hb.2 e' (hon e' h').2⟩
 have hgone:∀b∈g.φ e,b<w.heap.size->zcl (σ.fz e x) g w b:=λb hb hl=>by
  have hne:∀e',(σ.fz e x).On e'->b∉g.φ e':=λe' he' hm=>h.apart e e' hOn (hon e' he').2 (Ne.symm (hon e' he').1) b hb hm;exact⟨⟨λj hj hjb=>h.ebx e j hOn ((hbx j).1 hj) (by rw[hjb];exact hb),λe' z hz h1 hh=>hne e' ⟨z,hz,h1⟩ (List.mem_of_mem_head? hh),hl,(h.ebase e hOn b hb).1⟩,hne⟩
 have hhas:∀e' n,e'≠e->σ.has e' n->(σ.fz e x).has e' n:=λe' n he ⟨z,hz,h1⟩=>⟨z,by rw[hev e' he];exact hz,h1⟩
 have cr:∀c v,CR σ g w c v->CR (σ.fz e x) g w (c.fz e x) v:=λc v hc=>by
  cases c with
  | t y=>exact zai.keep (λ_ _=>rfl) hf y v hc
  | nl s=>exact hc
  | ow e' n =>
   show CR _ _ _ (if e'=e then (if n=x.gen then .rn (.sl x.sz x.rows)else .any)else .ow e' n) v
   by_cases he:e'=e
   ·subst he;rw[if_pos rfl];by_cases hn:n=x.gen
    ·rw[if_pos hn];subst hn;obtain⟨ao,cap,e1,e2,e3,e4⟩:=h.evs _ x hx ho;rw[<-hc.1]at e1;show zai _ _ _ _
     unfold zai;refine⟨ao,cap,e1,e2,e3,?_⟩;rcases e4 with⟨_,_,e4,_⟩|⟨b,cells,ty,fps,k1,k2,k3,k4,k5⟩
     ·exact Or.inl e4
     ·rw[if_pos hd]at k5;have hl:∀b'∈fps,b'<w.heap.size:=zak.lt cells 0 x.sz x.rows fps k5;exact Or.inr ⟨b,0,k1,hgone b (by rw[k2];simp) (Array.getElem?_eq_some_iff.1 k3).1,zak.rep b cells ty k3 0 x.sz x.rows fps k5 λb' hb'=>hgone b' (by rw[k2];simp[hb']) (hl b' hb')⟩
    ·rw[if_neg hn];trivial
   ·rw[if_neg he];exact⟨hc.1,hhas e' n he hc.2⟩
  | bx b o=>exact⟨hc.1,(hbx b).2 hc.2⟩
  | el cs o=>obtain⟨b,q,h1,h2,h3⟩:=hc;exact⟨b,q,h1,hf b h2,za5.keep (λ_ _=>rfl) hf b rfl q cs h3⟩
  | eo e' s sz i o =>
   show CR _ _ _ (if e'=e then .any else .eo e' s sz i o) v
   by_cases he:e'=e
   ·rw[if_pos he];trivial
   ·rw[if_neg he];obtain⟨b,n,c,h1,h2,h3,h4⟩:=hc;exact⟨b,n,c,h1,h2,h3,hhas e' s he h4⟩
  | vw e' s sz o =>
   show CR _ _ _ (if e'=e then .any else .vw e' s sz o) v
   by_cases he:e'=e
   ·rw[if_pos he];trivial
   ·rw[if_neg he];obtain⟨b,n,c,h1,h2,h3,h4⟩:=hc;exact⟨b,n,c,h1,h2,h3,hhas e' s he h4⟩
  | fn f caps=>exact⟨hc.1,λb hb=>(hbx b).2 (hc.2 b hb)⟩
  | cv u=>exact hc
  | any=>trivial
  | rn y=>exact zai.keep (λ_ _=>rfl) hfr y v hc
  | er cs o=>obtain⟨b,q,h1,h2,h3⟩:=hc;exact⟨b,q,h1,hfr b h2,za5.keep (λ_ _=>rfl) hfr b rfl q cs h3⟩
 refine⟨g,⟨h.defers,h.size,h.anew,λi=>VR.map cr (h.slots i),λb cs hb=>?_,λb hb=>h.base b ((hbx b).1 hb),λb b' h1 h2=>h.inj b b' ((hbx b).1 h1) ((hbx b').1 h2),λe' z hz h1=>?_,λe' z hz h1=>?_,h.slc,λe' h1=>h.ebase e' (hon e' h1).2,λe' h1=>h.etop e' (hon e' h1).2,λe' h1=>h.nodup e' (hon e' h1).2,λe1 e2 h1 h2=>h.apart e1 e2 (hon e1 h1).2 (hon e2 h2).2,λe' k h1 h2=>h.ebx e' k (hon e' h1).2 ((hbx k).1 h2)⟩,rfl,rfl⟩
 ·cases hc:σ.bx b with
  | none=>unfold St.fz at hb;simp only[zwu,hc,J5]at hb;cases hb
  | some cs0 =>
   unfold St.fz at hb;simp only[zwu,hc,Q9,Qf]at hb;subst hb;obtain⟨vs,ty,k1,k2⟩:=h.boxes b cs0 hc;exact⟨vs,ty,k1,CRs.map cr k2⟩
 ·obtain⟨ao,cap,e1,e2,e3,e4⟩:=h.evs e' z (hsome e' z hz).2 h1;refine⟨ao,cap,e1,e2,e3,?_⟩;rcases e4 with e4|⟨b,cells,ty,fps,k1,k2,k3,k4,k5⟩
  ·exact Or.inl e4
  ·refine Or.inr ⟨b,cells,ty,fps,k1,k2,k3,k4,?_⟩;split at k5
   ·rw[if_pos ‹_›];exact k5
   ·rw[if_neg ‹_›];exact⟨k5.1,zal.keep (λ_ _=>rfl) hf b rfl 0 z.sz z.rows k5.2⟩
 ·exact⟨zai.keep (λ_ _=>rfl) hf _ _ (h.offs e' z (hsome e' z hz).2 h1).1,(h.offs e' z (hsome e' z hz).2 h1).2⟩
theorem zch.pre {o:Oper}{σ σ':St}{K:St->Prop}(h:Wk σ σ')(k:zch P o σ' K):zch P o σ K:=λn0 N g a w hR hn hd=>by
 obtain⟨g1,h1,h2,h3⟩:=h n0 N g a w hR
 have:=k n0 N g1 a w h1 hn hd
 unfold Oper.wp at this⊢
 revert this
 cases (execOp a.eval o).run P w<;>intro this<;>try exact this
 all_goals (revert this;rw[h2,h3];exact id)
theorem zdm.pre {id:Nat}{ops:Array Oper}{σ σ':St}{K:St->Prop}(h:Wk σ σ')(k:zdm P id ops σ' K):zdm P id ops σ K:=λn0 N g a w hR hn hd=>by
 obtain⟨g1,h1,h2,h3⟩:=h n0 N g a w hR
 have:=k n0 N g1 a w h1 hn hd
 rw[h2,h3]at this
 exact this
section
variable {ks:List Fr}{Q:Exit->St->Prop}{σ:St}{ops:Array Oper}{os:List Oper}{o:Oper}
theorem zgv {σ':St}(h:Wk σ σ')(hg:o.guard=none)(hs:zzf o.op=true)(k:exo P ops (o::os) ks Q σ'):exo P ops (o::os) ks Q σ:=by
 unfold exo zbj exG at k⊢
 rw[hg]at k⊢
 simp only at k⊢
 unfold zcd zp3 at k⊢
 rw[if_pos (by rw[hs];rfl)]at k⊢
 exact k.pre h
theorem frzO (e:Nat)(hg:o.guard=none)(hs:zzf o.op=true)(k:zaq (σ.ev e) λx=>x.deep=true/\x.on=true/\exo P ops (o::os) ks Q (σ.fz e x)):exo P ops (o::os) ks Q σ:=by
 obtain⟨x,hx,h1,h2,h3⟩:=zao k
 exact zgv (qrm hx h1 h2) hg hs h3
theorem frzD (e:Nat){i:Nat}(k:zaq (σ.ev e) λx=>x.deep=true/\x.on=true/\ex P (.region i ops true) ks Q (σ.fz e x)):ex P (.region i ops true) ks Q σ:=by
 obtain⟨x,hx,h1,h2,h3⟩:=zao k
 exact zdm.pre (qrm hx h1 h2) h3
end
attribute [go_sem] C.fz St.fz V.map fzS_at zwu fzE_at
end
theorem ag_3:zjv Tryz.prog 3=some false:=by kernel_rfl
theorem sz_3:zbe Tryz.prog 3=some 1:=by kernel_rfl
theorem in_3:qng Tryz.prog 3=some .i64:=by kernel_rfl
theorem ze_3:zc2 Tryz.prog 3=some [.t (.int .i64 0)]:=by kernel_rfl
theorem ag_4:zjv Tryz.prog 4=some false:=by kernel_rfl
theorem sz_4:zbe Tryz.prog 4=some 1:=by kernel_rfl
theorem bo_4:qdl Tryz.prog 4=true:=by kernel_rfl
theorem ag_9:zjv Tryz.prog 9=some false:=by kernel_rfl
theorem sz_9:zbe Tryz.prog 9=some 1:=by kernel_rfl
theorem st_9:qip Tryz.prog 9=true:=by kernel_rfl
theorem ze_9:zc2 Tryz.prog 9=some [.t (.str [])]:=by kernel_rfl
theorem el_22:elT Tryz.prog 22=some 41:=by kernel_rfl
theorem nl_24:nlT Tryz.prog 24=1:=by kernel_rfl
theorem ag_24:zjv Tryz.prog 24=some false:=by kernel_rfl
theorem sz_24:zbe Tryz.prog 24=some 1:=by kernel_rfl
theorem el_24:elT Tryz.prog 24=some 47:=by kernel_rfl
theorem zxk:zcw Tryz.prog 47=some 24:=by kernel_rfl
theorem ze_24:zc2 Tryz.prog 24=some [.nl 1]:=by kernel_rfl
theorem nl_31:nlT Tryz.prog 31=2:=by kernel_rfl
theorem ag_31:zjv Tryz.prog 31=some false:=by kernel_rfl
theorem sz_31:zbe Tryz.prog 31=some 1:=by kernel_rfl
theorem el_31:elT Tryz.prog 31=some 74:=by kernel_rfl
theorem zx7:zcw Tryz.prog 74=some 40:=by kernel_rfl
theorem ze_31:zc2 Tryz.prog 31=some [.nl 2]:=by kernel_rfl
theorem ag_39:zjv Tryz.prog 39=some false:=by kernel_rfl
theorem sz_39:zbe Tryz.prog 39=some 1:=by kernel_rfl
theorem el_39:elT Tryz.prog 39=some 141:=by kernel_rfl
theorem ag_41:zjv Tryz.prog 41=some true:=by kernel_rfl
theorem sz_41:zbe Tryz.prog 41=some 1:=by kernel_rfl
theorem qsz:zjc Tryz.prog 41 0=some (0,39):=by kernel_rfl
theorem nl_42:nlT Tryz.prog 42=1:=by kernel_rfl
theorem el_42:elT Tryz.prog 42=some 52:=by kernel_rfl
theorem zw5:zcw Tryz.prog 52=some 24:=by kernel_rfl
theorem nl_45:nlT Tryz.prog 45=3:=by kernel_rfl
theorem ag_45:zjv Tryz.prog 45=some false:=by kernel_rfl
theorem sz_45:zbe Tryz.prog 45=some 1:=by kernel_rfl
theorem el_45:elT Tryz.prog 45=some 95:=by kernel_rfl
theorem zwd:zcw Tryz.prog 95=some 48:=by kernel_rfl
theorem ag_47:zjv Tryz.prog 47=some true:=by kernel_rfl
theorem sz_47:zbe Tryz.prog 47=some 1:=by kernel_rfl
theorem ze_47:zc2 Tryz.prog 47=some [.nl 3]:=by kernel_rfl
theorem pl_47:qgh Tryz.prog 47=some [(0,1)]:=by kernel_rfl
theorem qqv:zjc Tryz.prog 47 0=some (0,45):=by kernel_rfl
theorem nl_52:nlT Tryz.prog 52=1:=by kernel_rfl
theorem ag_52:zjv Tryz.prog 52=some false:=by kernel_rfl
theorem sz_52:zbe Tryz.prog 52=some 1:=by kernel_rfl
theorem el_52:elT Tryz.prog 52=some 3:=by kernel_rfl
theorem qfw:zcw Tryz.prog 3=some 8:=by kernel_rfl
theorem ze_52:zc2 Tryz.prog 52=some [.nl 1]:=by kernel_rfl
theorem nl_63:nlT Tryz.prog 63=4:=by kernel_rfl
theorem ag_63:zjv Tryz.prog 63=some false:=by kernel_rfl
theorem sz_63:zbe Tryz.prog 63=some 1:=by kernel_rfl
theorem el_63:elT Tryz.prog 63=some 69:=by kernel_rfl
theorem zym:zcw Tryz.prog 69=some 56:=by kernel_rfl
theorem ag_69:zjv Tryz.prog 69=some true:=by kernel_rfl
theorem sz_69:zbe Tryz.prog 69=some 4:=by kernel_rfl
theorem ze_69:zc2 Tryz.prog 69=some [.t (.str []),.t (.int .i64 0),.t (.bool false),.nl 1]:=by kernel_rfl
theorem pl_69:qgh Tryz.prog 69=some [(0,1),(1,1),(2,1),(3,1)]:=by kernel_rfl
theorem qqb:zjc Tryz.prog 69 0=some (0,9):=by kernel_rfl
theorem qsw:zjc Tryz.prog 69 1=some (1,3):=by kernel_rfl
theorem qrk:zjc Tryz.prog 69 2=some (2,4):=by kernel_rfl
theorem nl_70:nlT Tryz.prog 70=1:=by kernel_rfl
theorem el_70:elT Tryz.prog 70=some 31:=by kernel_rfl
theorem zwg:zcw Tryz.prog 31=some 24:=by kernel_rfl
theorem ag_74:zjv Tryz.prog 74=some true:=by kernel_rfl
theorem sz_74:zbe Tryz.prog 74=some 2:=by kernel_rfl
theorem ze_74:zc2 Tryz.prog 74=some [.t (.str []),.nl 2]:=by kernel_rfl
theorem pl_74:qgh Tryz.prog 74=some [(0,1),(1,1)]:=by kernel_rfl
theorem qs3:zjc Tryz.prog 74 0=some (0,9):=by kernel_rfl
theorem qqi:zjc Tryz.prog 74 1=some (1,31):=by kernel_rfl
theorem ag_95:zjv Tryz.prog 95=some true:=by kernel_rfl
theorem sz_95:zbe Tryz.prog 95=some 3:=by kernel_rfl
theorem ze_95:zc2 Tryz.prog 95=some [.t (.bool false),.t (.str []),.nl 2]:=by kernel_rfl
theorem pl_95:qgh Tryz.prog 95=some [(0,1),(1,2)]:=by kernel_rfl
theorem qru:zjc Tryz.prog 95 0=some (0,4):=by kernel_rfl
theorem qp6:zjc Tryz.prog 95 1=some (1,74):=by kernel_rfl
theorem ze_123:zc2 Tryz.prog 123=some [.nl 4,.t (.bool false)]:=by kernel_rfl
theorem pl_123:qgh Tryz.prog 123=some [(0,1),(1,1)]:=by kernel_rfl
theorem qmy:zjc Tryz.prog 123 0=some (0,63):=by kernel_rfl
theorem qlv:zjc Tryz.prog 123 1=some (1,4):=by kernel_rfl
theorem ag_128:zjv Tryz.prog 128=some false:=by kernel_rfl
theorem ag_137:zjv Tryz.prog 137=some false:=by kernel_rfl
theorem sz_137:zbe Tryz.prog 137=some 1:=by kernel_rfl
theorem el_137:elT Tryz.prog 137=some 139:=by kernel_rfl
theorem ag_139:zjv Tryz.prog 139=some true:=by kernel_rfl
theorem sz_139:zbe Tryz.prog 139=some 2:=by kernel_rfl
theorem qlt:zjc Tryz.prog 139 0=some (0,9):=by kernel_rfl
theorem qk2:zjc Tryz.prog 139 1=some (1,137):=by kernel_rfl
theorem ag_141:zjv Tryz.prog 141=some true:=by kernel_rfl
theorem sz_141:zbe Tryz.prog 141=some 3:=by kernel_rfl
theorem qjm:zjc Tryz.prog 141 0=some (0,4):=by kernel_rfl
theorem qml:zjc Tryz.prog 141 1=some (1,139):=by kernel_rfl
theorem nl_142:nlT Tryz.prog 142=1:=by kernel_rfl
theorem ag_142:zjv Tryz.prog 142=some false:=by kernel_rfl
theorem sz_142:zbe Tryz.prog 142=some 1:=by kernel_rfl
theorem qn7:elT Tryz.prog 142=some 9:=by kernel_rfl
theorem zya:zcw Tryz.prog 9=some 16:=by kernel_rfl
theorem ze_142:zc2 Tryz.prog 142=some [.nl 1]:=by kernel_rfl
theorem ag_144:zjv Tryz.prog 144=some false:=by kernel_rfl
theorem sz_144:zbe Tryz.prog 144=some 1:=by kernel_rfl
theorem qot:elT Tryz.prog 144=some 148:=by kernel_rfl
theorem zm3:zcw Tryz.prog 148=some 56:=by kernel_rfl
theorem ag_146:zjv Tryz.prog 146=some true:=by kernel_rfl
theorem sz_146:zbe Tryz.prog 146=some 1:=by kernel_rfl
theorem ze_146:zc2 Tryz.prog 146=some [.nl 3]:=by kernel_rfl
theorem pl_146:qgh Tryz.prog 146=some [(0,1)]:=by kernel_rfl
theorem qms:zjc Tryz.prog 146 0=some (0,144):=by kernel_rfl
theorem qo4:zbe Tryz.prog 148=some 3:=by kernel_rfl
theorem qov:zc2 Tryz.prog 148=some [.t (.str []),.t (.str []),.nl 2]:=by kernel_rfl
theorem pl_148:qgh Tryz.prog 148=some [(0,1),(1,2)]:=by kernel_rfl
theorem qjp:zjc Tryz.prog 148 0=some (0,9):=by kernel_rfl
theorem qky:zjc Tryz.prog 148 1=some (1,74):=by kernel_rfl
theorem in_185:qng Tryz.prog 185=some .u64:=by kernel_rfl
theorem ap_24:apT Tryz.prog 24 1:=zho el_24 sz_47 zxk (by decide) ze_47 rfl
theorem ap_31:apT Tryz.prog 31 2:=zho el_31 sz_74 zx7 (by decide) ze_74 rfl
theorem ap_42:apT Tryz.prog 42 1:=zho el_42 sz_52 zw5 (by decide) ze_52 rfl
theorem ap_45:apT Tryz.prog 45 3:=zho el_45 sz_95 zwd (by decide) ze_95 rfl
theorem ap_52:apT Tryz.prog 52 1:=zho el_52 sz_3 qfw (by decide) ze_3 rfl
theorem ap_63:apT Tryz.prog 63 4:=zho el_63 sz_69 zym (by decide) ze_69 rfl
theorem ap_70:apT Tryz.prog 70 1:=zho el_70 sz_31 zwg (by decide) ze_31 rfl
theorem ap_142:apT Tryz.prog 142 1:=zho qn7 sz_9 zya (by decide) ze_9 rfl
theorem ap_144:apT Tryz.prog 144 3:=zho qot qo4 zm3 (by decide) qov rfl
attribute [go_sem] ag_3 sz_3 in_3 ze_3 ag_4 sz_4 bo_4 ag_9 sz_9 st_9 ze_9 el_22 nl_24 ag_24 sz_24 el_24 zxk ze_24 nl_31 ag_31 sz_31 el_31 zx7 ze_31 ag_39 sz_39 el_39 ag_41 sz_41 qsz nl_42 el_42 zw5 nl_45 ag_45 sz_45 el_45 zwd ag_47 sz_47 ze_47 pl_47 qqv nl_52 ag_52 sz_52 el_52 qfw ze_52 nl_63 ag_63 sz_63 el_63 zym ag_69 sz_69 ze_69 pl_69 qqb qsw qrk nl_70 el_70 zwg ag_74 sz_74 ze_74 pl_74 qs3 qqi ag_95 sz_95 ze_95 pl_95 qru qp6 ze_123 pl_123 qmy qlv ag_128 ag_137 sz_137 el_137 ag_139 sz_139 qlt qk2 ag_141 sz_141 qjm qml nl_142 ag_142 sz_142 qn7 zya ze_142 ag_144 sz_144 qot zm3 ag_146 sz_146 ze_146 pl_146 qms qo4 qov pl_148 qjp qky in_185 ap_24 ap_31 ap_42 ap_45 ap_52 ap_63 ap_70 ap_142 ap_144
attribute [go_sem] Nat.reduceEqDiff reduceIte reduceCtorEq Nat.reduceAdd Nat.reduceMul Int.reduceLE Int.reduceNeg Int.reduceToNat Nat.reduceLeDiff Nat.reduceSub Nat.reduceLT Nat.le_refl Int.cast_ofNat_Int Int.reduceLT Int.reduceGT Int.reduceGE Int.reduceEq Int.reduceBEq Nat.reduceBEq Int.reduceBNe Int.reduceAdd Int.reduceSub gt_iff_lt ge_iff_le
section
open Go.RowKit
abbrev Str:=List UInt8
inductive Tm where
 | mk (name:Str) (args:List Tm)
def Tm.name:Tm->Str|.mk n _=>n
def Tm.args:Tm->List Tm|.mk _ xs=>xs
theorem Tm.eta:∀a:Tm,Tm.mk a.name a.args=a|.mk _ _=>rfl
mutual
theorem zbb {P:Tm->Prop}(h:∀n xs,(∀x∈xs,P x)->P (.mk n xs)):∀a,P a
 | .mk n xs=>h n xs (qgu h xs)
theorem qgu {P:Tm->Prop}(h:∀n xs,(∀x∈xs,P x)->P (.mk n xs)):∀xs:List Tm,∀x∈xs,P x
 | [],x,hx=>absurd hx (by simp)
 | a::xs,x,hx=>(Qs.1 hx).elim (λe=>e▸zbb h a) (qgu h xs x)
end
mutual
def Tm.fold {α:Type}(f:Str->List Tm->List α->α):Tm->α
 | .mk n xs=>f n xs (Tm.folds f xs)
def Tm.folds {α:Type}(f:Str->List Tm->List α->α):List Tm->List α
 | []=>[]
 | a::xs=>Tm.fold f a::Tm.folds f xs
end
theorem Tm.folds_map {α:Type}(f:Str->List Tm->List α->α)(xs:List Tm):Tm.folds f xs=xs.map (Tm.fold f):=by
 induction xs with
 | nil=>rfl
 | cons a xs ih=>rw[Tm.folds,ih];rfl
theorem Tm.fold_eq {α:Type}(f:Str->List Tm->List α->α)(a:Tm):Tm.fold f a=f a.name a.args (a.args.map (Tm.fold f)):=by
 cases a;rw[Tm.fold,Tm.folds_map];rfl
inductive Fm where
 | mk (op:Int) (atom:Tm) (var:Str) (parts:List Fm)
def Fm.op:Fm->Int|.mk o _ _ _=>o
def tmC:Tm->List T:=Tm.fold λn _ rs=>[.str n,.sl 2 rs]
theorem zaa (a:Tm):tmC a=[.str a.name,.sl 2 (a.args.map tmC)]:=Tm.fold_eq _ a
theorem zr7 (n:Str)(xs:List Tm):tmC (.mk n xs)=[.str n,.sl 2 (xs.map tmC)]:=zaa _
abbrev tmD (a:Tm):D:=.agg (tmC a)
abbrev tmS (xs:List Tm):T:=.sl 2 (xs.map tmC)
abbrev iD (n:Int):D:=.one (.int .i64 n)
abbrev bD (b:Bool):D:=.one (.bool b)
abbrev sD (s:Str):D:=.one (.str s)
theorem zac {α:Type}(f:α->List T)(xs:List α)(k:Nat)(h:k<xs.length):(xs.map f).getD k []=f (xs[k]'h):=by simp[List.getD,h]
def Tm.wt:Tm->Nat:=Tm.fold λn xs rs=>n.length+xs.length+rs.sum
theorem Tm.wt_eq (a:Tm):a.wt=a.name.length+a.args.length+(a.args.map Tm.wt).sum:=Tm.fold_eq _ a
def zo7 (xs:List Tm):Nat:=xs.length+(xs.map Tm.wt).sum
def szR (w:Nat)(left:Int):Int:=if(w:Int)<=left then left-w else -1
def zj3 {α:Type}(f:α->Nat)(xs:List α)(k:Nat):Nat:=((xs.take k).map f).sum
theorem zeh {α:Type}(f:α->Nat)(xs:List α):zj3 f xs 0=0:=by simp[zj3]
theorem zbw {α:Type}(f:α->Nat)(xs:List α)(k:Nat)(h:k<xs.length):zj3 f xs (k+1)=zj3 f xs k+f xs[k]:=by
 unfold zj3
 rw[Qg h,Qq,List.sum_append];simp
theorem zcv {α:Type}(f:α->Nat)(xs:List α)(k:Nat):zj3 f xs k<=(xs.map f).sum:=by
 unfold zj3
 conv=>rhs;rw[<-Ke k xs,Qq,List.sum_append]
 omega
theorem zpv {α:Type}(f:α->Nat)(xs:List α)(k:Nat)(h:xs.length<=k):zj3 f xs k=(xs.map f).sum:=by
 unfold zj3
 rw[Ql h]
theorem zci {α:Type}(f:α->Nat)(xs:List α):∀x∈xs,f x<=(xs.map f).sum:=by
 induction xs with
 | nil=>simp
 | cons a xs ih =>
  intro x hx;rcases Qs.1 hx with rfl|hx
  ·simp
  ·have:=ih x hx;simp;omega
noncomputable def same {α:Type}(a b:α):Bool:=@decide (a=b) (Classical.propDecidable _)
theorem za9 {α:Type}{a b:α}:same a b=true↔a=b:=by simp[same]
theorem zbv {α:Type}{a b:α}:same a b=false↔a≠b:=by simp[same]
theorem zbh {α:Type}(a:α):same a a=true:=by simp[same]
theorem zcr {α:Type}(a b:α)(xs ys:List α):same (a::xs) (b::ys)=(same a b&&same xs ys):=by
 rw[J6,Qd,za9,za9,za9,Jv]
theorem zhd {α:Type}:same ([]:List α) []=true:=zbh _
theorem zaf {k:Nat}(h:k<9223372036854775807):IntKind.i64.wrap ((k:Int)+1)=((k+1:Nat):Int):=qik h
theorem zik {w:Nat}{l:Int}(h0:0<=l)(h:szR w l<0):l<w:=by unfold szR at h;split at h<;>omega
theorem zgw {w:Nat}{l:Int}(h:¬szR w l<0):(w:Int)<=l/\szR w l=l-w:=by
 by_cases hh:(w:Int)<=l
 ·exact⟨hh,if_pos hh⟩
 ·exact absurd (by rw[szR,if_neg hh];omega) h
theorem zec {w:Nat}{l:Int}(h:l<w):szR w l = -1:=if_neg Zi
theorem zm7 {w:Nat}{l:Int}(h:(w:Int)<=l):szR w l=l-w:=if_pos h
theorem znc {k:IntKind}{a b:Int}(h:a=b):T.int k a=T.int k b:=h▸rfl
theorem zhr (A:List (List T))(n k:Nat)(z ts:List T)(hA:A.length=k)(hk:k<n)(hz:ts.length=z.length):zda (A++List.replicate (n-k) z) k 0 ts=A++[ts]++List.replicate (n-(k+1)) z:=by
 subst hA
 have e:List.replicate (n-A.length) z=z::List.replicate (n-(A.length+1)) z:=by
  rw[show n-A.length=(n-(A.length+1))+1 by omega];rfl
 unfold zda
 rw[e]
 simp[qft _ _ hz]
end
section
open Go.RowKit
theorem zdj.cons {P:Program}{t:TypeId}{ts:List TypeId}{xs:List PD}(h:zdj P (t::ts) xs):∃x xs',xs=x::xs'/\zbg P t x/\zdj P ts xs':=by
 cases xs with
 | nil=>rw[zdj]at h;cases h
 | cons x xs =>
  rw[zdj]at h;obtain⟨t',ts',e,h1,h2⟩:=h;cases e;exact⟨x,xs,rfl,h1,h2⟩
theorem zdj.nil {P:Program}{xs:List PD}(h:zdj P [] xs):xs=[]:=by
 cases xs with
 | nil=>rfl
 | cons x xs =>
  rw[zdj]at h;obtain⟨t',ts',e,_⟩:=h;cases e
theorem qh8 {Q:PD->Prop}(h:∀d,(∀d',SizeOf.sizeOf d'<SizeOf.sizeOf d->Q d')->Q d)(d:PD):Q d:=by
 have:∀n (d:PD),SizeOf.sizeOf d<n->Q d:=by
  intro n;induction n with
  | zero=>intro d hd;omega
  | succ n ih=>intro d hd;exact h d λd' hd'=>ih d' Zi
 exact this _ d (Nat.lt_succ_self _)
theorem zgd {α:Type}(c:α->List T):∀(xs:List PD),(∀x∈xs,∃a,x.cells=c a)->∃l:List α,PD.rows xs=l.map c
 | [],_=>⟨[],rfl⟩
 | x::xs,h=>by
  obtain⟨a,ha⟩:=h x (by simp);obtain⟨l,hl⟩:=zgd c xs λy hy=>h y (by simp[hy]);exact⟨a::l,by rw[PD.rows,ha,hl];rfl⟩
theorem qpm:∀d,zbg Tryz.prog 139 d->∃a:Tm,d.cells=tmC a :=
 qh8 λd ih h=>by
  obtain⟨fs,rfl,hf⟩:=h.st Tryz.underlying139;have hf:zdj Tryz.prog [9,137] fs:=hf;obtain⟨x1,r1,rfl,h1,hf⟩:=hf.cons;obtain⟨x2,r2,rfl,h2,hf⟩:=hf.cons;obtain rfl:=hf.nil;obtain⟨n,rfl⟩:=h1.str Tryz.underlying9;obtain⟨xs,rfl,hx⟩:=h2.sl Tryz.underlying137;obtain⟨l,hl⟩:=zgd tmC xs λx hx'=>ih x (by have:=List.sizeOf_lt_of_mem hx';simp;omega) (hx x hx')
  exact⟨.mk n l,by
   rw[zaa,PD.cells,PD.flat,PD.flat,PD.flat,PD.cells,PD.cells,hl,show Tryz.prog.cellsOf 139=2 from by kernel_rfl];rfl⟩
end
section
open Go.RowKit
structure Li where
 pos:Bool
 atom:Tm
structure Cq where
 lits:List Li
def liC (a:Li):List T:=[.bool a.pos,.str a.atom.name,.sl 2 (a.atom.args.map tmC)]
theorem zaj (a:Li):liC a=[.bool a.pos,.str a.atom.name,.sl 2 (a.atom.args.map tmC)]:=rfl
def cqC (a:Cq):List T:=[.sl 3 (a.lits.map liC)]
theorem zap (a:Cq):cqC a=[.sl 3 (a.lits.map liC)]:=rfl
abbrev liD (a:Li):D:=.agg (liC a)
abbrev cqD (a:Cq):D:=.agg (cqC a)
abbrev liS (xs:List Li):T:=.sl 3 (xs.map liC)
abbrev cqS (xs:List Cq):T:=.sl 1 (xs.map cqC)
def Li.wt (a:Li):Nat:=a.atom.wt
theorem Li.wt_eq (a:Li):a.wt=a.atom.wt:=rfl
def zgb (xs:List Li):Nat:=xs.length+(xs.map Li.wt).sum
def Cq.wt (a:Cq):Nat:=zgb a.lits
theorem Cq.wt_eq (a:Cq):a.wt=zgb a.lits:=rfl
def zow (xs:List Cq):Nat:=xs.length+(xs.map Cq.wt).sum
end
section
open Go.RowKit
abbrev cqsD (l:List Cq):D:=.one (cqS l)
theorem qag {d:PD}(h:zbg Tryz.prog 141 d):∃s:Li,d.cells=liC s:=by
 obtain⟨fs,rfl,hf⟩:=h.st Tryz.underlying141
 have hf:zdj Tryz.prog [4,139] fs:=hf
 obtain⟨x1,r1,rfl,h1,hf⟩:=hf.cons
 obtain⟨x2,r2,rfl,h2,hf⟩:=hf.cons
 obtain rfl:=hf.nil
 obtain⟨b,rfl⟩:=h1.bool Tryz.underlying4
 obtain⟨t,ht⟩:=qpm _ h2
 exact⟨⟨b,t⟩,by
  rw[zaj,PD.cells,PD.flat,PD.flat,PD.flat,PD.cells,ht,zaa];rfl⟩
theorem qdr {d:PD}(h:zbg Tryz.prog 41 d):∃s:Cq,d.cells=cqC s:=by
 obtain⟨fs,rfl,hf⟩:=h.st Tryz.underlying41
 have hf:zdj Tryz.prog [39] fs:=hf
 obtain⟨x1,r1,rfl,h1,hf⟩:=hf.cons
 obtain rfl:=hf.nil
 obtain⟨xs,rfl,hx⟩:=h1.sl Tryz.underlying39
 obtain⟨l,hl⟩:=zgd liC xs λx hx'=>qag (hx x hx')
 exact⟨⟨l⟩,by
  rw[zap,PD.cells,PD.flat,PD.flat,PD.cells,hl,show Tryz.prog.cellsOf 141=3 from by kernel_rfl];rfl⟩
theorem qas {d:PD}(h:zbg Tryz.prog 22 d):∃l:List Cq,d.cells=[cqS l]:=by
 obtain⟨xs,rfl,hx⟩:=h.sl Tryz.underlying22
 obtain⟨l,hl⟩:=zgd cqC xs λx hx'=>qdr (hx x hx')
 exact⟨l,by rw[PD.cells,hl,show Tryz.prog.cellsOf 41=1 from by kernel_rfl]⟩
end
section
open Go.RowKit
variable {P:Program}
inductive AF
 | d (b:Bool) (x:D)
 | p (j:Nat)
 | fn (g:FuncId) (js:List Nat)
def AF.ds:List AF->List (Bool×D)
 | []=>[]
 | .d b x::l=>(b,x)::AF.ds l
 | .p _::l=>AF.ds l
 | .fn _ _::l=>AF.ds l
def zl7 (b:Nat):Value:=.pointer (some ⟨b,0,none⟩)
def AF.vals (bs:Nat->Nat):List AF->List Value->List Value
 | [],_=>[]
 | .d _ _::l,v::vs=>v::AF.vals bs l vs
 | .d _ _::_,[]=>[]
 | .p j::l,vs=>zl7 (bs j)::AF.vals bs l vs
 | .fn g js::l,vs=>.func (.func g) #[] ⟨js.map λj=>zl7 (bs j)⟩::AF.vals bs l vs
def AF.okJ (n:Nat):List AF->Bool
 | []=>true
 | .d _ _::l=>AF.okJ n l
 | .p j::l=>decide (j<n)&&AF.okJ n l
 | .fn _ js::l=>js.all (λj=>decide (j<n))&&AF.okJ n l
abbrev Bxs:=List (List (Bool×T))
def zfd (w:World)(bs:Nat->Nat):Nat->List (List Value)->Bxs->Prop
 | _,[],[]=>True
 | j,vs::bvs,b::bx=>vs.length=b.length/\(∃ty,w.heap[bs j]?=some (.cells ⟨vs⟩ ty (0,0)))/\zfd w bs (j+1) bvs bx
 | _,_,_=>False
theorem zfd.len {w:World}{bs:Nat->Nat}:∀{j:Nat}{bvs:List (List Value)}{bx:Bxs},zfd w bs j bvs bx->bvs.length=bx.length
 | _,[],[],_=>rfl
 | _,_::_,_::_,h=>by simp[zfd.len h.2.2]
 | _,[],_::_,h=>h.elim
 | _,_::_,[],h=>h.elim
theorem zfd.keep {w w':World}{bs bs':Nat->Nat}:∀{j:Nat}{bvs:List (List Value)}{bx:Bxs},(∀i,i<bx.length->w'.heap[bs' (j+i)]?=w.heap[bs (j+i)]?)->zfd w bs j bvs bx->zfd w' bs' j bvs bx
 | _,[],[],_,h=>h
 | j,_::_,_::_,hk,h=>⟨h.1,by have:=hk 0 (by simp);rw[Yx]at this;rw[this];exact h.2.1,zfd.keep (λi hi=>by have:=hk (i+1) (by simpa using hi);rw[show j+(i+1)=j+1+i by omega]at this;exact this) h.2.2⟩
 | _,[],_::_,_,h=>h.elim
 | _,_::_,[],_,h=>h.elim
theorem zfd.lt {w:World}{bs:Nat->Nat}:∀{j:Nat}{bvs:List (List Value)}{bx:Bxs},zfd w bs j bvs bx->∀i,i<bx.length->bs (j+i)<w.heap.size
 | _,[],[],_,i,hi=>by simp at hi
 | j,_::_,_::_,h,0,hi=>by obtain⟨ty,h⟩:=h.2.1;exact(Array.getElem?_eq_some_iff.1 h).1
 | j,_::_,_::_,h,i+1,hi=>by rw[show j+(i+1)=j+1+i by omega];exact zfd.lt h.2.2 i (by simpa using hi)
 | _,[],_::_,h,_,_=>h.elim
 | _,_::_,[],h,_,_=>h.elim
def PC (P:Program)(f:FuncId)(bx:Bxs)(l:List AF)(bx':Bxs)(res:List (Bool×D)):Prop:=za8 P f/\bx'.length=bx.length/\∀(w:World)(bs:Nat->Nat)(bvs:List (List Value))(dvs:List Value)(fp tp:List Nat)(A:Nat->Prop),
 (∀i j,i<bx.length->j<bx.length->bs i=bs j->i=j)->(∀j,j<bx.length->bs j∉fp)->zfd w bs 0 bvs bx →
 zaw w (λk=>(k<w.heap.size/\k∉fp/\∀j,j<bx.length->k≠bs j)/\A k) (AF.ds l++bxA bx.flatten) (dvs++bvs.flatten) fp tp->fp.Nodup->dvs.length=(AF.ds l).length →
 Calls P f ⟨AF.vals bs l dvs⟩ w λe w'=>∃us bvs' fp' tp',e=.returned (zcm us)/\zfd w' bs 0 bvs' bx'/\us.length=res.length ∧
  zaw w' (λk=>(k<w'.heap.size/\k∉fp'/\∀j,j<bx.length->k≠bs j)/\(A k\/w.heap.size<=k\/k∈fp)) (res++bxA bx'.flatten) (us++bvs'.flatten) fp' tp'/\fp'.Nodup/\(∀b∈fp',b∈fp\/w.heap.size<=b) ∧
  Bk (λk=>k<w.heap.size/\k∉fp/\∀j,j<bx.length->k≠bs j) w w'
def c1P (k:Nat):Bool×T->C
 | (true,t)=>owC k 0 t
 | (false,t)=>t.toN
def zyj:Nat->List (Bool×T)->List C
 | _,[]=>[]
 | k,p::ps=>c1P k p::zyj (k+1) ps
def zk0:Nat->Nat->Bxs->Nat->Option (List C)
 | _,_,[]=>λ_=>none
 | j,k,b::bs=>upd (zk0 (j+1) (k+b.length) bs) (1000000+j) (some (zyj k b))
def zc8:Nat->Nat->List AF->Nat->V
 | _,_,[]=>λ_=>.one .any
 | i,k,.d b x::l=>upd (zc8 (i+1) (k+1) l) i (gVN k (b,x))
 | i,k,.p j::l=>upd (zc8 (i+1) k l) i (.one (.bx (1000000+j) 0))
 | i,k,.fn g js::l=>upd (zc8 (i+1) k l) i (.one (.fn g (js.map (1000000+·))))
def zi2:Nat->Bxs->(Nat->V)->Nat->V
 | _,[],f=>f
 | j,_::bs,f=>upd (zi2 (j+1) bs f) (1000000+j) (.one (.bx (1000000+j) 0))
def zhz (l:List AF)(bx:Bxs):St:=⟨zi2 0 bx (zc8 0 0 l),zk0 0 (AF.ds l).length bx,zgu 0 (AF.ds l++bxA bx.flatten)⟩
theorem qq5 (k:Nat)(p:Bool×T):gVN k (p.1,.one p.2)=.one (c1P k p):=by obtain⟨b,t⟩:=p;cases b<;>rfl
theorem zsh:∀(bx:Bxs)(j:Nat)(f:Nat->V)(i:Nat),((∃q,q<bx.length/\i=1000000+(j+q))/\zi2 j bx f i=.one (.bx i 0))\/((∀q,q<bx.length->i≠1000000+(j+q))/\zi2 j bx f i=f i)
 | [],j,f,i=>Or.inr ⟨λq hq=>by simp at hq,rfl⟩
 | b::bx,j,f,i=>by
  by_cases hi:i=1000000+j
  ·subst hi;exact Or.inl ⟨⟨0,by simp,rfl⟩,by unfold zi2;rw[zah]⟩
  ·unfold zi2;rw[zan _ _ hi];rcases zsh bx (j+1) f i with⟨⟨q,h1,h2⟩,h3⟩|⟨h1,h2⟩
   ·exact Or.inl ⟨⟨q+1,by simp;omega,Zi⟩,h3⟩
   ·refine Or.inr ⟨λq hq=>?_,h2⟩;cases q with
    | zero=>exact hi
    | succ q=>have:=h1 q (by simpa using hq);omega
theorem zri:∀(bx:Bxs)(j k b:Nat),zk0 j k bx b≠none↔∃q,q<bx.length/\b=1000000+(j+q)
 | [],j,k,b=>⟨λh=>absurd rfl h,λ⟨q,hq,_⟩=>by simp at hq⟩
 | c::bx,j,k,b=>by
  unfold zk0;by_cases hi:b=1000000+j
  ·subst hi;rw[zah];exact⟨λ_=>⟨0,by simp,rfl⟩,λ_=>by simp⟩
  ·rw[zan _ _ hi,zri bx (j+1) _ b];refine⟨λ⟨q,h1,h2⟩=>⟨q+1,by simp;omega,Zi⟩,λ⟨q,h1,h2⟩=>?_⟩;cases q with
   | zero=>exact absurd h2 hi
   | succ q=>exact⟨q,by simpa using h1,Zi⟩
theorem zmu {σ:St}{g:Gh}{w:World}:∀{b:List (Bool×T)}{vs:List Value}{k:Nat},vs.length=b.length->(∀i p v,b[i]?=some p->vs[i]?=some v->CR σ g w (c1P (k+i) p) v)->CRs σ g w (zyj k b) vs
 | [],vs,_,hl,_=>Kc.1 hl
 | p::b,[],_,hl,_=>by simp at hl
 | p::b,v::vs,k,hl,h=>⟨v,vs,rfl,by simpa using h 0 p v rfl rfl,zmu (by simpa using hl) λi q u h1 h2=>by
   have:=h (i+1) q u (by simpa using h1) (by simpa using h2);rw[show k+(i+1)=k+1+i by omega]at this
   exact this⟩
theorem zrg {σ:St}{g:Gh}{w:World}{bs:Nat->Nat}:∀(bx:Bxs)(bvs:List (List Value))(j k:Nat),zfd w bs j bvs bx->(∀i p v,bx.flatten[i]?=some p->bvs.flatten[i]?=some v->CR σ g w (c1P (k+i) p) v) →
  ∀b cs,zk0 j k bx b=some cs->∃q vs ty,q<bx.length/\b=1000000+(j+q)/\w.heap[bs (j+q)]?=some (.cells ⟨vs⟩ ty (0,0))/\CRs σ g w cs vs
 | [],_,_,_,_,_,b,cs,h=>by cases h
 | c::bx,[],_,_,h0,_,_,_,_=>h0.elim
 | c::bx,vs::bvs,j,k,h0,hc,b,cs,h=>by
  obtain⟨h1,⟨ty,h2⟩,h3⟩:=h0;unfold zk0 at h;by_cases hi:b=1000000+j
  ·subst hi;rw[zah]at h;cases h;refine⟨0,vs,ty,by simp,rfl,h2,zmu h1 λi p v e1 e2=>hc i p v ?_ ?_⟩
   ·rw[Q5,List.getElem?_append_left (List.getElem?_eq_some_iff.1 e1).1];exact e1
   ·rw[Q5,List.getElem?_append_left (List.getElem?_eq_some_iff.1 e2).1];exact e2
  ·rw[zan _ _ hi]at h
   obtain⟨q,vs',ty',k1,k2,k3,k4⟩:=zrg bx bvs (j+1) (k+c.length) h3 (λi p v e1 e2=>by
    have:=hc (c.length+i) p v (by rw[Q5,List.getElem?_append_right Zi,show c.length+i-c.length=i by omega];exact e1) (by rw[Q5,List.getElem?_append_right Zi,show c.length+i-vs.length=i by omega];exact e2);rw[show k+(c.length+i)=k+c.length+i by omega]at this
    exact this) b cs h
   exact⟨q+1,vs',ty',by simp;omega,Zi,by rw[show j+(q+1)=j+1+q by omega];exact k3,k4⟩
theorem zf2:∀(l:List AF)(i0 k i:Nat),l.length<=i->zc8 i0 k l (i0+i)=.one .any
 | [],_,_,_,_=>rfl
 | a::l,i0,k,0,h=>by simp at h
 | .d b x::l,i0,k,i+1,h=>by unfold zc8;rw[zan _ _ Zi,show i0+(i+1)=i0+1+i by omega];exact zf2 l _ _ i (by simpa using h)
 | .p j::l,i0,k,i+1,h=>by unfold zc8;rw[zan _ _ Zi,show i0+(i+1)=i0+1+i by omega];exact zf2 l _ _ i (by simpa using h)
 | .fn g js::l,i0,k,i+1,h=>by unfold zc8;rw[zan _ _ Zi,show i0+(i+1)=i0+1+i by omega];exact zf2 l _ _ i (by simpa using h)
theorem zhc {σ:St}{g:Gh}{w:World}{bs:Nat->Nat}{n:Nat}(hb:∀j,j<n->σ.bx (1000000+j)≠none/\g.β (1000000+j)=bs j):∀(l:List AF)(i0 k:Nat)(dvs:List Value),AF.okJ n l=true->dvs.length=(AF.ds l).length->(∀i d v,(AF.ds l)[i]?=some d->dvs[i]?=some v->VR σ g w (gVN (k+i) d) v) →
  ∀i,i<l.length->∃v,(AF.vals bs l dvs)[i]?=some v/\VR σ g w (zc8 i0 k l (i0+i)) v
 | [],_,_,_,_,_,_,i,hi=>by simp at hi
 | .d b x::l,i0,k,[],_,hl,_,i,hi=>by simp[AF.ds]at hl
 | .d b x::l,i0,k,v::dvs,ho,hl,h,i,hi=>by
  cases i with
  | zero=>exact⟨v,rfl,by unfold zc8;show VR σ g w (upd _ i0 _ i0) v;rw[zah];simpa using h 0 (b,x) v rfl rfl⟩
  | succ i =>
   obtain⟨u,k1,k2⟩:=zhc hb l (i0+1) (k+1) dvs ho (by simpa[AF.ds]using hl) (λi d v h1 h2=>by
    have:=h (i+1) d v (by simpa[AF.ds]using h1) (by simpa using h2);rw[show k+(i+1)=k+1+i by omega]at this
    exact this) i (by simpa using hi)
   exact⟨u,by unfold AF.vals;simpa using k1,by unfold zc8;rw[zan _ _ Zi,show i0+(i+1)=i0+1+i by omega];exact k2⟩
 | .p j::l,i0,k,dvs,ho,hl,h,i,hi=>by
  unfold AF.okJ at ho;rw[Qd,Q0]at ho;cases i with
  | zero=>exact⟨_,rfl,by unfold zc8;show VR σ g w (upd _ i0 _ i0) _;rw[zah];exact⟨by rw[(hb j ho.1).2];rfl,(hb j ho.1).1⟩⟩
  | succ i =>
   obtain⟨u,k1,k2⟩:=zhc hb l (i0+1) k dvs ho.2 hl h i (by simpa using hi);exact⟨u,by unfold AF.vals;simpa using k1,by unfold zc8;rw[zan _ _ Zi,show i0+(i+1)=i0+1+i by omega];exact k2⟩
 | .fn f js::l,i0,k,dvs,ho,hl,h,i,hi=>by
  unfold AF.okJ at ho;rw[Qd,Qr]at ho;cases i with
  | zero =>
   refine⟨_,rfl,?_⟩;unfold zc8;show VR σ g w (upd _ i0 _ i0) _
   rw[zah];refine⟨?_,λb hb'=>?_⟩
   ·rw[Jj]
    congr 2
    refine Jb λj hj=>?_;show zl7 (bs j)=.pointer (some ⟨g.β (1000000+j),0,none⟩)
    rw[(hb j (by simpa using ho.1 j hj)).2];rfl
   ·obtain⟨j,hj,rfl⟩:=Ka.1 hb';exact(hb j (by simpa using ho.1 j hj)).1
  | succ i =>
   obtain⟨u,k1,k2⟩:=zhc hb l (i0+1) k dvs ho.2 hl h i (by simpa using hi);exact⟨u,by unfold AF.vals;simpa using k1,by unfold zc8;rw[zan _ _ Zi,show i0+(i+1)=i0+1+i by omega];exact k2⟩
theorem AF.vals_len (bs:Nat->Nat):∀(l:List AF)(dvs:List Value),dvs.length=(AF.ds l).length->(AF.vals bs l dvs).length=l.length
 | [],_,_=>rfl
 | .d _ _::l,[],h=>by simp[AF.ds]at h
 | .d _ _::l,v::vs,h=>by simp[AF.vals,AF.vals_len bs l vs (by simpa[AF.ds]using h)]
 | .p _::l,vs,h=>by simp[AF.vals,AF.vals_len bs l vs h]
 | .fn _ _::l,vs,h=>by simp[AF.vals,AF.vals_len bs l vs h]
def T.fs:T->Bool
 | .sl _ _=>true
 | t=>t.flat
def gFS:List (Bool×D)->Bool
 | []=>true
 | (false,_)::ds=>gFS ds
 | (true,.one t)::ds=>t.fs&&gFS ds
 | (true,.agg ts)::ds=>ts.all T.fs&&gFS ds
theorem zw9:∀{ds:List (Bool×D)},gFS ds=true->∀(i:Nat) d,ds[i]?=some (true,d)->match d with|.one t=>t.fs=true|.agg ts=>ts.all T.fs=true
 | [],_,i,d,h=>by simp at h
 | (false,x)::ds,hg,0,d,h=>by simp at h
 | (false,x)::ds,hg,i+1,d,h=>zw9 (ds:=ds) hg i d (by simpa using h)
 | (true,.one t)::ds,hg,0,d,h=>by
  simp only[List.getElem?_cons_zero,Qf,Qx,true_and]at h;subst h;exact((Qd _ _).mp hg).1
 | (true,.agg t)::ds,hg,0,d,h=>by
  simp only[List.getElem?_cons_zero,Qf,Qx,true_and]at h;subst h;exact((Qd _ _).mp hg).1
 | (true,.one t)::ds,hg,i+1,d,h=>zw9 (ds:=ds) ((Qd _ _).mp hg).2 i d (by simpa using h)
 | (true,.agg t)::ds,hg,i+1,d,h=>zw9 (ds:=ds) ((Qd _ _).mp hg).2 i d (by simpa using h)
theorem zzh {σ σ':St}{g g':Gh}{w:World}(he:σ'.ev=σ.ev)(hψ:g'.ψ=g.ψ){k j:Nat}{t:T}{v:Value}(ht:t.fs=true)(h:CR σ g w (owC k j t) v):CR σ' g' w (owC k j t) v:=by
 cases t
 case sl=>exact⟨by rw[hψ];exact h.1,by obtain⟨x,h1,h2⟩:=h.2;exact⟨x,by rw[he];exact h1,h2⟩⟩
 all_goals exact zdq (A:=Fix σ g w) (w:=w) ht h
theorem zqc {σ σ':St}{g g':Gh}{w:World}(he:σ'.ev=σ.ev)(hψ:g'.ψ=g.ψ){k:Nat}:∀{ts:List T}{j:Nat}{vs:List Value},ts.all T.fs=true->CRs σ g w (znz k j ts) vs->CRs σ' g' w (znz k j ts) vs
 | [],_,_,_,h=>h
 | t::ts,j,vs,ht,h=>by
  rw[Jl,Qd]at ht;obtain⟨v,vs',rfl,h1,h2⟩:=h;exact⟨v,vs',rfl,zzh he hψ ht.1 h1,zqc he hψ ht.2 h2⟩
theorem zoo (d:Nat):∀(ts:List T)(j:Nat)(f:Nat->Option Ev),(∀e x,f e=some x->x.deep=true/\x.on=true)->∀e x,owE d j ts f e=some x->x.deep=true/\x.on=true
 | [],_,f,h,e,x,hx=>h e x hx
 | t::ts,j,f,h,e,x,hx=>zoo d ts (j+1) _ (λe x hx=>by
   cases t<;>first|exact h e x hx|skip
   rename_i sz rows;by_cases he:e=d*32+j
   ·subst he;simp only[ztj,zah,Qf]at hx;subst hx;exact⟨rfl,rfl⟩
   ·simp only[ztj,zan _ _ he]at hx;exact h e x hx) e x hx
theorem zge:∀(ds:List (Bool×D))(k e:Nat)(x:Ev),zgu k ds e=some x->x.deep=true/\x.on=true
 | [],_,_,_,h=>by cases h
 | (false,_)::ds,k,e,x,h=>zge ds (k+1) e x h
 | (true,.one t)::ds,k,e,x,h=>zoo k [t] 0 _ (λe x hx=>zge ds (k+1) e x hx) e x h
 | (true,.agg ts)::ds,k,e,x,h=>zoo k ts 0 _ (λe x hx=>zge ds (k+1) e x hx) e x h
theorem zq7 {w:World}{l:List AF}{bx:Bxs}{bs:Nat->Nat}{bvs:List (List Value)}{dvs:List Value}{fp tp:List Nat}{A:Nat->Prop}{N:Nat}(hinj:∀i j,i<bx.length->j<bx.length->bs i=bs j->i=j)(hbf:∀j,j<bx.length->bs j∉fp)(hbx:zfd w bs 0 bvs bx)
  (hv:zaw w (λk=>(k<w.heap.size/\k∉fp/\∀j,j<bx.length->k≠bs j)/\A k) (AF.ds l++bxA bx.flatten) (dvs++bvs.flatten) fp tp) (hn:fp.Nodup) (hl:dvs.length=(AF.ds l).length) (hj:AF.okJ bx.length l=true) (hN:l.length<=N) (hN2:N<=1000000) (hs:zb6 (AF.ds l++bxA bx.flatten)) (hfs:gFS (AF.ds l++bxA bx.flatten)=true)
  {ξ:Nat->Value} (h1:∀i,i<1000000->ξ i=undef) (h2:∀i b,ξ i≠.bool b) (h3:∀j,j<bx.length->ξ (1000000+j)=zl7 (bs j)) :
  ∃g,(g.A0,g.R0)=(λb=>A b\/w.heap.size<=b\/b∈fp\/∃j,j<bx.length/\b=bs j,⟨λb=>b∈fp\/w.heap.size<=b\/∃j,j<bx.length/\b=bs j,ξ,h1,h2⟩) ∧
   Rel (λb=>b<w.heap.size/\b∉fp/\∀j,j<bx.length->b≠bs j) N (zhz l bx) g { tmps:=(⟨AF.vals bs l dvs⟩:Array Value)++Array.replicate (N-(AF.vals bs l dvs).length) undef,defers:=[] } w:=by
 have hv':zaw w (λb=>b<w.heap.size/\(A b/\∀j,j<bx.length->b≠bs j)/\b∉fp) (AF.ds l++bxA bx.flatten) (dvs++bvs.flatten) fp tp:=zaw.keepA (λb hb=>⟨hb.1.1,⟨hb.2,hb.1.2.2⟩,hb.1.2.1⟩) hv
 obtain⟨g,hg,hR⟩:=Rel.start (N:=(AF.ds l++bxA bx.flatten).length) (A0:=λb=>A b\/w.heap.size<=b\/b∈fp\/∃j,j<bx.length/\b=bs j) (R0:=⟨λb=>b∈fp\/w.heap.size<=b\/∃j,j<bx.length/\b=bs j,ξ,h1,h2⟩) hv' hn hs (Qp _) (λb hb=>Or.inl hb.1) (λb hb=>⟨Or.inr (Or.inr (Or.inl hb)),Or.inl hb⟩) (λb hb=>by
  by_cases hlt:b<w.heap.size
  ·have hm:b∈fp:=Classical.byContradiction λh=>hb ⟨hlt,h⟩;exact⟨Or.inr (Or.inr (Or.inl hm)),Or.inl hm⟩
  ·exact⟨Or.inr (Or.inl Zi),Or.inr (Or.inl Zi)⟩)
 have hg1:g.A0=_:=(Jr hg).1
 have hg2:g.R0=_:=(Jr hg).2
 refine⟨{ g with β:=λk=>bs (k-1000000) },hg,?_⟩
 have hlen:(dvs++bvs.flatten).length=(AF.ds l++bxA bx.flatten).length:=zaw.len hv
 have hbne:∀b,(zhz l bx).bx b≠none↔∃q,q<bx.length/\b=1000000+q:=λb=>by
  have:=zri bx 0 (AF.ds l).length b;simp only[Qi]at this;exact this
 have hblt:∀q,q<bx.length->bs q<w.heap.size:=λq hq=>by have:=hbx.lt q hq;rwa [Qi]at this
 have hdeep:∀e x,(zhz l bx).ev e=some x->x.deep=true/\x.on=true:=λe x hx=>zge _ _ e x hx
 have hφ:∀e,(zhz l bx).On e->∀b∈g.φ e,¬(b<w.heap.size/\b∉fp):=λe he b hb=>hR.etop e he b hb
 have hfree:∀b,((b<w.heap.size/\b∉fp/\∀j,j<bx.length->b≠bs j)/\A b)->zcl (zhz l bx) { g with β:=λk=>bs (k-1000000) } w b:=λb hb=>by
  refine⟨⟨λk hk=>?_,λe x hx ho hh=>hφ e ⟨x,hx,ho⟩ b (List.mem_of_mem_head? hh) ⟨hb.1.1,hb.1.2.1⟩,hb.1.1,?_⟩,λe he hm=>hφ e he b hm ⟨hb.1.1,hb.1.2.1⟩⟩
  ·obtain⟨q,hq,rfl⟩:=(hbne k).1 hk;show bs (1000000+q-1000000)≠b
   rw[show 1000000+q-1000000=q by omega];exact λe=>hb.1.2.2 q hq e.symm
  ·show g.A0 b
   rw[hg1];exact Or.inl hb.2
 have hat:∀(i:Nat) d v,(AF.ds l++bxA bx.flatten)[i]?=some d->(dvs++bvs.flatten)[i]?=some v->VR (zhz l bx) { g with β:=λk=>bs (k-1000000) } w (gVN i d) v:=λi d v hd hv1=>by
  obtain⟨b,d⟩:=d;cases b with
  | false =>
   obtain⟨u,e1,e2⟩:=zaw.atR hv i d hd;rw[e1]at hv1;cases hv1;exact qho hfree e2
  | true =>
   have h0:=hR.slots i;have hj0:=zjt (AF.ds l++bxA bx.flatten) 0 i;rw[Qi,hd]at hj0;have h0':VR (zd9 (AF.ds l++bxA bx.flatten)) g w (zlk 0 (AF.ds l++bxA bx.flatten) i) _:=h0;rw[hj0]at h0';have hlt:i<(dvs++bvs.flatten).length:=(List.getElem?_eq_some_iff.1 hv1).1;have e:((⟨dvs++bvs.flatten⟩:Array Value)++Array.replicate ((AF.ds l++bxA bx.flatten).length-(dvs++bvs.flatten).length) undef).getD i (g.R0.ξ i)=v:=by
    rw[Array.getD_eq_getD_getElem?,Array.getElem?_append_left (by simpa using hlt)];simp only[List.getElem?_toArray,hv1,Kj]
   rw[e]at h0';have hf:=zw9 hfs i d hd;cases d with
   | one t=>exact zzh (σ:=zd9 (AF.ds l++bxA bx.flatten)) (σ':=zhz l bx) (g:=g) (g':={ g with β:=λk=>bs (k-1000000) }) rfl rfl hf h0'
   | agg ts=>obtain⟨a,e1,e2⟩:=h0';exact⟨a,e1,zqc (σ:=zd9 (AF.ds l++bxA bx.flatten)) (σ':=zhz l bx) (g:=g) (g':={ g with β:=λk=>bs (k-1000000) }) rfl rfl hf e2⟩
 have hvl:=AF.vals_len bs l dvs hl
 refine⟨rfl,by simp;omega,λb hb=>?_,λi=>?_,λb cs hb=>?_,λb hb=>?_,λb b' hb hb' he=>?_,λe x he ho=>?_,λe x he ho=>?_,hR.slc,λe he b hb=>?_,λe he b hb=>?_,λe he=>hR.nodup e he,λe e' h1 h2 hne=>hR.apart e e' h1 h2 hne,λe k he hk hm=>?_⟩
 ·show g.A0 b/\g.R0 b
  rw[hg1,hg2];show(A b\/_)/\(b∈fp\/_)
  by_cases hlt:b<w.heap.size
  ·by_cases hm:b∈fp
   ·exact⟨Or.inr (Or.inr (Or.inl hm)),Or.inl hm⟩
   ·have:∃j,j<bx.length/\b=bs j:=Classical.byContradiction λhh=>hb ⟨hlt,hm,λj hj e=>hh ⟨j,hj,e⟩⟩;exact⟨Or.inr (Or.inr (Or.inr this)),Or.inr (Or.inr this)⟩
  ·exact⟨Or.inr (Or.inl Zi),Or.inr (Or.inl Zi)⟩
 ·show VR _ _ _ (zi2 0 bx (zc8 0 0 l) i) _
  rcases zsh bx 0 (zc8 0 0 l) i with⟨⟨q,h4,rfl⟩,h5⟩|⟨_,h5⟩
  ·rw[h5,Qi,Array.getD_eq_getD_getElem?,Array.getElem?_eq_none (by simp;omega)];refine⟨?_,(hbne _).2 ⟨q,h4,rfl⟩⟩;show(none:Option Value).getD (g.R0.ξ (1000000+q))=.pointer (some ⟨bs (1000000+q-1000000),0,none⟩)
   rw[hg2,show 1000000+q-1000000=q by omega];exact h3 q h4
  ·rw[h5];by_cases hi:i<l.length
   ·obtain⟨u,e1,e2⟩:=zhc (σ:=zhz l bx) (g:={ g with β:=λk=>bs (k-1000000) }) (w:=w) (bs:=bs) (n:=bx.length) (λj hj=>⟨(hbne _).2 ⟨j,hj,rfl⟩,by show bs (1000000+j-1000000)=bs j;rw[show 1000000+j-1000000=j by omega]⟩) l 0 0 dvs hj hl (λi d v e1 e2=>by
     rw[Qi]
     exact hat i d v (by rw[List.getElem?_append_left (List.getElem?_eq_some_iff.1 e1).1];exact e1) (by rw[List.getElem?_append_left (List.getElem?_eq_some_iff.1 e2).1];exact e2)) i hi
    rw[Qi]at e2;rw[Array.getD_eq_getD_getElem?,Array.getElem?_append_left (by simp;omega)];simp only[List.getElem?_toArray,e1,Kj];exact e2
   ·have:=zf2 l 0 0 i Zi;rw[Qi]at this;rw[this]
    trivial
 ·obtain⟨q,vs,ty,k1,k2,k3,k4⟩:=zrg (σ:=zhz l bx) (g:={ g with β:=λk=>bs (k-1000000) }) bx bvs 0 (AF.ds l).length hbx (λi p v e1 e2=>by
   have:=hat ((AF.ds l).length+i) (p.1,.one p.2) v (by rw[List.getElem?_append_right Zi,show(AF.ds l).length+i-(AF.ds l).length=i by omega];unfold bxA;rw[List.getElem?_map,e1];rfl) (by rw[List.getElem?_append_right Zi,show(AF.ds l).length+i-dvs.length=i by omega];exact e2);rw[qq5]at this
   exact this) b cs hb
  rw[Qi]at k2 k3;subst k2;exact⟨⟨vs⟩,ty,by show w.heap[bs (1000000+q-1000000)]?=_;rw[show 1000000+q-1000000=q by omega];exact k3,k4⟩
 ·obtain⟨q,hq,rfl⟩:=(hbne b).1 hb;intro h;have h:=h.2.2 q hq;exact h (show bs (1000000+q-1000000)=bs q by rw[show 1000000+q-1000000=q by omega])
 ·obtain⟨q,hq,rfl⟩:=(hbne b).1 hb;obtain⟨q',hq',rfl⟩:=(hbne b').1 hb';have he:bs (1000000+q-1000000)=bs (1000000+q'-1000000):=he;rw[show 1000000+q-1000000=q by omega,show 1000000+q'-1000000=q' by omega]at he;rw[hinj q q' hq hq' he]
 ·obtain⟨ao,cap,e1,e2,e3,e4⟩:=hR.evs e x he ho;refine⟨ao,cap,e1,e2,e3,?_⟩;rcases e4 with e4|⟨b,cells,ty,fps,j1,j2,j3,j4,j5⟩
  ·exact Or.inl e4
  ·rw[if_pos (hdeep e x he).1]at j5;exact Or.inr ⟨b,cells,ty,fps,j1,j2,j3,j4,by rw[if_pos (hdeep e x he).1];exact j5⟩
 ·rw[(hdeep e x he).2]at ho;cases ho
 ·exact hR.ebase e he b hb
 ·exact λh=>hφ e he b hb ⟨h.1,h.2.1⟩
 ·obtain⟨q,hq,rfl⟩:=(hbne k).1 hk;have hm:bs (1000000+q-1000000)∈g.φ e:=hm;rw[show 1000000+q-1000000=q by omega]at hm;exact hφ e he _ hm ⟨hblt q hq,hbf q hq⟩
def bxE (σ:St):Nat->Bxs->(List V->Prop)->Prop
 | _,[],K=>K []
 | j,b::bs,K=>σ.sl (1000000+j)=.one (.bx (1000000+j) 0)/\zaq (σ.bx (1000000+j)) λcs=>cs.length=b.length/\bxE σ (j+1) bs λvs=>K (cs.map .one++vs)
theorem CRs.ones {σ:St}{g:Gh}{w:World}:∀{cs:List C}{vs:List Value},CRs σ g w cs vs->VRl σ g w (cs.map .one) vs
 | [],_,h=>h
 | c::cs,_,h=>by obtain⟨v,vs',rfl,h1,h2⟩:=h;exact⟨v,vs',rfl,h1,CRs.ones h2⟩
theorem zlu {n0:Nat->Prop}{N:Nat}{σ:St}{g:Gh}{a:Act}{w:World}{bs:Nat->Nat}(hR:Rel n0 N σ g a w)(hN:N<=1000000):∀{bx:Bxs}{j:Nat}{K:List V->Prop},(∀q,q<bx.length->g.R0.ξ (1000000+(j+q))=zl7 (bs (j+q)))->bxE σ j bx K →
  ∃vs bvs,K vs/\zfd w bs j bvs bx/\VRl σ g w vs bvs.flatten/\∀q,q<bx.length->σ.bx (1000000+(j+q))≠none/\g.β (1000000+(j+q))=bs (j+q)
 | [],j,K,_,h=>⟨[],[],h,trivial,rfl,λq hq=>by simp at hq⟩
 | b::bx,j,K,hξ,h=>by
  obtain⟨h1,h2⟩:=h;obtain⟨cs,h3,h4,h5⟩:=zao h2;obtain⟨vs,bvs,k1,k2,k3,k4⟩:=zlu hR hN (bx:=bx) (j:=j+1) (λq hq=>by have:=hξ (q+1) (by simpa using hq);rw[show j+(q+1)=j+1+q by omega]at this;exact this) h5;have h0:=hR.slots (1000000+j);rw[h1,Array.getD_eq_getD_getElem?,Array.getElem?_eq_none (by rw[hR.size];omega)]at h0;have hx:=hξ 0 (by simp);rw[Yx]at hx;have h0:CR σ g w (.bx (1000000+j) 0) (g.R0.ξ (1000000+j)):=h0;rw[hx]at h0;have hβ:g.β (1000000+j)=bs j:=by
   have:=h0.1;unfold zl7 at this;simp only[Value.pointer.injEq,Qf]at this;injection this with e
   exact e.symm
  obtain⟨us,ty,j1,j2⟩:=hR.boxes _ cs h3;rw[hβ]at j1;refine⟨_,us.toList::bvs,k1,⟨by rw[j2.len,h4],⟨ty,j1⟩,k2⟩,VRl.append j2.ones k3,λq hq=>?_⟩;cases q with
  | zero=>exact⟨h0.2,hβ⟩
  | succ q=>rw[show j+(q+1)=j+1+q by omega];exact k4 q (by simpa using hq)
def PB0 (P:Program)(rs:List ResultVar)(res:List (Bool×D))(bx:Bxs)(pl:List (Nat×Nat×Nat))(σ:St):Prop:=zaq (zbq P σ rs) λvs=>bxE σ 0 bx λcs=>gvA σ (λ_=>True) [] pl (vs++cs) (res++bxA bx.flatten)
def PB (P:Program)(rs:List ResultVar)(res:List (Bool×D))(bx:Bxs)(e:Exit)(σ:St):Prop:=match e with
 | .normal=>PB0 P rs res bx [] σ\/∃pl,PB0 P rs res bx pl σ
 | .ret=>PB0 P rs res bx [] σ\/∃pl,PB0 P rs res bx pl σ
 | _=>False
theorem zgs {σ:St}:∀{rs:List ResultVar}{vs:List V},zbq P σ rs=some vs->vs.length=rs.length
 | [],vs,h=>by cases h;rfl
 | r::rs,vs,h=>by
  unfold zbq at h;cases h1:zzr P σ r with
  | none=>rw[h1]at h;cases h
  | some v =>
   rw[h1]at h;simp only[Kf]at h;cases h2:zbq P σ rs with
   | none=>rw[h2]at h;cases h
   | some us=>rw[h2]at h;cases h;simp[zgs h2]
theorem VRl.len {σ:St}{g:Gh}{w:World}:∀{xs:List V}{vs:List Value},VRl σ g w xs vs->vs.length=xs.length
 | [],_,h=>by rw[show _=[] from h];rfl
 | x::xs,_,h=>by obtain⟨v,vs',rfl,_,h2⟩:=h;simp[VRl.len h2]
theorem PC_of {f:FuncId}{fn:Func}{c:Code}{bx bx':Bxs}{l:List AF}{res:List (Bool×D)}(hc:za8 P f)(hf:P.funcs[f]?=some fn)(hb:fn.body=some c)(hd:zcj fn.ntmps c=true)(hN:l.length<=fn.ntmps)(hN2:fn.ntmps<=1000000)(hbl:bx'.length=bx.length)(hj:AF.okJ bx.length l=true)(hs:zb6 (AF.ds l++bxA bx.flatten))(hfs:gFS (AF.ds l++bxA bx.flatten)=true)(hrl:fn.results.toList.length=res.length)
  (h:ex P c [] (PB P fn.results.toList res bx') (zhz l bx)):PC P f bx l bx' res:=by
 refine⟨hc,hbl,λw bs bvs dvs fp tp A hinj hbf hbx hv hn hl=>?_⟩
 refine calls_of_wp hf hb ?_
 obtain⟨g,hg,hR⟩:=zq7 (N:=fn.ntmps) hinj hbf hbx hv hn hl hj hN hN2 hs hfs (ξ:=λi=>if 1000000<=i then zl7 (bs (i-1000000))else undef) (λi hi=>if_neg Zi) (λi b=>by
  by_cases h:1000000<=i
  ·rw[if_pos h];exact λe=>by cases e
  ·rw[if_neg h];exact λe=>by cases e) (λj hj=>by
  rw[if_pos Zi,show 1000000+j-1000000=j by omega])
 refine wp_mono (zbo (w0:=w) c (zhz l bx) _ hd h g _ w hR (λk hk=>hk.1) (Bk.refl _ _) hg) λe a' w' hq=>?_
 obtain⟨σ',g',h1,h2,h3,h4,h5⟩:=hq
 have hξ:∀q,q<bx'.length->g'.R0.ξ (1000000+(0+q))=zl7 (bs (0+q)):=λq hq=>by
  rw[(Jr h5).2,Qi];show(if 1000000<=1000000+q then zl7 (bs (1000000+q-1000000))else undef)=_
  rw[if_pos Zi,show 1000000+q-1000000=q by omega]
 have key:(∃pl,PB0 P fn.results.toList res bx' pl σ')->∃v,(results fn a'.tmps).run P w'=.ok v w'/\∃us bvs' fp' tp',Ending.returned v=.returned (zcm us)/\zfd w' bs 0 bvs' bx'/\us.length=res.length ∧
   zaw w' (λk=>(k<w'.heap.size/\k∉fp'/\∀j,j<bx.length->k≠bs j)/\(A k\/w.heap.size<=k\/k∈fp)) (res++bxA bx'.flatten) (us++bvs'.flatten) fp' tp'/\fp'.Nodup/\(∀b∈fp',b∈fp\/w.heap.size<=b)/\Bk (λk=>k<w.heap.size/\k∉fp/\∀j,j<bx.length->k≠bs j) w w':=by
  rintro⟨pl,hk⟩;obtain⟨vs,hvs,hk⟩:=zao hk;obtain⟨us,r1,r2⟩:=zb9 h2 fn hvs;obtain⟨cs,bvs',k0,b1,b2,b3⟩:=zlu (bs:=bs) h2 hN2 hξ hk;obtain⟨B,hB⟩:=h2.fam;obtain⟨s,k1,⟨tp',k2⟩,k3,k4⟩:=zf9 h2 hB k0 (VRl.append r2 b2);rw[Kh]at k4;have hsp:s.Pairwise okP:=(Yu.1 (k4 List.Pairwise.nil)).imp λh=>h.symm;have hin:∀b∈bks B s,∃e,σ'.On e/\b∈g'.φ e:=λb hb=>by
   obtain⟨x,hx,hm⟩:=Jw.1 hb;exact⟨x.1,k3 x hx,hB.sub x.1 x.2 b (k3 x hx) hm⟩
  have hbβ:∀j,j<bx.length->σ'.bx (1000000+j)≠none/\g'.β (1000000+j)=bs j:=λj hj=>by
   have:=b3 j Zi
   rwa [Qi]at this
  have hA:∀b,zcl σ' g' w' b->(b<w'.heap.size/\b∉bks B s/\∀j,j<bx.length->b≠bs j)/\(A b\/w.heap.size<=b\/b∈fp):=λb hb=>by
   have hnb:∀j,j<bx.length->b≠bs j:=λj hj e=>hb.1.1 _ (hbβ j hj).1 (by rw[(hbβ j hj).2,e]);refine⟨⟨hb.1.2.2.1,λhm=>?_,hnb⟩,?_⟩
   ·obtain⟨e,ho,hm⟩:=hin b hm;exact hb.2 e ho hm
   ·have h0:=hb.1.2.2.2;rw[(Jr h5).1]at h0;rcases h0 with h0|h0|h0|⟨j,hj,h0⟩
    ·exact Or.inl h0
    ·exact Or.inr (Or.inl h0)
    ·exact Or.inr (Or.inr h0)
    ·exact absurd h0 (hnb j hj)
  refine⟨_,r1,us,bvs',bks B s,tp',rfl,b1,by rw[r2.len,<-hrl];exact zgs hvs,zaw.keepA hA k2,zef h2 hB k3 hsp,λb hb=>?_,h4⟩;obtain⟨e,ho,hm⟩:=hin b hb;have h0:=(h2.ebase e ho b hm).2;rw[(Jr h5).2]at h0;rcases h0 with h0|h0|⟨j,hj,h0⟩
  ·exact Or.inl h0
  ·exact Or.inr h0
  ·have:=h2.ebx e _ ho (hbβ j hj).1;rw[(hbβ j hj).2]at this;exact absurd (h0▸hm) this
 have key':∀{Y:Prop},(PB0 P fn.results.toList res bx' [] σ'\/∃pl,PB0 P fn.results.toList res bx' pl σ')->((∃pl,PB0 P fn.results.toList res bx' pl σ')->Y)->Y:=λh k=>h.elim (λh=>k ⟨[],h⟩) k
 cases e with
 | normal=>exact⟨h2.defers,key' h1 key⟩
 | ret=>exact⟨h2.defers,key' h1 key⟩
 | exit _=>exact h1.elim
 | goto _=>exact h1.elim
 | panic _=>exact h1.elim
 | outgrown=>exact h1.elim
end
end Go.Proofs.YtmhbmpbgpjljeaaGreat
