/-
  The walk over plain data, and contracts of functions of the program and of its laws.
  Conditions: those that each theorem names.
-/
import Derived.Test.YtliiapbmkcbfaaaGreatQJ3
import Derived.RangeFuncNested
import Derived.RangeFuncLeaves
import Derived.Test.YtliiapbmkcbfaaaGreatProg
import Derived.KernelRfl
import Derived.Test.YtliiapbmkcbfaaaGreatQJ1
namespace Go.Proofs.YtliiapbmkcbfaaaGreat
set_option linter.unusedSimpArgs false
set_option linter.unusedVariables false
set_option linter.unusedSectionVars false
set_option maxRecDepth 4000
set_option maxHeartbeats 8000000
section
open Go.RowKit
variable {P:Program}
def pinC (v:Value):T->T
 | .sl sz rows=>.pin v (.sl sz rows)
 | t=>t
def qe8 (us:Nat->Value):Nat->List T->List T
 | _,[]=>[]
 | j,c::cs=>pinC (us j) c::qe8 us (j+1) cs
def zhh (vs:Nat->Nat->Value):Nat->List (List T)->List (List T)
 | _,[]=>[]
 | i,r::rs=>qe8 (vs i) 0 r::zhh vs (i+1) rs
theorem zwe (us:Nat->Value):∀(cs:List T)(j:Nat),(qe8 us j cs).length=cs.length
 | [],_=>rfl
 | c::cs,j=>by simp[qe8,zwe us cs]
theorem zhe (vs:Nat->Nat->Value):∀(rs:List (List T))(i:Nat),(zhh vs i rs).length=rs.length
 | [],_=>rfl
 | c::cs,j=>by simp[zhh,zhe vs cs]
theorem za3.pin {w:World}{t:T}{v:Value}{fp:List Nat}(h:za3 w t v fp):za3 w (pinC v t) v fp:=by
 unfold pinC
 split
 ·unfold za3;exact⟨rfl,h⟩
 ·exact h
theorem zbo.pin {w:World}{cells:Array Value}{us:Nat->Value}:∀{cs:List T}{o j:Nat}{fps:List Nat},zbo w cells o cs fps->(∀i,us (j+i)=cells.getD (o+i) undef)->zbo w cells o (qe8 us j cs) fps
 | [],_,_,_,h,_=>h
 | c::cs,o,j,fps,h,hu=>by
  unfold zbo at h;obtain⟨v,f1,f2,h1,rfl,h2,h3⟩:=h;unfold qe8 zbo;have e:us j=v:=by have:=hu 0;rw[J9,J9]at this;rw[this,Array.getD_eq_getD_getElem?,h1];rfl
  refine⟨v,f1,f2,h1,rfl,by rw[e];exact h2.pin,zbo.pin h3 fun i=>?_⟩;have:=hu (i+1)
  rwa [show j+(i+1)=j+1+i by omega,show o+(i+1)=o+1+i by omega]at this
theorem zao.pin {w:World}{cells:Array Value}{sz:Nat}:∀{rows:List (List T)}{i:Nat}{fps:List Nat},zao w cells (i*sz) sz rows fps->zao w cells (i*sz) sz (zhh (fun i j=>cells.getD (i*sz+j) undef) i rows) fps
 | [],_,_,h=>h
 | r::rs,i,fps,h=>by
  unfold zao at h;obtain⟨h1,f1,f2,rfl,h2,h3⟩:=h;unfold zhh zao;refine⟨by rw[zwe];exact h1,f1,f2,rfl,h2.pin fun j=>by simp,?_⟩;rw[show i*sz+sz=(i+1)*sz by rw[Kl];omega]at h3⊢;exact zao.pin h3
theorem za3.pins {w:World}{sz:Nat}{rows:List (List T)}{v:Value}{fp:List Nat}(h:za3 w (.sl sz rows) v fp):∃vs,za3 w (.sl sz (zhh vs 0 rows)) v fp:=by
 unfold za3 at h
 obtain⟨ao,cap,h1,h2,h3,h4⟩:=h
 rcases h4 with⟨k1,k2,rfl,k4⟩|⟨b,cells,ty,fps,k1,k2,k3,k4,k5⟩
 ·refine⟨fun _ _=>undef,?_⟩;unfold za3;exact⟨ao,cap,h1,h2,h3,Or.inl ⟨k1,k2,rfl,k4⟩⟩
 ·refine⟨fun i j=>cells.getD (i*sz+j) undef,?_⟩;unfold za3;have:=zao.pin (i:=0) (by rw[Nat.zero_mul];exact k5);rw[Nat.zero_mul]at this;exact⟨ao,cap,by rw[zhe];exact h1,by rw[zhe];exact h2,h3,Or.inr ⟨b,cells,ty,fps,k1,k2,k3,k4,this⟩⟩
def zkl:T->T
 | .pin _ t=>t
 | t=>t
def zg5 (rs:List (List T)):List (List T):=rs.map fun r=>r.map zkl
theorem za3.unpin {w:World}:∀{t:T}{v:Value}{fp:List Nat},za3 w t v fp->za3 w (zkl t) v fp
 | .pin _ _,_,_,h=>by unfold za3 at h;exact h.2
 | .int _ _,_,_,h=>h
 | .bool _,_,_,h=>h
 | .str _,_,_,h=>h
 | .sl _ _,_,_,h=>h
 | .ptr _,_,_,h=>h
 | .fn _ _,_,_,h=>h
 | .mp _ _,_,_,h=>h
 | .vs _ _ _,_,_,h=>h
theorem zbo.unpin {w:World}{cells:Array Value}:∀{cs:List T}{o:Nat}{fps:List Nat},zbo w cells o cs fps->zbo w cells o (cs.map zkl) fps
 | [],_,_,h=>h
 | c::cs,o,fps,h=>by
  unfold zbo at h;obtain⟨v,f1,f2,h1,rfl,h2,h3⟩:=h;rw[Qi];unfold zbo;exact⟨v,f1,f2,h1,rfl,h2.unpin,h3.unpin⟩
theorem zao.unpin {w:World}{cells:Array Value}{sz:Nat}:∀{rows:List (List T)}{o:Nat}{fps:List Nat},zao w cells o sz rows fps->zao w cells o sz (zg5 rows) fps
 | [],_,_,h=>h
 | r::rs,o,fps,h=>by
  unfold zao at h;obtain⟨h1,f1,f2,rfl,h2,h3⟩:=h;show zao w cells o sz (r.map zkl::zg5 rs) (f1++f2)
  unfold zao;exact⟨by simpa using h1,f1,f2,rfl,h2.unpin,h3.unpin⟩
theorem za3.unpins {w:World}{sz:Nat}{rows:List (List T)}{v:Value}{fp:List Nat}(h:za3 w (.sl sz rows) v fp):za3 w (.sl sz (zg5 rows)) v fp:=by
 unfold za3 at h⊢
 have hl:(zg5 rows).length=rows.length:=by simp[zg5]
 obtain⟨ao,cap,h1,h2,h3,h4⟩:=h
 refine⟨ao,cap,by rw[hl];exact h1,by rw[hl];exact h2,h3,?_⟩
 rcases h4 with⟨k1,k2,rfl,k4⟩|⟨b,cells,ty,fps,k1,k2,k3,k4,k5⟩
 ·exact Or.inl ⟨k1,k2,rfl,k4⟩
 ·exact Or.inr ⟨b,cells,ty,fps,k1,k2,k3,k4,k5.unpin⟩
theorem Rel.reown {n0:Nat->Prop}{N:Nat}{σ:St}{g:Gh}{a:Act}{w:World}(hR:Rel n0 N σ g a w)(hn:LtK n0 w){e sz gn:Nat}{rows rows':List (List T)}(he:σ.ev e=some ⟨true,sz,rows,gn,true⟩)(h:za3 w (.sl sz rows') (g.ψ e gn) (g.φ e)) :
  Rel n0 N (σ.inp [(e,rows')]) g a w:=by
 have hOn:σ.On e:=⟨_,he,rfl⟩
 have hev:∀e',(∀p∈[(e,rows')],p.1≠e')->(σ.inp [(e,rows')]).ev e'=σ.ev e':=fun e' h'=>zh6 (by simpa using Ne.symm (h' (e,rows') (Kg.2 rfl)))
 have m:Mv σ (σ.inp [(e,rows')]) g g w w:=by
  refine⟨fun b hf=>rfl,fun b hf=>⟨hf.1,fun e' x hx hon=>?_,hf.2.2⟩,fun b hb=>⟨rfl,hb⟩,fun e n he=>⟨znc he,rfl⟩,fun b hb=>(zwa hR (U:=[(e,rows')]) (fp:=g.φ e) (φ':=g.φ) (fun b hb=>⟨(e,rows'),Kg.2 rfl,hb⟩) (fun p hp=>by rw[Kg.1 hp];exact hOn) (Bk.refl _ _) (fun p hp b hb=>Or.inl (by rw[Kg.1 hp]at hb;exact hb)) (fun _ _=>rfl) b hb).2.2⟩;by_cases h':e'=e
  ·subst h';exact hf.2.1 e' _ he rfl
  ·exact hf.2.1 e' x ((hev e' (by simpa using Ne.symm h')).symm.trans hx) hon
 exact hR.inp hn (fp:=g.φ e) (fp':=g.φ e) (φ':=g.φ) (by simp) (by simp) (fun b hb=>⟨(e,rows'),Kg.2 rfl,hb⟩) (Bk.refl _ _) (fun b hb=>Or.inl hb) (fun _ _=>rfl)
  (fun p hp=>by simp at hp;subst hp;exact⟨sz,rows,gn,he,h,hR.nodup e hOn,fun b hb=>hb⟩) (fun p hp q hq hne=>by simp at hp hq;subst hp;subst hq;exact absurd rfl hne)
  (fun i v h=>m.vr h) (fun b cs vs _ h=>m.crs h) (fun e x _ _ _ v fpx hE hs=>m.evr hE hs) (fun e x _ _ v h=>m.rep h)
theorem zbo.cell {w:World}{cells:Array Value}:∀{cs:List T}{o j:Nat}{c:T}{fps:List Nat},zbo w cells o cs fps->cs[j]?=some c →
  ∃f1 f f2 v,fps=f1++(f++f2)/\cells[o+j]?=some v/\za3 w c v f/\∀(w':World) (c':T) (f':List Nat),(∀b,b∈f1\/b∈f2->w'.heap[b]?=w.heap[b]?)->za3 w' c' v f'->zbo w' cells o (cs.set j c') (f1++(f'++f2))
 | [],_,_,_,_,_,h=>by simp at h
 | d::cs,o,0,c,fps,h,hc=>by
  unfold zbo at h;obtain⟨v,f1,f2,h1,rfl,h2,h3⟩:=h;simp only[List.getElem?_cons_zero,Qf]at hc;subst hc;refine⟨[],f1,f2,v,rfl,h1,h2,fun w' c' f' hk ho=>?_⟩;show zbo w' cells o (c'::cs) (f'++f2)
  unfold zbo;exact⟨v,f',f2,h1,rfl,ho,zbo.keep cells _ cs f2 h3 fun b hb=>hk b (Or.inr hb)⟩
 | d::cs,o,j+1,c,fps,h,hc=>by
  unfold zbo at h;obtain⟨v,f1,f2,h1,rfl,h2,h3⟩:=h;obtain⟨g1,g,g2,u,rfl,k1,k2,k3⟩:=zbo.cell h3 (by simpa using hc);refine⟨f1++g1,g,g2,u,by simp,by rw[<-k1];congr 1;omega,k2,fun w' c' f' hk ho=>?_⟩;show zbo w' cells o (d::cs.set j c') _
  unfold zbo;exact⟨v,f1,g1++(f'++g2),h1,by simp,za3.keep d v f1 h2 fun b hb=>hk b (Or.inl (by simp[hb])),k3 w' c' f' (fun b hb=>hk b (by rcases hb with hb|hb<;>simp[hb])) ho⟩
theorem zao.cell {w:World}{cells:Array Value}{sz:Nat}:∀{rows:List (List T)}{o i j:Nat}{r:List T}{c:T}{fps:List Nat},zao w cells o sz rows fps->rows[i]?=some r->r[j]?=some c →
  ∃f1 f f2 v,fps=f1++(f++f2)/\cells[o+i*sz+j]?=some v/\za3 w c v f/\∀(w':World) (c':T) (f':List Nat),(∀b,b∈f1\/b∈f2->w'.heap[b]?=w.heap[b]?)->za3 w' c' v f'->zao w' cells o sz (rows.set i (r.set j c')) (f1++(f'++f2))
 | [],_,_,_,_,_,_,_,h,_=>by simp at h
 | d::rows,o,0,j,r,c,fps,h,hr,hc=>by
  unfold zao at h;obtain⟨h1,f1,f2,rfl,h2,h3⟩:=h;simp only[List.getElem?_cons_zero,Qf]at hr;subst hr;obtain⟨g1,g,g2,u,rfl,k1,k2,k3⟩:=zbo.cell h2 hc;refine⟨g1,g,g2++f2,u,by simp,by simpa using k1,k2,fun w' c' f' hk ho=>?_⟩;show zao w' cells o sz (d.set j c'::rows) _
  unfold zao;exact⟨by simp[h1],g1++(f'++g2),f2,by simp,k3 w' c' f' (fun b hb=>hk b (by rcases hb with hb|hb<;>simp[hb])) ho,zao.keep cells _ sz rows f2 h3 fun b hb=>hk b (by simp[hb])⟩
 | d::rows,o,i+1,j,r,c,fps,h,hr,hc=>by
  unfold zao at h;obtain⟨h1,f1,f2,rfl,h2,h3⟩:=h;obtain⟨g1,g,g2,u,rfl,k1,k2,k3⟩:=zao.cell h3 (by simpa using hr) hc;refine⟨f1++g1,g,g2,u,by simp,by rw[<-k1];congr 1;rw[Kl];omega,k2,fun w' c' f' hk ho=>?_⟩;show zao w' cells o sz (d::rows.set i (r.set j c')) _
  unfold zao;exact⟨h1,f1,g1++(f'++g2),by simp,zbo.keep cells o d f1 h2 fun b hb=>hk b (Or.inl (by simp[hb])),k3 w' c' f' (fun b hb=>hk b (by rcases hb with hb|hb<;>simp[hb])) ho⟩
def onN (x:Option Ev)(i j:Nat)(v:Value)(t:T):Prop:=zav x fun y=>y.on=true/\y.deep=true/\y.rows[i]?.isSome=true/\(y.rows.getD i [])[j]?=some (.pin v t)
attribute [go_sem] onN
end
section
open Go.RowKit
variable {P:Program}
abbrev Sr:=Nat×Option (Nat×Nat)
def okQ:Option (Nat×Nat)->Option (Nat×Nat)->Bool
 | some a,some b=>!(a.1==b.1&&a.2==b.2)
 | _,_=>false
def okS:List Sr->Sr->Bool
 | [],_=>true
 | (e,p)::u,(e',p')=>(if e=e' then okQ p p' else true)&&okS u (e',p')
def owU (x:Option Ev)(sz:Nat)(rows:List (List T))(g:Nat):Prop:=zav x fun y=>y.deep=true/\y.sz=sz/\(y.rows=rows\/zg5 y.rows=rows)/\y.gen=g/\y.on=true
def gvT (σ:St)(K:List Sr->List (Nat×Nat×Nat)->Prop)(u:List Sr)(ps:List (Nat×Nat×Nat))(x t:T):Prop:=match x,ps with
 | .pin v y,(e,i,j)::ps=>y=t/\okS u (e,some (i,j))=true/\onN (σ.ev e) i j v t/\K ((e,some (i,j))::u) ps
 | x,ps=>x=t/\t.flat=true/\K u ps
theorem qjr {σ:St}{K K':List Sr->List (Nat×Nat×Nat)->Prop}(hK:∀u ps,K u ps->K' u ps){u:List Sr}{ps:List (Nat×Nat×Nat)}{x t:T}(h:gvT σ K u ps x t):gvT σ K' u ps x t:=by
 unfold gvT at h⊢
 split at h
 ·exact⟨h.1,h.2.1,h.2.2.1,hK _ _ h.2.2.2⟩
 ·exact⟨h.1,h.2.1,hK _ _ h.2.2⟩
def gvK (σ:St)(K:List Sr->List (Nat×Nat×Nat)->Prop):List Sr->List (Nat×Nat×Nat)->List C->List T->Prop
 | u,ps,[],[]=>K u ps
 | u,ps,.t x::cs,t::ts=>gvT σ (fun u ps=>gvK σ K u ps cs ts) u ps x t
 | u,ps,.nl _::cs,.sl _ rows::ts=>rows=[]/\gvK σ K u ps cs ts
 | u,ps,.ow e g::cs,.sl sz rows::ts=>okS u (e,none)=true/\owU (σ.ev e) sz rows g/\gvK σ K ((e,none)::u) ps cs ts
 | u,(e,i,j)::ps,.cv v::cs,t::ts=>okS u (e,some (i,j))=true/\onN (σ.ev e) i j v t/\gvK σ K ((e,some (i,j))::u) ps cs ts
 | _,_,_,_=>False
def rdC:C->T->Prop
 | .t x,y=>x=y/\T.nm y=true
 | .fn f [],.fn g []=>f=g
 | .rn x,y=>x=y
 | .er cs o,.ptr cs'=>o=0/\cs=cs'
 | .nl _,.sl _ rows=>rows=[]
 | _,_=>False
def rdCs:List C->List T->Prop
 | [],[]=>True
 | c::cs,t::ts=>rdC c t/\rdCs cs ts
 | _,_=>False
def rdV:V->D->Prop
 | .one c,.one t=>rdC c t
 | .agg cs,.agg ts=>rdCs cs ts
 | _,_=>False
def gvA (σ:St)(K:List Sr->Prop):List Sr->List (Nat×Nat×Nat)->List V->List (Bool×D)->Prop
 | u,_,[],[]=>K u
 | u,ps,v::vs,(false,d)::ds=>rdV v d/\gvA σ K u ps vs ds
 | u,ps,.one c::vs,(true,.one t)::ds=>gvK σ (fun u ps=>gvA σ K u ps vs ds) u ps [c] [t]
 | u,ps,.agg cs::vs,(true,.agg ts)::ds=>gvK σ (fun u ps=>gvA σ K u ps vs ds) u ps cs ts
 | _,_,_,_=>False
theorem zgl {σ:St}{K K':List Sr->List (Nat×Nat×Nat)->Prop}(hK:∀u ps,K u ps->K' u ps):∀{cs:List C}{ts:List T}{u:List Sr}{ps:List (Nat×Nat×Nat)},gvK σ K u ps cs ts->gvK σ K' u ps cs ts
 | [],[],_,_,h=>hK _ _ h
 | [],_::_,_,_,h=>by cases h
 | c::cs,[],u,ps,h=>by cases c<;>first|exact(show False from h).elim|(cases ps<;>exact(show False from h).elim)
 | c::cs,t::ts,u,ps,h=>by
  unfold gvK at h⊢;split at h
  ·rename_i e1 e2;cases e1
  ·rename_i e1 e2;cases e1;cases e2;exact qjr (fun u ps h=>zgl hK h) h
  ·rename_i e1 e2;cases e1;cases e2;exact⟨h.1,zgl hK h.2⟩
  ·rename_i e1 e2;cases e1;cases e2;exact⟨h.1,h.2.1,zgl hK h.2.2⟩
  ·rename_i e1 e2;cases e1;cases e2;exact⟨h.1,h.2.1,zgl hK h.2.2⟩
  ·exact h.elim
theorem zgq {σ:St}{K K':List Sr->Prop}(hK:∀u,K u->K' u):∀{xs:List V}{ds:List (Bool×D)}{u:List Sr}{ps:List (Nat×Nat×Nat)},gvA σ K u ps xs ds->gvA σ K' u ps xs ds
 | [],[],_,_,h=>hK _ h
 | [],_::_,_,_,h=>h.elim
 | x::xs,[],_,_,h=>by cases x<;>exact h.elim
 | x::xs,(false,d)::ds,_,_,h=>by unfold gvA at h⊢;exact⟨h.1,zgq hK h.2⟩
 | .one c::xs,(true,.one t)::ds,_,_,h=>by unfold gvA at h⊢;exact zgl (fun u ps hu=>zgq hK hu) h
 | .agg cs::xs,(true,.agg ts)::ds,_,_,h=>by unfold gvA at h⊢;exact zgl (fun u ps hu=>zgq hK hu) h
 | .one _::_,(true,.agg _)::_,_,_,h=>h.elim
 | .agg _::_,(true,.one _)::_,_,_,h=>h.elim
 | .tup _::_,(true,d)::_,_,_,h=>by cases d<;>exact h.elim
theorem za7.fam {w:World}:∀{cs:List T}{vs:List Value}{fps:List Nat},za7 w cs vs fps->∃F:Nat->List Nat,(∀k c,cs[k]?=some c->∃v,vs[k]?=some v/\za3 w c v (F k))/\(∀k b,b∈F k->b∈fps)/\(fps.Nodup->(∀k,(F k).Nodup)/\∀k k',k≠k'->∀b∈F k,b∉F k')
 | [],vs,fps,h=>⟨fun _=>[],fun k c hc=>by simp at hc,by simp,fun _=>⟨by simp,by simp⟩⟩
 | c::cs,_,_,h=>by
  obtain⟨v,vs',f1,f2,rfl,rfl,h1,h2⟩:=h;obtain⟨F,k1,k2,k3⟩:=za7.fam h2;refine⟨fun k=>match k with|0=>f1|k+1=>F k,fun k c' hc=>?_,fun k b hb=>?_,fun hn=>?_⟩
  ·cases k with
   | zero=>simp only[List.getElem?_cons_zero,Qf]at hc;subst hc;exact⟨v,rfl,h1⟩
   | succ k=>exact k1 k c' (by simpa using hc)
  ·cases k with
   | zero=>exact J7 _ hb
   | succ k=>exact Jx _ (k2 k b hb)
  ·obtain⟨n1,n2,n3⟩:=Ka.1 hn;obtain⟨m1,m2⟩:=k3 n2;refine⟨fun k=>?_,fun k k' hne b hb hb'=>?_⟩
   ·cases k with
    | zero=>exact n1
    | succ k=>exact m1 k
   ·cases k with
    | zero =>
     cases k' with
     | zero=>exact hne rfl
     | succ k'=>exact n3 b hb b (k2 k' b hb') rfl
    | succ k =>
     cases k' with
     | zero=>exact n3 b hb' b (k2 k b hb) rfl
     | succ k'=>exact m2 k k' Yt b hb hb'
theorem qd2 {sz:Nat}:∀{rows:List (List T)}{i j:Nat}{r:List T}{c:T},lens sz rows->rows[i]?=some r->r[j]?=some c->rows.flatten[i*sz+j]?=some c
 | [],_,_,_,_,_,h,_=>by simp at h
 | d::rows,0,j,r,c,hl,hr,hc=>by
  simp only[List.getElem?_cons_zero,Qf]at hr;subst hr;have hj:j<d.length:=by
   rcases Nat.lt_or_ge j d.length with h|h
   ·exact h
   ·rw[List.getElem?_eq_none h]at hc;cases hc
  rw[Q4,List.getElem?_append_left Yt];simpa using hc
 | d::rows,i+1,j,r,c,hl,hr,hc=>by
  have hd:d.length=sz:=hl d (by simp);have:=qd2 (sz:=sz) (rows:=rows) (fun r hr=>hl r (by simp[hr])) (by simpa using hr) hc;rw[Q4,List.getElem?_append_right (by rw[hd,Kl];omega)]
  rwa [show(i+1)*sz+j-d.length=i*sz+j by rw[hd,Kl];omega]
structure Fam (w:World)(σ:St)(g:Gh)(B:Sr->List Nat):Prop where
 whole:∀e,B (e,none)=g.φ e
 cell:∀e i j v t,onN (σ.ev e) i j v t->za3 w t v (B (e,some (i,j)))
 sub:∀e p b,σ.On e->b∈B (e,p)->b∈g.φ e
 nodup:∀e p,σ.On e->(B (e,p)).Nodup
 apart:∀e p p',σ.On e->p≠p'->∀b∈B (e,some p),b∉B (e,some p')
theorem Rel.fam {n0:Nat->Prop}{N:Nat}{σ:St}{g:Gh}{a:Act}{w:World}(hR:Rel n0 N σ g a w):∃B,Fam w σ g B:=by
 have h1:∀e,∃F:Nat×Nat->List Nat,∀dp sz rows gn,σ.ev e=some ⟨dp,sz,rows,gn,true⟩->((dp=true->∀i j v t,rows[i]?.isSome=true->(rows.getD i [])[j]?=some (.pin v t)->za3 w t v (F (i,j)))/\(∀p b,b∈F p->b∈g.φ e)/\(∀p,(F p).Nodup)/\∀p p',p≠p'->∀b∈F p,b∉F p'):=by
  intro e;by_cases hon:∃sz rows gn,σ.ev e=some ⟨true,sz,rows,gn,true⟩
  ·obtain⟨sz,rows,gn,he⟩:=hon;have hnd:=hR.nodup e ⟨_,he,rfl⟩;obtain⟨ao,cap,vs,k1,k2,k3,k4,k5,k6,k7⟩:=hR.vals he rfl;rcases k7 with⟨_,_,k7,k8⟩|⟨b,cells,ty,fps,k7,k8,k9,k10,k11,k12,k13⟩
   ·refine⟨fun _=>[],fun dp sz' rows' gn' he'=>?_⟩;rw[he,Qf]at he';cases he';have k7:rows=[]:=k7;subst k7;exact⟨fun _ i j v t h=>by simp at h,by simp,by simp,by simp⟩
   ·obtain⟨F,f1,f2,f3⟩:=(k12 rfl).fam;rw[k8]at hnd;obtain⟨m1,m2⟩:=f3 (Ja.1 hnd).2;refine⟨fun p=>if p.2<sz/\p.1<rows.length then F (p.1*sz+p.2)else [],fun dp sz' rows' gn' he'=>?_⟩;rw[he,Qf]at he';cases he';refine⟨fun _ i j v t h1 h2=>?_,fun p b hb=>?_,fun p=>?_,fun p p' hne b hb hb'=>?_⟩
    ·obtain⟨r,hr⟩:=Jy.1 h1;have hg:rows.getD i []=r:=by rw[List.getD_eq_getElem?_getD,hr];rfl
     rw[hg]at h2;have hj:j<sz:=by
      have:r.length=sz:=k4 r (List.mem_of_getElem? hr);rcases Nat.lt_or_ge j r.length with h|h
      ·omega
      ·rw[List.getElem?_eq_none h]at h2;cases h2
     have hi:i<rows.length:=(List.getElem?_eq_some_iff.1 hr).1;obtain⟨u,_,hu⟩:=f1 _ _ (qd2 k4 hr h2);show za3 w t v (if j<sz/\i<rows.length then F (i*sz+j)else [])
     rw[if_pos ⟨hj,hi⟩];unfold za3 at hu;obtain⟨rfl,hu⟩:=hu;exact hu
    ·by_cases hp:p.2<sz/\p.1<rows.length
     ·simp only[if_pos hp]at hb;rw[k8];exact Jo _ (f2 _ _ hb)
     ·simp only[if_neg hp]at hb;simp at hb
    ·by_cases hp:p.2<sz/\p.1<rows.length
     ·simp only[if_pos hp];exact m1 _
     ·simp only[if_neg hp];simp
    ·by_cases hp:p.2<sz/\p.1<rows.length
     ·by_cases hp':p'.2<sz/\p'.1<rows.length
      ·simp only[if_pos hp,if_pos hp']at hb hb';refine m2 _ _ (fun heq=>hne ?_) b hb hb';obtain⟨i,j⟩:=p;obtain⟨i',j'⟩:=p';simp only at hp hp' heq;have hii:i=i':=by
        rcases Nat.lt_trichotomy i i' with h|h|h
        ·have:=Jc sz (show i+1<=i' by omega);rw[Kl]at this;omega
        ·exact h
        ·have:=Jc sz (show i'+1<=i by omega);rw[Kl]at this;omega
       subst hii;have:j=j':=by omega
       subst this;rfl
      ·simp only[if_neg hp']at hb';simp at hb'
     ·simp only[if_neg hp]at hb;simp at hb
  ·refine⟨fun _=>[],fun dp sz rows gn he=>⟨fun hd=>?_,by simp,by simp,by simp⟩⟩;subst hd;exact absurd ⟨sz,rows,gn,he⟩ hon
 refine⟨fun s=>match s.2 with|none=>g.φ s.1|some p=>Classical.choose (h1 s.1) p,⟨fun e=>rfl,fun e i j v t ho=>?_,fun e p b ho hb=>?_,fun e p ho=>?_,fun e p p' ho hne b hb=>?_⟩⟩
 ·obtain⟨⟨dp,sz,rows,gn,on⟩,he,h2,h3,h4,h5⟩:=zar ho;simp only at h2 h3;subst h2 h3;exact(Classical.choose_spec (h1 e) true sz rows gn he).1 rfl i j v t h4 h5
 ·cases p with
  | none=>exact hb
  | some p =>
   obtain⟨⟨dp,sz,rows,gn,on⟩,he,ho⟩:=ho;simp only at ho;subst ho;exact(Classical.choose_spec (h1 e) dp sz rows gn he).2.1 p b hb
 ·cases p with
  | none=>exact hR.nodup e ho
  | some p =>
   obtain⟨⟨dp,sz,rows,gn,on⟩,he,ho⟩:=ho;simp only at ho;subst ho;exact(Classical.choose_spec (h1 e) dp sz rows gn he).2.2.1 p
 ·obtain⟨⟨dp,sz,rows,gn,on⟩,he,ho⟩:=ho;simp only at ho;subst ho;exact(Classical.choose_spec (h1 e) dp sz rows gn he).2.2.2 p p' hne b hb
def bks (B:Sr->List Nat)(u:List Sr):List Nat:=u.flatMap B
def okP (s s':Sr):Prop:=s.1≠s'.1\/(s.2≠none/\s'.2≠none/\s.2≠s'.2)
theorem okP.symm {s s':Sr}(h:okP s s'):okP s' s:=h.imp (fun h=>Ne.symm h) fun h=>⟨h.2.1,h.1,Ne.symm h.2.2⟩
theorem zub:∀{u:List Sr}{s:Sr},okS u s=true->∀x∈u,okP s x
 | [],_,_,x,hx=>by simp at hx
 | (e,p)::u,(e',p'),h,x,hx=>by
  unfold okS at h;rw[Qc]at h;rcases Qu.1 hx with rfl|hx
  ·have h1:=h.1;by_cases he:e=e'
   ·rw[if_pos he]at h1;right;unfold okQ at h1;split at h1
    ·rename_i a b;refine⟨by simp,by simp,fun e=>?_⟩;simp only[Qf]at e;subst e;simp at h1
    ·cases h1
   ·left;exact Ne.symm he
  ·exact zub h.2 x hx
theorem zd2 {n0:Nat->Prop}{N:Nat}{σ:St}{g:Gh}{a:Act}{w:World}(hR:Rel n0 N σ g a w){B:Sr->List Nat}(hB:Fam w σ g B):∀{s:List Sr},(∀x∈s,σ.On x.1)->s.Pairwise okP->(bks B s).Nodup
 | [],_,_=>Kf
 | x::s,ho,hp=>by
  obtain⟨p1,p2⟩:=J5.1 hp;unfold bks;rw[Ji];refine Ka.2 ⟨hB.nodup x.1 x.2 (ho x (by simp)),zd2 hR hB (fun y hy=>ho y (by simp[hy])) p2,fun b hb b' hb' hbb=>?_⟩;subst hbb;obtain⟨y,hy,hb'⟩:=Jt.1 hb';obtain⟨e,p⟩:=x;obtain⟨e',p'⟩:=y;have o1:=ho (e,p) (by simp);have o2:=ho (e',p') (by simp[hy]);rcases p1 (e',p') hy with h|⟨h1,h2,h3⟩
  ·exact hR.apart e e' o1 o2 h b (hB.sub e p b o1 hb) (hB.sub e' p' b o2 hb')
  ·by_cases hee:e=e'
   ·subst hee;cases p with
    | none=>exact h1 rfl
    | some p =>
     cases p' with
     | none=>exact h2 rfl
     | some p'=>exact hB.apart e p p' o1 (fun h=>h3 (by rw[h])) b hb hb'
   ·exact hR.apart e e' o1 o2 hee b (hB.sub e p b o1 hb) (hB.sub e' p' b o2 hb')
theorem qj8 {σ:St}{e i j:Nat}{v:Value}{t:T}(h:onN (σ.ev e) i j v t):σ.On e:=by
 obtain⟨x,hx,h2,_⟩:=zar h
 exact⟨x,hx,h2⟩
section
variable {n0:Nat->Prop}{N:Nat}{σ:St}{g:Gh}{a:Act}{w:World}(hR:Rel n0 N σ g a w){B:Sr->List Nat}(hB:Fam w σ g B)
include hR hB
theorem zdb {K:List Sr->List (Nat×Nat×Nat)->Prop}:∀{cs:List C}{ts:List T}{u:List Sr}{ps:List (Nat×Nat×Nat)}{vs:List Value},gvK σ K u ps cs ts->CRs σ g w cs vs →
  ∃s ps' tp,K (s.reverse++u) ps'/\zyi w ts vs (bks B s) tp/\(∀x∈s,σ.On x.1)/\(u.Pairwise okP->(s.reverse++u).Pairwise okP)
 | [],[],u,ps,vs,h,hv=>⟨[],ps,[],h,⟨hv,rfl,rfl⟩,by simp,fun h=>h⟩
 | [],_::_,_,_,_,h,_=>by cases h
 | c::cs,[],u,ps,vs,h,hv=>by cases c<;>first|exact(show False from h).elim|(cases ps<;>exact(show False from h).elim)
 | c::cs,t::ts,u,ps,vs,h,hv=>by
  obtain⟨v,vs',rfl,h1,h2⟩:=hv;unfold gvK at h;split at h
  ·rename_i e1 e2;cases e1
  ·rename_i x cs' t' ts' e1 e2;cases e1;cases e2;unfold gvT at h;split at h
   ·rename_i v0 y e i j ps0;obtain⟨rfl,hok,he,h⟩:=h;obtain⟨s,ps',tp,k1,k2,k3,k4⟩:=zdb h h2;unfold CR zas at h1;obtain⟨rfl,_⟩:=h1;have ho:=hB.cell e i j v y he;refine⟨(e,some (i,j))::s,ps',zj3 y (B (e,some (i,j)))++tp,by simpa using k1,⟨v,vs',_,bks B s,tp,rfl,by unfold bks;rw[Ji],rfl,ho,k2⟩,fun x hx=>?_,fun hu=>?_⟩
    ·rcases Qu.1 hx with rfl|hx
     ·exact qj8 he
     ·exact k3 x hx
    ·have:=k4 (J5.2 ⟨zub hok,hu⟩);simpa using this
   obtain⟨rfl,hf,h⟩:=h;obtain⟨s,ps',tp,k1,k2,k3,k4⟩:=zdb h h2;have ho:za3 w x v []:=by
    cases x<;>simp only[T.flat,Qn]at hf<;>simp only[CR,zas]at h1<;>unfold za3
    ·exact⟨h1.1,h1.2.1,h1.2.2,rfl⟩
    ·exact⟨h1,rfl⟩
    ·exact⟨h1.1,h1.2,rfl⟩
    ·exact⟨h1,rfl⟩
   exact⟨s,ps',zj3 x []++tp,k1,⟨v,vs',[],_,tp,rfl,rfl,rfl,ho,k2⟩,k3,k4⟩
  ·rename_i z cs' sz rows ts' e1 e2;cases e1;cases e2;obtain⟨rfl,h⟩:=h;obtain⟨s,ps',tp,k1,k2,k3,k4⟩:=zdb h h2;have ho:za3 w (.sl sz []) v []:=by
    unfold za3;exact⟨none,0,h1,by simp,by simp,Or.inl ⟨rfl,rfl,rfl,rfl⟩⟩
   exact⟨s,ps',zj3 (.sl sz []) []++tp,k1,⟨v,vs',[],_,tp,rfl,rfl,rfl,ho,k2⟩,k3,k4⟩
  ·rename_i e gn cs' sz rows ts' e1 e2;cases e1;cases e2;obtain⟨hok,he,h⟩:=h;obtain⟨s,ps',tp,k1,k2,k3,k4⟩:=zdb h h2;have hou:=he;obtain⟨⟨dp,sz0,rows0,gn0,on0⟩,hev,rfl,rfl,hrows,rfl,rfl⟩:=zar hou;have ho:za3 w (.sl sz0 rows) (g.ψ e gn0) (g.φ e):=by
    rcases hrows with rfl|rfl
    ·exact zeb hR hev
    ·exact(zeb hR hev).unpins
   have h1:v=g.ψ e gn0/\_:=h1;rw[<-h1.1]at ho;refine⟨(e,none)::s,ps',zj3 (.sl _ _) (g.φ e)++tp,by simpa using k1,⟨v,vs',g.φ e,bks B s,tp,rfl,by unfold bks;rw[Ji,hB.whole],rfl,ho,k2⟩,fun x hx=>?_,fun hu=>?_⟩
   ·rcases Qu.1 hx with rfl|hx
    ·exact⟨_,hev,rfl⟩
    ·exact k3 x hx
   ·have:=k4 (J5.2 ⟨zub hok,hu⟩);simpa using this
  ·rename_i e i j ps0 v0 cs' t' ts' e1 e2;cases e1;cases e2;obtain⟨hok,he,h⟩:=h;obtain⟨s,ps',tp,k1,k2,k3,k4⟩:=zdb h h2;have h1:v=v0:=h1;subst h1;have ho:=hB.cell e i j v t he;refine⟨(e,some (i,j))::s,ps',zj3 t (B (e,some (i,j)))++tp,by simpa using k1,⟨v,vs',_,bks B s,tp,rfl,by unfold bks;rw[Ji],rfl,ho,k2⟩,fun x hx=>?_,fun hu=>?_⟩
   ·rcases Qu.1 hx with rfl|hx
    ·exact qj8 he
    ·exact k3 x hx
   ·have:=k4 (J5.2 ⟨zub hok,hu⟩);simpa using this
  ·exact h.elim
omit hB in
theorem zzn {FP:List Nat}(hFP:∀b∈FP,∃e,σ.On e/\b∈g.φ e){c:C}{t:T}{v:Value}(h:rdC c t)(hv:CR σ g w c v):zas w (fun b=>b<w.heap.size/\b∉FP) t v:=by
 unfold rdC at h
 split at h
 ·rename_i x;obtain⟨rfl,hn⟩:=h;exact zk9 (σ:=σ) (g:=g) (x:=.one (.t x)) (d:=.one x) ⟨rfl,hn⟩ hv _
 ·rename_i f f';subst h;exact zk9 (σ:=σ) (g:=g) (x:=.one (.fn f [])) (d:=.one (.fn f [])) rfl hv _
 ·subst h;refine zas.keep (fun _ _=>rfl) (fun b hb=>⟨hb.1.2.2.1,fun hm=>?_⟩) _ v hv;obtain⟨e,ho,hm⟩:=hFP b hm;exact hb.2 e ho hm
 ·obtain⟨rfl,rfl⟩:=h;obtain⟨b,q,h1,h2,h3⟩:=hv;have hk:∀b,zb6 σ g w b->b<w.heap.size/\b∉FP:=fun b hb=>⟨hb.1.2.2.1,fun hm=>by obtain⟨e,ho,hm⟩:=hFP b hm;exact hb.2 e ho hm⟩;unfold zas;exact⟨b,q,h1,hk b h2,zbj.keep (fun _ _=>rfl) hk b rfl q _ h3⟩
 ·subst h;rw[show v=.slice none 0 0 from hv];unfold zas;exact⟨none,0,rfl,by simp,by simp,Or.inl rfl⟩
 ·exact h.elim
omit hB in
theorem zt4 {FP:List Nat}(hFP:∀b∈FP,∃e,σ.On e/\b∈g.φ e):∀{cs:List C}{ts:List T}{vs:List Value},rdCs cs ts->CRs σ g w cs vs->zah w (fun b=>b<w.heap.size/\b∉FP) ts vs
 | [],[],vs,_,hv=>by unfold zah;exact hv
 | [],_::_,_,h,_=>h.elim
 | _::_,[],_,h,_=>h.elim
 | c::cs,t::ts,vs,h,hv=>by
  obtain⟨v,vs',rfl,h1,h2⟩:=hv;unfold zah;exact⟨v,vs',rfl,zzn hR hFP h.1 h1,zt4 hFP h.2 h2⟩
theorem zf7 {K:List Sr->Prop}:∀{xs:List V}{ds:List (Bool×D)}{u:List Sr}{ps:List (Nat×Nat×Nat)}{vs:List Value},gvA σ K u ps xs ds->VRl σ g w xs vs →
  ∃s,K (s.reverse++u)/\(∀FP:List Nat,(∀b∈FP,∃e,σ.On e/\b∈g.φ e)->∃tp,za0 w (fun b=>b<w.heap.size/\b∉FP) ds vs (bks B s) tp)/\(∀x∈s,σ.On x.1)/\(u.Pairwise okP->(s.reverse++u).Pairwise okP)
 | [],[],u,ps,vs,h,hv=>⟨[],h,fun _ _=>⟨[],hv,rfl,rfl⟩,by simp,fun h=>h⟩
 | [],_::_,_,_,_,h,_=>h.elim
 | x::xs,[],_,_,_,h,_=>by cases x<;>exact h.elim
 | x::xs,(false,d)::ds,u,ps,vs,h,hv=>by
  obtain⟨v,vs',rfl,h1,h2⟩:=hv;unfold gvA at h;obtain⟨hr,h⟩:=h;obtain⟨s,k1,k2,k3,k4⟩:=zf7 h h2;refine⟨s,k1,fun FP hFP=>?_,k3,k4⟩;obtain⟨tp,k2⟩:=k2 FP hFP;refine⟨tp,v,vs',rfl,?_,k2⟩;unfold rdV at hr;split at hr
  ·exact zzn hR hFP hr h1
  ·obtain⟨b,e,h1⟩:=h1;exact⟨b,e,zt4 hR hFP hr h1⟩
  ·exact hr.elim
 | .one c::xs,(true,.one t)::ds,u,ps,vs,h,hv=>by
  obtain⟨v,vs',rfl,h1,h2⟩:=hv;unfold gvA at h;obtain⟨s,ps',tp,k1,k2,k3,k4⟩:=zdb hR hB h (vs:=[v]) ⟨v,[],rfl,h1,rfl⟩;obtain⟨s',j1,j2,j3,j4⟩:=zf7 k1 h2;obtain⟨v0,vs0,f1,f2,t2,e0,e1,rfl,q1,q2⟩:=k2;cases e0;obtain⟨_,rfl,rfl⟩:=q2;rw[Kj]at e1;refine⟨s++s',by simpa using j1,fun FP hFP=>?_,fun x hx=>?_,fun hu=>by simpa using j4 (k4 hu)⟩
  ·obtain⟨tp',j2⟩:=j2 FP hFP;exact⟨zj3 t f1++tp',v,vs',bks B s,bks B s',_,tp',rfl,by unfold bks;rw[List.flatMap_append],rfl,⟨by rw[e1];exact q1,by rw[e1]⟩,j2⟩
  ·rcases Qv.1 hx with hx|hx
   ·exact k3 x hx
   ·exact j3 x hx
 | .agg cs::xs,(true,.agg ts)::ds,u,ps,vs,h,hv=>by
  obtain⟨v,vs',rfl,⟨y,rfl,h1⟩,h2⟩:=hv;unfold gvA at h;obtain⟨s,ps',tp,k1,k2,k3,k4⟩:=zdb hR hB h h1;obtain⟨s',j1,j2,j3,j4⟩:=zf7 k1 h2;refine⟨s++s',by simpa using j1,fun FP hFP=>?_,fun x hx=>?_,fun hu=>by simpa using j4 (k4 hu)⟩
  ·obtain⟨tp',j2⟩:=j2 FP hFP;exact⟨tp++tp',_,vs',bks B s,bks B s',tp,tp',rfl,by unfold bks;rw[List.flatMap_append],rfl,⟨y,rfl,k2⟩,j2⟩
  ·rcases Qv.1 hx with hx|hx
   ·exact k3 x hx
   ·exact j3 x hx
 | .one _::_,(true,.agg _)::_,_,_,_,h,_=>h.elim
 | .agg _::_,(true,.one _)::_,_,_,_,h,_=>h.elim
 | .tup _::_,(true,d)::_,_,_,_,h,_=>by cases d<;>exact h.elim
end
end
section
open Go.RowKit
variable {P:Program}
def C.okU (τ:St):C->Prop
 | .t x=>x.flat=true
 | .nl _=>True
 | .ow e g=>zav (τ.ev e) fun x=>g<=x.gen
 | .bx b _=>τ.bx b≠none
 | .el _ _=>False
 | .er _ _=>True
 | .eo e s _ _ _=>zav (τ.ev e) fun x=>s<=x.gen
 | .vw e s _ _=>zav (τ.ev e) fun x=>s<=x.gen
 | .fn _ caps=>zwz τ caps
 | .cv _=>True
 | .any=>True
 | .rn _=>True
def qf2 (τ:St):List C->Prop
 | []=>True
 | c::cs=>c.okU τ/\qf2 τ cs
def okUt (τ:St):List (Bool×List C)->Prop
 | []=>True
 | x::xs=>qf2 τ x.2/\okUt τ xs
def V.okU (τ:St):V->Prop
 | .one c=>c.okU τ
 | .agg cs=>qf2 τ cs
 | .tup xs=>okUt τ xs
structure Kept (σ τ:St):Prop where
 sl:∀i,τ.sl i=.one .any\/(τ.sl i=σ.sl i/\(τ.sl i).okU τ)
 bx:∀b cs,τ.bx b=some cs->σ.bx b=some cs/\qf2 τ cs
 ev:∀e x,τ.ev e=some x->σ.ev e=some x/\x.on=true/\x.deep=true
section
variable {σ τ:St}{g g':Gh}{w w':World}{ev':Nat->Option Ev}(hβ:g'.β=g.β)(hψ:∀e,τ.ev e≠none->ev' e=τ.ev e/\g'.ψ e=g.ψ e)(hrn:∀b,zb6 σ g w b->w'.heap[b]?=w.heap[b]?/\zb6 ⟨τ.sl,τ.bx,ev'⟩ g' w' b)
include hβ hψ hrn
theorem zzd {c:C}{v:Value}(hc:c.okU τ)(h:CR σ g w c v):CR ⟨τ.sl,τ.bx,ev'⟩ g' w' c v:=by
 have hh:∀{e n:Nat},zav (τ.ev e) (fun x=>n<=x.gen)->g'.ψ e=g.ψ e/\St.has ⟨τ.sl,τ.bx,ev'⟩ e n:=fun {e n} ho=>by
  obtain⟨x,hx,hn⟩:=zar ho;obtain⟨k1,k2⟩:=hψ e (by rw[hx];simp);exact⟨k2,x,k1.trans hx,hn⟩
 cases c with
 | t x=>exact zdy hc h
 | nl s=>exact h
 | ow e n=>obtain⟨k1,k2⟩:=hh hc;exact⟨by rw[k1];exact h.1,k2⟩
 | bx b o=>exact⟨by rw[hβ];exact h.1,hc⟩
 | el cs o=>exact hc.elim
 | eo e s sz i o=>obtain⟨k1,k2⟩:=hh hc;obtain⟨b,n,c,q1,q2,q3,q4⟩:=h;exact⟨b,n,c,by rw[k1];exact q1,q2,q3,k2⟩
 | vw e s sz i=>obtain⟨k1,k2⟩:=hh hc;obtain⟨b,n,c,q1,q2,q3,q4⟩:=h;exact⟨b,n,c,by rw[k1];exact q1,q2,q3,k2⟩
 | fn f caps=>exact⟨by rw[hβ];exact h.1,fun b hb=>zlg (show zwz τ caps from hc) b hb⟩
 | cv u=>exact h
 | any=>trivial
 | rn x=>exact zas.keep (fun b hb=>(hrn b hb).1) (fun b hb=>(hrn b hb).2) x v h
 | er cs o=>obtain⟨b,q,h1,h2,h3⟩:=h;exact⟨b,q,h1,(hrn b h2).2,zbj.keep (fun b hb=>(hrn b hb).1) (fun b hb=>(hrn b hb).2) b (hrn b h2).1 q cs h3⟩
theorem zka:∀{cs:List C}{vs:List Value},qf2 τ cs->CRs σ g w cs vs->CRs ⟨τ.sl,τ.bx,ev'⟩ g' w' cs vs
 | [],_,_,h=>h
 | c::cs,vs,hc,h=>by
  obtain⟨v,vs',rfl,h1,h2⟩:=h;exact⟨v,vs',rfl,zzd hβ hψ hrn hc.1 h1,zka hc.2 h2⟩
theorem qcu:∀{xs:List (Bool×List C)}{vs:List Value},okUt τ xs->CRt σ g w xs vs->CRt ⟨τ.sl,τ.bx,ev'⟩ g' w' xs vs
 | [],_,_,h=>h
 | x::xs,vs,hc,h=>by
  obtain⟨v,vs',rfl,h1,h2⟩:=h;refine⟨v,vs',rfl,?_,qcu hc.2 h2⟩;unfold CRx at h1⊢;split at h1
  ·rw[if_pos ‹_›];obtain⟨a,k1,k2⟩:=h1;exact⟨a,k1,zka hβ hψ hrn hc.1 k2⟩
  ·rw[if_neg ‹_›];obtain⟨c,k1,k2⟩:=h1;refine⟨c,k1,zzd hβ hψ hrn ?_ k2⟩;have:=hc.1;rw[k1]at this;exact this.1
theorem qkz {x:V}{v:Value}(hc:x.okU τ)(h:VR σ g w x v):VR ⟨τ.sl,τ.bx,ev'⟩ g' w' x v:=by
 cases x with
 | one c=>exact zzd hβ hψ hrn hc h
 | agg cs=>obtain⟨a,k1,k2⟩:=h;exact⟨a,k1,zka hβ hψ hrn hc k2⟩
 | tup xs=>obtain⟨a,k1,k2⟩:=h;exact⟨a,k1,qcu hβ hψ hrn hc k2⟩
end
theorem Rel.given {n0:Nat->Prop}{N:Nat}{σ τ:St}{g g':Gh}{a:Act}{w w':World}(hR:Rel n0 N σ g a w)(hn0:LtK n0 w)(hK:Kept σ τ){fp:List Nat}(hfp:∀b∈fp,∃e,σ.On e/\τ.ev e=none/\b∈g.φ e)(hbk:Bk (fun k=>k<w.heap.size/\k∉fp) w w')
  {ev':Nat->Option Ev} {F:List Nat} (hn:New τ g (fun b=>b∈fp\/w.heap.size<=b) w' ev' g' F):Rel n0 N ⟨τ.sl,τ.bx,ev'⟩ g' a w':=by
 have hOnσ:∀e,τ.On e->σ.On e:=fun e ⟨x,hx,ho⟩=>⟨x,(hK.ev e x hx).1,ho⟩
 have hlt:∀e,σ.On e->∀b∈g.φ e,b<w.heap.size:=fun e ⟨x,hx,ho⟩=>(hR.evs e x hx ho).lt
 have hbne:∀b,τ.bx b≠none->σ.bx b≠none:=fun b hb=>by
  obtain⟨cs,hcs⟩:=Kp.1 hb;rw[(hK.bx b cs hcs).1];simp
 have hfR:∀b∈fp,g.A0 b/\g.R0 b/\¬n0 b:=fun b hb=>by
  obtain⟨e,ho,_,hm⟩:=hfp b hb;obtain⟨k1,k2⟩:=hR.ebase e ho b hm;exact⟨k1,k2,hR.etop e ho b hm⟩
 have hNB:∀b,(b∈fp\/w.heap.size<=b)->g.A0 b/\g.R0 b/\¬n0 b:=fun b hb=>by
  rcases hb with hb|hb
  ·exact hfR b hb
  ·have hnn:=hn0.new hb;exact⟨(hR.anew b hnn).1,(hR.anew b hnn).2,hnn⟩
 have hβfp:∀b,τ.bx b≠none->¬(g.β b∈fp\/w.heap.size<=g.β b):=fun b hb h=>by
  rcases h with h|h
  ·obtain⟨e,ho,_,hm⟩:=hfp _ h;exact hR.ebx e b ho (hbne b hb) hm
  ·have:=hR.lt (hbne b hb);omega
 have hφfp:∀e,τ.On e->∀b∈g.φ e,¬(b∈fp\/w.heap.size<=b):=fun e ho b hb h=>by
  rcases h with h|h
  ·obtain⟨e',ho',hno,hm⟩:=hfp b h;refine hR.apart e e' (hOnσ e ho) ho' (fun hee=>?_) b hb hm;subst hee;obtain⟨x,hx,_⟩:=ho;rw[hx]at hno;cases hno
  ·have:=hlt e (hOnσ e ho) b hb;omega
 have hon:∀e,St.On ⟨τ.sl,τ.bx,ev'⟩ e->τ.ev e≠none->τ.On e:=fun e ⟨x,hx,ho⟩ hee=>⟨x,(hn.old e hee).1.symm.trans hx,ho⟩
 have hkeep:∀b,b<w.heap.size->b∉fp->w'.heap[b]?=w.heap[b]?:=fun b h1 h2=>hbk.block b ⟨h1,h2⟩
 have hrn:∀b,zb6 σ g w b->w'.heap[b]?=w.heap[b]?/\zb6 ⟨τ.sl,τ.bx,ev'⟩ g' w' b:=fun b hb=>by
  obtain⟨hf,hr⟩:=hb;have hnb:∀e,St.On ⟨τ.sl,τ.bx,ev'⟩ e->b∉g'.φ e:=fun e ho hm=>by
   by_cases hee:τ.ev e=none
   ·obtain⟨x,hx,_⟩:=ho;rcases((hn.new e x hee hx).2.2.1 b hm).1 with h|h
    ·obtain⟨e',ho',_,hm'⟩:=hfp b h;exact hr e' ho' hm'
    ·have:=hf.2.2.1;omega
   ·rw[(hn.old e hee).2.2]at hm;exact hr e (hOnσ e (hon e ho hee)) hm
  refine⟨hkeep b hf.2.2.1 (fun hm=>by obtain⟨e',ho',_,hm'⟩:=hfp b hm;exact hr e' ho' hm'),⟨fun k hk=>by rw[hn.β];exact hf.1 k (hbne k hk),fun e x hx hon' hh=>hnb e ⟨x,hx,hon'⟩ (List.mem_of_mem_head? hh),Jn hf.2.2.1 hbk.size,by rw[hn.A0];exact hf.2.2.2⟩,hnb⟩
 have hψ:∀e,τ.ev e≠none->ev' e=τ.ev e/\g'.ψ e=g.ψ e:=fun e he=>⟨(hn.old e he).1,(hn.old e he).2.1⟩
 refine⟨by rw[hR.defers],hR.size,by rw[hn.A0,hn.R0];exact hR.anew,fun i=>?_,fun b cs hb=>?_,fun b hb=>by rw[hn.β];exact hR.base b (hbne b hb),fun b b' h1 h2 h3=>by rw[hn.β]at h3;exact hR.inj b b' (hbne b h1) (hbne b' h2) h3,fun e x he ho=>?_,fun e x he ho=>?_,hn.slc,fun e he b hb=>?_,fun e he b hb=>?_,fun e he=>?_,fun e e' h1 h2 hne b hb1 hb2=>?_,fun e k he hk hm=>?_⟩
 ·rcases hK.sl i with h|⟨h,hok⟩
  ·rw[show(⟨τ.sl,τ.bx,ev'⟩:St).sl i=.one .any from h];trivial
  ·rw[hn.R0];show VR _ g' w' (τ.sl i) _
   have hs:=hR.slots i;rw[<-h]at hs;exact qkz hn.β hψ hrn hok hs
 ·obtain⟨hb1,hb2⟩:=hK.bx b cs hb;obtain⟨vs,ty,k1,k2⟩:=hR.boxes b cs hb1;have hne:τ.bx b≠none:=by rw[show τ.bx b=some cs from hb];simp
  have hnf:=hβfp b hne;exact⟨vs,ty,by rw[hn.β,hkeep _ (hR.lt (hbne b hne)) (fun h=>hnf (Or.inl h))];exact k1,zka hn.β hψ hrn hb2 k2⟩
 ·by_cases hee:τ.ev e=none
  ·obtain⟨⟨k1,_,k0⟩,k2,k3,k4⟩:=hn.new e x hee he;rw[k0];unfold za3 at k2;obtain⟨ao,cap,j1,j2,j3,j4⟩:=k2;refine⟨ao,cap,j1,j2,j3,?_⟩;rcases j4 with j4|⟨b,cells,ty,fps,j4,j5,j6,j7,j8⟩
   ·exact Or.inl j4
   ·exact Or.inr ⟨b,cells,ty,fps,j4,j5,j6,j7,by rw[if_pos k1];exact j8⟩
  ·obtain⟨o1,o2,o3⟩:=hn.old e hee;have hx:τ.ev e=some x:=o1.symm.trans he;obtain⟨k1,k2,k3⟩:=hK.ev e x hx;have hE:=hR.evs e x k1 k2;have hno:=hφfp e ⟨x,hx,k2⟩;have hl:=hlt e ⟨x,k1,k2⟩;have hkp:∀b∈g.φ e,w'.heap[b]?=w.heap[b]?:=fun b hb=>hkeep b (hl b hb) fun h=>hno b hb (Or.inl h);rw[o2,o3];obtain⟨ao,cap,r1,r2,r3,r4⟩:=hE;refine⟨ao,cap,r1,r2,r3,?_⟩;rcases r4 with r4|⟨b,cells,ty,fps,r4,r5,r6,r7,r8⟩
   ·exact Or.inl r4
   ·rw[if_pos k3]at r8;exact Or.inr ⟨b,cells,ty,fps,r4,r5,by rw[hkp b (by rw[r5];simp)];exact r6,r7,by rw[if_pos k3];exact zao.keep cells 0 x.sz x.rows fps r8 fun b' hb'=>hkp b' (by rw[r5];simp[hb'])⟩
 ·by_cases hee:τ.ev e=none
  ·rw[(hn.new e x hee he).1.2.1]at ho;cases ho
  ·have hx:τ.ev e=some x:=(hn.old e hee).1.symm.trans he;rw[(hK.ev e x hx).2.1]at ho;cases ho
 ·rw[hn.A0,hn.R0];by_cases hee:τ.ev e=none
  ·obtain⟨x,hx,_⟩:=he;have:=hNB b ((hn.new e x hee hx).2.2.1 b hb).1;exact⟨this.1,this.2.1⟩
  ·rw[(hn.old e hee).2.2]at hb;exact hR.ebase e (hOnσ e (hon e he hee)) b hb
 ·by_cases hee:τ.ev e=none
  ·obtain⟨x,hx,_⟩:=he;exact(hNB b ((hn.new e x hee hx).2.2.1 b hb).1).2.2
  ·rw[(hn.old e hee).2.2]at hb;exact hR.etop e (hOnσ e (hon e he hee)) b hb
 ·by_cases hee:τ.ev e=none
  ·obtain⟨x,hx,_⟩:=he;exact(hn.new e x hee hx).2.2.2
  ·rw[(hn.old e hee).2.2];exact hR.nodup e (hOnσ e (hon e he hee))
 ·by_cases hee:τ.ev e=none
  ·obtain⟨x,hx,_⟩:=h1;by_cases hee':τ.ev e'=none
   ·obtain⟨x',hx',_⟩:=h2;exact hn.apart e e' hee hee' (by rw[show ev' e=some x from hx];simp) (by rw[show ev' e'=some x' from hx'];simp) hne b hb1 hb2
   ·rw[(hn.old e' hee').2.2]at hb2;exact hφfp e' (hon e' h2 hee') b hb2 ((hn.new e x hee hx).2.2.1 b hb1).1
  ·rw[(hn.old e hee).2.2]at hb1;by_cases hee':τ.ev e'=none
   ·obtain⟨x',hx',_⟩:=h2;exact hφfp e (hon e h1 hee) b hb1 ((hn.new e' x' hee' hx').2.2.1 b hb2).1
   ·rw[(hn.old e' hee').2.2]at hb2;exact hR.apart e e' (hOnσ e (hon e h1 hee)) (hOnσ e' (hon e' h2 hee')) hne b hb1 hb2
 ·rw[hn.β]at hm;by_cases hee:τ.ev e=none
  ·obtain⟨x,hx,_⟩:=he;exact hβfp k hk ((hn.new e x hee hx).2.2.1 _ hm).1
  ·rw[(hn.old e hee).2.2]at hm;exact hR.ebx e k (hOnσ e (hon e he hee)) (hbne k hk) hm
theorem zy5 {o:Oper}{σ τ:St}{x:Operand}{asx:Array Operand}{ts:Array TypeId}{f:FuncId}{cvs:List V}{d:Nat}{ds:List (Bool×D)}{res:List D}{ps:List (Nat×Nat×Nat)}(ho:o.op=.call ⟨.value x,asx,ts⟩)(hd:o.dst=some d)
  (h:GC P f ds res) (hc:za1 (σ.get P 0 x)=some (f,cvs)) (hK:Kept σ τ) (hv:gvA σ (fun u=>∀s∈u,τ.ev s.1=none) [] ps (σ.gets P asx ts++cvs) ds) (hf:zg7 d 0 (zbd res) τ.ev):zai P o σ (τ.callF d res):=by
 intro n0 N g a w hR hn hdN
 obtain⟨vs,h1,h2⟩:=zdc hR ho hc h.1
 unfold Oper.wp
 rw[h1]
 obtain⟨B,hB⟩:=hR.fam
 obtain⟨s,k1,k2,k3,k4⟩:=zf7 hR hB hv h2
 rw[Kj]at k1 k4
 have hsp:s.Pairwise okP:=by
  have:=(J3.1 (k4 List.Pairwise.nil));exact this.imp fun h=>h.symm
 have hnd:=zd2 hR hB k3 hsp
 have hfp:∀b∈bks B s,∃e,σ.On e/\τ.ev e=none/\b∈g.φ e:=fun b hb=>by
  obtain⟨x,hx,hm⟩:=Jt.1 hb;exact⟨x.1,k3 x hx,k1 x (List.mem_reverse.2 hx),hB.sub x.1 x.2 b (k3 x hx) hm⟩
 obtain⟨tp,k2⟩:=k2 (bks B s) fun b hb=>by obtain⟨e,h1,_,h3⟩:=hfp b hb;exact⟨e,h1,h3⟩
 refine(h.2 w vs (bks B s) tp k2 hnd).mono ?_
 rintro e w' ⟨us,fp',tp',rfl,o1,o2,o3,hbk⟩
 have o1':=zej.of_g o1
 obtain⟨g',q1,q2,q3⟩:=New.cells (σ:=τ) (g:=g) (NB:=fun b=>b∈bks B s\/w.heap.size<=b) (w':=w') d (zbd res) _ fp' 0 τ.ev g [] (New.refl _ _ _ _ hR.slc) (fun e h1 h2=>absurd h1 h2) hf o1'.cells o2 (fun b hb'=>⟨o3 b hb',by simp⟩)
 have hR':=hR.given hn hK hfp hbk q1
 have hBk:Bk n0 w w':=⟨hbk.os,hbk.tape,hbk.output,hbk.size,fun k hk=>hbk.block k ⟨hn k hk,fun hm=>by
  obtain⟨e,h1,_,h3⟩:=hfp k hm
  exact hR.etop e h1 k h3 hk⟩⟩
 refine⟨g',?_,hBk,q1.A0,q1.R0⟩
 have hp:=hR'.put (some d) (x:=zlk (zyd d 0 res)) (v:=zck us) (zd7 (zlc d 0 o1' (q3 _ _ rfl)) (zia d res 0)) (fun i hi=>by cases hi;exact hdN d hd)
 rw[hd]
 exact hp
def zxu {α:Type}:List (Nat×α)->Nat->Prop
 | [],_=>True
 | p::l,i=>(i=p.1)=False/\zxu l i
def zdt {α β:Type}(l:List (Nat×β)):List (Nat×α)->Prop
 | []=>True
 | p::la=>zxu l p.1/\zdt l la
def okL (τ:St):List (Nat×V)->Prop
 | []=>True
 | p::l=>p.2.okU τ/\okL τ l
def okB (τ:St):List (Nat×List C)->Prop
 | []=>True
 | p::l=>qf2 τ p.2/\okB τ l
def okE:List (Nat×Ev)->Prop
 | []=>True
 | p::l=>p.2.on=true/\p.2.deep=true/\okE l
def zpa (el:List (Nat×Ev)):List Sr->Prop
 | []=>True
 | s::u=>zxu el s.1/\zpa el u
theorem zkh {α:Type}:∀{l:List (Nat×α)}{i:Nat},zxu l i->tbl l i=none
 | [],_,_=>rfl
 | (j,v)::l,i,h=>by unfold tbl;rw[if_neg (fun e=>of_eq_false h.1 e),zkh h.2]
theorem zhf {el:List (Nat×Ev)}:∀{u:List Sr},zpa el u->∀s∈u,tbl el s.1=none
 | [],_,s,hs=>by simp at hs
 | x::u,h,s,hs=>by
  rcases Qu.1 hs with rfl|hs
  ·exact zkh h.1
  ·exact zhf h.2 s hs
theorem zmt:∀{l:List (Nat×V)}{i:Nat},zxu l i->zgw l i=.one .any
 | [],_,_=>rfl
 | (j,v)::l,i,h=>by unfold zgw;rw[if_neg (fun e=>of_eq_false h.1 e),zmt h.2]
theorem zn6 {l:List (Nat×V)}:∀{la:List (Nat×V)},zdt l la->∀i,zgw l i=.one .any\/zgw l i=zgw (la++l) i
 | [],_,i=>Or.inr rfl
 | (j,v)::la,h,i=>by
  by_cases hij:i=j
  ·subst hij;exact Or.inl (zmt h.1)
  ·rw[K6];show _\/zgw l i=if i=j then v else zgw (la++l) i
   rw[if_neg hij];exact zn6 h.2 i
theorem zld {α:Type}{l:List (Nat×α)}:∀{la:List (Nat×α)},zdt l la->∀i x,tbl l i=some x->tbl (la++l) i=some x
 | [],_,i,x,hx=>hx
 | (j,v)::la,h,i,x,hx=>by
  by_cases hij:i=j
  ·subst hij;rw[zkh h.1]at hx;cases hx
  ·rw[K6];show(if i=j then some v else tbl (la++l) i)=some x
   rw[if_neg hij];exact zld h.2 i x hx
theorem zne {τ:St}:∀{l:List (Nat×V)},okL τ l->∀i,(zgw l i).okU τ
 | [],_,_=>trivial
 | (j,v)::l,h,i=>by
  unfold zgw;split
  ·exact h.1
  ·exact zne h.2 i
theorem zob {τ:St}:∀{l:List (Nat×List C)},okB τ l->∀b cs,tbl l b=some cs->qf2 τ cs
 | [],_,_,_,h=>by cases h
 | (j,v)::l,h,b,cs,hb=>by
  unfold tbl at hb;split at hb
  ·cases hb;exact h.1
  ·exact zob h.2 b cs hb
theorem zor:∀{l:List (Nat×Ev)},okE l->∀e x,tbl l e=some x->x.on=true/\x.deep=true
 | [],_,_,_,h=>by cases h
 | (j,v)::l,h,e,x,hb=>by
  unfold tbl at hb;split at hb
  ·cases hb;exact⟨h.1,h.2.1⟩
  ·exact zor h.2.2 e x hb
section
variable {ks:List Fr}{Q:Exit->St->Prop}{σ:St}{ops:Array Oper}{os:List Oper}{ty:TypeId}{ps:String}{af:Array Edge}{d:Nat}{x:Operand}{asx:Array Operand}{ts:Array TypeId}{f:FuncId}{ds:List (Bool×D)}{res:List D}
theorem callG (la l:List (Nat×V))(ba bl:List (Nat×List C))(ea el:List (Nat×Ev))(pl:List (Nat×Nat×Nat))(h:GC P f ds res)
  (hw:wkL σ (hd (la++l) (ba++bl) (ea++el)) (la++l)/\wkB σ (hd (la++l) (ba++bl) (ea++el)) (ba++bl)/\wkE σ (ea++el))
  (hk:zdt l la/\zdt bl ba/\zdt el ea/\okL (hd l bl el) l/\okB (hd l bl el) bl/\okE el)
  (hp:zav (za1 ((hd (la++l) (ba++bl) (ea++el)).get P 0 x)) fun p=>p.1=f/\gvA (hd (la++l) (ba++bl) (ea++el)) (zpa el) [] pl ((hd (la++l) (ba++bl) (ea++el)).gets P asx ts++p.2) ds) (hf:zg7 d 0 (zbd res) (hd l bl el).ev)
  (k:exo P ops os ks Q ((hd l bl el).callF d res)):exo P ops (⟨some d,.call ⟨.value x,asx,ts⟩,ty,ps,af,none⟩::os) ks Q σ:=by
 obtain⟨⟨f',cvs⟩,h1,rfl,h2⟩:=zar hp
 obtain⟨k1,k2,k3,k4,k5,k6⟩:=hk
 refine zda rfl rfl (zai.pre (zad hw) (zy5 (P:=P) (o:=⟨some d,.call ⟨.value x,asx,ts⟩,ty,ps,af,none⟩) rfl rfl h h1 (τ:=hd l bl el) ⟨fun i=>?_,fun b cs hb=>⟨zld k2 b cs hb,zob k5 b cs hb⟩,fun e x he=>⟨zld k3 e x he,zor k6 e x he⟩⟩ (zgq (fun u hu=>zhf hu) h2) hf)) k
 rcases zn6 k1 i with h|h
 ·exact Or.inl h
 ·exact Or.inr ⟨h,zne k4 i⟩
end
attribute [go_sem] gvT owU zg5 zkl zxu zdt okL okB okE zpa C.okU qf2 okUt V.okU gvA gvK okS okQ rdV rdC rdCs
end
section
open Go.RowKit
variable {P:Program}
def qom:Option (Nat×List (List C))->List (List C)
 | some p=>p.2
 | none=>[]
def blK (d:Nat):Option (Ev×List (Nat×Ev))->List (Nat×Ev)
 | some (x,cons)=>(d*32,x)::ztm cons
 | none=>[]
def apKs:Option (Prop×Nat×Ev×List (Nat×Ev))->List Ky
 | some (_,e,_,cons)=>(2,e)::cons.map (fun p=>(2,p.1))
 | none=>[]
section
variable {ks:List Fr}{Q:Exit->St->Prop}{σ:St}{ops:Array Oper}{os:List Oper}{L:List (List Ky×List Ky)}{d:Nat}{t:TypeId}{ty:TypeId}{ps:String}{af:Array Edge}{len:Nat}{parts:Array (Nat×Operand)}{s y:Operand}
theorem za8 (h:zav (blD P σ t len parts) fun r=>σ.ev (d*32)=none/\(r.2.map (·.1)).Nodup)
  (k:exd P ops os (L++[(zaw (parts.toList.map (·.2))++(rK (qom (zox P (σ.get P) t len parts))++[(2,d*32)]),dK (some d)++eK (blK d (blD P σ t len parts)))]) ks Q ((σ.bl d (blD P σ t len parts)).put (some d) (.one (.ow (d*32) 0)))) :
  exd P ops (⟨some d,.buildSlice t len parts,ty,ps,af,none⟩::os) L ks Q σ:=by
 obtain⟨⟨x,cons⟩,h1,h2,h3⟩:=zar h
 rw[h1]at k
 unfold blD at h1
 obtain⟨p,e1,h1⟩:=Qg.1 h1
 obtain⟨q,e2,h1⟩:=Q3.1 h1
 simp only[Qp]at h1
 obtain⟨rfl,rfl⟩:=h1
 rw[e1]at k
 exact qol ⟨e1,e2,h2,h3⟩ k
theorem zek (dp2:Bool)(h:zav (apV P σ d t s y dp2) fun r=>r.1)(k:exd P ops os (L++[(zaw [s,y]++apKs (apV P σ d t s y dp2),dK (some d)++apKs (apV P σ d t s y dp2))]) ks Q (σ.apV d (apV P σ d t s y dp2))) :
  exd P ops (⟨some d,.call ⟨.builtin .append,#[s,y],#[t,t]⟩,ty,ps,af,none⟩::os) L ks Q σ:=by
 obtain⟨⟨p,e,x,cons⟩,h1,h2⟩:=zar h
 rw[h1]at k
 unfold Go.Proofs.YtliiapbmkcbfaaaGreat.apV at h1
 split at h1
 ·rename_i e0 gn e2 gn2 hs hy;obtain⟨x0,k1,h3⟩:=Qg.1 h1;obtain⟨z,k2,h4⟩:=Qg.1 h3;clear h1 h3;by_cases hc:x0.gen=gn/\x0.on=true/\z.gen=gn2/\z.on=true/\z.sz=x0.sz/\e2≠e0
  ·rw[if_pos hc]at h4;obtain⟨rfl,c2,rfl,c4,c5,c6⟩:=hc;simp only[Qf,Qp]at h4;obtain⟨rfl,rfl,rfl,rfl⟩:=h4;obtain⟨dp,sz,rows,gn,on⟩:=x0;obtain⟨dp2,sz2,rows2,gn2,on2⟩:=z;simp only at c2 c4 c5;subst c2 c4 c5;exact dApOO ⟨hs,qi6 hy,k1,k2,c6,rfl⟩ h2.1 h2.2 k
  ·rw[if_neg hc]at h4;cases h4
 ·rename_i e0 gn sz rows2 hs hy;obtain⟨x0,k1,h4⟩:=Qg.1 h1;clear h1;by_cases hc:x0.gen=gn/\x0.on=true/\sz=x0.sz
  ·rw[if_pos hc]at h4;obtain⟨rfl,c2,rfl⟩:=hc;simp only[Qf,Qp]at h4;obtain⟨rfl,rfl,rfl,rfl⟩:=h4;obtain⟨dp,sz,rows,gn,on⟩:=x0;simp only at c2;subst c2;exact dApOT dp2 ⟨hs,hy,k1⟩ (fun hd=>zkw (h2.2.2 hd)) h2.1 h2.2.1 k
  ·rw[if_neg hc]at h4;cases h4
 ·rename_i z0 e2 gn2 hs hy;obtain⟨z,k2,h4⟩:=Qg.1 h1;clear h1;by_cases hc:z.gen=gn2/\z.on=true/\e2≠d*32
  ·rw[if_pos hc]at h4;obtain⟨rfl,c2,c3⟩:=hc;simp only[Qf,Qp]at h4;obtain⟨rfl,rfl,rfl,rfl⟩:=h4;obtain⟨dp2,sz2,rows2,gn2,on2⟩:=z;simp only at c2;subst c2;exact dApNO ⟨hs,qi6 hy,h2.2.2,k2,c3⟩ h2.1 h2.2.1 k
  ·rw[if_neg hc]at h4;cases h4
 ·rename_i z0 sz rows2 hs hy;simp only[Qf,Qp]at h1;obtain⟨rfl,rfl,rfl,rfl⟩:=h1;exact dApNT dp2 ⟨hs,hy,h2.2.2.2⟩ (fun hd=>zkw (h2.2.2.1 hd)) h2.1 h2.2.1 k
 ·cases h1
end
def St.pinE (σ:St)(e:Nat)(vs:Nat->Nat->Value):St:=⟨σ.sl,σ.bx,upd σ.ev e ((σ.ev e).map fun x=>⟨x.deep,x.sz,zhh vs 0 x.rows,x.gen,x.on⟩)⟩
attribute [go_sem] qom blK apKs St.pinE
end
section
open Go.RowKit
variable {P:Program}
theorem qfw {ops:Array Oper}{K:St->Prop}{n0:Nat->Prop}{N:Nat}{Q:Exit->Act->World->Prop}{K':Act->World->Prop}{i:Nat}(hlt:i<ops.size){σ:St}{g:Gh}{a:Act}{w:World}(h:exG P ops ops[i] σ K)(hr:Rel n0 N σ g a w)(hn:LtK n0 w)(hdi:∀d,ops[i].dst=some d->d<N)
  (next:∀σ' a' w',(∃g',Rel n0 N σ' g' a' w'/\Bk n0 w w'/\g'.A0=g.A0/\g'.R0=g.R0)->K σ'->K' a' w'):wpOp P ops Q i K' a w:=by
 have ho:ops[i]?=some ops[i]:=by simp[hlt]
 have run:∀σ0,σ0=σ->zcq P ops[i] σ0 K->ops[i].wp P a w K' Q:=fun σ0 e0 h1=>by
  subst e0;exact zd5 (fun a' w' ⟨σ',g',h0,hh⟩=>next σ' a' w' ⟨g',hh⟩ h0) (zhc h1 n0 N g a w hr hn hdi)
 unfold wpOp
 simp only[ho]
 unfold exG at h
 split at h
 ·rename_i hg;have:Region.wanted ops[i] (yielded ops a.tmps)=true:=by simp[Region.wanted,hg]
  rw[if_pos this];exact Or.inl (run σ rfl h)
 ·rename_i j want hg;split at h
  ·rename_i d hdj;split at h
   ·rename_i c hc;have hv:=hr.slots d;rw[hc]at hv;simp only[VR,CR,zas]at hv;have hy:yielded ops a.tmps j=some c:=by
     unfold yielded;rw[hdj];simp only[Kb];cases ht:a.tmps[d]? with
     | none=>rw[Array.getD_eq_getD_getElem?,ht]at hv;exact absurd hv (g.R0.nb _ _)
     | some u=>rw[Array.getD_eq_getD_getElem?,ht]at hv;simp only[Ku]at hv;subst hv;rfl
    have hw:Region.wanted ops[i] (yielded ops a.tmps)=(c==want):=by
     unfold Region.wanted;rw[hg];simp only[hy];cases c<;>cases want<;>rfl
    rw[hw];by_cases hcw:c=want
    ·subst hcw;simp only[beq_self_eq_true,if_true];exact Or.inl (run _ (zgo hc) (h.1 rfl))
    ·have hne:(c==want)=false:=by simpa using hcw
     rw[hne];simp only[Qn,if_false];have hnot:c=!want:=by cases c<;>cases want<;>simp_all
     have hh:=h.2 hnot;rw[<-hnot,zgo hc]at hh;exact next _ _ _ ⟨g,hr.put _ (x:=.tup []) ⟨[],rfl,rfl⟩ hdi,Bk.refl _ _,rfl,rfl⟩ hh
   ·rename_i xs hc;have hv:=hr.slots d;rw[hc]at hv;obtain⟨vs,hv,_⟩:=hv;have hy:yielded ops a.tmps j=none:=by
     unfold yielded;rw[hdj];simp only[Kb];cases ht:a.tmps[d]? with
     | none=>rfl
     | some u=>rw[Array.getD_eq_getD_getElem?,ht]at hv;simp only[Ku]at hv;subst hv;rfl
    have hw:Region.wanted ops[i] (yielded ops a.tmps)=false:=by
     unfold Region.wanted;rw[hg];simp only[hy];rfl
    rw[hw];simp only[Qn,if_false];exact next _ _ _ ⟨g,hr.put _ (x:=.tup []) ⟨[],rfl,rfl⟩ hdi,Bk.refl _ _,rfl,rfl⟩ h
   ·exact h.elim
  ·exact h.elim
def zwn (ops:Array Oper)(L:List (List Ky×List Ky))(m:Nat):Bool :=
 let b:=Region.before ops
 decide (m<=ops.size)&&(List.range ops.size).all fun j =>
  ((ops.getD j default).after.all fun e=>!Region.binds .any e||decide (e.on<j)) &&
  ((List.range ops.size).all fun i=>!(b.getD j 0).testBit i||(ops.getD j default).after.any fun e=>Region.binds .any e&&(e.on==i||(b.getD e.on 0).testBit i)) &&
  ((List.range j).all fun i=>(b.getD j 0).testBit i||(decide (j<m)&&((L.getD i ([],[])).2.all fun k=>!(L.getD j ([],[])).1.contains k&&!(L.getD j ([],[])).2.contains k)&&(L.getD i ([],[])).1.all fun k=>!(L.getD j ([],[])).2.contains k))
theorem zw4 {ops:Array Oper}{σs:Nat->St}{L:List (List Ky×List Ky)}{n0:Nat->Prop}{N:Nat}{w0:World}{A0:(Nat->Prop)×RP}{Q:Exit->Act->World->Prop}{K:St->Prop}{m:Nat}
  (hL:∀i (h:i<ops.size),i<m->Loc P ops ops[i] (L.getD i ([],[])).1 (L.getD i ([],[])).2 (σs i) (σs (i+1))) (hord:zwn ops L m=true) (hdst:∀o∈ops,∀d,o.dst=some d->d<N)
  (hT:zb4 P ops (ops.toList.drop m) (σs m) K) (hQ:∀σ g a w,K σ->Rel n0 N σ g a w->LtK n0 w->Bk n0 w0 w->(g.A0,g.R0)=A0->Q .normal a w) :
  ∀(fuel:Nat) (listed:Array Bool) (g:Gh) (a:Act) (w:World),listed.size=ops.size->cnt (fun i=>listed.getD i false) ops.size=fuel →
   (∀j (h:j<ops.size),listed.getD j false=true->∀e∈ops[j].after,Region.binds .any e=true->listed.getD e.on false=true)->(∀j,m<=j->listed.getD j false=false) →
   Rel n0 N (Fp σs (fun i=>L.getD i ([],[])) (fun i=>listed.getD i false) m) g a w->LtK n0 w->Bk n0 w0 w->(g.A0,g.R0)=A0->wpAny P .any ops Q fuel listed a w:=by
 have hget:∀j (h:j<ops.size),ops.getD j default=ops[j]:=fun j h=>by simp[Array.getD,h]
 unfold zwn at hord
 rw[Qc]at hord
 obtain⟨hm,hord⟩:=hord
 have hm:m<=ops.size:=by simpa using hm
 have hok:∀i,i<m->okK (L.getD i ([],[])).2=true:=fun i h=>(hL i Yt h).1
 have hRk:∀i,i<m->okK (L.getD i ([],[])).1=true:=fun i h=>(hL i Yt h).2.1
 have hoff:∀i,i<m->∀k:Ky,k.1<3->k∉(L.getD i ([],[])).2->zba (σs i) (σs (i+1)) k:=fun i h=>(hL i Yt h).2.2.1
 simp only[Qs,J0,Qc]at hord
 have hlt:∀j (h:j<ops.size),∀e∈ops[j].after,Region.binds .any e=true->e.on<j:=fun j h e he hb=>by
  have:=(hord j h).1.1;rw[hget j h]at this;have:=(Kw.1 this) e he;simpa[hb]using this
 have hbef:∀j (h:j<ops.size),∀i,i<ops.size->((Region.before ops).getD j 0).testBit i=true->∃e∈ops[j].after,Region.binds .any e=true/\(e.on=i\/((Region.before ops).getD e.on 0).testBit i=true):=fun j h i hi hb=>by
  have:=(hord j h).1.2 i hi;rw[hb,hget j h]at this;simp only[Jr,Jf]at this;obtain⟨e,he,h1⟩:=Array.any_eq_true'.1 this;simp only[Qc,Jl,Ko]at h1;exact⟨e,he,h1.1,h1.2⟩
 have hdis:∀i j,i<j->j<m->((Region.before ops).getD j 0).testBit i=false->(∀k∈(L.getD i ([],[])).2,k∉(L.getD j ([],[])).1/\k∉(L.getD j ([],[])).2)/\∀k∈(L.getD i ([],[])).1,k∉(L.getD j ([],[])).2:=fun i j hij hj hb=>by
  have:=(hord j Yt).2 i hij;rw[hb]at this;simp only[Jf,Qc,Qs,Jk,List.contains_eq_mem,Kz]at this;exact⟨fun k hk=>this.1.2 k hk,fun k hk=>this.2 k hk⟩
 have hchain:∀i j,i<j->j<ops.size->m<=j->((Region.before ops).getD j 0).testBit i=true:=fun i j hij hj hmj=>by
  have:=(hord j hj).2 i hij;cases hb:((Region.before ops).getD j 0).testBit i with
  | true=>rfl
  | false =>
   rw[hb]at this;simp only[Jf,Qc,Qr]at this;omega
 have hclosed:∀listed:Array Bool,(∀j (h:j<ops.size),listed.getD j false=true->∀e∈ops[j].after,Region.binds .any e=true->listed.getD e.on false=true)->∀j (h:j<ops.size),listed.getD j false=true->∀i,i<ops.size->((Region.before ops).getD j 0).testBit i=true->listed.getD i false=true:=by
  intro listed hcl j;induction j using Nat.strongRecOn with
  | _ j ihj =>
   intro h hl i hi hbi;obtain⟨e,he,h1,h2⟩:=hbef j h i hi hbi;have hle:=hcl j h hl e he h1;have hlt':=hlt j h e he h1;rcases h2 with rfl|h2
   ·exact hle
   ·exact ihj e.on hlt' Yt hle i hi h2
 have hready:∀(listed:Array Bool),listed.size=ops.size->∀i,i∈Region.ready .any ops listed->∃hi:i<ops.size,listed.getD i false=false/\∀e∈ops[i].after,Region.binds .any e=true->listed.getD e.on false=true:=fun listed hsz i hi=>by
  unfold Region.ready at hi;rw[Ym]at hi;obtain⟨hi1,hi2⟩:=hi;have hi':=J0.1 hi1;rw[Array.getElem?_eq_getElem hi']at hi2;simp only[Kc,Ku,Qc,Jk]at hi2;obtain⟨hl0,hafter⟩:=hi2;refine⟨hi',?_,fun e he hbd=>?_⟩
  ·simp only[Array.getD_eq_getD_getElem?]at hl0⊢;rw[Array.getElem?_eq_getElem Yt]at hl0⊢;exact hl0
  ·have:=(Kw.1 hafter) e he;simpa[hbd]using this
 have hsome:∀(listed:Array Bool),listed.size=ops.size->Region.ready .any ops listed=[]->cnt (fun i=>listed.getD i false) ops.size=0:=fun listed hsz hr=>by
  have:∀j,j<ops.size->listed.getD j false=true:=by
   intro j;induction j using Nat.strongRecOn with
   | _ j ihj =>
    intro hj;cases hl:listed.getD j false with
    | true=>rfl
    | false =>
     exfalso;have hmem:j∈Region.ready .any ops listed:=by
      unfold Region.ready;rw[Ym];refine⟨J0.2 hj,?_⟩;have hl':listed.getD j true=false:=by
       simp only[Array.getD_eq_getD_getElem?]at hl⊢;rw[Array.getElem?_eq_getElem Yt]at hl⊢;exact hl
      rw[hl',Array.getElem?_eq_getElem hj];simp only[Jp,Qq,Kc,Ku];rw[Kw];intro e he;cases hbd:Region.binds .any e with
      | false=>rfl
      | true=>simpa using ihj e.on (hlt j hj e he hbd) (by have:=hlt j hj e he hbd;omega)
     rw[hr]at hmem;exact absurd hmem (by simp)
  have:∀k,k<=ops.size->cnt (fun i=>listed.getD i false) k=0:=by
   intro k;induction k with
   | zero=>intro _;rfl
   | succ k ihk=>intro hk;unfold cnt;rw[if_pos (this k Yt),ihk Yt]
  exact this _ (Qw _)
 have hset:∀(listed:Array Bool) (i:Nat),i<listed.size->∀j,(listed.setIfInBounds i true).getD j false=if j=i then true else listed.getD j false:=fun listed i hi j=>by
  simp only[Array.getD_eq_getD_getElem?,Array.getElem?_setIfInBounds];by_cases hji:j=i
  ·subst hji;rw[if_pos rfl,if_pos hi,if_pos rfl];rfl
  ·rw[if_neg (fun h=>hji h.symm),if_neg hji]
 have hnone:∀(listed:Array Bool),listed.size=ops.size->(∀j,j<ops.size->listed.getD j false=true)->Region.ready .any ops listed=[]:=fun listed hsz hall=>by
  unfold Region.ready;rw[List.filter_eq_nil_iff];intro i hi;have hi':=J0.1 hi;have:=hall i hi';simp only[Array.getD_eq_getD_getElem?]at this⊢;rw[Array.getElem?_eq_getElem Yt]at this⊢;simp only[Ku]at this⊢;simp[this]
 have tail:∀(k j:Nat) (listed:Array Bool) (σ:St) (g:Gh) (a:Act) (w:World),j+k=ops.size->m<=j->listed.size=ops.size->(∀i,i<ops.size->listed.getD i false=decide (i<j))->zb4 P ops (ops.toList.drop j) σ K->Rel n0 N σ g a w->LtK n0 w->Bk n0 w0 w->(g.A0,g.R0)=A0->wpAny P .any ops Q k listed a w:=by
  intro k;induction k with
  | zero =>
   intro j listed σ g a w hjk hmj hsz hls h hrel hn hb hA;have:ops.toList.drop j=[]:=Q0 (by simp;omega);rw[this]at h;exact⟨hnone listed hsz fun i hi=>by rw[hls i hi];simp;omega,hQ σ g a w h hrel hn hb hA⟩
  | succ k ih =>
   intro j listed σ g a w hjk hmj hsz hls h hrel hn hb hA;have hj:j<ops.size:=by omega
   refine⟨fun hr=>?_,fun i hi=>?_⟩
   ·exfalso;have hz:listed.getD j false=true:=zjz _ (hsome listed hsz hr) j hj;rw[hls j hj]at hz;simp at hz
   ·obtain⟨hi',hl,hdue⟩:=hready listed hsz i hi;have hij:i=j:=by
     rcases Nat.lt_trichotomy i j with h1|h1|h1
     ·rw[hls i hi']at hl;simp at hl;omega
     ·exact h1
     ·exfalso;obtain⟨e,he,k1,k2⟩:=hbef i hi' j hj (hchain j i h1 hi' Yt);have hle:=hdue e he k1;have hel:=hlt i hi' e he k1;rw[hls e.on Yt]at hle;have hle:e.on<j:=by simpa using hle
      rcases k2 with k2|k2
      ·omega
      ·have:∀x,x<ops.size->∀y,y<ops.size->((Region.before ops).getD x 0).testBit y=true->y<x:=by
        intro x;induction x using Nat.strongRecOn with
        | _ x ihx =>
         intro hx y hy hbxy;obtain⟨e',he',q1,q2⟩:=hbef x hx y hy hbxy;have:=hlt x hx e' he' q1;rcases q2 with rfl|q2
         ·exact this
         ·have:=ihx e'.on this Yt y hy q2;omega
       have:=this e.on Yt j hj k2;omega
    subst hij;have hcons:ops.toList.drop i=ops[i]::ops.toList.drop (i+1):=by
     rw[Qx (by simpa using hi')];rfl
    rw[hcons]at h;refine qfw hi' (K:=fun σ'=>zb4 P ops (ops.toList.drop (i+1)) σ' K) h hrel hn (hdst _ (Array.getElem_mem hi')) fun σ' a' w' hh hK=>?_;obtain⟨g',k1,k2,k3,k4⟩:=hh;refine ih (i+1) _ σ' g' a' w' Yt Yt (by simpa using hsz) (fun x hx=>?_) hK k1 (hn.mono k2.size) (hb.trans k2) (by rw[k3,k4];exact hA);rw[hset listed i Yt,hls x hx];by_cases hxi:x=i
    ·subst hxi;simp
    ·rw[if_neg hxi]
     congr 1
     simp only[eq_iff_iff];omega
 intro fuel
 induction fuel with
 | zero =>
  intro listed g a w hsz hc hcl hno hrel hn hb hA;have hall:=zjz _ hc;have hme:m=ops.size:=by
   rcases Nat.lt_or_ge m ops.size with h|h
   ·have h1:=hall m h;rw[hno m (Qw _)]at h1;cases h1
   ·omega
  refine⟨hnone listed hsz hall,?_⟩;rw[zla hok hoff m (Qw _) fun j hj=>hall j Yt]at hrel;have hd:ops.toList.drop m=[]:=Q0 (by simp;omega);rw[hd]at hT;exact hQ _ g a w hT hrel hn hb hA
 | succ fuel ih =>
  intro listed g a w hsz hc hcl hno hrel hn hb hA;have hbb:=hclosed listed hcl;refine⟨fun hr=>?_,fun i hi=>?_⟩
  ·exfalso;have:=hsome listed hsz hr;omega
  ·obtain⟨hi',hl,hdue⟩:=hready listed hsz i hi;have h1:∀j,j<ops.size->((Region.before ops).getD i 0).testBit j=true->listed.getD j false=true:=fun j hj hbj=>by
    obtain⟨e,he,k1,k2⟩:=hbef i hi' j hj hbj;have hle:=hdue e he k1;have hlt':=hlt i hi' e he k1;rcases k2 with rfl|k2
    ·exact hle
    ·exact hbb e.on Yt hle j hj k2
   by_cases him:i<m
   ·have h2:∀j,j<m->listed.getD j false=true->((Region.before ops).getD j 0).testBit i=true->listed.getD i false=true:=fun j hj hlj hbj=>hbb j Yt hlj i hi' hbj;have hset':=hset listed i Yt;obtain⟨_,_,_,hstep⟩:=hL i hi' him;have hG:=hstep _ (fun k hk=>qd5 (σs:=σs) (RW:=fun i=>L.getD i ([],[])) (b:=fun j i=>((Region.before ops).getD j 0).testBit i) (p:=fun i=>listed.getD i false) hok hoff hRk hdis him hl (fun j hj hb=>h1 j Yt hb) h2 hk);have hw:=zvy (σs:=σs) (RW:=fun i=>L.getD i ([],[])) (b:=fun j i=>((Region.before ops).getD j 0).testBit i) (p:=fun i=>listed.getD i false) hok hdis him hl (fun j hj hb=>h1 j Yt hb) h2 (p':=fun j=>(listed.setIfInBounds i true).getD j false) hset';have hcnt:=ztc (p:=fun i=>listed.getD i false) (q:=fun j=>(listed.setIfInBounds i true).getD j false) hl hset' ops.size hi';have hG':=hG n0 N g a w hrel hn (hdst _ (Array.getElem_mem hi'));rw[<-hw]at hG';have next:∀a' w',(∃g',Rel n0 N (Fp σs (fun i=>L.getD i ([],[])) (fun j=>(listed.setIfInBounds i true).getD j false) m) g' a' w'/\Bk n0 w w'/\g'.A0=g.A0/\g'.R0=g.R0)->wpAny P .any ops Q fuel (listed.setIfInBounds i true) a' w':=by
     rintro a' w' ⟨g',k1,k2,k3,k4⟩;refine ih _ g' a' w' (by simpa using hsz) Yt (fun j hj hlj e he hbd=>?_) (fun j hj=>by rw[hset',if_neg Yt];exact hno j hj) k1 (hn.mono k2.size) (hb.trans k2) (by rw[k3,k4];exact hA);rw[hset']at hlj⊢;by_cases heo:e.on=i
     ·rw[if_pos heo]
     ·rw[if_neg heo];by_cases hji:j=i
      ·subst hji;exact hdue e he hbd
      ·rw[if_neg hji]at hlj;exact hcl j hj hlj e he hbd
    unfold wpOp;rw[Array.getElem?_eq_getElem hi'];simp only;split
    ·rename_i hwd;rw[if_pos hwd]at hG';exact Or.inl (zd5 next hG')
    ·rename_i hwd;rw[if_neg hwd]at hG';obtain⟨g',k1,k2,k3⟩:=hG';exact next _ _ ⟨g',k1,Bk.refl _ _,k2,k3⟩
   ·-- the chain begins
    have hmi:i=m:=by
     rcases Nat.lt_trichotomy i m with h3|h3|h3
     ·omega
     ·exact h3
     ·exfalso;have:=h1 m Yt (hchain m i h3 hi' Yt);rw[hno m (Qw _)]at this;cases this
    subst hmi;have hall:∀j,j<i->listed.getD j false=true:=fun j hj=>h1 j Yt (hchain j i hj hi' (Qw _));rw[zla hok hoff i (Qw _) hall]at hrel;have hls:∀x,x<ops.size->listed.getD x false=decide (x<i):=fun x hx=>by
     by_cases hxi:x<i
     ·rw[hall x hxi];simp[hxi]
     ·rw[hno x Yt];simp[hxi]
    have hcnt:fuel+1=ops.size-i:=by
     rw[<-hc];have:∀n,n<=ops.size->cnt (fun i=>listed.getD i false) n=n-i:=by
      intro n;induction n with
      | zero=>intro _;simp[cnt]
      | succ n ihn =>
       intro hn';unfold cnt;rw[ihn Yt,hls n Yt];by_cases hni:n<i
       ·rw[if_pos (by simpa using hni)];omega
       ·rw[if_neg (by simpa using hni)];omega
     exact this _ (Qw _)
    have:=tail (fuel+1) i listed (σs i) g a w Yt (Qw _) hsz hls hT hrel hn hb hA;exact this.2 i hi
def zkq (ops:Array Oper)(m:Nat):Bool :=
 let b:=Region.before ops
 decide (m<=ops.size)&&(List.range ops.size).all fun j=>decide (j<m)||(List.range j).all fun i=>(b.getD j 0).testBit i
theorem qbw {ops:Array Oper}{L:List (List Ky×List Ky)}{m:Nat}(h1:zqp ops L=true)(h2:zkq ops m=true):zwn ops L m=true:=by
 unfold zqp at h1
 unfold zkq at h2
 unfold zwn
 simp only[Qs,J0,Qc,Jl]at h1 h2⊢
 refine⟨h2.1,fun j hj=>⟨⟨(h1 j hj).1.1,(h1 j hj).1.2⟩,fun i hi=>?_⟩⟩
 rcases(h1 j hj).2 i hi with h3|h3
 ·exact Or.inl h3
 ·rcases h2.2 j hj with h4|h4
  ·exact Or.inr ⟨⟨h4,h3.1⟩,h3.2⟩
  ·exact Or.inl (h4 i hi)
theorem zh3 {ops:Array Oper}{K:St->Prop}{m:Nat}(hm:m<=ops.size):∀(os:List Oper)(i:Nat)(L:List (List Ky×List Ky))(σs:Nat->St),os=(ops.toList.take m).drop i->i<=m->L.length=i →
  (∀j (h:j<ops.size),j<i->Loc P ops ops[j] (L.getD j ([],[])).1 (L.getD j ([],[])).2 (σs j) (σs (j+1)))->zgx P ops os L (σs i) K →
  ∃(L':List (List Ky×List Ky)) (σs':Nat->St),σs' 0=σs 0/\(∀j (h:j<ops.size),j<m->Loc P ops ops[j] (L'.getD j ([],[])).1 (L'.getD j ([],[])).2 (σs' j) (σs' (j+1)))/\zqp ops L'=true/\K (σs' m)
 | [],i,L,σs,ho,hi,hl,hloc,h=>by
  have hie:i=m:=by
   have:=congrArg List.length ho;simp at this;omega
  subst hie;exact⟨L,σs,rfl,fun j hj hji=>hloc j hj hji,h.1,h.2⟩
 | o::os,i,L,σs,ho,hi,hl,hloc,h=>by
  have hlm:i<m:=by
   have:=congrArg List.length ho;simp at this;omega
  have hlt:i<ops.size:=by omega
  have hcons:(ops.toList.take m).drop i=ops[i]::(ops.toList.take m).drop (i+1):=by
   rw[Qx (by simp;omega)];simp
  rw[hcons]at ho;obtain⟨rfl,hos⟩:=List.cons.inj ho;obtain⟨R,W,σ',h1,h2⟩:=zly h
  have:=zh3 hm os (i+1) (L++[(R,W)]) (fun j=>if j<=i then σs j else σ') hos Yt (by simp[hl]) (fun j hj hji=>by
   by_cases hje:j=i
   ·subst hje;have hg:(L++[(R,W)]).getD j ([],[])=(R,W):=by simp[List.getD,<-hl]
    rw[hg,if_pos (Qw _),if_neg Yt];exact h1
   ·have hg:(L++[(R,W)]).getD j ([],[])=L.getD j ([],[]):=by
     simp only[List.getD_eq_getElem?_getD];rw[List.getElem?_append_left Yt]
    rw[hg,if_pos Yt,if_pos Yt]
    exact hloc j hj Yt) (by rw[if_neg Yt];exact h2)
  simpa using this
def qm1 (P:Program)(ops:Array Oper)(m:Nat)(ks:List Fr)(Q:Exit->St->Prop):Exit->St->Prop
 | .normal,σ=>exo P ops (ops.toList.drop m) ks Q σ
 | _,_=>False
theorem zjf (ops:Array Oper)(m:Nat)(ks:List Fr)(Q:Exit->St->Prop)(σ:St):qm1 P ops m ks Q .normal σ=exo P ops (ops.toList.drop m) ks Q σ:=rfl
theorem qj3 (m:Nat){id:Nat}{ops:Array Oper}{ks:List Fr}{Q:Exit->St->Prop}{σ:St}(hmx:P.follows .mixedOrders=true)(hch:zkq ops m=true)(h:exd P ops (ops.toList.take m) [] [] (qm1 P ops m ks Q) σ):ex P (.region id ops true) ks Q σ:=by
 show zdj P id ops σ _
 intro n0 N g a w hR hn hd
 have hm:m<=ops.size:=by unfold zkq at hch;rw[Qc]at hch;simpa using hch.1
 obtain⟨L,σs,h0,hloc,hord,hK⟩:=zh3 hm (ops.toList.take m) 0 [] (fun _=>σ) rfl (Q1 _) rfl (fun j _ hj=>by omega) h
 refine wp_region_any hmx ?_
 have hb:Below w.heap.size w { w with drawn:=w.drawn+1 }:=⟨rfl,rfl,rfl,Qw _,fun _ _=>rfl⟩
 have hR':Rel n0 N (σs 0) g a { w with drawn:=w.drawn+1 }:=by
  rw[h0];exact hR.after hn hb (New.refl σ g (w.heap.size<=·) _ hR.slc)
 have hF:Fp σs (fun i=>L.getD i ([],[])) (fun i=>(Array.replicate ops.size false).getD i false) m=σs 0:=by
  have hp:∀i,(Array.replicate ops.size false).getD i false=false:=fun i=>by
   simp only[Array.getD_eq_getD_getElem?,Array.getElem?_replicate];split<;>rfl
  have:∀m,Fp σs (fun i=>L.getD i ([],[])) (fun i=>(Array.replicate ops.size false).getD i false) m=σs 0:=by
   intro m;induction m with
   | zero=>rfl
   | succ m ih=>unfold Fp;rw[hp,if_neg (by simp)];exact ih
  exact this _
 have hcnt:cnt (fun i=>(Array.replicate ops.size false).getD i false) ops.size=ops.size:=by
  have hp:∀i,(Array.replicate ops.size false).getD i false=false:=fun i=>by
   simp only[Array.getD_eq_getD_getElem?,Array.getElem?_replicate];split<;>rfl
  have:∀m,cnt (fun i=>(Array.replicate ops.size false).getD i false) m=m:=by
   intro m;induction m with
   | zero=>rfl
   | succ m ih=>unfold cnt;rw[hp,if_neg (by simp),ih];omega
  exact this _
 refine zw4 (w0:=w) (A0:=(g.A0,g.R0)) (K:=qfd P ks Q .normal) hloc (qbw hord hch) hd hK (fun σ' g' a' w' kk k1 k2 k3 k4=>⟨rfl,σ',g',kk,k1,k2,k3,(Jq k4).1,(Jq k4).2⟩) ops.size _ g a _ (by simp) hcnt (fun j h hl=>?_) (fun j _=>?_) (by rw[hF];exact hR') (hn.mono (Qw _)) (Bk.of_below hb hn) rfl
 ·simp only[Array.getD_eq_getD_getElem?,Array.getElem?_replicate]at hl;split at hl<;>cases hl
 ·simp only[Array.getD_eq_getD_getElem?,Array.getElem?_replicate];split<;>rfl
attribute [go_sem] zjf
end
section
open Go.RowKit
variable {P:Program}
def PX (P:Program)(rs:List ResultVar)(res:List D)(σ:St):Prop:=∃pl,zav (zb3 P σ rs) fun vs=>gvA σ (fun _=>True) [] pl vs (res.map fun d=>(true,d))
def PS (P:Program)(rs:List ResultVar)(res:List D)(e:Exit)(σ:St):Prop:=match e with
 | .normal=>PF P rs res .normal σ\/PX P rs res σ
 | .ret=>PF P rs res .ret σ\/PX P rs res σ
 | _=>False
theorem zjc {w:World}{A:Nat->Prop}:∀{res:List D}{vs:List Value}{fp tp:List Nat},za0 w A (res.map fun d=>(true,d)) vs fp tp->GDs w res vs fp tp
 | [],_,_,_,h=>h
 | d::ds,_,_,_,h=>by
  obtain⟨v,vs',f1,f2,t1,t2,rfl,rfl,rfl,h1,h2⟩:=h;exact⟨v,vs',f1,f2,t1,t2,rfl,rfl,rfl,h1,zjc h2⟩
theorem px_own {n0:Nat->Prop}{N:Nat}{σ:St}{g:Gh}{a:Act}{w:World}(hR:Rel n0 N σ g a w){vs:List V}{res:List D}{pl:List (Nat×Nat×Nat)}(h:gvA σ (fun _=>True) [] pl vs (res.map fun d=>(true,d))){us:List Value}(hv:VRl σ g w vs us) :
  ∃fp tp,GDs w res us fp tp/\fp.Nodup/\∀b∈fp,∃e,σ.On e/\b∈g.φ e:=by
 obtain⟨B,hB⟩:=hR.fam
 obtain⟨s,k1,k2,k3,k4⟩:=zf7 hR hB h hv
 rw[Kj]at k4
 have hsp:s.Pairwise okP:=(J3.1 (k4 List.Pairwise.nil)).imp fun h=>h.symm
 obtain⟨tp,k2⟩:=k2 [] (by simp)
 refine⟨_,tp,zjc k2,zd2 hR hB k3 hsp,fun b hb=>?_⟩
 obtain⟨x,hx,hm⟩:=Jt.1 hb
 exact⟨x.1,k3 x hx,hB.sub x.1 x.2 b (k3 x hx) hm⟩
theorem qk3 {f:FuncId}{fn:Func}{c:Code}{args:List (Bool×D)}{res:List D}(hc:zbw P f)(hf:P.funcs[f]?=some fn)(hb:fn.body=some c)(hd:zei fn.ntmps c=true)(hN:args.length<=fn.ntmps)(hs:zau args)
  (h:∀(w:World) (vs:List Value) (fp tp:List Nat),za0 w (fun b=>b<w.heap.size/\b∉fp) args vs fp tp->∀(g:Gh) (a:Act),Rel (fun b=>b<w.heap.size/\b∉fp) fn.ntmps (zdq args) g a w->(a.tmps=(⟨vs⟩:Array Value)++Array.replicate (fn.ntmps-vs.length) undef/\(g.A0,g.R0)=((fun _=>True),RP.of fun b=>b∈fp\/w.heap.size<=b)) →
   ∃σ0,ex P c [] (PS P fn.results.toList res) σ0/\Rel (fun b=>b<w.heap.size/\b∉fp) fn.ntmps σ0 g a w):GC P f args res:=by
 refine⟨hc,fun w vs fp tp hv hn=>?_⟩
 refine calls_of_wp hf hb ?_
 have hv':za0 w (fun b=>b<w.heap.size/\True/\b∉fp) args vs fp tp:=za0.keepA (fun b hb=>⟨hb.1,trivial,hb.2⟩) hv
 obtain⟨g,hg,hR⟩:=Rel.start (A0:=fun _=>True) (R0:=RP.of fun b=>b∈fp\/w.heap.size<=b) (N:=fn.ntmps) hv' hn hs hN (fun _ _=>trivial) (fun b hb=>⟨trivial,Or.inl hb⟩) (fun b hb=>⟨trivial,by
  by_cases hlt:b<w.heap.size
  ·exact Or.inl (Classical.byContradiction fun h=>hb ⟨hlt,h⟩)
  ·exact Or.inr Yt⟩)
 obtain⟨σ0,hex,hR0⟩:=h w vs fp tp hv g _ hR ⟨rfl,hg⟩
 refine wp_mono (zby (w0:=w) c σ0 _ hd hex g _ w hR0 (fun k hk=>hk.1) (Bk.refl _ _) hg) fun e a' w' hq=>?_
 obtain⟨σ',g',h1,h2,h3,h4,h5⟩:=hq
 have fin:∀{us:List Value} {v:Value},(results fn a'.tmps).run P w'=.ok v w'->v=zck us->(∃fp' tp',GDs w' res us fp' tp'/\fp'.Nodup/\∀b∈fp',∃e,σ'.On e/\b∈g'.φ e)->∃v,(results fn a'.tmps).run P w'=.ok v w'/\∃us fp' tp',Ending.returned v=.returned (zck us)/\GDs w' res us fp' tp'/\fp'.Nodup/\(∀b∈fp',b∈fp\/w.heap.size<=b)/\Bk (fun k=>k<w.heap.size/\k∉fp) w w':=fun {us v} r1 rv ⟨fp',tp',o1,o2,o3⟩=>by
  refine⟨_,r1,us,fp',tp',by rw[rv],o1,o2,fun b hb=>?_,h4⟩;obtain⟨e,l,m⟩:=o3 b hb;have:=(h2.ebase e l b m).2;rw[(Jq h5).2]at this;exact this
 have key:(zav (zb3 P σ' fn.results.toList) (fun vs=>qk2 σ' [] vs res)\/PX P fn.results.toList res σ')->∃v,(results fn a'.tmps).run P w'=.ok v w'/\∃us fp' tp',Ending.returned v=.returned (zck us)/\GDs w' res us fp' tp'/\fp'.Nodup/\(∀b∈fp',b∈fp\/w.heap.size<=b)/\Bk (fun k=>k<w.heap.size/\k∉fp) w w':=fun hk=>by
  rcases hk with hk|⟨pl,hk⟩
  ·obtain⟨vs,hvs,hk⟩:=zar hk;obtain⟨us,r1,r2⟩:=zco h2 fn hvs;obtain⟨used,fp',tp',o1,o2⟩:=zgh h2 hk r2;exact fin r1 rfl ⟨fp',tp',o1,o2.1,fun b hb=>by obtain⟨e,_,_,l,m⟩:=o2.2.1 b hb;exact⟨e,l,m⟩⟩
  ·obtain⟨vs,hvs,hk⟩:=zar hk;obtain⟨us,r1,r2⟩:=zco h2 fn hvs;exact fin r1 rfl (px_own h2 hk r2)
 cases e with
 | normal=>exact⟨h2.defers,key h1⟩
 | ret=>exact⟨h2.defers,key h1⟩
 | exit _=>exact h1.elim
 | goto _=>exact h1.elim
 | panic _=>exact h1.elim
 | outgrown=>exact h1.elim
theorem qma (e m:Nat){id:Nat}{ops:Array Oper}{ks:List Fr}{Q:Exit->St->Prop}{σ:St}(hmx:P.follows .mixedOrders=true)(hch:zkq ops m=true)(he:zav (σ.ev e) fun y=>y.deep=true/\y.on=true)(h:∀vs,exd P ops (ops.toList.take m) [] [] (qm1 P ops m ks Q) (σ.pinE e vs)):ex P (.region id ops true) ks Q σ:=by
 show zdj P id ops σ _
 intro n0 N g a w hR hn hd
 obtain⟨⟨dp,sz,rows,gn,on⟩,he,e1,e2⟩:=zar he
 simp only at e1 e2
 subst e1 e2
 obtain⟨vs,hv⟩:=(zeb hR he).pins
 have hr:=hR.reown hn he hv
 have e0:σ.pinE e vs=σ.inp [(e,zhh vs 0 rows)]:=by
  unfold St.pinE St.inp zyr zyr;rw[he];rfl
 rw[<-e0]at hr
 exact(qj3 m hmx hch (h vs):zdj P id ops _ _) n0 N g a w hr hn hd
theorem qg9 (p:Prop):(p\/True)=True:=by simp
theorem qg1 (p:Prop):(True\/p)=True:=by simp
theorem qau {α:Type}(x:α)(xs:List α)(d:α):(x::xs).getD 0 d=x:=rfl
theorem qf9 {α:Type}(x y:α)(xs:List α)(d:α):(x::y::xs).getD 1 d=y:=rfl
attribute [go_sem] qau qf9
attribute [go_sem] Bool.false_and Bool.and_false Bool.and_self
attribute [go_sem] PS qg9 qg1
section
variable (A B:List (List T))(r:List T)
theorem qax {k:Nat}(h:A.length=k)(o:Nat)(ts:List T):zec (A++r::B) k o ts=A++setR r o ts::B:=by subst h;simp[zec]
end
theorem zxq (vs:Nat->Nat->Value)(i:Nat)(r:List T)(rs:List (List T)):zhh vs i (r::rs)=qe8 (vs i) 0 r::zhh vs (i+1) rs:=rfl
theorem qen (us:Nat->Value)(j:Nat)(c:T)(cs:List T):qe8 us j (c::cs)=pinC (us j) c::qe8 us (j+1) cs:=rfl
theorem qh3 (us:Nat->Value)(j:Nat):qe8 us j []=[]:=rfl
theorem qnx (v:Value)(sz:Nat)(rows:List (List T)):pinC v (.sl sz rows)=.pin v (.sl sz rows):=rfl
theorem qgy (v:Value)(s:List UInt8):pinC v (.str s)=.str s:=rfl
attribute [go_sem] zxq qen qh3 qnx qgy zhe List.length_append qax
theorem qoi (n:Nat):((n:Int)<0)=False:=by simp
attribute [go_sem] qoi List.set_cons_succ List.set_cons_zero
end
section
open Go.RowKit
variable {P:Program}
def D.toN:D->V
 | .one t=>.one t.toN
 | .agg ts=>.agg (ts.map T.toN)
def zhk:Nat->List D->Nat->V
 | _,[]=>fun _=>.one .any
 | k,d::ds=>upd (zhk (k+1) ds) k d.toN
def zg6 (args:List D):St:=⟨zhk 0 args,fun _=>none,fun _=>none⟩
theorem zkb:∀(ds:List D)(k i:Nat),zhk k ds (k+i)=match ds[i]? with|some d=>d.toN|none=>.one .any
 | [],k,i=>by simp[zhk]
 | d::ds,k,0=>by simp[zhk,upd]
 | d::ds,k,i+1=>by
  unfold zhk;rw[zal _ _ Yt,show k+(i+1)=k+1+i by omega,zkb ds (k+1) i];simp
theorem qkg {σ:St}{g:Gh}{w:World}{A:Nat->Prop}(hA:∀b,A b->zb6 σ g w b){x:T}{v:Value}(h:zas w A x v):CR σ g w x.toN v:=by
 cases x<;>first|exact zas.keep (fun _ _=>rfl) (fun b hb=>(hA b hb).1) _ v h|exact zas.keep (fun _ _=>rfl) hA _ v h
theorem zzz {σ:St}{g:Gh}{w:World}{A:Nat->Prop}(hA:∀b,A b->zb6 σ g w b):∀{ts:List T}{vs:List Value},zah w A ts vs->CRs σ g w (ts.map T.toN) vs
 | [],vs,h=>by unfold zah at h;exact h
 | t::ts,vs,h=>by
  unfold zah at h;obtain⟨v,vs',rfl,h1,h2⟩:=h;exact⟨v,vs',rfl,qkg hA h1,zzz hA h2⟩
theorem zm2 {σ:St}{g:Gh}{w:World}{A:Nat->Prop}(hA:∀b,A b->zb6 σ g w b){d:D}{v:Value}(h:zys w A d v):VR σ g w d.toN v:=by
 cases d with
 | one t=>exact qkg hA h
 | agg ts=>obtain⟨a,h0,h1⟩:=h;exact⟨a,h0,zzz hA h1⟩
theorem zbv.at {w:World}{A:Nat->Prop}:∀{ds:List D}{vs:List Value},zbv w A ds vs->∀(i:Nat) d,ds[i]?=some d->∃v,vs[i]?=some v/\zys w A d v
 | [],_,_,i,d,h=>by simp at h
 | d0::ds,vs,h,0,d,hi=>by
  obtain⟨v,vs',rfl,h1,h2⟩:=h;simp only[List.getElem?_cons_zero,Qf]at hi;subst hi;exact⟨v,rfl,h1⟩
 | d0::ds,vs,h,i+1,d,hi=>by
  obtain⟨v,vs',rfl,h1,h2⟩:=h;simpa using zbv.at h2 i d (by simpa using hi)
theorem zel {w:World}{A:Nat->Prop}:∀{ds:List D}{vs:List Value}{fp tp:List Nat},za0 w A (rd ds) vs fp tp->zbv w A ds vs/\fp=[]/\tp=[]
 | [],_,_,_,h=>⟨h.1,h.2.1,h.2.2⟩
 | d::ds,_,_,_,h=>by
  obtain⟨v,vs',rfl,h1,h2⟩:=h;obtain⟨k1,k2,k3⟩:=zel h2;exact⟨⟨v,vs',rfl,h1,k1⟩,k2,k3⟩
theorem qcl {args:List D}{w:World}{vs:List Value}{N:Nat}{g:Gh}{a:Act}(hr:zbv w (fun b=>b<w.heap.size/\b∉([]:List Nat)) args vs)(hR:Rel (fun b=>b<w.heap.size/\b∉([]:List Nat)) N (zdq (rd args)) g a w)
  (hg:a.tmps=(⟨vs⟩:Array Value)++Array.replicate (N-vs.length) undef/\(g.A0,g.R0)=((fun _=>True),RP.of fun b=>b∈([]:List Nat)\/w.heap.size<=b)):Rel (fun b=>b<w.heap.size/\b∉([]:List Nat)) N (zg6 args) g a w:=by
 have hbx:∀(ds:List D) (k:Nat),zfh k (rd ds)=fun _=>none:=fun ds=>by
  induction ds with
  | nil=>intro k;rfl
  | cons d ds ih=>intro k;exact ih (k+1)
 have hG:∀b,(b<w.heap.size/\b∉([]:List Nat))->zb6 (zg6 args) g w b:=fun b hb=>by
  refine⟨⟨fun k hk=>absurd rfl hk,fun e x he _=>(by cases he),hb.1,by rw[(Jq hg.2).1];trivial⟩,?_⟩;rintro e ⟨x,hx,_⟩;cases hx
 refine hR.slots_of (σ':=zg6 args) rfl ?_ hR.defers hR.size fun i=>?_
 ·show(fun _=>none)=zfh 0 (rd args)
  rw[hbx]
 ·have hm:Mv (zg6 args) (zg6 args) g g w w:=Mv.of_eq g w rfl rfl;show VR (zdq (rd args)) g w (zhk 0 args i) _
  have hi:=zkb args 0 i;rw[Q2]at hi;rw[hi];cases hd:args[i]? with
  | none=>trivial
  | some d =>
   obtain⟨v,hv1,hv2⟩:=zbv.at hr i d hd;have hlt:i<vs.length:=(List.getElem?_eq_some_iff.1 hv1).1;have e:a.tmps.getD i (g.R0.ξ i)=v:=by
    rw[hg.1];rw[Array.getD_eq_getD_getElem?,Array.getElem?_append_left (by simpa using hlt)];simp[hv1]
   rw[e];have hx:=zm2 hG hv2;exact(Mv.of_eq (σ:=zg6 args) (σ':=zdq (rd args)) g w rfl (by show zfh 0 (rd args)=fun _=>none;rw[hbx])).vr hx
theorem zdw {f:FuncId}{fn:Func}{c:Code}{args res:List D}(hc:zbw P f)(hf:P.funcs[f]?=some fn)(hb:fn.body=some c)(hd:zei fn.ntmps c=true)(hN:(rd args).length<=fn.ntmps)
  (h:ex P c [] (PS P fn.results.toList res) (zg6 args)):FC P f args res:=by
 refine qk3 hc hf hb hd hN (zd6 args) fun w vs fp tp hv g a hR hg=>?_
 obtain⟨hr,rfl,rfl⟩:=zel hv
 exact⟨zg6 args,h,qcl hr hR hg⟩
attribute [go_sem] zg6 zhk D.toN T.toN
end
section
open Go.RowKit
variable {P:Program}
theorem owK_rn (t:T)(A B:Prop):owK (.one (.rn t)) A B=B:=by simp[owK,isOw]
attribute [go_sem] owK_rn
end
section
open Go.RowKit
variable {P:Program}
def swp (a b e:Nat):Nat:=if e=a then b else if e=b then a else e
theorem zds (a b e:Nat):swp a b (swp a b e)=e:=by unfold swp;split<;>(try split)<;>(try split)<;>omega
def C.ren (a b:Nat):C->C
 | .ow e g=>.ow (swp a b e) g
 | .eo e g sz i o=>.eo (swp a b e) g sz i o
 | .vw e g sz o=>.vw (swp a b e) g sz o
 | c=>c
def V.ren (a b:Nat):V->V
 | .one c=>.one (c.ren a b)
 | .agg cs=>.agg (cs.map (C.ren a b))
 | .tup xs=>.tup (xs.map fun x=>(x.1,x.2.map (C.ren a b)))
def St.ren (σ:St)(a b:Nat):St:=⟨fun i=>(σ.sl i).ren a b,fun k=>(σ.bx k).map (·.map (C.ren a b)),fun e=>σ.ev (swp a b e)⟩
def Gh.ren (g:Gh)(a b:Nat):Gh:={ g with ψ:=fun e=>g.ψ (swp a b e),φ:=fun e=>g.φ (swp a b e) }
theorem zi4 {σ:St}{a b k:Nat}:(σ.ren a b).bx k≠none↔σ.bx k≠none:=by unfold St.ren;simp
theorem zro {σ:St}{a b e n:Nat}(h:σ.has e n):(σ.ren a b).has (swp a b e) n:=by
 obtain⟨x,h1,h2⟩:=h
 exact⟨x,by show σ.ev (swp a b (swp a b e))=_;rw[zds];exact h1,h2⟩
theorem ztd {σ:St}{g:Gh}{w:World}{a b:Nat}:Fix (σ.ren a b) (g.ren a b) w=Fix σ g w:=by
 funext q
 refine propext ⟨fun h=>⟨fun k hk=>h.1 k (zi4.2 hk),fun e x he ho=>?_,h.2.2⟩,fun h=>⟨fun k hk=>h.1 k (zi4.1 hk),fun e x he ho=>h.2.1 (swp a b e) x he ho,h.2.2⟩⟩
 have:=h.2.1 (swp a b e) x (by show σ.ev (swp a b (swp a b e))=_;rw[zds];exact he) ho
 have e2:(g.ren a b).φ (swp a b e)=g.φ e:=by show g.φ (swp a b (swp a b e))=_;rw[zds]
 rwa [e2]at this
theorem qdv {σ:St}{g:Gh}{w:World}{a b:Nat}:zb6 (σ.ren a b) (g.ren a b) w=zb6 σ g w:=by
 funext q
 unfold zb6
 rw[ztd]
 refine propext ⟨fun h=>⟨h.1,fun e ho hm=>h.2 (swp a b e) ?_ ?_⟩,fun h=>⟨h.1,fun e ho hm=>h.2 (swp a b e) ho hm⟩⟩
 ·show σ.On (swp a b (swp a b e));rw[zds];exact ho
 ·show q∈g.φ (swp a b (swp a b e));rw[zds];exact hm
theorem qc7 {σ:St}{g:Gh}{w:World}{a b:Nat}{c:C}{v:Value}(h:CR σ g w c v):CR (σ.ren a b) (g.ren a b) w (c.ren a b) v:=by
 have hF:=ztd (σ:=σ) (g:=g) (w:=w) (a:=a) (b:=b)
 have hψ:∀e,(g.ren a b).ψ (swp a b e)=g.ψ e:=fun e=>by show g.ψ (swp a b (swp a b e))=_;rw[zds]
 cases c with
 | t x=>show zas _ _ _ _;rw[hF];exact h
 | nl s=>exact h
 | ow e n=>exact⟨by show v=(g.ren a b).ψ (swp a b e) n;rw[hψ];exact h.1,zro h.2⟩
 | bx q o=>exact⟨h.1,zi4.2 h.2⟩
 | el cs o=>obtain⟨q,r,h1,h2,h3⟩:=h;exact⟨q,r,h1,by rw[hF];exact h2,by rw[hF];exact h3⟩
 | eo e s sz i o=>obtain⟨q,n,c,h1,h2,h3,h4⟩:=h;exact⟨q,n,c,by rw[hψ];exact h1,h2,h3,zro h4⟩
 | vw e s sz i=>obtain⟨q,n,c,h1,h2,h3,h4⟩:=h;exact⟨q,n,c,by rw[hψ];exact h1,h2,h3,zro h4⟩
 | fn f caps=>exact⟨h.1,fun q hq=>zi4.2 (h.2 q hq)⟩
 | cv u=>exact h
 | any=>trivial
 | rn x=>show zas _ _ _ _;rw[qdv];exact h
 | er cs o=>obtain⟨q,r,h1,h2,h3⟩:=h;exact⟨q,r,h1,by rw[qdv];exact h2,by rw[qdv];exact h3⟩
theorem zol {σ:St}{g:Gh}{w:World}{a b:Nat}:∀{cs:List C}{vs:List Value},CRs σ g w cs vs->CRs (σ.ren a b) (g.ren a b) w (cs.map (C.ren a b)) vs
 | [],_,h=>h
 | c::cs,_,h=>by obtain⟨v,vs',rfl,h1,h2⟩:=h;exact⟨v,vs',rfl,qc7 h1,zol h2⟩
theorem qdc {σ:St}{g:Gh}{w:World}{a b:Nat}:∀{xs:List (Bool×List C)}{vs:List Value},CRt σ g w xs vs->CRt (σ.ren a b) (g.ren a b) w (xs.map fun x=>(x.1,x.2.map (C.ren a b))) vs
 | [],_,h=>h
 | x::xs,_,h=>by
  obtain⟨v,vs',rfl,h1,h2⟩:=h;refine⟨v,vs',rfl,?_,qdc h2⟩;unfold CRx at h1⊢;split at h1
  ·rw[if_pos ‹_›];obtain⟨q,h3,h4⟩:=h1;exact⟨q,h3,zol h4⟩
  ·rw[if_neg ‹_›];obtain⟨c,h3,h4⟩:=h1;exact⟨c.ren a b,by simp[h3],qc7 h4⟩
theorem vr_ren {σ:St}{g:Gh}{w:World}{a b:Nat}{x:V}{v:Value}(h:VR σ g w x v):VR (σ.ren a b) (g.ren a b) w (x.ren a b) v:=by
 cases x with
 | one c=>exact qc7 h
 | agg cs=>obtain⟨q,h1,h2⟩:=h;exact⟨q,h1,zol h2⟩
 | tup xs=>obtain⟨q,h1,h2⟩:=h;exact⟨q,h1,qdc h2⟩
theorem zmz {σ:St}{a b e:Nat}(h:(σ.ren a b).On e):σ.On (swp a b e):=h
theorem Rel.ren {n0:Nat->Prop}{N:Nat}{σ:St}{g:Gh}{ac:Act}{w:World}(h:Rel n0 N σ g ac w)(a b:Nat):Rel n0 N (σ.ren a b) (g.ren a b) ac w:=by
 have hF:=ztd (σ:=σ) (g:=g) (w:=w) (a:=a) (b:=b)
 refine⟨h.defers,h.size,h.anew,fun i=>vr_ren (h.slots i),fun k cs hk=>?_,fun k hk=>h.base k (zi4.1 hk),fun k k' h1 h2=>h.inj k k' (zi4.1 h1) (zi4.1 h2),fun e x he ho=>?_,fun e x he ho=>?_,fun e n=>h.slc (swp a b e) n,fun e he=>h.ebase _ (zmz he),fun e he=>h.etop _ (zmz he),fun e he=>h.nodup _ (zmz he),fun e e' he he' hne=>h.apart _ _ (zmz he) (zmz he') (fun k=>hne (by rw[<-zds a b e,k,zds])),fun e k he hk=>h.ebx _ k (zmz he) (zi4.1 hk)⟩
 ·obtain⟨cs0,h1,rfl⟩:=Q3.1 hk;obtain⟨vs,ty,k1,k2⟩:=h.boxes k cs0 h1;exact⟨vs,ty,k1,zol k2⟩
 ·rw[hF];exact h.evs (swp a b e) x he ho
 ·rw[hF];exact h.offs (swp a b e) x he ho
theorem zvh (a b:Nat):∀(l:List (Nat×V))(i:Nat),(zgw l i).ren a b=zgw (l.map fun p=>(p.1,p.2.ren a b)) i
 | [],i=>rfl
 | (j,v)::l,i=>by
  simp only[Qi,zgw];split
  ·rfl
  ·exact zvh a b l i
theorem qd8 {α β:Type}(f:α->β):∀(l:List (Nat×α))(i:Nat),(tbl l i).map f=tbl (l.map fun p=>(p.1,f p.2)) i
 | [],i=>rfl
 | (j,v)::l,i=>by
  simp only[Qi,tbl];split
  ·rfl
  ·exact qd8 f l i
theorem zzl {α:Type}(a b:Nat):∀(l:List (Nat×α))(i:Nat),tbl l (swp a b i)=tbl (l.map fun p=>(swp a b p.1,p.2)) i
 | [],i=>rfl
 | (j,v)::l,i=>by
  simp only[Qi,tbl];by_cases h:swp a b i=j
  ·rw[if_pos h,if_pos (by rw[<-h,zds])]
  ·rw[if_neg h,if_neg (fun e=>h (by rw[e,zds]))];exact zzl a b l i
theorem wk_ren (a b:Nat)(l:List (Nat×V))(bl:List (Nat×List C))(el:List (Nat×Ev)):Wk (hd l bl el) (hd (l.map fun p=>(p.1,p.2.ren a b)) (bl.map fun p=>(p.1,p.2.map (C.ren a b))) (el.map fun p=>(swp a b p.1,p.2))):=fun n0 N g ac w hR=>by
 have e:(hd l bl el).ren a b=hd (l.map fun p=>(p.1,p.2.ren a b)) (bl.map fun p=>(p.1,p.2.map (C.ren a b))) (el.map fun p=>(swp a b p.1,p.2)):=by
  unfold hd St.ren;simp only[St.mk.injEq];exact⟨funext fun i=>zvh a b l i,funext fun k=>qd8 _ bl k,funext fun e=>zzl a b el e⟩
 exact⟨g.ren a b,e▸hR.ren a b,rfl,rfl⟩
end
section
open Go.RowKit
variable {P:Program}
def C.evs:C->List Nat
 | .ow e _=>[e]
 | .eo e _ _ _ _=>[e]
 | .vw e _ _ _=>[e]
 | _=>[]
def C.bxs:C->List Nat
 | .bx b _=>[b]
 | .fn _ caps=>caps
 | _=>[]
def V.alls:V->List C
 | .one c=>[c]
 | .agg cs=>cs
 | .tup xs=>xs.flatMap (·.2)
def ins (x:Nat):List Nat->List Nat
 | []=>[x]
 | y::l=>if x=y then y::l else y::ins x l
def zm6:List Nat->List Nat->List Nat
 | [],l=>l
 | x::xs,l=>zm6 xs (ins x l)
def noK (x:Nat):List Nat->Bool
 | []=>true
 | y::l=>if x=y then false else noK x l
def dif (l:List Nat):List Nat->List Nat
 | []=>[]
 | x::xs=>if noK x l=true then x::dif l xs else dif l xs
def qh2:List C->List Nat
 | []=>[]
 | c::cs=>c.bxs++qh2 cs
def qjq:List C->List Nat
 | []=>[]
 | c::cs=>c.evs++qjq cs
def St.kb0 (σ:St):List Nat->List Nat
 | []=>[]
 | i::L=>zm6 (qh2 (σ.sl i).alls) (σ.kb0 L)
def St.kb1 (σ:St):List Nat->List Nat
 | []=>[]
 | b::B=>zm6 (b::qh2 ((σ.bx b).getD [])) (σ.kb1 B)
def St.KB (σ:St)(L:List Nat):List Nat:=σ.kb1 (σ.kb0 L)
def St.ke0 (σ:St):List Nat->List Nat
 | []=>[]
 | i::L=>zm6 (qjq (σ.sl i).alls) (σ.ke0 L)
def St.ke1 (σ:St)(l:List Nat):List Nat->List Nat
 | []=>l
 | b::B=>zm6 (qjq ((σ.bx b).getD [])) (σ.ke1 l B)
def St.KE (σ:St)(L:List Nat):List Nat:=σ.ke1 (σ.ke0 L) (σ.KB L)
def St.lL (σ:St)(L:List Nat):List (Nat×V):=L.map fun i=>(i,σ.sl i)
def St.lB (σ:St)(B:List Nat):List (Nat×List C):=B.map fun b=>(b,(σ.bx b).getD [])
def St.lE (σ:St)(E:List Nat):List (Nat×Ev):=E.map fun e=>(e,(σ.ev e).getD ⟨false,0,[],0,false⟩)
def St.hL (σ:St)(L:List Nat):St:=hd (σ.lL L) (σ.lB (σ.KB L)) (σ.lE (σ.KE L))
def wkK (σ:St)(L:List Nat):Prop:=wkL σ (σ.hL L) (σ.lL L)/\wkB σ (σ.hL L) (σ.lB (σ.KB L))/\wkE σ (σ.lE (σ.KE L))
theorem wkK_wk {σ:St}{L:List Nat}(h:wkK σ L):Wk σ (σ.hL L):=zad h
section
variable {ks:List Fr}{Q:Exit->St->Prop}{σ:St}{ops:Array Oper}{os:List Oper}{ty:TypeId}{ps:String}{af:Array Edge}{dst:Option Nat}{x:Operand}{asx:Array Operand}{ts:Array TypeId}{f:FuncId}
theorem zdx {d:Nat}{ds:List (Bool×D)}{res:List D}(L A:List Nat)(pl:List (Nat×Nat×Nat))(h:GC P f ds res)
  (hw:wkL σ (hd (σ.lL A++σ.lL L) (σ.lB (dif (σ.KB L) (σ.KB A))++σ.lB (σ.KB L)) (σ.lE (dif (σ.KE L) (σ.KE A))++σ.lE (σ.KE L))) (σ.lL A++σ.lL L)/\wkB σ (hd (σ.lL A++σ.lL L) (σ.lB (dif (σ.KB L) (σ.KB A))++σ.lB (σ.KB L)) (σ.lE (dif (σ.KE L) (σ.KE A))++σ.lE (σ.KE L))) (σ.lB (dif (σ.KB L) (σ.KB A))++σ.lB (σ.KB L))/\wkE σ (σ.lE (dif (σ.KE L) (σ.KE A))++σ.lE (σ.KE L)))
  (hk:zdt (σ.lL L) (σ.lL A)/\zdt (σ.lB (σ.KB L)) (σ.lB (dif (σ.KB L) (σ.KB A)))/\zdt (σ.lE (σ.KE L)) (σ.lE (dif (σ.KE L) (σ.KE A)))/\okL (σ.hL L) (σ.lL L)/\okB (σ.hL L) (σ.lB (σ.KB L))/\okE (σ.lE (σ.KE L)))
  (hp:zav (za1 ((hd (σ.lL A++σ.lL L) (σ.lB (dif (σ.KB L) (σ.KB A))++σ.lB (σ.KB L)) (σ.lE (dif (σ.KE L) (σ.KE A))++σ.lE (σ.KE L))).get P 0 x)) fun p=>p.1=f/\gvA (hd (σ.lL A++σ.lL L) (σ.lB (dif (σ.KB L) (σ.KB A))++σ.lB (σ.KB L)) (σ.lE (dif (σ.KE L) (σ.KE A))++σ.lE (σ.KE L))) (zpa (σ.lE (σ.KE L))) [] pl ((hd (σ.lL A++σ.lL L) (σ.lB (dif (σ.KB L) (σ.KB A))++σ.lB (σ.KB L)) (σ.lE (dif (σ.KE L) (σ.KE A))++σ.lE (σ.KE L))).gets P asx ts++p.2) ds)
  (hf:zg7 d 0 (zbd res) (σ.hL L).ev) (k:exo P ops os ks Q ((σ.hL L).callF d res)):exo P ops (⟨some d,.call ⟨.value x,asx,ts⟩,ty,ps,af,none⟩::os) ks Q σ :=
 callG (σ.lL A) (σ.lL L) _ _ _ _ pl h hw hk hp hf k
theorem ql8 {σ:St}{g:Gh}{w:World}{d:D}{v:Value}(h:zys w (zb6 σ g w) d v):VR σ g w d.toN v:=zm2 (fun _ h=>h) h
theorem zbv.vrlN {σ:St}{g:Gh}{w:World}:∀{ds:List D}{us:List Value},zbv w (zb6 σ g w) ds us->VRl σ g w (ds.map D.toN) us
 | [],us,h=>h
 | d::ds,us,h=>by
  obtain⟨u,us',rfl,h1,h2⟩:=h;exact⟨u,us',rfl,ql8 h1,zbv.vrlN h2⟩
theorem zej.rep {w:World}{A:Nat->Prop}:∀{ds:List D}{us:List Value}{fp:List Nat},zej w ds us fp->(∀b∈fp,A b)->zbv w A ds us
 | [],us,fp,h,_=>h.1
 | .one t::ds,us,fp,h,hA=>by
  obtain⟨v,vs',f1,f2,rfl,rfl,h1,h2⟩:=h;exact⟨v,vs',rfl,za3.rep t v f1 h1 fun b hb=>hA b (by simp[hb]),zej.rep h2 fun b hb=>hA b (by simp[hb])⟩
 | .agg ts::ds,us,fp,h,hA=>by
  obtain⟨v,vs',f1,f2,rfl,rfl,⟨y,rfl,h1⟩,h2⟩:=h;exact⟨_,vs',rfl,⟨y,rfl,h1.rep fun b hb=>hA b (by simp[hb])⟩,zej.rep h2 fun b hb=>hA b (by simp[hb])⟩
theorem za7.lt {w:World}:∀{cs:List T}{vs:List Value}{fps:List Nat},za7 w cs vs fps->∀b∈fps,b<w.heap.size
 | [],_,_,h,b,hb=>by rw[h.2]at hb;simp at hb
 | c::cs,_,_,h,b,hb=>by
  obtain⟨v,vs',f1,f2,rfl,rfl,h1,h2⟩:=h;rcases Qv.1 hb with hb|hb
  ·exact za3.lt c v f1 h1 b hb
  ·exact za7.lt h2 b hb
theorem zej.ltD {w:World}:∀{ds:List D}{us:List Value}{fp:List Nat},zej w ds us fp->∀b∈fp,b<w.heap.size
 | [],us,fp,h,b,hb=>by rw[h.2]at hb;simp at hb
 | .one t::ds,us,fp,h,b,hb=>by
  obtain⟨v,vs',f1,f2,rfl,rfl,h1,h2⟩:=h;rcases Qv.1 hb with hb|hb
  ·exact za3.lt t v f1 h1 b hb
  ·exact zej.ltD h2 b hb
 | .agg ts::ds,us,fp,h,b,hb=>by
  obtain⟨v,vs',f1,f2,rfl,rfl,⟨y,rfl,h1⟩,h2⟩:=h;rcases Qv.1 hb with hb|hb
  ·exact za7.lt h1 b hb
  ·exact zej.ltD h2 b hb
theorem Rel.frNew {n0:Nat->Prop}{N:Nat}{σ:St}{g:Gh}{a:Act}{w w':World}(hR:Rel n0 N σ g a w)(hn:LtK n0 w){b:Nat}(h1:w.heap.size<=b)(h2:b<w'.heap.size):zb6 σ g w' b:=by
 refine⟨⟨fun k hk e=>by have:=hR.lt hk;omega,fun e x hx ho hh=>?_,h2,(hR.anew b (hn.new h1)).1⟩,fun e ⟨x,hx,ho⟩ hm=>?_⟩
 ·have:=(hR.evs e x hx ho).lt b (List.mem_of_mem_head? hh);omega
 ·have:=(hR.evs e x hx ho).lt b hm;omega
def St.callN (σ:St)(d:Option Nat)(res:List D):St:=σ.put d (zlk (res.map D.toN))
theorem zzq (res:List D):∀y∈res.map D.toN,y.isTup=false:=fun y hy=>by
 obtain⟨d,_,rfl⟩:=Kn.1 hy
 cases d<;>rfl
theorem zxd {o:Oper}{x:Operand}{asx:Array Operand}{ts:Array TypeId}{f:FuncId}{cvs:List V}{ds res:List D}(ho:o.op=.call ⟨.value x,asx,ts⟩)
  (h:FC P f ds res) (hc:za1 (σ.get P 0 x)=some (f,cvs)) (hv:VDs σ (σ.gets P asx ts++cvs) ds):zai P o σ (σ.callN o.dst res):=by
 intro n0 N g a w hR hn hdN
 obtain⟨vs,h1,h2⟩:=zdc hR ho hc h.1
 unfold Oper.wp
 rw[h1]
 refine(h.use (VDs.rep hR hv h2)).mono ?_
 rintro e w' ⟨us,fp,rfl,o1,o2,o3,hb⟩
 have hR':Rel n0 N σ g a w':=hR.after hn hb (New.refl σ g (w.heap.size<=·) w' hR.slc)
 refine⟨g,?_,Bk.of_below hb hn,rfl,rfl⟩
 exact hR'.put o.dst (zd7 (zbv.vrlN (o1.rep fun b hb'=>hR.frNew hn (o3 b hb') (o1.ltD b hb'))) (zzq res)) hdN
theorem zku {ds res:List D}(h:FC P f ds res)(hp:zav (za1 (σ.get P 0 x)) fun p=>p.1=f/\VDs σ (σ.gets P asx ts++p.2) ds)
  (k:exo P ops os ks Q (σ.callN dst res)):exo P ops (⟨dst,.call ⟨.value x,asx,ts⟩,ty,ps,af,none⟩::os) ks Q σ:=by
 obtain⟨⟨f',cvs⟩,h1,rfl,h2⟩:=zar hp
 exact zda rfl rfl (zxd rfl h h1 h2) k
theorem qll {g:Gh}{w:World}{c:C}{t:T}{v:Value}(h:rdC c t)(hv:CR σ g w c v):zas w (zb6 σ g w) t v:=by
 unfold rdC at h
 split at h
 ·rename_i x;obtain⟨rfl,hn⟩:=h;exact zk9 (σ:=σ) (g:=g) (x:=.one (.t x)) (d:=.one x) ⟨rfl,hn⟩ hv _
 ·rename_i f f';subst h;exact zk9 (σ:=σ) (g:=g) (x:=.one (.fn f [])) (d:=.one (.fn f [])) rfl hv _
 ·subst h;exact hv
 ·obtain⟨rfl,rfl⟩:=h;obtain⟨b,q,h1,h2,h3⟩:=hv;unfold zas;exact⟨b,q,h1,h2,h3⟩
 ·subst h;rw[show v=.slice none 0 0 from hv];unfold zas;exact⟨none,0,rfl,by simp,by simp,Or.inl rfl⟩
 ·exact h.elim
theorem qex {g:Gh}{w:World}:∀{cs:List C}{ts:List T}{vs:List Value},rdCs cs ts->CRs σ g w cs vs->zah w (zb6 σ g w) ts vs
 | [],[],vs,_,hv=>by unfold zah;exact hv
 | [],_::_,_,h,_=>h.elim
 | _::_,[],_,h,_=>h.elim
 | c::cs,t::ts,vs,h,hv=>by
  obtain⟨v,vs',rfl,h1,h2⟩:=hv;unfold zah;exact⟨v,vs',rfl,qll h.1 h1,qex h.2 h2⟩
theorem qes {g:Gh}{w:World}{x:V}{d:D}{v:Value}(h:rdV x d)(hv:VR σ g w x v):zys w (zb6 σ g w) d v:=by
 unfold rdV at h
 split at h
 ·exact qll h hv
 ·obtain⟨b,e,hv⟩:=hv;exact⟨b,e,qex h hv⟩
 ·exact h.elim
def qju:List V->List D->Prop
 | [],ds=>ds=[]
 | v::vs,ds=>∃d ds',ds=d::ds'/\rdV v d/\qju vs ds'
theorem qeg (v:V)(vs:List V)(d:D)(ds:List D):qju (v::vs) (d::ds)=(rdV v d/\qju vs ds):=by
 refine propext ⟨fun⟨_,_,e,h⟩=>?_,fun h=>⟨d,ds,rfl,h⟩⟩
 cases e;exact h
theorem qio:qju [] []=True:=by simp[qju]
theorem zzi {g:Gh}{w:World}:∀{xs:List V}{ds:List D},qju xs ds->∀{vs:List Value},VRl σ g w xs vs->zbv w (zb6 σ g w) ds vs
 | [],ds,h,vs,hv=>by rw[show ds=[] from h];exact hv
 | x::xs,ds,h,vs,hv=>by
  obtain⟨d,ds',rfl,h1,h2⟩:=h;obtain⟨v,vs',rfl,k1,k2⟩:=hv;exact⟨v,vs',rfl,qes h1 k1,zzi h2 k2⟩
theorem zwu {o:Oper}{x:Operand}{asx:Array Operand}{ts:Array TypeId}{f:FuncId}{cvs:List V}{ds res:List D}(ho:o.op=.call ⟨.value x,asx,ts⟩)
  (h:RC P f ds res) (hc:za1 (σ.get P 0 x)=some (f,cvs)) (hv:qju (σ.gets P asx ts++cvs) ds):zai P o σ (σ.callN o.dst res):=by
 intro n0 N g a w hR hn hdN
 obtain⟨vs,h1,h2⟩:=zdc hR ho hc h.1
 unfold Oper.wp
 rw[h1]
 have hargs:=(zzi hv h2).keep (A':=fun b=>b<w.heap.size/\zb6 σ g w b) (fun _ _=>rfl) fun b hb=>⟨hb.1.2.2.1,hb⟩
 refine(h.2 w vs (zb6 σ g w) hargs).mono ?_
 rintro e w' ⟨us,rfl,o1,hb⟩
 have hR':Rel n0 N σ g a w':=hR.after hn hb (New.refl σ g (w.heap.size<=·) w' hR.slc)
 refine⟨g,?_,Bk.of_below hb hn,rfl,rfl⟩
 refine hR'.put o.dst (zd7 (zbv.vrlN (o1.keep (fun _ _=>rfl) fun b hb'=>?_)) (zzq res)) hdN
 rcases hb'.2 with hf|hf
 ·exact⟨⟨hf.1.1,hf.1.2.1,hb'.1,hf.1.2.2.2⟩,hf.2⟩
 ·exact hR.frNew hn hf hb'.1
theorem callRn {ds res:List D}(h:RC P f ds res)(hp:zav (za1 (σ.get P 0 x)) fun p=>p.1=f/\qju (σ.gets P asx ts++p.2) ds)
  (k:exo P ops os ks Q (σ.callN dst res)):exo P ops (⟨dst,.call ⟨.value x,asx,ts⟩,ty,ps,af,none⟩::os) ks Q σ:=by
 obtain⟨⟨f',cvs⟩,h1,rfl,h2⟩:=zar hp
 exact zda rfl rfl (zwu rfl h h1 h2) k
end
def gVN (k:Nat):Bool×D->V
 | (false,d)=>d.toN
 | (true,d)=>gV k (true,d)
def zhs:Nat->List (Bool×D)->Nat->V
 | _,[]=>fun _=>.one .any
 | k,d::ds=>upd (zhs (k+1) ds) k (gVN k d)
def zdv (args:List (Bool×D)):St:=⟨zhs 0 args,fun _=>none,zfh 0 args⟩
theorem zlh:∀(ds:List (Bool×D))(k i:Nat),zhs k ds (k+i)=match ds[i]? with|some d=>gVN (k+i) d|none=>.one .any
 | [],k,i=>by simp[zhs]
 | d::ds,k,0=>by simp[zhs,upd]
 | d::ds,k,i+1=>by
  unfold zhs;rw[zal _ _ Yt,show k+(i+1)=k+1+i by omega,zlh ds (k+1) i];simp
theorem za0.atR {w:World}{A:Nat->Prop}:∀{ds:List (Bool×D)}{vs:List Value}{fp tp:List Nat},za0 w A ds vs fp tp->∀(i:Nat) d,ds[i]?=some (false,d)->∃v,vs[i]?=some v/\zys w A d v
 | [],_,_,_,_,i,d,h=>by simp at h
 | (false,e)::ds,_,_,_,h,0,d,hi=>by
  obtain⟨v,vs',rfl,h1,_⟩:=h;simp only[List.getElem?_cons_zero,Qf,Qp,true_and]at hi;subst hi;exact⟨v,rfl,h1⟩
 | (true,e)::ds,_,_,_,h,0,d,hi=>by simp at hi
 | (false,e)::ds,_,_,_,h,i+1,d,hi=>by
  obtain⟨v,vs',rfl,_,h2⟩:=h;simpa using za0.atR h2 i d (by simpa using hi)
 | (true,e)::ds,_,_,_,h,i+1,d,hi=>by
  obtain⟨v,vs',f1,f2,t1,t2,rfl,rfl,rfl,_,h2⟩:=h;simpa using za0.atR h2 i d (by simpa using hi)
theorem Rel.frOld {n0:Nat->Prop}{N:Nat}{σ:St}{g:Gh}{a:Act}{w:World}(h:Rel n0 N σ g a w){b:Nat}(h1:n0 b)(h2:b<w.heap.size)(h3:g.A0 b):zb6 σ g w b :=
 ⟨⟨fun k hk e=>h.base k hk (e▸h1),fun e x hx ho hh=>h.etop e ⟨x,hx,ho⟩ b (List.mem_of_mem_head? hh) h1,h2,h3⟩,fun e ho hm=>h.etop e ho b hm h1⟩
theorem zx5 {args:List (Bool×D)}{w:World}{vs:List Value}{fp tp:List Nat}{N:Nat}{g:Gh}{a:Act}(hv:za0 w (fun b=>b<w.heap.size/\b∉fp) args vs fp tp)(hR:Rel (fun b=>b<w.heap.size/\b∉fp) N (zdq args) g a w)
  (ht:a.tmps=(⟨vs⟩:Array Value)++Array.replicate (N-vs.length) undef) (hA:∀b,g.A0 b):Rel (fun b=>b<w.heap.size/\b∉fp) N (zdv args) g a w:=by
 have hm:Mv (zdq args) (zdv args) g g w w:=Mv.of_eq g w rfl rfl
 refine hR.slots_of (σ':=zdv args) rfl rfl hR.defers hR.size fun i=>?_
 refine(Mv.of_eq (σ:=zdv args) (σ':=zdq args) g w rfl rfl).vr (σ:=zdv args) ?_
 have hi:=zlh args 0 i
 rw[Q2]at hi
 show VR _ _ _ (zhs 0 args i) _
 rw[hi]
 cases hd:args[i]? with
 | none=>trivial
 | some p =>
  obtain⟨b,d⟩:=p;cases b with
  | true =>
   have h0:=hm.vr (hR.slots i);have hj:=zht args 0 i;rw[Q2,hd]at hj;have h0':VR (zdv args) g w (zjj 0 args i) (a.tmps.getD i (g.R0.ξ i)):=h0;rw[hj]at h0';exact h0'
  | false =>
   obtain⟨v,hv1,hv2⟩:=za0.atR hv i d hd;have hlt:i<vs.length:=(List.getElem?_eq_some_iff.1 hv1).1;have e:a.tmps.getD i (g.R0.ξ i)=v:=by
    rw[ht,Array.getD_eq_getD_getElem?,Array.getElem?_append_left (by simpa using hlt)];simp[hv1]
   rw[e];exact hm.vr (zm2 (fun b hb=>hR.frOld hb hb.1 (hA b)) hv2)
theorem ztn {f:FuncId}{fn:Func}{c:Code}{args:List (Bool×D)}{res:List D}(hc:zbw P f)(hf:P.funcs[f]?=some fn)(hb:fn.body=some c)(hd:zei fn.ntmps c=true)(hN:args.length<=fn.ntmps)(hs:zau args)
  (h:ex P c [] (PS P fn.results.toList res) (zdv args)):GC P f args res :=
 qk3 hc hf hb hd hN hs fun w vs fp tp hv g a hR hg=>⟨_,h,zx5 hv hR hg.1 fun b=>by rw[(Jq hg.2).1];trivial⟩
def renL (a b:Nat)(l:List (Nat×V)):List (Nat×V):=l.map fun p=>(p.1,p.2.ren a b)
def renB (a b:Nat)(l:List (Nat×List C)):List (Nat×List C):=l.map fun p=>(p.1,p.2.map (C.ren a b))
def renE (a b:Nat)(l:List (Nat×Ev)):List (Nat×Ev):=l.map fun p=>(swp a b p.1,p.2)
theorem zv1 (a b:Nat)(c:C):(c.ren a b).ren a b=c:=by cases c<;>simp[C.ren,zds]
theorem zop (a b:Nat)(cs:List C):(cs.map (C.ren a b)).map (C.ren a b)=cs:=by
 rw[Kh];exact(Kk fun c _=>zv1 a b c).trans (Yl cs)
theorem qhz (a b:Nat)(v:V):(v.ren a b).ren a b=v:=by
 cases v with
 | one c=>simp[V.ren,zv1]
 | agg cs=>simp only[V.ren,zop]
 | tup xs =>
  simp only[V.ren,Kh]
  congr 1
  exact(Kk fun x _=>by simp only[Function.comp,zop];rfl).trans (Yl xs)
theorem zch (a b:Nat){σ:St}{l:List (Nat×V)}{bl:List (Nat×List C)}{el:List (Nat×Ev)}(h:wkL σ (hd (renL a b l) (renB a b bl) (renE a b el)) (renL a b l)/\wkB σ (hd (renL a b l) (renB a b bl) (renE a b el)) (renB a b bl)/\wkE σ (renE a b el)):Wk σ (hd l bl el):=by
 have h1:=(zad h).trans (wk_ren a b _ _ _)
 have e1:(renL a b l).map (fun p=>(p.1,p.2.ren a b))=l:=by
  unfold renL;rw[Kh];exact(Kk fun p _=>by simp only[Function.comp,qhz];rfl).trans (Yl l)
 have e2:(renB a b bl).map (fun p=>(p.1,p.2.map (C.ren a b)))=bl:=by
  unfold renB;rw[Kh];exact(Kk fun p _=>by simp only[Function.comp,zop];rfl).trans (Yl bl)
 have e3:(renE a b el).map (fun p=>(swp a b p.1,p.2))=el:=by
  unfold renE;rw[Kh];exact(Kk fun p _=>by simp only[Function.comp,zds];rfl).trans (Yl el)
 rw[e1,e2,e3]at h1
 exact h1
attribute [go_sem] C.evs C.bxs V.alls ins zm6 noK dif qh2 qjq St.kb0 St.kb1 St.KB St.ke0 St.ke1 St.KE St.lL St.lB St.lE St.hL wkK St.callN qio qeg gVN zhs zdv renL renB renE C.ren V.ren swp
end
section
open Go.RowKit
variable {P:Program}
theorem za0.append {w:World}{A:Nat->Prop}:∀{d1 d2:List (Bool×D)}{v1 v2:List Value}{f1 f2 t1 t2:List Nat},za0 w A d1 v1 f1 t1->za0 w A d2 v2 f2 t2->za0 w A (d1++d2) (v1++v2) (f1++f2) (t1++t2)
 | [],_,_,_,_,_,_,_,h,k=>by obtain⟨rfl,rfl,rfl⟩:=h;exact k
 | (true,d)::ds,_,_,_,_,_,_,_,h,k=>by
  obtain⟨v,vs',g1,g2,s1,s2,rfl,rfl,rfl,h1,h2⟩:=h;exact⟨v,_,g1,_,s1,_,rfl,by rw[Km],by rw[Km],h1,za0.append h2 k⟩
 | (false,d)::ds,_,_,_,_,_,_,_,h,k=>by
  obtain⟨v,vs',rfl,h1,h2⟩:=h;exact⟨v,_,rfl,h1,za0.append h2 k⟩
theorem za0.len {w:World}{A:Nat->Prop}:∀{ds:List (Bool×D)}{vs:List Value}{fp tp:List Nat},za0 w A ds vs fp tp->vs.length=ds.length
 | [],_,_,_,h=>by rw[h.1];rfl
 | (true,d)::ds,_,_,_,h=>by obtain⟨v,vs',_,_,_,_,rfl,rfl,rfl,_,h2⟩:=h;simp[za0.len h2]
 | (false,d)::ds,_,_,_,h=>by obtain⟨v,vs',rfl,_,h2⟩:=h;simp[za0.len h2]
theorem za0.split {w:World}{A:Nat->Prop}:∀{d1 d2:List (Bool×D)}{vs:List Value}{fp tp:List Nat},za0 w A (d1++d2) vs fp tp->∃v1 v2 f1 f2 t1 t2,vs=v1++v2/\fp=f1++f2/\tp=t1++t2/\za0 w A d1 v1 f1 t1/\za0 w A d2 v2 f2 t2
 | [],d2,vs,fp,tp,h=>⟨[],vs,[],fp,[],tp,rfl,rfl,rfl,⟨rfl,rfl,rfl⟩,h⟩
 | (true,d)::ds,d2,_,_,_,h=>by
  obtain⟨v,vs',g1,g2,s1,s2,rfl,rfl,rfl,h1,h2⟩:=h;obtain⟨v1,v2,f1,f2,t1,t2,rfl,rfl,rfl,k1,k2⟩:=za0.split h2;exact⟨v::v1,v2,g1++f1,f2,s1++t1,t2,rfl,by rw[Km],by rw[Km],⟨v,v1,g1,f1,s1,t1,rfl,rfl,rfl,h1,k1⟩,k2⟩
 | (false,d)::ds,d2,_,_,_,h=>by
  obtain⟨v,vs',rfl,h1,h2⟩:=h;obtain⟨v1,v2,f1,f2,t1,t2,rfl,rfl,rfl,k1,k2⟩:=za0.split h2;exact⟨v::v1,v2,f1,f2,t1,t2,rfl,rfl,rfl,⟨v,v1,rfl,h1,k1⟩,k2⟩
def zbl:List (Bool×D)->List (Bool×T)
 | []=>[]
 | (b,.one t)::ds=>(b,t)::zbl ds
 | (b,.agg ts)::ds=>ts.map (fun t=>(b,t))++zbl ds
def bxA (box:List (Bool×T)):List (Bool×D):=box.map fun p=>(p.1,.one p.2)
theorem zyi.ones {w:World}{A:Nat->Prop}:∀{ts:List T}{vs:List Value}{fp tp:List Nat},zyi w ts vs fp tp->za0 w A (bxA (ts.map fun t=>(true,t))) vs fp tp
 | [],_,_,_,h=>h
 | t::ts,_,_,_,h=>by
  obtain⟨v,vs',f1,f2,t2,rfl,rfl,rfl,h1,h2⟩:=h;exact⟨v,vs',f1,f2,_,t2,rfl,rfl,rfl,⟨h1,rfl⟩,zyi.ones h2⟩
theorem zah.ones {w:World}{A:Nat->Prop}:∀{ts:List T}{vs:List Value},zah w A ts vs->za0 w A (bxA (ts.map fun t=>(false,t))) vs [] []
 | [],_,h=>by unfold zah at h;exact⟨h,rfl,rfl⟩
 | t::ts,_,h=>by
  unfold zah at h;obtain⟨v,vs',rfl,h1,h2⟩:=h;exact⟨v,vs',rfl,h1,zah.ones h2⟩
theorem zgf (a b:List (Bool×T)):bxA (a++b)=bxA a++bxA b:=Qt
theorem zas.cells1 {w:World}{A:Nat->Prop}{t:T}{v:Value}(h:zas w A t v):v.cells=#[v]:=(zas.one h).2
theorem za0.flat {w:World}{A:Nat->Prop}:∀{ds:List (Bool×D)}{vs:List Value}{fp tp:List Nat},za0 w A ds vs fp tp->∃tp',za0 w A (bxA (zbl ds)) (vs.flatMap fun u=>u.cells.toList) fp tp'
 | [],_,_,_,h=>by obtain⟨rfl,rfl,rfl⟩:=h;exact⟨[],rfl,rfl,rfl⟩
 | (true,.one t)::ds,_,_,_,h=>by
  obtain⟨v,vs',f1,f2,t1,t2,rfl,rfl,rfl,h1,h2⟩:=h;obtain⟨tp',h2⟩:=za0.flat h2;have e:(v::vs').flatMap (fun u=>u.cells.toList)=v::vs'.flatMap fun u=>u.cells.toList:=by
   have h1':za3 w t v f1:=h1.1;simp[h1'.one]
  exact⟨t1++tp',v,_,f1,f2,t1,tp',e,rfl,rfl,h1,h2⟩
 | (false,.one t)::ds,_,_,_,h=>by
  obtain⟨v,vs',rfl,h1,h2⟩:=h;obtain⟨tp',h2⟩:=za0.flat h2;have e:(v::vs').flatMap (fun u=>u.cells.toList)=v::vs'.flatMap fun u=>u.cells.toList:=by
   have h1':zas w A t v:=h1;simp[h1'.cells1]
  exact⟨tp',v,_,e,h1,h2⟩
 | (true,.agg ts)::ds,_,_,_,h=>by
  obtain⟨v,vs',f1,f2,t1,t2,rfl,rfl,rfl,⟨a,rfl,h1⟩,h2⟩:=h;obtain⟨tp',h2⟩:=za0.flat h2;refine⟨t1++tp',?_⟩;show za0 w A (bxA (ts.map (fun t=>(true,t))++zbl ds)) (a++vs'.flatMap fun u=>u.cells.toList) _ _
  rw[zgf];exact za0.append h1.ones h2
 | (false,.agg ts)::ds,_,_,_,h=>by
  obtain⟨v,vs',rfl,⟨a,rfl,h1⟩,h2⟩:=h;obtain⟨tp',h2⟩:=za0.flat h2;refine⟨[]++tp',?_⟩;show za0 w A (bxA (ts.map (fun t=>(false,t))++zbl ds)) (a++vs'.flatMap fun u=>u.cells.toList) _ _
  rw[zgf];exact za0.append h1.ones h2
def mC1 (d j:Nat):Bool×T->C
 | (true,t)=>owC d j t
 | (false,t)=>t.toN
def mC (d:Nat):Nat->List (Bool×T)->List C
 | _,[]=>[]
 | j,p::ts=>mC1 d j p::mC d (j+1) ts
def mE (d:Nat):Nat->List (Bool×T)->(Nat->Option Ev)->(Nat->Option Ev)
 | _,[],f=>f
 | j,(true,t)::ts,f=>mE d (j+1) ts (zsa d j f t)
 | j,(false,_)::ts,f=>mE d (j+1) ts f
def mF (d:Nat):Nat->List (Bool×T)->(Nat->Option Ev)->Prop
 | _,[],_=>True
 | j,(true,t)::ts,f=>qfm d j f t/\mF d (j+1) ts (zsa d j f t)
 | j,(false,_)::ts,f=>mF d (j+1) ts f
def mD (d:Nat):Nat->List (Bool×D)->List V
 | _,[]=>[]
 | j,(b,.one t)::ds=>.one (mC1 d j (b,t))::mD d (j+1) ds
 | j,(b,.agg ts)::ds=>.agg (mC d j (ts.map fun t=>(b,t)))::mD d (j+ts.length) ds
theorem zq7 (d:Nat):∀(ts:List (Bool×T))(j:Nat),(mC d j ts).length=ts.length
 | [],_=>rfl
 | t::ts,j=>by simp[mC,zq7 d ts]
theorem zfx (d:Nat):∀(t1 t2:List (Bool×T))(j:Nat),mC d j (t1++t2)=mC d j t1++mC d (j+t1.length) t2
 | [],_,_=>by simp[mC]
 | t::ts,t2,j=>by simp only[K6,mC,zfx d ts t2 (j+1),Qb];rw[show j+1+ts.length=j+(ts.length+1) by omega]
theorem zp3 (d:Nat):∀(ds:List (Bool×D))(j:Nat),∀x∈mD d j ds,x.isTup=false
 | [],_,x,hx=>by simp[mD]at hx
 | (_,.one t)::ds,j,x,hx=>by
  simp only[mD,Qu]at hx;rcases hx with rfl|hx
  ·rfl
  ·exact zp3 d ds _ x hx
 | (_,.agg ts)::ds,j,x,hx=>by
  simp only[mD,Qu]at hx;rcases hx with rfl|hx
  ·rfl
  ·exact zp3 d ds _ x hx
theorem New.mix {τ:St}{g:Gh}{NB:Nat->Prop}{w':World}{A:Nat->Prop}(d:Nat):∀(ts:List (Bool×T))(vs:List Value)(fp tp:List Nat)(j:Nat)(ev':Nat->Option Ev)(g':Gh)(F:List Nat),New τ g NB w' ev' g' F->mF d j ts ev'->za0 w' A (bxA ts) vs fp tp->fp.Nodup->(∀b∈fp,NB b/\b∉F) →
  ∃g'',New τ g NB w' (mE d j ts ev') g'' (F++fp)/\(∀e,ev' e≠none->mE d j ts ev' e=ev' e/\g''.ψ e=g'.ψ e)/\∀(σ':St) (w'':World),σ'.ev=mE d j ts ev'->(∀t v,zas w' A t v->zas w'' (zb6 σ' g'' w'') t v)->CRs σ' g'' w'' (mC d j ts) vs
 | [],vs,fp,tp,j,ev',g',F,hN,hf,ho,hd,hb=>by
  obtain⟨rfl,rfl,rfl⟩:=ho;exact⟨g',by simpa[mE]using hN,fun e _=>⟨rfl,rfl⟩,fun _ _ _ _=>rfl⟩
 | (false,t)::ts,vs,fp,tp,j,ev',g',F,hN,hf,ho,hd,hb=>by
  obtain⟨v,vs',rfl,h1,h2⟩:=ho;obtain⟨g'',k1,k2,k3⟩:=New.mix d ts vs' fp tp (j+1) ev' g' F hN hf h2 hd hb;exact⟨g'',k1,k2,fun σ' w'' hσ hr=>⟨v,vs',rfl,qbq (hr t v h1),k3 σ' w'' hσ hr⟩⟩
 | (true,t)::ts,vs,fp,tp,j,ev',g',F,hN,hf,ho,hd,hb=>by
  obtain⟨v,vs',f1,f2,t1,t2,rfl,rfl,rfl,⟨h1,_⟩,h2⟩:=ho;obtain⟨hf1,hf2⟩:=hf;obtain⟨hd1,hd2,hd3⟩:=Ka.1 hd;have h1:za3 w' t v f1:=h1;by_cases hfl:t.flat=true
  ·have hz:f1=[]/\owC d j t=.t t/\zsa d j ev' t=ev'/\∀(σ':St) (g'':Gh) (w'':World),CR σ' g'' w'' (.t t) v:=by
    cases t<;>simp only[T.flat,Qn]at hfl
    ·unfold za3 at h1;exact⟨h1.2.2.2,rfl,rfl,fun _ _ _=>by simp only[CR,zas];exact⟨h1.1,h1.2.1,h1.2.2.1⟩⟩
    ·unfold za3 at h1;exact⟨h1.2,rfl,rfl,fun _ _ _=>by simp only[CR,zas];exact h1.1⟩
    ·unfold za3 at h1;exact⟨h1.2.2,rfl,rfl,fun _ _ _=>by simp only[CR,zas];exact⟨h1.1,h1.2.1⟩⟩
    ·unfold za3 at h1;exact⟨h1.2,rfl,rfl,fun _ _ _=>by simp only[CR,zas];exact h1.1⟩
   obtain⟨rfl,c2,c3,c4⟩:=hz;rw[c3]at hf2;obtain⟨g'',k1,k2,k3⟩:=New.mix d ts vs' f2 t2 (j+1) ev' g' F hN hf2 h2 hd2 (fun b hb'=>hb b (by simp[hb']));refine⟨g'',by simpa[mE,c3]using k1,fun e he=>by simpa[mE,c3]using k2 e he,fun σ' w'' hσ hr=>⟨v,vs',rfl,?_,k3 σ' w'' (by simpa[mE,c3]using hσ) hr⟩⟩;show CR σ' g'' w'' (owC d j t) v
   rw[c2];exact c4 _ _ _
  ·cases t<;>simp only[T.flat,Qn,Ye,not_true]at hfl
   ·rename_i sz rows;have hi':ev' (d*32+j)=none:=hf1;have hi:τ.ev (d*32+j)=none:=by
     cases hx:τ.ev (d*32+j)with
     | none=>rfl
     | some x=>have:=(hN.old (d*32+j) (by rw[hx];simp)).1;rw[hi',hx]at this;cases this
    have hadd:=hN.add hi hi' h1 (fun b hb'=>(hb b (by simp[hb'])).1) hd1 (fun b hb'=>(hb b (by simp[hb'])).2)
    obtain⟨g'',k1,k2,k3⟩:=New.mix d ts vs' f2 t2 (j+1) _ _ _ hadd hf2 h2 hd2 (fun b hb'=>⟨(hb b (by simp[hb'])).1,by
      have:=(hb b (by simp[hb'])).2;simp only[Qv,not_or]
      exact⟨this,fun hf=>hd3 b hf b hb' rfl⟩⟩)
    refine⟨g'',by simpa[mE,zsa]using k1,fun e he=>?_,fun σ' w'' hσ hr=>⟨v,vs',rfl,?_,k3 σ' w'' hσ hr⟩⟩
    ·have hne:e≠d*32+j:=fun h=>he (h▸hi');have:=k2 e (by rw[zal _ _ hne];exact he);simp only[zal _ _ hne]at this;exact this
    ·have:=k2 (d*32+j) (by rw[zag];simp);simp only[zag]at this;exact⟨by rw[this.2],_,by rw[hσ];exact this.1,Q1 _⟩
   ·unfold za3 at h1;exact h1.elim
   ·unfold za3 at h1;exact h1.elim
   ·unfold za3 at h1;exact h1.elim
   ·exact(show False from hf1).elim
   ·unfold za3 at h1;exact h1.elim
   ·unfold za3 at h1;exact h1.elim
   ·unfold za3 at h1;exact h1.elim
theorem zr7 {σ:St}{g:Gh}{w w1:World}{A:Nat->Prop}(d:Nat):∀{ds:List (Bool×D)}{us:List Value}{fp tp:List Nat}(j:Nat),za0 w1 A ds us fp tp->CRs σ g w (mC d j (zbl ds)) (us.flatMap fun u=>u.cells.toList)->VRl σ g w (mD d j ds) us
 | [],us,fp,tp,j,h,_=>h.1
 | (true,.one t)::ds,us,fp,tp,j,h,k=>by
  obtain⟨v,vs',f1,f2,t1,t2,rfl,rfl,rfl,h1,h2⟩:=h;have hv:za3 w1 t v f1:=h1.1;simp only[Ji,hv.one,zbl,mC]at k;obtain⟨u,us',e,k1,k2⟩:=k;simp only[K6,Ki,List.cons.injEq]at e;obtain⟨rfl,rfl⟩:=e;exact⟨v,vs',rfl,k1,zr7 d (j+1) h2 k2⟩
 | (false,.one t)::ds,us,fp,tp,j,h,k=>by
  obtain⟨v,vs',rfl,h1,h2⟩:=h;have hv:zas w1 A t v:=h1;simp only[Ji,hv.cells1,zbl,mC]at k;obtain⟨u,us',e,k1,k2⟩:=k;simp only[K6,Ki,List.cons.injEq]at e;obtain⟨rfl,rfl⟩:=e;exact⟨v,vs',rfl,k1,zr7 d (j+1) h2 k2⟩
 | (true,.agg ts)::ds,us,fp,tp,j,h,k=>by
  obtain⟨v,vs',f1,f2,t1,t2,rfl,rfl,rfl,⟨x,rfl,h1⟩,h2⟩:=h;simp only[Ji,Value.cells,zbl,zfx]at k;obtain⟨v1,v2,e,k1,k2⟩:=k.split;have hl:x.length=v1.length:=by rw[k1.len,zq7,Qa];exact za7.len (za7.of_g h1)
  obtain⟨e1,e2⟩:=J8 e hl;subst e1 e2;rw[Qa]at k2;exact⟨_,vs',rfl,⟨x,rfl,k1⟩,zr7 d (j+ts.length) h2 k2⟩
 | (false,.agg ts)::ds,us,fp,tp,j,h,k=>by
  obtain⟨v,vs',rfl,⟨x,rfl,h1⟩,h2⟩:=h;simp only[Ji,Value.cells,zbl,zfx]at k;obtain⟨v1,v2,e,k1,k2⟩:=k.split;have hl:x.length=v1.length:=by rw[k1.len,zq7,Qa];exact h1.len
  obtain⟨e1,e2⟩:=J8 e hl;subst e1 e2;rw[Qa]at k2;exact⟨_,vs',rfl,⟨x,rfl,k1⟩,zr7 d (j+ts.length) h2 k2⟩
theorem ze1 {σ:St}{g:Gh}{w:World}{n0:Nat->Prop}{N:Nat}{a:Act}(hR:Rel n0 N σ g a w){B:Sr->List Nat}(hB:Fam w σ g B){K:List Sr->Prop}:∀{xs:List V}{ds:List (Bool×D)}{u:List Sr}{ps:List (Nat×Nat×Nat)}{vs:List Value},gvA σ K u ps xs ds->VRl σ g w xs vs →
  ∃s,K (s.reverse++u)/\(∃tp,za0 w (zb6 σ g w) ds vs (bks B s) tp)/\(∀x∈s,σ.On x.1)/\(u.Pairwise okP->(s.reverse++u).Pairwise okP)
 | [],[],u,ps,vs,h,hv=>⟨[],h,⟨[],hv,rfl,rfl⟩,by simp,fun h=>h⟩
 | [],_::_,_,_,_,h,_=>h.elim
 | x::xs,[],_,_,_,h,_=>by cases x<;>exact h.elim
 | x::xs,(false,d)::ds,u,ps,vs,h,hv=>by
  obtain⟨v,vs',rfl,h1,h2⟩:=hv;unfold gvA at h;obtain⟨hr,h⟩:=h;obtain⟨s,k1,⟨tp,k2⟩,k3,k4⟩:=ze1 hR hB h h2;exact⟨s,k1,⟨tp,v,vs',rfl,qes hr h1,k2⟩,k3,k4⟩
 | .one c::xs,(true,.one t)::ds,u,ps,vs,h,hv=>by
  obtain⟨v,vs',rfl,h1,h2⟩:=hv;unfold gvA at h;obtain⟨s,ps',tp,k1,k2,k3,k4⟩:=zdb hR hB h (vs:=[v]) ⟨v,[],rfl,h1,rfl⟩;obtain⟨s',j1,⟨tp',j2⟩,j3,j4⟩:=ze1 hR hB k1 h2;obtain⟨v0,vs0,f1,f2,t2,e0,e1,rfl,q1,q2⟩:=k2;cases e0;obtain⟨_,rfl,rfl⟩:=q2;rw[Kj]at e1;refine⟨s++s',by simpa using j1,⟨zj3 t f1++tp',v,vs',bks B s,bks B s',_,tp',rfl,by unfold bks;rw[List.flatMap_append],rfl,⟨by rw[e1];exact q1,by rw[e1]⟩,j2⟩,fun x hx=>?_,fun hu=>by simpa using j4 (k4 hu)⟩;rcases Qv.1 hx with hx|hx
  ·exact k3 x hx
  ·exact j3 x hx
 | .agg cs::xs,(true,.agg ts)::ds,u,ps,vs,h,hv=>by
  obtain⟨v,vs',rfl,⟨y,rfl,h1⟩,h2⟩:=hv;unfold gvA at h;obtain⟨s,ps',tp,k1,k2,k3,k4⟩:=zdb hR hB h h1;obtain⟨s',j1,⟨tp',j2⟩,j3,j4⟩:=ze1 hR hB k1 h2;refine⟨s++s',by simpa using j1,⟨tp++tp',_,vs',bks B s,bks B s',tp,tp',rfl,by unfold bks;rw[List.flatMap_append],rfl,⟨y,rfl,k2⟩,j2⟩,fun x hx=>?_,fun hu=>by simpa using j4 (k4 hu)⟩;rcases Qv.1 hx with hx|hx
  ·exact k3 x hx
  ·exact j3 x hx
 | .one _::_,(true,.agg _)::_,_,_,_,h,_=>h.elim
 | .agg _::_,(true,.one _)::_,_,_,_,h,_=>h.elim
 | .tup _::_,(true,d)::_,_,_,_,h,_=>by cases d<;>exact h.elim
def XC (P:Program)(f:FuncId)(args res:List (Bool×D)):Prop:=zbw P f/\∀(w:World)(vs:List Value)(fp tp:List Nat)(A:Nat->Prop),za0 w (fun k=>(k<w.heap.size/\k∉fp)/\A k) args vs fp tp->fp.Nodup →
 Calls P f ⟨vs⟩ w fun e w'=>∃us fp' tp',e=.returned (zck us)/\za0 w' (fun k=>(k<w'.heap.size/\k∉fp')/\(A k\/w.heap.size<=k\/k∈fp)) res us fp' tp'/\fp'.Nodup/\(∀b∈fp',b∈fp\/w.heap.size<=b)/\Bk (fun k=>k<w.heap.size/\k∉fp) w w'
def PM0 (P:Program)(rs:List ResultVar)(res:List (Bool×D))(pl:List (Nat×Nat×Nat))(σ:St):Prop:=zav (zb3 P σ rs) fun vs=>gvA σ (fun _=>True) [] pl vs res
def PM (P:Program)(rs:List ResultVar)(res:List (Bool×D))(e:Exit)(σ:St):Prop:=match e with
 | .normal=>PM0 P rs res [] σ\/∃pl,PM0 P rs res pl σ
 | .ret=>PM0 P rs res [] σ\/∃pl,PM0 P rs res pl σ
 | _=>False
theorem zrj {args:List (Bool×D)}{w:World}{vs:List Value}{fp tp:List Nat}{N:Nat}{g:Gh}{a:Act}{B:Nat->Prop}(hv:za0 w B args vs fp tp)(hR:Rel (fun b=>b<w.heap.size/\b∉fp) N (zdq args) g a w)
  (ht:a.tmps=(⟨vs⟩:Array Value)++Array.replicate (N-vs.length) undef) (hB:∀b,B b->(b<w.heap.size/\b∉fp)/\g.A0 b):Rel (fun b=>b<w.heap.size/\b∉fp) N (zdv args) g a w:=by
 have hm:Mv (zdq args) (zdv args) g g w w:=Mv.of_eq g w rfl rfl
 refine hR.slots_of (σ':=zdv args) rfl rfl hR.defers hR.size fun i=>?_
 refine(Mv.of_eq (σ:=zdv args) (σ':=zdq args) g w rfl rfl).vr (σ:=zdv args) ?_
 have hi:=zlh args 0 i
 rw[Q2]at hi
 show VR _ _ _ (zhs 0 args i) _
 rw[hi]
 cases hd:args[i]? with
 | none=>trivial
 | some p =>
  obtain⟨b,d⟩:=p;cases b with
  | true =>
   have h0:=hm.vr (hR.slots i);have hj:=zht args 0 i;rw[Q2,hd]at hj;have h0':VR (zdv args) g w (zjj 0 args i) (a.tmps.getD i (g.R0.ξ i)):=h0;rw[hj]at h0';exact h0'
  | false =>
   obtain⟨v,hv1,hv2⟩:=za0.atR hv i d hd;have hlt:i<vs.length:=(List.getElem?_eq_some_iff.1 hv1).1;have e:a.tmps.getD i (g.R0.ξ i)=v:=by
    rw[ht,Array.getD_eq_getD_getElem?,Array.getElem?_append_left (by simpa using hlt)];simp[hv1]
   rw[e];exact hm.vr (zm2 (fun b hb=>hR.frOld (hB b hb).1 (hB b hb).1.1 (hB b hb).2) hv2)
theorem XC_of {f:FuncId}{fn:Func}{c:Code}{args res:List (Bool×D)}(hc:zbw P f)(hf:P.funcs[f]?=some fn)(hb:fn.body=some c)(hd:zei fn.ntmps c=true)(hN:args.length<=fn.ntmps)(hs:zau args)
  (h:ex P c [] (PM P fn.results.toList res) (zdv args)):XC P f args res:=by
 refine⟨hc,fun w vs fp tp A hv hn=>?_⟩
 refine calls_of_wp hf hb ?_
 have hv':za0 w (fun b=>b<w.heap.size/\A b/\b∉fp) args vs fp tp:=za0.keepA (fun b hb=>⟨hb.1.1,hb.2,hb.1.2⟩) hv
 obtain⟨g,hg,hR⟩:=Rel.start (A0:=fun b=>A b\/w.heap.size<=b\/b∈fp) (R0:=RP.of fun b=>b∈fp\/w.heap.size<=b) (N:=fn.ntmps) hv' hn hs hN (fun _ h=>Or.inl h) (fun b hb=>⟨Or.inr (Or.inr hb),Or.inl hb⟩) (fun b hb=>by
  by_cases hlt:b<w.heap.size
  ·have hm:b∈fp:=Classical.byContradiction fun h=>hb ⟨hlt,h⟩;exact⟨Or.inr (Or.inr hm),Or.inl hm⟩
  ·exact⟨Or.inr (Or.inl Yt),Or.inr Yt⟩)
 have hR0:=zrj hv' hR rfl (fun b hb=>⟨⟨hb.1,hb.2.2⟩,by rw[(Jq hg).1];exact Or.inl hb.2.1⟩)
 refine wp_mono (zby (w0:=w) c (zdv args) _ hd h g _ w hR0 (fun k hk=>hk.1) (Bk.refl _ _) hg) fun e a' w' hq=>?_
 obtain⟨σ',g',h1,h2,h3,h4,h5⟩:=hq
 have key:(∃pl,PM0 P fn.results.toList res pl σ')->∃v,(results fn a'.tmps).run P w'=.ok v w'/\∃us fp' tp',Ending.returned v=.returned (zck us)/\za0 w' (fun k=>(k<w'.heap.size/\k∉fp')/\(A k\/w.heap.size<=k\/k∈fp)) res us fp' tp'/\fp'.Nodup/\(∀b∈fp',b∈fp\/w.heap.size<=b)/\Bk (fun k=>k<w.heap.size/\k∉fp) w w':=by
  rintro⟨pl,hk⟩;obtain⟨vs,hvs,hk⟩:=zar hk;obtain⟨us,r1,r2⟩:=zco h2 fn hvs;obtain⟨B,hB⟩:=h2.fam;obtain⟨s,k1,⟨tp',k2⟩,k3,k4⟩:=ze1 h2 hB hk r2;rw[Kj]at k4;have hsp:s.Pairwise okP:=(J3.1 (k4 List.Pairwise.nil)).imp fun h=>h.symm;have hin:∀b∈bks B s,∃e,σ'.On e/\b∈g'.φ e:=fun b hb=>by
   obtain⟨x,hx,hm⟩:=Jt.1 hb;exact⟨x.1,k3 x hx,hB.sub x.1 x.2 b (k3 x hx) hm⟩
  have hA:∀b,zb6 σ' g' w' b->(b<w'.heap.size/\b∉bks B s)/\(A b\/w.heap.size<=b\/b∈fp):=fun b hb=>by
   refine⟨⟨hb.1.2.2.1,fun hm=>?_⟩,?_⟩
   ·obtain⟨e,ho,hm⟩:=hin b hm;exact hb.2 e ho hm
   ·have:=hb.1.2.2.2;rw[(Jq h5).1]at this;exact this
  refine⟨_,r1,us,bks B s,tp',rfl,za0.keepA hA k2,zd2 h2 hB k3 hsp,fun b hb=>?_,h4⟩;obtain⟨e,ho,hm⟩:=hin b hb;have:=(h2.ebase e ho b hm).2;rw[(Jq h5).2]at this;exact this
 have key':∀{Y:Prop},(PM0 P fn.results.toList res [] σ'\/∃pl,PM0 P fn.results.toList res pl σ')->((∃pl,PM0 P fn.results.toList res pl σ')->Y)->Y:=fun h k=>h.elim (fun h=>k ⟨[],h⟩) k
 cases e with
 | normal=>exact⟨h2.defers,key' h1 key⟩
 | ret=>exact⟨h2.defers,key' h1 key⟩
 | exit _=>exact h1.elim
 | goto _=>exact h1.elim
 | panic _=>exact h1.elim
 | outgrown=>exact h1.elim
def St.callX (σ:St)(d:Nat)(res:List (Bool×D)):St:={ sl:=upd σ.sl d (zlk (mD d 0 res)),bx:=σ.bx,ev:=mE d 0 (zbl res) σ.ev }
theorem qdj {o:Oper}{σ τ:St}{x:Operand}{asx:Array Operand}{ts:Array TypeId}{f:FuncId}{cvs:List V}{d:Nat}{ds res:List (Bool×D)}{ps:List (Nat×Nat×Nat)}(ho:o.op=.call ⟨.value x,asx,ts⟩)(hd:o.dst=some d)
  (h:XC P f ds res) (hc:za1 (σ.get P 0 x)=some (f,cvs)) (hK:Kept σ τ) (hv:gvA σ (fun u=>∀s∈u,τ.ev s.1=none) [] ps (σ.gets P asx ts++cvs) ds) (hf:mF d 0 (zbl res) τ.ev):zai P o σ (τ.callX d res):=by
 intro n0 N g a w hR hn hdN
 obtain⟨vs,h1,h2⟩:=zdc hR ho hc h.1
 unfold Oper.wp
 rw[h1]
 obtain⟨B,hB⟩:=hR.fam
 obtain⟨s,k1,⟨tp,k2⟩,k3,k4⟩:=ze1 hR hB hv h2
 rw[Kj]at k1 k4
 have hsp:s.Pairwise okP:=(J3.1 (k4 List.Pairwise.nil)).imp fun h=>h.symm
 have hnd:=zd2 hR hB k3 hsp
 have hfp:∀b∈bks B s,∃e,σ.On e/\τ.ev e=none/\b∈g.φ e:=fun b hb=>by
  obtain⟨x,hx,hm⟩:=Jt.1 hb;exact⟨x.1,k3 x hx,k1 x (List.mem_reverse.2 hx),hB.sub x.1 x.2 b (k3 x hx) hm⟩
 have hfn:∀b,zb6 σ g w b->b∉bks B s:=fun b hb hm=>by obtain⟨e,h1,_,h3⟩:=hfp b hm;exact hb.2 e h1 h3
 refine(h.2 w vs (bks B s) tp (zb6 σ g w) (za0.keepA (fun b hb=>⟨⟨hb.1.2.2.1,hfn b hb⟩,hb⟩) k2) hnd).mono ?_
 rintro e w' ⟨us,fp',tp',rfl,o1,o2,o3,hbk⟩
 obtain⟨tp2,o1'⟩:=o1.flat
 obtain⟨g',q1,q2,q3⟩:=New.mix (τ:=τ) (g:=g) (NB:=fun b=>b∈bks B s\/w.heap.size<=b) (w':=w') d (zbl res) _ fp' tp2 0 τ.ev g [] (New.refl _ _ _ _ hR.slc) hf o1' o2 (fun b hb'=>⟨o3 b hb',by simp⟩)
 have hR':=hR.given hn hK hfp hbk q1
 have hBk:Bk n0 w w':=⟨hbk.os,hbk.tape,hbk.output,hbk.size,fun k hk=>hbk.block k ⟨hn k hk,fun hm=>by
  obtain⟨e,h1,_,h3⟩:=hfp k hm
  exact hR.etop e h1 k h3 hk⟩⟩
 have hfree:∀k,((k<w'.heap.size/\k∉fp')/\(zb6 σ g w k\/w.heap.size<=k\/k∈bks B s))->zb6 ⟨τ.sl,τ.bx,mE d 0 (zbl res) τ.ev⟩ g' w' k:=fun k hk=>by
  have hOnσ:∀e,τ.On e->σ.On e:=fun e ⟨x,hx,ho⟩=>⟨x,(hK.ev e x hx).1,ho⟩;have hno:∀e,St.On ⟨τ.sl,τ.bx,mE d 0 (zbl res) τ.ev⟩ e->k∉g'.φ e:=fun e ho' hm=>by
   by_cases hee:τ.ev e=none
   ·obtain⟨x,hx,_⟩:=ho';have:=((q1.new e x hee hx).2.2.1 k hm).2;rw[Ki]at this;exact hk.1.2 this
   ·rw[(q1.old e hee).2.2]at hm;obtain⟨x,hx,hon⟩:=ho';have ho2:τ.On e:=⟨x,(q1.old e hee).1.symm.trans hx,hon⟩;rcases hk.2 with h|h|h
    ·exact h.2 e (hOnσ e ho2) hm
    ·obtain⟨y,hy,hyo⟩:=hOnσ e ho2;have:=(hR.evs e y hy hyo).lt k hm;omega
    ·obtain⟨e',h1,h2,h3⟩:=hfp k h;refine hR.apart e e' (hOnσ e ho2) h1 (fun ee=>?_) k hm h3;subst ee;obtain⟨y,hy,_⟩:=ho2;rw[h2]at hy;cases hy
  have hbne:∀b,τ.bx b≠none->σ.bx b≠none:=fun b hb=>by
   obtain⟨cs,hcs⟩:=Kp.1 hb;rw[(hK.bx b cs hcs).1];simp
  refine⟨⟨fun j hj e=>?_,fun e x hx hon hh=>hno e ⟨x,hx,hon⟩ (List.mem_of_mem_head? hh),hk.1.1,?_⟩,hno⟩
  ·have hj':=hbne j hj;rw[q1.β]at e;rcases hk.2 with h|h|h
   ·exact h.1.1 j hj' e
   ·have:=hR.lt hj';omega
   ·obtain⟨e',h1,_,h3⟩:=hfp k h;exact hR.ebx e' j h1 hj' (e▸h3)
  ·rw[q1.A0];rcases hk.2 with h|h|h
   ·exact h.1.2.2.2
   ·exact(hR.anew k (hn.new h)).1
   ·obtain⟨e',h1,_,h3⟩:=hfp k h;exact(hR.ebase e' h1 k h3).1
 refine⟨g',?_,hBk,q1.A0,q1.R0⟩
 have hp:=hR'.put (some d) (x:=zlk (mD d 0 res)) (v:=zck us) (zd7 (zr7 d 0 o1 (q3 _ _ rfl fun t v h=>zas.keep (fun _ _=>rfl) hfree t v h)) (zp3 d res 0)) (fun i hi=>by cases hi;exact hdN d hd)
 rw[hd]
 exact hp
section
variable {ks:List Fr}{Q:Exit->St->Prop}{σ:St}{ops:Array Oper}{os:List Oper}{ty:TypeId}{ps:String}{af:Array Edge}{d:Nat}{x:Operand}{asx:Array Operand}{ts:Array TypeId}{f:FuncId}{ds res:List (Bool×D)}
theorem callX (la l:List (Nat×V))(ba bl:List (Nat×List C))(ea el:List (Nat×Ev))(pl:List (Nat×Nat×Nat))(h:XC P f ds res)
  (hw:wkL σ (hd (la++l) (ba++bl) (ea++el)) (la++l)/\wkB σ (hd (la++l) (ba++bl) (ea++el)) (ba++bl)/\wkE σ (ea++el))
  (hk:zdt l la/\zdt bl ba/\zdt el ea/\okL (hd l bl el) l/\okB (hd l bl el) bl/\okE el)
  (hp:zav (za1 ((hd (la++l) (ba++bl) (ea++el)).get P 0 x)) fun p=>p.1=f/\gvA (hd (la++l) (ba++bl) (ea++el)) (zpa el) [] pl ((hd (la++l) (ba++bl) (ea++el)).gets P asx ts++p.2) ds) (hf:mF d 0 (zbl res) (hd l bl el).ev)
  (k:exo P ops os ks Q ((hd l bl el).callX d res)):exo P ops (⟨some d,.call ⟨.value x,asx,ts⟩,ty,ps,af,none⟩::os) ks Q σ:=by
 obtain⟨⟨f',cvs⟩,h1,rfl,h2⟩:=zar hp
 obtain⟨k1,k2,k3,k4,k5,k6⟩:=hk
 refine zda rfl rfl (zai.pre (zad hw) (qdj (P:=P) (o:=⟨some d,.call ⟨.value x,asx,ts⟩,ty,ps,af,none⟩) rfl rfl h h1 (τ:=hd l bl el) ⟨fun i=>?_,fun b cs hb=>⟨zld k2 b cs hb,zob k5 b cs hb⟩,fun e x he=>⟨zld k3 e x he,zor k6 e x he⟩⟩ (zgq (fun u hu=>zhf hu) h2) hf)) k
 rcases zn6 k1 i with h|h
 ·exact Or.inl h
 ·exact Or.inr ⟨h,zne k4 i⟩
theorem qkn (L A:List Nat)(pl:List (Nat×Nat×Nat))(h:XC P f ds res)
  (hw:wkL σ (hd (σ.lL A++σ.lL L) (σ.lB (dif (σ.KB L) (σ.KB A))++σ.lB (σ.KB L)) (σ.lE (dif (σ.KE L) (σ.KE A))++σ.lE (σ.KE L))) (σ.lL A++σ.lL L)/\wkB σ (hd (σ.lL A++σ.lL L) (σ.lB (dif (σ.KB L) (σ.KB A))++σ.lB (σ.KB L)) (σ.lE (dif (σ.KE L) (σ.KE A))++σ.lE (σ.KE L))) (σ.lB (dif (σ.KB L) (σ.KB A))++σ.lB (σ.KB L))/\wkE σ (σ.lE (dif (σ.KE L) (σ.KE A))++σ.lE (σ.KE L)))
  (hk:zdt (σ.lL L) (σ.lL A)/\zdt (σ.lB (σ.KB L)) (σ.lB (dif (σ.KB L) (σ.KB A)))/\zdt (σ.lE (σ.KE L)) (σ.lE (dif (σ.KE L) (σ.KE A)))/\okL (σ.hL L) (σ.lL L)/\okB (σ.hL L) (σ.lB (σ.KB L))/\okE (σ.lE (σ.KE L)))
  (hp:zav (za1 ((hd (σ.lL A++σ.lL L) (σ.lB (dif (σ.KB L) (σ.KB A))++σ.lB (σ.KB L)) (σ.lE (dif (σ.KE L) (σ.KE A))++σ.lE (σ.KE L))).get P 0 x)) fun p=>p.1=f/\gvA (hd (σ.lL A++σ.lL L) (σ.lB (dif (σ.KB L) (σ.KB A))++σ.lB (σ.KB L)) (σ.lE (dif (σ.KE L) (σ.KE A))++σ.lE (σ.KE L))) (zpa (σ.lE (σ.KE L))) [] pl ((hd (σ.lL A++σ.lL L) (σ.lB (dif (σ.KB L) (σ.KB A))++σ.lB (σ.KB L)) (σ.lE (dif (σ.KE L) (σ.KE A))++σ.lE (σ.KE L))).gets P asx ts++p.2) ds)
  (hf:mF d 0 (zbl res) (σ.hL L).ev) (k:exo P ops os ks Q ((σ.hL L).callX d res)):exo P ops (⟨some d,.call ⟨.value x,asx,ts⟩,ty,ps,af,none⟩::os) ks Q σ :=
 callX (σ.lL A) (σ.lL L) _ _ _ _ pl h hw hk hp hf k
end
attribute [go_sem] zbl mC1 mC mE mF mD St.callX PM PM0 zsa qfm
end
section
open Go.RowKit
variable {P:Program}
def C.fz (e:Nat)(x:Ev):C->C
 | .ow e' g=>if e'=e then (if g=x.gen then .rn (.sl x.sz x.rows)else .any)else .ow e' g
 | .eo e' g sz i o=>if e'=e then .any else .eo e' g sz i o
 | .vw e' g sz o=>if e'=e then .any else .vw e' g sz o
 | c=>c
def fzS (f:Nat->V)(e:Nat)(x:Ev):Nat->V:=fun i=>(f i).map (C.fz e x)
def fzB (f:Nat->Option (List C))(e:Nat)(x:Ev):Nat->Option (List C):=fun b=>(f b).map fun cs=>cs.map (C.fz e x)
def fzE (f:Nat->Option Ev)(e:Nat):Nat->Option Ev:=fun k=>if k=e then none else f k
theorem fzS_at (f:Nat->V)(e:Nat)(x:Ev)(i:Nat):fzS f e x i=(f i).map (C.fz e x):=rfl
theorem zup (f:Nat->Option (List C))(e:Nat)(x:Ev)(b:Nat):fzB f e x b=(f b).map fun cs=>cs.map (C.fz e x):=rfl
theorem fzE_at (f:Nat->Option Ev)(e k:Nat):fzE f e k=if k=e then none else f k:=rfl
def St.fz (σ:St)(e:Nat)(x:Ev):St:=⟨fzS σ.sl e x,fzB σ.bx e x,fzE σ.ev e⟩
theorem qnh {σ:St}{e:Nat}{x:Ev}(hx:σ.ev e=some x)(hd:x.deep=true)(ho:x.on=true):Wk σ (σ.fz e x):=by
 intro n0 N g a w h
 have hev:∀e',e'≠e->(σ.fz e x).ev e'=σ.ev e':=fun e' he=>by show(if e'=e then none else σ.ev e')=_;rw[if_neg he]
 have hee:(σ.fz e x).ev e=none:=by show(if e=e then none else σ.ev e)=_;rw[if_pos rfl]
 have hsome:∀e' z,(σ.fz e x).ev e'=some z->e'≠e/\σ.ev e'=some z:=fun e' z hz=>by
  by_cases he:e'=e
  ·subst he;rw[hee]at hz;cases hz
  ·exact⟨he,by rw[<-hev e' he];exact hz⟩
 have hon:∀e',(σ.fz e x).On e'->e'≠e/\σ.On e':=fun e' ⟨z,hz,h1⟩=>⟨(hsome e' z hz).1,z,(hsome e' z hz).2,h1⟩
 have hbx:∀b,(σ.fz e x).bx b≠none↔σ.bx b≠none:=fun b=>by unfold St.fz;simp[zup]
 have hOn:σ.On e:=⟨x,hx,ho⟩
 have hf:∀b,Fix σ g w b->Fix (σ.fz e x) g w b:=fun b hf=>⟨fun k hk=>hf.1 k ((hbx k).1 hk),fun e' z hz h1=>hf.2.1 e' z (hsome e' z hz).2 h1,hf.2.2⟩
 have hfr:∀b,zb6 σ g w b->zb6 (σ.fz e x) g w b:=fun b hb=>⟨hf b hb.1,fun e' h'=>hb.2 e' (hon e' h').2⟩
 have hgone:∀b∈g.φ e,b<w.heap.size->zb6 (σ.fz e x) g w b:=fun b hb hl=>by
  have hne:∀e',(σ.fz e x).On e'->b∉g.φ e':=fun e' he' hm=>h.apart e e' hOn (hon e' he').2 (Ne.symm (hon e' he').1) b hb hm;exact⟨⟨fun j hj hjb=>h.ebx e j hOn ((hbx j).1 hj) (by rw[hjb];exact hb),fun e' z hz h1 hh=>hne e' ⟨z,hz,h1⟩ (List.mem_of_mem_head? hh),hl,(h.ebase e hOn b hb).1⟩,hne⟩
 have hhas:∀e' n,e'≠e->σ.has e' n->(σ.fz e x).has e' n:=fun e' n he ⟨z,hz,h1⟩=>⟨z,by rw[hev e' he];exact hz,h1⟩
 have cr:∀c v,CR σ g w c v->CR (σ.fz e x) g w (c.fz e x) v:=fun c v hc=>by
  cases c with
  | t y=>exact zas.keep (fun _ _=>rfl) hf y v hc
  | nl s=>exact hc
  | ow e' n =>
   show CR _ _ _ (if e'=e then (if n=x.gen then .rn (.sl x.sz x.rows)else .any)else .ow e' n) v
   by_cases he:e'=e
   ·subst he;rw[if_pos rfl];by_cases hn:n=x.gen
    ·rw[if_pos hn];subst hn;obtain⟨ao,cap,e1,e2,e3,e4⟩:=h.evs _ x hx ho;rw[<-hc.1]at e1;show zas _ _ _ _
     unfold zas;refine⟨ao,cap,e1,e2,e3,?_⟩;rcases e4 with⟨_,_,e4,_⟩|⟨b,cells,ty,fps,k1,k2,k3,k4,k5⟩
     ·exact Or.inl e4
     ·rw[if_pos hd]at k5;have hl:∀b'∈fps,b'<w.heap.size:=zao.lt cells 0 x.sz x.rows fps k5;exact Or.inr ⟨b,0,k1,hgone b (by rw[k2];simp) (Array.getElem?_eq_some_iff.1 k3).1,zao.rep b cells ty k3 0 x.sz x.rows fps k5 fun b' hb'=>hgone b' (by rw[k2];simp[hb']) (hl b' hb')⟩
    ·rw[if_neg hn];trivial
   ·rw[if_neg he];exact⟨hc.1,hhas e' n he hc.2⟩
  | bx b o=>exact⟨hc.1,(hbx b).2 hc.2⟩
  | el cs o=>obtain⟨b,q,h1,h2,h3⟩:=hc;exact⟨b,q,h1,hf b h2,zbj.keep (fun _ _=>rfl) hf b rfl q cs h3⟩
  | eo e' s sz i o =>
   show CR _ _ _ (if e'=e then .any else .eo e' s sz i o) v
   by_cases he:e'=e
   ·rw[if_pos he];trivial
   ·rw[if_neg he];obtain⟨b,n,c,h1,h2,h3,h4⟩:=hc;exact⟨b,n,c,h1,h2,h3,hhas e' s he h4⟩
  | vw e' s sz o =>
   show CR _ _ _ (if e'=e then .any else .vw e' s sz o) v
   by_cases he:e'=e
   ·rw[if_pos he];trivial
   ·rw[if_neg he];obtain⟨b,n,c,h1,h2,h3,h4⟩:=hc;exact⟨b,n,c,h1,h2,h3,hhas e' s he h4⟩
  | fn f caps=>exact⟨hc.1,fun b hb=>(hbx b).2 (hc.2 b hb)⟩
  | cv u=>exact hc
  | any=>trivial
  | rn y=>exact zas.keep (fun _ _=>rfl) hfr y v hc
  | er cs o=>obtain⟨b,q,h1,h2,h3⟩:=hc;exact⟨b,q,h1,hfr b h2,zbj.keep (fun _ _=>rfl) hfr b rfl q cs h3⟩
 refine⟨g,⟨h.defers,h.size,h.anew,fun i=>VR.map cr (h.slots i),fun b cs hb=>?_,fun b hb=>h.base b ((hbx b).1 hb),fun b b' h1 h2=>h.inj b b' ((hbx b).1 h1) ((hbx b').1 h2),fun e' z hz h1=>?_,fun e' z hz h1=>?_,h.slc,fun e' h1=>h.ebase e' (hon e' h1).2,fun e' h1=>h.etop e' (hon e' h1).2,fun e' h1=>h.nodup e' (hon e' h1).2,fun e1 e2 h1 h2=>h.apart e1 e2 (hon e1 h1).2 (hon e2 h2).2,fun e' k h1 h2=>h.ebx e' k (hon e' h1).2 ((hbx k).1 h2)⟩,rfl,rfl⟩
 ·cases hc:σ.bx b with
  | none=>unfold St.fz at hb;simp only[zup,hc,J2]at hb;cases hb
  | some cs0 =>
   unfold St.fz at hb;simp only[zup,hc,Kc,Qf]at hb;subst hb;obtain⟨vs,ty,k1,k2⟩:=h.boxes b cs0 hc;exact⟨vs,ty,k1,CRs.map cr k2⟩
 ·obtain⟨ao,cap,e1,e2,e3,e4⟩:=h.evs e' z (hsome e' z hz).2 h1;refine⟨ao,cap,e1,e2,e3,?_⟩;rcases e4 with e4|⟨b,cells,ty,fps,k1,k2,k3,k4,k5⟩
  ·exact Or.inl e4
  ·refine Or.inr ⟨b,cells,ty,fps,k1,k2,k3,k4,?_⟩;split at k5
   ·rw[if_pos ‹_›];exact k5
   ·rw[if_neg ‹_›];exact⟨k5.1,zat.keep (fun _ _=>rfl) hf b rfl 0 z.sz z.rows k5.2⟩
 ·exact⟨zas.keep (fun _ _=>rfl) hf _ _ (h.offs e' z (hsome e' z hz).2 h1).1,(h.offs e' z (hsome e' z hz).2 h1).2⟩
theorem zb2.pre {o:Oper}{σ σ':St}{K:St->Prop}(h:Wk σ σ')(k:zb2 P o σ' K):zb2 P o σ K:=fun n0 N g a w hR hn hd=>by
 obtain⟨g1,h1,h2,h3⟩:=h n0 N g a w hR
 have:=k n0 N g1 a w h1 hn hd
 unfold Oper.wp at this⊢
 revert this
 cases (execOp a.eval o).run P w<;>intro this<;>try exact this
 all_goals (revert this;rw[h2,h3];exact id)
theorem zdj.pre {id:Nat}{ops:Array Oper}{σ σ':St}{K:St->Prop}(h:Wk σ σ')(k:zdj P id ops σ' K):zdj P id ops σ K:=fun n0 N g a w hR hn hd=>by
 obtain⟨g1,h1,h2,h3⟩:=h n0 N g a w hR
 have:=k n0 N g1 a w h1 hn hd
 rw[h2,h3]at this
 exact this
section
variable {ks:List Fr}{Q:Exit->St->Prop}{σ:St}{ops:Array Oper}{os:List Oper}{o:Oper}
theorem qm9 {σ':St}(h:Wk σ σ')(hg:o.guard=none)(hs:zxw o.op=true)(k:exo P ops (o::os) ks Q σ'):exo P ops (o::os) ks Q σ:=by
 unfold exo zb4 exG at k⊢
 rw[hg]at k⊢
 simp only at k⊢
 unfold zcq zn3 at k⊢
 rw[if_pos (by rw[hs];rfl)]at k⊢
 exact k.pre h
theorem zd0 (e:Nat)(hg:o.guard=none)(hs:zxw o.op=true)(k:zav (σ.ev e) fun x=>x.deep=true/\x.on=true/\exo P ops (o::os) ks Q (σ.fz e x)):exo P ops (o::os) ks Q σ:=by
 obtain⟨x,hx,h1,h2,h3⟩:=zar k
 exact qm9 (qnh hx h1 h2) hg hs h3
theorem frzD (e:Nat){i:Nat}(k:zav (σ.ev e) fun x=>x.deep=true/\x.on=true/\ex P (.region i ops true) ks Q (σ.fz e x)):ex P (.region i ops true) ks Q σ:=by
 obtain⟨x,hx,h1,h2,h3⟩:=zar k
 exact zdj.pre (qnh hx h1 h2) h3
end
attribute [go_sem] C.fz St.fz V.map fzS_at zup fzE_at
end
theorem ag_3:zlq Tryz.prog 3=some false:=by kernel_rfl
theorem sz_3:zbt Tryz.prog 3=some 1:=by kernel_rfl
theorem in_3:qe9 Tryz.prog 3=some .i64:=by kernel_rfl
theorem ze_3:zcz Tryz.prog 3=some [.t (.int .i64 0)]:=by kernel_rfl
theorem ag_4:zlq Tryz.prog 4=some false:=by kernel_rfl
theorem sz_4:zbt Tryz.prog 4=some 1:=by kernel_rfl
theorem bo_4:qa4 Tryz.prog 4=true:=by kernel_rfl
theorem ze_4:zcz Tryz.prog 4=some [.t (.bool false)]:=by kernel_rfl
theorem ag_5:zlq Tryz.prog 5=some false:=by kernel_rfl
theorem sz_5:zbt Tryz.prog 5=some 1:=by kernel_rfl
theorem in_5:qe9 Tryz.prog 5=some .u8:=by kernel_rfl
theorem ag_9:zlq Tryz.prog 9=some false:=by kernel_rfl
theorem sz_9:zbt Tryz.prog 9=some 1:=by kernel_rfl
theorem st_9:qe7 Tryz.prog 9=true:=by kernel_rfl
theorem ze_9:zcz Tryz.prog 9=some [.t (.str [])]:=by kernel_rfl
theorem nl_31:nlT Tryz.prog 31=2:=by kernel_rfl
theorem ag_31:zlq Tryz.prog 31=some false:=by kernel_rfl
theorem sz_31:zbt Tryz.prog 31=some 1:=by kernel_rfl
theorem el_31:elT Tryz.prog 31=some 33:=by kernel_rfl
theorem ztq:zdn Tryz.prog 33=some 40:=by kernel_rfl
theorem ag_33:zlq Tryz.prog 33=some true:=by kernel_rfl
theorem sz_33:zbt Tryz.prog 33=some 2:=by kernel_rfl
theorem ze_33:zcz Tryz.prog 33=some [.t (.str []),.nl 2]:=by kernel_rfl
theorem pl_33:zx1 Tryz.prog 33=some [(0,1),(1,1)]:=by kernel_rfl
theorem qm0:zif Tryz.prog 33 0=some (0,9):=by kernel_rfl
theorem qoj:zif Tryz.prog 33 1=some (1,31):=by kernel_rfl
theorem ag_34:zlq Tryz.prog 34=some false:=by kernel_rfl
theorem sz_34:zbt Tryz.prog 34=some 1:=by kernel_rfl
theorem el_34:elT Tryz.prog 34=some 36:=by kernel_rfl
theorem zuj:zdn Tryz.prog 36=some 88:=by kernel_rfl
theorem ag_36:zlq Tryz.prog 36=some true:=by kernel_rfl
theorem sz_36:zbt Tryz.prog 36=some 5:=by kernel_rfl
theorem ze_36:zcz Tryz.prog 36=some [.t (.int .i64 0),.t (.str []),.nl 2,.t (.str []),.nl 5]:=by kernel_rfl
theorem pl_36:zx1 Tryz.prog 36=some [(0,1),(1,2),(3,1),(4,1)]:=by kernel_rfl
theorem qn8:zif Tryz.prog 36 0=some (0,3):=by kernel_rfl
theorem qlx:zif Tryz.prog 36 1=some (1,33):=by kernel_rfl
theorem qob:zif Tryz.prog 36 2=some (3,9):=by kernel_rfl
theorem qog:zif Tryz.prog 36 3=some (4,34):=by kernel_rfl
theorem ag_37:zlq Tryz.prog 37=some false:=by kernel_rfl
theorem sz_37:zbt Tryz.prog 37=some 1:=by kernel_rfl
theorem el_37:elT Tryz.prog 37=some 39:=by kernel_rfl
theorem zuw:zdn Tryz.prog 39=some 136:=by kernel_rfl
theorem ag_39:zlq Tryz.prog 39=some true:=by kernel_rfl
theorem sz_39:zbt Tryz.prog 39=some 7:=by kernel_rfl
theorem ze_39:zcz Tryz.prog 39=some [.t (.int .i64 0),.t (.str []),.nl 2,.t (.str []),.nl 5,.nl 2,.nl 7]:=by kernel_rfl
theorem pl_39:zx1 Tryz.prog 39=some [(0,5),(5,1),(6,1)]:=by kernel_rfl
theorem qng:zif Tryz.prog 39 0=some (0,36):=by kernel_rfl
theorem qny:zif Tryz.prog 39 1=some (5,31):=by kernel_rfl
theorem qor:zif Tryz.prog 39 2=some (6,37):=by kernel_rfl
theorem ag_59:zlq Tryz.prog 59=some false:=by kernel_rfl
theorem sz_59:zbt Tryz.prog 59=some 1:=by kernel_rfl
theorem el_59:elT Tryz.prog 59=some 5:=by kernel_rfl
theorem nl_64:nlT Tryz.prog 64=1:=by kernel_rfl
theorem ag_64:zlq Tryz.prog 64=some false:=by kernel_rfl
theorem sz_64:zbt Tryz.prog 64=some 1:=by kernel_rfl
theorem el_64:elT Tryz.prog 64=some 9:=by kernel_rfl
theorem qb8:zdn Tryz.prog 9=some 16:=by kernel_rfl
theorem ze_64:zcz Tryz.prog 64=some [.nl 1]:=by kernel_rfl
theorem el_96:elT Tryz.prog 96=some 3:=by kernel_rfl
theorem ag_104:zlq Tryz.prog 104=some false:=by kernel_rfl
theorem sz_104:zbt Tryz.prog 104=some 1:=by kernel_rfl
theorem in_104:qe9 Tryz.prog 104=some .u64:=by kernel_rfl
theorem ze_106:zcz Tryz.prog 106=some [.nl 1,.t (.int .i64 0),.t (.int .u64 0)]:=by kernel_rfl
theorem pl_106:zx1 Tryz.prog 106=some [(0,1),(1,1),(2,1)]:=by kernel_rfl
theorem qgz:zif Tryz.prog 106 0=some (0,59):=by kernel_rfl
theorem qif:zif Tryz.prog 106 1=some (1,3):=by kernel_rfl
theorem qft:zif Tryz.prog 106 2=some (2,104):=by kernel_rfl
theorem nl_115:nlT Tryz.prog 115=2:=by kernel_rfl
theorem qkd:elT Tryz.prog 115=some 119:=by kernel_rfl
theorem zmr:zdn Tryz.prog 119=some 32:=by kernel_rfl
theorem qkk:zbt Tryz.prog 119=some 2:=by kernel_rfl
theorem qjy:zcz Tryz.prog 119=some [.t (.str []),.t (.str [])]:=by kernel_rfl
theorem pl_119:zx1 Tryz.prog 119=some [(0,1),(1,1)]:=by kernel_rfl
theorem qfu:zif Tryz.prog 119 0=some (0,9):=by kernel_rfl
theorem qgj:zif Tryz.prog 119 1=some (1,9):=by kernel_rfl
theorem ze_124:zcz Tryz.prog 124=some [.nl 1]:=by kernel_rfl
theorem pl_124:zx1 Tryz.prog 124=some [(0,1)]:=by kernel_rfl
theorem qgu:zif Tryz.prog 124 0=some (0,64):=by kernel_rfl
theorem nl_163:nlT Tryz.prog 163=2:=by kernel_rfl
theorem ag_163:zlq Tryz.prog 163=some false:=by kernel_rfl
theorem sz_163:zbt Tryz.prog 163=some 1:=by kernel_rfl
theorem qk0:elT Tryz.prog 163=some 167:=by kernel_rfl
theorem zmy:zdn Tryz.prog 167=some 40:=by kernel_rfl
theorem ze_163:zcz Tryz.prog 163=some [.nl 2]:=by kernel_rfl
theorem ag_167:zlq Tryz.prog 167=some true:=by kernel_rfl
theorem qkc:zbt Tryz.prog 167=some 2:=by kernel_rfl
theorem qjx:zcz Tryz.prog 167=some [.t (.str []),.nl 1]:=by kernel_rfl
theorem pl_167:zx1 Tryz.prog 167=some [(0,1),(1,1)]:=by kernel_rfl
theorem qij:zif Tryz.prog 167 0=some (0,9):=by kernel_rfl
theorem qia:zif Tryz.prog 167 1=some (1,64):=by kernel_rfl
theorem ag_184:zlq Tryz.prog 184=some false:=by kernel_rfl
theorem sz_184:zbt Tryz.prog 184=some 1:=by kernel_rfl
theorem qk8:elT Tryz.prog 184=some 216:=by kernel_rfl
theorem zms:zdn Tryz.prog 216=some 56:=by kernel_rfl
theorem ag_186:zlq Tryz.prog 186=some true:=by kernel_rfl
theorem sz_186:zbt Tryz.prog 186=some 1:=by kernel_rfl
theorem ze_186:zcz Tryz.prog 186=some [.nl 3]:=by kernel_rfl
theorem pl_186:zx1 Tryz.prog 186=some [(0,1)]:=by kernel_rfl
theorem qfo:zif Tryz.prog 186 0=some (0,184):=by kernel_rfl
theorem in_198:qe9 Tryz.prog 198=some .u64:=by kernel_rfl
theorem ag_216:zlq Tryz.prog 216=some true:=by kernel_rfl
theorem qkq:zbt Tryz.prog 216=some 3:=by kernel_rfl
theorem qlk:zcz Tryz.prog 216=some [.t (.str []),.t (.str []),.nl 2]:=by kernel_rfl
theorem pl_216:zx1 Tryz.prog 216=some [(0,1),(1,2)]:=by kernel_rfl
theorem qge:zif Tryz.prog 216 0=some (0,9):=by kernel_rfl
theorem qi4:zif Tryz.prog 216 1=some (1,33):=by kernel_rfl
theorem el_226:elT Tryz.prog 226=some 64:=by kernel_rfl
theorem ap_31:apT Tryz.prog 31 2:=zkk el_31 sz_33 ztq (by decide) ze_33 rfl
theorem ap_34:apT Tryz.prog 34 5:=zkk el_34 sz_36 zuj (by decide) ze_36 rfl
theorem ap_37:apT Tryz.prog 37 7:=zkk el_37 sz_39 zuw (by decide) ze_39 rfl
theorem ap_64:apT Tryz.prog 64 1:=zkk el_64 sz_9 qb8 (by decide) ze_9 rfl
theorem ap_115:apT Tryz.prog 115 2:=zkk qkd qkk zmr (by decide) qjy rfl
theorem ap_163:apT Tryz.prog 163 2:=zkk qk0 qkc zmy (by decide) qjx rfl
theorem ap_184:apT Tryz.prog 184 3:=zkk qk8 qkq zms (by decide) qlk rfl
attribute [go_sem] ag_3 sz_3 in_3 ze_3 ag_4 sz_4 bo_4 ze_4 ag_5 sz_5 in_5 ag_9 sz_9 st_9 ze_9 nl_31 ag_31 sz_31 el_31 ztq ag_33 sz_33 ze_33 pl_33 qm0 qoj ag_34 sz_34 el_34 zuj ag_36 sz_36 ze_36 pl_36 qn8 qlx qob qog ag_37 sz_37 el_37 zuw ag_39 sz_39 ze_39 pl_39 qng qny qor ag_59 sz_59 el_59 nl_64 ag_64 sz_64 el_64 qb8 ze_64 el_96 ag_104 sz_104 in_104 ze_106 pl_106 qgz qif qft nl_115 qkd zmr qkk qjy pl_119 qfu qgj ze_124 pl_124 qgu nl_163 ag_163 sz_163 qk0 zmy ze_163 ag_167 qkc qjx pl_167 qij qia ag_184 sz_184 qk8 zms ag_186 sz_186 ze_186 pl_186 qfo in_198 ag_216 qkq qlk pl_216 qge qi4 el_226 ap_31 ap_34 ap_37 ap_64 ap_115 ap_163 ap_184
attribute [go_sem] Nat.reduceEqDiff reduceIte reduceCtorEq Nat.reduceAdd Nat.reduceMul Int.reduceLE Int.reduceNeg Int.reduceToNat Nat.reduceLeDiff Nat.reduceSub Nat.reduceLT Nat.le_refl Int.cast_ofNat_Int Int.reduceLT Int.reduceGT Int.reduceGE Int.reduceEq Int.reduceBEq Nat.reduceBEq Int.reduceBNe Int.reduceAdd Int.reduceSub gt_iff_lt ge_iff_le
section
open Go.RowKit
abbrev Str:=List UInt8
inductive Tm where
 | mk (name:Str) (args:List Tm)
def Tm.name:Tm->Str|.mk n _=>n
def Tm.args:Tm->List Tm|.mk _ xs=>xs
theorem Tm.eta:∀a:Tm,Tm.mk a.name a.args=a|.mk _ _=>rfl
mutual
theorem zb0 {P:Tm->Prop}(h:∀n xs,(∀x∈xs,P x)->P (.mk n xs)):∀a,P a
 | .mk n xs=>h n xs (qdi h xs)
theorem qdi {P:Tm->Prop}(h:∀n xs,(∀x∈xs,P x)->P (.mk n xs)):∀xs:List Tm,∀x∈xs,P x
 | [],x,hx=>absurd hx (by simp)
 | a::xs,x,hx=>(Qu.1 hx).elim (fun e=>e▸zb0 h a) (qdi h xs x)
end
mutual
def Tm.fold {α:Type}(f:Str->List Tm->List α->α):Tm->α
 | .mk n xs=>f n xs (Tm.folds f xs)
def Tm.folds {α:Type}(f:Str->List Tm->List α->α):List Tm->List α
 | []=>[]
 | a::xs=>Tm.fold f a::Tm.folds f xs
end
theorem Tm.folds_map {α:Type}(f:Str->List Tm->List α->α)(xs:List Tm):Tm.folds f xs=xs.map (Tm.fold f):=by
 induction xs with
 | nil=>rfl
 | cons a xs ih=>rw[Tm.folds,ih];rfl
theorem Tm.fold_eq {α:Type}(f:Str->List Tm->List α->α)(a:Tm):Tm.fold f a=f a.name a.args (a.args.map (Tm.fold f)):=by
 cases a;rw[Tm.fold,Tm.folds_map];rfl
inductive Fm where
 | mk (op:Int) (atom:Tm) (var:Str) (parts:List Fm)
def Fm.op:Fm->Int|.mk o _ _ _=>o
def Fm.atom:Fm->Tm|.mk _ a _ _=>a
def Fm.var:Fm->Str|.mk _ _ v _=>v
def Fm.parts:Fm->List Fm|.mk _ _ _ ps=>ps
theorem Fm.eta:∀a:Fm,Fm.mk a.op a.atom a.var a.parts=a|.mk _ _ _ _=>rfl
mutual
theorem zb7 {P:Fm->Prop}(h:∀o a v ps,(∀x∈ps,P x)->P (.mk o a v ps)):∀f,P f
 | .mk o a v ps=>h o a v ps (qcc h ps)
theorem qcc {P:Fm->Prop}(h:∀o a v ps,(∀x∈ps,P x)->P (.mk o a v ps)):∀xs:List Fm,∀x∈xs,P x
 | [],x,hx=>absurd hx (by simp)
 | a::xs,x,hx=>(Qu.1 hx).elim (fun e=>e▸zb7 h a) (qcc h xs x)
end
mutual
def Fm.fold {α:Type}(f:Int->Tm->Str->List Fm->List α->α):Fm->α
 | .mk o a v ps=>f o a v ps (Fm.folds f ps)
def Fm.folds {α:Type}(f:Int->Tm->Str->List Fm->List α->α):List Fm->List α
 | []=>[]
 | a::xs=>Fm.fold f a::Fm.folds f xs
end
theorem Fm.folds_map {α:Type}(f:Int->Tm->Str->List Fm->List α->α)(xs:List Fm):Fm.folds f xs=xs.map (Fm.fold f):=by
 induction xs with
 | nil=>rfl
 | cons a xs ih=>rw[Fm.folds,ih];rfl
theorem Fm.fold_eq {α:Type}(f:Int->Tm->Str->List Fm->List α->α)(a:Fm):Fm.fold f a=f a.op a.atom a.var a.parts (a.parts.map (Fm.fold f)):=by
 cases a;rw[Fm.fold,Fm.folds_map];rfl
def tmC:Tm->List T:=Tm.fold fun n _ rs=>[.str n,.sl 2 rs]
theorem zaa (a:Tm):tmC a=[.str a.name,.sl 2 (a.args.map tmC)]:=Tm.fold_eq _ a
def fmC:Fm->List T:=Fm.fold fun o a v _ rs=>[.int .i64 o,.str a.name,.sl 2 (a.args.map tmC),.str v,.sl 5 rs]
theorem zab (a:Fm):fmC a=[.int .i64 a.op,.str a.atom.name,.sl 2 (a.atom.args.map tmC),.str a.var,.sl 5 (a.parts.map fmC)]:=Fm.fold_eq _ a
theorem zd8 (o:Int)(a:Tm)(v:Str)(ps:List Fm):fmC (.mk o a v ps)=[.int .i64 o,.str a.name,.sl 2 (a.args.map tmC),.str v,.sl 5 (ps.map fmC)]:=zab _
abbrev tmD (a:Tm):D:=.agg (tmC a)
abbrev fmD (a:Fm):D:=.agg (fmC a)
abbrev tmS (xs:List Tm):T:=.sl 2 (xs.map tmC)
abbrev fmS (xs:List Fm):T:=.sl 5 (xs.map fmC)
abbrev iD (n:Int):D:=.one (.int .i64 n)
abbrev bD (b:Bool):D:=.one (.bool b)
abbrev sD (s:Str):D:=.one (.str s)
theorem zac {α:Type}(f:α->List T)(xs:List α)(k:Nat)(h:k<xs.length):(xs.map f).getD k []=f (xs[k]'h):=by simp[List.getD,h]
def Tm.wt:Tm->Nat:=Tm.fold fun n xs rs=>n.length+xs.length+rs.sum
theorem Tm.wt_eq (a:Tm):a.wt=a.name.length+a.args.length+(a.args.map Tm.wt).sum:=Tm.fold_eq _ a
def Fm.wt:Fm->Nat:=Fm.fold fun _ a v ps rs=>a.wt+v.length+ps.length+rs.sum
theorem Fm.wt_eq (a:Fm):a.wt=a.atom.wt+a.var.length+a.parts.length+(a.parts.map Fm.wt).sum:=Fm.fold_eq _ a
def zie (xs:List Tm):Nat:=xs.length+(xs.map Tm.wt).sum
def zpx {α:Type}(f:α->Nat)(xs:List α)(k:Nat):Nat:=((xs.take k).map f).sum
theorem qa3 {α:Type}(f:α->Nat)(xs:List α):zpx f xs 0=0:=by simp[zpx]
theorem zfq {α:Type}(f:α->Nat)(xs:List α)(k:Nat)(h:k<xs.length):zpx f xs (k+1)=zpx f xs k+f xs[k]:=by
 unfold zpx
 rw[Qj h,Qt,Js];simp
theorem zyy {α:Type}(f:α->Nat)(xs:List α)(k:Nat):zpx f xs k<=(xs.map f).sum:=by
 unfold zpx
 conv=>rhs;rw[<-K0 k xs,Qt,Js]
 omega
theorem zhv {α:Type}(f:α->Nat)(xs:List α)(k:Nat)(h:xs.length<=k):zpx f xs k=(xs.map f).sum:=by
 unfold zpx
 rw[Qm h]
theorem zay {α:Type}(f:α->Nat)(xs:List α):∀x∈xs,f x<=(xs.map f).sum:=by
 induction xs with
 | nil=>simp
 | cons a xs ih =>
  intro x hx;rcases Qu.1 hx with rfl|hx
  ·simp
  ·have:=ih x hx;simp;omega
noncomputable def same {α:Type}(a b:α):Bool:=@decide (a=b) (Classical.propDecidable _)
theorem zbg {α:Type}{a b:α}:same a b=true↔a=b:=by simp[same]
theorem ziv {α:Type}{a b:α}:same a b=false↔a≠b:=by simp[same]
theorem zho {α:Type}(a:α):same a a=true:=by simp[same]
theorem zh5 {α:Type}(a b:α)(xs ys:List α):same (a::xs) (b::ys)=(same a b&&same xs ys):=by
 rw[Kq,Qc,zbg,zbg,zbg,List.cons.injEq]
theorem zj7 {α:Type}:same ([]:List α) []=true:=zho _
theorem zam {k:Nat}(h:k<9223372036854775807):IntKind.i64.wrap ((k:Int)+1)=((k+1:Nat):Int):=zz4 h
theorem int_eq {k:IntKind}{a b:Int}(h:a=b):T.int k a=T.int k b:=h▸rfl
theorem zo6 (A:List (List T))(n k:Nat)(z ts:List T)(hA:A.length=k)(hk:k<n)(hz:ts.length=z.length):zec (A++List.replicate (n-k) z) k 0 ts=A++[ts]++List.replicate (n-(k+1)) z:=by
 subst hA
 have e:List.replicate (n-A.length) z=z::List.replicate (n-(A.length+1)) z:=by
  rw[show n-A.length=(n-(A.length+1))+1 by omega];rfl
 unfold zec
 rw[e]
 simp[qbi _ _ hz]
end
section
open Go.RowKit
theorem zmp {α:Type}(c:α->List T):∀(xs:List PD),(∀x∈xs,∃a,x.cells=c a)->∃l:List α,PD.rows xs=l.map c
 | [],_=>⟨[],rfl⟩
 | x::xs,h=>by
  obtain⟨a,ha⟩:=h x (by simp);obtain⟨l,hl⟩:=zmp c xs fun y hy=>h y (by simp[hy]);exact⟨a::l,by rw[PD.rows,ha,hl];rfl⟩
end
def ab (n:Int):Int:=max n (-n)
def zuf (S:List (List Int)):Int:=S.foldl (fun n c=>c.foldl (fun m l=>max m (ab l)) n) 0
structure Ps where
 l:Int
 r:Int
 p:Int
 c:List Int
def ps0:Ps:=⟨0,0,0,[]⟩
def ndB1 (n:Nat)(s:Ps)(k:Nat)(out:List Bool):List Bool:=if out.getD (n+k) false=true then (out.set s.l.toNat true).set s.r.toNat true else out
def ndB (n:Nat)(st:List Ps):Nat->List Bool->List Bool
 | 0,out=>out
 | k+1,out=>ndB n st k (ndB1 n (st.getD k ps0) k out)
def nd0 (n m:Nat):List Bool:=(List.replicate (n+m) false).set (n+m-1) true
def nd (n:Nat)(st:List Ps):List Bool:=ndB n st st.length (nd0 n st.length)
section
open Go
structure Cu where
 code:List UInt8
 pos:Nat
 seed:Int
def Cu.b (q:Cu):Int:=if q.pos<q.code.length then ((q.code.getD q.pos 0).toNat:Int)else 0
def Cu.sd (q:Cu):Int:=IntKind.u64.wrap (IntKind.u64.wrap (IntKind.u64.wrap (q.seed*6364136223846793005)+IntKind.u64.wrap q.b)+892892)
def Cu.nx (q:Cu):Cu:=⟨q.code,q.pos+1,q.sd⟩
def Cu.v (q:Cu):Int:=if q.pos+1<=q.code.length then q.b else IntKind.i64.wrap (IntKind.u64.wrap ((BitVec.ofInt 64 (q.sd.fdiv (2^40)) &&& BitVec.ofInt 64 255).toNat:Int))
theorem Cu.v_bd (q:Cu):0<=q.v/\q.v<=255:=by
 unfold Cu.v
 split
 ·unfold Cu.b;split
  ·have:=(q.code.getD q.pos 0).toNat_lt;omega
  ·omega
 ·have h:(BitVec.ofInt 64 (q.sd.fdiv (2^40)) &&& BitVec.ofInt 64 255).toNat<=255:=by
   rw[BitVec.toNat_and];exact Nat.and_le_right
  generalize (BitVec.ofInt 64 (q.sd.fdiv (2^40)) &&& BitVec.ofInt 64 255).toNat=n at h;have e1:IntKind.u64.wrap (n:Int)=n:=by
   simp[IntKind.wrap,IntKind.bits,IntKind.signed];omega
  rw[e1];have e2:IntKind.i64.wrap (n:Int)=n:=by
   simp[IntKind.wrap,IntKind.bits,IntKind.signed];omega
  rw[e2];omega
def Cu.pick (q:Cu)(n:Int):Cu×Int:=if n<=1 then (q,0)else (q.nx,q.v.tmod n)
theorem Cu.pick_bd (q:Cu){n:Int}(h:1<=n):0<=(q.pick n).2/\(q.pick n).2<n:=by
 unfold Cu.pick
 split
 ·dsimp only;omega
 ·have h2:=q.v_bd
  dsimp only
  rw[Int.tmod_eq_emod_of_nonneg h2.1];exact⟨Int.emod_nonneg _ Yt,Int.emod_lt_of_pos _ Yt⟩
theorem Cu.pick_pos (q:Cu)(n:Int):q.pos<=(q.pick n).1.pos/\(q.pick n).1.pos<=q.pos+1:=by
 unfold Cu.pick Cu.nx
 split<;>simp
theorem Cu.pick_code (q:Cu)(n:Int):(q.pick n).1.code=q.code:=by
 unfold Cu.pick Cu.nx
 split<;>rfl
def ammQ (q:Cu)(l:List Int):Cu×Int:=((q.pick l.length).1,l.getD (q.pick l.length).2.toNat 0)
end
end Go.Proofs.YtliiapbmkcbfaaaGreat
