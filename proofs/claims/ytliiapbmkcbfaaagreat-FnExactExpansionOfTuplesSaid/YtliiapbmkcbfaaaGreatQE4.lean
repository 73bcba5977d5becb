/-
  The walk over plain data, and contracts of functions of the program and of its laws.
  Conditions: those that each theorem names.
-/
import Derived.Test.YtliiapbmkcbfaaaGreatQE3
import Derived.MapKept
import Derived.RangeFuncNested
import Derived.RangeFuncLeaves
namespace Go.Proofs.YtliiapbmkcbfaaaGreat
set_option linter.unusedSimpArgs false
set_option linter.unusedVariables false
set_option linter.unusedSectionVars false
section
set_option maxRecDepth 4000
open Go.RowKit
variable {P:Program}
def qbv:T->T->Option Bool
 | .int k a,.int k' b=>if k = k' then some (decide (a = b)) else none
 | .str a,.str b=>some (decide (a = b))
 | .bool a,.bool b=>some (a == b)
 | _,_=>none
def zeo (k:T):List (List T)->Option (Option (List T))
 | []=>some none
 | [] :: _=>none
 | (x :: vs) :: rows=>match qbv k x with
  | some true=>some (some vs)
  | some false=>zeo k rows
  | none=>none
def qc7:TypeDesc->T->Bool
 | .int k,.int k' _=>decide (k' = k)
 | .string,.str _=>true
 | .bool,.bool _=>true
 | _,_=>false
theorem zph {w:World} {A:Nat->Prop} {d:TypeDesc} {k:T} {v:Value} (h:qc7 d k = true) (hv:zar w A k v):Go.MapKept.IsKey d v:=by
 cases d <;> cases k <;> simp [qc7] at h <;> unfold zar at hv
 ·subst hv; trivial
 ·rw [hv.1]; exact h
 ·rw [hv.1]; trivial
theorem zt0 {w:World} {A:Nat->Prop} {d:TypeDesc} {k x:T} {kv xv:Value} {b:Bool} (hd:qc7 d k = true) (h:qbv k x = some b) (hk:zar w A k kv) (hx:zar w A x xv):Instr.sameNow d kv xv = some b:=by
 cases d <;> cases k <;> simp [qc7] at hd <;> cases x <;> simp [qbv] at h <;> unfold zar at hk hx
 ·subst hk hx h; rfl
 ·rw [hk.1,hx.1]
  obtain ⟨h1,h2⟩:=h
  subst h1 h2
  simp [Instr.sameNow]
  exact Kk.2 (by simp)
 ·rw [hk.1,hx.1]
  subst h
  simp only [Instr.sameNow,Qc]
  rw [Kk,Go.MapKept.bytes_beq]
  simp
theorem zfv {w:World} {A:Nat->Prop} {d:TypeDesc} {k:T} {kv:Value} (hd:qc7 d k = true) (hk:zar w A k kv) (ag:Bool):∀ (rows:List (List T)) (es:List MapEntry) (i:Nat) (r:Option (List T)),za6 w A ag rows es->zeo k rows = some r →
  match r with
  | none=>Instr.findNow d kv es i = some none
  | some vs=>∃ j u us,Instr.findNow d kv es i = some (some (j,u)) /\ (if ag = true then u = .agg ⟨us⟩ else us = [u]) /\ zaf w A vs us
 | [],es,i,r,h,hf=>by
  unfold za6 at h
  subst h
  cases hf
  rfl
 | [] :: _,_,_,_,_,hf=>by cases hf
 | (x :: vs) :: rows,es,i,r,h,hf=>by
  unfold za6 at h
  obtain ⟨e,es',us,rfl,h1,h2,h3⟩:=h
  unfold zaf at h2
  obtain ⟨xv,us',e1,h2,h4⟩:=h2
  cases e1
  unfold zeo at hf
  split at hf
  ·rename_i hq
   cases hf
   exact ⟨i,e.val,us,by simp [Instr.findNow,zt0 hd hq hk h2],h1,h4⟩
  ·rename_i hq
   have:=zfv hd hk ag rows es' (i + 1) r h3 hf
   simp only [Instr.findNow,zt0 hd hq hk h2]
   exact this
  ·cases hf
def rowV (ag:Bool) (vs:List T):Option V:=if ag = true then some (.agg (vs.map .t)) else match vs with | [t]=>some (.one (.t t)) | _=>none
def mapT (P:Program) (t:TypeId):Option (TypeDesc × TypeId):=match P.underlying t with
 | some (.map kt et)=>(P.underlying kt).map fun d=>(d,et)
 | _=>none
theorem qhe {t:TypeId} {d:TypeDesc} {et:TypeId} (h:mapT P t = some (d,et)) : ∃ kt,P.underlying t = some (.map kt et) /\ P.underlying kt = some d:=by
 unfold mapT at h
 split at h
 ·rename_i kt et' hu
  obtain ⟨d',h1,h2⟩:=Qz.1 h
  cases h2
  exact ⟨kt,hu,h1⟩
 ·cases h
theorem qmz {σ:St} {g:Gh} {w:World}:∀ {ts:List T} {vs:List Value},zaf w (Fix σ g w) ts vs->CRs σ g w (ts.map .t) vs
 | [],vs,h=>by unfold zaf at h; exact h
 | t :: ts,vs,h=>by
  unfold zaf at h
  obtain ⟨v,vs',rfl,h1,h2⟩:=h
  exact ⟨v,vs',rfl,h1,qmz h2⟩
attribute [go_sem] zeo qbv qc7 rowV mapT
end
section
set_option maxRecDepth 4000
open Go.RowKit
variable {P:Program}
def qpp (v:Value):T->T
 | .sl sz rows=>.pin v (.sl sz rows)
 | t=>t
def qhw (us:Nat->Value):Nat->List T->List T
 | _,[]=>[]
 | j,c :: cs=>qpp (us j) c :: qhw us (j + 1) cs
def zew (vs:Nat->Nat->Value):Nat->List (List T)->List (List T)
 | _,[]=>[]
 | i,r :: rs=>qhw (vs i) 0 r :: zew vs (i + 1) rs
theorem zyx (us:Nat->Value):∀ (cs:List T) (j:Nat),(qhw us j cs).length = cs.length
 | [],_=>rfl
 | c :: cs,j=>by simp [qhw,zyx us cs]
theorem zit (vs:Nat->Nat->Value):∀ (rs:List (List T)) (i:Nat),(zew vs i rs).length = rs.length
 | [],_=>rfl
 | c :: cs,j=>by simp [zew,zit vs cs]
theorem zaz.pin {w:World} {t:T} {v:Value} {fp:List Nat} (h:zaz w t v fp):zaz w (qpp v t) v fp:=by
 unfold qpp
 split
 ·unfold zaz; exact ⟨rfl,h⟩
 ·exact h
theorem zbe.pin {w:World} {cells:Array Value} {us:Nat->Value}:∀ {cs:List T} {o j:Nat} {fps:List Nat},zbe w cells o cs fps->(∀ i,us (j + i) = cells.getD (o + i) undef)->zbe w cells o (qhw us j cs) fps
 | [],_,_,_,h,_=>h
 | c :: cs,o,j,fps,h,hu=>by
  unfold zbe at h
  obtain ⟨v,f1,f2,h1,rfl,h2,h3⟩:=h
  unfold qhw zbe
  have e:us j = v:=by have:=hu 0; rw [Jz,Jz] at this; rw [this,Array.getD_eq_getD_getElem?,h1]; rfl
  refine ⟨v,f1,f2,h1,rfl,by rw [e]; exact h2.pin,zbe.pin h3 fun i=>?_⟩
  have:=hu (i + 1)
  rwa [show j + (i + 1) = j + 1 + i by omega,show o + (i + 1) = o + 1 + i by omega] at this
theorem zak.pin {w:World} {cells:Array Value} {sz:Nat}:∀ {rows:List (List T)} {i:Nat} {fps:List Nat},zak w cells (i * sz) sz rows fps->zak w cells (i * sz) sz (zew (fun i j=>cells.getD (i * sz + j) undef) i rows) fps
 | [],_,_,h=>h
 | r :: rs,i,fps,h=>by
  unfold zak at h
  obtain ⟨h1,f1,f2,rfl,h2,h3⟩:=h
  unfold zew zak
  refine ⟨by rw [zyx]; exact h1,f1,f2,rfl,h2.pin fun j=>by simp,?_⟩
  rw [show i * sz + sz = (i + 1) * sz by rw [Kq]; omega] at h3 ⊢
  exact zak.pin h3
theorem zaz.pins {w:World} {sz:Nat} {rows:List (List T)} {v:Value} {fp:List Nat} (h:zaz w (.sl sz rows) v fp) : ∃ vs,zaz w (.sl sz (zew vs 0 rows)) v fp:=by
 unfold zaz at h
 obtain ⟨ao,cap,h1,h2,h3,h4⟩:=h
 rcases h4 with ⟨k1,k2,rfl,k4⟩ | ⟨b,cells,ty,fps,k1,k2,k3,k4,k5⟩
 ·refine ⟨fun _ _=>undef,?_⟩
  unfold zaz
  exact ⟨ao,cap,h1,h2,h3,Or.inl ⟨k1,k2,rfl,k4⟩⟩
 ·refine ⟨fun i j=>cells.getD (i * sz + j) undef,?_⟩
  unfold zaz
  have:=zak.pin (i:=0) (by rw [Nat.zero_mul]; exact k5)
  rw [Nat.zero_mul] at this
  exact ⟨ao,cap,by rw [zit]; exact h1,by rw [zit]; exact h2,h3,Or.inr ⟨b,cells,ty,fps,k1,k2,k3,k4,this⟩⟩
def zrd:T->T
 | .pin _ t=>t
 | t=>t
def zid (rs:List (List T)):List (List T):=rs.map fun r=>r.map zrd
theorem zaz.unpin {w:World}:∀ {t:T} {v:Value} {fp:List Nat},zaz w t v fp->zaz w (zrd t) v fp
 | .pin _ _,_,_,h=>by unfold zaz at h; exact h.2
 | .int _ _,_,_,h=>h
 | .bool _,_,_,h=>h
 | .str _,_,_,h=>h
 | .sl _ _,_,_,h=>h
 | .ptr _,_,_,h=>h
 | .fn _ _,_,_,h=>h
 | .mp _ _,_,_,h=>h
 | .vs _ _ _,_,_,h=>h
theorem zbe.unpin {w:World} {cells:Array Value}:∀ {cs:List T} {o:Nat} {fps:List Nat},zbe w cells o cs fps->zbe w cells o (cs.map zrd) fps
 | [],_,_,h=>h
 | c :: cs,o,fps,h=>by
  unfold zbe at h
  obtain ⟨v,f1,f2,h1,rfl,h2,h3⟩:=h
  rw [Qi]
  unfold zbe
  exact ⟨v,f1,f2,h1,rfl,h2.unpin,h3.unpin⟩
theorem zak.unpin {w:World} {cells:Array Value} {sz:Nat}:∀ {rows:List (List T)} {o:Nat} {fps:List Nat},zak w cells o sz rows fps->zak w cells o sz (zid rows) fps
 | [],_,_,h=>h
 | r :: rs,o,fps,h=>by
  unfold zak at h
  obtain ⟨h1,f1,f2,rfl,h2,h3⟩:=h
  show zak w cells o sz (r.map zrd :: zid rs) (f1 ++ f2)
  unfold zak
  exact ⟨by simpa using h1,f1,f2,rfl,h2.unpin,h3.unpin⟩
theorem zaz.unpins {w:World} {sz:Nat} {rows:List (List T)} {v:Value} {fp:List Nat} (h:zaz w (.sl sz rows) v fp):zaz w (.sl sz (zid rows)) v fp:=by
 unfold zaz at h ⊢
 have hl:(zid rows).length = rows.length:=by simp [zid]
 obtain ⟨ao,cap,h1,h2,h3,h4⟩:=h
 refine ⟨ao,cap,by rw [hl]; exact h1,by rw [hl]; exact h2,h3,?_⟩
 rcases h4 with ⟨k1,k2,rfl,k4⟩ | ⟨b,cells,ty,fps,k1,k2,k3,k4,k5⟩
 ·exact Or.inl ⟨k1,k2,rfl,k4⟩
 ·exact Or.inr ⟨b,cells,ty,fps,k1,k2,k3,k4,k5.unpin⟩
theorem Rel.reown {n0:Nat->Prop} {N:Nat} {σ:St} {g:Gh} {a:Act} {w:World} (hR:Rel n0 N σ g a w) (hn:LtK n0 w) {e sz gn:Nat} {rows rows':List (List T)} (he:σ.ev e = some ⟨true,sz,rows,gn,true⟩) (h:zaz w (.sl sz rows') (g.ψ e gn) (g.φ e)) :
  Rel n0 N (σ.inp [(e,rows')]) g a w:=by
 have hOn:σ.On e:=⟨_,he,rfl⟩
 have hev:∀ e',(∀ p ∈ [(e,rows')],p.1 ≠ e')->(σ.inp [(e,rows')]).ev e' = σ.ev e':=fun e' h'=>ziy (by simpa using Ne.symm (h' (e,rows') (Q5.2 rfl)))
 have m:Mv σ (σ.inp [(e,rows')]) g g w w:=by
  refine ⟨fun b hf=>rfl,fun b hf=>⟨hf.1,fun e' x hx hon=>?_,hf.2.2⟩,fun b hb=>⟨rfl,hb⟩,fun e n he=>⟨zjz he,rfl⟩,fun b hb=>(zt1 hR (U:=[(e,rows')]) (fp:=g.φ e) (φ':=g.φ) (fun b hb=>⟨(e,rows'),Q5.2 rfl,hb⟩) (fun p hp=>by rw [Q5.1 hp]; exact hOn) (Bk.refl _ _) (fun p hp b hb=>Or.inl (by rw [Q5.1 hp] at hb; exact hb)) (fun _ _=>rfl) b hb).2.2⟩
  by_cases h':e' = e
  ·subst h'; exact hf.2.1 e' _ he rfl
  ·exact hf.2.1 e' x ((hev e' (by simpa using Ne.symm h')).symm.trans hx) hon
 exact hR.inp hn (fp:=g.φ e) (fp':=g.φ e) (φ':=g.φ) (by simp) (by simp) (fun b hb=>⟨(e,rows'),Q5.2 rfl,hb⟩) (Bk.refl _ _) (fun b hb=>Or.inl hb) (fun _ _=>rfl)
  (fun p hp=>by simp at hp; subst hp; exact ⟨sz,rows,gn,he,h,hR.nodup e hOn,fun b hb=>hb⟩) (fun p hp q hq hne=>by simp at hp hq; subst hp; subst hq; exact absurd rfl hne)
  (fun i v h=>m.vr h) (fun b cs vs _ h=>m.crs h) (fun e x _ _ _ v fpx hE hs=>m.evr hE hs) (fun e x _ _ v h=>m.rep h)
def qd3 (vs:Nat->Nat->Value) (sz:Nat) (rows:List (List T)) (post:List D):St:=(zl2 [] (.one (.sl sz rows)) post).inp [(0,zew vs 0 rows)]
theorem zyq {f:FuncId} {fn:Func} {c:Code} {sz:Nat} {rows rows':List (List T)} {post:List D} {res:List D} (hc:za7 P f) (hf:P.funcs[f]? = some fn) (hb:fn.body = some c) (hd:zbv fn.ntmps c = true) (hN:(zdx [] (.one (.sl sz rows)) post).length <= fn.ntmps) (hN2:fn.ntmps <= 1000000)
  (h:∀ vs,ex P c [] (PI P fn.results.toList (.one (.sl sz rows')) res) (qd3 vs sz rows post)):IC P f [] (.one (.sl sz rows)) post (.one (.sl sz rows')) res:=by
 have hs:∀ ds:List D,zbq (zdx [] (.one (.sl sz rows)) ds):=fun ds=>⟨rfl,zcx ds⟩
 refine qms hc hf hb hd hN hN2 (hs _) trivial fun n0 N g a w hR hn=>?_
 have he:(zl2 [] (.one (.sl sz rows)) post).ev 0 = some ⟨true,sz,rows,0,true⟩:=rfl
 have hO:=zel hR he
 obtain ⟨vs,hv⟩:=hO.pins
 exact ⟨_,h vs,hR.reown hn he hv⟩
theorem zbe.cell {w:World} {cells:Array Value}:∀ {cs:List T} {o j:Nat} {c:T} {fps:List Nat},zbe w cells o cs fps->cs[j]? = some c →
  ∃ f1 f f2 v,fps = f1 ++ (f ++ f2) /\ cells[o + j]? = some v /\ zaz w c v f /\ ∀ (w':World) (c':T) (f':List Nat),(∀ b,b ∈ f1 \/ b ∈ f2->w'.heap[b]? = w.heap[b]?)->zaz w' c' v f'->zbe w' cells o (cs.set j c') (f1 ++ (f' ++ f2))
 | [],_,_,_,_,_,h=>by simp at h
 | d :: cs,o,0,c,fps,h,hc=>by
  unfold zbe at h
  obtain ⟨v,f1,f2,h1,rfl,h2,h3⟩:=h
  simp only [List.getElem?_cons_zero,Qc] at hc
  subst hc
  refine ⟨[],f1,f2,v,rfl,h1,h2,fun w' c' f' hk ho=>?_⟩
  show zbe w' cells o (c' :: cs) (f' ++ f2)
  unfold zbe
  exact ⟨v,f',f2,h1,rfl,ho,zbe.keep cells _ cs f2 h3 fun b hb=>hk b (Or.inr hb)⟩
 | d :: cs,o,j + 1,c,fps,h,hc=>by
  unfold zbe at h
  obtain ⟨v,f1,f2,h1,rfl,h2,h3⟩:=h
  obtain ⟨g1,g,g2,u,rfl,k1,k2,k3⟩:=zbe.cell h3 (by simpa using hc)
  refine ⟨f1 ++ g1,g,g2,u,by simp,by rw [<-k1]; congr 1; omega,k2,fun w' c' f' hk ho=>?_⟩
  show zbe w' cells o (d :: cs.set j c') _
  unfold zbe
  exact ⟨v,f1,g1 ++ (f' ++ g2),h1,by simp,zaz.keep d v f1 h2 fun b hb=>hk b (Or.inl (by simp [hb])),k3 w' c' f' (fun b hb=>hk b (by rcases hb with hb | hb <;> simp [hb])) ho⟩
theorem zak.cell {w:World} {cells:Array Value} {sz:Nat}:∀ {rows:List (List T)} {o i j:Nat} {r:List T} {c:T} {fps:List Nat},zak w cells o sz rows fps->rows[i]? = some r->r[j]? = some c →
  ∃ f1 f f2 v,fps = f1 ++ (f ++ f2) /\ cells[o + i * sz + j]? = some v /\ zaz w c v f /\ ∀ (w':World) (c':T) (f':List Nat),(∀ b,b ∈ f1 \/ b ∈ f2->w'.heap[b]? = w.heap[b]?)->zaz w' c' v f'->zak w' cells o sz (rows.set i (r.set j c')) (f1 ++ (f' ++ f2))
 | [],_,_,_,_,_,_,_,h,_=>by simp at h
 | d :: rows,o,0,j,r,c,fps,h,hr,hc=>by
  unfold zak at h
  obtain ⟨h1,f1,f2,rfl,h2,h3⟩:=h
  simp only [List.getElem?_cons_zero,Qc] at hr
  subst hr
  obtain ⟨g1,g,g2,u,rfl,k1,k2,k3⟩:=zbe.cell h2 hc
  refine ⟨g1,g,g2 ++ f2,u,by simp,by simpa using k1,k2,fun w' c' f' hk ho=>?_⟩
  show zak w' cells o sz (d.set j c' :: rows) _
  unfold zak
  exact ⟨by simp [h1],g1 ++ (f' ++ g2),f2,by simp,k3 w' c' f' (fun b hb=>hk b (by rcases hb with hb | hb <;> simp [hb])) ho,zak.keep cells _ sz rows f2 h3 fun b hb=>hk b (by simp [hb])⟩
 | d :: rows,o,i + 1,j,r,c,fps,h,hr,hc=>by
  unfold zak at h
  obtain ⟨h1,f1,f2,rfl,h2,h3⟩:=h
  obtain ⟨g1,g,g2,u,rfl,k1,k2,k3⟩:=zak.cell h3 (by simpa using hr) hc
  refine ⟨f1 ++ g1,g,g2,u,by simp,by rw [<-k1]; congr 1; rw [Kq]; omega,k2,fun w' c' f' hk ho=>?_⟩
  show zak w' cells o sz (d :: rows.set i (r.set j c')) _
  unfold zak
  exact ⟨h1,f1,g1 ++ (f' ++ g2),by simp,zbe.keep cells o d f1 h2 fun b hb=>hk b (Or.inl (by simp [hb])),k3 w' c' f' (fun b hb=>hk b (by rcases hb with hb | hb <;> simp [hb])) ho⟩
theorem qd0 {o:Oper} {σ:St} {x:Operand} {asx:Array Operand} {ts:Array TypeId} {f:FuncId} {cvs:List V} {post:List D} {sz1:Nat} {rows1 rows1':List (List T)} {res:List D} {v:Value} {p2:List V} {e i j sz gn:Nat} {rows:List (List T)} {r:List T} (ho:o.op = .call ⟨.value x,asx,ts⟩)
  (h:IC P f [] (.one (.sl sz1 rows1)) post (.one (.sl sz1 rows1')) res) (hc:zaw (σ.get P 0 x) = some (f,cvs)) (hx:σ.gets P asx ts ++ cvs = .one (.cv v) :: p2) (h2:zu8 p2 post) (he:σ.ev e = some ⟨true,sz,rows,gn,true⟩) (hr:rows[i]? = some r) (hcl:r[j]? = some (.pin v (.sl sz1 rows1)))
  (hres:res.all D.fl = true) (hD:Deep σ):zah P o σ ((σ.inp [(e,rows.set i (r.set j (.sl sz1 rows1')))]).put o.dst (zm4 (res.map D.toV))):=by
 intro n0 N g a w hR hn hdN
 obtain ⟨vs,hrun,hvl⟩:=zdf hR ho hc h.1
 rw [hx] at hvl
 obtain ⟨v1,us2,rfl,rfl,v4⟩:=hvl
 have hOn:σ.On e:=⟨_,he,rfl⟩
 have hO:=zel hR he
 have hnd:=hR.nodup e hOn
 have hO2:=hO
 unfold zaz at hO
 obtain ⟨ao,cap,e1,e2,e3,e4⟩:=hO
 rcases e4 with ⟨_,_,rfl,_⟩ | ⟨b0,cells,ty,fps,k1,k2,k3,k4,k5⟩
 ·simp at hr
 obtain ⟨f1,ff,f2,u,rfl,c1,c2,c3⟩:=zak.cell k5 hr hcl
 unfold zaz at c2
 obtain ⟨rfl,c2⟩:=c2
 have hsubf:∀ b',b' ∈ ff->b' ∈ g.φ e:=fun b' hb=>by rw [k2]; simp [hb]
 rw [k2] at hnd
 obtain ⟨nb,nd⟩:=Ku.1 hnd
 obtain ⟨nd1,nd2,nd3⟩:=Q8.1 nd
 obtain ⟨nd4,nd5,nd6⟩:=Q8.1 nd2
 have hbf:∀ b',(b' = b0 \/ b' ∈ f1 \/ b' ∈ f2)->b' ∉ ff:=fun b' h hm=>by
  rcases h with rfl | h | h
  ·exact nb (by simp [hm])
  ·exact nd3 b' h b' (by simp [hm]) rfl
  ·exact nd6 b' hm b' h rfl
 have hlt:∀ b' ∈ g.φ e,b' < w.heap.size:=(hR.evs e _ he rfl).lt
 unfold Oper.wp
 rw [hrun]
 refine (h.2 w [] u us2 ff (zkj (.sl sz1 rows1) ff) rfl ⟨c2,rfl⟩ (zk4 _ h2 v4) nd4).mono ?_
 rintro ee w' ⟨us,fp',tp',rfl,q1,q2,q3,q4⟩
 obtain ⟨v0,us0,g1,g2,t1,t2,e0,rfl,rfl,q5,q6⟩:=q1
 cases e0
 obtain ⟨n1,n2,n3⟩:=Q8.1 q2
 have hnew:∀ b',b' < w.heap.size->b' ∈ g1->b' ∈ ff:=fun b' h1 h2=>(q3 b' (Jw _ h2)).resolve_right (by omega)
 have hsub:∀ b' ∈ g1,b' ∈ ff \/ w.heap.size <= b':=fun b' hb=>q3 b' (Jw _ hb)
 have hblk:∀ b',b' < w.heap.size->b' ∉ ff->w'.heap[b']? = w.heap[b']?:=fun b' h1 h2=>q4.block b' ⟨h1,h2⟩
 have hrows:=c3 w' (.sl sz1 rows1') g1 (fun b' hb=>hblk b' (hlt b' (by rw [k2]; rcases hb with hb | hb <;> simp [hb])) (hbf b' (Or.inr hb))) q5.1
 have hown:zaz w' (.sl sz (rows.set i (r.set j (.sl sz1 rows1')))) (g.ψ e gn) (b0 :: (f1 ++ (g1 ++ f2))):=by
  unfold zaz
  exact ⟨ao,cap,by simpa using e1,by simpa using e2,e3,Or.inr ⟨b0,cells,ty,_,k1,rfl,by rw [hblk b0 (hlt b0 (by rw [k2]; simp)) (hbf b0 (Or.inl rfl))]; exact k3,k4,hrows⟩⟩
 have hnd':(b0 :: (f1 ++ (g1 ++ f2))).Nodup:=by
  refine Ku.2 ⟨fun hm=>?_,Q8.2 ⟨nd1,Q8.2 ⟨n1,nd5,fun x hx y hy hxy=>?_⟩,fun x hx y hy hxy=>?_⟩⟩
  ·have hl:=hlt b0 (by rw [k2]; simp)
   simp only [Qt] at hm
   rcases hm with hm | hm | hm
   ·exact nb (by simp [hm])
   ·exact nb (by simp [hnew b0 hl hm])
   ·exact nb (by simp [hm])
  ·subst hxy
   exact nd6 x (hnew x (hlt x (by rw [k2]; simp [hy])) hx) x hy rfl
  ·subst hxy
   have hl:=hlt x (by rw [k2]; simp [hx])
   rcases Qt.1 hy with hy | hy
   ·exact nd3 x hx x (by simp [hnew x hl hy]) rfl
   ·exact nd3 x hx x (by simp [hy]) rfl
 have hBkf:Bk (fun k=>k < w.heap.size /\ k ∉ g.φ e) w w':=⟨q4.os,q4.tape,q4.output,q4.size,fun k hk=>q4.block k ⟨hk.1,fun hm=>hk.2 (hsubf k hm)⟩⟩
 have hBk:Bk n0 w w':=⟨q4.os,q4.tape,q4.output,q4.size,fun k hk=>q4.block k ⟨hn k hk,fun hm=>hR.etop e hOn k (hsubf k hm) hk⟩⟩
 have hfp':∀ b' ∈ b0 :: (f1 ++ (g1 ++ f2)),b' ∈ g.φ e \/ w.heap.size <= b':=fun b' hb=>by
  simp only [Qu,Qt] at hb
  rw [k2]
  rcases hb with hb | hb | hb | hb
  ·left; simp [hb]
  ·left; simp [hb]
  ·rcases hsub b' hb with hb | hb
   ·left; simp [hb]
   ·exact Or.inr hb
  ·left; simp [hb]
 generalize hrw:rows.set i (r.set j (.sl sz1 rows1')) = rows' at hown ⊢
 have j1:∀ e',(∀ p ∈ [(e,rows')],p.1 ≠ e')->upd g.φ e (b0 :: (f1 ++ (g1 ++ f2))) e' = g.φ e':=fun e' h'=>zam _ _ (Ne.symm (h' (e,rows') (Q5.2 rfl)))
 have hfpU:∀ b' ∈ g.φ e,∃ p ∈ [(e,rows')],b' ∈ g.φ p.1:=fun b' hb=>⟨(e,rows'),Q5.2 rfl,hb⟩
 have hOU:∀ p ∈ [(e,rows')],σ.On p.1:=fun p hp=>by rw [Q5.1 hp]; exact hOn
 have hb':∀ p ∈ [(e,rows')],∀ b' ∈ upd g.φ e (b0 :: (f1 ++ (g1 ++ f2))) p.1,b' ∈ g.φ e \/ w.heap.size <= b':=fun p hp b' hb=>by
  rw [Q5.1 hp,zag] at hb
  exact hfp' b' hb
 obtain ⟨d1,d2,d3⟩:=hD
 have hrn:=zt1 hR hfpU hOU hBkf hb' j1
 have hR':Rel n0 N (σ.inp [(e,rows')]) { g with φ:=upd g.φ e (b0 :: (f1 ++ (g1 ++ f2))) } a w':=by
  refine hR.inp hn (by simp) (fun p hp=>by rw [Q5.1 hp]; exact fun _ h=>h) hfpU hBkf hfp' j1
   (fun p hp=>by rw [Q5.1 hp,zag]; exact ⟨sz,rows,gn,he,hown,hnd',fun _ h=>h⟩) (fun p hp q hq hne=>by rw [Q5.1 hp,Q5.1 hq] at hne; exact absurd rfl hne)
   (fun i v h=>qml (g:=g) (g':={ g with φ:=upd g.φ e (b0 :: (f1 ++ (g1 ++ f2))) }) rfl rfl (fun e n=>zjz) hrn (d1 i) h) (fun b cs vs hb h=>zlp (g:=g) (g':={ g with φ:=upd g.φ e (b0 :: (f1 ++ (g1 ++ f2))) }) rfl rfl (fun e n=>zjz) hrn (d2 b cs hb) h) (fun e x he hx hon v fpx hE hs=>?_) (fun e x hx hon=>?_)
  ·obtain ⟨ao,cap,r1,r2,r3,r4⟩:=hE
   refine ⟨ao,cap,r1,r2,r3,?_⟩
   rcases r4 with r4 | ⟨b,cells,ty,fps,r4,r5,r6,r7,r8⟩
   ·exact Or.inl r4
   ·subst r5
    rw [if_pos (d3 e x hx).2] at r8
    exact Or.inr ⟨b,cells,ty,fps,r4,rfl,by rw [hs b (by simp)]; exact r6,r7,by rw [if_pos (d3 e x hx).2]; exact zak.keep cells 0 x.sz x.rows fps r8 fun b' hb'=>hs b' (by simp [hb'])⟩
  ·rw [(d3 e x hx).1] at hon; cases hon
 refine ⟨{ g with φ:=upd g.φ e (b0 :: (f1 ++ (g1 ++ f2))) },?_,hBk,rfl,rfl⟩
 exact hR'.put o.dst (ze6 (zbr.vrl (zp1 hres q6)) (fun y hy=>by
  obtain ⟨d,_,rfl⟩:=Kf.1 hy
  cases d <;> rfl)) hdN
def zox (rows:List (List T)) (i j:Nat) (t:T):List (List T):=rows.set i ((rows.getD i []).set j t)
def evC (i j:Nat) (t:T) (x:Ev):Ev:=⟨x.deep,x.sz,zox x.rows i j t,x.gen,x.on⟩
def St.cN (σ:St) (e i j:Nat) (t:T) (dst:Option Nat) (res:List D):St:=St.put ⟨σ.sl,σ.bx,upd σ.ev e ((σ.ev e).map (evC i j t))⟩ dst (zm4 (res.map D.toV))
def onN (x:Option Ev) (i j:Nat) (v:Value) (t:T):Prop:=zat x fun y=>y.on = true /\ y.deep = true /\ y.rows[i]?.isSome = true /\ (y.rows.getD i [])[j]? = some (.pin v t)
def qom (xs:List V) (K:Value->List V->Prop):Prop:=match xs with
 | .one (.cv v) :: p2=>K v p2
 | _=>False
section
variable {ks:List Fr} {Q:Exit->St->Prop} {σ:St} {ops:Array Oper} {os:List Oper} {ty:TypeId} {ps:String} {af:Array Edge} {dst:Option Nat} {x:Operand} {asx:Array Operand} {ts:Array TypeId} {f:FuncId} {post:List D} {res:List D}
theorem callN {l:List (Nat × V)} {bl:List (Nat × List C)} {el:List (Nat × Ev)} (e i j:Nat) {sz1:Nat} {rows1 rows1':List (List T)} (h:IC P f [] (.one (.sl sz1 rows1)) post (.one (.sl sz1 rows1')) res) (hw:wkL σ (hd l bl el) l /\ wkB σ (hd l bl el) bl /\ wkE σ el)
  (hd1:(l.all fun p=>p.2.mOk) = true) (hd2:(bl.all fun p=>p.2.all C.mOk) = true) (hd3:(el.all fun p=>p.2.on && p.2.deep) = true)
  (hp:zat (zaw ((hd l bl el).get P 0 x)) fun p=>p.1 = f /\ qom ((hd l bl el).gets P asx ts ++ p.2) fun v p2=>zu8 p2 post /\ onN (tbl el e) i j v (.sl sz1 rows1)) (hr:res.all D.fl = true)
  (k:exo P ops os ks Q ((hd l bl el).cN e i j (.sl sz1 rows1') dst res)):exo P ops (⟨dst,.call ⟨.value x,asx,ts⟩,ty,ps,af,none⟩ :: os) ks Q σ:=by
 obtain ⟨⟨f',cvs⟩,h1,rfl,h2⟩:=zaq hp
 unfold qom at h2
 split at h2
 ·rename_i v p2 hx
  obtain ⟨h3,h4⟩:=h2
  obtain ⟨⟨dp,sz,rows,gn,on⟩,he,rfl,rfl,h5,h6⟩:=zaq h4
  obtain ⟨r,hr'⟩:=Jn.1 h5
  have hg:rows.getD i [] = r:=by rw [List.getD_eq_getElem?_getD,hr']; rfl
  rw [hg] at h6
  have hs:=qd0 (P:=P) (o:=⟨dst,.call ⟨.value x,asx,ts⟩,ty,ps,af,none⟩) (σ:=hd l bl el) rfl h h1 hx h3 (e:=e) he hr' h6 hr (qe5 hd1 hd2 hd3)
  refine zc6 rfl rfl (σ':=(hd l bl el).cN e i j (.sl sz1 rows1') dst res) ?_ k
  have e0:(hd l bl el).cN e i j (.sl sz1 rows1') dst res = ((hd l bl el).inp [(e,rows.set i (r.set j (.sl sz1 rows1')))]).put dst (zm4 (res.map D.toV)):=by
   unfold St.cN St.inp qbh qbh
   rw [show (hd l bl el).ev e = _ from he]
   simp only [Kj,zox,evC,hg]
  rw [e0]
  exact zah.pre (zac hw) hs
 ·exact h2.elim
end
attribute [go_sem] qom onN St.cN evC
end
section
set_option maxRecDepth 4000
open Go.RowKit
variable {P:Program}
abbrev Sr:=Nat × Option (Nat × Nat)
def okQ:Option (Nat × Nat)->Option (Nat × Nat)->Bool
 | some a,some b=>!(a.1 == b.1 && a.2 == b.2)
 | _,_=>false
def okS:List Sr->Sr->Bool
 | [],_=>true
 | (e,p) :: u,(e',p')=>(if e = e' then okQ p p' else true) && okS u (e',p')
def owU (x:Option Ev) (sz:Nat) (rows:List (List T)) (g:Nat):Prop:=zat x fun y=>y.deep = true /\ y.sz = sz /\ (y.rows = rows \/ zid y.rows = rows) /\ y.gen = g /\ y.on = true
def gvT (σ:St) (K:List Sr->List (Nat × Nat × Nat)->Prop) (u:List Sr) (ps:List (Nat × Nat × Nat)) (x t:T):Prop:=match x,ps with
 | .pin v y,(e,i,j) :: ps=>y = t /\ okS u (e,some (i,j)) = true /\ onN (σ.ev e) i j v t /\ K ((e,some (i,j)) :: u) ps
 | x,ps=>x = t /\ t.flat = true /\ K u ps
theorem qh4 {σ:St} {K K':List Sr->List (Nat × Nat × Nat)->Prop} (hK:∀ u ps,K u ps->K' u ps) {u:List Sr} {ps:List (Nat × Nat × Nat)} {x t:T} (h:gvT σ K u ps x t):gvT σ K' u ps x t:=by
 unfold gvT at h ⊢
 split at h
 ·exact ⟨h.1,h.2.1,h.2.2.1,hK _ _ h.2.2.2⟩
 ·exact ⟨h.1,h.2.1,hK _ _ h.2.2⟩
def gvK (σ:St) (K:List Sr->List (Nat × Nat × Nat)->Prop):List Sr->List (Nat × Nat × Nat)->List C->List T->Prop
 | u,ps,[],[]=>K u ps
 | u,ps,.t x :: cs,t :: ts=>gvT σ (fun u ps=>gvK σ K u ps cs ts) u ps x t
 | u,ps,.nl _ :: cs,.sl _ rows :: ts=>rows = [] /\ gvK σ K u ps cs ts
 | u,ps,.ow e g :: cs,.sl sz rows :: ts=>okS u (e,none) = true /\ owU (σ.ev e) sz rows g /\ gvK σ K ((e,none) :: u) ps cs ts
 | u,(e,i,j) :: ps,.cv v :: cs,t :: ts=>okS u (e,some (i,j)) = true /\ onN (σ.ev e) i j v t /\ gvK σ K ((e,some (i,j)) :: u) ps cs ts
 | _,_,_,_=>False
def rdC:C->T->Prop
 | .t x,y=>x = y /\ T.nm y = true
 | .fn f [],.fn g []=>f = g
 | .rn x,y=>x = y
 | .er cs o,.ptr cs'=>o = 0 /\ cs = cs'
 | .nl _,.sl _ rows=>rows = []
 | _,_=>False
def rdCs:List C->List T->Prop
 | [],[]=>True
 | c :: cs,t :: ts=>rdC c t /\ rdCs cs ts
 | _,_=>False
def rdV:V->D->Prop
 | .one c,.one t=>rdC c t
 | .agg cs,.agg ts=>rdCs cs ts
 | _,_=>False
def gvA (σ:St) (K:List Sr->Prop):List Sr->List (Nat × Nat × Nat)->List V->List (Bool × D)->Prop
 | u,_,[],[]=>K u
 | u,ps,v :: vs,(false,d) :: ds=>rdV v d /\ gvA σ K u ps vs ds
 | u,ps,.one c :: vs,(true,.one t) :: ds=>gvK σ (fun u ps=>gvA σ K u ps vs ds) u ps [c] [t]
 | u,ps,.agg cs :: vs,(true,.agg ts) :: ds=>gvK σ (fun u ps=>gvA σ K u ps vs ds) u ps cs ts
 | _,_,_,_=>False
theorem zhb {σ:St} {K K':List Sr->List (Nat × Nat × Nat)->Prop} (hK:∀ u ps,K u ps->K' u ps):∀ {cs:List C} {ts:List T} {u:List Sr} {ps:List (Nat × Nat × Nat)},gvK σ K u ps cs ts->gvK σ K' u ps cs ts
 | [],[],_,_,h=>hK _ _ h
 | [],_ :: _,_,_,h=>by cases h
 | c :: cs,[],u,ps,h=>by cases c <;> first | exact (show False from h).elim | (cases ps <;> exact (show False from h).elim)
 | c :: cs,t :: ts,u,ps,h=>by
  unfold gvK at h ⊢
  split at h
  ·rename_i e1 e2; cases e1
  ·rename_i e1 e2; cases e1; cases e2; exact qh4 (fun u ps h=>zhb hK h) h
  ·rename_i e1 e2; cases e1; cases e2; exact ⟨h.1,zhb hK h.2⟩
  ·rename_i e1 e2; cases e1; cases e2; exact ⟨h.1,h.2.1,zhb hK h.2.2⟩
  ·rename_i e1 e2; cases e1; cases e2; exact ⟨h.1,h.2.1,zhb hK h.2.2⟩
  ·exact h.elim
theorem zhm {σ:St} {K K':List Sr->Prop} (hK:∀ u,K u->K' u):∀ {xs:List V} {ds:List (Bool × D)} {u:List Sr} {ps:List (Nat × Nat × Nat)},gvA σ K u ps xs ds->gvA σ K' u ps xs ds
 | [],[],_,_,h=>hK _ h
 | [],_ :: _,_,_,h=>h.elim
 | x :: xs,[],_,_,h=>by cases x <;> exact h.elim
 | x :: xs,(false,d) :: ds,_,_,h=>by unfold gvA at h ⊢; exact ⟨h.1,zhm hK h.2⟩
 | .one c :: xs,(true,.one t) :: ds,_,_,h=>by unfold gvA at h ⊢; exact zhb (fun u ps hu=>zhm hK hu) h
 | .agg cs :: xs,(true,.agg ts) :: ds,_,_,h=>by unfold gvA at h ⊢; exact zhb (fun u ps hu=>zhm hK hu) h
 | .one _ :: _,(true,.agg _) :: _,_,_,h=>h.elim
 | .agg _ :: _,(true,.one _) :: _,_,_,h=>h.elim
 | .tup _ :: _,(true,d) :: _,_,_,h=>by cases d <;> exact h.elim
theorem za2.fam {w:World}:∀ {cs:List T} {vs:List Value} {fps:List Nat},za2 w cs vs fps->∃ F:Nat->List Nat,(∀ k c,cs[k]? = some c->∃ v,vs[k]? = some v /\ zaz w c v (F k)) /\ (∀ k b,b ∈ F k->b ∈ fps) /\ (fps.Nodup->(∀ k,(F k).Nodup) /\ ∀ k k',k ≠ k'->∀ b ∈ F k,b ∉ F k')
 | [],vs,fps,h=>⟨fun _=>[],fun k c hc=>by simp at hc,by simp,fun _=>⟨by simp,by simp⟩⟩
 | c :: cs,_,_,h=>by
  obtain ⟨v,vs',f1,f2,rfl,rfl,h1,h2⟩:=h
  obtain ⟨F,k1,k2,k3⟩:=za2.fam h2
  refine ⟨fun k=>match k with | 0=>f1 | k + 1=>F k,fun k c' hc=>?_,fun k b hb=>?_,fun hn=>?_⟩
  ·cases k with
   | zero=>simp only [List.getElem?_cons_zero,Qc] at hc; subst hc; exact ⟨v,rfl,h1⟩
   | succ k=>exact k1 k c' (by simpa using hc)
  ·cases k with
   | zero=>exact Jw _ hb
   | succ k=>exact Jm _ (k2 k b hb)
  ·obtain ⟨n1,n2,n3⟩:=Q8.1 hn
   obtain ⟨m1,m2⟩:=k3 n2
   refine ⟨fun k=>?_,fun k k' hne b hb hb'=>?_⟩
   ·cases k with
    | zero=>exact n1
    | succ k=>exact m1 k
   ·cases k with
    | zero =>
     cases k' with
     | zero=>exact hne rfl
     | succ k'=>exact n3 b hb b (k2 k' b hb') rfl
    | succ k =>
     cases k' with
     | zero=>exact n3 b hb' b (k2 k b hb) rfl
     | succ k'=>exact m2 k k' (by omega) b hb hb'
theorem qg8 {sz:Nat}:∀ {rows:List (List T)} {i j:Nat} {r:List T} {c:T},lens sz rows->rows[i]? = some r->r[j]? = some c->rows.flatten[i * sz + j]? = some c
 | [],_,_,_,_,_,h,_=>by simp at h
 | d :: rows,0,j,r,c,hl,hr,hc=>by
  simp only [List.getElem?_cons_zero,Qc] at hr
  subst hr
  have hj:j < d.length:=by
   rcases Nat.lt_or_ge j d.length with h | h
   ·exact h
   ·rw [List.getElem?_eq_none h] at hc; cases hc
  rw [Q9,List.getElem?_append_left (by omega)]
  simpa using hc
 | d :: rows,i + 1,j,r,c,hl,hr,hc=>by
  have hd:d.length = sz:=hl d (by simp)
  have:=qg8 (sz:=sz) (rows:=rows) (fun r hr=>hl r (by simp [hr])) (by simpa using hr) hc
  rw [Q9,List.getElem?_append_right (by rw [hd,Kq]; omega)]
  rwa [show (i + 1) * sz + j - d.length = i * sz + j by rw [hd,Kq]; omega]
structure Fam (w:World) (σ:St) (g:Gh) (B:Sr->List Nat):Prop where
 whole:∀ e,B (e,none) = g.φ e
 cell:∀ e i j v t,onN (σ.ev e) i j v t->zaz w t v (B (e,some (i,j)))
 sub:∀ e p b,σ.On e->b ∈ B (e,p)->b ∈ g.φ e
 nodup:∀ e p,σ.On e->(B (e,p)).Nodup
 apart:∀ e p p',σ.On e->p ≠ p'->∀ b ∈ B (e,some p),b ∉ B (e,some p')
theorem Rel.fam {n0:Nat->Prop} {N:Nat} {σ:St} {g:Gh} {a:Act} {w:World} (hR:Rel n0 N σ g a w) : ∃ B,Fam w σ g B:=by
 have h1:∀ e,∃ F:Nat × Nat->List Nat,∀ dp sz rows gn,σ.ev e = some ⟨dp,sz,rows,gn,true⟩->((dp = true->∀ i j v t,rows[i]?.isSome = true->(rows.getD i [])[j]? = some (.pin v t)->zaz w t v (F (i,j))) /\ (∀ p b,b ∈ F p->b ∈ g.φ e) /\ (∀ p,(F p).Nodup) /\ ∀ p p',p ≠ p'->∀ b ∈ F p,b ∉ F p'):=by
  intro e
  by_cases hon : ∃ sz rows gn,σ.ev e = some ⟨true,sz,rows,gn,true⟩
  ·obtain ⟨sz,rows,gn,he⟩:=hon
   have hnd:=hR.nodup e ⟨_,he,rfl⟩
   obtain ⟨ao,cap,vs,k1,k2,k3,k4,k5,k6,k7⟩:=hR.vals he rfl
   rcases k7 with ⟨_,_,k7,k8⟩ | ⟨b,cells,ty,fps,k7,k8,k9,k10,k11,k12,k13⟩
   ·refine ⟨fun _=>[],fun dp sz' rows' gn' he'=>?_⟩
    rw [he,Qc] at he'
    cases he'
    have k7:rows = []:=k7
    subst k7
    exact ⟨fun _ i j v t h=>by simp at h,by simp,by simp,by simp⟩
   ·obtain ⟨F,f1,f2,f3⟩:=(k12 rfl).fam
    rw [k8] at hnd
    obtain ⟨m1,m2⟩:=f3 (Ku.1 hnd).2
    refine ⟨fun p=>if p.2 < sz /\ p.1 < rows.length then F (p.1 * sz + p.2) else [],fun dp sz' rows' gn' he'=>?_⟩
    rw [he,Qc] at he'
    cases he'
    refine ⟨fun _ i j v t h1 h2=>?_,fun p b hb=>?_,fun p=>?_,fun p p' hne b hb hb'=>?_⟩
    ·obtain ⟨r,hr⟩:=Jn.1 h1
     have hg:rows.getD i [] = r:=by rw [List.getD_eq_getElem?_getD,hr]; rfl
     rw [hg] at h2
     have hj:j < sz:=by
      have:r.length = sz:=k4 r (List.mem_of_getElem? hr)
      rcases Nat.lt_or_ge j r.length with h | h
      ·omega
      ·rw [List.getElem?_eq_none h] at h2; cases h2
     have hi:i < rows.length:=(List.getElem?_eq_some_iff.1 hr).1
     obtain ⟨u,_,hu⟩:=f1 _ _ (qg8 k4 hr h2)
     show zaz w t v (if j < sz /\ i < rows.length then F (i * sz + j) else [])
     rw [if_pos ⟨hj,hi⟩]
     unfold zaz at hu
     obtain ⟨rfl,hu⟩:=hu
     exact hu
    ·by_cases hp:p.2 < sz /\ p.1 < rows.length
     ·simp only [if_pos hp] at hb; rw [k8]; exact Jf _ (f2 _ _ hb)
     ·simp only [if_neg hp] at hb; simp at hb
    ·by_cases hp:p.2 < sz /\ p.1 < rows.length
     ·simp only [if_pos hp]; exact m1 _
     ·simp only [if_neg hp]; simp
    ·by_cases hp:p.2 < sz /\ p.1 < rows.length
     ·by_cases hp':p'.2 < sz /\ p'.1 < rows.length
      ·simp only [if_pos hp,if_pos hp'] at hb hb'
       refine m2 _ _ (fun heq=>hne ?_) b hb hb'
       obtain ⟨i,j⟩:=p
       obtain ⟨i',j'⟩:=p'
       simp only at hp hp' heq
       have hii:i = i':=by
        rcases Nat.lt_trichotomy i i' with h | h | h
        ·have:=K1 sz (show i + 1 <= i' by omega); rw [Kq] at this; omega
        ·exact h
        ·have:=K1 sz (show i' + 1 <= i by omega); rw [Kq] at this; omega
       subst hii
       have:j = j':=by omega
       subst this; rfl
      ·simp only [if_neg hp'] at hb'; simp at hb'
     ·simp only [if_neg hp] at hb; simp at hb
  ·refine ⟨fun _=>[],fun dp sz rows gn he=>⟨fun hd=>?_,by simp,by simp,by simp⟩⟩
   subst hd
   exact absurd ⟨sz,rows,gn,he⟩ hon
 refine ⟨fun s=>match s.2 with | none=>g.φ s.1 | some p=>Classical.choose (h1 s.1) p,⟨fun e=>rfl,fun e i j v t ho=>?_,fun e p b ho hb=>?_,fun e p ho=>?_,fun e p p' ho hne b hb=>?_⟩⟩
 ·obtain ⟨⟨dp,sz,rows,gn,on⟩,he,h2,h3,h4,h5⟩:=zaq ho
  simp only at h2 h3
  subst h2 h3
  exact (Classical.choose_spec (h1 e) true sz rows gn he).1 rfl i j v t h4 h5
 ·cases p with
  | none=>exact hb
  | some p =>
   obtain ⟨⟨dp,sz,rows,gn,on⟩,he,ho⟩:=ho
   simp only at ho
   subst ho
   exact (Classical.choose_spec (h1 e) dp sz rows gn he).2.1 p b hb
 ·cases p with
  | none=>exact hR.nodup e ho
  | some p =>
   obtain ⟨⟨dp,sz,rows,gn,on⟩,he,ho⟩:=ho
   simp only at ho
   subst ho
   exact (Classical.choose_spec (h1 e) dp sz rows gn he).2.2.1 p
 ·obtain ⟨⟨dp,sz,rows,gn,on⟩,he,ho⟩:=ho
  simp only at ho
  subst ho
  exact (Classical.choose_spec (h1 e) dp sz rows gn he).2.2.2 p p' hne b hb
def bks (B:Sr->List Nat) (u:List Sr):List Nat:=u.flatMap B
def okP (s s':Sr):Prop:=s.1 ≠ s'.1 \/ (s.2 ≠ none /\ s'.2 ≠ none /\ s.2 ≠ s'.2)
theorem okP.symm {s s':Sr} (h:okP s s'):okP s' s:=h.imp (fun h=>Ne.symm h) fun h=>⟨h.2.1,h.1,Ne.symm h.2.2⟩
theorem zxk:∀ {u:List Sr} {s:Sr},okS u s = true->∀ x ∈ u,okP s x
 | [],_,_,x,hx=>by simp at hx
 | (e,p) :: u,(e',p'),h,x,hx=>by
  unfold okS at h
  rw [Qa] at h
  rcases Qu.1 hx with rfl | hx
  ·have h1:=h.1
   by_cases he:e = e'
   ·rw [if_pos he] at h1
    right
    unfold okQ at h1
    split at h1
    ·rename_i a b
     refine ⟨by simp,by simp,fun e=>?_⟩
     simp only [Qc] at e
     subst e
     simp at h1
    ·cases h1
   ·left; exact Ne.symm he
  ·exact zxk h.2 x hx
theorem zen {n0:Nat->Prop} {N:Nat} {σ:St} {g:Gh} {a:Act} {w:World} (hR:Rel n0 N σ g a w) {B:Sr->List Nat} (hB:Fam w σ g B):∀ {s:List Sr},(∀ x ∈ s,σ.On x.1)->s.Pairwise okP->(bks B s).Nodup
 | [],_,_=>Km
 | x :: s,ho,hp=>by
  obtain ⟨p1,p2⟩:=Jt.1 hp
  unfold bks
  rw [K9]
  refine Q8.2 ⟨hB.nodup x.1 x.2 (ho x (by simp)),zen hR hB (fun y hy=>ho y (by simp [hy])) p2,fun b hb b' hb' hbb=>?_⟩
  subst hbb
  obtain ⟨y,hy,hb'⟩:=Jk.1 hb'
  obtain ⟨e,p⟩:=x
  obtain ⟨e',p'⟩:=y
  have o1:=ho (e,p) (by simp)
  have o2:=ho (e',p') (by simp [hy])
  rcases p1 (e',p') hy with h | ⟨h1,h2,h3⟩
  ·exact hR.apart e e' o1 o2 h b (hB.sub e p b o1 hb) (hB.sub e' p' b o2 hb')
  ·by_cases hee:e = e'
   ·subst hee
    cases p with
    | none=>exact h1 rfl
    | some p =>
     cases p' with
     | none=>exact h2 rfl
     | some p'=>exact hB.apart e p p' o1 (fun h=>h3 (by rw [h])) b hb hb'
   ·exact hR.apart e e' o1 o2 hee b (hB.sub e p b o1 hb) (hB.sub e' p' b o2 hb')
theorem qmh {σ:St} {e i j:Nat} {v:Value} {t:T} (h:onN (σ.ev e) i j v t):σ.On e:=by
 obtain ⟨x,hx,h2,_⟩:=zaq h
 exact ⟨x,hx,h2⟩
section
variable {n0:Nat->Prop} {N:Nat} {σ:St} {g:Gh} {a:Act} {w:World} (hR:Rel n0 N σ g a w) {B:Sr->List Nat} (hB:Fam w σ g B)
include hR hB
theorem zdg {K:List Sr->List (Nat × Nat × Nat)->Prop}:∀ {cs:List C} {ts:List T} {u:List Sr} {ps:List (Nat × Nat × Nat)} {vs:List Value},gvK σ K u ps cs ts->CRs σ g w cs vs →
  ∃ s ps' tp,K (s.reverse ++ u) ps' /\ zwr w ts vs (bks B s) tp /\ (∀ x ∈ s,σ.On x.1) /\ (u.Pairwise okP->(s.reverse ++ u).Pairwise okP)
 | [],[],u,ps,vs,h,hv=>⟨[],ps,[],h,⟨hv,rfl,rfl⟩,by simp,fun h=>h⟩
 | [],_ :: _,_,_,_,h,_=>by cases h
 | c :: cs,[],u,ps,vs,h,hv=>by cases c <;> first | exact (show False from h).elim | (cases ps <;> exact (show False from h).elim)
 | c :: cs,t :: ts,u,ps,vs,h,hv=>by
  obtain ⟨v,vs',rfl,h1,h2⟩:=hv
  unfold gvK at h
  split at h
  ·rename_i e1 e2; cases e1
  ·rename_i x cs' t' ts' e1 e2
   cases e1; cases e2
   unfold gvT at h
   split at h
   ·rename_i v0 y e i j ps0
    obtain ⟨rfl,hok,he,h⟩:=h
    obtain ⟨s,ps',tp,k1,k2,k3,k4⟩:=zdg h h2
    unfold CR zar at h1
    obtain ⟨rfl,_⟩:=h1
    have ho:=hB.cell e i j v y he
    refine ⟨(e,some (i,j)) :: s,ps',zkj y (B (e,some (i,j))) ++ tp,by simpa using k1,⟨v,vs',_,bks B s,tp,rfl,by unfold bks; rw [K9],rfl,ho,k2⟩,fun x hx=>?_,fun hu=>?_⟩
    ·rcases Qu.1 hx with rfl | hx
     ·exact qmh he
     ·exact k3 x hx
    ·have:=k4 (Jt.2 ⟨zxk hok,hu⟩)
     simpa using this
   obtain ⟨rfl,hf,h⟩:=h
   obtain ⟨s,ps',tp,k1,k2,k3,k4⟩:=zdg h h2
   have ho:zaz w x v []:=by
    cases x <;> simp only [T.flat,Qo] at hf <;> simp only [CR,zar] at h1 <;> unfold zaz
    ·exact ⟨h1.1,h1.2.1,h1.2.2,rfl⟩
    ·exact ⟨h1,rfl⟩
    ·exact ⟨h1.1,h1.2,rfl⟩
    ·exact ⟨h1,rfl⟩
   exact ⟨s,ps',zkj x [] ++ tp,k1,⟨v,vs',[],_,tp,rfl,rfl,rfl,ho,k2⟩,k3,k4⟩
  ·rename_i z cs' sz rows ts' e1 e2
   cases e1; cases e2
   obtain ⟨rfl,h⟩:=h
   obtain ⟨s,ps',tp,k1,k2,k3,k4⟩:=zdg h h2
   have ho:zaz w (.sl sz []) v []:=by
    unfold zaz
    exact ⟨none,0,h1,by simp,by simp,Or.inl ⟨rfl,rfl,rfl,rfl⟩⟩
   exact ⟨s,ps',zkj (.sl sz []) [] ++ tp,k1,⟨v,vs',[],_,tp,rfl,rfl,rfl,ho,k2⟩,k3,k4⟩
  ·rename_i e gn cs' sz rows ts' e1 e2
   cases e1; cases e2
   obtain ⟨hok,he,h⟩:=h
   obtain ⟨s,ps',tp,k1,k2,k3,k4⟩:=zdg h h2
   have hou:=he
   obtain ⟨⟨dp,sz0,rows0,gn0,on0⟩,hev,rfl,rfl,hrows,rfl,rfl⟩:=zaq hou
   have ho:zaz w (.sl sz0 rows) (g.ψ e gn0) (g.φ e):=by
    rcases hrows with rfl | rfl
    ·exact zel hR hev
    ·exact (zel hR hev).unpins
   have h1:v = g.ψ e gn0 /\ _:=h1
   rw [<-h1.1] at ho
   refine ⟨(e,none) :: s,ps',zkj (.sl _ _) (g.φ e) ++ tp,by simpa using k1,⟨v,vs',g.φ e,bks B s,tp,rfl,by unfold bks; rw [K9,hB.whole],rfl,ho,k2⟩,fun x hx=>?_,fun hu=>?_⟩
   ·rcases Qu.1 hx with rfl | hx
    ·exact ⟨_,hev,rfl⟩
    ·exact k3 x hx
   ·have:=k4 (Jt.2 ⟨zxk hok,hu⟩)
    simpa using this
  ·rename_i e i j ps0 v0 cs' t' ts' e1 e2
   cases e1; cases e2
   obtain ⟨hok,he,h⟩:=h
   obtain ⟨s,ps',tp,k1,k2,k3,k4⟩:=zdg h h2
   have h1:v = v0:=h1
   subst h1
   have ho:=hB.cell e i j v t he
   refine ⟨(e,some (i,j)) :: s,ps',zkj t (B (e,some (i,j))) ++ tp,by simpa using k1,⟨v,vs',_,bks B s,tp,rfl,by unfold bks; rw [K9],rfl,ho,k2⟩,fun x hx=>?_,fun hu=>?_⟩
   ·rcases Qu.1 hx with rfl | hx
    ·exact qmh he
    ·exact k3 x hx
   ·have:=k4 (Jt.2 ⟨zxk hok,hu⟩)
    simpa using this
  ·exact h.elim
omit hB in
theorem qcq {FP:List Nat} (hFP:∀ b ∈ FP,∃ e,σ.On e /\ b ∈ g.φ e) {c:C} {t:T} {v:Value} (h:rdC c t) (hv:CR σ g w c v):zar w (fun b=>b < w.heap.size /\ b ∉ FP) t v:=by
 unfold rdC at h
 split at h
 ·rename_i x
  obtain ⟨rfl,hn⟩:=h
  exact zlo (σ:=σ) (g:=g) (x:=.one (.t x)) (d:=.one x) ⟨rfl,hn⟩ hv _
 ·rename_i f f'
  subst h
  exact zlo (σ:=σ) (g:=g) (x:=.one (.fn f [])) (d:=.one (.fn f [])) rfl hv _
 ·subst h
  refine zar.keep (fun _ _=>rfl) (fun b hb=>⟨hb.1.2.2.1,fun hm=>?_⟩) _ v hv
  obtain ⟨e,ho,hm⟩:=hFP b hm
  exact hb.2 e ho hm
 ·obtain ⟨rfl,rfl⟩:=h
  obtain ⟨b,q,h1,h2,h3⟩:=hv
  have hk:∀ b,zcj σ g w b->b < w.heap.size /\ b ∉ FP:=fun b hb=>⟨hb.1.2.2.1,fun hm=>by obtain ⟨e,ho,hm⟩:=hFP b hm; exact hb.2 e ho hm⟩
  unfold zar
  exact ⟨b,q,h1,hk b h2,zbk.keep (fun _ _=>rfl) hk b rfl q _ h3⟩
 ·subst h
  rw [show v = .slice none 0 0 from hv]
  unfold zar
  exact ⟨none,0,rfl,by simp,by simp,Or.inl rfl⟩
 ·exact h.elim
omit hB in
theorem zx0 {FP:List Nat} (hFP:∀ b ∈ FP,∃ e,σ.On e /\ b ∈ g.φ e):∀ {cs:List C} {ts:List T} {vs:List Value},rdCs cs ts->CRs σ g w cs vs->zaf w (fun b=>b < w.heap.size /\ b ∉ FP) ts vs
 | [],[],vs,_,hv=>by unfold zaf; exact hv
 | [],_ :: _,_,h,_=>h.elim
 | _ :: _,[],_,h,_=>h.elim
 | c :: cs,t :: ts,vs,h,hv=>by
  obtain ⟨v,vs',rfl,h1,h2⟩:=hv
  unfold zaf
  exact ⟨v,vs',rfl,qcq hR hFP h.1 h1,zx0 hFP h.2 h2⟩
theorem zgi {K:List Sr->Prop}:∀ {xs:List V} {ds:List (Bool × D)} {u:List Sr} {ps:List (Nat × Nat × Nat)} {vs:List Value},gvA σ K u ps xs ds->VRl σ g w xs vs →
  ∃ s,K (s.reverse ++ u) /\ (∀ FP:List Nat,(∀ b ∈ FP,∃ e,σ.On e /\ b ∈ g.φ e)->∃ tp,zau w (fun b=>b < w.heap.size /\ b ∉ FP) ds vs (bks B s) tp) /\ (∀ x ∈ s,σ.On x.1) /\ (u.Pairwise okP->(s.reverse ++ u).Pairwise okP)
 | [],[],u,ps,vs,h,hv=>⟨[],h,fun _ _=>⟨[],hv,rfl,rfl⟩,by simp,fun h=>h⟩
 | [],_ :: _,_,_,_,h,_=>h.elim
 | x :: xs,[],_,_,_,h,_=>by cases x <;> exact h.elim
 | x :: xs,(false,d) :: ds,u,ps,vs,h,hv=>by
  obtain ⟨v,vs',rfl,h1,h2⟩:=hv
  unfold gvA at h
  obtain ⟨hr,h⟩:=h
  obtain ⟨s,k1,k2,k3,k4⟩:=zgi h h2
  refine ⟨s,k1,fun FP hFP=>?_,k3,k4⟩
  obtain ⟨tp,k2⟩:=k2 FP hFP
  refine ⟨tp,v,vs',rfl,?_,k2⟩
  unfold rdV at hr
  split at hr
  ·exact qcq hR hFP hr h1
  ·obtain ⟨b,e,h1⟩:=h1; exact ⟨b,e,zx0 hR hFP hr h1⟩
  ·exact hr.elim
 | .one c :: xs,(true,.one t) :: ds,u,ps,vs,h,hv=>by
  obtain ⟨v,vs',rfl,h1,h2⟩:=hv
  unfold gvA at h
  obtain ⟨s,ps',tp,k1,k2,k3,k4⟩:=zdg hR hB h (vs:=[v]) ⟨v,[],rfl,h1,rfl⟩
  obtain ⟨s',j1,j2,j3,j4⟩:=zgi k1 h2
  obtain ⟨v0,vs0,f1,f2,t2,e0,e1,rfl,q1,q2⟩:=k2
  cases e0
  obtain ⟨_,rfl,rfl⟩:=q2
  rw [Kd] at e1
  refine ⟨s ++ s',by simpa using j1,fun FP hFP=>?_,fun x hx=>?_,fun hu=>by simpa using j4 (k4 hu)⟩
  ·obtain ⟨tp',j2⟩:=j2 FP hFP
   exact ⟨zkj t f1 ++ tp',v,vs',bks B s,bks B s',_,tp',rfl,by unfold bks; rw [List.flatMap_append],rfl,⟨by rw [e1]; exact q1,by rw [e1]⟩,j2⟩
  ·rcases Qt.1 hx with hx | hx
   ·exact k3 x hx
   ·exact j3 x hx
 | .agg cs :: xs,(true,.agg ts) :: ds,u,ps,vs,h,hv=>by
  obtain ⟨v,vs',rfl,⟨y,rfl,h1⟩,h2⟩:=hv
  unfold gvA at h
  obtain ⟨s,ps',tp,k1,k2,k3,k4⟩:=zdg hR hB h h1
  obtain ⟨s',j1,j2,j3,j4⟩:=zgi k1 h2
  refine ⟨s ++ s',by simpa using j1,fun FP hFP=>?_,fun x hx=>?_,fun hu=>by simpa using j4 (k4 hu)⟩
  ·obtain ⟨tp',j2⟩:=j2 FP hFP
   exact ⟨tp ++ tp',_,vs',bks B s,bks B s',tp,tp',rfl,by unfold bks; rw [List.flatMap_append],rfl,⟨y,rfl,k2⟩,j2⟩
  ·rcases Qt.1 hx with hx | hx
   ·exact k3 x hx
   ·exact j3 x hx
 | .one _ :: _,(true,.agg _) :: _,_,_,_,h,_=>h.elim
 | .agg _ :: _,(true,.one _) :: _,_,_,_,h,_=>h.elim
 | .tup _ :: _,(true,d) :: _,_,_,_,h,_=>by cases d <;> exact h.elim
end
end
section
set_option maxRecDepth 4000
open Go.RowKit
variable {P:Program}
def C.okU (τ:St):C->Prop
 | .t x=>x.flat = true
 | .nl _=>True
 | .ow e g=>zat (τ.ev e) fun x=>g <= x.gen
 | .bx b _=>τ.bx b ≠ none
 | .el _ _=>False
 | .er _ _=>True
 | .eo e s _ _ _=>zat (τ.ev e) fun x=>s <= x.gen
 | .fn _ caps=>qbb τ caps
 | .cv _=>True
 | .any=>True
 | .rn _=>True
def qja (τ:St):List C->Prop
 | []=>True
 | c :: cs=>c.okU τ /\ qja τ cs
def okUt (τ:St):List (Bool × List C)->Prop
 | []=>True
 | x :: xs=>qja τ x.2 /\ okUt τ xs
def V.okU (τ:St):V->Prop
 | .one c=>c.okU τ
 | .agg cs=>qja τ cs
 | .tup xs=>okUt τ xs
structure Kept (σ τ:St):Prop where
 sl:∀ i,τ.sl i = .one .any \/ (τ.sl i = σ.sl i /\ (τ.sl i).okU τ)
 bx:∀ b cs,τ.bx b = some cs->σ.bx b = some cs /\ qja τ cs
 ev:∀ e x,τ.ev e = some x->σ.ev e = some x /\ x.on = true /\ x.deep = true
section
variable {σ τ:St} {g g':Gh} {w w':World} {ev':Nat->Option Ev} (hβ:g'.β = g.β) (hψ:∀ e,τ.ev e ≠ none->ev' e = τ.ev e /\ g'.ψ e = g.ψ e) (hrn:∀ b,zcj σ g w b->w'.heap[b]? = w.heap[b]? /\ zcj ⟨τ.sl,τ.bx,ev'⟩ g' w' b)
include hβ hψ hrn
theorem qfb {c:C} {v:Value} (hc:c.okU τ) (h:CR σ g w c v):CR ⟨τ.sl,τ.bx,ev'⟩ g' w' c v:=by
 have hh:∀ {e n:Nat},zat (τ.ev e) (fun x=>n <= x.gen)->g'.ψ e = g.ψ e /\ St.has ⟨τ.sl,τ.bx,ev'⟩ e n:=fun {e n} ho=>by
  obtain ⟨x,hx,hn⟩:=zaq ho
  obtain ⟨k1,k2⟩:=hψ e (by rw [hx]; simp)
  exact ⟨k2,x,k1.trans hx,hn⟩
 cases c with
 | t x=>exact zdv hc h
 | nl s=>exact h
 | ow e n=>obtain ⟨k1,k2⟩:=hh hc; exact ⟨by rw [k1]; exact h.1,k2⟩
 | bx b o=>exact ⟨by rw [hβ]; exact h.1,hc⟩
 | el cs o=>exact hc.elim
 | eo e s sz i o=>obtain ⟨k1,k2⟩:=hh hc; obtain ⟨b,n,c,q1,q2,q3,q4⟩:=h; exact ⟨b,n,c,by rw [k1]; exact q1,q2,q3,k2⟩
 | fn f caps=>exact ⟨by rw [hβ]; exact h.1,fun b hb=>zlv (show qbb τ caps from hc) b hb⟩
 | cv u=>exact h
 | any=>trivial
 | rn x=>exact zar.keep (fun b hb=>(hrn b hb).1) (fun b hb=>(hrn b hb).2) x v h
 | er cs o=>obtain ⟨b,q,h1,h2,h3⟩:=h; exact ⟨b,q,h1,(hrn b h2).2,zbk.keep (fun b hb=>(hrn b hb).1) (fun b hb=>(hrn b hb).2) b (hrn b h2).1 q cs h3⟩
theorem zlq:∀ {cs:List C} {vs:List Value},qja τ cs->CRs σ g w cs vs->CRs ⟨τ.sl,τ.bx,ev'⟩ g' w' cs vs
 | [],_,_,h=>h
 | c :: cs,vs,hc,h=>by
  obtain ⟨v,vs',rfl,h1,h2⟩:=h
  exact ⟨v,vs',rfl,qfb hβ hψ hrn hc.1 h1,zlq hc.2 h2⟩
theorem qct:∀ {xs:List (Bool × List C)} {vs:List Value},okUt τ xs->CRt σ g w xs vs->CRt ⟨τ.sl,τ.bx,ev'⟩ g' w' xs vs
 | [],_,_,h=>h
 | x :: xs,vs,hc,h=>by
  obtain ⟨v,vs',rfl,h1,h2⟩:=h
  refine ⟨v,vs',rfl,?_,qct hc.2 h2⟩
  unfold CRx at h1 ⊢
  split at h1
  ·rw [if_pos ‹_›]; obtain ⟨a,k1,k2⟩:=h1; exact ⟨a,k1,zlq hβ hψ hrn hc.1 k2⟩
  ·rw [if_neg ‹_›]
   obtain ⟨c,k1,k2⟩:=h1
   refine ⟨c,k1,qfb hβ hψ hrn ?_ k2⟩
   have:=hc.1
   rw [k1] at this
   exact this.1
theorem qmy {x:V} {v:Value} (hc:x.okU τ) (h:VR σ g w x v):VR ⟨τ.sl,τ.bx,ev'⟩ g' w' x v:=by
 cases x with
 | one c=>exact qfb hβ hψ hrn hc h
 | agg cs=>obtain ⟨a,k1,k2⟩:=h; exact ⟨a,k1,zlq hβ hψ hrn hc k2⟩
 | tup xs=>obtain ⟨a,k1,k2⟩:=h; exact ⟨a,k1,qct hβ hψ hrn hc k2⟩
end
theorem Rel.given {n0:Nat->Prop} {N:Nat} {σ τ:St} {g g':Gh} {a:Act} {w w':World} (hR:Rel n0 N σ g a w) (hn0:LtK n0 w) (hK:Kept σ τ) {fp:List Nat} (hfp:∀ b ∈ fp,∃ e,σ.On e /\ τ.ev e = none /\ b ∈ g.φ e) (hbk:Bk (fun k=>k < w.heap.size /\ k ∉ fp) w w')
  {ev':Nat->Option Ev} {F:List Nat} (hn:New τ g (fun b=>b ∈ fp \/ w.heap.size <= b) w' ev' g' F):Rel n0 N ⟨τ.sl,τ.bx,ev'⟩ g' a w':=by
 have hOnσ:∀ e,τ.On e->σ.On e:=fun e ⟨x,hx,ho⟩=>⟨x,(hK.ev e x hx).1,ho⟩
 have hlt:∀ e,σ.On e->∀ b ∈ g.φ e,b < w.heap.size:=fun e ⟨x,hx,ho⟩=>(hR.evs e x hx ho).lt
 have hbne:∀ b,τ.bx b ≠ none->σ.bx b ≠ none:=fun b hb=>by
  obtain ⟨cs,hcs⟩:=Kr.1 hb
  rw [(hK.bx b cs hcs).1]; simp
 have hfR:∀ b ∈ fp,g.A0 b /\ g.R0 b /\ ¬ n0 b:=fun b hb=>by
  obtain ⟨e,ho,_,hm⟩:=hfp b hb
  obtain ⟨k1,k2⟩:=hR.ebase e ho b hm
  exact ⟨k1,k2,hR.etop e ho b hm⟩
 have hNB:∀ b,(b ∈ fp \/ w.heap.size <= b)->g.A0 b /\ g.R0 b /\ ¬ n0 b:=fun b hb=>by
  rcases hb with hb | hb
  ·exact hfR b hb
  ·have hnn:=hn0.new hb
   exact ⟨(hR.anew b hnn).1,(hR.anew b hnn).2,hnn⟩
 have hβfp:∀ b,τ.bx b ≠ none->¬ (g.β b ∈ fp \/ w.heap.size <= g.β b):=fun b hb h=>by
  rcases h with h | h
  ·obtain ⟨e,ho,_,hm⟩:=hfp _ h
   exact hR.ebx e b ho (hbne b hb) hm
  ·have:=hR.lt (hbne b hb); omega
 have hφfp:∀ e,τ.On e->∀ b ∈ g.φ e,¬ (b ∈ fp \/ w.heap.size <= b):=fun e ho b hb h=>by
  rcases h with h | h
  ·obtain ⟨e',ho',hno,hm⟩:=hfp b h
   refine hR.apart e e' (hOnσ e ho) ho' (fun hee=>?_) b hb hm
   subst hee
   obtain ⟨x,hx,_⟩:=ho
   rw [hx] at hno; cases hno
  ·have:=hlt e (hOnσ e ho) b hb; omega
 have hon:∀ e,St.On ⟨τ.sl,τ.bx,ev'⟩ e->τ.ev e ≠ none->τ.On e:=fun e ⟨x,hx,ho⟩ hee=>⟨x,(hn.old e hee).1.symm.trans hx,ho⟩
 have hkeep:∀ b,b < w.heap.size->b ∉ fp->w'.heap[b]? = w.heap[b]?:=fun b h1 h2=>hbk.block b ⟨h1,h2⟩
 have hrn:∀ b,zcj σ g w b->w'.heap[b]? = w.heap[b]? /\ zcj ⟨τ.sl,τ.bx,ev'⟩ g' w' b:=fun b hb=>by
  obtain ⟨hf,hr⟩:=hb
  have hnb:∀ e,St.On ⟨τ.sl,τ.bx,ev'⟩ e->b ∉ g'.φ e:=fun e ho hm=>by
   by_cases hee:τ.ev e = none
   ·obtain ⟨x,hx,_⟩:=ho
    rcases ((hn.new e x hee hx).2.2.1 b hm).1 with h | h
    ·obtain ⟨e',ho',_,hm'⟩:=hfp b h
     exact hr e' ho' hm'
    ·have:=hf.2.2.1; omega
   ·rw [(hn.old e hee).2.2] at hm
    exact hr e (hOnσ e (hon e ho hee)) hm
  refine ⟨hkeep b hf.2.2.1 (fun hm=>by obtain ⟨e',ho',_,hm'⟩:=hfp b hm; exact hr e' ho' hm'),⟨fun k hk=>by rw [hn.β]; exact hf.1 k (hbne k hk),fun e x hx hon' hh=>hnb e ⟨x,hx,hon'⟩ (List.mem_of_mem_head? hh),Jb hf.2.2.1 hbk.size,by rw [hn.A0]; exact hf.2.2.2⟩,hnb⟩
 have hψ:∀ e,τ.ev e ≠ none->ev' e = τ.ev e /\ g'.ψ e = g.ψ e:=fun e he=>⟨(hn.old e he).1,(hn.old e he).2.1⟩
 refine ⟨by rw [hR.defers],hR.size,by rw [hn.A0,hn.R0]; exact hR.anew,fun i=>?_,fun b cs hb=>?_,fun b hb=>by rw [hn.β]; exact hR.base b (hbne b hb),fun b b' h1 h2 h3=>by rw [hn.β] at h3; exact hR.inj b b' (hbne b h1) (hbne b' h2) h3,fun e x he ho=>?_,fun e x he ho=>?_,hn.slc,fun e he b hb=>?_,fun e he b hb=>?_,fun e he=>?_,fun e e' h1 h2 hne b hb1 hb2=>?_,fun e k he hk hm=>?_⟩
 ·rcases hK.sl i with h | ⟨h,hok⟩
  ·rw [show (⟨τ.sl,τ.bx,ev'⟩:St).sl i = .one .any from h]; trivial
  ·rw [hn.R0]
   show VR _ g' w' (τ.sl i) _
   have hs:=hR.slots i
   rw [<-h] at hs
   exact qmy hn.β hψ hrn hok hs
 ·obtain ⟨hb1,hb2⟩:=hK.bx b cs hb
  obtain ⟨vs,ty,k1,k2⟩:=hR.boxes b cs hb1
  have hne:τ.bx b ≠ none:=by rw [show τ.bx b = some cs from hb]; simp
  have hnf:=hβfp b hne
  exact ⟨vs,ty,by rw [hn.β,hkeep _ (hR.lt (hbne b hne)) (fun h=>hnf (Or.inl h))]; exact k1,zlq hn.β hψ hrn hb2 k2⟩
 ·by_cases hee:τ.ev e = none
  ·obtain ⟨⟨k1,_,k0⟩,k2,k3,k4⟩:=hn.new e x hee he
   rw [k0]
   unfold zaz at k2
   obtain ⟨ao,cap,j1,j2,j3,j4⟩:=k2
   refine ⟨ao,cap,j1,j2,j3,?_⟩
   rcases j4 with j4 | ⟨b,cells,ty,fps,j4,j5,j6,j7,j8⟩
   ·exact Or.inl j4
   ·exact Or.inr ⟨b,cells,ty,fps,j4,j5,j6,j7,by rw [if_pos k1]; exact j8⟩
  ·obtain ⟨o1,o2,o3⟩:=hn.old e hee
   have hx:τ.ev e = some x:=o1.symm.trans he
   obtain ⟨k1,k2,k3⟩:=hK.ev e x hx
   have hE:=hR.evs e x k1 k2
   have hno:=hφfp e ⟨x,hx,k2⟩
   have hl:=hlt e ⟨x,k1,k2⟩
   have hkp:∀ b ∈ g.φ e,w'.heap[b]? = w.heap[b]?:=fun b hb=>hkeep b (hl b hb) fun h=>hno b hb (Or.inl h)
   rw [o2,o3]
   obtain ⟨ao,cap,r1,r2,r3,r4⟩:=hE
   refine ⟨ao,cap,r1,r2,r3,?_⟩
   rcases r4 with r4 | ⟨b,cells,ty,fps,r4,r5,r6,r7,r8⟩
   ·exact Or.inl r4
   ·rw [if_pos k3] at r8
    exact Or.inr ⟨b,cells,ty,fps,r4,r5,by rw [hkp b (by rw [r5]; simp)]; exact r6,r7,by rw [if_pos k3]; exact zak.keep cells 0 x.sz x.rows fps r8 fun b' hb'=>hkp b' (by rw [r5]; simp [hb'])⟩
 ·by_cases hee:τ.ev e = none
  ·rw [(hn.new e x hee he).1.2.1] at ho; cases ho
  ·have hx:τ.ev e = some x:=(hn.old e hee).1.symm.trans he
   rw [(hK.ev e x hx).2.1] at ho; cases ho
 ·rw [hn.A0,hn.R0]
  by_cases hee:τ.ev e = none
  ·obtain ⟨x,hx,_⟩:=he
   have:=hNB b ((hn.new e x hee hx).2.2.1 b hb).1
   exact ⟨this.1,this.2.1⟩
  ·rw [(hn.old e hee).2.2] at hb
   exact hR.ebase e (hOnσ e (hon e he hee)) b hb
 ·by_cases hee:τ.ev e = none
  ·obtain ⟨x,hx,_⟩:=he
   exact (hNB b ((hn.new e x hee hx).2.2.1 b hb).1).2.2
  ·rw [(hn.old e hee).2.2] at hb
   exact hR.etop e (hOnσ e (hon e he hee)) b hb
 ·by_cases hee:τ.ev e = none
  ·obtain ⟨x,hx,_⟩:=he
   exact (hn.new e x hee hx).2.2.2
  ·rw [(hn.old e hee).2.2]
   exact hR.nodup e (hOnσ e (hon e he hee))
 ·by_cases hee:τ.ev e = none
  ·obtain ⟨x,hx,_⟩:=h1
   by_cases hee':τ.ev e' = none
   ·obtain ⟨x',hx',_⟩:=h2
    exact hn.apart e e' hee hee' (by rw [show ev' e = some x from hx]; simp) (by rw [show ev' e' = some x' from hx']; simp) hne b hb1 hb2
   ·rw [(hn.old e' hee').2.2] at hb2
    exact hφfp e' (hon e' h2 hee') b hb2 ((hn.new e x hee hx).2.2.1 b hb1).1
  ·rw [(hn.old e hee).2.2] at hb1
   by_cases hee':τ.ev e' = none
   ·obtain ⟨x',hx',_⟩:=h2
    exact hφfp e (hon e h1 hee) b hb1 ((hn.new e' x' hee' hx').2.2.1 b hb2).1
   ·rw [(hn.old e' hee').2.2] at hb2
    exact hR.apart e e' (hOnσ e (hon e h1 hee)) (hOnσ e' (hon e' h2 hee')) hne b hb1 hb2
 ·rw [hn.β] at hm
  by_cases hee:τ.ev e = none
  ·obtain ⟨x,hx,_⟩:=he
   exact hβfp k hk ((hn.new e x hee hx).2.2.1 _ hm).1
  ·rw [(hn.old e hee).2.2] at hm
   exact hR.ebx e k (hOnσ e (hon e he hee)) (hbne k hk) hm
theorem qbr {o:Oper} {σ τ:St} {x:Operand} {asx:Array Operand} {ts:Array TypeId} {f:FuncId} {cvs:List V} {d:Nat} {ds:List (Bool × D)} {res:List D} {ps:List (Nat × Nat × Nat)} (ho:o.op = .call ⟨.value x,asx,ts⟩) (hd:o.dst = some d)
  (h:GC P f ds res) (hc:zaw (σ.get P 0 x) = some (f,cvs)) (hK:Kept σ τ) (hv:gvA σ (fun u=>∀ s ∈ u,τ.ev s.1 = none) [] ps (σ.gets P asx ts ++ cvs) ds) (hf:zj7 d 0 (zbd res) τ.ev):zah P o σ (τ.callF d res):=by
 intro n0 N g a w hR hn hdN
 obtain ⟨vs,h1,h2⟩:=zdf hR ho hc h.1
 unfold Oper.wp
 rw [h1]
 obtain ⟨B,hB⟩:=hR.fam
 obtain ⟨s,k1,k2,k3,k4⟩:=zgi hR hB hv h2
 rw [Kd] at k1 k4
 have hsp:s.Pairwise okP:=by
  have:=(Jr.1 (k4 List.Pairwise.nil))
  exact this.imp fun h=>h.symm
 have hnd:=zen hR hB k3 hsp
 have hfp:∀ b ∈ bks B s,∃ e,σ.On e /\ τ.ev e = none /\ b ∈ g.φ e:=fun b hb=>by
  obtain ⟨x,hx,hm⟩:=Jk.1 hb
  exact ⟨x.1,k3 x hx,k1 x (List.mem_reverse.2 hx),hB.sub x.1 x.2 b (k3 x hx) hm⟩
 obtain ⟨tp,k2⟩:=k2 (bks B s) fun b hb=>by obtain ⟨e,h1,_,h3⟩:=hfp b hb; exact ⟨e,h1,h3⟩
 refine (h.2 w vs (bks B s) tp k2 hnd).mono ?_
 rintro e w' ⟨us,fp',tp',rfl,o1,o2,o3,hbk⟩
 have o1':=ze7.of_g o1
 obtain ⟨g',q1,q2,q3⟩:=New.cells (σ:=τ) (g:=g) (NB:=fun b=>b ∈ bks B s \/ w.heap.size <= b) (w':=w') d (zbd res) _ fp' 0 τ.ev g [] (New.refl _ _ _ _ hR.slc) (fun e h1 h2=>absurd h1 h2) hf o1'.cells o2 (fun b hb'=>⟨o3 b hb',by simp⟩)
 have hR':=hR.given hn hK hfp hbk q1
 have hBk:Bk n0 w w':=⟨hbk.os,hbk.tape,hbk.output,hbk.size,fun k hk=>hbk.block k ⟨hn k hk,fun hm=>by
  obtain ⟨e,h1,_,h3⟩:=hfp k hm
  exact hR.etop e h1 k h3 hk⟩⟩
 refine ⟨g',?_,hBk,q1.A0,q1.R0⟩
 have hp:=hR'.put (some d) (x:=zm4 (qbi d 0 res)) (v:=zb5 us) (ze6 (zo8 d 0 o1' (q3 _ _ rfl)) (zk3 d res 0)) (fun i hi=>by cases hi; exact hdN d hd)
 rw [hd]
 exact hp
def zz6 {α:Type}:List (Nat × α)->Nat->Prop
 | [],_=>True
 | p :: l,i=>(i = p.1) = False /\ zz6 l i
def zd6 {α β:Type} (l:List (Nat × β)):List (Nat × α)->Prop
 | []=>True
 | p :: la=>zz6 l p.1 /\ zd6 l la
def okL (τ:St):List (Nat × V)->Prop
 | []=>True
 | p :: l=>p.2.okU τ /\ okL τ l
def okB (τ:St):List (Nat × List C)->Prop
 | []=>True
 | p :: l=>qja τ p.2 /\ okB τ l
def okE:List (Nat × Ev)->Prop
 | []=>True
 | p :: l=>p.2.on = true /\ p.2.deep = true /\ okE l
def zre (el:List (Nat × Ev)):List Sr->Prop
 | []=>True
 | s :: u=>zz6 el s.1 /\ zre el u
theorem zmj {α:Type}:∀ {l:List (Nat × α)} {i:Nat},zz6 l i->tbl l i = none
 | [],_,_=>rfl
 | (j,v) :: l,i,h=>by unfold tbl; rw [if_neg (fun e=>of_eq_false h.1 e),zmj h.2]
theorem zil {el:List (Nat × Ev)}:∀ {u:List Sr},zre el u->∀ s ∈ u,tbl el s.1 = none
 | [],_,s,hs=>by simp at hs
 | x :: u,h,s,hs=>by
  rcases Qu.1 hs with rfl | hs
  ·exact zmj h.1
  ·exact zil h.2 s hs
theorem zos:∀ {l:List (Nat × V)} {i:Nat},zz6 l i->zhr l i = .one .any
 | [],_,_=>rfl
 | (j,v) :: l,i,h=>by unfold zhr; rw [if_neg (fun e=>of_eq_false h.1 e),zos h.2]
theorem zqd {l:List (Nat × V)}:∀ {la:List (Nat × V)},zd6 l la->∀ i,zhr l i = .one .any \/ zhr l i = zhr (la ++ l) i
 | [],_,i=>Or.inr rfl
 | (j,v) :: la,h,i=>by
  by_cases hij:i = j
  ·subst hij; exact Or.inl (zos h.1)
  ·rw [Kw]
   show _ \/ zhr l i = if i = j then v else zhr (la ++ l) i
   rw [if_neg hij]
   exact zqd h.2 i
theorem zmy {α:Type} {l:List (Nat × α)}:∀ {la:List (Nat × α)},zd6 l la->∀ i x,tbl l i = some x->tbl (la ++ l) i = some x
 | [],_,i,x,hx=>hx
 | (j,v) :: la,h,i,x,hx=>by
  by_cases hij:i = j
  ·subst hij; rw [zmj h.1] at hx; cases hx
  ·rw [Kw]
   show (if i = j then some v else tbl (la ++ l) i) = some x
   rw [if_neg hij]
   exact zmy h.2 i x hx
theorem zou {τ:St}:∀ {l:List (Nat × V)},okL τ l->∀ i,(zhr l i).okU τ
 | [],_,_=>trivial
 | (j,v) :: l,h,i=>by
  unfold zhr
  split
  ·exact h.1
  ·exact zou h.2 i
theorem zo7 {τ:St}:∀ {l:List (Nat × List C)},okB τ l->∀ b cs,tbl l b = some cs->qja τ cs
 | [],_,_,_,h=>by cases h
 | (j,v) :: l,h,b,cs,hb=>by
  unfold tbl at hb
  split at hb
  ·cases hb; exact h.1
  ·exact zo7 h.2 b cs hb
theorem zqy:∀ {l:List (Nat × Ev)},okE l->∀ e x,tbl l e = some x->x.on = true /\ x.deep = true
 | [],_,_,_,h=>by cases h
 | (j,v) :: l,h,e,x,hb=>by
  unfold tbl at hb
  split at hb
  ·cases hb; exact ⟨h.1,h.2.1⟩
  ·exact zqy h.2.2 e x hb
section
variable {ks:List Fr} {Q:Exit->St->Prop} {σ:St} {ops:Array Oper} {os:List Oper} {ty:TypeId} {ps:String} {af:Array Edge} {d:Nat} {x:Operand} {asx:Array Operand} {ts:Array TypeId} {f:FuncId} {ds:List (Bool × D)} {res:List D}
theorem callG (la l:List (Nat × V)) (ba bl:List (Nat × List C)) (ea el:List (Nat × Ev)) (pl:List (Nat × Nat × Nat)) (h:GC P f ds res)
  (hw:wkL σ (hd (la ++ l) (ba ++ bl) (ea ++ el)) (la ++ l) /\ wkB σ (hd (la ++ l) (ba ++ bl) (ea ++ el)) (ba ++ bl) /\ wkE σ (ea ++ el))
  (hk:zd6 l la /\ zd6 bl ba /\ zd6 el ea /\ okL (hd l bl el) l /\ okB (hd l bl el) bl /\ okE el)
  (hp:zat (zaw ((hd (la ++ l) (ba ++ bl) (ea ++ el)).get P 0 x)) fun p=>p.1 = f /\ gvA (hd (la ++ l) (ba ++ bl) (ea ++ el)) (zre el) [] pl ((hd (la ++ l) (ba ++ bl) (ea ++ el)).gets P asx ts ++ p.2) ds) (hf:zj7 d 0 (zbd res) (hd l bl el).ev)
  (k:exo P ops os ks Q ((hd l bl el).callF d res)):exo P ops (⟨some d,.call ⟨.value x,asx,ts⟩,ty,ps,af,none⟩ :: os) ks Q σ:=by
 obtain ⟨⟨f',cvs⟩,h1,rfl,h2⟩:=zaq hp
 obtain ⟨k1,k2,k3,k4,k5,k6⟩:=hk
 refine zc6 rfl rfl (zah.pre (zac hw) (qbr (P:=P) (o:=⟨some d,.call ⟨.value x,asx,ts⟩,ty,ps,af,none⟩) rfl rfl h h1 (τ:=hd l bl el) ⟨fun i=>?_,fun b cs hb=>⟨zmy k2 b cs hb,zo7 k5 b cs hb⟩,fun e x he=>⟨zmy k3 e x he,zqy k6 e x he⟩⟩ (zhm (fun u hu=>zil hu) h2) hf)) k
 rcases zqd k1 i with h | h
 ·exact Or.inl h
 ·exact Or.inr ⟨h,zou k4 i⟩
end
attribute [go_sem] gvT owU zid zrd zz6 zd6 okL okB okE zre C.okU qja okUt V.okU gvA gvK okS okQ rdV rdC rdCs
end
section
set_option maxRecDepth 4000
open Go.RowKit
variable {P:Program}
def litRs:Option (Nat × List (List C))->List (List C)
 | some p=>p.2
 | none=>[]
def blK (d:Nat):Option (Ev × List (Nat × Ev))->List (Nat × Ev)
 | some (x,cons)=>(d * 32,x) :: zwq cons
 | none=>[]
def apKs:Option (Prop × Nat × Ev × List (Nat × Ev))->List Ky
 | some (_,e,_,cons)=>(2,e) :: cons.map (fun p=>(2,p.1))
 | none=>[]
section
variable {ks:List Fr} {Q:Exit->St->Prop} {σ:St} {ops:Array Oper} {os:List Oper} {L:List (List Ky × List Ky)} {d:Nat} {t:TypeId} {ty:TypeId} {ps:String} {af:Array Edge} {len:Nat} {parts:Array (Nat × Operand)} {s y:Operand}
theorem zbi (h:zat (blD P σ t len parts) fun r=>σ.ev (d * 32) = none /\ (r.2.map (·.1)).Nodup)
  (k:exd P ops os (L ++ [(zav (parts.toList.map (·.2)) ++ (rK (litRs (zxm P (σ.get P) t len parts)) ++ [(2,d * 32)]),dK (some d) ++ eK (blK d (blD P σ t len parts)))]) ks Q ((σ.bl d (blD P σ t len parts)).put (some d) (.one (.ow (d * 32) 0)))) :
  exd P ops (⟨some d,.buildSlice t len parts,ty,ps,af,none⟩ :: os) L ks Q σ:=by
 obtain ⟨⟨x,cons⟩,h1,h2,h3⟩:=zaq h
 rw [h1] at k
 unfold blD at h1
 obtain ⟨p,e1,h1⟩:=Qd.1 h1
 obtain ⟨q,e2,h1⟩:=Qz.1 h1
 simp only [Qq] at h1
 obtain ⟨rfl,rfl⟩:=h1
 rw [e1] at k
 exact qqa ⟨e1,e2,h2,h3⟩ k
theorem zj0 (dp2:Bool) (h:zat (apV P σ d t s y dp2) fun r=>r.1) (k:exd P ops os (L ++ [(zav [s,y] ++ apKs (apV P σ d t s y dp2),dK (some d) ++ apKs (apV P σ d t s y dp2))]) ks Q (σ.apV d (apV P σ d t s y dp2))) :
  exd P ops (⟨some d,.call ⟨.builtin .append,#[s,y],#[t,t]⟩,ty,ps,af,none⟩ :: os) L ks Q σ:=by
 obtain ⟨⟨p,e,x,cons⟩,h1,h2⟩:=zaq h
 rw [h1] at k
 unfold Go.Proofs.YtliiapbmkcbfaaaGreat.apV at h1
 split at h1
 ·rename_i e0 gn e2 gn2 hs hy
  obtain ⟨x0,k1,h3⟩:=Qd.1 h1
  obtain ⟨z,k2,h4⟩:=Qd.1 h3
  clear h1 h3
  by_cases hc:x0.gen = gn /\ x0.on = true /\ z.gen = gn2 /\ z.on = true /\ z.sz = x0.sz /\ e2 ≠ e0
  ·rw [if_pos hc] at h4
   obtain ⟨rfl,c2,rfl,c4,c5,c6⟩:=hc
   simp only [Qc,Qq] at h4
   obtain ⟨rfl,rfl,rfl,rfl⟩:=h4
   obtain ⟨dp,sz,rows,gn,on⟩:=x0
   obtain ⟨dp2,sz2,rows2,gn2,on2⟩:=z
   simp only at c2 c4 c5
   subst c2 c4 c5
   exact dApOO ⟨hs,qk8 hy,k1,k2,c6,rfl⟩ h2.1 h2.2 k
  ·rw [if_neg hc] at h4; cases h4
 ·rename_i e0 gn sz rows2 hs hy
  obtain ⟨x0,k1,h4⟩:=Qd.1 h1
  clear h1
  by_cases hc:x0.gen = gn /\ x0.on = true /\ sz = x0.sz
  ·rw [if_pos hc] at h4
   obtain ⟨rfl,c2,rfl⟩:=hc
   simp only [Qc,Qq] at h4
   obtain ⟨rfl,rfl,rfl,rfl⟩:=h4
   obtain ⟨dp,sz,rows,gn,on⟩:=x0
   simp only at c2
   subst c2
   exact dApOT dp2 ⟨hs,hy,k1⟩ (fun hd=>zmw (h2.2.2 hd)) h2.1 h2.2.1 k
  ·rw [if_neg hc] at h4; cases h4
 ·rename_i z0 e2 gn2 hs hy
  obtain ⟨z,k2,h4⟩:=Qd.1 h1
  clear h1
  by_cases hc:z.gen = gn2 /\ z.on = true /\ e2 ≠ d * 32
  ·rw [if_pos hc] at h4
   obtain ⟨rfl,c2,c3⟩:=hc
   simp only [Qc,Qq] at h4
   obtain ⟨rfl,rfl,rfl,rfl⟩:=h4
   obtain ⟨dp2,sz2,rows2,gn2,on2⟩:=z
   simp only at c2
   subst c2
   exact dApNO ⟨hs,qk8 hy,h2.2.2,k2,c3⟩ h2.1 h2.2.1 k
  ·rw [if_neg hc] at h4; cases h4
 ·rename_i z0 sz rows2 hs hy
  simp only [Qc,Qq] at h1
  obtain ⟨rfl,rfl,rfl,rfl⟩:=h1
  exact dApNT dp2 ⟨hs,hy,h2.2.2.2⟩ (fun hd=>zmw (h2.2.2.1 hd)) h2.1 h2.2.1 k
 ·cases h1
end
attribute [go_sem] litRs blK apKs
end
section
set_option maxRecDepth 4000
open Go.RowKit
variable {P:Program}
def PX (P:Program) (rs:List ResultVar) (res:List D) (σ:St):Prop:=∃ pl,zat (zb4 P σ rs) fun vs=>gvA σ (fun _=>True) [] pl vs (res.map fun d=>(true,d))
def PS (P:Program) (rs:List ResultVar) (res:List D) (e:Exit) (σ:St):Prop:=match e with
 | .normal=>PF P rs res .normal σ \/ PX P rs res σ
 | .ret=>PF P rs res .ret σ \/ PX P rs res σ
 | _=>False
theorem zkb {w:World} {A:Nat->Prop}:∀ {res:List D} {vs:List Value} {fp tp:List Nat},zau w A (res.map fun d=>(true,d)) vs fp tp->GDs w res vs fp tp
 | [],_,_,_,h=>h
 | d :: ds,_,_,_,h=>by
  obtain ⟨v,vs',f1,f2,t1,t2,rfl,rfl,rfl,h1,h2⟩:=h
  exact ⟨v,vs',f1,f2,t1,t2,rfl,rfl,rfl,h1,zkb h2⟩
theorem qd8 {n0:Nat->Prop} {N:Nat} {σ:St} {g:Gh} {a:Act} {w:World} (hR:Rel n0 N σ g a w) {vs:List V} {res:List D} {pl:List (Nat × Nat × Nat)} (h:gvA σ (fun _=>True) [] pl vs (res.map fun d=>(true,d))) {us:List Value} (hv:VRl σ g w vs us) :
  ∃ fp tp,GDs w res us fp tp /\ fp.Nodup /\ ∀ b ∈ fp,∃ e,σ.On e /\ b ∈ g.φ e:=by
 obtain ⟨B,hB⟩:=hR.fam
 obtain ⟨s,k1,k2,k3,k4⟩:=zgi hR hB h hv
 rw [Kd] at k4
 have hsp:s.Pairwise okP:=(Jr.1 (k4 List.Pairwise.nil)).imp fun h=>h.symm
 obtain ⟨tp,k2⟩:=k2 [] (by simp)
 refine ⟨_,tp,zkb k2,zen hR hB k3 hsp,fun b hb=>?_⟩
 obtain ⟨x,hx,hm⟩:=Jk.1 hb
 exact ⟨x.1,k3 x hx,hB.sub x.1 x.2 b (k3 x hx) hm⟩
theorem qmb {f:FuncId} {fn:Func} {c:Code} {args:List (Bool × D)} {res:List D} (hc:za7 P f) (hf:P.funcs[f]? = some fn) (hb:fn.body = some c) (hd:zbv fn.ntmps c = true) (hN:args.length <= fn.ntmps) (hs:zbq args)
  (h:∀ (w:World) (vs:List Value) (fp tp:List Nat),zau w (fun b=>b < w.heap.size /\ b ∉ fp) args vs fp tp->∀ (g:Gh) (a:Act),Rel (fun b=>b < w.heap.size /\ b ∉ fp) fn.ntmps (zea args) g a w->(a.tmps = (⟨vs⟩:Array Value) ++ Array.replicate (fn.ntmps - vs.length) undef /\ (g.A0,g.R0) = ((fun _=>True),RP.of fun b=>b ∈ fp \/ w.heap.size <= b)) →
   ∃ σ0,ex P c [] (PS P fn.results.toList res) σ0 /\ Rel (fun b=>b < w.heap.size /\ b ∉ fp) fn.ntmps σ0 g a w):GC P f args res:=by
 refine ⟨hc,fun w vs fp tp hv hn=>?_⟩
 refine calls_of_wp hf hb ?_
 have hv':zau w (fun b=>b < w.heap.size /\ True /\ b ∉ fp) args vs fp tp:=zau.keepA (fun b hb=>⟨hb.1,trivial,hb.2⟩) hv
 obtain ⟨g,hg,hR⟩:=Rel.start (A0:=fun _=>True) (R0:=RP.of fun b=>b ∈ fp \/ w.heap.size <= b) (N:=fn.ntmps) hv' hn hs hN (fun _ _=>trivial) (fun b hb=>⟨trivial,Or.inl hb⟩) (fun b hb=>⟨trivial,by
  by_cases hlt:b < w.heap.size
  ·exact Or.inl (Classical.byContradiction fun h=>hb ⟨hlt,h⟩)
  ·exact Or.inr (by omega)⟩)
 obtain ⟨σ0,hex,hR0⟩:=h w vs fp tp hv g _ hR ⟨rfl,hg⟩
 refine wp_mono (zbs (w0:=w) c σ0 _ hd hex g _ w hR0 (fun k hk=>hk.1) (Bk.refl _ _) hg) fun e a' w' hq=>?_
 obtain ⟨σ',g',h1,h2,h3,h4,h5⟩:=hq
 have fin:∀ {us:List Value} {v:Value},(results fn a'.tmps).run P w' = .ok v w'->v = zb5 us->(∃ fp' tp',GDs w' res us fp' tp' /\ fp'.Nodup /\ ∀ b ∈ fp',∃ e,σ'.On e /\ b ∈ g'.φ e)->∃ v,(results fn a'.tmps).run P w' = .ok v w' /\ ∃ us fp' tp',Ending.returned v = .returned (zb5 us) /\ GDs w' res us fp' tp' /\ fp'.Nodup /\ (∀ b ∈ fp',b ∈ fp \/ w.heap.size <= b) /\ Bk (fun k=>k < w.heap.size /\ k ∉ fp) w w':=fun {us v} r1 rv ⟨fp',tp',o1,o2,o3⟩=>by
  refine ⟨_,r1,us,fp',tp',by rw [rv],o1,o2,fun b hb=>?_,h4⟩
  obtain ⟨e,l,m⟩:=o3 b hb
  have:=(h2.ebase e l b m).2
  rw [(Kt h5).2] at this
  exact this
 have key:(zat (zb4 P σ' fn.results.toList) (fun vs=>zyk σ' [] vs res) \/ PX P fn.results.toList res σ')->∃ v,(results fn a'.tmps).run P w' = .ok v w' /\ ∃ us fp' tp',Ending.returned v = .returned (zb5 us) /\ GDs w' res us fp' tp' /\ fp'.Nodup /\ (∀ b ∈ fp',b ∈ fp \/ w.heap.size <= b) /\ Bk (fun k=>k < w.heap.size /\ k ∉ fp) w w':=fun hk=>by
  rcases hk with hk | ⟨pl,hk⟩
  ·obtain ⟨vs,hvs,hk⟩:=zaq hk
   obtain ⟨us,r1,r2⟩:=zb3 h2 fn hvs
   obtain ⟨used,fp',tp',o1,o2⟩:=zdq h2 hk r2
   exact fin r1 rfl ⟨fp',tp',o1,o2.1,fun b hb=>by obtain ⟨e,_,_,l,m⟩:=o2.2.1 b hb; exact ⟨e,l,m⟩⟩
  ·obtain ⟨vs,hvs,hk⟩:=zaq hk
   obtain ⟨us,r1,r2⟩:=zb3 h2 fn hvs
   exact fin r1 rfl (qd8 h2 hk r2)
 cases e with
 | normal=>exact ⟨h2.defers,key h1⟩
 | ret=>exact ⟨h2.defers,key h1⟩
 | exit _=>exact h1.elim
 | goto _=>exact h1.elim
 | panic _=>exact h1.elim
 | outgrown=>exact h1.elim
theorem qkw (p:Prop):(p \/ True) = True:=by simp
theorem qi1 (p:Prop):(True \/ p) = True:=by simp
theorem qcc {α:Type} (x:α) (xs:List α) (d:α):(x :: xs).getD 0 d = x:=rfl
attribute [go_sem] qcc
attribute [go_sem] Bool.false_and Bool.and_false Bool.and_self
attribute [go_sem] PS qkw qi1
section
variable (A B:List (List T)) (r:List T)
theorem qjn {k:Nat} (h:A.length = k):(A ++ r :: B).getD k [] = r:=by subst h; simp
theorem qp8 {k:Nat} (h:A.length = k):(A ++ r :: B)[k]? = some r:=by subst h; simp
theorem qfv {k:Nat} (h:A.length = k) (o:Nat) (ts:List T):zfj (A ++ r :: B) k o ts = A ++ setR r o ts :: B:=by subst h; simp [zfj]
theorem zvh {k:Nat} (h:A.length = k) (j:Nat) (t:T):zox (A ++ r :: B) k j t = A ++ r.set j t :: B:=by subst h; simp [zox]
end
theorem zza (vs:Nat->Nat->Value) (i:Nat) (r:List T) (rs:List (List T)):zew vs i (r :: rs) = qhw (vs i) 0 r :: zew vs (i + 1) rs:=rfl
theorem qhn (us:Nat->Value) (j:Nat) (c:T) (cs:List T):qhw us j (c :: cs) = qpp (us j) c :: qhw us (j + 1) cs:=rfl
theorem qj6 (us:Nat->Value) (j:Nat):qhw us j [] = []:=rfl
theorem qp3 (v:Value) (sz:Nat) (rows:List (List T)):qpp v (.sl sz rows) = .pin v (.sl sz rows):=rfl
theorem qjt (v:Value) (k:IntKind) (n:Int):qpp v (.int k n) = .int k n:=rfl
theorem qi7 (v:Value) (s:List UInt8):qpp v (.str s) = .str s:=rfl
theorem qer (vs:Nat->Nat->Value) (i:Nat):zew vs i [] = []:=rfl
theorem zvg (n m:Nat):(n < n + (m + 1)) = True:=by simp
attribute [go_sem] PI zvg qer zza qhn qj6 qp3 qjt qi7 zit List.length_append qp8 qjn qfv zvh
theorem qph (n:Nat):((n:Int) < 0) = False:=by simp
attribute [go_sem] qph List.set_cons_succ List.set_cons_zero
end
section
set_option maxRecDepth 4000
open Go.RowKit
variable {P:Program}
def D.toN:D->V
 | .one t=>.one t.toN
 | .agg ts=>.agg (ts.map T.toN)
def zkq:Nat->List D->Nat->V
 | _,[]=>fun _=>.one .any
 | k,d :: ds=>upd (zkq (k + 1) ds) k d.toN
def zi1 (args:List D):St:=⟨zkq 0 args,fun _=>none,fun _=>none⟩
theorem zs4:∀ (ds:List D) (k i:Nat),zkq k ds (k + i) = match ds[i]? with | some d=>d.toN | none=>.one .any
 | [],k,i=>by simp [zkq]
 | d :: ds,k,0=>by simp [zkq,upd]
 | d :: ds,k,i + 1=>by
  unfold zkq
  rw [zam _ _ (by omega),show k + (i + 1) = k + 1 + i by omega,zs4 ds (k + 1) i]
  simp
theorem qfs {σ:St} {g:Gh} {w:World} {A:Nat->Prop} (hA:∀ b,A b->zcj σ g w b) {x:T} {v:Value} (h:zar w A x v):CR σ g w x.toN v:=by
 cases x <;> first | exact zar.keep (fun _ _=>rfl) (fun b hb=>(hA b hb).1) _ v h | exact zar.keep (fun _ _=>rfl) hA _ v h
theorem zwd {σ:St} {g:Gh} {w:World} {A:Nat->Prop} (hA:∀ b,A b->zcj σ g w b):∀ {ts:List T} {vs:List Value},zaf w A ts vs->CRs σ g w (ts.map T.toN) vs
 | [],vs,h=>by unfold zaf at h; exact h
 | t :: ts,vs,h=>by
  unfold zaf at h
  obtain ⟨v,vs',rfl,h1,h2⟩:=h
  exact ⟨v,vs',rfl,qfs hA h1,zwd hA h2⟩
theorem zr5 {σ:St} {g:Gh} {w:World} {A:Nat->Prop} (hA:∀ b,A b->zcj σ g w b) {d:D} {v:Value} (h:qa3 w A d v):VR σ g w d.toN v:=by
 cases d with
 | one t=>exact qfs hA h
 | agg ts=>obtain ⟨a,h0,h1⟩:=h; exact ⟨a,h0,zwd hA h1⟩
theorem zbr.at {w:World} {A:Nat->Prop}:∀ {ds:List D} {vs:List Value},zbr w A ds vs->∀ (i:Nat) d,ds[i]? = some d->∃ v,vs[i]? = some v /\ qa3 w A d v
 | [],_,_,i,d,h=>by simp at h
 | d0 :: ds,vs,h,0,d,hi=>by
  obtain ⟨v,vs',rfl,h1,h2⟩:=h
  simp only [List.getElem?_cons_zero,Qc] at hi
  subst hi; exact ⟨v,rfl,h1⟩
 | d0 :: ds,vs,h,i + 1,d,hi=>by
  obtain ⟨v,vs',rfl,h1,h2⟩:=h
  simpa using zbr.at h2 i d (by simpa using hi)
theorem zc8 {w:World} {A:Nat->Prop}:∀ {ds:List D} {vs:List Value} {fp tp:List Nat},zau w A (rd ds) vs fp tp->zbr w A ds vs /\ fp = [] /\ tp = []
 | [],_,_,_,h=>⟨h.1,h.2.1,h.2.2⟩
 | d :: ds,_,_,_,h=>by
  obtain ⟨v,vs',rfl,h1,h2⟩:=h
  obtain ⟨k1,k2,k3⟩:=zc8 h2
  exact ⟨⟨v,vs',rfl,h1,k1⟩,k2,k3⟩
theorem zmh {args:List D} {w:World} {vs:List Value} {N:Nat} {g:Gh} {a:Act} (hr:zbr w (fun b=>b < w.heap.size /\ b ∉ ([]:List Nat)) args vs) (hR:Rel (fun b=>b < w.heap.size /\ b ∉ ([]:List Nat)) N (zea (rd args)) g a w)
  (hg:a.tmps = (⟨vs⟩:Array Value) ++ Array.replicate (N - vs.length) undef /\ (g.A0,g.R0) = ((fun _=>True),RP.of fun b=>b ∈ ([]:List Nat) \/ w.heap.size <= b)):Rel (fun b=>b < w.heap.size /\ b ∉ ([]:List Nat)) N (zi1 args) g a w:=by
 have hbx:∀ (ds:List D) (k:Nat),zh9 k (rd ds) = fun _=>none:=fun ds=>by
  induction ds with
  | nil=>intro k; rfl
  | cons d ds ih=>intro k; exact ih (k + 1)
 have hG:∀ b,(b < w.heap.size /\ b ∉ ([]:List Nat))->zcj (zi1 args) g w b:=fun b hb=>by
  refine ⟨⟨fun k hk=>absurd rfl hk,fun e x he _=>(by cases he),hb.1,by rw [(Kt hg.2).1]; trivial⟩,?_⟩
  rintro e ⟨x,hx,_⟩
  cases hx
 refine hR.slots_of (σ':=zi1 args) rfl ?_ hR.defers hR.size fun i=>?_
 ·show (fun _=>none) = zh9 0 (rd args)
  rw [hbx]
 ·have hm:Mv (zi1 args) (zi1 args) g g w w:=Mv.of_eq g w rfl rfl
  show VR (zea (rd args)) g w (zkq 0 args i) _
  have hi:=zs4 args 0 i
  rw [Q4] at hi
  rw [hi]
  cases hd:args[i]? with
  | none=>trivial
  | some d =>
   obtain ⟨v,hv1,hv2⟩:=zbr.at hr i d hd
   have hlt:i < vs.length:=(List.getElem?_eq_some_iff.1 hv1).1
   have e:a.tmps.getD i (g.R0.ξ i) = v:=by
    rw [hg.1]
    rw [Array.getD_eq_getD_getElem?,Array.getElem?_append_left (by simpa using hlt)]
    simp [hv1]
   rw [e]
   have hx:=zr5 hG hv2
   exact (Mv.of_eq (σ:=zi1 args) (σ':=zea (rd args)) g w rfl (by show zh9 0 (rd args) = fun _=>none; rw [hbx])).vr hx
theorem zcq {f:FuncId} {fn:Func} {c:Code} {args res:List D} (hc:za7 P f) (hf:P.funcs[f]? = some fn) (hb:fn.body = some c) (hd:zbv fn.ntmps c = true) (hN:(rd args).length <= fn.ntmps)
  (h:ex P c [] (PS P fn.results.toList res) (zi1 args)):FC P f args res:=by
 refine qmb hc hf hb hd hN (zcx args) fun w vs fp tp hv g a hR hg=>?_
 obtain ⟨hr,rfl,rfl⟩:=zc8 hv
 exact ⟨zi1 args,h,zmh hr hR hg⟩
attribute [go_sem] zi1 zkq D.toN T.toN
end
section
set_option maxRecDepth 4000
open Go.RowKit
variable {P:Program}
abbrev FR (r:Option Nat):Fence:={ Fence.wide with round:=r }
theorem zhg {r:Option Nat} {n:Nat} {f:FuncId} {args:Array Value} {w:World} {R:Ending->World->Prop}:CallsIn (FR r) n P f args w R ↔ Calls P f args w R :=
 (callsIn_wide (n:=n):CallsIn Fence.wide n P f args w R ↔ _)
def Oper.nodef (o:Oper):Bool:=match o.op with | .defer _=>false | _=>true
theorem qjq {o:Oper} (h:Oper.nodef o = true):∀ c,o.op ≠ .defer c:=fun c hc=>by simp [Oper.nodef,hc] at h
theorem zei (a:Act) (d:Option Nat) (v:Value) (ds:List Deferred):({ a with defers:=ds }:Act).put d v = { a.put d v with defers:=ds }:=by cases d <;> rfl
theorem zv6 (a:Act) (d:Option Nat) (v:Value):(a.put d v).defers = a.defers:=by cases d <;> rfl
theorem operIn {r:Option Nat} {n:Nat} {o:Oper} {a:Act} {w:World} {K:Act->World->Prop} {ds:List Deferred} {K':Act->World->Prop} {Q:Exit->Act->World->Prop} (hnd:Oper.nodef o = true) (hK:∀ a w,K a w->a.defers = []) (h:o.wp P a w K (fun _ _ _=>False))
  (hK':∀ v w',K (a.put o.dst v) w'->K' { a.put o.dst v with defers:=ds } w'):o.wpIn (FR r) n P { a with defers:=ds } w K' Q:=by
 unfold Oper.wp at h
 refine ⟨fun _ _=>trivial,?_⟩
 rw [Oper.semAt_eq _ _ _ (qjq hnd)]
 show o.uponIn (FR r) n P { a with defers:=ds } K' Q ((execOp a.eval o).run P w)
 generalize (execOp a.eval o).run P w = x at h
 cases x with
 | ok nx w' =>
  cases nx with
  | value v=>show K' _ _; rw [zei]; exact hK' v w' h
  | skip=>show K' _ _; rw [zei]; exact hK' _ w' h
  | defer d=>exact absurd (hK _ _ h) (by rw [zv6]; simp)
  | enter f args =>
   refine ⟨(by intro h; cases h),zhg.2 (Calls.mono h fun e w'' he=>?_)⟩
   cases e with
   | returned v=>show K' _ _; rw [zei]; exact hK' v w'' he
   | panicked c=>exact he.elim
   | outgrown=>obtain ⟨_,_,hx⟩:=he; exact hx.elim
  | row row args =>
   refine ⟨(by intro h; cases h),fun c cs _=>?_⟩
   obtain ⟨v,w'',h1,h2⟩:=h c cs
   refine ⟨v,w'',?_,stepsIn_wide.2 h2⟩
   show K' _ _; rw [zei]; exact hK' v w'' h1
  | _=>exact (show False from h).elim
 | halt x w'=>cases x <;> exact (show False from h).elim
def Ag (D:Nat->Prop) (a a':Act):Prop:=∀ i,¬ D i->a'.tmps.getD i undef = a.tmps.getD i undef
theorem Ag.refl (D:Nat->Prop) (a:Act):Ag D a a:=fun _ _=>rfl
theorem Ag.put {D:Nat->Prop} {a0 a:Act} (h:Ag D a0 a) {d:Option Nat} (hd:∀ i,d = some i->D i) (v:Value):Ag D a0 (a.put d v):=fun i hi=>by
 cases d with
 | none=>exact h i hi
 | some j =>
  have hij:i ≠ j:=fun e=>hi (e ▸ hd j rfl)
  rw [show (a.put (some j) v).tmps = a.tmps.setIfInBounds j v from rfl,zkk a hij]
  exact h i hi
def EndsD (n0:Nat->Prop) (N:Nat) (w0:World) (A0:(Nat->Prop) × RP) (ds:List Deferred) (D:Nat->Prop) (a0:Act) (Q:Exit->St->Prop) (e:Exit) (a:Act) (w:World):Prop:=∃ a1,a = { a1 with defers:=ds } /\ Ag D a0 a1 /\ qlr n0 N w0 A0 Q e a1 w
theorem zn3 {ops:Array Oper} {K:St->Prop} {n0:Nat->Prop} {N:Nat} {w0:World} {A0:(Nat->Prop) × RP} {r:Option Nat} {n:Nat} {ds:List Deferred} {D:Nat->Prop} {a0:Act} {R:Exit->Act->World->Prop}
  (hR:∀ a w σ g,K σ->Rel n0 N σ g a w->LtK n0 w->Bk n0 w0 w->(g.A0,g.R0) = A0->Ag D a0 a->R .normal { a with defers:=ds } w) :
  ∀ (k i:Nat),i + k = ops.size->(∀ o ∈ ops.toList,Oper.nodef o = true /\ ∀ d,o.dst = some d->d < N /\ D d)->∀ (σ:St) (g:Gh) (a:Act) (w:World),zb1 P ops (ops.toList.drop i) σ K->Rel n0 N σ g a w->LtK n0 w->Bk n0 w0 w->(g.A0,g.R0) = A0->Ag D a0 a->wpOpsIn (FR r) n P ops R (List.range' i k) { a with defers:=ds } w
 | 0,i,hi,hd,σ,g,a,w,h,hr,hn,hb,hA,hg=>by
  have:ops.toList.drop i = []:=Qs (by simp; omega)
  rw [this] at h
  exact hR a w σ g h hr hn hb hA hg
 | k + 1,i,hi,hd,σ,g,a,w,h,hr,hn,hb,hA,hg=>by
  have hlt:i < ops.size:=by omega
  have hcons:ops.toList.drop i = ops[i] :: ops.toList.drop (i + 1):=by
   rw [Qh (by simpa using hlt)]; rfl
  rw [hcons] at h
  rw [show List.range' i (k + 1) = i :: List.range' (i + 1) k from rfl]
  have ho:ops[i]? = some ops[i]:=by simp [hlt]
  obtain ⟨hnd,hdi⟩:=hd ops[i] (by simp)
  have next:∀ σ' a' w',(∃ g',Rel n0 N σ' g' a' w' /\ Bk n0 w w' /\ g'.A0 = g.A0 /\ g'.R0 = g.R0)->Ag D a0 a'->zb1 P ops (ops.toList.drop (i + 1)) σ' K->wpOpsIn (FR r) n P ops R (List.range' (i + 1) k) { a' with defers:=ds } w':=by
   rintro σ' a' w' ⟨g',k1,k2,k3,k4⟩ hg' hK
   exact zn3 hR k (i + 1) (by omega) hd σ' g' a' w' hK k1 (hn.mono k2.size) (hb.trans k2) (by rw [k3,k4]; exact hA) hg'
  have run:∀ σ0,σ0 = σ->zcy P ops[i] σ0 (fun σ'=>zb1 P ops (ops.toList.drop (i + 1)) σ' K)->ops[i].wpIn (FR r) n P { a with defers:=ds } w (wpOpsIn (FR r) n P ops R (List.range' (i + 1) k)) R:=fun σ0 e0 h1=>by
   subst e0
   exact operIn hnd (fun a' w' ⟨σ',g',h0,hh⟩=>hh.1.defers) (zft h1 n0 N g a w hr hn fun d hd=>(hdi d hd).1) fun v w' ⟨σ',g',h0,hh⟩=>next σ' _ w' ⟨g',hh⟩ (hg.put (fun d hd=>(hdi d hd).2) v) h0
  simp only [wpOpsIn,ho]
  unfold zb1 exG at h
  split at h
  ·rename_i hg0
   have:Region.wanted ops[i] (yielded ops a.tmps) = true:=by simp [Region.wanted,hg0]
   rw [if_pos this]
   exact run σ rfl h
  ·rename_i j want hg0
   split at h
   ·rename_i d hdj
    split at h
    ·rename_i c hc
     have hv:=hr.slots d
     rw [hc] at hv
     simp only [VR,CR,zar] at hv
     have hy:yielded ops a.tmps j = some c:=by
      unfold yielded
      rw [hdj]
      simp only [Kc]
      cases ht:a.tmps[d]? with
      | none=>rw [Array.getD_eq_getD_getElem?,ht] at hv; exact absurd hv (g.R0.nb _ _)
      | some u=>rw [Array.getD_eq_getD_getElem?,ht] at hv; simp only [K2] at hv; subst hv; rfl
     have hw:Region.wanted ops[i] (yielded ops a.tmps) = (c == want):=by
      unfold Region.wanted
      rw [hg0]
      simp only [hy]
      cases c <;> cases want <;> rfl
     rw [hw]
     by_cases hcw:c = want
     ·subst hcw
      simp only [K6,if_true]
      exact run _ (zhc hc) (h.1 rfl)
     ·have hne:(c == want) = false:=by simpa using hcw
      rw [hne]
      simp only [Qo,if_false]
      have hnot:c = !want:=by cases c <;> cases want <;> simp_all
      have hh:=h.2 hnot
      rw [<-hnot,zhc hc] at hh
      refine ⟨fun _ _=>trivial,?_⟩
      rw [zei]
      exact next _ _ _ ⟨g,hr.put _ (x:=.tup []) ⟨[],rfl,rfl⟩ fun d hd=>(hdi d hd).1,Bk.refl _ _,rfl,rfl⟩ (hg.put (fun d hd=>(hdi d hd).2) _) hh
    ·rename_i xs hc
     have hv:=hr.slots d
     rw [hc] at hv
     obtain ⟨vs,hv,_⟩:=hv
     have hy:yielded ops a.tmps j = none:=by
      unfold yielded
      rw [hdj]
      simp only [Kc]
      cases ht:a.tmps[d]? with
      | none=>rfl
      | some u=>rw [Array.getD_eq_getD_getElem?,ht] at hv; simp only [K2] at hv; subst hv; rfl
     have hw:Region.wanted ops[i] (yielded ops a.tmps) = false:=by
      unfold Region.wanted
      rw [hg0]
      simp only [hy]
      rfl
     rw [hw]
     simp only [Qo,if_false]
     refine ⟨fun _ _=>trivial,?_⟩
     rw [zei]
     exact next _ _ _ ⟨g,hr.put _ (x:=.tup []) ⟨[],rfl,rfl⟩ fun d hd=>(hdi d hd).1,Bk.refl _ _,rfl,rfl⟩ (hg.put (fun d hd=>(hdi d hd).2) _) h
    ·exact h.elim
   ·exact h.elim
def zcp:Code->Bool
 | .region _ ops false=>ops.all Oper.nodef
 | .seq a b=>zcp a && zcp b
 | .cond _ a b=>zcp a && zcp b
 | .block _ b=>zcp b
 | .skip=>true
 | .ret=>true
 | .exit _=>true
 | _=>false
def zev:Code->List Nat
 | .region _ ops _=>ops.toList.filterMap (·.dst)
 | .seq a b=>zev a ++ zev b
 | .cond _ a b=>zev a ++ zev b
 | .block _ b=>zev b
 | .loop b=>zev b
 | _=>[]
theorem zcu {n0:Nat->Prop} {N:Nat} {w0:World} {A0:(Nat->Prop) × RP} {r:Option Nat} {n:Nat} {ds:List Deferred} {D:Nat->Prop} {a0:Act}:∀ (c:Code) (σ:St) (Q:Exit->St->Prop),zcp c = true->zbv N c = true->(∀ d ∈ zev c,D d)->zhv P c σ Q →
  ∀ (g:Gh) (a:Act) (w:World),Rel n0 N σ g a w->LtK n0 w->Bk n0 w0 w->(g.A0,g.R0) = A0->Ag D a0 a->c.wpIn (FR r) n P (EndsD n0 N w0 A0 ds D a0 Q) { a with defers:=ds } w
 | .skip,σ,Q,_,_,_,h,g,a,w,hr,hn,hb,hA,hg=>wpIn_skip ⟨a,rfl,hg,σ,g,h,hr,hn,hb,hA⟩
 | .ret,σ,Q,_,_,_,h,g,a,w,hr,hn,hb,hA,hg=>wpIn_ret ⟨a,rfl,hg,σ,g,h,hr,hn,hb,hA⟩
 | .exit id,σ,Q,_,_,_,h,g,a,w,hr,hn,hb,hA,hg=>wpIn_exit ⟨a,rfl,hg,σ,g,h,hr,hn,hb,hA⟩
 | .seq x y,σ,Q,hp,hd,hD,h,g,a,w,hr,hn,hb,hA,hg=>by
  simp only [zbv,zcp,Qa] at hd hp
  simp only [zev,Qt] at hD
  refine wpIn_seq (wpIn_mono (zcu x σ _ hp.1 hd.1 (fun d h=>hD d (Or.inl h)) h g a w hr hn hb hA hg) fun e a' w' hq=>?_)
  obtain ⟨a1,rfl,hg1,σ',g',h1,h2,h3,h4,h5⟩:=hq
  cases e with
  | normal=>exact zcu y σ' Q hp.2 hd.2 (fun d h=>hD d (Or.inr h)) h1 g' a1 w' h2 h3 h4 h5 hg1
  | exit i=>exact ⟨a1,rfl,hg1,σ',g',h1,h2,h3,h4,h5⟩
  | goto l=>exact ⟨a1,rfl,hg1,σ',g',h1,h2,h3,h4,h5⟩
  | ret=>exact ⟨a1,rfl,hg1,σ',g',h1,h2,h3,h4,h5⟩
  | panic ch=>exact ⟨a1,rfl,hg1,σ',g',h1,h2,h3,h4,h5⟩
  | outgrown=>exact ⟨a1,rfl,hg1,σ',g',h1,h2,h3,h4,h5⟩
 | .cond c x y,σ,Q,hp,hd,hD,h,g,a,w,hr,hn,hb,hA,hg=>by
  simp only [zbv,zcp,Qa] at hd hp
  simp only [zev,Qt] at hD
  unfold zhv at h
  have hv:=hr.get P 0 c
  split at h
  ·rename_i t hc
   rw [hc] at hv
   simp only [VR,CR,zar] at hv
   exact wpIn_cond_split hv (fun ht=>zcu x σ Q hp.1 hd.1 (fun d h=>hD d (Or.inl h)) (h.1 ht) g a w hr hn hb hA hg) (fun ht=>zcu y σ Q hp.2 hd.2 (fun d h=>hD d (Or.inr h)) (h.2 ht) g a w hr hn hb hA hg)
  ·exact h.elim
 | .block id b,σ,Q,hp,hd,hD,h,g,a,w,hr,hn,hb,hA,hg=>by
  refine wpIn_block (wpIn_mono (zcu b σ _ hp hd hD h g a w hr hn hb hA hg) fun e a' w' hq=>?_)
  obtain ⟨a1,rfl,hg1,σ',g',h1,h2,h3,h4,h5⟩:=hq
  cases e with
  | exit i =>
   simp only [Exit.inBlock]
   simp only at h1
   split at h1
   ·rw [if_pos ‹_›]; exact ⟨a1,rfl,hg1,σ',g',h1,h2,h3,h4,h5⟩
   ·rw [if_neg ‹_›]; exact ⟨a1,rfl,hg1,σ',g',h1,h2,h3,h4,h5⟩
  | normal=>exact ⟨a1,rfl,hg1,σ',g',h1,h2,h3,h4,h5⟩
  | goto l=>exact ⟨a1,rfl,hg1,σ',g',h1,h2,h3,h4,h5⟩
  | ret=>exact ⟨a1,rfl,hg1,σ',g',h1,h2,h3,h4,h5⟩
  | panic ch=>exact ⟨a1,rfl,hg1,σ',g',h1,h2,h3,h4,h5⟩
  | outgrown=>exact ⟨a1,rfl,hg1,σ',g',h1,h2,h3,h4,h5⟩
 | .region id ops false,σ,Q,hp,hd,hD,h,g,a,w,hr,hn,hb,hA,hg=>by
  refine wpIn_region ?_
  have hd':∀ o ∈ ops.toList,Oper.nodef o = true /\ ∀ d,o.dst = some d->d < N /\ D d:=fun o ho=>by
   simp only [zbv,zcp,K3] at hd hp
   refine ⟨hp o (by simpa using ho),fun d hdd=>⟨?_,hD d (by simp only [zev,List.mem_filterMap]; exact ⟨o,ho,hdd⟩)⟩⟩
   have:=hd o (by simpa using ho)
   rw [hdd] at this
   simpa using this
  rw [List.range_eq_range']
  exact zn3 (fun a w σ g h1 h2 h3 h4 h5 h6=>⟨a,rfl,h6,σ,g,h1,h2,h3,h4,h5⟩) ops.size 0 (by omega) hd' σ g a w (by simpa [zhv] using h) hr hn hb hA hg
 | .loop _,_,_,hp,_,_,_,_,_,_,_,_,_,_,_=>by cases hp
 | .region _ _ true,_,_,hp,_,_,_,_,_,_,_,_,_,_,_=>by cases hp
 | .rangeFunc ..,_,_,hp,_,_,_,_,_,_,_,_,_,_,_=>by cases hp
 | .scope _,_,_,hp,_,_,_,_,_,_,_,_,_,_,_=>by cases hp
 | .label _,_,_,hp,_,_,_,_,_,_,_,_,_,_,_=>by cases hp
 | .goto _,_,_,hp,_,_,_,_,_,_,_,_,_,_,_=>by cases hp
 | .refuse _,_,_,hp,_,_,_,_,_,_,_,_,_,_,_=>by cases hp
end
section
set_option maxRecDepth 4000
open Go.RowKit
variable {P:Program}
theorem Rel.turn {n0 n1 A1:Nat->Prop} {N:Nat} {σ:St} {g:Gh} {a:Act} {w w':World} (h:Rel n0 N σ g a w) (hF:∀ b,Fix σ g w b->A1 b /\ w'.heap[b]? = w.heap[b]?) (hz:w.heap.size <= w'.heap.size)
  (hn:∀ b,¬ n1 b->A1 b /\ g.R0 b) (hb:∀ k,σ.bx k ≠ none->¬ n1 (g.β k) /\ w'.heap[g.β k]? = w.heap[g.β k]?) (he:∀ e,σ.On e->∀ b ∈ g.φ e,¬ n1 b /\ A1 b /\ w'.heap[b]? = w.heap[b]?):Rel n1 N σ { g with A0:=A1 } a w':=by
 have m:Mv σ σ g { g with A0:=A1 } w w':=⟨fun b hf=>(hF b hf).2,fun b hf=>⟨hf.1,hf.2.1,Jb hf.2.2.1 hz,(hF b hf).1⟩,fun b hbb=>⟨rfl,hbb⟩,fun e n hh=>⟨hh,rfl⟩,fun b hb=>hb.2⟩
 refine ⟨h.defers,h.size,hn,fun i=>m.vr (h.slots i),fun b cs hbb=>?_,fun b hbb=>(hb b hbb).1,h.inj,fun e x hx ho=>m.evr (h.evs e x hx ho) fun b hm=>(he e ⟨x,hx,ho⟩ b hm).2.2,fun e x hx ho=>⟨m.rep (h.offs e x hx ho).1,(h.offs e x hx ho).2⟩,h.slc,fun e ho b hm=>⟨(he e ho b hm).2.1,(h.ebase e ho b hm).2⟩,fun e ho b hm=>(he e ho b hm).1,h.nodup,h.apart,h.ebx⟩
 obtain ⟨vs,ty,k1,k2⟩:=h.boxes b cs hbb
 exact ⟨vs,ty,by rw [(hb b (by rw [hbb]; simp)).2]; exact k1,m.crs k2⟩
theorem Rel.elt {n0:Nat->Prop} {N:Nat} {σ:St} {g:Gh} {a:Act} {w:World} (h:Rel n0 N σ g a w) {e:Nat} (ho:σ.On e) {b:Nat} (hm:b ∈ g.φ e):b < w.heap.size:=by
 obtain ⟨x,hx,hon⟩:=ho
 exact (h.evs e x hx hon).lt b hm
theorem Rel.enter {n0:Nat->Prop} {N:Nat} {σ:St} {g:Gh} {a:Act} {w:World} (h:Rel n0 N σ g a w) (o1 o2:Obj) :
  Rel (fun b=>n0 b \/ b = w.heap.size \/ b = w.heap.size + 1) N σ { g with A0:=fun b=>g.A0 b /\ b ≠ w.heap.size /\ b ≠ w.heap.size + 1 } a ((w.alloc o1).alloc o2):=by
 have hs:∀ b,b < w.heap.size->((w.alloc o1).alloc o2).heap[b]? = w.heap[b]?:=fun b hb=>by rw [Below.heap_alloc _ _ _ (by simp; omega),Below.heap_alloc _ _ _ hb]
 refine h.turn (fun b hf=>⟨⟨hf.2.2.2,?_,?_⟩,hs b hf.2.2.1⟩) (by simp; omega) (fun b hb=>?_) (fun k hk=>⟨?_,hs _ (h.lt hk)⟩) (fun e ho b hm=>?_)
 ·have:=hf.2.2.1; omega
 ·have:=hf.2.2.1; omega
 ·have h1:¬ n0 b:=fun k=>hb (Or.inl k)
  exact ⟨⟨(h.anew b h1).1,fun e=>hb (Or.inr (Or.inl e)),fun e=>hb (Or.inr (Or.inr e))⟩,(h.anew b h1).2⟩
 ·have:=h.lt hk
  rintro (k1 | k1 | k1)
  ·exact h.base k hk k1
  ·omega
  ·omega
 ·have:=h.elt ho hm
  refine ⟨?_,⟨(h.ebase e ho b hm).1,by omega,by omega⟩,hs b this⟩
  rintro (k1 | k1 | k1)
  ·exact h.etop e ho b hm k1
  ·omega
  ·omega
theorem Rel.putObj {n1:Nat->Prop} {N:Nat} {σ:St} {g:Gh} {a:Act} {w:World} (h:Rel n1 N σ g a w) {l:Nat} (hl:n1 l) (hA:¬ g.A0 l) (o:Obj):Rel n1 N σ g a (w.putObj l o):=by
 have:=h.turn (n1:=n1) (A1:=g.A0) (w':=w.putObj l o) (fun b hf=>⟨hf.2.2.2,World.putObj_heap_other (fun e=>hA (e ▸ hf.2.2.2))⟩) (by simp) h.anew
  (fun k hk=>⟨h.base k hk,World.putObj_heap_other (fun e=>h.base k hk (e ▸ hl))⟩) (fun e ho b hm=>⟨h.etop e ho b hm,(h.ebase e ho b hm).1,World.putObj_heap_other (fun e'=>h.etop e ho b hm (e' ▸ hl))⟩)
 exact this
theorem Rel.leave {n0 n1 A1:Nat->Prop} {N:Nat} {σ:St} {g:Gh} {a:Act} {w:World} (h:Rel n1 N σ g a w) (hn:∀ b,n0 b->n1 b) (hA:∀ b,g.A0 b->A1 b) (hnew:∀ b,¬ n0 b->A1 b /\ g.R0 b):Rel n0 N σ { g with A0:=A1 } a w :=
 h.turn (fun b hf=>⟨hA b hf.2.2.2,rfl⟩) (Qw _) hnew (fun k hk=>⟨fun k1=>h.base k hk (hn _ k1),rfl⟩) (fun e ho b hm=>⟨fun k1=>h.etop e ho b hm (hn _ k1),hA b (h.ebase e ho b hm).1,rfl⟩)
theorem Rel.frame {n0:Nat->Prop} {N:Nat} {σ:St} {g:Gh} {a a0:Act} {w:World} (h:Rel n0 N σ g a w) {D:Nat->Prop} (hg:Ag D a0 a) (hd:a0.defers = []) (hz:a0.tmps.size = N) (hany:∀ i,D i->σ.sl i = .one .any):Rel n0 N σ g a0 w:=by
 refine h.slots_of rfl rfl hd hz fun i=>?_
 by_cases hi:D i
 ·rw [hany i hi]; trivial
 ·have h1:=hg i hi
  have h2:=h.slots i
  have e:a0.tmps.getD i (g.R0.ξ i) = a.tmps.getD i (g.R0.ξ i):=by
   rw [Array.getD_eq_getD_getElem?,Array.getD_eq_getD_getElem?] at h1 ⊢
   by_cases hlt:i < N
   ·have s1:i < a.tmps.size:=by rw [h.size]; exact hlt
    have s2:i < a0.tmps.size:=by rw [hz]; exact hlt
    simp only [Array.getElem?_eq_getElem s1,Array.getElem?_eq_getElem s2,K2] at h1 ⊢
    exact h1.symm
   ·have s1:¬ i < a.tmps.size:=by rw [h.size]; exact hlt
    have s2:¬ i < a0.tmps.size:=by rw [hz]; exact hlt
    simp [s1,s2]
  rw [e]; exact h2
def agv (ag:Bool) (r:List Value):Value:=if ag = true then .agg ⟨r⟩ else r.headD undef
def zwy (P:Program) (f:FuncId) (ag:Bool) (sz:Nat):Prop:=∀ (l Bs n:Nat) (W:World) (J:Nat->World->Prop),n <= zf3 →
 (∀ W,J 0 W->∃ ao cap,W.cell? ⟨Bs,0,none⟩ = some (.slice ao n cap)) →
 (∀ k W,J k W->k < n->∃ b o cap r,W.cell? ⟨Bs,0,none⟩ = some (.slice (some ⟨b,o,none⟩) n cap) /\ r.length = sz /\ (∀ j v,r[j]? = some v->W.cell? ⟨b,o + (n - 1 - k) * sz + j,none⟩ = some v) ∧
  YieldAt (FR none) 5 P l #[.int .i64 ((n - 1 - k:Nat):Int),agv ag r] W fun e W'=>e = .returned (.bool true) /\ J (k + 1) W') →
 J 0 W->CallsIn (FR none) 6 P f #[.func (.yield l) #[] #[],.pointer (some ⟨Bs,0,none⟩)] W fun e W'=>(∃ v,e = .returned v) /\ J n W'
theorem zbk.valsN {w:World} {A:Nat->Prop} {b:Nat}:∀ {cs:List T} {o:Nat},zbk w A b o cs->∃ vs,zaf w A cs vs /\ ∀ j v,vs[j]? = some v->w.cell? ⟨b,o + j,none⟩ = some v
 | [],_,_=>⟨[],by unfold zaf; rfl,fun j v h=>by simp at h⟩
 | c :: cs,o,h=>by
  unfold zbk at h
  obtain ⟨⟨v,h1,h2⟩,h3⟩:=h
  obtain ⟨vs,k1,k2⟩:=zbk.valsN h3
  refine ⟨v :: vs,by unfold zaf; exact ⟨v,vs,rfl,h2,k1⟩,fun j u hj=>?_⟩
  cases j with
  | zero=>simp only [List.getElem?_cons_zero,Qc] at hj; subst hj; exact h1
  | succ j =>
   have:=k2 j u (by simpa using hj)
   rwa [show o + (j + 1) = o + 1 + j by omega]
def qmf (ag:Bool) (r:List T):V:=if ag = true then .agg (r.map T.toN) else .one (r.headD (.bool false)).toN
theorem qnd {σ:St} {g:Gh} {w:World} {ag:Bool} {r:List T} {vs:List Value} (hag:ag = true \/ r.length = 1) (h:zaf w (zcj σ g w) r vs):VR σ g w (qmf ag r) (agv ag vs):=by
 cases ag with
 | true=>exact ⟨vs,rfl,zwd (fun _ h=>h) h⟩
 | false =>
  have hl:=hag.resolve_left (by simp)
  match r,hl,h with
  | [c],_,h =>
   unfold zaf at h
   obtain ⟨v,vs',rfl,h1,h2⟩:=h
   exact qfs (fun _ h=>h) h1
theorem Bk.mono {n0 n1:Nat->Prop} {w w':World} (h:Bk n1 w w') (hn:∀ b,n0 b->n1 b):Bk n0 w w':=⟨h.os,h.tape,h.output,h.size,fun k hk=>h.block k (hn k hk)⟩
theorem Bk.putObj {n0:Nat->Prop} (w:World) {l:Nat} (hl:¬ n0 l) (o:Obj):Bk n0 w (w.putObj l o):=⟨rfl,rfl,rfl,by simp,fun k hk=>World.putObj_heap_other (fun e=>hl (e ▸ hk))⟩
theorem zv8 {n0:Nat->Prop} {N:Nat} {σ:St} {g:Gh} {a:Act} {w:World} (h:Rel n0 N σ g a w) {id sz:Nat} {rows:List (List T)} (hb:σ.bx id = some [.rn (.sl sz rows)]) :
  ∃ ao cap,w.cell? ⟨g.β id,0,none⟩ = some (.slice ao rows.length cap) /\ rows.length <= zf3 /\ (rows = [] \/ ∃ b o,ao = some ⟨b,o,none⟩ /\ zas w (zcj σ g w) b o sz rows):=by
 obtain ⟨⟨vl⟩,ty,k1,v,vs',rfl,k2,k3⟩:=h.boxes id _ hb
 obtain rfl:vs' = []:=k3
 simp only [CR] at k2
 unfold zar at k2
 obtain ⟨ao,cap,rfl,h2,h3,h4⟩:=k2
 refine ⟨ao,cap,by simp [World.cell?,k1],by omega,h4.imp (fun h=>h) ?_⟩
 rintro ⟨b,o,e1,_,e2⟩
 exact ⟨b,o,e1,e2⟩
theorem zrk {F1:FuncId} {ag:Bool} {sz t p1 p2 id N m:Nat} {asg bd:Code} (hB:zwy P F1 ag sz) (hc:za7 P F1) (hpa:zcp asg = true) (hpb:zcp bd = true) (hda:zbv N asg = true) (hdb:zbv N bd = true) (hp1:p1 < N) (hp2:p2 < N) (ht:t < 1000000)
  (H:Nat->St) (rows:List (List T)) (hag:ag = true \/ sz = 1) (hslot:∀ k,(H k).sl t = .one (.fn F1 [id]) /\ (H k).bx id = some [.rn (.sl sz rows)]) (hany:∀ k,∀ i ∈ p1 :: p2 :: (zev asg ++ zev bd),(H k).sl i = .one .any)
  (hround:∀ k,k < rows.length->zhv P asg (((H k).put (some p1) (.one (.t (.int .i64 ((rows.length - 1 - k:Nat):Int))))).put (some p2) (qmf ag (rows.getD (rows.length - 1 - k) []))) fun e σ2=>e = .normal /\ zhv P bd σ2 fun e σ3=>e = .normal /\ Wk σ3 (H (k + 1)))
  {n0:Nat->Prop} {g:Gh} {a:Act} {w0 w:World} (hR:Rel n0 N (H 0) g a w) (hn:LtK n0 w) (hb:Bk n0 w0 w) {Q:Exit->Act->World->Prop}
  (hQ:∀ g' w',Rel (fun b=>n0 b \/ b = w.heap.size \/ b = w.heap.size + 1) N (H rows.length) g' a w'->LtK (fun b=>n0 b \/ b = w.heap.size \/ b = w.heap.size + 1) w'->Bk n0 w0 w'->w'.heap[w.heap.size]? = some (.deferred (some [])) →
   (g'.A0,g'.R0) = ((fun b=>g.A0 b /\ b ≠ w.heap.size /\ b ≠ w.heap.size + 1),g.R0)->Q .normal { a with defers:=[{ target:=.collected w.heap.size,args:=#[] }] } w') :
  (Code.rangeFunc (.tmp t) #[p1,p2] asg bd).wpIn (FR none) m P Q a w:=by
 obtain ⟨n1,hn1⟩ : ∃ n1:Nat->Prop,n1 = fun b=>n0 b \/ b = w.heap.size \/ b = w.heap.size + 1:=⟨_,rfl⟩
 obtain ⟨A1,hA1⟩ : ∃ A1:(Nat->Prop) × RP,A1 = ((fun b=>g.A0 b /\ b ≠ w.heap.size /\ b ≠ w.heap.size + 1),g.R0):=⟨_,rfl⟩
 rw [<-hn1,<-hA1] at hQ
 have hD1:n1 w.heap.size:=by rw [hn1]; exact Or.inr (Or.inl rfl)
 have hl1:n1 (w.heap.size + 1):=by rw [hn1]; exact Or.inr (Or.inr rfl)
 have hsub:∀ b,n0 b->n1 b:=fun b h=>by rw [hn1]; exact Or.inl h
 have hl0:¬ n0 (w.heap.size + 1):=hn.new (by omega)
 have hAl:∀ g':Gh,(g'.A0,g'.R0) = A1->¬ g'.A0 (w.heap.size + 1):=fun g' h k=>by rw [hA1] at h; rw [(Kt h).1] at k; exact k.2.2 rfl
 have hv0:a.tmps.getD t undef = .func (.func F1) #[] ⟨[.pointer (some ⟨g.β id,0,none⟩)]⟩:=by
  have:=hR.slot_at ht
  rw [(hslot 0).1] at this
  exact this.1
 have hβ:∀ {k g' W},Rel n1 N (H k) g' a W->g'.β id = g.β id:=fun {k g' W} h=>by
  have h1:=h.slot_at ht
  rw [(hslot k).1] at h1
  have h2:=h1.1
  rw [hv0] at h2
  simp only [Qi,Qy,Value.func.injEq,Array.mk.injEq,J4,Value.pointer.injEq,Qc,Addr.mk.injEq,and_true,true_and] at h2
  exact h2.symm
 refine wpIn_rangeFunc ?_
 intro fn hfn
 obtain ⟨rec,hrec⟩ : ∃ rec:LoopState->Loop,rec = fun st=>{ state:=st,pending:=none,fn,tmps:=a.tmps,params:=#[p1,p2],assign:=asg,body:=bd,defers:=w.heap.size }:=⟨_,rfl⟩
 obtain ⟨W1,hW1⟩ : ∃ W1,(w.alloc (.deferred (some []))).alloc (.loop (rec .ready)) = W1:=⟨_,rfl⟩
 have hL1:W1.heap[w.heap.size + 1]? = some (.loop (rec .ready)):=by
  rw [<-hW1]; have:=World.alloc_heap_new (w.alloc (.deferred (some []))) (.loop (rec .ready)); rwa [World.size_alloc] at this
 have hK1:W1.heap[w.heap.size]? = some (.deferred (some [])):=by
  rw [<-hW1]; exact (Below.heap_alloc _ _ _ (by simp)).trans (World.alloc_heap_new w _)
 have hR1:Rel n1 N (H 0) { g with A0:=fun b=>g.A0 b /\ b ≠ w.heap.size /\ b ≠ w.heap.size + 1 } a W1:=by rw [<-hW1,hn1]; exact hR.enter _ _
 have hb1:Bk n0 w0 W1:=by rw [<-hW1]; exact (hb.trans (Bk.of_alloc hn _)).trans (Bk.of_alloc (hn.mono (by simp)) _)
 have hz1:LtK n1 W1:=by
  rw [<-hW1,hn1]
  rintro k (h | rfl | rfl)
  ·have:=hn k h; simp; omega
  ·simp; omega
  ·simp
 have hg:a.eval (.tmp t) = .func (.func F1) #[] #[.pointer (some ⟨g.β id,0,none⟩)]:=hv0
 refine ⟨w.heap.size + 1,[{ target:=.collected w.heap.size,args:=#[] }],W1,{ target:=.fn (.func F1) #[.pointer (some ⟨g.β id,0,none⟩)],args:=#[.func (.yield (w.heap.size + 1)) #[] #[]] },W1,F1,
  #[.func (.yield (w.heap.size + 1)) #[] #[]] ++ #[.pointer (some ⟨g.β id,0,none⟩)],W1,?_,?_,fun _ _=>trivial,?_,(fun h=>by cases h),?_⟩
 ·rw [<-hW1,hrec]; exact run_enterLoop_outer _ _ _ _ _
 ·simp only [resolve,hg]
  simp [go_sem]
 ·have hc':∀ (args:Array Value) (w:World),(callFunc F1 args).run P w = .ok (.enter F1 args) w:=hc
  simp [invoke,go_sem,hc']
 ·have hgA:∀ {g':Gh},(g'.A0,g'.R0) = A1->g'.R0 = g.R0:=fun {g'} h=>by rw [hA1] at h; exact (Kt h).2
  obtain ⟨J,hJ⟩ : ∃ J:Nat->World->Prop,J = fun k W=>(∃ gk,Rel n1 N (H k) gk a W /\ (gk.A0,gk.R0) = A1) /\ LtK n1 W /\ Bk n0 w0 W /\ W.heap[w.heap.size + 1]? = some (.loop (rec .ready)) /\ W.heap[w.heap.size]? = some (.deferred (some [])):=⟨_,rfl⟩
  have hmax:rows.length <= zf3:=by obtain ⟨_,_,_,h,_⟩:=zv8 hR1 (hslot 0).2; exact h
  refine CallsIn.mono (zhg.2 (zhg.1 (hB (w.heap.size + 1) (g.β id) rows.length W1 J hmax ?_ ?_ ?_))) ?_
  ·rintro W h
   rw [hJ] at h
   obtain ⟨⟨gk,k1,k2⟩,_⟩:=h
   obtain ⟨ao,cap,h1,_⟩:=zv8 k1 (hslot 0).2
   rw [hβ k1] at h1
   exact ⟨ao,cap,h1⟩
  ·rintro k W h hk
   rw [hJ] at h
   obtain ⟨⟨gk,k1,k2⟩,k3,k4,k5,k6⟩:=h
   obtain ⟨ao,cap,h1,_,h2⟩:=zv8 k1 (hslot k).2
   rw [hβ k1] at h1
   obtain ⟨b,o,rfl,h3⟩:=h2.resolve_left (fun e=>by rw [e] at hk; simp at hk)
   have hi:rows.length - 1 - k < rows.length:=by omega
   obtain ⟨h4,h5⟩:=h3.at (rows.length - 1 - k) rows[rows.length - 1 - k] (by simp [hi])
   obtain ⟨vs,h6,h7⟩:=h5.valsN
   refine ⟨b,o,cap,vs,h1,by rw [h6.len]; exact h4,h7,?_⟩
   have hy:=run_yield (P:=P) (args:=#[.int .i64 ((rows.length - 1 - k:Nat):Int),agv ag vs]) k5 (by rw [hrec]; rfl)
   rw [hrec] at hy
   refine ⟨fn,_,asg,bd,hy,roundIn_of_wpIn hfn ?_⟩
   clear hy
   have hda':a.defers = []:=k1.defers
   have hex:=hround k hk
   rw [show rows.getD (rows.length - 1 - k) [] = rows[rows.length - 1 - k] by simp [hi]] at hex
   have q1:Rel n1 N (((H k).put (some p1) (.one (.t (.int .i64 ((rows.length - 1 - k:Nat):Int))))).put (some p2) (qmf ag rows[rows.length - 1 - k])) gk ((a.put (some p1) (.int .i64 ((rows.length - 1 - k:Nat):Int))).put (some p2) (agv ag vs)) W:=by
    refine (k1.put (some p1) (v:=.int .i64 ((rows.length - 1 - k:Nat):Int)) ?_ (fun i e=>by cases e; exact hp1)).put (some p2) ?_ (fun i e=>by cases e; exact hp2)
    ·show zar _ _ _ _
     unfold zar
     have m1:IntKind.min .i64 = -9223372036854775808:=by decide
     have m2:IntKind.max .i64 = 9223372036854775807:=by decide
     unfold zf3 at hmax
     exact ⟨rfl,by omega,by omega⟩
    ·exact (Mv.of_eq gk W rfl rfl).vr (qnd (hag.imp (fun h=>h) fun h=>by rw [h4,h]) h6)
   have q2:Ag (fun i=>i ∈ p1 :: p2 :: (zev asg ++ zev bd)) a ((a.put (some p1) (.int .i64 ((rows.length - 1 - k:Nat):Int))).put (some p2) (agv ag vs)) :=
    ((Ag.refl _ a).put (fun i e=>by cases e; simp) _).put (fun i e=>by cases e; simp) _
   have ef:(#[p1,p2].zip #[.int .i64 ((rows.length - 1 - k:Nat):Int),agv ag vs]).foldl (fun (tmps:Array Value) (x:Nat × Value)=>match x with | (t,v)=>tmps.setIfInBounds t v) a.tmps = ((a.put (some p1) (.int .i64 ((rows.length - 1 - k:Nat):Int))).put (some p2) (agv ag vs)).tmps:=by simp [Act.put]
   show asg.wpIn (FR (some (w.heap.size + 1))) 5 P _ { tmps:=(#[p1,p2].zip #[.int .i64 ((rows.length - 1 - k:Nat):Int),agv ag vs]).foldl (fun (tmps:Array Value) (x:Nat × Value)=>match x with | (t,v)=>tmps.setIfInBounds t v) a.tmps,defers:=[] } W
   rw [ef]
   refine wpIn_mono (zcu (r:=some (w.heap.size + 1)) (n:=5) (ds:=[]) (D:=fun i=>i ∈ p1 :: p2 :: (zev asg ++ zev bd)) (a0:=a) asg _ _ hpa hda (fun d hd=>by simp [hd]) hex gk _ W q1 k3 (Bk.refl n1 W) k2 q2) ?_
   rintro e a2 W2 ⟨a1,rfl,q3,σ2,g2,⟨rfl,hex2⟩,q4,q5,q6,q7⟩
   have r1:W2.heap[w.heap.size + 1]? = some (.loop (rec .ready)):=(q6.block _ hl1).trans k5
   refine ⟨_,run_beginRound r1 (by rw [hrec]),?_⟩
   have q4':=q4.putObj hl1 (hAl g2 q7) (.loop { rec .ready with state:=.busy })
   have q5':LtK n1 (W2.putObj (w.heap.size + 1) (.loop { rec .ready with state:=.busy })):=fun b hb=>by have:=q5 b hb; simpa using this
   refine wpIn_mono (zcu (r:=some (w.heap.size + 1)) (n:=5) (ds:=[]) (D:=fun i=>i ∈ p1 :: p2 :: (zev asg ++ zev bd)) (a0:=a) bd _ _ hpb hdb (fun d hd=>by simp [hd]) hex2 g2 _ _ q4' q5' (Bk.refl n1 _) q7 q3) ?_
   rintro e a3 W3 ⟨a4,rfl,s3,σ3,g3,⟨rfl,hwk⟩,s4,s5,s6,s7⟩
   have r2:W3.heap[w.heap.size + 1]? = some (.loop { rec .ready with state:=.busy }):=(s6.block _ hl1).trans (World.putObj_heap_same (Array.getElem?_eq_some_iff.1 r1).1)
   have r3:=run_endRound (P:=P) none r2
   obtain ⟨g4,t1,t2,t3⟩:=hwk _ _ _ _ _ s4
   have hA4:(g4.A0,g4.R0) = A1:=by rw [t2,t3]; exact s7
   have t4:Rel n1 N (H (k + 1)) g4 a W3:=t1.frame s3 hda' k1.size (hany (k + 1))
   refine ⟨_,_,r3,rfl,?_⟩
   rw [hJ]
   refine ⟨⟨g4,t4.putObj hl1 (hAl g4 hA4) _,hA4⟩,fun b hb=>by have:=s5 b hb; simpa using this,?_,by rw [World.putObj_heap_same (Array.getElem?_eq_some_iff.1 r2).1,hrec]; rfl,?_⟩
   ·exact (((k4.trans (q6.mono hsub)).trans (Bk.putObj _ hl0 _)).trans (s6.mono hsub)).trans (Bk.putObj _ hl0 _)
   ·rw [World.putObj_heap_other (by omega),s6.block _ hD1,World.putObj_heap_other (by omega),q6.block _ hD1]; exact k6
  ·rw [hJ]
   exact ⟨⟨_,hR1,hA1.symm⟩,hz1,hb1,hL1,hK1⟩
  ·rintro e W2 ⟨⟨v,rfl⟩,h⟩
   rw [hJ] at h
   obtain ⟨⟨gk,k1,k2⟩,k3,k4,k5,k6⟩:=h
   refine ⟨none,_,by have:=run_endLoop (P:=P) k5 (by rw [hrec]; simp); rw [hrec] at this; exact this,?_⟩
   have hda':a.defers = []:=k1.defers
   show Q .normal { a with defers:=[{ target:=.collected w.heap.size,args:=#[] }] ++ a.defers } _
   rw [hda',Kd]
   exact hQ gk _ (k1.putObj hl1 (hAl gk k2) _) (fun b hb=>by have:=k3 b hb; simpa using this) (k4.trans (Bk.putObj _ hl0 _)) ((World.putObj_heap_other (by omega)).trans k6) k2
end
section
set_option maxRecDepth 4000
open Go.RowKit
variable {P:Program}
def ze9:Code->Option (Code × (Operand × Array Tmp × Code × Code) × Code)
 | .rangeFunc g ps asg bd=>some (.skip,(g,ps,asg,bd),.skip)
 | .block _ b=>match b with
  | .rangeFunc g ps asg bd=>some (.skip,(g,ps,asg,bd),.skip)
  | _=>none
 | .seq x y=>match ze9 x with
  | some (p,r,q)=>some (p,r,.seq q y)
  | none=>match ze9 y with
   | some (p,r,q)=>some (.seq x p,r,q)
   | none=>none
 | _=>none
def zzq (P:Program) (N:Nat) (g:Operand) (ps:Array Tmp) (asg bd q:Code) (Q:Exit->St->Prop) (σ:St):Prop :=
 ∃ (F1:FuncId) (ag:Bool) (sz t p1 p2 id:Nat) (H:Nat->St) (rows:List (List T)),g = .tmp t /\ ps = #[p1,p2] /\ zwy P F1 ag sz /\ za7 P F1 /\ (p1 < N /\ p2 < N /\ t < 1000000) /\ (ag = true \/ sz = 1) ∧
  (∀ k,(H k).sl t = .one (.fn F1 [id]) /\ (H k).bx id = some [.rn (.sl sz rows)]) /\ (∀ k,∀ i ∈ p1 :: p2 :: (zev asg ++ zev bd),(H k).sl i = .one .any) ∧
  (∀ k,k < rows.length->zhv P asg (((H k).put (some p1) (.one (.t (.int .i64 ((rows.length - 1 - k:Nat):Int))))).put (some p2) (qmf ag (rows.getD (rows.length - 1 - k) []))) fun e σ2=>e = .normal /\ zhv P bd σ2 fun e σ3=>e = .normal /\ Wk σ3 (H (k + 1))) ∧
  Wk σ (H 0) /\ zhv P q (H rows.length) Q
def qiq (n0:Nat->Prop) (N:Nat) (w0:World) (A0:(Nat->Prop) × RP) (Q:Exit->St->Prop) (e:Exit) (a:Act) (w:World):Prop :=
 ∃ (D:Nat) (n1:Nat->Prop) (a1:Act) (σ:St) (g:Gh),a = { a1 with defers:=[{ target:=.collected D,args:=#[] }] } /\ Q e σ /\ Rel n1 N σ g a1 w /\ LtK n1 w /\ Bk n0 w0 w /\ w.heap[D]? = some (.deferred (some [])) /\ n1 D /\ ¬ n0 D /\ (∀ b,n0 b->n1 b) /\ ¬ g.A0 D /\ (∀ b,g.A0 b->A0.1 b) /\ g.R0 = A0.2
theorem qac {n0:Nat->Prop} {N n:Nat} {w0:World} {A0:(Nat->Prop) × RP} {Q:Exit->St->Prop} {y:Code} (hp:zcp y = true) (hd:zbv N y = true) {a:Act} {w:World} (h:qiq n0 N w0 A0 (fun _ σ=>zhv P y σ Q) .normal a w) :
  y.wpIn (FR none) n P (qiq n0 N w0 A0 Q) a w:=by
 obtain ⟨D,n1,a1,σ,g,rfl,h1,h2,h3,h4,h5,h6,h7,h8,h9,h10,h11⟩:=h
 refine wpIn_mono (zcu (r:=none) (n:=n) (ds:=[{ target:=.collected D,args:=#[] }]) (D:=fun _=>True) (a0:=a1) (A0:=(g.A0,g.R0)) y σ Q hp hd (fun _ _=>trivial) h1 g a1 w h2 h3 (Bk.refl n1 w) rfl (Ag.refl _ _)) ?_
 rintro e a' w' ⟨a2,rfl,_,σ',g',k1,k2,k3,k4,k5⟩
 have e1:g'.A0 = g.A0:=(Kt k5).1
 have e2:g'.R0 = g.R0:=(Kt k5).2
 exact ⟨D,n1,a2,σ',g',rfl,k1,k2,k3,h4.trans (k4.mono h8),(k4.block D h6).trans h5,h6,h7,h8,by rw [e1]; exact h9,by rw [e1]; exact h10,by rw [e2]; exact h11⟩
theorem zvi {N n:Nat} {n0:Nat->Prop} {w0:World} {A0:(Nat->Prop) × RP}:∀ {c p q:Code} {g:Operand} {ps:Array Tmp} {asg bd:Code} {Q1 Q2:Exit->St->Prop} {Q:Exit->Act->World->Prop},ze9 c = some (p,(g,ps,asg,bd),q) →
  zbv N p = true->zbv N q = true->zcp q = true->(zcp asg = true /\ zcp bd = true /\ zbv N asg = true /\ zbv N bd = true)->(∀ σ,Q1 .normal σ->zzq P N g ps asg bd q Q2 σ) →
  (∀ e a w,e ≠ .normal->qlr n0 N w0 A0 Q1 e a w->Q e a w)->(∀ e a w,qiq n0 N w0 A0 Q2 e a w->Q e a w) →
  ∀ {σ:St} {gh:Gh} {a:Act} {w:World},zhv P p σ Q1->Rel n0 N σ gh a w->LtK n0 w->Bk n0 w0 w->(gh.A0,gh.R0) = A0->c.wpIn (FR none) n P Q a w:=by
 intro c
 have loop:∀ {g:Operand} {ps:Array Tmp} {asg bd:Code} {Q1 Q2:Exit->St->Prop} {Q:Exit->Act->World->Prop},(zcp asg = true /\ zcp bd = true /\ zbv N asg = true /\ zbv N bd = true)->(∀ σ,Q1 .normal σ->zzq P N g ps asg bd .skip Q2 σ) →
   (∀ a w,qiq n0 N w0 A0 Q2 .normal a w->Q .normal a w)->∀ {σ:St} {gh:Gh} {a:Act} {w:World},zhv P .skip σ Q1->Rel n0 N σ gh a w->LtK n0 w->Bk n0 w0 w->(gh.A0,gh.R0) = A0->(Code.rangeFunc g ps asg bd).wpIn (FR none) n P Q a w:=by
  intro g ps asg bd Q1 Q2 Q ha hL hq σ gh a w hex hR hn hb hA
  obtain ⟨F1,ag,sz,t,p1,p2,id,H,rows,rfl,rfl,h1,h2,h3,h4,h5,h6,h7,h8,h9⟩:=hL σ hex
  obtain ⟨g1,k1,k2,k3⟩:=h8 _ _ _ _ _ hR
  refine zrk h1 h2 ha.1 ha.2.1 ha.2.2.1 ha.2.2.2 h3.1 h3.2.1 h3.2.2 H rows h4 h5 h6 h7 k1 hn hb fun g' w' q1 q2 q3 q4 q5=>hq _ _ ?_
  refine ⟨w.heap.size,_,a,H rows.length,g',rfl,h9,q1,q2,q3,q4,Or.inr (Or.inl rfl),hn.new (Qw _),fun b hb=>Or.inl hb,?_,?_,?_⟩
  ·rw [(Kt q5).1]; exact fun h=>h.2.1 rfl
  ·rw [(Kt q5).1,<-hA]; intro b hb; rw [k2] at hb; exact hb.1
  ·rw [(Kt q5).2,<-hA]; exact k3
 induction c with
 | rangeFunc g ps asg bd _ _ =>
  intro p q g' ps' asg' bd' Q1 Q2 Q h hdp hdq hpq ha hL hx hq σ gh a w hex hR hn hb hA
  simp only [ze9,Qc,Qq] at h
  obtain ⟨rfl,⟨rfl,rfl,rfl,rfl⟩,rfl⟩:=h
  exact loop ha hL (fun a w=>hq .normal a w) hex hR hn hb hA
 | block i b _ =>
  intro p q g' ps' asg' bd' Q1 Q2 Q h hdp hdq hpq ha hL hx hq σ gh a w hex hR hn hb hA
  cases b with
  | rangeFunc g ps asg bd =>
   simp only [ze9,Qc,Qq] at h
   obtain ⟨rfl,⟨rfl,rfl,rfl,rfl⟩,rfl⟩:=h
   exact wpIn_block (loop (Q:=Exit.inBlock i Q) ha hL (fun a w k=>hq .normal a w k) hex hR hn hb hA)
  | _=>simp [ze9] at h
 | seq x y ihx ihy =>
  intro p q g' ps' asg' bd' Q1 Q2 Q h hdp hdq hpq ha hL hx hq σ gh a w hex hR hn hb hA
  unfold ze9 at h
  split at h
  ·rename_i p1 r1 q1 hs
   simp only [Qc,Qq] at h
   obtain ⟨rfl,rfl,rfl⟩:=h
   simp only [zbv,zcp,Qa] at hdq hpq
   refine wpIn_seq (ihx (Q1:=Q1) (Q2:=fun e σ=>match e with | .normal=>zhv P y σ Q2 | e=>Q2 e σ) hs hdp hdq.1 hpq.1 ha hL (fun e a w he k=>?_) (fun e a w k=>?_) hex hR hn hb hA)
   ·have:=hx e a w he k
    cases e <;> first | exact absurd rfl he | exact this
   ·cases e with
    | normal=>exact wpIn_mono (qac hpq.2 hdq.2 k) hq
    | exit i=>exact hq _ _ _ k
    | goto l=>exact hq _ _ _ k
    | ret=>exact hq _ _ _ k
    | panic ch=>exact hq _ _ _ k
    | outgrown=>exact hq _ _ _ k
  ·split at h
   ·rename_i p1 r1 q1 hs
    simp only [Qc,Qq] at h
    obtain ⟨rfl,rfl,rfl⟩:=h
    simp only [zbv,Qa] at hdp
    refine wpIn_seq (wpIn_mono (Q:=qlr n0 N w0 A0 _) ((wpIn_wide (n:=n)).2 (zbs x σ _ hdp.1 hex gh a w hR hn hb hA)) fun e a' w' k=>?_)
    cases e with
    | normal =>
     obtain ⟨σ',g',h1,h2,h3,h4,h5⟩:=k
     exact ihy hs hdp.2 hdq hpq ha hL hx hq h1 h2 h3 h4 h5
    | exit i=>exact hx _ _ _ (by simp) k
    | goto l=>exact hx _ _ _ (by simp) k
    | ret=>exact hx _ _ _ (by simp) k
    | panic ch=>exact hx _ _ _ (by simp) k
    | outgrown=>exact hx _ _ _ (by simp) k
   ·cases h
 | _=>intro p q g' ps' asg' bd' Q1 Q2 Q h; simp [ze9] at h
theorem qlz {n0:Nat->Prop} {N:Nat} {σ:St} {g:Gh} {a:Act} {w:World} {fp:List Nat} {sz:Nat} (hR:Rel n0 N σ g a w) (hr:g.R0 = RP.of fun b=>b ∈ fp \/ sz <= b) (fn:Func) {res:List D} (hk:zat (zb4 P σ fn.results.toList) (fun vs=>zyk σ [] vs res) \/ PX P fn.results.toList res σ) :
  ∃ v,(results fn a.tmps).run P w = .ok v w /\ ∃ us fp' tp',Ending.returned v = .returned (zb5 us) /\ GDs w res us fp' tp' /\ fp'.Nodup /\ ∀ b ∈ fp',b ∈ fp \/ sz <= b:=by
 have fin:∀ {us:List Value} {v:Value},(results fn a.tmps).run P w = .ok v w->v = zb5 us->(∃ fp' tp',GDs w res us fp' tp' /\ fp'.Nodup /\ ∀ b ∈ fp',∃ e,σ.On e /\ b ∈ g.φ e)->∃ v,(results fn a.tmps).run P w = .ok v w /\ ∃ us fp' tp',Ending.returned v = .returned (zb5 us) /\ GDs w res us fp' tp' /\ fp'.Nodup /\ ∀ b ∈ fp',b ∈ fp \/ sz <= b:=fun {us v} r1 rv ⟨fp',tp',o1,o2,o3⟩=>by
  refine ⟨_,r1,us,fp',tp',by rw [rv],o1,o2,fun b hb=>?_⟩
  obtain ⟨e,l,m⟩:=o3 b hb
  have:=(hR.ebase e l b m).2
  rw [hr] at this
  exact this
 rcases hk with hk | ⟨pl,hk⟩
 ·obtain ⟨vs,hvs,hk⟩:=zaq hk
  obtain ⟨us,r1,r2⟩:=zb3 hR fn hvs
  obtain ⟨used,fp',tp',o1,o2⟩:=zdq hR hk r2
  exact fin r1 rfl ⟨fp',tp',o1,o2.1,fun b hb=>by obtain ⟨e,_,_,l,m⟩:=o2.2.1 b hb; exact ⟨e,l,m⟩⟩
 ·obtain ⟨vs,hvs,hk⟩:=zaq hk
  obtain ⟨us,r1,r2⟩:=zb3 hR fn hvs
  exact fin r1 rfl (qd8 hR hk r2)
theorem FC_ofB {f:FuncId} {fn:Func} {c p q asg bd:Code} {g:Operand} {ps:Array Tmp} {args res:List D} (hc:za7 P f) (hf:P.funcs[f]? = some fn) (hb:fn.body = some c) (hs:ze9 c = some (p,(g,ps,asg,bd),q))
  (hd:(zbv fn.ntmps p && zbv fn.ntmps q && zcp q && (zcp asg && zcp bd && zbv fn.ntmps asg && zbv fn.ntmps bd)) = true) (hN:(rd args).length <= fn.ntmps)
  (h:ex P p [] (fun e σ=>match e with | .normal=>zzq P fn.ntmps g ps asg bd q (PS P fn.results.toList res) σ | .ret=>PS P fn.results.toList res .ret σ | _=>False) (zi1 args)):FC P f args res:=by
 refine ⟨hc,fun w vs fp tp hv hn=>?_⟩
 refine (zhg (r:=none) (n:=0)).1 (callsIn_of_wp_marks hf hb trivial ?_)
 obtain ⟨hr,rfl,rfl⟩:=zc8 hv
 have hv':zau w (fun b=>b < w.heap.size /\ True /\ b ∉ ([]:List Nat)) (rd args) vs [] []:=zau.keepA (fun b hb=>⟨hb.1,trivial,hb.2⟩) hv
 obtain ⟨gh,hg,hR⟩:=Rel.start (A0:=fun _=>True) (R0:=RP.of fun b=>b ∈ ([]:List Nat) \/ w.heap.size <= b) (N:=fn.ntmps) hv' hn (zcx args) hN (fun _ _=>trivial) (fun b hb=>⟨trivial,Or.inl hb⟩) (fun b hb=>⟨trivial,by
  by_cases hlt:b < w.heap.size
  ·exact Or.inl (Classical.byContradiction fun h=>hb ⟨hlt,h⟩)
  ·exact Or.inr (by omega)⟩)
 have hR0:Rel (fun b=>b < w.heap.size /\ b ∉ ([]:List Nat)) fn.ntmps (zi1 args) gh { tmps:=(⟨vs⟩:Array Value) ++ Array.replicate (fn.ntmps - vs.length) undef,defers:=[] } w:=zmh hr hR ⟨rfl,hg⟩
 simp only [Qa] at hd
 obtain ⟨⟨⟨d1,d2⟩,d3⟩,⟨d4,d5⟩,d6⟩:=hd
 refine zvi (n:=0) (w0:=w) hs d1 d2 d3 ⟨d4.1,d4.2,d5,d6⟩ (fun σ h=>h) ?_ ?_ h hR0 (fun k hk=>hk.1) (Bk.refl _ _) hg
 ·rintro e a' w' he ⟨σ',g',h1,h2,h3,h4,h5⟩
  cases e with
  | normal=>exact absurd rfl he
  | ret =>
   have hr0:g'.R0 = RP.of fun b=>b ∈ ([]:List Nat) \/ w.heap.size <= b:=(Kt h5).2
   obtain ⟨v,r1,us,fp',tp',r2,r3,r4,r5⟩:=qlz h2 hr0 fn h1
   show LeavesInM _ _ _ _ _ _ a'.defers .returning w'
   rw [h2.defers]
   exact ⟨v,r1,us,fp',tp',r2,r3,r4,r5,h4⟩
  | exit _=>exact h1.elim
  | goto _=>exact h1.elim
  | panic _=>exact h1.elim
  | outgrown=>exact h1.elim
 ·rintro e a' w' ⟨D,n1,a1,σ,g',rfl,h1,h2,h3,h4,h5,h6,h7,h8,h9,h10,h11⟩
  have hk:(e = .normal \/ e = .ret) /\ (zat (zb4 P σ fn.results.toList) (fun vs=>zyk σ [] vs res) \/ PX P fn.results.toList res σ):=by
   cases e with
   | normal=>exact ⟨Or.inl rfl,h1⟩
   | ret=>exact ⟨Or.inr rfl,h1⟩
   | exit _=>exact h1.elim
   | goto _=>exact h1.elim
   | panic _=>exact h1.elim
   | outgrown=>exact h1.elim
  have q1:=(h2.putObj h6 h9 (.deferred none)).leave (n0:=fun b=>b < w.heap.size /\ b ∉ ([]:List Nat)) (A1:=fun _=>True) h8 (fun _ _=>trivial) (fun b hb=>⟨trivial,by
   rw [h11]
   by_cases hlt:b < w.heap.size
   ·exact absurd ⟨hlt,by simp⟩ hb
   ·exact Or.inr (by omega)⟩)
  obtain ⟨v,r1,us,fp',tp',r2,r3,r4,r5⟩:=qlz q1 h11 fn hk.2
  have main:LeavesInM (FR none) 0 P fn a1.tmps (fun e w'=>∃ us fp' tp',e = .returned (zb5 us) /\ GDs w' res us fp' tp' /\ fp'.Nodup /\ (∀ b ∈ fp',b ∈ ([]:List Nat) \/ w.heap.size <= b) /\ Bk (fun k=>k < w.heap.size /\ k ∉ ([]:List Nat)) w w') [{ target:=.collected D,args:=#[] }] .returning w' :=
   ⟨by simp,Or.inl ⟨D,_,rfl,run_takeDeferred h5,⟨v,r1,us,fp',tp',r2,r3,r4,r5,h4.trans (Bk.putObj _ h7 _)⟩⟩⟩
  rcases hk.1 with rfl | rfl <;> exact main
end
section
set_option maxRecDepth 4000
open Go.RowKit
variable {P:Program}
def qbs (P:Program) (f f1:FuncId):Prop:=za7 P f /\ ∀ (a:Option Addr) (len cap:Nat) (w:World),Calls P f #[.slice a len cap] w fun e w'=>∃ ty,e = .returned (.func (.func f1) #[] #[.pointer (some ⟨w.heap.size,0,none⟩)]) /\ w' = w.alloc (.cells #[.slice a len cap] ty)
def St.callB (σ:St) (d:Nat) (f1:FuncId) (c:C):St:={ sl:=upd σ.sl d (.one (.fn f1 [d])),bx:=upd σ.bx d (some [c]),ev:=σ.ev }
theorem qcj {o:Oper} {σ:St} {x:Operand} {asg:Array Operand} {ts:Array TypeId} {f f1:FuncId} {d:Nat} {sz:Nat} {rows:List (List T)} (ho:o.op = .call ⟨.value x,asg,ts⟩) (hd:o.dst = some d)
  (h:qbs P f f1) (hc:zaw (σ.get P 0 x) = some (f,[])) (hv:σ.gets P asg ts = [.one (.rn (.sl sz rows))]) (hb:σ.bx d = none):zah P o σ (σ.callB d f1 (.rn (.sl sz rows))):=by
 intro n0 N g a w hR hn hdN
 obtain ⟨vs,h1,h2⟩:=zdf hR ho hc h.1
 rw [hv] at h2
 obtain ⟨v,vs',rfl,k1,k2⟩:=h2
 obtain rfl:vs' = []:=k2
 have k0:CR σ g w (.rn (.sl sz rows)) v:=k1
 simp only [VR,CR] at k1
 unfold zar at k1
 obtain ⟨ao,cap,rfl,_⟩:=k1
 unfold Oper.wp
 rw [h1]
 refine (h.2 ao rows.length cap w).mono ?_
 rintro e w' ⟨ty,rfl,rfl⟩
 refine ⟨{ g with β:=upd g.β d w.heap.size },?_,Bk.of_alloc hn _,rfl,rfl⟩
 have:=(hR.newbox hn hb (cs:=[.rn (.sl sz rows)]) (vs:=[.slice ao rows.length cap]) ⟨_,_,rfl,k0,rfl⟩ ty).put (some d) (x:=.one (.fn f1 [d])) (v:=.func (.func f1) #[] #[.pointer (some ⟨w.heap.size,0,none⟩)]) ⟨by simp [upd],by simp [upd]⟩ (fun i hi=>by cases hi; exact hdN d hd)
 rw [hd]
 exact this
section
variable {ks:List Fr} {Q:Exit->St->Prop} {σ:St} {ops:Array Oper} {os:List Oper} {ty:TypeId} {ps:String} {af:Array Edge}
theorem callB {d:Nat} {x:Operand} {asg:Array Operand} {ts:Array TypeId} {f f1:FuncId} {sz:Nat} {rows:List (List T)} (h:qbs P f f1) (hp:zaw (σ.get P 0 x) = some (f,[]) /\ σ.gets P asg ts = [.one (.rn (.sl sz rows))] /\ σ.bx d = none)
  (k:exo P ops os ks Q (σ.callB d f1 (.rn (.sl sz rows)))):exo P ops (⟨some d,.call ⟨.value x,asg,ts⟩,ty,ps,af,none⟩ :: os) ks Q σ :=
 zc6 rfl rfl (qcj rfl rfl h hp.1 hp.2.1 hp.2.2) k
end
theorem owK_rn (t:T) (A B:Prop):owK (.one (.rn t)) A B = B:=by simp [owK,isOw]
attribute [go_sem] St.callB owK_rn
end
section
set_option maxRecDepth 4000
open Go.RowKit
variable {P:Program}
mutual
def GrT (w:World):T->T->List Nat->Prop
 | .vs a l c,y,ex=>zaz w y (.slice a l c) ex
 | .sl sz rows,y,ex=>∃ rows',y = .sl sz rows' /\ zcz w rows rows' ex
 | x,y,ex=>y = x /\ ex = []
def zcz (w:World):List (List T)->List (List T)->List Nat->Prop
 | [],ys,ex=>ys = [] /\ ex = []
 | r :: rs,ys,ex=>∃ r' rs' e1 e2,ys = r' :: rs' /\ ex = e1 ++ e2 /\ zmr w r r' e1 /\ zcz w rs rs' e2
def zmr (w:World):List T->List T->List Nat->Prop
 | [],ys,ex=>ys = [] /\ ex = []
 | c :: cs,ys,ex=>∃ c' cs' e1 e2,ys = c' :: cs' /\ ex = e1 ++ e2 /\ GrT w c c' e1 /\ zmr w cs cs' e2
end
theorem zcz.len {w:World}:∀ {rs ys:List (List T)} {ex:List Nat},zcz w rs ys ex->ys.length = rs.length
 | [],ys,ex,h=>by unfold zcz at h; rw [h.1]
 | r :: rs,ys,ex,h=>by
  unfold zcz at h
  obtain ⟨r',rs',e1,e2,rfl,_,_,h2⟩:=h
  simp [h2.len]
theorem zmr.len {w:World}:∀ {rs ys:List T} {ex:List Nat},zmr w rs ys ex->ys.length = rs.length
 | [],ys,ex,h=>by unfold zmr at h; rw [h.1]
 | r :: rs,ys,ex,h=>by
  unfold zmr at h
  obtain ⟨r',rs',e1,e2,rfl,_,_,h2⟩:=h
  simp [h2.len]
theorem qoj {f1 f2 e1 e2 g1 g2:List Nat} (h:g1.Perm (f1 ++ e1)) (k:g2.Perm (f2 ++ e2)):(g1 ++ g2).Perm ((f1 ++ f2) ++ (e1 ++ e2)):=by
 refine (h.append k).trans ?_
 rw [Kh,Kh]
 refine List.Perm.append_left f1 ?_
 rw [<-Kh,<-Kh]
 exact List.Perm.append_right e2 List.perm_append_comm
mutual
theorem GrT.own {w:World}:∀ (x y:T) (v:Value) (fp ex:List Nat),zaz w x v fp->GrT w x y ex->∃ fp',zaz w y v fp' /\ fp'.Perm (fp ++ ex)
 | .vs a l c,y,v,fp,ex,h,hg=>by
  unfold GrT at hg
  unfold zaz at h
  obtain ⟨rfl,rfl⟩:=h
  exact ⟨ex,hg,List.Perm.refl _⟩
 | .sl sz rows,y,v,fp,ex,h,hg=>by
  unfold GrT at hg
  obtain ⟨rows',rfl,hg⟩:=hg
  unfold zaz at h
  obtain ⟨ao,cap,h1,h2,h3,h4⟩:=h
  rcases h4 with ⟨rfl,rfl,rfl,rfl⟩ | ⟨b,cells,ty,fps,h4,rfl,h6,h7,h8⟩
  ·unfold zcz at hg
   obtain ⟨rfl,rfl⟩:=hg
   exact ⟨[],by unfold zaz; exact ⟨none,0,h1,h2,h3,Or.inl ⟨rfl,rfl,rfl,rfl⟩⟩,List.Perm.refl _⟩
  ·obtain ⟨fps',k1,k2⟩:=zcz.own cells 0 sz rows rows' fps ex h8 hg
   refine ⟨b :: fps',?_,List.Perm.cons b k2⟩
   unfold zaz
   exact ⟨ao,cap,by rw [hg.len]; exact h1,by rw [hg.len]; exact h2,h3,Or.inr ⟨b,cells,ty,fps',h4,rfl,h6,h7,k1⟩⟩
 | .int _ _,y,v,fp,ex,h,hg=>by unfold GrT at hg; obtain ⟨rfl,rfl⟩:=hg; exact ⟨fp,h,by simp⟩
 | .bool _,y,v,fp,ex,h,hg=>by unfold GrT at hg; obtain ⟨rfl,rfl⟩:=hg; exact ⟨fp,h,by simp⟩
 | .str _,y,v,fp,ex,h,hg=>by unfold GrT at hg; obtain ⟨rfl,rfl⟩:=hg; exact ⟨fp,h,by simp⟩
 | .ptr _,y,v,fp,ex,h,hg=>by unfold GrT at hg; obtain ⟨rfl,rfl⟩:=hg; exact ⟨fp,h,by simp⟩
 | .fn _ _,y,v,fp,ex,h,hg=>by unfold GrT at hg; obtain ⟨rfl,rfl⟩:=hg; exact ⟨fp,h,by simp⟩
 | .mp _ _,y,v,fp,ex,h,hg=>by unfold GrT at hg; obtain ⟨rfl,rfl⟩:=hg; exact ⟨fp,h,by simp⟩
 | .pin _ _,y,v,fp,ex,h,hg=>by unfold GrT at hg; obtain ⟨rfl,rfl⟩:=hg; exact ⟨fp,h,by simp⟩
theorem zcz.own {w:World} (cells:Array Value):∀ (o sz:Nat) (rs ys:List (List T)) (fps ex:List Nat),zak w cells o sz rs fps->zcz w rs ys ex->∃ fps',zak w cells o sz ys fps' /\ fps'.Perm (fps ++ ex)
 | _,_,[],ys,fps,ex,h,hg=>by unfold zcz at hg; obtain ⟨rfl,rfl⟩:=hg; exact ⟨fps,h,by simp⟩
 | o,sz,r :: rs,ys,fps,ex,h,hg=>by
  unfold zcz at hg
  obtain ⟨r',rs',e1,e2,rfl,rfl,g1,g2⟩:=hg
  unfold zak at h
  obtain ⟨h1,f1,f2,rfl,h2,h3⟩:=h
  obtain ⟨f1',k1,k2⟩:=zmr.own cells o r r' f1 e1 h2 g1
  obtain ⟨f2',l1,l2⟩:=zcz.own cells (o + sz) sz rs rs' f2 e2 h3 g2
  refine ⟨f1' ++ f2',?_,qoj k2 l2⟩
  unfold zak
  exact ⟨by rw [g1.len]; exact h1,f1',f2',rfl,k1,l1⟩
theorem zmr.own {w:World} (cells:Array Value):∀ (o:Nat) (cs ys:List T) (fps ex:List Nat),zbe w cells o cs fps->zmr w cs ys ex->∃ fps',zbe w cells o ys fps' /\ fps'.Perm (fps ++ ex)
 | _,[],ys,fps,ex,h,hg=>by unfold zmr at hg; obtain ⟨rfl,rfl⟩:=hg; exact ⟨fps,h,by simp⟩
 | o,c :: cs,ys,fps,ex,h,hg=>by
  unfold zmr at hg
  obtain ⟨c',cs',e1,e2,rfl,rfl,g1,g2⟩:=hg
  unfold zbe at h
  obtain ⟨v,f1,f2,h1,rfl,h2,h3⟩:=h
  obtain ⟨f1',k1,k2⟩:=GrT.own c c' v f1 e1 h2 g1
  obtain ⟨f2',l1,l2⟩:=zmr.own cells (o + 1) cs cs' f2 e2 h3 g2
  refine ⟨f1' ++ f2',?_,qoj k2 l2⟩
  unfold zbe
  exact ⟨v,f1',f2',h1,rfl,k1,l1⟩
end
theorem zmr.ownG {w:World}:∀ (cs ys:List T) (vs:List Value) (fp ex tp:List Nat),zwr w cs vs fp tp->zmr w cs ys ex->∃ fp' tp',zwr w ys vs fp' tp' /\ fp'.Perm (fp ++ ex)
 | [],ys,vs,fp,ex,tp,h,hg=>by unfold zmr at hg; obtain ⟨rfl,rfl⟩:=hg; exact ⟨fp,tp,h,by simp⟩
 | c :: cs,ys,vs,fp,ex,tp,h,hg=>by
  unfold zmr at hg
  obtain ⟨c',cs',e1,e2,rfl,rfl,g1,g2⟩:=hg
  obtain ⟨v,vs',f1,f2,t2,rfl,rfl,rfl,h2,h3⟩:=h
  obtain ⟨f1',k1,k2⟩:=GrT.own c c' v f1 e1 h2 g1
  obtain ⟨f2',t2',l1,l2⟩:=zmr.ownG cs cs' vs' f2 e2 t2 h3 g2
  exact ⟨f1' ++ f2',zkj c' f1' ++ t2',⟨v,vs',f1',f2',t2',rfl,rfl,rfl,k1,l1⟩,qoj k2 l2⟩
def GrD (w:World):D->D->List Nat->Prop
 | .one x,.one y,ex=>GrT w x y ex
 | .agg xs,.agg ys,ex=>zmr w xs ys ex
 | _,_,_=>False
theorem GrD.own {w:World} {x y:D} {v:Value} {fp ex tp:List Nat} (h:GD w x v fp tp) (hg:GrD w x y ex) : ∃ fp' tp',GD w y v fp' tp' /\ fp'.Perm (fp ++ ex):=by
 cases x with
 | one x =>
  cases y with
  | one y=>obtain ⟨fp',h1,h2⟩:=GrT.own x y v fp ex h.1 hg; exact ⟨fp',_,⟨h1,rfl⟩,h2⟩
  | agg _=>exact hg.elim
 | agg xs =>
  cases y with
  | one _=>exact hg.elim
  | agg ys=>obtain ⟨a,rfl,h⟩:=h; obtain ⟨fp',tp',h1,h2⟩:=zmr.ownG xs ys a fp ex tp h hg; exact ⟨fp',tp',⟨a,rfl,h1⟩,h2⟩
theorem zu4 {f:FuncId} {args:List (Bool × D)} {y:D} (hc:za7 P f)
  (h:∀ (w:World) (vs:List Value) (fp tp:List Nat),zau w (fun b=>b < w.heap.size /\ b ∉ fp) args vs fp tp->fp.Nodup->∃ (args':List D) (x:D) (ex:List Nat),FC P f args' [x] /\ zbr w (fun b=>b < w.heap.size) args' vs ∧
   ex.Nodup /\ (∀ b ∈ ex,b ∈ fp /\ b < w.heap.size) /\ ∀ w':World,(∀ b ∈ ex,w'.heap[b]? = w.heap[b]?)->GrD w' x y ex):GC P f args [y]:=by
 refine ⟨hc,fun w vs fp tp hv hn=>?_⟩
 obtain ⟨args',x,ex,hf,hr,hen,hlt,hg⟩:=h w vs fp tp hv hn
 have ha:zau w (fun b=>b < w.heap.size /\ b ∉ ([]:List Nat)) (rd args') vs [] []:=by
  clear hf hg hv
  induction args' generalizing vs with
  | nil=>exact ⟨hr,rfl,rfl⟩
  | cons d ds ih =>
   obtain ⟨v,vs',rfl,h1,h2⟩:=hr
   refine ⟨v,vs',rfl,?_,ih _ h2⟩
   have:zbr w (fun b=>b < w.heap.size /\ b ∉ ([]:List Nat)) [d] [v]:=zbr.keep (fun _ _=>rfl) (fun b hb=>⟨hb,by simp⟩) (⟨v,[],rfl,h1,rfl⟩:zbr w (fun b=>b < w.heap.size) [d] [v])
   obtain ⟨_,_,e,h3,_⟩:=this
   cases e; exact h3
 refine (hf.2 w vs [] [] ha Km).mono ?_
 rintro e w' ⟨us,fp',tp',rfl,k1,k2,k3,k4⟩
 obtain ⟨u,us',f1,f2,t1,t2,rfl,rfl,rfl,k5,k6⟩:=k1
 obtain ⟨rfl,rfl,rfl⟩:=k6
 obtain ⟨fp'',tp'',l1,l2⟩:=GrD.own k5 (hg w' fun b hb=>k4.block b ⟨(hlt b hb).2,by simp⟩)
 have hnew:∀ b ∈ f1,w.heap.size <= b:=fun b hb=>by simpa using k3 b (by simpa using hb)
 refine ⟨[u],fp'',tp'',rfl,⟨u,[],fp'',[],tp'',[],rfl,by simp,by simp,l1,rfl,rfl,rfl⟩,?_,fun b hb=>?_,⟨k4.os,k4.tape,k4.output,k4.size,fun k hk=>k4.block k ⟨hk.1,by simp⟩⟩⟩
 ·refine l2.nodup_iff.2 (Q8.2 ⟨by simpa using k2,hen,fun a ha b hb e=>?_⟩)
  subst e
  have:=hnew a ha; have:=(hlt a hb).2; omega
 ·rcases Qt.1 (l2.mem_iff.1 hb) with hb | hb
  ·exact Or.inr (hnew b hb)
  ·exact Or.inl (hlt b hb).1
def qfy (f:Nat->V):List Nat->Prop
 | []=>True
 | i :: is=>f i = .one .any /\ qfy f is
theorem znz {f:Nat->V}:∀ {l:List Nat},qfy f l->∀ i ∈ l,f i = .one .any
 | [],_,i,hi=>by simp at hi
 | j :: l,h,i,hi=>by
  rcases Qu.1 hi with rfl | hi
  ·exact h.1
  ·exact znz h.2 i hi
def RdB (P:Program) (bd:Code) (σ':St) (e:Exit) (σ:St):Prop:=match e with
 | .normal=>ex P bd [] (fun e σ=>match e with | .normal=>Wk σ σ' | _=>False) σ
 | _=>False
theorem loopB {N t p1 p2:Nat} {asg bd q:Code} {Q:Exit->St->Prop} {σ:St} {F1:FuncId} {ag:Bool} {sz:Nat} (hB:zwy P F1 ag sz) (hc:za7 P F1) (id:Nat) (H:Nat->St) (rows:List (List T)) (h1:(decide (p1 < N) && decide (p2 < N) && decide (t < 1000000)) = true) (h2:(ag || sz == 1) = true)
  (h3:∀ k,(H k).sl t = .one (.fn F1 [id]) /\ (H k).bx id = some [.rn (.sl sz rows)]) (h4:∀ k,qfy (H k).sl (p1 :: p2 :: (zev asg ++ zev bd))) (h6:Wk σ (H 0))
  (h5:∀ k,k < rows.length->ex P asg [] (RdB P bd (H (k + 1))) (((H k).put (some p1) (.one (.t (.int .i64 ((rows.length - 1 - k:Nat):Int))))).put (some p2) (qmf ag (rows.getD (rows.length - 1 - k) []))))
  (h7:ex P q [] Q (H rows.length)):zzq P N (.tmp t) #[p1,p2] asg bd q Q σ:=by
 simp only [Qa,Qg,Ji,Ki] at h1 h2
 refine ⟨F1,ag,sz,t,p1,p2,id,H,rows,rfl,rfl,hB,hc,⟨h1.1.1,h1.1.2,h1.2⟩,h2,h3,fun k=>znz (h4 k),fun k hk=>?_,h6,h7⟩
 refine zcw (fun e σ2 h=>?_) (h5 k hk)
 cases e with
 | normal =>
  refine ⟨rfl,zcw (fun e σ3 h=>?_) h⟩
  cases e with
  | normal=>exact ⟨rfl,h⟩
  | exit _=>exact (show False from h).elim
  | goto _=>exact (show False from h).elim
  | ret=>exact (show False from h).elim
  | panic _=>exact (show False from h).elim
  | outgrown=>exact (show False from h).elim
 | exit _=>exact (show False from h).elim
 | goto _=>exact (show False from h).elim
 | ret=>exact (show False from h).elim
 | panic _=>exact (show False from h).elim
 | outgrown=>exact (show False from h).elim
def HdB (P:Program) (fn:Func) (res:List D) (g:Operand) (ps:Array Tmp) (asg bd q:Code) (e:Exit) (σ:St):Prop:=match e with
 | .normal=>zzq P fn.ntmps g ps asg bd q (PS P fn.results.toList res) σ
 | .ret=>PS P fn.results.toList res .ret σ
 | _=>False
theorem qa9 (fn:Func) (res:List D) (g:Operand) (ps:Array Tmp) (asg bd q:Code) (σ:St):HdB P fn res g ps asg bd q .normal σ = zzq P fn.ntmps g ps asg bd q (PS P fn.results.toList res) σ:=rfl
theorem qof (fn:Func) (res:List D) (g:Operand) (ps:Array Tmp) (asg bd q:Code) (σ:St):HdB P fn res g ps asg bd q .ret σ = PS P fn.results.toList res .ret σ:=rfl
theorem zzn (bd:Code) (σ' σ:St):RdB P bd σ' .normal σ = ex P bd [] (fun e σ=>match e with | .normal=>Wk σ σ' | _=>False) σ:=rfl
theorem qg2 {f:FuncId} {fn:Func} {c p q asg bd:Code} {g:Operand} {ps:Array Tmp} {args res:List D} (hc:za7 P f) (hf:P.funcs[f]? = some fn) (hb:fn.body = some c) (hs:ze9 c = some (p,(g,ps,asg,bd),q))
  (hd:(zbv fn.ntmps p && zbv fn.ntmps q && zcp q && (zcp asg && zcp bd && zbv fn.ntmps asg && zbv fn.ntmps bd)) = true) (hN:(rd args).length <= fn.ntmps)
  (h:ex P p [] (HdB P fn res g ps asg bd q) (zi1 args)):FC P f args res :=
 FC_ofB hc hf hb hs hd hN (zcw (fun e σ h=>by cases e <;> exact h) h)
attribute [go_sem] qa9 qof zzn
end
section
set_option maxRecDepth 4000
open Go.RowKit
variable {P:Program}
def swp (a b e:Nat):Nat:=if e = a then b else if e = b then a else e
theorem zd3 (a b e:Nat):swp a b (swp a b e) = e:=by unfold swp; split <;> (try split) <;> (try split) <;> omega
def C.ren (a b:Nat):C->C
 | .ow e g=>.ow (swp a b e) g
 | .eo e g sz i o=>.eo (swp a b e) g sz i o
 | c=>c
def V.ren (a b:Nat):V->V
 | .one c=>.one (c.ren a b)
 | .agg cs=>.agg (cs.map (C.ren a b))
 | .tup xs=>.tup (xs.map fun x=>(x.1,x.2.map (C.ren a b)))
def St.ren (σ:St) (a b:Nat):St:=⟨fun i=>(σ.sl i).ren a b,fun k=>(σ.bx k).map (·.map (C.ren a b)),fun e=>σ.ev (swp a b e)⟩
def Gh.ren (g:Gh) (a b:Nat):Gh:={ g with ψ:=fun e=>g.ψ (swp a b e),φ:=fun e=>g.φ (swp a b e) }
theorem zkt {σ:St} {a b k:Nat}:(σ.ren a b).bx k ≠ none ↔ σ.bx k ≠ none:=by unfold St.ren; simp
theorem qdd {σ:St} {a b e n:Nat} (h:σ.has e n):(σ.ren a b).has (swp a b e) n:=by
 obtain ⟨x,h1,h2⟩:=h
 exact ⟨x,by show σ.ev (swp a b (swp a b e)) = _; rw [zd3]; exact h1,h2⟩
theorem zwc {σ:St} {g:Gh} {w:World} {a b:Nat}:Fix (σ.ren a b) (g.ren a b) w = Fix σ g w:=by
 funext q
 refine propext ⟨fun h=>⟨fun k hk=>h.1 k (zkt.2 hk),fun e x he ho=>?_,h.2.2⟩,fun h=>⟨fun k hk=>h.1 k (zkt.1 hk),fun e x he ho=>h.2.1 (swp a b e) x he ho,h.2.2⟩⟩
 have:=h.2.1 (swp a b e) x (by show σ.ev (swp a b (swp a b e)) = _; rw [zd3]; exact he) ho
 have e2:(g.ren a b).φ (swp a b e) = g.φ e:=by show g.φ (swp a b (swp a b e)) = _; rw [zd3]
 rwa [e2] at this
theorem qem {σ:St} {g:Gh} {w:World} {a b:Nat}:zcj (σ.ren a b) (g.ren a b) w = zcj σ g w:=by
 funext q
 unfold zcj
 rw [zwc]
 refine propext ⟨fun h=>⟨h.1,fun e ho hm=>h.2 (swp a b e) ?_ ?_⟩,fun h=>⟨h.1,fun e ho hm=>h.2 (swp a b e) ho hm⟩⟩
 ·show σ.On (swp a b (swp a b e)); rw [zd3]; exact ho
 ·show q ∈ g.φ (swp a b (swp a b e)); rw [zd3]; exact hm
theorem qdl {σ:St} {g:Gh} {w:World} {a b:Nat} {c:C} {v:Value} (h:CR σ g w c v):CR (σ.ren a b) (g.ren a b) w (c.ren a b) v:=by
 have hF:=zwc (σ:=σ) (g:=g) (w:=w) (a:=a) (b:=b)
 have hψ:∀ e,(g.ren a b).ψ (swp a b e) = g.ψ e:=fun e=>by show g.ψ (swp a b (swp a b e)) = _; rw [zd3]
 cases c with
 | t x=>show zar _ _ _ _; rw [hF]; exact h
 | nl s=>exact h
 | ow e n=>exact ⟨by show v = (g.ren a b).ψ (swp a b e) n; rw [hψ]; exact h.1,qdd h.2⟩
 | bx q o=>exact ⟨h.1,zkt.2 h.2⟩
 | el cs o=>obtain ⟨q,r,h1,h2,h3⟩:=h; exact ⟨q,r,h1,by rw [hF]; exact h2,by rw [hF]; exact h3⟩
 | eo e s sz i o=>obtain ⟨q,n,c,h1,h2,h3,h4⟩:=h; exact ⟨q,n,c,by rw [hψ]; exact h1,h2,h3,qdd h4⟩
 | fn f caps=>exact ⟨h.1,fun q hq=>zkt.2 (h.2 q hq)⟩
 | cv u=>exact h
 | any=>trivial
 | rn x=>show zar _ _ _ _; rw [qem]; exact h
 | er cs o=>obtain ⟨q,r,h1,h2,h3⟩:=h; exact ⟨q,r,h1,by rw [qem]; exact h2,by rw [qem]; exact h3⟩
theorem zpw {σ:St} {g:Gh} {w:World} {a b:Nat}:∀ {cs:List C} {vs:List Value},CRs σ g w cs vs->CRs (σ.ren a b) (g.ren a b) w (cs.map (C.ren a b)) vs
 | [],_,h=>h
 | c :: cs,_,h=>by obtain ⟨v,vs',rfl,h1,h2⟩:=h; exact ⟨v,vs',rfl,qdl h1,zpw h2⟩
theorem qb9 {σ:St} {g:Gh} {w:World} {a b:Nat}:∀ {xs:List (Bool × List C)} {vs:List Value},CRt σ g w xs vs->CRt (σ.ren a b) (g.ren a b) w (xs.map fun x=>(x.1,x.2.map (C.ren a b))) vs
 | [],_,h=>h
 | x :: xs,_,h=>by
  obtain ⟨v,vs',rfl,h1,h2⟩:=h
  refine ⟨v,vs',rfl,?_,qb9 h2⟩
  unfold CRx at h1 ⊢
  split at h1
  ·rw [if_pos ‹_›]; obtain ⟨q,h3,h4⟩:=h1; exact ⟨q,h3,zpw h4⟩
  ·rw [if_neg ‹_›]; obtain ⟨c,h3,h4⟩:=h1; exact ⟨c.ren a b,by simp [h3],qdl h4⟩
theorem vr_ren {σ:St} {g:Gh} {w:World} {a b:Nat} {x:V} {v:Value} (h:VR σ g w x v):VR (σ.ren a b) (g.ren a b) w (x.ren a b) v:=by
 cases x with
 | one c=>exact qdl h
 | agg cs=>obtain ⟨q,h1,h2⟩:=h; exact ⟨q,h1,zpw h2⟩
 | tup xs=>obtain ⟨q,h1,h2⟩:=h; exact ⟨q,h1,qb9 h2⟩
theorem znt {σ:St} {a b e:Nat} (h:(σ.ren a b).On e):σ.On (swp a b e):=h
theorem Rel.ren {n0:Nat->Prop} {N:Nat} {σ:St} {g:Gh} {ac:Act} {w:World} (h:Rel n0 N σ g ac w) (a b:Nat):Rel n0 N (σ.ren a b) (g.ren a b) ac w:=by
 have hF:=zwc (σ:=σ) (g:=g) (w:=w) (a:=a) (b:=b)
 refine ⟨h.defers,h.size,h.anew,fun i=>vr_ren (h.slots i),fun k cs hk=>?_,fun k hk=>h.base k (zkt.1 hk),fun k k' h1 h2=>h.inj k k' (zkt.1 h1) (zkt.1 h2),fun e x he ho=>?_,fun e x he ho=>?_,fun e n=>h.slc (swp a b e) n,fun e he=>h.ebase _ (znt he),fun e he=>h.etop _ (znt he),fun e he=>h.nodup _ (znt he),fun e e' he he' hne=>h.apart _ _ (znt he) (znt he') (fun k=>hne (by rw [<-zd3 a b e,k,zd3])),fun e k he hk=>h.ebx _ k (znt he) (zkt.1 hk)⟩
 ·obtain ⟨cs0,h1,rfl⟩:=Qz.1 hk
  obtain ⟨vs,ty,k1,k2⟩:=h.boxes k cs0 h1
  exact ⟨vs,ty,k1,zpw k2⟩
 ·rw [hF]; exact h.evs (swp a b e) x he ho
 ·rw [hF]; exact h.offs (swp a b e) x he ho
theorem zw4 (a b:Nat):∀ (l:List (Nat × V)) (i:Nat),(zhr l i).ren a b = zhr (l.map fun p=>(p.1,p.2.ren a b)) i
 | [],i=>rfl
 | (j,v) :: l,i=>by
  simp only [Qi,zhr]
  split
  ·rfl
  ·exact zw4 a b l i
theorem qfe {α β:Type} (f:α->β):∀ (l:List (Nat × α)) (i:Nat),(tbl l i).map f = tbl (l.map fun p=>(p.1,f p.2)) i
 | [],i=>rfl
 | (j,v) :: l,i=>by
  simp only [Qi,tbl]
  split
  ·rfl
  ·exact qfe f l i
theorem qen {α:Type} (a b:Nat):∀ (l:List (Nat × α)) (i:Nat),tbl l (swp a b i) = tbl (l.map fun p=>(swp a b p.1,p.2)) i
 | [],i=>rfl
 | (j,v) :: l,i=>by
  simp only [Qi,tbl]
  by_cases h:swp a b i = j
  ·rw [if_pos h,if_pos (by rw [<-h,zd3])]
  ·rw [if_neg h,if_neg (fun e=>h (by rw [e,zd3]))]
   exact qen a b l i
theorem zs3 (a b:Nat) (l:List (Nat × V)) (bl:List (Nat × List C)) (el:List (Nat × Ev)):Wk (hd l bl el) (hd (l.map fun p=>(p.1,p.2.ren a b)) (bl.map fun p=>(p.1,p.2.map (C.ren a b))) (el.map fun p=>(swp a b p.1,p.2))):=fun n0 N g ac w hR=>by
 have e:(hd l bl el).ren a b = hd (l.map fun p=>(p.1,p.2.ren a b)) (bl.map fun p=>(p.1,p.2.map (C.ren a b))) (el.map fun p=>(swp a b p.1,p.2)):=by
  unfold hd St.ren
  simp only [St.mk.injEq]
  exact ⟨funext fun i=>zw4 a b l i,funext fun k=>qfe _ bl k,funext fun e=>qen a b el e⟩
 exact ⟨g.ren a b,e ▸ hR.ren a b,rfl,rfl⟩
end
section
set_option maxRecDepth 4000
open Go.RowKit
variable {P:Program}
def C.evs:C->List Nat
 | .ow e _=>[e]
 | .eo e _ _ _ _=>[e]
 | _=>[]
def C.bxs:C->List Nat
 | .bx b _=>[b]
 | .fn _ caps=>caps
 | _=>[]
def V.alls:V->List C
 | .one c=>[c]
 | .agg cs=>cs
 | .tup xs=>xs.flatMap (·.2)
def ins (x:Nat):List Nat->List Nat
 | []=>[x]
 | y :: l=>if x = y then y :: l else y :: ins x l
def zn7:List Nat->List Nat->List Nat
 | [],l=>l
 | x :: xs,l=>zn7 xs (ins x l)
def noK (x:Nat):List Nat->Bool
 | []=>true
 | y :: l=>if x = y then false else noK x l
def dif (l:List Nat):List Nat->List Nat
 | []=>[]
 | x :: xs=>if noK x l = true then x :: dif l xs else dif l xs
def qjj:List C->List Nat
 | []=>[]
 | c :: cs=>c.bxs ++ qjj cs
def qj2:List C->List Nat
 | []=>[]
 | c :: cs=>c.evs ++ qj2 cs
def St.kb0 (σ:St):List Nat->List Nat
 | []=>[]
 | i :: L=>zn7 (qjj (σ.sl i).alls) (σ.kb0 L)
def St.kb1 (σ:St):List Nat->List Nat
 | []=>[]
 | b :: B=>zn7 (b :: qjj ((σ.bx b).getD [])) (σ.kb1 B)
def St.KB (σ:St) (L:List Nat):List Nat:=σ.kb1 (σ.kb0 L)
def St.ke0 (σ:St):List Nat->List Nat
 | []=>[]
 | i :: L=>zn7 (qj2 (σ.sl i).alls) (σ.ke0 L)
def St.ke1 (σ:St) (l:List Nat):List Nat->List Nat
 | []=>l
 | b :: B=>zn7 (qj2 ((σ.bx b).getD [])) (σ.ke1 l B)
def St.KE (σ:St) (L:List Nat):List Nat:=σ.ke1 (σ.ke0 L) (σ.KB L)
def St.lL (σ:St) (L:List Nat):List (Nat × V):=L.map fun i=>(i,σ.sl i)
def St.lB (σ:St) (B:List Nat):List (Nat × List C):=B.map fun b=>(b,(σ.bx b).getD [])
def St.lE (σ:St) (E:List Nat):List (Nat × Ev):=E.map fun e=>(e,(σ.ev e).getD ⟨false,0,[],0,false⟩)
def St.hL (σ:St) (L:List Nat):St:=hd (σ.lL L) (σ.lB (σ.KB L)) (σ.lE (σ.KE L))
def wkK (σ:St) (L:List Nat):Prop:=wkL σ (σ.hL L) (σ.lL L) /\ wkB σ (σ.hL L) (σ.lB (σ.KB L)) /\ wkE σ (σ.lE (σ.KE L))
theorem wkK_wk {σ:St} {L:List Nat} (h:wkK σ L):Wk σ (σ.hL L):=zac h
section
variable {ks:List Fr} {Q:Exit->St->Prop} {σ:St} {ops:Array Oper} {os:List Oper} {ty:TypeId} {ps:String} {af:Array Edge} {dst:Option Nat} {x:Operand} {asx:Array Operand} {ts:Array TypeId} {f:FuncId}
theorem zjv {pre:List D} {d:D} {post:List D} {d':D} {res:List D} (L:List Nat) (h:IC P f pre d post d' res) (hw:wkK σ L)
  (hd1:((σ.lL L).all fun p=>p.2.mOk) = true) (hd2:((σ.lB (σ.KB L)).all fun p=>p.2.all C.mOk) = true) (hd3:((σ.lE (σ.KE L)).all fun p=>p.2.on && p.2.deep) = true)
  (hp:zat (zaw ((σ.hL L).get P 0 x)) fun p=>p.1 = f /\ spI ((σ.hL L).gets P asx ts ++ p.2) pre.length fun p1 gv p2=>zu8 p1 pre /\ zu8 p2 post /\ inG (σ.hL L) gv d d') (hr:res.all D.fl = true)
  (k:exo P ops os ks Q ((σ.hL L).cI P x asx ts pre.length dst d' res)):exo P ops (⟨dst,.call ⟨.value x,asx,ts⟩,ty,ps,af,none⟩ :: os) ks Q σ :=
 zxt h hw hd1 hd2 hd3 hp hr k
theorem zc7 {d:Nat} {ds:List (Bool × D)} {res:List D} (L A:List Nat) (pl:List (Nat × Nat × Nat)) (h:GC P f ds res)
  (hw:wkL σ (hd (σ.lL A ++ σ.lL L) (σ.lB (dif (σ.KB L) (σ.KB A)) ++ σ.lB (σ.KB L)) (σ.lE (dif (σ.KE L) (σ.KE A)) ++ σ.lE (σ.KE L))) (σ.lL A ++ σ.lL L) /\ wkB σ (hd (σ.lL A ++ σ.lL L) (σ.lB (dif (σ.KB L) (σ.KB A)) ++ σ.lB (σ.KB L)) (σ.lE (dif (σ.KE L) (σ.KE A)) ++ σ.lE (σ.KE L))) (σ.lB (dif (σ.KB L) (σ.KB A)) ++ σ.lB (σ.KB L)) /\ wkE σ (σ.lE (dif (σ.KE L) (σ.KE A)) ++ σ.lE (σ.KE L)))
  (hk:zd6 (σ.lL L) (σ.lL A) /\ zd6 (σ.lB (σ.KB L)) (σ.lB (dif (σ.KB L) (σ.KB A))) /\ zd6 (σ.lE (σ.KE L)) (σ.lE (dif (σ.KE L) (σ.KE A))) /\ okL (σ.hL L) (σ.lL L) /\ okB (σ.hL L) (σ.lB (σ.KB L)) /\ okE (σ.lE (σ.KE L)))
  (hp:zat (zaw ((hd (σ.lL A ++ σ.lL L) (σ.lB (dif (σ.KB L) (σ.KB A)) ++ σ.lB (σ.KB L)) (σ.lE (dif (σ.KE L) (σ.KE A)) ++ σ.lE (σ.KE L))).get P 0 x)) fun p=>p.1 = f /\ gvA (hd (σ.lL A ++ σ.lL L) (σ.lB (dif (σ.KB L) (σ.KB A)) ++ σ.lB (σ.KB L)) (σ.lE (dif (σ.KE L) (σ.KE A)) ++ σ.lE (σ.KE L))) (zre (σ.lE (σ.KE L))) [] pl ((hd (σ.lL A ++ σ.lL L) (σ.lB (dif (σ.KB L) (σ.KB A)) ++ σ.lB (σ.KB L)) (σ.lE (dif (σ.KE L) (σ.KE A)) ++ σ.lE (σ.KE L))).gets P asx ts ++ p.2) ds)
  (hf:zj7 d 0 (zbd res) (σ.hL L).ev) (k:exo P ops os ks Q ((σ.hL L).callF d res)):exo P ops (⟨some d,.call ⟨.value x,asx,ts⟩,ty,ps,af,none⟩ :: os) ks Q σ :=
 callG (σ.lL A) (σ.lL L) _ _ _ _ pl h hw hk hp hf k
theorem qn0 {σ:St} {g:Gh} {w:World} {d:D} {v:Value} (h:qa3 w (zcj σ g w) d v):VR σ g w d.toN v:=zr5 (fun _ h=>h) h
theorem zbr.vrlN {σ:St} {g:Gh} {w:World}:∀ {ds:List D} {us:List Value},zbr w (zcj σ g w) ds us->VRl σ g w (ds.map D.toN) us
 | [],us,h=>h
 | d :: ds,us,h=>by
  obtain ⟨u,us',rfl,h1,h2⟩:=h
  exact ⟨u,us',rfl,qn0 h1,zbr.vrlN h2⟩
theorem ze7.rep {w:World} {A:Nat->Prop}:∀ {ds:List D} {us:List Value} {fp:List Nat},ze7 w ds us fp->(∀ b ∈ fp,A b)->zbr w A ds us
 | [],us,fp,h,_=>h.1
 | .one t :: ds,us,fp,h,hA=>by
  obtain ⟨v,vs',f1,f2,rfl,rfl,h1,h2⟩:=h
  exact ⟨v,vs',rfl,zaz.rep t v f1 h1 fun b hb=>hA b (by simp [hb]),ze7.rep h2 fun b hb=>hA b (by simp [hb])⟩
 | .agg ts :: ds,us,fp,h,hA=>by
  obtain ⟨v,vs',f1,f2,rfl,rfl,⟨y,rfl,h1⟩,h2⟩:=h
  exact ⟨_,vs',rfl,⟨y,rfl,h1.rep fun b hb=>hA b (by simp [hb])⟩,ze7.rep h2 fun b hb=>hA b (by simp [hb])⟩
theorem za2.lt {w:World}:∀ {cs:List T} {vs:List Value} {fps:List Nat},za2 w cs vs fps->∀ b ∈ fps,b < w.heap.size
 | [],_,_,h,b,hb=>by rw [h.2] at hb; simp at hb
 | c :: cs,_,_,h,b,hb=>by
  obtain ⟨v,vs',f1,f2,rfl,rfl,h1,h2⟩:=h
  rcases Qt.1 hb with hb | hb
  ·exact zaz.lt c v f1 h1 b hb
  ·exact za2.lt h2 b hb
theorem ze7.ltD {w:World}:∀ {ds:List D} {us:List Value} {fp:List Nat},ze7 w ds us fp->∀ b ∈ fp,b < w.heap.size
 | [],us,fp,h,b,hb=>by rw [h.2] at hb; simp at hb
 | .one t :: ds,us,fp,h,b,hb=>by
  obtain ⟨v,vs',f1,f2,rfl,rfl,h1,h2⟩:=h
  rcases Qt.1 hb with hb | hb
  ·exact zaz.lt t v f1 h1 b hb
  ·exact ze7.ltD h2 b hb
 | .agg ts :: ds,us,fp,h,b,hb=>by
  obtain ⟨v,vs',f1,f2,rfl,rfl,⟨y,rfl,h1⟩,h2⟩:=h
  rcases Qt.1 hb with hb | hb
  ·exact za2.lt h1 b hb
  ·exact ze7.ltD h2 b hb
theorem Rel.frNew {n0:Nat->Prop} {N:Nat} {σ:St} {g:Gh} {a:Act} {w w':World} (hR:Rel n0 N σ g a w) (hn:LtK n0 w) {b:Nat} (h1:w.heap.size <= b) (h2:b < w'.heap.size):zcj σ g w' b:=by
 refine ⟨⟨fun k hk e=>by have:=hR.lt hk; omega,fun e x hx ho hh=>?_,h2,(hR.anew b (hn.new h1)).1⟩,fun e ⟨x,hx,ho⟩ hm=>?_⟩
 ·have:=(hR.evs e x hx ho).lt b (List.mem_of_mem_head? hh); omega
 ·have:=(hR.evs e x hx ho).lt b hm; omega
def St.callN (σ:St) (d:Option Nat) (res:List D):St:=σ.put d (zm4 (res.map D.toN))
theorem qn6 (res:List D):∀ y ∈ res.map D.toN,y.isTup = false:=fun y hy=>by
 obtain ⟨d,_,rfl⟩:=Kf.1 hy
 cases d <;> rfl
theorem qao {o:Oper} {x:Operand} {asx:Array Operand} {ts:Array TypeId} {f:FuncId} {cvs:List V} {ds res:List D} (ho:o.op = .call ⟨.value x,asx,ts⟩)
  (h:FC P f ds res) (hc:zaw (σ.get P 0 x) = some (f,cvs)) (hv:VDs σ (σ.gets P asx ts ++ cvs) ds):zah P o σ (σ.callN o.dst res):=by
 intro n0 N g a w hR hn hdN
 obtain ⟨vs,h1,h2⟩:=zdf hR ho hc h.1
 unfold Oper.wp
 rw [h1]
 refine (h.use (VDs.rep hR hv h2)).mono ?_
 rintro e w' ⟨us,fp,rfl,o1,o2,o3,hb⟩
 have hR':Rel n0 N σ g a w':=hR.after hn hb (New.refl σ g (w.heap.size <= ·) w' hR.slc)
 refine ⟨g,?_,Bk.of_below hb hn,rfl,rfl⟩
 exact hR'.put o.dst (ze6 (zbr.vrlN (o1.rep fun b hb'=>hR.frNew hn (o3 b hb') (o1.ltD b hb'))) (qn6 res)) hdN
theorem zjf {ds res:List D} (h:FC P f ds res) (hp:zat (zaw (σ.get P 0 x)) fun p=>p.1 = f /\ VDs σ (σ.gets P asx ts ++ p.2) ds)
  (k:exo P ops os ks Q (σ.callN dst res)):exo P ops (⟨dst,.call ⟨.value x,asx,ts⟩,ty,ps,af,none⟩ :: os) ks Q σ:=by
 obtain ⟨⟨f',cvs⟩,h1,rfl,h2⟩:=zaq hp
 exact zc6 rfl rfl (qao rfl h h1 h2) k
theorem qmn {g:Gh} {w:World} {c:C} {t:T} {v:Value} (h:rdC c t) (hv:CR σ g w c v):zar w (zcj σ g w) t v:=by
 unfold rdC at h
 split at h
 ·rename_i x
  obtain ⟨rfl,hn⟩:=h
  exact zlo (σ:=σ) (g:=g) (x:=.one (.t x)) (d:=.one x) ⟨rfl,hn⟩ hv _
 ·rename_i f f'
  subst h
  exact zlo (σ:=σ) (g:=g) (x:=.one (.fn f [])) (d:=.one (.fn f [])) rfl hv _
 ·subst h; exact hv
 ·obtain ⟨rfl,rfl⟩:=h
  obtain ⟨b,q,h1,h2,h3⟩:=hv
  unfold zar
  exact ⟨b,q,h1,h2,h3⟩
 ·subst h
  rw [show v = .slice none 0 0 from hv]
  unfold zar
  exact ⟨none,0,rfl,by simp,by simp,Or.inl rfl⟩
 ·exact h.elim
theorem qej {g:Gh} {w:World}:∀ {cs:List C} {ts:List T} {vs:List Value},rdCs cs ts->CRs σ g w cs vs->zaf w (zcj σ g w) ts vs
 | [],[],vs,_,hv=>by unfold zaf; exact hv
 | [],_ :: _,_,h,_=>h.elim
 | _ :: _,[],_,h,_=>h.elim
 | c :: cs,t :: ts,vs,h,hv=>by
  obtain ⟨v,vs',rfl,h1,h2⟩:=hv
  unfold zaf
  exact ⟨v,vs',rfl,qmn h.1 h1,qej h.2 h2⟩
theorem qm3 {g:Gh} {w:World} {x:V} {d:D} {v:Value} (h:rdV x d) (hv:VR σ g w x v):qa3 w (zcj σ g w) d v:=by
 unfold rdV at h
 split at h
 ·exact qmn h hv
 ·obtain ⟨b,e,hv⟩:=hv; exact ⟨b,e,qej h hv⟩
 ·exact h.elim
end
def gVN (k:Nat):Bool × D->V
 | (false,d)=>d.toN
 | (true,d)=>gV k (true,d)
def ziq:Nat->List (Bool × D)->Nat->V
 | _,[]=>fun _=>.one .any
 | k,d :: ds=>upd (ziq (k + 1) ds) k (gVN k d)
def zd7 (args:List (Bool × D)):St:=⟨ziq 0 args,fun _=>none,zh9 0 args⟩
theorem zm3:∀ (ds:List (Bool × D)) (k i:Nat),ziq k ds (k + i) = match ds[i]? with | some d=>gVN (k + i) d | none=>.one .any
 | [],k,i=>by simp [ziq]
 | d :: ds,k,0=>by simp [ziq,upd]
 | d :: ds,k,i + 1=>by
  unfold ziq
  rw [zam _ _ (by omega),show k + (i + 1) = k + 1 + i by omega,zm3 ds (k + 1) i]
  simp
theorem zau.atR {w:World} {A:Nat->Prop}:∀ {ds:List (Bool × D)} {vs:List Value} {fp tp:List Nat},zau w A ds vs fp tp->∀ (i:Nat) d,ds[i]? = some (false,d)->∃ v,vs[i]? = some v /\ qa3 w A d v
 | [],_,_,_,_,i,d,h=>by simp at h
 | (false,e) :: ds,_,_,_,h,0,d,hi=>by
  obtain ⟨v,vs',rfl,h1,_⟩:=h
  simp only [List.getElem?_cons_zero,Qc,Qq,true_and] at hi
  subst hi
  exact ⟨v,rfl,h1⟩
 | (true,e) :: ds,_,_,_,h,0,d,hi=>by simp at hi
 | (false,e) :: ds,_,_,_,h,i + 1,d,hi=>by
  obtain ⟨v,vs',rfl,_,h2⟩:=h
  simpa using zau.atR h2 i d (by simpa using hi)
 | (true,e) :: ds,_,_,_,h,i + 1,d,hi=>by
  obtain ⟨v,vs',f1,f2,t1,t2,rfl,rfl,rfl,_,h2⟩:=h
  simpa using zau.atR h2 i d (by simpa using hi)
theorem Rel.frOld {n0:Nat->Prop} {N:Nat} {σ:St} {g:Gh} {a:Act} {w:World} (h:Rel n0 N σ g a w) {b:Nat} (h1:n0 b) (h2:b < w.heap.size) (h3:g.A0 b):zcj σ g w b :=
 ⟨⟨fun k hk e=>h.base k hk (e ▸ h1),fun e x hx ho hh=>h.etop e ⟨x,hx,ho⟩ b (List.mem_of_mem_head? hh) h1,h2,h3⟩,fun e ho hm=>h.etop e ho b hm h1⟩
theorem qal {args:List (Bool × D)} {w:World} {vs:List Value} {fp tp:List Nat} {N:Nat} {g:Gh} {a:Act} (hv:zau w (fun b=>b < w.heap.size /\ b ∉ fp) args vs fp tp) (hR:Rel (fun b=>b < w.heap.size /\ b ∉ fp) N (zea args) g a w)
  (ht:a.tmps = (⟨vs⟩:Array Value) ++ Array.replicate (N - vs.length) undef) (hA:∀ b,g.A0 b):Rel (fun b=>b < w.heap.size /\ b ∉ fp) N (zd7 args) g a w:=by
 have hm:Mv (zea args) (zd7 args) g g w w:=Mv.of_eq g w rfl rfl
 refine hR.slots_of (σ':=zd7 args) rfl rfl hR.defers hR.size fun i=>?_
 refine (Mv.of_eq (σ:=zd7 args) (σ':=zea args) g w rfl rfl).vr (σ:=zd7 args) ?_
 have hi:=zm3 args 0 i
 rw [Q4] at hi
 show VR _ _ _ (ziq 0 args i) _
 rw [hi]
 cases hd:args[i]? with
 | none=>trivial
 | some p =>
  obtain ⟨b,d⟩:=p
  cases b with
  | true =>
   have h0:=hm.vr (hR.slots i)
   have hj:=zjd args 0 i
   rw [Q4,hd] at hj
   have h0':VR (zd7 args) g w (zh6 0 args i) (a.tmps.getD i (g.R0.ξ i)):=h0
   rw [hj] at h0'
   exact h0'
  | false =>
   obtain ⟨v,hv1,hv2⟩:=zau.atR hv i d hd
   have hlt:i < vs.length:=(List.getElem?_eq_some_iff.1 hv1).1
   have e:a.tmps.getD i (g.R0.ξ i) = v:=by
    rw [ht,Array.getD_eq_getD_getElem?,Array.getElem?_append_left (by simpa using hlt)]
    simp [hv1]
   rw [e]
   exact hm.vr (zr5 (fun b hb=>hR.frOld hb hb.1 (hA b)) hv2)
theorem zrn {f:FuncId} {fn:Func} {c:Code} {args:List (Bool × D)} {res:List D} (hc:za7 P f) (hf:P.funcs[f]? = some fn) (hb:fn.body = some c) (hd:zbv fn.ntmps c = true) (hN:args.length <= fn.ntmps) (hs:zbq args)
  (h:ex P c [] (PS P fn.results.toList res) (zd7 args)):GC P f args res :=
 qmb hc hf hb hd hN hs fun w vs fp tp hv g a hR hg=>⟨_,h,qal hv hR hg.1 fun b=>by rw [(Kt hg.2).1]; trivial⟩
def renL (a b:Nat) (l:List (Nat × V)):List (Nat × V):=l.map fun p=>(p.1,p.2.ren a b)
def renB (a b:Nat) (l:List (Nat × List C)):List (Nat × List C):=l.map fun p=>(p.1,p.2.map (C.ren a b))
def renE (a b:Nat) (l:List (Nat × Ev)):List (Nat × Ev):=l.map fun p=>(swp a b p.1,p.2)
theorem zww (a b:Nat) (c:C):(c.ren a b).ren a b = c:=by cases c <;> simp [C.ren,zd3]
theorem zp7 (a b:Nat) (cs:List C):(cs.map (C.ren a b)).map (C.ren a b) = cs:=by
 rw [Ke]; exact (Q6 fun c _=>zww a b c).trans (J9 cs)
theorem qk2 (a b:Nat) (v:V):(v.ren a b).ren a b = v:=by
 cases v with
 | one c=>simp [V.ren,zww]
 | agg cs=>simp only [V.ren,zp7]
 | tup xs =>
  simp only [V.ren,Ke]
  congr 1
  exact (Q6 fun x _=>by simp only [Function.comp,zp7]; rfl).trans (J9 xs)
theorem zeb (a b:Nat) {σ:St} {l:List (Nat × V)} {bl:List (Nat × List C)} {el:List (Nat × Ev)} (h:wkL σ (hd (renL a b l) (renB a b bl) (renE a b el)) (renL a b l) /\ wkB σ (hd (renL a b l) (renB a b bl) (renE a b el)) (renB a b bl) /\ wkE σ (renE a b el)):Wk σ (hd l bl el):=by
 have h1:=(zac h).trans (zs3 a b _ _ _)
 have e1:(renL a b l).map (fun p=>(p.1,p.2.ren a b)) = l:=by
  unfold renL; rw [Ke]; exact (Q6 fun p _=>by simp only [Function.comp,qk2]; rfl).trans (J9 l)
 have e2:(renB a b bl).map (fun p=>(p.1,p.2.map (C.ren a b))) = bl:=by
  unfold renB; rw [Ke]; exact (Q6 fun p _=>by simp only [Function.comp,zp7]; rfl).trans (J9 bl)
 have e3:(renE a b el).map (fun p=>(swp a b p.1,p.2)) = el:=by
  unfold renE; rw [Ke]; exact (Q6 fun p _=>by simp only [Function.comp,zd3]; rfl).trans (J9 el)
 rw [e1,e2,e3] at h1
 exact h1
attribute [go_sem] C.evs C.bxs V.alls ins zn7 noK dif qjj qj2 St.kb0 St.kb1 St.KB St.ke0 St.ke1 St.KE St.lL St.lB St.lE St.hL wkK St.callN gVN ziq zd7 renL renB renE C.ren V.ren swp
end
end Go.Proofs.YtliiapbmkcbfaaaGreat
