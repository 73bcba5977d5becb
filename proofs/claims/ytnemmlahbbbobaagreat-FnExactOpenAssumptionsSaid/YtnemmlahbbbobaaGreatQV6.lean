/-
  The walk over plain data, and contracts of functions of the program and of its laws.
  Conditions: those that each theorem names.
-/
import Derived.Test.YtnemmlahbbbobaaGreatQV5
import Derived.Laws.IdiomRangeMap
import Derived.Lib.Walk
import Derived.Lib.SliceRun
import Derived.Lib.AppendZeros
namespace Go.Proofs.YtnemmlahbbbobaaGreat
set_option linter.unusedSimpArgs false
set_option linter.unusedVariables false
set_option linter.unusedSectionVars false
set_option maxRecDepth 4000
set_option maxHeartbeats 8000000
section
open Go.RowKit
variable {P:Program}{N:Nat}
inductive Ob
 | mp (ag:Bool) (rows:List (List T))
 | it (src:Nat) (ag:Bool) (left:List (List T)) (last:Option (List T))
abbrev Hid:=List (Nat×Ob)
def zw0 (w:World)(A n1:Nat->Prop)(b:Nat):Ob->Prop
 | .mp ag rows=>∃es clk,w.heap[b]?=some (.map es clk)/\zam w A ag rows es.toList/\Go.MapKept.Stamped es clk
 | .it src ag left last=>n1 src/\∃es clk seen,w.heap[b]?=some (.mapIter (some src) clk seen clk)/\w.heap[src]?=some (.map es clk)/\Go.MapKept.Stamped es clk/\zam w A ag left (leftOf es seen).toList/\∀r,last=some r->∃e∈es.toList,seen.back?=some e.born/\zam w A ag [r] [e]
theorem zw0.keep {w w':World}{A A' n1 n1':Nat->Prop}(hs:∀x,n1 x->w'.heap[x]?=w.heap[x]?)(hA:∀x,A x->n1 x)(ha:∀x,A x->A' x)(hn:∀x,n1 x->n1' x){b:Nat}(hb:n1 b):∀{o:Ob},zw0 w A n1 b o->zw0 w' A' n1' b o
 | .mp ag rows,⟨es,clk,h1,h2,h3⟩=>⟨es,clk,(hs b hb).trans h1,zam.keep (fun x hx=>hs x (hA x hx)) ha ag rows _ h2,h3⟩
 | .it src ag left last,⟨h0,es,clk,seen,h1,h2,h3,h4,h5⟩=>⟨hn src h0,es,clk,seen,(hs b hb).trans h1,(hs src h0).trans h2,h3,zam.keep (fun x hx=>hs x (hA x hx)) ha ag left _ h4,fun r hr=>by
   obtain⟨e,k1,k2,k3⟩:=h5 r hr
   exact⟨e,k1,k2,zam.keep (fun x hx=>hs x (hA x hx)) ha ag [r] _ k3⟩⟩
structure RelH (n0:Nat->Prop)(N:Nat)(σ:St)(H:Hid)(A0:(Nat->Prop)×RP)(g:Gh)(a:Act)(w:World):Prop where
 rel:∃n1:Nat->Prop,(∀x,n0 x->n1 x)/\(∀p∈H,n1 p.1/\¬g.A0 p.1)/\Rel n1 N σ g a w/\LtK n1 w/\∀p∈H,zw0 w (fun x=>n1 x/\g.A0 x) n1 p.1 p.2
 nb:∀p∈H,¬n0 p.1
 nd:(H.map (·.1)).Nodup
 sub:∀x,g.A0 x->A0.1 x
 r0:g.R0=A0.2
 new:∀x,¬n0 x->A0.1 x/\A0.2 x
theorem RelH.keep {n0 n1:Nat->Prop}{σ σ':St}{H:Hid}{A0:(Nat->Prop)×RP}{g g':Gh}{a a':Act}{w w':World}(h:RelH n0 N σ H A0 g a w)(hn:∀x,n0 x->n1 x)(hH:∀p∈H,n1 p.1/\¬g.A0 p.1)(ho:∀p∈H,zw0 w (fun x=>n1 x/\g.A0 x) n1 p.1 p.2)
  (h2:Rel n1 N σ' g' a' w') (h3:LtK n1 w') (h4:Bk n1 w w') (h5:(g'.A0,g'.R0)=(g.A0,g.R0)):RelH n0 N σ' H A0 g' a' w':=by
 have e1:g'.A0=g.A0:=(K1 h5).1
 have e2:g'.R0=g.R0:=(K1 h5).2
 exact⟨⟨n1,hn,fun p hp=>by rw[e1];exact hH p hp,h2,h3,fun p hp=>zw0.keep h4.block (fun x hx=>hx.1) (fun x hx=>⟨hx.1,by rw[e1];exact hx.2⟩) (fun x hx=>hx) (hH p hp).1 (ho p hp)⟩,h.nb,h.nd,by rw[e1];exact h.sub,by rw[e2];exact h.r0,h.new⟩
def qb0 (n0:Nat->Prop)(N:Nat)(w0:World)(A0:(Nat->Prop)×RP)(Q:Exit->St->Hid->Prop)(e:Exit)(a:Act)(w:World):Prop:=∃σ H g,Q e σ H/\RelH n0 N σ H A0 g a w/\LtK n0 w/\Bk n0 w0 w
def zbq (P:Program)(N:Nat)(c:Code)(σ:St)(H:Hid)(Q:Exit->St->Hid->Prop):Prop:=∀n0 w0 A0 g a w,RelH n0 N σ H A0 g a w->LtK n0 w->Bk n0 w0 w->c.wp P (qb0 n0 N w0 A0 Q) a w
theorem qb0.mono {n0:Nat->Prop}{w0:World}{A0:(Nat->Prop)×RP}{Q Q':Exit->St->Hid->Prop}(h:∀e σ r,Q e σ r->Q' e σ r){e:Exit}{a:Act}{w:World}:qb0 n0 N w0 A0 Q e a w->qb0 n0 N w0 A0 Q' e a w
 | ⟨σ,r,g,h1,h2⟩=>⟨σ,r,g,h _ _ _ h1,h2⟩
theorem zbq.mono {c:Code}{σ:St}{H:Hid}{Q Q':Exit->St->Hid->Prop}(h:∀e σ r,Q e σ r->Q' e σ r)(k:zbq P N c σ H Q):zbq P N c σ H Q':=fun n0 w0 A0 g a w h1 h2 h3=>wp_mono (k n0 w0 A0 g a w h1 h2 h3) fun _ _ _=>qb0.mono h
theorem zbq.ofEx {c:Code}{σ:St}{H:Hid}{Q:Exit->St->Hid->Prop}(hd:zc2 N c=true)(h:ex P c [] (fun e σ'=>Q e σ' H) σ):zbq P N c σ H Q:=fun n0 w0 A0 g a w hM h2 h3=>by
 obtain⟨n1,k1,k2,k4,k5,k7⟩:=hM.rel
 refine wp_mono (zbs (w0:=w) (A0:=(g.A0,g.R0)) c σ _ hd h g a w k4 k5 (Bk.refl _ _) rfl) fun e a' w' hq=>?_
 obtain⟨σ',g',h1,m2,m3,m4,m5⟩:=hq
 exact⟨σ',H,g',h1,hM.keep k1 k2 k7 m2 m3 m4 m5,h2.mono m4.size,h3.trans (qr0 k1 m4)⟩
def qaj (P:Program)(N:Nat)(c:Code)(Q:Exit->St->Hid->Prop)(e:Exit)(σ:St)(H:Hid):Prop:=match e with|.normal=>zbq P N c σ H Q|e=>Q e σ H
theorem zrr (c:Code)(Q:Exit->St->Hid->Prop)(σ:St)(H:Hid):qaj P N c Q .normal σ H=zbq P N c σ H Q:=rfl
theorem qd2 (c:Code)(Q:Exit->St->Hid->Prop)(σ:St)(H:Hid):qaj P N c Q .ret σ H=Q .ret σ H:=rfl
theorem qcc (c:Code)(Q:Exit->St->Hid->Prop)(σ:St)(H:Hid)(i:Nat):qaj P N c Q (.exit i) σ H=Q (.exit i) σ H:=rfl
theorem zbq.seq {x y:Code}{σ:St}{H:Hid}{Q:Exit->St->Hid->Prop}(h:zbq P N x σ H (qaj P N y Q)):zbq P N (.seq x y) σ H Q:=fun n0 w0 A0 g a w h1 h2 h3=>by
 refine wp_seq (wp_mono (h n0 w0 A0 g a w h1 h2 h3) fun e a' w' hq=>?_)
 obtain⟨σ',r',g',k1,k2,k3,k4⟩:=hq
 cases e with
 | normal=>exact k1 n0 w0 A0 g' a' w' k2 k3 k4
 | exit i=>exact⟨σ',r',g',k1,k2,k3,k4⟩
 | goto l=>exact⟨σ',r',g',k1,k2,k3,k4⟩
 | ret=>exact⟨σ',r',g',k1,k2,k3,k4⟩
 | panic ch=>exact⟨σ',r',g',k1,k2,k3,k4⟩
 | outgrown=>exact⟨σ',r',g',k1,k2,k3,k4⟩
def blkH (i:Nat)(Q:Exit->St->Hid->Prop)(e:Exit)(σ:St)(H:Hid):Prop:=match e with|.exit j=>if j=i then Q .normal σ H else Q (.exit j) σ H|e=>Q e σ H
theorem zwu (i:Nat)(Q:Exit->St->Hid->Prop)(σ:St)(H:Hid):blkH i Q .normal σ H=Q .normal σ H:=rfl
theorem qop (i:Nat)(Q:Exit->St->Hid->Prop)(σ:St)(H:Hid):blkH i Q .ret σ H=Q .ret σ H:=rfl
theorem ztc (i j:Nat)(Q:Exit->St->Hid->Prop)(σ:St)(H:Hid):blkH i Q (.exit j) σ H=if j=i then Q .normal σ H else Q (.exit j) σ H:=rfl
theorem zbq.block {i:Nat}{c:Code}{σ:St}{H:Hid}{Q:Exit->St->Hid->Prop}(h:zbq P N c σ H (blkH i Q)):zbq P N (.block i c) σ H Q:=fun n0 w0 A0 g a w h1 h2 h3=>by
 refine wp_block (wp_mono (h n0 w0 A0 g a w h1 h2 h3) fun e a' w' hq=>?_)
 obtain⟨σ',r',g',k1,k2,k3,k4⟩:=hq
 cases e with
 | exit j =>
  simp only[Exit.inBlock];simp only[ztc]at k1;split at k1
  ·rw[if_pos ‹_›];exact⟨σ',r',g',k1,k2,k3,k4⟩
  ·rw[if_neg ‹_›];exact⟨σ',r',g',k1,k2,k3,k4⟩
 | normal=>exact⟨σ',r',g',k1,k2,k3,k4⟩
 | goto l=>exact⟨σ',r',g',k1,k2,k3,k4⟩
 | ret=>exact⟨σ',r',g',k1,k2,k3,k4⟩
 | panic ch=>exact⟨σ',r',g',k1,k2,k3,k4⟩
 | outgrown=>exact⟨σ',r',g',k1,k2,k3,k4⟩
theorem RelH.wk {n0:Nat->Prop}{σ σ':St}{H:Hid}{A0:(Nat->Prop)×RP}{g:Gh}{a:Act}{w:World}(h:RelH n0 N σ H A0 g a w)(k:Wk σ σ'):∃g',RelH n0 N σ' H A0 g' a w:=by
 obtain⟨n1,k1,k2,k4,k5,k7⟩:=h.rel
 obtain⟨g',r1,r2,r3⟩:=k _ _ _ _ _ k4
 exact⟨g',h.keep k1 k2 k7 r1 k5 (Bk.refl _ _) (by rw[r2,r3])⟩
theorem zbq.wkS {c:Code}{σ σ':St}{H:Hid}{Q:Exit->St->Hid->Prop}(h:Wk σ σ')(k:zbq P N c σ' H Q):zbq P N c σ H Q:=fun n0 w0 A0 g a w h1 h2 h3=>by
 obtain⟨g',r⟩:=h1.wk h
 exact k n0 w0 A0 g' a w r h2 h3
theorem RelH.drop {n0:Nat->Prop}{σ:St}{H J:Hid}{A0:(Nat->Prop)×RP}{g:Gh}{a:Act}{w:World}(h:RelH n0 N σ H A0 g a w)(hs:J.Sublist H):RelH n0 N σ J A0 g a w:=by
 obtain⟨n1,k1,k2,k4,k5,k7⟩:=h.rel
 exact⟨⟨n1,k1,fun p hp=>k2 p (hs.subset hp),k4,k5,fun p hp=>k7 p (hs.subset hp)⟩,fun p hp=>h.nb p (hs.subset hp),h.nd.sublist (hs.map _),h.sub,h.r0,h.new⟩
def lpH {X:Type}(I:X->St)(J:X->Hid)(Pr:X->Prop)(μ:X->Nat)(x:X)(Q:Exit->St->Hid->Prop)(e:Exit)(σ:St)(H:Hid):Prop:=match e with|.normal=>∃x',Pr x'/\μ x'<μ x/\(J x').Sublist H/\Wk σ (I x')|e=>Q e σ H
section
variable {X:Type}(I:X->St)(J:X->Hid)(Pr:X->Prop)(μ:X->Nat)(x:X)
theorem qci (Q:Exit->St->Hid->Prop)(σ:St)(H:Hid):lpH I J Pr μ x Q .normal σ H=∃x',Pr x'/\μ x'<μ x/\(J x').Sublist H/\Wk σ (I x'):=rfl
theorem qtg (Q:Exit->St->Hid->Prop)(σ:St)(H:Hid):lpH I J Pr μ x Q .ret σ H=Q .ret σ H:=rfl
theorem qmk (Q:Exit->St->Hid->Prop)(σ:St)(H:Hid)(i:Nat):lpH I J Pr μ x Q (.exit i) σ H=Q (.exit i) σ H:=rfl
theorem zbq.loop {c:Code}{σ:St}{H:Hid}{Q:Exit->St->Hid->Prop}(x0:X)(h0:Wk σ (I x0))(j0:(J x0).Sublist H)(p0:Pr x0)(hr:∀x,Pr x->zbq P N c (I x) (J x) (lpH I J Pr μ x Q)):zbq P N (.loop c) σ H Q:=fun n0 w0 A0 g a w h1 h2 h3=>by
 refine zqa (fun n a w=>∃x g1,Pr x/\μ x=n/\RelH n0 N (I x) (J x) A0 g1 a w/\LtK n0 w/\Bk n0 w0 w) ?_ (n:=μ x0) (by obtain⟨g0,r1⟩:=(h1.drop j0).wk h0;exact⟨x0,g0,p0,rfl,r1,h2,h3⟩)
 rintro n a w ⟨x,g1,px,rfl,k2,k3,k4⟩
 refine wp_mono (hr x px n0 w0 A0 g1 a w k2 k3 k4) fun e a' w' hq=>?_
 obtain⟨σ',r',g',h1,h2,h3,h4⟩:=hq
 cases e with
 | normal =>
  obtain⟨x',p',hlt,hj,hwk⟩:=h1;obtain⟨g2,r1⟩:=(h2.drop hj).wk hwk;exact⟨μ x',hlt,x',g2,p',rfl,r1,h3,h4⟩
 | exit i=>exact⟨σ',r',g',h1,h2,h3,h4⟩
 | goto l=>exact⟨σ',r',g',h1,h2,h3,h4⟩
 | ret=>exact⟨σ',r',g',h1,h2,h3,h4⟩
 | panic ch=>exact⟨σ',r',g',h1,h2,h3,h4⟩
 | outgrown=>exact⟨σ',r',g',h1,h2,h3,h4⟩
end
end
section
open Go.RowKit
variable {P:Program}{N:Nat}
def zby (P:Program)(N:Nat)(ops:Array Oper)(i:Nat)(σ:St)(H:Hid)(K:St->Hid->Prop):Prop:=∀(Q:Exit->St->Hid->Prop) n0 w0 A0 g a w,(∀σ' H',K σ' H'->Q .normal σ' H')->RelH n0 N σ H A0 g a w->LtK n0 w->Bk n0 w0 w->wpOps P ops (qb0 n0 N w0 A0 Q) (List.range' i (ops.size-i)) a w
theorem zbq.region {id:Nat}{ops:Array Oper}{σ:St}{H:Hid}{Q:Exit->St->Hid->Prop}(h:zby P N ops 0 σ H (Q .normal)):zbq P N (.region id ops false) σ H Q:=fun n0 w0 A0 g a w h1 h2 h3=>by
 refine wp_region ?_
 rw[List.range_eq_range']
 exact h Q n0 w0 A0 g a w (fun _ _ k=>k) h1 h2 h3
section
variable {ops:Array Oper}{i:Nat}{σ:St}{H:Hid}{K:St->Hid->Prop}
theorem zby.done (hi:ops.size=i)(h:K σ H):zby P N ops i σ H K:=fun Q n0 w0 A0 g a w hK h1 h2 h3=>by
 rw[hi,Nat.sub_self]
 exact⟨σ,H,g,hK _ _ h,h1,h2,h3⟩
theorem zby.plain (k:Nat)(hk:i+k<=ops.size)(hg:(ops.toList.all fun o=>o.guard.isNone)=true)(hd:zc2 N (.region 0 ops false)=true)(h:exo P ops ((ops.toList.drop i).take k) [] (fun _ σ'=>zby P N ops (i+k) σ' H K) σ):zby P N ops i σ H K:=fun Q n0 w0 A0 g a w hK h1 h2 h3=>by
 obtain⟨n1,k1,k2,k4,k5,k7⟩:=h1.rel
 have hd':∀o∈ops.toList,∀d,o.dst=some d->d<N:=fun o ho d hdd=>by
  simp only[zc2,Kz]at hd;have:=hd o (by simpa using ho);rw[hdd]at this;simpa using this
 have hg':∀o∈ops.toList,o.guard=none:=fun o ho=>by
  have:=Qx.1 hg o ho;simpa using this
 have hr:List.range' i (ops.size-i)=List.range' i k++List.range' (i+k) (ops.size-(i+k)):=by
  rw[List.range'_append_1];congr 1;omega
 rw[hr]
 refine qe7 (w0:=w) (A0:=(g.A0,g.R0)) hg' ?_ k i hk hd' σ g a w (by simpa[exo,qcw]using h) k4 k5 (Bk.refl _ _) rfl
 intro a' w' σ' g' hK' m2 m3 m4 m5
 exact hK' Q n0 w0 A0 g' a' w' hK (h1.keep k1 k2 k7 m2 m3 m4 m5) (h2.mono m4.size) (h3.trans (qr0 k1 m4))
theorem zby.stepV {o:Oper}(hl:ops[i]?=some o)(hg:o.guard=none)(h:∀n0 A0 g a w,RelH n0 N σ H A0 g a w->LtK n0 w->∃v w' σ' H' g',(execOp a.eval o).run P w=.ok (.value v) w'/\RelH n0 N σ' H' A0 g' (a.put o.dst v) w'/\Bk n0 w w'/\zby P N ops (i+1) σ' H' K):zby P N ops i σ H K:=fun Q n0 w0 A0 g a w hK h1 h2 h3=>by
 have hlt:i<ops.size:=(Array.getElem?_eq_some_iff.1 hl).1
 obtain⟨v,w',σ',H',g',hex,hR,hb,hr⟩:=h n0 A0 g a w h1 h2
 rw[show List.range' i (ops.size-i)=i::List.range' (i+1) (ops.size-(i+1)) by rw[show ops.size-i=(ops.size-(i+1))+1 by omega];rfl,wpOps_cons]
 unfold wpOp
 simp only[hl]
 rw[if_pos (by simp[Region.wanted,hg])]
 refine Or.inl ?_
 unfold Oper.wp
 rw[hex]
 exact hr Q n0 w0 A0 g' _ w' hK hR (h2.mono hb.size) (h3.trans hb)
theorem zby.stepS {o:Oper}(hl:ops[i]?=some o)(hg:o.guard=none)(h:∀n0 A0 g a w,RelH n0 N σ H A0 g a w->LtK n0 w->∃w' σ' H' g',(execOp a.eval o).run P w=.ok .skip w'/\RelH n0 N σ' H' A0 g' (a.put o.dst undef) w'/\Bk n0 w w'/\zby P N ops (i+1) σ' H' K):zby P N ops i σ H K:=fun Q n0 w0 A0 g a w hK h1 h2 h3=>by
 have hlt:i<ops.size:=(Array.getElem?_eq_some_iff.1 hl).1
 obtain⟨w',σ',H',g',hex,hR,hb,hr⟩:=h n0 A0 g a w h1 h2
 rw[show List.range' i (ops.size-i)=i::List.range' (i+1) (ops.size-(i+1)) by rw[show ops.size-i=(ops.size-(i+1))+1 by omega];rfl,wpOps_cons]
 unfold wpOp
 simp only[hl]
 rw[if_pos (by simp[Region.wanted,hg])]
 refine Or.inl ?_
 unfold Oper.wp
 rw[hex]
 exact hr Q n0 w0 A0 g' _ w' hK hR (h2.mono hb.size) (h3.trans hb)
variable {ty:TypeId}{ps:String}{af:Array Edge}{mt:TypeId}
theorem zby.make {d:Nat}(ag:Bool)(hl:ops[i]?=some ⟨some d,.makeMap mt none,ty,ps,af,none⟩)(hd:d<N)(k:∀b,(∀p∈H,p.1≠b)->zby P N ops (i+1) (σ.put (some d) (.one (.cv (.map (some b))))) ((b,.mp ag [])::H) K):zby P N ops i σ H K:=zby.stepV hl rfl fun n0 A0 g a w h1 h2=>by
 obtain⟨n1,k1,k2,k4,k5,k7⟩:=h1.rel
 have hlt:∀p∈H,p.1<w.heap.size:=fun p hp=>k5 p.1 (k2 p hp).1
 have hne:∀p∈H,p.1≠w.heap.size:=fun p hp=>by have:=hlt p hp;omega
 have hR1:=(k4.enter1 (.map #[] 0)).put (some d) (x:=.one (.cv (.map (some w.heap.size)))) (v:=.map (some w.heap.size)) rfl (fun j hj=>by cases hj;exact hd)
 have hold:∀x,x<w.heap.size->(w.alloc (.map #[] 0)).heap[x]?=w.heap[x]?:=fun x hx=>Below.heap_alloc _ _ _ hx
 refine⟨.map (some w.heap.size),w.alloc (.map #[] 0),_,_,_,?_,⟨⟨fun b=>n1 b\/b=w.heap.size,fun x hx=>Or.inl (k1 x hx),fun p hp=>?_,hR1,fun x hx=>?_,fun p hp=>?_⟩,fun p hp=>?_,?_,fun x hx=>h1.sub x hx.1,h1.r0,h1.new⟩,⟨rfl,rfl,rfl,by simp,fun k hk=>hold k (h2 k hk)⟩,k w.heap.size hne⟩
 ·unfold execOp;simp only[Jy,Sem.run_bind,zss,Result.andThen_ok,Sem.run_pure]
 ·rcases Qp.1 hp with rfl|hp
  ·exact⟨Or.inr rfl,fun q=>q.2 rfl⟩
  ·exact⟨Or.inl (k2 p hp).1,fun q=>(k2 p hp).2 q.1⟩
 ·rcases hx with q|q
  ·have:=k5 x q;simp;omega
  ·simp;omega
 ·rcases Qp.1 hp with rfl|hp
  ·refine⟨#[],0,(Go.MapKept.heap_alloc w _).1,?_,Go.MapKept.stamped_empty 0⟩;unfold zam;rfl
  ·exact zw0.keep (fun x hx=>hold x (k5 x hx)) (fun x hx=>hx.1) (fun x hx=>⟨Or.inl hx.1,hx.2,fun e=>by have:=k5 x hx.1;omega⟩) (fun x hx=>Or.inl hx) (k2 p hp).1 (k7 p hp)
 ·rcases Qp.1 hp with rfl|hp
  ·exact h2.new (Qz _)
  ·exact h1.nb p hp
 ·rw[Qf,Kp];refine⟨fun hm=>?_,h1.nd⟩;obtain⟨p,hp,e⟩:=Ka.1 hm;exact hne p hp e
end
end
section
open Go.RowKit
variable {P:Program}{N:Nat}
theorem Rel.freeze {n1:Nat->Prop}{σ:St}{g:Gh}{a:Act}{w:World}(h:Rel n1 N σ g a w)(hn:LtK n1 w):Rel (fun y=>n1 y\/zb8 σ g w y) N σ g a w/\LtK (fun y=>n1 y\/zb8 σ g w y) w:=by
 refine⟨?_,fun y hy=>?_⟩
 ·have:=h.turn (n1:=fun y=>n1 y\/zb8 σ g w y) (A1:=g.A0) (w':=w) (fun y hf=>⟨hf.2.2.2,rfl⟩) (Qz _) (fun y hy=>h.anew y fun q=>hy (Or.inl q)) (fun j hj=>⟨?_,rfl⟩) fun e ho y hy=>⟨?_,(h.ebase e ho y hy).1,rfl⟩
  ·exact this
  ·rintro(q|q)
   ·exact h.base j hj q
   ·exact q.1.1 j hj rfl
  ·rintro(q|q)
   ·exact h.etop e ho y hy q
   ·exact q.2 e ho hy
 ·rcases hy with q|q
  ·exact hn y q
  ·exact q.1.2.2.1
theorem zu6 {n1:Nat->Prop}{σ:St}{g:Gh}{a:Act}{w:World}(h:Rel n1 N σ g a w)(hn:LtK n1 w){x:Nat}(h1:n1 x)(h2:g.A0 x):zb8 σ g w x :=
 ⟨⟨fun k hk e=>h.base k hk (e▸h1),fun e y he ho hh=>h.etop e ⟨y,he,ho⟩ x (List.mem_of_mem_head? hh) h1,hn x h1,h2⟩,fun e ho hm=>h.etop e ho x hm h1⟩
theorem RelH.freeze {n0:Nat->Prop}{σ:St}{H:Hid}{A0:(Nat->Prop)×RP}{g:Gh}{a:Act}{w:World}(h:RelH n0 N σ H A0 g a w):∃n1:Nat->Prop,(∀x,n0 x->n1 x)/\(∀p∈H,n1 p.1/\¬g.A0 p.1)/\Rel n1 N σ g a w/\LtK n1 w/\(∀p∈H,zw0 w (fun x=>n1 x/\g.A0 x) n1 p.1 p.2)/\∀x,zb8 σ g w x->n1 x:=by
 obtain⟨n1,k1,k2,k4,k5,k7⟩:=h.rel
 obtain⟨r1,r2⟩:=k4.freeze k5
 exact⟨fun y=>n1 y\/zb8 σ g w y,fun x hx=>Or.inl (k1 x hx),fun p hp=>⟨Or.inl (k2 p hp).1,(k2 p hp).2⟩,r1,r2,fun p hp=>zw0.keep (fun _ _=>rfl) (fun x hx=>hx.1) (fun x hx=>⟨Or.inl hx.1,hx.2⟩) (fun x hx=>Or.inl hx) (k2 p hp).1 (k7 p hp),fun x hx=>Or.inr hx⟩
theorem qjr {n1 A:Nat->Prop}{w w':World}{H:Hid}{j b:Nat}{o o':Ob}(hj:H[j]?=some (b,o))(hnd:(H.map (·.1)).Nodup)(hsrc:∀p∈H,∀src ag left last,p.2=.it src ag left last->src≠b)(hA:∀x,A x->n1 x)(hAb:¬A b)(hs:∀x,x≠b->w'.heap[x]?=w.heap[x]?)
  (ho:∀p∈H,zw0 w A n1 p.1 p.2) (hn:∀p∈H,n1 p.1) (hb:zw0 w' A n1 b o'):∀p∈H.set j (b,o'),zw0 w' A n1 p.1 p.2:=fun p hp=>by
 obtain⟨k,hk,rfl⟩:=List.getElem_of_mem hp
 rw[List.length_set]at hk
 by_cases hkj:k=j
 ·subst hkj;rw[List.getElem_set_self];exact hb
 ·rw[List.getElem_set_ne Yp];have hm:H[k]∈H:=Qj hk;obtain⟨hlt,hje⟩:=List.getElem?_eq_some_iff.1 hj;have hne:H[k].1≠b:=fun e=>by
   have:=(List.getElem_inj (xs:=H.map (·.1)) (i:=k) (j:=j) (h₀:=by simpa using hk) (h₁:=by simpa using hlt) hnd).1 (by rw[Ye,Ye,hje,e]);exact hkj this
  have h0:=ho _ hm;revert h0;generalize hp2:H[k].2=q;cases q with
  | mp ag rows =>
   rintro⟨es,clk,h1,h2,h3⟩;exact⟨es,clk,(hs _ hne).trans h1,zam.keep (fun x hx=>hs x fun e=>hAb (e▸hx)) (fun x hx=>hx) ag rows _ h2,h3⟩
  | it src ag left last =>
   rintro⟨h0,es,clk,seen,h1,h2,h3,h4,h5⟩;refine⟨h0,es,clk,seen,(hs _ hne).trans h1,(hs _ (hsrc _ hm _ _ _ _ hp2)).trans h2,h3,zam.keep (fun x hx=>hs x fun e=>hAb (e▸hx)) (fun x hx=>hx) ag left _ h4,fun r hr=>?_⟩;obtain⟨e,q1,q2,q3⟩:=h5 r hr;exact⟨e,q1,q2,zam.keep (fun x hx=>hs x fun e=>hAb (e▸hx)) (fun x hx=>hx) ag [r] _ q3⟩
def qcv (b:Nat)(H:Hid):Prop:=∀p∈H,∀src ag left last,p.2=.it src ag left last->src≠b
theorem zwc {H:Hid}{j b:Nat}{o o':Ob}(hj:H[j]?=some (b,o)):(H.set j (b,o')).map (·.1)=H.map (·.1):=by
 rw[List.map_set]
 obtain⟨hlt,hje⟩:=List.getElem?_eq_some_iff.1 hj
 apply List.ext_getElem
 ·simp
 ·intro k h1 h2;by_cases hk:k=j
  ·subst hk;rw[List.getElem_set_self,Ye,hje]
  ·rw[List.getElem_set_ne Yp]
theorem zf7 {H:Hid}{j b:Nat}{o o':Ob}(hj:H[j]?=some (b,o)){p:Nat×Ob}(hp:p∈H.set j (b,o')):∃q∈H,q.1=p.1:=by
 have:p.1∈H.map (·.1):=by rw[<-zwc (o':=o') hj];exact Ka.2 ⟨p,hp,rfl⟩
 obtain⟨q,h1,h2⟩:=Ka.1 this
 exact⟨q,h1,h2⟩
theorem zox {d:TypeDesc}{k:Value}:∀(l:List MapEntry)(i:Nat),Instr.findNow d k l i=some none->(∀v:Value,Instr.sameNow d k v=some false->v≠k)->∀x∈l,x.key≠k
 | [],_,_,_,x,hx=>by simp at hx
 | e::es,i,h,hk,x,hx=>by
  unfold Instr.findNow at h;cases hs:Instr.sameNow d k e.key with
  | none=>rw[hs]at h;simp at h
  | some r =>
   rw[hs]at h;cases r with
   | true=>simp at h
   | false =>
    rcases Qp.1 hx with rfl|hx
    ·exact hk _ hs
    ·exact zox es (i+1) (by simpa using h) hk x hx
end
section
open Go.RowKit
variable {P:Program}{N:Nat}
theorem qbr {k x:T}(h:zu0 k x=some true):x=k:=by
 cases k<;>cases x<;>simp only[zu0,Qc,reduceCtorEq]at h
 ·split at h
  ·simp at h;rename_i e;rw[e,h]
  ·cases h
 ·simp at h;rw[h]
 ·simp at h;rw[h]
theorem zo2 {w:World}{A:Nat->Prop}{d:TypeDesc}{k:T}{kv:Value}(hd:zuo d k=true)(hk:zas w A k kv)(ag:Bool):∀(rows:List (List T))(es:List MapEntry)(i:Nat)(vs:List T),zam w A ag rows es->zch k rows=some (some vs) →
  ∃m e,Instr.findNow d kv es i=some (some (i+m,e.val))/\es[m]?=some e/\rows[m]?=some (k::vs)/\zas w A k e.key
 | [],es,i,vs,h,hf=>by cases hf
 | []::_,_,_,_,_,hf=>by cases hf
 | (x::xs)::rows,es,i,vs,h,hf=>by
  unfold zam at h;obtain⟨e,es',us,rfl,h1,h2,h3⟩:=h;unfold zaf at h2;obtain⟨xv,us',e1,h2,h4⟩:=h2;cases e1;unfold zch at hf;split at hf
  ·rename_i hq;cases hf;have hx:=qbr hq;subst hx;exact⟨0,e,by simp[Instr.findNow,zi5 hd hq hk h2],rfl,rfl,h2⟩
  ·rename_i hq;obtain⟨m,e',f1,f2,f3,f4⟩:=zo2 hd hk ag rows es' (i+1) vs h3 hf;refine⟨m+1,e',?_,by simpa using f2,by simpa using f3,f4⟩;simp only[Instr.findNow,zi5 hd hq hk h2];rw[f1];congr 3;omega
  ·cases hf
theorem qqg {w w':World}{A A':Nat->Prop}{d:TypeDesc}{k:T}{u v:Value}(hd:zuo d k=true)(h:zas w A k u)(h':zas w' A' k v):u=v:=by
 cases d<;>cases k<;>simp[zuo]at hd<;>unfold zas at h h'
 ·rw[h,h']
 ·rw[h.1,h'.1]
 ·rw[h.1,h'.1]
theorem zam.modify {w:World}{A:Nat->Prop}{ag:Bool}{f:MapEntry->MapEntry}:∀{rows:List (List T)}{es:List MapEntry}{m:Nat}{r:List T}{e:MapEntry},zam w A ag rows es->rows[m]?=some r->es[m]?=some e->zam w A ag [r] [f e]->zam w A ag rows (es.modify m f)
 | [],_,m,r,e,_,hr,_,_=>by simp at hr
 | r0::rows,es,m,r,e,h,hr,he,hn=>by
  unfold zam at h;obtain⟨e0,es',us,rfl,h1,h2,h3⟩:=h;cases m with
  | zero =>
   simp only[List.getElem?_cons_zero,Qc]at hr he;subst hr he;unfold zam at hn;obtain⟨e1,es1,us1,q1,q2,q3,q4⟩:=hn;obtain⟨rfl,rfl⟩:=Yb q1;show zam w A ag (r0::rows) (f e0::es')
   unfold zam;exact⟨_,_,us1,rfl,q2,q3,h3⟩
  | succ m =>
   show zam w A ag (r0::rows) (e0::es'.modify m f)
   unfold zam;exact⟨_,_,us,rfl,h1,h2,zam.modify h3 (by simpa using hr) (by simpa using he) hn⟩
def zvd (P:Program)(σ:St)(H:Hid)(j:Nat)(mt:TypeId)(x k v:Operand)(K:Hid->Prop):Prop:=match H[j]?,σ.get P 0 x,σ.get P 0 k,qlz P mt with
 | some (b,.mp ag rows),.one (.cv (.map (some b'))),.one (.t kT),some (d,_)=>match mvV ag (σ.get P 0 v)with
  | some vts=>b'=b/\zuo d kT=true/\((zch kT rows=some none/\K (H.set j (b,.mp ag (rows++[kT::vts]))))\/(zch kT rows=some (some vts)/\K H))
  | none=>False
 | _,_,_,_=>False
theorem qq0 {σ:St}{H:Hid}{j:Nat}{mt:TypeId}{x k v:Operand}{K:Hid->Prop}(h:zvd P σ H j mt x k v K):∃b ag rows kT d et vts,H[j]?=some (b,.mp ag rows)/\σ.get P 0 x=.one (.cv (.map (some b)))/\σ.get P 0 k=.one (.t kT)/\qlz P mt=some (d,et)/\mvV ag (σ.get P 0 v)=some vts/\zuo d kT=true ∧
  ((zch kT rows=some none/\K (H.set j (b,.mp ag (rows++[kT::vts]))))\/(zch kT rows=some (some vts)/\K H)):=by
 unfold zvd at h
 split at h
 ·rename_i b ag rows b' kT d et h1 h2 h3 h4;split at h
  ·rename_i vts h5;obtain⟨rfl,h6,h7⟩:=h;exact⟨_,ag,rows,kT,d,et,vts,h1,h2,h3,h4,h5,h6,h7⟩
  ·exact h.elim
 ·exact h.elim
section
variable {ops:Array Oper}{i:Nat}{σ:St}{H:Hid}{K:St->Hid->Prop}{ty:TypeId}{ps:String}{af:Array Edge}{mt:TypeId}{x k v:Operand}
theorem qh7 {n0:Nat->Prop}{A0:(Nat->Prop)×RP}{g:Gh}{a:Act}{w:World}{b j:Nat}{ag:Bool}{rows rows':List (List T)}(h1:RelH n0 N σ H A0 g a w)(h2:LtK n0 w)(hj:H[j]?=some (b,.mp ag rows))(hni:qcv b H){es':Array MapEntry}{clk':Nat}
  (hm:∀n1:Nat->Prop,(∀x,zb8 σ g w x->n1 x)->Rel n1 N σ g a w->∀es clk,w.heap[b]?=some (.map es clk)->zam w (fun x=>n1 x/\g.A0 x) ag rows es.toList->Go.MapKept.Stamped es clk->zam w (fun x=>n1 x/\g.A0 x) ag rows' es'.toList/\Go.MapKept.Stamped es' clk') :
  RelH n0 N σ (H.set j (b,.mp ag rows')) A0 g a { w with heap:=w.heap.setIfInBounds b (.map es' clk') }/\Bk n0 w { w with heap:=w.heap.setIfInBounds b (.map es' clk') }:=by
 obtain⟨n1,k1,k2,k4,k5,k7,kF⟩:=h1.freeze
 have hmem:(b,Ob.mp ag rows)∈H:=List.mem_of_getElem? hj
 obtain⟨es,clk,q1,q2,q3⟩:=k7 _ hmem
 obtain⟨r1,r2⟩:=hm n1 kF k4 es clk q1 q2 q3
 obtain⟨hb1,hb2⟩:=k2 _ hmem
 have hb1:n1 b:=hb1
 have hb2:¬g.A0 b:=hb2
 have hset:=Go.MapKept.heap_set (o':=.map es' clk') q1
 have hother:∀x,x≠b->({ w with heap:=w.heap.setIfInBounds b (.map es' clk') }:World).heap[x]?=w.heap[x]?:=hset.2
 have hself:({ w with heap:=w.heap.setIfInBounds b (.map es' clk') }:World).heap[b]?=some (.map es' clk'):=hset.1
 have hsize:({ w with heap:=w.heap.setIfInBounds b (.map es' clk') }:World).heap.size=w.heap.size:=by simp
 have hbk:Bk n0 w { w with heap:=w.heap.setIfInBounds b (.map es' clk') }:=⟨rfl,rfl,rfl,by rw[hsize];exact Qz _,fun y hy=>hother y fun e=>h1.nb _ hmem (e▸hy)⟩
 generalize hw:({ w with heap:=w.heap.setIfInBounds b (.map es' clk') }:World)=w2 at hother hself hsize hbk⊢
 have hR2:Rel n1 N σ g a w2:=k4.turn (A1:=g.A0) (w':=w2) (fun y hf=>⟨hf.2.2.2,hother y fun e=>hb2 (e▸hf.2.2.2)⟩) (by rw[hsize];exact Qz _) (fun y hy=>k4.anew y hy) (fun l hl=>⟨k4.base l hl,hother _ fun e=>k4.base l hl (e▸hb1)⟩) fun e ho y hy=>⟨k4.etop e ho y hy,(k4.ebase e ho y hy).1,hother y fun q=>k4.etop e ho y hy (q▸hb1)⟩
 refine⟨⟨⟨n1,k1,fun p hp=>?_,hR2,fun y hy=>by rw[hsize];exact k5 y hy,?_⟩,fun p hp=>?_,by rw[zwc hj];exact h1.nd,h1.sub,h1.r0,h1.new⟩,hbk⟩
 ·obtain⟨q,hq,e⟩:=zf7 hj hp;rw[<-e];exact k2 q hq
 ·refine qjr hj h1.nd hni (fun x hx=>hx.1) (fun h=>hb2 h.2) hother k7 (fun p hp=>(k2 p hp).1) ⟨es',clk',hself,?_,r2⟩;exact zam.keep (fun y hy=>hother y fun e=>hb2 (e▸hy.2)) (fun y hy=>hy) ag rows' _ r1
 ·obtain⟨q,hq,e⟩:=zf7 hj hp;rw[<-e];exact h1.nb q hq
end
end
section
open Go.RowKit
variable {P:Program}{N:Nat}
section
variable {ops:Array Oper}{i:Nat}{σ:St}{H:Hid}{K:St->Hid->Prop}{ty:TypeId}{ps:String}{af:Array Edge}{mt:TypeId}{x k v:Operand}
theorem key_ne {d:TypeDesc}{kv:Value}(hk:Go.MapKept.IsKey d kv)(u:Value)(h:Instr.sameNow d kv u=some false):u≠kv:=fun e=>by
 subst e
 obtain⟨r,h1,h2⟩:=Go.MapKept.sameNow_of_keys hk hk
 rw[h2.2 rfl]at h1
 rw[h1]at h
 cases h
theorem qgt {o:Oper}(j:Nat)(ho:o.op=.mapUpdate mt x k v\/o.op=.insert mt x k v)(hd0:o.dst=none)(hg:o.guard=none)(hl:ops[i]?=some o)(h:zvd P σ H j mt x k v fun H'=>qcv (H'.getD j (0,.mp true [])).1 H/\zby P N ops (i+1) σ H' K):zby P N ops i σ H K:=zby.stepS hl hg fun n0 A0 g a w h1 h2=>by
 obtain⟨b,ag,rows,kT,d,et,vts,hj,c1,c2,c3,c4,c5,hK⟩:=qq0 h
 obtain⟨kt,t1,t2⟩:=zlz c3
 obtain⟨hjl,hje⟩:=List.getElem?_eq_some_iff.1 hj
 obtain⟨n1,k1,k2,k4,k5,k7,kF⟩:=h1.freeze
 obtain⟨es,clk,q1,q2,q3⟩:=k7 _ (List.mem_of_getElem? hj)
 have v1:=k4.get P 0 x
 have v2:=k4.get P 0 k
 have v3:=k4.get P 0 v
 rw[c1]at v1
 rw[c2]at v2
 have v1:a.eval x=.map (some b):=v1
 have v2:zas w (Fix σ g w) kT (a.eval k):=v2
 have hkey:=ziq c5 v2
 have hput:a.put o.dst undef=a:=by rw[hd0];rfl
 rw[hput]
 rcases hK with⟨hf,hni,hK⟩|⟨hf,hni,hK⟩
 ·have hni:qcv b H:=by
   rw[List.getD_eq_getElem?_getD,List.getElem?_set_self hjl]at hni;exact hni
  have hfn:=zd4 c5 (zcx (A':=fun x=>n1 x/\g.A0 x) (w':=w) (zfo c5) v2) ag rows es.toList 0 none q2 hf;have hrun:=zr3 t1 t2 (val:=a.eval v) q1 hkey hfn;have hex:(execOp a.eval o).run P w=.ok .skip { w with heap:=w.heap.setIfInBounds b (.map (es.push { key:=a.eval k,val:=a.eval v,born:=clk }) (clk+1)) }:=by
   unfold execOp;rcases ho with ho|ho<;>rw[ho]<;>simp only[v1,Sem.run_bind,hrun,Result.andThen_ok,Sem.run_pure]
  obtain⟨r1,r2⟩:=qh7 (rows':=rows++[kT::vts]) (es':=es.push { key:=a.eval k,val:=a.eval v,born:=clk }) (clk':=clk+1) h1 h2 hj hni fun n2 hF hR es2 clk2 z1 z2 z3=>by
   rw[q1]at z1;obtain⟨rfl,rfl⟩:es=es2/\clk=clk2:=by cases z1;exact⟨rfl,rfl⟩
   refine⟨?_,Go.MapKept.stamped_push z3 (zox es.toList 0 hfn (key_ne hkey))⟩;obtain⟨us,u1,u2⟩:=qji (A:=fun y=>n2 y/\g.A0 y) (fun y hy=>⟨hF y hy,hy.1.2.2.2⟩) c4 v3;rw[Array.toList_push];refine zam.push ⟨us,u1,?_⟩ z2;unfold zaf;exact⟨_,_,rfl,zcx (zfo c5) v2,u2⟩
  exact⟨_,σ,_,g,hex,r1,r2,hK⟩
 ·have hni:qcv b H:=by
   rw[List.getD_eq_getElem?_getD,hj]at hni;exact hni
  obtain⟨m,e,f1,f2,f3,f4⟩:=zo2 c5 (zcx (A':=fun x=>n1 x/\g.A0 x) (w':=w) (zfo c5) v2) ag rows es.toList 0 vts q2 hf;have hke:e.key=a.eval k:=qqg c5 f4 v2;have f2':es[m]?=some e:=by simpa using f2
  have hrun:(Instr.mapUpdate mt (.map (some b)) (a.eval k) (a.eval v)).run P w=.ok () { w with heap:=w.heap.setIfInBounds b (.map (es.modify m fun e'=>{ e' with key:=a.eval k,val:=a.eval v }) clk) }:=by
   rw[Q5]at f1;simp[Instr.mapUpdate,run_underlying t1,Go.MapKept.run_getObj_map q1,Go.MapKept.run_checkKey t2 hkey,Go.MapKept.run_findKey t2 f1,f2',hke,Go.MapKept.run_keyThatStays hkey,Go.MapKept.run_setObj_map _ q1,Result.andThen]
  have hex:(execOp a.eval o).run P w=.ok .skip { w with heap:=w.heap.setIfInBounds b (.map (es.modify m fun e'=>{ e' with key:=a.eval k,val:=a.eval v }) clk) }:=by
   unfold execOp;rcases ho with ho|ho<;>rw[ho]<;>simp only[v1,Sem.run_bind,hrun,Result.andThen_ok,Sem.run_pure]
  obtain⟨r1,r2⟩:=qh7 (rows':=rows) (es':=es.modify m fun e'=>{ e' with key:=a.eval k,val:=a.eval v }) (clk':=clk) h1 h2 hj hni fun n2 hF hR es2 clk2 z1 z2 z3=>by
   rw[q1]at z1;obtain⟨rfl,rfl⟩:es=es2/\clk=clk2:=by cases z1;exact⟨rfl,rfl⟩
   obtain⟨us,u1,u2⟩:=qji (A:=fun y=>n2 y/\g.A0 y) (fun y hy=>⟨hF y hy,hy.1.2.2.2⟩) c4 v3;refine⟨?_,Go.MapKept.stamped_modify z3 _ _ (fun _ _=>rfl) fun e' _ he'=>by rw[f2']at he';cases he';exact hke.symm⟩;rw[Array.toList_modify];refine zam.modify z2 f3 f2 ?_;unfold zam;refine⟨_,[],us,rfl,u1,?_,?_⟩
   ·unfold zaf;exact⟨_,_,rfl,zcx (zfo c5) v2,u2⟩
   ·unfold zam;rfl
  have hset:H.set j (b,.mp ag rows)=H:=by
   rw[<-hje];exact List.set_getElem_self hjl
  rw[hset]at r1;exact⟨_,σ,_,g,hex,r1,r2,hK⟩
theorem zby.upd (j:Nat)(hl:ops[i]?=some ⟨none,.mapUpdate mt x k v,ty,ps,af,none⟩)(h:zvd P σ H j mt x k v fun H'=>qcv (H'.getD j (0,.mp true [])).1 H/\zby P N ops (i+1) σ H' K):zby P N ops i σ H K:=qgt j (Or.inl rfl) rfl rfl hl h
theorem zby.ins (j:Nat)(hl:ops[i]?=some ⟨none,.insert mt x k v,ty,ps,af,none⟩)(h:zvd P σ H j mt x k v fun H'=>qcv (H'.getD j (0,.mp true [])).1 H/\zby P N ops (i+1) σ H' K):zby P N ops i σ H K:=qgt j (Or.inr rfl) rfl rfl hl h
def qtz (ag:Bool)(vs:List T):Bool×List C:=(ag,vs.map T.toN)
theorem qgz {σ:St}{g:Gh}{w:World}{t:T}{v:Value}(h:zas w (zb8 σ g w) t v):CR σ g w t.toN v:=by
 cases t<;>first|exact h|exact zas.keep (fun _ _=>rfl) (fun b hb=>hb.1) _ v h
theorem zx7 {σ:St}{g:Gh}{w:World}:∀{ts:List T}{vs:List Value},zaf w (zb8 σ g w) ts vs->CRs σ g w (ts.map T.toN) vs
 | [],vs,h=>by unfold zaf at h;exact h
 | t::ts,vs,h=>by
  unfold zaf at h;obtain⟨v,vs',rfl,h1,h2⟩:=h;exact⟨v,vs',rfl,qgz h1,zx7 h2⟩
theorem qlt {σ:St}{g:Gh}{w:World}{ag:Bool}{vs:List T}{u:Value}{us:List Value}(hu:if ag=true then u=.agg ⟨us⟩else us=[u])(h:zaf w (zb8 σ g w) vs us):CRx σ g w (qtz ag vs) u:=by
 unfold CRx qtz
 cases ag
 ·simp only[Ql,if_false]at hu⊢;subst hu;cases vs with
  | nil=>unfold zaf at h;cases h
  | cons t vs =>
   unfold zaf at h;obtain⟨v,vs',e,h1,h2⟩:=h;cases e;cases vs with
   | nil=>exact⟨_,rfl,qgz h1⟩
   | cons t' vs'=>unfold zaf at h2;obtain⟨_,_,e,_⟩:=h2;cases e
 ·simp only[if_true]at hu⊢;exact⟨us,hu,zx7 h⟩
def lkH (P:Program)(σ:St)(H:Hid)(j:Nat)(mt:TypeId)(x ix:Operand)(K:V->Prop):Prop:=match H[j]?,σ.get P 0 x,σ.get P 0 ix,qlz P mt with
 | some (b,.mp ag rows),.one (.cv (.map (some b'))),.one (.t kT),some (d,et)=>b'=b/\zuo d kT=true/\zar (zch kT rows) fun r=>match r with
  | some vs=>K (.tup [qtz ag vs,(false,[.t (.bool true)])])
  | none=>zar (qsp P et) K
 | _,_,_,_=>False
theorem zby.look {d:Nat}(j:Nat)(hl:ops[i]?=some ⟨some d,.lookup mt x k true,ty,ps,af,none⟩)(hd:d<N)(h:lkH P σ H j mt x k fun y=>zby P N ops (i+1) (σ.put (some d) y) H K):zby P N ops i σ H K:=zby.stepV hl rfl fun n0 A0 g a w h1 h2=>by
 unfold lkH at h
 split at h
 ·rename_i b ag rows b' kT dd et hj c1 c2 c3;obtain⟨rfl,c5,h⟩:=h;obtain⟨r,hf,h⟩:=zai h;obtain⟨kt,t1,t2⟩:=zlz c3;obtain⟨n1,k1,k2,k4,k5,k7⟩:=h1.rel;obtain⟨es,clk,q1,q2,q3⟩:=k7 _ (List.mem_of_getElem? hj);have q1:w.heap[b']?=some (.map es clk):=q1;have v1:=k4.get P 0 x;have v2:=k4.get P 0 k;rw[c1]at v1;rw[c2]at v2;have v1:a.eval x=.map (some b'):=v1;have v2:zas w (Fix σ g w) kT (a.eval k):=v2;have hfr:∀y,n1 y/\g.A0 y->zb8 σ g w y:=fun y hy=>zu6 k4 k5 hy.1 hy.2;have fin:∀{V:V} {u:Value},VR σ g w V u->RelH n0 N (σ.put (some d) V) H A0 g (a.put (some d) u) w:=fun hV=>h1.keep k1 k2 k7 (k4.put (some d) hV (fun q hq=>by cases hq;exact hd)) k5 (Bk.refl _ _) rfl;cases r with
  | some vs =>
   obtain⟨m,u,us,f1,f2,f3⟩:=zd4 c5 (zcx (A':=fun x=>n1 x/\g.A0 x) (w':=w) (zfo c5) v2) ag rows es.toList 0 (some vs) q2 hf;refine⟨.tuple #[u,.bool true],w,_,H,g,?_,fin (V:=.tup [qtz ag vs,(false,[.t (.bool true)])]) ⟨[u,.bool true],rfl,u,[.bool true],rfl,qlt f2 (zaf.keep (fun _ _=>rfl) hfr _ _ f3),.bool true,[],rfl,⟨.t (.bool true),rfl,rfl⟩,rfl⟩,Bk.refl _ _,h⟩;unfold execOp;simp[Instr.lookup,run_underlying t1,v1,Go.MapKept.run_getObj_map q1,Go.MapKept.run_checkKey t2 (ziq c5 v2),Go.MapKept.run_findKey t2 f1,Result.andThen]
  | none =>
   obtain⟨V,hV,h⟩:=zai h;unfold qsp at hV;obtain⟨zv,hz0,hV⟩:=Qd.1 hV;obtain⟨y,hy,rfl⟩:=Q0.1 hV;obtain⟨ii,hi1,hi2⟩:=Qd.1 hz0;have f1:=zd4 c5 (zcx (A':=fun x=>n1 x/\g.A0 x) (w':=w) (zfo c5) v2) ag rows es.toList 0 none q2 hf;refine⟨.tuple #[zv,.bool false],w,_,H,g,?_,fin (V:=.tup [y,(false,[.t (.bool false)])]) ⟨[zv,.bool false],rfl,zv,[.bool false],rfl,zw1 hy (qjd P σ g w et zv),.bool false,[],rfl,⟨.t (.bool false),rfl,rfl⟩,rfl⟩,Bk.refl _ _,h⟩;unfold execOp;simp[Instr.lookup,run_underlying t1,v1,Go.MapKept.run_getObj_map q1,Go.MapKept.run_checkKey t2 (ziq c5 v2),Go.MapKept.run_findKey t2 f1,Result.andThen,zeroValue,typeInfo,hi1,hi2]
 ·exact h.elim
end
attribute [go_sem] zvd lkH qtz qsp
end
section
open Go.RowKit
variable {P:Program}{N:Nat}
theorem zam.len {w:World}{A:Nat->Prop}{ag:Bool}:∀{rows:List (List T)}{es:List MapEntry},zam w A ag rows es->es.length=rows.length
 | [],es,h=>by unfold zam at h;subst h;rfl
 | r::rows,es,h=>by
  unfold zam at h;obtain⟨e,es',us,rfl,h1,h2,h3⟩:=h;simp[zam.len h3]
theorem zam.at {w:World}{A:Nat->Prop}{ag:Bool}:∀{rows:List (List T)}{es:List MapEntry},zam w A ag rows es->∀(m:Nat) e,es[m]?=some e->∃r,rows[m]?=some r/\zam w A ag [r] [e]
 | [],es,h,m,e,he=>by unfold zam at h;subst h;simp at he
 | r::rows,es,h,m,e,he=>by
  unfold zam at h;obtain⟨e0,es',us,rfl,h1,h2,h3⟩:=h;cases m with
  | zero =>
   simp only[List.getElem?_cons_zero,Qc]at he;subst he;refine⟨r,rfl,?_⟩;unfold zam;refine⟨e0,[],us,rfl,h1,h2,?_⟩;unfold zam;rfl
  | succ m=>simpa using zam.at h3 m e (by simpa using he)
theorem zam.erase {w:World}{A:Nat->Prop}{ag:Bool}:∀{rows:List (List T)}{es:List MapEntry}(m:Nat),zam w A ag rows es->zam w A ag (rows.eraseIdx m) (es.eraseIdx m)
 | [],es,m,h=>by unfold zam at h;subst h;show zam w A ag [] [];unfold zam;rfl
 | r::rows,es,m,h=>by
  unfold zam at h;obtain⟨e0,es',us,rfl,h1,h2,h3⟩:=h;cases m with
  | zero=>exact h3
  | succ m =>
   show zam w A ag (r::rows.eraseIdx m) (e0::es'.eraseIdx m)
   unfold zam;exact⟨e0,_,us,rfl,h1,h2,zam.erase m h3⟩
theorem zmt {l:List MapEntry}:∀{m:Nat}{e:MapEntry},(l.map (·.born)).Nodup->l[m]?=some e->l.filter (fun x=>!(x.born==e.born))=l.eraseIdx m:=by
 induction l with
 | nil=>intro m e _ h;simp at h
 | cons x l ih =>
  intro m e hn h;rw[Qf,Kp]at hn;cases m with
  | zero =>
   simp only[List.getElem?_cons_zero,Qc]at h;subst h;rw[Jm,if_neg (by simp),List.eraseIdx_cons_zero,List.filter_eq_self];intro y hy;have:y.born≠x.born:=fun e=>hn.1 (e▸Ka.2 ⟨y,hy,rfl⟩);simpa using this
  | succ m =>
   have h':l[m]?=some e:=by simpa using h
   have:x.born≠e.born:=fun q=>hn.1 (q▸Ka.2 ⟨e,List.mem_of_getElem? h',rfl⟩);rw[Jm,if_pos (by simpa using this),ih hn.2 h',List.eraseIdx_cons_succ]
theorem qj6 {es:Array MapEntry}{seen:Array Nat}{m:Nat}{e:MapEntry}(hn:(es.toList.map (·.born)).Nodup)(h:(leftOf es seen).toList[m]?=some e):(leftOf es (seen.push e.born)).toList=(leftOf es seen).toList.eraseIdx m:=by
 have hn2:((leftOf es seen).toList.map (·.born)).Nodup:=by
  unfold leftOf;rw[Array.toList_filter];exact hn.sublist ((List.filter_sublist).map _)
 rw[<-zmt hn2 h]
 unfold leftOf
 rw[Array.toList_filter,Array.toList_filter,List.filter_filter]
 congr 1
 funext x
 rw[Array.contains_push]
 cases seen.contains x.born<;>simp[Bool.beq_comm,eq_comm]<;>rfl
theorem zwg {w:World}(ty:TypeId)(r bm clk:Nat)(seen:Array Nat)(es:Array MapEntry)(hr:w.heap[r]?=some (.mapIter (some bm) clk seen clk))(hb:w.heap[bm]?=some (.map es clk))(hold:∀x∈es.toList,x.born<clk) :
  ((leftOf es seen).toList=[]/\(Instr.next (.pointer (some ⟨r,0,none⟩)) false ty).run P w=.ok (.tuple #[.bool false]) w) ∨
  ∃(m:Nat) (e:MapEntry) (n:Nat),(leftOf es seen).toList[m]?=some e/\(Instr.next (.pointer (some ⟨r,0,none⟩)) false ty).run P w=.ok (.tuple #[.bool true,e.key,e.val]) { w with heap:=w.heap.setIfInBounds r (.mapIter (some bm) clk (seen.push e.born) clk),drawn:=w.drawn+n }:=by
 simp only[Instr.next,getObj,Sem.run_bind,Sem.run,hr,hb,Result.andThen,next_test_false seen es clk clk hold (Qz _),Ql,if_false]
 unfold leftOf
 have hmem:∀x∈(Array.filter (fun e=>!seen.contains e.born) es).toList,x.born<clk:=fun x hx=>hold x (by simp at hx⊢;exact hx.1)
 generalize Array.filter (fun e=>!seen.contains e.born) es=L at hmem⊢
 have e1:L.filter (fun x=>decide (x.born<clk))=L:=Array.filter_eq_self.2 (fun x hx=>by simpa using hmem x (by simpa using hx))
 have e2:L.filter (fun x=>decide (x.born>=clk))=#[]:=by
  rw[Array.filter_eq_empty_iff];intro x hx;have:=hmem x (by simpa using hx);simp;omega
 simp only[e1,e2,Array.append_empty]
 by_cases h0:L.size=0
 ·left;have:L=#[]:=Array.eq_empty_of_size_eq_zero h0;subst this;refine⟨rfl,?_⟩;simp[choose,Sem.run,Question.forced]
 ·right;have hne:L.isEmpty=false:=by simp[Array.isEmpty,h0]
  simp only[hne,Ql,if_false,Array.empty_append,Array.size_map];have hch:∃(j n:Nat),j<L.size/\(choose (Question.mapNext L.size)).run P w=.ok j { w with drawn:=w.drawn+n }:=by
   by_cases hf:L.size<=1
   ·exact⟨0,0,Yp,by simp[choose,Sem.run,Question.forced,hf]⟩
   ·exact⟨_,1,Nat.mod_lt _ Yp,by
     simp only[choose,Sem.run,Question.forced,Kb,hf,if_false,Question.cut]
     rfl⟩
  obtain⟨j,n,hj,hrun⟩:=hch;refine⟨j,L[j],n,by simp[hj],?_⟩;have hset:∀(o':Obj),(setObj r o').run P { w with drawn:=w.drawn+n }=.ok () { w with heap:=w.heap.setIfInBounds r o',drawn:=w.drawn+n }:=fun o'=>by
   simp only[setObj,Sem.run];rw[hr]
  simp only[hrun,Array.getElem?_map,Array.getElem?_eq_getElem hj,Q7,Sem.run_bind,hset,Result.andThen];rfl
end
section
open Go.RowKit
variable {P:Program}{N:Nat}
section
variable {ops:Array Oper}{i d:Nat}{σ:St}{H:Hid}{K:St->Hid->Prop}{ty:TypeId}{ps:String}{af:Array Edge}{mt:TypeId}{x:Operand}
theorem zxe {n0:Nat->Prop}{A0:(Nat->Prop)×RP}{g:Gh}{a:Act}{w:World}{src:Nat}{ag:Bool}{rows:List (List T)}(h1:RelH n0 N σ H A0 g a w)(h2:LtK n0 w)(hd:d<N)
  (hs:∀n1:Nat->Prop,(∀x,zb8 σ g w x->n1 x)->(∀p∈H,n1 p.1)->(∀p∈H,zw0 w (fun x=>n1 x/\g.A0 x) n1 p.1 p.2)->n1 src/\∃es clk,w.heap[src]?=some (.map es clk)/\zam w (fun x=>n1 x/\g.A0 x) ag rows es.toList/\Go.MapKept.Stamped es clk/\clk=clk) :
  ∃es clk,w.heap[src]?=some (.map es clk)/\(∀p∈H,p.1≠w.heap.size)/\RelH n0 N (σ.put (some d) (.one (.cv (.pointer (some ⟨w.heap.size,0,none⟩))))) ((w.heap.size,.it src ag rows none)::H) A0 { g with A0:=fun b=>g.A0 b/\b≠w.heap.size } (a.put (some d) (.pointer (some ⟨w.heap.size,0,none⟩))) (w.alloc (.mapIter (some src) clk #[] clk))/\Bk n0 w (w.alloc (.mapIter (some src) clk #[] clk)):=by
 obtain⟨n1,k1,k2,k4,k5,k7,kF⟩:=h1.freeze
 obtain⟨hsrc,es,clk,q1,q2,q3,_⟩:=hs n1 kF (fun p hp=>(k2 p hp).1) k7
 have hlt:∀p∈H,p.1<w.heap.size:=fun p hp=>k5 p.1 (k2 p hp).1
 have hne:∀p∈H,p.1≠w.heap.size:=fun p hp=>by have:=hlt p hp;omega
 have hR1:=(k4.enter1 (.mapIter (some src) clk #[] clk)).put (some d) (x:=.one (.cv (.pointer (some ⟨w.heap.size,0,none⟩)))) (v:=.pointer (some ⟨w.heap.size,0,none⟩)) rfl (fun j hj=>by cases hj;exact hd)
 have hold:∀x,x<w.heap.size->(w.alloc (.mapIter (some src) clk #[] clk)).heap[x]?=w.heap[x]?:=fun x hx=>Below.heap_alloc _ _ _ hx
 refine⟨es,clk,q1,hne,⟨⟨fun b=>n1 b\/b=w.heap.size,fun x hx=>Or.inl (k1 x hx),fun p hp=>?_,hR1,fun x hx=>?_,fun p hp=>?_⟩,fun p hp=>?_,?_,fun x hx=>h1.sub x hx.1,h1.r0,h1.new⟩,⟨rfl,rfl,rfl,by simp,fun k hk=>hold k (h2 k hk)⟩⟩
 ·rcases Qp.1 hp with rfl|hp
  ·exact⟨Or.inr rfl,fun q=>q.2 rfl⟩
  ·exact⟨Or.inl (k2 p hp).1,fun q=>(k2 p hp).2 q.1⟩
 ·rcases hx with q|q
  ·have:=k5 x q;simp;omega
  ·simp;omega
 ·rcases Qp.1 hp with rfl|hp
  ·refine⟨Or.inl hsrc,es,clk,#[],heap_alloc_new _ _,(hold src (k5 src hsrc)).trans q1,q3,?_,fun r hr=>by cases hr⟩;have hl:leftOf es #[]=es:=by unfold leftOf;simp
   rw[hl];exact zam.keep (fun x hx=>hold x (k5 x hx.1)) (fun x hx=>⟨Or.inl hx.1,hx.2,fun e=>by have:=k5 x hx.1;omega⟩) ag rows _ q2
  ·exact zw0.keep (fun x hx=>hold x (k5 x hx)) (fun x hx=>hx.1) (fun x hx=>⟨Or.inl hx.1,hx.2,fun e=>by have:=k5 x hx.1;omega⟩) (fun x hx=>Or.inl hx) (k2 p hp).1 (k7 p hp)
 ·rcases Qp.1 hp with rfl|hp
  ·exact h2.new (Qz _)
  ·exact h1.nb p hp
 ·rw[Qf,Kp];refine⟨fun hm=>?_,h1.nd⟩;obtain⟨p,hp,e⟩:=Ka.1 hm;exact hne p hp e
theorem zby.range (ag:Bool)(rows:List (List T))(hl:ops[i]?=some ⟨some d,.range mt x,ty,ps,af,none⟩)(hd:d<N)(hm:(qlz P mt).isSome=true)(hx:σ.get P 0 x=.one (.rn (.mq ag rows)))
  (k:∀b src,(∀p∈H,p.1≠b)->(∀p∈H,src≠p.1)->src≠b->zby P N ops (i+1) (σ.put (some d) (.one (.cv (.pointer (some ⟨b,0,none⟩))))) ((b,.it src ag rows none)::H) K):zby P N ops i σ H K:=zby.stepV hl rfl fun n0 A0 g a w h1 h2=>by
 obtain⟨⟨dd,et⟩,ht⟩:=Je.1 hm
 obtain⟨kt,t1,t2⟩:=zlz ht
 obtain⟨n2,_,z2,z4,z5,z7⟩:=h1.rel
 have hv:=z4.get P 0 x
 rw[hx]at hv
 have hv:zas w (zb8 σ g w) (.mq ag rows) (a.eval x):=hv
 unfold zas at hv
 obtain⟨src,es,clk,e1,hF,q1,q2,q3⟩:=hv
 obtain⟨es2,clk2,c1,c2,c3,c4⟩:=zxe (d:=d) (src:=src) (ag:=ag) (rows:=rows) h1 h2 hd fun n1 f1 f2 f3=>⟨f1 src hF,es,clk,q1,zam.keep (fun _ _=>rfl) (fun y hy=>⟨f1 y hy,hy.1.2.2.2⟩) ag rows _ q2,q3,rfl⟩
 refine⟨_,_,_,_,_,?_,c3,c4,k w.heap.size src c2 (fun p hp e=>(z2 p hp).2 (e▸hF.1.2.2.2)) (fun e=>by have:=hF.1.2.2.1;omega)⟩
 unfold execOp
 simp only[e1,Sem.run_bind,run_range_map w mt kt et src es2 clk2 t1 c1,Result.andThen_ok,Sem.run_pure]
theorem zby.rangeH (j:Nat){src:Nat}{ag:Bool}{rows:List (List T)}(hj:H[j]?=some (src,.mp ag rows))(hl:ops[i]?=some ⟨some d,.range mt x,ty,ps,af,none⟩)(hd:d<N)(hm:(qlz P mt).isSome=true)(hx:σ.get P 0 x=.one (.cv (.map (some src))))
  (k:∀b,(∀p∈H,p.1≠b)->zby P N ops (i+1) (σ.put (some d) (.one (.cv (.pointer (some ⟨b,0,none⟩))))) ((b,.it src ag rows none)::H) K):zby P N ops i σ H K:=zby.stepV hl rfl fun n0 A0 g a w h1 h2=>by
 obtain⟨⟨dd,et⟩,ht⟩:=Je.1 hm
 obtain⟨kt,t1,t2⟩:=zlz ht
 obtain⟨n2,_,z2,z4,z5,z7⟩:=h1.rel
 have hv:=z4.get P 0 x
 rw[hx]at hv
 have e1:a.eval x=.map (some src):=hv
 obtain⟨es2,clk2,c1,c2,c3,c4⟩:=zxe (d:=d) (src:=src) (ag:=ag) (rows:=rows) h1 h2 hd fun n1 f1 f2 f3=>by
  obtain⟨es,clk,q1,q2,q3⟩:=f3 _ (List.mem_of_getElem? hj);exact⟨f2 _ (List.mem_of_getElem? hj),es,clk,q1,q2,q3,rfl⟩
 refine⟨_,_,_,_,_,?_,c3,c4,k w.heap.size c2⟩
 unfold execOp
 simp only[e1,Sem.run_bind,run_range_map w mt kt et src es2 clk2 t1 c1,Result.andThen_ok,Sem.run_pure]
def anyX (ag:Bool)(r:List T):Bool×List C:=(ag,r.tail.map fun _=>.any)
theorem qfb {σ:St}{g:Gh}{w w':World}{A:Nat->Prop}:∀{ts:List T}{vs:List Value},zaf w A ts vs->CRs σ g w' (ts.map fun _=>.any) vs
 | [],vs,h=>by unfold zaf at h;exact h
 | t::ts,vs,h=>by
  unfold zaf at h;obtain⟨v,vs',rfl,h1,h2⟩:=h;exact⟨v,vs',rfl,trivial,qfb h2⟩
theorem zby.next (j:Nat){b src:Nat}{ag:Bool}{left:List (List T)}{last:Option (List T)}{y:Operand}(hj:H[j]?=some (b,.it src ag left last))(hl:ops[i]?=some ⟨some d,.next y false,ty,ps,af,none⟩)(hd:d<N)(hy:σ.get P 0 y=.one (.cv (.pointer (some ⟨b,0,none⟩))))(hni:qcv b H)(hlen:∀r∈left,ag=true\/r.length=2)
  (k0:left=[]->zby P N ops (i+1) (σ.put (some d) (.tup [(false,[.t (.bool false)])])) H K)
  (k1:∀m r,left[m]?=some r->zby P N ops (i+1) (σ.put (some d) (.tup [(false,[.t (.bool true)]),(false,[.any]),anyX ag r])) (H.set j (b,.it src ag (left.eraseIdx m) (some r))) K):zby P N ops i σ H K:=zby.stepV hl rfl fun n0 A0 g a w h1 h2=>by
 obtain⟨n1,z1,z2,z4,z5,z7⟩:=h1.rel
 have hmem:(b,Ob.it src ag left last)∈H:=List.mem_of_getElem? hj
 have hv:=z4.get P 0 y
 rw[hy]at hv
 have e1:a.eval y=.pointer (some ⟨b,0,none⟩):=hv
 obtain⟨hs0,es,clk,seen,q1,q2,q3,q4,q5⟩:=z7 _ hmem
 have q1:w.heap[b]?=some (.mapIter (some src) clk seen clk):=q1
 have hb1:n1 b:=(z2 _ hmem).1
 have hb2:¬g.A0 b:=(z2 _ hmem).2
 have hsb:src≠b:=fun e=>by rw[e,q1]at q2;cases q2
 rcases zwg (P:=P) ty b src clk seen es q1 q2 q3.1 with⟨h0,hrun⟩|⟨m,e,n,he,hrun⟩
 ·refine⟨.tuple #[.bool false],w,_,H,g,?_,h1.keep z1 z2 z7 (z4.put (some d) (x:=.tup [(false,[.t (.bool false)])]) ⟨[.bool false],rfl,.bool false,[],rfl,⟨.t (.bool false),rfl,rfl⟩,rfl⟩ (fun q hq=>by cases hq;exact hd)) z5 (Bk.refl _ _) rfl,Bk.refl _ _,k0 ?_⟩
  ·unfold execOp;simp only[e1,Sem.run_bind,hrun,Result.andThen_ok,Sem.run_pure]
  ·have:=q4.len;rw[h0]at this;exact Km this.symm
 ·obtain⟨r,hr,hre⟩:=q4.at m e he;have hother:∀y,y≠b->({ w with heap:=w.heap.setIfInBounds b (.mapIter (some src) clk (seen.push e.born) clk),drawn:=w.drawn+n }:World).heap[y]?=w.heap[y]?:=(Go.MapKept.heap_set q1).2;have hself:({ w with heap:=w.heap.setIfInBounds b (.mapIter (some src) clk (seen.push e.born) clk),drawn:=w.drawn+n }:World).heap[b]?=some (.mapIter (some src) clk (seen.push e.born) clk):=(Go.MapKept.heap_set q1).1;have hsize:({ w with heap:=w.heap.setIfInBounds b (.mapIter (some src) clk (seen.push e.born) clk),drawn:=w.drawn+n }:World).heap.size=w.heap.size:=by simp
  have hbk:Bk n0 w { w with heap:=w.heap.setIfInBounds b (.mapIter (some src) clk (seen.push e.born) clk),drawn:=w.drawn+n }:=⟨rfl,rfl,rfl,by rw[hsize];exact Qz _,fun y hy=>hother y fun e=>h1.nb _ hmem (e▸hy)⟩;have hme:=mem_left (List.mem_of_getElem? he);generalize hw:({ w with heap:=w.heap.setIfInBounds b (.mapIter (some src) clk (seen.push e.born) clk),drawn:=w.drawn+n }:World)=w2 at hother hself hsize hbk hrun;have hR2:Rel n1 N σ g a w2:=z4.turn (A1:=g.A0) (w':=w2) (fun y hf=>⟨hf.2.2.2,hother y fun e=>hb2 (e▸hf.2.2.2)⟩) (by rw[hsize];exact Qz _) (fun y hy=>z4.anew y hy) (fun l hl=>⟨z4.base l hl,hother _ fun e=>z4.base l hl (e▸hb1)⟩) fun e ho y hy=>⟨z4.etop e ho y hy,(z4.ebase e ho y hy).1,hother y fun q=>z4.etop e ho y hy (q▸hb1)⟩;have hkeep:∀{rs:List (List T)} {l:List MapEntry},zam w (fun x=>n1 x/\g.A0 x) ag rs l->zam w2 (fun x=>n1 x/\g.A0 x) ag rs l:=fun hh=>zam.keep (fun y hy=>hother y fun e=>hb2 (e▸hy.2)) (fun y hy=>hy) ag _ _ hh;have hval:VR σ g w2 (.tup [(false,[.t (.bool true)]),(false,[.any]),anyX ag r]) (.tuple #[.bool true,e.key,e.val]):=by
   refine⟨[.bool true,e.key,e.val],rfl,.bool true,[e.key,e.val],rfl,⟨.t (.bool true),rfl,rfl⟩,e.key,[e.val],rfl,⟨.any,rfl,trivial⟩,e.val,[],rfl,?_,rfl⟩;unfold zam at hre;obtain⟨e',es',us,f1,f2,f3,_⟩:=hre;obtain⟨rfl,rfl⟩:=Yb f1;unfold CRx anyX;cases r with
   | nil=>unfold zaf at f3;cases f3
   | cons t ts =>
    unfold zaf at f3;obtain⟨v0,vs0,g1,g2,g3⟩:=f3;obtain⟨rfl,rfl⟩:=Yb g1;cases ag
    ·simp only[Ql,if_false]at f2⊢;rcases hlen _ (List.mem_of_getElem? hr)with hh|hh
     ·cases hh
     ·cases ts with
      | nil=>simp at hh
      | cons t' ts =>
       cases ts with
       | nil=>exact⟨.any,rfl,trivial⟩
       | cons _ _=>simp at hh
    ·simp only[if_true]at f2⊢;exact⟨us,f2,qfb g3⟩
  refine⟨.tuple #[.bool true,e.key,e.val],w2,_,_,g,?_,⟨⟨n1,z1,fun p hp=>?_,hR2.put (some d) hval (fun q hq=>by cases hq;exact hd),fun y hy=>by rw[hsize];exact z5 y hy,?_⟩,fun p hp=>?_,by rw[zwc hj];exact h1.nd,h1.sub,h1.r0,h1.new⟩,hbk,k1 m r hr⟩
  ·unfold execOp;simp only[e1,Sem.run_bind,hrun,Result.andThen_ok,Sem.run_pure]
  ·obtain⟨q,hq,e⟩:=zf7 hj hp;rw[<-e];exact z2 q hq
  ·refine qjr hj h1.nd hni (fun x hx=>hx.1) (fun h=>hb2 h.2) hother z7 (fun p hp=>(z2 p hp).1) ⟨hs0,es,clk,seen.push e.born,hself,(hother src hsb).trans q2,q3,?_,fun r' hr'=>?_⟩
   ·rw[qj6 q3.2.1 he];exact hkeep (q4.erase m)
   ·obtain rfl:=J7 hr';exact⟨e,hme.1,by simp,hkeep hre⟩
  ·obtain⟨q,hq,e⟩:=zf7 hj hp;rw[<-e];exact h1.nb q hq
theorem zby.entry (j:Nat){b src:Nat}{ag:Bool}{left:List (List T)}{kT:T}{vts:List T}{y:Operand}(hj:H[j]?=some (b,.it src ag left (some (kT::vts))))(hl:ops[i]?=some ⟨some d,.entry y,ty,ps,af,none⟩)(hd:d<N)(hy:σ.get P 0 y=.one (.cv (.pointer (some ⟨b,0,none⟩))))
  (k:zby P N ops (i+1) (σ.put (some d) (.tup [(false,[kT.toN]),qtz ag vts])) H K):zby P N ops i σ H K:=zby.stepV hl rfl fun n0 A0 g a w h1 h2=>by
 obtain⟨n1,z1,z2,z4,z5,z7⟩:=h1.rel
 have hmem:(b,Ob.it src ag left (some (kT::vts)))∈H:=List.mem_of_getElem? hj
 have hv:=z4.get P 0 y
 rw[hy]at hv
 have e1:a.eval y=.pointer (some ⟨b,0,none⟩):=hv
 obtain⟨hs0,es,clk,seen,q1,q2,q3,q4,q5⟩:=z7 _ hmem
 have q1:w.heap[b]?=some (.mapIter (some src) clk seen clk):=q1
 obtain⟨e,he,hbk,hre⟩:=q5 _ rfl
 have hfr:∀y,n1 y/\g.A0 y->zb8 σ g w y:=fun y hy=>zu6 z4 z5 hy.1 hy.2
 unfold zam at hre
 obtain⟨e',es',us,f1,f2,f3,_⟩:=hre
 obtain⟨rfl,rfl⟩:=Yb f1
 unfold zaf at f3
 obtain⟨v0,vs0,g1,g2,g3⟩:=f3
 obtain⟨rfl,rfl⟩:=Yb g1
 have hf:es.find? (·.born==e.born)=some e:=by rw[<-Array.find?_toList];exact find_born e es.toList q3.2.1 he
 refine⟨.tuple #[e.key,e.val],w,_,H,g,?_,h1.keep z1 z2 z7 (z4.put (some d) (x:=.tup [(false,[kT.toN]),qtz ag vts]) ⟨[e.key,e.val],rfl,e.key,[e.val],rfl,⟨_,rfl,qgz (zas.keep (fun _ _=>rfl) hfr _ _ g2)⟩,e.val,[],rfl,qlt f2 (zaf.keep (fun _ _=>rfl) hfr _ _ g3),rfl⟩ (fun q hq=>by cases hq;exact hd)) z5 (Bk.refl _ _) rfl,Bk.refl _ _,k⟩
 unfold execOp
 simp only[e1]
 simp only[Instr.entry,getObj,Sem.run_bind,Sem.run,q1,q2,Result.andThen,hbk,K7,Ql,if_false,hf]
 rfl
end
theorem zrs:∀(H:Hid)(j:Nat),(H.eraseIdx j).map (·.1)=(H.map (·.1)).eraseIdx j
 | [],_=>rfl
 | p::H,0=>rfl
 | p::H,j+1=>by
  show p.1::(H.eraseIdx j).map (·.1)=p.1::(H.map (·.1)).eraseIdx j
  rw[zrs H j]
theorem zbq.pub {c:Code}{σ:St}{H:Hid}{Q:Exit->St->Hid->Prop}(i j:Nat){b:Nat}{ag:Bool}{rows:List (List T)}(hj:H[j]?=some (b,.mp ag rows))(hi:σ.sl i=.one (.cv (.map (some b))))(hni:qcv b H)(k:zbq P N c (σ.put (some i) (.one (.rn (.mq ag rows)))) (H.eraseIdx j) Q):zbq P N c σ H Q:=fun n0 w0 A0 g a w h1 h2 h3=>by
 obtain⟨n1,z1,z2,z4,z5,z7⟩:=h1.rel
 have hmem:(b,Ob.mp ag rows)∈H:=List.mem_of_getElem? hj
 obtain⟨hjl,hje⟩:=List.getElem?_eq_some_iff.1 hj
 obtain⟨es,clk,q1,q2,q3⟩:=z7 _ hmem
 have hb1:n1 b:=(z2 _ hmem).1
 have hR2:Rel n1 N σ { g with A0:=fun x=>g.A0 x\/x=b } a w:=z4.turn (A1:=fun x=>g.A0 x\/x=b) (w':=w) (fun y hf=>⟨Or.inl hf.2.2.2,rfl⟩) (Qz _) (fun y hy=>⟨Or.inl (z4.anew y hy).1,(z4.anew y hy).2⟩) (fun l hl=>⟨z4.base l hl,rfl⟩) fun e ho y hy=>⟨z4.etop e ho y hy,Or.inl (z4.ebase e ho y hy).1,rfl⟩
 have hfr:∀y,n1 y->(g.A0 y\/y=b)->zb8 σ { g with A0:=fun x=>g.A0 x\/x=b } w y:=fun y h1 h2=>zu6 hR2 z5 h1 h2
 have hR3:Rel n1 N (σ.put (some i) (.one (.rn (.mq ag rows)))) { g with A0:=fun x=>g.A0 x\/x=b } a w:=by
  refine hR2.slots_of rfl rfl hR2.defers hR2.size fun l=>?_;show VR _ _ w (upd σ.sl i _ l) _
  by_cases hl:l=i
  ·subst hl;rw[zae];have hv:=z4.slots l;rw[hi]at hv;have hv:a.tmps.getD l (g.R0.ξ l)=.map (some b):=hv;show zas w (zb8 _ _ w) (.mq ag rows) (a.tmps.getD l (g.R0.ξ l))
   rw[hv];unfold zas;exact⟨b,es,clk,rfl,hfr b hb1 (Or.inr rfl),q1,zam.keep (fun _ _=>rfl) (fun x hx=>hfr x hx.1 (Or.inl hx.2)) ag rows _ q2,q3⟩
  ·rw[zak _ _ hl];exact hR2.slots l
 have hsub:(H.eraseIdx j).Sublist H:=List.eraseIdx_sublist ..
 have hnb:∀p∈H.eraseIdx j,p.1≠b:=fun p hp e=>by
  have hids:(H.eraseIdx j).map (·.1)=(H.map (·.1)).eraseIdx j:=zrs H j;have hb':b∈(H.map (·.1)).eraseIdx j:=by rw[<-hids];exact Ka.2 ⟨p,hp,e⟩
  have hg:(H.map (·.1))[j]?=some b:=by rw[List.getElem?_map,hj];rfl
  obtain⟨m,hm,hmb⟩:=List.mem_eraseIdx_iff_getElem?.1 hb'
  have h5:=(List.getElem?_inj (by
   obtain⟨hh,_⟩:=List.getElem?_eq_some_iff.1 hmb
   exact hh) h1.nd).1 (hmb.trans hg.symm)
  exact hm h5
 refine k n0 w0 A0 _ a w ⟨⟨n1,z1,fun p hp=>⟨(z2 p (hsub.subset hp)).1,fun q=>?_⟩,hR3,z5,fun p hp=>zw0.keep (fun _ _=>rfl) (fun x hx=>hx.1) (fun x hx=>⟨hx.1,Or.inl hx.2⟩) (fun x hx=>hx) (z2 p (hsub.subset hp)).1 (z7 p (hsub.subset hp))⟩,fun p hp=>h1.nb p (hsub.subset hp),h1.nd.sublist (hsub.map _),fun x hx=>?_,h1.r0,h1.new⟩ h2 h3
 ·rcases q with q|q
  ·exact(z2 p (hsub.subset hp)).2 q
  ·exact hnb p hp q
 ·rcases hx with hx|rfl
  ·exact h1.sub x hx
  ·exact(h1.new _ (h1.nb _ hmem)).1
theorem zb6.hide {c:Code}{σ:St}{Q:Exit->St->Prop}(h:zbq P N c σ [] (fun e σ' _=>Q e σ')):zb6 P N c σ Q:=fun n0 w0 A0 g a w h1 h2 h3 h4=>by
 obtain⟨A,R⟩:=A0
 obtain⟨e1,e2⟩:=K1 h4
 refine wp_mono (h n0 w0 (A,R) g a w ⟨⟨n0,fun x hx=>hx,fun p hp=>absurd hp (by simp),h1,h2,fun p hp=>absurd hp (by simp)⟩,fun p hp=>absurd hp (by simp),Kn,fun x hx=>by rw[<-e1];exact hx,e2,fun x hx=>by
  have:=h1.anew x hx;rw[e1,e2]at this
  exact this⟩ h2 h3) fun e a' w' hq=>?_
 obtain⟨σ',H',g',k1,k2,k3,k4⟩:=hq
 obtain⟨n1,z1,z2,z4,z5,z7⟩:=k2.rel
 refine⟨σ',{ g' with A0:=A },k1,z4.leave z1 k2.sub fun x hx=>⟨(k2.new x hx).1,?_⟩,k3,k4,?_⟩
 ·rw[k2.r0];exact(k2.new x hx).2
 ·show(A,g'.R0)=(A,R)
  rw[k2.r0]
end
section
open Go.RowKit
variable {P:Program}
theorem qh2 {ops:Array Oper}{listed:Array Bool}(hsz:listed.size=ops.size){i:Nat}(hi:i∈Region.ready .any ops listed):∃h:i<ops.size,listed.getD i false=false/\∀e∈(ops[i]'h).after,Region.binds .any e=true->listed.getD e.on false=true:=by
 unfold Region.ready at hi
 rw[Ju]at hi
 obtain⟨hi1,hi2⟩:=hi
 have hi':=J2.1 hi1
 rw[Array.getElem?_eq_getElem hi']at hi2
 simp only[Q7,Jc,Qe,Yk]at hi2
 obtain⟨hl0,hafter⟩:=hi2
 refine⟨hi',?_,fun e he hbd=>?_⟩
 ·simp only[Array.getD_eq_getD_getElem?]at hl0⊢;rw[Array.getElem?_eq_getElem Yp]at hl0⊢;exact hl0
 ·have:=(Kz.1 hafter) e he;simpa[hbd]using this
theorem qdh {ops:Array Oper}{listed:Array Bool}{ρ:Nat->Nat}(hsz:listed.size=ops.size)(hlt:∀j (h:j<ops.size),∀e∈ops[j].after,Region.binds .any e=true->e.on<ops.size/\ρ e.on<ρ j)(hr:Region.ready .any ops listed=[]):∀j,j<ops.size->listed.getD j false=true:=by
 have key:∀k j,ρ j=k->j<ops.size->listed.getD j false=true:=by
  intro k;induction k using Nat.strongRecOn with
  | _ k ih =>
   intro j hjk hj;cases hl:listed.getD j false with
   | true=>rfl
   | false =>
    exfalso;have hmem:j∈Region.ready .any ops listed:=by
     unfold Region.ready;rw[Ju];refine⟨J2.2 hj,?_⟩;have hl':listed.getD j true=false:=by
      simp only[Array.getD_eq_getD_getElem?]at hl⊢;rw[Array.getElem?_eq_getElem Yp]at hl⊢;exact hl
     rw[hl',Array.getElem?_eq_getElem hj];simp only[Qg,Qs,Q7,Jc];rw[Kz];intro e he;cases hbd:Region.binds .any e with
     | false=>rfl
     | true =>
      obtain⟨h1,h2⟩:=hlt j hj e he hbd;simpa using ih (ρ e.on) Yp e.on rfl h1
    rw[hr]at hmem;exact absurd hmem (by simp)
 exact fun j hj=>key _ j rfl hj
theorem qsb {ops:Array Oper}{listed:Array Bool}{ρ:Nat->Nat}{b:Nat->Nat->Bool}(hlt:∀j (h:j<ops.size),∀e∈ops[j].after,Region.binds .any e=true->e.on<ops.size/\ρ e.on<ρ j)
  (hbef:∀j (h:j<ops.size),∀i,i<ops.size->b j i=true->∃e∈ops[j].after,Region.binds .any e=true/\(e.on=i\/b e.on i=true))
  (hcl:∀j (h:j<ops.size),listed.getD j false=true->∀e∈ops[j].after,Region.binds .any e=true->listed.getD e.on false=true) :
  (∀j (_:j<ops.size),listed.getD j false=true->∀i,i<ops.size->b j i=true->listed.getD i false=true) ∧
  ∀j (h:j<ops.size),(∀e∈ops[j].after,Region.binds .any e=true->listed.getD e.on false=true)->∀i,i<ops.size->b j i=true->listed.getD i false=true:=by
 have key:∀k j (h:j<ops.size),ρ j=k->(∀e∈ops[j].after,Region.binds .any e=true->listed.getD e.on false=true)->∀i,i<ops.size->b j i=true->listed.getD i false=true:=by
  intro k;induction k using Nat.strongRecOn with
  | _ k ih =>
   intro j h hk hl i hi hb;obtain⟨e,he,h1,h2⟩:=hbef j h i hi hb;have hle:=hl e he h1;obtain⟨k1,k2⟩:=hlt j h e he h1;rcases h2 with rfl|h2
   ·exact hle
   ·exact ih (ρ e.on) Yp e.on k1 rfl (hcl e.on k1 hle) i hi h2
 exact⟨fun j h hl i hi hb=>key _ j h rfl (hcl j h hl) i hi hb,fun j h hl i hi hb=>key _ j h rfl hl i hi hb⟩
theorem ziw {listed:Array Bool}{n i:Nat}(hsz:listed.size=n)(hi:i<n)(j:Nat):(listed.setIfInBounds i true).getD j false=if j=i then true else listed.getD j false:=by
 simp only[Array.getD_eq_getD_getElem?,Array.getElem?_setIfInBounds]
 by_cases hji:j=i
 ·subst hji;rw[if_pos rfl,if_pos Yp,if_pos rfl];rfl
 ·rw[if_neg (fun h=>hji h.symm),if_neg hji]
def zku (ops:Array Oper)(π ρ:Nat->Nat)(L:List (List Ky×List Ky)):Bool :=
 let b:=Region.before ops
 (List.range ops.size).all fun j =>
  ((ops.getD (π j) default).after.all fun e=>!Region.binds .any e||(decide (e.on<ops.size)&&decide (ρ e.on<j))) &&
  ((List.range ops.size).all fun i=>!(b.getD (π j) 0).testBit i||(ops.getD (π j) default).after.any fun e=>Region.binds .any e&&(e.on==i||(b.getD e.on 0).testBit i)) &&
  ((List.range j).all fun i=>(b.getD (π j) 0).testBit (π i)||(((L.getD i ([],[])).2.all fun k=>!(L.getD j ([],[])).1.contains k&&!(L.getD j ([],[])).2.contains k)&&(L.getD i ([],[])).1.all fun k=>!(L.getD j ([],[])).2.contains k))
structure PermP (n:Nat)(π ρ:Nat->Nat):Prop where
 to:∀m,m<n->π m<n/\ρ (π m)=m
 fro:∀i,i<n->ρ i<n/\π (ρ i)=i
 out:∀m,n<=m->π m=m
def qws (R W:List Ky)(σ σ':St):Prop:=okK W=true/\okK R=true/\∀k:Ky,k.1<3->k∉W->za8 σ σ' k
structure OrdP (ops:Array Oper)(π ρ:Nat->Nat)(L:List (List Ky×List Ky)):Prop where
 lt:∀j (h:j<ops.size),∀e∈ops[j].after,Region.binds .any e=true->e.on<ops.size/\ρ e.on<ρ j
 bef:∀j (h:j<ops.size),∀i,i<ops.size->((Region.before ops).getD j 0).testBit i=true->∃e∈ops[j].after,Region.binds .any e=true/\(e.on=i\/((Region.before ops).getD e.on 0).testBit i=true)
 dis:∀i j,i<j->j<ops.size->((Region.before ops).getD (π j) 0).testBit (π i)=false->(∀k∈(L.getD i ([],[])).2,k∉(L.getD j ([],[])).1/\k∉(L.getD j ([],[])).2)/\∀k∈(L.getD i ([],[])).1,k∉(L.getD j ([],[])).2
theorem OrdP.of {ops:Array Oper}{π ρ:Nat->Nat}{L:List (List Ky×List Ky)}(hp:PermP ops.size π ρ)(h:zku ops π ρ L=true):OrdP ops π ρ L:=by
 have hget:∀j (h:j<ops.size),ops.getD j default=ops[j]:=fun j h=>by simp[Array.getD,h]
 unfold zku at h
 simp only[Qx,J2,Qe]at h
 refine⟨fun j hj e he hb=>?_,fun j hj i hi hb=>?_,fun i j hij hj hb=>?_⟩
 ·have:=(h (ρ j) (hp.fro j hj).1).1.1;rw[(hp.fro j hj).2,hget j hj]at this;have:=(Kz.1 this) e he;simpa[hb]using this
 ·have:=(h (ρ j) (hp.fro j hj).1).1.2 i hi;rw[(hp.fro j hj).2,hb,hget j hj]at this;simp only[Qb,Kt]at this;obtain⟨e,he,h1⟩:=Array.any_eq_true'.1 this;simp only[Qe,K5,Kk]at h1;exact⟨e,he,h1.1,h1.2⟩
 ·have:=(h j hj).2 i hij;rw[hb]at this;simp only[Kt,Qe,Qx,Yk,List.contains_eq_mem,J4]at this;exact⟨fun k hk=>this.1 k hk,fun k hk=>this.2 k hk⟩
theorem qaf {ops:Array Oper}{π ρ:Nat->Nat}{σs:Nat->St}{L:List (List Ky×List Ky)}{n0:Nat->Prop}{N:Nat}{w0:World}{A0:(Nat->Prop)×RP}{Q:Exit->Act->World->Prop}{m0:Nat}(hp:PermP ops.size π ρ)(ho:OrdP ops π ρ L)
  (hO:∀m,m<ops.size->qws (L.getD m ([],[])).1 (L.getD m ([],[])).2 (σs m) (σs (m+1)))
  (hL:∀m (h:m<ops.size),m≠m0->∀σ1,(∀k∈(L.getD m ([],[])).1,za8 (σs m) σ1 k)->qq6 P ops (ops[π m]'(hp.to m h).1) σ1 (zno σ1 (L.getD m ([],[])).2 (σs (m+1)))) (hdst:∀o∈ops,∀d,o.dst=some d->d<N)
  (hQ:∀g a w,Rel n0 N (σs ops.size) g a w->LtK n0 w->Bk n0 w0 w->(g.A0,g.R0)=A0->Q .normal a w) :
  ∀(fuel:Nat) (listed:Array Bool) (g:Gh) (a:Act) (w:World),listed.size=ops.size->cnt (fun m=>listed.getD (π m) false) ops.size=fuel->listed.getD (π m0) false=true →
   (∀j (h:j<ops.size),listed.getD j false=true->∀e∈ops[j].after,Region.binds .any e=true->listed.getD e.on false=true) →
   Rel n0 N (Fp σs (fun i=>L.getD i ([],[])) (fun m=>listed.getD (π m) false) ops.size) g a w->LtK n0 w->Bk n0 w0 w->(g.A0,g.R0)=A0->wpAny P .any ops Q fuel listed a w:=by
 have hok:∀i,i<ops.size->okK (L.getD i ([],[])).2=true:=fun i h=>(hO i h).1
 have hRk:∀i,i<ops.size->okK (L.getD i ([],[])).1=true:=fun i h=>(hO i h).2.1
 have hoff:∀i,i<ops.size->∀k:Ky,k.1<3->k∉(L.getD i ([],[])).2->za8 (σs i) (σs (i+1)) k:=fun i h=>(hO i h).2.2
 intro fuel
 induction fuel with
 | zero =>
  intro listed g a w hsz hc hl0 hcl hrel hn hb hA;have hall:=zli _ hc;refine⟨?_,?_⟩
  ·rw[List.eq_nil_iff_forall_not_mem];intro i hi;obtain⟨h1,h2,_⟩:=qh2 hsz hi;have:=hall (ρ i) (hp.fro i h1).1;rw[(hp.fro i h1).2,h2]at this;cases this
  ·refine hQ g a w ?_ hn hb hA
   rwa [zpq hok hoff ops.size (Qz _) hall]at hrel
 | succ fuel ih =>
  intro listed g a w hsz hc hl0 hcl hrel hn hb hA;refine⟨fun hr=>?_,fun i hi=>?_⟩
  ·exfalso;have hall:=qdh (ρ:=ρ) hsz ho.lt hr;have hz:cnt (fun m=>listed.getD (π m) false) ops.size=0:=by
    have:∀m,m<=ops.size->cnt (fun m=>listed.getD (π m) false) m=0:=by
     intro m;induction m with
     | zero=>intro _;rfl
     | succ m ihm=>intro hm;unfold cnt;rw[if_pos (hall _ (hp.to m Yp).1),ihm Yp]
    exact this _ (Qz _)
   omega
  ·obtain⟨hi',hl,hdue⟩:=qh2 hsz hi;obtain⟨hbb,hbd⟩:=qsb (listed:=listed) (b:=fun j i=>((Region.before ops).getD j 0).testBit i) ho.lt ho.bef hcl;obtain⟨hr1,hr2⟩:=hp.fro i hi';have hset:∀j,(listed.setIfInBounds i true).getD (π j) false=if j=ρ i then true else listed.getD (π j) false:=fun j=>by
    rw[ziw hsz hi'];by_cases hj:j=ρ i
    ·subst hj;rw[if_pos hr2,if_pos rfl]
    ·rw[if_neg hj,if_neg fun he=>hj ?_];by_cases hjn:j<ops.size
     ·rw[<-he,(hp.to j hjn).2]
     ·rw[hp.out j Yp]at he;omega
   have hlp:listed.getD (π (ρ i)) false=false:=by rw[hr2];exact hl
   have h1:∀j,j<ops.size->((Region.before ops).getD (π (ρ i)) 0).testBit (π j)=true->listed.getD (π j) false=true:=fun j hj hbj=>by
    rw[hr2]at hbj;exact hbd i hi' hdue (π j) (hp.to j hj).1 hbj
   have h2:∀j,j<ops.size->listed.getD (π j) false=true->((Region.before ops).getD (π j) 0).testBit (π (ρ i))=true->listed.getD (π (ρ i)) false=true:=fun j hj hlj hbj=>hbb _ (hp.to j hj).1 hlj _ (by rw[hr2];exact hi') hbj;have hne:ρ i≠m0:=fun he=>by rw[he,hl0]at hlp;cases hlp
   have hG:=hL (ρ i) hr1 hne _ (fun k hk=>zuv (σs:=σs) (RW:=fun i=>L.getD i ([],[])) (b:=fun j i=>((Region.before ops).getD (π j) 0).testBit (π i)) (p:=fun m=>listed.getD (π m) false) hok hoff hRk ho.dis hr1 hlp h1 h2 hk);have hw:=zlm (σs:=σs) (RW:=fun i=>L.getD i ([],[])) (b:=fun j i=>((Region.before ops).getD (π j) 0).testBit (π i)) (p:=fun m=>listed.getD (π m) false) hok ho.dis hr1 hlp h1 h2 (p':=fun j=>(listed.setIfInBounds i true).getD (π j) false) hset;have hcnt:=zms (p:=fun m=>listed.getD (π m) false) (q:=fun j=>(listed.setIfInBounds i true).getD (π j) false) hlp hset ops.size hr1;have hG':=hG n0 N g a w hrel hn (hdst _ (Array.getElem_mem _));rw[<-hw]at hG';have heq:ops[π (ρ i)]'(hp.to _ hr1).1=ops[i]:=by congr 1
   rw[heq]at hG';have next:∀a' w',(∃g',Rel n0 N (Fp σs (fun i=>L.getD i ([],[])) (fun j=>(listed.setIfInBounds i true).getD (π j) false) ops.size) g' a' w'/\Bk n0 w w'/\g'.A0=g.A0/\g'.R0=g.R0)->wpAny P .any ops Q fuel (listed.setIfInBounds i true) a' w':=by
    rintro a' w' ⟨g',k1,k2,k3,k4⟩;refine ih _ g' a' w' (by simpa using hsz) Yp (by rw[hset,if_neg fun he=>hne he.symm];exact hl0) (fun j hj hlj e he hbd=>?_) k1 (hn.mono k2.size) (hb.trans k2) (by rw[k3,k4];exact hA);rw[ziw hsz hi']at hlj⊢;by_cases heo:e.on=i
    ·rw[if_pos heo]
    ·rw[if_neg heo];by_cases hji:j=i
     ·subst hji;exact hdue e he hbd
     ·rw[if_neg hji]at hlj;exact hcl j hj hlj e he hbd
   unfold wpOp;rw[Array.getElem?_eq_getElem hi'];simp only;split
   ·rename_i hwd;rw[if_pos hwd]at hG';exact Or.inl (zc9 next hG')
   ·rename_i hwd;rw[if_neg hwd]at hG';obtain⟨g',k1,k2,k3⟩:=hG';exact next _ _ ⟨g',k1,Bk.refl _ _,k2,k3⟩
def zph (ops:Array Oper)(π:Nat->Nat)(m0:Nat):Bool :=
 (List.range ops.size).all fun j=>decide (j<=m0)||((Region.before ops).getD (π j) 0).testBit (π m0)
theorem qb7 {X:Type}{Pr:X->Prop}{τ:X->St}{ops:Array Oper}{π ρ:Nat->Nat}{σs:Nat->St}{L:List (List Ky×List Ky)}{R W:List Ky}{n0:Nat->Prop}{N:Nat}{w0:World}{A0:(Nat->Prop)×RP}{Q:Exit->Act->World->Prop}{K:St->Prop}{m0:Nat}(hp:PermP ops.size π ρ)(hm0:m0<ops.size)(hbh:zph ops π m0=true)
  (hLl:L.length=m0) (hO:∀m,m<m0->qws (L.getD m ([],[])).1 (L.getD m ([],[])).2 (σs m) (σs (m+1)))
  (hL:∀m (h:m<m0),∀σ1,(∀k∈(L.getD m ([],[])).1,za8 (σs m) σ1 k)->qq6 P ops (ops[π m]'(hp.to m Yp).1) σ1 (zno σ1 (L.getD m ([],[])).2 (σs (m+1)))) (hdst:∀o∈ops,∀d,o.dst=some d->d<N)
  (hg0:(ops[π m0]'(hp.to m0 hm0).1).guard=none) (hR0:okK R=true) (hX:∀σ1,(∀k∈R,za8 (σs m0) σ1 k)->zbn P (ops[π m0]'(hp.to m0 hm0).1) σ1 (fun σ'=>∃x,Pr x/\qws R W (σs m0) (τ x)/\σ'=zno σ1 W (τ x)))
  (hT:∀x,Pr x->∃(L2:List (List Ky×List Ky)) (τs:Nat->St),τs 0=τ x/\(∀m,m+m0+1<ops.size->qws (L2.getD m ([],[])).1 (L2.getD m ([],[])).2 (τs m) (τs (m+1))) ∧
   (∀m (h:m+m0+1<ops.size),∀σ1,(∀k∈(L2.getD m ([],[])).1,za8 (τs m) σ1 k)->qq6 P ops (ops[π (m+m0+1)]'(hp.to _ h).1) σ1 (zno σ1 (L2.getD m ([],[])).2 (τs (m+1))))/\zku ops π ρ (L++(R,W)::L2)=true/\K (τs (ops.size-m0-1)))
  (hord0:zku ops π ρ (L++[(R,[])])=true)
  (hQ:∀σ g a w,K σ->Rel n0 N σ g a w->LtK n0 w->Bk n0 w0 w->(g.A0,g.R0)=A0->Q .normal a w) :
  ∀(fuel:Nat) (listed:Array Bool) (g:Gh) (a:Act) (w:World),listed.size=ops.size->cnt (fun m=>listed.getD (π m) false) ops.size=fuel->(∀j,m0<=j->listed.getD (π j) false=false) →
   (∀j (h:j<ops.size),listed.getD j false=true->∀e∈ops[j].after,Region.binds .any e=true->listed.getD e.on false=true) →
   Rel n0 N (Fp σs (fun i=>L.getD i ([],[])) (fun m=>listed.getD (π m) false) m0) g a w->LtK n0 w->Bk n0 w0 w->(g.A0,g.R0)=A0->wpAny P .any ops Q fuel listed a w:=by
 have ho:=OrdP.of hp hord0
 have hbeh:∀j,j<ops.size->m0<j->((Region.before ops).getD (π j) 0).testBit (π m0)=true:=fun j hj hmj=>by
  unfold zph at hbh;simp only[Qx,J2,K5,Kb]at hbh;exact(hbh j hj).resolve_left Yp
 have hLa:∀(L2:List (List Ky×List Ky)) m,m<m0->(L++L2).getD m ([],[])=L.getD m ([],[]):=fun L2 m hm=>by
  simp only[List.getD_eq_getElem?_getD];rw[List.getElem?_append_left Yp]
 have hL0:∀(r:List Ky×List Ky) (L2:List (List Ky×List Ky)),(L++r::L2).getD m0 ([],[])=r:=fun r L2=>by
  simp only[List.getD_eq_getElem?_getD];rw[List.getElem?_append_right Yp,hLl,Nat.sub_self];rfl
 have hokE:∀i,i<m0+1->okK ((L++[(R,[])]).getD i ([],[])).2=true:=fun i h=>by
  by_cases hi:i=m0
  ·subst hi;rw[hL0];rfl
  ·rw[hLa _ _ Yp];exact(hO i Yp).1
 have hRE:∀i,i<m0+1->okK ((L++[(R,[])]).getD i ([],[])).1=true:=fun i h=>by
  by_cases hi:i=m0
  ·subst hi;rw[hL0];exact hR0
  ·rw[hLa _ _ Yp];exact(hO i Yp).2.1
 have hoffE:∀i,i<m0+1->∀k:Ky,k.1<3->k∉((L++[(R,[])]).getD i ([],[])).2->za8 ((fun j=>if j<=m0 then σs j else σs m0) i) ((fun j=>if j<=m0 then σs j else σs m0) (i+1)) k:=fun i h k h3 hk=>by
  by_cases hi:i=m0
  ·subst hi;simp only[Qz,if_true,if_neg (show ¬i+1<=i by omega)];exact za8.refl _ _
  ·rw[hLa _ _ Yp]at hk;simp only[if_pos (show i<=m0 by omega),if_pos (show i+1<=m0 by omega)];exact(hO i Yp).2.2 k h3 hk
 have hFpE:∀(L2:List (List Ky×List Ky)) (p:Nat->Bool) (τs:Nat->St),(∀j,j<=m0->τs j=σs j)->∀m,m<=m0->Fp τs (fun i=>(L++L2).getD i ([],[])) p m=Fp σs (fun i=>L.getD i ([],[])) p m:=fun L2 p τs hτ m=>by
  induction m with
  | zero=>intro _;exact hτ 0 Yp
  | succ m ih =>
   intro hm;unfold Fp;rw[ih Yp,hτ (m+1) hm,hLa _ _ Yp]
 intro fuel
 induction fuel with
 | zero =>
  intro listed g a w hsz hc hl0 hcl hrel hn hb hA;have hall:listed.getD (π m0) false=true:=zli _ hc m0 hm0;rw[hl0 m0 (Qz _)]at hall;cases hall
 | succ fuel ih =>
  intro listed g a w hsz hc hl0 hcl hrel hn hb hA;refine⟨fun hr=>?_,fun i hi=>?_⟩
  ·exfalso;have hall:=qdh (ρ:=ρ) hsz ho.lt hr (π m0) (hp.to m0 hm0).1;rw[hl0 m0 (Qz _)]at hall;cases hall
  ·obtain⟨hi',hl,hdue⟩:=qh2 hsz hi;obtain⟨hbb,hbd⟩:=qsb (listed:=listed) (b:=fun j i=>((Region.before ops).getD j 0).testBit i) ho.lt ho.bef hcl;obtain⟨hr1,hr2⟩:=hp.fro i hi';have hset:∀j,(listed.setIfInBounds i true).getD (π j) false=if j=ρ i then true else listed.getD (π j) false:=fun j=>by
    rw[ziw hsz hi'];by_cases hj:j=ρ i
    ·subst hj;rw[if_pos hr2,if_pos rfl]
    ·rw[if_neg hj,if_neg fun he=>hj ?_];by_cases hjn:j<ops.size
     ·rw[<-he,(hp.to j hjn).2]
     ·rw[hp.out j Yp]at he;omega
   have hlp:listed.getD (π (ρ i)) false=false:=by rw[hr2];exact hl
   have hle:ρ i<=m0:=Yd fun hlt=>by
    have:=hbeh _ hr1 hlt;rw[hr2]at this;have:=hbd i hi' hdue _ (hp.to m0 hm0).1 this;rw[hl0 m0 (Qz _)]at this;cases this
   have h1:∀j,j<ops.size->((Region.before ops).getD (π (ρ i)) 0).testBit (π j)=true->listed.getD (π j) false=true:=fun j hj hbj=>by
    rw[hr2]at hbj;exact hbd i hi' hdue (π j) (hp.to j hj).1 hbj
   have h2:∀j,j<ops.size->listed.getD (π j) false=true->((Region.before ops).getD (π j) 0).testBit (π (ρ i))=true->listed.getD (π (ρ i)) false=true:=fun j hj hlj hbj=>hbb _ (hp.to j hj).1 hlj _ (by rw[hr2];exact hi') hbj;have hdisE:∀i j,i<j->j<m0+1->((Region.before ops).getD (π j) 0).testBit (π i)=false->(∀k∈((L++[(R,[])]).getD i ([],[])).2,k∉((L++[(R,[])]).getD j ([],[])).1/\k∉((L++[(R,[])]).getD j ([],[])).2)/\∀k∈((L++[(R,[])]).getD i ([],[])).1,k∉((L++[(R,[])]).getD j ([],[])).2:=fun i j hij hj hb=>ho.dis i j hij Yp hb;have hread:∀k∈((L++[(R,[])]).getD (ρ i) ([],[])).1,za8 (σs (ρ i)) (Fp σs (fun i=>L.getD i ([],[])) (fun m=>listed.getD (π m) false) m0) k:=fun k hk=>by
    have:=zuv (σs:=fun j=>if j<=m0 then σs j else σs m0) (RW:=fun i=>(L++[(R,[])]).getD i ([],[])) (n:=m0+1) (b:=fun j i=>((Region.before ops).getD (π j) 0).testBit (π i)) (p:=fun m=>listed.getD (π m) false) hokE hoffE hRE hdisE (i:=ρ i) Yp hlp (fun j hj hbj=>h1 j Yp hbj) (fun j hj=>h2 j Yp) hk;simp only[if_pos hle]at this;have e1:Fp (fun j=>if j<=m0 then σs j else σs m0) (fun i=>(L++[(R,[])]).getD i ([],[])) (fun m=>listed.getD (π m) false) (m0+1)=Fp σs (fun i=>L.getD i ([],[])) (fun m=>listed.getD (π m) false) m0:=by
     rw[Fp,hl0 m0 (Qz _),if_neg (by simp)];exact hFpE _ _ _ (fun j hj=>if_pos hj) m0 (Qz _)
    rwa [e1]at this
   by_cases him:ρ i=m0
   ·-- the operation whose outcome is not known
    rw[him,hL0]at hread;have hG:=hX _ hread n0 N g a w hrel hn (hdst _ (Array.getElem_mem _));have heq:ops[π m0]'(hp.to _ hm0).1=ops[i]:=by
     have:π m0=i:=by rw[<-him];exact hr2
     simp only[this]
    rw[heq]at hG hg0;unfold wpOp;rw[Array.getElem?_eq_getElem hi'];simp only;have hwd:Region.wanted ops[i] (yielded ops a.tmps)=true:=by simp[Region.wanted,hg0]
    rw[if_pos hwd];refine Or.inl (zc9 ?_ hG);rintro a' w' ⟨_,g',⟨x,hx,hox,rfl⟩,k1,k2,k3,k4⟩;obtain⟨L2,τs,t0,t1,t2,t3,t4⟩:=hT x hx;have hLb:∀m,m0<m->(L++(R,W)::L2).getD m ([],[])=L2.getD (m-m0-1) ([],[]):=fun m hm=>by
     simp only[List.getD_eq_getElem?_getD];rw[List.getElem?_append_right Yp,hLl,show m-m0=(m-m0-1)+1 by omega];rfl
    have hOall:∀m,m<ops.size->qws ((L++(R,W)::L2).getD m ([],[])).1 ((L++(R,W)::L2).getD m ([],[])).2 ((fun j=>if j<=m0 then σs j else τs (j-m0-1)) m) ((fun j=>if j<=m0 then σs j else τs (j-m0-1)) (m+1)):=fun m hm=>by
     rcases Nat.lt_trichotomy m m0 with hc|hc|hc
     ·rw[hLa _ _ hc];simp only[if_pos (show m<=m0 by omega),if_pos (show m+1<=m0 by omega)];exact hO m hc
     ·subst hc;rw[hL0];simp only[Qz,if_true,if_neg (show ¬m+1<=m by omega),show m+1-m-1=0 by omega,t0];exact hox
     ·rw[hLb _ hc];simp only[if_neg (show ¬m<=m0 by omega),if_neg (show ¬m+1<=m0 by omega),show m+1-m0-1=(m-m0-1)+1 by omega];exact t1 (m-m0-1) Yp
    have hord:=OrdP.of hp t3;have hw:=zlm (σs:=fun j=>if j<=m0 then σs j else τs (j-m0-1)) (RW:=fun i=>(L++(R,W)::L2).getD i ([],[])) (b:=fun j i=>((Region.before ops).getD (π j) 0).testBit (π i)) (p:=fun m=>listed.getD (π m) false) (fun i h=>(hOall i h).1) hord.dis hr1 hlp h1 h2 (p':=fun j=>(listed.setIfInBounds i true).getD (π j) false) hset;have hFpn:∀d,m0+d<=ops.size->Fp (fun j=>if j<=m0 then σs j else τs (j-m0-1)) (fun i=>(L++(R,W)::L2).getD i ([],[])) (fun m=>listed.getD (π m) false) (m0+d)=Fp σs (fun i=>L.getD i ([],[])) (fun m=>listed.getD (π m) false) m0:=by
     intro d;induction d with
     | zero=>intro _;exact hFpE _ _ _ (fun j hj=>if_pos hj) m0 (Qz _)
     | succ d ihd =>
      intro hd;rw[show m0+(d+1)=(m0+d)+1 by omega,Fp,hl0 (m0+d) Yp,if_neg (by simp)];exact ihd Yp
    have hFn:=hFpn (ops.size-m0) Yp;rw[show m0+(ops.size-m0)=ops.size by omega]at hFn;rw[hFn]at hw;simp only[him,hL0,if_neg (show ¬m0+1<=m0 by omega),show m0+1-m0-1=0 by omega,t0]at hw;rw[<-hw]at k1;have hcnt:=zms (p:=fun m=>listed.getD (π m) false) (q:=fun j=>(listed.setIfInBounds i true).getD (π j) false) hlp hset ops.size hr1;refine qaf (P:=P) (σs:=fun j=>if j<=m0 then σs j else τs (j-m0-1)) (L:=L++(R,W)::L2) (m0:=m0) (w0:=w0) (A0:=A0) hp hord hOall (fun m h hmm=>?_) hdst (fun g a w k1 k2 k3 k4=>?_) fuel (listed.setIfInBounds i true) g' a' w' (by simpa using hsz) Yp (by rw[hset,if_pos him.symm]) (fun j hj hlj e he hbd=>?_) k1 (hn.mono k2.size) (hb.trans k2) (by rw[k3,k4];exact hA)
    ·rcases Nat.lt_or_gt_of_ne hmm with hc|hc
     ·rw[hLa _ _ hc];simp only[if_pos (show m<=m0 by omega),if_pos (show m+1<=m0 by omega)];exact hL m hc
     ·rw[hLb _ hc];simp only[if_neg (show ¬m<=m0 by omega),if_neg (show ¬m+1<=m0 by omega),show m+1-m0-1=(m-m0-1)+1 by omega];have:=t2 (m-m0-1) Yp;simp only[show m-m0-1+m0+1=m by omega]at this;exact this
    ·simp only[if_neg (show ¬ops.size<=m0 by omega)]at k1;exact hQ _ g a w t4 k1 k2 k3 k4
    ·rw[ziw hsz hi']at hlj⊢;by_cases heo:e.on=i
     ·rw[if_pos heo]
     ·rw[if_neg heo];by_cases hji:j=i
      ·subst hji;exact hdue e he hbd
      ·rw[if_neg hji]at hlj;exact hcl j hj hlj e he hbd
   ·have hlt:ρ i<m0:=by omega
    rw[hLa _ _ hlt]at hread;have hG:=hL (ρ i) hlt _ hread
    have hw:=zlm (σs:=σs) (RW:=fun i=>L.getD i ([],[])) (n:=m0) (b:=fun j i=>((Region.before ops).getD (π j) 0).testBit (π i)) (p:=fun m=>listed.getD (π m) false) (fun i h=>(hO i h).1) (fun i j hij hj hb=>by
     have:=hdisE i j hij Yp hb
     rwa [hLa _ _ Yp,hLa _ _ Yp]at this) hlt hlp (fun j hj=>h1 j Yp) (fun j hj=>h2 j Yp) (p':=fun j=>(listed.setIfInBounds i true).getD (π j) false) hset
    have hcnt:=zms (p:=fun m=>listed.getD (π m) false) (q:=fun j=>(listed.setIfInBounds i true).getD (π j) false) hlp hset ops.size hr1;have hG':=hG n0 N g a w hrel hn (hdst _ (Array.getElem_mem _));rw[<-hw]at hG';have heq:ops[π (ρ i)]'(hp.to _ hr1).1=ops[i]:=by congr 1
    rw[heq]at hG';have next:∀a' w',(∃g',Rel n0 N (Fp σs (fun i=>L.getD i ([],[])) (fun j=>(listed.setIfInBounds i true).getD (π j) false) m0) g' a' w'/\Bk n0 w w'/\g'.A0=g.A0/\g'.R0=g.R0)->wpAny P .any ops Q fuel (listed.setIfInBounds i true) a' w':=by
     rintro a' w' ⟨g',k1,k2,k3,k4⟩;refine ih _ g' a' w' (by simpa using hsz) Yp (fun j hj=>by rw[hset,if_neg Yp];exact hl0 j hj) (fun j hj hlj e he hbd=>?_) k1 (hn.mono k2.size) (hb.trans k2) (by rw[k3,k4];exact hA);rw[ziw hsz hi']at hlj⊢;by_cases heo:e.on=i
     ·rw[if_pos heo]
     ·rw[if_neg heo];by_cases hji:j=i
      ·subst hji;exact hdue e he hbd
      ·rw[if_neg hji]at hlj;exact hcl j hj hlj e he hbd
    unfold wpOp;rw[Array.getElem?_eq_getElem hi'];simp only;split
    ·rename_i hwd;rw[if_pos hwd]at hG';exact Or.inl (zc9 next hG')
    ·rename_i hwd;rw[if_neg hwd]at hG';obtain⟨g',k1,k2,k3⟩:=hG';exact next _ _ ⟨g',k1,Bk.refl _ _,k2,k3⟩
end
section
open Go.RowKit
section
variable {P:Program}
theorem qwk {n0:Nat->Prop}{N:Nat}{σ:St}{g:Gh}{a:Act}{w:World}(hR:Rel n0 N σ g a w){c:C}{t:T}(h:CT0 σ c t){v:Value}(hv:CR σ g w c v):zas w (fun b=>b<w.heap.size/\g.A0 b) t v:=by
 have hF:∀b,Fix σ g w b->b<w.heap.size/\g.A0 b:=fun b hb=>⟨hb.2.2.1,hb.2.2.2⟩
 have hFr:∀b,zb8 σ g w b->b<w.heap.size/\g.A0 b:=fun b hb=>hF b hb.1
 cases c with
 | t x =>
  have h:x=t:=h;subst h;exact zas.keep (fun _ _=>rfl) hF x v hv
 | rn x =>
  have h:x=t:=h;subst h;exact zas.keep (fun _ _=>rfl) hFr x v hv
 | nl s =>
  cases t with
  | sl sz rows =>
   have h:rows=[]:=h;subst h;have hv:v=.slice none 0 0:=hv;subst hv;unfold zas;exact⟨none,0,rfl,Qz _,by simp,Or.inl rfl⟩
  | _=>exact h.elim
 | ow e n =>
  cases t with
  | sl sz rows =>
   obtain⟨d,o,he⟩:=h;obtain⟨rfl,-⟩:=hv;cases o
   ·exact zas.keep (fun _ _=>rfl) hF _ _ (hR.offs e _ he rfl).1
   ·have hOn:σ.On e:=⟨_,he,rfl⟩;have hlt:∀b∈g.φ e,b<w.heap.size:=(hR.evs e _ he rfl).lt;obtain⟨ao,cap,e1,e2,e3,e4⟩:=hR.evs e _ he rfl;unfold zas;refine⟨ao,cap,e1,e2,e3,?_⟩;rcases e4 with⟨_,_,e4,_⟩|⟨b,cells,ty,fps,k1,k2,k3,k4,k5⟩
    ·exact Or.inl e4
    ·have hA:∀b'∈g.φ e,b'<w.heap.size/\g.A0 b':=fun b' hb'=>⟨hlt b' hb',(hR.ebase e hOn b' hb').1⟩;refine Or.inr ⟨b,0,k1,hA b (by rw[k2];simp),?_⟩;split at k5
     ·exact zaq.rep b cells ty k3 0 sz rows fps k5 fun b' hb'=>hA b' (by rw[k2];simp[hb'])
     ·exact zaw.keep (fun _ _=>rfl) hF b rfl 0 sz rows k5.2
  | _=>exact h.elim
 | el cs o =>
  cases t with
  | ptr cs' =>
   obtain⟨rfl,rfl⟩:=h;obtain⟨b,q,h1,h2,h3⟩:=hv;unfold zas;exact⟨b,q,h1,hF b h2,zbk.keep (fun _ _=>rfl) hF b rfl q cs h3⟩
  | _=>exact h.elim
 | er cs o =>
  cases t with
  | ptr cs' =>
   obtain⟨rfl,rfl⟩:=h;obtain⟨b,q,h1,h2,h3⟩:=hv;unfold zas;exact⟨b,q,h1,hFr b h2,zbk.keep (fun _ _=>rfl) hFr b rfl q cs h3⟩
  | _=>exact h.elim
 | _=>cases t<;>exact h.elim
theorem qhj {n0:Nat->Prop}{N:Nat}{σ:St}{g:Gh}{a:Act}{w:World}(hR:Rel n0 N σ g a w):∀{cs:List C}{ts:List T},zri σ cs ts->∀{vs:List Value},CRs σ g w cs vs->zaf w (fun b=>b<w.heap.size/\g.A0 b) ts vs
 | [],ts,h,vs,hv=>by rw[show ts=[] from h];unfold zaf;exact hv
 | c::cs,ts,h,vs,hv=>by
  obtain⟨t,ts',rfl,h1,h2⟩:=h;obtain⟨v,vs',rfl,k1,k2⟩:=hv;unfold zaf;exact⟨v,vs',rfl,qwk hR h1 k1,qhj hR h2 k2⟩
def RVe (σ:St):List V->List D->Prop
 | [],[]=>True
 | .one c::vs,.one t::ds=>CT0 σ c t/\RVe σ vs ds
 | .agg cs::vs,.agg ts::ds=>zri σ cs ts/\RVe σ vs ds
 | _,_=>False
theorem RVe.rep {n0:Nat->Prop}{N:Nat}{σ:St}{g:Gh}{a:Act}{w:World}(hR:Rel n0 N σ g a w):∀{vs:List V}{ds:List D},RVe σ vs ds->∀{us:List Value},VRl σ g w vs us->zbf w (fun b=>b<w.heap.size/\g.A0 b) ds us
 | [],[],_,us,hv=>hv
 | .one c::vs,.one t::ds,h,us,hv=>by
  obtain⟨u,us',rfl,k1,k2⟩:=hv;exact⟨u,us',rfl,qwk hR h.1 k1,RVe.rep hR h.2 k2⟩
 | .agg cs::vs,.agg ts::ds,h,us,hv=>by
  obtain⟨u,us',rfl,⟨q,rfl,k1⟩,k2⟩:=hv;exact⟨_,us',rfl,⟨q,rfl,qhj hR h.1 k1⟩,RVe.rep hR h.2 k2⟩
 | [],_::_,h,_,_=>h.elim
 | .one _::_,[],h,_,_=>h.elim
 | .one _::_,.agg _::_,h,_,_=>h.elim
 | .agg _::_,[],h,_,_=>h.elim
 | .agg _::_,.one _::_,h,_,_=>h.elim
 | .tup _::_,[],h,_,_=>h.elim
 | .tup _::_,_::_,h,_,_=>h.elim
def PRe (P:Program)(rs:List ResultVar)(res:List D)(e:Exit)(σ:St):Prop:=match e with
 | .normal=>zar (zbu P σ rs) fun vs=>RVe σ vs res
 | .ret=>zar (zbu P σ rs) fun vs=>RVe σ vs res
 | _=>False
theorem zbo {f:FuncId}{fn:Func}{c:Code}{args res:List D}(hc:zbb P f)(hf:P.funcs[f]?=some fn)(hb:fn.body=some c)(hd:zc2 fn.ntmps c=true)(hN:(rd args).length<=fn.ntmps)
  (h:ex P c [] (PRe P fn.results.toList res) (zec (rd args))):RC P f args res:=by
 refine⟨hc,fun w vs A hv=>?_⟩
 refine calls_of_wp hf hb ?_
 have hg:∀(ds:List D) (vs:List Value),zbf w (fun b=>b<w.heap.size/\A b) ds vs->za3 w (fun b=>b<w.heap.size/\A b/\b∉([]:List Nat)) (rd ds) vs [] []:=by
  intro ds;induction ds with
  | nil=>intro vs h;exact⟨h,rfl,rfl⟩
  | cons d ds ih =>
   rintro vs ⟨v,vs',rfl,h1,h2⟩;refine⟨v,vs',rfl,?_,ih _ h2⟩;cases d with
   | one t=>exact zas.keep (fun _ _=>rfl) (fun b hb=>⟨hb.1,hb.2,by simp⟩) t _ h1
   | agg ts=>obtain⟨a,h0,h1⟩:=h1;exact⟨a,h0,zaf.keep (fun _ _=>rfl) (fun b hb=>⟨hb.1,hb.2,by simp⟩) ts a h1⟩
 obtain⟨g,hg,hR⟩:=Rel.start (A:=A) (A0:=fun b=>A b\/w.heap.size<=b) (R0:=RP.of fun _=>True) (N:=fn.ntmps) (hg _ _ hv) Kn (zcl args) hN (fun _ hb=>Or.inl hb) (fun b hb=>by simp at hb) (fun b hb=>⟨Or.inr (by
  refine Yd fun hlt=>hb ⟨hlt,by simp⟩),trivial⟩)
 refine wp_mono (zbs (w0:=w) c (zec (rd args)) _ hd h g _ w hR (fun k hk=>hk.1) (Bk.refl _ _) hg) fun e a' w' hq=>?_
 obtain⟨σ',g',h1,h2,h3,h4,h5⟩:=hq
 have key:zar (zbu P σ' fn.results.toList) (fun vs=>RVe σ' vs res)->∃v,(results fn a'.tmps).run P w'=.ok v w'/\∃us,Ending.returned v=.returned (zci us)/\zbf w' (fun b=>b<w'.heap.size/\(A b\/w.heap.size<=b)) res us/\Below w.heap.size w w':=fun hk=>by
  unfold zar at hk;split at hk
  ·rename_i vs hvs;obtain⟨us,r1,r2⟩:=zbr h2 fn hvs;refine⟨_,r1,us,rfl,(RVe.rep h2 hk r2).keep (fun _ _=>rfl) fun b hb=>⟨hb.1,?_⟩,h4.os,h4.tape,h4.output,h4.size,fun k hk=>h4.block k ⟨hk,by simp⟩⟩;have:=hb.2;simp only[Qn]at h5;rw[h5.1]at this;exact this
  ·exact hk.elim
 cases e with
 | normal=>exact⟨h2.defers,key h1⟩
 | ret=>exact⟨h2.defers,key h1⟩
 | exit _=>exact h1.elim
 | goto _=>exact h1.elim
 | panic _=>exact h1.elim
 | outgrown=>exact h1.elim
attribute [go_sem] PRe RVe
end
end
section
open Go.RowKit
variable {P:Program}
theorem Rel.apd_fin2 {n0:Nat->Prop}{N:Nat}{σ:St}{g:Gh}{a:Act}{w w':World}(hR:Rel n0 N σ g a w){e:Nat}{x y:Ev}{v v':Value}{vs:List Value}{fps:List Nat}{top:Option Nat}(ht:Tgt n0 σ g w e x v vs fps top)
  (hy:y.on=true) (hst:∀n,σ.has e n->n<=y.gen/\(n=y.gen->g.ψ e n=v'))
  {cons:List (Nat×Ev)} (hc:∀p∈cons,σ.ev p.1=some p.2/\p.2.on=true/\p.1≠e) {fps2:List Nat} (hf2:∀b∈fps2,∃p∈cons,b∈g.φ p.1)
  (nb:Nat) (hnb0:some nb=top\/w.heap.size<=nb) (hsame:∀k,k<w.heap.size->k≠nb->w'.heap[k]?=w.heap[k]?) (hsize:w.heap.size<=w'.heap.size) (hn0:LtK n0 w)
  {fp':List Nat} (hn':fp'.Nodup) (hfp:∀b∈fp',b=nb\/b∈fps\/b∈fps2) (hhead:∀b,fp'.head?=some b->b=nb)
  (hEv:∀A':Nat->Prop,(∀b,Fix σ g w b->A' b)->(∀b,w.heap.size<=b->b<w'.heap.size->b≠nb->A' b)->EvR w' A' y v' fp') :
  Rel n0 N (σ.apd e cons y) { g with ψ:=upd g.ψ e (upd (g.ψ e) y.gen v'),φ:=upd g.φ e fp' } a w':=by
 have hnb:∀b,Fix σ g w b->b≠nb:=fun b hf hb=>by
  subst hb;rcases hnb0 with hh|hh
  ·exact ht.fix b hf hh
  ·have:=hf.2.2.1;omega
 have hbxb:∀k,σ.bx k≠none->g.β k≠nb:=fun k hk hkn=>by
  rcases hnb0 with hh|hh
  ·exact(ht.bx nb (Or.inl hh)).1 k hk hkn
  ·have:=hR.lt hk;omega
 have hltO:∀e',σ.On e'->∀b∈g.φ e',b<w.heap.size:=fun e' he' b hb=>by
  obtain⟨z,hz,ho⟩:=he';exact(hR.evs e' z hz ho).lt b hb
 have hevb:∀e',e'≠e->σ.On e'->nb∉g.φ e':=fun e' hee he' hm=>by
  rcases hnb0 with hh|hh
  ·exact(ht.bx nb (Or.inl hh)).2.2.2 e' hee he' hm
  ·have:=hltO e' he' _ hm;omega
 have hcO:∀p∈cons,σ.On p.1:=fun p hp=>⟨p.2,(hc p hp).1,(hc p hp).2.1⟩
 have hev:∀e' z,e'≠e->(σ.apd e cons y).ev e'=some z->(σ.ev e'=some z/\∀p∈cons,p.1≠e')\/∃q,(e',q)∈cons/\z=q.off:=fun e' z hee he'=>by
  simp only[St.apd,zak _ _ hee]at he';exact zwr e' z he'
 have hlive:∀e' z,e'≠e->(σ.apd e cons y).ev e'=some z->z.on=true->σ.ev e'=some z/\∀p∈cons,p.1≠e':=fun e' z hee he' ho=>by
  rcases hev e' z hee he' with h|⟨q,_,h⟩
  ·exact h
  ·rw[h]at ho;cases ho
 have hon:∀e',e'≠e->(σ.apd e cons y).On e'->σ.On e'/\∀p∈cons,p.1≠e':=fun e' hee he'=>by
  obtain⟨z,hz,ho⟩:=he';obtain⟨h1,h2⟩:=hlive e' z hee hz ho;exact⟨⟨z,h1,ho⟩,h2⟩
 have hyE:(σ.apd e cons y).ev e=some y:=by simp[St.apd,zae]
 have hfix:∀b,b<w.heap.size->g.A0 b->(∀k,σ.bx k≠none->g.β k≠b)->b≠nb->(∀e',e'≠e->(σ.apd e cons y).On e'->(g.φ e').head?≠some b)->Fix (σ.apd e cons y) { g with ψ:=upd g.ψ e (upd (g.ψ e) y.gen v'),φ:=upd g.φ e fp' } w' b:=fun b h1 h2 h3 h4 h5=>by
  refine⟨h3,fun e' z he' ho' hh=>?_,Jp h1 hsize,h2⟩;by_cases hee:e'=e
  ·subst hee;simp only[zae]at hh;exact h4 (hhead b hh)
  ·simp only[zak _ _ hee]at hh;exact h5 e' hee ⟨z,he',ho'⟩ hh
 have hb2:∀b,Fix σ g w b->Fix (σ.apd e cons y) { g with ψ:=upd g.ψ e (upd (g.ψ e) y.gen v'),φ:=upd g.φ e fp' } w' b:=fun b hf =>
  hfix b hf.2.2.1 hf.2.2.2 hf.1 (hnb b hf) fun e' hee he'=>by
   obtain⟨z,hz,ho⟩:=(hon e' hee he').1;exact hf.2.1 e' z hz ho
 have hnewb:∀b,w.heap.size<=b->b<w'.heap.size->b≠nb->Fix (σ.apd e cons y) { g with ψ:=upd g.ψ e (upd (g.ψ e) y.gen v'),φ:=upd g.φ e fp' } w' b:=fun b h1 h2 h3=>by
  refine⟨fun k hk hkb=>by have:=hR.lt hk;simp only at hkb;omega,fun e' z he' ho' hh=>?_,h2,(hR.anew b (hn0.new h1)).1⟩;by_cases hee:e'=e
  ·subst hee;simp only[zae]at hh;exact h3 (hhead b hh)
  ·simp only[zak _ _ hee]at hh;have:=hltO e' (hon e' hee ⟨z,he',ho'⟩).1 b (List.mem_of_mem_head? hh);omega
 have hb1:∀b,Fix σ g w b->w'.heap[b]?=w.heap[b]?:=fun b hf=>hsame b hf.2.2.1 (hnb b hf)
 have hψ:∀e' n,σ.has e' n->(upd g.ψ e (upd (g.ψ e) y.gen v')) e' n=g.ψ e' n:=fun e' n he'=>by
  by_cases hee:e'=e
  ·subst hee;have:=hst n he';rw[zae];by_cases hn:n=y.gen
   ·rw[this.2 hn,hn,zae]
   ·rw[zak _ _ hn]
  ·rw[zak _ _ hee]
 have hfr:∀b,zb8 σ g w b->∀e',(σ.apd e cons y).On e'->b∉upd g.φ e fp' e':=fun b hf e' he' hm=>by
  by_cases hee:e'=e
  ·subst hee;rw[zae]at hm;rcases hfp b hm with h|h|h
   ·exact hnb b hf.1 h
   ·obtain⟨e2,h1,h2⟩:=ht.mem b (Or.inr h);exact hf.2 e2 h1 h2
   ·obtain⟨p,hp,h2⟩:=hf2 b h;exact hf.2 p.1 (hcO p hp) h2
  ·rw[zak _ _ hee]at hm;exact hf.2 e' (hon e' hee he').1 hm
 have m:Mv σ (σ.apd e cons y) g { g with ψ:=upd g.ψ e (upd (g.ψ e) y.gen v'),φ:=upd g.φ e fp' } w w':=by
  refine⟨hb1,hb2,fun b hb=>⟨rfl,hb⟩,fun e' n he'=>⟨?_,hψ e' n he'⟩,hfr⟩;by_cases hee:e'=e
  ·subst hee;exact⟨y,hyE,(hst n he').1⟩
  ·obtain⟨z,hz,hn⟩:=he';obtain⟨q,h1,h2⟩:=zm0 (l:=cons) e' z (fun p hp=>(hc p hp).1) hz;exact⟨q,by simp only[St.apd,zak _ _ hee];exact h1,Yp⟩
 have hread:∀e2 x2,(e2,x2)∈cons->zas w' (Fix (σ.apd e cons y) { g with ψ:=upd g.ψ e (upd (g.ψ e) y.gen v'),φ:=upd g.φ e fp' } w') (.sl x2.sz x2.rows) (g.ψ e2 x2.gen)/\Hd0 (g.ψ e2 x2.gen):=fun e2 x2 hcc=>by
  obtain⟨he2,ho2,hne⟩:=hc _ hcc;have hl2:σ.On e2:=hcO _ hcc;obtain⟨ao,cap,vs2,k1,k2,k3,k4,k5,k6,k7⟩:=hR.vals he2 ho2;rcases k7 with⟨rfl,_,j3,_⟩|⟨b,cells,ty,fps',rfl,j2,j3,j4,j5,_,_⟩
  ·refine⟨?_,fun b o s n c hh=>by simp only at k1;rw[k1]at hh;cases hh⟩;unfold zas;exact⟨none,cap,k1,k2,k3,Or.inl j3⟩
  ·have hbm:b∈g.φ e2:=by simp only at j2;rw[j2];simp
   have hbl:b<w.heap.size:=hltO e2 hl2 b hbm;have hF:Fix (σ.apd e cons y) { g with ψ:=upd g.ψ e (upd (g.ψ e) y.gen v'),φ:=upd g.φ e fp' } w' b:=hfix b hbl (hR.ebase e2 hl2 b hbm).1 (fun k hk hkb=>hR.ebx e2 k hl2 hk (hkb▸hbm)) (fun hbb=>hevb e2 hne hl2 (hbb▸hbm)) fun e' hee he' hh=>by
    obtain⟨q1,q2⟩:=hon e' hee he';exact hR.apart e2 e' hl2 q1 (q2 _ hcc) b hbm (List.mem_of_mem_head? hh)
   have hsb:w'.heap[b]?=w.heap[b]?:=hsame b hbl fun hbb=>hevb e2 hne hl2 (hbb▸hbm);have hrows:zaw w' (Fix (σ.apd e cons y) { g with ψ:=upd g.ψ e (upd (g.ψ e) y.gen v'),φ:=upd g.φ e fp' } w') b 0 x2.sz x2.rows:=by
    refine zaw.of_vals (vs:=vs2) k4 (zaf.keep hb1 hb2 _ _ k6) fun j u hu=>?_;rw[<-j5,List.getElem?_take]at hu;split at hu
    ·simpa[World.cell?,hsb,j3]using hu
    ·cases hu
   refine⟨?_,fun b' o s n c hh=>?_⟩
   ·unfold zas;exact⟨_,cap,k1,k2,k3,Or.inr ⟨b,0,rfl,hF,hrows⟩⟩
   ·simp only at k1;rw[k1]at hh;injection hh with hh _ _
    simp only[Qc,Addr.mk.injEq]at hh;exact⟨hh.2.1.symm,hh.2.2.symm⟩
 have hnn:¬n0 nb:=by
  rcases hnb0 with hh|hh
  ·exact(ht.bx nb (Or.inl hh)).2.1.2.2
  ·exact hn0.new hh
 have hfpP:∀b∈fp',(g.A0 b/\g.R0 b)/\(∀e',e'≠e->(σ.apd e cons y).On e'->b∉g.φ e')/\∀k,σ.bx k≠none->g.β k≠b:=fun b hb=>by
  have old:(some b=top\/b∈fps)->(g.A0 b/\g.R0 b)/\(∀e',e'≠e->(σ.apd e cons y).On e'->b∉g.φ e')/\∀k,σ.bx k≠none->g.β k≠b:=fun hb=>by
   obtain⟨q1,q2,q3,q4⟩:=ht.bx b hb;exact⟨⟨q2.1,q2.2.1⟩,fun e' hee he'=>q4 e' hee (hon e' hee he').1,q1⟩
  rcases hfp b hb with rfl|hb|hb
  ·rcases hnb0 with hh|hh
   ·exact old (Or.inl hh)
   ·exact⟨hR.anew b (hn0.new hh),fun e' hee he' hm=>hevb e' hee (hon e' hee he').1 hm,fun k hk=>hbxb k hk⟩
  ·exact old (Or.inr hb)
  ·obtain⟨p,hcc,hm⟩:=hf2 b hb;have hl2:=hcO p hcc
   exact⟨hR.ebase p.1 hl2 b hm,fun e' hee he' hm2=>by
    obtain⟨q1,q2⟩:=hon e' hee he'
    exact hR.apart p.1 e' hl2 q1 (q2 p hcc) b hm hm2,fun k hk hkb=>hR.ebx p.1 k hl2 hk (hkb▸hm)⟩
 have hfpN:∀b∈fp',¬n0 b:=fun b hb=>by
  rcases hfp b hb with rfl|hb|hb
  ·exact hnn
  ·exact(ht.bx b (Or.inr hb)).2.1.2.2
  ·obtain⟨p,hcc,hm⟩:=hf2 b hb;exact hR.etop p.1 (hcO p hcc) b hm
 refine⟨hR.defers,hR.size,hR.anew,fun i=>m.vr (hR.slots i),fun b cs hb=>?_,hR.base,hR.inj,fun e' z he ho=>?_,fun e' z he ho=>?_,fun e' n=>?_,fun e' he b hb=>?_,fun e' he b hb=>?_,fun e' he=>?_,fun e1 e2 h1 h2 hne b k1 k2=>?_,fun e' k he hk hm=>?_⟩
 ·have hb':σ.bx b=some cs:=hb;obtain⟨vs,ty,k1,k2⟩:=hR.boxes b cs hb'
  exact⟨vs,ty,by
   show w'.heap[g.β b]?=_
   rw[hsame _ (hR.lt (by rw[hb'];simp)) (hbxb b (by rw[hb'];simp))];exact k1,m.crs k2⟩
 ·by_cases hee:e'=e
  ·subst hee;rw[hyE,Qc]at he;subst he;simp only[zae];exact hEv _ hb2 hnewb
  ·simp only[zak _ _ hee];have h1:=(hlive e' z hee he ho).1;have hO:σ.On e':=⟨z,h1,ho⟩;exact m.evr (hR.evs e' z h1 ho) fun b hb=>hsame b (hltO e' hO b hb) fun hbb=>hevb e' hee hO (hbb▸hb)
 ·by_cases hee:e'=e
  ·subst hee;rw[hyE,Qc]at he;subst he;rw[hy]at ho;cases ho
  ·simp only[zak _ _ hee];rcases hev e' z hee he with⟨h1,_⟩|⟨q,hq,rfl⟩
   ·exact⟨m.rep (hR.offs e' z h1 ho).1,(hR.offs e' z h1 ho).2⟩
   ·exact hread e' q hq
 ·by_cases hee:e'=e
  ·subst hee;simp only[zae];by_cases hg:n=y.gen
   ·subst hg;obtain⟨ao,cap,k1,_⟩:=hEv (fun _=>True) (fun _ _=>trivial) fun _ _ _ _=>trivial;exact⟨ao,_,cap,by rw[zae];exact k1⟩
   ·rw[zak _ _ hg];exact hR.slc e' n
  ·simp only[zak _ _ hee];exact hR.slc e' n
 ·by_cases hee:e'=e
  ·subst hee;simp only[zae]at hb;exact(hfpP b hb).1
  ·simp only[zak _ _ hee]at hb;exact hR.ebase e' (hon e' hee he).1 b hb
 ·by_cases hee:e'=e
  ·subst hee;simp only[zae]at hb;exact hfpN b hb
  ·simp only[zak _ _ hee]at hb;exact hR.etop e' (hon e' hee he).1 b hb
 ·by_cases hee:e'=e
  ·subst hee;simp only[zae];exact hn'
  ·simp only[zak _ _ hee];exact hR.nodup e' (hon e' hee he).1
 ·by_cases he1:e1=e<;>by_cases he2:e2=e
  ·exact hne (he1.trans he2.symm)
  ·subst he1;simp only[zae,zak _ _ he2]at k1 k2;exact(hfpP b k1).2.1 e2 he2 h2 k2
  ·subst he2;simp only[zae,zak _ _ he1]at k1 k2;exact(hfpP b k2).2.1 e1 he1 h1 k1
  ·simp only[zak _ _ he1,zak _ _ he2]at k1 k2;exact hR.apart e1 e2 (hon e1 he1 h1).1 (hon e2 he2 h2).1 hne b k1 k2
 ·by_cases hee:e'=e
  ·subst hee;simp only[zae]at hm;exact(hfpP _ hm).2.2 k hk rfl
  ·simp only[zak _ _ hee]at hm;exact hR.ebx e' k (hon e' hee he).1 hk hm
def XS (P:Program)(f:FuncId)(args:List D)(sz:Nat)(Pr:List (List T)->Prop):Prop:=zbb P f/\∀(w:World)(vs:List Value)(A:Nat->Prop),zbf w (fun b=>b<w.heap.size/\A b) args vs →
 Calls P f ⟨vs⟩ w fun e w'=>∃rows u fp,Pr rows/\e=.returned (zci [u])/\EvR w' (fun b=>(b<w'.heap.size/\b∉fp)/\(A b\/w.heap.size<=b)) ⟨false,sz,rows,0,true⟩ u fp/\(∀b∈fp,w.heap.size<=b/\b<w'.heap.size)/\Below w.heap.size w w'
def RX (P:Program)(f:FuncId)(args:List D)(K:List D->Prop):Prop:=zbb P f/\∀(w:World)(vs:List Value)(A:Nat->Prop),zbf w (fun b=>b<w.heap.size/\A b) args vs →
 Calls P f ⟨vs⟩ w fun e w'=>∃res us,K res/\e=.returned (zci us)/\zbf w' (fun b=>b<w'.heap.size/\(A b\/w.heap.size<=b)) res us/\Below w.heap.size w w'
theorem RX.mono {f:FuncId}{args:List D}{K K':List D->Prop}(h:RX P f args K)(hk:∀r,K r->K' r):RX P f args K':=⟨h.1,fun w vs A hv=>(h.2 w vs A hv).mono fun _ _ ⟨res,us,h0,h1,h2,h3⟩=>⟨res,us,hk _ h0,h1,h2,h3⟩⟩
theorem zwk {f:FuncId}{fn:Func}{c:Code}{args:List D}{Q:Exit->St->Prop}(hf:P.funcs[f]?=some fn)(hb:fn.body=some c)(hN:(rd args).length<=fn.ntmps)(h:zb6 P fn.ntmps c (zc4 (rd args)) Q)
  {w:World} {vs:List Value} {A:Nat->Prop} (hv:zbf w (fun b=>b<w.heap.size/\A b) args vs) {K:Ending->World->Prop}
  (hK:∀e σ' g' a' w',Q e σ'->Rel (fun b=>b<w.heap.size/\b∉([]:List Nat)) fn.ntmps σ' g' a' w'->Below w.heap.size w w'->(∀b,g'.A0 b->A b\/w.heap.size<=b)->(e=.normal\/e=.ret)/\∃v,(results fn a'.tmps).run P w'=.ok v w'/\K (.returned v) w'):Calls P f ⟨vs⟩ w K:=by
 refine calls_of_wp hf hb ?_
 have hg:∀(ds:List D) (vs:List Value),zbf w (fun b=>b<w.heap.size/\A b) ds vs->za3 w (fun b=>b<w.heap.size/\A b/\b∉([]:List Nat)) (rd ds) vs [] []:=by
  intro ds;induction ds with
  | nil=>intro vs h;exact⟨h,rfl,rfl⟩
  | cons d ds ih =>
   rintro vs ⟨v,vs',rfl,h1,h2⟩;refine⟨v,vs',rfl,?_,ih _ h2⟩;cases d with
   | one t=>exact zas.keep (fun _ _=>rfl) (fun b hb=>⟨hb.1,hb.2,by simp⟩) t _ h1
   | agg ts=>obtain⟨a,h0,h1⟩:=h1;exact⟨a,h0,zaf.keep (fun _ _=>rfl) (fun b hb=>⟨hb.1,hb.2,by simp⟩) ts a h1⟩
 obtain⟨g,hg0,hR⟩:=Rel.start (A:=A) (A0:=fun b=>A b\/w.heap.size<=b) (R0:=RP.of fun _=>True) (N:=fn.ntmps) (hg _ _ hv) Kn (zcl args) hN (fun _ hb=>Or.inl hb) (fun b hb=>by simp at hb) (fun b hb=>⟨Or.inr (by
  refine Yd fun hlt=>hb ⟨hlt,by simp⟩),trivial⟩)
 have hR0:=zh6 (hg _ _ hv) hR rfl (fun b hb=>⟨⟨hb.1,hb.2.2⟩,by rw[(K1 hg0).1];exact Or.inl hb.2.1⟩)
 refine wp_mono (h _ w (g.A0,g.R0) g _ w hR0 (fun k hk=>hk.1) (Bk.refl _ _) rfl) fun e a' w' hq=>?_
 obtain⟨σ',g',h1,h2,h3,h4,h5⟩:=hq
 obtain⟨he,v,hv1,hv2⟩:=hK e σ' g' a' w' h1 h2 ⟨h4.os,h4.tape,h4.output,h4.size,fun k hk=>h4.block k ⟨hk,by simp⟩⟩ fun b hb=>by
  rw[(K1 h5).1,(K1 hg0).1]at hb;exact hb
 rcases he with rfl|rfl
 ·exact⟨h2.defers,v,hv1,hv2⟩
 ·exact⟨h2.defers,v,hv1,hv2⟩
def PXS (P:Program)(rs:List ResultVar)(sz:Nat)(Pr:List (List T)->Prop)(e:Exit)(σ:St):Prop:=(e=.normal\/e=.ret)/\∃rows,Pr rows/\zar (zbu P σ rs) fun vs=>∃i n,vs=[.one (.ow i n)]/\σ.ev i=some ⟨false,sz,rows,n,true⟩
theorem XS_of {f:FuncId}{fn:Func}{c:Code}{args:List D}{sz:Nat}{Pr:List (List T)->Prop}(hc:zbb P f)(hf:P.funcs[f]?=some fn)(hb:fn.body=some c)(hN:(rd args).length<=fn.ntmps)
  (h:zb6 P fn.ntmps c (zc4 (rd args)) (PXS P fn.results.toList sz Pr)):XS P f args sz Pr:=by
 refine⟨hc,fun w vs A hv=>zwk hf hb hN h hv fun e σ' g' a' w' hq h2 h3 h4=>?_⟩
 obtain⟨he,rows,hk,hr⟩:=hq
 obtain⟨us0,hvs,i,n,rfl,hev⟩:=zai hr
 obtain⟨us,r1,r2⟩:=zbr h2 fn hvs
 obtain⟨u,us',rfl,r3,r4⟩:=r2
 have r4:us'=[]:=r4
 subst r4
 have hu:u=g'.ψ i n:=r3.1
 have hE:=h2.evs i _ hev rfl
 have hOn:σ'.On i:=⟨_,hev,rfl⟩
 refine⟨he,_,r1,rows,u,g'.φ i,hk,rfl,?_,fun b hb=>⟨Yd fun hlt=>h2.etop i hOn b hb ⟨hlt,by simp⟩,(h2.evs i _ hev rfl).lt b hb⟩,h3⟩
 rw[hu]
 obtain⟨ao,cap,q1,q2,q3,q4⟩:=hE
 refine⟨ao,cap,q1,q2,q3,?_⟩
 rcases q4 with q4|⟨b,cells,ty,fps,rfl,q6,q7,q8,q9⟩
 ·exact Or.inl q4
 ·refine Or.inr ⟨b,cells,ty,fps,rfl,q6,q7,q8,?_⟩;simp only[Ql,if_false]at q9⊢;refine⟨q9.1,zaw.keep (fun _ _=>rfl) (fun x hx=>⟨⟨hx.2.2.1,fun hm=>?_⟩,h4 x hx.2.2.2⟩) _ rfl _ _ _ q9.2⟩;rw[q6,q9.1]at hm;have hxb:x=b:=by simpa using hm
  exact hx.2.1 i _ hev rfl (by rw[q6,hxb];rfl)
def St.nsl (σ:St)(d sz:Nat)(rows:List (List T)):St:=(σ.apd (d*32) [] ⟨false,sz,rows,0,true⟩).put (some d) (.one (.ow (d*32) 0))
theorem qby {o:Oper}{σ:St}{x:Operand}{asx:Array Operand}{ts:Array TypeId}{f:FuncId}{cvs:List V}{ds:List D}{d sz:Nat}{Pr:List (List T)->Prop}(ho:o.op=.call ⟨.value x,asx,ts⟩)(hd:o.dst=some d)
  (h:XS P f ds sz Pr) (hc:za0 (σ.get P 0 x)=some (f,cvs)) (hv:zlf σ (σ.gets P asx ts++cvs) ds) (he:σ.ev (d*32)=none):zbn P o σ fun σ'=>∃rows,Pr rows/\σ'=σ.nsl d sz rows:=by
 intro n0 N g a w hR hn hdN
 obtain⟨vs,h1,h2⟩:=zdb hR ho hc h.1
 unfold Oper.wp
 rw[h1]
 have hargs:=(zlf.rep hv h2).keep (A':=fun b=>b<w.heap.size/\Fix σ g w b) (fun _ _=>rfl) fun b hb=>⟨hb.2.2.1,hb⟩
 refine(h.2 w vs (Fix σ g w) hargs).mono ?_
 rintro e w' ⟨rows,u,fp,hp,rfl,o1,o2,hb⟩
 obtain⟨ao,cap,q1,q2,q3,q4⟩:=o1
 have hfp1:∀b∈fp,fp=[b]:=fun b hb=>by
  rcases q4 with⟨_,_,_,q4⟩|⟨b',cells,ty,fps,_,q6,_,_,q9⟩
  ·rw[q4]at hb;simp at hb
  ·simp only[Ql,if_false]at q9;rw[q6,q9.1]at hb⊢;simp only[Qp,Ku,or_false]at hb;rw[hb]
 have hnb:w.heap.size<=fp.head?.getD w.heap.size:=by
  cases fp with
  | nil=>exact Qz _
  | cons b l=>exact(o2 b (by simp)).1
 have hfin:=hR.apd_fin2 (x:=⟨true,sz,[],0,true⟩) (y:=⟨false,sz,rows,0,true⟩) (v':=u) (w':=w') (cons:=[]) (fps2:=[]) (fp':=fp) (Tgt.nil (d*32) sz) rfl (fun n hn=>absurd (zlc he n hn) Yp) (by simp) (by simp) (fp.head?.getD w.heap.size) (Or.inr hnb) (fun k hk _=>hb.block k hk) hb.size hn
  (by
   cases fp with
   | nil=>exact Kn
   | cons b l=>rw[hfp1 b (by simp)];simp) (fun b hb=>Or.inl (by rw[hfp1 b hb];rfl)) (fun b hb=>by rw[hb];rfl) (fun A' hA hA2=>by
   refine⟨ao,cap,q1,q2,q3,q4.imp id ?_⟩;rintro⟨b,cells,ty,fps,r1,r2,r3,r4,r5⟩;refine⟨b,cells,ty,fps,r1,r2,r3,r4,?_⟩;simp only[Ql,if_false]at r5⊢;refine⟨r5.1,zaw.keep (fun _ _=>rfl) (fun y hy=>?_) _ rfl _ _ _ r5.2⟩;rcases hy.2 with hf|hf
   ·exact hA y hf
   ·exact hA2 y hf hy.1.1 fun hyn=>hy.1.2 (by
     rw[r2]at hyn⊢
     rw[hyn];simp))
 have hp2:=hfin.put (some d) (x:=.one (.ow (d*32) 0)) (v:=u) ⟨by simp[zae],⟨false,sz,rows,0,true⟩,by simp[St.apd,zae],Qz _⟩ (fun i hi=>by cases hi;exact hdN d hd)
 rw[<-hd]at hp2
 have e1:σ.nsl d sz rows=(σ.apd (d*32) [] ⟨false,sz,rows,0,true⟩).put o.dst (.one (.ow (d*32) 0)):=by rw[hd];rfl
 rw[<-e1]at hp2
 exact⟨_,_,⟨rows,hp,rfl⟩,hp2,Bk.of_below hb hn,rfl,rfl⟩
theorem qcm {o:Oper}{σ:St}{x:Operand}{asx:Array Operand}{ts:Array TypeId}{f:FuncId}{cvs:List V}{ds:List D}{K:List D->Prop}(ho:o.op=.call ⟨.value x,asx,ts⟩)
  (h:RX P f ds K) (hc:za0 (σ.get P 0 x)=some (f,cvs)) (hv:zlf σ (σ.gets P asx ts++cvs) ds):zbn P o σ fun σ'=>∃res,K res/\σ'=σ.callR o.dst res:=by
 intro n0 N g a w hR hn hdN
 obtain⟨vs,h1,h2⟩:=zdb hR ho hc h.1
 unfold Oper.wp
 rw[h1]
 have hargs:=(zlf.rep hv h2).keep (A':=fun b=>b<w.heap.size/\Fix σ g w b) (fun _ _=>rfl) fun b hb=>⟨hb.2.2.1,hb⟩
 refine(h.2 w vs (Fix σ g w) hargs).mono ?_
 rintro e w' ⟨res,us,hk,rfl,o1,hb⟩
 have hR':Rel n0 N σ g a w':=hR.after hn hb (New.refl σ g (w.heap.size<=·) w' hR.slc)
 refine⟨_,g,⟨res,hk,rfl⟩,?_,Bk.of_below hb hn,rfl,rfl⟩
 have hfix:∀b,(b<w'.heap.size/\(Fix σ g w b\/w.heap.size<=b))->Fix σ g w' b:=fun b hb'=>by
  rcases hb'.2 with hf|hf
  ·exact⟨hf.1,hf.2.1,hb'.1,hf.2.2.2⟩
  ·refine⟨fun k hk e=>by have:=hR.lt hk;omega,fun e x hx ho hh=>?_,hb'.1,(hR.anew b (hn.new hf)).1⟩;have:=(hR.evs e x hx ho).lt b (List.mem_of_mem_head? hh);omega
 exact hR'.put o.dst (ze6 (zbf.vrl (o1.keep (fun _ _=>rfl) hfix)) (fun y hy=>by
  obtain⟨d,_,rfl⟩:=Ka.1 hy
  cases d<;>rfl)) hdN
section
variable {ks:List Fr}{Q:Exit->St->Prop}{σ:St}{ops:Array Oper}{os:List Oper}{ty:TypeId}{ps:String}{af:Array Edge}{x:Operand}{asx:Array Operand}{ts:Array TypeId}{f:FuncId}{ds:List D}
theorem zhq {d:Option Nat}{K:List D->Prop}(h:RX P f ds K)(hp:zar (za0 (σ.get P 0 x)) fun p=>p.1=f/\zlf σ (σ.gets P asx ts++p.2) ds)
  (k:∀res,K res->exo P ops os ks Q (σ.callR d res)):exo P ops (⟨d,.call ⟨.value x,asx,ts⟩,ty,ps,af,none⟩::os) ks Q σ:=by
 obtain⟨⟨f',cvs⟩,h1,rfl,h2⟩:=zai hp
 exact zyy rfl rfl (zbn.mono (fun σ' ⟨res,hk,he⟩=>he▸k res hk) (qcm (o:=⟨d,.call ⟨.value x,asx,ts⟩,ty,ps,af,none⟩) rfl h h1 h2))
end
end
section
open Go.RowKit
variable {P:Program}
def exk (P:Program)(K:List (List Ky×List Ky)->St->Prop):List Oper->List (List Ky×List Ky)->St->Prop
 | [],L,σ=>K L σ
 | o::os,L,σ=>o.guard=none/\zff P o σ fun R W σ'=>exk P K os (L++[(R,W)]) σ'
theorem zml {K:List (List Ky×List Ky)->St->Prop}:∀(os:List Oper)(L:List (List Ky×List Ky))(σ:St),exk P K os L σ->∃(L2:List (List Ky×List Ky))(τs:Nat->St),L2.length=os.length/\τs 0=σ ∧
  (∀j (h:j<os.length),os[j].guard=none/\zf0 P os[j] (L2.getD j ([],[])).1 (L2.getD j ([],[])).2 (τs j) (τs (j+1)))/\K (L++L2) (τs os.length)
 | [],L,σ,h=>⟨[],fun _=>σ,rfl,rfl,fun j hj=>absurd hj (by simp),by rw[Kh];exact h⟩
 | o::os,L,σ,h=>by
  obtain⟨R,W,σ',h1,h2⟩:=zgz h.2;obtain⟨L2,τs,k1,k2,k3,k4⟩:=zml os _ σ' h2;refine⟨(R,W)::L2,fun j=>match j with|0=>σ|j+1=>τs j,by simp[k1],rfl,fun j hj=>?_,by rw[Kf]at k4;exact k4⟩;cases j with
  | zero=>exact⟨h.1,by rw[<-k2]at h1;exact h1⟩
  | succ j=>exact k3 j (by simpa using hj)
theorem zoi {K:List (List Ky×List Ky)->St->Prop}{o:Oper}{os:List Oper}{L:List (List Ky×List Ky)}{σ σ':St}{R W:List Ky}(hg:o.guard=none)(hs:zrh o.op=true)(h:zf0 P o R W σ σ')(k:exk P K os (L++[(R,W)]) σ'):exk P K (o::os) L σ:=by
 refine⟨hg,?_⟩
 unfold zff znh
 rw[if_pos (by rw[hs];rfl)]
 exact⟨R,W,σ',h,k⟩
section
variable (K:List (List Ky×List Ky)->St->Prop)(σ:St)(os:List Oper)(L:List (List Ky×List Ky))(d:Option Nat)(ty:TypeId)(ps:String)(af:Array Edge)
theorem quz:exk P K [] L σ=K L σ:=rfl
theorem zrn {o:Oper}(hg:o.guard=none)(hs:znh P o σ=false):exk P K (o::os) L σ=thn (st P o σ) (fun σ'=>exk P K os (L++[(stR P o σ,stW P o σ)]) σ'):=by
 rw[exk]
 unfold zff
 rw[if_neg (by rw[hs];simp)]
 simp only[hg,true_and]
 rfl
theorem qpu (x:Operand):exk P K (⟨d,.move x,ty,ps,af,none⟩::os) L σ=exk P K os (L++[(zat [x],dK d)]) (σ.put d (σ.get P ty x)):=by
 rw[zrn _ _ _ _ rfl rfl]
 simp[st,st0,zmu,St.out,thn,stR,stW,qbz,zy0,zn6]
theorem qah (x:Operand):exk P K (⟨d,.assign x,ty,ps,af,none⟩::os) L σ=exk P K os (L++[(zat [x],dK d)]) (σ.put d (σ.get P ty x)):=by
 rw[zrn _ _ _ _ rfl rfl]
 simp[st,st0,zmu,St.out,thn,stR,stW,qbz,zy0,zn6]
theorem qod (t:TypeId)(x:Operand):exk P K (⟨d,.load t x,ty,ps,af,none⟩::os) L σ=thn (st P ⟨d,.load t x,ty,ps,af,none⟩ σ) (exk P K os (L++[(zat [x]++vK (σ.get P 0 x),dK d++[])])):=zrn _ _ _ _ rfl rfl
theorem zqq (t:TypeId)(x i:Operand):exk P K (⟨d,.indexAddr t x i,ty,ps,af,none⟩::os) L σ=thn (st P ⟨d,.indexAddr t x i,ty,ps,af,none⟩ σ) (exk P K os (L++[(zat [x,i]++vK (σ.get P t x),dK d++[])])):=zrn _ _ _ _ rfl rfl
theorem zpt (t:TypeId)(x:Operand)(i:Nat):exk P K (⟨d,.fieldAddr t x i,ty,ps,af,none⟩::os) L σ=thn (st P ⟨d,.fieldAddr t x i,ty,ps,af,none⟩ σ) (exk P K os (L++[(zat [x]++[],dK d++[])])):=zrn _ _ _ _ rfl rfl
theorem exk_cg {P:Program}{K:List (List Ky×List Ky)->St->Prop}{os:List Oper}{L:List (List Ky×List Ky)}{σ σ':St}(h:σ=σ'){L':List (List Ky×List Ky)}(hL:L=L'):exk P K os L σ=exk P K os L' σ':=h▸hL▸rfl
end
section
variable {K:List (List Ky×List Ky)->St->Prop}{σ:St}{os:List Oper}{L:List (List Ky×List Ky)}{d:Nat}{t:TypeId}{ty:TypeId}{ps:String}{af:Array Edge}{len:Nat}{parts:Array (Nat×Operand)}{s y:Operand}
theorem kApOO {e e2 gn gn2 sz sz2:Nat}{dp dp2:Bool}{rows rows2:List (List T)}(h:σ.get P t s=.one (.ow e gn)/\σ.get P t y=.one (.ow e2 gn2)/\σ.ev e=some ⟨dp,sz,rows,gn,true⟩/\σ.ev e2=some ⟨dp2,sz2,rows2,gn2,true⟩/\e2≠e/\sz2=sz)(hT:apT P t sz)(hb:rows.length+rows2.length<=4294967296)
  (k:exk P K os (L++[(zat [s,y]++[(2,e),(2,e2)],dK (some d)++[(2,e),(2,e2)])]) ((σ.apd e [(e2,⟨dp2,sz2,rows2,gn2,true⟩)] ⟨dp&&dp2,sz,rows++rows2,gn+1,true⟩).put (some d) (.one (.ow e (gn+1))))):exk P K (⟨some d,.call ⟨.builtin .append,#[s,y],#[t,t]⟩,ty,ps,af,none⟩::os) L σ:=by
 refine zoi rfl rfl ?_ k
 rw[zcw]
 refine zf0.of (o:=⟨some d,_,ty,ps,af,none⟩) (R:=zat [s,y]++[(2,e),(2,e2)]) (l:=(e,_)::zp4 [(e2,_)]) (zba (zbc _) rfl) fun σ1 h1=>?_
 rw[<-zcw]
 obtain⟨k1,k2,k3⟩:=qra (P:=P) (t:=t) h1
 exact qhq ⟨k1.trans h.1,k2.trans h.2.1,(Eq.symm (k3 (2,e) (by simp))).trans h.2.2.1,(Eq.symm (k3 (2,e2) (by simp))).trans h.2.2.2.1,h.2.2.2.2⟩ hT hb
theorem kApOT {e gn sz:Nat}{dp:Bool}{rows rows2:List (List T)}(dp2:Bool)(h:σ.get P t s=.one (.ow e gn)/\(σ.get P t y).rd=.one (.t (.sl sz rows2))/\σ.ev e=some ⟨dp,sz,rows,gn,true⟩)(hf:dp2=true->∀c∈rows2.flatten,c.flat=true)(hT:apT P t sz)(hb:rows.length+rows2.length<=4294967296)
  (k:exk P K os (L++[(zat [s,y]++[(2,e)],dK (some d)++[(2,e)])]) ((σ.apd e [] ⟨dp&&dp2,sz,rows++rows2,gn+1,true⟩).put (some d) (.one (.ow e (gn+1))))):exk P K (⟨some d,.call ⟨.builtin .append,#[s,y],#[t,t]⟩,ty,ps,af,none⟩::os) L σ:=by
 refine zoi rfl rfl ?_ k
 rw[zcw]
 refine zf0.of (o:=⟨some d,_,ty,ps,af,none⟩) (R:=zat [s,y]++[(2,e)]) (l:=(e,_)::zp4 []) (zba (zbc _) rfl) fun σ1 h1=>?_
 rw[<-zcw]
 obtain⟨k1,k2,k3⟩:=qra (P:=P) (t:=t) h1
 exact qgg dp2 ⟨k1.trans h.1,(congrArg V.rd k2).trans h.2.1,(Eq.symm (k3 (2,e) (by simp))).trans h.2.2⟩ hf hT hb
theorem kApNO {z e2 sz gn2:Nat}{dp2:Bool}{rows2:List (List T)}(h:σ.get P t s=.one (.nl z)/\σ.get P t y=.one (.ow e2 gn2)/\σ.ev (d*32)=none/\σ.ev e2=some ⟨dp2,sz,rows2,gn2,true⟩/\e2≠d*32)(hT:apT P t sz)(hb:rows2.length<=4294967296)
  (k:exk P K os (L++[(zat [s,y]++[(2,d*32),(2,e2)],dK (some d)++[(2,d*32),(2,e2)])]) ((σ.apd (d*32) [(e2,⟨dp2,sz,rows2,gn2,true⟩)] ⟨dp2,sz,rows2,0,true⟩).put (some d) (.one (.ow (d*32) 0)))):exk P K (⟨some d,.call ⟨.builtin .append,#[s,y],#[t,t]⟩,ty,ps,af,none⟩::os) L σ:=by
 refine zoi rfl rfl ?_ k
 rw[zcw]
 refine zf0.of (o:=⟨some d,_,ty,ps,af,none⟩) (R:=zat [s,y]++[(2,d*32),(2,e2)]) (l:=(d*32,_)::zp4 [(e2,_)]) (zba (zbc _) rfl) fun σ1 h1=>?_
 rw[<-zcw]
 obtain⟨k1,k2,k3⟩:=qra (P:=P) (t:=t) h1
 exact qdd ⟨k1.trans h.1,k2.trans h.2.1,(Eq.symm (k3 (2,d*32) (by simp))).trans h.2.2.1,(Eq.symm (k3 (2,e2) (by simp))).trans h.2.2.2.1,h.2.2.2.2⟩ hT hb
theorem kApNT {z sz:Nat}{rows2:List (List T)}(dp2:Bool)(h:σ.get P t s=.one (.nl z)/\(σ.get P t y).rd=.one (.t (.sl sz rows2))/\σ.ev (d*32)=none)(hf:dp2=true->∀c∈rows2.flatten,c.flat=true)(hT:apT P t sz)(hb:rows2.length<=4294967296)
  (k:exk P K os (L++[(zat [s,y]++[(2,d*32)],dK (some d)++[(2,d*32)])]) ((σ.apd (d*32) [] ⟨dp2,sz,rows2,0,true⟩).put (some d) (.one (.ow (d*32) 0)))):exk P K (⟨some d,.call ⟨.builtin .append,#[s,y],#[t,t]⟩,ty,ps,af,none⟩::os) L σ:=by
 refine zoi rfl rfl ?_ k
 rw[zcw]
 refine zf0.of (o:=⟨some d,_,ty,ps,af,none⟩) (R:=zat [s,y]++[(2,d*32)]) (l:=(d*32,_)::zp4 []) (zba (zbc _) rfl) fun σ1 h1=>?_
 rw[<-zcw]
 obtain⟨k1,k2,k3⟩:=qra (P:=P) (t:=t) h1
 exact qfw dp2 ⟨k1.trans h.1,(congrArg V.rd k2).trans h.2.1,(Eq.symm (k3 (2,d*32) (by simp))).trans h.2.2⟩ hf hT hb
theorem kApD (dp2:Bool)(h:zar (apV P σ d t s y dp2) fun r=>r.1)(k:exk P K os (L++[(zat [s,y]++apKs (apV P σ d t s y dp2),dK (some d)++apKs (apV P σ d t s y dp2))]) (σ.apV d (apV P σ d t s y dp2))) :
  exk P K (⟨some d,.call ⟨.builtin .append,#[s,y],#[t,t]⟩,ty,ps,af,none⟩::os) L σ:=by
 obtain⟨⟨p,e,x,cons⟩,h1,h2⟩:=zai h
 rw[h1]at k
 unfold Go.Proofs.YtnemmlahbbbobaaGreat.apV at h1
 split at h1
 ·rename_i e0 gn e2 gn2 hs hy;obtain⟨x0,k1,h3⟩:=Qd.1 h1;obtain⟨z,k2,h4⟩:=Qd.1 h3;clear h1 h3;by_cases hc:x0.gen=gn/\x0.on=true/\z.gen=gn2/\z.on=true/\z.sz=x0.sz/\e2≠e0
  ·rw[if_pos hc]at h4;obtain⟨rfl,c2,rfl,c4,c5,c6⟩:=hc;simp only[Qc,Qn]at h4;obtain⟨rfl,rfl,rfl,rfl⟩:=h4;obtain⟨dp,sz,rows,gn,on⟩:=x0;obtain⟨dp2,sz2,rows2,gn2,on2⟩:=z;simp only at c2 c4 c5;subst c2 c4 c5;exact kApOO ⟨hs,qag hy,k1,k2,c6,rfl⟩ h2.1 h2.2 k
  ·rw[if_neg hc]at h4;cases h4
 ·rename_i e0 gn sz rows2 hs hy;obtain⟨x0,k1,h4⟩:=Qd.1 h1;clear h1;by_cases hc:x0.gen=gn/\x0.on=true/\sz=x0.sz
  ·rw[if_pos hc]at h4;obtain⟨rfl,c2,rfl⟩:=hc;simp only[Qc,Qn]at h4;obtain⟨rfl,rfl,rfl,rfl⟩:=h4;obtain⟨dp,sz,rows,gn,on⟩:=x0;simp only at c2;subst c2;exact kApOT dp2 ⟨hs,hy,k1⟩ (fun hd=>zhy (h2.2.2 hd)) h2.1 h2.2.1 k
  ·rw[if_neg hc]at h4;cases h4
 ·rename_i z0 e2 gn2 hs hy;obtain⟨z,k2,h4⟩:=Qd.1 h1;clear h1;by_cases hc:z.gen=gn2/\z.on=true/\e2≠d*32
  ·rw[if_pos hc]at h4;obtain⟨rfl,c2,c3⟩:=hc;simp only[Qc,Qn]at h4;obtain⟨rfl,rfl,rfl,rfl⟩:=h4;obtain⟨dp2,sz2,rows2,gn2,on2⟩:=z;simp only at c2;subst c2;exact kApNO ⟨hs,qag hy,h2.2.2,k2,c3⟩ h2.1 h2.2.1 k
  ·rw[if_neg hc]at h4;cases h4
 ·rename_i z0 sz rows2 hs hy;simp only[Qc,Qn]at h1;obtain⟨rfl,rfl,rfl,rfl⟩:=h1;exact kApNT dp2 ⟨hs,hy,h2.2.2.2⟩ (fun hd=>zhy (h2.2.2.1 hd)) h2.1 h2.2.1 k
 ·cases h1
theorem qjw (h:zar (blS P σ t len parts) fun _=>σ.ev (d*32)=none)
  (k:exk P K os (L++[(zat (parts.toList.map (·.2))++(rK (qib (zk2 P (σ.get P) t len parts))++[(2,d*32)]),dK (some d)++eK [])]) (σ.put (some d) (.one (.t (slOf (blS P σ t len parts)))))) :
  exk P K (⟨some d,.buildSlice t len parts,ty,ps,af,none⟩::os) L σ:=by
 obtain⟨⟨x,cons⟩,h1,h2⟩:=zai h
 rw[h1]at k
 unfold blS at h1
 obtain⟨p,e1,h1⟩:=Qd.1 h1
 obtain⟨q,e2,h1⟩:=Q0.1 h1
 simp only[Qn]at h1
 obtain⟨rfl,rfl⟩:=h1
 rw[e1]at k
 refine zoi rfl rfl ?_ k
 have:=zf0.of (P:=P) (σ:=σ) (o:=⟨some d,.buildSlice t len parts,ty,ps,af,none⟩) (l:=[]) (v:=.one (.t (.sl p.1 q))) (R:=zat (parts.toList.map (·.2))++(rK p.2++[(2,d*32)])) (zba (zbc _) (zba (zuu _) rfl)) fun σ1 h1=>?_
 ·exact this
 ·have e3:zk2 P (σ1.get P) t len parts=zk2 P (σ.get P) t len parts:=zle fun t x hx=>zb7 (fun k hk=>h1 k (by simp[hk])) hx t;have e4:zsy σ1 p.2=zsy σ p.2:=zla fun k hk=>h1 k (by simp[hk]);exact zq9 ⟨e3.trans e1,e4.trans e2,(Eq.symm (h1 (2,d*32) (by simp))).trans h2⟩
end
section
variable {K:List (List Ky×List Ky)->St->Prop}{σ:St}{os:List Oper}{L:List (List Ky×List Ky)}{ty:TypeId}{ps:String}{af:Array Edge}{x:Operand}{asx:Array Operand}{ts:Array TypeId}{f:FuncId}{ds res:List D}
theorem qla {d:Option Nat}(e:Nat)(h:RC P f ds res)(hp:zar (σ.ev e) fun y=>zar (za0 (σ.get P 0 x)) fun p=>p.1=f/\zqx σ e y (σ.gets P asx ts++p.2) ds)
  (k:zar (σ.ev e) fun y=>exk P K os (L++[(zat (x::asx.toList)++[(2,e)],dK d++eK [(e,y.off)])]) ((σ.upE [(e,y.off)]).callR d res)) :
  exk P K (⟨d,.call ⟨.value x,asx,ts⟩,ty,ps,af,none⟩::os) L σ:=by
 obtain⟨y,hy,hp⟩:=zai hp
 obtain⟨y',hy',k⟩:=zai k
 rw[hy]at hy'
 cases hy'
 obtain⟨⟨f',cvs⟩,h1,rfl,h2⟩:=zai hp
 refine zoi rfl rfl ?_ k
 have:=zf0.of (P:=P) (σ:=σ) (o:=⟨d,.call ⟨.value x,asx,ts⟩,ty,ps,af,none⟩) (l:=[(e,y.off)]) (v:=znn (res.map D.toV)) (R:=zat (x::asx.toList)++[(2,e)]) (zba (zbc _) rfl) fun σ1 h3=>?_
 ·exact this
 ·have e1:σ1.get P 0 x=σ.get P 0 x:=zb7 (l:=x::asx.toList) (fun k hk=>h3 k (by simp[hk])) (by simp) 0;have e2:σ1.gets P asx ts=σ.gets P asx ts:=zid ts fun k hk=>h3 k (Qm.2 (Or.inl (zcz hk)));have e3:σ1.ev e=some y:=(Eq.symm (h3 (2,e) (by simp))).trans hy;have hv:zqx σ1 e y (σ1.gets P asx ts++cvs) ds:=by rw[e2];exact zqx.loc h2
  exact zoe e3 rfl h (by rw[e1];exact h1) hv
end
def piL (pl:List Nat)(m:Nat):Nat:=pl.getD m m
def qrq (pl:List Nat)(i:Nat):Nat:=pl.idxOf i
def zxu (pl:List Nat)(n:Nat):Bool:=pl.length==n&&(List.range n).all fun m=>decide (piL pl m<n)&&qrq pl (piL pl m)==m&&decide (qrq pl m<n)&&piL pl (qrq pl m)==m
theorem PermP.of {pl:List Nat}{n:Nat}(h:zxu pl n=true):PermP n (piL pl) (qrq pl):=by
 unfold zxu at h
 simp only[Qe,Qx,J2,Kb,Kk]at h
 obtain⟨h1,h2⟩:=h
 refine⟨fun m hm=>⟨(h2 m hm).1.1.1,(h2 m hm).1.1.2⟩,fun i hi=>⟨(h2 i hi).1.2,(h2 i hi).2⟩,fun m hm=>?_⟩
 unfold piL
 rw[List.getD_eq_getElem?_getD,List.getElem?_eq_none Yp]
 rfl
def xsK (P:Program)(ops:Array Oper)(pl:List Nat)(ks:List Fr)(Q:Exit->St->Prop)(o:Oper)(post:List Oper)(L:List (List Ky×List Ky))(σ1:St):Prop :=
 ∃(X:Type) (R W:List Ky) (Pr:X->Prop) (τ:X->St),o.guard=none/\okK R=true/\(∀σ2,(∀k∈R,za8 σ1 σ2 k)->zbn P o σ2 (fun σ'=>∃x,Pr x/\qws R W σ1 (τ x)/\σ'=zno σ2 W (τ x)))/\zku ops (piL pl) (qrq pl) (L++[(R,[])])=true ∧
  ∀x,Pr x->exk P (fun L σ=>zku ops (piL pl) (qrq pl) L=true/\rt P .normal ks Q σ) post (L++[(R,W)]) (τ x)
def opL (ops:Array Oper)(l:List Nat):List Oper:=l.map fun i=>ops.toList.getD i default
theorem qrm {ops:Array Oper}{l:List Nat}{j:Nat}(h:j<(opL ops l).length):(opL ops l)[j]=ops.toList.getD (l.getD j 0) default:=by
 unfold opL at h⊢
 rw[Qa]at h
 rw[Ye,List.getD_eq_getElem?_getD (l:=l),List.getElem?_eq_getElem h]
 rfl
theorem zl9 {ops:Array Oper}{i:Nat}(h:i<ops.size):ops.toList.getD i default=ops[i]:=by
 rw[List.getD_eq_getElem?_getD,List.getElem?_eq_getElem (by simpa using h)]
 simp
theorem qsg (pl1:List Nat)(m:Nat)(pl2:List Nat){id:Nat}{ops:Array Oper}{ks:List Fr}{Q:Exit->St->Prop}{σ:St}(hmx:P.follows .mixedOrders=true)(hpo:zxu (pl1++m::pl2) ops.size=true)(hbh:zph ops (piL (pl1++m::pl2)) pl1.length=true)
  (h:exk P (xsK P ops (pl1++m::pl2) ks Q (ops.toList.getD m default) (opL ops pl2)) (opL ops pl1) [] σ):ex P (.region id ops true) ks Q σ:=by
 show zeh P id ops σ _
 intro n0 N g a w hR hn hd
 have hp:=PermP.of hpo
 have hlen:(pl1++m::pl2).length=ops.size:=by
  unfold zxu at hpo;rw[Qe]at hpo;simpa using hpo.1
 have hlen':pl1.length+(pl2.length+1)=ops.size:=by simpa using hlen
 obtain⟨L,σs,k1,k2,k3,X,R,W,Pr,τ,x1,x2,x3,x4,x5⟩:=zml _ _ _ h
 have hl1:(opL ops pl1).length=pl1.length:=by simp[opL]
 have hl2:(opL ops pl2).length=pl2.length:=by simp[opL]
 rw[hl1]at k1
 rw[Kx]at x4 x5
 have hat1:∀j,j<pl1.length->piL (pl1++m::pl2) j=pl1.getD j 0:=fun j hj=>by
  unfold piL;simp only[List.getD_eq_getElem?_getD];rw[List.getElem?_append_left hj,List.getElem?_eq_getElem hj];rfl
 have hatm:piL (pl1++m::pl2) pl1.length=m:=by
  unfold piL;simp only[List.getD_eq_getElem?_getD];rw[List.getElem?_append_right Yp,Nat.sub_self];rfl
 have hat2:∀j,j<pl2.length->piL (pl1++m::pl2) (j+pl1.length+1)=pl2.getD j 0:=fun j hj=>by
  unfold piL;simp only[List.getD_eq_getElem?_getD];rw[List.getElem?_append_right Yp,show j+pl1.length+1-pl1.length=j+1 by omega,List.getElem?_cons_succ,List.getElem?_eq_getElem hj];rfl
 have hop1:∀j (hj:j<pl1.length),(opL ops pl1)[j]'Yp=ops[piL (pl1++m::pl2) j]'(hp.to j Yp).1:=fun j hj=>by
  rw[qrm,<-hat1 j hj,zl9 (hp.to j Yp).1]
 have hop2:∀j (hj:j<pl2.length),(opL ops pl2)[j]'Yp=ops[piL (pl1++m::pl2) (j+pl1.length+1)]'(hp.to _ Yp).1:=fun j hj=>by
  rw[qrm,<-hat2 j hj,zl9 (hp.to _ Yp).1]
 have hopm:ops.toList.getD m default=ops[piL (pl1++m::pl2) pl1.length]'(hp.to _ Yp).1:=by
  have:=zl9 (hp.to pl1.length Yp).1;rw[<-this,hatm]
 refine wp_region_any hmx ?_
 have hb:Below w.heap.size w { w with drawn:=w.drawn+1 }:=⟨rfl,rfl,rfl,Qz _,fun _ _=>rfl⟩
 have hR':Rel n0 N (σs 0) g a { w with drawn:=w.drawn+1 }:=by
  rw[k2];exact hR.after hn hb (New.refl σ g (w.heap.size<=·) _ hR.slc)
 have hpf:∀i,(Array.replicate ops.size false).getD i false=false:=fun i=>by
  simp only[Array.getD_eq_getD_getElem?,Array.getElem?_replicate];split<;>rfl
 have hF:Fp σs (fun i=>L.getD i ([],[])) (fun i=>(Array.replicate ops.size false).getD (piL (pl1++m::pl2) i) false) pl1.length=σs 0:=by
  have:∀m',Fp σs (fun i=>L.getD i ([],[])) (fun i=>(Array.replicate ops.size false).getD (piL (pl1++m::pl2) i) false) m'=σs 0:=by
   intro m';induction m' with
   | zero=>rfl
   | succ m' ih=>unfold Fp;rw[hpf,if_neg (by simp)];exact ih
  exact this _
 have hcnt:cnt (fun i=>(Array.replicate ops.size false).getD (piL (pl1++m::pl2) i) false) ops.size=ops.size:=by
  have:∀m',cnt (fun i=>(Array.replicate ops.size false).getD (piL (pl1++m::pl2) i) false) m'=m':=by
   intro m';induction m' with
   | zero=>rfl
   | succ m' ih=>unfold cnt;rw[hpf,if_neg (by simp),ih];omega
  exact this _
 refine qb7 (P:=P) (X:=X) (Pr:=Pr) (τ:=τ) (σs:=σs) (L:=L) (R:=R) (W:=W) (m0:=pl1.length) (w0:=w) (A0:=(g.A0,g.R0)) (K:=qcw P ks Q .normal) hp Yp hbh k1 (fun j hj=>?_) (fun j hj σ1 h1=>?_) hd ?_ x2 (fun σ1 h1=>?_) (fun x hx=>?_) x4 (fun σ' g' a' w' kk k1 k2 k3 k4=>⟨rfl,σ',g',kk,k1,k2,k3,(K1 k4).1,(K1 k4).2⟩) ops.size _ g a _ (by simp) hcnt (fun j _=>hpf _) (fun j h hl=>?_) (by rw[hF];exact hR') (hn.mono (Qz _)) (Bk.of_below hb hn) rfl
 ·obtain⟨_,q⟩:=k3 j Yp;exact⟨q.1,q.2.1,q.2.2.1⟩
 ·obtain⟨q0,q⟩:=k3 j Yp;have:=(q.loc (ops:=ops) q0).2.2.2 σ1 h1
  rwa [hop1 j hj]at this
 ·rw[<-hopm];exact x1
 ·have:=x3 σ1 (by rwa [hl1]);rw[hopm]at this;rw[hl1]at this;exact this
 ·obtain⟨L2,τs,y1,y2,y3,y4⟩:=zml _ _ _ (x5 x hx);rw[hl2]at y1 y4;refine⟨L2,τs,y2,fun j hj=>?_,fun j hj σ1 h1=>?_,?_,?_⟩
  ·obtain⟨_,q⟩:=y3 j Yp;exact⟨q.1,q.2.1,q.2.2.1⟩
  ·obtain⟨q0,q⟩:=y3 j Yp;have:=(q.loc (ops:=ops) q0).2.2.2 σ1 h1
   rwa [hop2 j Yp]at this
  ·have:=y4.1
   rwa [Kf]at this
  ·have:=y4.2
   rwa [show ops.size-pl1.length-1=pl2.length by omega]
 ·rw[hpf]at hl;cases hl
section
variable {ks:List Fr}{Q:Exit->St->Prop}{σ:St}{ops:Array Oper}{pl:List Nat}{post:List Oper}{L:List (List Ky×List Ky)}{ty:TypeId}{ps:String}{af:Array Edge}{x:Operand}{asx:Array Operand}{ts:Array TypeId}{f:FuncId}{ds:List D}
theorem qg5 {d sz:Nat}{Pr:List (List T)->Prop}(h:XS P f ds sz Pr)(hp:zar (za0 (σ.get P 0 x)) fun p=>p.1=f/\zlf σ (σ.gets P asx ts++p.2) ds)(he:σ.ev (d*32)=none)
  (ho:zku ops (piL pl) (qrq pl) (L++[(zat (x::asx.toList)++[(2,d*32)],[])])=true)
  (k:∀rows,Pr rows->exk P (fun L σ=>zku ops (piL pl) (qrq pl) L=true/\rt P .normal ks Q σ) post (L++[(zat (x::asx.toList)++[(2,d*32)],dK (some d)++eK [(d*32,⟨false,sz,rows,0,true⟩)])]) (σ.nsl d sz rows)) :
  xsK P ops pl ks Q ⟨some d,.call ⟨.value x,asx,ts⟩,ty,ps,af,none⟩ post L σ:=by
 obtain⟨⟨f',cvs⟩,h1,rfl,h2⟩:=zai hp
 have hW:∀rows σ,qws (zat (x::asx.toList)++[(2,d*32)]) (dK (some d)++[(2,d*32)]) σ (σ.nsl d sz rows)/\∀σ2:St,σ2.nsl d sz rows=zno σ2 (dK (some d)++[(2,d*32)]) (σ.nsl d sz rows):=fun rows σ=>by
  refine⟨⟨rfl,zba (zbc _) rfl,fun k hk3 hk=>?_⟩,fun σ2=>?_⟩
  ·simp only[dK,List.singleton_append,Qp,Ku,or_false,not_or]at hk;obtain⟨n,i⟩:=k
   match n,hk3 with
   | 0,_=>exact(zak σ.sl _ fun he=>hk.1 (Prod.ext rfl he)).symm
   | 1,_=>rfl
   | 2,_=>exact(zak σ.ev _ fun he=>hk.2 (Prod.ext rfl he)).symm
  ·refine za8.all3 fun c i hc=>?_;by_cases hin:(c,i)∈dK (some d)++[(2,d*32)]
   ·refine za8.trans ?_ (zgv rfl hin).symm;simp only[dK,List.singleton_append,Qp,Ku,or_false,Qn]at hin;rcases hin with⟨rfl,rfl⟩|⟨rfl,rfl⟩
    ·show upd _ _ _ _=upd _ _ _ _
     rw[zae,zae]
    ·show upd _ _ _ _=upd _ _ _ _
     rw[zae,zae]
   ·refine za8.trans ?_ (zdt hc hin).symm;simp only[dK,List.singleton_append,Qp,Ku,or_false,Qn,not_or]at hin
    match c,hc with
    | 0,_=>exact zak σ2.sl _ fun he=>hin.1 ⟨rfl,he⟩
    | 1,_=>rfl
    | 2,_=>exact zak σ2.ev _ fun he=>hin.2 ⟨rfl,he⟩
 refine⟨List (List T),zat (x::asx.toList)++[(2,d*32)],dK (some d)++[(2,d*32)],Pr,fun rows=>σ.nsl d sz rows,rfl,zba (zbc _) rfl,fun σ2 h3=>?_,ho,k⟩
 have e1:σ2.get P 0 x=σ.get P 0 x:=zb7 (l:=x::asx.toList) (fun k hk=>h3 k (by simp[hk])) (by simp) 0
 have e2:σ2.gets P asx ts=σ.gets P asx ts:=zid ts fun k hk=>h3 k (Qm.2 (Or.inl (zcz hk)))
 have e3:σ2.ev (d*32)=none:=(Eq.symm (h3 (2,d*32) (by simp))).trans he
 refine zbn.mono (fun σ' hh=>?_) (qby (P:=P) (o:=⟨some d,.call ⟨.value x,asx,ts⟩,ty,ps,af,none⟩) rfl rfl h (by rw[e1];exact h1) (by rw[e2];exact h2.loc) e3)
 obtain⟨rows,hr,rfl⟩:=hh
 exact⟨rows,hr,(hW rows σ).1,(hW rows σ).2 σ2⟩
end
attribute [go_sem ↓] quz qpu qah qod zqq zpt
attribute [congr] exk_cg
attribute [go_sem] St.nsl opL
end
section
open Go.RowKit
variable {P:Program}{N:Nat}
theorem zbq.cond {c:Operand}{x y:Code}{σ:St}{H:Hid}{Q:Exit->St->Hid->Prop}{b:Bool}(hv:σ.get P 0 c=.one (.t (.bool b)))(ht:b=true->zbq P N x σ H Q)(hf:b=false->zbq P N y σ H Q):zbq P N (.cond c x y) σ H Q:=fun n0 w0 A0 g a w h1 h2 h3=>by
 obtain⟨n1,z1,z2,z4,z5,z7⟩:=h1.rel
 have hs:=z4.get P 0 c
 rw[hv]at hs
 simp only[VR,CR,zas]at hs
 exact wp_cond_split hs (fun e=>ht e n0 w0 A0 g a w h1 h2 h3) (fun e=>hf e n0 w0 A0 g a w h1 h2 h3)
theorem zbq.condT {c:Operand}{x y:Code}{σ:St}{H:Hid}{Q:Exit->St->Hid->Prop}(hv:σ.get P 0 c=.one (.t (.bool true)))(ht:zbq P N x σ H Q):zbq P N (.cond c x y) σ H Q:=zbq.cond hv (fun _=>ht) (fun h=>by cases h)
theorem zbq.cut:∀(n:Nat){c:Code}{σ:St}{H:Hid}{Q:Exit->St->Hid->Prop},okC n c=true->zc2 N (qq2 n c)=true->ex P (qq2 n c) [] (fun e σ'=>qaj P N (sufC n c) Q e σ' H) σ->zbq P N c σ H Q
 | 0,.seq x y,σ,H,Q,_,hd,h=>zbq.seq (zbq.ofEx hd h)
 | n+1,.seq x y,σ,H,Q,ho,hd,h=>by
  simp only[qq2,zc2,Qe]at hd;refine zbq.seq (zbq.mono (Q:=fun e σ' r=>r=H/\qcw P [.seq (qq2 n y)] (fun e σ'=>qaj P N (sufC n y) Q e σ' H) e σ') (fun e σ' r k=>?_) (zbq.ofEx hd.1 (zdo (fun e σ' k=>⟨rfl,k⟩) h)));obtain⟨rfl,k⟩:=k;cases e with
  | normal=>exact zbq.cut n ho hd.2 k
  | exit i=>exact k
  | goto l=>exact k
  | ret=>exact k
  | panic ch=>exact k
  | outgrown=>exact k
theorem Perm.erase_at {α:Type}:∀{l:List α}{m:Nat}{x:α},l[m]?=some x->(x::l.eraseIdx m).Perm l
 | [],m,x,h=>by simp at h
 | y::l,0,x,h=>by simp at h;subst h;exact Jn _
 | y::l,m+1,x,h=>by
  rw[List.eraseIdx_cons_succ];exact(List.Perm.swap y x _).trans ((Perm.erase_at (l:=l) (m:=m) (by simpa using h)).cons y)
theorem zdl {α β:Type}(f:α->β):∀(l:List α)(m:Nat),(l.map f).eraseIdx m=(l.eraseIdx m).map f
 | [],_=>rfl
 | _::_,0=>rfl
 | _::l,m+1=>congrArg _ (zdl f l m)
theorem zg8 {α:Type}{l:List α}{m:Nat}{x:α}(h:l[m]?=some x):(l.eraseIdx m).length+1=l.length:=(Perm.erase_at h).length_eq
attribute [go_sem] zrr qd2 qcc zwu qop ztc qci qtg qmk zvd lkH PXS
end
section
open Go.RowKit
theorem zqw (xs:List Nt)(H:∀x∈xs,∀l:Int,0<=l->l<=1048576->FC Tryz.prog 11 [ntD x,iD l] [iD (szR x.wt l)])(l:Int)(h0:0<=l)(h1:l<=1048576) :
  FC Tryz.prog 43 [.one (ntS xs),iD l] [iD (szR (zus xs) l)]:=by
 refine zd1 (fun hw=>?_) Tryz.call43
 have hl:xs.length<=9223372036854775807:=by simpa[zgs,wfT]using hw.1.1
 refine zad Tryz.call43 Tryz.func43 rfl Yo (zao Yo) ?_
 simp -implicitDefEqProofs only[go_sem,Tryz.results43]
 rw[za6 Yp Yp]
 have hW:zus xs=xs.length+(xs.map Nt.wt).sum:=rfl
 refine⟨fun h=>?_,fun h=>?_⟩
 ·rw[zdr (by simp at h;omega)]
 ·have hlen:(xs.length:Int)<=l:=by simp at h;omega
  refine zag (fun k:Nat=>hd [(0,vT (ntS xs)),(1,vI (l-xs.length-zre Nt.wt xs k)),(5,vI k)] [] []) (fun k=>k<=xs.length/\0<=l-xs.length-zre Nt.wt xs k) (fun k=>xs.length-k) 0 (zac ?_) ?_ ?_
  ·simp -implicitDefEqProofs only[go_sem];simp[zfp]
  ·simpa[zfp]using hlen
  ·intro k ⟨hk,hp⟩;by_cases hlt:k<xs.length
   ·have hs:=zm2 Nt.wt xs k hlt;have hs2:=zwf Nt.wt xs (k+1);simp -implicitDefEqProofs only[go_sem,Qa,zan,hlt,zaj,zaa,zab];refine callF (H xs[k] (Qj hlt) (l-xs.length-zre Nt.wt xs k) hp Yp) (by simp -implicitDefEqProofs only[go_sem,zaj,zaa,zab]) ?_;simp -implicitDefEqProofs only[go_sem,zaj,zaa,zab];refine⟨fun h=>?_,fun h=>?_⟩
    ·have:=zf3 hp (by simpa using h);rw[zdr Yp]
    ·obtain⟨h2,h3⟩:=zdx (by simpa using h);rw[zap Yp];exact⟨k+1,⟨hlt,Yp⟩,Yp,zac (by simp -implicitDefEqProofs only[go_sem];rw[h3];congr 1;omega)⟩
   ·simp -implicitDefEqProofs only[go_sem,Qa,hlt];have hall:=zpv Nt.wt xs k Yp;rw[hall,zo3 Yp];congr 1;omega
theorem zqr (xs:List Nt)(H:∀x∈xs,FC Tryz.prog 13 [ntD x] [ntD x])(hs:xs.length<=1048576) :
  FC Tryz.prog 47 [.one (ntS xs)] [.one (ntS xs)]:=by
 refine zd1 (fun hw=>?_) Tryz.call47
 refine zad Tryz.call47 Tryz.func47 rfl Yo (zao Yo) ?_
 simp -implicitDefEqProofs only[go_sem,Tryz.results47]
 refine ql6 (by simp -implicitDefEqProofs only[go_sem];omega) ?_
 simp -implicitDefEqProofs only[go_sem]
 refine zag (fun k:Nat=>hd [(0,vT (ntS xs)),(3,.one (.ow 224 0)),(4,vI k)] [] [(224,⟨true,10,(xs.take k).map ntC++List.replicate (xs.length-k) [T.int .i64 0,T.int .i64 0,T.str [],T.sl 2 [],T.str [],T.sl 5 [],T.int .i64 0,T.str [],T.sl 2 [],T.sl 10 []],0,true⟩)]) (fun k=>k<=xs.length) (fun k=>xs.length-k) 0 (zac ?_) ?_ ?_
 ·simp -implicitDefEqProofs only[go_sem];simp
 ·simp
 ·intro k hk;by_cases hlt:k<xs.length
  ·have hlen:((xs.take k).map ntC++List.replicate (xs.length-k) [T.int .i64 0,T.int .i64 0,T.str [],T.sl 2 [],T.str [],T.sl 5 [],T.int .i64 0,T.str [],T.sl 2 [],T.sl 10 []]).length=xs.length:=by simp;omega
   have hlt2:k<k+(xs.length-k):=by omega
   simp -implicitDefEqProofs only[go_sem,Qa,zan,hlt,zaj,zaa,zab];refine callF (H xs[k] (Qj hlt)) (by simp -implicitDefEqProofs only[go_sem,zaj,zaa,zab,hlen,hlt,Qu,Qa,Qq,K6,Jq hk,hlt2]) ?_;simp -implicitDefEqProofs only[go_sem,zaj,zaa,zab,hlen,hlt,Qu,Qa,Qq,K6,Jq hk,hlt2];refine zdq (by simp -implicitDefEqProofs only[go_sem];simp) ?_;simp -implicitDefEqProofs only[go_sem];rw[zap Yp];refine⟨k+1,Yp,Yp,zac ?_⟩;simp -implicitDefEqProofs only[go_sem];have hf:=zgu ((xs.take k).map ntC) xs.length k [T.int .i64 0,T.int .i64 0,T.str [],T.sl 2 [],T.str [],T.sl 5 [],T.int .i64 0,T.str [],T.sl 2 [],T.sl 10 []] (ntC xs[k]) (by simp;omega) hlt (by simp[zaj,zaa,zab]);simp only[zaj,zaa,zab]at hf;rw[hf,Qk hlt,Q2,Ko];simp only[zaj,zaa,zab]
  ·simp -implicitDefEqProofs only[go_sem,Qa,hlt];simp[Qv (show xs.length<=k by omega),show xs.length-k=0 by omega]
theorem zp1 (xs ys:List Nt)(H:∀x∈xs,∀y,FC Tryz.prog 15 [ntD x,ntD y] [bD (same x y)]) :
  FC Tryz.prog 50 [.one (ntS xs),.one (ntS ys)] [bD (same xs ys)]:=by
 refine zd1 (fun hw=>?_) Tryz.call50
 have hl:xs.length<=9223372036854775807:=by simpa[zgs,wfT]using hw.1.1
 have hl2:ys.length<=9223372036854775807:=by simpa[zgs,wfT]using hw.2.1.1
 refine zad Tryz.call50 Tryz.func50 rfl Yo (zao Yo) ?_
 simp -implicitDefEqProofs only[go_sem,Tryz.results50]
 refine⟨fun h=>?_,fun h=>?_⟩
 ·rw[zb2.2 (by rintro rfl;simp at h)]
 ·have hlen:xs.length=ys.length:=by simp at h;omega
  refine zag (fun k:Nat=>hd [(0,vT (ntS xs)),(1,vT (ntS ys)),(4,vB false),(5,vI k)] [] []) (fun k=>k<=xs.length/\same xs ys=same (xs.drop k) (ys.drop k)) (fun k=>xs.length-k) 0 (zac ?_) ?_ ?_
  ·simp -implicitDefEqProofs only[go_sem]
  ·simp
  ·intro k ⟨hk,hr⟩;by_cases hlt:k<xs.length
   ·have hk2:k<ys.length:=by omega
    simp -implicitDefEqProofs only[go_sem,Qa,hlt];refine drawn Yo ?_;simp -implicitDefEqProofs only[go_sem,Qa,zan,hlt,hk2,zaj,zaa,zab];refine zav (H xs[k] (Qj hlt) ys[k]) (by simp -implicitDefEqProofs only[go_sem,zaj,zaa,zab]) ?_;simp -implicitDefEqProofs only[go_sem,zaj,zaa,zab];refine⟨Yo,fun h=>?_,fun h=>?_⟩
    ·rw[hr,Qh hlt,Qh hk2,zcm,show same xs[k] ys[k]=false by simpa using h];rfl
    ·rw[Qh hlt,Qh hk2,zcm,show same xs[k] ys[k]=true by simpa using h,Qs]at hr;rw[zap Yp];exact⟨k+1,⟨Yp,hr⟩,Yp,zac Yn⟩
   ·simp -implicitDefEqProofs only[go_sem,Qa,hlt];rw[hr,Qt Yp,Qt Yp,zfb]
theorem zt8 (a:Nt)(H:∀l:Int,0<=l->l<=1048576->FC Tryz.prog 43 [.one (ntS a.parts),iD l] [iD (szR (zus a.parts) l)])(l:Int)(h0:0<=l)(h1:l<=1048576) :
  FC Tryz.prog 11 [ntD a,iD l] [iD (szR a.wt l)]:=by
 refine zd1 (fun hw=>?_) Tryz.call11
 simp only[ntD,zaj,zaa,zab]at hw⊢
 have hW:=a.wt_eq
 have hls:True:=by simp[zgs,wfT,zsa]at hw;simp[hw]
 refine zad Tryz.call11 Tryz.func11 rfl Yo (zao Yo) ?_
 simp -implicitDefEqProofs only[go_sem,Tryz.results11]
 refine callF (zvh a.form l Yp Yp) (by simp -implicitDefEqProofs only[go_sem,zaj,zaa,zab,zaa,zab]) ?_
 simp -implicitDefEqProofs only[go_sem,zaj,zaa,zab,zaa,zab]
 refine⟨fun h1=>?_,fun h1=>?_⟩
 ·have:=zf3 Yp (show szR a.form.wt l<0 by simpa using h1);rw[zdr (by have hu0:zus a.parts=a.parts.length+(a.parts.map Nt.wt).sum:=rfl; omega)]
 obtain⟨k1,j1⟩:=zdx (show ¬szR a.form.wt l<0 by simpa using h1)
 refine callF (zya a.term (szR a.form.wt l) Yp Yp) (by simp -implicitDefEqProofs only[go_sem,zaj,zaa,zab,zab]) ?_
 simp -implicitDefEqProofs only[go_sem,zaj,zaa,zab,zab]
 refine⟨fun h2=>?_,fun h2=>?_⟩
 ·have:=zf3 Yp (show szR a.term.wt (szR a.form.wt l)<0 by simpa using h2);rw[zdr (by have hu0:zus a.parts=a.parts.length+(a.parts.map Nt.wt).sum:=rfl; omega)]
 obtain⟨k2,j2⟩:=zdx (show ¬szR a.term.wt (szR a.form.wt l)<0 by simpa using h2)
 refine callF (H (szR a.term.wt (szR a.form.wt l)) Yp Yp) (by simp -implicitDefEqProofs only[go_sem,zaj,zaa,zab]) ?_
 simp -implicitDefEqProofs only[go_sem,zaj,zaa,zab]
 refine⟨fun h3=>?_,fun h3=>?_⟩
 ·have:=zf3 Yp (show szR (zus a.parts) (szR a.term.wt (szR a.form.wt l))<0 by simpa using h3);rw[zdr (by have hu0:zus a.parts=a.parts.length+(a.parts.map Nt.wt).sum:=rfl; omega)]
 obtain⟨k3,j3⟩:=zdx (show ¬szR (zus a.parts) (szR a.term.wt (szR a.form.wt l))<0 by simpa using h3)
 rw[show szR a.wt l=l-a.wt from zo3 (by have hu0:zus a.parts=a.parts.length+(a.parts.map Nt.wt).sum:=rfl; omega)];exact zza (by have hu0:zus a.parts=a.parts.length+(a.parts.map Nt.wt).sum:=rfl; omega)
theorem zrt (a:Nt)(H:FC Tryz.prog 47 [.one (ntS a.parts)] [.one (ntS a.parts)])(hs:a.wt<=1048576):FC Tryz.prog 13 [ntD a] [ntD a]:=by
 have hW:=a.wt_eq
 simp only[ntD,zaj,zaa,zab]
 refine zad Tryz.call13 Tryz.func13 rfl Yo (zao Yo) ?_
 simp -implicitDefEqProofs only[go_sem,Tryz.results13]
 refine callF (zu1 a.form (by have hu0:zus a.parts=a.parts.length+(a.parts.map Nt.wt).sum:=rfl; omega)) (by simp -implicitDefEqProofs only[go_sem,zaj,zaa,zab,zaa,zab]) ?_
 simp -implicitDefEqProofs only[go_sem,zaj,zaa,zab,zaa,zab]
 refine callF (zzg a.term (by have hu0:zus a.parts=a.parts.length+(a.parts.map Nt.wt).sum:=rfl; omega)) (by simp -implicitDefEqProofs only[go_sem,zaj,zaa,zab,zab]) ?_
 simp -implicitDefEqProofs only[go_sem,zaj,zaa,zab,zab]
 refine callF (H) (by simp -implicitDefEqProofs only[go_sem,zaj,zaa,zab]) ?_
 simp -implicitDefEqProofs only[go_sem,zaj,zaa,zab]
theorem zsb (a b:Nt)(H:FC Tryz.prog 50 [.one (ntS a.parts),.one (ntS b.parts)] [bD (same a.parts b.parts)]):FC Tryz.prog 15 [ntD a,ntD b] [bD (same a b)]:=by
 simp only[ntD,zaj,zaa,zab]
 refine zad Tryz.call15 Tryz.func15 rfl Yo (zao Yo) ?_
 simp -implicitDefEqProofs only[go_sem,Tryz.results15]
 refine⟨fun h1=>?_,fun h1=>?_⟩
 ·rw[zb2.2 (by rintro rfl;simp[zax]at h1)]
 refine callF (zhz a.form b.form) (by simp -implicitDefEqProofs only[go_sem,zaj,zaa,zab,zaa,zab]) ?_
 simp -implicitDefEqProofs only[go_sem,zaj,zaa,zab,zaa,zab]
 refine⟨fun h2=>?_,fun h2=>?_⟩
 ·rw[zb2.2 (by rintro rfl;simp[zax]at h2)]
 refine⟨fun h3=>?_,fun h3=>?_⟩
 ·rw[zb2.2 (by rintro rfl;simp[zax]at h3)]
 refine callF (zxz a.term b.term) (by simp -implicitDefEqProofs only[go_sem,zaj,zaa,zab,zab]) ?_
 simp -implicitDefEqProofs only[go_sem,zaj,zaa,zab,zab]
 refine⟨fun h4=>?_,fun h4=>?_⟩
 ·rw[zb2.2 (by rintro rfl;simp[zax]at h4)]
 refine callF (H) (by simp -implicitDefEqProofs only[go_sem,zaj,zaa,zab]) ?_
 simp -implicitDefEqProofs only[go_sem,zaj,zaa,zab]
 refine⟨fun h5=>?_,fun h5=>?_⟩
 ·rw[zb2.2 (by rintro rfl;simp[zax]at h5)]
 rw[zbj.2 (by cases a;cases b;simp[zbj,Nt.rule,Nt.form,Nt.label,Nt.term,Nt.parts]at h1 h2 h3 h4 h5⊢;simp[h1,h2,h3,h4,h5])]
theorem zet:∀a:Nt,∀l:Int,0<=l->l<=1048576->FC Tryz.prog 11 [ntD a,iD l] [iD (szR a.wt l)] :=
 zda fun b0 b1 b2 b3 xs ih l h0 h1=>zt8 (.mk b0 b1 b2 b3 xs) (fun l h0 h1=>zqw xs ih l h0 h1) l h0 h1
theorem ze7:∀a:Nt,a.wt<=1048576->FC Tryz.prog 13 [ntD a] [ntD a]:=by
 refine zda fun b0 b1 b2 b3 xs ih hs=>?_
 have hW:=Nt.wt_eq (.mk b0 b1 b2 b3 xs)
 simp only[Nt.rule,Nt.form,Nt.label,Nt.term,Nt.parts]at hW
 refine zrt _ (zqr xs (fun x hx=>ih x hx ?_) Yp) hs
 have:=zbz Nt.wt xs x hx
 omega
theorem ze3:∀a b:Nt,FC Tryz.prog 15 [ntD a,ntD b] [bD (same a b)] :=
 zda fun b0 b1 b2 b3 xs ih b=>zsb (.mk b0 b1 b2 b3 xs) b (zp1 xs b.parts ih)
theorem zk3 (xs ys:List An)(H:∀x∈xs,∀y,FC Tryz.prog 65 [anD x,anD y] [bD (same x y)]) :
  FC Tryz.prog 31 [.one (anS xs),.one (anS ys)] [bD (same xs ys)]:=by
 refine zd1 (fun hw=>?_) Tryz.call31
 have hl:xs.length<=9223372036854775807:=by simpa[zgs,wfT]using hw.1.1
 have hl2:ys.length<=9223372036854775807:=by simpa[zgs,wfT]using hw.2.1.1
 refine zad Tryz.call31 Tryz.func31 rfl Yo (zao Yo) ?_
 simp -implicitDefEqProofs only[go_sem,Tryz.results31]
 refine⟨fun h=>?_,fun h=>?_⟩
 ·rw[zb2.2 (by rintro rfl;simp at h)]
 ·have hlen:xs.length=ys.length:=by simp at h;omega
  refine zag (fun k:Nat=>hd [(0,vT (anS xs)),(1,vT (anS ys)),(4,vB false),(5,vI k)] [] []) (fun k=>k<=xs.length/\same xs ys=same (xs.drop k) (ys.drop k)) (fun k=>xs.length-k) 0 (zac ?_) ?_ ?_
  ·simp -implicitDefEqProofs only[go_sem]
  ·simp
  ·intro k ⟨hk,hr⟩;by_cases hlt:k<xs.length
   ·have hk2:k<ys.length:=by omega
    simp -implicitDefEqProofs only[go_sem,Qa,hlt];refine drawn Yo ?_;simp -implicitDefEqProofs only[go_sem,Qa,zan,hlt,hk2,zcb,zaa,zab];refine zav (H xs[k] (Qj hlt) ys[k]) (by simp -implicitDefEqProofs only[go_sem,zcb,zaa,zab]) ?_;simp -implicitDefEqProofs only[go_sem,zcb,zaa,zab];refine⟨Yo,fun h=>?_,fun h=>?_⟩
    ·rw[hr,Qh hlt,Qh hk2,zcm,show same xs[k] ys[k]=false by simpa using h];rfl
    ·rw[Qh hlt,Qh hk2,zcm,show same xs[k] ys[k]=true by simpa using h,Qs]at hr;rw[zap Yp];exact⟨k+1,⟨Yp,hr⟩,Yp,zac Yn⟩
   ·simp -implicitDefEqProofs only[go_sem,Qa,hlt];rw[hr,Qt Yp,Qt Yp,zfb]
theorem zly (a b:An):FC Tryz.prog 65 [anD a,anD b] [bD (same a b)]:=by
 simp only[anD,zcb,zaa,zab]
 refine zad Tryz.call65 Tryz.func65 rfl Yo (zao Yo) ?_
 simp -implicitDefEqProofs only[go_sem,Tryz.results65]
 refine⟨fun h1=>?_,fun h1=>?_⟩
 ·rw[zb2.2 (by rintro rfl;simp[zax]at h1)]
 refine callF (zhz a.form b.form) (by simp -implicitDefEqProofs only[go_sem,zcb,zaa,zab,zaa,zab]) ?_
 simp -implicitDefEqProofs only[go_sem,zcb,zaa,zab,zaa,zab]
 refine⟨fun h2=>?_,fun h2=>?_⟩
 ·rw[zb2.2 (by rintro rfl;simp[zax]at h2)]
 rw[zbj.2 (by cases a;cases b;simp[zbj,An.label,An.form]at h1 h2⊢;simp[h1,h2])]
theorem znp (a b:An):FC Tryz.prog 65 [anD a,anD b] [bD (same a b)]:=zly a b
end
section
open Go.RowKit
abbrev anM (ags:List An):T:=.mq true (ags.map anC)
def fmPm (ags:List An)(rows:List (List T)):Prop:=∃fs:List Fm,rows=fs.map fmC/\fs.Perm (ags.map An.form)
theorem zo1 (ags:List An)(hl:ags.length<=1048576):XS Tryz.prog 152 [.one (anM ags)] 5 (fmPm ags):=by
 refine XS_of Tryz.call152 Tryz.func152 rfl (zao Yo) ?_
 refine zb6.cut 1 rfl Yo ?_
 simp -implicitDefEqProofs only[go_sem,Tryz.results152]
 refine zcc Yn ?_
 simp -implicitDefEqProofs only[go_sem]
 refine zb6.hide ?_
 refine zbq.seq ?_
 refine zbq.seq ?_
 refine zbq.region ?_
 refine zby.plain 1 (by decide) rfl Yo ?_
 simp -implicitDefEqProofs only[go_sem]
 refine zby.range true (ags.map anC) rfl (by simp only[Tryz.ntmps152];omega) Yo Yn ?_
 intro b src _ _ hsb
 refine zby.done rfl ?_
 simp -implicitDefEqProofs only[go_sem]
 refine zbq.block ?_
 refine zbq.loop (fun x:List An×List Fm×Option An=>hd [(3,.one (.ow 192 0)),(8,.one (.cv (.pointer (some ⟨b,0,none⟩))))] [] [(192,⟨false,5,x.2.1.map fmC,0,true⟩)]) (fun x=>[(b,.it src true (x.1.map anC) (x.2.2.map anC))]) (fun x=>(x.2.1++x.1.map An.form).Perm (ags.map An.form)) (fun x=>x.1.length) (ags,[],none) (zac ?_) (Jo _) (by simp) ?_
 ·simp -implicitDefEqProofs only[go_sem]
 rintro⟨left,acc,last⟩ hp
 simp only at hp⊢
 have hni:∀left last,qcv b [(b,.it src true left last)]:=fun left last p hp s ag l la he=>by
  simp only[Qp,Ku,or_false]at hp;subst hp;simp only[Ob.it.injEq]at he;exact fun h=>hsb (he.1.trans h)
 have hpl:=hp.length_eq
 simp only[Qu,Qa]at hpl
 refine zbq.seq ?_
 refine zbq.region ?_
 refine zby.next 0 rfl rfl (by simp only[Tryz.ntmps152];omega) Yn (hni _ _) (fun _ _=>Or.inl rfl) (fun hnil=>?_) (fun m r hm=>?_)
 ·refine zby.plain 1 (by decide) rfl Yo ?_;simp -implicitDefEqProofs only[go_sem];refine zby.done rfl ?_;simp -implicitDefEqProofs only[go_sem];refine zbq.ofEx Yo ?_;simp -implicitDefEqProofs only[go_sem];refine zbq.ofEx Yo ?_;simp -implicitDefEqProofs only[go_sem];refine⟨acc.map fmC,⟨acc,rfl,?_⟩,192,0,?_⟩
  ·have:left=[]:=by simpa using hnil
   subst this;simpa using hp
  ·simp -implicitDefEqProofs only[go_sem]
 ·refine zby.plain 1 (by decide) rfl Yo ?_;simp -implicitDefEqProofs only[go_sem];refine zby.done rfl ?_;obtain⟨a,ha,rfl⟩:∃a,left[m]?=some a/\r=anC a:=by
   rw[List.getElem?_map]at hm;cases h:left[m]? with
   | none=>rw[h]at hm;cases hm
   | some a=>rw[h]at hm;exact⟨a,rfl,by simpa using hm.symm⟩
  have hel:=zg8 ha;refine zbq.cut 0 rfl Yo ?_;simp -implicitDefEqProofs only[go_sem];refine zbq.block ?_;refine zbq.seq ?_;refine zbq.region ?_;refine zby.entry 0 rfl rfl (by simp only[Tryz.ntmps152];omega) Yn ?_;refine zby.plain 3 (by decide) rfl Yo ?_;simp -implicitDefEqProofs only[go_sem];refine zby.done rfl ?_;simp -implicitDefEqProofs only[go_sem];refine zbq.ofEx Yo ?_;simp -implicitDefEqProofs only[go_sem];refine zcc Yn ?_;simp -implicitDefEqProofs only[go_sem];have hac:acc.length<=4294967295:=by omega
  refine apD false (by simp -implicitDefEqProofs only[go_sem,ne_eq,Q6,Qa,hac]) ?_;simp -implicitDefEqProofs only[go_sem,ne_eq,Q6,Qa,hac];refine⟨(left.eraseIdx m,acc++[a.form],some a),?_,?_,?_,zac ?_⟩
  ·refine(List.Perm.trans ?_ hp);simp only[Kf,List.singleton_append];refine List.Perm.append_left acc ?_;exact(Perm.erase_at ha).map An.form
  ·simp only;omega
  ·rw[zdl];exact Jo _
  ·simp -implicitDefEqProofs only[go_sem,Q2,Qf,Qo,zaa a.form]
end
section
open Go.RowKit
def zg9 (b:UInt8):Bool:=decide (97<=(b.toNat:Int))&&decide ((b.toNat:Int)<=122)
def qoi (b:UInt8):Bool:=decide (48<=(b.toNat:Int))&&decide ((b.toNat:Int)<=57)
def zng (b:UInt8):Bool:=decide (65<=(b.toNat:Int))&&decide ((b.toNat:Int)<=90)
def zqm (b:UInt8):Bool:=zg9 b||qoi b
abbrev uD (b:UInt8):D:=.one (.int .u8 b.toNat)
theorem zi2 (b:UInt8):FC Tryz.prog 174 [uD b] [bD (zg9 b)]:=by
 unfold zg9
 refine zad Tryz.call174 Tryz.func174 rfl Yo (zao Yo) ?_
 simp -implicitDefEqProofs only[go_sem,Tryz.results174]
 refine⟨fun h=>?_,fun h=>?_⟩<;>simp at h⊢<;>omega
theorem zsm (b:UInt8):FC Tryz.prog 175 [uD b] [bD (qoi b)]:=by
 unfold qoi
 refine zad Tryz.call175 Tryz.func175 rfl Yo (zao Yo) ?_
 simp -implicitDefEqProofs only[go_sem,Tryz.results175]
 refine⟨fun h=>?_,fun h=>?_⟩<;>simp at h⊢<;>omega
theorem ztp (b:UInt8):FC Tryz.prog 173 [uD b] [bD (zng b)]:=by
 unfold zng
 refine zad Tryz.call173 Tryz.func173 rfl Yo (zao Yo) ?_
 simp -implicitDefEqProofs only[go_sem,Tryz.results173]
 refine⟨fun h=>?_,fun h=>?_⟩<;>simp at h⊢<;>omega
def inB (n lo hi:Int):Bool:=decide (lo<=n)&&decide (n<=hi)
theorem zf5 (n lo hi:Int):FC Tryz.prog 79 [iD n,iD lo,iD hi] [bD (inB n lo hi)]:=by
 unfold inB
 refine zad Tryz.call79 Tryz.func79 rfl Yo (zao Yo) ?_
 simp -implicitDefEqProofs only[go_sem,Tryz.results79]
 refine⟨fun h=>?_,fun h=>?_⟩<;>simp at h⊢<;>omega
theorem zsw (n lo hi:Int):FC Tryz.prog 77 [iD n,iD lo,iD hi] [bD (inB n lo hi)]:=by
 unfold inB
 refine zad Tryz.call77 Tryz.func77 rfl Yo (zao Yo) ?_
 simp -implicitDefEqProofs only[go_sem,Tryz.results77]
 refine⟨fun h=>?_,fun h=>?_⟩<;>simp at h⊢<;>omega
theorem qp9 (a b:Int):FC Tryz.prog 183 [iD a,iD b] [iD (max a b)]:=by
 refine zad Tryz.call183 Tryz.func183 rfl Yo (zao Yo) ?_
 simp -implicitDefEqProofs only[go_sem,Tryz.results183]
 refine⟨fun h=>?_,fun h=>?_⟩<;>simp at h<;>exact zza Yp
theorem zsv (b:UInt8):FC Tryz.prog 134 [uD b] [bD (zqm b)]:=by
 unfold zqm zg9 qoi
 refine zad Tryz.call134 Tryz.func134 rfl Yo (zao Yo) ?_
 simp -implicitDefEqProofs only[go_sem,Tryz.results134]
 simp only[T.bool.injEq,Kb,J4]
 refine⟨fun h=>⟨fun h2=>⟨fun h3=>?_,fun h3=>?_⟩,fun h2=>?_⟩,fun h=>⟨fun h2=>?_,fun h2=>?_⟩⟩<;>simp[h,h2]<;>omega
def zve:Str->Bool
 | []=>true
 | c::cs=>zng c&&cs.all zqm
def zbd (s:Str):Bool:=zve s&&inB s.length 1 4
theorem zdj (s:Str):FC Tryz.prog 145 [sD s] [bD (zbd s)]:=by
 refine zd1 (fun hw=>?_) Tryz.call145
 have hl:s.length<=9223372036854775807:=by simpa[zgs,wfT]using hw.1
 refine zad Tryz.call145 Tryz.func145 rfl Yo (zao Yo) ?_
 simp -implicitDefEqProofs only[go_sem,Tryz.results145]
 refine zag (fun k:Nat=>hd [(0,vT (.str s)),(5,vI s.length),(6,vI k)] [] []) (fun k=>k<=s.length/\zve s=if k=0 then zve s else (s.drop k).all zqm) (fun k=>s.length-k) 0 (zac ?_) ?_ ?_
 ·simp -implicitDefEqProofs only[go_sem]
 ·simp
 ·intro k ⟨hk,hr⟩;by_cases hlt:k<s.length
  ·by_cases h0:k=0
   ·subst h0;have hl0:(0:Int)<s.length:=by omega
    have he:zve s=(zng (s.getD 0 0)&&(s.drop 1).all zqm):=by cases s;exact absurd hlt (by simp);rfl
    simp -implicitDefEqProofs only[go_sem,hlt,hl0];refine callF (ztp (s.getD 0 0)) Yn ?_;simp -implicitDefEqProofs only[go_sem];refine⟨fun h=>⟨1,⟨hlt,?_⟩,Yp,zac (by simp -implicitDefEqProofs only[go_sem];rw[za6 Yp Yp])⟩,fun h=>?_⟩
    ·have:zng (s.getD 0 0)=true:=by simpa using h
     rw[he,this];rfl
    ·have:zng (s.getD 0 0)=false:=by simpa using h
     rw[zbd,he,this];rfl
   ·have h1:((k:Int)==0)=false:=by simp;omega
    have h2:(0:Int)<k:=by omega
    have hg:s.getD k 0=s[k]:=by simp[List.getD,hlt]
    rw[if_neg h0,Qh hlt,Kq]at hr;simp -implicitDefEqProofs only[go_sem,hlt,h1,h2];refine callF (zi2 (s.getD k 0)) Yn ?_;simp -implicitDefEqProofs only[go_sem];simp only[hg];refine⟨fun h=>⟨hlt,?_⟩,fun h=>?_⟩
    ·refine callF (zsm s[k]) Yn ?_;simp -implicitDefEqProofs only[go_sem];refine⟨fun h'=>?_,fun h'=>⟨k+1,⟨hlt,?_⟩,Yp,zac (by simp -implicitDefEqProofs only[go_sem];rw[zap Yp])⟩⟩
     ·have:zqm s[k]=false:=by simp[zqm];simp at h h';exact⟨h,h'⟩
      simp[zbd,hr,this]
     ·have:zqm s[k]=true:=by simp[zqm];right;simpa using h'
      rw[hr,this];simp
    ·refine⟨k+1,⟨hlt,?_⟩,Yp,zac (by simp -implicitDefEqProofs only[go_sem];rw[zap Yp])⟩;have:zqm s[k]=true:=by simp[zqm];left;simpa using h
     rw[hr,this];simp
  ·simp -implicitDefEqProofs only[go_sem,hlt];refine callF (zf5 s.length 1 4) Yn ?_;simp -implicitDefEqProofs only[go_sem];have:zve s=true:=by
    by_cases h0:k=0
    ·have:s=[]:=Kr.1 Yp;rw[this];rfl
    ·rw[hr,if_neg h0,Qt Yp];rfl
   simp[zbd,this]
end
end Go.Proofs.YtnemmlahbbbobaaGreat
