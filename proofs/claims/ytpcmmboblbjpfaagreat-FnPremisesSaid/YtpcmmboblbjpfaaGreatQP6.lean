/-
  The walk over plain data, and contracts of functions of the program and of its laws.
  Conditions: those that each theorem names.
-/
import Derived.Test.YtpcmmboblbjpfaaGreatQP5
namespace Go.Proofs.YtpcmmboblbjpfaaGreat
set_option linter.unusedSimpArgs false
set_option linter.unusedVariables false
set_option linter.unusedSectionVars false
set_option maxRecDepth 4000
set_option maxHeartbeats 8000000
section
open Go.RowKit
variable {P:Program}
def C.fb (j:Nat)(ts:List T):C->C
 | .bx b o=>if b=j then .el ts o else .bx b o
 | .fn f [k]=>if k=j then .t (.fn f [.ptr ts])else .fn f [k]
 | .fn f []=>.fn f []
 | .fn _ _=>.any
 | c=>c
def qev:List C->Option (List T)
 | []=>some []
 | .t x::cs=>(qev cs).map (x::·)
 | .rn x::cs=>(qev cs).map (x::·)
 | _::_=>none
def fbS (f:Nat->V)(j:Nat)(ts:List T):Nat->V:=fun i=>(f i).map (C.fb j ts)
def fbB (f:Nat->Option (List C))(j:Nat)(ts:List T):Nat->Option (List C):=fun b=>if b=j then none else (f b).map fun cs=>cs.map (C.fb j ts)
theorem fbS_at (f:Nat->V)(j:Nat)(ts:List T)(i:Nat):fbS f j ts i=(f i).map (C.fb j ts):=rfl
def St.fb (σ:St)(j:Nat)(ts:List T):St:=⟨fbS σ.sl j ts,fbB σ.bx j ts,σ.ev⟩
theorem qbu {σ:St}{g:Gh}{w:World}:∀{cs:List C}{ts:List T}{vs:List Value},qev cs=some ts->CRs σ g w cs vs->∀(i:Nat)(t:T),ts[i]?=some t->∃v,vs[i]?=some v/\zas w (Fix σ g w) t v
 | [],ts,vs,h,_,i,t,ht=>by
  unfold qev at h;cases h;simp at ht
 | c::cs,ts,vs,h,hv,i,t,ht=>by
  obtain⟨v,vs',rfl,h1,h2⟩:=hv;have key:∀x,(qev cs).map (x::·)=some ts->zas w (Fix σ g w) x v->∃v',(v::vs')[i]?=some v'/\zas w (Fix σ g w) t v':=fun x hx hr=>by
   cases hc:qev cs with
   | none=>rw[hc]at hx;cases hx
   | some ts' =>
    rw[hc]at hx;simp only[Kc,Qe]at hx;subst hx;cases i with
    | zero =>
     simp only[List.getElem?_cons_zero,Qe]at ht;subst ht;exact⟨v,rfl,hr⟩
    | succ i =>
     simp only[List.getElem?_cons_succ]at ht⊢;exact qbu hc h2 i t ht
  cases c with
  | t x=>exact key x h h1
  | rn x=>exact key x h (zas.keep (fun _ _=>rfl) (fun b hb=>hb.1) x v h1)
  | _=>cases h
theorem fb_wk {σ:St}{j:Nat}{cs:List C}{ts:List T}(hb:σ.bx j=some cs)(ht:qev cs=some ts):Wk σ (σ.fb j ts):=by
 intro n0 N g a w h
 have hj:σ.bx j≠none:=by rw[hb];simp
 have hbx:∀b,(σ.fb j ts).bx b≠none↔b≠j/\σ.bx b≠none:=fun b=>by
  show(if b=j then none else (σ.bx b).map fun cs=>cs.map (C.fb j ts))≠none↔_
  by_cases hbj:b=j
  ·rw[if_pos hbj];simp[hbj]
  ·rw[if_neg hbj];simp[hbj]
 have hf:∀b,Fix σ g w b->Fix (σ.fb j ts) g w b:=fun b hf=>⟨fun k hk=>hf.1 k ((hbx k).1 hk).2,hf.2.1,hf.2.2⟩
 have hfr:∀b,zcd σ g w b->zcd (σ.fb j ts) g w b:=fun b hb=>⟨hf b hb.1,hb.2⟩
 obtain⟨vs,ty,e1,e2⟩:=h.boxes j cs hb
 have hfix:Fix (σ.fb j ts) g w (g.β j):=by
  refine⟨fun k hk e=>((hbx k).1 hk).1 (h.inj k j ((hbx k).1 hk).2 hj e),fun e x hx ho hh=>?_,?_,(h.anew _ (h.base j hj)).1⟩
  ·exact h.ebx e j ⟨x,hx,ho⟩ hj (List.mem_of_mem_head? hh)
  ·exact(Array.getElem?_eq_some_iff.1 e1).1
 have hat:zbg w (Fix (σ.fb j ts) g w) (g.β j) 0 ts:=zbg.mk fun i t hi=>by
  obtain⟨v,k1,k2⟩:=qbu ht e2 i t hi;refine⟨v,?_,zas.keep (fun _ _=>rfl) hf t v k2⟩;have:vs[i]?=some v:=by rw[<-Array.getElem?_toList];exact k1
  rw[Q5];simp[World.cell?,e1,this]
 have cr:∀c v,CR σ g w c v->CR (σ.fb j ts) g w (c.fb j ts) v:=fun c v hc=>by
  cases c with
  | t y=>exact zas.keep (fun _ _=>rfl) hf y v hc
  | nl s=>exact hc
  | ow e' n=>exact hc
  | bx b o =>
   show CR _ _ _ (if b=j then .el ts o else .bx b o) v
   by_cases he:b=j
   ·subst he;rw[if_pos rfl];exact⟨g.β b,0,by rw[Q5];exact hc.1,hfix,hat⟩
   ·rw[if_neg he];exact⟨hc.1,(hbx b).2 ⟨he,hc.2⟩⟩
  | el cs o=>obtain⟨b,q,h1,h2,h3⟩:=hc;exact⟨b,q,h1,hf b h2,zbg.keep (fun _ _=>rfl) hf b rfl q cs h3⟩
  | eo e' s sz i o=>exact hc
  | vw e' s sz o=>exact hc
  | fn f caps =>
   match caps,hc with
   | [],hc=>exact⟨hc.1,fun b hb=>absurd hb (by simp)⟩
   | [k],hc =>
    show CR _ _ _ (if k=j then .t (.fn f [.ptr ts])else .fn f [k]) v
    by_cases he:k=j
    ·subst he;rw[if_pos rfl];show zas _ _ _ _
     unfold zas;refine⟨_,hc.1,?_⟩;unfold zaj;refine⟨_,[],rfl,?_,by unfold zaj;rfl⟩;unfold zas;exact⟨g.β k,0,rfl,hfix,hat⟩
    ·rw[if_neg he];exact⟨hc.1,fun b hb=>(hbx b).2 ⟨by rw[Qw.1 hb];exact he,hc.2 b hb⟩⟩
   | _::_::_,_=>trivial
  | cv u=>exact hc
  | any=>trivial
  | rn y=>exact zas.keep (fun _ _=>rfl) hfr y v hc
  | er cs o=>obtain⟨b,q,h1,h2,h3⟩:=hc;exact⟨b,q,h1,hfr b h2,zbg.keep (fun _ _=>rfl) hfr b rfl q cs h3⟩
 refine⟨g,⟨h.defers,h.size,h.anew,fun i=>VR.map cr (h.slots i),fun b cs' hb'=>?_,fun b hb=>h.base b ((hbx b).1 hb).2,fun b b' h1 h2=>h.inj b b' ((hbx b).1 h1).2 ((hbx b').1 h2).2,fun e' z hz h1=>?_,fun e' z hz h1=>?_,h.slc,h.ebase,h.etop,h.nodup,h.apart,fun e' k he hk=>h.ebx e' k he ((hbx k).1 hk).2⟩,rfl,rfl⟩
 ·have hne:=(hbx b).1 (by rw[hb'];simp);cases hc:σ.bx b with
  | none=>exact absurd hc hne.2
  | some cs0 =>
   have hb':(if b=j then none else (σ.bx b).map fun cs=>cs.map (C.fb j ts))=some cs':=hb';rw[if_neg hne.1,hc]at hb';simp only[Kc,Qe]at hb';subst hb';obtain⟨vs,ty,k1,k2⟩:=h.boxes b cs0 hc;exact⟨vs,ty,k1,CRs.map cr k2⟩
 ·obtain⟨ao,cap,e1,e2,e3,e4⟩:=h.evs e' z hz h1;refine⟨ao,cap,e1,e2,e3,?_⟩;rcases e4 with e4|⟨b,cells,ty,fps,k1,k2,k3,k4,k5⟩
  ·exact Or.inl e4
  ·refine Or.inr ⟨b,cells,ty,fps,k1,k2,k3,k4,?_⟩;split at k5
   ·rw[if_pos ‹_›];exact k5
   ·rw[if_neg ‹_›];exact⟨k5.1,zar.keep (fun _ _=>rfl) hf b rfl 0 z.sz z.rows k5.2⟩
 ·exact⟨zas.keep (fun _ _=>rfl) hf _ _ (h.offs e' z hz h1).1,(h.offs e' z hz h1).2⟩
section
variable {ks:List Fr}{Q:Exit->St->Prop}{σ:St}{ops:Array Oper}{os:List Oper}{o:Oper}
theorem frzX (j:Nat)(hg:o.guard=none)(hs:zum o.op=true)(k:zax (σ.bx j) fun cs=>zax (qev cs) fun ts=>exo P ops (o::os) ks Q (σ.fb j ts)):exo P ops (o::os) ks Q σ:=by
 obtain⟨cs,hx,h1⟩:=zap k
 obtain⟨ts,ht,h2⟩:=zap h1
 exact zr3 (fb_wk hx ht) hg hs h2
end
attribute [go_sem] C.fb St.fb fbS_at qev
end
section
open Go.RowKit
variable {P:Program}
def C.fs (e:Nat)(x:Ev):C->C
 | .ow e' g=>if e'=e then (if g=x.gen then .t (.sl x.sz x.rows)else .any)else .ow e' g
 | .eo e' g sz i o=>if e'=e then .any else .eo e' g sz i o
 | .vw e' g sz o=>if e'=e then .any else .vw e' g sz o
 | c=>c
def fsS (f:Nat->V)(e:Nat)(x:Ev):Nat->V:=fun i=>(f i).map (C.fs e x)
def fsB (f:Nat->Option (List C))(e:Nat)(x:Ev):Nat->Option (List C):=fun b=>(f b).map fun cs=>cs.map (C.fs e x)
def fsE (f:Nat->Option Ev)(e:Nat):Nat->Option Ev:=fun k=>if k=e then none else f k
theorem fsS_at (f:Nat->V)(e:Nat)(x:Ev)(i:Nat):fsS f e x i=(f i).map (C.fs e x):=rfl
theorem zue (f:Nat->Option (List C))(e:Nat)(x:Ev)(b:Nat):fsB f e x b=(f b).map fun cs=>cs.map (C.fs e x):=rfl
theorem fsE_at (f:Nat->Option Ev)(e k:Nat):fsE f e k=if k=e then none else f k:=rfl
def St.fs (σ:St)(e:Nat)(x:Ev):St:=⟨fsS σ.sl e x,fsB σ.bx e x,fsE σ.ev e⟩
theorem qh3 {σ:St}{e:Nat}{x:Ev}(hx:σ.ev e=some x)(hd:x.deep=false)(ho:x.on=true){n0:Nat->Prop}{N:Nat}{g:Gh}{a:Act}{w:World}(h:Rel n0 N σ g a w):Rel n0 N (σ.fs e x) g a w/\∀b∈g.φ e,b<w.heap.size->zcd (σ.fs e x) g w b:=by
 have hev:∀e',e'≠e->(σ.fs e x).ev e'=σ.ev e':=fun e' he=>by show(if e'=e then none else σ.ev e')=_;rw[if_neg he]
 have hee:(σ.fs e x).ev e=none:=by show(if e=e then none else σ.ev e)=_;rw[if_pos rfl]
 have hsome:∀e' z,(σ.fs e x).ev e'=some z->e'≠e/\σ.ev e'=some z:=fun e' z hz=>by
  by_cases he:e'=e
  ·subst he;rw[hee]at hz;cases hz
  ·exact⟨he,by rw[<-hev e' he];exact hz⟩
 have hon:∀e',(σ.fs e x).On e'->e'≠e/\σ.On e':=fun e' ⟨z,hz,h1⟩=>⟨(hsome e' z hz).1,z,(hsome e' z hz).2,h1⟩
 have hbx:∀b,(σ.fs e x).bx b≠none↔σ.bx b≠none:=fun b=>by unfold St.fs;simp[zue]
 have hOn:σ.On e:=⟨x,hx,ho⟩
 have hf:∀b,Fix σ g w b->Fix (σ.fs e x) g w b:=fun b hf=>⟨fun k hk=>hf.1 k ((hbx k).1 hk),fun e' z hz h1=>hf.2.1 e' z (hsome e' z hz).2 h1,hf.2.2⟩
 have hfr:∀b,zcd σ g w b->zcd (σ.fs e x) g w b:=fun b hb=>⟨hf b hb.1,fun e' h'=>hb.2 e' (hon e' h').2⟩
 have hgone:∀b∈g.φ e,b<w.heap.size->zcd (σ.fs e x) g w b:=fun b hb hl=>by
  have hne:∀e',(σ.fs e x).On e'->b∉g.φ e':=fun e' he' hm=>h.apart e e' hOn (hon e' he').2 (Ne.symm (hon e' he').1) b hb hm;exact⟨⟨fun j hj hjb=>h.ebx e j hOn ((hbx j).1 hj) (by rw[hjb];exact hb),fun e' z hz h1 hh=>hne e' ⟨z,hz,h1⟩ (List.mem_of_mem_head? hh),hl,(h.ebase e hOn b hb).1⟩,hne⟩
 have hhas:∀e' n,e'≠e->σ.has e' n->(σ.fs e x).has e' n:=fun e' n he ⟨z,hz,h1⟩=>⟨z,by rw[hev e' he];exact hz,h1⟩
 have cr:∀c v,CR σ g w c v->CR (σ.fs e x) g w (c.fs e x) v:=fun c v hc=>by
  cases c with
  | t y=>exact zas.keep (fun _ _=>rfl) hf y v hc
  | nl s=>exact hc
  | ow e' n =>
   show CR _ _ _ (if e'=e then (if n=x.gen then .t (.sl x.sz x.rows)else .any)else .ow e' n) v
   by_cases he:e'=e
   ·subst he;rw[if_pos rfl];by_cases hn:n=x.gen
    ·rw[if_pos hn];subst hn;obtain⟨ao,cap,e1,e2,e3,e4⟩:=h.evs _ x hx ho;rw[<-hc.1]at e1;show zas _ _ _ _
     unfold zas;refine⟨ao,cap,e1,e2,e3,?_⟩;rcases e4 with⟨_,_,e4,_⟩|⟨b,cells,ty,fps,k1,k2,k3,k4,k5⟩
     ·exact Or.inl e4
     ·rw[if_neg (by rw[hd];simp)]at k5;exact Or.inr ⟨b,0,k1,(hgone b (by rw[k2];simp) (Array.getElem?_eq_some_iff.1 k3).1).1,zar.keep (fun _ _=>rfl) hf b rfl 0 x.sz x.rows k5.2⟩
    ·rw[if_neg hn];trivial
   ·rw[if_neg he];exact⟨hc.1,hhas e' n he hc.2⟩
  | bx b o=>exact⟨hc.1,(hbx b).2 hc.2⟩
  | el cs o=>obtain⟨b,q,h1,h2,h3⟩:=hc;exact⟨b,q,h1,hf b h2,zbg.keep (fun _ _=>rfl) hf b rfl q cs h3⟩
  | eo e' s sz i o =>
   show CR _ _ _ (if e'=e then .any else .eo e' s sz i o) v
   by_cases he:e'=e
   ·rw[if_pos he];trivial
   ·rw[if_neg he];obtain⟨b,n,c,h1,h2,h3,h4⟩:=hc;exact⟨b,n,c,h1,h2,h3,hhas e' s he h4⟩
  | vw e' s sz o =>
   show CR _ _ _ (if e'=e then .any else .vw e' s sz o) v
   by_cases he:e'=e
   ·rw[if_pos he];trivial
   ·rw[if_neg he];obtain⟨b,n,c,h1,h2,h3,h4⟩:=hc;exact⟨b,n,c,h1,h2,h3,hhas e' s he h4⟩
  | fn f caps=>exact⟨hc.1,fun b hb=>(hbx b).2 (hc.2 b hb)⟩
  | cv u=>exact hc
  | any=>trivial
  | rn y=>exact zas.keep (fun _ _=>rfl) hfr y v hc
  | er cs o=>obtain⟨b,q,h1,h2,h3⟩:=hc;exact⟨b,q,h1,hfr b h2,zbg.keep (fun _ _=>rfl) hfr b rfl q cs h3⟩
 refine⟨⟨h.defers,h.size,h.anew,fun i=>VR.map cr (h.slots i),fun b cs hb=>?_,fun b hb=>h.base b ((hbx b).1 hb),fun b b' h1 h2=>h.inj b b' ((hbx b).1 h1) ((hbx b').1 h2),fun e' z hz h1=>?_,fun e' z hz h1=>?_,h.slc,fun e' h1=>h.ebase e' (hon e' h1).2,fun e' h1=>h.etop e' (hon e' h1).2,fun e' h1=>h.nodup e' (hon e' h1).2,fun e1 e2 h1 h2=>h.apart e1 e2 (hon e1 h1).2 (hon e2 h2).2,fun e' k h1 h2=>h.ebx e' k (hon e' h1).2 ((hbx k).1 h2)⟩,hgone⟩
 ·cases hc:σ.bx b with
  | none=>unfold St.fs at hb;simp only[zue,hc,Jx]at hb;cases hb
  | some cs0 =>
   unfold St.fs at hb;simp only[zue,hc,Kc,Qe]at hb;subst hb;obtain⟨vs,ty,k1,k2⟩:=h.boxes b cs0 hc;exact⟨vs,ty,k1,CRs.map cr k2⟩
 ·obtain⟨ao,cap,e1,e2,e3,e4⟩:=h.evs e' z (hsome e' z hz).2 h1;refine⟨ao,cap,e1,e2,e3,?_⟩;rcases e4 with e4|⟨b,cells,ty,fps,k1,k2,k3,k4,k5⟩
  ·exact Or.inl e4
  ·refine Or.inr ⟨b,cells,ty,fps,k1,k2,k3,k4,?_⟩;split at k5
   ·rw[if_pos ‹_›];exact k5
   ·rw[if_neg ‹_›];exact⟨k5.1,zar.keep (fun _ _=>rfl) hf b rfl 0 z.sz z.rows k5.2⟩
 ·exact⟨zas.keep (fun _ _=>rfl) hf _ _ (h.offs e' z (hsome e' z hz).2 h1).1,(h.offs e' z (hsome e' z hz).2 h1).2⟩
theorem fs_wk {σ:St}{e:Nat}{x:Ev}(hx:σ.ev e=some x)(hd:x.deep=false)(ho:x.on=true):Wk σ (σ.fs e x):=fun _ _ g _ _ h=>⟨g,(qh3 hx hd ho h).1,rfl,rfl⟩
section
variable {ks:List Fr}{Q:Exit->St->Prop}{σ:St}{ops:Array Oper}{os:List Oper}{o:Oper}
theorem frzS (e:Nat)(hg:o.guard=none)(hs:zum o.op=true)(k:zax (σ.ev e) fun x=>x.deep=false/\x.on=true/\exo P ops (o::os) ks Q (σ.fs e x)):exo P ops (o::os) ks Q σ:=by
 obtain⟨x,hx,h1,h2,h3⟩:=zap k
 exact zr3 (fs_wk hx h1 h2) hg hs h3
end
attribute [go_sem] C.fs St.fs fsS_at zue fsE_at
end
section
open Go.RowKit
variable {P:Program}
def St.sh (σ:St)(e:Nat)(x:Ev):St:=⟨σ.sl,σ.bx,upd σ.ev e (some ⟨false,x.sz,x.rows,x.gen,x.on⟩)⟩
theorem sh_wk {σ:St}{e:Nat}{x:Ev}(hx:σ.ev e=some x)(hr:x.rows=[]):Wk σ (σ.sh e x):=by
 intro n0 N g a w h
 have hev:∀e',e'≠e->(σ.sh e x).ev e'=σ.ev e':=fun e' he=>zam _ _ he
 have hee:(σ.sh e x).ev e=some ⟨false,x.sz,x.rows,x.gen,x.on⟩:=zah _ _ _
 have back:∀e' z,(σ.sh e x).ev e'=some z->∃y,σ.ev e'=some y/\y.on=z.on/\y.gen=z.gen/\y.sz=z.sz/\y.rows=z.rows/\(e'≠e->y=z):=fun e' z hz=>by
  by_cases he:e'=e
  ·subst he;rw[hee]at hz;cases hz;exact⟨x,hx,rfl,rfl,rfl,rfl,fun h=>absurd rfl h⟩
  ·exact⟨z,by rw[<-hev e' he];exact hz,rfl,rfl,rfl,rfl,fun _=>rfl⟩
 have forth:∀e' y,σ.ev e'=some y->∃z,(σ.sh e x).ev e'=some z/\z.on=y.on/\z.gen=y.gen:=fun e' y hy=>by
  by_cases he:e'=e
  ·subst he;rw[hx]at hy;cases hy;exact⟨_,hee,rfl,rfl⟩
  ·exact⟨y,by rw[hev e' he];exact hy,rfl,rfl⟩
 have hon:∀e',(σ.sh e x).On e'->σ.On e':=fun e' ⟨z,hz,h1⟩=>by
  obtain⟨y,k1,k2,_⟩:=back e' z hz;exact⟨y,k1,k2.trans h1⟩
 have hf:∀b,Fix σ g w b->Fix (σ.sh e x) g w b:=fun b hf=>⟨hf.1,fun e' z hz h1=>by
  obtain⟨y,k1,k2,_⟩:=back e' z hz
  exact hf.2.1 e' y k1 (k2.trans h1),hf.2.2⟩
 have hfr:∀b,zcd σ g w b->zcd (σ.sh e x) g w b:=fun b hb=>⟨hf b hb.1,fun e' h'=>hb.2 e' (hon e' h')⟩
 have hhas:∀e' n,σ.has e' n->(σ.sh e x).has e' n:=fun e' n ⟨y,hy,h1⟩=>by
  obtain⟨z,k1,k2,k3⟩:=forth e' y hy;refine⟨z,k1,?_⟩;rw[k3];exact h1
 have cr:∀c v,CR σ g w c v->CR (σ.sh e x) g w c v:=fun c v hc=>by
  cases c with
  | t y=>exact zas.keep (fun _ _=>rfl) hf y v hc
  | nl s=>exact hc
  | ow e' n=>exact⟨hc.1,hhas e' n hc.2⟩
  | bx b o=>exact hc
  | el cs o=>obtain⟨b,q,h1,h2,h3⟩:=hc;exact⟨b,q,h1,hf b h2,zbg.keep (fun _ _=>rfl) hf b rfl q cs h3⟩
  | eo e' s sz i o=>obtain⟨b,n,c,h1,h2,h3,h4⟩:=hc;exact⟨b,n,c,h1,h2,h3,hhas e' s h4⟩
  | vw e' s sz i=>obtain⟨b,n,c,h1,h2,h3,h4⟩:=hc;exact⟨b,n,c,h1,h2,h3,hhas e' s h4⟩
  | fn f caps=>exact hc
  | cv u=>exact hc
  | any=>trivial
  | rn y=>exact zas.keep (fun _ _=>rfl) hfr y v hc
  | er cs o=>obtain⟨b,q,h1,h2,h3⟩:=hc;exact⟨b,q,h1,hfr b h2,zbg.keep (fun _ _=>rfl) hfr b rfl q cs h3⟩
 have vid:∀y:V,V.map (fun c=>c) y=y:=fun y=>by
  cases y with
  | one c=>rfl
  | agg cs=>show V.agg (cs.map fun c=>c)=_;rw[List.map_id']
  | tup xs=>show V.tup (xs.map fun x=>(x.1,x.2.map fun c=>c))=_;simp
 refine⟨g,⟨h.defers,h.size,h.anew,fun i=>by rw[<-vid ((σ.sh e x).sl i)];exact VR.map cr (h.slots i),fun b cs hb=>?_,h.base,h.inj,fun e' z hz h1=>?_,fun e' z hz h1=>?_,h.slc,fun e' h1=>h.ebase e' (hon e' h1),fun e' h1=>h.etop e' (hon e' h1),fun e' h1=>h.nodup e' (hon e' h1),fun e' e2 h1 h2 h3=>h.apart e' e2 (hon e' h1) (hon e2 h2) h3,fun e' k he hk=>h.ebx e' k (hon e' he) hk⟩,rfl,rfl⟩
 ·obtain⟨vs,ty,k1,k2⟩:=h.boxes b cs hb;refine⟨vs,ty,k1,?_⟩;have:=CRs.map (f:=fun c=>c) cr k2
  rwa [List.map_id']at this
 ·obtain⟨y,y1,y2,y3,y4,y5,y6⟩:=back e' z hz;obtain⟨ao,cap,e1,e2,e3,e4⟩:=h.evs e' y y1 (y2.trans h1);rw[y3,y5]at e1;rw[y5]at e2;refine⟨ao,cap,e1,e2,e3,?_⟩;rcases e4 with e4|⟨b,cells,ty,fps,k1,k2,k3,k4,k5⟩
  ·rw[y5]at e4;exact Or.inl e4
  ·rw[y4]at k4;refine Or.inr ⟨b,cells,ty,fps,k1,k2,k3,k4,?_⟩;by_cases he:e'=e
   ·subst he;rw[hee]at hz;cases hz;rw[hx]at y1;cases y1;rw[if_neg (by simp)];split at k5
    ·rw[hr]at k5⊢;unfold zao at k5;refine⟨k5,?_⟩;unfold zar;trivial
    ·exact⟨k5.1,by rw[hr];unfold zar;trivial⟩
   ·have:=y6 he;subst this;split at k5
    ·rw[if_pos ‹_›];exact k5
    ·rw[if_neg ‹_›];exact⟨k5.1,zar.keep (fun _ _=>rfl) hf b rfl 0 y.sz y.rows k5.2⟩
 ·obtain⟨y,y1,y2,y3,y4,y5,y6⟩:=back e' z hz;have:=h.offs e' y y1 (y2.trans h1);rw[y3,y4,y5]at this;exact⟨zas.keep (fun _ _=>rfl) hf _ _ this.1,this.2⟩
theorem wk_sh {σ σ':St}(e:Nat)(k:zax (σ.ev e) fun x=>x.rows=[]/\Wk (σ.sh e x) σ'):Wk σ σ':=by
 obtain⟨x,hx,h1,h2⟩:=zap k
 intro n0 N g a w h
 obtain⟨g1,r1,r2,r3⟩:=sh_wk hx h1 n0 N g a w h
 obtain⟨g2,s1,s2,s3⟩:=h2 n0 N g1 a w r1
 exact⟨g2,s1,s2.trans r2,s3.trans r3⟩
attribute [go_sem] St.sh
end
section
open Go.RowKit
variable {P:Program}
theorem ql1 {σ:St}{g:Gh}{w:World}{e:Nat}{x:Ev}(he:σ.ev e=none):∀{c:C}{v:Value},CR σ g w c v->C.fs e x c=c:=fun {c v} hc=>by
 have key:∀e' n,σ.has e' n->e'≠e:=fun e' n ⟨y,hy,_⟩ h=>by
  rw[h,he]at hy;cases hy
 cases c with
 | ow e' n =>
  show(if e'=e then (if n=x.gen then C.t (.sl x.sz x.rows)else .any)else .ow e' n)=_
  rw[if_neg (key e' n hc.2)]
 | eo e' s sz i o =>
  obtain⟨b,n,c,h1,h2,h3,h4⟩:=hc;show(if e'=e then C.any else .eo e' s sz i o)=_
  rw[if_neg (key e' s h4)]
 | vw e' s sz o =>
  obtain⟨b,n,c,h1,h2,h3,h4⟩:=hc;show(if e'=e then C.any else .vw e' s sz o)=_
  rw[if_neg (key e' s h4)]
 | _=>rfl
theorem zql {σ:St}{g:Gh}{w:World}{e:Nat}{x:Ev}(he:σ.ev e=none):∀{cs:List C}{vs:List Value},CRs σ g w cs vs->cs.map (C.fs e x)=cs
 | [],_,_=>rfl
 | c::cs,_,h=>by
  obtain⟨v,vs',rfl,h1,h2⟩:=h;rw[Qg,ql1 he h1,zql he h2]
theorem nor_t {σ:St}{g:Gh}{w:World}{e:Nat}{x:Ev}(he:σ.ev e=none):∀{xs:List (Bool×List C)}{vs:List Value},CRt σ g w xs vs->xs.map (fun y=>(y.1,y.2.map (C.fs e x)))=xs
 | [],_,_=>rfl
 | y::ys,_,h=>by
  obtain⟨v,vs',rfl,h1,h2⟩:=h;rw[Qg,nor_t he h2];obtain⟨b,cs⟩:=y;unfold CRx at h1;simp only at h1⊢;split at h1
  ·obtain⟨a,_,h1⟩:=h1;rw[zql he h1]
  ·obtain⟨c,rfl,h1⟩:=h1;rw[Qg,ql1 he h1,Qh]
theorem nor_v {σ:St}{g:Gh}{w:World}{e:Nat}{x:Ev}(he:σ.ev e=none){y:V}{v:Value}(h:VR σ g w y v):V.map (C.fs e x) y=y:=by
 cases y with
 | one c=>exact congrArg V.one (ql1 he h)
 | agg cs=>obtain⟨a,_,h⟩:=h;exact congrArg V.agg (zql he h)
 | tup xs=>obtain⟨vs,_,h⟩:=h;exact congrArg V.tup (nor_t he h)
section
variable {ks:List Fr}{Q:Exit->St->Prop}{σ:St}{ops:Array Oper}{os:List Oper}{L:List (List Ky×List Ky)}{d:Nat}{t:TypeId}{ty:TypeId}{ps:String}{af:Array Edge}{len:Nat}{parts:Array (Nat×Operand)}{n:Nat}{rs:List (List C)}{rows:List (List T)}
theorem qf5 (h:zim P (σ.get P) t len parts=some (n,rs)/\zob σ rs=some rows/\σ.ev (d*32)=none):zak P ⟨some d,.buildSlice t len parts,ty,ps,af,none⟩ σ (σ.put (some d) (.one (.t (.sl n rows)))):=fun n0 N g a w hR hn hdN=>by
 refine Oper.wp_mono ?_ (zi8 (P:=P) (ty:=ty) (ps:=ps) (af:=af) h n0 N g a w hR hn hdN)
 rintro a' w' ⟨g',r1,r2,r3,r4⟩
 have he:=h.2.2
 obtain⟨g2,s1,s2,s3⟩:=fs_wk (σ:=(σ.apd (d*32) [] ⟨false,n,rows,0,true⟩).put (some d) (.one (.ow (d*32) 0))) (e:=d*32) (x:=⟨false,n,rows,0,true⟩) (zah _ _ _) rfl rfl n0 N g' a' w' r1
 refine⟨g2,?_,r2,s2.trans r3,s3.trans r4⟩
 have e1:((σ.apd (d*32) [] ⟨false,n,rows,0,true⟩).put (some d) (.one (.ow (d*32) 0))).fs (d*32) ⟨false,n,rows,0,true⟩=σ.put (some d) (.one (.t (.sl n rows))):=by
  have q1:fsS (upd σ.sl d (.one (.ow (d*32) 0))) (d*32) ⟨false,n,rows,0,true⟩=upd σ.sl d (.one (.t (.sl n rows))):=funext fun i=>by
   show V.map _ (upd σ.sl d _ i)=_
   by_cases hi:i=d
   ·subst hi;rw[zah,zah];show V.one (C.fs _ _ (.ow _ 0))=_
    simp[C.fs]
   ·rw[zam _ _ hi,zam _ _ hi];exact nor_v he (hR.slots i)
  have q2:fsB σ.bx (d*32) ⟨false,n,rows,0,true⟩=σ.bx:=funext fun b=>by
   show(σ.bx b).map _=_
   cases hb:σ.bx b with
   | none=>rfl
   | some cs =>
    obtain⟨vs,ty',k1,k2⟩:=hR.boxes b cs hb;exact congrArg some (zql he k2)
  have q3:fsE (upd σ.ev (d*32) (some ⟨false,n,rows,0,true⟩)) (d*32)=σ.ev:=funext fun k=>by
   show(if k=d*32 then none else upd σ.ev (d*32) _ k)=_
   by_cases hk:k=d*32
   ·rw[if_pos hk,hk,he]
   ·rw[if_neg hk,zam _ _ hk]
  show St.mk (fsS (upd σ.sl d (.one (.ow (d*32) 0))) (d*32) ⟨false,n,rows,0,true⟩) (fsB σ.bx (d*32) ⟨false,n,rows,0,true⟩) (fsE (upd σ.ev (d*32) (some ⟨false,n,rows,0,true⟩)) (d*32))=_
  rw[q1,q2,q3];rfl
 rw[e1]at s1
 exact s1
def slOf:Option (Ev×List (Nat×Ev))->T
 | some (x,_)=>.sl x.sz x.rows
 | none=>.sl 0 []
theorem zn2 (h:zax (blS P σ t len parts) fun _=>σ.ev (d*32)=none)
  (k:exd P ops os (L++[(zaz (parts.toList.map (·.2))++(rK (qah (zim P (σ.get P) t len parts))++[(2,d*32)]),dK (some d)++eK [])]) ks Q (σ.put (some d) (.one (.t (slOf (blS P σ t len parts)))))) :
  exd P ops (⟨some d,.buildSlice t len parts,ty,ps,af,none⟩::os) L ks Q σ:=by
 obtain⟨⟨x,cons⟩,h1,h2⟩:=zap h
 rw[h1]at k
 unfold blS at h1
 obtain⟨p,e1,h1⟩:=Qf.1 h1
 obtain⟨q,e2,h1⟩:=Q4.1 h1
 simp only[Qo]at h1
 obtain⟨rfl,rfl⟩:=h1
 rw[e1]at k
 refine zfj rfl rfl ?_ k
 have:=zgo.of (P:=P) (σ:=σ) (o:=⟨some d,.buildSlice t len parts,ty,ps,af,none⟩) (l:=[]) (v:=.one (.t (.sl p.1 q))) (R:=zaz (parts.toList.map (·.2))++(rK p.2++[(2,d*32)])) (zbj (zbx _) (zbj (zrn _) rfl)) fun σ1 h1=>?_
 ·exact this
 ·have e3:zim P (σ1.get P) t len parts=zim P (σ.get P) t len parts:=zja fun t x hx=>zcb (fun k hk=>h1 k (by simp[hk])) hx t;have e4:zob σ1 p.2=zob σ p.2:=zjj fun k hk=>h1 k (by simp[hk]);exact qf5 ⟨e3.trans e1,e4.trans e2,(Eq.symm (h1 (2,d*32) (by simp))).trans h2⟩
end
attribute [go_sem] slOf
end
section
open Go.RowKit
abbrev qdj (q:Cu):Bxs:=[[(false,zeg q.code),(false,.int .i64 q.pos),(false,.int .u64 q.seed)]]
theorem zsw (b:UInt8):IntKind.i64.wrap (b.toNat:Int)=b.toNat:=by
 have:=b.toNat_lt
 exact za1 Yo Yo
theorem qfn (x:Int):0<=(IntKind.u64.wrap x).fdiv (2^40)/\(IntKind.u64.wrap x).fdiv (2^40)<=18446744073709551615:=by
 have h:0<=IntKind.u64.wrap x/\IntKind.u64.wrap x<=18446744073709551615:=by
  have:=I64.wrap .u64 x;have m1:IntKind.min .u64=0:=by decide
  have m2:IntKind.max .u64=18446744073709551615:=by decide
  rw[m1,m2]at this;exact this
 generalize IntKind.u64.wrap x=y at h
 rw[Int.fdiv_eq_ediv_of_nonneg _ (by decide)]
 omega
theorem qe1 (q:Cu)(hp:q.pos<=1099511627776):PC Tryz.prog 89 (qdj q) [.p 0] (qdj q.nx) [(true,iD q.v)]:=by
 obtain⟨code,pos,seed⟩:=q
 have hpw:IntKind.i64.wrap ((pos:Int)+1)=((pos+1:Nat):Int):=zaw (by dsimp only at hp;omega)
 unfold Cu.v Cu.nx Cu.sd Cu.b
 dsimp only at hp⊢
 by_cases hlt:pos<code.length
 ·have hli:((pos:Int)<code.length)=True:=by simp;omega
  have hle:(((pos+1:Nat):Int)<=code.length)=True:=by simp;omega
  have hg:code.getD pos 0=code[pos]:=by rw[List.getD_eq_getElem?_getD,List.getElem?_eq_getElem hlt];rfl
  rw[if_pos hlt,if_pos Yo,hg];refine zbp Tryz.call89 Tryz.func89 rfl Yn (by simp only[Qc,Qd,Tryz.ntmps89];omega) (by simp only[Tryz.ntmps89];omega) rfl rfl (by simp[zay,T.isPin,AF.ds,bxA]) (by simp[gFS,T.fs,T.flat,AF.ds,bxA]) rfl ?_;simp -implicitDefEqProofs only[go_sem,Tryz.results89];refine drawn Yn ?_;simp -implicitDefEqProofs only[go_sem,hli];refine⟨Yn,?_⟩;refine drawn Yn ?_;simp -implicitDefEqProofs only[go_sem,hlt,zae,zsw];refine⟨Yn,?_⟩;rw[hpw];refine drawn Yn ?_;simp -implicitDefEqProofs only[go_sem,hle];kernel_rfl
 ·have hli:((pos:Int)<code.length)=False:=by simp;omega
  have hle:(((pos+1:Nat):Int)<=code.length)=False:=by simp;omega
  rw[if_neg hlt,if_neg Yo];refine zbp Tryz.call89 Tryz.func89 rfl Yn (by simp only[Qc,Qd,Tryz.ntmps89];omega) (by simp only[Tryz.ntmps89];omega) rfl rfl (by simp[zay,T.isPin,AF.ds,bxA]) (by simp[gFS,T.fs,T.flat,AF.ds,bxA]) rfl ?_;simp -implicitDefEqProofs only[go_sem,Tryz.results89];refine drawn Yn ?_;simp -implicitDefEqProofs only[go_sem,hli];refine⟨Yn,?_⟩;rw[hpw];refine drawn Yn ?_;simp -implicitDefEqProofs only[go_sem,hle];refine⟨Yn,?_⟩;rw[show min 40 64=40 from rfl];exact⟨qfn _,Or.inl rfl⟩
theorem qhw (q:Cu)(hp:q.pos<=1099511627776)(n:Int)(hn:n<=200):PC Tryz.prog 29 (qdj q) [.p 0,.d false (iD n)] (qdj (q.pick n).1) [(true,iD (q.pick n).2)]:=by
 have HN:=qe1 q hp
 have hv:=q.v_bd
 unfold Cu.pick
 by_cases h1:n<=1
 ·rw[if_pos h1];refine zbp Tryz.call29 Tryz.func29 rfl Yn (by simp only[Qc,Qd,Tryz.ntmps29];omega) (by simp only[Tryz.ntmps29];omega) rfl rfl (by simp[zay,T.isPin,AF.ds,bxA]) (by simp[gFS,T.fs,T.flat,AF.ds,bxA]) rfl ?_;simp -implicitDefEqProofs only[go_sem,Tryz.results29,h1]
 ·have h2:(200<n)=False:=by simp;omega
  rw[if_neg h1];refine zbp Tryz.call29 Tryz.func29 rfl Yn (by simp only[Qc,Qd,Tryz.ntmps29];omega) (by simp only[Tryz.ntmps29];omega) rfl rfl (by simp[zay,T.isPin,AF.ds,bxA]) (by simp[gFS,T.fs,T.flat,AF.ds,bxA]) rfl ?_;simp -implicitDefEqProofs only[go_sem,Tryz.results29,h1];refine zag [1,1000000] [8] [1000000] [] (HN) (by decide) rfl (by simp -implicitDefEqProofs only[go_sem,h2]) (by simp -implicitDefEqProofs only[go_sem,h2]) (by simp -implicitDefEqProofs only[go_sem,h2]) (by simp -implicitDefEqProofs only[go_sem,h2]) ?_;simp -implicitDefEqProofs only[go_sem,h2];have ht:0<=q.v.tmod n/\q.v.tmod n<n:=by
   rw[Jl hv.1];exact⟨Int.emod_nonneg _ Yo,Int.emod_lt_of_pos _ Yo⟩
  exact⟨Yo,Yo,Yo⟩
theorem one_c (q:Cu)(hp:q.pos<=1099511627776)(n:Int)(hn:n<=200):PC Tryz.prog 32 (qdj q) [.p 0,.d false (iD n)] (qdj (q.pick n).1) [(true,bD ((q.pick n).2==0))]:=by
 have HN:=qhw q hp n hn
 refine zbp Tryz.call32 Tryz.func32 rfl Yn (by simp only[Qc,Qd,Tryz.ntmps32];omega) (by simp only[Tryz.ntmps32];omega) rfl rfl (by simp[zay,T.isPin,AF.ds,bxA]) (by simp[gFS,T.fs,T.flat,AF.ds,bxA]) rfl ?_
 simp -implicitDefEqProofs only[go_sem,Tryz.results32]
 refine zag [1000000] [5,6] [1000000] [] (HN) (by decide) rfl Ym Ym Ym Ym ?_
 simp -implicitDefEqProofs only[go_sem]
abbrev za0 (code:List UInt8)(q:Cu):Bxs:=[[(false,zeg code),(false,.int .i64 q.pos),(false,.int .u64 q.seed)]]
theorem zt3 {code:List UInt8}{q:Cu}(hc:q.code=code)(hp:q.pos<=1099511627776)(n:Int)(hn:n<=200):PC Tryz.prog 29 (za0 code q) [.p 0,.d false (iD n)] (za0 code (q.pick n).1) [(true,iD (q.pick n).2)]:=by
 subst hc
 have h:=qhw q hp n hn
 rw[show qdj (q.pick n).1=za0 q.code (q.pick n).1 by unfold qdj;rw[q.pick_code]]at h
 exact h
theorem one_k {code:List UInt8}{q:Cu}(hc:q.code=code)(hp:q.pos<=1099511627776)(n:Int)(hn:n<=200):PC Tryz.prog 32 (za0 code q) [.p 0,.d false (iD n)] (za0 code (q.pick n).1) [(true,bD ((q.pick n).2==0))]:=by
 subst hc
 have h:=one_c q hp n hn
 rw[show qdj (q.pick n).1=za0 q.code (q.pick n).1 by unfold qdj;rw[q.pick_code]]at h
 exact h
end
section
open Go.RowKit
theorem ql7 {code:List UInt8}{q:Cu}(hc:q.code=code)(hp:q.pos<=1099511627776)(l:List Int)(hl:1<=l.length)(hn:l.length<=200):PC Tryz.prog 54 (za0 code q) [.p 0,.d true (.one (zo1 l))] (za0 code (ammQ q l).1) [(true,iD (ammQ q l).2)]:=by
 have HN:=zt3 hc hp l.length Yo
 have hb:=q.pick_bd (n:=l.length) Yo
 unfold ammQ
 obtain⟨j,hj⟩:∃j:Nat,(q.pick l.length).2=j:=⟨(q.pick l.length).2.toNat,Yo⟩
 have hjl:j<l.length:=by omega
 rw[hj]at HN⊢
 refine zbp Tryz.call54 Tryz.func54 rfl Yn (by simp only[Qc,Qd,Tryz.ntmps54];omega) (by simp only[Tryz.ntmps54];omega) rfl rfl (by simp[zay,T.isPin,AF.ds,bxA]) (by simp[gFS,T.fs,T.flat,AF.ds,bxA]) rfl ?_
 simp -implicitDefEqProofs only[go_sem,Tryz.results54]
 refine zag [5,1000000] [6,8] [1000000] [] (HN) (by decide) rfl (by simp -implicitDefEqProofs only[go_sem,hjl,zae]) (by simp -implicitDefEqProofs only[go_sem,hjl,zae]) (by simp -implicitDefEqProofs only[go_sem,hjl,zae]) (by simp -implicitDefEqProofs only[go_sem,hjl,zae]) ?_
 simp -implicitDefEqProofs only[go_sem,hjl,zae]
 exact Or.inl (by rw[List.getD_eq_getElem?_getD,List.getElem?_eq_getElem hjl];rfl)
end
section
open Go.RowKit
def Tm.names:Tm->Bool:=Tm.fold fun n xs rs=>if za9 n=true then decide (xs.length=0)else zcs n&&decide (xs.length<=4)&&rs.all id
theorem Tm.names_eq (a:Tm):a.names=if za9 a.name=true then decide (a.args.length=0)else zcs a.name&&decide (a.args.length<=4)&&a.args.all Tm.names:=by
 unfold Tm.names
 rw[Tm.fold_eq]
 simp only[List.all_map]
 rfl
theorem zdx {α:Type}(xs:List α)(p:α->Bool):(!xs.any fun x=>!p x)=xs.all p:=by
 induction xs with
 | nil=>rfl
 | cons x xs ih=>simp only[J0,Ke,Bool.not_or,Bool.not_not,ih]
theorem zsl (a:Tm)(H:∀x∈a.args,FC Tryz.prog 133 [tmD x] [bD x.names]):FC Tryz.prog 133 [tmD a] [bD a.names]:=by
 have H1:∀x∈a.args,FC Tryz.prog 197 [tmD x] [bD (!x.names)]:=fun x hx=>by
  simp only[tmD,zab];refine zai Tryz.call197 Tryz.func197 rfl Yn (zau Yn) ?_;simp -implicitDefEqProofs only[go_sem,Tryz.results197];refine callF (H x hx) (by simp -implicitDefEqProofs only[go_sem,zab]) ?_;simp -implicitDefEqProofs only[go_sem,zab]
 have hN:=a.names_eq
 simp only[tmD,zab]
 refine zai Tryz.call133 Tryz.func133 rfl Yn (zau Yn) ?_
 simp -implicitDefEqProofs only[go_sem,Tryz.results133]
 refine callF (zdn a.name) Ym ?_
 simp -implicitDefEqProofs only[go_sem]
 refine⟨fun h=>?_,fun h=>?_⟩
 ·rw[hN,if_pos h]
  congr 1
  rw[Kq];simp
 ·rw[h]at hN;simp only[Qp,if_false]at hN;refine callF (zmd a.name) Ym ?_;simp -implicitDefEqProofs only[go_sem];refine⟨fun h1=>⟨fun h2=>?_,fun h2=>?_⟩,fun h1=>?_⟩
  ·refine callF (zhb a.args (fun x=>!x.names) _ [] H1) Ym ?_;simp -implicitDefEqProofs only[go_sem];rw[zdx,hN,h1,Qv];rw[show decide (a.args.length<=4)=true by simp at h2⊢;omega];rfl
  ·rw[hN,h1,Qv,show decide (a.args.length<=4)=false by simp at h2⊢;omega];rfl
  ·rw[hN,h1];rfl
theorem zh5:∀a:Tm,FC Tryz.prog 133 [tmD a] [bD a.names]:=zby fun n xs ih=>zsl (.mk n xs) ih
def Tm.good (a:Tm):Bool:=zd5 a&&a.names
theorem zhs (a:Tm)(hs:a.wt<=1099511627776):FC Tryz.prog 61 [tmD a] [bD a.good]:=by
 simp only[tmD,zab]
 refine zai Tryz.call61 Tryz.func61 rfl Yn (zau Yn) ?_
 simp -implicitDefEqProofs only[go_sem,Tryz.results61]
 refine callF (zqh a hs) (by simp -implicitDefEqProofs only[go_sem,zab]) ?_
 simp -implicitDefEqProofs only[go_sem,zab]
 refine⟨fun h=>?_,fun h=>?_⟩
 ·refine callF (zh5 a) (by simp -implicitDefEqProofs only[go_sem,zab]) ?_;simp -implicitDefEqProofs only[go_sem,zab];rw[Tm.good,h,Qv]
 ·rw[Tm.good,h,Qq]
theorem zpf (a:Tm):FC Tryz.prog 187 [tmD a] [bD (a.name==[61])]:=by
 simp only[tmD,zab]
 refine zai Tryz.call187 Tryz.func187 rfl Yn (zau Yn) ?_
 simp -implicitDefEqProofs only[go_sem,Tryz.results187]
def Tm.atomOk (a:Tm):Bool:=if(a.name==[61])=true then decide (a.args.length=2)&&zd5 a&&a.args.all Tm.names else zcs a.name&&a.good
theorem zxu {α:Type}{xs:List α}{p:α->Bool}(h:xs.length=2):xs.all p=(p (xs[0]'Yo)&&p (xs[1]'Yo)):=by
 match xs,h with
 | [a,b],_=>simp
theorem znh (a:Tm)(hs:a.wt<=1099511627776):FC Tryz.prog 167 [tmD a] [bD a.atomOk]:=by
 have hN:a.atomOk=if(a.name==[61])=true then decide (a.args.length=2)&&zd5 a&&a.args.all Tm.names else zcs a.name&&a.good:=rfl
 simp only[tmD,zab]
 refine zai Tryz.call167 Tryz.func167 rfl Yn (zau Yn) ?_
 simp -implicitDefEqProofs only[go_sem,Tryz.results167]
 refine callF (zpf a) (by simp -implicitDefEqProofs only[go_sem,zab]) ?_
 simp -implicitDefEqProofs only[go_sem,zab]
 refine⟨fun h=>?_,fun h=>?_⟩
 ·rw[if_pos h]at hN;by_cases h2:a.args.length=2
  ·have k0:0<a.args.length:=by omega
   have k1:1<a.args.length:=by omega
   have e2:((a.args.length:Int)==2)=true:=by simp[h2]
   have l0:(0:Int)<a.args.length:=by omega
   have l1:(1:Int)<a.args.length:=by omega
   rw[zxu h2,show decide (a.args.length=2)=true by simp[h2]]at hN;simp only[Qv]at hN;simp only[e2,zx1,zfz,qk1,zev,and_true];refine callF (zqh a hs) (by simp -implicitDefEqProofs only[go_sem,zab,l0,zae,k0]) ?_;simp -implicitDefEqProofs only[go_sem,zab,l0,zae,k0];refine⟨fun h3=>?_,fun h3=>?_⟩
   ·refine callF (zh5 a.args[0]) (by simp -implicitDefEqProofs only[go_sem,zab,l1,zae,k1]) ?_;simp -implicitDefEqProofs only[go_sem,zab,l1,zae,k1];refine⟨fun h4=>?_,fun h4=>?_⟩
    ·refine callF (zh5 a.args[1]) (by simp -implicitDefEqProofs only[go_sem,zab]) ?_;simp -implicitDefEqProofs only[go_sem,zab];rw[hN,h3,h4];rfl
    ·rw[hN,h3,h4];rfl
   ·rw[hN,h3];rfl
  ·have e2:((a.args.length:Int)==2)=false:=by simp;omega
   simp only[e2,zx1,qlr,zfz,zev,and_true,true_and,qkr];rw[hN,show decide (a.args.length=2)=false by simpa using h2];rfl
 ·rw[h]at hN;simp only[Qp,if_false]at hN;refine callF (zmd a.name) Ym ?_;simp -implicitDefEqProofs only[go_sem];refine⟨fun h3=>?_,fun h3=>?_⟩
  ·refine callF (zhs a hs) (by simp -implicitDefEqProofs only[go_sem,zab]) ?_;simp -implicitDefEqProofs only[go_sem,zab];rw[hN,h3,Qv]
  ·rw[hN,h3,Qq]
def Tm.none (a:Tm):Bool:=a.name==[]&&decide (a.args.length=0)
theorem za4 (a:Tm):FC Tryz.prog 147 [tmD a] [bD a.none]:=by
 simp only[tmD,zab]
 refine zai Tryz.call147 Tryz.func147 rfl Yn (zau Yn) ?_
 simp -implicitDefEqProofs only[go_sem,Tryz.results147]
 unfold Tm.none
 refine⟨fun h=>?_,fun h=>?_⟩
 ·rw[h,Qv]
  congr 1
  rw[Kq];simp
 ·rw[h];rfl
def isQ (n:Int):Bool:=n==8||n==9
def zms (n:Int):Bool:=n==5||n==6||n==7
theorem zaq (n:Int):FC Tryz.prog 202 [iD n] [bD (isQ n)]:=by
 refine zai Tryz.call202 Tryz.func202 rfl Yn (zau Yn) ?_
 simp -implicitDefEqProofs only[go_sem,Tryz.results202]
 unfold isQ
 refine⟨fun h=>?_,fun h=>?_⟩<;>simp[h]
theorem zgi (n:Int):FC Tryz.prog 203 [iD n] [bD (zms n)]:=by
 refine zai Tryz.call203 Tryz.func203 rfl Yn (zau Yn) ?_
 simp -implicitDefEqProofs only[go_sem,Tryz.results203]
 unfold zms
 refine⟨fun h=>⟨fun h2=>?_,fun h2=>?_⟩,fun h=>?_⟩<;>simp[*]
end
section
open Go.RowKit
def Fm.nodes:Fm->Nat:=Fm.fold fun _ _ _ _ rs=>1+rs.sum
theorem Fm.nodes_eq (a:Fm):a.nodes=1+(a.parts.map Fm.nodes).sum:=Fm.fold_eq _ a
theorem zdp:∀a:Fm,a.nodes<=1+a.wt:=by
 refine zcc fun o a v xs ih=>?_
 rw[Fm.nodes_eq,Fm.wt_eq]
 show 1+(xs.map Fm.nodes).sum<=1+(a.wt+v.length+xs.length+(xs.map Fm.wt).sum)
 have:(xs.map Fm.nodes).sum<=xs.length+(xs.map Fm.wt).sum:=by
  induction xs with
  | nil=>simp
  | cons x xs ih2 =>
   have h1:=ih x (by simp);have h2:=ih2 fun y hy=>ih y (by simp[hy]);simp only[Qg,Q2,Qc];omega
 omega
def zf1:Fm->Int:=Fm.fold fun _ _ _ _ rs=>szL 40 1 rs
theorem zuo (a:Fm):zf1 a=szL 40 1 (a.parts.map zf1):=Fm.fold_eq _ a
theorem zlc:∀a:Fm,1<=zf1 a/\zf1 a<=a.nodes/\(zf1 a<=40->zf1 a=a.nodes):=by
 refine zcc fun o a v xs ih=>?_
 rw[zuo,Fm.nodes_eq]
 show 1<=szL 40 1 (xs.map zf1)/\szL 40 1 (xs.map zf1)<=((1+(xs.map Fm.nodes).sum:Nat):Int)/\_
 obtain⟨k1,k2,k3⟩:=zn8 zf1 Fm.nodes 40 xs 1 Yo ih
 refine⟨k2,Yo,fun h=>?_⟩
 have:=k3 h
 show szL 40 1 (xs.map zf1)=_
 rw[this];show _=((1+(xs.map Fm.nodes).sum:Nat):Int);omega
theorem qd7 (a:Fm):decide (zf1 a<=40)=decide (a.nodes<=40):=by
 obtain⟨h1,h2,h3⟩:=zlc a
 rw[J5]
 exact⟨fun h=>by have:=h3 h;omega,fun h=>by omega⟩
theorem zck {a x:Fm}(h:x∈a.parts):x.wt<=a.wt:=by
 have:=Fm.wt_eq a
 have:=zb8 Fm.wt a.parts x h
 omega
theorem znr {a x:Tm}(h:x∈a.args):x.wt<=a.wt:=by
 have:=Tm.wt_eq a
 have:=zb8 Tm.wt a.args x h
 omega
theorem zh8 (a:Fm):a.atom.wt<=a.wt:=by have:=Fm.wt_eq a;omega
theorem qch (a:Fm)(hs:a.wt<=1099511627776)(H:∀x∈a.parts,FC Tryz.prog 144 [fmD x] [iD (zf1 x)]):FC Tryz.prog 144 [fmD a] [iD (zf1 a)]:=by
 have hl:a.parts.length<=9223372036854775807:=by rw[Fm.wt_eq]at hs;omega
 have hn:=zdp a
 have hN:=a.nodes_eq
 simp only[fmD,zaa]
 refine zai Tryz.call144 Tryz.func144 rfl Yn (zau Yn) ?_
 simp -implicitDefEqProofs only[go_sem,Tryz.results144]
 refine zaf (fun p:Nat×Int=>hd [(3,vI p.2),(7,vT (fmS a.parts)),(8,vI a.parts.length),(9,vI p.1)] [] []) (fun p=>p.1<=a.parts.length/\zf1 a=szL 40 p.2 ((a.parts.drop p.1).map zf1)/\1<=p.2/\p.2+qfe Fm.nodes a.parts p.1<=a.nodes) (fun p=>a.parts.length-p.1) (0,1) (zac ?_) ?_ ?_
 ·simp -implicitDefEqProofs only[go_sem]
 ·exact⟨by simp,by rw[zuo];rfl,Yo,by rw[zht];omega⟩
 ·intro ⟨k,n⟩ ⟨hk,hr,h1,h2⟩;simp only at hk hr h1 h2;by_cases hlt:k<a.parts.length
  ·have hd:=zm1 Fm.nodes a.parts k hlt;obtain⟨s1,s2,s3⟩:=zlc a.parts[k];rw[Qx hlt,Qg,szL]at hr;simp -implicitDefEqProofs only[go_sem,zae,hlt,zaa];refine⟨fun h=>?_,fun h=>?_⟩
   ·rw[hr,if_pos (by simpa using h)]
   ·refine callF (H a.parts[k] (Qj hlt)) (by simp -implicitDefEqProofs only[go_sem,zaa]) ?_;simp -implicitDefEqProofs only[go_sem,zaa];rw[if_neg (by simpa using h)]at hr;exact⟨(k+1,n+zf1 a.parts[k]),⟨hlt,hr,by simp only;omega,by simp only;omega⟩,by simp only;omega,zac (by simp -implicitDefEqProofs only[go_sem];rw[zaw Yo,za1 Yo Yo];exact⟨rfl,rfl⟩)⟩
  ·simp -implicitDefEqProofs only[go_sem,hlt];rw[hr,Q6 Yo];rfl
theorem qed:∀a:Fm,a.wt<=1099511627776->FC Tryz.prog 144 [fmD a] [iD (zf1 a)] :=
 zcc fun o a v xs ih hs=>qch (.mk o a v xs) hs fun x hx=>ih x hx (Kk (zck (a:=.mk o a v xs) hx) hs)
def mnL (ztr:Int):Int->List (Int->Int)->Int
 | n,[]=>n
 | n,r::rs=>if n<=ztr then mnL ztr (n+r (ztr-n)) rs else n
theorem zmu {α:Type}(f:α->Int->Int)(g:α->Nat)(ztr:Int):∀(xs:List α)(n:Int),0<=n->(∀x∈xs,∀m,0<=m->1<=f x m/\f x m<=g x/\(f x m<=m->f x m=g x))->mnL ztr n (xs.map f)<=n+(xs.map g).sum/\n<=mnL ztr n (xs.map f)/\(mnL ztr n (xs.map f)<=ztr->mnL ztr n (xs.map f)=n+(xs.map g).sum)
 | [],n,_,_=>by simp[mnL]
 | x::xs,n,hn,h=>by
  simp only[Qg,mnL,Q2];split
  ·obtain⟨h1,h2,h3⟩:=h x (by simp) (ztr-n) Yo;obtain⟨k1,k2,k3⟩:=zmu f g ztr xs (n+f x (ztr-n)) Yo fun y hy=>h y (by simp[hy]);refine⟨Yo,Yo,fun hh=>?_⟩;have:=k3 hh;have:f x (ztr-n)=g x:=h3 Yo;omega
  ·refine⟨Yo,Yo,fun hh=>by omega⟩
def zfd:Tm->Int->Int:=Tm.fold fun _ _ rs m=>mnL m 1 rs
theorem zun (a:Tm)(m:Int):zfd a m=mnL m 1 (a.args.map zfd):=congrFun (Tm.fold_eq _ a) m
theorem zlb:∀(a:Tm)(m:Int),0<=m->1<=zfd a m/\zfd a m<=a.nodes/\(zfd a m<=m->zfd a m=a.nodes):=by
 refine zby fun b0 xs ih m hm=>?_
 rw[zun,Tm.nodes_eq]
 show 1<=mnL m 1 (xs.map zfd)/\mnL m 1 (xs.map zfd)<=((1+(xs.map Tm.nodes).sum:Nat):Int)/\(mnL m 1 (xs.map zfd)<=m->mnL m 1 (xs.map zfd)=((1+(xs.map Tm.nodes).sum:Nat):Int))
 obtain⟨k1,k2,k3⟩:=zmu zfd Tm.nodes m xs 1 Yo ih
 refine⟨k2,Yo,fun h=>?_⟩
 have:=k3 h
 omega
theorem qdx (a:Tm)(m:Nat):decide (zfd a m<=m)=decide (a.nodes<=m):=by
 obtain⟨h1,h2,h3⟩:=zlb a m Yo
 rw[J5]
 exact⟨fun h=>by have:=h3 h;omega,fun h=>by omega⟩
theorem qae (a:Tm)(hs:a.wt<=1099511627776)(H:∀x∈a.args,∀m:Int,0<=m->m<=1099511627776->FC Tryz.prog 200 [tmD x,iD m] [iD (zfd x m)])(m:Int)(h0:0<=m)(h1:m<=1099511627776):FC Tryz.prog 200 [tmD a,iD m] [iD (zfd a m)]:=by
 have hl:a.args.length<=9223372036854775807:=by rw[Tm.wt_eq]at hs;omega
 have hn:=ze8 a
 have hN:=a.nodes_eq
 simp only[tmD,zab]
 refine zai Tryz.call200 Tryz.func200 rfl Yn (zau Yn) ?_
 simp -implicitDefEqProofs only[go_sem,Tryz.results200]
 refine zaf (fun p:Nat×Int=>hd [(1,vI m),(2,.one (.bx 2 0)),(5,vI p.2),(6,vI p.1)] [(2,[.t (.str a.name),.t (tmS a.args)])] []) (fun p=>p.1<=a.args.length/\zfd a m=mnL m p.2 ((a.args.drop p.1).map zfd)/\1<=p.2/\p.2+qfe Tm.nodes a.args p.1<=a.nodes) (fun p=>a.args.length-p.1) (0,1) (zac ?_) ?_ ?_
 ·simp -implicitDefEqProofs only[go_sem]
 ·exact⟨by simp,by rw[zun];rfl,Yo,by rw[zht];omega⟩
 ·intro ⟨k,n⟩ ⟨hk,hr,h2,h3⟩;simp only at hk hr h2 h3;by_cases hlt:k<a.args.length
  ·have hd:=zm1 Tm.nodes a.args k hlt;rw[Qx hlt,Qg,mnL]at hr;simp -implicitDefEqProofs only[go_sem,zae,hlt,zab];refine⟨fun h=>?_,fun h=>?_⟩
   ·have hle:n<=m:=by simpa using h
    obtain⟨s1,s2,s3⟩:=zlb a.args[k] (m-n) Yo;rw[za1 (n:=m-n) Yo Yo];refine callF (H a.args[k] (Qj hlt) (m-n) Yo Yo) (by simp -implicitDefEqProofs only[go_sem,zab]) ?_;simp -implicitDefEqProofs only[go_sem,zab];rw[if_pos hle]at hr;exact⟨(k+1,n+zfd a.args[k] (m-n)),⟨hlt,hr,by simp only;omega,by simp only;omega⟩,by simp only;omega,zac (by simp -implicitDefEqProofs only[go_sem];rw[zaw Yo,za1 Yo Yo];exact⟨rfl,rfl⟩)⟩
   ·rw[hr,if_neg (by simpa using h)]
  ·simp -implicitDefEqProofs only[go_sem,hlt];rw[hr,Q6 Yo];rfl
theorem qe9:∀a:Tm,a.wt<=1099511627776->∀m:Int,0<=m->m<=1099511627776->FC Tryz.prog 200 [tmD a,iD m] [iD (zfd a m)] :=
 zby fun b0 xs ih hs=>qae (.mk b0 xs) hs fun x hx=>ih x hx (Kk (znr (a:=.mk b0 xs) hx) hs)
def zfe:Fm->Int->Int:=Fm.fold fun _ _ _ _ rs m=>mnL m 1 rs
theorem zuc (a:Fm)(m:Int):zfe a m=mnL m 1 (a.parts.map zfe):=congrFun (Fm.fold_eq _ a) m
theorem zlh:∀(a:Fm)(m:Int),0<=m->1<=zfe a m/\zfe a m<=a.nodes/\(zfe a m<=m->zfe a m=a.nodes):=by
 refine zcc fun b0 b1 b2 xs ih m hm=>?_
 rw[zuc,Fm.nodes_eq]
 show 1<=mnL m 1 (xs.map zfe)/\mnL m 1 (xs.map zfe)<=((1+(xs.map Fm.nodes).sum:Nat):Int)/\(mnL m 1 (xs.map zfe)<=m->mnL m 1 (xs.map zfe)=((1+(xs.map Fm.nodes).sum:Nat):Int))
 obtain⟨k1,k2,k3⟩:=zmu zfe Fm.nodes m xs 1 Yo ih
 refine⟨k2,Yo,fun h=>?_⟩
 have:=k3 h
 omega
theorem qgi (a:Fm)(m:Nat):decide (zfe a m<=m)=decide (a.nodes<=m):=by
 obtain⟨h1,h2,h3⟩:=zlh a m Yo
 rw[J5]
 exact⟨fun h=>by have:=h3 h;omega,fun h=>by omega⟩
theorem qcv (a:Fm)(hs:a.wt<=1099511627776)(H:∀x∈a.parts,∀m:Int,0<=m->m<=1099511627776->FC Tryz.prog 212 [fmD x,iD m] [iD (zfe x m)])(m:Int)(h0:0<=m)(h1:m<=1099511627776):FC Tryz.prog 212 [fmD a,iD m] [iD (zfe a m)]:=by
 have hl:a.parts.length<=9223372036854775807:=by rw[Fm.wt_eq]at hs;omega
 have hn:=zdp a
 have hN:=a.nodes_eq
 simp only[fmD,zaa]
 refine zai Tryz.call212 Tryz.func212 rfl Yn (zau Yn) ?_
 simp -implicitDefEqProofs only[go_sem,Tryz.results212]
 refine zaf (fun p:Nat×Int=>hd [(1,vI m),(2,.one (.bx 2 0)),(5,vI p.2),(6,vI p.1)] [(2,[.t (.int .i64 a.op),.t (.str a.atom.name),.t (tmS a.atom.args),.t (.str a.var),.t (fmS a.parts)])] []) (fun p=>p.1<=a.parts.length/\zfe a m=mnL m p.2 ((a.parts.drop p.1).map zfe)/\1<=p.2/\p.2+qfe Fm.nodes a.parts p.1<=a.nodes) (fun p=>a.parts.length-p.1) (0,1) (zac ?_) ?_ ?_
 ·simp -implicitDefEqProofs only[go_sem]
 ·exact⟨by simp,by rw[zuc];rfl,Yo,by rw[zht];omega⟩
 ·intro ⟨k,n⟩ ⟨hk,hr,h2,h3⟩;simp only at hk hr h2 h3;by_cases hlt:k<a.parts.length
  ·have hd:=zm1 Fm.nodes a.parts k hlt;rw[Qx hlt,Qg,mnL]at hr;simp -implicitDefEqProofs only[go_sem,zae,hlt,zaa];refine⟨fun h=>?_,fun h=>?_⟩
   ·have hle:n<=m:=by simpa using h
    obtain⟨s1,s2,s3⟩:=zlh a.parts[k] (m-n) Yo;rw[za1 (n:=m-n) Yo Yo];refine callF (H a.parts[k] (Qj hlt) (m-n) Yo Yo) (by simp -implicitDefEqProofs only[go_sem,zaa]) ?_;simp -implicitDefEqProofs only[go_sem,zaa];rw[if_pos hle]at hr;exact⟨(k+1,n+zfe a.parts[k] (m-n)),⟨hlt,hr,by simp only;omega,by simp only;omega⟩,by simp only;omega,zac (by simp -implicitDefEqProofs only[go_sem];rw[zaw Yo,za1 Yo Yo];exact⟨rfl,rfl⟩)⟩
   ·rw[hr,if_neg (by simpa using h)]
  ·simp -implicitDefEqProofs only[go_sem,hlt];rw[hr,Q6 Yo];rfl
theorem qfl:∀a:Fm,a.wt<=1099511627776->∀m:Int,0<=m->m<=1099511627776->FC Tryz.prog 212 [fmD a,iD m] [iD (zfe a m)] :=
 zcc fun b0 b1 b2 xs ih hs=>qcv (.mk b0 b1 b2 xs) hs fun x hx=>ih x hx (Kk (zck (a:=.mk b0 b1 b2 xs) hx) hs)
end
section
open Go.RowKit
theorem zwx (a:Tm)(hs:a.wt<=1099511627776)(H:∀x∈a.args,FC Tryz.prog 66 [tmD x] [iD x.depth]):FC Tryz.prog 66 [tmD a] [iD a.depth]:=by
 have hl:a.args.length<=9223372036854775807:=by rw[Tm.wt_eq]at hs;omega
 have hn:=ze8 a
 have hdn:=zjq a
 have hD:=a.depth_eq
 simp only[tmD,zab]
 refine zai Tryz.call66 Tryz.func66 rfl Yn (zau Yn) ?_
 simp -implicitDefEqProofs only[go_sem,Tryz.results66]
 refine zaf (fun p:Nat×Nat=>hd [(1,.one (.bx 1 0)),(3,vI p.2),(4,vI p.1)] [(1,[.t (.str a.name),.t (tmS a.args)])] []) (fun p=>p.1<=a.args.length/\a.depth=((a.args.drop p.1).map Tm.depth).foldl max p.2+1) (fun p=>a.args.length-p.1) (0,0) (zac ?_) ?_ ?_
 ·simp -implicitDefEqProofs only[go_sem]
 ·exact⟨by simp,hD⟩
 ·intro ⟨k,n⟩ ⟨hk,hr⟩;simp only at hk hr;by_cases hlt:k<a.args.length
  ·rw[Qx hlt,Qg,Jw]at hr;simp -implicitDefEqProofs only[go_sem,zae,hlt,zab];refine callF (H a.args[k] (Qj hlt)) (by simp -implicitDefEqProofs only[go_sem,zab]) ?_;simp -implicitDefEqProofs only[go_sem,zab];refine callF (qet n a.args[k].depth) (by simp -implicitDefEqProofs only[go_sem,zab]) ?_;simp -implicitDefEqProofs only[go_sem,zab];exact⟨(k+1,max n a.args[k].depth),⟨hlt,hr⟩,by simp only;omega,zac (by simp -implicitDefEqProofs only[go_sem];rw[zaw Yo];exact⟨by congr 1;omega,rfl⟩)⟩
  ·simp -implicitDefEqProofs only[go_sem,hlt];rw[Q6 Yo]at hr;simp only[Qh,List.foldl_nil]at hr;rw[hr,zaw Yo]
theorem zz1:∀a:Tm,a.wt<=1099511627776->FC Tryz.prog 66 [tmD a] [iD a.depth] :=
 zby fun n xs ih hs=>zwx (.mk n xs) hs fun x hx=>ih x hx (Kk (znr (a:=.mk n xs) hx) hs)
theorem zup (a:Tm)(hs:a.wt<=1099511627776):FC Tryz.prog 138 [tmD a] [bD (zd5 a)]:=by
 simp only[tmD,zab]
 refine zai Tryz.call138 Tryz.func138 rfl Yn (zau Yn) ?_
 simp -implicitDefEqProofs only[go_sem,Tryz.results138]
 refine callF (qe9 a hs 30 Yo Yo) (by simp -implicitDefEqProofs only[go_sem,zab]) ?_
 simp -implicitDefEqProofs only[go_sem,zab]
 rw[show decide (zfd a 30<=30)=decide (a.nodes<=30) from qdx a 30]
 refine⟨fun h=>?_,fun h=>?_⟩
 ·refine callF (zz1 a hs) (by simp -implicitDefEqProofs only[go_sem,zab]) ?_;simp -implicitDefEqProofs only[go_sem,zab];rw[zd5,h,Qv]
  congr 1
  rw[J5];omega
 ·rw[zd5,h];rfl
theorem zwz (a:Tm)(H:∀x∈a.args,FC Tryz.prog 139 [tmD x] [bD x.names]):FC Tryz.prog 139 [tmD a] [bD a.names]:=by
 refine zfa (fun hw=>?_) Tryz.call139
 have hl:a.args.length<=9223372036854775807:=by simp only[tmD,zab]at hw;simp[ziy,wfT,zoe]at hw;exact hw.2.1
 have hN:=a.names_eq
 simp only[tmD,zab]
 refine zai Tryz.call139 Tryz.func139 rfl Yn (zau Yn) ?_
 simp -implicitDefEqProofs only[go_sem,Tryz.results139]
 refine callF (zib a.name) Ym ?_
 simp -implicitDefEqProofs only[go_sem]
 refine⟨fun h=>?_,fun h=>?_⟩
 ·rw[hN,if_pos h]
  congr 1
  rw[Kq];simp
 ·rw[h]at hN;simp only[Qp,if_false]at hN;refine callF (zln a.name) Ym ?_;simp -implicitDefEqProofs only[go_sem];by_cases hy:zcs a.name=true
  ·by_cases h4:a.args.length<=4
   ·rw[hy,show decide (a.args.length<=4)=true by simpa using h4,Qv,Qv]at hN;refine⟨fun _=>⟨fun h=>by simp at h;omega,fun _=>?_⟩,fun h=>by simp[hy]at h⟩;refine zaf (fun k:Nat=>hd [(1,.one (.bx 1 0)),(3,vI k)] [(1,[.t (.str a.name),.t (tmS a.args)])] []) (fun k=>k<=a.args.length/\a.names=(a.args.drop k).all Tm.names) (fun k=>a.args.length-k) 0 (zac ?_) ?_ ?_
    ·simp -implicitDefEqProofs only[go_sem]
    ·exact⟨by simp,hN⟩
    ·intro k ⟨hk,hr⟩;by_cases hlt:k<a.args.length
     ·rw[Qx hlt,Ke]at hr;simp -implicitDefEqProofs only[go_sem,zae,hlt,zab];refine callF (H a.args[k] (Qj hlt)) (by simp -implicitDefEqProofs only[go_sem,zab]) ?_;simp -implicitDefEqProofs only[go_sem,zab];refine⟨fun h=>?_,fun h=>⟨k+1,⟨hlt,?_⟩,Yo,zac (by simp -implicitDefEqProofs only[go_sem];rw[zaw Yo])⟩⟩
      ·rw[hr,show a.args[k].names=false by simpa using h];rfl
      ·rw[hr,show a.args[k].names=true by simpa using h];rfl
     ·simp -implicitDefEqProofs only[go_sem,hlt];rw[hr,Q6 Yo];rfl
   ·refine⟨fun _=>⟨fun _=>?_,fun h=>by simp at h;omega⟩,fun h=>by simp[hy]at h⟩;rw[hN,show decide (a.args.length<=4)=false by simpa using h4,Ka];rfl
  ·have hy':zcs a.name=false:=by simpa using hy
   refine⟨fun h=>by simp[hy']at h,fun _=>?_⟩;rw[hN,hy'];rfl
theorem zjs:∀a:Tm,FC Tryz.prog 139 [tmD a] [bD a.names]:=zby fun n xs ih=>zwz (.mk n xs) ih
theorem zns (a:Tm)(hs:a.wt<=1099511627776):FC Tryz.prog 68 [tmD a] [bD a.good]:=by
 simp only[tmD,zab]
 refine zai Tryz.call68 Tryz.func68 rfl Yn (zau Yn) ?_
 simp -implicitDefEqProofs only[go_sem,Tryz.results68]
 refine callF (zup a hs) (by simp -implicitDefEqProofs only[go_sem,zab]) ?_
 simp -implicitDefEqProofs only[go_sem,zab]
 refine⟨fun h=>?_,fun h=>?_⟩
 ·refine callF (zjs a) (by simp -implicitDefEqProofs only[go_sem,zab]) ?_;simp -implicitDefEqProofs only[go_sem,zab];rw[Tm.good,h,Qv]
 ·rw[Tm.good,h,Qq]
theorem zmo (a:Tm)(hs:a.wt<=1099511627776):FC Tryz.prog 113 [tmD a] [bD a.atomOk]:=by
 have hN:a.atomOk=if(a.name==[61])=true then decide (a.args.length=2)&&zd5 a&&a.args.all Tm.names else zcs a.name&&a.good:=rfl
 simp only[tmD,zab]
 refine zai Tryz.call113 Tryz.func113 rfl Yn (zau Yn) ?_
 simp -implicitDefEqProofs only[go_sem,Tryz.results113]
 refine⟨fun h=>?_,fun h=>?_⟩
 ·rw[if_pos h]at hN;by_cases h2:a.args.length=2
  ·have k0:0<a.args.length:=by omega
   have k1:1<a.args.length:=by omega
   have e2:((a.args.length:Int)==2)=true:=by simp[h2]
   have l0:(0:Int)<a.args.length:=by omega
   have l1:(1:Int)<a.args.length:=by omega
   rw[zxu h2,show decide (a.args.length=2)=true by simp[h2]]at hN;simp only[Qv]at hN;simp only[e2,zx1,zfz,qk1,zev,and_true];refine callF (zup a hs) (by simp -implicitDefEqProofs only[go_sem,zab,l0,zae,k0]) ?_;simp -implicitDefEqProofs only[go_sem,zab,l0,zae,k0];refine⟨fun h3=>?_,fun h3=>?_⟩
   ·refine callF (zjs a.args[0]) (by simp -implicitDefEqProofs only[go_sem,zab,l1,zae,k1]) ?_;simp -implicitDefEqProofs only[go_sem,zab,l1,zae,k1];refine⟨fun h4=>?_,fun h4=>?_⟩
    ·refine callF (zjs a.args[1]) (by simp -implicitDefEqProofs only[go_sem,zab]) ?_;simp -implicitDefEqProofs only[go_sem,zab];rw[hN,h3,h4];rfl
    ·rw[hN,h3,h4];rfl
   ·rw[hN,h3];rfl
  ·have e2:((a.args.length:Int)==2)=false:=by simp;omega
   simp only[e2,zx1,qlr,zfz,zev,and_true,true_and,qkr];rw[hN,show decide (a.args.length=2)=false by simpa using h2];rfl
 ·rw[h]at hN;simp only[Qp,if_false]at hN;refine callF (zln a.name) Ym ?_;simp -implicitDefEqProofs only[go_sem];refine⟨fun h3=>?_,fun h3=>?_⟩
  ·refine callF (zns a hs) (by simp -implicitDefEqProofs only[go_sem,zab]) ?_;simp -implicitDefEqProofs only[go_sem,zab];rw[hN,h3,Qv]
  ·rw[hN,h3,Qq]
theorem zej (a:Tm):FC Tryz.prog 284 [tmD a] [bD a.none]:=by
 simp only[tmD,zab]
 refine zai Tryz.call284 Tryz.func284 rfl Yn (zau Yn) ?_
 simp -implicitDefEqProofs only[go_sem,Tryz.results284]
 unfold Tm.none
 refine⟨fun h=>?_,fun h=>?_⟩
 ·rw[h,Qv]
  congr 1
  rw[Kq];simp
 ·rw[h];rfl
def Fm.here (f:Fm):Bool :=
 if(f.op==1||f.op==2)=true then decide (f.parts.length=0)&&f.atom.none&&(f.var==[])
 else if(f.op==3)=true then decide (f.parts.length=0)&&f.atom.atomOk&&(f.var==[])
 else if(f.op==4)=true then decide (f.parts.length=1)&&f.atom.none&&(f.var==[])
 else if zms f.op=true then decide (f.parts.length=2)&&f.atom.none&&(f.var==[])
 else if isQ f.op=true then decide (f.parts.length=1)&&f.atom.none&&za9 f.var
 else false
theorem zn6 (n m:Nat):((n:Int)==(m:Int))=decide (n=m):=by
 rw[Kq];simp only[Kr,Qm];omega
theorem zrl (n m:Nat):((n:Int) != (m:Int))=!decide (n=m):=by
 rw[bne,zn6]
theorem zs3 (o:Int):o=1\/o=2\/o=3\/o=4\/o=5\/o=6\/o=7\/o=8\/o=9\/(o≠1/\o≠2/\o≠3/\o≠4/\o≠5/\o≠6/\o≠7/\o≠8/\o≠9):=by omega
theorem qdw (f:Fm)(hs:f.wt<=1099511627776):FC Tryz.prog 258 [fmD f] [bD f.here]:=by
 obtain⟨o,a,v,ps⟩:=f
 have ha:a.wt<=1099511627776:=Kk (zh8 (.mk o a v ps)) hs
 have e0:((ps.length:Int)==0)=decide (ps.length=0):=zn6 _ 0
 have e1:((ps.length:Int)==1)=decide (ps.length=1):=zn6 _ 1
 have e2:((ps.length:Int)==2)=decide (ps.length=2):=zn6 _ 2
 rcases zs3 o with rfl|rfl|rfl|rfl|rfl|rfl|rfl|rfl|rfl|⟨n1,n2,n3,n4,n5,n6,n7,n8,n9⟩
 ·have hN:Fm.here (.mk 1 a v ps)=(decide (ps.length=0)&&a.none&&(v==[])):=rfl;simp only[fmD,zaa,Fm.op,Fm.atom,Fm.var,Fm.parts];refine zai Tryz.call258 Tryz.func258 rfl Yn (zau Yn) ?_;simp -implicitDefEqProofs only[go_sem,Tryz.results258];simp only[e0];refine⟨fun h=>?_,fun h=>?_⟩
  ·refine callF (zej a) (by simp -implicitDefEqProofs only[go_sem,zab]) ?_;simp -implicitDefEqProofs only[go_sem,zab];refine⟨fun h1=>?_,fun h1=>?_⟩
   ·rw[hN,h,h1];rfl
   ·rw[hN,h,h1];rfl
  ·rw[hN,h];rfl
 ·have hN:Fm.here (.mk 2 a v ps)=(decide (ps.length=0)&&a.none&&(v==[])):=rfl;simp only[fmD,zaa,Fm.op,Fm.atom,Fm.var,Fm.parts];refine zai Tryz.call258 Tryz.func258 rfl Yn (zau Yn) ?_;simp -implicitDefEqProofs only[go_sem,Tryz.results258];simp only[e0];refine⟨fun h=>?_,fun h=>?_⟩
  ·refine callF (zej a) (by simp -implicitDefEqProofs only[go_sem,zab]) ?_;simp -implicitDefEqProofs only[go_sem,zab];refine⟨fun h1=>?_,fun h1=>?_⟩
   ·rw[hN,h,h1];rfl
   ·rw[hN,h,h1];rfl
  ·rw[hN,h];rfl
 ·have hN:Fm.here (.mk 3 a v ps)=(decide (ps.length=0)&&a.atomOk&&(v==[])):=rfl;simp only[fmD,zaa,Fm.op,Fm.atom,Fm.var,Fm.parts];refine zai Tryz.call258 Tryz.func258 rfl Yn (zau Yn) ?_;simp -implicitDefEqProofs only[go_sem,Tryz.results258];simp only[e0];refine⟨fun h=>?_,fun h=>?_⟩
  ·refine callF (zmo a ha) (by simp -implicitDefEqProofs only[go_sem,zab]) ?_;simp -implicitDefEqProofs only[go_sem,zab];refine⟨fun h1=>?_,fun h1=>?_⟩
   ·rw[hN,h,h1];rfl
   ·rw[hN,h,h1];rfl
  ·rw[hN,h];rfl
 ·have hN:Fm.here (.mk 4 a v ps)=(decide (ps.length=1)&&a.none&&(v==[])):=rfl;simp only[fmD,zaa,Fm.op,Fm.atom,Fm.var,Fm.parts];refine zai Tryz.call258 Tryz.func258 rfl Yn (zau Yn) ?_;simp -implicitDefEqProofs only[go_sem,Tryz.results258];simp only[e1];refine⟨fun h=>?_,fun h=>?_⟩
  ·refine callF (zej a) (by simp -implicitDefEqProofs only[go_sem,zab]) ?_;simp -implicitDefEqProofs only[go_sem,zab];refine⟨fun h1=>?_,fun h1=>?_⟩
   ·rw[hN,h,h1];rfl
   ·rw[hN,h,h1];rfl
  ·rw[hN,h];rfl
 ·have hN:Fm.here (.mk 5 a v ps)=(decide (ps.length=2)&&a.none&&(v==[])):=rfl;simp only[fmD,zaa,Fm.op,Fm.atom,Fm.var,Fm.parts];refine zai Tryz.call258 Tryz.func258 rfl Yn (zau Yn) ?_;simp -implicitDefEqProofs only[go_sem,Tryz.results258];simp only[e2];refine⟨fun h=>?_,fun h=>?_⟩
  ·refine callF (zej a) (by simp -implicitDefEqProofs only[go_sem,zab]) ?_;simp -implicitDefEqProofs only[go_sem,zab];refine⟨fun h1=>?_,fun h1=>?_⟩
   ·rw[hN,h,h1];rfl
   ·rw[hN,h,h1];rfl
  ·rw[hN,h];rfl
 ·have hN:Fm.here (.mk 6 a v ps)=(decide (ps.length=2)&&a.none&&(v==[])):=rfl;simp only[fmD,zaa,Fm.op,Fm.atom,Fm.var,Fm.parts];refine zai Tryz.call258 Tryz.func258 rfl Yn (zau Yn) ?_;simp -implicitDefEqProofs only[go_sem,Tryz.results258];simp only[e2];refine⟨fun h=>?_,fun h=>?_⟩
  ·refine callF (zej a) (by simp -implicitDefEqProofs only[go_sem,zab]) ?_;simp -implicitDefEqProofs only[go_sem,zab];refine⟨fun h1=>?_,fun h1=>?_⟩
   ·rw[hN,h,h1];rfl
   ·rw[hN,h,h1];rfl
  ·rw[hN,h];rfl
 ·have hN:Fm.here (.mk 7 a v ps)=(decide (ps.length=2)&&a.none&&(v==[])):=rfl;simp only[fmD,zaa,Fm.op,Fm.atom,Fm.var,Fm.parts];refine zai Tryz.call258 Tryz.func258 rfl Yn (zau Yn) ?_;simp -implicitDefEqProofs only[go_sem,Tryz.results258];simp only[e2];refine⟨fun h=>?_,fun h=>?_⟩
  ·refine callF (zej a) (by simp -implicitDefEqProofs only[go_sem,zab]) ?_;simp -implicitDefEqProofs only[go_sem,zab];refine⟨fun h1=>?_,fun h1=>?_⟩
   ·rw[hN,h,h1];rfl
   ·rw[hN,h,h1];rfl
  ·rw[hN,h];rfl
 ·have hN:Fm.here (.mk 8 a v ps)=(decide (ps.length=1)&&a.none&&za9 v):=rfl;simp only[fmD,zaa,Fm.op,Fm.atom,Fm.var,Fm.parts];refine zai Tryz.call258 Tryz.func258 rfl Yn (zau Yn) ?_;simp -implicitDefEqProofs only[go_sem,Tryz.results258];simp only[e1];refine⟨fun h=>?_,fun h=>?_⟩
  ·refine callF (zej a) (by simp -implicitDefEqProofs only[go_sem,zab]) ?_;simp -implicitDefEqProofs only[go_sem,zab];refine⟨fun h1=>?_,fun h1=>?_⟩
   ·refine callF (zib v) Ym ?_;simp -implicitDefEqProofs only[go_sem];rw[hN,h,h1];rfl
   ·rw[hN,h,h1];rfl
  ·rw[hN,h];rfl
 ·have hN:Fm.here (.mk 9 a v ps)=(decide (ps.length=1)&&a.none&&za9 v):=rfl;simp only[fmD,zaa,Fm.op,Fm.atom,Fm.var,Fm.parts];refine zai Tryz.call258 Tryz.func258 rfl Yn (zau Yn) ?_;simp -implicitDefEqProofs only[go_sem,Tryz.results258];simp only[e1];refine⟨fun h=>?_,fun h=>?_⟩
  ·refine callF (zej a) (by simp -implicitDefEqProofs only[go_sem,zab]) ?_;simp -implicitDefEqProofs only[go_sem,zab];refine⟨fun h1=>?_,fun h1=>?_⟩
   ·refine callF (zib v) Ym ?_;simp -implicitDefEqProofs only[go_sem];rw[hN,h,h1];rfl
   ·rw[hN,h,h1];rfl
  ·rw[hN,h];rfl
 ·have hN:Fm.here (.mk o a v ps)=false:=by simp[Fm.here,zms,isQ,Fm.op, *]
  have f1:(o==1)=false:=by simpa using n1
  have f2:(o==2)=false:=by simpa using n2
  have f3:(o==3)=false:=by simpa using n3
  have f4:(o==4)=false:=by simpa using n4
  have f5:(o==5)=false:=by simpa using n5
  have f6:(o==6)=false:=by simpa using n6
  have f7:(o==7)=false:=by simpa using n7
  have f8:(o==8)=false:=by simpa using n8
  have f9:(o==9)=false:=by simpa using n9
  simp only[fmD,zaa,Fm.op,Fm.atom,Fm.var,Fm.parts];refine zai Tryz.call258 Tryz.func258 rfl Yn (zau Yn) ?_;simp -implicitDefEqProofs only[go_sem,Tryz.results258,f1,f2,f3,f4,f5,f6,f7,f8,f9];rw[hN]
def Fm.forms:Fm->Bool:=Fm.fold fun o a v ps rs=>(Fm.mk o a v ps).here&&rs.all id
theorem Fm.forms_eq (f:Fm):f.forms=(f.here&&f.parts.all Fm.forms):=by
 unfold Fm.forms
 rw[Fm.fold_eq]
 simp only[List.all_map,Fm.eta]
 rfl
theorem zvz (a:Fm)(hs:a.wt<=1099511627776)(H:∀x∈a.parts,FC Tryz.prog 213 [fmD x] [bD x.forms]):FC Tryz.prog 213 [fmD a] [bD a.forms]:=by
 have hl:a.parts.length<=9223372036854775807:=by rw[Fm.wt_eq]at hs;omega
 have hN:=a.forms_eq
 simp only[fmD,zaa]
 refine zai Tryz.call213 Tryz.func213 rfl Yn (zau Yn) ?_
 simp -implicitDefEqProofs only[go_sem,Tryz.results213]
 refine callF (qdw a hs) (by simp -implicitDefEqProofs only[go_sem,zaa]) ?_
 simp -implicitDefEqProofs only[go_sem,zaa]
 refine⟨fun h=>?_,fun h=>?_⟩
 ·rw[hN,show a.here=false by simpa using h];rfl
 ·rw[show a.here=true by simpa using h,Qv]at hN;refine zaf (fun k:Nat=>hd [(1,.one (.bx 1 0)),(3,vI k)] [(1,[.t (.int .i64 a.op),.t (.str a.atom.name),.t (tmS a.atom.args),.t (.str a.var),.t (fmS a.parts)])] []) (fun k=>k<=a.parts.length/\a.forms=(a.parts.drop k).all Fm.forms) (fun k=>a.parts.length-k) 0 (zac ?_) ?_ ?_
  ·simp -implicitDefEqProofs only[go_sem]
  ·exact⟨by simp,hN⟩
  ·intro k ⟨hk,hr⟩;by_cases hlt:k<a.parts.length
   ·rw[Qx hlt,Ke]at hr;simp -implicitDefEqProofs only[go_sem,zae,hlt,zaa];refine callF (H a.parts[k] (Qj hlt)) (by simp -implicitDefEqProofs only[go_sem,zaa]) ?_;simp -implicitDefEqProofs only[go_sem,zaa];refine⟨fun h=>?_,fun h=>⟨k+1,⟨hlt,?_⟩,Yo,zac (by simp -implicitDefEqProofs only[go_sem];rw[zaw Yo])⟩⟩
    ·rw[hr,show a.parts[k].forms=false by simpa using h];rfl
    ·rw[hr,show a.parts[k].forms=true by simpa using h];rfl
   ·simp -implicitDefEqProofs only[go_sem,hlt];rw[hr,Q6 Yo];rfl
theorem qcg:∀a:Fm,a.wt<=1099511627776->FC Tryz.prog 213 [fmD a] [bD a.forms] :=
 zcc fun o a v xs ih hs=>zvz (.mk o a v xs) hs fun x hx=>ih x hx (Kk (zck (a:=.mk o a v xs) hx) hs)
def Fm.good (a:Fm):Bool:=decide (a.nodes<=40)&&a.forms
theorem zul (a:Fm)(hs:a.wt<=1099511627776):FC Tryz.prog 157 [fmD a] [bD a.good]:=by
 simp only[fmD,zaa]
 refine zai Tryz.call157 Tryz.func157 rfl Yn (zau Yn) ?_
 simp -implicitDefEqProofs only[go_sem,Tryz.results157]
 refine callF (qfl a hs 40 Yo Yo) (by simp -implicitDefEqProofs only[go_sem,zaa]) ?_
 simp -implicitDefEqProofs only[go_sem,zaa]
 rw[show decide (zfe a 40<=40)=decide (a.nodes<=40) from qgi a 40]
 refine⟨fun h=>?_,fun h=>?_⟩
 ·refine callF (qcg a hs) (by simp -implicitDefEqProofs only[go_sem,zaa]) ?_;simp -implicitDefEqProofs only[go_sem,zaa];rw[Fm.good,h,Qv]
 ·rw[Fm.good,h,Qq]
end
section
open Go.RowKit
theorem zwd (f:Fm)(hs:f.wt<=1099511627776)(H:∀x∈f.parts,FC Tryz.prog 145 [fmD x] [bD x.forms]):FC Tryz.prog 145 [fmD f] [bD f.forms]:=by
 have H1:∀x∈f.parts,FC Tryz.prog 204 [fmD x] [bD (!x.forms)]:=fun x hx=>by
  simp only[fmD,zaa];refine zai Tryz.call204 Tryz.func204 rfl Yn (zau Yn) ?_;simp -implicitDefEqProofs only[go_sem,Tryz.results204];refine callF (H x hx) (by simp -implicitDefEqProofs only[go_sem,zaa]) ?_;simp -implicitDefEqProofs only[go_sem,zaa]
 have hN:=f.forms_eq
 obtain⟨o,a,v,ps⟩:=f
 have ha:a.wt<=1099511627776:=Kk (zh8 (.mk o a v ps)) hs
 have e0:((ps.length:Int) != 0)=!decide (ps.length=0):=zrl _ 0
 have e1:((ps.length:Int) != 1)=!decide (ps.length=1):=zrl _ 1
 have e2:((ps.length:Int) != 2)=!decide (ps.length=2):=zrl _ 2
 simp only[Fm.parts]at H1 hN
 rcases zs3 o with rfl|rfl|rfl|rfl|rfl|rfl|rfl|rfl|rfl|⟨n1,n2,n3,n4,n5,n6,n7,n8,n9⟩
 ·have hH:Fm.here (.mk 1 a v ps)=(decide (ps.length=0)&&a.none&&(v==[])):=rfl;rw[hH]at hN;have hq:isQ 1=false:=rfl;have hb:zms 1=false:=rfl;simp only[fmD,zaa,Fm.op,Fm.atom,Fm.var,Fm.parts];refine zai Tryz.call145 Tryz.func145 rfl Yn (zau Yn) ?_;simp -implicitDefEqProofs only[go_sem,Tryz.results145];simp only[e0];refine⟨fun h=>?_,fun h=>?_⟩
  ·have h':decide (ps.length=0)=true:=by simpa using h
   refine callF (zaq 1) (by simp -implicitDefEqProofs only[go_sem,hq]) ?_;simp -implicitDefEqProofs only[go_sem,hq];refine callF (zaq 1) (by simp -implicitDefEqProofs only[go_sem,hq]) ?_;simp -implicitDefEqProofs only[go_sem,hq];refine⟨fun h1=>?_,fun h1=>?_⟩
   ·rw[hN,show(v==[])=false by simpa using h1,Ka,Qq]
   ·have h1':(v==[])=true:=by simpa using h1
    refine callF (za4 a) (by simp -implicitDefEqProofs only[go_sem,zab]) ?_;simp -implicitDefEqProofs only[go_sem,zab];refine⟨fun h2=>?_,fun h2=>?_⟩
    ·rw[hN,show a.none=false by simpa using h2,Ka,Qq,Qq]
    ·have h2':a.none=true:=by simpa using h2
     refine callF (zav ps (fun x=>!x.forms) _ [] H1) Ym ?_;simp -implicitDefEqProofs only[go_sem];rw[zdx,hN,h',h1',h2'];rfl
  ·rw[hN,show decide (ps.length=0)=false by simpa using h];rfl
 ·have hH:Fm.here (.mk 2 a v ps)=(decide (ps.length=0)&&a.none&&(v==[])):=rfl;rw[hH]at hN;have hq:isQ 2=false:=rfl;have hb:zms 2=false:=rfl;simp only[fmD,zaa,Fm.op,Fm.atom,Fm.var,Fm.parts];refine zai Tryz.call145 Tryz.func145 rfl Yn (zau Yn) ?_;simp -implicitDefEqProofs only[go_sem,Tryz.results145];simp only[e0];refine⟨fun h=>?_,fun h=>?_⟩
  ·have h':decide (ps.length=0)=true:=by simpa using h
   refine callF (zaq 2) (by simp -implicitDefEqProofs only[go_sem,hq]) ?_;simp -implicitDefEqProofs only[go_sem,hq];refine callF (zaq 2) (by simp -implicitDefEqProofs only[go_sem,hq]) ?_;simp -implicitDefEqProofs only[go_sem,hq];refine⟨fun h1=>?_,fun h1=>?_⟩
   ·rw[hN,show(v==[])=false by simpa using h1,Ka,Qq]
   ·have h1':(v==[])=true:=by simpa using h1
    refine callF (za4 a) (by simp -implicitDefEqProofs only[go_sem,zab]) ?_;simp -implicitDefEqProofs only[go_sem,zab];refine⟨fun h2=>?_,fun h2=>?_⟩
    ·rw[hN,show a.none=false by simpa using h2,Ka,Qq,Qq]
    ·have h2':a.none=true:=by simpa using h2
     refine callF (zav ps (fun x=>!x.forms) _ [] H1) Ym ?_;simp -implicitDefEqProofs only[go_sem];rw[zdx,hN,h',h1',h2'];rfl
  ·rw[hN,show decide (ps.length=0)=false by simpa using h];rfl
 ·have hH:Fm.here (.mk 3 a v ps)=(decide (ps.length=0)&&a.atomOk&&(v==[])):=rfl;rw[hH]at hN;have hq:isQ 3=false:=rfl;have hb:zms 3=false:=rfl;simp only[fmD,zaa,Fm.op,Fm.atom,Fm.var,Fm.parts];refine zai Tryz.call145 Tryz.func145 rfl Yn (zau Yn) ?_;simp -implicitDefEqProofs only[go_sem,Tryz.results145];simp only[e0];refine⟨fun h=>?_,fun h=>?_⟩
  ·have h':decide (ps.length=0)=true:=by simpa using h
   refine callF (zaq 3) (by simp -implicitDefEqProofs only[go_sem,hq]) ?_;simp -implicitDefEqProofs only[go_sem,hq];refine callF (zaq 3) (by simp -implicitDefEqProofs only[go_sem,hq]) ?_;simp -implicitDefEqProofs only[go_sem,hq];refine⟨fun h1=>?_,fun h1=>?_⟩
   ·rw[hN,show(v==[])=false by simpa using h1,Ka,Qq]
   ·have h1':(v==[])=true:=by simpa using h1
    refine callF (znh a ha) (by simp -implicitDefEqProofs only[go_sem,zab]) ?_;simp -implicitDefEqProofs only[go_sem,zab];refine And.symm ⟨fun h2=>?_,fun h2=>?_⟩
    ·rw[hN,show a.atomOk=false by simpa using h2,Ka,Qq,Qq]
    ·have h2':a.atomOk=true:=by simpa using h2
     refine callF (zav ps (fun x=>!x.forms) _ [] H1) Ym ?_;simp -implicitDefEqProofs only[go_sem];rw[zdx,hN,h',h1',h2'];rfl
  ·rw[hN,show decide (ps.length=0)=false by simpa using h];rfl
 ·have hH:Fm.here (.mk 4 a v ps)=(decide (ps.length=1)&&a.none&&(v==[])):=rfl;rw[hH]at hN;have hq:isQ 4=false:=rfl;have hb:zms 4=false:=rfl;simp only[fmD,zaa,Fm.op,Fm.atom,Fm.var,Fm.parts];refine zai Tryz.call145 Tryz.func145 rfl Yn (zau Yn) ?_;simp -implicitDefEqProofs only[go_sem,Tryz.results145];simp only[e1];refine⟨fun h=>?_,fun h=>?_⟩
  ·have h':decide (ps.length=1)=true:=by simpa using h
   refine callF (zaq 4) (by simp -implicitDefEqProofs only[go_sem,hq]) ?_;simp -implicitDefEqProofs only[go_sem,hq];refine callF (zaq 4) (by simp -implicitDefEqProofs only[go_sem,hq]) ?_;simp -implicitDefEqProofs only[go_sem,hq];refine⟨fun h1=>?_,fun h1=>?_⟩
   ·rw[hN,show(v==[])=false by simpa using h1,Ka,Qq]
   ·have h1':(v==[])=true:=by simpa using h1
    refine callF (za4 a) (by simp -implicitDefEqProofs only[go_sem,zab]) ?_;simp -implicitDefEqProofs only[go_sem,zab];refine⟨fun h2=>?_,fun h2=>?_⟩
    ·rw[hN,show a.none=false by simpa using h2,Ka,Qq,Qq]
    ·have h2':a.none=true:=by simpa using h2
     refine callF (zav ps (fun x=>!x.forms) _ [] H1) Ym ?_;simp -implicitDefEqProofs only[go_sem];rw[zdx,hN,h',h1',h2'];rfl
  ·rw[hN,show decide (ps.length=1)=false by simpa using h];rfl
 ·have hH:Fm.here (.mk 5 a v ps)=(decide (ps.length=2)&&a.none&&(v==[])):=rfl;rw[hH]at hN;have hq:isQ 5=false:=rfl;have hb:zms 5=true:=rfl;simp only[fmD,zaa,Fm.op,Fm.atom,Fm.var,Fm.parts];refine zai Tryz.call145 Tryz.func145 rfl Yn (zau Yn) ?_;simp -implicitDefEqProofs only[go_sem,Tryz.results145];refine callF (zaq 5) (by simp -implicitDefEqProofs only[go_sem,hq]) ?_;simp -implicitDefEqProofs only[go_sem,hq];refine callF (zgi 5) (by simp -implicitDefEqProofs only[go_sem,hb]) ?_;simp -implicitDefEqProofs only[go_sem,hb];simp only[e2];refine⟨fun h=>?_,fun h=>?_⟩
  ·have h':decide (ps.length=2)=true:=by simpa using h
   refine callF (zaq 5) (by simp -implicitDefEqProofs only[go_sem,hq]) ?_;simp -implicitDefEqProofs only[go_sem,hq];refine callF (zaq 5) (by simp -implicitDefEqProofs only[go_sem,hq]) ?_;simp -implicitDefEqProofs only[go_sem,hq];refine⟨fun h1=>?_,fun h1=>?_⟩
   ·rw[hN,show(v==[])=false by simpa using h1,Ka,Qq]
   ·have h1':(v==[])=true:=by simpa using h1
    refine callF (za4 a) (by simp -implicitDefEqProofs only[go_sem,zab]) ?_;simp -implicitDefEqProofs only[go_sem,zab];refine⟨fun h2=>?_,fun h2=>?_⟩
    ·rw[hN,show a.none=false by simpa using h2,Ka,Qq,Qq]
    ·have h2':a.none=true:=by simpa using h2
     refine callF (zav ps (fun x=>!x.forms) _ [] H1) Ym ?_;simp -implicitDefEqProofs only[go_sem];rw[zdx,hN,h',h1',h2'];rfl
  ·rw[hN,show decide (ps.length=2)=false by simpa using h];rfl
 ·have hH:Fm.here (.mk 6 a v ps)=(decide (ps.length=2)&&a.none&&(v==[])):=rfl;rw[hH]at hN;have hq:isQ 6=false:=rfl;have hb:zms 6=true:=rfl;simp only[fmD,zaa,Fm.op,Fm.atom,Fm.var,Fm.parts];refine zai Tryz.call145 Tryz.func145 rfl Yn (zau Yn) ?_;simp -implicitDefEqProofs only[go_sem,Tryz.results145];refine callF (zaq 6) (by simp -implicitDefEqProofs only[go_sem,hq]) ?_;simp -implicitDefEqProofs only[go_sem,hq];refine callF (zgi 6) (by simp -implicitDefEqProofs only[go_sem,hb]) ?_;simp -implicitDefEqProofs only[go_sem,hb];simp only[e2];refine⟨fun h=>?_,fun h=>?_⟩
  ·have h':decide (ps.length=2)=true:=by simpa using h
   refine callF (zaq 6) (by simp -implicitDefEqProofs only[go_sem,hq]) ?_;simp -implicitDefEqProofs only[go_sem,hq];refine callF (zaq 6) (by simp -implicitDefEqProofs only[go_sem,hq]) ?_;simp -implicitDefEqProofs only[go_sem,hq];refine⟨fun h1=>?_,fun h1=>?_⟩
   ·rw[hN,show(v==[])=false by simpa using h1,Ka,Qq]
   ·have h1':(v==[])=true:=by simpa using h1
    refine callF (za4 a) (by simp -implicitDefEqProofs only[go_sem,zab]) ?_;simp -implicitDefEqProofs only[go_sem,zab];refine⟨fun h2=>?_,fun h2=>?_⟩
    ·rw[hN,show a.none=false by simpa using h2,Ka,Qq,Qq]
    ·have h2':a.none=true:=by simpa using h2
     refine callF (zav ps (fun x=>!x.forms) _ [] H1) Ym ?_;simp -implicitDefEqProofs only[go_sem];rw[zdx,hN,h',h1',h2'];rfl
  ·rw[hN,show decide (ps.length=2)=false by simpa using h];rfl
 ·have hH:Fm.here (.mk 7 a v ps)=(decide (ps.length=2)&&a.none&&(v==[])):=rfl;rw[hH]at hN;have hq:isQ 7=false:=rfl;have hb:zms 7=true:=rfl;simp only[fmD,zaa,Fm.op,Fm.atom,Fm.var,Fm.parts];refine zai Tryz.call145 Tryz.func145 rfl Yn (zau Yn) ?_;simp -implicitDefEqProofs only[go_sem,Tryz.results145];refine callF (zaq 7) (by simp -implicitDefEqProofs only[go_sem,hq]) ?_;simp -implicitDefEqProofs only[go_sem,hq];refine callF (zgi 7) (by simp -implicitDefEqProofs only[go_sem,hb]) ?_;simp -implicitDefEqProofs only[go_sem,hb];simp only[e2];refine⟨fun h=>?_,fun h=>?_⟩
  ·have h':decide (ps.length=2)=true:=by simpa using h
   refine callF (zaq 7) (by simp -implicitDefEqProofs only[go_sem,hq]) ?_;simp -implicitDefEqProofs only[go_sem,hq];refine callF (zaq 7) (by simp -implicitDefEqProofs only[go_sem,hq]) ?_;simp -implicitDefEqProofs only[go_sem,hq];refine⟨fun h1=>?_,fun h1=>?_⟩
   ·rw[hN,show(v==[])=false by simpa using h1,Ka,Qq]
   ·have h1':(v==[])=true:=by simpa using h1
    refine callF (za4 a) (by simp -implicitDefEqProofs only[go_sem,zab]) ?_;simp -implicitDefEqProofs only[go_sem,zab];refine⟨fun h2=>?_,fun h2=>?_⟩
    ·rw[hN,show a.none=false by simpa using h2,Ka,Qq,Qq]
    ·have h2':a.none=true:=by simpa using h2
     refine callF (zav ps (fun x=>!x.forms) _ [] H1) Ym ?_;simp -implicitDefEqProofs only[go_sem];rw[zdx,hN,h',h1',h2'];rfl
  ·rw[hN,show decide (ps.length=2)=false by simpa using h];rfl
 ·have hH:Fm.here (.mk 8 a v ps)=(decide (ps.length=1)&&a.none&&za9 v):=rfl;rw[hH]at hN;have hq:isQ 8=true:=rfl;have hb:zms 8=false:=rfl;simp only[fmD,zaa,Fm.op,Fm.atom,Fm.var,Fm.parts];refine zai Tryz.call145 Tryz.func145 rfl Yn (zau Yn) ?_;simp -implicitDefEqProofs only[go_sem,Tryz.results145];refine callF (zaq 8) (by simp -implicitDefEqProofs only[go_sem,hq]) ?_;simp -implicitDefEqProofs only[go_sem,hq];simp only[e1];refine⟨fun h=>?_,fun h=>?_⟩
  ·have h':decide (ps.length=1)=true:=by simpa using h
   refine callF (zaq 8) (by simp -implicitDefEqProofs only[go_sem,hq]) ?_;simp -implicitDefEqProofs only[go_sem,hq];refine callF (zdn v) Ym ?_;simp -implicitDefEqProofs only[go_sem];refine⟨fun h1=>?_,fun h1=>?_⟩
   ·have h1':za9 v=true:=by simpa using h1
    refine callF (zaq 8) (by simp -implicitDefEqProofs only[go_sem,hq]) ?_;simp -implicitDefEqProofs only[go_sem,hq];refine callF (za4 a) (by simp -implicitDefEqProofs only[go_sem,zab]) ?_;simp -implicitDefEqProofs only[go_sem,zab];refine⟨fun h2=>?_,fun h2=>?_⟩
    ·rw[hN,show a.none=false by simpa using h2,Ka,Qq,Qq]
    ·have h2':a.none=true:=by simpa using h2
     refine callF (zav ps (fun x=>!x.forms) _ [] H1) Ym ?_;simp -implicitDefEqProofs only[go_sem];rw[zdx,hN,h',h1',h2'];rfl
   ·rw[hN,show za9 v=false by simpa using h1,Ka,Qq]
  ·rw[hN,show decide (ps.length=1)=false by simpa using h];rfl
 ·have hH:Fm.here (.mk 9 a v ps)=(decide (ps.length=1)&&a.none&&za9 v):=rfl;rw[hH]at hN;have hq:isQ 9=true:=rfl;have hb:zms 9=false:=rfl;simp only[fmD,zaa,Fm.op,Fm.atom,Fm.var,Fm.parts];refine zai Tryz.call145 Tryz.func145 rfl Yn (zau Yn) ?_;simp -implicitDefEqProofs only[go_sem,Tryz.results145];refine callF (zaq 9) (by simp -implicitDefEqProofs only[go_sem,hq]) ?_;simp -implicitDefEqProofs only[go_sem,hq];simp only[e1];refine⟨fun h=>?_,fun h=>?_⟩
  ·have h':decide (ps.length=1)=true:=by simpa using h
   refine callF (zaq 9) (by simp -implicitDefEqProofs only[go_sem,hq]) ?_;simp -implicitDefEqProofs only[go_sem,hq];refine callF (zdn v) Ym ?_;simp -implicitDefEqProofs only[go_sem];refine⟨fun h1=>?_,fun h1=>?_⟩
   ·have h1':za9 v=true:=by simpa using h1
    refine callF (zaq 9) (by simp -implicitDefEqProofs only[go_sem,hq]) ?_;simp -implicitDefEqProofs only[go_sem,hq];refine callF (za4 a) (by simp -implicitDefEqProofs only[go_sem,zab]) ?_;simp -implicitDefEqProofs only[go_sem,zab];refine⟨fun h2=>?_,fun h2=>?_⟩
    ·rw[hN,show a.none=false by simpa using h2,Ka,Qq,Qq]
    ·have h2':a.none=true:=by simpa using h2
     refine callF (zav ps (fun x=>!x.forms) _ [] H1) Ym ?_;simp -implicitDefEqProofs only[go_sem];rw[zdx,hN,h',h1',h2'];rfl
   ·rw[hN,show za9 v=false by simpa using h1,Ka,Qq]
  ·rw[hN,show decide (ps.length=1)=false by simpa using h];rfl
 ·have hH:Fm.here (.mk o a v ps)=false:=by simp[Fm.here,zms,isQ,Fm.op, *]
  rw[hH]at hN;have f1:(o==1)=false:=by simpa using n1
  have f2:(o==2)=false:=by simpa using n2
  have f3:(o==3)=false:=by simpa using n3
  have f4:(o==4)=false:=by simpa using n4
  have hq:isQ o=false:=by simp[isQ,n8,n9]
  have hb:zms o=false:=by simp[zms,n5,n6,n7]
  simp only[fmD,zaa,Fm.op,Fm.atom,Fm.var,Fm.parts];refine zai Tryz.call145 Tryz.func145 rfl Yn (zau Yn) ?_;simp -implicitDefEqProofs only[go_sem,Tryz.results145,f1,f2,f3,f4];refine callF (zaq o) (by simp -implicitDefEqProofs only[go_sem,hq]) ?_;simp -implicitDefEqProofs only[go_sem,hq];refine callF (zgi o) (by simp -implicitDefEqProofs only[go_sem,hb]) ?_;simp -implicitDefEqProofs only[go_sem,hb];rw[hN];rfl
theorem zy0:∀a:Fm,a.wt<=1099511627776->FC Tryz.prog 145 [fmD a] [bD a.forms] :=
 zcc fun o a v xs ih hs=>zwd (.mk o a v xs) hs fun x hx=>ih x hx (Kk (zck (a:=.mk o a v xs) hx) hs)
theorem zcm (a:Fm)(hs:a.wt<=1099511627776):FC Tryz.prog 78 [fmD a] [bD a.good]:=by
 simp only[fmD,zaa]
 refine zai Tryz.call78 Tryz.func78 rfl Yn (zau Yn) ?_
 simp -implicitDefEqProofs only[go_sem,Tryz.results78]
 refine callF (qed a hs) (by simp -implicitDefEqProofs only[go_sem,zaa]) ?_
 simp -implicitDefEqProofs only[go_sem,zaa]
 rw[qd7]
 refine⟨fun h=>?_,fun h=>?_⟩
 ·refine callF (zy0 a hs) (by simp -implicitDefEqProofs only[go_sem,zaa]) ?_;simp -implicitDefEqProofs only[go_sem,zaa];rw[Fm.good,h,Qv]
 ·rw[Fm.good,h,Qq]
end
section
open Go.RowKit
def Drw {α:Type}(code:List UInt8)(f:FuncId)(l:List AF)(c:Nat)(d:α->Bool×D)(ok:α->Prop):Prop :=
 ∀q:Cu,q.code=code->q.pos+c<=1099511627776->∃(q':Cu) (x:α),q'.code=code/\q'.pos<=q.pos+c/\ok x/\PC Tryz.prog f (za0 code q) l (za0 code q') [d x]
theorem zeh (code:List UInt8)(n:Int)(h1:1<=n)(hn:n<=200):Drw code 29 [.p 0,.d false (iD n)] 1 (fun x:Int=>(true,iD x)) (fun x=>0<=x/\x<n):=fun q hq hp =>
 ⟨(q.pick n).1,(q.pick n).2,(q.pick_code n).trans hq,(q.pick_pos n).2,q.pick_bd h1,zt3 hq Yo n hn⟩
theorem zmf (code:List UInt8)(n:Int)(hn:n<=200):Drw code 32 [.p 0,.d false (iD n)] 1 (fun b:Bool=>(true,bD b)) (fun _=>True):=fun q hq hp =>
 ⟨(q.pick n).1,_,(q.pick_code n).trans hq,(q.pick_pos n).2,trivial,one_k hq Yo n hn⟩
theorem qh0 (code:List UInt8)(l:List Int)(hl:1<=l.length)(hn:l.length<=200):Drw code 54 [.p 0,.d true (.one (zo1 l))] 1 (fun x:Int=>(true,iD x)) (fun x=>x∈l):=fun q hq hp=>by
 have hb:=q.pick_bd (n:=l.length) Yo
 refine⟨(ammQ q l).1,(ammQ q l).2,(q.pick_code _).trans hq,(q.pick_pos _).2,?_,ql7 hq Yo l hl hn⟩
 have hj:(q.pick l.length).2.toNat<l.length:=by omega
 show l.getD (q.pick l.length).2.toNat 0∈l
 rw[List.getD_eq_getElem?_getD,List.getElem?_eq_getElem hj]
 exact Qj hj
theorem ofD (code:List UInt8)(l:List Str)(hl:1<=l.length)(hn:l.length<=200):Drw code 31 [.p 0,.d true (.one (zb5 l))] 1 (fun x:Str=>(true,.one (.str x))) (fun x=>x∈l):=fun q hq hp=>by
 have HN:=zt3 hq Yo l.length Yo
 have hb:=q.pick_bd (n:=l.length) Yo
 obtain⟨j,hj⟩:∃j:Nat,(q.pick l.length).2=j:=⟨(q.pick l.length).2.toNat,Yo⟩
 have hjl:j<l.length:=by omega
 refine⟨(q.pick l.length).1,l[j],(q.pick_code _).trans hq,(q.pick_pos _).2,Qj hjl,?_⟩
 rw[hj]at HN
 refine zbp Tryz.call31 Tryz.func31 rfl Yn (by simp only[Qc,Qd,Tryz.ntmps31];omega) (by simp only[Tryz.ntmps31];omega) rfl rfl (by simp[zay,T.isPin,AF.ds,bxA]) (by simp[gFS,T.fs,T.flat,AF.ds,bxA]) rfl ?_
 simp -implicitDefEqProofs only[go_sem,Tryz.results31]
 refine zag [5,1000000] [6,8] [1000000] [] (HN) (by decide) rfl (by simp -implicitDefEqProofs only[go_sem,hjl,zae]) (by simp -implicitDefEqProofs only[go_sem,hjl,zae]) (by simp -implicitDefEqProofs only[go_sem,hjl,zae]) (by simp -implicitDefEqProofs only[go_sem,hjl,zae]) ?_
 simp -implicitDefEqProofs only[go_sem,hjl,zae]
abbrev grL:List Str:=[[88],[89],[90],[97],[98],[88],[97]]
theorem zr7 {l:List Str}(hl:∀s∈l,s.length<=8){s:Str}(h:s∈l):(Tm.mk s []).wt<=8:=by
 rw[Tm.wt_eq]
 have:=hl s h
 simp only[Tm.name,Tm.args,Qd,Qh,Ku]
 omega
theorem zl3 (code:List UInt8)(d:Int)(hd:d<=1)(q:Cu)(hq:q.code=code)(hp:q.pos+1<=1099511627776):∃(q':Cu)(t:Tm),q'.code=code/\q'.pos<=q.pos+1/\t.wt<=8/\PC Tryz.prog 143 (za0 code q) [.p 0,.d false (iD d)] (za0 code q') [(true,tmD t)]:=by
 obtain⟨q1,s,c1,p1,o1,H1⟩:=ofD code grL (by simp) (by simp) q hq hp
 refine⟨q1,.mk s [],c1,p1,zr7 (by decide) o1,?_⟩
 have hd1:(d<=1)=True:=by simp[hd]
 refine zbp Tryz.call143 Tryz.func143 rfl Yn (by simp only[Qc,Qd,Tryz.ntmps143];omega) (by simp only[Tryz.ntmps143];omega) rfl rfl (by simp[zay,T.isPin,AF.ds,bxA]) (by simp[gFS,T.fs,T.flat,AF.ds,bxA]) rfl ?_
 simp -implicitDefEqProofs only[go_sem,Tryz.results143,hd1]
 refine zad Ym ?_
 simp -implicitDefEqProofs only[go_sem]
 refine zag [4,1000000] [11,12] [1000000] [] (H1) (by decide) rfl Ym Ym Ym Ym ?_
 simp -implicitDefEqProofs only[go_sem]
 rw[zab]
 left
 simp -implicitDefEqProofs only[go_sem,Tm.name,Tm.args,Qh]
theorem zk7 (code:List UInt8)(k:Nat)(hk:k<=8)(c W:Nat)(H:Drw code 143 [.p 0,.d false (iD ((k:Int)+1))] c (fun t:Tm=>(true,tmD t)) (fun t=>t.wt<=W)) :
  Drw code 143 [.p 0,.d false (iD ((k:Int)+2))] (2*c+3) (fun t:Tm=>(true,tmD t)) (fun t=>t.wt<=2*W+8):=fun q hq hp=>by
 have hd1:((k:Int)+2<=1)=False:=by simp;omega
 have hw:IntKind.i64.wrap ((k:Int)+2-1)=(k:Int)+1:=by rw[za1 Yo Yo];omega
 obtain⟨q1,b,c1,p1,_,H1⟩:=zmf code 3 Yo q hq Yo
 cases b
 ·obtain⟨q2,b2,c2,p2,_,H2⟩:=zmf code 2 Yo q1 c1 Yo;obtain⟨q3,t3,c3,p3,o3,H3⟩:=H q2 c2 Yo;simp only[tmD,zab t3]at H3;cases b2
  ·obtain⟨q4,t4,c4,p4,o4,H4⟩:=H q3 c3 Yo;simp only[tmD,zab t4]at H4;refine⟨q4,.mk [103] [t3,t4],c4,Yo,?_,?_⟩
   ·show(Tm.mk [103] [t3,t4]).wt<=2*W+8
    rw[Tm.wt_eq];simp only[Tm.name,Tm.args,Qc,Qd,Qg,Qh,Q2,Ku];omega
   ·refine zbp Tryz.call143 Tryz.func143 rfl Yn (by simp only[Qc,Qd,Tryz.ntmps143];omega) (by simp only[Tryz.ntmps143];omega) rfl rfl (by simp[zay,T.isPin,AF.ds,bxA]) (by simp[gFS,T.fs,T.flat,AF.ds,bxA]) rfl ?_;simp -implicitDefEqProofs only[go_sem,Tryz.results143,hd1];refine zag [0,1,4,7,1000000] [8] [1000000] [] (H1) (by decide) rfl Ym Ym Ym Ym ?_;simp -implicitDefEqProofs only[go_sem];refine zag [0,1,4,1000000] [15] [1000000] [] (H2) (by decide) rfl Ym Ym Ym Ym ?_;simp -implicitDefEqProofs only[go_sem];rw[hw];refine zag [0,1,4,1000000] [23,25] [1000000] [] (H3) (by decide) rfl Ym Ym Ym Ym ?_;simp -implicitDefEqProofs only[go_sem];rw[hw];refine zag [4,26,1000000] [27,29] [1000000] [] (H4) (by decide) rfl Ym Ym Ym Ym ?_;simp -implicitDefEqProofs only[go_sem];refine zad Ym ?_;simp -implicitDefEqProofs only[go_sem];rw[zab (.mk [103] [t3,t4])];left;simp -implicitDefEqProofs only[go_sem,Tm.name,Tm.args,Qg,Qh,zab t3,zab t4]
  ·refine⟨q3,.mk [102] [t3],c3,Yo,?_,?_⟩
   ·show(Tm.mk [102] [t3]).wt<=2*W+8
    rw[Tm.wt_eq];simp only[Tm.name,Tm.args,Qc,Qd,Qg,Qh,Q2,Ku];omega
   ·refine zbp Tryz.call143 Tryz.func143 rfl Yn (by simp only[Qc,Qd,Tryz.ntmps143];omega) (by simp only[Tryz.ntmps143];omega) rfl rfl (by simp[zay,T.isPin,AF.ds,bxA]) (by simp[gFS,T.fs,T.flat,AF.ds,bxA]) rfl ?_;simp -implicitDefEqProofs only[go_sem,Tryz.results143,hd1];refine zag [0,1,4,7,1000000] [8] [1000000] [] (H1) (by decide) rfl Ym Ym Ym Ym ?_;simp -implicitDefEqProofs only[go_sem];refine zag [0,1,4,1000000] [15] [1000000] [] (H2) (by decide) rfl Ym Ym Ym Ym ?_;simp -implicitDefEqProofs only[go_sem];rw[hw];refine zag [4,1000000] [17,19] [1000000] [] (H3) (by decide) rfl Ym Ym Ym Ym ?_;simp -implicitDefEqProofs only[go_sem];refine zad Ym ?_;simp -implicitDefEqProofs only[go_sem];rw[zab (.mk [102] [t3])];left;simp -implicitDefEqProofs only[go_sem,Tm.name,Tm.args,Qg,Qh,zab t3]
 ·obtain⟨q2,s,c2,p2,o2,H2⟩:=ofD code grL (by simp) (by simp) q1 c1 Yo;refine⟨q2,.mk s [],c2,Yo,Kk (zr7 (by decide) o2) Yo,?_⟩;refine zbp Tryz.call143 Tryz.func143 rfl Yn (by simp only[Qc,Qd,Tryz.ntmps143];omega) (by simp only[Tryz.ntmps143];omega) rfl rfl (by simp[zay,T.isPin,AF.ds,bxA]) (by simp[gFS,T.fs,T.flat,AF.ds,bxA]) rfl ?_;simp -implicitDefEqProofs only[go_sem,Tryz.results143,hd1];refine zag [0,1,4,7,1000000] [8] [1000000] [] (H1) (by decide) rfl Ym Ym Ym Ym ?_;simp -implicitDefEqProofs only[go_sem];refine zad Ym ?_;simp -implicitDefEqProofs only[go_sem];refine zag [4,1000000] [11,12] [1000000] [] (H2) (by decide) rfl Ym Ym Ym Ym ?_;simp -implicitDefEqProofs only[go_sem];rw[zab];left;simp -implicitDefEqProofs only[go_sem,Tm.name,Tm.args,Qh]
theorem Drw.mono {α:Type}{code:List UInt8}{f:FuncId}{l:List AF}{c c':Nat}{d:α->Bool×D}{ok ok':α->Prop}(h:Drw code f l c d ok)(hc:c<=c')(ho:∀x,ok x->ok' x):Drw code f l c' d ok':=fun q hq hp=>by
 obtain⟨q',x,c1,p1,o1,H⟩:=h q hq Yo
 exact⟨q',x,c1,Yo,ho x o1,H⟩
theorem zut (code:List UInt8)(d:Int)(hd:d<=3):Drw code 143 [.p 0,.d false (iD d)] 13 (fun t:Tm=>(true,tmD t)) (fun t=>t.wt<=56):=by
 have g1:Drw code 143 [.p 0,.d false (iD (((0:Nat):Int)+1))] 1 (fun t:Tm=>(true,tmD t)) (fun t=>t.wt<=8):=fun q hq hp=>zl3 code _ Yo q hq hp
 have g2:=zk7 code 0 Yo 1 8 g1
 have g3:=zk7 code 1 Yo 5 24 g2
 by_cases h1:d<=1
 ·exact Drw.mono (fun q hq hp=>zl3 code d h1 q hq hp) (c:=1) (ok:=fun t=>t.wt<=8) Yo fun x h=>by omega
 ·by_cases h2:d=2
  ·subst h2;exact g2.mono Yo fun x h=>by omega
  ·have h3:d=3:=by omega
   subst h3;exact g3.mono Yo fun x h=>by omega
theorem zss (code:List UInt8):Drw code 76 [.p 0] 14 (fun t:Tm=>(true,tmD t)) (fun t=>t.wt<=56):=fun q hq hp=>by
 obtain⟨q1,x,c1,p1,o1,H1⟩:=zeh code 3 Yo Yo q hq Yo
 obtain⟨q2,t,c2,p2,o2,H2⟩:=zut code (1+x) Yo q1 c1 Yo
 have hw:IntKind.i64.wrap (1+x)=1+x:=za1 Yo Yo
 simp only[tmD,zab t]at H2
 refine⟨q2,t,c2,Yo,o2,?_⟩
 simp only[tmD,zab t]
 refine zbp Tryz.call76 Tryz.func76 rfl Yn (by simp only[Qc,Qd,Tryz.ntmps76];omega) (by simp only[Tryz.ntmps76];omega) rfl rfl (by simp[zay,T.isPin,AF.ds,bxA]) (by simp[gFS,T.fs,T.flat,AF.ds,bxA]) rfl ?_
 simp -implicitDefEqProofs only[go_sem,Tryz.results76]
 refine zag [2,3,1000000] [4] [1000000] [] (H1) (by decide) rfl Ym Ym Ym Ym ?_
 simp -implicitDefEqProofs only[go_sem]
 rw[hw]
 refine zag [2,1000000] [3,6] [1000000] [] (H2) (by decide) rfl Ym Ym Ym Ym ?_
 simp -implicitDefEqProofs only[go_sem]
end
section
open Go.RowKit
def zrF:Fm:=.mk 0 (.mk [] []) [] []
def upX {α:Type}(X:Nat->α)(k:Nat):List α:=(List.range k).map X
theorem zi6 {α:Type}(X:Nat->α):upX X 0=[]:=rfl
theorem zjb {α:Type}(X:Nat->α)(k:Nat):upX X (k+1)=upX X k++[X k]:=by
 unfold upX;rw[List.range_succ,Qy];rfl
theorem zbh {α:Type}(X:Nat->α)(k:Nat):(upX X k).length=k:=by unfold upX;simp
theorem zmv {α:Type}{X:Nat->α}{k:Nat}{x:α}(h:x∈upX X k):∃i<k,x=X i:=by
 unfold upX at h
 obtain⟨i,hi,rfl⟩:=Ki.1 h
 exact⟨i,K2.1 hi,rfl⟩
theorem zz3 {α:Type}{code:List UInt8}{f:FuncId}{l:List AF}{c:Nat}{d:α->Bool×D}{ok:α->Prop}(x0:α)(H:Drw code f l c d ok):∀(n:Nat)(q:Cu),q.code=code->q.pos+n*c<=1099511627776 →
  ∃(Q:Nat->Cu) (X:Nat->α),Q 0=q/\(∀k,k<=n->(Q k).code=code/\(Q k).pos<=q.pos+n*c)/\∀k,k<n->ok (X k)/\PC Tryz.prog f (za0 code (Q k)) l (za0 code (Q (k+1))) [d (X k)]
 | 0,q,hq,hp=>⟨fun _=>q,fun _=>x0,rfl,fun k hk=>⟨hq,by simp⟩,fun k hk=>absurd hk Yo⟩
 | n+1,q,hq,hp=>by
  rw[Nat.succ_mul]at hp;obtain⟨q1,x,c1,p1,o1,H1⟩:=H q hq Yo;obtain⟨Q,X,e0,hQ,hX⟩:=zz3 x0 H n q1 c1 Yo;refine⟨fun k=>Nat.casesOn k q fun j=>Q j,fun k=>Nat.casesOn k x fun j=>X j,rfl,fun k hk=>?_,fun k hk=>?_⟩
  ·rw[Nat.succ_mul];cases k with
   | zero=>exact⟨hq,by show q.pos<=_;omega⟩
   | succ k =>
    have:=hQ k Yo;exact⟨this.1,by show(Q k).pos<=_;omega⟩
  ·cases k with
   | zero =>
    refine⟨o1,?_⟩;show PC _ _ (za0 code q) _ (za0 code (Q 0)) _
    rw[e0];exact H1
   | succ k=>exact hX k Yo
theorem qld {α:Type}{code:List UInt8}{f:FuncId}{l:List AF}{c:Nat}{d:α->Bool×D}{ok:α->Prop}(x0:α)(H:Drw code f l c d ok)(T:Nat):∀(r L:Nat)(q:Cu),L+r=T+1->q.code=code->q.pos+(r*(c+1)+1)<=1099511627776 →
  ∃(m:Nat) (Q R:Nat->Cu) (B:Nat->Int) (X:Nat->α),m<=r/\Q 0=q/\(∀k,k<=m->(Q k).code=code/\(R k).code=code/\(R k).pos<=q.pos+(r*(c+1)+1)/\(0<=B k/\B k<2)/\PC Tryz.prog 29 (za0 code (Q k)) [.p 0,.d false (iD 2)] (za0 code (R k)) [(true,iD (B k))]) ∧
   (∀k,k<m->((L+k:Nat):Int)<T+B k/\ok (X k)/\PC Tryz.prog f (za0 code (R k)) l (za0 code (Q (k+1))) [d (X k)])/\¬(((L+m:Nat):Int)<T+B m)
 | 0,L,q,hL,hq,hp=>by
  obtain⟨q1,b,c1,p1,o1,H1⟩:=zeh code 2 Yo Yo q hq Yo;exact⟨0,fun _=>q,fun _=>q1,fun _=>b,fun _=>x0,Qz _,rfl,fun k hk=>⟨hq,c1,by show q1.pos<=_;omega,o1,H1⟩,fun k hk=>absurd hk Yo,by simp only[J9];omega⟩
 | r+1,L,q,hL,hq,hp=>by
  rw[Nat.succ_mul]at hp;obtain⟨q1,b,c1,p1,o1,H1⟩:=zeh code 2 Yo Yo q hq Yo;by_cases hb:(L:Int)<T+b
  ·obtain⟨q2,x,c2,p2,o2,H2⟩:=H q1 c1 Yo;obtain⟨m,Q,R,B,X,hm,e0,hQ,hX,hE⟩:=qld x0 H T r (L+1) q2 Yo c2 Yo;refine⟨m+1,fun k=>Nat.casesOn k q fun j=>Q j,fun k=>Nat.casesOn k q1 fun j=>R j,fun k=>Nat.casesOn k b fun j=>B j,fun k=>Nat.casesOn k x fun j=>X j,Yo,rfl,fun k hk=>?_,fun k hk=>?_,?_⟩
   ·rw[Nat.succ_mul];cases k with
    | zero=>exact⟨hq,c1,by show q1.pos<=_;omega,o1,H1⟩
    | succ k =>
     obtain⟨a1,a2,a3,a4,a5⟩:=hQ k Yo;exact⟨a1,a2,by show(R k).pos<=_;omega,a4,a5⟩
   ·cases k with
    | zero =>
     refine⟨hb,o2,?_⟩;show PC _ _ (za0 code q1) _ (za0 code (Q 0)) _
     rw[e0];exact H2
    | succ k =>
     have:=hX k Yo;rw[show L+(k+1)=L+1+k by omega];exact this
   ·show ¬(((L+(m+1):Nat):Int)<T+B m)
    rw[show L+(m+1)=L+1+m by omega];exact hE
  ·exact⟨0,fun _=>q,fun _=>q1,fun _=>b,fun _=>x0,Q3 _,rfl,fun k hk=>⟨hq,c1,by show q1.pos<=_;rw[Nat.succ_mul];omega,o1,H1⟩,fun k hk=>absurd hk Yo,hb⟩
end
section
open Go.RowKit
theorem zb4 (n:Str)(xs:List Tm):(Tm.mk n xs).wt=n.length+xs.length+(xs.map Tm.wt).sum:=Tm.wt_eq _
theorem atomD (code:List UInt8):Drw code 220 [.p 0] 30 (fun t:Tm=>(true,tmD t)) (fun t=>t.wt<=200):=fun q hq hp=>by
 obtain⟨q1,x,c1,p1,o1,H1⟩:=zeh code 8 Yo Yo q hq Yo
 by_cases hx:x=0\/x=1
 ·obtain⟨q2,a,c2,p2,o2,H2⟩:=zss code q1 c1 Yo;obtain⟨q3,b,c3,p3,o3,H3⟩:=zss code q2 c2 Yo;simp only[tmD,zab a]at H2;simp only[tmD,zab b]at H3;refine⟨q3,.mk [61] [a,b],c3,Yo,?_,?_⟩
  ·show(Tm.mk [61] [a,b]).wt<=200
   rw[zb4];simp only[Qc,Qd,Qg,Qh,Q2,Ku];omega
  rcases hx with rfl|rfl
  all_goals
   refine zbp Tryz.call220 Tryz.func220 rfl Yn (by simp only[Qc,Qd,Tryz.ntmps220];omega) (by simp only[Tryz.ntmps220];omega) rfl rfl (by simp[zay,T.isPin,AF.ds,bxA]) (by simp[gFS,T.fs,T.flat,AF.ds,bxA]) rfl ?_;simp -implicitDefEqProofs only[go_sem,Tryz.results220];refine zag [0,2,1000000] [3] [1000000] [] (H1) (by decide) rfl Ym Ym Ym Ym ?_;simp -implicitDefEqProofs only[go_sem];refine zag [0,2,1000000] [8] [1000000] [] (H2) (by decide) rfl Ym Ym Ym Ym ?_;simp -implicitDefEqProofs only[go_sem];refine zag [2,9,1000000] [10] [1000000] [] (H3) (by decide) rfl Ym Ym Ym Ym ?_;simp -implicitDefEqProofs only[go_sem];refine zad Ym ?_;simp -implicitDefEqProofs only[go_sem];rw[zab (.mk [61] [a,b])];left;simp -implicitDefEqProofs only[go_sem,Tm.name,Tm.args,Qg,Qh,zab a,zab b]
 ·by_cases hx2:x=2
  ·subst hx2;refine⟨q1,.mk [114] [],c1,Yo,?_,?_⟩
   ·show(Tm.mk [114] []).wt<=200
    rw[zb4];simp
   refine zbp Tryz.call220 Tryz.func220 rfl Yn (by simp only[Qc,Qd,Tryz.ntmps220];omega) (by simp only[Tryz.ntmps220];omega) rfl rfl (by simp[zay,T.isPin,AF.ds,bxA]) (by simp[gFS,T.fs,T.flat,AF.ds,bxA]) rfl ?_;simp -implicitDefEqProofs only[go_sem,Tryz.results220];refine zag [0,2,1000000] [3] [1000000] [] (H1) (by decide) rfl Ym Ym Ym Ym ?_;simp -implicitDefEqProofs only[go_sem];rw[zab (.mk [114] [])];left;simp -implicitDefEqProofs only[go_sem,Tm.name,Tm.args,Qg,Qh]
  ·by_cases hx3:x=3\/x=4
   ·obtain⟨q2,a,c2,p2,o2,H2⟩:=zut code 2 Yo q1 c1 Yo;obtain⟨q3,b,c3,p3,o3,H3⟩:=zut code 2 Yo q2 c2 Yo;simp only[tmD,zab a]at H2;simp only[tmD,zab b]at H3;refine⟨q3,.mk [113] [a,b],c3,Yo,?_,?_⟩
    ·show(Tm.mk [113] [a,b]).wt<=200
     rw[zb4];simp only[Qc,Qd,Qg,Qh,Q2,Ku];omega
    rcases hx3 with rfl|rfl
    all_goals
     refine zbp Tryz.call220 Tryz.func220 rfl Yn (by simp only[Qc,Qd,Tryz.ntmps220];omega) (by simp only[Tryz.ntmps220];omega) rfl rfl (by simp[zay,T.isPin,AF.ds,bxA]) (by simp[gFS,T.fs,T.flat,AF.ds,bxA]) rfl ?_;simp -implicitDefEqProofs only[go_sem,Tryz.results220];refine zag [0,2,1000000] [3] [1000000] [] (H1) (by decide) rfl Ym Ym Ym Ym ?_;simp -implicitDefEqProofs only[go_sem];refine zag [0,2,1000000] [20] [1000000] [] (H2) (by decide) rfl Ym Ym Ym Ym ?_;simp -implicitDefEqProofs only[go_sem];refine zag [2,21,1000000] [22] [1000000] [] (H3) (by decide) rfl Ym Ym Ym Ym ?_;simp -implicitDefEqProofs only[go_sem];refine zad Ym ?_;simp -implicitDefEqProofs only[go_sem];rw[zab (.mk [113] [a,b])];left;simp -implicitDefEqProofs only[go_sem,Tm.name,Tm.args,Qg,Qh,zab a,zab b]
   ·obtain⟨q2,a,c2,p2,o2,H2⟩:=zut code 2 Yo q1 c1 Yo;simp only[tmD,zab a]at H2;refine⟨q2,.mk [112] [a],c2,Yo,?_,?_⟩
    ·show(Tm.mk [112] [a]).wt<=200
     rw[zb4];simp only[Qc,Qd,Qg,Qh,Q2,Ku];omega
    have e0:(x==0)=false:=by rw[Ql];omega
    have e1:(x==1)=false:=by rw[Ql];omega
    have e2:(x==2)=false:=by rw[Ql];omega
    have e3:(x==3)=false:=by rw[Ql];omega
    have e4:(x==4)=false:=by rw[Ql];omega
    refine zbp Tryz.call220 Tryz.func220 rfl Yn (by simp only[Qc,Qd,Tryz.ntmps220];omega) (by simp only[Tryz.ntmps220];omega) rfl rfl (by simp[zay,T.isPin,AF.ds,bxA]) (by simp[gFS,T.fs,T.flat,AF.ds,bxA]) rfl ?_;simp -implicitDefEqProofs only[go_sem,Tryz.results220];refine zag [0,2,1000000] [3] [1000000] [] (H1) (by decide) rfl (by simp -implicitDefEqProofs only[go_sem,e0,e1,e2,e3,e4]) (by simp -implicitDefEqProofs only[go_sem,e0,e1,e2,e3,e4]) (by simp -implicitDefEqProofs only[go_sem,e0,e1,e2,e3,e4]) (by simp -implicitDefEqProofs only[go_sem,e0,e1,e2,e3,e4]) ?_;simp -implicitDefEqProofs only[go_sem,e0,e1,e2,e3,e4];refine zag [2,1000000] [26] [1000000] [] (H2) (by decide) rfl Ym Ym Ym Ym ?_;simp -implicitDefEqProofs only[go_sem];refine zad Ym ?_;simp -implicitDefEqProofs only[go_sem];rw[zab (.mk [112] [a])];left;simp -implicitDefEqProofs only[go_sem,Tm.name,Tm.args,Qg,Qh,zab a]
def twT (t:Tm):Nat->Tm
 | 0=>t
 | k+1=>.mk [102] [twT t k]
theorem qiw (t:Tm):∀k:Nat,(twT t k).wt=t.wt+2*k
 | 0=>rfl
 | k+1=>by
  show(Tm.mk [102] [twT t k]).wt=_
  rw[zb4,Qg,Qh,Q2,Ku,qiw t k];simp only[Qc,Qd];omega
abbrev twL:List Str:=[[88],[97]]
def twS (code:List UInt8)(q:Cu)(s:Str)(n:Nat):Nat->St
 | 0=>hd [(1,vI n),(4,.one (.bx 4 0)),(5,.one (.bx 5 0)),(1000000,.one (.bx 1000000 0))] [(4,[.t (.str []),.nl 2]),(5,[.t (.str s),.nl 2]),(1000000,[.rn (zeg code),.t (.int .i64 q.pos),.t (.int .u64 q.seed)])] []
 | k+1=>hd [(1,.one (.t (.int .i64 ((n:Int)-(k+1))))),(4,.one (.bx 4 0)),(5,.one (.bx 5 0)),(1000000,.one (.bx 1000000 0))] [(4,[.t (.str []),.nl 2]),(5,[.t (.str [102]),.ow 5000 0]),(1000000,[.rn (zeg code),.t (.int .i64 q.pos),.t (.int .u64 q.seed)])] [(5000,⟨true,2,[tmC (twT (.mk s []) k)],0,true⟩)]
theorem towerD (code:List UInt8)(n:Nat)(hn:n<=20):Drw code 91 [.p 0,.d false (iD (n:Int))] 1 (fun t:Tm=>(true,tmD t)) (fun t=>t.wt<=60):=fun q hq hp=>by
 obtain⟨q1,s,c1,p1,o1,H1⟩:=ofD code twL (by simp) (by simp) q hq hp
 refine⟨q1,twT (.mk s []) (n-1),c1,p1,?_,?_⟩
 ·show(twT (.mk s []) (n-1)).wt<=60
  rw[qiw];have:=zr7 (l:=twL) (by decide) o1;omega
 refine zbp Tryz.call91 Tryz.func91 rfl Yn (by simp only[Qc,Qd,Tryz.ntmps91];omega) (by simp only[Tryz.ntmps91];omega) rfl rfl (by simp[zay,T.isPin,AF.ds,bxA]) (by simp[gFS,T.fs,T.flat,AF.ds,bxA]) rfl ?_
 simp -implicitDefEqProofs only[go_sem,Tryz.results91]
 refine zad Ym ?_
 simp -implicitDefEqProofs only[go_sem]
 refine zag [1,4,1000000] [6,7] [1000000] [] (H1) (by decide) rfl Ym Ym Ym Ym ?_
 simp -implicitDefEqProofs only[go_sem]
 refine zaf (twS code q1 s n) (fun k=>k<=n-1) (fun k=>n-k) 0 (zac ?_) (Q3 _) ?_
 ·simp -implicitDefEqProofs only[go_sem]
 ·intro k hk;by_cases hlt:k+1<n
  ·cases k with
   | zero =>
    have h0:(1<(n:Int))=True:=by simp;omega
    have hwk:IntKind.i64.wrap ((n:Int)-1)=(n:Int)-1:=za1 Yo Yo;show ex _ _ _ _ (hd _ _ _)
    simp -implicitDefEqProofs only[go_sem,h0];refine zad Ym ?_;simp -implicitDefEqProofs only[go_sem];rw[hwk];refine⟨1,Yo,Yo,zb0 480 5000 ?_⟩;simp -implicitDefEqProofs only[go_sem];rw[show twT (.mk s []) 0=.mk s [] from rfl,zab (.mk s [])];rfl
   | succ k =>
    have h0:(1<(n:Int)-((k:Int)+1))=True:=by simp;omega
    have hwk:IntKind.i64.wrap ((n:Int)-((k:Int)+1)-1)=(n:Int)-((k:Int)+1+1):=by rw[za1 Yo Yo];omega
    show ex _ _ _ _ (hd _ _ _)
    simp -implicitDefEqProofs only[go_sem,h0];refine zad Ym ?_;simp -implicitDefEqProofs only[go_sem];rw[hwk];refine⟨k+2,Yo,Yo,zb0 480 5000 ?_⟩;simp -implicitDefEqProofs only[go_sem];rw[show twT (.mk s []) (k+1)=.mk [102] [twT (.mk s []) k] from rfl,zab (.mk [102] [twT (.mk s []) k]),show((k+1:Nat):Int)=(k:Int)+1 by omega];exact⟨rfl,rfl⟩
  ·cases k with
   | zero =>
    have h0:(1<(n:Int))=False:=by simp;omega
    have e:n-1=0:=by omega
    rw[e];show ex _ _ _ _ (hd _ _ _)
    simp -implicitDefEqProofs only[go_sem,h0];rw[show twT (.mk s []) 0=.mk s [] from rfl,zab (.mk s [])];left;simp -implicitDefEqProofs only[go_sem,Tm.name,Tm.args,Qh]
   | succ k =>
    have h0:(1<(n:Int)-((k:Int)+1))=False:=by simp;omega
    have e:n-1=k+1:=by omega
    rw[e];show ex _ _ _ _ (hd _ _ _)
    simp -implicitDefEqProofs only[go_sem,h0];rw[show twT (.mk s []) (k+1)=.mk [102] [twT (.mk s []) k] from rfl,zab (.mk [102] [twT (.mk s []) k])];left;simp -implicitDefEqProofs only[go_sem,Tm.name,Tm.args,Qg,Qh]
end
section
open Go.RowKit
variable {P:Program}
theorem zlx {sz:Nat}:∀{rows:List (List T)}(k:Nat),lens sz rows->(rows.take k).flatten=rows.flatten.take (k*sz)
 | [],k,_=>by simp
 | r::rs,0,_=>by simp
 | r::rs,k+1,h=>by
  have h1:=h r (by simp);rw[List.take_succ_cons,Q8,Q8,zlx k fun y hy=>h y (by simp[hy]),show(k+1)*sz=r.length+k*sz by rw[h1,Kl];omega,List.take_length_add_append]
theorem qhi {σ:St}{K:St->Prop}{d:Nat}{t el:TypeId}{x hi:Operand}{ty:TypeId}{ps:String}{af:Array Edge}{e gn sz k:Nat}{rows:List (List T)}{kk:IntKind}(s1:σ.get P t x=.one (.ow e gn))(s2:σ.get P 0 hi=.one (.t (.int kk k)))(he:σ.ev e=some ⟨true,sz,rows,gn,true⟩)
  (hkl:k<=rows.length) (hk0:0<rows.length) (hel:elT P t=some el) (hsz:zbt P el=some sz) (hK:K ((σ.apd e [] ⟨true,sz,rows.take k,gn+1,true⟩).put (some d) (.one (.ow e (gn+1))))):zb7 P ⟨some d,.slice t x none (some hi) none,ty,ps,af,none⟩ σ K:=by
 intro n0 N g a w hR hn hdN
 have v1:=hR.get P t x
 rw[s1]at v1
 obtain⟨v1,-⟩:=v1
 obtain⟨vs0,fps,top,hT⟩:=hR.tgt he rfl
 have hlens:=hT.lens
 simp only at hlens
 rcases hT.val with⟨_,hh,_⟩|⟨b,cap,cells,cty,w1,w2,w3,w4,w5,w6,w7⟩
 ·simp only at hh;rw[hh]at hk0;simp at hk0
 simp only at w1 w2 w5 w6
 have hown:=hT.own rfl
 simp only at hown
 have hl2:lens sz (rows.take k):=fun r hr=>hlens r (List.mem_of_mem_take hr)
 rw[<-K9 (k*sz) rows.flatten,<-zlx k hlens]at hown
 obtain⟨u1,u2,f1,f2,hu,hf,k1,k2⟩:=hown.split
 have hnd:(b::f1).Nodup:=K6.2 ⟨fun hb=>hT.topfp b w7.symm (by rw[hf];exact J2 _ hb),(Kf.1 (hf▸hT.nodup)).1⟩
 have hbn:=zer (P:=P) (low:=none) (high:=some hi) (len:=rows.length) (cap:=cap) hR true (l:=0) (u:=(k:Int)) rfl (by simp only[zk5,s2]) Yo Yo Yo w2
 have hun:P.underlying t=some (.slice el):=zhw hel
 have e0:(execOp a.eval ⟨some d,.slice t x none (some hi) none,ty,ps,af,none⟩).run P w=.ok (.value (.slice (some ⟨b,0,none⟩) k cap)) w:=by
  unfold execOp;have hcp:¬cap=0:=by omega
  rw[K0,show((0:Int).toNat)=0 from rfl,Kc,Jx]at hbn;simp only[Instr.sliceAt,Instr.slice,Sem.run_bind,run_underlying hun,Result.andThen,v1,w1,Kc,Jx,hbn,zco hsz,Sem.run_pure];rw[if_neg hcp];simp only[Addr.add]
  congr 2
  simp
 unfold Oper.wp
 rw[e0]
 have hTl:(rows.take k).length=k:=by rw[Qs];omega
 have hR':=hR.apd_fin (w':=w) (y:=⟨true,sz,rows.take k,gn+1,true⟩) (v':=.slice (some ⟨b,0,none⟩) k cap) (fp':=b::f1) (fps2:=[]) hT rfl (fun m hm=>by
   obtain⟨q,hq,hmq⟩:=hm;rw[he,Qe]at hq;subst hq;simp only at hmq⊢
   exact⟨Yo,fun em=>by omega⟩) (cons:=[]) (fun p hp=>by simp at hp) (fun b hb=>by simp at hb) b (Or.inl w7.symm) (fun k _ _=>rfl) (Qz _) hn hnd (fun c hc=>by
   rcases Qr.1 hc with h|h
   ·exact Or.inl h
   ·exact Or.inr (Or.inl (by rw[hf];exact J2 _ h))) (fun c hc=>by simpa using hc.symm) fun A' hA'=>by
  refine⟨some ⟨b,0,none⟩,cap,by simp only[hTl],by simp only[hTl];omega,w3,Or.inr ⟨b,cells,cty,f1,rfl,rfl,w4,w5,?_⟩⟩;simp only[if_true];refine zao.of_vals hl2 k1 fun j u hj=>?_;have hju:vs0[j]?=some u:=by rw[hu,List.getElem?_append_left (List.getElem?_eq_some_iff.1 hj).1];exact hj
  have hc:cells.toList[j]?=some u:=by
   rw[<-w6,List.getElem?_take]at hju;split at hju
   ·exact hju
   ·cases hju
  rw[Q5];simpa using hc
 have hE:(σ.apd e [] ⟨true,sz,rows.take k,gn+1,true⟩).ev e=some ⟨true,sz,rows.take k,gn+1,true⟩:=by simp[St.apd,zah]
 exact⟨_,_,hK,hR'.put (some d) (x:=.one (.ow e (gn+1))) (v:=.slice (some ⟨b,0,none⟩) k cap) ⟨by simp only[zah],_,hE,Qz _⟩ (fun j hj=>hdN j hj),Bk.refl _ _,rfl,rfl⟩
def ctM (P:Program)(t:TypeId)(x hi:Operand)(d:Nat)(K:St->Prop)(σ:St):Prop:=match σ.get P t x,σ.get P 0 hi with
 | .one (.ow e gn),.one (.t (.int _ k))=>zax (σ.ev e) fun y=>y.gen=gn/\y.deep=true/\y.on=true/\(0<=k/\k<=y.rows.length/\0<y.rows.length)/\(elT P t).bind (zbt P)=some y.sz/\K ((σ.apd e [] ⟨true,y.sz,y.rows.take k.toNat,gn+1,true⟩).put (some d) (.one (.ow e (gn+1))))
 | _,_=>False
theorem cutF {ks:List Fr}{Q:Exit->St->Prop}{σ:St}{ops:Array Oper}{os:List Oper}{d:Nat}{t:TypeId}{x hi:Operand}{ty:TypeId}{ps:String}{af:Array Edge}(k:ctM P t x hi d (exo P ops os ks Q) σ):exoS P ops ⟨some d,.slice t x none (some hi) none,ty,ps,af,none⟩ os ks Q σ:=by
 unfold ctM at k
 split at k
 ·rename_i e gn kk k' s1 s2;obtain⟨y,he,h3⟩:=zap k;obtain⟨dp,sz,rows,g',on⟩:=y;obtain⟨rfl,rfl,rfl,⟨h0,hl,hl0⟩,hsz,hK⟩:=h3;simp only at hl hl0 hsz hK;obtain⟨kn,rfl⟩:∃kn:Nat,k'=kn:=⟨k'.toNat,Yo⟩;obtain⟨el,hel,hse⟩:=Qf.1 hsz;rw[K0]at hK;exact qhi s1 s2 he Yo hl0 hel hse hK
 ·exact k.elim
attribute [go_sem] ctM
end
section
open Go.RowKit
def fa:Tm:=.mk [102] [.mk [97] []]
def fb:Tm:=.mk [102] [.mk [98] []]
def hpt (k:Nat):Tm:=.mk [104] (List.replicate k fa)
def wdR (b1 b2:Bool):Tm:=.mk [103] (if b1=true then (if b2=true then [hpt 4,hpt 4,hpt 4,fb]else [hpt 4,hpt 4,hpt 4])else [hpt 4,hpt 4,hpt 4,hpt 4])
theorem fa_c:tmC fa=[.str [102],.sl 2 [[.str [97],.sl 2 []]]]:=rfl
theorem rep_c (x:Tm)(k:Nat):(List.replicate (k+1) x).map tmC=(List.replicate k x).map tmC++[tmC x]:=by
 rw[List.replicate_succ',Qy];rfl
theorem wideD (code:List UInt8):Drw code 92 [.p 0] 2 (fun t:Tm=>(true,tmD t)) (fun t=>t.wt<=200):=fun q hq hp=>by
 obtain⟨q1,b1,c1,p1,_,H1⟩:=zmf code 2 Yo q hq Yo
 obtain⟨q2,b2,c2,p2,_,H2⟩:=zmf code 2 Yo q1 c1 Yo
 refine⟨q2,wdR b1 b2,c2,Yo,?_,?_⟩
 ·show(wdR b1 b2).wt<=200
  cases b1<;>cases b2<;>decide
 refine zbp Tryz.call92 Tryz.func92 rfl Yn (by simp only[Qc,Qd,Tryz.ntmps92];omega) (by simp only[Tryz.ntmps92];omega) rfl rfl (by simp[zay,T.isPin,AF.ds,bxA]) (by simp[gFS,T.fs,T.flat,AF.ds,bxA]) rfl ?_
 simp -implicitDefEqProofs only[go_sem,Tryz.results92]
 refine zaf (fun i:Nat=>hd [(0,.one (.bx 1000000 0)),(2,.one (.bx 2 0)),(3,.one (.bx 3 0)),(4,vI i),(1000000,.one (.bx 1000000 0))] [(2,[.t (.str []),.nl 2]),(3,[.t (.str [103]),.ow 6000 i]),(1000000,[.rn (zeg code),.t (.int .i64 q.pos),.t (.int .u64 q.seed)])] [(6000,⟨true,2,(List.replicate i (hpt 4)).map tmC,i,true⟩)]) (fun i=>i<=4) (fun i=>4-i) 0 (zac ?_) (Q3 _) ?_
 ·simp -implicitDefEqProofs only[go_sem]
 ·intro i hi;by_cases hlt:i<4
  ·have h0:((i:Int)<4)=True:=by simp;omega
   simp -implicitDefEqProofs only[go_sem,h0];refine zaf (fun k:Nat=>hd [(0,.one (.bx 1000000 0)),(2,.one (.bx 2 0)),(3,.one (.bx 3 0)),(4,vI i),(5,.one (.bx 5 0)),(6,vI k),(1000000,.one (.bx 1000000 0))] [(2,[.t (.str []),.nl 2]),(3,[.t (.str [103]),.ow 6000 i]),(5,[.t (.str [104]),.ow 7000 k]),(1000000,[.rn (zeg code),.t (.int .i64 q.pos),.t (.int .u64 q.seed)])] [(7000,⟨true,2,(List.replicate k fa).map tmC,k,true⟩),(6000,⟨true,2,(List.replicate i (hpt 4)).map tmC,i,true⟩)]) (fun k=>k<=4) (fun k=>4-k) 0 (zac ?_) (Q3 _) ?_
   ·simp -implicitDefEqProofs only[go_sem]
   ·intro k hk;by_cases hlk:k<4
    ·have h1:((k:Int)<4)=True:=by simp;omega
     simp -implicitDefEqProofs only[go_sem,h1];refine zad Ym ?_;simp -implicitDefEqProofs only[go_sem];refine zad Ym ?_;simp -implicitDefEqProofs only[go_sem];have hk4:k<=4294967295:=by omega
     refine apD true (by simp -implicitDefEqProofs only[go_sem,ne_eq,Qa,K5,hk4]) ?_;simp -implicitDefEqProofs only[go_sem,ne_eq,Qa,K5,hk4];have hwk:IntKind.i64.wrap ((k:Int)+1)=((k+1:Nat):Int):=zaw Yo;refine⟨k+1,Yo,Yo,zac ?_⟩;rw[rep_c,fa_c];simp -implicitDefEqProofs only[go_sem];rw[hwk]
    ·have h1:((k:Int)<4)=False:=by simp;omega
     have e4:k=4:=by omega
     simp -implicitDefEqProofs only[go_sem,h1];refine zad Ym ?_;simp -implicitDefEqProofs only[go_sem];have hi4:i<=4294967295:=by omega
     refine apD true (by simp -implicitDefEqProofs only[go_sem,ne_eq,Qa,K5,hi4]) ?_;simp -implicitDefEqProofs only[go_sem,ne_eq,Qa,K5,hi4];have hwk:IntKind.i64.wrap ((i:Int)+1)=((i+1:Nat):Int):=zaw Yo;refine⟨i+1,Yo,Yo,zac ?_⟩;rw[rep_c];simp -implicitDefEqProofs only[go_sem];rw[hwk,e4];exact⟨rfl,rfl⟩
  ·have h0:((i:Int)<4)=False:=by simp;omega
   have e4:i=4:=by omega
   simp -implicitDefEqProofs only[go_sem,h0];subst e4;refine zag [0,2,3,1000000] [31] [1000000] [] (H1) (by decide) rfl Ym Ym Ym Ym ?_;simp -implicitDefEqProofs only[go_sem];refine⟨fun hb=>?_,fun hb=>?_⟩
   ·subst hb;refine cutF ?_;simp -implicitDefEqProofs only[go_sem,ctM,Qa,K5];cases b2
    ·refine zag [2,3,1000000] [37] [1000000] [] (H2) (by decide) rfl Ym Ym Ym Ym ?_;simp -implicitDefEqProofs only[go_sem];rw[show tmC (wdR true false)=[.str [103],.sl 2 [tmC (hpt 4),tmC (hpt 4),tmC (hpt 4)]] from rfl];left;simp -implicitDefEqProofs only[go_sem]
    ·refine zag [2,3,1000000] [37] [1000000] [] (H2) (by decide) rfl Ym Ym Ym Ym ?_;simp -implicitDefEqProofs only[go_sem];refine zad Ym ?_;simp -implicitDefEqProofs only[go_sem];refine zad Ym ?_;simp -implicitDefEqProofs only[go_sem];refine apD true (by simp -implicitDefEqProofs only[go_sem,ne_eq,Qc,Qd]) ?_;simp -implicitDefEqProofs only[go_sem,ne_eq,Qc,Qd];rw[show tmC (wdR true true)=[.str [103],.sl 2 [tmC (hpt 4),tmC (hpt 4),tmC (hpt 4),tmC fb]] from rfl];left;simp -implicitDefEqProofs only[go_sem];exact Or.inl rfl
   ·subst hb;cases b2
    ·refine zag [2,3,1000000] [37] [1000000] [] (H2) (by decide) rfl Ym Ym Ym Ym ?_;simp -implicitDefEqProofs only[go_sem];rw[show tmC (wdR false false)=[.str [103],.sl 2 [tmC (hpt 4),tmC (hpt 4),tmC (hpt 4),tmC (hpt 4)]] from rfl];left;simp -implicitDefEqProofs only[go_sem]
    ·refine zag [2,3,1000000] [37] [1000000] [] (H2) (by decide) rfl Ym Ym Ym Ym ?_;simp -implicitDefEqProofs only[go_sem];rw[show tmC (wdR false true)=[.str [103],.sl 2 [tmC (hpt 4),tmC (hpt 4),tmC (hpt 4),tmC (hpt 4)]] from rfl];left;simp -implicitDefEqProofs only[go_sem]
end
section
open Go.RowKit
theorem zuk (code:List UInt8)(q q1 q2:Cu)(t:Tm)(x:Int)(hx:5<=x\/x=4/\t.args=[])(H1:PC Tryz.prog 76 (za0 code q) [.p 0] (za0 code q1) [(true,tmD t)])(H2:PC Tryz.prog 29 (za0 code q1) [.p 0,.d false (iD 24)] (za0 code q2) [(true,iD x)]) :
  PC Tryz.prog 33 (za0 code q) [.p 0] (za0 code q2) [(true,tmD t)]:=by
 have e0:(x==0)=false:=by rw[Ql];omega
 have e1:(x==1)=false:=by rw[Ql];omega
 have e2:(x==2)=false:=by rw[Ql];omega
 have e3:(x==3)=false:=by rw[Ql];omega
 simp only[tmD,zab t]at H1⊢
 rcases hx with hx|⟨hx,ha⟩
 ·have e4:(x==4)=false:=by rw[Ql];omega
  refine zbp Tryz.call33 Tryz.func33 rfl Yn (by simp only[Qc,Qd,Tryz.ntmps33];omega) (by simp only[Tryz.ntmps33];omega) rfl rfl (by simp[zay,T.isPin,AF.ds,bxA]) (by simp[gFS,T.fs,T.flat,AF.ds,bxA]) rfl ?_;simp -implicitDefEqProofs only[go_sem,Tryz.results33];refine zag [0,2,1000000] [4] [1000000] [] (H1) (by decide) rfl Ym Ym Ym Ym ?_;simp -implicitDefEqProofs only[go_sem];refine zag [0,2,3,1000000] [6] [1000000] [] (H2) (by decide) rfl (by simp -implicitDefEqProofs only[go_sem,e0,e1,e2,e3,e4]) (by simp -implicitDefEqProofs only[go_sem,e0,e1,e2,e3,e4]) (by simp -implicitDefEqProofs only[go_sem,e0,e1,e2,e3,e4]) (by simp -implicitDefEqProofs only[go_sem,e0,e1,e2,e3,e4]) ?_;simp -implicitDefEqProofs only[go_sem,e0,e1,e2,e3,e4]
 ·subst hx;rw[ha]at H1⊢;refine zbp Tryz.call33 Tryz.func33 rfl Yn (by simp only[Qc,Qd,Tryz.ntmps33];omega) (by simp only[Tryz.ntmps33];omega) rfl rfl (by simp[zay,T.isPin,AF.ds,bxA]) (by simp[gFS,T.fs,T.flat,AF.ds,bxA]) rfl ?_;simp -implicitDefEqProofs only[go_sem,Tryz.results33];refine zag [0,2,1000000] [4] [1000000] [] (H1) (by decide) rfl Ym Ym Ym Ym ?_;simp -implicitDefEqProofs only[go_sem];refine zag [0,2,3,1000000] [6] [1000000] [] (H2) (by decide) rfl (by simp -implicitDefEqProofs only[go_sem,Qd,Qh]) (by simp -implicitDefEqProofs only[go_sem,Qd,Qh]) (by simp -implicitDefEqProofs only[go_sem,Qd,Qh]) (by simp -implicitDefEqProofs only[go_sem,Qd,Qh]) ?_;simp -implicitDefEqProofs only[go_sem,Qd,Qh]
abbrev nmL:List Str:=[[],[116,114,117,101],[116,114,117,116,104],[105,102],[88,121,122,57],[88,121,122,57,57],[120,65],[97,95,98],[97,98,99,100,101,102],[97,98,99,100,101,102,103],[95,97],[57],[88,95],[61]]
theorem qgq (code:List UInt8)(q q1 q2 q3:Cu)(t:Tm)(s:Str)(H1:PC Tryz.prog 76 (za0 code q) [.p 0] (za0 code q1) [(true,tmD t)])(H2:PC Tryz.prog 29 (za0 code q1) [.p 0,.d false (iD 24)] (za0 code q2) [(true,iD 0)])
  (H3:PC Tryz.prog 31 (za0 code q2) [.p 0,.d true (.one (zb5 nmL))] (za0 code q3) [(true,.one (.str s))]) :
  PC Tryz.prog 33 (za0 code q) [.p 0] (za0 code q3) [(true,tmD (.mk s t.args))]:=by
 simp only[tmD,zab t]at H1
 unfold tmD
 rw[show tmC (.mk s t.args)=[.str s,.sl 2 (t.args.map tmC)] from zab _]
 refine zbp Tryz.call33 Tryz.func33 rfl Yn (by simp only[Qc,Qd,Tryz.ntmps33];omega) (by simp only[Tryz.ntmps33];omega) rfl rfl (by simp[zay,T.isPin,AF.ds,bxA]) (by simp[gFS,T.fs,T.flat,AF.ds,bxA]) rfl ?_
 simp -implicitDefEqProofs only[go_sem,Tryz.results33]
 refine zag [0,2,1000000] [4] [1000000] [] (H1) (by decide) rfl Ym Ym Ym Ym ?_
 simp -implicitDefEqProofs only[go_sem]
 refine zag [0,2,3,1000000] [6] [1000000] [] (H2) (by decide) rfl Ym Ym Ym Ym ?_
 simp -implicitDefEqProofs only[go_sem]
 refine zad Ym ?_
 simp -implicitDefEqProofs only[go_sem]
 refine zag [2,3,1000000] [10,11] [1000000] [] (H3) (by decide) rfl Ym Ym Ym Ym ?_
 simp -implicitDefEqProofs only[go_sem]
theorem zya (code:List UInt8)(q q1 q2 q3 q4:Cu)(t t2:Tm)(x:Int)(hx:0<=x/\x<3)(H1:PC Tryz.prog 76 (za0 code q) [.p 0] (za0 code q1) [(true,tmD t)])(H2:PC Tryz.prog 29 (za0 code q1) [.p 0,.d false (iD 24)] (za0 code q2) [(true,iD 1)])
  (H3:PC Tryz.prog 29 (za0 code q2) [.p 0,.d false (iD 3)] (za0 code q3) [(true,iD x)]) (H4:PC Tryz.prog 91 (za0 code q3) [.p 0,.d false (iD (7+x))] (za0 code q4) [(true,tmD t2)]) :
  PC Tryz.prog 33 (za0 code q) [.p 0] (za0 code q4) [(true,tmD t2)]:=by
 have hw:IntKind.i64.wrap (7+x)=7+x:=za1 Yo Yo
 simp only[tmD,zab t]at H1
 simp only[tmD,zab t2]at H4⊢
 refine zbp Tryz.call33 Tryz.func33 rfl Yn (by simp only[Qc,Qd,Tryz.ntmps33];omega) (by simp only[Tryz.ntmps33];omega) rfl rfl (by simp[zay,T.isPin,AF.ds,bxA]) (by simp[gFS,T.fs,T.flat,AF.ds,bxA]) rfl ?_
 simp -implicitDefEqProofs only[go_sem,Tryz.results33]
 refine zag [0,2,1000000] [4] [1000000] [] (H1) (by decide) rfl Ym Ym Ym Ym ?_
 simp -implicitDefEqProofs only[go_sem]
 refine zag [0,2,3,1000000] [6] [1000000] [] (H2) (by decide) rfl Ym Ym Ym Ym ?_
 simp -implicitDefEqProofs only[go_sem]
 refine zag [2,16,1000000] [17] [1000000] [] (H3) (by decide) rfl Ym Ym Ym Ym ?_
 simp -implicitDefEqProofs only[go_sem]
 rw[hw]
 refine zag [2,1000000] [16,19] [1000000] [] (H4) (by decide) rfl Ym Ym Ym Ym ?_
 simp -implicitDefEqProofs only[go_sem]
theorem qfs (code:List UInt8)(q q1 q2 q3:Cu)(t t2:Tm)(H1:PC Tryz.prog 76 (za0 code q) [.p 0] (za0 code q1) [(true,tmD t)])(H2:PC Tryz.prog 29 (za0 code q1) [.p 0,.d false (iD 24)] (za0 code q2) [(true,iD 2)])
  (H3:PC Tryz.prog 92 (za0 code q2) [.p 0] (za0 code q3) [(true,tmD t2)]) :
  PC Tryz.prog 33 (za0 code q) [.p 0] (za0 code q3) [(true,tmD t2)]:=by
 simp only[tmD,zab t]at H1
 simp only[tmD,zab t2]at H3⊢
 refine zbp Tryz.call33 Tryz.func33 rfl Yn (by simp only[Qc,Qd,Tryz.ntmps33];omega) (by simp only[Tryz.ntmps33];omega) rfl rfl (by simp[zay,T.isPin,AF.ds,bxA]) (by simp[gFS,T.fs,T.flat,AF.ds,bxA]) rfl ?_
 simp -implicitDefEqProofs only[go_sem,Tryz.results33]
 refine zag [0,2,1000000] [4] [1000000] [] (H1) (by decide) rfl Ym Ym Ym Ym ?_
 simp -implicitDefEqProofs only[go_sem]
 refine zag [0,2,3,1000000] [6] [1000000] [] (H2) (by decide) rfl Ym Ym Ym Ym ?_
 simp -implicitDefEqProofs only[go_sem]
 refine zag [2,1000000] [23] [1000000] [] (H3) (by decide) rfl Ym Ym Ym Ym ?_
 simp -implicitDefEqProofs only[go_sem]
theorem qeh (code:List UInt8)(q q1 q2 q3 q4 q5:Cu)(t a b c:Tm)(hl:t.args.length<=100)(H1:PC Tryz.prog 76 (za0 code q) [.p 0] (za0 code q1) [(true,tmD t)])(H2:PC Tryz.prog 29 (za0 code q1) [.p 0,.d false (iD 24)] (za0 code q2) [(true,iD 3)])
  (H3:PC Tryz.prog 76 (za0 code q2) [.p 0] (za0 code q3) [(true,tmD a)]) (H4:PC Tryz.prog 76 (za0 code q3) [.p 0] (za0 code q4) [(true,tmD b)]) (H5:PC Tryz.prog 76 (za0 code q4) [.p 0] (za0 code q5) [(true,tmD c)]) :
  PC Tryz.prog 33 (za0 code q) [.p 0] (za0 code q5) [(true,tmD (.mk t.name (t.args++[a,b,c])))]:=by
 simp only[tmD,zab t]at H1
 simp only[tmD,zab a]at H3
 simp only[tmD,zab b]at H4
 simp only[tmD,zab c]at H5
 unfold tmD
 rw[show tmC (.mk t.name (t.args++[a,b,c]))=[.str t.name,.sl 2 ((t.args++[a,b,c]).map tmC)] from zab _]
 refine zbp Tryz.call33 Tryz.func33 rfl Yn (by simp only[Qc,Qd,Tryz.ntmps33];omega) (by simp only[Tryz.ntmps33];omega) rfl rfl (by simp[zay,T.isPin,AF.ds,bxA]) (by simp[gFS,T.fs,T.flat,AF.ds,bxA]) rfl ?_
 simp -implicitDefEqProofs only[go_sem,Tryz.results33]
 refine zag [0,2,1000000] [4] [1000000] [] (H1) (by decide) rfl Ym Ym Ym Ym ?_
 simp -implicitDefEqProofs only[go_sem]
 refine zag [0,2,3,1000000] [6] [1000000] [] (H2) (by decide) rfl Ym Ym Ym Ym ?_
 simp -implicitDefEqProofs only[go_sem]
 refine drawn Yn ?_
 simp -implicitDefEqProofs only[go_sem]
 refine zdr [1000000] (H3) (by decide) Ym Ym ?_
 simp -implicitDefEqProofs only[go_sem]
 refine zdr [1000000] (H4) (by decide) Ym Ym ?_
 simp -implicitDefEqProofs only[go_sem]
 refine zdr [1000000] (H5) (by decide) Ym Ym ?_
 simp -implicitDefEqProofs only[go_sem]
 have hl2:t.args.length<=4294967293:=by omega
 refine za2 Ym ?_
 simp -implicitDefEqProofs only[go_sem]
 refine zgr true (by simp -implicitDefEqProofs only[go_sem,ne_eq,Qa,Qc,Qd,hl2]) ?_
 simp -implicitDefEqProofs only[go_sem,ne_eq,Qa,Qc,Qd,hl2]
 refine⟨Yn,?_⟩
 left
 rw[Qy,Qg,Qg,Qg,Qh,zab a,zab b,zab c]
 simp -implicitDefEqProofs only[go_sem]
end
section
open Go.RowKit
theorem ze3 (o:Int)(a:Tm)(v:Str)(ps:List Fm):(Fm.mk o a v ps).wt=a.wt+v.length+ps.length+(ps.map Fm.wt).sum:=Fm.wt_eq _
theorem zlu (code:List UInt8)(d:Int)(hd:d<=1):Drw code 201 [.p 0,.d false (iD d)] 31 (fun f:Fm=>(true,fmD f)) (fun f=>f.wt<=200):=fun q hq hp=>by
 have hd1:(d<=1)=True:=by simp[hd]
 obtain⟨q1,b,c1,p1,_,H1⟩:=zmf code 16 Yo q hq Yo
 cases b
 ·obtain⟨q2,a,c2,p2,o2,H2⟩:=atomD code q1 c1 Yo;simp only[tmD,zab a]at H2;refine⟨q2,.mk 3 a [] [],c2,Yo,?_,?_⟩
  ·show(Fm.mk 3 a [] []).wt<=200
   rw[ze3];simp;omega
  refine zbp Tryz.call201 Tryz.func201 rfl Yn (by simp only[Qc,Qd,Tryz.ntmps201];omega) (by simp only[Tryz.ntmps201];omega) rfl rfl (by simp[zay,T.isPin,AF.ds,bxA]) (by simp[gFS,T.fs,T.flat,AF.ds,bxA]) rfl ?_;simp -implicitDefEqProofs only[go_sem,Tryz.results201,hd1];refine zag [0,4,1000000] [12] [1000000] [] (H1) (by decide) rfl Ym Ym Ym Ym ?_;simp -implicitDefEqProofs only[go_sem];refine zag [4,1000000] [18] [1000000] [] (H2) (by decide) rfl Ym Ym Ym Ym ?_;simp -implicitDefEqProofs only[go_sem];rw[show fmC (.mk 3 a [] [])=[.int .i64 3,.str a.name,.sl 2 (a.args.map tmC),.str [],.sl 5 []] from zaa _];left;simp -implicitDefEqProofs only[go_sem]
 ·obtain⟨q2,x,c2,p2,o2,H2⟩:=zeh code 2 Yo Yo q1 c1 Yo;have hw:IntKind.i64.wrap (1+x)=1+x:=za1 Yo Yo;refine⟨q2,.mk (1+x) (.mk [] []) [] [],c2,Yo,?_,?_⟩
  ·show(Fm.mk (1+x) (.mk [] []) [] []).wt<=200
   rw[ze3,zb4];simp
  refine zbp Tryz.call201 Tryz.func201 rfl Yn (by simp only[Qc,Qd,Tryz.ntmps201];omega) (by simp only[Tryz.ntmps201];omega) rfl rfl (by simp[zay,T.isPin,AF.ds,bxA]) (by simp[gFS,T.fs,T.flat,AF.ds,bxA]) rfl ?_;simp -implicitDefEqProofs only[go_sem,Tryz.results201,hd1];refine zag [0,4,1000000] [12] [1000000] [] (H1) (by decide) rfl Ym Ym Ym Ym ?_;simp -implicitDefEqProofs only[go_sem];refine zag [4,1000000] [14] [1000000] [] (H2) (by decide) rfl Ym Ym Ym Ym ?_;simp -implicitDefEqProofs only[go_sem];rw[hw];rw[show fmC (.mk (1+x) (.mk [] []) [] [])=[.int .i64 (1+x),.str [],.sl 2 [],.str [],.sl 5 []] from zaa _];left;simp -implicitDefEqProofs only[go_sem]
abbrev opL':List Int:=[4,5,6,7,8,9,8,9,5,7]
abbrev vrL:List Str:=[[88],[89],[90],[88]]
theorem zif (code:List UInt8)(k:Nat)(hk:k<=8)(c W:Nat)(H:Drw code 201 [.p 0,.d false (iD ((k:Int)+1))] c (fun f:Fm=>(true,fmD f)) (fun f=>f.wt<=W)) :
  Drw code 201 [.p 0,.d false (iD ((k:Int)+2))] (2*c+40) (fun f:Fm=>(true,fmD f)) (fun f=>f.wt<=2*W+200):=fun q hq hp=>by
 have hd1:((k:Int)+2<=1)=False:=by simp;omega
 have hw:IntKind.i64.wrap ((k:Int)+2-1)=(k:Int)+1:=by rw[za1 Yo Yo];omega
 obtain⟨q1,b,c1,p1,_,H1⟩:=zmf code 4 Yo q hq Yo
 cases b
 ·obtain⟨q2,o,c2,p2,o2,H2⟩:=qh0 code opL' (by simp) (by simp) q1 c1 Yo;by_cases h4:o=4
  ·subst h4;obtain⟨q3,f,c3,p3,o3,H3⟩:=H q2 c2 Yo;simp only[fmD,zaa f]at H3;refine⟨q3,.mk 4 (.mk [] []) [] [f],c3,Yo,?_,?_⟩
   ·show(Fm.mk 4 (.mk [] []) [] [f]).wt<=2*W+200
    rw[ze3,zb4];simp;omega
   refine zbp Tryz.call201 Tryz.func201 rfl Yn (by simp only[Qc,Qd,Tryz.ntmps201];omega) (by simp only[Tryz.ntmps201];omega) rfl rfl (by simp[zay,T.isPin,AF.ds,bxA]) (by simp[gFS,T.fs,T.flat,AF.ds,bxA]) rfl ?_;simp -implicitDefEqProofs only[go_sem,Tryz.results201,hd1];refine zag [0,1,4,8,1000000] [9] [1000000] [] (H1) (by decide) rfl Ym Ym Ym Ym ?_;simp -implicitDefEqProofs only[go_sem];refine zad Ym ?_;simp -implicitDefEqProofs only[go_sem];refine zag [0,1,4,1000000] [21,22] [1000000] [] (H2) (by decide) rfl Ym Ym Ym Ym ?_;simp -implicitDefEqProofs only[go_sem];rw[hw];refine zag [4,26,1000000] [27,29] [1000000] [] (H3) (by decide) rfl Ym Ym Ym Ym ?_;simp -implicitDefEqProofs only[go_sem];refine zad Ym ?_;simp -implicitDefEqProofs only[go_sem];rw[show fmC (.mk 4 (.mk [] []) [] [f])=[.int .i64 4,.str [],.sl 2 [],.str [],.sl 5 [fmC f]] from zaa _,zaa f];left;simp -implicitDefEqProofs only[go_sem]
  ·by_cases h8:o=8\/o=9
   ·obtain⟨q3,v,c3,p3,o3,H3⟩:=ofD code vrL (by simp) (by simp) q2 c2 Yo;obtain⟨q4,f,c4,p4,o4,H4⟩:=H q3 c3 Yo;simp only[fmD,zaa f]at H4;have hv:v.length<=8:=(show ∀s∈vrL,s.length<=8 by decide) v o3;refine⟨q4,.mk o (.mk [] []) v [f],c4,Yo,?_,?_⟩
    ·show(Fm.mk o (.mk [] []) v [f]).wt<=2*W+200
     rw[ze3,zb4];simp;omega
    rcases h8 with rfl|rfl
    all_goals
     refine zbp Tryz.call201 Tryz.func201 rfl Yn (by simp only[Qc,Qd,Tryz.ntmps201];omega) (by simp only[Tryz.ntmps201];omega) rfl rfl (by simp[zay,T.isPin,AF.ds,bxA]) (by simp[gFS,T.fs,T.flat,AF.ds,bxA]) rfl ?_;simp -implicitDefEqProofs only[go_sem,Tryz.results201,hd1];refine zag [0,1,4,8,1000000] [9] [1000000] [] (H1) (by decide) rfl Ym Ym Ym Ym ?_;simp -implicitDefEqProofs only[go_sem];refine zad Ym ?_;simp -implicitDefEqProofs only[go_sem];refine zag [0,1,4,1000000] [21,22] [1000000] [] (H2) (by decide) rfl Ym Ym Ym Ym ?_;simp -implicitDefEqProofs only[go_sem];refine zad Ym ?_;simp -implicitDefEqProofs only[go_sem];refine zag [0,1,4,39,1000000] [40,41] [1000000] [] (H3) (by decide) rfl Ym Ym Ym Ym ?_;simp -implicitDefEqProofs only[go_sem];rw[hw];refine zag [4,39,42,1000000] [43,45] [1000000] [] (H4) (by decide) rfl Ym Ym Ym Ym ?_;simp -implicitDefEqProofs only[go_sem];refine zad Ym ?_;simp -implicitDefEqProofs only[go_sem];rw[show fmC (.mk _ (.mk [] []) v [f])=[.int .i64 _,.str [],.sl 2 [],.str v,.sl 5 [fmC f]] from zaa _,zaa f];left;simp -implicitDefEqProofs only[go_sem];rfl
   ·have h567:o=5\/o=6\/o=7:=by simp at o2;omega
    obtain⟨q3,f,c3,p3,o3,H3⟩:=H q2 c2 Yo;obtain⟨q4,g,c4,p4,o4,H4⟩:=H q3 c3 Yo;simp only[fmD,zaa f]at H3;simp only[fmD,zaa g]at H4;refine⟨q4,.mk o (.mk [] []) [] [f,g],c4,Yo,?_,?_⟩
    ·show(Fm.mk o (.mk [] []) [] [f,g]).wt<=2*W+200
     rw[ze3,zb4];simp;omega
    rcases h567 with rfl|rfl|rfl
    all_goals
     refine zbp Tryz.call201 Tryz.func201 rfl Yn (by simp only[Qc,Qd,Tryz.ntmps201];omega) (by simp only[Tryz.ntmps201];omega) rfl rfl (by simp[zay,T.isPin,AF.ds,bxA]) (by simp[gFS,T.fs,T.flat,AF.ds,bxA]) rfl ?_;simp -implicitDefEqProofs only[go_sem,Tryz.results201,hd1];refine zag [0,1,4,8,1000000] [9] [1000000] [] (H1) (by decide) rfl Ym Ym Ym Ym ?_;simp -implicitDefEqProofs only[go_sem];refine zad Ym ?_;simp -implicitDefEqProofs only[go_sem];refine zag [0,1,4,1000000] [21,22] [1000000] [] (H2) (by decide) rfl Ym Ym Ym Ym ?_;simp -implicitDefEqProofs only[go_sem];rw[hw];refine zag [0,1,4,49,1000000] [50,52] [1000000] [] (H3) (by decide) rfl Ym Ym Ym Ym ?_;simp -implicitDefEqProofs only[go_sem];rw[hw];refine zag [4,49,53,1000000] [54,56] [1000000] [] (H4) (by decide) rfl Ym Ym Ym Ym ?_;simp -implicitDefEqProofs only[go_sem];refine zad Ym ?_;simp -implicitDefEqProofs only[go_sem];rw[show fmC (.mk _ (.mk [] []) [] [f,g])=[.int .i64 _,.str [],.sl 2 [],.str [],.sl 5 [fmC f,fmC g]] from zaa _,zaa f,zaa g];left;simp -implicitDefEqProofs only[go_sem];rfl
 ·obtain⟨q2,b2,c2,p2,_,H2⟩:=zmf code 16 Yo q1 c1 Yo;cases b2
  ·obtain⟨q3,a,c3,p3,o3,H3⟩:=atomD code q2 c2 Yo;simp only[tmD,zab a]at H3;refine⟨q3,.mk 3 a [] [],c3,Yo,?_,?_⟩
   ·show(Fm.mk 3 a [] []).wt<=2*W+200
    rw[ze3];simp;omega
   refine zbp Tryz.call201 Tryz.func201 rfl Yn (by simp only[Qc,Qd,Tryz.ntmps201];omega) (by simp only[Tryz.ntmps201];omega) rfl rfl (by simp[zay,T.isPin,AF.ds,bxA]) (by simp[gFS,T.fs,T.flat,AF.ds,bxA]) rfl ?_;simp -implicitDefEqProofs only[go_sem,Tryz.results201,hd1];refine zag [0,1,4,8,1000000] [9] [1000000] [] (H1) (by decide) rfl Ym Ym Ym Ym ?_;simp -implicitDefEqProofs only[go_sem];refine zag [0,4,1000000] [12] [1000000] [] (H2) (by decide) rfl Ym Ym Ym Ym ?_;simp -implicitDefEqProofs only[go_sem];refine zag [4,1000000] [18] [1000000] [] (H3) (by decide) rfl Ym Ym Ym Ym ?_;simp -implicitDefEqProofs only[go_sem];rw[show fmC (.mk 3 a [] [])=[.int .i64 3,.str a.name,.sl 2 (a.args.map tmC),.str [],.sl 5 []] from zaa _];left;simp -implicitDefEqProofs only[go_sem]
  ·obtain⟨q3,x,c3,p3,o3,H3⟩:=zeh code 2 Yo Yo q2 c2 Yo;have hw1:IntKind.i64.wrap (1+x)=1+x:=za1 Yo Yo;refine⟨q3,.mk (1+x) (.mk [] []) [] [],c3,Yo,?_,?_⟩
   ·show(Fm.mk (1+x) (.mk [] []) [] []).wt<=2*W+200
    rw[ze3,zb4];simp
   refine zbp Tryz.call201 Tryz.func201 rfl Yn (by simp only[Qc,Qd,Tryz.ntmps201];omega) (by simp only[Tryz.ntmps201];omega) rfl rfl (by simp[zay,T.isPin,AF.ds,bxA]) (by simp[gFS,T.fs,T.flat,AF.ds,bxA]) rfl ?_;simp -implicitDefEqProofs only[go_sem,Tryz.results201,hd1];refine zag [0,1,4,8,1000000] [9] [1000000] [] (H1) (by decide) rfl Ym Ym Ym Ym ?_;simp -implicitDefEqProofs only[go_sem];refine zag [0,4,1000000] [12] [1000000] [] (H2) (by decide) rfl Ym Ym Ym Ym ?_;simp -implicitDefEqProofs only[go_sem];refine zag [4,1000000] [14] [1000000] [] (H3) (by decide) rfl Ym Ym Ym Ym ?_;simp -implicitDefEqProofs only[go_sem];rw[hw1,show fmC (.mk (1+x) (.mk [] []) [] [])=[.int .i64 (1+x),.str [],.sl 2 [],.str [],.sl 5 []] from zaa _];left;simp -implicitDefEqProofs only[go_sem]
theorem builtD (code:List UInt8)(d:Int)(hd:d<=4):Drw code 201 [.p 0,.d false (iD d)] 600 (fun f:Fm=>(true,fmD f)) (fun f=>f.wt<=3000):=by
 have g1:Drw code 201 [.p 0,.d false (iD (((0:Nat):Int)+1))] 31 (fun f:Fm=>(true,fmD f)) (fun f=>f.wt<=200):=zlu code _ Yo
 have g2:=zif code 0 Yo 31 200 g1
 have g3:=zif code 1 Yo _ _ g2
 have g4:=zif code 2 Yo _ _ g3
 by_cases h1:d<=1
 ·exact(zlu code d h1).mono Yo fun x h=>by omega
 ·rcases(show d=2\/d=3\/d=4 by omega)with rfl|rfl|rfl
  ·exact g2.mono Yo fun x h=>by omega
  ·exact g3.mono Yo fun x h=>by omega
  ·exact g4.mono Yo fun x h=>by omega
end
section
open Go.RowKit
theorem zui (code:List UInt8):Drw code 141 [.p 0] 601 (fun f:Fm=>(true,fmD f)) (fun f=>f.wt<=3000):=fun q hq hp=>by
 obtain⟨q1,x,c1,p1,o1,H1⟩:=zeh code 4 Yo Yo q hq Yo
 obtain⟨q2,f,c2,p2,o2,H2⟩:=builtD code (1+x) Yo q1 c1 Yo
 have hw:IntKind.i64.wrap (1+x)=1+x:=za1 Yo Yo
 simp only[fmD,zaa f]at H2
 refine⟨q2,f,c2,Yo,o2,?_⟩
 simp only[fmD,zaa f]
 refine zbp Tryz.call141 Tryz.func141 rfl Yn (by simp only[Qc,Qd,Tryz.ntmps141];omega) (by simp only[Tryz.ntmps141];omega) rfl rfl (by simp[zay,T.isPin,AF.ds,bxA]) (by simp[gFS,T.fs,T.flat,AF.ds,bxA]) rfl ?_
 simp -implicitDefEqProofs only[go_sem,Tryz.results141]
 refine zag [2,3,1000000] [4] [1000000] [] (H1) (by decide) rfl Ym Ym Ym Ym ?_
 simp -implicitDefEqProofs only[go_sem]
 rw[hw]
 refine zag [2,1000000] [3,6] [1000000] [] (H2) (by decide) rfl Ym Ym Ym Ym ?_
 simp -implicitDefEqProofs only[go_sem]
end
end Go.Proofs.YtpcmmboblbjpfaaGreat
