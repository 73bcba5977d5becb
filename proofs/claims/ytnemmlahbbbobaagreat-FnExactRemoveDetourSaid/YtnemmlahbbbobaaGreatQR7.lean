/-
  The walk over plain data, and contracts of functions of the program and of its laws.
  Conditions: those that each theorem names.
-/
import Derived.Test.YtnemmlahbbbobaaGreatQR6
import Derived.Test.YtnemmlahbbbobaaGreatQR4
import Derived.Lib.Walk
import Derived.Lib.SliceRun
import Derived.Lib.AppendZeros
import Derived.Test.YtnemmlahbbbobaaGreatQR5
namespace Go.Proofs.YtnemmlahbbbobaaGreat
set_option linter.unusedSimpArgs false
set_option linter.unusedVariables false
set_option linter.unusedSectionVars false
set_option maxRecDepth 4000
set_option maxHeartbeats 8000000
section
open Go.RowKit
variable {P:Program}{N:Nat}
section
variable {ops:Array Oper}{i d:Nat}{σ:St}{H:Hid}{K:St->Hid->Prop}{ty:TypeId}{ps:String}{af:Array Edge}{mt:TypeId}{x:Operand}
theorem zyt {n0:Nat->Prop}{A0:(Nat->Prop)×RP}{g:Gh}{a:Act}{w:World}{src:Nat}{ag:Bool}{rows:List (List T)}(h1:RelH n0 N σ H A0 g a w)(h2:LtK n0 w)(hd:d<N)
  (hs:∀n1:Nat->Prop,(∀x,zch σ g w x->n1 x)->(∀p∈H,n1 p.1)->(∀p∈H,zu7 w (λx=>n1 x/\g.A0 x) n1 p.1 p.2)->n1 src/\∃es clk,w.heap[src]?=some (.map es clk)/\zal w (λx=>n1 x/\g.A0 x) ag rows es.toList/\Go.MapKept.Stamped es clk/\clk=clk) :
  ∃es clk,w.heap[src]?=some (.map es clk)/\(∀p∈H,p.1≠w.heap.size)/\RelH n0 N (σ.put (some d) (.one (.cv (.pointer (some ⟨w.heap.size,0,none⟩))))) ((w.heap.size,.it src ag rows none)::H) A0 { g with A0:=λb=>g.A0 b/\b≠w.heap.size } (a.put (some d) (.pointer (some ⟨w.heap.size,0,none⟩))) (w.alloc (.mapIter (some src) clk #[] clk))/\Bk n0 w (w.alloc (.mapIter (some src) clk #[] clk)):=by
 obtain⟨n1,k1,k2,k4,k5,k7,kF⟩:=h1.freeze
 obtain⟨hsrc,es,clk,q1,q2,q3,_⟩:=hs n1 kF (λp hp=>(k2 p hp).1) k7
 have hlt:∀p∈H,p.1<w.heap.size:=λp hp=>k5 p.1 (k2 p hp).1
 have hne:∀p∈H,p.1≠w.heap.size:=λp hp=>by have:=hlt p hp;omega
 have hR1:=(k4.enter1 (.mapIter (some src) clk #[] clk)).put (some d) (x:=.one (.cv (.pointer (some ⟨w.heap.size,0,none⟩)))) (v:=.pointer (some ⟨w.heap.size,0,none⟩)) rfl (λj hj=>by cases hj;exact hd)
 have hold:∀x,x<w.heap.size->(w.alloc (.mapIter (some src) clk #[] clk)).heap[x]?=w.heap[x]?:=λx hx=>Below.heap_alloc _ _ _ hx
 refine⟨es,clk,q1,hne,⟨⟨λb=>n1 b\/b=w.heap.size,λx hx=>Or.inl (k1 x hx),λp hp=>?_,hR1,λx hx=>?_,λp hp=>?_⟩,λp hp=>?_,?_,λx hx=>h1.sub x hx.1,h1.r0,h1.new⟩,⟨rfl,rfl,rfl,by simp,λk hk=>hold k (h2 k hk)⟩⟩
 ·rcases Qu.1 hp with rfl|hp
  ·exact⟨Or.inr rfl,λq=>q.2 rfl⟩
  ·exact⟨Or.inl (k2 p hp).1,λq=>(k2 p hp).2 q.1⟩
 ·rcases hx with q|q
  ·have:=k5 x q;simp;omega
  ·simp;omega
 ·rcases Qu.1 hp with rfl|hp
  ·refine⟨Or.inl hsrc,es,clk,#[],heap_alloc_new _ _,(hold src (k5 src hsrc)).trans q1,q3,?_,λr hr=>by cases hr⟩;have hl:leftOf es #[]=es:=by unfold leftOf;simp
   rw[hl];exact zal.keep (λx hx=>hold x (k5 x hx.1)) (λx hx=>⟨Or.inl hx.1,hx.2,λe=>by have:=k5 x hx.1;omega⟩) ag rows _ q2
  ·exact zu7.keep (λx hx=>hold x (k5 x hx)) (λx hx=>hx.1) (λx hx=>⟨Or.inl hx.1,hx.2,λe=>by have:=k5 x hx.1;omega⟩) (λx hx=>Or.inl hx) (k2 p hp).1 (k7 p hp)
 ·rcases Qu.1 hp with rfl|hp
  ·exact h2.new (Qz _)
  ·exact h1.nb p hp
 ·rw[Qc,Kx];refine⟨λhm=>?_,h1.nd⟩;obtain⟨p,hp,e⟩:=Ka.1 hm;exact hne p hp e
theorem zbx.range (ag:Bool)(rows:List (List T))(hl:ops[i]?=some ⟨some d,.range mt x,ty,ps,af,none⟩)(hd:d<N)(hm:(qc8 P mt).isSome=true)(hx:σ.get P 0 x=.one (.rn (.mq ag rows)))
  (k:∀b src,(∀p∈H,p.1≠b)->(∀p∈H,src≠p.1)->src≠b->zbx P N ops (i+1) (σ.put (some d) (.one (.cv (.pointer (some ⟨b,0,none⟩))))) ((b,.it src ag rows none)::H) K):zbx P N ops i σ H K:=zbx.stepV hl rfl λn0 A0 g a w h1 h2=>by
 obtain⟨⟨dd,et⟩,ht⟩:=Jk.1 hm
 obtain⟨kt,t1,t2⟩:=zkj ht
 obtain⟨n2,_,z2,z4,z5,z7⟩:=h1.rel
 have hv:=z4.get P 0 x
 rw[hx]at hv
 have hv:zau w (zch σ g w) (.mq ag rows) (a.eval x):=hv
 unfold zau at hv
 obtain⟨src,es,clk,e1,hF,q1,q2,q3⟩:=hv
 obtain⟨es2,clk2,c1,c2,c3,c4⟩:=zyt (d:=d) (src:=src) (ag:=ag) (rows:=rows) h1 h2 hd λn1 f1 f2 f3=>⟨f1 src hF,es,clk,q1,zal.keep (λ_ _=>rfl) (λy hy=>⟨f1 y hy,hy.1.2.2.2⟩) ag rows _ q2,q3,rfl⟩
 refine⟨_,_,_,_,_,?_,c3,c4,k w.heap.size src c2 (λp hp e=>(z2 p hp).2 (e▸hF.1.2.2.2)) (λe=>by have:=hF.1.2.2.1;omega)⟩
 unfold execOp
 simp only[e1,Sem.run_bind,run_range_map w mt kt et src es2 clk2 t1 c1,Result.andThen_ok,Sem.run_pure]
theorem zbx.rangeH (j:Nat){src:Nat}{ag:Bool}{rows:List (List T)}(hj:H[j]?=some (src,.mp ag rows))(hl:ops[i]?=some ⟨some d,.range mt x,ty,ps,af,none⟩)(hd:d<N)(hm:(qc8 P mt).isSome=true)(hx:σ.get P 0 x=.one (.cv (.map (some src))))
  (k:∀b,(∀p∈H,p.1≠b)->zbx P N ops (i+1) (σ.put (some d) (.one (.cv (.pointer (some ⟨b,0,none⟩))))) ((b,.it src ag rows none)::H) K):zbx P N ops i σ H K:=zbx.stepV hl rfl λn0 A0 g a w h1 h2=>by
 obtain⟨⟨dd,et⟩,ht⟩:=Jk.1 hm
 obtain⟨kt,t1,t2⟩:=zkj ht
 obtain⟨n2,_,z2,z4,z5,z7⟩:=h1.rel
 have hv:=z4.get P 0 x
 rw[hx]at hv
 have e1:a.eval x=.map (some src):=hv
 obtain⟨es2,clk2,c1,c2,c3,c4⟩:=zyt (d:=d) (src:=src) (ag:=ag) (rows:=rows) h1 h2 hd λn1 f1 f2 f3=>by
  obtain⟨es,clk,q1,q2,q3⟩:=f3 _ (List.mem_of_getElem? hj);exact⟨f2 _ (List.mem_of_getElem? hj),es,clk,q1,q2,q3,rfl⟩
 refine⟨_,_,_,_,_,?_,c3,c4,k w.heap.size c2⟩
 unfold execOp
 simp only[e1,Sem.run_bind,run_range_map w mt kt et src es2 clk2 t1 c1,Result.andThen_ok,Sem.run_pure]
def anyX (ag:Bool)(r:List T):Bool×List C:=(ag,r.tail.map λ_=>.any)
theorem qd1 {σ:St}{g:Gh}{w w':World}{A:Nat->Prop}:∀{ts:List T}{vs:List Value},zag w A ts vs->CRs σ g w' (ts.map λ_=>.any) vs
 | [],vs,h=>by unfold zag at h;exact h
 | t::ts,vs,h=>by
  unfold zag at h;obtain⟨v,vs',rfl,h1,h2⟩:=h;exact⟨v,vs',rfl,trivial,qd1 h2⟩
theorem zbx.next (j:Nat){b src:Nat}{ag:Bool}{left:List (List T)}{last:Option (List T)}{y:Operand}(hj:H[j]?=some (b,.it src ag left last))(hl:ops[i]?=some ⟨some d,.next y false,ty,ps,af,none⟩)(hd:d<N)(hy:σ.get P 0 y=.one (.cv (.pointer (some ⟨b,0,none⟩))))(hni:qcu b H)(hlen:∀r∈left,ag=true\/r.length=2)
  (k0:left=[]->zbx P N ops (i+1) (σ.put (some d) (.tup [(false,[.t (.bool false)])])) H K)
  (k1:∀m r,left[m]?=some r->zbx P N ops (i+1) (σ.put (some d) (.tup [(false,[.t (.bool true)]),(false,[.any]),anyX ag r])) (H.set j (b,.it src ag (left.eraseIdx m) (some r))) K):zbx P N ops i σ H K:=zbx.stepV hl rfl λn0 A0 g a w h1 h2=>by
 obtain⟨n1,z1,z2,z4,z5,z7⟩:=h1.rel
 have hmem:(b,Ob.it src ag left last)∈H:=List.mem_of_getElem? hj
 have hv:=z4.get P 0 y
 rw[hy]at hv
 have e1:a.eval y=.pointer (some ⟨b,0,none⟩):=hv
 obtain⟨hs0,es,clk,seen,q1,q2,q3,q4,q5⟩:=z7 _ hmem
 have q1:w.heap[b]?=some (.mapIter (some src) clk seen clk):=q1
 have hb1:n1 b:=(z2 _ hmem).1
 have hb2:¬g.A0 b:=(z2 _ hmem).2
 have hsb:src≠b:=λe=>by rw[e,q1]at q2;cases q2
 rcases zvl (P:=P) ty b src clk seen es q1 q2 q3.1 with⟨h0,hrun⟩|⟨m,e,n,he,hrun⟩
 ·refine⟨.tuple #[.bool false],w,_,H,g,?_,h1.keep z1 z2 z7 (z4.put (some d) (x:=.tup [(false,[.t (.bool false)])]) ⟨[.bool false],rfl,.bool false,[],rfl,⟨.t (.bool false),rfl,rfl⟩,rfl⟩ (λq hq=>by cases hq;exact hd)) z5 (Bk.refl _ _) rfl,Bk.refl _ _,k0 ?_⟩
  ·unfold execOp;simp only[e1,Sem.run_bind,hrun,Result.andThen_ok,Sem.run_pure]
  ·have:=q4.len;rw[h0]at this;exact Kn this.symm
 ·obtain⟨r,hr,hre⟩:=q4.at m e he;have hother:∀y,y≠b->({ w with heap:=w.heap.setIfInBounds b (.mapIter (some src) clk (seen.push e.born) clk),drawn:=w.drawn+n }:World).heap[y]?=w.heap[y]?:=(Go.MapKept.heap_set q1).2;have hself:({ w with heap:=w.heap.setIfInBounds b (.mapIter (some src) clk (seen.push e.born) clk),drawn:=w.drawn+n }:World).heap[b]?=some (.mapIter (some src) clk (seen.push e.born) clk):=(Go.MapKept.heap_set q1).1;have hsize:({ w with heap:=w.heap.setIfInBounds b (.mapIter (some src) clk (seen.push e.born) clk),drawn:=w.drawn+n }:World).heap.size=w.heap.size:=by simp
  have hbk:Bk n0 w { w with heap:=w.heap.setIfInBounds b (.mapIter (some src) clk (seen.push e.born) clk),drawn:=w.drawn+n }:=⟨rfl,rfl,rfl,by rw[hsize];exact Qz _,λy hy=>hother y λe=>h1.nb _ hmem (e▸hy)⟩;have hme:=mem_left (List.mem_of_getElem? he);generalize hw:({ w with heap:=w.heap.setIfInBounds b (.mapIter (some src) clk (seen.push e.born) clk),drawn:=w.drawn+n }:World)=w2 at hother hself hsize hbk hrun;have hR2:Rel n1 N σ g a w2:=z4.turn (A1:=g.A0) (w':=w2) (λy hf=>⟨hf.2.2.2,hother y λe=>hb2 (e▸hf.2.2.2)⟩) (by rw[hsize];exact Qz _) (λy hy=>z4.anew y hy) (λl hl=>⟨z4.base l hl,hother _ λe=>z4.base l hl (e▸hb1)⟩) λe ho y hy=>⟨z4.etop e ho y hy,(z4.ebase e ho y hy).1,hother y λq=>z4.etop e ho y hy (q▸hb1)⟩;have hkeep:∀{rs:List (List T)} {l:List MapEntry},zal w (λx=>n1 x/\g.A0 x) ag rs l->zal w2 (λx=>n1 x/\g.A0 x) ag rs l:=λhh=>zal.keep (λy hy=>hother y λe=>hb2 (e▸hy.2)) (λy hy=>hy) ag _ _ hh;have hval:VR σ g w2 (.tup [(false,[.t (.bool true)]),(false,[.any]),anyX ag r]) (.tuple #[.bool true,e.key,e.val]):=by
   refine⟨[.bool true,e.key,e.val],rfl,.bool true,[e.key,e.val],rfl,⟨.t (.bool true),rfl,rfl⟩,e.key,[e.val],rfl,⟨.any,rfl,trivial⟩,e.val,[],rfl,?_,rfl⟩;unfold zal at hre;obtain⟨e',es',us,f1,f2,f3,_⟩:=hre;obtain⟨rfl,rfl⟩:=Yu f1;unfold CRx anyX;cases r with
   | nil=>unfold zag at f3;cases f3
   | cons t ts =>
    unfold zag at f3;obtain⟨v0,vs0,g1,g2,g3⟩:=f3;obtain⟨rfl,rfl⟩:=Yu g1;cases ag
    ·simp only[Qp,if_false]at f2⊢;rcases hlen _ (List.mem_of_getElem? hr)with hh|hh
     ·cases hh
     ·cases ts with
      | nil=>simp at hh
      | cons t' ts =>
       cases ts with
       | nil=>exact⟨.any,rfl,trivial⟩
       | cons _ _=>simp at hh
    ·simp only[if_true]at f2⊢;exact⟨us,f2,qd1 g3⟩
  refine⟨.tuple #[.bool true,e.key,e.val],w2,_,_,g,?_,⟨⟨n1,z1,λp hp=>?_,hR2.put (some d) hval (λq hq=>by cases hq;exact hd),λy hy=>by rw[hsize];exact z5 y hy,?_⟩,λp hp=>?_,by rw[zvd hj];exact h1.nd,h1.sub,h1.r0,h1.new⟩,hbk,k1 m r hr⟩
  ·unfold execOp;simp only[e1,Sem.run_bind,hrun,Result.andThen_ok,Sem.run_pure]
  ·obtain⟨q,hq,e⟩:=zgg hj hp;rw[<-e];exact z2 q hq
  ·refine qkr hj h1.nd hni (λx hx=>hx.1) (λh=>hb2 h.2) hother z7 (λp hp=>(z2 p hp).1) ⟨hs0,es,clk,seen.push e.born,hself,(hother src hsb).trans q2,q3,?_,λr' hr'=>?_⟩
   ·rw[qgq q3.2.1 he];exact hkeep (q4.erase m)
   ·obtain rfl:=Yf hr';exact⟨e,hme.1,by simp,hkeep hre⟩
  ·obtain⟨q,hq,e⟩:=zgg hj hp;rw[<-e];exact h1.nb q hq
theorem zbx.entry (j:Nat){b src:Nat}{ag:Bool}{left:List (List T)}{kT:T}{vts:List T}{y:Operand}(hj:H[j]?=some (b,.it src ag left (some (kT::vts))))(hl:ops[i]?=some ⟨some d,.entry y,ty,ps,af,none⟩)(hd:d<N)(hy:σ.get P 0 y=.one (.cv (.pointer (some ⟨b,0,none⟩))))
  (k:zbx P N ops (i+1) (σ.put (some d) (.tup [(false,[kT.toN]),qsa ag vts])) H K):zbx P N ops i σ H K:=zbx.stepV hl rfl λn0 A0 g a w h1 h2=>by
 obtain⟨n1,z1,z2,z4,z5,z7⟩:=h1.rel
 have hmem:(b,Ob.it src ag left (some (kT::vts)))∈H:=List.mem_of_getElem? hj
 have hv:=z4.get P 0 y
 rw[hy]at hv
 have e1:a.eval y=.pointer (some ⟨b,0,none⟩):=hv
 obtain⟨hs0,es,clk,seen,q1,q2,q3,q4,q5⟩:=z7 _ hmem
 have q1:w.heap[b]?=some (.mapIter (some src) clk seen clk):=q1
 obtain⟨e,he,hbk,hre⟩:=q5 _ rfl
 have hfr:∀y,n1 y/\g.A0 y->zch σ g w y:=λy hy=>zvk z4 z5 hy.1 hy.2
 unfold zal at hre
 obtain⟨e',es',us,f1,f2,f3,_⟩:=hre
 obtain⟨rfl,rfl⟩:=Yu f1
 unfold zag at f3
 obtain⟨v0,vs0,g1,g2,g3⟩:=f3
 obtain⟨rfl,rfl⟩:=Yu g1
 have hf:es.find? (·.born==e.born)=some e:=by rw[<-Array.find?_toList];exact find_born e es.toList q3.2.1 he
 refine⟨.tuple #[e.key,e.val],w,_,H,g,?_,h1.keep z1 z2 z7 (z4.put (some d) (x:=.tup [(false,[kT.toN]),qsa ag vts]) ⟨[e.key,e.val],rfl,e.key,[e.val],rfl,⟨_,rfl,qkj (zau.keep (λ_ _=>rfl) hfr _ _ g2)⟩,e.val,[],rfl,qfn f2 (zag.keep (λ_ _=>rfl) hfr _ _ g3),rfl⟩ (λq hq=>by cases hq;exact hd)) z5 (Bk.refl _ _) rfl,Bk.refl _ _,k⟩
 unfold execOp
 simp only[e1]
 simp only[Instr.entry,getObj,Sem.run_bind,Sem.run,q1,q2,Result.andThen,hbk,K6,Qp,if_false,hf]
 rfl
end
theorem zuc:∀(H:Hid)(j:Nat),(H.eraseIdx j).map (·.1)=(H.map (·.1)).eraseIdx j
 | [],_=>rfl
 | p::H,0=>rfl
 | p::H,j+1=>by
  show p.1::(H.eraseIdx j).map (·.1)=p.1::(H.map (·.1)).eraseIdx j
  rw[zuc H j]
theorem zbt.pub {c:Code}{σ:St}{H:Hid}{Q:Exit->St->Hid->Prop}(i j:Nat){b:Nat}{ag:Bool}{rows:List (List T)}(hj:H[j]?=some (b,.mp ag rows))(hi:σ.sl i=.one (.cv (.map (some b))))(hni:qcu b H)(k:zbt P N c (σ.put (some i) (.one (.rn (.mq ag rows)))) (H.eraseIdx j) Q):zbt P N c σ H Q:=λn0 w0 A0 g a w h1 h2 h3=>by
 obtain⟨n1,z1,z2,z4,z5,z7⟩:=h1.rel
 have hmem:(b,Ob.mp ag rows)∈H:=List.mem_of_getElem? hj
 obtain⟨hjl,hje⟩:=List.getElem?_eq_some_iff.1 hj
 obtain⟨es,clk,q1,q2,q3⟩:=z7 _ hmem
 have hb1:n1 b:=(z2 _ hmem).1
 have hR2:Rel n1 N σ { g with A0:=λx=>g.A0 x\/x=b } a w:=z4.turn (A1:=λx=>g.A0 x\/x=b) (w':=w) (λy hf=>⟨Or.inl hf.2.2.2,rfl⟩) (Qz _) (λy hy=>⟨Or.inl (z4.anew y hy).1,(z4.anew y hy).2⟩) (λl hl=>⟨z4.base l hl,rfl⟩) λe ho y hy=>⟨z4.etop e ho y hy,Or.inl (z4.ebase e ho y hy).1,rfl⟩
 have hfr:∀y,n1 y->(g.A0 y\/y=b)->zch σ { g with A0:=λx=>g.A0 x\/x=b } w y:=λy h1 h2=>zvk hR2 z5 h1 h2
 have hR3:Rel n1 N (σ.put (some i) (.one (.rn (.mq ag rows)))) { g with A0:=λx=>g.A0 x\/x=b } a w:=by
  refine hR2.slots_of rfl rfl hR2.defers hR2.size λl=>?_;show VR _ _ w (upd σ.sl i _ l) _
  by_cases hl:l=i
  ·subst hl;rw[zaf];have hv:=z4.slots l;rw[hi]at hv;have hv:a.tmps.getD l (g.R0.ξ l)=.map (some b):=hv;show zau w (zch _ _ w) (.mq ag rows) (a.tmps.getD l (g.R0.ξ l))
   rw[hv];unfold zau;exact⟨b,es,clk,rfl,hfr b hb1 (Or.inr rfl),q1,zal.keep (λ_ _=>rfl) (λx hx=>hfr x hx.1 (Or.inl hx.2)) ag rows _ q2,q3⟩
  ·rw[zan _ _ hl];exact hR2.slots l
 have hsub:(H.eraseIdx j).Sublist H:=List.eraseIdx_sublist ..
 have hnb:∀p∈H.eraseIdx j,p.1≠b:=λp hp e=>by
  have hids:(H.eraseIdx j).map (·.1)=(H.map (·.1)).eraseIdx j:=zuc H j;have hb':b∈(H.map (·.1)).eraseIdx j:=by rw[<-hids];exact Ka.2 ⟨p,hp,e⟩
  have hg:(H.map (·.1))[j]?=some b:=by rw[List.getElem?_map,hj];rfl
  obtain⟨m,hm,hmb⟩:=List.mem_eraseIdx_iff_getElem?.1 hb'
  have h5:=(List.getElem?_inj (by
   obtain⟨hh,_⟩:=List.getElem?_eq_some_iff.1 hmb
   exact hh) h1.nd).1 (hmb.trans hg.symm)
  exact hm h5
 refine k n0 w0 A0 _ a w ⟨⟨n1,z1,λp hp=>⟨(z2 p (hsub.subset hp)).1,λq=>?_⟩,hR3,z5,λp hp=>zu7.keep (λ_ _=>rfl) (λx hx=>hx.1) (λx hx=>⟨hx.1,Or.inl hx.2⟩) (λx hx=>hx) (z2 p (hsub.subset hp)).1 (z7 p (hsub.subset hp))⟩,λp hp=>h1.nb p (hsub.subset hp),h1.nd.sublist (hsub.map _),λx hx=>?_,h1.r0,h1.new⟩ h2 h3
 ·rcases q with q|q
  ·exact(z2 p (hsub.subset hp)).2 q
  ·exact hnb p hp q
 ·rcases hx with hx|rfl
  ·exact h1.sub x hx
  ·exact(h1.new _ (h1.nb _ hmem)).1
theorem zci.hide {c:Code}{σ:St}{Q:Exit->St->Prop}(h:zbt P N c σ [] (λe σ' _=>Q e σ')):zci P N c σ Q:=λn0 w0 A0 g a w h1 h2 h3 h4=>by
 obtain⟨A,R⟩:=A0
 obtain⟨e1,e2⟩:=K7 h4
 refine wp_mono (h n0 w0 (A,R) g a w ⟨⟨n0,λx hx=>hx,λp hp=>absurd hp (by simp),h1,h2,λp hp=>absurd hp (by simp)⟩,λp hp=>absurd hp (by simp),Kr,λx hx=>by rw[<-e1];exact hx,e2,λx hx=>by
  have:=h1.anew x hx;rw[e1,e2]at this
  exact this⟩ h2 h3) λe a' w' hq=>?_
 obtain⟨σ',H',g',k1,k2,k3,k4⟩:=hq
 obtain⟨n1,z1,z2,z4,z5,z7⟩:=k2.rel
 refine⟨σ',{ g' with A0:=A },k1,z4.leave z1 k2.sub λx hx=>⟨(k2.new x hx).1,?_⟩,k3,k4,?_⟩
 ·rw[k2.r0];exact(k2.new x hx).2
 ·show(A,g'.R0)=(A,R)
  rw[k2.r0]
end
section
open Go.RowKit
variable {P:Program}
theorem qjd {ops:Array Oper}{listed:Array Bool}(hsz:listed.size=ops.size){i:Nat}(hi:i∈Region.ready .any ops listed):∃h:i<ops.size,listed.getD i false=false/\∀e∈(ops[i]'h).after,Region.binds .any e=true->listed.getD e.on false=true:=by
 unfold Region.ready at hi
 rw[Jq]at hi
 obtain⟨hi1,hi2⟩:=hi
 have hi':=Jn.1 hi1
 rw[Array.getElem?_eq_getElem hi']at hi2
 simp only[Q8,Kq,Qb,J4]at hi2
 obtain⟨hl0,hafter⟩:=hi2
 refine⟨hi',?_,λe he hbd=>?_⟩
 ·simp only[Array.getD_eq_getD_getElem?]at hl0⊢;rw[Array.getElem?_eq_getElem Y0]at hl0⊢;exact hl0
 ·have:=(Km.1 hafter) e he;simpa[hbd]using this
theorem qgo {ops:Array Oper}{listed:Array Bool}{ρ:Nat->Nat}(hsz:listed.size=ops.size)(hlt:∀j (h:j<ops.size),∀e∈ops[j].after,Region.binds .any e=true->e.on<ops.size/\ρ e.on<ρ j)(hr:Region.ready .any ops listed=[]):∀j,j<ops.size->listed.getD j false=true:=by
 have key:∀k j,ρ j=k->j<ops.size->listed.getD j false=true:=by
  intro k;induction k using Nat.strongRecOn with
  | _ k ih =>
   intro j hjk hj;cases hl:listed.getD j false with
   | true=>rfl
   | false =>
    exfalso;have hmem:j∈Region.ready .any ops listed:=by
     unfold Region.ready;rw[Jq];refine⟨Jn.2 hj,?_⟩;have hl':listed.getD j true=false:=by
      simp only[Array.getD_eq_getD_getElem?]at hl⊢;rw[Array.getElem?_eq_getElem Y0]at hl⊢;exact hl
     rw[hl',Array.getElem?_eq_getElem hj];simp only[Qj,Qv,Q8,Kq];rw[Km];intro e he;cases hbd:Region.binds .any e with
     | false=>rfl
     | true =>
      obtain⟨h1,h2⟩:=hlt j hj e he hbd;simpa using ih (ρ e.on) Y0 e.on rfl h1
    rw[hr]at hmem;exact absurd hmem (by simp)
 exact λj hj=>key _ j rfl hj
theorem qqw {ops:Array Oper}{listed:Array Bool}{ρ:Nat->Nat}{b:Nat->Nat->Bool}(hlt:∀j (h:j<ops.size),∀e∈ops[j].after,Region.binds .any e=true->e.on<ops.size/\ρ e.on<ρ j)
  (hbef:∀j (h:j<ops.size),∀i,i<ops.size->b j i=true->∃e∈ops[j].after,Region.binds .any e=true/\(e.on=i\/b e.on i=true))
  (hcl:∀j (h:j<ops.size),listed.getD j false=true->∀e∈ops[j].after,Region.binds .any e=true->listed.getD e.on false=true) :
  (∀j (_:j<ops.size),listed.getD j false=true->∀i,i<ops.size->b j i=true->listed.getD i false=true) ∧
  ∀j (h:j<ops.size),(∀e∈ops[j].after,Region.binds .any e=true->listed.getD e.on false=true)->∀i,i<ops.size->b j i=true->listed.getD i false=true:=by
 have key:∀k j (h:j<ops.size),ρ j=k->(∀e∈ops[j].after,Region.binds .any e=true->listed.getD e.on false=true)->∀i,i<ops.size->b j i=true->listed.getD i false=true:=by
  intro k;induction k using Nat.strongRecOn with
  | _ k ih =>
   intro j h hk hl i hi hb;obtain⟨e,he,h1,h2⟩:=hbef j h i hi hb;have hle:=hl e he h1;obtain⟨k1,k2⟩:=hlt j h e he h1;rcases h2 with rfl|h2
   ·exact hle
   ·exact ih (ρ e.on) Y0 e.on k1 rfl (hcl e.on k1 hle) i hi h2
 exact⟨λj h hl i hi hb=>key _ j h rfl (hcl j h hl) i hi hb,λj h hl i hi hb=>key _ j h rfl hl i hi hb⟩
theorem zi4 {listed:Array Bool}{n i:Nat}(hsz:listed.size=n)(hi:i<n)(j:Nat):(listed.setIfInBounds i true).getD j false=if j=i then true else listed.getD j false:=by
 simp only[Array.getD_eq_getD_getElem?,Array.getElem?_setIfInBounds]
 by_cases hji:j=i
 ·subst hji;rw[if_pos rfl,if_pos Y0,if_pos rfl];rfl
 ·rw[if_neg (λh=>hji h.symm),if_neg hji]
def zkp (ops:Array Oper)(π ρ:Nat->Nat)(L:List (List Ky×List Ky)):Bool :=
 let b:=Region.before ops
 (List.range ops.size).all λj =>
  ((ops.getD (π j) default).after.all λe=>!Region.binds .any e||(decide (e.on<ops.size)&&decide (ρ e.on<j))) &&
  ((List.range ops.size).all λi=>!(b.getD (π j) 0).testBit i||(ops.getD (π j) default).after.any λe=>Region.binds .any e&&(e.on==i||(b.getD e.on 0).testBit i)) &&
  ((List.range j).all λi=>(b.getD (π j) 0).testBit (π i)||(((L.getD i ([],[])).2.all λk=>!(L.getD j ([],[])).1.contains k&&!(L.getD j ([],[])).2.contains k)&&(L.getD i ([],[])).1.all λk=>!(L.getD j ([],[])).2.contains k))
structure PermP (n:Nat)(π ρ:Nat->Nat):Prop where
 to:∀m,m<n->π m<n/\ρ (π m)=m
 fro:∀i,i<n->ρ i<n/\π (ρ i)=i
 out:∀m,n<=m->π m=m
def qti (R W:List Ky)(σ σ':St):Prop:=okK W=true/\okK R=true/\∀k:Ky,k.1<3->k∉W->za8 σ σ' k
structure OrdP (ops:Array Oper)(π ρ:Nat->Nat)(L:List (List Ky×List Ky)):Prop where
 lt:∀j (h:j<ops.size),∀e∈ops[j].after,Region.binds .any e=true->e.on<ops.size/\ρ e.on<ρ j
 bef:∀j (h:j<ops.size),∀i,i<ops.size->((Region.before ops).getD j 0).testBit i=true->∃e∈ops[j].after,Region.binds .any e=true/\(e.on=i\/((Region.before ops).getD e.on 0).testBit i=true)
 dis:∀i j,i<j->j<ops.size->((Region.before ops).getD (π j) 0).testBit (π i)=false->(∀k∈(L.getD i ([],[])).2,k∉(L.getD j ([],[])).1/\k∉(L.getD j ([],[])).2)/\∀k∈(L.getD i ([],[])).1,k∉(L.getD j ([],[])).2
theorem OrdP.of {ops:Array Oper}{π ρ:Nat->Nat}{L:List (List Ky×List Ky)}(hp:PermP ops.size π ρ)(h:zkp ops π ρ L=true):OrdP ops π ρ L:=by
 have hget:∀j (h:j<ops.size),ops.getD j default=ops[j]:=λj h=>by simp[Array.getD,h]
 unfold zkp at h
 simp only[Qq,Jn,Qb]at h
 refine⟨λj hj e he hb=>?_,λj hj i hi hb=>?_,λi j hij hj hb=>?_⟩
 ·have:=(h (ρ j) (hp.fro j hj).1).1.1;rw[(hp.fro j hj).2,hget j hj]at this;have:=(Km.1 this) e he;simpa[hb]using this
 ·have:=(h (ρ j) (hp.fro j hj).1).1.2 i hi;rw[(hp.fro j hj).2,hb,hget j hj]at this;simp only[Qd,K0]at this;obtain⟨e,he,h1⟩:=Array.any_eq_true'.1 this;simp only[Qb,K1,Q9]at h1;exact⟨e,he,h1.1,h1.2⟩
 ·have:=(h j hj).2 i hij;rw[hb]at this;simp only[K0,Qb,Qq,J4,List.contains_eq_mem,Ju]at this;exact⟨λk hk=>this.1 k hk,λk hk=>this.2 k hk⟩
theorem qbx {ops:Array Oper}{π ρ:Nat->Nat}{σs:Nat->St}{L:List (List Ky×List Ky)}{n0:Nat->Prop}{N:Nat}{w0:World}{A0:(Nat->Prop)×RP}{Q:Exit->Act->World->Prop}{m0:Nat}(hp:PermP ops.size π ρ)(ho:OrdP ops π ρ L)
  (hO:∀m,m<ops.size->qti (L.getD m ([],[])).1 (L.getD m ([],[])).2 (σs m) (σs (m+1)))
  (hL:∀m (h:m<ops.size),m≠m0->∀σ1,(∀k∈(L.getD m ([],[])).1,za8 (σs m) σ1 k)->qnk P ops (ops[π m]'(hp.to m h).1) σ1 (zny σ1 (L.getD m ([],[])).2 (σs (m+1)))) (hdst:∀o∈ops,∀d,o.dst=some d->d<N)
  (hQ:∀g a w,Rel n0 N (σs ops.size) g a w->LtK n0 w->Bk n0 w0 w->(g.A0,g.R0)=A0->Q .normal a w) :
  ∀(fuel:Nat) (listed:Array Bool) (g:Gh) (a:Act) (w:World),listed.size=ops.size->cnt (λm=>listed.getD (π m) false) ops.size=fuel->listed.getD (π m0) false=true →
   (∀j (h:j<ops.size),listed.getD j false=true->∀e∈ops[j].after,Region.binds .any e=true->listed.getD e.on false=true) →
   Rel n0 N (Fp σs (λi=>L.getD i ([],[])) (λm=>listed.getD (π m) false) ops.size) g a w->LtK n0 w->Bk n0 w0 w->(g.A0,g.R0)=A0->wpAny P .any ops Q fuel listed a w:=by
 have hok:∀i,i<ops.size->okK (L.getD i ([],[])).2=true:=λi h=>(hO i h).1
 have hRk:∀i,i<ops.size->okK (L.getD i ([],[])).1=true:=λi h=>(hO i h).2.1
 have hoff:∀i,i<ops.size->∀k:Ky,k.1<3->k∉(L.getD i ([],[])).2->za8 (σs i) (σs (i+1)) k:=λi h=>(hO i h).2.2
 intro fuel
 induction fuel with
 | zero =>
  intro listed g a w hsz hc hl0 hcl hrel hn hb hA;have hall:=zit _ hc;refine⟨?_,?_⟩
  ·rw[List.eq_nil_iff_forall_not_mem];intro i hi;obtain⟨h1,h2,_⟩:=qjd hsz hi;have:=hall (ρ i) (hp.fro i h1).1;rw[(hp.fro i h1).2,h2]at this;cases this
  ·refine hQ g a w ?_ hn hb hA
   rwa [znv hok hoff ops.size (Qz _) hall]at hrel
 | succ fuel ih =>
  intro listed g a w hsz hc hl0 hcl hrel hn hb hA;refine⟨λhr=>?_,λi hi=>?_⟩
  ·exfalso;have hall:=qgo (ρ:=ρ) hsz ho.lt hr;have hz:cnt (λm=>listed.getD (π m) false) ops.size=0:=by
    have:∀m,m<=ops.size->cnt (λm=>listed.getD (π m) false) m=0:=by
     intro m;induction m with
     | zero=>intro _;rfl
     | succ m ihm=>intro hm;unfold cnt;rw[if_pos (hall _ (hp.to m Y0).1),ihm Y0]
    exact this _ (Qz _)
   omega
  ·obtain⟨hi',hl,hdue⟩:=qjd hsz hi;obtain⟨hbb,hbd⟩:=qqw (listed:=listed) (b:=λj i=>((Region.before ops).getD j 0).testBit i) ho.lt ho.bef hcl;obtain⟨hr1,hr2⟩:=hp.fro i hi';have hset:∀j,(listed.setIfInBounds i true).getD (π j) false=if j=ρ i then true else listed.getD (π j) false:=λj=>by
    rw[zi4 hsz hi'];by_cases hj:j=ρ i
    ·subst hj;rw[if_pos hr2,if_pos rfl]
    ·rw[if_neg hj,if_neg λhe=>hj ?_];by_cases hjn:j<ops.size
     ·rw[<-he,(hp.to j hjn).2]
     ·rw[hp.out j Y0]at he;omega
   have hlp:listed.getD (π (ρ i)) false=false:=by rw[hr2];exact hl
   have h1:∀j,j<ops.size->((Region.before ops).getD (π (ρ i)) 0).testBit (π j)=true->listed.getD (π j) false=true:=λj hj hbj=>by
    rw[hr2]at hbj;exact hbd i hi' hdue (π j) (hp.to j hj).1 hbj
   have h2:∀j,j<ops.size->listed.getD (π j) false=true->((Region.before ops).getD (π j) 0).testBit (π (ρ i))=true->listed.getD (π (ρ i)) false=true:=λj hj hlj hbj=>hbb _ (hp.to j hj).1 hlj _ (by rw[hr2];exact hi') hbj;have hne:ρ i≠m0:=λhe=>by rw[he,hl0]at hlp;cases hlp
   have hG:=hL (ρ i) hr1 hne _ (λk hk=>zrr (σs:=σs) (RW:=λi=>L.getD i ([],[])) (b:=λj i=>((Region.before ops).getD (π j) 0).testBit (π i)) (p:=λm=>listed.getD (π m) false) hok hoff hRk ho.dis hr1 hlp h1 h2 hk);have hw:=zix (σs:=σs) (RW:=λi=>L.getD i ([],[])) (b:=λj i=>((Region.before ops).getD (π j) 0).testBit (π i)) (p:=λm=>listed.getD (π m) false) hok ho.dis hr1 hlp h1 h2 (p':=λj=>(listed.setIfInBounds i true).getD (π j) false) hset;have hcnt:=zj9 (p:=λm=>listed.getD (π m) false) (q:=λj=>(listed.setIfInBounds i true).getD (π j) false) hlp hset ops.size hr1;have hG':=hG n0 N g a w hrel hn (hdst _ (Yb _));rw[<-hw]at hG';have heq:ops[π (ρ i)]'(hp.to _ hr1).1=ops[i]:=by congr 1
   rw[heq]at hG';have next:∀a' w',(∃g',Rel n0 N (Fp σs (λi=>L.getD i ([],[])) (λj=>(listed.setIfInBounds i true).getD (π j) false) ops.size) g' a' w'/\Bk n0 w w'/\g'.A0=g.A0/\g'.R0=g.R0)->wpAny P .any ops Q fuel (listed.setIfInBounds i true) a' w':=by
    rintro a' w' ⟨g',k1,k2,k3,k4⟩;refine ih _ g' a' w' (by simpa using hsz) Y0 (by rw[hset,if_neg λhe=>hne he.symm];exact hl0) (λj hj hlj e he hbd=>?_) k1 (hn.mono k2.size) (hb.trans k2) (by rw[k3,k4];exact hA);rw[zi4 hsz hi']at hlj⊢;by_cases heo:e.on=i
    ·rw[if_pos heo]
    ·rw[if_neg heo];by_cases hji:j=i
     ·subst hji;exact hdue e he hbd
     ·rw[if_neg hji]at hlj;exact hcl j hj hlj e he hbd
   unfold wpOp;rw[Array.getElem?_eq_getElem hi'];simp only;split
   ·rename_i hwd;rw[if_pos hwd]at hG';exact Or.inl (zcu next hG')
   ·rename_i hwd;rw[if_neg hwd]at hG';obtain⟨g',k1,k2,k3⟩:=hG';exact next _ _ ⟨g',k1,Bk.refl _ _,k2,k3⟩
def zru (ops:Array Oper)(π:Nat->Nat)(m0:Nat):Bool :=
 (List.range ops.size).all λj=>decide (j<=m0)||((Region.before ops).getD (π j) 0).testBit (π m0)
theorem qa9 {X:Type}{Pr:X->Prop}{τ:X->St}{ops:Array Oper}{π ρ:Nat->Nat}{σs:Nat->St}{L:List (List Ky×List Ky)}{R W:List Ky}{n0:Nat->Prop}{N:Nat}{w0:World}{A0:(Nat->Prop)×RP}{Q:Exit->Act->World->Prop}{K:St->Prop}{m0:Nat}(hp:PermP ops.size π ρ)(hm0:m0<ops.size)(hbh:zru ops π m0=true)
  (hLl:L.length=m0) (hO:∀m,m<m0->qti (L.getD m ([],[])).1 (L.getD m ([],[])).2 (σs m) (σs (m+1)))
  (hL:∀m (h:m<m0),∀σ1,(∀k∈(L.getD m ([],[])).1,za8 (σs m) σ1 k)->qnk P ops (ops[π m]'(hp.to m Y0).1) σ1 (zny σ1 (L.getD m ([],[])).2 (σs (m+1)))) (hdst:∀o∈ops,∀d,o.dst=some d->d<N)
  (hg0:(ops[π m0]'(hp.to m0 hm0).1).guard=none) (hR0:okK R=true) (hX:∀σ1,(∀k∈R,za8 (σs m0) σ1 k)->zce P (ops[π m0]'(hp.to m0 hm0).1) σ1 (λσ'=>∃x,Pr x/\qti R W (σs m0) (τ x)/\σ'=zny σ1 W (τ x)))
  (hT:∀x,Pr x->∃(L2:List (List Ky×List Ky)) (τs:Nat->St),τs 0=τ x/\(∀m,m+m0+1<ops.size->qti (L2.getD m ([],[])).1 (L2.getD m ([],[])).2 (τs m) (τs (m+1))) ∧
   (∀m (h:m+m0+1<ops.size),∀σ1,(∀k∈(L2.getD m ([],[])).1,za8 (τs m) σ1 k)->qnk P ops (ops[π (m+m0+1)]'(hp.to _ h).1) σ1 (zny σ1 (L2.getD m ([],[])).2 (τs (m+1))))/\zkp ops π ρ (L++(R,W)::L2)=true/\K (τs (ops.size-m0-1)))
  (hord0:zkp ops π ρ (L++[(R,[])])=true)
  (hQ:∀σ g a w,K σ->Rel n0 N σ g a w->LtK n0 w->Bk n0 w0 w->(g.A0,g.R0)=A0->Q .normal a w) :
  ∀(fuel:Nat) (listed:Array Bool) (g:Gh) (a:Act) (w:World),listed.size=ops.size->cnt (λm=>listed.getD (π m) false) ops.size=fuel->(∀j,m0<=j->listed.getD (π j) false=false) →
   (∀j (h:j<ops.size),listed.getD j false=true->∀e∈ops[j].after,Region.binds .any e=true->listed.getD e.on false=true) →
   Rel n0 N (Fp σs (λi=>L.getD i ([],[])) (λm=>listed.getD (π m) false) m0) g a w->LtK n0 w->Bk n0 w0 w->(g.A0,g.R0)=A0->wpAny P .any ops Q fuel listed a w:=by
 have ho:=OrdP.of hp hord0
 have hbeh:∀j,j<ops.size->m0<j->((Region.before ops).getD (π j) 0).testBit (π m0)=true:=λj hj hmj=>by
  unfold zru at hbh;simp only[Qq,Jn,K1,Q2]at hbh;exact(hbh j hj).resolve_left Y0
 have hLa:∀(L2:List (List Ky×List Ky)) m,m<m0->(L++L2).getD m ([],[])=L.getD m ([],[]):=λL2 m hm=>by
  simp only[List.getD_eq_getElem?_getD];rw[List.getElem?_append_left Y0]
 have hL0:∀(r:List Ky×List Ky) (L2:List (List Ky×List Ky)),(L++r::L2).getD m0 ([],[])=r:=λr L2=>by
  simp only[List.getD_eq_getElem?_getD];rw[List.getElem?_append_right Y0,hLl,Ys];rfl
 have hokE:∀i,i<m0+1->okK ((L++[(R,[])]).getD i ([],[])).2=true:=λi h=>by
  by_cases hi:i=m0
  ·subst hi;rw[hL0];rfl
  ·rw[hLa _ _ Y0];exact(hO i Y0).1
 have hRE:∀i,i<m0+1->okK ((L++[(R,[])]).getD i ([],[])).1=true:=λi h=>by
  by_cases hi:i=m0
  ·subst hi;rw[hL0];exact hR0
  ·rw[hLa _ _ Y0];exact(hO i Y0).2.1
 have hoffE:∀i,i<m0+1->∀k:Ky,k.1<3->k∉((L++[(R,[])]).getD i ([],[])).2->za8 ((λj=>if j<=m0 then σs j else σs m0) i) ((λj=>if j<=m0 then σs j else σs m0) (i+1)) k:=λi h k h3 hk=>by
  by_cases hi:i=m0
  ·subst hi;simp only[Qz,if_true,if_neg (show ¬i+1<=i by omega)];exact za8.refl _ _
  ·rw[hLa _ _ Y0]at hk;simp only[if_pos (show i<=m0 by omega),if_pos (show i+1<=m0 by omega)];exact(hO i Y0).2.2 k h3 hk
 have hFpE:∀(L2:List (List Ky×List Ky)) (p:Nat->Bool) (τs:Nat->St),(∀j,j<=m0->τs j=σs j)->∀m,m<=m0->Fp τs (λi=>(L++L2).getD i ([],[])) p m=Fp σs (λi=>L.getD i ([],[])) p m:=λL2 p τs hτ m=>by
  induction m with
  | zero=>intro _;exact hτ 0 Y0
  | succ m ih =>
   intro hm;unfold Fp;rw[ih Y0,hτ (m+1) hm,hLa _ _ Y0]
 intro fuel
 induction fuel with
 | zero =>
  intro listed g a w hsz hc hl0 hcl hrel hn hb hA;have hall:listed.getD (π m0) false=true:=zit _ hc m0 hm0;rw[hl0 m0 (Qz _)]at hall;cases hall
 | succ fuel ih =>
  intro listed g a w hsz hc hl0 hcl hrel hn hb hA;refine⟨λhr=>?_,λi hi=>?_⟩
  ·exfalso;have hall:=qgo (ρ:=ρ) hsz ho.lt hr (π m0) (hp.to m0 hm0).1;rw[hl0 m0 (Qz _)]at hall;cases hall
  ·obtain⟨hi',hl,hdue⟩:=qjd hsz hi;obtain⟨hbb,hbd⟩:=qqw (listed:=listed) (b:=λj i=>((Region.before ops).getD j 0).testBit i) ho.lt ho.bef hcl;obtain⟨hr1,hr2⟩:=hp.fro i hi';have hset:∀j,(listed.setIfInBounds i true).getD (π j) false=if j=ρ i then true else listed.getD (π j) false:=λj=>by
    rw[zi4 hsz hi'];by_cases hj:j=ρ i
    ·subst hj;rw[if_pos hr2,if_pos rfl]
    ·rw[if_neg hj,if_neg λhe=>hj ?_];by_cases hjn:j<ops.size
     ·rw[<-he,(hp.to j hjn).2]
     ·rw[hp.out j Y0]at he;omega
   have hlp:listed.getD (π (ρ i)) false=false:=by rw[hr2];exact hl
   have hle:ρ i<=m0:=Yl λhlt=>by
    have:=hbeh _ hr1 hlt;rw[hr2]at this;have:=hbd i hi' hdue _ (hp.to m0 hm0).1 this;rw[hl0 m0 (Qz _)]at this;cases this
   have h1:∀j,j<ops.size->((Region.before ops).getD (π (ρ i)) 0).testBit (π j)=true->listed.getD (π j) false=true:=λj hj hbj=>by
    rw[hr2]at hbj;exact hbd i hi' hdue (π j) (hp.to j hj).1 hbj
   have h2:∀j,j<ops.size->listed.getD (π j) false=true->((Region.before ops).getD (π j) 0).testBit (π (ρ i))=true->listed.getD (π (ρ i)) false=true:=λj hj hlj hbj=>hbb _ (hp.to j hj).1 hlj _ (by rw[hr2];exact hi') hbj;have hdisE:∀i j,i<j->j<m0+1->((Region.before ops).getD (π j) 0).testBit (π i)=false->(∀k∈((L++[(R,[])]).getD i ([],[])).2,k∉((L++[(R,[])]).getD j ([],[])).1/\k∉((L++[(R,[])]).getD j ([],[])).2)/\∀k∈((L++[(R,[])]).getD i ([],[])).1,k∉((L++[(R,[])]).getD j ([],[])).2:=λi j hij hj hb=>ho.dis i j hij Y0 hb;have hread:∀k∈((L++[(R,[])]).getD (ρ i) ([],[])).1,za8 (σs (ρ i)) (Fp σs (λi=>L.getD i ([],[])) (λm=>listed.getD (π m) false) m0) k:=λk hk=>by
    have:=zrr (σs:=λj=>if j<=m0 then σs j else σs m0) (RW:=λi=>(L++[(R,[])]).getD i ([],[])) (n:=m0+1) (b:=λj i=>((Region.before ops).getD (π j) 0).testBit (π i)) (p:=λm=>listed.getD (π m) false) hokE hoffE hRE hdisE (i:=ρ i) Y0 hlp (λj hj hbj=>h1 j Y0 hbj) (λj hj=>h2 j Y0) hk;simp only[if_pos hle]at this;have e1:Fp (λj=>if j<=m0 then σs j else σs m0) (λi=>(L++[(R,[])]).getD i ([],[])) (λm=>listed.getD (π m) false) (m0+1)=Fp σs (λi=>L.getD i ([],[])) (λm=>listed.getD (π m) false) m0:=by
     rw[Fp,hl0 m0 (Qz _),if_neg (by simp)];exact hFpE _ _ _ (λj hj=>if_pos hj) m0 (Qz _)
    rwa [e1]at this
   by_cases him:ρ i=m0
   ·-- the operation whose outcome is not known
    rw[him,hL0]at hread;have hG:=hX _ hread n0 N g a w hrel hn (hdst _ (Yb _));have heq:ops[π m0]'(hp.to _ hm0).1=ops[i]:=by
     have:π m0=i:=by rw[<-him];exact hr2
     simp only[this]
    rw[heq]at hG hg0;unfold wpOp;rw[Array.getElem?_eq_getElem hi'];simp only;have hwd:Region.wanted ops[i] (yielded ops a.tmps)=true:=by simp[Region.wanted,hg0]
    rw[if_pos hwd];refine Or.inl (zcu ?_ hG);rintro a' w' ⟨_,g',⟨x,hx,hox,rfl⟩,k1,k2,k3,k4⟩;obtain⟨L2,τs,t0,t1,t2,t3,t4⟩:=hT x hx;have hLb:∀m,m0<m->(L++(R,W)::L2).getD m ([],[])=L2.getD (m-m0-1) ([],[]):=λm hm=>by
     simp only[List.getD_eq_getElem?_getD];rw[List.getElem?_append_right Y0,hLl,show m-m0=(m-m0-1)+1 by omega];rfl
    have hOall:∀m,m<ops.size->qti ((L++(R,W)::L2).getD m ([],[])).1 ((L++(R,W)::L2).getD m ([],[])).2 ((λj=>if j<=m0 then σs j else τs (j-m0-1)) m) ((λj=>if j<=m0 then σs j else τs (j-m0-1)) (m+1)):=λm hm=>by
     rcases Nat.lt_trichotomy m m0 with hc|hc|hc
     ·rw[hLa _ _ hc];simp only[if_pos (show m<=m0 by omega),if_pos (show m+1<=m0 by omega)];exact hO m hc
     ·subst hc;rw[hL0];simp only[Qz,if_true,if_neg (show ¬m+1<=m by omega),show m+1-m-1=0 by omega,t0];exact hox
     ·rw[hLb _ hc];simp only[if_neg (show ¬m<=m0 by omega),if_neg (show ¬m+1<=m0 by omega),show m+1-m0-1=(m-m0-1)+1 by omega];exact t1 (m-m0-1) Y0
    have hord:=OrdP.of hp t3;have hw:=zix (σs:=λj=>if j<=m0 then σs j else τs (j-m0-1)) (RW:=λi=>(L++(R,W)::L2).getD i ([],[])) (b:=λj i=>((Region.before ops).getD (π j) 0).testBit (π i)) (p:=λm=>listed.getD (π m) false) (λi h=>(hOall i h).1) hord.dis hr1 hlp h1 h2 (p':=λj=>(listed.setIfInBounds i true).getD (π j) false) hset;have hFpn:∀d,m0+d<=ops.size->Fp (λj=>if j<=m0 then σs j else τs (j-m0-1)) (λi=>(L++(R,W)::L2).getD i ([],[])) (λm=>listed.getD (π m) false) (m0+d)=Fp σs (λi=>L.getD i ([],[])) (λm=>listed.getD (π m) false) m0:=by
     intro d;induction d with
     | zero=>intro _;exact hFpE _ _ _ (λj hj=>if_pos hj) m0 (Qz _)
     | succ d ihd =>
      intro hd;rw[show m0+(d+1)=(m0+d)+1 by omega,Fp,hl0 (m0+d) Y0,if_neg (by simp)];exact ihd Y0
    have hFn:=hFpn (ops.size-m0) Y0;rw[show m0+(ops.size-m0)=ops.size by omega]at hFn;rw[hFn]at hw;simp only[him,hL0,if_neg (show ¬m0+1<=m0 by omega),show m0+1-m0-1=0 by omega,t0]at hw;rw[<-hw]at k1;have hcnt:=zj9 (p:=λm=>listed.getD (π m) false) (q:=λj=>(listed.setIfInBounds i true).getD (π j) false) hlp hset ops.size hr1;refine qbx (P:=P) (σs:=λj=>if j<=m0 then σs j else τs (j-m0-1)) (L:=L++(R,W)::L2) (m0:=m0) (w0:=w0) (A0:=A0) hp hord hOall (λm h hmm=>?_) hdst (λg a w k1 k2 k3 k4=>?_) fuel (listed.setIfInBounds i true) g' a' w' (by simpa using hsz) Y0 (by rw[hset,if_pos him.symm]) (λj hj hlj e he hbd=>?_) k1 (hn.mono k2.size) (hb.trans k2) (by rw[k3,k4];exact hA)
    ·rcases Nat.lt_or_gt_of_ne hmm with hc|hc
     ·rw[hLa _ _ hc];simp only[if_pos (show m<=m0 by omega),if_pos (show m+1<=m0 by omega)];exact hL m hc
     ·rw[hLb _ hc];simp only[if_neg (show ¬m<=m0 by omega),if_neg (show ¬m+1<=m0 by omega),show m+1-m0-1=(m-m0-1)+1 by omega];have:=t2 (m-m0-1) Y0;simp only[show m-m0-1+m0+1=m by omega]at this;exact this
    ·simp only[if_neg (show ¬ops.size<=m0 by omega)]at k1;exact hQ _ g a w t4 k1 k2 k3 k4
    ·rw[zi4 hsz hi']at hlj⊢;by_cases heo:e.on=i
     ·rw[if_pos heo]
     ·rw[if_neg heo];by_cases hji:j=i
      ·subst hji;exact hdue e he hbd
      ·rw[if_neg hji]at hlj;exact hcl j hj hlj e he hbd
   ·have hlt:ρ i<m0:=by omega
    rw[hLa _ _ hlt]at hread;have hG:=hL (ρ i) hlt _ hread
    have hw:=zix (σs:=σs) (RW:=λi=>L.getD i ([],[])) (n:=m0) (b:=λj i=>((Region.before ops).getD (π j) 0).testBit (π i)) (p:=λm=>listed.getD (π m) false) (λi h=>(hO i h).1) (λi j hij hj hb=>by
     have:=hdisE i j hij Y0 hb
     rwa [hLa _ _ Y0,hLa _ _ Y0]at this) hlt hlp (λj hj=>h1 j Y0) (λj hj=>h2 j Y0) (p':=λj=>(listed.setIfInBounds i true).getD (π j) false) hset
    have hcnt:=zj9 (p:=λm=>listed.getD (π m) false) (q:=λj=>(listed.setIfInBounds i true).getD (π j) false) hlp hset ops.size hr1;have hG':=hG n0 N g a w hrel hn (hdst _ (Yb _));rw[<-hw]at hG';have heq:ops[π (ρ i)]'(hp.to _ hr1).1=ops[i]:=by congr 1
    rw[heq]at hG';have next:∀a' w',(∃g',Rel n0 N (Fp σs (λi=>L.getD i ([],[])) (λj=>(listed.setIfInBounds i true).getD (π j) false) m0) g' a' w'/\Bk n0 w w'/\g'.A0=g.A0/\g'.R0=g.R0)->wpAny P .any ops Q fuel (listed.setIfInBounds i true) a' w':=by
     rintro a' w' ⟨g',k1,k2,k3,k4⟩;refine ih _ g' a' w' (by simpa using hsz) Y0 (λj hj=>by rw[hset,if_neg Y0];exact hl0 j hj) (λj hj hlj e he hbd=>?_) k1 (hn.mono k2.size) (hb.trans k2) (by rw[k3,k4];exact hA);rw[zi4 hsz hi']at hlj⊢;by_cases heo:e.on=i
     ·rw[if_pos heo]
     ·rw[if_neg heo];by_cases hji:j=i
      ·subst hji;exact hdue e he hbd
      ·rw[if_neg hji]at hlj;exact hcl j hj hlj e he hbd
    unfold wpOp;rw[Array.getElem?_eq_getElem hi'];simp only;split
    ·rename_i hwd;rw[if_pos hwd]at hG';exact Or.inl (zcu next hG')
    ·rename_i hwd;rw[if_neg hwd]at hG';obtain⟨g',k1,k2,k3⟩:=hG';exact next _ _ ⟨g',k1,Bk.refl _ _,k2,k3⟩
end
section
open Go.RowKit
section
variable {P:Program}
theorem que {n0:Nat->Prop}{N:Nat}{σ:St}{g:Gh}{a:Act}{w:World}(hR:Rel n0 N σ g a w){c:C}{t:T}(h:CT0 σ c t){v:Value}(hv:CR σ g w c v):zau w (λb=>b<w.heap.size/\g.A0 b) t v:=by
 have hF:∀b,Fix σ g w b->b<w.heap.size/\g.A0 b:=λb hb=>⟨hb.2.2.1,hb.2.2.2⟩
 have hFr:∀b,zch σ g w b->b<w.heap.size/\g.A0 b:=λb hb=>hF b hb.1
 cases c with
 | t x =>
  have h:x=t:=h;subst h;exact zau.keep (λ_ _=>rfl) hF x v hv
 | rn x =>
  have h:x=t:=h;subst h;exact zau.keep (λ_ _=>rfl) hFr x v hv
 | nl s =>
  cases t with
  | sl sz rows =>
   have h:rows=[]:=h;subst h;have hv:v=.slice none 0 0:=hv;subst hv;unfold zau;exact⟨none,0,rfl,Qz _,by simp,Or.inl rfl⟩
  | _=>exact h.elim
 | ow e n =>
  cases t with
  | sl sz rows =>
   obtain⟨d,o,he⟩:=h;obtain⟨rfl,-⟩:=hv;cases o
   ·exact zau.keep (λ_ _=>rfl) hF _ _ (hR.offs e _ he rfl).1
   ·have hOn:σ.On e:=⟨_,he,rfl⟩;have hlt:∀b∈g.φ e,b<w.heap.size:=(hR.evs e _ he rfl).lt;obtain⟨ao,cap,e1,e2,e3,e4⟩:=hR.evs e _ he rfl;unfold zau;refine⟨ao,cap,e1,e2,e3,?_⟩;rcases e4 with⟨_,_,e4,_⟩|⟨b,cells,ty,fps,k1,k2,k3,k4,k5⟩
    ·exact Or.inl e4
    ·have hA:∀b'∈g.φ e,b'<w.heap.size/\g.A0 b':=λb' hb'=>⟨hlt b' hb',(hR.ebase e hOn b' hb').1⟩;refine Or.inr ⟨b,0,k1,hA b (by rw[k2];simp),?_⟩;split at k5
     ·exact zat.rep b cells ty k3 0 sz rows fps k5 λb' hb'=>hA b' (by rw[k2];simp[hb'])
     ·exact zax.keep (λ_ _=>rfl) hF b rfl 0 sz rows k5.2
  | _=>exact h.elim
 | el cs o =>
  cases t with
  | ptr cs' =>
   obtain⟨rfl,rfl⟩:=h;obtain⟨b,q,h1,h2,h3⟩:=hv;unfold zau;exact⟨b,q,h1,hF b h2,zbo.keep (λ_ _=>rfl) hF b rfl q cs h3⟩
  | _=>exact h.elim
 | er cs o =>
  cases t with
  | ptr cs' =>
   obtain⟨rfl,rfl⟩:=h;obtain⟨b,q,h1,h2,h3⟩:=hv;unfold zau;exact⟨b,q,h1,hFr b h2,zbo.keep (λ_ _=>rfl) hFr b rfl q cs h3⟩
  | _=>exact h.elim
 | _=>cases t<;>exact h.elim
theorem qhq {n0:Nat->Prop}{N:Nat}{σ:St}{g:Gh}{a:Act}{w:World}(hR:Rel n0 N σ g a w):∀{cs:List C}{ts:List T},zr0 σ cs ts->∀{vs:List Value},CRs σ g w cs vs->zag w (λb=>b<w.heap.size/\g.A0 b) ts vs
 | [],ts,h,vs,hv=>by rw[show ts=[] from h];unfold zag;exact hv
 | c::cs,ts,h,vs,hv=>by
  obtain⟨t,ts',rfl,h1,h2⟩:=h;obtain⟨v,vs',rfl,k1,k2⟩:=hv;unfold zag;exact⟨v,vs',rfl,que hR h1 k1,qhq hR h2 k2⟩
def RVe (σ:St):List V->List D->Prop
 | [],[]=>True
 | .one c::vs,.one t::ds=>CT0 σ c t/\RVe σ vs ds
 | .agg cs::vs,.agg ts::ds=>zr0 σ cs ts/\RVe σ vs ds
 | _,_=>False
theorem RVe.rep {n0:Nat->Prop}{N:Nat}{σ:St}{g:Gh}{a:Act}{w:World}(hR:Rel n0 N σ g a w):∀{vs:List V}{ds:List D},RVe σ vs ds->∀{us:List Value},VRl σ g w vs us->zbn w (λb=>b<w.heap.size/\g.A0 b) ds us
 | [],[],_,us,hv=>hv
 | .one c::vs,.one t::ds,h,us,hv=>by
  obtain⟨u,us',rfl,k1,k2⟩:=hv;exact⟨u,us',rfl,que hR h.1 k1,RVe.rep hR h.2 k2⟩
 | .agg cs::vs,.agg ts::ds,h,us,hv=>by
  obtain⟨u,us',rfl,⟨q,rfl,k1⟩,k2⟩:=hv;exact⟨_,us',rfl,⟨q,rfl,qhq hR h.1 k1⟩,RVe.rep hR h.2 k2⟩
 | [],_::_,h,_,_=>h.elim
 | .one _::_,[],h,_,_=>h.elim
 | .one _::_,.agg _::_,h,_,_=>h.elim
 | .agg _::_,[],h,_,_=>h.elim
 | .agg _::_,.one _::_,h,_,_=>h.elim
 | .tup _::_,[],h,_,_=>h.elim
 | .tup _::_,_::_,h,_,_=>h.elim
def PRe (P:Program)(rs:List ResultVar)(res:List D)(e:Exit)(σ:St):Prop:=match e with
 | .normal=>zav (zb5 P σ rs) λvs=>RVe σ vs res
 | .ret=>zav (zb5 P σ rs) λvs=>RVe σ vs res
 | _=>False
theorem zcb {f:FuncId}{fn:Func}{c:Code}{args res:List D}(hc:zbl P f)(hf:P.funcs[f]?=some fn)(hb:fn.body=some c)(hd:zdf fn.ntmps c=true)(hN:(rd args).length<=fn.ntmps)
  (h:ex P c [] (PRe P fn.results.toList res) (zeq (rd args))):RC P f args res:=by
 refine⟨hc,λw vs A hv=>?_⟩
 refine calls_of_wp hf hb ?_
 have hg:∀(ds:List D) (vs:List Value),zbn w (λb=>b<w.heap.size/\A b) ds vs->za5 w (λb=>b<w.heap.size/\A b/\b∉([]:List Nat)) (rd ds) vs [] []:=by
  intro ds;induction ds with
  | nil=>intro vs h;exact⟨h,rfl,rfl⟩
  | cons d ds ih =>
   rintro vs ⟨v,vs',rfl,h1,h2⟩;refine⟨v,vs',rfl,?_,ih _ h2⟩;cases d with
   | one t=>exact zau.keep (λ_ _=>rfl) (λb hb=>⟨hb.1,hb.2,by simp⟩) t _ h1
   | agg ts=>obtain⟨a,h0,h1⟩:=h1;exact⟨a,h0,zag.keep (λ_ _=>rfl) (λb hb=>⟨hb.1,hb.2,by simp⟩) ts a h1⟩
 obtain⟨g,hg,hR⟩:=Rel.start (A:=A) (A0:=λb=>A b\/w.heap.size<=b) (R0:=RP.of λ_=>True) (N:=fn.ntmps) (hg _ _ hv) Kr (zc7 args) hN (λ_ hb=>Or.inl hb) (λb hb=>by simp at hb) (λb hb=>⟨Or.inr (by
  refine Yl λhlt=>hb ⟨hlt,by simp⟩),trivial⟩)
 refine wp_mono (zb0 (w0:=w) c (zeq (rd args)) _ hd h g _ w hR (λk hk=>hk.1) (Bk.refl _ _) hg) λe a' w' hq=>?_
 obtain⟨σ',g',h1,h2,h3,h4,h5⟩:=hq
 have key:zav (zb5 P σ' fn.results.toList) (λvs=>RVe σ' vs res)->∃v,(results fn a'.tmps).run P w'=.ok v w'/\∃us,Ending.returned v=.returned (zc4 us)/\zbn w' (λb=>b<w'.heap.size/\(A b\/w.heap.size<=b)) res us/\Below w.heap.size w w':=λhk=>by
  unfold zav at hk;split at hk
  ·rename_i vs hvs;obtain⟨us,r1,r2⟩:=zcg h2 fn hvs;refine⟨_,r1,us,rfl,(RVe.rep h2 hk r2).keep (λ_ _=>rfl) λb hb=>⟨hb.1,?_⟩,h4.os,h4.tape,h4.output,h4.size,λk hk=>h4.block k ⟨hk,by simp⟩⟩;have:=hb.2;simp only[Qt]at h5;rw[h5.1]at this;exact this
  ·exact hk.elim
 cases e with
 | normal=>exact⟨h2.defers,key h1⟩
 | ret=>exact⟨h2.defers,key h1⟩
 | exit _=>exact h1.elim
 | goto _=>exact h1.elim
 | panic _=>exact h1.elim
 | outgrown=>exact h1.elim
attribute [go_sem] PRe RVe
end
end
section
open Go.RowKit
variable {P:Program}
theorem Rel.apd_fin2 {n0:Nat->Prop}{N:Nat}{σ:St}{g:Gh}{a:Act}{w w':World}(hR:Rel n0 N σ g a w){e:Nat}{x y:Ev}{v v':Value}{vs:List Value}{fps:List Nat}{top:Option Nat}(ht:Tgt n0 σ g w e x v vs fps top)
  (hy:y.on=true) (hst:∀n,σ.has e n->n<=y.gen/\(n=y.gen->g.ψ e n=v'))
  {cons:List (Nat×Ev)} (hc:∀p∈cons,σ.ev p.1=some p.2/\p.2.on=true/\p.1≠e) {fps2:List Nat} (hf2:∀b∈fps2,∃p∈cons,b∈g.φ p.1)
  (nb:Nat) (hnb0:some nb=top\/w.heap.size<=nb) (hsame:∀k,k<w.heap.size->k≠nb->w'.heap[k]?=w.heap[k]?) (hsize:w.heap.size<=w'.heap.size) (hn0:LtK n0 w)
  {fp':List Nat} (hn':fp'.Nodup) (hfp:∀b∈fp',b=nb\/b∈fps\/b∈fps2) (hhead:∀b,fp'.head?=some b->b=nb)
  (hEv:∀A':Nat->Prop,(∀b,Fix σ g w b->A' b)->(∀b,w.heap.size<=b->b<w'.heap.size->b≠nb->A' b)->EvR w' A' y v' fp') :
  Rel n0 N (σ.apd e cons y) { g with ψ:=upd g.ψ e (upd (g.ψ e) y.gen v'),φ:=upd g.φ e fp' } a w':=by
 have hnb:∀b,Fix σ g w b->b≠nb:=λb hf hb=>by
  subst hb;rcases hnb0 with hh|hh
  ·exact ht.fix b hf hh
  ·have:=hf.2.2.1;omega
 have hbxb:∀k,σ.bx k≠none->g.β k≠nb:=λk hk hkn=>by
  rcases hnb0 with hh|hh
  ·exact(ht.bx nb (Or.inl hh)).1 k hk hkn
  ·have:=hR.lt hk;omega
 have hltO:∀e',σ.On e'->∀b∈g.φ e',b<w.heap.size:=λe' he' b hb=>by
  obtain⟨z,hz,ho⟩:=he';exact(hR.evs e' z hz ho).lt b hb
 have hevb:∀e',e'≠e->σ.On e'->nb∉g.φ e':=λe' hee he' hm=>by
  rcases hnb0 with hh|hh
  ·exact(ht.bx nb (Or.inl hh)).2.2.2 e' hee he' hm
  ·have:=hltO e' he' _ hm;omega
 have hcO:∀p∈cons,σ.On p.1:=λp hp=>⟨p.2,(hc p hp).1,(hc p hp).2.1⟩
 have hev:∀e' z,e'≠e->(σ.apd e cons y).ev e'=some z->(σ.ev e'=some z/\∀p∈cons,p.1≠e')\/∃q,(e',q)∈cons/\z=q.off:=λe' z hee he'=>by
  simp only[St.apd,zan _ _ hee]at he';exact zwl e' z he'
 have hlive:∀e' z,e'≠e->(σ.apd e cons y).ev e'=some z->z.on=true->σ.ev e'=some z/\∀p∈cons,p.1≠e':=λe' z hee he' ho=>by
  rcases hev e' z hee he' with h|⟨q,_,h⟩
  ·exact h
  ·rw[h]at ho;cases ho
 have hon:∀e',e'≠e->(σ.apd e cons y).On e'->σ.On e'/\∀p∈cons,p.1≠e':=λe' hee he'=>by
  obtain⟨z,hz,ho⟩:=he';obtain⟨h1,h2⟩:=hlive e' z hee hz ho;exact⟨⟨z,h1,ho⟩,h2⟩
 have hyE:(σ.apd e cons y).ev e=some y:=by simp[St.apd,zaf]
 have hfix:∀b,b<w.heap.size->g.A0 b->(∀k,σ.bx k≠none->g.β k≠b)->b≠nb->(∀e',e'≠e->(σ.apd e cons y).On e'->(g.φ e').head?≠some b)->Fix (σ.apd e cons y) { g with ψ:=upd g.ψ e (upd (g.ψ e) y.gen v'),φ:=upd g.φ e fp' } w' b:=λb h1 h2 h3 h4 h5=>by
  refine⟨h3,λe' z he' ho' hh=>?_,Jp h1 hsize,h2⟩;by_cases hee:e'=e
  ·subst hee;simp only[zaf]at hh;exact h4 (hhead b hh)
  ·simp only[zan _ _ hee]at hh;exact h5 e' hee ⟨z,he',ho'⟩ hh
 have hb2:∀b,Fix σ g w b->Fix (σ.apd e cons y) { g with ψ:=upd g.ψ e (upd (g.ψ e) y.gen v'),φ:=upd g.φ e fp' } w' b:=λb hf =>
  hfix b hf.2.2.1 hf.2.2.2 hf.1 (hnb b hf) λe' hee he'=>by
   obtain⟨z,hz,ho⟩:=(hon e' hee he').1;exact hf.2.1 e' z hz ho
 have hnewb:∀b,w.heap.size<=b->b<w'.heap.size->b≠nb->Fix (σ.apd e cons y) { g with ψ:=upd g.ψ e (upd (g.ψ e) y.gen v'),φ:=upd g.φ e fp' } w' b:=λb h1 h2 h3=>by
  refine⟨λk hk hkb=>by have:=hR.lt hk;simp only at hkb;omega,λe' z he' ho' hh=>?_,h2,(hR.anew b (hn0.new h1)).1⟩;by_cases hee:e'=e
  ·subst hee;simp only[zaf]at hh;exact h3 (hhead b hh)
  ·simp only[zan _ _ hee]at hh;have:=hltO e' (hon e' hee ⟨z,he',ho'⟩).1 b (List.mem_of_mem_head? hh);omega
 have hb1:∀b,Fix σ g w b->w'.heap[b]?=w.heap[b]?:=λb hf=>hsame b hf.2.2.1 (hnb b hf)
 have hψ:∀e' n,σ.has e' n->(upd g.ψ e (upd (g.ψ e) y.gen v')) e' n=g.ψ e' n:=λe' n he'=>by
  by_cases hee:e'=e
  ·subst hee;have:=hst n he';rw[zaf];by_cases hn:n=y.gen
   ·rw[this.2 hn,hn,zaf]
   ·rw[zan _ _ hn]
  ·rw[zan _ _ hee]
 have hfr:∀b,zch σ g w b->∀e',(σ.apd e cons y).On e'->b∉upd g.φ e fp' e':=λb hf e' he' hm=>by
  by_cases hee:e'=e
  ·subst hee;rw[zaf]at hm;rcases hfp b hm with h|h|h
   ·exact hnb b hf.1 h
   ·obtain⟨e2,h1,h2⟩:=ht.mem b (Or.inr h);exact hf.2 e2 h1 h2
   ·obtain⟨p,hp,h2⟩:=hf2 b h;exact hf.2 p.1 (hcO p hp) h2
  ·rw[zan _ _ hee]at hm;exact hf.2 e' (hon e' hee he').1 hm
 have m:Mv σ (σ.apd e cons y) g { g with ψ:=upd g.ψ e (upd (g.ψ e) y.gen v'),φ:=upd g.φ e fp' } w w':=by
  refine⟨hb1,hb2,λb hb=>⟨rfl,hb⟩,λe' n he'=>⟨?_,hψ e' n he'⟩,hfr⟩;by_cases hee:e'=e
  ·subst hee;exact⟨y,hyE,(hst n he').1⟩
  ·obtain⟨z,hz,hn⟩:=he';obtain⟨q,h1,h2⟩:=zl6 (l:=cons) e' z (λp hp=>(hc p hp).1) hz;exact⟨q,by simp only[St.apd,zan _ _ hee];exact h1,Y0⟩
 have hread:∀e2 x2,(e2,x2)∈cons->zau w' (Fix (σ.apd e cons y) { g with ψ:=upd g.ψ e (upd (g.ψ e) y.gen v'),φ:=upd g.φ e fp' } w') (.sl x2.sz x2.rows) (g.ψ e2 x2.gen)/\Hd0 (g.ψ e2 x2.gen):=λe2 x2 hcc=>by
  obtain⟨he2,ho2,hne⟩:=hc _ hcc;have hl2:σ.On e2:=hcO _ hcc;obtain⟨ao,cap,vs2,k1,k2,k3,k4,k5,k6,k7⟩:=hR.vals he2 ho2;rcases k7 with⟨rfl,_,j3,_⟩|⟨b,cells,ty,fps',rfl,j2,j3,j4,j5,_,_⟩
  ·refine⟨?_,λb o s n c hh=>by simp only at k1;rw[k1]at hh;cases hh⟩;unfold zau;exact⟨none,cap,k1,k2,k3,Or.inl j3⟩
  ·have hbm:b∈g.φ e2:=by simp only at j2;rw[j2];simp
   have hbl:b<w.heap.size:=hltO e2 hl2 b hbm;have hF:Fix (σ.apd e cons y) { g with ψ:=upd g.ψ e (upd (g.ψ e) y.gen v'),φ:=upd g.φ e fp' } w' b:=hfix b hbl (hR.ebase e2 hl2 b hbm).1 (λk hk hkb=>hR.ebx e2 k hl2 hk (hkb▸hbm)) (λhbb=>hevb e2 hne hl2 (hbb▸hbm)) λe' hee he' hh=>by
    obtain⟨q1,q2⟩:=hon e' hee he';exact hR.apart e2 e' hl2 q1 (q2 _ hcc) b hbm (List.mem_of_mem_head? hh)
   have hsb:w'.heap[b]?=w.heap[b]?:=hsame b hbl λhbb=>hevb e2 hne hl2 (hbb▸hbm);have hrows:zax w' (Fix (σ.apd e cons y) { g with ψ:=upd g.ψ e (upd (g.ψ e) y.gen v'),φ:=upd g.φ e fp' } w') b 0 x2.sz x2.rows:=by
    refine zax.of_vals (vs:=vs2) k4 (zag.keep hb1 hb2 _ _ k6) λj u hu=>?_;rw[<-j5,List.getElem?_take]at hu;split at hu
    ·simpa[World.cell?,hsb,j3]using hu
    ·cases hu
   refine⟨?_,λb' o s n c hh=>?_⟩
   ·unfold zau;exact⟨_,cap,k1,k2,k3,Or.inr ⟨b,0,rfl,hF,hrows⟩⟩
   ·simp only at k1;rw[k1]at hh;injection hh with hh _ _
    simp only[Qe,Addr.mk.injEq]at hh;exact⟨hh.2.1.symm,hh.2.2.symm⟩
 have hnn:¬n0 nb:=by
  rcases hnb0 with hh|hh
  ·exact(ht.bx nb (Or.inl hh)).2.1.2.2
  ·exact hn0.new hh
 have hfpP:∀b∈fp',(g.A0 b/\g.R0 b)/\(∀e',e'≠e->(σ.apd e cons y).On e'->b∉g.φ e')/\∀k,σ.bx k≠none->g.β k≠b:=λb hb=>by
  have old:(some b=top\/b∈fps)->(g.A0 b/\g.R0 b)/\(∀e',e'≠e->(σ.apd e cons y).On e'->b∉g.φ e')/\∀k,σ.bx k≠none->g.β k≠b:=λhb=>by
   obtain⟨q1,q2,q3,q4⟩:=ht.bx b hb;exact⟨⟨q2.1,q2.2.1⟩,λe' hee he'=>q4 e' hee (hon e' hee he').1,q1⟩
  rcases hfp b hb with rfl|hb|hb
  ·rcases hnb0 with hh|hh
   ·exact old (Or.inl hh)
   ·exact⟨hR.anew b (hn0.new hh),λe' hee he' hm=>hevb e' hee (hon e' hee he').1 hm,λk hk=>hbxb k hk⟩
  ·exact old (Or.inr hb)
  ·obtain⟨p,hcc,hm⟩:=hf2 b hb;have hl2:=hcO p hcc
   exact⟨hR.ebase p.1 hl2 b hm,λe' hee he' hm2=>by
    obtain⟨q1,q2⟩:=hon e' hee he'
    exact hR.apart p.1 e' hl2 q1 (q2 p hcc) b hm hm2,λk hk hkb=>hR.ebx p.1 k hl2 hk (hkb▸hm)⟩
 have hfpN:∀b∈fp',¬n0 b:=λb hb=>by
  rcases hfp b hb with rfl|hb|hb
  ·exact hnn
  ·exact(ht.bx b (Or.inr hb)).2.1.2.2
  ·obtain⟨p,hcc,hm⟩:=hf2 b hb;exact hR.etop p.1 (hcO p hcc) b hm
 refine⟨hR.defers,hR.size,hR.anew,λi=>m.vr (hR.slots i),λb cs hb=>?_,hR.base,hR.inj,λe' z he ho=>?_,λe' z he ho=>?_,λe' n=>?_,λe' he b hb=>?_,λe' he b hb=>?_,λe' he=>?_,λe1 e2 h1 h2 hne b k1 k2=>?_,λe' k he hk hm=>?_⟩
 ·have hb':σ.bx b=some cs:=hb;obtain⟨vs,ty,k1,k2⟩:=hR.boxes b cs hb'
  exact⟨vs,ty,by
   show w'.heap[g.β b]?=_
   rw[hsame _ (hR.lt (by rw[hb'];simp)) (hbxb b (by rw[hb'];simp))];exact k1,m.crs k2⟩
 ·by_cases hee:e'=e
  ·subst hee;rw[hyE,Qe]at he;subst he;simp only[zaf];exact hEv _ hb2 hnewb
  ·simp only[zan _ _ hee];have h1:=(hlive e' z hee he ho).1;have hO:σ.On e':=⟨z,h1,ho⟩;exact m.evr (hR.evs e' z h1 ho) λb hb=>hsame b (hltO e' hO b hb) λhbb=>hevb e' hee hO (hbb▸hb)
 ·by_cases hee:e'=e
  ·subst hee;rw[hyE,Qe]at he;subst he;rw[hy]at ho;cases ho
  ·simp only[zan _ _ hee];rcases hev e' z hee he with⟨h1,_⟩|⟨q,hq,rfl⟩
   ·exact⟨m.rep (hR.offs e' z h1 ho).1,(hR.offs e' z h1 ho).2⟩
   ·exact hread e' q hq
 ·by_cases hee:e'=e
  ·subst hee;simp only[zaf];by_cases hg:n=y.gen
   ·subst hg;obtain⟨ao,cap,k1,_⟩:=hEv (λ_=>True) (λ_ _=>trivial) λ_ _ _ _=>trivial;exact⟨ao,_,cap,by rw[zaf];exact k1⟩
   ·rw[zan _ _ hg];exact hR.slc e' n
  ·simp only[zan _ _ hee];exact hR.slc e' n
 ·by_cases hee:e'=e
  ·subst hee;simp only[zaf]at hb;exact(hfpP b hb).1
  ·simp only[zan _ _ hee]at hb;exact hR.ebase e' (hon e' hee he).1 b hb
 ·by_cases hee:e'=e
  ·subst hee;simp only[zaf]at hb;exact hfpN b hb
  ·simp only[zan _ _ hee]at hb;exact hR.etop e' (hon e' hee he).1 b hb
 ·by_cases hee:e'=e
  ·subst hee;simp only[zaf];exact hn'
  ·simp only[zan _ _ hee];exact hR.nodup e' (hon e' hee he).1
 ·by_cases he1:e1=e<;>by_cases he2:e2=e
  ·exact hne (he1.trans he2.symm)
  ·subst he1;simp only[zaf,zan _ _ he2]at k1 k2;exact(hfpP b k1).2.1 e2 he2 h2 k2
  ·subst he2;simp only[zaf,zan _ _ he1]at k1 k2;exact(hfpP b k2).2.1 e1 he1 h1 k1
  ·simp only[zan _ _ he1,zan _ _ he2]at k1 k2;exact hR.apart e1 e2 (hon e1 he1 h1).1 (hon e2 he2 h2).1 hne b k1 k2
 ·by_cases hee:e'=e
  ·subst hee;simp only[zaf]at hm;exact(hfpP _ hm).2.2 k hk rfl
  ·simp only[zan _ _ hee]at hm;exact hR.ebx e' k (hon e' hee he).1 hk hm
def XS (P:Program)(f:FuncId)(args:List D)(sz:Nat)(Pr:List (List T)->Prop):Prop:=zbl P f/\∀(w:World)(vs:List Value)(A:Nat->Prop),zbn w (λb=>b<w.heap.size/\A b) args vs →
 Calls P f ⟨vs⟩ w λe w'=>∃rows u fp,Pr rows/\e=.returned (zc4 [u])/\EvR w' (λb=>(b<w'.heap.size/\b∉fp)/\(A b\/w.heap.size<=b)) ⟨false,sz,rows,0,true⟩ u fp/\(∀b∈fp,w.heap.size<=b/\b<w'.heap.size)/\Below w.heap.size w w'
def RX (P:Program)(f:FuncId)(args:List D)(K:List D->Prop):Prop:=zbl P f/\∀(w:World)(vs:List Value)(A:Nat->Prop),zbn w (λb=>b<w.heap.size/\A b) args vs →
 Calls P f ⟨vs⟩ w λe w'=>∃res us,K res/\e=.returned (zc4 us)/\zbn w' (λb=>b<w'.heap.size/\(A b\/w.heap.size<=b)) res us/\Below w.heap.size w w'
theorem RX.mono {f:FuncId}{args:List D}{K K':List D->Prop}(h:RX P f args K)(hk:∀r,K r->K' r):RX P f args K':=⟨h.1,λw vs A hv=>(h.2 w vs A hv).mono λ_ _ ⟨res,us,h0,h1,h2,h3⟩=>⟨res,us,hk _ h0,h1,h2,h3⟩⟩
theorem qga {f:FuncId}{fn:Func}{c:Code}{args:List D}{Q:Exit->St->Prop}(hf:P.funcs[f]?=some fn)(hb:fn.body=some c)(hN:(rd args).length<=fn.ntmps)(h:zci P fn.ntmps c (zd5 (rd args)) Q)
  {w:World} {vs:List Value} {A:Nat->Prop} (hv:zbn w (λb=>b<w.heap.size/\A b) args vs) {K:Ending->World->Prop}
  (hK:∀e σ' g' a' w',Q e σ'->Rel (λb=>b<w.heap.size/\b∉([]:List Nat)) fn.ntmps σ' g' a' w'->Below w.heap.size w w'->(∀b,g'.A0 b->A b\/w.heap.size<=b)->(e=.normal\/e=.ret)/\∃v,(results fn a'.tmps).run P w'=.ok v w'/\K (.returned v) w'):Calls P f ⟨vs⟩ w K:=by
 refine calls_of_wp hf hb ?_
 have hg:∀(ds:List D) (vs:List Value),zbn w (λb=>b<w.heap.size/\A b) ds vs->za5 w (λb=>b<w.heap.size/\A b/\b∉([]:List Nat)) (rd ds) vs [] []:=by
  intro ds;induction ds with
  | nil=>intro vs h;exact⟨h,rfl,rfl⟩
  | cons d ds ih =>
   rintro vs ⟨v,vs',rfl,h1,h2⟩;refine⟨v,vs',rfl,?_,ih _ h2⟩;cases d with
   | one t=>exact zau.keep (λ_ _=>rfl) (λb hb=>⟨hb.1,hb.2,by simp⟩) t _ h1
   | agg ts=>obtain⟨a,h0,h1⟩:=h1;exact⟨a,h0,zag.keep (λ_ _=>rfl) (λb hb=>⟨hb.1,hb.2,by simp⟩) ts a h1⟩
 obtain⟨g,hg0,hR⟩:=Rel.start (A:=A) (A0:=λb=>A b\/w.heap.size<=b) (R0:=RP.of λ_=>True) (N:=fn.ntmps) (hg _ _ hv) Kr (zc7 args) hN (λ_ hb=>Or.inl hb) (λb hb=>by simp at hb) (λb hb=>⟨Or.inr (by
  refine Yl λhlt=>hb ⟨hlt,by simp⟩),trivial⟩)
 have hR0:=znb (hg _ _ hv) hR rfl (λb hb=>⟨⟨hb.1,hb.2.2⟩,by rw[(K7 hg0).1];exact Or.inl hb.2.1⟩)
 refine wp_mono (h _ w (g.A0,g.R0) g _ w hR0 (λk hk=>hk.1) (Bk.refl _ _) rfl) λe a' w' hq=>?_
 obtain⟨σ',g',h1,h2,h3,h4,h5⟩:=hq
 obtain⟨he,v,hv1,hv2⟩:=hK e σ' g' a' w' h1 h2 ⟨h4.os,h4.tape,h4.output,h4.size,λk hk=>h4.block k ⟨hk,by simp⟩⟩ λb hb=>by
  rw[(K7 h5).1,(K7 hg0).1]at hb;exact hb
 rcases he with rfl|rfl
 ·exact⟨h2.defers,v,hv1,hv2⟩
 ·exact⟨h2.defers,v,hv1,hv2⟩
def PXS (P:Program)(rs:List ResultVar)(sz:Nat)(Pr:List (List T)->Prop)(e:Exit)(σ:St):Prop:=(e=.normal\/e=.ret)/\∃rows,Pr rows/\zav (zb5 P σ rs) λvs=>∃i n,vs=[.one (.ow i n)]/\σ.ev i=some ⟨false,sz,rows,n,true⟩
theorem XS_of {f:FuncId}{fn:Func}{c:Code}{args:List D}{sz:Nat}{Pr:List (List T)->Prop}(hc:zbl P f)(hf:P.funcs[f]?=some fn)(hb:fn.body=some c)(hN:(rd args).length<=fn.ntmps)
  (h:zci P fn.ntmps c (zd5 (rd args)) (PXS P fn.results.toList sz Pr)):XS P f args sz Pr:=by
 refine⟨hc,λw vs A hv=>qga hf hb hN h hv λe σ' g' a' w' hq h2 h3 h4=>?_⟩
 obtain⟨he,rows,hk,hr⟩:=hq
 obtain⟨us0,hvs,i,n,rfl,hev⟩:=zap hr
 obtain⟨us,r1,r2⟩:=zcg h2 fn hvs
 obtain⟨u,us',rfl,r3,r4⟩:=r2
 have r4:us'=[]:=r4
 subst r4
 have hu:u=g'.ψ i n:=r3.1
 have hE:=h2.evs i _ hev rfl
 have hOn:σ'.On i:=⟨_,hev,rfl⟩
 refine⟨he,_,r1,rows,u,g'.φ i,hk,rfl,?_,λb hb=>⟨Yl λhlt=>h2.etop i hOn b hb ⟨hlt,by simp⟩,(h2.evs i _ hev rfl).lt b hb⟩,h3⟩
 rw[hu]
 obtain⟨ao,cap,q1,q2,q3,q4⟩:=hE
 refine⟨ao,cap,q1,q2,q3,?_⟩
 rcases q4 with q4|⟨b,cells,ty,fps,rfl,q6,q7,q8,q9⟩
 ·exact Or.inl q4
 ·refine Or.inr ⟨b,cells,ty,fps,rfl,q6,q7,q8,?_⟩;simp only[Qp,if_false]at q9⊢;refine⟨q9.1,zax.keep (λ_ _=>rfl) (λx hx=>⟨⟨hx.2.2.1,λhm=>?_⟩,h4 x hx.2.2.2⟩) _ rfl _ _ _ q9.2⟩;rw[q6,q9.1]at hm;have hxb:x=b:=by simpa using hm
  exact hx.2.1 i _ hev rfl (by rw[q6,hxb];rfl)
def St.nsl (σ:St)(d sz:Nat)(rows:List (List T)):St:=(σ.apd (d*32) [] ⟨false,sz,rows,0,true⟩).put (some d) (.one (.ow (d*32) 0))
theorem qat {o:Oper}{σ:St}{x:Operand}{asx:Array Operand}{ts:Array TypeId}{f:FuncId}{cvs:List V}{ds:List D}{d sz:Nat}{Pr:List (List T)->Prop}(ho:o.op=.call ⟨.value x,asx,ts⟩)(hd:o.dst=some d)
  (h:XS P f ds sz Pr) (hc:za0 (σ.get P 0 x)=some (f,cvs)) (hv:zlf σ (σ.gets P asx ts++cvs) ds) (he:σ.ev (d*32)=none):zce P o σ λσ'=>∃rows,Pr rows/\σ'=σ.nsl d sz rows:=by
 intro n0 N g a w hR hn hdN
 obtain⟨vs,h1,h2⟩:=zdw hR ho hc h.1
 unfold Oper.wp
 rw[h1]
 have hargs:=(zlf.rep hv h2).keep (A':=λb=>b<w.heap.size/\Fix σ g w b) (λ_ _=>rfl) λb hb=>⟨hb.2.2.1,hb⟩
 refine(h.2 w vs (Fix σ g w) hargs).mono ?_
 rintro e w' ⟨rows,u,fp,hp,rfl,o1,o2,hb⟩
 obtain⟨ao,cap,q1,q2,q3,q4⟩:=o1
 have hfp1:∀b∈fp,fp=[b]:=λb hb=>by
  rcases q4 with⟨_,_,_,q4⟩|⟨b',cells,ty,fps,_,q6,_,_,q9⟩
  ·rw[q4]at hb;simp at hb
  ·simp only[Qp,if_false]at q9;rw[q6,q9.1]at hb⊢;simp only[Qu,K2,or_false]at hb;rw[hb]
 have hnb:w.heap.size<=fp.head?.getD w.heap.size:=by
  cases fp with
  | nil=>exact Qz _
  | cons b l=>exact(o2 b (by simp)).1
 have hfin:=hR.apd_fin2 (x:=⟨true,sz,[],0,true⟩) (y:=⟨false,sz,rows,0,true⟩) (v':=u) (w':=w') (cons:=[]) (fps2:=[]) (fp':=fp) (Tgt.nil (d*32) sz) rfl (λn hn=>absurd (zlp he n hn) Y0) (by simp) (by simp) (fp.head?.getD w.heap.size) (Or.inr hnb) (λk hk _=>hb.block k hk) hb.size hn
  (by
   cases fp with
   | nil=>exact Kr
   | cons b l=>rw[hfp1 b (by simp)];simp) (λb hb=>Or.inl (by rw[hfp1 b hb];rfl)) (λb hb=>by rw[hb];rfl) (λA' hA hA2=>by
   refine⟨ao,cap,q1,q2,q3,q4.imp id ?_⟩;rintro⟨b,cells,ty,fps,r1,r2,r3,r4,r5⟩;refine⟨b,cells,ty,fps,r1,r2,r3,r4,?_⟩;simp only[Qp,if_false]at r5⊢;refine⟨r5.1,zax.keep (λ_ _=>rfl) (λy hy=>?_) _ rfl _ _ _ r5.2⟩;rcases hy.2 with hf|hf
   ·exact hA y hf
   ·exact hA2 y hf hy.1.1 λhyn=>hy.1.2 (by
     rw[r2]at hyn⊢
     rw[hyn];simp))
 have hp2:=hfin.put (some d) (x:=.one (.ow (d*32) 0)) (v:=u) ⟨by simp[zaf],⟨false,sz,rows,0,true⟩,by simp[St.apd,zaf],Qz _⟩ (λi hi=>by cases hi;exact hdN d hd)
 rw[<-hd]at hp2
 have e1:σ.nsl d sz rows=(σ.apd (d*32) [] ⟨false,sz,rows,0,true⟩).put o.dst (.one (.ow (d*32) 0)):=by rw[hd];rfl
 rw[<-e1]at hp2
 exact⟨_,_,⟨rows,hp,rfl⟩,hp2,Bk.of_below hb hn,rfl,rfl⟩
theorem qax {o:Oper}{σ:St}{x:Operand}{asx:Array Operand}{ts:Array TypeId}{f:FuncId}{cvs:List V}{ds:List D}{K:List D->Prop}(ho:o.op=.call ⟨.value x,asx,ts⟩)
  (h:RX P f ds K) (hc:za0 (σ.get P 0 x)=some (f,cvs)) (hv:zlf σ (σ.gets P asx ts++cvs) ds):zce P o σ λσ'=>∃res,K res/\σ'=σ.callR o.dst res:=by
 intro n0 N g a w hR hn hdN
 obtain⟨vs,h1,h2⟩:=zdw hR ho hc h.1
 unfold Oper.wp
 rw[h1]
 have hargs:=(zlf.rep hv h2).keep (A':=λb=>b<w.heap.size/\Fix σ g w b) (λ_ _=>rfl) λb hb=>⟨hb.2.2.1,hb⟩
 refine(h.2 w vs (Fix σ g w) hargs).mono ?_
 rintro e w' ⟨res,us,hk,rfl,o1,hb⟩
 have hR':Rel n0 N σ g a w':=hR.after hn hb (New.refl σ g (w.heap.size<=·) w' hR.slc)
 refine⟨_,g,⟨res,hk,rfl⟩,?_,Bk.of_below hb hn,rfl,rfl⟩
 have hfix:∀b,(b<w'.heap.size/\(Fix σ g w b\/w.heap.size<=b))->Fix σ g w' b:=λb hb'=>by
  rcases hb'.2 with hf|hf
  ·exact⟨hf.1,hf.2.1,hb'.1,hf.2.2.2⟩
  ·refine⟨λk hk e=>by have:=hR.lt hk;omega,λe x hx ho hh=>?_,hb'.1,(hR.anew b (hn.new hf)).1⟩;have:=(hR.evs e x hx ho).lt b (List.mem_of_mem_head? hh);omega
 exact hR'.put o.dst (zfq (zbn.vrl (o1.keep (λ_ _=>rfl) hfix)) (λy hy=>by
  obtain⟨d,_,rfl⟩:=Ka.1 hy
  cases d<;>rfl)) hdN
section
variable {ks:List Fr}{Q:Exit->St->Prop}{σ:St}{ops:Array Oper}{os:List Oper}{ty:TypeId}{ps:String}{af:Array Edge}{x:Operand}{asx:Array Operand}{ts:Array TypeId}{f:FuncId}{ds:List D}
theorem zx7 {d:Option Nat}{K:List D->Prop}(h:RX P f ds K)(hp:zav (za0 (σ.get P 0 x)) λp=>p.1=f/\zlf σ (σ.gets P asx ts++p.2) ds)
  (k:∀res,K res->exo P ops os ks Q (σ.callR d res)):exo P ops (⟨d,.call ⟨.value x,asx,ts⟩,ty,ps,af,none⟩::os) ks Q σ:=by
 obtain⟨⟨f',cvs⟩,h1,rfl,h2⟩:=zap hp
 exact qox rfl rfl (zce.mono (λσ' ⟨res,hk,he⟩=>he▸k res hk) (qax (o:=⟨d,.call ⟨.value x,asx,ts⟩,ty,ps,af,none⟩) rfl h h1 h2))
end
end
section
open Go.RowKit
variable {P:Program}
def exk (P:Program)(K:List (List Ky×List Ky)->St->Prop):List Oper->List (List Ky×List Ky)->St->Prop
 | [],L,σ=>K L σ
 | o::os,L,σ=>o.guard=none/\ze6 P o σ λR W σ'=>exk P K os (L++[(R,W)]) σ'
theorem zfz {K:List (List Ky×List Ky)->St->Prop}:∀(os:List Oper)(L:List (List Ky×List Ky))(σ:St),exk P K os L σ->∃(L2:List (List Ky×List Ky))(τs:Nat->St),L2.length=os.length/\τs 0=σ ∧
  (∀j (h:j<os.length),os[j].guard=none/\zf1 P os[j] (L2.getD j ([],[])).1 (L2.getD j ([],[])).2 (τs j) (τs (j+1)))/\K (L++L2) (τs os.length)
 | [],L,σ,h=>⟨[],λ_=>σ,rfl,rfl,λj hj=>absurd hj (by simp),by rw[Ko];exact h⟩
 | o::os,L,σ,h=>by
  obtain⟨R,W,σ',h1,h2⟩:=zhm h.2;obtain⟨L2,τs,k1,k2,k3,k4⟩:=zfz os _ σ' h2;refine⟨(R,W)::L2,λj=>match j with|0=>σ|j+1=>τs j,by simp[k1],rfl,λj hj=>?_,by rw[Kd]at k4;exact k4⟩;cases j with
  | zero=>exact⟨h.1,by rw[<-k2]at h1;exact h1⟩
  | succ j=>exact k3 j (by simpa using hj)
theorem zmi {K:List (List Ky×List Ky)->St->Prop}{o:Oper}{os:List Oper}{L:List (List Ky×List Ky)}{σ σ':St}{R W:List Ky}(hg:o.guard=none)(hs:ztf o.op=true)(h:zf1 P o R W σ σ')(k:exk P K os (L++[(R,W)]) σ'):exk P K (o::os) L σ:=by
 refine⟨hg,?_⟩
 unfold ze6 znc
 rw[if_pos (by rw[hs];rfl)]
 exact⟨R,W,σ',h,k⟩
section
variable (K:List (List Ky×List Ky)->St->Prop)(σ:St)(os:List Oper)(L:List (List Ky×List Ky))(d:Option Nat)(ty:TypeId)(ps:String)(af:Array Edge)
theorem qvb:exk P K [] L σ=K L σ:=rfl
theorem zkr {o:Oper}(hg:o.guard=none)(hs:znc P o σ=false):exk P K (o::os) L σ=thn (st P o σ) (λσ'=>exk P K os (L++[(stR P o σ,stW P o σ)]) σ'):=by
 rw[exk]
 unfold ze6
 rw[if_neg (by rw[hs];simp)]
 simp only[hg,true_and]
 rfl
theorem qne (x:Operand):exk P K (⟨d,.move x,ty,ps,af,none⟩::os) L σ=exk P K os (L++[(zas [x],dK d)]) (σ.put d (σ.get P ty x)):=by
 rw[zkr _ _ _ _ rfl rfl]
 simp[st,st0,zm3,St.out,thn,stR,stW,qao,zyg,zo6]
theorem qas (x:Operand):exk P K (⟨d,.assign x,ty,ps,af,none⟩::os) L σ=exk P K os (L++[(zas [x],dK d)]) (σ.put d (σ.get P ty x)):=by
 rw[zkr _ _ _ _ rfl rfl]
 simp[st,st0,zm3,St.out,thn,stR,stW,qao,zyg,zo6]
theorem qo4 (t:TypeId)(x:Operand):exk P K (⟨d,.load t x,ty,ps,af,none⟩::os) L σ=thn (st P ⟨d,.load t x,ty,ps,af,none⟩ σ) (exk P K os (L++[(zas [x]++vK (σ.get P 0 x),dK d++[])])):=zkr _ _ _ _ rfl rfl
theorem zqe (t:TypeId)(x i:Operand):exk P K (⟨d,.indexAddr t x i,ty,ps,af,none⟩::os) L σ=thn (st P ⟨d,.indexAddr t x i,ty,ps,af,none⟩ σ) (exk P K os (L++[(zas [x,i]++vK (σ.get P t x),dK d++[])])):=zkr _ _ _ _ rfl rfl
theorem zry (t:TypeId)(x:Operand)(i:Nat):exk P K (⟨d,.fieldAddr t x i,ty,ps,af,none⟩::os) L σ=thn (st P ⟨d,.fieldAddr t x i,ty,ps,af,none⟩ σ) (exk P K os (L++[(zas [x]++[],dK d++[])])):=zkr _ _ _ _ rfl rfl
theorem exk_cg {P:Program}{K:List (List Ky×List Ky)->St->Prop}{os:List Oper}{L:List (List Ky×List Ky)}{σ σ':St}(h:σ=σ'){L':List (List Ky×List Ky)}(hL:L=L'):exk P K os L σ=exk P K os L' σ':=h▸hL▸rfl
end
section
variable {K:List (List Ky×List Ky)->St->Prop}{σ:St}{os:List Oper}{L:List (List Ky×List Ky)}{d:Nat}{t:TypeId}{ty:TypeId}{ps:String}{af:Array Edge}{len:Nat}{parts:Array (Nat×Operand)}{s y:Operand}
theorem kApOO {e e2 gn gn2 sz sz2:Nat}{dp dp2:Bool}{rows rows2:List (List T)}(h:σ.get P t s=.one (.ow e gn)/\σ.get P t y=.one (.ow e2 gn2)/\σ.ev e=some ⟨dp,sz,rows,gn,true⟩/\σ.ev e2=some ⟨dp2,sz2,rows2,gn2,true⟩/\e2≠e/\sz2=sz)(hT:apT P t sz)(hb:rows.length+rows2.length<=4294967296)
  (k:exk P K os (L++[(zas [s,y]++[(2,e),(2,e2)],dK (some d)++[(2,e),(2,e2)])]) ((σ.apd e [(e2,⟨dp2,sz2,rows2,gn2,true⟩)] ⟨dp&&dp2,sz,rows++rows2,gn+1,true⟩).put (some d) (.one (.ow e (gn+1))))):exk P K (⟨some d,.call ⟨.builtin .append,#[s,y],#[t,t]⟩,ty,ps,af,none⟩::os) L σ:=by
 refine zmi rfl rfl ?_ k
 rw[zc3]
 refine zf1.of (o:=⟨some d,_,ty,ps,af,none⟩) (R:=zas [s,y]++[(2,e),(2,e2)]) (l:=(e,_)::zrp [(e2,_)]) (zbf (zbh _) rfl) λσ1 h1=>?_
 rw[<-zc3]
 obtain⟨k1,k2,k3⟩:=qqe (P:=P) (t:=t) h1
 exact qgw ⟨k1.trans h.1,k2.trans h.2.1,(Eq.symm (k3 (2,e) (by simp))).trans h.2.2.1,(Eq.symm (k3 (2,e2) (by simp))).trans h.2.2.2.1,h.2.2.2.2⟩ hT hb
theorem kApOT {e gn sz:Nat}{dp:Bool}{rows rows2:List (List T)}(dp2:Bool)(h:σ.get P t s=.one (.ow e gn)/\(σ.get P t y).rd=.one (.t (.sl sz rows2))/\σ.ev e=some ⟨dp,sz,rows,gn,true⟩)(hf:dp2=true->∀c∈rows2.flatten,c.flat=true)(hT:apT P t sz)(hb:rows.length+rows2.length<=4294967296)
  (k:exk P K os (L++[(zas [s,y]++[(2,e)],dK (some d)++[(2,e)])]) ((σ.apd e [] ⟨dp&&dp2,sz,rows++rows2,gn+1,true⟩).put (some d) (.one (.ow e (gn+1))))):exk P K (⟨some d,.call ⟨.builtin .append,#[s,y],#[t,t]⟩,ty,ps,af,none⟩::os) L σ:=by
 refine zmi rfl rfl ?_ k
 rw[zc3]
 refine zf1.of (o:=⟨some d,_,ty,ps,af,none⟩) (R:=zas [s,y]++[(2,e)]) (l:=(e,_)::zrp []) (zbf (zbh _) rfl) λσ1 h1=>?_
 rw[<-zc3]
 obtain⟨k1,k2,k3⟩:=qqe (P:=P) (t:=t) h1
 exact qi5 dp2 ⟨k1.trans h.1,(congrArg V.rd k2).trans h.2.1,(Eq.symm (k3 (2,e) (by simp))).trans h.2.2⟩ hf hT hb
theorem kApNO {z e2 sz gn2:Nat}{dp2:Bool}{rows2:List (List T)}(h:σ.get P t s=.one (.nl z)/\σ.get P t y=.one (.ow e2 gn2)/\σ.ev (d*32)=none/\σ.ev e2=some ⟨dp2,sz,rows2,gn2,true⟩/\e2≠d*32)(hT:apT P t sz)(hb:rows2.length<=4294967296)
  (k:exk P K os (L++[(zas [s,y]++[(2,d*32),(2,e2)],dK (some d)++[(2,d*32),(2,e2)])]) ((σ.apd (d*32) [(e2,⟨dp2,sz,rows2,gn2,true⟩)] ⟨dp2,sz,rows2,0,true⟩).put (some d) (.one (.ow (d*32) 0)))):exk P K (⟨some d,.call ⟨.builtin .append,#[s,y],#[t,t]⟩,ty,ps,af,none⟩::os) L σ:=by
 refine zmi rfl rfl ?_ k
 rw[zc3]
 refine zf1.of (o:=⟨some d,_,ty,ps,af,none⟩) (R:=zas [s,y]++[(2,d*32),(2,e2)]) (l:=(d*32,_)::zrp [(e2,_)]) (zbf (zbh _) rfl) λσ1 h1=>?_
 rw[<-zc3]
 obtain⟨k1,k2,k3⟩:=qqe (P:=P) (t:=t) h1
 exact qde ⟨k1.trans h.1,k2.trans h.2.1,(Eq.symm (k3 (2,d*32) (by simp))).trans h.2.2.1,(Eq.symm (k3 (2,e2) (by simp))).trans h.2.2.2.1,h.2.2.2.2⟩ hT hb
theorem kApNT {z sz:Nat}{rows2:List (List T)}(dp2:Bool)(h:σ.get P t s=.one (.nl z)/\(σ.get P t y).rd=.one (.t (.sl sz rows2))/\σ.ev (d*32)=none)(hf:dp2=true->∀c∈rows2.flatten,c.flat=true)(hT:apT P t sz)(hb:rows2.length<=4294967296)
  (k:exk P K os (L++[(zas [s,y]++[(2,d*32)],dK (some d)++[(2,d*32)])]) ((σ.apd (d*32) [] ⟨dp2,sz,rows2,0,true⟩).put (some d) (.one (.ow (d*32) 0)))):exk P K (⟨some d,.call ⟨.builtin .append,#[s,y],#[t,t]⟩,ty,ps,af,none⟩::os) L σ:=by
 refine zmi rfl rfl ?_ k
 rw[zc3]
 refine zf1.of (o:=⟨some d,_,ty,ps,af,none⟩) (R:=zas [s,y]++[(2,d*32)]) (l:=(d*32,_)::zrp []) (zbf (zbh _) rfl) λσ1 h1=>?_
 rw[<-zc3]
 obtain⟨k1,k2,k3⟩:=qqe (P:=P) (t:=t) h1
 exact qgz dp2 ⟨k1.trans h.1,(congrArg V.rd k2).trans h.2.1,(Eq.symm (k3 (2,d*32) (by simp))).trans h.2.2⟩ hf hT hb
theorem kApD (dp2:Bool)(h:zav (apV P σ d t s y dp2) λr=>r.1)(k:exk P K os (L++[(zas [s,y]++apKs (apV P σ d t s y dp2),dK (some d)++apKs (apV P σ d t s y dp2))]) (σ.apV d (apV P σ d t s y dp2))) :
  exk P K (⟨some d,.call ⟨.builtin .append,#[s,y],#[t,t]⟩,ty,ps,af,none⟩::os) L σ:=by
 obtain⟨⟨p,e,x,cons⟩,h1,h2⟩:=zap h
 rw[h1]at k
 unfold Go.Proofs.YtnemmlahbbbobaaGreat.apV at h1
 split at h1
 ·rename_i e0 gn e2 gn2 hs hy;obtain⟨x0,k1,h3⟩:=Qf.1 h1;obtain⟨z,k2,h4⟩:=Qf.1 h3;clear h1 h3;by_cases hc:x0.gen=gn/\x0.on=true/\z.gen=gn2/\z.on=true/\z.sz=x0.sz/\e2≠e0
  ·rw[if_pos hc]at h4;obtain⟨rfl,c2,rfl,c4,c5,c6⟩:=hc;simp only[Qe,Qt]at h4;obtain⟨rfl,rfl,rfl,rfl⟩:=h4;obtain⟨dp,sz,rows,gn,on⟩:=x0;obtain⟨dp2,sz2,rows2,gn2,on2⟩:=z;simp only at c2 c4 c5;subst c2 c4 c5;exact kApOO ⟨hs,qak hy,k1,k2,c6,rfl⟩ h2.1 h2.2 k
  ·rw[if_neg hc]at h4;cases h4
 ·rename_i e0 gn sz rows2 hs hy;obtain⟨x0,k1,h4⟩:=Qf.1 h1;clear h1;by_cases hc:x0.gen=gn/\x0.on=true/\sz=x0.sz
  ·rw[if_pos hc]at h4;obtain⟨rfl,c2,rfl⟩:=hc;simp only[Qe,Qt]at h4;obtain⟨rfl,rfl,rfl,rfl⟩:=h4;obtain⟨dp,sz,rows,gn,on⟩:=x0;simp only at c2;subst c2;exact kApOT dp2 ⟨hs,hy,k1⟩ (λhd=>zij (h2.2.2 hd)) h2.1 h2.2.1 k
  ·rw[if_neg hc]at h4;cases h4
 ·rename_i z0 e2 gn2 hs hy;obtain⟨z,k2,h4⟩:=Qf.1 h1;clear h1;by_cases hc:z.gen=gn2/\z.on=true/\e2≠d*32
  ·rw[if_pos hc]at h4;obtain⟨rfl,c2,c3⟩:=hc;simp only[Qe,Qt]at h4;obtain⟨rfl,rfl,rfl,rfl⟩:=h4;obtain⟨dp2,sz2,rows2,gn2,on2⟩:=z;simp only at c2;subst c2;exact kApNO ⟨hs,qak hy,h2.2.2,k2,c3⟩ h2.1 h2.2.1 k
  ·rw[if_neg hc]at h4;cases h4
 ·rename_i z0 sz rows2 hs hy;simp only[Qe,Qt]at h1;obtain⟨rfl,rfl,rfl,rfl⟩:=h1;exact kApNT dp2 ⟨hs,hy,h2.2.2.2⟩ (λhd=>zij (h2.2.2.1 hd)) h2.1 h2.2.1 k
 ·cases h1
theorem qhd (h:zav (blS P σ t len parts) λ_=>σ.ev (d*32)=none)
  (k:exk P K os (L++[(zas (parts.toList.map (·.2))++(rK (qiu (zlb P (σ.get P) t len parts))++[(2,d*32)]),dK (some d)++eK [])]) (σ.put (some d) (.one (.t (slOf (blS P σ t len parts)))))) :
  exk P K (⟨some d,.buildSlice t len parts,ty,ps,af,none⟩::os) L σ:=by
 obtain⟨⟨x,cons⟩,h1,h2⟩:=zap h
 rw[h1]at k
 unfold blS at h1
 obtain⟨p,e1,h1⟩:=Qf.1 h1
 obtain⟨q,e2,h1⟩:=Q5.1 h1
 simp only[Qt]at h1
 obtain⟨rfl,rfl⟩:=h1
 rw[e1]at k
 refine zmi rfl rfl ?_ k
 have:=zf1.of (P:=P) (σ:=σ) (o:=⟨some d,.buildSlice t len parts,ty,ps,af,none⟩) (l:=[]) (v:=.one (.t (.sl p.1 q))) (R:=zas (parts.toList.map (·.2))++(rK p.2++[(2,d*32)])) (zbf (zbh _) (zbf (zv0 _) rfl)) λσ1 h1=>?_
 ·exact this
 ·have e3:zlb P (σ1.get P) t len parts=zlb P (σ.get P) t len parts:=zlx λt x hx=>zca (λk hk=>h1 k (by simp[hk])) hx t;have e4:zta σ1 p.2=zta σ p.2:=zlv λk hk=>h1 k (by simp[hk]);exact zre ⟨e3.trans e1,e4.trans e2,(Eq.symm (h1 (2,d*32) (by simp))).trans h2⟩
end
section
variable {K:List (List Ky×List Ky)->St->Prop}{σ:St}{os:List Oper}{L:List (List Ky×List Ky)}{ty:TypeId}{ps:String}{af:Array Edge}{x:Operand}{asx:Array Operand}{ts:Array TypeId}{f:FuncId}{ds res:List D}
theorem qhf {d:Option Nat}(e:Nat)(h:RC P f ds res)(hp:zav (σ.ev e) λy=>zav (za0 (σ.get P 0 x)) λp=>p.1=f/\zq5 σ e y (σ.gets P asx ts++p.2) ds)
  (k:zav (σ.ev e) λy=>exk P K os (L++[(zas (x::asx.toList)++[(2,e)],dK d++eK [(e,y.off)])]) ((σ.upE [(e,y.off)]).callR d res)) :
  exk P K (⟨d,.call ⟨.value x,asx,ts⟩,ty,ps,af,none⟩::os) L σ:=by
 obtain⟨y,hy,hp⟩:=zap hp
 obtain⟨y',hy',k⟩:=zap k
 rw[hy]at hy'
 cases hy'
 obtain⟨⟨f',cvs⟩,h1,rfl,h2⟩:=zap hp
 refine zmi rfl rfl ?_ k
 have:=zf1.of (P:=P) (σ:=σ) (o:=⟨d,.call ⟨.value x,asx,ts⟩,ty,ps,af,none⟩) (l:=[(e,y.off)]) (v:=zn7 (res.map D.toV)) (R:=zas (x::asx.toList)++[(2,e)]) (zbf (zbh _) rfl) λσ1 h3=>?_
 ·exact this
 ·have e1:σ1.get P 0 x=σ.get P 0 x:=zca (l:=x::asx.toList) (λk hk=>h3 k (by simp[hk])) (by simp) 0;have e2:σ1.gets P asx ts=σ.gets P asx ts:=zje ts λk hk=>h3 k (Qw.2 (Or.inl (zcn hk)));have e3:σ1.ev e=some y:=(Eq.symm (h3 (2,e) (by simp))).trans hy;have hv:zq5 σ1 e y (σ1.gets P asx ts++cvs) ds:=by rw[e2];exact zq5.loc h2
  exact zot e3 rfl h (by rw[e1];exact h1) hv
end
def piL (pl:List Nat)(m:Nat):Nat:=pl.getD m m
def qre (pl:List Nat)(i:Nat):Nat:=pl.idxOf i
def zzf (pl:List Nat)(n:Nat):Bool:=pl.length==n&&(List.range n).all λm=>decide (piL pl m<n)&&qre pl (piL pl m)==m&&decide (qre pl m<n)&&piL pl (qre pl m)==m
theorem PermP.of {pl:List Nat}{n:Nat}(h:zzf pl n=true):PermP n (piL pl) (qre pl):=by
 unfold zzf at h
 simp only[Qb,Qq,Jn,Q2,Q9]at h
 obtain⟨h1,h2⟩:=h
 refine⟨λm hm=>⟨(h2 m hm).1.1.1,(h2 m hm).1.1.2⟩,λi hi=>⟨(h2 i hi).1.2,(h2 i hi).2⟩,λm hm=>?_⟩
 unfold piL
 rw[List.getD_eq_getElem?_getD,List.getElem?_eq_none Y0]
 rfl
def xsK (P:Program)(ops:Array Oper)(pl:List Nat)(ks:List Fr)(Q:Exit->St->Prop)(o:Oper)(post:List Oper)(L:List (List Ky×List Ky))(σ1:St):Prop :=
 ∃(X:Type) (R W:List Ky) (Pr:X->Prop) (τ:X->St),o.guard=none/\okK R=true/\(∀σ2,(∀k∈R,za8 σ1 σ2 k)->zce P o σ2 (λσ'=>∃x,Pr x/\qti R W σ1 (τ x)/\σ'=zny σ2 W (τ x)))/\zkp ops (piL pl) (qre pl) (L++[(R,[])])=true ∧
  ∀x,Pr x->exk P (λL σ=>zkp ops (piL pl) (qre pl) L=true/\rt P .normal ks Q σ) post (L++[(R,W)]) (τ x)
def opL (ops:Array Oper)(l:List Nat):List Oper:=l.map λi=>ops.toList.getD i default
theorem qd9 {ops:Array Oper}{l:List Nat}{j:Nat}(h:j<(opL ops l).length):(opL ops l)[j]=ops.toList.getD (l.getD j 0) default:=by
 unfold opL at h⊢
 rw[Qa]at h
 rw[Ym,List.getD_eq_getElem?_getD (l:=l),List.getElem?_eq_getElem h]
 rfl
theorem ziz {ops:Array Oper}{i:Nat}(h:i<ops.size):ops.toList.getD i default=ops[i]:=by
 rw[List.getD_eq_getElem?_getD,List.getElem?_eq_getElem (by simpa using h)]
 simp
theorem qq8 (pl1:List Nat)(m:Nat)(pl2:List Nat){id:Nat}{ops:Array Oper}{ks:List Fr}{Q:Exit->St->Prop}{σ:St}(hmx:P.follows .mixedOrders=true)(hpo:zzf (pl1++m::pl2) ops.size=true)(hbh:zru ops (piL (pl1++m::pl2)) pl1.length=true)
  (h:exk P (xsK P ops (pl1++m::pl2) ks Q (ops.toList.getD m default) (opL ops pl2)) (opL ops pl1) [] σ):ex P (.region id ops true) ks Q σ:=by
 show zef P id ops σ _
 intro n0 N g a w hR hn hd
 have hp:=PermP.of hpo
 have hlen:(pl1++m::pl2).length=ops.size:=by
  unfold zzf at hpo;rw[Qb]at hpo;simpa using hpo.1
 have hlen':pl1.length+(pl2.length+1)=ops.size:=by simpa using hlen
 obtain⟨L,σs,k1,k2,k3,X,R,W,Pr,τ,x1,x2,x3,x4,x5⟩:=zfz _ _ _ h
 have hl1:(opL ops pl1).length=pl1.length:=by simp[opL]
 have hl2:(opL ops pl2).length=pl2.length:=by simp[opL]
 rw[hl1]at k1
 rw[K5]at x4 x5
 have hat1:∀j,j<pl1.length->piL (pl1++m::pl2) j=pl1.getD j 0:=λj hj=>by
  unfold piL;simp only[List.getD_eq_getElem?_getD];rw[List.getElem?_append_left hj,List.getElem?_eq_getElem hj];rfl
 have hatm:piL (pl1++m::pl2) pl1.length=m:=by
  unfold piL;simp only[List.getD_eq_getElem?_getD];rw[List.getElem?_append_right Y0,Ys];rfl
 have hat2:∀j,j<pl2.length->piL (pl1++m::pl2) (j+pl1.length+1)=pl2.getD j 0:=λj hj=>by
  unfold piL;simp only[List.getD_eq_getElem?_getD];rw[List.getElem?_append_right Y0,show j+pl1.length+1-pl1.length=j+1 by omega,List.getElem?_cons_succ,List.getElem?_eq_getElem hj];rfl
 have hop1:∀j (hj:j<pl1.length),(opL ops pl1)[j]'Y0=ops[piL (pl1++m::pl2) j]'(hp.to j Y0).1:=λj hj=>by
  rw[qd9,<-hat1 j hj,ziz (hp.to j Y0).1]
 have hop2:∀j (hj:j<pl2.length),(opL ops pl2)[j]'Y0=ops[piL (pl1++m::pl2) (j+pl1.length+1)]'(hp.to _ Y0).1:=λj hj=>by
  rw[qd9,<-hat2 j hj,ziz (hp.to _ Y0).1]
 have hopm:ops.toList.getD m default=ops[piL (pl1++m::pl2) pl1.length]'(hp.to _ Y0).1:=by
  have:=ziz (hp.to pl1.length Y0).1;rw[<-this,hatm]
 refine wp_region_any hmx ?_
 have hb:Below w.heap.size w { w with drawn:=w.drawn+1 }:=⟨rfl,rfl,rfl,Qz _,λ_ _=>rfl⟩
 have hR':Rel n0 N (σs 0) g a { w with drawn:=w.drawn+1 }:=by
  rw[k2];exact hR.after hn hb (New.refl σ g (w.heap.size<=·) _ hR.slc)
 have hpf:∀i,(Array.replicate ops.size false).getD i false=false:=λi=>by
  simp only[Array.getD_eq_getD_getElem?,Array.getElem?_replicate];split<;>rfl
 have hF:Fp σs (λi=>L.getD i ([],[])) (λi=>(Array.replicate ops.size false).getD (piL (pl1++m::pl2) i) false) pl1.length=σs 0:=by
  have:∀m',Fp σs (λi=>L.getD i ([],[])) (λi=>(Array.replicate ops.size false).getD (piL (pl1++m::pl2) i) false) m'=σs 0:=by
   intro m';induction m' with
   | zero=>rfl
   | succ m' ih=>unfold Fp;rw[hpf,if_neg (by simp)];exact ih
  exact this _
 have hcnt:cnt (λi=>(Array.replicate ops.size false).getD (piL (pl1++m::pl2) i) false) ops.size=ops.size:=by
  have:∀m',cnt (λi=>(Array.replicate ops.size false).getD (piL (pl1++m::pl2) i) false) m'=m':=by
   intro m';induction m' with
   | zero=>rfl
   | succ m' ih=>unfold cnt;rw[hpf,if_neg (by simp),ih];omega
  exact this _
 refine qa9 (P:=P) (X:=X) (Pr:=Pr) (τ:=τ) (σs:=σs) (L:=L) (R:=R) (W:=W) (m0:=pl1.length) (w0:=w) (A0:=(g.A0,g.R0)) (K:=qc9 P ks Q .normal) hp Y0 hbh k1 (λj hj=>?_) (λj hj σ1 h1=>?_) hd ?_ x2 (λσ1 h1=>?_) (λx hx=>?_) x4 (λσ' g' a' w' kk k1 k2 k3 k4=>⟨rfl,σ',g',kk,k1,k2,k3,(K7 k4).1,(K7 k4).2⟩) ops.size _ g a _ (by simp) hcnt (λj _=>hpf _) (λj h hl=>?_) (by rw[hF];exact hR') (hn.mono (Qz _)) (Bk.of_below hb hn) rfl
 ·obtain⟨_,q⟩:=k3 j Y0;exact⟨q.1,q.2.1,q.2.2.1⟩
 ·obtain⟨q0,q⟩:=k3 j Y0;have:=(q.loc (ops:=ops) q0).2.2.2 σ1 h1
  rwa [hop1 j hj]at this
 ·rw[<-hopm];exact x1
 ·have:=x3 σ1 (by rwa [hl1]);rw[hopm]at this;rw[hl1]at this;exact this
 ·obtain⟨L2,τs,y1,y2,y3,y4⟩:=zfz _ _ _ (x5 x hx);rw[hl2]at y1 y4;refine⟨L2,τs,y2,λj hj=>?_,λj hj σ1 h1=>?_,?_,?_⟩
  ·obtain⟨_,q⟩:=y3 j Y0;exact⟨q.1,q.2.1,q.2.2.1⟩
  ·obtain⟨q0,q⟩:=y3 j Y0;have:=(q.loc (ops:=ops) q0).2.2.2 σ1 h1
   rwa [hop2 j Y0]at this
  ·have:=y4.1
   rwa [Kd]at this
  ·have:=y4.2
   rwa [show ops.size-pl1.length-1=pl2.length by omega]
 ·rw[hpf]at hl;cases hl
section
variable {ks:List Fr}{Q:Exit->St->Prop}{σ:St}{ops:Array Oper}{pl:List Nat}{post:List Oper}{L:List (List Ky×List Ky)}{ty:TypeId}{ps:String}{af:Array Edge}{x:Operand}{asx:Array Operand}{ts:Array TypeId}{f:FuncId}{ds:List D}
theorem qjt {d sz:Nat}{Pr:List (List T)->Prop}(h:XS P f ds sz Pr)(hp:zav (za0 (σ.get P 0 x)) λp=>p.1=f/\zlf σ (σ.gets P asx ts++p.2) ds)(he:σ.ev (d*32)=none)
  (ho:zkp ops (piL pl) (qre pl) (L++[(zas (x::asx.toList)++[(2,d*32)],[])])=true)
  (k:∀rows,Pr rows->exk P (λL σ=>zkp ops (piL pl) (qre pl) L=true/\rt P .normal ks Q σ) post (L++[(zas (x::asx.toList)++[(2,d*32)],dK (some d)++eK [(d*32,⟨false,sz,rows,0,true⟩)])]) (σ.nsl d sz rows)) :
  xsK P ops pl ks Q ⟨some d,.call ⟨.value x,asx,ts⟩,ty,ps,af,none⟩ post L σ:=by
 obtain⟨⟨f',cvs⟩,h1,rfl,h2⟩:=zap hp
 have hW:∀rows σ,qti (zas (x::asx.toList)++[(2,d*32)]) (dK (some d)++[(2,d*32)]) σ (σ.nsl d sz rows)/\∀σ2:St,σ2.nsl d sz rows=zny σ2 (dK (some d)++[(2,d*32)]) (σ.nsl d sz rows):=λrows σ=>by
  refine⟨⟨rfl,zbf (zbh _) rfl,λk hk3 hk=>?_⟩,λσ2=>?_⟩
  ·simp only[dK,Js,Qu,K2,or_false,not_or]at hk;obtain⟨n,i⟩:=k
   match n,hk3 with
   | 0,_=>exact(zan σ.sl _ λhe=>hk.1 (Prod.ext rfl he)).symm
   | 1,_=>rfl
   | 2,_=>exact(zan σ.ev _ λhe=>hk.2 (Prod.ext rfl he)).symm
  ·refine za8.all3 λc i hc=>?_;by_cases hin:(c,i)∈dK (some d)++[(2,d*32)]
   ·refine za8.trans ?_ (ze7 rfl hin).symm;simp only[dK,Js,Qu,K2,or_false,Qt]at hin;rcases hin with⟨rfl,rfl⟩|⟨rfl,rfl⟩
    ·show upd _ _ _ _=upd _ _ _ _
     rw[zaf,zaf]
    ·show upd _ _ _ _=upd _ _ _ _
     rw[zaf,zaf]
   ·refine za8.trans ?_ (zb6 hc hin).symm;simp only[dK,Js,Qu,K2,or_false,Qt,not_or]at hin
    match c,hc with
    | 0,_=>exact zan σ2.sl _ λhe=>hin.1 ⟨rfl,he⟩
    | 1,_=>rfl
    | 2,_=>exact zan σ2.ev _ λhe=>hin.2 ⟨rfl,he⟩
 refine⟨List (List T),zas (x::asx.toList)++[(2,d*32)],dK (some d)++[(2,d*32)],Pr,λrows=>σ.nsl d sz rows,rfl,zbf (zbh _) rfl,λσ2 h3=>?_,ho,k⟩
 have e1:σ2.get P 0 x=σ.get P 0 x:=zca (l:=x::asx.toList) (λk hk=>h3 k (by simp[hk])) (by simp) 0
 have e2:σ2.gets P asx ts=σ.gets P asx ts:=zje ts λk hk=>h3 k (Qw.2 (Or.inl (zcn hk)))
 have e3:σ2.ev (d*32)=none:=(Eq.symm (h3 (2,d*32) (by simp))).trans he
 refine zce.mono (λσ' hh=>?_) (qat (P:=P) (o:=⟨some d,.call ⟨.value x,asx,ts⟩,ty,ps,af,none⟩) rfl rfl h (by rw[e1];exact h1) (by rw[e2];exact h2.loc) e3)
 obtain⟨rows,hr,rfl⟩:=hh
 exact⟨rows,hr,(hW rows σ).1,(hW rows σ).2 σ2⟩
end
attribute [go_sem ↓] qvb qne qas qo4 zqe zry
attribute [congr] exk_cg
attribute [go_sem] St.nsl opL
end
section
open Go.RowKit
variable {P:Program}{N:Nat}
theorem zbt.cond {c:Operand}{x y:Code}{σ:St}{H:Hid}{Q:Exit->St->Hid->Prop}{b:Bool}(hv:σ.get P 0 c=.one (.t (.bool b)))(ht:b=true->zbt P N x σ H Q)(hf:b=false->zbt P N y σ H Q):zbt P N (.cond c x y) σ H Q:=λn0 w0 A0 g a w h1 h2 h3=>by
 obtain⟨n1,z1,z2,z4,z5,z7⟩:=h1.rel
 have hs:=z4.get P 0 c
 rw[hv]at hs
 simp only[VR,CR,zau]at hs
 exact wp_cond_split hs (λe=>ht e n0 w0 A0 g a w h1 h2 h3) (λe=>hf e n0 w0 A0 g a w h1 h2 h3)
theorem zbt.condT {c:Operand}{x y:Code}{σ:St}{H:Hid}{Q:Exit->St->Hid->Prop}(hv:σ.get P 0 c=.one (.t (.bool true)))(ht:zbt P N x σ H Q):zbt P N (.cond c x y) σ H Q:=zbt.cond hv (λ_=>ht) (λh=>by cases h)
theorem zbt.cut:∀(n:Nat){c:Code}{σ:St}{H:Hid}{Q:Exit->St->Hid->Prop},okC n c=true->zdf N (qo5 n c)=true->ex P (qo5 n c) [] (λe σ'=>qay P N (sufC n c) Q e σ' H) σ->zbt P N c σ H Q
 | 0,.seq x y,σ,H,Q,_,hd,h=>zbt.seq (zbt.ofEx hd h)
 | n+1,.seq x y,σ,H,Q,ho,hd,h=>by
  simp only[qo5,zdf,Qb]at hd;refine zbt.seq (zbt.mono (Q:=λe σ' r=>r=H/\qc9 P [.seq (qo5 n y)] (λe σ'=>qay P N (sufC n y) Q e σ' H) e σ') (λe σ' r k=>?_) (zbt.ofEx hd.1 (zd1 (λe σ' k=>⟨rfl,k⟩) h)));obtain⟨rfl,k⟩:=k;cases e with
  | normal=>exact zbt.cut n ho hd.2 k
  | exit i=>exact k
  | goto l=>exact k
  | ret=>exact k
  | panic ch=>exact k
  | outgrown=>exact k
theorem Perm.erase_at {α:Type}:∀{l:List α}{m:Nat}{x:α},l[m]?=some x->(x::l.eraseIdx m).Perm l
 | [],m,x,h=>by simp at h
 | y::l,0,x,h=>by simp at h;subst h;exact Jr _
 | y::l,m+1,x,h=>by
  rw[List.eraseIdx_cons_succ];exact(List.Perm.swap y x _).trans ((Perm.erase_at (l:=l) (m:=m) (by simpa using h)).cons y)
theorem zds {α β:Type}(f:α->β):∀(l:List α)(m:Nat),(l.map f).eraseIdx m=(l.eraseIdx m).map f
 | [],_=>rfl
 | _::_,0=>rfl
 | _::l,m+1=>congrArg _ (zds f l m)
theorem zgz {α:Type}{l:List α}{m:Nat}{x:α}(h:l[m]?=some x):(l.eraseIdx m).length+1=l.length:=(Perm.erase_at h).length_eq
attribute [go_sem] zsx qi3 qbv zvu qnz ztx qan qs7 qoa zu9 lkH PXS
end
section
open Go.RowKit
theorem zqf (xs:List Nt)(H:∀x∈xs,∀l:Int,0<=l->l<=1048576->FC Tryz.prog 11 [ntD x,iD l] [iD (szR x.wt l)])(l:Int)(h0:0<=l)(h1:l<=1048576) :
  FC Tryz.prog 43 [.one (ntS xs),iD l] [iD (szR (zuy xs) l)]:=by
 refine zeo (λhw=>?_) Tryz.call43
 have hl:xs.length<=9223372036854775807:=by simpa[zik,wfT]using hw.1.1
 refine zae Tryz.call43 Tryz.func43 rfl Yz (zao Yz) ?_
 simp -implicitDefEqProofs only[go_sem,Tryz.results43]
 rw[za4 Y0 Y0]
 have hW:zuy xs=xs.length+(xs.map Nt.wt).sum:=rfl
 refine⟨λh=>?_,λh=>?_⟩
 ·rw[zd0 (by simp at h;omega)]
 ·have hlen:(xs.length:Int)<=l:=by simp at h;omega
  refine zah (λk:Nat=>hd [(0,vT (ntS xs)),(1,vI (l-xs.length-zr1 Nt.wt xs k)),(5,vI k)] [] []) (λk=>k<=xs.length/\0<=l-xs.length-zr1 Nt.wt xs k) (λk=>xs.length-k) 0 (zad ?_) ?_ ?_
  ·refine Y1 ?_;simp[zf5]
  ·simpa[zf5]using hlen
  ·intro k ⟨hk,hp⟩;by_cases hlt:k<xs.length
   ·have hs:=zmx Nt.wt xs k hlt;have hs2:=zxi Nt.wt xs (k+1);simp -implicitDefEqProofs only[go_sem,Qa,zaj,hlt,zac,zaa,zab];refine callF (H xs[k] (Qk hlt) (l-xs.length-zr1 Nt.wt xs k) hp Y0) Xk ?_;refine X2 ?_;refine⟨λh=>?_,λh=>?_⟩
    ·have:=zgi hp (by simpa using h);rw[zd0 Y0]
    ·obtain⟨h2,h3⟩:=zed (by simpa using h);rw[zaq Y0];exact⟨k+1,⟨hlt,Y0⟩,Y0,zad (by simp -implicitDefEqProofs only[go_sem];rw[h3];congr 1;omega)⟩
   ·refine Y6 hlt ?_;have hall:=zrs Nt.wt xs k Y0;rw[hall,zo3 Y0];congr 1;omega
theorem zrw (xs:List Nt)(H:∀x∈xs,FC Tryz.prog 13 [ntD x] [ntD x])(hs:xs.length<=1048576) :
  FC Tryz.prog 47 [.one (ntS xs)] [.one (ntS xs)]:=by
 refine zeo (λhw=>?_) Tryz.call47
 refine zae Tryz.call47 Tryz.func47 rfl Yz (zao Yz) ?_
 simp -implicitDefEqProofs only[go_sem,Tryz.results47]
 refine qob (by simp -implicitDefEqProofs only[go_sem];omega) ?_
 refine Y1 ?_
 refine zah (λk:Nat=>hd [(0,vT (ntS xs)),(3,.one (.ow 224 0)),(4,vI k)] [] [(224,⟨true,10,(xs.take k).map ntC++List.replicate (xs.length-k) [T.int .i64 0,T.int .i64 0,T.str [],T.sl 2 [],T.str [],T.sl 5 [],T.int .i64 0,T.str [],T.sl 2 [],T.sl 10 []],0,true⟩)]) (λk=>k<=xs.length) (λk=>xs.length-k) 0 (zad ?_) ?_ ?_
 ·refine Y1 ?_;simp
 ·simp
 ·intro k hk;by_cases hlt:k<xs.length
  ·have hlen:((xs.take k).map ntC++List.replicate (xs.length-k) [T.int .i64 0,T.int .i64 0,T.str [],T.sl 2 [],T.str [],T.sl 5 [],T.int .i64 0,T.str [],T.sl 2 [],T.sl 10 []]).length=xs.length:=by simp;omega
   have hlt2:k<k+(xs.length-k):=by omega
   simp -implicitDefEqProofs only[go_sem,Qa,zaj,hlt,zac,zaa,zab];refine callF (H xs[k] (Qk hlt)) (by simp -implicitDefEqProofs only[go_sem,zac,zaa,zab,hlen,hlt,Qy,Qa,Qo,Jb,Jm hk,hlt2]) ?_;simp -implicitDefEqProofs only[go_sem,zac,zaa,zab,hlen,hlt,Qy,Qa,Qo,Jb,Jm hk,hlt2];refine zfd (by simp -implicitDefEqProofs only[go_sem];simp) ?_;refine Y1 ?_;rw[zaq Y0];refine⟨k+1,Y0,Y0,zad ?_⟩;refine Y1 ?_;have hf:=zhj ((xs.take k).map ntC) xs.length k [T.int .i64 0,T.int .i64 0,T.str [],T.sl 2 [],T.str [],T.sl 5 [],T.int .i64 0,T.str [],T.sl 2 [],T.sl 10 []] (ntC xs[k]) (by simp;omega) hlt (by simp[zac,zaa,zab]);simp only[zac,zaa,zab]at hf;rw[hf,Qn hlt,Q1,Q6];simp only[zac,zaa,zab]
  ·refine Y6 hlt ?_;simp[Qr (show xs.length<=k by omega),show xs.length-k=0 by omega]
theorem zpw (xs ys:List Nt)(H:∀x∈xs,∀y,FC Tryz.prog 15 [ntD x,ntD y] [bD (same x y)]) :
  FC Tryz.prog 50 [.one (ntS xs),.one (ntS ys)] [bD (same xs ys)]:=by
 refine zeo (λhw=>?_) Tryz.call50
 have hl:xs.length<=9223372036854775807:=by simpa[zik,wfT]using hw.1.1
 have hl2:ys.length<=9223372036854775807:=by simpa[zik,wfT]using hw.2.1.1
 refine zae Tryz.call50 Tryz.func50 rfl Yz (zao Yz) ?_
 simp -implicitDefEqProofs only[go_sem,Tryz.results50]
 refine⟨λh=>?_,λh=>?_⟩
 ·rw[zcy.2 (by rintro rfl;simp at h)]
 ·have hlen:xs.length=ys.length:=by simp at h;omega
  refine zah (λk:Nat=>hd [(0,vT (ntS xs)),(1,vT (ntS ys)),(4,vB false),(5,vI k)] [] []) (λk=>k<=xs.length/\same xs ys=same (xs.drop k) (ys.drop k)) (λk=>xs.length-k) 0 (zad ?_) ?_ ?_
  ·exact Yy
  ·simp
  ·intro k ⟨hk,hr⟩;by_cases hlt:k<xs.length
   ·have hk2:k<ys.length:=by omega
    refine Y6 hlt ?_;refine drawn Yz ?_;simp -implicitDefEqProofs only[go_sem,Qa,zaj,hlt,hk2,zac,zaa,zab];refine zai (H xs[k] (Qk hlt) ys[k]) Xk ?_;refine X2 ?_;refine⟨Yz,λh=>?_,λh=>?_⟩
    ·rw[hr,Qm hlt,Qm hk2,zdv,show same xs[k] ys[k]=false by simpa using h];rfl
    ·rw[Qm hlt,Qm hk2,zdv,show same xs[k] ys[k]=true by simpa using h,Qv]at hr;rw[zaq Y0];exact⟨k+1,⟨Y0,hr⟩,Y0,zad Yy⟩
   ·refine Y6 hlt ?_;rw[hr,Q0 Y0,Q0 Y0,zhy]
theorem zsv (a:Nt)(H:∀l:Int,0<=l->l<=1048576->FC Tryz.prog 43 [.one (ntS a.parts),iD l] [iD (szR (zuy a.parts) l)])(l:Int)(h0:0<=l)(h1:l<=1048576) :
  FC Tryz.prog 11 [ntD a,iD l] [iD (szR a.wt l)]:=by
 refine zeo (λhw=>?_) Tryz.call11
 simp only[ntD,zac,zaa,zab]at hw⊢
 have hW:=a.wt_eq
 have hls:True:=by simp[zik,wfT,zt7]at hw;simp[hw]
 refine zae Tryz.call11 Tryz.func11 rfl Yz (zao Yz) ?_
 simp -implicitDefEqProofs only[go_sem,Tryz.results11]
 refine callF (zxf a.form l Y0 Y0) Va ?_
 simp -implicitDefEqProofs only[go_sem,zac,zaa,zab,zaa,zab]
 refine⟨λh1=>?_,λh1=>?_⟩
 ·have:=zgi Y0 (show szR a.form.wt l<0 by simpa using h1);rw[zd0 (by have hu0:zuy a.parts=a.parts.length+(a.parts.map Nt.wt).sum:=rfl; omega)]
 obtain⟨k1,j1⟩:=zed (show ¬szR a.form.wt l<0 by simpa using h1)
 refine callF (zxv a.term (szR a.form.wt l) Y0 Y0) Vb ?_
 simp -implicitDefEqProofs only[go_sem,zac,zaa,zab,zab]
 refine⟨λh2=>?_,λh2=>?_⟩
 ·have:=zgi Y0 (show szR a.term.wt (szR a.form.wt l)<0 by simpa using h2);rw[zd0 (by have hu0:zuy a.parts=a.parts.length+(a.parts.map Nt.wt).sum:=rfl; omega)]
 obtain⟨k2,j2⟩:=zed (show ¬szR a.term.wt (szR a.form.wt l)<0 by simpa using h2)
 refine callF (H (szR a.term.wt (szR a.form.wt l)) Y0 Y0) Xk ?_
 refine X2 ?_
 refine⟨λh3=>?_,λh3=>?_⟩
 ·have:=zgi Y0 (show szR (zuy a.parts) (szR a.term.wt (szR a.form.wt l))<0 by simpa using h3);rw[zd0 (by have hu0:zuy a.parts=a.parts.length+(a.parts.map Nt.wt).sum:=rfl; omega)]
 obtain⟨k3,j3⟩:=zed (show ¬szR (zuy a.parts) (szR a.term.wt (szR a.form.wt l))<0 by simpa using h3)
 rw[show szR a.wt l=l-a.wt from zo3 (by have hu0:zuy a.parts=a.parts.length+(a.parts.map Nt.wt).sum:=rfl; omega)];exact zxm (by have hu0:zuy a.parts=a.parts.length+(a.parts.map Nt.wt).sum:=rfl; omega)
theorem zte (a:Nt)(H:FC Tryz.prog 47 [.one (ntS a.parts)] [.one (ntS a.parts)])(hs:a.wt<=1048576):FC Tryz.prog 13 [ntD a] [ntD a]:=by
 have hW:=a.wt_eq
 simp only[ntD,zac,zaa,zab]
 refine zae Tryz.call13 Tryz.func13 rfl Yz (zao Yz) ?_
 simp -implicitDefEqProofs only[go_sem,Tryz.results13]
 refine callF (zxb a.form (by have hu0:zuy a.parts=a.parts.length+(a.parts.map Nt.wt).sum:=rfl; omega)) Va ?_
 simp -implicitDefEqProofs only[go_sem,zac,zaa,zab,zaa,zab]
 refine callF (zzi a.term (by have hu0:zuy a.parts=a.parts.length+(a.parts.map Nt.wt).sum:=rfl; omega)) Vb ?_
 simp -implicitDefEqProofs only[go_sem,zac,zaa,zab,zab]
 refine callF (H) Xk ?_
 exact Xk
theorem zr5 (a b:Nt)(H:FC Tryz.prog 50 [.one (ntS a.parts),.one (ntS b.parts)] [bD (same a.parts b.parts)]):FC Tryz.prog 15 [ntD a,ntD b] [bD (same a b)]:=by
 simp only[ntD,zac,zaa,zab]
 refine zae Tryz.call15 Tryz.func15 rfl Yz (zao Yz) ?_
 simp -implicitDefEqProofs only[go_sem,Tryz.results15]
 refine⟨λh1=>?_,λh1=>?_⟩
 ·rw[zcy.2 (by rintro rfl;simp[za3]at h1)]
 refine callF (zxd a.form b.form) Va ?_
 simp -implicitDefEqProofs only[go_sem,zac,zaa,zab,zaa,zab]
 refine⟨λh2=>?_,λh2=>?_⟩
 ·rw[zcy.2 (by rintro rfl;simp[za3]at h2)]
 refine⟨λh3=>?_,λh3=>?_⟩
 ·rw[zcy.2 (by rintro rfl;simp[za3]at h3)]
 refine callF (zyo a.term b.term) Vb ?_
 simp -implicitDefEqProofs only[go_sem,zac,zaa,zab,zab]
 refine⟨λh4=>?_,λh4=>?_⟩
 ·rw[zcy.2 (by rintro rfl;simp[za3]at h4)]
 refine callF (H) Xk ?_
 refine X2 ?_
 refine⟨λh5=>?_,λh5=>?_⟩
 ·rw[zcy.2 (by rintro rfl;simp[za3]at h5)]
 rw[zb1.2 (by cases a;cases b;simp[zb1,Nt.rule,Nt.form,Nt.label,Nt.term,Nt.parts]at h1 h2 h3 h4 h5⊢;simp[h1,h2,h3,h4,h5])]
theorem zgl:∀a:Nt,∀l:Int,0<=l->l<=1048576->FC Tryz.prog 11 [ntD a,iD l] [iD (szR a.wt l)] :=
 zbu λb0 b1 b2 b3 xs ih l h0 h1=>zsv (.mk b0 b1 b2 b3 xs) (λl h0 h1=>zqf xs ih l h0 h1) l h0 h1
theorem zgk:∀a:Nt,a.wt<=1048576->FC Tryz.prog 13 [ntD a] [ntD a]:=by
 refine zbu λb0 b1 b2 b3 xs ih hs=>?_
 have hW:=Nt.wt_eq (.mk b0 b1 b2 b3 xs)
 simp only[Nt.rule,Nt.form,Nt.label,Nt.term,Nt.parts]at hW
 refine zte _ (zrw xs (λx hx=>ih x hx ?_) Y0) hs
 have:=zbz Nt.wt xs x hx
 omega
theorem zdj:∀a b:Nt,FC Tryz.prog 15 [ntD a,ntD b] [bD (same a b)] :=
 zbu λb0 b1 b2 b3 xs ih b=>zr5 (.mk b0 b1 b2 b3 xs) b (zpw xs b.parts ih)
end
section
open Go.RowKit
abbrev anM (ags:List An):T:=.mq true (ags.map anC)
def fmPm (ags:List An)(rows:List (List T)):Prop:=∃fs:List Fm,rows=fs.map fmC/\fs.Perm (ags.map An.form)
theorem zpk (ags:List An)(hl:ags.length<=1048576):XS Tryz.prog 152 [.one (anM ags)] 5 (fmPm ags):=by
 refine XS_of Tryz.call152 Tryz.func152 rfl (zao Yz) ?_
 refine zci.cut 1 rfl Yz ?_
 simp -implicitDefEqProofs only[go_sem,Tryz.results152]
 refine zde Yy ?_
 refine Y1 ?_
 refine zci.hide ?_
 refine zbt.seq ?_
 refine zbt.seq ?_
 refine zbt.region ?_
 refine zbx.plain 1 (by decide) rfl Yz ?_
 refine Y1 ?_
 refine zbx.range true (ags.map anC) rfl (by simp only[Tryz.ntmps152];omega) Yz Yy ?_
 intro b src _ _ hsb
 refine zbx.done rfl ?_
 refine Y1 ?_
 refine zbt.block ?_
 refine zbt.loop (λx:List An×List Fm×Option An=>hd [(3,.one (.ow 192 0)),(8,.one (.cv (.pointer (some ⟨b,0,none⟩))))] [] [(192,⟨false,5,x.2.1.map fmC,0,true⟩)]) (λx=>[(b,.it src true (x.1.map anC) (x.2.2.map anC))]) (λx=>(x.2.1++x.1.map An.form).Perm (ags.map An.form)) (λx=>x.1.length) (ags,[],none) (zad ?_) (Jt _) (by simp) ?_
 ·exact Yy
 rintro⟨left,acc,last⟩ hp
 simp only at hp⊢
 have hni:∀left last,qcu b [(b,.it src true left last)]:=λleft last p hp s ag l la he=>by
  simp only[Qu,K2,or_false]at hp;subst hp;simp only[Ob.it.injEq]at he;exact λh=>hsb (he.1.trans h)
 have hpl:=hp.length_eq
 simp only[Qy,Qa]at hpl
 refine zbt.seq ?_
 refine zbt.region ?_
 refine zbx.next 0 rfl rfl (by simp only[Tryz.ntmps152];omega) Yy (hni _ _) (λ_ _=>Or.inl rfl) (λhnil=>?_) (λm r hm=>?_)
 ·refine zbx.plain 1 (by decide) rfl Yz ?_;refine Y1 ?_;refine zbx.done rfl ?_;refine Y1 ?_;refine zbt.ofEx Yz ?_;refine Y1 ?_;refine zbt.ofEx Yz ?_;refine Y1 ?_;refine⟨acc.map fmC,⟨acc,rfl,?_⟩,192,0,?_⟩
  ·have:left=[]:=by simpa using hnil
   subst this;simpa using hp
  ·exact Yy
 ·refine zbx.plain 1 (by decide) rfl Yz ?_;refine Y1 ?_;refine zbx.done rfl ?_;obtain⟨a,ha,rfl⟩:∃a,left[m]?=some a/\r=anC a:=by
   rw[List.getElem?_map]at hm;cases h:left[m]? with
   | none=>rw[h]at hm;cases hm
   | some a=>rw[h]at hm;exact⟨a,rfl,by simpa using hm.symm⟩
  have hel:=zgz ha;refine zbt.cut 0 rfl Yz ?_;refine Y1 ?_;refine zbt.block ?_;refine zbt.seq ?_;refine zbt.region ?_;refine zbx.entry 0 rfl rfl (by simp only[Tryz.ntmps152];omega) Yy ?_;refine zbx.plain 3 (by decide) rfl Yz ?_;refine Y1 ?_;refine zbx.done rfl ?_;refine Y1 ?_;refine zbt.ofEx Yz ?_;refine Y1 ?_;refine zde Yy ?_;refine Y1 ?_;have hac:acc.length<=4294967295:=by omega
  refine apD false (Xo hac) ?_;refine Xp hac ?_;refine⟨(left.eraseIdx m,acc++[a.form],some a),?_,?_,?_,zad ?_⟩
  ·refine(List.Perm.trans ?_ hp);simp only[Kd,Js];refine List.Perm.append_left acc ?_;exact(Perm.erase_at ha).map An.form
  ·simp only;omega
  ·rw[zds];exact Jt _
  ·simp -implicitDefEqProofs only[go_sem,Q1,Qc,Qi,zaa a.form]
end
section
open Go.RowKit
def Tm.names:Tm->Bool:=Tm.fold λn xs rs=>if za9 n=true then decide (xs.length=0)else zdg n&&decide (xs.length<=4)&&rs.all id
theorem Tm.names_eq (a:Tm):a.names=if za9 a.name=true then decide (a.args.length=0)else zdg a.name&&decide (a.args.length<=4)&&a.args.all Tm.names:=by
 unfold Tm.names
 rw[Tm.fold_eq]
 simp only[J8]
 rfl
theorem zfm {α:Type}(xs:List α)(p:α->Bool):(!xs.any λx=>!p x)=xs.all p:=by
 induction xs with
 | nil=>rfl
 | cons x xs ih=>simp only[List.any_cons,Ks,Bool.not_or,Bool.not_not,ih]
theorem zvn (a:Tm)(H:∀x∈a.args,FC Tryz.prog 141 [tmD x] [bD x.names]):FC Tryz.prog 141 [tmD a] [bD a.names]:=by
 have H1:∀x∈a.args,FC Tryz.prog 172 [tmD x] [bD (!x.names)]:=λx hx=>by
  simp only[tmD,zab];refine zae Tryz.call172 Tryz.func172 rfl Yz (zao Yz) ?_;simp -implicitDefEqProofs only[go_sem,Tryz.results172];refine callF (H x hx) Y4 ?_;exact Y4
 have hN:=a.names_eq
 simp only[tmD,zab]
 refine zae Tryz.call141 Tryz.func141 rfl Yz (zao Yz) ?_
 simp -implicitDefEqProofs only[go_sem,Tryz.results141]
 refine callF (zdt a.name) Yy ?_
 refine Y1 ?_
 refine⟨λh=>?_,λh=>?_⟩
 ·rw[hN,if_pos h]
  congr 1
  rw[Kp];simp
 ·rw[h]at hN;simp only[Qp,if_false]at hN;refine callF (zpg a.name) Yy ?_;refine Y1 ?_;refine⟨λh1=>⟨λh2=>?_,λh2=>?_⟩,λh1=>?_⟩
  ·refine callF (zjp a.args (λx=>!x.names) _ [] H1) Yy ?_;refine Y1 ?_;rw[zfm,hN,h1,Qv];rw[show decide (a.args.length<=4)=true by simp at h2⊢;omega];rfl
  ·rw[hN,h1,Qv,show decide (a.args.length<=4)=false by simp at h2⊢;omega];rfl
  ·rw[hN,h1];rfl
theorem zki:∀a:Tm,FC Tryz.prog 141 [tmD a] [bD a.names]:=zb3 λn xs ih=>zvn (.mk n xs) ih
def Tm.good (a:Tm):Bool:=zet a&&a.names
theorem zd4 (a:Tm)(hs:a.wt<=1099511627776):FC Tryz.prog 120 [tmD a] [bD a.good]:=by
 simp only[tmD,zab]
 refine zae Tryz.call120 Tryz.func120 rfl Yz (zao Yz) ?_
 simp -implicitDefEqProofs only[go_sem,Tryz.results120]
 refine callF (zuq a hs) Y4 ?_
 refine Y5 ?_
 refine⟨λh=>?_,λh=>?_⟩
 ·refine callF (zki a) Y4 ?_;refine Y5 ?_;rw[Tm.good,h,Qv]
 ·rw[Tm.good,h,Qx]
theorem zsy (a:Tm):FC Tryz.prog 185 [tmD a] [bD (a.name==[61])]:=by
 simp only[tmD,zab]
 refine zae Tryz.call185 Tryz.func185 rfl Yz (zao Yz) ?_
 simp -implicitDefEqProofs only[go_sem,Tryz.results185]
def Tm.atomOk (a:Tm):Bool:=if(a.name==[61])=true then decide (a.args.length=2)&&zet a&&a.args.all Tm.names else zdg a.name&&a.good
theorem qf0 {α:Type}{xs:List α}{p:α->Bool}(h:xs.length=2):xs.all p=(p (xs[0]'Y0)&&p (xs[1]'Y0)):=by
 match xs,h with
 | [a,b],_=>simp
theorem zq4 (a:Tm)(hs:a.wt<=1099511627776):FC Tryz.prog 165 [tmD a] [bD a.atomOk]:=by
 have hN:a.atomOk=if(a.name==[61])=true then decide (a.args.length=2)&&zet a&&a.args.all Tm.names else zdg a.name&&a.good:=rfl
 simp only[tmD,zab]
 refine zae Tryz.call165 Tryz.func165 rfl Yz (zao Yz) ?_
 simp -implicitDefEqProofs only[go_sem,Tryz.results165]
 refine callF (zsy a) Y4 ?_
 refine Y5 ?_
 refine⟨λh=>?_,λh=>?_⟩
 ·rw[if_pos h]at hN;by_cases h2:a.args.length=2
  ·have k0:0<a.args.length:=by omega
   have k1:1<a.args.length:=by omega
   have e2:((a.args.length:Int)==2)=true:=by simp[h2]
   have l0:(0:Int)<a.args.length:=by omega
   have l1:(1:Int)<a.args.length:=by omega
   rw[qf0 h2,show decide (a.args.length=2)=true by simp[h2]]at hN;simp only[Qv]at hN;simp only[e2,qg4,zhe,qvn,zf0,and_true];refine callF (zuq a hs) (X3 l0 k0) ?_;simp -implicitDefEqProofs only[go_sem,zab,l0,zaj,k0];refine⟨λh3=>?_,λh3=>?_⟩
   ·refine callF (zki a.args[0]) (X3 l1 k1) ?_;simp -implicitDefEqProofs only[go_sem,zab,l1,zaj,k1];refine⟨λh4=>?_,λh4=>?_⟩
    ·refine callF (zki a.args[1]) Y4 ?_;refine Y5 ?_;rw[hN,h3,h4];rfl
    ·rw[hN,h3,h4];rfl
   ·rw[hN,h3];rfl
  ·have e2:((a.args.length:Int)==2)=false:=by simp;omega
   simp only[e2,qg4,qsz,zhe,zf0,and_true,true_and,qsf];rw[hN,show decide (a.args.length=2)=false by simpa using h2];rfl
 ·rw[h]at hN;simp only[Qp,if_false]at hN;refine callF (zpg a.name) Yy ?_;refine Y1 ?_;refine⟨λh3=>?_,λh3=>?_⟩
  ·refine callF (zd4 a hs) Y4 ?_;refine Y5 ?_;rw[hN,h3,Qv]
  ·rw[hN,h3,Qx]
def Tm.none (a:Tm):Bool:=a.name==[]&&decide (a.args.length=0)
theorem zb2 (a:Tm):FC Tryz.prog 121 [tmD a] [bD a.none]:=by
 simp only[tmD,zab]
 refine zae Tryz.call121 Tryz.func121 rfl Yz (zao Yz) ?_
 simp -implicitDefEqProofs only[go_sem,Tryz.results121]
 unfold Tm.none
 refine⟨λh=>?_,λh=>?_⟩
 ·rw[h,Qv]
  congr 1
  rw[Kp];simp
 ·rw[h];rfl
def isQ (n:Int):Bool:=n==8||n==9
def zk6 (n:Int):Bool:=n==5||n==6||n==7
theorem zaw (n:Int):FC Tryz.prog 163 [iD n] [bD (isQ n)]:=by
 refine zae Tryz.call163 Tryz.func163 rfl Yz (zao Yz) ?_
 simp -implicitDefEqProofs only[go_sem,Tryz.results163]
 unfold isQ
 refine⟨λh=>?_,λh=>?_⟩<;>simp[h]
theorem zh2 (n:Int):FC Tryz.prog 164 [iD n] [bD (zk6 n)]:=by
 refine zae Tryz.call164 Tryz.func164 rfl Yz (zao Yz) ?_
 simp -implicitDefEqProofs only[go_sem,Tryz.results164]
 unfold zk6
 refine⟨λh=>⟨λh2=>?_,λh2=>?_⟩,λh=>?_⟩<;>simp[*]
end
section
open Go.RowKit
def Fm.nodes:Fm->Nat:=Fm.fold λ_ _ _ _ rs=>1+rs.sum
theorem Fm.nodes_eq (a:Fm):a.nodes=1+(a.parts.map Fm.nodes).sum:=Fm.fold_eq _ a
theorem zi7:∀a:Fm,a.nodes<=1+a.wt:=by
 refine zck λo a v xs ih=>?_
 rw[Fm.nodes_eq,Fm.wt_eq]
 show 1+(xs.map Fm.nodes).sum<=1+(a.wt+v.length+xs.length+(xs.map Fm.wt).sum)
 have:(xs.map Fm.nodes).sum<=xs.length+(xs.map Fm.wt).sum:=by
  induction xs with
  | nil=>simp
  | cons x xs ih2 =>
   have h1:=ih x (by simp);have h2:=ih2 λy hy=>ih y (by simp[hy]);simp only[Qc,Kt,Qg];omega
 omega
def zhl:Fm->Int:=Fm.fold λ_ _ _ _ rs=>szL 40 1 rs
theorem zx2 (a:Fm):zhl a=szL 40 1 (a.parts.map zhl):=Fm.fold_eq _ a
theorem zo7:∀a:Fm,1<=zhl a/\zhl a<=a.nodes/\(zhl a<=40->zhl a=a.nodes):=by
 refine zck λo a v xs ih=>?_
 rw[zx2,Fm.nodes_eq]
 show 1<=szL 40 1 (xs.map zhl)/\szL 40 1 (xs.map zhl)<=((1+(xs.map Fm.nodes).sum:Nat):Int)/\_
 obtain⟨k1,k2,k3⟩:=zlr zhl Fm.nodes 40 xs 1 Y0 ih
 refine⟨k2,Y0,λh=>?_⟩
 have:=k3 h
 show szL 40 1 (xs.map zhl)=_
 rw[this];show _=((1+(xs.map Fm.nodes).sum:Nat):Int);omega
theorem qmt (a:Fm):decide (zhl a<=40)=decide (a.nodes<=40):=by
 obtain⟨h1,h2,h3⟩:=zo7 a
 rw[Jy]
 exact⟨λh=>by have:=h3 h;omega,λh=>by omega⟩
theorem zd3 {a x:Fm}(h:x∈a.parts):x.wt<=a.wt:=by
 have:=Fm.wt_eq a
 have:=zbz Fm.wt a.parts x h
 omega
theorem zpu {a x:Tm}(h:x∈a.args):x.wt<=a.wt:=by
 have:=Tm.wt_eq a
 have:=zbz Tm.wt a.args x h
 omega
theorem zj3 (a:Fm):a.atom.wt<=a.wt:=by have:=Fm.wt_eq a;omega
theorem qh6 (a:Fm)(hs:a.wt<=1099511627776)(H:∀x∈a.parts,FC Tryz.prog 138 [fmD x] [iD (zhl x)]):FC Tryz.prog 138 [fmD a] [iD (zhl a)]:=by
 have hl:a.parts.length<=9223372036854775807:=by rw[Fm.wt_eq]at hs;omega
 have hn:=zi7 a
 have hN:=a.nodes_eq
 simp only[fmD,zaa]
 refine zae Tryz.call138 Tryz.func138 rfl Yz (zao Yz) ?_
 simp -implicitDefEqProofs only[go_sem,Tryz.results138]
 refine zah (λp:Nat×Int=>hd [(3,vI p.2),(7,vT (fmS a.parts)),(8,vI a.parts.length),(9,vI p.1)] [] []) (λp=>p.1<=a.parts.length/\zhl a=szL 40 p.2 ((a.parts.drop p.1).map zhl)/\1<=p.2/\p.2+qgr Fm.nodes a.parts p.1<=a.nodes) (λp=>a.parts.length-p.1) (0,1) (zad ?_) ?_ ?_
 ·exact Yy
 ·exact⟨by simp,by rw[zx2];rfl,Y0,by rw[zf8];omega⟩
 ·intro ⟨k,n⟩ ⟨hk,hr,h1,h2⟩;simp only at hk hr h1 h2;by_cases hlt:k<a.parts.length
  ·have hd:=zkk Fm.nodes a.parts k hlt;obtain⟨s1,s2,s3⟩:=zo7 a.parts[k];rw[Qm hlt,Qc,szL]at hr;refine Vt ?_;refine⟨λh=>?_,λh=>?_⟩
   ·rw[hr,if_pos (by simpa using h)]
   ·refine callF (H a.parts[k] (Qk hlt)) Zp ?_;refine Zx ?_;rw[if_neg (by simpa using h)]at hr;exact⟨(k+1,n+zhl a.parts[k]),⟨hlt,hr,by simp only;omega,by simp only;omega⟩,by simp only;omega,zad (by simp -implicitDefEqProofs only[go_sem];rw[zaq Y0,za4 Y0 Y0];exact⟨rfl,rfl⟩)⟩
  ·refine Vd ?_;rw[hr,Q0 Y0];rfl
theorem qpq:∀a:Fm,a.wt<=1099511627776->FC Tryz.prog 138 [fmD a] [iD (zhl a)] :=
 zck λo a v xs ih hs=>qh6 (.mk o a v xs) hs λx hx=>ih x hx (Je (zd3 (a:=.mk o a v xs) hx) hs)
def mnL (most:Int):Int->List (Int->Int)->Int
 | n,[]=>n
 | n,r::rs=>if n<=most then mnL most (n+r (most-n)) rs else n
theorem zlq {α:Type}(f:α->Int->Int)(g:α->Nat)(most:Int):∀(xs:List α)(n:Int),0<=n->(∀x∈xs,∀m,0<=m->1<=f x m/\f x m<=g x/\(f x m<=m->f x m=g x))->mnL most n (xs.map f)<=n+(xs.map g).sum/\n<=mnL most n (xs.map f)/\(mnL most n (xs.map f)<=most->mnL most n (xs.map f)=n+(xs.map g).sum)
 | [],n,_,_=>by simp[mnL]
 | x::xs,n,hn,h=>by
  simp only[Qc,mnL,Kt];split
  ·obtain⟨h1,h2,h3⟩:=h x (by simp) (most-n) Y0;obtain⟨k1,k2,k3⟩:=zlq f g most xs (n+f x (most-n)) Y0 λy hy=>h y (by simp[hy]);refine⟨Y0,Y0,λhh=>?_⟩;have:=k3 hh;have:f x (most-n)=g x:=h3 Y0;omega
  ·refine⟨Y0,Y0,λhh=>by omega⟩
def zgq:Tm->Int->Int:=Tm.fold λ_ _ rs m=>mnL m 1 rs
theorem zyl (a:Tm)(m:Int):zgq a m=mnL m 1 (a.args.map zgq):=congrFun (Tm.fold_eq _ a) m
theorem zou:∀(a:Tm)(m:Int),0<=m->1<=zgq a m/\zgq a m<=a.nodes/\(zgq a m<=m->zgq a m=a.nodes):=by
 refine zb3 λb0 xs ih m hm=>?_
 rw[zyl,Tm.nodes_eq]
 show 1<=mnL m 1 (xs.map zgq)/\mnL m 1 (xs.map zgq)<=((1+(xs.map Tm.nodes).sum:Nat):Int)/\(mnL m 1 (xs.map zgq)<=m->mnL m 1 (xs.map zgq)=((1+(xs.map Tm.nodes).sum:Nat):Int))
 obtain⟨k1,k2,k3⟩:=zlq zgq Tm.nodes m xs 1 Y0 ih
 refine⟨k2,Y0,λh=>?_⟩
 have:=k3 h
 omega
theorem qoy (a:Tm)(m:Nat):decide (zgq a m<=m)=decide (a.nodes<=m):=by
 obtain⟨h1,h2,h3⟩:=zou a m Y0
 rw[Jy]
 exact⟨λh=>by have:=h3 h;omega,λh=>by omega⟩
theorem qdx (a:Tm)(hs:a.wt<=1099511627776)(H:∀x∈a.args,∀m:Int,0<=m->m<=1099511627776->FC Tryz.prog 156 [tmD x,iD m] [iD (zgq x m)])(m:Int)(h0:0<=m)(h1:m<=1099511627776):FC Tryz.prog 156 [tmD a,iD m] [iD (zgq a m)]:=by
 have hl:a.args.length<=9223372036854775807:=by rw[Tm.wt_eq]at hs;omega
 have hn:=zgo a
 have hN:=a.nodes_eq
 simp only[tmD,zab]
 refine zae Tryz.call156 Tryz.func156 rfl Yz (zao Yz) ?_
 simp -implicitDefEqProofs only[go_sem,Tryz.results156]
 refine zah (λp:Nat×Int=>hd [(1,vI m),(2,.one (.bx 2 0)),(5,vI p.2),(6,vI p.1)] [(2,[.t (.str a.name),.t (tmS a.args)])] []) (λp=>p.1<=a.args.length/\zgq a m=mnL m p.2 ((a.args.drop p.1).map zgq)/\1<=p.2/\p.2+qgr Tm.nodes a.args p.1<=a.nodes) (λp=>a.args.length-p.1) (0,1) (zad ?_) ?_ ?_
 ·exact Yy
 ·exact⟨by simp,by rw[zyl];rfl,Y0,by rw[zf8];omega⟩
 ·intro ⟨k,n⟩ ⟨hk,hr,h2,h3⟩;simp only at hk hr h2 h3;by_cases hlt:k<a.args.length
  ·have hd:=zkk Tm.nodes a.args k hlt;rw[Qm hlt,Qc,mnL]at hr;refine Xb hlt ?_;refine⟨λh=>?_,λh=>?_⟩
   ·have hle:n<=m:=by simpa using h
    obtain⟨s1,s2,s3⟩:=zou a.args[k] (m-n) Y0;rw[za4 (n:=m-n) Y0 Y0];refine callF (H a.args[k] (Qk hlt) (m-n) Y0 Y0) Y4 ?_;refine Y5 ?_;rw[if_pos hle]at hr;exact⟨(k+1,n+zgq a.args[k] (m-n)),⟨hlt,hr,by simp only;omega,by simp only;omega⟩,by simp only;omega,zad (by simp -implicitDefEqProofs only[go_sem];rw[zaq Y0,za4 Y0 Y0];exact⟨rfl,rfl⟩)⟩
   ·rw[hr,if_neg (by simpa using h)]
  ·refine Vd ?_;rw[hr,Q0 Y0];rfl
theorem qoc:∀a:Tm,a.wt<=1099511627776->∀m:Int,0<=m->m<=1099511627776->FC Tryz.prog 156 [tmD a,iD m] [iD (zgq a m)] :=
 zb3 λb0 xs ih hs=>qdx (.mk b0 xs) hs λx hx=>ih x hx (Je (zpu (a:=.mk b0 xs) hx) hs)
def zgm:Fm->Int->Int:=Fm.fold λ_ _ _ _ rs m=>mnL m 1 rs
theorem zy5 (a:Fm)(m:Int):zgm a m=mnL m 1 (a.parts.map zgm):=congrFun (Fm.fold_eq _ a) m
theorem zpm:∀(a:Fm)(m:Int),0<=m->1<=zgm a m/\zgm a m<=a.nodes/\(zgm a m<=m->zgm a m=a.nodes):=by
 refine zck λb0 b1 b2 xs ih m hm=>?_
 rw[zy5,Fm.nodes_eq]
 show 1<=mnL m 1 (xs.map zgm)/\mnL m 1 (xs.map zgm)<=((1+(xs.map Fm.nodes).sum:Nat):Int)/\(mnL m 1 (xs.map zgm)<=m->mnL m 1 (xs.map zgm)=((1+(xs.map Fm.nodes).sum:Nat):Int))
 obtain⟨k1,k2,k3⟩:=zlq zgm Fm.nodes m xs 1 Y0 ih
 refine⟨k2,Y0,λh=>?_⟩
 have:=k3 h
 omega
theorem qn5 (a:Fm)(m:Nat):decide (zgm a m<=m)=decide (a.nodes<=m):=by
 obtain⟨h1,h2,h3⟩:=zpm a m Y0
 rw[Jy]
 exact⟨λh=>by have:=h3 h;omega,λh=>by omega⟩
theorem qh8 (a:Fm)(hs:a.wt<=1099511627776)(H:∀x∈a.parts,∀m:Int,0<=m->m<=1099511627776->FC Tryz.prog 130 [fmD x,iD m] [iD (zgm x m)])(m:Int)(h0:0<=m)(h1:m<=1099511627776):FC Tryz.prog 130 [fmD a,iD m] [iD (zgm a m)]:=by
 have hl:a.parts.length<=9223372036854775807:=by rw[Fm.wt_eq]at hs;omega
 have hn:=zi7 a
 have hN:=a.nodes_eq
 simp only[fmD,zaa]
 refine zae Tryz.call130 Tryz.func130 rfl Yz (zao Yz) ?_
 simp -implicitDefEqProofs only[go_sem,Tryz.results130]
 refine zah (λp:Nat×Int=>hd [(1,vI m),(2,.one (.bx 2 0)),(5,vI p.2),(6,vI p.1)] [(2,[.t (.int .i64 a.op),.t (.str a.atom.name),.t (tmS a.atom.args),.t (.str a.var),.t (fmS a.parts)])] []) (λp=>p.1<=a.parts.length/\zgm a m=mnL m p.2 ((a.parts.drop p.1).map zgm)/\1<=p.2/\p.2+qgr Fm.nodes a.parts p.1<=a.nodes) (λp=>a.parts.length-p.1) (0,1) (zad ?_) ?_ ?_
 ·exact Yy
 ·exact⟨by simp,by rw[zy5];rfl,Y0,by rw[zf8];omega⟩
 ·intro ⟨k,n⟩ ⟨hk,hr,h2,h3⟩;simp only at hk hr h2 h3;by_cases hlt:k<a.parts.length
  ·have hd:=zkk Fm.nodes a.parts k hlt;rw[Qm hlt,Qc,mnL]at hr;refine Vt ?_;refine⟨λh=>?_,λh=>?_⟩
   ·have hle:n<=m:=by simpa using h
    obtain⟨s1,s2,s3⟩:=zpm a.parts[k] (m-n) Y0;rw[za4 (n:=m-n) Y0 Y0];refine callF (H a.parts[k] (Qk hlt) (m-n) Y0 Y0) Zp ?_;refine Zx ?_;rw[if_pos hle]at hr;exact⟨(k+1,n+zgm a.parts[k] (m-n)),⟨hlt,hr,by simp only;omega,by simp only;omega⟩,by simp only;omega,zad (by simp -implicitDefEqProofs only[go_sem];rw[zaq Y0,za4 Y0 Y0];exact⟨rfl,rfl⟩)⟩
   ·rw[hr,if_neg (by simpa using h)]
  ·refine Vd ?_;rw[hr,Q0 Y0];rfl
theorem qol:∀a:Fm,a.wt<=1099511627776->∀m:Int,0<=m->m<=1099511627776->FC Tryz.prog 130 [fmD a,iD m] [iD (zgm a m)] :=
 zck λb0 b1 b2 xs ih hs=>qh8 (.mk b0 b1 b2 xs) hs λx hx=>ih x hx (Je (zd3 (a:=.mk b0 b1 b2 xs) hx) hs)
end
section
open Go.RowKit
theorem qbg (a:Tm)(hs:a.wt<=1099511627776)(H:∀x∈a.args,FC Tryz.prog 157 [tmD x] [iD x.depth]):FC Tryz.prog 157 [tmD a] [iD a.depth]:=by
 have hl:a.args.length<=9223372036854775807:=by rw[Tm.wt_eq]at hs;omega
 have hn:=zgo a
 have hdn:=zme a
 have hD:=a.depth_eq
 simp only[tmD,zab]
 refine zae Tryz.call157 Tryz.func157 rfl Yz (zao Yz) ?_
 simp -implicitDefEqProofs only[go_sem,Tryz.results157]
 refine zah (λp:Nat×Nat=>hd [(1,.one (.bx 1 0)),(3,vI p.2),(4,vI p.1)] [(1,[.t (.str a.name),.t (tmS a.args)])] []) (λp=>p.1<=a.args.length/\a.depth=((a.args.drop p.1).map Tm.depth).foldl max p.2+1) (λp=>a.args.length-p.1) (0,0) (zad ?_) ?_ ?_
 ·exact Yy
 ·exact⟨by simp,hD⟩
 ·intro ⟨k,n⟩ ⟨hk,hr⟩;simp only at hk hr;by_cases hlt:k<a.args.length
  ·rw[Qm hlt,Qc,J6]at hr;refine Xb hlt ?_;refine callF (H a.args[k] (Qk hlt)) Y4 ?_;refine Y5 ?_;refine callF (qp5 n a.args[k].depth) Y4 ?_;refine Y5 ?_;exact⟨(k+1,max n a.args[k].depth),⟨hlt,hr⟩,by simp only;omega,zad (by simp -implicitDefEqProofs only[go_sem];rw[zaq Y0];exact⟨by congr 1;omega,rfl⟩)⟩
  ·refine Vd ?_;rw[Q0 Y0]at hr;simp only[Qi,List.foldl_nil]at hr;rw[hr,zaq Y0]
theorem qe4:∀a:Tm,a.wt<=1099511627776->FC Tryz.prog 157 [tmD a] [iD a.depth] :=
 zb3 λn xs ih hs=>qbg (.mk n xs) hs λx hx=>ih x hx (Je (zpu (a:=.mk n xs) hx) hs)
theorem zx5 (a:Tm)(hs:a.wt<=1099511627776):FC Tryz.prog 132 [tmD a] [bD (zet a)]:=by
 simp only[tmD,zab]
 refine zae Tryz.call132 Tryz.func132 rfl Yz (zao Yz) ?_
 simp -implicitDefEqProofs only[go_sem,Tryz.results132]
 refine callF (qoc a hs 30 Y0 Y0) Y4 ?_
 refine Y5 ?_
 rw[show decide (zgq a 30<=30)=decide (a.nodes<=30) from qoy a 30]
 refine⟨λh=>?_,λh=>?_⟩
 ·refine callF (qe4 a hs) Y4 ?_;refine Y5 ?_;rw[zet,h,Qv]
  congr 1
  rw[Jy];omega
 ·rw[zet,h];rfl
theorem qb2 (a:Tm)(H:∀x∈a.args,FC Tryz.prog 133 [tmD x] [bD x.names]):FC Tryz.prog 133 [tmD a] [bD a.names]:=by
 refine zeo (λhw=>?_) Tryz.call133
 have hl:a.args.length<=9223372036854775807:=by simp only[tmD,zab]at hw;simp[zik,wfT,zt7]at hw;exact hw.2.1
 have hN:=a.names_eq
 simp only[tmD,zab]
 refine zae Tryz.call133 Tryz.func133 rfl Yz (zao Yz) ?_
 simp -implicitDefEqProofs only[go_sem,Tryz.results133]
 refine callF (zih a.name) Yy ?_
 refine Y1 ?_
 refine⟨λh=>?_,λh=>?_⟩
 ·rw[hN,if_pos h]
  congr 1
  rw[Kp];simp
 ·rw[h]at hN;simp only[Qp,if_false]at hN;refine callF (zon a.name) Yy ?_;refine Y1 ?_;by_cases hy:zdg a.name=true
  ·by_cases h4:a.args.length<=4
   ·rw[hy,show decide (a.args.length<=4)=true by simpa using h4,Qv,Qv]at hN;refine⟨λ_=>⟨λh=>by simp at h;omega,λ_=>?_⟩,λh=>by simp[hy]at h⟩;refine zah (λk:Nat=>hd [(1,.one (.bx 1 0)),(3,vI k)] [(1,[.t (.str a.name),.t (tmS a.args)])] []) (λk=>k<=a.args.length/\a.names=(a.args.drop k).all Tm.names) (λk=>a.args.length-k) 0 (zad ?_) ?_ ?_
    ·exact Yy
    ·exact⟨by simp,hN⟩
    ·intro k ⟨hk,hr⟩;by_cases hlt:k<a.args.length
     ·rw[Qm hlt,Ks]at hr;refine Xb hlt ?_;refine callF (H a.args[k] (Qk hlt)) Y4 ?_;refine Y5 ?_;refine⟨λh=>?_,λh=>⟨k+1,⟨hlt,?_⟩,Y0,zad (by simp -implicitDefEqProofs only[go_sem];rw[zaq Y0])⟩⟩
      ·rw[hr,show a.args[k].names=false by simpa using h];rfl
      ·rw[hr,show a.args[k].names=true by simpa using h];rfl
     ·refine Vd ?_;rw[hr,Q0 Y0];rfl
   ·refine⟨λ_=>⟨λ_=>?_,λh=>by simp at h;omega⟩,λh=>by simp[hy]at h⟩;rw[hN,show decide (a.args.length<=4)=false by simpa using h4,Ke];rfl
  ·have hy':zdg a.name=false:=by simpa using hy
   refine⟨λh=>by simp[hy']at h,λ_=>?_⟩;rw[hN,hy'];rfl
theorem zl7:∀a:Tm,FC Tryz.prog 133 [tmD a] [bD a.names]:=zb3 λn xs ih=>qb2 (.mk n xs) ih
theorem zxr (a:Tm)(hs:a.wt<=1099511627776):FC Tryz.prog 106 [tmD a] [bD a.good]:=by
 simp only[tmD,zab]
 refine zae Tryz.call106 Tryz.func106 rfl Yz (zao Yz) ?_
 simp -implicitDefEqProofs only[go_sem,Tryz.results106]
 refine callF (zx5 a hs) Y4 ?_
 refine Y5 ?_
 refine⟨λh=>?_,λh=>?_⟩
 ·refine callF (zl7 a) Y4 ?_;refine Y5 ?_;rw[Tm.good,h,Qv]
 ·rw[Tm.good,h,Qx]
theorem zx8 (a:Tm)(hs:a.wt<=1099511627776):FC Tryz.prog 161 [tmD a] [bD a.atomOk]:=by
 have hN:a.atomOk=if(a.name==[61])=true then decide (a.args.length=2)&&zet a&&a.args.all Tm.names else zdg a.name&&a.good:=rfl
 simp only[tmD,zab]
 refine zae Tryz.call161 Tryz.func161 rfl Yz (zao Yz) ?_
 simp -implicitDefEqProofs only[go_sem,Tryz.results161]
 refine⟨λh=>?_,λh=>?_⟩
 ·rw[if_pos h]at hN;by_cases h2:a.args.length=2
  ·have k0:0<a.args.length:=by omega
   have k1:1<a.args.length:=by omega
   have e2:((a.args.length:Int)==2)=true:=by simp[h2]
   have l0:(0:Int)<a.args.length:=by omega
   have l1:(1:Int)<a.args.length:=by omega
   rw[qf0 h2,show decide (a.args.length=2)=true by simp[h2]]at hN;simp only[Qv]at hN;simp only[e2,qg4,zhe,qvn,zf0,and_true];refine callF (zx5 a hs) (X3 l0 k0) ?_;simp -implicitDefEqProofs only[go_sem,zab,l0,zaj,k0];refine⟨λh3=>?_,λh3=>?_⟩
   ·refine callF (zl7 a.args[0]) (X3 l1 k1) ?_;simp -implicitDefEqProofs only[go_sem,zab,l1,zaj,k1];refine⟨λh4=>?_,λh4=>?_⟩
    ·refine callF (zl7 a.args[1]) Y4 ?_;refine Y5 ?_;rw[hN,h3,h4];rfl
    ·rw[hN,h3,h4];rfl
   ·rw[hN,h3];rfl
  ·have e2:((a.args.length:Int)==2)=false:=by simp;omega
   simp only[e2,qg4,qsz,zhe,zf0,and_true,true_and,qsf];rw[hN,show decide (a.args.length=2)=false by simpa using h2];rfl
 ·rw[h]at hN;simp only[Qp,if_false]at hN;refine callF (zon a.name) Yy ?_;refine Y1 ?_;refine⟨λh3=>?_,λh3=>?_⟩
  ·refine callF (zxr a hs) Y4 ?_;refine Y5 ?_;rw[hN,h3,Qv]
  ·rw[hN,h3,Qx]
theorem zfe (a:Tm):FC Tryz.prog 182 [tmD a] [bD a.none]:=by
 simp only[tmD,zab]
 refine zae Tryz.call182 Tryz.func182 rfl Yz (zao Yz) ?_
 simp -implicitDefEqProofs only[go_sem,Tryz.results182]
 unfold Tm.none
 refine⟨λh=>?_,λh=>?_⟩
 ·rw[h,Qv]
  congr 1
  rw[Kp];simp
 ·rw[h];rfl
def Fm.here (f:Fm):Bool :=
 if(f.op==1||f.op==2)=true then decide (f.parts.length=0)&&f.atom.none&&(f.var==[])
 else if(f.op==3)=true then decide (f.parts.length=0)&&f.atom.atomOk&&(f.var==[])
 else if(f.op==4)=true then decide (f.parts.length=1)&&f.atom.none&&(f.var==[])
 else if zk6 f.op=true then decide (f.parts.length=2)&&f.atom.none&&(f.var==[])
 else if isQ f.op=true then decide (f.parts.length=1)&&f.atom.none&&za9 f.var
 else false
theorem zp0 (n m:Nat):((n:Int)==(m:Int))=decide (n=m):=by
 rw[Kp];simp only[Q9,Q2];omega
theorem zvj (n m:Nat):((n:Int) != (m:Int))=!decide (n=m):=by
 rw[bne,zp0]
theorem zx1 (o:Int):o=1\/o=2\/o=3\/o=4\/o=5\/o=6\/o=7\/o=8\/o=9\/(o≠1/\o≠2/\o≠3/\o≠4/\o≠5/\o≠6/\o≠7/\o≠8/\o≠9):=by omega
theorem qly (f:Fm)(hs:f.wt<=1099511627776):FC Tryz.prog 155 [fmD f] [bD f.here]:=by
 obtain⟨o,a,v,ps⟩:=f
 have ha:a.wt<=1099511627776:=Je (zj3 (.mk o a v ps)) hs
 have e0:((ps.length:Int)==0)=decide (ps.length=0):=zp0 _ 0
 have e1:((ps.length:Int)==1)=decide (ps.length=1):=zp0 _ 1
 have e2:((ps.length:Int)==2)=decide (ps.length=2):=zp0 _ 2
 rcases zx1 o with rfl|rfl|rfl|rfl|rfl|rfl|rfl|rfl|rfl|⟨n1,n2,n3,n4,n5,n6,n7,n8,n9⟩
 ·have hN:Fm.here (.mk 1 a v ps)=(decide (ps.length=0)&&a.none&&(v==[])):=rfl;simp only[fmD,zaa,Fm.op,Fm.atom,Fm.var,Fm.parts];refine zae Tryz.call155 Tryz.func155 rfl Yz (zao Yz) ?_;refine Z2 ?_;simp only[e0];refine⟨λh=>?_,λh=>?_⟩
  ·refine callF (zfe a) Y4 ?_;refine Y5 ?_;refine⟨λh1=>?_,λh1=>?_⟩
   ·rw[hN,h,h1];rfl
   ·rw[hN,h,h1];rfl
  ·rw[hN,h];rfl
 ·have hN:Fm.here (.mk 2 a v ps)=(decide (ps.length=0)&&a.none&&(v==[])):=rfl;simp only[fmD,zaa,Fm.op,Fm.atom,Fm.var,Fm.parts];refine zae Tryz.call155 Tryz.func155 rfl Yz (zao Yz) ?_;refine Z2 ?_;simp only[e0];refine⟨λh=>?_,λh=>?_⟩
  ·refine callF (zfe a) Y4 ?_;refine Y5 ?_;refine⟨λh1=>?_,λh1=>?_⟩
   ·rw[hN,h,h1];rfl
   ·rw[hN,h,h1];rfl
  ·rw[hN,h];rfl
 ·have hN:Fm.here (.mk 3 a v ps)=(decide (ps.length=0)&&a.atomOk&&(v==[])):=rfl;simp only[fmD,zaa,Fm.op,Fm.atom,Fm.var,Fm.parts];refine zae Tryz.call155 Tryz.func155 rfl Yz (zao Yz) ?_;refine Z2 ?_;simp only[e0];refine⟨λh=>?_,λh=>?_⟩
  ·refine callF (zx8 a ha) Y4 ?_;refine Y5 ?_;refine⟨λh1=>?_,λh1=>?_⟩
   ·rw[hN,h,h1];rfl
   ·rw[hN,h,h1];rfl
  ·rw[hN,h];rfl
 ·have hN:Fm.here (.mk 4 a v ps)=(decide (ps.length=1)&&a.none&&(v==[])):=rfl;simp only[fmD,zaa,Fm.op,Fm.atom,Fm.var,Fm.parts];refine zae Tryz.call155 Tryz.func155 rfl Yz (zao Yz) ?_;refine Z2 ?_;simp only[e1];refine⟨λh=>?_,λh=>?_⟩
  ·refine callF (zfe a) Y4 ?_;refine Y5 ?_;refine⟨λh1=>?_,λh1=>?_⟩
   ·rw[hN,h,h1];rfl
   ·rw[hN,h,h1];rfl
  ·rw[hN,h];rfl
 ·have hN:Fm.here (.mk 5 a v ps)=(decide (ps.length=2)&&a.none&&(v==[])):=rfl;simp only[fmD,zaa,Fm.op,Fm.atom,Fm.var,Fm.parts];refine zae Tryz.call155 Tryz.func155 rfl Yz (zao Yz) ?_;refine Z2 ?_;simp only[e2];refine⟨λh=>?_,λh=>?_⟩
  ·refine callF (zfe a) Y4 ?_;refine Y5 ?_;refine⟨λh1=>?_,λh1=>?_⟩
   ·rw[hN,h,h1];rfl
   ·rw[hN,h,h1];rfl
  ·rw[hN,h];rfl
 ·have hN:Fm.here (.mk 6 a v ps)=(decide (ps.length=2)&&a.none&&(v==[])):=rfl;simp only[fmD,zaa,Fm.op,Fm.atom,Fm.var,Fm.parts];refine zae Tryz.call155 Tryz.func155 rfl Yz (zao Yz) ?_;refine Z2 ?_;simp only[e2];refine⟨λh=>?_,λh=>?_⟩
  ·refine callF (zfe a) Y4 ?_;refine Y5 ?_;refine⟨λh1=>?_,λh1=>?_⟩
   ·rw[hN,h,h1];rfl
   ·rw[hN,h,h1];rfl
  ·rw[hN,h];rfl
 ·have hN:Fm.here (.mk 7 a v ps)=(decide (ps.length=2)&&a.none&&(v==[])):=rfl;simp only[fmD,zaa,Fm.op,Fm.atom,Fm.var,Fm.parts];refine zae Tryz.call155 Tryz.func155 rfl Yz (zao Yz) ?_;refine Z2 ?_;simp only[e2];refine⟨λh=>?_,λh=>?_⟩
  ·refine callF (zfe a) Y4 ?_;refine Y5 ?_;refine⟨λh1=>?_,λh1=>?_⟩
   ·rw[hN,h,h1];rfl
   ·rw[hN,h,h1];rfl
  ·rw[hN,h];rfl
 ·have hN:Fm.here (.mk 8 a v ps)=(decide (ps.length=1)&&a.none&&za9 v):=rfl;simp only[fmD,zaa,Fm.op,Fm.atom,Fm.var,Fm.parts];refine zae Tryz.call155 Tryz.func155 rfl Yz (zao Yz) ?_;refine Z2 ?_;simp only[e1];refine⟨λh=>?_,λh=>?_⟩
  ·refine callF (zfe a) Y4 ?_;refine Y5 ?_;refine⟨λh1=>?_,λh1=>?_⟩
   ·refine callF (zih v) Yy ?_;refine Y1 ?_;rw[hN,h,h1];rfl
   ·rw[hN,h,h1];rfl
  ·rw[hN,h];rfl
 ·have hN:Fm.here (.mk 9 a v ps)=(decide (ps.length=1)&&a.none&&za9 v):=rfl;simp only[fmD,zaa,Fm.op,Fm.atom,Fm.var,Fm.parts];refine zae Tryz.call155 Tryz.func155 rfl Yz (zao Yz) ?_;refine Z2 ?_;simp only[e1];refine⟨λh=>?_,λh=>?_⟩
  ·refine callF (zfe a) Y4 ?_;refine Y5 ?_;refine⟨λh1=>?_,λh1=>?_⟩
   ·refine callF (zih v) Yy ?_;refine Y1 ?_;rw[hN,h,h1];rfl
   ·rw[hN,h,h1];rfl
  ·rw[hN,h];rfl
 ·have hN:Fm.here (.mk o a v ps)=false:=by simp[Fm.here,zk6,isQ,Fm.op, *]
  have f1:(o==1)=false:=by simpa using n1
  have f2:(o==2)=false:=by simpa using n2
  have f3:(o==3)=false:=by simpa using n3
  have f4:(o==4)=false:=by simpa using n4
  have f5:(o==5)=false:=by simpa using n5
  have f6:(o==6)=false:=by simpa using n6
  have f7:(o==7)=false:=by simpa using n7
  have f8:(o==8)=false:=by simpa using n8
  have f9:(o==9)=false:=by simpa using n9
  simp only[fmD,zaa,Fm.op,Fm.atom,Fm.var,Fm.parts];refine zae Tryz.call155 Tryz.func155 rfl Yz (zao Yz) ?_;simp -implicitDefEqProofs only[go_sem,Tryz.results155,f1,f2,f3,f4,f5,f6,f7,f8,f9];rw[hN]
def Fm.forms:Fm->Bool:=Fm.fold λo a v ps rs=>(Fm.mk o a v ps).here&&rs.all id
theorem Fm.forms_eq (f:Fm):f.forms=(f.here&&f.parts.all Fm.forms):=by
 unfold Fm.forms
 rw[Fm.fold_eq]
 simp only[J8,Fm.eta]
 rfl
theorem qbd (a:Fm)(hs:a.wt<=1099511627776)(H:∀x∈a.parts,FC Tryz.prog 131 [fmD x] [bD x.forms]):FC Tryz.prog 131 [fmD a] [bD a.forms]:=by
 have hl:a.parts.length<=9223372036854775807:=by rw[Fm.wt_eq]at hs;omega
 have hN:=a.forms_eq
 simp only[fmD,zaa]
 refine zae Tryz.call131 Tryz.func131 rfl Yz (zao Yz) ?_
 simp -implicitDefEqProofs only[go_sem,Tryz.results131]
 refine callF (qly a hs) Zp ?_
 refine Zx ?_
 refine⟨λh=>?_,λh=>?_⟩
 ·rw[hN,show a.here=false by simpa using h];rfl
 ·rw[show a.here=true by simpa using h,Qv]at hN;refine zah (λk:Nat=>hd [(1,.one (.bx 1 0)),(3,vI k)] [(1,[.t (.int .i64 a.op),.t (.str a.atom.name),.t (tmS a.atom.args),.t (.str a.var),.t (fmS a.parts)])] []) (λk=>k<=a.parts.length/\a.forms=(a.parts.drop k).all Fm.forms) (λk=>a.parts.length-k) 0 (zad ?_) ?_ ?_
  ·exact Yy
  ·exact⟨by simp,hN⟩
  ·intro k ⟨hk,hr⟩;by_cases hlt:k<a.parts.length
   ·rw[Qm hlt,Ks]at hr;refine Vt ?_;refine callF (H a.parts[k] (Qk hlt)) Zp ?_;refine Zx ?_;refine⟨λh=>?_,λh=>⟨k+1,⟨hlt,?_⟩,Y0,zad (by simp -implicitDefEqProofs only[go_sem];rw[zaq Y0])⟩⟩
    ·rw[hr,show a.parts[k].forms=false by simpa using h];rfl
    ·rw[hr,show a.parts[k].forms=true by simpa using h];rfl
   ·refine Vd ?_;rw[hr,Q0 Y0];rfl
theorem qfh:∀a:Fm,a.wt<=1099511627776->FC Tryz.prog 131 [fmD a] [bD a.forms] :=
 zck λo a v xs ih hs=>qbd (.mk o a v xs) hs λx hx=>ih x hx (Je (zd3 (a:=.mk o a v xs) hx) hs)
def Fm.good (a:Fm):Bool:=decide (a.nodes<=40)&&a.forms
theorem ql9 (a:Fm)(hs:a.wt<=1099511627776):FC Tryz.prog 105 [fmD a] [bD a.good]:=by
 simp only[fmD,zaa]
 refine zae Tryz.call105 Tryz.func105 rfl Yz (zao Yz) ?_
 simp -implicitDefEqProofs only[go_sem,Tryz.results105]
 refine callF (qol a hs 40 Y0 Y0) Zp ?_
 refine Zx ?_
 rw[show decide (zgm a 40<=40)=decide (a.nodes<=40) from qn5 a 40]
 refine⟨λh=>?_,λh=>?_⟩
 ·refine callF (qfh a hs) Zp ?_;refine Zx ?_;rw[Fm.good,h,Qv]
 ·rw[Fm.good,h,Qx]
end
end Go.Proofs.YtnemmlahbbbobaaGreat
