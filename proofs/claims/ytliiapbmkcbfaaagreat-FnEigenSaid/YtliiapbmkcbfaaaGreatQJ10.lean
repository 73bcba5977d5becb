/-
  The walk over plain data, and contracts of functions of the program and of its laws.
  Conditions: those that each theorem names.
-/
import Derived.Test.YtliiapbmkcbfaaaGreatQJ9
import Derived.Test.YtliiapbmkcbfaaaGreatQJ8
import Derived.Test.YtliiapbmkcbfaaaGreatQJ7
import Derived.Test.YtliiapbmkcbfaaaGreatQJ5
namespace Go.Proofs.YtliiapbmkcbfaaaGreat
set_option linter.unusedSimpArgs false
set_option linter.unusedVariables false
set_option linter.unusedSectionVars false
set_option maxRecDepth 4000
set_option maxHeartbeats 8000000
section
open Go.RowKit
variable {P:Program}
theorem qah {σ:St}{g:Gh}{w:World}{v:Value}{c:C}:∀{cs:List C}{vs:List Value}{m:Nat},CRs σ g w cs vs->cs[m]?=some (.cv v)->CR σ g w c v->CRs σ g w (cs.set m c) vs
 | [],_,_,h,_,_=>h
 | x::cs,vs,0,h,hm,hc=>by
  obtain⟨u,us,rfl,h1,h2⟩:=h;rw[List.getElem?_cons_zero,Qf]at hm;subst hm;have h1:u=v:=h1;subst h1;exact⟨u,us,rfl,hc,h2⟩
 | x::cs,vs,m+1,h,hm,hc=>by
  obtain⟨u,us,rfl,h1,h2⟩:=h;rw[List.getElem?_cons_succ]at hm;exact⟨u,us,rfl,h1,qah h2 hm hc⟩
theorem Rel.takeA {n0:Nat->Prop}{N:Nat}{σ:St}{g:Gh}{a:Act}{w:World}(hR:Rel n0 N σ g a w){e e' s m i j sz gn sz1:Nat}{cz:List C}{rows rows1:List (List T)}{r:List T}{v:Value}(hD:Deep ⟨upd σ.sl s (.one .any),σ.bx,σ.ev⟩)
  (hsl:σ.sl s=.agg cz) (hcs:cz.all C.mOk=true) (hm:cz[m]?=some (.cv v)) (he:σ.ev e=some ⟨true,sz,rows,gn,true⟩) (hr:rows[i]?=some r) (hc:r[j]?=some (.pin v (.sl sz1 rows1))) (hne:σ.ev e'=none) :
  ∃ao ln c,∃g',Rel n0 N ⟨upd σ.sl s (.agg (cz.set m (.ow e' 0))),σ.bx,upd (upd σ.ev e (some ⟨true,sz,rows.set i (r.set j (.vs ao ln c)),gn,true⟩)) e' (some ⟨true,sz1,rows1,0,true⟩)⟩ g' a w/\g'.A0=g.A0/\g'.R0=g.R0:=by
 have hOn:σ.On e:=⟨_,he,rfl⟩
 have hee:e≠e':=fun h=>by rw[h,hne]at he;cases he
 have hO:=zeb hR he
 have hnd:=hR.nodup e hOn
 unfold za3 at hO
 obtain⟨ao0,cap,e1,e2,e3,e4⟩:=hO
 rcases e4 with⟨_,_,rfl,_⟩|⟨b0,cells,ty,fps,k1,k2,k3,k4,k5⟩
 ·simp at hr
 obtain⟨f1,ff,f2,u,rfl,c1,c2,c3⟩:=zao.cell k5 hr hc
 unfold za3 at c2
 obtain⟨rfl,c2⟩:=c2
 have c2':=c2
 unfold za3 at c2'
 obtain⟨ao,cp,hv,hv2,hv3,hv4⟩:=c2'
 rw[k2]at hnd
 obtain⟨nb,nd⟩:=Ja.1 hnd
 obtain⟨nd1,nd2,nd3⟩:=Ka.1 nd
 obtain⟨nd4,nd5,nd6⟩:=Ka.1 nd2
 have hsubf:∀b,b∈ff->b∈g.φ e:=fun b hb=>by rw[k2];simp[hb]
 have hsubr:∀b,b∈b0::(f1++f2)->b∈g.φ e:=fun b hb=>by
  rw[k2];simp only[Qu,Qv]at hb⊢;rcases hb with h|h|h
  ·exact Or.inl h
  ·exact Or.inr (Or.inl h)
  ·exact Or.inr (Or.inr (Or.inr h))
 have hdis:∀b,b∈b0::(f1++f2)->b∉ff:=fun b h hm=>by
  simp only[Qu,Qv]at h;rcases h with rfl|h|h
  ·exact nb (by simp[hm])
  ·exact nd3 b h b (by simp[hm]) rfl
  ·exact nd6 b hm b h rfl
 have hndr:(b0::(f1++f2)).Nodup:=by
  refine Ja.2 ⟨fun hm=>nb ?_,Ka.2 ⟨nd1,nd5,fun x hx y hy hxy=>nd3 x hx y (by simp[hy]) hxy⟩⟩;simp only[Qv]at hm⊢;rcases hm with h|h
  ·exact Or.inl h
  ·exact Or.inr (Or.inr h)
 have hrows:=c3 w (.vs ao rows1.length cp) [] (fun _ _=>rfl) (by unfold za3;exact⟨hv,rfl⟩)
 rw[Ki]at hrows
 obtain⟨d1,d2,d3⟩:=hD
 refine⟨ao,rows1.length,cp,{ g with ψ:=fun q n=>if q=e' then u else g.ψ q n,φ:=upd (upd g.φ e (b0::(f1++f2))) e' ff },?_,rfl,rfl⟩
 have φe:(upd (upd g.φ e (b0::(f1++f2))) e' ff) e=b0::(f1++f2):=by rw[zal _ _ hee,zag]
 have φe':(upd (upd g.φ e (b0::(f1++f2))) e' ff) e'=ff:=zag _ _ _
 have φo:∀q,q≠e->q≠e'->(upd (upd g.φ e (b0::(f1++f2))) e' ff) q=g.φ q:=fun q h1 h2=>by rw[zal _ _ h2,zal _ _ h1]
 have hev:∀q,q≠e->q≠e'->(upd (upd σ.ev e (some ⟨true,sz,rows.set i (r.set j (.vs ao rows1.length cp)),gn,true⟩)) e' (some ⟨true,sz1,rows1,0,true⟩)) q=σ.ev q:=fun q h1 h2=>by rw[zal _ _ h2,zal _ _ h1]
 have heve:(upd (upd σ.ev e (some ⟨true,sz,rows.set i (r.set j (.vs ao rows1.length cp)),gn,true⟩)) e' (some ⟨true,sz1,rows1,0,true⟩)) e=some ⟨true,sz,rows.set i (r.set j (.vs ao rows1.length cp)),gn,true⟩:=by rw[zal _ _ hee,zag]
 have heve':(upd (upd σ.ev e (some ⟨true,sz,rows.set i (r.set j (.vs ao rows1.length cp)),gn,true⟩)) e' (some ⟨true,sz1,rows1,0,true⟩)) e'=some ⟨true,sz1,rows1,0,true⟩:=zag _ _ _
 generalize hE:(upd (upd σ.ev e (some ⟨true,sz,rows.set i (r.set j (.vs ao rows1.length cp)),gn,true⟩)) e' (some ⟨true,sz1,rows1,0,true⟩))=ev2 at hev heve heve'
 generalize hF:(upd (upd g.φ e (b0::(f1++f2))) e' ff)=φ2 at φe φe' φo
 have hψe:∀q n,q≠e'->(if q=e' then u else g.ψ q n)=g.ψ q n:=fun q n h=>if_neg h
 have hold:∀q,St.On ⟨upd σ.sl s (.agg (cz.set m (.ow e' 0))),σ.bx,ev2⟩ q->∃p,σ.On p/\(∀b∈φ2 q,b∈g.φ p)/\(q≠e'->p=q)/\(q=e'->p=e):=fun q hq=>by
  by_cases h1:q=e'
  ·subst h1;exact⟨e,hOn,fun b hb=>hsubf b (by rw[φe']at hb;exact hb),fun h=>absurd rfl h,fun _=>rfl⟩
  ·by_cases h2:q=e
   ·subst h2;exact⟨q,hOn,fun b hb=>hsubr b (by rw[φe]at hb;exact hb),fun _=>rfl,fun h=>absurd h h1⟩
   ·obtain⟨x,hx,ho⟩:=hq;have hx:ev2 q=some x:=hx;rw[hev q h2 h1]at hx;exact⟨q,⟨x,hx,ho⟩,fun b hb=>by rw[φo q h2 h1]at hb;exact hb,fun _=>rfl,fun h=>absurd h h1⟩
 have hhas:∀q n,σ.has q n->St.has ⟨upd σ.sl s (.agg (cz.set m (.ow e' 0))),σ.bx,ev2⟩ q n/\(if q=e' then u else g.ψ q n)=g.ψ q n:=fun q n ⟨x,hx,hg⟩=>by
  have h1:q≠e':=fun h=>by rw[h,hne]at hx;cases hx
  refine⟨?_,hψe q n h1⟩;by_cases h2:q=e
  ·subst h2;rw[he]at hx;cases hx;exact⟨_,heve,hg⟩
  ·exact⟨x,(hev q h2 h1).trans hx,hg⟩
 have hrn:∀b,zb6 σ g w b->zb6 ⟨upd σ.sl s (.agg (cz.set m (.ow e' 0))),σ.bx,ev2⟩ { g with ψ:=fun q n=>if q=e' then u else g.ψ q n,φ:=φ2 } w b:=fun b hb=>by
  have hno:∀q,St.On ⟨upd σ.sl s (.agg (cz.set m (.ow e' 0))),σ.bx,ev2⟩ q->b∉φ2 q:=fun q hq hm=>by
   obtain⟨p,p1,p2,_⟩:=hold q hq;exact hb.2 p p1 (p2 b hm)
  exact⟨⟨hb.1.1,fun q x hx ho hh=>hno q ⟨x,hx,ho⟩ (List.mem_of_mem_head? hh),hb.1.2.2⟩,hno⟩
 have hdeep:∀q x,q≠e->q≠e'->ev2 q=some x->σ.ev q=some x/\x.on=true/\x.deep=true:=fun q x h1 h2 hx=>by
  rw[hev q h1 h2]at hx;exact⟨hx,d3 q x hx⟩
 refine⟨hR.defers,hR.size,hR.anew,fun q=>?_,fun b cs hb=>?_,hR.base,hR.inj,fun q x hx ho=>?_,fun q x hx ho=>?_,fun q n=>?_,fun q hq b hb=>?_,fun q hq b hb=>?_,fun q hq=>?_,fun q q' hq hq' hne' b hb hb'=>?_,fun q k hq hk hb=>?_⟩
 ·show VR _ _ _ (upd σ.sl s (.agg (cz.set m (.ow e' 0))) q) _
  have hv0:=hR.slots q;by_cases hqs:q=s
  ·subst hqs;rw[zag];rw[hsl]at hv0;obtain⟨a1,k1,k2⟩:=hv0;have k3:=zq9 (σ:=σ) (g:=g) (σ':=⟨upd σ.sl q (.agg (cz.set m (.ow e' 0))),σ.bx,ev2⟩) (g':={ g with ψ:=fun q n=>if q=e' then u else g.ψ q n,φ:=φ2 }) rfl rfl hhas hrn hcs k2;exact⟨a1,k1,qah k3 hm ⟨(if_pos rfl).symm,⟨_,heve',Qw _⟩⟩⟩
  ·rw[zal _ _ hqs];have hm:=d1 q;have hm:(upd σ.sl s (.one .any) q).mOk=true:=hm;rw[zal _ _ hqs]at hm;exact mv_vr (σ:=σ) (g:=g) (σ':=⟨upd σ.sl s (.agg (cz.set m (.ow e' 0))),σ.bx,ev2⟩) (g':={ g with ψ:=fun q n=>if q=e' then u else g.ψ q n,φ:=φ2 }) rfl rfl hhas hrn hm hv0
 ·obtain⟨vs,ty,q1,q2⟩:=hR.boxes b cs hb;exact⟨vs,ty,q1,zq9 (σ:=σ) (g:=g) (σ':=⟨upd σ.sl s (.agg (cz.set m (.ow e' 0))),σ.bx,ev2⟩) (g':={ g with ψ:=fun q n=>if q=e' then u else g.ψ q n,φ:=φ2 }) rfl rfl hhas hrn (d2 b cs hb) q2⟩
 ·have hx2:ev2 q=some x:=hx;clear hx;show EvR w _ x (if q=e' then u else g.ψ q x.gen) (φ2 q)
  by_cases h1:q=e'
  ·subst h1;rw[heve']at hx2;cases hx2;rw[if_pos rfl,φe'];refine⟨ao,cp,hv,hv2,hv3,?_⟩;rcases hv4 with h|⟨b,cells,ty,fps,q1,q2,q3,q4,q5⟩
   ·exact Or.inl h
   ·exact Or.inr ⟨b,cells,ty,fps,q1,q2,q3,q4,by rw[if_pos rfl];exact q5⟩
  ·rw[if_neg h1];by_cases h2:q=e
   ·subst h2;rw[heve]at hx2;cases hx2;rw[φe];exact⟨ao0,cap,by simpa using e1,by simpa using e2,e3,Or.inr ⟨b0,cells,ty,_,k1,rfl,k3,k4,by rw[if_pos rfl];exact hrows⟩⟩
   ·obtain⟨g1,g2,g3⟩:=hdeep q x h2 h1 hx2;rw[φo q h2 h1];obtain⟨ao,cap,r1,r2,r3,r4⟩:=hR.evs q x g1 g2;refine⟨ao,cap,r1,r2,r3,?_⟩;rcases r4 with r4|⟨b,cells,ty,fps,r4,r5,r6,r7,r8⟩
    ·exact Or.inl r4
    ·rw[if_pos g3]at r8;exact Or.inr ⟨b,cells,ty,fps,r4,r5,r6,r7,by rw[if_pos g3];exact r8⟩
 ·have hx2:ev2 q=some x:=hx;clear hx;by_cases h1:q=e'
  ·subst h1;rw[heve']at hx2;cases hx2;cases ho
  ·by_cases h2:q=e
   ·subst h2;rw[heve]at hx2;cases hx2;cases ho
   ·have:=(hdeep q x h2 h1 hx2).2.1;rw[this]at ho;cases ho
 ·show ∃ao l c,(if q=e' then u else g.ψ q n)=.slice ao l c
  by_cases h1:q=e'
  ·rw[if_pos h1];exact⟨_,_,_,hv⟩
  ·rw[if_neg h1];exact hR.slc q n
 ·obtain⟨p,p1,p2,_⟩:=hold q hq;exact hR.ebase p p1 b (p2 b hb)
 ·obtain⟨p,p1,p2,_⟩:=hold q hq;exact hR.etop p p1 b (p2 b hb)
 ·show(φ2 q).Nodup
  by_cases h1:q=e'
  ·subst h1;rw[φe'];exact nd4
  ·by_cases h2:q=e
   ·subst h2;rw[φe];exact hndr
   ·obtain⟨p,p1,p2,p3,_⟩:=hold q hq;rw[φo q h2 h1];have:=p3 h1;subst this;exact hR.nodup p p1
 ·have hb2:b∈φ2 q:=hb;clear hb;have hb2':b∈φ2 q':=hb';clear hb';by_cases h1:q=e'
  ·subst h1;by_cases h2:q'=e
   ·subst h2;rw[φe']at hb2;rw[φe]at hb2';exact hdis b hb2' hb2
   ·obtain⟨p,p1,p2,p3,_⟩:=hold q' hq';have:=p3 (Ne.symm hne');subst this;rw[φe']at hb2;exact hR.apart e p hOn p1 (Ne.symm h2) b (hsubf b hb2) (p2 b hb2')
  ·by_cases h3:q'=e'
   ·subst h3;by_cases h2:q=e
    ·subst h2;rw[φe']at hb2';rw[φe]at hb2;exact hdis b hb2 hb2'
    ·obtain⟨p,p1,p2,p3,_⟩:=hold q hq;have:=p3 h1;subst this;rw[φe']at hb2';exact hR.apart e p hOn p1 (Ne.symm h2) b (hsubf b hb2') (p2 b hb2)
   ·obtain⟨p,p1,p2,p3,_⟩:=hold q hq;obtain⟨p',p1',p2',p3',_⟩:=hold q' hq';have:=p3 h1;subst this;have:=p3' h3;subst this;exact hR.apart p p' p1 p1' hne' b (p2 b hb2) (p2' b hb2')
 ·obtain⟨p,p1,p2,_⟩:=hold q hq;exact hR.ebx p k p1 hk (p2 _ hb)
end
section
open Go.RowKit
variable {P:Program}
theorem zbj.flat {w:World}{A A':Nat->Prop}{b:Nat}:∀{r:List T}{o:Nat},r.all T.flat=true->zbj w A b o r->zbj w A' b o r
 | [],_,_,_=>by unfold zbj;trivial
 | c::cs,o,hf,h=>by
  rw[Kt,Qc]at hf;unfold zbj at h⊢;obtain⟨⟨v,h1,h2⟩,h3⟩:=h;exact⟨⟨v,h1,zdy hf.1 h2⟩,zbj.flat hf.2 h3⟩
theorem zat.flat {w:World}{A A':Nat->Prop}{b sz:Nat}:∀{rows:List (List T)}{o:Nat},flR rows=true->zat w A b o sz rows->zat w A' b o sz rows
 | [],_,_,_=>by unfold zat;trivial
 | r::rs,o,hf,h=>by
  unfold flR at hf;rw[Qc]at hf;unfold zat at h⊢;exact⟨h.1,zbj.flat hf.1 h.2.1,zat.flat hf.2 h.2.2⟩
theorem V.mapid (x:V):V.map id x=x:=by
 cases x with
 | one c=>rfl
 | agg cs=>exact congrArg V.agg (Yl cs)
 | tup xs=>exact congrArg V.tup ((Kk fun y _=>by simp).trans (Yl xs))
section
variable {ks:List Fr}{Q:Exit->St->Prop}{σ:St}{ops:Array Oper}{os:List Oper}{L:List (List Ky×List Ky)}{d:Nat}{t:TypeId}{ty:TypeId}{ps:String}{af:Array Edge}{len:Nat}{parts:Array (Nat×Operand)}{n:Nat}{rs:List (List C)}{rows:List (List T)}
theorem qjp (h:zox P (σ.get P) t len parts=some (n,rs)/\zym σ rs=some rows/\σ.ev (d*32)=none)(hf:flR rows=true):zai P ⟨some d,.buildSlice t len parts,ty,ps,af,none⟩ σ (σ.put (some d) (.one (.rn (.sl n rows)))):=fun n0 N g a w hR hn hdN=>by
 refine Oper.wp_mono ?_ (ztz (P:=P) (ty:=ty) (ps:=ps) (af:=af) h n0 N g a w hR hn hdN)
 rintro a' w' ⟨g',r1,r2,r3,r4⟩
 have he:=h.2.2
 obtain⟨s1,hg⟩:=fs_wkG (σ:=(σ.apd (d*32) [] ⟨false,n,rows,0,true⟩).put (some d) (.one (.ow (d*32) 0))) (e:=d*32) (x:=⟨false,n,rows,0,true⟩) (zag _ _ _) rfl rfl r1
 have e1:((σ.apd (d*32) [] ⟨false,n,rows,0,true⟩).put (some d) (.one (.ow (d*32) 0))).fs (d*32) ⟨false,n,rows,0,true⟩=σ.put (some d) (.one (.t (.sl n rows))):=by
  have q1:fsS (upd σ.sl d (.one (.ow (d*32) 0))) (d*32) ⟨false,n,rows,0,true⟩=upd σ.sl d (.one (.t (.sl n rows))):=funext fun i=>by
   show V.map _ (upd σ.sl d _ i)=_
   by_cases hi:i=d
   ·subst hi;rw[zag,zag];show V.one (C.fs _ _ (.ow _ 0))=_
    simp[C.fs]
   ·rw[zal _ _ hi,zal _ _ hi];exact nor_v he (hR.slots i)
  have q2:fsB σ.bx (d*32) ⟨false,n,rows,0,true⟩=σ.bx:=funext fun b=>by
   show(σ.bx b).map _=_
   cases hb:σ.bx b with
   | none=>rfl
   | some cs =>
    obtain⟨vs,ty',k1,k2⟩:=hR.boxes b cs hb;exact congrArg some (zvc he k2)
  have q3:fsE (upd σ.ev (d*32) (some ⟨false,n,rows,0,true⟩)) (d*32)=σ.ev:=funext fun k=>by
   show(if k=d*32 then none else upd σ.ev (d*32) _ k)=_
   by_cases hk:k=d*32
   ·rw[if_pos hk,hk,he]
   ·rw[if_neg hk,zal _ _ hk]
  show St.mk (fsS (upd σ.sl d (.one (.ow (d*32) 0))) (d*32) ⟨false,n,rows,0,true⟩) (fsB σ.bx (d*32) ⟨false,n,rows,0,true⟩) (fsE (upd σ.ev (d*32) (some ⟨false,n,rows,0,true⟩)) (d*32))=_
  rw[q1,q2,q3];rfl
 rw[e1]at s1 hg
 have hsl:=r1.slots d
 rw[show((σ.apd (d*32) [] ⟨false,n,rows,0,true⟩).put (some d) (.one (.ow (d*32) 0))).sl d=.one (.ow (d*32) 0) from zag _ _ _]at hsl
 obtain⟨ao,cap,f1,f2,f3,f4⟩:=r1.evs (d*32) ⟨false,n,rows,0,true⟩ (zag _ _ _) rfl
 have cr:∀c v,CR (σ.put (some d) (.one (.t (.sl n rows)))) g' w' c v->CR (σ.put (some d) (.one (.rn (.sl n rows)))) g' w' c v:=fun c v h=>by cases c<;>exact h
 have hb:∀(b:Nat) (cs:List C),(σ.put (some d) (.one (.rn (.sl n rows)))).bx b=some cs->∃vs ty,w'.heap[g'.β b]?=some (Obj.cells vs ty)/\CRs (σ.put (some d) (.one (.rn (.sl n rows)))) g' w' cs vs.toList:=fun b cs hb=>by
  obtain⟨vs,ty,k1,k2⟩:=s1.boxes b cs hb;have:=CRs.map (f:=id) cr k2;rw[Yl]at this;exact⟨vs,ty,k1,this⟩
 refine⟨g',{ s1 with slots:=fun i=>?_,boxes:=hb },r2,r3,r4⟩
 by_cases hi:i=d
 ·subst hi;rw[show(σ.put (some i) (.one (.rn (.sl n rows)))).sl i=.one (.rn (.sl n rows)) from zag _ _ _];have hv:=hsl.1;rw[f1]at hv;show zas w' (zb6 _ g' w') (.sl n rows) _
  rw[hv];unfold zas;refine⟨ao,cap,rfl,f2,f3,?_⟩;rcases f4 with⟨_,_,f4,_⟩|⟨b,cells,ty,fps,k1,k2,k3,k4,k5⟩
  ·exact Or.inl f4
  ·rw[if_neg (by simp)]at k5;exact Or.inr ⟨b,0,k1,hg b (by rw[k2];simp) (Array.getElem?_eq_some_iff.1 k3).1,zat.flat hf k5.2⟩
 ·have:=s1.slots i;rw[show(σ.put (some d) (.one (.t (.sl n rows)))).sl i=σ.sl i from zal _ _ hi]at this;rw[show(σ.put (some d) (.one (.rn (.sl n rows)))).sl i=σ.sl i from zal _ _ hi];have h2:=VR.map (f:=id) cr this;rw[V.mapid]at h2;exact h2
theorem qmv (h:zav (blS P σ t len parts) fun _=>σ.ev (d*32)=none)(hf:(match slOf (blS P σ t len parts)with|.sl _ rows=>flR rows|_=>false)=true)
  (k:exd P ops os (L++[(zaw (parts.toList.map (·.2))++(rK (qom (zox P (σ.get P) t len parts))++[(2,d*32)]),dK (some d)++eK [])]) ks Q (σ.put (some d) (.one (.rn (slOf (blS P σ t len parts)))))) :
  exd P ops (⟨some d,.buildSlice t len parts,ty,ps,af,none⟩::os) L ks Q σ:=by
 obtain⟨⟨x,cons⟩,h1,h2⟩:=zar h
 rw[h1]at k hf
 unfold blS at h1
 obtain⟨p,e1,h1⟩:=Qg.1 h1
 obtain⟨q,e2,h1⟩:=Q3.1 h1
 simp only[Qp]at h1
 obtain⟨rfl,rfl⟩:=h1
 rw[e1]at k
 have hf:flR q=true:=hf
 refine zgy rfl rfl ?_ k
 have:=zgz.of (P:=P) (σ:=σ) (o:=⟨some d,.buildSlice t len parts,ty,ps,af,none⟩) (l:=[]) (v:=.one (.rn (.sl p.1 q))) (R:=zaw (parts.toList.map (·.2))++(rK p.2++[(2,d*32)])) (zbp (zbz _) (zbp (qd6 _) rfl)) fun σ1 h1=>?_
 ·exact this
 ·have e3:zox P (σ1.get P) t len parts=zox P (σ.get P) t len parts:=ztr fun t x hx=>zcg (fun k hk=>h1 k (by simp[hk])) hx t;have e4:zym σ1 p.2=zym σ p.2:=zu2 fun k hk=>h1 k (by simp[hk]);exact qjp ⟨e3.trans e1,e4.trans e2,(Eq.symm (h1 (2,d*32) (by simp))).trans h2⟩ hf
end
theorem zm8 {σ:St}{f f':Nat->V}{g:Gh}{w:World}(c:C)(v:Value)(h:CR ⟨f,σ.bx,σ.ev⟩ g w c v):CR ⟨f',σ.bx,σ.ev⟩ g w c v:=by cases c<;>exact h
theorem qf7 {σ:St}{f:Nat->V}(h:∀(g:Gh)(w:World)(i:Nat)(v:Value),VR σ g w (σ.sl i) v->VR ⟨f,σ.bx,σ.ev⟩ g w (f i) v):Wk σ ⟨f,σ.bx,σ.ev⟩:=fun n0 N g a w hR=>by
 have hb:∀(b:Nat) (cs:List C),(⟨f,σ.bx,σ.ev⟩:St).bx b=some cs->∃vs ty,w.heap[g.β b]?=some (Obj.cells vs ty)/\CRs ⟨f,σ.bx,σ.ev⟩ g w cs vs.toList:=fun b cs hb=>by
  obtain⟨vs,ty,k1,k2⟩:=hR.boxes b cs hb;have:=CRs.map (f:=id) (zm8 (σ:=σ) (f:=σ.sl) (f':=f)) k2;rw[Yl]at this;exact⟨vs,ty,k1,this⟩
 exact⟨g,{ hR with slots:=fun i=>h g w i _ (hR.slots i),boxes:=hb },rfl,rfl⟩
theorem qfl {σ:St}{f f':Nat->V}{g:Gh}{w:World}{x:V}{v:Value}(h:VR ⟨f,σ.bx,σ.ev⟩ g w x v):VR ⟨f',σ.bx,σ.ev⟩ g w x v:=by
 have h2:=VR.map (f:=id) (zm8 (σ:=σ) (f:=f) (f':=f')) h
 rw[V.mapid]at h2
 exact h2
theorem takeP {ks:List Fr}{Q:Exit->St->Prop}{σ:St}{ops:Array Oper}{o:Oper}{os:List Oper}(e e' s s2 i j sz1:Nat)(rows1:List (List T)){sz gn:Nat}{rows:List (List T)}{r:List T}{c0:C}{v:Value}
  (hsl:σ.sl s=.agg [c0,.t (.pin v (.sl sz1 rows1))]) (h0:c0.mOk=true) (hD:Deep ⟨upd (upd σ.sl s2 (.one .any)) s (.one .any),σ.bx,σ.ev⟩) (he:σ.ev e=some ⟨true,sz,rows,gn,true⟩) (hr:rows[i]?=some r) (hc:r[j]?=some (.pin v (.sl sz1 rows1))) (hne:σ.ev e'=none) (hss:s≠s2)
  (k:∀ao ln c,exoS P ops o os ks Q ⟨upd (upd σ.sl s2 (.one .any)) s (.agg [c0,.ow e' 0]),σ.bx,upd (upd σ.ev e (some ⟨true,sz,rows.set i (r.set j (.vs ao ln c)),gn,true⟩)) e' (some ⟨true,sz1,rows1,0,true⟩)⟩):exoS P ops o os ks Q σ:=by
 refine zb2.pre (σ':=⟨upd (upd σ.sl s2 (.one .any)) s (.agg [c0,.cv v]),σ.bx,σ.ev⟩) (qf7 fun g w q u hv=>?_) (zb2.preX fun n0 N g a w hR hn=>?_)
 ·by_cases h1:q=s
  ·subst h1;rw[zag];rw[hsl]at hv;obtain⟨x,rfl,u1,us,rfl,f3,u2,us2,rfl,f5,rfl⟩:=hv;refine⟨_,rfl,u1,_,rfl,zm8 (σ:=σ) _ _ f3,u2,_,rfl,?_,rfl⟩;have f5:zas w _ (.pin v _) u2:=f5;unfold zas at f5;exact f5.1
  ·rw[zal _ _ h1];by_cases h2:q=s2
   ·subst h2;rw[zag];trivial
   ·rw[zal _ _ h2];exact qfl (σ:=σ) hv
 ·have hD':Deep ⟨upd (upd (upd σ.sl s2 (.one .any)) s (.agg [c0,.cv v])) s (.one .any),σ.bx,σ.ev⟩:=⟨fun q=>by
   show(upd (upd (upd σ.sl s2 (.one .any)) s (.agg [c0,.cv v])) s (.one .any) q).mOk=true
   have:=hD.1 q
   change (upd (upd σ.sl s2 (.one .any)) s (.one .any) q).mOk=true at this
   by_cases h1:q=s
   ·subst h1;rw[zag];rfl
   ·rw[zal _ _ h1,zal _ _ h1]
    rwa [zal _ _ h1]at this,hD.2.1,hD.2.2⟩
  obtain⟨ao,ln,c,g',r1,r2,r3⟩:=hR.takeA (e:=e) (e':=e') (s:=s) (m:=1) (i:=i) (j:=j) hD' (zag _ _ _) (by show(c0.mOk&&((C.cv v).mOk&&true))=true;rw[h0];rfl) rfl he hr hc hne;refine⟨_,g',?_,r1,r2,r3⟩;have e1:upd (upd (upd σ.sl s2 (.one .any)) s (.agg [c0,.cv v])) s (.agg (([c0,.cv v]:List C).set 1 (.ow e' 0)))=upd (upd σ.sl s2 (.one .any)) s (.agg [c0,.ow e' 0]):=funext fun q=>by
   by_cases h1:q=s
   ·subst h1;rw[zag,zag];rfl
   ·rw[zal _ _ h1,zal _ _ h1,zal _ _ h1]
  show zb2 P o ⟨_,_,_⟩ _
  rw[e1];exact k ao ln c
end
section
open Go.RowKit
theorem ofR (code:List UInt8)(l:List Str)(hl:1<=l.length)(hn:l.length<=200):Drw code 137 [.p 0,.d false (.one (zbm l))] 1 (fun x:Str=>(true,.one (.str x))) (fun x=>x∈l):=fun q hq hp=>by
 have HN:=zvl hq Yt l.length Yt
 have hb:=q.pick_bd (n:=l.length) Yt
 obtain⟨j,hj⟩:∃j:Nat,(q.pick l.length).2=j:=⟨(q.pick l.length).2.toNat,Yt⟩
 have hjl:j<l.length:=by omega
 refine⟨(q.pick l.length).1,l[j],(q.pick_code _).trans hq,(q.pick_pos _).2,Qd hjl,?_⟩
 rw[hj]at HN
 refine zbh Tryz.call137 Tryz.func137 rfl Ys (by simp only[Qb,Qe,Tryz.ntmps137];omega) (by simp only[Tryz.ntmps137];omega) rfl rfl (by simp[zau,T.isPin,AF.ds,bxA]) (by simp[gFS,T.fs,T.flat,AF.ds,bxA]) rfl ?_
 simp -implicitDefEqProofs only[go_sem,Tryz.results137]
 refine zaq [5,1000000] [6,8] [1000000] [] (HN) (by decide) rfl (by simp -implicitDefEqProofs only[go_sem,hjl,zac]) (by simp -implicitDefEqProofs only[go_sem,hjl,zac]) (by simp -implicitDefEqProofs only[go_sem,hjl,zac]) (by simp -implicitDefEqProofs only[go_sem,hjl,zac]) ?_
 simp -implicitDefEqProofs only[go_sem,hjl,zac]
theorem zra (vs:Nat->Nat->Value):∀(us:List Tm)(i:Nat),List.map (fun r=>List.map zkl r) (zhh vs i (us.map tmC))=us.map tmC
 | [],_=>rfl
 | u::us,i=>by
  rw[Qi,zhh,Qi,zra vs us,zaa u];rfl
theorem qlo {c:Prop} [Decidable c]{x y:V}(hx:x.mOk=true)(hy:y.mOk=true):(if c then x else y).mOk=true:=by
 split
 ·exact hx
 ·exact hy
abbrev hdL:List Str:=[[61],[],[81,49],[98,50]]
theorem qh0 (code:List UInt8)(q q1 q2 q3:Cu)(t u:Tm)(us:List Tm)(s:Str)(ht:t.args=u::us)(hl:t.args.length<=100)(H1:PC Tryz.prog 141 (za4 code q) [.p 0] (za4 code q1) [(true,tmD t)])(H2:PC Tryz.prog 134 (za4 code q1) [.p 0,.d false (iD 24)] (za4 code q2) [(true,iD 4)])
  (H3:PC Tryz.prog 137 (za4 code q2) [.p 0,.d false (.one (zbm hdL))] (za4 code q3) [(true,.one (.str s))]) :
  PC Tryz.prog 201 (za4 code q) [.p 0] (za4 code q3) [(true,tmD (.mk t.name (.mk s u.args::us)))]:=by
 have hgt:decide (0<((us.length+1:Nat):Int))=true:=by simp
 simp only[tmD,zaa t,ht,Qi,zaa u]at H1
 simp only[zbm,hdL,Qi,Qk]at H3
 unfold tmD
 rw[show tmC (.mk t.name (.mk s u.args::us))=[.str t.name,.sl 2 ((.mk s u.args::us).map tmC)] from zaa _]
 refine zbh Tryz.call201 Tryz.func201 rfl Ys (by simp only[Qb,Qe,Tryz.ntmps201];omega) (by simp only[Tryz.ntmps201];omega) rfl rfl (by simp[zau,T.isPin,AF.ds,bxA]) (by simp[gFS,T.fs,T.flat,AF.ds,bxA]) rfl ?_
 simp -implicitDefEqProofs only[go_sem,Tryz.results201]
 refine zaq [0,2,1000000] [4] [1000000] [] (H1) (by decide) rfl Yr Yr Yr Yr ?_
 simp -implicitDefEqProofs only[go_sem]
 refine zaq [0,2,3,1000000] [6] [1000000] [] (H2) (by decide) rfl (by simp -implicitDefEqProofs only[go_sem,Qb,hgt]) (by simp -implicitDefEqProofs only[go_sem,Qb,hgt]) (by simp -implicitDefEqProofs only[go_sem,Qb,hgt]) (by simp -implicitDefEqProofs only[go_sem,Qb,hgt]) ?_
 simp -implicitDefEqProofs only[go_sem,Qb,hgt]
 refine qma 161 12 Ys Ys Yr fun vs=>?_
 simp -implicitDefEqProofs only[go_sem,Qb,Qa]
 refine qmv Yr Yr ?_
 simp -implicitDefEqProofs only[go_sem]
 refine zfk [1000000] (H3) (by decide) Yr Yr ?_
 simp -implicitDefEqProofs only[go_sem]
 refine⟨Yt,Yt,Ys,?_⟩
 refine takeP 161 5000 54 53 0 1 2 (u.args.map tmC) (sz:=2) (gn:=0) (rows:=[.str u.name,.pin (vs 0 1) (.sl 2 (u.args.map tmC))]::zhh vs 1 (us.map tmC)) (r:=[.str u.name,.pin (vs 0 1) (.sl 2 (u.args.map tmC))]) (c0:=.t (.str s)) (v:=vs 0 1) rfl rfl ⟨fun i=>?_,fun b cs hb=>?_,fun e x he=>?_⟩ rfl rfl rfl rfl (by decide) fun ao ln c=>?_
 ·by_cases h1:i=54
  ·subst h1;rfl
  by_cases h2:i=53
  ·subst h2;rfl
  simp only[upd,if_neg h1,if_neg h2]
  repeat refine qlo rfl ?_
  refine zu7 ?_ i;rfl
 ·simp only[upd]at hb;split at hb
  ·cases hb;rfl
  ·refine zvq ?_ hb;rfl
 ·simp only[upd]at he;split at he
  ·cases he;exact⟨rfl,rfl⟩
  ·refine zur ?_ he;rfl
 refine zqe (by
  simp -implicitDefEqProofs only[go_sem]
  exact fun _ h=>by rw[h];exact(by decide:(5000:Nat)≠161)) ?_
 simp -implicitDefEqProofs only[go_sem]
 left;right
 rw[zaa (.mk s u.args)]
 show[T.str s,T.sl 2 (u.args.map tmC)]::List.map (fun r=>List.map zkl r) (zhh vs 1 (us.map tmC))=_
 rw[zra]
 rfl
end
section
open Go.RowKit
theorem len_wt (t:Tm){W:Nat}(h:t.wt<=W):t.args.length<=W:=by rw[Tm.wt_eq]at h;omega
theorem qh7 (code:List UInt8):Drw code 201 [.p 0] 60 (fun t:Tm=>(true,tmD t)) (fun t=>t.wt<=400):=fun q hq hp=>by
 obtain⟨q1,t,c1,p1,o1,H1⟩:=zqc code q hq Yt
 obtain⟨q2,x,c2,p2,o2,H2⟩:=zjn code 24 Yt Yt q1 c1 Yt
 have hl:=len_wt t o1.1
 have hw:=Tm.wt_eq t
 by_cases h5:5<=x
 ·exact⟨q2,t,c2,Yt,(show t.wt<=400 by omega),zwf code q q1 q2 t x (Or.inl h5) H1 H2⟩
 rcases(show x=0\/x=1\/x=2\/x=3\/x=4 by omega)with rfl|rfl|rfl|rfl|rfl
 ·obtain⟨q3,s,c3,p3,o3,H3⟩:=ofD code nmL (by simp) (by simp) q2 c2 Yt;have hs:s.length<=8:=(show ∀s∈nmL,s.length<=8 by decide) s o3;refine⟨q3,.mk s t.args,c3,Yt,?_,qg0 code q q1 q2 q3 t s H1 H2 H3⟩;show(Tm.mk s t.args).wt<=400
  rw[zc6];omega
 ·obtain⟨q3,y,c3,p3,o3,H3⟩:=zjn code 3 Yt Yt q2 c2 Yt;obtain⟨m,hm⟩:∃m:Nat,7+y=m:=⟨(7+y).toNat,Yt⟩;obtain⟨q4,u,c4,p4,o4,H4⟩:=towerD code m Yt q3 c3 Yt;rw[<-hm]at H4;exact⟨q4,u,c4,Yt,(show u.wt<=400 by omega),qca code q q1 q2 q3 q4 t u y o3 H1 H2 H3 H4⟩
 ·obtain⟨q3,u,c3,p3,o3,H3⟩:=wideD code q2 c2 Yt;exact⟨q3,u,c3,Yt,(show u.wt<=400 by omega),qis code q q1 q2 q3 t u H1 H2 H3⟩
 ·obtain⟨q3,a,c3,p3,o3,H3⟩:=zqc code q2 c2 Yt;obtain⟨q4,b,c4,p4,o4,H4⟩:=zqc code q3 c3 Yt;obtain⟨q5,c,c5,p5,o5,H5⟩:=zqc code q4 c4 Yt;refine⟨q5,.mk t.name (t.args++[a,b,c]),c5,Yt,?_,qih code q q1 q2 q3 q4 q5 t a b c Yt H1 H2 H3 H4 H5⟩;show(Tm.mk t.name (t.args++[a,b,c])).wt<=400
  rw[zc6];simp only[Qh,Qb,Qe,Qt,Qi,Qk,Js,Qz,Ks];omega
 ·cases ha:t.args with
  | nil=>exact⟨q2,t,c2,Yt,(show t.wt<=400 by omega),zwf code q q1 q2 t 4 (Or.inr ⟨rfl,ha⟩) H1 H2⟩
  | cons u us =>
   obtain⟨q3,s,c3,p3,o3,H3⟩:=ofR code hdL (by simp) (by simp) q2 c2 Yt;have hs:s.length<=8:=(show ∀s∈hdL,s.length<=8 by decide) s o3;refine⟨q3,.mk t.name (.mk s u.args::us),c3,Yt,?_,qh0 code q q1 q2 q3 t u us s ha Yt H1 H2 H3⟩;show(Tm.mk t.name (.mk s u.args::us)).wt<=400
   have hu:=Tm.wt_eq u;rw[ha]at hw;simp only[Qb,Qi,Qz]at hw;rw[zc6];simp only[Qb,Qi,Qz];rw[zc6];omega
end
section
open Go.RowKit
theorem zmi (f:Fm)(o:Int)(a:Tm)(v:Str)(ps:List Fm):(Fm.mk o a v ps).wt=a.wt+v.length+(ps.length+(ps.map Fm.wt).sum):=by rw[zoc];omega
theorem zrs (code:List UInt8):Drw code 142 [.p 0] 1500 (fun f:Fm=>(true,fmD f)) (fun f=>f.wt<=8000):=fun q hq hp=>by
 obtain⟨q1,f,c1,p1,o1,H1⟩:=zju code q hq Yt
 obtain⟨q2,x,c2,p2,o2,H2⟩:=zjn code 24 Yt Yt q1 c1 Yt
 have hw:=Fm.wt_eq f
 by_cases h6:6<=x
 ·exact⟨q2,f,c2,Yt,(show f.wt<=8000 by omega),zpp code q q1 q2 f x (Or.inl h6) H1 H2⟩
 rcases(show x=0\/x=1\/x=2\/x=3\/x=4\/x=5 by omega)with rfl|rfl|rfl|rfl|rfl|rfl
 ·obtain⟨q3,y,c3,p3,o3,H3⟩:=zjn code 11 Yt Yt q2 c2 Yt;refine⟨q3,.mk y f.atom f.var f.parts,c3,Yt,?_,qmc code q q1 q2 q3 f y H1 H2 H3⟩;show(Fm.mk y f.atom f.var f.parts).wt<=8000
  rw[zmi f];omega
 ·obtain⟨q3,s,c3,p3,o3,H3⟩:=ofD code vaL (by simp) (by simp) q2 c2 Yt;have hs:s.length<=8:=(show ∀s∈vaL,s.length<=8 by decide) s o3;refine⟨q3,.mk f.op f.atom s f.parts,c3,Yt,?_,qf5 code q q1 q2 q3 f s H1 H2 H3⟩;show(Fm.mk f.op f.atom s f.parts).wt<=8000
  rw[zmi f];omega
 ·obtain⟨q3,u,c3,p3,o3,H3⟩:=qh7 code q2 c2 Yt;refine⟨q3,.mk f.op u f.var f.parts,c3,Yt,?_,qei code q q1 q2 q3 f u H1 H2 H3⟩;show(Fm.mk f.op u f.var f.parts).wt<=8000
  rw[zmi f];omega
 ·obtain⟨q3,g,c3,p3,o3,H3⟩:=zju code q2 c2 Yt;refine⟨q3,.mk f.op f.atom f.var (f.parts++[g]),c3,Yt,?_,qcw code q q1 q2 q3 f g Yt H1 H2 H3⟩;show(Fm.mk f.op f.atom f.var (f.parts++[g])).wt<=8000
  rw[zmi f];simp only[Qh,Qb,Qe,Qt,Qi,Qk,Js,Qz,Ks];omega
 ·obtain⟨q3,y,c3,p3,o3,H3⟩:=zjn code 5 Yt Yt q2 c2 Yt;refine⟨q3,ntF f (36+y).toNat,c3,Yt,?_,qbk code q q1 q2 q3 f y o3 o1.1 H1 H2 H3⟩;show(ntF f _).wt<=8000
  have:=ntF_wt f (36+y).toNat;omega
 ·cases ha:f.parts with
  | nil=>exact⟨q2,f,c2,Yt,(show f.wt<=8000 by omega),zpp code q q1 q2 f 5 (Or.inr ⟨rfl,ha⟩) H1 H2⟩
  | cons g gs =>
   obtain⟨q3,y,c3,p3,o3,H3⟩:=zjn code 11 Yt Yt q2 c2 Yt;refine⟨q3,.mk f.op f.atom f.var (.mk y g.atom g.var g.parts::gs),c3,Yt,?_,qa2 code q q1 q2 q3 f g gs y ha H1 H2 H3⟩;show(Fm.mk f.op f.atom f.var (.mk y g.atom g.var g.parts::gs)).wt<=8000
   have hg:=Fm.wt_eq g;rw[ha]at hw;simp only[Qb,Qi,Qz]at hw;rw[zmi f];simp only[Qb,Qi,Qz];rw[zmi f];omega
end
section
open Go.RowKit
theorem qbl (code:List UInt8)(q q0 q1 q2:Cu)(f:Fm)(e:Ex)(pos:Bool)(nm:List Str)(x:Int)(H0:PC Tryz.prog 67 (za4 code q) [.p 0] (za4 code q0) [(true,fmD f)])(HE:zc4 code q0 f pos [] q1 e nm)(H2:PC Tryz.prog 134 (za4 code q1) [.p 0,.d false (iD 24)] (za4 code q2) [(true,iD x)])(hx:5<=x):PC Tryz.prog 69 (za4 code q) [.p 0,.d false (bD pos)] (za4 code q2) [(true,exD (e))]:=by
 have hx0:∀a:Ex,exD a=.agg (exC a):=fun _=>rfl
 unfold zc4 at HE
 have e0:(x==0)=false:=by rw[Qy];omega
 have e1:(x==1)=false:=by rw[Qy];omega
 have e2:(x==2)=false:=by rw[Qy];omega
 have e3:(x==3)=false:=by rw[Qy];omega
 have e4:(x==4)=false:=by rw[Qy];omega
 simp only[fmD,zab f,hx0,zae e,zbm,Qk]at H0 HE
 rw[hx0,zae]
 refine zbh Tryz.call69 Tryz.func69 rfl Ys (by simp only[Qb,Qe,Tryz.ntmps69];omega) (by simp only[Tryz.ntmps69];omega) rfl rfl (by simp[zau,T.isPin,AF.ds,bxA]) (by simp[gFS,T.fs,T.flat,AF.ds,bxA]) rfl ?_
 simp -implicitDefEqProofs only[go_sem,Tryz.results69]
 refine callQ [1000000] (H0) (by decide) Yr Yr ?_
 simp -implicitDefEqProofs only[go_sem]
 refine zap Yr ?_
 simp -implicitDefEqProofs only[go_sem]
 refine zd0 322 rfl rfl ?_
 simp -implicitDefEqProofs only[go_sem]
 refine zd0 324 rfl rfl ?_
 simp -implicitDefEqProofs only[go_sem]
 refine zd0 384 rfl rfl ?_
 simp -implicitDefEqProofs only[go_sem]
 refine callQ [1000000] (HE) (by decide) Yr Yr ?_
 simp -implicitDefEqProofs only[go_sem]
 refine callQ [1000000] (H2) (by decide) (by simp -implicitDefEqProofs only[go_sem,e0,e1,e2,e3,e4]) (by simp -implicitDefEqProofs only[go_sem,e0,e1,e2,e3,e4]) ?_
 simp -implicitDefEqProofs only[go_sem,e0,e1,e2,e3,e4]
theorem qnd (code:List UInt8)(q q0 q1 q2:Cu)(f:Fm)(e:Ex)(pos:Bool)(nm:List Str)  (H0:PC Tryz.prog 67 (za4 code q) [.p 0] (za4 code q0) [(true,fmD f)])(HE:zc4 code q0 f pos [] q1 e nm)(H2:PC Tryz.prog 134 (za4 code q1) [.p 0,.d false (iD 24)] (za4 code q2) [(true,iD 2)])(hn:e.parts=[]):PC Tryz.prog 69 (za4 code q) [.p 0,.d false (bD pos)] (za4 code q2) [(true,exD (e))]:=by
 have hx0:∀a:Ex,exD a=.agg (exC a):=fun _=>rfl
 unfold zc4 at HE
 simp only[fmD,zab f,hx0,zae e,zbm,Qk]at H0 HE
 rw[hx0,zae]
 refine zbh Tryz.call69 Tryz.func69 rfl Ys (by simp only[Qb,Qe,Tryz.ntmps69];omega) (by simp only[Tryz.ntmps69];omega) rfl rfl (by simp[zau,T.isPin,AF.ds,bxA]) (by simp[gFS,T.fs,T.flat,AF.ds,bxA]) rfl ?_
 simp -implicitDefEqProofs only[go_sem,Tryz.results69]
 refine callQ [1000000] (H0) (by decide) Yr Yr ?_
 simp -implicitDefEqProofs only[go_sem]
 refine zap Yr ?_
 simp -implicitDefEqProofs only[go_sem]
 refine zd0 322 rfl rfl ?_
 simp -implicitDefEqProofs only[go_sem]
 refine zd0 324 rfl rfl ?_
 simp -implicitDefEqProofs only[go_sem]
 refine zd0 384 rfl rfl ?_
 simp -implicitDefEqProofs only[go_sem]
 refine callQ [1000000] (HE) (by decide) Yr Yr ?_
 simp -implicitDefEqProofs only[go_sem]
 refine callQ [1000000] (H2) (by decide) (by simp -implicitDefEqProofs only[go_sem,hn,Qk,Qe]) (by simp -implicitDefEqProofs only[go_sem,hn,Qk,Qe]) ?_
 simp -implicitDefEqProofs only[go_sem,hn,Qk,Qe]
theorem ql0 (code:List UInt8)(q q0 q1 q2:Cu)(f:Fm)(e:Ex)(pos:Bool)(nm:List Str)  (H0:PC Tryz.prog 67 (za4 code q) [.p 0] (za4 code q0) [(true,fmD f)])(HE:zc4 code q0 f pos [] q1 e nm)(H2:PC Tryz.prog 134 (za4 code q1) [.p 0,.d false (iD 24)] (za4 code q2) [(true,iD 3)])(hn:e.terms=[]):PC Tryz.prog 69 (za4 code q) [.p 0,.d false (bD pos)] (za4 code q2) [(true,exD (e))]:=by
 have hx0:∀a:Ex,exD a=.agg (exC a):=fun _=>rfl
 unfold zc4 at HE
 simp only[fmD,zab f,hx0,zae e,zbm,Qk]at H0 HE
 rw[hx0,zae]
 refine zbh Tryz.call69 Tryz.func69 rfl Ys (by simp only[Qb,Qe,Tryz.ntmps69];omega) (by simp only[Tryz.ntmps69];omega) rfl rfl (by simp[zau,T.isPin,AF.ds,bxA]) (by simp[gFS,T.fs,T.flat,AF.ds,bxA]) rfl ?_
 simp -implicitDefEqProofs only[go_sem,Tryz.results69]
 refine callQ [1000000] (H0) (by decide) Yr Yr ?_
 simp -implicitDefEqProofs only[go_sem]
 refine zap Yr ?_
 simp -implicitDefEqProofs only[go_sem]
 refine zd0 322 rfl rfl ?_
 simp -implicitDefEqProofs only[go_sem]
 refine zd0 324 rfl rfl ?_
 simp -implicitDefEqProofs only[go_sem]
 refine zd0 384 rfl rfl ?_
 simp -implicitDefEqProofs only[go_sem]
 refine callQ [1000000] (HE) (by decide) Yr Yr ?_
 simp -implicitDefEqProofs only[go_sem]
 refine callQ [1000000] (H2) (by decide) (by simp -implicitDefEqProofs only[go_sem,hn,Qk,Qe]) (by simp -implicitDefEqProofs only[go_sem,hn,Qk,Qe]) ?_
 simp -implicitDefEqProofs only[go_sem,hn,Qk,Qe]
theorem qnz (code:List UInt8)(q q0 q1 q2:Cu)(f:Fm)(e:Ex)(pos:Bool)(nm:List Str)  (H0:PC Tryz.prog 67 (za4 code q) [.p 0] (za4 code q0) [(true,fmD f)])(HE:zc4 code q0 f pos [] q1 e nm)(H2:PC Tryz.prog 134 (za4 code q1) [.p 0,.d false (iD 24)] (za4 code q2) [(true,iD 4)])(hn:e.parts=[]):PC Tryz.prog 69 (za4 code q) [.p 0,.d false (bD pos)] (za4 code q2) [(true,exD (e))]:=by
 have hx0:∀a:Ex,exD a=.agg (exC a):=fun _=>rfl
 unfold zc4 at HE
 simp only[fmD,zab f,hx0,zae e,zbm,Qk]at H0 HE
 rw[hx0,zae]
 refine zbh Tryz.call69 Tryz.func69 rfl Ys (by simp only[Qb,Qe,Tryz.ntmps69];omega) (by simp only[Tryz.ntmps69];omega) rfl rfl (by simp[zau,T.isPin,AF.ds,bxA]) (by simp[gFS,T.fs,T.flat,AF.ds,bxA]) rfl ?_
 simp -implicitDefEqProofs only[go_sem,Tryz.results69]
 refine callQ [1000000] (H0) (by decide) Yr Yr ?_
 simp -implicitDefEqProofs only[go_sem]
 refine zap Yr ?_
 simp -implicitDefEqProofs only[go_sem]
 refine zd0 322 rfl rfl ?_
 simp -implicitDefEqProofs only[go_sem]
 refine zd0 324 rfl rfl ?_
 simp -implicitDefEqProofs only[go_sem]
 refine zd0 384 rfl rfl ?_
 simp -implicitDefEqProofs only[go_sem]
 refine callQ [1000000] (HE) (by decide) Yr Yr ?_
 simp -implicitDefEqProofs only[go_sem]
 refine callQ [1000000] (H2) (by decide) (by simp -implicitDefEqProofs only[go_sem,hn,Qk,Qe]) (by simp -implicitDefEqProofs only[go_sem,hn,Qk,Qe]) ?_
 simp -implicitDefEqProofs only[go_sem,hn,Qk,Qe]
theorem anyE_0 (code:List UInt8)(q q0 q1 q2 q3:Cu)(f:Fm)(e:Ex)(pos:Bool)(nm:List Str)(t:Tm)(H0:PC Tryz.prog 67 (za4 code q) [.p 0] (za4 code q0) [(true,fmD f)])(HE:zc4 code q0 f pos [] q1 e nm)(H2:PC Tryz.prog 134 (za4 code q1) [.p 0,.d false (iD 24)] (za4 code q2) [(true,iD 0)])(hl:e.terms.length<=1000000)(H3:PC Tryz.prog 141 (za4 code q2) [.p 0] (za4 code q3) [(true,tmD t)]):PC Tryz.prog 69 (za4 code q) [.p 0,.d false (bD pos)] (za4 code q3) [(true,exD (.mk e.form (e.terms++[t]) e.parts))]:=by
 have hx0:∀a:Ex,exD a=.agg (exC a):=fun _=>rfl
 unfold zc4 at HE
 simp only[fmD,zab f,hx0,zae e,zbm,Qk]at H0 HE
 rw[hx0,zi5]
 refine zbh Tryz.call69 Tryz.func69 rfl Ys (by simp only[Qb,Qe,Tryz.ntmps69];omega) (by simp only[Tryz.ntmps69];omega) rfl rfl (by simp[zau,T.isPin,AF.ds,bxA]) (by simp[gFS,T.fs,T.flat,AF.ds,bxA]) rfl ?_
 simp -implicitDefEqProofs only[go_sem,Tryz.results69]
 refine callQ [1000000] (H0) (by decide) Yr Yr ?_
 simp -implicitDefEqProofs only[go_sem]
 refine zap Yr ?_
 simp -implicitDefEqProofs only[go_sem]
 refine zd0 322 rfl rfl ?_
 simp -implicitDefEqProofs only[go_sem]
 refine zd0 324 rfl rfl ?_
 simp -implicitDefEqProofs only[go_sem]
 refine zd0 384 rfl rfl ?_
 simp -implicitDefEqProofs only[go_sem]
 refine callQ [1000000] (HE) (by decide) Yr Yr ?_
 simp -implicitDefEqProofs only[go_sem]
 have hl2:e.terms.length<=4294967295:=by omega
 simp only[tmD,zaa t]at H3
 refine callQ [1000000] (H2) (by decide) Yr Yr ?_
 simp -implicitDefEqProofs only[go_sem]
 refine drawn Ys ?_
 simp -implicitDefEqProofs only[go_sem]
 refine zfk [1000000] (H3) (by decide) Yr Yr ?_
 simp -implicitDefEqProofs only[go_sem]
 refine za8 Yr ?_
 simp -implicitDefEqProofs only[go_sem]
 refine zek true (by simp -implicitDefEqProofs only[go_sem,ne_eq,Qa,hl2]) ?_
 simp -implicitDefEqProofs only[go_sem,ne_eq,Qa,hl2]
 refine⟨Ys,?_⟩
 left
 left
 rw[Qt,Qi,Qk,zaa t]
theorem anyE_1 (code:List UInt8)(q q0 q1 q2 q3:Cu)(f:Fm)(e:Ex)(pos:Bool)(nm:List Str)(g:Fm)(H0:PC Tryz.prog 67 (za4 code q) [.p 0] (za4 code q0) [(true,fmD f)])(HE:zc4 code q0 f pos [] q1 e nm)(H2:PC Tryz.prog 134 (za4 code q1) [.p 0,.d false (iD 24)] (za4 code q2) [(true,iD 1)])(H3:PC Tryz.prog 142 (za4 code q2) [.p 0] (za4 code q3) [(true,fmD g)]):PC Tryz.prog 69 (za4 code q) [.p 0,.d false (bD pos)] (za4 code q3) [(true,exD (.mk g e.terms e.parts))]:=by
 have hx0:∀a:Ex,exD a=.agg (exC a):=fun _=>rfl
 unfold zc4 at HE
 simp only[fmD,zab f,hx0,zae e,zbm,Qk]at H0 HE
 rw[hx0,zi5]
 refine zbh Tryz.call69 Tryz.func69 rfl Ys (by simp only[Qb,Qe,Tryz.ntmps69];omega) (by simp only[Tryz.ntmps69];omega) rfl rfl (by simp[zau,T.isPin,AF.ds,bxA]) (by simp[gFS,T.fs,T.flat,AF.ds,bxA]) rfl ?_
 simp -implicitDefEqProofs only[go_sem,Tryz.results69]
 refine callQ [1000000] (H0) (by decide) Yr Yr ?_
 simp -implicitDefEqProofs only[go_sem]
 refine zap Yr ?_
 simp -implicitDefEqProofs only[go_sem]
 refine zd0 322 rfl rfl ?_
 simp -implicitDefEqProofs only[go_sem]
 refine zd0 324 rfl rfl ?_
 simp -implicitDefEqProofs only[go_sem]
 refine zd0 384 rfl rfl ?_
 simp -implicitDefEqProofs only[go_sem]
 refine callQ [1000000] (HE) (by decide) Yr Yr ?_
 simp -implicitDefEqProofs only[go_sem]
 simp only[fmD,zab g]at H3
 refine callQ [1000000] (H2) (by decide) Yr Yr ?_
 simp -implicitDefEqProofs only[go_sem]
 refine callQ [1000000] (H3) (by decide) Yr Yr ?_
 simp -implicitDefEqProofs only[go_sem]
theorem anyE_2 (code:List UInt8)(q q0 q1 q2:Cu)(f:Fm)(e:Ex)(pos:Bool)(nm:List Str)(p:Ex)(ps:List Ex)(H0:PC Tryz.prog 67 (za4 code q) [.p 0] (za4 code q0) [(true,fmD f)])(HE:zc4 code q0 f pos [] q1 e nm)(H2:PC Tryz.prog 134 (za4 code q1) [.p 0,.d false (iD 24)] (za4 code q2) [(true,iD 2)])(hn:e.parts=p::ps):PC Tryz.prog 69 (za4 code q) [.p 0,.d false (bD pos)] (za4 code q2) [(false,exD (.mk e.form e.terms ps))]:=by
 have hx0:∀a:Ex,exD a=.agg (exC a):=fun _=>rfl
 unfold zc4 at HE
 simp only[fmD,zab f,hx0,zae e,zbm,Qk]at H0 HE
 rw[hx0,zi5]
 refine zbh Tryz.call69 Tryz.func69 rfl Ys (by simp only[Qb,Qe,Tryz.ntmps69];omega) (by simp only[Tryz.ntmps69];omega) rfl rfl (by simp[zau,T.isPin,AF.ds,bxA]) (by simp[gFS,T.fs,T.flat,AF.ds,bxA]) rfl ?_
 simp -implicitDefEqProofs only[go_sem,Tryz.results69]
 refine callQ [1000000] (H0) (by decide) Yr Yr ?_
 simp -implicitDefEqProofs only[go_sem]
 refine zap Yr ?_
 simp -implicitDefEqProofs only[go_sem]
 refine zd0 322 rfl rfl ?_
 simp -implicitDefEqProofs only[go_sem]
 refine zd0 324 rfl rfl ?_
 simp -implicitDefEqProofs only[go_sem]
 refine zd0 384 rfl rfl ?_
 simp -implicitDefEqProofs only[go_sem]
 refine callQ [1000000] (HE) (by decide) Yr Yr ?_
 simp -implicitDefEqProofs only[go_sem]
 have hgt:decide (0<((ps.length+1:Nat):Int))=true:=by simp
 refine zd0 418 rfl rfl ?_
 simp -implicitDefEqProofs only[go_sem]
 refine zd0 420 rfl rfl ?_
 simp -implicitDefEqProofs only[go_sem]
 refine zd0 421 rfl rfl ?_
 simp -implicitDefEqProofs only[go_sem]
 refine zd0 422 rfl rfl ?_
 simp -implicitDefEqProofs only[go_sem]
 refine callQ [1000000] (H2) (by decide) (by simp -implicitDefEqProofs only[go_sem,hn,Qi,Qb,Qa,hgt]) (by simp -implicitDefEqProofs only[go_sem,hn,Qi,Qb,Qa,hgt]) ?_
 simp -implicitDefEqProofs only[go_sem,hn,Qi,Qb,Qa,hgt]
 refine⟨Yt,?_⟩
 left
 rw[show ps.length=(ps.map exC).length by rw[Qa],Kv]
theorem anyE_3 (code:List UInt8)(q q0 q1 q2 q3:Cu)(f:Fm)(e:Ex)(pos:Bool)(nm:List Str)(u t:Tm)(ts:List Tm)(H0:PC Tryz.prog 67 (za4 code q) [.p 0] (za4 code q0) [(true,fmD f)])(HE:zc4 code q0 f pos [] q1 e nm)(H2:PC Tryz.prog 134 (za4 code q1) [.p 0,.d false (iD 24)] (za4 code q2) [(true,iD 3)])(hn:e.terms=u::ts)(hl:e.terms.length<=1000000)(H3:PC Tryz.prog 141 (za4 code q2) [.p 0] (za4 code q3) [(true,tmD t)]):PC Tryz.prog 69 (za4 code q) [.p 0,.d false (bD pos)] (za4 code q3) [(true,exD (.mk e.form (t::ts) e.parts))]:=by
 have hx0:∀a:Ex,exD a=.agg (exC a):=fun _=>rfl
 unfold zc4 at HE
 simp only[fmD,zab f,hx0,zae e,zbm,Qk]at H0 HE
 rw[hx0,zi5]
 refine zbh Tryz.call69 Tryz.func69 rfl Ys (by simp only[Qb,Qe,Tryz.ntmps69];omega) (by simp only[Tryz.ntmps69];omega) rfl rfl (by simp[zau,T.isPin,AF.ds,bxA]) (by simp[gFS,T.fs,T.flat,AF.ds,bxA]) rfl ?_
 simp -implicitDefEqProofs only[go_sem,Tryz.results69]
 refine callQ [1000000] (H0) (by decide) Yr Yr ?_
 simp -implicitDefEqProofs only[go_sem]
 refine zap Yr ?_
 simp -implicitDefEqProofs only[go_sem]
 refine zd0 322 rfl rfl ?_
 simp -implicitDefEqProofs only[go_sem]
 refine zd0 324 rfl rfl ?_
 simp -implicitDefEqProofs only[go_sem]
 refine zd0 384 rfl rfl ?_
 simp -implicitDefEqProofs only[go_sem]
 refine callQ [1000000] (HE) (by decide) Yr Yr ?_
 simp -implicitDefEqProofs only[go_sem]
 have hgt:decide (0<((ts.length+1:Nat):Int))=true:=by simp
 simp only[tmD,zaa t]at H3
 refine callQ [1000000] (H2) (by decide) (by simp -implicitDefEqProofs only[go_sem,hn,Qi,Qb,Qa,hgt]) (by simp -implicitDefEqProofs only[go_sem,hn,Qi,Qb,Qa,hgt]) ?_
 simp -implicitDefEqProofs only[go_sem,hn,Qi,Qb,Qa,hgt]
 refine drawn Ys ?_
 simp -implicitDefEqProofs only[go_sem]
 refine zfk [1000000] (H3) (by decide) Yr Yr ?_
 simp -implicitDefEqProofs only[go_sem]
 refine⟨Yt,?_⟩
 refine znt (by
  simp -implicitDefEqProofs only[go_sem,ne_eq,Qa];intro p h;rw[h]
  exact(by decide:(1633:Nat)≠421)) ?_
 simp -implicitDefEqProofs only[go_sem,ne_eq,Qa]
 refine⟨Ys,?_⟩
 left
 left
 rw[zaa u,zaa t]
 rfl
theorem anyE_4 (code:List UInt8)(q q0 q1 q2 q3:Cu)(f:Fm)(e:Ex)(pos:Bool)(nm:List Str)(p:Ex)(ps:List Ex)(g:Fm)(H0:PC Tryz.prog 67 (za4 code q) [.p 0] (za4 code q0) [(true,fmD f)])(HE:zc4 code q0 f pos [] q1 e nm)(H2:PC Tryz.prog 134 (za4 code q1) [.p 0,.d false (iD 24)] (za4 code q2) [(true,iD 4)])(hn:e.parts=p::ps)(hl:e.parts.length<=1000000)(H3:PC Tryz.prog 135 (za4 code q2) [.p 0] (za4 code q3) [(true,fmD g)]):PC Tryz.prog 69 (za4 code q) [.p 0,.d false (bD pos)] (za4 code q3) [(true,exD (.mk e.form e.terms (.mk g p.terms p.parts::ps)))]:=by
 have hx0:∀a:Ex,exD a=.agg (exC a):=fun _=>rfl
 unfold zc4 at HE
 simp only[fmD,zab f,hx0,zae e,zbm,Qk]at H0 HE
 rw[hx0,zi5]
 refine zbh Tryz.call69 Tryz.func69 rfl Ys (by simp only[Qb,Qe,Tryz.ntmps69];omega) (by simp only[Tryz.ntmps69];omega) rfl rfl (by simp[zau,T.isPin,AF.ds,bxA]) (by simp[gFS,T.fs,T.flat,AF.ds,bxA]) rfl ?_
 simp -implicitDefEqProofs only[go_sem,Tryz.results69]
 refine callQ [1000000] (H0) (by decide) Yr Yr ?_
 simp -implicitDefEqProofs only[go_sem]
 refine zap Yr ?_
 simp -implicitDefEqProofs only[go_sem]
 refine zd0 322 rfl rfl ?_
 simp -implicitDefEqProofs only[go_sem]
 refine zd0 324 rfl rfl ?_
 simp -implicitDefEqProofs only[go_sem]
 refine zd0 384 rfl rfl ?_
 simp -implicitDefEqProofs only[go_sem]
 refine callQ [1000000] (HE) (by decide) Yr Yr ?_
 simp -implicitDefEqProofs only[go_sem]
 have hgt:decide (0<((ps.length+1:Nat):Int))=true:=by simp
 simp only[fmD,zab g]at H3
 refine callQ [1000000] (H2) (by decide) (by simp -implicitDefEqProofs only[go_sem,hn,Qi,Qb,Qa,hgt]) (by simp -implicitDefEqProofs only[go_sem,hn,Qi,Qb,Qa,hgt]) ?_
 simp -implicitDefEqProofs only[go_sem,hn,Qi,Qb,Qa,hgt]
 refine drawn Ys ?_
 simp -implicitDefEqProofs only[go_sem]
 refine zfk [1000000] (H3) (by decide) Yr Yr ?_
 simp -implicitDefEqProofs only[go_sem]
 refine⟨Yt,?_⟩
 refine znt (by
  simp -implicitDefEqProofs only[go_sem,ne_eq,Qa,zae p];intro p h;rcases h with h|h
  ·rw[h];exact(by decide:(1986:Nat)≠422)
  ·rw[h];exact(by decide:(1988:Nat)≠422)) ?_
 simp -implicitDefEqProofs only[go_sem,ne_eq,Qa,zae p]
 refine⟨Ys,?_⟩
 left
 left
 rw[zi5]
 rfl
end
section
open Go.RowKit
theorem zx2 (f:Fm)(ts:List Tm)(ps:List Ex):(Ex.mk f ts ps).wt=f.wt+(ts.length+(ts.map Tm.wt).sum)+(ps.length+(ps.map Ex.wt).sum):=Ex.wt_eq _
theorem zn0 (code:List UInt8)(pos:Bool)(q:Cu)(hq:q.code=code)(hp:q.pos+4000<=1099511627776):∃(q':Cu)(o:Bool)(e:Ex),q'.code=code/\q'.pos<=q.pos+4000/\e.wt<=450000/\PC Tryz.prog 69 (za4 code q) [.p 0,.d false (bD pos)] (za4 code q') [(o,exD e)]:=by
 obtain⟨q0,f,c0,p0,o0,H0⟩:=zml code q hq Yt
 have hC:zyt (4+1)=484:=rfl
 have hW:zyk (4+1)=440440:=rfl
 have hM:zvw (4+1)=40:=rfl
 obtain⟨q1,e,nm,c1,p1,o1,_,HE⟩:=expP code 4 f pos o0 [] q0 c0 Yt (by rw[hM];decide)
 obtain⟨q2,x,c2,p2,o2,H2⟩:=zjn code 24 Yt Yt q1 c1 Yt
 have hw:=Ex.wt_eq e
 unfold zie at hw
 by_cases h5:5<=x
 ·exact⟨q2,true,e,c2,Yt,Yt,qbl code q q0 q1 q2 f e pos nm x H0 HE H2 h5⟩
 rcases(show x=0\/x=1\/x=2\/x=3\/x=4 by omega)with rfl|rfl|rfl|rfl|rfl
 ·obtain⟨q3,t,c3,p3,⟨o3,_⟩,H3⟩:=zqc code q2 c2 Yt;refine⟨q3,true,.mk e.form (e.terms++[t]) e.parts,c3,Yt,?_,anyE_0 code q q0 q1 q2 q3 f e pos nm t H0 HE H2 Yt H3⟩;rw[zx2];simp only[Qh,Qb,Qe,Qt,Qi,Qk,Js,Qz,Ks];omega
 ·obtain⟨q3,g,c3,p3,o3,H3⟩:=zrs code q2 c2 Yt;refine⟨q3,true,.mk g e.terms e.parts,c3,Yt,?_,anyE_1 code q q0 q1 q2 q3 f e pos nm g H0 HE H2 H3⟩;rw[zx2];omega
 ·cases hn:e.parts with
  | nil=>exact⟨q2,true,e,c2,Yt,Yt,qnd code q q0 q1 q2 f e pos nm H0 HE H2 hn⟩
  | cons p ps =>
   refine⟨q2,false,.mk e.form e.terms ps,c2,Yt,?_,anyE_2 code q q0 q1 q2 f e pos nm p ps H0 HE H2 hn⟩;rw[hn]at hw;simp only[Qb,Qi,Qz]at hw;rw[zx2];omega
 ·cases hn:e.terms with
  | nil=>exact⟨q2,true,e,c2,Yt,Yt,ql0 code q q0 q1 q2 f e pos nm H0 HE H2 hn⟩
  | cons u ts =>
   obtain⟨q3,t,c3,p3,⟨o3,_⟩,H3⟩:=zqc code q2 c2 Yt;refine⟨q3,true,.mk e.form (t::ts) e.parts,c3,Yt,?_,anyE_3 code q q0 q1 q2 q3 f e pos nm u t ts H0 HE H2 hn Yt H3⟩;rw[hn]at hw;simp only[Qb,Qi,Qz]at hw;rw[zx2];simp only[Qb,Qi,Qz];omega
 ·cases hn:e.parts with
  | nil=>exact⟨q2,true,e,c2,Yt,Yt,qnz code q q0 q1 q2 f e pos nm H0 HE H2 hn⟩
  | cons p ps =>
   obtain⟨q3,g,c3,p3,⟨o3,_⟩,H3⟩:=zju code q2 c2 Yt;refine⟨q3,true,.mk e.form e.terms (.mk g p.terms p.parts::ps),c3,Yt,?_,anyE_4 code q q0 q1 q2 q3 f e pos nm p ps g H0 HE H2 hn Yt H3⟩;have hpw:=Ex.wt_eq p;unfold zie at hpw;rw[hn]at hw;simp only[Qb,Qi,Qz]at hw;rw[zx2];simp only[Qb,Qi,Qz];rw[zx2];omega
def cu0 (code:List UInt8):Cu:=⟨code,0,0⟩
theorem qhr (code:List UInt8):∃(a b:Ex)(pos o:Bool),a.wt+b.wt<=1048576/\PC Tryz.prog 25 [] [.d false (.one (zou code))] [] [(true,exD a),(o,exD b),(true,bD pos)]:=by
 have p0:(cu0 code).pos=0:=rfl
 have hC:zyt (4+1)=484:=rfl
 have hW:zyk (4+1)=440440:=rfl
 have hM:zvw (4+1)=40:=rfl
 obtain⟨q1,x,c1,p1,_,H1⟩:=qfe code 4 Yt (cu0 code) rfl Yt
 obtain⟨q2,f,c2,p2,o2,H2⟩:=zml code q1 c1 Yt
 obtain⟨q3,a,na,c3,p3,o3,_,H3⟩:=expP code 4 f (!x) o2 [] q2 c2 Yt (by rw[hM];decide)
 obtain⟨q4,b,nb,c4,p4,o4,_,H4⟩:=expP code 4 f (!x) o2 [] q3 c3 Yt (by rw[hM];decide)
 obtain⟨q5,y,c5,p5,_,H5⟩:=qfe code 10 Yt q4 c4 Yt
 have hx0:∀a:Ex,exD a=.agg (exC a):=fun _=>rfl
 unfold zc4 at H3 H4
 rw[show za4 code (cu0 code)=[[(false,zou code),(false,.int .i64 0),(false,.int .u64 0)]] from rfl]at H1
 simp only[fmD,zab f,hx0,zae a,zae b,zbm,Qk]at H2 H3 H4
 cases y
 ·refine⟨a,b,!x,true,Yt,?_⟩;simp only[hx0,zae a,zae b];refine zbh Tryz.call25 Tryz.func25 rfl Ys (by simp only[Qb,Qe,Tryz.ntmps25];omega) (by simp only[Tryz.ntmps25];omega) rfl rfl (by simp[zau,T.isPin,AF.ds,bxA]) (by simp[gFS,T.fs,T.flat,AF.ds,bxA]) rfl ?_;simp -implicitDefEqProofs only[go_sem,Tryz.results25];refine callQ [14] (H1) (by decide) Yr Yr ?_;simp -implicitDefEqProofs only[go_sem];refine callQ [14] (H2) (by decide) Yr Yr ?_;simp -implicitDefEqProofs only[go_sem];refine zap Yr ?_;simp -implicitDefEqProofs only[go_sem];refine zd0 610 rfl rfl ?_;simp -implicitDefEqProofs only[go_sem];refine zd0 612 rfl rfl ?_;simp -implicitDefEqProofs only[go_sem];refine zd0 768 rfl rfl ?_;simp -implicitDefEqProofs only[go_sem];refine callQ [14] (H3) (by decide) Yr Yr ?_;simp -implicitDefEqProofs only[go_sem];refine zap Yr ?_;simp -implicitDefEqProofs only[go_sem];refine zd0 1024 rfl rfl ?_;simp -implicitDefEqProofs only[go_sem];refine callQ [14] (H4) (by decide) Yr Yr ?_;simp -implicitDefEqProofs only[go_sem];refine callQ [14] (H5) (by decide) Yr Yr ?_;simp -implicitDefEqProofs only[go_sem];refine drawn Ys ?_;simp -implicitDefEqProofs only[go_sem];kernel_rfl
 ·obtain⟨q6,o,e,c6,p6,o6,H6⟩:=zn0 code (!x) q5 c5 Yt;simp only[hx0,zae e]at H6;refine⟨a,e,!x,o,Yt,?_⟩;simp only[hx0,zae a,zae e];cases o
  ·refine zbh Tryz.call25 Tryz.func25 rfl Ys (by simp only[Qb,Qe,Tryz.ntmps25];omega) (by simp only[Tryz.ntmps25];omega) rfl rfl (by simp[zau,T.isPin,AF.ds,bxA]) (by simp[gFS,T.fs,T.flat,AF.ds,bxA]) rfl ?_;simp -implicitDefEqProofs only[go_sem,Tryz.results25];refine callQ [14] (H1) (by decide) Yr Yr ?_;simp -implicitDefEqProofs only[go_sem];refine callQ [14] (H2) (by decide) Yr Yr ?_;simp -implicitDefEqProofs only[go_sem];refine zap Yr ?_;simp -implicitDefEqProofs only[go_sem];refine zd0 610 rfl rfl ?_;simp -implicitDefEqProofs only[go_sem];refine zd0 612 rfl rfl ?_;simp -implicitDefEqProofs only[go_sem];refine zd0 768 rfl rfl ?_;simp -implicitDefEqProofs only[go_sem];refine callQ [14] (H3) (by decide) Yr Yr ?_;simp -implicitDefEqProofs only[go_sem];refine zap Yr ?_;simp -implicitDefEqProofs only[go_sem];refine zd0 1024 rfl rfl ?_;simp -implicitDefEqProofs only[go_sem];refine callQ [14] (H4) (by decide) Yr Yr ?_;simp -implicitDefEqProofs only[go_sem];refine callQ [14] (H5) (by decide) Yr Yr ?_;simp -implicitDefEqProofs only[go_sem];refine callQ [14] (H6) (by decide) Yr Yr ?_;simp -implicitDefEqProofs only[go_sem];refine drawn Ys ?_;simp -implicitDefEqProofs only[go_sem];kernel_rfl
  ·refine zbh Tryz.call25 Tryz.func25 rfl Ys (by simp only[Qb,Qe,Tryz.ntmps25];omega) (by simp only[Tryz.ntmps25];omega) rfl rfl (by simp[zau,T.isPin,AF.ds,bxA]) (by simp[gFS,T.fs,T.flat,AF.ds,bxA]) rfl ?_;simp -implicitDefEqProofs only[go_sem,Tryz.results25];refine callQ [14] (H1) (by decide) Yr Yr ?_;simp -implicitDefEqProofs only[go_sem];refine callQ [14] (H2) (by decide) Yr Yr ?_;simp -implicitDefEqProofs only[go_sem];refine zap Yr ?_;simp -implicitDefEqProofs only[go_sem];refine zd0 610 rfl rfl ?_;simp -implicitDefEqProofs only[go_sem];refine zd0 612 rfl rfl ?_;simp -implicitDefEqProofs only[go_sem];refine zd0 768 rfl rfl ?_;simp -implicitDefEqProofs only[go_sem];refine callQ [14] (H3) (by decide) Yr Yr ?_;simp -implicitDefEqProofs only[go_sem];refine zap Yr ?_;simp -implicitDefEqProofs only[go_sem];refine zd0 1024 rfl rfl ?_;simp -implicitDefEqProofs only[go_sem];refine callQ [14] (H4) (by decide) Yr Yr ?_;simp -implicitDefEqProofs only[go_sem];refine callQ [14] (H5) (by decide) Yr Yr ?_;simp -implicitDefEqProofs only[go_sem];refine callQ [14] (H6) (by decide) Yr Yr ?_;simp -implicitDefEqProofs only[go_sem];refine drawn Ys ?_;simp -implicitDefEqProofs only[go_sem];kernel_rfl
end
section
open Go.RowKit
abbrev prCE (x:Str×Str):List T:=[.str x.1,.str x.2]
abbrev prS (xs:List (Str×Str)):T:=.sl 2 (xs.map prCE)
abbrev prL (e:Ex)(pos:Bool)(ab:List Str):List (List (Str×Str)):=e.parts.mapIdx fun i p=>zft p (sgn e.form i pos) (if(isQ e.form.op&&!zax e.form pos)=true then zbb ab (voS (e.terms.getD i Tm.zero))else ab)
theorem qhd (e:Ex)(pos:Bool)(ab:List Str){k:Nat}(hlt:k<e.parts.length):(prL e pos ab).take (k+1)=(prL e pos ab).take k++[zft e.parts[k] (sgn e.form k pos) (if(isQ e.form.op&&!zax e.form pos)=true then zbb ab (voS (e.terms.getD k Tm.zero))else ab)]:=by
 rw[Qj (by simpa using hlt),Q5]
theorem zuy {t:Tm}(h:t.good=true):(voS t).length<=1+t.wt:=by
 rw[<-(zgk _ (zgs h)).1]
 exact qbn t
theorem ztu (C:Nat):∀l:List Ex,((l.map Ex.nodes).sum)*C=(l.map fun p=>p.nodes*C).sum
 | []=>by simp
 | p::l=>by rw[Qi,Qz,Kl,ztu C l,Qi,Qz]
theorem zpm {α:Type}(w:Ex->Nat):∀(ps:List Ex)(g:Nat->Ex->List α),(∀i (hi:i<ps.length),(g i ps[i]).length<=w ps[i])->(ps.mapIdx g).flatten.length<=(ps.map w).sum
 | [],_,_=>by simp
 | p::ps,g,H=>by
  rw[List.mapIdx_cons,Q4,Qh,Qi,Qz];have h0:=H 0 (by simp);have h1:=zpm w ps (fun i=>g (i+1)) fun i hi=>by
   have:=H (i+1) (by simpa using hi);simpa using this
  simp only[List.getElem_cons_zero]at h0;omega
theorem zqd:∀(e:Ex)(pos:Bool)(ab:List Str),zbe e pos=true->(zft e pos ab).length<=e.nodes*(ab.length+e.wt):=zcp fun f ts ps ih pos ab hn=>by
 generalize he:Ex.mk f ts ps=e at hn⊢
 have hps:ps=e.parts:=by rw[<-he];rfl
 rw[hps]at ih
 clear hps he
 have hW:=e.wt_eq
 have hTW:zie e.terms=e.terms.length+(e.terms.map Tm.wt).sum:=rfl
 have hpts:=(zbq hn).1
 have hTP:=(zb9 hn).1
 have hg:=ze4 hn
 rw[zok,e.nodes_eq,Qh,Kl,Yk,ztu]
 have h1:(if zax e.form pos=true then ab.map fun x=>(x,(e.terms.getD 0 Tm.zero).name)else []).length<=ab.length+e.wt:=by
  split
  ·rw[Qa];omega
  ·simp
 have h2:=zpm (fun p=>p.nodes*(ab.length+e.wt)) e.parts (fun i p=>zft p (sgn e.form i pos) (if(isQ e.form.op&&!zax e.form pos)=true then zbb ab (voS (e.terms.getD i Tm.zero))else ab)) fun i hi=>by
  refine Q9 (ih e.parts[i] (Qd hi) _ _ (hpts i hi)) (Nat.mul_le_mul_left _ ?_);have hpk:=zay Ex.wt e.parts e.parts[i] (Qd hi);split
  ·rename_i hw;rw[Qc]at hw;have hkt:i<e.terms.length:=by have:=hTP hw.1;omega
   have hTk:=zay Tm.wt e.terms e.terms[i] (Qd hkt);have hgd:=hg hw.1 i hkt;rw[za2 hkt]at hgd⊢;have:=zuy hgd;have:=zcs (voS e.terms[i]) ab;omega
  ·omega
 omega
theorem zjm (e:Ex)(he:e.wt<=1048576)(pos:Bool):FC Tryz.prog 28 [exD e,bD pos] [.one (zbm (if zbx e pos=true then (arI e pos).1 else [])),bD (zbx e pos&&(arI e pos).2),bD (zbx e pos)]:=by
 have HI:=zb1 e he pos
 rw[zjr]at HI
 cases h:zbx e pos
 ·rw[h]at HI;rw[if_neg (by simp),Ql];show FC _ _ _ [.one (.sl 1 []),_,_]
  simp only[exD,zae e]at HI⊢;refine zak Tryz.call28 Tryz.func28 rfl Ys (zaz Ys) ?_;simp -implicitDefEqProofs only[go_sem,Tryz.results28];refine callF (HI) Yr ?_;simp -implicitDefEqProofs only[go_sem]
 ·rw[h]at HI;have HA:=qdn e he pos (zbr h).2.1;rw[if_pos rfl,Qq];simp only[exD,zae e]at HI HA⊢;refine zak Tryz.call28 Tryz.func28 rfl Ys (zaz Ys) ?_;simp -implicitDefEqProofs only[go_sem,Tryz.results28];refine callF (HI) Yr ?_;simp -implicitDefEqProofs only[go_sem];refine callF (HA) Yr ?_;simp -implicitDefEqProofs only[go_sem]
end
section
open Go.RowKit
theorem zu0 {e p:Ex}(h:p∈e.parts):p.nodes+1<=e.nodes:=by
 have:=e.nodes_eq
 have:=zay Ex.nodes e.parts p h
 omega
abbrev prP (p:Ex)(pos:Bool)(ab:List Str):Prop:=FC Tryz.prog 76 [exD p,bD pos,.one (zbm ab)] [.one (prS (zft p pos ab))]
theorem zr3 (e:Ex)(he:e.wt<=1048576)(pos:Bool)(hn:zbe e pos=true)(ab:List Str)(h60:e.nodes<=60)(hab:ab.length+e.wt<=2097152)(H:∀p∈e.parts,∀pos ab,zbe p pos=true->p.nodes<=60->ab.length+p.wt<=2097152->prP p pos ab):prP e pos ab:=by
 have hv:=zok e pos ab
 have hW:=e.wt_eq
 have hTW:zie e.terms=e.terms.length+(e.terms.map Tm.wt).sum:=rfl
 have hln:=zqd e pos ab hn
 have hmul:e.nodes*(ab.length+e.wt)<=60*2097152:=Yo h60 hab
 have hpts:=(zbq hn).1
 have hTP:=(zb9 hn).1
 have hg:=ze4 hn
 have HQ:=zcr e.form
 have HSt:=zd3 e.form pos
 have hse:(isQ e.form.op&&((e.form.op==8)==pos))=zax e.form pos:=rfl
 rw[hse]at HSt
 have hLl:(prL e pos ab).length=e.parts.length:=by simp
 have hLk:=fun k (hlt:k<e.parts.length)=>qhd e pos ab hlt
 have hgrow:=zq0 (prL e pos ab)
 have hv:zft e pos ab=(if zax e.form pos=true then ab.map fun x=>(x,(e.terms.getD 0 Tm.zero).name)else [])++(prL e pos ab).flatten:=hv
 unfold prP
 rw[hv]
 rw[hv,Qh]at hln
 generalize prL e pos ab=L at hv hLl hLk hgrow hln⊢
 simp only[exD,zae e,fmD,zab e.form]at HQ HSt⊢
 cases hst:zax e.form pos
 ·rw[hst]at HSt hln;simp only[Qn,if_false,Qe,Ki]at hln⊢;refine zdw Tryz.call76 Tryz.func76 rfl Ys (zaz Ys) ?_;simp -implicitDefEqProofs only[go_sem,Tryz.results76];refine zap Yr ?_;simp -implicitDefEqProofs only[go_sem];refine callF (HSt) Yr ?_;simp -implicitDefEqProofs only[go_sem];refine zaf (fun k:Nat=>hd [(1,vT (.bool pos)),(2,.one (.rn (zbm ab))),(3,.one (.bx 3 0)),(7,.one (.ow 384 0)),(8,vT (.bool false)),(10,vI k)] [(3,[.t (.int .i64 e.form.op),.t (.str e.form.atom.name),.rn (tmS e.form.atom.args),.t (.str e.form.var),.rn (fmS e.form.parts),.rn (tmS e.terms),.rn (exS e.parts)])] [(384,⟨true,2,((L.take k).flatten).map prCE,0,true⟩)]) (fun k=>k<=e.parts.length) (fun k=>e.parts.length-k) 0 (zad ?_) (Q1 _) ?_
  ·simp -implicitDefEqProofs only[go_sem,Yi,Yd,Kj]
  ·intro k hk;by_cases hlt:k<e.parts.length
   ·have hLk:=hLk k hlt;have hgk:=hgrow (k+1);have hpk:=zay Ex.wt e.parts e.parts[k] (Qd hlt);have hnk:=zu0 (Qd hlt);have HPo:=zdr e.form k pos;have hsg:(pos != (e.form.op==4||(e.form.op==7&&((k:Int)==0))))=sgn e.form k pos:=rfl;rw[hsg]at HPo;simp only[fmD,zab e.form]at HPo;generalize hDn:(L.take k).flatten=dn at hgk⊢;cases hq:isQ e.form.op
    ·rw[hq,Ql,if_neg (by simp)]at hLk;rw[hLk,Ke,Qh,Kx,hDn]at hgk;rw[hq]at HQ;have HC:=H e.parts[k] (Qd hlt) (sgn e.form k pos) ab (hpts k hlt) Yt Yt;unfold prP at HC;generalize hEi:zft e.parts[k] (sgn e.form k pos) ab=ei at HC hLk hgk;have ha1:dn.length+ei.length<=4294967296:=by omega
     simp only[exD,zae e.parts[k]]at HC;simp -implicitDefEqProofs only[go_sem,hlt];refine callF (HQ) Yr ?_;simp -implicitDefEqProofs only[go_sem];refine drawn Ys ?_;simp -implicitDefEqProofs only[go_sem,hlt,zac,zae e.parts[k]];refine zaj (HPo) Yr ?_;simp -implicitDefEqProofs only[go_sem];refine zaj (HC) Yr ?_;simp -implicitDefEqProofs only[go_sem];refine zek true (by simp -implicitDefEqProofs only[go_sem,ne_eq,Qa,Qh,ha1]) ?_;simp -implicitDefEqProofs only[go_sem,ne_eq,Qa,Qh,ha1];refine⟨Ys,k+1,hlt,Yt,zad ?_⟩;simp -implicitDefEqProofs only[go_sem];rw[zam Yt,hLk,Ke,Kx,hDn];simp only[Qt,Km];exact⟨trivial,trivial⟩
    ·rw[hq]at HQ;rw[hst,hq,Qq,Jp,if_pos rfl]at hLk;have hkt:k<e.terms.length:=by have:=hTP hq;omega
     have hTk:=zay Tm.wt e.terms e.terms[k] (Qd hkt);have hgd:=hg hq k hkt;rw[za2 hkt]at hgd hLk;rw[hLk,Ke,Qh,Kx,hDn]at hgk;have hvl:=zuy hgd;have hpl:=zcs (voS e.terms[k]) ab;have HV:=zuz e.terms[k] Yt ab Yt;have HC:=H e.parts[k] (Qd hlt) (sgn e.form k pos) (zbb ab (voS e.terms[k])) (hpts k hlt) Yt Yt;unfold prP at HC;generalize hVs:zbb ab (voS e.terms[k])=vs at HV HC hLk hpl hgk;generalize hEi:zft e.parts[k] (sgn e.form k pos) vs=ei at HC hLk hgk;have ha1:dn.length+ei.length<=4294967296:=by omega
     have ha0:ab.length<=4294967296:=by omega
     simp only[exD,zae e.parts[k],tmD,zaa e.terms[k]]at HC HV;simp -implicitDefEqProofs only[go_sem,hlt];refine callF (HQ) Yr ?_;simp -implicitDefEqProofs only[go_sem];refine qj3 8 Ys Ys ?_;simp -implicitDefEqProofs only[go_sem];refine za8 Yr ?_;simp -implicitDefEqProofs only[go_sem];refine zek true (by simp -implicitDefEqProofs only[go_sem,ne_eq,Qa,ha0,Q2,za5]) ?_;simp -implicitDefEqProofs only[go_sem,ne_eq,Qa,ha0,Q2,za5];simp -implicitDefEqProofs only[go_sem,hkt,zac,zaa e.terms[k]];refine⟨Ys,?_⟩;refine zdx [1,2,3,7,8,10] [54,59] [] (HV) Yr Yr Yr Yr ?_;simp -implicitDefEqProofs only[go_sem];refine drawn Ys ?_;simp -implicitDefEqProofs only[go_sem,hlt,zac,zae e.parts[k]];refine zaj (HPo) Yr ?_;simp -implicitDefEqProofs only[go_sem];refine zaj (HC) Yr ?_;simp -implicitDefEqProofs only[go_sem];refine zek true (by simp -implicitDefEqProofs only[go_sem,ne_eq,Qa,Qh,ha1]) ?_;simp -implicitDefEqProofs only[go_sem,ne_eq,Qa,Qh,ha1];refine⟨Ys,k+1,hlt,Yt,zad ?_⟩;simp -implicitDefEqProofs only[go_sem];rw[zam Yt,hLk,Ke,Kx,hDn];simp only[Qt,Km];exact⟨trivial,trivial⟩
   ·have ht:L.take k=L:=Qm Yt;rw[ht];simp -implicitDefEqProofs only[go_sem,hlt]
 ·have hq:isQ e.form.op=true:=by unfold zax at hst;rw[Qc]at hst;exact hst.1
  rw[hst]at HSt hln;obtain⟨ta,pa⟩:=zcv hn hst;have ht0:0<e.terms.length:=by omega
  have ht0i:(0<(e.terms.length:Int))=True:=by rw[ta];simp
  rw[za2 ht0]at hln⊢;simp only[if_true,Qa]at hln⊢;generalize hnm:e.terms[0].name=nm at hln⊢;refine zdw Tryz.call76 Tryz.func76 rfl Ys (zaz Ys) ?_;simp -implicitDefEqProofs only[go_sem,Tryz.results76];refine zap Yr ?_;simp -implicitDefEqProofs only[go_sem];refine callF (HSt) Yr ?_;simp -implicitDefEqProofs only[go_sem];refine zaf (fun i:Nat=>hd [(1,vT (.bool pos)),(2,.one (.rn (zbm ab))),(3,.one (.bx 3 0)),(7,.one (.ow 384 0)),(8,vT (.bool true)),(9,vI i)] [(3,[.t (.int .i64 e.form.op),.t (.str e.form.atom.name),.rn (tmS e.form.atom.args),.t (.str e.form.var),.rn (fmS e.form.parts),.rn (tmS e.terms),.rn (exS e.parts)])] [(384,⟨true,2,((ab.take i).map fun x=>(x,nm)).map prCE,0,true⟩)]) (fun i=>i<=ab.length) (fun i=>ab.length-i) 0 (zad ?_) (Q1 _) ?_
  ·simp -implicitDefEqProofs only[go_sem]
  ·intro i hi;by_cases hil:i<ab.length
   ·have hmin:min i ab.length<=4294967295:=by omega
    simp -implicitDefEqProofs only[go_sem,hil];refine drawn Ys ?_;simp -implicitDefEqProofs only[go_sem,hil,ht0i,ht0,zac,zaa e.terms[0],hnm];refine za8 Yr ?_;simp -implicitDefEqProofs only[go_sem];refine zek true (by simp -implicitDefEqProofs only[go_sem,ne_eq,Qa,Qo,hmin]) ?_;simp -implicitDefEqProofs only[go_sem,ne_eq,Qa,Qo,hmin];refine⟨Ys,i+1,hil,Yt,zad ?_⟩;simp -implicitDefEqProofs only[go_sem];rw[zam Yt,Qj hil];simp only[Qt,Qi,Qk];exact⟨trivial,rfl⟩
   ·have hta:ab.take i=ab:=Qm Yt;rw[hta];simp -implicitDefEqProofs only[go_sem,hil];refine zaf (fun k:Nat=>hd [(1,vT (.bool pos)),(2,.one (.rn (zbm ab))),(3,.one (.bx 3 0)),(7,.one (.ow 384 0)),(8,vT (.bool true)),(10,vI k)] [(3,[.t (.int .i64 e.form.op),.t (.str e.form.atom.name),.rn (tmS e.form.atom.args),.t (.str e.form.var),.rn (fmS e.form.parts),.rn (tmS e.terms),.rn (exS e.parts)])] [(384,⟨true,2,((ab.map fun x=>(x,nm))++(L.take k).flatten).map prCE,0,true⟩)]) (fun k=>k<=e.parts.length) (fun k=>e.parts.length-k) 0 (zad ?_) (Q1 _) ?_
    ·simp -implicitDefEqProofs only[go_sem,Yi,Yd,Kj]
    ·intro k hk;by_cases hlt:k<e.parts.length
     ·have hLk:=hLk k hlt;have hgk:=hgrow (k+1);have hpk:=zay Ex.wt e.parts e.parts[k] (Qd hlt);have hnk:=zu0 (Qd hlt);have HPo:=zdr e.form k pos;have hsg:(pos != (e.form.op==4||(e.form.op==7&&((k:Int)==0))))=sgn e.form k pos:=rfl;rw[hsg]at HPo;simp only[fmD,zab e.form]at HPo;generalize hDn:(L.take k).flatten=dn at hgk⊢;rw[hst,Jr,Q6,if_neg (by simp)]at hLk;rw[hLk,Ke,Qh,Kx,hDn]at hgk;rw[hq]at HQ;have HC:=H e.parts[k] (Qd hlt) (sgn e.form k pos) ab (hpts k hlt) Yt Yt;unfold prP at HC;generalize hEi:zft e.parts[k] (sgn e.form k pos) ab=ei at HC hLk hgk;have ha1:ab.length+dn.length+ei.length<=4294967296:=by omega
      simp only[exD,zae e.parts[k]]at HC;simp -implicitDefEqProofs only[go_sem,hlt];refine callF (HQ) Yr ?_;simp -implicitDefEqProofs only[go_sem];refine drawn Ys ?_;simp -implicitDefEqProofs only[go_sem,hlt,zac,zae e.parts[k]];refine zaj (HPo) Yr ?_;simp -implicitDefEqProofs only[go_sem];refine zaj (HC) Yr ?_;simp -implicitDefEqProofs only[go_sem];refine zek true (by simp -implicitDefEqProofs only[go_sem,ne_eq,Qa,Qh,ha1]) ?_;simp -implicitDefEqProofs only[go_sem,ne_eq,Qa,Qh,ha1];refine⟨Ys,k+1,hlt,Yt,zad ?_⟩;simp -implicitDefEqProofs only[go_sem];rw[zam Yt,hLk,Ke,Kx,hDn];simp only[Qt,Km];exact⟨trivial,trivial⟩
     ·have ht:L.take k=L:=Qm Yt;rw[ht];simp -implicitDefEqProofs only[go_sem,hlt]
theorem zxl:∀e:Ex,e.wt<=1048576->∀pos ab,zbe e pos=true->e.nodes<=60->ab.length+e.wt<=2097152->prP e pos ab :=
 zcp fun f ts ps ih he pos ab hn h60 hab=>zr3 (.mk f ts ps) he pos hn ab h60 hab fun p hp pos ab hn h60 hab=>ih p hp (Q9 (zci (a:=.mk f ts ps) hp) he) pos ab hn h60 hab
end
section
open Go.RowKit
theorem qdp:∀(e:Ex)(pos:Bool),zbe e pos=true->∀n∈zbi e pos,n≠[]:=zcp fun f ts ps ih pos hn n hm=>by
 have hp:=(zbq hn).1
 rw[zfo]at hm
 have eF:(Ex.mk f ts ps).form=f:=rfl
 have eT:(Ex.mk f ts ps).terms=ts:=rfl
 have eP:(Ex.mk f ts ps).parts=ps:=rfl
 simp only[eF,eT,eP]at hm hp
 rcases Qv.1 hm with hm|hm
 ·split at hm
  ·rename_i hs;have hq:isQ f.op=true:=by unfold zax at hs;rw[Qc]at hs;exact hs.1
   rw[zc2,eF,hq,if_pos rfl,hs]at hn;simp only[eT,Qc,Jr,Jf]at hn;rw[Kg]at hm;rintro rfl;have h:=hn.1.2.2;rw[<-hm]at h;exact absurd h (by decide)
  ·cases hm
 ·obtain⟨l,hl,hx⟩:=List.mem_flatten.1 hm;obtain⟨i,hi,rfl⟩:=Jv hl;have hi':i<ps.length:=by rw[Jj]at hi;exact hi
  rw[Q5]at hx;exact ih ps[i] (Qd hi') _ (hp i hi') n hx
def zw8 (N:List Str)(Pr:List (Str×Str)):Nat->List Str->List Str×Bool
 | 0,out=>(out,true)
 | n+1,out=>if 0<=zc9 N (zus N Pr out)then zw8 N Pr n (out++[N.getD (zc9 N (zus N Pr out)).toNat []])else (out,false)
def cndS (N out:List Str)(n:Str)(p:Str×Str):Bool:=p.2==n&&N.contains p.1&&!out.contains p.1
def arS (e:Ex)(pos:Bool):List Str×Bool:=zw8 (zbi e pos) (zft e pos []) (zbi e pos).length []
theorem zjk (e:Ex)(he:e.wt<=1048576)(pos:Bool):FC Tryz.prog 29 [exD e,bD pos] [.one (zbm (if zbx e pos=true then (arS e pos).1 else [])),bD (zbx e pos&&(arS e pos).2),bD (zbx e pos)]:=by
 have HI:=zg9 e he pos
 cases h:zbx e pos
 ·rw[h]at HI;rw[if_neg (by simp),Ql];show FC _ _ _ [.one (.sl 1 []),_,_]
  simp only[exD,zae e]at HI⊢;refine zak Tryz.call29 Tryz.func29 rfl Ys (zaz Ys) ?_;simp -implicitDefEqProofs only[go_sem,Tryz.results29];refine callF (HI) Yr ?_;simp -implicitDefEqProofs only[go_sem];refine zap Yr ?_;simp -implicitDefEqProofs only[go_sem]
 ·rw[h]at HI;obtain⟨hg,hn,h60⟩:=zbr h;have HN:=zl0 e he pos hn;have HP:=zxl e he pos [] hn h60 (by simp;omega);have hnl:=zep e pos;have hpl:=zqd e pos [] hn;have hmul:e.nodes*(([]:List Str).length+e.wt)<=60*2097152:=Yo h60 (by simp;omega);have hne:=qdp e pos hn;have hv:arS e pos=zw8 (zbi e pos) (zft e pos []) (zbi e pos).length []:=rfl;unfold prP at HP;generalize zbi e pos=N at HN hnl hne hv;generalize zft e pos []=Pr at HP hpl hv;rw[if_pos rfl,Qq];generalize arS e pos=R at hv⊢;rw[show zbm []=.sl 1 [] from rfl]at HP;simp only[exD,zae e]at HI HN HP⊢;refine zdw Tryz.call29 Tryz.func29 rfl Ys (zaz Ys) ?_;simp -implicitDefEqProofs only[go_sem,Tryz.results29];refine callF (HI) Yr ?_;simp -implicitDefEqProofs only[go_sem];refine zku (HN) Yr ?_;simp -implicitDefEqProofs only[go_sem];refine zap Yr ?_;simp -implicitDefEqProofs only[go_sem];refine zku (HP) Yr ?_;simp -implicitDefEqProofs only[go_sem];refine zap Yr ?_;simp -implicitDefEqProofs only[go_sem];refine zaf (fun out:List Str=>hd [(4,.one (.nl 1)),(5,vT (.bool false)),(6,vT (.bool false)),(7,.one (.rn (zbm N))),(8,.one (.rn (prS Pr))),(9,.one (.ow 832 0))] [] [(832,⟨true,1,out.map fun s=>[.str s],0,true⟩)]) (fun out=>out.length<=N.length/\zw8 N Pr (N.length-out.length) out=R) (fun out=>N.length-out.length) [] (zad ?_) ⟨Q1 _,hv.symm⟩ ?_
  ·simp -implicitDefEqProofs only[go_sem]
  ·intro out ⟨ho,hr⟩;by_cases hlt:out.length<N.length
   ·have ha:out.length<=4294967295:=by omega
    have nilb:(([]:Str)==[])=true:=rfl;obtain⟨n0,hn0⟩:∃n,N.length-out.length=n+1:=⟨N.length-out.length-1,Yt⟩;rw[hn0]at hr;unfold zw8 at hr;simp -implicitDefEqProofs only[go_sem,hlt];refine zaf (fun x:Nat×Str=>hd [(4,.one (.nl 1)),(5,vT (.bool false)),(6,vT (.bool false)),(7,.one (.rn (zbm N))),(8,.one (.rn (prS Pr))),(9,.one (.ow 832 0)),(10,vT (.str x.2)),(11,vI x.1)] [] [(832,⟨true,1,out.map fun s=>[.str s],0,true⟩)]) (fun x=>x.1<=N.length/\((x.2=[]/\∀n∈N.take x.1,zus N Pr out n=false)\/(x.2≠[]/\∃j,∃h:j<N.length,zc9 N (zus N Pr out)=(j:Nat)/\x.2=N[j]))) (fun x=>N.length-x.1) (0,[]) (zad ?_) ⟨Q1 _,Or.inl ⟨rfl,by simp⟩⟩ ?_
    ·simp -implicitDefEqProofs only[go_sem]
    ·rintro⟨i,nx⟩ ⟨hi,hx⟩;simp only at hi hx;rcases hx with⟨rfl,hno⟩|⟨hnx,j,hj,hidx,rfl⟩
     ·by_cases hil:i<N.length
      ·have HIn:=zjd out N[i];generalize hnm:N[i]=nm at HIn;simp -implicitDefEqProofs only[go_sem,hil,zac,nilb,hnm];refine callF (HIn) Yr ?_;simp -implicitDefEqProofs only[go_sem];refine zaf (fun x:Nat×Bool=>hd [(4,.one (.nl 1)),(5,vT (.bool false)),(6,vT (.bool false)),(7,.one (.rn (zbm N))),(8,.one (.rn (prS Pr))),(9,.one (.ow 832 0)),(10,vT (.str [])),(11,vI i),(12,vT (.bool x.2)),(13,vI x.1)] [] [(832,⟨true,1,out.map fun s=>[.str s],0,true⟩)]) (fun x=>x.1<=Pr.length/\x.2=(!out.contains nm&&!((Pr.take x.1).any (cndS N out nm)))) (fun x=>Pr.length-x.1) (0,!out.contains nm) (zad ?_) ⟨Q1 _,by simp⟩ ?_
       ·simp -implicitDefEqProofs only[go_sem]
       ·rintro⟨k,rd⟩ ⟨hk,hrd⟩;simp only at hk hrd;by_cases hkl:k<Pr.length
        ·have HA:=zjd N Pr[k].1;have HB:=zjd out Pr[k].1;have hnx:((Pr.take (k+1)).any (cndS N out nm))=((Pr.take k).any (cndS N out nm)||cndS N out nm Pr[k]):=by
          rw[Qj hkl,List.any_append];simp
         have hcd:cndS N out nm Pr[k]=(Pr[k].2==nm&&N.contains Pr[k].1&&!out.contains Pr[k].1):=rfl;cases c1:(Pr[k].2==nm)
         ·rw[c1,Ql,Ql]at hcd;simp -implicitDefEqProofs only[go_sem,hkl];refine drawn Ys ?_;simp -implicitDefEqProofs only[go_sem,hkl,hil,zac,hnm,c1];refine⟨Ys,(k+1,rd),⟨hkl,by rw[hnx,hcd];simpa using hrd⟩,by simp only;omega,zad ?_⟩;simp -implicitDefEqProofs only[go_sem];rw[zam Yt]
         ·rw[c1,Qq]at hcd;cases c2:N.contains Pr[k].1
          ·rw[c2,Ql]at hcd;rw[c2]at HA;simp -implicitDefEqProofs only[go_sem,hkl];refine drawn Ys ?_;simp -implicitDefEqProofs only[go_sem,hkl,hil,zac,hnm,c1];refine zbk (HA) Yr ?_;simp -implicitDefEqProofs only[go_sem];refine⟨Ys,(k+1,rd),⟨hkl,by rw[hnx,hcd];simpa using hrd⟩,by simp only;omega,zad ?_⟩;simp -implicitDefEqProofs only[go_sem];rw[zam Yt]
          ·rw[c2,Qq]at hcd;rw[c2]at HA;cases c3:out.contains Pr[k].1
           ·rw[c3]at HB hcd;simp -implicitDefEqProofs only[go_sem,hkl];refine drawn Ys ?_;simp -implicitDefEqProofs only[go_sem,hkl,hil,zac,hnm,c1];refine zbk (HA) Yr ?_;simp -implicitDefEqProofs only[go_sem];simp -implicitDefEqProofs only[go_sem,hkl,zac];refine zbk (HB) Yr ?_;simp -implicitDefEqProofs only[go_sem];refine⟨Ys,(k+1,false),⟨hkl,by rw[hnx,hcd];simp⟩,by simp only;omega,zad ?_⟩;simp -implicitDefEqProofs only[go_sem];rw[zam Yt]
           ·rw[c3]at HB hcd;simp -implicitDefEqProofs only[go_sem,hkl];refine drawn Ys ?_;simp -implicitDefEqProofs only[go_sem,hkl,hil,zac,hnm,c1];refine zbk (HA) Yr ?_;simp -implicitDefEqProofs only[go_sem];simp -implicitDefEqProofs only[go_sem,hkl,zac];refine zbk (HB) Yr ?_;simp -implicitDefEqProofs only[go_sem];refine⟨Ys,(k+1,rd),⟨hkl,by rw[hnx,hcd];simpa using hrd⟩,by simp only;omega,zad ?_⟩;simp -implicitDefEqProofs only[go_sem];rw[zam Yt]
        ·rw[Qm Yt]at hrd;have hrd:rd=zus N Pr out nm:=hrd;simp -implicitDefEqProofs only[go_sem,hkl,hil,zac,hnm];refine⟨fun hrt=>?_,fun hrf=>?_⟩
         ·refine⟨(i+1,nm),⟨hil,Or.inr ⟨hnm▸hne _ (Qd hil),i,hil,zcy hil hno (by rw[hnm,<-hrd];exact hrt),hnm.symm⟩⟩,by simp only;omega,zad ?_⟩;simp -implicitDefEqProofs only[go_sem];rw[zam Yt]
         ·refine⟨(i+1,[]),⟨hil,Or.inl ⟨rfl,zcd hil hno (by rw[hnm,<-hrd];exact hrf)⟩⟩,by simp only;omega,zad ?_⟩;simp -implicitDefEqProofs only[go_sem];rw[zam Yt]
      ·have hid:zc9 N (zus N Pr out) = -1:=by
        rw[Qm Yt]at hno;exact zd9 hno
       rw[hid,if_neg Yt]at hr;subst hr;simp -implicitDefEqProofs only[go_sem,hil,nilb]
     ·have hnxb:(N[j]==([]:Str))=false:=by simpa using hnx
      rw[hidx,if_pos Yt,Jw,za2 hj]at hr;simp -implicitDefEqProofs only[go_sem,hnxb];refine⟨fun _=>?_,fun _=>?_⟩
      all_goals
       refine zap Yr ?_;simp -implicitDefEqProofs only[go_sem];refine apD true (by simp -implicitDefEqProofs only[go_sem,ne_eq,Qa,ha]) ?_;simp -implicitDefEqProofs only[go_sem,ne_eq,Qa,ha];refine⟨out++[N[j]],⟨by rw[Qh];simp;omega,by rw[<-hr];congr 1;rw[Qh];simp;omega⟩,by rw[Qh];simp;omega,zad ?_⟩;simp -implicitDefEqProofs only[go_sem];rw[Qt,Q7]
   ·have h0:N.length-out.length=0:=by omega
    rw[h0]at hr;unfold zw8 at hr;subst hr;simp -implicitDefEqProofs only[go_sem,hlt]
end
section
open Go.RowKit
theorem zxp {α:Type}{xs:List α}{p q:α->Bool}(h:∀x∈xs,p x=q x):zc9 xs p=zc9 xs q:=by
 have h1:xs.any p=xs.any q:=by
  induction xs with
  | nil=>rfl
  | cons a l ih=>rw[List.any_cons,List.any_cons,h a (by simp),ih fun x hx=>h x (by simp[hx])]
 have h2:xs.findIdx p=xs.findIdx q:=by
  clear h1;induction xs with
  | nil=>rfl
  | cons a l ih=>rw[List.findIdx_cons,List.findIdx_cons,h a (by simp),ih fun x hx=>h x (by simp[hx])]
 unfold zc9
 rw[h1,h2]
theorem qhq {α β:Type}(f:α->β)(xs:List α)(p:β->Bool):zc9 (xs.map f) p=zc9 xs fun x=>p (f x):=by
 have h2:(xs.map f).findIdx p=xs.findIdx fun x=>p (f x):=by
  induction xs with
  | nil=>rfl
  | cons a l ih=>rw[Qi,List.findIdx_cons,List.findIdx_cons,ih]
 unfold zc9
 rw[List.any_map,h2]
 rfl
theorem zto {L:List Eg}{N:List Str}{Pr:List (Str×Str)}(hN:L.map Prod.fst=N)(h:∀out,∀z∈L,ztj L out z=zus N Pr out z.1):∀n out,qle L n out=zw8 N Pr n out
 | 0,_=>rfl
 | n+1,out=>by
  have e:zc9 L (ztj L out)=zc9 N (zus N Pr out):=by
   rw[<-hN,qhq,hN];exact zxp fun z hz=>h out z hz
  unfold qle zw8;rw[<-e];by_cases h0:0<=zc9 L (ztj L out)
  ·rw[if_pos h0,if_pos h0,zto hN h n];obtain⟨h1,_⟩:=zsb h0;have h2:(zc9 L (ztj L out)).toNat<N.length:=by rw[<-hN,Qa];exact h1
   rw[za2 h1,za2 h2];simp only[<-hN,List.getElem_map]
  ·rw[if_neg h0,if_neg h0]
theorem qnt {e:Ex}{pos:Bool}(h:zbx e pos=true):arI e pos=arS e pos:=by
 obtain⟨_,hn,_⟩:=zbr h
 have hN:=zm4 e pos [] hn
 have hd:(zbi e pos).Nodup:=by
  unfold zbx at h;rw[Qc]at h;exact(zg1.1 h.2).1
 have hP:=qc0 e pos [] [] hn fun x=>Iff.rfl
 unfold arI arS
 rw[zto hN fun out z hz=>qhm hN hd hP out hz]
 congr 1
 rw[<-hN,Qa]
theorem ztw (N:List Str)(Pr:List (Str×Str)):∀n out,(zw8 N Pr n out).1.length<=n+out.length
 | 0,out=>by simp[zw8]
 | n+1,out=>by
  unfold zw8;split
  ·have:=ztw N Pr n (out++[N.getD (zc9 N (zus N Pr out)).toNat []]);rw[Qh]at this;simp only[Qb,Qe]at this;omega
  ·simp
def eoR (e:Ex)(pos:Bool)(ok:Bool):List Str:=if ok=true then (arS e pos).1 else []
theorem qms (e:Ex)(pos:Bool)(ok:Bool):(eoR e pos ok).length<=e.nodes:=by
 unfold eoR arS
 split
 ·have:=ztw (zbi e pos) (zft e pos []) (zbi e pos).length [];have:=zep e pos;simp only[Qe]at *;omega
 ·simp
theorem zvn (e:Ex)(he:e.wt<=1048576)(pos:Bool):FC Tryz.prog 28 [exD e,bD pos] [.one (zbm (eoR e pos (zbx e pos))),bD (zbx e pos&&(arS e pos).2),bD (zbx e pos)]:=by
 have H:=zjm e he pos
 unfold eoR
 cases h:zbx e pos
 ·rw[h]at H;exact H
 ·rw[h,qnt h]at H;exact H
end
section
open Go.RowKit
def Ex.zero:Ex:=.mk (mkF 0 []) [] []
noncomputable def kx (ts us:List Tm)(i:Nat):Int:=zc9 us fun a=>same a (ts.getD i Tm.zero)
noncomputable def rst (ts us:List Tm):List Nat:=(List.range us.length).filter fun k=>!(ts.any fun a=>same a (us.getD k Tm.zero))
noncomputable def zlw (f:Fm)(ts:List Tm)(b:Ex)(pos:Bool)(L1 L2:List (Ex×Bool)):Ex×Bool :=
  if(isQ f.op&&!zax f pos)=true then
    (if(L2.all fun q=>q.2)=true then (.mk f (ts++(rst ts b.terms).map fun k=>b.terms.getD k Tm.zero) ((L2.map fun q=>q.1)++(rst ts b.terms).map fun k=>b.parts.getD k Ex.zero),true)
     else (.mk f (ts.take (L2.takeWhile fun q=>q.2).length) ((L2.takeWhile fun q=>q.2).map fun q=>q.1),false))
  else if(!decide (ts.length=0)&&!same (ts.getD 0 Tm.zero) (b.terms.getD 0 Tm.zero))=true then (.mk f [] [],false)
  else (.mk f (ts.take 1) ((L1.takeWhile fun q=>q.2).map fun q=>q.1),L1.all fun q=>q.2)
noncomputable def mrg:Ex->Ex->Bool->Ex×Bool:=Ex.fold fun f ts ps rs b pos=>zlw f ts b pos
 ((ps.zip rs).mapIdx fun i q=>q.2 (b.parts.getD i Ex.zero) (sgn f i pos))
 ((ps.zip rs).mapIdx fun i q=>if 0<=kx ts b.terms i then q.2 (b.parts.getD (kx ts b.terms i).toNat Ex.zero) pos else (q.1,true))
noncomputable abbrev zsg (a b:Ex)(pos:Bool):List (Ex×Bool):=a.parts.mapIdx fun i p=>mrg p (b.parts.getD i Ex.zero) (sgn a.form i pos)
noncomputable abbrev qfa (a b:Ex)(pos:Bool):List (Ex×Bool):=a.parts.mapIdx fun i p=>if 0<=kx a.terms b.terms i then mrg p (b.parts.getD (kx a.terms b.terms i).toNat Ex.zero) pos else (p,true)
theorem qer (a b:Ex)(pos:Bool):mrg a b pos=zlw a.form a.terms b pos (zsg a b pos) (qfa a b pos):=by
 cases a with
 | mk f ts ps =>
  conv=>lhs;unfold mrg;rw[Ex.fold_eq]
  simp only[zis];rfl
theorem zhb (a b:Ex)(pos:Bool):(zsg a b pos).length=a.parts.length:=by simp
theorem znu (a b:Ex)(pos:Bool):(qfa a b pos).length=a.parts.length:=by simp
theorem zgn {e:Ex}{pos:Bool}(h:zbe e pos=true)(i:Nat)(hi:i<e.parts.length):e.parts[i].form=if isQ e.form.op=true then (zbf e.form.var (e.terms.getD i Tm.zero) (e.form.parts.getD 0 (mkF 0 []))).1 else e.form.parts.getD i (mkF 0 []):=by
 rw[zc2]at h
 cases hq:isQ e.form.op
 ·rw[hq,if_neg (by simp),Qc]at h;have:=(ziy (ps:=e.parts) (fun i p=>same p.form (e.form.parts.getD i (mkF 0 []))) (fun i p=>zbe p (sgn e.form i pos))).1 h.2 i hi;rw[if_neg (by simp)];exact zbg.1 this.1
 ·rw[hq,if_pos rfl,Qc]at h;have:=(ziy (ps:=e.parts) (fun i p=>zjq e.form e.terms i p) (fun i p=>zbe p pos)).1 h.2 i hi;have h1:=this.1;unfold zjq at h1;simp only[Qc]at h1;rw[if_pos rfl];exact zbg.1 h1.2
theorem zeu {e:Ex}{pos:Bool}(h:zbe e pos=true)(hq:isQ e.form.op=true):e.terms.Nodup:=by
 have hl:=(zb9 h).1 hq
 rw[zc2,hq,if_pos rfl,Qc]at h
 rw[List.nodup_iff_pairwise_ne,List.pairwise_iff_getElem]
 intro i j hi hj hij e0
 have:=(ziy (ps:=e.parts) (fun i p=>zjq e.form e.terms i p) (fun i p=>zbe p pos)).1 h.2 j Yt
 have h1:=this.1
 unfold zjq at h1
 simp only[Qc,Jk]at h1
 have h2:=h1.1.1.2
 rw[za2 hj,List.any_eq_false]at h2
 exact h2 e.terms[i] (by rw[Jh];exact⟨i,by rw[Qo];omega,by rw[List.getElem_take]⟩) (by rw[zbg,e0])
theorem qc9 {us:List Tm}(hn:us.Nodup){k:Nat}(hk:k<us.length):(zc9 us fun a=>same a us[k])=(k:Nat):=by
 refine zcy hk (fun x hx=>ziv.2 fun e=>?_) (zho _)
 obtain⟨j,hj,rfl⟩:=Jh.1 hx
 rw[List.getElem_take]at e
 have hj2:=hj
 rw[Qo]at hj2
 have:=zes hn Yt hk e
 omega
theorem qgn {us:List Tm}{t:Tm}{k:Nat}(h:(zc9 us fun a=>same a t)=(k:Nat)):∃hk:k<us.length,us[k]=t:=by
 unfold zc9 at h
 split at h
 ·rename_i ha;have h1:us.findIdx (fun a=>same a t)=k:=by omega
  have h2:us.findIdx (fun a=>same a t)<us.length:=List.findIdx_lt_length.2 (Yc.1 ha);have h3:=List.findIdx_getElem (w:=h2);subst h1;exact⟨h2,zbg.1 h3⟩
 ·omega
theorem zwj {ts us:List Tm}{i:Nat}(hi:i<ts.length)(h:0<=kx ts us i):∃hk:(kx ts us i).toNat<us.length,us[(kx ts us i).toNat]=ts[i]:=by
 unfold kx at h⊢
 rw[za2 hi]at h⊢
 exact qgn Yt
end
section
open Go.RowKit
theorem zjo (e:Ex)(he:e.wt<=1048576)(H:∀p∈e.parts,FC Tryz.prog 64 [exD p] [exD p]):FC Tryz.prog 64 [exD e] [exD e]:=by
 have hW:=e.wt_eq
 have HF:=zhz e.form Yt
 have HT:=zta e.terms Yt
 simp only[exD,zae e,fmD,zab e.form]at HF⊢
 refine zak Tryz.call64 Tryz.func64 rfl Ys (zaz Ys) ?_
 simp -implicitDefEqProofs only[go_sem,Tryz.results64]
 refine drawn Ys ?_
 simp -implicitDefEqProofs only[go_sem]
 refine zaj (HF) Yr ?_
 simp -implicitDefEqProofs only[go_sem]
 refine zaj (HT) Yr ?_
 simp -implicitDefEqProofs only[go_sem]
 refine⟨Ys,?_⟩
 refine zaf (fun k:Nat=>hd [(2,.one (.bx 2 0)),(3,.one (.bx 3 0)),(14,vT (exS e.parts)),(15,vI e.parts.length),(16,vI k)] [(2,[.t (.int .i64 0),.t (.str []),.nl 2,.t (.str []),.nl 5,.nl 2,.nl 7]),(3,[.t (.int .i64 e.form.op),.t (.str e.form.atom.name),.ow 258 0,.t (.str e.form.var),.ow 260 0,.ow 352 0,.ow 3000 0])]
  [(258,⟨true,2,e.form.atom.args.map tmC,0,true⟩),(260,⟨true,5,e.form.parts.map fmC,0,true⟩),(352,⟨true,2,e.terms.map tmC,0,true⟩),(3000,⟨true,7,(e.parts.take k).map exC,0,true⟩)]) (fun k=>k<=e.parts.length) (fun k=>e.parts.length-k) 0 (zad ?_) (Q1 _) ?_
 ·simp -implicitDefEqProofs only[go_sem]
 ·intro k hk;by_cases hlt:k<e.parts.length
  ·have hmin:min k e.parts.length<=4294967295:=by omega
   have HC:=H e.parts[k] (Qd hlt);simp only[exD,zae e.parts[k]]at HC;simp -implicitDefEqProofs only[go_sem,hlt,zac,zae e.parts[k]];refine drawn Ys ?_;simp -implicitDefEqProofs only[go_sem];refine zaj (HC) Yr ?_;simp -implicitDefEqProofs only[go_sem];refine za8 Yr ?_;simp -implicitDefEqProofs only[go_sem];refine zek true (by simp -implicitDefEqProofs only[go_sem,ne_eq,Qa,Qo,hmin]) ?_;simp -implicitDefEqProofs only[go_sem,ne_eq,Qa,Qo,hmin];refine⟨Ys,k+1,hlt,Yt,zad ?_⟩;simp -implicitDefEqProofs only[go_sem];rw[zam Yt,Qj hlt,Qt,Q7,zae e.parts[k]];exact⟨rfl,rfl⟩
  ·have ht:e.parts.take k=e.parts:=Qm Yt;simp -implicitDefEqProofs only[go_sem,hlt,ht]
theorem zfu:∀e:Ex,e.wt<=1048576->FC Tryz.prog 64 [exD e] [exD e] :=
 zcp fun f ts ps ih he=>zjo (.mk f ts ps) he fun p hp=>ih p hp (Q9 (zci (a:=.mk f ts ps) hp) he)
theorem zz2 (e:Ex)(he:e.wt<=1048576)(H:∀p∈e.parts,FC Tryz.prog 61 [exD p] [exD p]):FC Tryz.prog 61 [exD e] [exD e]:=by
 have hW:=e.wt_eq
 have hTW:zie e.terms=e.terms.length+(e.terms.map Tm.wt).sum:=rfl
 have HF:=zkc e.form Yt
 simp only[exD,zae e,fmD,zab e.form]at HF⊢
 refine zak Tryz.call61 Tryz.func61 rfl Ys (zaz Ys) ?_
 simp -implicitDefEqProofs only[go_sem,Tryz.results61]
 refine callF (HF) Yr ?_
 simp -implicitDefEqProofs only[go_sem]
 refine zaf (fun k:Nat=>hd [(1,.one (.bx 1 0)),(2,.one (.bx 2 0)),(3,.one (.bx 3 0)),(4,vI k)] [(1,[.t (.int .i64 e.form.op),.t (.str e.form.atom.name),.t (tmS e.form.atom.args),.t (.str e.form.var),.t (fmS e.form.parts),.t (tmS e.terms),.t (exS e.parts)]),(2,[.t (.int .i64 0),.t (.str []),.nl 2,.t (.str []),.nl 5,.nl 2,.nl 7]),(3,[.t (.int .i64 e.form.op),.t (.str e.form.atom.name),.ow 258 0,.t (.str e.form.var),.ow 260 0,.ow 3000 0,.nl 7])]
  [(258,⟨true,2,e.form.atom.args.map tmC,0,true⟩),(260,⟨true,5,e.form.parts.map fmC,0,true⟩),(3000,⟨true,2,(e.terms.take k).map tmC,0,true⟩)]) (fun k=>k<=e.terms.length) (fun k=>e.terms.length-k) 0 (zad ?_) (Q1 _) ?_
 ·simp -implicitDefEqProofs only[go_sem]
 ·intro k hk;by_cases hlt:k<e.terms.length
  ·have hmin:min k e.terms.length<=4294967295:=by omega
   have hTk:=zay Tm.wt e.terms e.terms[k] (Qd hlt);have HC:=zg2 e.terms[k] Yt;simp only[tmD,zaa e.terms[k]]at HC;simp -implicitDefEqProofs only[go_sem,hlt];refine drawn Ys ?_;simp -implicitDefEqProofs only[go_sem,hlt,zac,zaa e.terms[k]];refine zaj (HC) Yr ?_;simp -implicitDefEqProofs only[go_sem];refine za8 Yr ?_;simp -implicitDefEqProofs only[go_sem];refine zek true (by simp -implicitDefEqProofs only[go_sem,ne_eq,Qa,Qo,hmin]) ?_;simp -implicitDefEqProofs only[go_sem,ne_eq,Qa,Qo,hmin];refine⟨Ys,k+1,hlt,Yt,zad ?_⟩;simp -implicitDefEqProofs only[go_sem];rw[zam Yt,Qj hlt,Qt,Q7,zaa e.terms[k]];exact⟨rfl,rfl⟩
  ·have ht:e.terms.take k=e.terms:=Qm Yt;simp -implicitDefEqProofs only[go_sem,hlt,ht]
   refine zaf (fun k:Nat=>hd [(1,.one (.bx 1 0)),(2,.one (.bx 2 0)),(3,.one (.bx 3 0)),(5,vI k)] [(1,[.t (.int .i64 e.form.op),.t (.str e.form.atom.name),.t (tmS e.form.atom.args),.t (.str e.form.var),.t (fmS e.form.parts),.t (tmS e.terms),.t (exS e.parts)]),(2,[.t (.int .i64 0),.t (.str []),.nl 2,.t (.str []),.nl 5,.nl 2,.nl 7]),(3,[.t (.int .i64 e.form.op),.t (.str e.form.atom.name),.ow 258 0,.t (.str e.form.var),.ow 260 0,.ow 3000 0,.ow 3001 0])]
    [(258,⟨true,2,e.form.atom.args.map tmC,0,true⟩),(260,⟨true,5,e.form.parts.map fmC,0,true⟩),(3000,⟨true,2,e.terms.map tmC,0,true⟩),(3001,⟨true,7,(e.parts.take k).map exC,0,true⟩)]) (fun k=>k<=e.parts.length) (fun k=>e.parts.length-k) 0 (zad ?_) (Q1 _) ?_
   ·simp -implicitDefEqProofs only[go_sem]
   ·intro j hj;by_cases hlj:j<e.parts.length
    ·have hmin:min j e.parts.length<=4294967295:=by omega
     have HC:=H e.parts[j] (Qd hlj);simp only[exD,zae e.parts[j]]at HC;simp -implicitDefEqProofs only[go_sem,hlj];refine drawn Ys ?_;simp -implicitDefEqProofs only[go_sem,hlj,zac,zae e.parts[j]];refine zaj (HC) Yr ?_;simp -implicitDefEqProofs only[go_sem];refine za8 Yr ?_;simp -implicitDefEqProofs only[go_sem];refine zek true (by simp -implicitDefEqProofs only[go_sem,ne_eq,Qa,Qo,hmin]) ?_;simp -implicitDefEqProofs only[go_sem,ne_eq,Qa,Qo,hmin];refine⟨Ys,j+1,hlj,Yt,zad ?_⟩;simp -implicitDefEqProofs only[go_sem];rw[zam Yt,Qj hlj,Qt,Q7,zae e.parts[j]];exact⟨rfl,rfl⟩
    ·have ht:e.parts.take j=e.parts:=Qm Yt;simp -implicitDefEqProofs only[go_sem,hlj,ht]
theorem zwi:∀e:Ex,e.wt<=1048576->FC Tryz.prog 61 [exD e] [exD e] :=
 zcp fun f ts ps ih he=>zz2 (.mk f ts ps) he fun p hp=>ih p hp (Q9 (zci (a:=.mk f ts ps) hp) he)
end
section
open Go.RowKit
theorem zvz {α:Type}(p:α->Bool):∀(L:List α)(k:Nat)(hk:k<L.length),(∀j (h:j<k),p (L[j]'Yt)=true)->p L[k]=false->L.takeWhile p=L.take k
 | [],_,hk,_,_=>by simp at hk
 | x::L,0,_,_,h=>by
  have h:p x=false:=h;rw[J1,h];rfl
 | x::L,k+1,hk,H,h=>by
  have h0:p x=true:=H 0 Yt;rw[J1,h0,List.take_succ_cons];simp only[if_true];rw[zvz p L k (by simpa using hk) (fun j hj=>by have:=H (j+1) Yt;simpa using this) (by simpa using h)]
theorem zf6 {α:Type}(p:α->Bool):∀(L:List α),(∀j (h:j<L.length),p L[j]=true)->L.takeWhile p=L/\L.all p=true
 | [],_=>⟨rfl,rfl⟩
 | x::L,H=>by
  have h0:p x=true:=H 0 (by simp);obtain⟨h1,h2⟩:=zf6 p L fun j hj=>by have:=H (j+1) (by simpa using hj);simpa using this
  rw[J1,h0,Kt,h0,h1,h2];exact⟨rfl,rfl⟩
theorem zir {α:Type}(p:α->Bool)(L:List α){k:Nat}(hk:k<L.length)(h:p L[k]=false):L.all p=false:=by
 rw[Yn];exact⟨_,Qd hk,by simp[h]⟩
theorem zgj {α:Type}{p:α->Bool}{L:List α}{k:Nat}(H:∀j (_:j<k)(h:j<L.length),p L[j]=true){hk:k<L.length}(h1:p L[k]=true):∀j (_:j<k+1)(h:j<L.length),p L[j]=true:=fun j hj h=>by
 by_cases e:j=k
 ·subst e;exact h1
 ·exact H j Yt h
theorem zlb {a b:Ex}{pos:Bool}(ha:zbe a pos=true)(hb:zbe b pos=true)(hf:a.form=b.form)(hq:isQ a.form.op=false):a.parts.length=b.parts.length/\∀i (h1:i<a.parts.length)(h2:i<b.parts.length),a.parts[i].form=b.parts[i].form:=by
 have l1:=(zb9 ha).2 hq
 have l2:=(zb9 hb).2 (hf▸hq)
 refine⟨by rw[l1,l2,hf],fun i h1 h2=>?_⟩
 rw[zgn ha i h1,zgn hb i h2,if_neg (by rw[hq];simp),if_neg (by rw[<-hf,hq];simp),hf]
theorem zev {a b:Ex}{pos:Bool}(ha:zbe a pos=true)(hb:zbe b pos=true)(hf:a.form=b.form)(hq:isQ a.form.op=true){i j:Nat}(h1:i<a.parts.length)(h2:j<b.parts.length)(ht:a.terms.getD i Tm.zero=b.terms.getD j Tm.zero):a.parts[i].form=b.parts[j].form:=by
 rw[zgn ha i h1,zgn hb j h2,if_pos hq,if_pos (hf▸hq),hf,ht]
theorem zn7 (ts us:List Tm)(k:Nat):((List.range (k+1)).filter fun k=>!(ts.any fun a=>same a (us.getD k Tm.zero)))=((List.range k).filter fun k=>!(ts.any fun a=>same a (us.getD k Tm.zero)))++(if(ts.any fun a=>same a (us.getD k Tm.zero))=true then []else [k]):=by
 rw[List.range_succ,List.filter_append]
 congr 1
 rw[List.filter_cons]
 split
 ·rw[if_neg (by rename_i h;simpa using h)];rfl
 ·rw[if_pos (by rename_i h;simpa using h)];rfl
noncomputable abbrev zow (ts us:List Tm)(k:Nat):List Nat:=(List.range k).filter fun k=>!(ts.any fun a=>same a (us.getD k Tm.zero))
abbrev qk7 (p b:Ex)(pos:Bool):Prop:=FC Tryz.prog 73 [exD p,exD b,bD pos] [exD (mrg p b pos).1,bD (mrg p b pos).2]
theorem ztf (a:Ex)(ha:a.wt<=1048576)(H:∀p∈a.parts,∀b:Ex,b.wt<=1048576->∀pos,zbe p pos=true->zbe b pos=true->p.form=b.form->qk7 p b pos)(b:Ex)(hb:b.wt<=1048576)(pos:Bool)(hna:zbe a pos=true)(hnb:zbe b pos=true)(hf:a.form=b.form):qk7 a b pos:=by
 have hv:=qer a b pos
 have hWa:=a.wt_eq
 have hWb:=b.wt_eq
 have hTa:zie a.terms=a.terms.length+(a.terms.map Tm.wt).sum:=rfl
 have hTb:zie b.terms=b.terms.length+(b.terms.map Tm.wt).sum:=rfl
 have hL1l:=zhb a b pos
 have hL2l:=znu a b pos
 have hL1k:∀k (h:k<a.parts.length),(zsg a b pos)[k]'(by rw[hL1l];exact h)=mrg a.parts[k] (b.parts.getD k Ex.zero) (sgn a.form k pos):=fun k h=>by simp only[Q5]
 have hL2k:∀k (h:k<a.parts.length),(qfa a b pos)[k]'(by rw[hL2l];exact h)=if 0<=kx a.terms b.terms k then mrg a.parts[k] (b.parts.getD (kx a.terms b.terms k).toNat Ex.zero) pos else (a.parts[k],true):=fun k h=>by simp only[Q5]
 have HO:=zkc a.form Yt
 have HQ:=zcr a.form
 have HSt:=zd3 a.form pos
 have hse:(isQ a.form.op&&((a.form.op==8)==pos))=zax a.form pos:=rfl
 rw[hse]at HSt
 have hpa:=(zbq hna).1
 have hpb:=(zbq hnb).1
 unfold qk7
 rw[hv]
 generalize hL1:zsg a b pos=L1 at hL1l hL1k⊢
 generalize hL2:qfa a b pos=L2 at hL2l hL2k⊢
 have hRR:∃R,zlw a.form a.terms b pos L1 L2=R:=⟨_,rfl⟩
 obtain⟨R,hR⟩:=hRR
 rw[hR]
 simp only[exD,zae a,zae b,zae R.1,fmD,zab a.form]at HO HQ HSt⊢
 have hnwq:isQ a.form.op=false->¬(isQ a.form.op&&!zax a.form pos)=true:=fun h=>by rw[h];simp
 have hnws:zax a.form pos=true->¬(isQ a.form.op&&!zax a.form pos)=true:=fun h=>by rw[h];simp
 cases hq:isQ a.form.op
 ·-- no quantifier
  have hnw:=hnwq hq;rw[hq]at HQ;have ht0:a.terms.length=0:=by
   rw[zc2,hq,if_neg (by simp)]at hna;simp only[Qc,Qr]at hna;exact hna.1.1
  have htn:a.terms=[]:=Q8.1 ht0;have hsm:¬(!decide (a.terms.length=0)&&!same (a.terms.getD 0 Tm.zero) (b.terms.getD 0 Tm.zero))=true:=by rw[ht0];simp
  obtain⟨hpl,hfm⟩:=zlb hna hnb hf hq;have ht0i:(0<(a.terms.length:Int))=False:=by rw[ht0];simp
  have htk1:a.terms.take 1=[]:=by rw[htn];rfl
  refine zak Tryz.call73 Tryz.func73 rfl Ys (zaz Ys) ?_;simp -implicitDefEqProofs only[go_sem,Tryz.results73];refine callF (HO) Yr ?_;simp -implicitDefEqProofs only[go_sem];refine callF (HQ) (by simp -implicitDefEqProofs only[go_sem,ht0i]) ?_;simp -implicitDefEqProofs only[go_sem,ht0i]
  refine zaf (fun k:Nat=>hd [(2,vT (.bool pos)),(3,.one (.bx 3 0)),(4,.one (.bx 4 0)),(6,.one (.bx 6 0)),(7,vT (.bool false)),(8,.one (.bx 8 0)),(9,.one (.bx 9 0)),(10,vI k)] [(3,[.t (.int .i64 a.form.op),.t (.str a.form.atom.name),.t (tmS a.form.atom.args),.t (.str a.form.var),.t (fmS a.form.parts),.t (tmS a.terms),.t (exS a.parts)]),(4,[.t (.int .i64 b.form.op),.t (.str b.form.atom.name),.t (tmS b.form.atom.args),.t (.str b.form.var),.t (fmS b.form.parts),.t (tmS b.terms),.t (exS b.parts)]),(6,[.t (.int .i64 0),.t (.str []),.nl 2,.t (.str []),.nl 5,.nl 2,.nl 7]),(8,[.t (.int .i64 a.form.op),.t (.str a.form.atom.name),.t (tmS a.form.atom.args),.t (.str a.form.var),.t (fmS a.form.parts)]),(9,[.t (.int .i64 a.form.op),.t (.str a.form.atom.name),.ow 674 0,.t (.str a.form.var),.ow 676 0,.ow 3000 0,.ow 3001 0])]
   [(674,⟨true,2,a.form.atom.args.map tmC,0,true⟩),(676,⟨true,5,a.form.parts.map fmC,0,true⟩),(3000,⟨true,2,(a.terms.take 1).map tmC,0,true⟩),(3001,⟨true,7,(L1.take k).map fun q=>exC q.1,0,true⟩)]) (fun k=>k<=a.parts.length/\∀j (_:j<k) (h:j<L1.length),L1[j].2=true) (fun k=>a.parts.length-k) 0 (zad ?_) ⟨Q1 _,fun j h=>absurd h Yt⟩ ?_
  ·simp -implicitDefEqProofs only[go_sem,htk1]
  ·rintro k ⟨hk,hal⟩;by_cases hlt:k<a.parts.length
   ·have hkb:k<b.parts.length:=by omega
    have hkL:k<L1.length:=by omega
    have hfk:=hfm k hlt hkb;have hwa:=zay Ex.wt a.parts a.parts[k] (Qd hlt);have hwb:=zay Ex.wt b.parts b.parts[k] (Qd hkb);have HPo:=zdr a.form k pos;have hsg:(pos != (a.form.op==4||(a.form.op==7&&((k:Int)==0))))=sgn a.form k pos:=rfl;rw[hsg]at HPo;have HC:=H a.parts[k] (Qd hlt) b.parts[k] Yt (sgn a.form k pos) (hpa k hlt) (by rw[hf];exact hpb k hkb) hfk;have hRk:=hL1k k hlt;rw[za2 hkb]at hRk;unfold qk7 at HC;rw[<-hRk]at HC;have htk:L1.take (k+1)=L1.take k++[L1[k]]:=Qj hkL;generalize hq:L1[k]=q at HC htk hRk;have hmin:min k L1.length<=4294967295:=by omega
    have hmin2:min k L1.length+1<=4294967296:=by omega
    simp only[fmD,zab a.form,exD,zae a.parts[k],zae b.parts[k],zae q.1]at HPo HC;cases hq2:q.2
    ·rw[hq2]at HC;have htw:=zvz (fun q:Ex×Bool=>q.2) L1 k hkL (fun j h=>hal j h Yt) (by rw[hq];exact hq2);have hRe:R=(.mk a.form (a.terms.take 1) ((L1.take k).map fun q=>q.1),false):=by
      rw[<-hR];unfold zlw;rw[if_neg hnw,if_neg hsm,htw,zir (fun q:Ex×Bool=>q.2) L1 hkL (by rw[hq];exact hq2)]
     subst hRe;simp -implicitDefEqProofs only[go_sem,hlt];refine drawn Ys ?_;simp -implicitDefEqProofs only[go_sem,hlt,hkb,zac,zae a.parts[k],zae b.parts[k]];refine zaj (HPo) Yr ?_;simp -implicitDefEqProofs only[go_sem];refine zaj (HC) Yr ?_;simp -implicitDefEqProofs only[go_sem];refine⟨Ys,?_⟩;simp[Ex.form,Ex.terms,Ex.parts,K8]
    ·rw[hq2]at HC;simp -implicitDefEqProofs only[go_sem,hlt];refine drawn Ys ?_;simp -implicitDefEqProofs only[go_sem,hlt,hkb,zac,zae a.parts[k],zae b.parts[k]];refine zaj (HPo) Yr ?_;simp -implicitDefEqProofs only[go_sem];refine zaj (HC) Yr ?_;simp -implicitDefEqProofs only[go_sem];refine⟨Ys,?_⟩;refine zap Yr ?_;simp -implicitDefEqProofs only[go_sem];refine apD true (by simp -implicitDefEqProofs only[go_sem,ne_eq,Qa,Qo,hmin,hmin2]) ?_;simp -implicitDefEqProofs only[go_sem,ne_eq,Qa,Qo,hmin,hmin2];refine⟨k+1,⟨hlt,zgj hal (hk:=hkL) (by rw[hq];exact hq2)⟩,Yt,zad ?_⟩;simp -implicitDefEqProofs only[go_sem];rw[zam Yt,htk,Qt,Q7,zae q.1];exact⟨rfl,rfl⟩
   ·have ht:L1.take k=L1:=Qm Yt;obtain⟨w1,w2⟩:=zf6 (fun q:Ex×Bool=>q.2) L1 fun j h=>hal j Yt h;have hRe:R=(.mk a.form (a.terms.take 1) (L1.map fun q=>q.1),true):=by
     rw[<-hR];unfold zlw;rw[if_neg hnw,if_neg hsm,w1,w2]
    subst hRe;rw[ht];simp -implicitDefEqProofs only[go_sem,hlt];exact⟨rfl,rfl,rfl,rfl,rfl,rfl,by simp only[Ex.parts,Kh];rfl⟩
 ·rw[hq]at HQ;cases hs:zax a.form pos
  ·-- weak
   rw[hs]at HSt;have hw:(isQ a.form.op&&!zax a.form pos)=true:=by rw[hq,hs];rfl
   have hla:=(zb9 hna).1 hq;have hlb:=(zb9 hnb).1 (hf▸hq);have hdb:=zeu hnb (hf▸hq);refine zak Tryz.call73 Tryz.func73 rfl Ys (zaz Ys) ?_;simp -implicitDefEqProofs only[go_sem,Tryz.results73];refine callF (HO) Yr ?_;simp -implicitDefEqProofs only[go_sem];refine callF (HQ) Yr ?_;simp -implicitDefEqProofs only[go_sem];refine callF (HSt) Yr ?_;simp -implicitDefEqProofs only[go_sem]
   refine zaf (fun k:Nat=>hd [(2,vT (.bool pos)),(3,.one (.bx 3 0)),(4,.one (.bx 4 0)),(6,.one (.bx 6 0)),(7,vT (.bool false)),(8,.one (.bx 8 0)),(9,.one (.bx 9 0)),(13,vI k)] [(3,[.t (.int .i64 a.form.op),.t (.str a.form.atom.name),.t (tmS a.form.atom.args),.t (.str a.form.var),.t (fmS a.form.parts),.t (tmS a.terms),.t (exS a.parts)]),(4,[.t (.int .i64 b.form.op),.t (.str b.form.atom.name),.t (tmS b.form.atom.args),.t (.str b.form.var),.t (fmS b.form.parts),.t (tmS b.terms),.t (exS b.parts)]),(6,[.t (.int .i64 0),.t (.str []),.nl 2,.t (.str []),.nl 5,.nl 2,.nl 7]),(8,[.t (.int .i64 a.form.op),.t (.str a.form.atom.name),.t (tmS a.form.atom.args),.t (.str a.form.var),.t (fmS a.form.parts)]),(9,[.t (.int .i64 a.form.op),.t (.str a.form.atom.name),.ow 674 0,.t (.str a.form.var),.ow 676 0,.ow 3000 0,.ow 3001 0])]
    [(674,⟨true,2,a.form.atom.args.map tmC,0,true⟩),(676,⟨true,5,a.form.parts.map fmC,0,true⟩),(3000,⟨true,2,(a.terms.take k).map tmC,0,true⟩),(3001,⟨true,7,(L2.take k).map fun q=>exC q.1,0,true⟩)]) (fun k=>k<=a.terms.length/\∀j (_:j<k) (h:j<L2.length),L2[j].2=true) (fun k=>a.terms.length-k) 0 (zad ?_) ⟨Q1 _,fun j h=>absurd h Yt⟩ ?_
   ·simp -implicitDefEqProofs only[go_sem]
   ·rintro k ⟨hk,hal⟩;by_cases hlt:k<a.terms.length
    ·have hlp:k<a.parts.length:=by omega
     have hkL:k<L2.length:=by omega
     have hTk:=zay Tm.wt a.terms a.terms[k] (Qd hlt);have hwa:=zay Ex.wt a.parts a.parts[k] (Qd hlp);have HTk:=zg2 a.terms[k] Yt;have HOk:=zwi a.parts[k] Yt;have HIx:=zc7 b.terms a.terms[k];have hkx:(zc9 b.terms fun x=>same x a.terms[k])=kx a.terms b.terms k:=by unfold kx;rw[za2 hlt]
     rw[hkx]at HIx;have hRk:=hL2k k hlp;have htk:L2.take (k+1)=L2.take k++[L2[k]]:=Qj hkL;have htt:a.terms.take (k+1)=a.terms.take k++[a.terms[k]]:=Qj hlt;have hmin:min k L2.length<=4294967295:=by omega
     have hmin2:min k L2.length+1<=4294967296:=by omega
     have hmt:min k a.terms.length<=4294967295:=by omega
     have hmt2:min k a.terms.length+1<=4294967296:=by omega
     simp only[exD,zae a.parts[k],tmD,zaa a.terms[k]]at HTk HOk HIx;by_cases h0:0<=kx a.terms b.terms k
     ·obtain⟨hkb,hte⟩:=zwj hlt h0;rw[if_pos h0]at hRk;obtain⟨j,hj⟩:∃j:Nat,kx a.terms b.terms k=(j:Int):=⟨(kx a.terms b.terms k).toNat,Yt⟩;have hjn:(kx a.terms b.terms k).toNat=j:=by omega
      rw[hj]at HIx;simp only[hjn]at hkb hte hRk;have hjp:j<b.parts.length:=by omega
      have hge:((0:Int)<=(j:Int))=True:=by simp
      have hwb:=zay Ex.wt b.parts b.parts[j] (Qd hjp);have hpk:=hpa k hlp;have hpj:=hpb j hjp;rw[zqu hq]at hpk;rw[zqu (hf▸hq)]at hpj;have HC:=H a.parts[k] (Qd hlp) b.parts[j] Yt pos hpk hpj (zev hna hnb hf hq hlp hjp (by rw[za2 hlt,za2 hkb,hte]));rw[za2 hjp]at hRk;unfold qk7 at HC;rw[<-hRk]at HC;generalize hq:L2[k]=q at HC htk hRk;simp only[exD,zae a.parts[k],zae b.parts[j],zae q.1]at HC;cases hq2:q.2
      ·rw[hq2]at HC;have htw:=zvz (fun q:Ex×Bool=>q.2) L2 k hkL (fun j h=>hal j h Yt) (by rw[hq];exact hq2);have hRe:R=(.mk a.form (a.terms.take k) ((L2.take k).map fun q=>q.1),false):=by
        rw[<-hR];unfold zlw;rw[if_pos hw,if_neg (by rw[zir (fun q:Ex×Bool=>q.2) L2 hkL (by rw[hq];exact hq2)];simp),htw,Qo,Jz Yt]
       subst hRe;simp -implicitDefEqProofs only[go_sem,hlt,hlp,zac,zae a.parts[k]];refine callF (HOk) Yr ?_;simp -implicitDefEqProofs only[go_sem];refine drawn Ys ?_;simp -implicitDefEqProofs only[go_sem,hlt,zac,zaa a.terms[k]];refine zaj (HIx) Yr ?_;simp -implicitDefEqProofs only[go_sem];refine⟨Ys,?_⟩;refine drawn Ys ?_;simp -implicitDefEqProofs only[go_sem,hlp,hjp,zac,zae a.parts[k],zae b.parts[j]];refine zaj (HC) Yr ?_;simp -implicitDefEqProofs only[go_sem];refine⟨Ys,?_⟩;simp[Ex.form,Ex.terms,Ex.parts,K8]
      ·rw[hq2]at HC;have hq2:(L2[k]'hkL).2=true:=by rw[hq];exact hq2
       simp -implicitDefEqProofs only[go_sem,hlt,hlp,zac,zae a.parts[k]];refine callF (HOk) Yr ?_;simp -implicitDefEqProofs only[go_sem];refine drawn Ys ?_;simp -implicitDefEqProofs only[go_sem,hlt,zac,zaa a.terms[k]];refine zaj (HIx) Yr ?_;simp -implicitDefEqProofs only[go_sem];refine⟨Ys,?_⟩;refine drawn Ys ?_;simp -implicitDefEqProofs only[go_sem,hlp,hjp,zac,zae a.parts[k],zae b.parts[j]];refine zaj (HC) Yr ?_;simp -implicitDefEqProofs only[go_sem];refine⟨Ys,?_⟩;refine drawn Ys ?_;simp -implicitDefEqProofs only[go_sem,hlt,zac,zaa a.terms[k]];refine zaj (HTk) Yr ?_;simp -implicitDefEqProofs only[go_sem];refine za8 Yr ?_;simp -implicitDefEqProofs only[go_sem];refine zek true (by simp -implicitDefEqProofs only[go_sem,ne_eq,Qa,Qo,hmt,hmt2]) ?_;simp -implicitDefEqProofs only[go_sem,ne_eq,Qa,Qo,hmt,hmt2];refine⟨Ys,?_⟩;refine zap Yr ?_;simp -implicitDefEqProofs only[go_sem];refine apD true (by simp -implicitDefEqProofs only[go_sem,ne_eq,Qa,Qo,hmin,hmin2]) ?_;simp -implicitDefEqProofs only[go_sem,ne_eq,Qa,Qo,hmin,hmin2];refine⟨k+1,⟨hlt,zgj hal (hk:=hkL) hq2⟩,Yt,zad ?_⟩;simp -implicitDefEqProofs only[go_sem];rw[zam Yt,htk,htt,Qt,Qt,Q7,Q7,zae q.1,zaa a.terms[k]];exact⟨rfl,rfl,rfl⟩
     ·rw[if_neg h0]at hRk;have hq:L2[k]=(a.parts[k],true):=hRk;have hq2:(L2[k]'hkL).2=true:=by rw[hq]
      generalize kx a.terms b.terms k=x at h0 HIx;have hge:(0<=x)=False:=by simpa using h0
      simp -implicitDefEqProofs only[go_sem,hlt,hlp,zac,zae a.parts[k]];refine callF (HOk) Yr ?_;simp -implicitDefEqProofs only[go_sem];refine drawn Ys ?_;simp -implicitDefEqProofs only[go_sem,hlt,zac,zaa a.terms[k]];refine zaj (HIx) Yr ?_;simp -implicitDefEqProofs only[go_sem];refine⟨Ys,?_⟩;simp -implicitDefEqProofs only[go_sem,hge];refine drawn Ys ?_;simp -implicitDefEqProofs only[go_sem,hlt,zac,zaa a.terms[k]];refine zaj (HTk) Yr ?_;simp -implicitDefEqProofs only[go_sem];refine za8 Yr ?_;simp -implicitDefEqProofs only[go_sem];refine zek true (by simp -implicitDefEqProofs only[go_sem,ne_eq,Qa,Qo,hmt,hmt2]) ?_;simp -implicitDefEqProofs only[go_sem,ne_eq,Qa,Qo,hmt,hmt2];refine⟨Ys,?_⟩;refine zap Yr ?_;simp -implicitDefEqProofs only[go_sem];refine apD true (by simp -implicitDefEqProofs only[go_sem,ne_eq,Qa,Qo,hmin,hmin2]) ?_;simp -implicitDefEqProofs only[go_sem,ne_eq,Qa,Qo,hmin,hmin2];refine⟨k+1,⟨hlt,zgj hal (hk:=hkL) hq2⟩,Yt,zad ?_⟩;simp -implicitDefEqProofs only[go_sem];rw[zam Yt,htk,htt,Qt,Qt,Q7,Q7,hq,zae a.parts[k],zaa a.terms[k]];exact⟨rfl,rfl,rfl⟩
    ·have ht:L2.take k=L2:=Qm Yt;have htt:a.terms.take k=a.terms:=Qm Yt;obtain⟨w1,w2⟩:=zf6 (fun q:Ex×Bool=>q.2) L2 fun j h=>hal j Yt h;have hRe:R=(.mk a.form (a.terms++(rst a.terms b.terms).map fun k=>b.terms.getD k Tm.zero) ((L2.map fun q=>q.1)++(rst a.terms b.terms).map fun k=>b.parts.getD k Ex.zero),true):=by
      rw[<-hR];unfold zlw;rw[if_pos hw,if_pos w2]
     subst hRe;rw[ht,htt];simp -implicitDefEqProofs only[go_sem,hlt]
     refine zaf (fun k:Nat=>hd [(2,vT (.bool pos)),(3,.one (.bx 3 0)),(4,.one (.bx 4 0)),(6,.one (.bx 6 0)),(7,vT (.bool false)),(8,.one (.bx 8 0)),(9,.one (.bx 9 0)),(17,vI k)] [(3,[.t (.int .i64 a.form.op),.t (.str a.form.atom.name),.t (tmS a.form.atom.args),.t (.str a.form.var),.t (fmS a.form.parts),.t (tmS a.terms),.t (exS a.parts)]),(4,[.t (.int .i64 b.form.op),.t (.str b.form.atom.name),.t (tmS b.form.atom.args),.t (.str b.form.var),.t (fmS b.form.parts),.t (tmS b.terms),.t (exS b.parts)]),(6,[.t (.int .i64 0),.t (.str []),.nl 2,.t (.str []),.nl 5,.nl 2,.nl 7]),(8,[.t (.int .i64 a.form.op),.t (.str a.form.atom.name),.t (tmS a.form.atom.args),.t (.str a.form.var),.t (fmS a.form.parts)]),(9,[.t (.int .i64 a.form.op),.t (.str a.form.atom.name),.ow 674 0,.t (.str a.form.var),.ow 676 0,.ow 3000 0,.ow 3001 0])]
      [(674,⟨true,2,a.form.atom.args.map tmC,0,true⟩),(676,⟨true,5,a.form.parts.map fmC,0,true⟩),(3000,⟨true,2,(a.terms++(zow a.terms b.terms k).map fun k=>b.terms.getD k Tm.zero).map tmC,0,true⟩),(3001,⟨true,7,((L2.map fun q=>q.1)++(zow a.terms b.terms k).map fun k=>b.parts.getD k Ex.zero).map exC,0,true⟩)]) (fun k=>k<=b.terms.length) (fun k=>b.terms.length-k) 0 (zad ?_) (Q1 _) ?_
     ·simp -implicitDefEqProofs only[go_sem,zow,List.range_zero,List.filter_nil,Qk,Kj,Kh,K8]
     ·intro i hi;by_cases hlt2:i<b.terms.length
      ·have hip:i<b.parts.length:=by omega
       have hTi:=zay Tm.wt b.terms b.terms[i] (Qd hlt2);have hwi:=zay Ex.wt b.parts b.parts[i] (Qd hip);have HTi:=zg2 b.terms[i] Yt;have HOi:=zwi b.parts[i] Yt;have HIx:=zc7 a.terms b.terms[i];have hany:=zez a.terms fun x=>same x b.terms[i];have hrs:=zn7 a.terms b.terms i;have hrl:(zow a.terms b.terms i).length<=i:=by
        have:=List.length_filter_le (fun k=>!(a.terms.any fun x=>same x (b.terms.getD k Tm.zero))) (List.range i);rw[List.length_range]at this;exact this
       rw[za2 hlt2]at hrs;generalize (zc9 a.terms fun x=>same x b.terms[i])=x at HIx hany;rw[<-hany]at hrs;generalize hK:zow a.terms b.terms i=K at hrl hrs⊢;have hm1:a.terms.length+K.length<=4294967295:=by omega
       have hm2:a.terms.length+K.length+1<=4294967296:=by omega
       have hm3:L2.length+K.length<=4294967295:=by omega
       have hm4:L2.length+K.length+1<=4294967296:=by omega
       have hK':((List.range i).filter fun k=>!(a.terms.any fun a=>same a (b.terms.getD k Tm.zero)))=K:=hK;rw[hK']at hrs;have hrs:zow a.terms b.terms (i+1)=_:=hrs;simp only[exD,zae b.parts[i],tmD,zaa b.terms[i]]at HTi HOi HIx;by_cases h0:0<=x
       ·have hx0:(x<0)=False:=by simp;omega
        rw[decide_eq_true h0,if_pos rfl,Kj]at hrs;simp -implicitDefEqProofs only[go_sem,hlt2];refine drawn Ys ?_;simp -implicitDefEqProofs only[go_sem,hlt2,zac,zaa b.terms[i]];refine zaj (HIx) (by simp -implicitDefEqProofs only[go_sem,hx0]) ?_;simp -implicitDefEqProofs only[go_sem,hx0];refine⟨Ys,i+1,hlt2,Yt,zad ?_⟩;simp -implicitDefEqProofs only[go_sem];rw[zam Yt,hrs];exact⟨rfl,rfl,rfl⟩
       ·have hx0:(x<0)=True:=by simp;omega
        rw[decide_eq_false h0,if_neg (by simp)]at hrs;simp -implicitDefEqProofs only[go_sem,hlt2];refine drawn Ys ?_;simp -implicitDefEqProofs only[go_sem,hlt2,zac,zaa b.terms[i]];refine zaj (HIx) (by simp -implicitDefEqProofs only[go_sem,hx0]) ?_;simp -implicitDefEqProofs only[go_sem,hx0];refine⟨Ys,?_⟩;refine drawn Ys ?_;simp -implicitDefEqProofs only[go_sem,hlt2,zac,zaa b.terms[i]];refine zaj (HTi) Yr ?_;simp -implicitDefEqProofs only[go_sem];refine za8 Yr ?_;simp -implicitDefEqProofs only[go_sem];refine zek true (by simp -implicitDefEqProofs only[go_sem,ne_eq,Qa,Qh,hm1,hm2]) ?_;simp -implicitDefEqProofs only[go_sem,ne_eq,Qa,Qh,hm1,hm2];refine⟨Ys,?_⟩;refine drawn Ys ?_;simp -implicitDefEqProofs only[go_sem,hip,zac,zae b.parts[i]];refine zaj (HOi) Yr ?_;simp -implicitDefEqProofs only[go_sem];refine za8 Yr ?_;simp -implicitDefEqProofs only[go_sem];refine zek true (by simp -implicitDefEqProofs only[go_sem,ne_eq,Qa,Qh,hm3,hm4]) ?_;simp -implicitDefEqProofs only[go_sem,ne_eq,Qa,Qh,hm3,hm4];refine⟨Ys,i+1,hlt2,Yt,zad ?_⟩;simp -implicitDefEqProofs only[go_sem];rw[zam Yt,hrs];simp only[Qt,Qi,Qk,Km,za2 hlt2,za2 hip,zae b.parts[i],zaa b.terms[i]];exact⟨trivial,trivial,trivial⟩
      ·have hi2:i=b.terms.length:=by omega
       subst hi2;simp -implicitDefEqProofs only[go_sem,hlt2];exact⟨rfl,rfl,rfl,rfl,rfl,rfl,rfl⟩
  ·-- strong
   have hnw:=hnws hs;rw[hs]at HSt;obtain⟨ta,pa⟩:=zcv hna hs;obtain⟨tb,pb⟩:=zcv hnb (by rw[<-hf];exact hs);have ht0:0<a.terms.length:=by omega
   have ht0i:(0<(a.terms.length:Int))=True:=by rw[ta];simp
   have htb0:0<b.terms.length:=by omega
   have htb0i:(0<(b.terms.length:Int))=True:=by rw[tb];simp
   have HSm:=zoh a.terms[0] b.terms[0];have HTo:=zg2 a.terms[0] (by have:=zay Tm.wt a.terms a.terms[0] (Qd ht0);omega);simp only[tmD,zaa a.terms[0],zaa b.terms[0]]at HSm HTo;cases hsm0:same a.terms[0] b.terms[0]
   ·rw[hsm0]at HSm;have hRe:R=(.mk a.form [] [],false):=by
     rw[<-hR];unfold zlw;rw[if_neg hnw,za2 ht0,za2 htb0,hsm0,if_pos (by rw[ta];rfl)]
    subst hRe;refine zak Tryz.call73 Tryz.func73 rfl Ys (zaz Ys) ?_;simp -implicitDefEqProofs only[go_sem,Tryz.results73];refine callF (HO) Yr ?_;simp -implicitDefEqProofs only[go_sem];refine callF (HQ) Yr ?_;simp -implicitDefEqProofs only[go_sem];refine callF (HSt) (by simp -implicitDefEqProofs only[go_sem,ht0i]) ?_;simp -implicitDefEqProofs only[go_sem,ht0i];refine drawn Ys ?_;simp -implicitDefEqProofs only[go_sem,ht0i,htb0i,ht0,htb0,zac,zaa a.terms[0],zaa b.terms[0]];refine zaj (HSm) Yr ?_;simp -implicitDefEqProofs only[go_sem];refine⟨Ys,?_⟩;simp[Ex.form,Ex.terms,Ex.parts]
   ·rw[hsm0]at HSm;have hsm:¬(!decide (a.terms.length=0)&&!same (a.terms.getD 0 Tm.zero) (b.terms.getD 0 Tm.zero))=true:=by rw[za2 ht0,za2 htb0,hsm0];simp
    have hpl:a.parts.length=b.parts.length:=by omega
    have hfm:∀i (h1:i<a.parts.length) (h2:i<b.parts.length),a.parts[i].form=b.parts[i].form:=fun i h1 h2=>by
     obtain rfl:i=0:=by omega
     exact zev hna hnb hf hq h1 h2 (by rw[za2 ht0,za2 htb0];exact zbg.1 hsm0)
    have htk1:a.terms.take 1=[a.terms[0]]:=by
     obtain⟨t,ht⟩:=Jb.1 ta;simp[ht]
    refine zak Tryz.call73 Tryz.func73 rfl Ys (zaz Ys) ?_;simp -implicitDefEqProofs only[go_sem,Tryz.results73];refine callF (HO) Yr ?_;simp -implicitDefEqProofs only[go_sem];refine callF (HQ) Yr ?_;simp -implicitDefEqProofs only[go_sem];refine callF (HSt) (by simp -implicitDefEqProofs only[go_sem,ht0i]) ?_;simp -implicitDefEqProofs only[go_sem,ht0i];refine drawn Ys ?_;simp -implicitDefEqProofs only[go_sem,ht0i,htb0i,ht0,htb0,zac,zaa a.terms[0],zaa b.terms[0]];refine zaj (HSm) Yr ?_;simp -implicitDefEqProofs only[go_sem];refine⟨Ys,?_⟩;refine drawn Ys ?_;simp -implicitDefEqProofs only[go_sem,ht0i,ht0,zac,zaa a.terms[0]];refine zaj (HTo) Yr ?_;simp -implicitDefEqProofs only[go_sem];refine za8 Yr ?_;simp -implicitDefEqProofs only[go_sem];refine zek true (by simp -implicitDefEqProofs only[go_sem,ne_eq]) ?_;simp -implicitDefEqProofs only[go_sem,ne_eq];refine⟨Ys,?_⟩
    refine zaf (fun k:Nat=>hd [(2,vT (.bool pos)),(3,.one (.bx 3 0)),(4,.one (.bx 4 0)),(6,.one (.bx 6 0)),(7,vT (.bool false)),(8,.one (.bx 8 0)),(9,.one (.bx 9 0)),(10,vI k)] [(3,[.t (.int .i64 a.form.op),.t (.str a.form.atom.name),.t (tmS a.form.atom.args),.t (.str a.form.var),.t (fmS a.form.parts),.t (tmS a.terms),.t (exS a.parts)]),(4,[.t (.int .i64 b.form.op),.t (.str b.form.atom.name),.t (tmS b.form.atom.args),.t (.str b.form.var),.t (fmS b.form.parts),.t (tmS b.terms),.t (exS b.parts)]),(6,[.t (.int .i64 0),.t (.str []),.nl 2,.t (.str []),.nl 5,.nl 2,.nl 7]),(8,[.t (.int .i64 a.form.op),.t (.str a.form.atom.name),.t (tmS a.form.atom.args),.t (.str a.form.var),.t (fmS a.form.parts)]),(9,[.t (.int .i64 a.form.op),.t (.str a.form.atom.name),.ow 674 0,.t (.str a.form.var),.ow 676 0,.ow 1728 0,.ow 3001 0])]
     [(674,⟨true,2,a.form.atom.args.map tmC,0,true⟩),(676,⟨true,5,a.form.parts.map fmC,0,true⟩),(1728,⟨true,2,(a.terms.take 1).map tmC,0,true⟩),(3001,⟨true,7,(L1.take k).map fun q=>exC q.1,0,true⟩)]) (fun k=>k<=a.parts.length/\∀j (_:j<k) (h:j<L1.length),L1[j].2=true) (fun k=>a.parts.length-k) 0 (zad ?_) ⟨Q1 _,fun j h=>absurd h Yt⟩ ?_
    ·simp -implicitDefEqProofs only[go_sem,htk1,zaa a.terms[0]]
    ·rintro k ⟨hk,hal⟩;by_cases hlt:k<a.parts.length
     ·have hkb:k<b.parts.length:=by omega
      have hkL:k<L1.length:=by omega
      have hfk:=hfm k hlt hkb;have hwa:=zay Ex.wt a.parts a.parts[k] (Qd hlt);have hwb:=zay Ex.wt b.parts b.parts[k] (Qd hkb);have HPo:=zdr a.form k pos;have hsg:(pos != (a.form.op==4||(a.form.op==7&&((k:Int)==0))))=sgn a.form k pos:=rfl;rw[hsg]at HPo;have HC:=H a.parts[k] (Qd hlt) b.parts[k] Yt (sgn a.form k pos) (hpa k hlt) (by rw[hf];exact hpb k hkb) hfk;have hRk:=hL1k k hlt;rw[za2 hkb]at hRk;unfold qk7 at HC;rw[<-hRk]at HC;have htk:L1.take (k+1)=L1.take k++[L1[k]]:=Qj hkL;generalize hq:L1[k]=q at HC htk hRk;have hmin:min k L1.length<=4294967295:=by omega
      have hmin2:min k L1.length+1<=4294967296:=by omega
      simp only[fmD,zab a.form,exD,zae a.parts[k],zae b.parts[k],zae q.1]at HPo HC;cases hq2:q.2
      ·rw[hq2]at HC;have htw:=zvz (fun q:Ex×Bool=>q.2) L1 k hkL (fun j h=>hal j h Yt) (by rw[hq];exact hq2);have hRe:R=(.mk a.form (a.terms.take 1) ((L1.take k).map fun q=>q.1),false):=by
        rw[<-hR];unfold zlw;rw[if_neg hnw,if_neg hsm,htw,zir (fun q:Ex×Bool=>q.2) L1 hkL (by rw[hq];exact hq2)]
       subst hRe;simp -implicitDefEqProofs only[go_sem,hlt];refine drawn Ys ?_;simp -implicitDefEqProofs only[go_sem,hlt,hkb,zac,zae a.parts[k],zae b.parts[k]];refine zaj (HPo) Yr ?_;simp -implicitDefEqProofs only[go_sem];refine zaj (HC) Yr ?_;simp -implicitDefEqProofs only[go_sem];refine⟨Ys,?_⟩;simp[Ex.form,Ex.terms,Ex.parts,K8]
      ·rw[hq2]at HC;simp -implicitDefEqProofs only[go_sem,hlt];refine drawn Ys ?_;simp -implicitDefEqProofs only[go_sem,hlt,hkb,zac,zae a.parts[k],zae b.parts[k]];refine zaj (HPo) Yr ?_;simp -implicitDefEqProofs only[go_sem];refine zaj (HC) Yr ?_;simp -implicitDefEqProofs only[go_sem];refine⟨Ys,?_⟩;refine zap Yr ?_;simp -implicitDefEqProofs only[go_sem];refine apD true (by simp -implicitDefEqProofs only[go_sem,ne_eq,Qa,Qo,hmin,hmin2]) ?_;simp -implicitDefEqProofs only[go_sem,ne_eq,Qa,Qo,hmin,hmin2];refine⟨k+1,⟨hlt,zgj hal (hk:=hkL) (by rw[hq];exact hq2)⟩,Yt,zad ?_⟩;simp -implicitDefEqProofs only[go_sem];rw[zam Yt,htk,Qt,Q7,zae q.1];exact⟨rfl,rfl⟩
     ·have ht:L1.take k=L1:=Qm Yt;obtain⟨w1,w2⟩:=zf6 (fun q:Ex×Bool=>q.2) L1 fun j h=>hal j Yt h;have hRe:R=(.mk a.form (a.terms.take 1) (L1.map fun q=>q.1),true):=by
       rw[<-hR];unfold zlw;rw[if_neg hnw,if_neg hsm,w1,w2]
      subst hRe;rw[ht];simp -implicitDefEqProofs only[go_sem,hlt];exact⟨rfl,rfl,rfl,rfl,rfl,rfl,by simp only[Ex.parts,Kh];rfl⟩
theorem zw1:∀a:Ex,a.wt<=1048576->∀b:Ex,b.wt<=1048576->∀pos,zbe a pos=true->zbe b pos=true->a.form=b.form->qk7 a b pos :=
 zcp fun f ts ps ih ha b hb pos hna hnb hf=>ztf (.mk f ts ps) ha (fun p hp b hb pos hna hnb hf=>ih p hp (Q9 (zci (a:=.mk f ts ps) hp) ha) b hb pos hna hnb hf) b hb pos hna hnb hf
end
section
open Go.RowKit
noncomputable def tkM (a b:Ex)(k:Nat):List Tm:=a.terms++(zow a.terms b.terms k).map fun i=>b.terms.getD i Tm.zero
noncomputable def mpM (a b:Ex)(pos:Bool)(k i:Nat)(p:Ex):Ex:=if(decide (0<=kx a.terms b.terms i)&&decide (kx a.terms b.terms i<(k:Int)))=true then (mrg p (b.parts.getD (kx a.terms b.terms i).toNat Ex.zero) pos).1 else p
noncomputable def pkM (a b:Ex)(pos:Bool)(k:Nat):List Ex:=a.parts.mapIdx (mpM a b pos k)++(zow a.terms b.terms k).map fun i=>b.parts.getD i Ex.zero
theorem zu4 (a b:Ex):tkM a b 0=a.terms:=by unfold tkM zow;simp
theorem ztv (a b:Ex)(pos:Bool):pkM a b pos 0=a.parts:=by
 unfold pkM zow
 rw[List.range_zero,List.filter_nil,Qk,Kj]
 refine Yb (by simp) fun i h1 h2=>?_
 rw[Q5]
 unfold mpM
 rw[if_neg]
 simp only[Qc,Qr]
 omega
theorem zsv {ts:List Tm}{t:Tm}:(ts.any fun x=>same x t)=true↔t∈ts:=by
 rw[Yc]
 constructor
 ·rintro⟨x,hx,h⟩;rw[zbg]at h;subst h;exact hx
 ·exact fun h=>⟨t,h,zho _⟩
theorem zvk {ts us:List Tm}{k:Nat}(hk:k<us.length)(h:us[k]∉ts):zow ts us (k+1)=zow ts us k++[k]:=by
 have:=zn7 ts us k
 rw[za2 hk,if_neg (fun e=>h (zsv.1 e))]at this
 exact this
theorem zui {ts us:List Tm}{k:Nat}(hk:k<us.length)(h:us[k]∈ts):zow ts us (k+1)=zow ts us k:=by
 have:=zn7 ts us k
 rw[za2 hk,if_pos (zsv.2 h),Kj]at this
 exact this
theorem qh9 (ts us:List Tm)(k:Nat):(zow ts us k).length<=k:=by
 have:=List.length_filter_le (fun k=>!(ts.any fun x=>same x (us.getD k Tm.zero))) (List.range k)
 rw[List.length_range]at this
 exact this
theorem qgr {ts us:List Tm}{k i:Nat}(h:i∈zow ts us k):i<k:=by
 exact J0.1 (Ym.1 h).1
theorem qdo {a b:Ex}{k:Nat}(hk:k<b.terms.length)(h:b.terms[k]∉a.terms):tkM a b (k+1)=tkM a b k++[b.terms[k]]:=by
 unfold tkM
 rw[zvk hk h,Qt,Q7,za2 hk,Km]
theorem qed {a b:Ex}{k:Nat}(hk:k<b.terms.length)(h:b.terms[k]∈a.terms):tkM a b (k+1)=tkM a b k:=by
 unfold tkM
 rw[zui hk h]
theorem qly {a b:Ex}{k:Nat}(hd:b.terms.Nodup)(hk:k<b.terms.length)(h:b.terms[k]∉a.terms):((tkM a b k).any fun x=>same x b.terms[k])=false:=by
 rw[Bool.eq_false_iff]
 intro hc
 rw[zsv]at hc
 unfold tkM at hc
 rcases Qv.1 hc with hc|hc
 ·exact h hc
 ·obtain⟨i,hi,e⟩:=Kn.1 hc;have hik:=qgr hi;have hil:i<b.terms.length:=by omega
  rw[za2 hil]at e;have:=zes hd hil hk e;omega
theorem qnr {a b:Ex}{k i:Nat}(hd:a.terms.Nodup)(hk:k<b.terms.length)(hi:i<a.terms.length)(h:a.terms[i]=b.terms[k]):(zc9 (tkM a b k) fun x=>same x b.terms[k])=(i:Nat):=by
 have hl:i<(tkM a b k).length:=by unfold tkM;rw[Qh];omega
 have hg:(tkM a b k)[i]=a.terms[i]:=List.getElem_append_left hi
 refine zcy hl (fun x hx=>ziv.2 fun e=>?_) (by rw[hg,h];exact zho _)
 subst e
 unfold tkM at hx
 rw[J6 Yt]at hx
 obtain⟨j,hj,e⟩:=Jh.1 hx
 rw[List.getElem_take,<-h]at e
 have hj2:=hj
 rw[Qo]at hj2
 have:=zes hd Yt hi e
 omega
theorem qhn {a b:Ex}{k i:Nat}(hd:b.terms.Nodup)(hk:k<b.terms.length)(hi:i<a.terms.length)(h:a.terms[i]=b.terms[k]):kx a.terms b.terms i=(k:Int):=by
 unfold kx
 rw[za2 hi,h]
 exact qc9 hd hk
theorem qjb {a b:Ex}{k i:Nat}(hi:i<a.terms.length)(h:kx a.terms b.terms i=(k:Int)):∃hk:k<b.terms.length,b.terms[k]=a.terms[i]:=by
 have:=zwj hi (by omega:0<=kx a.terms b.terms i)
 rw[h]at this
 simpa using this
theorem qbs {a b:Ex}{pos:Bool}{k:Nat}(hla:a.terms.length=a.parts.length)(hlb:b.terms.length=b.parts.length)(hk:k<b.terms.length)(h:b.terms[k]∉a.terms):pkM a b pos (k+1)=pkM a b pos k++[b.parts[k]'Yt]:=by
 unfold pkM
 rw[zvk hk h,Qt,Q7,za2 (by omega:k<b.parts.length),<-Km]
 congr 2
 refine zf5 _ _ _ fun i hi=>?_
 have hit:i<a.terms.length:=by omega
 have hne:kx a.terms b.terms i≠(k:Int):=fun e=>by
  obtain⟨_,e2⟩:=qjb hit e;exact h (e2▸Qd hit)
 unfold mpM
 rw[show decide (kx a.terms b.terms i<((k+1:Nat):Int))=decide (kx a.terms b.terms i<(k:Int)) from Ju.2 Yt]
theorem zrw (a b:Ex)(pos:Bool)(k:Nat):(pkM a b pos k).length=a.parts.length+(zow a.terms b.terms k).length:=by
 unfold pkM;simp
theorem qkf {a b:Ex}{pos:Bool}{k i:Nat}(hd:b.terms.Nodup)(hla:a.terms.length=a.parts.length)(hk:k<b.terms.length)(hi:i<a.terms.length)(h:a.terms[i]=b.terms[k]):(pkM a b pos k)[i]'(by rw[zrw];omega)=a.parts[i]'Yt:=by
 unfold pkM
 rw[List.getElem_append_left (by rw[Jj];omega),Q5]
 unfold mpM
 rw[qhn hd hk hi h,if_neg]
 simp
theorem qdq {a b:Ex}{pos:Bool}{k i:Nat}(hda:a.terms.Nodup)(hdb:b.terms.Nodup)(hla:a.terms.length=a.parts.length)(hlb:b.terms.length=b.parts.length)(hk:k<b.terms.length)(hi:i<a.terms.length)(h:a.terms[i]=b.terms[k]):pkM a b pos (k+1)=(pkM a b pos k).set i (mrg (a.parts[i]'Yt) (b.parts[k]'Yt) pos).1:=by
 have hip:i<a.parts.length:=by omega
 unfold pkM
 rw[zui hk (h▸Qd hi),List.set_append_left _ _ (by rw[Jj];omega)]
 congr 1
 refine Yb (by simp) fun j h1 h2=>?_
 have hjp:j<a.parts.length:=by rw[Jj]at h1;exact h1
 rw[Q5,List.getElem_set]
 split
 ·rename_i e;subst e;unfold mpM;rw[qhn hdb hk hi h,if_pos (by simp only[Qc,Qr];omega),Jw,za2 (by omega:k<b.parts.length)]
 ·rename_i e;rw[Q5];have hne:kx a.terms b.terms j≠(k:Int):=fun e2=>by
   obtain⟨_,e3⟩:=qjb (by omega:j<a.terms.length) e2;exact e (zes hda hi Yt (h.trans e3))
  unfold mpM;rw[show decide (kx a.terms b.terms j<((k+1:Nat):Int))=decide (kx a.terms b.terms j<(k:Int)) from Ju.2 Yt]
theorem qb2 {a b:Ex}{pos:Bool}(hla:a.terms.length=a.parts.length):pkM a b pos b.terms.length=((qfa a b pos).map fun q=>q.1)++(rst a.terms b.terms).map fun k=>b.parts.getD k Ex.zero:=by
 unfold pkM
 congr 1
 rw[show(qfa a b pos).map (fun q=>q.1)=a.parts.mapIdx _ from zkz _ _ _]
 refine zf5 _ _ _ fun i hi=>?_
 unfold mpM
 by_cases h0:0<=kx a.terms b.terms i
 ·obtain⟨hk,_⟩:=zwj (by omega:i<a.terms.length) h0;rw[if_pos (by simp only[Qc,Qr];omega),if_pos h0]
 ·rw[if_neg (by simp only[Qc,Qr];omega),if_neg h0]
theorem zy4 (w:Ex->Nat):∀(l:List Ex)(i:Nat)(r:Ex)(h:i<l.length),((l.set i r).map w).sum+w l[i]=(l.map w).sum+w r
 | x::l,0,r,_=>by simp;omega
 | x::l,i+1,r,h=>by
  have:=zy4 w l i r (by simpa using h);simp only[List.set_cons_succ,Qi,Qz,List.getElem_cons_succ];omega
theorem zyx:∀(a b:Ex)(pos:Bool),zbe a pos=true->zbe b pos=true->a.form=b.form->(mrg a b pos).2=true->(mrg a b pos).1.wt<=a.wt+b.wt:=zcp fun f ts ps ih b pos hna hnb hf hok=>by
 generalize ha:Ex.mk f ts ps=a at hna hf hok⊢
 have hps:ps=a.parts:=by rw[<-ha];rfl
 rw[hps]at ih
 clear hps ha
 have hWa:=a.wt_eq
 have hWb:=b.wt_eq
 have hTa:zie a.terms=a.terms.length+(a.terms.map Tm.wt).sum:=rfl
 have hTb:zie b.terms=b.terms.length+(b.terms.map Tm.wt).sum:=rfl
 have hpa:=(zbq hna).1
 have hpb:=(zbq hnb).1
 rw[qer]at hok⊢
 by_cases hw:(isQ a.form.op&&!zax a.form pos)=true
 ·have hq:isQ a.form.op=true:=by rw[Qc]at hw;exact hw.1
  have hla:=(zb9 hna).1 hq;have hlb:=(zb9 hnb).1 (hf▸hq);have hda:=zeu hna hq;have hdb:=zeu hnb (hf▸hq);unfold zlw at hok⊢;rw[if_pos hw]at hok⊢;by_cases hall:((qfa a b pos).all fun q=>q.2)=true
  ·rw[if_pos hall];rw[<-qb2 hla];have hbits:∀i (hi:i<a.parts.length),((qfa a b pos)[i]'(by rw[znu];exact hi)).2=true:=fun i hi=>Qs.1 hall _ (Qd _);have key:∀k,k<=b.terms.length->zie (tkM a b k)+((pkM a b pos k).length+((pkM a b pos k).map Ex.wt).sum)<=zie a.terms+(a.parts.length+(a.parts.map Ex.wt).sum)+(zpx Tm.wt b.terms k+k+(zpx Ex.wt b.parts k+k)):=by
    intro k;induction k with
    | zero=>intro _;rw[zu4,ztv];omega
    | succ k ihk =>
     intro hk;have hk':k<b.terms.length:=by omega
     have hkp:k<b.parts.length:=by omega
     have h1:=ihk Yt;have s1:=zfq Tm.wt b.terms k hk';have s2:=zfq Ex.wt b.parts k hkp;by_cases hm:b.terms[k]∈a.terms
     ·obtain⟨i,hi,e⟩:=Jh.1 hm;have hip:i<a.parts.length:=by omega
      rw[qed hk' hm,qdq hda hdb hla hlb hk' hi e,List.length_set];have hat:=qkf (pos:=pos) hdb hla hk' hi e;have hlt:i<(pkM a b pos k).length:=by rw[zrw];omega
      have h2:=zy4 Ex.wt (pkM a b pos k) i (mrg a.parts[i] b.parts[k] pos).1 hlt;rw[hat]at h2;have hb:=hbits i hip;rw[Q5,qhn hdb hk' hi e,if_pos Yt,Jw,za2 hkp]at hb;have g1:=hpa i hip;have g2:=hpb k hkp;rw[zqu hq]at g1;rw[zqu (hf▸hq)]at g2;have h3:=ih a.parts[i] (Qd hip) b.parts[k] pos g1 g2 (zev hna hnb hf hq hip hkp (by rw[za2 hi,za2 hk',e])) hb;omega
     ·rw[qdo hk' hm,qbs hla hlb hk' hm];unfold zie at h1⊢;simp only[Qh,Qt,Js,Qb,Qe,Qi,Qk,Qz,Ks];omega
   have h:=key b.terms.length (Qw _);rw[zhv Tm.wt b.terms _ (Qw _),zhv Ex.wt b.parts _ Yt]at h;rw[Ex.wt_eq];show a.form.wt+zie (tkM a b b.terms.length)+((pkM a b pos b.terms.length).length+((pkM a b pos b.terms.length).map Ex.wt).sum)<=_
   omega
  ·rw[if_neg hall]at hok;cases hok
 ·unfold zlw at hok⊢;rw[if_neg hw]at hok⊢;split at hok
  ·cases hok
  ·rename_i hsm;rw[if_neg hsm];have hall:((zsg a b pos).all fun q=>q.2)=true:=hok;obtain⟨w1,-⟩:=zf6 (fun q:Ex×Bool=>q.2) (zsg a b pos) fun j h=>Qs.1 hall _ (Qd _);rw[w1,Ex.wt_eq];have hlen:a.parts.length=b.parts.length/\∀i (h1:i<a.parts.length) (h2:i<b.parts.length),a.parts[i].form=b.parts[i].form:=by
    cases hq:isQ a.form.op
    ·exact zlb hna hnb hf hq
    ·have hs:zax a.form pos=true:=by
      rw[hq,Qq,Jk,Bool.not_eq_false]at hw;exact hw
     obtain⟨ta,pa⟩:=zcv hna hs;obtain⟨tb,pb⟩:=zcv hnb (by rw[<-hf];exact hs);refine⟨Yt,fun i h1 h2=>?_⟩;obtain rfl:i=0:=by omega
     refine zev hna hnb hf hq h1 h2 ?_;rw[ta]at hsm;simpa[zbg]using hsm
   have hs:(((zsg a b pos).map fun q=>q.1).map Ex.wt).sum<=(a.parts.map Ex.wt).sum+(b.parts.map Ex.wt).sum:=by
    have key:∀k,k<=a.parts.length->((((zsg a b pos).take k).map fun q=>q.1).map Ex.wt).sum<=zpx Ex.wt a.parts k+zpx Ex.wt b.parts k:=by
     intro k;induction k with
     | zero=>intro _;simp
     | succ k ihk =>
      intro hk;have h1:=ihk Yt;have hka:k<a.parts.length:=by omega
      have hkb:k<b.parts.length:=by omega
      have s1:=zfq Ex.wt a.parts k hka;have s2:=zfq Ex.wt b.parts k hkb;have hkl:k<(zsg a b pos).length:=by rw[zhb];exact hka
      have hq:(zsg a b pos)[k]=mrg a.parts[k] b.parts[k] (sgn a.form k pos):=by rw[Q5,za2 hkb]
      have hb:((zsg a b pos)[k]).2=true:=Qs.1 hall _ (Qd hkl);rw[hq]at hb;have h3:=ih a.parts[k] (Qd hka) b.parts[k] _ (hpa k hka) (by rw[hf];exact hpb k hkb) (hlen.2 k hka hkb) hb;rw[Qj hkl,hq];simp only[Qt,Js,Qi,Qk,Qz,Ks];omega
    have:=key a.parts.length (Qw _);rw[Qm (by rw[zhb];exact Qw _),zhv Ex.wt a.parts _ (Qw _),zhv Ex.wt b.parts _ Yt]at this;exact this
   have ht:zie (a.terms.take 1)<=zie a.terms:=by
    cases h:a.terms with
    | nil=>exact Qw _
    | cons t l=>unfold zie;simp;omega
   show a.form.wt+zie (a.terms.take 1)+((((zsg a b pos).map fun q=>q.1)).length+(((zsg a b pos).map fun q=>q.1).map Ex.wt).sum)<=_
   rw[Qa,zhb];omega
end
end Go.Proofs.YtliiapbmkcbfaaaGreat
