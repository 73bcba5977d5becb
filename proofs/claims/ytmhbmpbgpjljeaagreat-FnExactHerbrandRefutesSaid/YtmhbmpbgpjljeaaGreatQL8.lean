/-
  The walk over plain data, and contracts of functions of the program and of its laws.
  Conditions: those that each theorem names.
-/
import Derived.Test.YtmhbmpbgpjljeaaGreatQL7
import Derived.Shelf.SlSortCmp.NoneTotal
import Derived.Test.YtmhbmpbgpjljeaaGreatQL4
import Derived.Test.YtmhbmpbgpjljeaaGreatQL6
import Derived.Test.YtmhbmpbgpjljeaaGreatQL5
namespace Go.Proofs.YtmhbmpbgpjljeaaGreat
set_option linter.unusedSimpArgs false
set_option linter.unusedVariables false
set_option linter.unusedSectionVars false
set_option maxRecDepth 4000
open Go.RowKit Go.Sort Go.Proofs Go.Shelf
theorem qel {B:Type}{f:B->List Nat}:∀{l l':List B},l.Perm l'->(l.map f).flatten.Perm (l'.map f).flatten:=λh=>by
 induction h with
 | nil=>exact .refl _
 | cons x _ ih=>simp only[Qk,Q5];exact ih.append_left _
 | swap x y l =>
  simp only[Qk,Q5,<-Kl];exact(List.perm_append_comm).append_right _
 | trans _ _ i1 i2=>exact i1.trans i2
theorem qds {B A:Type} [Inhabited B]{p:B->A}{cf:A->A->Int}(hO:SWO (ltOf cf))(hT:∀x y,ltOf cf x y=false->ltOf cf y x=false->x=y){es:List B}{ys:List A}{d':Array B}(hp:PermIn 0 es.toArray.size es.toArray d')(hs:SortedIn (ltOf λx y=>cf (p x) (p y)) 0 es.toArray.size d')(hxy:(es.map p).Perm ys)(hy:ys.Pairwise λa b=>ltOf cf b a=false) :
  d'.size=es.length/\d'.toList.Perm es/\d'.toList.map p=ys:=by
 obtain⟨p1,_,p3⟩:=hp
 have hsz:d'.size=es.length:=by rw[p1];simp
 have e1:(d'.extract 0 es.toArray.size).toList=d'.toList:=by simp[<-p1]
 have e2:(es.toArray.extract 0 es.toArray.size).toList=es:=by simp
 rw[e1,e2]at p3
 refine⟨hsz,p3,?_⟩
 have hpy:(d'.toList.map p).Perm ys:=(p3.map p).trans hxy
 refine Y1 (le:=λa b=>ltOf cf b a=false) (λa b _ _ h1 h2=>hT a b h2 h1) ?_ ?_ hpy
 ·refine Yd.2 λi j hi hj hij=>?_;have hj':j<d'.size:=by simpa using hj
  have hi':i<d'.size:=by simpa using hi
  have h:=hs i j (Qy _) hij (by rw[<-p1];exact hj');rw[getElem!_pos d' j hj',getElem!_pos d' i hi']at h;rw[Ym,Ym,Array.getElem_toList,Array.getElem_toList];exact h
 ·exact hy
theorem lt_not {A:Type}{cf:A->A->Int}(hO:SWO (ltOf cf)){a b:A}(h:cf a b<0):ltOf cf b a=false:=by
 have h1:ltOf cf a b=true:=by unfold ltOf;exact Ku h
 cases hb:ltOf cf b a
 ·rfl
 ·have:=hO.trans a b a h1 hb;rw[hO.irrefl]at this;cases this
theorem qkj {W w':World}(h:Below W.heap.size W w')(hd:W.drawn<=w'.drawn):∃q os',w'=grow (W.drewN q) os':=by
 refine⟨w'.drawn-W.drawn,w'.heap.extract W.heap.size w'.heap.size,?_⟩
 have hh:w'.heap=W.heap++w'.heap.extract W.heap.size w'.heap.size:=by
  apply Array.ext_getElem?;intro i;by_cases hi:i<W.heap.size
  ·rw[Array.getElem?_append_left hi,h.block i hi]
  ·rw[Array.getElem?_append_right Zi,Array.getElem?_extract];by_cases h2:i<w'.heap.size
   ·rw[if_pos Zi,show W.heap.size+(i-W.heap.size)=i by omega]
   ·rw[if_neg Zi,Array.getElem?_eq_none Zi]
 obtain⟨hp',tp',dr',os',ou'⟩:=w'
 have h1:=h.os
 have h2:=h.tape
 have h3:=h.output
 simp only at h1 h2 h3 hh hd
 unfold grow World.drewN
 subst h1 h2 h3
 simp only[World.mk.injEq,and_true,true_and]
 exact⟨hh,Zi⟩
theorem qld {P:Program}{g:FuncId}{ds:List D}{n:Int}(H:FC P g ds [.one (.int .i64 n)]){W:World}{vs:List Value}(hr:zbc W (λb=>b<W.heap.size) ds vs):Calls P g ⟨vs⟩ W λe w'=>e=.returned (.int .i64 n)/\∃q os',w'=grow (W.drewN q) os':=by
 refine(qi5 (H.use hr)).mono ?_
 rintro e w' ⟨⟨us,fp,he,ho,_,_,bel⟩,hd⟩
 obtain⟨u,us',f1,f2,rfl,_,hu,hus⟩:=ho
 obtain⟨rfl,_⟩:=hus
 have hu:zas w' (.int .i64 n) u f1:=hu
 unfold zas at hu
 obtain⟨rfl,_⟩:=hu
 exact⟨he,qkj bel (hd ⟨_,he⟩)⟩
set_option maxHeartbeats 1000000 in
theorem ztm {P:Program}{ρ:Ren}(L:SlLaysF0.n6 P ρ){A:Type}{c:A->List T}{G:A->Prop}{cf:A->A->Int}{sz:Nat}{g:FuncId}(hf:za8 P (ρ.f 6))(aE:∀w,(isAgg (ρ.t 24)).run P w=.ok true w)(zE:∀w,(Go.sizeOf (ρ.t 24)).run P w=.ok sz w)
  (eg:za8 P g) (hc:∀x,(c x).length=sz) (hO:SWO (ltOf cf)) (hT:∀x y,ltOf cf x y=false->ltOf cf y x=false->x=y)
  (hcmp:∀x y:A,G x->G y->FC P g [.agg (c x),.agg (c y)] [.one (.int .i64 (cf x y))])
  (xs ys:List A) (hp:xs.Perm ys) (hr:ys.Pairwise λa b=>ltOf cf b a=false) (hg:∀x∈xs,G x) (hl:xs.length<4611686018427387904):IC P (ρ.f 6) [] (.one (.sl sz (xs.map c))) [.one (.fn g [])] (.one (.sl sz (ys.map c))) []:=by
 refine⟨hf,λw us1 v us2 fp tp h1 hgd h2 hn=>?_⟩
 rw[show us1=[] from h1]
 obtain⟨u,us,e0,h2,h3⟩:=h2
 rw[show us=[] from h3]at e0
 subst e0
 have h2:zai w _ (T.fn g []) u:=h2
 unfold zai at h2
 obtain⟨cs,rfl,h4⟩:=h2
 rw[show cs=[] by unfold zae at h4;exact h4]
 have hlen:ys.length=xs.length:=hp.length_eq.symm
 obtain⟨hgd,htp⟩:=hgd
 unfold zas at hgd
 obtain⟨ao,cap,rfl,q1,q2,q3⟩:=hgd
 rw[Qa]at q1⊢
 rcases q3 with⟨rfl,rfl,q3,rfl⟩|⟨b,cells,ty,fps,rfl,rfl,q3,q4,q5⟩
 ·have hs:xs=[]:=J8.1 q3;subst hs;have hy:ys=[]:=Kc.1 hlen;subst hy;refine(AnyF.slices_SortFunc_none L none 0 _ w).mono ?_;rintro e w' ⟨rfl,rfl⟩;refine⟨[],[],[],rfl,⟨_,[],[],[],[],[],rfl,rfl,rfl,⟨?_,rfl⟩,rfl,rfl,rfl⟩,Kn,by simp,Bk.refl _ _⟩;unfold zas;exact⟨none,0,by simp,by simp,by simp,Or.inl ⟨rfl,rfl,by simp,rfl⟩⟩
 ·by_cases h0:xs=[]
  ·subst h0;have hy:ys=[]:=Kc.1 hlen;subst hy;refine(AnyF.slices_SortFunc_none L (some ⟨b,0,none⟩) cap _ w).mono ?_;rintro e w' ⟨rfl,rfl⟩;refine⟨[],b::fps,tp,rfl,⟨_,[],b::fps,[],tp,[],rfl,by simp,by simp,⟨?_,htp⟩,rfl,rfl,rfl⟩,hn,λx hx=>Or.inl hx,Bk.refl _ _⟩;unfold zas;exact⟨_,cap,rfl,q1,q2,Or.inr ⟨b,cells,ty,fps,rfl,rfl,q3,q4,q5⟩⟩
  have hnb:b∉fps:=(Jc.1 hn).1;obtain⟨es,e1,e2,e3,e4⟩:=qo0 (G:=G) (b:=b) q5 hnb hg;have hne:es≠[]:=λe=>h0 (by rw[<-e1,e];rfl)
  letI:Inhabited (El c G w b):=⟨es.head hne⟩
  have hel:es.length=xs.length:=by rw[<-e1,Qa]
  have hH:=qb8 q3 e3 e4;have hsz2:es.toArray.size=xs.length:=by simpa using hel
  have hvl:∀x:El c G w b,x.vs.length=sz:=λx=>x.own.len.trans (hc _);have hblk:b<w.heap.size:=(Array.getElem?_eq_some_iff.1 q3).1;have hkeep:∀(W:World),w.grownBy W (some b)->∀x:El c G w b,zav W (c x.x) x.vs x.fp:=λW hW x=>x.own.keep λk hk=>hW.block k (x.own.lt k hk) λe=>x.nb (by cases e;exact hk);have hcl:CmpLays P g #[] El.vs sz (λx y:El c G w b=>cf x.x y.x) b 0 es.toArray.size w:=λm os dk _ x y=>by
   have h1:=hkeep _ (zdw (w:=w) (b:=b) (enc:=El.vs) (k:=sz) (n:=m) (os:=os) dk) x;have h2:=hkeep _ (zdw (w:=w) (b:=b) (enc:=El.vs) (k:=sz) (n:=m) (os:=os) dk) y;exact(qld (hcmp x.x y.x x.good y.good) (vs:=[.agg ⟨x.vs⟩,.agg ⟨y.vs⟩]) ⟨_,_,rfl,⟨_,rfl,h1.rep h1.lt⟩,_,_,rfl,⟨_,rfl,h2.rep h2.lt⟩,rfl⟩)
  have hO2:SWO (ltOf λx y:El c G w b=>cf x.x y.x):=⟨λx=>hO.irrefl x.x,λx y z=>hO.trans x.x y.x z.x,λx y z=>hO.ntrans x.x y.x z.x⟩;have hC:=AnyQ.slices_SortFunc L sz aE zE El.vs hvl (λx v hv=>x.own.oneC v hv) (λx y:El c G w b=>cf x.x y.x) hO2 g #[] b 0 cap es.toArray w eg hcl hH hblk (by rw[hsz2];exact hl);rw[hsz2]at hC;refine Calls.mono (show Calls P (ρ.f 6) _ w _ from hC) ?_;rintro e w' ⟨rfl,d',n,os,hp',hs',rfl⟩;rw[<-hsz2]at hp' hs';obtain⟨z1,z2,z3⟩:=qds (p:=El.x) hO hT hp' hs' (by rw[e1];exact hp) hr;have hgr:=zdw (w:=w) (b:=b) (enc:=El.vs) (k:=sz) (n:=n) (os:=os) d';have hpm:=qel (f:=El.fp) z2;rw[e2]at hpm;refine⟨[],b::(d'.toList.map El.fp).flatten,zix (.sl sz (ys.map c)) (b::(d'.toList.map El.fp).flatten),rfl,⟨_,[],b::(d'.toList.map El.fp).flatten,[],zix (.sl sz (ys.map c)) (b::(d'.toList.map El.fp).flatten),[],rfl,by simp,by simp,⟨?_,rfl⟩,rfl,rfl,rfl⟩,?_,λx hx=>Or.inl ?_,⟨hgr.os,hgr.tape,hgr.output,hgr.size,λk hk=>hgr.block k hk.1 λe=>hk.2 (by cases e;simp)⟩⟩
  ·unfold zas;refine⟨_,cap,by rw[Qa,hlen],by rw[Qa,hlen];exact q1,q2,Or.inr ⟨b,_,ty,(d'.toList.map El.fp).flatten,rfl,rfl,zr2 d' q3,by simp[putCells,q4],?_⟩⟩;have hcs:es.length*sz<=cells.size:=by
    rw[q4,hel];exact Kz sz q1
   have:=zk9 (w':=sortWorldK El.vs sz w b 0 n d' os) (cells:=putCells id 0 (flatK El.vs sz d') cells) (sz:=sz) (es:=d'.toList) (o:=0) (λe _=>hc _) (λi h r u hu=>by
    have k:=qia (cur:=cells) (sz:=sz) (es:=d'.toList) (λe _=>hvl e) (by rw[Kg,z1];exact hcs) i h r u hu
    simpa using k) λk hk=>hgr.block k (by
     have:k∈fps:=hpm.mem_iff.1 hk
     exact zak.lt _ _ _ _ _ q5 k this) λe=>hnb (by cases e;exact hpm.mem_iff.1 hk)
   rw[z3]at this;exact this
  ·exact(List.Perm.nodup_iff (hpm.cons b)).2 hn
  ·rcases Qs.1 hx with rfl|hx
   ·simp
   ·exact J4 _ (hpm.mem_iff.1 hx)
end Go.Proofs.YtmhbmpbgpjljeaaGreat
namespace Go.Proofs
open Go.Shelf
set_option maxRecDepth 100000
def Tryz.laysST_ren : Go.Shelf.Ren := ⟨fun | 6 => 99 | 15 => 161 | 14 => 160 | 28 => 212 | 29 => 213 | 20 => 204 | 21 => 205 | 22 => 206 | 23 => 207 | 24 => 208 | 25 => 209 | 26 => 210 | 27 => 211 | 46 => 236 | 47 => 237 | 48 => 238 | 49 => 239 | 50 => 240 | 57 => 262 | n => n, fun | 22 => 31 | 24 => 74 | 25 => 120 | 3 => 3 | 39 => 185 | 0 => 0 | 53 => 215 | 55 => 217 | 4 => 4 | 46 => 209 | 45 => 208 | 50 => 169 | 5 => 5 | 9 => 9 | 66 => 232 | 70 => 236 | 76 => 253 | 77 => 153 | n => n, fun | n => n⟩
theorem Tryz.laysST : Go.Proofs.SlLaysF0.n6 Tryz.prog Tryz.laysST_ren := {
 mixed := by kernel_rfl
 f6 := ⟨Tryz.f99.name, by decide, Tryz.func99.trans (congrArg some (by kernel_rfl))⟩
 f14 := ⟨Tryz.f160.name, by decide, Tryz.func160.trans (congrArg some (by kernel_rfl))⟩
 f15 := Tryz.func161.trans (congrArg some (by kernel_rfl))
 f20 := ⟨Tryz.f204.name, by decide, Tryz.func204.trans (congrArg some (by kernel_rfl))⟩
 f21 := ⟨Tryz.f205.name, by decide, Tryz.func205.trans (congrArg some (by kernel_rfl))⟩
 f22 := ⟨Tryz.f206.name, by decide, Tryz.func206.trans (congrArg some (by kernel_rfl))⟩
 f23 := ⟨Tryz.f207.name, by decide, Tryz.func207.trans (congrArg some (by kernel_rfl))⟩
 f24 := ⟨Tryz.f208.name, by decide, Tryz.func208.trans (congrArg some (by kernel_rfl))⟩
 f25 := ⟨Tryz.f209.name, by decide, Tryz.func209.trans (congrArg some (by kernel_rfl))⟩
 f26 := ⟨Tryz.f210.name, by decide, Tryz.func210.trans (congrArg some (by kernel_rfl))⟩
 f27 := ⟨Tryz.f211.name, by decide, Tryz.func211.trans (congrArg some (by kernel_rfl))⟩
 f28 := Tryz.func212.trans (congrArg some (by kernel_rfl))
 f29 := Tryz.func213.trans (congrArg some (by kernel_rfl))
 f46 := ⟨Tryz.f236.name, by decide, Tryz.func236.trans (congrArg some (by kernel_rfl))⟩
 f47 := Tryz.func237.trans (congrArg some (by kernel_rfl))
 f48 := Tryz.func238.trans (congrArg some (by kernel_rfl))
 f49 := ⟨Tryz.f239.name, by decide, Tryz.func239.trans (congrArg some (by kernel_rfl))⟩
 f50 := ⟨Tryz.f240.name, by decide, Tryz.func240.trans (congrArg some (by kernel_rfl))⟩
 f57 := ⟨Tryz.f262.name, by decide, Tryz.func262.trans (congrArg some (by kernel_rfl))⟩
 t0 := Tryz.underlying0
 a0 := Tryz.isAgg0
 z0 := Tryz.sizeOf0
 v0 := Tryz.zeroValue0
 t3 := Tryz.underlying3
 a3 := Tryz.isAgg3
 z3 := Tryz.sizeOf3
 v3 := Tryz.zeroValue3
 t4 := Tryz.underlying4
 a4 := Tryz.isAgg4
 z4 := Tryz.sizeOf4
 v4 := Tryz.zeroValue4
 t5 := Tryz.underlying5
 a5 := Tryz.isAgg5
 z5 := Tryz.sizeOf5
 v5 := Tryz.zeroValue5
 t9 := Tryz.underlying9
 a9 := Tryz.isAgg9
 z9 := Tryz.sizeOf9
 v9 := Tryz.zeroValue9
 t22 := Tryz.underlying31
 a22 := Tryz.isAgg31
 z22 := Tryz.sizeOf31
 v22 := Tryz.zeroValue31
 t25 := Tryz.underlying120
 a25 := Tryz.isAgg120
 z25 := Tryz.sizeOf120
 v25 := Tryz.zeroValue120
 t39 := Tryz.underlying185
 a39 := Tryz.isAgg185
 z39 := Tryz.sizeOf185
 v39 := Tryz.zeroValue185
 t45 := Tryz.underlying208
 a45 := Tryz.isAgg208
 z45 := Tryz.sizeOf208
 v45 := Tryz.zeroValue208
 t46 := Tryz.underlying209
 a46 := Tryz.isAgg209
 z46 := Tryz.sizeOf209
 v46 := Tryz.zeroValue209
 t50 := Tryz.underlying169
 a50 := Tryz.isAgg169
 z50 := Tryz.sizeOf169
 v50 := Tryz.zeroValue169
 t53 := Tryz.underlying215
 a53 := Tryz.isAgg215
 z53 := Tryz.sizeOf215
 v53 := Tryz.zeroValue215
 t55 := Tryz.underlying217
 a55 := Tryz.isAgg217
 z55 := Tryz.sizeOf217
 v55 := Tryz.zeroValue217
 t66 := Tryz.underlying232
 a66 := Tryz.isAgg232
 z66 := Tryz.sizeOf232
 v66 := Tryz.zeroValue232
 t70 := Tryz.underlying236
 a70 := Tryz.isAgg236
 z70 := Tryz.sizeOf236
 v70 := Tryz.zeroValue236
 t76 := Tryz.underlying253
 a76 := Tryz.isAgg253
 z76 := Tryz.sizeOf253
 v76 := Tryz.zeroValue253
 t77 := Tryz.underlying153
 a77 := Tryz.isAgg153
 z77 := Tryz.sizeOf153
 v77 := Tryz.zeroValue153 }
end Go.Proofs
namespace Go.Proofs.YtmhbmpbgpjljeaaGreat
set_option linter.unusedSimpArgs false
set_option linter.unusedVariables false
set_option linter.unusedSectionVars false
set_option maxRecDepth 4000
open Go.RowKit Go.Sort
theorem zil (xs:List Cq)(p:Cq->Bool)(g:FuncId)(caps:List T)(H:∀x∈xs,FC Tryz.prog g (cqD x::caps.map .one) [bD (p x)]):FC Tryz.prog 70 [.one (cqS xs),.one (.fn g caps)] [iD (zew xs p)]:=by
 refine zbz (λhw=>?_) Tryz.call70
 have hl:xs.length<=9223372036854775807:=by simpa[zee,wfT]using hw.1.1
 refine zam Tryz.call70 Tryz.func70 rfl Zh (zat Zh) ?_
 simp -implicitDefEqProofs only[go_sem,Tryz.results70]
 refine zad (λk:Nat=>hd [(0,vT (cqS xs)),(1,vT (.fn g caps)),(7,vI xs.length),(8,vI k)] [] []) (λk=>k<=xs.length/\∀x∈xs.take k,p x=false) (λk=>xs.length-k) 0 (zab ?_) ?_ ?_
 ·exact Zg
 ·simp
 ·intro k ⟨hk,hr⟩;by_cases hlt:k<xs.length
  ·simp -implicitDefEqProofs only[go_sem,zac,hlt,zap];refine callF (H xs[k] (Qe hlt)) (by simp -implicitDefEqProofs only[go_sem,zap]) ?_;simp -implicitDefEqProofs only[go_sem,zap];refine⟨λh=>?_,λh=>⟨k+1,⟨hlt,zbd hlt hr h⟩,Zi,zab (by simp -implicitDefEqProofs only[go_sem];rw[zaf Zi])⟩⟩;rw[zbn hlt hr h]
  ·refine Xo ?_;rw[Ql Zi]at hr;rw[zb4 hr]
theorem zck (xs:List Cq)(p:Cq->Bool)(g:FuncId)(caps:List T)(H:∀x∈xs,FC Tryz.prog g (cqD x::caps.map .one) [bD (p x)]):FC Tryz.prog 73 [.one (cqS xs),.one (.fn g caps)] [bD (xs.any p)]:=by
 refine zam Tryz.call73 Tryz.func73 rfl Zh (zat Zh) ?_
 simp -implicitDefEqProofs only[go_sem,Tryz.results73]
 refine callF (zil xs p g caps H) Zg ?_
 refine Zj ?_
 rw[zhs]
theorem zlh {α:Type}{c:α->α->Int}(h:GCmp c):SWO (ltOf c) where
 irrefl x:=by have:=h.self x;simp[ltOf,this]
 trans x y z h1 h2:=by
  have n1:=h.neg x y;have n2:=h.neg y z;have n3:=h.neg x z;have t1:=h.tr x y z;have t2:=h.tr z x y;have t3:=h.tr y z x;simp only[ltOf,Q0]at *;omega
 ntrans x y z h1 h2:=by
  have n1:=h.neg x y;have n2:=h.neg y z;have n3:=h.neg x z;have t1:=h.tr z y x;simp only[ltOf,Ko]at *;omega
theorem zvi (xs ys:List Tm)(hp:xs.Perm ys)(hr:zpi ys)(hg:∀x∈xs,upT x=true)(hl:xs.length<4611686018427387904):IC Tryz.prog 99 [] (.one (tmS xs)) [.one (.fn 100 [])] (.one (tmS ys)) [] :=
 ztm (G:=λx=>upT x=true) (cf:=zc9) Tryz.laysST Tryz.call99 (λw=>Tryz.isAgg74 w) (λw=>Tryz.sizeOf74 w) Tryz.call100 (λx=>by rw[zaa];rfl) (zlh zdk)
  (λx y h1 h2=>by
   have n1:=zde x y;unfold ltOf at h1 h2;rw[Ko]at h1 h2
   exact(zen x y).1 Zi) (λx y h1 h2=>zd8 x y h1 h2) xs ys hp (hr.imp λh=>lt_not (zlh zdk) h) hg hl
theorem zwt {cs:List Cq}{c:Cq}(h:c∈cs):c.wt<=zow cs:=by
 have h2:zow cs=cs.length+(cs.map Cq.wt).sum:=rfl
 have:=zci Cq.wt cs c h
 omega
theorem zop {cs:List Cq}{k:Nat}(h:k<cs.length):atC (cs.take (k+1))=atC (cs.take k)++atL cs[k].lits:=by
 unfold atC
 rw[Qg h,Qq,Kq]
 simp
theorem zw8 {ls:List Li}{k:Nat}(h:k<ls.length):atL (ls.take (k+1))=atL (ls.take k)++[ls[k].atom]:=by
 unfold atL
 rw[Qg h,Qq,Q7]
theorem qij {cs:List Cq}{k j:Nat}(h:k<cs.length):(atC (cs.take k)).length+(atL (cs[k].lits.take j)).length<=(atC cs).length:=by
 have h1:(atL (cs[k].lits.take j)).length<=(atL cs[k].lits).length:=by
  unfold atL;rw[Qa,Qa,Qc];omega
 have h2:=zop h
 have h3:(atC (cs.take (k+1))).length<=(atC cs).length:=by
  unfold atC;rw[Jm];exact qb1 _ _
 rw[h2,Qb]at h3
 omega
structure CsB (cs:List Cq):Prop where
 wt:∀c∈cs,c.wt<=1048576
 at':(atC cs).length<=1048576
 len:cs.length<=1048576
set_option maxHeartbeats 2000000 in
theorem zh8 (cs:List Cq)(hw:CsB cs):FC Tryz.prog 76 [.one (cqS cs)] [.one (tmS (gaR cs)),bD (zp2 cs)]:=by
 have hcw:=hw.wt
 have HF:=zck cs (λc=>!grC c) 132 [] λc hc=>zq4 c (hcw c hc)
 have hv1:zp2 cs=(decide (cs.length<=40)&&cs.all grC&&decide ((gaL cs).length<=12)):=rfl
 have hv2:gaR cs=if zp2 cs=true then gaL cs else []:=rfl
 have hal:=hw.at'
 have hln:=hw.len
 have hpm:=qqz (atC cs)
 have hsr:=qgz cs
 by_cases h40:cs.length<=40
 ·have h40':((40:Int)<(cs.length:Int))=False:=eq_false Zi;rw[Ku h40,Q2]at hv1;cases hg:cs.all grC
  ·have hany:(cs.any λc=>!grC c)=true:=by
    rw[Ju];rw[J9]at hg;obtain⟨c,h1,h2⟩:=hg;exact⟨c,h1,by simpa using h2⟩
   rw[hg,Q4]at hv1;rw[hany]at HF;rw[hv1,if_neg (by simp)]at hv2;rw[hv2,hv1];refine zcc Tryz.call76 Tryz.func76 rfl Zh (zat Zh) ?_;simp -implicitDefEqProofs only[go_sem,Tryz.results76,h40'];refine callF (HF) Zg ?_;exact Zg
  ·have hany:(cs.any λc=>!grC c)=false:=by
    rw[Yh];rw[Qr]at hg;intro c hc;simp[hg c hc]
   rw[hany]at HF;have hup:∀t∈atC cs,upT t=true:=λt ht=>by
    obtain⟨c,hc,l,hl,rfl⟩:=ztv.1 ht;exact zlb (zcp (qha (Qr.1 hg c hc)) l hl)
   have hupD:∀t∈(atC cs).foldl zg2 [],upT t=true:=λt ht=>hup t (by rw[zkw]at ht;simpa using ht);have hdl:=zhv (atC cs) [];rw[Qo]at hdl;have HS:=zvi ((atC cs).foldl zg2 []) (gaL cs) hpm hsr hupD Zi;rw[hg,Q2]at hv1;have hlen:((atC cs).foldl zg2 []).length=(gaL cs).length:=hpm.length_eq;rw[hv2,hv1];refine zcc Tryz.call76 Tryz.func76 rfl Zh (zat Zh) ?_;simp -implicitDefEqProofs only[go_sem,Tryz.results76,h40'];refine callF (HF) Zg ?_;refine Zj ?_;refine za2 Zg ?_;refine Zj ?_;refine zad (λk:Nat=>hd [(4,.one (.ow 512 0)),(17,.one (.rn (cqS cs))),(18,vI cs.length),(19,vI k)] [] [(512,⟨true,2,((atC (cs.take k)).foldl zg2 []).map tmC,0,true⟩)]) (λk=>k<=cs.length) (λk=>cs.length-k) 0 (zab ?_) (Qy _) ?_
   ·refine Zj ?_;rfl
   ·intro k hk;by_cases hlt:k<cs.length
    ·have hpre:=λj=>qij (cs:=cs) (k:=k) (j:=j) hlt;have hsu:=zop hlt;have hdk:=zhv (atC (cs.take k)) [];rw[Qo]at hdk;have hlw:=λl (h:l∈cs[k].lits)=>Q8 (zf1 h) (hcw _ (Qe hlt));have hll:cs[k].lits.length<=1048576:=by
      have h1:=hcw _ (Qe hlt);have h2:=cs[k].wt_eq;have h3:zgb cs[k].lits=cs[k].lits.length+(cs[k].lits.map Li.wt).sum:=rfl;omega
     refine Xt ?_;generalize cs[k].lits=ls at hpre hsu hlw hll⊢;refine zad (λj:Nat=>hd [(4,.one (.ow 512 0)),(17,.one (.rn (cqS cs))),(18,vI cs.length),(19,vI k),(24,.one (.rn (liS ls))),(25,vI ls.length),(26,vI j)] [] [(512,⟨true,2,((atL (ls.take j)).foldl zg2 ((atC (cs.take k)).foldl zg2 [])).map tmC,0,true⟩)]) (λj=>j<=ls.length) (λj=>ls.length-j) 0 (zab ?_) (Qy _) ?_
     ·refine Zj ?_;rfl
     ·intro j hj;by_cases hlj:j<ls.length
      ·have hdj:=zhv (atL (ls.take j)) ((atC (cs.take k)).foldl zg2 []);have hpj:=hpre j;have hlj2:=hlw _ (Qe hlj);have hlj3:=ls[j].wt_eq;have HC:=qcy ((atL (ls.take j)).foldl zg2 ((atC (cs.take k)).foldl zg2 [])) ls[j].atom Zi Zi;rw[show zg2 ((atL (ls.take j)).foldl zg2 ((atC (cs.take k)).foldl zg2 [])) ls[j].atom=(atL (ls.take (j+1))).foldl zg2 ((atC (cs.take k)).foldl zg2 []) from by rw[zw8 hlj,K0];rfl]at HC;simp only[tmD,zaa ls[j].atom]at HC;refine Zm hlj (zaj ls[j]) ?_;refine zei [17,18,19,24,25,26] [30,32] [] (HC) Zg Zg Zg Zg ?_;refine Zj ?_;refine⟨j+1,hlj,Zi,zcn 512 1056 ?_⟩;refine Zj ?_;rw[zaf Zi]
      ·have ht:ls.take j=ls:=Ql Zi;refine Zk hlj ?_;refine⟨k+1,hlt,Zi,zab ?_⟩;refine Zj ?_;rw[zaf Zi,ht,hsu,K0];exact⟨rfl,rfl⟩
    ·have ht:cs.take k=cs:=Ql Zi;rw[ht];refine Xo ?_;by_cases h12:(gaL cs).length<=12
     ·have h12':((12:Int)<(((atC cs).foldl zg2 []).length:Int))=False:=eq_false Zi;rw[Ku h12,if_pos rfl];refine Zk h12' ?_;refine zvh [4,39] (HS) Zg Zg Zg Zg Zg rfl ?_;exact Zg
     ·have h12':((12:Int)<(((atC cs).foldl zg2 []).length:Int))=True:=eq_true Zi;rw[Kv h12,if_neg (by simp)];exact Zl h12'
 ·have h40':((40:Int)<(cs.length:Int))=True:=eq_true Zi;rw[Kv h40,Q4,Q4]at hv1;rw[hv1,if_neg (by simp)]at hv2;rw[hv2,hv1];refine zcc Tryz.call76 Tryz.func76 rfl Zh (zat Zh) ?_;simp -implicitDefEqProofs only[go_sem,Tryz.results76,h40']
end Go.Proofs.YtmhbmpbgpjljeaaGreat
namespace Go.Proofs
open Go.Shelf
set_option maxRecDepth 100000
def Tryz.laysSL_ren : Go.Shelf.Ren := ⟨fun | 6 => 229 | 15 => 161 | 14 => 252 | 28 => 212 | 29 => 213 | 20 => 266 | 21 => 267 | 22 => 268 | 23 => 269 | 24 => 270 | 25 => 271 | 26 => 272 | 27 => 273 | 46 => 278 | 47 => 237 | 48 => 238 | 49 => 279 | 50 => 280 | 57 => 282 | n => n, fun | 22 => 45 | 24 => 95 | 25 => 174 | 3 => 3 | 39 => 185 | 0 => 0 | 53 => 215 | 55 => 217 | 4 => 4 | 46 => 209 | 45 => 208 | 50 => 169 | 5 => 5 | 9 => 9 | 66 => 232 | 70 => 236 | 76 => 253 | 77 => 153 | n => n, fun | n => n⟩
theorem Tryz.laysSL : Go.Proofs.SlLaysF0.n6 Tryz.prog Tryz.laysSL_ren := {
 mixed := by kernel_rfl
 f6 := ⟨Tryz.f229.name, by decide, Tryz.func229.trans (congrArg some (by kernel_rfl))⟩
 f14 := ⟨Tryz.f252.name, by decide, Tryz.func252.trans (congrArg some (by kernel_rfl))⟩
 f15 := Tryz.func161.trans (congrArg some (by kernel_rfl))
 f20 := ⟨Tryz.f266.name, by decide, Tryz.func266.trans (congrArg some (by kernel_rfl))⟩
 f21 := ⟨Tryz.f267.name, by decide, Tryz.func267.trans (congrArg some (by kernel_rfl))⟩
 f22 := ⟨Tryz.f268.name, by decide, Tryz.func268.trans (congrArg some (by kernel_rfl))⟩
 f23 := ⟨Tryz.f269.name, by decide, Tryz.func269.trans (congrArg some (by kernel_rfl))⟩
 f24 := ⟨Tryz.f270.name, by decide, Tryz.func270.trans (congrArg some (by kernel_rfl))⟩
 f25 := ⟨Tryz.f271.name, by decide, Tryz.func271.trans (congrArg some (by kernel_rfl))⟩
 f26 := ⟨Tryz.f272.name, by decide, Tryz.func272.trans (congrArg some (by kernel_rfl))⟩
 f27 := ⟨Tryz.f273.name, by decide, Tryz.func273.trans (congrArg some (by kernel_rfl))⟩
 f28 := Tryz.func212.trans (congrArg some (by kernel_rfl))
 f29 := Tryz.func213.trans (congrArg some (by kernel_rfl))
 f46 := ⟨Tryz.f278.name, by decide, Tryz.func278.trans (congrArg some (by kernel_rfl))⟩
 f47 := Tryz.func237.trans (congrArg some (by kernel_rfl))
 f48 := Tryz.func238.trans (congrArg some (by kernel_rfl))
 f49 := ⟨Tryz.f279.name, by decide, Tryz.func279.trans (congrArg some (by kernel_rfl))⟩
 f50 := ⟨Tryz.f280.name, by decide, Tryz.func280.trans (congrArg some (by kernel_rfl))⟩
 f57 := ⟨Tryz.f282.name, by decide, Tryz.func282.trans (congrArg some (by kernel_rfl))⟩
 t0 := Tryz.underlying0
 a0 := Tryz.isAgg0
 z0 := Tryz.sizeOf0
 v0 := Tryz.zeroValue0
 t3 := Tryz.underlying3
 a3 := Tryz.isAgg3
 z3 := Tryz.sizeOf3
 v3 := Tryz.zeroValue3
 t4 := Tryz.underlying4
 a4 := Tryz.isAgg4
 z4 := Tryz.sizeOf4
 v4 := Tryz.zeroValue4
 t5 := Tryz.underlying5
 a5 := Tryz.isAgg5
 z5 := Tryz.sizeOf5
 v5 := Tryz.zeroValue5
 t9 := Tryz.underlying9
 a9 := Tryz.isAgg9
 z9 := Tryz.sizeOf9
 v9 := Tryz.zeroValue9
 t22 := Tryz.underlying45
 a22 := Tryz.isAgg45
 z22 := Tryz.sizeOf45
 v22 := Tryz.zeroValue45
 t25 := Tryz.underlying174
 a25 := Tryz.isAgg174
 z25 := Tryz.sizeOf174
 v25 := Tryz.zeroValue174
 t39 := Tryz.underlying185
 a39 := Tryz.isAgg185
 z39 := Tryz.sizeOf185
 v39 := Tryz.zeroValue185
 t45 := Tryz.underlying208
 a45 := Tryz.isAgg208
 z45 := Tryz.sizeOf208
 v45 := Tryz.zeroValue208
 t46 := Tryz.underlying209
 a46 := Tryz.isAgg209
 z46 := Tryz.sizeOf209
 v46 := Tryz.zeroValue209
 t50 := Tryz.underlying169
 a50 := Tryz.isAgg169
 z50 := Tryz.sizeOf169
 v50 := Tryz.zeroValue169
 t53 := Tryz.underlying215
 a53 := Tryz.isAgg215
 z53 := Tryz.sizeOf215
 v53 := Tryz.zeroValue215
 t55 := Tryz.underlying217
 a55 := Tryz.isAgg217
 z55 := Tryz.sizeOf217
 v55 := Tryz.zeroValue217
 t66 := Tryz.underlying232
 a66 := Tryz.isAgg232
 z66 := Tryz.sizeOf232
 v66 := Tryz.zeroValue232
 t70 := Tryz.underlying236
 a70 := Tryz.isAgg236
 z70 := Tryz.sizeOf236
 v70 := Tryz.zeroValue236
 t76 := Tryz.underlying253
 a76 := Tryz.isAgg253
 z76 := Tryz.sizeOf253
 v76 := Tryz.zeroValue253
 t77 := Tryz.underlying153
 a77 := Tryz.isAgg153
 z77 := Tryz.sizeOf153
 v77 := Tryz.zeroValue153 }
end Go.Proofs
namespace Go.Proofs.YtmhbmpbgpjljeaaGreat
set_option linter.unusedSimpArgs false
set_option linter.unusedVariables false
set_option linter.unusedSectionVars false
set_option maxRecDepth 4000
open Go.RowKit
theorem qif (a b:Cq):same a b=same a.lits b.lits:=by
 cases a;cases b
 rw[J6]
 simp only[za9,Cq.mk.injEq]
theorem zr9 (a b:Cq):FC Tryz.prog 75 [cqD a,cqD b] [bD (same a b)]:=by
 have H:=zhk a.lits b.lits same 131 [] λx _ y _=>zg0 x y
 rw[zo6 λ_ _ _=>rfl]at H
 simp only[cqD,zap]
 refine zam Tryz.call75 Tryz.func75 rfl Zh (zat Zh) ?_
 simp -implicitDefEqProofs only[go_sem,Tryz.results75]
 refine callF (H) Zg ?_
 refine Zj ?_
 rw[qif]
theorem zr6 (a b:Cq):FC Tryz.prog 74 [cqD a,.one (.ptr (cqC b))] [bD (same a b)]:=by
 have H:=zr9 a b
 simp only[cqD,zap]at H⊢
 refine zam Tryz.call74 Tryz.func74 rfl Zh (zat Zh) ?_
 simp -implicitDefEqProofs only[go_sem,Tryz.results74]
 refine callF (H) Zg ?_
 exact Zg
theorem zln (cs:List Cq)(b:Cq):FC Tryz.prog 29 [.one (cqS cs),cqD b] [bD (cs.any λa=>same a b)]:=by
 have H:=zck cs (λa=>same a b) 74 [.ptr (cqC b)] λx _=>zr6 x b
 simp only[cqD,zap]at H⊢
 refine zam Tryz.call29 Tryz.func29 rfl Zh (zat Zh) ?_
 simp -implicitDefEqProofs only[go_sem,Tryz.results29]
 refine callF (H) Zg ?_
 exact Zg
theorem zpo (a:Li)(hw:a.wt<=1048576):FC Tryz.prog 228 [liD a] [liD a]:=by
 have H:=zf4 a.atom hw
 simp only[tmD,zaa a.atom]at H
 simp only[liD,zaj]
 refine zam Tryz.call228 Tryz.func228 rfl Zh (zat Zh) ?_
 simp -implicitDefEqProofs only[go_sem,Tryz.results228]
 refine drawn Zh ?_
 refine Zj ?_
 refine za1 (H) Zg ?_
 refine Zj ?_
 kernel_rfl
theorem zpf (a:Li)(hw:a.wt<=1048576):FC Tryz.prog 184 [liD a] [bD (!a.atom.atomOk)]:=by
 have H:=zfa a hw
 simp only[liD,zaj]at H⊢
 refine zam Tryz.call184 Tryz.func184 rfl Zh (zat Zh) ?_
 simp -implicitDefEqProofs only[go_sem,Tryz.results184]
 refine callF (H) Zg ?_
 exact Zg
theorem zzs (xs ys:List Li)(hp:xs.Perm ys)(hr:ys.Pairwise λa b=>ltOf zd2 b a=false)(hg:∀x∈xs,upT x.atom=true)(hl:xs.length<4611686018427387904):IC Tryz.prog 229 [] (.one (liS xs)) [.one (.fn 152 [])] (.one (liS ys)) [] :=
 ztm (G:=λx=>upT x.atom=true) (cf:=zd2) Tryz.laysSL Tryz.call229 (λw=>Tryz.isAgg95 w) (λw=>Tryz.sizeOf95 w) Tryz.call152 (λx=>by rw[zaj];rfl) (zlh zc5)
  (λx y h1 h2=>by
   have n1:=zc5.neg x y;unfold ltOf at h1 h2;rw[Ko]at h1 h2
   exact zfz.1 Zi) (λx y h1 h2=>zeu x y h1 h2) xs ys hp hr hg hl
def zx8 (ls:List Li):List Li:=ls.mergeSort λa b=>!ltOf zd2 b a
theorem zfw (ls:List Li):(zx8 ls).Perm ls:=Yl _ _
theorem zv9 (ls:List Li):(zx8 ls).Pairwise λa b=>ltOf zd2 b a=false:=by
 have:=List.pairwise_mergeSort (le:=λa b=>!ltOf zd2 b a) (λa b c h1 h2=>?_) (λa b=>?_) ls
 ·exact this.imp λh=>by simpa using h
 ·have hO:=zlh zc5;simp only[Jk]at h1 h2⊢;exact hO.ntrans c b a h2 h1
 ·have n1:=zc5.neg a b;simp only[ltOf,Yb,Jk,Ko];omega
end Go.Proofs.YtmhbmpbgpjljeaaGreat
namespace Go.Proofs.YtmhbmpbgpjljeaaGreat
set_option linter.unusedSimpArgs false
set_option linter.unusedVariables false
set_option linter.unusedSectionVars false
set_option maxRecDepth 4000
open Go.RowKit
set_option maxHeartbeats 2000000 in
theorem qa7 (ls:List Li)(hg:∀l∈ls,upT l.atom=true)(hw:∀l∈ls,l.wt<=1048576)(hlen:ls.length<=1048576):FC Tryz.prog 186 [.one (liS ls)] [cqD ⟨qa5 (zx8 ls)⟩]:=by
 have HS:=zzs ls (zx8 ls) (zfw ls).symm (zv9 ls) hg Zi
 have HC:=zon (zx8 ls) (by rw[(zfw ls).length_eq];exact hlen)
 simp only[cqD,zap]
 refine zcc Tryz.call186 Tryz.func186 rfl Zh (zat Zh) ?_
 simp -implicitDefEqProofs only[go_sem,Tryz.results186]
 refine zad (λk:Nat=>hd [(2,.one (.bx 2 0)),(3,.one (.bx 3 0)),(7,.one (.rn (liS ls))),(8,vI ls.length),(9,vI k)] [(2,[.nl 3]),(3,[.ow 3000 0])] [(3000,⟨true,3,(ls.take k).map liC,0,true⟩)]) (λk=>k<=ls.length) (λk=>ls.length-k) 0 (zab ?_) (Qy _) ?_
 ·exact Zg
 ·intro k hk;by_cases hlt:k<ls.length
  ·have hmin:min k ls.length<=4294967295:=by omega
   have HL:=zpo ls[k] (hw _ (Qe hlt));simp only[liD,zaj]at HL;simp -implicitDefEqProofs only[go_sem,zac,hlt,zaj];refine drawn Zh ?_;refine Zj ?_;refine za1 (HL) Zg ?_;refine Zj ?_;refine za7 Zg ?_;refine Zj ?_;refine zcx true (Z5 hmin) ?_;refine Z6 hmin ?_;refine⟨Zh,k+1,hlt,Zi,zab ?_⟩;refine Zj ?_;rw[zaf Zi,Qg hlt,Qq,Q7,zaj ls[k]]
   trivial
  ·have ht:ls.take k=ls:=Ql Zi;simp -implicitDefEqProofs only[go_sem,hlt,ht];refine zvh [2,3,22] (HS) Zg Zg Zg Zg Zg rfl ?_;refine Zj ?_;refine zgv (σ':=hd [(2,.one (.bx 2 0)),(3,.one (.bx 3 0)),(25,.one (.ow 3000 0))] [(2,[.nl 3]),(3,[.any])] [(3000,⟨true,3,(zx8 ls).map liC,0,true⟩)]) (zab ?_) rfl rfl ?_
   ·exact Zg
   refine zei [2,3] [25] [] (HC) Zg Zg Zg Zg ?_;exact Zg
end Go.Proofs.YtmhbmpbgpjljeaaGreat
namespace Go.Proofs.YtmhbmpbgpjljeaaGreat
set_option linter.unusedSimpArgs false
set_option linter.unusedVariables false
set_option linter.unusedSectionVars false
set_option maxRecDepth 4000
open Go.RowKit
noncomputable def mkC (ls:List Li):Cq:=⟨qa5 (zx8 ls)⟩
noncomputable def zjj (ls:List Li):Bool:=ls.all (λl=>l.atom.atomOk)&&(mkC ls).ok
noncomputable def ifC (c:Cq)(b:Bool):Cq:=if b=true then c else ⟨[]⟩
theorem qsb {α:Type}(f:α->Nat){a b:List α}(h:a.Sublist b):(a.map f).sum<=(b.map f).sum:=by
 induction h with
 | slnil=>exact Qp _
 | cons x _ ih=>simp;omega
 | cons_cons x _ ih=>simp;omega
theorem qep {a b:List Nat}(h:a.Perm b):a.sum=b.sum:=by
 induction h with
 | nil=>rfl
 | cons x _ ih=>simp[ih]
 | swap x y l=>simp;omega
 | trans _ _ i1 i2=>exact i1.trans i2
theorem zza (ls:List Li):(mkC ls).wt<=zgb ls:=by
 have h1:=(zpr (zx8 ls)).length_le
 have h2:=qsb Li.wt (zpr (zx8 ls))
 have h3:=(zfw ls).length_eq
 have h4:((zx8 ls).map Li.wt).sum=(ls.map Li.wt).sum:=qep ((zfw ls).map Li.wt)
 show(qa5 (zx8 ls)).length+((qa5 (zx8 ls)).map Li.wt).sum<=ls.length+(ls.map Li.wt).sum
 omega
theorem qan (c:Cq)(hw:c.wt<=1048576):GC Tryz.prog 185 [(true,cqD c)] [cqD (ifC c c.ok),bD c.ok]:=by
 have H:=zcu c hw
 simp only[cqD,zap]at H⊢
 cases hc:c.ok
 ·rw[hc]at H;refine zs4 Tryz.call185 Tryz.func185 rfl Zh (by simp only[Qj,Qo,Tryz.ntmps185];omega) (by simp[zb6,T.isPin]) ?_;simp -implicitDefEqProofs only[go_sem,Tryz.results185];refine callF (H) Zg ?_;refine Zj ?_;exact Or.inl rfl
 ·rw[hc]at H;refine zs4 Tryz.call185 Tryz.func185 rfl Zh (by simp only[Qj,Qo,Tryz.ntmps185];omega) (by simp[zb6,T.isPin]) ?_;simp -implicitDefEqProofs only[go_sem,Tryz.results185];refine callF (H) Zg ?_;refine Zj ?_;exact Or.inl rfl
theorem zru (ls:List Li)(hw:zgb ls<=1048576):FC Tryz.prog 128 [.one (liS ls)] [cqD (ifC (mkC ls) (zjj ls)),bD (zjj ls)]:=by
 have hlw:∀l∈ls,l.wt<=1048576:=λl hl=>by
  have:=zci Li.wt ls l hl;unfold zgb at hw;omega
 have hlen:ls.length<=1048576:=by unfold zgb at hw;omega
 have HCo:=zfm ls (λl=>!l.atom.atomOk) 184 [] λl hl=>zpf l (hlw l hl)
 cases hv:ls.all λl=>l.atom.atomOk
 ·have hany:(ls.any λl=>!l.atom.atomOk)=true:=by
   rw[Ju];obtain⟨l,hl,h⟩:=J9.1 hv;exact⟨l,hl,by simpa using h⟩
  rw[hany]at HCo;have hm:zjj ls=false:=by unfold zjj;rw[hv];rfl
  rw[hm];simp only[cqD,zap,ifC];refine zcc Tryz.call128 Tryz.func128 rfl Zh (zat Zh) ?_;simp -implicitDefEqProofs only[go_sem,Tryz.results128];refine callF (HCo) Zg ?_;exact Zg
 ·have hany:(ls.any λl=>!l.atom.atomOk)=false:=by
   rw[Yh];intro l hl;simp[Qr.1 hv l hl]
  rw[hany]at HCo;have hm:zjj ls=(mkC ls).ok:=by unfold zjj;rw[hv,Q2]
  have HC:=qa7 ls (λl hl=>zlb (Qr.1 hv l hl)) hlw hlen;have HI:=qan (mkC ls) (Q8 (zza ls) hw);rw[hm];simp only[cqD,zap]at HC HI⊢;have e0:(mkC ls).lits=qa5 (zx8 ls):=rfl;rw[e0]at HI;refine zcc Tryz.call128 Tryz.func128 rfl Zh (zat Zh) ?_;simp -implicitDefEqProofs only[go_sem,Tryz.results128];refine callF (HCo) Zg ?_;refine Zj ?_;refine callF (HC) Zg ?_;refine Zj ?_;refine zei [2,3] [8] [] (HI) Zg Zg Zg Zg ?_;exact Zg
end Go.Proofs.YtmhbmpbgpjljeaaGreat
namespace Go.Proofs.YtmhbmpbgpjljeaaGreat
set_option linter.unusedSimpArgs false
set_option linter.unusedVariables false
set_option linter.unusedSectionVars false
set_option maxRecDepth 4000
open Go.RowKit
variable {X:Type}
def zfe (st:X->List Tm->Bool×X):List Tm->X->List Tm->Bool×X
 | [],x,_=>(true,x)
 | t::ts,x,l=>if(st x (l++[t])).1=true then zfe st ts (st x (l++[t])).2 l else (false,(st x (l++[t])).2)
def zgh (ts:List Tm):Nat->(X->List Tm->Bool×X)->X->Bool×X
 | 0,st,x=>st x []
 | n+1,st,x=>zgh ts n (zfe st ts) x
structure SeeC (P:Program)(f:FuncId)(caps:List Value)(JR:X->Hj->Prop)(R0:Nat->Prop)(Inv:X->Prop)(okl:List Tm->Prop)(st:X->List Tm->Bool×X):Prop where
 cal:za8 P f
 r0:∀x J,JR x J->J.R=R0
 good:∀x J,JR x J->GoodJ J
 inv:∀x l,Inv x->okl l->(st x l).1=true->Inv (st x l).2
 call:∀x J l,JR x J->Inv x->okl l->∀w v,J.I w->(∀y,J.F y->y<w.heap.size)->(∀y,J.R y->y<w.heap.size)->zai w (λb=>b<w.heap.size/\¬J.F b) (tmS l) v →
  Calls P f ⟨v::caps⟩ w λe w'=>∃J',e=.returned (.bool (st x l).1)/\JR (st x l).2 J'/\EndJ J w J' w'
section
variable {P:Program}{N:Nat}{ops:Array Oper}{i:Nat}{σ:St}{K:St->Hj->Prop}{f:FuncId}{caps:List Value}{JR:X->Hj->Prop}{R0:Nat->Prop}{Inv:X->Prop}{okl:List Tm->Prop}{st:X->List Tm->Bool×X}
theorem zdd.see (S:SeeC P f caps JR R0 Inv okl st){d:Nat}{q:Operand}{asx:Array Operand}{ts:Array TypeId}{ty:TypeId}{ps:String}{af:Array Edge}{E:Nat->Prop}{C:World->Prop}(hk:zs2 E C){J:Hj}{x:X}{l:List Tm}{V:V}
  (hl:ops[i]?=some ⟨some d,.call ⟨.value q,asx,ts⟩,ty,ps,af,none⟩) (hd:d<N) (hx:JR x J) (hi:Inv x) (ho:okl l) (hq:σ.get P 0 q=.one (.t (.cl f caps))) (ha:σ.gets P asx ts=[V])
  (hv:∀n1 g a w v,Rel n1 N σ g a w->LtK n1 w->OkJ (J.wide E C) n1 g.A0 w->VR σ g w V v->zai w (λb=>b<w.heap.size/\¬J.F b) (tmS l) v)
  (k:∀J2,JR (st x l).2 J2->zdd P N ops (i+1) (σ.put (some d) (.one (.t (.bool (st x l).1)))) (J2.wide E C) K):zdd P N ops i σ (J.wide E C) K:=by
 refine zdd.call (λb J'=>∃J2,b=(st x l).1/\JR (st x l).2 J2/\J'=J2.wide E C) hl hd (λn1 g a w hR hn hJ=>?_) λb J' hb=>?_
 ·obtain⟨us,h1,h2⟩:=zqe (P:=P) hR (o:=⟨some d,.call ⟨.value q,asx,ts⟩,ty,ps,af,none⟩) rfl hq S.cal;rw[ha]at h2;obtain⟨u,_,rfl,h2,rfl⟩:=h2;refine⟨f,_,h1,?_⟩;refine(S.call x J l hx hi ho w u hJ.I.1 (λy hy=>hn y (hJ.F y hy).1) (λy hy=>hn y (hJ.R y (Or.inl hy))) (hv n1 g a w u hR hn hJ h2)).mono ?_;rintro e w' ⟨J',rfl,h3,h4⟩;exact⟨_,_,rfl,⟨J',rfl,h3,rfl⟩,Hj.wide_end h4 (λy hy=>⟨hn y (hJ.R y (Or.inr hy)),hJ.good.dis y (Or.inr hy)⟩) hk hJ.I.2⟩
 ·obtain⟨J2,rfl,h2,rfl⟩:=hb;exact k J2 h2
end
end Go.Proofs.YtmhbmpbgpjljeaaGreat
namespace Go.Proofs.YtmhbmpbgpjljeaaGreat
set_option linter.unusedSimpArgs false
set_option linter.unusedVariables false
set_option linter.unusedSectionVars false
set_option maxRecDepth 4000
open Go.RowKit
variable {X:Type}
theorem zzq {st:X->List Tm->Bool×X}{ts:List Tm}{k:Nat}(h:k<ts.length)(x:X)(l:List Tm):zfe st (ts.drop k) x l=if(st x (l++[ts[k]])).1=true then zfe st (ts.drop (k+1)) (st x (l++[ts[k]])).2 l else (false,(st x (l++[ts[k]])).2):=by
 rw[Qn h,zfe]
theorem qcg {st:X->List Tm->Bool×X}{ts:List Tm}{k:Nat}(h:¬k<ts.length)(x:X)(l:List Tm):zfe st (ts.drop k) x l=(true,x):=by
 rw[Jy Zi,zfe]
set_option maxHeartbeats 4000000 in
theorem zvm {f:FuncId}{caps:List Value}{JR:X->Hj->Prop}{R0:Nat->Prop}{Inv:X->Prop}{okl:List Tm->Prop}{st:X->List Tm->Bool×X}(S:SeeC Tryz.prog f caps JR R0 Inv okl st){E:Nat->Prop}{C:World->Prop}(hk:zs2 E C)
  {fl ft:List (List T)} {l ts:List Tm} (hC:∀w,C w->zby w E fl l/\zby w E ft ts) (hcf:∀c∈fl.flatten,c.flat=true) (hsh:∀r∈ft,∃s ao n c,r=[.str s,.vs ao n c]) (hfl:fl.length=l.length) (hft:ft.length=ts.length) (hl:l.length<=1048576) (ht:ts.length<=1048576) {x:X} {J:Hj} (hx:JR x J) (hi:Inv x) (ho:∀t∈ts,okl (l++[t])) :
  JC Tryz.prog 157 [.one (.sl 2 fl),.one (.ptr [.sl 2 ft]),.one (.ptr [.cl f caps])] (J.wide E C) (λb J'=>∃J2,b=(zfe st ts x l).1/\JR (zfe st ts x l).2 J2/\J'=J2.wide E C):=by
 refine qr7 Tryz.call157 Tryz.func157 rfl (zat Zh) ?_ ?_
 ·rintro b J' ⟨J2,_,h2,rfl⟩ y hy;rcases hy with hy|hy
  ·exact Or.inl (by rw[S.r0 x J hx];rw[S.r0 _ J2 h2]at hy;exact hy)
  ·exact Or.inr hy
 have HCl:=qei fl Zi hcf
 refine zba.cut 0 rfl Zh ?_
 simp -implicitDefEqProofs only[go_sem,Tryz.results157]
 refine zba.seq ?_
 refine zba.cut 0 rfl Zh ?_
 refine Zj ?_
 refine zba.block ?_
 refine zba.loop (λz:Nat×X×Hj=>hd [(0,vT (.sl 2 fl)),(1,vT (.ptr [.sl 2 ft])),(2,vT (.ptr [.cl f caps])),(7,vT (.sl 2 ft)),(8,vI ts.length),(9,vI z.1)] [] []) (λz=>z.2.2.wide E C)
  (λz=>z.1<=ts.length/\JR z.2.1 z.2.2/\Inv z.2.1/\zfe st ts x l=zfe st (ts.drop z.1) z.2.1 l) (λz=>ts.length-z.1) (0,x,J) (zab ?_) rfl ⟨Qy _,hx,hi,rfl⟩ ?_
 ·exact Zl hft
 rintro⟨k,y,J1⟩ ⟨hk1,hy,hiy,heq⟩
 simp only at hk1 hy hiy heq⊢
 by_cases hlt:k<ts.length
 ·obtain⟨s,ao,n,c,hrow⟩:=hsh ft[k] (Qe Zi);have hget:ft.getD k []=[.str s,.vs ao n c]:=by rw[List.getD_eq_getElem?_getD,List.getElem?_eq_getElem Zi];exact hrow
  refine zba.cut 1 rfl Zh ?_;refine Xo ?_;refine zba.seq ?_;refine zba.block ?_;refine zba.cut 0 rfl Zh ?_;simp -implicitDefEqProofs only[go_sem,hft,hlt,hget];refine zba.seq (zba.drawn 6 Zh Zh Zh ?_);refine Zj ?_;refine za1 (HCl) Zg ?_;refine Zj ?_;refine za7 Zg ?_;refine Zj ?_;have hfl2:fl.length<=4294967295:=by omega
  refine zcx true (by simp -implicitDefEqProofs only[go_sem,hfl2,ne_eq,Kd]) ?_;simp -implicitDefEqProofs only[go_sem,hfl2,ne_eq,Kd];refine⟨Zh,?_⟩;have hFT:∀w,C w->zjk w E [.str s,.vs ao n c] ts[k]:=λw hw=>by
   have:=(hC w hw).2.at k Zi hlt;rw[hrow]at this;exact this
  have hto:okl (l++[ts[k]]):=ho _ (Qe hlt);refine zdd.see S hk (x:=y) (l:=l++[ts[k]]) rfl (by simp only[Tryz.ntmps157];omega) hy hiy hto Zg (by simp -implicitDefEqProofs only[go_sem];rfl) (λn1 g a w v hR hn hJ hv=>?_) λJ2 hJ2=>?_
  ·simp only[VR,CR]at hv;obtain⟨rfl,-⟩:=hv;have hA:=qrz (N:=Tryz.f157.ntmps) hR hn hJ (e:=480) (by simp -implicitDefEqProofs only[go_sem];rfl) rfl rfl;have hF:=hC w hJ.I.2;exact hA.deepL (A':=E) (λb hb=>hb) (λb hb=>⟨hn b (hJ.R b (Or.inr hb)),hJ.good.dis b (Or.inr hb)⟩) (hF.1.snoc (hFT w hJ.I.2))
  ·refine zdd.plain 1 (by decide) rfl Zh ?_;refine Zj ?_;refine zdd.done rfl ?_;refine Zj ?_;rw[zzq hlt]at heq;have hinv:=S.inv y _ hiy hto;cases hb:(st y (l++[ts[k]])).1
   ·rw[hb,if_neg (by simp)]at heq;refine zba.ofEx Zh ?_;simp -implicitDefEqProofs only[go_sem,Ja,hb];exact⟨false,by simp -implicitDefEqProofs only[go_sem],J2,by rw[heq],by rw[heq];exact hJ2,rfl⟩
   ·rw[hb,if_pos rfl]at heq;refine zba.ofEx Zh ?_;simp -implicitDefEqProofs only[go_sem,K8,hb];refine zba.ofEx Zh ?_;refine Zj ?_;refine⟨(k+1,(st y (l++[ts[k]])).2,J2),⟨by simp only;omega,hJ2,hinv hb,heq⟩,by simp only;omega,rfl,zab ?_⟩;refine Zj ?_;rw[zaf Zi]
 ·rw[qcg hlt]at heq;refine zba.cut 1 rfl Zh ?_;refine Xo ?_;refine zba.ofEx Zh ?_;refine Zj ?_;exact⟨true,by simp -implicitDefEqProofs only[go_sem],J1,by rw[heq],by rw[heq];exact hy,rfl⟩
end Go.Proofs.YtmhbmpbgpjljeaaGreat
namespace Go.Proofs.YtmhbmpbgpjljeaaGreat
set_option linter.unusedSimpArgs false
set_option linter.unusedVariables false
set_option linter.unusedSectionVars false
set_option maxRecDepth 4000
open Go.RowKit
variable {X:Type}
theorem zrr {st:X->List Tm->Bool×X}{Inv:X->Prop}{okl:List Tm->Prop}(h:∀x l,Inv x->okl l->(st x l).1=true->Inv (st x l).2):∀(ts:List Tm)(x:X)(l:List Tm),Inv x->(∀t∈ts,okl (l++[t]))->(zfe st ts x l).1=true->Inv (zfe st ts x l).2
 | [],x,l,hi,_,_=>hi
 | t::ts,x,l,hi,ho,hb=>by
  rw[zfe]at hb⊢;by_cases hc:(st x (l++[t])).1=true
  ·rw[if_pos hc]at hb⊢;exact zrr h ts _ l (h x _ hi (ho t (by simp)) hc) (λu hu=>ho u (by simp[hu])) hb
  ·rw[if_neg hc]at hb;cases hb
theorem zby.shape {w:World}{A:Nat->Prop}:∀{rs:List (List T)}{ts:List Tm},zby w A rs ts->∀r∈rs,∃s ao n c,r=[.str s,.vs ao n c]
 | [],_,_,r,hr=>by simp at hr
 | _::_,_,h,r,hr=>by
  obtain⟨t',ts,rfl,⟨ao,l,c,rfl,_⟩,h2⟩:=h;rcases Qs.1 hr with rfl|hr
  ·exact⟨_,ao,l,c,rfl⟩
  ·exact zby.shape h2 r hr
theorem SeeC.up {f:FuncId}{caps:List Value}{JR:X->Hj->Prop}{R0:Nat->Prop}{Inv:X->Prop}{okl:List Tm->Prop}{st:X->List Tm->Bool×X}(S:SeeC Tryz.prog f caps JR R0 Inv okl st){E:Nat->Prop}{C:World->Prop}(hk:zs2 E C)
  {ft:List (List T)} {ts:List Tm} (ht:ts.length<=1048576) {p3 p5:Value} (hC:∀w,C w->zai w E (.ptr [.sl 2 ft]) p3/\zby w E ft ts/\zai w E (.ptr [.cl f caps]) p5) :
  SeeC Tryz.prog 157 [p3,p5] (λx J'=>∃J,JR x J/\(∀y,E y->¬J.F y)/\J'=J.wide E C) (λy=>R0 y\/E y) Inv (λl=>l.length<=1048576/\∀t∈ts,okl (l++[t])) (zfe st ts):=by
 refine⟨Tryz.call157,?_,?_,λx l hi ho hb=>zrr S.inv ts x l hi ho.2 hb,?_⟩
 ·rintro x _ ⟨J,h1,h2,rfl⟩
  funext y
  show(J.R y\/E y)=_
  rw[S.r0 x J h1]
 ·rintro x _ ⟨J,h1,h2,rfl⟩;exact Hj.wide_good (S.good x J h1) h2 hk
 ·rintro x _ l ⟨J,h1,h2,rfl⟩ hi ⟨hl,ho⟩ w v hI hF hR hv;have hF:∀y,J.F y->y<w.heap.size:=hF;have hR:∀y,J.R y\/E y->y<w.heap.size:=hR;obtain⟨hI,hc⟩:=hI;obtain⟨r3,rt,r5⟩:=hC w hc;have hv:zai w (λb=>b<w.heap.size/\¬J.F b) (tmS l) v:=hv;obtain⟨fl,v1,v2⟩:=hv.flatL;have hEE:∀y,E y->y<w.heap.size/\¬J.F y:=λy hy=>⟨hR y (Or.inr hy),h2 y hy⟩;have hk2:zs2 (λb=>b<w.heap.size/\¬J.F b) (λw'=>zby w' (λb=>b<w.heap.size/\¬J.F b) fl l/\zby w' (λb=>b<w.heap.size/\¬J.F b) ft ts):=λa b hs h=>⟨h.1.keep hs λ_ q=>q,h.2.keep hs λ_ q=>q⟩;have hc2:zby w (λb=>b<w.heap.size/\¬J.F b) fl l/\zby w (λb=>b<w.heap.size/\¬J.F b) ft ts:=⟨v2,rt.keep (λ_ _=>rfl) hEE⟩;have H:=zvm S hk2 (λw hw=>hw) v2.flat rt.shape v2.len rt.len hl ht h1 hi ho;have hgJ:=S.good x J h1;refine(H.2 w [v,p3,p5] (λb=>b<w.heap.size/\¬J.F b) (Hj.wide_good hgJ (λy hy=>hy.2) hk2) ⟨hI,hc2⟩ (λy hy=>⟨hF y hy,λq=>q.2 hy⟩) (λy hy=>hy.elim (λq=>hR y (Or.inl q)) λq=>q.1) ?_).mono ?_
  ·refine⟨v,_,rfl,zai.keep (λ_ _=>rfl) (λb hb=>⟨hb.1,hb⟩) _ _ v1,p3,_,rfl,zai.keep (λ_ _=>rfl) (λb hb=>⟨(hEE b hb).1,hEE b hb⟩) _ _ r3,p5,_,rfl,zai.keep (λ_ _=>rfl) (λb hb=>⟨(hEE b hb).1,hEE b hb⟩) _ _ r5,rfl⟩
  ·rintro e w' ⟨b,_,rfl,⟨J2,rfl,k1,rfl⟩,k2⟩;have hEnd:EndJ J w J2 w':=Hj.wide_drop k2 (S.good _ J2 k1) (λy hy=>by rw[S.r0 x J h1];rw[S.r0 _ J2 k1]at hy;exact hy);exact⟨J2.wide E C,rfl,⟨J2,k1,λy hy hf=>(hEnd.F y hf).1.elim (h2 y hy) λq=>by have:=(hEE y hy).1;omega,rfl⟩,Hj.wide_end hEnd hEE hk hc⟩
section
variable {P:Program}{N:Nat}{ops:Array Oper}{i:Nat}{σ:St}{K:St->Hj->Prop}{f:FuncId}{caps:List Value}{JR:X->Hj->Prop}{R0:Nat->Prop}{Inv:X->Prop}{okl:List Tm->Prop}{st:X->List Tm->Bool×X}
theorem zdd.see0 (S:SeeC P f caps JR R0 Inv okl st){d:Nat}{q:Operand}{asx:Array Operand}{ts:Array TypeId}{ty:TypeId}{ps:String}{af:Array Edge}{J:Hj}{x:X}{l:List Tm}{V:V}
  (hl:ops[i]?=some ⟨some d,.call ⟨.value q,asx,ts⟩,ty,ps,af,none⟩) (hd:d<N) (hx:JR x J) (hi:Inv x) (ho:okl l) (hq:σ.get P 0 q=.one (.t (.cl f caps))) (ha:σ.gets P asx ts=[V])
  (hv:∀n1 g a w v,Rel n1 N σ g a w->LtK n1 w->OkJ J n1 g.A0 w->VR σ g w V v->zai w (λb=>b<w.heap.size/\¬J.F b) (tmS l) v)
  (k:∀J2,JR (st x l).2 J2->zdd P N ops (i+1) (σ.put (some d) (.one (.t (.bool (st x l).1)))) J2 K):zdd P N ops i σ J K:=by
 refine zdd.call (λb J'=>b=(st x l).1/\JR (st x l).2 J') hl hd (λn1 g a w hR hn hJ=>?_) λb J' hb=>?_
 ·obtain⟨us,h1,h2⟩:=zqe (P:=P) hR (o:=⟨some d,.call ⟨.value q,asx,ts⟩,ty,ps,af,none⟩) rfl hq S.cal;rw[ha]at h2;obtain⟨u,_,rfl,h2,rfl⟩:=h2;refine⟨f,_,h1,?_⟩;refine(S.call x J l hx hi ho w u hJ.I (λy hy=>hn y (hJ.F y hy).1) (λy hy=>hn y (hJ.R y hy)) (hv n1 g a w u hR hn hJ h2)).mono ?_;rintro e w' ⟨J',rfl,h3,h4⟩;exact⟨_,_,rfl,⟨rfl,h3⟩,h4⟩
 ·obtain⟨rfl,h2⟩:=hb;exact k J' h2
end
theorem qj9 {P:Program}{N:Nat}{n0:Nat->Prop}{σ:St}{g:Gh}{a:Act}{w:World}(hR:Rel n0 N σ g a w){f:FuncId}(hf:za8 P f){o:Oper}{x:Operand}{asx:Array Operand}{ts:Array TypeId}{cvs:List V}{Q:Ending->World->Prop}(ho:o.op=.call ⟨.value x,asx,ts⟩)
  (hc:za3 (σ.get P 0 x)=some (f,cvs)) (k:∀vs,VRl σ g w (σ.gets P asx ts++cvs) vs->Calls P f ⟨vs⟩ w Q):∃f vs,(execOp a.eval o).run P w=.ok (.enter f vs) w/\Calls P f vs w Q:=by
 obtain⟨vs,h1,h2⟩:=zd7 hR ho hc hf
 exact⟨f,_,h1,k vs h2⟩
theorem qah {N:Nat}{f:FuncId}{caps:List Value}{JR:X->Hj->Prop}{R0:Nat->Prop}{Inv:X->Prop}{okl:List Tm->Prop}{st:X->List Tm->Bool×X}(S:SeeC Tryz.prog f caps JR R0 Inv okl st){ts:List Tm}(ht:ts.length<=1048576){n:Nat}
  (ih:n<=1048576->∀{f:FuncId} {caps:List Value} {JR:X->Hj->Prop} {R0:Nat->Prop} {Inv:X->Prop} {okl:List Tm->Prop} {st:X->List Tm->Bool×X},SeeC Tryz.prog f caps JR R0 Inv okl st->(∀l:List Tm,l.length=n->(∀t∈l,t∈ts)->okl l)->∀{x:X} {J:Hj},JR x J->Inv x →
   JC Tryz.prog 95 [.one (tmS ts),.one (.int .i64 n),.one (.cl f caps)] J (λb J'=>b=(zgh ts n st x).1/\JR (zgh ts n st x).2 J'))
  (hn:n+1<=1048576) (hok:∀l:List Tm,l.length=n+1->(∀t∈l,t∈ts)->okl l) {x:X} {J:Hj} (hx:JR x J) (hi:Inv x)
  {n1:Nat->Prop} {σ:St} {g:Gh} {a:Act} {w:World} (hR:Rel n1 N σ g a w) (hn1:LtK n1 w) (hJ:OkJ J n1 g.A0 w) {o:Oper} {q:Operand} {asx:Array Operand} {tys:Array TypeId} (ho:o.op=.call ⟨.value q,asx,tys⟩)
  (hc:za3 (σ.get Tryz.prog 0 q)=some (95,[])) (ha:σ.gets Tryz.prog asx tys=[.one (.t (tmS ts)),.one (.t (.int .i64 n)),.one (.fn 157 [3,5])]) (h3:σ.bx 3=some [.t (tmS ts)]) (h5:σ.bx 5=some [.t (.cl f caps)]) :
  ∃f vs,(execOp a.eval o).run Tryz.prog w=.ok (.enter f vs) w/\Calls Tryz.prog f vs w λe w'=>∃b J',e=.returned (.bool b)/\(b=(zgh ts (n+1) st x).1/\JR (zgh ts (n+1) st x).2 J')/\EndJ J w J' w':=by
 refine qj9 hR Tryz.call95 (cvs:=[]) ho hc λvs hvs=>?_
 rw[ha]at hvs
 obtain⟨v1,_,rfl,q1,v2,_,rfl,q2,v3,_,rfl,q3,rfl⟩:=hvs
 simp only[VR,CR]at q1 q2 q3
 obtain⟨rfl,-⟩:=q3
 obtain⟨c3,ty3,m3,k3⟩:=hR.boxes 3 _ h3
 obtain⟨c5,ty5,m5,k5⟩:=hR.boxes 5 _ h5
 obtain⟨c3⟩:=c3
 obtain⟨c5⟩:=c5
 obtain⟨u3,_,rfl,k3,rfl⟩:=k3
 obtain⟨u5,_,rfl,k5,rfl⟩:=k5
 obtain⟨ft,f1,f2⟩:=zai.flatL (show zai w (Fix σ g w) (tmS ts) u3 from k3)
 have k5:zai w (Fix σ g w) (.cl f caps) u5:=k5
 have b3:¬n1 (g.β 3):=hR.base 3 (by rw[h3];simp)
 have b5:¬n1 (g.β 5):=hR.base 5 (by rw[h5];simp)
 have l3:g.β 3<w.heap.size:=hR.lt (by rw[h3];simp)
 have l5:g.β 5<w.heap.size:=hR.lt (by rw[h5];simp)
 have e3:w.cell? ⟨g.β 3,0,none⟩=some u3:=by simp[World.cell?,m3]
 have e5:w.cell? ⟨g.β 5,0,none⟩=some u5:=by simp[World.cell?,m5]
 have hE:∀b,(Fix σ g w b\/b=g.β 3\/b=g.β 5)->b<w.heap.size/\¬J.F b:=by
  rintro b (hb|rfl|rfl)
  ·exact⟨hb.2.2.1,λhF=>(hJ.F b hF).2 hb.2.2.2⟩
  ·exact⟨l3,λhF=>b3 (hJ.F _ hF).1⟩
  ·exact⟨l5,λhF=>b5 (hJ.F _ hF).1⟩
 generalize hEd:(λb=>Fix σ g w b\/b=g.β 3\/b=g.β 5)=E at *
 have hFE:∀b,Fix σ g w b->E b:=λb hb=>by rw[<-hEd];exact Or.inl hb
 have hE3:E (g.β 3):=by rw[<-hEd];exact Or.inr (Or.inl rfl)
 have hE5:E (g.β 5):=by rw[<-hEd];exact Or.inr (Or.inr rfl)
 have hE:∀b,E b->b<w.heap.size/\¬J.F b:=λb hb=>hE b (by rw[<-hEd]at hb;exact hb)
 have hk:zs2 E (λw'=>zai w' E (.ptr [.sl 2 ft]) (.pointer (some ⟨g.β 3,0,none⟩))/\zby w' E ft ts/\zai w' E (.ptr [.cl f caps]) (.pointer (some ⟨g.β 5,0,none⟩))):=λa b hs h=>⟨zai.keep hs (λ_ q=>q) _ _ h.1,h.2.1.keep hs λ_ q=>q,zai.keep hs (λ_ q=>q) _ _ h.2.2⟩
 have hc0:zai w E (.ptr [.sl 2 ft]) (.pointer (some ⟨g.β 3,0,none⟩))/\zby w E ft ts/\zai w E (.ptr [.cl f caps]) (.pointer (some ⟨g.β 5,0,none⟩)):=by
  refine⟨?_,f2.keep (λ_ _=>rfl) hFE,?_⟩
  ·unfold zai;exact⟨_,0,rfl,hE3,⟨u3,e3,zai.keep (λ_ _=>rfl) hFE _ _ f1⟩,trivial⟩
  ·unfold zai;exact⟨_,0,rfl,hE5,⟨u5,e5,zai.keep (λ_ _=>rfl) hFE _ _ k5⟩,trivial⟩
 have S':=S.up hk ht (λw hw=>hw)
 have H:=ih Zi S' (λl hl hm=>⟨Zi,λt htt=>hok _ (by simp[hl]) λq hq=>by
  rcases Qt.1 hq with h|h
  ·exact hm q h
  ·rw[Qv.1 h];exact htt⟩) (x:=x) (J:=J.wide E _) ⟨J,hx,λy hy=>(hE y hy).2,rfl⟩ hi
 refine(H.2 w [v1,v2,_] E (S'.good x _ ⟨J,hx,λy hy=>(hE y hy).2,rfl⟩) ⟨hJ.I,hc0⟩ (λy hy=>⟨hn1 y (hJ.F y hy).1,λq=>(hE y q).2 hy⟩) (λy hy=>hy.elim (λq=>hn1 y (hJ.R y q)) λq=>(hE y q).1) ?_).mono ?_
 ·refine⟨v1,_,rfl,zai.keep (λ_ _=>rfl) (λb hb=>⟨(hE b (hFE b hb)).1,hFE b hb⟩) _ _ q1,v2,_,rfl,zai.keep (λ_ _=>rfl) (λb hb=>⟨(hE b (hFE b hb)).1,hFE b hb⟩) _ _ q2,_,_,rfl,?_,rfl⟩;show zai _ _ _ _
  unfold zai;rfl
 ·rintro e w' ⟨b,_,rfl,⟨rfl,J2,r1,r2,rfl⟩,r3⟩;refine⟨_,J2,rfl,⟨rfl,r1⟩,Hj.wide_drop r3 (S.good _ J2 r1) λy hy=>?_⟩;rw[S.r0 x J hx];rw[S.r0 _ J2 r1]at hy;exact hy
set_option maxHeartbeats 4000000 in
theorem zu1 (ts:List Tm)(ht:ts.length<=1048576):∀(n:Nat),n<=1048576->∀{f:FuncId}{caps:List Value}{JR:X->Hj->Prop}{R0:Nat->Prop}{Inv:X->Prop}{okl:List Tm->Prop}{st:X->List Tm->Bool×X}(S:SeeC Tryz.prog f caps JR R0 Inv okl st)
  (hok:∀l:List Tm,l.length=n->(∀t∈l,t∈ts)->okl l) {x:X} {J:Hj},JR x J->Inv x →
  JC Tryz.prog 95 [.one (tmS ts),.one (.int .i64 n),.one (.cl f caps)] J (λb J'=>b=(zgh ts n st x).1/\JR (zgh ts n st x).2 J'):=by
 intro n
 induction n with
 | zero =>
  intro _ f caps JR R0 Inv okl st S hok x J hx hi;refine qr7 Tryz.call95 Tryz.func95 rfl (zat Zh) ?_ ?_
  ·rintro b J' ⟨_,h2⟩ y hy;rw[S.r0 x J hx];rw[S.r0 _ J' h2]at hy;exact hy
  refine zba.cut 0 rfl Zh ?_;simp -implicitDefEqProofs only[go_sem,Tryz.results95];refine zba.seq ?_;refine zba.cut 0 rfl Zh ?_;refine Zj ?_;have e0:(((0:Nat):Int)==0)=true:=by simp
  refine zba.cond (b:=true) (Zl e0) (λ_=>?_) (λh=>by cases h);refine zba.seq (zba.region (zdd.plain 1 (by decide) rfl Zh ?_));refine Zj ?_;refine zdd.see0 S (x:=x) (l:=[]) rfl (by simp only[Tryz.ntmps95];omega) hx hi (hok [] rfl (by simp)) Zg (by simp -implicitDefEqProofs only[go_sem];rfl) (λn1 g a w v hR hn hJ hv=>?_) λJ2 hJ2=>?_
  ·simp only[VR,CR]at hv;subst hv;unfold zai;exact⟨none,0,rfl,Qy _,by unfold zd1;omega,Or.inl rfl⟩
  ·refine zdd.plain 1 (by decide) rfl Zh ?_;refine Zj ?_;refine zdd.done rfl ?_;refine Zj ?_;refine zba.ofEx Zh ?_;refine Zj ?_;exact⟨(st x []).1,by simp -implicitDefEqProofs only[go_sem],rfl,hJ2⟩
 | succ n ih =>
  intro hn f caps JR R0 Inv okl st S hok x J hx hi;refine qr7 Tryz.call95 Tryz.func95 rfl (zat Zh) ?_ ?_
  ·rintro b J' ⟨_,h2⟩ y hy;rw[S.r0 x J hx];rw[S.r0 _ J' h2]at hy;exact hy
  refine zba.cut 0 rfl Zh ?_;simp -implicitDefEqProofs only[go_sem,Tryz.results95];refine zba.seq ?_;refine zba.cut 0 rfl Zh ?_;refine Zj ?_;have e0:(((n+1:Nat):Int)==0)=false:=by simp;omega
  refine zba.cond (b:=false) (Zl e0) (λh=>by cases h) λ_=>?_;refine zba.ofEx Zh ?_;refine Zj ?_;refine zba.seq (zba.region (zdd.plain 4 (by decide) rfl Zh ?_));have e1:IntKind.i64.wrap (((n+1:Nat):Int)-1)=(n:Int):=by rw[zay Zi Zi];omega
  refine Zk e1 ?_;refine zdd.call (λb J'=>b=(zgh ts (n+1) st x).1/\JR (zgh ts (n+1) st x).2 J') rfl (by simp only[Tryz.ntmps95];omega) (λn1 g a w hR hn1 hJ=>?_) λb J' hb=>?_
  ·exact qah S ht ih Zi hok hx hi hR hn1 hJ rfl Zg Zg Zg Zg
  ·obtain⟨rfl,h2⟩:=hb;refine zdd.plain 1 (by decide) rfl Zh ?_;refine Zj ?_;refine zdd.done rfl ?_;refine Zj ?_;refine zba.ofEx Zh ?_;refine Zj ?_;exact⟨(zgh ts (n+1) st x).1,by simp -implicitDefEqProofs only[go_sem],rfl,h2⟩
end Go.Proofs.YtmhbmpbgpjljeaaGreat
namespace Go.Proofs.YtmhbmpbgpjljeaaGreat
set_option linter.unusedSimpArgs false
set_option linter.unusedVariables false
set_option linter.unusedSectionVars false
set_option maxRecDepth 4000
open Go.RowKit
variable {X:Type}
theorem zfd.split {w:World}{bs:Nat->Nat}:∀{b1 b2:Bxs}{j:Nat}{bvs:List (List Value)},zfd w bs j bvs (b1++b2)->∃v1 v2,bvs=v1++v2/\zfd w bs j v1 b1/\zfd w bs (j+b1.length) v2 b2
 | [],b2,j,bvs,h=>⟨[],bvs,rfl,by unfold zfd;trivial,h⟩
 | b::b1,b2,j,[],h=>h.elim
 | b::b1,b2,j,vs::bvs,h=>by
  obtain⟨h1,h2,h3⟩:=h;obtain⟨v1,v2,rfl,k1,k2⟩:=zfd.split h3;exact⟨vs::v1,v2,rfl,⟨h1,h2,k1⟩,by rw[Qj,show j+(b1.length+1)=j+1+b1.length by omega];exact k2⟩
theorem zfd.append {w:World}{bs:Nat->Nat}:∀{b1 b2:Bxs}{j:Nat}{v1 v2:List (List Value)},zfd w bs j v1 b1->zfd w bs (j+b1.length) v2 b2->zfd w bs j (v1++v2) (b1++b2)
 | [],b2,j,[],v2,_,k=>k
 | [],b2,j,_::_,v2,h,k=>h.elim
 | b::b1,b2,j,[],v2,h,_=>h.elim
 | b::b1,b2,j,vs::v1,v2,h,k=>⟨h.1,h.2.1,zfd.append h.2.2 (by rw[Qj,show j+(b1.length+1)=j+1+b1.length by omega]at k;exact k)⟩
theorem zfd.flatLen {w:World}{bs:Nat->Nat}:∀{b:Bxs}{j:Nat}{vs:List (List Value)},zfd w bs j vs b->vs.flatten.length=b.flatten.length
 | [],_,[],_=>rfl
 | [],_,_::_,h=>h.elim
 | _::_,_,[],h=>h.elim
 | _::_,_,_::_,h=>by simp only[Q5,Qb,h.1,zfd.flatLen h.2.2]
theorem zel {w w':World}{A A':Nat->Prop}:∀{b:List (Bool×T)},(∀p∈b,p.1=true)->∀{vs:List Value}{fp tp:List Nat},zaw w A (bxA b) vs fp tp->(∀x∈fp,w'.heap[x]?=w.heap[x]?)->zaw w' A' (bxA b) vs fp tp
 | [],_,_,_,_,h,_=>h
 | (true,t)::b,ht,_,_,_,h,hs=>by
  obtain⟨v,vs',f1,f2,t1,t2,rfl,rfl,rfl,h1,h2⟩:=h;exact⟨v,vs',f1,f2,t1,t2,rfl,rfl,rfl,⟨zas.keep _ _ _ h1.1 λx hx=>hs x (by simp[hx]),h1.2⟩,zel (λp hp=>ht p (by simp[hp])) h2 λx hx=>hs x (by simp[hx])⟩
 | (false,t)::b,ht,_,_,_,_,_=>by have:=ht (false,t) (by simp);cases this
theorem zn3 {w:World}{A:Nat->Prop}:∀{b:List (Bool×T)},(∀p∈b,p.1=true)->∀{vs:List Value}{fp tp:List Nat},zaw w A (bxA b) vs fp tp->∀x∈fp,x<w.heap.size
 | [],_,_,_,_,h,x,hx=>by rw[h.2.1]at hx;simp at hx
 | (true,t)::b,ht,_,_,_,h,x,hx=>by
  obtain⟨v,vs',f1,f2,t1,t2,rfl,rfl,rfl,h1,h2⟩:=h;rcases Qt.1 hx with q|q
  ·exact zas.lt _ _ _ h1.1 x q
  ·exact zn3 (λp hp=>ht p (by simp[hp])) h2 x q
 | (false,t)::b,ht,_,_,_,_,_,_=>by have:=ht (false,t) (by simp);cases this
theorem zbc.cut {w:World}{A:Nat->Prop}:∀{c:List T}{r:List D}{vs us:List Value},vs.length=c.length->zbc w A (c.map D.one++r) (vs++us)->zae w A c vs/\zbc w A r us
 | [],r,[],us,_,h=>⟨by unfold zae;rfl,h⟩
 | [],r,_::_,us,hl,_=>by simp at hl
 | _::_,r,[],us,hl,_=>by simp at hl
 | t::c,r,v::vs,us,hl,h=>by
  obtain⟨v',vs',e,h1,h2⟩:=h;simp only[Kt,Jv]at e;obtain⟨rfl,rfl⟩:=e;obtain⟨k1,k2⟩:=zbc.cut (by simpa using hl) h2;exact⟨by unfold zae;exact⟨_,_,rfl,h1,k1⟩,k2⟩
abbrev csB (cs:List (List T)):Bxs:=cs.map λc=>c.map λt=>(false,t)
theorem qin:∀cs:List (List T),bxA (csB cs).flatten=rd (cs.flatten.map D.one)
 | []=>rfl
 | c::cs=>by
  have h1:bxA (c.map λt=>(false,t))=rd (c.map D.one):=by simp[bxA,rd,Jj,Yy]
  show bxA ((c.map λt=>(false,t))++(csB cs).flatten)=_
  rw[zdt,h1,qin cs];simp[rd]
theorem zs7 {w:World}{A:Nat->Prop}{bs:Nat->Nat}:∀{cs:List (List T)}{j:Nat}{b2:List (List Value)},zfd w bs j b2 (csB cs)->zbc w A (cs.flatten.map D.one) b2.flatten->∀i,i<cs.length->∃vs ty,w.heap[bs (j+i)]?=some (.cells ⟨vs⟩ ty (0,0))/\zae w A (cs.getD i []) vs
 | [],_,_,_,_,i,hi=>by simp at hi
 | c::cs,j,[],h,_,_,_=>h.elim
 | c::cs,j,vs::b2,h,hr,i,hi=>by
  obtain⟨h1,⟨ty,h2⟩,h3⟩:=h;rw[Q5,Q5,Qq]at hr;obtain⟨k1,k2⟩:=zbc.cut (by simpa using h1) hr;cases i with
  | zero=>exact⟨vs,ty,h2,k1⟩
  | succ i =>
   obtain⟨us,ty',q1,q2⟩:=zs7 h3 k2 i (by simpa using hi);exact⟨us,ty',by rw[show j+(i+1)=j+1+i by omega];exact q1,by simpa using q2⟩
theorem qqp {w:World}{A A':Nat->Prop}(ha:∀b,A b->A' b){b:Nat}(hb:A' b){vs:List Value}{ty:TypeId}{c:List T}(h:w.heap[b]?=some (.cells ⟨vs⟩ ty (0,0)))(k:zae w A c vs):zai w A' (.ptr c) (zl7 b):=by
 unfold zai
 refine⟨b,0,rfl,hb,za5.mk λi t hi=>?_⟩
 obtain⟨v,h1,h2⟩:=k.at i t hi
 exact⟨v,by rw[Qi];simp[World.cell?,h,h1],zai.keep (λ_ _=>rfl) ha _ _ h2⟩
def qg6 (m:Nat)(cs:List (List T))(j:Nat):AF:=if j<m then .p j else .d false (.one (.ptr (cs.getD (j-m) [])))
theorem zlv (m:Nat)(cs:List (List T))(bs:Nat->Nat):∀js:List Nat,AF.vals bs (js.map (qg6 m cs)) ((js.filter λj=>!decide (j<m)).map λj=>zl7 (bs j))=js.map λj=>zl7 (bs j)
 | []=>rfl
 | j::js=>by
  by_cases h:j<m
  ·rw[Qk,qg6,if_pos h,List.filter_cons_of_neg (by simp[h]),AF.vals,zlv m cs bs js,Qk]
  ·rw[Qk,qg6,if_neg h,List.filter_cons_of_pos (by simp[h]),Qk,AF.vals,zlv m cs bs js,Qk]
theorem zvu (m:Nat)(cs:List (List T)):∀js:List Nat,AF.ds (js.map (qg6 m cs))=rd ((js.filter λj=>!decide (j<m)).map λj=>.one (.ptr (cs.getD (j-m) [])))
 | []=>rfl
 | j::js=>by
  by_cases h:j<m
  ·rw[Qk,qg6,if_pos h,List.filter_cons_of_neg (by simp[h]),AF.ds,zvu m cs js]
  ·rw[Qk,qg6,if_neg h,List.filter_cons_of_pos (by simp[h]),Qk,AF.ds,zvu m cs js];rfl
def qpu (m:Nat)(bs:Nat->Nat)(bx:Bxs)(F:Nat->Prop)(w:World):Prop:=∃vb fp tp,zfd w bs 0 vb bx/\zaw w (λ_=>False) (bxA bx.flatten) vb.flatten fp tp/\fp.Nodup/\(∀j,j<m->bs j∉fp)/\∀b∈fp,F b
def qs1 (m:Nat)(bs:Nat->Nat)(cs:List (List T))(R0:Nat->Prop)(w:World):Prop:=∀i,i<cs.length->zai w R0 (.ptr (cs.getD i [])) (zl7 (bs (m+i)))
def JRb (m:Nat)(bs:Nat->Nat)(bx:X->Bxs)(cs:List (List T))(R0:Nat->Prop)(x:X)(J:Hj):Prop:=J.R=R0/\(∀j,j<m->J.F (bs j))/\(∀y,R0 y->¬J.F y)/\J.I=λw=>qpu m bs (bx x) J.F w/\qs1 m bs cs R0 w
theorem qs1.keep {m:Nat}{bs:Nat->Nat}{cs:List (List T)}{R0:Nat->Prop}{w w':World}(hs:∀b,R0 b->w'.heap[b]?=w.heap[b]?)(h:qs1 m bs cs R0 w):qs1 m bs cs R0 w':=λi hi=>zai.keep hs (λ_ q=>q) _ _ (h i hi)
theorem qpu.keep {m:Nat}{bs:Nat->Nat}{bx:Bxs}{F:Nat->Prop}{w w':World}(hm:bx.length=m)(ht:∀b∈bx,∀p∈b,p.1=true)(hF:∀j,j<m->F (bs j))(hs:∀b,F b->w'.heap[b]?=w.heap[b]?)(h:qpu m bs bx F w):qpu m bs bx F w':=by
 obtain⟨vb,fp,tp,h1,h2,h3,h4,h5⟩:=h
 exact⟨vb,fp,tp,h1.keep (λi hi=>hs _ (by rw[Qi];exact hF i Zi)),zel (λp hp=>by obtain⟨b,hb,hp⟩:=Ki.1 hp;exact ht b hb p hp) h2 λx hx=>hs x (h5 x hx),h3,h4,h5⟩
theorem JRb.good {m:Nat}{bs:Nat->Nat}{bx:X->Bxs}{cs:List (List T)}{R0:Nat->Prop}(hm:∀x,(bx x).length=m)(ht:∀x,∀b∈bx x,∀p∈b,p.1=true){x:X}{J:Hj}(h:JRb m bs bx cs R0 x J):GoodJ J:=by
 obtain⟨rfl,h2,h3,h4⟩:=h
 refine⟨h3,λw w' hs hi=>?_⟩
 rw[h4]at hi⊢
 exact⟨hi.1.keep (hm x) (ht x) h2 λb hb=>hs b (Or.inl hb),hi.2.keep λb hb=>hs b (Or.inr hb)⟩
theorem see_of {P:Program}{g:FuncId}{bx:X->Bxs}{m:Nat}(hm:∀x,(bx x).length=m)(ht:∀x,∀b∈bx x,∀p∈b,p.1=true){cs:List (List T)}{js:List Nat}(hjs:∀j∈js,j<m+cs.length){Inv:X->Prop}{okl:List Tm->Prop}{st:X->List Tm->Bool×X}(hcal:za8 P g)
  (hinv:∀x l,Inv x->okl l->(st x l).1=true->Inv (st x l).2) (HS:∀x l,Inv x->okl l->PC P g (bx x) (.d false (.one (tmS l))::js.map (qg6 m cs)) (bx (st x l).2) [(true,.one (.bool (st x l).1))])
  {bs:Nat->Nat} (hbi:∀i j,i<m->j<m->bs i=bs j->i=j) (R0:Nat->Prop):SeeC P g (js.map λj=>zl7 (bs j)) (JRb m bs bx cs R0) R0 Inv okl st:=by
 refine⟨hcal,λx J h=>h.1,λx J h=>h.good hm ht,hinv,λx J l hJ hi ho w v hI hF hR hv=>?_⟩
 have hJ0:=hJ
 obtain⟨hJR,hJF,hJd,hJI⟩:=hJ
 rw[hJI]at hI
 obtain⟨⟨vb,fp,tp,i1,i2,i3,i4,i5⟩,ip⟩:=hI
 have hp:∀y,y<w.heap.size->¬J.F y->(y<w.heap.size/\y∉fp/\∀j,j<(bx x).length->y≠bs j)/\True:=λy h1 h2=>⟨⟨h1,λq=>h2 (i5 y q),λj hj e=>h2 (e▸hJF j (by rw[<-hm x];exact hj))⟩,trivial⟩
 have hptr:zbc w (λy=>(y<w.heap.size/\y∉fp/\∀j,j<(bx x).length->y≠bs j)/\True) ((js.filter λj=>!decide (j<m)).map λj=>.one (.ptr (cs.getD (j-m) []))) ((js.filter λj=>!decide (j<m)).map λj=>zl7 (bs j)):=by
  have:∀l:List Nat,(∀j∈l,m<=j/\j<m+cs.length)->zbc w (λy=>(y<w.heap.size/\y∉fp/\∀j,j<(bx x).length->y≠bs j)/\True) (l.map λj=>.one (.ptr (cs.getD (j-m) []))) (l.map λj=>zl7 (bs j)):=by
   intro l;induction l with
   | nil=>intro _;rfl
   | cons j l ih =>
    intro h;obtain⟨a1,a2⟩:=h j (by simp);refine⟨_,_,rfl,?_,ih λq hq=>h q (by simp[hq])⟩;have:=ip (j-m) Zi;rw[show m+(j-m)=j by omega]at this;exact zai.keep (λ_ _=>rfl) (λb hb=>hp b (hR b (by rw[hJR];exact hb)) (hJd b hb)) _ _ this
  refine this _ λj hj=>?_;obtain⟨h1,h2⟩:=Kp.1 hj;exact⟨by simpa using h2,hjs j h1⟩
 have hds:AF.ds (AF.d false (.one (tmS l))::js.map (qg6 m cs))=rd (.one (tmS l)::(js.filter λj=>!decide (j<m)).map λj=>.one (.ptr (cs.getD (j-m) []))):=by
  rw[AF.ds,zvu];rfl
 have H:=(HS x l hi ho).2.2 w bs vb (v::(js.filter λj=>!decide (j<m)).map λj=>zl7 (bs j)) fp tp (λ_=>True) (λi j hi hj=>hbi i j (by rw[<-hm x];exact hi) (by rw[<-hm x];exact hj)) (λj hj=>i4 j (by rw[<-hm x];exact hj)) i1 (by
  rw[hds];refine zaw.rd_append (zaw.keepA (λ_ q=>q.elim) i2) ?_
  exact⟨v,_,rfl,zai.keep (λ_ _=>rfl) (λb hb=>hp b hb.1 hb.2) _ _ hv,hptr⟩) i3 (by rw[hds];simp[rd])
 rw[AF.vals,zlv]at H
 refine H.mono ?_
 rintro e w' ⟨us,vb',fp',tp',rfl,o1,o2,o3,o4,o5,o6⟩
 obtain⟨u,us',f1,f2,t1,t2,e1,rfl,rfl,⟨g1,-⟩,g2⟩:=o3
 obtain⟨u0,rfl⟩:∃u0,us=[u0]:=by
  cases us with
  | nil=>simp at o2
  | cons u0 us=>cases us with
   | nil=>exact⟨u0,rfl⟩
   | cons _ _=>simp at o2
 simp only[Kt,Jf,Jv]at e1
 obtain⟨rfl,rfl⟩:=e1
 unfold zas at g1
 obtain⟨rfl,rfl⟩:=g1
 rw[Jf]at o4 o5
 have hsz:=o6.size
 refine⟨⟨λy=>J.F y\/(w.heap.size<=y/\y<w'.heap.size),R0,λw''=>qpu m bs (bx (st x l).2) (λy=>J.F y\/(w.heap.size<=y/\y<w'.heap.size)) w''/\qs1 m bs cs R0 w''⟩,rfl,?_,?_⟩
 ·exact⟨rfl,λj hj=>Or.inl (hJF j hj),λy hy h=>h.elim (hJd y hy) λq=>by have:=hR y (by rw[hJR];exact hy);omega,rfl⟩
 ·refine⟨?_,⟨⟨vb',f2,t2,o1,zel (λp hp=>by obtain⟨b,hb,hp⟩:=Ki.1 hp;exact ht _ b hb p hp) g2 (λ_ _=>rfl),o4,λj hj hf=>?_,λb hb=>?_⟩,ip.keep λb hb=>?_⟩,λy hy=>?_,λy hy=>by rw[hJR];exact hy,?_⟩
  ·exact JRb.good (X:=X) (R0:=R0) (bs:=bs) (cs:=cs) hm ht (x:=(st x l).2) ⟨rfl,λj hj=>Or.inl (hJF j hj),λy hy h=>h.elim (hJd y hy) λq=>by have:=hR y (by rw[hJR];exact hy);omega,rfl⟩
  ·rcases o5 _ hf with q|q
   ·exact i4 j hj q
   ·have:=hF _ (hJF j hj);omega
  ·rcases o5 b hb with q|q
   ·exact Or.inl (i5 b q)
   ·refine Or.inr ⟨q,?_⟩;exact zn3 (λp hp=>by obtain⟨b,hb,hp⟩:=Ki.1 hp;exact ht _ b hb p hp) g2 b hb
  ·exact o6.block b (hp b (hR b (by rw[hJR];exact hb)) (hJd b hb)).1
  ·rcases hy with q|q
   ·exact⟨Or.inl q,Je (hF y q) hsz⟩
   ·exact⟨Or.inr q.1,q.2⟩
  ·exact⟨o6.os,o6.tape,o6.output,o6.size,λy hy=>o6.block y (hp y hy.1 hy.2).1⟩
theorem zyh {w:World}{A:Nat->Prop}:∀{ds:List D}{vs:List Value},zbc w A ds vs->zaw w A (rd ds) vs [] []
 | [],_,h=>⟨h,rfl,rfl⟩
 | _::_,_,h=>by obtain⟨v,vs',rfl,h1,h2⟩:=h;exact⟨v,vs',rfl,h1,zyh h2⟩
theorem zle {g:FuncId}{bx:X->Bxs}{m:Nat}(hm:∀x,(bx x).length=m)(ht:∀x,∀b∈bx x,∀p∈b,p.1=true)(cs:List (List T)){js:List Nat}(hjs:∀j∈js,j<m+cs.length){Inv:X->Prop}{okl:List Tm->Prop}{st:X->List Tm->Bool×X}(hcal:za8 Tryz.prog g)
  (hinv:∀x l,Inv x->okl l->(st x l).1=true->Inv (st x l).2) (HS:∀x l,Inv x->okl l->PC Tryz.prog g (bx x) (.d false (.one (tmS l))::js.map (qg6 m cs)) (bx (st x l).2) [(true,.one (.bool (st x l).1))])
  (ts:List Tm) (hts:ts.length<=1048576) (n:Nat) (hn:n<=1048576) (hok:∀l:List Tm,l.length=n->(∀t∈l,t∈ts)->okl l) (x:X) (hx:Inv x) :
  PC Tryz.prog 95 (bx x++csB cs) [.d false (.one (tmS ts)),.d false (.one (.int .i64 n)),.fn g js] (bx (zgh ts n st x).2++csB cs) [(true,.one (.bool (zgh ts n st x).1))]:=by
 refine⟨Tryz.call95,by rw[Qb,Qb,hm,hm],λw bs bvs dvs fp tp A hinj hnf hB hG hnd hdl=>?_⟩
 have hlen:(bx x++csB cs).length=m+cs.length:=by rw[Qb,hm];simp[csB]
 rw[hlen]at hinj hnf hG⊢
 obtain⟨b1,b2,rfl,B1,B2⟩:=zfd.split hB
 obtain⟨v1,v2,rfl⟩:∃v1 v2,dvs=[v1,v2]:=by
  match dvs,hdl with
  | [a,b],_=>exact⟨a,b,rfl⟩
 obtain⟨_,_,e1,r1,_,_,e2,r2,hG⟩:=hG
 simp only[Kt,Jf,Jv]at e1
 obtain⟨rfl,rfl⟩:=e1
 simp only[Jv]at e2
 obtain⟨rfl,rfl⟩:=e2
 rw[Kq,Kq,zdt]at hG
 replace hG:zaw w _ (bxA (bx x).flatten++bxA (csB cs).flatten) (b1.flatten++b2.flatten) fp tp:=hG
 obtain⟨g1,g2,f1,f2,t1,t2,e3,rfl,rfl,hG1,hG2⟩:=hG.split
 obtain⟨rfl,rfl⟩:b1.flatten=g1/\b2.flatten=g2:=Yv e3 (by rw[B1.flatLen,hG1.len,bxA,Qa])
 rw[qin]at hG2
 obtain⟨hC,rfl,rfl⟩:=zdf hG2
 simp only[Kh]at *
 generalize hA':(λk=>(k<w.heap.size/\k∉f1/\∀j,j<m+cs.length->k≠bs j)/\A k)=A' at *
 have hAe:∀k,A' k->(k<w.heap.size/\k∉f1/\∀j,j<m+cs.length->k≠bs j)/\A k:=λk hk=>by rw[<-hA']at hk;exact hk
 have hlt:∀j,j<m+cs.length->bs j<w.heap.size:=λj hj=>by have:=hB.lt j (by rw[hlen];exact hj);rwa [Qi]at this
 have ho1:=zn3 (λp hp=>by obtain⟨b,hb,hp⟩:=Ki.1 hp;exact ht x b hb p hp) hG1
 rw[Qi,hm]at B2
 have hcp:=zs7 B2 hC
 have S:=see_of hm ht hjs hcal hinv HS (bs:=bs) (λi j hi hj=>hinj i j Zi Zi) (λk=>A' k\/∃j,m<=j/\j<m+cs.length/\k=bs j)
 have hRd:∀y,(A' y\/∃j,m<=j/\j<m+cs.length/\y=bs j)->y<w.heap.size/\¬(y∈f1\/∃j,j<m/\y=bs j):=by
  rintro y (hy|⟨j,h1,h2,rfl⟩)
  ·obtain⟨⟨a1,a2,a3⟩,_⟩:=hAe y hy;exact⟨a1,λq=>q.elim a2 λ⟨j,hj,e⟩=>a3 j Zi e⟩
  ·exact⟨hlt j h2,λq=>q.elim (λq=>hnf j h2 q) λ⟨i,hi,e⟩=>by have:=hinj j i h2 Zi e;omega⟩
 have hJ:JRb m bs bx cs (λk=>A' k\/∃j,m<=j/\j<m+cs.length/\k=bs j) x ⟨λy=>y∈f1\/∃j,j<m/\y=bs j,λk=>A' k\/∃j,m<=j/\j<m+cs.length/\k=bs j,λw'=>qpu m bs (bx x) (λy=>y∈f1\/∃j,j<m/\y=bs j) w'/\qs1 m bs cs (λk=>A' k\/∃j,m<=j/\j<m+cs.length/\k=bs j) w'⟩:=⟨rfl,λj hj=>Or.inr ⟨j,hj,rfl⟩,λy hy=>(hRd y hy).2,rfl⟩
 have hI:qpu m bs (bx x) (λy=>y∈f1\/∃j,j<m/\y=bs j) w/\qs1 m bs cs (λk=>A' k\/∃j,m<=j/\j<m+cs.length/\k=bs j) w:=by
  refine⟨⟨b1,f1,t1,B1,zel (λp hp=>by obtain⟨b,hb,hp⟩:=Ki.1 hp;exact ht x b hb p hp) hG1 (λ_ _=>rfl),hnd,λj hj=>hnf j Zi,λb hb=>Or.inl hb⟩,λi hi=>?_⟩;obtain⟨vs,ty,q1,q2⟩:=hcp i hi;exact qqp (λb hb=>Or.inl hb) (Or.inr ⟨m+i,Zi,Zi,rfl⟩) q1 q2
 have hF0:∀y,(y∈f1\/∃j,j<m/\y=bs j)->y<w.heap.size/\¬A' y:=by
  rintro y (q|⟨j,hj,rfl⟩)
  ·exact⟨ho1 y q,λhq=>(hAe y hq).1.2.1 q⟩
  ·exact⟨hlt j Zi,λhq=>(hAe _ hq).1.2.2 j Zi rfl⟩
 have H:=(zu1 ts hts n hn S hok hJ hx).2 w [_,_,.func (.func g) #[] ⟨js.map λj=>zl7 (bs j)⟩] A' (hJ.good hm ht) hI hF0 (λy hy=>(hRd y hy).1) ⟨_,_,rfl,zai.keep (λ_ _=>rfl) (λb hb=>⟨(hAe b hb).1.1,hb⟩) _ _ r1,_,_,rfl,zai.keep (λ_ _=>rfl) (λb hb=>⟨(hAe b hb).1.1,hb⟩) _ _ r2,_,_,rfl,by show zai _ _ _ _;unfold zai;rfl,rfl⟩
 refine H.mono ?_
 rintro e w' ⟨b,J',rfl,⟨rfl,k1,k2,k3,k4⟩,kE⟩
 have hI':=kE.I
 rw[k4]at hI'
 obtain⟨⟨vb,fp',tp',j1,j2,j3,j4,j5⟩,jp⟩:=hI'
 have hsame:∀y,y<w.heap.size->¬(y∈f1\/∃j,j<m/\y=bs j)->w'.heap[y]?=w.heap[y]?:=λy h1 h2=>kE.bk.block y ⟨h1,h2⟩
 have hA2:∀k,A' k->(k<w'.heap.size/\k∉fp'/\∀j,j<m+cs.length->k≠bs j)/\(A k\/w.heap.size<=k\/k∈f1):=λk hk=>by
  obtain⟨⟨a1,a2,a3⟩,a4⟩:=hAe k hk;exact⟨⟨Je a1 kE.bk.size,λq=>k3 k (Or.inl hk) (j5 k q),a3⟩,Or.inl a4⟩
 refine⟨[_],vb++b2,fp',tp',rfl,zfd.append j1 ?_,rfl,?_,j3,λb hb=>?_,⟨kE.bk.os,kE.bk.tape,kE.bk.output,kE.bk.size,λk hk=>hsame k hk.1 λq=>q.elim hk.2.1 λ⟨j,hj,e⟩=>hk.2.2 j Zi e⟩⟩
 ·rw[Qi,hm];exact B2.keep λi hi=>hsame _ (hlt _ (by simp[csB]at hi;omega)) (hRd _ (Or.inr ⟨m+i,Zi,by simp[csB]at hi;omega,rfl⟩)).2
 ·rw[Kq,Kq,zdt,qin];have q1:zaw w' (λk=>(k<w'.heap.size/\k∉fp'/\∀j,j<m+cs.length->k≠bs j)/\(A k\/w.heap.size<=k\/k∈f1)) (bxA (bx (zgh ts n st x).2).flatten) vb.flatten fp' tp':=zel (λp hp=>by obtain⟨b,hb,hp⟩:=Ki.1 hp;exact ht _ b hb p hp) j2 (λ_ _=>rfl);have q2:=q1.append (zyh (zbc.keep (λb hb=>hsame b (hAe b hb).1.1 (hRd b (Or.inl hb)).2) hA2 hC));rw[Kh,Kh]at q2;exact⟨_,_,[],fp',[],tp',rfl,rfl,rfl,⟨by unfold zas;exact⟨rfl,rfl⟩,rfl⟩,q2⟩
 ·rcases(kE.F b (j5 b hb)).1 with(q|⟨j,hj,rfl⟩)|q
  ·exact Or.inl q
  ·exact absurd hb (j4 j hj)
  ·exact Or.inr q
end Go.Proofs.YtmhbmpbgpjljeaaGreat
namespace Go.Proofs.YtmhbmpbgpjljeaaGreat
set_option linter.unusedSimpArgs false
set_option linter.unusedVariables false
set_option linter.unusedSectionVars false
set_option maxRecDepth 4000
open Go.RowKit
theorem zgx.wkA {P:Program}{N:Nat}{c:Code}{σ σ':St}{Q:Exit->St->Prop}(h:Wk σ σ')(k:zgx P N c σ' Q):zgx P N c σ Q:=λn0 w0 A0 g a w h1 h2 h3 h4=>by
 obtain⟨g',r1,r2,r3⟩:=h n0 N g a w h1
 exact k n0 w0 A0 g' a w r1 h2 h3 (by rw[r2,r3];exact h4)
theorem qm1 (t:Tm)(hw:t.wt<=1048576):FC Tryz.prog 123 [tmD t] [bD (!grT t)]:=by
 have H:=zmn t hw
 simp only[tmD,zaa]at H⊢
 refine zam Tryz.call123 Tryz.func123 rfl Zh (zat Zh) ?_
 simp -implicitDefEqProofs only[go_sem,Tryz.results123]
 refine callF (H) Zg ?_
 exact Zg
def clL (c:Cq)(ps:List (Str×Tm)):List Li:=c.lits.map λl=>⟨l.pos,rvT ps l.atom⟩
noncomputable def giS (c:Cq)(ns:List Str)(x:List Cq)(l:List Tm):Bool×List Cq :=
 (zjj (clL c (ns.zip l)),if zjj (clL c (ns.zip l))=true/\(x.any λa=>same a (mkC (clL c (ns.zip l))))=false then x++[mkC (clL c (ns.zip l))]else x)
set_option maxHeartbeats 4000000 in
theorem qpi (c:Cq)(ns:List Str)(hnd:ns.Nodup)(x:List Cq)(l:List Tm)(hl:l.length=ns.length)(hx:x.length<=1048576)(hns:ns.length<=1048576)(hcw:c.wt<=1048576)(hlw:∀t∈l,t.wt<=1048576)(hLw:zgb (clL c (ns.zip l))<=1048576) :
  PC Tryz.prog 126 [[(true,cqS x)]] (.d false (.one (tmS l))::[1,2,0].map (qg6 1 [[zfg ns],cqC c])) [[(true,cqS (giS c ns x l).2)]] [(true,.one (.bool (giS c ns x l).1))]:=by
 have hcl:c.lits.length<=1048576:=by have:=c.wt_eq;unfold zgb at this;omega
 have hll:∀q∈c.lits,q.wt<=1048576:=λq hq=>Q8 (zf1 hq) hcw
 show PC _ _ _ [.d false (.one (tmS l)),.d false (.one (.ptr [zfg ns])),.d false (.one (.ptr (cqC c))),.p 0] _ _
 simp only[zap]
 refine qox Tryz.call126 Tryz.func126 rfl (by simp only[Qj,Qo,Tryz.ntmps126];omega) (by simp only[Tryz.ntmps126];omega) rfl rfl (by simp[zb6,T.isPin,AF.ds,bxA]) (by simp[gFS,T.fs,T.flat,AF.ds,bxA]) rfl ?_
 refine zgx.wkA (σ':=hd [(0,.one (.rn (tmS l))),(1,vT (.ptr [zfg ns])),(2,vT (.ptr [liS c.lits])),(3,.one (.bx 1000000 0)),(1000000,.one (.bx 1000000 0))] [(1000000,[.ow 96 0])] [(96,⟨true,1,x.map cqC,0,true⟩)]) (zab ?_) ?_
 ·exact Zg
 refine zgx.cut 0 rfl Zh ?_
 simp -implicitDefEqProofs only[go_sem,Tryz.results126]
 refine zgx.scope true rfl rfl rfl (by simp only[Tryz.ntmps126];omega) ?_
 intro b
 refine zfh.cut 0 rfl Zh ?_
 refine Zj ?_
 refine zfh.block ?_
 refine zfh.loop (λj:Nat=>hd [(0,.one (.rn (tmS l))),(1,vT (.ptr [zfg ns])),(2,vT (.ptr [liS c.lits])),(3,.one (.bx 1000000 0)),(1000000,.one (.bx 1000000 0)),(6,.one (.cv (.map (some b)))),(15,vT (zfg ns)),(16,vI ns.length),(17,vI j)] [(1000000,[.ow 96 0])] [(96,⟨true,1,x.map cqC,0,true⟩)])
  (λj=>((ns.zip l).take j).map bnC) (λj=>j<=ns.length) (λj=>ns.length-j) 0 (zab ?_) rfl (Qy _) ?_
 ·exact Zg
 intro j hj
 refine zfh.cut 1 rfl Zh ?_
 by_cases hlj:j<ns.length
 ·have hlj2:j<l.length:=by omega
  have hzl:j<(ns.zip l).length:=by rw[List.length_zip];omega
  have hfr:zdy (.str ns[j]) (((ns.zip l).take j).map bnC)=some none:=by
   rw[zic,List.find?_eq_none.2]
   ·rfl
   ·intro p hp e;obtain⟨i,hi,rfl⟩:=Js hp;rw[Qc]at hi;rw[Yz,List.getElem_zip,Jo]at e;have:=qcx hnd Zi hlj e;omega
  have hrow:((ns.zip l).take (j+1)).map bnC=((ns.zip l).take j).map bnC++[[.str ns[j],.str l[j].name,.sl 2 (l[j].args.map tmC)]]:=by
   rw[Qg hzl,Qq,Q7,List.getElem_zip,zxg]
  generalize ((ns.zip l).take j).map bnC=R at hfr hrow⊢;refine Zk hlj ?_;refine zfh.seq ?_;refine zfh.block ?_;refine zfh.cut 0 rfl Zh ?_;refine Zx hlj ?_;refine zfh.upd 6 rfl rfl rfl Zh ?_;simp -implicitDefEqProofs only[go_sem,zac,hlj,hlj2,zaa l[j],hfr,Tryz.underlying162,Tryz.underlying9];refine zfh.ofEx Zh ?_;refine Zj ?_;refine⟨j+1,hlj,Zi,hrow,zab ?_⟩;refine Zj ?_;rw[zaf Zi]
 have htz:(ns.zip l).take j=ns.zip l:=Ql (by rw[List.length_zip];omega)
 have hps:∀p∈ns.zip l,p.2.wt<=1048576:=λp hp=>hlw p.2 (List.of_mem_zip hp).2
 have HM:=zru (clL c (ns.zip l)) hLw
 have hcll:(clL c (ns.zip l)).length=c.lits.length:=by unfold clL;simp
 have HH:=zln x (mkC (clL c (ns.zip l)))
 refine Zr hlj htz ?_
 refine zgx.ofEx Zh ?_
 refine Zj ?_
 refine za2 Zg ?_
 refine Zj ?_
 refine zad (λk:Nat=>hd [(3,.one (.bx 1000000 0)),(1000000,.one (.bx 1000000 0)),(6,vT (mpS (ns.zip l))),(9,.one (.ow 928 0)),(31,vT (liS c.lits)),(32,vI c.lits.length),(33,vI k)] [(1000000,[.ow 96 0])] [(96,⟨true,1,x.map cqC,0,true⟩),(928,⟨true,3,((clL c (ns.zip l)).take k).map liC,0,true⟩)]) (λk=>k<=c.lits.length) (λk=>c.lits.length-k) 0 (zab ?_) (Qy _) ?_
 ·refine Zj ?_;rfl
 intro k hk
 by_cases hlt:k<c.lits.length
 ·have hmin:min k (clL c (ns.zip l)).length<=4294967295:=by omega
  have HR:=zny (ns.zip l) hps c.lits[k].atom (hll _ (Qe hlt));have hrow:((clL c (ns.zip l)).take (k+1)).map liC=((clL c (ns.zip l)).take k).map liC++[[.bool c.lits[k].pos,.str (rvT (ns.zip l) c.lits[k].atom).name,.sl 2 ((rvT (ns.zip l) c.lits[k].atom).args.map tmC)]]:=by
   rw[Qg Zi,Qq,Q7];unfold clL;rw[Ym];rfl
  simp only[tmD,zaa c.lits[k].atom,zaa (rvT (ns.zip l) c.lits[k].atom)]at HR;refine Zm hlt (zaj c.lits[k]) ?_;refine drawn Zh ?_;refine Zj ?_;refine za1 (HR) Zg ?_;refine Zj ?_;refine za7 Zg ?_;refine Zj ?_;refine zcx true (Z5 hmin) ?_;refine Z6 hmin ?_;refine⟨Zh,k+1,hlt,Zi,zab ?_⟩;refine Zj ?_;rw[zaf Zi,hrow]
  trivial
 have ht:(clL c (ns.zip l)).take k=clL c (ns.zip l):=Ql Zi
 rw[ht]
 unfold giS
 simp only[cqD,zap]at HM HH
 generalize zjj (clL c (ns.zip l))=ok at HM⊢
 generalize mkC (clL c (ns.zip l))=q at HM HH⊢
 cases ok
 ·simp only[Qz,false_and,if_false];refine Xo ?_;refine callF (HM) Zg ?_;exact Zg
 ·simp only[true_and,ifC,if_true]at HM⊢;generalize (x.any λa=>same a q)=kn at HH⊢;cases kn
  ·simp only[if_true];have hx2:x.length<=4294967295:=by omega
   refine Xo ?_;refine callF (HM) Zg ?_;refine Zj ?_;refine callF (HH) Zg ?_;refine Zj ?_;refine za2 Zg ?_;refine Zj ?_;refine apD true (Zu hx2) ?_;refine Zv hx2 ?_;refine Or.inl (Or.inl ?_);rw[Qq,Q7];rfl
  ·simp only[Bool.true_eq_false,if_false];refine Xo ?_;refine callF (HM) Zg ?_;refine Zj ?_;refine callF (HH) Zg ?_;exact Zg
end Go.Proofs.YtmhbmpbgpjljeaaGreat
namespace Go.Proofs.YtmhbmpbgpjljeaaGreat
set_option linter.unusedSimpArgs false
set_option linter.unusedVariables false
set_option linter.unusedSectionVars false
set_option maxRecDepth 4000
open Go.RowKit
section
variable {X:Type}
def zco (ts:List Tm):Nat->List (List Tm)
 | 0=>[[]]
 | n+1=>(zco ts n).flatMap λl=>ts.map λt=>l++[t]
def runT (st:X->List Tm->Bool×X):List (List Tm)->X->Bool×X
 | [],x=>(true,x)
 | l::ls,x=>if(st x l).1=true then runT st ls (st x l).2 else (false,(st x l).2)
theorem zry (st:X->List Tm->Bool×X):∀(ts:List Tm)(x:X)(l:List Tm),zfe st ts x l=runT st (ts.map λt=>l++[t]) x
 | [],_,_=>rfl
 | t::ts,x,l=>by rw[zfe,Qk,runT,zry st ts]
theorem zkt (st:X->List Tm->Bool×X):∀(a b:List (List Tm))(x:X),runT st (a++b) x=if(runT st a x).1=true then runT st b (runT st a x).2 else (false,(runT st a x).2)
 | [],b,x=>rfl
 | l::a,b,x=>by
  rw[Kt,runT,runT];by_cases h:(st x l).1=true
  ·rw[if_pos h,if_pos h];exact zkt st a b _
  ·rw[if_neg h,if_neg h];rfl
theorem zql (st:X->List Tm->Bool×X)(ts:List Tm):∀(ls:List (List Tm))(x:X),runT (zfe st ts) ls x=runT st (ls.flatMap λl=>ts.map λt=>l++[t]) x
 | [],_=>rfl
 | l::ls,x=>by
  rw[runT,Kx,zkt,zry,zql st ts ls]
theorem zko (ts:List Tm):∀(n:Nat)(st:X->List Tm->Bool×X)(x:X),zgh ts n st x=runT st (zco ts n) x
 | 0,st,x=>by
  rw[zgh,zco,runT,runT];by_cases h:(st x []).1=true
  ·rw[if_pos h];exact Prod.ext h rfl
  ·rw[if_neg h];exact Prod.ext (by simpa using h) rfl
 | n+1,st,x=>by rw[zgh,zko ts n,zql];rfl
end
theorem zcg (ts:List Tm):∀(n:Nat)(l:List Tm),l∈zco ts n↔l.length=n/\∀t∈l,t∈ts
 | 0,l=>by
  simp only[zco,Qv];exact⟨λh=>by subst h;exact⟨rfl,by simp⟩,λh=>Jh h.1⟩
 | n+1,l=>by
  simp only[zco,Jw,Ka];constructor
  ·rintro⟨a,ha,t,ht,rfl⟩;obtain⟨h1,h2⟩:=(zcg ts n a).1 ha;refine⟨by simp[h1],λu hu=>?_⟩;rcases Qt.1 hu with hu|hu
   ·exact h2 u hu
   ·rw[Qv.1 hu];exact ht
  ·rintro⟨h1,h2⟩;have hne:l≠[]:=λh=>by rw[h]at h1;cases h1
   refine⟨l.dropLast,(zcg ts n _).2 ⟨by simp[h1],λt ht=>h2 t ((List.dropLast_sublist l).subset ht)⟩,l.getLast hne,h2 _ (List.getLast_mem hne),List.dropLast_concat_getLast hne⟩
theorem zg8 (ts:List Tm):∀n:Nat,(zco ts n).length=ts.length^n
 | 0=>rfl
 | n+1=>by
  have:∀L:List (List Tm),(L.flatMap λl=>ts.map λt=>l++[t]).length=L.length*ts.length:=by
   intro L;induction L with
   | nil=>simp
   | cons l L ih=>rw[Kx,Qb,ih,Qa,Qj,Km];omega
  rw[zco,this,zg8 ts n,Nat.pow_succ]
theorem zwk {α:Type}:∀{x y:List α},x.Nodup->(∀a∈x,a∈y)->x.length<=y.length
 | [],_,_,_=>Qy _
 | a::x,y,hn,h=>by
  obtain⟨s,t,rfl⟩:=List.append_of_mem (h a (by simp));obtain⟨h1,h2⟩:=Jc.1 hn;have:=zwk (x:=x) (y:=s++t) h2 λb hb=>by
   have:=h b (by simp[hb]);simp only[Qt,Qs]at this⊢;rcases this with q|rfl|q
   ·exact Or.inl q
   ·exact absurd hb h1
   ·exact Or.inr q
  simp only[Qb,Qj]at this⊢;omega
noncomputable def zdv (x:List Cq)(q:Cq):List Cq:=if(x.any λa=>same a q)=true then x else x++[q]
noncomputable def zsc (c:Cq)(ns:List Str)(L:List (List Tm)):Bool:=L.all λl=>zjj (clL c (ns.zip l))
noncomputable def giR (c:Cq)(ns:List Str)(L:List (List Tm))(x:List Cq):List Cq:=L.foldl (λx l=>zdv x (mkC (clL c (ns.zip l)))) x
theorem qn8 {c:Cq}{ns:List Str}{x:List Cq}{l:List Tm}(h:zjj (clL c (ns.zip l))=true):giS c ns x l=(true,zdv x (mkC (clL c (ns.zip l)))):=by
 unfold giS zdv
 rw[h]
 cases ha:(x.any λa=>same a (mkC (clL c (ns.zip l))))<;>simp
theorem qhi (c:Cq)(ns:List Str):∀(L:List (List Tm))(x:List Cq),(runT (giS c ns) L x).1=zsc c ns L/\(zsc c ns L=true->(runT (giS c ns) L x).2=giR c ns L x)
 | [],x=>⟨rfl,λ_=>rfl⟩
 | l::L,x=>by
  rw[runT];cases h:zjj (clL c (ns.zip l))
  ·have h1:(giS c ns x l).1=false:=h;have h2:zsc c ns (l::L)=false:=by unfold zsc;rw[Jl,h];rfl
   rw[h1,if_neg (by simp),h2];exact⟨rfl,λh=>by cases h⟩
  ·have h2:zsc c ns (l::L)=zsc c ns L:=by unfold zsc;rw[Jl,h];rfl
   rw[qn8 h,if_pos rfl,h2];exact qhi c ns L _
def zok (c:Cq)(ns:List Str)(ts:List Tm)(x:List Cq):Prop:=x.Nodup/\∀q∈x,q∈(zco ts ns.length).map λl=>mkC (clL c (ns.zip l))
theorem zok.len {c:Cq}{ns:List Str}{ts:List Tm}{x:List Cq}(h:zok c ns ts x):x.length<=ts.length^ns.length:=by
 have:=zwk h.1 h.2
 rwa [Qa,zg8]at this
theorem zok.put {c:Cq}{ns:List Str}{ts:List Tm}{x:List Cq}(h:zok c ns ts x){l:List Tm}(hl:l∈zco ts ns.length):zok c ns ts (zdv x (mkC (clL c (ns.zip l)))):=by
 unfold zdv
 split
 ·exact h
 ·rename_i ha;have ha:∀a∈x,a≠mkC (clL c (ns.zip l)):=λa hm e=>ha (Ju.2 ⟨a,hm,za9.2 e⟩);refine⟨Kk.2 ⟨h.1,by simp,λa hm b hb=>by rw[Qv.1 hb];exact ha a hm⟩,λq hq=>?_⟩;rcases Qt.1 hq with hq|hq
  ·exact h.2 q hq
  ·rw[Qv.1 hq];exact Ka.2 ⟨l,hl,rfl⟩
theorem zok.step {c:Cq}{ns:List Str}{ts:List Tm}{x:List Cq}{l:List Tm}(h:zok c ns ts x)(hl:l∈zco ts ns.length)(ho:(giS c ns x l).1=true):zok c ns ts (giS c ns x l).2:=by
 rw[qn8 (c:=c) (ns:=ns) (x:=x) (l:=l) ho]
 exact h.put hl
end Go.Proofs.YtmhbmpbgpjljeaaGreat
namespace Go.Proofs.YtmhbmpbgpjljeaaGreat
set_option linter.unusedSimpArgs false
set_option linter.unusedVariables false
set_option linter.unusedSectionVars false
set_option maxRecDepth 4000
open Go.RowKit
theorem zh3 (c:Cq)(hc:c.ok=true)(hw:c.wt<=1048576):FC Tryz.prog 125 [cqD c] [.one (zfg (zc6 [] c.vo))]:=by
 have HN:=zp9 c hc hw
 have hl:=zxn c
 rw[qsx hc]at HN
 have HS:=qed (zb1 [] c.vo) (by have:=zib c.vo;omega)
 rw[zjz]at HS
 simp only[cqD,zap]at HN⊢
 refine zcc Tryz.call125 Tryz.func125 rfl Zh (zat Zh) ?_
 simp -implicitDefEqProofs only[go_sem,Tryz.results125]
 refine callF (HN) Zg ?_
 refine Zj ?_
 refine callIs (HS) Xm Xm rfl ?_
 exact Xm
theorem ztp (ss:List Str):(zc6 [] ss).Nodup:=by
 rw[<-zjz]
 exact(Yl _ leB).nodup_iff.2 (zoa ss Kn)
noncomputable def vaC (c:Cq):List Str:=zc6 [] c.vo
theorem qh2 (c:Cq):(vaC c).length<=c.wt:=Q8 (znm c.vo) (zxn c)
theorem zyu {c:Cq}(hc:c.ok=true){ps:List (Str×Tm)}(hg:Grd ps):zgb (clL c ps)<=1048576:=by
 have h1:=zfq hc
 have h2:∀l∈clL c ps,l.wt<=16000:=λl hl=>by
  unfold clL at hl;obtain⟨q,hq,rfl⟩:=Ka.1 hl;have ha:=zcp hc q hq;show(rvT ps q.atom).wt<=_
  rw[zrv ps hg.v (zmz ha)];have h5:=qqf ps 240 (λp hp=>zpc (hg.g p hp).1) q.atom;have h6:=zsa ha;have h7:q.atom.nodes<=30:=by
   rw[zls,Qd]at ha;have h8:=ha.2;unfold zc7 at h8;simp only[Qd,Q0]at h8;exact h8.1
  omega
 have h3:(clL c ps).length=c.lits.length:=by unfold clL;simp
 have h4:∀L:List Li,(∀l∈L,l.wt<=16000)->(L.map Li.wt).sum<=L.length*16000:=by
  intro L;induction L with
  | nil=>intro _;simp
  | cons l L ih =>
   intro h;have:=ih λq hq=>h q (by simp[hq]);have:=h l (by simp);simp only[Qk,Jd,Qj];omega
 have:=h4 _ h2
 unfold zgb
 omega
end Go.Proofs.YtmhbmpbgpjljeaaGreat
namespace Go.Proofs.YtmhbmpbgpjljeaaGreat
set_option linter.unusedSimpArgs false
set_option linter.unusedVariables false
set_option linter.unusedSectionVars false
set_option maxRecDepth 4000
open Go.RowKit
theorem voS_ok:∀a:Tm,∀n∈voS a,zax n=true:=zbb λm xs ih n hn=>by
 rw[znr]at hn
 split at hn
 ·rename_i h;rw[Qv.1 hn];exact h
 ·obtain⟨l,hl,hn⟩:=Ki.1 hn;obtain⟨a,ha,rfl⟩:=Ka.1 hl;exact ih a ha n hn
theorem qoh (c:Cq):∀n∈vaC c,zax n=true:=λn hn=>by
 unfold vaC at hn
 rw[zlc]at hn
 have hn:=hn.resolve_right (by simp)
 obtain⟨l,hl,hn⟩:=Ki.1 hn
 obtain⟨a,ha,rfl⟩:=Ka.1 hl
 exact voS_ok _ n hn
noncomputable def giP (c:Cq)(ts:List Tm):Bool:=c.ok&&decide (ts.length<=60)&&ts.all grT
noncomputable def giB (c:Cq)(ts:List Tm):Bool:=giP c ts&&decide (ts.length^(vaC c).length<=60)&&zsc c (vaC c) (zco ts (vaC c).length)
noncomputable def giV (c:Cq)(ts:List Tm):List Cq:=if giB c ts=true then giR c (vaC c) (zco ts (vaC c).length) []else []
theorem qce {ts:List Tm}{t:Tm}(h:t∈ts):t.wt<=zo7 ts:=by
 have:=zci Tm.wt ts t h
 unfold zo7;omega
set_option maxHeartbeats 4000000 in
theorem qmo (c:Cq)(ts:List Tm)(hcw:c.wt<=1048576)(htw:zo7 ts<=1048576):FC Tryz.prog 69 [cqD c,.one (tmS ts)] [.one (cqS (giV c ts)),bD (giB c ts)]:=by
 have HV:=zcu c hcw
 have HG:=zbr ts (λt=>!grT t) 123 [] λt ht=>qm1 t (Q8 (qce ht) htw)
 rw[show(ts.any λt=>!grT t)=!ts.all grT by rw[<-qdf ts grT];simp]at HG
 have hb:giB c ts=(giP c ts&&decide (ts.length^(vaC c).length<=60)&&zsc c (vaC c) (zco ts (vaC c).length)):=rfl
 have hv:giV c ts=if giB c ts=true then giR c (vaC c) (zco ts (vaC c).length) []else []:=rfl
 have hp:giP c ts=(c.ok&&decide (ts.length<=60)&&ts.all grT):=rfl
 simp only[cqD,zap]at HV⊢
 cases hok:c.ok
 ·rw[hok,Q4,Q4]at hp;rw[hp,Q4,Q4]at hb;rw[hb,if_neg (by simp)]at hv;rw[hok]at HV;rw[hv,hb];refine zcc Tryz.call69 Tryz.func69 rfl Zh (zat Zh) ?_;refine Xk ?_;refine callF (HV) Zg ?_;exact Zg
 rw[hok,Q2]at hp
 rw[hok]at HV
 by_cases h60:ts.length<=60
 ·have h60':((60:Int)<(ts.length:Int))=False:=eq_false Zi;rw[Ku h60,Q2]at hp;cases hgr:ts.all grT
  ·rw[hgr]at hp HG;rw[hp,Q4,Q4]at hb;rw[hb,if_neg (by simp)]at hv;rw[hv,hb];refine zcc Tryz.call69 Tryz.func69 rfl Zh (zat Zh) ?_;refine Xk ?_;refine callF (HV) (Zl h60') ?_;refine Zk h60' ?_;refine callF (HG) Zg ?_;exact Zg
  ·rw[hgr]at hp HG;rw[hp,Q2]at hb;have HN:=zh3 c hok hcw;have hnl:=qh2 c;have hnd:(vaC c).Nodup:=ztp c.vo
   have hgrd:∀l,l∈zco ts (vaC c).length->Grd ((vaC c).zip l):=λl hl=>qht (qoh c) (by
    rw[Qr]
    exact λt ht=>Qr.1 hgr t (((zcg ts _ l).1 hl).2 t ht))
   change FC _ _ _ [.one (zfg (vaC c))]at HN
   simp only[cqD,zap]at HN;refine zcc Tryz.call69 Tryz.func69 rfl Zh (zat Zh) ?_;refine Xk ?_;refine callF (HV) (Zl h60') ?_;refine Zk h60' ?_;refine callF (HG) Zg ?_;refine Zj ?_;refine callF (HN) Zg ?_;refine Zj ?_;have hnn:(vaC c).length<=1048576:=by omega
   refine zad (λk:Nat=>hd [(1,.one (.rn (tmS ts))),(2,.one (.bx 2 0)),(6,.one (.bx 6 0)),(7,vI ((ts.length^k:Nat):Int)),(25,vI (vaC c).length),(26,vI k)] [(2,[.rn (liS c.lits)]),(6,[.ow 736 0])] [(736,⟨true,1,(vaC c).map λs=>[.str s],0,true⟩)]) (λk=>k<=(vaC c).length/\ts.length^k<=60) (λk=>(vaC c).length-k) 0 (zab ?_) ⟨Qy _,by simp⟩ ?_
   ·refine Zj ?_;rfl
   ·intro k ⟨hk,hk60⟩;by_cases hlt:k<(vaC c).length
    ·have hmul:ts.length^k*ts.length<=60*60:=Nat.mul_le_mul hk60 h60;have hps:ts.length^(k+1)=ts.length^k*ts.length:=Nat.pow_succ ..;have hwm:IntKind.i64.wrap (((ts.length^k:Nat):Int)*(ts.length:Int))=((ts.length^(k+1):Nat):Int):=by
      rw[hps,<-Int.natCast_mul,zay Zi Zi]
     by_cases h61:ts.length^(k+1)<=60
     ·have h61':((60:Int)<((ts.length^(k+1):Nat):Int))=False:=eq_false Zi;simp -implicitDefEqProofs only[go_sem,hlt,hwm,h61'];refine⟨k+1,⟨hlt,h61⟩,Zi,zab ?_⟩;refine Zj ?_;rw[zaf Zi]
     ·have h61':((60:Int)<((ts.length^(k+1):Nat):Int))=True:=eq_true Zi;have hbig:¬ts.length^(vaC c).length<=60:=by
       have h1:0<ts.length:=Y4 λh=>by rw[h,Nat.zero_pow Zi]at h61;omega
       have:=Nat.pow_le_pow_right h1 (show k+1<=(vaC c).length by omega);omega
      rw[Kv hbig,Q4]at hb;rw[hb,if_neg (by simp)]at hv;rw[hv,hb];exact Z3 hlt hwm h61'
    ·have hkn:k=(vaC c).length:=by omega
     rw[hkn]at hk60;rw[Ku hk60,Q2]at hb
     have HE:=zle (g:=126) (bx:=λx:List Cq=>[[(true,cqS x)]]) (m:=1) (λ_=>rfl) (λx b hb p hp=>by
       rw[Qv.1 hb,Qv]at hp
       rw[hp]) [[zfg (vaC c)],cqC c] (js:=[1,2,0]) (by simp) (Inv:=zok c (vaC c) ts) (okl:=λl=>l∈zco ts (vaC c).length) (st:=giS c (vaC c)) Tryz.call126 (λx l hx hl ho=>hx.step hl ho) (λx l hx hl=>qpi c (vaC c) hnd x l ((zcg ts _ l).1 hl).1 (by have:=hx.len;omega) hnn hcw (λt ht=>Q8 (qce (((zcg ts _ l).1 hl).2 t ht)) htw) (zyu hok (hgrd l hl)))
      ts Zi (vaC c).length hnn (λl h1 h2=>(zcg ts _ l).2 ⟨h1,h2⟩) [] ⟨Kn,by simp⟩
     rw[zko]at HE;have hrun:=qhi c (vaC c) (zco ts (vaC c).length) [];rw[hrun.1]at HE;replace hrun:=hrun.2;generalize (runT (giS c (vaC c)) (zco ts (vaC c).length) []).2=y at HE hrun
     change PC _ _ [[(true,cqS [])],[(false,zfg (vaC c))],[(false,liS c.lits)]] _ [[(true,cqS y)],[(false,zfg (vaC c))],[(false,liS c.lits)]] _ at HE
     cases hgo:zsc c (vaC c) (zco ts (vaC c).length)
     ·rw[hgo]at hb HE;rw[hb,if_neg (by simp)]at hv;rw[hv,hb];refine Xo ?_;refine za2 Zg ?_;refine Zj ?_;refine frzO 736 rfl rfl ?_;refine Zj ?_;refine znd [6,8] [36,38,39] [8,6,2] [] (HE) (by decide) rfl Zg Zg Zg Zg ?_;exact Zg
     ·rw[hgo]at hb HE;rw[hb,if_pos rfl,<-hrun hgo]at hv;rw[hv,hb];refine Xo ?_;refine za2 Zg ?_;refine Zj ?_;refine frzO 736 rfl rfl ?_;refine Zj ?_;refine znd [6,8] [36,38,39] [8,6,2] [] (HE) (by decide) rfl Zg Zg Zg Zg ?_;exact Zg
 ·have h60':((60:Int)<(ts.length:Int))=True:=eq_true Zi;rw[Kv h60,Q4]at hp;rw[hp,Q4,Q4]at hb;rw[hb,if_neg (by simp)]at hv;rw[hv,hb];refine zcc Tryz.call69 Tryz.func69 rfl Zh (zat Zh) ?_;refine Xk ?_;refine callF (HV) (Zl h60') ?_;exact Zl h60'
end Go.Proofs.YtmhbmpbgpjljeaaGreat
namespace Go.Proofs.YtmhbmpbgpjljeaaGreat
set_option linter.unusedSimpArgs false
set_option linter.unusedVariables false
set_option linter.unusedSectionVars false
set_option maxRecDepth 4000
open Go.RowKit
theorem qlr (l:List (Str×Tm))(hl:l.length<=1048576)(x:Str):FC Tryz.prog 224 [.agg [sbS l],sD x] [iD (zew l λp=>p.1==x)]:=by
 unfold sbS
 refine zam Tryz.call224 Tryz.func224 rfl Zh (zat Zh) ?_
 simp -implicitDefEqProofs only[go_sem,Tryz.results224]
 refine zad (λk:Nat=>hd [(1,vT (.str x)),(2,.one (.bx 2 0)),(5,vI k)] [(2,[.t (.sl 3 (l.map bnC))])] []) (λk=>k<=l.length/\∀p∈l.take k,(p.1==x)=false) (λk=>l.length-k) 0 (zab ?_) ⟨Qy _,by simp⟩ ?_
 ·exact Zg
 ·intro k ⟨hk,hr⟩;by_cases hlt:k<l.length
  ·have he:=zxg l[k].1 l[k].2;rw[show(l[k].1,l[k].2)=l[k] from rfl]at he;refine Zm hlt he ?_;refine⟨λh=>?_,λh=>⟨k+1,⟨hlt,zbd hlt hr h⟩,Zi,zab (by simp -implicitDefEqProofs only[go_sem];rw[zaf Zi])⟩⟩;rw[zbn hlt hr h]
  ·refine Xo ?_;rw[Ql Zi]at hr;rw[zb4 hr]
theorem zyn {α:Type}(p:α->Bool):∀(l:List α)(h:l.findIdx p<l.length),l.find? p=some l[l.findIdx p]
 | [],h=>by simp at h
 | a::l,h=>by
  cases ha:p a
  ·have h':l.findIdx p<l.length:=by
    rw[List.findIdx_cons,ha]at h;simpa using h
   have:=zyn p l h';simp only[List.find?_cons,ha,List.findIdx_cons,cond_false,List.getElem_cons_succ];exact this
  ·simp[List.find?_cons,ha,List.findIdx_cons]
theorem zud (l:List (Str×Tm))(hl:l.length<=1048576)(hw:∀p∈l,p.2.wt<=1048576)(a:Tm)(ha:a.args.length<=1048576)(H:∀x∈a.args,FC Tryz.prog 177 [.agg [sbS l],tmD x] [tmD (zgg l x)]):FC Tryz.prog 177 [.agg [sbS l],tmD a] [tmD (zgg l a)]:=by
 have hv:=zlq l a
 have HV:=zh6 a.name
 cases hva:zax a.name
 ·rw[hva,if_neg (by simp)]at hv;rw[hva]at HV;rw[hv];have e1:tmD (.mk a.name (a.args.map (zgg l)))=.agg [.str a.name,.sl 2 (a.args.map λx=>tmC (zgg l x))]:=by unfold tmD;rw[zaa];simp only[Tm.name,Tm.args,Jj,Yy]
  rw[e1];simp only[tmD,zaa a]at H⊢;unfold sbS at H⊢;generalize l.map bnC=L at H⊢;refine zam Tryz.call177 Tryz.func177 rfl Zh (zat Zh) ?_;simp -implicitDefEqProofs only[go_sem,Tryz.results177];refine callF (HV) Zg ?_;refine Zj ?_;refine zad (λk:Nat=>hd [(2,.one (.bx 2 0)),(3,.one (.bx 3 0)),(4,.one (.bx 4 0)),(6,.one (.bx 6 0)),(7,vI k)] [(2,[.t (.sl 3 L)]),(3,[.t (.str a.name),.t (tmS a.args)]),(4,[.t (.str []),.nl 2]),(6,[.t (.str a.name),.ow 3000 0])] [(3000,⟨true,2,(a.args.take k).map λx=>tmC (zgg l x),0,true⟩)]) (λk=>k<=a.args.length) (λk=>a.args.length-k) 0 (zab ?_) (Qy _) ?_
  ·exact Zg
  ·intro k hk;by_cases hlt:k<a.args.length
   ·have HC:=H a.args[k] (Qe hlt);have hmin:min k a.args.length<=4294967295:=by omega
    simp only[zaa a.args[k],zaa (zgg l a.args[k])]at HC;refine Xo ?_;refine drawn Zh ?_;refine Zm hlt (zaa a.args[k]) ?_;refine za1 (HC) Zg ?_;refine Zj ?_;refine za7 Zg ?_;refine Zj ?_;refine zcx true (Z5 hmin) ?_;refine Z6 hmin ?_;refine⟨Zh,k+1,hlt,Zi,zab ?_⟩;refine Zj ?_;rw[zaf Zi,Qg hlt,Qq,Q7];simp only[zaa]
    trivial
   ·have ht:a.args.take k=a.args:=Ql Zi;exact Xy
 ·rw[hva,if_pos rfl]at hv;rw[hva]at HV;rw[hv];have HF:=qlr l hl a.name;cases hany:l.any λp=>p.1==a.name
  ·have hid:zew l (λp=>p.1==a.name) = -1:=by unfold zew;rw[hany];rfl
   have hfn:(l.find? λp=>p.1==a.name)=none:=by
    rw[List.find?_eq_none];intro p hp;have:=Yh.1 hany p hp;exact this
   rw[hid]at HF;rw[hfn];have e1:tmD (.mk a.name [])=.agg [.str a.name,.sl 2 []]:=rfl;show FC _ _ _ [tmD (.mk a.name [])]
   rw[e1];simp only[tmD,zaa a];unfold sbS at HF⊢;refine zam Tryz.call177 Tryz.func177 rfl Zh (zat Zh) ?_;simp -implicitDefEqProofs only[go_sem,Tryz.results177];refine callF (HV) Zg ?_;refine Zj ?_;refine callF (HF) Zg ?_;exact Zg
  ·have hlt:l.findIdx (λp=>p.1==a.name)<l.length:=List.findIdx_lt_length.2 (Ju.1 hany);have hid:zew l (λp=>p.1==a.name)=((l.findIdx λp=>p.1==a.name:Nat):Int):=by unfold zew;rw[if_pos hany]
   have hfn:(l.find? λp=>p.1==a.name)=some l[l.findIdx λp=>p.1==a.name]:=by
    exact zyn _ l hlt
   rw[hid]at HF;rw[hfn];generalize (l.findIdx λp=>p.1==a.name)=i at HF hlt⊢;have HK:=znu l[i].2 (hw _ (Qe hlt));have he:=zxg l[i].1 l[i].2;rw[show(l[i].1,l[i].2)=l[i] from rfl]at he;show FC _ _ _ [tmD l[i].2]
   simp only[tmD,zaa a,zaa l[i].2]at HK⊢;have hi0:((i:Int)>=0)=True:=eq_true Zi;have hi1:(0<=(i:Int))=True:=eq_true Zi;unfold sbS at HF⊢;refine zam Tryz.call177 Tryz.func177 rfl Zh (zat Zh) ?_;simp -implicitDefEqProofs only[go_sem,Tryz.results177];refine callF (HV) Zg ?_;refine Zj ?_;refine callF (HF) (Z9 hi0 hi1 hlt he) ?_;refine Zy hi0 hi1 hlt he ?_;refine callF (HK) Zg ?_;exact Zg
theorem qbf (l:List (Str×Tm))(hl:l.length<=1048576)(hw:∀p∈l,p.2.wt<=1048576):∀a:Tm,a.wt<=1048576->FC Tryz.prog 177 [.agg [sbS l],tmD a] [tmD (zgg l a)] :=
 zbb λm xs ih hs=>by
  obtain⟨h1,h2⟩:=Tm.wt_args hs;exact zud l hl hw (.mk m xs) h1 λx hx=>ih x hx (h2 x hx)
end Go.Proofs.YtmhbmpbgpjljeaaGreat
namespace Go.Proofs.YtmhbmpbgpjljeaaGreat
set_option linter.unusedSimpArgs false
set_option linter.unusedVariables false
set_option linter.unusedSectionVars false
set_option maxRecDepth 4000
open Go.RowKit
set_option maxHeartbeats 1000000 in
theorem qs5 (c:Cq)(hw:c.wt<=1048576):FC Tryz.prog 22 [cqD c] [cqD c]:=by
 have hll:∀q∈c.lits,q.atom.wt<=1048576:=λq hq=>Q8 (zf1 hq) hw
 have hlen:c.lits.length<=1048576:=by have:=c.wt_eq;unfold zgb at this;omega
 simp only[cqD,zap]
 generalize c.lits=ls at hll hlen⊢
 refine zam Tryz.call22 Tryz.func22 rfl Zh (zat Zh) ?_
 simp -implicitDefEqProofs only[go_sem,Tryz.results22]
 refine zad (λk:Nat=>hd [(1,.one (.bx 1 0)),(2,.one (.bx 2 0)),(3,.one (.bx 3 0)),(4,vI k)] [(1,[.t (liS ls)]),(2,[.nl 3]),(3,[.ow 3000 0])] [(3000,⟨true,3,(ls.take k).map liC,0,true⟩)]) (λk=>k<=ls.length) (λk=>ls.length-k) 0 (zab ?_) (Qy _) ?_
 ·exact Zg
 ·intro k hk;by_cases hlt:k<ls.length
  ·have hmin:min k ls.length<=4294967295:=by omega
   have HL:=znu ls[k].atom (hll _ (Qe hlt));simp only[tmD,zaa ls[k].atom]at HL;refine Xo ?_;refine drawn Zh ?_;refine Zm hlt (zaj ls[k]) ?_;refine za1 (HL) Zg ?_;refine Zj ?_;refine za7 Zg ?_;refine Zj ?_;refine zcx true (Z5 hmin) ?_;refine Z6 hmin ?_;refine⟨Zh,k+1,hlt,Zi,zab ?_⟩;refine Zj ?_;rw[zaf Zi,Qg hlt,Qq,Q7,zaj ls[k]]
   trivial
  ·have ht:ls.take k=ls:=Ql Zi;exact Xy
set_option maxHeartbeats 1000000 in
theorem zy3 (a b:Cq)(hw:a.wt<=1048576):FC Tryz.prog 59 [cqD a,cqD b] [bD (same a b)]:=by
 have hlen:a.lits.length<=1048576:=by have:=a.wt_eq;unfold zgb at this;omega
 rw[qif]
 simp only[cqD,zap]
 generalize a.lits=xs at hlen⊢
 generalize b.lits=ys
 by_cases hl:xs.length=ys.length
 ·have hl0:((xs.length:Int) != (ys.length:Int))=false:=by simp[hl]
  refine zam Tryz.call59 Tryz.func59 rfl Zh (zat Zh) ?_;simp -implicitDefEqProofs only[go_sem,Tryz.results59,hl0];refine zad (λk:Nat=>hd [(2,.one (.bx 2 0)),(3,.one (.bx 3 0)),(5,vI k)] [(2,[.t (liS xs)]),(3,[.t (liS ys)])] []) (λk=>k<=xs.length/\same xs ys=same (xs.drop k) (ys.drop k)) (λk=>xs.length-k) 0 (zab ?_) ⟨Qy _,rfl⟩ ?_
  ·exact Zg
  ·intro k ⟨hk,hr⟩;by_cases hlt:k<xs.length
   ·have hlt2:k<ys.length:=by omega
    rw[Qn hlt,Qn hlt2,zcr,zt6]at hr;have HS:=zd6 xs[k].atom ys[k].atom;simp only[tmD,zaa xs[k].atom,zaa ys[k].atom]at HS;rw[<-ze1 xs[k].pos]at hr;refine Xo ?_;refine drawn Zh ?_;cases hp:xs[k].pos==ys[k].pos
    ·rw[hp,Q4,Q4]at hr;rw[hr];simp -implicitDefEqProofs only[go_sem,zac,hlt,hlt2,zaj xs[k],zaj ys[k],hp,Ja];kernel_rfl
    ·rw[hp,Q2]at hr;simp -implicitDefEqProofs only[go_sem,zac,hlt,hlt2,zaj xs[k],zaj ys[k],hp,K8];cases hs:same xs[k].atom ys[k].atom
     ·rw[hs]at HS;rw[hs,Q4]at hr;rw[hr];refine zbf (HS) (by simp -implicitDefEqProofs only[go_sem,Ja]) ?_;simp -implicitDefEqProofs only[go_sem,Ja];kernel_rfl
     ·rw[hs]at HS;rw[hs,Q2]at hr;refine zbf (HS) (by simp -implicitDefEqProofs only[go_sem,K8]) ?_;simp -implicitDefEqProofs only[go_sem,K8];refine⟨Zh,k+1,⟨hlt,hr⟩,Zi,zab ?_⟩;refine Zj ?_;rw[zaf Zi]
   ·rw[Jy Zi,Jy Zi,zbh]at hr;rw[hr];exact Zl hlt
 ·have hl0:((xs.length:Int) != (ys.length:Int))=true:=by rw[bne_iff_ne];omega
  refine zam Tryz.call59 Tryz.func59 rfl Zh (zat Zh) ?_;simp -implicitDefEqProofs only[go_sem,Tryz.results59,hl0];rw[zbv.2 λh=>hl (by rw[h])]
end Go.Proofs.YtmhbmpbgpjljeaaGreat
namespace Go.Proofs.YtmhbmpbgpjljeaaGreat
set_option linter.unusedSimpArgs false
set_option linter.unusedVariables false
set_option linter.unusedSectionVars false
set_option maxRecDepth 4000
open Go.RowKit
def zh1:List Li->Li->List Li
 | [],l=>[l]
 | a::ls,l=>if zd2 a l<0 then a::zh1 ls l else if zd2 a l=0 then a::ls else l::a::ls
abbrev qpp (ls:List Li):Prop:=ls.Pairwise λa b=>zd2 a b<0
theorem zn8:∀(ls:List Li)(l x:Li),x∈zh1 ls l↔x=l\/x∈ls
 | [],l,x=>by simp[zh1]
 | a::ls,l,x=>by
  unfold zh1;split
  ·rw[Qs,zn8 ls l x,Qs];exact⟨λh=>h.elim (λh=>Or.inr (Or.inl h)) λh=>h.elim Or.inl λh=>Or.inr (Or.inr h),λh=>h.elim (λh=>Or.inr (Or.inl h)) λh=>h.elim Or.inl λh=>Or.inr (Or.inr h)⟩
  ·split
   ·rename_i h;have:=zfz.1 h;subst this;simp
   ·simp
theorem zur {a b c:Li}(h1:zd2 a b<0)(h2:zd2 b c<0):zd2 a c<0:=by
 have hO:=zlh zc5
 have:=hO.trans a b c (by unfold ltOf;exact Ku h1) (by unfold ltOf;exact Ku h2)
 unfold ltOf at this
 exact Kw this
theorem zxj:∀{ls:List Li}{l:Li},qpp ls->qpp (zh1 ls l)
 | [],l,_=>by simp[zh1]
 | a::ls,l,h=>by
  obtain⟨h1,h2⟩:=Jp.1 h;unfold zh1;split
  ·rename_i hc;refine Jp.2 ⟨λx hx=>?_,zxj h2⟩;rcases(zn8 ls l x).1 hx with rfl|hx
   ·exact hc
   ·exact h1 x hx
  ·split
   ·exact h
   ·rename_i hc hz;have hla:zd2 l a<0:=by have:=zc5.neg a l;omega
    refine Jp.2 ⟨λx hx=>?_,h⟩;rcases Qs.1 hx with rfl|hx
    ·exact hla
    ·exact zur hla (h1 x hx)
theorem zsg:∀(xs ls:List Li)(x:Li),x∈xs.foldl zh1 ls↔x∈xs\/x∈ls
 | [],ls,x=>by simp
 | a::xs,ls,x=>by
  rw[Ks,zsg xs,zn8,Qs];exact⟨λh=>h.elim (λh=>Or.inl (Or.inr h)) λh=>h.elim (λh=>Or.inl (Or.inl h)) Or.inr,λh=>h.elim (λh=>h.elim (λh=>Or.inr (Or.inl h)) Or.inl) λh=>Or.inr (Or.inr h)⟩
theorem zso:∀(xs:List Li){ls:List Li},qpp ls->qpp (xs.foldl zh1 ls)
 | [],_,h=>h
 | _::xs,_,h=>zso xs (zxj h)
theorem qlc {a b:List Li}(ha:qpp a)(hb:qpp b)(h:∀x,x∈a↔x∈b):a=b:=by
 have hne:∀{x:Li},¬zd2 x x<0:=fun {x} hx=>by have:=zc5.neg x x;omega
 have na:a.Nodup:=ha.imp λhxy e=>by subst e;exact hne hxy
 have nb:b.Nodup:=hb.imp λhxy e=>by subst e;exact hne hxy
 have hp:a.Perm b:=(Ys na nb).2 h
 exact Y1 (le:=λa b=>zd2 a b<0) (λx y _ _ h1 h2=>absurd (zur h1 h2) hne) ha hb hp
theorem zw0 (ls:List Li):qa5 ls=(kp ls ls.length).map λi=>ls.getD i ⟨false,.mk [] []⟩:=by
 have:=qns ls ls id (⟨false,.mk [] []⟩:Li)
 rw[Ze,Ze]at this
 exact this.symm
theorem qmj {ls:List Li}(h:ls.Pairwise λa b=>ltOf zd2 b a=false):qpp (qa5 ls):=by
 have hle:∀i j (hi:i<ls.length) (hj:j<ls.length),i<j->¬zd2 ls[j] ls[i]<0:=λi j hi hj hij=>by
  have:=Yd.1 h i j hi hj hij;unfold ltOf at this;exact Yt this
 rw[zw0]
 refine List.pairwise_map.2 ?_
 have hp:(kp ls ls.length).Pairwise (·<·):=by unfold kp;exact List.Pairwise.filter _ List.pairwise_lt_range
 refine hp.imp_of_mem fun {i j} hi hj hij=>?_
 have hi':=qpl hi
 have hj':=qpl hj
 rw[List.getD_eq_getElem?_getD,List.getD_eq_getElem?_getD,List.getElem?_eq_getElem hi',List.getElem?_eq_getElem hj',Kj,Kj]
 have hk:zjn ls j=true:=by unfold kp at hj;exact(Kp.1 hj).2
 rw[zka Zi hj']at hk
 have hne:ls[j]≠ls[j-1]'Zi:=by
  have:same ls[j] (ls[j-1]'Zi)=false:=by simpa using hk
  exact zbv.1 this
 have h1:zd2 (ls[j-1]'Zi) ls[j]<0:=by
  have h2:=hle (j-1) j Zi hj' Zi;have h3:=zc5.neg (ls[j-1]'Zi) ls[j];have h4:zd2 (ls[j-1]'Zi) ls[j]≠0:=λe=>hne (zfz.1 e).symm;omega
 by_cases hc:i=j-1
 ·subst hc;exact h1
 ·have h2:=hle i (j-1) hi' Zi Zi;have h3:=zc5.neg ls[i] (ls[j-1]'Zi);by_cases h4:zd2 ls[i] (ls[j-1]'Zi)=0
  ·rw[zfz.1 h4];exact h1
  ·exact zur Zi h1
theorem qly (ls:List Li)(x:Li):x∈qa5 ls↔x∈ls:=by
 refine⟨λh=>(zpr ls).subset h,λh=>?_⟩
 obtain⟨i,hi,rfl⟩:=Js h
 rw[zw0]
 have:∀i (hi:i<ls.length),∃j∈kp ls ls.length,ls.getD j ⟨false,.mk [] []⟩=ls[i]:=by
  intro i;induction i with
  | zero =>
   intro hi;refine⟨0,?_,by rw[List.getD_eq_getElem?_getD,List.getElem?_eq_getElem hi];rfl⟩;unfold kp;exact Kp.2 ⟨K4.2 hi,by simp[zjn]⟩
  | succ i ih =>
   intro hi;cases hk:zjn ls (i+1)
   ·rw[zka Zi hi]at hk;have he:same ls[i+1] (ls[i+1-1]'Zi)=true:=by simpa using hk
    obtain⟨j,hj,hje⟩:=ih Zi;refine⟨j,hj,?_⟩;rw[hje,za9.1 he];rfl
   ·refine⟨i+1,?_,by rw[List.getD_eq_getElem?_getD,List.getElem?_eq_getElem hi];rfl⟩;unfold kp;exact Kp.2 ⟨K4.2 hi,hk⟩
 obtain⟨j,hj,hje⟩:=this i hi
 exact Ka.2 ⟨j,hj,hje⟩
theorem qrn (ls:List Li):(mkC ls).lits=ls.foldl zh1 [] :=
 qlc (qmj (zv9 ls)) (zso ls List.Pairwise.nil) λx=>by
  show x∈qa5 (zx8 ls)↔_
  rw[qly,(zfw ls).mem_iff,zsg];simp
end Go.Proofs.YtmhbmpbgpjljeaaGreat
namespace Go.Proofs.YtmhbmpbgpjljeaaGreat
set_option linter.unusedSimpArgs false
set_option linter.unusedVariables false
set_option linter.unusedSectionVars false
set_option maxRecDepth 4000
open Go.RowKit
theorem qdv:∀{ls:List Li}{k:Nat}{l:Li},(∀x∈ls.take k,zd2 x l<0)->zh1 ls l=ls.take k++zh1 (ls.drop k) l
 | ls,0,l,_=>rfl
 | [],k+1,l,_=>rfl
 | a::ls,k+1,l,h=>by
  have ha:=h a (by simp);show(if zd2 a l<0 then a::zh1 ls l else _)=_
  rw[if_pos ha,qdv (ls:=ls) (k:=k) λx hx=>h x (by simp[hx])];rfl
theorem zzi:∀(ls:List Li)(l:Li),(zh1 ls l).length<=ls.length+1
 | [],l=>by simp[zh1]
 | a::ls,l=>by
  unfold zh1;have:=zzi ls l;split
  ·simp;omega
  ·split<;>simp
theorem zq6:∀(xs ls:List Li),(xs.foldl zh1 ls).length<=ls.length+xs.length
 | [],ls=>by simp
 | a::xs,ls=>by
  have h1:=zq6 xs (zh1 ls a);have h2:=zzi ls a;simp only[Ks,Qj];omega
theorem Wk.fsO {σ σ':St}(e:Nat)(k:zaq (σ.ev e) λx=>x.deep=false/\x.on=true/\Wk (σ.fs e x) σ'):Wk σ σ':=by
 obtain⟨x,hx,h1,h2,h3⟩:=zao k
 exact(qpt hx h1 h2).trans h3
set_option maxHeartbeats 4000000 in
theorem qjh (ls:List Li)(hw:∀l∈ls,l.wt<=1048576)(hlen:ls.length<=1048576):RC Tryz.prog 178 [.one (liS ls)] [cqD ⟨ls.foldl zh1 []⟩]:=by
 simp only[cqD,zap]
 refine zbs Tryz.call178 Tryz.func178 rfl Zh (zat Zh) ?_
 simp -implicitDefEqProofs only[go_sem,Tryz.results178]
 refine zb7 Zg ?_
 refine Zj ?_
 refine zad (λi:Nat=>hd [(0,vT (liS ls)),(2,.one (.bx 2 0)),(3,vT (liS ((ls.take i).foldl zh1 []))),(4,vI i)] [(2,[.nl 3])] []) (λi=>i<=ls.length) (λi=>ls.length-i) 0 (zab ?_) (Qy _) ?_
 ·refine Zj ?_;rfl
 ·intro i hi;by_cases hlt:i<ls.length
  ·have hsucc:(ls.take (i+1)).foldl zh1 []=zh1 ((ls.take i).foldl zh1 []) ls[i]:=by
    rw[Qg hlt,K0];rfl
   have hol:((ls.take i).foldl zh1 []).length<=i:=by
    have:=zq6 (ls.take i) [];rw[Qc,Qo]at this;omega
   generalize (ls.take i).foldl zh1 []=out at hsucc hol⊢;refine Xo ?_;refine zad (λk:Nat=>hd [(0,vT (liS ls)),(2,.one (.bx 2 0)),(3,vT (liS out)),(4,vI i),(5,vI k)] [(2,[.nl 3])] []) (λk=>k<=out.length/\∀x∈out.take k,zd2 x ls[i]<0) (λk=>out.length-k) 0 (zab ?_) ⟨Qy _,by simp⟩ ?_
   ·exact Zg
   ·intro k ⟨hk,hr⟩;have hm1:min k out.length<=4294967296:=by omega
    have hm2:min k out.length<=4294967295:=by omega
    have hm3:min k out.length+1+(out.length-k)<=4294967296:=by omega
    have hat:=qdv hr;have HO:=znu ls[i].atom (hw _ (Qe hlt));by_cases hkl:k<out.length
    ·have HC:=zi5 out[k] ls[i];simp only[liD,zaj out[k],zaj ls[i]]at HC;have hz1:=zfz (a:=out[k]) (b:=ls[i]);rw[Qn hkl]at hat;have hat:zh1 out ls[i]=out.take k++(if zd2 out[k] ls[i]<0 then out[k]::zh1 (out.drop (k+1)) ls[i]else if zd2 out[k] ls[i]=0 then out[k]::out.drop (k+1)else ls[i]::out[k]::out.drop (k+1)):=hat;have hnx:zd2 out[k] ls[i]<0->∀x∈out.take (k+1),zd2 x ls[i]<0:=λhb x hx=>by
      rw[Qg hkl]at hx;rcases Qt.1 hx with hx|hx
      ·exact hr x hx
      ·rw[Qv.1 hx];exact hb
     generalize zd2 out[k] ls[i]=cc at HC hat hnx;refine Zk hkl ?_;refine drawn Zh ?_;refine Zy hkl hlt (zaj out[k]) (zaj ls[i]) ?_;refine zbf (HC) Zg ?_;refine Zj ?_;refine⟨Zh,λh=>?_,λh=>?_⟩
     ·have hc:cc<0:=by simpa using h
      refine⟨k+1,⟨hkl,hnx hc⟩,Zi,zab ?_⟩;refine Zj ?_;rw[zaf Zi]
     ·have hc:¬cc<0:=by simpa using h
      rw[if_neg hc]at hat;refine drawn Zh ?_;refine Zy hkl hlt (zaj out[k]) (zaj ls[i]) ?_;refine zbf (HC) Zg ?_;refine Zj ?_;refine⟨Zh,λh2=>?_,λh2=>?_⟩
      ·have hz:cc=0:=by simpa using h2
       rw[if_pos hz,<-Qn hkl,Ke]at hat;refine⟨i+1,hlt,Zi,zab ?_⟩;refine Zj ?_;rw[zaf Zi,hsucc,hat];exact⟨rfl,rfl⟩
      ·have hz:¬cc=0:=by simpa using h2
       rw[if_neg hz,<-Qn hkl]at hat;simp only[tmD,zaa ls[i].atom]at HO;refine drawn Zh ?_;refine Zm hlt (zaj ls[i]) ?_;refine za1 (HO) Zg ?_;refine Zj ?_;refine⟨Zh,?_⟩;refine frzD 1857 ?_;refine Zj ?_;refine drawn Zh ?_;refine Zk hk ?_;refine zbi Xp ?_;refine Zk hk ?_;refine zcx false Xq ?_;refine Xr ?_;refine zbi Xp ?_;refine Zk hk ?_;refine zcx false Xq ?_;refine Xr ?_;refine zcx false Xq ?_;refine Xr ?_;refine⟨Zh,i+1,hlt,Zi,Wk.fsO 1920 ?_⟩;refine Zj ?_;refine zab ?_;refine Zj ?_;rw[zaf Zi,hsucc,hat];refine⟨?_,rfl⟩;show T.sl 3 _=T.sl 3 _
       rw[Qq,Qk,Jm,Yc,Kl];rfl
    ·have hat:zh1 out ls[i]=out.take k++ls[i]::out.drop k:=by
      rw[Jy Zi]at hat⊢;exact hat
     refine Zk hkl ?_;refine drawn Zh ?_;refine Zk hkl ?_;refine⟨Zh,?_⟩;refine drawn Zh ?_;refine Zk hkl ?_;refine⟨Zh,?_⟩;simp only[tmD,zaa ls[i].atom]at HO;refine drawn Zh ?_;refine Zm hlt (zaj ls[i]) ?_;refine za1 (HO) Zg ?_;refine Zj ?_;refine⟨Zh,?_⟩;refine frzD 1857 ?_;refine Zj ?_;refine drawn Zh ?_;refine Zk hk ?_;refine zbi Xp ?_;refine Zk hk ?_;refine zcx false Xq ?_;refine Xr ?_;refine zbi Xp ?_;refine Zk hk ?_;refine zcx false Xq ?_;refine Xr ?_;refine zcx false Xq ?_;refine Xr ?_;refine⟨Zh,i+1,hlt,Zi,Wk.fsO 1920 ?_⟩;refine Zj ?_;refine zab ?_;refine Zj ?_;rw[zaf Zi,hsucc,hat];refine⟨?_,rfl⟩;show T.sl 3 _=T.sl 3 _
     rw[Qq,Qk,Jm,Yc,Kl];rfl
  ·have ht:ls.take i=ls:=Ql Zi;exact Xy
end Go.Proofs.YtmhbmpbgpjljeaaGreat
namespace Go.Proofs.YtmhbmpbgpjljeaaGreat
set_option linter.unusedSimpArgs false
set_option linter.unusedVariables false
set_option linter.unusedSectionVars false
set_option maxRecDepth 4000
open Go.RowKit
def clP (ls:List Li)(ps:List (Str×Tm)):List Li:=ls.map λl=>⟨l.pos,zgg ps l.atom⟩
theorem mkC_eq (L:List Li):mkC L=⟨L.foldl zh1 []⟩:=by
 have:=qrn L
 cases h:mkC L
 rw[h]at this
 simp only at this
 rw[this]
set_option maxHeartbeats 2000000 in
theorem qgb (ls:List Li)(ps:List (Str×Tm))(hpl:ps.length<=1048576)(hps:∀p∈ps,p.2.wt<=1048576)(hlw:∀l∈ls,l.wt<=1048576)(hlen:ls.length<=1048576)(hLw:zgb (clP ls ps)<=1048576) :
  RC Tryz.prog 112 [.agg [sbS ps],.one (liS ls)] [cqD (ifC (mkC (clP ls ps)) (zjj (clP ls ps))),bD (zjj (clP ls ps))]:=by
 have hLl:∀l∈clP ls ps,l.wt<=1048576:=λl hl=>by
  have:=zci Li.wt _ l hl;unfold zgb at hLw;omega
 have hLn:(clP ls ps).length=ls.length:=by unfold clP;simp
 have hLg:∀k (h:k<ls.length),(clP ls ps)[k]'(by rw[hLn];exact h)=⟨ls[k].pos,zgg ps ls[k].atom⟩:=λk h=>by unfold clP;rw[Ym]
 have HM:=qjh (clP ls ps) hLl Zi
 rw[<-mkC_eq]at HM
 have HG:=zj1 (mkC (clP ls ps)) (Q8 (zza _) hLw)
 have hmo:zjj (clP ls ps)=((clP ls ps).all (λl=>l.atom.atomOk)&&(mkC (clP ls ps)).ok):=rfl
 generalize hLd:clP ls ps=L at *
 have hA:∀k (h:k<ls.length),FC Tryz.prog 177 [.agg [sbS ps],tmD ls[k].atom] [tmD (zgg ps ls[k].atom)]:=λk h=>qbf ps hpl hps ls[k].atom (hlw _ (Qe h))
 simp only[cqD,zap]at HM HG⊢
 unfold sbS at hA⊢
 refine zbs Tryz.call112 Tryz.func112 rfl Zh (zat Zh) ?_
 simp -implicitDefEqProofs only[go_sem,Tryz.results112]
 refine za2 Zg ?_
 refine Zj ?_
 refine zad (λk:Nat=>hd [(1,vT (liS ls)),(2,.one (.bx 2 0)),(4,.one (.bx 4 0)),(6,.one (.ow 320 0)),(7,vI k)] [(2,[.t (.sl 3 (ps.map bnC))]),(4,[.nl 3])] [(320,⟨true,3,(L.take k).map liC,0,true⟩)]) (λk=>k<=ls.length/\(L.take k).all (λl=>l.atom.atomOk)=true) (λk=>ls.length-k) 0 (zab ?_) ⟨Qy _,rfl⟩ ?_
 ·exact Zg
 ·intro k ⟨hk,hr⟩;by_cases hlt:k<ls.length
  ·have hkL:k<L.length:=by omega
   have HA:=hA k hlt;have hgk:=hLg k hlt;have HT:=zxw (zgg ps ls[k].atom) (by have:=hLl L[k] (Qe hkL);rw[hgk]at this;exact Q8 this Zi);have hmin:min k L.length<=4294967295:=by omega
   have hall:(L.take (k+1)).all (λl=>l.atom.atomOk)=(zgg ps ls[k].atom).atomOk:=by
    rw[Qg hkL,List.all_append,hr,hgk];simp
   have hrow:(L.take (k+1)).map liC=(L.take k).map liC++[[.bool ls[k].pos,.str (zgg ps ls[k].atom).name,.sl 2 ((zgg ps ls[k].atom).args.map tmC)]]:=by
    rw[Qg hkL,Qq,Q7,hgk];rfl
   simp only[tmD,zaa ls[k].atom,zaa (zgg ps ls[k].atom)]at HA HT;refine Xo ?_;refine drawn Zh ?_;refine Zm hlt (zaj ls[k]) ?_;refine za1 (HA) Zg ?_;refine Zj ?_;refine⟨Zh,?_⟩;cases hat:(zgg ps ls[k].atom).atomOk
   ·rw[hat]at HT hall;have hbad:zjj L=false:=by
     rw[hmo];have:L.all (λl=>l.atom.atomOk)=false:=by
      rw[J9];exact⟨L[k],Qe hkL,by rw[hgk];simp[hat]⟩
     rw[this];rfl
    rw[hbad];simp only[ifC,Qz,if_false];refine callF (HT) Zg ?_;exact Zg
   ·rw[hat]at HT hall;refine callF (HT) Zg ?_;refine Zj ?_;refine drawn Zh ?_;refine Zm hlt (zaj ls[k]) ?_;refine za7 Zg ?_;refine Zj ?_;refine zcx true (Z5 hmin) ?_;refine Z6 hmin ?_;refine⟨Zh,k+1,⟨hlt,hall⟩,Zi,zab ?_⟩;refine Zj ?_;rw[zaf Zi,hrow]
    trivial
  ·have ht:L.take k=L:=Ql Zi;rw[ht]at hr;rw[hr,Q2]at hmo;rw[hmo];cases hok:(mkC L).ok
   ·rw[hok]at HG;simp only[ifC,Qz,if_false];simp -implicitDefEqProofs only[go_sem,hlt,ht];refine frzO 320 rfl rfl ?_;refine Zj ?_;refine callR (HM) Zg ?_;refine Zj ?_;refine callF (HG) Zg ?_;exact Zg
   ·rw[hok]at HG;simp only[ifC,if_true];simp -implicitDefEqProofs only[go_sem,hlt,ht];refine frzO 320 rfl rfl ?_;refine Zj ?_;refine callR (HM) Zg ?_;refine Zj ?_;refine callF (HG) Zg ?_;exact Zg
end Go.Proofs.YtmhbmpbgpjljeaaGreat
namespace Go.Proofs.YtmhbmpbgpjljeaaGreat
set_option linter.unusedSimpArgs false
set_option linter.unusedVariables false
set_option linter.unusedSectionVars false
set_option maxRecDepth 4000
open Go.RowKit
section
variable {α β:Type}
def zgp (xs:List α):Nat->List (List α)
 | 0=>[[]]
 | n+1=>(zgp xs n).flatMap λl=>xs.map λt=>l++[t]
theorem zf3 (f:α->β)(xs:List α):∀n,zgp (xs.map f) n=(zgp xs n).map (List.map f)
 | 0=>rfl
 | n+1=>by
  rw[zgp,zgp,zf3 f xs n,List.flatMap_map,List.map_flatMap]
  congr 1
  funext l
  rw[Jj,Jj]
  congr 1
  funext t
  simp
theorem zj6 (xs:List α):∀n:Nat,(zgp xs n).length=xs.length^n
 | 0=>rfl
 | n+1=>by
  have:∀L:List (List α),(L.flatMap λl=>xs.map λt=>l++[t]).length=L.length*xs.length:=by
   intro L;induction L with
   | nil=>simp
   | cons l L ih=>rw[Kx,Qb,ih,Qa,Qj,Km];omega
  rw[zgp,this,zj6 xs n,Nat.pow_succ]
theorem zin (xs:List α):∀n,∀l∈zgp xs n,l.length=n/\∀t∈l,t∈xs
 | 0,l,h=>by
  rw[zgp,Qv]at h;subst h;exact⟨rfl,by simp⟩
 | n+1,l,h=>by
  rw[zgp,Jw]at h;obtain⟨a,ha,h⟩:=h;obtain⟨t,ht,rfl⟩:=Ka.1 h;obtain⟨h1,h2⟩:=zin xs n a ha;refine⟨by simp[h1],λu hu=>?_⟩;rcases Qt.1 hu with hu|hu
  ·exact h2 u hu
  ·rw[Qv.1 hu];exact ht
def zi9 (xs:List α)(zbm:Nat):Nat->Nat->List (List α)×Bool
 | 0,i=>(zgp xs i,true)
 | r+1,i=>if(zgp xs (i+1)).length<=zbm then zi9 xs zbm r (i+1)else (zgp xs i,false)
end
abbrev rwS (L:List (List (List T))):T:=.sl 1 (L.map λl=>[.sl 2 l])
theorem zp8 {α β:Type}(f:α->List β)(L:List α)(k:Nat)(h:k<L.length):((L.take (k+1)).flatMap f)=(L.take k).flatMap f++f L[k]:=by
 rw[Qg h,Ye];simp
set_option maxHeartbeats 4000000 in
theorem l16F_c (ft:List (List T))(hsh:∀r∈ft,∃s ao n c,r=[.str s,.vs ao n c])(n zbm:Nat)(hft:ft.length<=1048576)(hn:n<=1048576)(hm:zbm<=1048576) :
  RC Tryz.prog 39 [.one (.sl 2 ft),iD n,iD zbm] [.one (rwS (zi9 ft zbm n 0).1),bD (zi9 ft zbm n 0).2]:=by
 refine zbs Tryz.call39 Tryz.func39 rfl Zh (zat Zh) ?_
 simp -implicitDefEqProofs only[go_sem,Tryz.results39]
 refine zb7 Zg ?_
 refine Zj ?_
 refine zb7 Zg ?_
 refine Zj ?_
 refine zad (λi:Nat=>hd [(0,vT (.sl 2 ft)),(1,vI n),(2,vI zbm),(8,vT (rwS (zgp ft i))),(9,vI i)] [] []) (λi=>i<=n/\(i=0\/(zgp ft i).length<=zbm)/\zi9 ft zbm n 0=zi9 ft zbm (n-i) i) (λi=>n-i) 0 (zab ?_) ⟨Qy _,Or.inl rfl,rfl⟩ ?_
 ·refine Zj ?_;rfl
 ·intro i ⟨hi,h0,heq⟩;by_cases hin:i<n
  ·have hin':((i:Int)<(n:Int))=True:=eq_true Zi;obtain⟨r,hr⟩:∃r,n-i=r+1:=⟨n-i-1,Zi⟩;rw[hr,zi9]at heq;have hLl:(zgp ft i).length<=1048577:=by
    rcases h0 with rfl|h0
    ·show 1<=_;omega
    ·omega
   have hnx:zgp ft (i+1)=(zgp ft i).flatMap λl=>ft.map λt=>l++[t]:=rfl;have hel:=zin ft i;rw[hnx]at heq;generalize hO:zgp ft i=out at *;have hfl:∀l∈out,∀c∈l.flatten,c.flat=true:=λl hl c hc=>by
    obtain⟨q,hq,hc⟩:=Ki.1 hc;obtain⟨s,ao,n,cc,rfl⟩:=hsh q ((hel l hl).2 q hq);simp only[Qs,K9,or_false]at hc;rcases hc with rfl|rfl<;>rfl
   refine Zk hin' ?_;refine za2 Zg ?_;refine Zj ?_;refine zad (λk:Nat=>hd [(0,vT (.sl 2 ft)),(1,vI n),(2,vI zbm),(8,vT (rwS out)),(9,vI i),(10,.one (.ow 640 0)),(11,vI k)] [] [(640,⟨true,1,((out.take k).flatMap λl=>ft.map λt=>l++[t]).map λl=>[.sl 2 l],0,true⟩)]) (λk=>k<=out.length/\((out.take k).flatMap λl=>ft.map λt=>l++[t]).length<=zbm) (λk=>out.length-k) 0 (zab ?_) ⟨Qy _,by simp⟩ ?_
   ·refine Zj ?_;rfl
   ·intro k ⟨hk,hkm⟩;by_cases hlk:k<out.length
    ·have hpart:=zp8 (λl=>ft.map λt=>l++[t]) out k hlk;have hpre:∀j,j<=ft.length->((out.take k).flatMap λl=>ft.map λt=>l++[t]).length+j<=(out.flatMap λl=>ft.map λt=>l++[t]).length:=λj hj=>by
      have h1:((out.take (k+1)).flatMap λl=>ft.map λt=>l++[t]).length<=(out.flatMap λl=>ft.map λt=>l++[t]).length:=by
       conv=>rhs;rw[<-Ke (k+1) out,Ye,Qb]
       omega
      rw[hpart,Qb,Qa]at h1;omega
     have hlo:=(hel out[k] (Qe hlk)).1;have hflk:=hfl out[k] (Qe hlk);generalize ((out.take k).flatMap λl=>ft.map λt=>l++[t])=P at hkm hpart hpre⊢;refine Zk hlk ?_;refine zad (λj:Nat=>hd [(0,vT (.sl 2 ft)),(1,vI n),(2,vI zbm),(8,vT (rwS out)),(9,vI i),(10,.one (.ow 640 0)),(11,vI k),(12,vI j)] [] [(640,⟨true,1,(P++(ft.take j).map λt=>out[k]++[t]).map λl=>[.sl 2 l],0,true⟩)]) (λj=>j<=ft.length/\P.length+j<=zbm) (λj=>ft.length-j) 0 (zab ?_) ⟨Qy _,hkm⟩ ?_
     ·exact Zg
     ·intro j ⟨hj,hjm⟩;have hPl:(P++(ft.take j).map λt=>out[k]++[t]).length=P.length+j:=by
       rw[Qb,Qa,Qc];omega
      by_cases hlj:j<ft.length
      ·obtain⟨s,ao,nn,cc,hrow⟩:=hsh ft[j] (Qe hlj);have hrs:(P++(ft.take (j+1)).map λt=>out[k]++[t])=(P++(ft.take j).map λt=>out[k]++[t])++[out[k]++[[.str s,.vs ao nn cc]]]:=by
        rw[Qg hlj,Qq,Q7,Kl,hrow]
       have hget:ft.getD j []=[.str s,.vs ao nn cc]:=by rw[List.getD_eq_getElem?_getD,List.getElem?_eq_getElem hlj];exact hrow
       generalize (P++(ft.take j).map λt=>out[k]++[t])=W at hPl hrs⊢;by_cases hmost:P.length+j=zbm
       ·have hmost':((W.length:Int)==(zbm:Int))=true:=by rw[Jo];omega
        have hfail:¬(out.flatMap λl=>ft.map λt=>l++[t]).length<=zbm:=by
         have:=hpre (j+1) Zi;omega
        rw[if_neg hfail]at heq;rw[heq];exact Z0 hlj hmost'
       ·have hmost':((W.length:Int)==(zbm:Int))=false:=by rw[Yf];omega
        have hb1:out[k].length<=4294967295:=by omega
        have hb2:W.length<=4294967295:=by omega
        refine Zr hlj hmost' ?_;refine drawn Zh ?_;have hkget:(out.map λl=>[T.sl 2 l]).getD k []=[.sl 2 out[k]]:=by rw[List.getD_eq_getElem?_getD,List.getElem?_map,List.getElem?_eq_getElem hlk];rfl
        simp -implicitDefEqProofs only[go_sem,hlk,hlj,hkget,hget];have hb3:out[k].length<=4294967296:=by omega
        have hfr:flR out[k]=true:=by
         have:∀l:List (List T),(∀q∈l,q∈ft)->flR l=true:=by
          intro l;induction l with
          | nil=>intro _;rfl
          | cons q l ih =>
           intro h;obtain⟨s,ao,n,c,rfl⟩:=hsh q (h q (by simp));rw[flR,ih λx hx=>h x (by simp[hx])];rfl
         exact this _ (hel out[k] (Qe hlk)).2
        refine za7 Xu ?_;refine Xv ?_;refine zcx true Xu ?_;refine Xv ?_;refine za7 Xu ?_;refine Xv ?_;refine zcx true Xu ?_;refine Xv ?_;refine za7 Xu ?_;refine Xv ?_;refine zcx true Xu ?_;refine Xv ?_;refine⟨Zh,j+1,⟨hlj,Zi⟩,Zi,zab ?_⟩;refine Zj ?_;rw[zaf Zi,hrs,Qq];exact⟨rfl,rfl⟩
      ·have ht:ft.take j=ft:=Ql Zi;refine Zk hlj ?_;refine⟨k+1,⟨hlk,by rw[hpart,Qb,Qa];omega⟩,Zi,zab ?_⟩;refine Zj ?_;rw[zaf Zi,hpart,ht];exact⟨rfl,rfl⟩
    ·have ht:out.take k=out:=Ql Zi;rw[ht]at hkm;rw[if_pos hkm]at heq;simp -implicitDefEqProofs only[go_sem,hlk,ht];refine⟨i+1,⟨hin,Or.inr (by rw[hnx];exact hkm),by rw[heq,show n-(i+1)=r by omega]⟩,Zi,Wk.fzO 640 ?_⟩;refine Zj ?_;refine zab ?_;refine Zj ?_;rw[zaf Zi,hnx];exact⟨rfl,rfl⟩
  ·have hin':((i:Int)<(n:Int))=False:=eq_false Zi;rw[show n-i=0 by omega,zi9]at heq;rw[heq];exact Zl hin'
theorem zo8 {α β:Type}(f:α->β)(xs:List α)(zbm:Nat):∀(r i:Nat),zi9 (xs.map f) zbm r i=((zi9 xs zbm r i).1.map (List.map f),(zi9 xs zbm r i).2)
 | 0,i=>by rw[zi9,zi9,zf3]
 | r+1,i=>by
  rw[zi9,zi9,zf3,Qa];split
  ·exact zo8 f xs zbm r (i+1)
  ·rw[zf3]
theorem qgg {α:Type}(xs:List α)(zbm:Nat):∀(r i:Nat),∀l∈(zi9 xs zbm r i).1,∀t∈l,t∈xs
 | 0,i=>λl hl=>(zin xs i l hl).2
 | r+1,i=>by
  rw[zi9];split
  ·exact qgg xs zbm r (i+1)
  ·exact λl hl=>(zin xs i l hl).2
theorem zxl {w:World}{A:Nat->Prop}:∀{zl:List (List T×Tm)},(∀z∈zl,zjk w A z.1 z.2)->zby w A (zl.map (·.1)) (zl.map (·.2))
 | [],_=>rfl
 | z::zl,h=>⟨z.2,_,rfl,h z (by simp),zxl λq hq=>h q (by simp[hq])⟩
theorem zby.zip {w:World}{A:Nat->Prop}:∀{rs:List (List T)}{ts:List Tm},zby w A rs ts->∀z∈rs.zip ts,zjk w A z.1 z.2
 | [],_,_,z,hz=>by simp at hz
 | _::_,_,h,z,hz=>by
  obtain⟨t,ts,rfl,h1,h2⟩:=h;rcases Qs.1 hz with rfl|hz
  ·exact h1
  ·exact zby.zip h2 z hz
theorem zkf {w:World}{A:Nat->Prop}{b:Nat}:∀(L:List (List (List T×Tm)))(o:Nat),(∀zl∈L,∀z∈zl,zjk w A z.1 z.2)->zal w A b o 1 (L.map λzl=>[.sl 2 (zl.map (·.1))])->zal w A b o 1 (L.map λzl=>[tmS (zl.map (·.2))])
 | [],o,_,_=>by unfold zal;trivial
 | zl::L,o,hz,h=>by
  rw[Qk,zal]at h⊢;obtain⟨_,⟨⟨v,h1,h2⟩,_⟩,h3⟩:=h;exact⟨rfl,⟨⟨v,h1,zai.deepL (λ_ q=>q) (λ_ q=>q) h2 (zxl (hz zl (by simp)))⟩,trivial⟩,zkf L (o+1) (λq hq=>hz q (by simp[hq])) h3⟩
abbrev qop (xs:List (List Tm)):T:=.sl 1 (xs.map λs=>[tmS s])
theorem zz1 (ts:List Tm)(n zbm:Nat)(hts:ts.length<=1048576)(hn:n<=1048576)(hm:zbm<=1048576) :
  RC Tryz.prog 39 [.one (tmS ts),iD n,iD zbm] [.one (qop (zi9 ts zbm n 0).1),bD (zi9 ts zbm n 0).2]:=by
 refine⟨Tryz.call39,λw vs A hv=>?_⟩
 obtain⟨v,us,rfl,h1,h2⟩:=hv
 obtain⟨ft,f1,f2⟩:=zai.flatL (show zai w _ (tmS ts) v from h1)
 have hlen:=f2.len
 refine((l16F_c ft f2.shape n zbm Zi hn hm).2 w (v::us) A ⟨v,us,rfl,f1,h2⟩).mono ?_
 rintro e w' ⟨rs,rfl,hr,hb⟩
 refine⟨rs,rfl,?_,hb⟩
 obtain⟨u1,_,rfl,r1,r2⟩:=hr
 have e1:(ft.zip ts).map (·.1)=ft:=List.map_fst_zip Zi
 have e2:(ft.zip ts).map (·.2)=ts:=List.map_snd_zip Zi
 have g1:=zo8 (·.1) (ft.zip ts) zbm n 0
 have g2:=zo8 (·.2) (ft.zip ts) zbm n 0
 rw[e1]at g1
 rw[e2]at g2
 have hel:=qgg (ft.zip ts) zbm n 0
 rw[g1]at r1 r2
 rw[g2]
 generalize zi9 (ft.zip ts) zbm n 0=Z at r1 r2 hel⊢
 refine⟨u1,_,rfl,?_,r2⟩
 have hF:∀zl∈Z.1,∀z∈zl,zjk w' (λb=>b<w'.heap.size/\(A b\/w.heap.size<=b)) z.1 z.2:=λzl hzl z hz=>(f2.zip z (hel zl hzl z hz)).keep (λb hb'=>hb.block b hb'.1) λb hb'=>⟨Je hb'.1 hb.size,Or.inl hb'.2⟩
 have r1:zai w' _ (rwS (Z.1.map (List.map (·.1)))) u1:=r1
 show zai w' _ (qop (Z.1.map (List.map (·.2)))) u1
 unfold zai at r1⊢
 obtain⟨ao,cap,rfl,q1,q2,q3⟩:=r1
 simp only[Qa,Jj,Yy]at q1 q3⊢
 refine⟨ao,cap,rfl,q1,q2,?_⟩
 rcases q3 with q3|⟨b,o,rfl,q4,q5⟩
 ·have:Z.1=[]:=J8.1 q3;rw[this];exact Or.inl rfl
 ·exact Or.inr ⟨b,o,rfl,q4,zkf Z.1 o hF q5⟩
end Go.Proofs.YtmhbmpbgpjljeaaGreat
