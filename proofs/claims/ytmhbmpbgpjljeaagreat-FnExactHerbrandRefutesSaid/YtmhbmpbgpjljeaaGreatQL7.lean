/-
  The walk over plain data, and contracts of functions of the program and of its laws.
  Conditions: those that each theorem names.
-/
import Derived.Test.YtmhbmpbgpjljeaaGreatQL6
import Derived.Test.YtmhbmpbgpjljeaaGreatQL4
import Derived.Test.YtmhbmpbgpjljeaaGreatQL5
import Derived.Shelf.GgSortFunc.InsertionK
import Derived.Lone
import Derived.Calls
namespace Go.Proofs.YtmhbmpbgpjljeaaGreat
set_option linter.unusedSimpArgs false
set_option linter.unusedVariables false
set_option linter.unusedSectionVars false
set_option maxRecDepth 4000
set_option maxHeartbeats 8000000
section
open Go.RowKit
section
variable {P:Program}
theorem ct0_A {n0:Nat->Prop}{N:Nat}{σ:St}{g:Gh}{a:Act}{w:World}(hR:Rel n0 N σ g a w){c:C}{t:T}(h:CT0 σ c t){v:Value}(hv:CR σ g w c v):zai w (λb=>b<w.heap.size/\g.A0 b) t v:=by
 have hF:∀b,Fix σ g w b->b<w.heap.size/\g.A0 b:=λb hb=>⟨hb.2.2.1,hb.2.2.2⟩
 have hFr:∀b,zcl σ g w b->b<w.heap.size/\g.A0 b:=λb hb=>hF b hb.1
 cases c with
 | t x =>
  have h:x=t:=h;subst h;exact zai.keep (λ_ _=>rfl) hF x v hv
 | rn x =>
  have h:x=t:=h;subst h;exact zai.keep (λ_ _=>rfl) hFr x v hv
 | nl s =>
  cases t with
  | sl sz rows =>
   have h:rows=[]:=h;subst h;have hv:v=.slice none 0 0:=hv;subst hv;unfold zai;exact⟨none,0,rfl,Qp _,by simp,Or.inl rfl⟩
  | _=>exact h.elim
 | ow e n =>
  cases t with
  | sl sz rows =>
   obtain⟨d,o,he⟩:=h;obtain⟨rfl,-⟩:=hv;cases o
   ·exact zai.keep (λ_ _=>rfl) hF _ _ (hR.offs e _ he rfl).1
   ·have hOn:σ.On e:=⟨_,he,rfl⟩;have hlt:∀b∈g.φ e,b<w.heap.size:=(hR.evs e _ he rfl).lt;obtain⟨ao,cap,e1,e2,e3,e4⟩:=hR.evs e _ he rfl;unfold zai;refine⟨ao,cap,e1,e2,e3,?_⟩;rcases e4 with⟨_,_,e4,_⟩|⟨b,cells,ty,fps,k1,k2,k3,k4,k5⟩
    ·exact Or.inl e4
    ·have hA:∀b'∈g.φ e,b'<w.heap.size/\g.A0 b':=λb' hb'=>⟨hlt b' hb',(hR.ebase e hOn b' hb').1⟩;refine Or.inr ⟨b,0,k1,hA b (by rw[k2];simp),?_⟩;split at k5
     ·exact zak.rep b cells ty k3 0 sz rows fps k5 λb' hb'=>hA b' (by rw[k2];simp[hb'])
     ·exact zal.keep (λ_ _=>rfl) hF b rfl 0 sz rows k5.2
  | _=>exact h.elim
 | el cs o =>
  cases t with
  | ptr cs' =>
   obtain⟨rfl,rfl⟩:=h;obtain⟨b,q,h1,h2,h3⟩:=hv;unfold zai;exact⟨b,q,h1,hF b h2,za5.keep (λ_ _=>rfl) hF b rfl q cs h3⟩
  | _=>exact h.elim
 | er cs o =>
  cases t with
  | ptr cs' =>
   obtain⟨rfl,rfl⟩:=h;obtain⟨b,q,h1,h2,h3⟩:=hv;unfold zai;exact⟨b,q,h1,hFr b h2,za5.keep (λ_ _=>rfl) hFr b rfl q cs h3⟩
  | _=>exact h.elim
 | _=>cases t<;>exact h.elim
theorem qou {n0:Nat->Prop}{N:Nat}{σ:St}{g:Gh}{a:Act}{w:World}(hR:Rel n0 N σ g a w):∀{cs:List C}{ts:List T},zq5 σ cs ts->∀{vs:List Value},CRs σ g w cs vs->zae w (λb=>b<w.heap.size/\g.A0 b) ts vs
 | [],ts,h,vs,hv=>by rw[show ts=[] from h];unfold zae;exact hv
 | c::cs,ts,h,vs,hv=>by
  obtain⟨t,ts',rfl,h1,h2⟩:=h;obtain⟨v,vs',rfl,k1,k2⟩:=hv;unfold zae;exact⟨v,vs',rfl,ct0_A hR h1 k1,qou hR h2 k2⟩
def RVe (σ:St):List V->List D->Prop
 | [],[]=>True
 | .one c::vs,.one t::ds=>CT0 σ c t/\RVe σ vs ds
 | .agg cs::vs,.agg ts::ds=>zq5 σ cs ts/\RVe σ vs ds
 | _,_=>False
theorem RVe.rep {n0:Nat->Prop}{N:Nat}{σ:St}{g:Gh}{a:Act}{w:World}(hR:Rel n0 N σ g a w):∀{vs:List V}{ds:List D},RVe σ vs ds->∀{us:List Value},VRl σ g w vs us->zbc w (λb=>b<w.heap.size/\g.A0 b) ds us
 | [],[],_,us,hv=>hv
 | .one c::vs,.one t::ds,h,us,hv=>by
  obtain⟨u,us',rfl,k1,k2⟩:=hv;exact⟨u,us',rfl,ct0_A hR h.1 k1,RVe.rep hR h.2 k2⟩
 | .agg cs::vs,.agg ts::ds,h,us,hv=>by
  obtain⟨u,us',rfl,⟨q,rfl,k1⟩,k2⟩:=hv;exact⟨_,us',rfl,⟨q,rfl,qou hR h.1 k1⟩,RVe.rep hR h.2 k2⟩
 | [],_::_,h,_,_=>h.elim
 | .one _::_,[],h,_,_=>h.elim
 | .one _::_,.agg _::_,h,_,_=>h.elim
 | .agg _::_,[],h,_,_=>h.elim
 | .agg _::_,.one _::_,h,_,_=>h.elim
 | .tup _::_,[],h,_,_=>h.elim
 | .tup _::_,_::_,h,_,_=>h.elim
def PRe (P:Program)(rs:List ResultVar)(res:List D)(e:Exit)(σ:St):Prop:=match e with
 | .normal=>zaq (zbq P σ rs) λvs=>RVe σ vs res
 | .ret=>zaq (zbq P σ rs) λvs=>RVe σ vs res
 | _=>False
theorem zbs {f:FuncId}{fn:Func}{c:Code}{args res:List D}(hc:za8 P f)(hf:P.funcs[f]?=some fn)(hb:fn.body=some c)(hd:zcj fn.ntmps c=true)(hN:(rd args).length<=fn.ntmps)
  (h:ex P c [] (PRe P fn.results.toList res) (zd9 (rd args))):RC P f args res:=by
 refine⟨hc,λw vs A hv=>?_⟩
 refine calls_of_wp hf hb ?_
 have hg:∀(ds:List D) (vs:List Value),zbc w (λb=>b<w.heap.size/\A b) ds vs->zaw w (λb=>b<w.heap.size/\A b/\b∉([]:List Nat)) (rd ds) vs [] []:=by
  intro ds;induction ds with
  | nil=>intro vs h;exact⟨h,rfl,rfl⟩
  | cons d ds ih =>
   rintro vs ⟨v,vs',rfl,h1,h2⟩;refine⟨v,vs',rfl,?_,ih _ h2⟩;cases d with
   | one t=>exact zai.keep (λ_ _=>rfl) (λb hb=>⟨hb.1,hb.2,by simp⟩) t _ h1
   | agg ts=>obtain⟨a,h0,h1⟩:=h1;exact⟨a,h0,zae.keep (λ_ _=>rfl) (λb hb=>⟨hb.1,hb.2,by simp⟩) ts a h1⟩
 obtain⟨g,hg,hR⟩:=Rel.start (A:=A) (A0:=λb=>A b\/w.heap.size<=b) (R0:=RP.of λ_=>True) (N:=fn.ntmps) (hg _ _ hv) Kn (zeo args) hN (λ_ hb=>Or.inl hb) (λb hb=>by simp at hb) (λb hb=>⟨Or.inr (by
  refine Nat.le_of_not_lt λhlt=>hb ⟨hlt,by simp⟩),trivial⟩)
 refine wp_mono (zbo (w0:=w) c (zd9 (rd args)) _ hd h g _ w hR (λk hk=>hk.1) (Bk.refl _ _) hg) λe a' w' hq=>?_
 obtain⟨σ',g',h1,h2,h3,h4,h5⟩:=hq
 have key:zaq (zbq P σ' fn.results.toList) (λvs=>RVe σ' vs res)->∃v,(results fn a'.tmps).run P w'=.ok v w'/\∃us,Ending.returned v=.returned (zcm us)/\zbc w' (λb=>b<w'.heap.size/\(A b\/w.heap.size<=b)) res us/\Below w.heap.size w w':=λhk=>by
  unfold zaq at hk;split at hk
  ·rename_i vs hvs;obtain⟨us,r1,r2⟩:=zb9 h2 fn hvs;refine⟨_,r1,us,rfl,(RVe.rep h2 hk r2).keep (λ_ _=>rfl) λb hb=>⟨hb.1,?_⟩,h4.os,h4.tape,h4.output,h4.size,λk hk=>h4.block k ⟨hk,by simp⟩⟩;have:=hb.2;simp only[Qx]at h5;rw[h5.1]at this;exact this
  ·exact hk.elim
 cases e with
 | normal=>exact⟨h2.defers,key h1⟩
 | ret=>exact⟨h2.defers,key h1⟩
 | exit _=>exact h1.elim
 | goto _=>exact h1.elim
 | panic _=>exact h1.elim
 | outgrown=>exact h1.elim
attribute [go_sem] PRe RVe
end
end
section
open Go.RowKit
theorem qb1 {α:Type}(L:List (List α))(k:Nat):(L.take k).flatten.length<=L.flatten.length:=by
 have:=congrArg (λl=>l.flatten.length) (Ke k L)
 simp only[Kq,Qb]at this
 omega
theorem zj9 {α β:Type}(f:α->List β)(w:α->Nat):∀(l:List α),(∀x∈l,(f x).length<=w x)->(l.map f).flatten.length<=(l.map w).sum
 | [],_=>by simp
 | a::l,h=>by
  have h1:=h a (by simp);have h2:=zj9 f w l λx hx=>h x (by simp[hx]);simp only[Qk,Q5,Qb,Jd];omega
theorem qgc {α:Type}(w:α->Nat):∀xs:List α,(xs.map λx=>1+w x).sum=xs.length+(xs.map w).sum
 | []=>rfl
 | a::l=>by rw[Qk,Jd,qgc w l,Qj,Qk,Jd];omega
theorem qqc:∀a:Tm,(voI a).length<=1+a.wt:=zbb λn xs ih=>by
 rw[zy6]
 split
 ·simp only[Qj,Qo];omega
 ·have h1:=zj9 voI (λx=>1+x.wt) xs ih;have h2:=qgc Tm.wt xs;have h3:=Tm.wt_eq (.mk n xs);simp only[Tm.name,Tm.args]at h3⊢;omega
end
section
open Go.RowKit
theorem qbl (a t:Tm):FC Tryz.prog 187 [tmD a,.one (.ptr (tmC t))] [bD (same a t)]:=by
 have H:=zbx a t
 simp only[tmD,zaa]at H⊢
 refine zam Tryz.call187 Tryz.func187 rfl Zh (zat Zh) ?_
 simp -implicitDefEqProofs only[go_sem,Tryz.results187]
 refine callF (H) Zg ?_
 exact Zg
theorem qcy (ys:List Tm)(t:Tm)(hw:t.wt<=1048576)(hs:ys.length<=1048577):GC Tryz.prog 134 [(true,.one (tmS ys)),(false,tmD t)] [.one (tmS (zg2 ys t))]:=by
 have HF:=zbr ys (λa=>same a t) 187 [.ptr (tmC t)] λx _=>qbl x t
 have HC:=zf4 t hw
 have hv:zg2 ys t=if(ys.any λa=>same a t)=true then ys else ys++[t]:=rfl
 have ha:ys.length<=4294967295:=by omega
 simp only[tmD,zaa t]at HF HC⊢
 generalize (ys.any λa=>same a t)=b at HF hv
 refine zs4 Tryz.call134 Tryz.func134 rfl Zh (by simp only[Qj,Qo,Tryz.ntmps134];omega) (by simp[zb6,T.isPin]) ?_
 simp -implicitDefEqProofs only[go_sem,Tryz.results134]
 refine callF (HF) Zg ?_
 refine Zj ?_
 refine⟨λh=>?_,λh=>?_⟩
 ·rw[hv,if_pos (by simpa using h)];exact Or.inl rfl
 ·rw[hv,if_neg (by simpa using h)];refine callF (HC) Zg ?_;refine Zj ?_;refine za2 Zg ?_;refine Zj ?_;refine apD true (Zu ha) ?_;refine Zv ha ?_;exact Or.inl (by simp[tmS,zaa t])
theorem zhv:∀(ts ys:List Tm),(ts.foldl zg2 ys).length<=ys.length+ts.length
 | [],ys=>by simp
 | t::ts,ys=>by
  have h1:=zhv ts (zg2 ys t);have h2:(zg2 ys t).length<=ys.length+1:=by unfold zg2;split<;>simp
  rw[Ks,Qj];omega
end
section
open Go.RowKit
theorem zmz {a:Tm}(h:a.atomOk=true):nmA a=true:=by rw[zls,Qd]at h;exact h.1
structure Grd (ps:List (Str×Tm)):Prop where
 v:∀p∈ps,zax p.1=true
 g:∀p∈ps,p.2.good=true/\voS p.2=[]
theorem zy1 {t:Tm}(h:t.good=true):t.names=true:=by unfold Tm.good at h;rw[Qd]at h;exact h.2
end
section
open Go.RowKit
def grT (t:Tm):Bool:=t.good&&decide (voS t=[])
theorem zlx (l:List Str):(zb1 [] l).length=0↔l=[]:=by
 constructor
 ·intro h;cases l with
  | nil=>rfl
  | cons a l =>
   exfalso;have h1:∀(l ys:List Str),ys≠[]->zb1 ys l≠[]:=λl=>by
    induction l with
    | nil=>exact λys h=>h
    | cons a l ih =>
     intro ys h;show zb1 (zp7 ys a) l≠[]
     refine ih _ ?_;unfold zp7;split
     ·exact h
     ·simp
   have:zb1 [] (a::l)=zb1 (zp7 [] a) l:=rfl;rw[this]at h;exact h1 l (zp7 [] a) (by unfold zp7;simp) (Kc.1 h)
 ·rintro rfl;rfl
theorem qsj {t:Tm}(h:t.good=true):voI t=voS t/\t.ne=true:=zov t (zy1 h)
theorem zmn (t:Tm)(hw:t.wt<=1048576):FC Tryz.prog 124 [tmD t] [bD (grT t)]:=by
 have HI:=ze0 t Zi
 have hv:grT t=(t.good&&decide (voS t=[])):=rfl
 rw[hv]
 cases hg:t.good
 ·rw[hg]at HI;rw[Q4];simp only[tmD,zaa t]at HI⊢;refine zcc Tryz.call124 Tryz.func124 rfl Zh (zat Zh) ?_;simp -implicitDefEqProofs only[go_sem,Tryz.results124];refine callF (HI) Zg ?_;exact Zg
 ·rw[hg]at HI;rw[Q2];obtain⟨h1,h2⟩:=qsj hg;have hl:=qqc t;have HC:=zsm t h2 Zi [] (by simp only[Qo];omega);have hd:(((zb1 [] (voI t)).length:Int)==0)=decide (voS t=[]):=by
   rw[J6,Jo,Q0,<-h1,<-zlx];omega
  rw[show zfg []=.sl 1 [] from rfl]at HC;generalize zb1 [] (voI t)=L at HC hd;simp only[tmD,zaa t]at HI HC⊢;refine zcc Tryz.call124 Tryz.func124 rfl Zh (zat Zh) ?_;simp -implicitDefEqProofs only[go_sem,Tryz.results124];refine callF (HI) Zg ?_;refine Zj ?_;refine zei [1,4,5] [6] [] (HC) X4 X4 X4 X4 ?_;exact X4
theorem qlq:∀a:Tm,(voS a).length<=1+a.wt:=zbb λn xs ih=>by
 rw[znr]
 split
 ·simp only[Qj,Qo];omega
 ·have h1:=zj9 voS (λx=>1+x.wt) xs ih;have h2:=zoj Tm.wt xs;have h3:(Tm.mk n xs).wt=n.length+xs.length+(xs.map Tm.wt).sum:=Tm.wt_eq _;simp only[Tm.args];omega
theorem zpc {t:Tm}(h:t.good=true):t.wt<=240:=by
 have h1:=zx6 t (zy1 h)
 unfold Tm.good zc7 at h
 simp only[Qd,Q0]at h
 omega
theorem qht {ns:List Str}{ts:List Tm}(hv:∀n∈ns,zax n=true)(ht:ts.all grT=true):Grd (ns.zip ts):=by
 refine⟨λp hp=>hv _ (List.of_mem_zip hp).1,λp hp=>?_⟩
 have:=Qr.1 ht _ (List.of_mem_zip hp).2
 unfold grT at this
 rw[Qd,Q0]at this
 exact this
end
section
open Go.RowKit
theorem GCmp.flip {α:Type}{c:α->α->Int}(h:GCmp c):GCmp λa b=>c b a:=⟨λa b=>h.neg b a,λa b d h1 h2=>h.tr d b a h2 h1⟩
def zd2 (a b:Li):Int:=orE (zc9 a.atom b.atom) (zkk b.pos a.pos)
theorem zc5:GCmp zd2:=GCmp.lex (zdk.comp Li.atom) (GCmp.comp zh9.flip Li.pos)
theorem qa1:∀{x y:Bool},zkk x y=0↔x=y:=by decide
theorem zn5 {x y:Int}:orE x y=0↔x=0/\y=0:=by
 unfold orE
 split<;>simp_all
theorem zfz {a b:Li}:zd2 a b=0↔a=b:=by
 unfold zd2
 rw[zn5,zen,qa1]
 cases a;cases b
 simp only[Li.mk.injEq]
 exact⟨λh=>⟨h.2.symm,h.1⟩,λh=>⟨h.2,h.1.symm⟩⟩
def okc (ls:List Li):Prop:=∀k (h:k<ls.length),ls[k].atom.atomOk=true/\(0<k->zd2 (ls[k-1]'Zi) ls[k]<0)
noncomputable def Cq.ok (c:Cq):Bool:=decide (c.lits.length<=8)&&dec (okc c.lits)
def Cq.vo (c:Cq):List Str:=(c.lits.map λl=>voS l.atom).flatten
noncomputable def grC (c:Cq):Bool:=c.ok&&decide (c.vo=[])
theorem zcp {c:Cq}(h:c.ok=true):∀l∈c.lits,l.atom.atomOk=true:=λl hl=>by
 unfold Cq.ok at h
 rw[Qd,zb8]at h
 obtain⟨k,hk,rfl⟩:=Js hl
 exact(h.2 k hk).1
theorem zfq {c:Cq}(h:c.ok=true):c.lits.length<=8:=by
 unfold Cq.ok at h
 rw[Qd]at h
 exact Kw h.1
theorem qha {c:Cq}(h:grC c=true):c.ok=true:=by
 unfold grC at h
 exact((Qd _ _).mp h).1
def atL (ls:List Li):List Tm:=ls.map Li.atom
def atC (cs:List Cq):List Tm:=(cs.map λc=>atL c.lits).flatten
noncomputable def gaL (cs:List Cq):List Tm:=(atC cs).foldl zdg []
noncomputable def zp2 (cs:List Cq):Bool:=decide (cs.length<=40)&&cs.all grC&&decide ((gaL cs).length<=12)
noncomputable def gaR (cs:List Cq):List Tm:=if zp2 cs=true then gaL cs else []
theorem qqz (ts:List Tm):(ts.foldl zg2 []).Perm (ts.foldl zdg []):=by
 refine(Ys (zzd _ Kn) (zii (zlo _ List.Pairwise.nil))).2 λt=>?_
 rw[zkw,zky]
theorem qgz (cs:List Cq):zpi (gaL cs):=zlo _ List.Pairwise.nil
theorem qnx {cs:List Cq}{t:Tm}:t∈gaL cs↔t∈atC cs:=by unfold gaL;rw[zky];simp
theorem ztv {cs:List Cq}{t:Tm}:t∈atC cs↔∃c∈cs,∃l∈c.lits,l.atom=t:=by
 unfold atC atL
 simp only[Ki,Ka]
 constructor
 ·rintro⟨_,⟨c,hc,rfl⟩,h⟩;obtain⟨l,hl,rfl⟩:=Ka.1 h;exact⟨c,hc,l,hl,rfl⟩
 ·rintro⟨c,hc,l,hl,rfl⟩;exact⟨_,⟨c,hc,rfl⟩,List.mem_map_of_mem hl⟩
def upT:Tm->Bool:=Tm.fold λn _ rs=>decide (0<n.length)&&(zh2 (n.getD 0 0)==zax n)&&rs.all id
theorem zm6 (a:Tm):upT a=(decide (0<a.name.length)&&(zh2 (a.name.getD 0 0)==zax a.name)&&a.args.all upT):=by
 unfold upT
 rw[Tm.fold_eq,List.all_map]
 rfl
theorem zv6:∀a:Tm,a.names=true->upT a=true:=zbb λn xs ih h=>by
 rw[Tm.names_eq]at h
 rw[zm6]
 change (if zax n=true then decide (xs.length=0)else zbt n&&decide (xs.length<=4)&&xs.all Tm.names)=true at h
 change (decide (0<n.length)&&(zh2 (n.getD 0 0)==zax n)&&xs.all upT)=true
 by_cases hv:zax n=true
 ·rw[if_pos hv]at h;obtain⟨h1,h2⟩:=ze7 hv;have hx:xs=[]:=Kc.1 (Kw h);subst hx;rw[h1,hv];simp[h2]
 ·rw[if_neg hv]at h;simp only[Qd]at h;obtain⟨h1,h2⟩:=zdx h.1.1;rw[h1,show zax n=false by simpa using hv];simp only[Qd,Q0];exact⟨⟨h2,rfl⟩,Qr.2 λx hx=>ih x hx (Qr.1 h.2 x hx)⟩
theorem zlb {a:Tm}(h:a.atomOk=true):upT a=true:=by
 unfold Tm.atomOk at h
 split at h
 ·rename_i he;have he:a.name=[61]:=by simpa using he
  simp only[Qd,Q0]at h;rw[zm6,he];rw[Qd];exact⟨by decide,Qr.2 λx hx=>zv6 x (Qr.1 h.2 x hx)⟩
 ·simp only[Qd]at h;have:=h.2;unfold Tm.good at this;rw[Qd]at this;exact zv6 a this.2
end
section
open Go.RowKit
def zkh (w:World)(A:Nat->Prop)(r:List T)(a:Li):Prop:=∃ao l c,r=[.bool a.pos,.str a.atom.name,.vs ao l c]/\zai w A (tmS a.atom.args) (.slice ao l c)
theorem zkh.keep {w w':World}{A A':Nat->Prop}(hs:∀b,A b->w'.heap[b]?=w.heap[b]?)(ha:∀b,A b->A' b){r:List T}{t:Li}(h:zkh w A r t):zkh w' A' r t:=by
 obtain⟨ao,l,c,h1,h2⟩:=h
 exact⟨ao,l,c,h1,zai.keep hs ha _ _ h2⟩
theorem zt6 (a b:Li):same a b=(same a.pos b.pos&&same a.atom b.atom):=by
 cases a;cases b
 rw[J6]
 simp only[Qd,za9,Li.mk.injEq]
noncomputable def zjn (ls:List Li)(i:Nat):Bool:=i==0||!same ls[i]? ls[i-1]?
noncomputable def kp (ls:List Li)(j:Nat):List Nat:=(List.range j).filter (zjn ls)
theorem ztg (ls:List Li)(j:Nat):kp ls (j+1)=kp ls j++if zjn ls j=true then [j]else []:=by
 unfold kp
 rw[List.range_succ,Ya]
 congr 1
 rw[J7]
 split<;>simp
theorem qpl {ls:List Li}{j i:Nat}(h:i∈kp ls j):i<j:=by
 unfold kp at h
 exact K4.1 (Kp.1 h).1
noncomputable def cpt (ls:List Li)(fl:List (List T))(j:Nat):List (List T):=(kp ls j).map λi=>fl.getD i []
theorem zyg (ls:List Li)(fl:List (List T))(j:Nat):cpt ls fl (j+1)=cpt ls fl j++if zjn ls j=true then [fl.getD j []]else []:=by
 unfold cpt
 rw[ztg,Qq]
 split<;>rfl
def allK (ls:List Li)(j:Nat):Prop:=∀i,i<j->zjn ls i=true
theorem qnr {ls:List Li}{j:Nat}(h:allK ls j):kp ls j=List.range j:=by
 unfold kp
 rw[List.filter_eq_self]
 intro i hi
 exact h i (K4.1 hi)
theorem zu8 {ls:List Li}{fl:List (List T)}{j:Nat}(h:allK ls j)(hj:j<=fl.length):cpt ls fl j=fl.take j:=by
 unfold cpt
 rw[qnr h]
 apply List.ext_getElem
 ·simp;omega
 ·intro i h1 h2;simp only[Qa,List.length_range]at h1;simp only[Ym,List.getElem_range,Yz];rw[List.getD_eq_getElem?_getD,List.getElem?_eq_getElem Zi];rfl
theorem zka {ls:List Li}{i:Nat}(h0:0<i)(h:i<ls.length):zjn ls i=!same ls[i] (ls[i-1]'Zi):=by
 unfold zjn
 rw[List.getElem?_eq_getElem h,List.getElem?_eq_getElem Zi,show(i==0)=false by simp;omega]
 unfold same
 simp
end
section
open Go.RowKit
variable {P:Program}{N:Nat}
def vwM (P:Program)(t:TypeId)(x lo:Operand)(d:Nat)(K:St->Prop)(σ:St):Prop:=match σ.get P t x,σ.get P 0 lo with
 | .one (.ow e gn),.one (.t (.int _ k))=>zaq (σ.ev e) λy=>y.gen=gn/\(0<=k/\k<y.rows.length)/\(elT P t).bind (zbe P)=some y.sz/\K (σ.put (some d) (.one (.vw e gn y.sz k.toNat)))
 | _,_=>False
theorem qp5 {ks:List Fr}{Q:Exit->St->Prop}{σ:St}{ops:Array Oper}{os:List Oper}{d:Nat}{t:TypeId}{x lo:Operand}{ty:TypeId}{ps:String}{af:Array Edge}(k:vwM P t x lo d (exo P ops os ks Q) σ):exoS P ops ⟨some d,.slice t x (some lo) none none,ty,ps,af,none⟩ os ks Q σ:=by
 unfold vwM at k
 split at k
 ·rename_i e gn kk k' s1 s2;obtain⟨y,he,h3⟩:=zao k;obtain⟨dp,sz,rows,g',on⟩:=y;obtain⟨rfl,⟨h0,hl⟩,hsz,hK⟩:=h3;simp only at hl hsz hK;refine zag.toX (zag.value (x:=.one (.vw e g' sz k'.toNat)) λn0 N g a w hR=>?_) hK;have v1:=hR.get P t x;rw[s1]at v1;obtain⟨v1,hh⟩:=v1;obtain⟨b,cap,e1⟩:=hR.sliceOf he (by intro h0;simp only at h0;rw[h0]at hl;simp at hl;omega);obtain⟨ao',cap',e2,e3,e4⟩:=hR.sliceAny he;have hcc:cap=cap':=by
   have:=e1.symm.trans e2;simp only[Value.slice.injEq]at this;exact this.2.2
  subst hcc;simp only at e1 e2 e3;obtain⟨kn,rfl⟩:∃kn:Nat,k'=kn:=⟨k'.toNat,Zi⟩;have hkl:kn<rows.length:=by omega
  obtain⟨el,hel,hse⟩:=qnl hsz;have hbn:=zds (P:=P) (low:=some lo) (high:=none) (len:=rows.length) (cap:=cap) hR true (l:=(kn:Int)) (u:=(rows.length:Int)) (by simp only[zma,s2]) rfl Zi Zi Zi Zi;refine⟨.slice (some ⟨b,kn*sz,none⟩) (rows.length-kn) (cap-kn),?_,b,rows.length,cap,e1,by rw[Yk],by rw[Yk];exact hkl,hh⟩;unfold execOp;have hcp:¬cap=kn:=by omega
  rw[Yk,Yk,Q9,J5]at hbn;simp only[Instr.sliceAt,Instr.slice,Sem.run_bind,run_underlying hel,Result.andThen,v1,e1,Q9,J5,hbn,zbu hse,Sem.run_pure];rw[if_neg hcp];simp only[Addr.add]
  congr 2
  split<;>simp_all
 ·exact k.elim
def PSJ (P:Program)(rs:List ResultVar)(res:List D)(e:Exit)(σ:St)(_:Hj):Prop:=match e with
 | .normal=>zaq (zbq P σ rs) λvs=>qey σ [] vs res
 | .ret=>zaq (zbq P σ rs) λvs=>qey σ [] vs res
 | _=>False
theorem qn4 {f:FuncId}{fn:Func}{c:Code}{args:List (Bool×D)}{res:List D}{R:Nat->Prop}{I:World->Prop}(hk:zs2 R I)(hf:P.funcs[f]?=some fn)(hb:fn.body=some c)(hN:args.length<=fn.ntmps)(hs:zb6 args)
  (h:zba P fn.ntmps c (zd9 args) ⟨λ_=>False,R,I⟩ (PSJ P fn.results.toList res)) (w:World) (vs:List Value) (fp tp:List Nat) (hv:zaw w (λb=>b<w.heap.size/\b∉fp) args vs fp tp) (hn:fp.Nodup) (hI:I w) (hR0:∀x,R x->x<w.heap.size/\x∉fp) :
  Calls P f ⟨vs⟩ w λe w'=>∃us fp' tp',e=.returned (zcm us)/\GDs w' res us fp' tp'/\fp'.Nodup/\(∀b∈fp',b∈fp\/w.heap.size<=b)/\Bk (λk=>k<w.heap.size/\k∉fp) w w':=by
 refine calls_of_wp hf hb ?_
 have hv':zaw w (λb=>b<w.heap.size/\True/\b∉fp) args vs fp tp:=zaw.keepA (λb hb=>⟨hb.1,trivial,hb.2⟩) hv
 obtain⟨g,hg,hR⟩:=Rel.start (A0:=λ_=>True) (R0:=RP.of λb=>b∈fp\/w.heap.size<=b) (N:=fn.ntmps) hv' hn hs hN (λ_ _=>trivial) (λb hb=>⟨trivial,Or.inl hb⟩) (λb hb=>⟨trivial,by
  by_cases hlt:b<w.heap.size
  ·exact Or.inl (Classical.byContradiction λh=>hb ⟨hlt,h⟩)
  ·exact Or.inr Zi⟩)
 have e2:g.R0=RP.of λb=>b∈fp\/w.heap.size<=b:=(Jr hg).2
 refine wp_mono (h (λb=>b<w.heap.size/\b∉fp) w (λ_=>True,RP.of λb=>b∈fp\/w.heap.size<=b) g _ w ⟨⟨_,λ_ q=>q,⟨⟨λ_ _ q=>q,λw1 w2 hs hi=>hk w1 w2 (λx hx=>hs x (Or.inr hx)) hi⟩,λ_ q=>q.elim,hR0,hI⟩,hR,λk q=>q.1⟩,λ_ q=>q.elim,λ_ _=>trivial,e2,λb hb=>⟨trivial,by
  by_cases hlt:b<w.heap.size
  ·exact Or.inl (Classical.byContradiction λh=>hb ⟨hlt,h⟩)
  ·exact Or.inr Zi⟩⟩ (λk q=>q.1) (Bk.refl _ _)) λe a' w' hq=>?_
 obtain⟨σ',J',g',h1,h2,h3,h4⟩:=hq
 obtain⟨n1,m1,m2,m3,m4⟩:=h2.rel
 have key:(zaq (zbq P σ' fn.results.toList) λvs=>qey σ' [] vs res)->∃v,(results fn a'.tmps).run P w'=.ok v w'/\∃us fp' tp',Ending.returned v=.returned (zcm us)/\GDs w' res us fp' tp'/\fp'.Nodup/\(∀b∈fp',b∈fp\/w.heap.size<=b)/\Bk (λk=>k<w.heap.size/\k∉fp) w w':=λhk=>by
  obtain⟨vs,hvs,hk⟩:=zao hk;obtain⟨us,r1,r2⟩:=zb9 m3 fn hvs;obtain⟨used,fp',tp',o1,o2⟩:=zem m3 hk r2;refine⟨_,r1,us,fp',tp',rfl,o1,o2.1,λb hb=>?_,h4⟩;obtain⟨e,_,_,l,m⟩:=o2.2.1 b hb;have:=(m3.ebase e l b m).2;rw[h2.r0]at this;exact this
 cases e with
 | normal=>exact⟨m3.defers,key h1⟩
 | ret=>exact⟨m3.defers,key h1⟩
 | exit _=>exact h1.elim
 | goto _=>exact h1.elim
 | panic _=>exact h1.elim
 | outgrown=>exact h1.elim
theorem zdd.fc {ops:Array Oper}{i:Nat}{σ:St}{J:Hj}{K:St->Hj->Prop}{d:Nat}{q:Operand}{asx:Array Operand}{ts:Array TypeId}{ty:TypeId}{ps:String}{af:Array Edge}{f:FuncId}{ds:List D}{b:Bool}(H:FC P f ds [.one (.bool b)])
  (hl:ops[i]?=some ⟨some d,.call ⟨.value q,asx,ts⟩,ty,ps,af,none⟩) (hd:d<N) (hc:za3 (σ.get P 0 q)=some (f,[]))
  {xs:List V} (hx:σ.gets P asx ts=xs) (ha:∀n1 g a w us,Rel n1 N σ g a w->LtK n1 w->OkJ J n1 g.A0 w->VRl σ g w xs us->zbc w (·<w.heap.size) ds us)
  (k:zdd P N ops (i+1) (σ.put (some d) (.one (.t (.bool b)))) J K):zdd P N ops i σ J K:=by
 refine zdd.call (λb' J'=>b'=b/\J'=J) hl hd (λn1 g a w hR hn hJ=>?_) λb' J' hb=>?_
 ·obtain⟨us,h1,h2⟩:=zd7 hR (o:=⟨some d,.call ⟨.value q,asx,ts⟩,ty,ps,af,none⟩) rfl hc H.1;rw[Kh,hx]at h2;refine⟨f,_,h1,(H.use (ha n1 g a w us hR hn hJ h2)).mono ?_⟩;rintro e w' ⟨us',fp,rfl,o1,_,_,o4⟩;obtain⟨v,_,f1,f2,rfl,rfl,hv,rfl,rfl⟩:=o1;have hv:zas w' (.bool b) v f1:=hv;unfold zas at hv;obtain⟨rfl,rfl⟩:=hv;exact⟨b,J,rfl,⟨rfl,rfl⟩,hJ.good,hJ.good.keep w w' (λx hx=>o4.block x (hn x (hx.elim (λq=>(hJ.F x q).1) (hJ.R x)))) hJ.I,λx hx=>⟨Or.inl hx,Je (hn x (hJ.F x hx).1) o4.size⟩,λ_ q=>q,o4.os,o4.tape,o4.output,o4.size,λx hx=>o4.block x hx.1⟩
 ·obtain⟨rfl,rfl⟩:=hb;exact k
end
section
open Go.RowKit
variable {P:Program}{N:Nat}
theorem zdd.step {ops:Array Oper}{i:Nat}{σ:St}{J:Hj}{K:St->Hj->Prop}{o:Oper}(hl:ops[i]?=some o)(hg:o.guard=none)(hd:∀d,o.dst=some d->d<N)(h:zch P o σ λσ'=>zdd P N ops (i+1) σ' J K):zdd P N ops i σ J K:=λQ n0 w0 A0 g a w hK h1 h2 h3=>by
 have hlt:i<ops.size:=(Array.getElem?_eq_some_iff.1 hl).1
 obtain⟨n1,k1,k2,k4,k5⟩:=h1.rel
 rw[show List.range' i (ops.size-i)=i::List.range' (i+1) (ops.size-(i+1)) by rw[show ops.size-i=(ops.size-(i+1))+1 by omega];rfl,wpOps_cons]
 unfold wpOp
 simp only[hl]
 rw[if_pos (by simp[Region.wanted,hg])]
 refine Or.inl (zca ?_ (h n1 N g a w k4 k5 hd))
 rintro a' w' ⟨σ',g',hK',m2,m3,m4,m5⟩
 exact hK' Q n0 w0 A0 g' a' w' hK (h1.keep k1 k2 m2 (k5.mono m3.size) m3 (by rw[m4,m5])) (h2.mono m3.size) (h3.trans (znk k1 m3))
theorem zer {w:World}{zt:List T}{z:List Value}(h:zav w zt z []):∀n,zav w (List.replicate n zt).flatten (List.replicate n z).flatten []
 | 0=>⟨rfl,rfl⟩
 | n+1=>by
  rw[Y3,Y3,Q5,Q5];exact h.append (zer h n)
theorem zf6 {sz:Nat}:∀{rows:List (List T)}(k:Nat),lens sz rows->(rows.take k).flatten=rows.flatten.take (k*sz)
 | [],k,_=>by simp
 | r::rs,0,_=>by simp
 | r::rs,k+1,h=>by
  have h1:=h r (by simp);rw[Y2,Q5,Q5,zf6 k λy hy=>h y (by simp[hy]),show(k+1)*sz=r.length+k*sz by rw[h1,Km];omega,List.take_length_add_append]
theorem zmc (z:Array Value)(n:Nat):(Builtin.zeroCells z n).toList=(List.replicate n z.toList).flatten:=by
 unfold Builtin.zeroCells
 apply List.ext_getElem
 ·simp
 ·intro i h1 h2;simp only[Array.toList_map,Array.toList_range,Ym,List.getElem_range];have hi:i<n*z.size:=by simpa using h1
  have hz:0<z.size:=Y4 λh=>by rw[h]at hi;omega
  have hm:i % z.size<z.size:=Nat.mod_lt _ hz;rw[getElem!_pos z (i % z.size) hm];have:∀(n i:Nat) (h:i<((List.replicate n z.toList).flatten).length),((List.replicate n z.toList).flatten)[i]=z[i % z.size]'(Nat.mod_lt _ hz):=by
   intro n;induction n with
   | zero=>intro i h;simp at h
   | succ n ih =>
    intro i h;simp only[Y3,Q5]at h⊢;by_cases hlt:i<z.size
    ·rw[List.getElem_append_left (by simpa using hlt)];simp[Nat.mod_eq_of_lt hlt]
    ·rw[List.getElem_append_right (by simpa using hlt)];rw[ih];have e:(i-z.toList.length) % z.size=i % z.size:=by
      rw[Kg,<-Nat.mod_eq_sub_mod Zi]
     simp only[e]
  exact(this n i h2).symm
theorem zku:∀{ts:List T}{vs:List Value}{f:List Nat}{w:World},(∀c∈ts,c.flat=true)->zav w ts vs f->f=[]
 | [],_,_,_,_,h=>h.2
 | c::ts,vs,f,w,hc,h=>by
  obtain⟨v,vs',f1,f2,_,rfl,h1,h2⟩:=h;rw[zku (λc' hc'=>hc c' (by simp[hc'])) h2,Kh];have hcf:=hc c (by simp);cases c<;>simp only[T.flat,Qz]at hcf<;>unfold zas at h1
  ·exact h1.2.2.2
  ·exact h1.2
  ·exact h1.2.2
  ·exact h1.2
theorem zyz {σ:St}{K:St->Prop}{d:Nat}{t el:TypeId}{x hi:Operand}{ty:TypeId}{ps:String}{af:Array Edge}{e gn sz k:Nat}{rows:List (List T)}{kk:IntKind}(s1:σ.get P t x=.one (.ow e gn))(s2:σ.get P 0 hi=.one (.t (.int kk k)))(he:σ.ev e=some ⟨true,sz,rows,gn,true⟩)
  (hfl:∀c∈rows.flatten,c.flat=true) (hkl:k<rows.length) (hel:elT P t=some el) (hsz:zbe P el=some sz) (hK:K ((σ.apd e [] ⟨true,sz,rows.take k,gn+1,true⟩).put (some d) (.one (.ow e (gn+1))))):zch P ⟨some d,.slice t x none (some hi) none,ty,ps,af,none⟩ σ K:=by
 intro n0 N g a w hR hn hdN
 have v1:=hR.get P t x
 rw[s1]at v1
 obtain⟨v1,-⟩:=v1
 obtain⟨vs0,fps,top,hT⟩:=hR.tgt he rfl
 have hlens:=hT.lens
 simp only at hlens
 rcases hT.val with⟨_,hh,_⟩|⟨b,cap,cells,cty,w1,w2,w3,w4,w5,w6,w7⟩
 ·simp only at hh;rw[hh]at hkl;simp at hkl
 simp only at w1 w2 w5 w6
 have hown:=hT.own rfl
 simp only at hown
 have hfps:=zku hfl hown
 subst hfps
 have hbn:=zds (P:=P) (low:=none) (high:=some hi) (len:=rows.length) (cap:=cap) hR true (l:=0) (u:=(k:Int)) rfl (by simp only[zma,s2]) Zi Zi Zi w2
 have hun:P.underlying t=some (.slice el):=zfv hel
 have e0:(execOp a.eval ⟨some d,.slice t x none (some hi) none,ty,ps,af,none⟩).run P w=.ok (.value (.slice (some ⟨b,0,none⟩) k cap)) w:=by
  unfold execOp;have hcp:¬cap=0:=by omega
  rw[Yk,show((0:Int).toNat)=0 from rfl,Q9,J5]at hbn;simp only[Instr.sliceAt,Instr.slice,Sem.run_bind,run_underlying hun,Result.andThen,v1,w1,Q9,J5,hbn,zbu hsz,Sem.run_pure];rw[if_neg hcp];simp only[Addr.add]
  congr 2
  simp
 unfold Oper.wp
 rw[e0]
 have hTl:(rows.take k).length=k:=by rw[Qc];omega
 have hR':=hR.apd_fin (w':=w) (y:=⟨true,sz,rows.take k,gn+1,true⟩) (v':=.slice (some ⟨b,0,none⟩) k cap) (fp':=[b]) (fps2:=[]) hT rfl (λm hm=>by
   obtain⟨q,hq,hmq⟩:=hm;rw[he,Qf]at hq;subst hq;simp only at hmq⊢
   exact⟨Zi,λem=>by omega⟩) (cons:=[]) (λp hp=>by simp at hp) (λb hb=>by simp at hb) b (Or.inl w7.symm) (λk _ _=>rfl) (Qp _) hn (by simp) (λc hc=>by
   simp only[Qv]at hc
   exact Or.inl hc) (λc hc=>by simpa using hc.symm) λA' hA'=>by
  refine⟨some ⟨b,0,none⟩,cap,by simp only[hTl],by simp only[hTl];omega,w3,Or.inr ⟨b,cells,cty,[],rfl,rfl,w4,w5,?_⟩⟩;simp only[if_true];have hl2:lens sz (rows.take k):=λr hr=>hlens r (Jt hr);rw[<-Ke (k*sz) rows.flatten,<-zf6 k hlens]at hown;obtain⟨u1,u2,f1,f2,hu,hf,k1,k2⟩:=hown.split;obtain⟨rfl,rfl⟩:=List.append_eq_nil_iff.1 hf.symm;refine zak.of_vals hl2 k1 λj u hj=>?_;have hju:vs0[j]?=some u:=by rw[hu,List.getElem?_append_left (List.getElem?_eq_some_iff.1 hj).1];exact hj
  have hc:cells.toList[j]?=some u:=by
   rw[<-w6,List.getElem?_take]at hju;split at hju
   ·exact hju
   ·cases hju
  rw[Qi];simpa using hc
 have hE:(σ.apd e [] ⟨true,sz,rows.take k,gn+1,true⟩).ev e=some ⟨true,sz,rows.take k,gn+1,true⟩:=by simp[St.apd,zah]
 exact⟨_,_,hK,hR'.put (some d) (x:=.one (.ow e (gn+1))) (v:=.slice (some ⟨b,0,none⟩) k cap) ⟨by simp only[zah],_,hE,Qp _⟩ (λj hj=>hdN j hj),Bk.refl _ _,rfl,rfl⟩
theorem zxx {σ:St}{K:St->Prop}{t el:TypeId}{x:Operand}{ty:TypeId}{ps:String}{af:Array Edge}{e gn sz k:Nat}{rows:List (List T)}{z:Value}{zt:List T}(s1:σ.get P t x=.one (.vw e gn sz k))(he:σ.ev e=some ⟨true,sz,rows,gn,true⟩)
  (hfl:∀c∈rows.flatten,c.flat=true) (hel:elT P t=some el) (hzv:∀w,(zeroValue el).run P w=.ok z w) (hzl:zt.length=sz) (hz1:∀v∈z.cells.toList,v.oneCell'=true) (hzt:∀w,zav w zt z.cells.toList [])
  (hK:K (σ.apd e [] ⟨true,sz,rows.take k++List.replicate (rows.length-k) zt,gn,true⟩)):zch P ⟨none,.call ⟨.builtin .clear,#[x],#[t]⟩,ty,ps,af,none⟩ σ K:=by
 intro n0 N g a w hR hn hdN
 have v1:=hR.get P t x
 rw[s1]at v1
 obtain⟨b0,n0',c0,q1,q2,q3,-⟩:=v1
 obtain⟨vs0,fps,top,hT⟩:=hR.tgt he rfl
 have hlens:=hT.lens
 simp only at hlens
 have hzs:z.cells.toList.length=sz:=by rw[<-hzl];exact(hzt w).len
 rcases hT.val with⟨hh,_⟩|⟨b,cap,cells,cty,w1,w2,w3,w4,w5,w6,w7⟩
 ·simp only at hh;rw[q1]at hh;cases hh
 simp only at w1 w2 w5 w6
 obtain⟨rfl,rfl,rfl⟩:b=b0/\rows.length=n0'/\cap=c0:=by
  have:=w1.symm.trans q1;simp only[Value.slice.injEq,Qf,Addr.mk.injEq]at this;exact⟨this.1.1,this.2.1,this.2.2⟩
 have hown:=hT.own rfl
 simp only at hown
 have hfps:=zku hfl hown
 subst hfps
 have hun:P.underlying t=some (.slice el):=zfv hel
 have hrl:rows.flatten.length=rows.length*sz:=zg4 hlens
 have hsub:k*sz+(rows.length-k)*sz=rows.length*sz:=by rw[<-Km];congr 1;omega
 have hcap:rows.length*sz<=cap*sz:=Kz _ w2
 have hvl:vs0.length=rows.length*sz:=hT.len
 have hzl2:((List.replicate (rows.length-k) z.cells.toList).flatten).length=(rows.length-k)*sz:=by simp[hzs]
 have hst:=run_storeCells_at P b (k*sz) cty ((List.replicate (rows.length-k) z.cells.toList).flatten) 0 cells w w4 (by rw[hzl2,w5];omega) (λv hv=>by
  obtain⟨l,hl,hv⟩:=Ki.1 hv;rw[Yn hl]at hv
  exact hz1 v hv)
 simp only[Yx]at hst
 rw[hzl2,hsub]at hst
 have hnew:cells.toList.take (k*sz)++(List.replicate (rows.length-k) z.cells.toList).flatten++cells.toList.drop (rows.length*sz)=vs0.take (k*sz)++(List.replicate (rows.length-k) z.cells.toList).flatten++cells.toList.drop (rows.length*sz):=by
  rw[<-w6,List.take_take,K7 Zi]
 rw[hnew]at hst
 have e1:(execOp a.eval ⟨none,.call ⟨.builtin .clear,#[x],#[t]⟩,ty,ps,af,none⟩).run P w=.ok (.value (.tuple #[])) (w.setRow b (vs0.take (k*sz)++(List.replicate (rows.length-k) z.cells.toList).flatten++cells.toList.drop (rows.length*sz)).toArray):=by
  obtain⟨n',hn'⟩:∃n',rows.length-k=n'+1:=⟨rows.length-k-1,Zi⟩;have hzc:=zmc z.cells (rows.length-k);rw[hn']at q2 hst hzc⊢;unfold execOp;simp[resolve,invoke,builtin,q2,Builtin.clear_,run_underlying hun,hzv,hzc,hst,Result.andThen]
 unfold Oper.wp
 rw[e1]
 have hsame:∀j,j≠b->(w.setRow b (vs0.take (k*sz)++(List.replicate (rows.length-k) z.cells.toList).flatten++cells.toList.drop (rows.length*sz)).toArray).heap[j]?=w.heap[j]?:=λj hj=>setRow_other w _ j _ hj
 have hblk:=setRow_heap w b cells (vs0.take (k*sz)++(List.replicate (rows.length-k) z.cells.toList).flatten++cells.toList.drop (rows.length*sz)).toArray cty (0,0) w4
 have hsize:(w.setRow b (vs0.take (k*sz)++(List.replicate (rows.length-k) z.cells.toList).flatten++cells.toList.drop (rows.length*sz)).toArray).heap.size=w.heap.size:=setRow_size _ _ _
 have hbk:Bk n0 w (w.setRow b (vs0.take (k*sz)++(List.replicate (rows.length-k) z.cells.toList).flatten++cells.toList.drop (rows.length*sz)).toArray):=⟨rfl,rfl,rfl,Za hsize.symm,λj hj=>hsame j λe'=>(hT.bx b (Or.inl w7.symm)).2.1.2.2 (e'▸hj)⟩
 generalize w.setRow b (vs0.take (k*sz)++(List.replicate (rows.length-k) z.cells.toList).flatten++cells.toList.drop (rows.length*sz)).toArray=w' at hsame hblk hsize hbk⊢
 have hyl:(rows.take k++List.replicate (rows.length-k) zt).length=rows.length:=by simp;omega
 have hR':=hR.apd_fin (w':=w') (y:=⟨true,sz,rows.take k++List.replicate (rows.length-k) zt,gn,true⟩) (v':=g.ψ e gn) (fp':=[b]) (fps2:=[]) hT rfl (λm hm=>⟨by
   obtain⟨q,hq,hmq⟩:=hm;rw[he,Qf]at hq;subst hq
   exact hmq,λem=>by simp only at em;rw[em]⟩) (cons:=[]) (λp hp=>by simp at hp) (λb hb=>by simp at hb) b (Or.inl w7.symm) (λj _ hj=>hsame j hj) (Za hsize.symm) hn (by simp) (λc hc=>by
   simp only[Qv]at hc
   exact Or.inl hc) (λc hc=>by simpa using hc.symm) λA' hA'=>by
  refine⟨some ⟨b,0,none⟩,cap,by rw[hyl];exact w1,by rw[hyl];exact w2,w3,Or.inr ⟨b,_,cty,[],rfl,rfl,hblk,?_,?_⟩⟩
  ·simp only[J3,Qb,Qc,Qm,hzl2,hvl,Kg,w5];omega
  ·simp only[if_true];have hl2:lens sz (rows.take k++List.replicate (rows.length-k) zt):=λr hr=>by
    rcases Qt.1 hr with h|h
    ·exact hlens r (Jt h)
    ·rw[Yn h];exact hzl
   rw[<-Ke (k*sz) rows.flatten,<-zf6 k hlens]at hown;obtain⟨u1,u2,f1,f2,hu,hf,k1,k2⟩:=hown.split;obtain⟨rfl,rfl⟩:=List.append_eq_nil_iff.1 hf.symm;have l1:u1.length=k*sz:=by rw[k1.len,zf6 k hlens,Qc,hrl];omega
   have ha:zav w' (rows.take k++List.replicate (rows.length-k) zt).flatten (u1++(List.replicate (rows.length-k) z.cells.toList).flatten) []:=by
    rw[Kq];exact(k1.keep λc hc=>by simp at hc).append (zer (hzt w') _)
   rw[hu,<-l1,List.take_left];refine zak.of_vals hl2 ha λj u hu=>?_;rw[Qi];simp only[List.getElem?_toArray];rw[List.getElem?_append_left (List.getElem?_eq_some_iff.1 hu).1];exact hu
 exact⟨_,_,hK,hR',hbk,rfl,rfl⟩
end
section
open Go.RowKit
def zkg (w:World)(A:Nat->Prop)(fl:List (List T))(ls:List Li):Prop:=∀i (h:i<fl.length)(h2:i<ls.length),zkh w A fl[i] ls[i]
theorem zkg.keep {w w':World}{A:Nat->Prop}(hs:∀b,A b->w'.heap[b]?=w.heap[b]?){fl:List (List T)}{ls:List Li}(h:zkg w A fl ls):zkg w' A fl ls:=λi h1 h2=>(h i h1 h2).keep hs λ_ q=>q
theorem zg0 (a b:Li):FC Tryz.prog 131 [liD a,liD b] [bD (same a b)]:=by
 simp only[liD,zaj]
 refine zam Tryz.call131 Tryz.func131 rfl Zh (zat Zh) ?_
 simp -implicitDefEqProofs only[go_sem,Tryz.results131]
 have H:=zbx a.atom b.atom
 simp only[tmD,zaa a.atom,zaa b.atom]at H
 refine⟨λh=>?_,λh=>?_⟩
 ·refine callF (H) Zg ?_;refine Zj ?_;rw[zt6,<-ze1 a.pos,h,Q2]
 ·rw[zt6,<-ze1 a.pos,h];rfl
theorem qh3 {σ:St}{g:Gh}{w:World}{A B:Nat->Prop}{p:Bool}{s:List UInt8}{ao:Option Addr}{n c:Nat}{a:Li}(h:zkh w A [.bool p,.str s,.vs ao n c] a)(hA:∀x,A x->B x){u:Value}(hu:VR σ g w (.agg [.t (.bool p),.t (.str s),.t (.vs ao n c)]) u):qbo w B (liD a) u:=by
 obtain⟨ao',l',c',e,hr⟩:=h
 simp only[Jv,T.bool.injEq,T.str.injEq,T.vs.injEq,and_true]at e
 obtain⟨rfl,rfl,rfl,rfl,rfl⟩:=e
 obtain⟨vs,rfl,v1,_,rfl,h1,v2,_,rfl,h2,v3,_,rfl,h3,rfl⟩:=hu
 refine⟨_,rfl,?_⟩
 have h1:zai w (Fix σ g w) (.bool a.pos) v1:=h1
 have h2:zai w (Fix σ g w) (.str a.atom.name) v2:=h2
 have h3:zai w (Fix σ g w) (.vs ao n c) v3:=h3
 unfold zai at h1 h2 h3
 subst h3
 rw[zaj]
 simp only[zae]
 exact⟨v1,_,rfl,by unfold zai;exact h1,v2,_,rfl,by unfold zai;exact h2,_,_,rfl,zai.keep (λ_ _=>rfl) hA _ _ hr,rfl⟩
theorem zxb {σ:St}{g:Gh}{w:World}{A B:Nat->Prop}{p q:Bool}{s t:List UInt8}{ao bo:Option Addr}{n c m d:Nat}{a b:Li}(h:zkh w A [.bool p,.str s,.vs ao n c] a)(k:zkh w A [.bool q,.str t,.vs bo m d] b)(hA:∀x,A x->B x){us:List Value}
  (hu:VRl σ g w [.agg [.t (.bool p),.t (.str s),.t (.vs ao n c)],.agg [.t (.bool q),.t (.str t),.t (.vs bo m d)]] us):zbc w B [liD a,liD b] us:=by
 obtain⟨u1,_,rfl,h1,u2,_,rfl,h2,rfl⟩:=hu
 exact⟨u1,_,rfl,qh3 h hA h1,u2,_,rfl,qh3 k hA h2,rfl⟩
theorem qkb {g:FuncId}{R:Nat->Prop}{fl:List (List T)}{ls:List Li}(hl:fl.length=ls.length)(hlen:fl.length<=1048576)(hsh:∀r∈fl,∃p s ao n c,r=[.bool p,.str s,.vs ao n c])(H:∀a∈ls,∀b∈ls,FC Tryz.prog g [liD a,liD b] [bD (same a b)]) :
  zba Tryz.prog Tryz.f230.ntmps (Tryz.f230.body.getD .skip) (zd9 [(true,.one (.sl 3 fl)),(false,.one (.fn g []))]) ⟨λ_=>False,R,λw=>zkg w R fl ls⟩ (PSJ Tryz.prog Tryz.f230.results.toList [.one (.sl 3 (cpt ls fl fl.length))]):=by
 have hflat:∀c∈fl.flatten,c.flat=true:=λc hc=>by
  obtain⟨r,hr,hc⟩:=Ki.1 hc;obtain⟨p,s,ao,n,cc,rfl⟩:=hsh r hr;simp only[Qs,K9,or_false]at hc;rcases hc with rfl|rfl|rfl<;>rfl
 show zba _ _ (Option.getD (some _) _) _ _ _
 refine zba.cut 0 rfl Zh ?_
 simp -implicitDefEqProofs only[go_sem,Tryz.results230]
 refine zba.seq ?_
 by_cases h2:fl.length<2
 ·have e2:((fl.length:Int)<2)=True:=eq_true Zi;have hk:cpt ls fl fl.length=fl:=by
   rw[zu8 (λi hi=>?_) (Qp _),K2];obtain rfl:i=0:=by omega
   simp[zjn]
  rw[hk];refine zba.ofEx Zh ?_;simp -implicitDefEqProofs only[go_sem,e2,PSJ]
 have e2:((fl.length:Int)<2)=False:=eq_false Zi
 refine zba.ofEx Zh ?_
 refine Zk e2 ?_
 refine zba.seq ?_
 refine zba.cut 0 rfl Zh ?_
 refine Zj ?_
 refine zba.block ?_
 refine zba.loop (λk:Nat=>hd [(0,.one (.ow 0 0)),(1,vT (.fn g [])),(5,vI k)] [] [(0,⟨true,3,fl,0,true⟩)]) (λ_=>⟨λ_=>False,R,λw=>zkg w R fl ls⟩) (λk=>1<=k/\k<=fl.length/\allK ls k) (λk=>fl.length-k) 1 (zab ?_) rfl ⟨Qp _,Zi,λi hi=>?_⟩ ?_
 ·exact Zg
 ·obtain rfl:i=0:=by omega
  simp[zjn]
 rintro k ⟨hk1,hkn,hall⟩
 by_cases hlt:k<fl.length
 ·have hw1:IntKind.i64.wrap ((k:Int)-1)=((k-1:Nat):Int):=by rw[zay Zi Zi];omega
  have hlt1:k-1<fl.length:=by omega
  obtain⟨p1,s1,ao1,n1,c1,hr1⟩:=hsh fl[k] (Qe hlt);obtain⟨p0,s0,ao0,n0,c0,hr0⟩:=hsh fl[k-1] (Qe hlt1);refine zba.cut 0 rfl Zh ?_;refine Xo ?_;refine zba.seq ?_;refine zba.block ?_;refine zba.seq (zba.drawn 10 Zh Zh Zh ?_);have hg1:fl.getD k []=[.bool p1,.str s1,.vs ao1 n1 c1]:=by rw[List.getD_eq_getElem?_getD,List.getElem?_eq_getElem hlt];exact hr1
  have hg0:fl.getD (k-1) []=[.bool p0,.str s0,.vs ao0 n0 c0]:=by rw[List.getD_eq_getElem?_getD,List.getElem?_eq_getElem hlt1];exact hr0
  simp -implicitDefEqProofs only[go_sem,hlt,hw1,hlt1,hg1,hg0];refine⟨Zh,?_⟩;have hL1:k<ls.length:=by omega
  have hL0:k-1<ls.length:=by omega
  have hke:=zka (ls:=ls) (i:=k) Zi hL1;refine zdd.fc (H ls[k] (Qe hL1) ls[k-1] (Qe hL0)) rfl (by simp only[Tryz.ntmps230];omega) Zg (by simp -implicitDefEqProofs only[go_sem];rfl) (λn1 g' a w us hR hn hJ hus=>?_) ?_
  ·have q1:=hJ.I k hlt hL1;have q0:=hJ.I (k-1) hlt1 hL0;rw[hr1]at q1;rw[hr0]at q0;exact zxb q1 q0 (λx hx=>hn x (hJ.R x hx)) hus
  refine zdd.done rfl ?_;refine Zj ?_;cases hs:same ls[k] ls[k-1]
  ·rw[hs]at hke;refine zba.ofEx Zh ?_;refine Zj ?_;refine zba.ofEx Zh ?_;refine Zj ?_;refine⟨k+1,⟨Zi,Zi,λi hi=>?_⟩,Zi,zab ?_⟩
   ·by_cases hik:i=k
    ·rw[hik,hke];rfl
    ·exact hall i Zi
   ·refine Zj ?_;rw[zaf Zi]
  ·rw[hs]at hke;refine zba.cond (b:=true) Zg (λ_=>?_) (λh=>by cases h);refine zba.cut 0 rfl Zh ?_;refine Zj ?_;refine qp5 ?_;simp -implicitDefEqProofs only[go_sem,vwM,hlt];have hkk:kp ls (k+1)=List.range k:=by rw[ztg,hke,qnr hall];simp
   have hck:cpt ls fl (k+1)=fl.take k:=by rw[zyg,hke,zu8 hall Zi];simp
   refine zba.seq ?_;refine zba.seq (zba.ofEx Zh ?_);refine Zj ?_;refine zba.block ?_;refine zba.loop (λz:Nat×List (List T)=>hd [(0,.one (.ow 0 0)),(1,vT (.fn g [])),(5,vI (kp ls (k+z.1)).length),(6,.one (.vw 0 0 3 k)),(7,vI z.1)] [] [(0,⟨true,3,z.2,0,true⟩)]) (λ_=>⟨λ_=>False,R,λw=>zkg w R fl ls⟩)
    (λz=>1<=z.1/\z.1+k<=fl.length/\z.2.length=fl.length/\z.2.take (kp ls (k+z.1)).length=cpt ls fl (k+z.1)/\z.2.drop (k+z.1-1)=fl.drop (k+z.1-1)/\(kp ls (k+z.1)).length<k+z.1/\∀r∈z.2,r∈fl)
    (λz=>fl.length-z.1) (1,fl) (zab ?_) rfl ⟨Qp _,Zi,rfl,?_,rfl,?_,λr hr=>hr⟩ ?_
   ·simp -implicitDefEqProofs only[go_sem,hkk,List.length_range]
   ·simp only[hkk,hck,List.length_range]
   ·simp only[hkk,List.length_range];omega
   rintro⟨j,Rr⟩ ⟨hj1,hjn,hRl,hRt,hRd,hcl,hRm⟩;simp only at hj1 hjn hRl hRt hRd hcl hRm⊢;by_cases hjt:j+k<fl.length
   ·have e3:((j:Int)<((Rr.length-k:Nat):Int))=True:=eq_true Zi;refine zba.cut 0 rfl Zh ?_;refine Zk e3 ?_;have hRg:∀i,k+j-1<=i->i<fl.length->Rr.getD i []=fl.getD i []:=λi h1 h2=>by
     have:=congrArg (λl=>l[i-(k+j-1)]?) hRd;simp only[List.getElem?_drop]at this;rw[show k+j-1+(i-(k+j-1))=i by omega]at this;rw[List.getD_eq_getElem?_getD,List.getD_eq_getElem?_getD,this]
    have hw2:IntKind.i64.wrap ((j:Int)-1)=((j-1:Nat):Int):=by rw[zay Zi Zi];omega
    obtain⟨q1,t1,bo1,m1,d1,hs1⟩:=hsh (fl[j+k]'Zi) (Qe Zi);obtain⟨q0,t0,bo0,m0,d0,hs0⟩:=hsh (fl[j-1+k]'Zi) (Qe Zi);have hg3:Rr.getD (j+k) []=[.bool q1,.str t1,.vs bo1 m1 d1]:=by rw[hRg _ Zi Zi,List.getD_eq_getElem?_getD,List.getElem?_eq_getElem Zi];exact hs1
    have hg4:Rr.getD (j-1+k) []=[.bool q0,.str t0,.vs bo0 m0 d0]:=by rw[hRg _ Zi Zi,List.getD_eq_getElem?_getD,List.getElem?_eq_getElem Zi];exact hs0
    have e4:((j:Int)+(k:Int)<(Rr.length:Int))=True:=eq_true Zi;have e5:(((j-1:Nat):Int)+(k:Int)<(Rr.length:Int))=True:=eq_true Zi;have hJ1:j+k<ls.length:=by omega
    have hJ0:j-1+k<ls.length:=by omega
    have hkj:=zka (ls:=ls) (i:=j+k) Zi hJ1;simp only[show j+k-1=j-1+k by omega]at hkj;have hkps:=ztg ls (k+j);have hcps:=zyg ls fl (k+j);have hkj:zjn ls (k+j)=!same ls[j+k] ls[j-1+k]:=by rw[Y9 k j];exact hkj
    have hRd2:Rr.drop (k+j)=fl.drop (k+j):=by
     have:=congrArg (List.drop 1) hRd;rw[Y6,Y6,show k+j-1+1=k+j by omega]at this;exact this
    have hcR:(kp ls (k+j)).length<Rr.length:=by omega
    have hwj:IntKind.i64.wrap ((j:Int)+1)=((j+1:Nat):Int):=zaf Zi;refine zba.seq ?_;refine zba.block ?_;refine zba.seq (zba.drawn 10 Zh Zh Zh ?_);simp -implicitDefEqProofs only[go_sem,e4,e5,hw2,hg3,hg4];refine⟨Zh,?_⟩;refine zdd.fc (H ls[j+k] (Qe hJ1) ls[j-1+k] (Qe hJ0)) rfl (by simp only[Tryz.ntmps230];omega) Zg (by simp -implicitDefEqProofs only[go_sem];rfl) (λn1 g' a w us hR hn hJ hus=>?_) ?_
    ·have q1:=hJ.I (j+k) Zi hJ1;have q0:=hJ.I (j-1+k) Zi hJ0;rw[hs1]at q1;rw[hs0]at q0;exact zxb q1 q0 (λx hx=>hn x (hJ.R x hx)) hus
    refine zdd.plain 1 (by decide) rfl Zh ?_;refine Zj ?_;refine zdd.done rfl ?_;refine Zj ?_;cases hs:same ls[j+k] ls[j-1+k]
    ·rw[hs]at hkj;rw[hkj]at hkps hcps;simp only[Ja,if_true]at hkps hcps;refine zba.ofEx Zh ?_;simp -implicitDefEqProofs only[go_sem,Ja,e4,hg3,hcR];have hst:zda Rr (kp ls (k+j)).length 0 [.bool q1,.str t1,.vs bo1 m1 d1]=Rr.set (kp ls (k+j)).length [.bool q1,.str t1,.vs bo1 m1 d1]:=by
      obtain⟨p2,s2,ao2,n2,c2,hr2⟩:=hsh Rr[(kp ls (k+j)).length] (hRm _ (Qe hcR));unfold zda setR;rw[List.getD_eq_getElem?_getD,List.getElem?_eq_getElem hcR,Kj,hr2];rfl
     have hwc:IntKind.i64.wrap (((kp ls (k+j)).length:Int)+1)=(((kp ls (k+j)).length+1:Nat):Int):=zaf Zi;have hfg:fl.getD (k+j) []=[.bool q1,.str t1,.vs bo1 m1 d1]:=by rw[Y9 k j,List.getD_eq_getElem?_getD,List.getElem?_eq_getElem Zi];exact hs1
     refine zi6 (by simp -implicitDefEqProofs only[go_sem];simp) ?_;refine Zr hst hwc ?_;refine zba.ofEx Zh ?_;refine Zj ?_;refine⟨(j+1,Rr.set (kp ls (k+j)).length [.bool q1,.str t1,.vs bo1 m1 d1]),⟨by simp only;omega,by simp only;omega,by simp only[Y5];exact hRl,?_,?_,?_,?_⟩,by simp only;omega,zab ?_⟩
     ·show(Rr.set _ _).take (kp ls (k+j+1)).length=cpt ls fl (k+j+1)
      rw[hkps,hcps,Qb,Jn,Qg (by rw[Y5];exact hcR),List.getElem_set_self,List.take_set_of_le (Qp _),hRt,hfg]
     ·show(Rr.set _ _).drop (k+j)=fl.drop (k+j)
      rw[List.drop_set_of_lt Zi];exact hRd2
     ·show(kp ls (k+j+1)).length<k+j+1
      rw[hkps,Qb,Jn];omega
     ·intro r hr;rcases List.mem_or_eq_of_mem_set hr with hr|rfl
      ·exact hRm r hr
      ·rw[<-hs1];exact Qe _
     ·refine Zk hwj ?_;rw[show k+(j+1)=k+j+1 from rfl,hkps,Qb,Jn]
    ·rw[hs]at hkj;rw[hkj]at hkps hcps;simp only[K8,Qz,if_false,Kh]at hkps hcps;refine zba.ofEx Zh ?_;simp -implicitDefEqProofs only[go_sem,K8];refine zba.ofEx Zh ?_;refine Zj ?_;refine⟨(j+1,Rr),⟨by simp only;omega,by simp only;omega,hRl,?_,hRd2,?_,hRm⟩,by simp only;omega,zab ?_⟩
     ·show Rr.take (kp ls (k+j+1)).length=cpt ls fl (k+j+1)
      rw[hkps,hcps];exact hRt
     ·show(kp ls (k+j+1)).length<k+j+1
      rw[hkps];omega
     ·refine Zk hwj ?_;rw[show k+(j+1)=k+j+1 from rfl,hkps]
   ·have hjn2:k+j=fl.length:=by omega
    have e3:((j:Int)<((Rr.length-k:Nat):Int))=False:=eq_false Zi;rw[hjn2]at hRt hcl;have hcR:(kp ls fl.length).length<Rr.length:=by omega
    have hRflat:∀c∈Rr.flatten,c.flat=true:=λc hc=>by
     obtain⟨r,hr,hc⟩:=Ki.1 hc;exact hflat c (Ki.2 ⟨r,hRm r hr,hc⟩)
    rw[hjn2];refine zba.cut 0 rfl Zh ?_;refine Zk e3 ?_;refine zba.seq (zba.region (zdd.plain 3 (by decide) rfl Zh ?_));refine Zj ?_;refine qp5 ?_;simp -implicitDefEqProofs only[go_sem,vwM,hcR];refine zdd.step rfl rfl (λd hd=>by cases hd) (zxx (x:=.tmp 61) (t:=45) (e:=0) (gn:=0) (sz:=3) (k:=(kp ls fl.length).length) (rows:=Rr) (zt:=[.bool false,.str [],.vs none 0 0]) Zg Zg hRflat Zh Tryz.zeroValue95 rfl ?_ ?_ ?_)
    ·intro v hv;simp only[Value.cells,Qs,K9,or_false]at hv;rcases hv with rfl|rfl|rfl<;>rfl
    ·intro w;refine⟨_,_,[],[],rfl,rfl,by unfold zas;exact⟨rfl,rfl⟩,_,_,[],[],rfl,rfl,by unfold zas;exact⟨rfl,by simp[zd1],rfl⟩,_,_,[],[],rfl,rfl,by unfold zas;exact⟨rfl,rfl⟩,rfl,rfl⟩
    have hcl2:(Rr.take (kp ls fl.length).length++List.replicate (Rr.length-(kp ls fl.length).length) [T.bool false,.str [],.vs none 0 0]).length=Rr.length:=by simp;omega
    have hTk:(Rr.take (kp ls fl.length).length++List.replicate (Rr.length-(kp ls fl.length).length) [T.bool false,.str [],.vs none 0 0]).take (kp ls fl.length).length=cpt ls fl fl.length:=by
     rw[Yw (by rw[Qc];omega)];exact hRt
    have hfl3:∀c∈(Rr.take (kp ls fl.length).length++List.replicate (Rr.length-(kp ls fl.length).length) [T.bool false,.str [],.vs none 0 0]).flatten,c.flat=true:=λc hc=>by
     obtain⟨r,hr,hc⟩:=Ki.1 hc;rcases Qt.1 hr with hr|hr
     ·exact hRflat c (Ki.2 ⟨r,Jt hr,hc⟩)
     ·rw[Yn hr]at hc;simp only[Qs,K9,or_false]at hc;rcases hc with rfl|rfl|rfl<;>rfl
    generalize Rr.take (kp ls fl.length).length++List.replicate (Rr.length-(kp ls fl.length).length) [T.bool false,.str [],.vs none 0 0]=Rz at hcl2 hTk hfl3⊢;refine zdd.done rfl ?_;refine Va ?_;refine zba.seq (zba.region (zdd.plain 2 (by decide) rfl Zh ?_));refine Zj ?_
    refine zdd.step rfl rfl (λd hd=>by
     have:d=64:=(Jg hd).symm;subst this;show 64<Tryz.f230.ntmps
     simp only[Tryz.ntmps230];omega) (zyz (el:=95) (e:=0) (gn:=0) (sz:=3) (k:=(kp ls fl.length).length) (rows:=Rz) (kk:=.i64) Zg Zg Zg hfl3 Zi Zh Zh ?_)
    rw[hTk];refine Va ?_;refine zdd.plain 1 (by decide) rfl Zh ?_;refine Zj ?_;refine zdd.done rfl ?_;refine Zj ?_;refine zba.ofEx Zh ?_;simp -implicitDefEqProofs only[go_sem,PSJ]
 ·have hke:k=fl.length:=by omega
  rw[hke]at hall;refine zba.cut 0 rfl Zh ?_;refine Xo ?_;refine zba.ofEx Zh ?_;simp -implicitDefEqProofs only[go_sem,PSJ];rw[zu8 hall (Qp _),K2]
end
section
open Go.RowKit
def qo5 (w:World)(z:List T×Li×List Nat):Prop:=∃ao l c,z.1=[.bool z.2.1.pos,.str z.2.1.atom.name,.vs ao l c]/\zas w (tmS z.2.1.atom.args) (.slice ao l c) z.2.2
theorem qo5.keep {w w':World}{z:List T×Li×List Nat}(h:qo5 w z)(hs:∀b∈z.2.2,w'.heap[b]?=w.heap[b]?):qo5 w' z:=by
 obtain⟨ao,l,c,h1,h2⟩:=h
 exact⟨ao,l,c,h1,zas.keep _ _ _ h2 hs⟩
theorem qn0 {w:World}{cells:Array Value}:∀(ls:List Li)(o:Nat)(fps:List Nat),zak w cells o 3 (ls.map liC) fps->∃zs:List (List T×Li×List Nat),zs.map (·.2.1)=ls/\fps=(zs.map (·.2.2)).flatten/\zak w cells o 3 (zs.map (·.1)) []/\∀z∈zs,qo5 w z
 | [],o,fps,h=>⟨[],rfl,by unfold zak at h;exact h,by unfold zak;rfl,by simp⟩
 | a::ls,o,fps,h=>by
  rw[Qk,zak]at h;obtain⟨_,f1,f2,rfl,h2,h3⟩:=h;obtain⟨zs,rfl,rfl,k3,k4⟩:=qn0 ls (o+3) f2 h3;rw[zaj]at h2;simp only[zbl]at h2;obtain⟨v1,g1,_,c1,rfl,o1,v2,g2,_,c2,rfl,o2,v3,g3,_,c3,rfl,o3,rfl⟩:=h2;have o1':=o1;have o2':=o2;have o3':=o3;unfold zas at o1' o2' o3';obtain⟨-,rfl⟩:=o1';obtain⟨-,-,rfl⟩:=o2';obtain⟨ao,cap,e3,-⟩:=o3';refine⟨([.bool a.pos,.str a.atom.name,.vs ao (a.atom.args.map tmC).length cap],a,g3)::zs,rfl,by simp,?_,?_⟩
  ·rw[Qk,zak];refine⟨rfl,[],[],rfl,?_,k3⟩;simp only[zbl];exact⟨v1,[],[],c1,rfl,o1,v2,[],[],c2,rfl,o2,v3,[],[],c3,rfl,by unfold zas;exact⟨e3,rfl⟩,rfl⟩
  ·intro z hz;rcases Qs.1 hz with rfl|hz
   ·exact⟨ao,_,cap,rfl,by rw[<-e3];exact o3⟩
   ·exact k4 z hz
theorem qh0 {w:World}{cells:Array Value}:∀(zs:List (List T×Li×List Nat))(o:Nat),zak w cells o 3 (zs.map (·.1)) []->(∀z∈zs,qo5 w z)->zak w cells o 3 (zs.map λz=>liC z.2.1) (zs.map (·.2.2)).flatten
 | [],o,_,_=>by unfold zak;rfl
 | z::zs,o,h,hz=>by
  rw[Qk,zak]at h;obtain⟨_,f1,f2,h1,h2,h3⟩:=h;obtain⟨rfl,rfl⟩:=List.append_eq_nil_iff.1 h1.symm;have ih:=qh0 zs (o+3) h3 λq hq=>hz q (by simp[hq]);obtain⟨ao,l,c,e,k⟩:=hz z (by simp);rw[e]at h2;rw[Qk,zak];refine⟨by rw[zaj];rfl,z.2.2,_,rfl,?_,ih⟩;rw[zaj];simp only[zbl]at h2⊢;obtain⟨v1,g1,f1,c1,e1,o1,v2,g2,f2,c2,e2,o2,v3,g3,f3,c3,e3,o3,rfl⟩:=h2;unfold zas at o3;obtain⟨rfl,rfl⟩:=o3;have o1':=o1;have o2':=o2;unfold zas at o1' o2';obtain⟨-,rfl⟩:=o1';obtain⟨-,-,rfl⟩:=o2';exact⟨v1,[],z.2.2,c1,rfl,o1,v2,[],z.2.2,c2,rfl,o2,_,z.2.2,[],c3,by simp,k,rfl⟩
theorem qni {α:Type}(ls:List Li)(zs:List α):((kp ls zs.length).filterMap λi=>zs[i]?).Sublist zs:=by
 have h1:((List.range zs.length).filterMap λi=>zs[i]?)=zs:=by
  apply List.ext_getElem?;intro i;have:∀(n:Nat),n<=zs.length->((List.range n).filterMap λi=>zs[i]?)=zs.take n:=by
   intro n;induction n with
   | zero=>intro _;simp
   | succ n ih =>
    intro hn;rw[List.range_succ,List.filterMap_append,ih Zi,Qg Zi];simp[List.getElem?_eq_getElem (show n<zs.length by omega)]
  rw[this zs.length (Qp _),K2]
 conv=>rhs;rw[<-h1]
 unfold kp
 exact List.Sublist.filterMap _ List.filter_sublist
theorem qns {α β:Type}(ls:List Li)(zs:List α)(f:α->β)(d:β):((kp ls zs.length).map λi=>(zs.map f).getD i d)=((kp ls zs.length).filterMap λi=>zs[i]?).map f:=by
 have:∀l:List Nat,(∀i∈l,i<zs.length)->(l.map λi=>(zs.map f).getD i d)=(l.filterMap λi=>zs[i]?).map f:=by
  intro l;induction l with
  | nil=>intro _;rfl
  | cons i l ih =>
   intro h;have hi:=h i (by simp);rw[Qk,ih λq hq=>h q (by simp[hq]),List.filterMap_cons,List.getElem?_eq_getElem hi];simp[List.getD_eq_getElem?_getD,hi]
 exact this _ λi hi=>qpl hi
noncomputable def qa5 (ls:List Li):List Li:=(kp ls ls.length).filterMap λi=>ls[i]?
theorem zpr (ls:List Li):(qa5 ls).Sublist ls:=qni ls ls
theorem qks {α:Type}{a b:List (List α)}(h:a.Sublist b):a.flatten.Sublist b.flatten:=by
 induction h with
 | slnil=>exact List.Sublist.refl _
 | cons x _ ih=>rw[Q5];exact ih.trans (List.sublist_append_right _ _)
 | cons_cons x _ ih=>rw[Q5,Q5];exact(List.Sublist.refl x).append ih
theorem zon (ls:List Li)(hlen:ls.length<=1048576):GC Tryz.prog 230 [(true,.one (liS ls)),(false,.one (.fn 131 []))] [.one (liS (qa5 ls))]:=by
 refine⟨Tryz.call230,λw vs fp tp hv hn=>?_⟩
 obtain⟨v,vs',f1,f2,t1,t2,rfl,rfl,rfl,⟨hv,-⟩,u,_,rfl,hu,rfl,rfl,rfl⟩:=hv
 rw[Kh]at *
 have hlt:=zas.lt _ _ _ hv
 obtain⟨zs,fq,hz1,hz2,hz3,hz4,hz5,hz6⟩:∃(zs:List (List T×Li×List Nat)) (fq:List Nat),zs.map (·.2.1)=ls/\f1=fq++(zs.map (·.2.2)).flatten/\zas w (.sl 3 (zs.map (·.1))) v fq/\(∀z∈zs,qo5 w z)/\fq.Nodup/\((zs.map (·.2.2)).flatten.Nodup/\∀b∈fq,b∉(zs.map (·.2.2)).flatten):=by
  have hv':=hv;unfold zas at hv';obtain⟨ao,cap,rfl,q1,q2,q3⟩:=hv';rcases q3 with⟨rfl,rfl,q3,rfl⟩|⟨b,cells,ty,fps,rfl,rfl,q3,q4,q5⟩
  ·have e:ls=[]:=J8.1 q3;subst e;exact⟨[],[],rfl,rfl,hv,by simp,Kn,Kn,by simp⟩
  ·obtain⟨zs,k1,rfl,k3,k4⟩:=qn0 ls 0 fps q5;have hzl:(zs.map (·.1)).length=(ls.map liC).length:=by rw[<-k1];simp
   refine⟨zs,[b],k1,rfl,?_,k4,by simp,(Jc.1 hn).2,λq hq=>by rw[Qv.1 hq];exact(Jc.1 hn).1⟩;unfold zas;exact⟨_,cap,by rw[hzl],by rw[hzl];exact q1,q2,Or.inr ⟨b,cells,ty,[],rfl,rfl,q3,q4,k3⟩⟩
 subst hz1 hz2
 have hltg:∀b∈(zs.map (·.2.2)).flatten,b<w.heap.size:=λb hb=>hlt b (Jz _ hb)
 have hgz:∀z∈zs,∀b∈z.2.2,b∈(zs.map (·.2.2)).flatten:=λz hz b hb=>Ki.2 ⟨z.2.2,Ka.2 ⟨z,hz,rfl⟩,hb⟩
 have hsh:∀r∈zs.map (·.1),∃p s ao n c,r=[.bool p,.str s,.vs ao n c]:=λr hr=>by
  obtain⟨z,hz,rfl⟩:=Ka.1 hr;obtain⟨ao,l,c,e,-⟩:=hz4 z hz;exact⟨_,_,ao,l,c,e⟩
 have hI:zkg w (λb=>b∈(zs.map (·.2.2)).flatten) (zs.map (·.1)) (zs.map (·.2.1)):=λi h1 h2=>by
  have hi:i<zs.length:=by simpa using h1
  simp only[Ym];obtain⟨ao,l,c,e,k⟩:=hz4 zs[i] (Qe hi);exact⟨ao,l,c,e,zas.rep _ _ _ k λb hb=>hgz _ (Qe hi) b hb⟩
 have hJ:=qkb (R:=λb=>b∈(zs.map (·.2.2)).flatten) (fl:=zs.map (·.1)) (ls:=zs.map (·.2.1)) (g:=131) (by simp) (by simpa using hlen) hsh (λa _ b _=>zg0 a b)
 refine(qn4 (λ_ _ hs h=>h.keep hs) rfl rfl (by simp only[Qj,Qo,Tryz.ntmps230];omega) (by simp[zb6,T.isPin]) hJ w [v,u] fq _ ⟨v,[u],fq,[],_,[],rfl,by simp,rfl,⟨hz3,rfl⟩,u,[],rfl,?_,rfl,rfl,rfl⟩ hz5 hI λx hx=>⟨hltg x hx,λhq=>hz6.2 x hq hx⟩).mono ?_
 ·have hu:zai w _ (.fn _ []) u:=hu;show zai _ _ _ _
  unfold zai at hu⊢;exact hu
 rintro e w' ⟨us,fp',tp',rfl,⟨u',_,f3,f4,t3,t4,rfl,rfl,rfl,⟨o1,-⟩,rfl,rfl,rfl⟩,o2,o3,o4⟩
 rw[Kh]at *
 have hlen2:(zs.map (·.1)).length=zs.length:=by simp
 have hlen3:(zs.map (·.2.1)).length=zs.length:=by simp
 have hsub:=qni (zs.map (·.2.1)) zs
 have hc1:cpt (zs.map (·.2.1)) (zs.map (·.1)) (zs.map (·.1)).length=((kp (zs.map (·.2.1)) zs.length).filterMap λi=>zs[i]?).map (·.1):=by
  unfold cpt;rw[hlen2,qns]
 have hc2:qa5 (zs.map (·.2.1))=((kp (zs.map (·.2.1)) zs.length).filterMap λi=>zs[i]?).map (·.2.1):=by
  unfold qa5;rw[hlen3,List.map_filterMap]
  congr 1
  funext i
  rw[List.getElem?_map]
 rw[hc1]at o1
 rw[hc2]
 generalize ((kp (zs.map (·.2.1)) zs.length).filterMap λi=>zs[i]?)=zt at hsub o1⊢
 have hfs:((zt.map (·.2.2)).flatten).Sublist ((zs.map (·.2.2)).flatten):=qks (hsub.map _)
 have hown:∀z∈zt,qo5 w' z:=λz hz=>(hz4 z (hsub.subset hz)).keep λb hb=>o4.block b ⟨hltg b (hgz z (hsub.subset hz) b hb),λq=>hz6.2 b q (hgz z (hsub.subset hz) b hb)⟩
 have hV:zas w' (.sl 3 (zt.map λz=>liC z.2.1)) u' (f3++(zt.map (·.2.2)).flatten):=by
  unfold zas at o1⊢;obtain⟨ao,cap,rfl,q1,q2,q3⟩:=o1;have hll:(zt.map (·.1)).length=(zt.map λz=>liC z.2.1).length:=by simp
  refine⟨ao,cap,by rw[hll],by rw[<-hll];exact q1,q2,?_⟩;rcases q3 with⟨h1,h2,h3,rfl⟩|⟨b,cells,ty,fps,rfl,rfl,h3,h4,h5⟩
  ·have e:zt=[]:=J8.1 h3;subst e;exact Or.inl ⟨h1,h2,rfl,rfl⟩
  ·have hf0:fps=[]:=by
    refine zak.flat ?_ h5;have:∀l:List (List T×Li×List Nat),(∀z∈l,qo5 w' z)->flR (l.map (·.1))=true:=by
     intro l;induction l with
     | nil=>intro _;rfl
     | cons z l ih =>
      intro h;obtain⟨ao,n,c,e,-⟩:=h z (by simp);rw[Qk,flR,ih λq hq=>h q (by simp[hq]),e];rfl
    exact this zt hown
   subst hf0;exact Or.inr ⟨b,cells,ty,_,rfl,rfl,h3,h4,qh0 zt 0 h5 hown⟩
 refine⟨[u'],f3++(zt.map (·.2.2)).flatten,_,rfl,⟨u',[],_,[],_,[],rfl,by rw[Kh],rfl,⟨by rw[show liS (zt.map (·.2.1))=.sl 3 (zt.map λz=>liC z.2.1) by simp[liS,Jj,Yy]];exact hV,rfl⟩,rfl,rfl,rfl⟩,?_,?_,?_⟩
 ·refine Kk.2 ⟨o2,hfs.nodup hz6.1,λa ha b hb hab=>?_⟩;subst hab;rcases o3 a ha with q|q
  ·exact hz6.2 a q (hfs.subset hb)
  ·have:=hltg a (hfs.subset hb);omega
 ·intro b hb;rcases Qt.1 hb with q|q
  ·rcases o3 b q with q|q
   ·exact Or.inl (Ji _ q)
   ·exact Or.inr q
  ·exact Or.inl (Jz _ (hfs.subset q))
 ·exact⟨o4.os,o4.tape,o4.output,o4.size,λk hk=>o4.block k ⟨hk.1,λq=>hk.2 (Ji _ q)⟩⟩
end
section
open Go.RowKit
theorem zhx (xs:List Li)(p:Li->Bool)(g:FuncId)(caps:List T)(H:∀x∈xs,FC Tryz.prog g (liD x::caps.map .one) [bD (p x)]):FC Tryz.prog 227 [.one (liS xs),.one (.fn g caps)] [iD (zew xs p)]:=by
 refine zbz (λhw=>?_) Tryz.call227
 have hl:xs.length<=9223372036854775807:=by simpa[zee,wfT]using hw.1.1
 refine zam Tryz.call227 Tryz.func227 rfl Zh (zat Zh) ?_
 simp -implicitDefEqProofs only[go_sem,Tryz.results227]
 refine zad (λk:Nat=>hd [(0,vT (liS xs)),(1,vT (.fn g caps)),(7,vI xs.length),(8,vI k)] [] []) (λk=>k<=xs.length/\∀x∈xs.take k,p x=false) (λk=>xs.length-k) 0 (zab ?_) ?_ ?_
 ·exact Zg
 ·simp
 ·intro k ⟨hk,hr⟩;by_cases hlt:k<xs.length
  ·simp -implicitDefEqProofs only[go_sem,zac,hlt,zaj,zaa];refine callF (H xs[k] (Qe hlt)) Xg ?_;refine Vb ?_;refine⟨λh=>?_,λh=>⟨k+1,⟨hlt,zbd hlt hr h⟩,Zi,zab (by simp -implicitDefEqProofs only[go_sem];rw[zaf Zi])⟩⟩;rw[zbn hlt hr h]
  ·refine Xo ?_;rw[Ql Zi]at hr;rw[zb4 hr]
theorem zfm (xs:List Li)(p:Li->Bool)(g:FuncId)(caps:List T)(H:∀x∈xs,FC Tryz.prog g (liD x::caps.map .one) [bD (p x)]):FC Tryz.prog 183 [.one (liS xs),.one (.fn g caps)] [bD (xs.any p)]:=by
 refine zam Tryz.call183 Tryz.func183 rfl Zh (zat Zh) ?_
 simp -implicitDefEqProofs only[go_sem,Tryz.results183]
 refine callF (zhx xs p g caps H) Zg ?_
 refine Zj ?_
 rw[zhs]
end
section
open Go.RowKit
set_option maxRecDepth 10000 in
theorem zhk (xs ys:List Li)(p:Li->Li->Bool)(g:FuncId)(caps:List T)(H:∀x∈xs,∀y∈ys,FC Tryz.prog g (liD x::liD y::caps.map .one) [bD (p x y)]):FC Tryz.prog 130 [.one (liS xs),.one (liS ys),.one (.fn g caps)] [bD (eqL p xs ys)]:=by
 refine zbz (λhw=>?_) Tryz.call130
 have hl:xs.length<=9223372036854775807:=by simpa[zee,wfT]using hw.1.1
 have hl2:ys.length<=9223372036854775807:=by simpa[zee,wfT]using hw.2.1.1
 refine zam Tryz.call130 Tryz.func130 rfl Zh (zat Zh) ?_
 simp -implicitDefEqProofs only[go_sem,Tryz.results130]
 refine⟨λh=>?_,λh=>?_⟩
 ·rw[zu0 (by rintro e;simp[e]at h)]
 ·have hlen:xs.length=ys.length:=by simp at h;omega
  refine zad (λk:Nat=>hd [(1,vT (liS ys)),(2,.one (.t (.fn g caps))),(15,vT (liS xs)),(16,vI xs.length),(17,vI k)] [] []) (λk=>k<=xs.length/\eqL p xs ys=eqL p (xs.drop k) (ys.drop k)) (λk=>xs.length-k) 0 (zab ?_) ?_ ?_
  ·exact Zg
  ·simp
  ·intro k ⟨hk,hr⟩;by_cases hlt:k<xs.length
   ·have hk2:k<ys.length:=by omega
    simp -implicitDefEqProofs only[go_sem,Qa,zac,hlt,hk2,zaj,zaa];refine callF (H xs[k] (Qe hlt) ys[k] (Qe hk2)) Xg ?_;refine Vb ?_;rw[Qn hlt,Qn hk2,eqL]at hr;refine⟨λh=>?_,λh=>?_⟩
    ·rw[hr,show p xs[k] ys[k]=false by simpa using h];rfl
    ·rw[show p xs[k] ys[k]=true by simpa using h,Q2]at hr;rw[zaf Zi];exact⟨k+1,⟨Zi,hr⟩,Zi,zab Zg⟩
   ·refine Zw hlt ?_;rw[hr,Q1 Zi,Q1 Zi];rfl
end
section
open Go.RowKit
theorem zqd (a:Li)(l:Int)(h0:0<=l)(h1:l<=1048576) :
  FC Tryz.prog 110 [liD a,iD l] [iD (szR a.wt l)]:=by
 refine zbz (λhw=>?_) Tryz.call110
 simp only[liD,zaj,zaa]at hw⊢
 have hW:=a.wt_eq
 have hls:True:=by simp[zee,wfT,zp6]at hw;simp[hw]
 refine zam Tryz.call110 Tryz.func110 rfl Zh (zat Zh) ?_
 simp -implicitDefEqProofs only[go_sem,Tryz.results110]
 refine callF (qmm a.atom l Zi Zi) Xh ?_
 simp -implicitDefEqProofs only[go_sem,zaj,zaa,zaa]
 refine⟨λh1=>?_,λh1=>?_⟩
 ·have:=zik Zi (show szR a.atom.wt l<0 by simpa using h1);rw[zec (by  omega)]
 obtain⟨k1,j1⟩:=zgw (show ¬szR a.atom.wt l<0 by simpa using h1)
 rw[show szR a.wt l=l-a.wt from zm7 (by  omega)];exact znc (by  omega)
theorem zss (a:Li)(hs:a.wt<=1048576):FC Tryz.prog 122 [liD a] [liD a]:=by
 have hW:=a.wt_eq
 simp only[liD,zaj,zaa]
 refine zam Tryz.call122 Tryz.func122 rfl Zh (zat Zh) ?_
 simp -implicitDefEqProofs only[go_sem,Tryz.results122]
 refine callF (qiy a.atom (by  omega)) Xh ?_
 exact Xh
theorem zsf (a b:Li):FC Tryz.prog 143 [liD a,liD b] [bD (same a b)]:=by
 simp only[liD,zaj,zaa]
 refine zam Tryz.call143 Tryz.func143 rfl Zh (zat Zh) ?_
 simp -implicitDefEqProofs only[go_sem,Tryz.results143]
 refine⟨λh1=>?_,λh1=>?_⟩
 ·rw[zbv.2 (by rintro rfl;simp[zbh]at h1)]
 refine callF (qkf a.atom b.atom) Xh ?_
 simp -implicitDefEqProofs only[go_sem,zaj,zaa,zaa]
 refine⟨λh2=>?_,λh2=>?_⟩
 ·rw[zbv.2 (by rintro rfl;simp[zbh]at h2)]
 rw[za9.2 (by cases a;cases b;simp[za9,Li.pos,Li.atom]at h1 h2⊢;simp[h1,h2])]
theorem zvr (a:Li)(l:Int)(h0:0<=l)(h1:l<=1048576):FC Tryz.prog 110 [liD a,iD l] [iD (szR a.wt l)]:=zqd a l h0 h1
theorem zuw (a:Li)(hs:a.wt<=1048576):FC Tryz.prog 122 [liD a] [liD a]:=zss a hs
theorem ztr (a b:Li):FC Tryz.prog 143 [liD a,liD b] [bD (same a b)]:=zsf a b
theorem zo5 (xs:List Li)(H:∀x∈xs,∀l:Int,0<=l->l<=1048576->FC Tryz.prog 110 [liD x,iD l] [iD (szR x.wt l)])(l:Int)(h0:0<=l)(h1:l<=1048576) :
  FC Tryz.prog 57 [.one (liS xs),iD l] [iD (szR (zgb xs) l)]:=by
 refine zbz (λhw=>?_) Tryz.call57
 have hl:xs.length<=9223372036854775807:=by simpa[zee,wfT]using hw.1.1
 refine zam Tryz.call57 Tryz.func57 rfl Zh (zat Zh) ?_
 simp -implicitDefEqProofs only[go_sem,Tryz.results57]
 rw[zay Zi Zi]
 have hW:zgb xs=xs.length+(xs.map Li.wt).sum:=rfl
 refine⟨λh=>?_,λh=>?_⟩
 ·rw[zec (by simp at h;omega)]
 ·have hlen:(xs.length:Int)<=l:=by simp at h;omega
  refine zad (λk:Nat=>hd [(0,vT (liS xs)),(1,vI (l-xs.length-zj3 Li.wt xs k)),(5,vI k)] [] []) (λk=>k<=xs.length/\0<=l-xs.length-zj3 Li.wt xs k) (λk=>xs.length-k) 0 (zab ?_) ?_ ?_
  ·refine Zj ?_;simp[zeh]
  ·simpa[zeh]using hlen
  ·intro k ⟨hk,hp⟩;by_cases hlt:k<xs.length
   ·have hs:=zbw Li.wt xs k hlt;have hs2:=zcv Li.wt xs (k+1);simp -implicitDefEqProofs only[go_sem,Qa,zac,hlt,zaj,zaa];refine callF (H xs[k] (Qe hlt) (l-xs.length-zj3 Li.wt xs k) hp Zi) Xg ?_;refine Vb ?_;refine⟨λh=>?_,λh=>?_⟩
    ·have:=zik hp (by simpa using h);rw[zec Zi]
    ·obtain⟨h2,h3⟩:=zgw (by simpa using h);rw[zaf Zi];exact⟨k+1,⟨hlt,Zi⟩,Zi,zab (by simp -implicitDefEqProofs only[go_sem];rw[h3];congr 1;omega)⟩
   ·refine Zw hlt ?_;have hall:=zpv Li.wt xs k Zi;rw[hall,zm7 Zi];congr 1;omega
theorem zo4 (xs:List Li)(H:∀x∈xs,FC Tryz.prog 122 [liD x] [liD x])(hs:xs.length<=1048576) :
  FC Tryz.prog 68 [.one (liS xs)] [.one (liS xs)]:=by
 refine zbz (λhw=>?_) Tryz.call68
 refine zam Tryz.call68 Tryz.func68 rfl Zh (zat Zh) ?_
 simp -implicitDefEqProofs only[go_sem,Tryz.results68]
 refine qf8 (by simp -implicitDefEqProofs only[go_sem];omega) ?_
 refine Zj ?_
 refine zad (λk:Nat=>hd [(0,vT (liS xs)),(3,.one (.ow 224 0)),(4,vI k)] [] [(224,⟨true,3,(xs.take k).map liC++List.replicate (xs.length-k) [T.bool false,T.str [],T.sl 2 []],0,true⟩)]) (λk=>k<=xs.length) (λk=>xs.length-k) 0 (zab ?_) ?_ ?_
 ·refine Zj ?_;simp
 ·simp
 ·intro k hk;by_cases hlt:k<xs.length
  ·have hlen:((xs.take k).map liC++List.replicate (xs.length-k) [T.bool false,T.str [],T.sl 2 []]).length=xs.length:=by simp;omega
   have hlt2:k<k+(xs.length-k):=by omega
   simp -implicitDefEqProofs only[go_sem,Qa,zac,hlt,zaj,zaa];refine callF (H xs[k] (Qe hlt)) (by simp -implicitDefEqProofs only[go_sem,zaj,zaa,hlen,hlt,Qb,Qa,Qc,K1,K7 hk,hlt2]) ?_;simp -implicitDefEqProofs only[go_sem,zaj,zaa,hlen,hlt,Qb,Qa,Qc,K1,K7 hk,hlt2];refine zi6 (by simp -implicitDefEqProofs only[go_sem];simp) ?_;refine Zj ?_;rw[zaf Zi];refine⟨k+1,Zi,Zi,zab ?_⟩;refine Zj ?_;have hf:=zhr ((xs.take k).map liC) xs.length k [T.bool false,T.str [],T.sl 2 []] (liC xs[k]) (by simp;omega) hlt (by simp[zaj,zaa]);simp only[zaj,zaa]at hf;rw[hf,Qg hlt,Qq,Q7];simp only[zaj,zaa]
  ·refine Zw hlt ?_;simp[Ql (show xs.length<=k by omega),show xs.length-k=0 by omega]
theorem zoh (xs ys:List Li)(H:∀x∈xs,∀y,FC Tryz.prog 143 [liD x,liD y] [bD (same x y)]) :
  FC Tryz.prog 83 [.one (liS xs),.one (liS ys)] [bD (same xs ys)]:=by
 refine zbz (λhw=>?_) Tryz.call83
 have hl:xs.length<=9223372036854775807:=by simpa[zee,wfT]using hw.1.1
 have hl2:ys.length<=9223372036854775807:=by simpa[zee,wfT]using hw.2.1.1
 refine zam Tryz.call83 Tryz.func83 rfl Zh (zat Zh) ?_
 simp -implicitDefEqProofs only[go_sem,Tryz.results83]
 refine⟨λh=>?_,λh=>?_⟩
 ·rw[zbv.2 (by rintro rfl;simp at h)]
 ·have hlen:xs.length=ys.length:=by simp at h;omega
  refine zad (λk:Nat=>hd [(0,vT (liS xs)),(1,vT (liS ys)),(4,vB false),(5,vI k)] [] []) (λk=>k<=xs.length/\same xs ys=same (xs.drop k) (ys.drop k)) (λk=>xs.length-k) 0 (zab ?_) ?_ ?_
  ·exact Zg
  ·simp
  ·intro k ⟨hk,hr⟩;by_cases hlt:k<xs.length
   ·have hk2:k<ys.length:=by omega
    refine Zw hlt ?_;refine drawn Zh ?_;simp -implicitDefEqProofs only[go_sem,Qa,zac,hlt,hk2,zaj,zaa];refine za1 (H xs[k] (Qe hlt) ys[k]) Xg ?_;refine Vb ?_;refine⟨Zh,λh=>?_,λh=>?_⟩
    ·rw[hr,Qn hlt,Qn hk2,zcr,show same xs[k] ys[k]=false by simpa using h];rfl
    ·rw[Qn hlt,Qn hk2,zcr,show same xs[k] ys[k]=true by simpa using h,Q2]at hr;rw[zaf Zi];exact⟨k+1,⟨Zi,hr⟩,Zi,zab Zg⟩
   ·refine Zw hlt ?_;rw[hr,Q1 Zi,Q1 Zi,zhd]
theorem zrn (xs:List Li)(l:Int)(h0:0<=l)(h1:l<=1048576):FC Tryz.prog 57 [.one (liS xs),iD l] [iD (szR (zgb xs) l)]:=zo5 xs (λx _ l h0 h1=>zvr x l h0 h1) l h0 h1
theorem zsv (xs:List Li)(hs:zgb xs<=1048576):FC Tryz.prog 68 [.one (liS xs)] [.one (liS xs)]:=by
 have hW:zgb xs=xs.length+(xs.map Li.wt).sum:=rfl
 exact zo4 xs (λx hx=>zuw x (by have:=zci Li.wt xs x hx;omega)) Zi
theorem zsx (xs ys:List Li):FC Tryz.prog 83 [.one (liS xs),.one (liS ys)] [bD (same xs ys)]:=zoh xs ys λx _ y=>ztr x y
theorem ztk (a:Cq)(l:Int)(h0:0<=l)(h1:l<=1048576) :
  FC Tryz.prog 20 [cqD a,iD l] [iD (szR a.wt l)]:=by
 refine zbz (λhw=>?_) Tryz.call20
 simp only[cqD,zap,zaj,zaa]at hw⊢
 have hW:=a.wt_eq
 have hls:True:=by simp[zee,wfT,zp6]at hw;simp[hw]
 refine zam Tryz.call20 Tryz.func20 rfl Zh (zat Zh) ?_
 simp -implicitDefEqProofs only[go_sem,Tryz.results20]
 refine callF (zrn a.lits l Zi Zi) Xc ?_
 refine Xi ?_
 refine⟨λh1=>?_,λh1=>?_⟩
 ·have:=zik Zi (show szR (zgb a.lits) l<0 by simpa using h1);rw[zec (by have hu0:zgb a.lits=a.lits.length+(a.lits.map Li.wt).sum:=rfl; omega)]
 obtain⟨k1,j1⟩:=zgw (show ¬szR (zgb a.lits) l<0 by simpa using h1)
 rw[show szR a.wt l=l-a.wt from zm7 (by have hu0:zgb a.lits=a.lits.length+(a.lits.map Li.wt).sum:=rfl; omega)];exact znc (by have hu0:zgb a.lits=a.lits.length+(a.lits.map Li.wt).sum:=rfl; omega)
theorem zut (a:Cq)(hs:a.wt<=1048576):FC Tryz.prog 25 [cqD a] [cqD a]:=by
 have hW:=a.wt_eq
 simp only[cqD,zap,zaj,zaa]
 refine zam Tryz.call25 Tryz.func25 rfl Zh (zat Zh) ?_
 simp -implicitDefEqProofs only[go_sem,Tryz.results25]
 refine callF (zsv a.lits (by have hu0:zgb a.lits=a.lits.length+(a.lits.map Li.wt).sum:=rfl; omega)) Xc ?_
 exact Xc
theorem zvw (a b:Cq):FC Tryz.prog 33 [cqD a,cqD b] [bD (same a b)]:=by
 simp only[cqD,zap,zaj,zaa]
 refine zam Tryz.call33 Tryz.func33 rfl Zh (zat Zh) ?_
 simp -implicitDefEqProofs only[go_sem,Tryz.results33]
 refine callF (zsx a.lits b.lits) Xc ?_
 refine Xi ?_
 refine⟨λh1=>?_,λh1=>?_⟩
 ·rw[zbv.2 (by rintro rfl;simp[zbh]at h1)]
 rw[za9.2 (by cases a;cases b;simp[za9,Cq.lits]at h1⊢;simp[h1])]
theorem zz7 (a:Cq)(l:Int)(h0:0<=l)(h1:l<=1048576):FC Tryz.prog 20 [cqD a,iD l] [iD (szR a.wt l)]:=ztk a l h0 h1
theorem zzo (a:Cq)(hs:a.wt<=1048576):FC Tryz.prog 25 [cqD a] [cqD a]:=zut a hs
theorem qa0 (a b:Cq):FC Tryz.prog 33 [cqD a,cqD b] [bD (same a b)]:=zvw a b
theorem zqi (xs:List Cq)(H:∀x∈xs,∀l:Int,0<=l->l<=1048576->FC Tryz.prog 20 [cqD x,iD l] [iD (szR x.wt l)])(l:Int)(h0:0<=l)(h1:l<=1048576) :
  FC Tryz.prog 6 [.one (cqS xs),iD l] [iD (szR (zow xs) l)]:=by
 refine zbz (λhw=>?_) Tryz.call6
 have hl:xs.length<=9223372036854775807:=by simpa[zee,wfT]using hw.1.1
 refine zam Tryz.call6 Tryz.func6 rfl Zh (zat Zh) ?_
 simp -implicitDefEqProofs only[go_sem,Tryz.results6]
 rw[zay Zi Zi]
 have hW:zow xs=xs.length+(xs.map Cq.wt).sum:=rfl
 refine⟨λh=>?_,λh=>?_⟩
 ·rw[zec (by simp at h;omega)]
 ·have hlen:(xs.length:Int)<=l:=by simp at h;omega
  refine zad (λk:Nat=>hd [(0,vT (cqS xs)),(1,vI (l-xs.length-zj3 Cq.wt xs k)),(5,vI k)] [] []) (λk=>k<=xs.length/\0<=l-xs.length-zj3 Cq.wt xs k) (λk=>xs.length-k) 0 (zab ?_) ?_ ?_
  ·refine Zj ?_;simp[zeh]
  ·simpa[zeh]using hlen
  ·intro k ⟨hk,hp⟩;by_cases hlt:k<xs.length
   ·have hs:=zbw Cq.wt xs k hlt;have hs2:=zcv Cq.wt xs (k+1);simp -implicitDefEqProofs only[go_sem,Qa,zac,hlt,zap,zaj,zaa];refine callF (H xs[k] (Qe hlt) (l-xs.length-zj3 Cq.wt xs k) hp Zi) Xc ?_;refine Xi ?_;refine⟨λh=>?_,λh=>?_⟩
    ·have:=zik hp (by simpa using h);rw[zec Zi]
    ·obtain⟨h2,h3⟩:=zgw (by simpa using h);rw[zaf Zi];exact⟨k+1,⟨hlt,Zi⟩,Zi,zab (by simp -implicitDefEqProofs only[go_sem];rw[h3];congr 1;omega)⟩
   ·refine Zw hlt ?_;have hall:=zpv Cq.wt xs k Zi;rw[hall,zm7 Zi];congr 1;omega
theorem zq8 (xs:List Cq)(H:∀x∈xs,FC Tryz.prog 25 [cqD x] [cqD x])(hs:xs.length<=1048576) :
  FC Tryz.prog 8 [.one (cqS xs)] [.one (cqS xs)]:=by
 refine zbz (λhw=>?_) Tryz.call8
 refine zam Tryz.call8 Tryz.func8 rfl Zh (zat Zh) ?_
 simp -implicitDefEqProofs only[go_sem,Tryz.results8]
 refine qf8 (by simp -implicitDefEqProofs only[go_sem];omega) ?_
 refine Zj ?_
 refine zad (λk:Nat=>hd [(0,vT (cqS xs)),(3,.one (.ow 224 0)),(4,vI k)] [] [(224,⟨true,1,(xs.take k).map cqC++List.replicate (xs.length-k) [T.sl 3 []],0,true⟩)]) (λk=>k<=xs.length) (λk=>xs.length-k) 0 (zab ?_) ?_ ?_
 ·refine Zj ?_;simp
 ·simp
 ·intro k hk;by_cases hlt:k<xs.length
  ·have hlen:((xs.take k).map cqC++List.replicate (xs.length-k) [T.sl 3 []]).length=xs.length:=by simp;omega
   have hlt2:k<k+(xs.length-k):=by omega
   simp -implicitDefEqProofs only[go_sem,Qa,zac,hlt,zap,zaj,zaa];refine callF (H xs[k] (Qe hlt)) (by simp -implicitDefEqProofs only[go_sem,zap,zaj,zaa,hlen,hlt,Qb,Qa,Qc,K1,K7 hk,hlt2]) ?_;simp -implicitDefEqProofs only[go_sem,zap,zaj,zaa,hlen,hlt,Qb,Qa,Qc,K1,K7 hk,hlt2];refine zi6 (by simp -implicitDefEqProofs only[go_sem];simp) ?_;refine Zj ?_;rw[zaf Zi];refine⟨k+1,Zi,Zi,zab ?_⟩;refine Zj ?_;have hf:=zhr ((xs.take k).map cqC) xs.length k [T.sl 3 []] (cqC xs[k]) (by simp;omega) hlt (by simp[zap,zaj,zaa]);simp only[zap,zaj,zaa]at hf;rw[hf,Qg hlt,Qq,Q7];simp only[zap,zaj,zaa]
  ·refine Zw hlt ?_;simp[Ql (show xs.length<=k by omega),show xs.length-k=0 by omega]
theorem zsy (xs ys:List Cq)(H:∀x∈xs,∀y,FC Tryz.prog 33 [cqD x,cqD y] [bD (same x y)]) :
  FC Tryz.prog 10 [.one (cqS xs),.one (cqS ys)] [bD (same xs ys)]:=by
 refine zbz (λhw=>?_) Tryz.call10
 have hl:xs.length<=9223372036854775807:=by simpa[zee,wfT]using hw.1.1
 have hl2:ys.length<=9223372036854775807:=by simpa[zee,wfT]using hw.2.1.1
 refine zam Tryz.call10 Tryz.func10 rfl Zh (zat Zh) ?_
 simp -implicitDefEqProofs only[go_sem,Tryz.results10]
 refine⟨λh=>?_,λh=>?_⟩
 ·rw[zbv.2 (by rintro rfl;simp at h)]
 ·have hlen:xs.length=ys.length:=by simp at h;omega
  refine zad (λk:Nat=>hd [(0,vT (cqS xs)),(1,vT (cqS ys)),(4,vB false),(5,vI k)] [] []) (λk=>k<=xs.length/\same xs ys=same (xs.drop k) (ys.drop k)) (λk=>xs.length-k) 0 (zab ?_) ?_ ?_
  ·exact Zg
  ·simp
  ·intro k ⟨hk,hr⟩;by_cases hlt:k<xs.length
   ·have hk2:k<ys.length:=by omega
    refine Zw hlt ?_;refine drawn Zh ?_;simp -implicitDefEqProofs only[go_sem,Qa,zac,hlt,hk2,zap,zaj,zaa];refine za1 (H xs[k] (Qe hlt) ys[k]) Xc ?_;refine Xi ?_;refine⟨Zh,λh=>?_,λh=>?_⟩
    ·rw[hr,Qn hlt,Qn hk2,zcr,show same xs[k] ys[k]=false by simpa using h];rfl
    ·rw[Qn hlt,Qn hk2,zcr,show same xs[k] ys[k]=true by simpa using h,Q2]at hr;rw[zaf Zi];exact⟨k+1,⟨Zi,hr⟩,Zi,zab Zg⟩
   ·refine Zw hlt ?_;rw[hr,Q1 Zi,Q1 Zi,zhd]
theorem ztn (xs:List Cq)(l:Int)(h0:0<=l)(h1:l<=1048576):FC Tryz.prog 6 [.one (cqS xs),iD l] [iD (szR (zow xs) l)]:=zqi xs (λx _ l h0 h1=>zz7 x l h0 h1) l h0 h1
theorem zuo (xs:List Cq)(hs:zow xs<=1048576):FC Tryz.prog 8 [.one (cqS xs)] [.one (cqS xs)]:=by
 have hW:zow xs=xs.length+(xs.map Cq.wt).sum:=rfl
 exact zq8 xs (λx hx=>zzo x (by have:=zci Cq.wt xs x hx;omega)) Zi
theorem zvn (xs ys:List Cq):FC Tryz.prog 10 [.one (cqS xs),.one (cqS ys)] [bD (same xs ys)]:=zsy xs ys λx _ y=>qa0 x y
end
section
open Go.RowKit
theorem qkk (a b:Str):FC Tryz.prog 148 [sD a,sD b] [iD (zl9 a b)]:=by
 have hv:zl9 a b=if Op.bytesLess a b=true then -1 else if(a==b)=true then 0 else 1:=rfl
 rw[hv]
 cases h1:Op.bytesLess a b<;>cases h2:(a==b)
 all_goals
  refine zam Tryz.call148 Tryz.func148 rfl Zh (zat Zh) ?_;simp -implicitDefEqProofs only[go_sem,Tryz.results148,h1,h2]
  try simp
theorem zzl (a b:Tm):zc9 a b=if(zax a.name&&!zax b.name)=true then -1 else if(zax b.name&&!zax a.name)=true then 1 else if(a.name==b.name)=false then zl9 a.name b.name
  else if a.args.length<b.args.length then -1 else if b.args.length<a.args.length then 1 else zea a.args b.args:=by
 rw[zlp]
 unfold hdT zkk
 generalize zax a.name=x
 generalize zax b.name=y
 by_cases hn:a.name=b.name
 ·have h0:zl9 a.name b.name=0:=zhj.2 hn;rw[h0,hn];unfold qn9;by_cases h1:a.args.length<b.args.length
  ·cases x<;>cases y<;>simp[orE,h1]
  ·by_cases h2:b.args.length<a.args.length
   ·cases x<;>cases y<;>simp[orE,h1,h2]
   ·cases x<;>cases y<;>simp[orE,h1,h2]
 ·have h0:zl9 a.name b.name≠0:=λh=>hn (zhj.1 h);have hb:(a.name==b.name)=false:=by simpa using hn
  cases x<;>cases y<;>simp[orE,h0,hb]
theorem zrq (a b:Tm)(H:∀x∈a.args,∀y,FC Tryz.prog 87 [tmD x,tmD y] [iD (zc9 x y)]):FC Tryz.prog 87 [tmD a,tmD b] [iD (zc9 a b)]:=by
 refine zbz (λhw=>?_) Tryz.call87
 simp only[tmD,zaa]at hw⊢
 have hl:a.args.length<=9223372036854775807:=by simp[zee,wfT,zp6]at hw;exact hw.1.2.1
 have hv:=zzl a b
 have HV1:=zh6 a.name
 have HV2:=zh6 b.name
 have HT:=qkk a.name b.name
 by_cases hxy:zax a.name=zax b.name
 ·rw[hxy]at HV1 hv;rw[Bool.and_not_self,if_neg (by simp),if_neg (by simp)]at hv;generalize zax b.name=x at HV1 HV2;cases x
  all_goals
   cases hn:(a.name==b.name)
   ·rw[hn,if_pos rfl]at hv;rw[hv];have hn':(a.name != b.name)=true:=by simp[bne,hn]
    generalize zl9 a.name b.name=r at HT;refine zam Tryz.call87 Tryz.func87 rfl Zh (zat Zh) ?_;simp -implicitDefEqProofs only[go_sem,Tryz.results87];refine drawn Zh ?_;refine Zj ?_;refine za1 (HV1) Zg ?_;refine Zj ?_;refine za1 (HV2) Zg ?_;refine Zj ?_;refine⟨Zh,?_⟩;refine Zr hn hn' ?_;refine callF (HT) Zg ?_;exact Zg
   ·rw[hn,if_neg (by simp)]at hv;have hn':(a.name != b.name)=false:=by simp[bne,hn]
    refine zam Tryz.call87 Tryz.func87 rfl Zh (zat Zh) ?_;simp -implicitDefEqProofs only[go_sem,Tryz.results87];refine drawn Zh ?_;refine Zj ?_;refine za1 (HV1) Zg ?_;refine Zj ?_;refine za1 (HV2) Zg ?_;refine Zj ?_;refine⟨Zh,?_⟩;refine Zr hn hn' ?_;refine⟨λh1=>?_,λh1=>⟨λh2=>?_,λh2=>?_⟩⟩
    ·rw[hv,if_pos (by simpa using h1)]
    ·rw[hv,if_neg (by simpa using h1),if_pos (by simpa using h2)]
    ·rw[if_neg (by simpa using h1),if_neg (by simpa using h2)]at hv;have hlen:a.args.length=b.args.length:=by simp at h1 h2;omega
     refine zad (λk:Nat=>hd [(2,.one (.bx 2 0)),(3,.one (.bx 3 0)),(7,vI k)] [(2,[.t (.str a.name),.t (tmS a.args)]),(3,[.t (.str b.name),.t (tmS b.args)])] []) (λk=>k<=a.args.length/\zc9 a b=zea (a.args.drop k) (b.args.drop k)) (λk=>a.args.length-k) 0 (zab ?_) ⟨Qy _,by simpa using hv⟩ ?_
     ·exact Zg
     ·intro k ⟨hk,hr⟩;by_cases hlt:k<a.args.length
      ·have hk2:k<b.args.length:=by omega
       have HC:=H a.args[k] (Qe hlt) b.args[k];rw[Qn hlt,Qn hk2,zea]at hr;generalize zc9 a.args[k] b.args[k]=c at HC hr;simp only[tmD,zaa a.args[k],zaa b.args[k]]at HC;refine Xo ?_;refine drawn Zh ?_;refine Zy hlt hk2 (zaa a.args[k]) (zaa b.args[k]) ?_;refine za1 (HC) Zg ?_;refine Zj ?_;refine⟨Zh,λh=>?_,λh=>?_⟩
       ·have:c≠0:=by simpa using h
        unfold orE at hr;rw[if_neg this]at hr;rw[hr]
       ·have:c=0:=by simpa using h
        unfold orE at hr;rw[if_pos this]at hr;refine⟨k+1,⟨hlt,hr⟩,Zi,zab ?_⟩;refine Zj ?_;rw[zaf Zi]
      ·rw[Q1 Zi,Q1 Zi,zea]at hr;rw[hr];exact Zl hlt
 ·have e:zax b.name=!zax a.name:=by revert hxy;cases zax a.name<;>cases zax b.name<;>simp
  rw[e]at HV2 hv;generalize zax a.name=x at HV1 HV2 hv;cases x
  all_goals
   simp only[K8,Ja,Bool.and_self,J0,Bool.and_true,Q4,Q2,if_true,if_false,reduceCtorEq]at HV2 hv;rw[hv];refine zam Tryz.call87 Tryz.func87 rfl Zh (zat Zh) ?_;simp -implicitDefEqProofs only[go_sem,Tryz.results87];refine drawn Zh ?_;refine Zj ?_;refine za1 (HV1) Zg ?_;refine Zj ?_;refine za1 (HV2) Zg ?_;refine Zj ?_;kernel_rfl
theorem zll:∀a b:Tm,FC Tryz.prog 87 [tmD a,tmD b] [iD (zc9 a b)]:=zbb λn xs ih b=>zrq (.mk n xs) b ih
end
section
open Go.RowKit
theorem zu4 {l:List Tm}{t:Tm}{k:Nat}(hk:k<=l.length)(h1:∀x∈l.take k,ltT x t=true)(h2:∀h:k<l.length,ltT l[k] t=false):zdg l t=if dec ((l.drop k).head?=some t)=true then l else l.take k++[t]++l.drop k:=by
 obtain⟨e1,e2⟩:=zjy (p:=λx=>ltT x t) hk h1 h2
 unfold zdg
 rw[e1,e2]
theorem zyy (l:List Tm)(t:Tm)(hl:l.length<=2147483648):RC Tryz.prog 41 [.one (tmS l),tmD t] [.one (tmS (zdg l t))]:=by
 simp only[tmD,zaa t]
 refine zbs Tryz.call41 Tryz.func41 rfl Zh (zat Zh) ?_
 simp -implicitDefEqProofs only[go_sem,Tryz.results41]
 refine zad (λk:Nat=>hd [(0,vT (tmS l)),(3,.one (.bx 3 0)),(5,vI k)] [(3,[.t (.str t.name),.t (tmS t.args)])] []) (λk=>k<=l.length/\∀x∈l.take k,ltT x t=true) (λk=>l.length-k) 0 (zab ?_) ⟨Qy _,by simp⟩ ?_
 ·exact Zg
 ·intro k ⟨hk,hr⟩;have hm1:min k l.length<=4294967296:=by omega
  have hm2:min k l.length<=4294967295:=by omega
  have hm3:min k l.length+1+(l.length-k)<=4294967296:=by omega
  by_cases hlt:k<l.length
  ·have HC:=zll l[k] t;have HS:=zd6 l[k] t;have hnx:ltT l[k] t=true->∀x∈l.take (k+1),ltT x t=true:=λhb x hx=>by
    rw[Qg hlt]at hx;rcases Qt.1 hx with hx|hx
    ·exact hr x hx
    ·rw[Qv.1 hx,hb]
   simp only[tmD,zaa l[k],zaa t]at HC HS;have hcd:decide (zc9 l[k] t<0)=ltT l[k] t:=rfl;generalize zc9 l[k] t=c at HC hcd;refine Xo ?_;refine drawn Zh ?_;refine Zm hlt (zaa l[k]) ?_;refine zbf (HC) Zg ?_;refine Zj ?_;refine⟨Zh,λh=>?_,λh=>?_⟩
   ·refine⟨k+1,⟨hlt,hnx (by rw[<-hcd];exact h)⟩,Zi,zab ?_⟩;refine Zj ?_;rw[zaf Zi]
   ·rw[h]at hcd;have hp:=zu4 hk hr λ_=>hcd.symm;have hh:(l.drop k).head?=some l[k]:=by rw[List.head?_drop,List.getElem?_eq_getElem hlt]
    refine drawn Zh ?_;refine Zm hlt (zaa l[k]) ?_;refine zbf (HS) Zg ?_;refine Zj ?_;refine⟨Zh,λh2=>?_,λh2=>?_⟩
    ·rw[hp,if_pos (by rw[hh,zb8,za9.1 h2])]
    ·rw[if_neg (by rw[hh,zb8];intro e;rw[Jg e,zbh]at h2;cases h2)]at hp;refine drawn Zh ?_;refine Zk hk ?_;refine zbi Xp ?_;refine Zk hk ?_;refine zcx false Xq ?_;refine Xr ?_;refine zbi Xp ?_;refine Zk hk ?_;refine zcx false Xq ?_;refine Xr ?_;refine zcx false Xq ?_;refine Xr ?_;refine⟨Zh,?_⟩;rw[hp,Qq,Qq,Jm,Yc,Q7,zaa t]
  ·have hp:=zu4 hk hr λh=>absurd h hlt;rw[if_neg (by rw[Q1 Zi,zb8];simp)]at hp;refine Xo ?_;refine drawn Zh ?_;refine Xo ?_;refine⟨Zh,?_⟩;refine drawn Zh ?_;refine Xo ?_;refine⟨Zh,?_⟩;refine drawn Zh ?_;refine Zk hk ?_;refine zbi Xp ?_;refine Zk hk ?_;refine zcx false Xq ?_;refine Xr ?_;refine zbi Xp ?_;refine Zk hk ?_;refine zcx false Xq ?_;refine Xr ?_;refine zcx false Xq ?_;refine Xr ?_;refine⟨Zh,?_⟩;rw[hp,Qq,Qq,Jm,Yc,Q7,zaa t]
end
section
open Go.RowKit
theorem zyt (x:Int):FC Tryz.prog 215 [iD x] [bD false]:=by
 refine zam Tryz.call215 Tryz.func215 rfl Zh (zat Zh) ?_
 simp -implicitDefEqProofs only[go_sem,Tryz.results215]
 simp
def zmo (a b:Int):Int:=if a<b then -1 else if b<a then 1 else 0
theorem zoq (x y:Int):FC Tryz.prog 164 [iD x,iD y] [iD (zmo x y)]:=by
 have hc:zmo x y=if x<y then -1 else if y<x then 1 else 0:=rfl
 refine zam Tryz.call164 Tryz.func164 rfl Zh (zat Zh) ?_
 simp -implicitDefEqProofs only[go_sem,Tryz.results164]
 refine callF (zyt x) Zg ?_
 refine Zj ?_
 refine callF (zyt y) Zg ?_
 refine Zj ?_
 refine⟨λh=>?_,λh=>⟨λh2=>?_,λh2=>?_⟩⟩
 ·rw[hc,if_pos (by simpa using h)]
 ·rw[hc,if_neg (by simpa using h),if_pos (by simpa using h2)]
 ·rw[hc,if_neg (by simpa using h),if_neg (by simpa using h2)]
theorem qmd (m n:Nat):zmo (m:Int) (n:Int)=qn9 m n:=by
 unfold zmo qn9
 simp only[Int.ofNat_lt]
theorem zuk (x y:Int):FC Tryz.prog 162 [.one (.sl 1 [[.int .i64 x],[.int .i64 y]])] [iD (orE x y)]:=by
 have hv:orE x y=if x=0 then y else x:=rfl
 refine zam Tryz.call162 Tryz.func162 rfl Zh (zat Zh) ?_
 simp -implicitDefEqProofs only[go_sem,Tryz.results162]
 refine zad (λk:Nat=>hd [(3,vI 0),(6,vT (.sl 1 [[.int .i64 x],[.int .i64 y]])),(7,vI (2:Nat)),(8,vI k)] [] []) (λk=>k=0\/(k=1/\x=0)\/(k=2/\x=0/\y=0)) (λk=>2-k) 0 (zab ?_) (Or.inl rfl) ?_
 ·exact Zg
 ·rintro k (rfl|⟨rfl,hx⟩|⟨rfl,hx,hy⟩)
  ·simp -implicitDefEqProofs only[go_sem,Qu,Qj,Qo];refine⟨λh=>?_,λh=>?_⟩
   ·rw[hv,if_neg (by simpa using h)]
   ·refine⟨1,Or.inr (Or.inl ⟨rfl,by simpa using h⟩),Zi,zab ?_⟩;refine Zj ?_;rfl
  ·simp -implicitDefEqProofs only[go_sem,Qu,Qw,Qj,Qo];refine⟨λh=>?_,λh=>?_⟩
   ·rw[hv,if_pos hx]
   ·refine⟨2,Or.inr (Or.inr ⟨rfl,hx,by simpa using h⟩),Zi,zab ?_⟩;refine Zj ?_;rfl
  ·simp -implicitDefEqProofs only[go_sem,Qj,Qo];rw[hv,if_pos hx,hy]
theorem zn4 (xs ys:List Tm)(hl:xs.length=ys.length)(H:∀x∈xs,∀y∈ys,FC Tryz.prog 100 [tmD x,tmD y] [iD (zc9 x y)]):FC Tryz.prog 165 [.one (tmS xs),.one (tmS ys),.one (.fn 100 [])] [iD (zea xs ys)]:=by
 refine zbz (λhw=>?_) Tryz.call165
 have hm:xs.length<=9223372036854775807:=by simpa[zee,wfT]using hw.1.1
 have hlt0:((xs.length:Int)<(ys.length:Int))=False:=eq_false Zi
 refine zam Tryz.call165 Tryz.func165 rfl Zh (zat Zh) ?_
 simp -implicitDefEqProofs only[go_sem,Tryz.results165]
 refine zad (λk:Nat=>hd [(0,vT (tmS xs)),(1,vT (tmS ys)),(2,vT (.fn 100 [])),(11,vT (tmS xs)),(12,vI xs.length),(13,vI k)] [] []) (λk=>k<=xs.length/\zea xs ys=zea (xs.drop k) (ys.drop k)) (λk=>xs.length-k) 0 (zab ?_) ⟨Qy _,by simp⟩ ?_
 ·exact Zg
 ·intro k ⟨hk,hr⟩;by_cases hlt:k<xs.length
  ·have hk2:k<ys.length:=by omega
   have hk3:((ys.length:Int)<=(k:Int))=False:=eq_false Zi;have HC:=H xs[k] (Qe hlt) ys[k] (Qe hk2);rw[Qn hlt,Qn hk2,zea]at hr;generalize zc9 xs[k] ys[k]=c at HC hr;simp only[tmD,zaa xs[k],zaa ys[k]]at HC;refine Zz hlt hk2 hk3 (zaa xs[k]) (zaa ys[k]) ?_;refine callF (HC) Zg ?_;refine Zj ?_;refine⟨λh=>?_,λh=>?_⟩
   ·have:c≠0:=by simpa using h
    unfold orE at hr;rw[if_neg this]at hr;rw[hr]
   ·have:c=0:=by simpa using h
    unfold orE at hr;rw[if_pos this]at hr;refine⟨k+1,⟨hlt,hr⟩,Zi,zab ?_⟩;refine Zj ?_;rw[zaf Zi]
  ·rw[Q1 Zi,Q1 Zi,zea]at hr;rw[hr];exact Z0 hlt hlt0
theorem ztw {a:Tm}(h:upT a=true):0<a.name.length/\zh2 (a.name.getD 0 0)=zax a.name/\∀x∈a.args,upT x=true:=by
 rw[zm6,Qd,Qd,Q0,Jo,Qr]at h
 exact⟨h.1.1,h.1.2,h.2⟩
theorem zlg (a b:Tm)(ha:upT a=true)(hb:upT b=true)(H:∀x∈a.args,∀y,upT y=true->FC Tryz.prog 100 [tmD x,tmD y] [iD (zc9 x y)]):FC Tryz.prog 100 [tmD a,tmD b] [iD (zc9 a b)]:=by
 obtain⟨na,ua,ra⟩:=ztw ha
 obtain⟨nb,ub,rb⟩:=ztw hb
 have HV1:=zpu a na
 have HV2:=zpu b nb
 rw[ua]at HV1
 rw[ub]at HV2
 have hv:=zlp a b
 have HS:=zyk a.name b.name
 have HI:=zoq (a.args.length:Int) (b.args.length:Int)
 have HO:=zuk (zl9 a.name b.name) (zmo (a.args.length:Int) (b.args.length:Int))
 have hh:hdT a b=orE (zkk (zax a.name) (zax b.name)) (orE (zl9 a.name b.name) (zmo (a.args.length:Int) (b.args.length:Int))):=by rw[qmd];rfl
 rw[hh]at hv
 have hz:orE (zl9 a.name b.name) (zmo (a.args.length:Int) (b.args.length:Int))=0->a.args.length=b.args.length:=λh=>by
  have h2:=(zn5.1 h).2;unfold zmo at h2;split at h2
  ·omega
  ·split at h2<;>omega
 have HC:=fun(h:a.args.length=b.args.length)=>zn4 a.args b.args h λx hx y hy=>H x hx y (rb y hy)
 generalize zl9 a.name b.name=s at HS HO hv hz
 generalize zmo (a.args.length:Int) (b.args.length:Int)=z at HI HO hv hz
 generalize orE s z=r at HO hv hz
 generalize zea a.args b.args=q at HC hv
 simp only[tmD,zaa a,zaa b]at HV1 HV2⊢
 generalize zax a.name=x at HV1 hv
 generalize zax b.name=y at HV2 hv
 cases x<;>cases y
 ·have hv:zc9 a b=if r=0 then q else r:=hv
  refine zam Tryz.call100 Tryz.func100 rfl Zh (zat Zh) ?_;refine Xj ?_;refine drawn Zh ?_;refine Zj ?_;refine za1 (HV1) Zg ?_;refine Zj ?_;refine za1 (HV2) Zg ?_;refine Zj ?_;refine⟨Zh,?_⟩;refine drawn Zh ?_;refine Zj ?_;refine za1 (HS) Zg ?_;refine Zj ?_;refine za1 (HI) Zg ?_;refine Zj ?_;refine zof Zg ?_;refine Zj ?_;refine za1 (HO) Zg ?_;refine Zj ?_;refine⟨Zh,λh=>?_,λh=>?_⟩
  ·rw[hv,if_neg (by simpa using h)]
  ·have h0:r=0:=by simpa using h
   rw[hv,if_pos h0];refine callF (HC (hz h0)) Zg ?_;exact Zg
 ·have hv:zc9 a b=1:=hv;rw[hv];refine zam Tryz.call100 Tryz.func100 rfl Zh (zat Zh) ?_;refine Xj ?_;refine drawn Zh ?_;refine Zj ?_;refine za1 (HV1) Zg ?_;refine Zj ?_;refine za1 (HV2) Zg ?_;refine Zj ?_;kernel_rfl
 ·have hv:zc9 a b = -1:=hv;rw[hv];refine zam Tryz.call100 Tryz.func100 rfl Zh (zat Zh) ?_;refine Xj ?_;refine drawn Zh ?_;refine Zj ?_;refine za1 (HV1) Zg ?_;refine Zj ?_;refine za1 (HV2) Zg ?_;refine Zj ?_;kernel_rfl
 ·have hv:zc9 a b=if r=0 then q else r:=hv
  refine zam Tryz.call100 Tryz.func100 rfl Zh (zat Zh) ?_;refine Xj ?_;refine drawn Zh ?_;refine Zj ?_;refine za1 (HV1) Zg ?_;refine Zj ?_;refine za1 (HV2) Zg ?_;refine Zj ?_;refine⟨Zh,?_⟩;refine drawn Zh ?_;refine Zj ?_;refine za1 (HS) Zg ?_;refine Zj ?_;refine za1 (HI) Zg ?_;refine Zj ?_;refine zof Zg ?_;refine Zj ?_;refine za1 (HO) Zg ?_;refine Zj ?_;refine⟨Zh,λh=>?_,λh=>?_⟩
  ·rw[hv,if_neg (by simpa using h)]
  ·have h0:r=0:=by simpa using h
   rw[hv,if_pos h0];refine callF (HC (hz h0)) Zg ?_;exact Zg
theorem zd8:∀a b:Tm,upT a=true->upT b=true->FC Tryz.prog 100 [tmD a,tmD b] [iD (zc9 a b)]:=zbb λn xs ih b ha hb=>zlg (.mk n xs) b ha hb λx hx y hy=>ih x hx y ((ztw ha).2.2 x hx) hy
theorem qhn (b:Bool):FC Tryz.prog 200 [bD b] [iD (if b=true then 1 else 0)]:=by
 cases b
 all_goals
  refine zam Tryz.call200 Tryz.func200 rfl Zh (zat Zh) ?_;simp -implicitDefEqProofs only[go_sem,Tryz.results200]
theorem qet (x y:Bool):zmo (if x=true then 1 else 0) (if y=true then 1 else 0)=zkk y x:=by cases x<;>cases y<;>rfl
theorem zeu (a b:Li)(ha:upT a.atom=true)(hb:upT b.atom=true):FC Tryz.prog 152 [liD a,liD b] [iD (zd2 a b)]:=by
 have HT:=zd8 a.atom b.atom ha hb
 have HF1:=qhn a.pos
 have HF2:=qhn b.pos
 have HI:=zoq (if a.pos=true then 1 else 0) (if b.pos=true then 1 else 0)
 rw[qet]at HI
 have HO:=zuk (zc9 a.atom b.atom) (zkk b.pos a.pos)
 unfold zd2
 generalize zc9 a.atom b.atom=t at HT HO⊢
 generalize zkk b.pos a.pos=z at HI HO⊢
 generalize (if a.pos=true then (1:Int)else 0)=f1 at HF1 HI
 generalize (if b.pos=true then (1:Int)else 0)=f2 at HF2 HI
 simp only[liD,zaj,tmD,zaa a.atom,zaa b.atom]at HT⊢
 refine zam Tryz.call152 Tryz.func152 rfl Zh (zat Zh) ?_
 simp -implicitDefEqProofs only[go_sem,Tryz.results152]
 refine drawn Zh ?_
 refine Zj ?_
 refine za1 (HT) Zg ?_
 refine Zj ?_
 refine za1 (HF1) Zg ?_
 refine Zj ?_
 refine za1 (HF2) Zg ?_
 refine Zj ?_
 refine za1 (HI) Zg ?_
 refine Zj ?_
 refine zof Zg ?_
 refine Zj ?_
 refine za1 (HO) Zg ?_
 refine Zj ?_
 kernel_rfl
theorem zi5 (a b:Li):FC Tryz.prog 145 [liD a,liD b] [iD (zd2 a b)]:=by
 have HT:=zll a.atom b.atom
 have hv:zd2 a b=if zc9 a.atom b.atom=0 then zkk b.pos a.pos else zc9 a.atom b.atom:=rfl
 rw[hv]
 generalize zc9 a.atom b.atom=t at HT⊢
 simp only[liD,zaj,tmD,zaa a.atom,zaa b.atom]at HT⊢
 by_cases h:t=0
 ·rw[if_pos h];subst h;generalize a.pos=x;generalize b.pos=y;cases x<;>cases y
  all_goals
   refine zam Tryz.call145 Tryz.func145 rfl Zh (zat Zh) ?_;simp -implicitDefEqProofs only[go_sem,Tryz.results145];refine callF (HT) Zg ?_;refine Zj ?_
   try rfl
 ·have h2:(t != 0)=true:=by simpa using h
  rw[if_neg h];refine zam Tryz.call145 Tryz.func145 rfl Zh (zat Zh) ?_;simp -implicitDefEqProofs only[go_sem,Tryz.results145];refine callF (HT) (Zl h2) ?_;exact Zl h2
theorem zfa (l:Li)(hw:l.wt<=1048576):FC Tryz.prog 151 [liD l] [bD l.atom.atomOk]:=by
 have HA:=zpp l.atom (by have:=l.wt_eq;omega)
 simp only[liD,zaj,tmD,zaa l.atom]at HA⊢
 refine zam Tryz.call151 Tryz.func151 rfl Zh (zat Zh) ?_
 simp -implicitDefEqProofs only[go_sem,Tryz.results151]
 refine callF (HA) Zg ?_
 exact Zg
theorem zf1 {c:Cq}{l:Li}(h:l∈c.lits):l.wt<=c.wt:=by
 have h1:=c.wt_eq
 have h2:zgb c.lits=c.lits.length+(c.lits.map Li.wt).sum:=rfl
 have:=zci Li.wt c.lits l h
 omega
theorem qo6 {ls:List Li}{k:Nat}(hk:k<ls.length)(h:¬(ls[k].atom.atomOk=true/\(0<k->zd2 (ls[k-1]'Zi) ls[k]<0))):dec (okc ls)=false:=by
 cases hd:dec (okc ls)
 ·rfl
 ·exact absurd (zb8.1 hd k hk) h
def okb (ls:List Li)(n:Nat):Prop:=∀k (h:k<ls.length),k<n->ls[k].atom.atomOk=true/\(0<k->zd2 (ls[k-1]'Zi) ls[k]<0)
theorem zjx {ls:List Li}{k:Nat}(h:okb ls k)(hk:k<ls.length)(h1:ls[k].atom.atomOk=true)(h2:0<k->zd2 (ls[k-1]'Zi) ls[k]<0):okb ls (k+1):=λj hj hl=>by
 by_cases e:j=k
 ·subst e;exact⟨h1,h2⟩
 ·exact h j hj Zi
theorem zcu (c:Cq)(hw:c.wt<=1048576):FC Tryz.prog 92 [cqD c] [bD c.ok]:=by
 refine zbz (λhwf=>?_) Tryz.call92
 have hlw:=λl (h:l∈c.lits)=>Q8 (zf1 h) hw
 have hv:c.ok=(decide (c.lits.length<=8)&&dec (okc c.lits)):=rfl
 have hlen:c.lits.length<=1048576:=by
  have h1:=c.wt_eq;have h2:zgb c.lits=c.lits.length+(c.lits.map Li.wt).sum:=rfl;omega
 rw[hv]
 simp only[cqD,zap]at hwf⊢
 generalize c.lits=ls at hlw hlen⊢
 clear hv
 refine zam Tryz.call92 Tryz.func92 rfl Zh (zat Zh) ?_
 simp -implicitDefEqProofs only[go_sem,Tryz.results92]
 refine zad (λk:Nat=>hd [(1,.one (.bx 1 0)),(6,vT (liS ls)),(7,vI ls.length),(8,vI k)] [(1,[.t (liS ls)])] []) (λk=>k<=ls.length/\okb ls k) (λk=>ls.length-k) 0 (zab ?_) ⟨Qy _,λj _ h=>by omega⟩ ?_
 ·exact Zg
 ·intro k ⟨hk,hr⟩;by_cases hlt:k<ls.length
  ·have HV:=zfa ls[k] (hlw _ (Qe hlt));have hno:=λh=>qo6 (ls:=ls) hlt h;cases ha:ls[k].atom.atomOk
   ·rw[ha]at HV;rw[hno (λh=>by rw[ha]at h;cases h.1),J0];simp only[liD,zaj ls[k]]at HV;refine Zm hlt (zaj ls[k]) ?_;refine drawn Zh ?_;refine Xo ?_;refine za1 (HV) Zg ?_;refine Zj ?_;kernel_rfl
   ·rw[ha]at HV;by_cases h0:k=0
    ·subst h0;have hlz:((0:Int)<(ls.length:Int))=True:=eq_true Zi;simp only[liD,zaj ls[0]]at HV;refine Zs hlt hlz (zaj ls[0]) ?_;refine drawn Zh ?_;refine Zr hlt hlz ?_;refine za1 (HV) Zg ?_;refine Zj ?_;refine⟨Zh,1,⟨hlt,zjx hr hlt ha λh=>by omega⟩,Zi,zab ?_⟩;refine Zj ?_;rfl
    ·obtain⟨j,rfl⟩:∃j,k=j+1:=⟨k-1,Zi⟩;have hj:j<ls.length:=by omega
     have hkp:((0:Int)<((j+1:Nat):Int))=True:=eq_true Zi;have hw1:IntKind.i64.wrap (((j+1:Nat):Int)-1)=(j:Int):=by rw[zay Zi Zi];omega
     have hpa:=(hr j hj Zi).1;have HC:=zeu ls[j] ls[j+1] (zlb hpa) (zlb ha);have hno2:0<=zd2 ls[j] ls[j+1]->dec (okc ls)=false:=λh=>hno λh2=>by have:=h2.2 Zi;simp only[Jq]at this;omega
     have hyes:zd2 ls[j] ls[j+1]<0->okb ls (j+1+1):=λh=>zjx hr hlt ha λ_=>by simpa using h
     generalize zd2 ls[j] ls[j+1]=q at HC hno2 hyes;simp only[liD,zaj ls[j],zaj ls[j+1]]at HV HC;refine Zm hlt (zaj ls[j+1]) ?_;refine drawn Zh ?_;refine Zz hlt hkp hw1 hj (zaj ls[j]) ?_;refine za1 (HV) (Z9 hkp hw1 hj (zaj ls[j])) ?_;refine Zy hkp hw1 hj (zaj ls[j]) ?_;refine zbf (HC) Zg ?_;refine Zj ?_;refine⟨Zh,λh=>?_,λh=>?_⟩
     ·rw[hno2 (by simpa using h),J0]
     ·refine⟨j+1+1,⟨hlt,hyes (by simpa using h)⟩,Zi,zab ?_⟩;refine Zj ?_;rw[zaf Zi]
  ·have hd:dec (okc ls)=true:=zb8.2 λj hj=>hr j hj Zi;simp -implicitDefEqProofs only[go_sem,hlt,hd];simp;omega
end
section
open Go.RowKit
theorem zj1 (c:Cq)(hw:c.wt<=1048576):FC Tryz.prog 84 [cqD c] [bD c.ok]:=by
 have hlw:=λl (h:l∈c.lits)=>Q8 (zf1 h) hw
 have hv:c.ok=(decide (c.lits.length<=8)&&dec (okc c.lits)):=rfl
 rw[hv]
 simp only[cqD,zap]
 generalize c.lits=ls at hlw⊢
 clear hv
 by_cases hl8:ls.length<=8
 ·have h8:((8:Int)<(ls.length:Int))=False:=eq_false Zi;rw[Ku hl8,Q2];refine zam Tryz.call84 Tryz.func84 rfl Zh (zat Zh) ?_;simp -implicitDefEqProofs only[go_sem,Tryz.results84,h8];refine zad (λk:Nat=>hd [(1,.one (.bx 1 0)),(3,vI k)] [(1,[.t (liS ls)])] []) (λk=>k<=ls.length/\okb ls k) (λk=>ls.length-k) 0 (zab ?_) ⟨Qy _,λj _ h=>by omega⟩ ?_
  ·exact Zg
  ·intro k ⟨hk,hr⟩;by_cases hlt:k<ls.length
   ·have HV:=zxw ls[k].atom (by have h1:=hlw _ (Qe hlt);have h2:=ls[k].wt_eq;omega);have hno:=λh=>qo6 (ls:=ls) hlt h;cases ha:ls[k].atom.atomOk
    ·rw[ha]at HV;rw[hno (λh=>by rw[ha]at h;cases h.1)];simp only[tmD,zaa ls[k].atom]at HV;refine Xo ?_;refine drawn Zh ?_;refine Zm hlt (zaj ls[k]) ?_;refine za1 (HV) Zg ?_;refine Zj ?_;kernel_rfl
    ·rw[ha]at HV;by_cases h0:k=0
     ·subst h0;have hlz:((0:Int)<(ls.length:Int))=True:=eq_true Zi;simp only[tmD,zaa ls[0].atom]at HV;refine Zr hlt hlz ?_;refine drawn Zh ?_;refine Zs hlt hlz (zaj ls[0]) ?_;refine za1 (HV) Zg ?_;refine Zj ?_;refine⟨Zh,1,⟨hlt,zjx hr hlt ha λh=>by omega⟩,Zi,zab ?_⟩;refine Zj ?_;rfl
     ·obtain⟨j,rfl⟩:∃j,k=j+1:=⟨k-1,Zi⟩;have hj:j<ls.length:=by omega
      have hkp:((0:Int)<((j+1:Nat):Int))=True:=eq_true Zi;have hw1:IntKind.i64.wrap (((j+1:Nat):Int)-1)=(j:Int):=by rw[zay Zi Zi];omega
      have hpa:=(hr j hj Zi).1;have HC:=zi5 ls[j] ls[j+1];have hno2:0<=zd2 ls[j] ls[j+1]->dec (okc ls)=false:=λh=>hno λh2=>by have:=h2.2 Zi;simp only[Jq]at this;omega
      have hyes:zd2 ls[j] ls[j+1]<0->okb ls (j+1+1):=λh=>zjx hr hlt ha λ_=>by simpa using h
      generalize zd2 ls[j] ls[j+1]=q at HC hno2 hyes;simp only[tmD,zaa ls[j+1].atom]at HV;simp only[liD,zaj ls[j],zaj ls[j+1]]at HC;refine Xo ?_;refine drawn Zh ?_;simp -implicitDefEqProofs only[go_sem,hlt,hkp,hw1,hj,zac,zaj ls[j],zaj ls[j+1]];refine za1 (HV) (by simp -implicitDefEqProofs only[go_sem,hlt,hkp,hw1,hj,zac,zaj ls[j],zaj ls[j+1]]) ?_;simp -implicitDefEqProofs only[go_sem,hlt,hkp,hw1,hj,zac,zaj ls[j],zaj ls[j+1]];refine zbf (HC) Zg ?_;refine Zj ?_;refine⟨Zh,λh=>?_,λh=>?_⟩
      ·rw[hno2 (by simpa using h)]
      ·refine⟨j+1+1,⟨hlt,hyes (by simpa using h)⟩,Zi,zab ?_⟩;refine Zj ?_;rw[zaf Zi]
   ·have hd1:dec (okc ls)=true:=zb8.2 λj hj=>hr j hj Zi;exact Z0 hlt hd1
 ·have h8:((8:Int)<(ls.length:Int))=True:=eq_true Zi;rw[Kv hl8,Q4];refine zam Tryz.call84 Tryz.func84 rfl Zh (zat Zh) ?_;simp -implicitDefEqProofs only[go_sem,Tryz.results84,h8]
def Cq.vi (c:Cq):List Str:=(c.lits.map λl=>voI l.atom).flatten
theorem qsx {c:Cq}(h:c.ok=true):c.vi=c.vo:=by
 unfold Cq.vi Cq.vo
 rw[Jb λl hl=>(qhs (zcp h l hl)).1]
theorem zxn (c:Cq):c.vo.length<=c.wt:=by
 have h:=zj9 (λl:Li=>voS l.atom) (λl=>1+l.wt) c.lits λl _=>by
  have h1:=qlq l.atom;have h2:=l.wt_eq;omega
 rw[zoj]at h
 have h1:=c.wt_eq
 have h2:zgb c.lits=c.lits.length+(c.lits.map Li.wt).sum:=rfl
 unfold Cq.vo
 omega
theorem qbe (f:Li->List Str)(ls:List Li)(k:Nat)(h:k<ls.length):zb1 (zb1 [] ((ls.take k).map f).flatten) (f ls[k])=zb1 [] ((ls.take (k+1)).map f).flatten:=by
 rw[zeg f ls k h,zk8]
theorem qab (f:Li->List Str)(ls:List Li)(k:Nat)(h:k<ls.length):zc6 (zc6 [] ((ls.take k).map f).flatten) (f ls[k])=zc6 [] ((ls.take (k+1)).map f).flatten:=by
 rw[zeg f ls k h,zsj]
theorem zib (l:List Str):(zb1 [] l).length<=l.length:=by
 have:=zhy l []
 simpa using this
theorem znm (l:List Str):(zc6 [] l).length<=l.length:=by rw[<-zjz,zre];exact zib l
theorem zp9 (c:Cq)(hc:c.ok=true)(hw:c.wt<=1048576):FC Tryz.prog 181 [cqD c] [.one (zfg (zb1 [] c.vi))]:=by
 have hn:=λl (h:l∈c.lits)=>(qhs (zcp hc l h)).2
 have hlw:=λl (h:l∈c.lits)=>Q8 (zf1 h) hw
 have hlen:=zxn c
 rw[<-qsx hc]at hlen
 have hv:c.vi=(c.lits.map λl=>voI l.atom).flatten:=rfl
 rw[hv]at hlen⊢
 have hll:c.lits.length<=1048576:=by
  have h1:=c.wt_eq;have h2:zgb c.lits=c.lits.length+(c.lits.map Li.wt).sum:=rfl;omega
 simp only[cqD,zap]
 generalize c.lits=ls at hn hlw hlen hll⊢
 refine zcc Tryz.call181 Tryz.func181 rfl Zh (zat Zh) ?_
 simp -implicitDefEqProofs only[go_sem,Tryz.results181]
 refine za2 Zg ?_
 refine Zj ?_
 refine zad (λk:Nat=>hd [(3,.one (.ow 192 0)),(8,.one (.rn (liS ls))),(9,vI ls.length),(10,vI k)] [] [(192,⟨true,1,(zb1 [] ((ls.take k).map λl=>voI l.atom).flatten).map λs=>[T.str s],0,true⟩)]) (λk=>k<=ls.length) (λk=>ls.length-k) 0 (zab ?_) (Qy _) ?_
 ·refine Zj ?_;rfl
 ·intro k hk;by_cases hlt:k<ls.length
  ·have h1:=zdh (λl:Li=>voI l.atom) ls k hlt;have h2:=zib ((ls.take k).map λl=>voI l.atom).flatten;have h3:=hlw _ (Qe hlt);have h4:=ls[k].wt_eq;have HC:=zsm ls[k].atom (hn _ (Qe hlt)) Zi (zb1 [] ((ls.take k).map λl=>voI l.atom).flatten) Zi;rw[qbe (λl:Li=>voI l.atom) ls k hlt]at HC;simp only[tmD,zaa ls[k].atom]at HC;refine Zm hlt (zaj ls[k]) ?_;refine zei [8,9,10] [14,16] [] (HC) Zg Zg Zg Zg ?_;refine Zj ?_;refine⟨k+1,hlt,Zi,zcn 192 544 ?_⟩;refine Zj ?_;rw[zaf Zi]
  ·have ht:ls.take k=ls:=Ql Zi;exact Xy
theorem znb (c:Cq)(hw:c.wt<=1048576):FC Tryz.prog 111 [cqD c] [.one (zfg (zc6 [] c.vo))]:=by
 have hlw:=λl (h:l∈c.lits)=>Q8 (zf1 h) hw
 have hlen:=zxn c
 have hv:c.vo=(c.lits.map λl=>voS l.atom).flatten:=rfl
 rw[hv]at hlen⊢
 have hll:c.lits.length<=1048576:=by
  have h1:=c.wt_eq;have h2:zgb c.lits=c.lits.length+(c.lits.map Li.wt).sum:=rfl;omega
 simp only[cqD,zap]
 generalize c.lits=ls at hlw hlen hll⊢
 refine zcc Tryz.call111 Tryz.func111 rfl Zh (zat Zh) ?_
 simp -implicitDefEqProofs only[go_sem,Tryz.results111]
 refine za2 Zg ?_
 refine Zj ?_
 refine zad (λk:Nat=>hd [(1,.one (.bx 1 0)),(3,.one (.ow 160 0)),(4,vI k)] [(1,[.rn (liS ls)])] [(160,⟨true,1,(zc6 [] ((ls.take k).map λl=>voS l.atom).flatten).map λs=>[T.str s],0,true⟩)]) (λk=>k<=ls.length) (λk=>ls.length-k) 0 (zab ?_) (Qy _) ?_
 ·refine Zj ?_;rfl
 ·intro k hk;by_cases hlt:k<ls.length
  ·have h1:=zdh (λl:Li=>voS l.atom) ls k hlt;have h2:=znm ((ls.take k).map λl=>voS l.atom).flatten;have h3:=hlw _ (Qe hlt);have h4:=ls[k].wt_eq;have HC:=qll ls[k].atom Zi (zc6 [] ((ls.take k).map λl=>voS l.atom).flatten) Zi;rw[qab (λl:Li=>voS l.atom) ls k hlt]at HC;simp only[tmD,zaa ls[k].atom]at HC;refine Zm hlt (zaj ls[k]) ?_;refine zei [1,4] [13,19] [] (HC) Zg Zg Zg Zg ?_;refine Zj ?_;refine⟨k+1,hlt,Zi,zcn 160 640 ?_⟩;refine Zj ?_;rw[zaf Zi]
  ·have ht:ls.take k=ls:=Ql Zi;exact Xy
theorem zjg (c:Cq)(hw:c.wt<=1048576):FC Tryz.prog 133 [cqD c] [bD (grC c)]:=by
 have HI:=zcu c hw
 have hv:grC c=(c.ok&&decide (c.vo=[])):=rfl
 rw[hv]
 cases hg:c.ok
 ·rw[hg]at HI;rw[Q4];simp only[cqD,zap]at HI⊢;refine zam Tryz.call133 Tryz.func133 rfl Zh (zat Zh) ?_;simp -implicitDefEqProofs only[go_sem,Tryz.results133];refine callF (HI) Zg ?_;exact Zg
 ·rw[hg]at HI;rw[Q2];have HC:=zp9 c hg hw;have hd:(((zb1 [] c.vi).length:Int)==0)=decide (c.vo=[]):=by
   rw[J6,Jo,Q0,<-qsx hg,<-zlx];omega
  generalize zb1 [] c.vi=L at HC hd;simp only[cqD,zap]at HI HC⊢;refine zam Tryz.call133 Tryz.func133 rfl Zh (zat Zh) ?_;simp -implicitDefEqProofs only[go_sem,Tryz.results133];refine callF (HI) Zg ?_;refine Zj ?_;refine callF (HC) X4 ?_;exact X4
theorem zq4 (c:Cq)(hw:c.wt<=1048576):FC Tryz.prog 132 [cqD c] [bD (!grC c)]:=by
 have HI:=zjg c hw
 simp only[cqD,zap]at HI⊢
 refine zam Tryz.call132 Tryz.func132 rfl Zh (zat Zh) ?_
 simp -implicitDefEqProofs only[go_sem,Tryz.results132]
 refine callF (HI) Zg ?_
 exact Zg
end
section
open Go.RowKit Go.Sort Go.Proofs
section
variable {A:Type}{c:A->List T}{G:A->Prop}{w w':World}{b:Nat}
structure El (c:A->List T)(G:A->Prop)(w:World)(b:Nat) where
 x:A
 vs:List Value
 fp:List Nat
 own:zav w (c x) vs fp
 nb:b∉fp
 good:G x
theorem qo0 {cells:Array Value}{sz:Nat}:∀{xs:List A}{o:Nat}{fps:List Nat},zak w cells o sz (xs.map c) fps->b∉fps->(∀x∈xs,G x) →
  ∃es:List (El c G w b),es.map El.x=xs/\(es.map El.fp).flatten=fps/\(∀e∈es,e.vs.length=sz)/\∀i (h:i<es.length) r u,es[i].vs[r]?=some u->cells[o+i*sz+r]?=some u
 | [],o,fps,h,_,_=>by
  unfold zak at h;subst h;exact⟨[],rfl,rfl,λe he=>absurd he (by simp),λi h=>absurd h (by simp)⟩
 | x::xs,o,fps,h,hb,hG=>by
  rw[Qk]at h;unfold zak at h;obtain⟨hl,f1,f2,rfl,h1,h2⟩:=h;obtain⟨vs,k1,k2,k3⟩:=zbl.vals h1;obtain⟨es,e1,e2,e3,e4⟩:=qo0 h2 (λhx=>hb (by simp[hx])) λy hy=>hG y (by simp[hy]);refine⟨⟨x,vs,f1,k3,λhx=>hb (by simp[hx]),hG x (by simp)⟩::es,by simp[e1],by simp[e2],λe he=>?_,λi h r u hu=>?_⟩
  ·rcases Qs.1 he with rfl|he
   ·exact k1.trans hl
   ·exact e3 e he
  ·cases i with
   | zero=>simpa using k2 r u hu
   | succ i =>
    have:=e4 i (by simpa using h) r u (by simpa using hu)
    rwa [show o+(i+1)*sz+r=o+sz+i*sz+r from by rw[Km];omega]
theorem zk9 {cells:Array Value}{sz:Nat}:∀{es:List (El c G w b)}{o:Nat},(∀e∈es,(c e.x).length=sz)->(∀i (h:i<es.length) r u,es[i].vs[r]?=some u->cells[o+i*sz+r]?=some u)->(∀k,k∈(es.map El.fp).flatten->w'.heap[k]?=w.heap[k]?) →
  zak w' cells o sz ((es.map El.x).map c) (es.map El.fp).flatten
 | [],o,_,_,_=>by simp only[Q6,List.flatten_nil];unfold zak;rfl
 | e::es,o,hl,hc,hk=>by
  simp only[Qk,Q5]at hk⊢;unfold zak;refine⟨hl e (by simp),e.fp,_,rfl,zbl.of_vals (e.own.keep λk hk'=>hk k (by simp[hk'])) λj u hu=>?_,zk9 (λe' he=>hl e' (by simp[he])) (λi h r u hu=>?_) λk hk'=>hk k (by simp only[Qt];exact Or.inr hk')⟩
  ·have:=hc 0 (by simp) j u hu;simpa using this
  ·have:=hc (i+1) (by simpa using h) r u (by simpa using hu)
   rwa [show o+(i+1)*sz+r=o+sz+i*sz+r from by rw[Km];omega]at this
theorem zas.oneC {t:T}{v:Value}{fp:List Nat}(h:zas w t v fp):v.oneCell'=true:=by
 cases t<;>unfold zas at h
 case int=>rw[h.1];rfl
 case bool=>rw[h.1];rfl
 case str=>rw[h.1];rfl
 case sl=>obtain⟨ao,cap,rfl,_⟩:=h;rfl
 case vs=>rw[h.1];rfl
 case pin u t=>exact zas.oneC h.2
 all_goals exact h.elim
theorem zav.oneC:∀{cs:List T}{vs:List Value}{fp:List Nat},zav w cs vs fp->∀v∈vs,v.oneCell'=true
 | [],vs,fp,h,v,hv=>by rw[h.1]at hv;cases hv
 | t::cs,vs,fp,h,v,hv=>by
  obtain⟨v1,vs',f1,f2,rfl,rfl,h1,h2⟩:=h;rcases Qs.1 hv with rfl|hv
  ·exact h1.oneC
  ·exact zav.oneC h2 v hv
theorem qb8 [Inhabited (El c G w b)]{cells:Array Value}{ty:TypeId}{sz:Nat}{es:List (El c G w b)}(hb:w.heap[b]?=some (.cells cells ty (0,0)))(hl:∀e∈es,e.vs.length=sz)(hc:∀i (h:i<es.length) r u,es[i].vs[r]?=some u->cells[0+i*sz+r]?=some u) :
    HoldsK El.vs sz w b 0 es.toArray:=by
  intro j hj;rw[size_flatK]at hj;have hj:j<es.length*sz:=by simpa using hj
  have hs : 0 < sz := by rcases Nat.eq_zero_or_pos sz with h | h
                         · rw[h]at hj;omega
                         · exact h
  have hi:j / sz<es.length:=Nat.div_lt_of_lt_mul (by rw[Nat.mul_comm];exact hj);have hr:j % sz<sz:=Nat.mod_lt _ hs;have hd:0+j / sz*sz+j % sz=0+j:=by have:=Nat.div_add_mod' j sz;omega
  have he:es[j / sz].vs.length=sz:=hl _ (Qe hi);have h1:=hc (j / sz) hi (j % sz) _ (List.getElem?_eq_getElem (by rw[he];exact hr));rw[hd]at h1;refine⟨?_,by simp[World.frozen?,hb]⟩;rw[get_flatK _ _ _ _ (by simpa using hj)];simp only[World.cell?,hb,Option.isSome_none,Qz,if_false];rw[h1];simp only[id,Qf];rw[getElem!_pos es.toArray (j / sz) (by simpa using hi),List.getElem_toArray,getElem!_pos _ _ (by rw[he];exact hr)]
theorem zr2 {B:Type} [Inhabited B]{enc:B->List Value}{k n:Nat}{os:Array Obj}{cur:Array Value}{e:TypeId}{fr:Nat×Nat}(d:Array B)(hb:w.heap[b]?=some (.cells cur e fr)) :
  (sortWorldK enc k w b 0 n d os).heap[b]?=some (.cells (putCells id 0 (flatK enc k d) cur) e fr):=by
 have hg:b<w.heap.size:=(Array.getElem?_eq_some_iff.1 hb).1
 unfold sortWorldK putRowK
 rw[heap_grow_old _ _ (by simpa[putRow,mapBlock]using hg)]
 simp[putRow,mapBlock,Sort.ahead,Array.getElem?_modify,hb,onCells]
theorem zdw {B:Type} [Inhabited B]{enc:B->List Value}{k n:Nat}{os:Array Obj}(d:Array B):w.grownBy (sortWorldK enc k w b 0 n d os) (some b):=by
 unfold sortWorldK putRowK
 refine⟨rfl,rfl,rfl,by simp,λk hk hne=>?_⟩
 rw[heap_grow_old _ _ (by simpa[putRow,mapBlock]using hk)]
 have:b≠k:=λe=>hne (by rw[e])
 simp[putRow,mapBlock,Sort.ahead,Array.getElem?_modify,this]
theorem qia [Inhabited (El c G w b)]{cur:Array Value}{sz:Nat}{es:List (El c G w b)}(hl:∀e∈es,e.vs.length=sz)(hn:es.length*sz<=cur.size)(i:Nat)(h:i<es.length)(r:Nat)(u:Value)(hu:es[i].vs[r]?=some u) :
  (putCells id 0 (flatK El.vs sz es.toArray) cur)[0+i*sz+r]?=some u:=by
 have he:es[i].vs.length=sz:=hl _ (Qe h)
 obtain⟨hr,hu⟩:=List.getElem?_eq_some_iff.1 hu
 have hs:0<sz:=by omega
 have hb:i*sz+r<es.length*sz:=by
  have:=Kz sz (show i+1<=es.length from h);rw[Km]at this;omega
 have h0:0+i*sz+r=i*sz+r:=by omega
 have hd:(i*sz+r) / sz=i:=by rw[Y9,Nat.add_mul_div_right _ _ hs,Nat.div_eq_of_lt Zi,Qi]
 have hm:(i*sz+r) % sz=r:=by rw[Y9,Nat.add_mul_mod_self_right,Nat.mod_eq_of_lt Zi]
 rw[h0]
 have hlt:i*sz+r<cur.size:=by omega
 simp only[putCells,Array.getElem?_mapIdx,Array.getElem?_eq_getElem hlt,Q9,Qf]
 rw[if_pos ⟨Zi,by rw[size_flatK];simpa using hb⟩,Nat.sub_zero,get_flatK _ _ _ _ (by simpa using hb),hd,hm,getElem!_pos es.toArray i (by simpa using h),List.getElem_toArray,getElem!_pos es[i].vs r hr]
 exact hu
end
end
section
open Go
def RwD {α:Type}:Result α->World
 | .ok _ w=>w
 | .halt _ w=>w
theorem far_dr {P:Program}{w w':World}{a:Addr}{v:Value}{b:Bool}{l:List Addr}(h:w.farStore P a v b=.ok (w',l)):w'.drawn=w.drawn:=by
 unfold World.farStore at h
 split at h
 ·split at h
  ·rename_i r hr;cases h;unfold World.viewStore at hr;simp only[bind,Except.bind,pure,Except.pure,throw,throwThe,MonadExceptOf.throw]at hr
   repeat' first
    | (cases hr;done)
    | (cases hr;rfl)
    | split at hr
  ·cases h
 ·cases h
theorem qge {α:Type}:∀(s:Ask α)(w:World),w.drawn<=(w.ask s).2.drawn
 | .done _,w=>Qp _
 | .ask what range k,w=>by
  unfold World.ask;simp only[];split
  ·exact qge _ w
  ·exact Q8 (Nat.le_succ _) (qge _ { w with drawn:=w.drawn+1 })
theorem sys_dr (w:World)(c:Sys):w.drawn<=(w.sys c).2.drawn:=by
 have h:=qge (Kernel.perform c w.os) w
 unfold World.sys
 split
 ·exact Qp _
 ·rename_i e;rw[e]at h;exact h
theorem qd8 (w:World)(a:Addr)(n:Nat):(w.freeze a n).drawn=w.drawn:=by unfold World.freeze;split<;>rfl
theorem zye {α:Type}(P:Program)(s:Sem α):∀w,w.drawn<=(RwD (s.run P w)).drawn:=by
  induction s with
  | pure a=>exact λw=>Qp _
  | load m a k ih =>
    intro w;simp only[Sem.run];split
    · exact ih _ _
    · split
      · exact ih _ _
      · exact Qp _
  | store m a v k ih =>
    intro w;cases v<;>simp only[Sem.run]
    all_goals first
      | exact Qp _
      | (split
         · split
           · exact Qp _
           · exact Q8 (Za rfl) (ih (w.setCell a _))
         · split
           · rename_i w' l h;have:=ih w';rw[far_dr h]at this;exact this
           · exact Qp _)
  | new o k ih=>exact λw=>ih _ { w with heap:=w.heap.push o }
  | shape r k ih=>exact λw=>ih _ w
  | freeze a n k ih=>exact λw=>by have:=ih (w.freeze a n);rw[qd8]at this;exact this
  | frozen a k ih=>exact λw=>ih _ w
  | getObj r k ih =>
    intro w;simp only[Sem.run];split
    · exact Qp _
    · exact ih _ _
    · exact Qp _
  | setObj r o k ih =>
    intro w;simp only[Sem.run];split
    · exact Qp _
    · exact ih { w with heap:=w.heap.setIfInBounds r o }
    · exact Qp _
  | choose q k ih =>
    intro w;simp only[Sem.run];split
    · exact ih _ w
    · exact Q8 (Nat.le_succ _) (ih _ { w with drawn:=w.drawn+1 })
  | sys c k ih=>exact λw=>Q8 (sys_dr w c) (ih _ _)
  | program k ih=>exact λw=>ih _ w
  | mark m k ih=>exact λw=>ih w
  | halt h=>exact λw=>Qp _
theorem zbp {α:Type}{P:Program}{s:Sem α}{w w':World}{a:α}(h:s.run P w=.ok a w'):w.drawn<=w'.drawn:=by
 have:=zye P s w
 rw[h]at this
 exact this
theorem zhn {α:Type}{P:Program}{s:Sem α}{w w':World}{x:Halt}(h:s.run P w=.halt x w'):w.drawn<=w'.drawn:=by
 have:=zye P s w
 rw[h]at this
 exact this
def GdD (w:World):Go.GStep->Prop
 | .go _ w' _=>w.drawn<=w'.drawn
 | .comm _ _ _ _ w' _=>w.drawn<=w'.drawn
 | .spawn _ _ w' _=>w.drawn<=w'.drawn
 | .count _ w' _=>w.drawn<=w'.drawn
 | .timer _ _ w' _=>w.drawn<=w'.drawn
 | .alone _ _ w' _=>w.drawn<=w'.drawn
 | .newcoro _ _ _ w' _=>w.drawn<=w'.drawn
 | .coroswitch _ _ _ w' _=>w.drawn<=w'.drawn
 | .collect _ w' _=>w.drawn<=w'.drawn
 | .watch _ w' _=>w.drawn<=w'.drawn
 | .ended _ _ _=>True
theorem GdD.after {w:World}{es:Array Event}{s:Go.GStep}(h:GdD w s):GdD w (Go.GStep.after es s):=by
 cases s<;>exact h
theorem GdD.mono {w w1:World}{s:Go.GStep}(h1:w.drawn<=w1.drawn)(h:GdD w1 s):GdD w s:=by
 cases s<;>first|exact Q8 h1 h|trivial
theorem zxi (fr:Frame)(a:List ByteArray)(m:String)(b:Bool)(w:World):GdD w (dieOf fr a m b w):=Qp _
theorem ze5 (fr:Frame)(m:String)(w:World):GdD w (endThrow fr m w):=zxi _ _ _ _ _
theorem zgk (P:Program)(fr:Frame)(v:Value)(w:World):GdD w (endPrinting P fr v w):=by
 unfold endPrinting
 simp only[]
 split
 ·exact ze5 _ _ _
 ·trivial
theorem qa6 (w w1:World)(fd:Nat)(t:ByteArray)(o:Outcome):GdD w (endWith w1 fd t o):=by
 unfold endWith
 simp only[]
 split
 ·split<;>trivial
 ·trivial
 ·trivial
theorem zl2 (P:Program)(fr:Frame)(cs:List Frame)(d:Option Dying)(m:String)(w:World):GdD w (endFatal P fr cs d m w):=by
 unfold endFatal
 simp only[]
 split
 ·rename_i h;exact(zxi _ _ _ _ _).mono (zbp h)
 ·trivial
 ·trivial
theorem qbj (P:Program)(fr:Frame)(d:Dying)(f:Fatal)(w:World):GdD w (writeOn P fr d f w):=by
 unfold writeOn
 simp only[Sem.runT_eq]
 split
 ·trivial
 ·split
  ·rename_i h;simp only[Qx]at h;exact zbp h.1
  ·rename_i h;simp only[Qx]at h;exact zhn h.1
  ·trivial
  ·trivial
theorem die_gd (P:Program)(fr:Frame)(d:Dying)(w:World):GdD w (die P fr d w):=by
 unfold die
 simp only[Sem.runT_eq]
 split
 ·exact qbj _ _ _ _ _
 ·split
  ·split
   ·exact Qp _
   ·exact qa6 _ _ _ _ _
  ·split
   ·exact Qp _
   ·split
    ·rename_i h;exact zbp h
    ·trivial
   ·refine GdD.after ?_;split
    ·rename_i h;exact zbp h
    ·rename_i h;exact zbp h
    ·trivial
    ·rename_i h;exact(zgk _ _ _ _).mono (zhn h)
    ·trivial
   ·trivial
theorem ze8 (P:Program)(b:Bool)(fr:Frame)(cs:List Frame)(d:Option Dying)(v:Value)(w:World):GdD w (doReturn P b fr cs d v w):=by
 unfold doReturn
 repeat' first
  | exact Qp _
  | trivial
  | split
theorem qnz {w:World}{c:Prop} [Decidable c]{a b:Go.GStep}(ha:GdD w a)(hb:GdD w b):GdD w (if c then a else b):=by
 split
 ·exact ha
 ·exact hb
theorem zk4 (P:Program)(fr:Frame)(cs:List Frame)(dy:Option Dying)(d:Deferred)(w:World):GdD w (callDeferred P fr cs dy d w):=by
 unfold callDeferred
 simp only[Sem.runT_eq]
 refine qnz trivial ?_
 ·refine GdD.after ?_;have hd:=zye P (invoke d.target d.args) w;generalize (invoke d.target d.args).run P w=r at hd;rcases r with⟨n,w'⟩|⟨x,w'⟩
  ·have hd:w.drawn<=w'.drawn:=hd;cases n<;>(try simp only[])
   all_goals
    repeat' first
     | exact hd
     | trivial
     | (rename_i h;cases h;done)
     | (rename_i h;cases h;exact hd)
     | split
  ·have hd:w.drawn<=w'.drawn:=hd;cases x<;>(try simp only[])
   all_goals
    repeat' first
     | exact hd
     | trivial
     | exact(zl2 _ _ _ _ _ _).mono hd
     | exact(ze5 _ _ _).mono hd
     | (rename_i h;cases h;done)
     | (rename_i h;cases h;exact hd)
     | split
theorem qeq (P:Program)(b:Bool)(fr:Frame)(cs:List Frame)(dy:Option Dying)(w:World):GdD w (unwind P b fr cs dy w):=by
 unfold unwind
 simp only[Sem.runT_eq]
 repeat' first
  | exact zk4 _ _ _ _ _ _
  | exact ze8 _ _ _ _ _ _ _
  | exact zgk _ _ _ _
  | exact Qp _
  | trivial
  | refine GdD.after ?_
  | (rename_i h;exact zbp h)
  | (rename_i h;exact(ze8 _ _ _ _ _ _ _).mono (zbp h))
  | split
theorem zzk (P:Program)(fr:Frame)(cs:List Frame)(dy:Option Dying)(g:Nat)(w:World):GdD w (early P fr cs dy g w):=by
 have hn : ∀ w1 : World, w.drawn <= w1.drawn -> GdD w (match w1.heap[g]? with | some (.pending c elem) => .go { frame := fr, callers := cs, status := .running, dying := dy } { w1 with heap := w1.heap.setIfInBounds g (.cells c elem) } | _ => .ended (.stuck "early: the variable does not wait" (fr.pos P)) w1) := fun w1 h1 => by
  split
  ·exact h1
  ·trivial
 unfold early
 simp only[]
 repeat' first
  | exact hn _ (Qp _)
  | exact Qp _
  | trivial
  | (rename_i h;exact hn _ (zbp h))
  | (rename_i h;exact zbp h)
  | split
theorem zn1 (P:Program)(l:Bool)(fr:Frame)(cs:List Frame)(dy:Option Dying)(s:Sem Next)(w:World):GdD w (stepG.apply P l fr cs dy s w):=by
 have hd:=zye P s w
 unfold stepG.apply
 have e:(if l=true then s.runT P w #[]else (s.run P w,#[])).1=s.run P w:=by cases l<;>simp
 generalize (if l=true then s.runT P w #[]else (s.run P w,#[]))=q at e
 obtain⟨r,es⟩:=q
 simp only at e
 subst e
 simp only[]
 refine GdD.after ?_
 generalize s.run P w=r at hd
 rcases r with⟨n,w'⟩|⟨x,w'⟩
 ·have hd:w.drawn<=w'.drawn:=hd;cases n<;>(try simp only[])
  all_goals
   repeat' first
    | exact hd
    | trivial
    | exact(ze5 _ _ _).mono hd
    | (rename_i h;cases h;done)
    | (rename_i h;cases h;exact hd)
    | split
 ·have hd:w.drawn<=w'.drawn:=hd;cases x<;>(try simp only[])
  all_goals
   repeat' first
    | exact hd
    | trivial
    | exact(zl2 _ _ _ _ _ _).mono hd
    | exact(ze5 _ _ _).mono hd
    | exact(zzk _ _ _ _ _ _).mono hd
    | (rename_i h;cases h;done)
    | (rename_i h;cases h;exact hd)
    | (rename_i h;cases h;exact(zzk _ _ _ _ _ _).mono hd)
    | split
theorem qse (P:Program)(l:Bool)(fr:Frame)(cs:List Frame)(dy:Option Dying)(w:World):GdD w (stepG.oper P l fr cs dy w):=by
 unfold stepG.oper
 split
 ·trivial
 ·split<;>exact zn1 _ _ _ _ _ _ _
theorem zum {α:Type}{w:World}(o:Option α)(a:Go.GStep)(f:α->Go.GStep)(h0:GdD w a)(h:∀x,GdD w (f x)):GdD w (o.elim a f):=by
 cases o
 ·exact h0
 ·exact h _
theorem qst (P:Program)(b l:Bool)(fr:Frame)(cs:List Frame)(dy:Option Dying)(w:World):GdD w (stepG.exec P b l fr cs dy w):=by
 have hl:∀j:Option Code,GdD w (match fr.roundOf with
   | none => if (j matches none | some .ret) then .go { frame := { fr with mode := .returning }, callers := cs, status := .running, dying := dy } w else .ended (.stuck "exit, goto: no such block or label" (fr.pos P)) w
   | some lo=>Go.GStep.after (seen P fr.fn ((Instr.endRound lo j).runT P w #[]).2) (match ((Instr.endRound lo j).runT P w #[]).1 with
    | .ok v w=>doReturn P b fr cs dy v w
    | .halt _ w => .ended (.stuck "range over a function: no such loop" (fr.pos P)) w)) := fun j => by
  simp only[Sem.runT_eq];split
  ·refine qnz (Qp _) trivial
  ·refine GdD.after ?_;split
   ·rename_i h;exact(ze8 _ _ _ _ _ _ _).mono (zbp h)
   ·trivial
 unfold stepG.exec
 simp only[]
 repeat' first
  | exact hl _
  | exact Qp _
  | trivial
  | exact zn1 _ _ _ _ _ _ _
  | exact qse _ _ _ _ _ _
  | refine zum _ _ _ (hl _) λ_=>?_
  | refine zum _ _ _ trivial λ_=>?_
  | refine zum _ _ _ ?_ λ_=>?_
  | (rename_i h;simp only[Sem.runT_eq]at h;exact zbp h)
  | (rename_i h;exact zbp h)
  | (rename_i h;simp only[Sem.runT_eq]at h;exact zhn h)
  | (rename_i h;simp only[Sem.runT_eq]at h;exact(zn1 _ _ _ _ _ _ _).mono (zbp h))
  | (rename_i h;simp only[Sem.runT_eq]at h;exact(ze8 _ _ _ _ _ _ _).mono (zbp h))
  | refine GdD.after ?_
  | split
theorem qk7 (P:Program)(b l:Bool)(g:Goroutine)(w:World):GdD w (stepG P b g w l):=by
 obtain⟨fr,cs,status,dying,offers⟩:=g
 simp only[stepG]
 split
 ·exact die_gd _ _ _ _
 ·exact qst _ _ _ _ _ _ _
 ·exact qeq _ _ _ _ _ _
theorem zz5 {rest:Rest}{cs:Array CommCase}{w w1:World}(h:waitingAt rest cs w=some w1):w.drawn<=w1.drawn:=by
 unfold waitingAt at h
 split at h
 ·split at h
  ·cases h;exact Qp _
  ·cases h
 ·cases h;exact Qp _
theorem qrf (p:Program)(rest:Rest)(gs:Array Goroutine)(i:Nat)(g:Goroutine)(cases:Array CommCase)(blocking:Bool)
  (shape:CommShape) (w:World) (m':Machine) (h:(communicate p rest gs i g cases blocking shape w).1=.next m'):w.drawn<=m'.world.drawn:=by
 unfold communicate at h
 simp only[]at h
 repeat' first
  | (simp at h;done)
  | (simp only[Stepped.next.injEq]at h;subst h;first|exact Qp _|exact zz5 ‹_› | (have hx:=zbp ‹Sem.run p _ w=Result.ok _ _›;exact hx)|(have hx:=zbp ‹Sem.run p _ w=Result.ok _ _›;have hy:=zhn ‹Sem.run p _ _=Result.halt _ _›;exact Q8 hx hy)|(have hx:=zbp ‹Sem.run p _ w=Result.ok _ _›;have hy:=zbp ‹Sem.run p _ _=Result.ok _ _›;exact Q8 hx hy))
  | split at h
theorem qb3 (p:Program)(gs:Array Goroutine)(rest:Rest)(w:World)(m':Machine)
  (h:look p gs rest w=.next m'):w.drawn<=m'.world.drawn:=by
 unfold look at h
 simp only[]at h
 repeat' first
  | (simp at h;done)
  | (simp only[Stepped.next.injEq]at h;subst h;have hx:=zbp ‹Sem.run p _ w=Result.ok _ _›;exact hx)
  | split at h
theorem qm4 (w:World)(c:Nat):(drain w c).2.drawn=w.drawn:=by
 unfold drain
 split<;>rfl
theorem zsk (m:Machine)(k:Nat)(t:Timer)(a b:Nat):(retime m k t a b).2.world.drawn=m.world.drawn:=by
 unfold retime
 simp only[]
 split
 ·exact qm4 _ _
 ·rfl
theorem zze {m m':Machine}{var:Addr}{f:Nat->Timer->Value×Machine}{v:Value}(hf:∀k t,(f k t).2.world.drawn=m.world.drawn)(h:timerOp.named m var f=.ok (v,m')):m.world.drawn<=m'.world.drawn:=by
 unfold timerOp.named at h
 split at h
 ·rename_i k _;have:=hf k (m.rest.timers.getD k default);simp only[Except.ok.injEq]at h;rw[h]at this;exact Za this.symm
 ·cases h
theorem qlb {m m':Machine}{op:TimerOp}{v:Value}(h:timerOp m op=.ok (v,m')):m.world.drawn<=m'.world.drawn:=by
 unfold timerOp at h
 split at h
 ·split at h
  ·simp only[Except.ok.injEq,Qx]at h;obtain⟨_,rfl⟩:=h;exact Qp _
  ·split at h
   ·split at h
    ·cases h
    ·simp only[Except.ok.injEq,Qx]at h;obtain⟨_,rfl⟩:=h;exact Qp _
   ·cases h
 ·exact zze (λk t=>zsk _ _ _ _ _) h
 ·split at h
  ·rename_i m1 h1;have h2:m1.world.drawn=m.world.drawn:=by
    unfold timerOp.opened at h1;split at h1
    ·split at h1
     ·cases h1;rfl
     ·cases h1
    ·cases h1;rfl
   exact zze (λk t=>(zsk _ _ _ _ _).trans h2) h
  ·cases h
 ·simp only[Except.ok.injEq,Qx]at h;obtain⟨_,rfl⟩:=h;exact Qp _
theorem qmk {fr:Frame}{m:String}{w w':World}{g:Goroutine}{es:Array Event}(h:endThrow fr m w=.go g w' es):w.drawn<=w'.drawn:=by
 unfold endThrow dieOf at h
 cases h
 exact Qp _
theorem qq0 (p:Program)(m m':Machine)(i:Nat)(b:Bool)(h:(runT p m i b).1=.next m'):m.world.drawn<=m'.world.drawn:=by
 simp only[runT]at h
 revert h
 generalize m.gs.swapAt! _ _=gg
 have hs:=qk7 p (i==0) b gg.1 m.world
 generalize stepG p _ gg.1 m.world b=s at hs⊢
 intro h
 cases s<;>simp only[]at h
 all_goals first
  | (simp at h;done)
  | (have:=qrf _ _ _ _ _ _ _ _ _ _ h;exact Q8 hs this)
  | (have:=qb3 _ _ _ _ _ h;exact Q8 hs this)
  | (simp only[Stepped.next.injEq]at h;subst h;exact hs)
  | (repeat' first
    | (simp at h;done)
    | (simp only[Stepped.next.injEq]at h;subst h;exact hs)
    | (simp only[Stepped.next.injEq]at h;subst h;have:=qlb ‹_›;exact Q8 hs this)
    | (simp only[Stepped.next.injEq]at h;subst h;have hx:=qmk ‹endThrow _ _ _=_›;exact Q8 hs hx)
    | split at h)
theorem qk4 (p:Program)(m m':Machine)(k:Nat)(h:serve p m k=.next m'):m.world.drawn<=m'.world.drawn:=by
 unfold serve at h
 simp only[]at h
 repeat' first
  | (simp at h;done)
  | (simp only[Stepped.next.injEq]at h;subst h;exact Qp _)
  | split at h
def MvD (w:World):Move->Prop
 | .goroutine m _=>w.drawn<=m.world.drawn
 | .machine (.next m) _=>w.drawn<=m.world.drawn
 | .machine (.ended _ _) _=>True
theorem MvD.mono {w w1:World}{s:Move}(h1:w.drawn<=w1.drawn)(h:MvD w1 s):MvD w s:=by
 rcases s with⟨m,i⟩|⟨m|⟨o,w⟩,ops⟩
 ·exact Q8 h1 h
 ·exact Q8 h1 h
 ·trivial
theorem qmf (p:Program)(m:Machine)(k:Nat)(ops:Array MemOp):MvD m.world (.machine (serve p m k) ops):=by
 cases h:serve p m k with
 | next m'=>exact qk4 p m m' k h
 | ended o w=>trivial
theorem adv_ok {α:Type}{P:Program}{s:Sem α}{m:Machine}{n:Nat}{w':World}{a:α}(h:s.run P (m.advanceTo n).world=.ok a w'):m.world.drawn<=w'.drawn:=by
 have hx:=zbp h
 exact hx
theorem zpx (p:Program)(m:Machine):MvD m.world (askOn p m):=by
 unfold askOn
 simp only[]
 repeat' first
  | exact Qp _
  | trivial
  | (rename_i h;refine MvD.mono (zbp h) ?_;clear h)
  | (rename_i h;refine MvD.mono (adv_ok h) ?_;clear h)
  | exact qmf _ _ _ _
  | split
theorem ask_mv (p:Program)(m:Machine):MvD m.world (ask p m):=by
 unfold ask
 split
 ·split
  ·trivial
  ·rename_i w h;refine MvD.mono (zbp h) ?_;cases hl:look p m.gs m.rest w with
   | next m₂=>exact MvD.mono (qb3 _ _ _ _ _ hl) (zpx p m₂)
   | ended o w=>trivial
  ·rename_i h;exact MvD.mono (zbp h) (zpx p _)
 ·exact zpx p m
theorem qqw (p:Program)(m:Machine):MvD m.world (move p m):=by
 unfold move
 repeat' first
  | exact Qp _
  | trivial
  | exact ask_mv p _
  | split
theorem qqd {p:Program}{m m':Machine}(h:step p m=.next m'):m.world.drawn<=m'.world.drawn:=by
 have hm:=qqw p m
 unfold step stepT at h
 generalize move p m=v at h hm
 rcases v with⟨m1,i⟩|⟨s,ops⟩
 ·exact Q8 hm (qq0 p m1 m' i true h)
 ·simp only[]at h;subst h;exact hm
theorem qlw {p:Program}{m m':Machine}(h:Steps p m m'):m.world.drawn<=m'.world.drawn:=by
 obtain⟨n,hn⟩:=h
 induction n generalizing m with
 | zero=>cases hn;exact Qp _
 | succ n ih =>
  rw[runN]at hn;split at hn
  ·rename_i m1 h1;exact Q8 (qqd h1) (ih hn)
  ·rename_i h1;exact absurd hn (h1 _)
theorem qi5 {P:Program}{f:FuncId}{args:Array Value}{w:World}{R:Ending->World->Prop}(h:Calls P f args w R):Calls P f args w λe w'=>R e w'/\((∃v,e=.returned v)->w.drawn<=w'.drawn):=λcs=>by
 obtain⟨e,w',fr,h1,h2,h3⟩:=h cs
 refine⟨e,w',fr,⟨h1,?_⟩,h2,h3⟩
 rintro⟨v,rfl⟩
 exact qlw h2
end
end Go.Proofs.YtmhbmpbgpjljeaaGreat
