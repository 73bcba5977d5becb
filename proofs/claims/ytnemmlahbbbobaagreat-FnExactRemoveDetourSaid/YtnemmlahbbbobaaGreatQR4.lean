/-
  The walk over plain data, and contracts of functions of the program and of its laws.
  Conditions: those that each theorem names.
-/
import Derived.Test.YtnemmlahbbbobaaGreatQR3
import Derived.MapKept
import Derived.RangeFuncNested
import Derived.RangeFuncLeaves
import Derived.Test.YtnemmlahbbbobaaGreatProg
import Derived.KernelRfl
namespace Go.Proofs.YtnemmlahbbbobaaGreat
set_option linter.unusedSimpArgs false
set_option linter.unusedVariables false
set_option linter.unusedSectionVars false
set_option maxRecDepth 4000
set_option maxHeartbeats 8000000
section
open Go.RowKit
variable {P:Program}
theorem zj4 {σ:St}{U:List (Nat×List (List T))}{e n:Nat}(h:σ.has e n):(σ.inp U).has e n:=by
 obtain⟨x,hx,hn⟩:=h
 have:∀U:List (Nat×List (List T)),∃y,qc7 U σ.ev e=some y/\y.gen=x.gen:=by
  intro U;induction U with
  | nil=>exact⟨x,hx,rfl⟩
  | cons p U ih =>
   obtain⟨y,hy,hg⟩:=ih;unfold qc7;by_cases he:e=p.1
   ·rw[he,zaf,<-he,hx];exact⟨_,rfl,rfl⟩
   ·rw[zan _ _ he];exact⟨y,hy,hg⟩
 obtain⟨y,hy,hg⟩:=this U
 exact⟨y,hy,Y0⟩
theorem zr6 {n0:Nat->Prop}{N:Nat}{σ:St}{g:Gh}{a:Act}{w w':World}(hR:Rel n0 N σ g a w){U:List (Nat×List (List T))}{fp:List Nat}(hfpU:∀b∈fp,∃p∈U,b∈g.φ p.1)(hOU:∀p∈U,σ.On p.1)(hbk:Bk (λk=>k<w.heap.size/\k∉fp) w w')
  {φ':Nat->List Nat} (hb':∀p∈U,∀b∈φ' p.1,b∈fp\/w.heap.size<=b) (j1:∀e,(∀p∈U,p.1≠e)->φ' e=g.φ e) :
  ∀b,zch σ g w b->w'.heap[b]?=w.heap[b]?/\zch (σ.inp U) { g with φ:=φ' } w' b:=by
 rintro b ⟨hf,hr⟩
 have hnot:b∉fp:=λhm=>by
  obtain⟨p,hp,hm⟩:=hfpU b hm;exact hr p.1 (hOU p hp) hm
 refine⟨hbk.block b ⟨hf.2.2.1,hnot⟩,⟨hf.1,λe x hx hon hh=>?_,Jp hf.2.2.1 hbk.size,hf.2.2.2⟩,λe ho hm=>?_⟩
 case refine_2 =>
  have hm:b∈φ' e:=hm;by_cases hU:∃p∈U,p.1=e
  ·obtain⟨p,hp,rfl⟩:=hU;rcases hb' p hp b hm with h3|h3
   ·exact hnot h3
   ·have:=hf.2.2.1;omega
  ·have hne:∀p∈U,p.1≠e:=λp hp he=>hU ⟨p,hp,he⟩;rw[j1 e hne]at hm;obtain⟨x,hx,hon⟩:=ho;refine hr e ⟨x,?_,hon⟩ hm;rw[<-hx]
   exact(zin λhm=>by
    obtain⟨p,hp,he⟩:=Ka.1 hm
    exact hne p hp he).symm
 have hh:(φ' e).head?=some b:=hh
 by_cases hU:∃p∈U,p.1=e
 ·obtain⟨p,hp,rfl⟩:=hU;rcases hb' p hp b (List.mem_of_mem_head? hh)with h3|h3
  ·exact hnot h3
  ·have:=hf.2.2.1;omega
 ·have hne:∀p∈U,p.1≠e:=λp hp he=>hU ⟨p,hp,he⟩;rw[j1 e hne]at hh;refine hf.2.1 e x ?_ hon hh;rw[<-hx]
  exact(zin λhm=>by
   obtain⟨p,hp,he⟩:=Ka.1 hm
   exact hne p hp he).symm
theorem qfy {o:Oper}{σ:St}{x:Operand}{asx:Array Operand}{ts:Array TypeId}{f:FuncId}{cvs:List V}{pre:List D}{d:D}{post:List D}{d':D}{res:List D}{p1:List V}{gv:V}{p2:List V}(ho:o.op=.call ⟨.value x,asx,ts⟩)
  (h:IC P f pre d post d' res) (hc:za0 (σ.get P 0 x)=some (f,cvs)) (hx:σ.gets P asx ts++cvs=p1++gv::p2) (h1:zv5 p1 pre) (h2:zv5 p2 post) (hg:inG σ gv d d') (hr:res.all D.fl=true)
  (hview:Deep σ\/Shal σ (qtn gv d')):zak P o σ ((σ.inp (qtn gv d')).put o.dst (zn7 (res.map D.toV))):=by
 intro n0 N g a w hR hn hdN
 obtain⟨vs,e1,e2⟩:=zdw hR ho hc h.1
 unfold Oper.wp
 rw[e1]
 rw[hx]at e2
 obtain⟨us1,vs2,rfl,v1,v2⟩:=e2.split
 obtain⟨v,us2,rfl,v3,v4⟩:=v2
 have hgiven:∃(U:List (Nat×List (List T))) (fp tp:List Nat),qtn gv d'=U/\U.Pairwise (λp q=>p.1≠q.1)/\(∀p∈U,∃sz rows gn,σ.ev p.1=some ⟨true,sz,rows,gn,true⟩)/\GD w d v fp tp/\fp.Nodup/\(∀b∈fp,∃p∈U,b∈g.φ p.1)/\(∀p∈U,∀b∈g.φ p.1,b∈fp) ∧
   ∀{w':World} {fp' tp':List Nat},GD w' d' v fp' tp'->fp'.Nodup->∃φ':Nat->List Nat,(∀e,(∀p∈U,p.1≠e)->φ' e=g.φ e)/\(∀p∈U,∃sz rows gn,σ.ev p.1=some ⟨true,sz,rows,gn,true⟩/\zba w' (.sl sz p.2) (g.ψ p.1 gn) (φ' p.1)/\(φ' p.1).Nodup/\∀b∈φ' p.1,b∈fp') ∧
    ∀p∈U,∀q∈U,p.1≠q.1->∀b∈φ' p.1,b∉φ' q.1:=by
  unfold inG at hg;split at hg
  ·rename_i c t t';obtain⟨k1,k2,⟨fp,tp,k3,k4,k5,k6⟩,k7⟩:=zg7 hR hg (vs:=[v]) ⟨v,[],rfl,v3,rfl⟩;obtain⟨v0,vs0,f1,f2,t2,e,rfl,rfl,q1,q2⟩:=k3;cases e;obtain⟨_,rfl,rfl⟩:=q2;refine⟨_,f1++[],zlg t f1++[],rfl,k1,λp hp=>(k2 p hp).2,by simpa using⟨q1,rfl⟩,k4,k5,k6,λhg' hn'=>k7 (fp':=_) (tp':=_) ⟨v,[],_,[],[],rfl,by simp,rfl,hg'.1,rfl,rfl,rfl⟩ hn'⟩
  ·rename_i cs ts ts';obtain⟨u,rfl,v3⟩:=v3;obtain⟨k1,k2,⟨fp,tp,k3,k4,k5,k6⟩,k7⟩:=zg7 hR hg v3;refine⟨_,fp,tp,rfl,k1,λp hp=>(k2 p hp).2,⟨u,rfl,k3⟩,k4,k5,k6,λhg' hn'=>?_⟩;obtain⟨u',e,hg'⟩:=hg';cases e;exact k7 hg' hn'
  ·exact hg.elim
 obtain⟨U,fp,tp,hUe,u1,u2,u3,u4,u5,u6,u7⟩:=hgiven
 rw[hUe]at hview⊢
 refine(h.2 w us1 v us2 fp tp (zll _ h1 v1) u3 (zll _ h2 v4) u4).mono ?_
 rintro e w' ⟨us,fp',tp',rfl,q1,q2,q3,q4⟩
 obtain⟨v0,us0,f1,f2,t1,t2,e0,rfl,rfl,q5,q6⟩:=q1
 cases e0
 obtain⟨n1,n2,n3⟩:=Kg.1 q2
 obtain⟨φ',j1,j2,j3⟩:=u7 q5 n1
 have hsub:∀b∈f1,b∈fp\/w.heap.size<=b:=λb hb=>q3 b (Ya _ hb)
 have hOU:∀p∈U,σ.On p.1:=λp hp=>by obtain⟨sz,rows,gn,e⟩:=u2 p hp;exact⟨_,e,rfl⟩
 have hBk:Bk n0 w w':=⟨q4.os,q4.tape,q4.output,q4.size,λk hk=>q4.block k ⟨hn k hk,λhm=>by
  obtain⟨p,hp,hm⟩:=u5 k hm
  exact hR.etop p.1 (hOU p hp) k hm hk⟩⟩
 have hR':Rel n0 N (σ.inp U) { g with φ:=φ' } a w':=by
  have hb':∀p∈U,∀b∈φ' p.1,b∈fp\/w.heap.size<=b:=λp hp b hb=>by
   obtain⟨_,_,_,_,_,_,q⟩:=j2 p hp;exact hsub b (q b hb)
  rcases hview with⟨d1,d2,d3⟩|hS
  ·refine hR.inp hn u1 u6 u5 q4 hsub j1 j2 j3 (λi v h=>qrw (g:=g) (g':={ g with φ:=φ' }) rfl rfl (λe n=>zj4) (zr6 hR u5 hOU q4 hb' j1) (d1 i) h) (λb cs vs hb h=>zm6 (g:=g) (g':={ g with φ:=φ' }) rfl rfl (λe n=>zj4) (zr6 hR u5 hOU q4 hb' j1) (d2 b cs hb) h) (λe x he hx hon v fpx hE hs=>?_) (λe x hx hon=>?_)
   ·obtain⟨ao,cap,r1,r2,r3,r4⟩:=hE;refine⟨ao,cap,r1,r2,r3,?_⟩;rcases r4 with r4|⟨b,cells,ty,fps,r4,r5,r6,r7,r8⟩
    ·exact Or.inl r4
    ·subst r5;rw[if_pos (d3 e x hx).2]at r8;exact Or.inr ⟨b,cells,ty,fps,r4,rfl,by rw[hs b (by simp)];exact r6,r7,by rw[if_pos (d3 e x hx).2];exact zat.keep cells 0 x.sz x.rows fps r8 λb' hb'=>hs b' (by simp[hb'])⟩
   ·rw[(d3 e x hx).1]at hon;cases hon
  ·have hhead:∀p∈U,∀b∈g.φ p.1,(g.φ p.1).head?=some b:=λp hp b hb=>by
    obtain⟨sz,rows,gn,e⟩:=u2 p hp;have hf:=hS p hp;rw[e]at hf;obtain⟨ao,cap,r1,r2,r3,r4⟩:=hR.evs p.1 _ e rfl;rcases r4 with⟨_,_,_,r4⟩|⟨b0,cells,ty,fps,r4,r5,r6,r7,r8⟩
    ·rw[r4]at hb;cases hb
    ·rw[if_pos rfl]at r8;have:=zat.flat hf r8;rw[r5,this]at hb⊢;rw[Q4.1 hb];rfl
   have hnot:∀b,Fix σ g w b->b∉fp:=λb hf hm=>by
    obtain⟨p,hp,hm⟩:=u5 b hm;obtain⟨sz,rows,gn,e⟩:=u2 p hp;exact hf.2.1 p.1 _ e rfl (hhead p hp b hm)
   have m:Mv σ (σ.inp U) g { g with φ:=φ' } w w':=by
    refine⟨λb hf=>q4.block b ⟨hf.2.2.1,hnot b hf⟩,λb hf=>⟨hf.1,λe x hx hon hh=>?_,Jp hf.2.2.1 q4.size,hf.2.2.2⟩,λb hb=>⟨rfl,hb⟩,λe n he=>⟨zj4 he,rfl⟩,λb hb=>(zr6 hR u5 hOU q4 hb' j1 b hb).2.2⟩;have hh:(φ' e).head?=some b:=hh;by_cases hU:∃p∈U,p.1=e
    ·obtain⟨p,hp,rfl⟩:=hU;rcases hb' p hp b (List.mem_of_mem_head? hh)with h3|h3
     ·exact hnot b hf h3
     ·have:=hf.2.2.1;omega
    ·have hne:∀p∈U,p.1≠e:=λp hp he=>hU ⟨p,hp,he⟩;rw[j1 e hne]at hh;refine hf.2.1 e x ?_ hon hh;rw[<-hx]
     exact(zin λhm=>by
      obtain⟨p,hp,he⟩:=Ka.1 hm
      exact hne p hp he).symm
   exact hR.inp hn u1 u6 u5 q4 hsub j1 j2 j3 (λi v h=>m.vr h) (λb cs vs _ h=>m.crs h) (λe x _ _ _ v fpx hE hs=>m.evr hE hs) (λe x _ _ v h=>m.rep h)
 refine⟨{ g with φ:=φ' },?_,hBk,rfl,rfl⟩
 exact hR'.put o.dst (zfq (zbn.vrl (zqg hr q6)) (λy hy=>by
  obtain⟨d,_,rfl⟩:=Ka.1 hy
  cases d<;>rfl)) hdN
def qmh (σ:St):List (Nat×List (List T))->Prop
 | []=>True
 | p::U=>zav (σ.ev p.1) (λx=>flR x.rows=true)/\qmh σ U
theorem zo5 {σ:St}:∀{U:List (Nat×List (List T))},qmh σ U->Shal σ U
 | [],_,p,hp=>absurd hp (by simp)
 | q::U,h,p,hp=>by
  rcases Qu.1 hp with rfl|hp
  ·exact h.1
  ·exact zo5 h.2 p hp
theorem zzo:∀{l:List (Nat×V)},(l.all λp=>p.2.mOk)=true->∀i,(zl5 l i).mOk=true
 | [],_,_=>rfl
 | (j,v)::l,h,i=>by
  rw[Ks,Qb]at h;unfold zl5;split
  ·exact h.1
  ·exact zzo h.2 i
theorem zxs:∀{bl:List (Nat×List C)},(bl.all λp=>p.2.all C.mOk)=true->∀{b cs},tbl bl b=some cs->cs.all C.mOk=true
 | [],_,_,_,hb=>nomatch hb
 | (j,v)::l,h,b,cs,hb=>by
  rw[Ks,Qb]at h;unfold tbl at hb;split at hb
  ·cases hb;exact h.1
  ·exact zxs h.2 hb
theorem zz0:∀{el:List (Nat×Ev)},(el.all λp=>p.2.on&&p.2.deep)=true->∀{e x},tbl el e=some x->x.on=true/\x.deep=true
 | [],_,_,_,hb=>nomatch hb
 | (j,v)::l,h,b,cs,hb=>by
  rw[Ks,Qb]at h;unfold tbl at hb;split at hb
  ·cases hb;simpa using h.1
  ·exact zz0 h.2 hb
theorem qjs {l:List (Nat×V)}{bl:List (Nat×List C)}{el:List (Nat×Ev)}(h1:(l.all λp=>p.2.mOk)=true)(h2:(bl.all λp=>p.2.all C.mOk)=true)(h3:(el.all λp=>p.2.on&&p.2.deep)=true):Deep (hd l bl el) :=
 ⟨λi=>zzo h1 i,λ_ _ hb=>zxs h2 hb,λ_ _ he=>zz0 h3 he⟩
def spI (xs:List V)(n:Nat)(K:List V->V->List V->Prop):Prop:=match xs.drop n with
 | gv::p2=>K (xs.take n) gv p2
 | []=>False
theorem spI_ex {xs:List V}{n:Nat}{K:List V->V->List V->Prop}(h:spI xs n K):∃p1 gv p2,xs=p1++gv::p2/\p1.length<=n/\K p1 gv p2/\gv=(xs.drop n).headD (.one .any):=by
 unfold spI at h
 split at h
 ·rename_i gv p2 hd;exact⟨xs.take n,gv,p2,by rw[<-hd,Jh],by simp;omega,h,by rw[hd];rfl⟩
 ·exact h.elim
def St.cI (P:Program)(σ:St)(x:Operand)(asx:Array Operand)(ts:Array TypeId)(n:Nat)(dst:Option Nat)(d':D)(res:List D):St :=
 (σ.inp (qtn (((σ.gets P asx ts++((za0 (σ.get P 0 x)).map (·.2)).getD []).drop n).headD (.one .any)) d')).put dst (zn7 (res.map D.toV))
section
variable {ks:List Fr}{Q:Exit->St->Prop}{σ:St}{ops:Array Oper}{os:List Oper}{ty:TypeId}{ps:String}{af:Array Edge}{dst:Option Nat}{x:Operand}{asx:Array Operand}{ts:Array TypeId}{f:FuncId}{pre:List D}{d:D}{post:List D}{d':D}{res:List D}
theorem zuf (hview:∀gv,(gv=(((σ.gets P asx ts++((za0 (σ.get P 0 x)).map (·.2)).getD []).drop pre.length).headD (.one .any)))->Deep σ\/Shal σ (qtn gv d'))(h:IC P f pre d post d' res)
  (hp:zav (za0 (σ.get P 0 x)) λp=>p.1=f/\spI (σ.gets P asx ts++p.2) pre.length λp1 gv p2=>zv5 p1 pre/\zv5 p2 post/\inG σ gv d d') (hr:res.all D.fl=true) :
  zak P ⟨dst,.call ⟨.value x,asx,ts⟩,ty,ps,af,none⟩ σ (σ.cI P x asx ts pre.length dst d' res):=by
 obtain⟨⟨f',cvs⟩,h1,rfl,h2⟩:=zap hp
 obtain⟨p1,gv,p2,e,_,⟨k1,k2,k3⟩,e2⟩:=spI_ex h2
 unfold St.cI
 have e3:((σ.gets P asx ts++((za0 (σ.get P 0 x)).map (·.2)).getD []).drop pre.length).headD (.one .any)=gv:=by rw[h1];exact e2.symm
 rw[e3]
 exact qfy (o:=⟨dst,.call ⟨.value x,asx,ts⟩,ty,ps,af,none⟩) rfl h h1 e k1 k2 k3 hr (hview gv e3.symm)
theorem qrs (h:IC P f pre d post d' res)
  (hp:zav (za0 (σ.get P 0 x)) λp=>p.1=f/\spI (σ.gets P asx ts++p.2) pre.length λp1 gv p2=>zv5 p1 pre/\zv5 p2 post/\inG σ gv d d')
  (hs:qmh σ (qtn (((σ.gets P asx ts++((za0 (σ.get P 0 x)).map (·.2)).getD []).drop pre.length).headD (.one .any)) d')) (hr:res.all D.fl=true)
  (k:exo P ops os ks Q (σ.cI P x asx ts pre.length dst d' res)):exo P ops (⟨dst,.call ⟨.value x,asx,ts⟩,ty,ps,af,none⟩::os) ks Q σ :=
 zdo rfl rfl (zuf (λgv e=>Or.inr (e▸zo5 hs)) h hp hr) k
theorem zyd {l:List (Nat×V)}{bl:List (Nat×List C)}{el:List (Nat×Ev)}(h:IC P f pre d post d' res)(hw:wkL σ (hd l bl el) l/\wkB σ (hd l bl el) bl/\wkE σ el)
  (hd1:(l.all λp=>p.2.mOk)=true) (hd2:(bl.all λp=>p.2.all C.mOk)=true) (hd3:(el.all λp=>p.2.on&&p.2.deep)=true)
  (hp:zav (za0 ((hd l bl el).get P 0 x)) λp=>p.1=f/\spI ((hd l bl el).gets P asx ts++p.2) pre.length λp1 gv p2=>zv5 p1 pre/\zv5 p2 post/\inG (hd l bl el) gv d d') (hr:res.all D.fl=true)
  (k:exo P ops os ks Q ((hd l bl el).cI P x asx ts pre.length dst d' res)):exo P ops (⟨dst,.call ⟨.value x,asx,ts⟩,ty,ps,af,none⟩::os) ks Q σ :=
 zdo rfl rfl (zak.pre (zad hw) (zuf (λgv e=>Or.inl (qjs hd1 hd2 hd3)) h hp hr)) k
end
attribute [go_sem] qmh spI St.cI qtn inU St.inp qc7 inG inK zv5 nmV T.nm D.fl V.mOk C.mOk List.drop_succ_cons List.take_zero List.take_succ_cons List.headD_cons Option.getD_some
end
section
open Go.RowKit
variable {P:Program}
def zsg:T->T->Option Bool
 | .int k a,.int k' b=>if k=k' then some (decide (a=b))else none
 | .str a,.str b=>some (decide (a=b))
 | .bool a,.bool b=>some (a==b)
 | _,_=>none
def zb8 (k:T):List (List T)->Option (Option (List T))
 | []=>some none
 | []::_=>none
 | (x::vs)::rows=>match zsg k x with
  | some true=>some (some vs)
  | some false=>zb8 k rows
  | none=>none
def zr4:TypeDesc->T->Bool
 | .int k,.int k' _=>decide (k'=k)
 | .string,.str _=>true
 | .bool,.bool _=>true
 | _,_=>false
theorem zhv {w:World}{A:Nat->Prop}{d:TypeDesc}{k:T}{v:Value}(h:zr4 d k=true)(hv:zau w A k v):Go.MapKept.IsKey d v:=by
 cases d<;>cases k<;>simp[zr4]at h<;>unfold zau at hv
 ·subst hv;trivial
 ·rw[hv.1];exact h
 ·rw[hv.1];trivial
theorem zja {w:World}{A:Nat->Prop}{d:TypeDesc}{k x:T}{kv xv:Value}{b:Bool}(hd:zr4 d k=true)(h:zsg k x=some b)(hk:zau w A k kv)(hx:zau w A x xv):Instr.sameNow d kv xv=some b:=by
 cases d<;>cases k<;>simp[zr4]at hd<;>cases x<;>simp[zsg]at h<;>unfold zau at hk hx
 ·subst hk hx h;rfl
 ·rw[hk.1,hx.1];obtain⟨h1,h2⟩:=h;subst h1 h2;simp[Instr.sameNow];exact Kp.2 (by simp)
 ·rw[hk.1,hx.1];subst h;simp only[Instr.sameNow,Qe];rw[Kp,Go.MapKept.bytes_beq];simp
theorem zdm {w:World}{A:Nat->Prop}{d:TypeDesc}{k:T}{kv:Value}(hd:zr4 d k=true)(hk:zau w A k kv)(ag:Bool):∀(rows:List (List T))(es:List MapEntry)(i:Nat)(r:Option (List T)),zal w A ag rows es->zb8 k rows=some r →
  match r with
  | none=>Instr.findNow d kv es i=some none
  | some vs=>∃j u us,Instr.findNow d kv es i=some (some (j,u))/\(if ag=true then u=.agg ⟨us⟩else us=[u])/\zag w A vs us
 | [],es,i,r,h,hf=>by
  unfold zal at h;subst h;cases hf;rfl
 | []::_,_,_,_,_,hf=>by cases hf
 | (x::vs)::rows,es,i,r,h,hf=>by
  unfold zal at h;obtain⟨e,es',us,rfl,h1,h2,h3⟩:=h;unfold zag at h2;obtain⟨xv,us',e1,h2,h4⟩:=h2;cases e1;unfold zb8 at hf;split at hf
  ·rename_i hq;cases hf;exact⟨i,e.val,us,by simp[Instr.findNow,zja hd hq hk h2],h1,h4⟩
  ·rename_i hq;have:=zdm hd hk ag rows es' (i+1) r h3 hf;simp only[Instr.findNow,zja hd hq hk h2];exact this
  ·cases hf
def rowV (ag:Bool)(vs:List T):Option V:=if ag=true then some (.agg (vs.map .t))else match vs with|[t]=>some (.one (.t t))|_=>none
def qc8 (P:Program)(t:TypeId):Option (TypeDesc×TypeId):=match P.underlying t with
 | some (.map kt et)=>(P.underlying kt).map λd=>(d,et)
 | _=>none
theorem zkj {t:TypeId}{d:TypeDesc}{et:TypeId}(h:qc8 P t=some (d,et)):∃kt,P.underlying t=some (.map kt et)/\P.underlying kt=some d:=by
 unfold qc8 at h
 split at h
 ·rename_i kt et' hu;obtain⟨d',h1,h2⟩:=Q5.1 h;cases h2;exact⟨kt,hu,h1⟩
 ·cases h
theorem qqg {σ:St}{g:Gh}{w:World}:∀{ts:List T}{vs:List Value},zag w (Fix σ g w) ts vs->CRs σ g w (ts.map .t) vs
 | [],vs,h=>by unfold zag at h;exact h
 | t::ts,vs,h=>by
  unfold zag at h;obtain⟨v,vs',rfl,h1,h2⟩:=h;exact⟨v,vs',rfl,h1,qqg h2⟩
attribute [go_sem] zb8 zsg zr4 rowV qc8
end
section
open Go.RowKit
variable {P:Program}
def qtx (v:Value):T->T
 | .sl sz rows=>.pin v (.sl sz rows)
 | t=>t
def qll (us:Nat->Value):Nat->List T->List T
 | _,[]=>[]
 | j,c::cs=>qtx (us j) c::qll us (j+1) cs
def zfw (vs:Nat->Nat->Value):Nat->List (List T)->List (List T)
 | _,[]=>[]
 | i,r::rs=>qll (vs i) 0 r::zfw vs (i+1) rs
theorem zye (us:Nat->Value):∀(cs:List T)(j:Nat),(qll us j cs).length=cs.length
 | [],_=>rfl
 | c::cs,j=>by simp[qll,zye us cs]
theorem zjn (vs:Nat->Nat->Value):∀(rs:List (List T))(i:Nat),(zfw vs i rs).length=rs.length
 | [],_=>rfl
 | c::cs,j=>by simp[zfw,zjn vs cs]
theorem zba.pin {w:World}{t:T}{v:Value}{fp:List Nat}(h:zba w t v fp):zba w (qtx v t) v fp:=by
 unfold qtx
 split
 ·unfold zba;exact⟨rfl,h⟩
 ·exact h
theorem zbr.pin {w:World}{cells:Array Value}{us:Nat->Value}:∀{cs:List T}{o j:Nat}{fps:List Nat},zbr w cells o cs fps->(∀i,us (j+i)=cells.getD (o+i) undef)->zbr w cells o (qll us j cs) fps
 | [],_,_,_,h,_=>h
 | c::cs,o,j,fps,h,hu=>by
  unfold zbr at h;obtain⟨v,f1,f2,h1,rfl,h2,h3⟩:=h;unfold qll zbr;have e:us j=v:=by have:=hu 0;rw[Yo,Yo]at this;rw[this,Array.getD_eq_getD_getElem?,h1];rfl
  refine⟨v,f1,f2,h1,rfl,by rw[e];exact h2.pin,zbr.pin h3 λi=>?_⟩;have:=hu (i+1)
  rwa [show j+(i+1)=j+1+i by omega,show o+(i+1)=o+1+i by omega]at this
theorem zat.pin {w:World}{cells:Array Value}{sz:Nat}:∀{rows:List (List T)}{i:Nat}{fps:List Nat},zat w cells (i*sz) sz rows fps->zat w cells (i*sz) sz (zfw (λi j=>cells.getD (i*sz+j) undef) i rows) fps
 | [],_,_,h=>h
 | r::rs,i,fps,h=>by
  unfold zat at h;obtain⟨h1,f1,f2,rfl,h2,h3⟩:=h;unfold zfw zat;refine⟨by rw[zye];exact h1,f1,f2,rfl,h2.pin λj=>by simp,?_⟩;rw[show i*sz+sz=(i+1)*sz by rw[Ku];omega]at h3⊢;exact zat.pin h3
theorem zba.pins {w:World}{sz:Nat}{rows:List (List T)}{v:Value}{fp:List Nat}(h:zba w (.sl sz rows) v fp):∃vs,zba w (.sl sz (zfw vs 0 rows)) v fp:=by
 unfold zba at h
 obtain⟨ao,cap,h1,h2,h3,h4⟩:=h
 rcases h4 with⟨k1,k2,rfl,k4⟩|⟨b,cells,ty,fps,k1,k2,k3,k4,k5⟩
 ·refine⟨λ_ _=>undef,?_⟩;unfold zba;exact⟨ao,cap,h1,h2,h3,Or.inl ⟨k1,k2,rfl,k4⟩⟩
 ·refine⟨λi j=>cells.getD (i*sz+j) undef,?_⟩;unfold zba;have:=zat.pin (i:=0) (by rw[Nat.zero_mul];exact k5);rw[Nat.zero_mul]at this;exact⟨ao,cap,by rw[zjn];exact h1,by rw[zjn];exact h2,h3,Or.inr ⟨b,cells,ty,fps,k1,k2,k3,k4,this⟩⟩
def zuo:T->T
 | .pin _ t=>t
 | t=>t
def zig (rs:List (List T)):List (List T):=rs.map λr=>r.map zuo
theorem zba.unpin {w:World}:∀{t:T}{v:Value}{fp:List Nat},zba w t v fp->zba w (zuo t) v fp
 | .pin _ _,_,_,h=>by unfold zba at h;exact h.2
 | .int _ _,_,_,h=>h
 | .bool _,_,_,h=>h
 | .str _,_,_,h=>h
 | .sl _ _,_,_,h=>h
 | .ptr _,_,_,h=>h
 | .fn _ _,_,_,h=>h
 | .mp _ _,_,_,h=>h
 | .vs _ _ _,_,_,h=>h
theorem zbr.unpin {w:World}{cells:Array Value}:∀{cs:List T}{o:Nat}{fps:List Nat},zbr w cells o cs fps->zbr w cells o (cs.map zuo) fps
 | [],_,_,h=>h
 | c::cs,o,fps,h=>by
  unfold zbr at h;obtain⟨v,f1,f2,h1,rfl,h2,h3⟩:=h;rw[Qc];unfold zbr;exact⟨v,f1,f2,h1,rfl,h2.unpin,h3.unpin⟩
theorem zat.unpin {w:World}{cells:Array Value}{sz:Nat}:∀{rows:List (List T)}{o:Nat}{fps:List Nat},zat w cells o sz rows fps->zat w cells o sz (zig rows) fps
 | [],_,_,h=>h
 | r::rs,o,fps,h=>by
  unfold zat at h;obtain⟨h1,f1,f2,rfl,h2,h3⟩:=h;show zat w cells o sz (r.map zuo::zig rs) (f1++f2)
  unfold zat;exact⟨by simpa using h1,f1,f2,rfl,h2.unpin,h3.unpin⟩
theorem zba.unpins {w:World}{sz:Nat}{rows:List (List T)}{v:Value}{fp:List Nat}(h:zba w (.sl sz rows) v fp):zba w (.sl sz (zig rows)) v fp:=by
 unfold zba at h⊢
 have hl:(zig rows).length=rows.length:=by simp[zig]
 obtain⟨ao,cap,h1,h2,h3,h4⟩:=h
 refine⟨ao,cap,by rw[hl];exact h1,by rw[hl];exact h2,h3,?_⟩
 rcases h4 with⟨k1,k2,rfl,k4⟩|⟨b,cells,ty,fps,k1,k2,k3,k4,k5⟩
 ·exact Or.inl ⟨k1,k2,rfl,k4⟩
 ·exact Or.inr ⟨b,cells,ty,fps,k1,k2,k3,k4,k5.unpin⟩
theorem Rel.reown {n0:Nat->Prop}{N:Nat}{σ:St}{g:Gh}{a:Act}{w:World}(hR:Rel n0 N σ g a w)(hn:LtK n0 w){e sz gn:Nat}{rows rows':List (List T)}(he:σ.ev e=some ⟨true,sz,rows,gn,true⟩)(h:zba w (.sl sz rows') (g.ψ e gn) (g.φ e)) :
  Rel n0 N (σ.inp [(e,rows')]) g a w:=by
 have hOn:σ.On e:=⟨_,he,rfl⟩
 have hev:∀e',(∀p∈[(e,rows')],p.1≠e')->(σ.inp [(e,rows')]).ev e'=σ.ev e':=λe' h'=>zin (by simpa using Ne.symm (h' (e,rows') (Q4.2 rfl)))
 have m:Mv σ (σ.inp [(e,rows')]) g g w w:=by
  refine⟨λb hf=>rfl,λb hf=>⟨hf.1,λe' x hx hon=>?_,hf.2.2⟩,λb hb=>⟨rfl,hb⟩,λe n he=>⟨zj4 he,rfl⟩,λb hb=>(zr6 hR (U:=[(e,rows')]) (fp:=g.φ e) (φ':=g.φ) (λb hb=>⟨(e,rows'),Q4.2 rfl,hb⟩) (λp hp=>by rw[Q4.1 hp];exact hOn) (Bk.refl _ _) (λp hp b hb=>Or.inl (by rw[Q4.1 hp]at hb;exact hb)) (λ_ _=>rfl) b hb).2.2⟩;by_cases h':e'=e
  ·subst h';exact hf.2.1 e' _ he rfl
  ·exact hf.2.1 e' x ((hev e' (by simpa using Ne.symm h')).symm.trans hx) hon
 exact hR.inp hn (fp:=g.φ e) (fp':=g.φ e) (φ':=g.φ) (by simp) (by simp) (λb hb=>⟨(e,rows'),Q4.2 rfl,hb⟩) (Bk.refl _ _) (λb hb=>Or.inl hb) (λ_ _=>rfl)
  (λp hp=>by simp at hp;subst hp;exact⟨sz,rows,gn,he,h,hR.nodup e hOn,λb hb=>hb⟩) (λp hp q hq hne=>by simp at hp hq;subst hp;subst hq;exact absurd rfl hne)
  (λi v h=>m.vr h) (λb cs vs _ h=>m.crs h) (λe x _ _ _ v fpx hE hs=>m.evr hE hs) (λe x _ _ v h=>m.rep h)
def qpv (vs:Nat->Nat->Value)(sz:Nat)(rows:List (List T))(post:List D):St:=(zoc [] (.one (.sl sz rows)) post).inp [(0,zfw vs 0 rows)]
theorem qge {f:FuncId}{fn:Func}{c:Code}{sz:Nat}{rows rows':List (List T)}{post:List D}{res:List D}(hc:zbl P f)(hf:P.funcs[f]?=some fn)(hb:fn.body=some c)(hd:zdf fn.ntmps c=true)(hN:(zew [] (.one (.sl sz rows)) post).length<=fn.ntmps)(hN2:fn.ntmps<=1000000)
  (h:∀vs,ex P c [] (PI P fn.results.toList (.one (.sl sz rows')) res) (qpv vs sz rows post)):IC P f [] (.one (.sl sz rows)) post (.one (.sl sz rows')) res:=by
 have hs:∀ds:List D,zcj (zew [] (.one (.sl sz rows)) ds):=λds=>⟨rfl,zc7 ds⟩
 refine qrp hc hf hb hd hN hN2 (hs _) trivial λn0 N g a w hR hn=>?_
 have he:(zoc [] (.one (.sl sz rows)) post).ev 0=some ⟨true,sz,rows,0,true⟩:=rfl
 have hO:=zf7 hR he
 obtain⟨vs,hv⟩:=hO.pins
 exact⟨_,h vs,hR.reown hn he hv⟩
theorem zbr.cell {w:World}{cells:Array Value}:∀{cs:List T}{o j:Nat}{c:T}{fps:List Nat},zbr w cells o cs fps->cs[j]?=some c →
  ∃f1 f f2 v,fps=f1++(f++f2)/\cells[o+j]?=some v/\zba w c v f/\∀(w':World) (c':T) (f':List Nat),(∀b,b∈f1\/b∈f2->w'.heap[b]?=w.heap[b]?)->zba w' c' v f'->zbr w' cells o (cs.set j c') (f1++(f'++f2))
 | [],_,_,_,_,_,h=>by simp at h
 | d::cs,o,0,c,fps,h,hc=>by
  unfold zbr at h;obtain⟨v,f1,f2,h1,rfl,h2,h3⟩:=h;simp only[List.getElem?_cons_zero,Qe]at hc;subst hc;refine⟨[],f1,f2,v,rfl,h1,h2,λw' c' f' hk ho=>?_⟩;show zbr w' cells o (c'::cs) (f'++f2)
  unfold zbr;exact⟨v,f',f2,h1,rfl,ho,zbr.keep cells _ cs f2 h3 λb hb=>hk b (Or.inr hb)⟩
 | d::cs,o,j+1,c,fps,h,hc=>by
  unfold zbr at h;obtain⟨v,f1,f2,h1,rfl,h2,h3⟩:=h;obtain⟨g1,g,g2,u,rfl,k1,k2,k3⟩:=zbr.cell h3 (by simpa using hc);refine⟨f1++g1,g,g2,u,by simp,by rw[<-k1];congr 1;omega,k2,λw' c' f' hk ho=>?_⟩;show zbr w' cells o (d::cs.set j c') _
  unfold zbr;exact⟨v,f1,g1++(f'++g2),h1,by simp,zba.keep d v f1 h2 λb hb=>hk b (Or.inl (by simp[hb])),k3 w' c' f' (λb hb=>hk b (by rcases hb with hb|hb<;>simp[hb])) ho⟩
theorem zat.cell {w:World}{cells:Array Value}{sz:Nat}:∀{rows:List (List T)}{o i j:Nat}{r:List T}{c:T}{fps:List Nat},zat w cells o sz rows fps->rows[i]?=some r->r[j]?=some c →
  ∃f1 f f2 v,fps=f1++(f++f2)/\cells[o+i*sz+j]?=some v/\zba w c v f/\∀(w':World) (c':T) (f':List Nat),(∀b,b∈f1\/b∈f2->w'.heap[b]?=w.heap[b]?)->zba w' c' v f'->zat w' cells o sz (rows.set i (r.set j c')) (f1++(f'++f2))
 | [],_,_,_,_,_,_,_,h,_=>by simp at h
 | d::rows,o,0,j,r,c,fps,h,hr,hc=>by
  unfold zat at h;obtain⟨h1,f1,f2,rfl,h2,h3⟩:=h;simp only[List.getElem?_cons_zero,Qe]at hr;subst hr;obtain⟨g1,g,g2,u,rfl,k1,k2,k3⟩:=zbr.cell h2 hc;refine⟨g1,g,g2++f2,u,by simp,by simpa using k1,k2,λw' c' f' hk ho=>?_⟩;show zat w' cells o sz (d.set j c'::rows) _
  unfold zat;exact⟨by simp[h1],g1++(f'++g2),f2,by simp,k3 w' c' f' (λb hb=>hk b (by rcases hb with hb|hb<;>simp[hb])) ho,zat.keep cells _ sz rows f2 h3 λb hb=>hk b (by simp[hb])⟩
 | d::rows,o,i+1,j,r,c,fps,h,hr,hc=>by
  unfold zat at h;obtain⟨h1,f1,f2,rfl,h2,h3⟩:=h;obtain⟨g1,g,g2,u,rfl,k1,k2,k3⟩:=zat.cell h3 (by simpa using hr) hc;refine⟨f1++g1,g,g2,u,by simp,by rw[<-k1];congr 1;rw[Ku];omega,k2,λw' c' f' hk ho=>?_⟩;show zat w' cells o sz (d::rows.set i (r.set j c')) _
  unfold zat;exact⟨h1,f1,g1++(f'++g2),by simp,zbr.keep cells o d f1 h2 λb hb=>hk b (Or.inl (by simp[hb])),k3 w' c' f' (λb hb=>hk b (by rcases hb with hb|hb<;>simp[hb])) ho⟩
theorem qkm {o:Oper}{σ:St}{x:Operand}{asx:Array Operand}{ts:Array TypeId}{f:FuncId}{cvs:List V}{post:List D}{sz1:Nat}{rows1 rows1':List (List T)}{res:List D}{v:Value}{p2:List V}{e i j sz gn:Nat}{rows:List (List T)}{r:List T}(ho:o.op=.call ⟨.value x,asx,ts⟩)
  (h:IC P f [] (.one (.sl sz1 rows1)) post (.one (.sl sz1 rows1')) res) (hc:za0 (σ.get P 0 x)=some (f,cvs)) (hx:σ.gets P asx ts++cvs=.one (.cv v)::p2) (h2:zv5 p2 post) (he:σ.ev e=some ⟨true,sz,rows,gn,true⟩) (hr:rows[i]?=some r) (hcl:r[j]?=some (.pin v (.sl sz1 rows1)))
  (hres:res.all D.fl=true) (hD:Deep σ):zak P o σ ((σ.inp [(e,rows.set i (r.set j (.sl sz1 rows1')))]).put o.dst (zn7 (res.map D.toV))):=by
 intro n0 N g a w hR hn hdN
 obtain⟨vs,hrun,hvl⟩:=zdw hR ho hc h.1
 rw[hx]at hvl
 obtain⟨v1,us2,rfl,rfl,v4⟩:=hvl
 have hOn:σ.On e:=⟨_,he,rfl⟩
 have hO:=zf7 hR he
 have hnd:=hR.nodup e hOn
 have hO2:=hO
 unfold zba at hO
 obtain⟨ao,cap,e1,e2,e3,e4⟩:=hO
 rcases e4 with⟨_,_,rfl,_⟩|⟨b0,cells,ty,fps,k1,k2,k3,k4,k5⟩
 ·simp at hr
 obtain⟨f1,ff,f2,u,rfl,c1,c2,c3⟩:=zat.cell k5 hr hcl
 unfold zba at c2
 obtain⟨rfl,c2⟩:=c2
 have hsubf:∀b',b'∈ff->b'∈g.φ e:=λb' hb=>by rw[k2];simp[hb]
 rw[k2]at hnd
 obtain⟨nb,nd⟩:=Kx.1 hnd
 obtain⟨nd1,nd2,nd3⟩:=Kg.1 nd
 obtain⟨nd4,nd5,nd6⟩:=Kg.1 nd2
 have hbf:∀b',(b'=b0\/b'∈f1\/b'∈f2)->b'∉ff:=λb' h hm=>by
  rcases h with rfl|h|h
  ·exact nb (by simp[hm])
  ·exact nd3 b' h b' (by simp[hm]) rfl
  ·exact nd6 b' hm b' h rfl
 have hlt:∀b'∈g.φ e,b'<w.heap.size:=(hR.evs e _ he rfl).lt
 unfold Oper.wp
 rw[hrun]
 refine(h.2 w [] u us2 ff (zlg (.sl sz1 rows1) ff) rfl ⟨c2,rfl⟩ (zll _ h2 v4) nd4).mono ?_
 rintro ee w' ⟨us,fp',tp',rfl,q1,q2,q3,q4⟩
 obtain⟨v0,us0,g1,g2,t1,t2,e0,rfl,rfl,q5,q6⟩:=q1
 cases e0
 obtain⟨n1,n2,n3⟩:=Kg.1 q2
 have hnew:∀b',b'<w.heap.size->b'∈g1->b'∈ff:=λb' h1 h2=>(q3 b' (Ya _ h2)).resolve_right Y0
 have hsub:∀b'∈g1,b'∈ff\/w.heap.size<=b':=λb' hb=>q3 b' (Ya _ hb)
 have hblk:∀b',b'<w.heap.size->b'∉ff->w'.heap[b']?=w.heap[b']?:=λb' h1 h2=>q4.block b' ⟨h1,h2⟩
 have hrows:=c3 w' (.sl sz1 rows1') g1 (λb' hb=>hblk b' (hlt b' (by rw[k2];rcases hb with hb|hb<;>simp[hb])) (hbf b' (Or.inr hb))) q5.1
 have hown:zba w' (.sl sz (rows.set i (r.set j (.sl sz1 rows1')))) (g.ψ e gn) (b0::(f1++(g1++f2))):=by
  unfold zba;exact⟨ao,cap,by simpa using e1,by simpa using e2,e3,Or.inr ⟨b0,cells,ty,_,k1,rfl,by rw[hblk b0 (hlt b0 (by rw[k2];simp)) (hbf b0 (Or.inl rfl))];exact k3,k4,hrows⟩⟩
 have hnd':(b0::(f1++(g1++f2))).Nodup:=by
  refine Kx.2 ⟨λhm=>?_,Kg.2 ⟨nd1,Kg.2 ⟨n1,nd5,λx hx y hy hxy=>?_⟩,λx hx y hy hxy=>?_⟩⟩
  ·have hl:=hlt b0 (by rw[k2];simp);simp only[Qw]at hm;rcases hm with hm|hm|hm
   ·exact nb (by simp[hm])
   ·exact nb (by simp[hnew b0 hl hm])
   ·exact nb (by simp[hm])
  ·subst hxy;exact nd6 x (hnew x (hlt x (by rw[k2];simp[hy])) hx) x hy rfl
  ·subst hxy;have hl:=hlt x (by rw[k2];simp[hx]);rcases Qw.1 hy with hy|hy
   ·exact nd3 x hx x (by simp[hnew x hl hy]) rfl
   ·exact nd3 x hx x (by simp[hy]) rfl
 have hBkf:Bk (λk=>k<w.heap.size/\k∉g.φ e) w w':=⟨q4.os,q4.tape,q4.output,q4.size,λk hk=>q4.block k ⟨hk.1,λhm=>hk.2 (hsubf k hm)⟩⟩
 have hBk:Bk n0 w w':=⟨q4.os,q4.tape,q4.output,q4.size,λk hk=>q4.block k ⟨hn k hk,λhm=>hR.etop e hOn k (hsubf k hm) hk⟩⟩
 have hfp':∀b'∈b0::(f1++(g1++f2)),b'∈g.φ e\/w.heap.size<=b':=λb' hb=>by
  simp only[Qu,Qw]at hb;rw[k2];rcases hb with hb|hb|hb|hb
  ·left;simp[hb]
  ·left;simp[hb]
  ·rcases hsub b' hb with hb|hb
   ·left;simp[hb]
   ·exact Or.inr hb
  ·left;simp[hb]
 generalize hrw:rows.set i (r.set j (.sl sz1 rows1'))=rows' at hown⊢
 have j1:∀e',(∀p∈[(e,rows')],p.1≠e')->upd g.φ e (b0::(f1++(g1++f2))) e'=g.φ e':=λe' h'=>zan _ _ (Ne.symm (h' (e,rows') (Q4.2 rfl)))
 have hfpU:∀b'∈g.φ e,∃p∈[(e,rows')],b'∈g.φ p.1:=λb' hb=>⟨(e,rows'),Q4.2 rfl,hb⟩
 have hOU:∀p∈[(e,rows')],σ.On p.1:=λp hp=>by rw[Q4.1 hp];exact hOn
 have hb':∀p∈[(e,rows')],∀b'∈upd g.φ e (b0::(f1++(g1++f2))) p.1,b'∈g.φ e\/w.heap.size<=b':=λp hp b' hb=>by
  rw[Q4.1 hp,zaf]at hb;exact hfp' b' hb
 obtain⟨d1,d2,d3⟩:=hD
 have hrn:=zr6 hR hfpU hOU hBkf hb' j1
 have hR':Rel n0 N (σ.inp [(e,rows')]) { g with φ:=upd g.φ e (b0::(f1++(g1++f2))) } a w':=by
  refine hR.inp hn (by simp) (λp hp=>by rw[Q4.1 hp];exact λ_ h=>h) hfpU hBkf hfp' j1
   (λp hp=>by rw[Q4.1 hp,zaf];exact⟨sz,rows,gn,he,hown,hnd',λ_ h=>h⟩) (λp hp q hq hne=>by rw[Q4.1 hp,Q4.1 hq]at hne;exact absurd rfl hne)
   (λi v h=>qrw (g:=g) (g':={ g with φ:=upd g.φ e (b0::(f1++(g1++f2))) }) rfl rfl (λe n=>zj4) hrn (d1 i) h) (λb cs vs hb h=>zm6 (g:=g) (g':={ g with φ:=upd g.φ e (b0::(f1++(g1++f2))) }) rfl rfl (λe n=>zj4) hrn (d2 b cs hb) h) (λe x he hx hon v fpx hE hs=>?_) (λe x hx hon=>?_)
  ·obtain⟨ao,cap,r1,r2,r3,r4⟩:=hE;refine⟨ao,cap,r1,r2,r3,?_⟩;rcases r4 with r4|⟨b,cells,ty,fps,r4,r5,r6,r7,r8⟩
   ·exact Or.inl r4
   ·subst r5;rw[if_pos (d3 e x hx).2]at r8;exact Or.inr ⟨b,cells,ty,fps,r4,rfl,by rw[hs b (by simp)];exact r6,r7,by rw[if_pos (d3 e x hx).2];exact zat.keep cells 0 x.sz x.rows fps r8 λb' hb'=>hs b' (by simp[hb'])⟩
  ·rw[(d3 e x hx).1]at hon;cases hon
 refine⟨{ g with φ:=upd g.φ e (b0::(f1++(g1++f2))) },?_,hBk,rfl,rfl⟩
 exact hR'.put o.dst (zfq (zbn.vrl (zqg hres q6)) (λy hy=>by
  obtain⟨d,_,rfl⟩:=Ka.1 hy
  cases d<;>rfl)) hdN
def zpv (rows:List (List T))(i j:Nat)(t:T):List (List T):=rows.set i ((rows.getD i []).set j t)
def evC (i j:Nat)(t:T)(x:Ev):Ev:=⟨x.deep,x.sz,zpv x.rows i j t,x.gen,x.on⟩
def St.cN (σ:St)(e i j:Nat)(t:T)(dst:Option Nat)(res:List D):St:=St.put ⟨σ.sl,σ.bx,upd σ.ev e ((σ.ev e).map (evC i j t))⟩ dst (zn7 (res.map D.toV))
def onN (x:Option Ev)(i j:Nat)(v:Value)(t:T):Prop:=zav x λy=>y.on=true/\y.deep=true/\y.rows[i]?.isSome=true/\(y.rows.getD i [])[j]?=some (.pin v t)
def qr9 (xs:List V)(K:Value->List V->Prop):Prop:=match xs with
 | .one (.cv v)::p2=>K v p2
 | _=>False
section
variable {ks:List Fr}{Q:Exit->St->Prop}{σ:St}{ops:Array Oper}{os:List Oper}{ty:TypeId}{ps:String}{af:Array Edge}{dst:Option Nat}{x:Operand}{asx:Array Operand}{ts:Array TypeId}{f:FuncId}{post:List D}{res:List D}
theorem callN {l:List (Nat×V)}{bl:List (Nat×List C)}{el:List (Nat×Ev)}(e i j:Nat){sz1:Nat}{rows1 rows1':List (List T)}(h:IC P f [] (.one (.sl sz1 rows1)) post (.one (.sl sz1 rows1')) res)(hw:wkL σ (hd l bl el) l/\wkB σ (hd l bl el) bl/\wkE σ el)
  (hd1:(l.all λp=>p.2.mOk)=true) (hd2:(bl.all λp=>p.2.all C.mOk)=true) (hd3:(el.all λp=>p.2.on&&p.2.deep)=true)
  (hp:zav (za0 ((hd l bl el).get P 0 x)) λp=>p.1=f/\qr9 ((hd l bl el).gets P asx ts++p.2) λv p2=>zv5 p2 post/\onN (tbl el e) i j v (.sl sz1 rows1)) (hr:res.all D.fl=true)
  (k:exo P ops os ks Q ((hd l bl el).cN e i j (.sl sz1 rows1') dst res)):exo P ops (⟨dst,.call ⟨.value x,asx,ts⟩,ty,ps,af,none⟩::os) ks Q σ:=by
 obtain⟨⟨f',cvs⟩,h1,rfl,h2⟩:=zap hp
 unfold qr9 at h2
 split at h2
 ·rename_i v p2 hx;obtain⟨h3,h4⟩:=h2;obtain⟨⟨dp,sz,rows,gn,on⟩,he,rfl,rfl,h5,h6⟩:=zap h4;obtain⟨r,hr'⟩:=Jk.1 h5;have hg:rows.getD i []=r:=by rw[List.getD_eq_getElem?_getD,hr'];rfl
  rw[hg]at h6;have hs:=qkm (P:=P) (o:=⟨dst,.call ⟨.value x,asx,ts⟩,ty,ps,af,none⟩) (σ:=hd l bl el) rfl h h1 hx h3 (e:=e) he hr' h6 hr (qjs hd1 hd2 hd3);refine zdo rfl rfl (σ':=(hd l bl el).cN e i j (.sl sz1 rows1') dst res) ?_ k;have e0:(hd l bl el).cN e i j (.sl sz1 rows1') dst res=((hd l bl el).inp [(e,rows.set i (r.set j (.sl sz1 rows1')))]).put dst (zn7 (res.map D.toV)):=by
   unfold St.cN St.inp qc7 qc7;rw[show(hd l bl el).ev e=_ from he];simp only[Q8,zpv,evC,hg]
  rw[e0];exact zak.pre (zad hw) hs
 ·exact h2.elim
end
attribute [go_sem] qr9 onN St.cN evC
end
section
open Go.RowKit
variable {P:Program}
abbrev Sr:=Nat×Option (Nat×Nat)
def okQ:Option (Nat×Nat)->Option (Nat×Nat)->Bool
 | some a,some b=>!(a.1==b.1&&a.2==b.2)
 | _,_=>false
def okS:List Sr->Sr->Bool
 | [],_=>true
 | (e,p)::u,(e',p')=>(if e=e' then okQ p p' else true)&&okS u (e',p')
def owU (x:Option Ev)(sz:Nat)(rows:List (List T))(g:Nat):Prop:=zav x λy=>y.deep=true/\y.sz=sz/\(y.rows=rows\/zig y.rows=rows)/\y.gen=g/\y.on=true
def gvT (σ:St)(K:List Sr->List (Nat×Nat×Nat)->Prop)(u:List Sr)(ps:List (Nat×Nat×Nat))(x t:T):Prop:=match x,ps with
 | .pin v y,(e,i,j)::ps=>y=t/\okS u (e,some (i,j))=true/\onN (σ.ev e) i j v t/\K ((e,some (i,j))::u) ps
 | x,ps=>x=t/\t.flat=true/\K u ps
theorem qpg {σ:St}{K K':List Sr->List (Nat×Nat×Nat)->Prop}(hK:∀u ps,K u ps->K' u ps){u:List Sr}{ps:List (Nat×Nat×Nat)}{x t:T}(h:gvT σ K u ps x t):gvT σ K' u ps x t:=by
 unfold gvT at h⊢
 split at h
 ·exact⟨h.1,h.2.1,h.2.2.1,hK _ _ h.2.2.2⟩
 ·exact⟨h.1,h.2.1,hK _ _ h.2.2⟩
def gvK (σ:St)(K:List Sr->List (Nat×Nat×Nat)->Prop):List Sr->List (Nat×Nat×Nat)->List C->List T->Prop
 | u,ps,[],[]=>K u ps
 | u,ps,.t x::cs,t::ts=>gvT σ (λu ps=>gvK σ K u ps cs ts) u ps x t
 | u,ps,.nl _::cs,.sl _ rows::ts=>rows=[]/\gvK σ K u ps cs ts
 | u,ps,.ow e g::cs,.sl sz rows::ts=>okS u (e,none)=true/\owU (σ.ev e) sz rows g/\gvK σ K ((e,none)::u) ps cs ts
 | u,(e,i,j)::ps,.cv v::cs,t::ts=>okS u (e,some (i,j))=true/\onN (σ.ev e) i j v t/\gvK σ K ((e,some (i,j))::u) ps cs ts
 | _,_,_,_=>False
def rdC:C->T->Prop
 | .t x,y=>x=y/\T.nm y=true
 | .fn f [],.fn g []=>f=g
 | .rn x,y=>x=y
 | .er cs o,.ptr cs'=>o=0/\cs=cs'
 | .nl _,.sl _ rows=>rows=[]
 | _,_=>False
def rdCs:List C->List T->Prop
 | [],[]=>True
 | c::cs,t::ts=>rdC c t/\rdCs cs ts
 | _,_=>False
def rdV:V->D->Prop
 | .one c,.one t=>rdC c t
 | .agg cs,.agg ts=>rdCs cs ts
 | _,_=>False
def gvA (σ:St)(K:List Sr->Prop):List Sr->List (Nat×Nat×Nat)->List V->List (Bool×D)->Prop
 | u,_,[],[]=>K u
 | u,ps,v::vs,(false,d)::ds=>rdV v d/\gvA σ K u ps vs ds
 | u,ps,.one c::vs,(true,.one t)::ds=>gvK σ (λu ps=>gvA σ K u ps vs ds) u ps [c] [t]
 | u,ps,.agg cs::vs,(true,.agg ts)::ds=>gvK σ (λu ps=>gvA σ K u ps vs ds) u ps cs ts
 | _,_,_,_=>False
theorem zhu {σ:St}{K K':List Sr->List (Nat×Nat×Nat)->Prop}(hK:∀u ps,K u ps->K' u ps):∀{cs:List C}{ts:List T}{u:List Sr}{ps:List (Nat×Nat×Nat)},gvK σ K u ps cs ts->gvK σ K' u ps cs ts
 | [],[],_,_,h=>hK _ _ h
 | [],_::_,_,_,h=>by cases h
 | c::cs,[],u,ps,h=>by cases c<;>first|exact(show False from h).elim|(cases ps<;>exact(show False from h).elim)
 | c::cs,t::ts,u,ps,h=>by
  unfold gvK at h⊢;split at h
  ·rename_i e1 e2;cases e1
  ·rename_i e1 e2;cases e1;cases e2;exact qpg (λu ps h=>zhu hK h) h
  ·rename_i e1 e2;cases e1;cases e2;exact⟨h.1,zhu hK h.2⟩
  ·rename_i e1 e2;cases e1;cases e2;exact⟨h.1,h.2.1,zhu hK h.2.2⟩
  ·rename_i e1 e2;cases e1;cases e2;exact⟨h.1,h.2.1,zhu hK h.2.2⟩
  ·exact h.elim
theorem zjt {σ:St}{K K':List Sr->Prop}(hK:∀u,K u->K' u):∀{xs:List V}{ds:List (Bool×D)}{u:List Sr}{ps:List (Nat×Nat×Nat)},gvA σ K u ps xs ds->gvA σ K' u ps xs ds
 | [],[],_,_,h=>hK _ h
 | [],_::_,_,_,h=>h.elim
 | x::xs,[],_,_,h=>by cases x<;>exact h.elim
 | x::xs,(false,d)::ds,_,_,h=>by unfold gvA at h⊢;exact⟨h.1,zjt hK h.2⟩
 | .one c::xs,(true,.one t)::ds,_,_,h=>by unfold gvA at h⊢;exact zhu (λu ps hu=>zjt hK hu) h
 | .agg cs::xs,(true,.agg ts)::ds,_,_,h=>by unfold gvA at h⊢;exact zhu (λu ps hu=>zjt hK hu) h
 | .one _::_,(true,.agg _)::_,_,_,h=>h.elim
 | .agg _::_,(true,.one _)::_,_,_,h=>h.elim
 | .tup _::_,(true,d)::_,_,_,h=>by cases d<;>exact h.elim
theorem zbc.fam {w:World}:∀{cs:List T}{vs:List Value}{fps:List Nat},zbc w cs vs fps->∃F:Nat->List Nat,(∀k c,cs[k]?=some c->∃v,vs[k]?=some v/\zba w c v (F k))/\(∀k b,b∈F k->b∈fps)/\(fps.Nodup->(∀k,(F k).Nodup)/\∀k k',k≠k'->∀b∈F k,b∉F k')
 | [],vs,fps,h=>⟨λ_=>[],λk c hc=>by simp at hc,by simp,λ_=>⟨by simp,by simp⟩⟩
 | c::cs,_,_,h=>by
  obtain⟨v,vs',f1,f2,rfl,rfl,h1,h2⟩:=h;obtain⟨F,k1,k2,k3⟩:=zbc.fam h2;refine⟨λk=>match k with|0=>f1|k+1=>F k,λk c' hc=>?_,λk b hb=>?_,λhn=>?_⟩
  ·cases k with
   | zero=>simp only[List.getElem?_cons_zero,Qe]at hc;subst hc;exact⟨v,rfl,h1⟩
   | succ k=>exact k1 k c' (by simpa using hc)
  ·cases k with
   | zero=>exact Ya _ hb
   | succ k=>exact J7 _ (k2 k b hb)
  ·obtain⟨n1,n2,n3⟩:=Kg.1 hn;obtain⟨m1,m2⟩:=k3 n2;refine⟨λk=>?_,λk k' hne b hb hb'=>?_⟩
   ·cases k with
    | zero=>exact n1
    | succ k=>exact m1 k
   ·cases k with
    | zero =>
     cases k' with
     | zero=>exact hne rfl
     | succ k'=>exact n3 b hb b (k2 k' b hb') rfl
    | succ k =>
     cases k' with
     | zero=>exact n3 b hb' b (k2 k b hb) rfl
     | succ k'=>exact m2 k k' Y0 b hb hb'
theorem qhg {sz:Nat}:∀{rows:List (List T)}{i j:Nat}{r:List T}{c:T},lens sz rows->rows[i]?=some r->r[j]?=some c->rows.flatten[i*sz+j]?=some c
 | [],_,_,_,_,_,h,_=>by simp at h
 | d::rows,0,j,r,c,hl,hr,hc=>by
  simp only[List.getElem?_cons_zero,Qe]at hr;subst hr;have hj:j<d.length:=by
   rcases Yw j d.length with h|h
   ·exact h
   ·rw[List.getElem?_eq_none h]at hc;cases hc
  rw[Ki,List.getElem?_append_left Y0];simpa using hc
 | d::rows,i+1,j,r,c,hl,hr,hc=>by
  have hd:d.length=sz:=hl d (by simp);have:=qhg (sz:=sz) (rows:=rows) (λr hr=>hl r (by simp[hr])) (by simpa using hr) hc;rw[Ki,List.getElem?_append_right (by rw[hd,Ku];omega)]
  rwa [show(i+1)*sz+j-d.length=i*sz+j by rw[hd,Ku];omega]
structure Fam (w:World)(σ:St)(g:Gh)(B:Sr->List Nat):Prop where
 whole:∀e,B (e,none)=g.φ e
 cell:∀e i j v t,onN (σ.ev e) i j v t->zba w t v (B (e,some (i,j)))
 sub:∀e p b,σ.On e->b∈B (e,p)->b∈g.φ e
 nodup:∀e p,σ.On e->(B (e,p)).Nodup
 apart:∀e p p',σ.On e->p≠p'->∀b∈B (e,some p),b∉B (e,some p')
theorem Rel.fam {n0:Nat->Prop}{N:Nat}{σ:St}{g:Gh}{a:Act}{w:World}(hR:Rel n0 N σ g a w):∃B,Fam w σ g B:=by
 have h1:∀e,∃F:Nat×Nat->List Nat,∀dp sz rows gn,σ.ev e=some ⟨dp,sz,rows,gn,true⟩->((dp=true->∀i j v t,rows[i]?.isSome=true->(rows.getD i [])[j]?=some (.pin v t)->zba w t v (F (i,j)))/\(∀p b,b∈F p->b∈g.φ e)/\(∀p,(F p).Nodup)/\∀p p',p≠p'->∀b∈F p,b∉F p'):=by
  intro e;by_cases hon:∃sz rows gn,σ.ev e=some ⟨true,sz,rows,gn,true⟩
  ·obtain⟨sz,rows,gn,he⟩:=hon;have hnd:=hR.nodup e ⟨_,he,rfl⟩;obtain⟨ao,cap,vs,k1,k2,k3,k4,k5,k6,k7⟩:=hR.vals he rfl;rcases k7 with⟨_,_,k7,k8⟩|⟨b,cells,ty,fps,k7,k8,k9,k10,k11,k12,k13⟩
   ·refine⟨λ_=>[],λdp sz' rows' gn' he'=>?_⟩;rw[he,Qe]at he';cases he';have k7:rows=[]:=k7;subst k7;exact⟨λ_ i j v t h=>by simp at h,by simp,by simp,by simp⟩
   ·obtain⟨F,f1,f2,f3⟩:=(k12 rfl).fam;rw[k8]at hnd;obtain⟨m1,m2⟩:=f3 (Kx.1 hnd).2;refine⟨λp=>if p.2<sz/\p.1<rows.length then F (p.1*sz+p.2)else [],λdp sz' rows' gn' he'=>?_⟩;rw[he,Qe]at he';cases he';refine⟨λ_ i j v t h1 h2=>?_,λp b hb=>?_,λp=>?_,λp p' hne b hb hb'=>?_⟩
    ·obtain⟨r,hr⟩:=Jk.1 h1;have hg:rows.getD i []=r:=by rw[List.getD_eq_getElem?_getD,hr];rfl
     rw[hg]at h2;have hj:j<sz:=by
      have:r.length=sz:=k4 r (List.mem_of_getElem? hr);rcases Yw j r.length with h|h
      ·omega
      ·rw[List.getElem?_eq_none h]at h2;cases h2
     have hi:i<rows.length:=(List.getElem?_eq_some_iff.1 hr).1;obtain⟨u,_,hu⟩:=f1 _ _ (qhg k4 hr h2);show zba w t v (if j<sz/\i<rows.length then F (i*sz+j)else [])
     rw[if_pos ⟨hj,hi⟩];unfold zba at hu;obtain⟨rfl,hu⟩:=hu;exact hu
    ·by_cases hp:p.2<sz/\p.1<rows.length
     ·simp only[if_pos hp]at hb;rw[k8];exact Yg _ (f2 _ _ hb)
     ·simp only[if_neg hp]at hb;simp at hb
    ·by_cases hp:p.2<sz/\p.1<rows.length
     ·simp only[if_pos hp];exact m1 _
     ·simp only[if_neg hp];simp
    ·by_cases hp:p.2<sz/\p.1<rows.length
     ·by_cases hp':p'.2<sz/\p'.1<rows.length
      ·simp only[if_pos hp,if_pos hp']at hb hb';refine m2 _ _ (λheq=>hne ?_) b hb hb';obtain⟨i,j⟩:=p;obtain⟨i',j'⟩:=p';simp only at hp hp' heq;have hii:i=i':=by
        rcases Nat.lt_trichotomy i i' with h|h|h
        ·have:=Jg sz (show i+1<=i' by omega);rw[Ku]at this;omega
        ·exact h
        ·have:=Jg sz (show i'+1<=i by omega);rw[Ku]at this;omega
       subst hii;have:j=j':=by omega
       subst this;rfl
      ·simp only[if_neg hp']at hb';simp at hb'
     ·simp only[if_neg hp]at hb;simp at hb
  ·refine⟨λ_=>[],λdp sz rows gn he=>⟨λhd=>?_,by simp,by simp,by simp⟩⟩;subst hd;exact absurd ⟨sz,rows,gn,he⟩ hon
 refine⟨λs=>match s.2 with|none=>g.φ s.1|some p=>Classical.choose (h1 s.1) p,⟨λe=>rfl,λe i j v t ho=>?_,λe p b ho hb=>?_,λe p ho=>?_,λe p p' ho hne b hb=>?_⟩⟩
 ·obtain⟨⟨dp,sz,rows,gn,on⟩,he,h2,h3,h4,h5⟩:=zap ho;simp only at h2 h3;subst h2 h3;exact(Classical.choose_spec (h1 e) true sz rows gn he).1 rfl i j v t h4 h5
 ·cases p with
  | none=>exact hb
  | some p =>
   obtain⟨⟨dp,sz,rows,gn,on⟩,he,ho⟩:=ho;simp only at ho;subst ho;exact(Classical.choose_spec (h1 e) dp sz rows gn he).2.1 p b hb
 ·cases p with
  | none=>exact hR.nodup e ho
  | some p =>
   obtain⟨⟨dp,sz,rows,gn,on⟩,he,ho⟩:=ho;simp only at ho;subst ho;exact(Classical.choose_spec (h1 e) dp sz rows gn he).2.2.1 p
 ·obtain⟨⟨dp,sz,rows,gn,on⟩,he,ho⟩:=ho;simp only at ho;subst ho;exact(Classical.choose_spec (h1 e) dp sz rows gn he).2.2.2 p p' hne b hb
def bks (B:Sr->List Nat)(u:List Sr):List Nat:=u.flatMap B
def okP (s s':Sr):Prop:=s.1≠s'.1\/(s.2≠none/\s'.2≠none/\s.2≠s'.2)
theorem okP.symm {s s':Sr}(h:okP s s'):okP s' s:=h.imp (λh=>Ne.symm h) λh=>⟨h.2.1,h.1,Ne.symm h.2.2⟩
theorem zze:∀{u:List Sr}{s:Sr},okS u s=true->∀x∈u,okP s x
 | [],_,_,x,hx=>by simp at hx
 | (e,p)::u,(e',p'),h,x,hx=>by
  unfold okS at h;rw[Qb]at h;rcases Qu.1 hx with rfl|hx
  ·have h1:=h.1;by_cases he:e=e'
   ·rw[if_pos he]at h1;right;unfold okQ at h1;split at h1
    ·rename_i a b;refine⟨by simp,by simp,λe=>?_⟩;simp only[Qe]at e;subst e;simp at h1
    ·cases h1
   ·left;exact Ne.symm he
  ·exact zze h.2 x hx
theorem zf4 {n0:Nat->Prop}{N:Nat}{σ:St}{g:Gh}{a:Act}{w:World}(hR:Rel n0 N σ g a w){B:Sr->List Nat}(hB:Fam w σ g B):∀{s:List Sr},(∀x∈s,σ.On x.1)->s.Pairwise okP->(bks B s).Nodup
 | [],_,_=>Kr
 | x::s,ho,hp=>by
  obtain⟨p1,p2⟩:=Jf.1 hp;unfold bks;rw[Jj];refine Kg.2 ⟨hB.nodup x.1 x.2 (ho x (by simp)),zf4 hR hB (λy hy=>ho y (by simp[hy])) p2,λb hb b' hb' hbb=>?_⟩;subst hbb;obtain⟨y,hy,hb'⟩:=J2.1 hb';obtain⟨e,p⟩:=x;obtain⟨e',p'⟩:=y;have o1:=ho (e,p) (by simp);have o2:=ho (e',p') (by simp[hy]);rcases p1 (e',p') hy with h|⟨h1,h2,h3⟩
  ·exact hR.apart e e' o1 o2 h b (hB.sub e p b o1 hb) (hB.sub e' p' b o2 hb')
  ·by_cases hee:e=e'
   ·subst hee;cases p with
    | none=>exact h1 rfl
    | some p =>
     cases p' with
     | none=>exact h2 rfl
     | some p'=>exact hB.apart e p p' o1 (λh=>h3 (by rw[h])) b hb hb'
   ·exact hR.apart e e' o1 o2 hee b (hB.sub e p b o1 hb) (hB.sub e' p' b o2 hb')
theorem qrl {σ:St}{e i j:Nat}{v:Value}{t:T}(h:onN (σ.ev e) i j v t):σ.On e:=by
 obtain⟨x,hx,h2,_⟩:=zap h
 exact⟨x,hx,h2⟩
section
variable {n0:Nat->Prop}{N:Nat}{σ:St}{g:Gh}{a:Act}{w:World}(hR:Rel n0 N σ g a w){B:Sr->List Nat}(hB:Fam w σ g B)
include hR hB
theorem zd2 {K:List Sr->List (Nat×Nat×Nat)->Prop}:∀{cs:List C}{ts:List T}{u:List Sr}{ps:List (Nat×Nat×Nat)}{vs:List Value},gvK σ K u ps cs ts->CRs σ g w cs vs →
  ∃s ps' tp,K (s.reverse++u) ps'/\qcz w ts vs (bks B s) tp/\(∀x∈s,σ.On x.1)/\(u.Pairwise okP->(s.reverse++u).Pairwise okP)
 | [],[],u,ps,vs,h,hv=>⟨[],ps,[],h,⟨hv,rfl,rfl⟩,by simp,λh=>h⟩
 | [],_::_,_,_,_,h,_=>by cases h
 | c::cs,[],u,ps,vs,h,hv=>by cases c<;>first|exact(show False from h).elim|(cases ps<;>exact(show False from h).elim)
 | c::cs,t::ts,u,ps,vs,h,hv=>by
  obtain⟨v,vs',rfl,h1,h2⟩:=hv;unfold gvK at h;split at h
  ·rename_i e1 e2;cases e1
  ·rename_i x cs' t' ts' e1 e2;cases e1;cases e2;unfold gvT at h;split at h
   ·rename_i v0 y e i j ps0;obtain⟨rfl,hok,he,h⟩:=h;obtain⟨s,ps',tp,k1,k2,k3,k4⟩:=zd2 h h2;unfold CR zau at h1;obtain⟨rfl,_⟩:=h1;have ho:=hB.cell e i j v y he;refine⟨(e,some (i,j))::s,ps',zlg y (B (e,some (i,j)))++tp,by simpa using k1,⟨v,vs',_,bks B s,tp,rfl,by unfold bks;rw[Jj],rfl,ho,k2⟩,λx hx=>?_,λhu=>?_⟩
    ·rcases Qu.1 hx with rfl|hx
     ·exact qrl he
     ·exact k3 x hx
    ·have:=k4 (Jf.2 ⟨zze hok,hu⟩);simpa using this
   obtain⟨rfl,hf,h⟩:=h;obtain⟨s,ps',tp,k1,k2,k3,k4⟩:=zd2 h h2;have ho:zba w x v []:=by
    cases x<;>simp only[T.flat,Qp]at hf<;>simp only[CR,zau]at h1<;>unfold zba
    ·exact⟨h1.1,h1.2.1,h1.2.2,rfl⟩
    ·exact⟨h1,rfl⟩
    ·exact⟨h1.1,h1.2,rfl⟩
    ·exact⟨h1,rfl⟩
   exact⟨s,ps',zlg x []++tp,k1,⟨v,vs',[],_,tp,rfl,rfl,rfl,ho,k2⟩,k3,k4⟩
  ·rename_i z cs' sz rows ts' e1 e2;cases e1;cases e2;obtain⟨rfl,h⟩:=h;obtain⟨s,ps',tp,k1,k2,k3,k4⟩:=zd2 h h2;have ho:zba w (.sl sz []) v []:=by
    unfold zba;exact⟨none,0,h1,by simp,by simp,Or.inl ⟨rfl,rfl,rfl,rfl⟩⟩
   exact⟨s,ps',zlg (.sl sz []) []++tp,k1,⟨v,vs',[],_,tp,rfl,rfl,rfl,ho,k2⟩,k3,k4⟩
  ·rename_i e gn cs' sz rows ts' e1 e2;cases e1;cases e2;obtain⟨hok,he,h⟩:=h;obtain⟨s,ps',tp,k1,k2,k3,k4⟩:=zd2 h h2;have hou:=he;obtain⟨⟨dp,sz0,rows0,gn0,on0⟩,hev,rfl,rfl,hrows,rfl,rfl⟩:=zap hou;have ho:zba w (.sl sz0 rows) (g.ψ e gn0) (g.φ e):=by
    rcases hrows with rfl|rfl
    ·exact zf7 hR hev
    ·exact(zf7 hR hev).unpins
   have h1:v=g.ψ e gn0/\_:=h1;rw[<-h1.1]at ho;refine⟨(e,none)::s,ps',zlg (.sl _ _) (g.φ e)++tp,by simpa using k1,⟨v,vs',g.φ e,bks B s,tp,rfl,by unfold bks;rw[Jj,hB.whole],rfl,ho,k2⟩,λx hx=>?_,λhu=>?_⟩
   ·rcases Qu.1 hx with rfl|hx
    ·exact⟨_,hev,rfl⟩
    ·exact k3 x hx
   ·have:=k4 (Jf.2 ⟨zze hok,hu⟩);simpa using this
  ·rename_i e i j ps0 v0 cs' t' ts' e1 e2;cases e1;cases e2;obtain⟨hok,he,h⟩:=h;obtain⟨s,ps',tp,k1,k2,k3,k4⟩:=zd2 h h2;have h1:v=v0:=h1;subst h1;have ho:=hB.cell e i j v t he;refine⟨(e,some (i,j))::s,ps',zlg t (B (e,some (i,j)))++tp,by simpa using k1,⟨v,vs',_,bks B s,tp,rfl,by unfold bks;rw[Jj],rfl,ho,k2⟩,λx hx=>?_,λhu=>?_⟩
   ·rcases Qu.1 hx with rfl|hx
    ·exact qrl he
    ·exact k3 x hx
   ·have:=k4 (Jf.2 ⟨zze hok,hu⟩);simpa using this
  ·exact h.elim
omit hB in
theorem qdy {FP:List Nat}(hFP:∀b∈FP,∃e,σ.On e/\b∈g.φ e){c:C}{t:T}{v:Value}(h:rdC c t)(hv:CR σ g w c v):zau w (λb=>b<w.heap.size/\b∉FP) t v:=by
 unfold rdC at h
 split at h
 ·rename_i x;obtain⟨rfl,hn⟩:=h;exact zl8 (σ:=σ) (g:=g) (x:=.one (.t x)) (d:=.one x) ⟨rfl,hn⟩ hv _
 ·rename_i f f';subst h;exact zl8 (σ:=σ) (g:=g) (x:=.one (.fn f [])) (d:=.one (.fn f [])) rfl hv _
 ·subst h;refine zau.keep (λ_ _=>rfl) (λb hb=>⟨hb.1.2.2.1,λhm=>?_⟩) _ v hv;obtain⟨e,ho,hm⟩:=hFP b hm;exact hb.2 e ho hm
 ·obtain⟨rfl,rfl⟩:=h;obtain⟨b,q,h1,h2,h3⟩:=hv;have hk:∀b,zch σ g w b->b<w.heap.size/\b∉FP:=λb hb=>⟨hb.1.2.2.1,λhm=>by obtain⟨e,ho,hm⟩:=hFP b hm;exact hb.2 e ho hm⟩;unfold zau;exact⟨b,q,h1,hk b h2,zbo.keep (λ_ _=>rfl) hk b rfl q _ h3⟩
 ·subst h;rw[show v=.slice none 0 0 from hv];unfold zau;exact⟨none,0,rfl,by simp,by simp,Or.inl rfl⟩
 ·exact h.elim
omit hB in
theorem qac {FP:List Nat}(hFP:∀b∈FP,∃e,σ.On e/\b∈g.φ e):∀{cs:List C}{ts:List T}{vs:List Value},rdCs cs ts->CRs σ g w cs vs->zag w (λb=>b<w.heap.size/\b∉FP) ts vs
 | [],[],vs,_,hv=>by unfold zag;exact hv
 | [],_::_,_,h,_=>h.elim
 | _::_,[],_,h,_=>h.elim
 | c::cs,t::ts,vs,h,hv=>by
  obtain⟨v,vs',rfl,h1,h2⟩:=hv;unfold zag;exact⟨v,vs',rfl,qdy hR hFP h.1 h1,qac hFP h.2 h2⟩
theorem zhf {K:List Sr->Prop}:∀{xs:List V}{ds:List (Bool×D)}{u:List Sr}{ps:List (Nat×Nat×Nat)}{vs:List Value},gvA σ K u ps xs ds->VRl σ g w xs vs →
  ∃s,K (s.reverse++u)/\(∀FP:List Nat,(∀b∈FP,∃e,σ.On e/\b∈g.φ e)->∃tp,za5 w (λb=>b<w.heap.size/\b∉FP) ds vs (bks B s) tp)/\(∀x∈s,σ.On x.1)/\(u.Pairwise okP->(s.reverse++u).Pairwise okP)
 | [],[],u,ps,vs,h,hv=>⟨[],h,λ_ _=>⟨[],hv,rfl,rfl⟩,by simp,λh=>h⟩
 | [],_::_,_,_,_,h,_=>h.elim
 | x::xs,[],_,_,_,h,_=>by cases x<;>exact h.elim
 | x::xs,(false,d)::ds,u,ps,vs,h,hv=>by
  obtain⟨v,vs',rfl,h1,h2⟩:=hv;unfold gvA at h;obtain⟨hr,h⟩:=h;obtain⟨s,k1,k2,k3,k4⟩:=zhf h h2;refine⟨s,k1,λFP hFP=>?_,k3,k4⟩;obtain⟨tp,k2⟩:=k2 FP hFP;refine⟨tp,v,vs',rfl,?_,k2⟩;unfold rdV at hr;split at hr
  ·exact qdy hR hFP hr h1
  ·obtain⟨b,e,h1⟩:=h1;exact⟨b,e,qac hR hFP hr h1⟩
  ·exact hr.elim
 | .one c::xs,(true,.one t)::ds,u,ps,vs,h,hv=>by
  obtain⟨v,vs',rfl,h1,h2⟩:=hv;unfold gvA at h;obtain⟨s,ps',tp,k1,k2,k3,k4⟩:=zd2 hR hB h (vs:=[v]) ⟨v,[],rfl,h1,rfl⟩;obtain⟨s',j1,j2,j3,j4⟩:=zhf k1 h2;obtain⟨v0,vs0,f1,f2,t2,e0,e1,rfl,q1,q2⟩:=k2;cases e0;obtain⟨_,rfl,rfl⟩:=q2;rw[Ko]at e1;refine⟨s++s',by simpa using j1,λFP hFP=>?_,λx hx=>?_,λhu=>by simpa using j4 (k4 hu)⟩
  ·obtain⟨tp',j2⟩:=j2 FP hFP;exact⟨zlg t f1++tp',v,vs',bks B s,bks B s',_,tp',rfl,by unfold bks;rw[List.flatMap_append],rfl,⟨by rw[e1];exact q1,by rw[e1]⟩,j2⟩
  ·rcases Qw.1 hx with hx|hx
   ·exact k3 x hx
   ·exact j3 x hx
 | .agg cs::xs,(true,.agg ts)::ds,u,ps,vs,h,hv=>by
  obtain⟨v,vs',rfl,⟨y,rfl,h1⟩,h2⟩:=hv;unfold gvA at h;obtain⟨s,ps',tp,k1,k2,k3,k4⟩:=zd2 hR hB h h1;obtain⟨s',j1,j2,j3,j4⟩:=zhf k1 h2;refine⟨s++s',by simpa using j1,λFP hFP=>?_,λx hx=>?_,λhu=>by simpa using j4 (k4 hu)⟩
  ·obtain⟨tp',j2⟩:=j2 FP hFP;exact⟨tp++tp',_,vs',bks B s,bks B s',tp,tp',rfl,by unfold bks;rw[List.flatMap_append],rfl,⟨y,rfl,k2⟩,j2⟩
  ·rcases Qw.1 hx with hx|hx
   ·exact k3 x hx
   ·exact j3 x hx
 | .one _::_,(true,.agg _)::_,_,_,_,h,_=>h.elim
 | .agg _::_,(true,.one _)::_,_,_,_,h,_=>h.elim
 | .tup _::_,(true,d)::_,_,_,_,h,_=>by cases d<;>exact h.elim
end
end
section
open Go.RowKit
variable {P:Program}
def C.okU (τ:St):C->Prop
 | .t x=>x.flat=true
 | .nl _=>True
 | .ow e g=>zav (τ.ev e) λx=>g<=x.gen
 | .bx b _=>τ.bx b≠none
 | .el _ _=>False
 | .er _ _=>True
 | .eo e s _ _ _=>zav (τ.ev e) λx=>s<=x.gen
 | .fn _ caps=>qbs τ caps
 | .cv _=>True
 | .any=>True
 | .rn _=>True
def qqx (τ:St):List C->Prop
 | []=>True
 | c::cs=>c.okU τ/\qqx τ cs
def okUt (τ:St):List (Bool×List C)->Prop
 | []=>True
 | x::xs=>qqx τ x.2/\okUt τ xs
def V.okU (τ:St):V->Prop
 | .one c=>c.okU τ
 | .agg cs=>qqx τ cs
 | .tup xs=>okUt τ xs
structure Kept (σ τ:St):Prop where
 sl:∀i,τ.sl i=.one .any\/(τ.sl i=σ.sl i/\(τ.sl i).okU τ)
 bx:∀b cs,τ.bx b=some cs->σ.bx b=some cs/\qqx τ cs
 ev:∀e x,τ.ev e=some x->σ.ev e=some x/\x.on=true/\x.deep=true
section
variable {σ τ:St}{g g':Gh}{w w':World}{ev':Nat->Option Ev}(hβ:g'.β=g.β)(hψ:∀e,τ.ev e≠none->ev' e=τ.ev e/\g'.ψ e=g.ψ e)(hrn:∀b,zch σ g w b->w'.heap[b]?=w.heap[b]?/\zch ⟨τ.sl,τ.bx,ev'⟩ g' w' b)
include hβ hψ hrn
theorem qkz {c:C}{v:Value}(hc:c.okU τ)(h:CR σ g w c v):CR ⟨τ.sl,τ.bx,ev'⟩ g' w' c v:=by
 have hh:∀{e n:Nat},zav (τ.ev e) (λx=>n<=x.gen)->g'.ψ e=g.ψ e/\St.has ⟨τ.sl,τ.bx,ev'⟩ e n:=fun {e n} ho=>by
  obtain⟨x,hx,hn⟩:=zap ho;obtain⟨k1,k2⟩:=hψ e (by rw[hx];simp);exact⟨k2,x,k1.trans hx,hn⟩
 cases c with
 | t x=>exact zcq hc h
 | nl s=>exact h
 | ow e n=>obtain⟨k1,k2⟩:=hh hc;exact⟨by rw[k1];exact h.1,k2⟩
 | bx b o=>exact⟨by rw[hβ];exact h.1,hc⟩
 | el cs o=>exact hc.elim
 | eo e s sz i o=>obtain⟨k1,k2⟩:=hh hc;obtain⟨b,n,c,q1,q2,q3,q4⟩:=h;exact⟨b,n,c,by rw[k1];exact q1,q2,q3,k2⟩
 | fn f caps=>exact⟨by rw[hβ];exact h.1,λb hb=>zni (show qbs τ caps from hc) b hb⟩
 | cv u=>exact h
 | any=>trivial
 | rn x=>exact zau.keep (λb hb=>(hrn b hb).1) (λb hb=>(hrn b hb).2) x v h
 | er cs o=>obtain⟨b,q,h1,h2,h3⟩:=h;exact⟨b,q,h1,(hrn b h2).2,zbo.keep (λb hb=>(hrn b hb).1) (λb hb=>(hrn b hb).2) b (hrn b h2).1 q cs h3⟩
theorem zqs:∀{cs:List C}{vs:List Value},qqx τ cs->CRs σ g w cs vs->CRs ⟨τ.sl,τ.bx,ev'⟩ g' w' cs vs
 | [],_,_,h=>h
 | c::cs,vs,hc,h=>by
  obtain⟨v,vs',rfl,h1,h2⟩:=h;exact⟨v,vs',rfl,qkz hβ hψ hrn hc.1 h1,zqs hc.2 h2⟩
theorem qe5:∀{xs:List (Bool×List C)}{vs:List Value},okUt τ xs->CRt σ g w xs vs->CRt ⟨τ.sl,τ.bx,ev'⟩ g' w' xs vs
 | [],_,_,h=>h
 | x::xs,vs,hc,h=>by
  obtain⟨v,vs',rfl,h1,h2⟩:=h;refine⟨v,vs',rfl,?_,qe5 hc.2 h2⟩;unfold CRx at h1⊢;split at h1
  ·rw[if_pos ‹_›];obtain⟨a,k1,k2⟩:=h1;exact⟨a,k1,zqs hβ hψ hrn hc.1 k2⟩
  ·rw[if_neg ‹_›];obtain⟨c,k1,k2⟩:=h1;refine⟨c,k1,qkz hβ hψ hrn ?_ k2⟩;have:=hc.1;rw[k1]at this;exact this.1
theorem okU_vr {x:V}{v:Value}(hc:x.okU τ)(h:VR σ g w x v):VR ⟨τ.sl,τ.bx,ev'⟩ g' w' x v:=by
 cases x with
 | one c=>exact qkz hβ hψ hrn hc h
 | agg cs=>obtain⟨a,k1,k2⟩:=h;exact⟨a,k1,zqs hβ hψ hrn hc k2⟩
 | tup xs=>obtain⟨a,k1,k2⟩:=h;exact⟨a,k1,qe5 hβ hψ hrn hc k2⟩
end
theorem Rel.given {n0:Nat->Prop}{N:Nat}{σ τ:St}{g g':Gh}{a:Act}{w w':World}(hR:Rel n0 N σ g a w)(hn0:LtK n0 w)(hK:Kept σ τ){fp:List Nat}(hfp:∀b∈fp,∃e,σ.On e/\τ.ev e=none/\b∈g.φ e)(hbk:Bk (λk=>k<w.heap.size/\k∉fp) w w')
  {ev':Nat->Option Ev} {F:List Nat} (hn:New τ g (λb=>b∈fp\/w.heap.size<=b) w' ev' g' F):Rel n0 N ⟨τ.sl,τ.bx,ev'⟩ g' a w':=by
 have hOnσ:∀e,τ.On e->σ.On e:=λe ⟨x,hx,ho⟩=>⟨x,(hK.ev e x hx).1,ho⟩
 have hlt:∀e,σ.On e->∀b∈g.φ e,b<w.heap.size:=λe ⟨x,hx,ho⟩=>(hR.evs e x hx ho).lt
 have hbne:∀b,τ.bx b≠none->σ.bx b≠none:=λb hb=>by
  obtain⟨cs,hcs⟩:=K9.1 hb;rw[(hK.bx b cs hcs).1];simp
 have hfR:∀b∈fp,g.A0 b/\g.R0 b/\¬n0 b:=λb hb=>by
  obtain⟨e,ho,_,hm⟩:=hfp b hb;obtain⟨k1,k2⟩:=hR.ebase e ho b hm;exact⟨k1,k2,hR.etop e ho b hm⟩
 have hNB:∀b,(b∈fp\/w.heap.size<=b)->g.A0 b/\g.R0 b/\¬n0 b:=λb hb=>by
  rcases hb with hb|hb
  ·exact hfR b hb
  ·have hnn:=hn0.new hb;exact⟨(hR.anew b hnn).1,(hR.anew b hnn).2,hnn⟩
 have hβfp:∀b,τ.bx b≠none->¬(g.β b∈fp\/w.heap.size<=g.β b):=λb hb h=>by
  rcases h with h|h
  ·obtain⟨e,ho,_,hm⟩:=hfp _ h;exact hR.ebx e b ho (hbne b hb) hm
  ·have:=hR.lt (hbne b hb);omega
 have hφfp:∀e,τ.On e->∀b∈g.φ e,¬(b∈fp\/w.heap.size<=b):=λe ho b hb h=>by
  rcases h with h|h
  ·obtain⟨e',ho',hno,hm⟩:=hfp b h;refine hR.apart e e' (hOnσ e ho) ho' (λhee=>?_) b hb hm;subst hee;obtain⟨x,hx,_⟩:=ho;rw[hx]at hno;cases hno
  ·have:=hlt e (hOnσ e ho) b hb;omega
 have hon:∀e,St.On ⟨τ.sl,τ.bx,ev'⟩ e->τ.ev e≠none->τ.On e:=λe ⟨x,hx,ho⟩ hee=>⟨x,(hn.old e hee).1.symm.trans hx,ho⟩
 have hkeep:∀b,b<w.heap.size->b∉fp->w'.heap[b]?=w.heap[b]?:=λb h1 h2=>hbk.block b ⟨h1,h2⟩
 have hrn:∀b,zch σ g w b->w'.heap[b]?=w.heap[b]?/\zch ⟨τ.sl,τ.bx,ev'⟩ g' w' b:=λb hb=>by
  obtain⟨hf,hr⟩:=hb;have hnb:∀e,St.On ⟨τ.sl,τ.bx,ev'⟩ e->b∉g'.φ e:=λe ho hm=>by
   by_cases hee:τ.ev e=none
   ·obtain⟨x,hx,_⟩:=ho;rcases((hn.new e x hee hx).2.2.1 b hm).1 with h|h
    ·obtain⟨e',ho',_,hm'⟩:=hfp b h;exact hr e' ho' hm'
    ·have:=hf.2.2.1;omega
   ·rw[(hn.old e hee).2.2]at hm;exact hr e (hOnσ e (hon e ho hee)) hm
  refine⟨hkeep b hf.2.2.1 (λhm=>by obtain⟨e',ho',_,hm'⟩:=hfp b hm;exact hr e' ho' hm'),⟨λk hk=>by rw[hn.β];exact hf.1 k (hbne k hk),λe x hx hon' hh=>hnb e ⟨x,hx,hon'⟩ (List.mem_of_mem_head? hh),Jp hf.2.2.1 hbk.size,by rw[hn.A0];exact hf.2.2.2⟩,hnb⟩
 have hψ:∀e,τ.ev e≠none->ev' e=τ.ev e/\g'.ψ e=g.ψ e:=λe he=>⟨(hn.old e he).1,(hn.old e he).2.1⟩
 refine⟨by rw[hR.defers],hR.size,by rw[hn.A0,hn.R0];exact hR.anew,λi=>?_,λb cs hb=>?_,λb hb=>by rw[hn.β];exact hR.base b (hbne b hb),λb b' h1 h2 h3=>by rw[hn.β]at h3;exact hR.inj b b' (hbne b h1) (hbne b' h2) h3,λe x he ho=>?_,λe x he ho=>?_,hn.slc,λe he b hb=>?_,λe he b hb=>?_,λe he=>?_,λe e' h1 h2 hne b hb1 hb2=>?_,λe k he hk hm=>?_⟩
 ·rcases hK.sl i with h|⟨h,hok⟩
  ·rw[show(⟨τ.sl,τ.bx,ev'⟩:St).sl i=.one .any from h];trivial
  ·rw[hn.R0];show VR _ g' w' (τ.sl i) _
   have hs:=hR.slots i;rw[<-h]at hs;exact okU_vr hn.β hψ hrn hok hs
 ·obtain⟨hb1,hb2⟩:=hK.bx b cs hb;obtain⟨vs,ty,k1,k2⟩:=hR.boxes b cs hb1;have hne:τ.bx b≠none:=by rw[show τ.bx b=some cs from hb];simp
  have hnf:=hβfp b hne;exact⟨vs,ty,by rw[hn.β,hkeep _ (hR.lt (hbne b hne)) (λh=>hnf (Or.inl h))];exact k1,zqs hn.β hψ hrn hb2 k2⟩
 ·by_cases hee:τ.ev e=none
  ·obtain⟨⟨k1,_,k0⟩,k2,k3,k4⟩:=hn.new e x hee he;rw[k0];unfold zba at k2;obtain⟨ao,cap,j1,j2,j3,j4⟩:=k2;refine⟨ao,cap,j1,j2,j3,?_⟩;rcases j4 with j4|⟨b,cells,ty,fps,j4,j5,j6,j7,j8⟩
   ·exact Or.inl j4
   ·exact Or.inr ⟨b,cells,ty,fps,j4,j5,j6,j7,by rw[if_pos k1];exact j8⟩
  ·obtain⟨o1,o2,o3⟩:=hn.old e hee;have hx:τ.ev e=some x:=o1.symm.trans he;obtain⟨k1,k2,k3⟩:=hK.ev e x hx;have hE:=hR.evs e x k1 k2;have hno:=hφfp e ⟨x,hx,k2⟩;have hl:=hlt e ⟨x,k1,k2⟩;have hkp:∀b∈g.φ e,w'.heap[b]?=w.heap[b]?:=λb hb=>hkeep b (hl b hb) λh=>hno b hb (Or.inl h);rw[o2,o3];obtain⟨ao,cap,r1,r2,r3,r4⟩:=hE;refine⟨ao,cap,r1,r2,r3,?_⟩;rcases r4 with r4|⟨b,cells,ty,fps,r4,r5,r6,r7,r8⟩
   ·exact Or.inl r4
   ·rw[if_pos k3]at r8;exact Or.inr ⟨b,cells,ty,fps,r4,r5,by rw[hkp b (by rw[r5];simp)];exact r6,r7,by rw[if_pos k3];exact zat.keep cells 0 x.sz x.rows fps r8 λb' hb'=>hkp b' (by rw[r5];simp[hb'])⟩
 ·by_cases hee:τ.ev e=none
  ·rw[(hn.new e x hee he).1.2.1]at ho;cases ho
  ·have hx:τ.ev e=some x:=(hn.old e hee).1.symm.trans he;rw[(hK.ev e x hx).2.1]at ho;cases ho
 ·rw[hn.A0,hn.R0];by_cases hee:τ.ev e=none
  ·obtain⟨x,hx,_⟩:=he;have:=hNB b ((hn.new e x hee hx).2.2.1 b hb).1;exact⟨this.1,this.2.1⟩
  ·rw[(hn.old e hee).2.2]at hb;exact hR.ebase e (hOnσ e (hon e he hee)) b hb
 ·by_cases hee:τ.ev e=none
  ·obtain⟨x,hx,_⟩:=he;exact(hNB b ((hn.new e x hee hx).2.2.1 b hb).1).2.2
  ·rw[(hn.old e hee).2.2]at hb;exact hR.etop e (hOnσ e (hon e he hee)) b hb
 ·by_cases hee:τ.ev e=none
  ·obtain⟨x,hx,_⟩:=he;exact(hn.new e x hee hx).2.2.2
  ·rw[(hn.old e hee).2.2];exact hR.nodup e (hOnσ e (hon e he hee))
 ·by_cases hee:τ.ev e=none
  ·obtain⟨x,hx,_⟩:=h1;by_cases hee':τ.ev e'=none
   ·obtain⟨x',hx',_⟩:=h2;exact hn.apart e e' hee hee' (by rw[show ev' e=some x from hx];simp) (by rw[show ev' e'=some x' from hx'];simp) hne b hb1 hb2
   ·rw[(hn.old e' hee').2.2]at hb2;exact hφfp e' (hon e' h2 hee') b hb2 ((hn.new e x hee hx).2.2.1 b hb1).1
  ·rw[(hn.old e hee).2.2]at hb1;by_cases hee':τ.ev e'=none
   ·obtain⟨x',hx',_⟩:=h2;exact hφfp e (hon e h1 hee) b hb1 ((hn.new e' x' hee' hx').2.2.1 b hb2).1
   ·rw[(hn.old e' hee').2.2]at hb2;exact hR.apart e e' (hOnσ e (hon e h1 hee)) (hOnσ e' (hon e' h2 hee')) hne b hb1 hb2
 ·rw[hn.β]at hm;by_cases hee:τ.ev e=none
  ·obtain⟨x,hx,_⟩:=he;exact hβfp k hk ((hn.new e x hee hx).2.2.1 _ hm).1
  ·rw[(hn.old e hee).2.2]at hm;exact hR.ebx e k (hOnσ e (hon e he hee)) (hbne k hk) hm
theorem qkp {o:Oper}{σ τ:St}{x:Operand}{asx:Array Operand}{ts:Array TypeId}{f:FuncId}{cvs:List V}{d:Nat}{ds:List (Bool×D)}{res:List D}{ps:List (Nat×Nat×Nat)}(ho:o.op=.call ⟨.value x,asx,ts⟩)(hd:o.dst=some d)
  (h:GC P f ds res) (hc:za0 (σ.get P 0 x)=some (f,cvs)) (hK:Kept σ τ) (hv:gvA σ (λu=>∀s∈u,τ.ev s.1=none) [] ps (σ.gets P asx ts++cvs) ds) (hf:zi6 d 0 (zbi res) τ.ev):zak P o σ (τ.callF d res):=by
 intro n0 N g a w hR hn hdN
 obtain⟨vs,h1,h2⟩:=zdw hR ho hc h.1
 unfold Oper.wp
 rw[h1]
 obtain⟨B,hB⟩:=hR.fam
 obtain⟨s,k1,k2,k3,k4⟩:=zhf hR hB hv h2
 rw[Ko]at k1 k4
 have hsp:s.Pairwise okP:=by
  have:=(Ye.1 (k4 List.Pairwise.nil));exact this.imp λh=>h.symm
 have hnd:=zf4 hR hB k3 hsp
 have hfp:∀b∈bks B s,∃e,σ.On e/\τ.ev e=none/\b∈g.φ e:=λb hb=>by
  obtain⟨x,hx,hm⟩:=J2.1 hb;exact⟨x.1,k3 x hx,k1 x (List.mem_reverse.2 hx),hB.sub x.1 x.2 b (k3 x hx) hm⟩
 obtain⟨tp,k2⟩:=k2 (bks B s) λb hb=>by obtain⟨e,h1,_,h3⟩:=hfp b hb;exact⟨e,h1,h3⟩
 refine(h.2 w vs (bks B s) tp k2 hnd).mono ?_
 rintro e w' ⟨us,fp',tp',rfl,o1,o2,o3,hbk⟩
 have o1':=zfn.of_g o1
 obtain⟨g',q1,q2,q3⟩:=New.cells (σ:=τ) (g:=g) (NB:=λb=>b∈bks B s\/w.heap.size<=b) (w':=w') d (zbi res) _ fp' 0 τ.ev g [] (New.refl _ _ _ _ hR.slc) (λe h1 h2=>absurd h1 h2) hf o1'.cells o2 (λb hb'=>⟨o3 b hb',by simp⟩)
 have hR':=hR.given hn hK hfp hbk q1
 have hBk:Bk n0 w w':=⟨hbk.os,hbk.tape,hbk.output,hbk.size,λk hk=>hbk.block k ⟨hn k hk,λhm=>by
  obtain⟨e,h1,_,h3⟩:=hfp k hm
  exact hR.etop e h1 k h3 hk⟩⟩
 refine⟨g',?_,hBk,q1.A0,q1.R0⟩
 have hp:=hR'.put (some d) (x:=zn7 (qcx d 0 res)) (v:=zc4 us) (zfq (zp1 d 0 o1' (q3 _ _ rfl)) (zlh d res 0)) (λi hi=>by cases hi;exact hdN d hd)
 rw[hd]
 exact hp
def qav {α:Type}:List (Nat×α)->Nat->Prop
 | [],_=>True
 | p::l,i=>(i=p.1)=False/\qav l i
def zeu {α β:Type}(l:List (Nat×β)):List (Nat×α)->Prop
 | []=>True
 | p::la=>qav l p.1/\zeu l la
def okL (τ:St):List (Nat×V)->Prop
 | []=>True
 | p::l=>p.2.okU τ/\okL τ l
def okB (τ:St):List (Nat×List C)->Prop
 | []=>True
 | p::l=>qqx τ p.2/\okB τ l
def okE:List (Nat×Ev)->Prop
 | []=>True
 | p::l=>p.2.on=true/\p.2.deep=true/\okE l
def zw7 (el:List (Nat×Ev)):List Sr->Prop
 | []=>True
 | s::u=>qav el s.1/\zw7 el u
theorem znd {α:Type}:∀{l:List (Nat×α)}{i:Nat},qav l i->tbl l i=none
 | [],_,_=>rfl
 | (j,v)::l,i,h=>by unfold tbl;rw[if_neg (λe=>of_eq_false h.1 e),znd h.2]
theorem znu {el:List (Nat×Ev)}:∀{u:List Sr},zw7 el u->∀s∈u,tbl el s.1=none
 | [],_,s,hs=>by simp at hs
 | x::u,h,s,hs=>by
  rcases Qu.1 hs with rfl|hs
  ·exact znd h.1
  ·exact znu h.2 s hs
theorem zpd:∀{l:List (Nat×V)}{i:Nat},qav l i->zl5 l i=.one .any
 | [],_,_=>rfl
 | (j,v)::l,i,h=>by unfold zl5;rw[if_neg (λe=>of_eq_false h.1 e),zpd h.2]
theorem zqu {l:List (Nat×V)}:∀{la:List (Nat×V)},zeu l la->∀i,zl5 l i=.one .any\/zl5 l i=zl5 (la++l) i
 | [],_,i=>Or.inr rfl
 | (j,v)::la,h,i=>by
  by_cases hij:i=j
  ·subst hij;exact Or.inl (zpd h.1)
  ·rw[Ja];show _\/zl5 l i=if i=j then v else zl5 (la++l) i
   rw[if_neg hij];exact zqu h.2 i
theorem zmw {α:Type}{l:List (Nat×α)}:∀{la:List (Nat×α)},zeu l la->∀i x,tbl l i=some x->tbl (la++l) i=some x
 | [],_,i,x,hx=>hx
 | (j,v)::la,h,i,x,hx=>by
  by_cases hij:i=j
  ·subst hij;rw[znd h.1]at hx;cases hx
  ·rw[Ja];show(if i=j then some v else tbl (la++l) i)=some x
   rw[if_neg hij];exact zmw h.2 i x hx
theorem zwu {τ:St}:∀{l:List (Nat×V)},okL τ l->∀i,(zl5 l i).okU τ
 | [],_,_=>trivial
 | (j,v)::l,h,i=>by
  unfold zl5;split
  ·exact h.1
  ·exact zwu h.2 i
theorem zvp {τ:St}:∀{l:List (Nat×List C)},okB τ l->∀b cs,tbl l b=some cs->qqx τ cs
 | [],_,_,_,h=>by cases h
 | (j,v)::l,h,b,cs,hb=>by
  unfold tbl at hb;split at hb
  ·cases hb;exact h.1
  ·exact zvp h.2 b cs hb
theorem zwj:∀{l:List (Nat×Ev)},okE l->∀e x,tbl l e=some x->x.on=true/\x.deep=true
 | [],_,_,_,h=>by cases h
 | (j,v)::l,h,e,x,hb=>by
  unfold tbl at hb;split at hb
  ·cases hb;exact⟨h.1,h.2.1⟩
  ·exact zwj h.2.2 e x hb
section
variable {ks:List Fr}{Q:Exit->St->Prop}{σ:St}{ops:Array Oper}{os:List Oper}{ty:TypeId}{ps:String}{af:Array Edge}{d:Nat}{x:Operand}{asx:Array Operand}{ts:Array TypeId}{f:FuncId}{ds:List (Bool×D)}{res:List D}
theorem callG (la l:List (Nat×V))(ba bl:List (Nat×List C))(ea el:List (Nat×Ev))(pl:List (Nat×Nat×Nat))(h:GC P f ds res)
  (hw:wkL σ (hd (la++l) (ba++bl) (ea++el)) (la++l)/\wkB σ (hd (la++l) (ba++bl) (ea++el)) (ba++bl)/\wkE σ (ea++el))
  (hk:zeu l la/\zeu bl ba/\zeu el ea/\okL (hd l bl el) l/\okB (hd l bl el) bl/\okE el)
  (hp:zav (za0 ((hd (la++l) (ba++bl) (ea++el)).get P 0 x)) λp=>p.1=f/\gvA (hd (la++l) (ba++bl) (ea++el)) (zw7 el) [] pl ((hd (la++l) (ba++bl) (ea++el)).gets P asx ts++p.2) ds) (hf:zi6 d 0 (zbi res) (hd l bl el).ev)
  (k:exo P ops os ks Q ((hd l bl el).callF d res)):exo P ops (⟨some d,.call ⟨.value x,asx,ts⟩,ty,ps,af,none⟩::os) ks Q σ:=by
 obtain⟨⟨f',cvs⟩,h1,rfl,h2⟩:=zap hp
 obtain⟨k1,k2,k3,k4,k5,k6⟩:=hk
 refine zdo rfl rfl (zak.pre (zad hw) (qkp (P:=P) (o:=⟨some d,.call ⟨.value x,asx,ts⟩,ty,ps,af,none⟩) rfl rfl h h1 (τ:=hd l bl el) ⟨λi=>?_,λb cs hb=>⟨zmw k2 b cs hb,zvp k5 b cs hb⟩,λe x he=>⟨zmw k3 e x he,zwj k6 e x he⟩⟩ (zjt (λu hu=>znu hu) h2) hf)) k
 rcases zqu k1 i with h|h
 ·exact Or.inl h
 ·exact Or.inr ⟨h,zwu k4 i⟩
end
attribute [go_sem] gvT owU zig zuo qav zeu okL okB okE zw7 C.okU qqx okUt V.okU gvA gvK okS okQ rdV rdC rdCs
end
section
open Go.RowKit
variable {P:Program}
def qiu:Option (Nat×List (List C))->List (List C)
 | some p=>p.2
 | none=>[]
def blK (d:Nat):Option (Ev×List (Nat×Ev))->List (Nat×Ev)
 | some (x,cons)=>(d*32,x)::zrp cons
 | none=>[]
def apKs:Option (Prop×Nat×Ev×List (Nat×Ev))->List Ky
 | some (_,e,_,cons)=>(2,e)::cons.map (λp=>(2,p.1))
 | none=>[]
section
variable {ks:List Fr}{Q:Exit->St->Prop}{σ:St}{ops:Array Oper}{os:List Oper}{L:List (List Ky×List Ky)}{d:Nat}{t:TypeId}{ty:TypeId}{ps:String}{af:Array Edge}{len:Nat}{parts:Array (Nat×Operand)}{s y:Operand}
theorem zbj (h:zav (blD P σ t len parts) λr=>σ.ev (d*32)=none/\(r.2.map (·.1)).Nodup)
  (k:exd P ops os (L++[(zas (parts.toList.map (·.2))++(rK (qiu (zlb P (σ.get P) t len parts))++[(2,d*32)]),dK (some d)++eK (blK d (blD P σ t len parts)))]) ks Q ((σ.bl d (blD P σ t len parts)).put (some d) (.one (.ow (d*32) 0)))) :
  exd P ops (⟨some d,.buildSlice t len parts,ty,ps,af,none⟩::os) L ks Q σ:=by
 obtain⟨⟨x,cons⟩,h1,h2,h3⟩:=zap h
 rw[h1]at k
 unfold blD at h1
 obtain⟨p,e1,h1⟩:=Qf.1 h1
 obtain⟨q,e2,h1⟩:=Q5.1 h1
 simp only[Qt]at h1
 obtain⟨rfl,rfl⟩:=h1
 rw[e1]at k
 exact qsn ⟨e1,e2,h2,h3⟩ k
theorem zg5 (dp2:Bool)(h:zav (apV P σ d t s y dp2) λr=>r.1)(k:exd P ops os (L++[(zas [s,y]++apKs (apV P σ d t s y dp2),dK (some d)++apKs (apV P σ d t s y dp2))]) ks Q (σ.apV d (apV P σ d t s y dp2))) :
  exd P ops (⟨some d,.call ⟨.builtin .append,#[s,y],#[t,t]⟩,ty,ps,af,none⟩::os) L ks Q σ:=by
 obtain⟨⟨p,e,x,cons⟩,h1,h2⟩:=zap h
 rw[h1]at k
 unfold Go.Proofs.YtnemmlahbbbobaaGreat.apV at h1
 split at h1
 ·rename_i e0 gn e2 gn2 hs hy;obtain⟨x0,k1,h3⟩:=Qf.1 h1;obtain⟨z,k2,h4⟩:=Qf.1 h3;clear h1 h3;by_cases hc:x0.gen=gn/\x0.on=true/\z.gen=gn2/\z.on=true/\z.sz=x0.sz/\e2≠e0
  ·rw[if_pos hc]at h4;obtain⟨rfl,c2,rfl,c4,c5,c6⟩:=hc;simp only[Qe,Qt]at h4;obtain⟨rfl,rfl,rfl,rfl⟩:=h4;obtain⟨dp,sz,rows,gn,on⟩:=x0;obtain⟨dp2,sz2,rows2,gn2,on2⟩:=z;simp only at c2 c4 c5;subst c2 c4 c5;exact dApOO ⟨hs,qak hy,k1,k2,c6,rfl⟩ h2.1 h2.2 k
  ·rw[if_neg hc]at h4;cases h4
 ·rename_i e0 gn sz rows2 hs hy;obtain⟨x0,k1,h4⟩:=Qf.1 h1;clear h1;by_cases hc:x0.gen=gn/\x0.on=true/\sz=x0.sz
  ·rw[if_pos hc]at h4;obtain⟨rfl,c2,rfl⟩:=hc;simp only[Qe,Qt]at h4;obtain⟨rfl,rfl,rfl,rfl⟩:=h4;obtain⟨dp,sz,rows,gn,on⟩:=x0;simp only at c2;subst c2;exact dApOT dp2 ⟨hs,hy,k1⟩ (λhd=>zij (h2.2.2 hd)) h2.1 h2.2.1 k
  ·rw[if_neg hc]at h4;cases h4
 ·rename_i z0 e2 gn2 hs hy;obtain⟨z,k2,h4⟩:=Qf.1 h1;clear h1;by_cases hc:z.gen=gn2/\z.on=true/\e2≠d*32
  ·rw[if_pos hc]at h4;obtain⟨rfl,c2,c3⟩:=hc;simp only[Qe,Qt]at h4;obtain⟨rfl,rfl,rfl,rfl⟩:=h4;obtain⟨dp2,sz2,rows2,gn2,on2⟩:=z;simp only at c2;subst c2;exact dApNO ⟨hs,qak hy,h2.2.2,k2,c3⟩ h2.1 h2.2.1 k
  ·rw[if_neg hc]at h4;cases h4
 ·rename_i z0 sz rows2 hs hy;simp only[Qe,Qt]at h1;obtain⟨rfl,rfl,rfl,rfl⟩:=h1;exact dApNT dp2 ⟨hs,hy,h2.2.2.2⟩ (λhd=>zij (h2.2.2.1 hd)) h2.1 h2.2.1 k
 ·cases h1
end
attribute [go_sem] qiu blK apKs
end
section
open Go.RowKit
variable {P:Program}
def PX (P:Program)(rs:List ResultVar)(res:List D)(σ:St):Prop:=∃pl,zav (zb5 P σ rs) λvs=>gvA σ (λ_=>True) [] pl vs (res.map λd=>(true,d))
def PS (P:Program)(rs:List ResultVar)(res:List D)(e:Exit)(σ:St):Prop:=match e with
 | .normal=>PF P rs res .normal σ\/PX P rs res σ
 | .ret=>PF P rs res .ret σ\/PX P rs res σ
 | _=>False
theorem zku {w:World}{A:Nat->Prop}:∀{res:List D}{vs:List Value}{fp tp:List Nat},za5 w A (res.map λd=>(true,d)) vs fp tp->GDs w res vs fp tp
 | [],_,_,_,h=>h
 | d::ds,_,_,_,h=>by
  obtain⟨v,vs',f1,f2,t1,t2,rfl,rfl,rfl,h1,h2⟩:=h;exact⟨v,vs',f1,f2,t1,t2,rfl,rfl,rfl,h1,zku h2⟩
theorem px_own {n0:Nat->Prop}{N:Nat}{σ:St}{g:Gh}{a:Act}{w:World}(hR:Rel n0 N σ g a w){vs:List V}{res:List D}{pl:List (Nat×Nat×Nat)}(h:gvA σ (λ_=>True) [] pl vs (res.map λd=>(true,d))){us:List Value}(hv:VRl σ g w vs us) :
  ∃fp tp,GDs w res us fp tp/\fp.Nodup/\∀b∈fp,∃e,σ.On e/\b∈g.φ e:=by
 obtain⟨B,hB⟩:=hR.fam
 obtain⟨s,k1,k2,k3,k4⟩:=zhf hR hB h hv
 rw[Ko]at k4
 have hsp:s.Pairwise okP:=(Ye.1 (k4 List.Pairwise.nil)).imp λh=>h.symm
 obtain⟨tp,k2⟩:=k2 [] (by simp)
 refine⟨_,tp,zku k2,zf4 hR hB k3 hsp,λb hb=>?_⟩
 obtain⟨x,hx,hm⟩:=J2.1 hb
 exact⟨x.1,k3 x hx,hB.sub x.1 x.2 b (k3 x hx) hm⟩
theorem qqr {f:FuncId}{fn:Func}{c:Code}{args:List (Bool×D)}{res:List D}(hc:zbl P f)(hf:P.funcs[f]?=some fn)(hb:fn.body=some c)(hd:zdf fn.ntmps c=true)(hN:args.length<=fn.ntmps)(hs:zcj args)
  (h:∀(w:World) (vs:List Value) (fp tp:List Nat),za5 w (λb=>b<w.heap.size/\b∉fp) args vs fp tp->∀(g:Gh) (a:Act),Rel (λb=>b<w.heap.size/\b∉fp) fn.ntmps (zeq args) g a w->(a.tmps=(⟨vs⟩:Array Value)++Array.replicate (fn.ntmps-vs.length) undef/\(g.A0,g.R0)=((λ_=>True),RP.of λb=>b∈fp\/w.heap.size<=b)) →
   ∃σ0,ex P c [] (PS P fn.results.toList res) σ0/\Rel (λb=>b<w.heap.size/\b∉fp) fn.ntmps σ0 g a w):GC P f args res:=by
 refine⟨hc,λw vs fp tp hv hn=>?_⟩
 refine calls_of_wp hf hb ?_
 have hv':za5 w (λb=>b<w.heap.size/\True/\b∉fp) args vs fp tp:=za5.keepA (λb hb=>⟨hb.1,trivial,hb.2⟩) hv
 obtain⟨g,hg,hR⟩:=Rel.start (A0:=λ_=>True) (R0:=RP.of λb=>b∈fp\/w.heap.size<=b) (N:=fn.ntmps) hv' hn hs hN (λ_ _=>trivial) (λb hb=>⟨trivial,Or.inl hb⟩) (λb hb=>⟨trivial,by
  by_cases hlt:b<w.heap.size
  ·exact Or.inl (Classical.byContradiction λh=>hb ⟨hlt,h⟩)
  ·exact Or.inr Y0⟩)
 obtain⟨σ0,hex,hR0⟩:=h w vs fp tp hv g _ hR ⟨rfl,hg⟩
 refine wp_mono (zb0 (w0:=w) c σ0 _ hd hex g _ w hR0 (λk hk=>hk.1) (Bk.refl _ _) hg) λe a' w' hq=>?_
 obtain⟨σ',g',h1,h2,h3,h4,h5⟩:=hq
 have fin:∀{us:List Value} {v:Value},(results fn a'.tmps).run P w'=.ok v w'->v=zc4 us->(∃fp' tp',GDs w' res us fp' tp'/\fp'.Nodup/\∀b∈fp',∃e,σ'.On e/\b∈g'.φ e)->∃v,(results fn a'.tmps).run P w'=.ok v w'/\∃us fp' tp',Ending.returned v=.returned (zc4 us)/\GDs w' res us fp' tp'/\fp'.Nodup/\(∀b∈fp',b∈fp\/w.heap.size<=b)/\Bk (λk=>k<w.heap.size/\k∉fp) w w':=fun {us v} r1 rv ⟨fp',tp',o1,o2,o3⟩=>by
  refine⟨_,r1,us,fp',tp',by rw[rv],o1,o2,λb hb=>?_,h4⟩;obtain⟨e,l,m⟩:=o3 b hb;have:=(h2.ebase e l b m).2;rw[(K7 h5).2]at this;exact this
 have key:(zav (zb5 P σ' fn.results.toList) (λvs=>qgg σ' [] vs res)\/PX P fn.results.toList res σ')->∃v,(results fn a'.tmps).run P w'=.ok v w'/\∃us fp' tp',Ending.returned v=.returned (zc4 us)/\GDs w' res us fp' tp'/\fp'.Nodup/\(∀b∈fp',b∈fp\/w.heap.size<=b)/\Bk (λk=>k<w.heap.size/\k∉fp) w w':=λhk=>by
  rcases hk with hk|⟨pl,hk⟩
  ·obtain⟨vs,hvs,hk⟩:=zap hk;obtain⟨us,r1,r2⟩:=zcg h2 fn hvs;obtain⟨used,fp',tp',o1,o2⟩:=zfy h2 hk r2;exact fin r1 rfl ⟨fp',tp',o1,o2.1,λb hb=>by obtain⟨e,_,_,l,m⟩:=o2.2.1 b hb;exact⟨e,l,m⟩⟩
  ·obtain⟨vs,hvs,hk⟩:=zap hk;obtain⟨us,r1,r2⟩:=zcg h2 fn hvs;exact fin r1 rfl (px_own h2 hk r2)
 cases e with
 | normal=>exact⟨h2.defers,key h1⟩
 | ret=>exact⟨h2.defers,key h1⟩
 | exit _=>exact h1.elim
 | goto _=>exact h1.elim
 | panic _=>exact h1.elim
 | outgrown=>exact h1.elim
theorem qm9 (p:Prop):(p\/True)=True:=by simp
theorem qpr (p:Prop):(True\/p)=True:=by simp
theorem qgt {α:Type}(x:α)(xs:List α)(d:α):(x::xs).getD 0 d=x:=rfl
theorem qqb {α:Type}(x y:α)(xs:List α)(d:α):(x::y::xs).getD 1 d=y:=rfl
attribute [go_sem] qgt qqb
attribute [go_sem] Bool.false_and Bool.and_false Bool.and_self
attribute [go_sem] PS qm9 qpr
section
variable (A B:List (List T))(r:List T)
theorem ql5 {k:Nat}(h:A.length=k):(A++r::B).getD k []=r:=by subst h;simp
theorem qte {k:Nat}(h:A.length=k):(A++r::B)[k]?=some r:=by subst h;simp
theorem qlg {k:Nat}(h:A.length=k)(o:Nat)(ts:List T):zep (A++r::B) k o ts=A++setR r o ts::B:=by subst h;simp[zep]
theorem zwy {k:Nat}(h:A.length=k)(j:Nat)(t:T):zpv (A++r::B) k j t=A++r.set j t::B:=by subst h;simp[zpv]
end
theorem qbb (vs:Nat->Nat->Value)(i:Nat)(r:List T)(rs:List (List T)):zfw vs i (r::rs)=qll (vs i) 0 r::zfw vs (i+1) rs:=rfl
theorem qgc (us:Nat->Value)(j:Nat)(c:T)(cs:List T):qll us j (c::cs)=qtx (us j) c::qll us (j+1) cs:=rfl
theorem qp6 (us:Nat->Value)(j:Nat):qll us j []=[]:=rfl
theorem qs2 (v:Value)(sz:Nat)(rows:List (List T)):qtx v (.sl sz rows)=.pin v (.sl sz rows):=rfl
theorem qog (v:Value)(k:IntKind)(n:Int):qtx v (.int k n)=.int k n:=rfl
theorem qo1 (v:Value)(s:List UInt8):qtx v (.str s)=.str s:=rfl
theorem qip (vs:Nat->Nat->Value)(i:Nat):zfw vs i []=[]:=rfl
theorem zxa (n m:Nat):(n<n+(m+1))=True:=by simp
attribute [go_sem] PI zxa qip qbb qgc qp6 qs2 qog qo1 zjn List.length_append qte ql5 qlg zwy
theorem qsl (n:Nat):((n:Int)<0)=False:=by simp
attribute [go_sem] qsl List.set_cons_succ List.set_cons_zero
end
section
open Go.RowKit
variable {P:Program}
def D.toN:D->V
 | .one t=>.one t.toN
 | .agg ts=>.agg (ts.map T.toN)
def zkm:Nat->List D->Nat->V
 | _,[]=>λ_=>.one .any
 | k,d::ds=>upd (zkm (k+1) ds) k d.toN
def zqn (args:List D):St:=⟨zkm 0 args,λ_=>none,λ_=>none⟩
theorem zt1:∀(ds:List D)(k i:Nat),zkm k ds (k+i)=match ds[i]? with|some d=>d.toN|none=>.one .any
 | [],k,i=>by simp[zkm]
 | d::ds,k,0=>by simp[zkm,upd]
 | d::ds,k,i+1=>by
  unfold zkm;rw[zan _ _ Y0,show k+(i+1)=k+1+i by omega,zt1 ds (k+1) i];simp
theorem qrk {σ:St}{g:Gh}{w:World}{A:Nat->Prop}(hA:∀b,A b->zch σ g w b){x:T}{v:Value}(h:zau w A x v):CR σ g w x.toN v:=by
 cases x<;>first|exact zau.keep (λ_ _=>rfl) (λb hb=>(hA b hb).1) _ v h|exact zau.keep (λ_ _=>rfl) hA _ v h
theorem qji {σ:St}{g:Gh}{w:World}{A:Nat->Prop}(hA:∀b,A b->zch σ g w b):∀{ts:List T}{vs:List Value},zag w A ts vs->CRs σ g w (ts.map T.toN) vs
 | [],vs,h=>by unfold zag at h;exact h
 | t::ts,vs,h=>by
  unfold zag at h;obtain⟨v,vs',rfl,h1,h2⟩:=h;exact⟨v,vs',rfl,qrk hA h1,qji hA h2⟩
theorem zsw {σ:St}{g:Gh}{w:World}{A:Nat->Prop}(hA:∀b,A b->zch σ g w b){d:D}{v:Value}(h:zsb w A d v):VR σ g w d.toN v:=by
 cases d with
 | one t=>exact qrk hA h
 | agg ts=>obtain⟨a,h0,h1⟩:=h;exact⟨a,h0,qji hA h1⟩
theorem zbn.at {w:World}{A:Nat->Prop}:∀{ds:List D}{vs:List Value},zbn w A ds vs->∀(i:Nat) d,ds[i]?=some d->∃v,vs[i]?=some v/\zsb w A d v
 | [],_,_,i,d,h=>by simp at h
 | d0::ds,vs,h,0,d,hi=>by
  obtain⟨v,vs',rfl,h1,h2⟩:=h;simp only[List.getElem?_cons_zero,Qe]at hi;subst hi;exact⟨v,rfl,h1⟩
 | d0::ds,vs,h,i+1,d,hi=>by
  obtain⟨v,vs',rfl,h1,h2⟩:=h;simpa using zbn.at h2 i d (by simpa using hi)
theorem zfr {w:World}{A:Nat->Prop}:∀{ds:List D}{vs:List Value}{fp tp:List Nat},za5 w A (rd ds) vs fp tp->zbn w A ds vs/\fp=[]/\tp=[]
 | [],_,_,_,h=>⟨h.1,h.2.1,h.2.2⟩
 | d::ds,_,_,_,h=>by
  obtain⟨v,vs',rfl,h1,h2⟩:=h;obtain⟨k1,k2,k3⟩:=zfr h2;exact⟨⟨v,vs',rfl,h1,k1⟩,k2,k3⟩
theorem qh7 {args:List D}{w:World}{vs:List Value}{N:Nat}{g:Gh}{a:Act}(hr:zbn w (λb=>b<w.heap.size/\b∉([]:List Nat)) args vs)(hR:Rel (λb=>b<w.heap.size/\b∉([]:List Nat)) N (zeq (rd args)) g a w)
  (hg:a.tmps=(⟨vs⟩:Array Value)++Array.replicate (N-vs.length) undef/\(g.A0,g.R0)=((λ_=>True),RP.of λb=>b∈([]:List Nat)\/w.heap.size<=b)):Rel (λb=>b<w.heap.size/\b∉([]:List Nat)) N (zqn args) g a w:=by
 have hbx:∀(ds:List D) (k:Nat),zim k (rd ds)=λ_=>none:=λds=>by
  induction ds with
  | nil=>intro k;rfl
  | cons d ds ih=>intro k;exact ih (k+1)
 have hG:∀b,(b<w.heap.size/\b∉([]:List Nat))->zch (zqn args) g w b:=λb hb=>by
  refine⟨⟨λk hk=>absurd rfl hk,λe x he _=>(by cases he),hb.1,by rw[(K7 hg.2).1];trivial⟩,?_⟩;rintro e ⟨x,hx,_⟩;cases hx
 refine hR.slots_of (σ':=zqn args) rfl ?_ hR.defers hR.size λi=>?_
 ·show(λ_=>none)=zim 0 (rd args)
  rw[hbx]
 ·have hm:Mv (zqn args) (zqn args) g g w w:=Mv.of_eq g w rfl rfl;show VR (zeq (rd args)) g w (zkm 0 args i) _
  have hi:=zt1 args 0 i;rw[Q7]at hi;rw[hi];cases hd:args[i]? with
  | none=>trivial
  | some d =>
   obtain⟨v,hv1,hv2⟩:=zbn.at hr i d hd;have hlt:i<vs.length:=(List.getElem?_eq_some_iff.1 hv1).1;have e:a.tmps.getD i (g.R0.ξ i)=v:=by
    rw[hg.1];rw[Array.getD_eq_getD_getElem?,Array.getElem?_append_left (by simpa using hlt)];simp[hv1]
   rw[e];have hx:=zsw hG hv2;exact(Mv.of_eq (σ:=zqn args) (σ':=zeq (rd args)) g w rfl (by show zim 0 (rd args)=λ_=>none;rw[hbx])).vr hx
theorem zgr {f:FuncId}{fn:Func}{c:Code}{args res:List D}(hc:zbl P f)(hf:P.funcs[f]?=some fn)(hb:fn.body=some c)(hd:zdf fn.ntmps c=true)(hN:(rd args).length<=fn.ntmps)
  (h:ex P c [] (PS P fn.results.toList res) (zqn args)):FC P f args res:=by
 refine qqr hc hf hb hd hN (zc7 args) λw vs fp tp hv g a hR hg=>?_
 obtain⟨hr,rfl,rfl⟩:=zfr hv
 exact⟨zqn args,h,qh7 hr hR hg⟩
attribute [go_sem] zqn zkm D.toN T.toN
end
section
open Go.RowKit
variable {P:Program}
theorem Rel.turn {n0 n1 A1:Nat->Prop}{N:Nat}{σ:St}{g:Gh}{a:Act}{w w':World}(h:Rel n0 N σ g a w)(hF:∀b,Fix σ g w b->A1 b/\w'.heap[b]?=w.heap[b]?)(hz:w.heap.size<=w'.heap.size)
  (hn:∀b,¬n1 b->A1 b/\g.R0 b) (hb:∀k,σ.bx k≠none->¬n1 (g.β k)/\w'.heap[g.β k]?=w.heap[g.β k]?) (he:∀e,σ.On e->∀b∈g.φ e,¬n1 b/\A1 b/\w'.heap[b]?=w.heap[b]?):Rel n1 N σ { g with A0:=A1 } a w':=by
 have m:Mv σ σ g { g with A0:=A1 } w w':=⟨λb hf=>(hF b hf).2,λb hf=>⟨hf.1,hf.2.1,Jp hf.2.2.1 hz,(hF b hf).1⟩,λb hbb=>⟨rfl,hbb⟩,λe n hh=>⟨hh,rfl⟩,λb hb=>hb.2⟩
 refine⟨h.defers,h.size,hn,λi=>m.vr (h.slots i),λb cs hbb=>?_,λb hbb=>(hb b hbb).1,h.inj,λe x hx ho=>m.evr (h.evs e x hx ho) λb hm=>(he e ⟨x,hx,ho⟩ b hm).2.2,λe x hx ho=>⟨m.rep (h.offs e x hx ho).1,(h.offs e x hx ho).2⟩,h.slc,λe ho b hm=>⟨(he e ho b hm).2.1,(h.ebase e ho b hm).2⟩,λe ho b hm=>(he e ho b hm).1,h.nodup,h.apart,h.ebx⟩
 obtain⟨vs,ty,k1,k2⟩:=h.boxes b cs hbb
 exact⟨vs,ty,by rw[(hb b (by rw[hbb];simp)).2];exact k1,m.crs k2⟩
theorem Rel.elt {n0:Nat->Prop}{N:Nat}{σ:St}{g:Gh}{a:Act}{w:World}(h:Rel n0 N σ g a w){e:Nat}(ho:σ.On e){b:Nat}(hm:b∈g.φ e):b<w.heap.size:=by
 obtain⟨x,hx,hon⟩:=ho
 exact(h.evs e x hx hon).lt b hm
theorem Rel.leave {n0 n1 A1:Nat->Prop}{N:Nat}{σ:St}{g:Gh}{a:Act}{w:World}(h:Rel n1 N σ g a w)(hn:∀b,n0 b->n1 b)(hA:∀b,g.A0 b->A1 b)(hnew:∀b,¬n0 b->A1 b/\g.R0 b):Rel n0 N σ { g with A0:=A1 } a w :=
 h.turn (λb hf=>⟨hA b hf.2.2.2,rfl⟩) (Qz _) hnew (λk hk=>⟨λk1=>h.base k hk (hn _ k1),rfl⟩) (λe ho b hm=>⟨λk1=>h.etop e ho b hm (hn _ k1),hA b (h.ebase e ho b hm).1,rfl⟩)
end
section
open Go.RowKit
variable {P:Program}
theorem owK_rn (t:T)(A B:Prop):owK (.one (.rn t)) A B=B:=by simp[owK,isOw]
attribute [go_sem] owK_rn
end
section
open Go.RowKit
variable {P:Program}
def swp (a b e:Nat):Nat:=if e=a then b else if e=b then a else e
theorem zes (a b e:Nat):swp a b (swp a b e)=e:=by unfold swp;split<;>(try split)<;>(try split)<;>omega
def C.ren (a b:Nat):C->C
 | .ow e g=>.ow (swp a b e) g
 | .eo e g sz i o=>.eo (swp a b e) g sz i o
 | c=>c
def V.ren (a b:Nat):V->V
 | .one c=>.one (c.ren a b)
 | .agg cs=>.agg (cs.map (C.ren a b))
 | .tup xs=>.tup (xs.map λx=>(x.1,x.2.map (C.ren a b)))
def St.ren (σ:St)(a b:Nat):St:=⟨λi=>(σ.sl i).ren a b,λk=>(σ.bx k).map (·.map (C.ren a b)),λe=>σ.ev (swp a b e)⟩
def Gh.ren (g:Gh)(a b:Nat):Gh:={ g with ψ:=λe=>g.ψ (swp a b e),φ:=λe=>g.φ (swp a b e) }
theorem zkt {σ:St}{a b k:Nat}:(σ.ren a b).bx k≠none↔σ.bx k≠none:=by unfold St.ren;simp
theorem qiz {σ:St}{a b e n:Nat}(h:σ.has e n):(σ.ren a b).has (swp a b e) n:=by
 obtain⟨x,h1,h2⟩:=h
 exact⟨x,by show σ.ev (swp a b (swp a b e))=_;rw[zes];exact h1,h2⟩
theorem zu6 {σ:St}{g:Gh}{w:World}{a b:Nat}:Fix (σ.ren a b) (g.ren a b) w=Fix σ g w:=by
 funext q
 refine propext ⟨λh=>⟨λk hk=>h.1 k (zkt.2 hk),λe x he ho=>?_,h.2.2⟩,λh=>⟨λk hk=>h.1 k (zkt.1 hk),λe x he ho=>h.2.1 (swp a b e) x he ho,h.2.2⟩⟩
 have:=h.2.1 (swp a b e) x (by show σ.ev (swp a b (swp a b e))=_;rw[zes];exact he) ho
 have e2:(g.ren a b).φ (swp a b e)=g.φ e:=by show g.φ (swp a b (swp a b e))=_;rw[zes]
 rwa [e2]at this
theorem qeq {σ:St}{g:Gh}{w:World}{a b:Nat}:zch (σ.ren a b) (g.ren a b) w=zch σ g w:=by
 funext q
 unfold zch
 rw[zu6]
 refine propext ⟨λh=>⟨h.1,λe ho hm=>h.2 (swp a b e) ?_ ?_⟩,λh=>⟨h.1,λe ho hm=>h.2 (swp a b e) ho hm⟩⟩
 ·show σ.On (swp a b (swp a b e));rw[zes];exact ho
 ·show q∈g.φ (swp a b (swp a b e));rw[zes];exact hm
theorem qdi {σ:St}{g:Gh}{w:World}{a b:Nat}{c:C}{v:Value}(h:CR σ g w c v):CR (σ.ren a b) (g.ren a b) w (c.ren a b) v:=by
 have hF:=zu6 (σ:=σ) (g:=g) (w:=w) (a:=a) (b:=b)
 have hψ:∀e,(g.ren a b).ψ (swp a b e)=g.ψ e:=λe=>by show g.ψ (swp a b (swp a b e))=_;rw[zes]
 cases c with
 | t x=>show zau _ _ _ _;rw[hF];exact h
 | nl s=>exact h
 | ow e n=>exact⟨by show v=(g.ren a b).ψ (swp a b e) n;rw[hψ];exact h.1,qiz h.2⟩
 | bx q o=>exact⟨h.1,zkt.2 h.2⟩
 | el cs o=>obtain⟨q,r,h1,h2,h3⟩:=h;exact⟨q,r,h1,by rw[hF];exact h2,by rw[hF];exact h3⟩
 | eo e s sz i o=>obtain⟨q,n,c,h1,h2,h3,h4⟩:=h;exact⟨q,n,c,by rw[hψ];exact h1,h2,h3,qiz h4⟩
 | fn f caps=>exact⟨h.1,λq hq=>zkt.2 (h.2 q hq)⟩
 | cv u=>exact h
 | any=>trivial
 | rn x=>show zau _ _ _ _;rw[qeq];exact h
 | er cs o=>obtain⟨q,r,h1,h2,h3⟩:=h;exact⟨q,r,h1,by rw[qeq];exact h2,by rw[qeq];exact h3⟩
theorem zql {σ:St}{g:Gh}{w:World}{a b:Nat}:∀{cs:List C}{vs:List Value},CRs σ g w cs vs->CRs (σ.ren a b) (g.ren a b) w (cs.map (C.ren a b)) vs
 | [],_,h=>h
 | c::cs,_,h=>by obtain⟨v,vs',rfl,h1,h2⟩:=h;exact⟨v,vs',rfl,qdi h1,zql h2⟩
theorem qd8 {σ:St}{g:Gh}{w:World}{a b:Nat}:∀{xs:List (Bool×List C)}{vs:List Value},CRt σ g w xs vs->CRt (σ.ren a b) (g.ren a b) w (xs.map λx=>(x.1,x.2.map (C.ren a b))) vs
 | [],_,h=>h
 | x::xs,_,h=>by
  obtain⟨v,vs',rfl,h1,h2⟩:=h;refine⟨v,vs',rfl,?_,qd8 h2⟩;unfold CRx at h1⊢;split at h1
  ·rw[if_pos ‹_›];obtain⟨q,h3,h4⟩:=h1;exact⟨q,h3,zql h4⟩
  ·rw[if_neg ‹_›];obtain⟨c,h3,h4⟩:=h1;exact⟨c.ren a b,by simp[h3],qdi h4⟩
theorem vr_ren {σ:St}{g:Gh}{w:World}{a b:Nat}{x:V}{v:Value}(h:VR σ g w x v):VR (σ.ren a b) (g.ren a b) w (x.ren a b) v:=by
 cases x with
 | one c=>exact qdi h
 | agg cs=>obtain⟨q,h1,h2⟩:=h;exact⟨q,h1,zql h2⟩
 | tup xs=>obtain⟨q,h1,h2⟩:=h;exact⟨q,h1,qd8 h2⟩
theorem zpq {σ:St}{a b e:Nat}(h:(σ.ren a b).On e):σ.On (swp a b e):=h
theorem Rel.ren {n0:Nat->Prop}{N:Nat}{σ:St}{g:Gh}{ac:Act}{w:World}(h:Rel n0 N σ g ac w)(a b:Nat):Rel n0 N (σ.ren a b) (g.ren a b) ac w:=by
 have hF:=zu6 (σ:=σ) (g:=g) (w:=w) (a:=a) (b:=b)
 refine⟨h.defers,h.size,h.anew,λi=>vr_ren (h.slots i),λk cs hk=>?_,λk hk=>h.base k (zkt.1 hk),λk k' h1 h2=>h.inj k k' (zkt.1 h1) (zkt.1 h2),λe x he ho=>?_,λe x he ho=>?_,λe n=>h.slc (swp a b e) n,λe he=>h.ebase _ (zpq he),λe he=>h.etop _ (zpq he),λe he=>h.nodup _ (zpq he),λe e' he he' hne=>h.apart _ _ (zpq he) (zpq he') (λk=>hne (by rw[<-zes a b e,k,zes])),λe k he hk=>h.ebx _ k (zpq he) (zkt.1 hk)⟩
 ·obtain⟨cs0,h1,rfl⟩:=Q5.1 hk;obtain⟨vs,ty,k1,k2⟩:=h.boxes k cs0 h1;exact⟨vs,ty,k1,zql k2⟩
 ·rw[hF];exact h.evs (swp a b e) x he ho
 ·rw[hF];exact h.offs (swp a b e) x he ho
theorem zzg (a b:Nat):∀(l:List (Nat×V))(i:Nat),(zl5 l i).ren a b=zl5 (l.map λp=>(p.1,p.2.ren a b)) i
 | [],i=>rfl
 | (j,v)::l,i=>by
  simp only[Qc,zl5];split
  ·rfl
  ·exact zzg a b l i
theorem qjo {α β:Type}(f:α->β):∀(l:List (Nat×α))(i:Nat),(tbl l i).map f=tbl (l.map λp=>(p.1,f p.2)) i
 | [],i=>rfl
 | (j,v)::l,i=>by
  simp only[Qc,tbl];split
  ·rfl
  ·exact qjo f l i
theorem qht {α:Type}(a b:Nat):∀(l:List (Nat×α))(i:Nat),tbl l (swp a b i)=tbl (l.map λp=>(swp a b p.1,p.2)) i
 | [],i=>rfl
 | (j,v)::l,i=>by
  simp only[Qc,tbl];by_cases h:swp a b i=j
  ·rw[if_pos h,if_pos (by rw[<-h,zes])]
  ·rw[if_neg h,if_neg (λe=>h (by rw[e,zes]))];exact qht a b l i
theorem zi1 (a b:Nat)(l:List (Nat×V))(bl:List (Nat×List C))(el:List (Nat×Ev)):Wk (hd l bl el) (hd (l.map λp=>(p.1,p.2.ren a b)) (bl.map λp=>(p.1,p.2.map (C.ren a b))) (el.map λp=>(swp a b p.1,p.2))):=λn0 N g ac w hR=>by
 have e:(hd l bl el).ren a b=hd (l.map λp=>(p.1,p.2.ren a b)) (bl.map λp=>(p.1,p.2.map (C.ren a b))) (el.map λp=>(swp a b p.1,p.2)):=by
  unfold hd St.ren;simp only[St.mk.injEq];exact⟨funext λi=>zzg a b l i,funext λk=>qjo _ bl k,funext λe=>qht a b el e⟩
 exact⟨g.ren a b,e▸hR.ren a b,rfl,rfl⟩
end
section
open Go.RowKit
variable {P:Program}
def C.evs:C->List Nat
 | .ow e _=>[e]
 | .eo e _ _ _ _=>[e]
 | _=>[]
def C.bxs:C->List Nat
 | .bx b _=>[b]
 | .fn _ caps=>caps
 | _=>[]
def V.alls:V->List C
 | .one c=>[c]
 | .agg cs=>cs
 | .tup xs=>xs.flatMap (·.2)
def ins (x:Nat):List Nat->List Nat
 | []=>[x]
 | y::l=>if x=y then y::l else y::ins x l
def zof:List Nat->List Nat->List Nat
 | [],l=>l
 | x::xs,l=>zof xs (ins x l)
def noK (x:Nat):List Nat->Bool
 | []=>true
 | y::l=>if x=y then false else noK x l
def dif (l:List Nat):List Nat->List Nat
 | []=>[]
 | x::xs=>if noK x l=true then x::dif l xs else dif l xs
def qm8:List C->List Nat
 | []=>[]
 | c::cs=>c.bxs++qm8 cs
def qnu:List C->List Nat
 | []=>[]
 | c::cs=>c.evs++qnu cs
def St.kb0 (σ:St):List Nat->List Nat
 | []=>[]
 | i::L=>zof (qm8 (σ.sl i).alls) (σ.kb0 L)
def St.kb1 (σ:St):List Nat->List Nat
 | []=>[]
 | b::B=>zof (b::qm8 ((σ.bx b).getD [])) (σ.kb1 B)
def St.KB (σ:St)(L:List Nat):List Nat:=σ.kb1 (σ.kb0 L)
def St.ke0 (σ:St):List Nat->List Nat
 | []=>[]
 | i::L=>zof (qnu (σ.sl i).alls) (σ.ke0 L)
def St.ke1 (σ:St)(l:List Nat):List Nat->List Nat
 | []=>l
 | b::B=>zof (qnu ((σ.bx b).getD [])) (σ.ke1 l B)
def St.KE (σ:St)(L:List Nat):List Nat:=σ.ke1 (σ.ke0 L) (σ.KB L)
def St.lL (σ:St)(L:List Nat):List (Nat×V):=L.map λi=>(i,σ.sl i)
def St.lB (σ:St)(B:List Nat):List (Nat×List C):=B.map λb=>(b,(σ.bx b).getD [])
def St.lE (σ:St)(E:List Nat):List (Nat×Ev):=E.map λe=>(e,(σ.ev e).getD ⟨false,0,[],0,false⟩)
def St.hL (σ:St)(L:List Nat):St:=hd (σ.lL L) (σ.lB (σ.KB L)) (σ.lE (σ.KE L))
def wkK (σ:St)(L:List Nat):Prop:=wkL σ (σ.hL L) (σ.lL L)/\wkB σ (σ.hL L) (σ.lB (σ.KB L))/\wkE σ (σ.lE (σ.KE L))
section
variable {ks:List Fr}{Q:Exit->St->Prop}{σ:St}{ops:Array Oper}{os:List Oper}{ty:TypeId}{ps:String}{af:Array Edge}{dst:Option Nat}{x:Operand}{asx:Array Operand}{ts:Array TypeId}{f:FuncId}
theorem zfl {pre:List D}{d:D}{post:List D}{d':D}{res:List D}(L:List Nat)(h:IC P f pre d post d' res)(hw:wkK σ L)
  (hd1:((σ.lL L).all λp=>p.2.mOk)=true) (hd2:((σ.lB (σ.KB L)).all λp=>p.2.all C.mOk)=true) (hd3:((σ.lE (σ.KE L)).all λp=>p.2.on&&p.2.deep)=true)
  (hp:zav (za0 ((σ.hL L).get P 0 x)) λp=>p.1=f/\spI ((σ.hL L).gets P asx ts++p.2) pre.length λp1 gv p2=>zv5 p1 pre/\zv5 p2 post/\inG (σ.hL L) gv d d') (hr:res.all D.fl=true)
  (k:exo P ops os ks Q ((σ.hL L).cI P x asx ts pre.length dst d' res)):exo P ops (⟨dst,.call ⟨.value x,asx,ts⟩,ty,ps,af,none⟩::os) ks Q σ :=
 zyd h hw hd1 hd2 hd3 hp hr k
theorem zem {d:Nat}{ds:List (Bool×D)}{res:List D}(L A:List Nat)(pl:List (Nat×Nat×Nat))(h:GC P f ds res)
  (hw:wkL σ (hd (σ.lL A++σ.lL L) (σ.lB (dif (σ.KB L) (σ.KB A))++σ.lB (σ.KB L)) (σ.lE (dif (σ.KE L) (σ.KE A))++σ.lE (σ.KE L))) (σ.lL A++σ.lL L)/\wkB σ (hd (σ.lL A++σ.lL L) (σ.lB (dif (σ.KB L) (σ.KB A))++σ.lB (σ.KB L)) (σ.lE (dif (σ.KE L) (σ.KE A))++σ.lE (σ.KE L))) (σ.lB (dif (σ.KB L) (σ.KB A))++σ.lB (σ.KB L))/\wkE σ (σ.lE (dif (σ.KE L) (σ.KE A))++σ.lE (σ.KE L)))
  (hk:zeu (σ.lL L) (σ.lL A)/\zeu (σ.lB (σ.KB L)) (σ.lB (dif (σ.KB L) (σ.KB A)))/\zeu (σ.lE (σ.KE L)) (σ.lE (dif (σ.KE L) (σ.KE A)))/\okL (σ.hL L) (σ.lL L)/\okB (σ.hL L) (σ.lB (σ.KB L))/\okE (σ.lE (σ.KE L)))
  (hp:zav (za0 ((hd (σ.lL A++σ.lL L) (σ.lB (dif (σ.KB L) (σ.KB A))++σ.lB (σ.KB L)) (σ.lE (dif (σ.KE L) (σ.KE A))++σ.lE (σ.KE L))).get P 0 x)) λp=>p.1=f/\gvA (hd (σ.lL A++σ.lL L) (σ.lB (dif (σ.KB L) (σ.KB A))++σ.lB (σ.KB L)) (σ.lE (dif (σ.KE L) (σ.KE A))++σ.lE (σ.KE L))) (zw7 (σ.lE (σ.KE L))) [] pl ((hd (σ.lL A++σ.lL L) (σ.lB (dif (σ.KB L) (σ.KB A))++σ.lB (σ.KB L)) (σ.lE (dif (σ.KE L) (σ.KE A))++σ.lE (σ.KE L))).gets P asx ts++p.2) ds)
  (hf:zi6 d 0 (zbi res) (σ.hL L).ev) (k:exo P ops os ks Q ((σ.hL L).callF d res)):exo P ops (⟨some d,.call ⟨.value x,asx,ts⟩,ty,ps,af,none⟩::os) ks Q σ :=
 callG (σ.lL A) (σ.lL L) _ _ _ _ pl h hw hk hp hf k
theorem quh {σ:St}{g:Gh}{w:World}{d:D}{v:Value}(h:zsb w (zch σ g w) d v):VR σ g w d.toN v:=zsw (λ_ h=>h) h
theorem zbn.vrlN {σ:St}{g:Gh}{w:World}:∀{ds:List D}{us:List Value},zbn w (zch σ g w) ds us->VRl σ g w (ds.map D.toN) us
 | [],us,h=>h
 | d::ds,us,h=>by
  obtain⟨u,us',rfl,h1,h2⟩:=h;exact⟨u,us',rfl,quh h1,zbn.vrlN h2⟩
theorem zfn.rep {w:World}{A:Nat->Prop}:∀{ds:List D}{us:List Value}{fp:List Nat},zfn w ds us fp->(∀b∈fp,A b)->zbn w A ds us
 | [],us,fp,h,_=>h.1
 | .one t::ds,us,fp,h,hA=>by
  obtain⟨v,vs',f1,f2,rfl,rfl,h1,h2⟩:=h;exact⟨v,vs',rfl,zba.rep t v f1 h1 λb hb=>hA b (by simp[hb]),zfn.rep h2 λb hb=>hA b (by simp[hb])⟩
 | .agg ts::ds,us,fp,h,hA=>by
  obtain⟨v,vs',f1,f2,rfl,rfl,⟨y,rfl,h1⟩,h2⟩:=h;exact⟨_,vs',rfl,⟨y,rfl,h1.rep λb hb=>hA b (by simp[hb])⟩,zfn.rep h2 λb hb=>hA b (by simp[hb])⟩
theorem zbc.lt {w:World}:∀{cs:List T}{vs:List Value}{fps:List Nat},zbc w cs vs fps->∀b∈fps,b<w.heap.size
 | [],_,_,h,b,hb=>by rw[h.2]at hb;simp at hb
 | c::cs,_,_,h,b,hb=>by
  obtain⟨v,vs',f1,f2,rfl,rfl,h1,h2⟩:=h;rcases Qw.1 hb with hb|hb
  ·exact zba.lt c v f1 h1 b hb
  ·exact zbc.lt h2 b hb
theorem zfn.ltD {w:World}:∀{ds:List D}{us:List Value}{fp:List Nat},zfn w ds us fp->∀b∈fp,b<w.heap.size
 | [],us,fp,h,b,hb=>by rw[h.2]at hb;simp at hb
 | .one t::ds,us,fp,h,b,hb=>by
  obtain⟨v,vs',f1,f2,rfl,rfl,h1,h2⟩:=h;rcases Qw.1 hb with hb|hb
  ·exact zba.lt t v f1 h1 b hb
  ·exact zfn.ltD h2 b hb
 | .agg ts::ds,us,fp,h,b,hb=>by
  obtain⟨v,vs',f1,f2,rfl,rfl,⟨y,rfl,h1⟩,h2⟩:=h;rcases Qw.1 hb with hb|hb
  ·exact zbc.lt h1 b hb
  ·exact zfn.ltD h2 b hb
theorem Rel.frNew {n0:Nat->Prop}{N:Nat}{σ:St}{g:Gh}{a:Act}{w w':World}(hR:Rel n0 N σ g a w)(hn:LtK n0 w){b:Nat}(h1:w.heap.size<=b)(h2:b<w'.heap.size):zch σ g w' b:=by
 refine⟨⟨λk hk e=>by have:=hR.lt hk;omega,λe x hx ho hh=>?_,h2,(hR.anew b (hn.new h1)).1⟩,λe ⟨x,hx,ho⟩ hm=>?_⟩
 ·have:=(hR.evs e x hx ho).lt b (List.mem_of_mem_head? hh);omega
 ·have:=(hR.evs e x hx ho).lt b hm;omega
def St.callN (σ:St)(d:Option Nat)(res:List D):St:=σ.put d (zn7 (res.map D.toN))
theorem qts (res:List D):∀y∈res.map D.toN,y.isTup=false:=λy hy=>by
 obtain⟨d,_,rfl⟩:=Ka.1 hy
 cases d<;>rfl
theorem qcj {o:Oper}{x:Operand}{asx:Array Operand}{ts:Array TypeId}{f:FuncId}{cvs:List V}{ds res:List D}(ho:o.op=.call ⟨.value x,asx,ts⟩)
  (h:FC P f ds res) (hc:za0 (σ.get P 0 x)=some (f,cvs)) (hv:VDs σ (σ.gets P asx ts++cvs) ds):zak P o σ (σ.callN o.dst res):=by
 intro n0 N g a w hR hn hdN
 obtain⟨vs,h1,h2⟩:=zdw hR ho hc h.1
 unfold Oper.wp
 rw[h1]
 refine(h.use (VDs.rep hR hv h2)).mono ?_
 rintro e w' ⟨us,fp,rfl,o1,o2,o3,hb⟩
 have hR':Rel n0 N σ g a w':=hR.after hn hb (New.refl σ g (w.heap.size<=·) w' hR.slc)
 refine⟨g,?_,Bk.of_below hb hn,rfl,rfl⟩
 exact hR'.put o.dst (zfq (zbn.vrlN (o1.rep λb hb'=>hR.frNew hn (o3 b hb') (o1.ltD b hb'))) (qts res)) hdN
theorem qrv {ds res:List D}(h:FC P f ds res)(hp:zav (za0 (σ.get P 0 x)) λp=>p.1=f/\VDs σ (σ.gets P asx ts++p.2) ds)
  (k:exo P ops os ks Q (σ.callN dst res)):exo P ops (⟨dst,.call ⟨.value x,asx,ts⟩,ty,ps,af,none⟩::os) ks Q σ:=by
 obtain⟨⟨f',cvs⟩,h1,rfl,h2⟩:=zap hp
 exact zdo rfl rfl (qcj rfl h h1 h2) k
theorem qrr {g:Gh}{w:World}{c:C}{t:T}{v:Value}(h:rdC c t)(hv:CR σ g w c v):zau w (zch σ g w) t v:=by
 unfold rdC at h
 split at h
 ·rename_i x;obtain⟨rfl,hn⟩:=h;exact zl8 (σ:=σ) (g:=g) (x:=.one (.t x)) (d:=.one x) ⟨rfl,hn⟩ hv _
 ·rename_i f f';subst h;exact zl8 (σ:=σ) (g:=g) (x:=.one (.fn f [])) (d:=.one (.fn f [])) rfl hv _
 ·subst h;exact hv
 ·obtain⟨rfl,rfl⟩:=h;obtain⟨b,q,h1,h2,h3⟩:=hv;unfold zau;exact⟨b,q,h1,h2,h3⟩
 ·subst h;rw[show v=.slice none 0 0 from hv];unfold zau;exact⟨none,0,rfl,by simp,by simp,Or.inl rfl⟩
 ·exact h.elim
theorem qe8 {g:Gh}{w:World}:∀{cs:List C}{ts:List T}{vs:List Value},rdCs cs ts->CRs σ g w cs vs->zag w (zch σ g w) ts vs
 | [],[],vs,_,hv=>by unfold zag;exact hv
 | [],_::_,_,h,_=>h.elim
 | _::_,[],_,h,_=>h.elim
 | c::cs,t::ts,vs,h,hv=>by
  obtain⟨v,vs',rfl,h1,h2⟩:=hv;unfold zag;exact⟨v,vs',rfl,qrr h.1 h1,qe8 h.2 h2⟩
theorem qrh {g:Gh}{w:World}{x:V}{d:D}{v:Value}(h:rdV x d)(hv:VR σ g w x v):zsb w (zch σ g w) d v:=by
 unfold rdV at h
 split at h
 ·exact qrr h hv
 ·obtain⟨b,e,hv⟩:=hv;exact⟨b,e,qe8 h hv⟩
 ·exact h.elim
end
def gVN (k:Nat):Bool×D->V
 | (false,d)=>d.toN
 | (true,d)=>gV k (true,d)
def zir:Nat->List (Bool×D)->Nat->V
 | _,[]=>λ_=>.one .any
 | k,d::ds=>upd (zir (k+1) ds) k (gVN k d)
def zd5 (args:List (Bool×D)):St:=⟨zir 0 args,λ_=>none,zim 0 args⟩
theorem zm1:∀(ds:List (Bool×D))(k i:Nat),zir k ds (k+i)=match ds[i]? with|some d=>gVN (k+i) d|none=>.one .any
 | [],k,i=>by simp[zir]
 | d::ds,k,0=>by simp[zir,upd]
 | d::ds,k,i+1=>by
  unfold zir;rw[zan _ _ Y0,show k+(i+1)=k+1+i by omega,zm1 ds (k+1) i];simp
theorem za5.atR {w:World}{A:Nat->Prop}:∀{ds:List (Bool×D)}{vs:List Value}{fp tp:List Nat},za5 w A ds vs fp tp->∀(i:Nat) d,ds[i]?=some (false,d)->∃v,vs[i]?=some v/\zsb w A d v
 | [],_,_,_,_,i,d,h=>by simp at h
 | (false,e)::ds,_,_,_,h,0,d,hi=>by
  obtain⟨v,vs',rfl,h1,_⟩:=h;simp only[List.getElem?_cons_zero,Qe,Qt,true_and]at hi;subst hi;exact⟨v,rfl,h1⟩
 | (true,e)::ds,_,_,_,h,0,d,hi=>by simp at hi
 | (false,e)::ds,_,_,_,h,i+1,d,hi=>by
  obtain⟨v,vs',rfl,_,h2⟩:=h;simpa using za5.atR h2 i d (by simpa using hi)
 | (true,e)::ds,_,_,_,h,i+1,d,hi=>by
  obtain⟨v,vs',f1,f2,t1,t2,rfl,rfl,rfl,_,h2⟩:=h;simpa using za5.atR h2 i d (by simpa using hi)
theorem Rel.frOld {n0:Nat->Prop}{N:Nat}{σ:St}{g:Gh}{a:Act}{w:World}(h:Rel n0 N σ g a w){b:Nat}(h1:n0 b)(h2:b<w.heap.size)(h3:g.A0 b):zch σ g w b :=
 ⟨⟨λk hk e=>h.base k hk (e▸h1),λe x hx ho hh=>h.etop e ⟨x,hx,ho⟩ b (List.mem_of_mem_head? hh) h1,h2,h3⟩,λe ho hm=>h.etop e ho b hm h1⟩
theorem qcr {args:List (Bool×D)}{w:World}{vs:List Value}{fp tp:List Nat}{N:Nat}{g:Gh}{a:Act}(hv:za5 w (λb=>b<w.heap.size/\b∉fp) args vs fp tp)(hR:Rel (λb=>b<w.heap.size/\b∉fp) N (zeq args) g a w)
  (ht:a.tmps=(⟨vs⟩:Array Value)++Array.replicate (N-vs.length) undef) (hA:∀b,g.A0 b):Rel (λb=>b<w.heap.size/\b∉fp) N (zd5 args) g a w:=by
 have hm:Mv (zeq args) (zd5 args) g g w w:=Mv.of_eq g w rfl rfl
 refine hR.slots_of (σ':=zd5 args) rfl rfl hR.defers hR.size λi=>?_
 refine(Mv.of_eq (σ:=zd5 args) (σ':=zeq args) g w rfl rfl).vr (σ:=zd5 args) ?_
 have hi:=zm1 args 0 i
 rw[Q7]at hi
 show VR _ _ _ (zir 0 args i) _
 rw[hi]
 cases hd:args[i]? with
 | none=>trivial
 | some p =>
  obtain⟨b,d⟩:=p;cases b with
  | true =>
   have h0:=hm.vr (hR.slots i);have hj:=ziq args 0 i;rw[Q7,hd]at hj;have h0':VR (zd5 args) g w (zil 0 args i) (a.tmps.getD i (g.R0.ξ i)):=h0;rw[hj]at h0';exact h0'
  | false =>
   obtain⟨v,hv1,hv2⟩:=za5.atR hv i d hd;have hlt:i<vs.length:=(List.getElem?_eq_some_iff.1 hv1).1;have e:a.tmps.getD i (g.R0.ξ i)=v:=by
    rw[ht,Array.getD_eq_getD_getElem?,Array.getElem?_append_left (by simpa using hlt)];simp[hv1]
   rw[e];exact hm.vr (zsw (λb hb=>hR.frOld hb hb.1 (hA b)) hv2)
theorem zz6 {f:FuncId}{fn:Func}{c:Code}{args:List (Bool×D)}{res:List D}(hc:zbl P f)(hf:P.funcs[f]?=some fn)(hb:fn.body=some c)(hd:zdf fn.ntmps c=true)(hN:args.length<=fn.ntmps)(hs:zcj args)
  (h:ex P c [] (PS P fn.results.toList res) (zd5 args)):GC P f args res :=
 qqr hc hf hb hd hN hs λw vs fp tp hv g a hR hg=>⟨_,h,qcr hv hR hg.1 λb=>by rw[(K7 hg.2).1];trivial⟩
def renL (a b:Nat)(l:List (Nat×V)):List (Nat×V):=l.map λp=>(p.1,p.2.ren a b)
def renB (a b:Nat)(l:List (Nat×List C)):List (Nat×List C):=l.map λp=>(p.1,p.2.map (C.ren a b))
def renE (a b:Nat)(l:List (Nat×Ev)):List (Nat×Ev):=l.map λp=>(swp a b p.1,p.2)
theorem zzh (a b:Nat)(c:C):(c.ren a b).ren a b=c:=by cases c<;>simp[C.ren,zes]
theorem zq8 (a b:Nat)(cs:List C):(cs.map (C.ren a b)).map (C.ren a b)=cs:=by
 rw[Kw];exact(Kv λc _=>zzh a b c).trans (List.map_id cs)
theorem ql3 (a b:Nat)(v:V):(v.ren a b).ren a b=v:=by
 cases v with
 | one c=>simp[V.ren,zzh]
 | agg cs=>simp only[V.ren,zq8]
 | tup xs =>
  simp only[V.ren,Kw]
  congr 1
  exact(Kv λx _=>by simp only[Function.comp,zq8];rfl).trans (List.map_id xs)
theorem zev (a b:Nat){σ:St}{l:List (Nat×V)}{bl:List (Nat×List C)}{el:List (Nat×Ev)}(h:wkL σ (hd (renL a b l) (renB a b bl) (renE a b el)) (renL a b l)/\wkB σ (hd (renL a b l) (renB a b bl) (renE a b el)) (renB a b bl)/\wkE σ (renE a b el)):Wk σ (hd l bl el):=by
 have h1:=(zad h).trans (zi1 a b _ _ _)
 have e1:(renL a b l).map (λp=>(p.1,p.2.ren a b))=l:=by
  unfold renL;rw[Kw];exact(Kv λp _=>by simp only[Function.comp,ql3];rfl).trans (List.map_id l)
 have e2:(renB a b bl).map (λp=>(p.1,p.2.map (C.ren a b)))=bl:=by
  unfold renB;rw[Kw];exact(Kv λp _=>by simp only[Function.comp,zq8];rfl).trans (List.map_id bl)
 have e3:(renE a b el).map (λp=>(swp a b p.1,p.2))=el:=by
  unfold renE;rw[Kw];exact(Kv λp _=>by simp only[Function.comp,zes];rfl).trans (List.map_id el)
 rw[e1,e2,e3]at h1
 exact h1
attribute [go_sem] C.evs C.bxs V.alls ins zof noK dif qm8 qnu St.kb0 St.kb1 St.KB St.ke0 St.ke1 St.KE St.lL St.lB St.lE St.hL wkK St.callN gVN zir zd5 renL renB renE C.ren V.ren swp
end
section
open Go.RowKit
variable {P:Program}
theorem za5.append {w:World}{A:Nat->Prop}:∀{d1 d2:List (Bool×D)}{v1 v2:List Value}{f1 f2 t1 t2:List Nat},za5 w A d1 v1 f1 t1->za5 w A d2 v2 f2 t2->za5 w A (d1++d2) (v1++v2) (f1++f2) (t1++t2)
 | [],_,_,_,_,_,_,_,h,k=>by obtain⟨rfl,rfl,rfl⟩:=h;exact k
 | (true,d)::ds,_,_,_,_,_,_,_,h,k=>by
  obtain⟨v,vs',g1,g2,s1,s2,rfl,rfl,rfl,h1,h2⟩:=h;exact⟨v,_,g1,_,s1,_,rfl,by rw[Kd],by rw[Kd],h1,za5.append h2 k⟩
 | (false,d)::ds,_,_,_,_,_,_,_,h,k=>by
  obtain⟨v,vs',rfl,h1,h2⟩:=h;exact⟨v,_,rfl,h1,za5.append h2 k⟩
theorem za5.len {w:World}{A:Nat->Prop}:∀{ds:List (Bool×D)}{vs:List Value}{fp tp:List Nat},za5 w A ds vs fp tp->vs.length=ds.length
 | [],_,_,_,h=>by rw[h.1];rfl
 | (true,d)::ds,_,_,_,h=>by obtain⟨v,vs',_,_,_,_,rfl,rfl,rfl,_,h2⟩:=h;simp[za5.len h2]
 | (false,d)::ds,_,_,_,h=>by obtain⟨v,vs',rfl,_,h2⟩:=h;simp[za5.len h2]
theorem za5.split {w:World}{A:Nat->Prop}:∀{d1 d2:List (Bool×D)}{vs:List Value}{fp tp:List Nat},za5 w A (d1++d2) vs fp tp->∃v1 v2 f1 f2 t1 t2,vs=v1++v2/\fp=f1++f2/\tp=t1++t2/\za5 w A d1 v1 f1 t1/\za5 w A d2 v2 f2 t2
 | [],d2,vs,fp,tp,h=>⟨[],vs,[],fp,[],tp,rfl,rfl,rfl,⟨rfl,rfl,rfl⟩,h⟩
 | (true,d)::ds,d2,_,_,_,h=>by
  obtain⟨v,vs',g1,g2,s1,s2,rfl,rfl,rfl,h1,h2⟩:=h;obtain⟨v1,v2,f1,f2,t1,t2,rfl,rfl,rfl,k1,k2⟩:=za5.split h2;exact⟨v::v1,v2,g1++f1,f2,s1++t1,t2,rfl,by rw[Kd],by rw[Kd],⟨v,v1,g1,f1,s1,t1,rfl,rfl,rfl,h1,k1⟩,k2⟩
 | (false,d)::ds,d2,_,_,_,h=>by
  obtain⟨v,vs',rfl,h1,h2⟩:=h;obtain⟨v1,v2,f1,f2,t1,t2,rfl,rfl,rfl,k1,k2⟩:=za5.split h2;exact⟨v::v1,v2,f1,f2,t1,t2,rfl,rfl,rfl,⟨v,v1,rfl,h1,k1⟩,k2⟩
def zcl:List (Bool×D)->List (Bool×T)
 | []=>[]
 | (b,.one t)::ds=>(b,t)::zcl ds
 | (b,.agg ts)::ds=>ts.map (λt=>(b,t))++zcl ds
def bxA (box:List (Bool×T)):List (Bool×D):=box.map λp=>(p.1,.one p.2)
theorem qcz.ones {w:World}{A:Nat->Prop}:∀{ts:List T}{vs:List Value}{fp tp:List Nat},qcz w ts vs fp tp->za5 w A (bxA (ts.map λt=>(true,t))) vs fp tp
 | [],_,_,_,h=>h
 | t::ts,_,_,_,h=>by
  obtain⟨v,vs',f1,f2,t2,rfl,rfl,rfl,h1,h2⟩:=h;exact⟨v,vs',f1,f2,_,t2,rfl,rfl,rfl,⟨h1,rfl⟩,qcz.ones h2⟩
theorem zag.ones {w:World}{A:Nat->Prop}:∀{ts:List T}{vs:List Value},zag w A ts vs->za5 w A (bxA (ts.map λt=>(false,t))) vs [] []
 | [],_,h=>by unfold zag at h;exact⟨h,rfl,rfl⟩
 | t::ts,_,h=>by
  unfold zag at h;obtain⟨v,vs',rfl,h1,h2⟩:=h;exact⟨v,vs',rfl,h1,zag.ones h2⟩
theorem zkf (a b:List (Bool×T)):bxA (a++b)=bxA a++bxA b:=Q1
theorem zau.cells1 {w:World}{A:Nat->Prop}{t:T}{v:Value}(h:zau w A t v):v.cells=#[v]:=(zau.one h).2
theorem za5.flat {w:World}{A:Nat->Prop}:∀{ds:List (Bool×D)}{vs:List Value}{fp tp:List Nat},za5 w A ds vs fp tp->∃tp',za5 w A (bxA (zcl ds)) (vs.flatMap λu=>u.cells.toList) fp tp'
 | [],_,_,_,h=>by obtain⟨rfl,rfl,rfl⟩:=h;exact⟨[],rfl,rfl,rfl⟩
 | (true,.one t)::ds,_,_,_,h=>by
  obtain⟨v,vs',f1,f2,t1,t2,rfl,rfl,rfl,h1,h2⟩:=h;obtain⟨tp',h2⟩:=za5.flat h2;have e:(v::vs').flatMap (λu=>u.cells.toList)=v::vs'.flatMap λu=>u.cells.toList:=by
   have h1':zba w t v f1:=h1.1;simp[h1'.one]
  exact⟨t1++tp',v,_,f1,f2,t1,tp',e,rfl,rfl,h1,h2⟩
 | (false,.one t)::ds,_,_,_,h=>by
  obtain⟨v,vs',rfl,h1,h2⟩:=h;obtain⟨tp',h2⟩:=za5.flat h2;have e:(v::vs').flatMap (λu=>u.cells.toList)=v::vs'.flatMap λu=>u.cells.toList:=by
   have h1':zau w A t v:=h1;simp[h1'.cells1]
  exact⟨tp',v,_,e,h1,h2⟩
 | (true,.agg ts)::ds,_,_,_,h=>by
  obtain⟨v,vs',f1,f2,t1,t2,rfl,rfl,rfl,⟨a,rfl,h1⟩,h2⟩:=h;obtain⟨tp',h2⟩:=za5.flat h2;refine⟨t1++tp',?_⟩;show za5 w A (bxA (ts.map (λt=>(true,t))++zcl ds)) (a++vs'.flatMap λu=>u.cells.toList) _ _
  rw[zkf];exact za5.append h1.ones h2
 | (false,.agg ts)::ds,_,_,_,h=>by
  obtain⟨v,vs',rfl,⟨a,rfl,h1⟩,h2⟩:=h;obtain⟨tp',h2⟩:=za5.flat h2;refine⟨[]++tp',?_⟩;show za5 w A (bxA (ts.map (λt=>(false,t))++zcl ds)) (a++vs'.flatMap λu=>u.cells.toList) _ _
  rw[zkf];exact za5.append h1.ones h2
def mC1 (d j:Nat):Bool×T->C
 | (true,t)=>owC d j t
 | (false,t)=>t.toN
def mC (d:Nat):Nat->List (Bool×T)->List C
 | _,[]=>[]
 | j,p::ts=>mC1 d j p::mC d (j+1) ts
def mE (d:Nat):Nat->List (Bool×T)->(Nat->Option Ev)->(Nat->Option Ev)
 | _,[],f=>f
 | j,(true,t)::ts,f=>mE d (j+1) ts (zu3 d j f t)
 | j,(false,_)::ts,f=>mE d (j+1) ts f
def mF (d:Nat):Nat->List (Bool×T)->(Nat->Option Ev)->Prop
 | _,[],_=>True
 | j,(true,t)::ts,f=>qo0 d j f t/\mF d (j+1) ts (zu3 d j f t)
 | j,(false,_)::ts,f=>mF d (j+1) ts f
def mD (d:Nat):Nat->List (Bool×D)->List V
 | _,[]=>[]
 | j,(b,.one t)::ds=>.one (mC1 d j (b,t))::mD d (j+1) ds
 | j,(b,.agg ts)::ds=>.agg (mC d j (ts.map λt=>(b,t)))::mD d (j+ts.length) ds
theorem zt5 (d:Nat):∀(ts:List (Bool×T))(j:Nat),(mC d j ts).length=ts.length
 | [],_=>rfl
 | t::ts,j=>by simp[mC,zt5 d ts]
theorem zg4 (d:Nat):∀(t1 t2:List (Bool×T))(j:Nat),mC d j (t1++t2)=mC d j t1++mC d (j+t1.length) t2
 | [],_,_=>by simp[mC]
 | t::ts,t2,j=>by simp only[Ja,mC,zg4 d ts t2 (j+1),Qg];rw[show j+1+ts.length=j+(ts.length+1) by omega]
theorem zy8 (d:Nat):∀(ds:List (Bool×D))(j:Nat),∀x∈mD d j ds,x.isTup=false
 | [],_,x,hx=>by simp[mD]at hx
 | (_,.one t)::ds,j,x,hx=>by
  simp only[mD,Qu]at hx;rcases hx with rfl|hx
  ·rfl
  ·exact zy8 d ds _ x hx
 | (_,.agg ts)::ds,j,x,hx=>by
  simp only[mD,Qu]at hx;rcases hx with rfl|hx
  ·rfl
  ·exact zy8 d ds _ x hx
theorem New.mix {τ:St}{g:Gh}{NB:Nat->Prop}{w':World}{A:Nat->Prop}(d:Nat):∀(ts:List (Bool×T))(vs:List Value)(fp tp:List Nat)(j:Nat)(ev':Nat->Option Ev)(g':Gh)(F:List Nat),New τ g NB w' ev' g' F->mF d j ts ev'->za5 w' A (bxA ts) vs fp tp->fp.Nodup->(∀b∈fp,NB b/\b∉F) →
  ∃g'',New τ g NB w' (mE d j ts ev') g'' (F++fp)/\(∀e,ev' e≠none->mE d j ts ev' e=ev' e/\g''.ψ e=g'.ψ e)/\∀(σ':St) (w'':World),σ'.ev=mE d j ts ev'->(∀t v,zau w' A t v->zau w'' (zch σ' g'' w'') t v)->CRs σ' g'' w'' (mC d j ts) vs
 | [],vs,fp,tp,j,ev',g',F,hN,hf,ho,hd,hb=>by
  obtain⟨rfl,rfl,rfl⟩:=ho;exact⟨g',by simpa[mE]using hN,λe _=>⟨rfl,rfl⟩,λ_ _ _ _=>rfl⟩
 | (false,t)::ts,vs,fp,tp,j,ev',g',F,hN,hf,ho,hd,hb=>by
  obtain⟨v,vs',rfl,h1,h2⟩:=ho;obtain⟨g'',k1,k2,k3⟩:=New.mix d ts vs' fp tp (j+1) ev' g' F hN hf h2 hd hb;exact⟨g'',k1,k2,λσ' w'' hσ hr=>⟨v,vs',rfl,qfe (hr t v h1),k3 σ' w'' hσ hr⟩⟩
 | (true,t)::ts,vs,fp,tp,j,ev',g',F,hN,hf,ho,hd,hb=>by
  obtain⟨v,vs',f1,f2,t1,t2,rfl,rfl,rfl,⟨h1,_⟩,h2⟩:=ho;obtain⟨hf1,hf2⟩:=hf;obtain⟨hd1,hd2,hd3⟩:=Kg.1 hd;have h1:zba w' t v f1:=h1;by_cases hfl:t.flat=true
  ·have hz:f1=[]/\owC d j t=.t t/\zu3 d j ev' t=ev'/\∀(σ':St) (g'':Gh) (w'':World),CR σ' g'' w'' (.t t) v:=by
    cases t<;>simp only[T.flat,Qp]at hfl
    ·unfold zba at h1;exact⟨h1.2.2.2,rfl,rfl,λ_ _ _=>by simp only[CR,zau];exact⟨h1.1,h1.2.1,h1.2.2.1⟩⟩
    ·unfold zba at h1;exact⟨h1.2,rfl,rfl,λ_ _ _=>by simp only[CR,zau];exact h1.1⟩
    ·unfold zba at h1;exact⟨h1.2.2,rfl,rfl,λ_ _ _=>by simp only[CR,zau];exact⟨h1.1,h1.2.1⟩⟩
    ·unfold zba at h1;exact⟨h1.2,rfl,rfl,λ_ _ _=>by simp only[CR,zau];exact h1.1⟩
   obtain⟨rfl,c2,c3,c4⟩:=hz;rw[c3]at hf2;obtain⟨g'',k1,k2,k3⟩:=New.mix d ts vs' f2 t2 (j+1) ev' g' F hN hf2 h2 hd2 (λb hb'=>hb b (by simp[hb']));refine⟨g'',by simpa[mE,c3]using k1,λe he=>by simpa[mE,c3]using k2 e he,λσ' w'' hσ hr=>⟨v,vs',rfl,?_,k3 σ' w'' (by simpa[mE,c3]using hσ) hr⟩⟩;show CR σ' g'' w'' (owC d j t) v
   rw[c2];exact c4 _ _ _
  ·cases t<;>simp only[T.flat,Qp,Kh,not_true]at hfl
   ·rename_i sz rows;have hi':ev' (d*32+j)=none:=hf1;have hi:τ.ev (d*32+j)=none:=by
     cases hx:τ.ev (d*32+j)with
     | none=>rfl
     | some x=>have:=(hN.old (d*32+j) (by rw[hx];simp)).1;rw[hi',hx]at this;cases this
    have hadd:=hN.add hi hi' h1 (λb hb'=>(hb b (by simp[hb'])).1) hd1 (λb hb'=>(hb b (by simp[hb'])).2)
    obtain⟨g'',k1,k2,k3⟩:=New.mix d ts vs' f2 t2 (j+1) _ _ _ hadd hf2 h2 hd2 (λb hb'=>⟨(hb b (by simp[hb'])).1,by
      have:=(hb b (by simp[hb'])).2;simp only[Qw,not_or]
      exact⟨this,λhf=>hd3 b hf b hb' rfl⟩⟩)
    refine⟨g'',by simpa[mE,zu3]using k1,λe he=>?_,λσ' w'' hσ hr=>⟨v,vs',rfl,?_,k3 σ' w'' hσ hr⟩⟩
    ·have hne:e≠d*32+j:=λh=>he (h▸hi');have:=k2 e (by rw[zan _ _ hne];exact he);simp only[zan _ _ hne]at this;exact this
    ·have:=k2 (d*32+j) (by rw[zaf];simp);simp only[zaf]at this;exact⟨by rw[this.2],_,by rw[hσ];exact this.1,Kc _⟩
   ·unfold zba at h1;exact h1.elim
   ·unfold zba at h1;exact h1.elim
   ·unfold zba at h1;exact h1.elim
   ·exact(show False from hf1).elim
   ·unfold zba at h1;exact h1.elim
   ·unfold zba at h1;exact h1.elim
theorem qa8 {σ:St}{g:Gh}{w w1:World}{A:Nat->Prop}(d:Nat):∀{ds:List (Bool×D)}{us:List Value}{fp tp:List Nat}(j:Nat),za5 w1 A ds us fp tp->CRs σ g w (mC d j (zcl ds)) (us.flatMap λu=>u.cells.toList)->VRl σ g w (mD d j ds) us
 | [],us,fp,tp,j,h,_=>h.1
 | (true,.one t)::ds,us,fp,tp,j,h,k=>by
  obtain⟨v,vs',f1,f2,t1,t2,rfl,rfl,rfl,h1,h2⟩:=h;have hv:zba w1 t v f1:=h1.1;simp only[Jj,hv.one,zcl,mC]at k;obtain⟨u,us',e,k1,k2⟩:=k;simp only[Ja,K5,List.cons.injEq]at e;obtain⟨rfl,rfl⟩:=e;exact⟨v,vs',rfl,k1,qa8 d (j+1) h2 k2⟩
 | (false,.one t)::ds,us,fp,tp,j,h,k=>by
  obtain⟨v,vs',rfl,h1,h2⟩:=h;have hv:zau w1 A t v:=h1;simp only[Jj,hv.cells1,zcl,mC]at k;obtain⟨u,us',e,k1,k2⟩:=k;simp only[Ja,K5,List.cons.injEq]at e;obtain⟨rfl,rfl⟩:=e;exact⟨v,vs',rfl,k1,qa8 d (j+1) h2 k2⟩
 | (true,.agg ts)::ds,us,fp,tp,j,h,k=>by
  obtain⟨v,vs',f1,f2,t1,t2,rfl,rfl,rfl,⟨x,rfl,h1⟩,h2⟩:=h;simp only[Jj,Value.cells,zcl,zg4]at k;obtain⟨v1,v2,e,k1,k2⟩:=k.split;have hl:x.length=v1.length:=by rw[k1.len,zt5,Qa];exact zbc.len (zbc.of_g h1)
  obtain⟨e1,e2⟩:=Yt e hl;subst e1 e2;rw[Qa]at k2;exact⟨_,vs',rfl,⟨x,rfl,k1⟩,qa8 d (j+ts.length) h2 k2⟩
 | (false,.agg ts)::ds,us,fp,tp,j,h,k=>by
  obtain⟨v,vs',rfl,⟨x,rfl,h1⟩,h2⟩:=h;simp only[Jj,Value.cells,zcl,zg4]at k;obtain⟨v1,v2,e,k1,k2⟩:=k.split;have hl:x.length=v1.length:=by rw[k1.len,zt5,Qa];exact h1.len
  obtain⟨e1,e2⟩:=Yt e hl;subst e1 e2;rw[Qa]at k2;exact⟨_,vs',rfl,⟨x,rfl,k1⟩,qa8 d (j+ts.length) h2 k2⟩
theorem zhr {σ:St}{g:Gh}{w:World}{n0:Nat->Prop}{N:Nat}{a:Act}(hR:Rel n0 N σ g a w){B:Sr->List Nat}(hB:Fam w σ g B){K:List Sr->Prop}:∀{xs:List V}{ds:List (Bool×D)}{u:List Sr}{ps:List (Nat×Nat×Nat)}{vs:List Value},gvA σ K u ps xs ds->VRl σ g w xs vs →
  ∃s,K (s.reverse++u)/\(∃tp,za5 w (zch σ g w) ds vs (bks B s) tp)/\(∀x∈s,σ.On x.1)/\(u.Pairwise okP->(s.reverse++u).Pairwise okP)
 | [],[],u,ps,vs,h,hv=>⟨[],h,⟨[],hv,rfl,rfl⟩,by simp,λh=>h⟩
 | [],_::_,_,_,_,h,_=>h.elim
 | x::xs,[],_,_,_,h,_=>by cases x<;>exact h.elim
 | x::xs,(false,d)::ds,u,ps,vs,h,hv=>by
  obtain⟨v,vs',rfl,h1,h2⟩:=hv;unfold gvA at h;obtain⟨hr,h⟩:=h;obtain⟨s,k1,⟨tp,k2⟩,k3,k4⟩:=zhr hR hB h h2;exact⟨s,k1,⟨tp,v,vs',rfl,qrh hr h1,k2⟩,k3,k4⟩
 | .one c::xs,(true,.one t)::ds,u,ps,vs,h,hv=>by
  obtain⟨v,vs',rfl,h1,h2⟩:=hv;unfold gvA at h;obtain⟨s,ps',tp,k1,k2,k3,k4⟩:=zd2 hR hB h (vs:=[v]) ⟨v,[],rfl,h1,rfl⟩;obtain⟨s',j1,⟨tp',j2⟩,j3,j4⟩:=zhr hR hB k1 h2;obtain⟨v0,vs0,f1,f2,t2,e0,e1,rfl,q1,q2⟩:=k2;cases e0;obtain⟨_,rfl,rfl⟩:=q2;rw[Ko]at e1;refine⟨s++s',by simpa using j1,⟨zlg t f1++tp',v,vs',bks B s,bks B s',_,tp',rfl,by unfold bks;rw[List.flatMap_append],rfl,⟨by rw[e1];exact q1,by rw[e1]⟩,j2⟩,λx hx=>?_,λhu=>by simpa using j4 (k4 hu)⟩;rcases Qw.1 hx with hx|hx
  ·exact k3 x hx
  ·exact j3 x hx
 | .agg cs::xs,(true,.agg ts)::ds,u,ps,vs,h,hv=>by
  obtain⟨v,vs',rfl,⟨y,rfl,h1⟩,h2⟩:=hv;unfold gvA at h;obtain⟨s,ps',tp,k1,k2,k3,k4⟩:=zd2 hR hB h h1;obtain⟨s',j1,⟨tp',j2⟩,j3,j4⟩:=zhr hR hB k1 h2;refine⟨s++s',by simpa using j1,⟨tp++tp',_,vs',bks B s,bks B s',tp,tp',rfl,by unfold bks;rw[List.flatMap_append],rfl,⟨y,rfl,k2⟩,j2⟩,λx hx=>?_,λhu=>by simpa using j4 (k4 hu)⟩;rcases Qw.1 hx with hx|hx
  ·exact k3 x hx
  ·exact j3 x hx
 | .one _::_,(true,.agg _)::_,_,_,_,h,_=>h.elim
 | .agg _::_,(true,.one _)::_,_,_,_,h,_=>h.elim
 | .tup _::_,(true,d)::_,_,_,_,h,_=>by cases d<;>exact h.elim
def XC (P:Program)(f:FuncId)(args res:List (Bool×D)):Prop:=zbl P f/\∀(w:World)(vs:List Value)(fp tp:List Nat)(A:Nat->Prop),za5 w (λk=>(k<w.heap.size/\k∉fp)/\A k) args vs fp tp->fp.Nodup →
 Calls P f ⟨vs⟩ w λe w'=>∃us fp' tp',e=.returned (zc4 us)/\za5 w' (λk=>(k<w'.heap.size/\k∉fp')/\(A k\/w.heap.size<=k\/k∈fp)) res us fp' tp'/\fp'.Nodup/\(∀b∈fp',b∈fp\/w.heap.size<=b)/\Bk (λk=>k<w.heap.size/\k∉fp) w w'
def PM0 (P:Program)(rs:List ResultVar)(res:List (Bool×D))(pl:List (Nat×Nat×Nat))(σ:St):Prop:=zav (zb5 P σ rs) λvs=>gvA σ (λ_=>True) [] pl vs res
def PM (P:Program)(rs:List ResultVar)(res:List (Bool×D))(e:Exit)(σ:St):Prop:=match e with
 | .normal=>PM0 P rs res [] σ\/∃pl,PM0 P rs res pl σ
 | .ret=>PM0 P rs res [] σ\/∃pl,PM0 P rs res pl σ
 | _=>False
theorem znb {args:List (Bool×D)}{w:World}{vs:List Value}{fp tp:List Nat}{N:Nat}{g:Gh}{a:Act}{B:Nat->Prop}(hv:za5 w B args vs fp tp)(hR:Rel (λb=>b<w.heap.size/\b∉fp) N (zeq args) g a w)
  (ht:a.tmps=(⟨vs⟩:Array Value)++Array.replicate (N-vs.length) undef) (hB:∀b,B b->(b<w.heap.size/\b∉fp)/\g.A0 b):Rel (λb=>b<w.heap.size/\b∉fp) N (zd5 args) g a w:=by
 have hm:Mv (zeq args) (zd5 args) g g w w:=Mv.of_eq g w rfl rfl
 refine hR.slots_of (σ':=zd5 args) rfl rfl hR.defers hR.size λi=>?_
 refine(Mv.of_eq (σ:=zd5 args) (σ':=zeq args) g w rfl rfl).vr (σ:=zd5 args) ?_
 have hi:=zm1 args 0 i
 rw[Q7]at hi
 show VR _ _ _ (zir 0 args i) _
 rw[hi]
 cases hd:args[i]? with
 | none=>trivial
 | some p =>
  obtain⟨b,d⟩:=p;cases b with
  | true =>
   have h0:=hm.vr (hR.slots i);have hj:=ziq args 0 i;rw[Q7,hd]at hj;have h0':VR (zd5 args) g w (zil 0 args i) (a.tmps.getD i (g.R0.ξ i)):=h0;rw[hj]at h0';exact h0'
  | false =>
   obtain⟨v,hv1,hv2⟩:=za5.atR hv i d hd;have hlt:i<vs.length:=(List.getElem?_eq_some_iff.1 hv1).1;have e:a.tmps.getD i (g.R0.ξ i)=v:=by
    rw[ht,Array.getD_eq_getD_getElem?,Array.getElem?_append_left (by simpa using hlt)];simp[hv1]
   rw[e];exact hm.vr (zsw (λb hb=>hR.frOld (hB b hb).1 (hB b hb).1.1 (hB b hb).2) hv2)
theorem XC_of {f:FuncId}{fn:Func}{c:Code}{args res:List (Bool×D)}(hc:zbl P f)(hf:P.funcs[f]?=some fn)(hb:fn.body=some c)(hd:zdf fn.ntmps c=true)(hN:args.length<=fn.ntmps)(hs:zcj args)
  (h:ex P c [] (PM P fn.results.toList res) (zd5 args)):XC P f args res:=by
 refine⟨hc,λw vs fp tp A hv hn=>?_⟩
 refine calls_of_wp hf hb ?_
 have hv':za5 w (λb=>b<w.heap.size/\A b/\b∉fp) args vs fp tp:=za5.keepA (λb hb=>⟨hb.1.1,hb.2,hb.1.2⟩) hv
 obtain⟨g,hg,hR⟩:=Rel.start (A0:=λb=>A b\/w.heap.size<=b\/b∈fp) (R0:=RP.of λb=>b∈fp\/w.heap.size<=b) (N:=fn.ntmps) hv' hn hs hN (λ_ h=>Or.inl h) (λb hb=>⟨Or.inr (Or.inr hb),Or.inl hb⟩) (λb hb=>by
  by_cases hlt:b<w.heap.size
  ·have hm:b∈fp:=Classical.byContradiction λh=>hb ⟨hlt,h⟩;exact⟨Or.inr (Or.inr hm),Or.inl hm⟩
  ·exact⟨Or.inr (Or.inl Y0),Or.inr Y0⟩)
 have hR0:=znb hv' hR rfl (λb hb=>⟨⟨hb.1,hb.2.2⟩,by rw[(K7 hg).1];exact Or.inl hb.2.1⟩)
 refine wp_mono (zb0 (w0:=w) c (zd5 args) _ hd h g _ w hR0 (λk hk=>hk.1) (Bk.refl _ _) hg) λe a' w' hq=>?_
 obtain⟨σ',g',h1,h2,h3,h4,h5⟩:=hq
 have key:(∃pl,PM0 P fn.results.toList res pl σ')->∃v,(results fn a'.tmps).run P w'=.ok v w'/\∃us fp' tp',Ending.returned v=.returned (zc4 us)/\za5 w' (λk=>(k<w'.heap.size/\k∉fp')/\(A k\/w.heap.size<=k\/k∈fp)) res us fp' tp'/\fp'.Nodup/\(∀b∈fp',b∈fp\/w.heap.size<=b)/\Bk (λk=>k<w.heap.size/\k∉fp) w w':=by
  rintro⟨pl,hk⟩;obtain⟨vs,hvs,hk⟩:=zap hk;obtain⟨us,r1,r2⟩:=zcg h2 fn hvs;obtain⟨B,hB⟩:=h2.fam;obtain⟨s,k1,⟨tp',k2⟩,k3,k4⟩:=zhr h2 hB hk r2;rw[Ko]at k4;have hsp:s.Pairwise okP:=(Ye.1 (k4 List.Pairwise.nil)).imp λh=>h.symm;have hin:∀b∈bks B s,∃e,σ'.On e/\b∈g'.φ e:=λb hb=>by
   obtain⟨x,hx,hm⟩:=J2.1 hb;exact⟨x.1,k3 x hx,hB.sub x.1 x.2 b (k3 x hx) hm⟩
  have hA:∀b,zch σ' g' w' b->(b<w'.heap.size/\b∉bks B s)/\(A b\/w.heap.size<=b\/b∈fp):=λb hb=>by
   refine⟨⟨hb.1.2.2.1,λhm=>?_⟩,?_⟩
   ·obtain⟨e,ho,hm⟩:=hin b hm;exact hb.2 e ho hm
   ·have:=hb.1.2.2.2;rw[(K7 h5).1]at this;exact this
  refine⟨_,r1,us,bks B s,tp',rfl,za5.keepA hA k2,zf4 h2 hB k3 hsp,λb hb=>?_,h4⟩;obtain⟨e,ho,hm⟩:=hin b hb;have:=(h2.ebase e ho b hm).2;rw[(K7 h5).2]at this;exact this
 have key':∀{Y:Prop},(PM0 P fn.results.toList res [] σ'\/∃pl,PM0 P fn.results.toList res pl σ')->((∃pl,PM0 P fn.results.toList res pl σ')->Y)->Y:=λh k=>h.elim (λh=>k ⟨[],h⟩) k
 cases e with
 | normal=>exact⟨h2.defers,key' h1 key⟩
 | ret=>exact⟨h2.defers,key' h1 key⟩
 | exit _=>exact h1.elim
 | goto _=>exact h1.elim
 | panic _=>exact h1.elim
 | outgrown=>exact h1.elim
def St.callX (σ:St)(d:Nat)(res:List (Bool×D)):St:={ sl:=upd σ.sl d (zn7 (mD d 0 res)),bx:=σ.bx,ev:=mE d 0 (zcl res) σ.ev }
theorem qjj {o:Oper}{σ τ:St}{x:Operand}{asx:Array Operand}{ts:Array TypeId}{f:FuncId}{cvs:List V}{d:Nat}{ds res:List (Bool×D)}{ps:List (Nat×Nat×Nat)}(ho:o.op=.call ⟨.value x,asx,ts⟩)(hd:o.dst=some d)
  (h:XC P f ds res) (hc:za0 (σ.get P 0 x)=some (f,cvs)) (hK:Kept σ τ) (hv:gvA σ (λu=>∀s∈u,τ.ev s.1=none) [] ps (σ.gets P asx ts++cvs) ds) (hf:mF d 0 (zcl res) τ.ev):zak P o σ (τ.callX d res):=by
 intro n0 N g a w hR hn hdN
 obtain⟨vs,h1,h2⟩:=zdw hR ho hc h.1
 unfold Oper.wp
 rw[h1]
 obtain⟨B,hB⟩:=hR.fam
 obtain⟨s,k1,⟨tp,k2⟩,k3,k4⟩:=zhr hR hB hv h2
 rw[Ko]at k1 k4
 have hsp:s.Pairwise okP:=(Ye.1 (k4 List.Pairwise.nil)).imp λh=>h.symm
 have hnd:=zf4 hR hB k3 hsp
 have hfp:∀b∈bks B s,∃e,σ.On e/\τ.ev e=none/\b∈g.φ e:=λb hb=>by
  obtain⟨x,hx,hm⟩:=J2.1 hb;exact⟨x.1,k3 x hx,k1 x (List.mem_reverse.2 hx),hB.sub x.1 x.2 b (k3 x hx) hm⟩
 have hfn:∀b,zch σ g w b->b∉bks B s:=λb hb hm=>by obtain⟨e,h1,_,h3⟩:=hfp b hm;exact hb.2 e h1 h3
 refine(h.2 w vs (bks B s) tp (zch σ g w) (za5.keepA (λb hb=>⟨⟨hb.1.2.2.1,hfn b hb⟩,hb⟩) k2) hnd).mono ?_
 rintro e w' ⟨us,fp',tp',rfl,o1,o2,o3,hbk⟩
 obtain⟨tp2,o1'⟩:=o1.flat
 obtain⟨g',q1,q2,q3⟩:=New.mix (τ:=τ) (g:=g) (NB:=λb=>b∈bks B s\/w.heap.size<=b) (w':=w') d (zcl res) _ fp' tp2 0 τ.ev g [] (New.refl _ _ _ _ hR.slc) hf o1' o2 (λb hb'=>⟨o3 b hb',by simp⟩)
 have hR':=hR.given hn hK hfp hbk q1
 have hBk:Bk n0 w w':=⟨hbk.os,hbk.tape,hbk.output,hbk.size,λk hk=>hbk.block k ⟨hn k hk,λhm=>by
  obtain⟨e,h1,_,h3⟩:=hfp k hm
  exact hR.etop e h1 k h3 hk⟩⟩
 have hfree:∀k,((k<w'.heap.size/\k∉fp')/\(zch σ g w k\/w.heap.size<=k\/k∈bks B s))->zch ⟨τ.sl,τ.bx,mE d 0 (zcl res) τ.ev⟩ g' w' k:=λk hk=>by
  have hOnσ:∀e,τ.On e->σ.On e:=λe ⟨x,hx,ho⟩=>⟨x,(hK.ev e x hx).1,ho⟩;have hno:∀e,St.On ⟨τ.sl,τ.bx,mE d 0 (zcl res) τ.ev⟩ e->k∉g'.φ e:=λe ho' hm=>by
   by_cases hee:τ.ev e=none
   ·obtain⟨x,hx,_⟩:=ho';have:=((q1.new e x hee hx).2.2.1 k hm).2;rw[K5]at this;exact hk.1.2 this
   ·rw[(q1.old e hee).2.2]at hm;obtain⟨x,hx,hon⟩:=ho';have ho2:τ.On e:=⟨x,(q1.old e hee).1.symm.trans hx,hon⟩;rcases hk.2 with h|h|h
    ·exact h.2 e (hOnσ e ho2) hm
    ·obtain⟨y,hy,hyo⟩:=hOnσ e ho2;have:=(hR.evs e y hy hyo).lt k hm;omega
    ·obtain⟨e',h1,h2,h3⟩:=hfp k h;refine hR.apart e e' (hOnσ e ho2) h1 (λee=>?_) k hm h3;subst ee;obtain⟨y,hy,_⟩:=ho2;rw[h2]at hy;cases hy
  have hbne:∀b,τ.bx b≠none->σ.bx b≠none:=λb hb=>by
   obtain⟨cs,hcs⟩:=K9.1 hb;rw[(hK.bx b cs hcs).1];simp
  refine⟨⟨λj hj e=>?_,λe x hx hon hh=>hno e ⟨x,hx,hon⟩ (List.mem_of_mem_head? hh),hk.1.1,?_⟩,hno⟩
  ·have hj':=hbne j hj;rw[q1.β]at e;rcases hk.2 with h|h|h
   ·exact h.1.1 j hj' e
   ·have:=hR.lt hj';omega
   ·obtain⟨e',h1,_,h3⟩:=hfp k h;exact hR.ebx e' j h1 hj' (e▸h3)
  ·rw[q1.A0];rcases hk.2 with h|h|h
   ·exact h.1.2.2.2
   ·exact(hR.anew k (hn.new h)).1
   ·obtain⟨e',h1,_,h3⟩:=hfp k h;exact(hR.ebase e' h1 k h3).1
 refine⟨g',?_,hBk,q1.A0,q1.R0⟩
 have hp:=hR'.put (some d) (x:=zn7 (mD d 0 res)) (v:=zc4 us) (zfq (qa8 d 0 o1 (q3 _ _ rfl λt v h=>zau.keep (λ_ _=>rfl) hfree t v h)) (zy8 d res 0)) (λi hi=>by cases hi;exact hdN d hd)
 rw[hd]
 exact hp
section
variable {ks:List Fr}{Q:Exit->St->Prop}{σ:St}{ops:Array Oper}{os:List Oper}{ty:TypeId}{ps:String}{af:Array Edge}{d:Nat}{x:Operand}{asx:Array Operand}{ts:Array TypeId}{f:FuncId}{ds res:List (Bool×D)}
theorem callX (la l:List (Nat×V))(ba bl:List (Nat×List C))(ea el:List (Nat×Ev))(pl:List (Nat×Nat×Nat))(h:XC P f ds res)
  (hw:wkL σ (hd (la++l) (ba++bl) (ea++el)) (la++l)/\wkB σ (hd (la++l) (ba++bl) (ea++el)) (ba++bl)/\wkE σ (ea++el))
  (hk:zeu l la/\zeu bl ba/\zeu el ea/\okL (hd l bl el) l/\okB (hd l bl el) bl/\okE el)
  (hp:zav (za0 ((hd (la++l) (ba++bl) (ea++el)).get P 0 x)) λp=>p.1=f/\gvA (hd (la++l) (ba++bl) (ea++el)) (zw7 el) [] pl ((hd (la++l) (ba++bl) (ea++el)).gets P asx ts++p.2) ds) (hf:mF d 0 (zcl res) (hd l bl el).ev)
  (k:exo P ops os ks Q ((hd l bl el).callX d res)):exo P ops (⟨some d,.call ⟨.value x,asx,ts⟩,ty,ps,af,none⟩::os) ks Q σ:=by
 obtain⟨⟨f',cvs⟩,h1,rfl,h2⟩:=zap hp
 obtain⟨k1,k2,k3,k4,k5,k6⟩:=hk
 refine zdo rfl rfl (zak.pre (zad hw) (qjj (P:=P) (o:=⟨some d,.call ⟨.value x,asx,ts⟩,ty,ps,af,none⟩) rfl rfl h h1 (τ:=hd l bl el) ⟨λi=>?_,λb cs hb=>⟨zmw k2 b cs hb,zvp k5 b cs hb⟩,λe x he=>⟨zmw k3 e x he,zwj k6 e x he⟩⟩ (zjt (λu hu=>znu hu) h2) hf)) k
 rcases zqu k1 i with h|h
 ·exact Or.inl h
 ·exact Or.inr ⟨h,zwu k4 i⟩
theorem qqy (L A:List Nat)(pl:List (Nat×Nat×Nat))(h:XC P f ds res)
  (hw:wkL σ (hd (σ.lL A++σ.lL L) (σ.lB (dif (σ.KB L) (σ.KB A))++σ.lB (σ.KB L)) (σ.lE (dif (σ.KE L) (σ.KE A))++σ.lE (σ.KE L))) (σ.lL A++σ.lL L)/\wkB σ (hd (σ.lL A++σ.lL L) (σ.lB (dif (σ.KB L) (σ.KB A))++σ.lB (σ.KB L)) (σ.lE (dif (σ.KE L) (σ.KE A))++σ.lE (σ.KE L))) (σ.lB (dif (σ.KB L) (σ.KB A))++σ.lB (σ.KB L))/\wkE σ (σ.lE (dif (σ.KE L) (σ.KE A))++σ.lE (σ.KE L)))
  (hk:zeu (σ.lL L) (σ.lL A)/\zeu (σ.lB (σ.KB L)) (σ.lB (dif (σ.KB L) (σ.KB A)))/\zeu (σ.lE (σ.KE L)) (σ.lE (dif (σ.KE L) (σ.KE A)))/\okL (σ.hL L) (σ.lL L)/\okB (σ.hL L) (σ.lB (σ.KB L))/\okE (σ.lE (σ.KE L)))
  (hp:zav (za0 ((hd (σ.lL A++σ.lL L) (σ.lB (dif (σ.KB L) (σ.KB A))++σ.lB (σ.KB L)) (σ.lE (dif (σ.KE L) (σ.KE A))++σ.lE (σ.KE L))).get P 0 x)) λp=>p.1=f/\gvA (hd (σ.lL A++σ.lL L) (σ.lB (dif (σ.KB L) (σ.KB A))++σ.lB (σ.KB L)) (σ.lE (dif (σ.KE L) (σ.KE A))++σ.lE (σ.KE L))) (zw7 (σ.lE (σ.KE L))) [] pl ((hd (σ.lL A++σ.lL L) (σ.lB (dif (σ.KB L) (σ.KB A))++σ.lB (σ.KB L)) (σ.lE (dif (σ.KE L) (σ.KE A))++σ.lE (σ.KE L))).gets P asx ts++p.2) ds)
  (hf:mF d 0 (zcl res) (σ.hL L).ev) (k:exo P ops os ks Q ((σ.hL L).callX d res)):exo P ops (⟨some d,.call ⟨.value x,asx,ts⟩,ty,ps,af,none⟩::os) ks Q σ :=
 callX (σ.lL A) (σ.lL L) _ _ _ _ pl h hw hk hp hf k
end
attribute [go_sem] zcl mC1 mC mE mF mD St.callX PM PM0 zu3 qo0
end
section
open Go.RowKit
variable {P:Program}
def C.fz (e:Nat)(x:Ev):C->C
 | .ow e' g=>if e'=e then (if g=x.gen then .rn (.sl x.sz x.rows)else .any)else .ow e' g
 | .eo e' g sz i o=>if e'=e then .any else .eo e' g sz i o
 | c=>c
def fzS (f:Nat->V)(e:Nat)(x:Ev):Nat->V:=λi=>(f i).map (C.fz e x)
def fzB (f:Nat->Option (List C))(e:Nat)(x:Ev):Nat->Option (List C):=λb=>(f b).map λcs=>cs.map (C.fz e x)
def fzE (f:Nat->Option Ev)(e:Nat):Nat->Option Ev:=λk=>if k=e then none else f k
theorem fzS_at (f:Nat->V)(e:Nat)(x:Ev)(i:Nat):fzS f e x i=(f i).map (C.fz e x):=rfl
theorem zzw (f:Nat->Option (List C))(e:Nat)(x:Ev)(b:Nat):fzB f e x b=(f b).map λcs=>cs.map (C.fz e x):=rfl
theorem fzE_at (f:Nat->Option Ev)(e k:Nat):fzE f e k=if k=e then none else f k:=rfl
def St.fz (σ:St)(e:Nat)(x:Ev):St:=⟨fzS σ.sl e x,fzB σ.bx e x,fzE σ.ev e⟩
theorem fz_wk {σ:St}{e:Nat}{x:Ev}(hx:σ.ev e=some x)(hd:x.deep=true)(ho:x.on=true):Wk σ (σ.fz e x):=by
 intro n0 N g a w h
 have hev:∀e',e'≠e->(σ.fz e x).ev e'=σ.ev e':=λe' he=>by show(if e'=e then none else σ.ev e')=_;rw[if_neg he]
 have hee:(σ.fz e x).ev e=none:=by show(if e=e then none else σ.ev e)=_;rw[if_pos rfl]
 have hsome:∀e' z,(σ.fz e x).ev e'=some z->e'≠e/\σ.ev e'=some z:=λe' z hz=>by
  by_cases he:e'=e
  ·subst he;rw[hee]at hz;cases hz
  ·exact⟨he,by rw[<-hev e' he];exact hz⟩
 have hon:∀e',(σ.fz e x).On e'->e'≠e/\σ.On e':=λe' ⟨z,hz,h1⟩=>⟨(hsome e' z hz).1,z,(hsome e' z hz).2,h1⟩
 have hbx:∀b,(σ.fz e x).bx b≠none↔σ.bx b≠none:=λb=>by unfold St.fz;simp[zzw]
 have hOn:σ.On e:=⟨x,hx,ho⟩
 have hf:∀b,Fix σ g w b->Fix (σ.fz e x) g w b:=λb hf=>⟨λk hk=>hf.1 k ((hbx k).1 hk),λe' z hz h1=>hf.2.1 e' z (hsome e' z hz).2 h1,hf.2.2⟩
 have hfr:∀b,zch σ g w b->zch (σ.fz e x) g w b:=λb hb=>⟨hf b hb.1,λe' h'=>hb.2 e' (hon e' h').2⟩
 have hgone:∀b∈g.φ e,b<w.heap.size->zch (σ.fz e x) g w b:=λb hb hl=>by
  have hne:∀e',(σ.fz e x).On e'->b∉g.φ e':=λe' he' hm=>h.apart e e' hOn (hon e' he').2 (Ne.symm (hon e' he').1) b hb hm;exact⟨⟨λj hj hjb=>h.ebx e j hOn ((hbx j).1 hj) (by rw[hjb];exact hb),λe' z hz h1 hh=>hne e' ⟨z,hz,h1⟩ (List.mem_of_mem_head? hh),hl,(h.ebase e hOn b hb).1⟩,hne⟩
 have hhas:∀e' n,e'≠e->σ.has e' n->(σ.fz e x).has e' n:=λe' n he ⟨z,hz,h1⟩=>⟨z,by rw[hev e' he];exact hz,h1⟩
 have cr:∀c v,CR σ g w c v->CR (σ.fz e x) g w (c.fz e x) v:=λc v hc=>by
  cases c with
  | t y=>exact zau.keep (λ_ _=>rfl) hf y v hc
  | nl s=>exact hc
  | ow e' n =>
   show CR _ _ _ (if e'=e then (if n=x.gen then .rn (.sl x.sz x.rows)else .any)else .ow e' n) v
   by_cases he:e'=e
   ·subst he;rw[if_pos rfl];by_cases hn:n=x.gen
    ·rw[if_pos hn];subst hn;obtain⟨ao,cap,e1,e2,e3,e4⟩:=h.evs _ x hx ho;rw[<-hc.1]at e1;show zau _ _ _ _
     unfold zau;refine⟨ao,cap,e1,e2,e3,?_⟩;rcases e4 with⟨_,_,e4,_⟩|⟨b,cells,ty,fps,k1,k2,k3,k4,k5⟩
     ·exact Or.inl e4
     ·rw[if_pos hd]at k5;have hl:∀b'∈fps,b'<w.heap.size:=zat.lt cells 0 x.sz x.rows fps k5;exact Or.inr ⟨b,0,k1,hgone b (by rw[k2];simp) (Array.getElem?_eq_some_iff.1 k3).1,zat.rep b cells ty k3 0 x.sz x.rows fps k5 λb' hb'=>hgone b' (by rw[k2];simp[hb']) (hl b' hb')⟩
    ·rw[if_neg hn];trivial
   ·rw[if_neg he];exact⟨hc.1,hhas e' n he hc.2⟩
  | bx b o=>exact⟨hc.1,(hbx b).2 hc.2⟩
  | el cs o=>obtain⟨b,q,h1,h2,h3⟩:=hc;exact⟨b,q,h1,hf b h2,zbo.keep (λ_ _=>rfl) hf b rfl q cs h3⟩
  | eo e' s sz i o =>
   show CR _ _ _ (if e'=e then .any else .eo e' s sz i o) v
   by_cases he:e'=e
   ·rw[if_pos he];trivial
   ·rw[if_neg he];obtain⟨b,n,c,h1,h2,h3,h4⟩:=hc;exact⟨b,n,c,h1,h2,h3,hhas e' s he h4⟩
  | fn f caps=>exact⟨hc.1,λb hb=>(hbx b).2 (hc.2 b hb)⟩
  | cv u=>exact hc
  | any=>trivial
  | rn y=>exact zau.keep (λ_ _=>rfl) hfr y v hc
  | er cs o=>obtain⟨b,q,h1,h2,h3⟩:=hc;exact⟨b,q,h1,hfr b h2,zbo.keep (λ_ _=>rfl) hfr b rfl q cs h3⟩
 refine⟨g,⟨h.defers,h.size,h.anew,λi=>VR.map cr (h.slots i),λb cs hb=>?_,λb hb=>h.base b ((hbx b).1 hb),λb b' h1 h2=>h.inj b b' ((hbx b).1 h1) ((hbx b').1 h2),λe' z hz h1=>?_,λe' z hz h1=>?_,h.slc,λe' h1=>h.ebase e' (hon e' h1).2,λe' h1=>h.etop e' (hon e' h1).2,λe' h1=>h.nodup e' (hon e' h1).2,λe1 e2 h1 h2=>h.apart e1 e2 (hon e1 h1).2 (hon e2 h2).2,λe' k h1 h2=>h.ebx e' k (hon e' h1).2 ((hbx k).1 h2)⟩,rfl,rfl⟩
 ·cases hc:σ.bx b with
  | none=>unfold St.fz at hb;simp only[zzw,hc,J1]at hb;cases hb
  | some cs0 =>
   unfold St.fz at hb;simp only[zzw,hc,Q8,Qe]at hb;subst hb;obtain⟨vs,ty,k1,k2⟩:=h.boxes b cs0 hc;exact⟨vs,ty,k1,CRs.map cr k2⟩
 ·obtain⟨ao,cap,e1,e2,e3,e4⟩:=h.evs e' z (hsome e' z hz).2 h1;refine⟨ao,cap,e1,e2,e3,?_⟩;rcases e4 with e4|⟨b,cells,ty,fps,k1,k2,k3,k4,k5⟩
  ·exact Or.inl e4
  ·refine Or.inr ⟨b,cells,ty,fps,k1,k2,k3,k4,?_⟩;split at k5
   ·rw[if_pos ‹_›];exact k5
   ·rw[if_neg ‹_›];exact⟨k5.1,zax.keep (λ_ _=>rfl) hf b rfl 0 z.sz z.rows k5.2⟩
 ·exact⟨zau.keep (λ_ _=>rfl) hf _ _ (h.offs e' z (hsome e' z hz).2 h1).1,(h.offs e' z (hsome e' z hz).2 h1).2⟩
theorem zce.pre {o:Oper}{σ σ':St}{K:St->Prop}(h:Wk σ σ')(k:zce P o σ' K):zce P o σ K:=λn0 N g a w hR hn hd=>by
 obtain⟨g1,h1,h2,h3⟩:=h n0 N g a w hR
 have:=k n0 N g1 a w h1 hn hd
 unfold Oper.wp at this⊢
 revert this
 cases (execOp a.eval o).run P w<;>intro this<;>try exact this
 all_goals (revert this;rw[h2,h3];exact id)
theorem zef.pre {id:Nat}{ops:Array Oper}{σ σ':St}{K:St->Prop}(h:Wk σ σ')(k:zef P id ops σ' K):zef P id ops σ K:=λn0 N g a w hR hn hd=>by
 obtain⟨g1,h1,h2,h3⟩:=h n0 N g a w hR
 have:=k n0 N g1 a w h1 hn hd
 rw[h2,h3]at this
 exact this
section
variable {ks:List Fr}{Q:Exit->St->Prop}{σ:St}{ops:Array Oper}{os:List Oper}{o:Oper}
theorem zu5 {σ':St}(h:Wk σ σ')(hg:o.guard=none)(hs:ztf o.op=true)(k:exo P ops (o::os) ks Q σ'):exo P ops (o::os) ks Q σ:=by
 unfold exo zcf exG at k⊢
 rw[hg]at k⊢
 simp only at k⊢
 unfold zc6 znc at k⊢
 rw[if_pos (by rw[hs];rfl)]at k⊢
 exact k.pre h
theorem frzO (e:Nat)(hg:o.guard=none)(hs:ztf o.op=true)(k:zav (σ.ev e) λx=>x.deep=true/\x.on=true/\exo P ops (o::os) ks Q (σ.fz e x)):exo P ops (o::os) ks Q σ:=by
 obtain⟨x,hx,h1,h2,h3⟩:=zap k
 exact zu5 (fz_wk hx h1 h2) hg hs h3
theorem frzD (e:Nat){i:Nat}(k:zav (σ.ev e) λx=>x.deep=true/\x.on=true/\ex P (.region i ops true) ks Q (σ.fz e x)):ex P (.region i ops true) ks Q σ:=by
 obtain⟨x,hx,h1,h2,h3⟩:=zap k
 exact zef.pre (fz_wk hx h1 h2) h3
end
attribute [go_sem] C.fz St.fz V.map fzS_at zzw fzE_at
end
theorem ag_3:zlj Tryz.prog 3=some false:=by kernel_rfl
theorem sz_3:zby Tryz.prog 3=some 1:=by kernel_rfl
theorem in_3:qhk Tryz.prog 3=some .i64:=by kernel_rfl
theorem ze_3:zdu Tryz.prog 3=some [.t (.int .i64 0)]:=by kernel_rfl
theorem ag_4:zlj Tryz.prog 4=some false:=by kernel_rfl
theorem sz_4:zby Tryz.prog 4=some 1:=by kernel_rfl
theorem bo_4:qfm Tryz.prog 4=true:=by kernel_rfl
theorem ze_4:zdu Tryz.prog 4=some [.t (.bool false)]:=by kernel_rfl
theorem sz_5:zby Tryz.prog 5=some 1:=by kernel_rfl
theorem in_5:qhk Tryz.prog 5=some .u8:=by kernel_rfl
theorem ze_5:zdu Tryz.prog 5=some [.t (.int .u8 0)]:=by kernel_rfl
theorem ag_9:zlj Tryz.prog 9=some false:=by kernel_rfl
theorem sz_9:zby Tryz.prog 9=some 1:=by kernel_rfl
theorem in_9:qhk Tryz.prog 9=none:=by kernel_rfl
theorem st_9:qlp Tryz.prog 9=true:=by kernel_rfl
theorem ze_9:zdu Tryz.prog 9=some [.t (.str [])]:=by kernel_rfl
theorem ag_22:zlj Tryz.prog 22=some false:=by kernel_rfl
theorem sz_22:zby Tryz.prog 22=some 1:=by kernel_rfl
theorem el_22:elT Tryz.prog 22=some 24:=by kernel_rfl
theorem ag_24:zlj Tryz.prog 24=some true:=by kernel_rfl
theorem sz_24:zby Tryz.prog 24=some 2:=by kernel_rfl
theorem qsg:zg6 Tryz.prog 24 0=some (0,9):=by kernel_rfl
theorem qsu:zg6 Tryz.prog 24 1=some (1,22):=by kernel_rfl
theorem ag_25:zlj Tryz.prog 25=some false:=by kernel_rfl
theorem sz_25:zby Tryz.prog 25=some 1:=by kernel_rfl
theorem el_25:elT Tryz.prog 25=some 27:=by kernel_rfl
theorem ag_27:zlj Tryz.prog 27=some true:=by kernel_rfl
theorem sz_27:zby Tryz.prog 27=some 5:=by kernel_rfl
theorem qt7:zg6 Tryz.prog 27 0=some (0,3):=by kernel_rfl
theorem qtm:zg6 Tryz.prog 27 1=some (1,24):=by kernel_rfl
theorem qvi:zg6 Tryz.prog 27 2=some (3,9):=by kernel_rfl
theorem qrx:zg6 Tryz.prog 27 3=some (4,25):=by kernel_rfl
theorem ag_28:zlj Tryz.prog 28=some false:=by kernel_rfl
theorem sz_28:zby Tryz.prog 28=some 1:=by kernel_rfl
theorem el_28:elT Tryz.prog 28=some 30:=by kernel_rfl
theorem ag_30:zlj Tryz.prog 30=some true:=by kernel_rfl
theorem sz_30:zby Tryz.prog 30=some 10:=by kernel_rfl
theorem qt3:zg6 Tryz.prog 30 0=some (0,3):=by kernel_rfl
theorem qty:zg6 Tryz.prog 30 1=some (1,27):=by kernel_rfl
theorem qss:zg6 Tryz.prog 30 2=some (6,3):=by kernel_rfl
theorem qsb:zg6 Tryz.prog 30 3=some (7,24):=by kernel_rfl
theorem qs5:zg6 Tryz.prog 30 4=some (9,28):=by kernel_rfl
theorem nl_33:nlT Tryz.prog 33=2:=by kernel_rfl
theorem ag_33:zlj Tryz.prog 33=some false:=by kernel_rfl
theorem sz_33:zby Tryz.prog 33=some 1:=by kernel_rfl
theorem el_33:elT Tryz.prog 33=some 35:=by kernel_rfl
theorem zy3:zdy Tryz.prog 35=some 40:=by kernel_rfl
theorem ag_35:zlj Tryz.prog 35=some true:=by kernel_rfl
theorem sz_35:zby Tryz.prog 35=some 2:=by kernel_rfl
theorem ze_35:zdu Tryz.prog 35=some [.t (.str []),.nl 2]:=by kernel_rfl
theorem pl_35:qlm Tryz.prog 35=some [(0,1),(1,1)]:=by kernel_rfl
theorem qs1:zg6 Tryz.prog 35 0=some (0,9):=by kernel_rfl
theorem qtv:zg6 Tryz.prog 35 1=some (1,33):=by kernel_rfl
theorem nl_36:nlT Tryz.prog 36=5:=by kernel_rfl
theorem ag_36:zlj Tryz.prog 36=some false:=by kernel_rfl
theorem sz_36:zby Tryz.prog 36=some 1:=by kernel_rfl
theorem el_36:elT Tryz.prog 36=some 38:=by kernel_rfl
theorem zyw:zdy Tryz.prog 38=some 88:=by kernel_rfl
theorem ag_38:zlj Tryz.prog 38=some true:=by kernel_rfl
theorem sz_38:zby Tryz.prog 38=some 5:=by kernel_rfl
theorem ze_38:zdu Tryz.prog 38=some [.t (.int .i64 0),.t (.str []),.nl 2,.t (.str []),.nl 5]:=by kernel_rfl
theorem pl_38:qlm Tryz.prog 38=some [(0,1),(1,2),(3,1),(4,1)]:=by kernel_rfl
theorem qst:zg6 Tryz.prog 38 0=some (0,3):=by kernel_rfl
theorem qv1:zg6 Tryz.prog 38 1=some (1,35):=by kernel_rfl
theorem qtg:zg6 Tryz.prog 38 2=some (3,9):=by kernel_rfl
theorem qu7:zg6 Tryz.prog 38 3=some (4,36):=by kernel_rfl
theorem nl_39:nlT Tryz.prog 39=10:=by kernel_rfl
theorem ag_39:zlj Tryz.prog 39=some false:=by kernel_rfl
theorem sz_39:zby Tryz.prog 39=some 1:=by kernel_rfl
theorem el_39:elT Tryz.prog 39=some 41:=by kernel_rfl
theorem zxt:zdy Tryz.prog 41=some 168:=by kernel_rfl
theorem ag_41:zlj Tryz.prog 41=some true:=by kernel_rfl
theorem sz_41:zby Tryz.prog 41=some 10:=by kernel_rfl
theorem ze_41:zdu Tryz.prog 41=some [.t (.int .i64 0),.t (.int .i64 0),.t (.str []),.nl 2,.t (.str []),.nl 5,.t (.int .i64 0),.t (.str []),.nl 2,.nl 10]:=by kernel_rfl
theorem pl_41:qlm Tryz.prog 41=some [(0,1),(1,5),(6,1),(7,2),(9,1)]:=by kernel_rfl
theorem qto:zg6 Tryz.prog 41 0=some (0,3):=by kernel_rfl
theorem qs0:zg6 Tryz.prog 41 1=some (1,38):=by kernel_rfl
theorem qu1:zg6 Tryz.prog 41 2=some (6,3):=by kernel_rfl
theorem qtb:zg6 Tryz.prog 41 3=some (7,35):=by kernel_rfl
theorem qvg:zg6 Tryz.prog 41 4=some (9,39):=by kernel_rfl
theorem nl_45:nlT Tryz.prog 45=1:=by kernel_rfl
theorem el_45:elT Tryz.prog 45=some 3:=by kernel_rfl
theorem qfl:zdy Tryz.prog 3=some 8:=by kernel_rfl
theorem nl_57:nlT Tryz.prog 57=6:=by kernel_rfl
theorem ag_57:zlj Tryz.prog 57=some false:=by kernel_rfl
theorem sz_57:zby Tryz.prog 57=some 1:=by kernel_rfl
theorem el_57:elT Tryz.prog 57=some 93:=by kernel_rfl
theorem qai:zdy Tryz.prog 93=some 96:=by kernel_rfl
theorem ze_57:zdu Tryz.prog 57=some [.nl 6]:=by kernel_rfl
theorem ag_82:zlj Tryz.prog 82=some false:=by kernel_rfl
theorem sz_82:zby Tryz.prog 82=some 1:=by kernel_rfl
theorem ze_82:zdu Tryz.prog 82=some [.cv (.map none)]:=by kernel_rfl
theorem ag_93:zlj Tryz.prog 93=some true:=by kernel_rfl
theorem sz_93:zby Tryz.prog 93=some 6:=by kernel_rfl
theorem ze_93:zdu Tryz.prog 93=some [.t (.int .i64 0),.t (.int .i64 0),.t (.str []),.nl 2,.t (.str []),.nl 5]:=by kernel_rfl
theorem pl_93:qlm Tryz.prog 93=some [(0,1),(1,5)]:=by kernel_rfl
theorem qua:zg6 Tryz.prog 93 0=some (0,3):=by kernel_rfl
theorem qta:zg6 Tryz.prog 93 1=some (1,38):=by kernel_rfl
theorem qri:elT Tryz.prog 109=some 57:=by kernel_rfl
theorem zsq:zdy Tryz.prog 57=some 24:=by kernel_rfl
theorem nl_115:nlT Tryz.prog 115=1:=by kernel_rfl
theorem qru:elT Tryz.prog 115=some 9:=by kernel_rfl
theorem zy2:zdy Tryz.prog 9=some 16:=by kernel_rfl
theorem qqz:elT Tryz.prog 117=some 82:=by kernel_rfl
theorem zsi:zdy Tryz.prog 82=some 8:=by kernel_rfl
theorem el_122:elT Tryz.prog 122=some 5:=by kernel_rfl
theorem us_122:u8S Tryz.prog 122=true:=by kernel_rfl
theorem in_122:qhk Tryz.prog 122=none:=by kernel_rfl
theorem ag_153:zlj Tryz.prog 153=some false:=by kernel_rfl
theorem sz_153:zby Tryz.prog 153=some 1:=by kernel_rfl
theorem qq4:elT Tryz.prog 153=some 166:=by kernel_rfl
theorem zpp:zdy Tryz.prog 166=some 56:=by kernel_rfl
theorem ag_155:zlj Tryz.prog 155=some true:=by kernel_rfl
theorem sz_155:zby Tryz.prog 155=some 1:=by kernel_rfl
theorem ze_155:zdu Tryz.prog 155=some [.nl 3]:=by kernel_rfl
theorem pl_155:qlm Tryz.prog 155=some [(0,1)]:=by kernel_rfl
theorem qnr:zg6 Tryz.prog 155 0=some (0,153):=by kernel_rfl
theorem ag_166:zlj Tryz.prog 166=some true:=by kernel_rfl
theorem qqj:zby Tryz.prog 166=some 3:=by kernel_rfl
theorem qq6:zdu Tryz.prog 166=some [.t (.str []),.t (.str []),.nl 2]:=by kernel_rfl
theorem pl_166:qlm Tryz.prog 166=some [(0,1),(1,2)]:=by kernel_rfl
theorem qnn:zg6 Tryz.prog 166 0=some (0,9):=by kernel_rfl
theorem qls:zg6 Tryz.prog 166 1=some (1,35):=by kernel_rfl
theorem in_178:qhk Tryz.prog 178=some .u64:=by kernel_rfl
theorem ap_33:apT Tryz.prog 33 2:=zjy el_33 sz_35 zy3 (by decide) ze_35 rfl
theorem ap_36:apT Tryz.prog 36 5:=zjy el_36 sz_38 zyw (by decide) ze_38 rfl
theorem ap_39:apT Tryz.prog 39 10:=zjy el_39 sz_41 zxt (by decide) ze_41 rfl
theorem ap_45:apT Tryz.prog 45 1:=zjy el_45 sz_3 qfl (by decide) ze_3 rfl
theorem ap_57:apT Tryz.prog 57 6:=zjy el_57 sz_93 qai (by decide) ze_93 rfl
theorem ap_109:apT Tryz.prog 109 1:=zjy qri sz_57 zsq (by decide) ze_57 rfl
theorem ap_115:apT Tryz.prog 115 1:=zjy qru sz_9 zy2 (by decide) ze_9 rfl
theorem ap_117:apT Tryz.prog 117 1:=zjy qqz sz_82 zsi (by decide) ze_82 rfl
theorem ap_153:apT Tryz.prog 153 3:=zjy qq4 qqj zpp (by decide) qq6 rfl
attribute [go_sem] ag_3 sz_3 in_3 ze_3 ag_4 sz_4 bo_4 ze_4 sz_5 in_5 ze_5 ag_9 sz_9 in_9 st_9 ze_9 ag_22 sz_22 el_22 ag_24 sz_24 qsg qsu ag_25 sz_25 el_25 ag_27 sz_27 qt7 qtm qvi qrx ag_28 sz_28 el_28 ag_30 sz_30 qt3 qty qss qsb qs5 nl_33 ag_33 sz_33 el_33 zy3 ag_35 sz_35 ze_35 pl_35 qs1 qtv nl_36 ag_36 sz_36 el_36 zyw ag_38 sz_38 ze_38 pl_38 qst qv1 qtg qu7 nl_39 ag_39 sz_39 el_39 zxt ag_41 sz_41 ze_41 pl_41 qto qs0 qu1 qtb qvg nl_45 el_45 qfl nl_57 ag_57 sz_57 el_57 qai ze_57 ag_82 sz_82 ze_82 ag_93 sz_93 ze_93 pl_93 qua qta qri zsq nl_115 qru zy2 qqz zsi el_122 us_122 in_122 ag_153 sz_153 qq4 zpp ag_155 sz_155 ze_155 pl_155 qnr ag_166 qqj qq6 pl_166 qnn qls in_178 ap_33 ap_36 ap_39 ap_45 ap_57 ap_109 ap_115 ap_117 ap_153
attribute [go_sem] Nat.reduceEqDiff reduceIte reduceCtorEq Nat.reduceAdd Nat.reduceMul Int.reduceLE Int.reduceNeg Int.reduceToNat Nat.reduceLeDiff Nat.reduceSub Nat.reduceLT Nat.le_refl Int.cast_ofNat_Int Int.reduceLT Int.reduceGT Int.reduceGE Int.reduceEq Int.reduceBEq Nat.reduceBEq Int.reduceBNe Int.reduceAdd Int.reduceSub gt_iff_lt ge_iff_le
section
open Go.RowKit
abbrev Str:=List UInt8
inductive Tm where
 | mk (name:Str) (args:List Tm)
def Tm.name:Tm->Str|.mk n _=>n
def Tm.args:Tm->List Tm|.mk _ xs=>xs
theorem Tm.eta:∀a:Tm,Tm.mk a.name a.args=a|.mk _ _=>rfl
mutual
theorem zb3 {P:Tm->Prop}(h:∀n xs,(∀x∈xs,P x)->P (.mk n xs)):∀a,P a
 | .mk n xs=>h n xs (qey h xs)
theorem qey {P:Tm->Prop}(h:∀n xs,(∀x∈xs,P x)->P (.mk n xs)):∀xs:List Tm,∀x∈xs,P x
 | [],x,hx=>absurd hx (by simp)
 | a::xs,x,hx=>(Qu.1 hx).elim (λe=>e▸zb3 h a) (qey h xs x)
end
mutual
def Tm.fold {α:Type}(f:Str->List Tm->List α->α):Tm->α
 | .mk n xs=>f n xs (Tm.folds f xs)
def Tm.folds {α:Type}(f:Str->List Tm->List α->α):List Tm->List α
 | []=>[]
 | a::xs=>Tm.fold f a::Tm.folds f xs
end
theorem Tm.folds_map {α:Type}(f:Str->List Tm->List α->α)(xs:List Tm):Tm.folds f xs=xs.map (Tm.fold f):=by
 induction xs with
 | nil=>rfl
 | cons a xs ih=>rw[Tm.folds,ih];rfl
theorem Tm.fold_eq {α:Type}(f:Str->List Tm->List α->α)(a:Tm):Tm.fold f a=f a.name a.args (a.args.map (Tm.fold f)):=by
 cases a;rw[Tm.fold,Tm.folds_map];rfl
inductive Fm where
 | mk (op:Int) (atom:Tm) (var:Str) (parts:List Fm)
def Fm.op:Fm->Int|.mk o _ _ _=>o
def Fm.atom:Fm->Tm|.mk _ a _ _=>a
def Fm.var:Fm->Str|.mk _ _ v _=>v
def Fm.parts:Fm->List Fm|.mk _ _ _ ps=>ps
theorem Fm.eta:∀a:Fm,Fm.mk a.op a.atom a.var a.parts=a|.mk _ _ _ _=>rfl
mutual
theorem zck {P:Fm->Prop}(h:∀o a v ps,(∀x∈ps,P x)->P (.mk o a v ps)):∀f,P f
 | .mk o a v ps=>h o a v ps (qe9 h ps)
theorem qe9 {P:Fm->Prop}(h:∀o a v ps,(∀x∈ps,P x)->P (.mk o a v ps)):∀xs:List Fm,∀x∈xs,P x
 | [],x,hx=>absurd hx (by simp)
 | a::xs,x,hx=>(Qu.1 hx).elim (λe=>e▸zck h a) (qe9 h xs x)
end
mutual
def Fm.fold {α:Type}(f:Int->Tm->Str->List Fm->List α->α):Fm->α
 | .mk o a v ps=>f o a v ps (Fm.folds f ps)
def Fm.folds {α:Type}(f:Int->Tm->Str->List Fm->List α->α):List Fm->List α
 | []=>[]
 | a::xs=>Fm.fold f a::Fm.folds f xs
end
theorem Fm.folds_map {α:Type}(f:Int->Tm->Str->List Fm->List α->α)(xs:List Fm):Fm.folds f xs=xs.map (Fm.fold f):=by
 induction xs with
 | nil=>rfl
 | cons a xs ih=>rw[Fm.folds,ih];rfl
theorem Fm.fold_eq {α:Type}(f:Int->Tm->Str->List Fm->List α->α)(a:Fm):Fm.fold f a=f a.op a.atom a.var a.parts (a.parts.map (Fm.fold f)):=by
 cases a;rw[Fm.fold,Fm.folds_map];rfl
def tmC:Tm->List T:=Tm.fold λn _ rs=>[.str n,.sl 2 rs]
theorem zab (a:Tm):tmC a=[.str a.name,.sl 2 (a.args.map tmC)]:=Tm.fold_eq _ a
def fmC:Fm->List T:=Fm.fold λo a v _ rs=>[.int .i64 o,.str a.name,.sl 2 (a.args.map tmC),.str v,.sl 5 rs]
theorem zaa (a:Fm):fmC a=[.int .i64 a.op,.str a.atom.name,.sl 2 (a.atom.args.map tmC),.str a.var,.sl 5 (a.parts.map fmC)]:=Fm.fold_eq _ a
theorem ze0 (o:Int)(a:Tm)(v:Str)(ps:List Fm):fmC (.mk o a v ps)=[.int .i64 o,.str a.name,.sl 2 (a.args.map tmC),.str v,.sl 5 (ps.map fmC)]:=zaa _
abbrev tmD (a:Tm):D:=.agg (tmC a)
abbrev fmD (a:Fm):D:=.agg (fmC a)
abbrev tmS (xs:List Tm):T:=.sl 2 (xs.map tmC)
abbrev fmS (xs:List Fm):T:=.sl 5 (xs.map fmC)
abbrev iD (n:Int):D:=.one (.int .i64 n)
abbrev bD (b:Bool):D:=.one (.bool b)
abbrev sD (s:Str):D:=.one (.str s)
theorem zaj {α:Type}(f:α->List T)(xs:List α)(k:Nat)(h:k<xs.length):(xs.map f).getD k []=f (xs[k]'h):=by simp[List.getD,h]
def Tm.wt:Tm->Nat:=Tm.fold λn xs rs=>n.length+xs.length+rs.sum
theorem Tm.wt_eq (a:Tm):a.wt=a.name.length+a.args.length+(a.args.map Tm.wt).sum:=Tm.fold_eq _ a
def Fm.wt:Fm->Nat:=Fm.fold λ_ a v ps rs=>a.wt+v.length+ps.length+rs.sum
theorem Fm.wt_eq (a:Fm):a.wt=a.atom.wt+a.var.length+a.parts.length+(a.parts.map Fm.wt).sum:=Fm.fold_eq _ a
def zr7 (xs:List Tm):Nat:=xs.length+(xs.map Tm.wt).sum
def zu1 (xs:List Fm):Nat:=xs.length+(xs.map Fm.wt).sum
def szR (w:Nat)(left:Int):Int:=if(w:Int)<=left then left-w else -1
def zr1 {α:Type}(f:α->Nat)(xs:List α)(k:Nat):Nat:=((xs.take k).map f).sum
theorem zf5 {α:Type}(f:α->Nat)(xs:List α):zr1 f xs 0=0:=by simp[zr1]
theorem zmx {α:Type}(f:α->Nat)(xs:List α)(k:Nat)(h:k<xs.length):zr1 f xs (k+1)=zr1 f xs k+f xs[k]:=by
 unfold zr1
 rw[Qn h,Q1,List.sum_append];simp
theorem zxi {α:Type}(f:α->Nat)(xs:List α)(k:Nat):zr1 f xs k<=(xs.map f).sum:=by
 unfold zr1
 conv=>rhs;rw[<-Jh k xs,Q1,List.sum_append]
 omega
theorem zrs {α:Type}(f:α->Nat)(xs:List α)(k:Nat)(h:xs.length<=k):zr1 f xs k=(xs.map f).sum:=by
 unfold zr1
 rw[Qr h]
theorem zbz {α:Type}(f:α->Nat)(xs:List α):∀x∈xs,f x<=(xs.map f).sum:=by
 induction xs with
 | nil=>simp
 | cons a xs ih =>
  intro x hx;rcases Qu.1 hx with rfl|hx
  ·simp
  ·have:=ih x hx;simp;omega
noncomputable def same {α:Type}(a b:α):Bool:=@decide (a=b) (Classical.propDecidable _)
theorem zb1 {α:Type}{a b:α}:same a b=true↔a=b:=by simp[same]
theorem zcy {α:Type}{a b:α}:same a b=false↔a≠b:=by simp[same]
theorem za3 {α:Type}(a:α):same a a=true:=by simp[same]
theorem zdv {α:Type}(a b:α)(xs ys:List α):same (a::xs) (b::ys)=(same a b&&same xs ys):=by
 rw[Kp,Qb,zb1,zb1,zb1,List.cons.injEq]
theorem zhy {α:Type}:same ([]:List α) []=true:=za3 _
theorem zaq {k:Nat}(h:k<9223372036854775807):IntKind.i64.wrap ((k:Int)+1)=((k+1:Nat):Int):=qee h
theorem zgi {w:Nat}{l:Int}(h0:0<=l)(h:szR w l<0):l<w:=by unfold szR at h;split at h<;>omega
theorem zed {w:Nat}{l:Int}(h:¬szR w l<0):(w:Int)<=l/\szR w l=l-w:=by
 by_cases hh:(w:Int)<=l
 ·exact⟨hh,if_pos hh⟩
 ·exact absurd (by rw[szR,if_neg hh];omega) h
theorem zd0 {w:Nat}{l:Int}(h:l<w):szR w l = -1:=if_neg Y0
theorem zo3 {w:Nat}{l:Int}(h:(w:Int)<=l):szR w l=l-w:=if_pos h
theorem zxm {k:IntKind}{a b:Int}(h:a=b):T.int k a=T.int k b:=h▸rfl
theorem zhj (A:List (List T))(n k:Nat)(z ts:List T)(hA:A.length=k)(hk:k<n)(hz:ts.length=z.length):zep (A++List.replicate (n-k) z) k 0 ts=A++[ts]++List.replicate (n-(k+1)) z:=by
 subst hA
 have e:List.replicate (n-A.length) z=z::List.replicate (n-(A.length+1)) z:=by
  rw[show n-A.length=(n-(A.length+1))+1 by omega];rfl
 unfold zep
 rw[e]
 simp[qg6 _ _ hz]
end
end Go.Proofs.YtnemmlahbbbobaaGreat
