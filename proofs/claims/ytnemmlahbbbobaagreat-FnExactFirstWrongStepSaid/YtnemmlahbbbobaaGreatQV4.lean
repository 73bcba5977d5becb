/-
  The walk over plain data, and contracts of functions of the program and of its laws.
  Conditions: those that each theorem names.
-/
import Derived.Test.YtnemmlahbbbobaaGreatQV3
import Derived.MapKept
import Derived.RangeFuncNested
import Derived.RangeFuncLeaves
import Derived.Test.YtnemmlahbbbobaaGreatProg
import Derived.KernelRfl
namespace Go.Proofs.YtnemmlahbbbobaaGreat
set_option linter.unusedSimpArgs false
set_option linter.unusedVariables false
set_option linter.unusedSectionVars false
set_option maxRecDepth 4000
set_option maxHeartbeats 8000000
section
open Go.RowKit
variable {P:Program}
theorem zka {σ:St}{U:List (Nat×List (List T))}{e n:Nat}(h:σ.has e n):(σ.inp U).has e n:=by
 obtain⟨x,hx,hn⟩:=h
 have:∀U:List (Nat×List (List T)),∃y,zzu U σ.ev e=some y/\y.gen=x.gen:=by
  intro U;induction U with
  | nil=>exact⟨x,hx,rfl⟩
  | cons p U ih =>
   obtain⟨y,hy,hg⟩:=ih;unfold zzu;by_cases he:e=p.1
   ·rw[he,zae,<-he,hx];exact⟨_,rfl,rfl⟩
   ·rw[zak _ _ he];exact⟨y,hy,hg⟩
 obtain⟨y,hy,hg⟩:=this U
 exact⟨y,hy,Yp⟩
theorem zs8 {n0:Nat->Prop}{N:Nat}{σ:St}{g:Gh}{a:Act}{w w':World}(hR:Rel n0 N σ g a w){U:List (Nat×List (List T))}{fp:List Nat}(hfpU:∀b∈fp,∃p∈U,b∈g.φ p.1)(hOU:∀p∈U,σ.On p.1)(hbk:Bk (fun k=>k<w.heap.size/\k∉fp) w w')
  {φ':Nat->List Nat} (hb':∀p∈U,∀b∈φ' p.1,b∈fp\/w.heap.size<=b) (j1:∀e,(∀p∈U,p.1≠e)->φ' e=g.φ e) :
  ∀b,zb8 σ g w b->w'.heap[b]?=w.heap[b]?/\zb8 (σ.inp U) { g with φ:=φ' } w' b:=by
 rintro b ⟨hf,hr⟩
 have hnot:b∉fp:=fun hm=>by
  obtain⟨p,hp,hm⟩:=hfpU b hm;exact hr p.1 (hOU p hp) hm
 refine⟨hbk.block b ⟨hf.2.2.1,hnot⟩,⟨hf.1,fun e x hx hon hh=>?_,Jp hf.2.2.1 hbk.size,hf.2.2.2⟩,fun e ho hm=>?_⟩
 case refine_2 =>
  have hm:b∈φ' e:=hm;by_cases hU:∃p∈U,p.1=e
  ·obtain⟨p,hp,rfl⟩:=hU;rcases hb' p hp b hm with h3|h3
   ·exact hnot h3
   ·have:=hf.2.2.1;omega
  ·have hne:∀p∈U,p.1≠e:=fun p hp he=>hU ⟨p,hp,he⟩;rw[j1 e hne]at hm;obtain⟨x,hx,hon⟩:=ho;refine hr e ⟨x,?_,hon⟩ hm;rw[<-hx]
   exact(ziy fun hm=>by
    obtain⟨p,hp,he⟩:=Ka.1 hm
    exact hne p hp he).symm
 have hh:(φ' e).head?=some b:=hh
 by_cases hU:∃p∈U,p.1=e
 ·obtain⟨p,hp,rfl⟩:=hU;rcases hb' p hp b (List.mem_of_mem_head? hh)with h3|h3
  ·exact hnot h3
  ·have:=hf.2.2.1;omega
 ·have hne:∀p∈U,p.1≠e:=fun p hp he=>hU ⟨p,hp,he⟩;rw[j1 e hne]at hh;refine hf.2.1 e x ?_ hon hh;rw[<-hx]
  exact(ziy fun hm=>by
   obtain⟨p,hp,he⟩:=Ka.1 hm
   exact hne p hp he).symm
theorem qd7 {o:Oper}{σ:St}{x:Operand}{asx:Array Operand}{ts:Array TypeId}{f:FuncId}{cvs:List V}{pre:List D}{d:D}{post:List D}{d':D}{res:List D}{p1:List V}{gv:V}{p2:List V}(ho:o.op=.call ⟨.value x,asx,ts⟩)
  (h:IC P f pre d post d' res) (hc:za0 (σ.get P 0 x)=some (f,cvs)) (hx:σ.gets P asx ts++cvs=p1++gv::p2) (h1:zwl p1 pre) (h2:zwl p2 post) (hg:inG σ gv d d') (hr:res.all D.fl=true)
  (hview:Deep σ\/Shal σ (quc gv d')):zah P o σ ((σ.inp (quc gv d')).put o.dst (znn (res.map D.toV))):=by
 intro n0 N g a w hR hn hdN
 obtain⟨vs,e1,e2⟩:=zdb hR ho hc h.1
 unfold Oper.wp
 rw[e1]
 rw[hx]at e2
 obtain⟨us1,vs2,rfl,v1,v2⟩:=e2.split
 obtain⟨v,us2,rfl,v3,v4⟩:=v2
 have hgiven:∃(U:List (Nat×List (List T))) (fp tp:List Nat),quc gv d'=U/\U.Pairwise (fun p q=>p.1≠q.1)/\(∀p∈U,∃sz rows gn,σ.ev p.1=some ⟨true,sz,rows,gn,true⟩)/\GD w d v fp tp/\fp.Nodup/\(∀b∈fp,∃p∈U,b∈g.φ p.1)/\(∀p∈U,∀b∈g.φ p.1,b∈fp) ∧
   ∀{w':World} {fp' tp':List Nat},GD w' d' v fp' tp'->fp'.Nodup->∃φ':Nat->List Nat,(∀e,(∀p∈U,p.1≠e)->φ' e=g.φ e)/\(∀p∈U,∃sz rows gn,σ.ev p.1=some ⟨true,sz,rows,gn,true⟩/\za5 w' (.sl sz p.2) (g.ψ p.1 gn) (φ' p.1)/\(φ' p.1).Nodup/\∀b∈φ' p.1,b∈fp') ∧
    ∀p∈U,∀q∈U,p.1≠q.1->∀b∈φ' p.1,b∉φ' q.1:=by
  unfold inG at hg;split at hg
  ·rename_i c t t';obtain⟨k1,k2,⟨fp,tp,k3,k4,k5,k6⟩,k7⟩:=zg6 hR hg (vs:=[v]) ⟨v,[],rfl,v3,rfl⟩;obtain⟨v0,vs0,f1,f2,t2,e,rfl,rfl,q1,q2⟩:=k3;cases e;obtain⟨_,rfl,rfl⟩:=q2;refine⟨_,f1++[],zll t f1++[],rfl,k1,fun p hp=>(k2 p hp).2,by simpa using⟨q1,rfl⟩,k4,k5,k6,fun hg' hn'=>k7 (fp':=_) (tp':=_) ⟨v,[],_,[],[],rfl,by simp,rfl,hg'.1,rfl,rfl,rfl⟩ hn'⟩
  ·rename_i cs ts ts';obtain⟨u,rfl,v3⟩:=v3;obtain⟨k1,k2,⟨fp,tp,k3,k4,k5,k6⟩,k7⟩:=zg6 hR hg v3;refine⟨_,fp,tp,rfl,k1,fun p hp=>(k2 p hp).2,⟨u,rfl,k3⟩,k4,k5,k6,fun hg' hn'=>?_⟩;obtain⟨u',e,hg'⟩:=hg';cases e;exact k7 hg' hn'
  ·exact hg.elim
 obtain⟨U,fp,tp,hUe,u1,u2,u3,u4,u5,u6,u7⟩:=hgiven
 rw[hUe]at hview⊢
 refine(h.2 w us1 v us2 fp tp (zln _ h1 v1) u3 (zln _ h2 v4) u4).mono ?_
 rintro e w' ⟨us,fp',tp',rfl,q1,q2,q3,q4⟩
 obtain⟨v0,us0,f1,f2,t1,t2,e0,rfl,rfl,q5,q6⟩:=q1
 cases e0
 obtain⟨n1,n2,n3⟩:=Q8.1 q2
 obtain⟨φ',j1,j2,j3⟩:=u7 q5 n1
 have hsub:∀b∈f1,b∈fp\/w.heap.size<=b:=fun b hb=>q3 b (J3 _ hb)
 have hOU:∀p∈U,σ.On p.1:=fun p hp=>by obtain⟨sz,rows,gn,e⟩:=u2 p hp;exact⟨_,e,rfl⟩
 have hBk:Bk n0 w w':=⟨q4.os,q4.tape,q4.output,q4.size,fun k hk=>q4.block k ⟨hn k hk,fun hm=>by
  obtain⟨p,hp,hm⟩:=u5 k hm
  exact hR.etop p.1 (hOU p hp) k hm hk⟩⟩
 have hR':Rel n0 N (σ.inp U) { g with φ:=φ' } a w':=by
  have hb':∀p∈U,∀b∈φ' p.1,b∈fp\/w.heap.size<=b:=fun p hp b hb=>by
   obtain⟨_,_,_,_,_,_,q⟩:=j2 p hp;exact hsub b (q b hb)
  rcases hview with⟨d1,d2,d3⟩|hS
  ·refine hR.inp hn u1 u6 u5 q4 hsub j1 j2 j3 (fun i v h=>qr7 (g:=g) (g':={ g with φ:=φ' }) rfl rfl (fun e n=>zka) (zs8 hR u5 hOU q4 hb' j1) (d1 i) h) (fun b cs vs hb h=>zme (g:=g) (g':={ g with φ:=φ' }) rfl rfl (fun e n=>zka) (zs8 hR u5 hOU q4 hb' j1) (d2 b cs hb) h) (fun e x he hx hon v fpx hE hs=>?_) (fun e x hx hon=>?_)
   ·obtain⟨ao,cap,r1,r2,r3,r4⟩:=hE;refine⟨ao,cap,r1,r2,r3,?_⟩;rcases r4 with r4|⟨b,cells,ty,fps,r4,r5,r6,r7,r8⟩
    ·exact Or.inl r4
    ·subst r5;rw[if_pos (d3 e x hx).2]at r8;exact Or.inr ⟨b,cells,ty,fps,r4,rfl,by rw[hs b (by simp)];exact r6,r7,by rw[if_pos (d3 e x hx).2];exact zaq.keep cells 0 x.sz x.rows fps r8 fun b' hb'=>hs b' (by simp[hb'])⟩
   ·rw[(d3 e x hx).1]at hon;cases hon
  ·have hhead:∀p∈U,∀b∈g.φ p.1,(g.φ p.1).head?=some b:=fun p hp b hb=>by
    obtain⟨sz,rows,gn,e⟩:=u2 p hp;have hf:=hS p hp;rw[e]at hf;obtain⟨ao,cap,r1,r2,r3,r4⟩:=hR.evs p.1 _ e rfl;rcases r4 with⟨_,_,_,r4⟩|⟨b0,cells,ty,fps,r4,r5,r6,r7,r8⟩
    ·rw[r4]at hb;cases hb
    ·rw[if_pos rfl]at r8;have:=zaq.flat hf r8;rw[r5,this]at hb⊢;rw[Qy.1 hb];rfl
   have hnot:∀b,Fix σ g w b->b∉fp:=fun b hf hm=>by
    obtain⟨p,hp,hm⟩:=u5 b hm;obtain⟨sz,rows,gn,e⟩:=u2 p hp;exact hf.2.1 p.1 _ e rfl (hhead p hp b hm)
   have m:Mv σ (σ.inp U) g { g with φ:=φ' } w w':=by
    refine⟨fun b hf=>q4.block b ⟨hf.2.2.1,hnot b hf⟩,fun b hf=>⟨hf.1,fun e x hx hon hh=>?_,Jp hf.2.2.1 q4.size,hf.2.2.2⟩,fun b hb=>⟨rfl,hb⟩,fun e n he=>⟨zka he,rfl⟩,fun b hb=>(zs8 hR u5 hOU q4 hb' j1 b hb).2.2⟩;have hh:(φ' e).head?=some b:=hh;by_cases hU:∃p∈U,p.1=e
    ·obtain⟨p,hp,rfl⟩:=hU;rcases hb' p hp b (List.mem_of_mem_head? hh)with h3|h3
     ·exact hnot b hf h3
     ·have:=hf.2.2.1;omega
    ·have hne:∀p∈U,p.1≠e:=fun p hp he=>hU ⟨p,hp,he⟩;rw[j1 e hne]at hh;refine hf.2.1 e x ?_ hon hh;rw[<-hx]
     exact(ziy fun hm=>by
      obtain⟨p,hp,he⟩:=Ka.1 hm
      exact hne p hp he).symm
   exact hR.inp hn u1 u6 u5 q4 hsub j1 j2 j3 (fun i v h=>m.vr h) (fun b cs vs _ h=>m.crs h) (fun e x _ _ _ v fpx hE hs=>m.evr hE hs) (fun e x _ _ v h=>m.rep h)
 refine⟨{ g with φ:=φ' },?_,hBk,rfl,rfl⟩
 exact hR'.put o.dst (ze6 (zbf.vrl (zq4 hr q6)) (fun y hy=>by
  obtain⟨d,_,rfl⟩:=Ka.1 hy
  cases d<;>rfl)) hdN
def qpt (σ:St):List (Nat×List (List T))->Prop
 | []=>True
 | p::U=>zar (σ.ev p.1) (fun x=>flR x.rows=true)/\qpt σ U
theorem zoc {σ:St}:∀{U:List (Nat×List (List T))},qpt σ U->Shal σ U
 | [],_,p,hp=>absurd hp (by simp)
 | q::U,h,p,hp=>by
  rcases Qp.1 hp with rfl|hp
  ·exact h.1
  ·exact zoc h.2 p hp
theorem zzh:∀{l:List (Nat×V)},(l.all fun p=>p.2.mOk)=true->∀i,(zjl l i).mOk=true
 | [],_,_=>rfl
 | (j,v)::l,h,i=>by
  rw[Kq,Qe]at h;unfold zjl;split
  ·exact h.1
  ·exact zzh h.2 i
theorem zxr:∀{bl:List (Nat×List C)},(bl.all fun p=>p.2.all C.mOk)=true->∀{b cs},tbl bl b=some cs->cs.all C.mOk=true
 | [],_,_,_,hb=>nomatch hb
 | (j,v)::l,h,b,cs,hb=>by
  rw[Kq,Qe]at h;unfold tbl at hb;split at hb
  ·cases hb;exact h.1
  ·exact zxr h.2 hb
theorem zxl:∀{el:List (Nat×Ev)},(el.all fun p=>p.2.on&&p.2.deep)=true->∀{e x},tbl el e=some x->x.on=true/\x.deep=true
 | [],_,_,_,hb=>nomatch hb
 | (j,v)::l,h,b,cs,hb=>by
  rw[Kq,Qe]at h;unfold tbl at hb;split at hb
  ·cases hb;simpa using h.1
  ·exact zxl h.2 hb
theorem zvx {l:List (Nat×V)}{bl:List (Nat×List C)}{el:List (Nat×Ev)}(h1:(l.all fun p=>p.2.mOk)=true)(h2:(bl.all fun p=>p.2.all C.mOk)=true)(h3:(el.all fun p=>p.2.on&&p.2.deep)=true):Deep (hd l bl el) :=
 ⟨fun i=>zzh h1 i,fun _ _ hb=>zxr h2 hb,fun _ _ he=>zxl h3 he⟩
def spI (xs:List V)(n:Nat)(K:List V->V->List V->Prop):Prop:=match xs.drop n with
 | gv::p2=>K (xs.take n) gv p2
 | []=>False
theorem spI_ex {xs:List V}{n:Nat}{K:List V->V->List V->Prop}(h:spI xs n K):∃p1 gv p2,xs=p1++gv::p2/\p1.length<=n/\K p1 gv p2/\gv=(xs.drop n).headD (.one .any):=by
 unfold spI at h
 split at h
 ·rename_i gv p2 hd;exact⟨xs.take n,gv,p2,by rw[<-hd,Jg],by simp;omega,h,by rw[hd];rfl⟩
 ·exact h.elim
def St.cI (P:Program)(σ:St)(x:Operand)(asx:Array Operand)(ts:Array TypeId)(n:Nat)(dst:Option Nat)(d':D)(res:List D):St :=
 (σ.inp (quc (((σ.gets P asx ts++((za0 (σ.get P 0 x)).map (·.2)).getD []).drop n).headD (.one .any)) d')).put dst (znn (res.map D.toV))
section
variable {ks:List Fr}{Q:Exit->St->Prop}{σ:St}{ops:Array Oper}{os:List Oper}{ty:TypeId}{ps:String}{af:Array Edge}{dst:Option Nat}{x:Operand}{asx:Array Operand}{ts:Array TypeId}{f:FuncId}{pre:List D}{d:D}{post:List D}{d':D}{res:List D}
theorem zue (hview:∀gv,(gv=(((σ.gets P asx ts++((za0 (σ.get P 0 x)).map (·.2)).getD []).drop pre.length).headD (.one .any)))->Deep σ\/Shal σ (quc gv d'))(h:IC P f pre d post d' res)
  (hp:zar (za0 (σ.get P 0 x)) fun p=>p.1=f/\spI (σ.gets P asx ts++p.2) pre.length fun p1 gv p2=>zwl p1 pre/\zwl p2 post/\inG σ gv d d') (hr:res.all D.fl=true) :
  zah P ⟨dst,.call ⟨.value x,asx,ts⟩,ty,ps,af,none⟩ σ (σ.cI P x asx ts pre.length dst d' res):=by
 obtain⟨⟨f',cvs⟩,h1,rfl,h2⟩:=zai hp
 obtain⟨p1,gv,p2,e,_,⟨k1,k2,k3⟩,e2⟩:=spI_ex h2
 unfold St.cI
 have e3:((σ.gets P asx ts++((za0 (σ.get P 0 x)).map (·.2)).getD []).drop pre.length).headD (.one .any)=gv:=by rw[h1];exact e2.symm
 rw[e3]
 exact qd7 (o:=⟨dst,.call ⟨.value x,asx,ts⟩,ty,ps,af,none⟩) rfl h h1 e k1 k2 k3 hr (hview gv e3.symm)
theorem qrb (h:IC P f pre d post d' res)
  (hp:zar (za0 (σ.get P 0 x)) fun p=>p.1=f/\spI (σ.gets P asx ts++p.2) pre.length fun p1 gv p2=>zwl p1 pre/\zwl p2 post/\inG σ gv d d')
  (hs:qpt σ (quc (((σ.gets P asx ts++((za0 (σ.get P 0 x)).map (·.2)).getD []).drop pre.length).headD (.one .any)) d')) (hr:res.all D.fl=true)
  (k:exo P ops os ks Q (σ.cI P x asx ts pre.length dst d' res)):exo P ops (⟨dst,.call ⟨.value x,asx,ts⟩,ty,ps,af,none⟩::os) ks Q σ :=
 zc6 rfl rfl (zue (fun gv e=>Or.inr (e▸zoc hs)) h hp hr) k
theorem zou {l:List (Nat×V)}{bl:List (Nat×List C)}{el:List (Nat×Ev)}(h:IC P f pre d post d' res)(hw:wkL σ (hd l bl el) l/\wkB σ (hd l bl el) bl/\wkE σ el)
  (hd1:(l.all fun p=>p.2.mOk)=true) (hd2:(bl.all fun p=>p.2.all C.mOk)=true) (hd3:(el.all fun p=>p.2.on&&p.2.deep)=true)
  (hp:zar (za0 ((hd l bl el).get P 0 x)) fun p=>p.1=f/\spI ((hd l bl el).gets P asx ts++p.2) pre.length fun p1 gv p2=>zwl p1 pre/\zwl p2 post/\inG (hd l bl el) gv d d') (hr:res.all D.fl=true)
  (k:exo P ops os ks Q ((hd l bl el).cI P x asx ts pre.length dst d' res)):exo P ops (⟨dst,.call ⟨.value x,asx,ts⟩,ty,ps,af,none⟩::os) ks Q σ :=
 zc6 rfl rfl (zah.pre (zac hw) (zue (fun gv e=>Or.inl (zvx hd1 hd2 hd3)) h hp hr)) k
end
attribute [go_sem] qpt spI St.cI quc inU St.inp zzu inG inK zwl nmV T.nm D.fl V.mOk C.mOk List.drop_succ_cons List.take_zero List.take_succ_cons List.headD_cons Option.getD_some
end
section
open Go.RowKit
variable {P:Program}
def zu0:T->T->Option Bool
 | .int k a,.int k' b=>if k=k' then some (decide (a=b))else none
 | .str a,.str b=>some (decide (a=b))
 | .bool a,.bool b=>some (a==b)
 | _,_=>none
def zch (k:T):List (List T)->Option (Option (List T))
 | []=>some none
 | []::_=>none
 | (x::vs)::rows=>match zu0 k x with
  | some true=>some (some vs)
  | some false=>zch k rows
  | none=>none
def zuo:TypeDesc->T->Bool
 | .int k,.int k' _=>decide (k'=k)
 | .string,.str _=>true
 | .bool,.bool _=>true
 | _,_=>false
theorem ziq {w:World}{A:Nat->Prop}{d:TypeDesc}{k:T}{v:Value}(h:zuo d k=true)(hv:zas w A k v):Go.MapKept.IsKey d v:=by
 cases d<;>cases k<;>simp[zuo]at h<;>unfold zas at hv
 ·subst hv;trivial
 ·rw[hv.1];exact h
 ·rw[hv.1];trivial
theorem zi5 {w:World}{A:Nat->Prop}{d:TypeDesc}{k x:T}{kv xv:Value}{b:Bool}(hd:zuo d k=true)(h:zu0 k x=some b)(hk:zas w A k kv)(hx:zas w A x xv):Instr.sameNow d kv xv=some b:=by
 cases d<;>cases k<;>simp[zuo]at hd<;>cases x<;>simp[zu0]at h<;>unfold zas at hk hx
 ·subst hk hx h;rfl
 ·rw[hk.1,hx.1];obtain⟨h1,h2⟩:=h;subst h1 h2;simp[Instr.sameNow];exact Kl.2 (by simp)
 ·rw[hk.1,hx.1];subst h;simp only[Instr.sameNow,Qc];rw[Kl,Go.MapKept.bytes_beq];simp
theorem zd4 {w:World}{A:Nat->Prop}{d:TypeDesc}{k:T}{kv:Value}(hd:zuo d k=true)(hk:zas w A k kv)(ag:Bool):∀(rows:List (List T))(es:List MapEntry)(i:Nat)(r:Option (List T)),zam w A ag rows es->zch k rows=some r →
  match r with
  | none=>Instr.findNow d kv es i=some none
  | some vs=>∃j u us,Instr.findNow d kv es i=some (some (j,u))/\(if ag=true then u=.agg ⟨us⟩else us=[u])/\zaf w A vs us
 | [],es,i,r,h,hf=>by
  unfold zam at h;subst h;cases hf;rfl
 | []::_,_,_,_,_,hf=>by cases hf
 | (x::vs)::rows,es,i,r,h,hf=>by
  unfold zam at h;obtain⟨e,es',us,rfl,h1,h2,h3⟩:=h;unfold zaf at h2;obtain⟨xv,us',e1,h2,h4⟩:=h2;cases e1;unfold zch at hf;split at hf
  ·rename_i hq;cases hf;exact⟨i,e.val,us,by simp[Instr.findNow,zi5 hd hq hk h2],h1,h4⟩
  ·rename_i hq;have:=zd4 hd hk ag rows es' (i+1) r h3 hf;simp only[Instr.findNow,zi5 hd hq hk h2];exact this
  ·cases hf
def rowV (ag:Bool)(vs:List T):Option V:=if ag=true then some (.agg (vs.map .t))else match vs with|[t]=>some (.one (.t t))|_=>none
def qlz (P:Program)(t:TypeId):Option (TypeDesc×TypeId):=match P.underlying t with
 | some (.map kt et)=>(P.underlying kt).map fun d=>(d,et)
 | _=>none
theorem zlz {t:TypeId}{d:TypeDesc}{et:TypeId}(h:qlz P t=some (d,et)):∃kt,P.underlying t=some (.map kt et)/\P.underlying kt=some d:=by
 unfold qlz at h
 split at h
 ·rename_i kt et' hu;obtain⟨d',h1,h2⟩:=Q0.1 h;cases h2;exact⟨kt,hu,h1⟩
 ·cases h
theorem qrg {σ:St}{g:Gh}{w:World}:∀{ts:List T}{vs:List Value},zaf w (Fix σ g w) ts vs->CRs σ g w (ts.map .t) vs
 | [],vs,h=>by unfold zaf at h;exact h
 | t::ts,vs,h=>by
  unfold zaf at h;obtain⟨v,vs',rfl,h1,h2⟩:=h;exact⟨v,vs',rfl,h1,qrg h2⟩
attribute [go_sem] zch zu0 zuo rowV qlz
end
section
open Go.RowKit
variable {P:Program}
def qwd (v:Value):T->T
 | .sl sz rows=>.pin v (.sl sz rows)
 | t=>t
def ql0 (us:Nat->Value):Nat->List T->List T
 | _,[]=>[]
 | j,c::cs=>qwd (us j) c::ql0 us (j+1) cs
def zdz (vs:Nat->Nat->Value):Nat->List (List T)->List (List T)
 | _,[]=>[]
 | i,r::rs=>ql0 (vs i) 0 r::zdz vs (i+1) rs
theorem zzl (us:Nat->Value):∀(cs:List T)(j:Nat),(ql0 us j cs).length=cs.length
 | [],_=>rfl
 | c::cs,j=>by simp[ql0,zzl us cs]
theorem zii (vs:Nat->Nat->Value):∀(rs:List (List T))(i:Nat),(zdz vs i rs).length=rs.length
 | [],_=>rfl
 | c::cs,j=>by simp[zdz,zii vs cs]
theorem za5.pin {w:World}{t:T}{v:Value}{fp:List Nat}(h:za5 w t v fp):za5 w (qwd v t) v fp:=by
 unfold qwd
 split
 ·unfold za5;exact⟨rfl,h⟩
 ·exact h
theorem zbp.pin {w:World}{cells:Array Value}{us:Nat->Value}:∀{cs:List T}{o j:Nat}{fps:List Nat},zbp w cells o cs fps->(∀i,us (j+i)=cells.getD (o+i) undef)->zbp w cells o (ql0 us j cs) fps
 | [],_,_,_,h,_=>h
 | c::cs,o,j,fps,h,hu=>by
  unfold zbp at h;obtain⟨v,f1,f2,h1,rfl,h2,h3⟩:=h;unfold ql0 zbp;have e:us j=v:=by have:=hu 0;rw[Yg,Yg]at this;rw[this,Array.getD_eq_getD_getElem?,h1];rfl
  refine⟨v,f1,f2,h1,rfl,by rw[e];exact h2.pin,zbp.pin h3 fun i=>?_⟩;have:=hu (i+1)
  rwa [show j+(i+1)=j+1+i by omega,show o+(i+1)=o+1+i by omega]at this
theorem zaq.pin {w:World}{cells:Array Value}{sz:Nat}:∀{rows:List (List T)}{i:Nat}{fps:List Nat},zaq w cells (i*sz) sz rows fps->zaq w cells (i*sz) sz (zdz (fun i j=>cells.getD (i*sz+j) undef) i rows) fps
 | [],_,_,h=>h
 | r::rs,i,fps,h=>by
  unfold zaq at h;obtain⟨h1,f1,f2,rfl,h2,h3⟩:=h;unfold zdz zaq;refine⟨by rw[zzl];exact h1,f1,f2,rfl,h2.pin fun j=>by simp,?_⟩;rw[show i*sz+sz=(i+1)*sz by rw[Kw];omega]at h3⊢;exact zaq.pin h3
theorem za5.pins {w:World}{sz:Nat}{rows:List (List T)}{v:Value}{fp:List Nat}(h:za5 w (.sl sz rows) v fp):∃vs,za5 w (.sl sz (zdz vs 0 rows)) v fp:=by
 unfold za5 at h
 obtain⟨ao,cap,h1,h2,h3,h4⟩:=h
 rcases h4 with⟨k1,k2,rfl,k4⟩|⟨b,cells,ty,fps,k1,k2,k3,k4,k5⟩
 ·refine⟨fun _ _=>undef,?_⟩;unfold za5;exact⟨ao,cap,h1,h2,h3,Or.inl ⟨k1,k2,rfl,k4⟩⟩
 ·refine⟨fun i j=>cells.getD (i*sz+j) undef,?_⟩;unfold za5;have:=zaq.pin (i:=0) (by rw[Nat.zero_mul];exact k5);rw[Nat.zero_mul]at this;exact⟨ao,cap,by rw[zii];exact h1,by rw[zii];exact h2,h3,Or.inr ⟨b,cells,ty,fps,k1,k2,k3,k4,this⟩⟩
def zro:T->T
 | .pin _ t=>t
 | t=>t
def zh7 (rs:List (List T)):List (List T):=rs.map fun r=>r.map zro
theorem za5.unpin {w:World}:∀{t:T}{v:Value}{fp:List Nat},za5 w t v fp->za5 w (zro t) v fp
 | .pin _ _,_,_,h=>by unfold za5 at h;exact h.2
 | .int _ _,_,_,h=>h
 | .bool _,_,_,h=>h
 | .str _,_,_,h=>h
 | .sl _ _,_,_,h=>h
 | .ptr _,_,_,h=>h
 | .fn _ _,_,_,h=>h
 | .mp _ _,_,_,h=>h
 | .vs _ _ _,_,_,h=>h
theorem zbp.unpin {w:World}{cells:Array Value}:∀{cs:List T}{o:Nat}{fps:List Nat},zbp w cells o cs fps->zbp w cells o (cs.map zro) fps
 | [],_,_,h=>h
 | c::cs,o,fps,h=>by
  unfold zbp at h;obtain⟨v,f1,f2,h1,rfl,h2,h3⟩:=h;rw[Qf];unfold zbp;exact⟨v,f1,f2,h1,rfl,h2.unpin,h3.unpin⟩
theorem zaq.unpin {w:World}{cells:Array Value}{sz:Nat}:∀{rows:List (List T)}{o:Nat}{fps:List Nat},zaq w cells o sz rows fps->zaq w cells o sz (zh7 rows) fps
 | [],_,_,h=>h
 | r::rs,o,fps,h=>by
  unfold zaq at h;obtain⟨h1,f1,f2,rfl,h2,h3⟩:=h;show zaq w cells o sz (r.map zro::zh7 rs) (f1++f2)
  unfold zaq;exact⟨by simpa using h1,f1,f2,rfl,h2.unpin,h3.unpin⟩
theorem za5.unpins {w:World}{sz:Nat}{rows:List (List T)}{v:Value}{fp:List Nat}(h:za5 w (.sl sz rows) v fp):za5 w (.sl sz (zh7 rows)) v fp:=by
 unfold za5 at h⊢
 have hl:(zh7 rows).length=rows.length:=by simp[zh7]
 obtain⟨ao,cap,h1,h2,h3,h4⟩:=h
 refine⟨ao,cap,by rw[hl];exact h1,by rw[hl];exact h2,h3,?_⟩
 rcases h4 with⟨k1,k2,rfl,k4⟩|⟨b,cells,ty,fps,k1,k2,k3,k4,k5⟩
 ·exact Or.inl ⟨k1,k2,rfl,k4⟩
 ·exact Or.inr ⟨b,cells,ty,fps,k1,k2,k3,k4,k5.unpin⟩
theorem Rel.reown {n0:Nat->Prop}{N:Nat}{σ:St}{g:Gh}{a:Act}{w:World}(hR:Rel n0 N σ g a w)(hn:LtK n0 w){e sz gn:Nat}{rows rows':List (List T)}(he:σ.ev e=some ⟨true,sz,rows,gn,true⟩)(h:za5 w (.sl sz rows') (g.ψ e gn) (g.φ e)) :
  Rel n0 N (σ.inp [(e,rows')]) g a w:=by
 have hOn:σ.On e:=⟨_,he,rfl⟩
 have hev:∀e',(∀p∈[(e,rows')],p.1≠e')->(σ.inp [(e,rows')]).ev e'=σ.ev e':=fun e' h'=>ziy (by simpa using Ne.symm (h' (e,rows') (Qy.2 rfl)))
 have m:Mv σ (σ.inp [(e,rows')]) g g w w:=by
  refine⟨fun b hf=>rfl,fun b hf=>⟨hf.1,fun e' x hx hon=>?_,hf.2.2⟩,fun b hb=>⟨rfl,hb⟩,fun e n he=>⟨zka he,rfl⟩,fun b hb=>(zs8 hR (U:=[(e,rows')]) (fp:=g.φ e) (φ':=g.φ) (fun b hb=>⟨(e,rows'),Qy.2 rfl,hb⟩) (fun p hp=>by rw[Qy.1 hp];exact hOn) (Bk.refl _ _) (fun p hp b hb=>Or.inl (by rw[Qy.1 hp]at hb;exact hb)) (fun _ _=>rfl) b hb).2.2⟩;by_cases h':e'=e
  ·subst h';exact hf.2.1 e' _ he rfl
  ·exact hf.2.1 e' x ((hev e' (by simpa using Ne.symm h')).symm.trans hx) hon
 exact hR.inp hn (fp:=g.φ e) (fp':=g.φ e) (φ':=g.φ) (by simp) (by simp) (fun b hb=>⟨(e,rows'),Qy.2 rfl,hb⟩) (Bk.refl _ _) (fun b hb=>Or.inl hb) (fun _ _=>rfl)
  (fun p hp=>by simp at hp;subst hp;exact⟨sz,rows,gn,he,h,hR.nodup e hOn,fun b hb=>hb⟩) (fun p hp q hq hne=>by simp at hp hq;subst hp;subst hq;exact absurd rfl hne)
  (fun i v h=>m.vr h) (fun b cs vs _ h=>m.crs h) (fun e x _ _ _ v fpx hE hs=>m.evr hE hs) (fun e x _ _ v h=>m.rep h)
def qav (vs:Nat->Nat->Value)(sz:Nat)(rows:List (List T))(post:List D):St:=(zjm [] (.one (.sl sz rows)) post).inp [(0,zdz vs 0 rows)]
theorem zrz {f:FuncId}{fn:Func}{c:Code}{sz:Nat}{rows rows':List (List T)}{post:List D}{res:List D}(hc:zbb P f)(hf:P.funcs[f]?=some fn)(hb:fn.body=some c)(hd:zc2 fn.ntmps c=true)(hN:(zdm [] (.one (.sl sz rows)) post).length<=fn.ntmps)(hN2:fn.ntmps<=1000000)
  (h:∀vs,ex P c [] (PI P fn.results.toList (.one (.sl sz rows')) res) (qav vs sz rows post)):IC P f [] (.one (.sl sz rows)) post (.one (.sl sz rows')) res:=by
 have hs:∀ds:List D,zcg (zdm [] (.one (.sl sz rows)) ds):=fun ds=>⟨rfl,zcl ds⟩
 refine qrp hc hf hb hd hN hN2 (hs _) trivial fun n0 N g a w hR hn=>?_
 have he:(zjm [] (.one (.sl sz rows)) post).ev 0=some ⟨true,sz,rows,0,true⟩:=rfl
 have hO:=zea hR he
 obtain⟨vs,hv⟩:=hO.pins
 exact⟨_,h vs,hR.reown hn he hv⟩
theorem zbp.cell {w:World}{cells:Array Value}:∀{cs:List T}{o j:Nat}{c:T}{fps:List Nat},zbp w cells o cs fps->cs[j]?=some c →
  ∃f1 f f2 v,fps=f1++(f++f2)/\cells[o+j]?=some v/\za5 w c v f/\∀(w':World) (c':T) (f':List Nat),(∀b,b∈f1\/b∈f2->w'.heap[b]?=w.heap[b]?)->za5 w' c' v f'->zbp w' cells o (cs.set j c') (f1++(f'++f2))
 | [],_,_,_,_,_,h=>by simp at h
 | d::cs,o,0,c,fps,h,hc=>by
  unfold zbp at h;obtain⟨v,f1,f2,h1,rfl,h2,h3⟩:=h;simp only[List.getElem?_cons_zero,Qc]at hc;subst hc;refine⟨[],f1,f2,v,rfl,h1,h2,fun w' c' f' hk ho=>?_⟩;show zbp w' cells o (c'::cs) (f'++f2)
  unfold zbp;exact⟨v,f',f2,h1,rfl,ho,zbp.keep cells _ cs f2 h3 fun b hb=>hk b (Or.inr hb)⟩
 | d::cs,o,j+1,c,fps,h,hc=>by
  unfold zbp at h;obtain⟨v,f1,f2,h1,rfl,h2,h3⟩:=h;obtain⟨g1,g,g2,u,rfl,k1,k2,k3⟩:=zbp.cell h3 (by simpa using hc);refine⟨f1++g1,g,g2,u,by simp,by rw[<-k1];congr 1;omega,k2,fun w' c' f' hk ho=>?_⟩;show zbp w' cells o (d::cs.set j c') _
  unfold zbp;exact⟨v,f1,g1++(f'++g2),h1,by simp,za5.keep d v f1 h2 fun b hb=>hk b (Or.inl (by simp[hb])),k3 w' c' f' (fun b hb=>hk b (by rcases hb with hb|hb<;>simp[hb])) ho⟩
theorem zaq.cell {w:World}{cells:Array Value}{sz:Nat}:∀{rows:List (List T)}{o i j:Nat}{r:List T}{c:T}{fps:List Nat},zaq w cells o sz rows fps->rows[i]?=some r->r[j]?=some c →
  ∃f1 f f2 v,fps=f1++(f++f2)/\cells[o+i*sz+j]?=some v/\za5 w c v f/\∀(w':World) (c':T) (f':List Nat),(∀b,b∈f1\/b∈f2->w'.heap[b]?=w.heap[b]?)->za5 w' c' v f'->zaq w' cells o sz (rows.set i (r.set j c')) (f1++(f'++f2))
 | [],_,_,_,_,_,_,_,h,_=>by simp at h
 | d::rows,o,0,j,r,c,fps,h,hr,hc=>by
  unfold zaq at h;obtain⟨h1,f1,f2,rfl,h2,h3⟩:=h;simp only[List.getElem?_cons_zero,Qc]at hr;subst hr;obtain⟨g1,g,g2,u,rfl,k1,k2,k3⟩:=zbp.cell h2 hc;refine⟨g1,g,g2++f2,u,by simp,by simpa using k1,k2,fun w' c' f' hk ho=>?_⟩;show zaq w' cells o sz (d.set j c'::rows) _
  unfold zaq;exact⟨by simp[h1],g1++(f'++g2),f2,by simp,k3 w' c' f' (fun b hb=>hk b (by rcases hb with hb|hb<;>simp[hb])) ho,zaq.keep cells _ sz rows f2 h3 fun b hb=>hk b (by simp[hb])⟩
 | d::rows,o,i+1,j,r,c,fps,h,hr,hc=>by
  unfold zaq at h;obtain⟨h1,f1,f2,rfl,h2,h3⟩:=h;obtain⟨g1,g,g2,u,rfl,k1,k2,k3⟩:=zaq.cell h3 (by simpa using hr) hc;refine⟨f1++g1,g,g2,u,by simp,by rw[<-k1];congr 1;rw[Kw];omega,k2,fun w' c' f' hk ho=>?_⟩;show zaq w' cells o sz (d::rows.set i (r.set j c')) _
  unfold zaq;exact⟨h1,f1,g1++(f'++g2),by simp,zbp.keep cells o d f1 h2 fun b hb=>hk b (Or.inl (by simp[hb])),k3 w' c' f' (fun b hb=>hk b (by rcases hb with hb|hb<;>simp[hb])) ho⟩
theorem qd4 {o:Oper}{σ:St}{x:Operand}{asx:Array Operand}{ts:Array TypeId}{f:FuncId}{cvs:List V}{post:List D}{sz1:Nat}{rows1 rows1':List (List T)}{res:List D}{v:Value}{p2:List V}{e i j sz gn:Nat}{rows:List (List T)}{r:List T}(ho:o.op=.call ⟨.value x,asx,ts⟩)
  (h:IC P f [] (.one (.sl sz1 rows1)) post (.one (.sl sz1 rows1')) res) (hc:za0 (σ.get P 0 x)=some (f,cvs)) (hx:σ.gets P asx ts++cvs=.one (.cv v)::p2) (h2:zwl p2 post) (he:σ.ev e=some ⟨true,sz,rows,gn,true⟩) (hr:rows[i]?=some r) (hcl:r[j]?=some (.pin v (.sl sz1 rows1)))
  (hres:res.all D.fl=true) (hD:Deep σ):zah P o σ ((σ.inp [(e,rows.set i (r.set j (.sl sz1 rows1')))]).put o.dst (znn (res.map D.toV))):=by
 intro n0 N g a w hR hn hdN
 obtain⟨vs,hrun,hvl⟩:=zdb hR ho hc h.1
 rw[hx]at hvl
 obtain⟨v1,us2,rfl,rfl,v4⟩:=hvl
 have hOn:σ.On e:=⟨_,he,rfl⟩
 have hO:=zea hR he
 have hnd:=hR.nodup e hOn
 have hO2:=hO
 unfold za5 at hO
 obtain⟨ao,cap,e1,e2,e3,e4⟩:=hO
 rcases e4 with⟨_,_,rfl,_⟩|⟨b0,cells,ty,fps,k1,k2,k3,k4,k5⟩
 ·simp at hr
 obtain⟨f1,ff,f2,u,rfl,c1,c2,c3⟩:=zaq.cell k5 hr hcl
 unfold za5 at c2
 obtain⟨rfl,c2⟩:=c2
 have hsubf:∀b',b'∈ff->b'∈g.φ e:=fun b' hb=>by rw[k2];simp[hb]
 rw[k2]at hnd
 obtain⟨nb,nd⟩:=Kp.1 hnd
 obtain⟨nd1,nd2,nd3⟩:=Q8.1 nd
 obtain⟨nd4,nd5,nd6⟩:=Q8.1 nd2
 have hbf:∀b',(b'=b0\/b'∈f1\/b'∈f2)->b'∉ff:=fun b' h hm=>by
  rcases h with rfl|h|h
  ·exact nb (by simp[hm])
  ·exact nd3 b' h b' (by simp[hm]) rfl
  ·exact nd6 b' hm b' h rfl
 have hlt:∀b'∈g.φ e,b'<w.heap.size:=(hR.evs e _ he rfl).lt
 unfold Oper.wp
 rw[hrun]
 refine(h.2 w [] u us2 ff (zll (.sl sz1 rows1) ff) rfl ⟨c2,rfl⟩ (zln _ h2 v4) nd4).mono ?_
 rintro ee w' ⟨us,fp',tp',rfl,q1,q2,q3,q4⟩
 obtain⟨v0,us0,g1,g2,t1,t2,e0,rfl,rfl,q5,q6⟩:=q1
 cases e0
 obtain⟨n1,n2,n3⟩:=Q8.1 q2
 have hnew:∀b',b'<w.heap.size->b'∈g1->b'∈ff:=fun b' h1 h2=>(q3 b' (J3 _ h2)).resolve_right Yp
 have hsub:∀b'∈g1,b'∈ff\/w.heap.size<=b':=fun b' hb=>q3 b' (J3 _ hb)
 have hblk:∀b',b'<w.heap.size->b'∉ff->w'.heap[b']?=w.heap[b']?:=fun b' h1 h2=>q4.block b' ⟨h1,h2⟩
 have hrows:=c3 w' (.sl sz1 rows1') g1 (fun b' hb=>hblk b' (hlt b' (by rw[k2];rcases hb with hb|hb<;>simp[hb])) (hbf b' (Or.inr hb))) q5.1
 have hown:za5 w' (.sl sz (rows.set i (r.set j (.sl sz1 rows1')))) (g.ψ e gn) (b0::(f1++(g1++f2))):=by
  unfold za5;exact⟨ao,cap,by simpa using e1,by simpa using e2,e3,Or.inr ⟨b0,cells,ty,_,k1,rfl,by rw[hblk b0 (hlt b0 (by rw[k2];simp)) (hbf b0 (Or.inl rfl))];exact k3,k4,hrows⟩⟩
 have hnd':(b0::(f1++(g1++f2))).Nodup:=by
  refine Kp.2 ⟨fun hm=>?_,Q8.2 ⟨nd1,Q8.2 ⟨n1,nd5,fun x hx y hy hxy=>?_⟩,fun x hx y hy hxy=>?_⟩⟩
  ·have hl:=hlt b0 (by rw[k2];simp);simp only[Qm]at hm;rcases hm with hm|hm|hm
   ·exact nb (by simp[hm])
   ·exact nb (by simp[hnew b0 hl hm])
   ·exact nb (by simp[hm])
  ·subst hxy;exact nd6 x (hnew x (hlt x (by rw[k2];simp[hy])) hx) x hy rfl
  ·subst hxy;have hl:=hlt x (by rw[k2];simp[hx]);rcases Qm.1 hy with hy|hy
   ·exact nd3 x hx x (by simp[hnew x hl hy]) rfl
   ·exact nd3 x hx x (by simp[hy]) rfl
 have hBkf:Bk (fun k=>k<w.heap.size/\k∉g.φ e) w w':=⟨q4.os,q4.tape,q4.output,q4.size,fun k hk=>q4.block k ⟨hk.1,fun hm=>hk.2 (hsubf k hm)⟩⟩
 have hBk:Bk n0 w w':=⟨q4.os,q4.tape,q4.output,q4.size,fun k hk=>q4.block k ⟨hn k hk,fun hm=>hR.etop e hOn k (hsubf k hm) hk⟩⟩
 have hfp':∀b'∈b0::(f1++(g1++f2)),b'∈g.φ e\/w.heap.size<=b':=fun b' hb=>by
  simp only[Qp,Qm]at hb;rw[k2];rcases hb with hb|hb|hb|hb
  ·left;simp[hb]
  ·left;simp[hb]
  ·rcases hsub b' hb with hb|hb
   ·left;simp[hb]
   ·exact Or.inr hb
  ·left;simp[hb]
 generalize hrw:rows.set i (r.set j (.sl sz1 rows1'))=rows' at hown⊢
 have j1:∀e',(∀p∈[(e,rows')],p.1≠e')->upd g.φ e (b0::(f1++(g1++f2))) e'=g.φ e':=fun e' h'=>zak _ _ (Ne.symm (h' (e,rows') (Qy.2 rfl)))
 have hfpU:∀b'∈g.φ e,∃p∈[(e,rows')],b'∈g.φ p.1:=fun b' hb=>⟨(e,rows'),Qy.2 rfl,hb⟩
 have hOU:∀p∈[(e,rows')],σ.On p.1:=fun p hp=>by rw[Qy.1 hp];exact hOn
 have hb':∀p∈[(e,rows')],∀b'∈upd g.φ e (b0::(f1++(g1++f2))) p.1,b'∈g.φ e\/w.heap.size<=b':=fun p hp b' hb=>by
  rw[Qy.1 hp,zae]at hb;exact hfp' b' hb
 obtain⟨d1,d2,d3⟩:=hD
 have hrn:=zs8 hR hfpU hOU hBkf hb' j1
 have hR':Rel n0 N (σ.inp [(e,rows')]) { g with φ:=upd g.φ e (b0::(f1++(g1++f2))) } a w':=by
  refine hR.inp hn (by simp) (fun p hp=>by rw[Qy.1 hp];exact fun _ h=>h) hfpU hBkf hfp' j1
   (fun p hp=>by rw[Qy.1 hp,zae];exact⟨sz,rows,gn,he,hown,hnd',fun _ h=>h⟩) (fun p hp q hq hne=>by rw[Qy.1 hp,Qy.1 hq]at hne;exact absurd rfl hne)
   (fun i v h=>qr7 (g:=g) (g':={ g with φ:=upd g.φ e (b0::(f1++(g1++f2))) }) rfl rfl (fun e n=>zka) hrn (d1 i) h) (fun b cs vs hb h=>zme (g:=g) (g':={ g with φ:=upd g.φ e (b0::(f1++(g1++f2))) }) rfl rfl (fun e n=>zka) hrn (d2 b cs hb) h) (fun e x he hx hon v fpx hE hs=>?_) (fun e x hx hon=>?_)
  ·obtain⟨ao,cap,r1,r2,r3,r4⟩:=hE;refine⟨ao,cap,r1,r2,r3,?_⟩;rcases r4 with r4|⟨b,cells,ty,fps,r4,r5,r6,r7,r8⟩
   ·exact Or.inl r4
   ·subst r5;rw[if_pos (d3 e x hx).2]at r8;exact Or.inr ⟨b,cells,ty,fps,r4,rfl,by rw[hs b (by simp)];exact r6,r7,by rw[if_pos (d3 e x hx).2];exact zaq.keep cells 0 x.sz x.rows fps r8 fun b' hb'=>hs b' (by simp[hb'])⟩
  ·rw[(d3 e x hx).1]at hon;cases hon
 refine⟨{ g with φ:=upd g.φ e (b0::(f1++(g1++f2))) },?_,hBk,rfl,rfl⟩
 exact hR'.put o.dst (ze6 (zbf.vrl (zq4 hres q6)) (fun y hy=>by
  obtain⟨d,_,rfl⟩:=Ka.1 hy
  cases d<;>rfl)) hdN
def zm5 (rows:List (List T))(i j:Nat)(t:T):List (List T):=rows.set i ((rows.getD i []).set j t)
def evC (i j:Nat)(t:T)(x:Ev):Ev:=⟨x.deep,x.sz,zm5 x.rows i j t,x.gen,x.on⟩
def St.cN (σ:St)(e i j:Nat)(t:T)(dst:Option Nat)(res:List D):St:=St.put ⟨σ.sl,σ.bx,upd σ.ev e ((σ.ev e).map (evC i j t))⟩ dst (znn (res.map D.toV))
def onN (x:Option Ev)(i j:Nat)(v:Value)(t:T):Prop:=zar x fun y=>y.on=true/\y.deep=true/\y.rows[i]?.isSome=true/\(y.rows.getD i [])[j]?=some (.pin v t)
def qwl (xs:List V)(K:Value->List V->Prop):Prop:=match xs with
 | .one (.cv v)::p2=>K v p2
 | _=>False
section
variable {ks:List Fr}{Q:Exit->St->Prop}{σ:St}{ops:Array Oper}{os:List Oper}{ty:TypeId}{ps:String}{af:Array Edge}{dst:Option Nat}{x:Operand}{asx:Array Operand}{ts:Array TypeId}{f:FuncId}{post:List D}{res:List D}
theorem callN {l:List (Nat×V)}{bl:List (Nat×List C)}{el:List (Nat×Ev)}(e i j:Nat){sz1:Nat}{rows1 rows1':List (List T)}(h:IC P f [] (.one (.sl sz1 rows1)) post (.one (.sl sz1 rows1')) res)(hw:wkL σ (hd l bl el) l/\wkB σ (hd l bl el) bl/\wkE σ el)
  (hd1:(l.all fun p=>p.2.mOk)=true) (hd2:(bl.all fun p=>p.2.all C.mOk)=true) (hd3:(el.all fun p=>p.2.on&&p.2.deep)=true)
  (hp:zar (za0 ((hd l bl el).get P 0 x)) fun p=>p.1=f/\qwl ((hd l bl el).gets P asx ts++p.2) fun v p2=>zwl p2 post/\onN (tbl el e) i j v (.sl sz1 rows1)) (hr:res.all D.fl=true)
  (k:exo P ops os ks Q ((hd l bl el).cN e i j (.sl sz1 rows1') dst res)):exo P ops (⟨dst,.call ⟨.value x,asx,ts⟩,ty,ps,af,none⟩::os) ks Q σ:=by
 obtain⟨⟨f',cvs⟩,h1,rfl,h2⟩:=zai hp
 unfold qwl at h2
 split at h2
 ·rename_i v p2 hx;obtain⟨h3,h4⟩:=h2;obtain⟨⟨dp,sz,rows,gn,on⟩,he,rfl,rfl,h5,h6⟩:=zai h4;obtain⟨r,hr'⟩:=Je.1 h5;have hg:rows.getD i []=r:=by rw[List.getD_eq_getElem?_getD,hr'];rfl
  rw[hg]at h6;have hs:=qd4 (P:=P) (o:=⟨dst,.call ⟨.value x,asx,ts⟩,ty,ps,af,none⟩) (σ:=hd l bl el) rfl h h1 hx h3 (e:=e) he hr' h6 hr (zvx hd1 hd2 hd3);refine zc6 rfl rfl (σ':=(hd l bl el).cN e i j (.sl sz1 rows1') dst res) ?_ k;have e0:(hd l bl el).cN e i j (.sl sz1 rows1') dst res=((hd l bl el).inp [(e,rows.set i (r.set j (.sl sz1 rows1')))]).put dst (znn (res.map D.toV)):=by
   unfold St.cN St.inp zzu zzu;rw[show(hd l bl el).ev e=_ from he];simp only[Q7,zm5,evC,hg]
  rw[e0];exact zah.pre (zac hw) hs
 ·exact h2.elim
end
attribute [go_sem] qwl onN St.cN evC
end
section
open Go.RowKit
variable {P:Program}
abbrev Sr:=Nat×Option (Nat×Nat)
def okQ:Option (Nat×Nat)->Option (Nat×Nat)->Bool
 | some a,some b=>!(a.1==b.1&&a.2==b.2)
 | _,_=>false
def okS:List Sr->Sr->Bool
 | [],_=>true
 | (e,p)::u,(e',p')=>(if e=e' then okQ p p' else true)&&okS u (e',p')
def owU (x:Option Ev)(sz:Nat)(rows:List (List T))(g:Nat):Prop:=zar x fun y=>y.deep=true/\y.sz=sz/\(y.rows=rows\/zh7 y.rows=rows)/\y.gen=g/\y.on=true
def gvT (σ:St)(K:List Sr->List (Nat×Nat×Nat)->Prop)(u:List Sr)(ps:List (Nat×Nat×Nat))(x t:T):Prop:=match x,ps with
 | .pin v y,(e,i,j)::ps=>y=t/\okS u (e,some (i,j))=true/\onN (σ.ev e) i j v t/\K ((e,some (i,j))::u) ps
 | x,ps=>x=t/\t.flat=true/\K u ps
theorem qq3 {σ:St}{K K':List Sr->List (Nat×Nat×Nat)->Prop}(hK:∀u ps,K u ps->K' u ps){u:List Sr}{ps:List (Nat×Nat×Nat)}{x t:T}(h:gvT σ K u ps x t):gvT σ K' u ps x t:=by
 unfold gvT at h⊢
 split at h
 ·exact⟨h.1,h.2.1,h.2.2.1,hK _ _ h.2.2.2⟩
 ·exact⟨h.1,h.2.1,hK _ _ h.2.2⟩
def gvK (σ:St)(K:List Sr->List (Nat×Nat×Nat)->Prop):List Sr->List (Nat×Nat×Nat)->List C->List T->Prop
 | u,ps,[],[]=>K u ps
 | u,ps,.t x::cs,t::ts=>gvT σ (fun u ps=>gvK σ K u ps cs ts) u ps x t
 | u,ps,.nl _::cs,.sl _ rows::ts=>rows=[]/\gvK σ K u ps cs ts
 | u,ps,.ow e g::cs,.sl sz rows::ts=>okS u (e,none)=true/\owU (σ.ev e) sz rows g/\gvK σ K ((e,none)::u) ps cs ts
 | u,(e,i,j)::ps,.cv v::cs,t::ts=>okS u (e,some (i,j))=true/\onN (σ.ev e) i j v t/\gvK σ K ((e,some (i,j))::u) ps cs ts
 | _,_,_,_=>False
def rdC:C->T->Prop
 | .t x,y=>x=y/\T.nm y=true
 | .fn f [],.fn g []=>f=g
 | .rn x,y=>x=y
 | .er cs o,.ptr cs'=>o=0/\cs=cs'
 | .nl _,.sl _ rows=>rows=[]
 | _,_=>False
def rdCs:List C->List T->Prop
 | [],[]=>True
 | c::cs,t::ts=>rdC c t/\rdCs cs ts
 | _,_=>False
def rdV:V->D->Prop
 | .one c,.one t=>rdC c t
 | .agg cs,.agg ts=>rdCs cs ts
 | _,_=>False
def gvA (σ:St)(K:List Sr->Prop):List Sr->List (Nat×Nat×Nat)->List V->List (Bool×D)->Prop
 | u,_,[],[]=>K u
 | u,ps,v::vs,(false,d)::ds=>rdV v d/\gvA σ K u ps vs ds
 | u,ps,.one c::vs,(true,.one t)::ds=>gvK σ (fun u ps=>gvA σ K u ps vs ds) u ps [c] [t]
 | u,ps,.agg cs::vs,(true,.agg ts)::ds=>gvK σ (fun u ps=>gvA σ K u ps vs ds) u ps cs ts
 | _,_,_,_=>False
theorem zhm {σ:St}{K K':List Sr->List (Nat×Nat×Nat)->Prop}(hK:∀u ps,K u ps->K' u ps):∀{cs:List C}{ts:List T}{u:List Sr}{ps:List (Nat×Nat×Nat)},gvK σ K u ps cs ts->gvK σ K' u ps cs ts
 | [],[],_,_,h=>hK _ _ h
 | [],_::_,_,_,h=>by cases h
 | c::cs,[],u,ps,h=>by cases c<;>first|exact(show False from h).elim|(cases ps<;>exact(show False from h).elim)
 | c::cs,t::ts,u,ps,h=>by
  unfold gvK at h⊢;split at h
  ·rename_i e1 e2;cases e1
  ·rename_i e1 e2;cases e1;cases e2;exact qq3 (fun u ps h=>zhm hK h) h
  ·rename_i e1 e2;cases e1;cases e2;exact⟨h.1,zhm hK h.2⟩
  ·rename_i e1 e2;cases e1;cases e2;exact⟨h.1,h.2.1,zhm hK h.2.2⟩
  ·rename_i e1 e2;cases e1;cases e2;exact⟨h.1,h.2.1,zhm hK h.2.2⟩
  ·exact h.elim
theorem zia {σ:St}{K K':List Sr->Prop}(hK:∀u,K u->K' u):∀{xs:List V}{ds:List (Bool×D)}{u:List Sr}{ps:List (Nat×Nat×Nat)},gvA σ K u ps xs ds->gvA σ K' u ps xs ds
 | [],[],_,_,h=>hK _ h
 | [],_::_,_,_,h=>h.elim
 | x::xs,[],_,_,h=>by cases x<;>exact h.elim
 | x::xs,(false,d)::ds,_,_,h=>by unfold gvA at h⊢;exact⟨h.1,zia hK h.2⟩
 | .one c::xs,(true,.one t)::ds,_,_,h=>by unfold gvA at h⊢;exact zhm (fun u ps hu=>zia hK hu) h
 | .agg cs::xs,(true,.agg ts)::ds,_,_,h=>by unfold gvA at h⊢;exact zhm (fun u ps hu=>zia hK hu) h
 | .one _::_,(true,.agg _)::_,_,_,h=>h.elim
 | .agg _::_,(true,.one _)::_,_,_,h=>h.elim
 | .tup _::_,(true,d)::_,_,_,h=>by cases d<;>exact h.elim
theorem za9.fam {w:World}:∀{cs:List T}{vs:List Value}{fps:List Nat},za9 w cs vs fps->∃F:Nat->List Nat,(∀k c,cs[k]?=some c->∃v,vs[k]?=some v/\za5 w c v (F k))/\(∀k b,b∈F k->b∈fps)/\(fps.Nodup->(∀k,(F k).Nodup)/\∀k k',k≠k'->∀b∈F k,b∉F k')
 | [],vs,fps,h=>⟨fun _=>[],fun k c hc=>by simp at hc,by simp,fun _=>⟨by simp,by simp⟩⟩
 | c::cs,_,_,h=>by
  obtain⟨v,vs',f1,f2,rfl,rfl,h1,h2⟩:=h;obtain⟨F,k1,k2,k3⟩:=za9.fam h2;refine⟨fun k=>match k with|0=>f1|k+1=>F k,fun k c' hc=>?_,fun k b hb=>?_,fun hn=>?_⟩
  ·cases k with
   | zero=>simp only[List.getElem?_cons_zero,Qc]at hc;subst hc;exact⟨v,rfl,h1⟩
   | succ k=>exact k1 k c' (by simpa using hc)
  ·cases k with
   | zero=>exact J3 _ hb
   | succ k=>exact Jz _ (k2 k b hb)
  ·obtain⟨n1,n2,n3⟩:=Q8.1 hn;obtain⟨m1,m2⟩:=k3 n2;refine⟨fun k=>?_,fun k k' hne b hb hb'=>?_⟩
   ·cases k with
    | zero=>exact n1
    | succ k=>exact m1 k
   ·cases k with
    | zero =>
     cases k' with
     | zero=>exact hne rfl
     | succ k'=>exact n3 b hb b (k2 k' b hb') rfl
    | succ k =>
     cases k' with
     | zero=>exact n3 b hb' b (k2 k b hb) rfl
     | succ k'=>exact m2 k k' Yp b hb hb'
theorem qhl {sz:Nat}:∀{rows:List (List T)}{i j:Nat}{r:List T}{c:T},lens sz rows->rows[i]?=some r->r[j]?=some c->rows.flatten[i*sz+j]?=some c
 | [],_,_,_,_,_,h,_=>by simp at h
 | d::rows,0,j,r,c,hl,hr,hc=>by
  simp only[List.getElem?_cons_zero,Qc]at hr;subst hr;have hj:j<d.length:=by
   rcases Nat.lt_or_ge j d.length with h|h
   ·exact h
   ·rw[List.getElem?_eq_none h]at hc;cases hc
  rw[Kc,List.getElem?_append_left Yp];simpa using hc
 | d::rows,i+1,j,r,c,hl,hr,hc=>by
  have hd:d.length=sz:=hl d (by simp);have:=qhl (sz:=sz) (rows:=rows) (fun r hr=>hl r (by simp[hr])) (by simpa using hr) hc;rw[Kc,List.getElem?_append_right (by rw[hd,Kw];omega)]
  rwa [show(i+1)*sz+j-d.length=i*sz+j by rw[hd,Kw];omega]
structure Fam (w:World)(σ:St)(g:Gh)(B:Sr->List Nat):Prop where
 whole:∀e,B (e,none)=g.φ e
 cell:∀e i j v t,onN (σ.ev e) i j v t->za5 w t v (B (e,some (i,j)))
 sub:∀e p b,σ.On e->b∈B (e,p)->b∈g.φ e
 nodup:∀e p,σ.On e->(B (e,p)).Nodup
 apart:∀e p p',σ.On e->p≠p'->∀b∈B (e,some p),b∉B (e,some p')
theorem Rel.fam {n0:Nat->Prop}{N:Nat}{σ:St}{g:Gh}{a:Act}{w:World}(hR:Rel n0 N σ g a w):∃B,Fam w σ g B:=by
 have h1:∀e,∃F:Nat×Nat->List Nat,∀dp sz rows gn,σ.ev e=some ⟨dp,sz,rows,gn,true⟩->((dp=true->∀i j v t,rows[i]?.isSome=true->(rows.getD i [])[j]?=some (.pin v t)->za5 w t v (F (i,j)))/\(∀p b,b∈F p->b∈g.φ e)/\(∀p,(F p).Nodup)/\∀p p',p≠p'->∀b∈F p,b∉F p'):=by
  intro e;by_cases hon:∃sz rows gn,σ.ev e=some ⟨true,sz,rows,gn,true⟩
  ·obtain⟨sz,rows,gn,he⟩:=hon;have hnd:=hR.nodup e ⟨_,he,rfl⟩;obtain⟨ao,cap,vs,k1,k2,k3,k4,k5,k6,k7⟩:=hR.vals he rfl;rcases k7 with⟨_,_,k7,k8⟩|⟨b,cells,ty,fps,k7,k8,k9,k10,k11,k12,k13⟩
   ·refine⟨fun _=>[],fun dp sz' rows' gn' he'=>?_⟩;rw[he,Qc]at he';cases he';have k7:rows=[]:=k7;subst k7;exact⟨fun _ i j v t h=>by simp at h,by simp,by simp,by simp⟩
   ·obtain⟨F,f1,f2,f3⟩:=(k12 rfl).fam;rw[k8]at hnd;obtain⟨m1,m2⟩:=f3 (Kp.1 hnd).2;refine⟨fun p=>if p.2<sz/\p.1<rows.length then F (p.1*sz+p.2)else [],fun dp sz' rows' gn' he'=>?_⟩;rw[he,Qc]at he';cases he';refine⟨fun _ i j v t h1 h2=>?_,fun p b hb=>?_,fun p=>?_,fun p p' hne b hb hb'=>?_⟩
    ·obtain⟨r,hr⟩:=Je.1 h1;have hg:rows.getD i []=r:=by rw[List.getD_eq_getElem?_getD,hr];rfl
     rw[hg]at h2;have hj:j<sz:=by
      have:r.length=sz:=k4 r (List.mem_of_getElem? hr);rcases Nat.lt_or_ge j r.length with h|h
      ·omega
      ·rw[List.getElem?_eq_none h]at h2;cases h2
     have hi:i<rows.length:=(List.getElem?_eq_some_iff.1 hr).1;obtain⟨u,_,hu⟩:=f1 _ _ (qhl k4 hr h2);show za5 w t v (if j<sz/\i<rows.length then F (i*sz+j)else [])
     rw[if_pos ⟨hj,hi⟩];unfold za5 at hu;obtain⟨rfl,hu⟩:=hu;exact hu
    ·by_cases hp:p.2<sz/\p.1<rows.length
     ·simp only[if_pos hp]at hb;rw[k8];exact J8 _ (f2 _ _ hb)
     ·simp only[if_neg hp]at hb;simp at hb
    ·by_cases hp:p.2<sz/\p.1<rows.length
     ·simp only[if_pos hp];exact m1 _
     ·simp only[if_neg hp];simp
    ·by_cases hp:p.2<sz/\p.1<rows.length
     ·by_cases hp':p'.2<sz/\p'.1<rows.length
      ·simp only[if_pos hp,if_pos hp']at hb hb';refine m2 _ _ (fun heq=>hne ?_) b hb hb';obtain⟨i,j⟩:=p;obtain⟨i',j'⟩:=p';simp only at hp hp' heq;have hii:i=i':=by
        rcases Nat.lt_trichotomy i i' with h|h|h
        ·have:=Jf sz (show i+1<=i' by omega);rw[Kw]at this;omega
        ·exact h
        ·have:=Jf sz (show i'+1<=i by omega);rw[Kw]at this;omega
       subst hii;have:j=j':=by omega
       subst this;rfl
      ·simp only[if_neg hp']at hb';simp at hb'
     ·simp only[if_neg hp]at hb;simp at hb
  ·refine⟨fun _=>[],fun dp sz rows gn he=>⟨fun hd=>?_,by simp,by simp,by simp⟩⟩;subst hd;exact absurd ⟨sz,rows,gn,he⟩ hon
 refine⟨fun s=>match s.2 with|none=>g.φ s.1|some p=>Classical.choose (h1 s.1) p,⟨fun e=>rfl,fun e i j v t ho=>?_,fun e p b ho hb=>?_,fun e p ho=>?_,fun e p p' ho hne b hb=>?_⟩⟩
 ·obtain⟨⟨dp,sz,rows,gn,on⟩,he,h2,h3,h4,h5⟩:=zai ho;simp only at h2 h3;subst h2 h3;exact(Classical.choose_spec (h1 e) true sz rows gn he).1 rfl i j v t h4 h5
 ·cases p with
  | none=>exact hb
  | some p =>
   obtain⟨⟨dp,sz,rows,gn,on⟩,he,ho⟩:=ho;simp only at ho;subst ho;exact(Classical.choose_spec (h1 e) dp sz rows gn he).2.1 p b hb
 ·cases p with
  | none=>exact hR.nodup e ho
  | some p =>
   obtain⟨⟨dp,sz,rows,gn,on⟩,he,ho⟩:=ho;simp only at ho;subst ho;exact(Classical.choose_spec (h1 e) dp sz rows gn he).2.2.1 p
 ·obtain⟨⟨dp,sz,rows,gn,on⟩,he,ho⟩:=ho;simp only at ho;subst ho;exact(Classical.choose_spec (h1 e) dp sz rows gn he).2.2.2 p p' hne b hb
def bks (B:Sr->List Nat)(u:List Sr):List Nat:=u.flatMap B
def okP (s s':Sr):Prop:=s.1≠s'.1\/(s.2≠none/\s'.2≠none/\s.2≠s'.2)
theorem okP.symm {s s':Sr}(h:okP s s'):okP s' s:=h.imp (fun h=>Ne.symm h) fun h=>⟨h.2.1,h.1,Ne.symm h.2.2⟩
theorem zyk:∀{u:List Sr}{s:Sr},okS u s=true->∀x∈u,okP s x
 | [],_,_,x,hx=>by simp at hx
 | (e,p)::u,(e',p'),h,x,hx=>by
  unfold okS at h;rw[Qe]at h;rcases Qp.1 hx with rfl|hx
  ·have h1:=h.1;by_cases he:e=e'
   ·rw[if_pos he]at h1;right;unfold okQ at h1;split at h1
    ·rename_i a b;refine⟨by simp,by simp,fun e=>?_⟩;simp only[Qc]at e;subst e;simp at h1
    ·cases h1
   ·left;exact Ne.symm he
  ·exact zyk h.2 x hx
theorem zey {n0:Nat->Prop}{N:Nat}{σ:St}{g:Gh}{a:Act}{w:World}(hR:Rel n0 N σ g a w){B:Sr->List Nat}(hB:Fam w σ g B):∀{s:List Sr},(∀x∈s,σ.On x.1)->s.Pairwise okP->(bks B s).Nodup
 | [],_,_=>Kn
 | x::s,ho,hp=>by
  obtain⟨p1,p2⟩:=K9.1 hp;unfold bks;rw[Jk];refine Q8.2 ⟨hB.nodup x.1 x.2 (ho x (by simp)),zey hR hB (fun y hy=>ho y (by simp[hy])) p2,fun b hb b' hb' hbb=>?_⟩;subst hbb;obtain⟨y,hy,hb'⟩:=Jr.1 hb';obtain⟨e,p⟩:=x;obtain⟨e',p'⟩:=y;have o1:=ho (e,p) (by simp);have o2:=ho (e',p') (by simp[hy]);rcases p1 (e',p') hy with h|⟨h1,h2,h3⟩
  ·exact hR.apart e e' o1 o2 h b (hB.sub e p b o1 hb) (hB.sub e' p' b o2 hb')
  ·by_cases hee:e=e'
   ·subst hee;cases p with
    | none=>exact h1 rfl
    | some p =>
     cases p' with
     | none=>exact h2 rfl
     | some p'=>exact hB.apart e p p' o1 (fun h=>h3 (by rw[h])) b hb hb'
   ·exact hR.apart e e' o1 o2 hee b (hB.sub e p b o1 hb) (hB.sub e' p' b o2 hb')
theorem qrj {σ:St}{e i j:Nat}{v:Value}{t:T}(h:onN (σ.ev e) i j v t):σ.On e:=by
 obtain⟨x,hx,h2,_⟩:=zai h
 exact⟨x,hx,h2⟩
section
variable {n0:Nat->Prop}{N:Nat}{σ:St}{g:Gh}{a:Act}{w:World}(hR:Rel n0 N σ g a w){B:Sr->List Nat}(hB:Fam w σ g B)
include hR hB
theorem zds {K:List Sr->List (Nat×Nat×Nat)->Prop}:∀{cs:List C}{ts:List T}{u:List Sr}{ps:List (Nat×Nat×Nat)}{vs:List Value},gvK σ K u ps cs ts->CRs σ g w cs vs →
  ∃s ps' tp,K (s.reverse++u) ps'/\qcr w ts vs (bks B s) tp/\(∀x∈s,σ.On x.1)/\(u.Pairwise okP->(s.reverse++u).Pairwise okP)
 | [],[],u,ps,vs,h,hv=>⟨[],ps,[],h,⟨hv,rfl,rfl⟩,by simp,fun h=>h⟩
 | [],_::_,_,_,_,h,_=>by cases h
 | c::cs,[],u,ps,vs,h,hv=>by cases c<;>first|exact(show False from h).elim|(cases ps<;>exact(show False from h).elim)
 | c::cs,t::ts,u,ps,vs,h,hv=>by
  obtain⟨v,vs',rfl,h1,h2⟩:=hv;unfold gvK at h;split at h
  ·rename_i e1 e2;cases e1
  ·rename_i x cs' t' ts' e1 e2;cases e1;cases e2;unfold gvT at h;split at h
   ·rename_i v0 y e i j ps0;obtain⟨rfl,hok,he,h⟩:=h;obtain⟨s,ps',tp,k1,k2,k3,k4⟩:=zds h h2;unfold CR zas at h1;obtain⟨rfl,_⟩:=h1;have ho:=hB.cell e i j v y he;refine⟨(e,some (i,j))::s,ps',zll y (B (e,some (i,j)))++tp,by simpa using k1,⟨v,vs',_,bks B s,tp,rfl,by unfold bks;rw[Jk],rfl,ho,k2⟩,fun x hx=>?_,fun hu=>?_⟩
    ·rcases Qp.1 hx with rfl|hx
     ·exact qrj he
     ·exact k3 x hx
    ·have:=k4 (K9.2 ⟨zyk hok,hu⟩);simpa using this
   obtain⟨rfl,hf,h⟩:=h;obtain⟨s,ps',tp,k1,k2,k3,k4⟩:=zds h h2;have ho:za5 w x v []:=by
    cases x<;>simp only[T.flat,Ql]at hf<;>simp only[CR,zas]at h1<;>unfold za5
    ·exact⟨h1.1,h1.2.1,h1.2.2,rfl⟩
    ·exact⟨h1,rfl⟩
    ·exact⟨h1.1,h1.2,rfl⟩
    ·exact⟨h1,rfl⟩
   exact⟨s,ps',zll x []++tp,k1,⟨v,vs',[],_,tp,rfl,rfl,rfl,ho,k2⟩,k3,k4⟩
  ·rename_i z cs' sz rows ts' e1 e2;cases e1;cases e2;obtain⟨rfl,h⟩:=h;obtain⟨s,ps',tp,k1,k2,k3,k4⟩:=zds h h2;have ho:za5 w (.sl sz []) v []:=by
    unfold za5;exact⟨none,0,h1,by simp,by simp,Or.inl ⟨rfl,rfl,rfl,rfl⟩⟩
   exact⟨s,ps',zll (.sl sz []) []++tp,k1,⟨v,vs',[],_,tp,rfl,rfl,rfl,ho,k2⟩,k3,k4⟩
  ·rename_i e gn cs' sz rows ts' e1 e2;cases e1;cases e2;obtain⟨hok,he,h⟩:=h;obtain⟨s,ps',tp,k1,k2,k3,k4⟩:=zds h h2;have hou:=he;obtain⟨⟨dp,sz0,rows0,gn0,on0⟩,hev,rfl,rfl,hrows,rfl,rfl⟩:=zai hou;have ho:za5 w (.sl sz0 rows) (g.ψ e gn0) (g.φ e):=by
    rcases hrows with rfl|rfl
    ·exact zea hR hev
    ·exact(zea hR hev).unpins
   have h1:v=g.ψ e gn0/\_:=h1;rw[<-h1.1]at ho;refine⟨(e,none)::s,ps',zll (.sl _ _) (g.φ e)++tp,by simpa using k1,⟨v,vs',g.φ e,bks B s,tp,rfl,by unfold bks;rw[Jk,hB.whole],rfl,ho,k2⟩,fun x hx=>?_,fun hu=>?_⟩
   ·rcases Qp.1 hx with rfl|hx
    ·exact⟨_,hev,rfl⟩
    ·exact k3 x hx
   ·have:=k4 (K9.2 ⟨zyk hok,hu⟩);simpa using this
  ·rename_i e i j ps0 v0 cs' t' ts' e1 e2;cases e1;cases e2;obtain⟨hok,he,h⟩:=h;obtain⟨s,ps',tp,k1,k2,k3,k4⟩:=zds h h2;have h1:v=v0:=h1;subst h1;have ho:=hB.cell e i j v t he;refine⟨(e,some (i,j))::s,ps',zll t (B (e,some (i,j)))++tp,by simpa using k1,⟨v,vs',_,bks B s,tp,rfl,by unfold bks;rw[Jk],rfl,ho,k2⟩,fun x hx=>?_,fun hu=>?_⟩
   ·rcases Qp.1 hx with rfl|hx
    ·exact qrj he
    ·exact k3 x hx
   ·have:=k4 (K9.2 ⟨zyk hok,hu⟩);simpa using this
  ·exact h.elim
omit hB in
theorem qlo {FP:List Nat}(hFP:∀b∈FP,∃e,σ.On e/\b∈g.φ e){c:C}{t:T}{v:Value}(h:rdC c t)(hv:CR σ g w c v):zas w (fun b=>b<w.heap.size/\b∉FP) t v:=by
 unfold rdC at h
 split at h
 ·rename_i x;obtain⟨rfl,hn⟩:=h;exact zm6 (σ:=σ) (g:=g) (x:=.one (.t x)) (d:=.one x) ⟨rfl,hn⟩ hv _
 ·rename_i f f';subst h;exact zm6 (σ:=σ) (g:=g) (x:=.one (.fn f [])) (d:=.one (.fn f [])) rfl hv _
 ·subst h;refine zas.keep (fun _ _=>rfl) (fun b hb=>⟨hb.1.2.2.1,fun hm=>?_⟩) _ v hv;obtain⟨e,ho,hm⟩:=hFP b hm;exact hb.2 e ho hm
 ·obtain⟨rfl,rfl⟩:=h;obtain⟨b,q,h1,h2,h3⟩:=hv;have hk:∀b,zb8 σ g w b->b<w.heap.size/\b∉FP:=fun b hb=>⟨hb.1.2.2.1,fun hm=>by obtain⟨e,ho,hm⟩:=hFP b hm;exact hb.2 e ho hm⟩;unfold zas;exact⟨b,q,h1,hk b h2,zbk.keep (fun _ _=>rfl) hk b rfl q _ h3⟩
 ·subst h;rw[show v=.slice none 0 0 from hv];unfold zas;exact⟨none,0,rfl,by simp,by simp,Or.inl rfl⟩
 ·exact h.elim
omit hB in
theorem zz5 {FP:List Nat}(hFP:∀b∈FP,∃e,σ.On e/\b∈g.φ e):∀{cs:List C}{ts:List T}{vs:List Value},rdCs cs ts->CRs σ g w cs vs->zaf w (fun b=>b<w.heap.size/\b∉FP) ts vs
 | [],[],vs,_,hv=>by unfold zaf;exact hv
 | [],_::_,_,h,_=>h.elim
 | _::_,[],_,h,_=>h.elim
 | c::cs,t::ts,vs,h,hv=>by
  obtain⟨v,vs',rfl,h1,h2⟩:=hv;unfold zaf;exact⟨v,vs',rfl,qlo hR hFP h.1 h1,zz5 hFP h.2 h2⟩
theorem zgw {K:List Sr->Prop}:∀{xs:List V}{ds:List (Bool×D)}{u:List Sr}{ps:List (Nat×Nat×Nat)}{vs:List Value},gvA σ K u ps xs ds->VRl σ g w xs vs →
  ∃s,K (s.reverse++u)/\(∀FP:List Nat,(∀b∈FP,∃e,σ.On e/\b∈g.φ e)->∃tp,za3 w (fun b=>b<w.heap.size/\b∉FP) ds vs (bks B s) tp)/\(∀x∈s,σ.On x.1)/\(u.Pairwise okP->(s.reverse++u).Pairwise okP)
 | [],[],u,ps,vs,h,hv=>⟨[],h,fun _ _=>⟨[],hv,rfl,rfl⟩,by simp,fun h=>h⟩
 | [],_::_,_,_,_,h,_=>h.elim
 | x::xs,[],_,_,_,h,_=>by cases x<;>exact h.elim
 | x::xs,(false,d)::ds,u,ps,vs,h,hv=>by
  obtain⟨v,vs',rfl,h1,h2⟩:=hv;unfold gvA at h;obtain⟨hr,h⟩:=h;obtain⟨s,k1,k2,k3,k4⟩:=zgw h h2;refine⟨s,k1,fun FP hFP=>?_,k3,k4⟩;obtain⟨tp,k2⟩:=k2 FP hFP;refine⟨tp,v,vs',rfl,?_,k2⟩;unfold rdV at hr;split at hr
  ·exact qlo hR hFP hr h1
  ·obtain⟨b,e,h1⟩:=h1;exact⟨b,e,zz5 hR hFP hr h1⟩
  ·exact hr.elim
 | .one c::xs,(true,.one t)::ds,u,ps,vs,h,hv=>by
  obtain⟨v,vs',rfl,h1,h2⟩:=hv;unfold gvA at h;obtain⟨s,ps',tp,k1,k2,k3,k4⟩:=zds hR hB h (vs:=[v]) ⟨v,[],rfl,h1,rfl⟩;obtain⟨s',j1,j2,j3,j4⟩:=zgw k1 h2;obtain⟨v0,vs0,f1,f2,t2,e0,e1,rfl,q1,q2⟩:=k2;cases e0;obtain⟨_,rfl,rfl⟩:=q2;rw[Kh]at e1;refine⟨s++s',by simpa using j1,fun FP hFP=>?_,fun x hx=>?_,fun hu=>by simpa using j4 (k4 hu)⟩
  ·obtain⟨tp',j2⟩:=j2 FP hFP;exact⟨zll t f1++tp',v,vs',bks B s,bks B s',_,tp',rfl,by unfold bks;rw[List.flatMap_append],rfl,⟨by rw[e1];exact q1,by rw[e1]⟩,j2⟩
  ·rcases Qm.1 hx with hx|hx
   ·exact k3 x hx
   ·exact j3 x hx
 | .agg cs::xs,(true,.agg ts)::ds,u,ps,vs,h,hv=>by
  obtain⟨v,vs',rfl,⟨y,rfl,h1⟩,h2⟩:=hv;unfold gvA at h;obtain⟨s,ps',tp,k1,k2,k3,k4⟩:=zds hR hB h h1;obtain⟨s',j1,j2,j3,j4⟩:=zgw k1 h2;refine⟨s++s',by simpa using j1,fun FP hFP=>?_,fun x hx=>?_,fun hu=>by simpa using j4 (k4 hu)⟩
  ·obtain⟨tp',j2⟩:=j2 FP hFP;exact⟨tp++tp',_,vs',bks B s,bks B s',tp,tp',rfl,by unfold bks;rw[List.flatMap_append],rfl,⟨y,rfl,k2⟩,j2⟩
  ·rcases Qm.1 hx with hx|hx
   ·exact k3 x hx
   ·exact j3 x hx
 | .one _::_,(true,.agg _)::_,_,_,_,h,_=>h.elim
 | .agg _::_,(true,.one _)::_,_,_,_,h,_=>h.elim
 | .tup _::_,(true,d)::_,_,_,_,h,_=>by cases d<;>exact h.elim
end
end
section
open Go.RowKit
variable {P:Program}
def C.okU (τ:St):C->Prop
 | .t x=>x.flat=true
 | .nl _=>True
 | .ow e g=>zar (τ.ev e) fun x=>g<=x.gen
 | .bx b _=>τ.bx b≠none
 | .el _ _=>False
 | .er _ _=>True
 | .eo e s _ _ _=>zar (τ.ev e) fun x=>s<=x.gen
 | .fn _ caps=>qab τ caps
 | .cv _=>True
 | .any=>True
 | .rn _=>True
def qsi (τ:St):List C->Prop
 | []=>True
 | c::cs=>c.okU τ/\qsi τ cs
def okUt (τ:St):List (Bool×List C)->Prop
 | []=>True
 | x::xs=>qsi τ x.2/\okUt τ xs
def V.okU (τ:St):V->Prop
 | .one c=>c.okU τ
 | .agg cs=>qsi τ cs
 | .tup xs=>okUt τ xs
structure Kept (σ τ:St):Prop where
 sl:∀i,τ.sl i=.one .any\/(τ.sl i=σ.sl i/\(τ.sl i).okU τ)
 bx:∀b cs,τ.bx b=some cs->σ.bx b=some cs/\qsi τ cs
 ev:∀e x,τ.ev e=some x->σ.ev e=some x/\x.on=true/\x.deep=true
section
variable {σ τ:St}{g g':Gh}{w w':World}{ev':Nat->Option Ev}(hβ:g'.β=g.β)(hψ:∀e,τ.ev e≠none->ev' e=τ.ev e/\g'.ψ e=g.ψ e)(hrn:∀b,zb8 σ g w b->w'.heap[b]?=w.heap[b]?/\zb8 ⟨τ.sl,τ.bx,ev'⟩ g' w' b)
include hβ hψ hrn
theorem qf5 {c:C}{v:Value}(hc:c.okU τ)(h:CR σ g w c v):CR ⟨τ.sl,τ.bx,ev'⟩ g' w' c v:=by
 have hh:∀{e n:Nat},zar (τ.ev e) (fun x=>n<=x.gen)->g'.ψ e=g.ψ e/\St.has ⟨τ.sl,τ.bx,ev'⟩ e n:=fun {e n} ho=>by
  obtain⟨x,hx,hn⟩:=zai ho;obtain⟨k1,k2⟩:=hψ e (by rw[hx];simp);exact⟨k2,x,k1.trans hx,hn⟩
 cases c with
 | t x=>exact zcx hc h
 | nl s=>exact h
 | ow e n=>obtain⟨k1,k2⟩:=hh hc;exact⟨by rw[k1];exact h.1,k2⟩
 | bx b o=>exact⟨by rw[hβ];exact h.1,hc⟩
 | el cs o=>exact hc.elim
 | eo e s sz i o=>obtain⟨k1,k2⟩:=hh hc;obtain⟨b,n,c,q1,q2,q3,q4⟩:=h;exact⟨b,n,c,by rw[k1];exact q1,q2,q3,k2⟩
 | fn f caps=>exact⟨by rw[hβ];exact h.1,fun b hb=>zmb (show qab τ caps from hc) b hb⟩
 | cv u=>exact h
 | any=>trivial
 | rn x=>exact zas.keep (fun b hb=>(hrn b hb).1) (fun b hb=>(hrn b hb).2) x v h
 | er cs o=>obtain⟨b,q,h1,h2,h3⟩:=h;exact⟨b,q,h1,(hrn b h2).2,zbk.keep (fun b hb=>(hrn b hb).1) (fun b hb=>(hrn b hb).2) b (hrn b h2).1 q cs h3⟩
theorem zp8:∀{cs:List C}{vs:List Value},qsi τ cs->CRs σ g w cs vs->CRs ⟨τ.sl,τ.bx,ev'⟩ g' w' cs vs
 | [],_,_,h=>h
 | c::cs,vs,hc,h=>by
  obtain⟨v,vs',rfl,h1,h2⟩:=h;exact⟨v,vs',rfl,qf5 hβ hψ hrn hc.1 h1,zp8 hc.2 h2⟩
theorem qh6:∀{xs:List (Bool×List C)}{vs:List Value},okUt τ xs->CRt σ g w xs vs->CRt ⟨τ.sl,τ.bx,ev'⟩ g' w' xs vs
 | [],_,_,h=>h
 | x::xs,vs,hc,h=>by
  obtain⟨v,vs',rfl,h1,h2⟩:=h;refine⟨v,vs',rfl,?_,qh6 hc.2 h2⟩;unfold CRx at h1⊢;split at h1
  ·rw[if_pos ‹_›];obtain⟨a,k1,k2⟩:=h1;exact⟨a,k1,zp8 hβ hψ hrn hc.1 k2⟩
  ·rw[if_neg ‹_›];obtain⟨c,k1,k2⟩:=h1;refine⟨c,k1,qf5 hβ hψ hrn ?_ k2⟩;have:=hc.1;rw[k1]at this;exact this.1
theorem okU_vr {x:V}{v:Value}(hc:x.okU τ)(h:VR σ g w x v):VR ⟨τ.sl,τ.bx,ev'⟩ g' w' x v:=by
 cases x with
 | one c=>exact qf5 hβ hψ hrn hc h
 | agg cs=>obtain⟨a,k1,k2⟩:=h;exact⟨a,k1,zp8 hβ hψ hrn hc k2⟩
 | tup xs=>obtain⟨a,k1,k2⟩:=h;exact⟨a,k1,qh6 hβ hψ hrn hc k2⟩
end
theorem Rel.given {n0:Nat->Prop}{N:Nat}{σ τ:St}{g g':Gh}{a:Act}{w w':World}(hR:Rel n0 N σ g a w)(hn0:LtK n0 w)(hK:Kept σ τ){fp:List Nat}(hfp:∀b∈fp,∃e,σ.On e/\τ.ev e=none/\b∈g.φ e)(hbk:Bk (fun k=>k<w.heap.size/\k∉fp) w w')
  {ev':Nat->Option Ev} {F:List Nat} (hn:New τ g (fun b=>b∈fp\/w.heap.size<=b) w' ev' g' F):Rel n0 N ⟨τ.sl,τ.bx,ev'⟩ g' a w':=by
 have hOnσ:∀e,τ.On e->σ.On e:=fun e ⟨x,hx,ho⟩=>⟨x,(hK.ev e x hx).1,ho⟩
 have hlt:∀e,σ.On e->∀b∈g.φ e,b<w.heap.size:=fun e ⟨x,hx,ho⟩=>(hR.evs e x hx ho).lt
 have hbne:∀b,τ.bx b≠none->σ.bx b≠none:=fun b hb=>by
  obtain⟨cs,hcs⟩:=K4.1 hb;rw[(hK.bx b cs hcs).1];simp
 have hfR:∀b∈fp,g.A0 b/\g.R0 b/\¬n0 b:=fun b hb=>by
  obtain⟨e,ho,_,hm⟩:=hfp b hb;obtain⟨k1,k2⟩:=hR.ebase e ho b hm;exact⟨k1,k2,hR.etop e ho b hm⟩
 have hNB:∀b,(b∈fp\/w.heap.size<=b)->g.A0 b/\g.R0 b/\¬n0 b:=fun b hb=>by
  rcases hb with hb|hb
  ·exact hfR b hb
  ·have hnn:=hn0.new hb;exact⟨(hR.anew b hnn).1,(hR.anew b hnn).2,hnn⟩
 have hβfp:∀b,τ.bx b≠none->¬(g.β b∈fp\/w.heap.size<=g.β b):=fun b hb h=>by
  rcases h with h|h
  ·obtain⟨e,ho,_,hm⟩:=hfp _ h;exact hR.ebx e b ho (hbne b hb) hm
  ·have:=hR.lt (hbne b hb);omega
 have hφfp:∀e,τ.On e->∀b∈g.φ e,¬(b∈fp\/w.heap.size<=b):=fun e ho b hb h=>by
  rcases h with h|h
  ·obtain⟨e',ho',hno,hm⟩:=hfp b h;refine hR.apart e e' (hOnσ e ho) ho' (fun hee=>?_) b hb hm;subst hee;obtain⟨x,hx,_⟩:=ho;rw[hx]at hno;cases hno
  ·have:=hlt e (hOnσ e ho) b hb;omega
 have hon:∀e,St.On ⟨τ.sl,τ.bx,ev'⟩ e->τ.ev e≠none->τ.On e:=fun e ⟨x,hx,ho⟩ hee=>⟨x,(hn.old e hee).1.symm.trans hx,ho⟩
 have hkeep:∀b,b<w.heap.size->b∉fp->w'.heap[b]?=w.heap[b]?:=fun b h1 h2=>hbk.block b ⟨h1,h2⟩
 have hrn:∀b,zb8 σ g w b->w'.heap[b]?=w.heap[b]?/\zb8 ⟨τ.sl,τ.bx,ev'⟩ g' w' b:=fun b hb=>by
  obtain⟨hf,hr⟩:=hb;have hnb:∀e,St.On ⟨τ.sl,τ.bx,ev'⟩ e->b∉g'.φ e:=fun e ho hm=>by
   by_cases hee:τ.ev e=none
   ·obtain⟨x,hx,_⟩:=ho;rcases((hn.new e x hee hx).2.2.1 b hm).1 with h|h
    ·obtain⟨e',ho',_,hm'⟩:=hfp b h;exact hr e' ho' hm'
    ·have:=hf.2.2.1;omega
   ·rw[(hn.old e hee).2.2]at hm;exact hr e (hOnσ e (hon e ho hee)) hm
  refine⟨hkeep b hf.2.2.1 (fun hm=>by obtain⟨e',ho',_,hm'⟩:=hfp b hm;exact hr e' ho' hm'),⟨fun k hk=>by rw[hn.β];exact hf.1 k (hbne k hk),fun e x hx hon' hh=>hnb e ⟨x,hx,hon'⟩ (List.mem_of_mem_head? hh),Jp hf.2.2.1 hbk.size,by rw[hn.A0];exact hf.2.2.2⟩,hnb⟩
 have hψ:∀e,τ.ev e≠none->ev' e=τ.ev e/\g'.ψ e=g.ψ e:=fun e he=>⟨(hn.old e he).1,(hn.old e he).2.1⟩
 refine⟨by rw[hR.defers],hR.size,by rw[hn.A0,hn.R0];exact hR.anew,fun i=>?_,fun b cs hb=>?_,fun b hb=>by rw[hn.β];exact hR.base b (hbne b hb),fun b b' h1 h2 h3=>by rw[hn.β]at h3;exact hR.inj b b' (hbne b h1) (hbne b' h2) h3,fun e x he ho=>?_,fun e x he ho=>?_,hn.slc,fun e he b hb=>?_,fun e he b hb=>?_,fun e he=>?_,fun e e' h1 h2 hne b hb1 hb2=>?_,fun e k he hk hm=>?_⟩
 ·rcases hK.sl i with h|⟨h,hok⟩
  ·rw[show(⟨τ.sl,τ.bx,ev'⟩:St).sl i=.one .any from h];trivial
  ·rw[hn.R0];show VR _ g' w' (τ.sl i) _
   have hs:=hR.slots i;rw[<-h]at hs;exact okU_vr hn.β hψ hrn hok hs
 ·obtain⟨hb1,hb2⟩:=hK.bx b cs hb;obtain⟨vs,ty,k1,k2⟩:=hR.boxes b cs hb1;have hne:τ.bx b≠none:=by rw[show τ.bx b=some cs from hb];simp
  have hnf:=hβfp b hne;exact⟨vs,ty,by rw[hn.β,hkeep _ (hR.lt (hbne b hne)) (fun h=>hnf (Or.inl h))];exact k1,zp8 hn.β hψ hrn hb2 k2⟩
 ·by_cases hee:τ.ev e=none
  ·obtain⟨⟨k1,_,k0⟩,k2,k3,k4⟩:=hn.new e x hee he;rw[k0];unfold za5 at k2;obtain⟨ao,cap,j1,j2,j3,j4⟩:=k2;refine⟨ao,cap,j1,j2,j3,?_⟩;rcases j4 with j4|⟨b,cells,ty,fps,j4,j5,j6,j7,j8⟩
   ·exact Or.inl j4
   ·exact Or.inr ⟨b,cells,ty,fps,j4,j5,j6,j7,by rw[if_pos k1];exact j8⟩
  ·obtain⟨o1,o2,o3⟩:=hn.old e hee;have hx:τ.ev e=some x:=o1.symm.trans he;obtain⟨k1,k2,k3⟩:=hK.ev e x hx;have hE:=hR.evs e x k1 k2;have hno:=hφfp e ⟨x,hx,k2⟩;have hl:=hlt e ⟨x,k1,k2⟩;have hkp:∀b∈g.φ e,w'.heap[b]?=w.heap[b]?:=fun b hb=>hkeep b (hl b hb) fun h=>hno b hb (Or.inl h);rw[o2,o3];obtain⟨ao,cap,r1,r2,r3,r4⟩:=hE;refine⟨ao,cap,r1,r2,r3,?_⟩;rcases r4 with r4|⟨b,cells,ty,fps,r4,r5,r6,r7,r8⟩
   ·exact Or.inl r4
   ·rw[if_pos k3]at r8;exact Or.inr ⟨b,cells,ty,fps,r4,r5,by rw[hkp b (by rw[r5];simp)];exact r6,r7,by rw[if_pos k3];exact zaq.keep cells 0 x.sz x.rows fps r8 fun b' hb'=>hkp b' (by rw[r5];simp[hb'])⟩
 ·by_cases hee:τ.ev e=none
  ·rw[(hn.new e x hee he).1.2.1]at ho;cases ho
  ·have hx:τ.ev e=some x:=(hn.old e hee).1.symm.trans he;rw[(hK.ev e x hx).2.1]at ho;cases ho
 ·rw[hn.A0,hn.R0];by_cases hee:τ.ev e=none
  ·obtain⟨x,hx,_⟩:=he;have:=hNB b ((hn.new e x hee hx).2.2.1 b hb).1;exact⟨this.1,this.2.1⟩
  ·rw[(hn.old e hee).2.2]at hb;exact hR.ebase e (hOnσ e (hon e he hee)) b hb
 ·by_cases hee:τ.ev e=none
  ·obtain⟨x,hx,_⟩:=he;exact(hNB b ((hn.new e x hee hx).2.2.1 b hb).1).2.2
  ·rw[(hn.old e hee).2.2]at hb;exact hR.etop e (hOnσ e (hon e he hee)) b hb
 ·by_cases hee:τ.ev e=none
  ·obtain⟨x,hx,_⟩:=he;exact(hn.new e x hee hx).2.2.2
  ·rw[(hn.old e hee).2.2];exact hR.nodup e (hOnσ e (hon e he hee))
 ·by_cases hee:τ.ev e=none
  ·obtain⟨x,hx,_⟩:=h1;by_cases hee':τ.ev e'=none
   ·obtain⟨x',hx',_⟩:=h2;exact hn.apart e e' hee hee' (by rw[show ev' e=some x from hx];simp) (by rw[show ev' e'=some x' from hx'];simp) hne b hb1 hb2
   ·rw[(hn.old e' hee').2.2]at hb2;exact hφfp e' (hon e' h2 hee') b hb2 ((hn.new e x hee hx).2.2.1 b hb1).1
  ·rw[(hn.old e hee).2.2]at hb1;by_cases hee':τ.ev e'=none
   ·obtain⟨x',hx',_⟩:=h2;exact hφfp e (hon e h1 hee) b hb1 ((hn.new e' x' hee' hx').2.2.1 b hb2).1
   ·rw[(hn.old e' hee').2.2]at hb2;exact hR.apart e e' (hOnσ e (hon e h1 hee)) (hOnσ e' (hon e' h2 hee')) hne b hb1 hb2
 ·rw[hn.β]at hm;by_cases hee:τ.ev e=none
  ·obtain⟨x,hx,_⟩:=he;exact hβfp k hk ((hn.new e x hee hx).2.2.1 _ hm).1
  ·rw[(hn.old e hee).2.2]at hm;exact hR.ebx e k (hOnσ e (hon e he hee)) (hbne k hk) hm
theorem qem {o:Oper}{σ τ:St}{x:Operand}{asx:Array Operand}{ts:Array TypeId}{f:FuncId}{cvs:List V}{d:Nat}{ds:List (Bool×D)}{res:List D}{ps:List (Nat×Nat×Nat)}(ho:o.op=.call ⟨.value x,asx,ts⟩)(hd:o.dst=some d)
  (h:GC P f ds res) (hc:za0 (σ.get P 0 x)=some (f,cvs)) (hK:Kept σ τ) (hv:gvA σ (fun u=>∀s∈u,τ.ev s.1=none) [] ps (σ.gets P asx ts++cvs) ds) (hf:zio d 0 (zbi res) τ.ev):zah P o σ (τ.callF d res):=by
 intro n0 N g a w hR hn hdN
 obtain⟨vs,h1,h2⟩:=zdb hR ho hc h.1
 unfold Oper.wp
 rw[h1]
 obtain⟨B,hB⟩:=hR.fam
 obtain⟨s,k1,k2,k3,k4⟩:=zgw hR hB hv h2
 rw[Kh]at k1 k4
 have hsp:s.Pairwise okP:=by
  have:=(J0.1 (k4 List.Pairwise.nil));exact this.imp fun h=>h.symm
 have hnd:=zey hR hB k3 hsp
 have hfp:∀b∈bks B s,∃e,σ.On e/\τ.ev e=none/\b∈g.φ e:=fun b hb=>by
  obtain⟨x,hx,hm⟩:=Jr.1 hb;exact⟨x.1,k3 x hx,k1 x (List.mem_reverse.2 hx),hB.sub x.1 x.2 b (k3 x hx) hm⟩
 obtain⟨tp,k2⟩:=k2 (bks B s) fun b hb=>by obtain⟨e,h1,_,h3⟩:=hfp b hb;exact⟨e,h1,h3⟩
 refine(h.2 w vs (bks B s) tp k2 hnd).mono ?_
 rintro e w' ⟨us,fp',tp',rfl,o1,o2,o3,hbk⟩
 have o1':=zfi.of_g o1
 obtain⟨g',q1,q2,q3⟩:=New.cells (σ:=τ) (g:=g) (NB:=fun b=>b∈bks B s\/w.heap.size<=b) (w':=w') d (zbi res) _ fp' 0 τ.ev g [] (New.refl _ _ _ _ hR.slc) (fun e h1 h2=>absurd h1 h2) hf o1'.cells o2 (fun b hb'=>⟨o3 b hb',by simp⟩)
 have hR':=hR.given hn hK hfp hbk q1
 have hBk:Bk n0 w w':=⟨hbk.os,hbk.tape,hbk.output,hbk.size,fun k hk=>hbk.block k ⟨hn k hk,fun hm=>by
  obtain⟨e,h1,_,h3⟩:=hfp k hm
  exact hR.etop e h1 k h3 hk⟩⟩
 refine⟨g',?_,hBk,q1.A0,q1.R0⟩
 have hp:=hR'.put (some d) (x:=znn (qcp d 0 res)) (v:=zci us) (ze6 (zrd d 0 o1' (q3 _ _ rfl)) (zlr d res 0)) (fun i hi=>by cases hi;exact hdN d hd)
 rw[hd]
 exact hp
def qb1 {α:Type}:List (Nat×α)->Nat->Prop
 | [],_=>True
 | p::l,i=>(i=p.1)=False/\qb1 l i
def zek {α β:Type}(l:List (Nat×β)):List (Nat×α)->Prop
 | []=>True
 | p::la=>qb1 l p.1/\zek l la
def okL (τ:St):List (Nat×V)->Prop
 | []=>True
 | p::l=>p.2.okU τ/\okL τ l
def okB (τ:St):List (Nat×List C)->Prop
 | []=>True
 | p::l=>qsi τ p.2/\okB τ l
def okE:List (Nat×Ev)->Prop
 | []=>True
 | p::l=>p.2.on=true/\p.2.deep=true/\okE l
def zwz (el:List (Nat×Ev)):List Sr->Prop
 | []=>True
 | s::u=>qb1 el s.1/\zwz el u
theorem znb {α:Type}:∀{l:List (Nat×α)}{i:Nat},qb1 l i->tbl l i=none
 | [],_,_=>rfl
 | (j,v)::l,i,h=>by unfold tbl;rw[if_neg (fun e=>of_eq_false h.1 e),znb h.2]
theorem zmf {el:List (Nat×Ev)}:∀{u:List Sr},zwz el u->∀s∈u,tbl el s.1=none
 | [],_,s,hs=>by simp at hs
 | x::u,h,s,hs=>by
  rcases Qp.1 hs with rfl|hs
  ·exact znb h.1
  ·exact zmf h.2 s hs
theorem zog:∀{l:List (Nat×V)}{i:Nat},qb1 l i->zjl l i=.one .any
 | [],_,_=>rfl
 | (j,v)::l,i,h=>by unfold zjl;rw[if_neg (fun e=>of_eq_false h.1 e),zog h.2]
theorem zpw {l:List (Nat×V)}:∀{la:List (Nat×V)},zek l la->∀i,zjl l i=.one .any\/zjl l i=zjl (la++l) i
 | [],_,i=>Or.inr rfl
 | (j,v)::la,h,i=>by
  by_cases hij:i=j
  ·subst hij;exact Or.inl (zog h.1)
  ·rw[Jb];show _\/zjl l i=if i=j then v else zjl (la++l) i
   rw[if_neg hij];exact zpw h.2 i
theorem zls {α:Type}{l:List (Nat×α)}:∀{la:List (Nat×α)},zek l la->∀i x,tbl l i=some x->tbl (la++l) i=some x
 | [],_,i,x,hx=>hx
 | (j,v)::la,h,i,x,hx=>by
  by_cases hij:i=j
  ·subst hij;rw[znb h.1]at hx;cases hx
  ·rw[Jb];show(if i=j then some v else tbl (la++l) i)=some x
   rw[if_neg hij];exact zls h.2 i x hx
theorem zv5 {τ:St}:∀{l:List (Nat×V)},okL τ l->∀i,(zjl l i).okU τ
 | [],_,_=>trivial
 | (j,v)::l,h,i=>by
  unfold zjl;split
  ·exact h.1
  ·exact zv5 h.2 i
theorem zwn {τ:St}:∀{l:List (Nat×List C)},okB τ l->∀b cs,tbl l b=some cs->qsi τ cs
 | [],_,_,_,h=>by cases h
 | (j,v)::l,h,b,cs,hb=>by
  unfold tbl at hb;split at hb
  ·cases hb;exact h.1
  ·exact zwn h.2 b cs hb
theorem zu9:∀{l:List (Nat×Ev)},okE l->∀e x,tbl l e=some x->x.on=true/\x.deep=true
 | [],_,_,_,h=>by cases h
 | (j,v)::l,h,e,x,hb=>by
  unfold tbl at hb;split at hb
  ·cases hb;exact⟨h.1,h.2.1⟩
  ·exact zu9 h.2.2 e x hb
section
variable {ks:List Fr}{Q:Exit->St->Prop}{σ:St}{ops:Array Oper}{os:List Oper}{ty:TypeId}{ps:String}{af:Array Edge}{d:Nat}{x:Operand}{asx:Array Operand}{ts:Array TypeId}{f:FuncId}{ds:List (Bool×D)}{res:List D}
theorem callG (la l:List (Nat×V))(ba bl:List (Nat×List C))(ea el:List (Nat×Ev))(pl:List (Nat×Nat×Nat))(h:GC P f ds res)
  (hw:wkL σ (hd (la++l) (ba++bl) (ea++el)) (la++l)/\wkB σ (hd (la++l) (ba++bl) (ea++el)) (ba++bl)/\wkE σ (ea++el))
  (hk:zek l la/\zek bl ba/\zek el ea/\okL (hd l bl el) l/\okB (hd l bl el) bl/\okE el)
  (hp:zar (za0 ((hd (la++l) (ba++bl) (ea++el)).get P 0 x)) fun p=>p.1=f/\gvA (hd (la++l) (ba++bl) (ea++el)) (zwz el) [] pl ((hd (la++l) (ba++bl) (ea++el)).gets P asx ts++p.2) ds) (hf:zio d 0 (zbi res) (hd l bl el).ev)
  (k:exo P ops os ks Q ((hd l bl el).callF d res)):exo P ops (⟨some d,.call ⟨.value x,asx,ts⟩,ty,ps,af,none⟩::os) ks Q σ:=by
 obtain⟨⟨f',cvs⟩,h1,rfl,h2⟩:=zai hp
 obtain⟨k1,k2,k3,k4,k5,k6⟩:=hk
 refine zc6 rfl rfl (zah.pre (zac hw) (qem (P:=P) (o:=⟨some d,.call ⟨.value x,asx,ts⟩,ty,ps,af,none⟩) rfl rfl h h1 (τ:=hd l bl el) ⟨fun i=>?_,fun b cs hb=>⟨zls k2 b cs hb,zwn k5 b cs hb⟩,fun e x he=>⟨zls k3 e x he,zu9 k6 e x he⟩⟩ (zia (fun u hu=>zmf hu) h2) hf)) k
 rcases zpw k1 i with h|h
 ·exact Or.inl h
 ·exact Or.inr ⟨h,zv5 k4 i⟩
end
attribute [go_sem] gvT owU zh7 zro qb1 zek okL okB okE zwz C.okU qsi okUt V.okU gvA gvK okS okQ rdV rdC rdCs
end
section
open Go.RowKit
variable {P:Program}
def qib:Option (Nat×List (List C))->List (List C)
 | some p=>p.2
 | none=>[]
def blK (d:Nat):Option (Ev×List (Nat×Ev))->List (Nat×Ev)
 | some (x,cons)=>(d*32,x)::zp4 cons
 | none=>[]
def apKs:Option (Prop×Nat×Ev×List (Nat×Ev))->List Ky
 | some (_,e,_,cons)=>(2,e)::cons.map (fun p=>(2,p.1))
 | none=>[]
section
variable {ks:List Fr}{Q:Exit->St->Prop}{σ:St}{ops:Array Oper}{os:List Oper}{L:List (List Ky×List Ky)}{d:Nat}{t:TypeId}{ty:TypeId}{ps:String}{af:Array Edge}{len:Nat}{parts:Array (Nat×Operand)}{s y:Operand}
theorem zb9 (h:zar (blD P σ t len parts) fun r=>σ.ev (d*32)=none/\(r.2.map (·.1)).Nodup)
  (k:exd P ops os (L++[(zat (parts.toList.map (·.2))++(rK (qib (zk2 P (σ.get P) t len parts))++[(2,d*32)]),dK (some d)++eK (blK d (blD P σ t len parts)))]) ks Q ((σ.bl d (blD P σ t len parts)).put (some d) (.one (.ow (d*32) 0)))) :
  exd P ops (⟨some d,.buildSlice t len parts,ty,ps,af,none⟩::os) L ks Q σ:=by
 obtain⟨⟨x,cons⟩,h1,h2,h3⟩:=zai h
 rw[h1]at k
 unfold blD at h1
 obtain⟨p,e1,h1⟩:=Qd.1 h1
 obtain⟨q,e2,h1⟩:=Q0.1 h1
 simp only[Qn]at h1
 obtain⟨rfl,rfl⟩:=h1
 rw[e1]at k
 exact qt2 ⟨e1,e2,h2,h3⟩ k
theorem zjp (dp2:Bool)(h:zar (apV P σ d t s y dp2) fun r=>r.1)(k:exd P ops os (L++[(zat [s,y]++apKs (apV P σ d t s y dp2),dK (some d)++apKs (apV P σ d t s y dp2))]) ks Q (σ.apV d (apV P σ d t s y dp2))) :
  exd P ops (⟨some d,.call ⟨.builtin .append,#[s,y],#[t,t]⟩,ty,ps,af,none⟩::os) L ks Q σ:=by
 obtain⟨⟨p,e,x,cons⟩,h1,h2⟩:=zai h
 rw[h1]at k
 unfold Go.Proofs.YtnemmlahbbbobaaGreat.apV at h1
 split at h1
 ·rename_i e0 gn e2 gn2 hs hy;obtain⟨x0,k1,h3⟩:=Qd.1 h1;obtain⟨z,k2,h4⟩:=Qd.1 h3;clear h1 h3;by_cases hc:x0.gen=gn/\x0.on=true/\z.gen=gn2/\z.on=true/\z.sz=x0.sz/\e2≠e0
  ·rw[if_pos hc]at h4;obtain⟨rfl,c2,rfl,c4,c5,c6⟩:=hc;simp only[Qc,Qn]at h4;obtain⟨rfl,rfl,rfl,rfl⟩:=h4;obtain⟨dp,sz,rows,gn,on⟩:=x0;obtain⟨dp2,sz2,rows2,gn2,on2⟩:=z;simp only at c2 c4 c5;subst c2 c4 c5;exact dApOO ⟨hs,qag hy,k1,k2,c6,rfl⟩ h2.1 h2.2 k
  ·rw[if_neg hc]at h4;cases h4
 ·rename_i e0 gn sz rows2 hs hy;obtain⟨x0,k1,h4⟩:=Qd.1 h1;clear h1;by_cases hc:x0.gen=gn/\x0.on=true/\sz=x0.sz
  ·rw[if_pos hc]at h4;obtain⟨rfl,c2,rfl⟩:=hc;simp only[Qc,Qn]at h4;obtain⟨rfl,rfl,rfl,rfl⟩:=h4;obtain⟨dp,sz,rows,gn,on⟩:=x0;simp only at c2;subst c2;exact dApOT dp2 ⟨hs,hy,k1⟩ (fun hd=>zhy (h2.2.2 hd)) h2.1 h2.2.1 k
  ·rw[if_neg hc]at h4;cases h4
 ·rename_i z0 e2 gn2 hs hy;obtain⟨z,k2,h4⟩:=Qd.1 h1;clear h1;by_cases hc:z.gen=gn2/\z.on=true/\e2≠d*32
  ·rw[if_pos hc]at h4;obtain⟨rfl,c2,c3⟩:=hc;simp only[Qc,Qn]at h4;obtain⟨rfl,rfl,rfl,rfl⟩:=h4;obtain⟨dp2,sz2,rows2,gn2,on2⟩:=z;simp only at c2;subst c2;exact dApNO ⟨hs,qag hy,h2.2.2,k2,c3⟩ h2.1 h2.2.1 k
  ·rw[if_neg hc]at h4;cases h4
 ·rename_i z0 sz rows2 hs hy;simp only[Qc,Qn]at h1;obtain⟨rfl,rfl,rfl,rfl⟩:=h1;exact dApNT dp2 ⟨hs,hy,h2.2.2.2⟩ (fun hd=>zhy (h2.2.2.1 hd)) h2.1 h2.2.1 k
 ·cases h1
end
def St.pinE (σ:St)(e:Nat)(vs:Nat->Nat->Value):St:=⟨σ.sl,σ.bx,upd σ.ev e ((σ.ev e).map fun x=>⟨x.deep,x.sz,zdz vs 0 x.rows,x.gen,x.on⟩)⟩
theorem zbn.pinned {o:Oper}{σ σ':St}{K:St->Prop}{e sz gn:Nat}{rows:List (List T)}(h:zah P o σ σ')(he:σ'.ev e=some ⟨true,sz,rows,gn,true⟩)(k:∀vs,K (σ'.pinE e vs)):zbn P o σ K:=fun n0 N g a w hR hn hd=>by
 refine zc9 (fun a' w' hh=>?_) (h n0 N g a w hR hn hd)
 obtain⟨g',h1,h2,h3,h4⟩:=hh
 obtain⟨vs,hv⟩:=(zea h1 he).pins
 have hr:=h1.reown (hn.mono h2.size) he hv
 refine⟨σ'.pinE e vs,g',k vs,?_,h2,h3,h4⟩
 have e0:σ'.pinE e vs=σ'.inp [(e,zdz vs 0 rows)]:=by
  unfold St.pinE St.inp zzu zzu;rw[he];rfl
 rw[e0];exact hr
attribute [go_sem] qib blK apKs St.pinE
end
section
open Go.RowKit
variable {P:Program}
def PX (P:Program)(rs:List ResultVar)(res:List D)(σ:St):Prop:=∃pl,zar (zbu P σ rs) fun vs=>gvA σ (fun _=>True) [] pl vs (res.map fun d=>(true,d))
def PS (P:Program)(rs:List ResultVar)(res:List D)(e:Exit)(σ:St):Prop:=match e with
 | .normal=>PF P rs res .normal σ\/PX P rs res σ
 | .ret=>PF P rs res .ret σ\/PX P rs res σ
 | _=>False
theorem zkw {w:World}{A:Nat->Prop}:∀{res:List D}{vs:List Value}{fp tp:List Nat},za3 w A (res.map fun d=>(true,d)) vs fp tp->GDs w res vs fp tp
 | [],_,_,_,h=>h
 | d::ds,_,_,_,h=>by
  obtain⟨v,vs',f1,f2,t1,t2,rfl,rfl,rfl,h1,h2⟩:=h;exact⟨v,vs',f1,f2,t1,t2,rfl,rfl,rfl,h1,zkw h2⟩
theorem qsm {n0:Nat->Prop}{N:Nat}{σ:St}{g:Gh}{a:Act}{w:World}(hR:Rel n0 N σ g a w){vs:List V}{res:List D}{pl:List (Nat×Nat×Nat)}(h:gvA σ (fun _=>True) [] pl vs (res.map fun d=>(true,d))){us:List Value}(hv:VRl σ g w vs us) :
  ∃fp tp,GDs w res us fp tp/\fp.Nodup/\∀b∈fp,∃e,σ.On e/\b∈g.φ e:=by
 obtain⟨B,hB⟩:=hR.fam
 obtain⟨s,k1,k2,k3,k4⟩:=zgw hR hB h hv
 rw[Kh]at k4
 have hsp:s.Pairwise okP:=(J0.1 (k4 List.Pairwise.nil)).imp fun h=>h.symm
 obtain⟨tp,k2⟩:=k2 [] (by simp)
 refine⟨_,tp,zkw k2,zey hR hB k3 hsp,fun b hb=>?_⟩
 obtain⟨x,hx,hm⟩:=Jr.1 hb
 exact⟨x.1,k3 x hx,hB.sub x.1 x.2 b (k3 x hx) hm⟩
theorem qr5 {f:FuncId}{fn:Func}{c:Code}{args:List (Bool×D)}{res:List D}(hc:zbb P f)(hf:P.funcs[f]?=some fn)(hb:fn.body=some c)(hd:zc2 fn.ntmps c=true)(hN:args.length<=fn.ntmps)(hs:zcg args)
  (h:∀(w:World) (vs:List Value) (fp tp:List Nat),za3 w (fun b=>b<w.heap.size/\b∉fp) args vs fp tp->∀(g:Gh) (a:Act),Rel (fun b=>b<w.heap.size/\b∉fp) fn.ntmps (zec args) g a w->(a.tmps=(⟨vs⟩:Array Value)++Array.replicate (fn.ntmps-vs.length) undef/\(g.A0,g.R0)=((fun _=>True),RP.of fun b=>b∈fp\/w.heap.size<=b)) →
   ∃σ0,ex P c [] (PS P fn.results.toList res) σ0/\Rel (fun b=>b<w.heap.size/\b∉fp) fn.ntmps σ0 g a w):GC P f args res:=by
 refine⟨hc,fun w vs fp tp hv hn=>?_⟩
 refine calls_of_wp hf hb ?_
 have hv':za3 w (fun b=>b<w.heap.size/\True/\b∉fp) args vs fp tp:=za3.keepA (fun b hb=>⟨hb.1,trivial,hb.2⟩) hv
 obtain⟨g,hg,hR⟩:=Rel.start (A0:=fun _=>True) (R0:=RP.of fun b=>b∈fp\/w.heap.size<=b) (N:=fn.ntmps) hv' hn hs hN (fun _ _=>trivial) (fun b hb=>⟨trivial,Or.inl hb⟩) (fun b hb=>⟨trivial,by
  by_cases hlt:b<w.heap.size
  ·exact Or.inl (Classical.byContradiction fun h=>hb ⟨hlt,h⟩)
  ·exact Or.inr Yp⟩)
 obtain⟨σ0,hex,hR0⟩:=h w vs fp tp hv g _ hR ⟨rfl,hg⟩
 refine wp_mono (zbs (w0:=w) c σ0 _ hd hex g _ w hR0 (fun k hk=>hk.1) (Bk.refl _ _) hg) fun e a' w' hq=>?_
 obtain⟨σ',g',h1,h2,h3,h4,h5⟩:=hq
 have fin:∀{us:List Value} {v:Value},(results fn a'.tmps).run P w'=.ok v w'->v=zci us->(∃fp' tp',GDs w' res us fp' tp'/\fp'.Nodup/\∀b∈fp',∃e,σ'.On e/\b∈g'.φ e)->∃v,(results fn a'.tmps).run P w'=.ok v w'/\∃us fp' tp',Ending.returned v=.returned (zci us)/\GDs w' res us fp' tp'/\fp'.Nodup/\(∀b∈fp',b∈fp\/w.heap.size<=b)/\Bk (fun k=>k<w.heap.size/\k∉fp) w w':=fun {us v} r1 rv ⟨fp',tp',o1,o2,o3⟩=>by
  refine⟨_,r1,us,fp',tp',by rw[rv],o1,o2,fun b hb=>?_,h4⟩;obtain⟨e,l,m⟩:=o3 b hb;have:=(h2.ebase e l b m).2;rw[(K1 h5).2]at this;exact this
 have key:(zar (zbu P σ' fn.results.toList) (fun vs=>qcu σ' [] vs res)\/PX P fn.results.toList res σ')->∃v,(results fn a'.tmps).run P w'=.ok v w'/\∃us fp' tp',Ending.returned v=.returned (zci us)/\GDs w' res us fp' tp'/\fp'.Nodup/\(∀b∈fp',b∈fp\/w.heap.size<=b)/\Bk (fun k=>k<w.heap.size/\k∉fp) w w':=fun hk=>by
  rcases hk with hk|⟨pl,hk⟩
  ·obtain⟨vs,hvs,hk⟩:=zai hk;obtain⟨us,r1,r2⟩:=zbr h2 fn hvs;obtain⟨used,fp',tp',o1,o2⟩:=zeq h2 hk r2;exact fin r1 rfl ⟨fp',tp',o1,o2.1,fun b hb=>by obtain⟨e,_,_,l,m⟩:=o2.2.1 b hb;exact⟨e,l,m⟩⟩
  ·obtain⟨vs,hvs,hk⟩:=zai hk;obtain⟨us,r1,r2⟩:=zbr h2 fn hvs;exact fin r1 rfl (qsm h2 hk r2)
 cases e with
 | normal=>exact⟨h2.defers,key h1⟩
 | ret=>exact⟨h2.defers,key h1⟩
 | exit _=>exact h1.elim
 | goto _=>exact h1.elim
 | panic _=>exact h1.elim
 | outgrown=>exact h1.elim
section
variable {ks:List Fr}{Q:Exit->St->Prop}{σ:St}{ops:Array Oper}{os:List Oper}{ty:TypeId}{ps:String}{af:Array Edge}
theorem qtv (e:Nat){d:Nat}{x:Operand}{asx:Array Operand}{ts:Array TypeId}{f:FuncId}{ds res:List D}(h:FC P f ds res)(hp:zar (za0 (σ.get P 0 x)) fun p=>p.1=f/\VDs σ (σ.gets P asx ts++p.2) ds/\zio d 0 (zbi res) σ.ev)
  (he:zar ((σ.callF d res).ev e) fun y=>y.deep=true/\y.on=true) (k:∀vs,exo P ops os ks Q ((σ.callF d res).pinE e vs)):exo P ops (⟨some d,.call ⟨.value x,asx,ts⟩,ty,ps,af,none⟩::os) ks Q σ:=by
 obtain⟨⟨f',cvs⟩,h1,rfl,h2,h3⟩:=zai hp
 obtain⟨⟨dp,sz,rows,gn,on⟩,he,e1,e2⟩:=zai he
 simp only at e1 e2
 subst e1 e2
 exact zyy rfl rfl (zbn.pinned (zmx rfl rfl h h1 h2 h3) he k)
end
theorem qm6 (p:Prop):(p\/True)=True:=by simp
theorem qok (p:Prop):(True\/p)=True:=by simp
theorem qf7 {α:Type}(x:α)(xs:List α)(d:α):(x::xs).getD 0 d=x:=rfl
theorem qpg {α:Type}(x y:α)(xs:List α)(d:α):(x::y::xs).getD 1 d=y:=rfl
attribute [go_sem] qf7 qpg
attribute [go_sem] Bool.false_and Bool.and_false Bool.and_self
attribute [go_sem] PS qm6 qok
section
variable (A B:List (List T))(r:List T)
theorem qo8 {k:Nat}(h:A.length=k):(A++r::B).getD k []=r:=by subst h;simp
theorem qv6 {k:Nat}(h:A.length=k):(A++r::B)[k]?=some r:=by subst h;simp
theorem qlq {k:Nat}(h:A.length=k)(o:Nat)(ts:List T):zfv (A++r::B) k o ts=A++setR r o ts::B:=by subst h;simp[zfv]
theorem zux {k:Nat}(h:A.length=k)(j:Nat)(t:T):zm5 (A++r::B) k j t=A++r.set j t::B:=by subst h;simp[zm5]
end
theorem qcd (vs:Nat->Nat->Value)(i:Nat)(r:List T)(rs:List (List T)):zdz vs i (r::rs)=ql0 (vs i) 0 r::zdz vs (i+1) rs:=rfl
theorem qkh (us:Nat->Value)(j:Nat)(c:T)(cs:List T):ql0 us j (c::cs)=qwd (us j) c::ql0 us (j+1) cs:=rfl
theorem qmf (us:Nat->Value)(j:Nat):ql0 us j []=[]:=rfl
theorem qvq (v:Value)(sz:Nat)(rows:List (List T)):qwd v (.sl sz rows)=.pin v (.sl sz rows):=rfl
theorem qoc (v:Value)(k:IntKind)(n:Int):qwd v (.int k n)=.int k n:=rfl
theorem qpk (v:Value)(s:List UInt8):qwd v (.str s)=.str s:=rfl
theorem qdq (vs:Nat->Nat->Value)(i:Nat):zdz vs i []=[]:=rfl
theorem zww (n m:Nat):(n<n+(m+1))=True:=by simp
attribute [go_sem] PI zww qdq qcd qkh qmf qvq qoc qpk zii List.length_append qv6 qo8 qlq zux
theorem que (n:Nat):((n:Int)<0)=False:=by simp
attribute [go_sem] que List.set_cons_succ List.set_cons_zero
end
section
open Go.RowKit
variable {P:Program}
def D.toN:D->V
 | .one t=>.one t.toN
 | .agg ts=>.agg (ts.map T.toN)
def zkp:Nat->List D->Nat->V
 | _,[]=>fun _=>.one .any
 | k,d::ds=>upd (zkp (k+1) ds) k d.toN
def zl7 (args:List D):St:=⟨zkp 0 args,fun _=>none,fun _=>none⟩
theorem zsx:∀(ds:List D)(k i:Nat),zkp k ds (k+i)=match ds[i]? with|some d=>d.toN|none=>.one .any
 | [],k,i=>by simp[zkp]
 | d::ds,k,0=>by simp[zkp,upd]
 | d::ds,k,i+1=>by
  unfold zkp;rw[zak _ _ Yp,show k+(i+1)=k+1+i by omega,zsx ds (k+1) i];simp
theorem qro {σ:St}{g:Gh}{w:World}{A:Nat->Prop}(hA:∀b,A b->zb8 σ g w b){x:T}{v:Value}(h:zas w A x v):CR σ g w x.toN v:=by
 cases x<;>first|exact zas.keep (fun _ _=>rfl) (fun b hb=>(hA b hb).1) _ v h|exact zas.keep (fun _ _=>rfl) hA _ v h
theorem qh8 {σ:St}{g:Gh}{w:World}{A:Nat->Prop}(hA:∀b,A b->zb8 σ g w b):∀{ts:List T}{vs:List Value},zaf w A ts vs->CRs σ g w (ts.map T.toN) vs
 | [],vs,h=>by unfold zaf at h;exact h
 | t::ts,vs,h=>by
  unfold zaf at h;obtain⟨v,vs',rfl,h1,h2⟩:=h;exact⟨v,vs',rfl,qro hA h1,qh8 hA h2⟩
theorem ztu {σ:St}{g:Gh}{w:World}{A:Nat->Prop}(hA:∀b,A b->zb8 σ g w b){d:D}{v:Value}(h:zt2 w A d v):VR σ g w d.toN v:=by
 cases d with
 | one t=>exact qro hA h
 | agg ts=>obtain⟨a,h0,h1⟩:=h;exact⟨a,h0,qh8 hA h1⟩
theorem zbf.at {w:World}{A:Nat->Prop}:∀{ds:List D}{vs:List Value},zbf w A ds vs->∀(i:Nat) d,ds[i]?=some d->∃v,vs[i]?=some v/\zt2 w A d v
 | [],_,_,i,d,h=>by simp at h
 | d0::ds,vs,h,0,d,hi=>by
  obtain⟨v,vs',rfl,h1,h2⟩:=h;simp only[List.getElem?_cons_zero,Qc]at hi;subst hi;exact⟨v,rfl,h1⟩
 | d0::ds,vs,h,i+1,d,hi=>by
  obtain⟨v,vs',rfl,h1,h2⟩:=h;simpa using zbf.at h2 i d (by simpa using hi)
theorem zd7 {w:World}{A:Nat->Prop}:∀{ds:List D}{vs:List Value}{fp tp:List Nat},za3 w A (rd ds) vs fp tp->zbf w A ds vs/\fp=[]/\tp=[]
 | [],_,_,_,h=>⟨h.1,h.2.1,h.2.2⟩
 | d::ds,_,_,_,h=>by
  obtain⟨v,vs',rfl,h1,h2⟩:=h;obtain⟨k1,k2,k3⟩:=zd7 h2;exact⟨⟨v,vs',rfl,h1,k1⟩,k2,k3⟩
theorem zr0 {args:List D}{w:World}{vs:List Value}{N:Nat}{g:Gh}{a:Act}(hr:zbf w (fun b=>b<w.heap.size/\b∉([]:List Nat)) args vs)(hR:Rel (fun b=>b<w.heap.size/\b∉([]:List Nat)) N (zec (rd args)) g a w)
  (hg:a.tmps=(⟨vs⟩:Array Value)++Array.replicate (N-vs.length) undef/\(g.A0,g.R0)=((fun _=>True),RP.of fun b=>b∈([]:List Nat)\/w.heap.size<=b)):Rel (fun b=>b<w.heap.size/\b∉([]:List Nat)) N (zl7 args) g a w:=by
 have hbx:∀(ds:List D) (k:Nat),zh2 k (rd ds)=fun _=>none:=fun ds=>by
  induction ds with
  | nil=>intro k;rfl
  | cons d ds ih=>intro k;exact ih (k+1)
 have hG:∀b,(b<w.heap.size/\b∉([]:List Nat))->zb8 (zl7 args) g w b:=fun b hb=>by
  refine⟨⟨fun k hk=>absurd rfl hk,fun e x he _=>(by cases he),hb.1,by rw[(K1 hg.2).1];trivial⟩,?_⟩;rintro e ⟨x,hx,_⟩;cases hx
 refine hR.slots_of (σ':=zl7 args) rfl ?_ hR.defers hR.size fun i=>?_
 ·show(fun _=>none)=zh2 0 (rd args)
  rw[hbx]
 ·have hm:Mv (zl7 args) (zl7 args) g g w w:=Mv.of_eq g w rfl rfl;show VR (zec (rd args)) g w (zkp 0 args i) _
  have hi:=zsx args 0 i;rw[Q5]at hi;rw[hi];cases hd:args[i]? with
  | none=>trivial
  | some d =>
   obtain⟨v,hv1,hv2⟩:=zbf.at hr i d hd;have hlt:i<vs.length:=(List.getElem?_eq_some_iff.1 hv1).1;have e:a.tmps.getD i (g.R0.ξ i)=v:=by
    rw[hg.1];rw[Array.getD_eq_getD_getElem?,Array.getElem?_append_left (by simpa using hlt)];simp[hv1]
   rw[e];have hx:=ztu hG hv2;exact(Mv.of_eq (σ:=zl7 args) (σ':=zec (rd args)) g w rfl (by show zh2 0 (rd args)=fun _=>none;rw[hbx])).vr hx
theorem zfg {f:FuncId}{fn:Func}{c:Code}{args res:List D}(hc:zbb P f)(hf:P.funcs[f]?=some fn)(hb:fn.body=some c)(hd:zc2 fn.ntmps c=true)(hN:(rd args).length<=fn.ntmps)
  (h:ex P c [] (PS P fn.results.toList res) (zl7 args)):FC P f args res:=by
 refine qr5 hc hf hb hd hN (zcl args) fun w vs fp tp hv g a hR hg=>?_
 obtain⟨hr,rfl,rfl⟩:=zd7 hv
 exact⟨zl7 args,h,zr0 hr hR hg⟩
attribute [go_sem] zl7 zkp D.toN T.toN
end
section
open Go.RowKit
variable {P:Program}
theorem Rel.turn {n0 n1 A1:Nat->Prop}{N:Nat}{σ:St}{g:Gh}{a:Act}{w w':World}(h:Rel n0 N σ g a w)(hF:∀b,Fix σ g w b->A1 b/\w'.heap[b]?=w.heap[b]?)(hz:w.heap.size<=w'.heap.size)
  (hn:∀b,¬n1 b->A1 b/\g.R0 b) (hb:∀k,σ.bx k≠none->¬n1 (g.β k)/\w'.heap[g.β k]?=w.heap[g.β k]?) (he:∀e,σ.On e->∀b∈g.φ e,¬n1 b/\A1 b/\w'.heap[b]?=w.heap[b]?):Rel n1 N σ { g with A0:=A1 } a w':=by
 have m:Mv σ σ g { g with A0:=A1 } w w':=⟨fun b hf=>(hF b hf).2,fun b hf=>⟨hf.1,hf.2.1,Jp hf.2.2.1 hz,(hF b hf).1⟩,fun b hbb=>⟨rfl,hbb⟩,fun e n hh=>⟨hh,rfl⟩,fun b hb=>hb.2⟩
 refine⟨h.defers,h.size,hn,fun i=>m.vr (h.slots i),fun b cs hbb=>?_,fun b hbb=>(hb b hbb).1,h.inj,fun e x hx ho=>m.evr (h.evs e x hx ho) fun b hm=>(he e ⟨x,hx,ho⟩ b hm).2.2,fun e x hx ho=>⟨m.rep (h.offs e x hx ho).1,(h.offs e x hx ho).2⟩,h.slc,fun e ho b hm=>⟨(he e ho b hm).2.1,(h.ebase e ho b hm).2⟩,fun e ho b hm=>(he e ho b hm).1,h.nodup,h.apart,h.ebx⟩
 obtain⟨vs,ty,k1,k2⟩:=h.boxes b cs hbb
 exact⟨vs,ty,by rw[(hb b (by rw[hbb];simp)).2];exact k1,m.crs k2⟩
theorem Rel.elt {n0:Nat->Prop}{N:Nat}{σ:St}{g:Gh}{a:Act}{w:World}(h:Rel n0 N σ g a w){e:Nat}(ho:σ.On e){b:Nat}(hm:b∈g.φ e):b<w.heap.size:=by
 obtain⟨x,hx,hon⟩:=ho
 exact(h.evs e x hx hon).lt b hm
theorem Rel.leave {n0 n1 A1:Nat->Prop}{N:Nat}{σ:St}{g:Gh}{a:Act}{w:World}(h:Rel n1 N σ g a w)(hn:∀b,n0 b->n1 b)(hA:∀b,g.A0 b->A1 b)(hnew:∀b,¬n0 b->A1 b/\g.R0 b):Rel n0 N σ { g with A0:=A1 } a w :=
 h.turn (fun b hf=>⟨hA b hf.2.2.2,rfl⟩) (Qz _) hnew (fun k hk=>⟨fun k1=>h.base k hk (hn _ k1),rfl⟩) (fun e ho b hm=>⟨fun k1=>h.etop e ho b hm (hn _ k1),hA b (h.ebase e ho b hm).1,rfl⟩)
end
section
open Go.RowKit
variable {P:Program}
theorem owK_rn (t:T)(A B:Prop):owK (.one (.rn t)) A B=B:=by simp[owK,isOw]
attribute [go_sem] owK_rn
end
section
open Go.RowKit
variable {P:Program}
def swp (a b e:Nat):Nat:=if e=a then b else if e=b then a else e
theorem zej (a b e:Nat):swp a b (swp a b e)=e:=by unfold swp;split<;>(try split)<;>(try split)<;>omega
def C.ren (a b:Nat):C->C
 | .ow e g=>.ow (swp a b e) g
 | .eo e g sz i o=>.eo (swp a b e) g sz i o
 | c=>c
def V.ren (a b:Nat):V->V
 | .one c=>.one (c.ren a b)
 | .agg cs=>.agg (cs.map (C.ren a b))
 | .tup xs=>.tup (xs.map fun x=>(x.1,x.2.map (C.ren a b)))
def St.ren (σ:St)(a b:Nat):St:=⟨fun i=>(σ.sl i).ren a b,fun k=>(σ.bx k).map (·.map (C.ren a b)),fun e=>σ.ev (swp a b e)⟩
def Gh.ren (g:Gh)(a b:Nat):Gh:={ g with ψ:=fun e=>g.ψ (swp a b e),φ:=fun e=>g.φ (swp a b e) }
theorem zkk {σ:St}{a b k:Nat}:(σ.ren a b).bx k≠none↔σ.bx k≠none:=by unfold St.ren;simp
theorem qhv {σ:St}{a b e n:Nat}(h:σ.has e n):(σ.ren a b).has (swp a b e) n:=by
 obtain⟨x,h1,h2⟩:=h
 exact⟨x,by show σ.ev (swp a b (swp a b e))=_;rw[zej];exact h1,h2⟩
theorem zws {σ:St}{g:Gh}{w:World}{a b:Nat}:Fix (σ.ren a b) (g.ren a b) w=Fix σ g w:=by
 funext q
 refine propext ⟨fun h=>⟨fun k hk=>h.1 k (zkk.2 hk),fun e x he ho=>?_,h.2.2⟩,fun h=>⟨fun k hk=>h.1 k (zkk.1 hk),fun e x he ho=>h.2.1 (swp a b e) x he ho,h.2.2⟩⟩
 have:=h.2.1 (swp a b e) x (by show σ.ev (swp a b (swp a b e))=_;rw[zej];exact he) ho
 have e2:(g.ren a b).φ (swp a b e)=g.φ e:=by show g.φ (swp a b (swp a b e))=_;rw[zej]
 rwa [e2]at this
theorem qlm {σ:St}{g:Gh}{w:World}{a b:Nat}:zb8 (σ.ren a b) (g.ren a b) w=zb8 σ g w:=by
 funext q
 unfold zb8
 rw[zws]
 refine propext ⟨fun h=>⟨h.1,fun e ho hm=>h.2 (swp a b e) ?_ ?_⟩,fun h=>⟨h.1,fun e ho hm=>h.2 (swp a b e) ho hm⟩⟩
 ·show σ.On (swp a b (swp a b e));rw[zej];exact ho
 ·show q∈g.φ (swp a b (swp a b e));rw[zej];exact hm
theorem qhg {σ:St}{g:Gh}{w:World}{a b:Nat}{c:C}{v:Value}(h:CR σ g w c v):CR (σ.ren a b) (g.ren a b) w (c.ren a b) v:=by
 have hF:=zws (σ:=σ) (g:=g) (w:=w) (a:=a) (b:=b)
 have hψ:∀e,(g.ren a b).ψ (swp a b e)=g.ψ e:=fun e=>by show g.ψ (swp a b (swp a b e))=_;rw[zej]
 cases c with
 | t x=>show zas _ _ _ _;rw[hF];exact h
 | nl s=>exact h
 | ow e n=>exact⟨by show v=(g.ren a b).ψ (swp a b e) n;rw[hψ];exact h.1,qhv h.2⟩
 | bx q o=>exact⟨h.1,zkk.2 h.2⟩
 | el cs o=>obtain⟨q,r,h1,h2,h3⟩:=h;exact⟨q,r,h1,by rw[hF];exact h2,by rw[hF];exact h3⟩
 | eo e s sz i o=>obtain⟨q,n,c,h1,h2,h3,h4⟩:=h;exact⟨q,n,c,by rw[hψ];exact h1,h2,h3,qhv h4⟩
 | fn f caps=>exact⟨h.1,fun q hq=>zkk.2 (h.2 q hq)⟩
 | cv u=>exact h
 | any=>trivial
 | rn x=>show zas _ _ _ _;rw[qlm];exact h
 | er cs o=>obtain⟨q,r,h1,h2,h3⟩:=h;exact⟨q,r,h1,by rw[qlm];exact h2,by rw[qlm];exact h3⟩
theorem zpi {σ:St}{g:Gh}{w:World}{a b:Nat}:∀{cs:List C}{vs:List Value},CRs σ g w cs vs->CRs (σ.ren a b) (g.ren a b) w (cs.map (C.ren a b)) vs
 | [],_,h=>h
 | c::cs,_,h=>by obtain⟨v,vs',rfl,h1,h2⟩:=h;exact⟨v,vs',rfl,qhg h1,zpi h2⟩
theorem qig {σ:St}{g:Gh}{w:World}{a b:Nat}:∀{xs:List (Bool×List C)}{vs:List Value},CRt σ g w xs vs->CRt (σ.ren a b) (g.ren a b) w (xs.map fun x=>(x.1,x.2.map (C.ren a b))) vs
 | [],_,h=>h
 | x::xs,_,h=>by
  obtain⟨v,vs',rfl,h1,h2⟩:=h;refine⟨v,vs',rfl,?_,qig h2⟩;unfold CRx at h1⊢;split at h1
  ·rw[if_pos ‹_›];obtain⟨q,h3,h4⟩:=h1;exact⟨q,h3,zpi h4⟩
  ·rw[if_neg ‹_›];obtain⟨c,h3,h4⟩:=h1;exact⟨c.ren a b,by simp[h3],qhg h4⟩
theorem vr_ren {σ:St}{g:Gh}{w:World}{a b:Nat}{x:V}{v:Value}(h:VR σ g w x v):VR (σ.ren a b) (g.ren a b) w (x.ren a b) v:=by
 cases x with
 | one c=>exact qhg h
 | agg cs=>obtain⟨q,h1,h2⟩:=h;exact⟨q,h1,zpi h2⟩
 | tup xs=>obtain⟨q,h1,h2⟩:=h;exact⟨q,h1,qig h2⟩
theorem zn3 {σ:St}{a b e:Nat}(h:(σ.ren a b).On e):σ.On (swp a b e):=h
theorem Rel.ren {n0:Nat->Prop}{N:Nat}{σ:St}{g:Gh}{ac:Act}{w:World}(h:Rel n0 N σ g ac w)(a b:Nat):Rel n0 N (σ.ren a b) (g.ren a b) ac w:=by
 have hF:=zws (σ:=σ) (g:=g) (w:=w) (a:=a) (b:=b)
 refine⟨h.defers,h.size,h.anew,fun i=>vr_ren (h.slots i),fun k cs hk=>?_,fun k hk=>h.base k (zkk.1 hk),fun k k' h1 h2=>h.inj k k' (zkk.1 h1) (zkk.1 h2),fun e x he ho=>?_,fun e x he ho=>?_,fun e n=>h.slc (swp a b e) n,fun e he=>h.ebase _ (zn3 he),fun e he=>h.etop _ (zn3 he),fun e he=>h.nodup _ (zn3 he),fun e e' he he' hne=>h.apart _ _ (zn3 he) (zn3 he') (fun k=>hne (by rw[<-zej a b e,k,zej])),fun e k he hk=>h.ebx _ k (zn3 he) (zkk.1 hk)⟩
 ·obtain⟨cs0,h1,rfl⟩:=Q0.1 hk;obtain⟨vs,ty,k1,k2⟩:=h.boxes k cs0 h1;exact⟨vs,ty,k1,zpi k2⟩
 ·rw[hF];exact h.evs (swp a b e) x he ho
 ·rw[hF];exact h.offs (swp a b e) x he ho
theorem zx8 (a b:Nat):∀(l:List (Nat×V))(i:Nat),(zjl l i).ren a b=zjl (l.map fun p=>(p.1,p.2.ren a b)) i
 | [],i=>rfl
 | (j,v)::l,i=>by
  simp only[Qf,zjl];split
  ·rfl
  ·exact zx8 a b l i
theorem qf4 {α β:Type}(f:α->β):∀(l:List (Nat×α))(i:Nat),(tbl l i).map f=tbl (l.map fun p=>(p.1,f p.2)) i
 | [],i=>rfl
 | (j,v)::l,i=>by
  simp only[Qf,tbl];split
  ·rfl
  ·exact qf4 f l i
theorem qds {α:Type}(a b:Nat):∀(l:List (Nat×α))(i:Nat),tbl l (swp a b i)=tbl (l.map fun p=>(swp a b p.1,p.2)) i
 | [],i=>rfl
 | (j,v)::l,i=>by
  simp only[Qf,tbl];by_cases h:swp a b i=j
  ·rw[if_pos h,if_pos (by rw[<-h,zej])]
  ·rw[if_neg h,if_neg (fun e=>h (by rw[e,zej]))];exact qds a b l i
theorem wk_ren (a b:Nat)(l:List (Nat×V))(bl:List (Nat×List C))(el:List (Nat×Ev)):Wk (hd l bl el) (hd (l.map fun p=>(p.1,p.2.ren a b)) (bl.map fun p=>(p.1,p.2.map (C.ren a b))) (el.map fun p=>(swp a b p.1,p.2))):=fun n0 N g ac w hR=>by
 have e:(hd l bl el).ren a b=hd (l.map fun p=>(p.1,p.2.ren a b)) (bl.map fun p=>(p.1,p.2.map (C.ren a b))) (el.map fun p=>(swp a b p.1,p.2)):=by
  unfold hd St.ren;simp only[St.mk.injEq];exact⟨funext fun i=>zx8 a b l i,funext fun k=>qf4 _ bl k,funext fun e=>qds a b el e⟩
 exact⟨g.ren a b,e▸hR.ren a b,rfl,rfl⟩
end
section
open Go.RowKit
variable {P:Program}
def C.evs:C->List Nat
 | .ow e _=>[e]
 | .eo e _ _ _ _=>[e]
 | _=>[]
def C.bxs:C->List Nat
 | .bx b _=>[b]
 | .fn _ caps=>caps
 | _=>[]
def V.alls:V->List C
 | .one c=>[c]
 | .agg cs=>cs
 | .tup xs=>xs.flatMap (·.2)
def ins (x:Nat):List Nat->List Nat
 | []=>[x]
 | y::l=>if x=y then y::l else y::ins x l
def zol:List Nat->List Nat->List Nat
 | [],l=>l
 | x::xs,l=>zol xs (ins x l)
def noK (x:Nat):List Nat->Bool
 | []=>true
 | y::l=>if x=y then false else noK x l
def dif (l:List Nat):List Nat->List Nat
 | []=>[]
 | x::xs=>if noK x l=true then x::dif l xs else dif l xs
def qoh:List C->List Nat
 | []=>[]
 | c::cs=>c.bxs++qoh cs
def qpx:List C->List Nat
 | []=>[]
 | c::cs=>c.evs++qpx cs
def St.kb0 (σ:St):List Nat->List Nat
 | []=>[]
 | i::L=>zol (qoh (σ.sl i).alls) (σ.kb0 L)
def St.kb1 (σ:St):List Nat->List Nat
 | []=>[]
 | b::B=>zol (b::qoh ((σ.bx b).getD [])) (σ.kb1 B)
def St.KB (σ:St)(L:List Nat):List Nat:=σ.kb1 (σ.kb0 L)
def St.ke0 (σ:St):List Nat->List Nat
 | []=>[]
 | i::L=>zol (qpx (σ.sl i).alls) (σ.ke0 L)
def St.ke1 (σ:St)(l:List Nat):List Nat->List Nat
 | []=>l
 | b::B=>zol (qpx ((σ.bx b).getD [])) (σ.ke1 l B)
def St.KE (σ:St)(L:List Nat):List Nat:=σ.ke1 (σ.ke0 L) (σ.KB L)
def St.lL (σ:St)(L:List Nat):List (Nat×V):=L.map fun i=>(i,σ.sl i)
def St.lB (σ:St)(B:List Nat):List (Nat×List C):=B.map fun b=>(b,(σ.bx b).getD [])
def St.lE (σ:St)(E:List Nat):List (Nat×Ev):=E.map fun e=>(e,(σ.ev e).getD ⟨false,0,[],0,false⟩)
def St.hL (σ:St)(L:List Nat):St:=hd (σ.lL L) (σ.lB (σ.KB L)) (σ.lE (σ.KE L))
def wkK (σ:St)(L:List Nat):Prop:=wkL σ (σ.hL L) (σ.lL L)/\wkB σ (σ.hL L) (σ.lB (σ.KB L))/\wkE σ (σ.lE (σ.KE L))
section
variable {ks:List Fr}{Q:Exit->St->Prop}{σ:St}{ops:Array Oper}{os:List Oper}{ty:TypeId}{ps:String}{af:Array Edge}{dst:Option Nat}{x:Operand}{asx:Array Operand}{ts:Array TypeId}{f:FuncId}
theorem zev {pre:List D}{d:D}{post:List D}{d':D}{res:List D}(L:List Nat)(h:IC P f pre d post d' res)(hw:wkK σ L)
  (hd1:((σ.lL L).all fun p=>p.2.mOk)=true) (hd2:((σ.lB (σ.KB L)).all fun p=>p.2.all C.mOk)=true) (hd3:((σ.lE (σ.KE L)).all fun p=>p.2.on&&p.2.deep)=true)
  (hp:zar (za0 ((σ.hL L).get P 0 x)) fun p=>p.1=f/\spI ((σ.hL L).gets P asx ts++p.2) pre.length fun p1 gv p2=>zwl p1 pre/\zwl p2 post/\inG (σ.hL L) gv d d') (hr:res.all D.fl=true)
  (k:exo P ops os ks Q ((σ.hL L).cI P x asx ts pre.length dst d' res)):exo P ops (⟨dst,.call ⟨.value x,asx,ts⟩,ty,ps,af,none⟩::os) ks Q σ :=
 zou h hw hd1 hd2 hd3 hp hr k
theorem ze1 {d:Nat}{ds:List (Bool×D)}{res:List D}(L A:List Nat)(pl:List (Nat×Nat×Nat))(h:GC P f ds res)
  (hw:wkL σ (hd (σ.lL A++σ.lL L) (σ.lB (dif (σ.KB L) (σ.KB A))++σ.lB (σ.KB L)) (σ.lE (dif (σ.KE L) (σ.KE A))++σ.lE (σ.KE L))) (σ.lL A++σ.lL L)/\wkB σ (hd (σ.lL A++σ.lL L) (σ.lB (dif (σ.KB L) (σ.KB A))++σ.lB (σ.KB L)) (σ.lE (dif (σ.KE L) (σ.KE A))++σ.lE (σ.KE L))) (σ.lB (dif (σ.KB L) (σ.KB A))++σ.lB (σ.KB L))/\wkE σ (σ.lE (dif (σ.KE L) (σ.KE A))++σ.lE (σ.KE L)))
  (hk:zek (σ.lL L) (σ.lL A)/\zek (σ.lB (σ.KB L)) (σ.lB (dif (σ.KB L) (σ.KB A)))/\zek (σ.lE (σ.KE L)) (σ.lE (dif (σ.KE L) (σ.KE A)))/\okL (σ.hL L) (σ.lL L)/\okB (σ.hL L) (σ.lB (σ.KB L))/\okE (σ.lE (σ.KE L)))
  (hp:zar (za0 ((hd (σ.lL A++σ.lL L) (σ.lB (dif (σ.KB L) (σ.KB A))++σ.lB (σ.KB L)) (σ.lE (dif (σ.KE L) (σ.KE A))++σ.lE (σ.KE L))).get P 0 x)) fun p=>p.1=f/\gvA (hd (σ.lL A++σ.lL L) (σ.lB (dif (σ.KB L) (σ.KB A))++σ.lB (σ.KB L)) (σ.lE (dif (σ.KE L) (σ.KE A))++σ.lE (σ.KE L))) (zwz (σ.lE (σ.KE L))) [] pl ((hd (σ.lL A++σ.lL L) (σ.lB (dif (σ.KB L) (σ.KB A))++σ.lB (σ.KB L)) (σ.lE (dif (σ.KE L) (σ.KE A))++σ.lE (σ.KE L))).gets P asx ts++p.2) ds)
  (hf:zio d 0 (zbi res) (σ.hL L).ev) (k:exo P ops os ks Q ((σ.hL L).callF d res)):exo P ops (⟨some d,.call ⟨.value x,asx,ts⟩,ty,ps,af,none⟩::os) ks Q σ :=
 callG (σ.lL A) (σ.lL L) _ _ _ _ pl h hw hk hp hf k
theorem qs7 {σ:St}{g:Gh}{w:World}{d:D}{v:Value}(h:zt2 w (zb8 σ g w) d v):VR σ g w d.toN v:=ztu (fun _ h=>h) h
theorem zbf.vrlN {σ:St}{g:Gh}{w:World}:∀{ds:List D}{us:List Value},zbf w (zb8 σ g w) ds us->VRl σ g w (ds.map D.toN) us
 | [],us,h=>h
 | d::ds,us,h=>by
  obtain⟨u,us',rfl,h1,h2⟩:=h;exact⟨u,us',rfl,qs7 h1,zbf.vrlN h2⟩
theorem zfi.rep {w:World}{A:Nat->Prop}:∀{ds:List D}{us:List Value}{fp:List Nat},zfi w ds us fp->(∀b∈fp,A b)->zbf w A ds us
 | [],us,fp,h,_=>h.1
 | .one t::ds,us,fp,h,hA=>by
  obtain⟨v,vs',f1,f2,rfl,rfl,h1,h2⟩:=h;exact⟨v,vs',rfl,za5.rep t v f1 h1 fun b hb=>hA b (by simp[hb]),zfi.rep h2 fun b hb=>hA b (by simp[hb])⟩
 | .agg ts::ds,us,fp,h,hA=>by
  obtain⟨v,vs',f1,f2,rfl,rfl,⟨y,rfl,h1⟩,h2⟩:=h;exact⟨_,vs',rfl,⟨y,rfl,h1.rep fun b hb=>hA b (by simp[hb])⟩,zfi.rep h2 fun b hb=>hA b (by simp[hb])⟩
theorem za9.lt {w:World}:∀{cs:List T}{vs:List Value}{fps:List Nat},za9 w cs vs fps->∀b∈fps,b<w.heap.size
 | [],_,_,h,b,hb=>by rw[h.2]at hb;simp at hb
 | c::cs,_,_,h,b,hb=>by
  obtain⟨v,vs',f1,f2,rfl,rfl,h1,h2⟩:=h;rcases Qm.1 hb with hb|hb
  ·exact za5.lt c v f1 h1 b hb
  ·exact za9.lt h2 b hb
theorem zfi.ltD {w:World}:∀{ds:List D}{us:List Value}{fp:List Nat},zfi w ds us fp->∀b∈fp,b<w.heap.size
 | [],us,fp,h,b,hb=>by rw[h.2]at hb;simp at hb
 | .one t::ds,us,fp,h,b,hb=>by
  obtain⟨v,vs',f1,f2,rfl,rfl,h1,h2⟩:=h;rcases Qm.1 hb with hb|hb
  ·exact za5.lt t v f1 h1 b hb
  ·exact zfi.ltD h2 b hb
 | .agg ts::ds,us,fp,h,b,hb=>by
  obtain⟨v,vs',f1,f2,rfl,rfl,⟨y,rfl,h1⟩,h2⟩:=h;rcases Qm.1 hb with hb|hb
  ·exact za9.lt h1 b hb
  ·exact zfi.ltD h2 b hb
theorem Rel.frNew {n0:Nat->Prop}{N:Nat}{σ:St}{g:Gh}{a:Act}{w w':World}(hR:Rel n0 N σ g a w)(hn:LtK n0 w){b:Nat}(h1:w.heap.size<=b)(h2:b<w'.heap.size):zb8 σ g w' b:=by
 refine⟨⟨fun k hk e=>by have:=hR.lt hk;omega,fun e x hx ho hh=>?_,h2,(hR.anew b (hn.new h1)).1⟩,fun e ⟨x,hx,ho⟩ hm=>?_⟩
 ·have:=(hR.evs e x hx ho).lt b (List.mem_of_mem_head? hh);omega
 ·have:=(hR.evs e x hx ho).lt b hm;omega
def St.callN (σ:St)(d:Option Nat)(res:List D):St:=σ.put d (znn (res.map D.toN))
theorem qhc (res:List D):∀y∈res.map D.toN,y.isTup=false:=fun y hy=>by
 obtain⟨d,_,rfl⟩:=Ka.1 hy
 cases d<;>rfl
theorem qbu {o:Oper}{x:Operand}{asx:Array Operand}{ts:Array TypeId}{f:FuncId}{cvs:List V}{ds res:List D}(ho:o.op=.call ⟨.value x,asx,ts⟩)
  (h:FC P f ds res) (hc:za0 (σ.get P 0 x)=some (f,cvs)) (hv:VDs σ (σ.gets P asx ts++cvs) ds):zah P o σ (σ.callN o.dst res):=by
 intro n0 N g a w hR hn hdN
 obtain⟨vs,h1,h2⟩:=zdb hR ho hc h.1
 unfold Oper.wp
 rw[h1]
 refine(h.use (VDs.rep hR hv h2)).mono ?_
 rintro e w' ⟨us,fp,rfl,o1,o2,o3,hb⟩
 have hR':Rel n0 N σ g a w':=hR.after hn hb (New.refl σ g (w.heap.size<=·) w' hR.slc)
 refine⟨g,?_,Bk.of_below hb hn,rfl,rfl⟩
 exact hR'.put o.dst (ze6 (zbf.vrlN (o1.rep fun b hb'=>hR.frNew hn (o3 b hb') (o1.ltD b hb'))) (qhc res)) hdN
theorem zzo {ds res:List D}(h:FC P f ds res)(hp:zar (za0 (σ.get P 0 x)) fun p=>p.1=f/\VDs σ (σ.gets P asx ts++p.2) ds)
  (k:exo P ops os ks Q (σ.callN dst res)):exo P ops (⟨dst,.call ⟨.value x,asx,ts⟩,ty,ps,af,none⟩::os) ks Q σ:=by
 obtain⟨⟨f',cvs⟩,h1,rfl,h2⟩:=zai hp
 exact zc6 rfl rfl (qbu rfl h h1 h2) k
theorem qru {g:Gh}{w:World}{c:C}{t:T}{v:Value}(h:rdC c t)(hv:CR σ g w c v):zas w (zb8 σ g w) t v:=by
 unfold rdC at h
 split at h
 ·rename_i x;obtain⟨rfl,hn⟩:=h;exact zm6 (σ:=σ) (g:=g) (x:=.one (.t x)) (d:=.one x) ⟨rfl,hn⟩ hv _
 ·rename_i f f';subst h;exact zm6 (σ:=σ) (g:=g) (x:=.one (.fn f [])) (d:=.one (.fn f [])) rfl hv _
 ·subst h;exact hv
 ·obtain⟨rfl,rfl⟩:=h;obtain⟨b,q,h1,h2,h3⟩:=hv;unfold zas;exact⟨b,q,h1,h2,h3⟩
 ·subst h;rw[show v=.slice none 0 0 from hv];unfold zas;exact⟨none,0,rfl,by simp,by simp,Or.inl rfl⟩
 ·exact h.elim
theorem qfu {g:Gh}{w:World}:∀{cs:List C}{ts:List T}{vs:List Value},rdCs cs ts->CRs σ g w cs vs->zaf w (zb8 σ g w) ts vs
 | [],[],vs,_,hv=>by unfold zaf;exact hv
 | [],_::_,_,h,_=>h.elim
 | _::_,[],_,h,_=>h.elim
 | c::cs,t::ts,vs,h,hv=>by
  obtain⟨v,vs',rfl,h1,h2⟩:=hv;unfold zaf;exact⟨v,vs',rfl,qru h.1 h1,qfu h.2 h2⟩
theorem qg4 {g:Gh}{w:World}{x:V}{d:D}{v:Value}(h:rdV x d)(hv:VR σ g w x v):zt2 w (zb8 σ g w) d v:=by
 unfold rdV at h
 split at h
 ·exact qru h hv
 ·obtain⟨b,e,hv⟩:=hv;exact⟨b,e,qfu h hv⟩
 ·exact h.elim
def qsk:List V->List D->Prop
 | [],ds=>ds=[]
 | v::vs,ds=>∃d ds',ds=d::ds'/\rdV v d/\qsk vs ds'
theorem qdt (v:V)(vs:List V)(d:D)(ds:List D):qsk (v::vs) (d::ds)=(rdV v d/\qsk vs ds):=by
 refine propext ⟨fun⟨_,_,e,h⟩=>?_,fun h=>⟨d,ds,rfl,h⟩⟩
 cases e;exact h
theorem qpr:qsk [] []=True:=by simp[qsk]
theorem qin {g:Gh}{w:World}:∀{xs:List V}{ds:List D},qsk xs ds->∀{vs:List Value},VRl σ g w xs vs->zbf w (zb8 σ g w) ds vs
 | [],ds,h,vs,hv=>by rw[show ds=[] from h];exact hv
 | x::xs,ds,h,vs,hv=>by
  obtain⟨d,ds',rfl,h1,h2⟩:=h;obtain⟨v,vs',rfl,k1,k2⟩:=hv;exact⟨v,vs',rfl,qg4 h1 k1,qin h2 k2⟩
theorem qac {o:Oper}{x:Operand}{asx:Array Operand}{ts:Array TypeId}{f:FuncId}{cvs:List V}{ds res:List D}(ho:o.op=.call ⟨.value x,asx,ts⟩)
  (h:RC P f ds res) (hc:za0 (σ.get P 0 x)=some (f,cvs)) (hv:qsk (σ.gets P asx ts++cvs) ds):zah P o σ (σ.callN o.dst res):=by
 intro n0 N g a w hR hn hdN
 obtain⟨vs,h1,h2⟩:=zdb hR ho hc h.1
 unfold Oper.wp
 rw[h1]
 have hargs:=(qin hv h2).keep (A':=fun b=>b<w.heap.size/\zb8 σ g w b) (fun _ _=>rfl) fun b hb=>⟨hb.1.2.2.1,hb⟩
 refine(h.2 w vs (zb8 σ g w) hargs).mono ?_
 rintro e w' ⟨us,rfl,o1,hb⟩
 have hR':Rel n0 N σ g a w':=hR.after hn hb (New.refl σ g (w.heap.size<=·) w' hR.slc)
 refine⟨g,?_,Bk.of_below hb hn,rfl,rfl⟩
 refine hR'.put o.dst (ze6 (zbf.vrlN (o1.keep (fun _ _=>rfl) fun b hb'=>?_)) (qhc res)) hdN
 rcases hb'.2 with hf|hf
 ·exact⟨⟨hf.1.1,hf.1.2.1,hb'.1,hf.1.2.2.2⟩,hf.2⟩
 ·exact hR.frNew hn hf hb'.1
theorem zot {ds res:List D}(h:RC P f ds res)(hp:zar (za0 (σ.get P 0 x)) fun p=>p.1=f/\qsk (σ.gets P asx ts++p.2) ds)
  (k:exo P ops os ks Q (σ.callN dst res)):exo P ops (⟨dst,.call ⟨.value x,asx,ts⟩,ty,ps,af,none⟩::os) ks Q σ:=by
 obtain⟨⟨f',cvs⟩,h1,rfl,h2⟩:=zai hp
 exact zc6 rfl rfl (qac rfl h h1 h2) k
end
def gVN (k:Nat):Bool×D->V
 | (false,d)=>d.toN
 | (true,d)=>gV k (true,d)
def zik:Nat->List (Bool×D)->Nat->V
 | _,[]=>fun _=>.one .any
 | k,d::ds=>upd (zik (k+1) ds) k (gVN k d)
def zc4 (args:List (Bool×D)):St:=⟨zik 0 args,fun _=>none,zh2 0 args⟩
theorem zna:∀(ds:List (Bool×D))(k i:Nat),zik k ds (k+i)=match ds[i]? with|some d=>gVN (k+i) d|none=>.one .any
 | [],k,i=>by simp[zik]
 | d::ds,k,0=>by simp[zik,upd]
 | d::ds,k,i+1=>by
  unfold zik;rw[zak _ _ Yp,show k+(i+1)=k+1+i by omega,zna ds (k+1) i];simp
theorem za3.atR {w:World}{A:Nat->Prop}:∀{ds:List (Bool×D)}{vs:List Value}{fp tp:List Nat},za3 w A ds vs fp tp->∀(i:Nat) d,ds[i]?=some (false,d)->∃v,vs[i]?=some v/\zt2 w A d v
 | [],_,_,_,_,i,d,h=>by simp at h
 | (false,e)::ds,_,_,_,h,0,d,hi=>by
  obtain⟨v,vs',rfl,h1,_⟩:=h;simp only[List.getElem?_cons_zero,Qc,Qn,true_and]at hi;subst hi;exact⟨v,rfl,h1⟩
 | (true,e)::ds,_,_,_,h,0,d,hi=>by simp at hi
 | (false,e)::ds,_,_,_,h,i+1,d,hi=>by
  obtain⟨v,vs',rfl,_,h2⟩:=h;simpa using za3.atR h2 i d (by simpa using hi)
 | (true,e)::ds,_,_,_,h,i+1,d,hi=>by
  obtain⟨v,vs',f1,f2,t1,t2,rfl,rfl,rfl,_,h2⟩:=h;simpa using za3.atR h2 i d (by simpa using hi)
theorem Rel.frOld {n0:Nat->Prop}{N:Nat}{σ:St}{g:Gh}{a:Act}{w:World}(h:Rel n0 N σ g a w){b:Nat}(h1:n0 b)(h2:b<w.heap.size)(h3:g.A0 b):zb8 σ g w b :=
 ⟨⟨fun k hk e=>h.base k hk (e▸h1),fun e x hx ho hh=>h.etop e ⟨x,hx,ho⟩ b (List.mem_of_mem_head? hh) h1,h2,h3⟩,fun e ho hm=>h.etop e ho b hm h1⟩
theorem qat {args:List (Bool×D)}{w:World}{vs:List Value}{fp tp:List Nat}{N:Nat}{g:Gh}{a:Act}(hv:za3 w (fun b=>b<w.heap.size/\b∉fp) args vs fp tp)(hR:Rel (fun b=>b<w.heap.size/\b∉fp) N (zec args) g a w)
  (ht:a.tmps=(⟨vs⟩:Array Value)++Array.replicate (N-vs.length) undef) (hA:∀b,g.A0 b):Rel (fun b=>b<w.heap.size/\b∉fp) N (zc4 args) g a w:=by
 have hm:Mv (zec args) (zc4 args) g g w w:=Mv.of_eq g w rfl rfl
 refine hR.slots_of (σ':=zc4 args) rfl rfl hR.defers hR.size fun i=>?_
 refine(Mv.of_eq (σ:=zc4 args) (σ':=zec args) g w rfl rfl).vr (σ:=zc4 args) ?_
 have hi:=zna args 0 i
 rw[Q5]at hi
 show VR _ _ _ (zik 0 args i) _
 rw[hi]
 cases hd:args[i]? with
 | none=>trivial
 | some p =>
  obtain⟨b,d⟩:=p;cases b with
  | true =>
   have h0:=hm.vr (hR.slots i);have hj:=zir args 0 i;rw[Q5,hd]at hj;have h0':VR (zc4 args) g w (zh3 0 args i) (a.tmps.getD i (g.R0.ξ i)):=h0;rw[hj]at h0';exact h0'
  | false =>
   obtain⟨v,hv1,hv2⟩:=za3.atR hv i d hd;have hlt:i<vs.length:=(List.getElem?_eq_some_iff.1 hv1).1;have e:a.tmps.getD i (g.R0.ξ i)=v:=by
    rw[ht,Array.getD_eq_getD_getElem?,Array.getElem?_append_left (by simpa using hlt)];simp[hv1]
   rw[e];exact hm.vr (ztu (fun b hb=>hR.frOld hb hb.1 (hA b)) hv2)
theorem zyf {f:FuncId}{fn:Func}{c:Code}{args:List (Bool×D)}{res:List D}(hc:zbb P f)(hf:P.funcs[f]?=some fn)(hb:fn.body=some c)(hd:zc2 fn.ntmps c=true)(hN:args.length<=fn.ntmps)(hs:zcg args)
  (h:ex P c [] (PS P fn.results.toList res) (zc4 args)):GC P f args res :=
 qr5 hc hf hb hd hN hs fun w vs fp tp hv g a hR hg=>⟨_,h,qat hv hR hg.1 fun b=>by rw[(K1 hg.2).1];trivial⟩
def renL (a b:Nat)(l:List (Nat×V)):List (Nat×V):=l.map fun p=>(p.1,p.2.ren a b)
def renB (a b:Nat)(l:List (Nat×List C)):List (Nat×List C):=l.map fun p=>(p.1,p.2.map (C.ren a b))
def renE (a b:Nat)(l:List (Nat×Ev)):List (Nat×Ev):=l.map fun p=>(swp a b p.1,p.2)
theorem zxt (a b:Nat)(c:C):(c.ren a b).ren a b=c:=by cases c<;>simp[C.ren,zej]
theorem zpl (a b:Nat)(cs:List C):(cs.map (C.ren a b)).map (C.ren a b)=cs:=by
 rw[K2];exact(K0 fun c _=>zxt a b c).trans (List.map_id cs)
theorem ql3 (a b:Nat)(v:V):(v.ren a b).ren a b=v:=by
 cases v with
 | one c=>simp[V.ren,zxt]
 | agg cs=>simp only[V.ren,zpl]
 | tup xs =>
  simp only[V.ren,K2]
  congr 1
  exact(K0 fun x _=>by simp only[Function.comp,zpl];rfl).trans (List.map_id xs)
theorem zep (a b:Nat){σ:St}{l:List (Nat×V)}{bl:List (Nat×List C)}{el:List (Nat×Ev)}(h:wkL σ (hd (renL a b l) (renB a b bl) (renE a b el)) (renL a b l)/\wkB σ (hd (renL a b l) (renB a b bl) (renE a b el)) (renB a b bl)/\wkE σ (renE a b el)):Wk σ (hd l bl el):=by
 have h1:=(zac h).trans (wk_ren a b _ _ _)
 have e1:(renL a b l).map (fun p=>(p.1,p.2.ren a b))=l:=by
  unfold renL;rw[K2];exact(K0 fun p _=>by simp only[Function.comp,ql3];rfl).trans (List.map_id l)
 have e2:(renB a b bl).map (fun p=>(p.1,p.2.map (C.ren a b)))=bl:=by
  unfold renB;rw[K2];exact(K0 fun p _=>by simp only[Function.comp,zpl];rfl).trans (List.map_id bl)
 have e3:(renE a b el).map (fun p=>(swp a b p.1,p.2))=el:=by
  unfold renE;rw[K2];exact(K0 fun p _=>by simp only[Function.comp,zej];rfl).trans (List.map_id el)
 rw[e1,e2,e3]at h1
 exact h1
attribute [go_sem] C.evs C.bxs V.alls ins zol noK dif qoh qpx St.kb0 St.kb1 St.KB St.ke0 St.ke1 St.KE St.lL St.lB St.lE St.hL wkK St.callN qpr qdt gVN zik zc4 renL renB renE C.ren V.ren swp
end
section
open Go.RowKit
variable {P:Program}
theorem za3.append {w:World}{A:Nat->Prop}:∀{d1 d2:List (Bool×D)}{v1 v2:List Value}{f1 f2 t1 t2:List Nat},za3 w A d1 v1 f1 t1->za3 w A d2 v2 f2 t2->za3 w A (d1++d2) (v1++v2) (f1++f2) (t1++t2)
 | [],_,_,_,_,_,_,_,h,k=>by obtain⟨rfl,rfl,rfl⟩:=h;exact k
 | (true,d)::ds,_,_,_,_,_,_,_,h,k=>by
  obtain⟨v,vs',g1,g2,s1,s2,rfl,rfl,rfl,h1,h2⟩:=h;exact⟨v,_,g1,_,s1,_,rfl,by rw[Kf],by rw[Kf],h1,za3.append h2 k⟩
 | (false,d)::ds,_,_,_,_,_,_,_,h,k=>by
  obtain⟨v,vs',rfl,h1,h2⟩:=h;exact⟨v,_,rfl,h1,za3.append h2 k⟩
theorem za3.len {w:World}{A:Nat->Prop}:∀{ds:List (Bool×D)}{vs:List Value}{fp tp:List Nat},za3 w A ds vs fp tp->vs.length=ds.length
 | [],_,_,_,h=>by rw[h.1];rfl
 | (true,d)::ds,_,_,_,h=>by obtain⟨v,vs',_,_,_,_,rfl,rfl,rfl,_,h2⟩:=h;simp[za3.len h2]
 | (false,d)::ds,_,_,_,h=>by obtain⟨v,vs',rfl,_,h2⟩:=h;simp[za3.len h2]
theorem za3.split {w:World}{A:Nat->Prop}:∀{d1 d2:List (Bool×D)}{vs:List Value}{fp tp:List Nat},za3 w A (d1++d2) vs fp tp->∃v1 v2 f1 f2 t1 t2,vs=v1++v2/\fp=f1++f2/\tp=t1++t2/\za3 w A d1 v1 f1 t1/\za3 w A d2 v2 f2 t2
 | [],d2,vs,fp,tp,h=>⟨[],vs,[],fp,[],tp,rfl,rfl,rfl,⟨rfl,rfl,rfl⟩,h⟩
 | (true,d)::ds,d2,_,_,_,h=>by
  obtain⟨v,vs',g1,g2,s1,s2,rfl,rfl,rfl,h1,h2⟩:=h;obtain⟨v1,v2,f1,f2,t1,t2,rfl,rfl,rfl,k1,k2⟩:=za3.split h2;exact⟨v::v1,v2,g1++f1,f2,s1++t1,t2,rfl,by rw[Kf],by rw[Kf],⟨v,v1,g1,f1,s1,t1,rfl,rfl,rfl,h1,k1⟩,k2⟩
 | (false,d)::ds,d2,_,_,_,h=>by
  obtain⟨v,vs',rfl,h1,h2⟩:=h;obtain⟨v1,v2,f1,f2,t1,t2,rfl,rfl,rfl,k1,k2⟩:=za3.split h2;exact⟨v::v1,v2,f1,f2,t1,t2,rfl,rfl,rfl,⟨v,v1,rfl,h1,k1⟩,k2⟩
def zcj:List (Bool×D)->List (Bool×T)
 | []=>[]
 | (b,.one t)::ds=>(b,t)::zcj ds
 | (b,.agg ts)::ds=>ts.map (fun t=>(b,t))++zcj ds
def bxA (box:List (Bool×T)):List (Bool×D):=box.map fun p=>(p.1,.one p.2)
theorem qcr.ones {w:World}{A:Nat->Prop}:∀{ts:List T}{vs:List Value}{fp tp:List Nat},qcr w ts vs fp tp->za3 w A (bxA (ts.map fun t=>(true,t))) vs fp tp
 | [],_,_,_,h=>h
 | t::ts,_,_,_,h=>by
  obtain⟨v,vs',f1,f2,t2,rfl,rfl,rfl,h1,h2⟩:=h;exact⟨v,vs',f1,f2,_,t2,rfl,rfl,rfl,⟨h1,rfl⟩,qcr.ones h2⟩
theorem zaf.ones {w:World}{A:Nat->Prop}:∀{ts:List T}{vs:List Value},zaf w A ts vs->za3 w A (bxA (ts.map fun t=>(false,t))) vs [] []
 | [],_,h=>by unfold zaf at h;exact⟨h,rfl,rfl⟩
 | t::ts,_,h=>by
  unfold zaf at h;obtain⟨v,vs',rfl,h1,h2⟩:=h;exact⟨v,vs',rfl,h1,zaf.ones h2⟩
theorem zj6 (a b:List (Bool×T)):bxA (a++b)=bxA a++bxA b:=Q2
theorem zas.cells1 {w:World}{A:Nat->Prop}{t:T}{v:Value}(h:zas w A t v):v.cells=#[v]:=(zas.one h).2
theorem za3.flat {w:World}{A:Nat->Prop}:∀{ds:List (Bool×D)}{vs:List Value}{fp tp:List Nat},za3 w A ds vs fp tp->∃tp',za3 w A (bxA (zcj ds)) (vs.flatMap fun u=>u.cells.toList) fp tp'
 | [],_,_,_,h=>by obtain⟨rfl,rfl,rfl⟩:=h;exact⟨[],rfl,rfl,rfl⟩
 | (true,.one t)::ds,_,_,_,h=>by
  obtain⟨v,vs',f1,f2,t1,t2,rfl,rfl,rfl,h1,h2⟩:=h;obtain⟨tp',h2⟩:=za3.flat h2;have e:(v::vs').flatMap (fun u=>u.cells.toList)=v::vs'.flatMap fun u=>u.cells.toList:=by
   have h1':za5 w t v f1:=h1.1;simp[h1'.one]
  exact⟨t1++tp',v,_,f1,f2,t1,tp',e,rfl,rfl,h1,h2⟩
 | (false,.one t)::ds,_,_,_,h=>by
  obtain⟨v,vs',rfl,h1,h2⟩:=h;obtain⟨tp',h2⟩:=za3.flat h2;have e:(v::vs').flatMap (fun u=>u.cells.toList)=v::vs'.flatMap fun u=>u.cells.toList:=by
   have h1':zas w A t v:=h1;simp[h1'.cells1]
  exact⟨tp',v,_,e,h1,h2⟩
 | (true,.agg ts)::ds,_,_,_,h=>by
  obtain⟨v,vs',f1,f2,t1,t2,rfl,rfl,rfl,⟨a,rfl,h1⟩,h2⟩:=h;obtain⟨tp',h2⟩:=za3.flat h2;refine⟨t1++tp',?_⟩;show za3 w A (bxA (ts.map (fun t=>(true,t))++zcj ds)) (a++vs'.flatMap fun u=>u.cells.toList) _ _
  rw[zj6];exact za3.append h1.ones h2
 | (false,.agg ts)::ds,_,_,_,h=>by
  obtain⟨v,vs',rfl,⟨a,rfl,h1⟩,h2⟩:=h;obtain⟨tp',h2⟩:=za3.flat h2;refine⟨[]++tp',?_⟩;show za3 w A (bxA (ts.map (fun t=>(false,t))++zcj ds)) (a++vs'.flatMap fun u=>u.cells.toList) _ _
  rw[zj6];exact za3.append h1.ones h2
def mC1 (d j:Nat):Bool×T->C
 | (true,t)=>owC d j t
 | (false,t)=>t.toN
def mC (d:Nat):Nat->List (Bool×T)->List C
 | _,[]=>[]
 | j,p::ts=>mC1 d j p::mC d (j+1) ts
def mE (d:Nat):Nat->List (Bool×T)->(Nat->Option Ev)->(Nat->Option Ev)
 | _,[],f=>f
 | j,(true,t)::ts,f=>mE d (j+1) ts (zvo d j f t)
 | j,(false,_)::ts,f=>mE d (j+1) ts f
def mF (d:Nat):Nat->List (Bool×T)->(Nat->Option Ev)->Prop
 | _,[],_=>True
 | j,(true,t)::ts,f=>qol d j f t/\mF d (j+1) ts (zvo d j f t)
 | j,(false,_)::ts,f=>mF d (j+1) ts f
def mD (d:Nat):Nat->List (Bool×D)->List V
 | _,[]=>[]
 | j,(b,.one t)::ds=>.one (mC1 d j (b,t))::mD d (j+1) ds
 | j,(b,.agg ts)::ds=>.agg (mC d j (ts.map fun t=>(b,t)))::mD d (j+ts.length) ds
theorem ztf (d:Nat):∀(ts:List (Bool×T))(j:Nat),(mC d j ts).length=ts.length
 | [],_=>rfl
 | t::ts,j=>by simp[mC,ztf d ts]
theorem zgq (d:Nat):∀(t1 t2:List (Bool×T))(j:Nat),mC d j (t1++t2)=mC d j t1++mC d (j+t1.length) t2
 | [],_,_=>by simp[mC]
 | t::ts,t2,j=>by simp only[Jb,mC,zgq d ts t2 (j+1),Qi];rw[show j+1+ts.length=j+(ts.length+1) by omega]
theorem zxq (d:Nat):∀(ds:List (Bool×D))(j:Nat),∀x∈mD d j ds,x.isTup=false
 | [],_,x,hx=>by simp[mD]at hx
 | (_,.one t)::ds,j,x,hx=>by
  simp only[mD,Qp]at hx;rcases hx with rfl|hx
  ·rfl
  ·exact zxq d ds _ x hx
 | (_,.agg ts)::ds,j,x,hx=>by
  simp only[mD,Qp]at hx;rcases hx with rfl|hx
  ·rfl
  ·exact zxq d ds _ x hx
theorem New.mix {τ:St}{g:Gh}{NB:Nat->Prop}{w':World}{A:Nat->Prop}(d:Nat):∀(ts:List (Bool×T))(vs:List Value)(fp tp:List Nat)(j:Nat)(ev':Nat->Option Ev)(g':Gh)(F:List Nat),New τ g NB w' ev' g' F->mF d j ts ev'->za3 w' A (bxA ts) vs fp tp->fp.Nodup->(∀b∈fp,NB b/\b∉F) →
  ∃g'',New τ g NB w' (mE d j ts ev') g'' (F++fp)/\(∀e,ev' e≠none->mE d j ts ev' e=ev' e/\g''.ψ e=g'.ψ e)/\∀(σ':St) (w'':World),σ'.ev=mE d j ts ev'->(∀t v,zas w' A t v->zas w'' (zb8 σ' g'' w'') t v)->CRs σ' g'' w'' (mC d j ts) vs
 | [],vs,fp,tp,j,ev',g',F,hN,hf,ho,hd,hb=>by
  obtain⟨rfl,rfl,rfl⟩:=ho;exact⟨g',by simpa[mE]using hN,fun e _=>⟨rfl,rfl⟩,fun _ _ _ _=>rfl⟩
 | (false,t)::ts,vs,fp,tp,j,ev',g',F,hN,hf,ho,hd,hb=>by
  obtain⟨v,vs',rfl,h1,h2⟩:=ho;obtain⟨g'',k1,k2,k3⟩:=New.mix d ts vs' fp tp (j+1) ev' g' F hN hf h2 hd hb;exact⟨g'',k1,k2,fun σ' w'' hσ hr=>⟨v,vs',rfl,qkd (hr t v h1),k3 σ' w'' hσ hr⟩⟩
 | (true,t)::ts,vs,fp,tp,j,ev',g',F,hN,hf,ho,hd,hb=>by
  obtain⟨v,vs',f1,f2,t1,t2,rfl,rfl,rfl,⟨h1,_⟩,h2⟩:=ho;obtain⟨hf1,hf2⟩:=hf;obtain⟨hd1,hd2,hd3⟩:=Q8.1 hd;have h1:za5 w' t v f1:=h1;by_cases hfl:t.flat=true
  ·have hz:f1=[]/\owC d j t=.t t/\zvo d j ev' t=ev'/\∀(σ':St) (g'':Gh) (w'':World),CR σ' g'' w'' (.t t) v:=by
    cases t<;>simp only[T.flat,Ql]at hfl
    ·unfold za5 at h1;exact⟨h1.2.2.2,rfl,rfl,fun _ _ _=>by simp only[CR,zas];exact⟨h1.1,h1.2.1,h1.2.2.1⟩⟩
    ·unfold za5 at h1;exact⟨h1.2,rfl,rfl,fun _ _ _=>by simp only[CR,zas];exact h1.1⟩
    ·unfold za5 at h1;exact⟨h1.2.2,rfl,rfl,fun _ _ _=>by simp only[CR,zas];exact⟨h1.1,h1.2.1⟩⟩
    ·unfold za5 at h1;exact⟨h1.2,rfl,rfl,fun _ _ _=>by simp only[CR,zas];exact h1.1⟩
   obtain⟨rfl,c2,c3,c4⟩:=hz;rw[c3]at hf2;obtain⟨g'',k1,k2,k3⟩:=New.mix d ts vs' f2 t2 (j+1) ev' g' F hN hf2 h2 hd2 (fun b hb'=>hb b (by simp[hb']));refine⟨g'',by simpa[mE,c3]using k1,fun e he=>by simpa[mE,c3]using k2 e he,fun σ' w'' hσ hr=>⟨v,vs',rfl,?_,k3 σ' w'' (by simpa[mE,c3]using hσ) hr⟩⟩;show CR σ' g'' w'' (owC d j t) v
   rw[c2];exact c4 _ _ _
  ·cases t<;>simp only[T.flat,Ql,Q6,not_true]at hfl
   ·rename_i sz rows;have hi':ev' (d*32+j)=none:=hf1;have hi:τ.ev (d*32+j)=none:=by
     cases hx:τ.ev (d*32+j)with
     | none=>rfl
     | some x=>have:=(hN.old (d*32+j) (by rw[hx];simp)).1;rw[hi',hx]at this;cases this
    have hadd:=hN.add hi hi' h1 (fun b hb'=>(hb b (by simp[hb'])).1) hd1 (fun b hb'=>(hb b (by simp[hb'])).2)
    obtain⟨g'',k1,k2,k3⟩:=New.mix d ts vs' f2 t2 (j+1) _ _ _ hadd hf2 h2 hd2 (fun b hb'=>⟨(hb b (by simp[hb'])).1,by
      have:=(hb b (by simp[hb'])).2;simp only[Qm,not_or]
      exact⟨this,fun hf=>hd3 b hf b hb' rfl⟩⟩)
    refine⟨g'',by simpa[mE,zvo]using k1,fun e he=>?_,fun σ' w'' hσ hr=>⟨v,vs',rfl,?_,k3 σ' w'' hσ hr⟩⟩
    ·have hne:e≠d*32+j:=fun h=>he (h▸hi');have:=k2 e (by rw[zak _ _ hne];exact he);simp only[zak _ _ hne]at this;exact this
    ·have:=k2 (d*32+j) (by rw[zae];simp);simp only[zae]at this;exact⟨by rw[this.2],_,by rw[hσ];exact this.1,Kd _⟩
   ·unfold za5 at h1;exact h1.elim
   ·unfold za5 at h1;exact h1.elim
   ·unfold za5 at h1;exact h1.elim
   ·exact(show False from hf1).elim
   ·unfold za5 at h1;exact h1.elim
   ·unfold za5 at h1;exact h1.elim
theorem qax {σ:St}{g:Gh}{w w1:World}{A:Nat->Prop}(d:Nat):∀{ds:List (Bool×D)}{us:List Value}{fp tp:List Nat}(j:Nat),za3 w1 A ds us fp tp->CRs σ g w (mC d j (zcj ds)) (us.flatMap fun u=>u.cells.toList)->VRl σ g w (mD d j ds) us
 | [],us,fp,tp,j,h,_=>h.1
 | (true,.one t)::ds,us,fp,tp,j,h,k=>by
  obtain⟨v,vs',f1,f2,t1,t2,rfl,rfl,rfl,h1,h2⟩:=h;have hv:za5 w1 t v f1:=h1.1;simp only[Jk,hv.one,zcj,mC]at k;obtain⟨u,us',e,k1,k2⟩:=k;simp only[Jb,Kx,List.cons.injEq]at e;obtain⟨rfl,rfl⟩:=e;exact⟨v,vs',rfl,k1,qax d (j+1) h2 k2⟩
 | (false,.one t)::ds,us,fp,tp,j,h,k=>by
  obtain⟨v,vs',rfl,h1,h2⟩:=h;have hv:zas w1 A t v:=h1;simp only[Jk,hv.cells1,zcj,mC]at k;obtain⟨u,us',e,k1,k2⟩:=k;simp only[Jb,Kx,List.cons.injEq]at e;obtain⟨rfl,rfl⟩:=e;exact⟨v,vs',rfl,k1,qax d (j+1) h2 k2⟩
 | (true,.agg ts)::ds,us,fp,tp,j,h,k=>by
  obtain⟨v,vs',f1,f2,t1,t2,rfl,rfl,rfl,⟨x,rfl,h1⟩,h2⟩:=h;simp only[Jk,Value.cells,zcj,zgq]at k;obtain⟨v1,v2,e,k1,k2⟩:=k.split;have hl:x.length=v1.length:=by rw[k1.len,ztf,Qa];exact za9.len (za9.of_g h1)
  obtain⟨e1,e2⟩:=Yi e hl;subst e1 e2;rw[Qa]at k2;exact⟨_,vs',rfl,⟨x,rfl,k1⟩,qax d (j+ts.length) h2 k2⟩
 | (false,.agg ts)::ds,us,fp,tp,j,h,k=>by
  obtain⟨v,vs',rfl,⟨x,rfl,h1⟩,h2⟩:=h;simp only[Jk,Value.cells,zcj,zgq]at k;obtain⟨v1,v2,e,k1,k2⟩:=k.split;have hl:x.length=v1.length:=by rw[k1.len,ztf,Qa];exact h1.len
  obtain⟨e1,e2⟩:=Yi e hl;subst e1 e2;rw[Qa]at k2;exact⟨_,vs',rfl,⟨x,rfl,k1⟩,qax d (j+ts.length) h2 k2⟩
theorem zgc {σ:St}{g:Gh}{w:World}{n0:Nat->Prop}{N:Nat}{a:Act}(hR:Rel n0 N σ g a w){B:Sr->List Nat}(hB:Fam w σ g B){K:List Sr->Prop}:∀{xs:List V}{ds:List (Bool×D)}{u:List Sr}{ps:List (Nat×Nat×Nat)}{vs:List Value},gvA σ K u ps xs ds->VRl σ g w xs vs →
  ∃s,K (s.reverse++u)/\(∃tp,za3 w (zb8 σ g w) ds vs (bks B s) tp)/\(∀x∈s,σ.On x.1)/\(u.Pairwise okP->(s.reverse++u).Pairwise okP)
 | [],[],u,ps,vs,h,hv=>⟨[],h,⟨[],hv,rfl,rfl⟩,by simp,fun h=>h⟩
 | [],_::_,_,_,_,h,_=>h.elim
 | x::xs,[],_,_,_,h,_=>by cases x<;>exact h.elim
 | x::xs,(false,d)::ds,u,ps,vs,h,hv=>by
  obtain⟨v,vs',rfl,h1,h2⟩:=hv;unfold gvA at h;obtain⟨hr,h⟩:=h;obtain⟨s,k1,⟨tp,k2⟩,k3,k4⟩:=zgc hR hB h h2;exact⟨s,k1,⟨tp,v,vs',rfl,qg4 hr h1,k2⟩,k3,k4⟩
 | .one c::xs,(true,.one t)::ds,u,ps,vs,h,hv=>by
  obtain⟨v,vs',rfl,h1,h2⟩:=hv;unfold gvA at h;obtain⟨s,ps',tp,k1,k2,k3,k4⟩:=zds hR hB h (vs:=[v]) ⟨v,[],rfl,h1,rfl⟩;obtain⟨s',j1,⟨tp',j2⟩,j3,j4⟩:=zgc hR hB k1 h2;obtain⟨v0,vs0,f1,f2,t2,e0,e1,rfl,q1,q2⟩:=k2;cases e0;obtain⟨_,rfl,rfl⟩:=q2;rw[Kh]at e1;refine⟨s++s',by simpa using j1,⟨zll t f1++tp',v,vs',bks B s,bks B s',_,tp',rfl,by unfold bks;rw[List.flatMap_append],rfl,⟨by rw[e1];exact q1,by rw[e1]⟩,j2⟩,fun x hx=>?_,fun hu=>by simpa using j4 (k4 hu)⟩;rcases Qm.1 hx with hx|hx
  ·exact k3 x hx
  ·exact j3 x hx
 | .agg cs::xs,(true,.agg ts)::ds,u,ps,vs,h,hv=>by
  obtain⟨v,vs',rfl,⟨y,rfl,h1⟩,h2⟩:=hv;unfold gvA at h;obtain⟨s,ps',tp,k1,k2,k3,k4⟩:=zds hR hB h h1;obtain⟨s',j1,⟨tp',j2⟩,j3,j4⟩:=zgc hR hB k1 h2;refine⟨s++s',by simpa using j1,⟨tp++tp',_,vs',bks B s,bks B s',tp,tp',rfl,by unfold bks;rw[List.flatMap_append],rfl,⟨y,rfl,k2⟩,j2⟩,fun x hx=>?_,fun hu=>by simpa using j4 (k4 hu)⟩;rcases Qm.1 hx with hx|hx
  ·exact k3 x hx
  ·exact j3 x hx
 | .one _::_,(true,.agg _)::_,_,_,_,h,_=>h.elim
 | .agg _::_,(true,.one _)::_,_,_,_,h,_=>h.elim
 | .tup _::_,(true,d)::_,_,_,_,h,_=>by cases d<;>exact h.elim
def XC (P:Program)(f:FuncId)(args res:List (Bool×D)):Prop:=zbb P f/\∀(w:World)(vs:List Value)(fp tp:List Nat)(A:Nat->Prop),za3 w (fun k=>(k<w.heap.size/\k∉fp)/\A k) args vs fp tp->fp.Nodup →
 Calls P f ⟨vs⟩ w fun e w'=>∃us fp' tp',e=.returned (zci us)/\za3 w' (fun k=>(k<w'.heap.size/\k∉fp')/\(A k\/w.heap.size<=k\/k∈fp)) res us fp' tp'/\fp'.Nodup/\(∀b∈fp',b∈fp\/w.heap.size<=b)/\Bk (fun k=>k<w.heap.size/\k∉fp) w w'
def PM0 (P:Program)(rs:List ResultVar)(res:List (Bool×D))(pl:List (Nat×Nat×Nat))(σ:St):Prop:=zar (zbu P σ rs) fun vs=>gvA σ (fun _=>True) [] pl vs res
def PM (P:Program)(rs:List ResultVar)(res:List (Bool×D))(e:Exit)(σ:St):Prop:=match e with
 | .normal=>PM0 P rs res [] σ\/∃pl,PM0 P rs res pl σ
 | .ret=>PM0 P rs res [] σ\/∃pl,PM0 P rs res pl σ
 | _=>False
theorem zh6 {args:List (Bool×D)}{w:World}{vs:List Value}{fp tp:List Nat}{N:Nat}{g:Gh}{a:Act}{B:Nat->Prop}(hv:za3 w B args vs fp tp)(hR:Rel (fun b=>b<w.heap.size/\b∉fp) N (zec args) g a w)
  (ht:a.tmps=(⟨vs⟩:Array Value)++Array.replicate (N-vs.length) undef) (hB:∀b,B b->(b<w.heap.size/\b∉fp)/\g.A0 b):Rel (fun b=>b<w.heap.size/\b∉fp) N (zc4 args) g a w:=by
 have hm:Mv (zec args) (zc4 args) g g w w:=Mv.of_eq g w rfl rfl
 refine hR.slots_of (σ':=zc4 args) rfl rfl hR.defers hR.size fun i=>?_
 refine(Mv.of_eq (σ:=zc4 args) (σ':=zec args) g w rfl rfl).vr (σ:=zc4 args) ?_
 have hi:=zna args 0 i
 rw[Q5]at hi
 show VR _ _ _ (zik 0 args i) _
 rw[hi]
 cases hd:args[i]? with
 | none=>trivial
 | some p =>
  obtain⟨b,d⟩:=p;cases b with
  | true =>
   have h0:=hm.vr (hR.slots i);have hj:=zir args 0 i;rw[Q5,hd]at hj;have h0':VR (zc4 args) g w (zh3 0 args i) (a.tmps.getD i (g.R0.ξ i)):=h0;rw[hj]at h0';exact h0'
  | false =>
   obtain⟨v,hv1,hv2⟩:=za3.atR hv i d hd;have hlt:i<vs.length:=(List.getElem?_eq_some_iff.1 hv1).1;have e:a.tmps.getD i (g.R0.ξ i)=v:=by
    rw[ht,Array.getD_eq_getD_getElem?,Array.getElem?_append_left (by simpa using hlt)];simp[hv1]
   rw[e];exact hm.vr (ztu (fun b hb=>hR.frOld (hB b hb).1 (hB b hb).1.1 (hB b hb).2) hv2)
theorem XC_of {f:FuncId}{fn:Func}{c:Code}{args res:List (Bool×D)}(hc:zbb P f)(hf:P.funcs[f]?=some fn)(hb:fn.body=some c)(hd:zc2 fn.ntmps c=true)(hN:args.length<=fn.ntmps)(hs:zcg args)
  (h:ex P c [] (PM P fn.results.toList res) (zc4 args)):XC P f args res:=by
 refine⟨hc,fun w vs fp tp A hv hn=>?_⟩
 refine calls_of_wp hf hb ?_
 have hv':za3 w (fun b=>b<w.heap.size/\A b/\b∉fp) args vs fp tp:=za3.keepA (fun b hb=>⟨hb.1.1,hb.2,hb.1.2⟩) hv
 obtain⟨g,hg,hR⟩:=Rel.start (A0:=fun b=>A b\/w.heap.size<=b\/b∈fp) (R0:=RP.of fun b=>b∈fp\/w.heap.size<=b) (N:=fn.ntmps) hv' hn hs hN (fun _ h=>Or.inl h) (fun b hb=>⟨Or.inr (Or.inr hb),Or.inl hb⟩) (fun b hb=>by
  by_cases hlt:b<w.heap.size
  ·have hm:b∈fp:=Classical.byContradiction fun h=>hb ⟨hlt,h⟩;exact⟨Or.inr (Or.inr hm),Or.inl hm⟩
  ·exact⟨Or.inr (Or.inl Yp),Or.inr Yp⟩)
 have hR0:=zh6 hv' hR rfl (fun b hb=>⟨⟨hb.1,hb.2.2⟩,by rw[(K1 hg).1];exact Or.inl hb.2.1⟩)
 refine wp_mono (zbs (w0:=w) c (zc4 args) _ hd h g _ w hR0 (fun k hk=>hk.1) (Bk.refl _ _) hg) fun e a' w' hq=>?_
 obtain⟨σ',g',h1,h2,h3,h4,h5⟩:=hq
 have key:(∃pl,PM0 P fn.results.toList res pl σ')->∃v,(results fn a'.tmps).run P w'=.ok v w'/\∃us fp' tp',Ending.returned v=.returned (zci us)/\za3 w' (fun k=>(k<w'.heap.size/\k∉fp')/\(A k\/w.heap.size<=k\/k∈fp)) res us fp' tp'/\fp'.Nodup/\(∀b∈fp',b∈fp\/w.heap.size<=b)/\Bk (fun k=>k<w.heap.size/\k∉fp) w w':=by
  rintro⟨pl,hk⟩;obtain⟨vs,hvs,hk⟩:=zai hk;obtain⟨us,r1,r2⟩:=zbr h2 fn hvs;obtain⟨B,hB⟩:=h2.fam;obtain⟨s,k1,⟨tp',k2⟩,k3,k4⟩:=zgc h2 hB hk r2;rw[Kh]at k4;have hsp:s.Pairwise okP:=(J0.1 (k4 List.Pairwise.nil)).imp fun h=>h.symm;have hin:∀b∈bks B s,∃e,σ'.On e/\b∈g'.φ e:=fun b hb=>by
   obtain⟨x,hx,hm⟩:=Jr.1 hb;exact⟨x.1,k3 x hx,hB.sub x.1 x.2 b (k3 x hx) hm⟩
  have hA:∀b,zb8 σ' g' w' b->(b<w'.heap.size/\b∉bks B s)/\(A b\/w.heap.size<=b\/b∈fp):=fun b hb=>by
   refine⟨⟨hb.1.2.2.1,fun hm=>?_⟩,?_⟩
   ·obtain⟨e,ho,hm⟩:=hin b hm;exact hb.2 e ho hm
   ·have:=hb.1.2.2.2;rw[(K1 h5).1]at this;exact this
  refine⟨_,r1,us,bks B s,tp',rfl,za3.keepA hA k2,zey h2 hB k3 hsp,fun b hb=>?_,h4⟩;obtain⟨e,ho,hm⟩:=hin b hb;have:=(h2.ebase e ho b hm).2;rw[(K1 h5).2]at this;exact this
 have key':∀{Y:Prop},(PM0 P fn.results.toList res [] σ'\/∃pl,PM0 P fn.results.toList res pl σ')->((∃pl,PM0 P fn.results.toList res pl σ')->Y)->Y:=fun h k=>h.elim (fun h=>k ⟨[],h⟩) k
 cases e with
 | normal=>exact⟨h2.defers,key' h1 key⟩
 | ret=>exact⟨h2.defers,key' h1 key⟩
 | exit _=>exact h1.elim
 | goto _=>exact h1.elim
 | panic _=>exact h1.elim
 | outgrown=>exact h1.elim
def St.callX (σ:St)(d:Nat)(res:List (Bool×D)):St:={ sl:=upd σ.sl d (znn (mD d 0 res)),bx:=σ.bx,ev:=mE d 0 (zcj res) σ.ev }
theorem qkl {o:Oper}{σ τ:St}{x:Operand}{asx:Array Operand}{ts:Array TypeId}{f:FuncId}{cvs:List V}{d:Nat}{ds res:List (Bool×D)}{ps:List (Nat×Nat×Nat)}(ho:o.op=.call ⟨.value x,asx,ts⟩)(hd:o.dst=some d)
  (h:XC P f ds res) (hc:za0 (σ.get P 0 x)=some (f,cvs)) (hK:Kept σ τ) (hv:gvA σ (fun u=>∀s∈u,τ.ev s.1=none) [] ps (σ.gets P asx ts++cvs) ds) (hf:mF d 0 (zcj res) τ.ev):zah P o σ (τ.callX d res):=by
 intro n0 N g a w hR hn hdN
 obtain⟨vs,h1,h2⟩:=zdb hR ho hc h.1
 unfold Oper.wp
 rw[h1]
 obtain⟨B,hB⟩:=hR.fam
 obtain⟨s,k1,⟨tp,k2⟩,k3,k4⟩:=zgc hR hB hv h2
 rw[Kh]at k1 k4
 have hsp:s.Pairwise okP:=(J0.1 (k4 List.Pairwise.nil)).imp fun h=>h.symm
 have hnd:=zey hR hB k3 hsp
 have hfp:∀b∈bks B s,∃e,σ.On e/\τ.ev e=none/\b∈g.φ e:=fun b hb=>by
  obtain⟨x,hx,hm⟩:=Jr.1 hb;exact⟨x.1,k3 x hx,k1 x (List.mem_reverse.2 hx),hB.sub x.1 x.2 b (k3 x hx) hm⟩
 have hfn:∀b,zb8 σ g w b->b∉bks B s:=fun b hb hm=>by obtain⟨e,h1,_,h3⟩:=hfp b hm;exact hb.2 e h1 h3
 refine(h.2 w vs (bks B s) tp (zb8 σ g w) (za3.keepA (fun b hb=>⟨⟨hb.1.2.2.1,hfn b hb⟩,hb⟩) k2) hnd).mono ?_
 rintro e w' ⟨us,fp',tp',rfl,o1,o2,o3,hbk⟩
 obtain⟨tp2,o1'⟩:=o1.flat
 obtain⟨g',q1,q2,q3⟩:=New.mix (τ:=τ) (g:=g) (NB:=fun b=>b∈bks B s\/w.heap.size<=b) (w':=w') d (zcj res) _ fp' tp2 0 τ.ev g [] (New.refl _ _ _ _ hR.slc) hf o1' o2 (fun b hb'=>⟨o3 b hb',by simp⟩)
 have hR':=hR.given hn hK hfp hbk q1
 have hBk:Bk n0 w w':=⟨hbk.os,hbk.tape,hbk.output,hbk.size,fun k hk=>hbk.block k ⟨hn k hk,fun hm=>by
  obtain⟨e,h1,_,h3⟩:=hfp k hm
  exact hR.etop e h1 k h3 hk⟩⟩
 have hfree:∀k,((k<w'.heap.size/\k∉fp')/\(zb8 σ g w k\/w.heap.size<=k\/k∈bks B s))->zb8 ⟨τ.sl,τ.bx,mE d 0 (zcj res) τ.ev⟩ g' w' k:=fun k hk=>by
  have hOnσ:∀e,τ.On e->σ.On e:=fun e ⟨x,hx,ho⟩=>⟨x,(hK.ev e x hx).1,ho⟩;have hno:∀e,St.On ⟨τ.sl,τ.bx,mE d 0 (zcj res) τ.ev⟩ e->k∉g'.φ e:=fun e ho' hm=>by
   by_cases hee:τ.ev e=none
   ·obtain⟨x,hx,_⟩:=ho';have:=((q1.new e x hee hx).2.2.1 k hm).2;rw[Kx]at this;exact hk.1.2 this
   ·rw[(q1.old e hee).2.2]at hm;obtain⟨x,hx,hon⟩:=ho';have ho2:τ.On e:=⟨x,(q1.old e hee).1.symm.trans hx,hon⟩;rcases hk.2 with h|h|h
    ·exact h.2 e (hOnσ e ho2) hm
    ·obtain⟨y,hy,hyo⟩:=hOnσ e ho2;have:=(hR.evs e y hy hyo).lt k hm;omega
    ·obtain⟨e',h1,h2,h3⟩:=hfp k h;refine hR.apart e e' (hOnσ e ho2) h1 (fun ee=>?_) k hm h3;subst ee;obtain⟨y,hy,_⟩:=ho2;rw[h2]at hy;cases hy
  have hbne:∀b,τ.bx b≠none->σ.bx b≠none:=fun b hb=>by
   obtain⟨cs,hcs⟩:=K4.1 hb;rw[(hK.bx b cs hcs).1];simp
  refine⟨⟨fun j hj e=>?_,fun e x hx hon hh=>hno e ⟨x,hx,hon⟩ (List.mem_of_mem_head? hh),hk.1.1,?_⟩,hno⟩
  ·have hj':=hbne j hj;rw[q1.β]at e;rcases hk.2 with h|h|h
   ·exact h.1.1 j hj' e
   ·have:=hR.lt hj';omega
   ·obtain⟨e',h1,_,h3⟩:=hfp k h;exact hR.ebx e' j h1 hj' (e▸h3)
  ·rw[q1.A0];rcases hk.2 with h|h|h
   ·exact h.1.2.2.2
   ·exact(hR.anew k (hn.new h)).1
   ·obtain⟨e',h1,_,h3⟩:=hfp k h;exact(hR.ebase e' h1 k h3).1
 refine⟨g',?_,hBk,q1.A0,q1.R0⟩
 have hp:=hR'.put (some d) (x:=znn (mD d 0 res)) (v:=zci us) (ze6 (qax d 0 o1 (q3 _ _ rfl fun t v h=>zas.keep (fun _ _=>rfl) hfree t v h)) (zxq d res 0)) (fun i hi=>by cases hi;exact hdN d hd)
 rw[hd]
 exact hp
section
variable {ks:List Fr}{Q:Exit->St->Prop}{σ:St}{ops:Array Oper}{os:List Oper}{ty:TypeId}{ps:String}{af:Array Edge}{d:Nat}{x:Operand}{asx:Array Operand}{ts:Array TypeId}{f:FuncId}{ds res:List (Bool×D)}
theorem callX (la l:List (Nat×V))(ba bl:List (Nat×List C))(ea el:List (Nat×Ev))(pl:List (Nat×Nat×Nat))(h:XC P f ds res)
  (hw:wkL σ (hd (la++l) (ba++bl) (ea++el)) (la++l)/\wkB σ (hd (la++l) (ba++bl) (ea++el)) (ba++bl)/\wkE σ (ea++el))
  (hk:zek l la/\zek bl ba/\zek el ea/\okL (hd l bl el) l/\okB (hd l bl el) bl/\okE el)
  (hp:zar (za0 ((hd (la++l) (ba++bl) (ea++el)).get P 0 x)) fun p=>p.1=f/\gvA (hd (la++l) (ba++bl) (ea++el)) (zwz el) [] pl ((hd (la++l) (ba++bl) (ea++el)).gets P asx ts++p.2) ds) (hf:mF d 0 (zcj res) (hd l bl el).ev)
  (k:exo P ops os ks Q ((hd l bl el).callX d res)):exo P ops (⟨some d,.call ⟨.value x,asx,ts⟩,ty,ps,af,none⟩::os) ks Q σ:=by
 obtain⟨⟨f',cvs⟩,h1,rfl,h2⟩:=zai hp
 obtain⟨k1,k2,k3,k4,k5,k6⟩:=hk
 refine zc6 rfl rfl (zah.pre (zac hw) (qkl (P:=P) (o:=⟨some d,.call ⟨.value x,asx,ts⟩,ty,ps,af,none⟩) rfl rfl h h1 (τ:=hd l bl el) ⟨fun i=>?_,fun b cs hb=>⟨zls k2 b cs hb,zwn k5 b cs hb⟩,fun e x he=>⟨zls k3 e x he,zu9 k6 e x he⟩⟩ (zia (fun u hu=>zmf hu) h2) hf)) k
 rcases zpw k1 i with h|h
 ·exact Or.inl h
 ·exact Or.inr ⟨h,zv5 k4 i⟩
theorem zzd (L A:List Nat)(pl:List (Nat×Nat×Nat))(h:XC P f ds res)
  (hw:wkL σ (hd (σ.lL A++σ.lL L) (σ.lB (dif (σ.KB L) (σ.KB A))++σ.lB (σ.KB L)) (σ.lE (dif (σ.KE L) (σ.KE A))++σ.lE (σ.KE L))) (σ.lL A++σ.lL L)/\wkB σ (hd (σ.lL A++σ.lL L) (σ.lB (dif (σ.KB L) (σ.KB A))++σ.lB (σ.KB L)) (σ.lE (dif (σ.KE L) (σ.KE A))++σ.lE (σ.KE L))) (σ.lB (dif (σ.KB L) (σ.KB A))++σ.lB (σ.KB L))/\wkE σ (σ.lE (dif (σ.KE L) (σ.KE A))++σ.lE (σ.KE L)))
  (hk:zek (σ.lL L) (σ.lL A)/\zek (σ.lB (σ.KB L)) (σ.lB (dif (σ.KB L) (σ.KB A)))/\zek (σ.lE (σ.KE L)) (σ.lE (dif (σ.KE L) (σ.KE A)))/\okL (σ.hL L) (σ.lL L)/\okB (σ.hL L) (σ.lB (σ.KB L))/\okE (σ.lE (σ.KE L)))
  (hp:zar (za0 ((hd (σ.lL A++σ.lL L) (σ.lB (dif (σ.KB L) (σ.KB A))++σ.lB (σ.KB L)) (σ.lE (dif (σ.KE L) (σ.KE A))++σ.lE (σ.KE L))).get P 0 x)) fun p=>p.1=f/\gvA (hd (σ.lL A++σ.lL L) (σ.lB (dif (σ.KB L) (σ.KB A))++σ.lB (σ.KB L)) (σ.lE (dif (σ.KE L) (σ.KE A))++σ.lE (σ.KE L))) (zwz (σ.lE (σ.KE L))) [] pl ((hd (σ.lL A++σ.lL L) (σ.lB (dif (σ.KB L) (σ.KB A))++σ.lB (σ.KB L)) (σ.lE (dif (σ.KE L) (σ.KE A))++σ.lE (σ.KE L))).gets P asx ts++p.2) ds)
  (hf:mF d 0 (zcj res) (σ.hL L).ev) (k:exo P ops os ks Q ((σ.hL L).callX d res)):exo P ops (⟨some d,.call ⟨.value x,asx,ts⟩,ty,ps,af,none⟩::os) ks Q σ :=
 callX (σ.lL A) (σ.lL L) _ _ _ _ pl h hw hk hp hf k
end
attribute [go_sem] zcj mC1 mC mE mF mD St.callX PM PM0 zvo qol
end
section
open Go.RowKit
variable {P:Program}
def C.fz (e:Nat)(x:Ev):C->C
 | .ow e' g=>if e'=e then (if g=x.gen then .rn (.sl x.sz x.rows)else .any)else .ow e' g
 | .eo e' g sz i o=>if e'=e then .any else .eo e' g sz i o
 | c=>c
def fzS (f:Nat->V)(e:Nat)(x:Ev):Nat->V:=fun i=>(f i).map (C.fz e x)
def fzB (f:Nat->Option (List C))(e:Nat)(x:Ev):Nat->Option (List C):=fun b=>(f b).map fun cs=>cs.map (C.fz e x)
def fzE (f:Nat->Option Ev)(e:Nat):Nat->Option Ev:=fun k=>if k=e then none else f k
theorem fzS_at (f:Nat->V)(e:Nat)(x:Ev)(i:Nat):fzS f e x i=(f i).map (C.fz e x):=rfl
theorem zyr (f:Nat->Option (List C))(e:Nat)(x:Ev)(b:Nat):fzB f e x b=(f b).map fun cs=>cs.map (C.fz e x):=rfl
theorem fzE_at (f:Nat->Option Ev)(e k:Nat):fzE f e k=if k=e then none else f k:=rfl
def St.fz (σ:St)(e:Nat)(x:Ev):St:=⟨fzS σ.sl e x,fzB σ.bx e x,fzE σ.ev e⟩
theorem fz_wk {σ:St}{e:Nat}{x:Ev}(hx:σ.ev e=some x)(hd:x.deep=true)(ho:x.on=true):Wk σ (σ.fz e x):=by
 intro n0 N g a w h
 have hev:∀e',e'≠e->(σ.fz e x).ev e'=σ.ev e':=fun e' he=>by show(if e'=e then none else σ.ev e')=_;rw[if_neg he]
 have hee:(σ.fz e x).ev e=none:=by show(if e=e then none else σ.ev e)=_;rw[if_pos rfl]
 have hsome:∀e' z,(σ.fz e x).ev e'=some z->e'≠e/\σ.ev e'=some z:=fun e' z hz=>by
  by_cases he:e'=e
  ·subst he;rw[hee]at hz;cases hz
  ·exact⟨he,by rw[<-hev e' he];exact hz⟩
 have hon:∀e',(σ.fz e x).On e'->e'≠e/\σ.On e':=fun e' ⟨z,hz,h1⟩=>⟨(hsome e' z hz).1,z,(hsome e' z hz).2,h1⟩
 have hbx:∀b,(σ.fz e x).bx b≠none↔σ.bx b≠none:=fun b=>by unfold St.fz;simp[zyr]
 have hOn:σ.On e:=⟨x,hx,ho⟩
 have hf:∀b,Fix σ g w b->Fix (σ.fz e x) g w b:=fun b hf=>⟨fun k hk=>hf.1 k ((hbx k).1 hk),fun e' z hz h1=>hf.2.1 e' z (hsome e' z hz).2 h1,hf.2.2⟩
 have hfr:∀b,zb8 σ g w b->zb8 (σ.fz e x) g w b:=fun b hb=>⟨hf b hb.1,fun e' h'=>hb.2 e' (hon e' h').2⟩
 have hgone:∀b∈g.φ e,b<w.heap.size->zb8 (σ.fz e x) g w b:=fun b hb hl=>by
  have hne:∀e',(σ.fz e x).On e'->b∉g.φ e':=fun e' he' hm=>h.apart e e' hOn (hon e' he').2 (Ne.symm (hon e' he').1) b hb hm;exact⟨⟨fun j hj hjb=>h.ebx e j hOn ((hbx j).1 hj) (by rw[hjb];exact hb),fun e' z hz h1 hh=>hne e' ⟨z,hz,h1⟩ (List.mem_of_mem_head? hh),hl,(h.ebase e hOn b hb).1⟩,hne⟩
 have hhas:∀e' n,e'≠e->σ.has e' n->(σ.fz e x).has e' n:=fun e' n he ⟨z,hz,h1⟩=>⟨z,by rw[hev e' he];exact hz,h1⟩
 have cr:∀c v,CR σ g w c v->CR (σ.fz e x) g w (c.fz e x) v:=fun c v hc=>by
  cases c with
  | t y=>exact zas.keep (fun _ _=>rfl) hf y v hc
  | nl s=>exact hc
  | ow e' n =>
   show CR _ _ _ (if e'=e then (if n=x.gen then .rn (.sl x.sz x.rows)else .any)else .ow e' n) v
   by_cases he:e'=e
   ·subst he;rw[if_pos rfl];by_cases hn:n=x.gen
    ·rw[if_pos hn];subst hn;obtain⟨ao,cap,e1,e2,e3,e4⟩:=h.evs _ x hx ho;rw[<-hc.1]at e1;show zas _ _ _ _
     unfold zas;refine⟨ao,cap,e1,e2,e3,?_⟩;rcases e4 with⟨_,_,e4,_⟩|⟨b,cells,ty,fps,k1,k2,k3,k4,k5⟩
     ·exact Or.inl e4
     ·rw[if_pos hd]at k5;have hl:∀b'∈fps,b'<w.heap.size:=zaq.lt cells 0 x.sz x.rows fps k5;exact Or.inr ⟨b,0,k1,hgone b (by rw[k2];simp) (Array.getElem?_eq_some_iff.1 k3).1,zaq.rep b cells ty k3 0 x.sz x.rows fps k5 fun b' hb'=>hgone b' (by rw[k2];simp[hb']) (hl b' hb')⟩
    ·rw[if_neg hn];trivial
   ·rw[if_neg he];exact⟨hc.1,hhas e' n he hc.2⟩
  | bx b o=>exact⟨hc.1,(hbx b).2 hc.2⟩
  | el cs o=>obtain⟨b,q,h1,h2,h3⟩:=hc;exact⟨b,q,h1,hf b h2,zbk.keep (fun _ _=>rfl) hf b rfl q cs h3⟩
  | eo e' s sz i o =>
   show CR _ _ _ (if e'=e then .any else .eo e' s sz i o) v
   by_cases he:e'=e
   ·rw[if_pos he];trivial
   ·rw[if_neg he];obtain⟨b,n,c,h1,h2,h3,h4⟩:=hc;exact⟨b,n,c,h1,h2,h3,hhas e' s he h4⟩
  | fn f caps=>exact⟨hc.1,fun b hb=>(hbx b).2 (hc.2 b hb)⟩
  | cv u=>exact hc
  | any=>trivial
  | rn y=>exact zas.keep (fun _ _=>rfl) hfr y v hc
  | er cs o=>obtain⟨b,q,h1,h2,h3⟩:=hc;exact⟨b,q,h1,hfr b h2,zbk.keep (fun _ _=>rfl) hfr b rfl q cs h3⟩
 refine⟨g,⟨h.defers,h.size,h.anew,fun i=>VR.map cr (h.slots i),fun b cs hb=>?_,fun b hb=>h.base b ((hbx b).1 hb),fun b b' h1 h2=>h.inj b b' ((hbx b).1 h1) ((hbx b').1 h2),fun e' z hz h1=>?_,fun e' z hz h1=>?_,h.slc,fun e' h1=>h.ebase e' (hon e' h1).2,fun e' h1=>h.etop e' (hon e' h1).2,fun e' h1=>h.nodup e' (hon e' h1).2,fun e1 e2 h1 h2=>h.apart e1 e2 (hon e1 h1).2 (hon e2 h2).2,fun e' k h1 h2=>h.ebx e' k (hon e' h1).2 ((hbx k).1 h2)⟩,rfl,rfl⟩
 ·cases hc:σ.bx b with
  | none=>unfold St.fz at hb;simp only[zyr,hc,Jy]at hb;cases hb
  | some cs0 =>
   unfold St.fz at hb;simp only[zyr,hc,Q7,Qc]at hb;subst hb;obtain⟨vs,ty,k1,k2⟩:=h.boxes b cs0 hc;exact⟨vs,ty,k1,CRs.map cr k2⟩
 ·obtain⟨ao,cap,e1,e2,e3,e4⟩:=h.evs e' z (hsome e' z hz).2 h1;refine⟨ao,cap,e1,e2,e3,?_⟩;rcases e4 with e4|⟨b,cells,ty,fps,k1,k2,k3,k4,k5⟩
  ·exact Or.inl e4
  ·refine Or.inr ⟨b,cells,ty,fps,k1,k2,k3,k4,?_⟩;split at k5
   ·rw[if_pos ‹_›];exact k5
   ·rw[if_neg ‹_›];exact⟨k5.1,zaw.keep (fun _ _=>rfl) hf b rfl 0 z.sz z.rows k5.2⟩
 ·exact⟨zas.keep (fun _ _=>rfl) hf _ _ (h.offs e' z (hsome e' z hz).2 h1).1,(h.offs e' z (hsome e' z hz).2 h1).2⟩
theorem zbn.pre {o:Oper}{σ σ':St}{K:St->Prop}(h:Wk σ σ')(k:zbn P o σ' K):zbn P o σ K:=fun n0 N g a w hR hn hd=>by
 obtain⟨g1,h1,h2,h3⟩:=h n0 N g a w hR
 have:=k n0 N g1 a w h1 hn hd
 unfold Oper.wp at this⊢
 revert this
 cases (execOp a.eval o).run P w<;>intro this<;>try exact this
 all_goals (revert this;rw[h2,h3];exact id)
theorem zeh.pre {id:Nat}{ops:Array Oper}{σ σ':St}{K:St->Prop}(h:Wk σ σ')(k:zeh P id ops σ' K):zeh P id ops σ K:=fun n0 N g a w hR hn hd=>by
 obtain⟨g1,h1,h2,h3⟩:=h n0 N g a w hR
 have:=k n0 N g1 a w h1 hn hd
 rw[h2,h3]at this
 exact this
section
variable {ks:List Fr}{Q:Exit->St->Prop}{σ:St}{ops:Array Oper}{os:List Oper}{o:Oper}
theorem zq7 {σ':St}(h:Wk σ σ')(hg:o.guard=none)(hs:zrh o.op=true)(k:exo P ops (o::os) ks Q σ'):exo P ops (o::os) ks Q σ:=by
 unfold exo zcd exG at k⊢
 rw[hg]at k⊢
 simp only at k⊢
 unfold zcs znh at k⊢
 rw[if_pos (by rw[hs];rfl)]at k⊢
 exact k.pre h
theorem ztk (e:Nat)(hg:o.guard=none)(hs:zrh o.op=true)(k:zar (σ.ev e) fun x=>x.deep=true/\x.on=true/\exo P ops (o::os) ks Q (σ.fz e x)):exo P ops (o::os) ks Q σ:=by
 obtain⟨x,hx,h1,h2,h3⟩:=zai k
 exact zq7 (fz_wk hx h1 h2) hg hs h3
theorem frzD (e:Nat){i:Nat}(k:zar (σ.ev e) fun x=>x.deep=true/\x.on=true/\ex P (.region i ops true) ks Q (σ.fz e x)):ex P (.region i ops true) ks Q σ:=by
 obtain⟨x,hx,h1,h2,h3⟩:=zai k
 exact zeh.pre (fz_wk hx h1 h2) h3
end
attribute [go_sem] C.fz St.fz V.map fzS_at zyr fzE_at
end
theorem ag_3:zk1 Tryz.prog 3=some false:=by kernel_rfl
theorem sz_3:zbw Tryz.prog 3=some 1:=by kernel_rfl
theorem in_3:qkb Tryz.prog 3=some .i64:=by kernel_rfl
theorem ze_3:zdg Tryz.prog 3=some [.t (.int .i64 0)]:=by kernel_rfl
theorem ag_4:zk1 Tryz.prog 4=some false:=by kernel_rfl
theorem sz_4:zbw Tryz.prog 4=some 1:=by kernel_rfl
theorem bo_4:qeb Tryz.prog 4=true:=by kernel_rfl
theorem ze_4:zdg Tryz.prog 4=some [.t (.bool false)]:=by kernel_rfl
theorem sz_5:zbw Tryz.prog 5=some 1:=by kernel_rfl
theorem in_5:qkb Tryz.prog 5=some .u8:=by kernel_rfl
theorem ze_5:zdg Tryz.prog 5=some [.t (.int .u8 0)]:=by kernel_rfl
theorem ag_9:zk1 Tryz.prog 9=some false:=by kernel_rfl
theorem sz_9:zbw Tryz.prog 9=some 1:=by kernel_rfl
theorem in_9:qkb Tryz.prog 9=none:=by kernel_rfl
theorem st_9:ql1 Tryz.prog 9=true:=by kernel_rfl
theorem ze_9:zdg Tryz.prog 9=some [.t (.str [])]:=by kernel_rfl
theorem ag_22:zk1 Tryz.prog 22=some false:=by kernel_rfl
theorem sz_22:zbw Tryz.prog 22=some 1:=by kernel_rfl
theorem el_22:elT Tryz.prog 22=some 24:=by kernel_rfl
theorem ag_24:zk1 Tryz.prog 24=some true:=by kernel_rfl
theorem sz_24:zbw Tryz.prog 24=some 2:=by kernel_rfl
theorem qv2:zgn Tryz.prog 24 0=some (0,9):=by kernel_rfl
theorem qsz:zgn Tryz.prog 24 1=some (1,22):=by kernel_rfl
theorem ag_25:zk1 Tryz.prog 25=some false:=by kernel_rfl
theorem sz_25:zbw Tryz.prog 25=some 1:=by kernel_rfl
theorem el_25:elT Tryz.prog 25=some 27:=by kernel_rfl
theorem ag_27:zk1 Tryz.prog 27=some true:=by kernel_rfl
theorem sz_27:zbw Tryz.prog 27=some 5:=by kernel_rfl
theorem qv7:zgn Tryz.prog 27 0=some (0,3):=by kernel_rfl
theorem qwj:zgn Tryz.prog 27 1=some (1,24):=by kernel_rfl
theorem qsw:zgn Tryz.prog 27 2=some (3,9):=by kernel_rfl
theorem qsy:zgn Tryz.prog 27 3=some (4,25):=by kernel_rfl
theorem ag_28:zk1 Tryz.prog 28=some false:=by kernel_rfl
theorem sz_28:zbw Tryz.prog 28=some 1:=by kernel_rfl
theorem el_28:elT Tryz.prog 28=some 30:=by kernel_rfl
theorem ag_30:zk1 Tryz.prog 30=some true:=by kernel_rfl
theorem sz_30:zbw Tryz.prog 30=some 10:=by kernel_rfl
theorem qtn:zgn Tryz.prog 30 0=some (0,3):=by kernel_rfl
theorem qut:zgn Tryz.prog 30 1=some (1,27):=by kernel_rfl
theorem qwh:zgn Tryz.prog 30 2=some (6,3):=by kernel_rfl
theorem qwq:zgn Tryz.prog 30 3=some (7,24):=by kernel_rfl
theorem qwg:zgn Tryz.prog 30 4=some (9,28):=by kernel_rfl
theorem nl_33:nlT Tryz.prog 33=2:=by kernel_rfl
theorem ag_33:zk1 Tryz.prog 33=some false:=by kernel_rfl
theorem sz_33:zbw Tryz.prog 33=some 1:=by kernel_rfl
theorem el_33:elT Tryz.prog 33=some 35:=by kernel_rfl
theorem zy7:zdv Tryz.prog 35=some 40:=by kernel_rfl
theorem ag_35:zk1 Tryz.prog 35=some true:=by kernel_rfl
theorem sz_35:zbw Tryz.prog 35=some 2:=by kernel_rfl
theorem ze_35:zdg Tryz.prog 35=some [.t (.str []),.nl 2]:=by kernel_rfl
theorem pl_35:qlx Tryz.prog 35=some [(0,1),(1,1)]:=by kernel_rfl
theorem qvk:zgn Tryz.prog 35 0=some (0,9):=by kernel_rfl
theorem quu:zgn Tryz.prog 35 1=some (1,33):=by kernel_rfl
theorem nl_36:nlT Tryz.prog 36=5:=by kernel_rfl
theorem ag_36:zk1 Tryz.prog 36=some false:=by kernel_rfl
theorem sz_36:zbw Tryz.prog 36=some 1:=by kernel_rfl
theorem el_36:elT Tryz.prog 36=some 38:=by kernel_rfl
theorem zyc:zdv Tryz.prog 38=some 88:=by kernel_rfl
theorem nl_38:nlT Tryz.prog 38=0:=by kernel_rfl
theorem ag_38:zk1 Tryz.prog 38=some true:=by kernel_rfl
theorem sz_38:zbw Tryz.prog 38=some 5:=by kernel_rfl
theorem ze_38:zdg Tryz.prog 38=some [.t (.int .i64 0),.t (.str []),.nl 2,.t (.str []),.nl 5]:=by kernel_rfl
theorem pl_38:qlx Tryz.prog 38=some [(0,1),(1,2),(3,1),(4,1)]:=by kernel_rfl
theorem qwv:zgn Tryz.prog 38 0=some (0,3):=by kernel_rfl
theorem qtm:zgn Tryz.prog 38 1=some (1,35):=by kernel_rfl
theorem qu7:zgn Tryz.prog 38 2=some (3,9):=by kernel_rfl
theorem qtj:zgn Tryz.prog 38 3=some (4,36):=by kernel_rfl
theorem nl_39:nlT Tryz.prog 39=10:=by kernel_rfl
theorem ag_39:zk1 Tryz.prog 39=some false:=by kernel_rfl
theorem sz_39:zbw Tryz.prog 39=some 1:=by kernel_rfl
theorem el_39:elT Tryz.prog 39=some 41:=by kernel_rfl
theorem qna:zdv Tryz.prog 41=some 168:=by kernel_rfl
theorem ag_41:zk1 Tryz.prog 41=some true:=by kernel_rfl
theorem sz_41:zbw Tryz.prog 41=some 10:=by kernel_rfl
theorem ze_41:zdg Tryz.prog 41=some [.t (.int .i64 0),.t (.int .i64 0),.t (.str []),.nl 2,.t (.str []),.nl 5,.t (.int .i64 0),.t (.str []),.nl 2,.nl 10]:=by kernel_rfl
theorem qvf:zgn Tryz.prog 41 0=some (0,3):=by kernel_rfl
theorem quy:zgn Tryz.prog 41 1=some (1,38):=by kernel_rfl
theorem qs5:zgn Tryz.prog 41 2=some (6,3):=by kernel_rfl
theorem qwc:zgn Tryz.prog 41 3=some (7,35):=by kernel_rfl
theorem qwt:zgn Tryz.prog 41 4=some (9,39):=by kernel_rfl
theorem nl_45:nlT Tryz.prog 45=1:=by kernel_rfl
theorem el_45:elT Tryz.prog 45=some 3:=by kernel_rfl
theorem qlr:zdv Tryz.prog 3=some 8:=by kernel_rfl
theorem ag_52:zk1 Tryz.prog 52=some true:=by kernel_rfl
theorem sz_52:zbw Tryz.prog 52=some 2:=by kernel_rfl
theorem ze_52:zdg Tryz.prog 52=some [.nl 5,.nl 5]:=by kernel_rfl
theorem pl_52:qlx Tryz.prog 52=some [(0,1),(1,1)]:=by kernel_rfl
theorem qvb:zgn Tryz.prog 52 0=some (0,36):=by kernel_rfl
theorem qs3:zgn Tryz.prog 52 1=some (1,36):=by kernel_rfl
theorem nl_57:nlT Tryz.prog 57=6:=by kernel_rfl
theorem ag_57:zk1 Tryz.prog 57=some false:=by kernel_rfl
theorem sz_57:zbw Tryz.prog 57=some 1:=by kernel_rfl
theorem el_57:elT Tryz.prog 57=some 93:=by kernel_rfl
theorem zzs:zdv Tryz.prog 93=some 96:=by kernel_rfl
theorem ze_57:zdg Tryz.prog 57=some [.nl 6]:=by kernel_rfl
theorem ag_82:zk1 Tryz.prog 82=some false:=by kernel_rfl
theorem sz_82:zbw Tryz.prog 82=some 1:=by kernel_rfl
theorem ze_82:zdg Tryz.prog 82=some [.cv (.map none)]:=by kernel_rfl
theorem ag_93:zk1 Tryz.prog 93=some true:=by kernel_rfl
theorem sz_93:zbw Tryz.prog 93=some 6:=by kernel_rfl
theorem ze_93:zdg Tryz.prog 93=some [.t (.int .i64 0),.t (.int .i64 0),.t (.str []),.nl 2,.t (.str []),.nl 5]:=by kernel_rfl
theorem pl_93:qlx Tryz.prog 93=some [(0,1),(1,5)]:=by kernel_rfl
theorem quh:zgn Tryz.prog 93 0=some (0,3):=by kernel_rfl
theorem qv0:zgn Tryz.prog 93 1=some (1,38):=by kernel_rfl
theorem qq8:elT Tryz.prog 109=some 57:=by kernel_rfl
theorem zrl:zdv Tryz.prog 57=some 24:=by kernel_rfl
theorem nl_115:nlT Tryz.prog 115=1:=by kernel_rfl
theorem qsf:elT Tryz.prog 115=some 9:=by kernel_rfl
theorem zyp:zdv Tryz.prog 9=some 16:=by kernel_rfl
theorem qq9:elT Tryz.prog 117=some 82:=by kernel_rfl
theorem ztr:zdv Tryz.prog 82=some 8:=by kernel_rfl
theorem el_122:elT Tryz.prog 122=some 5:=by kernel_rfl
theorem us_122:u8S Tryz.prog 122=true:=by kernel_rfl
theorem in_122:qkb Tryz.prog 122=none:=by kernel_rfl
theorem ag_153:zk1 Tryz.prog 153=some false:=by kernel_rfl
theorem sz_153:zbw Tryz.prog 153=some 1:=by kernel_rfl
theorem qr1:elT Tryz.prog 153=some 166:=by kernel_rfl
theorem zoo:zdv Tryz.prog 166=some 56:=by kernel_rfl
theorem ag_155:zk1 Tryz.prog 155=some true:=by kernel_rfl
theorem sz_155:zbw Tryz.prog 155=some 1:=by kernel_rfl
theorem ze_155:zdg Tryz.prog 155=some [.nl 3]:=by kernel_rfl
theorem pl_155:qlx Tryz.prog 155=some [(0,1)]:=by kernel_rfl
theorem qp0:zgn Tryz.prog 155 0=some (0,153):=by kernel_rfl
theorem ag_166:zk1 Tryz.prog 166=some true:=by kernel_rfl
theorem qsc:zbw Tryz.prog 166=some 3:=by kernel_rfl
theorem qsa:zdg Tryz.prog 166=some [.t (.str []),.t (.str []),.nl 2]:=by kernel_rfl
theorem pl_166:qlx Tryz.prog 166=some [(0,1),(1,2)]:=by kernel_rfl
theorem qqc:zgn Tryz.prog 166 0=some (0,9):=by kernel_rfl
theorem qnv:zgn Tryz.prog 166 1=some (1,35):=by kernel_rfl
theorem in_178:qkb Tryz.prog 178=some .u64:=by kernel_rfl
theorem ap_33:apT Tryz.prog 33 2:=zkq el_33 sz_35 zy7 (by decide) ze_35 rfl
theorem ap_36:apT Tryz.prog 36 5:=zkq el_36 sz_38 zyc (by decide) ze_38 rfl
theorem ap_45:apT Tryz.prog 45 1:=zkq el_45 sz_3 qlr (by decide) ze_3 rfl
theorem ap_57:apT Tryz.prog 57 6:=zkq el_57 sz_93 zzs (by decide) ze_93 rfl
theorem ap_109:apT Tryz.prog 109 1:=zkq qq8 sz_57 zrl (by decide) ze_57 rfl
theorem ap_115:apT Tryz.prog 115 1:=zkq qsf sz_9 zyp (by decide) ze_9 rfl
theorem ap_117:apT Tryz.prog 117 1:=zkq qq9 sz_82 ztr (by decide) ze_82 rfl
theorem ap_153:apT Tryz.prog 153 3:=zkq qr1 qsc zoo (by decide) qsa rfl
attribute [go_sem] ag_3 sz_3 in_3 ze_3 ag_4 sz_4 bo_4 ze_4 sz_5 in_5 ze_5 ag_9 sz_9 in_9 st_9 ze_9 ag_22 sz_22 el_22 ag_24 sz_24 qv2 qsz ag_25 sz_25 el_25 ag_27 sz_27 qv7 qwj qsw qsy ag_28 sz_28 el_28 ag_30 sz_30 qtn qut qwh qwq qwg nl_33 ag_33 sz_33 el_33 zy7 ag_35 sz_35 ze_35 pl_35 qvk quu nl_36 ag_36 sz_36 el_36 zyc nl_38 ag_38 sz_38 ze_38 pl_38 qwv qtm qu7 qtj nl_39 ag_39 sz_39 el_39 qna ag_41 sz_41 ze_41 qvf quy qs5 qwc qwt nl_45 el_45 qlr ag_52 sz_52 ze_52 pl_52 qvb qs3 nl_57 ag_57 sz_57 el_57 zzs ze_57 ag_82 sz_82 ze_82 ag_93 sz_93 ze_93 pl_93 quh qv0 qq8 zrl nl_115 qsf zyp qq9 ztr el_122 us_122 in_122 ag_153 sz_153 qr1 zoo ag_155 sz_155 ze_155 pl_155 qp0 ag_166 qsc qsa pl_166 qqc qnv in_178 ap_33 ap_36 ap_45 ap_57 ap_109 ap_115 ap_117 ap_153
attribute [go_sem] Nat.reduceEqDiff reduceIte reduceCtorEq Nat.reduceAdd Nat.reduceMul Int.reduceLE Int.reduceNeg Int.reduceToNat Nat.reduceLeDiff Nat.reduceSub Nat.reduceLT Nat.le_refl Int.cast_ofNat_Int Int.reduceLT Int.reduceGT Int.reduceGE Int.reduceEq Int.reduceBEq Nat.reduceBEq Int.reduceBNe Int.reduceAdd Int.reduceSub gt_iff_lt ge_iff_le
end Go.Proofs.YtnemmlahbbbobaaGreat
