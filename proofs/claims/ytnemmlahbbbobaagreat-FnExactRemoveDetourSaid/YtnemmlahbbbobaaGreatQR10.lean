/-
  The walk over plain data, and contracts of functions of the program and of its laws.
  Conditions: those that each theorem names.
-/
import Derived.Test.YtnemmlahbbbobaaGreatQR9
namespace Go.Proofs.YtnemmlahbbbobaaGreat
set_option linter.unusedSimpArgs false
set_option linter.unusedVariables false
set_option linter.unusedSectionVars false
set_option maxRecDepth 4000
set_option maxHeartbeats 8000000
section
open Go.RowKit
theorem zgy {f:Fm}(h:f.forms=true):(f.op=4->f.parts.length=1)/\(f.op=5\/f.op=6\/f.op=7->f.parts.length=2)/\(f.op=8\/f.op=9->f.parts.length=1):=by
 rw[Fm.forms_eq,Qb]at h
 have h:=h.1
 unfold Fm.here at h
 refine⟨λe=>?_,λe=>?_,λe=>?_⟩
 ·rw[e]at h;exact(by simpa[zk6,isQ]using h:(_/\_)/\_).1.1
 ·rcases e with e|e|e<;>rw[e]at h<;>exact(by simpa[zk6,isQ]using h:(_/\_)/\_).1.1
 ·rcases e with e|e<;>rw[e]at h<;>exact(by simpa[zk6,isQ]using h:(_/\_)/\_).1.1
theorem zbp {f:Fm}(h:f.good=true):f.forms=true:=(Qb _ _▸h:_/\_).2
abbrev zF:Fm:=mkF 0 []
noncomputable def shI (p:Nt):Bool :=
 let a:=(p.parts.map Nt.form).getD 0 zF
 let b:=(p.parts.map Nt.form).getD 1 zF
 let d:=(p.parts.map Nt.form).getD 2 zF
 let c:=p.form
 let t:=p.term
 if p.rule=2 then c.op==1
 else if p.rule=3 then a.op==2
 else if p.rule=4 then a.op==2
 else if p.rule=5 then c.op==5&&same c.parts [a,b]
 else if p.rule=6 then a.op==5&&same (a.parts.getD 0 (mkF 0 [])) c
 else if p.rule=7 then a.op==5&&same (a.parts.getD 1 (mkF 0 [])) c
 else if p.rule=8 then c.op==6&&same (c.parts.getD 0 (mkF 0 [])) a
 else if p.rule=9 then c.op==6&&same (c.parts.getD 1 (mkF 0 [])) a
 else if p.rule=10 then a.op==6&&same b c&&same d c
 else if p.rule=11 then c.op==7&&same (c.parts.getD 1 (mkF 0 [])) a
 else if p.rule=12 then a.op==7&&same a.parts [b,c]
 else if p.rule=13 then c.op==4&&a.op==2
 else if p.rule=14 then a.op==4&&same a.parts [b]&&c.op==2
 else if p.rule=15 then za9 t.name&&qcv a c 8 t
 else if p.rule=16 then qcv c a 8 t
 else if p.rule=17 then qcv a c 9 t
 else if p.rule=18 then a.op==9&&za9 t.name&&((sbs a t).2&&same b c)
 else true
noncomputable def zu0 (p:Nt)(i:Nat):Fm :=
 let a:=(p.parts.map Nt.form).getD 0 zF
 if p.rule=4 then mkF 4 [p.form]else if p.rule=10 then a.parts.getD (i-1) (mkF 0 [])else if p.rule=18 then (sbs a p.term).1 else p.form.parts.getD 0 (mkF 0 [])
def nwI (p:Nt)(last:List An):Bool :=
 let a:=(p.parts.map Nt.form).getD 0 zF
 if p.rule=15 then !(last.any (λx=>frN p.term.name x.form)||frN p.term.name p.form)
 else if p.rule=18 then !(last.any (λx=>frN p.term.name x.form)||(frN p.term.name p.form||frN p.term.name a))
 else true
theorem zwe {r:Int}(h:0<=zbd r):r=1\/r=2\/r=3\/r=4\/r=5\/r=6\/r=7\/r=8\/r=9\/r=10\/r=11\/r=12\/r=13\/r=14\/r=15\/r=16\/r=17\/r=18:=by
 unfold zbd at h
 split at h
 ·rename_i e;simp only[K1,Q9]at e;omega
 ·split at h
  ·rename_i e;simp only[K1,Q9]at e;omega
  ·split at h
   ·rename_i e;simp only[Q9]at e;omega
   ·split at h
    ·rename_i e;simp only[inB,Qb,Q2]at e;omega
    ·omega
theorem quj (q:Fm)(t:Tm)(hq:q.forms=true)(hs:q.wt+t.wt<=1048576)(hp:q.parts≠[]):FC Tryz.prog 147 [fmD (q.parts.headD (mkF 0 [])),sD q.var,tmD t] [fmD (sbs q t).1,bD (sbs q t).2]:=by
 cases hps:q.parts with
 | nil=>exact absurd hps hp
 | cons g rest =>
  have hg:g.wt+t.wt<=1048576:=by have:=zbz Fm.wt q.parts g (by rw[hps];simp);have:=q.wt_eq;omega
  have:=ze4 g q.var t Y0 Y0 (by
   by_cases h:g.wt<=524288
   ·have h1:(1+g.wt)*t.wt<=524289*1048576:=J3 Y0 Y0;omega
   ·have h1:(1+g.wt)*t.wt<=1048577*524288:=J3 Y0 Y0
    omega)
  unfold sbs;rw[hps];exact this
theorem zkl (l:List Fm):l.headD (mkF 0 [])=l.getD 0 (mkF 0 []):=by cases l<;>rfl
theorem zgv {α:Type}{xs:List α}(h:xs.length=1):∃a,xs=[a]:=by
 match xs,h with|[a],_=>exact⟨a,rfl⟩
theorem zp9 {α:Type}{xs:List α}(h:xs.length=2):∃a b,xs=[a,b]:=by
 match xs,h with|[a,b],_=>exact⟨a,b,rfl⟩
theorem lnn3 {α:Type}{xs:List α}(h:xs.length=3):∃a b c,xs=[a,b,c]:=by
 match xs,h with|[a,b,c],_=>exact⟨a,b,c,rfl⟩
theorem zf6 {r:Int}{n:Nat}(h:zbd r=n):(r=1\/r=2->n=0)/\(r=5\/r=12\/r=14\/r=18->n=2)/\(r=10->n=3)/\(r=3\/r=4\/r=6\/r=7\/r=8\/r=9\/r=11\/r=13\/r=15\/r=16\/r=17->n=1):=by
 refine⟨λe=>?_,λe=>?_,λe=>?_,λe=>?_⟩
 ·rcases e with rfl|rfl<;>(have h:(0:Int)=n:=h;omega)
 ·rcases e with rfl|rfl|rfl|rfl<;>(have h:(2:Int)=n:=h;omega)
 ·subst e;have h:(3:Int)=n:=h;omega
 ·rcases e with rfl|rfl|rfl|rfl|rfl|rfl|rfl|rfl|rfl|rfl|rfl<;>(have h:(1:Int)=n:=h;omega)
theorem zpb (p:Nt)(hw:Fit p)(hs:stI p true=true)(hf:∀q∈p.parts,q.form.forms=true):FC Tryz.prog 122 [ntD p] [bD (shI p)]:=by
 obtain⟨r,c,l,t,ps⟩:=p
 have hwe:c.wt+t.wt+ps.length<=1048576:=hw.own
 have hf:∀q∈ps,q.form.forms=true:=hf
 unfold stI at hs
 simp only[Qb,Q9]at hs
 obtain⟨h1,h2,h3,h4,h5,_⟩:=hs
 have h1:zbd r=(ps.length:Int):=h1
 have h2:c.good=true:=h2
 obtain⟨ac4,ac2,ac1⟩:=zgy (zbp h2)
 obtain⟨n0,n2,n3,n1⟩:=zf6 h1
 have hcw:c.wt+t.wt<=1048576:=by omega
 have hqw:∀q∈ps,q.form.wt+t.wt<=1048576:=hw.part
 have hI:∀f q:Fm,∀op,(op=8\/op=9)->q.forms=true->q.wt+t.wt<=1048576->FC Tryz.prog 146 [fmD f,fmD q,iD op,tmD t] [bD (qcv f q op t)]:=λf q op ho hq hs=>zul f q op t λe=>by
  have hp:q.parts≠[]:=λhn=>by
   have:=(zgy hq).2.2 (by rw[e];exact ho);rw[hn]at this;cases this
  exact⟨hp,quj q t hq hs hp⟩
 rcases zwe (r:=r) Y0 with h|h|h|h|h|h|h|h|h|h|h|h|h|h|h|h|h|h<;>subst h
 ·obtain rfl:=Kn (n0 (Or.inl rfl));exact qbq c l t
 ·obtain rfl:=Kn (n0 (Or.inr rfl));exact qbc c l t
 ·obtain⟨p0,rfl⟩:=zgv (n1 (by decide));exact qbf c l t p0
 ·obtain⟨p0,rfl⟩:=zgv (n1 (by decide));exact qcg c l t p0
 ·obtain⟨p0,p1,rfl⟩:=zp9 (n2 (by decide));exact qbl c l t p0 p1
 ·obtain⟨p0,rfl⟩:=zgv (n1 (by decide));exact qal c l t p0 λe=>(zgy (hf p0 (Kb ..))).2.1 (Or.inl e)
 ·obtain⟨p0,rfl⟩:=zgv (n1 (by decide));exact qar c l t p0 λe=>(zgy (hf p0 (Kb ..))).2.1 (Or.inl e)
 ·obtain⟨p0,rfl⟩:=zgv (n1 (by decide));exact qaw c l t p0 λe=>ac2 (Or.inr (Or.inl e))
 ·obtain⟨p0,rfl⟩:=zgv (n1 (by decide));exact qb0 c l t p0 λe=>ac2 (Or.inr (Or.inl e))
 ·obtain⟨p0,p1,p2,rfl⟩:=lnn3 (n3 (by decide));exact zvm c l t p0 p1 p2
 ·obtain⟨p0,rfl⟩:=zgv (n1 (by decide));exact zxe c l t p0 λe=>ac2 (Or.inr (Or.inr e))
 ·obtain⟨p0,p1,rfl⟩:=zp9 (n2 (by decide));exact zw8 c l t p0 p1
 ·obtain⟨p0,rfl⟩:=zgv (n1 (by decide));exact zvb c l t p0
 ·obtain⟨p0,p1,rfl⟩:=zp9 (n2 (by decide));exact zvw c l t p0 p1
 ·obtain⟨p0,rfl⟩:=zgv (n1 (by decide));exact zwn c l t p0 _ (hI _ _ 8 (Or.inl rfl) (zbp h2) hcw)
 ·obtain⟨p0,rfl⟩:=zgv (n1 (by decide));exact zwi c l t p0 _ (hI _ _ 8 (Or.inl rfl) (hf p0 (Kb ..)) (hqw p0 (Kb ..)))
 ·obtain⟨p0,rfl⟩:=zgv (n1 (by decide));exact zwh c l t p0 _ (hI _ _ 9 (Or.inr rfl) (zbp h2) hcw)
 ·obtain⟨p0,p1,rfl⟩:=zp9 (n2 (by decide));have hp:p0.form.op=9->p0.form.parts≠[]:=λho hn=>by
   have:=(zgy (hf p0 (Kb ..))).2.2 (Or.inr ho);rw[hn]at this;cases this
  exact zu8 c l t p0 p1 (λho=>Nat.pos_of_ne_zero λh=>hp ho (Kn h)) _ _ λho=>by
   have HU:=quj p0.form t (hf p0 (Kb ..)) (hqw p0 (Kb ..)) (hp ho);rw[zkl]at HU;exact HU
end
section
open Go.RowKit
theorem zfi {p:Nt}{sh:Bool}(h:stI p sh=true):zbd p.rule=(p.parts.length:Int)/\p.form.good=true/\zer p.rule=inB p.label 1 20/\(zer p.rule=false->p.label=0)/\(if inB p.rule 15 18=true then p.term.good else p.term.none)=true/\sh=true:=by
 unfold stI at h
 simp only[Qb,Q9]at h
 obtain⟨h1,h2,h3,h4,h5,h6⟩:=h
 refine⟨h1,h2,h3,λe=>?_,h5,h6⟩
 rw[e,K0]at h4
 simpa using h4
theorem zst (p:Nt)(hw:Fit p)(hs:stI p (shI p)=true)(hf:∀q∈p.parts,q.form.forms=true)(i:Nat)(hi:i<p.parts.length)(hd:za2 p.rule i=true):RC Tryz.prog 124 [ntD p,iD i] [fmD (zu0 p i)]:=by
 obtain⟨h1,h2,h3,h4,h5,h6⟩:=zfi hs
 obtain⟨r,c,l,t,ps⟩:=p
 have hwe:c.wt+t.wt+ps.length<=1048576:=hw.own
 have hwp:∀q∈ps,q.form.wt+t.wt<=1048576:=hw.part
 have hf:∀q∈ps,q.form.forms=true:=hf
 have hi:i<ps.length:=hi
 have h1:zbd r=(ps.length:Int):=h1
 have h2:c.good=true:=h2
 have hd:za2 r i=true:=hd
 obtain⟨ac4,ac2,ac1⟩:=zgy (zbp h2)
 obtain⟨n0,n2,n3,n1⟩:=zf6 h1
 have hr:r=4\/r=11\/r=13\/(r=10/\0<i)\/(r=18/\0<i):=by
  unfold za2 at hd;split at hd
  ·rename_i e;simp only[K1,Q9]at e;omega
  ·split at hd
   ·rename_i e;simp only[K1,Q9]at e;simp only[Q2]at hd;omega
   ·cases hd
 rcases hr with h|h|h|⟨h,h0⟩|⟨h,h0⟩<;>subst h
 ·obtain⟨p0,rfl⟩:=zgv (n1 (by decide));exact ztm c l t p0 i
 ·obtain⟨p0,rfl⟩:=zgv (n1 (by decide));have e:c.op=7:=by
   have h6:(c.op==7&&same (c.parts.getD 1 (mkF 0 [])) p0.form)=true:=h6;rw[Qb,Q9]at h6;exact h6.1
  exact zjb c l t p0 i 11 (Or.inl rfl) (by rw[ac2 (Or.inr (Or.inr e))];omega)
 ·obtain⟨p0,rfl⟩:=zgv (n1 (by decide));have e:c.op=4:=by
   have h6:(c.op==4&&p0.form.op==2)=true:=h6;rw[Qb,Q9]at h6;exact h6.1
  exact zjb c l t p0 i 13 (Or.inr rfl) (by rw[ac4 e];omega)
 ·obtain⟨p0,p1,p2,rfl⟩:=lnn3 (n3 (by decide));have e:p0.form.op=6:=by
   have h6:(p0.form.op==6&&same p1.form c&&same p2.form c)=true:=h6;rw[Qb,Qb,Q9]at h6;exact h6.1.1
  obtain⟨j,rfl⟩:∃j,i=j+1:=⟨i-1,Y0⟩;have hi:j+1<3:=hi;exact zqz c l t p0 p1 p2 j Y0 ((zgy (hf p0 (Kb ..))).2.1 (Or.inr (Or.inl e)))
 ·obtain⟨p0,p1,rfl⟩:=zp9 (n2 (by decide));have e:p0.form.op=9:=by
   have h6:(p0.form.op==9&&za9 t.name&&((sbs p0.form t).2&&same p1.form c))=true:=h6;rw[Qb,Qb,Q9]at h6;exact h6.1.1
  have hl:=(zgy (hf p0 (Kb ..))).2.2 (Or.inr e);have hp:p0.form.parts≠[]:=λhn=>by rw[hn]at hl;cases hl
  have e1:=hwp p0 (Kb ..);have HU:=quj p0.form t (hf p0 (Kb ..)) Y0 hp;rw[zkl]at HU;exact zp5 c l t p0 p1 i Y0 _ _ HU
def okA (out:List An):Prop:=aNd out/\∀a∈out,okF a.form/\1<=a.label/\a.label<=20
theorem znn:okA []:=⟨by simp[aNd],λa ha=>by cases ha⟩
theorem qu2:∀(n:Nat)(xs:List Int),xs.Nodup->(∀x∈xs,1<=x/\x<=n)->xs.length<=n
 | 0,xs,_,h=>by
  cases xs with
  | nil=>exact Qz _
  | cons x xs=>have:=h x (by simp);omega
 | n+1,xs,hn,h=>by
  by_cases hm:((n+1:Nat):Int)∈xs
  ·have h1:=qu2 n (xs.erase ((n+1:Nat):Int)) (hn.erase _) λx hx=>by
    obtain⟨h2,h3⟩:=(hn.mem_erase_iff).1 hx;have:=h x h3;omega
   rw[List.length_erase_of_mem hm]at h1;omega
  ·have:=qu2 n xs hn λx hx=>by
    have h2:=h x hx;have h3:x≠((n+1:Nat):Int):=λe=>hm (e▸hx);omega
   omega
theorem zmj {out:List An}(h:okA out):out.length<=20:=by
 have:=qu2 20 (out.map An.label) h.1 λk hk=>by
  obtain⟨a,ha,rfl⟩:=Ka.1 hk;obtain⟨_,h2,h3⟩:=h.2 a ha;exact⟨h2,h3⟩
 simpa using this
theorem zyn {x y:List An}(h:x.Perm y)(hx:okA x):okA y:=⟨zfj h hx.1,λa ha=>hx.2 a (h.mem_iff.2 ha)⟩
theorem zht {x:List An}(hx:okA x)(q:An->Bool):okA (x.filter q):=⟨zjz hx.1 q,λa ha=>hx.2 a (Jq.1 ha).1⟩
theorem zvt {x y:List An}(hx:okA x)(hy:okA y):okA (mrg x y):=by
 refine⟨qqu hx.1 hy.1,λa ha=>?_⟩
 unfold mrg at ha
 rcases Qw.1 ha with h|h
 ·exact hx.2 a h
 ·exact hy.2 a (Jq.1 h).1
theorem qii {l:Int}{d:Nat->Bool}{dis:Nat->Fm}:∀{Ls:List (List An)}{i:Nat}{out r:List An},okA out->(∀own∈Ls,okA own)->opM l d dis i out Ls=some r->okA r
 | [],_,_,_,h,_,e=>by unfold opM at e;cases e;exact h
 | own::Ls,i,out,r,h,hL,e=>by
  unfold opM at e;split at e
  ·exact qii (zvt h (zht (hL own (by simp)) _)) (λo ho=>hL o (by simp[ho])) e
  ·cases e
theorem zyv {p:Nt}{x y:List An}(h:x.Perm y):nwI p x=nwI p y:=by
 unfold nwI
 rw[zqx h]
theorem qvq (p:Nt)(hw:Fit p)(hs:stI p (shI p)=true)(hf:∀q∈p.parts,q.form.forms=true)(ags:List An)(hok:okA ags):FC Tryz.prog 125 [ntD p,.one (anM ags)] [bD (nwI p ags)]:=by
 obtain⟨h1,h2,h3,h4,h5,h6⟩:=zfi hs
 obtain⟨r,c,l,t,ps⟩:=p
 have hwe:c.wt+t.wt+ps.length<=1048576:=hw.own
 have hwp:∀q∈ps,q.form.wt+t.wt<=1048576:=hw.part
 have hf:∀q∈ps,q.form.forms=true:=hf
 have h1:zbd r=(ps.length:Int):=h1
 have h2:c.good=true:=h2
 obtain⟨n0,n2,n3,n1⟩:=zf6 h1
 have hl:=zmj hok
 by_cases h15:r=15
 ·subst h15;obtain⟨p0,rfl⟩:=zgv (n1 (by decide));exact qnl c l t p0 ags Y0 ⟨zbp h2,Y0⟩ λa ha=>(hok.2 a ha).1
 ·by_cases h18:r=18
  ·subst h18;obtain⟨p0,p1,rfl⟩:=zp9 (n2 (by decide));have e1:=hwp p0 (Kb ..);exact qmf c l t p0 p1 ags Y0 ⟨zbp h2,Y0⟩ ⟨hf p0 (Kb ..),Y0⟩ λa ha=>(hok.2 a ha).1
  ·have:=qmu (.mk r c l t ps) ags h15 h18;have e:nwI (.mk r c l t ps) ags=true:=by
    unfold nwI;rw[if_neg (show ¬(Nt.mk r c l t ps).rule=15 from h15),if_neg (show ¬(Nt.mk r c l t ps).rule=18 from h18)]
   rw[e];exact this
noncomputable def opR (p:Nt)(Ls:List (List An)):Option (List An) :=
 if stI p (shI p)=true then (if p.rule=1 then some [⟨p.label,p.form⟩]else (opN p Ls (zu0 p) 0 []).bind λout=>if nwI p (zff p Ls Ls.length)=true then some out else none)else none
theorem qco {p:Nt}{Ls:List (List An)}(h:∀own∈Ls,okA own):∀i,okA (zff p Ls i)
 | 0=>znn
 | i+1=>by
  refine zht ?_ _;rw[List.getD_eq_getElem?_getD];cases hg:Ls[i]? with
  | none=>exact znn
  | some own=>exact h own (List.mem_of_getElem? hg)
theorem opR_ok {p:Nt}{Ls:List (List An)}{out:List An}(hw:Fit p)(h:∀own∈Ls,okA own)(e:opR p Ls=some out):okA out:=by
 unfold opR at e
 split at e
 ·rename_i hs;obtain⟨h1,h2,h3,h4,h5,h6⟩:=zfi hs;split at e
  ·rename_i hr;cases e;refine⟨by simp[aNd],λa ha=>?_⟩;rw[Q4]at ha;subst ha;have:=hw.own;rw[hr]at h3;have h3:true=inB p.label 1 20:=h3;have h3:=h3.symm;simp only[inB,Qb,Q2]at h3;exact⟨⟨zbp h2,by show p.form.wt<=_;omega⟩,h3.1,h3.2⟩
  ·obtain⟨o,ho,e⟩:=Qf.1 e;split at e
   ·cases e;exact qii znn h ho
   ·cases e
 ·cases e
theorem open_c (p:Nt)(Ls:List (List An))(hw:Fit p)(hf:∀q∈p.parts,q.form.forms=true)(hl:Ls.length=p.parts.length)(hok:∀own∈Ls,okA own) :
  RX Tryz.prog 94 [ntD p,.one (lsS Ls)] (λres=>(opR p Ls=none/\∃x,res=[.one x,bD false])\/∃out ags,opR p Ls=some out/\ags.Perm out/\res=[.one (anM ags),bD true]):=by
 cases hs:stI p (shI p)
 ·refine(qm2 p Ls (shI p) hw (λh=>zpb p hw h hf) hs).mono λr hr=>Or.inl ⟨?_,_,hr⟩;unfold opR;rw[hs];rfl
 ·obtain⟨s1,s2,s3,s4,s5,s6⟩:=zfi hs;have hst:stI p true=true:=by rw[s6]at hs;exact hs
  have HSh:=zpb p hw hst hf;rw[s6]at HSh;have hwe:=hw.own;by_cases h1:p.rule=1
  ·refine(open_1 p Ls s1 s2 s3 s4 hw s5 HSh h1).mono λr hr=>Or.inr ⟨[⟨p.label,p.form⟩],_,?_,Jr _,hr⟩;unfold opR;rw[hs,if_pos rfl,if_pos h1]
  ·refine(qt0 p Ls s1 s2 s3 s4 hw s5 HSh (by simpa using h1) (zu0 p) (λi hi hd=>zst p hw hs hf i Y0 hd) (λown ho=>(hok own ho).1) Y0 (nwI p (zff p Ls Ls.length)) (λleft' hp=>by
    rw[<-zyv hp]
    exact qvq p hw hs hf left' (zyn hp.symm (qco hok _)))).mono λr hr=>?_
   rcases hr with⟨h2,rfl⟩|⟨out,ags,h2,h3,h4,rfl⟩
   ·refine Or.inl ⟨?_,_,rfl⟩;unfold opR;rw[hs,if_pos rfl,if_neg h1,h2];rfl
   ·cases hn:nwI p (zff p Ls Ls.length)
    ·refine Or.inl ⟨?_,_,rfl⟩;unfold opR;rw[hs,if_pos rfl,if_neg h1,h2];show(if nwI p (zff p Ls Ls.length)=true then _ else _)=_
     rw[hn];rfl
    ·refine Or.inr ⟨out,ags,?_,h4,rfl⟩;unfold opR;rw[hs,if_pos rfl,if_neg h1,h2];show(if nwI p (zff p Ls Ls.length)=true then _ else _)=_
     rw[hn];rfl
end
section
open Go.RowKit
noncomputable def goR (p:Nt):Nat->List (Sum (List Int) (List An))->List (List An)->Sum (List Int) (List An)
 | _,[],acc=>match opR p acc with|none=>.inl []|some out=>.inr out
 | i,.inl pos::_,_=>.inl ((i:Int)::pos)
 | i,.inr own::rs,acc=>goR p (i+1) rs (acc++[own])
noncomputable def zle:Nt->Sum (List Int) (List An):=Nt.fold λr f l t ps rs=>goR (.mk r f l t ps) 0 rs []
theorem zm4 (p:Nt):zle p=goR p 0 (p.parts.map zle) []:=by
 unfold zle
 rw[Nt.fold_eq,Nt.eta]
theorem qrc {p:Nt}(hw:Fit p):∀(rs:List (Sum (List Int) (List An)))(i:Nat)(acc:List (List An))(out:List An),(∀own∈acc,okA own)->(∀o,.inr o∈rs->okA o)->goR p i rs acc=.inr out->okA out/\p.form.good=true
 | [],i,acc,out,ha,hr,e=>by
  unfold goR at e;cases ho:opR p acc with
  | none=>rw[ho]at e;cases e
  | some o =>
   rw[ho]at e;cases e;refine⟨opR_ok hw ha ho,?_⟩;unfold opR at ho;split at ho
   ·rename_i hs;exact(zfi hs).2.1
   ·cases ho
 | .inl pos::rs,i,acc,out,ha,hr,e=>by unfold goR at e;cases e
 | .inr own::rs,i,acc,out,ha,hr,e=>by
  unfold goR at e
  exact qrc hw rs (i+1) _ out (λo ho=>by
   rcases Qw.1 ho with h|h
   ·exact ha o h
   ·rw[Q4.1 h];exact hr own (by simp)) (λo ho=>hr o (by simp[ho])) e
theorem zfu {a x:Nt}(h:x∈a.parts):x.wt+1<=a.wt:=by
 have:=a.wt_eq
 have:=zbz Nt.wt a.parts x h
 have:0<a.parts.length:=List.length_pos_iff_exists_mem.2 ⟨x,h⟩
 omega
theorem qv0:∀(p:Nt),Fit p->∀out,zle p=.inr out->okA out/\p.form.good=true :=
 zbu λr f l t ps ih hw out e=>by
  rw[zm4]at e
  exact qrc hw _ _ _ _ (λo ho=>by cases ho) (λo ho=>by
   obtain⟨q,hq,he⟩:=Ka.1 ho
   exact(ih q hq (hw.sub q hq) o he).1) e
theorem qi2 {p:Nt}:∀(rs:List (Sum (List Int) (List An)))(i:Nat)(acc:List (List An))(pos:List Int)(n:Nat),(∀o,.inl o∈rs->o.length+1<=n)->goR p i rs acc=.inl pos->pos.length<=n
 | [],i,acc,pos,n,h,e=>by
  unfold goR at e;split at e
  ·cases e;exact Kc _
  ·cases e
 | .inl q::rs,i,acc,pos,n,h,e=>by unfold goR at e;cases e;exact h q (by simp)
 | .inr own::rs,i,acc,pos,n,h,e=>by
  unfold goR at e;exact qi2 rs (i+1) _ pos n (λo ho=>h o (by simp[ho])) e
theorem ql6:∀(p:Nt)(pos:List Int),zle p=.inl pos->pos.length<=p.wt :=
 zbu λr f l t ps ih pos e=>by
  rw[zm4]at e
  exact qi2 _ _ _ _ _ (λo ho=>by
   obtain⟨q,hq,he⟩:=Ka.1 ho;have:=zfu (a:=.mk r f l t ps) hq;have:=ih q hq o he
   omega) e
theorem qae {α:Type}{xs ys:List α}(h:xs.Perm ys)(p:α->Bool):xs.all p=ys.all p:=by
 rw[Kp,Qq,Qq]
 exact⟨λh1 x hx=>h1 x (h.mem_iff.2 hx),λh1 x hx=>h1 x (h.mem_iff.1 hx)⟩
inductive PermL:List (List An)->List (List An)->Prop
 | nil:PermL [] []
 | cons {a b:List An} {as1 bs:List (List An)}:a.Perm b->PermL as1 bs->PermL (a::as1) (b::bs)
theorem PermL.snoc {as1 bs:List (List An)}{a b:List An}(h:PermL as1 bs)(k:a.Perm b):PermL (as1++[a]) (bs++[b]):=by
 induction h with
 | nil=>exact .cons k .nil
 | cons h1 _ ih=>exact .cons h1 ih
theorem PermL.len {as1 bs:List (List An)}(h:PermL as1 bs):as1.length=bs.length:=by
 induction h with
 | nil=>rfl
 | cons _ _ ih=>simp[ih]
theorem PermL.at {as1 bs:List (List An)}(h:PermL as1 bs):∀i,(as1.getD i []).Perm (bs.getD i []):=by
 induction h with
 | nil=>intro i;exact Jr _
 | cons h1 _ ih=>intro i;cases i with|zero=>exact h1|succ i=>exact ih i
theorem PermL.ok {as1 bs:List (List An)}(h:PermL as1 bs)(hb:∀own∈bs,okA own):∀own∈as1,okA own:=by
 induction h with
 | nil=>intro o ho;cases ho
 | cons h1 _ ih =>
  intro o ho;rcases Qu.1 ho with rfl|ho
  ·exact zyn h1.symm (hb _ (by simp))
  ·exact ih (λo ho=>hb o (by simp[ho])) o ho
theorem zys {l:Int}{d:Nat->Bool}{dis:Nat->Fm}{as1 bs:List (List An)}(h:PermL as1 bs):∀(i:Nat)(out' out:List An),out'.Perm out->okA out->(∀own∈bs,okA own)->(opM l d dis i out' as1=none/\opM l d dis i out bs=none)\/∃r r',opM l d dis i out' as1=some r'/\opM l d dis i out bs=some r/\r'.Perm r:=by
 induction h with
 | nil=>intro i out' out hp _ _;exact Or.inr ⟨out,out',rfl,rfl,hp⟩
 | @cons a b as1 bs h1 _ ih =>
  intro i out' out hp ho hb;have hl:(lft a l (d i)).Perm (lft b l (d i)):=h1.filter _;have hn':aNd out':=zfj hp.symm ho.1;have e1:zve a l (d i) (dis i)=zve b l (d i) (dis i):=qae h1 _;have e2:zr2 out' (lft a l (d i))=zr2 out (lft b l (d i)):=by
   unfold zr2;rw[qae hl];refine congrArg _ (funext λx=>?_);rw[zhc hp hn']
  have hob:=hb b (by simp);unfold opM;rw[e1,e2];split
  ·exact ih (i+1) _ _ (zz7 hp hn' hl) (zvt ho (zht hob _)) λo ho=>hb o (by simp[ho])
  ·exact Or.inl ⟨rfl,rfl⟩
theorem zri {p:Nt}{as1 bs:List (List An)}(h:PermL as1 bs)(hb:∀own∈bs,okA own):(opR p as1=none/\opR p bs=none)\/∃r r',opR p as1=some r'/\opR p bs=some r/\r'.Perm r:=by
 unfold opR
 split
 ·split
  ·exact Or.inr ⟨_,_,rfl,rfl,Jr _⟩
  ·have hla:(zff p as1 as1.length).Perm (zff p bs bs.length):=by
    rw[h.len];cases bs.length with
    | zero=>exact Jr _
    | succ n=>exact(h.at n).filter _
   rw[zyv hla];rcases zys (l:=p.label) (d:=λi=>za2 p.rule i) (dis:=zu0 p) h 0 [] [] (Jr _) znn hb with⟨e1,e2⟩|⟨r,r',e1,e2,e3⟩
   ·left;unfold opN;simp only[J9];rw[e1,e2];exact⟨rfl,rfl⟩
   ·unfold opN;simp only[J9];rw[e1,e2];simp only[Kj];split
    ·exact Or.inr ⟨r,r',rfl,rfl,e3⟩
    ·exact Or.inl ⟨rfl,rfl⟩
 ·exact Or.inl ⟨rfl,rfl⟩
end
section
open Go.RowKit
def insK (m:Sum (List Int) (List An))(res:List D):Prop:=match m with
 | .inl pos=>res=[.one .nmp,.one (ze2 pos),bD false]
 | .inr out=>∃ags,ags.Perm out/\res=[.one (anM ags),.one (.sl 1 []),bD true]
theorem qr1:∀l:List Int,flR (l.map λs=>[T.int .i64 s])=true
 | []=>rfl
 | a::l=>by rw[Qc];unfold flR;rw[qr1 l];rfl
theorem qbz (p:Nt)(hw:Fit p)(H:∀x∈p.parts,RX Tryz.prog 54 [ntD x] (insK (zle x))):RX Tryz.prog 54 [ntD p] (insK (zle p)):=by
 have hl:p.parts.length<=1048576:=by have:=hw.own;omega
 have HO:=open_c p
 simp only[ntD,zac p]at HO⊢
 refine zow Tryz.call54 Tryz.func54 rfl (zao Yz) ?_
 refine zci.ofEx Yz ?_
 simp -implicitDefEqProofs only[go_sem,Tryz.results54]
 refine zde Yy ?_
 refine Y1 ?_
 refine zah (λx:Nat×List (List An)=>hd [(1,.one (.bx 1 0)),(5,.one (.ow 416 0)),(15,.one (.rn (ntS p.parts))),(16,vI p.parts.length),(17,vI x.1)] [(1,ntR p)] [(416,⟨false,1,x.2.map λags=>[anM ags],0,true⟩)])
  (λx=>x.1<=p.parts.length/\x.2.length=x.1/\∃acc,zle p=goR p x.1 ((p.parts.drop x.1).map zle) acc/\PermL x.2 acc/\(∀own∈acc,okA own)/\∀q∈p.parts.take x.1,q.form.forms=true) (λx=>p.parts.length-x.1) (0,[]) (zad ?_) ?_ ?_
 ·simp -implicitDefEqProofs only[go_sem,Qa]
 ·exact⟨Kc _,rfl,[],zm4 p,.nil,(λo ho=>by cases ho),λq hq=>by cases hq⟩
 ·rintro⟨k,Ls⟩ ⟨hk,hlk,acc,hm,hp,hok,hf⟩;simp only at hk hlk hm hp hf⊢;by_cases hlt:k<p.parts.length
  ·have hmem:p.parts[k]∈p.parts:=Qk hlt;have Hk:=H _ hmem;have hqw:=zfu hmem;have hwa:=hw.all;have hio:=qv0 p.parts[k] (hw.sub _ hmem);have hil:=ql6 p.parts[k];rw[Qm hlt,Qc]at hm;have htk:p.parts.take (k+1)=p.parts.take k++[p.parts[k]]:=Qn hlt;simp -implicitDefEqProofs only[go_sem,zaj,hlt,zac p.parts[k],Qa];generalize hq:p.parts[k]=q at *;simp only[ntD,zac q]at Hk;refine zx7 Hk Yy ?_;intro res hres;cases hi:zle q with
   | inl pos =>
    rw[hi]at hres hm;have hres:res=[.one .nmp,.one (ze2 pos),bD false]:=hres;subst hres;have hpl:=hil pos hi;have hpl2:1+pos.length<=4294967296:=by omega
    have hfl:=qr1 pos;refine Zn ?_;refine zbg Yy ?_;refine Y1 ?_;refine apD true (by simp -implicitDefEqProofs only[go_sem,ne_eq,Kh,Qa,hpl2,hfl]) ?_;simp -implicitDefEqProofs only[go_sem,ne_eq,Kh,Qa,hpl2,hfl];refine⟨[.one .nmp,.one (ze2 ((k:Int)::pos)),bD false],?_,?_⟩
    ·rw[hm];rfl
    ·simp -implicitDefEqProofs only[go_sem,Qc]
   | inr out =>
    rw[hi]at hres hm;obtain⟨ags,hperm,rfl⟩:=hres;obtain⟨ho1,ho2⟩:=hio out hi;refine Y7 ?_;refine zde Yy ?_;refine Y1 ?_;have hkl:Ls.length<=4294967295:=by omega
    refine apD false (Xo hkl) ?_;refine Xp hkl ?_;rw[zaq Y0];refine⟨(k+1,Ls++[ags]),⟨hlt,by simp[hlk],acc++[out],hm,hp.snoc hperm,λo ho=>?_,λx hx=>?_⟩,by simp only;omega,zad ?_⟩
    ·rcases Qw.1 ho with h|h
     ·exact hok o h
     ·rw[Q4.1 h];exact ho1
    ·rw[htk]at hx;rcases Qw.1 hx with h|h
     ·exact hf x h
     ·rw[Q4.1 h];exact zbp ho2
    ·simp -implicitDefEqProofs only[go_sem,Q1,Qc,Qi]
  ·have hke:k=p.parts.length:=by omega
   subst hke;rw[K8]at hf;have HO':=HO Ls hw hf hlk (hp.ok hok);have hm2:zle p=match opR p acc with|none=>.inl []|some out=>.inr out:=by
    rw[hm,List.drop_length];rfl
   refine Vd ?_;refine frzS 416 rfl rfl ?_;refine Y1 ?_;refine zx7 HO' Yy ?_;intro res hres;rcases hres with⟨h1,x,rfl⟩|⟨out,ags,h1,h2,rfl⟩
   ·have e2:opR p acc=none:=by
     rcases zri (p:=p) hp hok with⟨_,e⟩|⟨r,r',e1,_⟩
     ·exact e
     ·rw[e1]at h1;cases h1
    rw[e2]at hm2;refine Zn ?_;refine zde Yy ?_;refine Y1 ?_;refine⟨[.one .nmp,.one (ze2 []),bD false],?_,?_⟩
    ·rw[hm2];rfl
    ·exact X6
   ·obtain⟨r,e2,e3⟩:∃r,opR p acc=some r/\ags.Perm r:=by
     rcases zri (p:=p) hp hok with⟨e,_⟩|⟨r,r',e1,e2,e3⟩
     ·rw[e]at h1;cases h1
     ·rw[e1]at h1;cases h1;exact⟨r,e2,h2.trans e3⟩
    rw[e2]at hm2;refine Y7 ?_;refine⟨[.one (anM ags),.one (.sl 1 []),bD true],?_,?_⟩
    ·rw[hm2];exact⟨ags,e3,rfl⟩
    ·exact Yy
theorem qkk:∀p:Nt,Fit p->RX Tryz.prog 54 [ntD p] (insK (zle p)) :=
 zbu λr f l t ps ih hw=>qbz (.mk r f l t ps) hw λx hx=>ih x hx (hw.sub x hx)
end
section
open Go.RowKit
noncomputable def fwI (p:Nt):List Int×Bool×Bool:=if zfa p>60 then ([],false,false)else match zle p with|.inl pos=>(pos,true,true)|.inr _=>([],false,true)
theorem zlc (p:Nt)(hw:Fit p):RC Tryz.prog 17 [ntD p] [.one (ze2 (fwI p).1),bD (fwI p).2.1,bD (fwI p).2.2]:=by
 have HN:=zn9 p (by have:=hw.all;omega)
 have HI:=qkk p hw
 unfold fwI
 simp only[ntD,zac p]at HN HI⊢
 by_cases hs:zfa p>60
 ·rw[if_pos hs];refine zcb Tryz.call17 Tryz.func17 rfl Yz (zao Yz) ?_;simp -implicitDefEqProofs only[go_sem,Tryz.results17];refine callF (HN) (Y9 hs decide_true) ?_;exact Y9 hs decide_true
 ·rw[if_neg hs];cases hi:zle p with
  | inl pos =>
   rw[hi]at HI;refine zcb Tryz.call17 Tryz.func17 rfl Yz (zao Yz) ?_;simp -implicitDefEqProofs only[go_sem,Tryz.results17];refine callF (HN) Vu ?_;simp -implicitDefEqProofs only[go_sem,hs,Yq];refine zx7 HI Yy ?_;rintro res rfl;exact Zo
  | inr out =>
   rw[hi]at HI;refine zcb Tryz.call17 Tryz.func17 rfl Yz (zao Yz) ?_;simp -implicitDefEqProofs only[go_sem,Tryz.results17];refine callF (HN) Vu ?_;simp -implicitDefEqProofs only[go_sem,hs,Yq];refine zx7 HI Yy ?_;rintro res ⟨ags,hp,rfl⟩;refine Y7 ?_;rfl
noncomputable def zeg (p:Nt):Bool:=!decide (zfa p>60)&&(match zle p with|.inl _=>false|.inr _=>true)
theorem qvp (p:Nt):zeg p=((fwI p).2.2&&!(fwI p).2.1):=by
 unfold zeg fwI
 by_cases hs:zfa p>60
 ·simp[hs]
 ·simp only[hs,Yq,Qj,Qv,if_false];cases zle p<;>rfl
theorem zk7 (p:Nt)(hw:Fit p):RC Tryz.prog 14 [ntD p] [bD (zeg p)]:=by
 have HF:=zlc p hw
 rw[qvp]
 generalize fwI p=r at HF⊢
 obtain⟨r1,r2,r3⟩:=r
 simp only[ntD,zac p]at HF⊢
 cases r3
 ·refine zcb Tryz.call14 Tryz.func14 rfl Yz (zao Yz) ?_;simp -implicitDefEqProofs only[go_sem,Tryz.results14];refine callR (HF) Yy ?_;exact Yy
 ·refine zcb Tryz.call14 Tryz.func14 rfl Yz (zao Yz) ?_;simp -implicitDefEqProofs only[go_sem,Tryz.results14];refine callR (HF) Yy ?_;exact Yy
end
section
open Go.RowKit
noncomputable def puS:List An->An->List An×Bool
 | [],x=>([x],true)
 | a::l,x=>if a.label<x.label then (a::(puS l x).1,(puS l x).2)else if a.label=x.label then (a::l,same a.form x.form)else (x::a::l,true)
theorem puS_at (l:List An)(x:An)(i:Nat)(hi:i<=l.length)(h:∀a∈l.take i,a.label<x.label):puS l x=(l.take i++(puS (l.drop i) x).1,(puS (l.drop i) x).2):=by
 induction l generalizing i with
 | nil=>simp
 | cons a l ih =>
  cases i with
  | zero=>simp
  | succ i =>
   have h0:=h a (by simp);have:=ih i (by simpa using hi) λb hb=>h b (by simp[hb]);rw[puS,if_pos h0];rw[List.take_succ_cons,Yc];rw[this];simp
theorem qmq (l:List An)(x:An)(hl:l.length<=1048576):RC Tryz.prog 91 [.one (anS l),anD x] [.one (anS (puS l x).1),bD (puS l x).2]:=by
 simp only[anD,zd7 x]
 refine zcb Tryz.call91 Tryz.func91 rfl Yz (zao Yz) ?_
 simp -implicitDefEqProofs only[go_sem,Tryz.results91]
 refine zah (λk:Nat=>hd [(0,vT (anS l)),(3,.one (.bx 3 0)),(6,vI k)] [(3,[.t (.int .i64 x.label),.t (.int .i64 x.form.op),.t (.str x.form.atom.name),.t (tmS x.form.atom.args),.t (.str x.form.var),.t (fmS x.form.parts)])] []) (λk=>k<=l.length/\∀a∈l.take k,a.label<x.label) (λk=>l.length-k) 0 (zad ?_) ⟨Kc _,λa ha=>by cases ha⟩ ?_
 ·exact Yy
 ·intro k ⟨hk,hp⟩;have hpu:=puS_at l x k hk hp;by_cases hlt:k<l.length
  ·rw[Qm hlt,puS]at hpu;by_cases h1:l[k].label<x.label
   ·refine Y1 ?_;refine drawn Yz ?_;simp -implicitDefEqProofs only[go_sem,Qa,zaj,hlt,zd7,h1];refine⟨Yz,?_⟩;rw[zaq Y0];refine⟨k+1,⟨hlt,λa ha=>?_⟩,Y0,zad Yy⟩;rw[Qn hlt]at ha;rcases Qw.1 ha with h|h
    ·exact hp a h
    ·rw[Q4.1 h];exact h1
   ·rw[if_neg h1]at hpu;refine Y1 ?_;refine drawn Yz ?_;simp -implicitDefEqProofs only[go_sem,Qa,zaj,hlt,zd7,h1];refine⟨Yz,?_⟩;refine drawn Yz ?_;by_cases h2:l[k].label=x.label
    ·have h2b:(l[k].label==x.label)=true:=by simpa using h2
     rw[if_pos h2]at hpu;have H:=zc1 l[k].form x.form;generalize same l[k].form x.form=b at H hpu;simp only[fmD,zaa l[k].form,zaa x.form]at H;simp -implicitDefEqProofs only[go_sem,Qa,zaj,hlt,zd7,h2b];refine⟨Yz,?_⟩;refine drawn Yz ?_;simp -implicitDefEqProofs only[go_sem,Qa,zaj,hlt,zd7];refine zai (H) Yy ?_;refine Y1 ?_;refine⟨Yz,?_⟩;have hlk:l.take k++l[k]::l.drop (k+1)=l:=by rw[<-Qm hlt,Jh]
     rw[hpu];exact⟨by rw[hlk],rfl⟩
    ·have h2b:(l[k].label==x.label)=false:=by simpa using h2
     rw[if_neg h2]at hpu;simp -implicitDefEqProofs only[go_sem,Qa,zaj,hlt,zd7,h2b];refine⟨Yz,?_⟩;refine drawn Yz ?_;have hkl:(k:Int)<=(l.length:Int):=by omega
     refine Y6 hkl ?_;refine zld (Y3 hk) ?_;refine Y2 hk ?_;have hm1:0+min k l.length<=4294967296:=by omega
     have hm2:min k l.length<=4294967295:=by omega
     have hm3:min k l.length+1+(l.length-k)<=4294967296:=by omega
     refine zg5 false (by simp -implicitDefEqProofs only[go_sem,ne_eq,Kh,Qa,Qo,hm1]) ?_;simp -implicitDefEqProofs only[go_sem,ne_eq,Kh,Qa,Qo,hm1];refine zld Yy ?_;refine Y1 ?_;refine zg5 false V9 ?_;simp -implicitDefEqProofs only[go_sem,ne_eq,Kh,Qa,Qo,hm2,hkl,hk];refine zg5 false Wa ?_;simp -implicitDefEqProofs only[go_sem,ne_eq,Kh,Qa,Qo,Qy,Qg,Qs,K3,Nat.min_self,hm3];refine⟨Yz,?_⟩;rw[hpu,show l[k]::l.drop (k+1)=l.drop k from(Qm hlt).symm];refine⟨?_,rfl⟩;rw[Qr (show(l.map anC).length<=l.length by simp),Q1,Qc,List.map_take,List.map_drop,zd7 x,Kd];rfl
  ·refine Y1 ?_;refine drawn Yz ?_;refine Y6 hlt ?_;refine⟨Yz,?_⟩;refine drawn Yz ?_;refine Y6 hlt ?_;refine⟨Yz,?_⟩;refine drawn Yz ?_;have hkl:(k:Int)<=(l.length:Int):=by omega
   refine Y6 hkl ?_;refine zld (Y3 hk) ?_;refine Y2 hk ?_;have hm1:0+min k l.length<=4294967296:=by omega
   have hm2:min k l.length<=4294967295:=by omega
   have hm3:min k l.length+1+(l.length-k)<=4294967296:=by omega
   refine zg5 false (by simp -implicitDefEqProofs only[go_sem,ne_eq,Kh,Qa,Qo,hm1]) ?_;simp -implicitDefEqProofs only[go_sem,ne_eq,Kh,Qa,Qo,hm1];refine zld Yy ?_;refine Y1 ?_;refine zg5 false V9 ?_;simp -implicitDefEqProofs only[go_sem,ne_eq,Kh,Qa,Qo,hm2,hkl,hk];refine zg5 false Wa ?_;simp -implicitDefEqProofs only[go_sem,ne_eq,Kh,Qa,Qo,Qy,Qg,Qs,K3,Nat.min_self,hm3];refine⟨Yz,?_⟩;rw[Q0 Y0]at hpu;rw[hpu];refine⟨?_,rfl⟩;rw[Qr (show(l.map anC).length<=l.length by simp),Q0 (show(l.map anC).length<=k by simp;omega),Q1,List.map_take,Ko,puS,Qc,Qi,zd7 x]
end
section
open Go.RowKit
theorem zx3 (op:Int)(a b:Fm):RC Tryz.prog 110 [iD op,fmD a,fmD b] [fmD (mkF op [a,b])]:=by
 have hm:fmC (mkF op [a,b])=[.int .i64 op,.str [],.sl 2 [],.str [],.sl 5 [fmC a,fmC b]]:=zaa _
 simp only[fmD,hm,zaa a,zaa b]
 refine zcb Tryz.call110 Tryz.func110 rfl Yz (zao Yz) ?_
 simp -implicitDefEqProofs only[go_sem,Tryz.results110]
 refine zde Yy ?_
 exact Yy
theorem zx0 (a:Fm):RC Tryz.prog 111 [fmD a] [fmD (mkF 4 [a])]:=by
 have hm:fmC (mkF 4 [a])=[.int .i64 4,.str [],.sl 2 [],.str [],.sl 5 [fmC a]]:=zaa _
 simp only[fmD,hm,zaa a]
 refine zcb Tryz.call111 Tryz.func111 rfl Yz (zao Yz) ?_
 simp -implicitDefEqProofs only[go_sem,Tryz.results111]
 refine zde Yy ?_
 exact Yy
theorem ze8 (p:Nt)(i:Nat):RC Tryz.prog 108 [ntD p,iD i] [fmD ((p.parts.map Nt.form).getD i zF)]:=by
 by_cases hi:i<p.parts.length
 ·rw[show(p.parts.map Nt.form).getD i zF=p.parts[i].form by rw[List.getD_eq_getElem?_getD,List.getElem?_map,List.getElem?_eq_getElem hi];rfl];simp only[ntD,zac p,fmD,zaa p.parts[i].form];refine zcb Tryz.call108 Tryz.func108 rfl Yz (zao Yz) ?_;simp -implicitDefEqProofs only[go_sem,Tryz.results108];simp -implicitDefEqProofs only[go_sem,hi,Qa,zaj,zac p.parts[i]]
 ·rw[show(p.parts.map Nt.form).getD i zF=zF by rw[List.getD_eq_getElem?_getD,List.getElem?_eq_none (by simp;omega)];rfl];have hm:fmC zF=[.int .i64 0,.str [],.sl 2 [],.str [],.sl 5 []]:=zaa _;simp only[ntD,zac p,fmD,hm];refine zcb Tryz.call108 Tryz.func108 rfl Yz (zao Yz) ?_;simp -implicitDefEqProofs only[go_sem,Tryz.results108];exact Xq hi
theorem qa4 (l:List An)(n:Str)(hok:∀a∈l,okF a.form)(hl:l.length<=1048576):FC Tryz.prog 90 [.one (anS l),sD n] [bD (l.all λa=>!frN n a.form)]:=by
 refine zae Tryz.call90 Tryz.func90 rfl Yz (zao Yz) ?_
 simp -implicitDefEqProofs only[go_sem,Tryz.results90]
 refine zah (λk:Nat=>hd [(0,vT (anS l)),(1,.one (.t (.str n))),(5,vI k)] [] []) (λk=>k<=l.length/\∀a∈l.take k,frN n a.form=false) (λk=>l.length-k) 0 (zad ?_) ⟨Kc _,λa ha=>by cases ha⟩ ?_
 ·exact Yy
 ·intro k ⟨hk,hp⟩;by_cases hlt:k<l.length
  ·have hm:l[k]∈l:=Qk hlt;obtain⟨g1,g2⟩:=hok _ hm;have H1:=zlo l[k].form g1 g2;have H2:=zpt (zbk [] (vf l[k].form [])) n;have hfr:frN n l[k].form=(zbk [] (vf l[k].form [])).contains n:=rfl;generalize zbk [] (vf l[k].form [])=xs at H1 H2 hfr;simp only[fmD,zaa l[k].form]at H1;refine Zi hlt (zd7 l[k]) ?_;refine callF (H1) Yy ?_;refine Y1 ?_;cases hc:xs.contains n
   ·rw[hc]at H2 hfr;refine callF (H2) Yy ?_;refine Y1 ?_;rw[zaq Y0];refine⟨k+1,⟨hlt,λa ha=>?_⟩,Y0,zad Yy⟩;rw[Qn hlt]at ha;rcases Qw.1 ha with h|h
    ·exact hp a h
    ·rw[Q4.1 h];exact hfr
   ·rw[hc]at H2 hfr;refine callF (H2) Yy ?_;refine Y1 ?_;rw[J5.2 ⟨l[k],hm,by rw[hfr];simp⟩]
  ·refine Y6 hlt ?_;rw[Qr Y0]at hp;rw[Qq.2 λa ha=>by rw[hp a ha];rfl]
end
section
open Go.RowKit
theorem zoy {f q:Fm}(h:f.forms=true)(hm:q∈f.parts):q.forms=true:=by
 rw[Fm.forms_eq,Qb]at h
 exact Qq.1 h.2 q hm
theorem put_c (q:Fm)(t:Tm)(hq:q.forms=true)(hs:q.wt+t.wt<=1048576)(hp:q.parts≠[]):FC Tryz.prog 135 [fmD (q.parts.headD (mkF 0 [])),sD q.var,tmD t] [fmD (pbs q t).1,bD (pbs q t).2]:=by
 cases hps:q.parts with
 | nil=>exact absurd hps hp
 | cons g rest =>
  have hm:g∈q.parts:=by rw[hps];simp
  have hg:g.wt+t.wt<=1048576:=by have:=zbz Fm.wt q.parts g hm;have:=q.wt_eq;omega
  have:=qkn q.var t Y0 g (zoy hq hm) Y0 (by
   by_cases h:g.wt<=524288
   ·have h1:(1+g.wt)*t.wt<=524289*1048576:=J3 Y0 Y0;omega
   ·have h1:(1+g.wt)*t.wt<=1048577*524288:=J3 Y0 Y0
    omega)
  unfold pbs;rw[hps];exact this
noncomputable def dsS (p:Nt)(i:Nat):Fm×Bool :=
 let a:=(p.parts.map Nt.form).getD 0 zF
 if p.rule=4 then (mkF 4 [p.form],true)else if p.rule=10 then (a.parts.getD (i-1) (mkF 0 []),true)else if p.rule=18 then pbs a p.term else (p.form.parts.getD 0 (mkF 0 []),true)
theorem znp (c:Fm)(l:Int)(t:Tm)(p0:Nt)(i:Int):RC Tryz.prog 114 [ntD (.mk 4 c l t [p0]),iD i] [fmD (mkF 4 [c]),bD true]:=by
 have HN:=zx0 c
 have hm:fmC (mkF 4 [c])=[.int .i64 4,.str [],.sl 2 [],.str [],.sl 5 [fmC c]]:=zaa _
 simp only[ntD,zbe,fmD,hm,zaa c,Qc,Qi]at HN⊢
 refine zcb Tryz.call114 Tryz.func114 rfl Yz (zao Yz) ?_
 refine Xr ?_
 refine callR (HN) Yy ?_
 exact Yy
theorem zk5 (c:Fm)(l:Int)(t:Tm)(p0 p1 p2:Nt)(j:Nat)(hj:j<2)(ha:p0.form.parts.length=2):RC Tryz.prog 114 [ntD (.mk 10 c l t [p0,p1,p2]),iD (j+1)] [fmD (p0.form.parts.getD j (mkF 0 [])),bD true]:=by
 have hl:j<p0.form.parts.length:=by omega
 have hli:(j:Int)<(p0.form.parts.length:Int):=by omega
 have hw:IntKind.i64.wrap (((j:Int)+1)-1)=j:=by rw[za4 Y0 Y0];omega
 have hat:=zen hl
 rw[zaa (p0.form.parts.getD j (mkF 0 []))]at hat
 generalize p0.form.parts.getD j (mkF 0 [])=G at hat⊢
 simp only[ntD,zbe,fmD,zaa c,zaa G,Qc,Qi]
 refine zcb Tryz.call114 Tryz.func114 rfl Yz (zao Yz) ?_
 refine Xr ?_
 exact Wb
theorem zgx (c:Fm)(l:Int)(t:Tm)(p0:Nt)(i:Int)(r:Int)(hr:r=11\/r=13)(ha:0<c.parts.length):RC Tryz.prog 114 [ntD (.mk r c l t [p0]),iD i] [fmD (c.parts.getD 0 (mkF 0 [])),bD true]:=by
 have hli:(0:Int)<(c.parts.length:Int):=by omega
 have hat:=zen ha
 rw[zaa (c.parts.getD 0 (mkF 0 []))]at hat
 generalize c.parts.getD 0 (mkF 0 [])=G at hat⊢
 simp only[ntD,zbe,fmD,zaa c,zaa G,Qc,Qi]
 rcases hr with rfl|rfl
 ·refine zcb Tryz.call114 Tryz.func114 rfl Yz (zao Yz) ?_;refine Xr ?_;exact Z8 hli hat
 ·refine zcb Tryz.call114 Tryz.func114 rfl Yz (zao Yz) ?_;refine Xr ?_;exact Z8 hli hat
theorem zk9 (c:Fm)(l:Int)(t:Tm)(p0 p1:Nt)(i:Int)(ha:0<p0.form.parts.length)(S1:Fm)(S2:Bool)(HU:FC Tryz.prog 135 [fmD (p0.form.parts.getD 0 (mkF 0 [])),sD p0.form.var,tmD t] [fmD S1,bD S2]):RC Tryz.prog 114 [ntD (.mk 18 c l t [p0,p1]),iD i] [fmD S1,bD S2]:=by
 have hli:(0:Int)<(p0.form.parts.length:Int):=by omega
 have hat:=zen ha
 rw[zaa (p0.form.parts.getD 0 (mkF 0 []))]at hat
 generalize p0.form.parts.getD 0 (mkF 0 [])=G at hat HU⊢
 simp only[ntD,zbe,tmD,zab t,fmD,zaa c,zaa G,zaa S1,Qc,Qi]at HU⊢
 refine zcb Tryz.call114 Tryz.func114 rfl Yz (zao Yz) ?_
 refine Xr ?_
 refine Y2 (zac p0) ?_
 refine drawn Yz ?_
 simp -implicitDefEqProofs only[go_sem,hli,hat,Qa]
 refine zai (HU) (Y9 hli hat) ?_
 refine Ze hli hat ?_
 kernel_rfl
noncomputable def woG (lab:Int)(f:Fm):List An->List An×Bool
 | []=>([],true)
 | a::l=>if a.label≠lab then (a::(woG lab f l).1,(woG lab f l).2)else if same a.form f=true then woG lab f l else ([],false)
theorem ztw (p:Nt)(i:Nat)(l:List An)(hl:l.length<=1048576)(f:Fm)(ok:Bool)(HD:za7 p.rule i=true->RC Tryz.prog 114 [ntD p,iD i] [fmD f,bD ok]) :
  RC Tryz.prog 89 [ntD p,iD i,.one (anS l)] [.one (anS (if za7 p.rule i=true then (if ok=true then (woG p.label f l).1 else l)else l)),bD (if za7 p.rule i=true then (if ok=true then (woG p.label f l).2 else false)else true)]:=by
 have H0:=zcm p.rule i
 cases hdd:za7 p.rule i
 ·rw[hdd]at H0;simp only[Qp,if_false];simp only[ntD,zac p];refine zcb Tryz.call89 Tryz.func89 rfl Yz (zao Yz) ?_;simp -implicitDefEqProofs only[go_sem,Tryz.results89];refine callF (H0) Zo ?_;exact Zo
 ·rw[hdd]at H0;have HD:=HD hdd;simp only[if_true];simp only[ntD,zac p,fmD,zaa f]at HD⊢;cases ok
  ·simp only[Qp,if_false];refine zcb Tryz.call89 Tryz.func89 rfl Yz (zao Yz) ?_;simp -implicitDefEqProofs only[go_sem,Tryz.results89];refine callF (H0) Zd ?_;refine Y7 ?_;refine callR (HD) Zo ?_;exact Zo
  ·simp only[if_true];refine zcb Tryz.call89 Tryz.func89 rfl Yz (zao Yz) ?_;simp -implicitDefEqProofs only[go_sem,Tryz.results89];refine callF (H0) Zd ?_;refine Y7 ?_;refine callR (HD) Zd ?_;refine Y7 ?_;refine zde Yy ?_;refine Y1 ?_;refine zah (λx:Nat×List An=>hd [(2,vT (anS l)),(3,.one (.bx 3 0)),(8,.one (.bx 8 0)),(10,.one (.ow 864 0)),(11,vI x.1)] [(3,ntB p),(8,[.t (.int .i64 f.op),.t (.str f.atom.name),.t (tmS f.atom.args),.t (.str f.var),.t (fmS f.parts)])] [(864,⟨false,6,x.2.map anC,0,true⟩)])
    (λx=>x.1<=l.length/\x.2.length<=x.1/\woG p.label f l=(x.2++(woG p.label f (l.drop x.1)).1,(woG p.label f (l.drop x.1)).2)) (λx=>l.length-x.1) (0,[]) (zad ?_) ⟨Kc _,Qz _,by simp⟩ ?_
   ·exact X6
   ·rintro⟨k,out⟩ ⟨hk,hlo,hg⟩;simp only at hk hlo hg⊢;by_cases hlt:k<l.length
    ·rw[Qm hlt,woG]at hg;have H:=zc1 l[k].form f;simp only[fmD,zaa l[k].form,zaa f]at H;by_cases h1:l[k].label=p.label
     ·have h1b:(l[k].label != p.label)=false:=by simpa using h1
      rw[if_neg (by simpa using h1)]at hg;cases hs:same l[k].form f
      ·rw[hs]at hg H;rw[if_neg (by simp)]at hg;refine Y6 hlt ?_;refine drawn Yz ?_;refine Vv ?_;refine⟨Yz,?_⟩;refine drawn Yz ?_;refine Zi hlt (zd7 l[k]) ?_;refine zai (H) Zo ?_;refine Zn ?_;refine⟨Yz,?_⟩;rw[hg];simp
      ·rw[hs]at hg H;rw[if_pos rfl]at hg;refine Y6 hlt ?_;refine drawn Yz ?_;refine Vv ?_;refine⟨Yz,?_⟩;refine drawn Yz ?_;refine Zi hlt (zd7 l[k]) ?_;refine zai (H) Zd ?_;refine Y7 ?_;refine⟨Yz,?_⟩;rw[zaq Y0];exact⟨(k+1,out),⟨hlt,by simp only;omega,hg⟩,by simp only;omega,zad Yy⟩
     ·have h1b:(l[k].label != p.label)=true:=by simpa using h1
      rw[if_pos (by simpa using h1)]at hg;have hm:out.length<=4294967295:=by omega
      refine Y6 hlt ?_;refine drawn Yz ?_;refine Vv ?_;refine⟨Yz,?_⟩;refine zde Yy ?_;refine Y1 ?_;refine apD false (Xo hm) ?_;refine Xp hm ?_;rw[zaq Y0];refine⟨(k+1,out++[l[k]]),⟨hlt,by simp;omega,by rw[hg];simp⟩,by simp only;omega,zad ?_⟩;simp -implicitDefEqProofs only[go_sem,Q1,Qc,Qi,zd7 l[k]]
    ·rw[Q0 Y0,woG]at hg;refine Y6 hlt ?_;rw[hg];simp
end
section
open Go.RowKit
theorem RC.ofX {P:Program}{f:FuncId}{args res:List D}(h:RX P f args (λr=>r=res)):RC P f args res:=⟨h.1,λw vs A hv=>(h.2 w vs A hv).mono λ_ _ ⟨r,us,e,h1,h2,h3⟩=>⟨us,h1,e▸h2,h3⟩⟩
def qkw (r:Int):Bool:=r==1||za7 r 0||za7 r 1
def stS (p:Nt):Bool:=zbd p.rule==(p.parts.length:Int)&&(p.form.good&&((qkw p.rule==(p.label != 0))&&((!qkw p.rule||inB p.label 1 20)&&(if inB p.rule 15 18=true then p.term.good else p.term.none))))
theorem zwb (p:Nt)(hw:Fit p)(hz:same p.term (.mk [] [])=p.term.none):RC Tryz.prog 87 [ntD p] [bD (stS p)]:=by
 refine RC.ofX ?_
 have hfw:p.form.wt<=1048576:=by have:=hw.own;omega
 have htw:p.term.wt<=1048576:=by have:=hw.own;omega
 have HP:=qa1 p.rule
 have HV:=ql9 p.form Y0
 have HD0:=zcm p.rule 0
 have HD1:=zcm p.rule 1
 have HW:=zpc p.label 1 20
 have HT:=zpc p.rule 15 18
 have HVT:=zxr p.term Y0
 have HZ:=qah p.term (.mk [] [])
 rw[hz]at HZ
 have hzt:tmC (.mk [] [])=[.str [],.sl 2 []]:=zab _
 have btt:(true != true)=false:=rfl
 have bff:(false != false)=false:=rfl
 have btf:(true != false)=true:=rfl
 have bft:(false != true)=true:=rfl
 have qtf:(true==false)=false:=rfl
 have qft:(false==true)=false:=rfl
 simp only[ntD,fmD,tmD,zac p,zaa p.form,zab p.term,hzt]at HV HVT HZ⊢
 refine zow Tryz.call87 Tryz.func87 rfl (zao Yz) ?_
 refine zci.cut 0 rfl Yz ?_
 simp -implicitDefEqProofs only[go_sem,Tryz.results87]
 refine zci.join (hd [(1,.one (.bx 1 0)),(3,vB (qkw p.rule))] [(1,ntR p)] []) Yz ?_ ?_
 ·unfold qkw;cases e1:(p.rule==1)
  ·cases e2:za7 p.rule 0
   ·rw[e2]at HD0;refine Y2 e1 ?_;refine callF (HD0) Vg ?_;refine Y2 e1 ?_;refine callF (HD1) Vg ?_;refine Y2 e1 ?_;refine zad ?_;simp -implicitDefEqProofs only[go_sem,K0]
   ·rw[e2]at HD0;refine Y2 e1 ?_;refine callF (HD0) Vg ?_;refine Y2 e1 ?_;refine zad ?_;simp -implicitDefEqProofs only[go_sem,K0,Yh]
  ·refine Y2 e1 ?_;refine zad ?_;simp -implicitDefEqProofs only[go_sem,Yh]
 have hst:stS p=(zbd p.rule==(p.parts.length:Int)&&(p.form.good&&((qkw p.rule==(p.label != 0))&&((!qkw p.rule||inB p.label 1 20)&&(if inB p.rule 15 18=true then p.term.good else p.term.none))))):=rfl
 generalize qkw p.rule=lb at hst⊢
 generalize stS p=st at hst⊢
 refine zci.cut 0 rfl Yz ?_
 by_cases c1:zbd p.rule=(p.parts.length:Int)
 ·have e1:(((p.parts.length:Nat):Int) != ((p.parts.length:Nat):Int))=false:=by simp
  rw[show(zbd p.rule==(p.parts.length:Int))=true by simpa using c1,Qv]at hst;rw[c1]at HP;cases c2:p.form.good
  ·rw[c2]at HV hst;refine Y1 ?_;refine drawn Yz ?_;refine Y1 ?_;refine zai (HP) Vg ?_;refine Y2 e1 ?_;refine zaz (HV) (Zz e1) ?_;refine Z9 e1 ?_;exact⟨Yz,[bD st],rfl,by simp -implicitDefEqProofs only[go_sem];rw[hst];rfl⟩
  ·rw[c2,Qv]at hst;rw[c2]at HV;cases c3:(lb==(p.label != 0))
   ·rw[c3,Qx]at hst;have c3':(lb != (p.label != 0))=true:=by unfold bne at c3⊢;rw[c3];rfl
    generalize hq:(p.label != 0)=q at c3' c3;cases lb<;>cases q<;>first|cases c3|skip
    ·refine Y1 ?_;refine drawn Yz ?_;refine Y1 ?_;refine zai (HP) Vg ?_;refine Y2 e1 ?_;refine zaz (HV) (by simp -implicitDefEqProofs only[go_sem,e1,Qd,hq,bft,qft,Qj]) ?_;simp -implicitDefEqProofs only[go_sem,e1,Qd,hq,bft,qft,Qj];exact⟨Yz,[bD st],rfl,by simp -implicitDefEqProofs only[go_sem];rw[hst]⟩
    ·refine Y1 ?_;refine drawn Yz ?_;refine Y1 ?_;refine zai (HP) Vg ?_;refine Y2 e1 ?_;refine zaz (HV) (by simp -implicitDefEqProofs only[go_sem,e1,Qd,hq,btf,qtf,Qj]) ?_;simp -implicitDefEqProofs only[go_sem,e1,Qd,hq,btf,qtf,Qj];exact⟨Yz,[bD st],rfl,by simp -implicitDefEqProofs only[go_sem];rw[hst]⟩
   ·rw[c3,Qv]at hst;have c3':(p.label != 0)=lb:=(by simpa using c3:lb=(p.label != 0)).symm;cases lb
    ·rw[Qj,Yh,Qv]at hst;refine Y1 ?_;refine drawn Yz ?_;refine Y1 ?_;refine zai (HP) Vg ?_;refine Y2 e1 ?_;refine zaz (HV) (by simp -implicitDefEqProofs only[go_sem,e1,Qd,c3',bff,Q3,Qd]) ?_;simp -implicitDefEqProofs only[go_sem,e1,Qd,c3',bff,Q3,Qd];refine⟨Yz,?_⟩;refine zci.ofEx Yz ?_;cases ht:inB p.rule 15 18
     ·rw[ht]at HT hst;rw[if_neg (by simp)]at hst;refine Y1 ?_;refine callF (HT) Yy ?_;refine Y1 ?_;refine callF (HZ) Yy ?_;refine Y1 ?_;exact⟨[bD st],rfl,by simp -implicitDefEqProofs only[go_sem];rw[hst]⟩
     ·rw[ht]at HT hst;rw[if_pos rfl]at hst;refine Y1 ?_;refine callF (HT) Yy ?_;refine Y1 ?_;refine callF (HVT) Yy ?_;refine Y1 ?_;exact⟨[bD st],rfl,by simp -implicitDefEqProofs only[go_sem];rw[hst]⟩
    ·rw[Qd,K0]at hst;cases c4:inB p.label 1 20
     ·rw[c4,Qx]at hst;rw[c4]at HW;refine Y1 ?_;refine drawn Yz ?_;refine Y1 ?_;refine zai (HP) Vg ?_;refine Y2 e1 ?_;refine zaz (HV) (by simp -implicitDefEqProofs only[go_sem,e1,Qd,c3',btt,Q3,Qd]) ?_;simp -implicitDefEqProofs only[go_sem,e1,Qd,c3',btt,Q3,Qd];refine zaz (HW) Zo ?_;refine Zn ?_;exact⟨Yz,[bD st],rfl,by simp -implicitDefEqProofs only[go_sem];rw[hst]⟩
     ·rw[c4,Qv]at hst;rw[c4]at HW;refine Y1 ?_;refine drawn Yz ?_;refine Y1 ?_;refine zai (HP) Vg ?_;refine Y2 e1 ?_;refine zaz (HV) (by simp -implicitDefEqProofs only[go_sem,e1,Qd,c3',btt,Q3,Qd]) ?_;simp -implicitDefEqProofs only[go_sem,e1,Qd,c3',btt,Q3,Qd];refine zaz (HW) Zd ?_;refine Y7 ?_;refine⟨Yz,?_⟩;refine zci.ofEx Yz ?_;cases ht:inB p.rule 15 18
      ·rw[ht]at HT hst;rw[if_neg (by simp)]at hst;refine Y1 ?_;refine callF (HT) Yy ?_;refine Y1 ?_;refine callF (HZ) Yy ?_;refine Y1 ?_;exact⟨[bD st],rfl,by simp -implicitDefEqProofs only[go_sem];rw[hst]⟩
      ·rw[ht]at HT hst;rw[if_pos rfl]at hst;refine Y1 ?_;refine callF (HT) Yy ?_;refine Y1 ?_;refine callF (HVT) Yy ?_;refine Y1 ?_;exact⟨[bD st],rfl,by simp -implicitDefEqProofs only[go_sem];rw[hst]⟩
 ·have e1:(zbd p.rule != (p.parts.length:Int))=true:=by simpa using c1
  rw[show(zbd p.rule==(p.parts.length:Int))=false by simpa using c1,Qx]at hst;refine Y1 ?_;refine drawn Yz ?_;refine Y1 ?_;refine zai (HP) Vg ?_;refine Y2 e1 ?_;exact⟨Yz,[bD st],rfl,by simp -implicitDefEqProofs only[go_sem];rw[hst]⟩
end
section
open Go.RowKit
theorem step_1 (c:Fm)(l:Int)(t:Tm)(ps:List Nt)(a b:Fm)(HA:RC Tryz.prog 108 [ntD (.mk 1 c l t ps),iD 0] [fmD a])(HB:RC Tryz.prog 108 [ntD (.mk 1 c l t ps),iD 1] [fmD b]):FC Tryz.prog 88 [ntD (.mk 1 c l t ps)] [bD (true)]:=by
 simp only[ntD,zbe,fmD,tmD,zab t,zaa a,zaa b,zaa c]at HA HB  ⊢
 refine zae Tryz.call88 Tryz.func88 rfl Yz (zao Yz) ?_
 refine Y8 ?_
 refine drawn Yz ?_
 refine Y1 ?_
 refine zay HA Yy ?_
 refine Y1 ?_
 refine zay HB Yy ?_
 refine Y1 ?_
 kernel_rfl
theorem step_2 (c:Fm)(l:Int)(t:Tm)(ps:List Nt)(a b:Fm)(HA:RC Tryz.prog 108 [ntD (.mk 2 c l t ps),iD 0] [fmD a])(HB:RC Tryz.prog 108 [ntD (.mk 2 c l t ps),iD 1] [fmD b]):FC Tryz.prog 88 [ntD (.mk 2 c l t ps)] [bD (c.op==1)]:=by
 simp only[ntD,zbe,fmD,tmD,zab t,zaa a,zaa b,zaa c]at HA HB  ⊢
 refine zae Tryz.call88 Tryz.func88 rfl Yz (zao Yz) ?_
 refine Y8 ?_
 refine drawn Yz ?_
 refine Y1 ?_
 refine zay HA Yy ?_
 refine Y1 ?_
 refine zay HB Yy ?_
 refine Y1 ?_
 kernel_rfl
theorem step_3 (c:Fm)(l:Int)(t:Tm)(ps:List Nt)(a b:Fm)(HA:RC Tryz.prog 108 [ntD (.mk 3 c l t ps),iD 0] [fmD a])(HB:RC Tryz.prog 108 [ntD (.mk 3 c l t ps),iD 1] [fmD b]):FC Tryz.prog 88 [ntD (.mk 3 c l t ps)] [bD (a.op==2)]:=by
 simp only[ntD,zbe,fmD,tmD,zab t,zaa a,zaa b,zaa c]at HA HB  ⊢
 refine zae Tryz.call88 Tryz.func88 rfl Yz (zao Yz) ?_
 refine Y8 ?_
 refine drawn Yz ?_
 refine Y1 ?_
 refine zay HA Yy ?_
 refine Y1 ?_
 refine zay HB Yy ?_
 refine Y1 ?_
 kernel_rfl
theorem step_4 (c:Fm)(l:Int)(t:Tm)(ps:List Nt)(a b:Fm)(HA:RC Tryz.prog 108 [ntD (.mk 4 c l t ps),iD 0] [fmD a])(HB:RC Tryz.prog 108 [ntD (.mk 4 c l t ps),iD 1] [fmD b]):FC Tryz.prog 88 [ntD (.mk 4 c l t ps)] [bD (a.op==2)]:=by
 simp only[ntD,zbe,fmD,tmD,zab t,zaa a,zaa b,zaa c]at HA HB  ⊢
 refine zae Tryz.call88 Tryz.func88 rfl Yz (zao Yz) ?_
 refine Y8 ?_
 refine drawn Yz ?_
 refine Y1 ?_
 refine zay HA Yy ?_
 refine Y1 ?_
 refine zay HB Yy ?_
 refine Y1 ?_
 kernel_rfl
theorem step_5 (c:Fm)(l:Int)(t:Tm)(ps:List Nt)(a b:Fm)(HA:RC Tryz.prog 108 [ntD (.mk 5 c l t ps),iD 0] [fmD a])(HB:RC Tryz.prog 108 [ntD (.mk 5 c l t ps),iD 1] [fmD b]):FC Tryz.prog 88 [ntD (.mk 5 c l t ps)] [bD (same c (mkF 5 [a,b]))]:=by
 have HT:=zx3 5 a b
 have HE:=zc1 c (mkF 5 [a,b])
 generalize same c (mkF 5 [a,b])=s at HE⊢
 have hm:fmC (mkF 5 [a,b])=[.int .i64 5,.str [],.sl 2 [],.str [],.sl 5 [fmC a,fmC b]]:=zaa _
 simp only[fmD,hm]at HT HE
 simp only[ntD,zbe,fmD,tmD,zab t,zaa a,zaa b,zaa c]at HA HB HT HE⊢
 refine zae Tryz.call88 Tryz.func88 rfl Yz (zao Yz) ?_
 refine Y8 ?_
 refine drawn Yz ?_
 refine Y1 ?_
 refine zay HA Yy ?_
 refine Y1 ?_
 refine zay HB Yy ?_
 refine Y1 ?_
 refine⟨Yz,?_⟩
 refine drawn Yz ?_
 refine Y1 ?_
 refine zay HT Yy ?_
 refine Y1 ?_
 refine zai (HE) Yy ?_
 refine Y1 ?_
 kernel_rfl
end
section
open Go.RowKit
theorem step_6 (c:Fm)(l:Int)(t:Tm)(ps:List Nt)(a b:Fm)(HA:RC Tryz.prog 108 [ntD (.mk 6 c l t ps),iD 0] [fmD a])(HB:RC Tryz.prog 108 [ntD (.mk 6 c l t ps),iD 1] [fmD b])(ha:a.op=5->a.parts.length=2):FC Tryz.prog 88 [ntD (.mk 6 c l t ps)] [bD (a.op==5&&same c (a.parts.getD 0 (mkF 0 [])))]:=by
 have HE:=zc1 c (a.parts.getD 0 (mkF 0 []))
 simp only[ntD,zbe,fmD,tmD,zab t,zaa a,zaa b,zaa c]at HA HB HE⊢
 cases e:(a.op==5)
 ·refine zae Tryz.call88 Tryz.func88 rfl Yz (zao Yz) ?_;refine Y8 ?_;refine drawn Yz ?_;refine Y1 ?_;refine zay HA Yy ?_;refine Y1 ?_;refine zay HB Yy ?_;refine Y1 ?_;refine⟨Yz,?_⟩;refine drawn Yz ?_;refine Y2 e ?_;kernel_rfl
 ·have hl:0<a.parts.length:=by rw[ha (by simpa using e)];omega
  have hli:(0:Int)<(a.parts.length:Int):=by omega
  have hat:=zen hl;rw[zaa (a.parts.getD 0 (mkF 0 []))]at hat;generalize a.parts.getD 0 (mkF 0 [])=G at hat HE⊢;simp only[zaa G]at HE;generalize same c G=s at HE⊢;refine zae Tryz.call88 Tryz.func88 rfl Yz (zao Yz) ?_;refine Y8 ?_;refine drawn Yz ?_;refine Y1 ?_;refine zay HA Yy ?_;refine Y1 ?_;refine zay HB Yy ?_;refine Y1 ?_;refine⟨Yz,?_⟩;refine drawn Yz ?_;refine Vl ?_;refine zaz HE (Zu e hli hat) ?_;refine Zj e hli hat ?_;kernel_rfl
theorem step_7 (c:Fm)(l:Int)(t:Tm)(ps:List Nt)(a b:Fm)(HA:RC Tryz.prog 108 [ntD (.mk 7 c l t ps),iD 0] [fmD a])(HB:RC Tryz.prog 108 [ntD (.mk 7 c l t ps),iD 1] [fmD b])(ha:a.op=5->a.parts.length=2):FC Tryz.prog 88 [ntD (.mk 7 c l t ps)] [bD (a.op==5&&same c (a.parts.getD 1 (mkF 0 [])))]:=by
 have HE:=zc1 c (a.parts.getD 1 (mkF 0 []))
 simp only[ntD,zbe,fmD,tmD,zab t,zaa a,zaa b,zaa c]at HA HB HE⊢
 cases e:(a.op==5)
 ·refine zae Tryz.call88 Tryz.func88 rfl Yz (zao Yz) ?_;refine Y8 ?_;refine drawn Yz ?_;refine Y1 ?_;refine zay HA Yy ?_;refine Y1 ?_;refine zay HB Yy ?_;refine Y1 ?_;refine⟨Yz,?_⟩;refine drawn Yz ?_;refine Y2 e ?_;kernel_rfl
 ·have hl:1<a.parts.length:=by rw[ha (by simpa using e)];omega
  have hli:(1:Int)<(a.parts.length:Int):=by omega
  have hat:=zen hl;rw[zaa (a.parts.getD 1 (mkF 0 []))]at hat;generalize a.parts.getD 1 (mkF 0 [])=G at hat HE⊢;simp only[zaa G]at HE;generalize same c G=s at HE⊢;refine zae Tryz.call88 Tryz.func88 rfl Yz (zao Yz) ?_;refine Y8 ?_;refine drawn Yz ?_;refine Y1 ?_;refine zay HA Yy ?_;refine Y1 ?_;refine zay HB Yy ?_;refine Y1 ?_;refine⟨Yz,?_⟩;refine drawn Yz ?_;refine Vl ?_;refine zaz HE (Zu e hli hat) ?_;refine Zj e hli hat ?_;kernel_rfl
theorem step_8 (c:Fm)(l:Int)(t:Tm)(ps:List Nt)(a b:Fm)(HA:RC Tryz.prog 108 [ntD (.mk 8 c l t ps),iD 0] [fmD a])(HB:RC Tryz.prog 108 [ntD (.mk 8 c l t ps),iD 1] [fmD b])(ha:c.op=6->c.parts.length=2):FC Tryz.prog 88 [ntD (.mk 8 c l t ps)] [bD (c.op==6&&same a (c.parts.getD 0 (mkF 0 [])))]:=by
 have HE:=zc1 a (c.parts.getD 0 (mkF 0 []))
 simp only[ntD,zbe,fmD,tmD,zab t,zaa a,zaa b,zaa c]at HA HB HE⊢
 cases e:(c.op==6)
 ·refine zae Tryz.call88 Tryz.func88 rfl Yz (zao Yz) ?_;refine Y8 ?_;refine drawn Yz ?_;refine Y1 ?_;refine zay HA Yy ?_;refine Y1 ?_;refine zay HB Yy ?_;refine Y1 ?_;refine⟨Yz,?_⟩;refine drawn Yz ?_;refine Y2 e ?_;kernel_rfl
 ·have hl:0<c.parts.length:=by rw[ha (by simpa using e)];omega
  have hli:(0:Int)<(c.parts.length:Int):=by omega
  have hat:=zen hl;rw[zaa (c.parts.getD 0 (mkF 0 []))]at hat;generalize c.parts.getD 0 (mkF 0 [])=G at hat HE⊢;simp only[zaa G]at HE;generalize same a G=s at HE⊢;refine zae Tryz.call88 Tryz.func88 rfl Yz (zao Yz) ?_;refine Y8 ?_;refine drawn Yz ?_;refine Y1 ?_;refine zay HA Yy ?_;refine Y1 ?_;refine zay HB Yy ?_;refine Y1 ?_;refine⟨Yz,?_⟩;refine drawn Yz ?_;refine Vl ?_;refine zaz HE (Zu e hli hat) ?_;refine Zj e hli hat ?_;kernel_rfl
theorem step_9 (c:Fm)(l:Int)(t:Tm)(ps:List Nt)(a b:Fm)(HA:RC Tryz.prog 108 [ntD (.mk 9 c l t ps),iD 0] [fmD a])(HB:RC Tryz.prog 108 [ntD (.mk 9 c l t ps),iD 1] [fmD b])(ha:c.op=6->c.parts.length=2):FC Tryz.prog 88 [ntD (.mk 9 c l t ps)] [bD (c.op==6&&same a (c.parts.getD 1 (mkF 0 [])))]:=by
 have HE:=zc1 a (c.parts.getD 1 (mkF 0 []))
 simp only[ntD,zbe,fmD,tmD,zab t,zaa a,zaa b,zaa c]at HA HB HE⊢
 cases e:(c.op==6)
 ·refine zae Tryz.call88 Tryz.func88 rfl Yz (zao Yz) ?_;refine Y8 ?_;refine drawn Yz ?_;refine Y1 ?_;refine zay HA Yy ?_;refine Y1 ?_;refine zay HB Yy ?_;refine Y1 ?_;refine⟨Yz,?_⟩;refine drawn Yz ?_;refine Y2 e ?_;kernel_rfl
 ·have hl:1<c.parts.length:=by rw[ha (by simpa using e)];omega
  have hli:(1:Int)<(c.parts.length:Int):=by omega
  have hat:=zen hl;rw[zaa (c.parts.getD 1 (mkF 0 []))]at hat;generalize c.parts.getD 1 (mkF 0 [])=G at hat HE⊢;simp only[zaa G]at HE;generalize same a G=s at HE⊢;refine zae Tryz.call88 Tryz.func88 rfl Yz (zao Yz) ?_;refine Y8 ?_;refine drawn Yz ?_;refine Y1 ?_;refine zay HA Yy ?_;refine Y1 ?_;refine zay HB Yy ?_;refine Y1 ?_;refine⟨Yz,?_⟩;refine drawn Yz ?_;refine Vl ?_;refine zaz HE (Zu e hli hat) ?_;refine Zj e hli hat ?_;kernel_rfl
end
section
open Go.RowKit
theorem qtu (c:Fm)(l:Int)(t:Tm)(ps:List Nt)(a b:Fm)(HA:RC Tryz.prog 108 [ntD (.mk 10 c l t ps),iD 0] [fmD a])(HB:RC Tryz.prog 108 [ntD (.mk 10 c l t ps),iD 1] [fmD b])(d:Fm)(HC:RC Tryz.prog 108 [ntD (.mk 10 c l t ps),iD 2] [fmD d]):FC Tryz.prog 88 [ntD (.mk 10 c l t ps)] [bD (a.op==6&&same b c&&same d c)]:=by
 have HE:=zc1 b c
 have HE2:=zc1 d c
 simp only[ntD,zbe,fmD,zaa d,zaa c]at HC HE2
 simp only[ntD,zbe,fmD,tmD,zab t,zaa a,zaa b,zaa c]at HA HB HE⊢
 generalize same b c=s1 at HE⊢
 generalize same d c=s2 at HE2⊢
 cases e:(a.op==6)
 ·refine zae Tryz.call88 Tryz.func88 rfl Yz (zao Yz) ?_;refine Y8 ?_;refine drawn Yz ?_;refine Y1 ?_;refine zay HA Yy ?_;refine Y1 ?_;refine zay HB Yy ?_;refine Y1 ?_;refine⟨Yz,?_⟩;refine drawn Yz ?_;refine Y2 e ?_;kernel_rfl
 ·cases s1
  ·refine zae Tryz.call88 Tryz.func88 rfl Yz (zao Yz) ?_;refine Y8 ?_;refine drawn Yz ?_;refine Y1 ?_;refine zay HA Yy ?_;refine Y1 ?_;refine zay HB Yy ?_;refine Y1 ?_;refine⟨Yz,?_⟩;refine drawn Yz ?_;refine Y2 e ?_;refine zaz HE Ve ?_;refine Y2 e ?_;kernel_rfl
  ·refine zae Tryz.call88 Tryz.func88 rfl Yz (zao Yz) ?_;refine Y8 ?_;refine drawn Yz ?_;refine Y1 ?_;refine zay HA Yy ?_;refine Y1 ?_;refine zay HB Yy ?_;refine Y1 ?_;refine⟨Yz,?_⟩;refine drawn Yz ?_;refine Y2 e ?_;refine zaz HE Ve ?_;refine Y2 e ?_;refine zgu HC Ve ?_;refine Y2 e ?_;refine zaz HE2 Ve ?_;refine Y2 e ?_;kernel_rfl
theorem qu3 (c:Fm)(l:Int)(t:Tm)(ps:List Nt)(a b:Fm)(HA:RC Tryz.prog 108 [ntD (.mk 11 c l t ps),iD 0] [fmD a])(HB:RC Tryz.prog 108 [ntD (.mk 11 c l t ps),iD 1] [fmD b])(ha:c.op=7->c.parts.length=2):FC Tryz.prog 88 [ntD (.mk 11 c l t ps)] [bD (c.op==7&&same a (c.parts.getD 1 (mkF 0 [])))]:=by
 have HE:=zc1 a (c.parts.getD 1 (mkF 0 []))
 simp only[ntD,zbe,fmD,tmD,zab t,zaa a,zaa b,zaa c]at HA HB HE⊢
 cases e:(c.op==7)
 ·refine zae Tryz.call88 Tryz.func88 rfl Yz (zao Yz) ?_;refine Y8 ?_;refine drawn Yz ?_;refine Y1 ?_;refine zay HA Yy ?_;refine Y1 ?_;refine zay HB Yy ?_;refine Y1 ?_;refine⟨Yz,?_⟩;refine drawn Yz ?_;refine Y2 e ?_;kernel_rfl
 ·have hl:1<c.parts.length:=by rw[ha (by simpa using e)];omega
  have hli:(1:Int)<(c.parts.length:Int):=by omega
  have hat:=zen hl;rw[zaa (c.parts.getD 1 (mkF 0 []))]at hat;generalize c.parts.getD 1 (mkF 0 [])=G at hat HE⊢;simp only[zaa G]at HE;generalize same a G=s at HE⊢;refine zae Tryz.call88 Tryz.func88 rfl Yz (zao Yz) ?_;refine Y8 ?_;refine drawn Yz ?_;refine Y1 ?_;refine zay HA Yy ?_;refine Y1 ?_;refine zay HB Yy ?_;refine Y1 ?_;refine⟨Yz,?_⟩;refine drawn Yz ?_;refine Vl ?_;refine zaz HE (Zu e hli hat) ?_;refine Zj e hli hat ?_;kernel_rfl
theorem qvs (c:Fm)(l:Int)(t:Tm)(ps:List Nt)(a b:Fm)(HA:RC Tryz.prog 108 [ntD (.mk 12 c l t ps),iD 0] [fmD a])(HB:RC Tryz.prog 108 [ntD (.mk 12 c l t ps),iD 1] [fmD b]):FC Tryz.prog 88 [ntD (.mk 12 c l t ps)] [bD (same a (mkF 7 [b,c]))]:=by
 have HT:=zx3 7 b c
 have HE:=zc1 a (mkF 7 [b,c])
 generalize same a (mkF 7 [b,c])=s at HE⊢
 have hm:fmC (mkF 7 [b,c])=[.int .i64 7,.str [],.sl 2 [],.str [],.sl 5 [fmC b,fmC c]]:=zaa _
 simp only[fmD,hm]at HT HE
 simp only[ntD,zbe,fmD,tmD,zab t,zaa a,zaa b,zaa c]at HA HB HT HE⊢
 refine zae Tryz.call88 Tryz.func88 rfl Yz (zao Yz) ?_
 refine Y8 ?_
 refine drawn Yz ?_
 refine Y1 ?_
 refine zay HA Yy ?_
 refine Y1 ?_
 refine zay HB Yy ?_
 refine Y1 ?_
 refine⟨Yz,?_⟩
 refine drawn Yz ?_
 refine Y1 ?_
 refine zay HT Yy ?_
 refine Y1 ?_
 refine zai (HE) Yy ?_
 refine Y1 ?_
 kernel_rfl
theorem qva (c:Fm)(l:Int)(t:Tm)(ps:List Nt)(a b:Fm)(HA:RC Tryz.prog 108 [ntD (.mk 13 c l t ps),iD 0] [fmD a])(HB:RC Tryz.prog 108 [ntD (.mk 13 c l t ps),iD 1] [fmD b]):FC Tryz.prog 88 [ntD (.mk 13 c l t ps)] [bD (c.op==4&&a.op==2)]:=by
 simp only[ntD,zbe,fmD,tmD,zab t,zaa a,zaa b,zaa c]at HA HB  ⊢
 cases e:(c.op==4)
 ·refine zae Tryz.call88 Tryz.func88 rfl Yz (zao Yz) ?_;refine Y8 ?_;refine drawn Yz ?_;refine Y1 ?_;refine zay HA Yy ?_;refine Y1 ?_;refine zay HB Ve ?_;refine Y2 e ?_;kernel_rfl
 ·refine zae Tryz.call88 Tryz.func88 rfl Yz (zao Yz) ?_;refine Y8 ?_;refine drawn Yz ?_;refine Y1 ?_;refine zay HA Yy ?_;refine Y1 ?_;refine zay HB Ve ?_;refine Y2 e ?_;kernel_rfl
theorem qvt (c:Fm)(l:Int)(t:Tm)(ps:List Nt)(a b:Fm)(HA:RC Tryz.prog 108 [ntD (.mk 14 c l t ps),iD 0] [fmD a])(HB:RC Tryz.prog 108 [ntD (.mk 14 c l t ps),iD 1] [fmD b]):FC Tryz.prog 88 [ntD (.mk 14 c l t ps)] [bD (c.op==2&&same a (mkF 4 [b]))]:=by
 have HT:=zx0 b
 have HE:=zc1 a (mkF 4 [b])
 generalize same a (mkF 4 [b])=s at HE⊢
 have hm:fmC (mkF 4 [b])=[.int .i64 4,.str [],.sl 2 [],.str [],.sl 5 [fmC b]]:=zaa _
 simp only[fmD,hm]at HT HE
 simp only[ntD,zbe,fmD,tmD,zab t,zaa a,zaa b,zaa c]at HA HB HT HE⊢
 cases e:(c.op==2)
 ·refine zae Tryz.call88 Tryz.func88 rfl Yz (zao Yz) ?_;refine Y8 ?_;refine drawn Yz ?_;refine Y1 ?_;refine zay HA Yy ?_;refine Y1 ?_;refine zay HB Yy ?_;refine Y1 ?_;refine⟨Yz,?_⟩;refine drawn Yz ?_;refine Y2 e ?_;kernel_rfl
 ·refine zae Tryz.call88 Tryz.func88 rfl Yz (zao Yz) ?_;refine Y8 ?_;refine drawn Yz ?_;refine Y1 ?_;refine zay HA Yy ?_;refine Y1 ?_;refine zay HB Yy ?_;refine Y1 ?_;refine⟨Yz,?_⟩;refine drawn Yz ?_;refine Y2 e ?_;refine zgu HT Ve ?_;refine Y2 e ?_;refine zaz HE Ve ?_;refine Y2 e ?_;kernel_rfl
end
section
open Go.RowKit
theorem qu0 (c:Fm)(l:Int)(t:Tm)(ps:List Nt)(a b:Fm)(HA:RC Tryz.prog 108 [ntD (.mk 15 c l t ps),iD 0] [fmD a])(HB:RC Tryz.prog 108 [ntD (.mk 15 c l t ps),iD 1] [fmD b])(s:Bool)(HN:FC Tryz.prog 113 [fmD c,iD 8,tmD t,fmD a] [bD s]):FC Tryz.prog 88 [ntD (.mk 15 c l t ps)] [bD (za9 t.name&&s)]:=by
 have HV:=zih t.name
 simp only[ntD,zbe,fmD,tmD,zab t,zaa a,zaa b,zaa c]at HA HB HN⊢
 cases e:za9 t.name
 ·rw[e]at HV;refine zae Tryz.call88 Tryz.func88 rfl Yz (zao Yz) ?_;refine Y8 ?_;refine drawn Yz ?_;refine Y1 ?_;refine zay HA Yy ?_;refine Y1 ?_;refine zay HB Yy ?_;refine Y1 ?_;refine⟨Yz,?_⟩;refine callF (HV) Yy ?_;exact Yy
 ·rw[e]at HV;refine zae Tryz.call88 Tryz.func88 rfl Yz (zao Yz) ?_;refine Y8 ?_;refine drawn Yz ?_;refine Y1 ?_;refine zay HA Yy ?_;refine Y1 ?_;refine zay HB Yy ?_;refine Y1 ?_;refine⟨Yz,?_⟩;refine callF (HV) Yy ?_;refine Y1 ?_;refine callF (HN) Yy ?_;exact Yy
theorem qse (c:Fm)(l:Int)(t:Tm)(ps:List Nt)(a b:Fm)(HA:RC Tryz.prog 108 [ntD (.mk 16 c l t ps),iD 0] [fmD a])(HB:RC Tryz.prog 108 [ntD (.mk 16 c l t ps),iD 1] [fmD b])(s:Bool)(HN:FC Tryz.prog 113 [fmD a,iD 8,tmD t,fmD c] [bD s]):FC Tryz.prog 88 [ntD (.mk 16 c l t ps)] [bD (s)]:=by
 simp only[ntD,zbe,fmD,tmD,zab t,zaa a,zaa b,zaa c]at HA HB HN⊢
 refine zae Tryz.call88 Tryz.func88 rfl Yz (zao Yz) ?_
 refine Y8 ?_
 refine drawn Yz ?_
 refine Y1 ?_
 refine zay HA Yy ?_
 refine Y1 ?_
 refine zay HB Yy ?_
 refine Y1 ?_
 refine⟨Yz,?_⟩
 refine callF (HN) Yy ?_
 exact Yy
theorem qs8 (c:Fm)(l:Int)(t:Tm)(ps:List Nt)(a b:Fm)(HA:RC Tryz.prog 108 [ntD (.mk 17 c l t ps),iD 0] [fmD a])(HB:RC Tryz.prog 108 [ntD (.mk 17 c l t ps),iD 1] [fmD b])(s:Bool)(HN:FC Tryz.prog 113 [fmD c,iD 9,tmD t,fmD a] [bD s]):FC Tryz.prog 88 [ntD (.mk 17 c l t ps)] [bD (s)]:=by
 simp only[ntD,zbe,fmD,tmD,zab t,zaa a,zaa b,zaa c]at HA HB HN⊢
 refine zae Tryz.call88 Tryz.func88 rfl Yz (zao Yz) ?_
 refine Y8 ?_
 refine drawn Yz ?_
 refine Y1 ?_
 refine zay HA Yy ?_
 refine Y1 ?_
 refine zay HB Yy ?_
 refine Y1 ?_
 refine⟨Yz,?_⟩
 refine callF (HN) Yy ?_
 exact Yy
theorem qrz (c:Fm)(l:Int)(t:Tm)(ps:List Nt)(a b:Fm)(HA:RC Tryz.prog 108 [ntD (.mk 18 c l t ps),iD 0] [fmD a])(HB:RC Tryz.prog 108 [ntD (.mk 18 c l t ps),iD 1] [fmD b]):FC Tryz.prog 88 [ntD (.mk 18 c l t ps)] [bD (a.op==9&&same b c&&za9 t.name)]:=by
 have HV:=zih t.name
 have HE:=zc1 b c
 simp only[ntD,zbe,fmD,tmD,zab t,zaa a,zaa b,zaa c]at HA HB HE⊢
 generalize same b c=s at HE⊢
 cases e:(a.op==9)
 ·refine zae Tryz.call88 Tryz.func88 rfl Yz (zao Yz) ?_;refine Y8 ?_;refine drawn Yz ?_;refine Y1 ?_;refine zay HA Yy ?_;refine Y1 ?_;refine zay HB Ve ?_;refine Y2 e ?_;kernel_rfl
 ·cases s
  ·refine zae Tryz.call88 Tryz.func88 rfl Yz (zao Yz) ?_;refine Y8 ?_;refine drawn Yz ?_;refine Y1 ?_;refine zay HA Yy ?_;refine Y1 ?_;refine zay HB Ve ?_;refine Y2 e ?_;refine⟨Yz,?_⟩;refine callF (HE) Ve ?_;exact Ve
  ·refine zae Tryz.call88 Tryz.func88 rfl Yz (zao Yz) ?_;refine Y8 ?_;refine drawn Yz ?_;refine Y1 ?_;refine zay HA Yy ?_;refine Y1 ?_;refine zay HB Ve ?_;refine Y2 e ?_;refine⟨Yz,?_⟩;refine callF (HE) Ve ?_;refine Y2 e ?_;refine callF (HV) Ve ?_;exact Ve
end
section
open Go.RowKit
noncomputable def spS (p:Nt):Bool :=
 let a:=(p.parts.map Nt.form).getD 0 zF
 let b:=(p.parts.map Nt.form).getD 1 zF
 let d:=(p.parts.map Nt.form).getD 2 zF
 let c:=p.form
 let t:=p.term
 if p.rule=2 then c.op==1
 else if p.rule=3 then a.op==2
 else if p.rule=4 then a.op==2
 else if p.rule=5 then same c (mkF 5 [a,b])
 else if p.rule=6 then a.op==5&&same c (a.parts.getD 0 (mkF 0 []))
 else if p.rule=7 then a.op==5&&same c (a.parts.getD 1 (mkF 0 []))
 else if p.rule=8 then c.op==6&&same a (c.parts.getD 0 (mkF 0 []))
 else if p.rule=9 then c.op==6&&same a (c.parts.getD 1 (mkF 0 []))
 else if p.rule=10 then a.op==6&&same b c&&same d c
 else if p.rule=11 then c.op==7&&same a (c.parts.getD 1 (mkF 0 []))
 else if p.rule=12 then same a (mkF 7 [b,c])
 else if p.rule=13 then c.op==4&&a.op==2
 else if p.rule=14 then c.op==2&&same a (mkF 4 [b])
 else if p.rule=15 then za9 t.name&&qgp c 8 t a
 else if p.rule=16 then qgp a 8 t c
 else if p.rule=17 then qgp c 9 t a
 else if p.rule=18 then a.op==9&&same b c&&za9 t.name
 else true
theorem qds (p:Nt)(hw:Fit p)(h1:zbd p.rule=(p.parts.length:Int))(h2:p.form.forms=true)(hf:∀q∈p.parts,q.form.forms=true):FC Tryz.prog 88 [ntD p] [bD (spS p)]:=by
 have HA:=ze8 p 0
 have HB:=ze8 p 1
 have HC:=ze8 p 2
 obtain⟨r,c,l,t,ps⟩:=p
 have hwe:c.wt+t.wt+ps.length<=1048576:=hw.own
 have hf:∀q∈ps,q.form.forms=true:=hf
 have h1:zbd r=(ps.length:Int):=h1
 have h2:c.forms=true:=h2
 obtain⟨ac4,ac2,ac1⟩:=zgy h2
 obtain⟨n0,n2,n3,n1⟩:=zf6 h1
 have hcw:c.wt+t.wt<=1048576:=by omega
 have hqw:∀q∈ps,q.form.wt+t.wt<=1048576:=hw.part
 have hI:∀f q:Fm,∀op,(op=8\/op=9)->q.forms=true->q.wt+t.wt<=1048576->FC Tryz.prog 113 [fmD q,iD op,tmD t,fmD f] [bD (qgp q op t f)]:=λf q op ho hq hs=>zp4 q op t f λe=>by
  have hp:q.parts≠[]:=λhn=>by
   have:=(zgy hq).2.2 (by rw[e];exact ho);rw[hn]at this;cases this
  exact⟨hp,put_c q t hq hs hp⟩
 rcases zwe (r:=r) Y0 with h|h|h|h|h|h|h|h|h|h|h|h|h|h|h|h|h|h<;>subst h
 ·exact step_1 c l t ps _ _ HA HB
 ·exact step_2 c l t ps _ _ HA HB
 ·exact step_3 c l t ps _ _ HA HB
 ·exact step_4 c l t ps _ _ HA HB
 ·exact step_5 c l t ps _ _ HA HB
 ·obtain⟨p0,rfl⟩:=zgv (n1 (by decide));exact step_6 c l t _ _ _ HA HB λe=>(zgy (hf p0 (Kb ..))).2.1 (Or.inl e)
 ·obtain⟨p0,rfl⟩:=zgv (n1 (by decide));exact step_7 c l t _ _ _ HA HB λe=>(zgy (hf p0 (Kb ..))).2.1 (Or.inl e)
 ·exact step_8 c l t ps _ _ HA HB λe=>ac2 (Or.inr (Or.inl e))
 ·exact step_9 c l t ps _ _ HA HB λe=>ac2 (Or.inr (Or.inl e))
 ·exact qtu c l t ps _ _ HA HB _ HC
 ·exact qu3 c l t ps _ _ HA HB λe=>ac2 (Or.inr (Or.inr e))
 ·exact qvs c l t ps _ _ HA HB
 ·exact qva c l t ps _ _ HA HB
 ·exact qvt c l t ps _ _ HA HB
 ·exact qu0 c l t ps _ _ HA HB _ (hI _ _ 8 (Or.inl rfl) h2 hcw)
 ·obtain⟨p0,rfl⟩:=zgv (n1 (by decide));exact qse c l t _ _ _ HA HB _ (hI _ _ 8 (Or.inl rfl) (hf p0 (Kb ..)) (hqw p0 (Kb ..)))
 ·exact qs8 c l t ps _ _ HA HB _ (hI _ _ 9 (Or.inr rfl) h2 hcw)
 ·exact qrz c l t ps _ _ HA HB
noncomputable def woS (p:Nt)(i:Nat)(l:List An):List An×Bool:=if za7 p.rule i=true then (if(dsS p i).2=true then woG p.label (dsS p i).1 l else (l,false))else (l,true)
theorem woS_c (p:Nt)(hw:Fit p)(h1:zbd p.rule=(p.parts.length:Int))(h2:p.form.forms=true)(hf:∀q∈p.parts,q.form.forms=true)(hs:spS p=true)(i:Nat)(hi:i<p.parts.length)(l:List An)(hl:l.length<=1048576):RC Tryz.prog 89 [ntD p,iD i,.one (anS l)] [.one (anS (woS p i l).1),bD (woS p i l).2]:=by
 have key:za7 p.rule i=true->RC Tryz.prog 114 [ntD p,iD i] [fmD (dsS p i).1,bD (dsS p i).2]:=λhd=>by
  obtain⟨r,c,l,t,ps⟩:=p;have hwe:c.wt+t.wt+ps.length<=1048576:=hw.own;have hwp:∀q∈ps,q.form.wt+t.wt<=1048576:=hw.part;have hf:∀q∈ps,q.form.forms=true:=hf;have hi:i<ps.length:=hi;have h1:zbd r=(ps.length:Int):=h1;have h2:c.forms=true:=h2;have hd:za7 r i=true:=hd;obtain⟨ac4,ac2,ac1⟩:=zgy h2;obtain⟨n0,n2,n3,n1⟩:=zf6 h1;have hr:r=4\/r=11\/r=13\/(r=10/\0<i)\/r=18:=by
   unfold za7 at hd;split at hd
   ·rename_i e;simp only[K1,Q9]at e;omega
   ·split at hd
    ·rename_i e;simp only[Q9]at e;simp only[K1,Q9]at hd;omega
    ·split at hd
     ·rename_i e;simp only[Q9]at e;omega
     ·cases hd
  rcases hr with h|h|h|⟨h,h0⟩|h<;>subst h
  ·obtain⟨p0,rfl⟩:=zgv (n1 (by decide));exact znp c l t p0 i
  ·obtain⟨p0,rfl⟩:=zgv (n1 (by decide));have e:c.op=7:=by
    have h6:(c.op==7&&same p0.form (c.parts.getD 1 (mkF 0 [])))=true:=hs;rw[Qb,Q9]at h6;exact h6.1
   exact zgx c l t p0 i 11 (Or.inl rfl) (by rw[ac2 (Or.inr (Or.inr e))];omega)
  ·obtain⟨p0,rfl⟩:=zgv (n1 (by decide));have e:c.op=4:=by
    have h6:(c.op==4&&p0.form.op==2)=true:=hs;rw[Qb,Q9]at h6;exact h6.1
   exact zgx c l t p0 i 13 (Or.inr rfl) (by rw[ac4 e];omega)
  ·obtain⟨p0,p1,p2,rfl⟩:=lnn3 (n3 (by decide));have e:p0.form.op=6:=by
    have h6:(p0.form.op==6&&same p1.form c&&same p2.form c)=true:=hs;rw[Qb,Qb,Q9]at h6;exact h6.1.1
   obtain⟨j,rfl⟩:∃j,i=j+1:=⟨i-1,Y0⟩;have hi:j+1<3:=hi;exact zk5 c l t p0 p1 p2 j Y0 ((zgy (hf p0 (Kb ..))).2.1 (Or.inr (Or.inl e)))
  ·obtain⟨p0,p1,rfl⟩:=zp9 (n2 (by decide));have e:p0.form.op=9:=by
    have h6:(p0.form.op==9&&same p1.form c&&za9 t.name)=true:=hs;rw[Qb,Qb,Q9]at h6;exact h6.1.1
   have hl:=(zgy (hf p0 (Kb ..))).2.2 (Or.inr e);have hp:p0.form.parts≠[]:=λhn=>by rw[hn]at hl;cases hl
   have e1:=hwp p0 (Kb ..);have HU:=put_c p0.form t (hf p0 (Kb ..)) Y0 hp;rw[zkl]at HU;exact zk9 c l t p0 p1 i Y0 _ _ HU
 have H:=ztw p i l hl (dsS p i).1 (dsS p i).2 key
 have e:woS p i l=((if za7 p.rule i=true then (if(dsS p i).2=true then (woG p.label (dsS p i).1 l).1 else l)else l),(if za7 p.rule i=true then (if(dsS p i).2=true then (woG p.label (dsS p i).1 l).2 else false)else true)):=by
  unfold woS;split
  ·split<;>rfl
  ·rfl
 rw[e]
 exact H
end
section
open Go.RowKit
noncomputable def puL:List An->List An->List An×Bool
 | out,[]=>(out,true)
 | out,x::xs=>if(puS out x).2=true then puL (puS out x).1 xs else ((puS out x).1,false)
def frC (p:Nt)(i:Nat):Bool:=p.rule==15||(p.rule==18&&i==1)
noncomputable def znz (p:Nt):Nat->List An->List (List An)->List An×Bool
 | _,out,[]=>(out,true)
 | i,out,own::Ls=>if(woS p i own).2=true then (if(frC p i&&!(woS p i own).1.all λa=>!frN p.term.name a.form)=true then (out,false)else if(puL out (woS p i own).1).2=true then znz p (i+1) (puL out (woS p i own).1).1 Ls else ((puL out (woS p i own).1).1,false))else (out,false)
def qct (p:Nt):Bool:=(p.rule==15&&frN p.term.name p.form)||(p.rule==18&&(frN p.term.name p.form||frN p.term.name ((p.parts.map Nt.form).getD 0 zF)))
noncomputable def spR (p:Nt)(Ls:List (List An)):List An×Bool :=
 if(stS p&&spS p)=true then (if p.rule=1 then ([⟨p.label,p.form⟩],true)else if(znz p 0 [] Ls).2=true then ((znz p 0 [] Ls).1,!qct p)else znz p 0 [] Ls)else ([],false)
noncomputable def goS (p:Nt)(pl:List Int):Nat->List (List Int->List An×List Int×Bool)->List (List An)->List An×List Int×Bool
 | _,[],acc=>((spR p acc).1,pl,(spR p acc).2)
 | i,f::fs,acc=>if(f (pl++[(i:Int)])).2.2=true then goS p pl (i+1) fs (acc++[(f (pl++[(i:Int)])).1])else f (pl++[(i:Int)])
noncomputable def spM:Nt->List Int->List An×List Int×Bool:=Nt.fold λr f l t ps rs pl=>goS (.mk r f l t ps) pl 0 rs []
theorem qhb (p:Nt)(pl:List Int):spM p pl=goS p pl 0 (p.parts.map spM) []:=by
 unfold spM
 rw[Nt.fold_eq,Nt.eta]
theorem zvo {l:List An}{x:An}(hl:okA l)(hx:okF x.form/\1<=x.label/\x.label<=20)(h:(puS l x).2=true)(hs:(l.map An.label).Pairwise (·<·)):okA (puS l x).1/\((puS l x).1.map An.label).Pairwise (·<·)/\(∀a∈(puS l x).1,a∈l\/a=x):=by
 have key:((puS l x).1.map An.label).Pairwise (·<·)/\(∀a∈(puS l x).1,a∈l\/a=x):=by
  clear hl hx;induction l with
  | nil=>simp[puS]
  | cons a l ih =>
   rw[Qc,Jf]at hs;unfold puS at h⊢;split
   ·rename_i hlt;rw[if_pos hlt]at h;obtain⟨k1,k2⟩:=ih h hs.2;refine⟨?_,λb hb=>?_⟩
    ·rw[Qc,Jf];refine⟨λy hy=>?_,k1⟩;obtain⟨b,hb,rfl⟩:=Ka.1 hy;rcases k2 b hb with h|rfl
     ·exact hs.1 _ (Jz h)
     ·exact hlt
    ·rcases Qu.1 hb with rfl|hb
     ·exact Or.inl (by simp)
     ·rcases k2 b hb with h|h
      ·exact Or.inl (by simp[h])
      ·exact Or.inr h
   ·split
    ·refine⟨by rw[Qc,Jf];exact hs,λb hb=>Or.inl hb⟩
    ·rename_i h1 h2;refine⟨?_,λb hb=>?_⟩
     ·rw[Qc,Qc,Jf,Jf];refine⟨λy hy=>?_,hs⟩;rcases Qu.1 hy with rfl|hy
      ·show x.label<a.label;omega
      ·have:=hs.1 y hy;show x.label<y;omega
     ·rcases Qu.1 hb with rfl|hb
      ·exact Or.inr rfl
      ·exact Or.inl hb
 refine⟨⟨?_,λa ha=>?_⟩,key⟩
 ·exact key.1.imp λh=>by omega
 ·rcases key.2 a ha with h|rfl
  ·exact hl.2 a h
  ·exact hx
end
section
open Go.RowKit
def okZ (l:List An):Prop:=okA l/\(l.map An.label).Pairwise (·<·)
theorem zwz:okZ []:=⟨znn,List.Pairwise.nil⟩
theorem zoj {l:List An}(h:okZ l)(q:An->Bool):okZ (l.filter q):=⟨zht h.1 q,h.2.sublist (List.Sublist.map _ (List.filter_sublist ..))⟩
theorem qdd (lab:Int)(f:Fm):∀l:List An,(woG lab f l).2=true->(woG lab f l).1=l.filter λa=>!(a.label==lab)
 | [],_=>rfl
 | a::l,h=>by
  by_cases h1:a.label=lab
  ·have e1:(!(a.label==lab))=false:=by simpa using h1
   rw[Jo,e1,if_neg (by simp)];have e2:woG lab f (a::l)=if same a.form f=true then woG lab f l else ([],false):=by rw[woG,if_neg (by simpa using h1)]
   rw[e2]at h⊢;by_cases h2:same a.form f=true
   ·rw[if_pos h2]at h⊢;exact qdd lab f l h
   ·rw[if_neg h2]at h;cases h
  ·have e1:(!(a.label==lab))=true:=by simpa using h1
   rw[Jo,e1,if_pos rfl];have e2:woG lab f (a::l)=(a::(woG lab f l).1,(woG lab f l).2):=by rw[woG,if_pos h1]
   rw[e2]at h⊢;rw[qdd lab f l h]
theorem qq0 {p:Nt}{i:Nat}{l:List An}(h:(woS p i l).2=true):(woS p i l).1=l.filter λa=>!(a.label==p.label&&za7 p.rule i):=by
 unfold woS at h⊢
 split
 ·rename_i hd;rw[if_pos hd]at h;rw[hd];split
  ·rename_i ho;rw[if_pos ho]at h;rw[qdd _ _ _ h];simp only[Kz]
  ·rename_i ho;rw[if_neg ho]at h;cases h
 ·rename_i hd;have:za7 p.rule i=false:=by simpa using hd
  rw[this];simp only[Ke,Qj];exact(List.filter_eq_self.2 λ_ _=>rfl).symm
theorem qqi {p:Nt}{i:Nat}{l:List An}(hl:okZ l)(h:(woS p i l).2=true):okZ (woS p i l).1:=by
 rw[qq0 h];exact zoj hl _
theorem qjb:∀{xs out:List An},okZ out->okA xs->(puL out xs).2=true->okZ (puL out xs).1
 | [],out,ho,_,_=>ho
 | x::xs,out,ho,hx,h=>by
  unfold puL at h⊢;split
  ·rename_i h1;rw[if_pos h1]at h;obtain⟨k1,k2,_⟩:=zvo ho.1 (hx.2 x (by simp)) h1 ho.2;exact qjb ⟨k1,k2⟩ ⟨(Kx.1 hx.1).2,λa ha=>hx.2 a (by simp[ha])⟩ h
  ·rename_i h1;rw[if_neg h1]at h;cases h
theorem qhe {p:Nt}:∀{Ls:List (List An)}{i:Nat}{out:List An},okZ out->(∀own∈Ls,okZ own)->(znz p i out Ls).2=true->okZ (znz p i out Ls).1
 | [],_,_,ho,_,_=>ho
 | own::Ls,i,out,ho,hL,h=>by
  unfold znz at h⊢;split
  ·rename_i h1;rw[if_pos h1]at h;split
   ·rename_i h2;rw[if_pos h2]at h;cases h
   ·rename_i h2;rw[if_neg h2]at h;split
    ·rename_i h3;rw[if_pos h3]at h;exact qhe (qjb ho (qqi (hL own (by simp)) h1).1 h3) (λo ho=>hL o (by simp[ho])) h
    ·rename_i h3;rw[if_neg h3]at h;cases h
  ·rename_i h1;rw[if_neg h1]at h;cases h
theorem zxw {p:Nt}(h:stS p=true):zbd p.rule=(p.parts.length:Int)/\p.form.good=true/\qkw p.rule=(p.label != 0)/\(qkw p.rule=true->inB p.label 1 20=true)/\(if inB p.rule 15 18=true then p.term.good else p.term.none)=true:=by
 unfold stS at h
 simp only[Qb,Q9]at h
 obtain⟨h1,h2,h3,h4,h5⟩:=h
 refine⟨h1,h2,h3,λe=>?_,h5⟩
 rw[e]at h4
 simpa using h4
theorem spR_ok {p:Nt}{Ls:List (List An)}(hw:Fit p)(hL:∀own∈Ls,okZ own)(h:(spR p Ls).2=true):okZ (spR p Ls).1/\p.form.good=true:=by
 unfold spR at h⊢
 split
 ·rename_i h1;rw[if_pos h1]at h;rw[Qb]at h1;obtain⟨s1,s2,s3,s4,s5⟩:=zxw h1.1;refine⟨?_,s2⟩;split
  ·rename_i h2;refine⟨⟨by simp[aNd],λa ha=>?_⟩,by simp⟩;have ha:a∈[(⟨p.label,p.form⟩:An)]:=ha;rw[Q4]at ha;subst ha;have:=hw.own;have h3:=s4 (by rw[h2];rfl);simp only[inB,Qb,Q2]at h3;exact⟨⟨zbp s2,by show p.form.wt<=_;omega⟩,h3.1,h3.2⟩
  ·rename_i h2;rw[if_neg h2]at h;split
   ·rename_i h3;exact qhe zwz hL h3
   ·rename_i h3;rw[if_neg h3]at h;exact absurd h h3
 ·rename_i h1;rw[if_neg h1]at h;cases h
theorem qqo {p:Nt}(hw:Fit p){pl:List Int}:∀(fs:List (List Int->List An×List Int×Bool))(i:Nat)(acc:List (List An)),(∀own∈acc,okZ own)->(∀f∈fs,∀pl,(f pl).2.2=true->okZ (f pl).1)->(goS p pl i fs acc).2.2=true->okZ (goS p pl i fs acc).1/\p.form.good=true
 | [],i,acc,ha,_,h=>spR_ok hw ha h
 | f::fs,i,acc,ha,hf,h=>by
  unfold goS at h⊢;split
  ·rename_i h1;rw[if_pos h1]at h
   exact qqo hw fs (i+1) _ (λo ho=>by
    rcases Qw.1 ho with k|k
    ·exact ha o k
    ·rw[Q4.1 k];exact hf f (by simp) _ h1) (λg hg=>hf g (by simp[hg])) h
  ·rename_i h1;rw[if_neg h1]at h;exact absurd h h1
theorem qqm:∀p:Nt,Fit p->∀pl,(spM p pl).2.2=true->okZ (spM p pl).1/\p.form.good=true :=
 zbu λr f l t ps ih hw pl h=>by
  rw[qhb]at h⊢
  exact qqo hw _ _ _ (λo ho=>by cases ho) (λg hg pl2 h2=>by
   obtain⟨q,hq,rfl⟩:=Ka.1 hg
   exact(ih q hq (hw.sub q hq) pl2 h2).1) h
end
section
open Go.RowKit
attribute [go_sem] qr1
theorem zx4 (xs:List Int)(hl:xs.length<=4294967296):FC Tryz.prog 86 [.one (ze2 xs)] [.one (ze2 xs)]:=by
 refine zae Tryz.call86 Tryz.func86 rfl Yz (zao Yz) ?_
 simp -implicitDefEqProofs only[go_sem,Tryz.results86]
 refine zbg Yy ?_
 refine Y1 ?_
 refine apD true (by simp -implicitDefEqProofs only[go_sem,ne_eq,Qa,Q7,hl]) ?_
 simp -implicitDefEqProofs only[go_sem,ne_eq,Qa,Q7,hl]
theorem qa7 (p:Nt)(pl:List Int)(hw:Fit p)(hpl:pl.length+p.wt<=2147483648)(H:∀x∈p.parts,∀pl:List Int,pl.length+x.wt<=2147483648->RC Tryz.prog 52 [ntD x,.one (ze2 pl)] [.one (anS (spM x pl).1),.one (ze2 (spM x pl).2.1),bD (spM x pl).2.2]) :
  RC Tryz.prog 52 [ntD p,.one (ze2 pl)] [.one (anS (spM p pl).1),.one (ze2 (spM p pl).2.1),bD (spM p pl).2.2]:=by
 have hl:p.parts.length<=1048576:=by have:=hw.own;omega
 have hwa:=hw.all
 have HOwn:=zx4 pl Y0
 simp only[ntD,zac p]at⊢
 refine RC.ofX ?_
 refine zow Tryz.call52 Tryz.func52 rfl (zao Yz) ?_
 refine zci.cut 3 rfl Yz ?_
 simp -implicitDefEqProofs only[go_sem,Tryz.results52]
 refine zde Yy ?_
 refine Y1 ?_
 refine zah (λx:Nat×List (List An)=>hd [(1,.one (.rn (ze2 pl))),(2,.one (.bx 2 0)),(7,.one (.ow 544 0)),(8,vI x.1)] [(2,ntR p)] [(544,⟨false,1,x.2.map λown=>[anS own],0,true⟩)])
  (λx=>x.1<=p.parts.length/\x.2.length=x.1/\spM p pl=goS p pl x.1 ((p.parts.drop x.1).map spM) x.2/\(∀own∈x.2,okZ own)/\∀q∈p.parts.take x.1,q.form.forms=true) (λx=>p.parts.length-x.1) (0,[]) (zad ?_) ⟨Kc _,rfl,qhb p pl,(λo ho=>by cases ho),λq hq=>by cases hq⟩ ?_
 ·exact X6
 rintro⟨k,acc⟩ ⟨hk,hlk,hm,hok,hf⟩
 simp only at hk hlk hm hf⊢
 by_cases hlt:k<p.parts.length
 ·have hmem:p.parts[k]∈p.parts:=Qk hlt;have hqw:=zfu hmem;have Hk:=H _ hmem (pl++[(k:Int)]) (by rw[Qy,List.length_singleton];omega);have hio:=qqm p.parts[k] (hw.sub _ hmem) (pl++[(k:Int)]);rw[Qm hlt,Qc,goS]at hm;have htk:p.parts.take (k+1)=p.parts.take k++[p.parts[k]]:=Qn hlt;refine Y6 hlt ?_;refine drawn Yz ?_;simp -implicitDefEqProofs only[go_sem,zaj,hlt,zac p.parts[k],Qa];generalize hq:p.parts[k]=q at *;generalize spM q (pl++[(k:Int)])=res at *;simp only[ntD,zac q,ze2,Q1,Qc,Qi]at Hk;have hpl2:pl.length<=4294967295:=by omega
  refine zai (HOwn) Yy ?_;refine Y1 ?_;refine zbj Yy ?_;refine Y1 ?_;refine zg5 true (Xo hpl2) ?_;refine Xp hpl2 ?_;refine zwc 1024 Hk Yy ?_;refine Y1 ?_;refine⟨Yz,?_⟩;obtain⟨r1,r2,r3⟩:=res;cases r3
  ·refine Zn ?_;rw[if_neg (by simp)]at hm;exact⟨_,rfl,by simp -implicitDefEqProofs only[go_sem];rw[hm];exact⟨rfl,rfl,rfl⟩⟩
  ·rw[if_pos rfl]at hm;obtain⟨ho1,ho2⟩:=hio rfl;refine Y7 ?_;refine zde Yy ?_;refine Y1 ?_;have hkl:acc.length<=4294967295:=by omega
   refine apD false (Xo hkl) ?_;refine Xp hkl ?_;rw[zaq Y0];refine⟨(k+1,acc++[r1]),⟨hlt,by simp[hlk],hm,λo ho=>?_,λx hx=>?_⟩,by simp only;omega,zad ?_⟩
   ·rcases Qw.1 ho with h|h
    ·exact hok o h
    ·rw[Q4.1 h];exact ho1
   ·rw[htk]at hx;rcases Qw.1 hx with h|h
    ·exact hf x h
    ·rw[Q4.1 h];exact zbp ho2
   ·simp -implicitDefEqProofs only[go_sem,Q1,Qc,Qi]
 ·have hke:k=p.parts.length:=by omega
  subst hke;rw[K8]at hf;rw[List.drop_length]at hm;have hm:spM p pl=((spR p acc).1,pl,(spR p acc).2):=hm
  have HF:=zwb p hw (by
   rw[Kp,zb1];obtain⟨n,xs⟩:=p.term;simp[Tm.none]
   exact Iff.rfl)
  simp only[ntD,zac p]at HF;refine Y6 hlt ?_;refine zde Yy ?_;refine Y1 ?_;refine zci.cut 1 rfl Yz ?_;refine Y1 ?_;cases hst:stS p
  ·rw[hst]at HF;have hr:spR p acc=([],false):=by unfold spR;rw[hst];rfl
   rw[hr]at hm;refine callR (HF) Zo ?_;refine Zn ?_;exact⟨_,rfl,by simp -implicitDefEqProofs only[go_sem];rw[hm];exact⟨rfl,rfl,rfl⟩⟩
  ·rw[hst]at HF;obtain⟨s1,s2,s3,s4,s5⟩:=zxw hst;have HS:=qds p hw s1 (zbp s2) hf;simp only[ntD,zac p]at HS;cases hsp:spS p
   ·rw[hsp]at HS;have hr:spR p acc=([],false):=by unfold spR;rw[hsp,Ke];rfl
    rw[hr]at hm;refine callR (HF) Zd ?_;refine Y7 ?_;refine callF (HS) Zo ?_;refine Zn ?_;exact⟨_,rfl,by simp -implicitDefEqProofs only[go_sem];rw[hm];exact⟨rfl,rfl,rfl⟩⟩
   ·rw[hsp]at HS;refine callR (HF) Zd ?_;refine Y7 ?_;refine callF (HS) Zd ?_;refine Y7 ?_;by_cases h1:p.rule=1
    ·have h1b:(p.rule==1)=true:=by simpa using h1
     have hr:spR p acc=([⟨p.label,p.form⟩],true):=by unfold spR;rw[hst,hsp,Yj,if_pos rfl,if_pos h1]
     rw[hr]at hm;refine Y2 h1b ?_;refine zde Yy ?_;refine Y1 ?_;exact⟨_,rfl,by simp -implicitDefEqProofs only[go_sem];rw[hm];exact⟨rfl,rfl,rfl⟩⟩
    ·have h1b:(p.rule==1)=false:=by simpa using h1
     have hr:spR p acc=if(znz p 0 [] acc).2=true then ((znz p 0 [] acc).1,!qct p)else znz p 0 [] acc:=by unfold spR;rw[hst,hsp,Yj,if_pos rfl,if_neg h1]
     refine Y2 h1b ?_;refine zci.seq ?_;refine zci.cut 0 rfl Yz ?_;refine Y1 ?_;refine zci.block ?_;refine zci.loop (λx:Nat×List An=>hd [(1,.one (.rn (ze2 pl))),(2,.one (.bx 2 0)),(7,.one (.ow 544 0)),(12,vT (anS x.2)),(13,vI x.1)] [(2,ntR p)] [(544,⟨false,1,acc.map λown=>[anS own],0,true⟩)])
      (λx=>x.1<=acc.length/\okZ x.2/\znz p 0 [] acc=znz p x.1 x.2 (acc.drop x.1)) (λx=>acc.length-x.1) (0,[]) (Wk.trans (qug (e:=1536) (x:=⟨false,6,[],0,true⟩) Yy rfl rfl) (zad ?_)) ⟨Kc _,zwz,rfl⟩ ?_
     ·simp -implicitDefEqProofs only[go_sem,Qi];rfl
     rintro⟨k,out⟩ ⟨hk2,hoz,hnd⟩;simp only at hk2 hoz hnd⊢;have hol:=zmj hoz.1;by_cases hlt2:k<acc.length
     ·have hown:=hok _ (Qk hlt2);have hownl:=zmj hown.1;have HW:=woS_c p hw s1 (zbp s2) hf hsp k Y0 acc[k] Y0;have hwo:=λh=>qqi (p:=p) (i:=k) hown h;rw[Qm hlt2,znz]at hnd;refine zci.cut 0 rfl Yz ?_;refine Y6 hlt2 ?_;refine zci.seq ?_;refine zci.block ?_;refine zci.cut 1 rfl Yz ?_;refine Y1 ?_;refine drawn Yz ?_;simp -implicitDefEqProofs only[go_sem,hlt2,Qa,zaj];generalize woS p k acc[k]=res at HW hwo hnd;obtain⟨w1,w2⟩:=res;simp only at hwo hnd HW;simp only[ntD,zac p]at HW;refine zay HW Yy ?_;refine Y1 ?_;refine⟨Yz,?_⟩;cases w2
      ·rw[if_neg (by simp)]at hnd;have hr2:spR p acc=(out,false):=by rw[hr,hnd,if_neg (by simp)]
       rw[hr2]at hm;refine Zn ?_;exact⟨_,rfl,by simp -implicitDefEqProofs only[go_sem];rw[hm];exact⟨rfl,rfl,rfl⟩⟩
      ·rw[if_pos rfl]at hnd;have hw1:=hwo rfl;have hw1l:=zmj hw1.1;refine Y7 ?_;have HFr:=qa4 w1 p.term.name (λa ha=>(hw1.1.2 a ha).1) Y0;generalize (w1.all λa=>!frN p.term.name a.form)=fr at HFr hnd;have hki:((k:Int)==1)=(k==1):=by rw[Kp];simp only[Q9];omega
       cases hfc:(frC p k&&!fr)
       ·rw[hfc,if_neg (by simp)]at hnd;refine zci.join (hd [(1,.one (.rn (ze2 pl))),(2,.one (.bx 2 0)),(7,.one (.ow 544 0)),(12,vT (anS out)),(13,vI k),(14,vT (anS w1))] [(2,ntR p)] [(544,⟨false,1,acc.map λown=>[anS own],0,true⟩)]) Yz ?_ ?_
        ·cases e15:(p.rule==15)
         ·cases e18:(p.rule==18)
          ·refine Ze e15 e18 ?_;refine zad ?_;exact Yy
          ·cases ek:(k==1)
           ·refine Zr e15 e18 hki ek ?_;refine zad ?_;exact Yy
           ·have hfr:fr=true:=by unfold frC at hfc;rw[e15,e18,ek]at hfc;simpa using hfc
            rw[hfr]at HFr;refine Zr e15 e18 hki ek ?_;refine callF (HFr) Zd ?_;refine Y7 ?_;refine zad ?_;exact Yy
         ·have hfr:fr=true:=by unfold frC at hfc;rw[e15]at hfc;simpa using hfc
          rw[hfr]at HFr;refine Y2 e15 ?_;refine callF (HFr) Zd ?_;refine Y7 ?_;refine zad ?_;exact Yy
        ·refine zci.cut 0 rfl Yz ?_;refine Y1 ?_;refine zci.block ?_;refine zci.loop (λx:Nat×List An=>hd [(1,.one (.rn (ze2 pl))),(2,.one (.bx 2 0)),(7,.one (.ow 544 0)),(12,vT (anS x.2)),(13,vI k),(14,vT (anS w1)),(16,vI x.1)] [(2,ntR p)] [(544,⟨false,1,acc.map λown=>[anS own],0,true⟩)])
          (λx=>x.1<=w1.length/\okZ x.2/\puL out w1=puL x.2 (w1.drop x.1)) (λx=>w1.length-x.1) (0,out) (zad ?_) ⟨Kc _,hoz,rfl⟩ ?_
         ·exact Yy
         rintro⟨j,o3⟩ ⟨hj,ho3,hpu⟩;simp only at hj ho3 hpu⊢;by_cases hlj:j<w1.length
         ·have ho3l:=zmj ho3.1;have HPu:=qmq o3 w1[j] Y0;rw[Qm hlj,puL]at hpu;have hx:=hw1.1.2 w1[j] (Qk hlj);have hpo:=λh=>zvo ho3.1 hx h ho3.2;refine zci.cut 0 rfl Yz ?_;refine Y6 hlj ?_;refine zci.seq ?_;refine zci.block ?_;refine zci.ofEx Yz ?_;simp -implicitDefEqProofs only[go_sem,zaj,hlj,Qa,zd7 w1[j]];generalize puS o3 w1[j]=res at HPu hpu hpo;obtain⟨u1,u2⟩:=res;simp only[anD,zd7 w1[j]]at HPu;refine callR (HPu) Yy ?_;refine Y1 ?_;cases u2
          ·rw[if_neg (by simp)]at hpu;have hr2:spR p acc=(u1,false):=by rw[hr,hnd,hpu];rfl
           rw[hr2]at hm;refine Zn ?_;exact⟨_,rfl,by simp -implicitDefEqProofs only[go_sem];rw[hm];exact⟨rfl,rfl,rfl⟩⟩
          ·rw[if_pos rfl]at hpu;obtain⟨k1,k2,_⟩:=hpo rfl;refine Y7 ?_;refine zci.ofEx Yz ?_;refine Y1 ?_;rw[zaq Y0];exact⟨(j+1,u1),⟨hlj,⟨k1,k2⟩,hpu⟩,by simp only;omega,zad Yy⟩
         ·rw[Q0 Y0,puL]at hpu;rw[hpu,if_pos rfl]at hnd;refine zci.cut 0 rfl Yz ?_;refine Y6 hlj ?_;refine zci.ofEx Yz ?_;refine Y1 ?_;rw[zaq Y0];exact⟨(k+1,o3),⟨hlt2,ho3,hnd⟩,by simp only;omega,zad Yy⟩
       ·rw[hfc,if_pos rfl]at hnd;have hr2:spR p acc=(out,false):=by rw[hr,hnd,if_neg (by simp)]
        rw[hr2]at hm;have hfr:fr=false:=by cases fr with|false=>rfl|true=>simp at hfc
        rw[hfr]at HFr;refine zci.cut 0 rfl Yz ?_;cases e15:(p.rule==15)
        ·have h2:(p.rule==18)=true/\(k==1)=true:=by unfold frC at hfc;rw[e15,K0,Qb,Qb]at hfc;exact hfc.1
         refine Zr e15 h2.1 hki h2.2 ?_;refine callF (HFr) Zo ?_;refine Zn ?_;exact⟨_,rfl,by simp -implicitDefEqProofs only[go_sem];rw[hm];exact⟨rfl,rfl,rfl⟩⟩
        ·refine Y2 e15 ?_;refine callF (HFr) Zo ?_;refine Zn ?_;exact⟨_,rfl,by simp -implicitDefEqProofs only[go_sem];rw[hm];exact⟨rfl,rfl,rfl⟩⟩
     ·have hke2:k=acc.length:=by omega
      rw[hke2,List.drop_length,znz]at hnd;have hr3:spR p acc=(out,!qct p):=by rw[hr,hnd,if_pos rfl]
      rw[hr3]at hm;have HFc:=zlo p.form (zbp s2) (by have:=hw.own;omega);have HIc:=zpt (zbk [] (vf p.form [])) p.term.name;have hbc:frN p.term.name p.form=(zbk [] (vf p.form [])).contains p.term.name:=rfl;generalize zbk [] (vf p.form [])=xc at HFc HIc hbc;simp only[fmD,zaa p.form]at HFc;refine zci.cut 0 rfl Yz ?_;refine Y6 hlt2 ?_;refine zci.ofEx Yz ?_;refine Y1 ?_;refine drawn Yz ?_;cases e15:(p.rule==15)
      ·cases e18:(p.rule==18)
       ·have he:qct p=false:=by unfold qct;rw[e15,e18];rfl
        rw[he]at hm;refine Y2 e15 ?_;refine⟨Yz,?_⟩;refine drawn Yz ?_;refine Y2 e18 ?_;exact⟨Yz,_,rfl,by simp -implicitDefEqProofs only[go_sem];rw[hm];exact⟨rfl,rfl,rfl⟩⟩
       ·have hp2:p.parts.length=2:=(zf6 s1).2.1 (Or.inr (Or.inr (Or.inr (by simpa using e18))));obtain⟨q0,q1,hps⟩:=zp9 hp2;have hq0:q0∈p.parts:=by rw[hps];simp
        have hq0w:=zfu hq0;have HFa:=zlo q0.form (hf q0 hq0) (by have:=hw.part q0 hq0;omega);have HIa:=zpt (zbk [] (vf q0.form [])) p.term.name;have hba:frN p.term.name q0.form=(zbk [] (vf q0.form [])).contains p.term.name:=rfl;generalize zbk [] (vf q0.form [])=xa at HFa HIa hba;simp only[fmD,zaa q0.form]at HFa;have he:qct p=(xc.contains p.term.name||xa.contains p.term.name):=by
         unfold qct;rw[e15,e18,Qx,K0,Qv,hbc,hps,<-hba];rfl
        rw[he]at hm;refine Y2 e15 ?_;refine⟨Yz,?_⟩;refine drawn Yz ?_;cases hc:xc.contains p.term.name
        ·rw[hc]at HIc hm;cases hx:xa.contains p.term.name
         ·rw[hx]at HIa hm;refine Vr ?_;refine zaz (HFc) (by simp -implicitDefEqProofs only[go_sem,e18,hps,Qc,Qi]) ?_;refine Vr ?_;refine zaz (HIc) (by simp -implicitDefEqProofs only[go_sem,e18,hps,Qc,Qi,zac q0]) ?_;simp -implicitDefEqProofs only[go_sem,e18,hps,Qc,Qi,zac q0];refine zaz (HFa) Yy ?_;refine Y1 ?_;refine zaz (HIa) Yy ?_;refine Y1 ?_;exact⟨Yz,_,rfl,by simp -implicitDefEqProofs only[go_sem];rw[hm];exact⟨rfl,rfl,rfl⟩⟩
         ·rw[hx]at HIa hm;refine Vr ?_;refine zaz (HFc) (by simp -implicitDefEqProofs only[go_sem,e18,hps,Qc,Qi]) ?_;refine Vr ?_;refine zaz (HIc) (by simp -implicitDefEqProofs only[go_sem,e18,hps,Qc,Qi,zac q0]) ?_;simp -implicitDefEqProofs only[go_sem,e18,hps,Qc,Qi,zac q0];refine zaz (HFa) Yy ?_;refine Y1 ?_;refine zaz (HIa) Yy ?_;refine Y1 ?_;exact⟨Yz,_,rfl,by simp -implicitDefEqProofs only[go_sem];rw[hm];exact⟨rfl,rfl,rfl⟩⟩
        ·rw[hc]at HIc hm;refine Y2 e18 ?_;refine zaz (HFc) (Y3 e18) ?_;refine Y2 e18 ?_;refine zaz (HIc) (Y3 e18) ?_;refine Y2 e18 ?_;exact⟨Yz,_,rfl,by simp -implicitDefEqProofs only[go_sem];rw[hm];exact⟨rfl,rfl,rfl⟩⟩
      ·have e18:(p.rule==18)=false:=by
        have:p.rule=15:=by simpa using e15
        rw[this];rfl
       have he:qct p=xc.contains p.term.name:=by unfold qct;rw[e15,e18,Qv,Qx,Bool.or_false,hbc]
       rw[he]at hm;cases hc:xc.contains p.term.name
       ·rw[hc]at HIc hm;refine Y2 e15 ?_;refine zaz (HFc) (Y3 e15) ?_;refine Y2 e15 ?_;refine zaz (HIc) (Y3 e15) ?_;refine Y2 e15 ?_;refine⟨Yz,?_⟩;refine drawn Yz ?_;refine Y2 e18 ?_;exact⟨Yz,_,rfl,by simp -implicitDefEqProofs only[go_sem];rw[hm];exact⟨rfl,rfl,rfl⟩⟩
       ·rw[hc]at HIc hm;refine Y2 e15 ?_;refine zaz (HFc) (Y3 e15) ?_;refine Y2 e15 ?_;refine zaz (HIc) (Y3 e15) ?_;refine Y2 e15 ?_;exact⟨Yz,_,rfl,by simp -implicitDefEqProofs only[go_sem];rw[hm];exact⟨rfl,rfl,rfl⟩⟩
theorem qju:∀p:Nt,Fit p->∀pl:List Int,pl.length+p.wt<=2147483648->RC Tryz.prog 52 [ntD p,.one (ze2 pl)] [.one (anS (spM p pl).1),.one (ze2 (spM p pl).2.1),bD (spM p pl).2.2] :=
 zbu λr f l t ps ih hw pl hpl=>qa7 (.mk r f l t ps) pl hw hpl λx hx pl2 h2=>ih x hx (hw.sub x hx) pl2 h2
end
section
open Go.RowKit
noncomputable def valS (p:Nt):Bool:=!decide (zfb p 60>60)&&(spM p []).2.2
theorem qe2 (p:Nt)(hw:Fit p):RC Tryz.prog 44 [ntD p] [bD (valS p)]:=by
 have HN:=qd7 p (by have:=hw.all;omega) 60 Y0 Y0
 have HO:=qju p hw [] (by have:=hw.all;simp;omega)
 unfold valS
 generalize spM p []=res at HO⊢
 obtain⟨r1,r2,r3⟩:=res
 simp only[ntD,zac p,ze2,Qi]at HN HO⊢
 by_cases hs:zfb p 60>60
 ·refine zcb Tryz.call44 Tryz.func44 rfl Yz (zao Yz) ?_;simp -implicitDefEqProofs only[go_sem,Tryz.results44];refine callF (HN) (by simp -implicitDefEqProofs only[go_sem,hs,decide_true]) ?_;simp -implicitDefEqProofs only[go_sem,hs,decide_true]
  try simp[hs]
 ·refine zcb Tryz.call44 Tryz.func44 rfl Yz (zao Yz) ?_;simp -implicitDefEqProofs only[go_sem,Tryz.results44];refine callF (HN) (by simp -implicitDefEqProofs only[go_sem,hs,Yq]) ?_;simp -implicitDefEqProofs only[go_sem,hs,Yq];refine zno Yy ?_;simp -implicitDefEqProofs only[go_sem];refine callR (HO) Yy ?_;simp -implicitDefEqProofs only[go_sem]
  try simp[hs]
end
section
open Go.RowKit
theorem qu6 (r:Int):qkw r=zer r:=by
 unfold qkw zer za2 za7
 by_cases h4:r=4
 ·subst h4;rfl
 by_cases h10:r=10
 ·subst h10;rfl
 by_cases h11:r=11
 ·subst h11;rfl
 by_cases h13:r=13
 ·subst h13;rfl
 by_cases h18:r=18
 ·subst h18;rfl
 have e4:(r==4)=false:=by simpa using h4
 have e10:(r==10)=false:=by simpa using h10
 have e11:(r==11)=false:=by simpa using h11
 have e13:(r==13)=false:=by simpa using h13
 have e18:(r==18)=false:=by simpa using h18
 simp[e4,e10,e11,e13,e18]
theorem qfb (p:Nt):stI p true=stS p:=by
 unfold stI stS
 rw[qu6,Kz]
 generalize zer p.rule=lb
 congr 2
 rw[<-Yn,<-Yn]
 congr 1
 cases hi:inB p.label 1 20
 ·cases lb<;>by_cases h:p.label=0<;>simp[h,bne]
 ·have h:p.label≠0:=by
   unfold inB at hi;simp only[Qb,Q2]at hi;omega
  cases lb<;>simp[h,bne]
theorem qv4 (p:Nt):decide (zfa p>60)=decide (zfb p 60>60):=by
 have h1:=zyc p
 have h2:=qph p 60
 rw[Jy]at h1 h2⊢
 have h2:zfb p 60<=60↔p.nodes<=60:=h2
 omega
theorem zxq (r:Int)(i n:Nat)(h:zbd r=n)(hi:i<n):za7 r i=za2 r i:=by
 obtain⟨n0,n2,n3,n1⟩:=zf6 h
 unfold za7 za2
 by_cases h4:r=4
 ·have:=n1 Y0;subst h4;obtain rfl:i=0:=by omega
  rfl
 by_cases h11:r=11
 ·have:=n1 Y0;subst h11;obtain rfl:i=0:=by omega
  rfl
 by_cases h13:r=13
 ·have:=n1 Y0;subst h13;obtain rfl:i=0:=by omega
  rfl
 by_cases h10:r=10
 ·have:=n3 h10;subst h10;obtain rfl|rfl|rfl:i=0\/i=1\/i=2:=by omega
  ·rfl
  ·rfl
  ·rfl
 by_cases h18:r=18
 ·have:=n2 Y0;subst h18;obtain rfl|rfl:i=0\/i=1:=by omega
  ·rfl
  ·rfl
 have e4:(r==4)=false:=by simpa using h4
 have e10:(r==10)=false:=by simpa using h10
 have e11:(r==11)=false:=by simpa using h11
 have e13:(r==13)=false:=by simpa using h13
 have e18:(r==18)=false:=by simpa using h18
 simp[e4,e10,e11,e13,e18]
theorem qqh (lab:Int)(f:Fm):∀l:List An,(woG lab f l).2=l.all λa=>!(a.label==lab)||same a.form f
 | []=>rfl
 | a::l=>by
  have ih:=qqh lab f l;by_cases h1:a.label=lab
  ·have e2:woG lab f (a::l)=if same a.form f=true then woG lab f l else ([],false):=by rw[woG,if_neg (by simpa using h1)]
   rw[e2,Ks,show(a.label==lab)=true by simpa using h1];cases hs:same a.form f
   ·rfl
   ·rw[if_pos rfl,ih];rfl
  ·have e2:woG lab f (a::l)=(a::(woG lab f l).1,(woG lab f l).2):=by rw[woG,if_pos h1]
   rw[e2,Ks,show(a.label==lab)=false by simpa using h1];show(woG lab f l).2=_
   rw[ih];rfl
end
section
open Go.RowKit
theorem zoi (a:An)(l:List An)(k:Int):zfv (a::l) k=if a.label=k then some a.form else zfv l k:=by
 unfold zfv
 rw[List.find?_cons]
 by_cases h:a.label=k
 ·rw[if_pos h,show(a.label==k)=true by simpa using h];rfl
 ·rw[if_neg h,show(a.label==k)=false by simpa using h]
theorem zzy (x:An):∀l:List An,(l.map An.label).Pairwise (·<·)->(zfv l x.label=none/\(puS l x).2=true/\(puS l x).1.Perm (x::l))\/∃f,zfv l x.label=some f/\(puS l x).2=same f x.form/\(puS l x).1=l
 | [],_=>Or.inl ⟨rfl,rfl,Jr _⟩
 | a::l,hs=>by
  rw[Qc,Jf]at hs;rw[zoi];unfold puS;by_cases h1:a.label<x.label
  ·rw[if_pos h1,if_neg Y0];rcases zzy x l hs.2 with⟨k1,k2,k3⟩|⟨f,k1,k2,k3⟩
   ·exact Or.inl ⟨k1,k2,(k3.cons a).trans (List.Perm.swap x a l)⟩
   ·exact Or.inr ⟨f,k1,k2,by rw[k3]⟩
  ·rw[if_neg h1];by_cases h2:a.label=x.label
   ·rw[if_pos h2,if_pos h2];exact Or.inr ⟨a.form,rfl,rfl,rfl⟩
   ·rw[if_neg h2,if_neg h2];refine Or.inl ⟨zhn.2 λb hb=>?_,rfl,Jr _⟩;have:=hs.1 _ (Jz hb);omega
theorem zqa:∀(xs out:List An),okZ out->okA xs->(puL out xs).2=zr2 out xs/\((puL out xs).2=true->(puL out xs).1.Perm (mrg out xs))
 | [],out,_,_=>⟨rfl,λ_=>by unfold puL mrg;simp⟩
 | x::xs,out,ho,hx=>by
  have hnx:∀y∈xs,x.label≠y.label:=λy hy e=>by
   have:=hx.1;unfold aNd at this;rw[Qc,Kx]at this;exact this.1 (e▸Jz hy)
  have hxs:okA xs:=⟨(Kx.1 hx.1).2,λa ha=>hx.2 a (by simp[ha])⟩;have hm:zr2 out (x::xs)=((match zfv out x.label with|some f=>same f x.form|none=>true)&&zr2 out xs):=by unfold zr2;rw[Ks];rfl
  unfold puL;rcases zzy x out ho.2 with⟨k1,k2,k3⟩|⟨f,k1,k2,k3⟩
  ·have hok:=zvo ho.1 (hx.2 x (by simp)) k2 ho.2;rw[if_pos k2];obtain⟨i1,i2⟩:=zqa xs _ ⟨hok.1,hok.2.1⟩ hxs;have hag:∀y∈xs,zfv (puS out x).1 y.label=zfv out y.label:=λy hy=>by
    rw[zhc k3 hok.1.1,zoi,if_neg (hnx y hy)]
   have e1:zr2 (puS out x).1 xs=zr2 out xs:=by
    unfold zr2;rw[Kp,Qq,Qq];exact⟨λh y hy=>by rw[<-hag y hy];exact h y hy,λh y hy=>by rw[hag y hy];exact h y hy⟩
   refine⟨by rw[i1,e1,hm,k1,Qv],λh=>(i2 h).trans ?_⟩;unfold mrg;rw[Jo,k1];simp only[Option.isNone_none,if_true];have e2:(xs.filter λa=>(zfv (puS out x).1 a.label).isNone)=xs.filter λa=>(zfv out a.label).isNone:=List.filter_congr λy hy=>by rw[hag y hy]
   rw[e2]
   exact(k3.append_right _).trans (by
    rw[Ja]
    exact List.perm_middle.symm)
  ·have e3:(puS out x).1=out:=k3;rw[k2,e3];cases hs:same f x.form
   ·rw[if_neg (by simp)];refine⟨by rw[hm,k1];show false=(same f x.form&&_);rw[hs];rfl,λh=>by cases h⟩
   ·rw[if_pos rfl];obtain⟨i1,i2⟩:=zqa xs out ho hxs;refine⟨by rw[i1,hm,k1];show _=(same f x.form&&_);rw[hs];rfl,λh=>(i2 h).trans ?_⟩;unfold mrg;rw[Jo,k1];simp
end
section
open Go.RowKit
theorem zjc {α:Type}(a b:α):same a b=same b a:=by
 rw[Kp,zb1,zb1]
 exact⟨λh=>h.symm,λh=>h.symm⟩
theorem qeb {f:Fm}(h:f.forms=true)(ho:f.op=4\/f.op=5\/f.op=6\/f.op=7):f=mkF f.op f.parts:=by
 rw[Fm.forms_eq,Qb]at h
 have h:=h.1
 unfold Fm.here at h
 obtain⟨o,a,v,ps⟩:=f
 have key:a.none=true/\v=[]:=by
  have ho:o=4\/o=5\/o=6\/o=7:=ho;rcases ho with rfl|rfl|rfl|rfl<;>simp[zk6,isQ,Fm.op,Fm.atom,Fm.var]at h<;>exact⟨h.1.2,h.2⟩
 obtain⟨n,xs⟩:=a
 have h1:n=[]/\xs=[]:=by simpa[Tm.none,Tm.name,Tm.args]using key.1
 obtain⟨rfl,rfl⟩:=h1
 obtain rfl:=key.2
 rfl
theorem zwg {f:Fm}(h:f.forms=true)(op:Int)(ho:op=4\/op=5\/op=6\/op=7)(ps:List Fm):same f (mkF op ps)=(f.op==op&&same f.parts ps):=by
 rw[Kp,Qb,zb1,zb1,Q9]
 constructor
 ·rintro rfl;exact⟨rfl,rfl⟩
 ·rintro⟨e1,e2⟩;have:=qeb h (by rw[e1];exact ho);rw[e1,e2]at this;exact this
theorem qh4 (f q:Fm)(op:Int)(t:Tm)(ho:op=8\/op=9)(hq:q.good=true)(hqp:∀x∈q.parts,x.good=true)(ht:t.good=true)(hf:f.good=true):qcv f q op t=qgp q op t f:=by
 unfold qcv qgp
 by_cases e:q.op=op
 ·congr 1
  have hfo:=zbp hq;have hl:=(zgy hfo).2.2 (by rw[e];exact ho);obtain⟨g,hg⟩:=zgv hl;have hgg:=hqp g (by rw[hg];simp);have hv:za9 q.var=true:=by
   rw[Fm.forms_eq,Qb]at hfo;have h:=hfo.1;unfold Fm.here at h;rcases ho with rfl|rfl<;>rw[e]at h<;>simp[zk6,isQ]at h<;>exact h.2
  have hn:t.names=true:=by unfold Tm.good at ht;rw[Qb]at ht;exact ht.2
  unfold sbs pbs;rw[hg];show((sbF q.var t g).2&&same (sbF q.var t g).1 f)=((zbs q.var t g).2&&same (zbs q.var t g).1 f)
  have h1:=zp8 q.var t hv hn g (zbp hgg);obtain⟨_,h2⟩:=zqh q.var t hv hn g (zbp hgg);unfold sbF;rw[hgg,hv,ht];simp only[Qv];rw[h1];rw[Kp];constructor
  ·intro h;split at h
   ·rename_i hc;rw[Qb]at hc;rw[h2 hc.1 (zbp hc.2)]at h;rw[hc.1];exact h
   ·rename_i hc;cases h
  ·intro h;rw[Qb,zb1]at h;obtain⟨k1,k2⟩:=h;have k3:(zbs q.var t g).1.good=true:=by rw[k2];exact hf
   rw[if_pos (by rw[k1,k3];rfl)];rw[h2 k1 (zbp k3),k2];simp[zb1]
 ·have:(q.op==op)=false:=by simpa using e
  rw[this];rfl
end
section
open Go.RowKit
theorem zkb {f q:Fm}(h:f.good=true)(hm:q∈f.parts):q.good=true:=by
 unfold Fm.good at h⊢
 rw[Qb,Q2]at h⊢
 refine⟨?_,zoy h.2 hm⟩
 have:=zbz Fm.nodes f.parts q hm
 have:=f.nodes_eq
 omega
theorem sh_eq (p:Nt)(hs:stI p true=true)(hf:∀q∈p.parts,q.form.good=true):shI p=(spS p&&(!(p.rule==18)||(sbs ((p.parts.map Nt.form).getD 0 zF) p.term).2)):=by
 obtain⟨h1,h2,h3,h4,h5,_⟩:=zfi hs
 obtain⟨r,c,l,t,ps⟩:=p
 have hf:∀q∈ps,q.form.good=true:=hf
 have h1:zbd r=(ps.length:Int):=h1
 have h2:c.good=true:=h2
 have h5:(if inB r 15 18=true then t.good else t.none)=true:=h5
 obtain⟨n0,n2,n3,n1⟩:=zf6 h1
 have hcp:∀x∈c.parts,x.good=true:=λx hx=>zkb h2 hx
 rcases zwe (r:=r) Y0 with h|h|h|h|h|h|h|h|h|h|h|h|h|h|h|h|h|h<;>subst h
 ·rfl
 ·show(c.op==1)=_;simp[spS,Nt.rule,Nt.form]
 ·show(_==(2:Int))=((_==(2:Int))&&true);rw[Kz]
 ·show(_==(2:Int))=((_==(2:Int))&&true);rw[Kz]
 ·obtain⟨p0,p1,rfl⟩:=zp9 (n2 (by decide));show(c.op==5&&same c.parts [p0.form,p1.form])=(same c (mkF 5 [p0.form,p1.form])&&true)
  rw[zwg (f:=c) (zbp h2) 5 Y0,Kz]
 ·obtain⟨p0,rfl⟩:=zgv (n1 (by decide));show(p0.form.op==5&&same (p0.form.parts.getD 0 (mkF 0 [])) c)=((p0.form.op==5&&same c (p0.form.parts.getD 0 (mkF 0 [])))&&true)
  rw[zjc,Kz]
 ·obtain⟨p0,rfl⟩:=zgv (n1 (by decide));show(p0.form.op==5&&same (p0.form.parts.getD 1 (mkF 0 [])) c)=((p0.form.op==5&&same c (p0.form.parts.getD 1 (mkF 0 [])))&&true)
  rw[zjc,Kz]
 ·obtain⟨p0,rfl⟩:=zgv (n1 (by decide));show(c.op==6&&same (c.parts.getD 0 (mkF 0 [])) p0.form)=((c.op==6&&same p0.form (c.parts.getD 0 (mkF 0 [])))&&true)
  rw[zjc,Kz]
 ·obtain⟨p0,rfl⟩:=zgv (n1 (by decide));show(c.op==6&&same (c.parts.getD 1 (mkF 0 [])) p0.form)=((c.op==6&&same p0.form (c.parts.getD 1 (mkF 0 [])))&&true)
  rw[zjc,Kz]
 ·show _=(_&&true);rw[Kz];rfl
 ·obtain⟨p0,rfl⟩:=zgv (n1 (by decide));show(c.op==7&&same (c.parts.getD 1 (mkF 0 [])) p0.form)=((c.op==7&&same p0.form (c.parts.getD 1 (mkF 0 [])))&&true)
  rw[zjc,Kz]
 ·obtain⟨p0,p1,rfl⟩:=zp9 (n2 (by decide));show(p0.form.op==7&&same p0.form.parts [p1.form,c])=(same p0.form (mkF 7 [p1.form,c])&&true)
  rw[zwg (zbp (hf p0 (Kb ..))) 7 Y0,Kz]
 ·show _=(_&&true);rw[Kz];rfl
 ·obtain⟨p0,p1,rfl⟩:=zp9 (n2 (by decide));show(p0.form.op==4&&same p0.form.parts [p1.form]&&c.op==2)=((c.op==2&&same p0.form (mkF 4 [p1.form]))&&true)
  rw[zwg (zbp (hf p0 (Kb ..))) 4 Y0,Kz,Bool.and_comm]
 ·obtain⟨p0,rfl⟩:=zgv (n1 (by decide));show(za9 t.name&&qcv p0.form c 8 t)=((za9 t.name&&qgp c 8 t p0.form)&&true)
  rw[qh4 p0.form c 8 t (Or.inl rfl) h2 hcp h5 (hf p0 (Kb ..)),Kz]
 ·obtain⟨p0,rfl⟩:=zgv (n1 (by decide));show qcv c p0.form 8 t=(qgp p0.form 8 t c&&true)
  rw[qh4 c p0.form 8 t (Or.inl rfl) (hf p0 (Kb ..)) (λx hx=>zkb (hf p0 (Kb ..)) hx) h5 h2,Kz]
 ·obtain⟨p0,rfl⟩:=zgv (n1 (by decide));show qcv p0.form c 9 t=(qgp c 9 t p0.form&&true)
  rw[qh4 p0.form c 9 t (Or.inr rfl) h2 hcp h5 (hf p0 (Kb ..)),Kz]
 ·obtain⟨p0,p1,rfl⟩:=zp9 (n2 (by decide));show(p0.form.op==9&&za9 t.name&&((sbs p0.form t).2&&same p1.form c))=((p0.form.op==9&&same p1.form c&&za9 t.name)&&(sbs p0.form t).2)
  cases (p0.form.op==9)<;>cases za9 t.name<;>cases (sbs p0.form t).2<;>cases same p1.form c<;>rfl
end
section
open Go.RowKit
theorem zo4 (n:Str)(t:Tm):∀f:Fm,f.forms=true->(zbs n t f).2=true->(zbs n t f).1.forms=true:=zck λo a v ps ih hf h=>by
 have hP:=zqw n t (.mk o a v ps)
 have hf0:=hf
 rw[Fm.forms_eq,Qb]at hf0
 obtain⟨hh,hps⟩:=hf0
 have hps:∀x∈ps,x.forms=true:=Qq.1 hps
 cases h3:o==3
 ·have ha:a=.mk [] []:=znf hh h3;rw[hP]at h⊢
  change (if(o==3)=true then _ else if(isQ o&&_)=true then _ else if(isQ o&&_)=true then _ else (Fm.mk o (.mk [] []) v ((ps.takeWhile λx=>(zbs n t x).2).map λx=>(zbs n t x).1),ps.all λx=>(zbs n t x).2):Fm×Bool).2=true at h
  change (if(o==3)=true then _ else if(isQ o&&_)=true then _ else if(isQ o&&_)=true then _ else (Fm.mk o (.mk [] []) v ((ps.takeWhile λx=>(zbs n t x).2).map λx=>(zbs n t x).1),ps.all λx=>(zbs n t x).2):Fm×Bool).1.forms=true
  rw[h3,if_neg (by simp)]at h⊢;split
  ·exact hf
  ·rename_i h1;rw[if_neg h1]at h;split
   ·rename_i h2;rw[if_pos h2]at h;cases h
   ·rename_i h2;rw[if_neg h2]at h;have h1:(ps.all λx=>(zbs n t x).2)=true:=h;have hA:=Qq.1 h1;have hw:(ps.takeWhile λx=>(zbs n t x).2)=ps:=by
     have:=(zda (l:=ps) (p:=λx=>(zbs n t x).2) (k:=ps.length) (Qz _) (by rw[K8];exact hA) λh=>absurd h (Yk _)).1;rw[this,K8]
    rw[hw,<-ha];show(Fm.mk o a v (ps.map λx=>(zbs n t x).1)).forms=true
    rw[zhx,Qb];refine⟨zmq (f:=.mk o a v ps) hh h3 (by show(ps.map _).length=ps.length;rw[Qa]),Qq.2 λy hy=>?_⟩;obtain⟨x,hx,rfl⟩:=Ka.1 hy;exact ih x hx (hps x hx) (hA x hx)
 ·have ho3:o=3:=by simpa using h3
  rw[hP]at h⊢
  change (if(o==3)=true then (Fm.mk o (zez (bnd n t) a) v [],(zez (bnd n t) a).atomOk)else _:Fm×Bool).2=true at h
  change (if(o==3)=true then (Fm.mk o (zez (bnd n t) a) v [],(zez (bnd n t) a).atomOk)else _:Fm×Bool).1.forms=true
  rw[h3,if_pos rfl]at h⊢;have h9:(zez (bnd n t) a).atomOk=true:=h;show(Fm.mk o (zez (bnd n t) a) v []).forms=true
  rw[zhx,Qb];refine⟨?_,rfl⟩;subst ho3;unfold Fm.here at hh⊢
  change (decide (ps.length=0)&&a.atomOk&&(v==[]))=true at hh
  change (decide (([]:List Fm).length=0)&&(zez (bnd n t) a).atomOk&&(v==[]))=true
  simp only[Qb]at hh;rw[h9,hh.2];rfl
theorem zoz (n:Str)(t:Tm):∀f:Fm,f.forms=true->(zbs n t f).2=true->(zbs n t f).1.nodes=f.nodes:=zck λo a v ps ih hf h=>by
 have hP:=zqw n t (.mk o a v ps)
 have hf0:=hf
 rw[Fm.forms_eq,Qb]at hf0
 obtain⟨hh,hps⟩:=hf0
 have hps:∀x∈ps,x.forms=true:=Qq.1 hps
 cases h3:o==3
 ·rw[hP]at h⊢
  change (if(o==3)=true then _ else if(isQ o&&_)=true then _ else if(isQ o&&_)=true then _ else (Fm.mk o (.mk [] []) v ((ps.takeWhile λx=>(zbs n t x).2).map λx=>(zbs n t x).1),ps.all λx=>(zbs n t x).2):Fm×Bool).2=true at h
  change (if(o==3)=true then _ else if(isQ o&&_)=true then _ else if(isQ o&&_)=true then _ else (Fm.mk o (.mk [] []) v ((ps.takeWhile λx=>(zbs n t x).2).map λx=>(zbs n t x).1),ps.all λx=>(zbs n t x).2):Fm×Bool).1.nodes=_
  rw[h3,if_neg (by simp)]at h⊢;split
  ·rfl
  ·rename_i h1;rw[if_neg h1]at h;split
   ·rename_i h2;rw[if_pos h2]at h;cases h
   ·rename_i h2;rw[if_neg h2]at h;have h1:(ps.all λx=>(zbs n t x).2)=true:=h;have hA:=Qq.1 h1;have hw:(ps.takeWhile λx=>(zbs n t x).2)=ps:=by
     have:=(zda (l:=ps) (p:=λx=>(zbs n t x).2) (k:=ps.length) (Qz _) (by rw[K8];exact hA) λh=>absurd h (Yk _)).1;rw[this,K8]
    rw[hw];show(Fm.mk o (.mk [] []) v (ps.map λx=>(zbs n t x).1)).nodes=_
    rw[Fm.nodes_eq,Fm.nodes_eq];show 1+((ps.map λx=>(zbs n t x).1).map Fm.nodes).sum=1+(ps.map Fm.nodes).sum
    rw[Kw];show 1+(ps.map λx=>(zbs n t x).1.nodes).sum=_
    rw[Kv (g:=Fm.nodes) λx hx=>ih x hx (hps x hx) (hA x hx)]
 ·have ho3:o=3:=by simpa using h3
  obtain⟨_,hp⟩:=zg9 (f:=.mk o a v ps) hh ho3;have hp:ps=[]:=hp;rw[hP]
  change (if(o==3)=true then (Fm.mk o (zez (bnd n t) a) v [],(zez (bnd n t) a).atomOk)else _:Fm×Bool).1.nodes=_
  rw[h3,if_pos rfl,hp,Fm.nodes_eq,Fm.nodes_eq];rfl
theorem qh5 (q:Fm)(t:Tm)(ho:q.op=8\/q.op=9)(hq:q.good=true)(ht:t.good=true):(sbs q t).2=(pbs q t).2/\((sbs q t).2=true->(sbs q t).1=(pbs q t).1):=by
 have hfo:=zbp hq
 obtain⟨g,hg⟩:=zgv ((zgy hfo).2.2 ho)
 have hgg:=zkb hq (show g∈q.parts by rw[hg];simp)
 have hv:za9 q.var=true:=by
  rw[Fm.forms_eq,Qb]at hfo;have h:=hfo.1;unfold Fm.here at h;rcases ho with e|e<;>rw[e]at h<;>simp[zk6,isQ]at h<;>exact h.2
 have hn:t.names=true:=by unfold Tm.good at ht;rw[Qb]at ht;exact ht.2
 unfold sbs pbs
 rw[hg]
 show(sbF q.var t g).2=(zbs q.var t g).2/\((sbF q.var t g).2=true->(sbF q.var t g).1=(zbs q.var t g).1)
 have h1:=zp8 q.var t hv hn g (zbp hgg)
 obtain⟨_,h2⟩:=zqh q.var t hv hn g (zbp hgg)
 unfold sbF
 rw[hgg,hv,ht]
 simp only[Qv]
 rw[h1]
 cases hp:(zbs q.var t g).2
 ·simp
 ·have k1:=zo4 q.var t g (zbp hgg) hp;have k2:=zoz q.var t g (zbp hgg) hp;have k3:(zbs q.var t g).1.good=true:=by
   unfold Fm.good at hgg⊢;rw[Qb,Q2]at hgg⊢;rw[k2];exact⟨hgg.1,k1⟩
  rw[k3,Yj,if_pos rfl];exact⟨rfl,λ_=>h2 hp k1⟩
end
section
open Go.RowKit
theorem qpd {p:Nt}{i n:Nat}(h:zbd p.rule=n)(hi:i<n)(hds:za2 p.rule i=true->dsS p i=(zu0 p i,true))(l:List An):(woS p i l).2=zve l p.label (za2 p.rule i) (zu0 p i)/\((woS p i l).2=true->(woS p i l).1=lft l p.label (za2 p.rule i)):=by
 have he:=zxq p.rule i n h hi
 refine⟨?_,λhk=>by rw[qq0 hk,he];rfl⟩
 unfold woS zve
 rw[he]
 cases hd:za2 p.rule i
 ·rw[if_neg (by simp)]
  symm
  rw[Qq];intro a _;simp
 ·rw[if_pos rfl,hds hd];simp only[if_true];rw[qqh];simp only[Kz]
theorem dsS_eq (p:Nt)(i:Nat)(h18:p.rule=18->sbs ((p.parts.map Nt.form).getD 0 zF) p.term=pbs ((p.parts.map Nt.form).getD 0 zF) p.term/\(pbs ((p.parts.map Nt.form).getD 0 zF) p.term).2=true):dsS p i=(zu0 p i,true):=by
 unfold dsS zu0
 by_cases h4:p.rule=4
 ·simp only[if_pos h4]
 ·simp only[if_neg h4];by_cases h10:p.rule=10
  ·simp only[if_pos h10]
  ·simp only[if_neg h10];by_cases h:p.rule=18
   ·simp only[if_pos h];obtain⟨e1,e2⟩:=h18 h;rw[e1,<-e2]
   ·simp only[if_neg h]
end
section
open Go.RowKit
theorem qis {l:Int}{d:Nat->Bool}{dis:Nat->Fm}:∀(Ls:List (List An))(i:Nat)(out' out:List An),out'.Perm out->okA out->(∀own∈Ls,okA own)->(opM l d dis i out' Ls=none/\opM l d dis i out Ls=none)\/∃r r',opM l d dis i out' Ls=some r'/\opM l d dis i out Ls=some r/\r'.Perm r:=λLs i out' out hp ho hL=>by
 have h:PermL Ls Ls:=by
  clear hL;induction Ls with
  | nil=>exact .nil
  | cons a Ls ih=>exact .cons (Jr _) ih
 exact zys h i out' out hp ho hL
theorem zun {p:Nt}{n:Nat}(hn:zbd p.rule=n)(hds:∀i,i<n->za2 p.rule i=true->dsS p i=(zu0 p i,true)):∀(Ls:List (List An))(i:Nat)(out:List An),i+Ls.length=n->okZ out->(∀own∈Ls,okZ own) →
  (znz p i out Ls).2=((opM p.label (λi=>za2 p.rule i) (zu0 p) i out Ls).isSome&&(List.range Ls.length).all λj=>!frC p (i+j)||(lft (Ls.getD j []) p.label (za2 p.rule ((i+j:Nat):Int))).all λa=>!frN p.term.name a.form) ∧
  ((znz p i out Ls).2=true->∃r,opM p.label (λi=>za2 p.rule i) (zu0 p) i out Ls=some r/\(znz p i out Ls).1.Perm r)
 | [],i,out,_,_,_=>⟨rfl,λ_=>⟨out,rfl,Jr _⟩⟩
 | own::Ls,i,out,hi,ho,hL=>by
  rw[Qg]at hi;obtain⟨w1,w2⟩:=qpd hn (show i<n by omega) (hds i Y0) own;have hown:=hL own (by simp);have hrng:(List.range (own::Ls).length).all (λj=>!frC p (i+j)||(lft ((own::Ls).getD j []) p.label (za2 p.rule ((i+j:Nat):Int))).all λa=>!frN p.term.name a.form)=((!frC p i||(lft own p.label (za2 p.rule i)).all λa=>!frN p.term.name a.form)&&(List.range Ls.length).all λj=>!frC p (i+1+j)||(lft (Ls.getD j []) p.label (za2 p.rule ((i+1+j:Nat):Int))).all λa=>!frN p.term.name a.form):=by
   rw[Qg,List.range_succ_eq_map,Ks,J8]
   congr 1
   refine congrArg _ (funext λj=>?_);show(!frC p (i+(j+1))||_)=_
   rw[show i+(j+1)=i+1+j by omega];rfl
  rw[hrng];unfold znz opM;rw[w1];cases hd:zve own p.label (za2 p.rule i) (zu0 p i)
  ·simp
  ·have hw:=w2 (by rw[w1,hd]);rw[hw];simp only[if_true,Qv];have hlok:okZ (lft own p.label (za2 p.rule i)):=zoj hown _;obtain⟨m1,m2⟩:=zqa (lft own p.label (za2 p.rule i)) out ho hlok.1;cases hfr:(frC p i&&!(lft own p.label (za2 p.rule i)).all λa=>!frN p.term.name a.form)
   ·have hfr2:(!frC p i||(lft own p.label (za2 p.rule i)).all λa=>!frN p.term.name a.form)=true:=by
     cases h1:frC p i<;>cases h2:((lft own p.label (za2 p.rule i)).all λa=>!frN p.term.name a.form)<;>rw[h1,h2]at hfr<;>first|rfl|cases hfr
    rw[hfr2,Qv,if_neg (by simp),m1];cases hm:zr2 out (lft own p.label (za2 p.rule i))
    ·simp
    ·rw[hm]at m1;have hz:=qjb ho hlok.1 m1;obtain⟨i1,i2⟩:=zun hn hds Ls (i+1) (puL out (lft own p.label (za2 p.rule i))).1 Y0 hz λo ho=>hL o (by simp[ho]);simp only[if_true];have hpm:=m2 m1;have hmo:okA (mrg out (lft own p.label (za2 p.rule i))):=zvt ho.1 hlok.1;rcases qis (l:=p.label) (d:=λi=>za2 p.rule i) (dis:=zu0 p) Ls (i+1) _ _ hpm hmo (λo ho=>(hL o (by simp[ho])).1)with⟨e1,e2⟩|⟨r,r',e1,e2,e3⟩
     ·rw[e1]at i1 i2;rw[e2];exact⟨i1,λh=>by obtain⟨r,hr,_⟩:=i2 h;cases hr⟩
     ·rw[e1]at i1 i2;rw[e2];refine⟨i1,λh=>?_⟩;obtain⟨r2,hr2,hp2⟩:=i2 h;cases hr2;exact⟨r,rfl,hp2.trans e3⟩
   ·have hfr2:(!frC p i||(lft own p.label (za2 p.rule i)).all λa=>!frN p.term.name a.form)=false:=by
     cases h1:frC p i<;>cases h2:((lft own p.label (za2 p.rule i)).all λa=>!frN p.term.name a.form)<;>rw[h1,h2]at hfr<;>first|rfl|cases hfr
    rw[hfr2,Qx,Ke,if_pos rfl];exact⟨rfl,λh=>by cases h⟩
end
section
open Go.RowKit
theorem zvs {α:Type}(l:List α)(q:α->Bool):(l.all λa=>!q a)=!l.any q:=by
 induction l with
 | nil=>rfl
 | cons a l ih=>rw[Ks,List.any_cons,ih];cases q a<;>rfl
theorem new_eq {p:Nt}{Ls:List (List An)}(h:zbd p.rule=(p.parts.length:Int))(hl:Ls.length=p.parts.length):(((List.range Ls.length).all λj=>!frC p (0+j)||(lft (Ls.getD j []) p.label (za2 p.rule ((0+j:Nat):Int))).all λa=>!frN p.term.name a.form)&&!qct p)=nwI p (zff p Ls Ls.length):=by
 obtain⟨n0,n2,n3,n1⟩:=zf6 h
 unfold nwI qct
 by_cases h15:p.rule=15
 ·have e:p.parts.length=1:=n1 Y0;rw[hl,e];have e15:(p.rule==15)=true:=by simpa using h15
  have e18:(p.rule==18)=false:=by rw[h15];rfl
  simp only[if_pos h15,e15,e18,Qv,Qx,Bool.or_false];show((((!frC p 0)||_)&&true)&&_)=_
  rw[show frC p 0=true by unfold frC;rw[e15];rfl,Kz,zvs];show((false||!(zff p Ls 1).any λa=>frN p.term.name a.form)&&!frN p.term.name p.form)=_
  rw[K0,Bool.not_or]
 ·by_cases h18:p.rule=18
  ·have e:p.parts.length=2:=n2 Y0;rw[hl,e];have e15:(p.rule==15)=false:=by simpa using h15
   have e18:(p.rule==18)=true:=by simpa using h18
   simp only[if_neg h15,if_pos h18,e15,e18,Qv,Qx,K0];show((((!frC p 0)||_)&&(((!frC p 1)||_)&&true))&&_)=_
   rw[show frC p 0=false by unfold frC;rw[e15,e18];rfl,show frC p 1=true by unfold frC;rw[e15,e18];rfl,Kz,zvs,zvs];show((true||_)&&(false||!(zff p Ls 2).any λa=>frN p.term.name a.form)&&!(frN p.term.name p.form||_))=_
   rw[Yh,Qv,K0,<-Bool.not_or]
  ·have e15:(p.rule==15)=false:=by simpa using h15
   have e18:(p.rule==18)=false:=by simpa using h18
   simp only[if_neg h15,if_neg h18,e15,e18,Qx,Bool.or_false,Qj,Kz];rw[Qq];intro j _;rw[show frC p (0+j)=false by unfold frC;rw[e15,e18];rfl];rfl
end
section
open Go.RowKit
theorem qtz (p:Nt)(sh:Bool):stI p sh=(stI p true&&sh):=by
 unfold stI
 cases sh<;>simp
theorem zzl {p:Nt}{o0 o1:List An}(h18:p.rule=18)(hb:(dsS p 1).2=false):(znz p 0 [] [o0,o1]).2=false:=by
 have hw:∀l,(woS p 1 l).2=false:=λl=>by
  unfold woS;rw[show za7 p.rule (1:Nat)=true by rw[h18];rfl,if_pos rfl,if_neg (by rw[hb];simp)]
 unfold znz
 split
 ·split
  ·rfl
  ·split
   ·unfold znz;rw[if_neg (by rw[hw];simp)]
   ·rfl
 ·rfl
theorem qor (p:Nt)(hf:∀q∈p.parts,q.form.good=true)(Ls:List (List An))(hl:Ls.length=p.parts.length)(hL:∀own∈Ls,okZ own) :
  (spR p Ls).2=(opR p Ls).isSome/\((spR p Ls).2=true->∃r,opR p Ls=some r/\(spR p Ls).1.Perm r):=by
 unfold spR opR
 rw[qtz,qfb]
 cases hs:stS p
 ·exact⟨rfl,λh=>by cases h⟩
 ·have hst:stI p true=true:=by rw[qfb,hs]
  obtain⟨s1,s2,s3,s4,s5,_⟩:=zfi hst;rw[sh_eq p hst hf];cases hp:spS p
  ·exact⟨rfl,λh=>by cases h⟩
  ·simp only[Qv];by_cases h1:p.rule=1
   ·have e18:(p.rule==18)=false:=by rw[h1];rfl
    rw[e18];simp only[Qj,Yh,if_true,if_pos h1];exact⟨rfl,λ_=>⟨_,rfl,Jr _⟩⟩
   ·simp only[if_true,if_neg h1];by_cases hbad:p.rule=18/\(sbs ((p.parts.map Nt.form).getD 0 zF) p.term).2=false
    ·obtain⟨h18,hb⟩:=hbad;have e18:(p.rule==18)=true:=by simpa using h18
     have hp2:p.parts.length=2:=(zf6 s1).2.1 Y0;obtain⟨o0,o1,rfl⟩:=zp9 (hl.trans hp2);obtain⟨q0,q1,hps⟩:=zp9 hp2;have hd:(dsS p 1).2=false:=by
      unfold dsS;rw[if_neg Y0,if_neg Y0,if_pos h18];have hop:q0.form.op=9:=by
       unfold spS at hp;simp only[h18,hps]at hp;simp at hp;exact hp.1.1
      have:=(qh5 q0.form p.term (Or.inr hop) (hf q0 (by rw[hps];simp)) (by rw[h18]at s5;exact s5)).1;rw[hps]at hb⊢;exact this.symm.trans hb
     rw[e18,hb];simp only[Qd,K0,Qp,if_false];rw[zzl h18 hd];simp only[Qp,if_false];rw[zzl h18 hd];exact⟨rfl,λh=>by cases h⟩
    ·have h18:p.rule=18->sbs ((p.parts.map Nt.form).getD 0 zF) p.term=pbs ((p.parts.map Nt.form).getD 0 zF) p.term/\(pbs ((p.parts.map Nt.form).getD 0 zF) p.term).2=true:=λh18=>by
      have hp2:p.parts.length=2:=(zf6 s1).2.1 Y0;obtain⟨q0,q1,hps⟩:=zp9 hp2;have hop:q0.form.op=9:=by
       unfold spS at hp;simp only[h18,hps]at hp;simp at hp;exact hp.1.1
      obtain⟨e1,e2⟩:=qh5 q0.form p.term (Or.inr hop) (hf q0 (by rw[hps];simp)) (by rw[h18]at s5;exact s5);rw[hps]at hbad⊢;have hb:(sbs q0.form p.term).2=true:=by
       cases h:(sbs q0.form p.term).2 with
       | true=>rfl
       | false=>exact absurd ⟨h18,h⟩ hbad
      exact⟨Prod.ext (e2 hb) e1,e1.symm.trans hb⟩
     have hg:(!(p.rule==18)||(sbs ((p.parts.map Nt.form).getD 0 zF) p.term).2)=true:=by
      by_cases h:p.rule=18
      ·rw[(h18 h).1,(h18 h).2];simp
      ·rw[show(p.rule==18)=false by simpa using h];rfl
     rw[hg];simp only[if_true];obtain⟨a1,a2⟩:=zun s1 (λi _ _=>dsS_eq p i h18) Ls 0 [] Y0 zwz hL;have hne:=new_eq s1 hl;have hop:opN p Ls (zu0 p) 0 []=opM p.label (λi=>za2 p.rule i) (zu0 p) 0 [] Ls:=rfl;rw[hop,<-hne];cases hn:(znz p 0 [] Ls).2
     ·rw[hn]at a1;simp only[Qp,if_false];rw[hn];refine⟨?_,λh=>by cases h⟩;cases ho:opM p.label (λi=>za2 p.rule i) (zu0 p) 0 [] Ls with
      | none=>rfl
      | some r =>
       rw[ho,Jv,Qv]at a1;rw[<-a1];rfl
     ·obtain⟨r,hr,hperm⟩:=a2 hn;rw[hn,hr,Jv,Qv]at a1;rw[hr,<-a1];simp only[if_true,Kj,Qv];cases qct p
      ·exact⟨rfl,λ_=>⟨r,rfl,hperm⟩⟩
      ·exact⟨rfl,λh=>by cases h⟩
end
end Go.Proofs.YtnemmlahbbbobaaGreat
