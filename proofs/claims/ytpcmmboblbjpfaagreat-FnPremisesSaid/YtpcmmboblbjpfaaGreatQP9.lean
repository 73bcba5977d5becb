/-
  The walk over plain data, and contracts of functions of the program and of its laws.
  Conditions: those that each theorem names.
-/
import Derived.Test.YtpcmmboblbjpfaaGreatQP8
import Derived.Test.YtpcmmboblbjpfaaGreatQP7
import Derived.Test.YtpcmmboblbjpfaaGreatQP5
import Derived.Lib.Walk
import Derived.Lib.SliceRun
import Derived.Lib.AppendZeros
import Derived.Test.YtpcmmboblbjpfaaGreatQP6
namespace Go.Proofs.YtpcmmboblbjpfaaGreat
set_option linter.unusedSimpArgs false
set_option linter.unusedVariables false
set_option linter.unusedSectionVars false
set_option maxRecDepth 4000
set_option maxHeartbeats 8000000
section
open Go.RowKit
theorem qle {m:Str}(h:za9 m=true)(xs:List Tm):(Tm.mk m xs).names=decide (xs.length=0):=by rw[Tm.names_eq];exact if_pos h
theorem qjt {m:Str}(h:¬za9 m=true)(xs:List Tm):(Tm.mk m xs).names=(zcs m&&decide (xs.length<=4)&&xs.all Tm.names):=by rw[Tm.names_eq];exact if_neg h
def nmA (a:Tm):Bool:=if(a.name==[61])=true then decide (a.args.length=2)&&a.args.all Tm.names else zcs a.name&&a.names
theorem zpz (a:Tm):a.atomOk=(nmA a&&zd5 a):=by
 unfold Tm.atomOk nmA Tm.good
 split
 ·rw[Yj,Bool.and_comm (zd5 a),Yj]
 ·rw[Bool.and_comm (zd5 a),Yj]
theorem nmA_eq {a:Tm}(h:nmA a=true):za9 a.name=false/\a.args.all Tm.names=true:=by
 unfold nmA at h
 split at h
 ·rename_i he;have he:a.name=[61]:=by simpa using he
  rw[Qb]at h;rw[he];exact⟨by decide,h.2⟩
 ·rw[Qb]at h;have hv:=zle h.1;have h2:=h.2;rw[Tm.names_eq,hv,if_neg (by simp)]at h2;simp only[Qb]at h2;exact⟨hv,h2.2⟩
theorem ztj {α:Type}(f g:α->Nat):∀(xs:List α),(∀x∈xs,f x<=g x)->(xs.map f).sum<=(xs.map g).sum
 | [],_=>Qz _
 | x::xs,H=>by
  have:=H x (by simp);have:=ztj f g xs fun y hy=>H y (by simp[hy]);rw[Qg,Qg,Q2,Q2];omega
theorem ztu {α:Type}(f:α->Nat):∀xs:List α,(xs.map fun x=>8*f x).sum=8*(xs.map f).sum
 | []=>rfl
 | x::xs=>by rw[Qg,Q2,ztu f xs,Qg,Q2];omega
theorem qas {α:Type}(w:α->Nat):∀xs:List α,(xs.map fun x=>1+w x).sum=xs.length+(xs.map w).sum
 | []=>rfl
 | a::l=>by rw[Qg,Q2,qas w l,Qc,Qg,Q2];omega
theorem zpk {xs:List Tm}(H:∀x∈xs,1+x.wt<=8*x.nodes):xs.length+(xs.map Tm.wt).sum<=8*(xs.map Tm.nodes).sum:=by
 rw[<-qas,<-ztu]
 exact ztj _ _ xs H
theorem ztx:∀a:Tm,a.names=true->1+a.wt<=8*a.nodes:=zby fun m xs ih h=>by
 have hw:(Tm.mk m xs).wt=m.length+xs.length+(xs.map Tm.wt).sum:=Tm.wt_eq _
 have hn:(Tm.mk m xs).nodes=1+(xs.map Tm.nodes).sum:=Tm.nodes_eq _
 rw[hw,hn]
 by_cases hm:za9 m=true
 ·rw[qle hm]at h;have hx:xs=[]:=Q7.1 (Jj h);subst hx;unfold za9 inB at hm;simp only[Qb,Qm]at hm;simp only[Qh,Ku,Qd];omega
 ·rw[qjt hm]at h;simp only[Qb]at h;have h1:zcs m=true:=h.1.1;unfold zcs inB at h1;simp only[Qb,Qm]at h1;have h2:=zpk fun x hx=>ih x hx (Qn.1 h.2 x hx);omega
theorem zpx {a:Tm}(h:a.atomOk=true):a.wt<=512:=by
 rw[zpz,Qb]at h
 obtain⟨h1,h2⟩:=h
 have h4:=(nmA_eq h1).2
 have hl:a.name.length<=6:=by
  unfold nmA at h1;split at h1
  ·rename_i he;rw[Kr.1 he];simp
  ·rw[Qb]at h1;have h1:=h1.1;unfold zcs inB at h1;simp only[Qb,Qm]at h1;omega
 unfold zd5 at h2
 simp only[Qb,Qm]at h2
 have hn:=a.nodes_eq
 have hw:=a.wt_eq
 have h5:=zpk fun x hx=>ztx x (Qn.1 h4 x hx)
 omega
end
section
open Go.RowKit
theorem zc8 {α:Type}{xs:List α}{k:Nat}(h:k<xs.length)(d:α):xs.getD k d=xs[k]:=by rw[List.getD_eq_getElem?_getD,List.getElem?_eq_getElem h];rfl
end
section
open Go.RowKit
theorem zz2 {α:Type}(a b:α):same a b=same b a:=by
 rw[Kq,zdk,zdk];exact eq_comm
end
section
open Go.RowKit
theorem zvb {f:Fm}(h:f.here=true)(hq:isQ f.op=false):f.var=[]:=by
 unfold Fm.here at h
 rw[hq]at h
 simp only[Qp,if_false]at h
 (repeat' split at h)<;>first|(simp only[Qb,Kr]at h;exact h.2)|cases h
end
section
open Go.RowKit
theorem zrw {f:Fm}(hf:f.forms=true):∀p∈f.parts,p.forms=true:=by
 rw[Fm.forms_eq,Qb]at hf
 exact Qn.1 hf.2
end
section
open Go.RowKit
theorem qa5 {o:Int}{a:Tm}{v:Str}{xs:List Fm}(h:(Fm.mk o a v xs).forms=true):(Fm.mk o a v xs).here=true/\∀x∈xs,x.forms=true:=by
 rw[Fm.forms_eq,Qb]at h
 exact⟨h.1,Qn.1 h.2⟩
theorem qhu {o:Int}(h3:(o==3)=true){a:Tm}{v:Str}{xs:List Fm}(h:(Fm.mk o a v xs).here=true):o=3/\xs=[]/\v=[]/\a.atomOk=true:=by
 have e:o=3:=by simpa using h3
 subst e
 rw[zxn]at h
 simp only[show((3:Int)==1||(3:Int)==2)=false from rfl,Qp,if_false,h3,if_true,Qb,Qm,Kr]at h
 exact⟨rfl,Q7.1 h.1.1,h.2,h.1.2⟩
theorem zhd {t:Tm}(h:t.good=true):t.names=true:=by unfold Tm.good at h;rw[Qb]at h;exact h.2
theorem zus:∀f:Fm,f.forms=true->f.wt<=520*f.nodes:=zcc fun o a v xs ih hf=>by
 obtain⟨hh,hx⟩:=qa5 hf
 have hw:(Fm.mk o a v xs).wt=a.wt+v.length+xs.length+(xs.map Fm.wt).sum:=Fm.wt_eq _
 have hn:(Fm.mk o a v xs).nodes=1+(xs.map Fm.nodes).sum:=Fm.nodes_eq _
 have hs:(xs.map Fm.wt).sum<=(xs.map fun x=>520*x.nodes).sum:=ztj _ _ xs fun x hm=>ih x hm (hx x hm)
 have hs2:(xs.map fun x=>520*x.nodes).sum=520*(xs.map Fm.nodes).sum:=by
  clear hs hw hn hx hh hf ih;induction xs with
  | nil=>rfl
  | cons x xs ih2=>rw[Qg,Q2,ih2,Qg,Q2];omega
 rw[hw,hn]
 cases h3:o==3
 ·have h3':((Fm.mk o a v xs).op==3)=false:=h3;have ha:a=.mk [] []:=zpa hh h3';have haw:a.wt=0:=by rw[ha];rfl
  have hl:xs.length<=2/\v.length<=4:=by
   rcases zcu hf with⟨h1,h2⟩|⟨p,h1,_⟩|⟨o',p,q,_,h1,_⟩|⟨o',v',p,ho,h1,_⟩
   ·have h1:xs=[]:=h1;refine⟨by rw[h1];simp,?_⟩;have:=zvb hh (by rcases h2 with h|h|h<;>(rw[h];rfl));have this:v=[]:=this;rw[this];simp
   ·cases h1;exact⟨by simp,by simp⟩
   ·cases h1;exact⟨by simp,by simp⟩
   ·cases h1;refine⟨by simp,?_⟩;have:=zqj hh (by rcases ho with h|h<;>(rw[show(Fm.mk o _ v [p]).op=o from rfl,h];rfl));have this:za9 v=true:=this;unfold za9 inB at this;simp only[Qb,Qm]at this;omega
  omega
 ·obtain⟨rfl,rfl,rfl,h4⟩:=qhu h3 hh;have:=zpx h4;simp only[Qd,Qh,Ku];omega
theorem zcr {f:Fm}(h:f.good=true):f.wt<=20800:=by
 have h1:=zus f (zdy h)
 unfold Fm.good at h
 rw[Qb,Qm]at h
 omega
end
section
open Go.RowKit
theorem qg2 {t:Tm}(h:t.good=true):t.wt<=240:=by
 have h1:=ztx t (zhd h)
 unfold Tm.good zd5 at h
 simp only[Qb,Qm]at h
 omega
end
section
open Go.RowKit
def onL (r:Int):Bool:=r==1||r==3||r==5||r==7||r==9||r==11||r==13
def opL (r:Int):Int:=if r=2 then 1 else if r=3\/r=4 then 4 else if r=5\/r=6 then 5 else if r=7\/r=8 then 6 else if r=9\/r=10 then 7 else if r=11\/r=12 then 8 else if r=13\/r=14 then 9 else 0
def zur (r:Int):Bool:=r==11||r==14
def zan:Fm:=mkF 0 []
def zf6 (xs:List Fm)(gone:Int)(k:Nat):List Fm:=((List.range k).filter fun i:Nat=>!((i:Int)==gone)).map fun i=>xs.getD i zan
def zct (xs:List Fm)(gone:Int):List Fm:=zf6 xs gone xs.length
theorem zl1 (xs:List Fm)(g:Int):zf6 xs g 0=[]:=rfl
theorem zl4 (xs:List Fm)(g:Int){k:Nat}(h:k<xs.length):zf6 xs g (k+1)=zf6 xs g k++if((k:Int)==g)=true then []else [xs[k]]:=by
 unfold zf6
 rw[List.range_succ,List.filter_append,Qy]
 congr 1
 cases hb:((k:Int)==g)
 ·simp[hb,List.getD,h]
 ·simp[hb]
theorem zqn (xs:List Fm)(g:Int)(k:Nat):(zf6 xs g k).length<=k:=by
 unfold zf6
 rw[Qa]
 have:=List.length_filter_le (fun i:Nat=>!((i:Int)==g)) (List.range k)
 rw[List.length_range]at this
 exact this
theorem zdv (xs:List Fm)(g:Int):(zct xs g).Sublist xs:=by
 have h:((List.range xs.length).map fun i=>xs.getD i zan)=xs:=List.ext_getElem (by simp) fun i h1 h2=>by simp[List.getD,h2]
 have h2:(zct xs g).Sublist ((List.range xs.length).map fun i=>xs.getD i zan):=List.filter_sublist.map _
 rw[h]at h2
 exact h2
theorem zgf (xs:List Fm){g:Int}(hg:g<0):zct xs g=xs:=by
 have h:((List.range xs.length).map fun i=>xs.getD i zan)=xs:=List.ext_getElem (by simp) fun i h1 h2=>by simp[List.getD,h2]
 unfold zct zf6
 rw[List.filter_eq_self.2 fun i _=>?_]
 ·exact h
 ·simp only[Jo,Ql];omega
theorem zi7:∀{l1 l2:List Fm},l1.Sublist l2->zdm l1<=zdm l2:=fun h=>by
 induction h with
 | slnil=>exact Qz _
 | cons a _ ih=>unfold zdm at ih⊢;rw[Qc,Qg,Q2];omega
 | cons_cons a _ ih=>unfold zdm at ih⊢;rw[Qc,Qg,Q2,Qc,Qg,Q2];omega
theorem zs2 (a b:List Fm):zdm (a++b)=zdm a+zdm b:=by
 unfold zdm
 rw[Qi,Qy,J8];omega
def zbk (s:Sq)(l:Int)(more:List Fm)(r:Int)(extra:List Fm):Sq:=⟨zct s.left l++more,zct s.right r++extra⟩
def zc6 (s:Sq)(r:Int):List Fm:=if onL r=true then s.left else s.right
def zbc (s:Sq)(d:Dv):Fm:=(zc6 s d.rule).getD d.main.toNat zan
def zbr (s:Sq)(d:Dv):Bool:=inB d.main 0 ((zc6 s d.rule).length-1)&&(opL d.rule==0||(zbc s d).op==opL d.rule)
noncomputable def zet (s:Sq)(n:Str):Bool:=(s.left.any fun f=>(zbb [] (vf f [])).contains n)||s.right.any fun f=>(zbb [] (vf f [])).contains n
noncomputable def ze5 (s:Sq)(d:Dv)(f:Fm):List Sq×Bool :=
 if(!zur d.rule&&(!za9 d.term.name||zet s d.term.name))=true then ([],false)
 else if(sbF f.var d.term (f.parts.getD 0 zan)).2=true then (if onL d.rule=true then ([⟨[(sbF f.var d.term (f.parts.getD 0 zan)).1],[]⟩],true)else ([⟨[],[(sbF f.var d.term (f.parts.getD 0 zan)).1]⟩],true))
 else ([],false)
noncomputable def zbw (s:Sq)(r:Int)(f:Fm):List Sq×Bool :=
 if r=1 then ([],f.op==2||s.right.any fun g=>same f g)
 else if r=2 then ([],true)
 else if r=3 then ([⟨[],[f.parts.getD 0 zan]⟩],true)
 else if r=4 then ([⟨[f.parts.getD 0 zan],[]⟩],true)
 else if r=5 then ([⟨f.parts,[]⟩],true)
 else if r=6 then ([⟨[],[f.parts.getD 0 zan]⟩,⟨[],[f.parts.getD 1 zan]⟩],true)
 else if r=7 then ([⟨[f.parts.getD 0 zan],[]⟩,⟨[f.parts.getD 1 zan],[]⟩],true)
 else if r=8 then ([⟨[],f.parts⟩],true)
 else if r=9 then ([⟨[],[f.parts.getD 0 zan]⟩,⟨[f.parts.getD 1 zan],[]⟩],true)
 else ([⟨[f.parts.getD 0 zan],[f.parts.getD 1 zan]⟩],true)
noncomputable def adR (s:Sq)(d:Dv):List Sq×Bool :=
 if d.rule=15 then (if(d.main==0&&d.term.none&&d.cut.good)=true then ([⟨[],[d.cut]⟩,⟨[d.cut],[]⟩],true)else ([],false))
 else if(inB d.rule 1 15&&same d.cut zan&&(inB d.rule 11 14==!d.term.none)&&zbr s d)=true then (if inB d.rule 11 14=true then ze5 s d (zbc s d)else zbw s d.rule (zbc s d))
 else ([],false)
def zb6 (d:Dv)(left:Bool):Int:=if(!(d.rule==15)&&!zur d.rule&&(onL d.rule==left))=true then d.main else -1
def zea (s:Sq)(d:Dv)(x:Sq):Sq:=⟨zct s.left (zb6 d true)++x.left,zct s.right (zb6 d false)++x.right⟩
noncomputable def prR (s:Sq)(d:Dv):List Sq×Bool :=
 if((adR s d).2&&((adR s d).1.map (zea s d)).all Sq.good)=true then ((adR s d).1.map (zea s d),true)else ([],false)
noncomputable def zp7 (s:Sq)(d:Dv):List Sq×Bool:=if s.good=true then prR s d else ([],false)
noncomputable def qS (s:Sq)(d:Dv)(f:Fm):List Sq×Bool :=
  if(d.term.good&&(zbs f.var d.term (f.parts.getD 0 zan)).2)=true then
    (if d.rule=11 then ([zbk s (-1) [(zbs f.var d.term (f.parts.getD 0 zan)).1] (-1) []],true)
     else if d.rule=14 then ([zbk s (-1) [] (-1) [(zbs f.var d.term (f.parts.getD 0 zan)).1]],true)
     else if(!za9 d.term.name||zet s d.term.name)=true then ([],false)
     else if d.rule=12 then ([zbk s (-1) [] d.main [(zbs f.var d.term (f.parts.getD 0 zan)).1]],true)
     else ([zbk s d.main [(zbs f.var d.term (f.parts.getD 0 zan)).1] (-1) []],true))
  else ([],false)
noncomputable def ruS (s:Sq)(d:Dv):List Sq×Bool :=
 if((!inB d.rule 11 14&&!d.term.none)||(!(d.rule==15)&&!same d.cut zan))=true then ([],false)
 else if d.rule=15 then ([zbk s (-1) [] (-1) [d.cut],zbk s (-1) [d.cut] (-1) []],d.main==0&&d.cut.good)
 else if(inB d.rule 1 15&&zbr s d)=true then (if inB d.rule 11 14=true then qS s d (zbc s d)else ((zbw s d.rule (zbc s d)).1.map (zea s d),(zbw s d.rule (zbc s d)).2))
 else ([],false)
noncomputable def prS (s:Sq)(d:Dv):List Sq×Bool:=if((ruS s d).2&&(ruS s d).1.all Sq.good)=true then ((ruS s d).1,true)else ([],false)
theorem zeb {s:Sq}{d:Dv}(h:zbr s d=true):d.main.toNat<(zc6 s d.rule).length/\0<=d.main/\zbc s d∈zc6 s d.rule:=by
 unfold zbr inB at h
 simp only[Qb,Qm]at h
 obtain⟨⟨h1,h2⟩,_⟩:=h
 have h3:d.main.toNat<(zc6 s d.rule).length:=by omega
 refine⟨h3,h1,?_⟩
 unfold zbc
 rw[List.getD,List.getElem?_eq_getElem h3]
 exact Qj h3
theorem zdf {s:Sq}(h:s.good=true)(r:Int){x:Fm}(hx:x∈zc6 s r):x.good=true:=by
 unfold Sq.good zc3 at h
 simp only[Qb,Qn]at h
 unfold zc6 at hx
 split at hx
 ·exact h.1.2 x hx
 ·exact h.2.2 x hx
theorem zma {xs:List Fm}{ys:List Fm}{g:Int}(hx:zc3 xs=true):zc3 (zct xs g++ys)=(decide ((zct xs g).length+ys.length<=10)&&ys.all Fm.good):=by
 unfold zc3 at hx⊢
 simp only[Qb]at hx
 rw[Qi,Yf]
 have h1:(zct xs g).all Fm.good=true:=Qn.2 fun x hm=>Qn.1 hx.2 x ((zdv xs g).subset hm)
 rw[h1,Qv]
theorem zhk {s:Sq}(hs:s.good=true){l r:Int}{a:Fm}(ha:a.good=false):(zbk s l [a] r []).good=false/\(zbk s l [] r [a]).good=false:=by
 unfold Sq.good at hs⊢
 rw[Qb]at hs
 unfold zbk
 constructor
 ·show(zc3 (zct s.left l++[a])&&_)=false
  rw[zma hs.1,Ke,ha];simp
 ·show(_&&zc3 (zct s.right r++[a]))=false
  rw[zma hs.2,Ke,ha];simp
noncomputable def qdk (p:List Sq×Bool):List Sq×Bool:=if(p.2&&p.1.all Sq.good)=true then (p.1,true)else ([],false)
theorem zxy {p:List Sq×Bool}(h:p.2=false):qdk p=([],false):=by unfold qdk;rw[h];rfl
theorem zjk {p:List Sq×Bool}{x:Sq}(h:p.1=[x])(hx:x.good=false):qdk p=([],false):=by unfold qdk;rw[h,Ke,hx,Qq,Ka];rfl
theorem qfy {t:Tm}(h:t.none=true):t.good=false:=by
 unfold Tm.none at h
 rw[Qb]at h
 cases hg:t.good
 ·rfl
 ·have h1:=zhd hg;rw[Tm.names_eq]at h1;have e:t.name=[]:=by simpa using h.1
  rw[e]at h1;cases h1
theorem zdg {f:Fm}(hf:f.good=true)(ho:f.op=8\/f.op=9):(f.parts.getD 0 zan).good=true/\f.parts=[f.parts.getD 0 zan]/\za9 f.var=true:=by
 have hF:=zdy hf
 have hh:f.here=true:=by rw[Fm.forms_eq,Qb]at hF;exact hF.1
 have hv:=zqj hh (by unfold isQ;rcases ho with h|h<;>rw[h]<;>rfl)
 have h0:f.parts=[f.parts.getD 0 zan]/\f.parts.getD 0 zan∈f.parts:=by
  rcases zcu hF with⟨h1,h2⟩|⟨p,h1,_⟩|⟨o',p,q,h2,h1,_⟩|⟨o',v',p,_,h1,_⟩
  ·exfalso;omega
  ·exfalso;rw[h1]at ho;rcases ho with h|h<;>cases h
  ·exfalso;rw[h1]at ho;have:(mkF o' [p,q]).op=o':=rfl;omega
  ·rw[h1];exact⟨rfl,Qw.2 rfl⟩
 refine⟨?_,h0.1,hv⟩
 have h3:=zrw hF _ h0.2
 have h4:=zwu h0.2
 unfold Fm.good at hf⊢
 rw[Qb,Qm]at hf⊢
 exact⟨Yo,h3⟩
theorem qa2 {s:Sq}{d:Dv}(hs:s.good=true)(hr:inB d.rule 11 14=true)(hm:zbr s d=true):qdk ((ze5 s d (zbc s d)).1.map (zea s d),(ze5 s d (zbc s d)).2)=qdk (qS s d (zbc s d)):=by
 have hmem:=(zeb hm).2.2
 have hg:=zdf hs d.rule hmem
 have hr':d.rule=11\/d.rule=12\/d.rule=13\/d.rule=14:=by
  unfold inB at hr;simp only[Qb,Qm]at hr;omega
 have hop:(zbc s d).op=8\/(zbc s d).op=9:=by
  unfold zbr at hm;rw[Qb]at hm;rcases hr' with h|h|h|h<;>(rw[h]at hm;have h2:=hm.2;simp[opL]at h2;first|exact Or.inl h2|exact Or.inr h2)
 obtain⟨hpg,_,hv⟩:=zdg hg hop
 unfold ze5 qS
 generalize hf:zbc s d=f at hpg hv
 generalize f.parts.getD 0 zan=p at hpg⊢
 have hpf:=zdy hpg
 cases htg:d.term.good
 ·have e:(sbF f.var d.term p).2=false:=by unfold sbF;rw[htg];simp
  rw[e];simp only[Qq,Qp,if_false,ite_self]<;>rfl
 ·have hsg:=qgw f.var d.term hv (zhd htg) p hpf;obtain⟨_,hsp⟩:=zy8 f.var d.term hv (zhd htg) p hpf;rw[Qv];have e:sbF f.var d.term p=if((zbs f.var d.term p).2&&(zbs f.var d.term p).1.good)=true then ((zci f.var d.term p).1,true)else (mkF 0 [],false):=by
   unfold sbF;rw[htg,hpg,hv,<-hsg];simp
  cases hp2:(zbs f.var d.term p).2
  ·rw[e,hp2];simp only[Qq,Qp,if_false,ite_self]<;>rfl
  ·rw[if_pos rfl];cases hag:(zbs f.var d.term p).1.good
   ·refine Eq.trans (b:=([],false)) ?_ ?_
    ·rw[e,hp2,hag];simp only[Ka,Qp,if_false,ite_self]<;>rfl
    symm
    split
    ·exact zjk rfl (zhk hs hag).1
    ·split
     ·exact zjk rfl (zhk hs hag).2
     ·split
      ·rfl
      ·split
       ·exact zjk rfl (zhk hs hag).2
       ·exact zjk rfl (zhk hs hag).1
   ·rw[e,hp2,hag,K4,if_pos rfl,if_pos rfl,hsp hp2 (zdy hag)];generalize (zbs f.var d.term p).1=a;refine congrArg qdk ?_;rcases hr' with h|h|h|h
    ·have g:∀l,zb6 d l = -1:=fun l=>by unfold zb6;rw[h];rfl
     unfold zea;simp only[g];rw[h];simp[zur,onL,zbk]
    ·have g1:zb6 d true = -1:=by unfold zb6;rw[h];rfl
     have g2:zb6 d false=d.main:=by unfold zb6;rw[h];rfl
     unfold zea;simp only[g1,g2];rw[h];cases hc:(!za9 d.term.name||zet s d.term.name)<;>simp[zur,onL,zbk]
    ·have g1:zb6 d true=d.main:=by unfold zb6;rw[h];rfl
     have g2:zb6 d false = -1:=by unfold zb6;rw[h];rfl
     unfold zea;simp only[g1,g2];rw[h];cases hc:(!za9 d.term.name||zet s d.term.name)<;>simp[zur,onL,zbk]
    ·have g:∀l,zb6 d l = -1:=fun l=>by unfold zb6;rw[h];rfl
     unfold zea;simp only[g];rw[h];simp[zur,onL,zbk]
theorem qka (s:Sq)(d:Dv)(hs:s.good=true):prR s d=prS s d:=by
 show qdk ((adR s d).1.map (zea s d),(adR s d).2)=qdk (ruS s d)
 unfold adR ruS
 by_cases h15:d.rule=15
 ·have e0:inB d.rule 11 14=false:=by rw[h15];rfl
  have e1:(d.rule==15)=true:=by rw[h15];rfl
  have g:∀l,zb6 d l = -1:=fun l=>by unfold zb6;rw[h15];rfl
  rw[if_pos h15,if_pos h15,e0,e1];cases hn:d.term.none
  ·rw[Ka,Qq,if_neg (by simp),if_pos (by simp)];rfl
  ·rw[K4,if_neg (show ¬((!false&&!true)||(!true&&!same d.cut zan))=true by simp)];cases hc:(d.main==0&&d.cut.good)
   ·rw[if_neg (by simp)];rw[zxy rfl,zxy rfl]
   ·rw[if_pos rfl];refine congrArg qdk ?_;unfold zea;simp only[g];rfl
 ·have e1:(d.rule==15)=false:=by rw[Ql];exact h15
  rw[if_neg h15,if_neg h15,e1];cases hcz:same d.cut zan
  ·rw[if_neg (by simp),if_pos (by simp)];rfl
  ·cases hin:inB d.rule 1 15
   ·rw[if_neg (by simp),if_neg (show ¬(false&&zbr s d)=true by simp)];split<;>rfl
   ·cases hq:inB d.rule 11 14<;>cases hn:d.term.none
    ·rw[if_neg (by simp),if_pos (by simp)];rfl
    ·cases hm:zbr s d
     ·rw[if_neg (by simp),if_neg (by simp),if_neg (by simp)];rfl
     ·rw[if_pos (by simp),if_neg (by simp),if_neg (by simp),if_pos (by simp),if_neg (by simp)]
    ·cases hm:zbr s d
     ·rw[if_neg (by simp),if_neg (by simp),if_neg (by simp)];rfl
     ·rw[if_pos (by simp),if_pos (by simp),if_neg (by simp),if_pos (by simp),if_pos (by simp)];exact qa2 hs hq hm
    ·have hb:=qfy hn;cases hm:zbr s d
     ·rw[if_neg (by simp),if_neg (by simp),if_neg (by simp)];rfl
     ·rw[if_neg (by simp),if_neg (by simp),if_pos (by simp),if_pos (by simp)];unfold qS;rw[hb,Qq,if_neg (by simp)];rfl
theorem zgw {s:Sq}(hs:s.good=true):s.left.length<=10/\s.right.length<=10/\(∀x∈s.left,x.good=true)/\∀x∈s.right,x.good=true:=by
 unfold Sq.good zc3 at hs
 simp only[Qb,Qm,Qn]at hs
 exact⟨hs.1.1,hs.2.1,hs.1.2,hs.2.2⟩
theorem zga {f:Fm}(hf:f.good=true)(ho:f.op=4):∃p,f.parts=[p]:=by
 rcases zcu (zdy hf)with⟨h1,h2⟩|⟨p,h1,_⟩|⟨o',p,q,h2,h1,_⟩|⟨o',v',p,h2,h1,_⟩
 ·exfalso;omega
 ·exact⟨p,by rw[h1];rfl⟩
 ·exfalso;rw[h1]at ho;have:(mkF o' [p,q]).op=o':=rfl;omega
 ·exfalso;rw[h1]at ho;have:(Fm.mk o' (.mk [] []) v' [p]).op=o':=rfl;omega
theorem zbz {f:Fm}(hf:f.good=true)(ho:f.op=5\/f.op=6\/f.op=7):∃p q,f.parts=[p,q]:=by
 rcases zcu (zdy hf)with⟨h1,h2⟩|⟨p,h1,_⟩|⟨o',p,q,h2,h1,_⟩|⟨o',v',p,h2,h1,_⟩
 ·exfalso;omega
 ·exfalso;rw[h1]at ho;have:(mkF 4 [p]).op=4:=rfl;omega
 ·exact⟨p,q,by rw[h1];rfl⟩
 ·exfalso;rw[h1]at ho;have:(Fm.mk o' (.mk [] []) v' [p]).op=o':=rfl;omega
theorem zm0 {s:Sq}{d:Dv}(h:zbr s d=true):opL d.rule=0\/(zbc s d).op=opL d.rule:=by
 unfold zbr at h
 rw[Qb,K7,Kr,Kr]at h
 exact h.2
end
section
open Go.RowKit
theorem zqb (xs more:List Fm)(g:Int)(hx:∀x∈xs,x.wt<=1048576)(hm:∀x∈more,x.wt<=1048576)(hl:xs.length+more.length<=1048576):FC Tryz.prog 214 [.one (fmS xs),iD g,.one (fmS more)] [.one (fmS (zct xs g++more))]:=by
 refine zai Tryz.call214 Tryz.func214 rfl Yn (zau Yn) ?_
 simp -implicitDefEqProofs only[go_sem,Tryz.results214]
 refine zad Ym ?_
 simp -implicitDefEqProofs only[go_sem]
 refine zaf (fun k:Nat=>hd [(0,vT (fmS xs)),(1,vI g),(2,vT (fmS more)),(7,.one (.ow 320 (zf6 xs g k).length)),(8,vI k)] [] [(320,⟨true,5,(zf6 xs g k).map fmC,(zf6 xs g k).length,true⟩)]) (fun k=>k<=xs.length) (fun k=>xs.length-k) 0 (zac ?_) (Q3 _) ?_
 ·simp -implicitDefEqProofs only[go_sem,zl1]
 ·intro k hk;have hul:=zqn xs g k;have hul2:(zf6 xs g k).length<=4294967295:=by omega
  by_cases hlt:k<xs.length
  ·have hs:=zl4 xs g hlt;have HO:=zic xs[k] (hx _ (Qj hlt));cases hb:((k:Int)==g)
   ·rw[hb,if_neg (by simp)]at hs;have hne:((k:Int) != g)=true:=by unfold bne;rw[hb];rfl
    simp -implicitDefEqProofs only[go_sem,zae,hlt,hne,zaa xs[k]];refine callF (HO) (by simp -implicitDefEqProofs only[go_sem,zaa]) ?_;simp -implicitDefEqProofs only[go_sem,zaa];refine zad Ym ?_;simp -implicitDefEqProofs only[go_sem];refine apD true (by simp -implicitDefEqProofs only[go_sem,ne_eq,Qa,hul2]) ?_;simp -implicitDefEqProofs only[go_sem,ne_eq,Qa,hul2];refine⟨k+1,hlt,Yo,zac ?_⟩;simp -implicitDefEqProofs only[go_sem];rw[zaw Yo,hs,Qi,List.length_singleton,Qy,Kj,zaa xs[k]];exact⟨rfl,rfl⟩
   ·rw[hb,if_pos rfl,Ks]at hs;have hne:((k:Int) != g)=false:=by unfold bne;rw[hb];rfl
    simp -implicitDefEqProofs only[go_sem,hlt,hne];refine⟨k+1,hlt,Yo,zac ?_⟩;simp -implicitDefEqProofs only[go_sem];rw[zaw Yo,hs];exact⟨rfl,rfl⟩
  ·have hkn:k=xs.length:=by omega
   subst hkn;have hD:zf6 xs g xs.length=zct xs g:=rfl;rw[hD]at hul⊢;generalize zct xs g=ys at hul⊢;simp -implicitDefEqProofs only[go_sem,hlt];refine zaf (fun k:Nat=>hd [(2,vT (fmS more)),(7,.one (.ow 320 (ys.length+k))),(9,vI k)] [] [(320,⟨true,5,ys.map fmC++(more.take k).map fmC,ys.length+k,true⟩)]) (fun k=>k<=more.length) (fun k=>more.length-k) 0 (zac ?_) (Q3 _) ?_
   ·simp -implicitDefEqProofs only[go_sem,List.take_zero,Qh,Ks]
   ·intro k hk;by_cases hlt:k<more.length
    ·have HO:=zic more[k] (hm _ (Qj hlt));have hmin:ys.length+min k more.length<=4294967295:=by omega
     simp -implicitDefEqProofs only[go_sem,zae,hlt,zaa more[k]];refine callF (HO) (by simp -implicitDefEqProofs only[go_sem,zaa]) ?_;simp -implicitDefEqProofs only[go_sem,zaa];refine zad Ym ?_;simp -implicitDefEqProofs only[go_sem];refine apD true (by simp -implicitDefEqProofs only[go_sem,ne_eq,Qa,Qi,Qs,hmin]) ?_;simp -implicitDefEqProofs only[go_sem,ne_eq,Qa,Qi,Qs,hmin];refine⟨k+1,hlt,Yo,zac ?_⟩;simp -implicitDefEqProofs only[go_sem];rw[zaw Yo,Qk hlt,Qy,Kj,zaa more[k],Ji];exact⟨rfl,rfl⟩
    ·have ht:more.take k=more:=Qu Yo;simp -implicitDefEqProofs only[go_sem,hlt,ht];rw[Qy]
theorem qa6 (s:Sq)(l r:Int)(more extra:List Fm)(hx:∀x∈s.left,x.wt<=1048576)(hy:∀x∈s.right,x.wt<=1048576)(hm:∀x∈more,x.wt<=1048576)(he:∀x∈extra,x.wt<=1048576)(hl:s.left.length+more.length<=1048576)(hl2:s.right.length+extra.length<=1048576):FC Tryz.prog 159 [sqD s,iD l,.one (fmS more),iD r,.one (fmS extra)] [sqD (zbk s l more r extra)]:=by
 have H1:=zqb s.left more l hx hm hl
 have H2:=zqb s.right extra r hy he hl2
 unfold zbk
 simp only[sqD,zat]
 refine zai Tryz.call159 Tryz.func159 rfl Yn (zau Yn) ?_
 simp -implicitDefEqProofs only[go_sem,Tryz.results159]
 refine drawn Yn ?_
 simp -implicitDefEqProofs only[go_sem]
 refine zal (H1) Ym ?_
 simp -implicitDefEqProofs only[go_sem]
 refine zal (H2) Ym ?_
 simp -implicitDefEqProofs only[go_sem]
 kernel_rfl
theorem qjs (r:Int):FC Tryz.prog 75 [iD r] [bD (onL r)]:=by
 unfold onL
 cases h1:(r==1)
 ·cases h3:(r==3)
  ·cases h5:(r==5)
   ·cases h7:(r==7)
    ·cases h9:(r==9)
     ·cases h11:(r==11)
      ·cases h13:(r==13)
       ·refine zai Tryz.call75 Tryz.func75 rfl Yn (zau Yn) ?_;simp -implicitDefEqProofs only[go_sem,Tryz.results75,h1,h3,h5,h7,h9,h11,h13];rfl
       ·refine zai Tryz.call75 Tryz.func75 rfl Yn (zau Yn) ?_;simp -implicitDefEqProofs only[go_sem,Tryz.results75,h1,h3,h5,h7,h9,h11,h13];rfl
      ·refine zai Tryz.call75 Tryz.func75 rfl Yn (zau Yn) ?_;simp -implicitDefEqProofs only[go_sem,Tryz.results75,h1,h3,h5,h7,h9,h11];rfl
     ·refine zai Tryz.call75 Tryz.func75 rfl Yn (zau Yn) ?_;simp -implicitDefEqProofs only[go_sem,Tryz.results75,h1,h3,h5,h7,h9];rfl
    ·refine zai Tryz.call75 Tryz.func75 rfl Yn (zau Yn) ?_;simp -implicitDefEqProofs only[go_sem,Tryz.results75,h1,h3,h5,h7];rfl
   ·refine zai Tryz.call75 Tryz.func75 rfl Yn (zau Yn) ?_;simp -implicitDefEqProofs only[go_sem,Tryz.results75,h1,h3,h5];rfl
  ·refine zai Tryz.call75 Tryz.func75 rfl Yn (zau Yn) ?_;simp -implicitDefEqProofs only[go_sem,Tryz.results75,h1,h3];rfl
 ·refine zai Tryz.call75 Tryz.func75 rfl Yn (zau Yn) ?_;simp -implicitDefEqProofs only[go_sem,Tryz.results75,h1];rfl
theorem zyf {r:Int}(h:1<=r/\r<=14):r=1\/r=2\/r=3\/r=4\/r=5\/r=6\/r=7\/r=8\/r=9\/r=10\/r=11\/r=12\/r=13\/r=14:=by omega
theorem qds (r:Int)(h:1<=r/\r<=14):FC Tryz.prog 74 [iD r] [iD (opL r)]:=by
 rcases zyf h with rfl|rfl|rfl|rfl|rfl|rfl|rfl|rfl|rfl|rfl|rfl|rfl|rfl|rfl <;>
 ·refine zai Tryz.call74 Tryz.func74 rfl Yn (zau Yn) ?_;simp -implicitDefEqProofs only[go_sem,Tryz.results74];rfl
theorem zm4 (r:Int)(h:1<=r/\r<=14):FC Tryz.prog 207 [iD r] [bD (onL r),iD (opL r)]:=by
 rcases zyf h with rfl|rfl|rfl|rfl|rfl|rfl|rfl|rfl|rfl|rfl|rfl|rfl|rfl|rfl <;>
 ·refine zai Tryz.call207 Tryz.func207 rfl Yn (zau Yn) ?_;simp -implicitDefEqProofs only[go_sem,Tryz.results207];exact⟨rfl,rfl⟩
theorem zhy (r:Int):FC Tryz.prog 208 [iD r] [bD (zur r)]:=by
 unfold zur
 cases h:(r==11)
 ·refine zai Tryz.call208 Tryz.func208 rfl Yn (zau Yn) ?_;simp -implicitDefEqProofs only[go_sem,Tryz.results208,h];rfl
 ·refine zai Tryz.call208 Tryz.func208 rfl Yn (zau Yn) ?_;simp -implicitDefEqProofs only[go_sem,Tryz.results208,h];rfl
theorem za3 (r:Int):FC Tryz.prog 149 [iD r] [bD (inB r 11 14)]:=by
 have H:=zb2 r 11 14
 refine zai Tryz.call149 Tryz.func149 rfl Yn (zau Yn) ?_
 simp -implicitDefEqProofs only[go_sem,Tryz.results149]
 refine callF (H) Ym ?_
 simp -implicitDefEqProofs only[go_sem]
theorem ztc (xs:List Fm)(f:Fm):FC Tryz.prog 160 [.one (fmS xs),fmD f] [bD (xs.any fun g=>same f g)]:=by
 refine zfa (fun hw=>?_) Tryz.call160
 have hl:xs.length<=9223372036854775807:=by simpa[ziy,wfT]using hw.1.1
 have HS:=fun g:Fm=>zi9 g f
 simp only[fmD,zaa f]at HS⊢
 refine zai Tryz.call160 Tryz.func160 rfl Yn (zau Yn) ?_
 simp -implicitDefEqProofs only[go_sem,Tryz.results160]
 refine zaf (fun k:Nat=>hd [(0,vT (fmS xs)),(3,.one (.bx 3 0)),(5,vI k)] [(3,[.t (.int .i64 f.op),.t (.str f.atom.name),.t (tmS f.atom.args),.t (.str f.var),.t (fmS f.parts)])] []) (fun k=>k<=xs.length/\(xs.any fun g=>same f g)=((xs.drop k).any fun g=>same f g)) (fun k=>xs.length-k) 0 (zac ?_) ?_ ?_
 ·simp -implicitDefEqProofs only[go_sem]
 ·exact⟨Q3 _,by rw[List.drop_zero]⟩
 ·intro k ⟨hk,hr⟩;by_cases hlt:k<xs.length
  ·have H:=HS xs[k];simp only[zaa xs[k]]at H;rw[Qx hlt,J0,zz2]at hr;simp -implicitDefEqProofs only[go_sem,hlt];refine drawn Yn ?_;simp -implicitDefEqProofs only[go_sem,zae,hlt,zaa xs[k]];refine zal (H) Ym ?_;simp -implicitDefEqProofs only[go_sem];refine⟨Yn,fun h=>?_,fun h=>?_⟩
   ·rw[show same xs[k] f=true by simpa using h,J4]at hr;rw[hr]
   ·rw[show same xs[k] f=false by simpa using h,Km]at hr;rw[zaw Yo];exact⟨k+1,⟨hlt,hr⟩,Yo,zac Ym⟩
  ·rw[Q6 Yo]at hr;rw[hr];simp -implicitDefEqProofs only[go_sem,hlt];rfl
def vfs (xs:List Fm):List Str:=(xs.map fun x=>vf x []).flatten
theorem zt9 (xs:List Fm){k:Nat}(h:k<xs.length):vfs (xs.take (k+1))=vfs (xs.take k)++vf xs[k] []:=by
 unfold vfs
 rw[Qk h,Qy,Jv];simp
theorem zne {xs:List Fm}(hg:∀x∈xs,x.good=true):(vfs xs).length<=42000*xs.length:=by
 induction xs with
 | nil=>exact Qz _
 | cons x xs ih =>
  have h1:=ih fun y hy=>hg y (by simp[hy]);have h2:=zs1 x [];have h3:=zdp x;have h4:=zcr (hg x (by simp));have e:vfs (x::xs)=vf x []++vfs xs:=rfl;rw[e,Qi,Qc];omega
theorem zz9 (xs:List Fm)(n:Str):(vfs xs).contains n=xs.any fun f=>(zbb [] (vf f [])).contains n:=by
 induction xs with
 | nil=>rfl
 | cons x xs ih =>
  have e:vfs (x::xs)=vf x []++vfs xs:=rfl;rw[e,J0,<-ih,zdu,Kq,K7,Kh,Kh,Kh,Qt]
theorem zvm (s:Sq)(hs:s.good=true):FC Tryz.prog 217 [sqD s] [.one (zb5 (zbb (zbb [] (vfs s.left)) (vfs s.right)))]:=by
 unfold Sq.good zc3 at hs
 simp only[Qb,Qm,Qn]at hs
 obtain⟨⟨l1,g1⟩,l2,g2⟩:=hs
 have hL:=zne g1
 have hR:=zne g2
 have hI:=fun(x:Fm) (hx:x.good=true) (ys:List Str) (hy:ys.length<=1000000)=>zux x (zdy hx) (Kk (zcr hx) Yo) ys [] (by have:=zs1 x [];have:=zdp x;have:=zcr hx;omega) (by have:=zdp x;have:=zcr hx;simp only[Qd];omega)
 simp only[sqD,zat]
 refine zh2 Tryz.call217 Tryz.func217 rfl Yn (zau Yn) ?_
 simp -implicitDefEqProofs only[go_sem,Tryz.results217]
 refine zad Ym ?_
 simp -implicitDefEqProofs only[go_sem]
 refine zaf (fun k:Nat=>hd [(1,.one (.bx 1 0)),(3,.one (.ow 192 0)),(4,vI k)] [(1,[.rn (fmS s.left),.rn (fmS s.right)])] [(192,⟨true,1,(zbb [] (vfs (s.left.take k))).map fun s=>[.str s],0,true⟩)]) (fun k=>k<=s.left.length) (fun k=>s.left.length-k) 0 (zac ?_) (Q3 _) ?_
 ·simp -implicitDefEqProofs only[go_sem];rfl
 ·intro k hk;by_cases hlt:k<s.left.length
  ·have hx:=g1 _ (Qj hlt);have h3:(zbb [] (vfs (s.left.take k))).length<=1000000:=by
    have h4:=zcx (vfs (s.left.take k)) [];have h5:=zne (xs:=s.left.take k) fun x h=>g1 x (List.mem_of_mem_take h);rw[Qs]at h5;simp only[Qd]at h4;omega
   have HC:=hI _ hx _ h3;rw[<-ze0,<-zt9 _ hlt]at HC;simp only[fmD,zaa s.left[k]]at HC;simp -implicitDefEqProofs only[go_sem,zae,hlt,zaa s.left[k]];refine zad Ym ?_;simp -implicitDefEqProofs only[go_sem];refine frzO 640 rfl rfl ?_;simp -implicitDefEqProofs only[go_sem];refine zdo [1,4] [14,19,20] [] (HC) (by simp -implicitDefEqProofs only[go_sem,zb5,Qh]) (by simp -implicitDefEqProofs only[go_sem,zb5,Qh]) (by simp -implicitDefEqProofs only[go_sem,zb5,Qh]) (by simp -implicitDefEqProofs only[go_sem,zb5,Qh]) ?_;simp -implicitDefEqProofs only[go_sem,zb5,Qh];refine⟨k+1,hlt,Yo,zb0 192 672 ?_⟩;simp -implicitDefEqProofs only[go_sem];rw[zaw Yo]
  ·have ht:s.left.take k=s.left:=Qu Yo;rw[ht];have h6:(zbb [] (vfs s.left)).length<=500000:=by
    have h4:=zcx (vfs s.left) [];simp only[Qd]at h4;omega
   generalize zbb [] (vfs s.left)=P at h6⊢;simp -implicitDefEqProofs only[go_sem,hlt];refine zaf (fun k:Nat=>hd [(1,.one (.bx 1 0)),(3,.one (.ow 192 0)),(5,vI k)] [(1,[.rn (fmS s.left),.rn (fmS s.right)])] [(192,⟨true,1,(zbb P (vfs (s.right.take k))).map fun s=>[.str s],0,true⟩)]) (fun k=>k<=s.right.length) (fun k=>s.right.length-k) 0 (zac ?_) (Q3 _) ?_
   ·simp -implicitDefEqProofs only[go_sem];rfl
   ·intro k hk;by_cases hlt:k<s.right.length
    ·have hx:=g2 _ (Qj hlt);have h3:(zbb P (vfs (s.right.take k))).length<=1000000:=by
      have h4:=zcx (vfs (s.right.take k)) P;have h5:=zne (xs:=s.right.take k) fun x h=>g2 x (List.mem_of_mem_take h);rw[Qs]at h5;omega
     have HC:=hI _ hx _ h3;rw[<-ze0,<-zt9 _ hlt]at HC;simp only[fmD,zaa s.right[k]]at HC;simp -implicitDefEqProofs only[go_sem,zae,hlt,zaa s.right[k]];refine zad Ym ?_;simp -implicitDefEqProofs only[go_sem];refine frzO 1120 rfl rfl ?_;simp -implicitDefEqProofs only[go_sem];refine zdo [1,5] [29,34,35] [] (HC) (by simp -implicitDefEqProofs only[go_sem,zb5,Qh]) (by simp -implicitDefEqProofs only[go_sem,zb5,Qh]) (by simp -implicitDefEqProofs only[go_sem,zb5,Qh]) (by simp -implicitDefEqProofs only[go_sem,zb5,Qh]) ?_;simp -implicitDefEqProofs only[go_sem,zb5,Qh];refine⟨k+1,hlt,Yo,zb0 192 1152 ?_⟩;simp -implicitDefEqProofs only[go_sem];rw[zaw Yo]
    ·have ht:s.right.take k=s.right:=Qu Yo;rw[ht];simp -implicitDefEqProofs only[go_sem,hlt]
theorem zvw (s:Sq)(n:Str):(zbb (zbb [] (vfs s.left)) (vfs s.right)).contains n=zet s n:=by
 unfold zet
 rw[<-zz9,<-zz9,Kq,K7,Kh,Kh,Kh,zes,zes]
 constructor
 ·rintro(h|h|h)
  ·exact Or.inr h
  ·exact Or.inl h
  ·cases h
 ·rintro(h|h)
  ·exact Or.inr (Or.inl h)
  ·exact Or.inl h
end
section
open Go.RowKit
def rlR (o:Int)(lf:Bool)(r0:Int):Nat->Int
 | 0=>r0
 | k+1=>if(opL ((k:Int)+2)==o&&onL ((k:Int)+2)==lf)=true then (k:Int)+2 else rlR o lf r0 k
abbrev tnL:List Str:=[[89],[90],[88],[85,49]]
def CaA (code:List UInt8)(q2 q4:Cu)(xs:List Fm)(lf:Bool)(r0 r m:Int):Prop:=(xs=[]/\q4=q2/\r=r0/\m=0)\/(0<xs.length/\PC Tryz.prog 32 (za0 code q2) [.p 0,.d false (iD 5)] (za0 code q4) [(true,bD true)]/\r=r0/\m=0)\/(0<xs.length/\∃(u v:Cu)(j:Nat),PC Tryz.prog 32 (za0 code q2) [.p 0,.d false (iD 5)] (za0 code u) [(true,bD false)]/\PC Tryz.prog 29 (za0 code u) [.p 0,.d false (iD (xs.length:Int))] (za0 code v) [(true,iD (j:Int))]/\j<xs.length/\m=j/\((lf=false/\q4=v/\r=rlR (xs.getD j zrF).op lf r0 13)\/(lf=true/\∃b6,PC Tryz.prog 32 (za0 code v) [.p 0,.d false (iD 6)] (za0 code q4) [(true,bD b6)]/\r=if b6=true then 1 else rlR (xs.getD j zrF).op lf r0 13)))
def CaC (code:List UInt8)(q4 q5:Cu)(r:Int)(t:Tm):Prop:=(inB r 11 14=false/\PC Tryz.prog 32 (za0 code q4) [.p 0,.d false (iD 30)] (za0 code q5) [(true,bD false)]/\t=.mk [] [])\/(∃u v w:Cu,∃t1:Tm,(inB r 11 14=true/\u=q4\/inB r 11 14=false/\PC Tryz.prog 32 (za0 code q4) [.p 0,.d false (iD 30)] (za0 code u) [(true,bD true)])/\PC Tryz.prog 76 (za0 code u) [.p 0] (za0 code v) [(true,tmD t1)]/\((PC Tryz.prog 32 (za0 code v) [.p 0,.d false (iD 2)] (za0 code w) [(true,bD false)]/\t=t1/\q5=w)\/(∃nm:Str,PC Tryz.prog 32 (za0 code v) [.p 0,.d false (iD 2)] (za0 code w) [(true,bD true)]/\PC Tryz.prog 31 (za0 code w) [.p 0,.d true (.one (zb5 tnL))] (za0 code q5) [(true,.one (.str nm))]/\t=.mk nm [])))
def CaE (code:List UInt8)(q5 q6:Cu)(r:Int)(f:Fm):Prop:=((r==15)=false/\PC Tryz.prog 32 (za0 code q5) [.p 0,.d false (iD 30)] (za0 code q6) [(true,bD false)]/\f=zrF)\/(∃u:Cu,((r==15)=true/\u=q5\/(r==15)=false/\PC Tryz.prog 32 (za0 code q5) [.p 0,.d false (iD 30)] (za0 code u) [(true,bD true)])/\PC Tryz.prog 73 (za0 code u) [.p 0,.d false (iD 2)] (za0 code q6) [(true,fmD f)])
def CaF (code:List UInt8)(q6 q7:Cu)(m2 m3:Int):Prop:=(PC Tryz.prog 32 (za0 code q6) [.p 0,.d false (iD 30)] (za0 code q7) [(true,bD false)]/\m3=m2)\/(∃(u:Cu)(x:Int),PC Tryz.prog 32 (za0 code q6) [.p 0,.d false (iD 30)] (za0 code u) [(true,bD true)]/\PC Tryz.prog 29 (za0 code u) [.p 0,.d false (iD 4)] (za0 code q7) [(true,iD x)]/\(0<=x/\x<4)/\m3=x-1)
theorem outA (code:List UInt8)(q2:Cu)(xs:List Fm)(hl:xs.length<=100)(lf:Bool)(r0:Int)(hq:q2.code=code)(hp:q2.pos+3<=1099511627776):∃(q4:Cu)(r m:Int),q4.code=code/\q4.pos<=q2.pos+3/\CaA code q2 q4 xs lf r0 r m:=by
 by_cases hx:0<xs.length
 ·obtain⟨u,b,c1,p1,_,H1⟩:=zmf code 5 Yo q2 hq Yo;cases b
  ·obtain⟨v,j,c2,p2,o2,H2⟩:=zeh code (xs.length:Int) Yo Yo u c1 Yo;obtain⟨j,rfl⟩:∃i:Nat,j=i:=⟨j.toNat,Yo⟩;cases lf
   ·exact⟨v,_,_,c2,Yo,Or.inr (Or.inr ⟨hx,u,v,j,H1,H2,Yo,rfl,Or.inl ⟨rfl,rfl,rfl⟩⟩)⟩
   ·obtain⟨w,b6,c3,p3,_,H3⟩:=zmf code 6 Yo v c2 Yo;exact⟨w,_,_,c3,Yo,Or.inr (Or.inr ⟨hx,u,v,j,H1,H2,Yo,rfl,Or.inr ⟨rfl,b6,H3,rfl⟩⟩)⟩
  ·exact⟨u,_,_,c1,Yo,Or.inr (Or.inl ⟨hx,H1,rfl,rfl⟩)⟩
 ·exact⟨q2,_,_,hq,Yo,Or.inl ⟨Q7.1 Yo,rfl,rfl,rfl⟩⟩
theorem outC (code:List UInt8)(q4:Cu)(r:Int)(hq:q4.code=code)(hp:q4.pos+20<=1099511627776):∃(q5:Cu)(t:Tm),q5.code=code/\q5.pos<=q4.pos+20/\t.wt<=100/\CaC code q4 q5 r t:=by
 have key:∀u:Cu,u.code=code->u.pos<=q4.pos+1->(inB r 11 14=true/\u=q4\/inB r 11 14=false/\PC Tryz.prog 32 (za0 code q4) [.p 0,.d false (iD 30)] (za0 code u) [(true,bD true)])->∃(q5:Cu) (t:Tm),q5.code=code/\q5.pos<=q4.pos+20/\t.wt<=100/\CaC code q4 q5 r t:=fun u cu pu hu=>by
  obtain⟨v,t1,c1,p1,o1,H1⟩:=zss code u cu Yo;obtain⟨w,b,c2,p2,_,H2⟩:=zmf code 2 Yo v c1 Yo;cases b
  ·exact⟨w,t1,c2,Yo,Yo,Or.inr ⟨u,v,w,t1,hu,H1,Or.inl ⟨H2,rfl,rfl⟩⟩⟩
  ·obtain⟨x,nm,c3,p3,o3,H3⟩:=ofD code tnL (by simp) (by simp) w c2 Yo;have hs:nm.length<=8:=(show ∀s∈tnL,s.length<=8 by decide) nm o3;refine⟨x,.mk nm [],c3,Yo,?_,Or.inr ⟨u,v,w,t1,hu,H1,Or.inr ⟨nm,H2,H3,rfl⟩⟩⟩;rw[zb4];simp;omega
 cases hb:inB r 11 14
 ·obtain⟨u,b,c1,p1,_,H1⟩:=zmf code 30 Yo q4 hq Yo;cases b
  ·exact⟨u,.mk [] [],c1,Yo,by decide,Or.inl ⟨hb,H1,rfl⟩⟩
  ·exact key u c1 Yo (Or.inr ⟨hb,H1⟩)
 ·exact key q4 hq Yo (Or.inl ⟨hb,rfl⟩)
theorem outE (code:List UInt8)(q5:Cu)(r:Int)(hq:q5.code=code)(hp:q5.pos+70<=1099511627776):∃(q6:Cu)(f:Fm),q6.code=code/\q6.pos<=q5.pos+70/\f.wt<=1000/\CaE code q5 q6 r f:=by
 have key:∀u:Cu,u.code=code->u.pos<=q5.pos+1->((r==15)=true/\u=q5\/(r==15)=false/\PC Tryz.prog 32 (za0 code q5) [.p 0,.d false (iD 30)] (za0 code u) [(true,bD true)])->∃(q6:Cu) (f:Fm),q6.code=code/\q6.pos<=q5.pos+70/\f.wt<=1000/\CaE code q5 q6 r f:=fun u cu pu hu=>by
  obtain⟨v,f,c1,p1,o1,H1⟩:=zen code 2 Yo u cu Yo;exact⟨v,f,c1,Yo,o1,Or.inr ⟨u,hu,H1⟩⟩
 cases hb:(r==15)
 ·obtain⟨u,b,c1,p1,_,H1⟩:=zmf code 30 Yo q5 hq Yo;cases b
  ·exact⟨u,zrF,c1,Yo,by decide,Or.inl ⟨hb,H1,rfl⟩⟩
  ·exact key u c1 Yo (Or.inr ⟨hb,H1⟩)
 ·exact key q5 hq Yo (Or.inl ⟨hb,rfl⟩)
theorem outF (code:List UInt8)(q6:Cu)(m2:Int)(hq:q6.code=code)(hp:q6.pos+2<=1099511627776):∃(q7:Cu)(m3:Int),q7.code=code/\q7.pos<=q6.pos+2/\CaF code q6 q7 m2 m3:=by
 obtain⟨u,b,c1,p1,_,H1⟩:=zmf code 30 Yo q6 hq Yo
 cases b
 ·exact⟨u,m2,c1,Yo,Or.inl ⟨H1,rfl⟩⟩
 ·obtain⟨v,x,c2,p2,o2,H2⟩:=zeh code 4 Yo Yo u c1 Yo;exact⟨v,x-1,c2,Yo,Or.inr ⟨u,x,H1,H2,o2,rfl⟩⟩
end
section
open Go.RowKit
theorem app_k (code:List UInt8)(q q1 q2 q4 q5 q6 q7:Cu)(L R xs:List Fm)(x r m m2 m3:Int)(b2 lf:Bool)(t:Tm)(f:Fm)(hL:L.length<=100)(hR:R.length<=100)(hx:0<=x/\x<15)
  (hlf:lf=(b2&&decide (0<L.length)||decide (R.length=0))) (hxs:xs=if lf=true then L else R)
  (H1:PC Tryz.prog 29 (za0 code q) [.p 0,.d false (iD 15)] (za0 code q1) [(true,iD x)]) (H2:PC Tryz.prog 32 (za0 code q1) [.p 0,.d false (iD 2)] (za0 code q2) [(true,bD b2)]) (hA:CaA code q2 q4 xs lf (1+x) r m) (hC:CaC code q4 q5 r t) (hm2:m2=if(r==15)=true then 0 else m) (hE:CaE code q5 q6 r f) (hF:CaF code q6 q7 m2 m3) :
  PC Tryz.prog 22 (za0 code q) [.p 0,.d false (sqD ⟨L,R⟩)] (za0 code q7) [(true,dvD (.mk r ⟨[],[]⟩ m3 t f []))]:=by
 have hw1:IntKind.i64.wrap (1+x)=1+x:=za1 Yo Yo
 have hR0:((R.length:Int)==0)=decide (R.length=0):=by
  by_cases h:R.length=0
  ·rw[h];rfl
  ·rw[decide_eq_false h,Ql];omega
 unfold CaA at hA
 unfold CaC at hC
 unfold CaE at hE
 unfold CaF at hF
 simp only[sqD,zat]
 refine PC_ofW Tryz.call22 Tryz.func22 rfl (by simp only[Qc,Qd,Tryz.ntmps22];omega) (by simp only[Tryz.ntmps22];omega) rfl rfl (by simp[zay,T.isPin,AF.ds,bxA]) (by simp[gFS,T.fs,T.flat,AF.ds,bxA]) rfl ?_
 refine zfh.cut 1 rfl Yn ?_
 simp -implicitDefEqProofs only[go_sem,Tryz.results22]
 refine zag [0,3,4,1000000] [9] [1000000] [] (H1) (by decide) rfl Ym Ym Ym Ym ?_
 simp -implicitDefEqProofs only[go_sem]
 rw[hw1]
 refine zfh.join (hd [(0,.one (.bx 1000000 0)),(4,.one (.bx 4 0)),(5,.one (.bx 5 0)),(3,.one (.bx 3 0)),(6,vB lf),(1000000,.one (.bx 1000000 0))] [(3,[.rn (fmS L),.rn (fmS R)]),(4,[.t (.int .i64 0),.nl 5,.nl 5,.t (.int .i64 0),.t (.str []),.nl 2,.t (.int .i64 0),.t (.str []),.nl 2,.t (.str []),.nl 5,.nl 12]),(5,[.t (.int .i64 (1+x)),.nl 5,.nl 5,.t (.int .i64 0),.t (.str []),.nl 2,.t (.int .i64 0),.t (.str []),.nl 2,.t (.str []),.nl 5,.nl 12]),(1000000,[.rn (zeg code),.t (.int .i64 q2.pos),.t (.int .u64 q2.seed)])] []) Yn ?_ ?_
 ·cases b2
  ·simp -implicitDefEqProofs only[go_sem];refine zag [0,3,4,5,1000000] [13] [1000000] [] (H2) (by decide) rfl (by simp -implicitDefEqProofs only[go_sem,Qa,hR0]) (by simp -implicitDefEqProofs only[go_sem,Qa,hR0]) (by simp -implicitDefEqProofs only[go_sem,Qa,hR0]) (by simp -implicitDefEqProofs only[go_sem,Qa,hR0]) ?_;simp -implicitDefEqProofs only[go_sem,Qa,hR0];refine zac ?_;simp -implicitDefEqProofs only[go_sem];rw[hlf];rfl
  ·by_cases hp:0<L.length
   ·have h0:((0:Int)<(L.length:Int))=True:=eq_true Yo;simp -implicitDefEqProofs only[go_sem];refine zag [0,3,4,5,1000000] [13] [1000000] [] (H2) (by decide) rfl (by simp -implicitDefEqProofs only[go_sem,Qa,h0]) (by simp -implicitDefEqProofs only[go_sem,Qa,h0]) (by simp -implicitDefEqProofs only[go_sem,Qa,h0]) (by simp -implicitDefEqProofs only[go_sem,Qa,h0]) ?_;simp -implicitDefEqProofs only[go_sem,Qa,h0];refine zac ?_;simp -implicitDefEqProofs only[go_sem];rw[hlf,Yd hp];rfl
   ·have h0:((0:Int)<(L.length:Int))=False:=eq_false Yo;simp -implicitDefEqProofs only[go_sem];refine zag [0,3,4,5,1000000] [13] [1000000] [] (H2) (by decide) rfl (by simp -implicitDefEqProofs only[go_sem,Qa,h0,hR0]) (by simp -implicitDefEqProofs only[go_sem,Qa,h0,hR0]) (by simp -implicitDefEqProofs only[go_sem,Qa,h0,hR0]) (by simp -implicitDefEqProofs only[go_sem,Qa,h0,hR0]) ?_;simp -implicitDefEqProofs only[go_sem,Qa,h0,hR0];refine zac ?_;simp -implicitDefEqProofs only[go_sem];rw[hlf,decide_eq_false hp];rfl
 clear hlf hR0
 refine zfh.cut 0 rfl Yn ?_
 simp -implicitDefEqProofs only[go_sem]
 refine zfh.join (hd [(0,.one (.bx 1000000 0)),(4,.one (.bx 4 0)),(5,.one (.bx 5 0)),(6,vB lf),(7,.one (.rn (fmS xs))),(1000000,.one (.bx 1000000 0))] [(4,[.t (.int .i64 0),.nl 5,.nl 5,.t (.int .i64 0),.t (.str []),.nl 2,.t (.int .i64 0),.t (.str []),.nl 2,.t (.str []),.nl 5,.nl 12]),(5,[.t (.int .i64 (1+x)),.nl 5,.nl 5,.t (.int .i64 0),.t (.str []),.nl 2,.t (.int .i64 0),.t (.str []),.nl 2,.t (.str []),.nl 5,.nl 12]),(1000000,[.rn (zeg code),.t (.int .i64 q2.pos),.t (.int .u64 q2.seed)])] []) Yn ?_ ?_
 ·cases lf
  ·rw[if_neg (by simp)]at hxs;subst hxs;simp -implicitDefEqProofs only[go_sem];refine zac ?_;simp -implicitDefEqProofs only[go_sem]
  ·rw[if_pos rfl]at hxs;subst hxs;simp -implicitDefEqProofs only[go_sem];refine zac ?_;simp -implicitDefEqProofs only[go_sem]
 have hxl:xs.length<=100:=by rw[hxs];split<;>assumption
 clear hxs hL hR
 refine zfh.join (hd [(0,.one (.bx 1000000 0)),(4,.one (.bx 4 0)),(5,.one (.bx 5 0)),(1000000,.one (.bx 1000000 0))] [(4,[.t (.int .i64 0),.nl 5,.nl 5,.t (.int .i64 0),.t (.str []),.nl 2,.t (.int .i64 0),.t (.str []),.nl 2,.t (.str []),.nl 5,.nl 12]),(5,[.t (.int .i64 r),.nl 5,.nl 5,.t (.int .i64 m),.t (.str []),.nl 2,.t (.int .i64 0),.t (.str []),.nl 2,.t (.str []),.nl 5,.nl 12]),(1000000,[.rn (zeg code),.t (.int .i64 q4.pos),.t (.int .u64 q4.seed)])] []) Yn ?_ ?_
 ·clear hC hE hF hm2;rcases hA with⟨rfl,rfl,rfl,rfl⟩|⟨hp,HA,rfl,rfl⟩|⟨hp,u,v,j,HA1,HA2,hj,rfl,hA⟩
  ·simp -implicitDefEqProofs only[go_sem,Qd,Qh];refine zac ?_;simp -implicitDefEqProofs only[go_sem]
  ·have h0:((0:Int)<(xs.length:Int))=True:=eq_true Yo;simp -implicitDefEqProofs only[go_sem,Qa,h0];refine zag [0,4,5,6,7,35,1000000] [36] [1000000] [] (HA) (by decide) rfl Ym Ym Ym Ym ?_;simp -implicitDefEqProofs only[go_sem];refine zac ?_;simp -implicitDefEqProofs only[go_sem]
  ·have h0:((0:Int)<(xs.length:Int))=True:=eq_true Yo;rw[show xs.getD j zrF=xs[j] by simp[List.getD,hj]]at hA;simp -implicitDefEqProofs only[go_sem,Qa,h0];refine zag [0,4,5,6,7,35,1000000] [36] [1000000] [] (HA1) (by decide) rfl (by simp -implicitDefEqProofs only[go_sem,Qa]) (by simp -implicitDefEqProofs only[go_sem,Qa]) (by simp -implicitDefEqProofs only[go_sem,Qa]) (by simp -implicitDefEqProofs only[go_sem,Qa]) ?_;simp -implicitDefEqProofs only[go_sem,Qa];refine zag [0,4,5,6,7,1000000] [40,42] [1000000] [] (HA2) (by decide) rfl Ym Ym Ym Ym ?_;simp -implicitDefEqProofs only[go_sem];refine zaf (fun k:Nat=>hd [(0,.one (.bx 1000000 0)),(4,.one (.bx 4 0)),(5,.one (.bx 5 0)),(6,vB lf),(7,.one (.rn (fmS xs))),(8,vI ((k:Int)+2)),(1000000,.one (.bx 1000000 0))] [(4,[.t (.int .i64 0),.nl 5,.nl 5,.t (.int .i64 0),.t (.str []),.nl 2,.t (.int .i64 0),.t (.str []),.nl 2,.t (.str []),.nl 5,.nl 12]),(5,[.t (.int .i64 (rlR xs[j].op lf (1+x) k)),.nl 5,.nl 5,.t (.int .i64 (j:Int)),.t (.str []),.nl 2,.t (.int .i64 0),.t (.str []),.nl 2,.t (.str []),.nl 5,.nl 12]),(1000000,[.rn (zeg code),.t (.int .i64 v.pos),.t (.int .u64 v.seed)])] []) (fun k=>k<=13) (fun k=>13-k) 0 (zac ?_) (Q3 _) ?_
   ·simp -implicitDefEqProofs only[go_sem];rfl
   ·intro k hk;by_cases hlt:k<13
    ·have h1:((k:Int)+2<=14)=True:=eq_true Yo;have HO:=qds ((k:Int)+2) Yo;have HN:=qjs ((k:Int)+2);have hwk:IntKind.i64.wrap ((k:Int)+2+1)=((k+1:Nat):Int)+2:=by rw[za1 Yo Yo];omega
     cases ho:(opL ((k:Int)+2)==xs[j].op)
     ·simp -implicitDefEqProofs only[go_sem,h1];refine drawn Yn ?_;simp -implicitDefEqProofs only[go_sem,Qa,hj];refine zal (HO) (by simp -implicitDefEqProofs only[go_sem,Qa,hj,zae,zaa xs[j],ho]) ?_;simp -implicitDefEqProofs only[go_sem,Qa,hj,zae,zaa xs[j],ho];refine⟨Yn,k+1,Yo,Yo,zac ?_⟩;have hr:rlR xs[j].op lf (1+x) (k+1)=rlR xs[j].op lf (1+x) k:=by
       rw[rlR,ho];rfl
      simp -implicitDefEqProofs only[go_sem,hr];rw[hwk]
     ·cases hn:(onL ((k:Int)+2)==lf)
      ·simp -implicitDefEqProofs only[go_sem,h1];refine drawn Yn ?_;simp -implicitDefEqProofs only[go_sem,Qa,hj];refine zal (HO) (by simp -implicitDefEqProofs only[go_sem,Qa,hj,zae,zaa xs[j],ho]) ?_;simp -implicitDefEqProofs only[go_sem,Qa,hj,zae,zaa xs[j],ho];refine za5 (HN) (by simp -implicitDefEqProofs only[go_sem,hn]) ?_;simp -implicitDefEqProofs only[go_sem,hn];refine⟨Yn,k+1,Yo,Yo,zac ?_⟩;have hr:rlR xs[j].op lf (1+x) (k+1)=rlR xs[j].op lf (1+x) k:=by
        rw[rlR,ho];rw[hn];rfl
       simp -implicitDefEqProofs only[go_sem,hr];rw[hwk]
      ·simp -implicitDefEqProofs only[go_sem,h1];refine drawn Yn ?_;simp -implicitDefEqProofs only[go_sem,Qa,hj];refine zal (HO) (by simp -implicitDefEqProofs only[go_sem,Qa,hj,zae,zaa xs[j],ho]) ?_;simp -implicitDefEqProofs only[go_sem,Qa,hj,zae,zaa xs[j],ho];refine za5 (HN) (by simp -implicitDefEqProofs only[go_sem,hn]) ?_;simp -implicitDefEqProofs only[go_sem,hn];refine⟨Yn,k+1,Yo,Yo,zac ?_⟩;have hr:rlR xs[j].op lf (1+x) (k+1)=(k:Int)+2:=by
        rw[rlR,ho];rw[hn];rfl
       simp -implicitDefEqProofs only[go_sem,hr];rw[hwk]
    ·have h1:((k:Int)+2<=14)=False:=eq_false Yo;have e:k=13:=by omega
     subst e;rcases hA with⟨rfl,rfl,rfl⟩|⟨rfl,b6,H6,rfl⟩
     ·simp -implicitDefEqProofs only[go_sem,h1];refine zac ?_;simp -implicitDefEqProofs only[go_sem]
     ·simp -implicitDefEqProofs only[go_sem,h1];refine zag [0,4,5,6,67,1000000] [68] [1000000] [] (H6) (by decide) rfl Ym Ym Ym Ym ?_;simp -implicitDefEqProofs only[go_sem];cases b6
      ·simp -implicitDefEqProofs only[go_sem];refine zac ?_;simp -implicitDefEqProofs only[go_sem]
      ·simp -implicitDefEqProofs only[go_sem];refine zac ?_;simp -implicitDefEqProofs only[go_sem]
 clear hA
 refine zfh.join (hd [(0,.one (.bx 1000000 0)),(4,.one (.bx 4 0)),(5,.one (.bx 5 0)),(1000000,.one (.bx 1000000 0))] [(4,[.t (.int .i64 0),.nl 5,.nl 5,.t (.int .i64 0),.t (.str []),.nl 2,.t (.int .i64 0),.t (.str []),.nl 2,.t (.str []),.nl 5,.nl 12]),(5,[.t (.int .i64 r),.nl 5,.nl 5,.t (.int .i64 m),.t (.str t.name),.ow 7000 0,.t (.int .i64 0),.t (.str []),.nl 2,.t (.str []),.nl 5,.nl 12]),(1000000,[.rn (zeg code),.t (.int .i64 q5.pos),.t (.int .u64 q5.seed)])] [(7000,⟨true,2,t.args.map tmC,0,true⟩)]) Yn ?_ ?_
 ·clear hE hF hm2;have HI:=zey r 11 14;rcases hC with⟨hb,H30,rfl⟩|⟨u,v,w,t1,hu,HT,hC⟩
  ·rw[hb]at HI;simp -implicitDefEqProofs only[go_sem];refine callF (HI) Ym ?_;simp -implicitDefEqProofs only[go_sem];refine zag [0,4,5,75,1000000] [76] [1000000] [] (H30) (by decide) rfl Ym Ym Ym Ym ?_;simp -implicitDefEqProofs only[go_sem];refine zac ?_;simp -implicitDefEqProofs only[go_sem,Tm.name,Tm.args,Qh]
  ·simp only[tmD,zab t1]at HT;rcases hu with⟨hb,rfl⟩|⟨hb,H30⟩
   ·rw[hb]at HI;rcases hC with⟨HO,rfl,rfl⟩|⟨nm,HO,HN,rfl⟩
    ·simp -implicitDefEqProofs only[go_sem];refine callF (HI) Ym ?_;simp -implicitDefEqProofs only[go_sem];refine zag [0,4,5,1000000] [79] [1000000] [] (HT) (by decide) rfl Ym Ym Ym Ym ?_;simp -implicitDefEqProofs only[go_sem];refine zag [0,4,5,1000000] [82] [1000000] [] (HO) (by decide) rfl Ym Ym Ym Ym ?_;simp -implicitDefEqProofs only[go_sem];refine zb0 2561 7000 ?_;simp -implicitDefEqProofs only[go_sem]
    ·simp -implicitDefEqProofs only[go_sem];refine callF (HI) Ym ?_;simp -implicitDefEqProofs only[go_sem];refine zag [0,4,5,1000000] [79] [1000000] [] (HT) (by decide) rfl Ym Ym Ym Ym ?_;simp -implicitDefEqProofs only[go_sem];refine zag [0,4,5,1000000] [82] [1000000] [] (HO) (by decide) rfl Ym Ym Ym Ym ?_;simp -implicitDefEqProofs only[go_sem];refine zad Ym ?_;simp -implicitDefEqProofs only[go_sem];refine zag [0,4,5,1000000] [84,85] [1000000] [] (HN) (by decide) rfl Ym Ym Ym Ym ?_;simp -implicitDefEqProofs only[go_sem];refine zac ?_;simp -implicitDefEqProofs only[go_sem,Tm.name,Tm.args,Qh]
   ·rw[hb]at HI;rcases hC with⟨HO,rfl,rfl⟩|⟨nm,HO,HN,rfl⟩
    ·simp -implicitDefEqProofs only[go_sem];refine callF (HI) Ym ?_;simp -implicitDefEqProofs only[go_sem];refine zag [0,4,5,75,1000000] [76] [1000000] [] (H30) (by decide) rfl Ym Ym Ym Ym ?_;simp -implicitDefEqProofs only[go_sem];refine zag [0,4,5,1000000] [79] [1000000] [] (HT) (by decide) rfl Ym Ym Ym Ym ?_;simp -implicitDefEqProofs only[go_sem];refine zag [0,4,5,1000000] [82] [1000000] [] (HO) (by decide) rfl Ym Ym Ym Ym ?_;simp -implicitDefEqProofs only[go_sem];refine zb0 2561 7000 ?_;simp -implicitDefEqProofs only[go_sem]
    ·simp -implicitDefEqProofs only[go_sem];refine callF (HI) Ym ?_;simp -implicitDefEqProofs only[go_sem];refine zag [0,4,5,75,1000000] [76] [1000000] [] (H30) (by decide) rfl Ym Ym Ym Ym ?_;simp -implicitDefEqProofs only[go_sem];refine zag [0,4,5,1000000] [79] [1000000] [] (HT) (by decide) rfl Ym Ym Ym Ym ?_;simp -implicitDefEqProofs only[go_sem];refine zag [0,4,5,1000000] [82] [1000000] [] (HO) (by decide) rfl Ym Ym Ym Ym ?_;simp -implicitDefEqProofs only[go_sem];refine zad Ym ?_;simp -implicitDefEqProofs only[go_sem];refine zag [0,4,5,1000000] [84,85] [1000000] [] (HN) (by decide) rfl Ym Ym Ym Ym ?_;simp -implicitDefEqProofs only[go_sem];refine zac ?_;simp -implicitDefEqProofs only[go_sem,Tm.name,Tm.args,Qh]
 clear hC
 refine zfh.join (hd [(0,.one (.bx 1000000 0)),(4,.one (.bx 4 0)),(5,.one (.bx 5 0)),(1000000,.one (.bx 1000000 0))] [(4,[.t (.int .i64 0),.nl 5,.nl 5,.t (.int .i64 0),.t (.str []),.nl 2,.t (.int .i64 0),.t (.str []),.nl 2,.t (.str []),.nl 5,.nl 12]),(5,[.t (.int .i64 r),.nl 5,.nl 5,.t (.int .i64 m2),.t (.str t.name),.ow 7000 0,.t (.int .i64 0),.t (.str []),.nl 2,.t (.str []),.nl 5,.nl 12]),(1000000,[.rn (zeg code),.t (.int .i64 q5.pos),.t (.int .u64 q5.seed)])] [(7000,⟨true,2,t.args.map tmC,0,true⟩)]) Yn ?_ ?_
 ·cases hr:(r==15)
  ·rw[hr,if_neg (by simp)]at hm2;subst hm2;simp -implicitDefEqProofs only[go_sem,hr];refine zac ?_;simp -implicitDefEqProofs only[go_sem]
  ·rw[hr,if_pos rfl]at hm2;subst hm2;simp -implicitDefEqProofs only[go_sem,hr];refine zac ?_;simp -implicitDefEqProofs only[go_sem]
 clear hm2
 refine zfh.join (hd [(0,.one (.bx 1000000 0)),(4,.one (.bx 4 0)),(5,.one (.bx 5 0)),(1000000,.one (.bx 1000000 0))] [(4,[.t (.int .i64 0),.nl 5,.nl 5,.t (.int .i64 0),.t (.str []),.nl 2,.t (.int .i64 0),.t (.str []),.nl 2,.t (.str []),.nl 5,.nl 12]),(5,[.t (.int .i64 r),.nl 5,.nl 5,.t (.int .i64 m2),.t (.str t.name),.ow 7000 0,.t (.int .i64 f.op),.t (.str f.atom.name),.ow 3234 0,.t (.str f.var),.ow 3236 0,.nl 12]),(1000000,[.rn (zeg code),.t (.int .i64 q6.pos),.t (.int .u64 q6.seed)])] [(7000,⟨true,2,t.args.map tmC,0,true⟩),(3234,⟨true,2,f.atom.args.map tmC,0,true⟩),(3236,⟨true,5,f.parts.map fmC,0,true⟩)]) Yn ?_ ?_
 ·clear hF;rcases hE with⟨hb,H30,rfl⟩|⟨u,hu,HS⟩
  ·simp -implicitDefEqProofs only[go_sem,hb];refine zag [0,4,5,96,1000000] [97] [1000000] [] (H30) (by decide) rfl Ym Ym Ym Ym ?_;simp -implicitDefEqProofs only[go_sem];refine zac ?_;simp -implicitDefEqProofs only[go_sem,zrF,Fm.op,Fm.atom,Fm.var,Fm.parts,Tm.name,Tm.args,Qh]
  ·simp only[fmD,zaa f]at HS;rcases hu with⟨hb,rfl⟩|⟨hb,H30⟩
   ·simp -implicitDefEqProofs only[go_sem,hb];refine zag [0,4,5,1000000] [100] [1000000] [] (HS) (by decide) rfl Ym Ym Ym Ym ?_;simp -implicitDefEqProofs only[go_sem];refine zac ?_;simp -implicitDefEqProofs only[go_sem]
   ·simp -implicitDefEqProofs only[go_sem,hb];refine zag [0,4,5,96,1000000] [97] [1000000] [] (H30) (by decide) rfl Ym Ym Ym Ym ?_;simp -implicitDefEqProofs only[go_sem];refine zag [0,4,5,1000000] [100] [1000000] [] (HS) (by decide) rfl Ym Ym Ym Ym ?_;simp -implicitDefEqProofs only[go_sem];refine zac ?_;simp -implicitDefEqProofs only[go_sem]
 clear hE
 refine zfh.ofEx Yn ?_
 rcases hF with⟨HO,rfl⟩|⟨u,y,HO,HP,hy,rfl⟩
 ·simp -implicitDefEqProofs only[go_sem];refine zag [0,4,5,1000000] [103] [1000000] [] (HO) (by decide) rfl Ym Ym Ym Ym ?_;simp -implicitDefEqProofs only[go_sem];rw[zbq];left;simp -implicitDefEqProofs only[go_sem]
 ·have hwy:IntKind.i64.wrap (y-1)=y-1:=za1 Yo Yo;simp -implicitDefEqProofs only[go_sem];refine zag [0,4,5,1000000] [103] [1000000] [] (HO) (by decide) rfl Ym Ym Ym Ym ?_;simp -implicitDefEqProofs only[go_sem];refine zag [4,5,1000000] [105] [1000000] [] (HP) (by decide) rfl Ym Ym Ym Ym ?_;simp -implicitDefEqProofs only[go_sem];rw[hwy,zbq];left;simp -implicitDefEqProofs only[go_sem]
end
section
open Go.RowKit
theorem vBig_c (code:List UInt8):FC Tryz.prog 5 [.one (zeg code)] [bD (decide (65536<(code.length:Int)))]:=by
 refine zai Tryz.call5 Tryz.func5 rfl Yn (zau Yn) ?_
 simp -implicitDefEqProofs only[go_sem,Tryz.results5]
def q0 (code:List UInt8):Cu:=⟨code,0,0⟩
end
section
open Go.RowKit
variable {P:Program}
theorem zwj {args:List D}{w:World}{vs:List Value}{N:Nat}{g:Gh}{a:Act}{A:Nat->Prop}(hr:zb1 w (fun b=>b<w.heap.size/\A b) args vs)(hR:Rel (fun b=>b<w.heap.size/\b∉([]:List Nat)) N (zdt (rd args)) g a w)
  (ht:a.tmps=(⟨vs⟩:Array Value)++Array.replicate (N-vs.length) undef) (hA:∀b,A b->g.A0 b):Rel (fun b=>b<w.heap.size/\b∉([]:List Nat)) N (zgv args) g a w:=by
 have hbx:∀(ds:List D) (k:Nat),zfl k (rd ds)=fun _=>none:=fun ds=>by
  induction ds with
  | nil=>intro k;rfl
  | cons d ds ih=>intro k;exact ih (k+1)
 have hG:∀b,(b<w.heap.size/\A b)->zcd (zgv args) g w b:=fun b hb=>by
  refine⟨⟨fun k hk=>absurd rfl hk,fun e x he _=>(by cases he),hb.1,hA b hb.2⟩,?_⟩;rintro e ⟨x,hx,_⟩;cases hx
 refine hR.slots_of (σ':=zgv args) rfl ?_ hR.defers hR.size fun i=>?_
 ·show(fun _=>none)=zfl 0 (rd args)
  rw[hbx]
 ·show VR (zdt (rd args)) g w (zhc 0 args i) _
  have hi:=zj3 args 0 i;rw[Q5]at hi;rw[hi];cases hd:args[i]? with
  | none=>trivial
  | some d =>
   obtain⟨v,hv1,hv2⟩:=zb1.at hr i d hd;have hlt:i<vs.length:=(List.getElem?_eq_some_iff.1 hv1).1;have e:a.tmps.getD i (g.R0.ξ i)=v:=by
    rw[ht];rw[Array.getD_eq_getD_getElem?,Array.getElem?_append_left (by simpa using hlt)];simp[hv1]
   rw[e];have hx:=zl0 hG hv2;exact(Mv.of_eq (σ:=zgv args) (σ':=zdt (rd args)) g w rfl (by show zfl 0 (rd args)=fun _=>none;rw[hbx])).vr hx
theorem qjq {f:FuncId}{fn:Func}{c:Code}{args res:List D}(hc:zbv P f)(hf:P.funcs[f]?=some fn)(hb:fn.body=some c)(hd:zdz fn.ntmps c=true)(hN:(rd args).length<=fn.ntmps)
  (h:ex P c [] (PRe P fn.results.toList res) (zgv args)):RC P f args res:=by
 refine⟨hc,fun w vs A hv=>?_⟩
 refine calls_of_wp hf hb ?_
 have hg:∀(ds:List D) (vs:List Value),zb1 w (fun b=>b<w.heap.size/\A b) ds vs->za6 w (fun b=>b<w.heap.size/\A b/\b∉([]:List Nat)) (rd ds) vs [] []:=by
  intro ds;induction ds with
  | nil=>intro vs h;exact⟨h,rfl,rfl⟩
  | cons d ds ih =>
   rintro vs ⟨v,vs',rfl,h1,h2⟩;refine⟨v,vs',rfl,?_,ih _ h2⟩;cases d with
   | one t=>exact zas.keep (fun _ _=>rfl) (fun b hb=>⟨hb.1,hb.2,by simp⟩) t _ h1
   | agg ts=>obtain⟨a,h0,h1⟩:=h1;exact⟨a,h0,zaj.keep (fun _ _=>rfl) (fun b hb=>⟨hb.1,hb.2,by simp⟩) ts a h1⟩
 obtain⟨g,hg,hR⟩:=Rel.start (A:=A) (A0:=fun b=>A b\/w.heap.size<=b) (R0:=RP.of fun _=>True) (N:=fn.ntmps) (hg _ _ hv) Kp (zec args) hN (fun _ hb=>Or.inl hb) (fun b hb=>by simp at hb) (fun b hb=>⟨Or.inr (by
  refine Nat.le_of_not_lt fun hlt=>hb ⟨hlt,by simp⟩),trivial⟩)
 have hR2:=zwj hv hR rfl (fun b hb=>by rw[(Je hg).1];exact Or.inl hb)
 refine wp_mono (zbu (w0:=w) c (zgv args) _ hd h g _ w hR2 (fun k hk=>hk.1) (Bk.refl _ _) hg) fun e a' w' hq=>?_
 obtain⟨σ',g',h1,h2,h3,h4,h5⟩:=hq
 have key:zax (zb9 P σ' fn.results.toList) (fun vs=>RVe σ' vs res)->∃v,(results fn a'.tmps).run P w'=.ok v w'/\∃us,Ending.returned v=.returned (zcj us)/\zb1 w' (fun b=>b<w'.heap.size/\(A b\/w.heap.size<=b)) res us/\Below w.heap.size w w':=fun hk=>by
  unfold zax at hk;split at hk
  ·rename_i vs hvs;obtain⟨us,r1,r2⟩:=zch h2 fn hvs;refine⟨_,r1,us,rfl,(RVe.rep h2 hk r2).keep (fun _ _=>rfl) fun b hb=>⟨hb.1,?_⟩,h4.os,h4.tape,h4.output,h4.size,fun k hk=>h4.block k ⟨hk,by simp⟩⟩;have:=hb.2;simp only[Qo]at h5;rw[h5.1]at this;exact this
  ·exact hk.elim
 cases e with
 | normal=>exact⟨h2.defers,key h1⟩
 | ret=>exact⟨h2.defers,key h1⟩
 | exit _=>exact h1.elim
 | goto _=>exact h1.elim
 | panic _=>exact h1.elim
 | outgrown=>exact h1.elim
end
section
open Go.RowKit
theorem zqg (code:List UInt8)(L R:List Fm)(hL:L.length<=100)(hR:R.length<=100):Drw code 22 [.p 0,.d false (sqD ⟨L,R⟩)] 200 (fun d:Dv=>(true,dvD d)) (fun d=>d.wt<=5000):=fun q hq hp=>by
 obtain⟨q1,x,c1,p1,o1,H1⟩:=zeh code 15 Yo Yo q hq Yo
 obtain⟨q2,b,c2,p2,_,H2⟩:=zmf code 2 Yo q1 c1 Yo
 obtain⟨lf,hlf⟩:∃lf:Bool,lf=(b&&decide (0<L.length)||decide (R.length=0)):=⟨_,rfl⟩
 obtain⟨xs,hxs⟩:∃xs:List Fm,xs=if lf=true then L else R:=⟨_,rfl⟩
 obtain⟨q4,r,m,c4,p4,hA⟩:=outA code q2 xs (by rw[hxs];split<;>omega) lf (1+x) c2 Yo
 obtain⟨q5,t,c5,p5,o5,hC⟩:=outC code q4 r c4 Yo
 obtain⟨m2,hm2⟩:∃m2:Int,m2=if(r==15)=true then 0 else m:=⟨_,rfl⟩
 obtain⟨q6,f,c6,p6,o6,hE⟩:=outE code q5 r c5 Yo
 obtain⟨q7,m3,c7,p7,hF⟩:=outF code q6 m2 c6 Yo
 refine⟨q7,.mk r ⟨[],[]⟩ m3 t f [],c7,Yo,?_,app_k code q q1 q2 q4 q5 q6 q7 L R xs x r m m2 m3 b lf t f hL hR o1 hlf hxs H1 H2 hA hC hm2 hE hF⟩
 show(Dv.mk r ⟨[],[]⟩ m3 t f []).wt<=5000
 rw[Dv.wt_eq]
 have e:(Sq.mk [] []).wt=0:=rfl
 simp only[Dv.seq,Dv.term,Dv.cut,Dv.parts,Qd,Qh,Ku,e]
 omega
theorem qi0 {xs:List Fm}{W:Nat}(h:∀f∈xs,f.wt<=W):zdm xs<=xs.length*(W+1):=by
 unfold zdm
 induction xs with
 | nil=>simp
 | cons a xs ih =>
  have:=ih fun f hf=>h f (Jg _ hf);have ha:=h a (List.mem_cons_self ..);simp only[Qc,Qg,Q2,Nat.succ_mul];omega
theorem qjv {s:Sq}(h:SqBd s):s.wt<=1048576:=by
 obtain⟨h1,h2,h3,h4⟩:=h
 have a:=qi0 h3
 have b:=qi0 h4
 have a2:s.left.length*(8000+1)<=20*8001:=Kz _ h1
 have b2:s.right.length*(8000+1)<=20*8001:=Kz _ h2
 rw[Sq.wt_eq];omega
theorem qgm (code:List UInt8):∃(s:Sq)(d:Dv),s.wt<=1048576/\d.wt<=1048576/\RC Tryz.prog 6 [.one (zeg code)] [sqD s,dvD d]:=by
 obtain⟨q1,s,c1,p1,o1,H1⟩:=zq0 code (q0 code) rfl (by unfold q0;simp)
 have p0:(q0 code).pos=0:=rfl
 obtain⟨L,R⟩:=s
 obtain⟨q2,d,c2,p2,o2,H2⟩:=zqg code L R (by have:=o1.left;simp only at this;omega) (by have:=o1.right;simp only at this;omega) q1 c1 Yo
 refine⟨⟨L,R⟩,d,qjv o1,Yo,?_⟩
 rw[show za0 code (q0 code)=[[(false,zeg code),(false,.int .i64 0),(false,.int .u64 0)]] from rfl]at H1
 simp only[sqD,zat,dvD,zfi d]at H1 H2⊢
 refine qjq Tryz.call6 Tryz.func6 rfl Yn (zau Yn) ?_
 simp -implicitDefEqProofs only[go_sem,Tryz.results6]
 refine zag [2,3,4] [9] [8] [] (H1) (by decide) rfl Ym Ym Ym Ym ?_
 simp -implicitDefEqProofs only[go_sem]
 refine frzD 320 ?_
 simp -implicitDefEqProofs only[go_sem]
 refine frzD 321 ?_
 simp -implicitDefEqProofs only[go_sem]
 refine drawn Yn ?_
 simp -implicitDefEqProofs only[go_sem]
 refine zdr [8] (H2) (by decide) Ym Ym ?_
 simp -implicitDefEqProofs only[go_sem]
 kernel_rfl
end
section
open Go.RowKit
structure Itp where
 n:Nat
 fn:Str->List Int->Int
 pr:Str->List Int->Bool
def isV (s:Str):Bool:=decide (0<s.length)&&zik (s.getD 0 0)
def zez (ρ:Str->Int)(v:Str)(x:Int):Str->Int:=fun m=>if(m==v)=true then x else ρ m
section
variable (I:Itp)
def vlT (ρ:Str->Int):Tm->Int:=Tm.fold fun m xs rs=>if(decide (xs.length=0)&&isV m)=true then ρ m else I.fn m rs
theorem zt4 (ρ:Str->Int)(t:Tm):vlT I ρ t=if(decide (t.args.length=0)&&isV t.name)=true then ρ t.name else I.fn t.name (t.args.map (vlT I ρ)):=Tm.fold_eq _ t
def hlT (ρ:Str->Int)(t:Tm):Bool:=if(t.name==[61]&&decide (t.args.length=2))=true then (t.args.map (vlT I ρ)).getD 0 0==(t.args.map (vlT I ρ)).getD 1 0 else I.pr t.name (t.args.map (vlT I ρ))
def zbi:Fm->(Str->Int)->Bool:=Fm.fold fun o a v _ rs ρ =>
 if(o==1)=true then true else if(o==2)=true then false else if(o==3)=true then hlT I ρ a else if(o==4)=true then !(rs.getD 0 (fun _=>false) ρ)
 else if(o==5)=true then rs.getD 0 (fun _=>false) ρ&&rs.getD 1 (fun _=>false) ρ else if(o==6)=true then rs.getD 0 (fun _=>false) ρ||rs.getD 1 (fun _=>false) ρ
 else if(o==7)=true then !(rs.getD 0 (fun _=>false) ρ)||rs.getD 1 (fun _=>false) ρ
 else if(o==8)=true then (List.range I.n).all fun x=>rs.getD 0 (fun _=>false) (zez ρ v x)else if(o==9)=true then (List.range I.n).any fun x=>rs.getD 0 (fun _=>false) (zez ρ v x)else false
theorem zb3 (f:Fm):zbi I f=fun ρ =>
 if(f.op==1)=true then true else if(f.op==2)=true then false else if(f.op==3)=true then hlT I ρ f.atom else if(f.op==4)=true then !((f.parts.map (zbi I)).getD 0 (fun _=>false) ρ)
 else if(f.op==5)=true then (f.parts.map (zbi I)).getD 0 (fun _=>false) ρ&&(f.parts.map (zbi I)).getD 1 (fun _=>false) ρ else if(f.op==6)=true then (f.parts.map (zbi I)).getD 0 (fun _=>false) ρ||(f.parts.map (zbi I)).getD 1 (fun _=>false) ρ
 else if(f.op==7)=true then !((f.parts.map (zbi I)).getD 0 (fun _=>false) ρ)||(f.parts.map (zbi I)).getD 1 (fun _=>false) ρ
 else if(f.op==8)=true then (List.range I.n).all fun x=>(f.parts.map (zbi I)).getD 0 (fun _=>false) (zez ρ f.var x)else if(f.op==9)=true then (List.range I.n).any fun x=>(f.parts.map (zbi I)).getD 0 (fun _=>false) (zez ρ f.var x)else false:=by
 unfold zbi
 rw[Fm.fold_eq]
variable {I}
theorem zp5 (a:Tm)(v:Str)(p:Fm)(ρ:Str->Int):zbi I (.mk 4 a v [p]) ρ=!zbi I p ρ:=by rw[zb3 (I:=I) (.mk 4 a v [p])];rfl
theorem zly (a:Tm)(v:Str)(p q:Fm)(ρ:Str->Int):zbi I (.mk 5 a v [p,q]) ρ=(zbi I p ρ&&zbi I q ρ):=by rw[zb3 (I:=I) (.mk 5 a v [p,q])];rfl
theorem zwh (a:Tm)(v:Str)(p q:Fm)(ρ:Str->Int):zbi I (.mk 6 a v [p,q]) ρ=(zbi I p ρ||zbi I q ρ):=by rw[zb3 (I:=I) (.mk 6 a v [p,q])];rfl
theorem zmc (a:Tm)(v:Str)(p q:Fm)(ρ:Str->Int):zbi I (.mk 7 a v [p,q]) ρ=(!zbi I p ρ||zbi I q ρ):=by rw[zb3 (I:=I) (.mk 7 a v [p,q])];rfl
theorem zou (v:Str)(a:Tm)(p:Fm)(ρ:Str->Int):zbi I (.mk 8 a v [p]) ρ=(List.range I.n).all fun x=>zbi I p (zez ρ v x):=by rw[zb3 (I:=I) (.mk 8 a v [p])];rfl
theorem zjx (v:Str)(a:Tm)(p:Fm)(ρ:Str->Int):zbi I (.mk 9 a v [p]) ρ=(List.range I.n).any fun x=>zbi I p (zez ρ v x):=by rw[zb3 (I:=I) (.mk 9 a v [p])];rfl
theorem znd (a:Tm)(v:Str)(ps:List Fm)(ρ:Str->Int):zbi I (.mk 3 a v ps) ρ=hlT I ρ a:=by rw[zb3 (I:=I) (.mk 3 a v ps)];rfl
theorem qky {m:Str}(h:za9 m=true):isV m=true:=by
 obtain⟨h1,h2⟩:=zmi h
 unfold isV
 rw[h1,Yd h2];rfl
theorem qbb {m:Str}(h:zcs m=true):isV m=false:=by
 obtain⟨h1,_⟩:=zkj h
 unfold isV
 rw[h1,Ka]
theorem zi3 {t:Tm}(h:t.names=true)(ρ:Str->Int):vlT I ρ t=if za9 t.name=true then ρ t.name else I.fn t.name (t.args.map (vlT I ρ)):=by
 rw[Tm.names_eq]at h
 rw[zt4]
 by_cases hv:za9 t.name=true
 ·rw[if_pos hv]at h⊢;simp only[qky hv,h,Bool.and_self,if_true]
 ·rw[if_neg hv]at h⊢;simp only[Qb]at h;rw[qbb h.1.1,Ka,if_neg (by simp)]
theorem zh4 {t:Tm}(h:t.names=true):za9 t.name=true/\t.args=[]\/za9 t.name=false/\zcs t.name=true/\∀a∈t.args,a.names=true:=by
 rw[Tm.names_eq]at h
 by_cases hv:za9 t.name=true
 ·rw[if_pos hv]at h;exact Or.inl ⟨hv,Q7.1 (Jj h)⟩
 ·rw[if_neg hv]at h;simp only[Qb]at h;exact Or.inr ⟨by simpa using hv,h.1.1,Qn.1 h.2⟩
theorem zpm {t:Tm}(h:t.atomOk=true):∀a∈t.args,a.names=true:=by
 unfold Tm.atomOk at h
 split at h
 ·simp only[Qb]at h;exact Qn.1 h.2
 ·simp only[Qb]at h;have hg:=h.2;unfold Tm.good at hg;rw[Qb]at hg;rcases zh4 hg.2 with⟨_,h2⟩|⟨_,_,h2⟩
  ·rw[h2];simp
  ·exact h2
theorem zpn {t:Tm}(h:t.atomOk=true):za9 t.name=false:=by
 unfold Tm.atomOk at h
 split at h
 ·rename_i he;have:t.name=[61]:=by simpa using he
  rw[this];decide
 ·simp only[Qb]at h;exact zle h.1
theorem qa0:∀(t:Tm),t.names=true->∀(ρ ρ':Str->Int),(∀x∈voS t,ρ x=ρ' x)->vlT I ρ t=vlT I ρ' t:=zby fun n xs ih h ρ ρ' hx=>by
 rw[zi3 h,zi3 h]
 rw[zjm]at hx
 rcases zh4 h with⟨h1,h2⟩|⟨h1,h2,h3⟩
 ·rw[if_pos h1,if_pos h1];rw[if_pos h1]at hx;exact hx _ (by simp)
 ·rw[h1,if_neg (by simp),if_neg (by simp)];rw[h1,if_neg (by simp)]at hx
  congr 1
  refine Kg fun a ha=>ih a ha (h3 a ha) ρ ρ' fun x hxa=>hx x (List.mem_flatten.2 ⟨_,Yc ha,hxa⟩)
theorem qk5 {t:Tm}(h:t.atomOk=true){ρ ρ':Str->Int}(hx:∀x∈voS t,ρ x=ρ' x):hlT I ρ t=hlT I ρ' t:=by
 have e:t.args.map (vlT I ρ)=t.args.map (vlT I ρ'):=Kg fun a ha=>qa0 a (zpm h a ha) ρ ρ' fun x hxa=>hx x (by
  rw[zjm,zpn h,if_neg (by simp)]
  exact List.mem_flatten.2 ⟨_,Yc ha,hxa⟩)
 unfold hlT
 rw[e]
theorem zyw:∀(f:Fm),f.forms=true->∀(ρ ρ':Str->Int),(∀x∈vf f [],ρ x=ρ' x)->zbi I f ρ=zbi I f ρ':=zcc fun o a v ps ih h ρ ρ' hx=>by
 have hpart:∀p∈ps,isQ o=false->o≠3->∀x∈vf p [],ρ x=ρ' x:=fun p hp hq h3 x hxp=>hx x (by
  rw[zk6];show x∈(if(o==3)=true then _ else (ps.map fun y=>vf y (if isQ o=true then []++[v]else [])).flatten)
  rw[if_neg (by simpa using h3),hq,if_neg (by simp)]
  exact List.mem_flatten.2 ⟨_,Yc hp,hxp⟩)
 rcases zcu h with⟨h1,h2⟩|⟨p,h1,hp⟩|⟨o',p,q,ho,h1,hp,hq⟩|⟨o',v',p,ho,h1,hp⟩
 ·have h1:ps=[]:=h1;rcases h2 with h2|h2|h2
  ·have h2:o=1:=h2;subst h1 h2;rw[zb3];rfl
  ·have h2:o=2:=h2;subst h1 h2;rw[zb3];rfl
  ·have h2:o=3:=h2;subst h1 h2;rw[znd,znd];have hh:(Fm.mk 3 a v []).here=true:=by rw[Fm.forms_eq,Qb]at h;exact h.1
   refine qk5 (zew hh rfl).1 fun x hxa=>hx x ?_;rw[zk6];show x∈(zbb [] (voS a)).filter fun s=>!([]:List Str).contains s
   rw[J7,zes];exact⟨Or.inl hxa,by simp⟩
 ·cases h1;show zbi I (.mk 4 (.mk [] []) [] [p]) ρ=zbi I (.mk 4 (.mk [] []) [] [p]) ρ'
  rw[zp5,zp5,ih p (by simp) hp ρ ρ' (hpart p (by simp) (by decide) (by decide))]
 ·rcases ho with rfl|rfl|rfl
  ·cases h1;show zbi I (.mk 5 (.mk [] []) [] [p,q]) ρ=zbi I (.mk 5 (.mk [] []) [] [p,q]) ρ'
   rw[zly,zly,ih p (by simp) hp ρ ρ' (hpart p (by simp) (by decide) (by decide)),ih q (by simp) hq ρ ρ' (hpart q (by simp) (by decide) (by decide))]
  ·cases h1;show zbi I (.mk 6 (.mk [] []) [] [p,q]) ρ=zbi I (.mk 6 (.mk [] []) [] [p,q]) ρ'
   rw[zwh,zwh,ih p (by simp) hp ρ ρ' (hpart p (by simp) (by decide) (by decide)),ih q (by simp) hq ρ ρ' (hpart q (by simp) (by decide) (by decide))]
  ·cases h1;show zbi I (.mk 7 (.mk [] []) [] [p,q]) ρ=zbi I (.mk 7 (.mk [] []) [] [p,q]) ρ'
   rw[zmc,zmc,ih p (by simp) hp ρ ρ' (hpart p (by simp) (by decide) (by decide)),ih q (by simp) hq ρ ρ' (hpart q (by simp) (by decide) (by decide))]
 ·have hb:∀y:Int,∀x∈vf p [],zez ρ v' y x=zez ρ' v' y x:=fun y x hxp=>by
   unfold zez;cases he:x==v'
   ·rw[if_neg (by simp),if_neg (by simp)];refine hx x ?_;cases h1;rw[zk6];have hq:isQ o=true:=by rcases ho with rfl|rfl<;>rfl
    have h3:(o==3)=false:=by rcases ho with rfl|rfl<;>rfl
    show x∈(if(o==3)=true then _ else ([p].map fun y=>vf y (if isQ o=true then []++[v]else [])).flatten)
    rw[h3,if_neg (by simp),if_pos hq];simp only[Qg,Qh,Q8,List.flatten_nil,Ks,Jb];rw[qc0];exact⟨hxp,by simpa using he⟩
   ·rfl
  rcases ho with rfl|rfl
  ·cases h1;rw[zou,zou]
   congr 1
   funext y
   exact ih p (by simp) hp _ _ (hb y)
  ·cases h1;rw[zjx,zjx]
   congr 1
   funext y
   exact ih p (by simp) hp _ _ (hb y)
theorem vl_sub (n:Str)(u:Tm)(hn:za9 n=true)(ρ:Str->Int):∀t:Tm,t.names=true->vlT I ρ (zds n u t)=vlT I (zez ρ n (vlT I ρ u)) t:=zby fun m xs ih h=>by
 rw[zi3 h,zfx]
 rcases zh4 h with⟨h1,h2⟩|⟨h1,h2,h3⟩
 ·have h2:xs=[]:=h2;have h1:za9 m=true:=h1;subst h2;refine Eq.trans ?_ (if_pos h1).symm;show vlT I ρ (if(n==m)=true then u else .mk m [])=if(m==n)=true then vlT I ρ u else ρ m
  by_cases e:n=m
  ·subst e;simp only[BEq.rfl,if_true]
  ·have e1:(n==m)=false:=by simpa using e
   have e2:(m==n)=false:=by rw[Ql];exact fun h=>e h.symm
   rw[e1,e2,if_neg (by simp),if_neg (by simp),zi3 h];exact if_pos h1
 ·have h1:za9 m=false:=h1;have h2:zcs m=true:=h2;have h3:∀a∈xs,a.names=true:=h3;have hne:=zm2 hn h2;have e:zds n u (.mk m xs)=.mk m (xs.map (zds n u)):=by
   rw[zfx];simp only[Tm.name,Tm.args,hne];split
   ·rename_i h0;rw[Q7.1 h0];rfl
   ·rfl
  rw[<-zfx,e,zt4];show _=if za9 m=true then _ else I.fn m (xs.map (vlT I (zez ρ n (vlT I ρ u))))
  rw[h1,if_neg (by simp:¬false=true)];show(if(decide ((xs.map (zds n u)).length=0)&&isV m)=true then _ else I.fn m ((xs.map (zds n u)).map (vlT I ρ)))=_
  rw[qbb h2,Ka,if_neg (by simp),Kt]
  congr 1
  exact Kg fun a ha=>ih a ha (h3 a ha)
theorem hl_sub (n:Str)(u:Tm)(hn:za9 n=true)(ρ:Str->Int){t:Tm}(h:t.atomOk=true):hlT I ρ (zds n u t)=hlT I (zez ρ n (vlT I ρ u)) t:=by
 have hne:(n==t.name)=false:=by
  have:=zpn h;rw[Ql];rintro rfl;rw[hn]at this;cases this
 have e:zds n u t=.mk t.name (t.args.map (zds n u)):=by
  rw[zfx,hne];by_cases h0:t.args.length=0
  ·rw[if_pos h0,if_neg (by simp),Q7.1 h0];rfl
  ·rw[if_neg h0]
 have e2:(t.args.map (zds n u)).map (vlT I ρ)=t.args.map (vlT I (zez ρ n (vlT I ρ u))):=by
  rw[Kt];exact Kg fun a ha=>vl_sub n u hn ρ a (zpm h a ha)
 rw[e]
 unfold hlT
 show(if(t.name==[61]&&decide ((t.args.map (zds n u)).length=2))=true then (((t.args.map (zds n u)).map (vlT I ρ)).getD 0 0==((t.args.map (zds n u)).map (vlT I ρ)).getD 1 0)else I.pr t.name ((t.args.map (zds n u)).map (vlT I ρ)))=_
 rw[Qa,e2]
theorem qgr {ρ:Str->Int}{a b:Str}(h:(a==b)=false)(x y:Int):zez (zez ρ a x) b y=zez (zez ρ b y) a x:=by
 funext m
 unfold zez
 by_cases e1:(m==a)=true
 ·have e1':m=a:=by simpa using e1
  subst e1';rw[h];simp
 ·have e1':(m==a)=false:=by simpa using e1
  rw[e1'];simp
theorem tr_sub (n:Str)(u:Tm)(hn:za9 n=true)(hu:u.names=true):∀f:Fm,f.forms=true->∀ρ:Str->Int,(zci n u f).2=true->zbi I (zci n u f).1 ρ=zbi I f (zez ρ n (vlT I ρ u)):=zcc fun o a v ps ih h ρ hok=>by
 have hfree:∀g:Fm,g.forms=true->(zbb [] (vf g [])).contains n=false->∀x:Int,zbi I g ρ=zbi I g (zez ρ n x):=fun g hg hc x=>zyw g hg ρ _ fun y hy=>by
  unfold zez;have:(y==n)=false:=by
   rw[Ql];rintro rfl;rw[zdu]at hc;have:=Kh.2 hy;rw[this]at hc;cases hc
  rw[this];simp
 rcases zcu h with⟨h1,h2⟩|⟨p,h1,hp⟩|⟨o',p,q,ho,h1,hp,hq⟩|⟨o',v',p,ho,h1,hp⟩
 ·have h1:ps=[]:=h1;rcases h2 with h2|h2|h2
  ·have h2:o=1:=h2;subst h1 h2;rw[zfb,zb3,zb3];rfl
  ·have h2:o=2:=h2;subst h1 h2;rw[zfb,zb3,zb3];rfl
  ·have h2:o=3:=h2;subst h1 h2;have hh:(Fm.mk 3 a v []).here=true:=by rw[Fm.forms_eq,Qb]at h;exact h.1
   rw[zfb];show zbi I (.mk 3 (zds n u a) v []) ρ=_
   rw[znd,znd];exact hl_sub n u hn ρ (zew hh rfl).1
 ·cases h1;rw[zfb]at hok⊢;have hok':([p].all fun x=>(zci n u x).2)=true:=hok;show zbi I (.mk 4 _ _ [(zci n u p).1]) ρ=zbi I (.mk 4 (.mk [] []) [] [p]) _
  have e:=ih p (by simp) hp ρ (by simpa using hok');rw[zp5,zp5,e]
 ·rw[zfb]at hok⊢;rcases ho with rfl|rfl|rfl
  all_goals
   cases h1;have hok':([p,q].all fun x=>(zci n u x).2)=true:=hok;simp only[Ke,Jd,K4,Qb]at hok';have e:=ih p (by simp) hp ρ hok'.1;have e2:=ih q (by simp) hq ρ hok'.2
  ·show zbi I (.mk 5 _ _ [(zci n u p).1,(zci n u q).1]) ρ=zbi I (.mk 5 (.mk [] []) [] [p,q]) _
   rw[zly,zly,e,e2]
  ·show zbi I (.mk 6 _ _ [(zci n u p).1,(zci n u q).1]) ρ=zbi I (.mk 6 (.mk [] []) [] [p,q]) _
   rw[zwh,zwh,e,e2]
  ·show zbi I (.mk 7 _ _ [(zci n u p).1,(zci n u q).1]) ρ=zbi I (.mk 7 (.mk [] []) [] [p,q]) _
   rw[zmc,zmc,e,e2]
 ·cases h1;have hq:isQ o=true:=by rcases ho with rfl|rfl<;>rfl
  have h3:(o==3)=false:=by rcases ho with rfl|rfl<;>rfl
  rw[zfb]at hok⊢;show zbi I (if(isQ o&&(v==n||!((zbb [] (vf (.mk o (.mk [] []) v [p]) [])).contains n)))=true then (Fm.mk o (.mk [] []) v [p],true)else if(isQ o&&decide (0<zgs v u))=true then (mkF 0 [],false)else (.mk o (if(o==3)=true then zds n u (.mk [] [])else (.mk [] [])) v [(zci n u p).1],[p].all fun x=>(zci n u x).2)).1 ρ=_
  change (if(isQ o&&(v==n||!((zbb [] (vf (.mk o (.mk [] []) v [p]) [])).contains n)))=true then (Fm.mk o (.mk [] []) v [p],true)else if(isQ o&&decide (0<zgs v u))=true then (mkF 0 [],false)else (.mk o (if(o==3)=true then zds n u (.mk [] [])else (.mk [] [])) v [(zci n u p).1],[p].all fun x=>(zci n u x).2)).2=true at hok
  rw[hq,Qv,Qv]at hok⊢;by_cases hc:(v==n||!((zbb [] (vf (.mk o (.mk [] []) v [p]) [])).contains n))=true
  ·rw[if_pos hc];by_cases hvn:v=n
   ·subst hvn;refine zyw _ h ρ _ fun y hy=>?_;rw[zk6]at hy
    change y∈(if(o==3)=true then _ else ([p].map fun z=>vf z (if isQ o=true then []++[v]else [])).flatten)at hy
    rw[h3,if_neg (by simp),if_pos hq]at hy;simp only[Qg,Qh,Q8,List.flatten_nil,Ks,Jb]at hy;rw[qc0]at hy;unfold zez;have:(y==v)=false:=by
     rw[Ql];intro e;exact hy.2 (by simp[e])
    rw[this];simp
   ·have hvn':(v==n)=false:=by simpa using hvn
    rw[hvn',Km,Jo]at hc;exact hfree _ h hc _
  ·rw[if_neg hc]at hok⊢;by_cases hcap:(decide (0<zgs v u))=true
   ·rw[if_pos hcap]at hok;cases hok
   ·rw[if_neg hcap]at hok⊢;have hc':(v==n||!((zbb [] (vf (.mk o (.mk [] []) v [p]) [])).contains n))=false:=by simpa using hc
    rw[J3]at hc';have hvn:=hc'.1;have hvar:za9 v=true:=by
     have hh:(Fm.mk o (.mk [] []) v [p]).here=true:=by rw[Fm.forms_eq,Qb]at h;exact h.1
     exact zqj hh hq
    have hnoc:v∉voS u:=fun hm=>by
     have h1:=qbi v hvar u hu;have h2:=Kh.2 hm;rw[h2]at h1;exact hcap h1
    have hval:∀x:Int,vlT I (zez ρ v x) u=vlT I ρ u:=fun x=>qa0 u hu _ _ fun y hy=>by
     unfold zez;have:(y==v)=false:=by
      rw[Ql];rintro rfl;exact hnoc hy
     rw[this];simp
    have hok':(zci n u p).2=true:=by simpa using hok
    have e:∀x:Int,zbi I (zci n u p).1 (zez ρ v x)=zbi I p (zez (zez ρ n (vlT I ρ u)) v x):=fun x=>by
     rw[ih p (by simp) hp (zez ρ v x) hok',hval,qgr hvn]
    rcases ho with rfl|rfl
    ·show zbi I (.mk 8 _ v [(zci n u p).1]) ρ=_
     rw[zou,zou]
     congr 1
     funext x
     exact e x
    ·show zbi I (.mk 9 _ v [(zci n u p).1]) ρ=_
     rw[zjx,zjx]
     congr 1
     funext x
     exact e x
end
end
section
open Go.RowKit
theorem zxr {xs:List Fm}{g:Int}{i:Nat}(h:i<xs.length)(hg:(i:Int)≠g):xs[i]∈zct xs g:=by
 unfold zct zf6
 exact Ki.2 ⟨i,J7.2 ⟨K2.2 h,by simpa using hg⟩,by simp[List.getD,h]⟩
theorem zov (xs:List Fm)(P:Fm->Bool){g:Int}(hg:0<=g)(hl:g.toNat<xs.length):xs.all P=((zct xs g).all P&&P (xs.getD g.toNat zan)):=by
 rw[Kq,Qb,Qn,Qn]
 constructor
 ·intro h;refine⟨fun x hx=>h x ((zdv xs g).subset hx),h _ ?_⟩;rw[List.getD,List.getElem?_eq_getElem hl];exact Qj hl
 ·rintro⟨h1,h2⟩ x hx;obtain⟨i,hi,rfl⟩:=Jm hx;by_cases e:(i:Int)=g
  ·have e2:g.toNat=i:=by omega
   rw[e2,List.getD,List.getElem?_eq_getElem hi]at h2;exact h2
  ·exact h1 _ (zxr hi e)
theorem zzn (xs:List Fm)(P:Fm->Bool){g:Int}(hg:0<=g)(hl:g.toNat<xs.length):xs.any P=((zct xs g).any P||P (xs.getD g.toNat zan)):=by
 have h:=zov xs (fun x=>!P x) hg hl
 rw[List.any_eq_not_all_not,List.any_eq_not_all_not,h]
 cases (zct xs g).all (fun x=>!P x)<;>cases P (xs.getD g.toNat zan)<;>rfl
section
variable {I:Itp}{ρ:Str->Int}
def sqT (I:Itp)(ρ:Str->Int)(s:Sq):Bool:=!(s.left.all fun f=>zbi I f ρ)||s.right.any fun f=>zbi I f ρ
theorem qit {f p:Fm}(h:f.op=4)(hp:f.parts=[p]):zbi I f ρ=!zbi I p ρ:=by rw[zb3 I f,hp,h];rfl
theorem qix {f p q:Fm}(h:f.op=5)(hp:f.parts=[p,q]):zbi I f ρ=(zbi I p ρ&&zbi I q ρ):=by rw[zb3 I f,hp,h];rfl
theorem op_or {f p q:Fm}(h:f.op=6)(hp:f.parts=[p,q]):zbi I f ρ=(zbi I p ρ||zbi I q ρ):=by rw[zb3 I f,hp,h];rfl
theorem qie {f p q:Fm}(h:f.op=7)(hp:f.parts=[p,q]):zbi I f ρ=(!zbi I p ρ||zbi I q ρ):=by rw[zb3 I f,hp,h];rfl
theorem op_all {f p:Fm}(h:f.op=8)(hp:f.parts=[p]):zbi I f ρ=(List.range I.n).all fun x=>zbi I p (zez ρ f.var x):=by rw[zb3 I f,hp,h];rfl
theorem qlz {f p:Fm}(h:f.op=9)(hp:f.parts=[p]):zbi I f ρ=(List.range I.n).any fun x=>zbi I p (zez ρ f.var x):=by rw[zb3 I f,hp,h];rfl
theorem ql3 {f:Fm}(h:f.op=1):zbi I f ρ=true:=by rw[zb3 I f,h];rfl
theorem qf3 {f:Fm}(h:f.op=2):zbi I f ρ=false:=by rw[zb3 I f,h];rfl
theorem zq8 (s:Sq)(d:Dv)(x:Sq):sqT I ρ (zea s d x)=(!(((zct s.left (zb6 d true)).all fun f=>zbi I f ρ)&&x.left.all fun f=>zbi I f ρ)||(((zct s.right (zb6 d false)).any fun f=>zbi I f ρ)||x.right.any fun f=>zbi I f ρ)):=by
 unfold sqT zea
 rw[Yf,List.any_append]
theorem zv3 {s:Sq}{d:Dv}(hs:s.good=true)(hr:1<=d.rule/\d.rule<=10)(hm:zbr s d=true)(hok:(zbw s d.rule (zbc s d)).2=true)
  (hp:∀x∈(zbw s d.rule (zbc s d)).1.map (zea s d),sqT I ρ x=true):sqT I ρ s=true:=by
 obtain⟨hi,h0,hmem⟩:=zeb hm
 have hg:=zdf hs d.rule hmem
 have hop:=zm0 hm
 have hrem:zur d.rule=false:=by
  unfold zur;rw[J3,Ql,Ql];omega
 have h15:(d.rule==15)=false:=by rw[Ql];omega
 have hp':∀x∈(zbw s d.rule (zbc s d)).1,(!(((zct s.left (zb6 d true)).all fun f=>zbi I f ρ)&&x.left.all fun f=>zbi I f ρ)||(((zct s.right (zb6 d false)).any fun f=>zbi I f ρ)||x.right.any fun f=>zbi I f ρ))=true:=fun x hx=>by
  rw[<-zq8];exact hp _ (Yc hx)
 cases hL:onL d.rule
 ·have g1:zb6 d true = -1:=by unfold zb6;rw[hL,hrem,h15];rfl
  have g2:zb6 d false=d.main:=by unfold zb6;rw[hL,hrem,h15];rfl
  rw[g1,g2,zgf _ (show(-1:Int)<0 by omega)]at hp';have eS:zc6 s d.rule=s.right:=by unfold zc6;rw[hL];rfl
  have eM:s.right.getD d.main.toNat zan=zbc s d:=by unfold zbc;rw[eS]
  have eR:(s.right.any fun f=>zbi I f ρ)=((zct s.right d.main).any (fun f=>zbi I f ρ)||zbi I (zbc s d) ρ):=by
   rw[zzn s.right _ h0 (by rw[<-eS];exact hi),eM]
  unfold sqT;rw[eR];generalize (s.left.all fun f=>zbi I f ρ)=A at hp'⊢;generalize (zct s.right d.main).any (fun f=>zbi I f ρ)=B at hp'⊢;have hrr:d.rule=2\/d.rule=4\/d.rule=6\/d.rule=8\/d.rule=10:=by
   unfold onL at hL;simp only[J3,Ql]at hL;omega
  generalize zbc s d=f at hp' hok hop hg⊢;rcases hrr with h|h|h|h|h<;>rw[h]at hp' hop
  ·have hf:f.op=1:=by rcases hop with h2|h2<;>first|exact h2|cases h2
   rw[ql3 hf];simp
  ·have hf:f.op=4:=by rcases hop with h2|h2<;>first|exact h2|cases h2
   obtain⟨p,e⟩:=zga hg hf;rw[qit hf e];have:=hp' ⟨[f.parts.getD 0 zan],[]⟩ (by simp[zbw]);rw[e]at this;simp only[Jn,Ke,Jd,J1,K4,Ju]at this;revert this;cases A<;>cases B<;>cases zbi I p ρ<;>simp
  ·have hf:f.op=5:=by rcases hop with h2|h2<;>first|exact h2|cases h2
   obtain⟨p,q,e⟩:=zbz hg (Or.inl hf);rw[qix hf e];have t1:=hp' ⟨[],[f.parts.getD 0 zan]⟩ (by simp[zbw]);have t2:=hp' ⟨[],[f.parts.getD 1 zan]⟩ (by simp[zbw]);rw[e]at t1 t2;simp only[Jn,List.getD_cons_succ,Jd,J0,J1,K4,Ju]at t1 t2;revert t1 t2;cases A<;>cases B<;>cases zbi I p ρ<;>cases zbi I q ρ<;>simp
  ·have hf:f.op=6:=by rcases hop with h2|h2<;>first|exact h2|cases h2
   obtain⟨p,q,e⟩:=zbz hg (Or.inr (Or.inl hf));rw[op_or hf e];have t1:=hp' ⟨[],f.parts⟩ (by simp[zbw]);rw[e]at t1;simp only[Jd,J0,J1,K4,Ju]at t1;revert t1;cases A<;>cases B<;>cases zbi I p ρ<;>cases zbi I q ρ<;>simp
  ·have hf:f.op=7:=by rcases hop with h2|h2<;>first|exact h2|cases h2
   obtain⟨p,q,e⟩:=zbz hg (Or.inr (Or.inr hf));rw[qie hf e];have t1:=hp' ⟨[f.parts.getD 0 zan],[f.parts.getD 1 zan]⟩ (by simp[zbw]);rw[e]at t1;simp only[Jn,List.getD_cons_succ,Ke,Jd,J0,J1,K4,Ju]at t1;revert t1;cases A<;>cases B<;>cases zbi I p ρ<;>cases zbi I q ρ<;>simp
 ·have g1:zb6 d true=d.main:=by unfold zb6;rw[hL,hrem,h15];rfl
  have g2:zb6 d false = -1:=by unfold zb6;rw[hL,hrem,h15];rfl
  rw[g1,g2,zgf _ (show(-1:Int)<0 by omega)]at hp';have eS:zc6 s d.rule=s.left:=by unfold zc6;rw[hL];rfl
  have eM:s.left.getD d.main.toNat zan=zbc s d:=by unfold zbc;rw[eS]
  have eR:(s.left.all fun f=>zbi I f ρ)=((zct s.left d.main).all (fun f=>zbi I f ρ)&&zbi I (zbc s d) ρ):=by
   rw[zov s.left _ h0 (by rw[<-eS];exact hi),eM]
  have hax:d.rule=1->((zbc s d).op=2\/zbc s d∈s.right):=fun h=>by
   rw[h]at hok;have hok:((zbc s d).op==2||s.right.any fun g=>same (zbc s d) g)=true:=hok;rw[K7,Kr,Jt]at hok;rcases hok with h1|⟨g,h1,h2⟩
   ·exact Or.inl h1
   ·rw[zdk]at h2;rw[h2];exact Or.inr h1
  have hin:zbc s d∈s.right->zbi I (zbc s d) ρ=true->(s.right.any fun f=>zbi I f ρ)=true:=fun h1 h2=>Jt.2 ⟨_,h1,h2⟩;unfold sqT;rw[eR];generalize (zct s.left d.main).all (fun f=>zbi I f ρ)=A at hp'⊢;generalize (s.right.any fun f=>zbi I f ρ)=B at hp' hin⊢;have hrr:d.rule=1\/d.rule=3\/d.rule=5\/d.rule=7\/d.rule=9:=by
   unfold onL at hL;simp only[K7,Kr]at hL;omega
  generalize zbc s d=f at hp' hok hop hg hax hin⊢;rcases hrr with h|h|h|h|h<;>rw[h]at hp' hop
  ·rcases hax h with h1|h1
   ·rw[qf3 h1];simp
   ·have h2:=hin h1;revert h2;cases A<;>cases B<;>cases zbi I f ρ<;>simp
  ·have hf:f.op=4:=by rcases hop with h2|h2<;>first|exact h2|cases h2
   obtain⟨p,e⟩:=zga hg hf;rw[qit hf e];have:=hp' ⟨[],[f.parts.getD 0 zan]⟩ (by simp[zbw]);rw[e]at this;simp only[Jn,Jd,J0,J1,K4,Ju]at this;revert this;cases A<;>cases B<;>cases zbi I p ρ<;>simp
  ·have hf:f.op=5:=by rcases hop with h2|h2<;>first|exact h2|cases h2
   obtain⟨p,q,e⟩:=zbz hg (Or.inl hf);rw[qix hf e];have t1:=hp' ⟨f.parts,[]⟩ (by simp[zbw]);rw[e]at t1;simp only[Ke,Jd,J1,K4,Ju]at t1;revert t1;cases A<;>cases B<;>cases zbi I p ρ<;>cases zbi I q ρ<;>simp
  ·have hf:f.op=6:=by rcases hop with h2|h2<;>first|exact h2|cases h2
   obtain⟨p,q,e⟩:=zbz hg (Or.inr (Or.inl hf));rw[op_or hf e];have t1:=hp' ⟨[f.parts.getD 0 zan],[]⟩ (by simp[zbw]);have t2:=hp' ⟨[f.parts.getD 1 zan],[]⟩ (by simp[zbw]);rw[e]at t1 t2;simp only[Jn,List.getD_cons_succ,Ke,Jd,J1,K4,Ju]at t1 t2;revert t1 t2;cases A<;>cases B<;>cases zbi I p ρ<;>cases zbi I q ρ<;>simp
  ·have hf:f.op=7:=by rcases hop with h2|h2<;>first|exact h2|cases h2
   obtain⟨p,q,e⟩:=zbz hg (Or.inr (Or.inr hf));rw[qie hf e];have t1:=hp' ⟨[],[f.parts.getD 0 zan]⟩ (by simp[zbw]);have t2:=hp' ⟨[f.parts.getD 1 zan],[]⟩ (by simp[zbw]);rw[e]at t1 t2;simp only[Jn,List.getD_cons_succ,Ke,Jd,J0,J1,K4,Ju]at t1 t2;revert t1 t2;cases A<;>cases B<;>cases zbi I p ρ<;>cases zbi I q ρ<;>simp
theorem qls {n:Str}{t:Tm}{p:Fm}(h:(sbF n t p).2=true):za9 n=true/\t.names=true/\p.forms=true/\(zci n t p).2=true/\(sbF n t p).1=(zci n t p).1:=by
 unfold sbF at h⊢
 split at h
 ·rename_i hc;rw[if_pos hc];simp only[Qb]at hc;exact⟨hc.1.1.1.2,zhd hc.1.1.2,zdy hc.1.1.1.1,hc.1.2,rfl⟩
 ·cases h
theorem zw0 {s:Sq}{d:Dv}(hs:s.good=true)(hr:d.rule=11\/d.rule=14)(hv:0<=vlT I ρ d.term/\vlT I ρ d.term<I.n)(hm:zbr s d=true)
  (hok:(ze5 s d (zbc s d)).2=true) (hp:∀x∈(ze5 s d (zbc s d)).1.map (zea s d),sqT I ρ x=true):sqT I ρ s=true:=by
 obtain⟨hi,h0,hmem⟩:=zeb hm
 have hg:=zdf hs d.rule hmem
 have hop:=zm0 hm
 have hrem:zur d.rule=true:=by rcases hr with h|h<;>rw[h]<;>rfl
 have g:∀l,zb6 d l = -1:=fun l=>by unfold zb6;rw[hrem];simp
 have hp':∀x∈(ze5 s d (zbc s d)).1,(!((s.left.all fun f=>zbi I f ρ)&&x.left.all fun f=>zbi I f ρ)||((s.right.any fun f=>zbi I f ρ)||x.right.any fun f=>zbi I f ρ))=true:=fun x hx=>by
  have:=hp _ (Yc hx);rw[zq8,g,g,zgf _ (show(-1:Int)<0 by omega),zgf _ (show(-1:Int)<0 by omega)]at this;exact this
 have hxr:(vlT I ρ d.term).toNat∈List.range I.n:=by rw[K2];omega
 have hxe:(((vlT I ρ d.term).toNat:Nat):Int)=vlT I ρ d.term:=by omega
 have hsb:(sbF (zbc s d).var d.term ((zbc s d).parts.getD 0 zan)).2=true:=by
  unfold ze5 at hok;rw[hrem]at hok;split at hok
  ·cases hok
  ·split at hok
   ·assumption
   ·cases hok
 obtain⟨h1,h2,h3,h4,h5⟩:=qls hsb
 have hT:=tr_sub (I:=I) _ d.term h1 h2 _ h3 ρ h4
 rw[<-h5]at hT
 unfold ze5 at hp'
 rw[hrem,if_pos hsb,if_neg (by simp)]at hp'
 unfold sqT
 rcases hr with h|h
 ·have hf:(zbc s d).op=8:=by rcases hop with h2|h2<;>rw[h]at h2<;>first|exact h2|cases h2
  obtain⟨_,hpt,_⟩:=zdg hg (Or.inl hf)
  have hin:(s.left.all fun f=>zbi I f ρ)=true->zbi I (zbc s d) ρ=true:=fun h6=>Qn.1 h6 _ (by
   have:zc6 s d.rule=s.left:=by unfold zc6;rw[h];rfl
   rw[this]at hmem;exact hmem)
  rw[op_all hf hpt]at hin;rw[h,show onL 11=true from rfl,if_pos rfl]at hp';have:=hp' _ (Qw.2 rfl);simp only[Ke,Jd,J1,K4,Ju,hT]at this;have h7:(s.left.all fun f=>zbi I f ρ)=true->zbi I ((zbc s d).parts.getD 0 zan) (zez ρ (zbc s d).var (vlT I ρ d.term))=true:=fun h6=>by
   have h8:=Qn.1 (hin h6) _ hxr;rw[hxe]at h8;exact h8
  revert this h7;cases (s.left.all fun f=>zbi I f ρ)<;>cases (s.right.any fun f=>zbi I f ρ)<;>cases zbi I ((zbc s d).parts.getD 0 zan) (zez ρ (zbc s d).var (vlT I ρ d.term))<;>simp
 ·have hf:(zbc s d).op=9:=by rcases hop with h2|h2<;>rw[h]at h2<;>first|exact h2|cases h2
  obtain⟨_,hpt,_⟩:=zdg hg (Or.inr hf)
  have hin:zbi I (zbc s d) ρ=true->(s.right.any fun f=>zbi I f ρ)=true:=fun h6=>Jt.2 ⟨_,by
   have:zc6 s d.rule=s.right:=by unfold zc6;rw[h];rfl
   rw[this]at hmem;exact hmem,h6⟩
  rw[qlz hf hpt]at hin;rw[h,show onL 14=false from rfl,if_neg (by simp)]at hp';have:=hp' _ (Qw.2 rfl);simp only[J0,Jd,J1,K4,Ju,hT]at this;have h7:zbi I ((zbc s d).parts.getD 0 zan) (zez ρ (zbc s d).var (vlT I ρ d.term))=true->(s.right.any fun f=>zbi I f ρ)=true:=fun h6=>hin (Jt.2 ⟨_,hxr,by rw[hxe];exact h6⟩);revert this h7;cases (s.left.all fun f=>zbi I f ρ)<;>cases (s.right.any fun f=>zbi I f ρ)<;>cases zbi I ((zbc s d).parts.getD 0 zan) (zez ρ (zbc s d).var (vlT I ρ d.term))<;>simp
theorem zxq {s:Sq}{d:Dv}(h12:d.rule≠12)(h13:d.rule≠13)(hv:0<=vlT I ρ d.term/\vlT I ρ d.term<I.n)(hok:(zp7 s d).2=true)(hp:∀x∈(zp7 s d).1,sqT I ρ x=true):sqT I ρ s=true:=by
 unfold zp7 at hok hp
 by_cases hs:s.good=true
 ·rw[if_pos hs]at hok hp;unfold prR at hok hp;split at hok
  ·rename_i hc;rw[if_pos hc]at hp;rw[Qb]at hc;have hok:=hc.1;have hp:∀x∈(adR s d).1.map (zea s d),sqT I ρ x=true:=hp;unfold adR at hok hp;by_cases h15:d.rule=15
   ·rw[if_pos h15]at hok hp;split at hok
    ·rename_i hc;rw[if_pos hc]at hp;have g:∀l,zb6 d l = -1:=fun l=>by unfold zb6;rw[h15];rfl
     have t1:=hp (zea s d ⟨[],[d.cut]⟩) (by simp);have t2:=hp (zea s d ⟨[d.cut],[]⟩) (by simp);rw[zq8,g,g,zgf _ (show(-1:Int)<0 by omega),zgf _ (show(-1:Int)<0 by omega)]at t1 t2;simp only[J0,Ke,Jd,J1,K4,Ju]at t1 t2;unfold sqT;revert t1 t2;cases (s.left.all fun f=>zbi I f ρ)<;>cases (s.right.any fun f=>zbi I f ρ)<;>cases zbi I d.cut ρ<;>simp
    ·cases hok
   ·rw[if_neg h15]at hok hp;split at hok
    ·rename_i hc;rw[if_pos hc]at hp;simp only[Qb]at hc;obtain⟨⟨⟨hin,_⟩,_⟩,hm⟩:=hc;unfold inB at hin;simp only[Qb,Qm]at hin;split at hok
     ·rename_i hq;rw[if_pos hq]at hp;unfold inB at hq;simp only[Qb,Qm]at hq;exact zw0 hs Yo hv hm hok hp
     ·rename_i hq;rw[if_neg hq]at hp;unfold inB at hq;simp only[Qb,Qm]at hq;exact zv3 hs Yo hm hok hp
    ·cases hok
  ·cases hok
 ·rw[if_neg hs]at hok;cases hok
end
end
section
open Go.RowKit
theorem qat (a:Tm)(H:∀x∈a.args,FC Tryz.prog 86 [tmD x,tmD x] [bD true]):FC Tryz.prog 86 [tmD a,tmD a] [bD true]:=by
 refine zfa (fun hw=>?_) Tryz.call86
 simp only[tmD,zab]at hw⊢
 have hl:a.args.length<=9223372036854775807:=by simp[ziy,wfT,zoe]at hw;exact hw.2.1
 have hb1:(a.name==a.name)=true:=by simp
 have hb2:((a.args.length:Int) != (a.args.length:Int))=false:=by simp
 refine zai Tryz.call86 Tryz.func86 rfl Yn (zau Yn) ?_
 simp -implicitDefEqProofs only[go_sem,Tryz.results86,hb1,hb2]
 refine zaf (fun k:Nat=>hd [(2,.one (.bx 2 0)),(3,.one (.bx 3 0)),(4,vB false),(5,vI k)] [(2,[.t (.str a.name),.t (tmS a.args)]),(3,[.t (.str a.name),.t (tmS a.args)])] []) (fun k=>k<=a.args.length) (fun k=>a.args.length-k) 0 (zac ?_) (Q3 _) ?_
 ·simp -implicitDefEqProofs only[go_sem]
 ·intro k hk;by_cases hlt:k<a.args.length
  ·simp -implicitDefEqProofs only[go_sem,hlt];refine drawn Yn ?_;simp -implicitDefEqProofs only[go_sem,zae,hlt,zab];refine zal (H a.args[k] (Qj hlt)) (by simp -implicitDefEqProofs only[go_sem,zab]) ?_;simp -implicitDefEqProofs only[go_sem,zab];refine⟨Yn,?_⟩;rw[zaw Yo];exact⟨k+1,Yo,Yo,zac Ym⟩
  ·simp -implicitDefEqProofs only[go_sem,hlt]
theorem qdy:∀a:Tm,FC Tryz.prog 86 [tmD a,tmD a] [bD true]:=zby fun n xs ih=>qat (.mk n xs) ih
theorem zoh (a:Fm)(H:∀x∈a.parts,FC Tryz.prog 27 [fmD x,fmD x] [bD true]):FC Tryz.prog 27 [fmD a,fmD a] [bD true]:=by
 refine zfa (fun hw=>?_) Tryz.call27
 simp only[fmD,zaa]at hw⊢
 have hl:a.parts.length<=9223372036854775807:=by simp[ziy,wfT,zoe]at hw;exact hw.2.2.2.2.1
 have hb1:(a.op != a.op)=false:=by simp
 have hb2:(a.var==a.var)=true:=by simp
 have hb4:(a.var != a.var)=false:=by simp
 have hb3:((a.parts.length:Int) != (a.parts.length:Int))=false:=by simp
 refine zai Tryz.call27 Tryz.func27 rfl Yn (zau Yn) ?_
 simp -implicitDefEqProofs only[go_sem,Tryz.results27,hb1,hb2,hb3,hb4]
 refine callF (qdy a.atom) (by simp -implicitDefEqProofs only[go_sem,zab,hb3]) ?_
 simp -implicitDefEqProofs only[go_sem,zab,hb3]
 refine zaf (fun k:Nat=>hd [(2,.one (.bx 2 0)),(3,.one (.bx 3 0)),(4,vB false),(5,vI k)] [(2,[.t (.int .i64 a.op),.t (.str a.atom.name),.t (tmS a.atom.args),.t (.str a.var),.t (fmS a.parts)]),(3,[.t (.int .i64 a.op),.t (.str a.atom.name),.t (tmS a.atom.args),.t (.str a.var),.t (fmS a.parts)])] []) (fun k=>k<=a.parts.length) (fun k=>a.parts.length-k) 0 (zac ?_) (Q3 _) ?_
 ·simp -implicitDefEqProofs only[go_sem]
 ·intro k hk;by_cases hlt:k<a.parts.length
  ·simp -implicitDefEqProofs only[go_sem,hlt];refine drawn Yn ?_;simp -implicitDefEqProofs only[go_sem,zae,hlt,zaa];refine zal (H a.parts[k] (Qj hlt)) (by simp -implicitDefEqProofs only[go_sem,zaa]) ?_;simp -implicitDefEqProofs only[go_sem,zaa];refine⟨Yn,?_⟩;rw[zaw Yo];exact⟨k+1,Yo,Yo,zac Ym⟩
  ·simp -implicitDefEqProofs only[go_sem,hlt]
theorem zjr:∀a:Fm,FC Tryz.prog 27 [fmD a,fmD a] [bD true]:=zcc fun o t v ps ih=>zoh (.mk o t v ps) ih
end
section
open Go.RowKit
theorem rSeq_c (s:Sq):FC Tryz.prog 9 [sqD s,sqD s] [bD true]:=by
 refine zfa (fun hw=>?_) Tryz.call9
 have hb1:((s.left.length:Int) != (s.left.length:Int))=false:=by simp
 have hb2:((s.right.length:Int) != (s.right.length:Int))=false:=by simp
 simp only[sqD,zat]at hw⊢
 have hl1:s.left.length<=9223372036854775807:=by simp[ziy,wfT,zoe,zfc]at hw;omega
 have hl2:s.right.length<=9223372036854775807:=by simp[ziy,wfT,zoe,zfc]at hw;omega
 refine zai Tryz.call9 Tryz.func9 rfl Yn (zau Yn) ?_
 simp -implicitDefEqProofs only[go_sem,Tryz.results9,hb1,hb2]
 refine zaf (fun k:Nat=>hd [(2,.one (.bx 2 0)),(3,.one (.bx 3 0)),(4,vB false),(5,vI k)] [(2,[.t (fmS s.left),.t (fmS s.right)]),(3,[.t (fmS s.left),.t (fmS s.right)])] []) (fun k=>k<=s.left.length) (fun k=>s.left.length-k) 0 (zac ?_) (Q3 _) ?_
 ·simp -implicitDefEqProofs only[go_sem]
 ·intro k hk;by_cases hlt:k<s.left.length
  ·simp -implicitDefEqProofs only[go_sem,hlt];refine drawn Yn ?_;simp -implicitDefEqProofs only[go_sem,zae,hlt,zaa];refine zal (zjr s.left[k]) (by simp -implicitDefEqProofs only[go_sem,zaa]) ?_;simp -implicitDefEqProofs only[go_sem,zaa];refine⟨Yn,?_⟩;rw[zaw Yo];exact⟨k+1,Yo,Yo,zac Ym⟩
  ·simp -implicitDefEqProofs only[go_sem,hlt];refine zaf (fun k:Nat=>hd [(2,.one (.bx 2 0)),(3,.one (.bx 3 0)),(4,vB false),(6,vI k)] [(2,[.t (fmS s.left),.t (fmS s.right)]),(3,[.t (fmS s.left),.t (fmS s.right)])] []) (fun k=>k<=s.right.length) (fun k=>s.right.length-k) 0 (zac ?_) (Q3 _) ?_
   ·simp -implicitDefEqProofs only[go_sem]
   ·intro k hk;by_cases hlt:k<s.right.length
    ·simp -implicitDefEqProofs only[go_sem,hlt];refine drawn Yn ?_;simp -implicitDefEqProofs only[go_sem,zae,hlt,zaa];refine zal (zjr s.right[k]) (by simp -implicitDefEqProofs only[go_sem,zaa]) ?_;simp -implicitDefEqProofs only[go_sem,zaa];refine⟨Yn,?_⟩;rw[zaw Yo];exact⟨k+1,Yo,Yo,zac Ym⟩
    ·simp -implicitDefEqProofs only[go_sem,hlt]
def zk4 (code:List UInt8)(i:Nat):Int:=if i<code.length then ((code.getD i 0).toNat:Int)else ((i:Int)*7+code.length).tmod 256
theorem qg8 (code:List UInt8)(hc:code.length<=65536)(i:Nat)(hi:i<=1048576):FC Tryz.prog 10 [.one (zeg code),iD i] [iD (zk4 code i)]:=by
 unfold zk4
 by_cases hlt:i<code.length
 ·have hli:((i:Int)<code.length)=True:=by simp;omega
  rw[if_pos hlt];refine zai Tryz.call10 Tryz.func10 rfl Yn (zau Yn) ?_;simp -implicitDefEqProofs only[go_sem,Tryz.results10,hli,zae,hlt,zsw];rw[List.getD_eq_getElem?_getD,List.getElem?_eq_getElem hlt];rfl
 ·have hli:((i:Int)<code.length)=False:=by simp;omega
  rw[if_neg hlt];refine zai Tryz.call10 Tryz.func10 rfl Yn (zau Yn) ?_;simp -implicitDefEqProofs only[go_sem,Tryz.results10,hli];rw[za1 (n:=(i:Int)*7) Yo Yo,za1 Yo Yo];have:0<=((i:Int)*7+code.length).tmod 256/\((i:Int)*7+code.length).tmod 256<256:=by
   rw[Jl Yo];exact⟨Int.emod_nonneg _ Yo,Int.emod_lt_of_pos _ Yo⟩
  exact⟨⟨Yo,Yo,Yo⟩,rfl⟩
def hN (name:Str):Int:=name.foldl (fun h b=>(31*h+(b.toNat:Int)).tmod 65521) 17
def hV (h:Int)(vs:List Int):Int:=vs.foldl (fun h v=>(37*h+v+1).tmod 65521) h
def qf7 (code:List UInt8)(name:Str)(vs:List Int):Int:=(hV (hN name) vs+13*zk4 code ((hV (hN name) vs).toNat % 53)+zk4 code ((hV (hN name) vs).toNat % 89)).tdiv 3
theorem zd0 {x m:Int}(hx:0<=x)(hm:0<m):0<=x.tmod m/\x.tmod m<m:=by
 rw[Jl hx]
 exact⟨Int.emod_nonneg _ Yo,Int.emod_lt_of_pos _ hm⟩
theorem zf4 (code:List UInt8)(i:Nat):0<=zk4 code i/\zk4 code i<256:=by
 unfold zk4
 split
 ·have:=(code.getD i 0).toNat_lt;omega
 ·exact zd0 Yo Yo
theorem qd3 (name:Str):0<=hN name/\hN name<65521:=by
 unfold hN
 refine List.foldlRecOn name _ (motive:=fun h:Int=>0<=h/\h<65521) Yo fun h hh b _=>zd0 Yo Yo
theorem qkv {h:Int}(hh:0<=h/\h<65521)(vs:List Int)(hv:∀v∈vs,0<=v/\v<=1000):0<=hV h vs/\hV h vs<65521:=by
 unfold hV
 refine List.foldlRecOn vs _ (motive:=fun h:Int=>0<=h/\h<65521) hh fun h hh v hm=>zd0 (by have:=hv v hm;omega) Yo
theorem qks (name:Str){k:Nat}(h:k<name.length):hN (name.take (k+1))=(31*hN (name.take k)+(name[k].toNat:Int)).tmod 65521:=by
 unfold hN
 rw[Qk h,Yh];rfl
theorem qj4 (h0:Int)(vs:List Int){k:Nat}(h:k<vs.length):hV h0 (vs.take (k+1))=(37*hV h0 (vs.take k)+vs[k]+1).tmod 65521:=by
 unfold hV
 rw[Qk h,Yh];rfl
theorem qh1 (code:List UInt8)(hc:code.length<=65536)(name:Str)(vs:List Int)(hv:∀v∈vs,0<=v/\v<=1000):FC Tryz.prog 164 [.one (zeg code),.one (.str name),.one (zo1 vs)] [iD (qf7 code name vs)]:=by
 refine zfa (fun hw=>?_) Tryz.call164
 have hl1:name.length<=9223372036854775807:=by simp[ziy,wfT,zfc]at hw;omega
 have hl2:vs.length<=9223372036854775807:=by simp[ziy,wfT,zfc]at hw;omega
 refine zai Tryz.call164 Tryz.func164 rfl Yn (zau Yn) ?_
 simp -implicitDefEqProofs only[go_sem,Tryz.results164]
 refine zaf (fun k:Nat=>hd [(0,vT (zeg code)),(1,.one (.t (.str name))),(2,vT (zo1 vs)),(6,vI 0),(7,vI (hN (name.take k))),(8,vI k)] [] []) (fun k=>k<=name.length) (fun k=>name.length-k) 0 (zac ?_) (Q3 _) ?_
 ·simp -implicitDefEqProofs only[go_sem];exact rfl
 ·intro k hk;by_cases hlt:k<name.length
  ·have hwk:IntKind.i64.wrap ((k:Int)+1)=((k+1:Nat):Int):=zaw Yo;have hb:=qd3 (name.take k);have hb2:=name[k].toNat_lt;have hs:=qks name hlt;have hgd:name.getD k 0=name[k]:=by rw[List.getD_eq_getElem?_getD,List.getElem?_eq_getElem hlt];rfl
   have hw1:IntKind.i64.wrap (31*hN (name.take k))=31*hN (name.take k):=za1 Yo Yo;have hw2:IntKind.i64.wrap (31*hN (name.take k)+(name[k].toNat:Int))=31*hN (name.take k)+(name[k].toNat:Int):=za1 Yo Yo;have ht:=zd0 (x:=31*hN (name.take k)+(name[k].toNat:Int)) (m:=65521) Yo Yo;simp -implicitDefEqProofs only[go_sem,hlt];rw[hgd,zsw,hw1,hw2];refine⟨⟨Yo,Yo,Yo⟩,k+1,Yo,Yo,zac ?_⟩;simp -implicitDefEqProofs only[go_sem];rw[hwk,hs];exact⟨rfl,rfl⟩
  ·have hkn:k=name.length:=by omega
   subst hkn;rw[Kx];simp -implicitDefEqProofs only[go_sem,hlt];refine zaf (fun k:Nat=>hd [(0,vT (zeg code)),(2,vT (zo1 vs)),(7,vI (hV (hN name) (vs.take k))),(9,vI k)] [] []) (fun k=>k<=vs.length) (fun k=>vs.length-k) 0 (zac ?_) (Q3 _) ?_
   ·simp -implicitDefEqProofs only[go_sem];exact rfl
   ·intro k hk;by_cases hlt:k<vs.length
    ·have hwk:IntKind.i64.wrap ((k:Int)+1)=((k+1:Nat):Int):=zaw Yo;have hb:=qkv (qd3 name) (vs.take k) fun v hm=>hv v (List.mem_of_mem_take hm);have hb2:=hv _ (Qj hlt);have hs:=qj4 (hN name) vs hlt;generalize hV (hN name) (vs.take k)=h0 at hb hs⊢;have hw1:IntKind.i64.wrap (37*h0)=37*h0:=za1 Yo Yo;have hw2:IntKind.i64.wrap (37*h0+vs[k])=37*h0+vs[k]:=za1 Yo Yo;have hw3:IntKind.i64.wrap (37*h0+vs[k]+1)=37*h0+vs[k]+1:=za1 Yo Yo;have ht:=zd0 (x:=37*h0+vs[k]+1) (m:=65521) Yo Yo;simp -implicitDefEqProofs only[go_sem,hlt,zae];rw[hw1,hw2,hw3];refine⟨⟨Yo,Yo,Yo⟩,k+1,Yo,Yo,zac ?_⟩;simp -implicitDefEqProofs only[go_sem];rw[hwk,hs];exact⟨rfl,rfl⟩
    ·have hkn:k=vs.length:=by omega
     subst hkn;rw[Kx];have hb:=qkv (qd3 name) vs hv;unfold qf7;generalize hV (hN name) vs=h0 at hb⊢;obtain⟨j,rfl⟩:∃j:Nat,h0=j:=⟨h0.toNat,Yo⟩;have m1:((j:Int).tmod 53)=((j % 53:Nat):Int):=by rw[Jl Yo];omega
     have m2:((j:Int).tmod 89)=((j % 89:Nat):Int):=by rw[Jl Yo];omega
     have H1:=qg8 code hc (j % 53) Yo;have H2:=qg8 code hc (j % 89) Yo;have v1:=zf4 code (j % 53);have v2:=zf4 code (j % 89);have hw1:IntKind.i64.wrap (13*zk4 code (j % 53))=13*zk4 code (j % 53):=za1 Yo Yo;have hw2:IntKind.i64.wrap ((j:Int)+13*zk4 code (j % 53))=(j:Int)+13*zk4 code (j % 53):=za1 Yo Yo;have hw3:IntKind.i64.wrap ((j:Int)+13*zk4 code (j % 53)+zk4 code (j % 89))=(j:Int)+13*zk4 code (j % 53)+zk4 code (j % 89):=za1 Yo Yo;have hd:0<=((j:Int)+13*zk4 code (j % 53)+zk4 code (j % 89)).tdiv 3/\((j:Int)+13*zk4 code (j % 53)+zk4 code (j % 89)).tdiv 3<=1000000:=by
      rw[Int.tdiv_eq_ediv_of_nonneg Yo];omega
     simp -implicitDefEqProofs only[go_sem,hlt,m1,m2];refine⟨⟨Yo,Yo,Yo⟩,?_⟩;refine callF (H1) Ym ?_;simp -implicitDefEqProofs only[go_sem];rw[m2];refine⟨⟨Yo,Yo,Yo⟩,?_⟩;refine callF (H2) Ym ?_;simp -implicitDefEqProofs only[go_sem];rw[hw1,hw2,hw3];rw[za1 Yo Yo];exact⟨Yo,rfl⟩
end
section
open Go.RowKit
def gEv (ns:List Str)(vs:List Int)(m:Str):Nat->Int
 | 0=>0
 | k+1=>if(ns.getD k []==m)=true then vs.getD k 0 else gEv ns vs m k
def zde (ns:List Str)(vs:List Int)(m:Str):Int:=gEv ns vs m ns.length
theorem qde (ns:List Str)(vs:List Int)(a:Str)(x:Int)(h:ns.length=vs.length)(m:Str):∀k:Nat,k<=ns.length->gEv (ns++[a]) (vs++[x]) m k=gEv ns vs m k
 | 0,_=>rfl
 | k+1,hk=>by
  have e1:(ns++[a]).getD k []=ns.getD k []:=by rw[List.getD_eq_getElem?_getD,List.getD_eq_getElem?_getD,List.getElem?_append_left Yo]
  have e2:(vs++[x]).getD k 0=vs.getD k 0:=by rw[List.getD_eq_getElem?_getD,List.getD_eq_getElem?_getD,List.getElem?_append_left Yo]
  rw[gEv,gEv,qde ns vs a x h m k Yo,e1,e2]
theorem zmx (ns:List Str)(vs:List Int)(a:Str)(x:Int)(h:ns.length=vs.length):zde (ns++[a]) (vs++[x])=zez (zde ns vs) a x:=by
 funext m
 unfold zde zez
 rw[Qi,show[a].length=1 from rfl,gEv,qde ns vs a x h m _ (Qz _)]
 have e1:(ns++[a]).getD ns.length []=a:=by simp
 have e2:(vs++[x]).getD ns.length 0=x:=by rw[h];simp
 rw[e1,e2]
 by_cases he:a=m
 ·subst he;simp
 ·have h1:(a==m)=false:=by simpa using he
  have h2:(m==a)=false:=by rw[Ql];exact fun e=>he e.symm
  rw[h1,h2]
def zkt (ns:List Str)(vs:List Int):D:=.agg [zb5 ns,zo1 vs]
theorem get_c (ns:List Str)(vs:List Int)(h:ns.length=vs.length)(hs:ns.length<=1048576)(m:Str):FC Tryz.prog 218 [zkt ns vs,.one (.str m)] [iD (zde ns vs m)]:=by
 unfold zkt
 have hw0:IntKind.i64.wrap ((ns.length:Int)-1)=(ns.length:Int)-1:=za1 Yo Yo
 refine zai Tryz.call218 Tryz.func218 rfl Yn (zau Yn) ?_
 simp -implicitDefEqProofs only[go_sem,Tryz.results218]
 rw[hw0]
 refine zaf (fun k:Nat=>hd [(1,.one (.t (.str m))),(2,.one (.bx 2 0)),(4,vI 0),(5,.one (.t (.int .i64 ((k:Int)-1))))] [(2,[.t (zb5 ns),.t (zo1 vs)])] []) (fun k=>k<=ns.length/\zde ns vs m=gEv ns vs m k) (fun k=>k) ns.length (zac ?_) ⟨Qz _,rfl⟩ ?_
 ·simp -implicitDefEqProofs only[go_sem]
 ·intro k ⟨hk,hr⟩;cases k with
  | zero =>
   have h0:((((0:Nat):Int)-1)>=0)=False:=by simp
   simp -implicitDefEqProofs only[go_sem,h0];rw[hr];rfl
  | succ k =>
   have h0:((((k+1:Nat):Int)-1)>=0)=True:=by simp
   have e1:(((k+1:Nat):Int)-1)=(k:Int):=by omega
   have hlt:k<ns.length:=by omega
   have hlt2:k<vs.length:=by omega
   rw[e1];have hgd:gEv ns vs m (k+1)=if(ns[k]==m)=true then vs[k]else gEv ns vs m k:=by
    rw[gEv,List.getD_eq_getElem?_getD,List.getD_eq_getElem?_getD,List.getElem?_eq_getElem hlt,List.getElem?_eq_getElem hlt2];rfl
   rw[hgd]at hr;have hwk:IntKind.i64.wrap ((k:Int)-1)=(k:Int)-1:=za1 Yo Yo;simp -implicitDefEqProofs only[go_sem,e1,h0,zae,hlt,hlt2];refine⟨fun h=>by rw[hr,h];rfl,fun h=>⟨k,⟨Yo,by rw[hr,h];rfl⟩,Yo,zac ?_⟩⟩;simp -implicitDefEqProofs only[go_sem,hwk]
theorem zsi {α:Type}(f:α->List T)(h:∀x,(f x).all T.flat=true):∀xs:List α,flR (xs.map f)=true
 | []=>rfl
 | x::xs=>by
  show((f x).all T.flat&&flR (xs.map f))=true
  rw[h x,zsi f h xs];rfl
theorem with_c (ns:List Str)(vs:List Int)(hs:ns.length<=1048576)(hs2:vs.length<=1048576)(m:Str)(x:Int):FC Tryz.prog 88 [zkt ns vs,.one (.str m),iD x] [zkt (ns++[m]) (vs++[x])]:=by
 unfold zkt
 refine zai Tryz.call88 Tryz.func88 rfl Yn (zau Yn) ?_
 simp -implicitDefEqProofs only[go_sem,Tryz.results88]
 refine drawn Yn ?_
 simp -implicitDefEqProofs only[go_sem]
 have hf1:flR (ns.map fun s=>[T.str s])=true:=zsi _ (fun _=>rfl) _
 have hf2:flR (vs.map fun s=>[T.int .i64 s])=true:=zsi _ (fun _=>rfl) _
 have ha1:0+ns.length<=4294967296:=by omega
 have ha2:ns.length+1<=4294967296:=by omega
 have ha3:ns.length<=4294967295:=by omega
 have ha4:0+vs.length<=4294967296:=by omega
 have ha5:vs.length<=4294967295:=by omega
 refine za2 Ym ?_
 simp -implicitDefEqProofs only[go_sem]
 refine zgr true (by simp -implicitDefEqProofs only[go_sem,ne_eq,Qa,Qd,ha1,hf1]) ?_
 simp -implicitDefEqProofs only[go_sem,ne_eq,Qa,Qd,ha1,hf1]
 refine za2 Ym ?_
 simp -implicitDefEqProofs only[go_sem]
 refine zgr true (by simp -implicitDefEqProofs only[go_sem,ne_eq,Qa,Qd,ha3]) ?_
 simp -implicitDefEqProofs only[go_sem,ne_eq,Qa,Qd,ha3]
 refine za2 Ym ?_
 simp -implicitDefEqProofs only[go_sem]
 refine zgr true (by simp -implicitDefEqProofs only[go_sem,ne_eq,Qa,Qd,ha4,hf2]) ?_
 simp -implicitDefEqProofs only[go_sem,ne_eq,Qa,Qd,ha4,hf2]
 refine za2 Ym ?_
 simp -implicitDefEqProofs only[go_sem]
 refine zgr true (by simp -implicitDefEqProofs only[go_sem,ne_eq,Qa,Qd,ha5]) ?_
 simp -implicitDefEqProofs only[go_sem,ne_eq,Qa,Qd,ha5]
 refine⟨Yn,?_⟩
 rw[Qy,Qy]
 exact⟨rfl,rfl⟩
end
section
open Go.RowKit
def itp (code:List UInt8)(n:Nat):Itp:=⟨n,fun m rs=>(qf7 code m rs).tmod n,fun m rs=>(qf7 code (126::m) rs).tmod 2==1⟩
theorem zrk (code:List UInt8)(m:Str)(vs:List Int)(hv:∀v∈vs,0<=v/\v<=1000):0<=qf7 code m vs/\qf7 code m vs<=1000000:=by
 unfold qf7
 have h1:=qkv (qd3 m) vs hv
 have h2:=zf4 code ((hV (hN m) vs).toNat % 53)
 have h3:=zf4 code ((hV (hN m) vs).toNat % 89)
 rw[Int.tdiv_eq_ediv_of_nonneg Yo];omega
theorem qkg (code:List UInt8){n:Nat}(hn:1<=n/\n<=1000){ρ:Str->Int}(hρ:∀m,0<=ρ m/\ρ m<n):∀t:Tm,0<=vlT (itp code n) ρ t/\vlT (itp code n) ρ t<n:=zby fun m xs ih=>by
 rw[zt4]
 split
 ·exact hρ m
 ·have:=zrk code m (xs.map (vlT (itp code n) ρ)) fun v hm=>by
   obtain⟨x,hx,rfl⟩:=Ki.1 hm;have:=ih x hx;omega
  exact zd0 this.1 Yo
theorem qcu (code:List UInt8)(hc:code.length<=65536)(n:Nat)(hn:1<=n/\n<=1000)(ns:List Str)(vs:List Int)(he:ns.length=vs.length)(hs:ns.length<=1048576)(hρ:∀m,0<=zde ns vs m/\zde ns vs m<n)(t:Tm)(ht:t.args.length<=1048576)
  (H:∀x∈t.args,FC Tryz.prog 163 [.one (zeg code),iD n,zkt ns vs,tmD x] [iD (vlT (itp code n) (zde ns vs) x)]) :
  FC Tryz.prog 163 [.one (zeg code),iD n,zkt ns vs,tmD t] [iD (vlT (itp code n) (zde ns vs) t)]:=by
 have HG:=get_c ns vs he hs t.name
 have hvb:∀v∈t.args.map (vlT (itp code n) (zde ns vs)),0<=v/\v<=1000:=fun v hm=>by
  obtain⟨x,_,rfl⟩:=Ki.1 hm;have:=qkg code hn hρ x;omega
 have HM:=qh1 code hc t.name (t.args.map (vlT (itp code n) (zde ns vs))) hvb
 have hmb:=zrk code t.name _ hvb
 simp only[zo1,Kt,Jk]at HM
 rw[zt4]
 unfold zkt at *
 simp only[tmD,zab t]
 generalize hR:(if(decide (t.args.length=0)&&isV t.name)=true then zde ns vs t.name else (itp code n).fn t.name (t.args.map (vlT (itp code n) (zde ns vs))))=R
 unfold isV zik at hR
 refine zai Tryz.call163 Tryz.func163 rfl Yn (zau Yn) ?_
 simp -implicitDefEqProofs only[go_sem,Tryz.results163]
 refine⟨fun h0=>⟨fun h1=>⟨by simpa using h1,fun h2=>⟨by simpa using h1,fun h3=>?_,fun h3=>?_⟩,fun h2=>?_⟩,fun h1=>?_⟩,fun h0=>?_⟩
 ·refine callF (HG) Ym ?_;simp -implicitDefEqProofs only[go_sem];have e0:t.args.length=0:=by simpa using h0
  have e1:0<t.name.length:=by simpa using h1
  rw[Yd e0,Yd e1,h2,h3]at hR;simp only[Bool.and_self,if_true]at hR;rw[hR]
 all_goals
  have hR2:R=(qf7 code t.name (t.args.map (vlT (itp code n) (zde ns vs)))).tmod n:=by
   rw[<-hR,if_neg]
   ·rfl
   ·intro hh;simp only[Qb,Qm]at hh;obtain⟨a0,a1,a2,a3⟩:=hh
    first|exact absurd h3 (by rw[Yd a3];decide)|exact absurd h2 (by rw[Yd a2];decide)|exact absurd h1 (by rw[Yd (show(0:Int)<t.name.length by omega)];decide)|exact absurd h0 (by simp[a0])
  refine zad Ym ?_;simp -implicitDefEqProofs only[go_sem];refine zaf (fun k:Nat=>hd [(0,vT (zeg code)),(1,vI n),(6,.one (.bx 6 0)),(7,.one (.bx 7 0)),(8,vI 0),(9,.one (.ow 1184 k)),(10,vI k)] [(6,[.t (zb5 ns),.t (zo1 vs)]),(7,[.t (.str t.name),.t (tmS t.args)])] [(1184,⟨true,1,(t.args.take k).map fun x=>[.int .i64 (vlT (itp code n) (zde ns vs) x)],k,true⟩)]) (fun k=>k<=t.args.length) (fun k=>t.args.length-k) 0 (zac ?_) (Q3 _) ?_
  ·simp -implicitDefEqProofs only[go_sem]
  ·intro k hk;by_cases hlt:k<t.args.length
   ·have hwk:IntKind.i64.wrap ((k:Int)+1)=((k+1:Nat):Int):=zaw Yo;have HC:=H t.args[k] (Qj hlt);have hmin:min k t.args.length<=4294967295:=by omega
    simp only[tmD,zab t.args[k]]at HC;simp -implicitDefEqProofs only[go_sem,hlt];refine drawn Yn ?_;simp -implicitDefEqProofs only[go_sem,zae,hlt,zab t.args[k]];refine zal (HC) Ym ?_;simp -implicitDefEqProofs only[go_sem];refine za2 Ym ?_;simp -implicitDefEqProofs only[go_sem];refine zgr true (by simp -implicitDefEqProofs only[go_sem,ne_eq,Qa,Qs,hmin]) ?_;simp -implicitDefEqProofs only[go_sem,ne_eq,Qa,Qs,hmin];refine⟨Yn,k+1,hlt,Yo,zac ?_⟩;simp -implicitDefEqProofs only[go_sem];rw[hwk,Qk hlt,Qy];exact⟨rfl,rfl⟩
   ·have hkn:k=t.args.length:=by omega
    subst hkn;simp -implicitDefEqProofs only[go_sem,hlt,Kx];refine callF (HM) Ym ?_;simp -implicitDefEqProofs only[go_sem];have hz:¬(n:Int)=0:=by omega
    have ht:=zd0 (m:=n) hmb.1 Yo;exact⟨⟨hz,Yo,Yo⟩,by rw[hR2]⟩
theorem qf1 (code:List UInt8)(hc:code.length<=65536)(n:Nat)(hn:1<=n/\n<=1000)(ns:List Str)(vs:List Int)(he:ns.length=vs.length)(hs:ns.length<=1048576)(hρ:∀m,0<=zde ns vs m/\zde ns vs m<n):∀t:Tm,t.wt<=1048576 →
  FC Tryz.prog 163 [.one (zeg code),iD n,zkt ns vs,tmD t] [iD (vlT (itp code n) (zde ns vs) t)]:=zby fun m xs ih hw=>by
 have hW:=Tm.wt_eq (.mk m xs)
 simp only[Tm.name,Tm.args]at hW
 exact qcu code hc n hn ns vs he hs hρ (.mk m xs) (by show xs.length<=1048576;omega) fun x hx=>ih x hx (by have:=zb8 Tm.wt xs x hx;omega)
theorem qfz (code:List UInt8)(hc:code.length<=65536)(n:Nat)(hn:1<=n/\n<=1000)(ns:List Str)(vs:List Int)(he:ns.length=vs.length)(hs:ns.length<=1048576)(hρ:∀m,0<=zde ns vs m/\zde ns vs m<n)(t:Tm)(ht:t.wt<=1048576) :
  FC Tryz.prog 87 [.one (zeg code),iD n,zkt ns vs,tmD t] [bD (hlT (itp code n) (zde ns vs) t)]:=by
 have hW:=Tm.wt_eq t
 have hvb:∀v∈t.args.map (vlT (itp code n) (zde ns vs)),0<=v/\v<=1000:=fun v hm=>by
  obtain⟨x,_,rfl⟩:=Ki.1 hm;have:=qkg code hn hρ x;omega
 have HM:=qh1 code hc (126::t.name) (t.args.map (vlT (itp code n) (zde ns vs))) hvb
 have hmb:=zrk code (126::t.name) _ hvb
 have H:∀x∈t.args,FC Tryz.prog 163 [.one (zeg code),iD n,zkt ns vs,tmD x] [iD (vlT (itp code n) (zde ns vs) x)]:=fun x hx=>qf1 code hc n hn ns vs he hs hρ x (by have:=zb8 Tm.wt t.args x hx;omega)
 simp only[zo1,Kt,Jk]at HM
 unfold zkt at *
 generalize hR:hlT (itp code n) (zde ns vs) t=R
 unfold hlT at hR
 simp only[tmD,zab t]
 refine zai Tryz.call87 Tryz.func87 rfl Yn (zau Yn) ?_
 simp -implicitDefEqProofs only[go_sem,Tryz.results87]
 refine zad Ym ?_
 simp -implicitDefEqProofs only[go_sem]
 refine zaf (fun k:Nat=>hd [(0,vT (zeg code)),(1,vI n),(6,.one (.bx 6 0)),(7,.one (.bx 7 0)),(8,vB false),(9,.one (.ow 352 k)),(10,vI k)] [(6,[.t (zb5 ns),.t (zo1 vs)]),(7,[.t (.str t.name),.t (tmS t.args)])] [(352,⟨true,1,(t.args.take k).map fun x=>[.int .i64 (vlT (itp code n) (zde ns vs) x)],k,true⟩)]) (fun k=>k<=t.args.length) (fun k=>t.args.length-k) 0 (zac ?_) (Q3 _) ?_
 ·simp -implicitDefEqProofs only[go_sem]
 ·intro k hk;by_cases hlt:k<t.args.length
  ·have hwk:IntKind.i64.wrap ((k:Int)+1)=((k+1:Nat):Int):=zaw Yo;have HC:=H t.args[k] (Qj hlt);have hmin:min k t.args.length<=4294967295:=by omega
   simp only[tmD,zab t.args[k]]at HC;simp -implicitDefEqProofs only[go_sem,hlt];refine drawn Yn ?_;simp -implicitDefEqProofs only[go_sem,zae,hlt,zab t.args[k]];refine zal (HC) Ym ?_;simp -implicitDefEqProofs only[go_sem];refine za2 Ym ?_;simp -implicitDefEqProofs only[go_sem];refine zgr true (by simp -implicitDefEqProofs only[go_sem,ne_eq,Qa,Qs,hmin]) ?_;simp -implicitDefEqProofs only[go_sem,ne_eq,Qa,Qs,hmin];refine⟨Yn,k+1,hlt,Yo,zac ?_⟩;simp -implicitDefEqProofs only[go_sem];rw[hwk,Qk hlt,Qy];exact⟨rfl,rfl⟩
  ·have hkn:k=t.args.length:=by omega
   subst hkn;simp -implicitDefEqProofs only[go_sem,hlt,Kx];have hln:1+t.name.length<=9223372036854775807:=by omega
   refine⟨fun h1=>⟨fun h2=>?_,fun h2=>⟨hln,?_⟩⟩,fun h1=>⟨hln,?_⟩⟩
   ·have e3:(t.args.length:Int)=2:=by simpa using h2
    have e2:t.args.length=2:=by omega
    obtain⟨a,b,hab⟩:∃a b,t.args=[a,b]:=by
     match t.args,e2 with
     | [a,b],_=>exact⟨a,b,rfl⟩
    rw[hab]at hR⊢;rw[h1]at hR;refine drawn Yn ?_;simp -implicitDefEqProofs only[go_sem,Qg,Qh,Qc,Qd];refine⟨Yn,?_⟩;rw[<-hR];rfl
   all_goals
    have hR2:R=((qf7 code (126::t.name) (t.args.map (vlT (itp code n) (zde ns vs)))).tmod 2==1):=by
     rw[<-hR,if_neg]
     ·rfl
     ·intro hh;simp only[Qb,Qm]at hh
      first|exact absurd h2 (by rw[hh.2];decide)|exact absurd h1 (by rw[hh.1];decide)
    have ht:=zd0 (m:=2) hmb.1 Yo;refine callF (HM) Ym ?_;simp -implicitDefEqProofs only[go_sem];refine⟨⟨Yo,Yo,Yo⟩,?_⟩;rw[hR2]
end
section
open Go.RowKit
structure EnvOk (n:Nat)(ns:List Str)(vs:List Int)(W:Nat):Prop where
 len:ns.length=vs.length
 sm:ns.length+W<=1048576
 bd:∀m,0<=zde ns vs m/\zde ns vs m<n
theorem EnvOk.put {n:Nat}{ns:List Str}{vs:List Int}{W W':Nat}(h:EnvOk n ns vs W)(hW:W'+1<=W)(v:Str)(x:Nat)(hx:x<n):EnvOk n (ns++[v]) (vs++[(x:Int)]) W':=by
 refine⟨by simp[h.len],by have:=h.sm;simp;omega,fun m=>?_⟩
 rw[zmx ns vs v x h.len]
 unfold zez
 split
 ·omega
 ·exact h.bd m
theorem qb7 {n k:Nat}{f:Nat->Bool}(h:k<n)(hf:f k=false):(List.range n).all f=false:=by
 rw[Yg,Ne,Qn]
 intro hh
 have:=hh k (K2.2 h)
 rw[hf]at this;cases this
theorem zwm {n:Nat}{f:Nat->Bool}(h:∀x<n,f x=true):(List.range n).all f=true:=Qn.2 fun x hx=>h x (K2.1 hx)
theorem zwb {n k:Nat}{f:Nat->Bool}(h:k<n)(hf:f k=true):(List.range n).any f=true:=Jt.2 ⟨k,K2.2 h,hf⟩
theorem qdb {n:Nat}{f:Nat->Bool}(h:∀x<n,f x=false):(List.range n).any f=false:=by
 rw[Yg,Ne,Jt]
 rintro⟨x,hx,hf⟩
 rw[h x (K2.1 hx)]at hf;cases hf
section
variable (code:List UInt8)(hc:code.length<=65536)(n:Nat)(hn:1<=n/\n<=1000)
abbrev TrC (code:List UInt8)(n:Nat)(f:Fm):Prop:=∀(ns:List Str)(vs:List Int),EnvOk n ns vs f.wt->FC Tryz.prog 28 [.one (zeg code),iD n,zkt ns vs,fmD f] [bD (zbi (itp code n) f (zde ns vs))]
include hc hn in
theorem zyu (o:Int)(a:Tm)(v:Str)(h:o=1\/o=2\/o=3):TrC code n (.mk o a v []):=fun ns vs he=>by
 have hW:=Fm.wt_eq (.mk o a v [])
 simp only[Fm.atom,Fm.var,Fm.parts]at hW
 have hsm:=he.sm
 have HH:=qfz code hc n hn ns vs he.len Yo he.bd a Yo
 unfold zkt at HH⊢
 simp only[tmD,zab a]at HH
 simp only[fmD,zaa]
 rw[zb3]
 simp only[Fm.op,Fm.atom,Fm.var,Fm.parts]
 rcases h with rfl|rfl|rfl
 ·refine zai Tryz.call28 Tryz.func28 rfl Yn (zau Yn) ?_;simp -implicitDefEqProofs only[go_sem,Tryz.results28]
 ·refine zai Tryz.call28 Tryz.func28 rfl Yn (zau Yn) ?_;simp -implicitDefEqProofs only[go_sem,Tryz.results28]
 ·refine zai Tryz.call28 Tryz.func28 rfl Yn (zau Yn) ?_;simp -implicitDefEqProofs only[go_sem,Tryz.results28];refine callF (HH) Ym ?_;simp -implicitDefEqProofs only[go_sem]
theorem qbg (p:Fm)(H:TrC code n p):TrC code n (mkF 4 [p]):=fun ns vs he=>by
 have hW:=Fm.wt_eq (mkF 4 [p])
 simp only[mkF,Fm.atom,Fm.var,Fm.parts,Qg,Qh,Q2,Ku,Qc,Qd]at hW
 have HP:=H ns vs ⟨he.len,by have:=he.sm;unfold mkF at this;omega,he.bd⟩
 unfold zkt at HP⊢
 simp only[fmD,zaa p]at HP
 unfold mkF
 rw[zp5]
 simp only[fmD,zaa,Fm.op,Fm.atom,Fm.var,Fm.parts]
 refine zai Tryz.call28 Tryz.func28 rfl Yn (zau Yn) ?_
 simp -implicitDefEqProofs only[go_sem,Tryz.results28,zaa p,Qg,Qh,Qc,Qd]
 refine drawn Yn ?_
 simp -implicitDefEqProofs only[go_sem]
 refine zal (HP) Ym ?_
 simp -implicitDefEqProofs only[go_sem]
 kernel_rfl
theorem qbz (o:Int)(p q:Fm)(ho:o=5\/o=6\/o=7)(H:TrC code n p)(H2:TrC code n q):TrC code n (mkF o [p,q]):=fun ns vs he=>by
 have hW:=Fm.wt_eq (mkF o [p,q])
 simp only[mkF,Fm.atom,Fm.var,Fm.parts,Qg,Qh,Q2,Ku,Qc,Qd]at hW
 have HP:=H ns vs ⟨he.len,by have:=he.sm;unfold mkF at this;omega,he.bd⟩
 have HQ:=H2 ns vs ⟨he.len,by have:=he.sm;unfold mkF at this;omega,he.bd⟩
 unfold zkt at HP HQ⊢
 simp only[fmD,zaa p]at HP
 simp only[fmD,zaa q]at HQ
 unfold mkF
 simp only[fmD,zaa (.mk o _ _ _),Fm.op,Fm.atom,Fm.var,Fm.parts]
 cases hp:zbi (itp code n) p (zde ns vs)<;>rw[hp]at HP
 ·rcases ho with rfl|rfl|rfl
  ·rw[zly,hp];refine zai Tryz.call28 Tryz.func28 rfl Yn (zau Yn) ?_;simp -implicitDefEqProofs only[go_sem,Tryz.results28,zaa p,zaa q,Qg,Qh,Qc,Qd];refine drawn Yn ?_;simp -implicitDefEqProofs only[go_sem];refine zal (HP) Ym ?_;simp -implicitDefEqProofs only[go_sem];kernel_rfl
  ·rw[zwh,hp];refine zai Tryz.call28 Tryz.func28 rfl Yn (zau Yn) ?_;simp -implicitDefEqProofs only[go_sem,Tryz.results28,zaa p,zaa q,Qg,Qh,Qc,Qd];refine drawn Yn ?_;simp -implicitDefEqProofs only[go_sem];refine zal (HP) Ym ?_;simp -implicitDefEqProofs only[go_sem];refine za5 HQ Ym ?_;simp -implicitDefEqProofs only[go_sem]
   first|kernel_rfl|exact⟨Yn,by cases zbi (itp code n) q (zde ns vs)<;>rfl⟩
  ·rw[zmc,hp];refine zai Tryz.call28 Tryz.func28 rfl Yn (zau Yn) ?_;simp -implicitDefEqProofs only[go_sem,Tryz.results28,zaa p,zaa q,Qg,Qh,Qc,Qd];refine drawn Yn ?_;simp -implicitDefEqProofs only[go_sem];refine zal (HP) Ym ?_;simp -implicitDefEqProofs only[go_sem]
   first|kernel_rfl|exact⟨Yn,by cases zbi (itp code n) q (zde ns vs)<;>rfl⟩
 ·rcases ho with rfl|rfl|rfl
  ·rw[zly,hp];refine zai Tryz.call28 Tryz.func28 rfl Yn (zau Yn) ?_;simp -implicitDefEqProofs only[go_sem,Tryz.results28,zaa p,zaa q,Qg,Qh,Qc,Qd];refine drawn Yn ?_;simp -implicitDefEqProofs only[go_sem];refine zal (HP) Ym ?_;simp -implicitDefEqProofs only[go_sem];refine za5 HQ Ym ?_;simp -implicitDefEqProofs only[go_sem]
   first|kernel_rfl|exact⟨Yn,by cases zbi (itp code n) q (zde ns vs)<;>rfl⟩
  ·rw[zwh,hp];refine zai Tryz.call28 Tryz.func28 rfl Yn (zau Yn) ?_;simp -implicitDefEqProofs only[go_sem,Tryz.results28,zaa p,zaa q,Qg,Qh,Qc,Qd];refine drawn Yn ?_;simp -implicitDefEqProofs only[go_sem];refine zal (HP) Ym ?_;simp -implicitDefEqProofs only[go_sem]
   first|kernel_rfl|exact⟨Yn,by cases zbi (itp code n) q (zde ns vs)<;>rfl⟩
  ·rw[zmc,hp];refine zai Tryz.call28 Tryz.func28 rfl Yn (zau Yn) ?_;simp -implicitDefEqProofs only[go_sem,Tryz.results28,zaa p,zaa q,Qg,Qh,Qc,Qd];refine drawn Yn ?_;simp -implicitDefEqProofs only[go_sem];refine zal (HP) Ym ?_;simp -implicitDefEqProofs only[go_sem];refine za5 HQ Ym ?_;simp -implicitDefEqProofs only[go_sem]
   first|kernel_rfl|exact⟨Yn,by cases zbi (itp code n) q (zde ns vs)<;>rfl⟩
include hn in
theorem qj8 (o:Int)(v:Str)(p:Fm)(ho:o=8\/o=9)(H:TrC code n p):TrC code n (.mk o (.mk [] []) v [p]):=fun ns vs he=>by
 have hW:=Fm.wt_eq (.mk o (.mk [] []) v [p])
 simp only[Fm.atom,Fm.var,Fm.parts,Qg,Qh,Q2,Ku,Qc,Qd]at hW
 have HP:=fun(x:Nat) (hx:x<n)=>H (ns++[v]) (vs++[(x:Int)]) (he.put Yo v x hx)
 have HW:=fun x:Int=>with_c ns vs (by have:=he.sm;omega) (by have:=he.sm;have:=he.len;omega) v x
 unfold zkt at HP HW⊢
 simp only[fmD,zaa p]at HP
 simp only[fmD,zaa (.mk o _ _ _),Fm.op,Fm.atom,Fm.var,Fm.parts]
 rcases ho with rfl|rfl
 ·rw[zou];refine zai Tryz.call28 Tryz.func28 rfl Yn (zau Yn) ?_;simp -implicitDefEqProofs only[go_sem,Tryz.results28,zaa p,Qg,Qh,Qc,Qd];refine zaf (fun k:Nat=>hd [(0,vT (zeg code)),(1,vI n),(6,.one (.bx 6 0)),(7,.one (.bx 7 0)),(8,vB false),(9,vI k)] [(6,[.t (zb5 ns),.t (zo1 vs)]),(7,[.t (.int .i64 8),.t (.str []),.t (.sl 2 []),.t (.str v),.t (.sl 5 [fmC p])])] []) (fun k=>k<=n/\∀x<k,zbi (itp code n) p (zez (zde ns vs) v x)=true) (fun k=>n-k) 0 (zac ?_) ⟨Q3 _,fun x hx=>absurd hx Yo⟩ ?_
  ·simp -implicitDefEqProofs only[go_sem];rw[zaa p];exact⟨rfl,rfl,rfl⟩
  ·intro k ⟨hk,hr⟩;by_cases hlt:k<n
   ·have hwk:IntKind.i64.wrap ((k:Int)+1)=((k+1:Nat):Int):=zaw Yo;have HC:=HP k hlt;have HV:=HW k;rw[zmx ns vs v k he.len]at HC;cases hT:zbi (itp code n) p (zez (zde ns vs) v k)<;>rw[hT]at HC
    all_goals
     simp -implicitDefEqProofs only[go_sem,hlt];refine drawn Yn ?_;simp -implicitDefEqProofs only[go_sem,Qc,Qd,zaa p];refine zal (HV) Ym ?_;simp -implicitDefEqProofs only[go_sem];refine zal (HC) Ym ?_;simp -implicitDefEqProofs only[go_sem];refine⟨Yn,?_⟩
    ·exact⟨fun _=>congrArg T.bool (Eq.symm (qb7 hlt hT)),fun h=>by cases h⟩
    ·refine⟨fun h=>(by cases h),fun _=>⟨k+1,⟨hlt,fun x hx=>?_⟩,Yo,zac ?_⟩⟩
     ·rcases Yb.1 hx with h|h
      ·exact hr x h
      ·rw[h];exact hT
     ·simp -implicitDefEqProofs only[go_sem,hwk,zaa p]
   ·have hkn:k=n:=by omega
    subst hkn;simp -implicitDefEqProofs only[go_sem,hlt];exact congrArg T.bool (Eq.symm (zwm hr))
 ·rw[zjx];refine zai Tryz.call28 Tryz.func28 rfl Yn (zau Yn) ?_;simp -implicitDefEqProofs only[go_sem,Tryz.results28,zaa p,Qg,Qh,Qc,Qd];refine zaf (fun k:Nat=>hd [(0,vT (zeg code)),(1,vI n),(6,.one (.bx 6 0)),(7,.one (.bx 7 0)),(8,vB false),(9,vI k)] [(6,[.t (zb5 ns),.t (zo1 vs)]),(7,[.t (.int .i64 9),.t (.str []),.t (.sl 2 []),.t (.str v),.t (.sl 5 [fmC p])])] []) (fun k=>k<=n/\∀x<k,zbi (itp code n) p (zez (zde ns vs) v x)=false) (fun k=>n-k) 0 (zac ?_) ⟨Q3 _,fun x hx=>absurd hx Yo⟩ ?_
  ·simp -implicitDefEqProofs only[go_sem];rw[zaa p];exact⟨rfl,rfl,rfl⟩
  ·intro k ⟨hk,hr⟩;by_cases hlt:k<n
   ·have hwk:IntKind.i64.wrap ((k:Int)+1)=((k+1:Nat):Int):=zaw Yo;have HC:=HP k hlt;have HV:=HW k;rw[zmx ns vs v k he.len]at HC;cases hT:zbi (itp code n) p (zez (zde ns vs) v k)<;>rw[hT]at HC
    all_goals
     simp -implicitDefEqProofs only[go_sem,hlt];refine drawn Yn ?_;simp -implicitDefEqProofs only[go_sem,Qc,Qd,zaa p];refine zal (HV) Ym ?_;simp -implicitDefEqProofs only[go_sem];refine zal (HC) Ym ?_;simp -implicitDefEqProofs only[go_sem];refine⟨Yn,?_⟩
    ·refine⟨fun h=>(by cases h),fun _=>⟨k+1,⟨hlt,fun x hx=>?_⟩,Yo,zac ?_⟩⟩
     ·rcases Yb.1 hx with h|h
      ·exact hr x h
      ·rw[h];exact hT
     ·simp -implicitDefEqProofs only[go_sem,hwk,zaa p]
    ·exact⟨fun _=>congrArg T.bool (Eq.symm (zwb hlt hT)),fun h=>by cases h⟩
   ·have hkn:k=n:=by omega
    subst hkn;simp -implicitDefEqProofs only[go_sem,hlt];exact congrArg T.bool (Eq.symm (qdb hr))
include hc hn in
theorem zy1:∀f:Fm,f.forms=true->TrC code n f:=zcc fun o a v ps ih h=>by
 rcases zcu h with⟨h1,h2⟩|⟨p,h1,hp⟩|⟨o',p,q,ho,h1,hp,hq⟩|⟨o',v',p,ho,h1,hp⟩
 ·have h1:ps=[]:=h1;subst h1;exact zyu code hc n hn o a v h2
 ·cases h1;exact qbg code n p (ih p (by simp) hp)
 ·have h2:o=o'/\a=.mk [] []/\v=[]/\ps=[p,q]:=by cases h1;exact⟨rfl,rfl,rfl,rfl⟩
  obtain⟨rfl,rfl,rfl,rfl⟩:=h2;exact qbz code n o p q ho (ih p (by simp) hp) (ih q (by simp) hq)
 ·cases h1;exact qj8 code n hn o v p ho (ih p (by simp) hp)
end
end
section
open Go.RowKit
theorem fl_all {α:Type}{f:α->Bool}{xs:List α}{k:Nat}(hlt:k<xs.length)(h:f xs[k]=false):xs.all f=false:=by
 rw[Yg,Ne,Qn]
 intro hh
 have:=hh _ (Qj hlt)
 rw[h]at this;cases this
theorem fl_any {α:Type}{f:α->Bool}{xs:List α}{k:Nat}(hlt:k<xs.length)(h:f xs[k]=true):xs.any f=true:=Jt.2 ⟨_,Qj hlt,h⟩
theorem qj7 {α:Type}{f:α->Bool}{xs:List α}(h:∀x (hx:x<xs.length),f xs[x]=true):xs.all f=true:=Qn.2 fun y hy=>by
 obtain⟨i,hi,rfl⟩:=Jm hy
 exact h i hi
theorem qmj {α:Type}{f:α->Bool}{xs:List α}(h:∀x (hx:x<xs.length),f xs[x]=false):xs.any f=false:=by
 rw[Yg,Ne,Jt]
 rintro⟨y,hy,hf⟩
 obtain⟨i,hi,rfl⟩:=Jm hy
 rw[h i hi]at hf;cases hf
theorem qmm (code:List UInt8)(hc:code.length<=65536)(n:Nat)(hn:1<=n/\n<=1000)(ns:List Str)(vs:List Int)(he:EnvOk n ns vs 0)(s:Sq)(hl:s.left.length<=1048576)(hr:s.right.length<=1048576)
  (hL:∀f∈s.left,f.forms=true/\ns.length+f.wt<=1048576) (hR:∀f∈s.right,f.forms=true/\ns.length+f.wt<=1048576) :
  FC Tryz.prog 11 [.one (zeg code),iD n,zkt ns vs,sqD s] [bD (sqT (itp code n) (zde ns vs) s)]:=by
 have HL:=fun(k:Nat) (h:k<s.left.length)=>zy1 code hc n hn s.left[k] (hL _ (Qj h)).1 ns vs ⟨he.len,(hL _ (Qj h)).2,he.bd⟩
 have HR:=fun(k:Nat) (h:k<s.right.length)=>zy1 code hc n hn s.right[k] (hR _ (Qj h)).1 ns vs ⟨he.len,(hR _ (Qj h)).2,he.bd⟩
 generalize hX:sqT (itp code n) (zde ns vs) s=X
 unfold sqT at hX
 unfold zkt at HL HR⊢
 simp only[sqD,zat]
 refine zai Tryz.call11 Tryz.func11 rfl Yn (zau Yn) ?_
 simp -implicitDefEqProofs only[go_sem,Tryz.results11]
 refine zaf (fun k:Nat=>hd [(0,vT (zeg code)),(1,vI n),(6,.one (.bx 6 0)),(7,.one (.bx 7 0)),(8,vB false),(9,vI k)] [(6,[.t (zb5 ns),.t (zo1 vs)]),(7,[.t (fmS s.left),.t (fmS s.right)])] []) (fun k=>k<=s.left.length/\∀x (hx:x<s.left.length),x<k->zbi (itp code n) s.left[x] (zde ns vs)=true) (fun k=>s.left.length-k) 0 (zac ?_) ⟨Q3 _,fun x _ hx=>absurd hx Yo⟩ ?_
 ·simp -implicitDefEqProofs only[go_sem]
 ·intro k ⟨hk,hr⟩;by_cases hlt:k<s.left.length
  ·have hwk:IntKind.i64.wrap ((k:Int)+1)=((k+1:Nat):Int):=zaw Yo;have HC:=HL k hlt;simp only[fmD,zaa s.left[k]]at HC;simp -implicitDefEqProofs only[go_sem,hlt];refine drawn Yn ?_;simp -implicitDefEqProofs only[go_sem,hlt,zae,zaa s.left[k]];refine zal (HC) Ym ?_;simp -implicitDefEqProofs only[go_sem];refine⟨Yn,fun h=>?_,fun h=>⟨k+1,⟨hlt,fun x hx hk2=>?_⟩,Yo,zac ?_⟩⟩
   ·rw[<-hX,fl_all hlt (by simpa using h)];rfl
   ·rcases Yb.1 hk2 with h2|h2
    ·exact hr x hx h2
    ·subst h2;simpa using h
   ·simp -implicitDefEqProofs only[go_sem,hwk]
  ·have hall:=qj7 (f:=fun f=>zbi (itp code n) f (zde ns vs)) (xs:=s.left) fun x hx=>hr x hx Yo;rw[hall]at hX;simp only[Kd,Km]at hX;simp -implicitDefEqProofs only[go_sem,hlt];refine zaf (fun k:Nat=>hd [(0,vT (zeg code)),(1,vI n),(6,.one (.bx 6 0)),(7,.one (.bx 7 0)),(8,vB false),(10,vI k)] [(6,[.t (zb5 ns),.t (zo1 vs)]),(7,[.t (fmS s.left),.t (fmS s.right)])] []) (fun k=>k<=s.right.length/\∀x (hx:x<s.right.length),x<k->zbi (itp code n) s.right[x] (zde ns vs)=false) (fun k=>s.right.length-k) 0 (zac ?_) ⟨Q3 _,fun x _ hx=>absurd hx Yo⟩ ?_
   ·simp -implicitDefEqProofs only[go_sem]
   ·intro k ⟨hk,hr⟩;by_cases hlt:k<s.right.length
    ·have hwk:IntKind.i64.wrap ((k:Int)+1)=((k+1:Nat):Int):=zaw Yo;have HC:=HR k hlt;simp only[fmD,zaa s.right[k]]at HC;simp -implicitDefEqProofs only[go_sem,hlt];refine drawn Yn ?_;simp -implicitDefEqProofs only[go_sem,hlt,zae,zaa s.right[k]];refine zal (HC) Ym ?_;simp -implicitDefEqProofs only[go_sem];refine⟨Yn,fun h=>?_,fun h=>⟨k+1,⟨hlt,fun x hx hk2=>?_⟩,Yo,zac ?_⟩⟩
     ·rw[<-hX,fl_any hlt h]
     ·rcases Yb.1 hk2 with h2|h2
      ·exact hr x hx h2
      ·subst h2;exact h
     ·simp -implicitDefEqProofs only[go_sem,hwk]
    ·simp -implicitDefEqProofs only[go_sem,hlt];rw[<-hX,qmj fun x hx=>hr x hx Yo]
end
end Go.Proofs.YtpcmmboblbjpfaaGreat
