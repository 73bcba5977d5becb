/-
  The walk over plain data, and contracts of functions of the program and of its laws.
  Conditions: those that each theorem names.
-/
import Derived.Test.YtnemmlahbbbobaaGreatQR8
import Derived.Test.YtnemmlahbbbobaaGreatQR7
import Derived.Test.YtnemmlahbbbobaaGreatQR6
namespace Go.Proofs.YtnemmlahbbbobaaGreat
set_option linter.unusedSimpArgs false
set_option linter.unusedVariables false
set_option linter.unusedSectionVars false
set_option maxRecDepth 4000
set_option maxHeartbeats 8000000
section
open Go.RowKit
theorem zxh {n m:Str}(hn:za9 n=true)(hm:zdg m=true):(n==m)=false:=by
 rw[Jd]
 rintro rfl
 have h1:=(zyy hn).1
 have h2:=(zue hm).1
 rw[h1]at h2
 cases h2
theorem qap {n:Str}(h:zdg n=true):za9 n=false:=by
 cases hv:za9 n
 ·rfl
 ·have:=zxh hv h;simp at this
theorem qui (v:Str)(hv:za9 v=true):∀a:Tm,a.names=true->(decide (0<zjq v a)=(voS a).contains v):=zb3 λm xs ih h=>by
 rw[Tm.names_eq]at h
 rw[zwt,zsa]
 change (if za9 m=true then decide (xs.length=0)else zdg m&&decide (xs.length<=4)&&xs.all Tm.names)=true at h
 change decide (0<(if(m==v)=true then 1 else 0)+(xs.map (zjq v)).sum)=(if za9 m=true then [m]else (xs.map voS).flatten).contains v
 rw[Kp,Q2,Jl]
 by_cases hm:za9 m=true
 ·rw[if_pos hm]at h⊢;have hx:xs=[]:=Kf.1 (Jc h);subst hx;simp only[Qi,List.sum_nil,Q4,Q9];by_cases e:m=v
  ·simp[e]
  ·simp[e];exact λh=>e h.symm
 ·rw[if_neg hm]at h⊢;simp only[Qb]at h;have hne:=zxh hv h.1.1;have hmv:(m==v)=false:=by rw[Jd]at hne⊢;exact λe=>hne e.symm
  rw[hmv,if_neg (by simp),Q7];have hI:∀x∈xs,(0<zjq v x↔v∈voS x):=λx hx=>by
   have:=ih x hx (Qq.1 h.2 x hx)
   rwa [Kp,Q2,Jl]at this
  clear ih h;rw[List.mem_flatten];constructor
  ·intro hs;have:∃x∈xs,0<zjq v x:=by
    revert hs;clear hI;induction xs with
    | nil=>simp
    | cons x xs ih2 =>
     intro hs;simp only[Qc,Kt]at hs;by_cases h0:0<zjq v x
     ·exact⟨x,by simp,h0⟩
     ·obtain⟨y,hy,h1⟩:=ih2 Y0;exact⟨y,by simp[hy],h1⟩
   obtain⟨x,hx,h1⟩:=this;exact⟨voS x,Ka.2 ⟨x,hx,rfl⟩,(hI x hx).1 h1⟩
  ·rintro⟨l,hl,hv2⟩;obtain⟨x,hx,rfl⟩:=Ka.1 hl;have h1:=(hI x hx).2 hv2;have h2:=zbz (zjq v) xs x hx;omega
theorem vf_mem:∀(f:Fm)(b:List Str)(x:Str),x∈vf f b↔x∈vf f []/\x∉b:=zck λo a v ps ih b x=>by
 rw[qce (.mk o a v ps) b,qce (.mk o a v ps) []]
 change x∈(if(o==3)=true then (zbk [] (voS a)).filter (λs=>!b.contains s)else (ps.map λy=>vf y (if isQ o=true then b++[v]else b)).flatten)↔x∈(if(o==3)=true then (zbk [] (voS a)).filter (λs=>!([]:List Str).contains s)else (ps.map λy=>vf y (if isQ o=true then []++[v]else [])).flatten)/\x∉b
 split
 ·simp[Jq]
 ·have hI:∀y∈ps,∀c,x∈vf y c↔x∈vf y []/\x∉c:=λy hy c=>ih y hy c x;simp only[List.mem_flatten,Ka];constructor
  ·rintro⟨l,⟨y,hy,rfl⟩,hx⟩;rw[hI y hy]at hx;refine⟨⟨_,⟨y,hy,rfl⟩,?_⟩,?_⟩
   ·rw[hI y hy];refine⟨hx.1,λhm=>hx.2 ?_⟩;split at hm
    ·rw[if_pos ‹_›];simp at hm;simp[hm]
    ·simp at hm
   ·intro hm;apply hx.2;split
    ·simp[hm]
    ·exact hm
  ·rintro⟨⟨l,⟨y,hy,rfl⟩,hx⟩,hb⟩;rw[hI y hy]at hx;refine⟨_,⟨y,hy,rfl⟩,?_⟩;rw[hI y hy];refine⟨hx.1,λhm=>?_⟩;split at hm
   ·rw[if_pos ‹_›]at hx;rcases Qw.1 hm with hm|hm
    ·exact hb hm
    ·exact hx.2 (by simpa using hm)
   ·exact hb hm
theorem zg3 (l:List Str)(n:Str):(zbk [] l).contains n=l.contains n:=by
 rw[Kp,Jl,Jl,zmo];simp
theorem qgy {f q:Fm}{n:Str}(hq:isQ f.op=true)(hp:f.parts=[q])(hn:(f.var==n)=false):(zbk [] (vf f [])).contains n=(zuj f.parts).contains n:=by
 have h3:(f.op==3)=false:=by
  rw[Jd];intro e;rw[e]at hq;exact absurd hq (by decide)
 rw[zg3,hp]
 show _=(zbk [] (vf q [])).contains n
 rw[zg3,Kp,Jl,Jl,qce f [],h3,if_neg (by simp),if_pos hq,hp]
 simp only[Qc,Qi,Ki,List.flatten_nil,Ko,K5]
 rw[vf_mem]
 rw[Jd]at hn
 constructor
 ·exact λh=>h.1
 ·exact λh=>⟨h,by simpa using λe=>hn e.symm⟩
theorem zmr (n:Str)(t:Tm)(hn:za9 n=true)(ht:t.names=true):∀a:Tm,a.names=true->zgt n t a=zez (bnd n t) a:=zb3 λm xs ih h=>by
 rw[Tm.names_eq]at h
 rw[zj7,zmh]
 change (if za9 m=true then decide (xs.length=0)else zdg m&&decide (xs.length<=4)&&xs.all Tm.names)=true at h
 change (if xs.length=0 then (if(n==m)=true then t else .mk m [])else .mk m (xs.map (zgt n t)))=(if za9 m=true then (match (bnd n t).find? fun(p:Str×Tm)=>p.1==m with|some p=>p.2|none=>.mk m [])else .mk m (xs.map (zez (bnd n t))))
 by_cases hm:za9 m=true
 ·rw[if_pos hm]at h⊢;rw[if_pos (Jc h)];unfold bnd;cases htn:t.name==n
  ·cases hnm:n==m<;>simp only[hnm,if_true,if_false,Qp,List.find?_cons,List.find?_nil]
  ·cases hnm:n==m
   ·simp only[if_true,if_false,Qp,List.find?_nil]
   ·simp only[if_true,List.find?_nil];have e1:t.name=m:=by rw[Q9]at htn hnm;rw[htn,hnm]
    rw[Tm.names_eq,e1,if_pos hm]at ht;have e2:t.args=[]:=Kf.1 (Jc ht);cases t with
    | mk tn ta=>simp only[Tm.name,Tm.args]at e1 e2;rw[e1,e2]
 ·rw[if_neg hm]at h⊢;simp only[Qb]at h;have hne:=zxh hn h.1.1;by_cases hx:xs.length=0
  ·rw[if_pos hx,hne,if_neg (by simp)];have hx:xs=[]:=Kf.1 hx;subst hx;rfl
  ·rw[if_neg hx];rw[Kv λx hx=>ih x hx (Qq.1 h.2 x hx)]
theorem qiy (n:Str)(t:Tm)(hn:za9 n=true)(ht:t.names=true)(a:Tm)(h:a.atomOk=true):zgt n t a=zez (bnd n t) a:=by
 unfold Tm.atomOk at h
 split at h
 ·rename_i he;have he:a.name=[61]:=by simpa using he
  simp only[Qb,Q2]at h;rw[zj7,zmh,he,show za9 [61]=false by decide,if_neg Y0,if_neg (by simp)];rw[Kv λx hx=>zmr n t hn ht x (Qq.1 h.2 x hx)]
 ·simp only[Qb]at h;have:=h.2;unfold Tm.good at this;rw[Qb]at this;exact zmr n t hn ht a this.2
theorem ql0 {a:Tm}(h:a.none=true):a=.mk [] []:=by
 unfold Tm.none at h
 rw[Qb,Q9,Q2,Kf]at h
 cases a with
 | mk n xs=>simp only[Tm.name,Tm.args]at h;rw[h.1,h.2]
theorem znf {f:Fm}(h:f.here=true)(h3:(f.op==3)=false):f.atom=.mk [] []:=by
 apply ql0
 unfold Fm.here at h
 rw[h3]at h
 simp only[Qp,if_false]at h
 split at h
 ·simp only[Qb]at h;exact h.1.2
 ·split at h
  ·simp only[Qb]at h;exact h.1.2
  ·split at h
   ·simp only[Qb]at h;exact h.1.2
   ·split at h
    ·simp only[Qb]at h;exact h.1.2
    ·cases h
theorem zmq {f:Fm}{ps:List Fm}(h:f.here=true)(h3:(f.op==3)=false)(hl:ps.length=f.parts.length):(Fm.mk f.op f.atom f.var ps).here=true:=by
 have e:(Fm.mk f.op f.atom f.var ps).here=f.here:=by
  unfold Fm.here;show(if(f.op==1||f.op==2)=true then decide (ps.length=0)&&f.atom.none&&(f.var==[])else if(f.op==3)=true then decide (ps.length=0)&&f.atom.atomOk&&(f.var==[])else if(f.op==4)=true then decide (ps.length=1)&&f.atom.none&&(f.var==[])else if zk6 f.op=true then decide (ps.length=2)&&f.atom.none&&(f.var==[])else if isQ f.op=true then decide (ps.length=1)&&f.atom.none&&za9 f.var else false)=_
  rw[hl]
 rw[e];exact h
theorem qq9 {f:Fm}(h1:f.here=true)(h:isQ f.op=true):za9 f.var=true:=by
 unfold Fm.here at h1
 have h2:(f.op==1||f.op==2)=false/\(f.op==3)=false/\(f.op==4)=false/\zk6 f.op=false:=by
  have h8:f.op=8\/f.op=9:=by unfold isQ at h;rw[K1,Q9,Q9]at h;exact h
  rcases h8 with e|e<;>rw[e]<;>decide
 rw[h2.1,h2.2.1,h2.2.2.1,h2.2.2.2,h]at h1
 simp only[Qp,if_false,if_true,Qb]at h1
 exact h1.2
theorem zhx (o:Int)(a:Tm)(v:Str)(ps:List Fm):(Fm.mk o a v ps).forms=((Fm.mk o a v ps).here&&ps.all Fm.forms):=Fm.forms_eq _
theorem zqh (n:Str)(t:Tm)(hn:za9 n=true)(ht:t.names=true):∀f:Fm,f.forms=true->(((zeb n t f).2=true/\(zeb n t f).1.forms=true)↔((zbs n t f).2=true/\(zbs n t f).1.forms=true))/\((zbs n t f).2=true->(zbs n t f).1.forms=true->(zeb n t f).1=(zbs n t f).1):=zck λo a v ps ih hf=>by
 have hS:=zwr n t (.mk o a v ps)
 have hP:=zqw n t (.mk o a v ps)
 have hf0:=hf
 rw[Fm.forms_eq,Qb]at hf0
 obtain⟨hh,hps⟩:=hf0
 have hps:∀x∈ps,x.forms=true:=Qq.1 hps
 have ihx:∀x∈ps,_:=λx hx=>ih x hx (hps x hx)
 cases h3:o==3
 ·have h3':((Fm.mk o a v ps).op==3)=false:=h3;have ha:a=.mk [] []:=znf hh h3';have hall:(∀x∈ps,(zeb n t x).2=true/\(zeb n t x).1.forms=true)↔(∀x∈ps,(zbs n t x).2=true/\(zbs n t x).1.forms=true):=forall_congr' λx=>forall_congr' λhx=>(ihx x hx).1;have main:((zeb n t (.mk o a v ps))=(.mk o a v (ps.map λx=>(zeb n t x).1),ps.all λx=>(zeb n t x).2))->((zbs n t (.mk o a v ps))=(.mk o a v ((ps.takeWhile λx=>(zbs n t x).2).map λx=>(zbs n t x).1),ps.all λx=>(zbs n t x).2))->_:=λe1 e2=>by
   have l1:((zeb n t (.mk o a v ps)).2=true/\(zeb n t (.mk o a v ps)).1.forms=true)↔(∀x∈ps,(zeb n t x).2=true/\(zeb n t x).1.forms=true):=by
    rw[e1];show((ps.all λx=>(zeb n t x).2)=true/\(Fm.mk o a v (ps.map λx=>(zeb n t x).1)).forms=true)↔_
    rw[zhx,Qq,Qb,Qq];have hhe:(Fm.mk o a v (ps.map λx=>(zeb n t x).1)).here=true:=zmq (f:=.mk o a v ps) hh h3' (by show(ps.map _).length=ps.length;rw[Qa]);constructor
    ·rintro⟨h1,_,h2⟩ x hx;exact⟨h1 x hx,h2 _ (Ka.2 ⟨x,hx,rfl⟩)⟩
    ·intro h;refine⟨λx hx=>(h x hx).1,hhe,λy hy=>?_⟩;obtain⟨x,hx,rfl⟩:=Ka.1 hy;exact(h x hx).2
   have l2:((zbs n t (.mk o a v ps)).2=true/\(zbs n t (.mk o a v ps)).1.forms=true)↔(∀x∈ps,(zbs n t x).2=true/\(zbs n t x).1.forms=true):=by
    rw[e2];show((ps.all λx=>(zbs n t x).2)=true/\(Fm.mk o a v ((ps.takeWhile λx=>(zbs n t x).2).map λx=>(zbs n t x).1)).forms=true)↔_
    constructor
    ·rintro⟨h1,h2⟩ x hx;have hw:(ps.takeWhile λx=>(zbs n t x).2)=ps:=by
      have:=(zda (l:=ps) (p:=λx=>(zbs n t x).2) (k:=ps.length) (Qz _) (by rw[K8];exact Qq.1 h1) λh=>absurd h (Yk _)).1;rw[this,K8]
     rw[hw,zhx,Qb,Qq]at h2;exact⟨Qq.1 h1 x hx,h2.2 _ (Ka.2 ⟨x,hx,rfl⟩)⟩
    ·intro h;have h1:(ps.all λx=>(zbs n t x).2)=true:=Qq.2 λx hx=>(h x hx).1;have hw:(ps.takeWhile λx=>(zbs n t x).2)=ps:=by
      have:=(zda (l:=ps) (p:=λx=>(zbs n t x).2) (k:=ps.length) (Qz _) (by rw[K8];exact Qq.1 h1) λh=>absurd h (Yk _)).1;rw[this,K8]
     have hhe:(Fm.mk o a v (ps.map λx=>(zbs n t x).1)).here=true:=zmq (f:=.mk o a v ps) hh h3' (by show(ps.map _).length=ps.length;rw[Qa]);rw[hw,zhx,Qb];refine⟨h1,hhe,Qq.2 λy hy=>?_⟩;obtain⟨x,hx,rfl⟩:=Ka.1 hy;exact(h x hx).2
   refine(⟨l1.trans (hall.trans l2.symm),λp1 p2=>?_⟩:(((zeb n t (.mk o a v ps)).2=true/\(zeb n t (.mk o a v ps)).1.forms=true)↔((zbs n t (.mk o a v ps)).2=true/\(zbs n t (.mk o a v ps)).1.forms=true))/\((zbs n t (.mk o a v ps)).2=true->(zbs n t (.mk o a v ps)).1.forms=true->(zeb n t (.mk o a v ps)).1=(zbs n t (.mk o a v ps)).1));have hA:=l2.1 ⟨p1,p2⟩;have h1:(ps.all λx=>(zbs n t x).2)=true:=Qq.2 λx hx=>(hA x hx).1;have hw:(ps.takeWhile λx=>(zbs n t x).2)=ps:=by
    have:=(zda (l:=ps) (p:=λx=>(zbs n t x).2) (k:=ps.length) (Qz _) (by rw[K8];exact Qq.1 h1) λh=>absurd h (Yk _)).1;rw[this,K8]
   rw[e1,e2,hw];show Fm.mk o a v (ps.map λx=>(zeb n t x).1)=Fm.mk o a v (ps.map λx=>(zbs n t x).1)
   rw[Kv λx hx=>(ihx x hx).2 (hA x hx).1 (hA x hx).2]
  cases hq:isQ o
  ·refine main ?_ ?_
   ·rw[hS];show(if(isQ o&&_)=true then _ else if(isQ o&&_)=true then _ else (Fm.mk o (if(o==3)=true then zgt n t a else a) v _,_))=_
    rw[hq,h3];simp only[Qx,Qp,if_false];rfl
   ·rw[hP];show(if(o==3)=true then _ else if(isQ o&&_)=true then _ else if(isQ o&&_)=true then _ else (Fm.mk o (.mk [] []) v _,_))=_
    rw[hq,h3];simp only[Qx,Qp,if_false];rw[<-ha];rfl
  ·obtain⟨q,hp,hqf⟩:=qfk (f:=.mk o a v ps) hq hf;cases hvn:v==n
   ·have hfp:=qgy (f:=.mk o a v ps) (n:=n) hq hp hvn;have hvok:za9 v=true:=qq9 (f:=.mk o a v ps) hh hq;have hoc:=qui v hvok t ht;have hc2:(zbk [] (voS t)).contains v=(voS t).contains v:=zg3 _ _;have hS2:zeb n t (.mk o a v ps)=if(!(zuj ps).contains n)=true then (.mk o a v ps,true)else if(voS t).contains v=true then (mkF 0 [],false)else (.mk o a v (ps.map λx=>(zeb n t x).1),ps.all λx=>(zeb n t x).2):=by
     rw[hS];show(if(isQ o&&(v==n||!((zbk [] (vf (.mk o a v ps) [])).contains n)))=true then _ else if(isQ o&&decide (0<zjq v t))=true then _ else (Fm.mk o (if(o==3)=true then zgt n t a else a) v _,_))=_
     rw[hfp,hq,hvn,h3,hoc];simp only[Qv,K0,Qp,if_false];rfl
    have hP2:zbs n t (.mk o a v ps)=if(!(zuj ps).contains n)=true then (.mk o a v ps,true)else if(voS t).contains v=true then (.mk o (.mk [] []) v [],false)else (.mk o a v ((ps.takeWhile λx=>(zbs n t x).2).map λx=>(zbs n t x).1),ps.all λx=>(zbs n t x).2):=by
     rw[hP];show(if(o==3)=true then _ else if(isQ o&&(v==n||!((zuj ps).contains n)))=true then _ else if(isQ o&&(zbk [] (voS t)).contains v)=true then _ else (Fm.mk o (.mk [] []) v _,_))=_
     rw[hq,hvn,h3,hc2];simp only[Qv,K0,Qp,if_false];rw[<-ha];rfl
    cases hfc:(!(zuj ps).contains n)
    ·rw[hfc]at hS2 hP2;simp only[Qp,if_false]at hS2 hP2;cases hvc:(voS t).contains v
     ·rw[hvc]at hS2 hP2;simp only[Qp,if_false]at hS2 hP2;exact main hS2 hP2
     ·rw[hvc]at hS2 hP2;simp only[if_true]at hS2 hP2;rw[hS2,hP2];exact⟨⟨λh=>(by cases h.1),λh=>(by cases h.1)⟩,λh=>(by cases h)⟩
    ·rw[hfc]at hS2 hP2;simp only[if_true]at hS2 hP2;rw[hS2,hP2];exact⟨Iff.rfl,λ_ _=>rfl⟩
   ·have hS2:zeb n t (.mk o a v ps)=(.mk o a v ps,true):=by
     rw[hS];show(if(isQ o&&(v==n||_))=true then _ else _)=_
     rw[hq,hvn];simp only[Qv,Yh,if_true]
    have hP2:zbs n t (.mk o a v ps)=(.mk o a v ps,true):=by
     rw[hP];show(if(o==3)=true then _ else if(isQ o&&(v==n||_))=true then _ else _)=_
     rw[hq,hvn,h3];simp only[Qv,Yh,if_true,Qp,if_false]
    rw[hS2,hP2];exact⟨Iff.rfl,λ_ _=>rfl⟩
 ·have ho3:o=3:=by simpa using h3
  obtain⟨hat,hp⟩:=zg9 (f:=.mk o a v ps) hh ho3;have hp:ps=[]:=hp;have hat:a.atomOk=true:=hat;have hq:isQ o=false:=by rw[ho3];decide
  have hS2:zeb n t (.mk o a v ps)=(.mk o (zez (bnd n t) a) v [],true):=by
   rw[hS];show(if(isQ o&&_)=true then _ else if(isQ o&&_)=true then _ else (Fm.mk o (if(o==3)=true then zgt n t a else a) v (ps.map _),ps.all _))=_
   rw[hq,h3,hp];simp only[Qx,Qp,if_false,if_true,Qi,List.all_nil];rw[qiy n t hn ht a hat]
  have hP2:zbs n t (.mk o a v ps)=(.mk o (zez (bnd n t) a) v [],(zez (bnd n t) a).atomOk):=by
   rw[hP];show(if(o==3)=true then _ else _)=_
   rw[h3];rfl
  rw[hS2,hP2];refine⟨⟨λh=>⟨?_,h.2⟩,λh=>⟨rfl,h.2⟩⟩,λ_ _=>rfl⟩;have:=h.2;rw[zhx,Qb]at this;exact(zg9 (f:=.mk o (zez (bnd n t) a) v []) this.1 ho3).1
theorem qi4 {f:Fm}(h:f.good=true):f.forms=true:=(Qb _ _▸h:_/\_).2
noncomputable def sbF (n:Str)(t:Tm)(f:Fm):Fm×Bool:=if(f.good&&za9 n&&t.good&&(zeb n t f).2&&(zeb n t f).1.good)=true then ((zeb n t f).1,true)else (mkF 0 [],false)
theorem zp8 (n:Str)(t:Tm)(hn:za9 n=true)(ht:t.names=true)(f:Fm)(hf:f.forms=true):((zeb n t f).2&&(zeb n t f).1.good)=((zbs n t f).2&&(zbs n t f).1.good):=by
 obtain⟨h1,h2⟩:=zqh n t hn ht f hf
 rw[Kp,Qb,Qb]
 unfold Fm.good
 rw[Qb,Qb]
 constructor
 ·rintro⟨a,b,c⟩;obtain⟨p,q⟩:=h1.1 ⟨a,c⟩;exact⟨p,by rw[<-h2 p q];exact b,q⟩
 ·rintro⟨a,b,c⟩;obtain⟨p,q⟩:=h1.2 ⟨a,c⟩;exact⟨p,by rw[h2 a c];exact b,q⟩
theorem ze4 (f:Fm)(n:Str)(t:Tm)(hw:f.wt<=1048576)(ht:t.wt<=1048576)(hb:f.wt+(1+f.wt)*t.wt<=1099511627776):FC Tryz.prog 147 [fmD f,sD n,tmD t] [fmD (sbF n t f).1,bD (sbF n t f).2]:=by
 have hv:sbF n t f=if(f.good&&za9 n&&t.good&&(zeb n t f).2&&(zeb n t f).1.good)=true then ((zeb n t f).1,true)else (mkF 0 [],false):=rfl
 have HF:=zcc f Y0
 have HN:=zdt n
 have HT:=zd4 t Y0
 cases hg:f.good
 ·rw[hg]at hv HF;simp only[Qx,Qp,if_false]at hv;rw[hv];simp only[fmD,zaa f,tmD,zab t,zkh,Qi]at HF⊢;refine zae Tryz.call147 Tryz.func147 rfl Yz (zao Yz) ?_;refine Xt ?_;refine callF (HF) Yy ?_;exact Yy
 ·cases hn:za9 n
  ·rw[hg,hn]at hv;rw[hg]at HF;rw[hn]at HN;simp only[Qx,Qv,Qp,if_false]at hv;rw[hv];simp only[fmD,zaa f,tmD,zab t,zkh,Qi]at HF⊢;refine zae Tryz.call147 Tryz.func147 rfl Yz (zao Yz) ?_;refine Xt ?_;refine callF (HF) Yy ?_;refine Y1 ?_;refine callF (HN) Yy ?_;exact Yy
  ·cases htg:t.good
   ·rw[hg,hn,htg]at hv;rw[hg]at HF;rw[hn]at HN;rw[htg]at HT;simp only[Qx,Qv,Qp,if_false]at hv;rw[hv];simp only[fmD,zaa f,tmD,zab t,zkh,Qi]at HF HT⊢;refine zae Tryz.call147 Tryz.func147 rfl Yz (zao Yz) ?_;refine Xt ?_;refine callF (HF) Yy ?_;refine Y1 ?_;refine callF (HN) Yy ?_;refine Y1 ?_;refine callF (HT) Yy ?_;exact Yy
   ·rw[hg,hn,htg]at hv;rw[hg]at HF;rw[hn]at HN;rw[htg]at HT;have HS:=zrg n t ht f (qi4 hg) hw;have hwt:=qvz n t f;generalize (zeb n t f).1=R at HS hv hwt;simp only[Qv]at hv;cases hok:(zeb n t f).2
    ·rw[hok]at hv HS;simp only[Qx,Qp,if_false]at hv;rw[hv];simp only[fmD,zaa f,tmD,zab t,zaa R,zkh,Qi]at HF HT HS⊢;refine zae Tryz.call147 Tryz.func147 rfl Yz (zao Yz) ?_;refine Xt ?_;refine callF (HF) Yy ?_;refine Y1 ?_;refine callF (HN) Yy ?_;refine Y1 ?_;refine callF (HT) Yy ?_;refine Y1 ?_;refine callF (HS) Yy ?_;exact Yy
    ·rw[hok]at hv HS;have HI:=zvg R Y0;simp only[Qv]at hv;have hv2:sbF n t f=((if R.good=true then R else mkF 0 []),R.good):=by rw[hv];cases R.good<;>rfl
     rw[hv2];generalize (if R.good=true then R else mkF 0 [])=Z at HI⊢;generalize R.good=G at HI⊢;simp only[fmD,zaa f,tmD,zab t,zaa R,zaa Z]at HF HT HS HI⊢;refine zae Tryz.call147 Tryz.func147 rfl Yz (zao Yz) ?_;refine Xt ?_;refine callF (HF) Yy ?_;refine Y1 ?_;refine callF (HN) Yy ?_;refine Y1 ?_;refine callF (HT) Yy ?_;refine Y1 ?_;refine callF (HS) Yy ?_;refine Y1 ?_;refine zem [6] [34] [] (HI) Yy Yy Yy Yy ?_;exact Yy
end
section
open Go.RowKit
def zbd (r:Int):Int:=if(r==1||r==2)=true then 0 else if(r==5||r==12||r==14||r==18)=true then 2 else if(r==10)=true then 3 else if inB r 3 17=true then 1 else -1
def za2 (r p:Int):Bool:=if(r==4||r==11||r==13)=true then true else if(r==10||r==18)=true then decide (0<p)else false
def za7 (r p:Int):Bool:=if(r==4||r==11||r==13)=true then p==0 else if(r==10)=true then p==1||p==2 else if(r==18)=true then p==1 else false
def zer (r:Int):Bool:=r==1||r==10||r==18||za2 r 0
theorem zfp (r p:Int):FC Tryz.prog 100 [iD r,iD p] [bD (za2 r p)]:=by
 by_cases h4:r=4
 ·subst h4;refine zae Tryz.call100 Tryz.func100 rfl Yz (zao Yz) ?_;refine Xu ?_
  all_goals simp[za2]
 by_cases h11:r=11
 ·subst h11;refine zae Tryz.call100 Tryz.func100 rfl Yz (zao Yz) ?_;refine Xu ?_
  all_goals simp[za2]
 by_cases h13:r=13
 ·subst h13;refine zae Tryz.call100 Tryz.func100 rfl Yz (zao Yz) ?_;refine Xu ?_
  all_goals simp[za2]
 by_cases h10:r=10
 ·subst h10;refine zae Tryz.call100 Tryz.func100 rfl Yz (zao Yz) ?_;refine Xu ?_
  all_goals simp[za2]
 by_cases h18:r=18
 ·subst h18;refine zae Tryz.call100 Tryz.func100 rfl Yz (zao Yz) ?_;refine Xu ?_
  all_goals simp[za2]
 have e4:(r==4)=false:=by simpa using h4
 have e11:(r==11)=false:=by simpa using h11
 have e13:(r==13)=false:=by simpa using h13
 have e10:(r==10)=false:=by simpa using h10
 have e18:(r==18)=false:=by simpa using h18
 refine zae Tryz.call100 Tryz.func100 rfl Yz (zao Yz) ?_
 simp -implicitDefEqProofs only[go_sem,Tryz.results100,e4,e11,e13,e10,e18]
 simp[za2,e4,e10,e11,e13,e18]
theorem zcm (r p:Int):FC Tryz.prog 99 [iD r,iD p] [bD (za7 r p)]:=by
 by_cases h4:r=4
 ·subst h4;refine zae Tryz.call99 Tryz.func99 rfl Yz (zao Yz) ?_;refine Xv ?_
  all_goals (simp[za7]<;>omega)
 by_cases h11:r=11
 ·subst h11;refine zae Tryz.call99 Tryz.func99 rfl Yz (zao Yz) ?_;refine Xv ?_
  all_goals (simp[za7]<;>omega)
 by_cases h13:r=13
 ·subst h13;refine zae Tryz.call99 Tryz.func99 rfl Yz (zao Yz) ?_;refine Xv ?_
  all_goals (simp[za7]<;>omega)
 by_cases h10:r=10
 ·subst h10;refine zae Tryz.call99 Tryz.func99 rfl Yz (zao Yz) ?_;refine Xv ?_
  all_goals (simp[za7]<;>omega)
 by_cases h18:r=18
 ·subst h18;refine zae Tryz.call99 Tryz.func99 rfl Yz (zao Yz) ?_;refine Xv ?_
  all_goals (simp[za7]<;>omega)
 have e4:(r==4)=false:=by simpa using h4
 have e11:(r==11)=false:=by simpa using h11
 have e13:(r==13)=false:=by simpa using h13
 have e10:(r==10)=false:=by simpa using h10
 have e18:(r==18)=false:=by simpa using h18
 refine zae Tryz.call99 Tryz.func99 rfl Yz (zao Yz) ?_
 simp -implicitDefEqProofs only[go_sem,Tryz.results99,e4,e11,e13,e10,e18]
 simp[za7,e4,e10,e11,e13,e18]
theorem zmk (r:Int):FC Tryz.prog 119 [iD r] [bD (inB r 15 18)]:=by
 refine zae Tryz.call119 Tryz.func119 rfl Yz (zao Yz) ?_
 simp -implicitDefEqProofs only[go_sem,Tryz.results119]
 refine callF (zfg r 15 18) Yy ?_
 exact Yy
theorem zkd (r:Int):FC Tryz.prog 118 [iD r] [bD (zer r)]:=by
 have H:=zfp r 0
 cases e1:(r==1)
 ·cases e10:(r==10)
  ·cases e18:(r==18)
   ·refine zae Tryz.call118 Tryz.func118 rfl Yz (zao Yz) ?_;simp -implicitDefEqProofs only[go_sem,Tryz.results118,e1,e10,e18];refine callF (H) (Zu e1 e10 e18) ?_;refine Zj e1 e10 e18 ?_;simp[zer,e1,e10,e18]
   ·refine zae Tryz.call118 Tryz.func118 rfl Yz (zao Yz) ?_;simp -implicitDefEqProofs only[go_sem,Tryz.results118,e1,e10,e18];simp[zer,e1,e10,e18]
  ·refine zae Tryz.call118 Tryz.func118 rfl Yz (zao Yz) ?_;simp -implicitDefEqProofs only[go_sem,Tryz.results118,e1,e10];simp[zer,e1,e10]
 ·refine zae Tryz.call118 Tryz.func118 rfl Yz (zao Yz) ?_;simp -implicitDefEqProofs only[go_sem,Tryz.results118,e1];simp[zer,e1]
theorem zfo (r:Int):FC Tryz.prog 116 [iD r] [iD (zbd r)]:=by
 have HW:=zfg r 1 18
 cases hin:inB r 1 18
 ·rw[hin]at HW;have hv:zbd r = -1:=by
   unfold inB at hin;unfold zbd inB;have h1:¬(1<=r/\r<=18):=by simpa using hin
   have q:∀k:Int,1<=k->k<=18->(r==k)=false:=λk a b=>by rw[Jd];omega
   have h2:(decide (3<=r)&&decide (r<=17))=false:=by simp;omega
   simp[q,h2]
  rw[hv];refine zae Tryz.call116 Tryz.func116 rfl Yz (zao Yz) ?_;refine Zf ?_;refine callF (HW) Yy ?_;exact Yy
 ·rw[hin]at HW;have h1:1<=r/\r<=18:=by simpa[inB]using hin
  obtain h|h|h|h|h|h|h|h|h|h|h|h|h|h|h|h|h|h:r=1\/r=2\/r=3\/r=4\/r=5\/r=6\/r=7\/r=8\/r=9\/r=10\/r=11\/r=12\/r=13\/r=14\/r=15\/r=16\/r=17\/r=18:=by omega
  ·subst h;have hw:IntKind.i64.wrap 0=0:=za4 Y0 Y0;refine zae Tryz.call116 Tryz.func116 rfl Yz (zao Yz) ?_;refine Zf ?_;refine callF (HW) (Y3 hw) ?_;refine Y2 hw ?_;refine zbg Vh ?_;refine Vi ?_
   first|done|rfl|decide
  ·subst h;have hw:IntKind.i64.wrap 1=1:=za4 Y0 Y0;refine zae Tryz.call116 Tryz.func116 rfl Yz (zao Yz) ?_;refine Zf ?_;refine callF (HW) (Y3 hw) ?_;refine Y2 hw ?_;refine zbg Vh ?_;refine Vi ?_
   first|done|rfl|decide
  ·subst h;have hw:IntKind.i64.wrap 2=2:=za4 Y0 Y0;refine zae Tryz.call116 Tryz.func116 rfl Yz (zao Yz) ?_;refine Zf ?_;refine callF (HW) (Y3 hw) ?_;refine Y2 hw ?_;refine zbg Vh ?_;refine Vi ?_
   first|done|rfl|decide
  ·subst h;have hw:IntKind.i64.wrap 3=3:=za4 Y0 Y0;refine zae Tryz.call116 Tryz.func116 rfl Yz (zao Yz) ?_;refine Zf ?_;refine callF (HW) (Y3 hw) ?_;refine Y2 hw ?_;refine zbg Vh ?_;refine Vi ?_
   first|done|rfl|decide
  ·subst h;have hw:IntKind.i64.wrap 4=4:=za4 Y0 Y0;refine zae Tryz.call116 Tryz.func116 rfl Yz (zao Yz) ?_;refine Zf ?_;refine callF (HW) (Y3 hw) ?_;refine Y2 hw ?_;refine zbg Vh ?_;refine Vi ?_
   first|done|rfl|decide
  ·subst h;have hw:IntKind.i64.wrap 5=5:=za4 Y0 Y0;refine zae Tryz.call116 Tryz.func116 rfl Yz (zao Yz) ?_;refine Zf ?_;refine callF (HW) (Y3 hw) ?_;refine Y2 hw ?_;refine zbg Vh ?_;refine Vi ?_
   first|done|rfl|decide
  ·subst h;have hw:IntKind.i64.wrap 6=6:=za4 Y0 Y0;refine zae Tryz.call116 Tryz.func116 rfl Yz (zao Yz) ?_;refine Zf ?_;refine callF (HW) (Y3 hw) ?_;refine Y2 hw ?_;refine zbg Vh ?_;refine Vi ?_
   first|done|rfl|decide
  ·subst h;have hw:IntKind.i64.wrap 7=7:=za4 Y0 Y0;refine zae Tryz.call116 Tryz.func116 rfl Yz (zao Yz) ?_;refine Zf ?_;refine callF (HW) (Y3 hw) ?_;refine Y2 hw ?_;refine zbg Vh ?_;refine Vi ?_
   first|done|rfl|decide
  ·subst h;have hw:IntKind.i64.wrap 8=8:=za4 Y0 Y0;refine zae Tryz.call116 Tryz.func116 rfl Yz (zao Yz) ?_;refine Zf ?_;refine callF (HW) (Y3 hw) ?_;refine Y2 hw ?_;refine zbg Vh ?_;refine Vi ?_
   first|done|rfl|decide
  ·subst h;have hw:IntKind.i64.wrap 9=9:=za4 Y0 Y0;refine zae Tryz.call116 Tryz.func116 rfl Yz (zao Yz) ?_;refine Zf ?_;refine callF (HW) (Y3 hw) ?_;refine Y2 hw ?_;refine zbg Vh ?_;refine Vi ?_
   first|done|rfl|decide
  ·subst h;have hw:IntKind.i64.wrap 10=10:=za4 Y0 Y0;refine zae Tryz.call116 Tryz.func116 rfl Yz (zao Yz) ?_;refine Zf ?_;refine callF (HW) (Y3 hw) ?_;refine Y2 hw ?_;refine zbg Vh ?_;refine Vi ?_
   first|done|rfl|decide
  ·subst h;have hw:IntKind.i64.wrap 11=11:=za4 Y0 Y0;refine zae Tryz.call116 Tryz.func116 rfl Yz (zao Yz) ?_;refine Zf ?_;refine callF (HW) (Y3 hw) ?_;refine Y2 hw ?_;refine zbg Vh ?_;refine Vi ?_
   first|done|rfl|decide
  ·subst h;have hw:IntKind.i64.wrap 12=12:=za4 Y0 Y0;refine zae Tryz.call116 Tryz.func116 rfl Yz (zao Yz) ?_;refine Zf ?_;refine callF (HW) (Y3 hw) ?_;refine Y2 hw ?_;refine zbg Vh ?_;refine Vi ?_
   first|done|rfl|decide
  ·subst h;have hw:IntKind.i64.wrap 13=13:=za4 Y0 Y0;refine zae Tryz.call116 Tryz.func116 rfl Yz (zao Yz) ?_;refine Zf ?_;refine callF (HW) (Y3 hw) ?_;refine Y2 hw ?_;refine zbg Vh ?_;refine Vi ?_
   first|done|rfl|decide
  ·subst h;have hw:IntKind.i64.wrap 14=14:=za4 Y0 Y0;refine zae Tryz.call116 Tryz.func116 rfl Yz (zao Yz) ?_;refine Zf ?_;refine callF (HW) (Y3 hw) ?_;refine Y2 hw ?_;refine zbg Vh ?_;refine Vi ?_
   first|done|rfl|decide
  ·subst h;have hw:IntKind.i64.wrap 15=15:=za4 Y0 Y0;refine zae Tryz.call116 Tryz.func116 rfl Yz (zao Yz) ?_;refine Zf ?_;refine callF (HW) (Y3 hw) ?_;refine Y2 hw ?_;refine zbg Vh ?_;refine Vi ?_
   first|done|rfl|decide
  ·subst h;have hw:IntKind.i64.wrap 16=16:=za4 Y0 Y0;refine zae Tryz.call116 Tryz.func116 rfl Yz (zao Yz) ?_;refine Zf ?_;refine callF (HW) (Y3 hw) ?_;refine Y2 hw ?_;refine zbg Vh ?_;refine Vi ?_
   first|done|rfl|decide
  ·subst h;have hw:IntKind.i64.wrap 17=17:=za4 Y0 Y0;refine zae Tryz.call116 Tryz.func116 rfl Yz (zao Yz) ?_;refine Zf ?_;refine callF (HW) (Y3 hw) ?_;refine Y2 hw ?_;refine zbg Vh ?_;refine Vi ?_
   first|done|rfl|decide
theorem qa1 (r:Int):FC Tryz.prog 104 [iD r] [iD (zbd r)]:=by
 have HW:=zpc r 3 17
 by_cases h1:r=1
 ·subst h1;refine zae Tryz.call104 Tryz.func104 rfl Yz (zao Yz) ?_;refine Xc ?_;rfl
 by_cases h2:r=2
 ·subst h2;refine zae Tryz.call104 Tryz.func104 rfl Yz (zao Yz) ?_;refine Xc ?_;rfl
 by_cases h5:r=5
 ·subst h5;refine zae Tryz.call104 Tryz.func104 rfl Yz (zao Yz) ?_;refine Xc ?_;rfl
 by_cases h12:r=12
 ·subst h12;refine zae Tryz.call104 Tryz.func104 rfl Yz (zao Yz) ?_;refine Xc ?_;rfl
 by_cases h14:r=14
 ·subst h14;refine zae Tryz.call104 Tryz.func104 rfl Yz (zao Yz) ?_;refine Xc ?_;rfl
 by_cases h18:r=18
 ·subst h18;refine zae Tryz.call104 Tryz.func104 rfl Yz (zao Yz) ?_;refine Xc ?_;rfl
 by_cases h10:r=10
 ·subst h10;refine zae Tryz.call104 Tryz.func104 rfl Yz (zao Yz) ?_;refine Xc ?_;rfl
 have e1:(r==1)=false:=by simpa using h1
 have e2:(r==2)=false:=by simpa using h2
 have e5:(r==5)=false:=by simpa using h5
 have e12:(r==12)=false:=by simpa using h12
 have e14:(r==14)=false:=by simpa using h14
 have e18:(r==18)=false:=by simpa using h18
 have e10:(r==10)=false:=by simpa using h10
 have hv:zbd r=if inB r 3 17=true then 1 else -1:=by simp[zbd,e1,e2,e5,e12,e14,e18,e10]
 rw[hv]
 cases hin:inB r 3 17
 ·rw[hin]at HW;refine zae Tryz.call104 Tryz.func104 rfl Yz (zao Yz) ?_;simp -implicitDefEqProofs only[go_sem,Tryz.results104,e1,e2,e5,e12,e14,e18,e10];refine callF (HW) (Zy e1 e2 e5 e12 e14 e18 e10) ?_;exact Zy e1 e2 e5 e12 e14 e18 e10
 ·rw[hin]at HW;refine zae Tryz.call104 Tryz.func104 rfl Yz (zao Yz) ?_;simp -implicitDefEqProofs only[go_sem,Tryz.results104,e1,e2,e5,e12,e14,e18,e10];refine callF (HW) (Zy e1 e2 e5 e12 e14 e18 e10) ?_;exact Zy e1 e2 e5 e12 e14 e18 e10
end
section
open Go.RowKit
def ntB (a:Nt):List C:=[.t (.int .i64 a.rule),.t (.int .i64 a.form.op),.t (.str a.form.atom.name),.t (tmS a.form.atom.args),.t (.str a.form.var),.t (fmS a.form.parts),.t (.int .i64 a.label),.t (.str a.term.name),.t (tmS a.term.args),.t (ntS a.parts)]
attribute [go_sem] ntB
theorem zso {a x:Nt}(h:x∈a.parts):x.wt<=a.wt:=by
 have:=a.wt_eq
 have:=zbz Nt.wt a.parts x h
 omega
inductive Fit:Nt->Prop
 | mk (p:Nt) (h0:p.wt<=1073741824) (h1:p.form.wt+p.term.wt+p.parts.length<=1048576) (h2:∀q∈p.parts,q.form.wt+p.term.wt<=1048576) (h3:∀q∈p.parts,Fit q):Fit p
theorem Fit.all {p:Nt}(h:Fit p):p.wt<=1073741824:=by cases h;assumption
theorem Fit.own {p:Nt}(h:Fit p):p.form.wt+p.term.wt+p.parts.length<=1048576:=by cases h;assumption
theorem Fit.part {p:Nt}(h:Fit p):∀q∈p.parts,q.form.wt+p.term.wt<=1048576:=by cases h;assumption
theorem Fit.sub {p:Nt}(h:Fit p):∀q∈p.parts,Fit q:=by cases h;assumption
theorem Fit.of:∀p:Nt,p.wt<=1048576->Fit p :=
 zbu λr f l t ps ih hw=>by
  have hwe:=Nt.wt_eq (.mk r f l t ps);simp only[Nt.form,Nt.term,Nt.parts]at hwe;refine .mk _ Y0 (by show f.wt+t.wt+ps.length<=_;omega) (λq hq=>?_) λq hq=>?_
  ·have hq:q∈ps:=hq;have e1:=zbz Nt.wt ps q hq;have e2:=q.wt_eq;show q.form.wt+t.wt<=_
   omega
  ·have hq:q∈ps:=hq;have e1:=zbz Nt.wt ps q hq;exact ih q hq Y0
def Nt.nodes:Nt->Nat:=Nt.fold λ_ _ _ _ _ rs=>1+rs.sum
theorem Nt.nodes_eq (a:Nt):a.nodes=1+(a.parts.map Nt.nodes).sum:=Nt.fold_eq _ a
theorem zm0:∀a:Nt,a.nodes<=1+a.wt:=by
 refine zbu λr f l t xs ih=>?_
 rw[Nt.nodes_eq,Nt.wt_eq]
 show 1+(xs.map Nt.nodes).sum<=1+(f.wt+t.wt+(xs.length+(xs.map Nt.wt).sum))
 have:(xs.map Nt.nodes).sum<=xs.length+(xs.map Nt.wt).sum:=by
  induction xs with
  | nil=>simp
  | cons x xs ih2 =>
   have h1:=ih x (by simp);have h2:=ih2 λy hy=>ih y (by simp[hy]);simp only[Qc,Kt,Qg];omega
 omega
def zfa:Nt->Int:=Nt.fold λ_ _ _ _ _ rs=>szL 60 1 rs
theorem zz5 (a:Nt):zfa a=szL 60 1 (a.parts.map zfa):=Nt.fold_eq _ a
theorem zps:∀a:Nt,1<=zfa a/\zfa a<=a.nodes/\(zfa a<=60->zfa a=a.nodes):=by
 refine zbu λr f l t xs ih=>?_
 rw[zz5,Nt.nodes_eq]
 show 1<=szL 60 1 (xs.map zfa)/\szL 60 1 (xs.map zfa)<=((1+(xs.map Nt.nodes).sum:Nat):Int)/\_
 obtain⟨k1,k2,k3⟩:=zlr zfa Nt.nodes 60 xs 1 Y0 ih
 refine⟨k2,Y0,λh=>?_⟩
 have:=k3 h
 show szL 60 1 (xs.map zfa)=_
 rw[this];show _=((1+(xs.map Nt.nodes).sum:Nat):Int);omega
theorem zyc (a:Nt):decide (zfa a<=60)=decide (a.nodes<=60):=by
 obtain⟨h1,h2,h3⟩:=zps a
 rw[Jy]
 exact⟨λh=>by have:=h3 h;omega,λh=>by omega⟩
theorem zm9 (a:Nt)(hs:a.wt<=1099511627776)(H:∀x∈a.parts,FC Tryz.prog 53 [ntD x] [iD (zfa x)]):FC Tryz.prog 53 [ntD a] [iD (zfa a)]:=by
 have hl:a.parts.length<=9223372036854775807:=by rw[Nt.wt_eq]at hs;omega
 have hn:=zm0 a
 have hN:=a.nodes_eq
 simp only[ntD,zac]
 refine zae Tryz.call53 Tryz.func53 rfl Yz (zao Yz) ?_
 simp -implicitDefEqProofs only[go_sem,Tryz.results53]
 refine zah (λp:Nat×Int=>hd [(3,vI p.2),(7,vT (ntS a.parts)),(8,vI a.parts.length),(9,vI p.1)] [] []) (λp=>p.1<=a.parts.length/\zfa a=szL 60 p.2 ((a.parts.drop p.1).map zfa)/\1<=p.2/\p.2+qgr Nt.nodes a.parts p.1<=a.nodes) (λp=>a.parts.length-p.1) (0,1) (zad ?_) ?_ ?_
 ·exact Yy
 ·exact⟨by simp,by rw[zz5];rfl,Y0,by rw[zf8];omega⟩
 ·intro ⟨k,n⟩ ⟨hk,hr,h1,h2⟩;simp only at hk hr h1 h2;by_cases hlt:k<a.parts.length
  ·have hd:=zkk Nt.nodes a.parts k hlt;obtain⟨s1,s2,s3⟩:=zps a.parts[k];rw[Qm hlt,Qc,szL]at hr;simp -implicitDefEqProofs only[go_sem,zaj,hlt,zac];refine⟨λh=>?_,λh=>?_⟩
   ·rw[hr,if_pos (by simpa using h)]
   ·refine callF (H a.parts[k] (Qk hlt)) (by simp -implicitDefEqProofs only[go_sem,zac]) ?_;simp -implicitDefEqProofs only[go_sem,zac];rw[if_neg (by simpa using h)]at hr;exact⟨(k+1,n+zfa a.parts[k]),⟨hlt,hr,by simp only;omega,by simp only;omega⟩,by simp only;omega,zad (by simp -implicitDefEqProofs only[go_sem];rw[zaq Y0,za4 Y0 Y0];exact⟨rfl,rfl⟩)⟩
  ·refine Vd ?_;rw[hr,Q0 Y0];rfl
theorem zn9:∀a:Nt,a.wt<=1099511627776->FC Tryz.prog 53 [ntD a] [iD (zfa a)] :=
 zbu λr f l t xs ih hs=>zm9 (.mk r f l t xs) hs λx hx=>ih x hx (Je (zso (a:=.mk r f l t xs) hx) hs)
def zfb:Nt->Int->Int:=Nt.fold λ_ _ _ _ _ rs m=>mnL m 1 rs
theorem zzd (a:Nt)(m:Int):zfb a m=mnL m 1 (a.parts.map zfb):=congrFun (Nt.fold_eq _ a) m
theorem zo9:∀(a:Nt)(m:Int),0<=m->1<=zfb a m/\zfb a m<=a.nodes/\(zfb a m<=m->zfb a m=a.nodes):=by
 refine zbu λr f l t xs ih m hm=>?_
 rw[zzd,Nt.nodes_eq]
 show 1<=mnL m 1 (xs.map zfb)/\mnL m 1 (xs.map zfb)<=((1+(xs.map Nt.nodes).sum:Nat):Int)/\(mnL m 1 (xs.map zfb)<=m->mnL m 1 (xs.map zfb)=((1+(xs.map Nt.nodes).sum:Nat):Int))
 obtain⟨k1,k2,k3⟩:=zlq zfb Nt.nodes m xs 1 Y0 ih
 refine⟨k2,Y0,λh=>?_⟩
 have:=k3 h
 omega
theorem qph (a:Nt)(m:Nat):decide (zfb a m<=m)=decide (a.nodes<=m):=by
 obtain⟨h1,h2,h3⟩:=zo9 a m Y0
 rw[Jy]
 exact⟨λh=>by have:=h3 h;omega,λh=>by omega⟩
theorem qbr (a:Nt)(hs:a.wt<=1099511627776)(H:∀x∈a.parts,∀m:Int,0<=m->m<=1099511627776->FC Tryz.prog 51 [ntD x,iD m] [iD (zfb x m)])(m:Int)(h0:0<=m)(h1:m<=1099511627776):FC Tryz.prog 51 [ntD a,iD m] [iD (zfb a m)]:=by
 have hl:a.parts.length<=9223372036854775807:=by rw[Nt.wt_eq]at hs;omega
 have hn:=zm0 a
 have hN:=a.nodes_eq
 simp only[ntD,zac]
 refine zae Tryz.call51 Tryz.func51 rfl Yz (zao Yz) ?_
 simp -implicitDefEqProofs only[go_sem,Tryz.results51]
 refine zah (λp:Nat×Int=>hd [(1,vI m),(2,.one (.bx 2 0)),(5,vI p.2),(6,vI p.1)] [(2,ntB a)] []) (λp=>p.1<=a.parts.length/\zfb a m=mnL m p.2 ((a.parts.drop p.1).map zfb)/\1<=p.2/\p.2+qgr Nt.nodes a.parts p.1<=a.nodes) (λp=>a.parts.length-p.1) (0,1) (zad ?_) ?_ ?_
 ·exact Yy
 ·exact⟨by simp,by rw[zzd];rfl,Y0,by rw[zf8];omega⟩
 ·intro ⟨k,n⟩ ⟨hk,hr,h2,h3⟩;simp only at hk hr h2 h3;by_cases hlt:k<a.parts.length
  ·have hd:=zkk Nt.nodes a.parts k hlt;rw[Qm hlt,Qc,mnL]at hr;simp -implicitDefEqProofs only[go_sem,zaj,hlt,zac];refine⟨λh=>?_,λh=>?_⟩
   ·have hle:n<=m:=by simpa using h
    obtain⟨s1,s2,s3⟩:=zo9 a.parts[k] (m-n) Y0;rw[za4 (n:=m-n) Y0 Y0];refine callF (H a.parts[k] (Qk hlt) (m-n) Y0 Y0) (by simp -implicitDefEqProofs only[go_sem,zac]) ?_;simp -implicitDefEqProofs only[go_sem,zac];rw[if_pos hle]at hr;exact⟨(k+1,n+zfb a.parts[k] (m-n)),⟨hlt,hr,by simp only;omega,by simp only;omega⟩,by simp only;omega,zad (by simp -implicitDefEqProofs only[go_sem];rw[zaq Y0,za4 Y0 Y0];exact⟨rfl,rfl⟩)⟩
   ·rw[hr,if_neg (by simpa using h)]
  ·refine Vd ?_;rw[hr,Q0 Y0];rfl
theorem qd7:∀a:Nt,a.wt<=1099511627776->∀m:Int,0<=m->m<=1099511627776->FC Tryz.prog 51 [ntD a,iD m] [iD (zfb a m)] :=
 zbu λr f l t xs ih hs=>qbr (.mk r f l t xs) hs λx hx=>ih x hx (Je (zso (a:=.mk r f l t xs) hx) hs)
end
section
open Go.RowKit
def okF (f:Fm):Prop:=f.forms=true/\f.wt<=1048576
def frN (name:Str)(f:Fm):Bool:=(zbk [] (vf f [])).contains name
theorem qa6 (name:Str)(f:Fm)(hf:okF f):FC Tryz.prog 179 [fmD f,.one (.ptr [.str name])] [bD (frN name f)]:=by
 have H1:=qqf f hf.1 hf.2
 have H2:=zc8 (zbk [] (vf f [])) name
 simp only[fmD,zaa]at H1⊢
 unfold frN
 generalize zbk [] (vf f [])=xs at H1 H2⊢
 refine zae Tryz.call179 Tryz.func179 rfl Yz (zao Yz) ?_
 simp -implicitDefEqProofs only[go_sem,Tryz.results179]
 refine drawn Yz ?_
 refine Y1 ?_
 refine zai (H1) Yy ?_
 refine Y1 ?_
 refine zai (H2) Yy ?_
 refine Y1 ?_
 kernel_rfl
noncomputable def sbs (q:Fm)(t:Tm):Fm×Bool:=sbF q.var t (q.parts.headD (mkF 0 []))
noncomputable def qcv (f q:Fm)(op:Int)(t:Tm):Bool:=q.op==op&&((sbs q t).2&&same (sbs q t).1 f)
theorem zul (f q:Fm)(op:Int)(t:Tm)(HS0:q.op=op->q.parts≠[]/\FC Tryz.prog 147 [fmD (q.parts.headD (mkF 0 [])),sD q.var,tmD t] [fmD (sbs q t).1,bD (sbs q t).2]) :
  FC Tryz.prog 146 [fmD f,fmD q,iD op,tmD t] [bD (qcv f q op t)]:=by
 unfold qcv
 by_cases ho:q.op=op
 ·obtain⟨hp,HS⟩:=HS0 ho;clear HS0;obtain⟨o,a,v,ps⟩:=q;cases ps with
  | nil=>exact absurd rfl hp
  | cons g rest =>
   have H2:=zbm (sbs (.mk o a v (g::rest)) t).1 f;generalize sbs (.mk o a v (g::rest)) t=S at HS H2⊢;obtain⟨S1,S2⟩:=S;have ho:o=op:=ho;subst ho;have e0:(o != o)=false:=by simp
   have HS:FC Tryz.prog 147 [fmD g,sD v,tmD t] [fmD S1,bD S2]:=HS;have e1:((Fm.mk o a v (g::rest)).op==o)=true:=by show(o==o)=true;simp
   rw[e1,Qv];have hq:fmC (.mk o a v (g::rest))=[.int .i64 o,.str a.name,.sl 2 (a.args.map tmC),.str v,.sl 5 (fmC g::rest.map fmC)]:=zaa _;have hl:(0:Int)<((rest.length+1:Nat):Int):=by omega
   simp only[fmD,zaa S1,zaa f,tmD,zab t,hq]at HS H2⊢;generalize same S1 f=b at H2⊢;cases S2
   ·refine zae Tryz.call146 Tryz.func146 rfl Yz (zao Yz) ?_;simp -implicitDefEqProofs only[go_sem,Tryz.results146,e0];refine drawn Yz ?_;refine Ze (zaa g) hl ?_;rw[zaa g]at HS;refine zai (HS) Yy ?_;refine Y1 ?_;kernel_rfl
   ·refine zae Tryz.call146 Tryz.func146 rfl Yz (zao Yz) ?_;simp -implicitDefEqProofs only[go_sem,Tryz.results146,e0];refine drawn Yz ?_;refine Ze (zaa g) hl ?_;rw[zaa g]at HS;refine zai (HS) Yy ?_;refine Y1 ?_;refine⟨Yz,?_⟩;refine callF (H2) Yy ?_;exact Yy
 ·have e0:(q.op != op)=true:=by simpa using ho
  have e1:(q.op==op)=false:=by simpa using ho
  rw[e1,Qx];simp only[fmD,zaa f,zaa q,tmD,zab t];refine zae Tryz.call146 Tryz.func146 rfl Yz (zao Yz) ?_;simp -implicitDefEqProofs only[go_sem,Tryz.results146,e0]
def pbs (q:Fm)(t:Tm):Fm×Bool:=zbs q.var t (q.parts.headD (mkF 0 []))
noncomputable def qgp (q:Fm)(op:Int)(t:Tm)(f:Fm):Bool:=q.op==op&&((pbs q t).2&&same (pbs q t).1 f)
theorem zp4 (q:Fm)(op:Int)(t:Tm)(f:Fm)(HS0:q.op=op->q.parts≠[]/\FC Tryz.prog 135 [fmD (q.parts.headD (mkF 0 [])),sD q.var,tmD t] [fmD (pbs q t).1,bD (pbs q t).2]) :
  FC Tryz.prog 113 [fmD q,iD op,tmD t,fmD f] [bD (qgp q op t f)]:=by
 unfold qgp
 by_cases ho:q.op=op
 ·obtain⟨hp,HS⟩:=HS0 ho;clear HS0;obtain⟨o,a,v,ps⟩:=q;cases ps with
  | nil=>exact absurd rfl hp
  | cons g rest =>
   have H2:=zc1 (pbs (.mk o a v (g::rest)) t).1 f;generalize pbs (.mk o a v (g::rest)) t=S at HS H2⊢;obtain⟨S1,S2⟩:=S;have ho:o=op:=ho;subst ho;have e0:(o != o)=false:=by simp
   have HS:FC Tryz.prog 135 [fmD g,sD v,tmD t] [fmD S1,bD S2]:=HS;have e1:((Fm.mk o a v (g::rest)).op==o)=true:=by show(o==o)=true;simp
   rw[e1,Qv];have hq:fmC (.mk o a v (g::rest))=[.int .i64 o,.str a.name,.sl 2 (a.args.map tmC),.str v,.sl 5 (fmC g::rest.map fmC)]:=zaa _;have hl:(0:Int)<((rest.length+1:Nat):Int):=by omega
   simp only[fmD,zaa S1,zaa f,tmD,zab t,hq]at HS H2⊢;generalize same S1 f=b at H2⊢;cases S2
   ·refine zae Tryz.call113 Tryz.func113 rfl Yz (zao Yz) ?_;simp -implicitDefEqProofs only[go_sem,Tryz.results113,e0];refine drawn Yz ?_;refine Ze (zaa g) hl ?_;rw[zaa g]at HS;refine zai (HS) Yy ?_;refine Y1 ?_;kernel_rfl
   ·refine zae Tryz.call113 Tryz.func113 rfl Yz (zao Yz) ?_;simp -implicitDefEqProofs only[go_sem,Tryz.results113,e0];refine drawn Yz ?_;refine Ze (zaa g) hl ?_;rw[zaa g]at HS;refine zai (HS) Yy ?_;refine Y1 ?_;refine⟨Yz,?_⟩;refine callF (H2) Yy ?_;exact Yy
 ·have e0:(q.op != op)=true:=by simpa using ho
  have e1:(q.op==op)=false:=by simpa using ho
  rw[e1,Qx];simp only[fmD,zaa f,zaa q,tmD,zab t];refine zae Tryz.call113 Tryz.func113 rfl Yz (zao Yz) ?_;simp -implicitDefEqProofs only[go_sem,Tryz.results113,e0]
end
section
open Go.RowKit
variable {P:Program}
section
variable {ks:List Fr}{Q:Exit->St->Prop}{σ:St}{ops:Array Oper}{os:List Oper}{L:List (List Ky×List Ky)}{ty:TypeId}{ps:String}{af:Array Edge}{x:Operand}{asx:Array Operand}{ts:Array TypeId}{f:FuncId}{ds res:List D}
theorem zgu {d:Option Nat}{gR:List Ky}(h:RC P f ds res)(hp:zav (za0 (σ.get P 0 x)) λp=>p.1=f/\zlf σ (σ.gets P asx ts++p.2) ds)
  (k:exd P ops os (L++[(gR++zas (x::asx.toList),dK d++[])]) ks Q (σ.callR d res)) :
  zr3 P ops ⟨d,.call ⟨.value x,asx,ts⟩,ty,ps,af,none⟩ os L gR ks Q σ:=by
 obtain⟨⟨f',cvs⟩,h1,rfl,h2⟩:=zap hp
 exact qdm _ _ _ _ _ _ rfl (ztn rfl h h1 h2) k
end
end
section
open Go.RowKit
theorem zmz (xs ys:List Fm):FC Tryz.prog 144 [.one (fmS xs),.one (fmS ys)] [bD (same xs ys)]:=by
 have H:=zfh xs ys same 123 [] λx _ y _=>zbm x y
 rw[zlw λx _ y=>rfl]at H
 refine zae Tryz.call144 Tryz.func144 rfl Yz (zao Yz) ?_
 simp -implicitDefEqProofs only[go_sem,Tryz.results144]
 refine callF (H) Yy ?_
 exact Yy
theorem zbw (p:Nt)(i:Nat)(hi:i<p.parts.length):RC Tryz.prog 142 [iD i,.one (.ptr (ntC p))] [fmD p.parts[i].form]:=by
 simp only[zac p,fmD,zaa p.parts[i].form]
 refine zcb Tryz.call142 Tryz.func142 rfl Yz (zao Yz) ?_
 simp -implicitDefEqProofs only[go_sem,Tryz.results142]
 simp -implicitDefEqProofs only[go_sem,hi,zaj,zac p.parts[i]]
theorem qes (f:Fm)(op:Int)(fs:List Fm):FC Tryz.prog 143 [fmD f,iD op,.one (fmS fs)] [bD (f.op==op&&same f.parts fs)]:=by
 have H:=zmz f.parts fs
 generalize same f.parts fs=b at H⊢
 cases e:(f.op==op)
 ·simp only[fmD,zaa f];refine zae Tryz.call143 Tryz.func143 rfl Yz (zao Yz) ?_;simp -implicitDefEqProofs only[go_sem,Tryz.results143,e]
 ·simp only[fmD,zaa f];refine zae Tryz.call143 Tryz.func143 rfl Yz (zao Yz) ?_;simp -implicitDefEqProofs only[go_sem,Tryz.results143,e];refine callF (H) Ve ?_;exact Ve
theorem zen {xs:List Fm}{i:Nat}(h:i<xs.length):(xs.map fmC).getD i []=fmC (xs.getD i (mkF 0 [])):=by
 simp only[List.getD_eq_getElem?_getD,List.getElem?_map,List.getElem?_eq_getElem h]
 rfl
theorem qbq (c:Fm)(l:Int)(t:Tm):FC Tryz.prog 122 [ntD (.mk 1 c l t [])] [bD (true)]:=by
 simp only[ntD,zbe,fmD,tmD,zab t,zaa c,Nt.parts,fmS,Kk,Kl,Qc,Qi]at  ⊢
 refine zae Tryz.call122 Tryz.func122 rfl Yz (zao Yz) ?_
 simp -implicitDefEqProofs only[go_sem,Tryz.results122]
theorem qbc (c:Fm)(l:Int)(t:Tm):FC Tryz.prog 122 [ntD (.mk 2 c l t [])] [bD (c.op==1)]:=by
 simp only[ntD,zbe,fmD,tmD,zab t,zaa c,Nt.parts,fmS,Kk,Kl,Qc,Qi]at  ⊢
 refine zae Tryz.call122 Tryz.func122 rfl Yz (zao Yz) ?_
 simp -implicitDefEqProofs only[go_sem,Tryz.results122]
theorem qbf (c:Fm)(l:Int)(t:Tm)(p0:Nt):FC Tryz.prog 122 [ntD (.mk 3 c l t [p0])] [bD (p0.form.op==2)]:=by
 have H0:=zbw (.mk 3 c l t [p0]) 0 (by show 0<1;omega)
 simp only[ntD,zbe,fmD,tmD,zab t,zaa c,Nt.parts,fmS,Kk,Kl,Qc,Qi,zaa p0.form]at H0  ⊢
 refine zae Tryz.call122 Tryz.func122 rfl Yz (zao Yz) ?_
 refine Zq ?_
 refine qrq 1 rfl rfl ?_
 refine Y1 ?_
 refine callR (H0) Yy ?_
 exact Yy
theorem qcg (c:Fm)(l:Int)(t:Tm)(p0:Nt):FC Tryz.prog 122 [ntD (.mk 4 c l t [p0])] [bD (p0.form.op==2)]:=by
 have H0:=zbw (.mk 4 c l t [p0]) 0 (by show 0<1;omega)
 simp only[ntD,zbe,fmD,tmD,zab t,zaa c,Nt.parts,fmS,Kk,Kl,Qc,Qi,zaa p0.form]at H0  ⊢
 refine zae Tryz.call122 Tryz.func122 rfl Yz (zao Yz) ?_
 refine Zq ?_
 refine qrq 1 rfl rfl ?_
 refine Y1 ?_
 refine callR (H0) Yy ?_
 exact Yy
theorem qbl (c:Fm)(l:Int)(t:Tm)(p0:Nt)(p1:Nt):FC Tryz.prog 122 [ntD (.mk 5 c l t [p0,p1])] [bD (c.op==5&&same c.parts [p0.form,p1.form])]:=by
 have H0:=zbw (.mk 5 c l t [p0,p1]) 0 (by show 0<2;omega)
 have H1:=zbw (.mk 5 c l t [p0,p1]) 1 (by show 1<2;omega)
 have HI:=qes c 5 [p0.form,p1.form]
 generalize (c.op==5&&same c.parts [p0.form,p1.form])=b at HI⊢
 simp only[ntD,zbe,fmD,tmD,zab t,zaa c,Nt.parts,fmS,Kk,Kl,Qc,Qi,zaa p0.form,zaa p1.form]at H0 H1 HI  ⊢
 refine zae Tryz.call122 Tryz.func122 rfl Yz (zao Yz) ?_
 refine Zq ?_
 refine zge 1 ?_
 refine Y1 ?_
 refine drawn Yz ?_
 refine Y1 ?_
 refine zay H0 Yy ?_
 refine Y1 ?_
 refine zay H1 Yy ?_
 refine Y1 ?_
 refine qdt Yy ?_
 refine Y1 ?_
 refine zai (HI) Yy ?_
 refine Y1 ?_
 kernel_rfl
end
section
open Go.RowKit
theorem qal (c:Fm)(l:Int)(t:Tm)(p0:Nt)(ha:p0.form.op=5->p0.form.parts.length=2):FC Tryz.prog 122 [ntD (.mk 6 c l t [p0])] [bD (p0.form.op==5&&same (p0.form.parts.getD 0 (mkF 0 [])) c)]:=by
 have H0:=zbw (.mk 6 c l t [p0]) 0 (by show 0<1;omega)
 have HE:=zbm (p0.form.parts.getD 0 (mkF 0 [])) c
 simp only[ntD,zbe,fmD,tmD,zab t,zaa c,Nt.parts,fmS,Kk,Kl,Qc,Qi,zaa p0.form]at H0 HE  ⊢
 cases e:(p0.form.op==5)
 ·refine zae Tryz.call122 Tryz.func122 rfl Yz (zao Yz) ?_;refine Zm e ?_;refine zge 1 ?_;refine Y2 e ?_;refine drawn Yz ?_;refine Y2 e ?_;refine zay H0 Ve ?_;refine Y2 e ?_;kernel_rfl
 ·have hl:0<p0.form.parts.length:=by rw[ha (by simpa using e)];omega
  have hli:(0:Int)<(p0.form.parts.length:Int):=by omega
  have hw:IntKind.i64.wrap 0=0:=za4 Y0 Y0;have hat:=zen hl;rw[zaa (p0.form.parts.getD 0 (mkF 0 []))]at hat;generalize p0.form.parts.getD 0 (mkF 0 [])=G at hat HE⊢;simp only[zaa G]at HE;generalize same G c=b at HE⊢;refine zae Tryz.call122 Tryz.func122 rfl Yz (zao Yz) ?_;refine Zm e ?_;refine zge 1 ?_;refine Y2 e ?_;refine drawn Yz ?_;refine Y2 e ?_;refine zay H0 Ve ?_;refine Y2 e ?_;refine zgu H0 (by simp -implicitDefEqProofs only[go_sem,e,hw,hli,hat,Qa]) ?_;refine Vq ?_;refine zaz HE (Z1 e hw hli hat) ?_;refine Zr e hw hli hat ?_;kernel_rfl
theorem qar (c:Fm)(l:Int)(t:Tm)(p0:Nt)(ha:p0.form.op=5->p0.form.parts.length=2):FC Tryz.prog 122 [ntD (.mk 7 c l t [p0])] [bD (p0.form.op==5&&same (p0.form.parts.getD 1 (mkF 0 [])) c)]:=by
 have H0:=zbw (.mk 7 c l t [p0]) 0 (by show 0<1;omega)
 have HE:=zbm (p0.form.parts.getD 1 (mkF 0 [])) c
 simp only[ntD,zbe,fmD,tmD,zab t,zaa c,Nt.parts,fmS,Kk,Kl,Qc,Qi,zaa p0.form]at H0 HE  ⊢
 cases e:(p0.form.op==5)
 ·refine zae Tryz.call122 Tryz.func122 rfl Yz (zao Yz) ?_;refine Zm e ?_;refine zge 1 ?_;refine Y2 e ?_;refine drawn Yz ?_;refine Y2 e ?_;refine zay H0 Ve ?_;refine Y2 e ?_;kernel_rfl
 ·have hl:1<p0.form.parts.length:=by rw[ha (by simpa using e)];omega
  have hli:(1:Int)<(p0.form.parts.length:Int):=by omega
  have hw:IntKind.i64.wrap 1=1:=za4 Y0 Y0;have hat:=zen hl;rw[zaa (p0.form.parts.getD 1 (mkF 0 []))]at hat;generalize p0.form.parts.getD 1 (mkF 0 [])=G at hat HE⊢;simp only[zaa G]at HE;generalize same G c=b at HE⊢;refine zae Tryz.call122 Tryz.func122 rfl Yz (zao Yz) ?_;refine Zm e ?_;refine zge 1 ?_;refine Y2 e ?_;refine drawn Yz ?_;refine Y2 e ?_;refine zay H0 Ve ?_;refine Y2 e ?_;refine zgu H0 (by simp -implicitDefEqProofs only[go_sem,e,hw,hli,hat,Qa]) ?_;refine Vq ?_;refine zaz HE (Z1 e hw hli hat) ?_;refine Zr e hw hli hat ?_;kernel_rfl
theorem qaw (c:Fm)(l:Int)(t:Tm)(p0:Nt)(ha:c.op=6->c.parts.length=2):FC Tryz.prog 122 [ntD (.mk 8 c l t [p0])] [bD (c.op==6&&same (c.parts.getD 0 (mkF 0 [])) p0.form)]:=by
 have H0:=zbw (.mk 8 c l t [p0]) 0 (by show 0<1;omega)
 have HE:=zbm (c.parts.getD 0 (mkF 0 [])) p0.form
 simp only[ntD,zbe,fmD,tmD,zab t,zaa c,Nt.parts,fmS,Kk,Kl,Qc,Qi,zaa p0.form]at H0 HE  ⊢
 cases e:(c.op==6)
 ·refine zae Tryz.call122 Tryz.func122 rfl Yz (zao Yz) ?_;refine Zm e ?_;refine zge 1 ?_;refine Y2 e ?_;refine drawn Yz ?_;refine Y2 e ?_;kernel_rfl
 ·have hl:0<c.parts.length:=by rw[ha (by simpa using e)];omega
  have hli:(0:Int)<(c.parts.length:Int):=by omega
  have hw:IntKind.i64.wrap 0=0:=za4 Y0 Y0;have hat:=zen hl;rw[zaa (c.parts.getD 0 (mkF 0 []))]at hat;generalize c.parts.getD 0 (mkF 0 [])=G at hat HE⊢;simp only[zaa G]at HE;generalize same G p0.form=b at HE⊢;refine zae Tryz.call122 Tryz.func122 rfl Yz (zao Yz) ?_;refine Zm e ?_;refine zge 1 ?_;refine Vq ?_;refine drawn Yz ?_;refine Vq ?_;refine zgu H0 (Z1 e hw hli hat) ?_;refine Zr e hw hli hat ?_;refine zaz HE (Z1 e hw hli hat) ?_;refine Zr e hw hli hat ?_;kernel_rfl
theorem qb0 (c:Fm)(l:Int)(t:Tm)(p0:Nt)(ha:c.op=6->c.parts.length=2):FC Tryz.prog 122 [ntD (.mk 9 c l t [p0])] [bD (c.op==6&&same (c.parts.getD 1 (mkF 0 [])) p0.form)]:=by
 have H0:=zbw (.mk 9 c l t [p0]) 0 (by show 0<1;omega)
 have HE:=zbm (c.parts.getD 1 (mkF 0 [])) p0.form
 simp only[ntD,zbe,fmD,tmD,zab t,zaa c,Nt.parts,fmS,Kk,Kl,Qc,Qi,zaa p0.form]at H0 HE  ⊢
 cases e:(c.op==6)
 ·refine zae Tryz.call122 Tryz.func122 rfl Yz (zao Yz) ?_;refine Zm e ?_;refine zge 1 ?_;refine Y2 e ?_;refine drawn Yz ?_;refine Y2 e ?_;kernel_rfl
 ·have hl:1<c.parts.length:=by rw[ha (by simpa using e)];omega
  have hli:(1:Int)<(c.parts.length:Int):=by omega
  have hw:IntKind.i64.wrap 1=1:=za4 Y0 Y0;have hat:=zen hl;rw[zaa (c.parts.getD 1 (mkF 0 []))]at hat;generalize c.parts.getD 1 (mkF 0 [])=G at hat HE⊢;simp only[zaa G]at HE;generalize same G p0.form=b at HE⊢;refine zae Tryz.call122 Tryz.func122 rfl Yz (zao Yz) ?_;refine Zm e ?_;refine zge 1 ?_;refine Vq ?_;refine drawn Yz ?_;refine Vq ?_;refine zgu H0 (Z1 e hw hli hat) ?_;refine Zr e hw hli hat ?_;refine zaz HE (Z1 e hw hli hat) ?_;refine Zr e hw hli hat ?_;kernel_rfl
end
section
open Go.RowKit
theorem zvm (c:Fm)(l:Int)(t:Tm)(p0:Nt)(p1:Nt)(p2:Nt):FC Tryz.prog 122 [ntD (.mk 10 c l t [p0,p1,p2])] [bD (p0.form.op==6&&same p1.form c&&same p2.form c)]:=by
 have H0:=zbw (.mk 10 c l t [p0,p1,p2]) 0 (by show 0<3;omega)
 have H1:=zbw (.mk 10 c l t [p0,p1,p2]) 1 (by show 1<3;omega)
 have H2:=zbw (.mk 10 c l t [p0,p1,p2]) 2 (by show 2<3;omega)
 have HE:=zbm p1.form c
 have HE2:=zbm p2.form c
 simp only[ntD,zbe,fmD,tmD,zab t,zaa c,Nt.parts,fmS,Kk,Kl,Qc,Qi,zaa p0.form,zaa p1.form,zaa p2.form]at H0 H1 H2 HE HE2  ⊢
 generalize same p1.form c=b1 at HE⊢
 generalize same p2.form c=b2 at HE2⊢
 cases e:(p0.form.op==6)
 ·refine zae Tryz.call122 Tryz.func122 rfl Yz (zao Yz) ?_;refine Zm e ?_;refine zge 1 ?_;refine Y2 e ?_;refine drawn Yz ?_;refine Y2 e ?_;refine zay H0 Ve ?_;refine Y2 e ?_;kernel_rfl
 ·cases b1
  ·refine zae Tryz.call122 Tryz.func122 rfl Yz (zao Yz) ?_;refine Zm e ?_;refine zge 1 ?_;refine Y2 e ?_;refine drawn Yz ?_;refine Y2 e ?_;refine zay H0 Ve ?_;refine Y2 e ?_;refine zgu H1 Ve ?_;refine Y2 e ?_;refine zaz HE Ve ?_;refine Y2 e ?_;kernel_rfl
  ·refine zae Tryz.call122 Tryz.func122 rfl Yz (zao Yz) ?_;refine Zm e ?_;refine zge 1 ?_;refine Y2 e ?_;refine drawn Yz ?_;refine Y2 e ?_;refine zay H0 Ve ?_;refine Y2 e ?_;refine zgu H1 Ve ?_;refine Y2 e ?_;refine zaz HE Ve ?_;refine Y2 e ?_;refine zgu H2 Ve ?_;refine Y2 e ?_;refine zaz HE2 Ve ?_;refine Y2 e ?_;kernel_rfl
theorem zxe (c:Fm)(l:Int)(t:Tm)(p0:Nt)(ha:c.op=7->c.parts.length=2):FC Tryz.prog 122 [ntD (.mk 11 c l t [p0])] [bD (c.op==7&&same (c.parts.getD 1 (mkF 0 [])) p0.form)]:=by
 have H0:=zbw (.mk 11 c l t [p0]) 0 (by show 0<1;omega)
 have HE:=zbm (c.parts.getD 1 (mkF 0 [])) p0.form
 simp only[ntD,zbe,fmD,tmD,zab t,zaa c,Nt.parts,fmS,Kk,Kl,Qc,Qi,zaa p0.form]at H0 HE  ⊢
 cases e:(c.op==7)
 ·refine zae Tryz.call122 Tryz.func122 rfl Yz (zao Yz) ?_;refine Zm e ?_;refine zge 1 ?_;refine Y2 e ?_;refine drawn Yz ?_;refine Y2 e ?_;kernel_rfl
 ·have hl:1<c.parts.length:=by rw[ha (by simpa using e)];omega
  have hli:(1:Int)<(c.parts.length:Int):=by omega
  have hat:=zen hl;rw[zaa (c.parts.getD 1 (mkF 0 []))]at hat;generalize c.parts.getD 1 (mkF 0 [])=G at hat HE⊢;simp only[zaa G]at HE;generalize same G p0.form=b at HE⊢;refine zae Tryz.call122 Tryz.func122 rfl Yz (zao Yz) ?_;refine Zm e ?_;refine zge 1 ?_;refine Vl ?_;refine drawn Yz ?_;refine Vl ?_;refine zgu H0 (Zu e hli hat) ?_;refine Zj e hli hat ?_;refine zaz HE (Zu e hli hat) ?_;refine Zj e hli hat ?_;kernel_rfl
theorem zw8 (c:Fm)(l:Int)(t:Tm)(p0:Nt)(p1:Nt):FC Tryz.prog 122 [ntD (.mk 12 c l t [p0,p1])] [bD (p0.form.op==7&&same p0.form.parts [p1.form,c])]:=by
 have H0:=zbw (.mk 12 c l t [p0,p1]) 0 (by show 0<2;omega)
 have H1:=zbw (.mk 12 c l t [p0,p1]) 1 (by show 1<2;omega)
 have HI:=qes p0.form 7 [p1.form,c]
 generalize (p0.form.op==7&&same p0.form.parts [p1.form,c])=b at HI⊢
 simp only[ntD,zbe,fmD,tmD,zab t,zaa c,Nt.parts,fmS,Kk,Kl,Qc,Qi,zaa p0.form,zaa p1.form]at H0 H1 HI  ⊢
 refine zae Tryz.call122 Tryz.func122 rfl Yz (zao Yz) ?_
 refine Zq ?_
 refine zge 1 ?_
 refine Y1 ?_
 refine drawn Yz ?_
 refine Y1 ?_
 refine zay H0 Yy ?_
 refine Y1 ?_
 refine zay H1 Yy ?_
 refine Y1 ?_
 refine qdt Yy ?_
 refine Y1 ?_
 refine zai (HI) Yy ?_
 refine Y1 ?_
 kernel_rfl
theorem zvb (c:Fm)(l:Int)(t:Tm)(p0:Nt):FC Tryz.prog 122 [ntD (.mk 13 c l t [p0])] [bD (c.op==4&&p0.form.op==2)]:=by
 have H0:=zbw (.mk 13 c l t [p0]) 0 (by show 0<1;omega)
 simp only[ntD,zbe,fmD,tmD,zab t,zaa c,Nt.parts,fmS,Kk,Kl,Qc,Qi,zaa p0.form]at H0  ⊢
 cases e:(c.op==4)
 ·refine zae Tryz.call122 Tryz.func122 rfl Yz (zao Yz) ?_;simp -implicitDefEqProofs only[go_sem,Tryz.results122,e]
 ·refine zae Tryz.call122 Tryz.func122 rfl Yz (zao Yz) ?_;refine Zm e ?_;refine qrq 1 rfl rfl ?_;refine Y2 e ?_;refine callR (H0) Ve ?_;exact Ve
theorem zvw (c:Fm)(l:Int)(t:Tm)(p0:Nt)(p1:Nt):FC Tryz.prog 122 [ntD (.mk 14 c l t [p0,p1])] [bD (p0.form.op==4&&same p0.form.parts [p1.form]&&c.op==2)]:=by
 have H0:=zbw (.mk 14 c l t [p0,p1]) 0 (by show 0<2;omega)
 have H1:=zbw (.mk 14 c l t [p0,p1]) 1 (by show 1<2;omega)
 have HI:=qes p0.form 4 [p1.form]
 generalize (p0.form.op==4&&same p0.form.parts [p1.form])=b at HI⊢
 simp only[ntD,zbe,fmD,tmD,zab t,zaa c,Nt.parts,fmS,Kk,Kl,Qc,Qi,zaa p0.form,zaa p1.form]at H0 H1 HI  ⊢
 cases b
 ·refine zae Tryz.call122 Tryz.func122 rfl Yz (zao Yz) ?_;refine Zq ?_;refine qrq 1 rfl rfl ?_;refine Y1 ?_;refine callR (H0) Yy ?_;refine Y1 ?_;refine callR (H1) Yy ?_;refine Y1 ?_;refine zno Yy ?_;refine Y1 ?_;refine callF (HI) Yy ?_;exact Yy
 ·refine zae Tryz.call122 Tryz.func122 rfl Yz (zao Yz) ?_;refine Zq ?_;refine qrq 1 rfl rfl ?_;refine Y1 ?_;refine callR (H0) Yy ?_;refine Y1 ?_;refine callR (H1) Yy ?_;refine Y1 ?_;refine zno Yy ?_;refine Y1 ?_;refine callF (HI) Yy ?_;exact Yy
end
section
open Go.RowKit
theorem zwn (c:Fm)(l:Int)(t:Tm)(p0:Nt)(b:Bool)(HN:FC Tryz.prog 146 [fmD p0.form,fmD c,iD 8,tmD t] [bD b]):FC Tryz.prog 122 [ntD (.mk 15 c l t [p0])] [bD (za9 t.name&&b)]:=by
 have H0:=zbw (.mk 15 c l t [p0]) 0 (by show 0<1;omega)
 have HV:=zdt t.name
 simp only[ntD,zbe,fmD,tmD,zab t,zaa c,Nt.parts,fmS,Kk,Kl,Qc,Qi,zaa p0.form]at H0 HV HN  ⊢
 cases e:za9 t.name
 ·rw[e]at HV;refine zae Tryz.call122 Tryz.func122 rfl Yz (zao Yz) ?_;refine Zq ?_;refine zge 1 ?_;refine Y1 ?_;refine drawn Yz ?_;refine Y1 ?_;refine zai (HV) Yy ?_;refine Y1 ?_;kernel_rfl
 ·rw[e]at HV;refine zae Tryz.call122 Tryz.func122 rfl Yz (zao Yz) ?_;refine Zq ?_;refine zge 1 ?_;refine Y1 ?_;refine drawn Yz ?_;refine Y1 ?_;refine zai (HV) Yy ?_;refine Y1 ?_;refine zgu H0 Yy ?_;refine Y1 ?_;refine zaz HN Yy ?_;refine Y1 ?_;kernel_rfl
theorem zwi (c:Fm)(l:Int)(t:Tm)(p0:Nt)(b:Bool)(HN:FC Tryz.prog 146 [fmD c,fmD p0.form,iD 8,tmD t] [bD b]):FC Tryz.prog 122 [ntD (.mk 16 c l t [p0])] [bD (b)]:=by
 have H0:=zbw (.mk 16 c l t [p0]) 0 (by show 0<1;omega)
 simp only[ntD,zbe,fmD,tmD,zab t,zaa c,Nt.parts,fmS,Kk,Kl,Qc,Qi,zaa p0.form]at H0 HN  ⊢
 refine zae Tryz.call122 Tryz.func122 rfl Yz (zao Yz) ?_
 refine Zq ?_
 refine zge 1 ?_
 refine Y1 ?_
 refine drawn Yz ?_
 refine Y1 ?_
 refine zay H0 Yy ?_
 refine Y1 ?_
 refine zai (HN) Yy ?_
 refine Y1 ?_
 kernel_rfl
theorem zwh (c:Fm)(l:Int)(t:Tm)(p0:Nt)(b:Bool)(HN:FC Tryz.prog 146 [fmD p0.form,fmD c,iD 9,tmD t] [bD b]):FC Tryz.prog 122 [ntD (.mk 17 c l t [p0])] [bD (b)]:=by
 have H0:=zbw (.mk 17 c l t [p0]) 0 (by show 0<1;omega)
 simp only[ntD,zbe,fmD,tmD,zab t,zaa c,Nt.parts,fmS,Kk,Kl,Qc,Qi,zaa p0.form]at H0 HN  ⊢
 refine zae Tryz.call122 Tryz.func122 rfl Yz (zao Yz) ?_
 refine Zq ?_
 refine zge 1 ?_
 refine Y1 ?_
 refine drawn Yz ?_
 refine Y1 ?_
 refine zay H0 Yy ?_
 refine Y1 ?_
 refine zai (HN) Yy ?_
 refine Y1 ?_
 kernel_rfl
end
section
open Go.RowKit
theorem zu8 (c:Fm)(l:Int)(t:Tm)(p0:Nt)(p1:Nt)(ha:p0.form.op=9->0<p0.form.parts.length)(S1:Fm)(S2:Bool)(HU0:p0.form.op=9->FC Tryz.prog 147 [fmD (p0.form.parts.getD 0 (mkF 0 [])),sD p0.form.var,tmD t] [fmD S1,bD S2]):FC Tryz.prog 122 [ntD (.mk 18 c l t [p0,p1])] [bD (p0.form.op==9&&za9 t.name&&(S2&&same p1.form c))]:=by
 have H0:=zbw (.mk 18 c l t [p0,p1]) 0 (by show 0<2;omega)
 have H1:=zbw (.mk 18 c l t [p0,p1]) 1 (by show 1<2;omega)
 have HE:=zbm p1.form c
 have HV:=zdt t.name
 simp only[ntD,zbe,fmD,tmD,zab t,zaa c,Nt.parts,fmS,Kk,Kl,Qc,Qi,zaa p0.form,zaa p1.form]at H0 H1 HE HV  ⊢
 generalize same p1.form c=b1 at HE⊢
 cases e:(p0.form.op==9)
 ·have e2:(p0.form.op != 9)=true:=by simpa using e
  refine zae Tryz.call122 Tryz.func122 rfl Yz (zao Yz) ?_;refine Zq ?_;refine qrq 1 rfl rfl ?_;refine Y1 ?_;refine callR (H0) (Y3 e2) ?_;exact Y3 e2
 ·have e2:(p0.form.op != 9)=false:=by simpa using e
  have hl:=ha (by simpa using e);have HU:=HU0 (by simpa using e);simp only[fmD,tmD,zab t,zaa S1]at HU;have hli:(0:Int)<(p0.form.parts.length:Int):=by omega
  have hat:=zen hl;rw[zaa (p0.form.parts.getD 0 (mkF 0 []))]at hat;generalize p0.form.parts.getD 0 (mkF 0 [])=G at hat HU⊢;simp only[zaa G]at HU;cases ev:za9 t.name
  ·rw[ev]at HV;refine zae Tryz.call122 Tryz.func122 rfl Yz (zao Yz) ?_;refine Zq ?_;refine qrq 1 rfl rfl ?_;refine Y1 ?_;refine callR (H0) (Y3 e2) ?_;refine Y2 e2 ?_;refine callF (HV) (Zz e2) ?_;exact Zz e2
  ·rw[ev]at HV;refine zae Tryz.call122 Tryz.func122 rfl Yz (zao Yz) ?_;refine Zq ?_;refine qrq 1 rfl rfl ?_;refine Y1 ?_;refine callR (H0) (Y3 e2) ?_;refine Y2 e2 ?_;refine callF (HV) (Zv e2) ?_;refine Zw e2 ?_;refine drawn Yz ?_;refine Y1 ?_;refine zay H0 (Z8 hli hat) ?_;simp -implicitDefEqProofs only[go_sem,hli,hat,Qa];cases S2
   ·refine zay H0 (Y9 hli hat) ?_;refine Ze hli hat ?_;refine zai (HU) (Y9 hli hat) ?_;refine Ze hli hat ?_;refine⟨Yz,?_⟩;refine drawn Yz ?_;refine Y1 ?_;kernel_rfl
   ·refine zay H0 (Y9 hli hat) ?_;refine Ze hli hat ?_;refine zai (HU) (Y9 hli hat) ?_;refine Ze hli hat ?_;refine⟨Yz,?_⟩;refine drawn Yz ?_;refine Y1 ?_;refine zgu H1 (Y9 hli hat) ?_;refine Ze hli hat ?_;refine zaz HE Yy ?_;refine Y1 ?_;kernel_rfl
end
section
open Go.RowKit
theorem notR_c (a:Fm):RC Tryz.prog 150 [fmD a] [fmD (mkF 4 [a])]:=by
 have hm:fmC (mkF 4 [a])=[.int .i64 4,.str [],.sl 2 [],.str [],.sl 5 [fmC a]]:=zaa _
 simp only[fmD,hm,zaa a]
 refine zcb Tryz.call150 Tryz.func150 rfl Yz (zao Yz) ?_
 simp -implicitDefEqProofs only[go_sem,Tryz.results150]
 refine zde Yy ?_
 exact Yy
theorem ztm (c:Fm)(l:Int)(t:Tm)(p0:Nt)(i:Int):RC Tryz.prog 124 [ntD (.mk 4 c l t [p0]),iD i] [fmD (mkF 4 [c])]:=by
 have HN:=notR_c c
 have hm:fmC (mkF 4 [c])=[.int .i64 4,.str [],.sl 2 [],.str [],.sl 5 [fmC c]]:=zaa _
 simp only[ntD,zbe,fmD,hm,zaa c,Qc,Qi]at HN⊢
 refine zcb Tryz.call124 Tryz.func124 rfl Yz (zao Yz) ?_
 refine Xw ?_
 refine Y2 (zac p0) ?_
 refine callR (HN) Yy ?_
 exact Yy
theorem zqz (c:Fm)(l:Int)(t:Tm)(p0 p1 p2:Nt)(j:Nat)(hj:j<2)(ha:p0.form.parts.length=2):RC Tryz.prog 124 [ntD (.mk 10 c l t [p0,p1,p2]),iD (j+1)] [fmD (p0.form.parts.getD j (mkF 0 []))]:=by
 have hl:j<p0.form.parts.length:=by omega
 have hli:(j:Int)<(p0.form.parts.length:Int):=by omega
 have hw:IntKind.i64.wrap (((j:Int)+1)-1)=j:=by rw[za4 Y0 Y0];omega
 have hat:=zen hl
 rw[zaa (p0.form.parts.getD j (mkF 0 []))]at hat
 generalize p0.form.parts.getD j (mkF 0 [])=G at hat⊢
 simp only[ntD,zbe,fmD,zaa c,zaa G,Qc,Qi]
 refine zcb Tryz.call124 Tryz.func124 rfl Yz (zao Yz) ?_
 refine Xw ?_
 exact Wb
theorem zjb (c:Fm)(l:Int)(t:Tm)(p0:Nt)(i:Int)(r:Int)(hr:r=11\/r=13)(ha:0<c.parts.length):RC Tryz.prog 124 [ntD (.mk r c l t [p0]),iD i] [fmD (c.parts.getD 0 (mkF 0 []))]:=by
 have hli:(0:Int)<(c.parts.length:Int):=by omega
 have hat:=zen ha
 rw[zaa (c.parts.getD 0 (mkF 0 []))]at hat
 generalize c.parts.getD 0 (mkF 0 [])=G at hat⊢
 simp only[ntD,zbe,fmD,zaa c,zaa G,Qc,Qi]
 rcases hr with rfl|rfl
 ·refine zcb Tryz.call124 Tryz.func124 rfl Yz (zao Yz) ?_;refine Xw ?_;simp -implicitDefEqProofs only[go_sem,zac p0,hli,hat,Qa]
 ·refine zcb Tryz.call124 Tryz.func124 rfl Yz (zao Yz) ?_;refine Xw ?_;simp -implicitDefEqProofs only[go_sem,zac p0,hli,hat,Qa]
theorem zp5 (c:Fm)(l:Int)(t:Tm)(p0 p1:Nt)(i:Int)(ha:0<p0.form.parts.length)(S1:Fm)(S2:Bool)(HU:FC Tryz.prog 147 [fmD (p0.form.parts.getD 0 (mkF 0 [])),sD p0.form.var,tmD t] [fmD S1,bD S2]):RC Tryz.prog 124 [ntD (.mk 18 c l t [p0,p1]),iD i] [fmD S1]:=by
 have hli:(0:Int)<(p0.form.parts.length:Int):=by omega
 have hat:=zen ha
 rw[zaa (p0.form.parts.getD 0 (mkF 0 []))]at hat
 generalize p0.form.parts.getD 0 (mkF 0 [])=G at hat HU⊢
 simp only[ntD,zbe,tmD,zab t,fmD,zaa c,zaa G,zaa S1,Qc,Qi]at HU⊢
 refine zcb Tryz.call124 Tryz.func124 rfl Yz (zao Yz) ?_
 refine Xw ?_
 simp -implicitDefEqProofs only[go_sem,zac p0,hli,hat,Qa]
 refine drawn Yz ?_
 simp -implicitDefEqProofs only[go_sem,hli,hat,Qa]
 refine zai (HU) (Y9 hli hat) ?_
 refine Ze hli hat ?_
 kernel_rfl
end
section
open Go.RowKit
theorem zo8 (name:Str)(fs:List Fm)(hf:∀f∈fs,okF f):RC Tryz.prog 151 [sD name,.one (fmS fs)] [bD (!fs.any (frN name))]:=by
 have H:=za6 fs (frN name) 179 [.ptr [.str name]] λf hm=>qa6 name f (hf f hm)
 refine zcb Tryz.call151 Tryz.func151 rfl Yz (zao Yz) ?_
 simp -implicitDefEqProofs only[go_sem,Tryz.results151]
 refine callF (H) Yy ?_
 exact Yy
theorem zqx {α:Type}{xs ys:List α}(h:xs.Perm ys)(p:α->Bool):xs.any p=ys.any p:=by
 rw[Kp,List.any_eq_true,List.any_eq_true]
 exact⟨λ⟨x,h1,h2⟩=>⟨x,h.mem_iff.1 h1,h2⟩,λ⟨x,h1,h2⟩=>⟨x,h.mem_iff.2 h1,h2⟩⟩
theorem qnl (c:Fm)(l:Int)(t:Tm)(p0:Nt)(ags:List An)(hl:ags.length<=1048576)(hc:okF c)(ha:∀a∈ags,okF a.form):FC Tryz.prog 125 [ntD (.mk 15 c l t [p0]),.one (anM ags)] [bD (!(ags.any (λa=>frN t.name a.form)||frN t.name c))]:=by
 simp only[ntD,zbe,Qc,Qi]
 refine zae Tryz.call125 Tryz.func125 rfl Yz (zao Yz) ?_
 simp -implicitDefEqProofs only[go_sem,Tryz.results125]
 refine qq8 [0,1,2,3,5,6,7] 4 [8,9,10] Yz Yz Yz ?_
 simp -implicitDefEqProofs only[go_sem,Qc,Qi,Ql,Qh]
 refine qhd Yy ?_
 refine Y1 ?_
 refine qjt (zpk ags hl) Yy Yy Yz ?_
 rintro rows ⟨fs,rfl,hp⟩
 refine Y1 ?_
 have hlf:fs.length<=4294967295:=by have:=hp.length_eq;rw[Qa]at this;omega
 have hm:∀f∈fs,okF f:=λf hf=>by
  obtain⟨a,h1,rfl⟩:=Ka.1 (hp.mem_iff.1 hf);exact ha a h1
 have H:=zo8 t.name (fs++[c]) λf hf=>by
  rcases Qw.1 hf with h|h
  ·exact hm f h
  ·rw[Q4.1 h];exact hc
 have hb:(!(fs++[c]).any (frN t.name))=(!(ags.any (λa=>frN t.name a.form)||frN t.name c)):=by
  rw[List.any_append,zqx hp,List.any_map,List.any_cons,List.any_nil,Bool.or_false];rfl
 rw[hb]at H
 simp only[fmS,Q1,Qc,Qi,zaa c]at H
 refine kApD false (Xq hlf) ?_
 refine Y1 ?_
 refine qhf 416 H Yy ?_
 refine Y1 ?_
 kernel_rfl
theorem qmf (c:Fm)(l:Int)(t:Tm)(p0 p1:Nt)(ags:List An)(hl:ags.length<=1048576)(hc:okF c)(h0:okF p0.form)(ha:∀a∈ags,okF a.form):FC Tryz.prog 125 [ntD (.mk 18 c l t [p0,p1]),.one (anM ags)] [bD (!(ags.any (λa=>frN t.name a.form)||(frN t.name c||frN t.name p0.form)))]:=by
 simp only[ntD,zbe,Qc,Qi]
 refine zae Tryz.call125 Tryz.func125 rfl Yz (zao Yz) ?_
 simp -implicitDefEqProofs only[go_sem,Tryz.results125]
 refine qq8 [0,1,2,3,5,6,7,8,9,10,11,12] 4 [13,14,15] Yz Yz Yz ?_
 simp -implicitDefEqProofs only[go_sem,Qc,Qi,Ql,Qh,zac p0]
 refine qhd Yy ?_
 refine Y1 ?_
 refine qjt (zpk ags hl) Yy Yy Yz ?_
 rintro rows ⟨fs,rfl,hp⟩
 refine Y1 ?_
 have hlf:fs.length<=4294967294:=by have:=hp.length_eq;rw[Qa]at this;omega
 have hm:∀f∈fs,okF f:=λf hf=>by
  obtain⟨a,h1,rfl⟩:=Ka.1 (hp.mem_iff.1 hf);exact ha a h1
 have H:=zo8 t.name (fs++[c,p0.form]) λf hf=>by
  rcases Qw.1 hf with h|h
  ·exact hm f h
  ·simp only[Qu,K2,or_false]at h;rcases h with rfl|rfl
   ·exact hc
   ·exact h0
 have hb:(!(fs++[c,p0.form]).any (frN t.name))=(!(ags.any (λa=>frN t.name a.form)||(frN t.name c||frN t.name p0.form))):=by
  rw[List.any_append,zqx hp,List.any_map,List.any_cons,List.any_cons,List.any_nil,Bool.or_false];rfl
 rw[hb]at H
 simp only[fmS,Q1,Qc,Qi,zaa c,zaa p0.form]at H
 refine kApD false (Xq hlf) ?_
 refine Y1 ?_
 refine qhf 800 H Yy ?_
 refine Y1 ?_
 kernel_rfl
theorem qmu (p:Nt)(ags:List An)(h1:p.rule≠15)(h2:p.rule≠18):FC Tryz.prog 125 [ntD p,.one (anM ags)] [bD true]:=by
 have e1:(p.rule==15)=false:=by simpa using h1
 have e2:(p.rule==18)=false:=by simpa using h2
 simp only[ntD,zac p]
 refine zae Tryz.call125 Tryz.func125 rfl Yz (zao Yz) ?_
 simp -implicitDefEqProofs only[go_sem,Tryz.results125,e1,e2]
end
section
open Go.RowKit
variable {P:Program}
def RV1 (σ:St):V->D->Prop
 | .one (.cv (.map none)),.one .nmp=>True
 | .one c,.one t=>CT0 σ c t
 | .agg cs,.agg ts=>zr0 σ cs ts
 | _,_=>False
def RVm (σ:St):List V->List D->Prop
 | [],[]=>True
 | v::vs,d::ds=>RV1 σ v d/\RVm σ vs ds
 | _,_=>False
theorem RV1.rep {n0:Nat->Prop}{N:Nat}{σ:St}{g:Gh}{a:Act}{w:World}(hR:Rel n0 N σ g a w){v:V}{d:D}{u:Value}(h:RV1 σ v d)(hv:VR σ g w v u):zsb w (λb=>b<w.heap.size/\g.A0 b) d u:=by
 unfold RV1 at h
 split at h
 ·have hv:u=.map none:=hv;subst hv;show zau _ _ _ _
  unfold zau;rfl
 ·exact que hR h hv
 ·obtain⟨q,rfl,k1⟩:=hv;exact⟨q,rfl,qhq hR h k1⟩
 ·exact h.elim
theorem RVm.rep {n0:Nat->Prop}{N:Nat}{σ:St}{g:Gh}{a:Act}{w:World}(hR:Rel n0 N σ g a w):∀{vs:List V}{ds:List D},RVm σ vs ds->∀{us:List Value},VRl σ g w vs us->zbn w (λb=>b<w.heap.size/\g.A0 b) ds us
 | [],[],_,us,hv=>hv
 | v::vs,d::ds,h,us,hv=>by
  obtain⟨u,us',rfl,k1,k2⟩:=hv;exact⟨u,us',rfl,h.1.rep hR k1,RVm.rep hR h.2 k2⟩
 | [],_::_,h,_,_=>h.elim
 | _::_,[],h,_,_=>h.elim
def PRM (P:Program)(rs:List ResultVar)(K:List D->Prop)(e:Exit)(σ:St):Prop:=(e=.normal\/e=.ret)/\∃res,K res/\zav (zb5 P σ rs) λvs=>RVm σ vs res
theorem zow {f:FuncId}{fn:Func}{c:Code}{args:List D}{K:List D->Prop}(hc:zbl P f)(hf:P.funcs[f]?=some fn)(hb:fn.body=some c)(hN:(rd args).length<=fn.ntmps)
  (h:zci P fn.ntmps c (zd5 (rd args)) (PRM P fn.results.toList K)):RX P f args K:=by
 refine⟨hc,λw vs A hv=>qga hf hb hN h hv λe σ' g' a' w' hq h2 h3 h4=>?_⟩
 obtain⟨he,res,hk,hr⟩:=hq
 obtain⟨us0,hvs,hr⟩:=zap hr
 obtain⟨us,r1,r2⟩:=zcg h2 fn hvs
 exact⟨he,_,r1,res,us,hk,rfl,(RVm.rep h2 hr r2).keep (λ_ _=>rfl) λb hb=>⟨hb.1,h4 b hb.2⟩,h3⟩
theorem qul (σ:St):RVm σ [] []=True:=rfl
theorem ql4 (σ:St)(v:V)(vs:List V)(d:D)(ds:List D):RVm σ (v::vs) (d::ds)=(RV1 σ v d/\RVm σ vs ds):=rfl
theorem RV1_nm (σ:St):RV1 σ (.one (.cv (.map none))) (.one .nmp)=True:=rfl
theorem RV1_t (σ:St)(x:T)(t:T):RV1 σ (.one (.t x)) (.one t)=CT0 σ (.t x) t:=by cases t<;>rfl
theorem RV1_rn (σ:St)(x:T)(t:T):RV1 σ (.one (.rn x)) (.one t)=CT0 σ (.rn x) t:=by cases t<;>rfl
theorem RV1_ow (σ:St)(e n:Nat)(t:T):RV1 σ (.one (.ow e n)) (.one t)=CT0 σ (.ow e n) t:=by cases t<;>rfl
theorem RV1_nl (σ:St)(z:Nat)(t:T):RV1 σ (.one (.nl z)) (.one t)=CT0 σ (.nl z) t:=by cases t<;>rfl
attribute [go_sem] PRM qul ql4 RV1_nm RV1_t RV1_rn RV1_ow RV1_nl
end
section
open Go.RowKit
def zfv (ags:List An)(k:Int):Option Fm:=(ags.find? λa=>a.label==k).map An.form
def aNd (ags:List An):Prop:=(ags.map An.label).Nodup
theorem zj0 (k:Int):∀ags:List An,zb8 (.int .i64 k) (ags.map anC)=some ((zfv ags k).map fmC)
 | []=>rfl
 | p::ps=>by
  have ih:=zj0 k ps;show zb8 (.int .i64 k) ((.int .i64 p.label::[.int .i64 p.form.op,.str p.form.atom.name,.sl 2 (p.form.atom.args.map tmC),.str p.form.var,.sl 5 (p.form.parts.map fmC)])::ps.map anC)=_
  unfold zb8;rw[show zsg (.int .i64 k) (.int .i64 p.label)=some (decide (k=p.label)) from rfl];unfold zfv at ih⊢;rw[List.find?_cons];by_cases h:k=p.label
  ·subst h;simp[zaa p.form]
  ·have h2:(p.label==k)=false:=by simpa using λe=>h e.symm
   rw[decide_eq_false h,h2];exact ih
theorem qpm {ags:List An}{k:Int}{f:Fm}(h:zfv ags k=some f):∃a∈ags,a.label=k/\a.form=f:=by
 unfold zfv at h
 cases hf:ags.find? λa=>a.label==k with
 | none=>rw[hf]at h;cases h
 | some a =>
  rw[hf]at h;exact⟨a,List.mem_of_find?_eq_some hf,by simpa using List.find?_some hf,by simpa using h⟩
theorem zhn {ags:List An}{k:Int}:zfv ags k=none↔∀a∈ags,a.label≠k:=by
 unfold zfv
 rw[Option.map_eq_none_iff,List.find?_eq_none]
 simp
theorem qd5 {ags:List An}(hn:aNd ags){a:An}(h:a∈ags):zfv ags a.label=some a.form:=by
 induction ags with
 | nil=>cases h
 | cons b ags ih =>
  unfold aNd at hn;rw[Qc,Kx]at hn;unfold zfv;rw[List.find?_cons];rcases Qu.1 h with rfl|h
  ·simp
  ·have hne:(b.label==a.label)=false:=by
    rw[Jd];exact λe=>hn.1 (e▸Jz h)
   rw[hne];exact ih hn.2 h
theorem zfj {x y:List An}(h:x.Perm y)(hn:aNd x):aNd y:=(h.map An.label).nodup_iff.1 hn
theorem zhc {x y:List An}(h:x.Perm y)(hn:aNd x)(k:Int):zfv x k=zfv y k:=by
 cases hx:zfv x k with
 | none =>
  rw[zhn]at hx;exact(zhn.2 λa ha=>hx a (h.mem_iff.2 ha)).symm
 | some f =>
  obtain⟨a,h1,rfl,rfl⟩:=qpm hx;exact(qd5 (zfj h hn) (h.mem_iff.1 h1)).symm
theorem zjz {x:List An}(hn:aNd x)(p:An->Bool):aNd (x.filter p):=hn.sublist (List.Sublist.map _ (List.filter_sublist ..))
def lft (own:List An)(l:Int)(d:Bool):List An:=own.filter λa=>!(a.label==l&&d)
noncomputable def zve (own:List An)(l:Int)(d:Bool)(f:Fm):Bool:=own.all λa=>!(a.label==l&&d)||same a.form f
noncomputable def zr2 (out left:List An):Bool:=left.all λa=>match zfv out a.label with|some f=>same f a.form|none=>true
def mrg (out left:List An):List An:=out++left.filter λa=>(zfv out a.label).isNone
theorem qlq (x y:List An)(k:Int):zfv (x++y) k=(zfv x k).or (zfv y k):=by
 unfold zfv
 rw[List.find?_append]
 cases x.find? λa=>a.label==k<;>rfl
theorem qnt {out acc:List An}{a:An}(h:∀b∈acc,b.label≠a.label):zfv (mrg out acc) a.label=zfv out a.label:=by
 unfold mrg
 rw[qlq,show zfv (acc.filter λa=>(zfv out a.label).isNone) a.label=none from zhn.2 λb hb=>h b (Jq.1 hb).1]
 cases zfv out a.label<;>rfl
theorem qpz {out acc:List An}{a:An}(h:zfv out a.label=none):mrg out (acc++[a])=mrg out acc++[a]:=by
 unfold mrg
 rw[List.filter_append,Jo,h]
 simp
theorem qo8 {out acc:List An}{a:An}{f:Fm}(h:zfv out a.label=some f):mrg out (acc++[a])=mrg out acc:=by
 unfold mrg
 rw[List.filter_append,Jo,h]
 simp
theorem zj6 {α:Type}{x y:List α}(h:x.Perm y){p q:α->Bool}(hpq:∀a∈y,p a=q a):(x.filter p).Perm (y.filter q):=by
 rw[<-List.filter_congr hpq]
 exact h.filter p
theorem zz7 {out out' left left':List An}(h1:out'.Perm out)(hn:aNd out')(h2:left'.Perm left):(mrg out' left').Perm (mrg out left):=by
 unfold mrg
 exact h1.append (zj6 h2 λa _=>by rw[zhc h1 hn])
theorem qqu {out left:List An}(h1:aNd out)(h2:aNd left):aNd (mrg out left):=by
 unfold mrg aNd
 rw[Q1,Kg]
 refine⟨h1,zjz h2 _,λk hk j hj e=>?_⟩
 subst e
 obtain⟨a,ha,rfl⟩:=Ka.1 hk
 obtain⟨b,hb,he⟩:=Ka.1 hj
 have:=(Jq.1 hb).2
 rw[he,qd5 h1 ha]at this
 cases this
theorem qr5 {out out' left left':List An}(h1:out'.Perm out)(hn:aNd out')(h2:left'.Perm left){a:An}(ha:a∈left'){f:Fm}(hf:zfv out' a.label=some f)(hs:same f a.form=false):zr2 out left=false:=by
 unfold zr2
 rw[J5]
 refine⟨a,h2.mem_iff.1 ha,?_⟩
 rw[<-zhc h1 hn,hf]
 simp[hs]
theorem qo2 {out out' left left':List An}(h1:out'.Perm out)(hn:aNd out')(h2:left'.Perm left)(h:∀a∈left',∀f,zfv out' a.label=some f->same f a.form=true):zr2 out left=true:=by
 unfold zr2
 rw[Qq]
 intro a ha
 rw[<-zhc h1 hn]
 cases hf:zfv out' a.label with
 | none=>rfl
 | some f=>exact h a (h2.mem_iff.2 ha) f hf
noncomputable def opM (l:Int)(d:Nat->Bool)(dis:Nat->Fm):Nat->List An->List (List An)->Option (List An)
 | _,out,[]=>some out
 | i,out,own::Ls=>if(zve own l (d i) (dis i)&&zr2 out (lft own l (d i)))=true then opM l d dis (i+1) (mrg out (lft own l (d i))) Ls else none
end
section
open Go.RowKit
variable {P:Program}{N:Nat}
def jnW (τ:St)(Q:Exit->St->Prop)(e:Exit)(σ:St):Prop:=match e with|.normal=>Wk σ τ|e=>Q e σ
theorem qcb (τ:St)(Q:Exit->St->Prop)(σ:St):jnW τ Q .normal σ=Wk σ τ:=rfl
theorem qve (τ:St)(Q:Exit->St->Prop)(σ:St):jnW τ Q .ret σ=Q .ret σ:=rfl
theorem zci.join {c rest:Code}{σ:St}{Q:Exit->St->Prop}(τ:St)(hd:zdf N c=true)(h:ex P c [] (jnW τ Q) σ)(k:zci P N rest τ Q):zci P N (.seq c rest) σ Q:=by
 refine zci.seq (zci.mono (λe σ' q=>?_) (zci.ofEx hd h))
 cases e with
 | normal=>exact zci.wkS q k
 | exit i=>exact q
 | goto l=>exact q
 | ret=>exact q
 | panic ch=>exact q
 | outgrown=>exact q
theorem zbt.join {c rest:Code}{σ:St}{H:Hid}{Q:Exit->St->Hid->Prop}(τ:St)(hd:zdf N c=true)(h:ex P c [] (jnW τ (λe σ=>Q e σ H)) σ)(k:zbt P N rest τ H Q):zbt P N (.seq c rest) σ H Q:=by
 refine zbt.seq (zbt.mono (Q:=λe σ' r=>r=H/\jnW τ (λe σ=>Q e σ H) e σ') (λe σ' r q=>?_) (zbt.ofEx hd (zd1 (λe σ' k=>⟨rfl,k⟩) h)))
 obtain⟨rfl,q⟩:=q
 cases e with
 | normal=>exact zbt.wkS q k
 | exit i=>exact q
 | goto l=>exact q
 | ret=>exact q
 | panic ch=>exact q
 | outgrown=>exact q
attribute [go_sem] qcb qve
end
section
open Go.RowKit
section
variable {P:Program}{N:Nat}{ops:Array Oper}{i:Nat}{σ:St}{H:Hid}{K:St->Hid->Prop}{ty:TypeId}{ps:String}{af:Array Edge}{mt:TypeId}{x k:Operand}
theorem zbx.lookN {d:Nat}(j:Nat)(y:V){b:Nat}{ag:Bool}{rows:List (List T)}{kT:T}(dd:TypeDesc)(et:TypeId)(hl:ops[i]?=some ⟨some d,.lookup mt x k true,ty,ps,af,none⟩)(hd:d<N)(h1:H[j]?=some (b,.mp ag rows))(h2:σ.get P 0 x=.one (.cv (.map (some b))))(h3:σ.get P 0 k=.one (.t kT))
  (h4:qc8 P mt=some (dd,et)) (h5:zr4 dd kT=true) (h6:zb8 kT rows=some none) (hz:qql P et=some y) (kk:zbx P N ops (i+1) (σ.put (some d) y) H K):zbx P N ops i σ H K:=by
 refine zbx.look j hl hd ?_
 unfold lkH
 rw[h1,h2,h3,h4]
 refine⟨rfl,h5,?_⟩
 rw[h6]
 show zav (qql P et) _
 rw[hz]
 exact kk
end
abbrev lsS (Ls:List (List An)):T:=.sl 1 (Ls.map λags=>[anM ags])
def ntR (a:Nt):List C:=[.t (.int .i64 a.rule),.t (.int .i64 a.form.op),.t (.str a.form.atom.name),.rn (tmS a.form.atom.args),.t (.str a.form.var),.rn (fmS a.form.parts),.t (.int .i64 a.label),.t (.str a.term.name),.rn (tmS a.term.args),.rn (ntS a.parts)]
def fmR (a:Fm):List C:=[.t (.int .i64 a.op),.t (.str a.atom.name),.rn (tmS a.atom.args),.t (.str a.var),.rn (fmS a.parts)]
attribute [go_sem] ntR fmR
def zff (p:Nt)(Ls:List (List An)):Nat->List An
 | 0=>[]
 | i+1=>lft (Ls.getD i []) p.label (za2 p.rule i)
noncomputable def opN (p:Nt)(Ls:List (List An))(dis:Nat->Fm)(i:Nat)(out:List An):Option (List An):=opM p.label (λi=>za2 p.rule i) dis i out (Ls.drop i)
def opK (p:Nt)(Ls:List (List An))(dis:Nat->Fm)(nw:Bool)(res:List D):Prop:=(opN p Ls dis 0 []=none/\res=[.one .nmp,bD false])\/∃out ags,opN p Ls dis 0 []=some out/\aNd out/\ags.Perm out/\res=[.one (anM ags),bD nw]
theorem ql2 {p:Nt}{Ls:List (List An)}{dis:Nat->Fm}{i:Nat}{out:List An}(h:i<Ls.length):opN p Ls dis i out=if(zve Ls[i] p.label (za2 p.rule i) (dis i)&&zr2 out (lft Ls[i] p.label (za2 p.rule i)))=true then opN p Ls dis (i+1) (mrg out (lft Ls[i] p.label (za2 p.rule i)))else none:=by
 unfold opN
 rw[Qm h,opM]
theorem zww {p:Nt}{Ls:List (List An)}{i:Nat}(h:i<Ls.length):zff p Ls (i+1)=lft Ls[i] p.label (za2 p.rule i):=by
 show lft (Ls.getD i []) p.label (za2 p.rule i)=_
 rw[List.getD_eq_getElem?_getD,List.getElem?_eq_getElem h];rfl
theorem qt0 (p:Nt)(Ls:List (List An))(s1:zbd p.rule=p.parts.length)(s2:p.form.good=true)(s3:zer p.rule=inB p.label 1 20)(s4:zer p.rule=false->p.label=0)(hw:Fit p)
  (s5:(if inB p.rule 15 18=true then p.term.good else p.term.none)=true) (HSh:FC Tryz.prog 122 [ntD p] [bD true]) (h1:(p.rule==1)=false)
  (dis:Nat->Fm) (HD:∀i:Nat,i<Ls.length->za2 p.rule i=true->RC Tryz.prog 124 [ntD p,iD i] [fmD (dis i)]) (hnd:∀own∈Ls,aNd own) (hLl:Ls.length<=1048576)
  (nw:Bool) (HN:∀left',left'.Perm (zff p Ls Ls.length)->FC Tryz.prog 125 [ntD p,.one (anM left')] [bD nw]):RX Tryz.prog 94 [ntD p,.one (lsS Ls)] (opK p Ls dis nw):=by
 have hfw:p.form.wt<=1048576:=by have:=hw.own;omega
 have htw:p.term.wt<=1048576:=by have:=hw.own;omega
 have HP:=zfo p.rule
 have HV:=zcc p.form Y0
 have HL:=zkd p.rule
 have HW:=zfg p.label 1 20
 have HT:=zmk p.rule
 have HVT:=zd4 p.term Y0
 have HZ:=zb2 p.term
 rw[s1]at HP
 rw[s2]at HV
 rw[<-s3]at HW
 have e1:(((p.parts.length:Nat):Int) != ((p.parts.length:Nat):Int))=false:=by simp
 have btt:(true != true)=false:=rfl
 have bff:(false != false)=false:=rfl
 simp only[ntD,fmD,tmD,zac p,zaa p.form,zab p.term]at HV HVT HZ HSh⊢
 refine zow Tryz.call94 Tryz.func94 rfl (zao Yz) ?_
 refine zci.cut 0 rfl Yz ?_
 simp -implicitDefEqProofs only[go_sem,Tryz.results94]
 refine zci.join (hd [(1,.one (.rn (lsS Ls))),(2,.one (.bx 2 0))] [(2,ntR p)] []) Yz ?_ ?_
 ·refine Y1 ?_;refine drawn Yz ?_;cases hlab:zer p.rule
  ·have e2:(p.label != 0)=false:=by simpa using s4 hlab
   rw[hlab]at HL HW;refine Y1 ?_;refine zai (HP) Vg ?_;refine Y2 e1 ?_;refine zaz (HV) (Zv e1) ?_;refine Zw e1 ?_;refine zaz (HL) Zd ?_;refine Y7 ?_;refine zaz (HW) (Xd bff) ?_;refine Xe bff ?_;refine zaz (HL) (Zz e2) ?_;refine Z9 e2 ?_;refine⟨Yz,zad ?_⟩;exact Yy
  ·rw[hlab]at HL HW;refine Y1 ?_;refine zai (HP) Vg ?_;refine Y2 e1 ?_;refine zaz (HV) (Zv e1) ?_;refine Zw e1 ?_;refine zaz (HL) Zd ?_;refine Y7 ?_;refine zaz (HW) (Xd btt) ?_;refine Xe btt ?_;refine zaz (HL) Zd ?_;refine Y7 ?_;refine⟨Yz,zad ?_⟩;exact Yy
 refine zci.join (hd [(1,.one (.rn (lsS Ls))),(2,.one (.bx 2 0))] [(2,ntR p)] []) Yz ?_ ?_
 ·cases hte:inB p.rule 15 18
  ·rw[hte]at HT;rw[hte,if_neg (by simp)]at s5;rw[s5]at HZ;refine Y1 ?_;refine callF (HT) Za ?_;refine Zb ?_;refine callF (HT) Za ?_;refine Zb ?_;refine callF (HZ) Za ?_;refine Zb ?_;refine callF (HSh) Za ?_;refine Zb ?_;refine zad ?_;exact Yy
  ·rw[hte]at HT;rw[hte,if_pos rfl]at s5;rw[s5]at HVT;refine Y1 ?_;refine callF (HT) Za ?_;refine Zb ?_;refine callF (HVT) Za ?_;refine Zb ?_;refine callF (HT) Za ?_;refine Zb ?_;refine callF (HSh) Za ?_;refine Zb ?_;refine zad ?_;exact Yy
 refine zci.join (hd [(1,.one (.rn (lsS Ls))),(2,.one (.bx 2 0))] [(2,ntR p)] []) Yz ?_ ?_
 ·refine Y2 h1 ?_;refine zad ?_;exact Yy
 refine zci.hide ?_
 refine zbt.seq (zbt.region (zbx.make true rfl (by simp only[Tryz.ntmps94];omega) λbo _=>?_))
 refine zbx.plain 1 (by decide) rfl Yz ?_
 refine Y1 ?_
 refine zbx.done rfl ?_
 refine Y1 ?_
 refine zbt.seq (zbt.region (zbx.make true rfl (by simp only[Tryz.ntmps94];omega) λbl0 hbl0=>?_))
 refine zbx.plain 1 (by decide) rfl Yz ?_
 refine Y1 ?_
 refine zbx.done rfl ?_
 refine Y1 ?_
 refine zbt.seq ?_
 refine zbt.cut 0 rfl Yz ?_
 simp -implicitDefEqProofs only[go_sem,Qa]
 refine zbt.block ?_
 refine zbt.loop (λx:Nat×List An×List An×Nat=>hd [(2,.one (.bx 2 0)),(6,.one (.cv (.map (some bo)))),(7,.one (.cv (.map (some x.2.2.2)))),(86,.one (.rn (lsS Ls))),(87,vI Ls.length),(88,vI x.1)] [(2,ntR p)] [])
  (λx=>[(x.2.2.2,.mp true (x.2.2.1.map anC)),(bo,.mp true (x.2.1.map anC))])
  (λx=>x.1<=Ls.length/\∃out,opN p Ls dis 0 []=opN p Ls dis x.1 out/\x.2.1.Perm out/\aNd out/\x.2.2.1.Perm (zff p Ls x.1))
  (λx=>Ls.length-x.1) (0,[],[],bl0) (zad ?_) (Jt _) ⟨Kc _,[],rfl,Jr _,Kr,Jr _⟩ ?_
 ·exact Yy
 rintro⟨i,out',left',bl⟩ ⟨hi,out,ho,hp,hon,hlf⟩
 simp only at hi ho hp hlf⊢
 have hni2:∀b c d:Nat×Ob,∀x,(∃r,c.2=.mp true r)->(∃r,d.2=.mp true r)->qcu x [c,d]:=λb c d x ⟨r,hr⟩ ⟨r2,hr2⟩ q hq s ag l la he=>by
  simp only[Qu,K2,or_false]at hq;rcases hq with rfl|rfl
  ·rw[hr]at he;cases he
  ·rw[hr2]at he;cases he
 by_cases hlt:i<Ls.length
 ·refine zbt.cut 1 rfl Yz ?_;refine Vd ?_;refine zbt.seq ?_;refine zbt.block ?_;refine zbt.cut 0 rfl Yz ?_;simp -implicitDefEqProofs only[go_sem,zaj,hlt,Qa];have hmem:Ls[i]∈Ls:=Qk hlt;have hown:=hnd _ hmem;have hstep:=ql2 (p:=p) (dis:=dis) (out:=out) hlt;have hls:=zww (p:=p) hlt;have HDi:=HD i hlt;generalize Ls[i]=own at hmem hown hstep hls⊢;refine zbt.seq (zbt.region (zbx.make true rfl (by simp only[Tryz.ntmps94];omega) λb' hb'=>?_));have hbb:b'≠bo:=λe=>hb' (bo,.mp true (out'.map anC)) (by simp) e.symm;refine zbx.plain 1 (by decide) rfl Yz ?_;refine Y1 ?_;refine zbx.done rfl ?_;refine Y1 ?_;refine zbt.seq ?_;refine zbt.seq (zbt.region (zbx.plain 1 (by decide) rfl Yz ?_));refine Y1 ?_;refine zbx.range true (own.map anC) rfl (by simp only[Tryz.ntmps94];omega) Yz Yy ?_;intro bi src hbi hsrc hsb;have hs1:src≠b':=hsrc (b',.mp true []) (by simp);have hs2:src≠bo:=hsrc (bo,.mp true (out'.map anC)) (by simp);refine zbx.done rfl ?_;refine Y1 ?_;refine zbt.block ?_;refine zbt.loop (λx:List An×List An×Option An=>hd [(2,.one (.bx 2 0)),(6,.one (.cv (.map (some bo)))),(7,.one (.cv (.map (some b')))),(8,vI i),(86,.one (.rn (lsS Ls))),(87,vI Ls.length),(88,vI i),(95,.one (.cv (.pointer (some ⟨bi,0,none⟩))))] [(2,ntR p)] [])
   (λx=>[(bi,.it src true (x.1.map anC) (x.2.2.map anC)),(b',.mp true ((lft x.2.1 p.label (za2 p.rule i)).map anC)),(bo,.mp true (out'.map anC))])
   (λx=>(x.2.1++x.1).Perm own/\zve x.2.1 p.label (za2 p.rule i) (dis i)=true)
   (λx=>x.1.length) (own,[],none) (zad ?_) (List.Sublist.cons_cons _ (List.Sublist.cons_cons _ (List.Sublist.cons _ (Jt _)))) ⟨by simp,rfl⟩ ?_
  ·exact Yy
  rintro⟨rem,acc,last⟩ ⟨hpa,hda⟩;simp only at hpa hda⊢;have hni:∀(x:Nat) (r1:List (List T)) (l1:Option (List T)) (r2 r3:List (List T)),src≠x->qcu x [(bi,.it src true r1 l1),(b',.mp true r2),(bo,.mp true r3)]:=λx r1 l1 r2 r3 hx q hq s ag l la he=>by
   simp only[Qu,K2,or_false]at hq;rcases hq with rfl|rfl|rfl
   ·simp only[Ob.it.injEq]at he;rw[<-he.1];exact hx
   ·cases he
   ·cases he
  refine zbt.seq (zbt.region ?_);refine zbx.next 0 rfl rfl (by simp only[Tryz.ntmps94];omega) Yy (hni _ _ _ _ _ hsb) (λ_ _=>Or.inl rfl) (λhnil=>?_) (λm r hm=>?_)
  ·refine zbx.plain 1 (by decide) rfl Yz ?_;refine Y1 ?_;refine zbx.done rfl ?_;refine Y1 ?_;refine zbt.cut 0 rfl Yz ?_;refine Y1 ?_;have hrem:rem=[]:=by simpa using hnil
   subst hrem;rw[Ko]at hpa;have hna:aNd acc:=zfj hpa.symm hown;have hlo:(lft acc p.label (za2 p.rule i)).Perm (lft own p.label (za2 p.rule i)):=hpa.filter _;have hnl:aNd (lft acc p.label (za2 p.rule i)):=zjz hna _;have hdo:zve own p.label (za2 p.rule i) (dis i)=true:=by
    unfold zve at hda⊢;rw[Qq]at hda⊢;exact λa ha=>hda a (hpa.mem_iff.2 ha)
   have hno':aNd out':=zfj hp.symm hon;rw[hdo,Qv]at hstep;generalize lft acc p.label (za2 p.rule i)=left2 at hlo hnl⊢;generalize lft own p.label (za2 p.rule i)=left1 at hlo hstep hls;refine zbt.seq (zbt.region (zbx.plain 1 (by decide) rfl Yz ?_));refine Y1 ?_;refine zbx.rangeH 1 rfl rfl (by simp only[Tryz.ntmps94];omega) Yz Yy λb2 hb2=>zbx.done rfl ?_;have hs3:b'≠b2:=hb2 (b',.mp true (left2.map anC)) (by simp);refine Y1 ?_;refine zbt.block ?_;refine zbt.loop (λx:List An×List An×Option An=>hd [(2,.one (.bx 2 0)),(6,.one (.cv (.map (some bo)))),(7,.one (.cv (.map (some b')))),(86,.one (.rn (lsS Ls))),(87,vI Ls.length),(88,vI i),(121,.one (.cv (.pointer (some ⟨b2,0,none⟩))))] [(2,ntR p)] [])
    (λx=>[(b2,.it b' true (x.1.map anC) (x.2.2.map anC)),(b',.mp true (left2.map anC)),(bo,.mp true ((mrg out' x.2.1).map anC))])
    (λx=>(x.2.1++x.1).Perm left2/\∀a∈x.2.1,∀f,zfv out' a.label=some f->same f a.form=true)
    (λx=>x.1.length) (left2,[],none) (zad ?_) ?_ ⟨by simp,by simp⟩ ?_
   ·exact Yy
   ·rw[show mrg out' []=out' from by simp[mrg]];exact List.Sublist.cons_cons _ (List.Sublist.cons _ (Jt _))
   rintro⟨rem,acc2,last2⟩ ⟨hpa2,hsa⟩;simp only at hpa2 hsa⊢;have hni3:∀(x:Nat) (r1:List (List T)) (l1:Option (List T)) (r2 r3:List (List T)),b'≠x->qcu x [(b2,.it b' true r1 l1),(b',.mp true r2),(bo,.mp true r3)]:=λx r1 l1 r2 r3 hx q hq s ag l la he=>by
    simp only[Qu,K2,or_false]at hq;rcases hq with rfl|rfl|rfl
    ·simp only[Ob.it.injEq]at he;rw[<-he.1];exact hx
    ·cases he
    ·cases he
   refine zbt.seq (zbt.region ?_);refine zbx.next 0 rfl rfl (by simp only[Tryz.ntmps94];omega) Yy (hni3 _ _ _ _ _ hs3) (λ_ _=>Or.inl rfl) (λhnil=>?_) (λm r hm=>?_)
   ·refine zbx.plain 1 (by decide) rfl Yz ?_;refine Y1 ?_;refine zbx.done rfl ?_;refine Y1 ?_;refine zbt.cut 0 rfl Yz ?_;refine Y1 ?_;have hrem:rem=[]:=by simpa using hnil
    subst hrem;rw[Ko]at hpa2;refine zbt.ofEx Yz ?_;refine Y1 ?_;rw[zaq Y0];have hmc:zr2 out left1=true:=qo2 hp hno' (hpa2.trans hlo) hsa;refine⟨(i+1,mrg out' acc2,left2,b'),⟨hlt,mrg out left1,?_,zz7 hp hno' (hpa2.trans hlo),qqu hon (zfj hlo hnl),?_⟩,by simp only;omega,List.Sublist.cons _ (Jt _),zad ?_⟩
    ·rw[ho,hstep,hmc,if_pos rfl]
    ·rw[hls];exact hlo
    ·exact Yy
   ·obtain⟨a,ha,rfl⟩:∃a,rem[m]?=some a/\r=anC a:=by
     rw[List.getElem?_map]at hm;cases h:rem[m]? with
     | none=>rw[h]at hm;cases hm
     | some a=>rw[h]at hm;exact⟨a,rfl,by simpa using hm.symm⟩
    have hel:=zgz ha;have hrm:a∈rem:=List.mem_of_getElem? ha;have hpa3:((acc2++[a])++rem.eraseIdx m).Perm left2:=by
     refine List.Perm.trans ?_ hpa2;rw[Kd];exact List.Perm.append_left acc2 (Perm.erase_at ha)
    have hne:∀b∈acc2,b.label≠a.label:=λb hb he=>by
     have hn:aNd (acc2++rem):=zfj hpa2.symm hnl;unfold aNd at hn;rw[Q1,Kg]at hn;exact hn.2.2 _ (Jz hb) _ (Jz hrm) he
    have hfr:zb8 (.int .i64 a.label) ((mrg out' acc2).map anC)=some ((zfv out' a.label).map fmC):=by rw[zj0,qnt hne]
    have hal:a∈left2:=hpa3.mem_iff.1 (by simp);refine zbx.plain 1 (by decide) rfl Yz ?_;refine Y1 ?_;refine zbx.done rfl ?_;refine zbt.cut 0 rfl Yz ?_;refine Y1 ?_;refine zbt.block ?_;refine zbt.seq (zbt.region (zbx.entry 0 rfl rfl (by simp only[Tryz.ntmps94];omega) Yy ?_));refine zbx.plain 5 (by decide) rfl Yz ?_;refine Y1 ?_;refine zbx.done rfl ?_;refine Y1 ?_;refine zbt.seq (zbt.seq (zbt.region (zbx.plain 2 (by decide) rfl Yz ?_)));refine Y1 ?_;have hz:qql Tryz.prog 38=some (.tup [(true,[.t (.int .i64 0),.t (.str []),.nl 2,.t (.str []),.nl 5]),(false,[.t (.bool false)])]):=by kernel_rfl
    cases hg:zfv out' a.label with
    | none =>
     rw[hg]at hfr;refine zbx.lookN 2 _ (.int .i64) 38 rfl (by simp only[Tryz.ntmps94];omega) rfl Yy Yy Yz rfl hfr hz ?_;refine zbx.plain 6 (by decide) rfl Yz ?_;refine Y1 ?_;refine zbx.done rfl ?_;refine Y1 ?_;refine zbt.ofEx Yz ?_;refine Y1 ?_;refine zbt.region (zbx.plain 3 (by decide) rfl Yz ?_);refine Y1 ?_;refine zbx.upd 2 rfl ?_;simp -implicitDefEqProofs only[go_sem,Tryz.underlying82,Tryz.underlying3,List.getElem?_cons_succ,List.getElem?_cons_zero,hfr,J1];refine Or.inl ⟨hni3 _ _ _ _ _ hbb,zbx.done rfl ?_⟩;refine Y1 ?_;refine⟨(rem.eraseIdx m,acc2++[a],some a),⟨hpa3,λx hx f hf=>?_⟩,by simp only;omega,?_,zad ?_⟩
     ·rcases Qw.1 hx with h|h
      ·exact hsa x h f hf
      ·rw[Q4.1 h,hg]at hf;cases hf
     ·simp only[qpz hg,Q1,Qc,Qi,zd7 a,zds,Q8];exact Jt _
     ·exact Yy
    | some f =>
     rw[hg,Q8,zaa f]at hfr;have HE:=zbm f a.form;simp only[fmD,zaa f,zaa a.form]at HE;refine zbx.look 2 rfl (by simp only[Tryz.ntmps94];omega) ?_;refine V8 ?_;refine zbx.plain 6 (by decide) rfl Yz ?_;refine Y1 ?_;refine zbx.done rfl ?_;refine Y1 ?_;refine zbt.ofEx Yz ?_;refine Y1 ?_;cases hs:same f a.form
     ·rw[hs]at HE;refine callF (HE) Zo ?_;refine Zn ?_;refine⟨[.one .nmp,bD false],Or.inl ⟨?_,rfl⟩,by simp -implicitDefEqProofs only[go_sem]⟩;rw[ho,hstep,qr5 hp hno' hlo hal hg hs,if_neg (by simp)]
     ·rw[hs]at HE;refine callF (HE) Zd ?_;refine Y7 ?_;obtain rfl:=zb1.1 hs;refine zbt.region (zbx.plain 3 (by decide) rfl Yz ?_);refine Y1 ?_;refine zbx.upd 2 rfl ?_;refine V8 ?_;refine Or.inr ⟨hni3 _ _ _ _ _ hbb,zbx.done rfl ?_⟩;refine Y1 ?_;refine⟨(rem.eraseIdx m,acc2++[a],some a),⟨hpa3,λx hx f hf=>?_⟩,by simp only;omega,?_,zad ?_⟩
      ·rcases Qw.1 hx with h|h
       ·exact hsa x h f hf
       ·rw[Q4.1 h,hg]at hf;rw[Q4.1 h];cases hf;exact zb1.2 rfl
      ·simp only[qo8 hg,zds,Q8];exact Jt _
      ·exact Yy
  ·refine zbx.plain 1 (by decide) rfl Yz ?_;refine Y1 ?_;refine zbx.done rfl ?_;refine Y1 ?_;obtain⟨a,ha,rfl⟩:∃a,rem[m]?=some a/\r=anC a:=by
    rw[List.getElem?_map]at hm;cases h:rem[m]? with
    | none=>rw[h]at hm;cases hm
    | some a=>rw[h]at hm;exact⟨a,rfl,by simpa using hm.symm⟩
   have hel:=zgz ha;have hrm:a∈rem:=List.mem_of_getElem? ha;have hpa2:((acc++[a])++rem.eraseIdx m).Perm own:=by
    refine List.Perm.trans ?_ hpa;rw[Kd];exact List.Perm.append_left acc (Perm.erase_at ha)
   have hne:∀b∈acc,b.label≠a.label:=λb hb he=>by
    have hn:aNd (acc++rem):=zfj hpa.symm hown;unfold aNd at hn;rw[Q1,Kg]at hn;exact hn.2.2 _ (Jz hb) _ (Jz hrm) he
   refine zbt.cut 0 rfl Yz ?_;refine Y1 ?_;refine zbt.block ?_;refine zbt.seq (zbt.region (zbx.entry 0 rfl rfl (by simp only[Tryz.ntmps94];omega) Yy ?_));refine zbx.plain 5 (by decide) rfl Yz ?_;refine Y1 ?_;refine zbx.done rfl ?_;refine Y1 ?_;have hkeep:(a.label==p.label&&za2 p.rule i)=false->zb8 (.int .i64 a.label) ((lft acc p.label (za2 p.rule i)).map anC)=some none/\lft (acc++[a]) p.label (za2 p.rule i)=lft acc p.label (za2 p.rule i)++[a]/\zve (acc++[a]) p.label (za2 p.rule i) (dis i)=true:=λhk=>by
    refine⟨?_,?_,?_⟩
    ·rw[zj0,show zfv (lft acc p.label (za2 p.rule i)) a.label=none from zhn.2 λb hb=>hne b (Jq.1 hb).1];rfl
    ·unfold lft;rw[List.filter_append,Jo,hk];rfl
    ·unfold zve at hda⊢;rw[List.all_append,hda,Ks,hk];rfl
   have HDI:=zfp p.rule i;cases hk:(a.label==p.label&&za2 p.rule i)
   ·obtain⟨k1,k2,k3⟩:=hkeep hk;refine zbt.join (hd [(2,.one (.bx 2 0)),(6,.one (.cv (.map (some bo)))),(7,.one (.cv (.map (some b')))),(8,vI i),(10,vI a.label),(11,.one (.bx 11 0)),(86,.one (.rn (lsS Ls))),(87,vI Ls.length),(88,vI i),(95,.one (.cv (.pointer (some ⟨bi,0,none⟩))))] [(2,ntR p),(11,fmR a.form)] []) Yz ?_ ?_
    ·cases e1:(a.label==p.label)
     ·refine Y2 e1 ?_;refine zad ?_;exact Yy
     ·have ed:za2 p.rule i=false:=by rw[e1]at hk;exact hk
      rw[ed]at HDI;refine Y2 e1 ?_;refine callF (HDI) Vg ?_;refine Y2 e1 ?_;refine zad ?_;exact Yy
    ·refine zbt.region (zbx.plain 3 (by decide) rfl Yz ?_);refine Y1 ?_;refine zbx.upd 1 rfl ?_;simp -implicitDefEqProofs only[go_sem,Tryz.underlying82,Tryz.underlying3,List.getElem?_cons_succ,List.getElem?_cons_zero,k1];refine Or.inl ⟨hni _ _ _ _ _ hs1,zbx.done rfl ?_⟩;refine Y1 ?_;refine⟨(rem.eraseIdx m,acc++[a],some a),⟨hpa2,k3⟩,by simp only;omega,?_,zad ?_⟩
     ·simp only[k2,Q1,Qc,Qi,zd7 a,zds,Q8];exact Jt _
     ·exact Yy
   ·have e1:(a.label==p.label)=true:=by cases h:(a.label==p.label)with|true=>rfl|false=>rw[h]at hk;cases hk
    have ed:za2 p.rule i=true:=by rw[e1]at hk;exact hk
    have HDD:=HDi ed;have HE:=zbm a.form (dis i);rw[ed]at HDI;simp only[ntD,zac p,fmD,zaa a.form,zaa (dis i)]at HDD HE;refine zbt.cut 0 rfl Yz ?_;refine Y2 e1 ?_;refine callF (HDI) Vg ?_;refine Y2 e1 ?_;cases hs:same a.form (dis i)
    ·rw[hs]at HE;refine drawn Yz ?_;refine Y1 ?_;refine zay HDD Yy ?_;refine Y1 ?_;refine zai (HE) Zo ?_;refine Zn ?_;refine⟨Yz,?_⟩;refine⟨[.one .nmp,bD false],Or.inl ⟨?_,rfl⟩,by simp -implicitDefEqProofs only[go_sem]⟩;rw[ho,hstep,if_neg];rw[show zve own p.label (za2 p.rule i) (dis i)=false from ?_]
     ·simp
     ·unfold zve;rw[J5];exact⟨a,hpa2.mem_iff.1 (by simp),by rw[hk,hs];simp⟩
    ·rw[hs]at HE;refine drawn Yz ?_;refine Y1 ?_;refine zay HDD Yy ?_;refine Y1 ?_;refine zai (HE) Zd ?_;refine Y7 ?_;refine⟨Yz,?_⟩;refine⟨(rem.eraseIdx m,acc++[a],some a),⟨hpa2,?_⟩,by simp only;omega,?_,zad ?_⟩
     ·unfold zve at hda⊢;rw[List.all_append,hda,Ks,hs];simp
     ·have e3:lft (acc++[a]) p.label (za2 p.rule i)=lft acc p.label (za2 p.rule i):=by
       unfold lft;rw[List.filter_append,Jo,hk];simp
      simp only[e3,zds,Q8];exact Jt _
     ·exact Yy
 ·have hie:i=Ls.length:=by omega
  subst hie;refine zbt.cut 1 rfl Yz ?_;refine Vd ?_;refine zbt.pub 7 0 rfl Yy (hni2 (0,.mp true []) _ _ _ ⟨_,rfl⟩ ⟨_,rfl⟩) ?_;refine zbt.pub 6 0 rfl Yy (λq hq s ag l la he=>?_) ?_
  ·simp only[List.eraseIdx_cons_zero,Qu,K2,or_false]at hq;rw[hq]at he;cases he
  refine zbt.ofEx Yz ?_;refine Y1 ?_;have HN':=HN left' hlf;simp only[ntD,zac p]at HN';refine callF (HN') Yy ?_;refine Y1 ?_;refine⟨[.one (anM out'),bD nw],Or.inr ⟨out,out',?_,hon,hp,rfl⟩,?_⟩
  ·rw[ho];unfold opN;rw[List.drop_length];rfl
  ·exact Yy
end
section
open Go.RowKit
def stI (p:Nt)(sh:Bool):Bool:=zbd p.rule==(p.parts.length:Int)&&(p.form.good&&(zer p.rule==inB p.label 1 20&&((zer p.rule||p.label==0)&&((if inB p.rule 15 18=true then p.term.good else p.term.none)&&sh))))
theorem qm2 (p:Nt)(Ls:List (List An))(sh:Bool)(hw:Fit p)(HSh0:stI p true=true->FC Tryz.prog 122 [ntD p] [bD sh])(hb:stI p sh=false) :
  RX Tryz.prog 94 [ntD p,.one (lsS Ls)] (λres=>res=[.one .nmp,bD false]):=by
 have hfw:p.form.wt<=1048576:=by have:=hw.own;omega
 have htw:p.term.wt<=1048576:=by have:=hw.own;omega
 have HP:=zfo p.rule
 have HV:=zcc p.form Y0
 have HL:=zkd p.rule
 have HW:=zfg p.label 1 20
 have HT:=zmk p.rule
 have HVT:=zd4 p.term Y0
 have HZ:=zb2 p.term
 have btt:(true != true)=false:=rfl
 have bff:(false != false)=false:=rfl
 have btf:(true != false)=true:=rfl
 have bft:(false != true)=true:=rfl
 have qtf:(true==false)=false:=rfl
 have qft:(false==true)=false:=rfl
 unfold stI at hb HSh0
 simp only[ntD,fmD,tmD,zac p,zaa p.form,zab p.term]at HV HVT HZ HSh0⊢
 refine zow Tryz.call94 Tryz.func94 rfl (zao Yz) ?_
 refine zci.cut 0 rfl Yz ?_
 simp -implicitDefEqProofs only[go_sem,Tryz.results94]
 by_cases c1:zbd p.rule=(p.parts.length:Int)
 ·have e1:(((p.parts.length:Nat):Int) != ((p.parts.length:Nat):Int))=false:=by simp
  rw[show(zbd p.rule==(p.parts.length:Int))=true by simpa using c1,Qv]at hb HSh0;rw[c1]at HP;cases c2:p.form.good
  ·rw[c2]at HV;refine zci.cut 0 rfl Yz ?_;refine Y1 ?_;refine drawn Yz ?_;refine Y1 ?_;refine zai (HP) Vg ?_;refine Y2 e1 ?_;refine zaz (HV) (Zz e1) ?_;refine Z9 e1 ?_;refine⟨Yz,[.one .nmp,bD false],rfl,by simp -implicitDefEqProofs only[go_sem]⟩
  ·rw[c2,Qv]at hb HSh0;rw[c2]at HV;cases c3:(zer p.rule==inB p.label 1 20)
   ·refine zci.cut 0 rfl Yz ?_;refine Y1 ?_;refine drawn Yz ?_;refine Y1 ?_;cases hl:zer p.rule
    ·have hi:inB p.label 1 20=true:=by rw[hl]at c3;cases h:inB p.label 1 20 with|true=>rfl|false=>rw[h]at c3;cases c3
     rw[hl]at HL;rw[hi]at HW;refine zai (HP) Vg ?_;refine Y2 e1 ?_;refine zaz (HV) (Zv e1) ?_;refine Zw e1 ?_;refine zaz (HL) Zd ?_;refine Y7 ?_;refine zaz (HW) (by simp -implicitDefEqProofs only[go_sem,bft,qft,Qj]) ?_;simp -implicitDefEqProofs only[go_sem,bft,qft,Qj];refine⟨Yz,[.one .nmp,bD false],rfl,by simp -implicitDefEqProofs only[go_sem]⟩
    ·have hi:inB p.label 1 20=false:=by rw[hl]at c3;cases h:inB p.label 1 20 with|false=>rfl|true=>rw[h]at c3;cases c3
     rw[hl]at HL;rw[hi]at HW;refine zai (HP) Vg ?_;refine Y2 e1 ?_;refine zaz (HV) (Zv e1) ?_;refine Zw e1 ?_;refine zaz (HL) Zd ?_;refine Y7 ?_;refine zaz (HW) (by simp -implicitDefEqProofs only[go_sem,btf,qtf,Qj]) ?_;simp -implicitDefEqProofs only[go_sem,btf,qtf,Qj];refine⟨Yz,[.one .nmp,bD false],rfl,by simp -implicitDefEqProofs only[go_sem]⟩
   ·rw[c3,Qv]at hb HSh0;have c3':zer p.rule=inB p.label 1 20:=by simpa using c3
    rw[<-c3']at HW;cases c4:(zer p.rule||p.label==0)
    ·have hl:zer p.rule=false:=by cases h:zer p.rule with|false=>rfl|true=>rw[h]at c4;cases c4
     have e2:(p.label != 0)=true:=by rw[hl,K0]at c4;simpa using c4
     rw[hl]at HL HW;refine zci.cut 0 rfl Yz ?_;refine Y1 ?_;refine drawn Yz ?_;refine Y1 ?_;refine zai (HP) Vg ?_;refine Y2 e1 ?_;refine zaz (HV) (Zv e1) ?_;refine Zw e1 ?_;refine zaz (HL) Zd ?_;refine Y7 ?_;refine zaz (HW) (Xd bff) ?_;refine Xe bff ?_;refine zaz (HL) (Zz e2) ?_;refine Z9 e2 ?_;refine⟨Yz,[.one .nmp,bD false],rfl,by simp -implicitDefEqProofs only[go_sem]⟩
    ·rw[c4,Qv]at hb HSh0;refine zci.join (hd [(1,.one (.rn (lsS Ls))),(2,.one (.bx 2 0))] [(2,ntR p)] []) Yz ?_ ?_
     ·refine Y1 ?_;refine drawn Yz ?_;cases hlab:zer p.rule
      ·have e2:(p.label != 0)=false:=by rw[hlab,K0]at c4;simpa using c4
       rw[hlab]at HL HW;refine Y1 ?_;refine zai (HP) Vg ?_;refine Y2 e1 ?_;refine zaz (HV) (Zv e1) ?_;refine Zw e1 ?_;refine zaz (HL) Zd ?_;refine Y7 ?_;refine zaz (HW) (Xd bff) ?_;refine Xe bff ?_;refine zaz (HL) (Zz e2) ?_;refine Z9 e2 ?_;refine⟨Yz,zad ?_⟩;exact Yy
      ·rw[hlab]at HL HW;refine Y1 ?_;refine zai (HP) Vg ?_;refine Y2 e1 ?_;refine zaz (HV) (Zv e1) ?_;refine Zw e1 ?_;refine zaz (HL) Zd ?_;refine Y7 ?_;refine zaz (HW) (Xd btt) ?_;refine Xe btt ?_;refine zaz (HL) Zd ?_;refine Y7 ?_;refine⟨Yz,zad ?_⟩;exact Yy
     refine zci.cut 0 rfl Yz ?_;cases hte:inB p.rule 15 18
     ·rw[hte]at HT;rw[hte,if_neg (by simp)]at hb HSh0;refine Y1 ?_;refine callF (HT) Za ?_;refine Zb ?_;refine callF (HT) Za ?_;refine Zb ?_;cases c5:p.term.none
      ·rw[c5]at HZ;refine callF (HZ) Za ?_;refine Zb ?_;refine⟨[.one .nmp,bD false],rfl,by simp -implicitDefEqProofs only[go_sem]⟩
      ·rw[c5]at HZ hb HSh0;have HSh:=HSh0 rfl;rw[show sh=false from by simpa using hb]at HSh;refine callF (HZ) Za ?_;refine Zb ?_;refine callF (HSh) Za ?_;refine Zb ?_;refine⟨[.one .nmp,bD false],rfl,by simp -implicitDefEqProofs only[go_sem]⟩
     ·rw[hte]at HT;rw[hte,if_pos rfl]at hb HSh0;refine Y1 ?_;refine callF (HT) Za ?_;refine Zb ?_;cases c5:p.term.good
      ·rw[c5]at HVT;refine callF (HVT) Za ?_;refine Zb ?_;refine⟨[.one .nmp,bD false],rfl,by simp -implicitDefEqProofs only[go_sem]⟩
      ·rw[c5]at HVT hb HSh0;have HSh:=HSh0 rfl;rw[show sh=false from by simpa using hb]at HSh;refine callF (HVT) Za ?_;refine Zb ?_;refine callF (HT) Za ?_;refine Zb ?_;refine callF (HSh) Za ?_;refine Zb ?_;refine⟨[.one .nmp,bD false],rfl,by simp -implicitDefEqProofs only[go_sem]⟩
 ·have e1:(zbd p.rule != (p.parts.length:Int))=true:=by simpa using c1
  refine zci.cut 0 rfl Yz ?_;refine Y1 ?_;refine drawn Yz ?_;refine Y1 ?_;refine zai (HP) Vg ?_;refine Y2 e1 ?_;refine⟨Yz,[.one .nmp,bD false],rfl,by simp -implicitDefEqProofs only[go_sem]⟩
end
section
open Go.RowKit
theorem open_1 (p:Nt)(Ls:List (List An))(s1:zbd p.rule=p.parts.length)(s2:p.form.good=true)(s3:zer p.rule=inB p.label 1 20)(s4:zer p.rule=false->p.label=0)(hw:Fit p)
  (s5:(if inB p.rule 15 18=true then p.term.good else p.term.none)=true) (HSh:FC Tryz.prog 122 [ntD p] [bD true]) (h1:p.rule=1):RX Tryz.prog 94 [ntD p,.one (lsS Ls)] (λres=>res=[.one (anM [⟨p.label,p.form⟩]),bD true]):=by
 have hfw:p.form.wt<=1048576:=by have:=hw.own;omega
 have htw:p.term.wt<=1048576:=by have:=hw.own;omega
 have HP:=zfo p.rule
 have HV:=zcc p.form Y0
 have HL:=zkd p.rule
 have HW:=zfg p.label 1 20
 have HT:=zmk p.rule
 have HVT:=zd4 p.term Y0
 have HZ:=zb2 p.term
 rw[s1]at HP
 rw[s2]at HV
 rw[<-s3]at HW
 have e1:(((p.parts.length:Nat):Int) != ((p.parts.length:Nat):Int))=false:=by simp
 have btt:(true != true)=false:=rfl
 have bff:(false != false)=false:=rfl
 simp only[ntD,fmD,tmD,zac p,zaa p.form,zab p.term]at HV HVT HZ HSh⊢
 refine zow Tryz.call94 Tryz.func94 rfl (zao Yz) ?_
 refine zci.cut 0 rfl Yz ?_
 simp -implicitDefEqProofs only[go_sem,Tryz.results94]
 refine zci.join (hd [(1,.one (.rn (lsS Ls))),(2,.one (.bx 2 0))] [(2,ntR p)] []) Yz ?_ ?_
 ·refine Y1 ?_;refine drawn Yz ?_;cases hlab:zer p.rule
  ·have e2:(p.label != 0)=false:=by simpa using s4 hlab
   rw[hlab]at HL HW;refine Y1 ?_;refine zai (HP) Vg ?_;refine Y2 e1 ?_;refine zaz (HV) (Zv e1) ?_;refine Zw e1 ?_;refine zaz (HL) Zd ?_;refine Y7 ?_;refine zaz (HW) (Xd bff) ?_;refine Xe bff ?_;refine zaz (HL) (Zz e2) ?_;refine Z9 e2 ?_;refine⟨Yz,zad ?_⟩;exact Yy
  ·rw[hlab]at HL HW;refine Y1 ?_;refine zai (HP) Vg ?_;refine Y2 e1 ?_;refine zaz (HV) (Zv e1) ?_;refine Zw e1 ?_;refine zaz (HL) Zd ?_;refine Y7 ?_;refine zaz (HW) (Xd btt) ?_;refine Xe btt ?_;refine zaz (HL) Zd ?_;refine Y7 ?_;refine⟨Yz,zad ?_⟩;exact Yy
 refine zci.join (hd [(1,.one (.rn (lsS Ls))),(2,.one (.bx 2 0))] [(2,ntR p)] []) Yz ?_ ?_
 ·cases hte:inB p.rule 15 18
  ·rw[hte]at HT;rw[hte,if_neg (by simp)]at s5;rw[s5]at HZ;refine Y1 ?_;refine callF (HT) Za ?_;refine Zb ?_;refine callF (HT) Za ?_;refine Zb ?_;refine callF (HZ) Za ?_;refine Zb ?_;refine callF (HSh) Za ?_;refine Zb ?_;refine zad ?_;exact Yy
  ·rw[hte]at HT;rw[hte,if_pos rfl]at s5;rw[s5]at HVT;refine Y1 ?_;refine callF (HT) Za ?_;refine Zb ?_;refine callF (HVT) Za ?_;refine Zb ?_;refine callF (HT) Za ?_;refine Zb ?_;refine callF (HSh) Za ?_;refine Zb ?_;refine zad ?_;exact Yy
 have e7:(p.rule==1)=true:=by simpa using h1
 refine zci.hide ?_
 refine zbt.seq ?_
 refine zbt.cut 0 rfl Yz ?_
 refine Y2 e7 ?_
 refine zbt.condT Yy ?_
 refine zbt.seq (zbt.region (zbx.make true rfl (by simp only[Tryz.ntmps94];omega) λbo _=>?_))
 refine zbx.plain 4 (by decide) rfl Yz ?_
 refine Y1 ?_
 refine zbx.ins 0 rfl ?_
 have hfr:zb8 (.int .i64 p.label) []=some none:=rfl
 refine V8 ?_
 refine Or.inl ⟨λq hq s ag l la he=>?_,?_⟩
 ·rw[Q4.1 hq]at he;cases he
 refine zbx.plain 3 (by decide) rfl Yz ?_
 refine Y1 ?_
 refine zbx.done rfl ?_
 refine Y1 ?_
 refine zbt.pub 4 0 rfl Yy (λq hq s ag l la he=>?_) ?_
 ·rw[Q4.1 hq]at he;cases he
 refine zbt.ofEx Yz ?_
 refine Y1 ?_
 refine⟨[.one (anM [⟨p.label,p.form⟩]),bD true],rfl,?_⟩
 refine Y1 ?_
 rfl
end
end Go.Proofs.YtnemmlahbbbobaaGreat
