/-
  The walk over plain data, and contracts of functions of the program and of its laws.
  Conditions: those that each theorem names.
-/
import Derived.Test.YtpcmmboblbjpfaaGreatQP10
import Derived.Test.YtpcmmboblbjpfaaGreatQP7
import Derived.Test.YtpcmmboblbjpfaaGreatQP8
import Derived.Test.YtpcmmboblbjpfaaGreatQP9
namespace Go.Proofs.YtpcmmboblbjpfaaGreat
set_option linter.unusedSimpArgs false
set_option linter.unusedVariables false
set_option linter.unusedSectionVars false
set_option maxRecDepth 4000
set_option maxHeartbeats 8000000
section
open Go.RowKit
theorem zx6 (s:Sq)(hs:s.good=true)(d:Dv)(hd:d.wt<=1048576):FC Tryz.prog 85 [sqD s,dvD d] [.one (sqS (ruS s d).1),bD (ruS s d).2]:=by
 have hW:=d.wt_eq
 have hE:ruS s d=if((!inB d.rule 11 14&&!d.term.none)||(!(d.rule==15)&&!same d.cut zan))=true then ([],false)
  else if d.rule=15 then ([zbk s (-1) [] (-1) [d.cut],zbk s (-1) [d.cut] (-1) []],d.main==0&&d.cut.good)
  else if(inB d.rule 1 15&&zbr s d)=true then (if inB d.rule 11 14=true then qS s d (zbc s d)else ((zbw s d.rule (zbc s d)).1.map (zea s d),(zbw s d.rule (zbc s d)).2))
  else ([],false):=rfl
 rw[hE]
 cases hno:((!inB d.rule 11 14&&!d.term.none)||(!(d.rule==15)&&!same d.cut zan))
 ·rw[if_neg (by simp)];rw[J3]at hno;obtain⟨n1,n2⟩:=hno;by_cases h15:d.rule=15
  ·rw[if_pos h15];have hn:d.term.none=true:=by rw[h15]at n1;simpa[inB]using n1
   obtain⟨r,sq,m,t,c,ps⟩:=d;have h15:r=15:=h15;subst h15;simp only[Dv.seq,Dv.term,Dv.cut,Dv.parts]at hW;exact qes s sq hs m t c ps hn Yo
  ·rw[if_neg h15];have h15':(d.rule==15)=false:=by rw[Ql];exact h15
   have hcz:same d.cut zan=true:=by rw[h15']at n2;simpa using n2
   obtain⟨r,sq,m,t,c,ps⟩:=d;simp only[Dv.seq,Dv.term,Dv.cut,Dv.parts]at hW;cases hq:inB (Dv.mk r sq m t c ps).rule 11 14
   ·have hn:t.none=true:=by rw[hq]at n1;simpa[Dv.term]using n1
    exact rule_p s sq r m t c ps hs hq hn h15' hcz _ (by rw[if_neg Bool.false_ne_true];rfl)
   ·exact rule_q s sq r m t c ps hs hq Yo h15' hcz _ (by rw[if_pos rfl];rfl)
 ·rw[if_pos rfl];obtain⟨r,sq,m,t,c,ps⟩:=d;exact qjm s sq r m t c ps hno
theorem ze1 {s:Sq}(hs:s.good=true)(l r:Int){more extra:List Fm}(h1:zdm more<=2000000)(h2:zdm extra<=2000000):(zbk s l more r extra).wt<=10000000:=by
 obtain⟨l1,l2,g1,g2⟩:=zgw hs
 have hh:∀xs:List Fm,xs.length<=10->(∀x∈xs,x.good=true)->zdm xs<=300000:=fun xs hl hg=>by
  have:(xs.map Fm.wt).sum<=20800*xs.length:=by
   clear hl;induction xs with
   | nil=>exact Qz _
   | cons x xs ih =>
    have h1:=ih fun y hy=>hg y (by simp[hy]);have h2:=zcr (hg x (by simp));rw[Qg,Q2,Qc];omega
  unfold zdm;omega
 have a1:=Kk (zi7 (zdv s.left l)) (hh _ l1 g1)
 have a2:=Kk (zi7 (zdv s.right r)) (hh _ l2 g2)
 rw[Sq.wt_eq]
 unfold zbk
 simp only[zs2]
 omega
theorem qcb {s:Sq}{d:Dv}(hs:s.good=true)(hm:zbr s d=true):∀x∈(zbw s d.rule (zbc s d)).1,zli x:=by
 have hg:=zdf hs d.rule (zeb hm).2.2
 have hw:=zcr hg
 generalize zbc s d=f at hg hw⊢
 have h0:=zmh f 0
 have h1:=zmh f 1
 have h2:=ztz (f:=f)
 have key:∀x:Sq,((x.left=[]\/x.left=[f.parts.getD 0 zan]\/x.left=[f.parts.getD 1 zan]\/x.left=f.parts)/\(x.right=[]\/x.right=[f.parts.getD 0 zan]\/x.right=[f.parts.getD 1 zan]\/x.right=f.parts))->zli x:=by
  rintro⟨l,r⟩ ⟨hl,hr⟩;simp only at hl hr;refine zf2 ?_ ?_
  ·rcases hl with rfl|rfl|rfl|rfl
   ·exact Q3 _
   ·show zdm [f.parts.getD 0 zan]<=100000
    rw[zcf];omega
   ·show zdm [f.parts.getD 1 zan]<=100000
    rw[zcf];omega
   ·show zdm f.parts<=100000
    omega
  ·rcases hr with rfl|rfl|rfl|rfl
   ·exact Q3 _
   ·show zdm [f.parts.getD 0 zan]<=100000
    rw[zcf];omega
   ·show zdm [f.parts.getD 1 zan]<=100000
    rw[zcf];omega
   ·show zdm f.parts<=100000
    omega
 unfold zbw
 repeat' split
 all_goals (intro x hx;simp only[Qr,Kn,or_false]at hx)
 all_goals first
  | exact hx.elim
  | (rcases hx with rfl|rfl<;>exact key _ ⟨by simp,by simp⟩)
  | (rw[hx];exact key _ ⟨by simp,by simp⟩)
theorem qhb {s:Sq}(hs:s.good=true){d:Dv}(hd:d.wt<=1048576):(∀x∈(ruS s d).1,x.wt<=10000000)/\(ruS s d).1.length<=2:=by
 have hW:=d.wt_eq
 unfold ruS
 split
 ·exact⟨fun x hx=>(by cases hx),by simp⟩
 ·split
  ·refine⟨fun x hx=>?_,by simp⟩;simp only[Qr,Kn,or_false]at hx;rcases hx with rfl|rfl
   ·exact ze1 hs _ _ (by rw[ze7];omega) (by rw[zcf];omega)
   ·exact ze1 hs _ _ (by rw[zcf];omega) (by rw[ze7];omega)
  ·split
   ·rename_i hm;rw[Qb]at hm;split
    ·rename_i hq;have hg:=zdf hs d.rule (zeb hm.2).2.2;have hop:=zm0 hm.2;have ho:(zbc s d).op=8\/(zbc s d).op=9:=by
      have hr:d.rule=11\/d.rule=12\/d.rule=13\/d.rule=14:=by
       unfold inB at hq;simp only[Qb,Qm]at hq;omega
      rcases hr with h|h|h|h<;>rw[h]at hop
      ·exact Or.inl (hop.resolve_left (by decide))
      ·exact Or.inl (hop.resolve_left (by decide))
      ·exact Or.inr (hop.resolve_left (by decide))
      ·exact Or.inr (hop.resolve_left (by decide))
     obtain⟨hpg,_,_⟩:=zdg hg ho;unfold qS;split
     ·rename_i h;rw[Qb]at h;have hw:=qip (n:=(zbc s d).var) h.1 hpg;have e1:zdm [(zbs (zbc s d).var d.term ((zbc s d).parts.getD 0 zan)).1]<=2000000:=by rw[zcf];omega
      have e2:zdm []<=2000000:=by rw[ze7];omega
      repeat' split
      all_goals first
       | exact⟨fun x hx=>by rw[Qw.1 hx];exact ze1 hs _ _ e1 e2,by simp⟩
       | exact⟨fun x hx=>by rw[Qw.1 hx];exact ze1 hs _ _ e2 e1,by simp⟩
       | exact⟨fun x hx=>(by cases hx),by simp⟩
     ·exact⟨fun x hx=>(by cases hx),by simp⟩
    ·refine⟨fun x hx=>?_,?_⟩
     ·obtain⟨y,hy,rfl⟩:=Ki.1 hx;obtain⟨_,_,y1,y2⟩:=qcb hs hm.2 y hy;exact ze1 hs _ _ Yo Yo
     ·simp only[Qa];unfold zbw
      repeat' split
      all_goals simp
   ·exact⟨fun x hx=>(by cases hx),by simp⟩
theorem zmy (s:Sq)(hs:s.good=true)(d:Dv)(hdw:d.wt<=1048576):FC Tryz.prog 26 [sqD s,dvD d] [.one (sqS (prS s d).1),bD (prS s d).2]:=by
 have HR:=zx6 s hs d hdw
 obtain⟨hsm,hlen⟩:=qhb hs hdw
 have hv:prS s d=if((ruS s d).2&&(ruS s d).1.all Sq.good)=true then ((ruS s d).1,true)else ([],false):=rfl
 rw[hv]
 generalize ruS s d=A at HR hsm hlen⊢
 obtain⟨L,b⟩:=A
 simp only at HR hsm hlen⊢
 simp only[sqD,zat s,dvD,zfi d]at HR⊢
 refine zai Tryz.call26 Tryz.func26 rfl Yn (zau Yn) ?_
 simp -implicitDefEqProofs only[go_sem,Tryz.results26]
 refine callF (HR) Ym ?_
 simp -implicitDefEqProofs only[go_sem]
 refine zaf (fun k:Nat=>hd [(6,.one (.ow 384 0)),(7,vB (b&&(L.take k).all Sq.good)),(8,vI k)] [] [(384,⟨true,2,L.map sqC,0,true⟩)]) (fun k=>k<=L.length) (fun k=>L.length-k) 0 (zac ?_) (Q3 _) ?_
 ·simp -implicitDefEqProofs only[go_sem,List.take_zero,Jd,K4]
 ·intro k hk;by_cases hlt:k<L.length
  ·have hs:(L.take (k+1)).all Sq.good=((L.take k).all Sq.good&&L[k].good):=by
    rw[Qk hlt,Yf];simp
   have HG:=zpl L[k] (by have:=hsm _ (Qj hlt);omega);simp only[sqD,zat L[k]]at HG;cases hb:(b&&(L.take k).all Sq.good)
   ·simp -implicitDefEqProofs only[go_sem,hlt];refine⟨k+1,hlt,Yo,zac ?_⟩;simp -implicitDefEqProofs only[go_sem];rw[zaw Yo,hs,<-Yj,hb];exact⟨rfl,rfl⟩
   ·simp -implicitDefEqProofs only[go_sem,hlt,zae,zat L[k]];refine callF (HG) Ym ?_;simp -implicitDefEqProofs only[go_sem];refine⟨k+1,hlt,Yo,zac ?_⟩;simp -implicitDefEqProofs only[go_sem];rw[zaw Yo,hs,<-Yj,hb];exact⟨rfl,rfl⟩
  ·have htk:L.take k=L:=Qu Yo;rw[htk];cases hb:(b&&L.all Sq.good)
   ·rw[if_neg (by simp)];simp -implicitDefEqProofs only[go_sem,hlt];refine zad Ym ?_;simp -implicitDefEqProofs only[go_sem]
   ·rw[if_pos rfl];simp -implicitDefEqProofs only[go_sem,hlt]
end
section
open Go.RowKit
theorem zi1 (s:Sq)(hs:s.wt<=1048576)(d:Dv)(hd:d.wt<=1048576):FC Tryz.prog 8 [sqD s,dvD d] [.one (sqS (zp7 s d).1),bD (zp7 s d).2]:=by
 have HV:=zpl s Yo
 unfold zp7
 cases hg:s.good
 ·rw[hg]at HV;rw[if_neg (by simp)];simp only[sqD,zat s,dvD,zfi d]at HV⊢;show FC _ _ _ [.one (.sl 2 []),_]
  refine zai Tryz.call8 Tryz.func8 rfl Yn (zau Yn) ?_;simp -implicitDefEqProofs only[go_sem,Tryz.results8];refine callF (HV) Ym ?_;simp -implicitDefEqProofs only[go_sem];refine zad Ym ?_;simp -implicitDefEqProofs only[go_sem]
 ·rw[hg]at HV;rw[if_pos rfl];have HP:=zmy s hg d hd;rw[<-qka s d hg]at HP;generalize prR s d=A at HP⊢;obtain⟨L,b⟩:=A;simp only[sqD,zat s,dvD,zfi d]at HV HP⊢;refine zai Tryz.call8 Tryz.func8 rfl Yn (zau Yn) ?_;simp -implicitDefEqProofs only[go_sem,Tryz.results8];refine callF (HV) Ym ?_;simp -implicitDefEqProofs only[go_sem];refine callF (HP) Ym ?_;simp -implicitDefEqProofs only[go_sem]
theorem zx9 (s:Sq)(d:Dv):sqsW (zp7 s d).1<=2000000:=by
 unfold zp7
 split
 ·rename_i hs;have hsm:=zu1 s hs d;have hlen:(adR s d).1.length<=2:=by
   unfold adR;split
   ·split<;>simp
   ·split
    ·split
     ·unfold ze5
      repeat' split
      all_goals simp
     ·unfold zbw
      repeat' split
      all_goals simp
    ·simp
  unfold prR;split
  ·show sqsW ((adR s d).1.map (zea s d))<=_
   generalize (adR s d).1=L at hsm hlen;have key:∀x∈L,(zea s d x).wt<=800000:=fun x hx=>by
    have:=zqr hs d (hsm x hx);rw[Sq.wt_eq];omega
   unfold sqsW;rw[Qa]
   match L,hlen,key with
   | [],_,_=>simp
   | [a],_,key =>
    have:=key a (by simp);simp only[Qg,Qh,Q2,Ku,Qc,Qd];omega
   | [a,b],_,key =>
    have:=key a (by simp);have:=key b (by simp);simp only[Qg,Qh,Q2,Ku,Qc,Qd];omega
   | a::b::c::L,h,_=>simp at h
  ·exact Q3 _
 ·exact Q3 _
end
section
open Go.RowKit
abbrev lwN:List Str:=[[88],[89],[90]]
def lwV (code:List UInt8)(n:Nat):List Int:=[0,(zk4 code 3).tmod n,(zk4 code 4).tmod n]
theorem qhn (code:List UInt8){n:Nat}(hn:1<=n):EnvOk n lwN (lwV code n) 0:=by
 refine⟨rfl,by simp,fun m=>?_⟩
 have h3:=zf4 code 3
 have h4:=zf4 code 4
 have t3:=zd0 (m:=(n:Int)) h3.1 Yo
 have t4:=zd0 (m:=(n:Int)) h4.1 Yo
 unfold zde lwV
 show 0<=gEv _ _ m 3/\gEv _ _ m 3<(n:Int)
 rw[gEv]
 split
 ·exact t4
 rw[gEv]
 split
 ·exact t3
 rw[gEv]
 split
 ·show(0:Int)<=0/\(0:Int)<n
  omega
 show(0:Int)<=0/\(0:Int)<n
 omega
theorem zuz {xs:List Fm}(h:zc3 xs=true):xs.length<=1048576/\∀f∈xs,f.forms=true/\lwN.length+f.wt<=1048576:=by
 unfold zc3 at h
 rw[Qb,Qm,Qn]at h
 refine⟨Yo,fun f hf=>?_⟩
 have hg:=h.2 f hf
 have hw:=zcr hg
 unfold Fm.good at hg
 rw[Qb]at hg
 exact⟨hg.2,by show 3+f.wt<=_;omega⟩
theorem qd8 (code:List UInt8)(hc:code.length<=65536){n:Nat}(hn:1<=n/\n<=3){s:Sq}(hg:s.good=true) :
  FC Tryz.prog 11 [.one (zeg code),iD n,zkt lwN (lwV code n),sqD s] [bD (sqT (itp code n) (zde lwN (lwV code n)) s)]:=by
 unfold Sq.good at hg
 rw[Qb]at hg
 have hL:=zuz hg.1
 have hR:=zuz hg.2
 exact qmm code hc n ⟨hn.1,Yo⟩ lwN (lwV code n) (qhn code hn.1) s hL.1 hR.1 hL.2 hR.2
theorem pof_ok {s:Sq}{d:Dv}(h:(zp7 s d).2=true):s.good=true/\∀x∈(zp7 s d).1,x.good=true:=by
 unfold zp7 at h⊢
 split at h
 ·rename_i hs;rw[if_pos hs];refine⟨hs,?_⟩;unfold prR at h⊢;split at h
  ·rename_i hc;rw[if_pos hc];rw[Qb,Qn]at hc;exact hc.2
  ·cases h
 ·cases h
theorem qen (code:List UInt8){n:Nat}(hn:1<=n/\n<=3){s:Sq}{d:Dv}(h12:d.rule≠12)(h13:d.rule≠13)(hok:(zp7 s d).2=true)(hp:∀x∈(zp7 s d).1,sqT (itp code n) (zde lwN (lwV code n)) x=true):sqT (itp code n) (zde lwN (lwV code n)) s=true :=
 zxq h12 h13 (qkg code (n:=n) ⟨hn.1,Yo⟩ (qhn code hn.1).bd d.term) hok hp
end
section
open Go.RowKit
theorem qlm (code:List UInt8):FC Tryz.prog 3 [.one (zeg code)] [bD true]:=by
 have HB:=vBig_c code
 by_cases hbig:(65536:Int)<code.length
 ·rw[show decide ((65536:Int)<code.length)=true by simpa using hbig]at HB;refine zai Tryz.call3 Tryz.func3 rfl Yn (zau Yn) ?_;simp -implicitDefEqProofs only[go_sem,Tryz.results3];refine callF (HB) Ym ?_;simp -implicitDefEqProofs only[go_sem]
 rw[show decide ((65536:Int)<code.length)=false by simpa using hbig]at HB
 have hc:code.length<=65536:=by omega
 obtain⟨s,d,hw,hws,HD⟩:=qgm code
 have HS:=zi1 s hw d hws
 have HI:=zqo s hw d hws
 have hsm:=zx9 s d
 have hok:=pof_ok (s:=s) (d:=d)
 have hsd:=fun(n:Nat) (hn:1<=n/\n<=3) (h12:d.rule≠12) (h13:d.rule≠13)=>qen code hn (s:=s) (d:=d) h12 h13
 have HT:=fun(n:Nat) (hn:1<=n/\n<=3) (x:Sq) (hg:x.good=true)=>qd8 code hc hn hg
 have HV3:=qg8 code hc 3 Yo
 have HV4:=qg8 code hc 4 Yo
 generalize zp7 s d=A at HS HI hsm hok hsd
 obtain⟨L,G⟩:=A
 simp only at HS HI hsm hok hsd
 have hlen:L.length<=2000000:=by unfold sqsW at hsm;omega
 have hGG:(!(G==G))=false:=by simp
 have hLL:(((L.length:Nat):Int) != ((L.length:Nat):Int))=false:=by simp
 have HR:=fun(k:Nat) (h:k<L.length)=>rSeq_c L[k]
 simp only[sqD,zat s,dvD,zfi d]at HD HS HI
 refine zai Tryz.call3 Tryz.func3 rfl Yn (zau Yn) ?_
 simp -implicitDefEqProofs only[go_sem,Tryz.results3]
 refine callF (HB) Ym ?_
 simp -implicitDefEqProofs only[go_sem]
 refine callR (HD) Ym ?_
 simp -implicitDefEqProofs only[go_sem]
 refine callF (HI) Ym ?_
 simp -implicitDefEqProofs only[go_sem]
 refine callF (HS) (by simp -implicitDefEqProofs only[go_sem,hGG,hLL,Qa]) ?_
 simp -implicitDefEqProofs only[go_sem,hGG,hLL,Qa]
 refine zaf (fun k:Nat=>hd [(0,vT (zeg code)),(3,.one (.bx 3 0)),(4,.one (.bx 4 0)),(5,vT (sqS L)),(6,vB G),(7,vT (sqS L)),(9,vI k)] [(3,[.t (fmS s.left),.t (fmS s.right)]),(4,[.t (.int .i64 d.rule),.t (fmS d.seq.left),.t (fmS d.seq.right),.t (.int .i64 d.main),.t (.str d.term.name),.t (tmS d.term.args),.t (.int .i64 d.cut.op),.t (.str d.cut.atom.name),.t (tmS d.cut.atom.args),.t (.str d.cut.var),.t (fmS d.cut.parts),.t (dvS d.parts)])] []) (fun k=>k<=L.length) (fun k=>L.length-k) 0 ?_ (Q3 _) ?_
 ·refine Wk.fzO 768 ?_;simp -implicitDefEqProofs only[go_sem];refine Wk.fzO 960 ?_;simp -implicitDefEqProofs only[go_sem];refine zac ?_;simp -implicitDefEqProofs only[go_sem]
 ·intro k hk;by_cases hlt:k<L.length
  ·have hwk:IntKind.i64.wrap ((k:Int)+1)=((k+1:Nat):Int):=zaw Yo;have HC:=HR k hlt;simp only[sqD,zat L[k]]at HC;simp -implicitDefEqProofs only[go_sem,hlt,Qa];refine drawn Yn ?_;simp -implicitDefEqProofs only[go_sem,hlt,zae,Qa,zat L[k]];refine zal (HC) Ym ?_;simp -implicitDefEqProofs only[go_sem];refine⟨Yn,k+1,hlt,Yo,zac ?_⟩;simp -implicitDefEqProofs only[go_sem];rw[hwk]
  ·cases G
   ·simp -implicitDefEqProofs only[go_sem,hlt,Qa]
   ·have hok:=hok rfl;by_cases h12:d.rule=12
    ·have e12:(d.rule==12)=true:=by rw[h12];rfl
     simp -implicitDefEqProofs only[go_sem,hlt,Qa,e12]
    by_cases h13:d.rule=13
    ·have e12:(d.rule==12)=false:=by rw[Ql];exact h12
     have e13:(d.rule==13)=true:=by rw[h13];rfl
     simp -implicitDefEqProofs only[go_sem,hlt,Qa,e12,e13]
    have e12:(d.rule==12)=false:=by rw[Ql];exact h12
    have e13:(d.rule==13)=false:=by rw[Ql];exact h13
    simp -implicitDefEqProofs only[go_sem,hlt,Qa,e12,e13];refine zaf (fun k:Nat=>hd [(0,vT (zeg code)),(3,.one (.bx 3 0)),(4,.one (.bx 4 0)),(5,vT (sqS L)),(10,vI ((k+1:Nat):Int))] [(3,[.t (fmS s.left),.t (fmS s.right)]),(4,[.t (.int .i64 d.rule),.t (fmS d.seq.left),.t (fmS d.seq.right),.t (.int .i64 d.main),.t (.str d.term.name),.t (tmS d.term.args),.t (.int .i64 d.cut.op),.t (.str d.cut.atom.name),.t (tmS d.cut.atom.args),.t (.str d.cut.var),.t (fmS d.cut.parts),.t (dvS d.parts)])] []) (fun k=>k<=3) (fun k=>3-k) 0 (zac ?_) (Q3 _) ?_
    ·simp -implicitDefEqProofs only[go_sem]
    ·intro k hk;by_cases hlt3:k<3
     ·have h0:(((k+1:Nat):Int)<4)=True:=by simp;omega
      have hwn:IntKind.i64.wrap (((k+1:Nat):Int)+1)=((k+1+1:Nat):Int):=zaw Yo;have hne:(((k+1:Nat):Int)=0)=False:=by simp;omega
      have HTn:=HT (k+1) ⟨Yo,Yo⟩;have hsn:=hsd (k+1) ⟨Yo,Yo⟩ h12 h13 rfl;have HTs:=HTn s hok.1;simp only[zkt,sqD,zat s]at HTs;have b3:=zf4 code 3;have b4:=zf4 code 4;have t3:=zd0 (m:=((k+1:Nat):Int)) b3.1 Yo;have t4:=zd0 (m:=((k+1:Nat):Int)) b4.1 Yo;simp -implicitDefEqProofs only[go_sem,h0];refine drawn Yn ?_;simp -implicitDefEqProofs only[go_sem];refine za2 Ym ?_;simp -implicitDefEqProofs only[go_sem];refine zal (HV3) Ym ?_;simp -implicitDefEqProofs only[go_sem];refine⟨⟨Yo,Yo,Yo⟩,?_⟩;refine zal (HV4) Ym ?_;simp -implicitDefEqProofs only[go_sem];refine⟨⟨Yo,Yo,Yo⟩,?_⟩;refine za2 Ym ?_;simp -implicitDefEqProofs only[go_sem];refine⟨Yn,?_⟩;refine zaf (fun i:Nat=>hd [(0,vT (zeg code)),(3,.one (.bx 3 0)),(4,.one (.bx 4 0)),(5,vT (sqS L)),(10,vI ((k+1:Nat):Int)),(11,.one (.bx 11 0)),(12,vB ((L.take i).all (sqT (itp code (k+1)) (zde lwN (lwV code (k+1)))))),(13,vI i)] [(3,[.t (fmS s.left),.t (fmS s.right)]),(4,[.t (.int .i64 d.rule),.t (fmS d.seq.left),.t (fmS d.seq.right),.t (.int .i64 d.main),.t (.str d.term.name),.t (tmS d.term.args),.t (.int .i64 d.cut.op),.t (.str d.cut.atom.name),.t (tmS d.cut.atom.args),.t (.str d.cut.var),.t (fmS d.cut.parts),.t (dvS d.parts)]),(11,[.t (zb5 lwN),.t (zo1 (lwV code (k+1)))])] []) (fun i=>i<=L.length) (fun i=>L.length-i) 0 ?_ (Q3 _) ?_
      ·refine Wk.fzO 2400 ?_;simp -implicitDefEqProofs only[go_sem];refine Wk.fzO 2688 ?_;simp -implicitDefEqProofs only[go_sem];refine zac ?_;simp -implicitDefEqProofs only[go_sem];exact⟨rfl,rfl⟩
      ·intro i hi;by_cases hli:i<L.length
       ·have hwi:IntKind.i64.wrap ((i:Int)+1)=((i+1:Nat):Int):=zaw Yo;have HC:=HTn L[i] (hok.2 _ (Qj hli));simp only[zkt,sqD,zat L[i]]at HC;have hall:(L.take (i+1)).all (sqT (itp code (k+1)) (zde lwN (lwV code (k+1))))=((L.take i).all (sqT (itp code (k+1)) (zde lwN (lwV code (k+1))))&&sqT (itp code (k+1)) (zde lwN (lwV code (k+1))) L[i]):=by
         rw[Qk hli,Yf,Ke,Jd,K4]
        generalize (L.take i).all (sqT (itp code (k+1)) (zde lwN (lwV code (k+1))))=b at hall;cases b
        ·simp -implicitDefEqProofs only[go_sem,hli,Qa];refine drawn Yn ?_;simp -implicitDefEqProofs only[go_sem];refine⟨Yn,i+1,hli,Yo,zac ?_⟩;simp -implicitDefEqProofs only[go_sem,hall];rw[hwi]
        ·simp -implicitDefEqProofs only[go_sem,hli,Qa];refine drawn Yn ?_;simp -implicitDefEqProofs only[go_sem,hli,zae,Qa,zat L[i]];refine za5 (HC) Ym ?_;simp -implicitDefEqProofs only[go_sem];refine⟨Yn,i+1,hli,Yo,zac ?_⟩;simp -implicitDefEqProofs only[go_sem,hall];rw[hwi]
       ·have e:L.take i=L:=Qu Yo;rw[e];cases hb:L.all (sqT (itp code (k+1)) (zde lwN (lwV code (k+1))))
        ·simp -implicitDefEqProofs only[go_sem,hli,Qa];refine⟨k+1,Yo,Yo,zac ?_⟩;simp -implicitDefEqProofs only[go_sem];rw[hwn]
        ·have hs:=hsn fun x hx=>(Qn.1 hb) x hx;rw[hs]at HTs;simp -implicitDefEqProofs only[go_sem,hli,Qa];refine callF (HTs) Ym ?_;simp -implicitDefEqProofs only[go_sem];refine⟨k+1,Yo,Yo,zac ?_⟩;simp -implicitDefEqProofs only[go_sem];rw[hwn]
     ·have h0:(((k+1:Nat):Int)<4)=False:=by simp;omega
      simp -implicitDefEqProofs only[go_sem,h0]
end
end Go.Proofs.YtpcmmboblbjpfaaGreat
