/-
  The walk over plain data, and contracts of functions of the program and of its laws.
  Conditions: those that each theorem names.
-/
import Derived.Test.YtnemmlahbbbobaaGreatQR11
import Derived.Test.YtnemmlahbbbobaaGreatQR5
namespace Go.Proofs.YtnemmlahbbbobaaGreat
set_option linter.unusedSimpArgs false
set_option linter.unusedVariables false
set_option linter.unusedSectionVars false
set_option maxRecDepth 4000
set_option maxHeartbeats 8000000
section
open Go.RowKit
theorem ztv (n:Str)(t:Tm)(ht:t.wt<=240)(p:Nt)(h1:p.form.wt<=20800)(h2:p.term.wt<=8000)(h3:p.parts.length<=3)(H:∀x∈p.parts,FC Tryz.prog 128 [ntD x,sD n,tmD t] [ntD (zfs n t x).1,bD (zfs n t x).2]):FC Tryz.prog 128 [ntD p,sD n,tmD t] [ntD (zfs n t p).1,bD (zfs n t p).2]:=by
 have hmul:(1+p.form.wt)*t.wt<=20801*240:=J3 Y0 ht
 have HS:=ze4 p.form n t Y0 Y0 Y0
 have HR:=zqb [(n,t)] (λq hq=>by rw[Q4.1 hq];show t.wt<=_;omega) p.term Y0
 have hR:mpS [(n,t)]=.mp true [[.str n,.str t.name,.sl 2 (t.args.map tmC)]]:=by unfold mpS;rw[Q6,zhg]
 rw[hR]at HR
 rw[zna]
 generalize sbF n t p.form=F at HS⊢
 obtain⟨f,fb⟩:=F
 generalize rvT [(n,t)] p.term=u at HR⊢
 simp only at HS⊢
 simp only[ntD,zac p,zbe,fmD,zaa p.form,zaa f,tmD,zab t,zab u,zab p.term]at HS HR H⊢
 refine zgr Tryz.call128 Tryz.func128 rfl Yz (zao Yz) ?_
 simp -implicitDefEqProofs only[go_sem,Tryz.results128]
 refine callF (HS) Yy ?_
 refine Y1 ?_
 refine qod [0,1,2,3,4,5,6] 7 [8,9] 10 [11,12,13,14,15] true Yz rfl rfl rfl ?_
 simp -implicitDefEqProofs only[go_sem,Qc,Qi,Ql,Qh]
 refine insR [.str n,.str t.name,.sl 2 (t.args.map tmC)] Yz (λb=>by simp -implicitDefEqProofs only[go_sem,qic,Tryz.underlying150,Tryz.underlying9]) ?_
 simp -implicitDefEqProofs only[go_sem,Qc,Qi,Ql,Qh]
 refine kCallF HR Yy ?_
 refine Y1 ?_
 refine⟨Yz,?_⟩
 refine zah (λx:Nat×Bool=>hd [(1,vT (.str n)),(5,.one (.bx 5 0)),(6,.one (.bx 6 0)),(9,vB x.2),(10,.one (.bx 10 0)),(37,.one (.rn (ntS p.parts))),(38,vI p.parts.length),(39,vI x.1)] [(5,[.t (.str t.name),.rn (tmS t.args)]),(6,zNB),(10,[.t (.int .i64 p.rule),.t (.int .i64 f.op),.t (.str f.atom.name),.ow 642 0,.t (.str f.var),.ow 644 0,.t (.int .i64 p.label),.t (.str u.name),.ow 1089 0,.ow 3000 0])]
  [(642,⟨true,2,f.atom.args.map tmC,0,true⟩),(644,⟨true,5,f.parts.map fmC,0,true⟩),(1089,⟨true,2,u.args.map tmC,0,true⟩),(3000,⟨true,10,((p.parts.take x.1).map λy=>(zfs n t y).1).map ntC,0,true⟩)]) (λx=>x.1<=p.parts.length/\x.2=(fb&&(p.parts.take x.1).all λy=>(zfs n t y).2)) (λx=>p.parts.length-x.1) (0,fb) (zad ?_) ⟨Kc _,by rw[Jw,List.all_nil,Kz]⟩ ?_
 ·exact X8
 ·rintro⟨k,b⟩ ⟨hk,hb⟩;simp only at hk hb;by_cases hlt:k<p.parts.length
  ·have hmin:((p.parts.take k).map λy=>(zfs n t y).1).length<=4294967295:=by rw[Qa,Qo];omega
   have HC:=H p.parts[k] (Qk hlt);have htk:p.parts.take (k+1)=p.parts.take k++[p.parts[k]]:=Qn hlt;have hb2:(fb&&(p.parts.take (k+1)).all λy=>(zfs n t y).2)=(b&&(zfs n t p.parts[k]).2):=by
    rw[htk,List.all_append,Ks,List.all_nil,Kz,<-Yn,<-hb]
   have hm2:((p.parts.take (k+1)).map λy=>(zfs n t y).1)=((p.parts.take k).map λy=>(zfs n t y).1)++[(zfs n t p.parts[k]).1]:=by rw[htk,Q1,Q6]
   generalize (p.parts.take k).map (λy=>(zfs n t y).1)=X at hmin hm2⊢;generalize zfs n t p.parts[k]=y at HC hb2 hm2;obtain⟨y,c⟩:=y;simp only at HC hb2 hm2;have hm3:(p.parts.take (k+1)).map (ntC∘λy=>(zfs n t y).1)=X.map ntC++[ntC y]:=by rw[<-Kw,hm2,Q1,Q6]
   simp only[zac p.parts[k],zac y]at HC hm3;cases b
   ·refine Zc hlt (zac p.parts[k]) ?_;refine callF (HC) Yy ?_;refine Y1 ?_;refine zbg Yy ?_;refine Y1 ?_;refine apD true (Zk hmin) ?_;refine Zl hmin ?_;refine⟨(k+1,false),⟨hlt,by rw[hb2,Qx]⟩,by simp only;omega,zad ?_⟩;refine Y1 ?_;rw[zaq Y0,hm3];exact⟨rfl,rfl⟩
   ·refine Zc hlt (zac p.parts[k]) ?_;refine callF (HC) Yy ?_;refine Y1 ?_;refine zbg Yy ?_;refine Y1 ?_;refine apD true (Zk hmin) ?_;refine Zl hmin ?_;refine⟨(k+1,c),⟨hlt,by rw[hb2,Qv]⟩,by simp only;omega,zad ?_⟩;refine Y1 ?_;rw[zaq Y0,hm3];exact⟨rfl,rfl⟩
  ·have ht2:p.parts.take k=p.parts:=Qr Y0;rw[ht2]at hb;exact Zu hlt ht2 hb
theorem znl (n:Str)(t:Tm)(ht:t.wt<=240):∀p:Nt,p.okn=true->FC Tryz.prog 128 [ntD p,sD n,tmD t] [ntD (zfs n t p).1,bD (zfs n t p).2] :=
 zbu λr f l u ps ih h=>by
  obtain⟨h1,h2,h3,h4⟩:=Nt.okn_is h;exact ztv n t ht (.mk r f l u ps) h1 h2 h3 λx hx=>ih x hx (h4 x hx)
theorem zro (n:Str)(t:Tm)(ht:t.wt<=240)(p:Nt)(hf:p.form.forms=true)(h1:p.form.wt<=20800)(h2:p.term.wt<=8000)(h3:p.parts.length<=3)(H:∀x∈p.parts,FC Tryz.prog 153 [ntD x,sD n,tmD t] [ntD (zei n t x).1,bD (zei n t x).2]):FC Tryz.prog 153 [ntD p,sD n,tmD t] [ntD (zei n t p).1,bD (zei n t p).2]:=by
 have hmul:(1+p.form.wt)*t.wt<=20801*240:=J3 Y0 ht
 have HS:=qkn n t Y0 p.form hf Y0 Y0
 have HA:=zud (bnd n t) (qdc n t) (qqs n t Y0) p.term Y0
 have hv:=qeo n t p
 generalize zbs n t p.form=F at HS hv
 obtain⟨f,fb⟩:=F
 generalize zez (bnd n t) p.term=u at HA hv
 simp only at HS hv
 cases fb
 ·rw[Qx,if_neg (by simp)]at hv;rw[hv];simp only[ntD,zac p,zdc,fmD,zaa p.form,zaa f,tmD,zab t]at HS⊢;refine zae Tryz.call153 Tryz.func153 rfl Yz (zao Yz) ?_;simp -implicitDefEqProofs only[go_sem,Tryz.results153];refine callF (HS) Yy ?_;exact Yy
 ·rw[Qv]at hv;cases hn:(t.name==n)
  ·have e0:bnd n t=[(n,t)]:=by unfold bnd;rw[hn,if_neg (by simp)]
   have HP:=zs4 n t Y0 hn;have hS0:sbS []=.sl 3 []:=rfl;have hS:sbS [(n,t)]=.sl 3 [[.str n,.str t.name,.sl 2 (t.args.map tmC)]]:=by unfold sbS;rw[Q6,zhg]
   rw[e0]at HA;rw[hS0,hS]at HP;rw[hS]at HA;simp only[ntD,zac p,fmD,zaa p.form,zaa f,tmD,zab t,zab u,zab p.term]at HS HA HP H⊢;refine zae Tryz.call153 Tryz.func153 rfl Yz (zao Yz) ?_;simp -implicitDefEqProofs only[go_sem,Tryz.results153];refine callF (HS) Yy ?_;refine Y1 ?_;refine drawn Yz ?_;refine Y1 ?_;refine zai (HP) Yy ?_;refine Y1 ?_;refine zai (HA) Yy ?_;refine Y1 ?_;refine⟨Yz,?_⟩
   refine zah (λk:Nat=>hd [(1,vT (.str n)),(3,.one (.bx 3 0)),(5,.one (.bx 5 0)),(6,.one (.bx 6 0)),(10,.one (.bx 10 0)),(11,vI k)] [(3,ntB p),(5,[.t (.str t.name),.t (tmS t.args)]),(6,zNB),(10,[.t (.int .i64 p.rule),.t (.int .i64 f.op),.t (.str f.atom.name),.ow 610 0,.t (.str f.var),.ow 612 0,.t (.int .i64 p.label),.t (.str u.name),.ow 1153 0,.ow 3000 0])]
    [(610,⟨true,2,f.atom.args.map tmC,0,true⟩),(612,⟨true,5,f.parts.map fmC,0,true⟩),(1153,⟨true,2,u.args.map tmC,0,true⟩),(3000,⟨true,10,((p.parts.take k).map λy=>(zei n t y).1).map ntC,0,true⟩)]) (λk=>k<=p.parts.length/\∀y∈p.parts.take k,(zei n t y).2=true) (λk=>p.parts.length-k) 0 (zad ?_) ⟨Kc _,λy hy=>by cases hy⟩ ?_
   ·exact X8
   ·rintro k ⟨hk,hall⟩;by_cases hlt:k<p.parts.length
    ·have hmin:((p.parts.take k).map λy=>(zei n t y).1).length<=4294967295:=by rw[Qa,Qo];omega
     have HC:=H p.parts[k] (Qk hlt);have htk:p.parts.take (k+1)=p.parts.take k++[p.parts[k]]:=Qn hlt;have hm2:((p.parts.take (k+1)).map λy=>(zei n t y).1)=((p.parts.take k).map λy=>(zei n t y).1)++[(zei n t p.parts[k]).1]:=by rw[htk,Q1,Q6]
     cases hc:(zei n t p.parts[k]).2
     ·have hno:(p.parts.all λx=>(zei n t x).2)=false:=by rw[J5];exact⟨_,Qk hlt,by rw[hc];simp⟩
      rw[hno,if_neg (by simp)]at hv;rw[hv];rw[hc]at HC;generalize (zei n t p.parts[k]).1=y at HC;simp only[zac p.parts[k],zac y,zdc]at HC⊢;refine Y6 hlt ?_;refine drawn Yz ?_;refine Vj ?_;refine zai (HC) Yy ?_;refine Y1 ?_
      first|kernel_rfl|(refine⟨Yz,?_⟩;simp -implicitDefEqProofs only[go_sem];exact⟨rfl,rfl⟩)
     ·rw[hc]at HC;have hstep:∀y∈p.parts.take (k+1),(zei n t y).2=true:=λy hy=>by
       rw[htk]at hy;rcases Qw.1 hy with h|h
       ·exact hall y h
       ·rw[Q4.1 h];exact hc
      generalize (p.parts.take k).map (λy=>(zei n t y).1)=X at hmin hm2⊢;generalize (zei n t p.parts[k]).1=y at HC hm2;have hm3:(p.parts.take (k+1)).map (ntC∘λy=>(zei n t y).1)=X.map ntC++[ntC y]:=by rw[<-Kw,hm2,Q1,Q6]
      simp only[zac p.parts[k],zac y]at HC hm3;refine Y6 hlt ?_;refine drawn Yz ?_;refine Vj ?_;refine zai (HC) Yy ?_;refine Y1 ?_;refine⟨Yz,?_⟩;refine zbg Yy ?_;refine Y1 ?_;refine apD true (Zk hmin) ?_;refine Zl hmin ?_;rw[zaq Y0];refine⟨k+1,⟨hlt,hstep⟩,Y0,zad ?_⟩;refine Y1 ?_;rw[hm3]
    ·have ht2:p.parts.take k=p.parts:=Qr Y0;rw[ht2]at hall;rw[show(p.parts.all λx=>(zei n t x).2)=true from Qq.2 hall,if_pos rfl]at hv;rw[hv];simp only[zbe];simp -implicitDefEqProofs only[go_sem,hlt,Qa,ht2]
     first|done|exact⟨rfl,rfl⟩|rfl
  ·have e0:bnd n t=[]:=by unfold bnd;rw[hn,if_pos rfl]
   have HP:=zos n t hn;have hS0:sbS []=.sl 3 []:=rfl;rw[e0]at HA;rw[hS0]at HP HA;simp only[ntD,zac p,fmD,zaa p.form,zaa f,tmD,zab t,zab u,zab p.term]at HS HA HP H⊢;refine zae Tryz.call153 Tryz.func153 rfl Yz (zao Yz) ?_;simp -implicitDefEqProofs only[go_sem,Tryz.results153];refine callF (HS) Yy ?_;refine Y1 ?_;refine drawn Yz ?_;refine Y1 ?_;refine zay HP Yy ?_;refine Y1 ?_;refine zai (HA) Yy ?_;refine Y1 ?_;refine⟨Yz,?_⟩
   refine zah (λk:Nat=>hd [(1,vT (.str n)),(3,.one (.bx 3 0)),(5,.one (.bx 5 0)),(6,.one (.bx 6 0)),(10,.one (.bx 10 0)),(11,vI k)] [(3,ntB p),(5,[.t (.str t.name),.t (tmS t.args)]),(6,zNB),(10,[.t (.int .i64 p.rule),.t (.int .i64 f.op),.t (.str f.atom.name),.ow 610 0,.t (.str f.var),.ow 612 0,.t (.int .i64 p.label),.t (.str u.name),.ow 1153 0,.ow 3000 0])]
    [(610,⟨true,2,f.atom.args.map tmC,0,true⟩),(612,⟨true,5,f.parts.map fmC,0,true⟩),(1153,⟨true,2,u.args.map tmC,0,true⟩),(3000,⟨true,10,((p.parts.take k).map λy=>(zei n t y).1).map ntC,0,true⟩)]) (λk=>k<=p.parts.length/\∀y∈p.parts.take k,(zei n t y).2=true) (λk=>p.parts.length-k) 0 (zad ?_) ⟨Kc _,λy hy=>by cases hy⟩ ?_
   ·exact X8
   ·rintro k ⟨hk,hall⟩;by_cases hlt:k<p.parts.length
    ·have hmin:((p.parts.take k).map λy=>(zei n t y).1).length<=4294967295:=by rw[Qa,Qo];omega
     have HC:=H p.parts[k] (Qk hlt);have htk:p.parts.take (k+1)=p.parts.take k++[p.parts[k]]:=Qn hlt;have hm2:((p.parts.take (k+1)).map λy=>(zei n t y).1)=((p.parts.take k).map λy=>(zei n t y).1)++[(zei n t p.parts[k]).1]:=by rw[htk,Q1,Q6]
     cases hc:(zei n t p.parts[k]).2
     ·have hno:(p.parts.all λx=>(zei n t x).2)=false:=by rw[J5];exact⟨_,Qk hlt,by rw[hc];simp⟩
      rw[hno,if_neg (by simp)]at hv;rw[hv];rw[hc]at HC;generalize (zei n t p.parts[k]).1=y at HC;simp only[zac p.parts[k],zac y,zdc]at HC⊢;refine Y6 hlt ?_;refine drawn Yz ?_;refine Vj ?_;refine zai (HC) Yy ?_;refine Y1 ?_
      first|kernel_rfl|(refine⟨Yz,?_⟩;simp -implicitDefEqProofs only[go_sem];exact⟨rfl,rfl⟩)
     ·rw[hc]at HC;have hstep:∀y∈p.parts.take (k+1),(zei n t y).2=true:=λy hy=>by
       rw[htk]at hy;rcases Qw.1 hy with h|h
       ·exact hall y h
       ·rw[Q4.1 h];exact hc
      generalize (p.parts.take k).map (λy=>(zei n t y).1)=X at hmin hm2⊢;generalize (zei n t p.parts[k]).1=y at HC hm2;have hm3:(p.parts.take (k+1)).map (ntC∘λy=>(zei n t y).1)=X.map ntC++[ntC y]:=by rw[<-Kw,hm2,Q1,Q6]
      simp only[zac p.parts[k],zac y]at HC hm3;refine Y6 hlt ?_;refine drawn Yz ?_;refine Vj ?_;refine zai (HC) Yy ?_;refine Y1 ?_;refine⟨Yz,?_⟩;refine zbg Yy ?_;refine Y1 ?_;refine apD true (Zk hmin) ?_;refine Zl hmin ?_;rw[zaq Y0];refine⟨k+1,⟨hlt,hstep⟩,Y0,zad ?_⟩;refine Y1 ?_;rw[hm3]
    ·have ht2:p.parts.take k=p.parts:=Qr Y0;rw[ht2]at hall;rw[show(p.parts.all λx=>(zei n t x).2)=true from Qq.2 hall,if_pos rfl]at hv;rw[hv];simp only[zbe];simp -implicitDefEqProofs only[go_sem,hlt,Qa,ht2]
     first|done|exact⟨rfl,rfl⟩|rfl
theorem zk1 (n:Str)(t:Tm)(ht:t.wt<=240):∀p:Nt,p.gdn=true->FC Tryz.prog 153 [ntD p,sD n,tmD t] [ntD (zei n t p).1,bD (zei n t p).2] :=
 zbu λr f l u ps ih h=>by
  obtain⟨_,g2,_,g4⟩:=Nt.gdn_is h;obtain⟨h1,h2,h3,h4⟩:=Nt.okn_is (zc0 _ h);exact zro n t ht (.mk r f l u ps) (zbp g2) h1 h2 h3 λx hx=>ih x hx (g4 x hx)
end
section
open Go.RowKit
theorem wr0:IntKind.i64.wrap 0=0:=za4 Y0 Y0
theorem wr1:IntKind.i64.wrap 1=1:=za4 Y0 Y0
theorem wr2:IntKind.i64.wrap 2=2:=za4 Y0 Y0
theorem wr9:IntKind.i64.wrap 9=9:=za4 Y0 Y0
theorem zh9:IntKind.i64.wrap 10=10:=za4 Y0 Y0
theorem qme (p:Nt)(hw:Fit p)(hg:p.gdn=true)(hn:p.nodes<=60)(hd:znx p=true):FC Tryz.prog 102 [ntD p] [ntD (ztu p).1,bD (ztu p).2]:=by
 rcases zlt (zdz p hg) hd with⟨d,a,b,e,hp,k,ha⟩|⟨d,x,y,a,e,hp,k,ha⟩|⟨d,x,a,e,hp,ha⟩|⟨d,a,e,hp,k,ha⟩|⟨d,x,a,e,hp,k,ha⟩
 ·have hwd:=hw.sub d (by rw[hp];simp);have HA:=zdb a (hwd.sub a (by rw[ha];simp));have HB:=zdb b (hwd.sub b (by rw[ha];simp));rw[qe0 e hp ha];rcases e with e|e
  ·rw[if_pos e];simp only[ntD,zac p,hp,e,Qc,Qi,zac a]at HA⊢;refine zae Tryz.call102 Tryz.func102 rfl Yz (zao Yz) ?_;refine Z4 (zac d) ha (zac a) ?_;refine callF (HA) Yy ?_;exact Yy
  ·rw[if_neg (by rw[e];decide)];simp only[ntD,zac p,hp,e,Qc,Qi,zac b]at HB⊢;refine zae Tryz.call102 Tryz.func102 rfl Yz (zao Yz) ?_;refine Z4 (zac d) ha (zac b) ?_;refine callF (HB) Yy ?_;exact Yy
 ·have hwd:=hw.sub d (by rw[hp];simp);have hwa:=hwd.sub a (by rw[ha];simp);have HX:=zju p.label a hwa x (hw.sub x (by rw[hp];simp)) (zdz x (zbb hg hp (by simp)));have HY:=zju p.label a hwa y (hw.sub y (by rw[hp];simp)) (zdz y (zbb hg hp (by simp)));rw[zvq e hp k ha];rcases k with k|k
  ·rw[if_pos k];generalize zcx za2 p.label a x=z at HX⊢;simp only[ntD,zac p,hp,e,Qc,Qi,zac x,zac a,zac z]at HX⊢;refine zae Tryz.call102 Tryz.func102 rfl Yz (zao Yz) ?_;refine Z4 (zac d) ha k ?_;refine drawn Yz ?_;refine Z5 (zac x) (zac a) ?_;refine zai (HX) Yy ?_;refine Y1 ?_
   first|kernel_rfl|(refine⟨Yz,?_⟩;first|exact⟨rfl,rfl⟩|(simp -implicitDefEqProofs only[go_sem]))
  ·rw[if_neg (by rw[k];decide)];generalize zcx za2 p.label a y=z at HY⊢;simp only[ntD,zac p,hp,e,Qc,Qi,zac y,zac a,zac z]at HY⊢;refine zae Tryz.call102 Tryz.func102 rfl Yz (zao Yz) ?_;refine Z4 (zac d) ha k ?_;refine drawn Yz ?_;refine Z5 (zac y) (zac a) ?_;refine zai (HY) Yy ?_;refine Y1 ?_
   first|kernel_rfl|(refine⟨Yz,?_⟩;first|exact⟨rfl,rfl⟩|(simp -implicitDefEqProofs only[go_sem]))
 ·have hwd:=hw.sub d (by rw[hp];simp);have hwa:=hwd.sub a (by rw[ha];simp);have hgd:=zbb hg hp (x:=d) (by simp);have HX:=zju d.label x (hw.sub x (by rw[hp];simp)) a hwa (zdz a (zbb hgd ha (by simp)));rw[zxg (e.imp And.left And.left) hp ha];generalize zcx za2 d.label x a=z at HX⊢;rcases e with⟨e,k⟩|⟨e,k⟩
  ·simp only[ntD,zac p,hp,e,Qc,Qi,zac x,zac a,zac z]at HX⊢;refine zae Tryz.call102 Tryz.func102 rfl Yz (zao Yz) ?_;refine Z4 (zac d) ha k ?_;refine drawn Yz ?_;refine Z5 (zac x) (zac a) ?_;refine zai (HX) Yy ?_;refine Y1 ?_
   first|kernel_rfl|(refine⟨Yz,?_⟩;first|exact⟨rfl,rfl⟩|(simp -implicitDefEqProofs only[go_sem]))
  ·simp only[ntD,zac p,hp,e,Qc,Qi,zac x,zac a,zac z]at HX⊢;refine zae Tryz.call102 Tryz.func102 rfl Yz (zao Yz) ?_;refine Z4 (zac d) ha k ?_;refine drawn Yz ?_;refine Z5 (zac x) (zac a) ?_;refine zai (HX) Yy ?_;refine Y1 ?_
   first|kernel_rfl|(refine⟨Yz,?_⟩;first|exact⟨rfl,rfl⟩|(simp -implicitDefEqProofs only[go_sem]))
 ·have hgd:=zbb hg hp (x:=d) (by simp);have hga:=zbb hgd ha (x:=a) (by simp);have HR:=znl d.term.name p.term (zgf (zfk hg Y0)) a (zc0 a hga);rw[zwv e hp ha];generalize zfs d.term.name p.term a=z at HR⊢;obtain⟨z,c⟩:=z;simp only at HR⊢;simp only[ntD,zac p,hp,e,Qc,Qi,zac a,zac z,tmD,zab p.term]at HR⊢;refine zae Tryz.call102 Tryz.func102 rfl Yz (zao Yz) ?_;refine Z4 (zac d) ha k ?_;refine drawn Yz ?_;refine Xa (zac a) ?_;refine zai (HR) Yy ?_;refine Y1 ?_
  first|kernel_rfl|(refine⟨Yz,?_⟩;first|exact⟨rfl,rfl⟩|(simp -implicitDefEqProofs only[go_sem]))
 ·have hwd:=hw.sub d (by rw[hp];simp);have hwa:=hwd.sub a (by rw[ha];simp);have hgd:=zbb hg hp (x:=d) (by simp);have hgx:=zbb hg hp (x:=x) (by simp);have hxn:=zc5 hp (x:=x) (by simp);have hgt:=zfk hgd Y0;have HR:=znl p.term.name d.term (zgf hgt) x (zc0 x hgx);have hfo:=zl9 _ (zrf (n:=p.term.name) hgt x hgx) (by rw[zjf];omega);have HI:=zju p.label a hwa (zfs p.term.name d.term x).1 hfo (qez p.term.name d.term x (zdz x hgx));rw[zvc e hp ha];generalize zcx za2 p.label a (zfs p.term.name d.term x).1=y at HI⊢;generalize zfs p.term.name d.term x=z at HR HI⊢;obtain⟨z,c⟩:=z;simp only at HR HI⊢;simp only[ntD,zac p,hp,e,Qc,Qi,zac a,zac x,zac y,zac z,tmD,zab d.term]at HR HI⊢;refine zae Tryz.call102 Tryz.func102 rfl Yz (zao Yz) ?_;refine Z4 (zac d) ha k ?_;refine drawn Yz ?_;refine Xa (zac x) ?_;refine zai (HR) Yy ?_;refine Y1 ?_;refine⟨Yz,?_⟩;refine drawn Yz ?_;refine Xa (zac a) ?_;refine zai (HI) Yy ?_;refine Y1 ?_
  first|kernel_rfl|(refine⟨Yz,?_⟩;first|exact⟨rfl,rfl⟩|(simp -implicitDefEqProofs only[go_sem]))
theorem zxc (p:Nt)(hw:Fit p)(hg:p.gdn=true)(hn:p.nodes<=60)(hd:znx p=true):FC Tryz.prog 127 [ntD p] [ntD (qcc p).1,bD (qcc p).2]:=by
 rcases zlt (zdz p hg) hd with⟨d,a,b,e,hp,k,ha⟩|⟨d,x,y,a,e,hp,k,ha⟩|⟨d,x,a,e,hp,ha⟩|⟨d,a,e,hp,k,ha⟩|⟨d,x,a,e,hp,k,ha⟩
 ·have hwd:=hw.sub d (by rw[hp];simp);have HA:=zfc a (hwd.sub a (by rw[ha];simp));have HB:=zfc b (hwd.sub b (by rw[ha];simp));rw[qq2 e hp ha];rcases e with e|e
  ·rw[if_pos e];simp only[ntD,zac p,hp,e,Qc,Qi,zac a]at HA⊢;refine zae Tryz.call127 Tryz.func127 rfl Yz (zao Yz) ?_;refine Z0 (zac d) ha (zac a) ?_;refine callF (HA) Yy ?_;exact Yy
  ·rw[if_neg (by rw[e];decide)];simp only[ntD,zac p,hp,e,Qc,Qi,zac b]at HB⊢;refine zae Tryz.call127 Tryz.func127 rfl Yz (zao Yz) ?_;refine Z0 (zac d) ha (zac b) ?_;refine callF (HB) Yy ?_;exact Yy
 ·have hwd:=hw.sub d (by rw[hp];simp);have hwa:=hwd.sub a (by rw[ha];simp);have HX:=ze9 p.label a hwa x (hw.sub x (by rw[hp];simp));have HY:=ze9 p.label a hwa y (hw.sub y (by rw[hp];simp));rw[qh3 e hp k ha];rcases k with k|k
  ·rw[if_pos k];generalize zcx za7 p.label a x=z at HX⊢;simp only[ntD,zac p,hp,e,Qc,Qi,zac x,zac a,zac z]at HX⊢;refine zae Tryz.call127 Tryz.func127 rfl Yz (zao Yz) ?_;refine Z0 (zac d) ha k ?_;refine drawn Yz ?_;refine Z5 (zac x) (zac a) ?_;refine zai (HX) Yy ?_;refine Y1 ?_
   first|kernel_rfl|(refine⟨Yz,?_⟩;first|exact⟨rfl,rfl⟩|(simp -implicitDefEqProofs only[go_sem]))
  ·rw[if_neg (by rw[k];decide)];generalize zcx za7 p.label a y=z at HY⊢;simp only[ntD,zac p,hp,e,Qc,Qi,zac y,zac a,zac z]at HY⊢;refine zae Tryz.call127 Tryz.func127 rfl Yz (zao Yz) ?_;refine Z0 (zac d) ha k ?_;refine drawn Yz ?_;refine Z5 (zac y) (zac a) ?_;refine zai (HY) Yy ?_;refine Y1 ?_
   first|kernel_rfl|(refine⟨Yz,?_⟩;first|exact⟨rfl,rfl⟩|(simp -implicitDefEqProofs only[go_sem]))
 ·have hwd:=hw.sub d (by rw[hp];simp);have hwa:=hwd.sub a (by rw[ha];simp);have hgd:=zbb hg hp (x:=d) (by simp);have HX:=ze9 d.label x (hw.sub x (by rw[hp];simp)) a hwa;rw[qjl (e.imp And.left And.left) hp ha];generalize zcx za7 d.label x a=z at HX⊢;rcases e with⟨e,k⟩|⟨e,k⟩
  ·simp only[ntD,zac p,hp,e,Qc,Qi,zac x,zac a,zac z]at HX⊢;refine zae Tryz.call127 Tryz.func127 rfl Yz (zao Yz) ?_;refine Z0 (zac d) ha k ?_;refine drawn Yz ?_;refine Z5 (zac x) (zac a) ?_;refine zai (HX) Yy ?_;refine Y1 ?_
   first|kernel_rfl|(refine⟨Yz,?_⟩;first|exact⟨rfl,rfl⟩|(simp -implicitDefEqProofs only[go_sem]))
  ·simp only[ntD,zac p,hp,e,Qc,Qi,zac x,zac a,zac z]at HX⊢;refine zae Tryz.call127 Tryz.func127 rfl Yz (zao Yz) ?_;refine Z0 (zac d) ha k ?_;refine drawn Yz ?_;refine Z5 (zac x) (zac a) ?_;refine zai (HX) Yy ?_;refine Y1 ?_
   first|kernel_rfl|(refine⟨Yz,?_⟩;first|exact⟨rfl,rfl⟩|(simp -implicitDefEqProofs only[go_sem]))
 ·have hgd:=zbb hg hp (x:=d) (by simp);have hga:=zbb hgd ha (x:=a) (by simp);have HR:=zk1 d.term.name p.term (zgf (zfk hg Y0)) a hga;rw[qet e hp ha];generalize zei d.term.name p.term a=z at HR⊢;obtain⟨z,c⟩:=z;simp only at HR⊢;simp only[ntD,zac p,hp,e,Qc,Qi,zac a,zac z,tmD,zab p.term]at HR⊢;refine zae Tryz.call127 Tryz.func127 rfl Yz (zao Yz) ?_;refine Z0 (zac d) ha k ?_;refine drawn Yz ?_;refine Xa (zac a) ?_;refine zai (HR) Yy ?_;refine Y1 ?_
  first|kernel_rfl|(refine⟨Yz,?_⟩;first|exact⟨rfl,rfl⟩|(simp -implicitDefEqProofs only[go_sem]))
 ·have hwd:=hw.sub d (by rw[hp];simp);have hwa:=hwd.sub a (by rw[ha];simp);have hgd:=zbb hg hp (x:=d) (by simp);have hgx:=zbb hg hp (x:=x) (by simp);have hxn:=zc5 hp (x:=x) (by simp);have hgt:=zfk hgd Y0;have HR:=zk1 p.term.name d.term (zgf hgt) x hgx;obtain⟨r1,r2⟩:=zlz (n:=p.term.name) (t:=d.term) (Nt.gdn_var hg (Or.inr e)) hgt x hgx;rw[qd3 e hp ha];cases hc:(zei p.term.name d.term x).2
  ·rw[hc]at HR;rw[if_neg (by simp)];generalize (zei p.term.name d.term x).1=z at HR;simp only[ntD,zac p,hp,e,Qc,Qi,zac x,zac z,zdc,tmD,zab d.term]at HR⊢;refine zae Tryz.call127 Tryz.func127 rfl Yz (zao Yz) ?_;refine Z0 (zac d) ha k ?_;refine drawn Yz ?_;refine Xa (zac x) ?_;refine zai (HR) Yy ?_;refine Y1 ?_
   first|kernel_rfl|(refine⟨Yz,?_⟩;simp -implicitDefEqProofs only[go_sem];exact⟨rfl,rfl⟩)
  ·rw[hc]at HR r1;rw[if_pos rfl];have hfo:=zl9 _ (zrf (n:=p.term.name) hgt x hgx) (by rw[zjf];omega);rw[r2 r1]at hfo;have HI:=ze9 p.label a hwa (zei p.term.name d.term x).1 hfo;generalize zcx za7 p.label a (zei p.term.name d.term x).1=y at HI⊢;generalize (zei p.term.name d.term x).1=z at HR HI;simp only[ntD,zac p,hp,e,Qc,Qi,zac a,zac x,zac y,zac z,tmD,zab d.term]at HR HI⊢;refine zae Tryz.call127 Tryz.func127 rfl Yz (zao Yz) ?_;refine Z0 (zac d) ha k ?_;refine drawn Yz ?_;refine Xa (zac x) ?_;refine zai (HR) Yy ?_;refine Y1 ?_;refine⟨Yz,?_⟩;refine drawn Yz ?_;refine Xa (zac a) ?_;refine zai (HI) Yy ?_;refine Y1 ?_
   first|kernel_rfl|(refine⟨Yz,?_⟩;first|exact⟨rfl,rfl⟩|(simp -implicitDefEqProofs only[go_sem]))
theorem zqm {pos:List Int}{p:Nt}(hp:Path pos p):Fit p->p.gdn=true->p.nodes<=60->FC Tryz.prog 76 [ntD p,.one (ze2 pos)] [ntD (atI pos p).1,bD (atI pos p).2]:=by
 induction hp with
 | @here p h =>
  intro hw hg hn;have HD:=qme p hw hg hn h;show FC _ _ [ntD p,.one (.sl 1 [])] [ntD (ztu p).1,bD (ztu p).2]
  generalize ztu p=z at HD⊢;obtain⟨z,c⟩:=z;simp only at HD⊢;simp only[ntD,zac p,zac z]at HD⊢;refine zae Tryz.call76 Tryz.func76 rfl Yz (zao Yz) ?_;simp -implicitDefEqProofs only[go_sem,Tryz.results76,Qs];refine callF (HD) Yy ?_;exact Yy
 | @down p k pos h h2 ih =>
  intro hw hg hn;have hk:=Qk h;have hnk:=zhp hk;have HC:=ih (hw.sub _ hk) ((Nt.gdn_is hg).2.2.2 _ hk) Y0;have HO:=zdb p hw;have hl0:(((pos.length+1:Nat):Int)==0)=false:=by rw[Jd];omega
  have hl1:(0<((pos.length+1:Nat):Int))=True:=eq_true Y0;have htk:(pos.map λs=>[T.int .i64 s]).take pos.length=pos.map λs=>[T.int .i64 s]:=Qr (by simp);have hl2:(1<=((pos.length+1:Nat):Int))=True:=eq_true Y0;have hset:∀y,zep (p.parts.map ntC) k 0 (ntC y)=(p.parts.set k y).map ntC:=λy=>zqr ntC p.parts k y h (by rw[zac,zac];rfl);rw[atI,zpz h,K4];generalize atI pos p.parts[k]=z at HC⊢;obtain⟨z,c⟩:=z;simp only at HC⊢;have hset:=hset z;simp only[ntD,zac p,zbe,zac p.parts[k],zac z,ze2]at HC HO hset⊢;refine zae Tryz.call76 Tryz.func76 rfl Yz (zao Yz) ?_;simp -implicitDefEqProofs only[go_sem,Tryz.results76,Qc,Qg,hl0];refine callF (HO) Yy ?_;refine Y1 ?_;refine drawn Yz ?_;refine Vx ?_;refine zai (HC) Vy ?_;simp -implicitDefEqProofs only[go_sem,htk,ze2];refine⟨Yz,?_⟩;refine drawn Yz ?_;simp -implicitDefEqProofs only[go_sem,Qc,Qg,Qh,K4,Jx,h,Qa,hl1,hl2];refine znr (by simp -implicitDefEqProofs only[go_sem,h,Qa,K4,Jx];simp) ?_;simp -implicitDefEqProofs only[go_sem,h,Qa,hset,K4]
  first|kernel_rfl|(refine⟨Yz,?_⟩;first|exact⟨rfl,rfl⟩|(simp -implicitDefEqProofs only[go_sem]))
theorem qs3 {pos:List Int}{p:Nt}(hp:Path pos p):Fit p->p.gdn=true->p.nodes<=60->FC Tryz.prog 101 [ntD p,.one (ze2 pos)] [ntD (atS pos p).1,bD (atS pos p).2]:=by
 induction hp with
 | @here p h =>
  intro hw hg hn;have HD:=zxc p hw hg hn h;show FC _ _ [ntD p,.one (.sl 1 [])] [ntD (qcc p).1,bD (qcc p).2]
  generalize qcc p=z at HD⊢;obtain⟨z,c⟩:=z;simp only at HD⊢;simp only[ntD,zac p,zac z]at HD⊢;refine zae Tryz.call101 Tryz.func101 rfl Yz (zao Yz) ?_;simp -implicitDefEqProofs only[go_sem,Tryz.results101,Qs];refine callF (HD) Yy ?_;exact Yy
 | @down p k pos h h2 ih =>
  intro hw hg hn;have hk:=Qk h;have hnk:=zhp hk;have HC:=ih (hw.sub _ hk) ((Nt.gdn_is hg).2.2.2 _ hk) Y0;have HO:=zfc p hw;have hl0:(((pos.length+1:Nat):Int)==0)=false:=by rw[Jd];omega
  have hl1:(0<((pos.length+1:Nat):Int))=True:=eq_true Y0;have htk:(pos.map λs=>[T.int .i64 s]).take pos.length=pos.map λs=>[T.int .i64 s]:=Qr (by simp);have hl2:(1<=((pos.length+1:Nat):Int))=True:=eq_true Y0;have hset:∀y,zep (p.parts.map ntC) k 0 (ntC y)=(p.parts.set k y).map ntC:=λy=>zqr ntC p.parts k y h (by rw[zac,zac];rfl);rw[atS,zpz h,K4];generalize atS pos p.parts[k]=z at HC⊢;obtain⟨z,c⟩:=z;simp only at HC⊢;have hset:=hset z;cases c
  ·rw[if_neg (by simp)];simp only[ntD,zac p,zdc,zac p.parts[k],zac z,ze2]at HC HO⊢;refine zae Tryz.call101 Tryz.func101 rfl Yz (zao Yz) ?_;simp -implicitDefEqProofs only[go_sem,Tryz.results101,Qc,Qg,hl0];refine callF (HO) Yy ?_;refine Y1 ?_;refine drawn Yz ?_;refine Vx ?_;refine zai (HC) Vy ?_;simp -implicitDefEqProofs only[go_sem,htk,ze2]
   first|kernel_rfl|(refine⟨Yz,?_⟩;simp -implicitDefEqProofs only[go_sem];exact⟨rfl,rfl⟩)
  ·rw[if_pos rfl];simp only[ntD,zac p,zbe,zac p.parts[k],zac z,ze2]at HC HO hset⊢;refine zae Tryz.call101 Tryz.func101 rfl Yz (zao Yz) ?_;simp -implicitDefEqProofs only[go_sem,Tryz.results101,Qc,Qg,hl0];refine callF (HO) Yy ?_;refine Y1 ?_;refine drawn Yz ?_;refine Vx ?_;refine zai (HC) Vy ?_;simp -implicitDefEqProofs only[go_sem,htk,ze2];refine⟨Yz,?_⟩;refine drawn Yz ?_;simp -implicitDefEqProofs only[go_sem,Qc,Qg,Qh,K4,Jx,h,Qa,hl1,hl2];refine znr (by simp -implicitDefEqProofs only[go_sem,h,Qa,K4,Jx];simp) ?_;simp -implicitDefEqProofs only[go_sem,h,Qa,hset,K4]
   first|kernel_rfl|(refine⟨Yz,?_⟩;first|exact⟨rfl,rfl⟩|(simp -implicitDefEqProofs only[go_sem]))
end
section
open Go.RowKit
theorem qrg {p:Nt}(h:zeg p=false):rmI p=(zN,false):=by unfold rmI;rw[if_neg (by rw[h];simp)]
theorem zya {p:Nt}(h:zeg p=true)(hd:dtr p=none):rmI p=(zN,false):=by unfold rmI;rw[if_pos h,hd]
theorem zz4 {p:Nt}(h:zeg p=true){pos:List Int}(hd:dtr p=some pos):rmI p=if((atI pos p).2&&zeg (atI pos p).1)=true then ((atI pos p).1,true)else (zN,false):=by unfold rmI;rw[if_pos h,hd]
theorem zib (p:Nt)(hw:Fit p):FC Tryz.prog 38 [ntD p] [ntD (rmI p).1,bD (rmI p).2]:=by
 have HF:=zqo p hw
 have e0:ze2 []=.sl 1 []:=rfl
 cases hv:zeg p
 ·have e:fdI p=([],false,false):=by unfold fdI;rw[if_neg (by rw[hv];simp)]
  rw[e]at HF;rw[qrg hv];simp only[ntD,zac p,zdc,e0]at HF⊢;refine zae Tryz.call38 Tryz.func38 rfl Yz (zao Yz) ?_;refine Xy ?_;refine callF (HF) Yy ?_;exact Yy
 ·have e:fdI p=((dtr p).getD [],(dtr p).isSome,true):=by unfold fdI;rw[if_pos hv]
  rw[e]at HF;cases hdt:dtr p with
  | none =>
   rw[hdt]at HF;rw[zya hv hdt];simp only[ntD,zac p,zdc,Option.getD_none,Yp,e0]at HF⊢;refine zae Tryz.call38 Tryz.func38 rfl Yz (zao Yz) ?_;refine Xy ?_;refine callF (HF) Yy ?_;exact Yy
  | some pos =>
   rw[hdt]at HF;obtain⟨g1,g2⟩:=zho hv;have HP:=zqm (zi0 p pos hdt) hw g1 g2;have hfit:=qrj hv hdt;have HIf:=znj (atI pos p).1 hfit;rw[zz4 hv hdt];generalize atI pos p=z at HP HIf⊢;obtain⟨z,c⟩:=z;simp only[Kq,Jv]at HF HP HIf⊢;cases c
   ·rw[Qx,if_neg (by simp)];simp only[ntD,zac p,zdc,zac z]at HF HP⊢;refine zae Tryz.call38 Tryz.func38 rfl Yz (zao Yz) ?_;refine Xy ?_;refine callF (HF) Yy ?_;refine Y1 ?_;refine callF (HP) Yy ?_;exact Yy
   ·rw[Qv];have e2:(if zeg z=true then (z,true)else (zN,false))=((if zeg z=true then z else zN),zeg z):=by cases zeg z<;>rfl
    rw[e2];generalize (if zeg z=true then z else zN)=y at HIf⊢;generalize zeg z=b at HIf⊢;simp only[ntD,zac p,zac z,zac y]at HF HP HIf⊢;refine zae Tryz.call38 Tryz.func38 rfl Yz (zao Yz) ?_;refine Xy ?_;refine callF (HF) Yy ?_;refine Y1 ?_;refine callF (HP) Yy ?_;refine Y1 ?_;refine zem [2] [31] [] (HIf) Yy Yy Yy Yy ?_;exact Yy
theorem zkx (p:Nt)(hv:zeg p=true):FC Tryz.prog 75 [ntD p] [ntD (rmI p).1,bD (rmI p).2]:=by
 have hw:=znq hv
 obtain⟨g1,g2⟩:=zho hv
 have HF:=zvh p hw [] (by simp;omega)
 rw[qvx]at HF
 have e0:ze2 []=.sl 1 []:=rfl
 cases hdt:dtr p with
 | none =>
  rw[hdt]at HF;rw[zya hv hdt];simp only[ntD,zac p,zdc,Option.getD_none,Yp,e0]at HF⊢;refine zae Tryz.call75 Tryz.func75 rfl Yz (zao Yz) ?_;refine Xz ?_;refine zno Yy ?_;refine Y1 ?_;refine callR (HF) Yy ?_;exact Yy
 | some pos =>
  rw[hdt]at HF;have HP:=qs3 (zi0 p pos hdt) hw g1 g2;have hfit:=qrj hv hdt;obtain⟨a1,a2⟩:=qm7 (zi0 p pos hdt) g1;have HG:=zka (atI pos p).1 hfit;rw[zz4 hv hdt];cases hc:(atI pos p).2
  ·rw[hc]at a1;rw[<-a1]at HP;rw[Qx,if_neg (by simp)];generalize (atS pos p).1=z at HP;simp only[ntD,zac p,zdc,zac z,Kq,Jv,e0]at HF HP⊢;refine zae Tryz.call75 Tryz.func75 rfl Yz (zao Yz) ?_;refine Xz ?_;refine zno Yy ?_;refine Y1 ?_;refine callR (HF) Yy ?_;refine Y1 ?_;refine callF (HP) Yy ?_;exact Yy
  ·rw[<-a1,<-a2 hc,hc]at HP;rw[Qv];generalize (atI pos p).1=z at HP HG⊢;cases hb:zeg z
   ·rw[hb]at HG;rw[if_neg (by simp)];simp only[ntD,zac p,zdc,zac z,Kq,Jv,e0]at HF HP HG⊢;refine zae Tryz.call75 Tryz.func75 rfl Yz (zao Yz) ?_;refine Xz ?_;refine zno Yy ?_;refine Y1 ?_;refine callR (HF) Yy ?_;refine Y1 ?_;refine callF (HP) Yy ?_;refine Y1 ?_;refine callF (HG) Yy ?_;exact Yy
   ·rw[hb]at HG;rw[if_pos rfl];simp only[ntD,zac p,zac z,Kq,Jv,e0]at HF HP HG⊢;refine zae Tryz.call75 Tryz.func75 rfl Yz (zao Yz) ?_;refine Xz ?_;refine zno Yy ?_;refine Y1 ?_;refine callR (HF) Yy ?_;refine Y1 ?_;refine callF (HP) Yy ?_;refine Y1 ?_;refine callF (HG) Yy ?_;exact Yy
theorem zml (p:Nt)(hw:Fit p):FC Tryz.prog 37 [ntD p] [ntD (rmI p).1,bD (rmI p).2]:=by
 have HV:=zka p hw
 cases hv:zeg p
 ·rw[hv]at HV;rw[qrg hv];simp only[ntD,zac p,zdc]at HV⊢;refine zae Tryz.call37 Tryz.func37 rfl Yz (zao Yz) ?_;simp -implicitDefEqProofs only[go_sem,Tryz.results37];refine callF (HV) Yy ?_;exact Yy
 ·rw[hv]at HV;have HR:=zkx p hv;generalize rmI p=z at HR⊢;obtain⟨z,c⟩:=z;simp only at HR⊢;simp only[ntD,zac p,zac z]at HV HR⊢;refine zae Tryz.call37 Tryz.func37 rfl Yz (zao Yz) ?_;simp -implicitDefEqProofs only[go_sem,Tryz.results37];refine callF (HV) Yy ?_;refine Y1 ?_;refine callF (HR) Yy ?_;exact Yy
noncomputable def nzI (p:Nt)(l:Int):Nt×Int×Bool:=if(zeg p&&inB l 0 60)=true then ((nmI l.toNat 0 p).1,(nmI l.toNat 0 p).2,true)else (zN,0,false)
def nmS (sl:List (Nat×V))(q:Nt)(e1 e2 e3 e4:Nat):St:=hd sl [(4,zNB),(7,[.t (.int .i64 q.rule),.t (.int .i64 q.form.op),.t (.str q.form.atom.name),.ow e1 0,.t (.str q.form.var),.ow e2 0,.t (.int .i64 q.label),.t (.str q.term.name),.ow e3 0,.ow e4 0])] [(e1,⟨true,2,q.form.atom.args.map tmC,0,true⟩),(e2,⟨true,5,q.form.parts.map fmC,0,true⟩),(e3,⟨true,2,q.term.args.map tmC,0,true⟩),(e4,⟨true,10,q.parts.map ntC,0,true⟩)]
attribute [go_sem] nmS
abbrev nmL (l n:Int):List (Nat×V):=[(1,vI l),(4,.one (.bx 4 0)),(7,.one (.bx 7 0)),(22,vI l),(23,vI n)]
abbrev nmM (l n:Int):List (Nat×V):=[(1,vI l),(4,.one (.bx 4 0)),(7,.one (.bx 7 0)),(8,vI n)]
theorem qum (l n:Int)(q:Nt):Wk (nmS (nmL l n) q 899 901 904 905) (nmS (nmL l n) q 675 677 680 681) :=
 (show Wk _ (nmS (nmL l n) q 675 901 904 905) from zi1 899 675 _ _ _).trans ((show Wk _ (nmS (nmL l n) q 675 677 904 905) from zi1 901 677 _ _ _).trans ((show Wk _ (nmS (nmL l n) q 675 677 680 905) from zi1 904 680 _ _ _).trans (zi1 905 681 _ _ _)))
theorem qtl (l n:Int)(q:Nt):Wk (nmS (nmM l n) q 867 869 872 873) (nmS (nmM l n) q 675 677 680 681) :=
 (show Wk _ (nmS (nmM l n) q 675 869 872 873) from zi1 867 675 _ _ _).trans ((show Wk _ (nmS (nmM l n) q 675 677 872 873) from zi1 869 677 _ _ _).trans ((show Wk _ (nmS (nmM l n) q 675 677 680 873) from zi1 872 680 _ _ _).trans (zi1 873 681 _ _ _)))
theorem zla (p:Nt)(l:Int)(hw:Fit p):FC Tryz.prog 40 [ntD p,iD l] [ntD (nzI p l).1,iD (nzI p l).2.1,bD (nzI p l).2.2]:=by
 have HV:=zjd p hw
 have HI:=zfg l 0 60
 cases hv:zeg p
 ·have e:nzI p l=(zN,0,false):=by unfold nzI;rw[if_neg (by rw[hv];simp)]
  rw[hv]at HV;rw[e];simp only[ntD,zac p,zdc]at HV⊢;refine zae Tryz.call40 Tryz.func40 rfl Yz (zao Yz) ?_;simp -implicitDefEqProofs only[go_sem,Tryz.results40];refine callF (HV) Yy ?_;exact Yy
 ·rw[hv]at HV;cases hi:inB l 0 60
  ·have e:nzI p l=(zN,0,false):=by unfold nzI;rw[if_neg (by rw[hi];simp)]
   rw[hi]at HI;rw[e];simp only[ntD,zac p,zdc]at HV⊢;refine zae Tryz.call40 Tryz.func40 rfl Yz (zao Yz) ?_;simp -implicitDefEqProofs only[go_sem,Tryz.results40];refine callF (HV) Yy ?_;refine Y1 ?_;refine callF (HI) Yy ?_;exact Yy
  ·rw[hi]at HI;have hl:0<=l/\l<=60:=by unfold inB at hi;simpa using hi
   obtain⟨m,rfl⟩:∃m:Nat,l=(m:Int):=⟨l.toNat,Y0⟩;have e:nzI p m=((nmI m 0 p).1,((nmI m 0 p).2:Int),true):=by
    unfold nzI;rw[hv,hi,Yj,if_pos rfl,K4]
   rw[e];have HO:=zdb p hw;simp only[ntD,zac p]at HV HO⊢;refine zae Tryz.call40 Tryz.func40 rfl Yz (zao Yz) ?_;simp -implicitDefEqProofs only[go_sem,Tryz.results40];refine callF (HV) Yy ?_;refine Y1 ?_;refine callF (HI) Yy ?_;refine Y1 ?_;refine callF (HO) Yy ?_;refine Y1 ?_;refine zah (λx:Nat×Nt=>nmS (nmL m x.1) x.2 675 677 680 681) (λx=>x.1<=m/\zeg x.2=true/\nmI m 0 p=nmI (m-x.1) x.1 x.2) (λx=>m-x.1) (0,p) (zad ?_) ⟨Kc _,hv,rfl⟩ ?_
   ·exact Yy
   ·rintro⟨k,q⟩ ⟨hk,hq,hn⟩;simp only at hk hq hn;by_cases hlt:k<m
    ·have HR:=zib q (znq hq);have hmk:m-k=(m-(k+1))+1:=by omega
     rw[hmk,nmI]at hn;have hrv:=λh=>zzt (p:=q) h;generalize rmI q=z at HR hn hrv;obtain⟨z,c⟩:=z;simp only at HR hn hrv;cases c
     ·rw[if_neg (by simp)]at hn;rw[hn];simp only[ntD,zac q,zac z]at HR⊢;refine Vd ?_;refine callF (HR) Yy ?_;exact Yy
     ·rw[if_pos rfl]at hn;simp only[ntD,zac q,zac z]at HR;refine Vd ?_;refine callF (HR) Yy ?_;refine Y1 ?_;rw[zaq Y0];refine⟨(k+1,z),⟨hlt,hrv rfl,hn⟩,by simp only;omega,Wk.trans (zad ?_) (qum m ((k+1:Nat):Int) z)⟩;exact Yy
    ·have hkm:k=m:=by omega
     subst hkm;rw[Ys,nmI]at hn;rw[hn];simp only[zac q];exact Y3 hlt
theorem zkg (p:Nt)(l:Int)(hw:Fit p):FC Tryz.prog 39 [ntD p,iD l] [ntD (nzI p l).1,iD (nzI p l).2.1,bD (nzI p l).2.2]:=by
 have HV:=zka p hw
 have HI:=zpc l 0 60
 cases hv:zeg p
 ·have e:nzI p l=(zN,0,false):=by unfold nzI;rw[if_neg (by rw[hv];simp)]
  rw[hv]at HV;rw[e];simp only[ntD,zac p,zdc]at HV⊢;refine zae Tryz.call39 Tryz.func39 rfl Yz (zao Yz) ?_;simp -implicitDefEqProofs only[go_sem,Tryz.results39];refine callF (HV) Yy ?_;exact Yy
 ·rw[hv]at HV;cases hi:inB l 0 60
  ·have e:nzI p l=(zN,0,false):=by unfold nzI;rw[if_neg (by rw[hi];simp)]
   rw[hi]at HI;rw[e];simp only[ntD,zac p,zdc]at HV⊢;refine zae Tryz.call39 Tryz.func39 rfl Yz (zao Yz) ?_;simp -implicitDefEqProofs only[go_sem,Tryz.results39];refine callF (HV) Yy ?_;refine Y1 ?_;refine callF (HI) Yy ?_;exact Yy
  ·rw[hi]at HI;have hl:0<=l/\l<=60:=by unfold inB at hi;simpa using hi
   obtain⟨m,rfl⟩:∃m:Nat,l=(m:Int):=⟨l.toNat,Y0⟩;have e:nzI p m=((nmI m 0 p).1,((nmI m 0 p).2:Int),true):=by
    unfold nzI;rw[hv,hi,Yj,if_pos rfl,K4]
   rw[e];have HO:=zfc p hw;simp only[ntD,zac p]at HV HO⊢;refine zae Tryz.call39 Tryz.func39 rfl Yz (zao Yz) ?_;simp -implicitDefEqProofs only[go_sem,Tryz.results39];refine callF (HV) Yy ?_;refine Y1 ?_;refine callF (HI) Yy ?_;refine Y1 ?_;refine callF (HO) Yy ?_;refine Y1 ?_;refine zah (λx:Nat×Nt=>nmS (nmM m x.1) x.2 675 677 680 681) (λx=>x.1<=m/\zeg x.2=true/\nmI m 0 p=nmI (m-x.1) x.1 x.2) (λx=>m-x.1) (0,p) (zad ?_) ⟨Kc _,hv,rfl⟩ ?_
   ·exact Yy
   ·rintro⟨k,q⟩ ⟨hk,hq,hn⟩;simp only at hk hq hn;by_cases hlt:k<m
    ·have HR:=zkx q hq;have hmk:m-k=(m-(k+1))+1:=by omega
     rw[hmk,nmI]at hn;have hrv:=λh=>zzt (p:=q) h;generalize rmI q=z at HR hn hrv;obtain⟨z,c⟩:=z;simp only at HR hn hrv;cases c
     ·rw[if_neg (by simp)]at hn;rw[hn];simp only[ntD,zac q,zac z]at HR⊢;refine Vd ?_;refine callF (HR) Yy ?_;exact Yy
     ·rw[if_pos rfl]at hn;simp only[ntD,zac q,zac z]at HR;refine Vd ?_;refine callF (HR) Yy ?_;refine Y1 ?_;rw[zaq Y0];refine⟨(k+1,z),⟨hlt,hrv rfl,hn⟩,by simp only;omega,Wk.trans (zad ?_) (qtl m ((k+1:Nat):Int) z)⟩;exact Yy
    ·have hkm:k=m:=by omega
     subst hkm;rw[Ys,nmI]at hn;rw[hn];simp only[zac q];exact Y3 hlt
end
section
open Go.RowKit
theorem qr6:zN.wt=0:=rfl
theorem rmI_wt (d:Nt):(rmI d).1.wt<=1073741824:=by
 cases hb:(rmI d).2
 ·have:(rmI d).1=zN:=by
   unfold rmI at hb⊢;split
   ·rename_i h;rw[if_pos h]at hb;cases hd:dtr d with
    | none=>rfl
    | some pos =>
     rw[hd]at hb;simp only at hb⊢;split
     ·rename_i h2;rw[if_pos h2]at hb;cases hb
     ·rfl
   ·rfl
  rw[this,qr6];omega
 ·exact(znq (zzt hb)).all
theorem qew:∀(k n:Nat)(p:Nt),zeg p=true->zeg (nmI k n p).1=true
 | 0,n,p,h=>h
 | k+1,n,p,h=>by
  rw[nmI];split
  ·rename_i hb;exact qew k (n+1) _ (zzt hb)
  ·exact h
theorem nzI_wt (d:Nt)(l:Int):(nzI d l).1.wt<=1073741824:=by
 unfold nzI
 split
 ·rename_i h;rw[Qb]at h;exact(znq (qew _ _ d h.1)).all
 ·show zN.wt<=_
  rw[qr6];omega
theorem qtj (p:Nt)(l:Int)(q:Nt):(qm1 p l q).1.wt<=1073741824:=by
 unfold qm1
 split
 ·rename_i h;rw[Qb]at h;exact(znq h.2).all
 ·show zN.wt<=_
  rw[qr6];omega
theorem qs4 (d:Nt):FC Tryz.prog 9 [ntD d] [bD true]:=by
 have HZ:=zgl d 1048576 Y0 Y0
 simp only[ntD,zac d]at HZ⊢
 refine zgr Tryz.call9 Tryz.func9 rfl Yz (zao Yz) ?_
 simp -implicitDefEqProofs only[go_sem,Tryz.results9]
 refine callF (HZ) Yy ?_
 refine Y1 ?_
 refine⟨λh=>trivial,λh=>?_⟩
 have hw:d.wt<=1048576:=by have:=(zed (by simpa using h)).1;omega
 have HS:=zml d (Fit.of d hw)
 have HI:=zib d (Fit.of d hw)
 have HT:=zgk d hw
 have HE:=zdj d d
 have hrl:=rmI_wt d
 generalize rmI d=A at HS HI hrl
 obtain⟨R,G⟩:=A
 simp only at HS HI hrl
 have HF:=zdj R R
 simp only[ntD,zac d,zac R]at HS HI HT HE HF
 refine callF (HT) Yy ?_
 refine Y1 ?_
 refine callF (HS) Yy ?_
 refine Y1 ?_
 refine callF (HT) Yy ?_
 refine Y1 ?_
 refine callF (HI) Yy ?_
 refine Y1 ?_
 refine callF (HF) Xg ?_
 refine Xh ?_
 refine drawn Yz ?_
 refine Y1 ?_
 refine zai (HT) Yy ?_
 refine Y1 ?_
 refine zai (HE) Yy ?_
 refine Y1 ?_
 refine⟨Yz,λh=>?_,λ_=>?_⟩
 ·simp[za3]at h
 have hcD:=zcs d
 have HM1:=zct d 1 Y0 Y0
 have hm1:=zcr d 1
 rw[zb4]at HM1
 generalize (zar d 1).2=k3 at HM1 hm1
 generalize (zar d 1).1.form.atom.args=f3 at HM1
 generalize (zar d 1).1.form.parts=f4 at HM1
 generalize (zar d 1).1.term.args=f5 at HM1
 generalize (zar d 1).1.parts=f8 at HM1
 simp only[zac d]at HM1
 have hcR:=zcs R
 have HM2:=zct R 1 Y0 Y0
 have HL:=zgd R 1 Y0 Y0
 have hmR:=(zcr R 1).1
 rw[zb4]at HM2 HL
 generalize (zar R 1).2=k2 at HM2 HL hmR
 generalize (zar R 1).1.form.atom.args=r3 at HM2 HL
 generalize (zar R 1).1.form.parts=r4 at HM2 HL
 generalize (zar R 1).1.term.args=r5 at HM2 HL
 generalize (zar R 1).1.parts=r8 at HM2 HL
 simp only[zac R]at HM2
 refine zfl [1,4,5,6,7,8,46,47] (HM1) Yy Yy Yy Yy Yy rfl ?_
 refine Y1 ?_
 refine callF (HF) Xg ?_
 refine Xh ?_
 refine zfl [1,4,5,7,8,62,63] (HM2) Yy Yy Yy Yy Yy rfl ?_
 refine Y1 ?_
 refine callF (HL) Yy ?_
 refine Y1 ?_
 refine⟨λh=>by simp at h,λ_=>?_⟩
 refine callF (HT) Yy ?_
 refine Y1 ?_
 refine callF (HI) Yy ?_
 refine Y1 ?_
 refine callF (HF) Xg ?_
 refine Xh ?_
 refine callF (HL) Yy ?_
 refine Y1 ?_
 refine⟨λh=>by simp at h,λ_=>trivial⟩
theorem qv3 (d:Nt)(l:Int):FC Tryz.prog 10 [ntD d,iD l] [bD true]:=by
 have HZ:=zgl d 1048576 Y0 Y0
 simp only[ntD,zac d]at HZ⊢
 refine zgr Tryz.call10 Tryz.func10 rfl Yz (zao Yz) ?_
 simp -implicitDefEqProofs only[go_sem,Tryz.results10]
 refine callF (HZ) Yy ?_
 refine Y1 ?_
 refine⟨λh=>trivial,λh=>?_⟩
 have hw:d.wt<=1048576:=by have:=(zed (by simpa using h)).1;omega
 have HS:=zkg d l (Fit.of d hw)
 have HI:=zla d l (Fit.of d hw)
 have HT:=zgk d hw
 have HE:=zdj d d
 have hrl:=nzI_wt d l
 generalize nzI d l=A at HS HI hrl
 obtain⟨R,N,G⟩:=A
 simp only at HS HI hrl
 have HF:=zdj R R
 have hNN:(N != N)=false:=by simp
 simp only[ntD,zac d,zac R]at HS HI HT HE HF
 refine callF (HT) Yy ?_
 refine Y1 ?_
 refine callF (HS) Yy ?_
 refine Y1 ?_
 refine callF (HT) Yy ?_
 refine Y1 ?_
 refine callF (HI) Yy ?_
 refine Y1 ?_
 refine callF (HF) Vz ?_
 simp -implicitDefEqProofs only[go_sem,za3,Q3,Qd,hNN]
 refine drawn Yz ?_
 refine Y1 ?_
 refine zai (HT) Yy ?_
 refine Y1 ?_
 refine zai (HE) Yy ?_
 refine Y1 ?_
 refine⟨Yz,λh=>?_,λ_=>?_⟩
 ·simp[za3]at h
 have hcD:=zcs d
 have HM1:=zct d 1 Y0 Y0
 have hm1:=zcr d 1
 rw[zb4]at HM1
 generalize (zar d 1).2=k3 at HM1 hm1
 generalize (zar d 1).1.form.atom.args=f3 at HM1
 generalize (zar d 1).1.form.parts=f4 at HM1
 generalize (zar d 1).1.term.args=f5 at HM1
 generalize (zar d 1).1.parts=f8 at HM1
 simp only[zac d]at HM1
 have hcR:=zcs R
 have HM2:=zct R 1 Y0 Y0
 have HL:=zgd R 1 Y0 Y0
 have hmR:=(zcr R 1).1
 rw[zb4]at HM2 HL
 generalize (zar R 1).2=k2 at HM2 HL hmR
 generalize (zar R 1).1.form.atom.args=r3 at HM2 HL
 generalize (zar R 1).1.form.parts=r4 at HM2 HL
 generalize (zar R 1).1.term.args=r5 at HM2 HL
 generalize (zar R 1).1.parts=r8 at HM2 HL
 simp only[zac R]at HM2
 refine zfl [1,2,6,7,8,9,10,11,12,60,61] (HM1) Yy Yy Yy Yy Yy rfl ?_
 refine Y1 ?_
 refine callF (HF) Vz ?_
 simp -implicitDefEqProofs only[go_sem,za3,Q3,Qd,hNN]
 refine zfl [1,2,6,7,8,10,11,12,81,82] (HM2) Yy Yy Yy Yy Yy rfl ?_
 refine Y1 ?_
 refine callF (HL) Yy ?_
 refine Y1 ?_
 refine⟨λh=>by simp at h,λ_=>?_⟩
 refine callF (HT) Yy ?_
 refine Y1 ?_
 refine callF (HI) Yy ?_
 refine Y1 ?_
 refine callF (HF) Vz ?_
 simp -implicitDefEqProofs only[go_sem,za3,Q3,Qd,hNN]
 refine callF (HL) Yy ?_
 refine Y1 ?_
 refine⟨λh=>by simp at h,λ_=>trivial⟩
theorem quy (d:Nt)(l:Int)(b:Nt):FC Tryz.prog 8 [ntD d,iD l,ntD b] [bD true]:=by
 have HZ:=zgl d 1048576 Y0 Y0
 simp only[ntD,zac d,zac b]at HZ⊢
 refine zgr Tryz.call8 Tryz.func8 rfl Yz (zao Yz) ?_
 simp -implicitDefEqProofs only[go_sem,Tryz.results8]
 refine callF (HZ) Yy ?_
 refine Y1 ?_
 refine⟨λh=>trivial,λh=>?_⟩
 obtain⟨hwa,hs⟩:=zed (by simpa using h)
 have HZ2:=zgl b (1048576-(d.wt:Int)) Y0 Y0
 simp only[ntD,zac b]at HZ2
 rw[hs]
 refine callF (HZ2) Yy ?_
 refine Y1 ?_
 refine⟨λh=>trivial,λh=>?_⟩
 have hab:d.wt+b.wt<=1048576:=by have:=(zed (by simpa using h)).1;omega
 have HS:=zn2 d l b (Fit.of d Y0) (Fit.of b Y0)
 have HI:=zrb d l b (Fit.of d Y0) (Fit.of b Y0)
 have HT:=zgk d Y0
 have HT2:=zgk b Y0
 have HE:=zdj d d
 have HE2:=zdj b b
 have hrl:=qtj d l b
 generalize qm1 d l b=A at HS HI hrl
 obtain⟨R,G⟩:=A
 simp only at HS HI hrl
 have HF:=zdj R R
 simp only[ntD,zac d,zac b,zac R]at HS HI HT HT2 HE HE2 HF
 refine drawn Yz ?_
 refine Y1 ?_
 refine zai (HT) Yy ?_
 refine Y1 ?_
 refine zai (HT2) Yy ?_
 refine Y1 ?_
 refine zai (HS) Yy ?_
 refine Y1 ?_
 refine⟨Yz,?_⟩
 refine callF (HT) Yy ?_
 refine Y1 ?_
 refine callF (HT2) Yy ?_
 refine Y1 ?_
 refine callF (HI) Yy ?_
 refine Y1 ?_
 refine callF (HF) Xg ?_
 refine Xh ?_
 refine drawn Yz ?_
 refine Y1 ?_
 refine zai (HT) Yy ?_
 refine Y1 ?_
 refine zai (HE) Yy ?_
 refine Y1 ?_
 refine⟨Yz,λh=>?_,λ_=>?_⟩
 ·simp[za3]at h
 refine drawn Yz ?_
 refine Y1 ?_
 refine zai (HT2) Yy ?_
 refine Y1 ?_
 refine zai (HE2) Yy ?_
 refine Y1 ?_
 refine⟨Yz,λh=>?_,λ_=>?_⟩
 ·simp[za3]at h
 have hcD:=zcs d
 have HM1:=zct d 1 Y0 Y0
 have hm1:=zcr d 1
 rw[zb4]at HM1
 generalize (zar d 1).2=k3 at HM1 hm1
 generalize (zar d 1).1.form.atom.args=f3 at HM1
 generalize (zar d 1).1.form.parts=f4 at HM1
 generalize (zar d 1).1.term.args=f5 at HM1
 generalize (zar d 1).1.parts=f8 at HM1
 simp only[zac d]at HM1
 have hcb:=zcs b
 have HMb:=zct b k3 Y0 Y0
 have hmb:=(zcr b k3).1
 rw[zb4]at HMb
 generalize (zar b k3).2=k4 at HMb hmb
 generalize (zar b k3).1.form.atom.args=g3 at HMb
 generalize (zar b k3).1.form.parts=g4 at HMb
 generalize (zar b k3).1.term.args=g5 at HMb
 generalize (zar b k3).1.parts=g8 at HMb
 simp only[zac b]at HMb
 have hcR:=zcs R
 have HM2:=zct R 1 Y0 Y0
 have HL:=zgd R 1 Y0 Y0
 have hmR:=(zcr R 1).1
 rw[zb4]at HM2 HL
 generalize (zar R 1).2=k2 at HM2 HL hmR
 generalize (zar R 1).1.form.atom.args=r3 at HM2 HL
 generalize (zar R 1).1.form.parts=r4 at HM2 HL
 generalize (zar R 1).1.term.args=r5 at HM2 HL
 generalize (zar R 1).1.parts=r8 at HM2 HL
 simp only[zac R]at HM2
 refine zfl [1,3,5,8,9,10,11,12,13,68,69] (HM1) Yy Yy Yy Yy Yy rfl ?_
 refine Y1 ?_
 refine zfl [1,3,5,8,9,11,12,13,71,72] (HMb) Yy Yy Yy Yy Yy rfl ?_
 refine Y1 ?_
 refine callF (HF) Xg ?_
 refine Xh ?_
 refine zfl [1,3,5,8,9,12,13,87,88] (HM2) Yy Yy Yy Yy Yy rfl ?_
 refine Y1 ?_
 refine callF (HL) Yy ?_
 refine Y1 ?_
 refine⟨λh=>by simp at h,λ_=>?_⟩
 refine drawn Yz ?_
 refine Y1 ?_
 refine zai (HT) Yy ?_
 refine Y1 ?_
 refine zai (HT2) Yy ?_
 refine Y1 ?_
 refine zai (HI) Yy ?_
 refine Y1 ?_
 refine⟨Yz,?_⟩
 refine callF (HF) Xg ?_
 refine Xh ?_
 refine callF (HL) Yy ?_
 refine Y1 ?_
 refine⟨λh=>by simp at h,λ_=>trivial⟩
end
end Go.Proofs.YtnemmlahbbbobaaGreat
