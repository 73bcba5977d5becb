/-
  The walk over plain data, and contracts of functions of the program and of its laws.
  Conditions: those that each theorem names.
-/
import Derived.Test.YtnemmlahbbbobaaGreatQR1
import Derived.Test.YtnemmlahbbbobaaGreatQR4
namespace Go.Proofs.YtnemmlahbbbobaaGreat
set_option linter.unusedSimpArgs false
set_option linter.unusedVariables false
set_option linter.unusedSectionVars false
set_option maxRecDepth 4000
set_option maxHeartbeats 8000000
section
open Go.RowKit
theorem zej.cons {P:Program}{t:TypeId}{ts:List TypeId}{xs:List PD}(h:zej P (t::ts) xs):∃x xs',xs=x::xs'/\zb9 P t x/\zej P ts xs':=by
 cases xs with
 | nil=>rw[zej]at h;cases h
 | cons x xs =>
  rw[zej]at h;obtain⟨t',ts',e,h1,h2⟩:=h;cases e;exact⟨x,xs,rfl,h1,h2⟩
theorem zej.nil {P:Program}{xs:List PD}(h:zej P [] xs):xs=[]:=by
 cases xs with
 | nil=>rfl
 | cons x xs =>
  rw[zej]at h;obtain⟨t',ts',e,_⟩:=h;cases e
theorem zne {Q:PD->Prop}(h:∀d,(∀d',SizeOf.sizeOf d'<SizeOf.sizeOf d->Q d')->Q d)(d:PD):Q d:=by
 have:∀n (d:PD),SizeOf.sizeOf d<n->Q d:=by
  intro n;induction n with
  | zero=>intro d hd;omega
  | succ n ih=>intro d hd;exact h d λd' hd'=>ih d' Y0
 exact this _ d (Nat.lt_succ_self _)
theorem zhw {α:Type}(c:α->List T):∀(xs:List PD),(∀x∈xs,∃a,x.cells=c a)->∃l:List α,PD.rows xs=l.map c
 | [],_=>⟨[],rfl⟩
 | x::xs,h=>by
  obtain⟨a,ha⟩:=h x (by simp);obtain⟨l,hl⟩:=zhw c xs λy hy=>h y (by simp[hy]);exact⟨a::l,by rw[PD.rows,ha,hl];rfl⟩
theorem qgn:∀d,zb9 Tryz.prog 24 d->∃a:Tm,d.cells=tmC a :=
 zne λd ih h=>by
  obtain⟨fs,rfl,hf⟩:=h.st Tryz.underlying24;have hf:zej Tryz.prog [9,22] fs:=hf;obtain⟨x1,r1,rfl,h1,hf⟩:=hf.cons;obtain⟨x2,r2,rfl,h2,hf⟩:=hf.cons;obtain rfl:=hf.nil;obtain⟨n,rfl⟩:=h1.str Tryz.underlying9;obtain⟨xs,rfl,hx⟩:=h2.sl Tryz.underlying22;obtain⟨l,hl⟩:=zhw tmC xs λx hx'=>ih x (by have:=List.sizeOf_lt_of_mem hx';simp;omega) (hx x hx')
  exact⟨.mk n l,by
   rw[zab,PD.cells,PD.flat,PD.flat,PD.flat,PD.cells,PD.cells,hl,show Tryz.prog.cellsOf 24=2 from by kernel_rfl];rfl⟩
theorem qaq:∀d,zb9 Tryz.prog 27 d->∃a:Fm,d.cells=fmC a :=
 zne λd ih h=>by
  obtain⟨fs,rfl,hf⟩:=h.st Tryz.underlying27;have hf:zej Tryz.prog [3,24,9,25] fs:=hf;obtain⟨x1,r1,rfl,h1,hf⟩:=hf.cons;obtain⟨x2,r2,rfl,h2,hf⟩:=hf.cons;obtain⟨x3,r3,rfl,h3,hf⟩:=hf.cons;obtain⟨x4,r4,rfl,h4,hf⟩:=hf.cons;obtain rfl:=hf.nil;obtain⟨o,rfl⟩:=h1.int Tryz.underlying3;obtain⟨a,ha⟩:=qgn _ h2;obtain⟨v,rfl⟩:=h3.str Tryz.underlying9;obtain⟨xs,rfl,hx⟩:=h4.sl Tryz.underlying25;obtain⟨l,hl⟩:=zhw fmC xs λx hx'=>ih x (by have:=List.sizeOf_lt_of_mem hx';simp;omega) (hx x hx')
  exact⟨.mk o a v l,by
   rw[zaa,PD.cells,PD.flat,PD.flat,PD.flat,PD.flat,PD.flat,PD.cells,PD.cells,PD.cells,hl,ha,zab,show Tryz.prog.cellsOf 27=5 from by kernel_rfl];rfl⟩
end
section
open Go.RowKit
theorem qbe (xs:List Tm)(H:∀x∈xs,∀l:Int,0<=l->l<=1048576->FC Tryz.prog 42 [tmD x,iD l] [iD (szR x.wt l)])(l:Int)(h0:0<=l)(h1:l<=1048576) :
  FC Tryz.prog 82 [.one (tmS xs),iD l] [iD (szR (zr7 xs) l)]:=by
 refine zeo (λhw=>?_) Tryz.call82
 have hl:xs.length<=9223372036854775807:=by simpa[zik,wfT]using hw.1.1
 refine zae Tryz.call82 Tryz.func82 rfl Yz (zao Yz) ?_
 simp -implicitDefEqProofs only[go_sem,Tryz.results82]
 rw[za4 Y0 Y0]
 have hW:zr7 xs=xs.length+(xs.map Tm.wt).sum:=rfl
 refine⟨λh=>?_,λh=>?_⟩
 ·rw[zd0 (by simp at h;omega)]
 ·have hlen:(xs.length:Int)<=l:=by simp at h;omega
  refine zah (λk:Nat=>hd [(0,vT (tmS xs)),(1,vI (l-xs.length-zr1 Tm.wt xs k)),(5,vI k)] [] []) (λk=>k<=xs.length/\0<=l-xs.length-zr1 Tm.wt xs k) (λk=>xs.length-k) 0 (zad ?_) ?_ ?_
  ·refine Y1 ?_;simp[zf5]
  ·simpa[zf5]using hlen
  ·intro k ⟨hk,hp⟩;by_cases hlt:k<xs.length
   ·have hs:=zmx Tm.wt xs k hlt;have hs2:=zxi Tm.wt xs (k+1);simp -implicitDefEqProofs only[go_sem,Qa,zaj,hlt,zab];refine callF (H xs[k] (Qk hlt) (l-xs.length-zr1 Tm.wt xs k) hp Y0) Y4 ?_;refine Y5 ?_;refine⟨λh=>?_,λh=>?_⟩
    ·have:=zgi hp (by simpa using h);rw[zd0 Y0]
    ·obtain⟨h2,h3⟩:=zed (by simpa using h);rw[zaq Y0];exact⟨k+1,⟨hlt,Y0⟩,Y0,zad (by simp -implicitDefEqProofs only[go_sem];rw[h3];congr 1;omega)⟩
   ·refine Y6 hlt ?_;have hall:=zrs Tm.wt xs k Y0;rw[hall,zo3 Y0];congr 1;omega
theorem qbk (xs:List Tm)(H:∀x∈xs,FC Tryz.prog 46 [tmD x] [tmD x])(hs:xs.length<=1048576) :
  FC Tryz.prog 84 [.one (tmS xs)] [.one (tmS xs)]:=by
 refine zeo (λhw=>?_) Tryz.call84
 refine zae Tryz.call84 Tryz.func84 rfl Yz (zao Yz) ?_
 simp -implicitDefEqProofs only[go_sem,Tryz.results84]
 refine qob (by simp -implicitDefEqProofs only[go_sem];omega) ?_
 refine Y1 ?_
 refine zah (λk:Nat=>hd [(0,vT (tmS xs)),(3,.one (.ow 224 0)),(4,vI k)] [] [(224,⟨true,2,(xs.take k).map tmC++List.replicate (xs.length-k) [T.str [],T.sl 2 []],0,true⟩)]) (λk=>k<=xs.length) (λk=>xs.length-k) 0 (zad ?_) ?_ ?_
 ·refine Y1 ?_;simp
 ·simp
 ·intro k hk;by_cases hlt:k<xs.length
  ·have hlen:((xs.take k).map tmC++List.replicate (xs.length-k) [T.str [],T.sl 2 []]).length=xs.length:=by simp;omega
   have hlt2:k<k+(xs.length-k):=by omega
   simp -implicitDefEqProofs only[go_sem,Qa,zaj,hlt,zab];refine callF (H xs[k] (Qk hlt)) Wc ?_;simp -implicitDefEqProofs only[go_sem,zab,hlen,hlt,Qy,Qa,Qo,Jb,Jm hk,hlt2];refine zfd (by simp -implicitDefEqProofs only[go_sem];simp) ?_;refine Y1 ?_;rw[zaq Y0];refine⟨k+1,Y0,Y0,zad ?_⟩;refine Y1 ?_;have hf:=zhj ((xs.take k).map tmC) xs.length k [T.str [],T.sl 2 []] (tmC xs[k]) (by simp;omega) hlt (by simp[zab]);simp only[zab]at hf;rw[hf,Qn hlt,Q1,Q6];simp only[zab]
  ·refine Y6 hlt ?_;simp[Qr (show xs.length<=k by omega),show xs.length-k=0 by omega]
theorem qbt (xs ys:List Tm)(H:∀x∈xs,∀y,FC Tryz.prog 49 [tmD x,tmD y] [bD (same x y)]) :
  FC Tryz.prog 85 [.one (tmS xs),.one (tmS ys)] [bD (same xs ys)]:=by
 refine zeo (λhw=>?_) Tryz.call85
 have hl:xs.length<=9223372036854775807:=by simpa[zik,wfT]using hw.1.1
 have hl2:ys.length<=9223372036854775807:=by simpa[zik,wfT]using hw.2.1.1
 refine zae Tryz.call85 Tryz.func85 rfl Yz (zao Yz) ?_
 simp -implicitDefEqProofs only[go_sem,Tryz.results85]
 refine⟨λh=>?_,λh=>?_⟩
 ·rw[zcy.2 (by rintro rfl;simp at h)]
 ·have hlen:xs.length=ys.length:=by simp at h;omega
  refine zah (λk:Nat=>hd [(0,vT (tmS xs)),(1,vT (tmS ys)),(4,vB false),(5,vI k)] [] []) (λk=>k<=xs.length/\same xs ys=same (xs.drop k) (ys.drop k)) (λk=>xs.length-k) 0 (zad ?_) ?_ ?_
  ·exact Yy
  ·simp
  ·intro k ⟨hk,hr⟩;by_cases hlt:k<xs.length
   ·have hk2:k<ys.length:=by omega
    refine Y6 hlt ?_;refine drawn Yz ?_;simp -implicitDefEqProofs only[go_sem,Qa,zaj,hlt,hk2,zab];refine zai (H xs[k] (Qk hlt) ys[k]) Y4 ?_;refine Y5 ?_;refine⟨Yz,λh=>?_,λh=>?_⟩
    ·rw[hr,Qm hlt,Qm hk2,zdv,show same xs[k] ys[k]=false by simpa using h];rfl
    ·rw[Qm hlt,Qm hk2,zdv,show same xs[k] ys[k]=true by simpa using h,Qv]at hr;rw[zaq Y0];exact⟨k+1,⟨Y0,hr⟩,Y0,zad Yy⟩
   ·refine Y6 hlt ?_;rw[hr,Q0 Y0,Q0 Y0,zhy]
theorem qev (a:Tm)(H:∀l:Int,0<=l->l<=1048576->FC Tryz.prog 82 [.one (tmS a.args),iD l] [iD (szR (zr7 a.args) l)])(l:Int)(h0:0<=l)(h1:l<=1048576) :
  FC Tryz.prog 42 [tmD a,iD l] [iD (szR a.wt l)]:=by
 refine zeo (λhw=>?_) Tryz.call42
 simp only[tmD,zab]at hw⊢
 have hW:=a.wt_eq
 have hls:a.name.length<=9223372036854775807/\True:=by simp[zik,wfT,zt7]at hw;simp[hw]
 refine zae Tryz.call42 Tryz.func42 rfl Yz (zao Yz) ?_
 simp -implicitDefEqProofs only[go_sem,Tryz.results42]
 rw[za4 Y0 Y0]
 refine⟨λh1=>?_,λh1=>?_⟩
 ·rw[zd0 (by simp at h1;have hu0:zr7 a.args=a.args.length+(a.args.map Tm.wt).sum:=rfl; omega)]
 have k1:(a.name.length:Int)<=l:=by simp at h1;omega
 refine callF (H (l-(a.name.length:Int)) Y0 Y0) Y4 ?_
 refine Y5 ?_
 refine⟨λh2=>?_,λh2=>?_⟩
 ·have:=zgi Y0 (show szR (zr7 a.args) (l-(a.name.length:Int))<0 by simpa using h2);rw[zd0 (by have hu0:zr7 a.args=a.args.length+(a.args.map Tm.wt).sum:=rfl; omega)]
 obtain⟨k2,j2⟩:=zed (show ¬szR (zr7 a.args) (l-(a.name.length:Int))<0 by simpa using h2)
 rw[show szR a.wt l=l-a.wt from zo3 (by have hu0:zr7 a.args=a.args.length+(a.args.map Tm.wt).sum:=rfl; omega)];exact zxm (by have hu0:zr7 a.args=a.args.length+(a.args.map Tm.wt).sum:=rfl; omega)
theorem qfp (a:Tm)(H:FC Tryz.prog 84 [.one (tmS a.args)] [.one (tmS a.args)])(hs:a.wt<=1048576):FC Tryz.prog 46 [tmD a] [tmD a]:=by
 have hW:=a.wt_eq
 simp only[tmD,zab]
 refine zae Tryz.call46 Tryz.func46 rfl Yz (zao Yz) ?_
 simp -implicitDefEqProofs only[go_sem,Tryz.results46]
 refine callF (H) Y4 ?_
 exact Y4
theorem qf7 (a b:Tm)(H:FC Tryz.prog 85 [.one (tmS a.args),.one (tmS b.args)] [bD (same a.args b.args)]):FC Tryz.prog 49 [tmD a,tmD b] [bD (same a b)]:=by
 simp only[tmD,zab]
 refine zae Tryz.call49 Tryz.func49 rfl Yz (zao Yz) ?_
 simp -implicitDefEqProofs only[go_sem,Tryz.results49]
 refine⟨λh1=>?_,λh1=>?_⟩
 ·rw[zcy.2 (by rintro rfl;simp[za3]at h1)]
 refine callF (H) Y4 ?_
 refine Y5 ?_
 refine⟨λh2=>?_,λh2=>?_⟩
 ·rw[zcy.2 (by rintro rfl;simp[za3]at h2)]
 rw[zb1.2 (by cases a;cases b;simp[zb1,Tm.name,Tm.args]at h1 h2⊢;simp[h1,h2])]
theorem zxv:∀a:Tm,∀l:Int,0<=l->l<=1048576->FC Tryz.prog 42 [tmD a,iD l] [iD (szR a.wt l)] :=
 zb3 λb0 xs ih l h0 h1=>qev (.mk b0 xs) (λl h0 h1=>qbe xs ih l h0 h1) l h0 h1
theorem zzi:∀a:Tm,a.wt<=1048576->FC Tryz.prog 46 [tmD a] [tmD a]:=by
 refine zb3 λb0 xs ih hs=>?_
 have hW:=Tm.wt_eq (.mk b0 xs)
 simp only[Tm.name,Tm.args]at hW
 refine qfp _ (qbk xs (λx hx=>ih x hx ?_) Y0) hs
 have:=zbz Tm.wt xs x hx
 omega
theorem zyo:∀a b:Tm,FC Tryz.prog 49 [tmD a,tmD b] [bD (same a b)] :=
 zb3 λb0 xs ih b=>qf7 (.mk b0 xs) b (qbt xs b.args ih)
end
section
open Go.RowKit
theorem zrz (xs:List Fm)(H:∀x∈xs,∀l:Int,0<=l->l<=1048576->FC Tryz.prog 41 [fmD x,iD l] [iD (szR x.wt l)])(l:Int)(h0:0<=l)(h1:l<=1048576) :
  FC Tryz.prog 81 [.one (fmS xs),iD l] [iD (szR (zu1 xs) l)]:=by
 refine zeo (λhw=>?_) Tryz.call81
 have hl:xs.length<=9223372036854775807:=by simpa[zik,wfT]using hw.1.1
 refine zae Tryz.call81 Tryz.func81 rfl Yz (zao Yz) ?_
 simp -implicitDefEqProofs only[go_sem,Tryz.results81]
 rw[za4 Y0 Y0]
 have hW:zu1 xs=xs.length+(xs.map Fm.wt).sum:=rfl
 refine⟨λh=>?_,λh=>?_⟩
 ·rw[zd0 (by simp at h;omega)]
 ·have hlen:(xs.length:Int)<=l:=by simp at h;omega
  refine zah (λk:Nat=>hd [(0,vT (fmS xs)),(1,vI (l-xs.length-zr1 Fm.wt xs k)),(5,vI k)] [] []) (λk=>k<=xs.length/\0<=l-xs.length-zr1 Fm.wt xs k) (λk=>xs.length-k) 0 (zad ?_) ?_ ?_
  ·refine Y1 ?_;simp[zf5]
  ·simpa[zf5]using hlen
  ·intro k ⟨hk,hp⟩;by_cases hlt:k<xs.length
   ·have hs:=zmx Fm.wt xs k hlt;have hs2:=zxi Fm.wt xs (k+1);simp -implicitDefEqProofs only[go_sem,Qa,zaj,hlt,zaa,zab];refine callF (H xs[k] (Qk hlt) (l-xs.length-zr1 Fm.wt xs k) hp Y0) Z6 ?_;refine Xi ?_;refine⟨λh=>?_,λh=>?_⟩
    ·have:=zgi hp (by simpa using h);rw[zd0 Y0]
    ·obtain⟨h2,h3⟩:=zed (by simpa using h);rw[zaq Y0];exact⟨k+1,⟨hlt,Y0⟩,Y0,zad (by simp -implicitDefEqProofs only[go_sem];rw[h3];congr 1;omega)⟩
   ·refine Y6 hlt ?_;have hall:=zrs Fm.wt xs k Y0;rw[hall,zo3 Y0];congr 1;omega
theorem zrk (xs:List Fm)(H:∀x∈xs,FC Tryz.prog 45 [fmD x] [fmD x])(hs:xs.length<=1048576) :
  FC Tryz.prog 83 [.one (fmS xs)] [.one (fmS xs)]:=by
 refine zeo (λhw=>?_) Tryz.call83
 refine zae Tryz.call83 Tryz.func83 rfl Yz (zao Yz) ?_
 simp -implicitDefEqProofs only[go_sem,Tryz.results83]
 refine qob (by simp -implicitDefEqProofs only[go_sem];omega) ?_
 refine Y1 ?_
 refine zah (λk:Nat=>hd [(0,vT (fmS xs)),(3,.one (.ow 224 0)),(4,vI k)] [] [(224,⟨true,5,(xs.take k).map fmC++List.replicate (xs.length-k) [T.int .i64 0,T.str [],T.sl 2 [],T.str [],T.sl 5 []],0,true⟩)]) (λk=>k<=xs.length) (λk=>xs.length-k) 0 (zad ?_) ?_ ?_
 ·refine Y1 ?_;simp
 ·simp
 ·intro k hk;by_cases hlt:k<xs.length
  ·have hlen:((xs.take k).map fmC++List.replicate (xs.length-k) [T.int .i64 0,T.str [],T.sl 2 [],T.str [],T.sl 5 []]).length=xs.length:=by simp;omega
   have hlt2:k<k+(xs.length-k):=by omega
   simp -implicitDefEqProofs only[go_sem,Qa,zaj,hlt,zaa,zab];refine callF (H xs[k] (Qk hlt)) (by simp -implicitDefEqProofs only[go_sem,zaa,zab,hlen,hlt,Qy,Qa,Qo,Jb,Jm hk,hlt2]) ?_;simp -implicitDefEqProofs only[go_sem,zaa,zab,hlen,hlt,Qy,Qa,Qo,Jb,Jm hk,hlt2];refine zfd (by simp -implicitDefEqProofs only[go_sem];simp) ?_;refine Y1 ?_;rw[zaq Y0];refine⟨k+1,Y0,Y0,zad ?_⟩;refine Y1 ?_;have hf:=zhj ((xs.take k).map fmC) xs.length k [T.int .i64 0,T.str [],T.sl 2 [],T.str [],T.sl 5 []] (fmC xs[k]) (by simp;omega) hlt (by simp[zaa,zab]);simp only[zaa,zab]at hf;rw[hf,Qn hlt,Q1,Q6];simp only[zaa,zab]
  ·refine Y6 hlt ?_;simp[Qr (show xs.length<=k by omega),show xs.length-k=0 by omega]
theorem zrt (xs ys:List Fm)(H:∀x∈xs,∀y,FC Tryz.prog 48 [fmD x,fmD y] [bD (same x y)]) :
  FC Tryz.prog 62 [.one (fmS xs),.one (fmS ys)] [bD (same xs ys)]:=by
 refine zeo (λhw=>?_) Tryz.call62
 have hl:xs.length<=9223372036854775807:=by simpa[zik,wfT]using hw.1.1
 have hl2:ys.length<=9223372036854775807:=by simpa[zik,wfT]using hw.2.1.1
 refine zae Tryz.call62 Tryz.func62 rfl Yz (zao Yz) ?_
 simp -implicitDefEqProofs only[go_sem,Tryz.results62]
 refine⟨λh=>?_,λh=>?_⟩
 ·rw[zcy.2 (by rintro rfl;simp at h)]
 ·have hlen:xs.length=ys.length:=by simp at h;omega
  refine zah (λk:Nat=>hd [(0,vT (fmS xs)),(1,vT (fmS ys)),(4,vB false),(5,vI k)] [] []) (λk=>k<=xs.length/\same xs ys=same (xs.drop k) (ys.drop k)) (λk=>xs.length-k) 0 (zad ?_) ?_ ?_
  ·exact Yy
  ·simp
  ·intro k ⟨hk,hr⟩;by_cases hlt:k<xs.length
   ·have hk2:k<ys.length:=by omega
    refine Y6 hlt ?_;refine drawn Yz ?_;simp -implicitDefEqProofs only[go_sem,Qa,zaj,hlt,hk2,zaa,zab];refine zai (H xs[k] (Qk hlt) ys[k]) Z6 ?_;refine Xi ?_;refine⟨Yz,λh=>?_,λh=>?_⟩
    ·rw[hr,Qm hlt,Qm hk2,zdv,show same xs[k] ys[k]=false by simpa using h];rfl
    ·rw[Qm hlt,Qm hk2,zdv,show same xs[k] ys[k]=true by simpa using h,Qv]at hr;rw[zaq Y0];exact⟨k+1,⟨Y0,hr⟩,Y0,zad Yy⟩
   ·refine Y6 hlt ?_;rw[hr,Q0 Y0,Q0 Y0,zhy]
theorem zth (a:Fm)(H:∀l:Int,0<=l->l<=1048576->FC Tryz.prog 81 [.one (fmS a.parts),iD l] [iD (szR (zu1 a.parts) l)])(l:Int)(h0:0<=l)(h1:l<=1048576) :
  FC Tryz.prog 41 [fmD a,iD l] [iD (szR a.wt l)]:=by
 refine zeo (λhw=>?_) Tryz.call41
 simp only[fmD,zaa,zab]at hw⊢
 have hW:=a.wt_eq
 have hls:a.var.length<=9223372036854775807/\True:=by simp[zik,wfT,zt7]at hw;simp[hw]
 refine zae Tryz.call41 Tryz.func41 rfl Yz (zao Yz) ?_
 simp -implicitDefEqProofs only[go_sem,Tryz.results41]
 refine callF (zxv a.atom l Y0 Y0) X9 ?_
 simp -implicitDefEqProofs only[go_sem,zaa,zab,zab]
 refine⟨λh1=>?_,λh1=>?_⟩
 ·have:=zgi Y0 (show szR a.atom.wt l<0 by simpa using h1);rw[zd0 (by have hu0:zu1 a.parts=a.parts.length+(a.parts.map Fm.wt).sum:=rfl; omega)]
 obtain⟨k1,j1⟩:=zed (show ¬szR a.atom.wt l<0 by simpa using h1)
 rw[za4 Y0 Y0]
 refine⟨λh2=>?_,λh2=>?_⟩
 ·rw[zd0 (by simp at h2;have hu0:zu1 a.parts=a.parts.length+(a.parts.map Fm.wt).sum:=rfl; omega)]
 have k2:(a.var.length:Int)<=(szR a.atom.wt l):=by simp at h2;omega
 refine callF (H ((szR a.atom.wt l)-(a.var.length:Int)) Y0 Y0) Z6 ?_
 refine Xi ?_
 refine⟨λh3=>?_,λh3=>?_⟩
 ·have:=zgi Y0 (show szR (zu1 a.parts) ((szR a.atom.wt l)-(a.var.length:Int))<0 by simpa using h3);rw[zd0 (by have hu0:zu1 a.parts=a.parts.length+(a.parts.map Fm.wt).sum:=rfl; omega)]
 obtain⟨k3,j3⟩:=zed (show ¬szR (zu1 a.parts) ((szR a.atom.wt l)-(a.var.length:Int))<0 by simpa using h3)
 rw[show szR a.wt l=l-a.wt from zo3 (by have hu0:zu1 a.parts=a.parts.length+(a.parts.map Fm.wt).sum:=rfl; omega)];exact zxm (by have hu0:zu1 a.parts=a.parts.length+(a.parts.map Fm.wt).sum:=rfl; omega)
theorem zub (a:Fm)(H:FC Tryz.prog 83 [.one (fmS a.parts)] [.one (fmS a.parts)])(hs:a.wt<=1048576):FC Tryz.prog 45 [fmD a] [fmD a]:=by
 have hW:=a.wt_eq
 simp only[fmD,zaa,zab]
 refine zae Tryz.call45 Tryz.func45 rfl Yz (zao Yz) ?_
 simp -implicitDefEqProofs only[go_sem,Tryz.results45]
 refine callF (zzi a.atom (by have hu0:zu1 a.parts=a.parts.length+(a.parts.map Fm.wt).sum:=rfl; omega)) X9 ?_
 simp -implicitDefEqProofs only[go_sem,zaa,zab,zab]
 refine callF (H) Z6 ?_
 exact Z6
theorem zr8 (a b:Fm)(H:FC Tryz.prog 62 [.one (fmS a.parts),.one (fmS b.parts)] [bD (same a.parts b.parts)]):FC Tryz.prog 48 [fmD a,fmD b] [bD (same a b)]:=by
 simp only[fmD,zaa,zab]
 refine zae Tryz.call48 Tryz.func48 rfl Yz (zao Yz) ?_
 simp -implicitDefEqProofs only[go_sem,Tryz.results48]
 refine⟨λh1=>?_,λh1=>?_⟩
 ·rw[zcy.2 (by rintro rfl;simp[za3]at h1)]
 refine callF (zyo a.atom b.atom) X9 ?_
 simp -implicitDefEqProofs only[go_sem,zaa,zab,zab]
 refine⟨λh2=>?_,λh2=>?_⟩
 ·rw[zcy.2 (by rintro rfl;simp[za3]at h2)]
 refine⟨λh3=>?_,λh3=>?_⟩
 ·rw[zcy.2 (by rintro rfl;simp[za3]at h3)]
 refine callF (H) Z6 ?_
 refine Xi ?_
 refine⟨λh4=>?_,λh4=>?_⟩
 ·rw[zcy.2 (by rintro rfl;simp[za3]at h4)]
 rw[zb1.2 (by cases a;cases b;simp[zb1,Fm.op,Fm.atom,Fm.var,Fm.parts]at h1 h2 h3 h4⊢;simp[h1,h2,h3,h4])]
theorem zxf:∀a:Fm,∀l:Int,0<=l->l<=1048576->FC Tryz.prog 41 [fmD a,iD l] [iD (szR a.wt l)] :=
 zck λb0 b1 b2 xs ih l h0 h1=>zth (.mk b0 b1 b2 xs) (λl h0 h1=>zrz xs ih l h0 h1) l h0 h1
theorem zxb:∀a:Fm,a.wt<=1048576->FC Tryz.prog 45 [fmD a] [fmD a]:=by
 refine zck λb0 b1 b2 xs ih hs=>?_
 have hW:=Fm.wt_eq (.mk b0 b1 b2 xs)
 simp only[Fm.op,Fm.atom,Fm.var,Fm.parts]at hW
 refine zub _ (zrk xs (λx hx=>ih x hx ?_) Y0) hs
 have:=zbz Fm.wt xs x hx
 omega
theorem zxd:∀a b:Fm,FC Tryz.prog 48 [fmD a,fmD b] [bD (same a b)] :=
 zck λb0 b1 b2 xs ih b=>zr8 (.mk b0 b1 b2 xs) b (zrt xs b.parts ih)
end
section
open Go.RowKit
inductive Nt where
 | mk (rule:Int) (form:Fm) (label:Int) (term:Tm) (parts:List Nt)
def Nt.rule:Nt->Int|.mk a _ _ _ _=>a
def Nt.form:Nt->Fm|.mk _ a _ _ _=>a
def Nt.label:Nt->Int|.mk _ _ a _ _=>a
def Nt.term:Nt->Tm|.mk _ _ _ a _=>a
def Nt.parts:Nt->List Nt|.mk _ _ _ _ a=>a
theorem Nt.eta:∀a:Nt,Nt.mk a.rule a.form a.label a.term a.parts=a|.mk _ _ _ _ _=>rfl
mutual
theorem zbu {P:Nt->Prop}(h:∀r f l t ps,(∀x∈ps,P x)->P (.mk r f l t ps)):∀e,P e
 | .mk r f l t ps=>h r f l t ps (qen h ps)
theorem qen {P:Nt->Prop}(h:∀r f l t ps,(∀x∈ps,P x)->P (.mk r f l t ps)):∀xs:List Nt,∀x∈xs,P x
 | [],x,hx=>absurd hx (by simp)
 | a::xs,x,hx=>(Qu.1 hx).elim (λe=>e▸zbu h a) (qen h xs x)
end
mutual
def Nt.fold {α:Type}(g:Int->Fm->Int->Tm->List Nt->List α->α):Nt->α
 | .mk r f l t ps=>g r f l t ps (Nt.folds g ps)
def Nt.folds {α:Type}(g:Int->Fm->Int->Tm->List Nt->List α->α):List Nt->List α
 | []=>[]
 | a::xs=>Nt.fold g a::Nt.folds g xs
end
theorem Nt.folds_map {α:Type}(g:Int->Fm->Int->Tm->List Nt->List α->α)(xs:List Nt):Nt.folds g xs=xs.map (Nt.fold g):=by
 induction xs with
 | nil=>rfl
 | cons a xs ih=>rw[Nt.folds,ih];rfl
theorem Nt.fold_eq {α:Type}(g:Int->Fm->Int->Tm->List Nt->List α->α)(a:Nt):Nt.fold g a=g a.rule a.form a.label a.term a.parts (a.parts.map (Nt.fold g)):=by
 cases a;rw[Nt.fold,Nt.folds_map];rfl
def ntC:Nt->List T:=Nt.fold λr f l t _ rs=>[.int .i64 r,.int .i64 f.op,.str f.atom.name,.sl 2 (f.atom.args.map tmC),.str f.var,.sl 5 (f.parts.map fmC),.int .i64 l,.str t.name,.sl 2 (t.args.map tmC),.sl 10 rs]
theorem zac (a:Nt):ntC a=[.int .i64 a.rule,.int .i64 a.form.op,.str a.form.atom.name,.sl 2 (a.form.atom.args.map tmC),.str a.form.var,.sl 5 (a.form.parts.map fmC),.int .i64 a.label,.str a.term.name,.sl 2 (a.term.args.map tmC),.sl 10 (a.parts.map ntC)]:=Nt.fold_eq _ a
theorem zbe (r:Int)(f:Fm)(l:Int)(t:Tm)(ps:List Nt):ntC (.mk r f l t ps)=[.int .i64 r,.int .i64 f.op,.str f.atom.name,.sl 2 (f.atom.args.map tmC),.str f.var,.sl 5 (f.parts.map fmC),.int .i64 l,.str t.name,.sl 2 (t.args.map tmC),.sl 10 (ps.map ntC)]:=zac _
abbrev ntD (a:Nt):D:=.agg (ntC a)
abbrev ntS (xs:List Nt):T:=.sl 10 (xs.map ntC)
def Nt.wt:Nt->Nat:=Nt.fold λ_ f _ t ps rs=>f.wt+t.wt+(ps.length+rs.sum)
theorem Nt.wt_eq (a:Nt):a.wt=a.form.wt+a.term.wt+(a.parts.length+(a.parts.map Nt.wt).sum):=Nt.fold_eq _ a
def zuy (xs:List Nt):Nat:=xs.length+(xs.map Nt.wt).sum
structure An where
 label:Int
 form:Fm
def anC (a:An):List T:=[.int .i64 a.label,.int .i64 a.form.op,.str a.form.atom.name,.sl 2 (a.form.atom.args.map tmC),.str a.form.var,.sl 5 (a.form.parts.map fmC)]
theorem zd7 (a:An):anC a=[.int .i64 a.label,.int .i64 a.form.op,.str a.form.atom.name,.sl 2 (a.form.atom.args.map tmC),.str a.form.var,.sl 5 (a.form.parts.map fmC)]:=rfl
abbrev anD (a:An):D:=.agg (anC a)
abbrev anS (xs:List An):T:=.sl 6 (xs.map anC)
end
section
open Go.RowKit
theorem zhz:∀d,zb9 Tryz.prog 30 d->∃a:Nt,d.cells=ntC a :=
 zne λd ih h=>by
  obtain⟨fs,rfl,hf⟩:=h.st Tryz.underlying30;have hf:zej Tryz.prog [3,27,3,24,28] fs:=hf;obtain⟨x1,r1,rfl,h1,hf⟩:=hf.cons;obtain⟨x2,r2,rfl,h2,hf⟩:=hf.cons;obtain⟨x3,r3,rfl,h3,hf⟩:=hf.cons;obtain⟨x4,r4,rfl,h4,hf⟩:=hf.cons;obtain⟨x5,r5,rfl,h5,hf⟩:=hf.cons;obtain rfl:=hf.nil;obtain⟨r,rfl⟩:=h1.int Tryz.underlying3;obtain⟨f,hfm⟩:=qaq _ h2;obtain⟨m,rfl⟩:=h3.int Tryz.underlying3;obtain⟨t,ht⟩:=qgn _ h4;obtain⟨xs,rfl,hx⟩:=h5.sl Tryz.underlying28;obtain⟨l,hl⟩:=zhw ntC xs λx hx'=>ih x (by have:=List.sizeOf_lt_of_mem hx';simp;omega) (hx x hx')
  exact⟨.mk r f m t l,by
   rw[zac,PD.cells,PD.flat,PD.flat,PD.flat,PD.flat,PD.flat,PD.flat,PD.cells,PD.cells,PD.cells,hl,ht,hfm,zab,zaa,show Tryz.prog.cellsOf 30=10 from by kernel_rfl];rfl⟩
end
section
open Go.RowKit
def zhi (b:UInt8):Bool:=decide (97<=(b.toNat:Int))&&decide ((b.toNat:Int)<=122)
def qmw (b:UInt8):Bool:=decide (48<=(b.toNat:Int))&&decide ((b.toNat:Int)<=57)
def zn0 (b:UInt8):Bool:=decide (65<=(b.toNat:Int))&&decide ((b.toNat:Int)<=90)
def zqq (b:UInt8):Bool:=zhi b||qmw b
abbrev uD (b:UInt8):D:=.one (.int .u8 b.toNat)
theorem zjg (b:UInt8):FC Tryz.prog 174 [uD b] [bD (zhi b)]:=by
 unfold zhi
 refine zae Tryz.call174 Tryz.func174 rfl Yz (zao Yz) ?_
 simp -implicitDefEqProofs only[go_sem,Tryz.results174]
 refine⟨λh=>?_,λh=>?_⟩<;>simp at h⊢<;>omega
theorem zua (b:UInt8):FC Tryz.prog 175 [uD b] [bD (qmw b)]:=by
 unfold qmw
 refine zae Tryz.call175 Tryz.func175 rfl Yz (zao Yz) ?_
 simp -implicitDefEqProofs only[go_sem,Tryz.results175]
 refine⟨λh=>?_,λh=>?_⟩<;>simp at h⊢<;>omega
theorem zs8 (b:UInt8):FC Tryz.prog 173 [uD b] [bD (zn0 b)]:=by
 unfold zn0
 refine zae Tryz.call173 Tryz.func173 rfl Yz (zao Yz) ?_
 simp -implicitDefEqProofs only[go_sem,Tryz.results173]
 refine⟨λh=>?_,λh=>?_⟩<;>simp at h⊢<;>omega
def inB (n lo hi:Int):Bool:=decide (lo<=n)&&decide (n<=hi)
theorem zfg (n lo hi:Int):FC Tryz.prog 79 [iD n,iD lo,iD hi] [bD (inB n lo hi)]:=by
 unfold inB
 refine zae Tryz.call79 Tryz.func79 rfl Yz (zao Yz) ?_
 simp -implicitDefEqProofs only[go_sem,Tryz.results79]
 refine⟨λh=>?_,λh=>?_⟩<;>simp at h⊢<;>omega
theorem zpc (n lo hi:Int):FC Tryz.prog 77 [iD n,iD lo,iD hi] [bD (inB n lo hi)]:=by
 unfold inB
 refine zae Tryz.call77 Tryz.func77 rfl Yz (zao Yz) ?_
 simp -implicitDefEqProofs only[go_sem,Tryz.results77]
 refine⟨λh=>?_,λh=>?_⟩<;>simp at h⊢<;>omega
theorem qp5 (a b:Int):FC Tryz.prog 183 [iD a,iD b] [iD (max a b)]:=by
 refine zae Tryz.call183 Tryz.func183 rfl Yz (zao Yz) ?_
 simp -implicitDefEqProofs only[go_sem,Tryz.results183]
 refine⟨λh=>?_,λh=>?_⟩<;>simp at h<;>exact zxm Y0
theorem zsn (b:UInt8):FC Tryz.prog 134 [uD b] [bD (zqq b)]:=by
 unfold zqq zhi qmw
 refine zae Tryz.call134 Tryz.func134 rfl Yz (zao Yz) ?_
 simp -implicitDefEqProofs only[go_sem,Tryz.results134]
 simp only[T.bool.injEq,Q2,Ju]
 refine⟨λh=>⟨λh2=>⟨λh3=>?_,λh3=>?_⟩,λh2=>?_⟩,λh=>⟨λh2=>?_,λh2=>?_⟩⟩<;>simp[h,h2]<;>omega
def zvi:Str->Bool
 | []=>true
 | c::cs=>zn0 c&&cs.all zqq
def za9 (s:Str):Bool:=zvi s&&inB s.length 1 4
theorem zdt (s:Str):FC Tryz.prog 145 [sD s] [bD (za9 s)]:=by
 refine zeo (λhw=>?_) Tryz.call145
 have hl:s.length<=9223372036854775807:=by simpa[zik,wfT]using hw.1
 refine zae Tryz.call145 Tryz.func145 rfl Yz (zao Yz) ?_
 simp -implicitDefEqProofs only[go_sem,Tryz.results145]
 refine zah (λk:Nat=>hd [(0,vT (.str s)),(5,vI s.length),(6,vI k)] [] []) (λk=>k<=s.length/\zvi s=if k=0 then zvi s else (s.drop k).all zqq) (λk=>s.length-k) 0 (zad ?_) ?_ ?_
 ·exact Yy
 ·simp
 ·intro k ⟨hk,hr⟩;by_cases hlt:k<s.length
  ·by_cases h0:k=0
   ·subst h0;have hl0:(0:Int)<s.length:=by omega
    have he:zvi s=(zn0 (s.getD 0 0)&&(s.drop 1).all zqq):=by cases s;exact absurd hlt (by simp);rfl
    refine Ze hlt hl0 ?_;refine callF (zs8 (s.getD 0 0)) Yy ?_;refine Y1 ?_;refine⟨λh=>⟨1,⟨hlt,?_⟩,Y0,zad (by simp -implicitDefEqProofs only[go_sem];rw[za4 Y0 Y0])⟩,λh=>?_⟩
    ·have:zn0 (s.getD 0 0)=true:=by simpa using h
     rw[he,this];rfl
    ·have:zn0 (s.getD 0 0)=false:=by simpa using h
     rw[za9,he,this];rfl
   ·have h1:((k:Int)==0)=false:=by simp;omega
    have h2:(0:Int)<k:=by omega
    have hg:s.getD k 0=s[k]:=by simp[List.getD,hlt]
    rw[if_neg h0,Qm hlt,Ks]at hr;refine Zj hlt h1 h2 ?_;refine callF (zjg (s.getD k 0)) Yy ?_;refine Y1 ?_;simp only[hg];refine⟨λh=>⟨hlt,?_⟩,λh=>?_⟩
    ·refine callF (zua s[k]) Yy ?_;refine Y1 ?_;refine⟨λh'=>?_,λh'=>⟨k+1,⟨hlt,?_⟩,Y0,zad (by simp -implicitDefEqProofs only[go_sem];rw[zaq Y0])⟩⟩
     ·have:zqq s[k]=false:=by simp[zqq];simp at h h';exact⟨h,h'⟩
      simp[za9,hr,this]
     ·have:zqq s[k]=true:=by simp[zqq];right;simpa using h'
      rw[hr,this];simp
    ·refine⟨k+1,⟨hlt,?_⟩,Y0,zad (by simp -implicitDefEqProofs only[go_sem];rw[zaq Y0])⟩;have:zqq s[k]=true:=by simp[zqq];left;simpa using h
     rw[hr,this];simp
  ·refine Vd ?_;refine callF (zfg s.length 1 4) Yy ?_;refine Y1 ?_;have:zvi s=true:=by
    by_cases h0:k=0
    ·have:s=[]:=Kf.1 Y0;rw[this];rfl
    ·rw[hr,if_neg h0,Q0 Y0];rfl
   simp[za9,this]
end
section
open Go.RowKit
abbrev zdl (xs:List Str):T:=.sl 1 (xs.map λs=>[.str s])
theorem qia {α:Type} [BEq α] [LawfulBEq α]{xs:List α}{s:α}{k:Nat}(hk:k<xs.length)(hn:s∉xs.take k)(e:xs[k]=s):xs.idxOf s=k:=by
 have h:xs=xs.take k++xs.drop k:=(Jh k xs).symm
 rw[Qm hk]at h
 rw[h,List.idxOf_append,if_neg hn,e]
 rw[show(s::xs.drop (k+1)).idxOf s=0 from List.idxOf_cons_self ..]
 simp;omega
theorem zi3 {α:Type}{xs:List α}{s:α}{k:Nat}(hk:k<xs.length)(hn:s∉xs.take k)(e:xs[k]≠s):s∉xs.take (k+1):=by
 rw[Qn hk]
 simp only[Qw,Q4,not_or]
 exact⟨hn,λh=>e h.symm⟩
def idxS {α:Type} [BEq α](xs:List α)(s:α):Int:=if xs.contains s then xs.idxOf s else -1
theorem qch (xs:List Str)(s:Str):FC Tryz.prog 192 [.one (zdl xs),sD s] [iD (idxS xs s)]:=by
 refine zeo (λhw=>?_) Tryz.call192
 have hl:xs.length<=9223372036854775807:=by simpa[zik,wfT]using hw.1.1
 refine zae Tryz.call192 Tryz.func192 rfl Yz (zao Yz) ?_
 simp -implicitDefEqProofs only[go_sem,Tryz.results192]
 refine zah (λk:Nat=>hd [(0,vT (zdl xs)),(1,vT (.str s)),(7,vI xs.length),(8,vI k)] [] []) (λk=>k<=xs.length/\s∉xs.take k) (λk=>xs.length-k) 0 (zad ?_) ?_ ?_
 ·exact Yy
 ·simp
 ·intro k ⟨hk,hr⟩;by_cases hlt:k<xs.length
  ·refine Xj hlt ?_;refine⟨λh=>?_,λh=>?_⟩
   ·have e:xs[k]=s:=(Q9.1 h).symm;have hm:s∈xs:=e▸Qk hlt;rw[idxS,if_pos (by simpa using hm),qia hlt hr e]
   ·have e:xs[k]≠s:=λe=>by simp[e]at h
    exact⟨k+1,⟨hlt,zi3 hlt hr e⟩,Y0,zad (by simp -implicitDefEqProofs only[go_sem];rw[zaq Y0])⟩
  ·refine Vd ?_;rw[Qr Y0]at hr;rw[idxS,if_neg (by simpa using hr)]
theorem zc8 (xs:List Str)(s:Str):FC Tryz.prog 180 [.one (zdl xs),sD s] [bD (xs.contains s)]:=by
 refine zae Tryz.call180 Tryz.func180 rfl Yz (zao Yz) ?_
 simp -implicitDefEqProofs only[go_sem,Tryz.results180]
 refine callF (qch xs s) Yy ?_
 refine Y1 ?_
 unfold idxS
 cases h:xs.contains s<;>simp
def zwm:List Str:=[[116,114,117,101],[102,97,108,115,101],[116,114,117,116,104],[98,111,116,104],[101,105,116,104,101,114],[105,102],[97,108,108],[115,111,109,101]]
theorem qbh:FC Tryz.prog 187 [] [.one (zdl zwm)]:=by
 refine zae Tryz.call187 Tryz.func187 rfl Yz (zao Yz) ?_
 simp -implicitDefEqProofs only[go_sem,Tryz.results187]
 refine zbg Yy ?_
 refine Y1 ?_
 rfl
def zq7 (b:UInt8):Bool:=zqq b||b==95
def znw:Str->Bool
 | []=>true
 | c::cs=>zhi c&&cs.all zq7
def zdg (s:Str):Bool:=znw s&&inB s.length 1 6&&!zwm.contains s
theorem qsq {b:UInt8}{n:Nat}(hn:n<256):((b.toNat:Int)==(n:Int))=(b==UInt8.ofNat n):=by
 rw[Kp]
 simp only[Q9]
 constructor
 ·intro h;apply UInt8.toNat_inj.1;simp[UInt8.toNat_ofNat];omega
 ·intro h;subst h;simp[UInt8.toNat_ofNat];omega
theorem zpg (s:Str):FC Tryz.prog 170 [sD s] [bD (zdg s)]:=by
 refine zeo (λhw=>?_) Tryz.call170
 have hl:s.length<=9223372036854775807:=by simpa[zik,wfT]using hw.1
 refine zae Tryz.call170 Tryz.func170 rfl Yz (zao Yz) ?_
 simp -implicitDefEqProofs only[go_sem,Tryz.results170]
 refine zah (λk:Nat=>hd [(0,vT (.str s)),(5,vI s.length),(6,vI k)] [] []) (λk=>k<=s.length/\znw s=if k=0 then znw s else (s.drop k).all zq7) (λk=>s.length-k) 0 (zad ?_) ?_ ?_
 ·exact Yy
 ·simp
 ·intro k ⟨hk,hr⟩;by_cases hlt:k<s.length
  ·by_cases h0:k=0
   ·subst h0;have hl0:(0:Int)<s.length:=by omega
    have he:znw s=(zhi (s.getD 0 0)&&(s.drop 1).all zq7):=by cases s;exact absurd hlt (by simp);rfl
    refine Ze hlt hl0 ?_;refine callF (zjg (s.getD 0 0)) Yy ?_;refine Y1 ?_;refine⟨λh=>⟨hl0,?_⟩,λh=>?_⟩
    ·have hi:zhi (s.getD 0 0)=true:=by simpa using h
     refine callF (zjg (s.getD 0 0)) (Y3 hi) ?_;refine Y2 hi ?_;refine⟨1,⟨hlt,?_⟩,Y0,zad (by simp -implicitDefEqProofs only[go_sem];rw[za4 Y0 Y0])⟩;rw[he,hi];rfl
    ·have:zhi (s.getD 0 0)=false:=by simpa using h
     rw[zdg,he,this];rfl
   ·have h1:((k:Int)==0)=false:=by simp;omega
    have h2:(0:Int)<k:=by omega
    have hg:s.getD k 0=s[k]:=by simp[List.getD,hlt]
    rw[if_neg h0,Qm hlt,Ks]at hr;refine Zj hlt h1 h2 ?_;refine callF (zjg (s.getD k 0)) Yy ?_;refine Y1 ?_;simp only[hg];refine⟨λh=>⟨hlt,?_⟩,λh=>?_⟩
    ·refine callF (zua s[k]) Yy ?_;refine Y1 ?_;simp only[hg];refine⟨λh'=>⟨hlt,λh''=>?_,λh''=>⟨k+1,⟨hlt,?_⟩,Y0,zad (by simp -implicitDefEqProofs only[go_sem];rw[zaq Y0])⟩⟩,λh'=>⟨k+1,⟨hlt,?_⟩,Y0,zad (by simp -implicitDefEqProofs only[go_sem];rw[zaq Y0])⟩⟩
     ·have:zq7 s[k]=false:=by
       have:=qsq (b:=s[k]) (n:=95) Y0;simp[zq7,zqq]at h h'⊢;refine⟨⟨h,h'⟩,λe=>?_⟩;rw[e]at h'';simp at h''
      rw[zdg,hr,this];rfl
     ·have:zq7 s[k]=true:=by
       have:=qsq (b:=s[k]) (n:=95) Y0;simp[zq7]at h''⊢;right;simpa[h'']using this
      rw[hr,this];rfl
     ·have:zq7 s[k]=true:=by simp[zq7,zqq];simp at h';simp[h']
      rw[hr,this];rfl
    ·refine⟨k+1,⟨hlt,?_⟩,Y0,zad (by simp -implicitDefEqProofs only[go_sem];rw[zaq Y0])⟩;have:zq7 s[k]=true:=by simp[zq7,zqq];simp at h;simp[h]
     rw[hr,this];rfl
  ·refine Vd ?_;refine callF (zfg s.length 1 6) Yy ?_;refine Y1 ?_;have ha:znw s=true:=by
    by_cases h0:k=0
    ·have:s=[]:=Kf.1 Y0;rw[this];rfl
    ·rw[hr,if_neg h0,Q0 Y0];rfl
   refine⟨λh=>?_,λh=>?_⟩
   ·refine callF (qbh) Yy ?_;refine Y1 ?_;refine callF (zc8 zwm s) Yy ?_;refine Y1 ?_;rw[zdg,ha,h];rfl
   ·rw[zdg,ha,h];rfl
end
section
open Go.RowKit
theorem qso {b:UInt8}(h1:decide ((b.toNat:Int)<65)=false)(h2:decide ((90:Int)<b.toNat)=false):zn0 b=true:=by
 simp[zn0]at *;omega
theorem qmn {b:UInt8}(h1:decide ((b.toNat:Int)<65)=true):zn0 b=false:=by
 simp[zn0]at *;omega
theorem qm6 {b:UInt8}(h2:decide ((90:Int)<b.toNat)=true):zn0 b=false:=by
 simp[zn0]at *;omega
theorem qnj {b:UInt8}(h1:decide ((b.toNat:Int)<97)=false)(h2:decide ((122:Int)<b.toNat)=false):zhi b=true:=by
 simp[zhi]at *;omega
theorem qjz {b:UInt8}(h1:decide ((b.toNat:Int)<97)=true):zhi b=false:=by
 simp[zhi]at *;omega
theorem qhx {b:UInt8}(h2:decide ((122:Int)<b.toNat)=true):zhi b=false:=by
 simp[zhi]at *;omega
theorem zyz {s:Str}(h:0<s.length):zvi s=(zn0 (s.getD 0 0)&&(s.drop 1).all zqq):=by
 cases s
 ·exact absurd h (by simp)
 ·rfl
theorem zt6 {s:Str}(h:0<s.length):znw s=(zhi (s.getD 0 0)&&(s.drop 1).all zq7):=by
 cases s
 ·exact absurd h (by simp)
 ·rfl
theorem zih (s:Str):FC Tryz.prog 112 [sD s] [bD (za9 s)]:=by
 refine zeo (λhw=>?_) Tryz.call112
 have hl:s.length<=9223372036854775807:=by simpa[zik,wfT]using hw.1
 refine zae Tryz.call112 Tryz.func112 rfl Yz (zao Yz) ?_
 simp -implicitDefEqProofs only[go_sem,Tryz.results112]
 refine callF (zpc s.length 1 4) Yy ?_
 refine Y1 ?_
 by_cases hb:inB s.length 1 4=true
 ·have hp:0<s.length:=by simp[inB]at hb;omega
  have hp':(0:Int)<s.length:=by omega
  have he:=zyz hp;refine⟨λh=>⟨hp',λh1=>⟨hp',λh2=>?_,λh2=>?_⟩,λh1=>?_⟩,λh=>by simp[hb]at h⟩
  ·rw[za9,he,qm6 h2];rfl
  ·rw[qso h1 h2,Qv]at he;refine zah (λk:Nat=>hd [(0,vT (.str s)),(3,vI k)] [] []) (λk=>k<=s.length/\zvi s=(s.drop k).all zqq) (λk=>s.length-k) 1 (zad ?_) ?_ ?_
   ·exact Yy
   ·exact⟨hp,he⟩
   ·intro k ⟨hk,hr⟩;by_cases hlt:k<s.length
    ·have hg:s.getD k 0=s[k]:=by simp[List.getD,hlt]
     rw[Qm hlt,Ks]at hr;refine Vd ?_;simp only[hg];refine callF (zsn s[k]) Yy ?_;refine Y1 ?_;refine⟨λh=>?_,λh=>⟨k+1,⟨hlt,?_⟩,Y0,zad (by simp -implicitDefEqProofs only[go_sem];rw[zaq Y0])⟩⟩
     ·have:zqq s[k]=false:=by simpa using h
      rw[za9,hr,this];rfl
     ·have:zqq s[k]=true:=by simpa using h
      rw[hr,this];rfl
    ·refine Vd ?_;rw[za9,hr,Q0 Y0,hb];rfl
  ·rw[za9,he,qmn h1];rfl
 ·have hb':inB s.length 1 4=false:=by simpa using hb
  refine⟨λh=>by simp[hb']at h,λh=>?_⟩;rw[za9,hb',Ke]
theorem zon (s:Str):FC Tryz.prog 158 [sD s] [bD (zdg s)]:=by
 refine zeo (λhw=>?_) Tryz.call158
 have hl:s.length<=9223372036854775807:=by simpa[zik,wfT]using hw.1
 refine zae Tryz.call158 Tryz.func158 rfl Yz (zao Yz) ?_
 simp -implicitDefEqProofs only[go_sem,Tryz.results158]
 refine callF (zpc s.length 1 6) Yy ?_
 refine Y1 ?_
 by_cases hb:inB s.length 1 6=true
 ·have hp:0<s.length:=by simp[inB]at hb;omega
  have hp':(0:Int)<s.length:=by omega
  have he:=zt6 hp;refine⟨λh=>⟨hp',λh1=>⟨hp',λh2=>?_,λh2=>?_⟩,λh1=>?_⟩,λh=>by simp[hb]at h⟩
  ·rw[zdg,he,qhx h2];rfl
  ·rw[qnj h1 h2,Qv]at he;have leaf:∀l,l∈zwm->(s==l)=true->T.bool false=T.bool (zdg s):=λl hl e=>by
    have:zwm.contains s=true:=by rw[Jl,Q9.1 e];exact hl
    rw[zdg,this,Qd,Ke]
   refine⟨λe=>⟨λ_=>leaf _ (by simp[zwm]) e,λe'=>absurd (e.symm.trans e') (by simp)⟩,λn1=>?_⟩;refine⟨λe=>⟨λ_=>leaf _ (by simp[zwm]) e,λe'=>absurd (e.symm.trans e') (by simp)⟩,λn2=>?_⟩;refine⟨λe=>⟨λ_=>leaf _ (by simp[zwm]) e,λe'=>absurd (e.symm.trans e') (by simp)⟩,λn3=>?_⟩;refine⟨λe=>⟨λ_=>leaf _ (by simp[zwm]) e,λe'=>absurd (e.symm.trans e') (by simp)⟩,λn4=>?_⟩;refine⟨λe=>⟨λ_=>leaf _ (by simp[zwm]) e,λe'=>absurd (e.symm.trans e') (by simp)⟩,λn5=>?_⟩;refine⟨λe=>⟨λ_=>leaf _ (by simp[zwm]) e,λe'=>absurd (e.symm.trans e') (by simp)⟩,λn6=>?_⟩;refine⟨λe=>⟨λ_=>leaf _ (by simp[zwm]) e,λe'=>absurd (e.symm.trans e') (by simp)⟩,λn7=>?_⟩;refine⟨λe=>leaf _ (by simp[zwm]) e,λn8=>?_⟩;have hnc:zwm.contains s=false:=by
    simp only[Jd,ne_eq]at n1 n2 n3 n4 n5 n6 n7 n8;rw[Bool.eq_false_iff,ne_eq,Jl];simp only[zwm,Qu,K2,or_false,not_or];exact⟨n1,n2,n3,n4,n5,n6,n7,n8⟩
   refine zah (λk:Nat=>hd [(0,vT (.str s)),(3,vI k)] [] []) (λk=>k<=s.length/\znw s=(s.drop k).all zq7) (λk=>s.length-k) 1 (zad ?_) ?_ ?_
   ·exact Yy
   ·exact⟨hp,he⟩
   ·intro k ⟨hk,hr⟩;by_cases hlt:k<s.length
    ·have hg:s.getD k 0=s[k]:=by simp[List.getD,hlt]
     rw[Qm hlt,Ks]at hr;refine Vd ?_;simp only[hg];refine callF (zsn s[k]) Yy ?_;refine Y1 ?_;simp only[hg];refine⟨λh=>⟨hlt,λh'=>?_,λh'=>⟨k+1,⟨hlt,?_⟩,Y0,zad (by simp -implicitDefEqProofs only[go_sem];rw[zaq Y0])⟩⟩,λh=>⟨k+1,⟨hlt,?_⟩,Y0,zad (by simp -implicitDefEqProofs only[go_sem];rw[zaq Y0])⟩⟩
     ·have:zq7 s[k]=false:=by
       simp[zq7]at h⊢;refine⟨h,λe=>?_⟩;rw[e]at h';simp at h'
      rw[zdg,hr,this];rfl
     ·have:zq7 s[k]=true:=by
       have:=qsq (b:=s[k]) (n:=95) Y0;simp[zq7]at h'⊢;right;simpa[h']using this
      rw[hr,this];rfl
     ·have:zq7 s[k]=true:=by simp[zq7];simp at h;simp[h]
      rw[hr,this];rfl
    ·refine Vd ?_;rw[zdg,hr,Q0 Y0,hb,hnc];rfl
  ·rw[zdg,he,qjz h1];rfl
 ·have hb':inB s.length 1 6=false:=by simpa using hb
  refine⟨λh=>by simp[hb']at h,λh=>?_⟩;rw[zdg,hb',Ke];rfl
end
section
open Go.RowKit
def Tm.nodes:Tm->Nat:=Tm.fold λ_ _ rs=>1+rs.sum
theorem Tm.nodes_eq (a:Tm):a.nodes=1+(a.args.map Tm.nodes).sum:=Tm.fold_eq _ a
def Tm.depth:Tm->Nat:=Tm.fold λ_ _ rs=>rs.foldl max 0+1
theorem Tm.depth_eq (a:Tm):a.depth=(a.args.map Tm.depth).foldl max 0+1:=Tm.fold_eq _ a
theorem zgo:∀a:Tm,a.nodes<=1+a.wt:=by
 refine zb3 λn xs ih=>?_
 rw[Tm.nodes_eq,Tm.wt_eq]
 show 1+(xs.map Tm.nodes).sum<=1+(n.length+xs.length+(xs.map Tm.wt).sum)
 have:(xs.map Tm.nodes).sum<=xs.length+(xs.map Tm.wt).sum:=by
  clear n;induction xs with
  | nil=>simp
  | cons x xs ih2 =>
   have h1:=ih x (by simp);have h2:=ih2 λy hy=>ih y (by simp[hy]);simp only[Qc,Kt,Qg];omega
 omega
theorem zk3 {B:Nat}:∀(xs:List Nat)(m:Nat),m<=B->(∀x∈xs,x<=B)->xs.foldl max m<=B
 | [],m,h,_=>h
 | x::xs,m,h,h2=>zk3 xs (max m x) (by have:=h2 x (by simp);omega) λy hy=>h2 y (by simp[hy])
theorem zme:∀a:Tm,a.depth<=a.nodes:=by
 refine zb3 λn xs ih=>?_
 rw[Tm.nodes_eq,Tm.depth_eq]
 show(xs.map Tm.depth).foldl max 0+1<=1+(xs.map Tm.nodes).sum
 have:=zk3 (B:=(xs.map Tm.nodes).sum) (xs.map Tm.depth) 0 Y0 λd hd=>by
  obtain⟨x,hx,rfl⟩:=Ka.1 hd;exact Je (ih x hx) (zbz Tm.nodes xs x hx)
 omega
def szL (lim:Int):Int->List Int->Int
 | n,[]=>n
 | n,r::rs=>if n>lim then n else szL lim (n+r) rs
def zhd:Tm->Int:=Tm.fold λ_ _ rs=>szL 30 1 rs
theorem zxn (a:Tm):zhd a=szL 30 1 (a.args.map zhd):=Tm.fold_eq _ a
theorem zlr {α:Type}(f:α->Int)(g:α->Nat)(lim:Int):∀(xs:List α)(n:Int),0<=n->(∀x∈xs,1<=f x/\f x<=g x/\(f x<=lim->f x=g x))->szL lim n (xs.map f)<=n+(xs.map g).sum/\n<=szL lim n (xs.map f)/\(szL lim n (xs.map f)<=lim->szL lim n (xs.map f)=n+(xs.map g).sum)
 | [],n,_,_=>by simp[szL]
 | x::xs,n,hn,h=>by
  obtain⟨h1,h2,h3⟩:=h x (by simp);obtain⟨k1,k2,k3⟩:=zlr f g lim xs (n+f x) Y0 λy hy=>h y (by simp[hy]);simp only[Qc,szL,Kt];split
  ·refine⟨Y0,Y0,λhh=>by omega⟩
  ·refine⟨Y0,Y0,λhh=>?_⟩;have:=k3 hh;rw[this];have:f x=g x:=h3 Y0;omega
theorem zoo:∀a:Tm,1<=zhd a/\zhd a<=a.nodes/\(zhd a<=30->zhd a=a.nodes):=by
 refine zb3 λn xs ih=>?_
 rw[zxn,Tm.nodes_eq]
 show 1<=szL 30 1 (xs.map zhd)/\szL 30 1 (xs.map zhd)<=((1+(xs.map Tm.nodes).sum:Nat):Int)/\_
 obtain⟨k1,k2,k3⟩:=zlr zhd Tm.nodes 30 xs 1 Y0 ih
 refine⟨k2,Y0,λh=>?_⟩
 have:=k3 h
 show szL 30 1 (xs.map zhd)=_
 rw[this];show _=((1+(xs.map Tm.nodes).sum:Nat):Int);omega
theorem qlz (a:Tm):decide (zhd a<=30)=decide (a.nodes<=30):=by
 obtain⟨h1,h2,h3⟩:=zoo a
 rw[Jy]
 exact⟨λh=>by have:=h3 h;omega,λh=>by omega⟩
def qgr {α:Type}(f:α->Nat)(xs:List α)(k:Nat):Nat:=((xs.drop k).map f).sum
theorem zf8 {α:Type}(f:α->Nat)(xs:List α):qgr f xs 0=(xs.map f).sum:=by simp[qgr]
theorem zkk {α:Type}(f:α->Nat)(xs:List α)(k:Nat)(h:k<xs.length):qgr f xs k=f xs[k]+qgr f xs (k+1):=by
 unfold qgr
 rw[Qm h,Qc,Kt]
theorem qtk (a:Tm)(hs:a.wt<=1099511627776)(H:∀x∈a.args,FC Tryz.prog 168 [tmD x] [iD (zhd x)]):FC Tryz.prog 168 [tmD a] [iD (zhd a)]:=by
 refine zeo (λhw=>?_) Tryz.call168
 have hl:a.args.length<=9223372036854775807:=by rw[Tm.wt_eq]at hs;omega
 have hn:=zgo a
 have hN:=a.nodes_eq
 simp only[tmD,zab]
 refine zae Tryz.call168 Tryz.func168 rfl Yz (zao Yz) ?_
 simp -implicitDefEqProofs only[go_sem,Tryz.results168]
 refine zah (λp:Nat×Int=>hd [(3,vI p.2),(7,vT (tmS a.args)),(8,vI a.args.length),(9,vI p.1)] [] []) (λp=>p.1<=a.args.length/\zhd a=szL 30 p.2 ((a.args.drop p.1).map zhd)/\1<=p.2/\p.2+qgr Tm.nodes a.args p.1<=a.nodes) (λp=>a.args.length-p.1) (0,1) (zad ?_) ?_ ?_
 ·exact Yy
 ·exact⟨by simp,by rw[zxn];rfl,Y0,by rw[zf8];omega⟩
 ·intro ⟨k,n⟩ ⟨hk,hr,h1,h2⟩;simp only at hk hr h1 h2;by_cases hlt:k<a.args.length
  ·have hd:=zkk Tm.nodes a.args k hlt;obtain⟨s1,s2,s3⟩:=zoo a.args[k];rw[Qm hlt,Qc,szL]at hr;refine Xb hlt ?_;refine⟨λh=>?_,λh=>?_⟩
   ·rw[hr,if_pos (by simpa using h)]
   ·refine callF (H a.args[k] (Qk hlt)) Y4 ?_;refine Y5 ?_;rw[if_neg (by simpa using h)]at hr;exact⟨(k+1,n+zhd a.args[k]),⟨hlt,hr,by simp only;omega,by simp only;omega⟩,by simp only;omega,zad (by simp -implicitDefEqProofs only[go_sem];rw[zaq Y0,za4 Y0 Y0];exact⟨rfl,rfl⟩)⟩
  ·refine Vd ?_;rw[hr,Q0 Y0];rfl
theorem size_c:∀a:Tm,a.wt<=1099511627776->FC Tryz.prog 168 [tmD a] [iD (zhd a)] :=
 zb3 λn xs ih hs=>qtk (.mk n xs) hs λx hx=>ih x hx (by
  have:=Tm.wt_eq (.mk n xs);have:=zbz Tm.wt xs x hx
  simp only[Tm.args]at *;omega)
theorem qpc (a:Tm)(hs:a.wt<=1099511627776)(H:∀x∈a.args,FC Tryz.prog 169 [tmD x] [iD x.depth]):FC Tryz.prog 169 [tmD a] [iD a.depth]:=by
 have hl:a.args.length<=9223372036854775807:=by rw[Tm.wt_eq]at hs;omega
 have hn:=zgo a
 have hdn:=zme a
 have hD:=a.depth_eq
 simp only[tmD,zab]
 refine zae Tryz.call169 Tryz.func169 rfl Yz (zao Yz) ?_
 simp -implicitDefEqProofs only[go_sem,Tryz.results169]
 refine zah (λp:Nat×Nat=>hd [(3,vI p.2),(7,vT (tmS a.args)),(8,vI a.args.length),(9,vI p.1)] [] []) (λp=>p.1<=a.args.length/\a.depth=((a.args.drop p.1).map Tm.depth).foldl max p.2+1) (λp=>a.args.length-p.1) (0,0) (zad ?_) ?_ ?_
 ·exact Yy
 ·exact⟨by simp,hD⟩
 ·intro ⟨k,n⟩ ⟨hk,hr⟩;simp only at hk hr;by_cases hlt:k<a.args.length
  ·rw[Qm hlt,Qc,J6]at hr;refine Xb hlt ?_;refine callF (H a.args[k] (Qk hlt)) Y4 ?_;refine Y5 ?_;exact⟨(k+1,max n a.args[k].depth),⟨hlt,hr⟩,by simp only;omega,zad (by simp -implicitDefEqProofs only[go_sem];rw[zaq Y0];exact⟨by congr 1;omega,rfl⟩)⟩
  ·refine Vd ?_;rw[Q0 Y0]at hr;simp only[Qi,List.foldl_nil]at hr;rw[hr,zaq Y0]
theorem qtt:∀a:Tm,a.wt<=1099511627776->FC Tryz.prog 169 [tmD a] [iD a.depth] :=
 zb3 λn xs ih hs=>qpc (.mk n xs) hs λx hx=>ih x hx (by
  have:=Tm.wt_eq (.mk n xs);have:=zbz Tm.wt xs x hx
  simp only[Tm.args]at *;omega)
def zet (a:Tm):Bool:=decide (a.nodes<=30)&&decide (a.depth<=8)
theorem zuq (a:Tm)(hs:a.wt<=1099511627776):FC Tryz.prog 140 [tmD a] [bD (zet a)]:=by
 simp only[tmD,zab]
 refine zae Tryz.call140 Tryz.func140 rfl Yz (zao Yz) ?_
 simp -implicitDefEqProofs only[go_sem,Tryz.results140]
 refine callF (size_c a hs) Y4 ?_
 refine Y5 ?_
 rw[qlz]
 refine⟨λh=>?_,λh=>?_⟩
 ·refine callF (qtt a hs) Y4 ?_;refine Y5 ?_;rw[zet,h,Qv]
  congr 1
  rw[Jy];omega
 ·rw[zet,h];rfl
end
section
open Go.RowKit
theorem qow (σ:St)(caps:List T):VDs σ (caps.map λt=>.one (.t t)) (caps.map .one)=True:=by
 induction caps with
 | nil=>simp[VDs]
 | cons t ts ih=>rw[Qc,Qc,zz8,ih];simp[qro,CT_t]
attribute [go_sem] qow
def qqp {α:Type}(xs:List α)(p:α->Bool):Int:=if xs.any p then xs.findIdx p else -1
theorem zo2 {α:Type}{xs:List α}{p:α->Bool}{k:Nat}(hk:k<xs.length)(hn:∀x∈xs.take k,p x=false)(h:p xs[k]=true):qqp xs p=k:=by
 have ha:xs.any p=true:=List.any_eq_true.2 ⟨xs[k],Qk hk,h⟩
 have hf:xs.findIdx p=k:=(List.findIdx_eq hk).2 ⟨h,λj hj=>hn _ (by
  rw[List.mem_take_iff_getElem];exact⟨j,Y0,rfl⟩)⟩
 rw[qqp,if_pos ha,hf]
theorem ztd {α:Type}{xs:List α}{p:α->Bool}(hn:∀x∈xs,p x=false):qqp xs p = -1:=by
 have ha:xs.any p=false:=by rw[List.any_eq_false];exact λx hx=>by simp[hn x hx]
 rw[qqp,ha];rfl
theorem zz3 {α:Type}(xs:List α)(p:α->Bool):decide (0<=qqp xs p)=xs.any p:=by
 unfold qqp
 cases xs.any p<;>simp
theorem ziv {α:Type}{xs:List α}{p:α->Bool}{k:Nat}(hk:k<xs.length)(hn:∀x∈xs.take k,p x=false)(h:p xs[k]=false):∀x∈xs.take (k+1),p x=false:=by
 rw[Qn hk]
 intro x hx
 rcases Qw.1 hx with hx|hx
 ·exact hn x hx
 ·rw[Q4.1 hx];exact h
theorem zm8 (xs:List Tm)(p:Tm->Bool)(g:FuncId)(caps:List T)(H:∀x∈xs,FC Tryz.prog g (tmD x::caps.map .one) [bD (p x)]):FC Tryz.prog 188 [.one (tmS xs),.one (.fn g caps)] [iD (qqp xs p)]:=by
 refine zeo (λhw=>?_) Tryz.call188
 have hl:xs.length<=9223372036854775807:=by simpa[zik,wfT]using hw.1.1
 refine zae Tryz.call188 Tryz.func188 rfl Yz (zao Yz) ?_
 simp -implicitDefEqProofs only[go_sem,Tryz.results188]
 refine zah (λk:Nat=>hd [(0,vT (tmS xs)),(1,vT (.fn g caps)),(7,vI xs.length),(8,vI k)] [] []) (λk=>k<=xs.length/\∀x∈xs.take k,p x=false) (λk=>xs.length-k) 0 (zad ?_) ?_ ?_
 ·exact Yy
 ·simp
 ·intro k ⟨hk,hr⟩;by_cases hlt:k<xs.length
  ·refine Xb hlt ?_;refine callF (H xs[k] (Qk hlt)) Y4 ?_;refine Y5 ?_;refine⟨λh=>?_,λh=>⟨k+1,⟨hlt,ziv hlt hr h⟩,Y0,zad (by simp -implicitDefEqProofs only[go_sem];rw[zaq Y0])⟩⟩;rw[zo2 hlt hr h]
  ·refine Vd ?_;rw[Qr Y0]at hr;rw[ztd hr]
theorem zjp (xs:List Tm)(p:Tm->Bool)(g:FuncId)(caps:List T)(H:∀x∈xs,FC Tryz.prog g (tmD x::caps.map .one) [bD (p x)]):FC Tryz.prog 171 [.one (tmS xs),.one (.fn g caps)] [bD (xs.any p)]:=by
 refine zae Tryz.call171 Tryz.func171 rfl Yz (zao Yz) ?_
 simp -implicitDefEqProofs only[go_sem,Tryz.results171]
 refine callF (zm8 xs p g caps H) Yy ?_
 refine Y1 ?_
 rw[zz3]
theorem zjr (xs:List Fm)(p:Fm->Bool)(g:FuncId)(caps:List T)(H:∀x∈xs,FC Tryz.prog g (fmD x::caps.map .one) [bD (p x)]):FC Tryz.prog 186 [.one (fmS xs),.one (.fn g caps)] [iD (qqp xs p)]:=by
 refine zeo (λhw=>?_) Tryz.call186
 have hl:xs.length<=9223372036854775807:=by simpa[zik,wfT]using hw.1.1
 refine zae Tryz.call186 Tryz.func186 rfl Yz (zao Yz) ?_
 simp -implicitDefEqProofs only[go_sem,Tryz.results186]
 refine zah (λk:Nat=>hd [(0,vT (fmS xs)),(1,vT (.fn g caps)),(7,vI xs.length),(8,vI k)] [] []) (λk=>k<=xs.length/\∀x∈xs.take k,p x=false) (λk=>xs.length-k) 0 (zad ?_) ?_ ?_
 ·exact Yy
 ·simp
 ·intro k ⟨hk,hr⟩;by_cases hlt:k<xs.length
  ·simp -implicitDefEqProofs only[go_sem,zaj,hlt,zaa,zab];refine callF (H xs[k] (Qk hlt)) Z6 ?_;refine Xi ?_;refine⟨λh=>?_,λh=>⟨k+1,⟨hlt,ziv hlt hr h⟩,Y0,zad (by simp -implicitDefEqProofs only[go_sem];rw[zaq Y0])⟩⟩;rw[zo2 hlt hr h]
  ·refine Vd ?_;rw[Qr Y0]at hr;rw[ztd hr]
theorem za6 (xs:List Fm)(p:Fm->Bool)(g:FuncId)(caps:List T)(H:∀x∈xs,FC Tryz.prog g (fmD x::caps.map .one) [bD (p x)]):FC Tryz.prog 166 [.one (fmS xs),.one (.fn g caps)] [bD (xs.any p)]:=by
 refine zae Tryz.call166 Tryz.func166 rfl Yz (zao Yz) ?_
 simp -implicitDefEqProofs only[go_sem,Tryz.results166]
 refine callF (zjr xs p g caps H) Yy ?_
 refine Y1 ?_
 rw[zz3]
end
section
open Go.RowKit
def eqL {α:Type}(p:α->α->Bool):List α->List α->Bool
 | [],[]=>true
 | a::xs,b::ys=>p a b&&eqL p xs ys
 | _,_=>false
theorem zv8 {α:Type}{p:α->α->Bool}:∀{xs ys:List α},xs.length≠ys.length->eqL p xs ys=false
 | [],[],h=>absurd rfl h
 | [],_::_,_=>rfl
 | _::_,[],_=>rfl
 | a::xs,b::ys,h=>by simp only[eqL];rw[zv8 (by simpa using h),Ke]
theorem zlw {α:Type}{p:α->α->Bool}:∀{xs ys:List α},(∀x∈xs,∀y,p x y=same x y)->eqL p xs ys=same xs ys
 | [],[],_=>zhy.symm
 | [],_::_,_=>(zcy.2 (by simp)).symm
 | _::_,[],_=>(zcy.2 (by simp)).symm
 | a::xs,b::ys,h=>by simp only[eqL];rw[zdv,h a (by simp) b,zlw λx hx y=>h x (by simp[hx]) y]
set_option maxRecDepth 10000 in
theorem zm2 (xs ys:List Tm)(p:Tm->Tm->Bool)(g:FuncId)(caps:List T)(H:∀x∈xs,∀y∈ys,FC Tryz.prog g (tmD x::tmD y::caps.map .one) [bD (p x y)]):FC Tryz.prog 178 [.one (tmS xs),.one (tmS ys),.one (.fn g caps)] [bD (eqL p xs ys)]:=by
 refine zeo (λhw=>?_) Tryz.call178
 have hl:xs.length<=9223372036854775807:=by simpa[zik,wfT]using hw.1.1
 have hl2:ys.length<=9223372036854775807:=by simpa[zik,wfT]using hw.2.1.1
 refine zae Tryz.call178 Tryz.func178 rfl Yz (zao Yz) ?_
 simp -implicitDefEqProofs only[go_sem,Tryz.results178]
 refine⟨λh=>?_,λh=>?_⟩
 ·rw[zv8 (by rintro e;simp[e]at h)]
 ·have hlen:xs.length=ys.length:=by simp at h;omega
  refine zah (λk:Nat=>hd [(1,vT (tmS ys)),(2,.one (.t (.fn g caps))),(15,vT (tmS xs)),(16,vI xs.length),(17,vI k)] [] []) (λk=>k<=xs.length/\eqL p xs ys=eqL p (xs.drop k) (ys.drop k)) (λk=>xs.length-k) 0 (zad ?_) ?_ ?_
  ·exact Yy
  ·simp
  ·intro k ⟨hk,hr⟩;by_cases hlt:k<xs.length
   ·have hk2:k<ys.length:=by omega
    simp -implicitDefEqProofs only[go_sem,Qa,zaj,hlt,hk2,zab];refine callF (H xs[k] (Qk hlt) ys[k] (Qk hk2)) Y4 ?_;refine Y5 ?_;rw[Qm hlt,Qm hk2,eqL]at hr;refine⟨λh=>?_,λh=>?_⟩
    ·rw[hr,show p xs[k] ys[k]=false by simpa using h];rfl
    ·rw[show p xs[k] ys[k]=true by simpa using h,Qv]at hr;rw[zaq Y0];exact⟨k+1,⟨Y0,hr⟩,Y0,zad Yy⟩
   ·refine Y6 hlt ?_;rw[hr,Q0 Y0,Q0 Y0];rfl
set_option maxRecDepth 10000 in
theorem zfh (xs ys:List Fm)(p:Fm->Fm->Bool)(g:FuncId)(caps:List T)(H:∀x∈xs,∀y∈ys,FC Tryz.prog g (fmD x::fmD y::caps.map .one) [bD (p x y)]):FC Tryz.prog 149 [.one (fmS xs),.one (fmS ys),.one (.fn g caps)] [bD (eqL p xs ys)]:=by
 refine zeo (λhw=>?_) Tryz.call149
 have hl:xs.length<=9223372036854775807:=by simpa[zik,wfT]using hw.1.1
 have hl2:ys.length<=9223372036854775807:=by simpa[zik,wfT]using hw.2.1.1
 refine zae Tryz.call149 Tryz.func149 rfl Yz (zao Yz) ?_
 simp -implicitDefEqProofs only[go_sem,Tryz.results149]
 refine⟨λh=>?_,λh=>?_⟩
 ·rw[zv8 (by rintro e;simp[e]at h)]
 ·have hlen:xs.length=ys.length:=by simp at h;omega
  refine zah (λk:Nat=>hd [(1,vT (fmS ys)),(2,.one (.t (.fn g caps))),(15,vT (fmS xs)),(16,vI xs.length),(17,vI k)] [] []) (λk=>k<=xs.length/\eqL p xs ys=eqL p (xs.drop k) (ys.drop k)) (λk=>xs.length-k) 0 (zad ?_) ?_ ?_
  ·exact Yy
  ·simp
  ·intro k ⟨hk,hr⟩;by_cases hlt:k<xs.length
   ·have hk2:k<ys.length:=by omega
    simp -implicitDefEqProofs only[go_sem,Qa,zaj,hlt,hk2,zaa,zab];refine callF (H xs[k] (Qk hlt) ys[k] (Qk hk2)) Z6 ?_;refine Xi ?_;rw[Qm hlt,Qm hk2,eqL]at hr;refine⟨λh=>?_,λh=>?_⟩
    ·rw[hr,show p xs[k] ys[k]=false by simpa using h];rfl
    ·rw[show p xs[k] ys[k]=true by simpa using h,Qv]at hr;rw[zaq Y0];exact⟨k+1,⟨Y0,hr⟩,Y0,zad Yy⟩
   ·refine Y6 hlt ?_;rw[hr,Q0 Y0,Q0 Y0];rfl
end
section
open Go.RowKit
theorem zms (a b:Tm):same a b=(same a.name b.name&&same a.args b.args):=by
 cases a;cases b
 rw[Kp]
 simp only[Qb,zb1,Tm.name,Tm.args,Tm.mk.injEq]
theorem zg1 (a b:Fm):same a b=(same a.op b.op&&same a.atom b.atom&&same a.var b.var&&same a.parts b.parts):=by
 cases a;cases b
 rw[Kp]
 simp only[Qb,zb1,Fm.op,Fm.atom,Fm.var,Fm.parts,Fm.mk.injEq,and_assoc]
theorem zc2 {α:Type} [BEq α] [LawfulBEq α](a b:α):(a==b)=same a b:=by
 rw[Kp,Q9,zb1]
theorem qcn (a b:Tm)(H:FC Tryz.prog 178 [.one (tmS a.args),.one (tmS b.args),.one (.fn 148 [])] [bD (same a.args b.args)]) :
  FC Tryz.prog 148 [tmD a,tmD b] [bD (same a b)]:=by
 simp only[tmD,zab]
 refine zae Tryz.call148 Tryz.func148 rfl Yz (zao Yz) ?_
 simp -implicitDefEqProofs only[go_sem,Tryz.results148]
 refine⟨λh=>?_,λh=>?_⟩
 ·refine callF (H) Yy ?_;refine Y1 ?_;rw[zms,<-zc2 a.name,h,Qv]
 ·rw[zms,<-zc2 a.name,h];rfl
theorem zsu:∀a b:Tm,FC Tryz.prog 148 [tmD a,tmD b] [bD (same a b)] :=
 zb3 λn xs ih b=>qcn (.mk n xs) b (by
  rw[show same (Tm.mk n xs).args b.args=eqL same (Tm.mk n xs).args b.args from(zlw λ_ _ _=>rfl).symm]
  exact zm2 xs b.args same _ [] λx hx y _=>ih x hx y)
theorem zoa (a b:Fm)(H:FC Tryz.prog 149 [.one (fmS a.parts),.one (fmS b.parts),.one (.fn 123 [])] [bD (same a.parts b.parts)]) :
  FC Tryz.prog 123 [fmD a,fmD b] [bD (same a b)]:=by
 simp only[fmD,zaa]
 refine zae Tryz.call123 Tryz.func123 rfl Yz (zao Yz) ?_
 simp -implicitDefEqProofs only[go_sem,Tryz.results123]
 refine⟨λh1=>?_,λh1=>by rw[zg1,<-zc2 a.op,h1];rfl⟩
 refine callF (zsu a.atom b.atom) Y4 ?_
 refine Y5 ?_
 refine⟨λh2=>?_,λh2=>by rw[zg1,<-zc2 a.op,h1,h2];rfl⟩
 refine⟨λh3=>?_,λh3=>by rw[zg1,<-zc2 a.op,h1,h2,<-zc2 a.var,h3];rfl⟩
 refine callF (H) Yy ?_
 refine Y1 ?_
 rw[zg1,<-zc2 a.op,h1,h2,<-zc2 a.var,h3];rfl
theorem zbm:∀a b:Fm,FC Tryz.prog 123 [fmD a,fmD b] [bD (same a b)] :=
 zck λo t v ps ih b=>zoa (.mk o t v ps) b (by
  rw[show same (Fm.mk o t v ps).parts b.parts=eqL same (Fm.mk o t v ps).parts b.parts from(zlw λ_ _ _=>rfl).symm]
  exact zfh ps b.parts same _ [] λx hx y _=>ih x hx y)
theorem qdk (a b:Tm)(H:∀x∈a.args,∀y,FC Tryz.prog 107 [tmD x,tmD y] [bD (same x y)]):FC Tryz.prog 107 [tmD a,tmD b] [bD (same a b)]:=by
 refine zeo (λhw=>?_) Tryz.call107
 simp only[tmD,zab]at hw⊢
 have hl:a.args.length<=9223372036854775807:=by simp[zik,wfT,zt7]at hw;exact hw.1.2.1
 refine zae Tryz.call107 Tryz.func107 rfl Yz (zao Yz) ?_
 simp -implicitDefEqProofs only[go_sem,Tryz.results107]
 refine⟨λh1=>?_,λh1=>by rw[zms,<-zc2 a.name,show(a.name==b.name)=false by simpa using h1];rfl⟩
 have h1':same a.name b.name=true:=by rw[<-zc2];simpa using h1
 refine⟨λh2=>?_,λh2=>?_⟩
 ·rw[zms,h1',Qv,zcy.2 (by rintro e;simp[e]at h2)]
 have hlen:a.args.length=b.args.length:=by simp at h2;omega
 have hs:same a b=same a.args b.args:=by rw[zms,h1',Qv]
 refine zah (λk:Nat=>hd [(2,.one (.bx 2 0)),(3,.one (.bx 3 0)),(4,vB false),(5,vI k)] [(2,[.t (.str a.name),.t (tmS a.args)]),(3,[.t (.str b.name),.t (tmS b.args)])] []) (λk=>k<=a.args.length/\same a.args b.args=same (a.args.drop k) (b.args.drop k)) (λk=>a.args.length-k) 0 (zad ?_) ?_ ?_
 ·exact Yy
 ·simp
 ·intro k ⟨hk,hr⟩;by_cases hlt:k<a.args.length
  ·have hk2:k<b.args.length:=by omega
   refine Vd ?_;refine drawn Yz ?_;simp -implicitDefEqProofs only[go_sem,zaj,hlt,hk2,zab];refine zai (H a.args[k] (Qk hlt) b.args[k]) Y4 ?_;refine Y5 ?_;rw[Qm hlt,Qm hk2,zdv]at hr;refine⟨Yz,λh=>?_,λh=>?_⟩
   ·rw[hs,hr,show same a.args[k] b.args[k]=false by simpa using h];rfl
   ·rw[show same a.args[k] b.args[k]=true by simpa using h,Qv]at hr;rw[zaq Y0];exact⟨k+1,⟨Y0,hr⟩,Y0,zad Yy⟩
  ·refine Vd ?_;rw[hs,hr,Q0 Y0,Q0 Y0,zhy]
theorem qah:∀a b:Tm,FC Tryz.prog 107 [tmD a,tmD b] [bD (same a b)]:=zb3 λn xs ih b=>qdk (.mk n xs) b ih
theorem qfg (a b:Fm)(H:∀x∈a.parts,∀y,FC Tryz.prog 109 [fmD x,fmD y] [bD (same x y)]):FC Tryz.prog 109 [fmD a,fmD b] [bD (same a b)]:=by
 refine zeo (λhw=>?_) Tryz.call109
 simp only[fmD,zaa]at hw⊢
 have hl:a.parts.length<=9223372036854775807:=by simp[zik,wfT,zt7]at hw;exact hw.1.2.2.2.2.1
 refine zae Tryz.call109 Tryz.func109 rfl Yz (zao Yz) ?_
 simp -implicitDefEqProofs only[go_sem,Tryz.results109]
 refine⟨λh1=>?_,λh1=>by rw[zg1,<-zc2 a.op,show(a.op==b.op)=false by simpa using h1];rfl⟩
 have h1':same a.op b.op=true:=by rw[<-zc2];simpa using h1
 refine⟨λh2=>?_,λh2=>by rw[zg1,h1',<-zc2 a.var,show(a.var==b.var)=false by simpa using h2];simp⟩
 have h2':same a.var b.var=true:=by rw[<-zc2];simpa using h2
 refine callF (qah a.atom b.atom) Y4 ?_
 refine Y5 ?_
 refine⟨λh3=>?_,λh3=>by rw[zg1,h1',show same a.atom b.atom=false by simpa using h3];rfl⟩
 have h3':same a.atom b.atom=true:=by simpa using h3
 have hs:same a b=same a.parts b.parts:=by rw[zg1,h1',h2',h3'];rfl
 refine⟨λh4=>?_,λh4=>?_⟩
 ·rw[hs,zcy.2 (by rintro e;simp[e]at h4)]
 have hlen:a.parts.length=b.parts.length:=by simp at h4;omega
 refine zah (λk:Nat=>hd [(2,.one (.bx 2 0)),(3,.one (.bx 3 0)),(4,vB false),(5,vI k)] [(2,[.t (.int .i64 a.op),.t (.str a.atom.name),.t (tmS a.atom.args),.t (.str a.var),.t (fmS a.parts)]),(3,[.t (.int .i64 b.op),.t (.str b.atom.name),.t (tmS b.atom.args),.t (.str b.var),.t (fmS b.parts)])] []) (λk=>k<=a.parts.length/\same a.parts b.parts=same (a.parts.drop k) (b.parts.drop k)) (λk=>a.parts.length-k) 0 (zad ?_) ?_ ?_
 ·exact Yy
 ·simp
 ·intro k ⟨hk,hr⟩;by_cases hlt:k<a.parts.length
  ·have hk2:k<b.parts.length:=by omega
   refine Vd ?_;refine drawn Yz ?_;simp -implicitDefEqProofs only[go_sem,zaj,hlt,hk2,zaa];refine zai (H a.parts[k] (Qk hlt) b.parts[k]) Zp ?_;refine Zx ?_;rw[Qm hlt,Qm hk2,zdv]at hr;refine⟨Yz,λh=>?_,λh=>?_⟩
   ·rw[hs,hr,show same a.parts[k] b.parts[k]=false by simpa using h];rfl
   ·rw[show same a.parts[k] b.parts[k]=true by simpa using h,Qv]at hr;rw[zaq Y0];exact⟨k+1,⟨Y0,hr⟩,Y0,zad Yy⟩
  ·refine Vd ?_;rw[hs,hr,Q0 Y0,Q0 Y0,zhy]
theorem zc1:∀a b:Fm,FC Tryz.prog 109 [fmD a,fmD b] [bD (same a b)]:=zck λo t v ps ih b=>qfg (.mk o t v ps) b ih
end
section
open Go.RowKit
theorem Tm.wt_args {a:Tm}{n:Nat}(h:a.wt<=n):a.args.length<=n/\∀x∈a.args,x.wt<=n:=by
 have e:=Tm.wt_eq a
 refine⟨Y0,λx hx=>?_⟩
 have:=zbz Tm.wt a.args x hx
 omega
theorem Fm.wt_parts {f:Fm}{n:Nat}(h:f.wt<=n):f.atom.wt<=n/\f.parts.length<=n/\∀x∈f.parts,x.wt<=n:=by
 have e:=Fm.wt_eq f
 refine⟨Y0,Y0,λx hx=>?_⟩
 have:=zbz Fm.wt f.parts x hx
 omega
set_option maxRecDepth 10000 in
theorem zse (xs:List Tm)(H:∀x∈xs,FC Tryz.prog 103 [tmD x] [tmD x])(hs:xs.length<=1048576) :
  FC Tryz.prog 129 [.one (tmS xs)] [.one (tmS xs)]:=by
 by_cases h0:xs=[]
 ·subst h0;refine zae Tryz.call129 Tryz.func129 rfl Yz (zao Yz) ?_;simp -implicitDefEqProofs only[go_sem,Tryz.results129]
 ·have hp:((xs.length:Int)==0)=false:=by
   have:0<xs.length:=List.length_pos_iff.2 h0;simp;omega
  refine zae Tryz.call129 Tryz.func129 rfl Yz (zao Yz) ?_;simp -implicitDefEqProofs only[go_sem,Tryz.results129,hp];refine qob (by simp -implicitDefEqProofs only[go_sem];omega) ?_;refine Y1 ?_;refine zah (λk:Nat=>hd [(12,vT (tmS xs)),(13,vI xs.length),(3,.one (.ow 352 0)),(14,vI k)] [] [(352,⟨true,2,(xs.take k).map tmC++List.replicate (xs.length-k) [T.str [],T.sl 2 []],0,true⟩)]) (λk=>k<=xs.length) (λk=>xs.length-k) 0 (zad ?_) ?_ ?_
  ·refine Y1 ?_;simp
  ·simp
  ·intro k hk;by_cases hlt:k<xs.length
   ·have hlen:((xs.take k).map tmC++List.replicate (xs.length-k) [T.str [],T.sl 2 []]).length=xs.length:=by simp;omega
    have hlt2:k<k+(xs.length-k):=by omega
    simp -implicitDefEqProofs only[go_sem,Qa,zaj,hlt,zab];refine callF (H xs[k] (Qk hlt)) Wc ?_;simp -implicitDefEqProofs only[go_sem,zab,hlen,hlt,Qy,Qa,Qo,Jb,Jm hk,hlt2];refine zfd (by simp -implicitDefEqProofs only[go_sem];simp) ?_;refine Y1 ?_;rw[zaq Y0];refine⟨k+1,Y0,Y0,zad ?_⟩;refine Y1 ?_;have hf:=zhj ((xs.take k).map tmC) xs.length k [T.str [],T.sl 2 []] (tmC xs[k]) (by simp;omega) hlt (by simp[zab]);simp only[zab]at hf;rw[hf,Qn hlt,Q1,Q6];simp only[zab]
   ·refine Y6 hlt ?_;simp[Qr (show xs.length<=k by omega),show xs.length-k=0 by omega]
theorem zwo (a:Tm)(H:FC Tryz.prog 129 [.one (tmS a.args)] [.one (tmS a.args)]):FC Tryz.prog 103 [tmD a] [tmD a]:=by
 simp only[tmD,zab a]
 refine zae Tryz.call103 Tryz.func103 rfl Yz (zao Yz) ?_
 simp -implicitDefEqProofs only[go_sem,Tryz.results103]
 refine drawn Yz ?_
 refine Y1 ?_
 refine zai (H) Yy ?_
 refine Y1 ?_
 kernel_rfl
theorem qoo (a:Tm)(H:∀x∈a.args,FC Tryz.prog 97 [tmD x] [tmD x])(hs:a.args.length<=1048576):FC Tryz.prog 97 [tmD a] [tmD a]:=by
 simp only[tmD,zab a]
 refine zae Tryz.call97 Tryz.func97 rfl Yz (zao Yz) ?_
 simp -implicitDefEqProofs only[go_sem,Tryz.results97]
 refine zah (λk:Nat=>hd [(1,.one (.bx 1 0)),(2,.one (.bx 2 0)),(3,.one (.bx 3 0)),(4,vI k)] [(1,[.t (.str a.name),.t (tmS a.args)]),(2,[.t (.str []),.nl 2]),(3,[.t (.str a.name),.ow 3000 0])] [(3000,⟨true,2,(a.args.take k).map tmC,0,true⟩)]) (λk=>k<=a.args.length) (λk=>a.args.length-k) 0 (zad ?_) ?_ ?_
 ·exact Yy
 ·simp
 ·intro k hk;by_cases hlt:k<a.args.length
  ·refine Vd ?_;refine drawn Yz ?_;have hmin:min k a.args.length<=4294967295:=by omega
   refine Xb hlt ?_;refine zai (H a.args[k] (Qk hlt)) Y4 ?_;refine Y5 ?_;refine zbj Yy ?_;refine Y1 ?_;refine zg5 true (Zs hmin) ?_;refine Zt hmin ?_;refine⟨Yz,k+1,hlt,Y0,zad ?_⟩;refine Y1 ?_;rw[zaq Y0,Qn hlt,Q1,Q6];simp only[zab]
   trivial
  ·have ht:a.args.take k=a.args:=Qr Y0;exact Y9 hlt ht
theorem zft:∀a:Tm,a.wt<=1048576->FC Tryz.prog 103 [tmD a] [tmD a] :=
 zb3 λn xs ih hs=>by
  obtain⟨h1,h2⟩:=Tm.wt_args hs;exact zwo (.mk n xs) (zse xs (λx hx=>ih x hx (h2 x hx)) h1)
theorem zmv:∀a:Tm,a.wt<=1048576->FC Tryz.prog 97 [tmD a] [tmD a] :=
 zb3 λn xs ih hs=>by
  obtain⟨h1,h2⟩:=Tm.wt_args hs;exact qoo (.mk n xs) (λx hx=>ih x hx (h2 x hx)) h1
theorem qp0 (a:Fm)(H:∀x∈a.parts,FC Tryz.prog 60 [fmD x] [fmD x])(h0:a.atom.wt<=1048576)(hs:a.parts.length<=1048576):FC Tryz.prog 60 [fmD a] [fmD a]:=by
 simp only[fmD,zaa a]
 refine zae Tryz.call60 Tryz.func60 rfl Yz (zao Yz) ?_
 simp -implicitDefEqProofs only[go_sem,Tryz.results60]
 refine drawn Yz ?_
 refine Y1 ?_
 refine zai (zmv a.atom h0) Y4 ?_
 refine Y5 ?_
 refine⟨Yz,?_⟩
 refine zah (λk:Nat=>hd [(1,.one (.bx 1 0)),(2,.one (.bx 2 0)),(3,.one (.bx 3 0)),(4,vI k)] [(1,[.t (.int .i64 a.op),.t (.str a.atom.name),.t (tmS a.atom.args),.t (.str a.var),.t (fmS a.parts)]),(2,[.t (.int .i64 0),.t (.str []),.nl 2,.t (.str []),.nl 5]),(3,[.t (.int .i64 a.op),.t (.str a.atom.name),.ow 289 0,.t (.str a.var),.ow 3000 0])]
  [(289,⟨true,2,a.atom.args.map tmC,0,true⟩),(3000,⟨true,5,(a.parts.take k).map fmC,0,true⟩)]) (λk=>k<=a.parts.length) (λk=>a.parts.length-k) 0 (zad ?_) ?_ ?_
 ·exact Yy
 ·simp
 ·intro k hk;by_cases hlt:k<a.parts.length
  ·refine Vd ?_;refine drawn Yz ?_;have hmin:min k a.parts.length<=4294967295:=by omega
   refine Vt ?_;refine zai (H a.parts[k] (Qk hlt)) Zp ?_;refine Zx ?_;refine zbj Yy ?_;refine Y1 ?_;refine zg5 true (Zs hmin) ?_;refine Zt hmin ?_;refine⟨Yz,k+1,hlt,Y0,zad ?_⟩;refine Y1 ?_;rw[zaq Y0,Qn hlt,Q1,Q6];simp only[zaa]
   trivial
  ·have ht:a.parts.take k=a.parts:=Qr Y0;exact Y9 hlt ht
theorem zu4:∀a:Fm,a.wt<=1048576->FC Tryz.prog 60 [fmD a] [fmD a] :=
 zck λo t v ps ih hs=>by
  obtain⟨h1,h2,h3⟩:=Fm.wt_parts hs;exact qp0 (.mk o t v ps) (λx hx=>ih x hx (h3 x hx)) h1 h2
theorem zv2 (a:Fm)(g:FuncId)(φ:Fm->Fm)(H:∀x∈a.parts,FC Tryz.prog g [fmD x] [fmD (φ x)])(h0:a.atom.wt<=1048576)(hs:a.parts.length<=1048576):FC Tryz.prog 98 [fmD a,.one (.fn g [])] [fmD (.mk a.op a.atom a.var (a.parts.map φ))]:=by
 simp only[fmD,zaa a,ze0]
 refine zae Tryz.call98 Tryz.func98 rfl Yz (zao Yz) ?_
 simp -implicitDefEqProofs only[go_sem,Tryz.results98]
 refine drawn Yz ?_
 refine Y1 ?_
 refine zai (zft a.atom h0) Y4 ?_
 refine Y5 ?_
 refine⟨Yz,?_⟩
 refine zah (λk:Nat=>hd [(1,.one (.t (.fn g []))),(4,.one (.bx 4 0)),(5,.one (.bx 5 0)),(17,vT (fmS a.parts)),(18,vI a.parts.length),(19,vI k)] [(4,[.t (.int .i64 0),.t (.str []),.nl 2,.t (.str []),.nl 5]),(5,[.t (.int .i64 a.op),.t (.str a.atom.name),.ow 385 0,.t (.str a.var),.ow 3000 0])]
  [(385,⟨true,2,a.atom.args.map tmC,0,true⟩),(3000,⟨true,5,(a.parts.take k).map λx=>fmC (φ x),0,true⟩)]) (λk=>k<=a.parts.length) (λk=>a.parts.length-k) 0 (zad ?_) ?_ ?_
 ·exact Yy
 ·simp
 ·intro k hk;by_cases hlt:k<a.parts.length
  ·have hmin:min k a.parts.length<=4294967295:=by omega
   refine Zc hlt (zaa a.parts[k]) ?_;refine drawn Yz ?_;refine Y1 ?_;refine zai (H a.parts[k] (Qk hlt)) Zp ?_;refine Zx ?_;refine zbj Yy ?_;refine Y1 ?_;refine zg5 true (Zs hmin) ?_;refine Zt hmin ?_;refine⟨Yz,k+1,hlt,Y0,zad ?_⟩;refine Y1 ?_;rw[zaq Y0,Qn hlt,Q1,Q6];simp only[zaa]
   trivial
  ·have ht:a.parts.take k=a.parts:=Qr Y0;refine Ze hlt ht ?_;rfl
set_option maxRecDepth 10000 in
theorem zjm:∀a:Fm,a.wt<=1048576->FC Tryz.prog 61 [fmD a] [fmD a] :=
 zck λo t v ps ih hs=>by
  obtain⟨h1,h2,h3⟩:=Fm.wt_parts hs;have H:=zv2 (.mk o t v ps) 61 (λx=>x) (λx hx=>ih x hx (h3 x hx)) h1 h2;simp only[Fm.op,Fm.atom,Fm.var,Fm.parts,List.map_id']at H;simp only[fmD,ze0]at H⊢;refine zae Tryz.call61 Tryz.func61 rfl Yz (zao Yz) ?_;simp -implicitDefEqProofs only[go_sem,Tryz.results61];refine callF (H) Yy ?_;simp -implicitDefEqProofs only[go_sem]
  trace_state
end
section
open Go.RowKit
def mkF (op:Int)(ps:List Fm):Fm:=.mk op (.mk [] []) [] ps
theorem zkh (op:Int)(ps:List Fm):fmC (mkF op ps)=[.int .i64 op,.str [],.sl 2 [],.str [],.sl 5 (ps.map fmC)]:=zaa _
end
section
open Go.RowKit
def mtd:Nat->Nat->Str->Str
 | 0,_,acc=>acc
 | fuel+1,n,acc=>if n=0 then acc else mtd fuel (n / 10) (UInt8.ofNat (48+n % 10)::acc)
def mtx (k:Nat):Str:=109::mtd (k+1) k []
theorem zqi (fuel n:Nat)(acc:Str)(h:0<n):mtd (fuel+1) n acc=mtd fuel (n / 10) (UInt8.ofNat (48+n % 10)::acc):=by rw[mtd,if_neg Y0]
theorem zy9:∀(f f' n:Nat)(acc:Str),n<f->n<f'->mtd f n acc=mtd f' n acc
 | 0,_,n,_,h,_=>absurd h Y0
 | _+1,0,n,_,_,h=>absurd h Y0
 | f+1,f'+1,n,acc,h,h'=>by
  by_cases h0:n=0
  ·simp[mtd,h0]
  ·rw[zqi _ _ _ Y0,zqi _ _ _ Y0];exact zy9 f f' _ _ Y0 Y0
theorem qr7 {n:Nat}(h:n<256):IntKind.u8.wrap (n:Int)=n:=by
 have e:IntKind.u8.wrap (n:Int)=(n:Int) % 256:=rfl
 rw[e];omega
theorem zcd (k:Nat)(hk0:0<k)(hk:k<=4611686018427387904):FC Tryz.prog 66 [iD k] [sD (mtx k)]:=by
 have h0:((k:Int)<=0)=False:=by simp;omega
 refine zae Tryz.call66 Tryz.func66 rfl Yz (zao Yz) ?_
 simp -implicitDefEqProofs only[go_sem,Tryz.results66,h0]
 refine zah (fun(x:Nat×Str)=>hd [(0,vI x.1),(3,vT (.str x.2))] [] []) (λx=>mtx k=109::mtd (x.1+1) x.1 x.2/\x.1*10^x.2.length<=k/\x.2.length<=19) (λx=>x.1) (k,[]) (zad ?_) ?_ ?_
 ·exact Yy
 ·exact⟨rfl,by simp,by simp⟩
 ·intro ⟨n,s⟩ ⟨h1,h2,hl⟩;have hl:s.length<=19:=hl;have hn:n<=k:=Je (Nat.le_mul_of_pos_right _ (Nat.pow_pos Y0)) h2;have hs:s.length<=18\/n=0:=by
   by_cases h:n=0
   ·exact Or.inr h
   ·left;refine Yl λhl=>?_;have:10^19<=10^s.length:=Nat.pow_le_pow_right Y0 Y0;have:1*10^s.length<=n*10^s.length:=Jg _ Y0;have h2:n*10^s.length<=k:=h2;omega
  by_cases hp:0<n
  ·have hp':((n:Int)>0)=True:=by simp;omega
   have e1:(n:Int).tmod 10=((n % 10:Nat):Int):=by rw[Int.tmod_eq_emod_of_nonneg Y0];omega
   have e2:(n:Int).tdiv 10=((n / 10:Nat):Int):=by rw[Int.tdiv_eq_ediv_of_nonneg Y0];omega
   have e3:IntKind.i64.wrap (48+((n % 10:Nat):Int))=((48+n % 10:Nat):Int):=by rw[za4 Y0 Y0];omega
   have e4:IntKind.u8.wrap ((48+n % 10:Nat):Int)=((48+n % 10:Nat):Int):=qr7 Y0;have e5:IntKind.i64.wrap ((n / 10:Nat):Int)=((n / 10:Nat):Int):=za4 Y0 Y0;simp -implicitDefEqProofs only[go_sem,hp',e1,e2,e3,e4,e5];refine⟨Y0,?_⟩;refine zbg Yy ?_;refine Y1 ?_;have hs':s.length<=18:=by omega
   refine⟨Y0,Y0,(n / 10,UInt8.ofNat (48+n % 10)::s),⟨?_,?_,show s.length+1<=19 by omega⟩,Y0,zad (Y9 e2 e5)⟩
   ·rw[h1];show(109::mtd (n+1) n s:Str)=109::mtd (n / 10+1) (n / 10) (UInt8.ofNat (48+n % 10)::s)
    rw[zqi _ _ _ hp,zy9 n (n / 10+1) _ _ Y0 Y0]
   ·show n / 10*10^(s.length+1)<=k
    rw[Nat.pow_succ,Nat.mul_comm _ 10,<-Nat.mul_assoc];exact Je (Jg _ Y0) h2
  ·have h0':n=0:=by omega
   subst h0';refine Y1 ?_;refine⟨Y0,?_⟩;rw[h1];simp[mtd]
end
section
open Go.RowKit
mutual
def zic:Tm->Nat->Tm×Nat
 | .mk n0 s0,k=>(.mk (mtx k) (zam s0 (k+1)).1,(zam s0 (k+1)).2)
def zam:List Tm->Nat->List Tm×Nat
 | [],k=>([],k)
 | a::xs,k=>((zic a k).1::(zam xs (zic a k).2).1,(zam xs (zic a k).2).2)
end
mutual
def zjl:Tm->Nat
 | .mk n0 s0=>1+1+zdn s0
def zdn:List Tm->Nat
 | []=>0
 | a::xs=>zjl a+zdn xs
end
mutual
theorem qlf:∀(a:Tm)(k:Nat),k<=(zic a k).2/\(zic a k).2<=k+zjl a
 | .mk n0 s0,k=>by have h_s0:=zbv s0 (k+1);simp only[zic,zjl];omega
theorem zbv:∀(xs:List Tm)(k:Nat),k<=(zam xs k).2/\(zam xs k).2<=k+zdn xs
 | [],k=>⟨Qz _,Qz _⟩
 | a::xs,k=>by have h1:=qlf a k;have h2:=zbv xs (zic a k).2;simp only[zam,zdn];omega
end
theorem zmt:∀xs:List Tm,xs.length<=zdn xs
 | []=>Qz _
 | a::xs=>by
  have:=zmt xs;have:1<=zjl a:=by obtain⟨n0,s0⟩:=a;simp only[zjl];omega
  simp only[Qg,zdn];omega
theorem zks (xs:List Tm)(H:∀a∈xs,∀k:Nat,0<k->k+zdn a.args<=4611686018427387904->IC Tryz.prog 67 [] (.one (tmS a.args)) [iD k] (.one (tmS (zam a.args k).1)) [iD (zam a.args k).2]) :
  ∀k:Nat,0<k->k+zdn xs<=4611686018427387904->IC Tryz.prog 67 [] (.one (tmS xs)) [iD k] (.one (tmS (zam xs k).1)) [iD (zam xs k).2]:=by
 intro k h0 hk
 refine qge Tryz.call67 Tryz.func67 rfl Yz (by simp only[zew,rd,Qc,Qi,K5,Qg,Qs,Tryz.ntmps67];omega) (by simp only[Tryz.ntmps67];omega) (λvs=>?_)
 simp -implicitDefEqProofs only[go_sem,Tryz.results67,qpv,zoc,zew,PI]
 refine zah (fun(x:List Tm×List Tm×Nat)=>hd [(0,.one (.ow 0 0)),(1000000,.one (.ow 0 0)),(1,vI x.2.2),(5,vI x.1.length)] [] [(0,⟨true,2,x.1.map tmC++zfw vs x.1.length (x.2.1.map tmC),0,true⟩)])
  (λx=>(zam xs k).1=x.1++(zam x.2.1 x.2.2).1/\(zam xs k).2=(zam x.2.1 x.2.2).2/\0<x.2.2/\x.2.2+zdn x.2.1<=4611686018427387904/\x.1.length+x.2.1.length=xs.length/\∀a∈x.2.1,a∈xs) (λx=>x.2.1.length) ([],xs,k) (zad ?_) ?_ ?_
 ·exact Yy
 ·exact⟨rfl,rfl,h0,hk,by simp,λ_ h=>h⟩
 ·intro ⟨dn,rest,kk⟩ ⟨h1,h2,h3,h4,h6,h5⟩;simp only at h1 h2 h3 h4 h5 h6;cases rest with
  | nil =>
   simp only[zam,Ko]at h1 h2;exact Y9 h1 h2
  | cons a rest =>
   obtain⟨n0,s0⟩:=a;simp only[zam,zic,zdn,zjl]at h1 h2 h4;have hc_s0:=zbv s0 (kk+1);have w0:IntKind.i64.wrap (((kk:Nat):Int)+1)=((kk+1:Nat):Int):=zaq Y0;have hln:=zmt xs;rw[Qg]at h6;have wl:IntKind.i64.wrap ((dn.length:Int)+1)=((dn.length+1:Nat):Int):=zaq Y0;simp -implicitDefEqProofs only[go_sem,zab (.mk _ _),Tm.name,Tm.args];refine callF (zcd kk Y0 Y0) (by simp -implicitDefEqProofs only[go_sem,w0]) ?_;simp -implicitDefEqProofs only[go_sem,w0];refine zfd (by simp -implicitDefEqProofs only[go_sem,implies_true,w0]) ?_;simp -implicitDefEqProofs only[go_sem,implies_true,w0];refine callN (l:=[(0,.one (.ow 0 0)),(1000000,.one (.ow 0 0)),(5,vI dn.length),(24,.one (.cv (vs dn.length 1))),(25,vI ((kk+1):Nat))]) (bl:=[]) (el:=[(0,⟨true,2,dn.map tmC++[.str (mtx kk),.pin (vs dn.length 1) (tmS s0)]::zfw vs (dn.length+1) (rest.map tmC),0,true⟩)]) 0 dn.length 1 (H (.mk n0 s0) (h5 _ (by simp)) (kk+1) Y0 (by show(kk+1)+zdn s0<=_;omega)) (by simp -implicitDefEqProofs only[go_sem,w0,tmS]) rfl rfl rfl (by simp -implicitDefEqProofs only[go_sem,tmS,Tm.name,Tm.args]) rfl ?_;simp -implicitDefEqProofs only[go_sem,w0,Tm.name,Tm.args];refine⟨(dn++[.mk (mtx kk) (zam s0 (kk+1)).1],rest,(zam s0 (kk+1)).2),⟨by simpa using h1,h2,by show 0<(zam s0 (kk+1)).2;omega,by show(zam s0 (kk+1)).2+zdn rest<=_;omega,by simp;omega,λb hb=>h5 b (by simp[hb])⟩,by simp,zad ?_⟩;simp -implicitDefEqProofs only[go_sem,wl,zab (.mk _ _),Tm.name,Tm.args,Q1,Kd]
theorem zgc (xs:List Tm)(k:Nat)(h0:0<k)(hk:k+zdn xs<=4611686018427387904):IC Tryz.prog 67 [] (.one (tmS xs)) [iD k] (.one (tmS (zam xs k).1)) [iD (zam xs k).2] :=
 zks xs (λa _=>zb3 (P:=λa=>∀k:Nat,0<k->k+zdn a.args<=4611686018427387904->IC Tryz.prog 67 [] (.one (tmS a.args)) [iD k] (.one (tmS (zam a.args k).1)) [iD (zam a.args k).2]) (λn ys ih=>zks ys ih) a) k h0 hk
theorem zkv (xs:List Tm)(H:∀a∈xs,∀k:Nat,0<k->k+zdn a.args<=4611686018427387904->FC Tryz.prog 68 [.one (tmS (zam a.args k).1),iD k] [iD (zam a.args k).2]) :
  ∀k:Nat,0<k->k+zdn xs<=4611686018427387904->FC Tryz.prog 68 [.one (tmS (zam xs k).1),iD k] [iD (zam xs k).2]:=by
 intro k h0 hk
 refine zae Tryz.call68 Tryz.func68 rfl Yz (zao Yz) ?_
 simp -implicitDefEqProofs only[go_sem,Tryz.results68]
 refine zah (fun(x:List Tm×List Tm×Nat)=>hd [(0,vT (.sl 2 (x.1.map tmC++(zam x.2.1 x.2.2).1.map tmC))),(1,vI x.2.2),(5,vI x.1.length)] [] [])
  (λx=>(zam xs k).1=x.1++(zam x.2.1 x.2.2).1/\(zam xs k).2=(zam x.2.1 x.2.2).2/\0<x.2.2/\x.2.2+zdn x.2.1<=4611686018427387904/\x.1.length+x.2.1.length=xs.length/\∀a∈x.2.1,a∈xs) (λx=>x.2.1.length) ([],xs,k) (zad ?_) ?_ ?_
 ·exact Yy
 ·exact⟨rfl,rfl,h0,hk,by simp,λ_ h=>h⟩
 ·intro ⟨dn,rest,kk⟩ ⟨h1,h2,h3,h4,h6,h5⟩;simp only at h1 h2 h3 h4 h5 h6;cases rest with
  | nil =>
   simp only[zam,Ko]at h1 h2;simp -implicitDefEqProofs only[go_sem,h2,zam]
  | cons a rest =>
   obtain⟨n0,s0⟩:=a;simp only[zam,zic,zdn,zjl]at h1 h2 h4;have hc_s0:=zbv s0 (kk+1);have w0:IntKind.i64.wrap (((kk:Nat):Int)+1)=((kk+1:Nat):Int):=zaq Y0;have hln:=zmt xs;rw[Qg]at h6;have wl:IntKind.i64.wrap ((dn.length:Int)+1)=((dn.length+1:Nat):Int):=zaq Y0;simp -implicitDefEqProofs only[go_sem,zam,zic,zab (.mk _ _),Tm.name,Tm.args];refine drawn Yz ?_;refine Y1 ?_;refine zai (zcd kk Y0 Y0) (by simp -implicitDefEqProofs only[go_sem,Q3,K6,w0]) ?_;simp -implicitDefEqProofs only[go_sem,Q3,K6,w0];refine⟨Yz,?_⟩;refine callF (H (.mk n0 s0) (h5 _ (by simp)) (kk+1) Y0 (by show(kk+1)+zdn s0<=_;omega)) (by simp -implicitDefEqProofs only[go_sem,w0,Tm.name,Tm.args]) ?_;simp -implicitDefEqProofs only[go_sem,w0,Tm.name,Tm.args];refine⟨(dn++[.mk (mtx kk) (zam s0 (kk+1)).1],rest,(zam s0 (kk+1)).2),⟨by simpa using h1,h2,by show 0<(zam s0 (kk+1)).2;omega,by show(zam s0 (kk+1)).2+zdn rest<=_;omega,by simp;omega,λb hb=>h5 b (by simp[hb])⟩,by simp,zad ?_⟩;exact Wd
theorem zgb (xs:List Tm)(k:Nat)(h0:0<k)(hk:k+zdn xs<=4611686018427387904):FC Tryz.prog 68 [.one (tmS (zam xs k).1),iD k] [iD (zam xs k).2] :=
 zkv xs (λa _=>zb3 (P:=λa=>∀k:Nat,0<k->k+zdn a.args<=4611686018427387904->FC Tryz.prog 68 [.one (tmS (zam a.args k).1),iD k] [iD (zam a.args k).2]) (λn ys ih=>zkv ys ih) a) k h0 hk
mutual
def zh8:Fm->Nat->Fm×Nat
 | .mk o0 (.mk n0 s0) v0 p0,k=>(.mk ((k:Nat):Int) (.mk (mtx (k+1)) (zam s0 ((k+1)+1)).1) (mtx (zam s0 ((k+1)+1)).2) (za1 p0 ((zam s0 ((k+1)+1)).2+1)).1,(za1 p0 ((zam s0 ((k+1)+1)).2+1)).2)
def za1:List Fm->Nat->List Fm×Nat
 | [],k=>([],k)
 | a::xs,k=>((zh8 a k).1::(za1 xs (zh8 a k).2).1,(za1 xs (zh8 a k).2).2)
end
mutual
def zjh:Fm->Nat
 | .mk o0 (.mk n0 s0) v0 p0=>1+1+1+zdn s0+1+zd9 p0
def zd9:List Fm->Nat
 | []=>0
 | a::xs=>zjh a+zd9 xs
end
mutual
theorem qef:∀(a:Fm)(k:Nat),k<=(zh8 a k).2/\(zh8 a k).2<=k+zjh a
 | .mk o0 (.mk n0 s0) v0 p0,k=>by have h_s0:=zbv s0 ((k+1)+1);have h_p0:=zdi p0 ((zam s0 ((k+1)+1)).2+1);simp only[zh8,zjh];omega
theorem zdi:∀(xs:List Fm)(k:Nat),k<=(za1 xs k).2/\(za1 xs k).2<=k+zd9 xs
 | [],k=>⟨Qz _,Qz _⟩
 | a::xs,k=>by have h1:=qef a k;have h2:=zdi xs (zh8 a k).2;simp only[za1,zd9];omega
end
theorem znt:∀xs:List Fm,xs.length<=zd9 xs
 | []=>Qz _
 | a::xs=>by
  have:=znt xs;have:1<=zjh a:=by obtain⟨o0,⟨n0,s0⟩,v0,p0⟩:=a;simp only[zjh];omega
  simp only[Qg,zd9];omega
theorem zhq (xs:List Fm)(H:∀a∈xs,∀k:Nat,0<k->k+zd9 a.parts<=4611686018427387904->IC Tryz.prog 63 [] (.one (fmS a.parts)) [iD k] (.one (fmS (za1 a.parts k).1)) [iD (za1 a.parts k).2]) :
  ∀k:Nat,0<k->k+zd9 xs<=4611686018427387904->IC Tryz.prog 63 [] (.one (fmS xs)) [iD k] (.one (fmS (za1 xs k).1)) [iD (za1 xs k).2]:=by
 intro k h0 hk
 refine qge Tryz.call63 Tryz.func63 rfl Yz (by simp only[zew,rd,Qc,Qi,K5,Qg,Qs,Tryz.ntmps63];omega) (by simp only[Tryz.ntmps63];omega) (λvs=>?_)
 simp -implicitDefEqProofs only[go_sem,Tryz.results63,qpv,zoc,zew,PI]
 refine zah (fun(x:List Fm×List Fm×Nat)=>hd [(0,.one (.ow 0 0)),(1000000,.one (.ow 0 0)),(1,vI x.2.2),(5,vI x.1.length)] [] [(0,⟨true,5,x.1.map fmC++zfw vs x.1.length (x.2.1.map fmC),0,true⟩)])
  (λx=>(za1 xs k).1=x.1++(za1 x.2.1 x.2.2).1/\(za1 xs k).2=(za1 x.2.1 x.2.2).2/\0<x.2.2/\x.2.2+zd9 x.2.1<=4611686018427387904/\x.1.length+x.2.1.length=xs.length/\∀a∈x.2.1,a∈xs) (λx=>x.2.1.length) ([],xs,k) (zad ?_) ?_ ?_
 ·exact Yy
 ·exact⟨rfl,rfl,h0,hk,by simp,λ_ h=>h⟩
 ·intro ⟨dn,rest,kk⟩ ⟨h1,h2,h3,h4,h6,h5⟩;simp only at h1 h2 h3 h4 h5 h6;cases rest with
  | nil =>
   simp only[za1,Ko]at h1 h2;exact Y9 h1 h2
  | cons a rest =>
   obtain⟨o0,⟨n0,s0⟩,v0,p0⟩:=a;simp only[za1,zh8,zd9,zjh]at h1 h2 h4;have hc_s0:=zbv s0 ((kk+1)+1);have hc_p0:=zdi p0 ((zam s0 ((kk+1)+1)).2+1);have w0:IntKind.i64.wrap (((kk:Nat):Int)+1)=((kk+1:Nat):Int):=zaq Y0;have w1:IntKind.i64.wrap ((((kk+1):Nat):Int)+1)=(((kk+1)+1:Nat):Int):=zaq Y0;have w2:IntKind.i64.wrap ((((zam s0 ((kk+1)+1)).2:Nat):Int)+1)=(((zam s0 ((kk+1)+1)).2+1:Nat):Int):=zaq Y0;have hln:=znt xs;rw[Qg]at h6;have wl:IntKind.i64.wrap ((dn.length:Int)+1)=((dn.length+1:Nat):Int):=zaq Y0;simp -implicitDefEqProofs only[go_sem,zaa (.mk _ _ _ _),Fm.op,Fm.atom,Fm.var,Fm.parts,Tm.name,Tm.args];refine zfd (by simp -implicitDefEqProofs only[go_sem,implies_true,w0,w1,w2]) ?_;simp -implicitDefEqProofs only[go_sem,implies_true,w0,w1,w2];refine callF (zcd (kk+1) Y0 Y0) (by simp -implicitDefEqProofs only[go_sem,w0,w1,w2]) ?_;simp -implicitDefEqProofs only[go_sem,w0,w1,w2];refine zfd (by simp -implicitDefEqProofs only[go_sem,implies_true,w0,w1,w2]) ?_;simp -implicitDefEqProofs only[go_sem,implies_true,w0,w1,w2];refine callN (l:=[(0,.one (.ow 0 0)),(1000000,.one (.ow 0 0)),(5,vI dn.length),(33,.one (.cv (vs dn.length 2))),(34,vI (((kk+1)+1):Nat))]) (bl:=[]) (el:=[(0,⟨true,5,dn.map fmC++[.int .i64 ((kk:Nat):Int),.str (mtx (kk+1)),.pin (vs dn.length 2) (tmS s0),.str v0,.pin (vs dn.length 4) (fmS p0)]::zfw vs (dn.length+1) (rest.map fmC),0,true⟩)]) 0 dn.length 2 (zgc s0 ((kk+1)+1) Y0 Y0) (by simp -implicitDefEqProofs only[go_sem,w0,w1,w2,tmS]) rfl rfl rfl (by simp -implicitDefEqProofs only[go_sem,tmS,Fm.op,Fm.atom,Fm.var,Fm.parts,Tm.name,Tm.args]) rfl ?_;simp -implicitDefEqProofs only[go_sem,w0,w1,w2,Fm.op,Fm.atom,Fm.var,Fm.parts,Tm.name,Tm.args];refine callF (zcd (zam s0 ((kk+1)+1)).2 Y0 Y0) (by simp -implicitDefEqProofs only[go_sem,w0,w1,w2]) ?_;simp -implicitDefEqProofs only[go_sem,w0,w1,w2];refine zfd (by simp -implicitDefEqProofs only[go_sem,implies_true,w0,w1,w2]) ?_;simp -implicitDefEqProofs only[go_sem,implies_true,w0,w1,w2];refine callN (l:=[(0,.one (.ow 0 0)),(1000000,.one (.ow 0 0)),(5,vI dn.length),(48,.one (.cv (vs dn.length 4))),(49,vI (((zam s0 ((kk+1)+1)).2+1):Nat))]) (bl:=[]) (el:=[(0,⟨true,5,dn.map fmC++[.int .i64 ((kk:Nat):Int),.str (mtx (kk+1)),tmS (zam s0 ((kk+1)+1)).1,.str (mtx (zam s0 ((kk+1)+1)).2),.pin (vs dn.length 4) (fmS p0)]::zfw vs (dn.length+1) (rest.map fmC),0,true⟩)]) 0 dn.length 4 (H (.mk o0 (.mk n0 s0) v0 p0) (h5 _ (by simp)) ((zam s0 ((kk+1)+1)).2+1) Y0 (by show((zam s0 ((kk+1)+1)).2+1)+zd9 p0<=_;omega)) (by simp -implicitDefEqProofs only[go_sem,w0,w1,w2,fmS]) rfl rfl rfl (by simp -implicitDefEqProofs only[go_sem,fmS,Fm.op,Fm.atom,Fm.var,Fm.parts,Tm.name,Tm.args]) rfl ?_;simp -implicitDefEqProofs only[go_sem,w0,w1,w2,Fm.op,Fm.atom,Fm.var,Fm.parts,Tm.name,Tm.args];refine⟨(dn++[.mk ((kk:Nat):Int) (.mk (mtx (kk+1)) (zam s0 ((kk+1)+1)).1) (mtx (zam s0 ((kk+1)+1)).2) (za1 p0 ((zam s0 ((kk+1)+1)).2+1)).1],rest,(za1 p0 ((zam s0 ((kk+1)+1)).2+1)).2),⟨by simpa using h1,h2,by show 0<(za1 p0 ((zam s0 ((kk+1)+1)).2+1)).2;omega,by show(za1 p0 ((zam s0 ((kk+1)+1)).2+1)).2+zd9 rest<=_;omega,by simp;omega,λb hb=>h5 b (by simp[hb])⟩,by simp,zad ?_⟩;simp -implicitDefEqProofs only[go_sem,wl,zaa (.mk _ _ _ _),Fm.op,Fm.atom,Fm.var,Fm.parts,Tm.name,Tm.args,Q1,Kd]
theorem zie (xs:List Fm)(k:Nat)(h0:0<k)(hk:k+zd9 xs<=4611686018427387904):IC Tryz.prog 63 [] (.one (fmS xs)) [iD k] (.one (fmS (za1 xs k).1)) [iD (za1 xs k).2] :=
 zhq xs (λa _=>zck (P:=λa=>∀k:Nat,0<k->k+zd9 a.parts<=4611686018427387904->IC Tryz.prog 63 [] (.one (fmS a.parts)) [iD k] (.one (fmS (za1 a.parts k).1)) [iD (za1 a.parts k).2]) (λo b v ps ih=>zhq ps ih) a) k h0 hk
theorem zhk (xs:List Fm)(H:∀a∈xs,∀k:Nat,0<k->k+zd9 a.parts<=4611686018427387904->FC Tryz.prog 64 [.one (fmS (za1 a.parts k).1),iD k] [iD (za1 a.parts k).2]) :
  ∀k:Nat,0<k->k+zd9 xs<=4611686018427387904->FC Tryz.prog 64 [.one (fmS (za1 xs k).1),iD k] [iD (za1 xs k).2]:=by
 intro k h0 hk
 refine zae Tryz.call64 Tryz.func64 rfl Yz (zao Yz) ?_
 simp -implicitDefEqProofs only[go_sem,Tryz.results64]
 refine zah (fun(x:List Fm×List Fm×Nat)=>hd [(0,vT (.sl 5 (x.1.map fmC++(za1 x.2.1 x.2.2).1.map fmC))),(1,vI x.2.2),(5,vI x.1.length)] [] [])
  (λx=>(za1 xs k).1=x.1++(za1 x.2.1 x.2.2).1/\(za1 xs k).2=(za1 x.2.1 x.2.2).2/\0<x.2.2/\x.2.2+zd9 x.2.1<=4611686018427387904/\x.1.length+x.2.1.length=xs.length/\∀a∈x.2.1,a∈xs) (λx=>x.2.1.length) ([],xs,k) (zad ?_) ?_ ?_
 ·exact Yy
 ·exact⟨rfl,rfl,h0,hk,by simp,λ_ h=>h⟩
 ·intro ⟨dn,rest,kk⟩ ⟨h1,h2,h3,h4,h6,h5⟩;simp only at h1 h2 h3 h4 h5 h6;cases rest with
  | nil =>
   simp only[za1,Ko]at h1 h2;simp -implicitDefEqProofs only[go_sem,h2,za1]
  | cons a rest =>
   obtain⟨o0,⟨n0,s0⟩,v0,p0⟩:=a;simp only[za1,zh8,zd9,zjh]at h1 h2 h4;have hc_s0:=zbv s0 ((kk+1)+1);have hc_p0:=zdi p0 ((zam s0 ((kk+1)+1)).2+1);have w0:IntKind.i64.wrap (((kk:Nat):Int)+1)=((kk+1:Nat):Int):=zaq Y0;have w1:IntKind.i64.wrap ((((kk+1):Nat):Int)+1)=(((kk+1)+1:Nat):Int):=zaq Y0;have w2:IntKind.i64.wrap ((((zam s0 ((kk+1)+1)).2:Nat):Int)+1)=(((zam s0 ((kk+1)+1)).2+1:Nat):Int):=zaq Y0;have hln:=znt xs;rw[Qg]at h6;have wl:IntKind.i64.wrap ((dn.length:Int)+1)=((dn.length+1:Nat):Int):=zaq Y0;simp -implicitDefEqProofs only[go_sem,za1,zh8,zaa (.mk _ _ _ _),Fm.op,Fm.atom,Fm.var,Fm.parts,Tm.name,Tm.args];simp only[K6];refine Zj w0 w1 w2 ?_;refine drawn Yz ?_;refine Y1 ?_;refine zai (zcd (kk+1) Y0 Y0) (by simp -implicitDefEqProofs only[go_sem,Q3,K6,w0,w1,w2]) ?_;simp -implicitDefEqProofs only[go_sem,Q3,K6,w0,w1,w2];refine⟨Yz,?_⟩;refine callF (zgb s0 ((kk+1)+1) Y0 Y0) Wf ?_;refine X0 w0 w1 w2 ?_;refine drawn Yz ?_;refine Y1 ?_;refine zai (zcd (zam s0 ((kk+1)+1)).2 Y0 Y0) (by simp -implicitDefEqProofs only[go_sem,Q3,K6,w0,w1,w2]) ?_;simp -implicitDefEqProofs only[go_sem,Q3,K6,w0,w1,w2];refine⟨Yz,?_⟩;refine callF (H (.mk o0 (.mk n0 s0) v0 p0) (h5 _ (by simp)) ((zam s0 ((kk+1)+1)).2+1) Y0 (by show((zam s0 ((kk+1)+1)).2+1)+zd9 p0<=_;omega)) Wf ?_;refine X0 w0 w1 w2 ?_;refine⟨(dn++[.mk ((kk:Nat):Int) (.mk (mtx (kk+1)) (zam s0 ((kk+1)+1)).1) (mtx (zam s0 ((kk+1)+1)).2) (za1 p0 ((zam s0 ((kk+1)+1)).2+1)).1],rest,(za1 p0 ((zam s0 ((kk+1)+1)).2+1)).2),⟨by simpa using h1,h2,by show 0<(za1 p0 ((zam s0 ((kk+1)+1)).2+1)).2;omega,by show(za1 p0 ((zam s0 ((kk+1)+1)).2+1)).2+zd9 rest<=_;omega,by simp;omega,λb hb=>h5 b (by simp[hb])⟩,by simp,zad ?_⟩;exact We
theorem zh7 (xs:List Fm)(k:Nat)(h0:0<k)(hk:k+zd9 xs<=4611686018427387904):FC Tryz.prog 64 [.one (fmS (za1 xs k).1),iD k] [iD (za1 xs k).2] :=
 zhk xs (λa _=>zck (P:=λa=>∀k:Nat,0<k->k+zd9 a.parts<=4611686018427387904->FC Tryz.prog 64 [.one (fmS (za1 a.parts k).1),iD k] [iD (za1 a.parts k).2]) (λo b v ps ih=>zhk ps ih) a) k h0 hk
def zbq:Tm->Nat->Tm×Nat
 | .mk n0 s0,k=>(.mk n0 (zam s0 k).1,(zam s0 k).2)
def ze3:Tm->Nat
 | .mk n0 s0=>zdn s0
theorem zog:∀(a:Tm)(k:Nat),k<=(zbq a k).2/\(zbq a k).2<=k+ze3 a
 | .mk n0 s0,k=>by have h0:=zbv s0 k;simp only[zbq,ze3];omega
theorem zo1 (a:Tm)(k:Nat)(h0:0<k)(hk:k+ze3 a<=4611686018427387904):IC Tryz.prog 56 [] (.agg (tmC a)) [iD k] (.agg (tmC (zbq a k).1)) [iD (zbq a k).2]:=by
 obtain⟨n0,s0⟩:=a
 simp only[ze3]at hk
 have hc0:=zbv s0 k
 simp only[zab (.mk _ _),Tm.name,Tm.args,zbq]
 refine qus Tryz.call56 Tryz.func56 rfl Yz (by simp only[zew,rd,Qc,Qi,K5,Qg,Qs,Tryz.ntmps56];omega) (by simp only[Tryz.ntmps56];omega) ⟨⟨by simp,by simp[T.isPin]⟩,zc7 _⟩ trivial ?_
 simp -implicitDefEqProofs only[go_sem,Tryz.results56,zoc,zew,PI]
 refine zyd (l:=[(1000000,.agg [.t (.str n0),.ow 1 0]),(2,.one (.bx 2 0)),(6,.one (.ow 1 0)),(7,vI (k:Nat))]) (bl:=[(2,[.t (.str n0),.ow 1 0])]) (el:=[(1,⟨true,2,(s0).map tmC,0,true⟩)]) (zgc s0 k Y0 Y0) V0 rfl rfl rfl V0 rfl ?_
 exact V0
theorem zpj (a:Tm)(k:Nat)(h0:0<k)(hk:k+ze3 a<=4611686018427387904):FC Tryz.prog 73 [.agg (tmC (zbq a k).1),iD k] [iD (zbq a k).2]:=by
 obtain⟨n0,s0⟩:=a
 simp only[ze3]at hk
 have hc0:=zbv s0 k
 simp only[zab (.mk _ _),Tm.name,Tm.args,zbq]
 refine zae Tryz.call73 Tryz.func73 rfl Yz (zao Yz) ?_
 simp -implicitDefEqProofs only[go_sem,Tryz.results73]
 refine callF (zgb s0 k Y0 Y0) Wg ?_
 exact Wg
def zdp:Fm->Nat->Fm×Nat
 | .mk o0 (.mk n0 s0) v0 p0,k=>(.mk o0 (.mk n0 (zbq (.mk n0 s0) k).1.args) v0 (za1 p0 (zbq (.mk n0 s0) k).2).1,(za1 p0 (zbq (.mk n0 s0) k).2).2)
def zey:Fm->Nat
 | .mk o0 (.mk n0 s0) v0 p0=>ze3 (.mk n0 s0)+zd9 p0
theorem zp7 (a:Fm)(k:Nat)(h0:0<k)(hk:k+zey a<=4611686018427387904):IC Tryz.prog 55 [] (.agg (fmC a)) [iD k] (.agg (fmC (zdp a k).1)) [iD (zdp a k).2]:=by
 obtain⟨o0,⟨n0,s0⟩,v0,p0⟩:=a
 simp only[zey]at hk
 have hc0:=zog (.mk n0 s0) k
 have hc1:=zdi p0 (zbq (.mk n0 s0) k).2
 simp only[zaa (.mk _ _ _ _),zab (.mk _ _),Fm.op,Fm.atom,Fm.var,Fm.parts,Tm.name,Tm.args,zdp,zbq]
 refine qus Tryz.call55 Tryz.func55 rfl Yz (by simp only[zew,rd,Qc,Qi,K5,Qg,Qs,Tryz.ntmps55];omega) (by simp only[Tryz.ntmps55];omega) ⟨⟨by simp,by simp[T.isPin]⟩,zc7 _⟩ trivial ?_
 simp -implicitDefEqProofs only[go_sem,Tryz.results55,zoc,zew,PI]
 refine zyd (l:=[(1000000,.agg [.t (.int .i64 o0),.t (.str n0),.ow 2 0,.t (.str v0),.ow 4 0]),(2,.one (.bx 2 0)),(6,.agg [.t (.str n0),.ow 2 0]),(7,vI (k:Nat))]) (bl:=[(2,[.t (.int .i64 o0),.t (.str n0),.ow 2 0,.t (.str v0),.ow 4 0])]) (el:=[(2,⟨true,2,(s0).map tmC,0,true⟩),(4,⟨true,5,(p0).map fmC,0,true⟩)]) (zo1 (.mk n0 s0) k Y0 Y0) Wh rfl rfl rfl Wh rfl ?_
 simp -implicitDefEqProofs only[go_sem,zaa (.mk _ _ _ _),zab (.mk _ _),Fm.op,Fm.atom,Fm.var,Fm.parts,Tm.name,Tm.args,zbq,tmS]
 refine zyd (l:=[(1000000,.agg [.t (.int .i64 o0),.t (.str n0),.ow 2 0,.t (.str v0),.ow 4 0]),(2,.one (.bx 2 0)),(10,.one (.ow 4 0)),(11,vI ((zbq (.mk n0 s0) k).2:Nat))]) (bl:=[(2,[.t (.int .i64 o0),.t (.str n0),.ow 2 0,.t (.str v0),.ow 4 0])]) (el:=[(2,⟨true,2,((zam s0 k).1).map tmC,0,true⟩),(4,⟨true,5,(p0).map fmC,0,true⟩)]) (zie p0 (zbq (.mk n0 s0) k).2 Y0 Y0) V1 rfl rfl rfl V1 rfl ?_
 exact V1
theorem zp3 (a:Fm)(k:Nat)(h0:0<k)(hk:k+zey a<=4611686018427387904):FC Tryz.prog 72 [.agg (fmC (zdp a k).1),iD k] [iD (zdp a k).2]:=by
 obtain⟨o0,⟨n0,s0⟩,v0,p0⟩:=a
 simp only[zey]at hk
 have hc0:=zog (.mk n0 s0) k
 have hc1:=zdi p0 (zbq (.mk n0 s0) k).2
 simp only[zaa (.mk _ _ _ _),zab (.mk _ _),Fm.op,Fm.atom,Fm.var,Fm.parts,Tm.name,Tm.args,zdp]
 refine zae Tryz.call72 Tryz.func72 rfl Yz (zao Yz) ?_
 simp -implicitDefEqProofs only[go_sem,Tryz.results72]
 refine callF (zpj (.mk n0 s0) k Y0 Y0) V2 ?_
 simp -implicitDefEqProofs only[go_sem,zaa (.mk _ _ _ _),zab (.mk _ _),Fm.op,Fm.atom,Fm.var,Fm.parts,Tm.name,Tm.args,zbq]
 refine callF (zh7 p0 (zbq (.mk n0 s0) k).2 Y0 Y0) V2 ?_
 exact V2
end
section
open Go.RowKit
mutual
theorem qgi:∀a:Tm,zjl a<=2+2*a.wt
 | .mk n s=>by
  have:=zgh s;rw[Tm.wt_eq,zjl];unfold zr7 at this;simp only[Tm.name,Tm.args];omega
theorem zgh:∀xs:List Tm,zdn xs<=2*zr7 xs
 | []=>by simp[zdn]
 | a::xs=>by
  have h1:=qgi a;have h2:=zgh xs;unfold zr7 at h2⊢;rw[zdn,Qg,Qc,Kt];omega
end
mutual
theorem qj6:∀a:Fm,zjh a<=4+4*a.wt
 | .mk o (.mk n s) v p=>by
  have h1:=zgh s;have h2:=zlu p;rw[Fm.wt_eq,zjh];unfold zu1 at h2;unfold zr7 at h1;simp only[Fm.atom,Fm.var,Fm.parts];rw[Tm.wt_eq];simp only[Tm.name,Tm.args];omega
theorem zlu:∀xs:List Fm,zd9 xs<=4*zu1 xs
 | []=>by simp[zd9]
 | a::xs=>by
  have h1:=qj6 a;have h2:=zlu xs;unfold zu1 at h2⊢;rw[zd9,Qg,Qc,Kt];omega
end
end
section
open Go.RowKit
mutual
def zid:Nt->Nat->Nt×Nat
 | .mk r0 (.mk o0 (.mk n0 s0) v0 p0) l0 (.mk n1 s1) d0,k=>(.mk ((k:Nat):Int) (.mk (((k+1):Nat):Int) (.mk (mtx ((k+1)+1)) (zam s0 (((k+1)+1)+1)).1) (mtx (zam s0 (((k+1)+1)+1)).2) (za1 p0 ((zam s0 (((k+1)+1)+1)).2+1)).1) (((za1 p0 ((zam s0 (((k+1)+1)+1)).2+1)).2:Nat):Int) (.mk (mtx ((za1 p0 ((zam s0 (((k+1)+1)+1)).2+1)).2+1)) (zam s1 (((za1 p0 ((zam s0 (((k+1)+1)+1)).2+1)).2+1)+1)).1) (zb7 d0 (zam s1 (((za1 p0 ((zam s0 (((k+1)+1)+1)).2+1)).2+1)+1)).2).1,(zb7 d0 (zam s1 (((za1 p0 ((zam s0 (((k+1)+1)+1)).2+1)).2+1)+1)).2).2)
def zb7:List Nt->Nat->List Nt×Nat
 | [],k=>([],k)
 | a::xs,k=>((zid a k).1::(zb7 xs (zid a k).2).1,(zb7 xs (zid a k).2).2)
end
mutual
def zjo:Nt->Nat
 | .mk r0 (.mk o0 (.mk n0 s0) v0 p0) l0 (.mk n1 s1) d0=>1+1+1+1+zdn s0+1+zd9 p0+1+1+zdn s1+zek d0
def zek:List Nt->Nat
 | []=>0
 | a::xs=>zjo a+zek xs
end
mutual
theorem qec:∀(a:Nt)(k:Nat),k<=(zid a k).2/\(zid a k).2<=k+zjo a
 | .mk r0 (.mk o0 (.mk n0 s0) v0 p0) l0 (.mk n1 s1) d0,k=>by have h_s0:=zbv s0 (((k+1)+1)+1);have h_p0:=zdi p0 ((zam s0 (((k+1)+1)+1)).2+1);have h_s1:=zbv s1 (((za1 p0 ((zam s0 (((k+1)+1)+1)).2+1)).2+1)+1);have h_d0:=zhs d0 (zam s1 (((za1 p0 ((zam s0 (((k+1)+1)+1)).2+1)).2+1)+1)).2;simp only[zid,zjo];omega
theorem zhs:∀(xs:List Nt)(k:Nat),k<=(zb7 xs k).2/\(zb7 xs k).2<=k+zek xs
 | [],k=>⟨Qz _,Qz _⟩
 | a::xs,k=>by have h1:=qec a k;have h2:=zhs xs (zid a k).2;simp only[zb7,zek];omega
end
theorem zmp:∀xs:List Nt,xs.length<=zek xs
 | []=>Qz _
 | a::xs=>by
  have:=zmp xs;have:1<=zjo a:=by obtain⟨r0,⟨o0,⟨n0,s0⟩,v0,p0⟩,l0,⟨n1,s1⟩,d0⟩:=a;simp only[zjo];omega
  simp only[Qg,zek];omega
theorem zg8 (xs:List Nt)(H:∀a∈xs,∀k:Nat,0<k->k+zek a.parts<=4611686018427387904->IC Tryz.prog 57 [] (.one (ntS a.parts)) [iD k] (.one (ntS (zb7 a.parts k).1)) [iD (zb7 a.parts k).2]) :
  ∀k:Nat,0<k->k+zek xs<=4611686018427387904->IC Tryz.prog 57 [] (.one (ntS xs)) [iD k] (.one (ntS (zb7 xs k).1)) [iD (zb7 xs k).2]:=by
 intro k h0 hk
 refine qge Tryz.call57 Tryz.func57 rfl Yz (by simp only[zew,rd,Qc,Qi,K5,Qg,Qs,Tryz.ntmps57];omega) (by simp only[Tryz.ntmps57];omega) (λvs=>?_)
 simp -implicitDefEqProofs only[go_sem,Tryz.results57,qpv,zoc,zew,PI]
 refine zah (fun(x:List Nt×List Nt×Nat)=>hd [(0,.one (.ow 0 0)),(1000000,.one (.ow 0 0)),(1,vI x.2.2),(5,vI x.1.length)] [] [(0,⟨true,10,x.1.map ntC++zfw vs x.1.length (x.2.1.map ntC),0,true⟩)])
  (λx=>(zb7 xs k).1=x.1++(zb7 x.2.1 x.2.2).1/\(zb7 xs k).2=(zb7 x.2.1 x.2.2).2/\0<x.2.2/\x.2.2+zek x.2.1<=4611686018427387904/\x.1.length+x.2.1.length=xs.length/\∀a∈x.2.1,a∈xs) (λx=>x.2.1.length) ([],xs,k) (zad ?_) ?_ ?_
 ·exact Yy
 ·exact⟨rfl,rfl,h0,hk,by simp,λ_ h=>h⟩
 ·intro ⟨dn,rest,kk⟩ ⟨h1,h2,h3,h4,h6,h5⟩;simp only at h1 h2 h3 h4 h5 h6;cases rest with
  | nil =>
   simp only[zb7,Ko]at h1 h2;exact Y9 h1 h2
  | cons a rest =>
   obtain⟨r0,⟨o0,⟨n0,s0⟩,v0,p0⟩,l0,⟨n1,s1⟩,d0⟩:=a;simp only[zb7,zid,zek,zjo]at h1 h2 h4;have hc_s0:=zbv s0 (((kk+1)+1)+1);have hc_p0:=zdi p0 ((zam s0 (((kk+1)+1)+1)).2+1);have hc_s1:=zbv s1 (((za1 p0 ((zam s0 (((kk+1)+1)+1)).2+1)).2+1)+1);have hc_d0:=zhs d0 (zam s1 (((za1 p0 ((zam s0 (((kk+1)+1)+1)).2+1)).2+1)+1)).2;have w0:IntKind.i64.wrap (((kk:Nat):Int)+1)=((kk+1:Nat):Int):=zaq Y0;have w1:IntKind.i64.wrap ((((kk+1):Nat):Int)+1)=(((kk+1)+1:Nat):Int):=zaq Y0;have w2:IntKind.i64.wrap (((((kk+1)+1):Nat):Int)+1)=((((kk+1)+1)+1:Nat):Int):=zaq Y0;have w3:IntKind.i64.wrap ((((zam s0 (((kk+1)+1)+1)).2:Nat):Int)+1)=(((zam s0 (((kk+1)+1)+1)).2+1:Nat):Int):=zaq Y0;have w4:IntKind.i64.wrap ((((za1 p0 ((zam s0 (((kk+1)+1)+1)).2+1)).2:Nat):Int)+1)=(((za1 p0 ((zam s0 (((kk+1)+1)+1)).2+1)).2+1:Nat):Int):=zaq Y0;have w5:IntKind.i64.wrap (((((za1 p0 ((zam s0 (((kk+1)+1)+1)).2+1)).2+1):Nat):Int)+1)=((((za1 p0 ((zam s0 (((kk+1)+1)+1)).2+1)).2+1)+1:Nat):Int):=zaq Y0;have hln:=zmp xs;rw[Qg]at h6;have wl:IntKind.i64.wrap ((dn.length:Int)+1)=((dn.length+1:Nat):Int):=zaq Y0;simp -implicitDefEqProofs only[go_sem,zac (.mk _ _ _ _ _),Nt.rule,Nt.form,Nt.label,Nt.term,Nt.parts,Fm.op,Fm.atom,Fm.var,Fm.parts,Tm.name,Tm.args];refine zfd Vn ?_;refine Vo ?_;refine zfd Vn ?_;refine Vo ?_;refine callF (zcd ((kk+1)+1) Y0 Y0) V3 ?_;refine Vp ?_;refine zfd Vn ?_;refine Vo ?_;refine callN (l:=[(0,.one (.ow 0 0)),(1000000,.one (.ow 0 0)),(5,vI dn.length),(43,.one (.cv (vs dn.length 3))),(44,vI ((((kk+1)+1)+1):Nat))]) (bl:=[]) (el:=[(0,⟨true,10,dn.map ntC++[.int .i64 ((kk:Nat):Int),.int .i64 (((kk+1):Nat):Int),.str (mtx ((kk+1)+1)),.pin (vs dn.length 3) (tmS s0),.str v0,.pin (vs dn.length 5) (fmS p0),.int .i64 l0,.str n1,.pin (vs dn.length 8) (tmS s1),.pin (vs dn.length 9) (ntS d0)]::zfw vs (dn.length+1) (rest.map ntC),0,true⟩)]) 0 dn.length 3 (zgc s0 (((kk+1)+1)+1) Y0 Y0) Wi rfl rfl rfl Vc rfl ?_;refine Z7 w0 w1 w2 w3 w4 w5 ?_;refine callF (zcd (zam s0 (((kk+1)+1)+1)).2 Y0 Y0) V3 ?_;refine Vp ?_;refine zfd Vn ?_;refine Vo ?_;refine callN (l:=[(0,.one (.ow 0 0)),(1000000,.one (.ow 0 0)),(5,vI dn.length),(60,.one (.cv (vs dn.length 5))),(61,vI (((zam s0 (((kk+1)+1)+1)).2+1):Nat))]) (bl:=[]) (el:=[(0,⟨true,10,dn.map ntC++[.int .i64 ((kk:Nat):Int),.int .i64 (((kk+1):Nat):Int),.str (mtx ((kk+1)+1)),tmS (zam s0 (((kk+1)+1)+1)).1,.str (mtx (zam s0 (((kk+1)+1)+1)).2),.pin (vs dn.length 5) (fmS p0),.int .i64 l0,.str n1,.pin (vs dn.length 8) (tmS s1),.pin (vs dn.length 9) (ntS d0)]::zfw vs (dn.length+1) (rest.map ntC),0,true⟩)]) 0 dn.length 5 (zie p0 ((zam s0 (((kk+1)+1)+1)).2+1) Y0 Y0) (by simp -implicitDefEqProofs only[go_sem,w0,w1,w2,w3,w4,w5,fmS]) rfl rfl rfl (by simp -implicitDefEqProofs only[go_sem,fmS,Nt.rule,Nt.form,Nt.label,Nt.term,Nt.parts,Fm.op,Fm.atom,Fm.var,Fm.parts,Tm.name,Tm.args]) rfl ?_;refine Z7 w0 w1 w2 w3 w4 w5 ?_;refine zfd Vn ?_;refine Vo ?_;refine callF (zcd ((za1 p0 ((zam s0 (((kk+1)+1)+1)).2+1)).2+1) Y0 Y0) V3 ?_;refine Vp ?_;refine zfd Vn ?_;refine Vo ?_;refine callN (l:=[(0,.one (.ow 0 0)),(1000000,.one (.ow 0 0)),(5,vI dn.length),(84,.one (.cv (vs dn.length 8))),(85,vI ((((za1 p0 ((zam s0 (((kk+1)+1)+1)).2+1)).2+1)+1):Nat))]) (bl:=[]) (el:=[(0,⟨true,10,dn.map ntC++[.int .i64 ((kk:Nat):Int),.int .i64 (((kk+1):Nat):Int),.str (mtx ((kk+1)+1)),tmS (zam s0 (((kk+1)+1)+1)).1,.str (mtx (zam s0 (((kk+1)+1)+1)).2),fmS (za1 p0 ((zam s0 (((kk+1)+1)+1)).2+1)).1,.int .i64 (((za1 p0 ((zam s0 (((kk+1)+1)+1)).2+1)).2:Nat):Int),.str (mtx ((za1 p0 ((zam s0 (((kk+1)+1)+1)).2+1)).2+1)),.pin (vs dn.length 8) (tmS s1),.pin (vs dn.length 9) (ntS d0)]::zfw vs (dn.length+1) (rest.map ntC),0,true⟩)]) 0 dn.length 8 (zgc s1 (((za1 p0 ((zam s0 (((kk+1)+1)+1)).2+1)).2+1)+1) Y0 Y0) Wi rfl rfl rfl Vc rfl ?_;refine Z7 w0 w1 w2 w3 w4 w5 ?_;refine callN (l:=[(0,.one (.ow 0 0)),(1000000,.one (.ow 0 0)),(5,vI dn.length),(91,.one (.cv (vs dn.length 9))),(92,vI ((zam s1 (((za1 p0 ((zam s0 (((kk+1)+1)+1)).2+1)).2+1)+1)).2:Nat))]) (bl:=[]) (el:=[(0,⟨true,10,dn.map ntC++[.int .i64 ((kk:Nat):Int),.int .i64 (((kk+1):Nat):Int),.str (mtx ((kk+1)+1)),tmS (zam s0 (((kk+1)+1)+1)).1,.str (mtx (zam s0 (((kk+1)+1)+1)).2),fmS (za1 p0 ((zam s0 (((kk+1)+1)+1)).2+1)).1,.int .i64 (((za1 p0 ((zam s0 (((kk+1)+1)+1)).2+1)).2:Nat):Int),.str (mtx ((za1 p0 ((zam s0 (((kk+1)+1)+1)).2+1)).2+1)),tmS (zam s1 (((za1 p0 ((zam s0 (((kk+1)+1)+1)).2+1)).2+1)+1)).1,.pin (vs dn.length 9) (ntS d0)]::zfw vs (dn.length+1) (rest.map ntC),0,true⟩)]) 0 dn.length 9 (H (.mk r0 (.mk o0 (.mk n0 s0) v0 p0) l0 (.mk n1 s1) d0) (h5 _ (by simp)) (zam s1 (((za1 p0 ((zam s0 (((kk+1)+1)+1)).2+1)).2+1)+1)).2 Y0 (by show(zam s1 (((za1 p0 ((zam s0 (((kk+1)+1)+1)).2+1)).2+1)+1)).2+zek d0<=_;omega)) (by simp -implicitDefEqProofs only[go_sem,w0,w1,w2,w3,w4,w5,ntS]) rfl rfl rfl (by simp -implicitDefEqProofs only[go_sem,ntS,Nt.rule,Nt.form,Nt.label,Nt.term,Nt.parts,Fm.op,Fm.atom,Fm.var,Fm.parts,Tm.name,Tm.args]) rfl ?_;refine Z7 w0 w1 w2 w3 w4 w5 ?_;refine⟨(dn++[.mk ((kk:Nat):Int) (.mk (((kk+1):Nat):Int) (.mk (mtx ((kk+1)+1)) (zam s0 (((kk+1)+1)+1)).1) (mtx (zam s0 (((kk+1)+1)+1)).2) (za1 p0 ((zam s0 (((kk+1)+1)+1)).2+1)).1) (((za1 p0 ((zam s0 (((kk+1)+1)+1)).2+1)).2:Nat):Int) (.mk (mtx ((za1 p0 ((zam s0 (((kk+1)+1)+1)).2+1)).2+1)) (zam s1 (((za1 p0 ((zam s0 (((kk+1)+1)+1)).2+1)).2+1)+1)).1) (zb7 d0 (zam s1 (((za1 p0 ((zam s0 (((kk+1)+1)+1)).2+1)).2+1)+1)).2).1],rest,(zb7 d0 (zam s1 (((za1 p0 ((zam s0 (((kk+1)+1)+1)).2+1)).2+1)+1)).2).2),⟨by simpa using h1,h2,by show 0<(zb7 d0 (zam s1 (((za1 p0 ((zam s0 (((kk+1)+1)+1)).2+1)).2+1)+1)).2).2;omega,by show(zb7 d0 (zam s1 (((za1 p0 ((zam s0 (((kk+1)+1)+1)).2+1)).2+1)+1)).2).2+zek rest<=_;omega,by simp;omega,λb hb=>h5 b (by simp[hb])⟩,by simp,zad ?_⟩;exact Wj
theorem zod (xs:List Nt)(k:Nat)(h0:0<k)(hk:k+zek xs<=4611686018427387904):IC Tryz.prog 57 [] (.one (ntS xs)) [iD k] (.one (ntS (zb7 xs k).1)) [iD (zb7 xs k).2] :=
 zg8 xs (λa _=>zbu (P:=λa=>∀k:Nat,0<k->k+zek a.parts<=4611686018427387904->IC Tryz.prog 57 [] (.one (ntS a.parts)) [iD k] (.one (ntS (zb7 a.parts k).1)) [iD (zb7 a.parts k).2]) (λ_ _ _ _ ps ih=>zg8 ps ih) a) k h0 hk
theorem zha (xs:List Nt)(H:∀a∈xs,∀k:Nat,0<k->k+zek a.parts<=4611686018427387904->FC Tryz.prog 74 [.one (ntS (zb7 a.parts k).1),iD k] [iD (zb7 a.parts k).2]) :
  ∀k:Nat,0<k->k+zek xs<=4611686018427387904->FC Tryz.prog 74 [.one (ntS (zb7 xs k).1),iD k] [iD (zb7 xs k).2]:=by
 intro k h0 hk
 refine zae Tryz.call74 Tryz.func74 rfl Yz (zao Yz) ?_
 simp -implicitDefEqProofs only[go_sem,Tryz.results74]
 refine zah (fun(x:List Nt×List Nt×Nat)=>hd [(0,vT (.sl 10 (x.1.map ntC++(zb7 x.2.1 x.2.2).1.map ntC))),(1,vI x.2.2),(5,vI x.1.length)] [] [])
  (λx=>(zb7 xs k).1=x.1++(zb7 x.2.1 x.2.2).1/\(zb7 xs k).2=(zb7 x.2.1 x.2.2).2/\0<x.2.2/\x.2.2+zek x.2.1<=4611686018427387904/\x.1.length+x.2.1.length=xs.length/\∀a∈x.2.1,a∈xs) (λx=>x.2.1.length) ([],xs,k) (zad ?_) ?_ ?_
 ·exact Yy
 ·exact⟨rfl,rfl,h0,hk,by simp,λ_ h=>h⟩
 ·intro ⟨dn,rest,kk⟩ ⟨h1,h2,h3,h4,h6,h5⟩;simp only at h1 h2 h3 h4 h5 h6;cases rest with
  | nil =>
   simp only[zb7,Ko]at h1 h2;simp -implicitDefEqProofs only[go_sem,h2,zb7]
  | cons a rest =>
   obtain⟨r0,⟨o0,⟨n0,s0⟩,v0,p0⟩,l0,⟨n1,s1⟩,d0⟩:=a;simp only[zb7,zid,zek,zjo]at h1 h2 h4;have hc_s0:=zbv s0 (((kk+1)+1)+1);have hc_p0:=zdi p0 ((zam s0 (((kk+1)+1)+1)).2+1);have hc_s1:=zbv s1 (((za1 p0 ((zam s0 (((kk+1)+1)+1)).2+1)).2+1)+1);have hc_d0:=zhs d0 (zam s1 (((za1 p0 ((zam s0 (((kk+1)+1)+1)).2+1)).2+1)+1)).2;have w0:IntKind.i64.wrap (((kk:Nat):Int)+1)=((kk+1:Nat):Int):=zaq Y0;have w1:IntKind.i64.wrap ((((kk+1):Nat):Int)+1)=(((kk+1)+1:Nat):Int):=zaq Y0;have w2:IntKind.i64.wrap (((((kk+1)+1):Nat):Int)+1)=((((kk+1)+1)+1:Nat):Int):=zaq Y0;have w3:IntKind.i64.wrap ((((zam s0 (((kk+1)+1)+1)).2:Nat):Int)+1)=(((zam s0 (((kk+1)+1)+1)).2+1:Nat):Int):=zaq Y0;have w4:IntKind.i64.wrap ((((za1 p0 ((zam s0 (((kk+1)+1)+1)).2+1)).2:Nat):Int)+1)=(((za1 p0 ((zam s0 (((kk+1)+1)+1)).2+1)).2+1:Nat):Int):=zaq Y0;have w5:IntKind.i64.wrap (((((za1 p0 ((zam s0 (((kk+1)+1)+1)).2+1)).2+1):Nat):Int)+1)=((((za1 p0 ((zam s0 (((kk+1)+1)+1)).2+1)).2+1)+1:Nat):Int):=zaq Y0;have hln:=zmp xs;rw[Qg]at h6;have wl:IntKind.i64.wrap ((dn.length:Int)+1)=((dn.length+1:Nat):Int):=zaq Y0;simp -implicitDefEqProofs only[go_sem,zb7,zid,zac (.mk _ _ _ _ _),Nt.rule,Nt.form,Nt.label,Nt.term,Nt.parts,Fm.op,Fm.atom,Fm.var,Fm.parts,Tm.name,Tm.args];simp only[K6];refine Vp ?_;simp only[K6];refine Vp ?_;refine drawn Yz ?_;refine Y1 ?_;refine zai (zcd ((kk+1)+1) Y0 Y0) V4 ?_;refine V5 ?_;refine⟨Yz,?_⟩;refine callF (zgb s0 (((kk+1)+1)+1) Y0 Y0) (X1 w0 w1 w2 w3 w4 w5) ?_;refine Z7 w0 w1 w2 w3 w4 w5 ?_;refine drawn Yz ?_;refine Y1 ?_;refine zai (zcd (zam s0 (((kk+1)+1)+1)).2 Y0 Y0) V4 ?_;refine V5 ?_;refine⟨Yz,?_⟩;refine callF (zh7 p0 ((zam s0 (((kk+1)+1)+1)).2+1) Y0 Y0) (X1 w0 w1 w2 w3 w4 w5) ?_;refine Z7 w0 w1 w2 w3 w4 w5 ?_;simp only[K6];refine Vp ?_;refine drawn Yz ?_;refine Y1 ?_;refine zai (zcd ((za1 p0 ((zam s0 (((kk+1)+1)+1)).2+1)).2+1) Y0 Y0) V4 ?_;refine V5 ?_;refine⟨Yz,?_⟩;refine callF (zgb s1 (((za1 p0 ((zam s0 (((kk+1)+1)+1)).2+1)).2+1)+1) Y0 Y0) (X1 w0 w1 w2 w3 w4 w5) ?_;refine Z7 w0 w1 w2 w3 w4 w5 ?_;refine callF (H (.mk r0 (.mk o0 (.mk n0 s0) v0 p0) l0 (.mk n1 s1) d0) (h5 _ (by simp)) (zam s1 (((za1 p0 ((zam s0 (((kk+1)+1)+1)).2+1)).2+1)+1)).2 Y0 (by show(zam s1 (((za1 p0 ((zam s0 (((kk+1)+1)+1)).2+1)).2+1)+1)).2+zek d0<=_;omega)) (X1 w0 w1 w2 w3 w4 w5) ?_;refine Z7 w0 w1 w2 w3 w4 w5 ?_;refine⟨(dn++[.mk ((kk:Nat):Int) (.mk (((kk+1):Nat):Int) (.mk (mtx ((kk+1)+1)) (zam s0 (((kk+1)+1)+1)).1) (mtx (zam s0 (((kk+1)+1)+1)).2) (za1 p0 ((zam s0 (((kk+1)+1)+1)).2+1)).1) (((za1 p0 ((zam s0 (((kk+1)+1)+1)).2+1)).2:Nat):Int) (.mk (mtx ((za1 p0 ((zam s0 (((kk+1)+1)+1)).2+1)).2+1)) (zam s1 (((za1 p0 ((zam s0 (((kk+1)+1)+1)).2+1)).2+1)+1)).1) (zb7 d0 (zam s1 (((za1 p0 ((zam s0 (((kk+1)+1)+1)).2+1)).2+1)+1)).2).1],rest,(zb7 d0 (zam s1 (((za1 p0 ((zam s0 (((kk+1)+1)+1)).2+1)).2+1)+1)).2).2),⟨by simpa using h1,h2,by show 0<(zb7 d0 (zam s1 (((za1 p0 ((zam s0 (((kk+1)+1)+1)).2+1)).2+1)+1)).2).2;omega,by show(zb7 d0 (zam s1 (((za1 p0 ((zam s0 (((kk+1)+1)+1)).2+1)).2+1)+1)).2).2+zek rest<=_;omega,by simp;omega,λb hb=>h5 b (by simp[hb])⟩,by simp,zad ?_⟩;exact Wj
theorem zn1 (xs:List Nt)(k:Nat)(h0:0<k)(hk:k+zek xs<=4611686018427387904):FC Tryz.prog 74 [.one (ntS (zb7 xs k).1),iD k] [iD (zb7 xs k).2] :=
 zha xs (λa _=>zbu (P:=λa=>∀k:Nat,0<k->k+zek a.parts<=4611686018427387904->FC Tryz.prog 74 [.one (ntS (zb7 a.parts k).1),iD k] [iD (zb7 a.parts k).2]) (λ_ _ _ _ ps ih=>zha ps ih) a) k h0 hk
end
section
open Go.RowKit
def zar:Nt->Nat->Nt×Nat
 | .mk r (.mk o1 (.mk n1 s1) v1 p1) l (.mk n0 s0) d0,k =>
  let a:=zam s1 k
  let b:=za1 p1 a.2
  let c:=zam s0 b.2
  let d:=zb7 d0 c.2
  (.mk r (.mk o1 (.mk n1 a.1) v1 b.1) l (.mk n0 c.1) d.1,d.2)
def zdr:Nt->Nat
 | .mk _ (.mk _ (.mk _ s1) _ p1) _ (.mk _ s0) d0=>zdn s1+zd9 p1+zdn s0+zek d0
theorem zcr:∀(a:Nt)(k:Nat),k<=(zar a k).2/\(zar a k).2<=k+zdr a
 | .mk r (.mk o1 (.mk n1 s1) v1 p1) l (.mk n0 s0) d0,k=>by
  have h1:=zbv s1 k;have h2:=zdi p1 (zam s1 k).2;have h3:=zbv s0 (za1 p1 (zam s1 k).2).2;have h4:=zhs d0 (zam s0 (za1 p1 (zam s1 k).2).2).2;simp only[zar,zdr];omega
mutual
theorem qgm:∀a:Nt,zjo a<=8+8*a.wt
 | .mk r (.mk o (.mk n1 s1) v p) l (.mk n s) e=>by
  have h3:=zgh s;have h4:=zgh s1;have h5:=zlu p;have h6:=zqp e;rw[Nt.wt_eq,zjo];unfold zuy at h6;simp only[Nt.form,Nt.term,Nt.parts];rw[Fm.wt_eq,Tm.wt_eq];simp only[Fm.atom,Fm.var,Fm.parts,Tm.name,Tm.args];rw[Tm.wt_eq];simp only[Tm.name,Tm.args];have e1:zr7 s=s.length+(s.map Tm.wt).sum:=rfl;have e2:zr7 s1=s1.length+(s1.map Tm.wt).sum:=rfl;have e3:zu1 p=p.length+(p.map Fm.wt).sum:=rfl;omega
theorem zqp:∀xs:List Nt,zek xs<=8*zuy xs
 | []=>by simp[zek]
 | a::xs=>by
  have h1:=qgm a;have h2:=zqp xs;unfold zuy at h2⊢;rw[zek,Qg,Qc,Kt];omega
end
theorem zcs (a:Nt):zdr a<=8*a.wt:=by
 obtain⟨r,⟨o,⟨n1,s1⟩,v,p⟩,l,⟨n,s⟩,e⟩:=a
 have h3:=zgh s
 have h4:=zgh s1
 have h5:=zlu p
 have h6:=zqp e
 rw[Nt.wt_eq,zdr];unfold zuy at h6
 simp only[Nt.form,Nt.term,Nt.parts]
 rw[Fm.wt_eq,Tm.wt_eq]
 simp only[Fm.atom,Fm.var,Fm.parts,Tm.name,Tm.args]
 rw[Tm.wt_eq]
 simp only[Tm.name,Tm.args]
 have e1:zr7 s=s.length+(s.map Tm.wt).sum:=rfl
 have e2:zr7 s1=s1.length+(s1.map Tm.wt).sum:=rfl
 have e3:zu1 p=p.length+(p.map Fm.wt).sum:=rfl
 omega
theorem zb4 (d:Nt)(k:Nat):ntC (zar d k).1=[.int .i64 d.rule,.int .i64 d.form.op,.str d.form.atom.name,.sl 2 ((zar d k).1.form.atom.args.map tmC),.str d.form.var,.sl 5 ((zar d k).1.form.parts.map fmC),.int .i64 d.label,.str d.term.name,.sl 2 ((zar d k).1.term.args.map tmC),.sl 10 ((zar d k).1.parts.map ntC)]:=by
 obtain⟨r,⟨o,⟨n1,s1⟩,v,p⟩,l,⟨n,s⟩,e⟩:=d
 rw[zac];rfl
theorem zct (a:Nt)(k:Nat)(h0:0<k)(hk:k+zdr a<=4611686018427387904):IC Tryz.prog 19 [] (.agg (ntC a)) [iD k] (.agg (ntC (zar a k).1)) [iD (zar a k).2]:=by
 obtain⟨r,⟨o,⟨n1,s1⟩,v,p⟩,l,⟨n,s⟩,e⟩:=a
 simp only[zdr]at hk
 have h1:=zbv s1 k
 have h2:=zdi p (zam s1 k).2
 have h3:=zbv s (za1 p (zam s1 k).2).2
 have H1:=zp7 (.mk o (.mk n1 s1) v p) k h0 (by simp only[zey,ze3];omega)
 have H2:=zo1 (.mk n s) (za1 p (zam s1 k).2).2 Y0 (by simp only[ze3];omega)
 have H4:=zod e (zam s (za1 p (zam s1 k).2).2).2 Y0 Y0
 simp only[zaa (.mk _ _ _ _),zac (.mk _ _ _ _ _),zab (.mk _ _),Nt.rule,Nt.form,Nt.label,Nt.term,Nt.parts,Fm.op,Fm.atom,Fm.var,Fm.parts,Tm.name,Tm.args,zar,zdp,zbq]at H1 H2 H4⊢
 generalize (zam s1 k).1=l1 at H1⊢
 generalize (zam s1 k).2=k1 at H1 H2 H4⊢
 generalize (za1 p k1).1=g1 at H1⊢
 generalize (za1 p k1).2=k2 at H1 H2 H4⊢
 generalize (zam s k2).1=t1 at H2⊢
 generalize (zam s k2).2=k3 at H2 H4⊢
 generalize (zb7 e k3).1=e1 at H4⊢
 generalize (zb7 e k3).2=k6 at H4⊢
 refine qus Tryz.call19 Tryz.func19 rfl Yz (by simp only[zew,rd,Qc,Qi,K5,Qg,Qs,Tryz.ntmps19];omega) (by simp only[Tryz.ntmps19];omega) ⟨⟨by simp,by simp[T.isPin]⟩,zc7 _⟩ trivial ?_
 simp -implicitDefEqProofs only[go_sem,Tryz.results19,zoc,zew,PI]
 refine zfl [1000000,2,6,7] (H1) Yy Yy Yy Yy Yy rfl ?_
 refine Y1 ?_
 refine zfl [1000000,2,10,11] (H2) Yy Yy Yy Yy Yy rfl ?_
 refine Y1 ?_
 refine zfl [1000000,2,14,15] (H4) Yy Yy Yy Yy Yy rfl ?_
 exact Yy
theorem zgd (a:Nt)(k:Nat)(h0:0<k)(hk:k+zdr a<=4611686018427387904):FC Tryz.prog 36 [.agg (ntC (zar a k).1),iD k] [iD (zar a k).2]:=by
 obtain⟨r,⟨o,⟨n1,s1⟩,v,p⟩,l,⟨n,s⟩,e⟩:=a
 simp only[zdr]at hk
 have h1:=zbv s1 k
 have h2:=zdi p (zam s1 k).2
 have h3:=zbv s (za1 p (zam s1 k).2).2
 have h4:=zhs e (zam s (za1 p (zam s1 k).2).2).2
 have H1:=zp3 (.mk o (.mk n1 s1) v p) k h0 (by simp only[zey,ze3];omega)
 have H2:=zpj (.mk n s) (za1 p (zam s1 k).2).2 Y0 (by simp only[ze3];omega)
 have H4:=zn1 e (zam s (za1 p (zam s1 k).2).2).2 Y0 Y0
 simp only[zaa (.mk _ _ _ _),zac (.mk _ _ _ _ _),zab (.mk _ _),Nt.rule,Nt.form,Nt.label,Nt.term,Nt.parts,Fm.op,Fm.atom,Fm.var,Fm.parts,Tm.name,Tm.args,zar,zdp,zbq]at H1 H2 H4⊢
 refine zae Tryz.call36 Tryz.func36 rfl Yz (zao Yz) ?_
 simp -implicitDefEqProofs only[go_sem,Tryz.results36]
 refine callF (H1) Yy ?_
 refine Y1 ?_
 refine callF (H2) Yy ?_
 refine Y1 ?_
 refine callF (H4) Yy ?_
 exact Yy
end
end Go.Proofs.YtnemmlahbbbobaaGreat
