/-
  The walk over plain data, and contracts of functions of the program and of its laws.
  Conditions: those that each theorem names.
-/
import Derived.Test.YtnemmlahbbbobaaGreatQV4
import Derived.Test.YtnemmlahbbbobaaGreatQV1
import Derived.MapKept
import Derived.OrdersIn
namespace Go.Proofs.YtnemmlahbbbobaaGreat
set_option linter.unusedSimpArgs false
set_option linter.unusedVariables false
set_option linter.unusedSectionVars false
set_option maxRecDepth 4000
set_option maxHeartbeats 8000000
section
open Go.RowKit
abbrev Str:=List UInt8
inductive Tm where
 | mk (name:Str) (args:List Tm)
def Tm.name:Tm->Str|.mk n _=>n
def Tm.args:Tm->List Tm|.mk _ xs=>xs
theorem Tm.eta:∀a:Tm,Tm.mk a.name a.args=a|.mk _ _=>rfl
mutual
theorem zb4 {P:Tm->Prop}(h:∀n xs,(∀x∈xs,P x)->P (.mk n xs)):∀a,P a
 | .mk n xs=>h n xs (qjy h xs)
theorem qjy {P:Tm->Prop}(h:∀n xs,(∀x∈xs,P x)->P (.mk n xs)):∀xs:List Tm,∀x∈xs,P x
 | [],x,hx=>absurd hx (by simp)
 | a::xs,x,hx=>(Qp.1 hx).elim (fun e=>e▸zb4 h a) (qjy h xs x)
end
mutual
def Tm.fold {α:Type}(f:Str->List Tm->List α->α):Tm->α
 | .mk n xs=>f n xs (Tm.folds f xs)
def Tm.folds {α:Type}(f:Str->List Tm->List α->α):List Tm->List α
 | []=>[]
 | a::xs=>Tm.fold f a::Tm.folds f xs
end
theorem Tm.folds_map {α:Type}(f:Str->List Tm->List α->α)(xs:List Tm):Tm.folds f xs=xs.map (Tm.fold f):=by
 induction xs with
 | nil=>rfl
 | cons a xs ih=>rw[Tm.folds,ih];rfl
theorem Tm.fold_eq {α:Type}(f:Str->List Tm->List α->α)(a:Tm):Tm.fold f a=f a.name a.args (a.args.map (Tm.fold f)):=by
 cases a;rw[Tm.fold,Tm.folds_map];rfl
inductive Fm where
 | mk (op:Int) (atom:Tm) (var:Str) (parts:List Fm)
def Fm.op:Fm->Int|.mk o _ _ _=>o
def Fm.atom:Fm->Tm|.mk _ a _ _=>a
def Fm.var:Fm->Str|.mk _ _ v _=>v
def Fm.parts:Fm->List Fm|.mk _ _ _ ps=>ps
theorem Fm.eta:∀a:Fm,Fm.mk a.op a.atom a.var a.parts=a|.mk _ _ _ _=>rfl
mutual
theorem zcn {P:Fm->Prop}(h:∀o a v ps,(∀x∈ps,P x)->P (.mk o a v ps)):∀f,P f
 | .mk o a v ps=>h o a v ps (qi1 h ps)
theorem qi1 {P:Fm->Prop}(h:∀o a v ps,(∀x∈ps,P x)->P (.mk o a v ps)):∀xs:List Fm,∀x∈xs,P x
 | [],x,hx=>absurd hx (by simp)
 | a::xs,x,hx=>(Qp.1 hx).elim (fun e=>e▸zcn h a) (qi1 h xs x)
end
mutual
def Fm.fold {α:Type}(f:Int->Tm->Str->List Fm->List α->α):Fm->α
 | .mk o a v ps=>f o a v ps (Fm.folds f ps)
def Fm.folds {α:Type}(f:Int->Tm->Str->List Fm->List α->α):List Fm->List α
 | []=>[]
 | a::xs=>Fm.fold f a::Fm.folds f xs
end
theorem Fm.folds_map {α:Type}(f:Int->Tm->Str->List Fm->List α->α)(xs:List Fm):Fm.folds f xs=xs.map (Fm.fold f):=by
 induction xs with
 | nil=>rfl
 | cons a xs ih=>rw[Fm.folds,ih];rfl
theorem Fm.fold_eq {α:Type}(f:Int->Tm->Str->List Fm->List α->α)(a:Fm):Fm.fold f a=f a.op a.atom a.var a.parts (a.parts.map (Fm.fold f)):=by
 cases a;rw[Fm.fold,Fm.folds_map];rfl
structure Sq where
 left:List Fm
 right:List Fm
def tmC:Tm->List T:=Tm.fold fun n _ rs=>[.str n,.sl 2 rs]
theorem zab (a:Tm):tmC a=[.str a.name,.sl 2 (a.args.map tmC)]:=Tm.fold_eq _ a
def fmC:Fm->List T:=Fm.fold fun o a v _ rs=>[.int .i64 o,.str a.name,.sl 2 (a.args.map tmC),.str v,.sl 5 rs]
theorem zaa (a:Fm):fmC a=[.int .i64 a.op,.str a.atom.name,.sl 2 (a.atom.args.map tmC),.str a.var,.sl 5 (a.parts.map fmC)]:=Fm.fold_eq _ a
theorem ze2 (o:Int)(a:Tm)(v:Str)(ps:List Fm):fmC (.mk o a v ps)=[.int .i64 o,.str a.name,.sl 2 (a.args.map tmC),.str v,.sl 5 (ps.map fmC)]:=zaa _
def sqC (s:Sq):List T:=[.sl 5 (s.left.map fmC),.sl 5 (s.right.map fmC)]
theorem ze0 (s:Sq):sqC s=[.sl 5 (s.left.map fmC),.sl 5 (s.right.map fmC)]:=rfl
abbrev tmD (a:Tm):D:=.agg (tmC a)
abbrev fmD (a:Fm):D:=.agg (fmC a)
abbrev sqD (a:Sq):D:=.agg (sqC a)
abbrev tmS (xs:List Tm):T:=.sl 2 (xs.map tmC)
abbrev fmS (xs:List Fm):T:=.sl 5 (xs.map fmC)
abbrev iD (n:Int):D:=.one (.int .i64 n)
abbrev bD (b:Bool):D:=.one (.bool b)
abbrev sD (s:Str):D:=.one (.str s)
theorem zan {α:Type}(f:α->List T)(xs:List α)(k:Nat)(h:k<xs.length):(xs.map f).getD k []=f (xs[k]'h):=by simp[List.getD,h]
def Tm.wt:Tm->Nat:=Tm.fold fun n xs rs=>n.length+xs.length+rs.sum
theorem Tm.wt_eq (a:Tm):a.wt=a.name.length+a.args.length+(a.args.map Tm.wt).sum:=Tm.fold_eq _ a
def Fm.wt:Fm->Nat:=Fm.fold fun _ a v ps rs=>a.wt+v.length+ps.length+rs.sum
theorem Fm.wt_eq (a:Fm):a.wt=a.atom.wt+a.var.length+a.parts.length+(a.parts.map Fm.wt).sum:=Fm.fold_eq _ a
def zrg (xs:List Tm):Nat:=xs.length+(xs.map Tm.wt).sum
def zh8 (xs:List Fm):Nat:=xs.length+(xs.map Fm.wt).sum
def Sq.wt (s:Sq):Nat:=zh8 s.left+zh8 s.right
theorem Sq.wt_eq (a:Sq):a.wt=zh8 a.left+zh8 a.right:=rfl
def szR (w:Nat)(left:Int):Int:=if(w:Int)<=left then left-w else -1
def zre {α:Type}(f:α->Nat)(xs:List α)(k:Nat):Nat:=((xs.take k).map f).sum
theorem zfp {α:Type}(f:α->Nat)(xs:List α):zre f xs 0=0:=by simp[zre]
theorem zm2 {α:Type}(f:α->Nat)(xs:List α)(k:Nat)(h:k<xs.length):zre f xs (k+1)=zre f xs k+f xs[k]:=by
 unfold zre
 rw[Qk h,Q2,List.sum_append];simp
theorem zwf {α:Type}(f:α->Nat)(xs:List α)(k:Nat):zre f xs k<=(xs.map f).sum:=by
 unfold zre
 conv=>rhs;rw[<-Jg k xs,Q2,List.sum_append]
 omega
theorem zpv {α:Type}(f:α->Nat)(xs:List α)(k:Nat)(h:xs.length<=k):zre f xs k=(xs.map f).sum:=by
 unfold zre
 rw[Qv h]
theorem zbz {α:Type}(f:α->Nat)(xs:List α):∀x∈xs,f x<=(xs.map f).sum:=by
 induction xs with
 | nil=>simp
 | cons a xs ih =>
  intro x hx;rcases Qp.1 hx with rfl|hx
  ·simp
  ·have:=ih x hx;simp;omega
noncomputable def same {α:Type}(a b:α):Bool:=@decide (a=b) (Classical.propDecidable _)
theorem zbj {α:Type}{a b:α}:same a b=true↔a=b:=by simp[same]
theorem zb2 {α:Type}{a b:α}:same a b=false↔a≠b:=by simp[same]
theorem zax {α:Type}(a:α):same a a=true:=by simp[same]
theorem zcm {α:Type}(a b:α)(xs ys:List α):same (a::xs) (b::ys)=(same a b&&same xs ys):=by
 rw[Kl,Qe,zbj,zbj,zbj,List.cons.injEq]
theorem zfb {α:Type}:same ([]:List α) []=true:=zax _
theorem zap {k:Nat}(h:k<9223372036854775807):IntKind.i64.wrap ((k:Int)+1)=((k+1:Nat):Int):=qgj h
theorem zf3 {w:Nat}{l:Int}(h0:0<=l)(h:szR w l<0):l<w:=by unfold szR at h;split at h<;>omega
theorem zdx {w:Nat}{l:Int}(h:¬szR w l<0):(w:Int)<=l/\szR w l=l-w:=by
 by_cases hh:(w:Int)<=l
 ·exact⟨hh,if_pos hh⟩
 ·exact absurd (by rw[szR,if_neg hh];omega) h
theorem zdr {w:Nat}{l:Int}(h:l<w):szR w l = -1:=if_neg Yp
theorem zo3 {w:Nat}{l:Int}(h:(w:Int)<=l):szR w l=l-w:=if_pos h
theorem zza {k:IntKind}{a b:Int}(h:a=b):T.int k a=T.int k b:=h▸rfl
theorem zgu (A:List (List T))(n k:Nat)(z ts:List T)(hA:A.length=k)(hk:k<n)(hz:ts.length=z.length):zfv (A++List.replicate (n-k) z) k 0 ts=A++[ts]++List.replicate (n-(k+1)) z:=by
 subst hA
 have e:List.replicate (n-A.length) z=z::List.replicate (n-(A.length+1)) z:=by
  rw[show n-A.length=(n-(A.length+1))+1 by omega];rfl
 unfold zfv
 rw[e]
 simp[qk1 _ _ hz]
end
section
open Go.RowKit
theorem zed.cons {P:Program}{t:TypeId}{ts:List TypeId}{xs:List PD}(h:zed P (t::ts) xs):∃x xs',xs=x::xs'/\zb3 P t x/\zed P ts xs':=by
 cases xs with
 | nil=>rw[zed]at h;cases h
 | cons x xs =>
  rw[zed]at h;obtain⟨t',ts',e,h1,h2⟩:=h;cases e;exact⟨x,xs,rfl,h1,h2⟩
theorem zed.nil {P:Program}{xs:List PD}(h:zed P [] xs):xs=[]:=by
 cases xs with
 | nil=>rfl
 | cons x xs =>
  rw[zed]at h;obtain⟨t',ts',e,_⟩:=h;cases e
theorem zl6 {Q:PD->Prop}(h:∀d,(∀d',SizeOf.sizeOf d'<SizeOf.sizeOf d->Q d')->Q d)(d:PD):Q d:=by
 have:∀n (d:PD),SizeOf.sizeOf d<n->Q d:=by
  intro n;induction n with
  | zero=>intro d hd;omega
  | succ n ih=>intro d hd;exact h d fun d' hd'=>ih d' Yp
 exact this _ d (Nat.lt_succ_self _)
theorem zhh {α:Type}(c:α->List T):∀(xs:List PD),(∀x∈xs,∃a,x.cells=c a)->∃l:List α,PD.rows xs=l.map c
 | [],_=>⟨[],rfl⟩
 | x::xs,h=>by
  obtain⟨a,ha⟩:=h x (by simp);obtain⟨l,hl⟩:=zhh c xs fun y hy=>h y (by simp[hy]);exact⟨a::l,by rw[PD.rows,ha,hl];rfl⟩
theorem qjk:∀d,zb3 Tryz.prog 24 d->∃a:Tm,d.cells=tmC a :=
 zl6 fun d ih h=>by
  obtain⟨fs,rfl,hf⟩:=h.st Tryz.underlying24;have hf:zed Tryz.prog [9,22] fs:=hf;obtain⟨x1,r1,rfl,h1,hf⟩:=hf.cons;obtain⟨x2,r2,rfl,h2,hf⟩:=hf.cons;obtain rfl:=hf.nil;obtain⟨n,rfl⟩:=h1.str Tryz.underlying9;obtain⟨xs,rfl,hx⟩:=h2.sl Tryz.underlying22;obtain⟨l,hl⟩:=zhh tmC xs fun x hx'=>ih x (by have:=List.sizeOf_lt_of_mem hx';simp;omega) (hx x hx')
  exact⟨.mk n l,by
   rw[zab,PD.cells,PD.flat,PD.flat,PD.flat,PD.cells,PD.cells,hl,show Tryz.prog.cellsOf 24=2 from by kernel_rfl];rfl⟩
theorem qbb:∀d,zb3 Tryz.prog 27 d->∃a:Fm,d.cells=fmC a :=
 zl6 fun d ih h=>by
  obtain⟨fs,rfl,hf⟩:=h.st Tryz.underlying27;have hf:zed Tryz.prog [3,24,9,25] fs:=hf;obtain⟨x1,r1,rfl,h1,hf⟩:=hf.cons;obtain⟨x2,r2,rfl,h2,hf⟩:=hf.cons;obtain⟨x3,r3,rfl,h3,hf⟩:=hf.cons;obtain⟨x4,r4,rfl,h4,hf⟩:=hf.cons;obtain rfl:=hf.nil;obtain⟨o,rfl⟩:=h1.int Tryz.underlying3;obtain⟨a,ha⟩:=qjk _ h2;obtain⟨v,rfl⟩:=h3.str Tryz.underlying9;obtain⟨xs,rfl,hx⟩:=h4.sl Tryz.underlying25;obtain⟨l,hl⟩:=zhh fmC xs fun x hx'=>ih x (by have:=List.sizeOf_lt_of_mem hx';simp;omega) (hx x hx')
  exact⟨.mk o a v l,by
   rw[zaa,PD.cells,PD.flat,PD.flat,PD.flat,PD.flat,PD.flat,PD.cells,PD.cells,PD.cells,hl,ha,zab,show Tryz.prog.cellsOf 27=5 from by kernel_rfl];rfl⟩
end
section
open Go.RowKit
theorem qbn (xs:List Tm)(H:∀x∈xs,∀l:Int,0<=l->l<=1048576->FC Tryz.prog 42 [tmD x,iD l] [iD (szR x.wt l)])(l:Int)(h0:0<=l)(h1:l<=1048576) :
  FC Tryz.prog 82 [.one (tmS xs),iD l] [iD (szR (zrg xs) l)]:=by
 refine zd1 (fun hw=>?_) Tryz.call82
 have hl:xs.length<=9223372036854775807:=by simpa[zgs,wfT]using hw.1.1
 refine zad Tryz.call82 Tryz.func82 rfl Yo (zao Yo) ?_
 simp -implicitDefEqProofs only[go_sem,Tryz.results82]
 rw[za6 Yp Yp]
 have hW:zrg xs=xs.length+(xs.map Tm.wt).sum:=rfl
 refine⟨fun h=>?_,fun h=>?_⟩
 ·rw[zdr (by simp at h;omega)]
 ·have hlen:(xs.length:Int)<=l:=by simp at h;omega
  refine zag (fun k:Nat=>hd [(0,vT (tmS xs)),(1,vI (l-xs.length-zre Tm.wt xs k)),(5,vI k)] [] []) (fun k=>k<=xs.length/\0<=l-xs.length-zre Tm.wt xs k) (fun k=>xs.length-k) 0 (zac ?_) ?_ ?_
  ·simp -implicitDefEqProofs only[go_sem];simp[zfp]
  ·simpa[zfp]using hlen
  ·intro k ⟨hk,hp⟩;by_cases hlt:k<xs.length
   ·have hs:=zm2 Tm.wt xs k hlt;have hs2:=zwf Tm.wt xs (k+1);simp -implicitDefEqProofs only[go_sem,Qa,zan,hlt,zab];refine callF (H xs[k] (Qj hlt) (l-xs.length-zre Tm.wt xs k) hp Yp) (by simp -implicitDefEqProofs only[go_sem,zab]) ?_;simp -implicitDefEqProofs only[go_sem,zab];refine⟨fun h=>?_,fun h=>?_⟩
    ·have:=zf3 hp (by simpa using h);rw[zdr Yp]
    ·obtain⟨h2,h3⟩:=zdx (by simpa using h);rw[zap Yp];exact⟨k+1,⟨hlt,Yp⟩,Yp,zac (by simp -implicitDefEqProofs only[go_sem];rw[h3];congr 1;omega)⟩
   ·simp -implicitDefEqProofs only[go_sem,Qa,hlt];have hall:=zpv Tm.wt xs k Yp;rw[hall,zo3 Yp];congr 1;omega
theorem qam (xs:List Tm)(H:∀x∈xs,FC Tryz.prog 46 [tmD x] [tmD x])(hs:xs.length<=1048576) :
  FC Tryz.prog 84 [.one (tmS xs)] [.one (tmS xs)]:=by
 refine zd1 (fun hw=>?_) Tryz.call84
 refine zad Tryz.call84 Tryz.func84 rfl Yo (zao Yo) ?_
 simp -implicitDefEqProofs only[go_sem,Tryz.results84]
 refine ql6 (by simp -implicitDefEqProofs only[go_sem];omega) ?_
 simp -implicitDefEqProofs only[go_sem]
 refine zag (fun k:Nat=>hd [(0,vT (tmS xs)),(3,.one (.ow 224 0)),(4,vI k)] [] [(224,⟨true,2,(xs.take k).map tmC++List.replicate (xs.length-k) [T.str [],T.sl 2 []],0,true⟩)]) (fun k=>k<=xs.length) (fun k=>xs.length-k) 0 (zac ?_) ?_ ?_
 ·simp -implicitDefEqProofs only[go_sem];simp
 ·simp
 ·intro k hk;by_cases hlt:k<xs.length
  ·have hlen:((xs.take k).map tmC++List.replicate (xs.length-k) [T.str [],T.sl 2 []]).length=xs.length:=by simp;omega
   have hlt2:k<k+(xs.length-k):=by omega
   simp -implicitDefEqProofs only[go_sem,Qa,zan,hlt,zab];refine callF (H xs[k] (Qj hlt)) (by simp -implicitDefEqProofs only[go_sem,zab,hlen,hlt,Qu,Qa,Qq,K6,Jq hk,hlt2]) ?_;simp -implicitDefEqProofs only[go_sem,zab,hlen,hlt,Qu,Qa,Qq,K6,Jq hk,hlt2];refine zdq (by simp -implicitDefEqProofs only[go_sem];simp) ?_;simp -implicitDefEqProofs only[go_sem];rw[zap Yp];refine⟨k+1,Yp,Yp,zac ?_⟩;simp -implicitDefEqProofs only[go_sem];have hf:=zgu ((xs.take k).map tmC) xs.length k [T.str [],T.sl 2 []] (tmC xs[k]) (by simp;omega) hlt (by simp[zab]);simp only[zab]at hf;rw[hf,Qk hlt,Q2,Ko];simp only[zab]
  ·simp -implicitDefEqProofs only[go_sem,Qa,hlt];simp[Qv (show xs.length<=k by omega),show xs.length-k=0 by omega]
theorem qa3 (xs ys:List Tm)(H:∀x∈xs,∀y,FC Tryz.prog 49 [tmD x,tmD y] [bD (same x y)]) :
  FC Tryz.prog 85 [.one (tmS xs),.one (tmS ys)] [bD (same xs ys)]:=by
 refine zd1 (fun hw=>?_) Tryz.call85
 have hl:xs.length<=9223372036854775807:=by simpa[zgs,wfT]using hw.1.1
 have hl2:ys.length<=9223372036854775807:=by simpa[zgs,wfT]using hw.2.1.1
 refine zad Tryz.call85 Tryz.func85 rfl Yo (zao Yo) ?_
 simp -implicitDefEqProofs only[go_sem,Tryz.results85]
 refine⟨fun h=>?_,fun h=>?_⟩
 ·rw[zb2.2 (by rintro rfl;simp at h)]
 ·have hlen:xs.length=ys.length:=by simp at h;omega
  refine zag (fun k:Nat=>hd [(0,vT (tmS xs)),(1,vT (tmS ys)),(4,vB false),(5,vI k)] [] []) (fun k=>k<=xs.length/\same xs ys=same (xs.drop k) (ys.drop k)) (fun k=>xs.length-k) 0 (zac ?_) ?_ ?_
  ·simp -implicitDefEqProofs only[go_sem]
  ·simp
  ·intro k ⟨hk,hr⟩;by_cases hlt:k<xs.length
   ·have hk2:k<ys.length:=by omega
    simp -implicitDefEqProofs only[go_sem,Qa,hlt];refine drawn Yo ?_;simp -implicitDefEqProofs only[go_sem,Qa,zan,hlt,hk2,zab];refine zav (H xs[k] (Qj hlt) ys[k]) (by simp -implicitDefEqProofs only[go_sem,zab]) ?_;simp -implicitDefEqProofs only[go_sem,zab];refine⟨Yo,fun h=>?_,fun h=>?_⟩
    ·rw[hr,Qh hlt,Qh hk2,zcm,show same xs[k] ys[k]=false by simpa using h];rfl
    ·rw[Qh hlt,Qh hk2,zcm,show same xs[k] ys[k]=true by simpa using h,Qs]at hr;rw[zap Yp];exact⟨k+1,⟨Yp,hr⟩,Yp,zac Yn⟩
   ·simp -implicitDefEqProofs only[go_sem,Qa,hlt];rw[hr,Qt Yp,Qt Yp,zfb]
theorem qc8 (a:Tm)(H:∀l:Int,0<=l->l<=1048576->FC Tryz.prog 82 [.one (tmS a.args),iD l] [iD (szR (zrg a.args) l)])(l:Int)(h0:0<=l)(h1:l<=1048576) :
  FC Tryz.prog 42 [tmD a,iD l] [iD (szR a.wt l)]:=by
 refine zd1 (fun hw=>?_) Tryz.call42
 simp only[tmD,zab]at hw⊢
 have hW:=a.wt_eq
 have hls:a.name.length<=9223372036854775807/\True:=by simp[zgs,wfT,zsa]at hw;simp[hw]
 refine zad Tryz.call42 Tryz.func42 rfl Yo (zao Yo) ?_
 simp -implicitDefEqProofs only[go_sem,Tryz.results42]
 rw[za6 Yp Yp]
 refine⟨fun h1=>?_,fun h1=>?_⟩
 ·rw[zdr (by simp at h1;have hu0:zrg a.args=a.args.length+(a.args.map Tm.wt).sum:=rfl; omega)]
 have k1:(a.name.length:Int)<=l:=by simp at h1;omega
 refine callF (H (l-(a.name.length:Int)) Yp Yp) (by simp -implicitDefEqProofs only[go_sem,zab]) ?_
 simp -implicitDefEqProofs only[go_sem,zab]
 refine⟨fun h2=>?_,fun h2=>?_⟩
 ·have:=zf3 Yp (show szR (zrg a.args) (l-(a.name.length:Int))<0 by simpa using h2);rw[zdr (by have hu0:zrg a.args=a.args.length+(a.args.map Tm.wt).sum:=rfl; omega)]
 obtain⟨k2,j2⟩:=zdx (show ¬szR (zrg a.args) (l-(a.name.length:Int))<0 by simpa using h2)
 rw[show szR a.wt l=l-a.wt from zo3 (by have hu0:zrg a.args=a.args.length+(a.args.map Tm.wt).sum:=rfl; omega)];exact zza (by have hu0:zrg a.args=a.args.length+(a.args.map Tm.wt).sum:=rfl; omega)
theorem qky (a:Tm)(H:FC Tryz.prog 84 [.one (tmS a.args)] [.one (tmS a.args)])(hs:a.wt<=1048576):FC Tryz.prog 46 [tmD a] [tmD a]:=by
 have hW:=a.wt_eq
 simp only[tmD,zab]
 refine zad Tryz.call46 Tryz.func46 rfl Yo (zao Yo) ?_
 simp -implicitDefEqProofs only[go_sem,Tryz.results46]
 refine callF (H) (by simp -implicitDefEqProofs only[go_sem,zab]) ?_
 simp -implicitDefEqProofs only[go_sem,zab]
theorem qjn (a b:Tm)(H:FC Tryz.prog 85 [.one (tmS a.args),.one (tmS b.args)] [bD (same a.args b.args)]):FC Tryz.prog 49 [tmD a,tmD b] [bD (same a b)]:=by
 simp only[tmD,zab]
 refine zad Tryz.call49 Tryz.func49 rfl Yo (zao Yo) ?_
 simp -implicitDefEqProofs only[go_sem,Tryz.results49]
 refine⟨fun h1=>?_,fun h1=>?_⟩
 ·rw[zb2.2 (by rintro rfl;simp[zax]at h1)]
 refine callF (H) (by simp -implicitDefEqProofs only[go_sem,zab]) ?_
 simp -implicitDefEqProofs only[go_sem,zab]
 refine⟨fun h2=>?_,fun h2=>?_⟩
 ·rw[zb2.2 (by rintro rfl;simp[zax]at h2)]
 rw[zbj.2 (by cases a;cases b;simp[zbj,Tm.name,Tm.args]at h1 h2⊢;simp[h1,h2])]
theorem zya:∀a:Tm,∀l:Int,0<=l->l<=1048576->FC Tryz.prog 42 [tmD a,iD l] [iD (szR a.wt l)] :=
 zb4 fun b0 xs ih l h0 h1=>qc8 (.mk b0 xs) (fun l h0 h1=>qbn xs ih l h0 h1) l h0 h1
theorem zzg:∀a:Tm,a.wt<=1048576->FC Tryz.prog 46 [tmD a] [tmD a]:=by
 refine zb4 fun b0 xs ih hs=>?_
 have hW:=Tm.wt_eq (.mk b0 xs)
 simp only[Tm.name,Tm.args]at hW
 refine qky _ (qam xs (fun x hx=>ih x hx ?_) Yp) hs
 have:=zbz Tm.wt xs x hx
 omega
theorem zxz:∀a b:Tm,FC Tryz.prog 49 [tmD a,tmD b] [bD (same a b)] :=
 zb4 fun b0 xs ih b=>qjn (.mk b0 xs) b (qa3 xs b.args ih)
end
section
open Go.RowKit
theorem zqs (xs:List Fm)(H:∀x∈xs,∀l:Int,0<=l->l<=1048576->FC Tryz.prog 41 [fmD x,iD l] [iD (szR x.wt l)])(l:Int)(h0:0<=l)(h1:l<=1048576) :
  FC Tryz.prog 81 [.one (fmS xs),iD l] [iD (szR (zh8 xs) l)]:=by
 refine zd1 (fun hw=>?_) Tryz.call81
 have hl:xs.length<=9223372036854775807:=by simpa[zgs,wfT]using hw.1.1
 refine zad Tryz.call81 Tryz.func81 rfl Yo (zao Yo) ?_
 simp -implicitDefEqProofs only[go_sem,Tryz.results81]
 rw[za6 Yp Yp]
 have hW:zh8 xs=xs.length+(xs.map Fm.wt).sum:=rfl
 refine⟨fun h=>?_,fun h=>?_⟩
 ·rw[zdr (by simp at h;omega)]
 ·have hlen:(xs.length:Int)<=l:=by simp at h;omega
  refine zag (fun k:Nat=>hd [(0,vT (fmS xs)),(1,vI (l-xs.length-zre Fm.wt xs k)),(5,vI k)] [] []) (fun k=>k<=xs.length/\0<=l-xs.length-zre Fm.wt xs k) (fun k=>xs.length-k) 0 (zac ?_) ?_ ?_
  ·simp -implicitDefEqProofs only[go_sem];simp[zfp]
  ·simpa[zfp]using hlen
  ·intro k ⟨hk,hp⟩;by_cases hlt:k<xs.length
   ·have hs:=zm2 Fm.wt xs k hlt;have hs2:=zwf Fm.wt xs (k+1);simp -implicitDefEqProofs only[go_sem,Qa,zan,hlt,zaa,zab];refine callF (H xs[k] (Qj hlt) (l-xs.length-zre Fm.wt xs k) hp Yp) (by simp -implicitDefEqProofs only[go_sem,zaa,zab]) ?_;simp -implicitDefEqProofs only[go_sem,zaa,zab];refine⟨fun h=>?_,fun h=>?_⟩
    ·have:=zf3 hp (by simpa using h);rw[zdr Yp]
    ·obtain⟨h2,h3⟩:=zdx (by simpa using h);rw[zap Yp];exact⟨k+1,⟨hlt,Yp⟩,Yp,zac (by simp -implicitDefEqProofs only[go_sem];rw[h3];congr 1;omega)⟩
   ·simp -implicitDefEqProofs only[go_sem,Qa,hlt];have hall:=zpv Fm.wt xs k Yp;rw[hall,zo3 Yp];congr 1;omega
theorem zq1 (xs:List Fm)(H:∀x∈xs,FC Tryz.prog 45 [fmD x] [fmD x])(hs:xs.length<=1048576) :
  FC Tryz.prog 83 [.one (fmS xs)] [.one (fmS xs)]:=by
 refine zd1 (fun hw=>?_) Tryz.call83
 refine zad Tryz.call83 Tryz.func83 rfl Yo (zao Yo) ?_
 simp -implicitDefEqProofs only[go_sem,Tryz.results83]
 refine ql6 (by simp -implicitDefEqProofs only[go_sem];omega) ?_
 simp -implicitDefEqProofs only[go_sem]
 refine zag (fun k:Nat=>hd [(0,vT (fmS xs)),(3,.one (.ow 224 0)),(4,vI k)] [] [(224,⟨true,5,(xs.take k).map fmC++List.replicate (xs.length-k) [T.int .i64 0,T.str [],T.sl 2 [],T.str [],T.sl 5 []],0,true⟩)]) (fun k=>k<=xs.length) (fun k=>xs.length-k) 0 (zac ?_) ?_ ?_
 ·simp -implicitDefEqProofs only[go_sem];simp
 ·simp
 ·intro k hk;by_cases hlt:k<xs.length
  ·have hlen:((xs.take k).map fmC++List.replicate (xs.length-k) [T.int .i64 0,T.str [],T.sl 2 [],T.str [],T.sl 5 []]).length=xs.length:=by simp;omega
   have hlt2:k<k+(xs.length-k):=by omega
   simp -implicitDefEqProofs only[go_sem,Qa,zan,hlt,zaa,zab];refine callF (H xs[k] (Qj hlt)) (by simp -implicitDefEqProofs only[go_sem,zaa,zab,hlen,hlt,Qu,Qa,Qq,K6,Jq hk,hlt2]) ?_;simp -implicitDefEqProofs only[go_sem,zaa,zab,hlen,hlt,Qu,Qa,Qq,K6,Jq hk,hlt2];refine zdq (by simp -implicitDefEqProofs only[go_sem];simp) ?_;simp -implicitDefEqProofs only[go_sem];rw[zap Yp];refine⟨k+1,Yp,Yp,zac ?_⟩;simp -implicitDefEqProofs only[go_sem];have hf:=zgu ((xs.take k).map fmC) xs.length k [T.int .i64 0,T.str [],T.sl 2 [],T.str [],T.sl 5 []] (fmC xs[k]) (by simp;omega) hlt (by simp[zaa,zab]);simp only[zaa,zab]at hf;rw[hf,Qk hlt,Q2,Ko];simp only[zaa,zab]
  ·simp -implicitDefEqProofs only[go_sem,Qa,hlt];simp[Qv (show xs.length<=k by omega),show xs.length-k=0 by omega]
theorem zix (xs ys:List Fm)(H:∀x∈xs,∀y,FC Tryz.prog 48 [fmD x,fmD y] [bD (same x y)]) :
  FC Tryz.prog 62 [.one (fmS xs),.one (fmS ys)] [bD (same xs ys)]:=by
 refine zd1 (fun hw=>?_) Tryz.call62
 have hl:xs.length<=9223372036854775807:=by simpa[zgs,wfT]using hw.1.1
 have hl2:ys.length<=9223372036854775807:=by simpa[zgs,wfT]using hw.2.1.1
 refine zad Tryz.call62 Tryz.func62 rfl Yo (zao Yo) ?_
 simp -implicitDefEqProofs only[go_sem,Tryz.results62]
 refine⟨fun h=>?_,fun h=>?_⟩
 ·rw[zb2.2 (by rintro rfl;simp at h)]
 ·have hlen:xs.length=ys.length:=by simp at h;omega
  refine zag (fun k:Nat=>hd [(0,vT (fmS xs)),(1,vT (fmS ys)),(4,vB false),(5,vI k)] [] []) (fun k=>k<=xs.length/\same xs ys=same (xs.drop k) (ys.drop k)) (fun k=>xs.length-k) 0 (zac ?_) ?_ ?_
  ·simp -implicitDefEqProofs only[go_sem]
  ·simp
  ·intro k ⟨hk,hr⟩;by_cases hlt:k<xs.length
   ·have hk2:k<ys.length:=by omega
    simp -implicitDefEqProofs only[go_sem,Qa,hlt];refine drawn Yo ?_;simp -implicitDefEqProofs only[go_sem,Qa,zan,hlt,hk2,zaa,zab];refine zav (H xs[k] (Qj hlt) ys[k]) (by simp -implicitDefEqProofs only[go_sem,zaa,zab]) ?_;simp -implicitDefEqProofs only[go_sem,zaa,zab];refine⟨Yo,fun h=>?_,fun h=>?_⟩
    ·rw[hr,Qh hlt,Qh hk2,zcm,show same xs[k] ys[k]=false by simpa using h];rfl
    ·rw[Qh hlt,Qh hk2,zcm,show same xs[k] ys[k]=true by simpa using h,Qs]at hr;rw[zap Yp];exact⟨k+1,⟨Yp,hr⟩,Yp,zac Yn⟩
   ·simp -implicitDefEqProofs only[go_sem,Qa,hlt];rw[hr,Qt Yp,Qt Yp,zfb]
theorem zui (a:Fm)(H:∀l:Int,0<=l->l<=1048576->FC Tryz.prog 81 [.one (fmS a.parts),iD l] [iD (szR (zh8 a.parts) l)])(l:Int)(h0:0<=l)(h1:l<=1048576) :
  FC Tryz.prog 41 [fmD a,iD l] [iD (szR a.wt l)]:=by
 refine zd1 (fun hw=>?_) Tryz.call41
 simp only[fmD,zaa,zab]at hw⊢
 have hW:=a.wt_eq
 have hls:a.var.length<=9223372036854775807/\True:=by simp[zgs,wfT,zsa]at hw;simp[hw]
 refine zad Tryz.call41 Tryz.func41 rfl Yo (zao Yo) ?_
 simp -implicitDefEqProofs only[go_sem,Tryz.results41]
 refine callF (zya a.atom l Yp Yp) (by simp -implicitDefEqProofs only[go_sem,zaa,zab,zab]) ?_
 simp -implicitDefEqProofs only[go_sem,zaa,zab,zab]
 refine⟨fun h1=>?_,fun h1=>?_⟩
 ·have:=zf3 Yp (show szR a.atom.wt l<0 by simpa using h1);rw[zdr (by have hu0:zh8 a.parts=a.parts.length+(a.parts.map Fm.wt).sum:=rfl; omega)]
 obtain⟨k1,j1⟩:=zdx (show ¬szR a.atom.wt l<0 by simpa using h1)
 rw[za6 Yp Yp]
 refine⟨fun h2=>?_,fun h2=>?_⟩
 ·rw[zdr (by simp at h2;have hu0:zh8 a.parts=a.parts.length+(a.parts.map Fm.wt).sum:=rfl; omega)]
 have k2:(a.var.length:Int)<=(szR a.atom.wt l):=by simp at h2;omega
 refine callF (H ((szR a.atom.wt l)-(a.var.length:Int)) Yp Yp) (by simp -implicitDefEqProofs only[go_sem,zaa,zab]) ?_
 simp -implicitDefEqProofs only[go_sem,zaa,zab]
 refine⟨fun h3=>?_,fun h3=>?_⟩
 ·have:=zf3 Yp (show szR (zh8 a.parts) ((szR a.atom.wt l)-(a.var.length:Int))<0 by simpa using h3);rw[zdr (by have hu0:zh8 a.parts=a.parts.length+(a.parts.map Fm.wt).sum:=rfl; omega)]
 obtain⟨k3,j3⟩:=zdx (show ¬szR (zh8 a.parts) ((szR a.atom.wt l)-(a.var.length:Int))<0 by simpa using h3)
 rw[show szR a.wt l=l-a.wt from zo3 (by have hu0:zh8 a.parts=a.parts.length+(a.parts.map Fm.wt).sum:=rfl; omega)];exact zza (by have hu0:zh8 a.parts=a.parts.length+(a.parts.map Fm.wt).sum:=rfl; omega)
theorem ztt (a:Fm)(H:FC Tryz.prog 83 [.one (fmS a.parts)] [.one (fmS a.parts)])(hs:a.wt<=1048576):FC Tryz.prog 45 [fmD a] [fmD a]:=by
 have hW:=a.wt_eq
 simp only[fmD,zaa,zab]
 refine zad Tryz.call45 Tryz.func45 rfl Yo (zao Yo) ?_
 simp -implicitDefEqProofs only[go_sem,Tryz.results45]
 refine callF (zzg a.atom (by have hu0:zh8 a.parts=a.parts.length+(a.parts.map Fm.wt).sum:=rfl; omega)) (by simp -implicitDefEqProofs only[go_sem,zaa,zab,zab]) ?_
 simp -implicitDefEqProofs only[go_sem,zaa,zab,zab]
 refine callF (H) (by simp -implicitDefEqProofs only[go_sem,zaa,zab]) ?_
 simp -implicitDefEqProofs only[go_sem,zaa,zab]
theorem zs3 (a b:Fm)(H:FC Tryz.prog 62 [.one (fmS a.parts),.one (fmS b.parts)] [bD (same a.parts b.parts)]):FC Tryz.prog 48 [fmD a,fmD b] [bD (same a b)]:=by
 simp only[fmD,zaa,zab]
 refine zad Tryz.call48 Tryz.func48 rfl Yo (zao Yo) ?_
 simp -implicitDefEqProofs only[go_sem,Tryz.results48]
 refine⟨fun h1=>?_,fun h1=>?_⟩
 ·rw[zb2.2 (by rintro rfl;simp[zax]at h1)]
 refine callF (zxz a.atom b.atom) (by simp -implicitDefEqProofs only[go_sem,zaa,zab,zab]) ?_
 simp -implicitDefEqProofs only[go_sem,zaa,zab,zab]
 refine⟨fun h2=>?_,fun h2=>?_⟩
 ·rw[zb2.2 (by rintro rfl;simp[zax]at h2)]
 refine⟨fun h3=>?_,fun h3=>?_⟩
 ·rw[zb2.2 (by rintro rfl;simp[zax]at h3)]
 refine callF (H) (by simp -implicitDefEqProofs only[go_sem,zaa,zab]) ?_
 simp -implicitDefEqProofs only[go_sem,zaa,zab]
 refine⟨fun h4=>?_,fun h4=>?_⟩
 ·rw[zb2.2 (by rintro rfl;simp[zax]at h4)]
 rw[zbj.2 (by cases a;cases b;simp[zbj,Fm.op,Fm.atom,Fm.var,Fm.parts]at h1 h2 h3 h4⊢;simp[h1,h2,h3,h4])]
theorem zvh:∀a:Fm,∀l:Int,0<=l->l<=1048576->FC Tryz.prog 41 [fmD a,iD l] [iD (szR a.wt l)] :=
 zcn fun b0 b1 b2 xs ih l h0 h1=>zui (.mk b0 b1 b2 xs) (fun l h0 h1=>zqs xs ih l h0 h1) l h0 h1
theorem zu1:∀a:Fm,a.wt<=1048576->FC Tryz.prog 45 [fmD a] [fmD a]:=by
 refine zcn fun b0 b1 b2 xs ih hs=>?_
 have hW:=Fm.wt_eq (.mk b0 b1 b2 xs)
 simp only[Fm.op,Fm.atom,Fm.var,Fm.parts]at hW
 refine ztt _ (zq1 xs (fun x hx=>ih x hx ?_) Yp) hs
 have:=zbz Fm.wt xs x hx
 omega
theorem zhz:∀a b:Fm,FC Tryz.prog 48 [fmD a,fmD b] [bD (same a b)] :=
 zcn fun b0 b1 b2 xs ih b=>zs3 (.mk b0 b1 b2 xs) b (zix xs b.parts ih)
theorem zkg (xs ys:List Fm):FC Tryz.prog 62 [.one (fmS xs),.one (fmS ys)] [bD (same xs ys)]:=zix xs ys fun x _=>zhz x
theorem zua (a b:Sq):FC Tryz.prog 26 [sqD a,sqD b] [bD (same a b)]:=by
 simp only[sqD,ze0]
 refine zad Tryz.call26 Tryz.func26 rfl Yo (zao Yo) ?_
 simp -implicitDefEqProofs only[go_sem,Tryz.results26]
 refine callF (zkg a.left b.left) (by simp -implicitDefEqProofs only[go_sem,ze0]) ?_
 simp -implicitDefEqProofs only[go_sem,ze0]
 refine⟨fun h1=>?_,fun h1=>?_⟩
 ·rw[zb2.2 (by rintro rfl;simp[zax]at h1)]
 refine callF (zkg a.right b.right) (by simp -implicitDefEqProofs only[go_sem,ze0]) ?_
 simp -implicitDefEqProofs only[go_sem,ze0]
 refine⟨fun h2=>?_,fun h2=>?_⟩
 ·rw[zb2.2 (by rintro rfl;simp[zax]at h2)]
 rw[zbj.2 (by cases a;cases b;simp[zbj,Sq.left,Sq.right]at h1 h2⊢;simp[h1,h2])]
theorem zxa (a b:Sq):FC Tryz.prog 26 [sqD a,sqD b] [bD (same a b)]:=zua a b
end
section
open Go.RowKit
inductive Nt where
 | mk (rule:Int) (form:Fm) (label:Int) (term:Tm) (parts:List Nt)
def Nt.rule:Nt->Int|.mk a _ _ _ _=>a
def Nt.form:Nt->Fm|.mk _ a _ _ _=>a
def Nt.label:Nt->Int|.mk _ _ a _ _=>a
def Nt.term:Nt->Tm|.mk _ _ _ a _=>a
def Nt.parts:Nt->List Nt|.mk _ _ _ _ a=>a
theorem Nt.eta:∀a:Nt,Nt.mk a.rule a.form a.label a.term a.parts=a|.mk _ _ _ _ _=>rfl
mutual
theorem zda {P:Nt->Prop}(h:∀r f l t ps,(∀x∈ps,P x)->P (.mk r f l t ps)):∀e,P e
 | .mk r f l t ps=>h r f l t ps (qfj h ps)
theorem qfj {P:Nt->Prop}(h:∀r f l t ps,(∀x∈ps,P x)->P (.mk r f l t ps)):∀xs:List Nt,∀x∈xs,P x
 | [],x,hx=>absurd hx (by simp)
 | a::xs,x,hx=>(Qp.1 hx).elim (fun e=>e▸zda h a) (qfj h xs x)
end
mutual
def Nt.fold {α:Type}(g:Int->Fm->Int->Tm->List Nt->List α->α):Nt->α
 | .mk r f l t ps=>g r f l t ps (Nt.folds g ps)
def Nt.folds {α:Type}(g:Int->Fm->Int->Tm->List Nt->List α->α):List Nt->List α
 | []=>[]
 | a::xs=>Nt.fold g a::Nt.folds g xs
end
theorem Nt.folds_map {α:Type}(g:Int->Fm->Int->Tm->List Nt->List α->α)(xs:List Nt):Nt.folds g xs=xs.map (Nt.fold g):=by
 induction xs with
 | nil=>rfl
 | cons a xs ih=>rw[Nt.folds,ih];rfl
theorem Nt.fold_eq {α:Type}(g:Int->Fm->Int->Tm->List Nt->List α->α)(a:Nt):Nt.fold g a=g a.rule a.form a.label a.term a.parts (a.parts.map (Nt.fold g)):=by
 cases a;rw[Nt.fold,Nt.folds_map];rfl
def ntC:Nt->List T:=Nt.fold fun r f l t _ rs=>[.int .i64 r,.int .i64 f.op,.str f.atom.name,.sl 2 (f.atom.args.map tmC),.str f.var,.sl 5 (f.parts.map fmC),.int .i64 l,.str t.name,.sl 2 (t.args.map tmC),.sl 10 rs]
theorem zaj (a:Nt):ntC a=[.int .i64 a.rule,.int .i64 a.form.op,.str a.form.atom.name,.sl 2 (a.form.atom.args.map tmC),.str a.form.var,.sl 5 (a.form.parts.map fmC),.int .i64 a.label,.str a.term.name,.sl 2 (a.term.args.map tmC),.sl 10 (a.parts.map ntC)]:=Nt.fold_eq _ a
theorem zbe (r:Int)(f:Fm)(l:Int)(t:Tm)(ps:List Nt):ntC (.mk r f l t ps)=[.int .i64 r,.int .i64 f.op,.str f.atom.name,.sl 2 (f.atom.args.map tmC),.str f.var,.sl 5 (f.parts.map fmC),.int .i64 l,.str t.name,.sl 2 (t.args.map tmC),.sl 10 (ps.map ntC)]:=zaj _
abbrev ntD (a:Nt):D:=.agg (ntC a)
abbrev ntS (xs:List Nt):T:=.sl 10 (xs.map ntC)
def Nt.wt:Nt->Nat:=Nt.fold fun _ f _ t ps rs=>f.wt+t.wt+(ps.length+rs.sum)
theorem Nt.wt_eq (a:Nt):a.wt=a.form.wt+a.term.wt+(a.parts.length+(a.parts.map Nt.wt).sum):=Nt.fold_eq _ a
def zus (xs:List Nt):Nat:=xs.length+(xs.map Nt.wt).sum
structure An where
 label:Int
 form:Fm
def anC (a:An):List T:=[.int .i64 a.label,.int .i64 a.form.op,.str a.form.atom.name,.sl 2 (a.form.atom.args.map tmC),.str a.form.var,.sl 5 (a.form.parts.map fmC)]
theorem zcb (a:An):anC a=[.int .i64 a.label,.int .i64 a.form.op,.str a.form.atom.name,.sl 2 (a.form.atom.args.map tmC),.str a.form.var,.sl 5 (a.form.parts.map fmC)]:=rfl
abbrev anD (a:An):D:=.agg (anC a)
abbrev anS (xs:List An):T:=.sl 6 (xs.map anC)
def An.wt (a:An):Nat:=a.form.wt
theorem An.wt_eq (a:An):a.wt=a.form.wt:=rfl
def qtb (xs:List An):Nat:=xs.length+(xs.map An.wt).sum
end
section
open Go.RowKit
theorem zft:∀d,zb3 Tryz.prog 30 d->∃a:Nt,d.cells=ntC a :=
 zl6 fun d ih h=>by
  obtain⟨fs,rfl,hf⟩:=h.st Tryz.underlying30;have hf:zed Tryz.prog [3,27,3,24,28] fs:=hf;obtain⟨x1,r1,rfl,h1,hf⟩:=hf.cons;obtain⟨x2,r2,rfl,h2,hf⟩:=hf.cons;obtain⟨x3,r3,rfl,h3,hf⟩:=hf.cons;obtain⟨x4,r4,rfl,h4,hf⟩:=hf.cons;obtain⟨x5,r5,rfl,h5,hf⟩:=hf.cons;obtain rfl:=hf.nil;obtain⟨r,rfl⟩:=h1.int Tryz.underlying3;obtain⟨f,hfm⟩:=qbb _ h2;obtain⟨m,rfl⟩:=h3.int Tryz.underlying3;obtain⟨t,ht⟩:=qjk _ h4;obtain⟨xs,rfl,hx⟩:=h5.sl Tryz.underlying28;obtain⟨l,hl⟩:=zhh ntC xs fun x hx'=>ih x (by have:=List.sizeOf_lt_of_mem hx';simp;omega) (hx x hx')
  exact⟨.mk r f m t l,by
   rw[zaj,PD.cells,PD.flat,PD.flat,PD.flat,PD.flat,PD.flat,PD.flat,PD.cells,PD.cells,PD.cells,hl,ht,hfm,zab,zaa,show Tryz.prog.cellsOf 30=10 from by kernel_rfl];rfl⟩
end
section
open Go.RowKit
variable {P:Program}
inductive AF
 | d (b:Bool) (x:D)
 | p (j:Nat)
 | fn (g:FuncId) (js:List Nat)
def AF.ds:List AF->List (Bool×D)
 | []=>[]
 | .d b x::l=>(b,x)::AF.ds l
 | .p _::l=>AF.ds l
 | .fn _ _::l=>AF.ds l
def qly (b:Nat):Value:=.pointer (some ⟨b,0,none⟩)
def AF.vals (bs:Nat->Nat):List AF->List Value->List Value
 | [],_=>[]
 | .d _ _::l,v::vs=>v::AF.vals bs l vs
 | .d _ _::_,[]=>[]
 | .p j::l,vs=>qly (bs j)::AF.vals bs l vs
 | .fn g js::l,vs=>.func (.func g) #[] ⟨js.map fun j=>qly (bs j)⟩::AF.vals bs l vs
def AF.okJ (n:Nat):List AF->Bool
 | []=>true
 | .d _ _::l=>AF.okJ n l
 | .p j::l=>decide (j<n)&&AF.okJ n l
 | .fn _ js::l=>js.all (fun j=>decide (j<n))&&AF.okJ n l
abbrev Bxs:=List (List (Bool×T))
def qct (w:World)(bs:Nat->Nat):Nat->List (List Value)->Bxs->Prop
 | _,[],[]=>True
 | j,vs::bvs,b::bx=>vs.length=b.length/\(∃ty,w.heap[bs j]?=some (.cells ⟨vs⟩ ty (0,0)))/\qct w bs (j+1) bvs bx
 | _,_,_=>False
theorem qct.lt {w:World}{bs:Nat->Nat}:∀{j:Nat}{bvs:List (List Value)}{bx:Bxs},qct w bs j bvs bx->∀i,i<bx.length->bs (j+i)<w.heap.size
 | _,[],[],_,i,hi=>by simp at hi
 | j,_::_,_::_,h,0,hi=>by obtain⟨ty,h⟩:=h.2.1;exact(Array.getElem?_eq_some_iff.1 h).1
 | j,_::_,_::_,h,i+1,hi=>by rw[show j+(i+1)=j+1+i by omega];exact qct.lt h.2.2 i (by simpa using hi)
 | _,[],_::_,h,_,_=>h.elim
 | _,_::_,[],h,_,_=>h.elim
def PC (P:Program)(f:FuncId)(bx:Bxs)(l:List AF)(bx':Bxs)(res:List (Bool×D)):Prop:=zbb P f/\bx'.length=bx.length/\∀(w:World)(bs:Nat->Nat)(bvs:List (List Value))(dvs:List Value)(fp tp:List Nat)(A:Nat->Prop),
 (∀i j,i<bx.length->j<bx.length->bs i=bs j->i=j)->(∀j,j<bx.length->bs j∉fp)->qct w bs 0 bvs bx →
 za3 w (fun k=>(k<w.heap.size/\k∉fp/\∀j,j<bx.length->k≠bs j)/\A k) (AF.ds l++bxA bx.flatten) (dvs++bvs.flatten) fp tp->fp.Nodup->dvs.length=(AF.ds l).length →
 Calls P f ⟨AF.vals bs l dvs⟩ w fun e w'=>∃us bvs' fp' tp',e=.returned (zci us)/\qct w' bs 0 bvs' bx'/\us.length=res.length ∧
  za3 w' (fun k=>(k<w'.heap.size/\k∉fp'/\∀j,j<bx.length->k≠bs j)/\(A k\/w.heap.size<=k\/k∈fp)) (res++bxA bx'.flatten) (us++bvs'.flatten) fp' tp'/\fp'.Nodup/\(∀b∈fp',b∈fp\/w.heap.size<=b) ∧
  Bk (fun k=>k<w.heap.size/\k∉fp/\∀j,j<bx.length->k≠bs j) w w'
def c1P (k:Nat):Bool×T->C
 | (true,t)=>owC k 0 t
 | (false,t)=>t.toN
def zxx:Nat->List (Bool×T)->List C
 | _,[]=>[]
 | k,p::ps=>c1P k p::zxx (k+1) ps
def zm4:Nat->Nat->Bxs->Nat->Option (List C)
 | _,_,[]=>fun _=>none
 | j,k,b::bs=>upd (zm4 (j+1) (k+b.length) bs) (1000000+j) (some (zxx k b))
def zd3:Nat->Nat->List AF->Nat->V
 | _,_,[]=>fun _=>.one .any
 | i,k,.d b x::l=>upd (zd3 (i+1) (k+1) l) i (gVN k (b,x))
 | i,k,.p j::l=>upd (zd3 (i+1) k l) i (.one (.bx (1000000+j) 0))
 | i,k,.fn g js::l=>upd (zd3 (i+1) k l) i (.one (.fn g (js.map (1000000+·))))
def zks:Nat->Bxs->(Nat->V)->Nat->V
 | _,[],f=>f
 | j,_::bs,f=>upd (zks (j+1) bs f) (1000000+j) (.one (.bx (1000000+j) 0))
def zjj (l:List AF)(bx:Bxs):St:=⟨zks 0 bx (zd3 0 0 l),zm4 0 (AF.ds l).length bx,zh2 0 (AF.ds l++bxA bx.flatten)⟩
theorem qui (k:Nat)(p:Bool×T):gVN k (p.1,.one p.2)=.one (c1P k p):=by obtain⟨b,t⟩:=p;cases b<;>rfl
theorem zst:∀(bx:Bxs)(j:Nat)(f:Nat->V)(i:Nat),((∃q,q<bx.length/\i=1000000+(j+q))/\zks j bx f i=.one (.bx i 0))\/((∀q,q<bx.length->i≠1000000+(j+q))/\zks j bx f i=f i)
 | [],j,f,i=>Or.inr ⟨fun q hq=>by simp at hq,rfl⟩
 | b::bx,j,f,i=>by
  by_cases hi:i=1000000+j
  ·subst hi;exact Or.inl ⟨⟨0,by simp,rfl⟩,by unfold zks;rw[zae]⟩
  ·unfold zks;rw[zak _ _ hi];rcases zst bx (j+1) f i with⟨⟨q,h1,h2⟩,h3⟩|⟨h1,h2⟩
   ·exact Or.inl ⟨⟨q+1,by simp;omega,Yp⟩,h3⟩
   ·refine Or.inr ⟨fun q hq=>?_,h2⟩;cases q with
    | zero=>exact hi
    | succ q=>have:=h1 q (by simpa using hq);omega
theorem zub:∀(bx:Bxs)(j k b:Nat),zm4 j k bx b≠none↔∃q,q<bx.length/\b=1000000+(j+q)
 | [],j,k,b=>⟨fun h=>absurd rfl h,fun⟨q,hq,_⟩=>by simp at hq⟩
 | c::bx,j,k,b=>by
  unfold zm4;by_cases hi:b=1000000+j
  ·subst hi;rw[zae];exact⟨fun _=>⟨0,by simp,rfl⟩,fun _=>by simp⟩
  ·rw[zak _ _ hi,zub bx (j+1) _ b];refine⟨fun⟨q,h1,h2⟩=>⟨q+1,by simp;omega,Yp⟩,fun⟨q,h1,h2⟩=>?_⟩;cases q with
   | zero=>exact absurd h2 hi
   | succ q=>exact⟨q,by simpa using h1,Yp⟩
theorem znx {σ:St}{g:Gh}{w:World}:∀{b:List (Bool×T)}{vs:List Value}{k:Nat},vs.length=b.length->(∀i p v,b[i]?=some p->vs[i]?=some v->CR σ g w (c1P (k+i) p) v)->CRs σ g w (zxx k b) vs
 | [],vs,_,hl,_=>Kr.1 hl
 | p::b,[],_,hl,_=>by simp at hl
 | p::b,v::vs,k,hl,h=>⟨v,vs,rfl,by simpa using h 0 p v rfl rfl,znx (by simpa using hl) fun i q u h1 h2=>by
   have:=h (i+1) q u (by simpa using h1) (by simpa using h2);rw[show k+(i+1)=k+1+i by omega]at this
   exact this⟩
theorem zs2 {σ:St}{g:Gh}{w:World}{bs:Nat->Nat}:∀(bx:Bxs)(bvs:List (List Value))(j k:Nat),qct w bs j bvs bx->(∀i p v,bx.flatten[i]?=some p->bvs.flatten[i]?=some v->CR σ g w (c1P (k+i) p) v) →
  ∀b cs,zm4 j k bx b=some cs->∃q vs ty,q<bx.length/\b=1000000+(j+q)/\w.heap[bs (j+q)]?=some (.cells ⟨vs⟩ ty (0,0))/\CRs σ g w cs vs
 | [],_,_,_,_,_,b,cs,h=>by cases h
 | c::bx,[],_,_,h0,_,_,_,_=>h0.elim
 | c::bx,vs::bvs,j,k,h0,hc,b,cs,h=>by
  obtain⟨h1,⟨ty,h2⟩,h3⟩:=h0;unfold zm4 at h;by_cases hi:b=1000000+j
  ·subst hi;rw[zae]at h;cases h;refine⟨0,vs,ty,by simp,rfl,h2,znx h1 fun i p v e1 e2=>hc i p v ?_ ?_⟩
   ·rw[Kc,List.getElem?_append_left (List.getElem?_eq_some_iff.1 e1).1];exact e1
   ·rw[Kc,List.getElem?_append_left (List.getElem?_eq_some_iff.1 e2).1];exact e2
  ·rw[zak _ _ hi]at h
   obtain⟨q,vs',ty',k1,k2,k3,k4⟩:=zs2 bx bvs (j+1) (k+c.length) h3 (fun i p v e1 e2=>by
    have:=hc (c.length+i) p v (by rw[Kc,List.getElem?_append_right Yp,show c.length+i-c.length=i by omega];exact e1) (by rw[Kc,List.getElem?_append_right Yp,show c.length+i-vs.length=i by omega];exact e2);rw[show k+(c.length+i)=k+c.length+i by omega]at this
    exact this) b cs h
   exact⟨q+1,vs',ty',by simp;omega,Yp,by rw[show j+(q+1)=j+1+q by omega];exact k3,k4⟩
theorem zhl:∀(l:List AF)(i0 k i:Nat),l.length<=i->zd3 i0 k l (i0+i)=.one .any
 | [],_,_,_,_=>rfl
 | a::l,i0,k,0,h=>by simp at h
 | .d b x::l,i0,k,i+1,h=>by unfold zd3;rw[zak _ _ Yp,show i0+(i+1)=i0+1+i by omega];exact zhl l _ _ i (by simpa using h)
 | .p j::l,i0,k,i+1,h=>by unfold zd3;rw[zak _ _ Yp,show i0+(i+1)=i0+1+i by omega];exact zhl l _ _ i (by simpa using h)
 | .fn g js::l,i0,k,i+1,h=>by unfold zd3;rw[zak _ _ Yp,show i0+(i+1)=i0+1+i by omega];exact zhl l _ _ i (by simpa using h)
theorem zil {σ:St}{g:Gh}{w:World}{bs:Nat->Nat}{n:Nat}(hb:∀j,j<n->σ.bx (1000000+j)≠none/\g.β (1000000+j)=bs j):∀(l:List AF)(i0 k:Nat)(dvs:List Value),AF.okJ n l=true->dvs.length=(AF.ds l).length->(∀i d v,(AF.ds l)[i]?=some d->dvs[i]?=some v->VR σ g w (gVN (k+i) d) v) →
  ∀i,i<l.length->∃v,(AF.vals bs l dvs)[i]?=some v/\VR σ g w (zd3 i0 k l (i0+i)) v
 | [],_,_,_,_,_,_,i,hi=>by simp at hi
 | .d b x::l,i0,k,[],_,hl,_,i,hi=>by simp[AF.ds]at hl
 | .d b x::l,i0,k,v::dvs,ho,hl,h,i,hi=>by
  cases i with
  | zero=>exact⟨v,rfl,by unfold zd3;show VR σ g w (upd _ i0 _ i0) v;rw[zae];simpa using h 0 (b,x) v rfl rfl⟩
  | succ i =>
   obtain⟨u,k1,k2⟩:=zil hb l (i0+1) (k+1) dvs ho (by simpa[AF.ds]using hl) (fun i d v h1 h2=>by
    have:=h (i+1) d v (by simpa[AF.ds]using h1) (by simpa using h2);rw[show k+(i+1)=k+1+i by omega]at this
    exact this) i (by simpa using hi)
   exact⟨u,by unfold AF.vals;simpa using k1,by unfold zd3;rw[zak _ _ Yp,show i0+(i+1)=i0+1+i by omega];exact k2⟩
 | .p j::l,i0,k,dvs,ho,hl,h,i,hi=>by
  unfold AF.okJ at ho;rw[Qe,Kb]at ho;cases i with
  | zero=>exact⟨_,rfl,by unfold zd3;show VR σ g w (upd _ i0 _ i0) _;rw[zae];exact⟨by rw[(hb j ho.1).2];rfl,(hb j ho.1).1⟩⟩
  | succ i =>
   obtain⟨u,k1,k2⟩:=zil hb l (i0+1) k dvs ho.2 hl h i (by simpa using hi);exact⟨u,by unfold AF.vals;simpa using k1,by unfold zd3;rw[zak _ _ Yp,show i0+(i+1)=i0+1+i by omega];exact k2⟩
 | .fn f js::l,i0,k,dvs,ho,hl,h,i,hi=>by
  unfold AF.okJ at ho;rw[Qe,Qx]at ho;cases i with
  | zero =>
   refine⟨_,rfl,?_⟩;unfold zd3;show VR σ g w (upd _ i0 _ i0) _
   rw[zae];refine⟨?_,fun b hb'=>?_⟩
   ·rw[K2]
    congr 2
    refine K0 fun j hj=>?_;show qly (bs j)=.pointer (some ⟨g.β (1000000+j),0,none⟩)
    rw[(hb j (by simpa using ho.1 j hj)).2];rfl
   ·obtain⟨j,hj,rfl⟩:=Ka.1 hb';exact(hb j (by simpa using ho.1 j hj)).1
  | succ i =>
   obtain⟨u,k1,k2⟩:=zil hb l (i0+1) k dvs ho.2 hl h i (by simpa using hi);exact⟨u,by unfold AF.vals;simpa using k1,by unfold zd3;rw[zak _ _ Yp,show i0+(i+1)=i0+1+i by omega];exact k2⟩
theorem AF.vals_len (bs:Nat->Nat):∀(l:List AF)(dvs:List Value),dvs.length=(AF.ds l).length->(AF.vals bs l dvs).length=l.length
 | [],_,_=>rfl
 | .d _ _::l,[],h=>by simp[AF.ds]at h
 | .d _ _::l,v::vs,h=>by simp[AF.vals,AF.vals_len bs l vs (by simpa[AF.ds]using h)]
 | .p _::l,vs,h=>by simp[AF.vals,AF.vals_len bs l vs h]
 | .fn _ _::l,vs,h=>by simp[AF.vals,AF.vals_len bs l vs h]
def T.fs:T->Bool
 | .sl _ _=>true
 | t=>t.flat
def gFS:List (Bool×D)->Bool
 | []=>true
 | (false,_)::ds=>gFS ds
 | (true,.one t)::ds=>t.fs&&gFS ds
 | (true,.agg ts)::ds=>ts.all T.fs&&gFS ds
theorem zx2:∀{ds:List (Bool×D)},gFS ds=true->∀(i:Nat) d,ds[i]?=some (true,d)->match d with|.one t=>t.fs=true|.agg ts=>ts.all T.fs=true
 | [],_,i,d,h=>by simp at h
 | (false,x)::ds,hg,0,d,h=>by simp at h
 | (false,x)::ds,hg,i+1,d,h=>zx2 (ds:=ds) hg i d (by simpa using h)
 | (true,.one t)::ds,hg,0,d,h=>by
  simp only[List.getElem?_cons_zero,Qc,Qn,true_and]at h;subst h;exact((Qe _ _).mp hg).1
 | (true,.agg t)::ds,hg,0,d,h=>by
  simp only[List.getElem?_cons_zero,Qc,Qn,true_and]at h;subst h;exact((Qe _ _).mp hg).1
 | (true,.one t)::ds,hg,i+1,d,h=>zx2 (ds:=ds) ((Qe _ _).mp hg).2 i d (by simpa using h)
 | (true,.agg t)::ds,hg,i+1,d,h=>zx2 (ds:=ds) ((Qe _ _).mp hg).2 i d (by simpa using h)
theorem zy1 {σ σ':St}{g g':Gh}{w:World}(he:σ'.ev=σ.ev)(hψ:g'.ψ=g.ψ){k j:Nat}{t:T}{v:Value}(ht:t.fs=true)(h:CR σ g w (owC k j t) v):CR σ' g' w (owC k j t) v:=by
 cases t
 case sl=>exact⟨by rw[hψ];exact h.1,by obtain⟨x,h1,h2⟩:=h.2;exact⟨x,by rw[he];exact h1,h2⟩⟩
 all_goals exact zcx (A:=Fix σ g w) (w:=w) ht h
theorem zt6 {σ σ':St}{g g':Gh}{w:World}(he:σ'.ev=σ.ev)(hψ:g'.ψ=g.ψ){k:Nat}:∀{ts:List T}{j:Nat}{vs:List Value},ts.all T.fs=true->CRs σ g w (zp7 k j ts) vs->CRs σ' g' w (zp7 k j ts) vs
 | [],_,_,_,h=>h
 | t::ts,j,vs,ht,h=>by
  rw[Kq,Qe]at ht;obtain⟨v,vs',rfl,h1,h2⟩:=h;exact⟨v,vs',rfl,zy1 he hψ ht.1 h1,zt6 he hψ ht.2 h2⟩
theorem zpb (d:Nat):∀(ts:List T)(j:Nat)(f:Nat->Option Ev),(∀e x,f e=some x->x.deep=true/\x.on=true)->∀e x,owE d j ts f e=some x->x.deep=true/\x.on=true
 | [],_,f,h,e,x,hx=>h e x hx
 | t::ts,j,f,h,e,x,hx=>zpb d ts (j+1) _ (fun e x hx=>by
   cases t<;>first|exact h e x hx|skip
   rename_i sz rows;by_cases he:e=d*32+j
   ·subst he;simp only[zvo,zae,Qc]at hx;subst hx;exact⟨rfl,rfl⟩
   ·simp only[zvo,zak _ _ he]at hx;exact h e x hx) e x hx
theorem zhi:∀(ds:List (Bool×D))(k e:Nat)(x:Ev),zh2 k ds e=some x->x.deep=true/\x.on=true
 | [],_,_,_,h=>by cases h
 | (false,_)::ds,k,e,x,h=>zhi ds (k+1) e x h
 | (true,.one t)::ds,k,e,x,h=>zpb k [t] 0 _ (fun e x hx=>zhi ds (k+1) e x hx) e x h
 | (true,.agg ts)::ds,k,e,x,h=>zpb k ts 0 _ (fun e x hx=>zhi ds (k+1) e x hx) e x h
theorem qfr {w:World}{l:List AF}{bx:Bxs}{bs:Nat->Nat}{bvs:List (List Value)}{dvs:List Value}{fp tp:List Nat}{A:Nat->Prop}{N:Nat}(hinj:∀i j,i<bx.length->j<bx.length->bs i=bs j->i=j)(hbf:∀j,j<bx.length->bs j∉fp)(hbx:qct w bs 0 bvs bx)
  (hv:za3 w (fun k=>(k<w.heap.size/\k∉fp/\∀j,j<bx.length->k≠bs j)/\A k) (AF.ds l++bxA bx.flatten) (dvs++bvs.flatten) fp tp) (hn:fp.Nodup) (hl:dvs.length=(AF.ds l).length) (hj:AF.okJ bx.length l=true) (hN:l.length<=N) (hN2:N<=1000000) (hs:zcg (AF.ds l++bxA bx.flatten)) (hfs:gFS (AF.ds l++bxA bx.flatten)=true)
  {ξ:Nat->Value} (h1:∀i,i<1000000->ξ i=undef) (h2:∀i b,ξ i≠.bool b) (h3:∀j,j<bx.length->ξ (1000000+j)=qly (bs j)) :
  ∃g,(g.A0,g.R0)=(fun b=>A b\/w.heap.size<=b\/b∈fp\/∃j,j<bx.length/\b=bs j,⟨fun b=>b∈fp\/w.heap.size<=b\/∃j,j<bx.length/\b=bs j,ξ,h1,h2⟩) ∧
   Rel (fun b=>b<w.heap.size/\b∉fp/\∀j,j<bx.length->b≠bs j) N (zjj l bx) g { tmps:=(⟨AF.vals bs l dvs⟩:Array Value)++Array.replicate (N-(AF.vals bs l dvs).length) undef,defers:=[] } w:=by
 have hv':za3 w (fun b=>b<w.heap.size/\(A b/\∀j,j<bx.length->b≠bs j)/\b∉fp) (AF.ds l++bxA bx.flatten) (dvs++bvs.flatten) fp tp:=za3.keepA (fun b hb=>⟨hb.1.1,⟨hb.2,hb.1.2.2⟩,hb.1.2.1⟩) hv
 obtain⟨g,hg,hR⟩:=Rel.start (N:=(AF.ds l++bxA bx.flatten).length) (A0:=fun b=>A b\/w.heap.size<=b\/b∈fp\/∃j,j<bx.length/\b=bs j) (R0:=⟨fun b=>b∈fp\/w.heap.size<=b\/∃j,j<bx.length/\b=bs j,ξ,h1,h2⟩) hv' hn hs (Qz _) (fun b hb=>Or.inl hb.1) (fun b hb=>⟨Or.inr (Or.inr (Or.inl hb)),Or.inl hb⟩) (fun b hb=>by
  by_cases hlt:b<w.heap.size
  ·have hm:b∈fp:=Classical.byContradiction fun h=>hb ⟨hlt,h⟩;exact⟨Or.inr (Or.inr (Or.inl hm)),Or.inl hm⟩
  ·exact⟨Or.inr (Or.inl Yp),Or.inr (Or.inl Yp)⟩)
 have hg1:g.A0=_:=(K1 hg).1
 have hg2:g.R0=_:=(K1 hg).2
 refine⟨{ g with β:=fun k=>bs (k-1000000) },hg,?_⟩
 have hlen:(dvs++bvs.flatten).length=(AF.ds l++bxA bx.flatten).length:=za3.len hv
 have hbne:∀b,(zjj l bx).bx b≠none↔∃q,q<bx.length/\b=1000000+q:=fun b=>by
  have:=zub bx 0 (AF.ds l).length b;simp only[Q5]at this;exact this
 have hblt:∀q,q<bx.length->bs q<w.heap.size:=fun q hq=>by have:=hbx.lt q hq;rwa [Q5]at this
 have hdeep:∀e x,(zjj l bx).ev e=some x->x.deep=true/\x.on=true:=fun e x hx=>zhi _ _ e x hx
 have hφ:∀e,(zjj l bx).On e->∀b∈g.φ e,¬(b<w.heap.size/\b∉fp):=fun e he b hb=>hR.etop e he b hb
 have hfree:∀b,((b<w.heap.size/\b∉fp/\∀j,j<bx.length->b≠bs j)/\A b)->zb8 (zjj l bx) { g with β:=fun k=>bs (k-1000000) } w b:=fun b hb=>by
  refine⟨⟨fun k hk=>?_,fun e x hx ho hh=>hφ e ⟨x,hx,ho⟩ b (List.mem_of_mem_head? hh) ⟨hb.1.1,hb.1.2.1⟩,hb.1.1,?_⟩,fun e he hm=>hφ e he b hm ⟨hb.1.1,hb.1.2.1⟩⟩
  ·obtain⟨q,hq,rfl⟩:=(hbne k).1 hk;show bs (1000000+q-1000000)≠b
   rw[show 1000000+q-1000000=q by omega];exact fun e=>hb.1.2.2 q hq e.symm
  ·show g.A0 b
   rw[hg1];exact Or.inl hb.2
 have hat:∀(i:Nat) d v,(AF.ds l++bxA bx.flatten)[i]?=some d->(dvs++bvs.flatten)[i]?=some v->VR (zjj l bx) { g with β:=fun k=>bs (k-1000000) } w (gVN i d) v:=fun i d v hd hv1=>by
  obtain⟨b,d⟩:=d;cases b with
  | false =>
   obtain⟨u,e1,e2⟩:=za3.atR hv i d hd;rw[e1]at hv1;cases hv1;exact ztu hfree e2
  | true =>
   have h0:=hR.slots i;have hj0:=zir (AF.ds l++bxA bx.flatten) 0 i;rw[Q5,hd]at hj0;have h0':VR (zec (AF.ds l++bxA bx.flatten)) g w (zh3 0 (AF.ds l++bxA bx.flatten) i) _:=h0;rw[hj0]at h0';have hlt:i<(dvs++bvs.flatten).length:=(List.getElem?_eq_some_iff.1 hv1).1;have e:((⟨dvs++bvs.flatten⟩:Array Value)++Array.replicate ((AF.ds l++bxA bx.flatten).length-(dvs++bvs.flatten).length) undef).getD i (g.R0.ξ i)=v:=by
    rw[Array.getD_eq_getD_getElem?,Array.getElem?_append_left (by simpa using hlt)];simp only[List.getElem?_toArray,hv1,Jc]
   rw[e]at h0';have hf:=zx2 hfs i d hd;cases d with
   | one t=>exact zy1 (σ:=zec (AF.ds l++bxA bx.flatten)) (σ':=zjj l bx) (g:=g) (g':={ g with β:=fun k=>bs (k-1000000) }) rfl rfl hf h0'
   | agg ts=>obtain⟨a,e1,e2⟩:=h0';exact⟨a,e1,zt6 (σ:=zec (AF.ds l++bxA bx.flatten)) (σ':=zjj l bx) (g:=g) (g':={ g with β:=fun k=>bs (k-1000000) }) rfl rfl hf e2⟩
 have hvl:=AF.vals_len bs l dvs hl
 refine⟨rfl,by simp;omega,fun b hb=>?_,fun i=>?_,fun b cs hb=>?_,fun b hb=>?_,fun b b' hb hb' he=>?_,fun e x he ho=>?_,fun e x he ho=>?_,hR.slc,fun e he b hb=>?_,fun e he b hb=>?_,fun e he=>hR.nodup e he,fun e e' h1 h2 hne=>hR.apart e e' h1 h2 hne,fun e k he hk hm=>?_⟩
 ·show g.A0 b/\g.R0 b
  rw[hg1,hg2];show(A b\/_)/\(b∈fp\/_)
  by_cases hlt:b<w.heap.size
  ·by_cases hm:b∈fp
   ·exact⟨Or.inr (Or.inr (Or.inl hm)),Or.inl hm⟩
   ·have:∃j,j<bx.length/\b=bs j:=Classical.byContradiction fun hh=>hb ⟨hlt,hm,fun j hj e=>hh ⟨j,hj,e⟩⟩;exact⟨Or.inr (Or.inr (Or.inr this)),Or.inr (Or.inr this)⟩
  ·exact⟨Or.inr (Or.inl Yp),Or.inr (Or.inl Yp)⟩
 ·show VR _ _ _ (zks 0 bx (zd3 0 0 l) i) _
  rcases zst bx 0 (zd3 0 0 l) i with⟨⟨q,h4,rfl⟩,h5⟩|⟨_,h5⟩
  ·rw[h5,Q5,Array.getD_eq_getD_getElem?,Array.getElem?_eq_none (by simp;omega)];refine⟨?_,(hbne _).2 ⟨q,h4,rfl⟩⟩;show(none:Option Value).getD (g.R0.ξ (1000000+q))=.pointer (some ⟨bs (1000000+q-1000000),0,none⟩)
   rw[hg2,show 1000000+q-1000000=q by omega];exact h3 q h4
  ·rw[h5];by_cases hi:i<l.length
   ·obtain⟨u,e1,e2⟩:=zil (σ:=zjj l bx) (g:={ g with β:=fun k=>bs (k-1000000) }) (w:=w) (bs:=bs) (n:=bx.length) (fun j hj=>⟨(hbne _).2 ⟨j,hj,rfl⟩,by show bs (1000000+j-1000000)=bs j;rw[show 1000000+j-1000000=j by omega]⟩) l 0 0 dvs hj hl (fun i d v e1 e2=>by
     rw[Q5]
     exact hat i d v (by rw[List.getElem?_append_left (List.getElem?_eq_some_iff.1 e1).1];exact e1) (by rw[List.getElem?_append_left (List.getElem?_eq_some_iff.1 e2).1];exact e2)) i hi
    rw[Q5]at e2;rw[Array.getD_eq_getD_getElem?,Array.getElem?_append_left (by simp;omega)];simp only[List.getElem?_toArray,e1,Jc];exact e2
   ·have:=zhl l 0 0 i Yp;rw[Q5]at this;rw[this]
    trivial
 ·obtain⟨q,vs,ty,k1,k2,k3,k4⟩:=zs2 (σ:=zjj l bx) (g:={ g with β:=fun k=>bs (k-1000000) }) bx bvs 0 (AF.ds l).length hbx (fun i p v e1 e2=>by
   have:=hat ((AF.ds l).length+i) (p.1,.one p.2) v (by rw[List.getElem?_append_right Yp,show(AF.ds l).length+i-(AF.ds l).length=i by omega];unfold bxA;rw[List.getElem?_map,e1];rfl) (by rw[List.getElem?_append_right Yp,show(AF.ds l).length+i-dvs.length=i by omega];exact e2);rw[qui]at this
   exact this) b cs hb
  rw[Q5]at k2 k3;subst k2;exact⟨⟨vs⟩,ty,by show w.heap[bs (1000000+q-1000000)]?=_;rw[show 1000000+q-1000000=q by omega];exact k3,k4⟩
 ·obtain⟨q,hq,rfl⟩:=(hbne b).1 hb;intro h;have h:=h.2.2 q hq;exact h (show bs (1000000+q-1000000)=bs q by rw[show 1000000+q-1000000=q by omega])
 ·obtain⟨q,hq,rfl⟩:=(hbne b).1 hb;obtain⟨q',hq',rfl⟩:=(hbne b').1 hb';have he:bs (1000000+q-1000000)=bs (1000000+q'-1000000):=he;rw[show 1000000+q-1000000=q by omega,show 1000000+q'-1000000=q' by omega]at he;rw[hinj q q' hq hq' he]
 ·obtain⟨ao,cap,e1,e2,e3,e4⟩:=hR.evs e x he ho;refine⟨ao,cap,e1,e2,e3,?_⟩;rcases e4 with e4|⟨b,cells,ty,fps,j1,j2,j3,j4,j5⟩
  ·exact Or.inl e4
  ·rw[if_pos (hdeep e x he).1]at j5;exact Or.inr ⟨b,cells,ty,fps,j1,j2,j3,j4,by rw[if_pos (hdeep e x he).1];exact j5⟩
 ·rw[(hdeep e x he).2]at ho;cases ho
 ·exact hR.ebase e he b hb
 ·exact fun h=>hφ e he b hb ⟨h.1,h.2.1⟩
 ·obtain⟨q,hq,rfl⟩:=(hbne k).1 hk;have hm:bs (1000000+q-1000000)∈g.φ e:=hm;rw[show 1000000+q-1000000=q by omega]at hm;exact hφ e he _ hm ⟨hblt q hq,hbf q hq⟩
def bxE (σ:St):Nat->Bxs->(List V->Prop)->Prop
 | _,[],K=>K []
 | j,b::bs,K=>σ.sl (1000000+j)=.one (.bx (1000000+j) 0)/\zar (σ.bx (1000000+j)) fun cs=>cs.length=b.length/\bxE σ (j+1) bs fun vs=>K (cs.map .one++vs)
theorem CRs.ones {σ:St}{g:Gh}{w:World}:∀{cs:List C}{vs:List Value},CRs σ g w cs vs->VRl σ g w (cs.map .one) vs
 | [],_,h=>h
 | c::cs,_,h=>by obtain⟨v,vs',rfl,h1,h2⟩:=h;exact⟨v,vs',rfl,h1,CRs.ones h2⟩
theorem zr4 {n0:Nat->Prop}{N:Nat}{σ:St}{g:Gh}{a:Act}{w:World}{bs:Nat->Nat}(hR:Rel n0 N σ g a w)(hN:N<=1000000):∀{bx:Bxs}{j:Nat}{K:List V->Prop},(∀q,q<bx.length->g.R0.ξ (1000000+(j+q))=qly (bs (j+q)))->bxE σ j bx K →
  ∃vs bvs,K vs/\qct w bs j bvs bx/\VRl σ g w vs bvs.flatten/\∀q,q<bx.length->σ.bx (1000000+(j+q))≠none/\g.β (1000000+(j+q))=bs (j+q)
 | [],j,K,_,h=>⟨[],[],h,trivial,rfl,fun q hq=>by simp at hq⟩
 | b::bx,j,K,hξ,h=>by
  obtain⟨h1,h2⟩:=h;obtain⟨cs,h3,h4,h5⟩:=zai h2;obtain⟨vs,bvs,k1,k2,k3,k4⟩:=zr4 hR hN (bx:=bx) (j:=j+1) (fun q hq=>by have:=hξ (q+1) (by simpa using hq);rw[show j+(q+1)=j+1+q by omega]at this;exact this) h5;have h0:=hR.slots (1000000+j);rw[h1,Array.getD_eq_getD_getElem?,Array.getElem?_eq_none (by rw[hR.size];omega)]at h0;have hx:=hξ 0 (by simp);rw[Yg]at hx;have h0:CR σ g w (.bx (1000000+j) 0) (g.R0.ξ (1000000+j)):=h0;rw[hx]at h0;have hβ:g.β (1000000+j)=bs j:=by
   have:=h0.1;unfold qly at this;simp only[Value.pointer.injEq,Qc]at this;injection this with e
   exact e.symm
  obtain⟨us,ty,j1,j2⟩:=hR.boxes _ cs h3;rw[hβ]at j1;refine⟨_,us.toList::bvs,k1,⟨by rw[j2.len,h4],⟨ty,j1⟩,k2⟩,VRl.append j2.ones k3,fun q hq=>?_⟩;cases q with
  | zero=>exact⟨h0.2,hβ⟩
  | succ q=>rw[show j+(q+1)=j+1+q by omega];exact k4 q (by simpa using hq)
def PB0 (P:Program)(rs:List ResultVar)(res:List (Bool×D))(bx:Bxs)(pl:List (Nat×Nat×Nat))(σ:St):Prop:=zar (zbu P σ rs) fun vs=>bxE σ 0 bx fun cs=>gvA σ (fun _=>True) [] pl (vs++cs) (res++bxA bx.flatten)
def PB (P:Program)(rs:List ResultVar)(res:List (Bool×D))(bx:Bxs)(e:Exit)(σ:St):Prop:=match e with
 | .normal=>PB0 P rs res bx [] σ\/∃pl,PB0 P rs res bx pl σ
 | .ret=>PB0 P rs res bx [] σ\/∃pl,PB0 P rs res bx pl σ
 | _=>False
theorem zne {σ:St}:∀{rs:List ResultVar}{vs:List V},zbu P σ rs=some vs->vs.length=rs.length
 | [],vs,h=>by cases h;rfl
 | r::rs,vs,h=>by
  unfold zbu at h;cases h1:qal P σ r with
  | none=>rw[h1]at h;cases h
  | some v =>
   rw[h1]at h;simp only[Ke]at h;cases h2:zbu P σ rs with
   | none=>rw[h2]at h;cases h
   | some us=>rw[h2]at h;cases h;simp[zne h2]
theorem VRl.len {σ:St}{g:Gh}{w:World}:∀{xs:List V}{vs:List Value},VRl σ g w xs vs->vs.length=xs.length
 | [],_,h=>by rw[show _=[] from h];rfl
 | x::xs,_,h=>by obtain⟨v,vs',rfl,_,h2⟩:=h;simp[VRl.len h2]
theorem PC_of {f:FuncId}{fn:Func}{c:Code}{bx bx':Bxs}{l:List AF}{res:List (Bool×D)}(hc:zbb P f)(hf:P.funcs[f]?=some fn)(hb:fn.body=some c)(hd:zc2 fn.ntmps c=true)(hN:l.length<=fn.ntmps)(hN2:fn.ntmps<=1000000)(hbl:bx'.length=bx.length)(hj:AF.okJ bx.length l=true)(hs:zcg (AF.ds l++bxA bx.flatten))(hfs:gFS (AF.ds l++bxA bx.flatten)=true)(hrl:fn.results.toList.length=res.length)
  (h:ex P c [] (PB P fn.results.toList res bx') (zjj l bx)):PC P f bx l bx' res:=by
 refine⟨hc,hbl,fun w bs bvs dvs fp tp A hinj hbf hbx hv hn hl=>?_⟩
 refine calls_of_wp hf hb ?_
 obtain⟨g,hg,hR⟩:=qfr (N:=fn.ntmps) hinj hbf hbx hv hn hl hj hN hN2 hs hfs (ξ:=fun i=>if 1000000<=i then qly (bs (i-1000000))else undef) (fun i hi=>if_neg Yp) (fun i b=>by
  by_cases h:1000000<=i
  ·rw[if_pos h];exact fun e=>by cases e
  ·rw[if_neg h];exact fun e=>by cases e) (fun j hj=>by
  rw[if_pos Yp,show 1000000+j-1000000=j by omega])
 refine wp_mono (zbs (w0:=w) c (zjj l bx) _ hd h g _ w hR (fun k hk=>hk.1) (Bk.refl _ _) hg) fun e a' w' hq=>?_
 obtain⟨σ',g',h1,h2,h3,h4,h5⟩:=hq
 have hξ:∀q,q<bx'.length->g'.R0.ξ (1000000+(0+q))=qly (bs (0+q)):=fun q hq=>by
  rw[(K1 h5).2,Q5];show(if 1000000<=1000000+q then qly (bs (1000000+q-1000000))else undef)=_
  rw[if_pos Yp,show 1000000+q-1000000=q by omega]
 have key:(∃pl,PB0 P fn.results.toList res bx' pl σ')->∃v,(results fn a'.tmps).run P w'=.ok v w'/\∃us bvs' fp' tp',Ending.returned v=.returned (zci us)/\qct w' bs 0 bvs' bx'/\us.length=res.length ∧
   za3 w' (fun k=>(k<w'.heap.size/\k∉fp'/\∀j,j<bx.length->k≠bs j)/\(A k\/w.heap.size<=k\/k∈fp)) (res++bxA bx'.flatten) (us++bvs'.flatten) fp' tp'/\fp'.Nodup/\(∀b∈fp',b∈fp\/w.heap.size<=b)/\Bk (fun k=>k<w.heap.size/\k∉fp/\∀j,j<bx.length->k≠bs j) w w':=by
  rintro⟨pl,hk⟩;obtain⟨vs,hvs,hk⟩:=zai hk;obtain⟨us,r1,r2⟩:=zbr h2 fn hvs;obtain⟨cs,bvs',k0,b1,b2,b3⟩:=zr4 (bs:=bs) h2 hN2 hξ hk;obtain⟨B,hB⟩:=h2.fam;obtain⟨s,k1,⟨tp',k2⟩,k3,k4⟩:=zgc h2 hB k0 (VRl.append r2 b2);rw[Kh]at k4;have hsp:s.Pairwise okP:=(J0.1 (k4 List.Pairwise.nil)).imp fun h=>h.symm;have hin:∀b∈bks B s,∃e,σ'.On e/\b∈g'.φ e:=fun b hb=>by
   obtain⟨x,hx,hm⟩:=Jr.1 hb;exact⟨x.1,k3 x hx,hB.sub x.1 x.2 b (k3 x hx) hm⟩
  have hbβ:∀j,j<bx.length->σ'.bx (1000000+j)≠none/\g'.β (1000000+j)=bs j:=fun j hj=>by
   have:=b3 j Yp
   rwa [Q5]at this
  have hA:∀b,zb8 σ' g' w' b->(b<w'.heap.size/\b∉bks B s/\∀j,j<bx.length->b≠bs j)/\(A b\/w.heap.size<=b\/b∈fp):=fun b hb=>by
   have hnb:∀j,j<bx.length->b≠bs j:=fun j hj e=>hb.1.1 _ (hbβ j hj).1 (by rw[(hbβ j hj).2,e]);refine⟨⟨hb.1.2.2.1,fun hm=>?_,hnb⟩,?_⟩
   ·obtain⟨e,ho,hm⟩:=hin b hm;exact hb.2 e ho hm
   ·have h0:=hb.1.2.2.2;rw[(K1 h5).1]at h0;rcases h0 with h0|h0|h0|⟨j,hj,h0⟩
    ·exact Or.inl h0
    ·exact Or.inr (Or.inl h0)
    ·exact Or.inr (Or.inr h0)
    ·exact absurd h0 (hnb j hj)
  refine⟨_,r1,us,bvs',bks B s,tp',rfl,b1,by rw[r2.len,<-hrl];exact zne hvs,za3.keepA hA k2,zey h2 hB k3 hsp,fun b hb=>?_,h4⟩;obtain⟨e,ho,hm⟩:=hin b hb;have h0:=(h2.ebase e ho b hm).2;rw[(K1 h5).2]at h0;rcases h0 with h0|h0|⟨j,hj,h0⟩
  ·exact Or.inl h0
  ·exact Or.inr h0
  ·have:=h2.ebx e _ ho (hbβ j hj).1;rw[(hbβ j hj).2]at this;exact absurd (h0▸hm) this
 have key':∀{Y:Prop},(PB0 P fn.results.toList res bx' [] σ'\/∃pl,PB0 P fn.results.toList res bx' pl σ')->((∃pl,PB0 P fn.results.toList res bx' pl σ')->Y)->Y:=fun h k=>h.elim (fun h=>k ⟨[],h⟩) k
 cases e with
 | normal=>exact⟨h2.defers,key' h1 key⟩
 | ret=>exact⟨h2.defers,key' h1 key⟩
 | exit _=>exact h1.elim
 | goto _=>exact h1.elim
 | panic _=>exact h1.elim
 | outgrown=>exact h1.elim
end
section
open Go.RowKit
variable {P:Program}
def mtK (W:List Nat):List AF->List V->(List V->Prop)->Prop
 | [],[],K=>K []
 | .d _ _::l,v::vs,K=>mtK W l vs fun u=>K (v::u)
 | .p j::l,.one (.bx b o)::vs,K=>W[j]?=some b/\o=0/\mtK W l vs K
 | .fn g js::l,.one (.fn g' bs)::vs,K=>g'=g/\js.map (fun j=>W[j]?)=bs.map some/\mtK W l vs K
 | _,_,_=>False
theorem qhm {g:Gh}{W:List Nat}{bs:Nat->Nat}(hb:∀j b,W[j]?=some b->bs j=g.β b):∀(js bs':List Nat),js.map (fun j=>W[j]?)=bs'.map some->bs'.map (fun b=>Value.pointer (some ⟨g.β b,0,none⟩))=js.map fun j=>qly (bs j)
 | [],[],_=>rfl
 | [],_::_,e=>by cases e
 | _::_,[],e=>by cases e
 | j::js,b::bs',e=>by
  simp only[Qf,List.cons.injEq]at e;rw[Qf,Qf,qhm hb js bs' e.2,hb j b e.1];rfl
theorem zib {σ:St}{g:Gh}{w:World}{W:List Nat}{bs:Nat->Nat}(hb:∀j b,W[j]?=some b->bs j=g.β b):∀{l:List AF}{xs:List V}{K:List V->Prop}{vs:List Value},mtK W l xs K->VRl σ g w xs vs →
  ∃us dvs,K us/\VRl σ g w us dvs/\dvs.length=(AF.ds l).length/\vs=AF.vals bs l dvs
 | [],[],K,vs,h,hv=>⟨[],[],h,rfl,rfl,hv⟩
 | .d _ _::l,x::xs,K,vs,h,hv=>by
  obtain⟨v,vs',rfl,h1,h2⟩:=hv;obtain⟨us,dvs,k1,k2,k3,k4⟩:=zib hb (l:=l) h h2;exact⟨x::us,v::dvs,k1,⟨v,dvs,rfl,h1,k2⟩,by simp[AF.ds,k3],by rw[k4];rfl⟩
 | .p j::l,.one (.bx b o)::xs,K,vs,h,hv=>by
  obtain⟨v,vs',rfl,h1,h2⟩:=hv;obtain⟨e1,rfl,h⟩:=h;obtain⟨us,dvs,k1,k2,k3,k4⟩:=zib hb (l:=l) h h2;refine⟨us,dvs,k1,k2,k3,?_⟩;have h1:CR σ g w (.bx b 0) v:=h1;rw[k4,h1.1,<-hb j b e1];rfl
 | .fn f js::l,.one (.fn f' bs')::xs,K,vs,h,hv=>by
  obtain⟨v,vs',rfl,h1,h2⟩:=hv;obtain⟨rfl,e1,h⟩:=h;obtain⟨us,dvs,k1,k2,k3,k4⟩:=zib hb (l:=l) h h2;refine⟨us,dvs,k1,k2,k3,?_⟩;have h1:CR σ g w (.fn f' bs') v:=h1;rw[k4,h1.1];rw[qhm hb js bs' e1];rfl
 | .d _ _::_,[],_,_,h,_=>h.elim
 | .p _::_,[],_,_,h,_=>h.elim
 | .fn _ _::_,[],_,_,h,_=>h.elim
 | [],_::_,_,_,h,_=>h.elim
 | .p _::_,.agg _::_,_,_,h,_=>h.elim
 | .p _::_,.tup _::_,_,_,h,_=>h.elim
 | .fn _ _::_,.agg _::_,_,_,h,_=>h.elim
 | .fn _ _::_,.tup _::_,_,_,h,_=>h.elim
 | .p _::_,.one (.t _)::_,_,_,h,_=>h.elim
 | .p _::_,.one (.nl _)::_,_,_,h,_=>h.elim
 | .p _::_,.one (.ow _ _)::_,_,_,h,_=>h.elim
 | .p _::_,.one (.el _ _)::_,_,_,h,_=>h.elim
 | .p _::_,.one (.eo _ _ _ _ _)::_,_,_,h,_=>h.elim
 | .p _::_,.one (.fn _ _)::_,_,_,h,_=>h.elim
 | .p _::_,.one (.cv _)::_,_,_,h,_=>h.elim
 | .p _::_,.one .any::_,_,_,h,_=>h.elim
 | .p _::_,.one (.rn _)::_,_,_,h,_=>h.elim
 | .p _::_,.one (.er _ _)::_,_,_,h,_=>h.elim
 | .fn _ _::_,.one (.t _)::_,_,_,h,_=>h.elim
 | .fn _ _::_,.one (.nl _)::_,_,_,h,_=>h.elim
 | .fn _ _::_,.one (.ow _ _)::_,_,_,h,_=>h.elim
 | .fn _ _::_,.one (.el _ _)::_,_,_,h,_=>h.elim
 | .fn _ _::_,.one (.eo _ _ _ _ _)::_,_,_,h,_=>h.elim
 | .fn _ _::_,.one (.bx _ _)::_,_,_,h,_=>h.elim
 | .fn _ _::_,.one (.cv _)::_,_,_,h,_=>h.elim
 | .fn _ _::_,.one .any::_,_,_,h,_=>h.elim
 | .fn _ _::_,.one (.rn _)::_,_,_,h,_=>h.elim
 | .fn _ _::_,.one (.er _ _)::_,_,_,h,_=>h.elim
def qrl (σ:St):List Nat->Bxs->(List V->Prop)->Prop
 | [],[],K=>K []
 | k::W,b::bx,K=>zar (σ.bx k) fun cs=>cs.length=b.length/\qrl σ W bx fun l=>K (cs.map .one++l)
 | _,_,_=>False
theorem zo4 {n0:Nat->Prop}{N:Nat}{σ:St}{g:Gh}{a:Act}{w:World}(hR:Rel n0 N σ g a w){bs:Nat->Nat}:∀{W:List Nat}{bx:Bxs}{j:Nat}{K:List V->Prop},(∀i b,W[i]?=some b->bs (j+i)=g.β b)->qrl σ W bx K →
  ∃l bvs,K l/\VRl σ g w l bvs.flatten/\qct w bs j bvs bx/\W.length=bx.length/\∀b∈W,σ.bx b≠none
 | [],[],j,K,_,h=>⟨[],[],h,rfl,trivial,rfl,fun b hb=>by simp at hb⟩
 | k::W,b::bx,j,K,hb,h=>by
  obtain⟨cs,h1,h2,h3⟩:=zai h;obtain⟨l,bvs,k1,k2,k3,k4,k5⟩:=zo4 hR (W:=W) (bx:=bx) (j:=j+1) (fun i b hi=>by have:=hb (i+1) b (by simpa using hi);rw[show j+(i+1)=j+1+i by omega]at this;exact this) h3;obtain⟨us,ty,j1,j2⟩:=hR.boxes k cs h1;have hk:=hb 0 k rfl;rw[Yg]at hk;refine⟨_,us.toList::bvs,k1,VRl.append j2.ones k2,⟨by rw[j2.len,h2],⟨ty,by rw[hk];exact j1⟩,k3⟩,by simp[k4],fun x hx=>?_⟩;rcases Qp.1 hx with rfl|hx
  ·rw[h1];simp
  ·exact k5 x hx
 | [],_::_,_,_,_,h=>h.elim
 | _::_,[],_,_,_,h=>h.elim
theorem qow {W:List Nat}:∀{l:List AF}{xs:List V}{K K':List V->Prop},(∀u,K u->K' u)->mtK W l xs K->mtK W l xs K':=fun {l}=>by
 induction l with
 | nil=>intro xs K K' hK h;cases xs with
  | nil=>exact hK _ h
  | cons _ _=>exact h.elim
 | cons a l ih=>intro xs K K' hK h;cases xs with
  | nil=>cases a<;>exact h.elim
  | cons x xs =>
   cases a with
   | d b y=>exact ih (fun u=>hK _) h
   | p j =>
    cases x with
    | one c=>cases c<;>first|exact h.elim|exact⟨h.1,h.2.1,ih hK h.2.2⟩
    | agg _=>exact h.elim
    | tup _=>exact h.elim
   | fn g js =>
    cases x with
    | one c=>cases c<;>first|exact h.elim|exact⟨h.1,h.2.1,ih hK h.2.2⟩
    | agg _=>exact h.elim
    | tup _=>exact h.elim
def zqk (d:Nat):Nat->List Nat->Bxs->(Nat->Option (List C))->(Nat->Option (List C))
 | m,k::W,b::bx,f=>upd (zqk d (m+b.length) W bx f) k (some (mC d m b))
 | _,_,_,f=>f
theorem zpo (d:Nat):∀(W:List Nat)(bx:Bxs)(m:Nat)(f:Nat->Option (List C))(b:Nat),b∉W->zqk d m W bx f b=f b
 | [],_,_,_,_,_=>by unfold zqk;rfl
 | k::W,[],_,_,_,_=>by unfold zqk;rfl
 | k::W,c::bx,m,f,b,hb=>by
  unfold zqk;rw[zak _ _ (fun e=>hb (by simp[e]))];exact zpo d W bx _ f b fun h=>hb (by simp[h])
theorem qih (d:Nat):∀(W:List Nat)(bx:Bxs)(m:Nat)(f:Nat->Option (List C))(b:Nat),W.length=bx.length->b∈W->zqk d m W bx f b≠none
 | [],_,_,_,_,_,hb=>by simp at hb
 | k::W,[],_,_,_,hl,_=>by simp at hl
 | k::W,c::bx,m,f,b,hl,hb=>by
  unfold zqk;by_cases h:b=k
  ·subst h;rw[zae];simp
  ·rw[zak _ _ h];exact qih d W bx _ f b (by simpa using hl) ((Qp.1 hb).resolve_left h)
theorem zod {σ:St}{g:Gh}{w:World}{bs:Nat->Nat}(d:Nat){β:Nat->Nat}:∀(W:List Nat)(bx:Bxs)(bvs:List (List Value))(j m:Nat)(f:Nat->Option (List C)),(∀i b,W[i]?=some b->bs (j+i)=β b)->qct w bs j bvs bx->CRs σ g w (mC d m bx.flatten) bvs.flatten->W.length=bx.length →
  ∀b∈W,∀cs,zqk d m W bx f b=some cs->∃vs ty,w.heap[β b]?=some (.cells vs ty (0,0))/\CRs σ g w cs vs.toList
 | [],_,_,_,_,_,_,_,_,_,b,hb,_,_=>by simp at hb
 | k::W,[],_,_,_,_,_,_,_,hl,_,_,_,_=>by simp at hl
 | k::W,c::bx,[],_,_,_,_,h0,_,_,_,_,_,_=>h0.elim
 | k::W,c::bx,vs::bvs,j,m,f,hβ,h0,hc,hl,b,hb,cs,hs=>by
  obtain⟨h1,⟨ty,h2⟩,h3⟩:=h0;rw[Kc,Kc,zgq]at hc;obtain⟨v1,v2,e,c1,c2⟩:=hc.split;obtain⟨e1,e2⟩:=Yi e (by rw[c1.len,ztf,h1]);subst e1 e2;unfold zqk at hs;by_cases h:b=k
  ·subst h;rw[zae]at hs;cases hs;have:=hβ 0 b rfl;rw[Yg]at this;exact⟨⟨vs⟩,ty,by rw[<-this];exact h2,c1⟩
  ·rw[zak _ _ h]at hs;exact zod d W bx bvs (j+1) (m+c.length) f (fun i b hi=>by have:=hβ (i+1) b (by simpa using hi);rw[show j+(i+1)=j+1+i by omega]at this;exact this) h3 c2 (by simpa using hl) b ((Qp.1 hb).resolve_left h) cs hs
theorem CRs.split_flat {σ:St}{g:Gh}{w w':World}{A:Nat->Prop}{d m:Nat}{l:List (Bool×T)}{c:Bxs}{us vs:List Value}(h:CRs σ g w (mC d 0 (l++c.flatten)) (us++vs))(hl:us.length=l.length):CRs σ g w (mC d 0 l) us/\CRs σ g w (mC d l.length c.flatten) vs:=by
 rw[zgq]at h
 obtain⟨v1,v2,e,c1,c2⟩:=h.split
 obtain⟨e1,e2⟩:=Yi e (by rw[c1.len,ztf,hl])
 subst e1 e2
 rw[Q5]at c2
 exact⟨c1,c2⟩
theorem za3.one_vals {w:World}{A:Nat->Prop}:∀{ds:List (Bool×D)}{vs:List Value}{fp tp:List Nat},za3 w A ds vs fp tp->(vs.flatMap fun u=>u.cells.toList).length=(zcj ds).length:=fun {ds vs fp tp} h=>by
 obtain⟨tp',h'⟩:=h.flat
 rw[za3.len h']
 unfold bxA
 rw[Qa]
end
section
open Go.RowKit
variable {P:Program}
def mkZ (P:Program)(t:TypeId):List (List C):=match (elT P t).bind (zdg P)with
 | some z=>[z]
 | none=>[]
def mkEv (d:Nat):Option (Prop×Ev)->List (Nat×Ev)
 | some (_,y)=>[(d*32,y)]
 | none=>[]
theorem qwa {σ σ1:St}{t:TypeId}{l c:Operand}(h:∀k∈zat [l,c]++rK (mkZ P t),za8 σ σ1 k):mkD P σ1 t l c=mkD P σ t l c:=by
 have e1:σ1.get P 0 l=σ.get P 0 l:=zb7 (l:=[l,c]) (fun k hk=>h k (by simp[hk])) (by simp) 0
 have e2:σ1.get P 0 c=σ.get P 0 c:=zb7 (l:=[l,c]) (fun k hk=>h k (by simp[hk])) (by simp) 0
 unfold mkD
 rw[e1,e2]
 unfold mkZ at h
 cases hel:elT P t with
 | none=>rfl
 | some el =>
  simp only[Ke];rw[hel]at h;cases hz:zdg P el with
  | none=>simp only[Option.bind_none]
  | some z =>
   rw[Ke,hz]at h;have e3:zuq σ1 z=zuq σ z:=zlh fun k hk=>h k (by simp[rK,hk]);simp only[Ke,e3]
section
variable {ks:List Fr}{Q:Exit->St->Prop}{σ:St}{ops:Array Oper}{os:List Oper}{L:List (List Ky×List Ky)}{ty:TypeId}{ps:String}{af:Array Edge}{d:Nat}{l c:Operand}{t:TypeId}
theorem dMakeD (h:zar (mkD P σ t l c) fun r=>r.1/\σ.ev (d*32)=none)
  (k:exd P ops os (L++[(zat [l,c]++(rK (mkZ P t)++[(2,d*32)]),dK (some d)++eK (mkEv d (mkD P σ t l c)))]) ks Q ((σ.mk1 d (mkD P σ t l c)).put (some d) (.one (.ow (d*32) 0)))) :
  exd P ops (⟨some d,.makeSlice t l c,ty,ps,af,none⟩::os) L ks Q σ:=by
 obtain⟨⟨p,y⟩,h1,h2,h3⟩:=zai h
 rw[h1]at k
 have hloc:∀σ1,(∀k∈zat [l,c]++(rK (mkZ P t)++[(2,d*32)]),za8 σ σ1 k)->mkD P σ1 t l c=some (p,y)/\σ1.ev (d*32)=none:=fun σ1 hs =>
  ⟨(qwa fun k hk=>hs k (by simp only[Qm]at hk⊢;rcases hk with hk|hk<;>simp[hk])).trans h1,(Eq.symm (hs (2,d*32) (by simp))).trans h3⟩
 refine zgj rfl rfl ?_ k
 show zf0 P _ _ _ σ ((σ.apd (d*32) [] y).put (some d) _)
 rw[zcw]
 refine zf0.of (o:=⟨some d,_,ty,ps,af,none⟩) (l:=[(d*32,y)]) (zba (zbc _) (zba (zuu _) rfl)) fun σ1 hs=>?_
 obtain⟨h1,h3⟩:=hloc σ1 hs
 show zah P _ σ1 ((σ1.upE ((d*32,y)::zp4 [])).put _ _)
 rw[<-zcw]
 unfold mkD at h1
 obtain⟨el,e1,h1⟩:=Qd.1 h1
 obtain⟨n,e2,h1⟩:=Qd.1 h1
 obtain⟨bts,e3,h1⟩:=Qd.1 h1
 obtain⟨z,e4,h1⟩:=Qd.1 h1
 obtain⟨⟨q1,q2⟩,e5,h1⟩:=Qd.1 h1
 split at h1
 ·rename_i kl a kc b hl hc;split at h1
  ·rename_i hh;obtain⟨k1,k2,k3⟩:=hh;have:q2=[]:=Km k2;subst this;simp only[Qc,Qn]at h1;obtain⟨rfl,rfl⟩:=h1;exact qr3 e1 e2 e3 e4 k1 e5 hl hc k3 h2.1 h2.2.1 h2.2.2 h3
  ·cases h1
 ·cases h1
end
def qcf:Option (Nat×Ev×List (Nat×Ev))->List Ky
 | some (e,_,_)=>[(2,e)]
 | none=>[]
def stoW:Option (Nat×Ev×List (Nat×Ev))->List (Nat×Ev)
 | some (e,y,cons)=>(e,y)::zp4 cons
 | none=>[]
theorem qnj {σ σ1:St}{t:TypeId}{x y:Operand}(h:∀k∈zat [x,y]++(rK [(σ.get P t y).cells]++qcf (zup P σ t x y)),za8 σ σ1 k){r:Nat×Ev×List (Nat×Ev)}(hr:zup P σ t x y=some r):zup P σ1 t x y=some r:=by
 have e1:σ1.get P 0 x=σ.get P 0 x:=zb7 (l:=[x,y]) (fun k hk=>h k (by simp[hk])) (by simp) 0
 have e2:σ1.get P t y=σ.get P t y:=zb7 (l:=[x,y]) (fun k hk=>h k (by simp[hk])) (by simp) t
 have e3:zuq σ1 (σ.get P t y).cells=zuq σ (σ.get P t y).cells:=zlh fun k hk=>h k (by simp[rK,hk])
 rw[hr]at h
 rw[<-hr]
 unfold zup at hr⊢
 rw[e1,e2]
 split at hr
 ·rename_i e g sz i o hx;obtain⟨z,hz,hr⟩:=Qd.1 hr;obtain⟨n,hn,hr⟩:=Qd.1 hr;split at hr
  ·obtain⟨q,_,hr⟩:=Q0.1 hr;subst hr;have e4:σ1.ev e=σ.ev e:=Eq.symm (h (2,e) (by simp[qcf]));simp only[e4,e3]
  ·cases hr
 ·cases hr
section
variable {ks:List Fr}{Q:Exit->St->Prop}{σ:St}{ops:Array Oper}{os:List Oper}{L:List (List Ky×List Ky)}{ty:TypeId}{ps:String}{af:Array Edge}{ds:Option Nat}{x y:Operand}{t:TypeId}
theorem qou (r:Option (Nat×Ev×List (Nat×Ev))):okK (qcf r)=true:=by
 cases r with
 | none=>rfl
 | some r=>rfl
theorem qv3 (h:zar (zup P σ t x y) fun r=>(r.2.2.map (·.1)).Nodup/\∀p∈r.2.2,p.1≠r.1)
  (k:exd P ops os (L++[(zat [x,y]++(rK [(σ.get P t y).cells]++qcf (zup P σ t x y)),dK ds++eK (stoW (zup P σ t x y)))]) ks Q ((σ.apdO (zup P σ t x y)).put ds (.one .any))):exdS P ops ⟨ds,.store t x y,ty,ps,af,none⟩ os L ks Q σ:=by
 obtain⟨⟨e,z,cons⟩,h1,h2,h3⟩:=zai h
 refine⟨_,_,_,?_,k⟩
 have hloc:∀σ1,(∀k∈zat [x,y]++(rK [(σ.get P t y).cells]++qcf (zup P σ t x y)),za8 σ σ1 k)->zup P σ1 t x y=some (e,z,cons):=fun σ1 hs=>qnj hs h1
 rw[h1]
 show zf0 P _ _ (dK ds++eK ((e,z)::zp4 cons)) σ ((σ.apd e cons z).put ds _)
 rw[zcw]
 rw[h1]at hloc
 refine zf0.of (o:=⟨ds,_,ty,ps,af,none⟩) (l:=(e,z)::zp4 cons) (zba (zbc _) (zba (zuu _) (qou _))) fun σ1 hs=>?_
 have hh:=hloc σ1 hs
 have hs2:=zys (σ:=σ1) (ty:=ty) (ps:=ps) (af:=af) (ds:=ds) (x:=x) (y:=y) (t:=t) (P:=P) (by rw[hh];exact⟨h2,h3⟩)
 rw[hh]at hs2
 have hs2:zah P ⟨ds,.store t x y,ty,ps,af,none⟩ σ1 ((σ1.apd e cons z).put ds (.one .any)):=hs2
 rw[zcw]at hs2
 exact hs2
end
attribute [go_sem] mkZ mkEv qcf stoW AF.ds c1P zxx zm4 zd3 zks zjj bxE PB PB0 mtK qrl zqk bxA List.flatten_cons List.flatten_nil
end
section
open Go.RowKit
variable {P:Program}
theorem Rel.afterB {W:List Nat}{bx':Nat->Option (List C)}{n0:Nat->Prop}{N:Nat}{σ:St}{g g':Gh}{a:Act}{w w':World}{ev':Nat->Option Ev}{F:List Nat}(h:Rel n0 N σ g a w)(hn0:LtK n0 w)(hb:Bk (fun k=>k<w.heap.size/\∀b∈W,k≠g.β b) w w')(hdom:∀b,bx' b≠none↔σ.bx b≠none)(hsm:∀b,b∉W->bx' b=σ.bx b)(hWσ:∀b∈W,σ.bx b≠none)(hn:New σ g (w.heap.size<=·) w' ev' g' F)(hW:∀b∈W,∀cs,bx' b=some cs->∃vs ty,w'.heap[g.β b]?=some (.cells vs ty (0,0))/\CRs ⟨σ.sl,bx',ev'⟩ g' w' cs vs.toList):Rel n0 N ⟨σ.sl,bx',ev'⟩ g' a w':=by
 have hlt:∀e x,σ.ev e=none->ev' e=some x->∀b∈g'.φ e,w.heap.size<=b:=fun e x h1 h2 b hbb=>((hn.new e x h1 h2).2.2.1 b hbb).1
 have hold:∀e,σ.On e->∀b∈g.φ e,b<w.heap.size:=fun e he b hbb=>by
  obtain⟨x,hx,ho⟩:=he;exact(h.evs e x hx ho).lt b hbb
 have hon:∀e,St.On ⟨σ.sl,bx',ev'⟩ e->σ.ev e≠none->σ.On e:=fun e he hee=>by
  obtain⟨x,hx,ho⟩:=he;exact⟨x,(hn.old e hee).1.symm.trans hx,ho⟩
 have hne:∀e,St.On ⟨σ.sl,bx',ev'⟩ e->∃x,ev' e=some x:=fun e he=>⟨_,he.choose_spec.1⟩
 have m:Mv σ ⟨σ.sl,bx',ev'⟩ g g' w w':=by
  refine⟨fun b hf=>hb.block b ⟨hf.2.2.1,fun k hk e=>hf.1 k (hWσ k hk) e.symm⟩,fun b hf=>⟨fun k hk=>by rw[hn.β];exact hf.1 k ((hdom k).1 hk),fun e x hx ho hh=>?_,Jp hf.2.2.1 hb.size,by rw[hn.A0];exact hf.2.2.2⟩,fun b hbb=>⟨by rw[hn.β],(hdom b).2 hbb⟩,fun e n he=>?_,fun b hf e he hm=>?_⟩
  ·by_cases hee:σ.ev e=none
   ·have:=hlt e x hee hx b (List.mem_of_mem_head? hh);have:=hf.2.2.1;omega
   ·rw[(hn.old e hee).2.2]at hh;exact hf.2.1 e x ((hn.old e hee).1.symm.trans hx) ho hh
  ·obtain⟨x,hx,hg⟩:=he;have hee:σ.ev e≠none:=by rw[hx];simp
   exact⟨⟨x,(hn.old e hee).1.trans hx,hg⟩,by rw[(hn.old e hee).2.1]⟩
  ·by_cases hee:σ.ev e=none
   ·obtain⟨x,hx⟩:=hne e he;have:=hlt e x hee hx b hm;have:=hf.1.2.2.1;omega
   ·rw[(hn.old e hee).2.2]at hm;exact hf.2 e (hon e he hee) hm
 refine⟨h.defers,h.size,by rw[hn.A0,hn.R0];exact h.anew,fun i=>by rw[hn.R0];exact m.vr (h.slots i),fun b cs hbb=>?_,fun b hbb=>by rw[hn.β];exact h.base b ((hdom b).1 hbb),fun b b' h1 h2 h3=>by rw[hn.β]at h3;exact h.inj b b' ((hdom b).1 h1) ((hdom b').1 h2) h3,fun e x he ho=>?_,fun e x he ho=>?_,hn.slc,fun e he b hbb=>?_,fun e he b hbb=>?_,fun e he=>?_,fun e e' h1 h2 hne' b hb1 hb2=>?_,fun e k he hk hm=>?_⟩
 ·by_cases hbW:b∈W
  ·rw[hn.β];exact hW b hbW cs hbb
  have hbb:bx' b=some cs:=hbb;rw[hsm b hbW]at hbb;obtain⟨vs,ty,k1,k2⟩:=h.boxes b cs hbb;have hne0:σ.bx b≠none:=by rw[hbb];simp
  exact⟨vs,ty,by rw[hn.β,hb.block _ ⟨h.lt hne0,fun k hk e=>hbW (h.inj b k hne0 (hWσ k hk) e▸hk)⟩];exact k1,m.crs k2⟩
 ·by_cases hee:σ.ev e=none
  ·obtain⟨⟨k1,_,k0⟩,k2,k3,k4⟩:=hn.new e x hee he;rw[k0];unfold za5 at k2;obtain⟨ao,cap,j1,j2,j3,j4⟩:=k2;refine⟨ao,cap,j1,j2,j3,?_⟩;rcases j4 with j4|⟨b,cells,ty,fps,j4,j5,j6,j7,j8⟩
   ·exact Or.inl j4
   ·exact Or.inr ⟨b,cells,ty,fps,j4,j5,j6,j7,by rw[if_pos k1];exact j8⟩
  ·have he':=he;simp only[(hn.old e hee).1]at he;rw[(hn.old e hee).2.1,(hn.old e hee).2.2];exact m.evr (h.evs e x he ho) fun b hbb=>hb.block b ⟨hold e ⟨x,he,ho⟩ b hbb,fun k hk e'=>h.ebx e k ⟨x,he,ho⟩ (hWσ k hk) (e'▸hbb)⟩
 ·by_cases hee:σ.ev e=none
  ·obtain⟨⟨_,k1,_⟩,_⟩:=hn.new e x hee he;rw[k1]at ho;cases ho
  ·simp only[(hn.old e hee).1]at he;rw[(hn.old e hee).2.1];exact⟨m.rep (h.offs e x he ho).1,(h.offs e x he ho).2⟩
 ·by_cases hee:σ.ev e=none
  ·obtain⟨x,hx⟩:=hne e he;rw[hn.A0,hn.R0];exact h.anew b (hn0.new (hlt e x hee hx b hbb))
  ·rw[(hn.old e hee).2.2]at hbb;rw[hn.A0,hn.R0];exact h.ebase e (hon e he hee) b hbb
 ·by_cases hee:σ.ev e=none
  ·obtain⟨x,hx⟩:=hne e he;exact hn0.new (hlt e x hee hx b hbb)
  ·rw[(hn.old e hee).2.2]at hbb;exact h.etop e (hon e he hee) b hbb
 ·by_cases hee:σ.ev e=none
  ·obtain⟨x,hx⟩:=hne e he;exact(hn.new e x hee hx).2.2.2
  ·rw[(hn.old e hee).2.2];exact h.nodup e (hon e he hee)
 ·obtain⟨x,hx⟩:=hne e h1;obtain⟨x',hx'⟩:=hne e' h2;by_cases e1:σ.ev e=none<;>by_cases e2:σ.ev e'=none
  ·exact hn.apart e e' e1 e2 (by rw[hx];simp) (by rw[hx'];simp) hne' b hb1 hb2
  ·rw[(hn.old e' e2).2.2]at hb2;have:=hlt e x e1 hx b hb1;have:=hold e' (hon e' h2 e2) b hb2;omega
  ·rw[(hn.old e e1).2.2]at hb1;have:=hlt e' x' e2 hx' b hb2;have:=hold e (hon e h1 e1) b hb1;omega
  ·rw[(hn.old e e1).2.2]at hb1;rw[(hn.old e' e2).2.2]at hb2;exact h.apart e e' (hon e h1 e1) (hon e' h2 e2) hne' b hb1 hb2
 ·rw[hn.β]at hm;by_cases hee:σ.ev e=none
  ·obtain⟨x,hx⟩:=hne e he;have:=hlt e x hee hx _ hm;have:=h.lt ((hdom k).1 hk);omega
  ·rw[(hn.old e hee).2.2]at hm;exact h.ebx e k (hon e he hee) ((hdom k).1 hk) hm
def gvQ:List V->List (Bool×D)->Prop
 | [],[]=>True
 | v::vs,(false,d)::ds=>rdV v d/\gvQ vs ds
 | .one (.t x)::vs,(true,.one t)::ds=>x=t/\t.flat=true/\gvQ vs ds
 | _,_=>False
theorem qqj {w:World}{A:Nat->Prop}{t:T}{v:Value}(hf:t.flat=true)(h:zas w A t v):za5 w t v []/\zll t []=[]:=by
 cases t<;>simp only[T.flat,Ql]at hf
 ·unfold zas at h;unfold za5;exact⟨⟨h.1,h.2.1,h.2.2,rfl⟩,rfl⟩
 ·unfold zas at h;unfold za5;exact⟨⟨h,rfl⟩,rfl⟩
 ·unfold zas at h;unfold za5;exact⟨⟨h.1,h.2,rfl⟩,rfl⟩
 ·unfold zas at h;unfold za5;exact⟨⟨h,rfl⟩,rfl⟩
theorem zmk {σ:St}{g:Gh}{w:World}:∀{xs:List V}{ds:List (Bool×D)}{vs:List Value},gvQ xs ds->VRl σ g w xs vs->za3 w (zb8 σ g w) ds vs [] []
 | [],[],vs,_,hv=>⟨hv,rfl,rfl⟩
 | [],_::_,_,h,_=>h.elim
 | x::xs,[],_,h,_=>by cases x with
  | one c=>cases c<;>exact h.elim
  | agg _=>exact h.elim
  | tup _=>exact h.elim
 | x::xs,(false,d)::ds,vs,h,hv=>by
  obtain⟨v,vs',rfl,h1,h2⟩:=hv;have h:rdV x d/\gvQ xs ds:=by cases x with
   | one c=>cases c<;>exact h
   | agg _=>exact h
   | tup _=>exact h
  exact⟨v,vs',rfl,qg4 h.1 h1,zmk h.2 h2⟩
 | .one (.t x)::xs,(true,.one t)::ds,vs,h,hv=>by
  obtain⟨v,vs',rfl,h1,h2⟩:=hv;obtain⟨rfl,hf,h⟩:=h;obtain⟨k1,k2⟩:=qqj hf h1;exact⟨v,vs',[],[],[],[],rfl,rfl,rfl,⟨k1,k2.symm⟩,zmk h h2⟩
 | x::_,(true,.agg _)::_,_,h,_=>by cases x with
  | one c=>cases c<;>exact h.elim
  | agg _=>exact h.elim
  | tup _=>exact h.elim
 | .one (.nl _)::_,(true,.one _)::_,_,h,_=>h.elim
 | .one (.ow _ _)::_,(true,.one _)::_,_,h,_=>h.elim
 | .one (.bx _ _)::_,(true,.one _)::_,_,h,_=>h.elim
 | .one (.el _ _)::_,(true,.one _)::_,_,h,_=>h.elim
 | .one (.eo _ _ _ _ _)::_,(true,.one _)::_,_,h,_=>h.elim
 | .one (.fn _ _)::_,(true,.one _)::_,_,h,_=>h.elim
 | .one (.cv _)::_,(true,.one _)::_,_,h,_=>h.elim
 | .one .any::_,(true,.one _)::_,_,h,_=>h.elim
 | .one (.rn _)::_,(true,.one _)::_,_,h,_=>h.elim
 | .one (.er _ _)::_,(true,.one _)::_,_,h,_=>h.elim
 | .agg _::_,(true,.one _)::_,_,h,_=>h.elim
 | .tup _::_,(true,.one _)::_,_,h,_=>h.elim
def qcq:List (Nat×List C)->(Nat->Option (List C))->(Nat->Option (List C))
 | [],f=>f
 | (k,cs)::l,f=>upd (qcq l f) k (some cs)
def boL (d:Nat):Nat->List Nat->Bxs->List (Nat×List C)
 | m,k::W,b::bx=>(k,mC d m b)::boL d (m+b.length) W bx
 | _,_,_=>[]
theorem zzk (d:Nat):∀(W:List Nat)(bx:Bxs)(m:Nat)(f:Nat->Option (List C)),zqk d m W bx f=qcq (boL d m W bx) f
 | [],bx,m,f=>by unfold zqk boL;rfl
 | k::W,[],m,f=>by unfold zqk boL;rfl
 | k::W,b::bx,m,f=>by unfold zqk boL qcq;rw[zzk d W bx]
def mEl (d:Nat):Nat->List (Bool×T)->List (Nat×Ev)->List (Nat×Ev)
 | _,[],acc=>acc
 | j,(true,.sl sz rows)::ts,acc=>mEl d (j+1) ts ((d*32+j,⟨true,sz,rows,0,true⟩)::acc)
 | j,(_,_)::ts,acc=>mEl d (j+1) ts acc
theorem zxi (d:Nat):∀(ts:List (Bool×T))(j:Nat)(acc:List (Nat×Ev))(f:Nat->Option Ev),mE d j ts (zn9 acc f)=zn9 (mEl d j ts acc) f
 | [],_,_,_=>rfl
 | (false,t)::ts,j,acc,f=>by
  have:mEl d j ((false,t)::ts) acc=mEl d (j+1) ts acc:=by cases t<;>rfl
  rw[this];exact zxi d ts (j+1) acc f
 | (true,t)::ts,j,acc,f=>by
  cases t
  case sl sz rows=>exact zxi d ts (j+1) ((d*32+j,⟨true,sz,rows,0,true⟩)::acc) f
  all_goals exact zxi d ts (j+1) acc f
theorem zlq (d:Nat):∀(ts:List (Bool×T))(j:Nat)(acc:List (Nat×Ev))(k:Ky),k∈eK acc->k∈eK (mEl d j ts acc)
 | [],_,_,_,h=>h
 | (false,t)::ts,j,acc,k,h=>by
  have:mEl d j ((false,t)::ts) acc=mEl d (j+1) ts acc:=by cases t<;>rfl
  rw[this];exact zlq d ts (j+1) acc k h
 | (true,t)::ts,j,acc,k,h=>by
  cases t
  case sl sz rows=>exact zlq d ts (j+1) _ k (by unfold eK;exact J8 _ h)
  all_goals exact zlq d ts (j+1) acc k h
theorem zxg (d:Nat):∀(ts:List (Bool×T))(j:Nat)(acc:List (Nat×Ev))(f f':Nat->Option Ev),(∀e,(2,e)∈eK (mEl d j ts acc)->f' e=f e)->mF d j ts f->mF d j ts f'
 | [],_,_,_,_,_,_=>trivial
 | (false,t)::ts,j,acc,f,f',hk,h=>by
  have e0:mEl d j ((false,t)::ts) acc=mEl d (j+1) ts acc:=by cases t<;>rfl
  rw[e0]at hk;exact zxg d ts (j+1) acc f f' hk h
 | (true,t)::ts,j,acc,f,f',hk,h=>by
  cases t
  case sl sz rows =>
   obtain⟨h1,h2⟩:=h;have hm:(2,d*32+j)∈eK (mEl d j ((true,.sl sz rows)::ts) acc):=zlq d ts (j+1) _ _ (by unfold eK;simp);refine⟨(hk _ hm).trans h1,zxg d ts (j+1) ((d*32+j,⟨true,sz,rows,0,true⟩)::acc) _ _ (fun e he=>?_) h2⟩;by_cases hee:e=d*32+j
   ·subst hee;show upd _ _ _ _=upd _ _ _ _;rw[zae,zae]
   ·show upd _ _ _ _=upd _ _ _ _;rw[zak _ _ hee,zak _ _ hee];exact hk e he
  all_goals exact⟨h.1,zxg d ts (j+1) acc _ _ hk h.2⟩
def boK:List (Nat×List C)->List Ky
 | []=>[]
 | (k,_)::l=>(1,k)::boK l
def wK1:List Nat->List Ky
 | []=>[]
 | k::l=>(1,k)::wK1 l
theorem zv3 {n e:Nat}:∀{l:List (Nat×List C)},(n,e)∈boK l->n=1
 | [],h=>by simp[boK]at h
 | (e',x)::l,h=>by
  simp only[boK,Qp,Qn]at h;rcases h with h|h
  ·exact h.1
  ·exact zv3 h
theorem qrn:∀l,okK (boK l)=true
 | []=>rfl
 | (e,x)::l=>by have:=qrn l;unfold okK at *;simpa[boK]using this
theorem qse:∀l,okK (wK1 l)=true
 | []=>rfl
 | e::l=>by have:=qse l;unfold okK at *;simpa[wK1]using this
theorem qg9:∀{l:List (Nat×List C)}(f f':Nat->Option (List C)){e:Nat},(1,e)∈boK l->qcq l f e=qcq l f' e
 | [],f,f',e,h=>by simp[boK]at h
 | (e',x)::l,f,f',e,h=>by
  unfold qcq;by_cases he:e=e'
  ·subst he;rw[zae,zae]
  ·rw[zak _ _ he,zak _ _ he];simp only[boK,Qp,Qn]at h;exact qg9 f f' (h.resolve_left fun hh=>he hh.2)
theorem zqg:∀{l:List (Nat×List C)}(f:Nat->Option (List C)){e:Nat},(1,e)∉boK l->qcq l f e=f e
 | [],f,e,h=>rfl
 | (e',x)::l,f,e,h=>by
  simp only[boK,Qp,Qn,true_and,not_or]at h;unfold qcq;rw[zak _ _ h.1,zqg f h.2]
def St.upEB (σ:St)(l:List (Nat×Ev))(bl:List (Nat×List C)):St:=⟨σ.sl,qcq bl σ.bx,zn9 l σ.ev⟩
theorem zf0.ofB {o:Oper}{σ:St}{R:List Ky}{l:List (Nat×Ev)}{bl:List (Nat×List C)}{v:V}{d:Nat}(hd:o.dst=some d)(hR:okK R=true)(h:∀σ1,(∀k∈R,za8 σ σ1 k)->zah P o σ1 ((σ1.upEB l bl).put (some d) v)):zf0 P o R (dK (some d)++(boK bl++eK l)) σ ((σ.upEB l bl).put (some d) v):=by
 have hW:okK (dK (some d)++(boK bl++eK l))=true:=zba (zv0 _) (zba (qrn _) (qbl _))
 refine⟨hW,hR,fun k hk3 hk=>?_,fun σ1 h1=>?_⟩
 ·simp only[Qm,not_or]at hk;refine za8.trans ?_ (zhc hk.1);obtain⟨n,i⟩:=k
  match n,hk3 with
  | 0,_=>rfl
  | 1,_=>exact(zqg σ.bx hk.2.1).symm
  | 2,_=>exact(zja σ.ev hk.2.2).symm
 ·have:zno σ1 (dK (some d)++(boK bl++eK l)) ((σ.upEB l bl).put (some d) v)=(σ1.upEB l bl).put (some d) v:=by
   refine za8.all3 fun c i hc=>?_;by_cases hin:(c,i)∈dK (some d)++(boK bl++eK l)
   ·refine(zgv hW hin).trans ?_;simp only[Qm]at hin
    match c,hc with
    | 0,_ =>
     rcases hin with h|h|h
     ·simp only[dK,Qp,Ku,or_false,Qn,true_and]at h;subst h;show upd _ _ _ _=upd _ _ _ _
      rw[zae,zae]
     ·have:=zv3 h;omega
     ·have:=zrx h;omega
    | 1,_ =>
     rcases hin with h|h|h
     ·simp[dK]at h
     ·exact qg9 _ _ h
     ·have:=zrx h;omega
    | 2,_ =>
     rcases hin with h|h|h
     ·simp[dK]at h
     ·have:=zv3 h;omega
     ·exact zwj _ _ h
   ·refine(zdt hc hin).trans ?_;simp only[Qm,not_or]at hin;refine za8.trans ?_ (zhc hin.1)
    match c,hc with
    | 0,_=>rfl
    | 1,_=>exact(zqg σ1.bx hin.2.1).symm
    | 2,_=>exact(zja σ1.ev hin.2.2).symm
  rw[this];exact h σ1 h1
def St.callQ (σ:St)(d:Nat)(W:List Nat)(bx':Bxs)(res:List (Bool×D)):St:={ sl:=upd σ.sl d (znn (mD d 0 res)),bx:=qcq (boL d (zcj res).length W bx') σ.bx,ev:=zn9 (mEl d 0 (zcj res++bx'.flatten) []) σ.ev }
theorem zzb (σ:St)(d:Nat)(W:List Nat)(bx':Bxs)(res:List (Bool×D)):σ.callQ d W bx' res=((σ.upEB (mEl d 0 (zcj res++bx'.flatten) []) (boL d (zcj res).length W bx')).put (some d) (znn (mD d 0 res))):=rfl
theorem zsi {W:List Nat}{o:Oper}{σ:St}{x:Operand}{asx:Array Operand}{ts:Array TypeId}{f:FuncId}{cvs:List V}{d:Nat}{bx bx':Bxs}{l:List AF}{res:List (Bool×D)}(ho:o.op=.call ⟨.value x,asx,ts⟩)(hd:o.dst=some d)
  (h:PC P f bx l bx' res) (hc:za0 (σ.get P 0 x)=some (f,cvs)) (hWn:W.Nodup)
  (hv:mtK W l (σ.gets P asx ts++cvs) fun us=>qrl σ W bx fun cs=>gvQ (us++cs) (AF.ds l++bxA bx.flatten)) (hf:mF d 0 (zcj res++bx'.flatten) σ.ev):zah P o σ (σ.callQ d W bx' res):=by
 intro n0 N g a w hR hn hdN
 obtain⟨vs,h1,h2⟩:=zdb hR ho hc h.1
 unfold Oper.wp
 rw[h1]
 let bs:Nat->Nat:=fun j=>g.β (W.getD j 0)
 have hbs:∀j b,W[j]?=some b->bs j=g.β b:=fun j b hj=>by show g.β (W.getD j 0)=_;rw[List.getD_eq_getElem?_getD,hj];rfl
 obtain⟨us,dvs,a1,a2,a3,rfl⟩:=zib hbs hv h2
 obtain⟨cs,bvs,b1,b2,b3,b4,b5⟩:=zo4 hR (bs:=bs) (j:=0) (fun i b hi=>by rw[Q5];exact hbs i b hi) a1
 have k2:=zmk b1 (VRl.append a2 b2)
 have hWj:∀j,j<bx.length->∃b,W[j]?=some b/\b∈W/\bs j=g.β b:=fun j hj=>by
  have hlt:j<W.length:=by omega
  exact⟨W[j],List.getElem?_eq_getElem hlt,Qj hlt,hbs j _ (List.getElem?_eq_getElem hlt)⟩
 have hinj:∀i j,i<bx.length->j<bx.length->bs i=bs j->i=j:=fun i j hi hj he=>by
  obtain⟨b,e1,e2,e3⟩:=hWj i hi;obtain⟨c,f1,f2,f3⟩:=hWj j hj;have:b=c:=hR.inj b c (b5 b e2) (b5 c f2) (by rw[<-e3,<-f3];exact he);subst this;have hi':i<W.length:=by omega
  have hj':j<W.length:=by omega
  rw[List.getElem?_eq_getElem hi']at e1;rw[List.getElem?_eq_getElem hj']at f1;exact(List.getElem_inj hWn).1 ((J7 e1).trans (J7 f1).symm)
 have hfb:∀b,zb8 σ g w b->∀j,j<bx.length->b≠bs j:=fun b hb j hj e=>by
  obtain⟨c,_,e2,e3⟩:=hWj j hj;exact hb.1.1 c (b5 c e2) (by rw[<-e3,e])
 refine(h.2.2 w bs bvs dvs [] [] (zb8 σ g w) hinj (fun j _=>by simp) b3 (za3.keepA (fun b hb=>⟨⟨hb.1.2.2.1,by simp,hfb b hb⟩,hb⟩) k2) Kn a3).mono ?_
 rintro e w' ⟨us',bvs',fp',tp',rfl,hbx',hlu,o1,o2,o3,hbk⟩
 obtain⟨v1,v2,f1,f2,t1,t2,ev,ef,et,p1,p2⟩:=za3.split o1
 obtain⟨rfl,rfl⟩:=Yi ev (by rw[hlu,za3.len p1])
 subst ef
 obtain⟨t1',p1'⟩:=p1.flat
 have pp:=za3.append p1' p2
 rw[<-zj6]at pp
 have e0:mE d 0 (zcj res++bx'.flatten) σ.ev=zn9 (mEl d 0 (zcj res++bx'.flatten) []) σ.ev:=zxi d _ 0 [] σ.ev
 have e1:zqk d (zcj res).length W bx' σ.bx=qcq (boL d (zcj res).length W bx') σ.bx:=zzk d W bx' _ _
 obtain⟨g',q1,q2,q3⟩:=New.mix (τ:=σ) (g:=g) (NB:=fun b=>w.heap.size<=b) (w':=w') d (zcj res++bx'.flatten) _ (f1++f2) _ 0 σ.ev g [] (New.refl _ _ _ _ hR.slc) hf pp o2 (fun b hb'=>⟨by simpa using o3 b hb',by simp⟩)
 have hbk':Bk (fun k=>k<w.heap.size/\∀b∈W,k≠g.β b) w w':=⟨hbk.os,hbk.tape,hbk.output,hbk.size,fun k hk=>hbk.block k ⟨hk.1,by simp,fun j hj e=>by
  obtain⟨c,_,e2,e3⟩:=hWj j hj
  exact hk.2 c e2 (by rw[<-e3,e])⟩⟩
 have hWl:W.length=bx'.length:=by rw[h.2.1];omega
 have hdom:∀b,zqk d (zcj res).length W bx' σ.bx b≠none↔σ.bx b≠none:=fun b=>by
  by_cases hbW:b∈W
  ·exact⟨fun _=>b5 b hbW,fun _=>qih d W bx' _ _ b hWl hbW⟩
  ·rw[zpo d W bx' _ _ b hbW]
 have hfree:∀k,((k<w'.heap.size/\k∉f1++f2/\∀j,j<bx.length->k≠bs j)/\(zb8 σ g w k\/w.heap.size<=k\/k∈([]:List Nat)))->zb8 ⟨σ.sl,zqk d (zcj res).length W bx' σ.bx,mE d 0 (zcj res++bx'.flatten) σ.ev⟩ g' w' k:=fun k hk=>by
  have hno:∀e,St.On ⟨σ.sl,zqk d (zcj res).length W bx' σ.bx,mE d 0 (zcj res++bx'.flatten) σ.ev⟩ e->k∉g'.φ e:=fun e ho' hm=>by
   by_cases hee:σ.ev e=none
   ·obtain⟨x,hx,_⟩:=ho';have:=((q1.new e x hee hx).2.2.1 k hm).2;rw[Kx]at this;exact hk.1.2.1 this
   ·rw[(q1.old e hee).2.2]at hm;obtain⟨x,hx,hon⟩:=ho';have ho2:σ.On e:=⟨x,(q1.old e hee).1.symm.trans hx,hon⟩;rcases hk.2 with h|h|h
    ·exact h.2 e ho2 hm
    ·obtain⟨y,hy,hyo⟩:=ho2;have:=(hR.evs e y hy hyo).lt k hm;omega
    ·simp at h
  refine⟨⟨fun j hj e=>?_,fun e x hx hon hh=>hno e ⟨x,hx,hon⟩ (List.mem_of_mem_head? hh),hk.1.1,?_⟩,hno⟩
  ·have hj':=(hdom j).1 hj;rw[q1.β]at e;rcases hk.2 with h|h|h
   ·exact h.1.1 j hj' e
   ·have:=hR.lt hj';omega
   ·simp at h
  ·rw[q1.A0];rcases hk.2 with h|h|h
   ·exact h.1.2.2.2
   ·exact(hR.anew k (hn.new h)).1
   ·simp at h
 have hcr:=q3 ⟨σ.sl,zqk d (zcj res).length W bx' σ.bx,mE d 0 (zcj res++bx'.flatten) σ.ev⟩ w' rfl fun t v h=>zas.keep (fun _ _=>rfl) hfree t v h
 obtain⟨hc1,hc2⟩:=hcr.split_flat (A:=fun _=>True) (w':=w') (m:=0) (za3.one_vals p1)
 have hR':=hR.afterB hn hbk' hdom (fun b hb=>zpo d W bx' _ _ b hb) b5 q1 (zod d W bx' bvs' 0 (zcj res).length σ.bx (fun i b hi=>by rw[Q5];exact hbs i b hi) hbx' hc2 hWl)
 have hBk:Bk n0 w w':=⟨hbk.os,hbk.tape,hbk.output,hbk.size,fun k hk=>hbk.block k ⟨hn k hk,by simp,fun j hj e=>by
  obtain⟨c,_,e2,e3⟩:=hWj j hj
  exact hR.base c (b5 c e2) (by rw[<-e3,<-e];exact hk)⟩⟩
 refine⟨g',?_,hBk,q1.A0,q1.R0⟩
 have hp:=hR'.put (some d) (x:=znn (mD d 0 res)) (v:=zci us') (ze6 (qax d 0 p1 hc1) (zxq d res 0)) (fun i hi=>by cases hi;exact hdN d hd)
 rw[e0,e1]at hp
 rw[hd]
 exact hp
section
variable {ks:List Fr}{Q:Exit->St->Prop}{σ:St}{ops:Array Oper}{os:List Oper}{L:List (List Ky×List Ky)}{ty:TypeId}{ps:String}{af:Array Edge}{d:Nat}{x:Operand}{asx:Array Operand}{ts:Array TypeId}{f:FuncId}{bx bx':Bxs}{l:List AF}{res:List (Bool×D)}
theorem callQ (W:List Nat)(h:PC P f bx l bx' res)(hWn:W.Nodup)
  (hp:zar (za0 (σ.get P 0 x)) fun p=>p.1=f/\mtK W l (σ.gets P asx ts++p.2) fun us=>qrl σ W bx fun cs=>gvQ (us++cs) (AF.ds l++bxA bx.flatten)) (hf:mF d 0 (zcj res++bx'.flatten) σ.ev)
  (k:exo P ops os ks Q (σ.callQ d W bx' res)):exo P ops (⟨some d,.call ⟨.value x,asx,ts⟩,ty,ps,af,none⟩::os) ks Q σ:=by
 obtain⟨⟨f',cvs⟩,h1,rfl,h2⟩:=zai hp
 exact zc6 rfl rfl (zsi rfl rfl h h1 hWn h2 hf) k
theorem zxv {σ1:St}:∀{W:List Nat}{bx:Bxs}{K:List V->Prop},(∀k∈wK1 W,za8 σ σ1 k)->qrl σ W bx K->qrl σ1 W bx K
 | [],[],_,_,h=>h
 | [],_::_,_,_,h=>h.elim
 | _::_,[],_,_,h=>h.elim
 | k::W,b::bx,K,hs,h=>by
  obtain⟨cs,h1,h2,h3⟩:=zai h;have:σ1.bx k=some cs:=(Eq.symm (hs (1,k) (by simp[wK1]))).trans h1;show zar (σ1.bx k) _
  rw[this];exact⟨h2,zxv (W:=W) (fun k hk=>hs k (by simp[wK1,hk])) h3⟩
theorem qkg {σ1:St}{asx:Array Operand}{ts:Array TypeId}(h:∀k∈zat asx.toList,za8 σ σ1 k):σ1.gets P asx ts=σ.gets P asx ts:=by
 unfold St.gets
 refine K0 fun p hp=>?_
 exact zb7 h (List.of_mem_zip hp).1 _
theorem znc {x:Operand}{l:List Operand}{k:Ky}(h:k∈zat l):k∈zat (x::l):=by
 cases x<;>first|exact J8 _ h|exact h
theorem dCallQ (W:List Nat)(h:PC P f bx l bx' res)(hWn:W.Nodup)
  (hp:zar (za0 (σ.get P 0 x)) fun p=>p.1=f/\mtK W l (σ.gets P asx ts++p.2) fun us=>qrl σ W bx fun cs=>gvQ (us++cs) (AF.ds l++bxA bx.flatten)) (hf:mF d 0 (zcj res++bx'.flatten) σ.ev)
  (k:exd P ops os (L++[(zat (x::asx.toList)++(wK1 W++eK (mEl d 0 (zcj res++bx'.flatten) [])),dK (some d)++(boK (boL d (zcj res).length W bx')++eK (mEl d 0 (zcj res++bx'.flatten) [])))]) ks Q (σ.callQ d W bx' res)) :
  exd P ops (⟨some d,.call ⟨.value x,asx,ts⟩,ty,ps,af,none⟩::os) L ks Q σ:=by
 obtain⟨⟨f',cvs⟩,h1,rfl,h2⟩:=zai hp
 refine zgj rfl rfl ?_ k
 rw[zzb]
 refine zf0.ofB rfl (zba (zbc _) (zba (qse _) (qbl _))) fun σ1 hs=>?_
 rw[<-zzb]
 have e1:σ1.get P 0 x=σ.get P 0 x:=zb7 (l:=x::asx.toList) (fun k hk=>hs k (by simp only[Qm];exact Or.inl hk)) (by simp) 0
 have e2:σ1.gets P asx ts=σ.gets P asx ts:=qkg fun k hk=>hs k (by simp only[Qm];exact Or.inl (znc hk))
 refine zsi rfl rfl h (by rw[e1];exact h1) hWn (by rw[e2];exact qow (fun us hu=>zxv (fun k hk=>hs k (by simp only[Qm];exact Or.inr (Or.inl hk))) hu) h2) ?_
 exact zxg d _ 0 [] _ _ (fun e he=>Eq.symm (hs (2,e) (by simp only[Qm];exact Or.inr (Or.inr he)))) hf
theorem zaz {ds0 res0:List D}{gR:List Ky}(h:FC P f ds0 res0)(hp:zar (za0 (σ.get P 0 x)) fun p=>p.1=f/\VDs σ (σ.gets P asx ts++p.2) ds0/\zio d 0 (zbi res0) σ.ev)
  (k:exd P ops os (L++[(gR++(zat (x::asx.toList)++(vsK σ (σ.gets P asx ts++qu2 (za0 (σ.get P 0 x)))++eK (owL d 0 (zbi res0)))),dK (some d)++eK (owL d 0 (zbi res0)))]) ks Q (σ.callF d res0)) :
  zrf P ops ⟨some d,.call ⟨.value x,asx,ts⟩,ty,ps,af,none⟩ os L gR ks Q σ:=by
 obtain⟨⟨f',cvs⟩,h1,rfl,h2,h3⟩:=zai hp
 rw[h1]at k
 exact qj2 _ _ _ _ _ _ rfl (zr2 rfl rfl h h1 h2 h3) k
end
attribute [go_sem] gvQ qcq boL mEl boK wK1 St.callQ
end
section
open Go.RowKit
variable {P:Program}
attribute [go_sem] St.upEB
end
section
open Go.RowKit
variable {P:Program}
section
variable {σ σ':St}{g g':Gh}{w:World}
theorem qs4 (hβ:g'.β=g.β)(hb:σ'.bx=σ.bx)(hh:∀e n,σ.has e n->σ'.has e n/\g'.ψ e n=g.ψ e n)(hrn:∀b,zb8 σ g w b->zb8 σ' g' w b){c:C}{v:Value}(hc:c.mOk=true)(h:CR σ g w c v):CR σ' g' w c v:=by
 cases c with
 | t x=>exact zcx hc h
 | nl s=>exact h
 | ow e n=>exact⟨by rw[(hh e n h.2).2];exact h.1,(hh e n h.2).1⟩
 | bx b o=>exact⟨by rw[hβ];exact h.1,by rw[hb];exact h.2⟩
 | el cs o=>cases hc
 | eo e s sz i o=>obtain⟨b,n,c,k1,k2,k3,k4⟩:=h;exact⟨b,n,c,by rw[(hh e s k4).2];exact k1,k2,k3,(hh e s k4).1⟩
 | fn f caps=>exact⟨by rw[hβ];exact h.1,by rw[hb];exact h.2⟩
 | cv u=>exact h
 | any=>trivial
 | rn x=>exact zas.keep (fun _ _=>rfl) hrn x v h
 | er cs o=>obtain⟨b,q,h1,h2,h3⟩:=h;exact⟨b,q,h1,hrn b h2,zbk.keep (fun _ _=>rfl) hrn b rfl q cs h3⟩
theorem ztw (hβ:g'.β=g.β)(hb:σ'.bx=σ.bx)(hh:∀e n,σ.has e n->σ'.has e n/\g'.ψ e n=g.ψ e n)(hrn:∀b,zb8 σ g w b->zb8 σ' g' w b):∀{cs:List C}{vs:List Value},cs.all C.mOk=true->CRs σ g w cs vs->CRs σ' g' w cs vs
 | [],_,_,h=>h
 | c::cs,vs,hc,h=>by
  rw[Kq,Qe]at hc;obtain⟨v,vs',rfl,h1,h2⟩:=h;exact⟨v,vs',rfl,qs4 hβ hb hh hrn hc.1 h1,ztw hβ hb hh hrn hc.2 h2⟩
theorem qrt (hβ:g'.β=g.β)(hb:σ'.bx=σ.bx)(hh:∀e n,σ.has e n->σ'.has e n/\g'.ψ e n=g.ψ e n)(hrn:∀b,zb8 σ g w b->zb8 σ' g' w b):∀{xs:List (Bool×List C)}{vs:List Value},(xs.all fun x=>x.2.all C.mOk)=true->CRt σ g w xs vs->CRt σ' g' w xs vs
 | [],_,_,h=>h
 | x::xs,vs,hc,h=>by
  rw[Kq,Qe]at hc;obtain⟨v,vs',rfl,h1,h2⟩:=h;refine⟨v,vs',rfl,?_,qrt hβ hb hh hrn hc.2 h2⟩;unfold CRx at h1⊢;split at h1
  ·rw[if_pos ‹_›];obtain⟨a,k1,k2⟩:=h1;exact⟨a,k1,ztw hβ hb hh hrn hc.1 k2⟩
  ·rw[if_neg ‹_›];obtain⟨c,k1,k2⟩:=h1;refine⟨c,k1,qs4 hβ hb hh hrn ?_ k2⟩;have:=hc.1;rw[k1]at this;simpa using this
theorem mv_vr (hβ:g'.β=g.β)(hb:σ'.bx=σ.bx)(hh:∀e n,σ.has e n->σ'.has e n/\g'.ψ e n=g.ψ e n)(hrn:∀b,zb8 σ g w b->zb8 σ' g' w b){x:V}{v:Value}(hc:x.mOk=true)(h:VR σ g w x v):VR σ' g' w x v:=by
 cases x with
 | one c=>exact qs4 hβ hb hh hrn hc h
 | agg cs=>obtain⟨a,k1,k2⟩:=h;exact⟨a,k1,ztw hβ hb hh hrn hc k2⟩
 | tup xs=>obtain⟨a,k1,k2⟩:=h;exact⟨a,k1,qrt hβ hb hh hrn hc k2⟩
end
def WkX (σ:St)(K:St->Prop):Prop:=∀n0 N g a w,Rel n0 N σ g a w->LtK n0 w->∃σ' g',K σ'/\Rel n0 N σ' g' a w/\g'.A0=g.A0/\g'.R0=g.R0
theorem zbn.preX {o:Oper}{σ:St}{K:St->Prop}(h:WkX σ fun σ'=>zbn P o σ' K):zbn P o σ K:=fun n0 N g a w hR hn hd=>by
 obtain⟨σ1,g1,k,h1,h2,h3⟩:=h n0 N g a w hR hn
 have:=k n0 N g1 a w h1 hn hd
 unfold Oper.wp at this⊢
 revert this
 cases (execOp a.eval o).run P w<;>intro this<;>try exact this
 all_goals (revert this;rw[h2,h3];exact id)
theorem zxp {s:Nat}:∀{l:List (Nat×V)},(l.all fun p=>p.1==s||p.2.mOk)=true->∀i,(upd (zjl l) s (.one .any) i).mOk=true
 | [],_,i=>by
  unfold upd;split<;>rfl
 | (j,v)::l,h,i=>by
  rw[Kq,Qe,K5]at h;have ih:=zxp h.2 i;by_cases hi:i=s
  ·subst hi;rw[zae];rfl
  ·rw[zak _ _ hi]at ih⊢;unfold zjl;split
   ·rename_i hj;rcases h.1 with h1|h1
    ·exact absurd (hj.trans (by simpa using h1)) hi
    ·exact h1
   ·exact ih
section
variable {ks:List Fr}{Q:Exit->St->Prop}{σ:St}{ops:Array Oper}{os:List Oper}{o:Oper}
theorem qp6 (hg:o.guard=none)(hs:zrh o.op=true)(h:WkX σ (exo P ops (o::os) ks Q)):exo P ops (o::os) ks Q σ:=by
 have key:∀σ,exo P ops (o::os) ks Q σ=zbn P o σ (exo P ops os ks Q):=fun σ=>by
  conv=>lhs;unfold exo zcd exG
  rw[hg];simp only;unfold zcs znh;rw[if_pos (by rw[hs];rfl)];rfl
 rw[key]
 refine zbn.preX fun n0 N g a w hR hn=>?_
 obtain⟨σ1,g1,k,r⟩:=h n0 N g a w hR hn
 rw[key]at k
 exact⟨σ1,g1,k,r⟩
end
end
section
open Go.RowKit
variable {P:Program}
section
variable {ks:List Fr}{Q:Exit->St->Prop}{σ:St}{ops:Array Oper}{os:List Oper}{L:List (List Ky×List Ky)}{d:Nat}{t:TypeId}{ty:TypeId}{ps:String}{af:Array Edge}{len:Nat}{parts:Array (Nat×Operand)}
theorem zit (h:zar (blS P σ t len parts) fun _=>σ.ev (d*32)=none)
  (k:exd P ops os (L++[(zat (parts.toList.map (·.2))++(rK (qib (zk2 P (σ.get P) t len parts))++[(2,d*32)]),dK (some d)++eK (blK d (blS P σ t len parts)))]) ks Q ((σ.bl d (blS P σ t len parts)).put (some d) (.one (.ow (d*32) 0)))) :
  exd P ops (⟨some d,.buildSlice t len parts,ty,ps,af,none⟩::os) L ks Q σ:=by
 obtain⟨⟨x,cons⟩,h1,h2⟩:=zai h
 rw[h1]at k
 unfold blS at h1
 obtain⟨p,e1,h1⟩:=Qd.1 h1
 obtain⟨q,e2,h1⟩:=Q0.1 h1
 simp only[Qn]at h1
 obtain⟨rfl,rfl⟩:=h1
 rw[e1]at k
 exact qtw ⟨e1,e2,h2⟩ k
end
end
section
open Go.RowKit
variable {P:Program}{N:Nat}
def zb6 (P:Program)(N:Nat)(c:Code)(σ:St)(Q:Exit->St->Prop):Prop:=∀n0 w0 A0 g a w,Rel n0 N σ g a w->LtK n0 w->Bk n0 w0 w->(g.A0,g.R0)=A0->c.wp P (Ends n0 N w0 A0 Q) a w
theorem Ends.mono {n0:Nat->Prop}{w0:World}{A0:(Nat->Prop)×RP}{Q Q':Exit->St->Prop}(h:∀e σ,Q e σ->Q' e σ){e:Exit}{a:Act}{w:World}:Ends n0 N w0 A0 Q e a w->Ends n0 N w0 A0 Q' e a w
 | ⟨σ,g,h1,h2⟩=>⟨σ,g,h _ _ h1,h2⟩
theorem zb6.mono {c:Code}{σ:St}{Q Q':Exit->St->Prop}(h:∀e σ,Q e σ->Q' e σ)(k:zb6 P N c σ Q):zb6 P N c σ Q':=fun n0 w0 A0 g a w h1 h2 h3 h4=>wp_mono (k n0 w0 A0 g a w h1 h2 h3 h4) fun _ _ _=>Ends.mono h
theorem zb6.ofEx {c:Code}{σ:St}{Q:Exit->St->Prop}(hd:zc2 N c=true)(h:ex P c [] Q σ):zb6 P N c σ Q:=fun _ _ _ g a w h1 h2 h3 h4=>zbs c σ Q hd h g a w h1 h2 h3 h4
def qe4 (P:Program)(N:Nat)(c:Code)(Q:Exit->St->Prop)(e:Exit)(σ:St):Prop:=match e with|.normal=>zb6 P N c σ Q|e=>Q e σ
theorem zrp (c:Code)(Q:Exit->St->Prop)(σ:St):qe4 P N c Q .normal σ=zb6 P N c σ Q:=rfl
theorem qle (c:Code)(Q:Exit->St->Prop)(σ:St):qe4 P N c Q .ret σ=Q .ret σ:=rfl
theorem qcn (c:Code)(Q:Exit->St->Prop)(σ:St)(i:Nat):qe4 P N c Q (.exit i) σ=Q (.exit i) σ:=rfl
theorem zb6.seq {x y:Code}{σ:St}{Q:Exit->St->Prop}(h:zb6 P N x σ (qe4 P N y Q)):zb6 P N (.seq x y) σ Q:=fun n0 w0 A0 g a w h1 h2 h3 h4=>by
 refine wp_seq (wp_mono (h n0 w0 A0 g a w h1 h2 h3 h4) fun e a' w' hq=>?_)
 obtain⟨σ',g',k1,k2,k3,k4,k5⟩:=hq
 cases e with
 | normal=>exact k1 n0 w0 A0 g' a' w' k2 k3 k4 k5
 | exit i=>exact⟨σ',g',k1,k2,k3,k4,k5⟩
 | goto l=>exact⟨σ',g',k1,k2,k3,k4,k5⟩
 | ret=>exact⟨σ',g',k1,k2,k3,k4,k5⟩
 | panic ch=>exact⟨σ',g',k1,k2,k3,k4,k5⟩
 | outgrown=>exact⟨σ',g',k1,k2,k3,k4,k5⟩
def qq2:Nat->Code->Code
 | 0,.seq x _=>x
 | n+1,.seq x y=>.seq x (qq2 n y)
 | _,c=>c
def sufC:Nat->Code->Code
 | 0,.seq _ y=>y
 | n+1,.seq _ y=>sufC n y
 | _,_=>.skip
def okC:Nat->Code->Bool
 | 0,.seq _ _=>true
 | n+1,.seq _ y=>okC n y
 | _,_=>false
theorem zb6.cut:∀(n:Nat){c:Code}{σ:St}{Q:Exit->St->Prop},okC n c=true->zc2 N (qq2 n c)=true->ex P (qq2 n c) [] (qe4 P N (sufC n c) Q) σ->zb6 P N c σ Q
 | 0,.seq x y,σ,Q,_,hd,h=>zb6.seq (zb6.ofEx hd h)
 | n+1,.seq x y,σ,Q,ho,hd,h=>by
  simp only[qq2,zc2,Qe]at hd;refine zb6.seq (zb6.mono (fun e σ' k=>?_) (zb6.ofEx (Q:=_) hd.1 h));cases e with
  | normal=>exact zb6.cut n ho hd.2 k
  | exit i=>exact k
  | goto l=>exact k
  | ret=>exact k
  | panic ch=>exact k
  | outgrown=>exact k
def blkQ (i:Nat)(Q:Exit->St->Prop)(e:Exit)(σ:St):Prop:=match e with|.exit j=>if j=i then Q .normal σ else Q (.exit j) σ|e=>Q e σ
theorem zwi (i:Nat)(Q:Exit->St->Prop)(σ:St):blkQ i Q .normal σ=Q .normal σ:=rfl
theorem qqe (i:Nat)(Q:Exit->St->Prop)(σ:St):blkQ i Q .ret σ=Q .ret σ:=rfl
theorem zso (i j:Nat)(Q:Exit->St->Prop)(σ:St):blkQ i Q (.exit j) σ=if j=i then Q .normal σ else Q (.exit j) σ:=rfl
theorem zb6.block {i:Nat}{c:Code}{σ:St}{Q:Exit->St->Prop}(h:zb6 P N c σ (blkQ i Q)):zb6 P N (.block i c) σ Q:=fun n0 w0 A0 g a w h1 h2 h3 h4=>by
 refine wp_block (wp_mono (h n0 w0 A0 g a w h1 h2 h3 h4) fun e a' w' hq=>?_)
 obtain⟨σ',g',k1,k2,k3,k4,k5⟩:=hq
 cases e with
 | exit j =>
  simp only[Exit.inBlock];simp only[zso]at k1;split at k1
  ·rw[if_pos ‹_›];exact⟨σ',g',k1,k2,k3,k4,k5⟩
  ·rw[if_neg ‹_›];exact⟨σ',g',k1,k2,k3,k4,k5⟩
 | normal=>exact⟨σ',g',k1,k2,k3,k4,k5⟩
 | goto l=>exact⟨σ',g',k1,k2,k3,k4,k5⟩
 | ret=>exact⟨σ',g',k1,k2,k3,k4,k5⟩
 | panic ch=>exact⟨σ',g',k1,k2,k3,k4,k5⟩
 | outgrown=>exact⟨σ',g',k1,k2,k3,k4,k5⟩
def lpQ {X:Type}(I:X->St)(Pr:X->Prop)(μ:X->Nat)(x:X)(Q:Exit->St->Prop)(e:Exit)(σ:St):Prop:=match e with|.normal=>∃x',Pr x'/\μ x'<μ x/\Wk σ (I x')|e=>Q e σ
section
variable {X:Type}(I:X->St)(Pr:X->Prop)(μ:X->Nat)(x:X)
theorem qch (Q:Exit->St->Prop)(σ:St):lpQ I Pr μ x Q .normal σ=∃x',Pr x'/\μ x'<μ x/\Wk σ (I x'):=rfl
theorem qvr (Q:Exit->St->Prop)(σ:St):lpQ I Pr μ x Q .ret σ=Q .ret σ:=rfl
theorem qob (Q:Exit->St->Prop)(σ:St)(i:Nat):lpQ I Pr μ x Q (.exit i) σ=Q (.exit i) σ:=rfl
end
theorem zb6.loop {b:Code}{σ:St}{Q:Exit->St->Prop}{X:Type}(I:X->St)(Pr:X->Prop)(μ:X->Nat)(x0:X)(h0:Wk σ (I x0))(p0:Pr x0)(hr:∀x,Pr x->zb6 P N b (I x) (lpQ I Pr μ x Q)):zb6 P N (.loop b) σ Q:=fun n0 w0 A0 g a w h1 h2 h3 h4=>by
 refine zqa (fun n a w=>∃x g1,Pr x/\μ x=n/\Rel n0 N (I x) g1 a w/\LtK n0 w/\Bk n0 w0 w/\(g1.A0,g1.R0)=A0) ?_ (n:=μ x0) (by obtain⟨g0,r1,r2,r3⟩:=h0 _ _ _ _ _ h1;exact⟨x0,g0,p0,rfl,r1,h2,h3,by rw[r2,r3];exact h4⟩)
 rintro n a w ⟨x,g1,px,rfl,k2,k3,k4,k5⟩
 refine wp_mono (hr x px n0 w0 A0 g1 a w k2 k3 k4 k5) fun e a' w' hq=>?_
 obtain⟨σ',g',h1,h2,h3,h4,h5⟩:=hq
 cases e with
 | normal =>
  obtain⟨x',p',hlt,hwk⟩:=h1;obtain⟨g2,r1,r2,r3⟩:=hwk _ _ _ _ _ h2;exact⟨μ x',hlt,x',g2,p',rfl,r1,h3,h4,by rw[r2,r3];exact h5⟩
 | exit i=>exact⟨σ',g',h1,h2,h3,h4,h5⟩
 | goto l=>exact⟨σ',g',h1,h2,h3,h4,h5⟩
 | ret=>exact⟨σ',g',h1,h2,h3,h4,h5⟩
 | panic ch=>exact⟨σ',g',h1,h2,h3,h4,h5⟩
 | outgrown=>exact⟨σ',g',h1,h2,h3,h4,h5⟩
theorem qus {f:FuncId}{fn:Func}{c:Code}{args:List (Bool×D)}{res:List D}(hc:zbb P f)(hf:P.funcs[f]?=some fn)(hb:fn.body=some c)(hN:args.length<=fn.ntmps)(hs:zcg args)
  (h:∀(w:World) (vs:List Value) (fp tp:List Nat),za3 w (fun b=>b<w.heap.size/\b∉fp) args vs fp tp->∀(g:Gh) (a:Act),Rel (fun b=>b<w.heap.size/\b∉fp) fn.ntmps (zec args) g a w->(a.tmps=(⟨vs⟩:Array Value)++Array.replicate (fn.ntmps-vs.length) undef/\(g.A0,g.R0)=((fun _=>True),RP.of fun b=>b∈fp\/w.heap.size<=b)) →
   ∃σ0,zb6 P fn.ntmps c σ0 (PS P fn.results.toList res)/\Rel (fun b=>b<w.heap.size/\b∉fp) fn.ntmps σ0 g a w):GC P f args res:=by
 refine⟨hc,fun w vs fp tp hv hn=>?_⟩
 refine calls_of_wp hf hb ?_
 have hv':za3 w (fun b=>b<w.heap.size/\True/\b∉fp) args vs fp tp:=za3.keepA (fun b hb=>⟨hb.1,trivial,hb.2⟩) hv
 obtain⟨g,hg,hR⟩:=Rel.start (A0:=fun _=>True) (R0:=RP.of fun b=>b∈fp\/w.heap.size<=b) (N:=fn.ntmps) hv' hn hs hN (fun _ _=>trivial) (fun b hb=>⟨trivial,Or.inl hb⟩) (fun b hb=>⟨trivial,by
  by_cases hlt:b<w.heap.size
  ·exact Or.inl (Classical.byContradiction fun h=>hb ⟨hlt,h⟩)
  ·exact Or.inr Yp⟩)
 obtain⟨σ0,hex,hR0⟩:=h w vs fp tp hv g _ hR ⟨rfl,hg⟩
 refine wp_mono (hex _ w _ g _ w hR0 (fun k hk=>hk.1) (Bk.refl _ _) hg) fun e a' w' hq=>?_
 obtain⟨σ',g',h1,h2,h3,h4,h5⟩:=hq
 have fin:∀{us:List Value} {v:Value},(results fn a'.tmps).run P w'=.ok v w'->v=zci us->(∃fp' tp',GDs w' res us fp' tp'/\fp'.Nodup/\∀b∈fp',∃e,σ'.On e/\b∈g'.φ e)->∃v,(results fn a'.tmps).run P w'=.ok v w'/\∃us fp' tp',Ending.returned v=.returned (zci us)/\GDs w' res us fp' tp'/\fp'.Nodup/\(∀b∈fp',b∈fp\/w.heap.size<=b)/\Bk (fun k=>k<w.heap.size/\k∉fp) w w':=fun {us v} r1 rv ⟨fp',tp',o1,o2,o3⟩=>by
  refine⟨_,r1,us,fp',tp',by rw[rv],o1,o2,fun b hb=>?_,h4⟩;obtain⟨e,l,m⟩:=o3 b hb;have:=(h2.ebase e l b m).2;rw[(K1 h5).2]at this;exact this
 have key:(zar (zbu P σ' fn.results.toList) (fun vs=>qcu σ' [] vs res)\/PX P fn.results.toList res σ')->∃v,(results fn a'.tmps).run P w'=.ok v w'/\∃us fp' tp',Ending.returned v=.returned (zci us)/\GDs w' res us fp' tp'/\fp'.Nodup/\(∀b∈fp',b∈fp\/w.heap.size<=b)/\Bk (fun k=>k<w.heap.size/\k∉fp) w w':=fun hk=>by
  rcases hk with hk|⟨pl,hk⟩
  ·obtain⟨vs,hvs,hk⟩:=zai hk;obtain⟨us,r1,r2⟩:=zbr h2 fn hvs;obtain⟨used,fp',tp',o1,o2⟩:=zeq h2 hk r2;exact fin r1 rfl ⟨fp',tp',o1,o2.1,fun b hb=>by obtain⟨e,_,_,l,m⟩:=o2.2.1 b hb;exact⟨e,l,m⟩⟩
  ·obtain⟨vs,hvs,hk⟩:=zai hk;obtain⟨us,r1,r2⟩:=zbr h2 fn hvs;exact fin r1 rfl (qsm h2 hk r2)
 cases e with
 | normal=>exact⟨h2.defers,key h1⟩
 | ret=>exact⟨h2.defers,key h1⟩
 | exit _=>exact h1.elim
 | goto _=>exact h1.elim
 | panic _=>exact h1.elim
 | outgrown=>exact h1.elim
theorem qu6 {f:FuncId}{fn:Func}{c:Code}{args res:List D}(hc:zbb P f)(hf:P.funcs[f]?=some fn)(hb:fn.body=some c)(hN:(rd args).length<=fn.ntmps)
  (h:zb6 P fn.ntmps c (zl7 args) (PS P fn.results.toList res)):FC P f args res:=by
 refine qus hc hf hb hN (zcl args) fun w vs fp tp hv g a hR hg=>?_
 obtain⟨hr,rfl,rfl⟩:=zd7 hv
 exact⟨zl7 args,h,zr0 hr hR hg⟩
section
variable {ag:Bool}{b:Nat}
theorem qr0 {n0 n1:Nat->Prop}{w w':World}(hn:∀x,n0 x->n1 x)(h:Bk n1 w w'):Bk n0 w w':=⟨h.os,h.tape,h.output,h.size,fun k hk=>h.block k (hn k hk)⟩
end
attribute [go_sem] zrp qle qcn zwi qqe zso qch qvr qob qq2 sufC
end
section
open Go.RowKit
variable {P:Program}{N:Nat}
theorem zr3 {mt kt et:TypeId}{d:TypeDesc}(hm:P.underlying mt=some (.map kt et))(hd:P.underlying kt=some d){w:World}{r:Nat}{es:Array MapEntry}{clk:Nat}{key val:Value}(hb:w.heap[r]?=some (.map es clk))(hk:Go.MapKept.IsKey d key)(hf:Instr.findNow d key es.toList 0=some none) :
  (Instr.mapUpdate mt (.map (some r)) key val).run P w=.ok () { w with heap:=w.heap.setIfInBounds r (.map (es.push { key,val,born:=clk }) (clk+1)) }:=by
 simp[Instr.mapUpdate,run_underlying hm,Go.MapKept.run_getObj_map hb,Go.MapKept.run_checkKey hd hk,Go.MapKept.run_findKey hd hf,Go.MapKept.run_setObj_map _ hb,Result.andThen]
theorem zss {mt:TypeId}{w:World}:(Instr.makeMap mt none).run P w=.ok (.map (some w.heap.size)) (w.alloc (.map #[] 0)):=by
 simp[Instr.makeMap,Result.andThen]
theorem qe7 {ops:Array Oper}{K:St->Prop}{n0:Nat->Prop}{w0:World}{A0:(Nat->Prop)×RP}{R:Exit->Act->World->Prop}{rest:List Nat}(hg:∀o∈ops.toList,o.guard=none)(hR:∀a w σ g,K σ->Rel n0 N σ g a w->LtK n0 w->Bk n0 w0 w->(g.A0,g.R0)=A0->wpOps P ops R rest a w) :
  ∀(k i:Nat),i+k<=ops.size->(∀o∈ops.toList,∀d,o.dst=some d->d<N)->∀(σ:St) (g:Gh) (a:Act) (w:World),zcd P ops ((ops.toList.drop i).take k) σ K->Rel n0 N σ g a w->LtK n0 w->Bk n0 w0 w->(g.A0,g.R0)=A0->wpOps P ops R (List.range' i k++rest) a w
 | 0,i,hi,hd,σ,g,a,w,h,hr,hn,hb,hA=>by
  rw[List.take_zero]at h;exact hR a w σ g h hr hn hb hA
 | k+1,i,hi,hd,σ,g,a,w,h,hr,hn,hb,hA=>by
  have hlt:i<ops.size:=by omega
  have hcons:ops.toList.drop i=ops[i]::ops.toList.drop (i+1):=by
   rw[Qh (by simpa using hlt)];rfl
  rw[hcons,List.take_succ_cons]at h;rw[show List.range' i (k+1)++rest=i::(List.range' (i+1) k++rest) from rfl,wpOps_cons];have ho:ops[i]?=some ops[i]:=by simp[hlt]
  have hdi:∀d,ops[i].dst=some d->d<N:=hd _ (by simp);have hgi:ops[i].guard=none:=hg _ (by simp);unfold wpOp;simp only[ho];unfold zcd exG at h;rw[hgi]at h;have:Region.wanted ops[i] (yielded ops a.tmps)=true:=by simp[Region.wanted,hgi]
  rw[if_pos this];exact Or.inl (zc9 (fun a' w' ⟨σ',g',h0,k1,k2,k3,k4⟩=>qe7 hg hR k (i+1) Yp hd σ' g' a' w' h0 k1 (hn.mono k2.size) (hb.trans k2) (by rw[k3,k4];exact hA)) (zi0 h n0 N g a w hr hn hdi))
def mvC:C->Option T
 | .rn t=>some t
 | .t t=>if t.flat=true then some t else none
 | _=>none
def mvCs:List C->Option (List T)
 | []=>some []
 | c::cs=>(mvC c).bind fun t=>(mvCs cs).map fun ts=>t::ts
def mvV (ag:Bool):V->Option (List T)
 | .agg cs=>if ag=true then mvCs cs else none
 | .one c=>if ag=true then none else (mvC c).map fun t=>[t]
 | _=>none
theorem qdr {σ:St}{g:Gh}{w:World}{A:Nat->Prop}(hA:∀b,zb8 σ g w b->A b){c:C}{t:T}{v:Value}(h:mvC c=some t)(hv:CR σ g w c v):zas w A t v:=by
 cases c<;>simp only[mvC,Qc,reduceCtorEq]at h
 ·split at h
  ·rename_i hf;obtain rfl:=J7 h;exact zcx hf hv
  ·cases h
 ·subst h;exact zas.keep (fun _ _=>rfl) hA _ _ hv
theorem zzx {σ:St}{g:Gh}{w:World}{A:Nat->Prop}(hA:∀b,zb8 σ g w b->A b):∀{cs:List C}{ts:List T}{vs:List Value},mvCs cs=some ts->CRs σ g w cs vs->zaf w A ts vs
 | [],ts,vs,h,hv=>by
  obtain rfl:=J7 h;unfold zaf;exact hv
 | c::cs,ts,vs,h,hv=>by
  obtain⟨t,h1,h⟩:=Qd.1 h;obtain⟨ts',h2,rfl⟩:=Q0.1 h;obtain⟨v,vs',rfl,k1,k2⟩:=hv;unfold zaf;exact⟨v,vs',rfl,qdr hA h1 k1,zzx hA h2 k2⟩
theorem qji {σ:St}{g:Gh}{w:World}{A:Nat->Prop}(hA:∀b,zb8 σ g w b->A b){ag:Bool}{x:V}{ts:List T}{v:Value}(h:mvV ag x=some ts)(hv:VR σ g w x v):∃us,(if ag=true then v=.agg ⟨us⟩else us=[v])/\zaf w A ts us:=by
 cases x with
 | agg cs =>
  simp only[mvV]at h;split at h
  ·rename_i hag;obtain⟨us,rfl,hc⟩:=hv;exact⟨us,by rw[if_pos hag],zzx hA h hc⟩
  ·cases h
 | one c =>
  simp only[mvV]at h;split at h
  ·cases h
  ·rename_i hag;obtain⟨t,h1,rfl⟩:=Q0.1 h;refine⟨[v],by rw[if_neg hag],?_⟩;unfold zaf;refine⟨v,[],rfl,qdr hA h1 hv,?_⟩;unfold zaf;rfl
 | tup _=>cases h
theorem zam.push {w:World}{A:Nat->Prop}{ag:Bool}{r:List T}{e:MapEntry}(he:∃us,(if ag=true then e.val=.agg ⟨us⟩else us=[e.val])/\zaf w A r (e.key::us)):∀{rows:List (List T)}{es:List MapEntry},zam w A ag rows es->zam w A ag (rows++[r]) (es++[e])
 | [],es,h=>by
  unfold zam at h;subst h;obtain⟨us,h1,h2⟩:=he;show zam w A ag [r] [e]
  unfold zam;refine⟨e,[],us,rfl,h1,h2,?_⟩;unfold zam;rfl
 | _::rows,es,h=>by
  unfold zam at h;obtain⟨e',es',us,rfl,h1,h2,h3⟩:=h;show zam w A ag (_::(rows++[r])) (e'::(es'++[e]))
  unfold zam;exact⟨e',_,us,rfl,h1,h2,zam.push he h3⟩
theorem zfo {d:TypeDesc}{k:T}(h:zuo d k=true):k.flat=true:=by
 cases d<;>cases k<;>simp[zuo]at h<;>rfl
theorem Rel.enter1 {n0:Nat->Prop}{σ:St}{g:Gh}{a:Act}{w:World}(h:Rel n0 N σ g a w)(o1:Obj) :
  Rel (fun b=>n0 b\/b=w.heap.size) N σ { g with A0:=fun b=>g.A0 b/\b≠w.heap.size } a (w.alloc o1):=by
 have hs:∀b,b<w.heap.size->(w.alloc o1).heap[b]?=w.heap[b]?:=fun b hb=>Below.heap_alloc _ _ _ hb
 refine h.turn (fun b hf=>⟨⟨hf.2.2.2,?_⟩,hs b hf.2.2.1⟩) (by simp) (fun b hb=>?_) (fun k hk=>⟨?_,hs _ (h.lt hk)⟩) (fun e ho b hm=>?_)
 ·have:=hf.2.2.1;omega
 ·have h1:¬n0 b:=fun k=>hb (Or.inl k);exact⟨⟨(h.anew b h1).1,fun e=>hb (Or.inr e)⟩,(h.anew b h1).2⟩
 ·have:=h.lt hk;rintro(k1|k1)
  ·exact h.base k hk k1
  ·omega
 ·have:=h.elt ho hm;refine⟨?_,⟨(h.ebase e ho b hm).1,Yp⟩,hs b this⟩;rintro(k1|k1)
  ·exact h.etop e ho b hm k1
  ·omega
end
section
open Go.RowKit
variable {P:Program}{N:Nat}
def mpOf:V->Option (Bool×List (List T))
 | .one (.t (.mp ag rows))=>some (ag,rows)
 | .one (.rn (.mp ag rows))=>some (ag,rows)
 | _=>none
def tupX:V->Option (Bool×List C)
 | .agg cs=>some (true,cs)
 | .one c=>some (false,[c])
 | _=>none
theorem zw1 {σ:St}{g:Gh}{w:World}{x:V}{y:Bool×List C}{v:Value}(h:tupX x=some y)(hv:VR σ g w x v):CRx σ g w y v:=by
 cases x with
 | agg cs=>obtain rfl:=J7 h;obtain⟨a,h1,h2⟩:=hv;exact⟨a,h1,h2⟩
 | one c=>obtain rfl:=J7 h;exact⟨c,rfl,hv⟩
 | tup _=>cases h
theorem qmu {σ:St}{g:Gh}{w:World}{x:V}{ag:Bool}{rows:List (List T)}{v:Value}(h:mpOf x=some (ag,rows))(hv:VR σ g w x v):zas w (Fix σ g w) (.mp ag rows) v:=by
 unfold mpOf at h
 split at h
 ·cases h;exact hv
 ·cases h;exact zas.keep (fun _ _=>rfl) (fun b hb=>hb.1) _ _ hv
 ·cases h
def qsp (P:Program)(et:TypeId):Option V:=((P.info? et).bind (·.zero)).bind fun z=>(tupX (ofV P et z)).map fun y=>.tup [y,(false,[.t (.bool false)])]
def lk2 (P:Program)(σ:St)(mt:TypeId)(x ix:Operand):Option V:=match mpOf (σ.get P 0 x),σ.get P 0 ix,qlz P mt with
 | some (ag,rows),.one (.t k),some (d,et)=>if zuo d k=true then (zch k rows).bind fun r=>match r with
  | some vs=>(rowV ag vs).bind fun v=>(tupX v).map fun y=>.tup [y,(false,[.t (.bool true)])]
  | none=>qsp P et
  else none
 | _,_,_=>none
theorem zvq {o:Oper}{σ:St}{mt:TypeId}{x ix:Operand}{v:V}(ho:o.op=.lookup mt x ix true)(h:lk2 P σ mt x ix=some v):zah P o σ (σ.put o.dst v) :=
 zah.value fun n0 N g a w hR=>by
  unfold lk2 at h;split at h
  ·rename_i ag rows k d et hm hi ht;split at h
   ·rename_i hk;obtain⟨r,hf,h⟩:=Qd.1 h;obtain⟨kt,t1,t2⟩:=zlz ht;have h1:=qmu hm (hR.get P 0 x);have h2:=hR.get P 0 ix;rw[hi]at h2;have h2:zas w (Fix σ g w) k (a.eval ix):=h2;unfold zas at h1;obtain⟨b,es,clk,e1,hA,hb,he⟩:=h1;cases r with
    | some vs =>
     obtain⟨y,hv,h⟩:=Qd.1 h;obtain⟨z,hz,rfl⟩:=Q0.1 h;obtain⟨j,u,us,f1,f2,f3⟩:=zd4 hk h2 ag rows es.toList 0 (some vs) he hf;have hvr:VR σ g w y u:=by
      unfold rowV at hv;by_cases hag:ag=true
      ·rw[if_pos hag]at hv f2;cases hv;exact⟨us,f2,qrg f3⟩
      ·rw[if_neg hag]at hv f2;subst f2;rcases vs with _|⟨t,_|⟨t',vs⟩⟩
       ·cases hv
       ·cases hv;unfold zaf at f3;obtain⟨v',vs',e,h3,_⟩:=f3;cases e;exact h3
       ·cases hv
     refine⟨.tuple #[u,.bool true],?_,[u,.bool true],rfl,u,[.bool true],rfl,zw1 hz hvr,.bool true,[],rfl,⟨.t (.bool true),rfl,rfl⟩,rfl⟩;unfold execOp;simp only[ho];simp[Instr.lookup,run_underlying t1,e1,Go.MapKept.run_getObj_map hb,Go.MapKept.run_checkKey t2 (ziq hk h2),Go.MapKept.run_findKey t2 f1,Result.andThen]
    | none =>
     obtain⟨zv,hz0,h⟩:=Qd.1 h;obtain⟨y,hy,rfl⟩:=Q0.1 h;obtain⟨i,hi1,hi2⟩:=Qd.1 hz0;have f1:=zd4 hk h2 ag rows es.toList 0 none he hf;have hvr:VR σ g w (ofV P et zv) zv:=qjd P σ g w et zv;refine⟨.tuple #[zv,.bool false],?_,[zv,.bool false],rfl,zv,[.bool false],rfl,zw1 hy hvr,.bool false,[],rfl,⟨.t (.bool false),rfl,rfl⟩,rfl⟩;unfold execOp;simp only[ho];simp[Instr.lookup,run_underlying t1,e1,Go.MapKept.run_getObj_map hb,Go.MapKept.run_checkKey t2 (ziq hk h2),Go.MapKept.run_findKey t2 f1,Result.andThen,zeroValue,typeInfo,hi1,hi2]
   ·cases h
  ·cases h
section
variable {ks:List Fr}{Q:Exit->St->Prop}{σ:St}{ops:Array Oper}{os:List Oper}{L:List (List Ky×List Ky)}{ty:TypeId}{ps:String}{af:Array Edge}{dst:Option Nat}{mt:TypeId}{x ix:Operand}{v:V}
theorem qrv (h:lk2 P σ mt x ix=some v)(k:exo P ops os ks Q (σ.put dst v)):exo P ops (⟨dst,.lookup mt x ix true,ty,ps,af,none⟩::os) ks Q σ:=zc6 rfl rfl (zvq rfl h) k
end
attribute [go_sem] mpOf tupX lk2 mvC mvCs mvV Option.bind_some Option.map_some
end
section
open Go.RowKit
variable {P:Program}
def C.fb (j:Nat)(ts:List T):C->C
 | .bx b o=>if b=j then .el ts o else .bx b o
 | .fn f [k]=>if k=j then .t (.fn f [.ptr ts])else .fn f [k]
 | .fn f []=>.fn f []
 | .fn _ _=>.any
 | c=>c
def qlw:List C->Option (List T)
 | []=>some []
 | .t x::cs=>(qlw cs).map (x::·)
 | .rn x::cs=>(qlw cs).map (x::·)
 | _::_=>none
def fbS (f:Nat->V)(j:Nat)(ts:List T):Nat->V:=fun i=>(f i).map (C.fb j ts)
def fbB (f:Nat->Option (List C))(j:Nat)(ts:List T):Nat->Option (List C):=fun b=>if b=j then none else (f b).map fun cs=>cs.map (C.fb j ts)
theorem fbS_at (f:Nat->V)(j:Nat)(ts:List T)(i:Nat):fbS f j ts i=(f i).map (C.fb j ts):=rfl
theorem fbB_at (f:Nat->Option (List C))(j:Nat)(ts:List T)(b:Nat):fbB f j ts b=if b=j then none else (f b).map fun cs=>cs.map (C.fb j ts):=rfl
def St.fb (σ:St)(j:Nat)(ts:List T):St:=⟨fbS σ.sl j ts,fbB σ.bx j ts,σ.ev⟩
theorem qi4 {σ:St}{g:Gh}{w:World}:∀{cs:List C}{ts:List T}{vs:List Value},qlw cs=some ts->CRs σ g w cs vs->∀(i:Nat)(t:T),ts[i]?=some t->∃v,vs[i]?=some v/\zas w (Fix σ g w) t v
 | [],ts,vs,h,_,i,t,ht=>by
  unfold qlw at h;cases h;simp at ht
 | c::cs,ts,vs,h,hv,i,t,ht=>by
  obtain⟨v,vs',rfl,h1,h2⟩:=hv;have key:∀x,(qlw cs).map (x::·)=some ts->zas w (Fix σ g w) x v->∃v',(v::vs')[i]?=some v'/\zas w (Fix σ g w) t v':=fun x hx hr=>by
   cases hc:qlw cs with
   | none=>rw[hc]at hx;cases hx
   | some ts' =>
    rw[hc]at hx;simp only[Q7,Qc]at hx;subst hx;cases i with
    | zero =>
     simp only[List.getElem?_cons_zero,Qc]at ht;subst ht;exact⟨v,rfl,hr⟩
    | succ i =>
     simp only[List.getElem?_cons_succ]at ht⊢;exact qi4 hc h2 i t ht
  cases c with
  | t x=>exact key x h h1
  | rn x=>exact key x h (zas.keep (fun _ _=>rfl) (fun b hb=>hb.1) x v h1)
  | _=>cases h
theorem fb_wk {σ:St}{j:Nat}{cs:List C}{ts:List T}(hb:σ.bx j=some cs)(ht:qlw cs=some ts):Wk σ (σ.fb j ts):=by
 intro n0 N g a w h
 have hj:σ.bx j≠none:=by rw[hb];simp
 have hbx:∀b,(σ.fb j ts).bx b≠none↔b≠j/\σ.bx b≠none:=fun b=>by
  show(if b=j then none else (σ.bx b).map fun cs=>cs.map (C.fb j ts))≠none↔_
  by_cases hbj:b=j
  ·rw[if_pos hbj];simp[hbj]
  ·rw[if_neg hbj];simp[hbj]
 have hf:∀b,Fix σ g w b->Fix (σ.fb j ts) g w b:=fun b hf=>⟨fun k hk=>hf.1 k ((hbx k).1 hk).2,hf.2.1,hf.2.2⟩
 have hfr:∀b,zb8 σ g w b->zb8 (σ.fb j ts) g w b:=fun b hb=>⟨hf b hb.1,hb.2⟩
 obtain⟨vs,ty,e1,e2⟩:=h.boxes j cs hb
 have hfix:Fix (σ.fb j ts) g w (g.β j):=by
  refine⟨fun k hk e=>((hbx k).1 hk).1 (h.inj k j ((hbx k).1 hk).2 hj e),fun e x hx ho hh=>?_,?_,(h.anew _ (h.base j hj)).1⟩
  ·exact h.ebx e j ⟨x,hx,ho⟩ hj (List.mem_of_mem_head? hh)
  ·exact(Array.getElem?_eq_some_iff.1 e1).1
 have hat:zbk w (Fix (σ.fb j ts) g w) (g.β j) 0 ts:=zbk.mk fun i t hi=>by
  obtain⟨v,k1,k2⟩:=qi4 ht e2 i t hi;refine⟨v,?_,zas.keep (fun _ _=>rfl) hf t v k2⟩;have:vs[i]?=some v:=by rw[<-Array.getElem?_toList];exact k1
  rw[Q5];simp[World.cell?,e1,this]
 have cr:∀c v,CR σ g w c v->CR (σ.fb j ts) g w (c.fb j ts) v:=fun c v hc=>by
  cases c with
  | t y=>exact zas.keep (fun _ _=>rfl) hf y v hc
  | nl s=>exact hc
  | ow e' n=>exact hc
  | bx b o =>
   show CR _ _ _ (if b=j then .el ts o else .bx b o) v
   by_cases he:b=j
   ·subst he;rw[if_pos rfl];exact⟨g.β b,0,by rw[Q5];exact hc.1,hfix,hat⟩
   ·rw[if_neg he];exact⟨hc.1,(hbx b).2 ⟨he,hc.2⟩⟩
  | el cs o=>obtain⟨b,q,h1,h2,h3⟩:=hc;exact⟨b,q,h1,hf b h2,zbk.keep (fun _ _=>rfl) hf b rfl q cs h3⟩
  | eo e' s sz i o=>exact hc
  | fn f caps =>
   match caps,hc with
   | [],hc=>exact⟨hc.1,fun b hb=>absurd hb (by simp)⟩
   | [k],hc =>
    show CR _ _ _ (if k=j then .t (.fn f [.ptr ts])else .fn f [k]) v
    by_cases he:k=j
    ·subst he;rw[if_pos rfl];show zas _ _ _ _
     unfold zas;refine⟨_,hc.1,?_⟩;unfold zaf;refine⟨_,[],rfl,?_,by unfold zaf;rfl⟩;unfold zas;exact⟨g.β k,0,rfl,hfix,hat⟩
    ·rw[if_neg he];exact⟨hc.1,fun b hb=>(hbx b).2 ⟨by rw[Qy.1 hb];exact he,hc.2 b hb⟩⟩
   | _::_::_,_=>trivial
  | cv u=>exact hc
  | any=>trivial
  | rn y=>exact zas.keep (fun _ _=>rfl) hfr y v hc
  | er cs o=>obtain⟨b,q,h1,h2,h3⟩:=hc;exact⟨b,q,h1,hfr b h2,zbk.keep (fun _ _=>rfl) hfr b rfl q cs h3⟩
 refine⟨g,⟨h.defers,h.size,h.anew,fun i=>VR.map cr (h.slots i),fun b cs' hb'=>?_,fun b hb=>h.base b ((hbx b).1 hb).2,fun b b' h1 h2=>h.inj b b' ((hbx b).1 h1).2 ((hbx b').1 h2).2,fun e' z hz h1=>?_,fun e' z hz h1=>?_,h.slc,h.ebase,h.etop,h.nodup,h.apart,fun e' k he hk=>h.ebx e' k he ((hbx k).1 hk).2⟩,rfl,rfl⟩
 ·have hne:=(hbx b).1 (by rw[hb'];simp);cases hc:σ.bx b with
  | none=>exact absurd hc hne.2
  | some cs0 =>
   have hb':(if b=j then none else (σ.bx b).map fun cs=>cs.map (C.fb j ts))=some cs':=hb';rw[if_neg hne.1,hc]at hb';simp only[Q7,Qc]at hb';subst hb';obtain⟨vs,ty,k1,k2⟩:=h.boxes b cs0 hc;exact⟨vs,ty,k1,CRs.map cr k2⟩
 ·obtain⟨ao,cap,e1,e2,e3,e4⟩:=h.evs e' z hz h1;refine⟨ao,cap,e1,e2,e3,?_⟩;rcases e4 with e4|⟨b,cells,ty,fps,k1,k2,k3,k4,k5⟩
  ·exact Or.inl e4
  ·refine Or.inr ⟨b,cells,ty,fps,k1,k2,k3,k4,?_⟩;split at k5
   ·rw[if_pos ‹_›];exact k5
   ·rw[if_neg ‹_›];exact⟨k5.1,zaw.keep (fun _ _=>rfl) hf b rfl 0 z.sz z.rows k5.2⟩
 ·exact⟨zas.keep (fun _ _=>rfl) hf _ _ (h.offs e' z hz h1).1,(h.offs e' z hz h1).2⟩
section
variable {ks:List Fr}{Q:Exit->St->Prop}{σ:St}{ops:Array Oper}{os:List Oper}{o:Oper}
theorem qr4 (j:Nat)(hg:o.guard=none)(hs:zrh o.op=true)(k:zar (σ.bx j) fun cs=>zar (qlw cs) fun ts=>exo P ops (o::os) ks Q (σ.fb j ts)):exo P ops (o::os) ks Q σ:=by
 obtain⟨cs,hx,h1⟩:=zai k
 obtain⟨ts,ht,h2⟩:=zai h1
 exact zq7 (fb_wk hx ht) hg hs h2
theorem zgd (j:Nat){i:Nat}(k:zar (σ.bx j) fun cs=>zar (qlw cs) fun ts=>ex P (.region i ops true) ks Q (σ.fb j ts)):ex P (.region i ops true) ks Q σ:=by
 obtain⟨cs,hx,h1⟩:=zai k
 obtain⟨ts,ht,h2⟩:=zai h1
 exact zeh.pre (fb_wk hx ht) h2
end
attribute [go_sem] C.fb St.fb fbS_at fbB_at qlw
end
section
open Go.RowKit
variable {P:Program}
def C.fs (e:Nat)(x:Ev):C->C
 | .ow e' g=>if e'=e then (if g=x.gen then .t (.sl x.sz x.rows)else .any)else .ow e' g
 | .eo e' g sz i o=>if e'=e then .any else .eo e' g sz i o
 | c=>c
def fsS (f:Nat->V)(e:Nat)(x:Ev):Nat->V:=fun i=>(f i).map (C.fs e x)
def fsB (f:Nat->Option (List C))(e:Nat)(x:Ev):Nat->Option (List C):=fun b=>(f b).map fun cs=>cs.map (C.fs e x)
def fsE (f:Nat->Option Ev)(e:Nat):Nat->Option Ev:=fun k=>if k=e then none else f k
theorem fsS_at (f:Nat->V)(e:Nat)(x:Ev)(i:Nat):fsS f e x i=(f i).map (C.fs e x):=rfl
theorem zzr (f:Nat->Option (List C))(e:Nat)(x:Ev)(b:Nat):fsB f e x b=(f b).map fun cs=>cs.map (C.fs e x):=rfl
theorem fsE_at (f:Nat->Option Ev)(e k:Nat):fsE f e k=if k=e then none else f k:=rfl
def St.fs (σ:St)(e:Nat)(x:Ev):St:=⟨fsS σ.sl e x,fsB σ.bx e x,fsE σ.ev e⟩
theorem qts {σ:St}{e:Nat}{x:Ev}(hx:σ.ev e=some x)(hd:x.deep=false)(ho:x.on=true):Wk σ (σ.fs e x):=by
 intro n0 N g a w h
 have hev:∀e',e'≠e->(σ.fs e x).ev e'=σ.ev e':=fun e' he=>by show(if e'=e then none else σ.ev e')=_;rw[if_neg he]
 have hee:(σ.fs e x).ev e=none:=by show(if e=e then none else σ.ev e)=_;rw[if_pos rfl]
 have hsome:∀e' z,(σ.fs e x).ev e'=some z->e'≠e/\σ.ev e'=some z:=fun e' z hz=>by
  by_cases he:e'=e
  ·subst he;rw[hee]at hz;cases hz
  ·exact⟨he,by rw[<-hev e' he];exact hz⟩
 have hon:∀e',(σ.fs e x).On e'->e'≠e/\σ.On e':=fun e' ⟨z,hz,h1⟩=>⟨(hsome e' z hz).1,z,(hsome e' z hz).2,h1⟩
 have hbx:∀b,(σ.fs e x).bx b≠none↔σ.bx b≠none:=fun b=>by unfold St.fs;simp[zzr]
 have hOn:σ.On e:=⟨x,hx,ho⟩
 have hf:∀b,Fix σ g w b->Fix (σ.fs e x) g w b:=fun b hf=>⟨fun k hk=>hf.1 k ((hbx k).1 hk),fun e' z hz h1=>hf.2.1 e' z (hsome e' z hz).2 h1,hf.2.2⟩
 have hfr:∀b,zb8 σ g w b->zb8 (σ.fs e x) g w b:=fun b hb=>⟨hf b hb.1,fun e' h'=>hb.2 e' (hon e' h').2⟩
 have hgone:∀b∈g.φ e,b<w.heap.size->zb8 (σ.fs e x) g w b:=fun b hb hl=>by
  have hne:∀e',(σ.fs e x).On e'->b∉g.φ e':=fun e' he' hm=>h.apart e e' hOn (hon e' he').2 (Ne.symm (hon e' he').1) b hb hm;exact⟨⟨fun j hj hjb=>h.ebx e j hOn ((hbx j).1 hj) (by rw[hjb];exact hb),fun e' z hz h1 hh=>hne e' ⟨z,hz,h1⟩ (List.mem_of_mem_head? hh),hl,(h.ebase e hOn b hb).1⟩,hne⟩
 have hhas:∀e' n,e'≠e->σ.has e' n->(σ.fs e x).has e' n:=fun e' n he ⟨z,hz,h1⟩=>⟨z,by rw[hev e' he];exact hz,h1⟩
 have cr:∀c v,CR σ g w c v->CR (σ.fs e x) g w (c.fs e x) v:=fun c v hc=>by
  cases c with
  | t y=>exact zas.keep (fun _ _=>rfl) hf y v hc
  | nl s=>exact hc
  | ow e' n =>
   show CR _ _ _ (if e'=e then (if n=x.gen then .t (.sl x.sz x.rows)else .any)else .ow e' n) v
   by_cases he:e'=e
   ·subst he;rw[if_pos rfl];by_cases hn:n=x.gen
    ·rw[if_pos hn];subst hn;obtain⟨ao,cap,e1,e2,e3,e4⟩:=h.evs _ x hx ho;rw[<-hc.1]at e1;show zas _ _ _ _
     unfold zas;refine⟨ao,cap,e1,e2,e3,?_⟩;rcases e4 with⟨_,_,e4,_⟩|⟨b,cells,ty,fps,k1,k2,k3,k4,k5⟩
     ·exact Or.inl e4
     ·rw[if_neg (by rw[hd];simp)]at k5;exact Or.inr ⟨b,0,k1,(hgone b (by rw[k2];simp) (Array.getElem?_eq_some_iff.1 k3).1).1,zaw.keep (fun _ _=>rfl) hf b rfl 0 x.sz x.rows k5.2⟩
    ·rw[if_neg hn];trivial
   ·rw[if_neg he];exact⟨hc.1,hhas e' n he hc.2⟩
  | bx b o=>exact⟨hc.1,(hbx b).2 hc.2⟩
  | el cs o=>obtain⟨b,q,h1,h2,h3⟩:=hc;exact⟨b,q,h1,hf b h2,zbk.keep (fun _ _=>rfl) hf b rfl q cs h3⟩
  | eo e' s sz i o =>
   show CR _ _ _ (if e'=e then .any else .eo e' s sz i o) v
   by_cases he:e'=e
   ·rw[if_pos he];trivial
   ·rw[if_neg he];obtain⟨b,n,c,h1,h2,h3,h4⟩:=hc;exact⟨b,n,c,h1,h2,h3,hhas e' s he h4⟩
  | fn f caps=>exact⟨hc.1,fun b hb=>(hbx b).2 (hc.2 b hb)⟩
  | cv u=>exact hc
  | any=>trivial
  | rn y=>exact zas.keep (fun _ _=>rfl) hfr y v hc
  | er cs o=>obtain⟨b,q,h1,h2,h3⟩:=hc;exact⟨b,q,h1,hfr b h2,zbk.keep (fun _ _=>rfl) hfr b rfl q cs h3⟩
 refine⟨g,⟨h.defers,h.size,h.anew,fun i=>VR.map cr (h.slots i),fun b cs hb=>?_,fun b hb=>h.base b ((hbx b).1 hb),fun b b' h1 h2=>h.inj b b' ((hbx b).1 h1) ((hbx b').1 h2),fun e' z hz h1=>?_,fun e' z hz h1=>?_,h.slc,fun e' h1=>h.ebase e' (hon e' h1).2,fun e' h1=>h.etop e' (hon e' h1).2,fun e' h1=>h.nodup e' (hon e' h1).2,fun e1 e2 h1 h2=>h.apart e1 e2 (hon e1 h1).2 (hon e2 h2).2,fun e' k h1 h2=>h.ebx e' k (hon e' h1).2 ((hbx k).1 h2)⟩,rfl,rfl⟩
 ·cases hc:σ.bx b with
  | none=>unfold St.fs at hb;simp only[zzr,hc,Jy]at hb;cases hb
  | some cs0 =>
   unfold St.fs at hb;simp only[zzr,hc,Q7,Qc]at hb;subst hb;obtain⟨vs,ty,k1,k2⟩:=h.boxes b cs0 hc;exact⟨vs,ty,k1,CRs.map cr k2⟩
 ·obtain⟨ao,cap,e1,e2,e3,e4⟩:=h.evs e' z (hsome e' z hz).2 h1;refine⟨ao,cap,e1,e2,e3,?_⟩;rcases e4 with e4|⟨b,cells,ty,fps,k1,k2,k3,k4,k5⟩
  ·exact Or.inl e4
  ·refine Or.inr ⟨b,cells,ty,fps,k1,k2,k3,k4,?_⟩;split at k5
   ·rw[if_pos ‹_›];exact k5
   ·rw[if_neg ‹_›];exact⟨k5.1,zaw.keep (fun _ _=>rfl) hf b rfl 0 z.sz z.rows k5.2⟩
 ·exact⟨zas.keep (fun _ _=>rfl) hf _ _ (h.offs e' z (hsome e' z hz).2 h1).1,(h.offs e' z (hsome e' z hz).2 h1).2⟩
section
variable {ks:List Fr}{Q:Exit->St->Prop}{σ:St}{ops:Array Oper}{os:List Oper}{o:Oper}
theorem frzS (e:Nat)(hg:o.guard=none)(hs:zrh o.op=true)(k:zar (σ.ev e) fun x=>x.deep=false/\x.on=true/\exo P ops (o::os) ks Q (σ.fs e x)):exo P ops (o::os) ks Q σ:=by
 obtain⟨x,hx,h1,h2,h3⟩:=zai k
 exact zq7 (qts hx h1 h2) hg hs h3
end
attribute [go_sem] C.fs St.fs fsS_at zzr fsE_at
end
section
open Go.RowKit
variable {P:Program}
theorem qvg {σ:St}{g:Gh}{w:World}{e:Nat}{x:Ev}(he:σ.ev e=none):∀{c:C}{v:Value},CR σ g w c v->C.fs e x c=c:=fun {c v} hc=>by
 have key:∀e' n,σ.has e' n->e'≠e:=fun e' n ⟨y,hy,_⟩ h=>by
  rw[h,he]at hy;cases hy
 cases c with
 | ow e' n =>
  show(if e'=e then (if n=x.gen then C.t (.sl x.sz x.rows)else .any)else .ow e' n)=_
  rw[if_neg (key e' n hc.2)]
 | eo e' s sz i o =>
  obtain⟨b,n,c,h1,h2,h3,h4⟩:=hc;show(if e'=e then C.any else .eo e' s sz i o)=_
  rw[if_neg (key e' s h4)]
 | _=>rfl
theorem zz0 {σ:St}{g:Gh}{w:World}{e:Nat}{x:Ev}(he:σ.ev e=none):∀{cs:List C}{vs:List Value},CRs σ g w cs vs->cs.map (C.fs e x)=cs
 | [],_,_=>rfl
 | c::cs,_,h=>by
  obtain⟨v,vs',rfl,h1,h2⟩:=h;rw[Qf,qvg he h1,zz0 he h2]
theorem nor_t {σ:St}{g:Gh}{w:World}{e:Nat}{x:Ev}(he:σ.ev e=none):∀{xs:List (Bool×List C)}{vs:List Value},CRt σ g w xs vs->xs.map (fun y=>(y.1,y.2.map (C.fs e x)))=xs
 | [],_,_=>rfl
 | y::ys,_,h=>by
  obtain⟨v,vs',rfl,h1,h2⟩:=h;rw[Qf,nor_t he h2];obtain⟨b,cs⟩:=y;unfold CRx at h1;simp only at h1⊢;split at h1
  ·obtain⟨a,_,h1⟩:=h1;rw[zz0 he h1]
  ·obtain⟨c,rfl,h1⟩:=h1;rw[Qf,qvg he h1,Qo]
theorem nor_v {σ:St}{g:Gh}{w:World}{e:Nat}{x:Ev}(he:σ.ev e=none){y:V}{v:Value}(h:VR σ g w y v):V.map (C.fs e x) y=y:=by
 cases y with
 | one c=>exact congrArg V.one (qvg he h)
 | agg cs=>obtain⟨a,_,h⟩:=h;exact congrArg V.agg (zz0 he h)
 | tup xs=>obtain⟨vs,_,h⟩:=h;exact congrArg V.tup (nor_t he h)
section
variable {ks:List Fr}{Q:Exit->St->Prop}{σ:St}{ops:Array Oper}{os:List Oper}{L:List (List Ky×List Ky)}{d:Nat}{t:TypeId}{ty:TypeId}{ps:String}{af:Array Edge}{len:Nat}{parts:Array (Nat×Operand)}{n:Nat}{rs:List (List C)}{rows:List (List T)}
theorem zq9 (h:zk2 P (σ.get P) t len parts=some (n,rs)/\zsy σ rs=some rows/\σ.ev (d*32)=none):zah P ⟨some d,.buildSlice t len parts,ty,ps,af,none⟩ σ (σ.put (some d) (.one (.t (.sl n rows)))):=fun n0 N g a w hR hn hdN=>by
 refine Oper.wp_mono ?_ (zqy (P:=P) (ty:=ty) (ps:=ps) (af:=af) h n0 N g a w hR hn hdN)
 rintro a' w' ⟨g',r1,r2,r3,r4⟩
 have he:=h.2.2
 obtain⟨g2,s1,s2,s3⟩:=qts (σ:=(σ.apd (d*32) [] ⟨false,n,rows,0,true⟩).put (some d) (.one (.ow (d*32) 0))) (e:=d*32) (x:=⟨false,n,rows,0,true⟩) (zae _ _ _) rfl rfl n0 N g' a' w' r1
 refine⟨g2,?_,r2,s2.trans r3,s3.trans r4⟩
 have e1:((σ.apd (d*32) [] ⟨false,n,rows,0,true⟩).put (some d) (.one (.ow (d*32) 0))).fs (d*32) ⟨false,n,rows,0,true⟩=σ.put (some d) (.one (.t (.sl n rows))):=by
  have q1:fsS (upd σ.sl d (.one (.ow (d*32) 0))) (d*32) ⟨false,n,rows,0,true⟩=upd σ.sl d (.one (.t (.sl n rows))):=funext fun i=>by
   show V.map _ (upd σ.sl d _ i)=_
   by_cases hi:i=d
   ·subst hi;rw[zae,zae];show V.one (C.fs _ _ (.ow _ 0))=_
    simp[C.fs]
   ·rw[zak _ _ hi,zak _ _ hi];exact nor_v he (hR.slots i)
  have q2:fsB σ.bx (d*32) ⟨false,n,rows,0,true⟩=σ.bx:=funext fun b=>by
   show(σ.bx b).map _=_
   cases hb:σ.bx b with
   | none=>rfl
   | some cs =>
    obtain⟨vs,ty',k1,k2⟩:=hR.boxes b cs hb;exact congrArg some (zz0 he k2)
  have q3:fsE (upd σ.ev (d*32) (some ⟨false,n,rows,0,true⟩)) (d*32)=σ.ev:=funext fun k=>by
   show(if k=d*32 then none else upd σ.ev (d*32) _ k)=_
   by_cases hk:k=d*32
   ·rw[if_pos hk,hk,he]
   ·rw[if_neg hk,zak _ _ hk]
  show St.mk (fsS (upd σ.sl d (.one (.ow (d*32) 0))) (d*32) ⟨false,n,rows,0,true⟩) (fsB σ.bx (d*32) ⟨false,n,rows,0,true⟩) (fsE (upd σ.ev (d*32) (some ⟨false,n,rows,0,true⟩)) (d*32))=_
  rw[q1,q2,q3];rfl
 rw[e1]at s1
 exact s1
def slOf:Option (Ev×List (Nat×Ev))->T
 | some (x,_)=>.sl x.sz x.rows
 | none=>.sl 0 []
theorem zi8 (h:zar (blS P σ t len parts) fun _=>σ.ev (d*32)=none)(k:exo P ops os ks Q (σ.put (some d) (.one (.t (slOf (blS P σ t len parts)))))):exo P ops (⟨some d,.buildSlice t len parts,ty,ps,af,none⟩::os) ks Q σ:=by
 obtain⟨⟨x,cons⟩,h1,h2⟩:=zai h
 rw[h1]at k
 unfold blS at h1
 obtain⟨p,e1,h1⟩:=Qd.1 h1
 obtain⟨q,e2,h1⟩:=Q0.1 h1
 simp only[Qn]at h1
 obtain⟨rfl,rfl⟩:=h1
 exact zc6 rfl rfl (zq9 ⟨e1,e2,h2⟩) k
theorem qki (h:zar (blS P σ t len parts) fun _=>σ.ev (d*32)=none)
  (k:exd P ops os (L++[(zat (parts.toList.map (·.2))++(rK (qib (zk2 P (σ.get P) t len parts))++[(2,d*32)]),dK (some d)++eK [])]) ks Q (σ.put (some d) (.one (.t (slOf (blS P σ t len parts)))))) :
  exd P ops (⟨some d,.buildSlice t len parts,ty,ps,af,none⟩::os) L ks Q σ:=by
 obtain⟨⟨x,cons⟩,h1,h2⟩:=zai h
 rw[h1]at k
 unfold blS at h1
 obtain⟨p,e1,h1⟩:=Qd.1 h1
 obtain⟨q,e2,h1⟩:=Q0.1 h1
 simp only[Qn]at h1
 obtain⟨rfl,rfl⟩:=h1
 rw[e1]at k
 refine zgj rfl rfl ?_ k
 have:=zf0.of (P:=P) (σ:=σ) (o:=⟨some d,.buildSlice t len parts,ty,ps,af,none⟩) (l:=[]) (v:=.one (.t (.sl p.1 q))) (R:=zat (parts.toList.map (·.2))++(rK p.2++[(2,d*32)])) (zba (zbc _) (zba (zuu _) rfl)) fun σ1 h1=>?_
 ·exact this
 ·have e3:zk2 P (σ1.get P) t len parts=zk2 P (σ.get P) t len parts:=zle fun t x hx=>zb7 (fun k hk=>h1 k (by simp[hk])) hx t;have e4:zsy σ1 p.2=zsy σ p.2:=zla fun k hk=>h1 k (by simp[hk]);exact zq9 ⟨e3.trans e1,e4.trans e2,(Eq.symm (h1 (2,d*32) (by simp))).trans h2⟩
end
attribute [go_sem] slOf
end
section
open Go.RowKit
variable {P:Program}
def CTo (σ:St)(e:Nat)(x:Ev):C->T->Prop
 | .ow e' n,t=>e'=e/\n=x.gen/\t=.sl x.sz x.rows
 | c,t=>CT1 σ c t
def VDo (σ:St)(e:Nat)(x:Ev):V->D->Prop
 | .one c,.one t=>CTo σ e x c t
 | .agg cs,.agg ts=>zmy σ cs ts
 | _,_=>False
def zqx (σ:St)(e:Nat)(x:Ev):List V->List D->Prop
 | [],ds=>ds=[]
 | v::vs,ds=>∃d ds',ds=d::ds'/\VDo σ e x v d/\zqx σ e x vs ds'
theorem CTo_ow (σ:St)(e:Nat)(x:Ev)(e' n:Nat)(t:T):CTo σ e x (.ow e' n) t=(e'=e/\n=x.gen/\t=.sl x.sz x.rows):=rfl
theorem CTo_t (σ:St)(e:Nat)(x:Ev)(y t:T):CTo σ e x (.t y) t=(y=t):=rfl
theorem qta (σ:St)(e:Nat)(x:Ev)(c:C)(t:T):VDo σ e x (.one c) (.one t)=CTo σ e x c t:=rfl
theorem qwf (σ:St)(e:Nat)(x:Ev)(cs:List C)(ts:List T):VDo σ e x (.agg cs) (.agg ts)=zmy σ cs ts:=rfl
theorem qqo (σ:St)(e:Nat)(x:Ev)(ds:List D):zqx σ e x [] ds=(ds=[]):=rfl
theorem qe6 (σ:St)(e:Nat)(x:Ev)(v:V)(vs:List V)(d:D)(ds:List D):zqx σ e x (v::vs) (d::ds)=(VDo σ e x v d/\zqx σ e x vs ds):=propext ⟨fun⟨d',ds',h,h1,h2⟩=>by
 obtain⟨rfl,rfl⟩:=Yb h
 exact⟨h1,h2⟩,fun h=>⟨_,_,rfl,h.1,h.2⟩⟩
theorem ztn {σ:St}{e:Nat}{x:Ev}{c:C}{t:T}(h:∀e' n,c≠.ow e' n):CTo σ e x c t=CT1 σ c t:=by
 cases c with
 | ow e' n=>exact absurd rfl (h e' n)
 | _=>rfl
theorem CTo.loc {σ σ1:St}{e:Nat}{x:Ev}{c:C}{t:T}(h:CTo σ e x c t):CTo σ1 e x c t:=by
 by_cases hc:∃e' n,c=.ow e' n
 ·obtain⟨e',n,rfl⟩:=hc;exact h
 ·have hc:∀e' n,c≠.ow e' n:=fun e' n he=>hc ⟨e',n,he⟩;rw[ztn hc]at h⊢;exact CT1.loc h
theorem zqx.loc {σ σ1:St}{e:Nat}{x:Ev}:∀{vs:List V}{ds:List D},zqx σ e x vs ds->zqx σ1 e x vs ds
 | [],_,h=>h
 | v::vs,_,h=>by
  obtain⟨d,ds',rfl,h1,h2⟩:=h;refine⟨d,ds',rfl,?_,zqx.loc h2⟩;have h1:VDo σ e x v d:=h1;cases v with
  | one c =>
   cases d with
   | one t=>exact CTo.loc h1
   | agg ts=>exact h1.elim
  | agg cs =>
   cases d with
   | one t=>exact h1.elim
   | agg ts=>exact zmy.loc h1
  | tup zs=>cases d<;>exact h1.elim
theorem zqx.rep {n0:Nat->Prop}{N:Nat}{σ σ':St}{g:Gh}{a:Act}{w:World}{e:Nat}{x:Ev}(hR:Rel n0 N σ' g a w)(hx:σ'.ev e=some x.off):∀{xs:List V}{ds:List D},zqx σ e x xs ds->∀{vs:List Value},VRl σ' g w xs vs->zbf w (Fix σ' g w) ds vs
 | [],ds,h,vs,hv=>by rw[show ds=[] from h];exact hv
 | y::xs,ds,h,vs,hv=>by
  obtain⟨d,ds',rfl,h1,h2⟩:=h;obtain⟨v,vs',rfl,k1,k2⟩:=hv;refine⟨v,vs',rfl,?_,zqx.rep hR hx h2 k2⟩;have h1':VDo σ e x y d:=h1;cases y with
  | one c =>
   cases d with
   | one t =>
    have h1:CTo σ e x c t:=h1';have k1:CR σ' g w c v:=k1;show zas w (Fix σ' g w) t v
    by_cases hc:∃e' n,c=.ow e' n
    ·obtain⟨e',n,rfl⟩:=hc;obtain⟨rfl,rfl,rfl⟩:=h1;have:=(hR.offs _ _ hx rfl).1;rw[k1.1];exact this
    ·have hc:∀e' n,c≠.ow e' n:=fun e' n he=>hc ⟨e',n,he⟩;rw[ztn hc]at h1;have h3:CT1 σ' c t:=CT1.loc h1;exact CT1.rep h3 k1
   | agg ts=>exact h1'.elim
  | agg cs =>
   cases d with
   | one t=>exact h1'.elim
   | agg ts =>
    have h1:zmy σ' cs ts:=zmy.loc h1';obtain⟨u,rfl,k1⟩:=k1;exact⟨u,rfl,zmy.rep h1 k1⟩
  | tup zs=>cases d<;>exact h1'.elim
theorem zoe {o:Oper}{σ:St}{x:Operand}{asx:Array Operand}{ts:Array TypeId}{f:FuncId}{cvs:List V}{ds res:List D}{e:Nat}{y:Ev}(hy:σ.ev e=some y)(ho:o.op=.call ⟨.value x,asx,ts⟩)
  (h:RC P f ds res) (hc:za0 (σ.get P 0 x)=some (f,cvs)) (hv:zqx σ e y (σ.gets P asx ts++cvs) ds):zah P o σ ((σ.upE [(e,y.off)]).callR o.dst res):=by
 refine zah.pre (frz_wk hy) ?_
 intro n0 N g a w hR hn hdN
 have hey:(σ.frz e y).ev e=some y.off:=zae _ _ _
 obtain⟨vs,h1,h2⟩:=zdb hR ho (f:=f) (cvs:=cvs) hc h.1
 unfold Oper.wp
 rw[h1]
 have hargs:=(zqx.rep hR hey hv h2).keep (A':=fun b=>b<w.heap.size/\Fix (σ.frz e y) g w b) (fun _ _=>rfl) fun b hb=>⟨hb.2.2.1,hb⟩
 refine(h.2 w vs (Fix (σ.frz e y) g w) hargs).mono ?_
 rintro e2 w' ⟨us,rfl,o1,hb⟩
 have hR':Rel n0 N (σ.frz e y) g a w':=hR.after hn hb (New.refl (σ.frz e y) g (w.heap.size<=·) w' hR.slc)
 refine⟨g,?_,Bk.of_below hb hn,rfl,rfl⟩
 have hfix:∀b,(b<w'.heap.size/\(Fix (σ.frz e y) g w b\/w.heap.size<=b))->Fix (σ.frz e y) g w' b:=fun b hb'=>by
  rcases hb'.2 with hf|hf
  ·exact⟨hf.1,hf.2.1,hb'.1,hf.2.2.2⟩
  ·refine⟨fun k hk e=>by have:=hR.lt hk;omega,fun e x hx ho hh=>?_,hb'.1,(hR.anew b (hn.new hf)).1⟩;have:=(hR.evs e x hx ho).lt b (List.mem_of_mem_head? hh);omega
 exact hR'.put o.dst (ze6 (zbf.vrl (o1.keep (fun _ _=>rfl) hfix)) (fun y hy=>by
  obtain⟨d,_,rfl⟩:=Ka.1 hy
  cases d<;>rfl)) hdN
section
variable {ks:List Fr}{Q:Exit->St->Prop}{σ:St}{ops:Array Oper}{os:List Oper}{L:List (List Ky×List Ky)}{ty:TypeId}{ps:String}{af:Array Edge}{x:Operand}{asx:Array Operand}{ts:Array TypeId}{f:FuncId}{ds res:List D}
theorem zwq {d:Option Nat}(e:Nat)(h:RC P f ds res)(hp:zar (σ.ev e) fun y=>zar (za0 (σ.get P 0 x)) fun p=>p.1=f/\zqx σ e y (σ.gets P asx ts++p.2) ds)
  (k:zar (σ.ev e) fun y=>exd P ops os (L++[(zat (x::asx.toList)++[(2,e)],dK d++eK [(e,y.off)])]) ks Q ((σ.upE [(e,y.off)]).callR d res)) :
  exd P ops (⟨d,.call ⟨.value x,asx,ts⟩,ty,ps,af,none⟩::os) L ks Q σ:=by
 obtain⟨y,hy,hp⟩:=zai hp
 obtain⟨y',hy',k⟩:=zai k
 rw[hy]at hy'
 cases hy'
 obtain⟨⟨f',cvs⟩,h1,rfl,h2⟩:=zai hp
 refine zgj rfl rfl ?_ k
 have:=zf0.of (P:=P) (σ:=σ) (o:=⟨d,.call ⟨.value x,asx,ts⟩,ty,ps,af,none⟩) (l:=[(e,y.off)]) (v:=znn (res.map D.toV)) (R:=zat (x::asx.toList)++[(2,e)]) (zba (zbc _) rfl) fun σ1 h3=>?_
 ·exact this
 ·have e1:σ1.get P 0 x=σ.get P 0 x:=zb7 (l:=x::asx.toList) (fun k hk=>h3 k (by simp[hk])) (by simp) 0;have e2:σ1.gets P asx ts=σ.gets P asx ts:=zid ts fun k hk=>h3 k (Qm.2 (Or.inl (zcz hk)));have e3:σ1.ev e=some y:=(Eq.symm (h3 (2,e) (by simp))).trans hy;have hv:zqx σ1 e y (σ1.gets P asx ts++cvs) ds:=by rw[e2];exact zqx.loc h2
  exact zoe e3 rfl h (by rw[e1];exact h1) hv
end
attribute [go_sem] qqo qe6 qta qwf CTo_ow CTo_t
end
section
open Go.RowKit
variable {P:Program}{N:Nat}
theorem zb6.wkS {c:Code}{σ σ':St}{Q:Exit->St->Prop}(h:Wk σ σ')(k:zb6 P N c σ' Q):zb6 P N c σ Q:=fun n0 w0 A0 g a w h1 h2 h3 h4=>by
 obtain⟨g',r1,r2,r3⟩:=h _ _ _ _ _ h1
 exact k n0 w0 A0 g' a w r1 h2 h3 (by rw[r2,r3];exact h4)
end
end Go.Proofs.YtnemmlahbbbobaaGreat
