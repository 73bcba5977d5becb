/-
  The walk over plain data, and contracts of functions of the program and of its laws.
  Conditions: those that each theorem names.
-/
import Derived.Test.YtnemmlahbbbobaaGreatQV6
import Derived.Sort.OwnSorted
import Derived.Sort.KeysCollected
import Derived.Sort.Walk0
import Derived.Laws.AppendOwn
import Derived.Test.YtnemmlahbbbobaaGreatQV5
import Derived.Shelf.Sort.Plain
import Derived.Shelf.Slices.In.SortNone
import Derived.Shelf.Slices.CompactS
import Derived.Test.YtnemmlahbbbobaaGreatQV4
import Derived.Lib.SliceRun
namespace Go.Proofs.YtnemmlahbbbobaaGreat
set_option linter.unusedSimpArgs false
set_option linter.unusedVariables false
set_option linter.unusedSectionVars false
set_option maxRecDepth 4000
open Go.RowKit
abbrev zdh (xs:List Str):T:=.sl 1 (xs.map fun s=>[.str s])
theorem qiw {α:Type} [BEq α] [LawfulBEq α]{xs:List α}{s:α}{k:Nat}(hk:k<xs.length)(hn:s∉xs.take k)(e:xs[k]=s):xs.idxOf s=k:=by
 have h:xs=xs.take k++xs.drop k:=(Jg k xs).symm
 rw[Qh hk]at h
 rw[h,List.idxOf_append,if_neg hn,e]
 rw[show(s::xs.drop (k+1)).idxOf s=0 from List.idxOf_cons_self ..]
 simp;omega
theorem zim {α:Type}{xs:List α}{s:α}{k:Nat}(hk:k<xs.length)(hn:s∉xs.take k)(e:xs[k]≠s):s∉xs.take (k+1):=by
 rw[Qk hk]
 simp only[Qm,Qy,not_or]
 exact⟨hn,fun h=>e h.symm⟩
def idxS {α:Type} [BEq α](xs:List α)(s:α):Int:=if xs.contains s then xs.idxOf s else -1
theorem qb9 (xs:List Str)(s:Str):FC Tryz.prog 192 [.one (zdh xs),sD s] [iD (idxS xs s)]:=by
 refine zd1 (fun hw=>?_) Tryz.call192
 have hl:xs.length<=9223372036854775807:=by simpa[zgs,wfT]using hw.1.1
 refine zad Tryz.call192 Tryz.func192 rfl Yo (zao Yo) ?_
 simp -implicitDefEqProofs only[go_sem,Tryz.results192]
 refine zag (fun k:Nat=>hd [(0,vT (zdh xs)),(1,vT (.str s)),(7,vI xs.length),(8,vI k)] [] []) (fun k=>k<=xs.length/\s∉xs.take k) (fun k=>xs.length-k) 0 (zac ?_) ?_ ?_
 ·simp -implicitDefEqProofs only[go_sem]
 ·simp
 ·intro k ⟨hk,hr⟩;by_cases hlt:k<xs.length
  ·simp -implicitDefEqProofs only[go_sem,zan,hlt];refine⟨fun h=>?_,fun h=>?_⟩
   ·have e:xs[k]=s:=(Kk.1 h).symm;have hm:s∈xs:=e▸Qj hlt;rw[idxS,if_pos (by simpa using hm),qiw hlt hr e]
   ·have e:xs[k]≠s:=fun e=>by simp[e]at h
    exact⟨k+1,⟨hlt,zim hlt hr e⟩,Yp,zac (by simp -implicitDefEqProofs only[go_sem];rw[zap Yp])⟩
  ·simp -implicitDefEqProofs only[go_sem,hlt];rw[Qv Yp]at hr;rw[idxS,if_neg (by simpa using hr)]
theorem zc1 (xs:List Str)(s:Str):FC Tryz.prog 180 [.one (zdh xs),sD s] [bD (xs.contains s)]:=by
 refine zad Tryz.call180 Tryz.func180 rfl Yo (zao Yo) ?_
 simp -implicitDefEqProofs only[go_sem,Tryz.results180]
 refine callF (qb9 xs s) Yn ?_
 simp -implicitDefEqProofs only[go_sem]
 unfold idxS
 cases h:xs.contains s<;>simp
def zvb:List Str:=[[116,114,117,101],[102,97,108,115,101],[116,114,117,116,104],[98,111,116,104],[101,105,116,104,101,114],[105,102],[97,108,108],[115,111,109,101]]
theorem qce:FC Tryz.prog 187 [] [.one (zdh zvb)]:=by
 refine zad Tryz.call187 Tryz.func187 rfl Yo (zao Yo) ?_
 simp -implicitDefEqProofs only[go_sem,Tryz.results187]
 refine za7 Yn ?_
 simp -implicitDefEqProofs only[go_sem]
 rfl
def zqj (b:UInt8):Bool:=zqm b||b==95
def zmj:Str->Bool
 | []=>true
 | c::cs=>zg9 c&&cs.all zqj
def zeb (s:Str):Bool:=zmj s&&inB s.length 1 6&&!zvb.contains s
theorem qsv {b:UInt8}{n:Nat}(hn:n<256):((b.toNat:Int)==(n:Int))=(b==UInt8.ofNat n):=by
 rw[Kl]
 simp only[Kk]
 constructor
 ·intro h;apply UInt8.toNat_inj.1;simp[UInt8.toNat_ofNat];omega
 ·intro h;subst h;simp[UInt8.toNat_ofNat];omega
theorem zoz (s:Str):FC Tryz.prog 170 [sD s] [bD (zeb s)]:=by
 refine zd1 (fun hw=>?_) Tryz.call170
 have hl:s.length<=9223372036854775807:=by simpa[zgs,wfT]using hw.1
 refine zad Tryz.call170 Tryz.func170 rfl Yo (zao Yo) ?_
 simp -implicitDefEqProofs only[go_sem,Tryz.results170]
 refine zag (fun k:Nat=>hd [(0,vT (.str s)),(5,vI s.length),(6,vI k)] [] []) (fun k=>k<=s.length/\zmj s=if k=0 then zmj s else (s.drop k).all zqj) (fun k=>s.length-k) 0 (zac ?_) ?_ ?_
 ·simp -implicitDefEqProofs only[go_sem]
 ·simp
 ·intro k ⟨hk,hr⟩;by_cases hlt:k<s.length
  ·by_cases h0:k=0
   ·subst h0;have hl0:(0:Int)<s.length:=by omega
    have he:zmj s=(zg9 (s.getD 0 0)&&(s.drop 1).all zqj):=by cases s;exact absurd hlt (by simp);rfl
    simp -implicitDefEqProofs only[go_sem,hlt,hl0];refine callF (zi2 (s.getD 0 0)) Yn ?_;simp -implicitDefEqProofs only[go_sem];refine⟨fun h=>⟨hl0,?_⟩,fun h=>?_⟩
    ·have hi:zg9 (s.getD 0 0)=true:=by simpa using h
     refine callF (zi2 (s.getD 0 0)) (by simp -implicitDefEqProofs only[go_sem,hi]) ?_;simp -implicitDefEqProofs only[go_sem,hi];refine⟨1,⟨hlt,?_⟩,Yp,zac (by simp -implicitDefEqProofs only[go_sem];rw[za6 Yp Yp])⟩;rw[he,hi];rfl
    ·have:zg9 (s.getD 0 0)=false:=by simpa using h
     rw[zeb,he,this];rfl
   ·have h1:((k:Int)==0)=false:=by simp;omega
    have h2:(0:Int)<k:=by omega
    have hg:s.getD k 0=s[k]:=by simp[List.getD,hlt]
    rw[if_neg h0,Qh hlt,Kq]at hr;simp -implicitDefEqProofs only[go_sem,hlt,h1,h2];refine callF (zi2 (s.getD k 0)) Yn ?_;simp -implicitDefEqProofs only[go_sem];simp only[hg];refine⟨fun h=>⟨hlt,?_⟩,fun h=>?_⟩
    ·refine callF (zsm s[k]) Yn ?_;simp -implicitDefEqProofs only[go_sem];simp only[hg];refine⟨fun h'=>⟨hlt,fun h''=>?_,fun h''=>⟨k+1,⟨hlt,?_⟩,Yp,zac (by simp -implicitDefEqProofs only[go_sem];rw[zap Yp])⟩⟩,fun h'=>⟨k+1,⟨hlt,?_⟩,Yp,zac (by simp -implicitDefEqProofs only[go_sem];rw[zap Yp])⟩⟩
     ·have:zqj s[k]=false:=by
       have:=qsv (b:=s[k]) (n:=95) Yp;simp[zqj,zqm]at h h'⊢;refine⟨⟨h,h'⟩,fun e=>?_⟩;rw[e]at h'';simp at h''
      rw[zeb,hr,this];rfl
     ·have:zqj s[k]=true:=by
       have:=qsv (b:=s[k]) (n:=95) Yp;simp[zqj]at h''⊢;right;simpa[h'']using this
      rw[hr,this];rfl
     ·have:zqj s[k]=true:=by simp[zqj,zqm];simp at h';simp[h']
      rw[hr,this];rfl
    ·refine⟨k+1,⟨hlt,?_⟩,Yp,zac (by simp -implicitDefEqProofs only[go_sem];rw[zap Yp])⟩;have:zqj s[k]=true:=by simp[zqj,zqm];simp at h;simp[h]
     rw[hr,this];rfl
  ·simp -implicitDefEqProofs only[go_sem,hlt];refine callF (zf5 s.length 1 6) Yn ?_;simp -implicitDefEqProofs only[go_sem];have ha:zmj s=true:=by
    by_cases h0:k=0
    ·have:s=[]:=Kr.1 Yp;rw[this];rfl
    ·rw[hr,if_neg h0,Qt Yp];rfl
   refine⟨fun h=>?_,fun h=>?_⟩
   ·refine callF (qce) Yn ?_;simp -implicitDefEqProofs only[go_sem];refine callF (zc1 zvb s) Yn ?_;simp -implicitDefEqProofs only[go_sem];rw[zeb,ha,h];rfl
   ·rw[zeb,ha,h];rfl
end Go.Proofs.YtnemmlahbbbobaaGreat
namespace Go.Proofs.YtnemmlahbbbobaaGreat
set_option linter.unusedSimpArgs false
set_option linter.unusedVariables false
set_option linter.unusedSectionVars false
set_option maxRecDepth 4000
open Go.RowKit
theorem qs1 {b:UInt8}(h1:decide ((b.toNat:Int)<65)=false)(h2:decide ((90:Int)<b.toNat)=false):zng b=true:=by
 simp[zng]at *;omega
theorem qpb {b:UInt8}(h1:decide ((b.toNat:Int)<65)=true):zng b=false:=by
 simp[zng]at *;omega
theorem qn4 {b:UInt8}(h2:decide ((90:Int)<b.toNat)=true):zng b=false:=by
 simp[zng]at *;omega
theorem qpd {b:UInt8}(h1:decide ((b.toNat:Int)<97)=false)(h2:decide ((122:Int)<b.toNat)=false):zg9 b=true:=by
 simp[zg9]at *;omega
theorem qhk {b:UInt8}(h1:decide ((b.toNat:Int)<97)=true):zg9 b=false:=by
 simp[zg9]at *;omega
theorem qhd {b:UInt8}(h2:decide ((122:Int)<b.toNat)=true):zg9 b=false:=by
 simp[zg9]at *;omega
theorem zym {s:Str}(h:0<s.length):zve s=(zng (s.getD 0 0)&&(s.drop 1).all zqm):=by
 cases s
 ·exact absurd h (by simp)
 ·rfl
theorem zry {s:Str}(h:0<s.length):zmj s=(zg9 (s.getD 0 0)&&(s.drop 1).all zqj):=by
 cases s
 ·exact absurd h (by simp)
 ·rfl
theorem zh0 (s:Str):FC Tryz.prog 112 [sD s] [bD (zbd s)]:=by
 refine zd1 (fun hw=>?_) Tryz.call112
 have hl:s.length<=9223372036854775807:=by simpa[zgs,wfT]using hw.1
 refine zad Tryz.call112 Tryz.func112 rfl Yo (zao Yo) ?_
 simp -implicitDefEqProofs only[go_sem,Tryz.results112]
 refine callF (zsw s.length 1 4) Yn ?_
 simp -implicitDefEqProofs only[go_sem]
 by_cases hb:inB s.length 1 4=true
 ·have hp:0<s.length:=by simp[inB]at hb;omega
  have hp':(0:Int)<s.length:=by omega
  have he:=zym hp;refine⟨fun h=>⟨hp',fun h1=>⟨hp',fun h2=>?_,fun h2=>?_⟩,fun h1=>?_⟩,fun h=>by simp[hb]at h⟩
  ·rw[zbd,he,qn4 h2];rfl
  ·rw[qs1 h1 h2,Qs]at he;refine zag (fun k:Nat=>hd [(0,vT (.str s)),(3,vI k)] [] []) (fun k=>k<=s.length/\zve s=(s.drop k).all zqm) (fun k=>s.length-k) 1 (zac ?_) ?_ ?_
   ·simp -implicitDefEqProofs only[go_sem]
   ·exact⟨hp,he⟩
   ·intro k ⟨hk,hr⟩;by_cases hlt:k<s.length
    ·have hg:s.getD k 0=s[k]:=by simp[List.getD,hlt]
     rw[Qh hlt,Kq]at hr;simp -implicitDefEqProofs only[go_sem,hlt];simp only[hg];refine callF (zsv s[k]) Yn ?_;simp -implicitDefEqProofs only[go_sem];refine⟨fun h=>?_,fun h=>⟨k+1,⟨hlt,?_⟩,Yp,zac (by simp -implicitDefEqProofs only[go_sem];rw[zap Yp])⟩⟩
     ·have:zqm s[k]=false:=by simpa using h
      rw[zbd,hr,this];rfl
     ·have:zqm s[k]=true:=by simpa using h
      rw[hr,this];rfl
    ·simp -implicitDefEqProofs only[go_sem,hlt];rw[zbd,hr,Qt Yp,hb];rfl
  ·rw[zbd,he,qpb h1];rfl
 ·have hb':inB s.length 1 4=false:=by simpa using hb
  refine⟨fun h=>by simp[hb']at h,fun h=>?_⟩;rw[zbd,hb',Ki]
set_option maxHeartbeats 1000000 in
theorem zoy (s:Str):FC Tryz.prog 158 [sD s] [bD (zeb s)]:=by
 refine zd1 (fun hw=>?_) Tryz.call158
 have hl:s.length<=9223372036854775807:=by simpa[zgs,wfT]using hw.1
 refine zad Tryz.call158 Tryz.func158 rfl Yo (zao Yo) ?_
 simp -implicitDefEqProofs only[go_sem,Tryz.results158]
 refine callF (zsw s.length 1 6) Yn ?_
 simp -implicitDefEqProofs only[go_sem]
 by_cases hb:inB s.length 1 6=true
 ·have hp:0<s.length:=by simp[inB]at hb;omega
  have hp':(0:Int)<s.length:=by omega
  have he:=zry hp;refine⟨fun h=>⟨hp',fun h1=>⟨hp',fun h2=>?_,fun h2=>?_⟩,fun h1=>?_⟩,fun h=>by simp[hb]at h⟩
  ·rw[zeb,he,qhd h2];rfl
  ·rw[qpd h1 h2,Qs]at he;have leaf:∀l,l∈zvb->(s==l)=true->T.bool false=T.bool (zeb s):=fun l hl e=>by
    have:zvb.contains s=true:=by rw[Jl,Kk.1 e];exact hl
    rw[zeb,this,Qb,Ki]
   refine⟨fun e=>⟨fun _=>leaf _ (by simp[zvb]) e,fun e'=>absurd (e.symm.trans e') (by simp)⟩,fun n1=>?_⟩;refine⟨fun e=>⟨fun _=>leaf _ (by simp[zvb]) e,fun e'=>absurd (e.symm.trans e') (by simp)⟩,fun n2=>?_⟩;refine⟨fun e=>⟨fun _=>leaf _ (by simp[zvb]) e,fun e'=>absurd (e.symm.trans e') (by simp)⟩,fun n3=>?_⟩;refine⟨fun e=>⟨fun _=>leaf _ (by simp[zvb]) e,fun e'=>absurd (e.symm.trans e') (by simp)⟩,fun n4=>?_⟩;refine⟨fun e=>⟨fun _=>leaf _ (by simp[zvb]) e,fun e'=>absurd (e.symm.trans e') (by simp)⟩,fun n5=>?_⟩;refine⟨fun e=>⟨fun _=>leaf _ (by simp[zvb]) e,fun e'=>absurd (e.symm.trans e') (by simp)⟩,fun n6=>?_⟩;refine⟨fun e=>⟨fun _=>leaf _ (by simp[zvb]) e,fun e'=>absurd (e.symm.trans e') (by simp)⟩,fun n7=>?_⟩;refine⟨fun e=>leaf _ (by simp[zvb]) e,fun n8=>?_⟩;have hnc:zvb.contains s=false:=by
    simp only[Jj,ne_eq]at n1 n2 n3 n4 n5 n6 n7 n8;rw[Bool.eq_false_iff,ne_eq,Jl];simp only[zvb,Qp,Ku,or_false,not_or];exact⟨n1,n2,n3,n4,n5,n6,n7,n8⟩
   refine zag (fun k:Nat=>hd [(0,vT (.str s)),(3,vI k)] [] []) (fun k=>k<=s.length/\zmj s=(s.drop k).all zqj) (fun k=>s.length-k) 1 (zac ?_) ?_ ?_
   ·simp -implicitDefEqProofs only[go_sem]
   ·exact⟨hp,he⟩
   ·intro k ⟨hk,hr⟩;by_cases hlt:k<s.length
    ·have hg:s.getD k 0=s[k]:=by simp[List.getD,hlt]
     rw[Qh hlt,Kq]at hr;simp -implicitDefEqProofs only[go_sem,hlt];simp only[hg];refine callF (zsv s[k]) Yn ?_;simp -implicitDefEqProofs only[go_sem];simp only[hg];refine⟨fun h=>⟨hlt,fun h'=>?_,fun h'=>⟨k+1,⟨hlt,?_⟩,Yp,zac (by simp -implicitDefEqProofs only[go_sem];rw[zap Yp])⟩⟩,fun h=>⟨k+1,⟨hlt,?_⟩,Yp,zac (by simp -implicitDefEqProofs only[go_sem];rw[zap Yp])⟩⟩
     ·have:zqj s[k]=false:=by
       simp[zqj]at h⊢;refine⟨h,fun e=>?_⟩;rw[e]at h';simp at h'
      rw[zeb,hr,this];rfl
     ·have:zqj s[k]=true:=by
       have:=qsv (b:=s[k]) (n:=95) Yp;simp[zqj]at h'⊢;right;simpa[h']using this
      rw[hr,this];rfl
     ·have:zqj s[k]=true:=by simp[zqj];simp at h;simp[h]
      rw[hr,this];rfl
    ·simp -implicitDefEqProofs only[go_sem,hlt];rw[zeb,hr,Qt Yp,hb,hnc];rfl
  ·rw[zeb,he,qhk h1];rfl
 ·have hb':inB s.length 1 6=false:=by simpa using hb
  refine⟨fun h=>by simp[hb']at h,fun h=>?_⟩;rw[zeb,hb',Ki];rfl
end Go.Proofs.YtnemmlahbbbobaaGreat
namespace Go.Proofs.YtnemmlahbbbobaaGreat
set_option linter.unusedSimpArgs false
set_option linter.unusedVariables false
set_option linter.unusedSectionVars false
set_option maxRecDepth 4000
open Go.RowKit
def Tm.nodes:Tm->Nat:=Tm.fold fun _ _ rs=>1+rs.sum
theorem Tm.nodes_eq (a:Tm):a.nodes=1+(a.args.map Tm.nodes).sum:=Tm.fold_eq _ a
def Tm.depth:Tm->Nat:=Tm.fold fun _ _ rs=>rs.foldl max 0+1
theorem Tm.depth_eq (a:Tm):a.depth=(a.args.map Tm.depth).foldl max 0+1:=Tm.fold_eq _ a
theorem zge:∀a:Tm,a.nodes<=1+a.wt:=by
 refine zb4 fun n xs ih=>?_
 rw[Tm.nodes_eq,Tm.wt_eq]
 show 1+(xs.map Tm.nodes).sum<=1+(n.length+xs.length+(xs.map Tm.wt).sum)
 have:(xs.map Tm.nodes).sum<=xs.length+(xs.map Tm.wt).sum:=by
  clear n;induction xs with
  | nil=>simp
  | cons x xs ih2 =>
   have h1:=ih x (by simp);have h2:=ih2 fun y hy=>ih y (by simp[hy]);simp only[Qf,Jd,Qi];omega
 omega
theorem zkd {B:Nat}:∀(xs:List Nat)(m:Nat),m<=B->(∀x∈xs,x<=B)->xs.foldl max m<=B
 | [],m,h,_=>h
 | x::xs,m,h,h2=>zkd xs (max m x) (by have:=h2 x (by simp);omega) fun y hy=>h2 y (by simp[hy])
theorem zmm:∀a:Tm,a.depth<=a.nodes:=by
 refine zb4 fun n xs ih=>?_
 rw[Tm.nodes_eq,Tm.depth_eq]
 show(xs.map Tm.depth).foldl max 0+1<=1+(xs.map Tm.nodes).sum
 have:=zkd (B:=(xs.map Tm.nodes).sum) (xs.map Tm.depth) 0 Yp fun d hd=>by
  obtain⟨x,hx,rfl⟩:=Ka.1 hd;exact Ja (ih x hx) (zbz Tm.nodes xs x hx)
 omega
def szL (lim:Int):Int->List Int->Int
 | n,[]=>n
 | n,r::rs=>if n>lim then n else szL lim (n+r) rs
def zg5:Tm->Int:=Tm.fold fun _ _ rs=>szL 30 1 rs
theorem zzq (a:Tm):zg5 a=szL 30 1 (a.args.map zg5):=Tm.fold_eq _ a
theorem zld {α:Type}(f:α->Int)(g:α->Nat)(lim:Int):∀(xs:List α)(n:Int),0<=n->(∀x∈xs,1<=f x/\f x<=g x/\(f x<=lim->f x=g x))->szL lim n (xs.map f)<=n+(xs.map g).sum/\n<=szL lim n (xs.map f)/\(szL lim n (xs.map f)<=lim->szL lim n (xs.map f)=n+(xs.map g).sum)
 | [],n,_,_=>by simp[szL]
 | x::xs,n,hn,h=>by
  obtain⟨h1,h2,h3⟩:=h x (by simp);obtain⟨k1,k2,k3⟩:=zld f g lim xs (n+f x) Yp fun y hy=>h y (by simp[hy]);simp only[Qf,szL,Jd];split
  ·refine⟨Yp,Yp,fun hh=>by omega⟩
  ·refine⟨Yp,Yp,fun hh=>?_⟩;have:=k3 hh;rw[this];have:f x=g x:=h3 Yp;omega
theorem zo5:∀a:Tm,1<=zg5 a/\zg5 a<=a.nodes/\(zg5 a<=30->zg5 a=a.nodes):=by
 refine zb4 fun n xs ih=>?_
 rw[zzq,Tm.nodes_eq]
 show 1<=szL 30 1 (xs.map zg5)/\szL 30 1 (xs.map zg5)<=((1+(xs.map Tm.nodes).sum:Nat):Int)/\_
 obtain⟨k1,k2,k3⟩:=zld zg5 Tm.nodes 30 xs 1 Yp ih
 refine⟨k2,Yp,fun h=>?_⟩
 have:=k3 h
 show szL 30 1 (xs.map zg5)=_
 rw[this];show _=((1+(xs.map Tm.nodes).sum:Nat):Int);omega
theorem qnd (a:Tm):decide (zg5 a<=30)=decide (a.nodes<=30):=by
 obtain⟨h1,h2,h3⟩:=zo5 a
 rw[Js]
 exact⟨fun h=>by have:=h3 h;omega,fun h=>by omega⟩
def qlj {α:Type}(f:α->Nat)(xs:List α)(k:Nat):Nat:=((xs.drop k).map f).sum
theorem zfx {α:Type}(f:α->Nat)(xs:List α):qlj f xs 0=(xs.map f).sum:=by simp[qlj]
theorem zjr {α:Type}(f:α->Nat)(xs:List α)(k:Nat)(h:k<xs.length):qlj f xs k=f xs[k]+qlj f xs (k+1):=by
 unfold qlj
 rw[Qh h,Qf,Jd]
set_option maxHeartbeats 400000 in
theorem qux (a:Tm)(hs:a.wt<=1099511627776)(H:∀x∈a.args,FC Tryz.prog 168 [tmD x] [iD (zg5 x)]):FC Tryz.prog 168 [tmD a] [iD (zg5 a)]:=by
 refine zd1 (fun hw=>?_) Tryz.call168
 have hl:a.args.length<=9223372036854775807:=by rw[Tm.wt_eq]at hs;omega
 have hn:=zge a
 have hN:=a.nodes_eq
 simp only[tmD,zab]
 refine zad Tryz.call168 Tryz.func168 rfl Yo (zao Yo) ?_
 simp -implicitDefEqProofs only[go_sem,Tryz.results168]
 refine zag (fun p:Nat×Int=>hd [(3,vI p.2),(7,vT (tmS a.args)),(8,vI a.args.length),(9,vI p.1)] [] []) (fun p=>p.1<=a.args.length/\zg5 a=szL 30 p.2 ((a.args.drop p.1).map zg5)/\1<=p.2/\p.2+qlj Tm.nodes a.args p.1<=a.nodes) (fun p=>a.args.length-p.1) (0,1) (zac ?_) ?_ ?_
 ·simp -implicitDefEqProofs only[go_sem]
 ·exact⟨by simp,by rw[zzq];rfl,Yp,by rw[zfx];omega⟩
 ·intro ⟨k,n⟩ ⟨hk,hr,h1,h2⟩;simp only at hk hr h1 h2;by_cases hlt:k<a.args.length
  ·have hd:=zjr Tm.nodes a.args k hlt;obtain⟨s1,s2,s3⟩:=zo5 a.args[k];rw[Qh hlt,Qf,szL]at hr;simp -implicitDefEqProofs only[go_sem,zan,hlt,zab];refine⟨fun h=>?_,fun h=>?_⟩
   ·rw[hr,if_pos (by simpa using h)]
   ·refine callF (H a.args[k] (Qj hlt)) (by simp -implicitDefEqProofs only[go_sem,zab]) ?_;simp -implicitDefEqProofs only[go_sem,zab];rw[if_neg (by simpa using h)]at hr;exact⟨(k+1,n+zg5 a.args[k]),⟨hlt,hr,by simp only;omega,by simp only;omega⟩,by simp only;omega,zac (by simp -implicitDefEqProofs only[go_sem];rw[zap Yp,za6 Yp Yp];exact⟨rfl,rfl⟩)⟩
  ·simp -implicitDefEqProofs only[go_sem,hlt];rw[hr,Qt Yp];rfl
theorem size_c:∀a:Tm,a.wt<=1099511627776->FC Tryz.prog 168 [tmD a] [iD (zg5 a)] :=
 zb4 fun n xs ih hs=>qux (.mk n xs) hs fun x hx=>ih x hx (by
  have:=Tm.wt_eq (.mk n xs);have:=zbz Tm.wt xs x hx
  simp only[Tm.args]at *;omega)
set_option maxHeartbeats 400000 in
theorem qnp (a:Tm)(hs:a.wt<=1099511627776)(H:∀x∈a.args,FC Tryz.prog 169 [tmD x] [iD x.depth]):FC Tryz.prog 169 [tmD a] [iD a.depth]:=by
 have hl:a.args.length<=9223372036854775807:=by rw[Tm.wt_eq]at hs;omega
 have hn:=zge a
 have hdn:=zmm a
 have hD:=a.depth_eq
 simp only[tmD,zab]
 refine zad Tryz.call169 Tryz.func169 rfl Yo (zao Yo) ?_
 simp -implicitDefEqProofs only[go_sem,Tryz.results169]
 refine zag (fun p:Nat×Nat=>hd [(3,vI p.2),(7,vT (tmS a.args)),(8,vI a.args.length),(9,vI p.1)] [] []) (fun p=>p.1<=a.args.length/\a.depth=((a.args.drop p.1).map Tm.depth).foldl max p.2+1) (fun p=>a.args.length-p.1) (0,0) (zac ?_) ?_ ?_
 ·simp -implicitDefEqProofs only[go_sem]
 ·exact⟨by simp,hD⟩
 ·intro ⟨k,n⟩ ⟨hk,hr⟩;simp only at hk hr;by_cases hlt:k<a.args.length
  ·rw[Qh hlt,Qf,Jx]at hr;simp -implicitDefEqProofs only[go_sem,zan,hlt,zab];refine callF (H a.args[k] (Qj hlt)) (by simp -implicitDefEqProofs only[go_sem,zab]) ?_;simp -implicitDefEqProofs only[go_sem,zab];exact⟨(k+1,max n a.args[k].depth),⟨hlt,hr⟩,by simp only;omega,zac (by simp -implicitDefEqProofs only[go_sem];rw[zap Yp];exact⟨by congr 1;omega,rfl⟩)⟩
  ·simp -implicitDefEqProofs only[go_sem,hlt];rw[Qt Yp]at hr;simp only[Qo,List.foldl_nil]at hr;rw[hr,zap Yp]
theorem quq:∀a:Tm,a.wt<=1099511627776->FC Tryz.prog 169 [tmD a] [iD a.depth] :=
 zb4 fun n xs ih hs=>qnp (.mk n xs) hs fun x hx=>ih x hx (by
  have:=Tm.wt_eq (.mk n xs);have:=zbz Tm.wt xs x hx
  simp only[Tm.args]at *;omega)
def zhv (a:Tm):Bool:=decide (a.nodes<=30)&&decide (a.depth<=8)
theorem ztd (a:Tm)(hs:a.wt<=1099511627776):FC Tryz.prog 140 [tmD a] [bD (zhv a)]:=by
 simp only[tmD,zab]
 refine zad Tryz.call140 Tryz.func140 rfl Yo (zao Yo) ?_
 simp -implicitDefEqProofs only[go_sem,Tryz.results140]
 refine callF (size_c a hs) (by simp -implicitDefEqProofs only[go_sem,zab]) ?_
 simp -implicitDefEqProofs only[go_sem,zab]
 rw[qnd]
 refine⟨fun h=>?_,fun h=>?_⟩
 ·refine callF (quq a hs) (by simp -implicitDefEqProofs only[go_sem,zab]) ?_;simp -implicitDefEqProofs only[go_sem,zab];rw[zhv,h,Qs]
  congr 1
  rw[Js];omega
 ·rw[zhv,h];rfl
end Go.Proofs.YtnemmlahbbbobaaGreat
namespace Go.Proofs.YtnemmlahbbbobaaGreat
set_option linter.unusedSimpArgs false
set_option linter.unusedVariables false
set_option linter.unusedSectionVars false
set_option maxRecDepth 4000
open Go.RowKit
theorem qqh (σ:St)(caps:List T):VDs σ (caps.map fun t=>.one (.t t)) (caps.map .one)=True:=by
 induction caps with
 | nil=>simp[VDs]
 | cons t ts ih=>rw[Qf,Qf,zye,ih];simp[qrd,CT_t]
attribute [go_sem] qqh
def qrw {α:Type}(xs:List α)(p:α->Bool):Int:=if xs.any p then xs.findIdx p else -1
theorem zon {α:Type}{xs:List α}{p:α->Bool}{k:Nat}(hk:k<xs.length)(hn:∀x∈xs.take k,p x=false)(h:p xs[k]=true):qrw xs p=k:=by
 have ha:xs.any p=true:=List.any_eq_true.2 ⟨xs[k],Qj hk,h⟩
 have hf:xs.findIdx p=k:=(List.findIdx_eq hk).2 ⟨h,fun j hj=>hn _ (by
  rw[List.mem_take_iff_getElem];exact⟨j,Yp,rfl⟩)⟩
 rw[qrw,if_pos ha,hf]
theorem zt4 {α:Type}{xs:List α}{p:α->Bool}(hn:∀x∈xs,p x=false):qrw xs p = -1:=by
 have ha:xs.any p=false:=by rw[List.any_eq_false];exact fun x hx=>by simp[hn x hx]
 rw[qrw,ha];rfl
theorem zy9 {α:Type}(xs:List α)(p:α->Bool):decide (0<=qrw xs p)=xs.any p:=by
 unfold qrw
 cases xs.any p<;>simp
theorem zij {α:Type}{xs:List α}{p:α->Bool}{k:Nat}(hk:k<xs.length)(hn:∀x∈xs.take k,p x=false)(h:p xs[k]=false):∀x∈xs.take (k+1),p x=false:=by
 rw[Qk hk]
 intro x hx
 rcases Qm.1 hx with hx|hx
 ·exact hn x hx
 ·rw[Qy.1 hx];exact h
theorem zmi (xs:List Tm)(p:Tm->Bool)(g:FuncId)(caps:List T)(H:∀x∈xs,FC Tryz.prog g (tmD x::caps.map .one) [bD (p x)]):FC Tryz.prog 188 [.one (tmS xs),.one (.fn g caps)] [iD (qrw xs p)]:=by
 refine zd1 (fun hw=>?_) Tryz.call188
 have hl:xs.length<=9223372036854775807:=by simpa[zgs,wfT]using hw.1.1
 refine zad Tryz.call188 Tryz.func188 rfl Yo (zao Yo) ?_
 simp -implicitDefEqProofs only[go_sem,Tryz.results188]
 refine zag (fun k:Nat=>hd [(0,vT (tmS xs)),(1,vT (.fn g caps)),(7,vI xs.length),(8,vI k)] [] []) (fun k=>k<=xs.length/\∀x∈xs.take k,p x=false) (fun k=>xs.length-k) 0 (zac ?_) ?_ ?_
 ·simp -implicitDefEqProofs only[go_sem]
 ·simp
 ·intro k ⟨hk,hr⟩;by_cases hlt:k<xs.length
  ·simp -implicitDefEqProofs only[go_sem,zan,hlt,zab];refine callF (H xs[k] (Qj hlt)) (by simp -implicitDefEqProofs only[go_sem,zab]) ?_;simp -implicitDefEqProofs only[go_sem,zab];refine⟨fun h=>?_,fun h=>⟨k+1,⟨hlt,zij hlt hr h⟩,Yp,zac (by simp -implicitDefEqProofs only[go_sem];rw[zap Yp])⟩⟩;rw[zon hlt hr h]
  ·simp -implicitDefEqProofs only[go_sem,hlt];rw[Qv Yp]at hr;rw[zt4 hr]
theorem zi1 (xs:List Tm)(p:Tm->Bool)(g:FuncId)(caps:List T)(H:∀x∈xs,FC Tryz.prog g (tmD x::caps.map .one) [bD (p x)]):FC Tryz.prog 171 [.one (tmS xs),.one (.fn g caps)] [bD (xs.any p)]:=by
 refine zad Tryz.call171 Tryz.func171 rfl Yo (zao Yo) ?_
 simp -implicitDefEqProofs only[go_sem,Tryz.results171]
 refine callF (zmi xs p g caps H) Yn ?_
 simp -implicitDefEqProofs only[go_sem]
 rw[zy9]
theorem zi3 (xs:List Fm)(p:Fm->Bool)(g:FuncId)(caps:List T)(H:∀x∈xs,FC Tryz.prog g (fmD x::caps.map .one) [bD (p x)]):FC Tryz.prog 186 [.one (fmS xs),.one (.fn g caps)] [iD (qrw xs p)]:=by
 refine zd1 (fun hw=>?_) Tryz.call186
 have hl:xs.length<=9223372036854775807:=by simpa[zgs,wfT]using hw.1.1
 refine zad Tryz.call186 Tryz.func186 rfl Yo (zao Yo) ?_
 simp -implicitDefEqProofs only[go_sem,Tryz.results186]
 refine zag (fun k:Nat=>hd [(0,vT (fmS xs)),(1,vT (.fn g caps)),(7,vI xs.length),(8,vI k)] [] []) (fun k=>k<=xs.length/\∀x∈xs.take k,p x=false) (fun k=>xs.length-k) 0 (zac ?_) ?_ ?_
 ·simp -implicitDefEqProofs only[go_sem]
 ·simp
 ·intro k ⟨hk,hr⟩;by_cases hlt:k<xs.length
  ·simp -implicitDefEqProofs only[go_sem,zan,hlt,zaa,zab];refine callF (H xs[k] (Qj hlt)) (by simp -implicitDefEqProofs only[go_sem,zaa,zab]) ?_;simp -implicitDefEqProofs only[go_sem,zaa,zab];refine⟨fun h=>?_,fun h=>⟨k+1,⟨hlt,zij hlt hr h⟩,Yp,zac (by simp -implicitDefEqProofs only[go_sem];rw[zap Yp])⟩⟩;rw[zon hlt hr h]
  ·simp -implicitDefEqProofs only[go_sem,hlt];rw[Qv Yp]at hr;rw[zt4 hr]
theorem za4 (xs:List Fm)(p:Fm->Bool)(g:FuncId)(caps:List T)(H:∀x∈xs,FC Tryz.prog g (fmD x::caps.map .one) [bD (p x)]):FC Tryz.prog 166 [.one (fmS xs),.one (.fn g caps)] [bD (xs.any p)]:=by
 refine zad Tryz.call166 Tryz.func166 rfl Yo (zao Yo) ?_
 simp -implicitDefEqProofs only[go_sem,Tryz.results166]
 refine callF (zi3 xs p g caps H) Yn ?_
 simp -implicitDefEqProofs only[go_sem]
 rw[zy9]
end Go.Proofs.YtnemmlahbbbobaaGreat
namespace Go.Proofs.YtnemmlahbbbobaaGreat
set_option linter.unusedSimpArgs false
set_option linter.unusedVariables false
set_option linter.unusedSectionVars false
set_option maxRecDepth 4000
open Go.RowKit
def Tm.names:Tm->Bool:=Tm.fold fun n xs rs=>if zbd n=true then decide (xs.length=0)else zeb n&&decide (xs.length<=4)&&rs.all id
theorem Tm.names_eq (a:Tm):a.names=if zbd a.name=true then decide (a.args.length=0)else zeb a.name&&decide (a.args.length<=4)&&a.args.all Tm.names:=by
 unfold Tm.names
 rw[Tm.fold_eq]
 simp only[List.all_map]
 rfl
theorem zfm {α:Type}(xs:List α)(p:α->Bool):(!xs.any fun x=>!p x)=xs.all p:=by
 induction xs with
 | nil=>rfl
 | cons x xs ih=>simp only[List.any_cons,Kq,Bool.not_or,Bool.not_not,ih]
theorem zwb (a:Tm)(H:∀x∈a.args,FC Tryz.prog 141 [tmD x] [bD x.names]):FC Tryz.prog 141 [tmD a] [bD a.names]:=by
 have H1:∀x∈a.args,FC Tryz.prog 172 [tmD x] [bD (!x.names)]:=fun x hx=>by
  simp only[tmD,zab];refine zad Tryz.call172 Tryz.func172 rfl Yo (zao Yo) ?_;simp -implicitDefEqProofs only[go_sem,Tryz.results172];refine callF (H x hx) (by simp -implicitDefEqProofs only[go_sem,zab]) ?_;simp -implicitDefEqProofs only[go_sem,zab]
 have hN:=a.names_eq
 simp only[tmD,zab]
 refine zad Tryz.call141 Tryz.func141 rfl Yo (zao Yo) ?_
 simp -implicitDefEqProofs only[go_sem,Tryz.results141]
 refine callF (zdj a.name) Yn ?_
 simp -implicitDefEqProofs only[go_sem]
 refine⟨fun h=>?_,fun h=>?_⟩
 ·rw[hN,if_pos h]
  congr 1
  rw[Kl];simp
 ·rw[h]at hN;simp only[Ql,if_false]at hN;refine callF (zoz a.name) Yn ?_;simp -implicitDefEqProofs only[go_sem];refine⟨fun h1=>⟨fun h2=>?_,fun h2=>?_⟩,fun h1=>?_⟩
  ·refine callF (zi1 a.args (fun x=>!x.names) _ [] H1) Yn ?_;simp -implicitDefEqProofs only[go_sem];rw[zfm,hN,h1,Qs];rw[show decide (a.args.length<=4)=true by simp at h2⊢;omega];rfl
  ·rw[hN,h1,Qs,show decide (a.args.length<=4)=false by simp at h2⊢;omega];rfl
  ·rw[hN,h1];rfl
theorem zji:∀a:Tm,FC Tryz.prog 141 [tmD a] [bD a.names]:=zb4 fun n xs ih=>zwb (.mk n xs) ih
def Tm.good (a:Tm):Bool:=zhv a&&a.names
theorem zdy (a:Tm)(hs:a.wt<=1099511627776):FC Tryz.prog 120 [tmD a] [bD a.good]:=by
 simp only[tmD,zab]
 refine zad Tryz.call120 Tryz.func120 rfl Yo (zao Yo) ?_
 simp -implicitDefEqProofs only[go_sem,Tryz.results120]
 refine callF (ztd a hs) (by simp -implicitDefEqProofs only[go_sem,zab]) ?_
 simp -implicitDefEqProofs only[go_sem,zab]
 refine⟨fun h=>?_,fun h=>?_⟩
 ·refine callF (zji a) (by simp -implicitDefEqProofs only[go_sem,zab]) ?_;simp -implicitDefEqProofs only[go_sem,zab];rw[Tm.good,h,Qs]
 ·rw[Tm.good,h,Q1]
theorem zr9 (a:Tm):FC Tryz.prog 185 [tmD a] [bD (a.name==[61])]:=by
 simp only[tmD,zab]
 refine zad Tryz.call185 Tryz.func185 rfl Yo (zao Yo) ?_
 simp -implicitDefEqProofs only[go_sem,Tryz.results185]
def Tm.atomOk (a:Tm):Bool:=if(a.name==[61])=true then decide (a.args.length=2)&&zhv a&&a.args.all Tm.names else zeb a.name&&a.good
theorem qfo {α:Type}{xs:List α}{p:α->Bool}(h:xs.length=2):xs.all p=(p (xs[0]'Yp)&&p (xs[1]'Yp)):=by
 match xs,h with
 | [a,b],_=>simp
theorem zpn (a:Tm)(hs:a.wt<=1099511627776):FC Tryz.prog 165 [tmD a] [bD a.atomOk]:=by
 have hN:a.atomOk=if(a.name==[61])=true then decide (a.args.length=2)&&zhv a&&a.args.all Tm.names else zeb a.name&&a.good:=rfl
 simp only[tmD,zab]
 refine zad Tryz.call165 Tryz.func165 rfl Yo (zao Yo) ?_
 simp -implicitDefEqProofs only[go_sem,Tryz.results165]
 refine callF (zr9 a) (by simp -implicitDefEqProofs only[go_sem,zab]) ?_
 simp -implicitDefEqProofs only[go_sem,zab]
 refine⟨fun h=>?_,fun h=>?_⟩
 ·rw[if_pos h]at hN;by_cases h2:a.args.length=2
  ·have k0:0<a.args.length:=by omega
   have k1:1<a.args.length:=by omega
   have e2:((a.args.length:Int)==2)=true:=by simp[h2]
   have l0:(0:Int)<a.args.length:=by omega
   have l1:(1:Int)<a.args.length:=by omega
   rw[qfo h2,show decide (a.args.length=2)=true by simp[h2]]at hN;simp only[Qs]at hN;simp only[e2,qf0,zhb,qu3,zfq,and_true];refine callF (ztd a hs) (by simp -implicitDefEqProofs only[go_sem,zab,l0,zan,k0]) ?_;simp -implicitDefEqProofs only[go_sem,zab,l0,zan,k0];refine⟨fun h3=>?_,fun h3=>?_⟩
   ·refine callF (zji a.args[0]) (by simp -implicitDefEqProofs only[go_sem,zab,l1,zan,k1]) ?_;simp -implicitDefEqProofs only[go_sem,zab,l1,zan,k1];refine⟨fun h4=>?_,fun h4=>?_⟩
    ·refine callF (zji a.args[1]) (by simp -implicitDefEqProofs only[go_sem,zab]) ?_;simp -implicitDefEqProofs only[go_sem,zab];rw[hN,h3,h4];rfl
    ·rw[hN,h3,h4];rfl
   ·rw[hN,h3];rfl
  ·have e2:((a.args.length:Int)==2)=false:=by simp;omega
   simp only[e2,qf0,qte,zhb,zfq,and_true,true_and,qve];rw[hN,show decide (a.args.length=2)=false by simpa using h2];rfl
 ·rw[h]at hN;simp only[Ql,if_false]at hN;refine callF (zoz a.name) Yn ?_;simp -implicitDefEqProofs only[go_sem];refine⟨fun h3=>?_,fun h3=>?_⟩
  ·refine callF (zdy a hs) (by simp -implicitDefEqProofs only[go_sem,zab]) ?_;simp -implicitDefEqProofs only[go_sem,zab];rw[hN,h3,Qs]
  ·rw[hN,h3,Q1]
def Tm.none (a:Tm):Bool:=a.name==[]&&decide (a.args.length=0)
theorem zb0 (a:Tm):FC Tryz.prog 121 [tmD a] [bD a.none]:=by
 simp only[tmD,zab]
 refine zad Tryz.call121 Tryz.func121 rfl Yo (zao Yo) ?_
 simp -implicitDefEqProofs only[go_sem,Tryz.results121]
 unfold Tm.none
 refine⟨fun h=>?_,fun h=>?_⟩
 ·rw[h,Qs]
  congr 1
  rw[Kl];simp
 ·rw[h];rfl
def isQ (n:Int):Bool:=n==8||n==9
def zky (n:Int):Bool:=n==5||n==6||n==7
theorem zau (n:Int):FC Tryz.prog 163 [iD n] [bD (isQ n)]:=by
 refine zad Tryz.call163 Tryz.func163 rfl Yo (zao Yo) ?_
 simp -implicitDefEqProofs only[go_sem,Tryz.results163]
 unfold isQ
 refine⟨fun h=>?_,fun h=>?_⟩<;>simp[h]
theorem zho (n:Int):FC Tryz.prog 164 [iD n] [bD (zky n)]:=by
 refine zad Tryz.call164 Tryz.func164 rfl Yo (zao Yo) ?_
 simp -implicitDefEqProofs only[go_sem,Tryz.results164]
 unfold zky
 refine⟨fun h=>⟨fun h2=>?_,fun h2=>?_⟩,fun h=>?_⟩<;>simp[*]
end Go.Proofs.YtnemmlahbbbobaaGreat
namespace Go.Proofs.YtnemmlahbbbobaaGreat
set_option linter.unusedSimpArgs false
set_option linter.unusedVariables false
set_option linter.unusedSectionVars false
set_option maxRecDepth 4000
open Go.RowKit
def Fm.nodes:Fm->Nat:=Fm.fold fun _ _ _ _ rs=>1+rs.sum
theorem Fm.nodes_eq (a:Fm):a.nodes=1+(a.parts.map Fm.nodes).sum:=Fm.fold_eq _ a
theorem zjc:∀a:Fm,a.nodes<=1+a.wt:=by
 refine zcn fun o a v xs ih=>?_
 rw[Fm.nodes_eq,Fm.wt_eq]
 show 1+(xs.map Fm.nodes).sum<=1+(a.wt+v.length+xs.length+(xs.map Fm.wt).sum)
 have:(xs.map Fm.nodes).sum<=xs.length+(xs.map Fm.wt).sum:=by
  induction xs with
  | nil=>simp
  | cons x xs ih2 =>
   have h1:=ih x (by simp);have h2:=ih2 fun y hy=>ih y (by simp[hy]);simp only[Qf,Jd,Qi];omega
 omega
def zg7:Fm->Int:=Fm.fold fun _ _ _ _ rs=>szL 40 1 rs
theorem zzt (a:Fm):zg7 a=szL 40 1 (a.parts.map zg7):=Fm.fold_eq _ a
theorem zop:∀a:Fm,1<=zg7 a/\zg7 a<=a.nodes/\(zg7 a<=40->zg7 a=a.nodes):=by
 refine zcn fun o a v xs ih=>?_
 rw[zzt,Fm.nodes_eq]
 show 1<=szL 40 1 (xs.map zg7)/\szL 40 1 (xs.map zg7)<=((1+(xs.map Fm.nodes).sum:Nat):Int)/\_
 obtain⟨k1,k2,k3⟩:=zld zg7 Fm.nodes 40 xs 1 Yp ih
 refine⟨k2,Yp,fun h=>?_⟩
 have:=k3 h
 show szL 40 1 (xs.map zg7)=_
 rw[this];show _=((1+(xs.map Fm.nodes).sum:Nat):Int);omega
theorem qpc (a:Fm):decide (zg7 a<=40)=decide (a.nodes<=40):=by
 obtain⟨h1,h2,h3⟩:=zop a
 rw[Js]
 exact⟨fun h=>by have:=h3 h;omega,fun h=>by omega⟩
theorem zdw {a x:Fm}(h:x∈a.parts):x.wt<=a.wt:=by
 have:=Fm.wt_eq a
 have:=zbz Fm.wt a.parts x h
 omega
theorem zpy {a x:Tm}(h:x∈a.args):x.wt<=a.wt:=by
 have:=Tm.wt_eq a
 have:=zbz Tm.wt a.args x h
 omega
theorem zj9 (a:Fm):a.atom.wt<=a.wt:=by have:=Fm.wt_eq a;omega
set_option maxHeartbeats 400000 in
theorem qfp (a:Fm)(hs:a.wt<=1099511627776)(H:∀x∈a.parts,FC Tryz.prog 138 [fmD x] [iD (zg7 x)]):FC Tryz.prog 138 [fmD a] [iD (zg7 a)]:=by
 have hl:a.parts.length<=9223372036854775807:=by rw[Fm.wt_eq]at hs;omega
 have hn:=zjc a
 have hN:=a.nodes_eq
 simp only[fmD,zaa]
 refine zad Tryz.call138 Tryz.func138 rfl Yo (zao Yo) ?_
 simp -implicitDefEqProofs only[go_sem,Tryz.results138]
 refine zag (fun p:Nat×Int=>hd [(3,vI p.2),(7,vT (fmS a.parts)),(8,vI a.parts.length),(9,vI p.1)] [] []) (fun p=>p.1<=a.parts.length/\zg7 a=szL 40 p.2 ((a.parts.drop p.1).map zg7)/\1<=p.2/\p.2+qlj Fm.nodes a.parts p.1<=a.nodes) (fun p=>a.parts.length-p.1) (0,1) (zac ?_) ?_ ?_
 ·simp -implicitDefEqProofs only[go_sem]
 ·exact⟨by simp,by rw[zzt];rfl,Yp,by rw[zfx];omega⟩
 ·intro ⟨k,n⟩ ⟨hk,hr,h1,h2⟩;simp only at hk hr h1 h2;by_cases hlt:k<a.parts.length
  ·have hd:=zjr Fm.nodes a.parts k hlt;obtain⟨s1,s2,s3⟩:=zop a.parts[k];rw[Qh hlt,Qf,szL]at hr;simp -implicitDefEqProofs only[go_sem,zan,hlt,zaa];refine⟨fun h=>?_,fun h=>?_⟩
   ·rw[hr,if_pos (by simpa using h)]
   ·refine callF (H a.parts[k] (Qj hlt)) (by simp -implicitDefEqProofs only[go_sem,zaa]) ?_;simp -implicitDefEqProofs only[go_sem,zaa];rw[if_neg (by simpa using h)]at hr;exact⟨(k+1,n+zg7 a.parts[k]),⟨hlt,hr,by simp only;omega,by simp only;omega⟩,by simp only;omega,zac (by simp -implicitDefEqProofs only[go_sem];rw[zap Yp,za6 Yp Yp];exact⟨rfl,rfl⟩)⟩
  ·simp -implicitDefEqProofs only[go_sem,hlt];rw[hr,Qt Yp];rfl
theorem qpy:∀a:Fm,a.wt<=1099511627776->FC Tryz.prog 138 [fmD a] [iD (zg7 a)] :=
 zcn fun o a v xs ih hs=>qfp (.mk o a v xs) hs fun x hx=>ih x hx (Ja (zdw (a:=.mk o a v xs) hx) hs)
def mnL (most:Int):Int->List (Int->Int)->Int
 | n,[]=>n
 | n,r::rs=>if n<=most then mnL most (n+r (most-n)) rs else n
theorem zlg {α:Type}(f:α->Int->Int)(g:α->Nat)(most:Int):∀(xs:List α)(n:Int),0<=n->(∀x∈xs,∀m,0<=m->1<=f x m/\f x m<=g x/\(f x m<=m->f x m=g x))->mnL most n (xs.map f)<=n+(xs.map g).sum/\n<=mnL most n (xs.map f)/\(mnL most n (xs.map f)<=most->mnL most n (xs.map f)=n+(xs.map g).sum)
 | [],n,_,_=>by simp[mnL]
 | x::xs,n,hn,h=>by
  simp only[Qf,mnL,Jd];split
  ·obtain⟨h1,h2,h3⟩:=h x (by simp) (most-n) Yp;obtain⟨k1,k2,k3⟩:=zlg f g most xs (n+f x (most-n)) Yp fun y hy=>h y (by simp[hy]);refine⟨Yp,Yp,fun hh=>?_⟩;have:=k3 hh;have:f x (most-n)=g x:=h3 Yp;omega
  ·refine⟨Yp,Yp,fun hh=>by omega⟩
def zgb:Tm->Int->Int:=Tm.fold fun _ _ rs m=>mnL m 1 rs
theorem zzf (a:Tm)(m:Int):zgb a m=mnL m 1 (a.args.map zgb):=congrFun (Tm.fold_eq _ a) m
theorem zov:∀(a:Tm)(m:Int),0<=m->1<=zgb a m/\zgb a m<=a.nodes/\(zgb a m<=m->zgb a m=a.nodes):=by
 refine zb4 fun b0 xs ih m hm=>?_
 rw[zzf,Tm.nodes_eq]
 show 1<=mnL m 1 (xs.map zgb)/\mnL m 1 (xs.map zgb)<=((1+(xs.map Tm.nodes).sum:Nat):Int)/\(mnL m 1 (xs.map zgb)<=m->mnL m 1 (xs.map zgb)=((1+(xs.map Tm.nodes).sum:Nat):Int))
 obtain⟨k1,k2,k3⟩:=zlg zgb Tm.nodes m xs 1 Yp ih
 refine⟨k2,Yp,fun h=>?_⟩
 have:=k3 h
 omega
theorem qnb (a:Tm)(m:Nat):decide (zgb a m<=m)=decide (a.nodes<=m):=by
 obtain⟨h1,h2,h3⟩:=zov a m Yp
 rw[Js]
 exact⟨fun h=>by have:=h3 h;omega,fun h=>by omega⟩
set_option maxHeartbeats 400000 in
theorem qdk (a:Tm)(hs:a.wt<=1099511627776)(H:∀x∈a.args,∀m:Int,0<=m->m<=1099511627776->FC Tryz.prog 156 [tmD x,iD m] [iD (zgb x m)])(m:Int)(h0:0<=m)(h1:m<=1099511627776):FC Tryz.prog 156 [tmD a,iD m] [iD (zgb a m)]:=by
 have hl:a.args.length<=9223372036854775807:=by rw[Tm.wt_eq]at hs;omega
 have hn:=zge a
 have hN:=a.nodes_eq
 simp only[tmD,zab]
 refine zad Tryz.call156 Tryz.func156 rfl Yo (zao Yo) ?_
 simp -implicitDefEqProofs only[go_sem,Tryz.results156]
 refine zag (fun p:Nat×Int=>hd [(1,vI m),(2,.one (.bx 2 0)),(5,vI p.2),(6,vI p.1)] [(2,[.t (.str a.name),.t (tmS a.args)])] []) (fun p=>p.1<=a.args.length/\zgb a m=mnL m p.2 ((a.args.drop p.1).map zgb)/\1<=p.2/\p.2+qlj Tm.nodes a.args p.1<=a.nodes) (fun p=>a.args.length-p.1) (0,1) (zac ?_) ?_ ?_
 ·simp -implicitDefEqProofs only[go_sem]
 ·exact⟨by simp,by rw[zzf];rfl,Yp,by rw[zfx];omega⟩
 ·intro ⟨k,n⟩ ⟨hk,hr,h2,h3⟩;simp only at hk hr h2 h3;by_cases hlt:k<a.args.length
  ·have hd:=zjr Tm.nodes a.args k hlt;rw[Qh hlt,Qf,mnL]at hr;simp -implicitDefEqProofs only[go_sem,zan,hlt,zab];refine⟨fun h=>?_,fun h=>?_⟩
   ·have hle:n<=m:=by simpa using h
    obtain⟨s1,s2,s3⟩:=zov a.args[k] (m-n) Yp;rw[za6 (n:=m-n) Yp Yp];refine callF (H a.args[k] (Qj hlt) (m-n) Yp Yp) (by simp -implicitDefEqProofs only[go_sem,zab]) ?_;simp -implicitDefEqProofs only[go_sem,zab];rw[if_pos hle]at hr;exact⟨(k+1,n+zgb a.args[k] (m-n)),⟨hlt,hr,by simp only;omega,by simp only;omega⟩,by simp only;omega,zac (by simp -implicitDefEqProofs only[go_sem];rw[zap Yp,za6 Yp Yp];exact⟨rfl,rfl⟩)⟩
   ·rw[hr,if_neg (by simpa using h)]
  ·simp -implicitDefEqProofs only[go_sem,hlt];rw[hr,Qt Yp];rfl
theorem qqb:∀a:Tm,a.wt<=1099511627776->∀m:Int,0<=m->m<=1099511627776->FC Tryz.prog 156 [tmD a,iD m] [iD (zgb a m)] :=
 zb4 fun b0 xs ih hs=>qdk (.mk b0 xs) hs fun x hx=>ih x hx (Ja (zpy (a:=.mk b0 xs) hx) hs)
def zf4:Fm->Int->Int:=Fm.fold fun _ _ _ _ rs m=>mnL m 1 rs
theorem zxj (a:Fm)(m:Int):zf4 a m=mnL m 1 (a.parts.map zf4):=congrFun (Fm.fold_eq _ a) m
theorem zob:∀(a:Fm)(m:Int),0<=m->1<=zf4 a m/\zf4 a m<=a.nodes/\(zf4 a m<=m->zf4 a m=a.nodes):=by
 refine zcn fun b0 b1 b2 xs ih m hm=>?_
 rw[zxj,Fm.nodes_eq]
 show 1<=mnL m 1 (xs.map zf4)/\mnL m 1 (xs.map zf4)<=((1+(xs.map Fm.nodes).sum:Nat):Int)/\(mnL m 1 (xs.map zf4)<=m->mnL m 1 (xs.map zf4)=((1+(xs.map Fm.nodes).sum:Nat):Int))
 obtain⟨k1,k2,k3⟩:=zlg zf4 Fm.nodes m xs 1 Yp ih
 refine⟨k2,Yp,fun h=>?_⟩
 have:=k3 h
 omega
theorem qp2 (a:Fm)(m:Nat):decide (zf4 a m<=m)=decide (a.nodes<=m):=by
 obtain⟨h1,h2,h3⟩:=zob a m Yp
 rw[Js]
 exact⟨fun h=>by have:=h3 h;omega,fun h=>by omega⟩
set_option maxHeartbeats 400000 in
theorem qjf (a:Fm)(hs:a.wt<=1099511627776)(H:∀x∈a.parts,∀m:Int,0<=m->m<=1099511627776->FC Tryz.prog 130 [fmD x,iD m] [iD (zf4 x m)])(m:Int)(h0:0<=m)(h1:m<=1099511627776):FC Tryz.prog 130 [fmD a,iD m] [iD (zf4 a m)]:=by
 have hl:a.parts.length<=9223372036854775807:=by rw[Fm.wt_eq]at hs;omega
 have hn:=zjc a
 have hN:=a.nodes_eq
 simp only[fmD,zaa]
 refine zad Tryz.call130 Tryz.func130 rfl Yo (zao Yo) ?_
 simp -implicitDefEqProofs only[go_sem,Tryz.results130]
 refine zag (fun p:Nat×Int=>hd [(1,vI m),(2,.one (.bx 2 0)),(5,vI p.2),(6,vI p.1)] [(2,[.t (.int .i64 a.op),.t (.str a.atom.name),.t (tmS a.atom.args),.t (.str a.var),.t (fmS a.parts)])] []) (fun p=>p.1<=a.parts.length/\zf4 a m=mnL m p.2 ((a.parts.drop p.1).map zf4)/\1<=p.2/\p.2+qlj Fm.nodes a.parts p.1<=a.nodes) (fun p=>a.parts.length-p.1) (0,1) (zac ?_) ?_ ?_
 ·simp -implicitDefEqProofs only[go_sem]
 ·exact⟨by simp,by rw[zxj];rfl,Yp,by rw[zfx];omega⟩
 ·intro ⟨k,n⟩ ⟨hk,hr,h2,h3⟩;simp only at hk hr h2 h3;by_cases hlt:k<a.parts.length
  ·have hd:=zjr Fm.nodes a.parts k hlt;rw[Qh hlt,Qf,mnL]at hr;simp -implicitDefEqProofs only[go_sem,zan,hlt,zaa];refine⟨fun h=>?_,fun h=>?_⟩
   ·have hle:n<=m:=by simpa using h
    obtain⟨s1,s2,s3⟩:=zob a.parts[k] (m-n) Yp;rw[za6 (n:=m-n) Yp Yp];refine callF (H a.parts[k] (Qj hlt) (m-n) Yp Yp) (by simp -implicitDefEqProofs only[go_sem,zaa]) ?_;simp -implicitDefEqProofs only[go_sem,zaa];rw[if_pos hle]at hr;exact⟨(k+1,n+zf4 a.parts[k] (m-n)),⟨hlt,hr,by simp only;omega,by simp only;omega⟩,by simp only;omega,zac (by simp -implicitDefEqProofs only[go_sem];rw[zap Yp,za6 Yp Yp];exact⟨rfl,rfl⟩)⟩
   ·rw[hr,if_neg (by simpa using h)]
  ·simp -implicitDefEqProofs only[go_sem,hlt];rw[hr,Qt Yp];rfl
theorem qpo:∀a:Fm,a.wt<=1099511627776->∀m:Int,0<=m->m<=1099511627776->FC Tryz.prog 130 [fmD a,iD m] [iD (zf4 a m)] :=
 zcn fun b0 b1 b2 xs ih hs=>qjf (.mk b0 b1 b2 xs) hs fun x hx=>ih x hx (Ja (zdw (a:=.mk b0 b1 b2 xs) hx) hs)
end Go.Proofs.YtnemmlahbbbobaaGreat
namespace Go.Proofs.YtnemmlahbbbobaaGreat
set_option linter.unusedSimpArgs false
set_option linter.unusedVariables false
set_option linter.unusedSectionVars false
set_option maxRecDepth 4000
open Go.RowKit
set_option maxHeartbeats 400000 in
theorem qbx (a:Tm)(hs:a.wt<=1099511627776)(H:∀x∈a.args,FC Tryz.prog 157 [tmD x] [iD x.depth]):FC Tryz.prog 157 [tmD a] [iD a.depth]:=by
 have hl:a.args.length<=9223372036854775807:=by rw[Tm.wt_eq]at hs;omega
 have hn:=zge a
 have hdn:=zmm a
 have hD:=a.depth_eq
 simp only[tmD,zab]
 refine zad Tryz.call157 Tryz.func157 rfl Yo (zao Yo) ?_
 simp -implicitDefEqProofs only[go_sem,Tryz.results157]
 refine zag (fun p:Nat×Nat=>hd [(1,.one (.bx 1 0)),(3,vI p.2),(4,vI p.1)] [(1,[.t (.str a.name),.t (tmS a.args)])] []) (fun p=>p.1<=a.args.length/\a.depth=((a.args.drop p.1).map Tm.depth).foldl max p.2+1) (fun p=>a.args.length-p.1) (0,0) (zac ?_) ?_ ?_
 ·simp -implicitDefEqProofs only[go_sem]
 ·exact⟨by simp,hD⟩
 ·intro ⟨k,n⟩ ⟨hk,hr⟩;simp only at hk hr;by_cases hlt:k<a.args.length
  ·rw[Qh hlt,Qf,Jx]at hr;simp -implicitDefEqProofs only[go_sem,zan,hlt,zab];refine callF (H a.args[k] (Qj hlt)) (by simp -implicitDefEqProofs only[go_sem,zab]) ?_;simp -implicitDefEqProofs only[go_sem,zab];refine callF (qp9 n a.args[k].depth) (by simp -implicitDefEqProofs only[go_sem,zab]) ?_;simp -implicitDefEqProofs only[go_sem,zab];exact⟨(k+1,max n a.args[k].depth),⟨hlt,hr⟩,by simp only;omega,zac (by simp -implicitDefEqProofs only[go_sem];rw[zap Yp];exact⟨by congr 1;omega,rfl⟩)⟩
  ·simp -implicitDefEqProofs only[go_sem,hlt];rw[Qt Yp]at hr;simp only[Qo,List.foldl_nil]at hr;rw[hr,zap Yp]
theorem qi0:∀a:Tm,a.wt<=1099511627776->FC Tryz.prog 157 [tmD a] [iD a.depth] :=
 zb4 fun n xs ih hs=>qbx (.mk n xs) hs fun x hx=>ih x hx (Ja (zpy (a:=.mk n xs) hx) hs)
theorem zy4 (a:Tm)(hs:a.wt<=1099511627776):FC Tryz.prog 132 [tmD a] [bD (zhv a)]:=by
 simp only[tmD,zab]
 refine zad Tryz.call132 Tryz.func132 rfl Yo (zao Yo) ?_
 simp -implicitDefEqProofs only[go_sem,Tryz.results132]
 refine callF (qqb a hs 30 Yp Yp) (by simp -implicitDefEqProofs only[go_sem,zab]) ?_
 simp -implicitDefEqProofs only[go_sem,zab]
 rw[show decide (zgb a 30<=30)=decide (a.nodes<=30) from qnb a 30]
 refine⟨fun h=>?_,fun h=>?_⟩
 ·refine callF (qi0 a hs) (by simp -implicitDefEqProofs only[go_sem,zab]) ?_;simp -implicitDefEqProofs only[go_sem,zab];rw[zhv,h,Qs]
  congr 1
  rw[Js];omega
 ·rw[zhv,h];rfl
theorem qcj (a:Tm)(H:∀x∈a.args,FC Tryz.prog 133 [tmD x] [bD x.names]):FC Tryz.prog 133 [tmD a] [bD a.names]:=by
 refine zd1 (fun hw=>?_) Tryz.call133
 have hl:a.args.length<=9223372036854775807:=by simp only[tmD,zab]at hw;simp[zgs,wfT,zsa]at hw;exact hw.2.1
 have hN:=a.names_eq
 simp only[tmD,zab]
 refine zad Tryz.call133 Tryz.func133 rfl Yo (zao Yo) ?_
 simp -implicitDefEqProofs only[go_sem,Tryz.results133]
 refine callF (zh0 a.name) Yn ?_
 simp -implicitDefEqProofs only[go_sem]
 refine⟨fun h=>?_,fun h=>?_⟩
 ·rw[hN,if_pos h]
  congr 1
  rw[Kl];simp
 ·rw[h]at hN;simp only[Ql,if_false]at hN;refine callF (zoy a.name) Yn ?_;simp -implicitDefEqProofs only[go_sem];by_cases hy:zeb a.name=true
  ·by_cases h4:a.args.length<=4
   ·rw[hy,show decide (a.args.length<=4)=true by simpa using h4,Qs,Qs]at hN;refine⟨fun _=>⟨fun h=>by simp at h;omega,fun _=>?_⟩,fun h=>by simp[hy]at h⟩;refine zag (fun k:Nat=>hd [(1,.one (.bx 1 0)),(3,vI k)] [(1,[.t (.str a.name),.t (tmS a.args)])] []) (fun k=>k<=a.args.length/\a.names=(a.args.drop k).all Tm.names) (fun k=>a.args.length-k) 0 (zac ?_) ?_ ?_
    ·simp -implicitDefEqProofs only[go_sem]
    ·exact⟨by simp,hN⟩
    ·intro k ⟨hk,hr⟩;by_cases hlt:k<a.args.length
     ·rw[Qh hlt,Kq]at hr;simp -implicitDefEqProofs only[go_sem,zan,hlt,zab];refine callF (H a.args[k] (Qj hlt)) (by simp -implicitDefEqProofs only[go_sem,zab]) ?_;simp -implicitDefEqProofs only[go_sem,zab];refine⟨fun h=>?_,fun h=>⟨k+1,⟨hlt,?_⟩,Yp,zac (by simp -implicitDefEqProofs only[go_sem];rw[zap Yp])⟩⟩
      ·rw[hr,show a.args[k].names=false by simpa using h];rfl
      ·rw[hr,show a.args[k].names=true by simpa using h];rfl
     ·simp -implicitDefEqProofs only[go_sem,hlt];rw[hr,Qt Yp];rfl
   ·refine⟨fun _=>⟨fun _=>?_,fun h=>by simp at h;omega⟩,fun h=>by simp[hy]at h⟩;rw[hN,show decide (a.args.length<=4)=false by simpa using h4,Ki];rfl
  ·have hy':zeb a.name=false:=by simpa using hy
   refine⟨fun h=>by simp[hy']at h,fun _=>?_⟩;rw[hN,hy'];rfl
theorem zma:∀a:Tm,FC Tryz.prog 133 [tmD a] [bD a.names]:=zb4 fun n xs ih=>qcj (.mk n xs) ih
theorem zzm (a:Tm)(hs:a.wt<=1099511627776):FC Tryz.prog 106 [tmD a] [bD a.good]:=by
 simp only[tmD,zab]
 refine zad Tryz.call106 Tryz.func106 rfl Yo (zao Yo) ?_
 simp -implicitDefEqProofs only[go_sem,Tryz.results106]
 refine callF (zy4 a hs) (by simp -implicitDefEqProofs only[go_sem,zab]) ?_
 simp -implicitDefEqProofs only[go_sem,zab]
 refine⟨fun h=>?_,fun h=>?_⟩
 ·refine callF (zma a) (by simp -implicitDefEqProofs only[go_sem,zab]) ?_;simp -implicitDefEqProofs only[go_sem,zab];rw[Tm.good,h,Qs]
 ·rw[Tm.good,h,Q1]
theorem zzc (a:Tm)(hs:a.wt<=1099511627776):FC Tryz.prog 161 [tmD a] [bD a.atomOk]:=by
 have hN:a.atomOk=if(a.name==[61])=true then decide (a.args.length=2)&&zhv a&&a.args.all Tm.names else zeb a.name&&a.good:=rfl
 simp only[tmD,zab]
 refine zad Tryz.call161 Tryz.func161 rfl Yo (zao Yo) ?_
 simp -implicitDefEqProofs only[go_sem,Tryz.results161]
 refine⟨fun h=>?_,fun h=>?_⟩
 ·rw[if_pos h]at hN;by_cases h2:a.args.length=2
  ·have k0:0<a.args.length:=by omega
   have k1:1<a.args.length:=by omega
   have e2:((a.args.length:Int)==2)=true:=by simp[h2]
   have l0:(0:Int)<a.args.length:=by omega
   have l1:(1:Int)<a.args.length:=by omega
   rw[qfo h2,show decide (a.args.length=2)=true by simp[h2]]at hN;simp only[Qs]at hN;simp only[e2,qf0,zhb,qu3,zfq,and_true];refine callF (zy4 a hs) (by simp -implicitDefEqProofs only[go_sem,zab,l0,zan,k0]) ?_;simp -implicitDefEqProofs only[go_sem,zab,l0,zan,k0];refine⟨fun h3=>?_,fun h3=>?_⟩
   ·refine callF (zma a.args[0]) (by simp -implicitDefEqProofs only[go_sem,zab,l1,zan,k1]) ?_;simp -implicitDefEqProofs only[go_sem,zab,l1,zan,k1];refine⟨fun h4=>?_,fun h4=>?_⟩
    ·refine callF (zma a.args[1]) (by simp -implicitDefEqProofs only[go_sem,zab]) ?_;simp -implicitDefEqProofs only[go_sem,zab];rw[hN,h3,h4];rfl
    ·rw[hN,h3,h4];rfl
   ·rw[hN,h3];rfl
  ·have e2:((a.args.length:Int)==2)=false:=by simp;omega
   simp only[e2,qf0,qte,zhb,zfq,and_true,true_and,qve];rw[hN,show decide (a.args.length=2)=false by simpa using h2];rfl
 ·rw[h]at hN;simp only[Ql,if_false]at hN;refine callF (zoy a.name) Yn ?_;simp -implicitDefEqProofs only[go_sem];refine⟨fun h3=>?_,fun h3=>?_⟩
  ·refine callF (zzm a hs) (by simp -implicitDefEqProofs only[go_sem,zab]) ?_;simp -implicitDefEqProofs only[go_sem,zab];rw[hN,h3,Qs]
  ·rw[hN,h3,Q1]
theorem ze9 (a:Tm):FC Tryz.prog 182 [tmD a] [bD a.none]:=by
 simp only[tmD,zab]
 refine zad Tryz.call182 Tryz.func182 rfl Yo (zao Yo) ?_
 simp -implicitDefEqProofs only[go_sem,Tryz.results182]
 unfold Tm.none
 refine⟨fun h=>?_,fun h=>?_⟩
 ·rw[h,Qs]
  congr 1
  rw[Kl];simp
 ·rw[h];rfl
def Fm.here (f:Fm):Bool :=
 if(f.op==1||f.op==2)=true then decide (f.parts.length=0)&&f.atom.none&&(f.var==[])
 else if(f.op==3)=true then decide (f.parts.length=0)&&f.atom.atomOk&&(f.var==[])
 else if(f.op==4)=true then decide (f.parts.length=1)&&f.atom.none&&(f.var==[])
 else if zky f.op=true then decide (f.parts.length=2)&&f.atom.none&&(f.var==[])
 else if isQ f.op=true then decide (f.parts.length=1)&&f.atom.none&&zbd f.var
 else false
theorem zqb (n m:Nat):((n:Int)==(m:Int))=decide (n=m):=by
 rw[Kl];simp only[Kk,Kb];omega
theorem zv4 (n m:Nat):((n:Int) != (m:Int))=!decide (n=m):=by
 rw[bne,zqb]
theorem zyb (o:Int):o=1\/o=2\/o=3\/o=4\/o=5\/o=6\/o=7\/o=8\/o=9\/(o≠1/\o≠2/\o≠3/\o≠4/\o≠5/\o≠6/\o≠7/\o≠8/\o≠9):=by omega
set_option maxHeartbeats 4000000 in
theorem qnr (f:Fm)(hs:f.wt<=1099511627776):FC Tryz.prog 155 [fmD f] [bD f.here]:=by
 obtain⟨o,a,v,ps⟩:=f
 have ha:a.wt<=1099511627776:=Ja (zj9 (.mk o a v ps)) hs
 have e0:((ps.length:Int)==0)=decide (ps.length=0):=zqb _ 0
 have e1:((ps.length:Int)==1)=decide (ps.length=1):=zqb _ 1
 have e2:((ps.length:Int)==2)=decide (ps.length=2):=zqb _ 2
 rcases zyb o with rfl|rfl|rfl|rfl|rfl|rfl|rfl|rfl|rfl|⟨n1,n2,n3,n4,n5,n6,n7,n8,n9⟩
 ·have hN:Fm.here (.mk 1 a v ps)=(decide (ps.length=0)&&a.none&&(v==[])):=rfl;simp only[fmD,zaa,Fm.op,Fm.atom,Fm.var,Fm.parts];refine zad Tryz.call155 Tryz.func155 rfl Yo (zao Yo) ?_;simp -implicitDefEqProofs only[go_sem,Tryz.results155];simp only[e0];refine⟨fun h=>?_,fun h=>?_⟩
  ·refine callF (ze9 a) (by simp -implicitDefEqProofs only[go_sem,zab]) ?_;simp -implicitDefEqProofs only[go_sem,zab];refine⟨fun h1=>?_,fun h1=>?_⟩
   ·rw[hN,h,h1];rfl
   ·rw[hN,h,h1];rfl
  ·rw[hN,h];rfl
 ·have hN:Fm.here (.mk 2 a v ps)=(decide (ps.length=0)&&a.none&&(v==[])):=rfl;simp only[fmD,zaa,Fm.op,Fm.atom,Fm.var,Fm.parts];refine zad Tryz.call155 Tryz.func155 rfl Yo (zao Yo) ?_;simp -implicitDefEqProofs only[go_sem,Tryz.results155];simp only[e0];refine⟨fun h=>?_,fun h=>?_⟩
  ·refine callF (ze9 a) (by simp -implicitDefEqProofs only[go_sem,zab]) ?_;simp -implicitDefEqProofs only[go_sem,zab];refine⟨fun h1=>?_,fun h1=>?_⟩
   ·rw[hN,h,h1];rfl
   ·rw[hN,h,h1];rfl
  ·rw[hN,h];rfl
 ·have hN:Fm.here (.mk 3 a v ps)=(decide (ps.length=0)&&a.atomOk&&(v==[])):=rfl;simp only[fmD,zaa,Fm.op,Fm.atom,Fm.var,Fm.parts];refine zad Tryz.call155 Tryz.func155 rfl Yo (zao Yo) ?_;simp -implicitDefEqProofs only[go_sem,Tryz.results155];simp only[e0];refine⟨fun h=>?_,fun h=>?_⟩
  ·refine callF (zzc a ha) (by simp -implicitDefEqProofs only[go_sem,zab]) ?_;simp -implicitDefEqProofs only[go_sem,zab];refine⟨fun h1=>?_,fun h1=>?_⟩
   ·rw[hN,h,h1];rfl
   ·rw[hN,h,h1];rfl
  ·rw[hN,h];rfl
 ·have hN:Fm.here (.mk 4 a v ps)=(decide (ps.length=1)&&a.none&&(v==[])):=rfl;simp only[fmD,zaa,Fm.op,Fm.atom,Fm.var,Fm.parts];refine zad Tryz.call155 Tryz.func155 rfl Yo (zao Yo) ?_;simp -implicitDefEqProofs only[go_sem,Tryz.results155];simp only[e1];refine⟨fun h=>?_,fun h=>?_⟩
  ·refine callF (ze9 a) (by simp -implicitDefEqProofs only[go_sem,zab]) ?_;simp -implicitDefEqProofs only[go_sem,zab];refine⟨fun h1=>?_,fun h1=>?_⟩
   ·rw[hN,h,h1];rfl
   ·rw[hN,h,h1];rfl
  ·rw[hN,h];rfl
 ·have hN:Fm.here (.mk 5 a v ps)=(decide (ps.length=2)&&a.none&&(v==[])):=rfl;simp only[fmD,zaa,Fm.op,Fm.atom,Fm.var,Fm.parts];refine zad Tryz.call155 Tryz.func155 rfl Yo (zao Yo) ?_;simp -implicitDefEqProofs only[go_sem,Tryz.results155];simp only[e2];refine⟨fun h=>?_,fun h=>?_⟩
  ·refine callF (ze9 a) (by simp -implicitDefEqProofs only[go_sem,zab]) ?_;simp -implicitDefEqProofs only[go_sem,zab];refine⟨fun h1=>?_,fun h1=>?_⟩
   ·rw[hN,h,h1];rfl
   ·rw[hN,h,h1];rfl
  ·rw[hN,h];rfl
 ·have hN:Fm.here (.mk 6 a v ps)=(decide (ps.length=2)&&a.none&&(v==[])):=rfl;simp only[fmD,zaa,Fm.op,Fm.atom,Fm.var,Fm.parts];refine zad Tryz.call155 Tryz.func155 rfl Yo (zao Yo) ?_;simp -implicitDefEqProofs only[go_sem,Tryz.results155];simp only[e2];refine⟨fun h=>?_,fun h=>?_⟩
  ·refine callF (ze9 a) (by simp -implicitDefEqProofs only[go_sem,zab]) ?_;simp -implicitDefEqProofs only[go_sem,zab];refine⟨fun h1=>?_,fun h1=>?_⟩
   ·rw[hN,h,h1];rfl
   ·rw[hN,h,h1];rfl
  ·rw[hN,h];rfl
 ·have hN:Fm.here (.mk 7 a v ps)=(decide (ps.length=2)&&a.none&&(v==[])):=rfl;simp only[fmD,zaa,Fm.op,Fm.atom,Fm.var,Fm.parts];refine zad Tryz.call155 Tryz.func155 rfl Yo (zao Yo) ?_;simp -implicitDefEqProofs only[go_sem,Tryz.results155];simp only[e2];refine⟨fun h=>?_,fun h=>?_⟩
  ·refine callF (ze9 a) (by simp -implicitDefEqProofs only[go_sem,zab]) ?_;simp -implicitDefEqProofs only[go_sem,zab];refine⟨fun h1=>?_,fun h1=>?_⟩
   ·rw[hN,h,h1];rfl
   ·rw[hN,h,h1];rfl
  ·rw[hN,h];rfl
 ·have hN:Fm.here (.mk 8 a v ps)=(decide (ps.length=1)&&a.none&&zbd v):=rfl;simp only[fmD,zaa,Fm.op,Fm.atom,Fm.var,Fm.parts];refine zad Tryz.call155 Tryz.func155 rfl Yo (zao Yo) ?_;simp -implicitDefEqProofs only[go_sem,Tryz.results155];simp only[e1];refine⟨fun h=>?_,fun h=>?_⟩
  ·refine callF (ze9 a) (by simp -implicitDefEqProofs only[go_sem,zab]) ?_;simp -implicitDefEqProofs only[go_sem,zab];refine⟨fun h1=>?_,fun h1=>?_⟩
   ·refine callF (zh0 v) Yn ?_;simp -implicitDefEqProofs only[go_sem];rw[hN,h,h1];rfl
   ·rw[hN,h,h1];rfl
  ·rw[hN,h];rfl
 ·have hN:Fm.here (.mk 9 a v ps)=(decide (ps.length=1)&&a.none&&zbd v):=rfl;simp only[fmD,zaa,Fm.op,Fm.atom,Fm.var,Fm.parts];refine zad Tryz.call155 Tryz.func155 rfl Yo (zao Yo) ?_;simp -implicitDefEqProofs only[go_sem,Tryz.results155];simp only[e1];refine⟨fun h=>?_,fun h=>?_⟩
  ·refine callF (ze9 a) (by simp -implicitDefEqProofs only[go_sem,zab]) ?_;simp -implicitDefEqProofs only[go_sem,zab];refine⟨fun h1=>?_,fun h1=>?_⟩
   ·refine callF (zh0 v) Yn ?_;simp -implicitDefEqProofs only[go_sem];rw[hN,h,h1];rfl
   ·rw[hN,h,h1];rfl
  ·rw[hN,h];rfl
 ·have hN:Fm.here (.mk o a v ps)=false:=by simp[Fm.here,zky,isQ,Fm.op, *]
  have f1:(o==1)=false:=by simpa using n1
  have f2:(o==2)=false:=by simpa using n2
  have f3:(o==3)=false:=by simpa using n3
  have f4:(o==4)=false:=by simpa using n4
  have f5:(o==5)=false:=by simpa using n5
  have f6:(o==6)=false:=by simpa using n6
  have f7:(o==7)=false:=by simpa using n7
  have f8:(o==8)=false:=by simpa using n8
  have f9:(o==9)=false:=by simpa using n9
  simp only[fmD,zaa,Fm.op,Fm.atom,Fm.var,Fm.parts];refine zad Tryz.call155 Tryz.func155 rfl Yo (zao Yo) ?_;simp -implicitDefEqProofs only[go_sem,Tryz.results155,f1,f2,f3,f4,f5,f6,f7,f8,f9];rw[hN]
def Fm.forms:Fm->Bool:=Fm.fold fun o a v ps rs=>(Fm.mk o a v ps).here&&rs.all id
theorem Fm.forms_eq (f:Fm):f.forms=(f.here&&f.parts.all Fm.forms):=by
 unfold Fm.forms
 rw[Fm.fold_eq]
 simp only[List.all_map,Fm.eta]
 rfl
theorem qba (a:Fm)(hs:a.wt<=1099511627776)(H:∀x∈a.parts,FC Tryz.prog 131 [fmD x] [bD x.forms]):FC Tryz.prog 131 [fmD a] [bD a.forms]:=by
 have hl:a.parts.length<=9223372036854775807:=by rw[Fm.wt_eq]at hs;omega
 have hN:=a.forms_eq
 simp only[fmD,zaa]
 refine zad Tryz.call131 Tryz.func131 rfl Yo (zao Yo) ?_
 simp -implicitDefEqProofs only[go_sem,Tryz.results131]
 refine callF (qnr a hs) (by simp -implicitDefEqProofs only[go_sem,zaa]) ?_
 simp -implicitDefEqProofs only[go_sem,zaa]
 refine⟨fun h=>?_,fun h=>?_⟩
 ·rw[hN,show a.here=false by simpa using h];rfl
 ·rw[show a.here=true by simpa using h,Qs]at hN;refine zag (fun k:Nat=>hd [(1,.one (.bx 1 0)),(3,vI k)] [(1,[.t (.int .i64 a.op),.t (.str a.atom.name),.t (tmS a.atom.args),.t (.str a.var),.t (fmS a.parts)])] []) (fun k=>k<=a.parts.length/\a.forms=(a.parts.drop k).all Fm.forms) (fun k=>a.parts.length-k) 0 (zac ?_) ?_ ?_
  ·simp -implicitDefEqProofs only[go_sem]
  ·exact⟨by simp,hN⟩
  ·intro k ⟨hk,hr⟩;by_cases hlt:k<a.parts.length
   ·rw[Qh hlt,Kq]at hr;simp -implicitDefEqProofs only[go_sem,zan,hlt,zaa];refine callF (H a.parts[k] (Qj hlt)) (by simp -implicitDefEqProofs only[go_sem,zaa]) ?_;simp -implicitDefEqProofs only[go_sem,zaa];refine⟨fun h=>?_,fun h=>⟨k+1,⟨hlt,?_⟩,Yp,zac (by simp -implicitDefEqProofs only[go_sem];rw[zap Yp])⟩⟩
    ·rw[hr,show a.parts[k].forms=false by simpa using h];rfl
    ·rw[hr,show a.parts[k].forms=true by simpa using h];rfl
   ·simp -implicitDefEqProofs only[go_sem,hlt];rw[hr,Qt Yp];rfl
theorem qfc:∀a:Fm,a.wt<=1099511627776->FC Tryz.prog 131 [fmD a] [bD a.forms] :=
 zcn fun o a v xs ih hs=>qba (.mk o a v xs) hs fun x hx=>ih x hx (Ja (zdw (a:=.mk o a v xs) hx) hs)
def Fm.good (a:Fm):Bool:=decide (a.nodes<=40)&&a.forms
theorem qoe (a:Fm)(hs:a.wt<=1099511627776):FC Tryz.prog 105 [fmD a] [bD a.good]:=by
 simp only[fmD,zaa]
 refine zad Tryz.call105 Tryz.func105 rfl Yo (zao Yo) ?_
 simp -implicitDefEqProofs only[go_sem,Tryz.results105]
 refine callF (qpo a hs 40 Yp Yp) (by simp -implicitDefEqProofs only[go_sem,zaa]) ?_
 simp -implicitDefEqProofs only[go_sem,zaa]
 rw[show decide (zf4 a 40<=40)=decide (a.nodes<=40) from qp2 a 40]
 refine⟨fun h=>?_,fun h=>?_⟩
 ·refine callF (qfc a hs) (by simp -implicitDefEqProofs only[go_sem,zaa]) ?_;simp -implicitDefEqProofs only[go_sem,zaa];rw[Fm.good,h,Qs]
 ·rw[Fm.good,h,Q1]
end Go.Proofs.YtnemmlahbbbobaaGreat
namespace Go.Proofs.YtnemmlahbbbobaaGreat
set_option linter.unusedSimpArgs false
set_option linter.unusedVariables false
set_option linter.unusedSectionVars false
set_option maxRecDepth 4000
open Go.RowKit
set_option maxHeartbeats 4000000 in
theorem qak (f:Fm)(hs:f.wt<=1099511627776)(H:∀x∈f.parts,FC Tryz.prog 139 [fmD x] [bD x.forms]):FC Tryz.prog 139 [fmD f] [bD f.forms]:=by
 have H1:∀x∈f.parts,FC Tryz.prog 167 [fmD x] [bD (!x.forms)]:=fun x hx=>by
  simp only[fmD,zaa];refine zad Tryz.call167 Tryz.func167 rfl Yo (zao Yo) ?_;simp -implicitDefEqProofs only[go_sem,Tryz.results167];refine callF (H x hx) (by simp -implicitDefEqProofs only[go_sem,zaa]) ?_;simp -implicitDefEqProofs only[go_sem,zaa]
 have hN:=f.forms_eq
 obtain⟨o,a,v,ps⟩:=f
 have ha:a.wt<=1099511627776:=Ja (zj9 (.mk o a v ps)) hs
 have e0:((ps.length:Int) != 0)=!decide (ps.length=0):=zv4 _ 0
 have e1:((ps.length:Int) != 1)=!decide (ps.length=1):=zv4 _ 1
 have e2:((ps.length:Int) != 2)=!decide (ps.length=2):=zv4 _ 2
 simp only[Fm.parts]at H1 hN
 rcases zyb o with rfl|rfl|rfl|rfl|rfl|rfl|rfl|rfl|rfl|⟨n1,n2,n3,n4,n5,n6,n7,n8,n9⟩
 ·have hH:Fm.here (.mk 1 a v ps)=(decide (ps.length=0)&&a.none&&(v==[])):=rfl;rw[hH]at hN;have hq:isQ 1=false:=rfl;have hb:zky 1=false:=rfl;simp only[fmD,zaa,Fm.op,Fm.atom,Fm.var,Fm.parts];refine zad Tryz.call139 Tryz.func139 rfl Yo (zao Yo) ?_;simp -implicitDefEqProofs only[go_sem,Tryz.results139];simp only[e0];refine⟨fun h=>?_,fun h=>?_⟩
  ·have h':decide (ps.length=0)=true:=by simpa using h
   refine callF (zau 1) (by simp -implicitDefEqProofs only[go_sem,hq]) ?_;simp -implicitDefEqProofs only[go_sem,hq];refine callF (zau 1) (by simp -implicitDefEqProofs only[go_sem,hq]) ?_;simp -implicitDefEqProofs only[go_sem,hq];refine⟨fun h1=>?_,fun h1=>?_⟩
   ·rw[hN,show(v==[])=false by simpa using h1,Ki,Q1]
   ·have h1':(v==[])=true:=by simpa using h1
    refine callF (zb0 a) (by simp -implicitDefEqProofs only[go_sem,zab]) ?_;simp -implicitDefEqProofs only[go_sem,zab];refine⟨fun h2=>?_,fun h2=>?_⟩
    ·rw[hN,show a.none=false by simpa using h2,Ki,Q1,Q1]
    ·have h2':a.none=true:=by simpa using h2
     refine callF (za4 ps (fun x=>!x.forms) _ [] H1) Yn ?_;simp -implicitDefEqProofs only[go_sem];rw[zfm,hN,h',h1',h2'];rfl
  ·rw[hN,show decide (ps.length=0)=false by simpa using h];rfl
 ·have hH:Fm.here (.mk 2 a v ps)=(decide (ps.length=0)&&a.none&&(v==[])):=rfl;rw[hH]at hN;have hq:isQ 2=false:=rfl;have hb:zky 2=false:=rfl;simp only[fmD,zaa,Fm.op,Fm.atom,Fm.var,Fm.parts];refine zad Tryz.call139 Tryz.func139 rfl Yo (zao Yo) ?_;simp -implicitDefEqProofs only[go_sem,Tryz.results139];simp only[e0];refine⟨fun h=>?_,fun h=>?_⟩
  ·have h':decide (ps.length=0)=true:=by simpa using h
   refine callF (zau 2) (by simp -implicitDefEqProofs only[go_sem,hq]) ?_;simp -implicitDefEqProofs only[go_sem,hq];refine callF (zau 2) (by simp -implicitDefEqProofs only[go_sem,hq]) ?_;simp -implicitDefEqProofs only[go_sem,hq];refine⟨fun h1=>?_,fun h1=>?_⟩
   ·rw[hN,show(v==[])=false by simpa using h1,Ki,Q1]
   ·have h1':(v==[])=true:=by simpa using h1
    refine callF (zb0 a) (by simp -implicitDefEqProofs only[go_sem,zab]) ?_;simp -implicitDefEqProofs only[go_sem,zab];refine⟨fun h2=>?_,fun h2=>?_⟩
    ·rw[hN,show a.none=false by simpa using h2,Ki,Q1,Q1]
    ·have h2':a.none=true:=by simpa using h2
     refine callF (za4 ps (fun x=>!x.forms) _ [] H1) Yn ?_;simp -implicitDefEqProofs only[go_sem];rw[zfm,hN,h',h1',h2'];rfl
  ·rw[hN,show decide (ps.length=0)=false by simpa using h];rfl
 ·have hH:Fm.here (.mk 3 a v ps)=(decide (ps.length=0)&&a.atomOk&&(v==[])):=rfl;rw[hH]at hN;have hq:isQ 3=false:=rfl;have hb:zky 3=false:=rfl;simp only[fmD,zaa,Fm.op,Fm.atom,Fm.var,Fm.parts];refine zad Tryz.call139 Tryz.func139 rfl Yo (zao Yo) ?_;simp -implicitDefEqProofs only[go_sem,Tryz.results139];simp only[e0];refine⟨fun h=>?_,fun h=>?_⟩
  ·have h':decide (ps.length=0)=true:=by simpa using h
   refine callF (zau 3) (by simp -implicitDefEqProofs only[go_sem,hq]) ?_;simp -implicitDefEqProofs only[go_sem,hq];refine callF (zau 3) (by simp -implicitDefEqProofs only[go_sem,hq]) ?_;simp -implicitDefEqProofs only[go_sem,hq];refine⟨fun h1=>?_,fun h1=>?_⟩
   ·rw[hN,show(v==[])=false by simpa using h1,Ki,Q1]
   ·have h1':(v==[])=true:=by simpa using h1
    refine callF (zpn a ha) (by simp -implicitDefEqProofs only[go_sem,zab]) ?_;simp -implicitDefEqProofs only[go_sem,zab];refine And.symm ⟨fun h2=>?_,fun h2=>?_⟩
    ·rw[hN,show a.atomOk=false by simpa using h2,Ki,Q1,Q1]
    ·have h2':a.atomOk=true:=by simpa using h2
     refine callF (za4 ps (fun x=>!x.forms) _ [] H1) Yn ?_;simp -implicitDefEqProofs only[go_sem];rw[zfm,hN,h',h1',h2'];rfl
  ·rw[hN,show decide (ps.length=0)=false by simpa using h];rfl
 ·have hH:Fm.here (.mk 4 a v ps)=(decide (ps.length=1)&&a.none&&(v==[])):=rfl;rw[hH]at hN;have hq:isQ 4=false:=rfl;have hb:zky 4=false:=rfl;simp only[fmD,zaa,Fm.op,Fm.atom,Fm.var,Fm.parts];refine zad Tryz.call139 Tryz.func139 rfl Yo (zao Yo) ?_;simp -implicitDefEqProofs only[go_sem,Tryz.results139];simp only[e1];refine⟨fun h=>?_,fun h=>?_⟩
  ·have h':decide (ps.length=1)=true:=by simpa using h
   refine callF (zau 4) (by simp -implicitDefEqProofs only[go_sem,hq]) ?_;simp -implicitDefEqProofs only[go_sem,hq];refine callF (zau 4) (by simp -implicitDefEqProofs only[go_sem,hq]) ?_;simp -implicitDefEqProofs only[go_sem,hq];refine⟨fun h1=>?_,fun h1=>?_⟩
   ·rw[hN,show(v==[])=false by simpa using h1,Ki,Q1]
   ·have h1':(v==[])=true:=by simpa using h1
    refine callF (zb0 a) (by simp -implicitDefEqProofs only[go_sem,zab]) ?_;simp -implicitDefEqProofs only[go_sem,zab];refine⟨fun h2=>?_,fun h2=>?_⟩
    ·rw[hN,show a.none=false by simpa using h2,Ki,Q1,Q1]
    ·have h2':a.none=true:=by simpa using h2
     refine callF (za4 ps (fun x=>!x.forms) _ [] H1) Yn ?_;simp -implicitDefEqProofs only[go_sem];rw[zfm,hN,h',h1',h2'];rfl
  ·rw[hN,show decide (ps.length=1)=false by simpa using h];rfl
 ·have hH:Fm.here (.mk 5 a v ps)=(decide (ps.length=2)&&a.none&&(v==[])):=rfl;rw[hH]at hN;have hq:isQ 5=false:=rfl;have hb:zky 5=true:=rfl;simp only[fmD,zaa,Fm.op,Fm.atom,Fm.var,Fm.parts];refine zad Tryz.call139 Tryz.func139 rfl Yo (zao Yo) ?_;simp -implicitDefEqProofs only[go_sem,Tryz.results139];refine callF (zau 5) (by simp -implicitDefEqProofs only[go_sem,hq]) ?_;simp -implicitDefEqProofs only[go_sem,hq];refine callF (zho 5) (by simp -implicitDefEqProofs only[go_sem,hb]) ?_;simp -implicitDefEqProofs only[go_sem,hb];simp only[e2];refine⟨fun h=>?_,fun h=>?_⟩
  ·have h':decide (ps.length=2)=true:=by simpa using h
   refine callF (zau 5) (by simp -implicitDefEqProofs only[go_sem,hq]) ?_;simp -implicitDefEqProofs only[go_sem,hq];refine callF (zau 5) (by simp -implicitDefEqProofs only[go_sem,hq]) ?_;simp -implicitDefEqProofs only[go_sem,hq];refine⟨fun h1=>?_,fun h1=>?_⟩
   ·rw[hN,show(v==[])=false by simpa using h1,Ki,Q1]
   ·have h1':(v==[])=true:=by simpa using h1
    refine callF (zb0 a) (by simp -implicitDefEqProofs only[go_sem,zab]) ?_;simp -implicitDefEqProofs only[go_sem,zab];refine⟨fun h2=>?_,fun h2=>?_⟩
    ·rw[hN,show a.none=false by simpa using h2,Ki,Q1,Q1]
    ·have h2':a.none=true:=by simpa using h2
     refine callF (za4 ps (fun x=>!x.forms) _ [] H1) Yn ?_;simp -implicitDefEqProofs only[go_sem];rw[zfm,hN,h',h1',h2'];rfl
  ·rw[hN,show decide (ps.length=2)=false by simpa using h];rfl
 ·have hH:Fm.here (.mk 6 a v ps)=(decide (ps.length=2)&&a.none&&(v==[])):=rfl;rw[hH]at hN;have hq:isQ 6=false:=rfl;have hb:zky 6=true:=rfl;simp only[fmD,zaa,Fm.op,Fm.atom,Fm.var,Fm.parts];refine zad Tryz.call139 Tryz.func139 rfl Yo (zao Yo) ?_;simp -implicitDefEqProofs only[go_sem,Tryz.results139];refine callF (zau 6) (by simp -implicitDefEqProofs only[go_sem,hq]) ?_;simp -implicitDefEqProofs only[go_sem,hq];refine callF (zho 6) (by simp -implicitDefEqProofs only[go_sem,hb]) ?_;simp -implicitDefEqProofs only[go_sem,hb];simp only[e2];refine⟨fun h=>?_,fun h=>?_⟩
  ·have h':decide (ps.length=2)=true:=by simpa using h
   refine callF (zau 6) (by simp -implicitDefEqProofs only[go_sem,hq]) ?_;simp -implicitDefEqProofs only[go_sem,hq];refine callF (zau 6) (by simp -implicitDefEqProofs only[go_sem,hq]) ?_;simp -implicitDefEqProofs only[go_sem,hq];refine⟨fun h1=>?_,fun h1=>?_⟩
   ·rw[hN,show(v==[])=false by simpa using h1,Ki,Q1]
   ·have h1':(v==[])=true:=by simpa using h1
    refine callF (zb0 a) (by simp -implicitDefEqProofs only[go_sem,zab]) ?_;simp -implicitDefEqProofs only[go_sem,zab];refine⟨fun h2=>?_,fun h2=>?_⟩
    ·rw[hN,show a.none=false by simpa using h2,Ki,Q1,Q1]
    ·have h2':a.none=true:=by simpa using h2
     refine callF (za4 ps (fun x=>!x.forms) _ [] H1) Yn ?_;simp -implicitDefEqProofs only[go_sem];rw[zfm,hN,h',h1',h2'];rfl
  ·rw[hN,show decide (ps.length=2)=false by simpa using h];rfl
 ·have hH:Fm.here (.mk 7 a v ps)=(decide (ps.length=2)&&a.none&&(v==[])):=rfl;rw[hH]at hN;have hq:isQ 7=false:=rfl;have hb:zky 7=true:=rfl;simp only[fmD,zaa,Fm.op,Fm.atom,Fm.var,Fm.parts];refine zad Tryz.call139 Tryz.func139 rfl Yo (zao Yo) ?_;simp -implicitDefEqProofs only[go_sem,Tryz.results139];refine callF (zau 7) (by simp -implicitDefEqProofs only[go_sem,hq]) ?_;simp -implicitDefEqProofs only[go_sem,hq];refine callF (zho 7) (by simp -implicitDefEqProofs only[go_sem,hb]) ?_;simp -implicitDefEqProofs only[go_sem,hb];simp only[e2];refine⟨fun h=>?_,fun h=>?_⟩
  ·have h':decide (ps.length=2)=true:=by simpa using h
   refine callF (zau 7) (by simp -implicitDefEqProofs only[go_sem,hq]) ?_;simp -implicitDefEqProofs only[go_sem,hq];refine callF (zau 7) (by simp -implicitDefEqProofs only[go_sem,hq]) ?_;simp -implicitDefEqProofs only[go_sem,hq];refine⟨fun h1=>?_,fun h1=>?_⟩
   ·rw[hN,show(v==[])=false by simpa using h1,Ki,Q1]
   ·have h1':(v==[])=true:=by simpa using h1
    refine callF (zb0 a) (by simp -implicitDefEqProofs only[go_sem,zab]) ?_;simp -implicitDefEqProofs only[go_sem,zab];refine⟨fun h2=>?_,fun h2=>?_⟩
    ·rw[hN,show a.none=false by simpa using h2,Ki,Q1,Q1]
    ·have h2':a.none=true:=by simpa using h2
     refine callF (za4 ps (fun x=>!x.forms) _ [] H1) Yn ?_;simp -implicitDefEqProofs only[go_sem];rw[zfm,hN,h',h1',h2'];rfl
  ·rw[hN,show decide (ps.length=2)=false by simpa using h];rfl
 ·have hH:Fm.here (.mk 8 a v ps)=(decide (ps.length=1)&&a.none&&zbd v):=rfl;rw[hH]at hN;have hq:isQ 8=true:=rfl;have hb:zky 8=false:=rfl;simp only[fmD,zaa,Fm.op,Fm.atom,Fm.var,Fm.parts];refine zad Tryz.call139 Tryz.func139 rfl Yo (zao Yo) ?_;simp -implicitDefEqProofs only[go_sem,Tryz.results139];refine callF (zau 8) (by simp -implicitDefEqProofs only[go_sem,hq]) ?_;simp -implicitDefEqProofs only[go_sem,hq];simp only[e1];refine⟨fun h=>?_,fun h=>?_⟩
  ·have h':decide (ps.length=1)=true:=by simpa using h
   refine callF (zau 8) (by simp -implicitDefEqProofs only[go_sem,hq]) ?_;simp -implicitDefEqProofs only[go_sem,hq];refine callF (zdj v) Yn ?_;simp -implicitDefEqProofs only[go_sem];refine⟨fun h1=>?_,fun h1=>?_⟩
   ·have h1':zbd v=true:=by simpa using h1
    refine callF (zau 8) (by simp -implicitDefEqProofs only[go_sem,hq]) ?_;simp -implicitDefEqProofs only[go_sem,hq];refine callF (zb0 a) (by simp -implicitDefEqProofs only[go_sem,zab]) ?_;simp -implicitDefEqProofs only[go_sem,zab];refine⟨fun h2=>?_,fun h2=>?_⟩
    ·rw[hN,show a.none=false by simpa using h2,Ki,Q1,Q1]
    ·have h2':a.none=true:=by simpa using h2
     refine callF (za4 ps (fun x=>!x.forms) _ [] H1) Yn ?_;simp -implicitDefEqProofs only[go_sem];rw[zfm,hN,h',h1',h2'];rfl
   ·rw[hN,show zbd v=false by simpa using h1,Ki,Q1]
  ·rw[hN,show decide (ps.length=1)=false by simpa using h];rfl
 ·have hH:Fm.here (.mk 9 a v ps)=(decide (ps.length=1)&&a.none&&zbd v):=rfl;rw[hH]at hN;have hq:isQ 9=true:=rfl;have hb:zky 9=false:=rfl;simp only[fmD,zaa,Fm.op,Fm.atom,Fm.var,Fm.parts];refine zad Tryz.call139 Tryz.func139 rfl Yo (zao Yo) ?_;simp -implicitDefEqProofs only[go_sem,Tryz.results139];refine callF (zau 9) (by simp -implicitDefEqProofs only[go_sem,hq]) ?_;simp -implicitDefEqProofs only[go_sem,hq];simp only[e1];refine⟨fun h=>?_,fun h=>?_⟩
  ·have h':decide (ps.length=1)=true:=by simpa using h
   refine callF (zau 9) (by simp -implicitDefEqProofs only[go_sem,hq]) ?_;simp -implicitDefEqProofs only[go_sem,hq];refine callF (zdj v) Yn ?_;simp -implicitDefEqProofs only[go_sem];refine⟨fun h1=>?_,fun h1=>?_⟩
   ·have h1':zbd v=true:=by simpa using h1
    refine callF (zau 9) (by simp -implicitDefEqProofs only[go_sem,hq]) ?_;simp -implicitDefEqProofs only[go_sem,hq];refine callF (zb0 a) (by simp -implicitDefEqProofs only[go_sem,zab]) ?_;simp -implicitDefEqProofs only[go_sem,zab];refine⟨fun h2=>?_,fun h2=>?_⟩
    ·rw[hN,show a.none=false by simpa using h2,Ki,Q1,Q1]
    ·have h2':a.none=true:=by simpa using h2
     refine callF (za4 ps (fun x=>!x.forms) _ [] H1) Yn ?_;simp -implicitDefEqProofs only[go_sem];rw[zfm,hN,h',h1',h2'];rfl
   ·rw[hN,show zbd v=false by simpa using h1,Ki,Q1]
  ·rw[hN,show decide (ps.length=1)=false by simpa using h];rfl
 ·have hH:Fm.here (.mk o a v ps)=false:=by simp[Fm.here,zky,isQ,Fm.op, *]
  rw[hH]at hN;have f1:(o==1)=false:=by simpa using n1
  have f2:(o==2)=false:=by simpa using n2
  have f3:(o==3)=false:=by simpa using n3
  have f4:(o==4)=false:=by simpa using n4
  have hq:isQ o=false:=by simp[isQ,n8,n9]
  have hb:zky o=false:=by simp[zky,n5,n6,n7]
  simp only[fmD,zaa,Fm.op,Fm.atom,Fm.var,Fm.parts];refine zad Tryz.call139 Tryz.func139 rfl Yo (zao Yo) ?_;simp -implicitDefEqProofs only[go_sem,Tryz.results139,f1,f2,f3,f4];refine callF (zau o) (by simp -implicitDefEqProofs only[go_sem,hq]) ?_;simp -implicitDefEqProofs only[go_sem,hq];refine callF (zho o) (by simp -implicitDefEqProofs only[go_sem,hb]) ?_;simp -implicitDefEqProofs only[go_sem,hb];rw[hN];rfl
theorem qc0:∀a:Fm,a.wt<=1099511627776->FC Tryz.prog 139 [fmD a] [bD a.forms] :=
 zcn fun o a v xs ih hs=>qak (.mk o a v xs) hs fun x hx=>ih x hx (Ja (zdw (a:=.mk o a v xs) hx) hs)
theorem zce (a:Fm)(hs:a.wt<=1099511627776):FC Tryz.prog 117 [fmD a] [bD a.good]:=by
 simp only[fmD,zaa]
 refine zad Tryz.call117 Tryz.func117 rfl Yo (zao Yo) ?_
 simp -implicitDefEqProofs only[go_sem,Tryz.results117]
 refine callF (qpy a hs) (by simp -implicitDefEqProofs only[go_sem,zaa]) ?_
 simp -implicitDefEqProofs only[go_sem,zaa]
 rw[qpc]
 refine⟨fun h=>?_,fun h=>?_⟩
 ·refine callF (qc0 a hs) (by simp -implicitDefEqProofs only[go_sem,zaa]) ?_;simp -implicitDefEqProofs only[go_sem,zaa];rw[Fm.good,h,Qs]
 ·rw[Fm.good,h,Q1]
end Go.Proofs.YtnemmlahbbbobaaGreat
namespace Go.Proofs.YtnemmlahbbbobaaGreat
set_option linter.unusedSimpArgs false
set_option linter.unusedVariables false
set_option linter.unusedSectionVars false
set_option maxRecDepth 4000
open Go.RowKit Go.Sort Go.Proofs
variable {P:Program}
theorem zy5 {w:World}:∀{ss:List Str}{vs:List Value}{fps:List Nat},za9 w (ss.map T.str) vs fps->vs=ss.map encStr/\fps=[]/\∀s∈ss,s.length<=zhf
 | [],vs,fps,h=>⟨h.1,h.2,by simp⟩
 | s::ss,vs,fps,h=>by
  obtain⟨v,vs',f1,f2,rfl,rfl,h1,h2⟩:=h;unfold za5 at h1;obtain⟨rfl,k1,rfl⟩:=h1;obtain⟨rfl,rfl,k2⟩:=zy5 h2;exact⟨rfl,rfl,fun x hx=>(Qp.1 hx).elim (fun e=>e▸k1) (k2 x)⟩
theorem zxh {w:World}:∀{ss:List Str},(∀s∈ss,s.length<=zhf)->za9 w (ss.map T.str) (ss.map encStr) []
 | [],_=>⟨rfl,rfl⟩
 | s::ss,h=>⟨_,_,[],[],rfl,rfl,by unfold za5;exact⟨rfl,h s (by simp),rfl⟩,zxh fun x hx=>h x (by simp[hx])⟩
theorem zm9 (ss:List Str):(ss.map fun s=>[T.str s]).flatten=ss.map T.str:=by induction ss<;>simp_all
theorem qf6 (ss:List Str):lens 1 (ss.map fun s=>[T.str s]):=fun r hr=>by obtain⟨s,_,rfl⟩:=Ka.1 hr;rfl
abbrev zk6 (ss:List Str):List Str:=ss.mergeSort leB
theorem qto {f:FuncId}(hc:zbb P f)(hS:∀(blk off cap:Nat)(ss:List (List UInt8))(w:World),Holds encStr w blk off ss.toArray->blk<w.heap.size->ss.length<4611686018427387904 →
   Calls P f #[.slice (some ⟨blk,off,none⟩) ss.length cap] w fun e w'=>e=.returned (.tuple #[])/\∃n os,w'=grow (putRow encStr (Sort.ahead w n) blk off (ss.mergeSort fun x y=>decide (x<=y)).toArray) os)
  (hN:∀(p:Option Addr) (cap:Nat) (w:World),Calls P f #[.slice p 0 cap] w fun e w'=>e=.returned (.tuple #[])/\w'=w) (ss:List Str) (hl:ss.length<4611686018427387904):IC P f [] (.one (zdh ss)) [] (.one (zdh (zk6 ss))) []:=by
 refine⟨hc,fun w us1 v us2 fp tp h1 hg h2 hn=>?_⟩
 rw[show us1=[] from h1,show us2=[] from h2]
 obtain⟨hg,_⟩:=hg
 unfold za5 at hg
 obtain⟨ao,cap,rfl,q1,q2,q3⟩:=hg
 rw[Qa]at q1⊢
 rcases q3 with⟨rfl,rfl,q3,rfl⟩|⟨b,cells,ty,fps,rfl,rfl,q3,q4,q5⟩
 ·have hs:ss=[]:=List.map_eq_nil_iff.1 q3;subst hs;refine(hN none 0 w).mono ?_;rintro e w' ⟨rfl,rfl⟩;refine⟨[],[],[],rfl,⟨_,[],[],[],[],[],rfl,rfl,rfl,⟨?_,rfl⟩,rfl,rfl,rfl⟩,Kn,by simp,Bk.refl _ _⟩;unfold za5;exact⟨none,0,by simp[zk6],by simp[zk6],by simp,Or.inl ⟨rfl,rfl,by simp[zk6],rfl⟩⟩
 ·obtain⟨_,vs,k1,k2,k3⟩:=q5.vals;rw[zm9]at k3;obtain⟨rfl,rfl,k4⟩:=zy5 k3;have hsz:ss.length<=cells.size:=by omega
  have ht:cells.toList.take ss.length=ss.map encStr:=by
   apply List.ext_getElem?;intro j;by_cases hj:j<ss.length
   ·rw[List.getElem?_take_of_lt hj,Array.getElem?_toList];have:=k2 j _ (List.getElem?_eq_getElem (by simpa using hj));rw[Q5]at this;rw[this,List.getElem?_eq_getElem (by simpa using hj)]
   ·rw[List.getElem?_take_eq_none Yp,List.getElem?_eq_none (by simp;omega)]
  refine(hS b 0 cap ss w (holds_of_block q3 ht) (Array.getElem?_eq_some_iff.1 q3).1 hl).mono ?_;rintro e w' ⟨rfl,n,os,rfl⟩;have hgr:=grownBy_sorted (w:=w) (g:=b) (n:=n) (os:=os) (ss.mergeSort fun x y=>decide (x<=y)).toArray;have hlen:(zk6 ss).length=ss.length:=by simp[zk6]
  have htk:=take_putCells cells (zk6 ss) Yp;refine⟨[],[b],[b],rfl,⟨_,[],[b],[],[b],[],rfl,rfl,rfl,⟨?_,rfl⟩,rfl,rfl,rfl⟩,by simp,fun x hx=>Or.inl hx,⟨hgr.os,hgr.tape,hgr.output,hgr.size,fun k hk=>hgr.block k hk.1 fun e=>hk.2 (by cases e;simp)⟩⟩;unfold za5;refine⟨_,cap,by rw[Qa,hlen],by rw[Qa,hlen];exact q1,q2,Or.inr ⟨b,_,ty,[],rfl,rfl,heap_sorted _ q3,by simp[putCells,q4],?_⟩⟩;refine zaq.of_vals (qf6 _) (by rw[zm9];exact zxh fun s hs=>k4 s ((List.mergeSort_perm ss leB).mem_iff.1 hs)) fun j u hu=>?_;rw[<-htk,List.getElem?_take]at hu;split at hu
  ·simpa using hu
  ·cases hu
structure CloneOf (P:Program)(f:FuncId)(sz bytes:Nat):Prop where
 call:zbb P f
 old:∀(ad:Addr) (n c:Nat) (news:List Value) (w:World),news.length=n*sz->n<=maxLen->n*bytes<=140737488355328->(∀j u,news[j]?=some u->w.cell? (ad.add j)=some u)->(∀u∈news,u.oneCell'=true) →
  Calls P f #[.slice (some ad) n c] w fun e w'=>∃t v',e=.returned v'/\w'.ownsRow w.heap.size t sz v' n news/\v'≠.slice none 0 0/\Below w.heap.size w w'
 none:∀(n c:Nat) (w:World),Calls P f #[.slice none n c] w fun e w'=>e=.returned (.slice none 0 0)/\w'=w
theorem zaw.valsA {w:World}{A:Nat->Prop}{b sz:Nat}{rows:List (List T)}{o:Nat}(h:zaw w A b o sz rows):∃vs,vs.length=rows.length*sz/\(∀j u,vs[j]?=some u->w.cell? ⟨b,o+j,none⟩=some u)/\zaf w A rows.flatten vs/\lens sz rows:=by
 obtain⟨h1,vs,h2,h3,h4⟩:=h.vals
 exact⟨vs,h2,h3,h4,h1⟩
theorem qgx {f:FuncId}{sz bytes:Nat}(h:CloneOf P f sz bytes)(rows:List (List T))(hb:rows.length*bytes<=140737488355328){w:World}{A:Nat->Prop}{v:Value}(h1:zas w A (.sl sz rows) v) :
  Calls P f #[v] w fun e w'=>∃v',e=.returned v'/\Below w.heap.size w w'/\((v'=.slice none 0 0/\rows=[])\/∃g cap cur ty vs,v'=.slice (some ⟨g,0,none⟩) rows.length cap/\w.heap.size<=g/\w'.heap[g]?=some (.cells cur ty (0,0))/\rows.length<=cap/\cap<=zhf/\cur.size=cap*sz/\cur.toList.take (rows.length*sz)=vs/\zaf w A rows.flatten vs/\lens sz rows):=by
 unfold zas at h1
 obtain⟨ao,cap,rfl,q1,q2,q3⟩:=h1
 cases ao with
 | none =>
  have hr:rows=[]:=q3.resolve_right fun⟨b,o,e,_⟩=>by cases e
  refine(h.none rows.length cap w).mono ?_;rintro e w' ⟨rfl,rfl⟩;exact⟨_,rfl,Below.refl _ _,Or.inl ⟨rfl,hr⟩⟩
 | some ad =>
  have hx:∃news:List Value,news.length=rows.length*sz/\(∀j u,news[j]?=some u->w.cell? (ad.add j)=some u)/\zaf w A rows.flatten news/\lens sz rows:=by
   rcases q3 with rfl|⟨b',o',e,_,q4⟩
   ·exact⟨[],by simp,fun j u hj=>by simp at hj,by unfold zaf;rfl,fun r hr=>by simp at hr⟩
   ·cases e;obtain⟨news,k1,k2,k3,k4⟩:=q4.valsA;exact⟨news,k1,fun j u hj=>by rw[zgf];exact k2 j u hj,k3,k4⟩
  obtain⟨news,k1,k2,k3,k4⟩:=hx;refine(h.old ad rows.length cap news w k1 (by unfold maxLen;have:=q2;unfold zhf at this;omega) hb k2 k3.one).mono ?_;rintro e w' ⟨t,v',rfl,⟨o1,o2⟩,hn,hbel⟩;refine⟨v',rfl,hbel,Or.inr ?_⟩;rcases o2 with⟨e,_⟩|⟨g,cap',cur,e,p1,p2,p3,p4,p5,p6⟩
  ·exact absurd e hn
  ·exact⟨g,cap',cur,t,news,e,p1,p2,p3,by unfold maxLen at p4;omega,p5,p6,k3,k4⟩
theorem qvh {cur:Array Value}{vs:List Value}{n:Nat}(h:cur.toList.take n=vs):∀j u,vs[j]?=some u->cur[0+j]?=some u:=fun j u hu=>by
 rw[<-h,List.getElem?_take]at hu
 split at hu
 ·simpa using hu
 ·cases hu
theorem qqq {f:FuncId}{sz bytes:Nat}(h:CloneOf P f sz bytes)(rows:List (List T))(hb:rows.length*bytes<=140737488355328)(hf:∀c∈rows.flatten,c.flat=true):FC P f [.one (.sl sz rows)] [.one (.sl sz rows)]:=by
 refine⟨h.call,fun w vs fp tp hv hn=>?_⟩
 obtain⟨hr,rfl,rfl⟩:=zd7 hv
 obtain⟨v,_,rfl,h1,rfl⟩:=hr
 refine(qgx h rows hb h1).mono ?_
 rintro e w' ⟨v',rfl,hbel,hh⟩
 have hB:Bk (fun k=>k<w.heap.size/\k∉([]:List Nat)) w w':=⟨hbel.os,hbel.tape,hbel.output,hbel.size,fun k hk=>hbel.block k hk.1⟩
 rcases hh with⟨rfl,hr⟩|⟨g,cap,cur,ty,vs,rfl,p1,p2,p3,p4,p5,p6,p7,p8⟩
 ·subst hr;refine⟨[_],[],[],rfl,⟨_,[],[],[],[],[],rfl,rfl,rfl,⟨?_,rfl⟩,rfl,rfl,rfl⟩,Kn,by simp,hB⟩;unfold za5;exact⟨Option.none,0,rfl,Qz _,by simp,Or.inl ⟨rfl,rfl,rfl,rfl⟩⟩
 ·refine⟨[_],[g],[g],rfl,⟨_,[],[g],[],[g],[],rfl,rfl,rfl,⟨?_,rfl⟩,rfl,rfl,rfl⟩,by simp,fun b hb=>by rw[Qy.1 hb];exact Or.inr p1,hB⟩;unfold za5;refine⟨_,cap,rfl,p3,p4,Or.inr ⟨g,cur,ty,[],rfl,rfl,p2,p5,?_⟩⟩;have hown:=zaf.own p7 hf;exact zaq.of_vals p8 (za9.keep hown fun b hb=>by simp at hb) fun j u hu=>qvh p6 j u hu
theorem zp9 (a b:Str):Op.bytesLess a b=decide (a<b):=bytesLess_eq a b
def Srt (xs:List Str):Prop:=xs.Pairwise (·<·)
theorem zqi (a:Str):¬a<a:=List.lt_irrefl a
theorem zsj {xs:List Str}(h:Srt xs):xs.Nodup:=List.Pairwise.imp (fun {a b}(h:a<b)(e:a=b)=>zqi b (e▸h)) h
theorem qug {xs ys:List Str}(hx:Srt xs)(hy:Srt ys)(h:∀s,s∈xs↔s∈ys):xs=ys:=by
 have hp:xs.Perm ys:=(List.perm_ext_iff_of_nodup (zsj hx) (zsj hy)).2 h
 exact hp.eq_of_pairwise (le:=fun a b=>a<b) (fun a b _ _ h1 h2=>absurd (List.lt_trans h1 h2) (zqi a)) hx hy
theorem qrx {a b:Str}(h:a<=b):a<b\/a=b:=by
 by_cases h1:a<b
 ·exact Or.inl h1
 ·exact Or.inr (List.le_antisymm h (List.not_lt.1 h1))
theorem qff (xs:List Str)(s:Str):s∈zk6 xs↔s∈xs:=(List.mergeSort_perm xs leB).mem_iff
theorem qdp {xs:List Str}(h:xs.Nodup):Srt (zk6 xs):=by
 have tr:∀a b c:List UInt8,leB a b=true->leB b c=true->leB a c=true:=fun a b c h1 h2=>by simp only[leB,Kb]at *;exact List.le_trans h1 h2
 have to:∀a b:List UInt8,(leB a b||leB b a)=true:=fun a b=>by simp only[leB,K5,Kb];exact List.le_total a b
 have hs:=List.pairwise_mergeSort tr to xs
 have hn:(zk6 xs).Nodup:=(List.mergeSort_perm xs leB).nodup_iff.2 h
 refine(List.Pairwise.and hs hn).imp ?_
 rintro a b ⟨h1,h2⟩
 simp only[leB,Kb]at h1
 exact(qrx h1).resolve_right h2
def zyu (l:List Str)(s:Str):List Str:=if(l.dropWhile fun x=>Op.bytesLess x s).head?=some s then l else (l.takeWhile fun x=>Op.bytesLess x s)++[s]++l.dropWhile fun x=>Op.bytesLess x s
theorem qmb (l:List Str)(s x:Str):x∈zyu l s↔x=s\/x∈l:=by
 have e:l=(l.takeWhile fun x=>Op.bytesLess x s)++l.dropWhile fun x=>Op.bytesLess x s:=(List.takeWhile_append_dropWhile).symm
 unfold zyu
 split
 ·rename_i h;have:s∈l:=by rw[e];exact Jz _ (List.mem_of_mem_head? h)
  exact⟨Or.inr,fun h=>h.elim (fun e=>e▸this) id⟩
 ·conv=>rhs;rw[e]
  simp only[Qm,Qy,or_assoc];constructor
  ·rintro(h|h|h)
   ·exact Or.inr (Or.inl h)
   ·exact Or.inl h
   ·exact Or.inr (Or.inr h)
  ·rintro(h|h|h)
   ·exact Or.inr (Or.inl h)
   ·exact Or.inl h
   ·exact Or.inr (Or.inr h)
theorem zni {l:List Str}{p:Str->Bool}{x:Str}(h:(l.dropWhile p).head?=some x):p x=false:=by
 induction l with
 | nil=>simp at h
 | cons a l ih =>
  rw[List.dropWhile_cons]at h;split at h
  ·exact ih h
  ·rename_i hp;simp only[List.head?_cons,Qc]at h;subst h;simpa using hp
theorem qmg {l:List Str}(h:Srt l)(s:Str):Srt (zyu l s):=by
 unfold zyu
 split
 ·exact h
 ·rename_i hne;have e:(l.takeWhile fun x=>Op.bytesLess x s)++(l.dropWhile fun x=>Op.bytesLess x s)=l:=List.takeWhile_append_dropWhile;have h':=h;rw[<-e]at h';obtain⟨h1,h2,h3⟩:=List.pairwise_append.1 h';have ht:∀a∈l.takeWhile fun x=>Op.bytesLess x s,a<s:=fun a ha=>by
   have:=List.all_takeWhile (l:=l) (p:=fun x=>Op.bytesLess x s);have:=Qx.1 this a ha;rw[zp9]at this;exact K8 this
  have hd:∀a∈l.dropWhile fun x=>Op.bytesLess x s,s<a:=fun a ha=>by
   cases hD:l.dropWhile fun x=>Op.bytesLess x s with
   | nil=>rw[hD]at ha;simp at ha
   | cons y ys =>
    have hy:=zni (l:=l) (p:=fun x=>Op.bytesLess x s) (x:=y) (by rw[hD];rfl);have hys:s<y:=by
     have h0:¬y<s:=by rw[zp9]at hy;exact J6 hy
     rcases qrx (List.not_lt.1 h0)with h|h
     ·exact h
     ·exact absurd (by rw[hD,h];rfl) hne
    rw[hD]at ha h2;rcases Qp.1 ha with rfl|ha
    ·exact hys
    ·exact List.lt_trans hys ((K9.1 h2).1 a ha)
  rw[Kf];refine List.pairwise_append.2 ⟨h1,?_,fun a ha b hb=>?_⟩
  ·exact K9.2 ⟨hd,h2⟩
  ·rcases Qp.1 hb with rfl|hb
   ·exact ht a ha
   ·exact h3 a ha b hb
end Go.Proofs.YtnemmlahbbbobaaGreat
namespace Go.Proofs.YtnemmlahbbbobaaGreat
set_option linter.unusedSimpArgs false
set_option linter.unusedVariables false
set_option linter.unusedSectionVars false
set_option maxRecDepth 4000
open Go.RowKit
theorem Tm.wt_args {a:Tm}{n:Nat}(h:a.wt<=n):a.args.length<=n/\∀x∈a.args,x.wt<=n:=by
 have e:=Tm.wt_eq a
 refine⟨Yp,fun x hx=>?_⟩
 have:=zbz Tm.wt a.args x hx
 omega
theorem Fm.wt_parts {f:Fm}{n:Nat}(h:f.wt<=n):f.atom.wt<=n/\f.parts.length<=n/\∀x∈f.parts,x.wt<=n:=by
 have e:=Fm.wt_eq f
 refine⟨Yp,Yp,fun x hx=>?_⟩
 have:=zbz Fm.wt f.parts x hx
 omega
set_option maxRecDepth 10000 in
theorem zt1 (xs:List Tm)(H:∀x∈xs,FC Tryz.prog 103 [tmD x] [tmD x])(hs:xs.length<=1048576) :
  FC Tryz.prog 129 [.one (tmS xs)] [.one (tmS xs)]:=by
 by_cases h0:xs=[]
 ·subst h0;refine zad Tryz.call129 Tryz.func129 rfl Yo (zao Yo) ?_;simp -implicitDefEqProofs only[go_sem,Tryz.results129]
 ·have hp:((xs.length:Int)==0)=false:=by
   have:0<xs.length:=List.length_pos_iff.2 h0;simp;omega
  refine zad Tryz.call129 Tryz.func129 rfl Yo (zao Yo) ?_;simp -implicitDefEqProofs only[go_sem,Tryz.results129,hp];refine ql6 (by simp -implicitDefEqProofs only[go_sem];omega) ?_;simp -implicitDefEqProofs only[go_sem];refine zag (fun k:Nat=>hd [(12,vT (tmS xs)),(13,vI xs.length),(3,.one (.ow 352 0)),(14,vI k)] [] [(352,⟨true,2,(xs.take k).map tmC++List.replicate (xs.length-k) [T.str [],T.sl 2 []],0,true⟩)]) (fun k=>k<=xs.length) (fun k=>xs.length-k) 0 (zac ?_) ?_ ?_
  ·simp -implicitDefEqProofs only[go_sem];simp
  ·simp
  ·intro k hk;by_cases hlt:k<xs.length
   ·have hlen:((xs.take k).map tmC++List.replicate (xs.length-k) [T.str [],T.sl 2 []]).length=xs.length:=by simp;omega
    have hlt2:k<k+(xs.length-k):=by omega
    simp -implicitDefEqProofs only[go_sem,Qa,zan,hlt,zab];refine callF (H xs[k] (Qj hlt)) (by simp -implicitDefEqProofs only[go_sem,zab,hlen,hlt,Qu,Qa,Qq,K6,Jq hk,hlt2]) ?_;simp -implicitDefEqProofs only[go_sem,zab,hlen,hlt,Qu,Qa,Qq,K6,Jq hk,hlt2];refine zdq (by simp -implicitDefEqProofs only[go_sem];simp) ?_;simp -implicitDefEqProofs only[go_sem];rw[zap Yp];refine⟨k+1,Yp,Yp,zac ?_⟩;simp -implicitDefEqProofs only[go_sem];have hf:=zgu ((xs.take k).map tmC) xs.length k [T.str [],T.sl 2 []] (tmC xs[k]) (by simp;omega) hlt (by simp[zab]);simp only[zab]at hf;rw[hf,Qk hlt,Q2,Ko];simp only[zab]
   ·simp -implicitDefEqProofs only[go_sem,Qa,hlt];simp[Qv (show xs.length<=k by omega),show xs.length-k=0 by omega]
theorem zv7 (a:Tm)(H:FC Tryz.prog 129 [.one (tmS a.args)] [.one (tmS a.args)]):FC Tryz.prog 103 [tmD a] [tmD a]:=by
 simp only[tmD,zab a]
 refine zad Tryz.call103 Tryz.func103 rfl Yo (zao Yo) ?_
 simp -implicitDefEqProofs only[go_sem,Tryz.results103]
 refine drawn Yo ?_
 simp -implicitDefEqProofs only[go_sem]
 refine zav (H) Yn ?_
 simp -implicitDefEqProofs only[go_sem]
 kernel_rfl
theorem qmq (a:Tm)(H:∀x∈a.args,FC Tryz.prog 97 [tmD x] [tmD x])(hs:a.args.length<=1048576):FC Tryz.prog 97 [tmD a] [tmD a]:=by
 simp only[tmD,zab a]
 refine zad Tryz.call97 Tryz.func97 rfl Yo (zao Yo) ?_
 simp -implicitDefEqProofs only[go_sem,Tryz.results97]
 refine zag (fun k:Nat=>hd [(1,.one (.bx 1 0)),(2,.one (.bx 2 0)),(3,.one (.bx 3 0)),(4,vI k)] [(1,[.t (.str a.name),.t (tmS a.args)]),(2,[.t (.str []),.nl 2]),(3,[.t (.str a.name),.ow 3000 0])] [(3000,⟨true,2,(a.args.take k).map tmC,0,true⟩)]) (fun k=>k<=a.args.length) (fun k=>a.args.length-k) 0 (zac ?_) ?_ ?_
 ·simp -implicitDefEqProofs only[go_sem]
 ·simp
 ·intro k hk;by_cases hlt:k<a.args.length
  ·simp -implicitDefEqProofs only[go_sem,hlt];refine drawn Yo ?_;have hmin:min k a.args.length<=4294967295:=by omega
   simp -implicitDefEqProofs only[go_sem,zan,hlt,zab];refine zav (H a.args[k] (Qj hlt)) (by simp -implicitDefEqProofs only[go_sem,zab]) ?_;simp -implicitDefEqProofs only[go_sem,zab];refine zb9 Yn ?_;simp -implicitDefEqProofs only[go_sem];refine zjp true (by simp -implicitDefEqProofs only[go_sem,ne_eq,Qa,Qq,hmin]) ?_;simp -implicitDefEqProofs only[go_sem,ne_eq,Qa,Qq,hmin];refine⟨Yo,k+1,hlt,Yp,zac ?_⟩;simp -implicitDefEqProofs only[go_sem];rw[zap Yp,Qk hlt,Q2,Ko];simp only[zab]
   trivial
  ·have ht:a.args.take k=a.args:=Qv Yp;simp -implicitDefEqProofs only[go_sem,hlt,ht]
theorem zjv:∀a:Tm,a.wt<=1048576->FC Tryz.prog 103 [tmD a] [tmD a] :=
 zb4 fun n xs ih hs=>by
  obtain⟨h1,h2⟩:=Tm.wt_args hs;exact zv7 (.mk n xs) (zt1 xs (fun x hx=>ih x hx (h2 x hx)) h1)
theorem zvl:∀a:Tm,a.wt<=1048576->FC Tryz.prog 97 [tmD a] [tmD a] :=
 zb4 fun n xs ih hs=>by
  obtain⟨h1,h2⟩:=Tm.wt_args hs;exact qmq (.mk n xs) (fun x hx=>ih x hx (h2 x hx)) h1
set_option maxHeartbeats 1000000 in
theorem qqy (a:Fm)(H:∀x∈a.parts,FC Tryz.prog 60 [fmD x] [fmD x])(h0:a.atom.wt<=1048576)(hs:a.parts.length<=1048576):FC Tryz.prog 60 [fmD a] [fmD a]:=by
 simp only[fmD,zaa a]
 refine zad Tryz.call60 Tryz.func60 rfl Yo (zao Yo) ?_
 simp -implicitDefEqProofs only[go_sem,Tryz.results60]
 refine drawn Yo ?_
 simp -implicitDefEqProofs only[go_sem]
 refine zav (zvl a.atom h0) (by simp -implicitDefEqProofs only[go_sem,zab]) ?_
 simp -implicitDefEqProofs only[go_sem,zab]
 refine⟨Yo,?_⟩
 refine zag (fun k:Nat=>hd [(1,.one (.bx 1 0)),(2,.one (.bx 2 0)),(3,.one (.bx 3 0)),(4,vI k)] [(1,[.t (.int .i64 a.op),.t (.str a.atom.name),.t (tmS a.atom.args),.t (.str a.var),.t (fmS a.parts)]),(2,[.t (.int .i64 0),.t (.str []),.nl 2,.t (.str []),.nl 5]),(3,[.t (.int .i64 a.op),.t (.str a.atom.name),.ow 289 0,.t (.str a.var),.ow 3000 0])]
  [(289,⟨true,2,a.atom.args.map tmC,0,true⟩),(3000,⟨true,5,(a.parts.take k).map fmC,0,true⟩)]) (fun k=>k<=a.parts.length) (fun k=>a.parts.length-k) 0 (zac ?_) ?_ ?_
 ·simp -implicitDefEqProofs only[go_sem]
 ·simp
 ·intro k hk;by_cases hlt:k<a.parts.length
  ·simp -implicitDefEqProofs only[go_sem,hlt];refine drawn Yo ?_;have hmin:min k a.parts.length<=4294967295:=by omega
   simp -implicitDefEqProofs only[go_sem,zan,hlt,zaa];refine zav (H a.parts[k] (Qj hlt)) (by simp -implicitDefEqProofs only[go_sem,zaa]) ?_;simp -implicitDefEqProofs only[go_sem,zaa];refine zb9 Yn ?_;simp -implicitDefEqProofs only[go_sem];refine zjp true (by simp -implicitDefEqProofs only[go_sem,ne_eq,Qa,Qq,hmin]) ?_;simp -implicitDefEqProofs only[go_sem,ne_eq,Qa,Qq,hmin];refine⟨Yo,k+1,hlt,Yp,zac ?_⟩;simp -implicitDefEqProofs only[go_sem];rw[zap Yp,Qk hlt,Q2,Ko];simp only[zaa]
   trivial
  ·have ht:a.parts.take k=a.parts:=Qv Yp;simp -implicitDefEqProofs only[go_sem,hlt,ht]
theorem zvf:∀a:Fm,a.wt<=1048576->FC Tryz.prog 60 [fmD a] [fmD a] :=
 zcn fun o t v ps ih hs=>by
  obtain⟨h1,h2,h3⟩:=Fm.wt_parts hs;exact qqy (.mk o t v ps) (fun x hx=>ih x hx (h3 x hx)) h1 h2
set_option maxHeartbeats 1000000 in
theorem zv9 (a:Fm)(g:FuncId)(φ:Fm->Fm)(H:∀x∈a.parts,FC Tryz.prog g [fmD x] [fmD (φ x)])(h0:a.atom.wt<=1048576)(hs:a.parts.length<=1048576):FC Tryz.prog 98 [fmD a,.one (.fn g [])] [fmD (.mk a.op a.atom a.var (a.parts.map φ))]:=by
 simp only[fmD,zaa a,ze2]
 refine zad Tryz.call98 Tryz.func98 rfl Yo (zao Yo) ?_
 simp -implicitDefEqProofs only[go_sem,Tryz.results98]
 refine drawn Yo ?_
 simp -implicitDefEqProofs only[go_sem]
 refine zav (zjv a.atom h0) (by simp -implicitDefEqProofs only[go_sem,zab]) ?_
 simp -implicitDefEqProofs only[go_sem,zab]
 refine⟨Yo,?_⟩
 refine zag (fun k:Nat=>hd [(1,.one (.t (.fn g []))),(4,.one (.bx 4 0)),(5,.one (.bx 5 0)),(17,vT (fmS a.parts)),(18,vI a.parts.length),(19,vI k)] [(4,[.t (.int .i64 0),.t (.str []),.nl 2,.t (.str []),.nl 5]),(5,[.t (.int .i64 a.op),.t (.str a.atom.name),.ow 385 0,.t (.str a.var),.ow 3000 0])]
  [(385,⟨true,2,a.atom.args.map tmC,0,true⟩),(3000,⟨true,5,(a.parts.take k).map fun x=>fmC (φ x),0,true⟩)]) (fun k=>k<=a.parts.length) (fun k=>a.parts.length-k) 0 (zac ?_) ?_ ?_
 ·simp -implicitDefEqProofs only[go_sem]
 ·simp
 ·intro k hk;by_cases hlt:k<a.parts.length
  ·have hmin:min k a.parts.length<=4294967295:=by omega
   simp -implicitDefEqProofs only[go_sem,zan,hlt,zaa a.parts[k]];refine drawn Yo ?_;simp -implicitDefEqProofs only[go_sem];refine zav (H a.parts[k] (Qj hlt)) (by simp -implicitDefEqProofs only[go_sem,zaa]) ?_;simp -implicitDefEqProofs only[go_sem,zaa];refine zb9 Yn ?_;simp -implicitDefEqProofs only[go_sem];refine zjp true (by simp -implicitDefEqProofs only[go_sem,ne_eq,Qa,Qq,hmin]) ?_;simp -implicitDefEqProofs only[go_sem,ne_eq,Qa,Qq,hmin];refine⟨Yo,k+1,hlt,Yp,zac ?_⟩;simp -implicitDefEqProofs only[go_sem];rw[zap Yp,Qk hlt,Q2,Ko];simp only[zaa]
   trivial
  ·have ht:a.parts.take k=a.parts:=Qv Yp;simp -implicitDefEqProofs only[go_sem,hlt,ht];rfl
set_option maxRecDepth 10000 in
theorem zf1:∀a:Fm,a.wt<=1048576->FC Tryz.prog 61 [fmD a] [fmD a] :=
 zcn fun o t v ps ih hs=>by
  obtain⟨h1,h2,h3⟩:=Fm.wt_parts hs;have H:=zv9 (.mk o t v ps) 61 (fun x=>x) (fun x hx=>ih x hx (h3 x hx)) h1 h2;simp only[Fm.op,Fm.atom,Fm.var,Fm.parts,List.map_id']at H;simp only[fmD,ze2]at H⊢;refine zad Tryz.call61 Tryz.func61 rfl Yo (zao Yo) ?_;simp -implicitDefEqProofs only[go_sem,Tryz.results61];refine callF (H) Yn ?_;simp -implicitDefEqProofs only[go_sem]
  trace_state
end Go.Proofs.YtnemmlahbbbobaaGreat
namespace Go.Proofs.YtnemmlahbbbobaaGreat
set_option linter.unusedSimpArgs false
set_option linter.unusedVariables false
set_option linter.unusedSectionVars false
set_option maxRecDepth 4000
open Go.RowKit
theorem qvy {P:Program}{t:TypeId}{n b:Nat}{z:List C}(h1:zbw P t=some n)(h2:zdv P t=some b)(h3:zdg P t=some z)(h4:z.length=n):∃i0 zv,P.info? t=some i0/\i0.zero=some zv/\zv.cells.size=n/\i0.size=n/\i0.bytes=b:=by
 unfold zbw at h1
 unfold zdv at h2
 unfold zdg at h3
 cases hi:P.info? t with
 | none=>rw[hi]at h1;cases h1
 | some i =>
  rw[hi]at h1 h2 h3;simp only[Q7,Qc]at h1 h2;simp only[Ke]at h3;cases hz:i.zero with
  | none=>rw[hz]at h3;cases h3
  | some zv =>
   rw[hz]at h3;simp only[Q7,Qc]at h3;refine⟨i,zv,rfl,hz,?_,h1,h2⟩;rw[<-h4,<-h3];simp
abbrev zd8 (xs:List Int):T:=.sl 1 (xs.map fun s=>[.int .i64 s])
end Go.Proofs.YtnemmlahbbbobaaGreat
namespace Go.Proofs
open Go.Shelf
set_option maxRecDepth 100000
def Tryz.lays190_ren : Go.Shelf.Ren := ⟨fun | 190 => 194 | 125 => 200 | 258 => 199 | 128 => 214 | 129 => 215 | 302 => 205 | 303 => 206 | 304 => 207 | 305 => 208 | 306 => 209 | 307 => 210 | 308 => 211 | 309 => 212 | 310 => 213 | 333 => 218 | 329 => 219 | 330 => 220 | 334 => 221 | 335 => 222 | 336 => 216 | 344 => 223 | n => n, fun | 31 => 115 | 9 => 9 | 3 => 3 | 46 => 178 | 0 => 0 | 51 => 192 | 53 => 194 | 4 => 4 | 183 => 185 | 182 => 184 | 131 => 179 | 5 => 5 | 218 => 195 | 222 => 199 | 228 => 201 | 229 => 202 | n => n, fun | n => n⟩
theorem Tryz.lays190 : Go.Proofs.Lays.n190 Tryz.prog Tryz.lays190_ren := {
 mixed := by kernel_rfl
 f125 := Tryz.func200.trans (congrArg some (by kernel_rfl))
 f128 := Tryz.func214.trans (congrArg some (by kernel_rfl))
 f129 := Tryz.func215.trans (congrArg some (by kernel_rfl))
 f190 := Tryz.func194.trans (congrArg some (by kernel_rfl))
 f258 := Tryz.func199.trans (congrArg some (by kernel_rfl))
 f302 := Tryz.func205.trans (congrArg some (by kernel_rfl))
 f303 := Tryz.func206.trans (congrArg some (by kernel_rfl))
 f304 := Tryz.func207.trans (congrArg some (by kernel_rfl))
 f305 := Tryz.func208.trans (congrArg some (by kernel_rfl))
 f306 := Tryz.func209.trans (congrArg some (by kernel_rfl))
 f307 := Tryz.func210.trans (congrArg some (by kernel_rfl))
 f308 := Tryz.func211.trans (congrArg some (by kernel_rfl))
 f309 := Tryz.func212.trans (congrArg some (by kernel_rfl))
 f310 := Tryz.func213.trans (congrArg some (by kernel_rfl))
 f329 := Tryz.func219.trans (congrArg some (by kernel_rfl))
 f330 := Tryz.func220.trans (congrArg some (by kernel_rfl))
 f333 := Tryz.func218.trans (congrArg some (by kernel_rfl))
 f334 := Tryz.func221.trans (congrArg some (by kernel_rfl))
 f335 := Tryz.func222.trans (congrArg some (by kernel_rfl))
 f336 := Tryz.func216.trans (congrArg some (by kernel_rfl))
 f344 := Tryz.func223.trans (congrArg some (by kernel_rfl))
 t0 := Tryz.underlying0
 a0 := Tryz.isAgg0
 z0 := Tryz.sizeOf0
 v0 := Tryz.zeroValue0
 t3 := Tryz.underlying3
 a3 := Tryz.isAgg3
 z3 := Tryz.sizeOf3
 v3 := Tryz.zeroValue3
 t4 := Tryz.underlying4
 a4 := Tryz.isAgg4
 z4 := Tryz.sizeOf4
 v4 := Tryz.zeroValue4
 t5 := Tryz.underlying5
 a5 := Tryz.isAgg5
 z5 := Tryz.sizeOf5
 v5 := Tryz.zeroValue5
 t9 := Tryz.underlying9
 a9 := Tryz.isAgg9
 z9 := Tryz.sizeOf9
 v9 := Tryz.zeroValue9
 t31 := Tryz.underlying115
 a31 := Tryz.isAgg115
 z31 := Tryz.sizeOf115
 v31 := Tryz.zeroValue115
 t46 := Tryz.underlying178
 a46 := Tryz.isAgg178
 z46 := Tryz.sizeOf178
 v46 := Tryz.zeroValue178
 t51 := Tryz.underlying192
 a51 := Tryz.isAgg192
 z51 := Tryz.sizeOf192
 v51 := Tryz.zeroValue192
 t53 := Tryz.underlying194
 a53 := Tryz.isAgg194
 z53 := Tryz.sizeOf194
 v53 := Tryz.zeroValue194
 t131 := Tryz.underlying179
 a131 := Tryz.isAgg179
 z131 := Tryz.sizeOf179
 v131 := Tryz.zeroValue179
 t182 := Tryz.underlying184
 a182 := Tryz.isAgg184
 z182 := Tryz.sizeOf184
 v182 := Tryz.zeroValue184
 t183 := Tryz.underlying185
 a183 := Tryz.isAgg185
 z183 := Tryz.sizeOf185
 v183 := Tryz.zeroValue185
 t218 := Tryz.underlying195
 a218 := Tryz.isAgg195
 z218 := Tryz.sizeOf195
 v218 := Tryz.zeroValue195
 t222 := Tryz.underlying199
 a222 := Tryz.isAgg199
 z222 := Tryz.sizeOf199
 v222 := Tryz.zeroValue199
 t228 := Tryz.underlying201
 a228 := Tryz.isAgg201
 z228 := Tryz.sizeOf201
 v228 := Tryz.zeroValue201
 t229 := Tryz.underlying202
 a229 := Tryz.isAgg202
 z229 := Tryz.sizeOf202
 v229 := Tryz.zeroValue202 }
end Go.Proofs
namespace Go.Proofs.YtnemmlahbbbobaaGreat
set_option linter.unusedSimpArgs false
set_option linter.unusedVariables false
set_option linter.unusedSectionVars false
set_option maxRecDepth 4000
open Go.RowKit
theorem ztq (ss:List Str)(hl:ss.length<=1099511627776):IC Tryz.prog 194 [] (.one (zdh ss)) [] (.one (zdh (zk6 ss))) [] :=
 qto Tryz.call194 (fun blk off cap ss w h1 h2 h3=>Any.slices_Sort_string Tryz.lays190 blk off cap ss w h1 h2 h3) (fun p cap w=>Any.slices_Sort_string_none Tryz.lays190 p cap w) ss Yp
set_option maxHeartbeats 1000000 in
theorem qb8:CloneOf Tryz.prog 198 1 16:=by
 have t22:=Tryz.underlying115
 have q22:∀(w:World) (a:Option Addr) (n c n' c':Nat),(binOp .eql 115 (.slice a n c) (.slice none n' c')).run Tryz.prog w=.ok (.bool a.isNone) w:=fun w a n c n' c'=>Lib.run_eql_slice_nil w _ _ a n c n' c' t22
 have u22:∀w,Sem.run Tryz.prog (underlying 115) w=.ok (TypeDesc.slice 9) w:=run_underlying t22
 refine⟨Tryz.call198,fun ad n c news w hl hn hbig hc h1=>?_,fun n c w=>?_⟩
 ·have A:Aside (∀j u,news[j]?=some u->w.cell? (ad.add j)=some u):=hc;clear hc;obtain⟨i0,z,hi,hz0,hzs,hz1,hz2⟩:=qvy (P:=Tryz.prog) (t:=9) (n:=1) (b:=16) (z:=[.t (.str [])]) Yo Yo Yo rfl
  go_enter Tryz.func198,Tryz.ntmps198
  go_wp2_with (at_builtin;refine wpList_append_own _ rfl _ _ 115 rfl w.heap.size 9 i0 z 1 16 t22 hi hz0 hz1 hz2 hzs (by decide) _ _ _ rfl (World.ownsRow_made w #[] 0 (Qz _) (Kd _) (by simp)) ad n c news rfl ?qc1 ?qc2 ?qc3 ?qc4 ?qc5 ?qc6 ?_)
  case qc1=>exact hl
  case qc2 =>
   intro j u hj;exact Lib.cell?_alloc_some _ (A.out j u hj)
  case qc3=>exact h1
  case qc4=>rw[Q5];exact hn
  case qc5=>rw[Q5];exact hbig
  case qc6=>simp
  intro v' w1 hown hgrow hnil
  go_wp2
  go_ret
  refine⟨_,v',rfl,by simpa using hown,hnil,?_⟩;exact((Below.refl _ w).alloc (Qz _) _).grown hgrow (by simp) (by intro k hk;simp[Value.ownBlock]at hk;omega)
 ·go_enter Tryz.func198,Tryz.ntmps198
  go_wp2
  go_ret
  exact⟨rfl,rfl⟩
theorem qbv (ss:List Str):∀c∈(ss.map fun s=>[T.str s]).flatten,c.flat=true:=fun c hc=>by
 rw[zm9]at hc
 obtain⟨s,_,rfl⟩:=Ka.1 hc
 rfl
theorem qbm (ss:List Str)(hs:ss.length<=1099511627776):FC Tryz.prog 198 [.one (zdh ss)] [.one (zdh ss)] :=
 qqq qb8 _ (by simp;omega) (qbv ss)
theorem zof (xs:List Str)(s:Str):FC Tryz.prog 92 [.one (zdh xs),sD s] [bD (xs.contains s)]:=by
 refine zd1 (fun hw=>?_) Tryz.call92
 have hl:xs.length<=9223372036854775807:=by simpa[zgs,wfT]using hw.1.1
 refine zad Tryz.call92 Tryz.func92 rfl Yo (zao Yo) ?_
 simp -implicitDefEqProofs only[go_sem,Tryz.results92]
 refine zag (fun k:Nat=>hd [(0,vT (zdh xs)),(1,vT (.str s)),(5,vI k)] [] []) (fun k=>k<=xs.length/\s∉xs.take k) (fun k=>xs.length-k) 0 (zac ?_) ?_ ?_
 ·simp -implicitDefEqProofs only[go_sem]
 ·simp
 ·intro k ⟨hk,hr⟩;by_cases hlt:k<xs.length
  ·simp -implicitDefEqProofs only[go_sem,zan,hlt];refine⟨fun h=>?_,fun h=>?_⟩
   ·have e:xs[k]=s:=by simpa using h
    rw[Jl.2 (e▸Qj hlt)]
   ·have e:xs[k]≠s:=by simpa using h
    exact⟨k+1,⟨hlt,zim hlt hr e⟩,Yp,zac (by simp -implicitDefEqProofs only[go_sem];rw[zap Yp])⟩
  ·simp -implicitDefEqProofs only[go_sem,hlt];rw[Qv Yp]at hr;simpa using hr
theorem zc0 {α:Type}{p:α->Bool}:∀{l:List α}{k:Nat},k<=l.length->(∀x∈l.take k,p x=true)->(∀h:k<l.length,p l[k]=false)->l.takeWhile p=l.take k/\l.dropWhile p=l.drop k
 | [],k,hk,_,_=>by simp
 | a::l,0,hk,_,h2=>by have:=h2 (by simp);simp only[Kg]at this;simp[this]
 | a::l,k+1,hk,h1,h2=>by
  have ha:=h1 a (by simp);obtain⟨e1,e2⟩:=zc0 (l:=l) (k:=k) (by simpa using hk) (fun x hx=>h1 x (by simp[hx])) (fun h=>h2 (by simpa using h));simp[ha,e1,e2]
theorem qgm {l:List Str}{s:Str}{k:Nat}(hk:k<=l.length)(h1:∀x∈l.take k,Op.bytesLess x s=true)(h2:∀h:k<l.length,Op.bytesLess l[k] s=false):zyu l s=if(l.drop k).head?=some s then l else l.take k++[s]++l.drop k:=by
 obtain⟨e1,e2⟩:=zc0 (p:=fun x=>Op.bytesLess x s) hk h1 h2
 unfold zyu
 rw[e1,e2]
theorem flR_of {rows:List (List T)}(h:∀r∈rows,r.all T.flat=true):flR rows=true:=by
 induction rows with
 | nil=>rfl
 | cons r rs ih=>unfold flR;rw[h r (by simp),ih fun r hr=>h r (by simp[hr])];rfl
theorem zdc (l:List Str):flR (l.map fun s=>[T.str s])=true:=flR_of fun r hr=>by obtain⟨s,_,rfl⟩:=Ka.1 hr;rfl
theorem zcq (k:Nat)(l:List Str):flR ((l.map fun s=>[T.str s]).take k)=true:=by rw[<-List.map_take];exact zdc _
theorem zcr (k:Nat)(l:List Str):flR ((l.map fun s=>[T.str s]).drop k)=true:=by rw[<-List.map_drop];exact zdc _
theorem zgh {α β:Type}(f:α->β)(l:List α):(l.map f).take l.length=l.map f:=Qv (by simp)
theorem qg3 (l:List Str)(s:Str)(hl:l.length<=2147483648):GC Tryz.prog 137 [(true,.one (zdh l)),(false,sD s)] [.one (zdh (zyu l s))]:=by
 refine qm9 Tryz.call137 Tryz.func137 rfl Yo (by simp only[Qi,Q4,Tryz.ntmps137];omega) (by simp[zcg,T.isPin]) ?_
 simp -implicitDefEqProofs only[go_sem,Tryz.results137]
 refine zag (fun k:Nat=>hd [(0,.one (.ow 0 0)),(1,vT (.str s)),(5,vI k)] [] [(0,⟨true,1,l.map fun s=>[.str s],0,true⟩)]) (fun k=>k<=l.length/\∀x∈l.take k,Op.bytesLess x s=true) (fun k=>l.length-k) 0 (zac ?_) ?_ ?_
 ·simp -implicitDefEqProofs only[go_sem]
 ·simp
 ·intro k ⟨hk,hr⟩;have hm1:min k l.length<=4294967296:=by omega
  have hm2:min k l.length<=4294967295:=by omega
  have hm3:min k l.length+1+(l.length-k)<=4294967296:=by omega
  by_cases hlt:k<l.length
  ·have hnx:∀{b},Op.bytesLess l[k] s=b->b=true->∀x∈l.take (k+1),Op.bytesLess x s=true:=fun {b} e hb x hx=>by
    rw[Qk hlt]at hx;rcases Qm.1 hx with hx|hx
    ·exact hr x hx
    ·rw[Qy.1 hx,e,hb]
   simp -implicitDefEqProofs only[go_sem,zan,hlt];refine⟨fun h=>⟨k+1,⟨hlt,hnx rfl h⟩,Yp,zac (by simp -implicitDefEqProofs only[go_sem];rw[zap Yp])⟩,fun h=>?_⟩;have hp:=qgm hk hr (fun _=>h);have hh:(l.drop k).head?=some l[k]:=by rw[List.head?_drop,List.getElem?_eq_getElem hlt]
   refine⟨fun h2=>?_,fun h2=>?_⟩
   ·rw[hp,if_pos (by rw[hh];simpa using h2)]
   ·rw[if_neg (by rw[hh];simpa using h2)]at hp;refine frzD 0 ?_;simp -implicitDefEqProofs only[go_sem];refine drawn Yo ?_;simp -implicitDefEqProofs only[go_sem,hk];refine zb9 (by simp -implicitDefEqProofs only[go_sem,hk]) ?_;simp -implicitDefEqProofs only[go_sem,hk];refine zjp true (by simp -implicitDefEqProofs only[go_sem,hk,ne_eq,Q5,hm1,hm2,hm3,zcq,zcr,zgh,Ks,Qq,Qu,Qa]) ?_;simp -implicitDefEqProofs only[go_sem,hk,ne_eq,Q5,hm1,hm2,hm3,zcq,zcr,zgh,Ks,Qq,Qu,Qa];refine zb9 (by simp -implicitDefEqProofs only[go_sem,hk]) ?_;simp -implicitDefEqProofs only[go_sem,hk];refine zjp true (by simp -implicitDefEqProofs only[go_sem,hk,ne_eq,Q5,hm1,hm2,hm3,zcq,zcr,zgh,Ks,Qq,Qu,Qa]) ?_;simp -implicitDefEqProofs only[go_sem,hk,ne_eq,Q5,hm1,hm2,hm3,zcq,zcr,zgh,Ks,Qq,Qu,Qa];refine zjp true (by simp -implicitDefEqProofs only[go_sem,hk,ne_eq,Q5,hm1,hm2,hm3,zcq,zcr,zgh,Ks,Qq,Qu,Qa]) ?_;simp -implicitDefEqProofs only[go_sem,hk,ne_eq,Q5,hm1,hm2,hm3,zcq,zcr,zgh,Ks,Qq,Qu,Qa];refine⟨Yo,?_⟩;rw[hp];simp
  ·simp -implicitDefEqProofs only[go_sem,hlt];have hp:=qgm hk hr (fun h=>absurd h hlt);rw[if_neg (by rw[Qt Yp];simp)]at hp;refine frzD 0 ?_;simp -implicitDefEqProofs only[go_sem];refine drawn Yo ?_;simp -implicitDefEqProofs only[go_sem,hk];refine zb9 (by simp -implicitDefEqProofs only[go_sem,hk]) ?_;simp -implicitDefEqProofs only[go_sem,hk];refine zjp true (by simp -implicitDefEqProofs only[go_sem,hk,ne_eq,Q5,hm1,hm2,hm3,zcq,zcr,zgh,Ks,Qq,Qu,Qa]) ?_;simp -implicitDefEqProofs only[go_sem,hk,ne_eq,Q5,hm1,hm2,hm3,zcq,zcr,zgh,Ks,Qq,Qu,Qa];refine zb9 (by simp -implicitDefEqProofs only[go_sem,hk]) ?_;simp -implicitDefEqProofs only[go_sem,hk];refine zjp true (by simp -implicitDefEqProofs only[go_sem,hk,ne_eq,Q5,hm1,hm2,hm3,zcq,zcr,zgh,Ks,Qq,Qu,Qa]) ?_;simp -implicitDefEqProofs only[go_sem,hk,ne_eq,Q5,hm1,hm2,hm3,zcq,zcr,zgh,Ks,Qq,Qu,Qa];refine zjp true (by simp -implicitDefEqProofs only[go_sem,hk,ne_eq,Q5,hm1,hm2,hm3,zcq,zcr,zgh,Ks,Qq,Qu,Qa]) ?_;simp -implicitDefEqProofs only[go_sem,hk,ne_eq,Q5,hm1,hm2,hm3,zcq,zcr,zgh,Ks,Qq,Qu,Qa];refine⟨Yo,?_⟩;rw[hp];simp
end Go.Proofs.YtnemmlahbbbobaaGreat
namespace Go.Proofs.YtnemmlahbbbobaaGreat
set_option linter.unusedSimpArgs false
set_option linter.unusedVariables false
set_option linter.unusedSectionVars false
set_option maxRecDepth 4000
open Go.RowKit
def voI:Tm->List Str:=Tm.fold fun n xs rs=>if(decide (xs.length=0)&&zng (n.getD 0 0))=true then [n]else rs.flatten
theorem qex (a:Tm):voI a=if(decide (a.args.length=0)&&zng (a.name.getD 0 0))=true then [a.name]else (a.args.map voI).flatten:=Tm.fold_eq _ a
def voS:Tm->List Str:=Tm.fold fun n _ rs=>if zbd n=true then [n]else rs.flatten
theorem zt7 (a:Tm):voS a=if zbd a.name=true then [a.name]else (a.args.map voS).flatten:=Tm.fold_eq _ a
def Tm.ne:Tm->Bool:=Tm.fold fun n xs rs=>(!decide (xs.length=0)||decide (0<n.length))&&rs.all id
theorem Tm.ne_eq' (a:Tm):a.ne=((!decide (a.args.length=0)||decide (0<a.name.length))&&a.args.all Tm.ne):=by
 unfold Tm.ne
 rw[Tm.fold_eq]
 simp only[List.all_map]
 rfl
def zwh (l:List Str)(s:Str):List Str:=if l.contains s=true then l else l++[s]
def zde (l:List Str)(ss:List Str):List Str:=ss.foldl zwh l
theorem qq5 (l:List Str)(s:Str):(zwh l s).length<=l.length+1:=by unfold zwh;split<;>simp
theorem ze5:∀(ss:List Str)(l:List Str),(zde l ss).length<=l.length+ss.length
 | [],l=>by simp[zde]
 | s::ss,l=>by have:=ze5 ss (zwh l s);have:=qq5 l s;simp only[zde,Jx,Qi]at *;omega
theorem zje (l a b:List Str):zde l (a++b)=zde (zde l a) b:=List.foldl_append ..
theorem qox (l:List Str)(s x:Str):x∈zwh l s↔x=s\/x∈l:=by
 unfold zwh
 split
 ·rename_i h;have h:s∈l:=by simpa using h
  exact⟨Or.inr,fun k=>k.elim (fun e=>e▸h) id⟩
 ·simp[or_comm]
theorem zt0:∀(ss l:List Str)(x:Str),x∈zde l ss↔x∈ss\/x∈l
 | [],l,x=>by simp[zde]
 | s::ss,l,x=>by
  show x∈zde (zwh l s) ss↔_
  rw[zt0 ss,qox];simp[or_assoc,or_left_comm,or_comm]
theorem qv4 {l:List Str}(h:l.Nodup)(s:Str):(zwh l s).Nodup:=by
 unfold zwh
 split
 ·exact h
 ·rename_i hn;have hn:s∉l:=by simpa using hn
  exact Q8.2 ⟨h,by simp,fun a ha b hb e=>hn (by rw[Qy.1 hb]at e;exact e▸ha)⟩
theorem zyj:∀(ss:List Str){l:List Str},l.Nodup->(zde l ss).Nodup
 | [],_,h=>h
 | s::ss,_,h=>zyj ss (qv4 h s)
def zbl (l:List Str)(ss:List Str):List Str:=ss.foldl zyu l
theorem zy6 (l:List Str)(s:Str):(zyu l s).length<=l.length+1:=by
 unfold zyu
 split
 ·omega
 ·have:l.length=((l.takeWhile fun x=>Op.bytesLess x s)++l.dropWhile fun x=>Op.bytesLess x s).length:=by rw[List.takeWhile_append_dropWhile]
  simp only[Qu,Qi,Q4]at *;omega
theorem zef:∀(ss:List Str)(l:List Str),(zbl l ss).length<=l.length+ss.length
 | [],l=>by simp[zbl]
 | s::ss,l=>by have:=zef ss (zyu l s);have:=zy6 l s;simp only[zbl,Jx,Qi]at *;omega
theorem zi6 (l a b:List Str):zbl l (a++b)=zbl (zbl l a) b:=List.foldl_append ..
theorem zmn:∀(ss l:List Str)(x:Str),x∈zbl l ss↔x∈ss\/x∈l
 | [],l,x=>by simp[zbl]
 | s::ss,l,x=>by
  show x∈zbl (zyu l s) ss↔_
  rw[zmn ss,qmb];simp[or_assoc,or_left_comm,or_comm]
theorem zsl:∀(ss:List Str){l:List Str},Srt l->Srt (zbl l ss)
 | [],_,h=>h
 | s::ss,_,h=>zsl ss (qmg h s)
theorem zyt (ss:List Str):zk6 (zde [] ss)=zbl [] ss :=
 qug (qdp (zyj ss Kn)) (zsl ss List.Pairwise.nil) fun s=>by rw[qff,zt0,zmn]
theorem qvt (a:Tm)(h:0<a.name.length):FC Tryz.prog 217 [tmD a] [bD (zng (a.name.getD 0 0))]:=by
 simp only[tmD,zab]
 refine zad Tryz.call217 Tryz.func217 rfl Yo (zao Yo) ?_
 simp -implicitDefEqProofs only[go_sem,Tryz.results217]
 have h0:(0:Int)<a.name.length:=by omega
 simp -implicitDefEqProofs only[go_sem,h0,h]
 refine callF (ztp (a.name.getD 0 0)) Yn ?_
 simp -implicitDefEqProofs only[go_sem]
theorem zdk {α:Type}(f:α->List Str)(xs:List α)(k:Nat)(h:k<xs.length):((xs.take (k+1)).map f).flatten=((xs.take k).map f).flatten++f xs[k]:=by
 rw[Qk h,Q2,J5];simp
theorem zwo {α:Type}(f:α->List Str):∀(xs:List α),∀x∈xs,(f x).length<=((xs.map f).flatten).length
 | [],x,h=>by simp at h
 | a::xs,x,h=>by
  rcases Qp.1 h with rfl|h
  ·simp
  ·have:=zwo f xs x h;simp at *;omega
theorem zco {α:Type}(f:α->List Str)(xs:List α)(k:Nat)(h:k<xs.length):(((xs.take k).map f).flatten).length+(f xs[k]).length<=((xs.map f).flatten).length:=by
 have e:xs=xs.take k++xs[k]::xs.drop (k+1):=by rw[<-Qh h,Jg]
 conv=>rhs;rw[e]
 simp only[Q2,Qf,J5,Kc,Qu];omega
set_option maxHeartbeats 1000000 in
theorem qa8 (a:Tm)(ha:a.ne=true)(H:∀x∈a.args,∀ys:List Str,ys.length+(voI x).length<=1073741824->GC Tryz.prog 204 [(true,.one (zdh ys)),(false,tmD x)] [.one (zdh (zde ys (voI x)))])
  (ys:List Str) (hs:ys.length+(voI a).length<=1073741824) (hl:a.args.length<=1099511627776):GC Tryz.prog 204 [(true,.one (zdh ys)),(false,tmD a)] [.one (zdh (zde ys (voI a)))]:=by
 have hv:=qex a
 rw[Tm.ne_eq']at ha
 simp only[tmD,zab]
 refine zyf Tryz.call204 Tryz.func204 rfl Yo (by simp only[Qi,Q4,Tryz.ntmps204];omega) (by simp[zcg,T.isPin]) ?_
 simp -implicitDefEqProofs only[go_sem,Tryz.results204]
 by_cases h0:a.args.length=0
 ·have hn:0<a.name.length:=by simp[h0]at ha;omega
  have e0:((a.args.length:Int)==0)=true:=by simp[h0]
  have hV:=qvt a hn;simp only[tmD,zab]at hV;simp -implicitDefEqProofs only[go_sem,e0];refine callF (hV) Yn ?_;simp -implicitDefEqProofs only[go_sem];refine⟨fun h1=>?_,fun h1=>?_⟩
  ·rw[h1,show decide (a.args.length=0)=true by simpa using h0,Qs,if_pos rfl]at hv;rw[hv]at hs⊢;refine callF (zc1 ys a.name) Yn ?_;simp -implicitDefEqProofs only[go_sem];have hy:ys.length+1<=4294967296:=by simp at hs;omega
   have hy2:ys.length<=4294967295:=by simp at hs;omega
   refine⟨fun h2=>?_,fun h2=>?_⟩
   ·have h2:ys.contains a.name=false:=by simpa using h2
    refine za7 Yn ?_;simp -implicitDefEqProofs only[go_sem];refine apD true (by simp -implicitDefEqProofs only[go_sem,hy,hy2,ne_eq,Qa]) ?_;simp -implicitDefEqProofs only[go_sem,hy,hy2,ne_eq,Qa];have e:zde ys [a.name]=ys++[a.name]:=by show zwh ys a.name=_;unfold zwh;rw[h2];simp
    exact Or.inl (by rw[e];simp)
   ·have h2:ys.contains a.name=true:=by simpa using h2
    have e:zde ys [a.name]=ys:=by show zwh ys a.name=_;unfold zwh;rw[h2];simp
    exact Or.inl (by rw[e])
  ·rw[h1,Ki,if_neg (by simp),Kr.1 h0,Qo,List.flatten_nil]at hv;have hv:voI a=(a.args.map voI).flatten:=by rw[hv,Kr.1 h0];rfl
   rw[hv]at hs⊢;refine zag (fun k:Nat=>hd [(0,.one (.ow 0 0)),(27,.one (.rn (tmS a.args))),(28,vI a.args.length),(29,vI k)] [] [(0,⟨true,1,(zde ys ((a.args.take k).map voI).flatten).map fun s=>[.str s],0,true⟩)]) (fun k=>k<=a.args.length) (fun k=>a.args.length-k) 0 (zac ?_) (Kd _) ?_
   ·simp -implicitDefEqProofs only[go_sem];rfl
   ·intro k hk;by_cases hlt:k<a.args.length
    ·have hf:=zco voI a.args k hlt;have hL:=ze5 ((a.args.take k).map voI).flatten ys;have hx:=zwo voI a.args _ (Qj hlt);have HC:=H a.args[k] (Qj hlt) (zde ys ((a.args.take k).map voI).flatten) Yp;rw[<-zje,<-zdk voI a.args k hlt]at HC;simp only[tmD,zab a.args[k]]at HC;simp -implicitDefEqProofs only[go_sem,zan,hlt,zab a.args[k]];refine ze1 [27,28,29] [33,34] [] (HC) Yn Yn Yn Yn ?_;simp -implicitDefEqProofs only[go_sem];refine⟨k+1,hlt,Yp,zep 0 1120 ?_⟩;simp -implicitDefEqProofs only[go_sem];rw[zap Yp]
    ·simp -implicitDefEqProofs only[go_sem,hlt];exact Or.inl (by rw[Qv Yp])
 ·have e0:((a.args.length:Int)==0)=false:=by simp[h0]
  rw[show decide (a.args.length=0)=false by simpa using h0,Q1,if_neg (by simp)]at hv;rw[hv]at hs⊢;simp -implicitDefEqProofs only[go_sem,e0];refine zag (fun k:Nat=>hd [(0,.one (.ow 0 0)),(27,.one (.rn (tmS a.args))),(28,vI a.args.length),(29,vI k)] [] [(0,⟨true,1,(zde ys ((a.args.take k).map voI).flatten).map fun s=>[.str s],0,true⟩)]) (fun k=>k<=a.args.length) (fun k=>a.args.length-k) 0 (zac ?_) (Kd _) ?_
  ·simp -implicitDefEqProofs only[go_sem];rfl
  ·intro k hk;by_cases hlt:k<a.args.length
   ·have hf:=zco voI a.args k hlt;have hL:=ze5 ((a.args.take k).map voI).flatten ys;have hx:=zwo voI a.args _ (Qj hlt);have HC:=H a.args[k] (Qj hlt) (zde ys ((a.args.take k).map voI).flatten) Yp;rw[<-zje,<-zdk voI a.args k hlt]at HC;simp only[tmD,zab a.args[k]]at HC;simp -implicitDefEqProofs only[go_sem,zan,hlt,zab a.args[k]];refine ze1 [27,28,29] [33,34] [] (HC) Yn Yn Yn Yn ?_;simp -implicitDefEqProofs only[go_sem];refine⟨k+1,hlt,Yp,zep 0 1120 ?_⟩;simp -implicitDefEqProofs only[go_sem];rw[zap Yp]
   ·simp -implicitDefEqProofs only[go_sem,hlt];exact Or.inl (by rw[Qv Yp])
theorem qhe:∀a:Tm,a.ne=true->a.wt<=1099511627776->∀ys:List Str,ys.length+(voI a).length<=1073741824->GC Tryz.prog 204 [(true,.one (zdh ys)),(false,tmD a)] [.one (zdh (zde ys (voI a)))] :=
 zb4 fun n xs ih ha hw ys hs=>qa8 (.mk n xs) ha (fun x hx ys hs=>ih x hx (by rw[Tm.ne_eq',Qe]at ha;exact Qx.1 ha.2 x hx) (by
  have:=Tm.wt_eq (.mk n xs);have:=zbz Tm.wt xs x hx
  simp only[Tm.args]at *;omega) ys hs) ys hs (by have:=Tm.wt_eq (.mk n xs);omega)
theorem zuy (a:Tm)(ha:a.ne=true)(hw:a.wt<=1099511627776)(hs:(voI a).length<=1073741824):FC Tryz.prog 197 [tmD a] [.one (zdh (zbl [] (voI a)))]:=by
 have HC:=qhe a ha hw [] (by simpa using hs)
 have HS:=ztq (zde [] (voI a)) (by have:=ze5 (voI a) [];simp at this;omega)
 rw[zyt]at HS
 simp only[tmD,zab]at HC⊢
 refine zfg Tryz.call197 Tryz.func197 rfl Yo (zao Yo) ?_
 simp -implicitDefEqProofs only[go_sem,Tryz.results197]
 refine za7 Yn ?_
 simp -implicitDefEqProofs only[go_sem]
 refine ze1 [] [4,5] [] (HC) Yn Yn Yn Yn ?_
 simp -implicitDefEqProofs only[go_sem]
 refine qrb (HS) (by simp -implicitDefEqProofs only[go_sem,zdc]) (by simp -implicitDefEqProofs only[go_sem,zdc]) rfl ?_
 simp -implicitDefEqProofs only[go_sem,zdc]
theorem qkw (a:Tm)(H:∀x∈a.args,∀ys:List Str,ys.length+(voS x).length<=1073741824->GC Tryz.prog 162 [(true,.one (zdh ys)),(false,tmD x)] [.one (zdh (zbl ys (voS x)))])
  (ys:List Str) (hs:ys.length+(voS a).length<=1073741824) (hl:a.args.length<=1099511627776):GC Tryz.prog 162 [(true,.one (zdh ys)),(false,tmD a)] [.one (zdh (zbl ys (voS a)))]:=by
 have hv:=zt7 a
 simp only[tmD,zab]
 refine zyf Tryz.call162 Tryz.func162 rfl Yo (by simp only[Qi,Q4,Tryz.ntmps162];omega) (by simp[zcg,T.isPin]) ?_
 simp -implicitDefEqProofs only[go_sem,Tryz.results162]
 refine callF (zh0 a.name) Yn ?_
 simp -implicitDefEqProofs only[go_sem]
 refine⟨fun h=>?_,fun h=>?_⟩
 ·rw[if_pos h]at hv;rw[hv]at hs⊢;refine ze1 [] [9,11] [] (qg3 ys a.name (by simp at hs;omega)) Yn Yn Yn Yn ?_;simp -implicitDefEqProofs only[go_sem];exact Or.inl rfl
 ·rw[h,if_neg (by simp)]at hv;rw[hv]at hs⊢;refine zag (fun k:Nat=>hd [(0,.one (.ow 0 0)),(3,.one (.bx 3 0)),(5,vI k)] [(3,[.t (.str a.name),.rn (tmS a.args)])] [(0,⟨true,1,(zbl ys ((a.args.take k).map voS).flatten).map fun s=>[.str s],0,true⟩)]) (fun k=>k<=a.args.length) (fun k=>a.args.length-k) 0 (zac ?_) (Kd _) ?_
  ·simp -implicitDefEqProofs only[go_sem];rfl
  ·intro k hk;by_cases hlt:k<a.args.length
   ·have hf:=zco voS a.args k hlt;have hL:=zef ((a.args.take k).map voS).flatten ys;have HC:=H a.args[k] (Qj hlt) (zbl ys ((a.args.take k).map voS).flatten) Yp;rw[<-zi6,<-zdk voS a.args k hlt]at HC;simp only[tmD,zab a.args[k]]at HC;simp -implicitDefEqProofs only[go_sem,zan,hlt,zab a.args[k]];refine ze1 [3,5] [20,25] [] (HC) Yn Yn Yn Yn ?_;simp -implicitDefEqProofs only[go_sem];refine⟨k+1,hlt,Yp,zep 0 832 ?_⟩;simp -implicitDefEqProofs only[go_sem];rw[zap Yp]
   ·simp -implicitDefEqProofs only[go_sem,hlt];exact Or.inl (by rw[Qv Yp])
end Go.Proofs.YtnemmlahbbbobaaGreat
