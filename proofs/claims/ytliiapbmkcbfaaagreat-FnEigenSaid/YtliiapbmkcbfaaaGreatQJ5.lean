/-
  The walk over plain data, and contracts of functions of the program and of its laws.
  Conditions: those that each theorem names.
-/
import Derived.Test.YtliiapbmkcbfaaaGreatQJ4
import Derived.Sort.OwnSorted
import Derived.Sort.KeysCollected
import Derived.Sort.Walk0
import Derived.Laws.AppendOwn
import Derived.Shelf.Sort.Plain
import Derived.Shelf.Slices.In.SortNone
import Derived.Shelf.Slices.CompactS
import Derived.Lib.SliceRun
namespace Go.Proofs.YtliiapbmkcbfaaaGreat
set_option linter.unusedSimpArgs false
set_option linter.unusedVariables false
set_option linter.unusedSectionVars false
set_option maxRecDepth 4000
open Go.RowKit
def zf8 (b:UInt8):Bool:=decide (97<=(b.toNat:Int))&&decide ((b.toNat:Int)<=122)
def qfz (b:UInt8):Bool:=decide (48<=(b.toNat:Int))&&decide ((b.toNat:Int)<=57)
def zjl (b:UInt8):Bool:=decide (65<=(b.toNat:Int))&&decide ((b.toNat:Int)<=90)
def zlt (b:UInt8):Bool:=zf8 b||qfz b
abbrev uD (b:UInt8):D:=.one (.int .u8 b.toNat)
theorem zh8 (b:UInt8):FC Tryz.prog 229 [uD b] [bD (zf8 b)]:=by
 unfold zf8
 refine zak Tryz.call229 Tryz.func229 rfl Ys (zaz Ys) ?_
 simp -implicitDefEqProofs only[go_sem,Tryz.results229]
 refine⟨fun h=>?_,fun h=>?_⟩<;>simp at h⊢<;>omega
theorem zpg (b:UInt8):FC Tryz.prog 230 [uD b] [bD (qfz b)]:=by
 unfold qfz
 refine zak Tryz.call230 Tryz.func230 rfl Ys (zaz Ys) ?_
 simp -implicitDefEqProofs only[go_sem,Tryz.results230]
 refine⟨fun h=>?_,fun h=>?_⟩<;>simp at h⊢<;>omega
theorem zqf (b:UInt8):FC Tryz.prog 228 [uD b] [bD (zjl b)]:=by
 unfold zjl
 refine zak Tryz.call228 Tryz.func228 rfl Ys (zaz Ys) ?_
 simp -implicitDefEqProofs only[go_sem,Tryz.results228]
 refine⟨fun h=>?_,fun h=>?_⟩<;>simp at h⊢<;>omega
def inB (n lo hi:Int):Bool:=decide (lo<=n)&&decide (n<=hi)
theorem zt9 (n lo hi:Int):FC Tryz.prog 231 [iD n,iD lo,iD hi] [bD (inB n lo hi)]:=by
 unfold inB
 refine zak Tryz.call231 Tryz.func231 rfl Ys (zaz Ys) ?_
 simp -implicitDefEqProofs only[go_sem,Tryz.results231]
 refine⟨fun h=>?_,fun h=>?_⟩<;>simp at h⊢<;>omega
theorem qld (n lo hi:Int):FC Tryz.prog 223 [iD n,iD lo,iD hi] [bD (inB n lo hi)]:=by
 unfold inB
 refine zak Tryz.call223 Tryz.func223 rfl Ys (zaz Ys) ?_
 simp -implicitDefEqProofs only[go_sem,Tryz.results223]
 refine⟨fun h=>?_,fun h=>?_⟩<;>simp at h⊢<;>omega
theorem qi7 (a b:Int):FC Tryz.prog 279 [iD a,iD b] [iD (max a b)]:=by
 refine zak Tryz.call279 Tryz.func279 rfl Ys (zaz Ys) ?_
 simp -implicitDefEqProofs only[go_sem,Tryz.results279]
 refine⟨fun h=>?_,fun h=>?_⟩<;>simp at h<;>exact int_eq Yt
theorem zks (b:UInt8):FC Tryz.prog 224 [uD b] [bD (zlt b)]:=by
 unfold zlt zf8 qfz
 refine zak Tryz.call224 Tryz.func224 rfl Ys (zaz Ys) ?_
 simp -implicitDefEqProofs only[go_sem,Tryz.results224]
 simp only[T.bool.injEq,Qr,Kz]
 refine⟨fun h=>⟨fun h2=>⟨fun h3=>?_,fun h3=>?_⟩,fun h2=>?_⟩,fun h=>⟨fun h2=>?_,fun h2=>?_⟩⟩<;>simp[h,h2]<;>omega
def zr6:Str->Bool
 | []=>true
 | c::cs=>zjl c&&cs.all zlt
def za9 (s:Str):Bool:=zr6 s&&inB s.length 1 4
theorem zeh (s:Str):FC Tryz.prog 186 [sD s] [bD (za9 s)]:=by
 refine zfp (fun hw=>?_) Tryz.call186
 have hl:s.length<=9223372036854775807:=by simpa[zlj,wfT]using hw.1
 refine zak Tryz.call186 Tryz.func186 rfl Ys (zaz Ys) ?_
 simp -implicitDefEqProofs only[go_sem,Tryz.results186]
 refine zaf (fun k:Nat=>hd [(0,vT (.str s)),(5,vI s.length),(6,vI k)] [] []) (fun k=>k<=s.length/\zr6 s=if k=0 then zr6 s else (s.drop k).all zlt) (fun k=>s.length-k) 0 (zad ?_) ?_ ?_
 ·simp -implicitDefEqProofs only[go_sem]
 ·simp
 ·intro k ⟨hk,hr⟩;by_cases hlt:k<s.length
  ·by_cases h0:k=0
   ·subst h0;have hl0:(0:Int)<s.length:=by omega
    have he:zr6 s=(zjl (s.getD 0 0)&&(s.drop 1).all zlt):=by cases s;exact absurd hlt (by simp);rfl
    simp -implicitDefEqProofs only[go_sem,hlt,hl0];refine callF (zqf (s.getD 0 0)) Yr ?_;simp -implicitDefEqProofs only[go_sem];refine⟨fun h=>⟨1,⟨hlt,?_⟩,Yt,zad (by simp -implicitDefEqProofs only[go_sem];rw[zbn Yt Yt])⟩,fun h=>?_⟩
    ·have:zjl (s.getD 0 0)=true:=by simpa using h
     rw[he,this];rfl
    ·have:zjl (s.getD 0 0)=false:=by simpa using h
     rw[za9,he,this];rfl
   ·have h1:((k:Int)==0)=false:=by simp;omega
    have h2:(0:Int)<k:=by omega
    have hg:s.getD k 0=s[k]:=by simp[List.getD,hlt]
    rw[if_neg h0,Qx hlt,Kt]at hr;simp -implicitDefEqProofs only[go_sem,hlt,h1,h2];refine callF (zh8 (s.getD k 0)) Yr ?_;simp -implicitDefEqProofs only[go_sem];simp only[hg];refine⟨fun h=>⟨hlt,?_⟩,fun h=>?_⟩
    ·refine callF (zpg s[k]) Yr ?_;simp -implicitDefEqProofs only[go_sem];refine⟨fun h'=>?_,fun h'=>⟨k+1,⟨hlt,?_⟩,Yt,zad (by simp -implicitDefEqProofs only[go_sem];rw[zam Yt])⟩⟩
     ·have:zlt s[k]=false:=by simp[zlt];simp at h h';exact⟨h,h'⟩
      simp[za9,hr,this]
     ·have:zlt s[k]=true:=by simp[zlt];right;simpa using h'
      rw[hr,this];simp
    ·refine⟨k+1,⟨hlt,?_⟩,Yt,zad (by simp -implicitDefEqProofs only[go_sem];rw[zam Yt])⟩;have:zlt s[k]=true:=by simp[zlt];left;simpa using h
     rw[hr,this];simp
  ·simp -implicitDefEqProofs only[go_sem,hlt];refine callF (zt9 s.length 1 4) Yr ?_;simp -implicitDefEqProofs only[go_sem];have:zr6 s=true:=by
    by_cases h0:k=0
    ·have:s=[]:=Q8.1 Yt;rw[this];rfl
    ·rw[hr,if_neg h0,Q0 Yt];rfl
   simp[za9,this]
end Go.Proofs.YtliiapbmkcbfaaaGreat
namespace Go.Proofs.YtliiapbmkcbfaaaGreat
set_option linter.unusedSimpArgs false
set_option linter.unusedVariables false
set_option linter.unusedSectionVars false
set_option maxRecDepth 4000
open Go.RowKit
abbrev zbm (xs:List Str):T:=.sl 1 (xs.map fun s=>[.str s])
theorem qbt {α:Type} [BEq α] [LawfulBEq α]{xs:List α}{s:α}{k:Nat}(hk:k<xs.length)(hn:s∉xs.take k)(e:xs[k]=s):xs.idxOf s=k:=by
 have h:xs=xs.take k++xs.drop k:=(K0 k xs).symm
 rw[Qx hk]at h
 rw[h,List.idxOf_append,if_neg hn,e]
 rw[show(s::xs.drop (k+1)).idxOf s=0 from List.idxOf_cons_self ..]
 simp;omega
theorem zh1 {α:Type}{xs:List α}{s:α}{k:Nat}(hk:k<xs.length)(hn:s∉xs.take k)(e:xs[k]≠s):s∉xs.take (k+1):=by
 rw[Qj hk]
 simp only[Qv,Kg,not_or]
 exact⟨hn,fun h=>e h.symm⟩
def idxS {α:Type} [BEq α](xs:List α)(s:α):Int:=if xs.contains s then xs.idxOf s else -1
theorem zx3 (xs:List Str)(s:Str):FC Tryz.prog 157 [.one (zbm xs),sD s] [iD (idxS xs s)]:=by
 refine zfp (fun hw=>?_) Tryz.call157
 have hl:xs.length<=9223372036854775807:=by simpa[zlj,wfT]using hw.1.1
 refine zak Tryz.call157 Tryz.func157 rfl Ys (zaz Ys) ?_
 simp -implicitDefEqProofs only[go_sem,Tryz.results157]
 refine zaf (fun k:Nat=>hd [(0,vT (zbm xs)),(1,vT (.str s)),(7,vI xs.length),(8,vI k)] [] []) (fun k=>k<=xs.length/\s∉xs.take k) (fun k=>xs.length-k) 0 (zad ?_) ?_ ?_
 ·simp -implicitDefEqProofs only[go_sem]
 ·simp
 ·intro k ⟨hk,hr⟩;by_cases hlt:k<xs.length
  ·simp -implicitDefEqProofs only[go_sem,zac,hlt];refine⟨fun h=>?_,fun h=>?_⟩
   ·have e:xs[k]=s:=(Ko.1 h).symm;have hm:s∈xs:=e▸Qd hlt;rw[idxS,if_pos (by simpa using hm),qbt hlt hr e]
   ·have e:xs[k]≠s:=fun e=>by simp[e]at h
    exact⟨k+1,⟨hlt,zh1 hlt hr e⟩,Yt,zad (by simp -implicitDefEqProofs only[go_sem];rw[zam Yt])⟩
  ·simp -implicitDefEqProofs only[go_sem,hlt];rw[Qm Yt]at hr;rw[idxS,if_neg (by simpa using hr)]
theorem zbu (xs:List Str)(s:Str):FC Tryz.prog 84 [.one (zbm xs),sD s] [bD (xs.contains s)]:=by
 refine zak Tryz.call84 Tryz.func84 rfl Ys (zaz Ys) ?_
 simp -implicitDefEqProofs only[go_sem,Tryz.results84]
 refine callF (zx3 xs s) Yr ?_
 simp -implicitDefEqProofs only[go_sem]
 unfold idxS
 cases h:xs.contains s<;>simp
def zrm:List Str:=[[116,114,117,101],[102,97,108,115,101],[116,114,117,116,104],[98,111,116,104],[101,105,116,104,101,114],[105,102],[97,108,108],[115,111,109,101]]
theorem zw3:FC Tryz.prog 272 [] [.one (zbm zrm)]:=by
 refine zak Tryz.call272 Tryz.func272 rfl Ys (zaz Ys) ?_
 simp -implicitDefEqProofs only[go_sem,Tryz.results272]
 refine zap Yr ?_
 simp -implicitDefEqProofs only[go_sem]
 rfl
def znh (b:UInt8):Bool:=zlt b||b==95
def zle:Str->Bool
 | []=>true
 | c::cs=>zf8 c&&cs.all znh
def zce (s:Str):Bool:=zle s&&inB s.length 1 6&&!zrm.contains s
theorem qnm {b:UInt8}{n:Nat}(hn:n<256):((b.toNat:Int)==(n:Int))=(b==UInt8.ofNat n):=by
 rw[Kq]
 simp only[Ko]
 constructor
 ·intro h;apply UInt8.toNat_inj.1;simp[UInt8.toNat_ofNat];omega
 ·intro h;subst h;simp[UInt8.toNat_ofNat];omega
theorem zme (s:Str):FC Tryz.prog 247 [sD s] [bD (zce s)]:=by
 refine zfp (fun hw=>?_) Tryz.call247
 have hl:s.length<=9223372036854775807:=by simpa[zlj,wfT]using hw.1
 refine zak Tryz.call247 Tryz.func247 rfl Ys (zaz Ys) ?_
 simp -implicitDefEqProofs only[go_sem,Tryz.results247]
 refine zaf (fun k:Nat=>hd [(0,vT (.str s)),(5,vI s.length),(6,vI k)] [] []) (fun k=>k<=s.length/\zle s=if k=0 then zle s else (s.drop k).all znh) (fun k=>s.length-k) 0 (zad ?_) ?_ ?_
 ·simp -implicitDefEqProofs only[go_sem]
 ·simp
 ·intro k ⟨hk,hr⟩;by_cases hlt:k<s.length
  ·by_cases h0:k=0
   ·subst h0;have hl0:(0:Int)<s.length:=by omega
    have he:zle s=(zf8 (s.getD 0 0)&&(s.drop 1).all znh):=by cases s;exact absurd hlt (by simp);rfl
    simp -implicitDefEqProofs only[go_sem,hlt,hl0];refine callF (zh8 (s.getD 0 0)) Yr ?_;simp -implicitDefEqProofs only[go_sem];refine⟨fun h=>⟨hl0,?_⟩,fun h=>?_⟩
    ·have hi:zf8 (s.getD 0 0)=true:=by simpa using h
     refine callF (zh8 (s.getD 0 0)) (by simp -implicitDefEqProofs only[go_sem,hi]) ?_;simp -implicitDefEqProofs only[go_sem,hi];refine⟨1,⟨hlt,?_⟩,Yt,zad (by simp -implicitDefEqProofs only[go_sem];rw[zbn Yt Yt])⟩;rw[he,hi];rfl
    ·have:zf8 (s.getD 0 0)=false:=by simpa using h
     rw[zce,he,this];rfl
   ·have h1:((k:Int)==0)=false:=by simp;omega
    have h2:(0:Int)<k:=by omega
    have hg:s.getD k 0=s[k]:=by simp[List.getD,hlt]
    rw[if_neg h0,Qx hlt,Kt]at hr;simp -implicitDefEqProofs only[go_sem,hlt,h1,h2];refine callF (zh8 (s.getD k 0)) Yr ?_;simp -implicitDefEqProofs only[go_sem];simp only[hg];refine⟨fun h=>⟨hlt,?_⟩,fun h=>?_⟩
    ·refine callF (zpg s[k]) Yr ?_;simp -implicitDefEqProofs only[go_sem];simp only[hg];refine⟨fun h'=>⟨hlt,fun h''=>?_,fun h''=>⟨k+1,⟨hlt,?_⟩,Yt,zad (by simp -implicitDefEqProofs only[go_sem];rw[zam Yt])⟩⟩,fun h'=>⟨k+1,⟨hlt,?_⟩,Yt,zad (by simp -implicitDefEqProofs only[go_sem];rw[zam Yt])⟩⟩
     ·have:znh s[k]=false:=by
       have:=qnm (b:=s[k]) (n:=95) Yt;simp[znh,zlt]at h h'⊢;refine⟨⟨h,h'⟩,fun e=>?_⟩;rw[e]at h'';simp at h''
      rw[zce,hr,this];rfl
     ·have:znh s[k]=true:=by
       have:=qnm (b:=s[k]) (n:=95) Yt;simp[znh]at h''⊢;right;simpa[h'']using this
      rw[hr,this];rfl
     ·have:znh s[k]=true:=by simp[znh,zlt];simp at h';simp[h']
      rw[hr,this];rfl
    ·refine⟨k+1,⟨hlt,?_⟩,Yt,zad (by simp -implicitDefEqProofs only[go_sem];rw[zam Yt])⟩;have:znh s[k]=true:=by simp[znh,zlt];simp at h;simp[h]
     rw[hr,this];rfl
  ·simp -implicitDefEqProofs only[go_sem,hlt];refine callF (zt9 s.length 1 6) Yr ?_;simp -implicitDefEqProofs only[go_sem];have ha:zle s=true:=by
    by_cases h0:k=0
    ·have:s=[]:=Q8.1 Yt;rw[this];rfl
    ·rw[hr,if_neg h0,Q0 Yt];rfl
   refine⟨fun h=>?_,fun h=>?_⟩
   ·refine callF (zw3) Yr ?_;simp -implicitDefEqProofs only[go_sem];refine callF (zbu zrm s) Yr ?_;simp -implicitDefEqProofs only[go_sem];rw[zce,ha,h];rfl
   ·rw[zce,ha,h];rfl
end Go.Proofs.YtliiapbmkcbfaaaGreat
namespace Go.Proofs.YtliiapbmkcbfaaaGreat
set_option linter.unusedSimpArgs false
set_option linter.unusedVariables false
set_option linter.unusedSectionVars false
set_option maxRecDepth 4000
open Go.RowKit Go.Sort Go.Proofs
variable {P:Program}
theorem zvu {w:World}:∀{ss:List Str}{vs:List Value}{fps:List Nat},za7 w (ss.map T.str) vs fps->vs=ss.map encStr/\fps=[]/\∀s∈ss,s.length<=zf0
 | [],vs,fps,h=>⟨h.1,h.2,by simp⟩
 | s::ss,vs,fps,h=>by
  obtain⟨v,vs',f1,f2,rfl,rfl,h1,h2⟩:=h;unfold za3 at h1;obtain⟨rfl,k1,rfl⟩:=h1;obtain⟨rfl,rfl,k2⟩:=zvu h2;exact⟨rfl,rfl,fun x hx=>(Qu.1 hx).elim (fun e=>e▸k1) (k2 x)⟩
theorem zv9 {w:World}:∀{ss:List Str},(∀s∈ss,s.length<=zf0)->za7 w (ss.map T.str) (ss.map encStr) []
 | [],_=>⟨rfl,rfl⟩
 | s::ss,h=>⟨_,_,[],[],rfl,rfl,by unfold za3;exact⟨rfl,h s (by simp),rfl⟩,zv9 fun x hx=>h x (by simp[hx])⟩
theorem zkj (ss:List Str):(ss.map fun s=>[T.str s]).flatten=ss.map T.str:=by induction ss<;>simp_all
theorem qcx (ss:List Str):lens 1 (ss.map fun s=>[T.str s]):=fun r hr=>by obtain⟨s,_,rfl⟩:=Kn.1 hr;rfl
abbrev zjp (ss:List Str):List Str:=ss.mergeSort leB
theorem qoc {f:FuncId}(hc:zbw P f)(hS:∀(blk off cap:Nat)(ss:List (List UInt8))(w:World),Holds encStr w blk off ss.toArray->blk<w.heap.size->ss.length<4611686018427387904 →
   Calls P f #[.slice (some ⟨blk,off,none⟩) ss.length cap] w fun e w'=>e=.returned (.tuple #[])/\∃n os,w'=grow (putRow encStr (Sort.ahead w n) blk off (ss.mergeSort fun x y=>decide (x<=y)).toArray) os)
  (hN:∀(p:Option Addr) (cap:Nat) (w:World),Calls P f #[.slice p 0 cap] w fun e w'=>e=.returned (.tuple #[])/\w'=w) (ss:List Str) (hl:ss.length<4611686018427387904):IC P f [] (.one (zbm ss)) [] (.one (zbm (zjp ss))) []:=by
 refine⟨hc,fun w us1 v us2 fp tp h1 hg h2 hn=>?_⟩
 rw[show us1=[] from h1,show us2=[] from h2]
 obtain⟨hg,_⟩:=hg
 unfold za3 at hg
 obtain⟨ao,cap,rfl,q1,q2,q3⟩:=hg
 rw[Qa]at q1⊢
 rcases q3 with⟨rfl,rfl,q3,rfl⟩|⟨b,cells,ty,fps,rfl,rfl,q3,q4,q5⟩
 ·have hs:ss=[]:=List.map_eq_nil_iff.1 q3;subst hs;refine(hN none 0 w).mono ?_;rintro e w' ⟨rfl,rfl⟩;refine⟨[],[],[],rfl,⟨_,[],[],[],[],[],rfl,rfl,rfl,⟨?_,rfl⟩,rfl,rfl,rfl⟩,Kf,by simp,Bk.refl _ _⟩;unfold za3;exact⟨none,0,by simp[zjp],by simp[zjp],by simp,Or.inl ⟨rfl,rfl,by simp[zjp],rfl⟩⟩
 ·obtain⟨_,vs,k1,k2,k3⟩:=q5.vals;rw[zkj]at k3;obtain⟨rfl,rfl,k4⟩:=zvu k3;have hsz:ss.length<=cells.size:=by omega
  have ht:cells.toList.take ss.length=ss.map encStr:=by
   apply List.ext_getElem?;intro j;by_cases hj:j<ss.length
   ·rw[List.getElem?_take_of_lt hj,Array.getElem?_toList];have:=k2 j _ (List.getElem?_eq_getElem (by simpa using hj));rw[Q2]at this;rw[this,List.getElem?_eq_getElem (by simpa using hj)]
   ·rw[List.getElem?_take_eq_none Yt,List.getElem?_eq_none (by simp;omega)]
  refine(hS b 0 cap ss w (holds_of_block q3 ht) (Array.getElem?_eq_some_iff.1 q3).1 hl).mono ?_;rintro e w' ⟨rfl,n,os,rfl⟩;have hgr:=grownBy_sorted (w:=w) (g:=b) (n:=n) (os:=os) (ss.mergeSort fun x y=>decide (x<=y)).toArray;have hlen:(zjp ss).length=ss.length:=by simp[zjp]
  have htk:=take_putCells cells (zjp ss) Yt;refine⟨[],[b],[b],rfl,⟨_,[],[b],[],[b],[],rfl,rfl,rfl,⟨?_,rfl⟩,rfl,rfl,rfl⟩,by simp,fun x hx=>Or.inl hx,⟨hgr.os,hgr.tape,hgr.output,hgr.size,fun k hk=>hgr.block k hk.1 fun e=>hk.2 (by cases e;simp)⟩⟩;unfold za3;refine⟨_,cap,by rw[Qa,hlen],by rw[Qa,hlen];exact q1,q2,Or.inr ⟨b,_,ty,[],rfl,rfl,heap_sorted _ q3,by simp[putCells,q4],?_⟩⟩;refine zao.of_vals (qcx _) (by rw[zkj];exact zv9 fun s hs=>k4 s ((List.mergeSort_perm ss leB).mem_iff.1 hs)) fun j u hu=>?_;rw[<-htk,List.getElem?_take]at hu;split at hu
  ·simpa using hu
  ·cases hu
structure CloneOf (P:Program)(f:FuncId)(sz bytes:Nat):Prop where
 call:zbw P f
 old:∀(ad:Addr) (n c:Nat) (news:List Value) (w:World),news.length=n*sz->n<=maxLen->n*bytes<=140737488355328->(∀j u,news[j]?=some u->w.cell? (ad.add j)=some u)->(∀u∈news,u.oneCell'=true) →
  Calls P f #[.slice (some ad) n c] w fun e w'=>∃t v',e=.returned v'/\w'.ownsRow w.heap.size t sz v' n news/\v'≠.slice none 0 0/\Below w.heap.size w w'
 none:∀(n c:Nat) (w:World),Calls P f #[.slice none n c] w fun e w'=>e=.returned (.slice none 0 0)/\w'=w
theorem zat.valsA {w:World}{A:Nat->Prop}{b sz:Nat}{rows:List (List T)}{o:Nat}(h:zat w A b o sz rows):∃vs,vs.length=rows.length*sz/\(∀j u,vs[j]?=some u->w.cell? ⟨b,o+j,none⟩=some u)/\zah w A rows.flatten vs/\lens sz rows:=by
 obtain⟨h1,vs,h2,h3,h4⟩:=h.vals
 exact⟨vs,h2,h3,h4,h1⟩
theorem qaw {f:FuncId}{sz bytes:Nat}(h:CloneOf P f sz bytes)(rows:List (List T))(hb:rows.length*bytes<=140737488355328){w:World}{A:Nat->Prop}{v:Value}(h1:zas w A (.sl sz rows) v) :
  Calls P f #[v] w fun e w'=>∃v',e=.returned v'/\Below w.heap.size w w'/\((v'=.slice none 0 0/\rows=[])\/∃g cap cur ty vs,v'=.slice (some ⟨g,0,none⟩) rows.length cap/\w.heap.size<=g/\w'.heap[g]?=some (.cells cur ty (0,0))/\rows.length<=cap/\cap<=zf0/\cur.size=cap*sz/\cur.toList.take (rows.length*sz)=vs/\zah w A rows.flatten vs/\lens sz rows):=by
 unfold zas at h1
 obtain⟨ao,cap,rfl,q1,q2,q3⟩:=h1
 cases ao with
 | none =>
  have hr:rows=[]:=q3.resolve_right fun⟨b,o,e,_⟩=>by cases e
  refine(h.none rows.length cap w).mono ?_;rintro e w' ⟨rfl,rfl⟩;exact⟨_,rfl,Below.refl _ _,Or.inl ⟨rfl,hr⟩⟩
 | some ad =>
  have hx:∃news:List Value,news.length=rows.length*sz/\(∀j u,news[j]?=some u->w.cell? (ad.add j)=some u)/\zah w A rows.flatten news/\lens sz rows:=by
   rcases q3 with rfl|⟨b',o',e,_,q4⟩
   ·exact⟨[],by simp,fun j u hj=>by simp at hj,by unfold zah;rfl,fun r hr=>by simp at hr⟩
   ·cases e;obtain⟨news,k1,k2,k3,k4⟩:=q4.valsA;exact⟨news,k1,fun j u hj=>by rw[ze5];exact k2 j u hj,k3,k4⟩
  obtain⟨news,k1,k2,k3,k4⟩:=hx;refine(h.old ad rows.length cap news w k1 (by unfold maxLen;have:=q2;unfold zf0 at this;omega) hb k2 k3.one).mono ?_;rintro e w' ⟨t,v',rfl,⟨o1,o2⟩,hn,hbel⟩;refine⟨v',rfl,hbel,Or.inr ?_⟩;rcases o2 with⟨e,_⟩|⟨g,cap',cur,e,p1,p2,p3,p4,p5,p6⟩
  ·exact absurd e hn
  ·exact⟨g,cap',cur,t,news,e,p1,p2,p3,by unfold maxLen at p4;omega,p5,p6,k3,k4⟩
theorem qnc {cur:Array Value}{vs:List Value}{n:Nat}(h:cur.toList.take n=vs):∀j u,vs[j]?=some u->cur[0+j]?=some u:=fun j u hu=>by
 rw[<-h,List.getElem?_take]at hu
 split at hu
 ·simpa using hu
 ·cases hu
theorem qfv {f:FuncId}{sz bytes:Nat}(h:CloneOf P f sz bytes)(rows:List (List T))(hb:rows.length*bytes<=140737488355328)(hf:∀c∈rows.flatten,c.flat=true):FC P f [.one (.sl sz rows)] [.one (.sl sz rows)]:=by
 refine⟨h.call,fun w vs fp tp hv hn=>?_⟩
 obtain⟨hr,rfl,rfl⟩:=zel hv
 obtain⟨v,_,rfl,h1,rfl⟩:=hr
 refine(qaw h rows hb h1).mono ?_
 rintro e w' ⟨v',rfl,hbel,hh⟩
 have hB:Bk (fun k=>k<w.heap.size/\k∉([]:List Nat)) w w':=⟨hbel.os,hbel.tape,hbel.output,hbel.size,fun k hk=>hbel.block k hk.1⟩
 rcases hh with⟨rfl,hr⟩|⟨g,cap,cur,ty,vs,rfl,p1,p2,p3,p4,p5,p6,p7,p8⟩
 ·subst hr;refine⟨[_],[],[],rfl,⟨_,[],[],[],[],[],rfl,rfl,rfl,⟨?_,rfl⟩,rfl,rfl,rfl⟩,Kf,by simp,hB⟩;unfold za3;exact⟨Option.none,0,rfl,Qw _,by simp,Or.inl ⟨rfl,rfl,rfl,rfl⟩⟩
 ·refine⟨[_],[g],[g],rfl,⟨_,[],[g],[],[g],[],rfl,rfl,rfl,⟨?_,rfl⟩,rfl,rfl,rfl⟩,by simp,fun b hb=>by rw[Kg.1 hb];exact Or.inr p1,hB⟩;unfold za3;refine⟨_,cap,rfl,p3,p4,Or.inr ⟨g,cur,ty,[],rfl,rfl,p2,p5,?_⟩⟩;have hown:=zah.own p7 hf;exact zao.of_vals p8 (za7.keep hown fun b hb=>by simp at hb) fun j u hu=>qnc p6 j u hu
theorem znk (a b:Str):Op.bytesLess a b=decide (a<b):=bytesLess_eq a b
def Srt (xs:List Str):Prop:=xs.Pairwise (·<·)
theorem zn2 (a:Str):¬a<a:=List.lt_irrefl a
theorem zqg {xs:List Str}(h:Srt xs):xs.Nodup:=List.Pairwise.imp (fun {a b}(h:a<b)(e:a=b)=>zn2 b (e▸h)) h
theorem qn5 {xs ys:List Str}(hx:Srt xs)(hy:Srt ys)(h:∀s,s∈xs↔s∈ys):xs=ys:=by
 have hp:xs.Perm ys:=(List.perm_ext_iff_of_nodup (zqg hx) (zqg hy)).2 h
 exact hp.eq_of_pairwise (le:=fun a b=>a<b) (fun a b _ _ h1 h2=>absurd (List.lt_trans h1 h2) (zn2 a)) hx hy
theorem qkr {a b:Str}(h:a<=b):a<b\/a=b:=by
 by_cases h1:a<b
 ·exact Or.inl h1
 ·exact Or.inr (List.le_antisymm h (List.not_lt.1 h1))
theorem qcb (xs:List Str)(s:Str):s∈zjp xs↔s∈xs:=(List.mergeSort_perm xs leB).mem_iff
theorem qby {xs:List Str}(h:xs.Nodup):Srt (zjp xs):=by
 have tr:∀a b c:List UInt8,leB a b=true->leB b c=true->leB a c=true:=fun a b c h1 h2=>by simp only[leB,Qr]at *;exact List.le_trans h1 h2
 have to:∀a b:List UInt8,(leB a b||leB b a)=true:=fun a b=>by simp only[leB,Jl,Qr];exact List.le_total a b
 have hs:=List.pairwise_mergeSort tr to xs
 have hn:(zjp xs).Nodup:=(List.mergeSort_perm xs leB).nodup_iff.2 h
 refine(List.Pairwise.and hs hn).imp ?_
 rintro a b ⟨h1,h2⟩
 simp only[leB,Qr]at h1
 exact(qkr h1).resolve_right h2
def zvo (l:List Str)(s:Str):List Str:=if(l.dropWhile fun x=>Op.bytesLess x s).head?=some s then l else (l.takeWhile fun x=>Op.bytesLess x s)++[s]++l.dropWhile fun x=>Op.bytesLess x s
theorem qix (l:List Str)(s x:Str):x∈zvo l s↔x=s\/x∈l:=by
 have e:l=(l.takeWhile fun x=>Op.bytesLess x s)++l.dropWhile fun x=>Op.bytesLess x s:=(List.takeWhile_append_dropWhile).symm
 unfold zvo
 split
 ·rename_i h;have:s∈l:=by rw[e];exact Jx _ (List.mem_of_mem_head? h)
  exact⟨Or.inr,fun h=>h.elim (fun e=>e▸this) id⟩
 ·conv=>rhs;rw[e]
  simp only[Qv,Kg,or_assoc];constructor
  ·rintro(h|h|h)
   ·exact Or.inr (Or.inl h)
   ·exact Or.inl h
   ·exact Or.inr (Or.inr h)
  ·rintro(h|h|h)
   ·exact Or.inr (Or.inl h)
   ·exact Or.inl h
   ·exact Or.inr (Or.inr h)
theorem zls {l:List Str}{p:Str->Bool}{x:Str}(h:(l.dropWhile p).head?=some x):p x=false:=by
 induction l with
 | nil=>simp at h
 | cons a l ih =>
  rw[List.dropWhile_cons]at h;split at h
  ·exact ih h
  ·rename_i hp;simp only[List.head?_cons,Qf]at h;subst h;simpa using hp
theorem qfr {l:List Str}(h:Srt l)(s:Str):Srt (zvo l s):=by
 unfold zvo
 split
 ·exact h
 ·rename_i hne;have e:(l.takeWhile fun x=>Op.bytesLess x s)++(l.dropWhile fun x=>Op.bytesLess x s)=l:=List.takeWhile_append_dropWhile;have h':=h;rw[<-e]at h';obtain⟨h1,h2,h3⟩:=List.pairwise_append.1 h';have ht:∀a∈l.takeWhile fun x=>Op.bytesLess x s,a<s:=fun a ha=>by
   have:=List.all_takeWhile (l:=l) (p:=fun x=>Op.bytesLess x s);have:=Qs.1 this a ha;rw[znk]at this;exact Jm this
  have hd:∀a∈l.dropWhile fun x=>Op.bytesLess x s,s<a:=fun a ha=>by
   cases hD:l.dropWhile fun x=>Op.bytesLess x s with
   | nil=>rw[hD]at ha;simp at ha
   | cons y ys =>
    have hy:=zls (l:=l) (p:=fun x=>Op.bytesLess x s) (x:=y) (by rw[hD];rfl);have hys:s<y:=by
     have h0:¬y<s:=by rw[znk]at hy;exact of_decide_eq_false hy
     rcases qkr (List.not_lt.1 h0)with h|h
     ·exact h
     ·exact absurd (by rw[hD,h];rfl) hne
    rw[hD]at ha h2;rcases Qu.1 ha with rfl|ha
    ·exact hys
    ·exact List.lt_trans hys ((J5.1 h2).1 a ha)
  rw[Km];refine List.pairwise_append.2 ⟨h1,?_,fun a ha b hb=>?_⟩
  ·exact J5.2 ⟨hd,h2⟩
  ·rcases Qu.1 hb with rfl|hb
   ·exact ht a ha
   ·exact h3 a ha b hb
end Go.Proofs.YtliiapbmkcbfaaaGreat
namespace Go.Proofs.YtliiapbmkcbfaaaGreat
set_option linter.unusedSimpArgs false
set_option linter.unusedVariables false
set_option linter.unusedSectionVars false
set_option maxRecDepth 4000
open Go.RowKit
theorem Tm.wt_args {a:Tm}{n:Nat}(h:a.wt<=n):a.args.length<=n/\∀x∈a.args,x.wt<=n:=by
 have e:=Tm.wt_eq a
 refine⟨Yt,fun x hx=>?_⟩
 have:=zay Tm.wt a.args x hx
 omega
theorem Fm.wt_parts {f:Fm}{n:Nat}(h:f.wt<=n):f.atom.wt<=n/\f.parts.length<=n/\∀x∈f.parts,x.wt<=n:=by
 have e:=Fm.wt_eq f
 refine⟨Yt,Yt,fun x hx=>?_⟩
 have:=zay Fm.wt f.parts x hx
 omega
set_option maxRecDepth 10000 in
theorem zi3 (xs:List Tm)(H:∀x∈xs,FC Tryz.prog 117 [tmD x] [tmD x])(hs:xs.length<=1048576) :
  FC Tryz.prog 129 [.one (tmS xs)] [.one (tmS xs)]:=by
 by_cases h0:xs=[]
 ·subst h0;refine zak Tryz.call129 Tryz.func129 rfl Ys (zaz Ys) ?_;simp -implicitDefEqProofs only[go_sem,Tryz.results129]
 ·have hp:((xs.length:Int)==0)=false:=by
   have:0<xs.length:=List.length_pos_iff.2 h0;simp;omega
  refine zak Tryz.call129 Tryz.func129 rfl Ys (zaz Ys) ?_;simp -implicitDefEqProofs only[go_sem,Tryz.results129,hp];refine makeD (by simp -implicitDefEqProofs only[go_sem];omega) ?_;simp -implicitDefEqProofs only[go_sem];refine zaf (fun k:Nat=>hd [(12,vT (tmS xs)),(13,vI xs.length),(3,.one (.ow 352 0)),(14,vI k)] [] [(352,⟨true,2,(xs.take k).map tmC++List.replicate (xs.length-k) [T.str [],T.sl 2 []],0,true⟩)]) (fun k=>k<=xs.length) (fun k=>xs.length-k) 0 (zad ?_) ?_ ?_
  ·simp -implicitDefEqProofs only[go_sem];simp
  ·simp
  ·intro k hk;by_cases hlt:k<xs.length
   ·have hlen:((xs.take k).map tmC++List.replicate (xs.length-k) [T.str [],T.sl 2 []]).length=xs.length:=by simp;omega
    have hlt2:k<k+(xs.length-k):=by omega
    simp -implicitDefEqProofs only[go_sem,Qa,zac,hlt,zaa];refine callF (H xs[k] (Qd hlt)) (by simp -implicitDefEqProofs only[go_sem,zaa,hlen,hlt,Qh,Qa,Qo,K9,Jz hk,hlt2]) ?_;simp -implicitDefEqProofs only[go_sem,zaa,hlen,hlt,Qh,Qa,Qo,K9,Jz hk,hlt2];refine zqe (by simp -implicitDefEqProofs only[go_sem];simp) ?_;simp -implicitDefEqProofs only[go_sem];rw[zam Yt];refine⟨k+1,Yt,Yt,zad ?_⟩;simp -implicitDefEqProofs only[go_sem];have hf:=zo6 ((xs.take k).map tmC) xs.length k [T.str [],T.sl 2 []] (tmC xs[k]) (by simp;omega) hlt (by simp[zaa]);simp only[zaa]at hf;rw[hf,Qj hlt,Qt,Q7];simp only[zaa]
   ·simp -implicitDefEqProofs only[go_sem,Qa,hlt];simp[Qm (show xs.length<=k by omega),show xs.length-k=0 by omega]
theorem zse (a:Tm)(H:FC Tryz.prog 129 [.one (tmS a.args)] [.one (tmS a.args)]):FC Tryz.prog 117 [tmD a] [tmD a]:=by
 simp only[tmD,zaa a]
 refine zak Tryz.call117 Tryz.func117 rfl Ys (zaz Ys) ?_
 simp -implicitDefEqProofs only[go_sem,Tryz.results117]
 refine drawn Ys ?_
 simp -implicitDefEqProofs only[go_sem]
 refine zaj (H) Yr ?_
 simp -implicitDefEqProofs only[go_sem]
 kernel_rfl
theorem qhs (a:Tm)(H:∀x∈a.args,FC Tryz.prog 102 [tmD x] [tmD x])(hs:a.args.length<=1048576):FC Tryz.prog 102 [tmD a] [tmD a]:=by
 simp only[tmD,zaa a]
 refine zak Tryz.call102 Tryz.func102 rfl Ys (zaz Ys) ?_
 simp -implicitDefEqProofs only[go_sem,Tryz.results102]
 refine zaf (fun k:Nat=>hd [(1,.one (.bx 1 0)),(2,.one (.bx 2 0)),(3,.one (.bx 3 0)),(4,vI k)] [(1,[.t (.str a.name),.t (tmS a.args)]),(2,[.t (.str []),.nl 2]),(3,[.t (.str a.name),.ow 3000 0])] [(3000,⟨true,2,(a.args.take k).map tmC,0,true⟩)]) (fun k=>k<=a.args.length) (fun k=>a.args.length-k) 0 (zad ?_) ?_ ?_
 ·simp -implicitDefEqProofs only[go_sem]
 ·simp
 ·intro k hk;by_cases hlt:k<a.args.length
  ·simp -implicitDefEqProofs only[go_sem,hlt];refine drawn Ys ?_;have hmin:min k a.args.length<=4294967295:=by omega
   simp -implicitDefEqProofs only[go_sem,zac,hlt,zaa];refine zaj (H a.args[k] (Qd hlt)) (by simp -implicitDefEqProofs only[go_sem,zaa]) ?_;simp -implicitDefEqProofs only[go_sem,zaa];refine za8 Yr ?_;simp -implicitDefEqProofs only[go_sem];refine zek true (by simp -implicitDefEqProofs only[go_sem,ne_eq,Qa,Qo,hmin]) ?_;simp -implicitDefEqProofs only[go_sem,ne_eq,Qa,Qo,hmin];refine⟨Ys,k+1,hlt,Yt,zad ?_⟩;simp -implicitDefEqProofs only[go_sem];rw[zam Yt,Qj hlt,Qt,Q7];simp only[zaa]
   trivial
  ·have ht:a.args.take k=a.args:=Qm Yt;simp -implicitDefEqProofs only[go_sem,hlt,ht]
theorem zet:∀a:Tm,a.wt<=1048576->FC Tryz.prog 117 [tmD a] [tmD a] :=
 zb0 fun n xs ih hs=>by
  obtain⟨h1,h2⟩:=Tm.wt_args hs;exact zse (.mk n xs) (zi3 xs (fun x hx=>ih x hx (h2 x hx)) h1)
theorem zta (xs:List Tm)(hs:zie xs<=1048576):FC Tryz.prog 129 [.one (tmS xs)] [.one (tmS xs)]:=by
 have e:zie xs=xs.length+(xs.map Tm.wt).sum:=rfl
 exact zi3 xs (fun x hx=>zet x (by have:=zay Tm.wt xs x hx;omega)) Yt
theorem zg2:∀a:Tm,a.wt<=1048576->FC Tryz.prog 102 [tmD a] [tmD a] :=
 zb0 fun n xs ih hs=>by
  obtain⟨h1,h2⟩:=Tm.wt_args hs;exact qhs (.mk n xs) (fun x hx=>ih x hx (h2 x hx)) h1
set_option maxHeartbeats 1000000 in
theorem qib (a:Fm)(H:∀x∈a.parts,FC Tryz.prog 99 [fmD x] [fmD x])(h0:a.atom.wt<=1048576)(hs:a.parts.length<=1048576):FC Tryz.prog 99 [fmD a] [fmD a]:=by
 simp only[fmD,zab a]
 refine zak Tryz.call99 Tryz.func99 rfl Ys (zaz Ys) ?_
 simp -implicitDefEqProofs only[go_sem,Tryz.results99]
 refine drawn Ys ?_
 simp -implicitDefEqProofs only[go_sem]
 refine zaj (zg2 a.atom h0) (by simp -implicitDefEqProofs only[go_sem,zaa]) ?_
 simp -implicitDefEqProofs only[go_sem,zaa]
 refine⟨Ys,?_⟩
 refine zaf (fun k:Nat=>hd [(1,.one (.bx 1 0)),(2,.one (.bx 2 0)),(3,.one (.bx 3 0)),(4,vI k)] [(1,[.t (.int .i64 a.op),.t (.str a.atom.name),.t (tmS a.atom.args),.t (.str a.var),.t (fmS a.parts)]),(2,[.t (.int .i64 0),.t (.str []),.nl 2,.t (.str []),.nl 5]),(3,[.t (.int .i64 a.op),.t (.str a.atom.name),.ow 289 0,.t (.str a.var),.ow 3000 0])]
  [(289,⟨true,2,a.atom.args.map tmC,0,true⟩),(3000,⟨true,5,(a.parts.take k).map fmC,0,true⟩)]) (fun k=>k<=a.parts.length) (fun k=>a.parts.length-k) 0 (zad ?_) ?_ ?_
 ·simp -implicitDefEqProofs only[go_sem]
 ·simp
 ·intro k hk;by_cases hlt:k<a.parts.length
  ·simp -implicitDefEqProofs only[go_sem,hlt];refine drawn Ys ?_;have hmin:min k a.parts.length<=4294967295:=by omega
   simp -implicitDefEqProofs only[go_sem,zac,hlt,zab];refine zaj (H a.parts[k] (Qd hlt)) (by simp -implicitDefEqProofs only[go_sem,zab]) ?_;simp -implicitDefEqProofs only[go_sem,zab];refine za8 Yr ?_;simp -implicitDefEqProofs only[go_sem];refine zek true (by simp -implicitDefEqProofs only[go_sem,ne_eq,Qa,Qo,hmin]) ?_;simp -implicitDefEqProofs only[go_sem,ne_eq,Qa,Qo,hmin];refine⟨Ys,k+1,hlt,Yt,zad ?_⟩;simp -implicitDefEqProofs only[go_sem];rw[zam Yt,Qj hlt,Qt,Q7];simp only[zab]
   trivial
  ·have ht:a.parts.take k=a.parts:=Qm Yt;simp -implicitDefEqProofs only[go_sem,hlt,ht]
theorem zkc:∀a:Fm,a.wt<=1048576->FC Tryz.prog 99 [fmD a] [fmD a] :=
 zb7 fun o t v ps ih hs=>by
  obtain⟨h1,h2,h3⟩:=Fm.wt_parts hs;exact qib (.mk o t v ps) (fun x hx=>ih x hx (h3 x hx)) h1 h2
set_option maxHeartbeats 1000000 in
theorem ztb (a:Fm)(g:FuncId)(φ:Fm->Fm)(H:∀x∈a.parts,FC Tryz.prog g [fmD x] [fmD (φ x)])(h0:a.atom.wt<=1048576)(hs:a.parts.length<=1048576):FC Tryz.prog 181 [fmD a,.one (.fn g [])] [fmD (.mk a.op a.atom a.var (a.parts.map φ))]:=by
 simp only[fmD,zab a,zd8]
 refine zak Tryz.call181 Tryz.func181 rfl Ys (zaz Ys) ?_
 simp -implicitDefEqProofs only[go_sem,Tryz.results181]
 refine drawn Ys ?_
 simp -implicitDefEqProofs only[go_sem]
 refine zaj (zet a.atom h0) (by simp -implicitDefEqProofs only[go_sem,zaa]) ?_
 simp -implicitDefEqProofs only[go_sem,zaa]
 refine⟨Ys,?_⟩
 refine zaf (fun k:Nat=>hd [(1,.one (.t (.fn g []))),(4,.one (.bx 4 0)),(5,.one (.bx 5 0)),(17,vT (fmS a.parts)),(18,vI a.parts.length),(19,vI k)] [(4,[.t (.int .i64 0),.t (.str []),.nl 2,.t (.str []),.nl 5]),(5,[.t (.int .i64 a.op),.t (.str a.atom.name),.ow 385 0,.t (.str a.var),.ow 3000 0])]
  [(385,⟨true,2,a.atom.args.map tmC,0,true⟩),(3000,⟨true,5,(a.parts.take k).map fun x=>fmC (φ x),0,true⟩)]) (fun k=>k<=a.parts.length) (fun k=>a.parts.length-k) 0 (zad ?_) ?_ ?_
 ·simp -implicitDefEqProofs only[go_sem]
 ·simp
 ·intro k hk;by_cases hlt:k<a.parts.length
  ·have hmin:min k a.parts.length<=4294967295:=by omega
   simp -implicitDefEqProofs only[go_sem,zac,hlt,zab a.parts[k]];refine drawn Ys ?_;simp -implicitDefEqProofs only[go_sem];refine zaj (H a.parts[k] (Qd hlt)) (by simp -implicitDefEqProofs only[go_sem,zab]) ?_;simp -implicitDefEqProofs only[go_sem,zab];refine za8 Yr ?_;simp -implicitDefEqProofs only[go_sem];refine zek true (by simp -implicitDefEqProofs only[go_sem,ne_eq,Qa,Qo,hmin]) ?_;simp -implicitDefEqProofs only[go_sem,ne_eq,Qa,Qo,hmin];refine⟨Ys,k+1,hlt,Yt,zad ?_⟩;simp -implicitDefEqProofs only[go_sem];rw[zam Yt,Qj hlt,Qt,Q7];simp only[zab]
   trivial
  ·have ht:a.parts.take k=a.parts:=Qm Yt;simp -implicitDefEqProofs only[go_sem,hlt,ht];rfl
set_option maxRecDepth 10000 in
theorem zhz:∀a:Fm,a.wt<=1048576->FC Tryz.prog 113 [fmD a] [fmD a] :=
 zb7 fun o t v ps ih hs=>by
  obtain⟨h1,h2,h3⟩:=Fm.wt_parts hs;have H:=ztb (.mk o t v ps) 113 (fun x=>x) (fun x hx=>ih x hx (h3 x hx)) h1 h2;simp only[Fm.op,Fm.atom,Fm.var,Fm.parts,List.map_id']at H;simp only[fmD,zd8]at H⊢;refine zak Tryz.call113 Tryz.func113 rfl Ys (zaz Ys) ?_;simp -implicitDefEqProofs only[go_sem,Tryz.results113];refine callF (H) Yr ?_;simp -implicitDefEqProofs only[go_sem]
  trace_state
end Go.Proofs.YtliiapbmkcbfaaaGreat
namespace Go.Proofs.YtliiapbmkcbfaaaGreat
set_option linter.unusedSimpArgs false
set_option linter.unusedVariables false
set_option linter.unusedSectionVars false
set_option maxRecDepth 4000
open Go.RowKit
theorem qne {P:Program}{t:TypeId}{n b:Nat}{z:List C}(h1:zbt P t=some n)(h2:zdn P t=some b)(h3:zcz P t=some z)(h4:z.length=n):∃i0 zv,P.info? t=some i0/\i0.zero=some zv/\zv.cells.size=n/\i0.size=n/\i0.bytes=b:=by
 unfold zbt at h1
 unfold zdn at h2
 unfold zcz at h3
 cases hi:P.info? t with
 | none=>rw[hi]at h1;cases h1
 | some i =>
  rw[hi]at h1 h2 h3;simp only[Kc,Qf]at h1 h2;simp only[Kb]at h3;cases hz:i.zero with
  | none=>rw[hz]at h3;cases h3
  | some zv =>
   rw[hz]at h3;simp only[Kc,Qf]at h3;refine⟨i,zv,rfl,hz,?_,h1,h2⟩;rw[<-h4,<-h3];simp
abbrev intS (xs:List Int):T:=.sl 1 (xs.map fun s=>[.int .i64 s])
end Go.Proofs.YtliiapbmkcbfaaaGreat
namespace Go.Proofs.YtliiapbmkcbfaaaGreat
set_option linter.unusedSimpArgs false
set_option linter.unusedVariables false
set_option linter.unusedSectionVars false
set_option maxRecDepth 4000
open Go.RowKit
theorem qmn {b:UInt8}(h1:decide ((b.toNat:Int)<65)=false)(h2:decide ((90:Int)<b.toNat)=false):zjl b=true:=by
 simp[zjl]at *;omega
theorem qgt {b:UInt8}(h1:decide ((b.toNat:Int)<65)=true):zjl b=false:=by
 simp[zjl]at *;omega
theorem qja {b:UInt8}(h2:decide ((90:Int)<b.toNat)=true):zjl b=false:=by
 simp[zjl]at *;omega
theorem qfy {b:UInt8}(h1:decide ((b.toNat:Int)<97)=false)(h2:decide ((122:Int)<b.toNat)=false):zf8 b=true:=by
 simp[zf8]at *;omega
theorem qaz {b:UInt8}(h1:decide ((b.toNat:Int)<97)=true):zf8 b=false:=by
 simp[zf8]at *;omega
theorem zy9 {b:UInt8}(h2:decide ((122:Int)<b.toNat)=true):zf8 b=false:=by
 simp[zf8]at *;omega
theorem zuv {s:Str}(h:0<s.length):zr6 s=(zjl (s.getD 0 0)&&(s.drop 1).all zlt):=by
 cases s
 ·exact absurd h (by simp)
 ·rfl
theorem zpf {s:Str}(h:0<s.length):zle s=(zf8 (s.getD 0 0)&&(s.drop 1).all znh):=by
 cases s
 ·exact absurd h (by simp)
 ·rfl
theorem zij (s:Str):FC Tryz.prog 174 [sD s] [bD (za9 s)]:=by
 refine zfp (fun hw=>?_) Tryz.call174
 have hl:s.length<=9223372036854775807:=by simpa[zlj,wfT]using hw.1
 refine zak Tryz.call174 Tryz.func174 rfl Ys (zaz Ys) ?_
 simp -implicitDefEqProofs only[go_sem,Tryz.results174]
 refine callF (qld s.length 1 4) Yr ?_
 simp -implicitDefEqProofs only[go_sem]
 by_cases hb:inB s.length 1 4=true
 ·have hp:0<s.length:=by simp[inB]at hb;omega
  have hp':(0:Int)<s.length:=by omega
  have he:=zuv hp;refine⟨fun h=>⟨hp',fun h1=>⟨hp',fun h2=>?_,fun h2=>?_⟩,fun h1=>?_⟩,fun h=>by simp[hb]at h⟩
  ·rw[za9,he,qja h2];rfl
  ·rw[qmn h1 h2,Qq]at he;refine zaf (fun k:Nat=>hd [(0,vT (.str s)),(3,vI k)] [] []) (fun k=>k<=s.length/\zr6 s=(s.drop k).all zlt) (fun k=>s.length-k) 1 (zad ?_) ?_ ?_
   ·simp -implicitDefEqProofs only[go_sem]
   ·exact⟨hp,he⟩
   ·intro k ⟨hk,hr⟩;by_cases hlt:k<s.length
    ·have hg:s.getD k 0=s[k]:=by simp[List.getD,hlt]
     rw[Qx hlt,Kt]at hr;simp -implicitDefEqProofs only[go_sem,hlt];simp only[hg];refine callF (zks s[k]) Yr ?_;simp -implicitDefEqProofs only[go_sem];refine⟨fun h=>?_,fun h=>⟨k+1,⟨hlt,?_⟩,Yt,zad (by simp -implicitDefEqProofs only[go_sem];rw[zam Yt])⟩⟩
     ·have:zlt s[k]=false:=by simpa using h
      rw[za9,hr,this];rfl
     ·have:zlt s[k]=true:=by simpa using h
      rw[hr,this];rfl
    ·simp -implicitDefEqProofs only[go_sem,hlt];rw[za9,hr,Q0 Yt,hb];rfl
  ·rw[za9,he,qgt h1];rfl
 ·have hb':inB s.length 1 4=false:=by simpa using hb
  refine⟨fun h=>by simp[hb']at h,fun h=>?_⟩;rw[za9,hb',Q6]
set_option maxHeartbeats 1000000 in
theorem zmv (s:Str):FC Tryz.prog 221 [sD s] [bD (zce s)]:=by
 refine zfp (fun hw=>?_) Tryz.call221
 have hl:s.length<=9223372036854775807:=by simpa[zlj,wfT]using hw.1
 refine zak Tryz.call221 Tryz.func221 rfl Ys (zaz Ys) ?_
 simp -implicitDefEqProofs only[go_sem,Tryz.results221]
 refine callF (qld s.length 1 6) Yr ?_
 simp -implicitDefEqProofs only[go_sem]
 by_cases hb:inB s.length 1 6=true
 ·have hp:0<s.length:=by simp[inB]at hb;omega
  have hp':(0:Int)<s.length:=by omega
  have he:=zpf hp;refine⟨fun h=>⟨hp',fun h1=>⟨hp',fun h2=>?_,fun h2=>?_⟩,fun h1=>?_⟩,fun h=>by simp[hb]at h⟩
  ·rw[zce,he,zy9 h2];rfl
  ·rw[qfy h1 h2,Qq]at he;have leaf:∀l,l∈zrm->(s==l)=true->T.bool false=T.bool (zce s):=fun l hl e=>by
    have:zrm.contains s=true:=by rw[Kd,Ko.1 e];exact hl
    rw[zce,this,Jr,Q6]
   refine⟨fun e=>⟨fun _=>leaf _ (by simp[zrm]) e,fun e'=>absurd (e.symm.trans e') (by simp)⟩,fun n1=>?_⟩;refine⟨fun e=>⟨fun _=>leaf _ (by simp[zrm]) e,fun e'=>absurd (e.symm.trans e') (by simp)⟩,fun n2=>?_⟩;refine⟨fun e=>⟨fun _=>leaf _ (by simp[zrm]) e,fun e'=>absurd (e.symm.trans e') (by simp)⟩,fun n3=>?_⟩;refine⟨fun e=>⟨fun _=>leaf _ (by simp[zrm]) e,fun e'=>absurd (e.symm.trans e') (by simp)⟩,fun n4=>?_⟩;refine⟨fun e=>⟨fun _=>leaf _ (by simp[zrm]) e,fun e'=>absurd (e.symm.trans e') (by simp)⟩,fun n5=>?_⟩;refine⟨fun e=>⟨fun _=>leaf _ (by simp[zrm]) e,fun e'=>absurd (e.symm.trans e') (by simp)⟩,fun n6=>?_⟩;refine⟨fun e=>⟨fun _=>leaf _ (by simp[zrm]) e,fun e'=>absurd (e.symm.trans e') (by simp)⟩,fun n7=>?_⟩;refine⟨fun e=>leaf _ (by simp[zrm]) e,fun n8=>?_⟩;have hnc:zrm.contains s=false:=by
    simp only[Qy,ne_eq]at n1 n2 n3 n4 n5 n6 n7 n8;rw[Bool.eq_false_iff,ne_eq,Kd];simp only[zrm,Qu,Jg,or_false,not_or];exact⟨n1,n2,n3,n4,n5,n6,n7,n8⟩
   refine zaf (fun k:Nat=>hd [(0,vT (.str s)),(3,vI k)] [] []) (fun k=>k<=s.length/\zle s=(s.drop k).all znh) (fun k=>s.length-k) 1 (zad ?_) ?_ ?_
   ·simp -implicitDefEqProofs only[go_sem]
   ·exact⟨hp,he⟩
   ·intro k ⟨hk,hr⟩;by_cases hlt:k<s.length
    ·have hg:s.getD k 0=s[k]:=by simp[List.getD,hlt]
     rw[Qx hlt,Kt]at hr;simp -implicitDefEqProofs only[go_sem,hlt];simp only[hg];refine callF (zks s[k]) Yr ?_;simp -implicitDefEqProofs only[go_sem];simp only[hg];refine⟨fun h=>⟨hlt,fun h'=>?_,fun h'=>⟨k+1,⟨hlt,?_⟩,Yt,zad (by simp -implicitDefEqProofs only[go_sem];rw[zam Yt])⟩⟩,fun h=>⟨k+1,⟨hlt,?_⟩,Yt,zad (by simp -implicitDefEqProofs only[go_sem];rw[zam Yt])⟩⟩
     ·have:znh s[k]=false:=by
       simp[znh]at h⊢;refine⟨h,fun e=>?_⟩;rw[e]at h';simp at h'
      rw[zce,hr,this];rfl
     ·have:znh s[k]=true:=by
       have:=qnm (b:=s[k]) (n:=95) Yt;simp[znh]at h'⊢;right;simpa[h']using this
      rw[hr,this];rfl
     ·have:znh s[k]=true:=by simp[znh];simp at h;simp[h]
      rw[hr,this];rfl
    ·simp -implicitDefEqProofs only[go_sem,hlt];rw[zce,hr,Q0 Yt,hb,hnc];rfl
  ·rw[zce,he,qaz h1];rfl
 ·have hb':inB s.length 1 6=false:=by simpa using hb
  refine⟨fun h=>by simp[hb']at h,fun h=>?_⟩;rw[zce,hb',Q6];rfl
end Go.Proofs.YtliiapbmkcbfaaaGreat
namespace Go.Proofs.YtliiapbmkcbfaaaGreat
set_option linter.unusedSimpArgs false
set_option linter.unusedVariables false
set_option linter.unusedSectionVars false
set_option maxRecDepth 4000
open Go.RowKit
def Tm.nodes:Tm->Nat:=Tm.fold fun _ _ rs=>1+rs.sum
theorem Tm.nodes_eq (a:Tm):a.nodes=1+(a.args.map Tm.nodes).sum:=Tm.fold_eq _ a
def Tm.depth:Tm->Nat:=Tm.fold fun _ _ rs=>rs.foldl max 0+1
theorem Tm.depth_eq (a:Tm):a.depth=(a.args.map Tm.depth).foldl max 0+1:=Tm.fold_eq _ a
theorem ze3:∀a:Tm,a.nodes<=1+a.wt:=by
 refine zb0 fun n xs ih=>?_
 rw[Tm.nodes_eq,Tm.wt_eq]
 show 1+(xs.map Tm.nodes).sum<=1+(n.length+xs.length+(xs.map Tm.wt).sum)
 have:(xs.map Tm.nodes).sum<=xs.length+(xs.map Tm.wt).sum:=by
  clear n;induction xs with
  | nil=>simp
  | cons x xs ih2 =>
   have h1:=ih x (by simp);have h2:=ih2 fun y hy=>ih y (by simp[hy]);simp only[Qi,Qz,Qb];omega
 omega
theorem zjh {B:Nat}:∀(xs:List Nat)(m:Nat),m<=B->(∀x∈xs,x<=B)->xs.foldl max m<=B
 | [],m,h,_=>h
 | x::xs,m,h,h2=>zjh xs (max m x) (by have:=h2 x (by simp);omega) fun y hy=>h2 y (by simp[hy])
theorem zke:∀a:Tm,a.depth<=a.nodes:=by
 refine zb0 fun n xs ih=>?_
 rw[Tm.nodes_eq,Tm.depth_eq]
 show(xs.map Tm.depth).foldl max 0+1<=1+(xs.map Tm.nodes).sum
 have:=zjh (B:=(xs.map Tm.nodes).sum) (xs.map Tm.depth) 0 Yt fun d hd=>by
  obtain⟨x,hx,rfl⟩:=Kn.1 hd;exact Q9 (ih x hx) (zay Tm.nodes xs x hx)
 omega
def szL (lim:Int):Int->List Int->Int
 | n,[]=>n
 | n,r::rs=>if n>lim then n else szL lim (n+r) rs
def zfm:Tm->Int:=Tm.fold fun _ _ rs=>szL 30 1 rs
theorem zty (a:Tm):zfm a=szL 30 1 (a.args.map zfm):=Tm.fold_eq _ a
theorem zjy {α:Type}(f:α->Int)(g:α->Nat)(lim:Int):∀(xs:List α)(n:Int),0<=n->(∀x∈xs,1<=f x/\f x<=g x/\(f x<=lim->f x=g x))->szL lim n (xs.map f)<=n+(xs.map g).sum/\n<=szL lim n (xs.map f)/\(szL lim n (xs.map f)<=lim->szL lim n (xs.map f)=n+(xs.map g).sum)
 | [],n,_,_=>by simp[szL]
 | x::xs,n,hn,h=>by
  obtain⟨h1,h2,h3⟩:=h x (by simp);obtain⟨k1,k2,k3⟩:=zjy f g lim xs (n+f x) Yt fun y hy=>h y (by simp[hy]);simp only[Qi,szL,Qz];split
  ·refine⟨Yt,Yt,fun hh=>by omega⟩
  ·refine⟨Yt,Yt,fun hh=>?_⟩;have:=k3 hh;rw[this];have:f x=g x:=h3 Yt;omega
theorem zmf:∀a:Tm,1<=zfm a/\zfm a<=a.nodes/\(zfm a<=30->zfm a=a.nodes):=by
 refine zb0 fun n xs ih=>?_
 rw[zty,Tm.nodes_eq]
 show 1<=szL 30 1 (xs.map zfm)/\szL 30 1 (xs.map zfm)<=((1+(xs.map Tm.nodes).sum:Nat):Int)/\_
 obtain⟨k1,k2,k3⟩:=zjy zfm Tm.nodes 30 xs 1 Yt ih
 refine⟨k2,Yt,fun h=>?_⟩
 have:=k3 h
 show szL 30 1 (xs.map zfm)=_
 rw[this];show _=((1+(xs.map Tm.nodes).sum:Nat):Int);omega
theorem qh8 (a:Tm):decide (zfm a<=30)=decide (a.nodes<=30):=by
 obtain⟨h1,h2,h3⟩:=zmf a
 rw[Ju]
 exact⟨fun h=>by have:=h3 h;omega,fun h=>by omega⟩
def zx7 {α:Type}(f:α->Nat)(xs:List α)(k:Nat):Nat:=((xs.drop k).map f).sum
theorem zdo {α:Type}(f:α->Nat)(xs:List α):zx7 f xs 0=(xs.map f).sum:=by simp[zx7]
theorem zfs {α:Type}(f:α->Nat)(xs:List α)(k:Nat)(h:k<xs.length):zx7 f xs k=f xs[k]+zx7 f xs (k+1):=by
 unfold zx7
 rw[Qx h,Qi,Qz]
set_option maxHeartbeats 400000 in
theorem qm5 (a:Tm)(hs:a.wt<=1099511627776)(H:∀x∈a.args,FC Tryz.prog 265 [tmD x] [iD (zfm x)]):FC Tryz.prog 265 [tmD a] [iD (zfm a)]:=by
 refine zfp (fun hw=>?_) Tryz.call265
 have hl:a.args.length<=9223372036854775807:=by rw[Tm.wt_eq]at hs;omega
 have hn:=ze3 a
 have hN:=a.nodes_eq
 simp only[tmD,zaa]
 refine zak Tryz.call265 Tryz.func265 rfl Ys (zaz Ys) ?_
 simp -implicitDefEqProofs only[go_sem,Tryz.results265]
 refine zaf (fun p:Nat×Int=>hd [(3,vI p.2),(7,vT (tmS a.args)),(8,vI a.args.length),(9,vI p.1)] [] []) (fun p=>p.1<=a.args.length/\zfm a=szL 30 p.2 ((a.args.drop p.1).map zfm)/\1<=p.2/\p.2+zx7 Tm.nodes a.args p.1<=a.nodes) (fun p=>a.args.length-p.1) (0,1) (zad ?_) ?_ ?_
 ·simp -implicitDefEqProofs only[go_sem]
 ·exact⟨by simp,by rw[zty];rfl,Yt,by rw[zdo];omega⟩
 ·intro ⟨k,n⟩ ⟨hk,hr,h1,h2⟩;simp only at hk hr h1 h2;by_cases hlt:k<a.args.length
  ·have hd:=zfs Tm.nodes a.args k hlt;obtain⟨s1,s2,s3⟩:=zmf a.args[k];rw[Qx hlt,Qi,szL]at hr;simp -implicitDefEqProofs only[go_sem,zac,hlt,zaa];refine⟨fun h=>?_,fun h=>?_⟩
   ·rw[hr,if_pos (by simpa using h)]
   ·refine callF (H a.args[k] (Qd hlt)) (by simp -implicitDefEqProofs only[go_sem,zaa]) ?_;simp -implicitDefEqProofs only[go_sem,zaa];rw[if_neg (by simpa using h)]at hr;exact⟨(k+1,n+zfm a.args[k]),⟨hlt,hr,by simp only;omega,by simp only;omega⟩,by simp only;omega,zad (by simp -implicitDefEqProofs only[go_sem];rw[zam Yt,zbn Yt Yt];exact⟨rfl,rfl⟩)⟩
  ·simp -implicitDefEqProofs only[go_sem,hlt];rw[hr,Q0 Yt];rfl
theorem size_c:∀a:Tm,a.wt<=1099511627776->FC Tryz.prog 265 [tmD a] [iD (zfm a)] :=
 zb0 fun n xs ih hs=>qm5 (.mk n xs) hs fun x hx=>ih x hx (by
  have:=Tm.wt_eq (.mk n xs);have:=zay Tm.wt xs x hx
  simp only[Tm.args]at *;omega)
set_option maxHeartbeats 400000 in
theorem qi5 (a:Tm)(hs:a.wt<=1099511627776)(H:∀x∈a.args,FC Tryz.prog 266 [tmD x] [iD x.depth]):FC Tryz.prog 266 [tmD a] [iD a.depth]:=by
 have hl:a.args.length<=9223372036854775807:=by rw[Tm.wt_eq]at hs;omega
 have hn:=ze3 a
 have hdn:=zke a
 have hD:=a.depth_eq
 simp only[tmD,zaa]
 refine zak Tryz.call266 Tryz.func266 rfl Ys (zaz Ys) ?_
 simp -implicitDefEqProofs only[go_sem,Tryz.results266]
 refine zaf (fun p:Nat×Nat=>hd [(3,vI p.2),(7,vT (tmS a.args)),(8,vI a.args.length),(9,vI p.1)] [] []) (fun p=>p.1<=a.args.length/\a.depth=((a.args.drop p.1).map Tm.depth).foldl max p.2+1) (fun p=>a.args.length-p.1) (0,0) (zad ?_) ?_ ?_
 ·simp -implicitDefEqProofs only[go_sem]
 ·exact⟨by simp,hD⟩
 ·intro ⟨k,n⟩ ⟨hk,hr⟩;simp only at hk hr;by_cases hlt:k<a.args.length
  ·rw[Qx hlt,Qi,Jd]at hr;simp -implicitDefEqProofs only[go_sem,zac,hlt,zaa];refine callF (H a.args[k] (Qd hlt)) (by simp -implicitDefEqProofs only[go_sem,zaa]) ?_;simp -implicitDefEqProofs only[go_sem,zaa];exact⟨(k+1,max n a.args[k].depth),⟨hlt,hr⟩,by simp only;omega,zad (by simp -implicitDefEqProofs only[go_sem];rw[zam Yt];exact⟨by congr 1;omega,rfl⟩)⟩
  ·simp -implicitDefEqProofs only[go_sem,hlt];rw[Q0 Yt]at hr;simp only[Qk,Yj]at hr;rw[hr,zam Yt]
theorem qnv:∀a:Tm,a.wt<=1099511627776->FC Tryz.prog 266 [tmD a] [iD a.depth] :=
 zb0 fun n xs ih hs=>qi5 (.mk n xs) hs fun x hx=>ih x hx (by
  have:=Tm.wt_eq (.mk n xs);have:=zay Tm.wt xs x hx
  simp only[Tm.args]at *;omega)
def zdh (a:Tm):Bool:=decide (a.nodes<=30)&&decide (a.depth<=8)
theorem zqa (a:Tm)(hs:a.wt<=1099511627776):FC Tryz.prog 225 [tmD a] [bD (zdh a)]:=by
 simp only[tmD,zaa]
 refine zak Tryz.call225 Tryz.func225 rfl Ys (zaz Ys) ?_
 simp -implicitDefEqProofs only[go_sem,Tryz.results225]
 refine callF (size_c a hs) (by simp -implicitDefEqProofs only[go_sem,zaa]) ?_
 simp -implicitDefEqProofs only[go_sem,zaa]
 rw[qh8]
 refine⟨fun h=>?_,fun h=>?_⟩
 ·refine callF (qnv a hs) (by simp -implicitDefEqProofs only[go_sem,zaa]) ?_;simp -implicitDefEqProofs only[go_sem,zaa];rw[zdh,h,Qq]
  congr 1
  rw[Ju];omega
 ·rw[zdh,h];rfl
end Go.Proofs.YtliiapbmkcbfaaaGreat
namespace Go.Proofs.YtliiapbmkcbfaaaGreat
set_option linter.unusedSimpArgs false
set_option linter.unusedVariables false
set_option linter.unusedSectionVars false
set_option maxRecDepth 4000
open Go.RowKit
theorem qgp (σ:St)(caps:List T):VDs σ (caps.map fun t=>.one (.t t)) (caps.map .one)=True:=by
 induction caps with
 | nil=>simp[VDs]
 | cons t ts ih=>rw[Qi,Qi,zv4,ih];simp[qlj,CT_t]
attribute [go_sem] qgp
def zc9 {α:Type}(xs:List α)(p:α->Bool):Int:=if xs.any p then xs.findIdx p else -1
theorem zcy {α:Type}{xs:List α}{p:α->Bool}{k:Nat}(hk:k<xs.length)(hn:∀x∈xs.take k,p x=false)(h:p xs[k]=true):zc9 xs p=k:=by
 have ha:xs.any p=true:=Yc.2 ⟨xs[k],Qd hk,h⟩
 have hf:xs.findIdx p=k:=(List.findIdx_eq hk).2 ⟨h,fun j hj=>hn _ (by
  rw[List.mem_take_iff_getElem];exact⟨j,Yt,rfl⟩)⟩
 rw[zc9,if_pos ha,hf]
theorem zd9 {α:Type}{xs:List α}{p:α->Bool}(hn:∀x∈xs,p x=false):zc9 xs p = -1:=by
 have ha:xs.any p=false:=by rw[List.any_eq_false];exact fun x hx=>by simp[hn x hx]
 rw[zc9,ha];rfl
theorem zez {α:Type}(xs:List α)(p:α->Bool):decide (0<=zc9 xs p)=xs.any p:=by
 unfold zc9
 cases xs.any p<;>simp
theorem zr4 {α:Type}(xs:List α)(p:α->Bool):decide (zc9 xs p>=0)=xs.any p:=zez xs p
theorem zcd {α:Type}{xs:List α}{p:α->Bool}{k:Nat}(hk:k<xs.length)(hn:∀x∈xs.take k,p x=false)(h:p xs[k]=false):∀x∈xs.take (k+1),p x=false:=by
 rw[Qj hk]
 intro x hx
 rcases Qv.1 hx with hx|hx
 ·exact hn x hx
 ·rw[Kg.1 hx];exact h
theorem zf4 (xs:List Tm)(p:Tm->Bool)(g:FuncId)(caps:List T)(H:∀x∈xs,FC Tryz.prog g (tmD x::caps.map .one) [bD (p x)]):FC Tryz.prog 176 [.one (tmS xs),.one (.fn g caps)] [iD (zc9 xs p)]:=by
 refine zfp (fun hw=>?_) Tryz.call176
 have hl:xs.length<=9223372036854775807:=by simpa[zlj,wfT]using hw.1.1
 refine zak Tryz.call176 Tryz.func176 rfl Ys (zaz Ys) ?_
 simp -implicitDefEqProofs only[go_sem,Tryz.results176]
 refine zaf (fun k:Nat=>hd [(0,vT (tmS xs)),(1,vT (.fn g caps)),(7,vI xs.length),(8,vI k)] [] []) (fun k=>k<=xs.length/\∀x∈xs.take k,p x=false) (fun k=>xs.length-k) 0 (zad ?_) ?_ ?_
 ·simp -implicitDefEqProofs only[go_sem]
 ·simp
 ·intro k ⟨hk,hr⟩;by_cases hlt:k<xs.length
  ·simp -implicitDefEqProofs only[go_sem,zac,hlt,zaa];refine callF (H xs[k] (Qd hlt)) (by simp -implicitDefEqProofs only[go_sem,zaa]) ?_;simp -implicitDefEqProofs only[go_sem,zaa];refine⟨fun h=>?_,fun h=>⟨k+1,⟨hlt,zcd hlt hr h⟩,Yt,zad (by simp -implicitDefEqProofs only[go_sem];rw[zam Yt])⟩⟩;rw[zcy hlt hr h]
  ·simp -implicitDefEqProofs only[go_sem,hlt];rw[Qm Yt]at hr;rw[zd9 hr]
theorem zhw (xs:List Tm)(p:Tm->Bool)(g:FuncId)(caps:List T)(H:∀x∈xs,FC Tryz.prog g (tmD x::caps.map .one) [bD (p x)]):FC Tryz.prog 107 [.one (tmS xs),.one (.fn g caps)] [bD (xs.any p)]:=by
 refine zak Tryz.call107 Tryz.func107 rfl Ys (zaz Ys) ?_
 simp -implicitDefEqProofs only[go_sem,Tryz.results107]
 refine callF (zf4 xs p g caps H) Yr ?_
 simp -implicitDefEqProofs only[go_sem]
 rw[zez]
theorem zhn (xs:List Fm)(p:Fm->Bool)(g:FuncId)(caps:List T)(H:∀x∈xs,FC Tryz.prog g (fmD x::caps.map .one) [bD (p x)]):FC Tryz.prog 248 [.one (fmS xs),.one (.fn g caps)] [iD (zc9 xs p)]:=by
 refine zfp (fun hw=>?_) Tryz.call248
 have hl:xs.length<=9223372036854775807:=by simpa[zlj,wfT]using hw.1.1
 refine zak Tryz.call248 Tryz.func248 rfl Ys (zaz Ys) ?_
 simp -implicitDefEqProofs only[go_sem,Tryz.results248]
 refine zaf (fun k:Nat=>hd [(0,vT (fmS xs)),(1,vT (.fn g caps)),(7,vI xs.length),(8,vI k)] [] []) (fun k=>k<=xs.length/\∀x∈xs.take k,p x=false) (fun k=>xs.length-k) 0 (zad ?_) ?_ ?_
 ·simp -implicitDefEqProofs only[go_sem]
 ·simp
 ·intro k ⟨hk,hr⟩;by_cases hlt:k<xs.length
  ·simp -implicitDefEqProofs only[go_sem,zac,hlt,zab,zaa];refine callF (H xs[k] (Qd hlt)) (by simp -implicitDefEqProofs only[go_sem,zab,zaa]) ?_;simp -implicitDefEqProofs only[go_sem,zab,zaa];refine⟨fun h=>?_,fun h=>⟨k+1,⟨hlt,zcd hlt hr h⟩,Yt,zad (by simp -implicitDefEqProofs only[go_sem];rw[zam Yt])⟩⟩;rw[zcy hlt hr h]
  ·simp -implicitDefEqProofs only[go_sem,hlt];rw[Qm Yt]at hr;rw[zd9 hr]
theorem za6 (xs:List Fm)(p:Fm->Bool)(g:FuncId)(caps:List T)(H:∀x∈xs,FC Tryz.prog g (fmD x::caps.map .one) [bD (p x)]):FC Tryz.prog 209 [.one (fmS xs),.one (.fn g caps)] [bD (xs.any p)]:=by
 refine zak Tryz.call209 Tryz.func209 rfl Ys (zaz Ys) ?_
 simp -implicitDefEqProofs only[go_sem,Tryz.results209]
 refine callF (zhn xs p g caps H) Yr ?_
 simp -implicitDefEqProofs only[go_sem]
 rw[zez]
end Go.Proofs.YtliiapbmkcbfaaaGreat
namespace Go.Proofs.YtliiapbmkcbfaaaGreat
set_option linter.unusedSimpArgs false
set_option linter.unusedVariables false
set_option linter.unusedSectionVars false
set_option maxRecDepth 4000
open Go.RowKit
abbrev zou (l:List UInt8):T:=.sl 1 (l.map fun b=>[T.int .u8 b.toNat])
end Go.Proofs.YtliiapbmkcbfaaaGreat
namespace Go.Proofs.YtliiapbmkcbfaaaGreat
set_option linter.unusedSimpArgs false
set_option linter.unusedVariables false
set_option linter.unusedSectionVars false
set_option maxRecDepth 4000
open Go.RowKit
abbrev bsD (l:List UInt8):D:=.one (zou l)
theorem qgg {d:PD}(h:zc0 Tryz.prog 59 d):∃l:List UInt8,d.cells=[zou l]:=by
 obtain⟨xs,rfl,hx⟩:=h.sl Tryz.underlying59
 obtain⟨l,hl⟩:=zmp (fun b:UInt8=>[T.int .u8 b.toNat]) xs fun x hx'=>by
  obtain⟨n,rfl⟩:=(hx x hx').oct Tryz.underlying5;exact⟨n,by rw[PD.cells]⟩
 exact⟨l,by rw[PD.cells,hl,show Tryz.prog.cellsOf 5=1 from by kernel_rfl]⟩
end Go.Proofs.YtliiapbmkcbfaaaGreat
namespace Go.Proofs
open Go.Shelf
set_option maxRecDepth 100000
def Tryz.lays190_ren : Go.Shelf.Ren := ⟨fun | 190 => 154 | 125 => 212 | 258 => 211 | 128 => 258 | 129 => 259 | 302 => 249 | 303 => 250 | 304 => 251 | 305 => 252 | 306 => 253 | 307 => 254 | 308 => 255 | 309 => 256 | 310 => 257 | 333 => 273 | 329 => 274 | 330 => 275 | 334 => 276 | 335 => 277 | 336 => 278 | 344 => 284 | n => n, fun | 31 => 64 | 9 => 9 | 3 => 3 | 46 => 198 | 0 => 0 | 51 => 239 | 53 => 104 | 4 => 4 | 183 => 231 | 182 => 230 | 131 => 236 | 5 => 5 | 218 => 246 | 222 => 250 | 228 => 256 | 229 => 257 | n => n, fun | n => n⟩
theorem Tryz.lays190 : Go.Proofs.Lays.n190 Tryz.prog Tryz.lays190_ren := {
 mixed := by kernel_rfl
 f125 := Tryz.func212.trans (congrArg some (by kernel_rfl))
 f128 := Tryz.func258.trans (congrArg some (by kernel_rfl))
 f129 := Tryz.func259.trans (congrArg some (by kernel_rfl))
 f190 := Tryz.func154.trans (congrArg some (by kernel_rfl))
 f258 := Tryz.func211.trans (congrArg some (by kernel_rfl))
 f302 := Tryz.func249.trans (congrArg some (by kernel_rfl))
 f303 := Tryz.func250.trans (congrArg some (by kernel_rfl))
 f304 := Tryz.func251.trans (congrArg some (by kernel_rfl))
 f305 := Tryz.func252.trans (congrArg some (by kernel_rfl))
 f306 := Tryz.func253.trans (congrArg some (by kernel_rfl))
 f307 := Tryz.func254.trans (congrArg some (by kernel_rfl))
 f308 := Tryz.func255.trans (congrArg some (by kernel_rfl))
 f309 := Tryz.func256.trans (congrArg some (by kernel_rfl))
 f310 := Tryz.func257.trans (congrArg some (by kernel_rfl))
 f329 := Tryz.func274.trans (congrArg some (by kernel_rfl))
 f330 := Tryz.func275.trans (congrArg some (by kernel_rfl))
 f333 := Tryz.func273.trans (congrArg some (by kernel_rfl))
 f334 := Tryz.func276.trans (congrArg some (by kernel_rfl))
 f335 := Tryz.func277.trans (congrArg some (by kernel_rfl))
 f336 := Tryz.func278.trans (congrArg some (by kernel_rfl))
 f344 := Tryz.func284.trans (congrArg some (by kernel_rfl))
 t0 := Tryz.underlying0
 a0 := Tryz.isAgg0
 z0 := Tryz.sizeOf0
 v0 := Tryz.zeroValue0
 t3 := Tryz.underlying3
 a3 := Tryz.isAgg3
 z3 := Tryz.sizeOf3
 v3 := Tryz.zeroValue3
 t4 := Tryz.underlying4
 a4 := Tryz.isAgg4
 z4 := Tryz.sizeOf4
 v4 := Tryz.zeroValue4
 t5 := Tryz.underlying5
 a5 := Tryz.isAgg5
 z5 := Tryz.sizeOf5
 v5 := Tryz.zeroValue5
 t9 := Tryz.underlying9
 a9 := Tryz.isAgg9
 z9 := Tryz.sizeOf9
 v9 := Tryz.zeroValue9
 t31 := Tryz.underlying64
 a31 := Tryz.isAgg64
 z31 := Tryz.sizeOf64
 v31 := Tryz.zeroValue64
 t46 := Tryz.underlying198
 a46 := Tryz.isAgg198
 z46 := Tryz.sizeOf198
 v46 := Tryz.zeroValue198
 t51 := Tryz.underlying239
 a51 := Tryz.isAgg239
 z51 := Tryz.sizeOf239
 v51 := Tryz.zeroValue239
 t53 := Tryz.underlying104
 a53 := Tryz.isAgg104
 z53 := Tryz.sizeOf104
 v53 := Tryz.zeroValue104
 t131 := Tryz.underlying236
 a131 := Tryz.isAgg236
 z131 := Tryz.sizeOf236
 v131 := Tryz.zeroValue236
 t182 := Tryz.underlying230
 a182 := Tryz.isAgg230
 z182 := Tryz.sizeOf230
 v182 := Tryz.zeroValue230
 t183 := Tryz.underlying231
 a183 := Tryz.isAgg231
 z183 := Tryz.sizeOf231
 v183 := Tryz.zeroValue231
 t218 := Tryz.underlying246
 a218 := Tryz.isAgg246
 z218 := Tryz.sizeOf246
 v218 := Tryz.zeroValue246
 t222 := Tryz.underlying250
 a222 := Tryz.isAgg250
 z222 := Tryz.sizeOf250
 v222 := Tryz.zeroValue250
 t228 := Tryz.underlying256
 a228 := Tryz.isAgg256
 z228 := Tryz.sizeOf256
 v228 := Tryz.zeroValue256
 t229 := Tryz.underlying257
 a229 := Tryz.isAgg257
 z229 := Tryz.sizeOf257
 v229 := Tryz.zeroValue257 }
end Go.Proofs
namespace Go.Proofs.YtliiapbmkcbfaaaGreat
set_option linter.unusedSimpArgs false
set_option linter.unusedVariables false
set_option linter.unusedSectionVars false
set_option maxRecDepth 4000
open Go.RowKit
theorem zpq (ss:List Str)(hl:ss.length<=1099511627776):IC Tryz.prog 154 [] (.one (zbm ss)) [] (.one (zbm (zjp ss))) [] :=
 qoc Tryz.call154 (fun blk off cap ss w h1 h2 h3=>Any.slices_Sort_string Tryz.lays190 blk off cap ss w h1 h2 h3) (fun p cap w=>Any.slices_Sort_string_none Tryz.lays190 p cap w) ss Yt
set_option maxHeartbeats 1000000 in
theorem zx9:CloneOf Tryz.prog 163 1 16:=by
 have t22:=Tryz.underlying64
 have q22:∀(w:World) (a:Option Addr) (n c n' c':Nat),(binOp .eql 64 (.slice a n c) (.slice none n' c')).run Tryz.prog w=.ok (.bool a.isNone) w:=fun w a n c n' c'=>Lib.run_eql_slice_nil w _ _ a n c n' c' t22
 have u22:∀w,Sem.run Tryz.prog (underlying 64) w=.ok (TypeDesc.slice 9) w:=run_underlying t22
 refine⟨Tryz.call163,fun ad n c news w hl hn hbig hc h1=>?_,fun n c w=>?_⟩
 ·have A:Aside (∀j u,news[j]?=some u->w.cell? (ad.add j)=some u):=hc;clear hc;obtain⟨i0,z,hi,hz0,hzs,hz1,hz2⟩:=qne (P:=Tryz.prog) (t:=9) (n:=1) (b:=16) (z:=[.t (.str [])]) Ys Ys Ys rfl
  go_enter Tryz.func163,Tryz.ntmps163
  go_wp2_with (at_builtin;refine wpList_append_own _ rfl _ _ 64 rfl w.heap.size 9 i0 z 1 16 t22 hi hz0 hz1 hz2 hzs (by decide) _ _ _ rfl (World.ownsRow_made w #[] 0 (Qw _) (Q1 _) (by simp)) ad n c news rfl ?qc1 ?qc2 ?qc3 ?qc4 ?qc5 ?qc6 ?_)
  case qc1=>exact hl
  case qc2 =>
   intro j u hj;exact Lib.cell?_alloc_some _ (A.out j u hj)
  case qc3=>exact h1
  case qc4=>rw[Q2];exact hn
  case qc5=>rw[Q2];exact hbig
  case qc6=>simp
  intro v' w1 hown hgrow hnil
  go_wp2
  go_ret
  refine⟨_,v',rfl,by simpa using hown,hnil,?_⟩;exact((Below.refl _ w).alloc (Qw _) _).grown hgrow (by simp) (by intro k hk;simp[Value.ownBlock]at hk;omega)
 ·go_enter Tryz.func163,Tryz.ntmps163
  go_wp2
  go_ret
  exact⟨rfl,rfl⟩
theorem zxm (ss:List Str):∀c∈(ss.map fun s=>[T.str s]).flatten,c.flat=true:=fun c hc=>by
 rw[zkj]at hc
 obtain⟨s,_,rfl⟩:=Kn.1 hc
 rfl
theorem zwv (ss:List Str)(hs:ss.length<=1099511627776):FC Tryz.prog 163 [.one (zbm ss)] [.one (zbm ss)] :=
 qfv zx9 _ (by simp;omega) (zxm ss)
theorem zjd (xs:List Str)(s:Str):FC Tryz.prog 77 [.one (zbm xs),sD s] [bD (xs.contains s)]:=by
 refine zfp (fun hw=>?_) Tryz.call77
 have hl:xs.length<=9223372036854775807:=by simpa[zlj,wfT]using hw.1.1
 refine zak Tryz.call77 Tryz.func77 rfl Ys (zaz Ys) ?_
 simp -implicitDefEqProofs only[go_sem,Tryz.results77]
 refine zaf (fun k:Nat=>hd [(0,vT (zbm xs)),(1,vT (.str s)),(5,vI k)] [] []) (fun k=>k<=xs.length/\s∉xs.take k) (fun k=>xs.length-k) 0 (zad ?_) ?_ ?_
 ·simp -implicitDefEqProofs only[go_sem]
 ·simp
 ·intro k ⟨hk,hr⟩;by_cases hlt:k<xs.length
  ·simp -implicitDefEqProofs only[go_sem,zac,hlt];refine⟨fun h=>?_,fun h=>?_⟩
   ·have e:xs[k]=s:=by simpa using h
    rw[Kd.2 (e▸Qd hlt)]
   ·have e:xs[k]≠s:=by simpa using h
    exact⟨k+1,⟨hlt,zh1 hlt hr e⟩,Yt,zad (by simp -implicitDefEqProofs only[go_sem];rw[zam Yt])⟩
  ·simp -implicitDefEqProofs only[go_sem,hlt];rw[Qm Yt]at hr;simpa using hr
theorem zcw {α:Type}{p:α->Bool}:∀{l:List α}{k:Nat},k<=l.length->(∀x∈l.take k,p x=true)->(∀h:k<l.length,p l[k]=false)->l.takeWhile p=l.take k/\l.dropWhile p=l.drop k
 | [],k,hk,_,_=>by simp
 | a::l,0,hk,_,h2=>by have:=h2 (by simp);simp only[List.getElem_cons_zero]at this;simp[this]
 | a::l,k+1,hk,h1,h2=>by
  have ha:=h1 a (by simp);obtain⟨e1,e2⟩:=zcw (l:=l) (k:=k) (by simpa using hk) (fun x hx=>h1 x (by simp[hx])) (fun h=>h2 (by simpa using h));simp[ha,e1,e2]
theorem qb7 {l:List Str}{s:Str}{k:Nat}(hk:k<=l.length)(h1:∀x∈l.take k,Op.bytesLess x s=true)(h2:∀h:k<l.length,Op.bytesLess l[k] s=false):zvo l s=if(l.drop k).head?=some s then l else l.take k++[s]++l.drop k:=by
 obtain⟨e1,e2⟩:=zcw (p:=fun x=>Op.bytesLess x s) hk h1 h2
 unfold zvo
 rw[e1,e2]
theorem flR_of {rows:List (List T)}(h:∀r∈rows,r.all T.flat=true):flR rows=true:=by
 induction rows with
 | nil=>rfl
 | cons r rs ih=>unfold flR;rw[h r (by simp),ih fun r hr=>h r (by simp[hr])];rfl
theorem za5 (l:List Str):flR (l.map fun s=>[T.str s])=true:=flR_of fun r hr=>by obtain⟨s,_,rfl⟩:=Kn.1 hr;rfl
theorem zcj (k:Nat)(l:List Str):flR ((l.map fun s=>[T.str s]).take k)=true:=by rw[<-List.map_take];exact za5 _
theorem zcl (k:Nat)(l:List Str):flR ((l.map fun s=>[T.str s]).drop k)=true:=by rw[<-List.map_drop];exact za5 _
theorem zfg {α β:Type}(f:α->β)(l:List α):(l.map f).take l.length=l.map f:=Qm (by simp)
theorem qcd (l:List Str)(s:Str)(hl:l.length<=2147483648):GC Tryz.prog 205 [(true,.one (zbm l)),(false,sD s)] [.one (zbm (zvo l s))]:=by
 refine qgh Tryz.call205 Tryz.func205 rfl Ys (by simp only[Qb,Qe,Tryz.ntmps205];omega) (by simp[zau,T.isPin]) ?_
 simp -implicitDefEqProofs only[go_sem,Tryz.results205]
 refine zaf (fun k:Nat=>hd [(0,.one (.ow 0 0)),(1,vT (.str s)),(5,vI k)] [] [(0,⟨true,1,l.map fun s=>[.str s],0,true⟩)]) (fun k=>k<=l.length/\∀x∈l.take k,Op.bytesLess x s=true) (fun k=>l.length-k) 0 (zad ?_) ?_ ?_
 ·simp -implicitDefEqProofs only[go_sem]
 ·simp
 ·intro k ⟨hk,hr⟩;have hm1:min k l.length<=4294967296:=by omega
  have hm2:min k l.length<=4294967295:=by omega
  have hm3:min k l.length+1+(l.length-k)<=4294967296:=by omega
  by_cases hlt:k<l.length
  ·have hnx:∀{b},Op.bytesLess l[k] s=b->b=true->∀x∈l.take (k+1),Op.bytesLess x s=true:=fun {b} e hb x hx=>by
    rw[Qj hlt]at hx;rcases Qv.1 hx with hx|hx
    ·exact hr x hx
    ·rw[Kg.1 hx,e,hb]
   simp -implicitDefEqProofs only[go_sem,zac,hlt];refine⟨fun h=>⟨k+1,⟨hlt,hnx rfl h⟩,Yt,zad (by simp -implicitDefEqProofs only[go_sem];rw[zam Yt])⟩,fun h=>?_⟩;have hp:=qb7 hk hr (fun _=>h);have hh:(l.drop k).head?=some l[k]:=by rw[List.head?_drop,List.getElem?_eq_getElem hlt]
   refine⟨fun h2=>?_,fun h2=>?_⟩
   ·rw[hp,if_pos (by rw[hh];simpa using h2)]
   ·rw[if_neg (by rw[hh];simpa using h2)]at hp;refine frzD 0 ?_;simp -implicitDefEqProofs only[go_sem];refine drawn Ys ?_;simp -implicitDefEqProofs only[go_sem,hk];refine za8 (by simp -implicitDefEqProofs only[go_sem,hk]) ?_;simp -implicitDefEqProofs only[go_sem,hk];refine zek true (by simp -implicitDefEqProofs only[go_sem,hk,ne_eq,Q2,hm1,hm2,hm3,zcj,zcl,zfg,Kr,Qo,Qh,Qa]) ?_;simp -implicitDefEqProofs only[go_sem,hk,ne_eq,Q2,hm1,hm2,hm3,zcj,zcl,zfg,Kr,Qo,Qh,Qa];refine za8 (by simp -implicitDefEqProofs only[go_sem,hk]) ?_;simp -implicitDefEqProofs only[go_sem,hk];refine zek true (by simp -implicitDefEqProofs only[go_sem,hk,ne_eq,Q2,hm1,hm2,hm3,zcj,zcl,zfg,Kr,Qo,Qh,Qa]) ?_;simp -implicitDefEqProofs only[go_sem,hk,ne_eq,Q2,hm1,hm2,hm3,zcj,zcl,zfg,Kr,Qo,Qh,Qa];refine zek true (by simp -implicitDefEqProofs only[go_sem,hk,ne_eq,Q2,hm1,hm2,hm3,zcj,zcl,zfg,Kr,Qo,Qh,Qa]) ?_;simp -implicitDefEqProofs only[go_sem,hk,ne_eq,Q2,hm1,hm2,hm3,zcj,zcl,zfg,Kr,Qo,Qh,Qa];refine⟨Ys,?_⟩;rw[hp];simp
  ·simp -implicitDefEqProofs only[go_sem,hlt];have hp:=qb7 hk hr (fun h=>absurd h hlt);rw[if_neg (by rw[Q0 Yt];simp)]at hp;refine frzD 0 ?_;simp -implicitDefEqProofs only[go_sem];refine drawn Ys ?_;simp -implicitDefEqProofs only[go_sem,hk];refine za8 (by simp -implicitDefEqProofs only[go_sem,hk]) ?_;simp -implicitDefEqProofs only[go_sem,hk];refine zek true (by simp -implicitDefEqProofs only[go_sem,hk,ne_eq,Q2,hm1,hm2,hm3,zcj,zcl,zfg,Kr,Qo,Qh,Qa]) ?_;simp -implicitDefEqProofs only[go_sem,hk,ne_eq,Q2,hm1,hm2,hm3,zcj,zcl,zfg,Kr,Qo,Qh,Qa];refine za8 (by simp -implicitDefEqProofs only[go_sem,hk]) ?_;simp -implicitDefEqProofs only[go_sem,hk];refine zek true (by simp -implicitDefEqProofs only[go_sem,hk,ne_eq,Q2,hm1,hm2,hm3,zcj,zcl,zfg,Kr,Qo,Qh,Qa]) ?_;simp -implicitDefEqProofs only[go_sem,hk,ne_eq,Q2,hm1,hm2,hm3,zcj,zcl,zfg,Kr,Qo,Qh,Qa];refine zek true (by simp -implicitDefEqProofs only[go_sem,hk,ne_eq,Q2,hm1,hm2,hm3,zcj,zcl,zfg,Kr,Qo,Qh,Qa]) ?_;simp -implicitDefEqProofs only[go_sem,hk,ne_eq,Q2,hm1,hm2,hm3,zcj,zcl,zfg,Kr,Qo,Qh,Qa];refine⟨Ys,?_⟩;rw[hp];simp
end Go.Proofs.YtliiapbmkcbfaaaGreat
namespace Go.Proofs.YtliiapbmkcbfaaaGreat
set_option linter.unusedSimpArgs false
set_option linter.unusedVariables false
set_option linter.unusedSectionVars false
set_option maxRecDepth 4000
open Go.RowKit
def Tm.names:Tm->Bool:=Tm.fold fun n xs rs=>if za9 n=true then decide (xs.length=0)else zce n&&decide (xs.length<=4)&&rs.all id
theorem Tm.names_eq (a:Tm):a.names=if za9 a.name=true then decide (a.args.length=0)else zce a.name&&decide (a.args.length<=4)&&a.args.all Tm.names:=by
 unfold Tm.names
 rw[Tm.fold_eq]
 simp only[Yp]
 rfl
theorem zem {α:Type}(xs:List α)(p:α->Bool):(!xs.any fun x=>!p x)=xs.all p:=by
 induction xs with
 | nil=>rfl
 | cons x xs ih=>simp only[List.any_cons,Kt,Bool.not_or,Bool.not_not,ih]
theorem zsr (a:Tm)(H:∀x∈a.args,FC Tryz.prog 226 [tmD x] [bD x.names]):FC Tryz.prog 226 [tmD a] [bD a.names]:=by
 have H1:∀x∈a.args,FC Tryz.prog 267 [tmD x] [bD (!x.names)]:=fun x hx=>by
  simp only[tmD,zaa];refine zak Tryz.call267 Tryz.func267 rfl Ys (zaz Ys) ?_;simp -implicitDefEqProofs only[go_sem,Tryz.results267];refine callF (H x hx) (by simp -implicitDefEqProofs only[go_sem,zaa]) ?_;simp -implicitDefEqProofs only[go_sem,zaa]
 have hN:=a.names_eq
 simp only[tmD,zaa]
 refine zak Tryz.call226 Tryz.func226 rfl Ys (zaz Ys) ?_
 simp -implicitDefEqProofs only[go_sem,Tryz.results226]
 refine callF (zeh a.name) Yr ?_
 simp -implicitDefEqProofs only[go_sem]
 refine⟨fun h=>?_,fun h=>?_⟩
 ·rw[hN,if_pos h]
  congr 1
  rw[Kq];simp
 ·rw[h]at hN;simp only[Qn,if_false]at hN;refine callF (zme a.name) Yr ?_;simp -implicitDefEqProofs only[go_sem];refine⟨fun h1=>⟨fun h2=>?_,fun h2=>?_⟩,fun h1=>?_⟩
  ·refine callF (zhw a.args (fun x=>!x.names) _ [] H1) Yr ?_;simp -implicitDefEqProofs only[go_sem];rw[zem,hN,h1,Qq];rw[show decide (a.args.length<=4)=true by simp at h2⊢;omega];rfl
  ·rw[hN,h1,Qq,show decide (a.args.length<=4)=false by simp at h2⊢;omega];rfl
  ·rw[hN,h1];rfl
theorem zim:∀a:Tm,FC Tryz.prog 226 [tmD a] [bD a.names]:=zb0 fun n xs ih=>zsr (.mk n xs) ih
def Tm.good (a:Tm):Bool:=zdh a&&a.names
theorem zfa (a:Tm)(hs:a.wt<=1099511627776):FC Tryz.prog 177 [tmD a] [bD a.good]:=by
 simp only[tmD,zaa]
 refine zak Tryz.call177 Tryz.func177 rfl Ys (zaz Ys) ?_
 simp -implicitDefEqProofs only[go_sem,Tryz.results177]
 refine callF (zqa a hs) (by simp -implicitDefEqProofs only[go_sem,zaa]) ?_
 simp -implicitDefEqProofs only[go_sem,zaa]
 refine⟨fun h=>?_,fun h=>?_⟩
 ·refine callF (zim a) (by simp -implicitDefEqProofs only[go_sem,zaa]) ?_;simp -implicitDefEqProofs only[go_sem,zaa];rw[Tm.good,h,Qq]
 ·rw[Tm.good,h,Ql]
theorem zqi (a:Tm):FC Tryz.prog 246 [tmD a] [bD (a.name==[61])]:=by
 simp only[tmD,zaa]
 refine zak Tryz.call246 Tryz.func246 rfl Ys (zaz Ys) ?_
 simp -implicitDefEqProofs only[go_sem,Tryz.results246]
def Tm.atomOk (a:Tm):Bool:=if(a.name==[61])=true then decide (a.args.length=2)&&zdh a&&a.args.all Tm.names else zce a.name&&a.good
theorem qef {α:Type}{xs:List α}{p:α->Bool}(h:xs.length=2):xs.all p=(p (xs[0]'Yt)&&p (xs[1]'Yt)):=by
 match xs,h with
 | [a,b],_=>simp
theorem zom (a:Tm)(hs:a.wt<=1099511627776):FC Tryz.prog 207 [tmD a] [bD a.atomOk]:=by
 have hN:a.atomOk=if(a.name==[61])=true then decide (a.args.length=2)&&zdh a&&a.args.all Tm.names else zce a.name&&a.good:=rfl
 simp only[tmD,zaa]
 refine zak Tryz.call207 Tryz.func207 rfl Ys (zaz Ys) ?_
 simp -implicitDefEqProofs only[go_sem,Tryz.results207]
 refine callF (zqi a) (by simp -implicitDefEqProofs only[go_sem,zaa]) ?_
 simp -implicitDefEqProofs only[go_sem,zaa]
 refine⟨fun h=>?_,fun h=>?_⟩
 ·rw[if_pos h]at hN;by_cases h2:a.args.length=2
  ·have k0:0<a.args.length:=by omega
   have k1:1<a.args.length:=by omega
   have e2:((a.args.length:Int)==2)=true:=by simp[h2]
   have l0:(0:Int)<a.args.length:=by omega
   have l1:(1:Int)<a.args.length:=by omega
   rw[qef h2,show decide (a.args.length=2)=true by simp[h2]]at hN;simp only[Qq]at hN;simp only[e2,qcf,zf2,qmj,zex,and_true];refine callF (zqa a hs) (by simp -implicitDefEqProofs only[go_sem,zaa,l0,zac,k0]) ?_;simp -implicitDefEqProofs only[go_sem,zaa,l0,zac,k0];refine⟨fun h3=>?_,fun h3=>?_⟩
   ·refine callF (zim a.args[0]) (by simp -implicitDefEqProofs only[go_sem,zaa,l1,zac,k1]) ?_;simp -implicitDefEqProofs only[go_sem,zaa,l1,zac,k1];refine⟨fun h4=>?_,fun h4=>?_⟩
    ·refine callF (zim a.args[1]) (by simp -implicitDefEqProofs only[go_sem,zaa]) ?_;simp -implicitDefEqProofs only[go_sem,zaa];rw[hN,h3,h4];rfl
    ·rw[hN,h3,h4];rfl
   ·rw[hN,h3];rfl
  ·have e2:((a.args.length:Int)==2)=false:=by simp;omega
   simp only[e2,qcf,qme,zf2,zex,and_true,true_and,qnj];rw[hN,show decide (a.args.length=2)=false by simpa using h2];rfl
 ·rw[h]at hN;simp only[Qn,if_false]at hN;refine callF (zme a.name) Yr ?_;simp -implicitDefEqProofs only[go_sem];refine⟨fun h3=>?_,fun h3=>?_⟩
  ·refine callF (zfa a hs) (by simp -implicitDefEqProofs only[go_sem,zaa]) ?_;simp -implicitDefEqProofs only[go_sem,zaa];rw[hN,h3,Qq]
  ·rw[hN,h3,Ql]
def Tm.none (a:Tm):Bool:=a.name==[]&&decide (a.args.length=0)
theorem zca (a:Tm):FC Tryz.prog 208 [tmD a] [bD a.none]:=by
 simp only[tmD,zaa]
 refine zak Tryz.call208 Tryz.func208 rfl Ys (zaz Ys) ?_
 simp -implicitDefEqProofs only[go_sem,Tryz.results208]
 unfold Tm.none
 refine⟨fun h=>?_,fun h=>?_⟩
 ·rw[h,Qq]
  congr 1
  rw[Kq];simp
 ·rw[h];rfl
def isQ (n:Int):Bool:=n==8||n==9
def zm3 (n:Int):Bool:=n==5||n==6||n==7
theorem zan (n:Int):FC Tryz.prog 130 [iD n] [bD (isQ n)]:=by
 refine zak Tryz.call130 Tryz.func130 rfl Ys (zaz Ys) ?_
 simp -implicitDefEqProofs only[go_sem,Tryz.results130]
 unfold isQ
 refine⟨fun h=>?_,fun h=>?_⟩<;>simp[h]
theorem zgg (n:Int):FC Tryz.prog 206 [iD n] [bD (zm3 n)]:=by
 refine zak Tryz.call206 Tryz.func206 rfl Ys (zaz Ys) ?_
 simp -implicitDefEqProofs only[go_sem,Tryz.results206]
 unfold zm3
 refine⟨fun h=>⟨fun h2=>?_,fun h2=>?_⟩,fun h=>?_⟩<;>simp[*]
end Go.Proofs.YtliiapbmkcbfaaaGreat
namespace Go.Proofs.YtliiapbmkcbfaaaGreat
set_option linter.unusedSimpArgs false
set_option linter.unusedVariables false
set_option linter.unusedSectionVars false
set_option maxRecDepth 4000
open Go.RowKit
def voI:Tm->List Str:=Tm.fold fun n xs rs=>if(decide (xs.length=0)&&zjl (n.getD 0 0))=true then [n]else rs.flatten
theorem zu8 (a:Tm):voI a=if(decide (a.args.length=0)&&zjl (a.name.getD 0 0))=true then [a.name]else (a.args.map voI).flatten:=Tm.fold_eq _ a
def voS:Tm->List Str:=Tm.fold fun n _ rs=>if za9 n=true then [n]else rs.flatten
theorem zq2 (a:Tm):voS a=if za9 a.name=true then [a.name]else (a.args.map voS).flatten:=Tm.fold_eq _ a
def Tm.ne:Tm->Bool:=Tm.fold fun n xs rs=>(!decide (xs.length=0)||decide (0<n.length))&&rs.all id
theorem Tm.ne_eq' (a:Tm):a.ne=((!decide (a.args.length=0)||decide (0<a.name.length))&&a.args.all Tm.ne):=by
 unfold Tm.ne
 rw[Tm.fold_eq]
 simp only[Yp]
 rfl
def zsy (l:List Str)(s:Str):List Str:=if l.contains s=true then l else l++[s]
def zc3 (l:List Str)(ss:List Str):List Str:=ss.foldl zsy l
theorem qht (l:List Str)(s:Str):(zsy l s).length<=l.length+1:=by unfold zsy;split<;>simp
theorem zea:∀(ss:List Str)(l:List Str),(zc3 l ss).length<=l.length+ss.length
 | [],l=>by simp[zc3]
 | s::ss,l=>by have:=zea ss (zsy l s);have:=qht l s;simp only[zc3,Jd,Qb]at *;omega
theorem zha (l a b:List Str):zc3 l (a++b)=zc3 (zc3 l a) b:=List.foldl_append ..
theorem qfn (l:List Str)(s x:Str):x∈zsy l s↔x=s\/x∈l:=by
 unfold zsy
 split
 ·rename_i h;have h:s∈l:=by simpa using h
  exact⟨Or.inr,fun k=>k.elim (fun e=>e▸h) id⟩
 ·simp[or_comm]
theorem zp4:∀(ss l:List Str)(x:Str),x∈zc3 l ss↔x∈ss\/x∈l
 | [],l,x=>by simp[zc3]
 | s::ss,l,x=>by
  show x∈zc3 (zsy l s) ss↔_
  rw[zp4 ss,qfn];simp[or_assoc,or_left_comm,or_comm]
theorem qmi {l:List Str}(h:l.Nodup)(s:Str):(zsy l s).Nodup:=by
 unfold zsy
 split
 ·exact h
 ·rename_i hn;have hn:s∉l:=by simpa using hn
  exact Ka.2 ⟨h,by simp,fun a ha b hb e=>hn (by rw[Kg.1 hb]at e;exact e▸ha)⟩
theorem zvx:∀(ss:List Str){l:List Str},l.Nodup->(zc3 l ss).Nodup
 | [],_,h=>h
 | s::ss,_,h=>zvx ss (qmi h s)
def zbb (l:List Str)(ss:List Str):List Str:=ss.foldl zvo l
theorem zt6 (l:List Str)(s:Str):(zvo l s).length<=l.length+1:=by
 unfold zvo
 split
 ·omega
 ·have:l.length=((l.takeWhile fun x=>Op.bytesLess x s)++l.dropWhile fun x=>Op.bytesLess x s).length:=by rw[List.takeWhile_append_dropWhile]
  simp only[Qh,Qb,Qe]at *;omega
theorem zcs:∀(ss:List Str)(l:List Str),(zbb l ss).length<=l.length+ss.length
 | [],l=>by simp[zbb]
 | s::ss,l=>by have:=zcs ss (zvo l s);have:=zt6 l s;simp only[zbb,Jd,Qb]at *;omega
theorem zh0 (l a b:List Str):zbb l (a++b)=zbb (zbb l a) b:=List.foldl_append ..
theorem zhm:∀(ss l:List Str)(x:Str),x∈zbb l ss↔x∈ss\/x∈l
 | [],l,x=>by simp[zbb]
 | s::ss,l,x=>by
  show x∈zbb (zvo l s) ss↔_
  rw[zhm ss,qix];simp[or_assoc,or_left_comm,or_comm]
theorem zo0:∀(ss:List Str){l:List Str},Srt l->Srt (zbb l ss)
 | [],_,h=>h
 | s::ss,_,h=>zo0 ss (qfr h s)
theorem zwl (ss:List Str):zjp (zc3 [] ss)=zbb [] ss :=
 qn5 (qby (zvx ss Kf)) (zo0 ss List.Pairwise.nil) fun s=>by rw[qcb,zp4,zhm]
theorem qa0 (a:Tm)(h:0<a.name.length):FC Tryz.prog 213 [tmD a] [bD (zjl (a.name.getD 0 0))]:=by
 simp only[tmD,zaa]
 refine zak Tryz.call213 Tryz.func213 rfl Ys (zaz Ys) ?_
 simp -implicitDefEqProofs only[go_sem,Tryz.results213]
 have h0:(0:Int)<a.name.length:=by omega
 simp -implicitDefEqProofs only[go_sem,h0,h]
 refine callF (zqf (a.name.getD 0 0)) Yr ?_
 simp -implicitDefEqProofs only[go_sem]
theorem zc8 {α:Type}(f:α->List Str)(xs:List α)(k:Nat)(h:k<xs.length):((xs.take (k+1)).map f).flatten=((xs.take k).map f).flatten++f xs[k]:=by
 rw[Qj h,Qt,Ke];simp
theorem zrg {α:Type}(f:α->List Str):∀(xs:List α),∀x∈xs,(f x).length<=((xs.map f).flatten).length
 | [],x,h=>by simp at h
 | a::xs,x,h=>by
  rcases Qu.1 h with rfl|h
  ·simp
  ·have:=zrg f xs x h;simp at *;omega
theorem zcc {α:Type}(f:α->List Str)(xs:List α)(k:Nat)(h:k<xs.length):(((xs.take k).map f).flatten).length+(f xs[k]).length<=((xs.map f).flatten).length:=by
 have e:xs=xs.take k++xs[k]::xs.drop (k+1):=by rw[<-Qx h,K0]
 conv=>rhs;rw[e]
 simp only[Qt,Qi,Ke,Q4,Qh];omega
set_option maxHeartbeats 1000000 in
theorem zye (a:Tm)(ha:a.ne=true)(H:∀x∈a.args,∀ys:List Str,ys.length+(voI x).length<=1073741824->GC Tryz.prog 178 [(true,.one (zbm ys)),(false,tmD x)] [.one (zbm (zc3 ys (voI x)))])
  (ys:List Str) (hs:ys.length+(voI a).length<=1073741824) (hl:a.args.length<=1099511627776):GC Tryz.prog 178 [(true,.one (zbm ys)),(false,tmD a)] [.one (zbm (zc3 ys (voI a)))]:=by
 have hv:=zu8 a
 rw[Tm.ne_eq']at ha
 simp only[tmD,zaa]
 refine ztn Tryz.call178 Tryz.func178 rfl Ys (by simp only[Qb,Qe,Tryz.ntmps178];omega) (by simp[zau,T.isPin]) ?_
 simp -implicitDefEqProofs only[go_sem,Tryz.results178]
 by_cases h0:a.args.length=0
 ·have hn:0<a.name.length:=by simp[h0]at ha;omega
  have e0:((a.args.length:Int)==0)=true:=by simp[h0]
  have hV:=qa0 a hn;simp only[tmD,zaa]at hV;simp -implicitDefEqProofs only[go_sem,e0];refine callF (hV) Yr ?_;simp -implicitDefEqProofs only[go_sem];refine⟨fun h1=>?_,fun h1=>?_⟩
  ·rw[h1,show decide (a.args.length=0)=true by simpa using h0,Qq,if_pos rfl]at hv;rw[hv]at hs⊢;refine callF (zbu ys a.name) Yr ?_;simp -implicitDefEqProofs only[go_sem];have hy:ys.length+1<=4294967296:=by simp at hs;omega
   have hy2:ys.length<=4294967295:=by simp at hs;omega
   refine⟨fun h2=>?_,fun h2=>?_⟩
   ·have h2:ys.contains a.name=false:=by simpa using h2
    refine zap Yr ?_;simp -implicitDefEqProofs only[go_sem];refine apD true (by simp -implicitDefEqProofs only[go_sem,hy,hy2,ne_eq,Qa]) ?_;simp -implicitDefEqProofs only[go_sem,hy,hy2,ne_eq,Qa];have e:zc3 ys [a.name]=ys++[a.name]:=by show zsy ys a.name=_;unfold zsy;rw[h2];simp
    exact Or.inl (by rw[e];simp)
   ·have h2:ys.contains a.name=true:=by simpa using h2
    have e:zc3 ys [a.name]=ys:=by show zsy ys a.name=_;unfold zsy;rw[h2];simp
    exact Or.inl (by rw[e])
  ·rw[h1,Q6,if_neg (by simp),Q8.1 h0,Qk,Yd]at hv;have hv:voI a=(a.args.map voI).flatten:=by rw[hv,Q8.1 h0];rfl
   rw[hv]at hs⊢;refine zaf (fun k:Nat=>hd [(0,.one (.ow 0 0)),(27,.one (.rn (tmS a.args))),(28,vI a.args.length),(29,vI k)] [] [(0,⟨true,1,(zc3 ys ((a.args.take k).map voI).flatten).map fun s=>[.str s],0,true⟩)]) (fun k=>k<=a.args.length) (fun k=>a.args.length-k) 0 (zad ?_) (Q1 _) ?_
   ·simp -implicitDefEqProofs only[go_sem];rfl
   ·intro k hk;by_cases hlt:k<a.args.length
    ·have hf:=zcc voI a.args k hlt;have hL:=zea ((a.args.take k).map voI).flatten ys;have hx:=zrg voI a.args _ (Qd hlt);have HC:=H a.args[k] (Qd hlt) (zc3 ys ((a.args.take k).map voI).flatten) Yt;rw[<-zha,<-zc8 voI a.args k hlt]at HC;simp only[tmD,zaa a.args[k]]at HC;simp -implicitDefEqProofs only[go_sem,zac,hlt,zaa a.args[k]];refine zdx [27,28,29] [33,34] [] (HC) Yr Yr Yr Yr ?_;simp -implicitDefEqProofs only[go_sem];refine⟨k+1,hlt,Yt,zch 0 1120 ?_⟩;simp -implicitDefEqProofs only[go_sem];rw[zam Yt]
    ·simp -implicitDefEqProofs only[go_sem,hlt];exact Or.inl (by rw[Qm Yt])
 ·have e0:((a.args.length:Int)==0)=false:=by simp[h0]
  rw[show decide (a.args.length=0)=false by simpa using h0,Ql,if_neg (by simp)]at hv;rw[hv]at hs⊢;simp -implicitDefEqProofs only[go_sem,e0];refine zaf (fun k:Nat=>hd [(0,.one (.ow 0 0)),(27,.one (.rn (tmS a.args))),(28,vI a.args.length),(29,vI k)] [] [(0,⟨true,1,(zc3 ys ((a.args.take k).map voI).flatten).map fun s=>[.str s],0,true⟩)]) (fun k=>k<=a.args.length) (fun k=>a.args.length-k) 0 (zad ?_) (Q1 _) ?_
  ·simp -implicitDefEqProofs only[go_sem];rfl
  ·intro k hk;by_cases hlt:k<a.args.length
   ·have hf:=zcc voI a.args k hlt;have hL:=zea ((a.args.take k).map voI).flatten ys;have hx:=zrg voI a.args _ (Qd hlt);have HC:=H a.args[k] (Qd hlt) (zc3 ys ((a.args.take k).map voI).flatten) Yt;rw[<-zha,<-zc8 voI a.args k hlt]at HC;simp only[tmD,zaa a.args[k]]at HC;simp -implicitDefEqProofs only[go_sem,zac,hlt,zaa a.args[k]];refine zdx [27,28,29] [33,34] [] (HC) Yr Yr Yr Yr ?_;simp -implicitDefEqProofs only[go_sem];refine⟨k+1,hlt,Yt,zch 0 1120 ?_⟩;simp -implicitDefEqProofs only[go_sem];rw[zam Yt]
   ·simp -implicitDefEqProofs only[go_sem,hlt];exact Or.inl (by rw[Qm Yt])
theorem qcq:∀a:Tm,a.ne=true->a.wt<=1099511627776->∀ys:List Str,ys.length+(voI a).length<=1073741824->GC Tryz.prog 178 [(true,.one (zbm ys)),(false,tmD a)] [.one (zbm (zc3 ys (voI a)))] :=
 zb0 fun n xs ih ha hw ys hs=>zye (.mk n xs) ha (fun x hx ys hs=>ih x hx (by rw[Tm.ne_eq',Qc]at ha;exact Qs.1 ha.2 x hx) (by
  have:=Tm.wt_eq (.mk n xs);have:=zay Tm.wt xs x hx
  simp only[Tm.args]at *;omega) ys hs) ys hs (by have:=Tm.wt_eq (.mk n xs);omega)
theorem zko (a:Tm)(ha:a.ne=true)(hw:a.wt<=1099511627776)(hs:(voI a).length<=1073741824):FC Tryz.prog 204 [tmD a] [.one (zbm (zbb [] (voI a)))]:=by
 have HC:=qcq a ha hw [] (by simpa using hs)
 have HS:=zpq (zc3 [] (voI a)) (by have:=zea (voI a) [];simp at this;omega)
 rw[zwl]at HS
 simp only[tmD,zaa]at HC⊢
 refine zdw Tryz.call204 Tryz.func204 rfl Ys (zaz Ys) ?_
 simp -implicitDefEqProofs only[go_sem,Tryz.results204]
 refine zap Yr ?_
 simp -implicitDefEqProofs only[go_sem]
 refine zdx [] [4,5] [] (HC) Yr Yr Yr Yr ?_
 simp -implicitDefEqProofs only[go_sem]
 refine qk6 (HS) (by simp -implicitDefEqProofs only[go_sem,za5]) (by simp -implicitDefEqProofs only[go_sem,za5]) rfl ?_
 simp -implicitDefEqProofs only[go_sem,za5]
theorem qec (a:Tm)(H:∀x∈a.args,∀ys:List Str,ys.length+(voS x).length<=1073741824->GC Tryz.prog 150 [(true,.one (zbm ys)),(false,tmD x)] [.one (zbm (zbb ys (voS x)))])
  (ys:List Str) (hs:ys.length+(voS a).length<=1073741824) (hl:a.args.length<=1099511627776):GC Tryz.prog 150 [(true,.one (zbm ys)),(false,tmD a)] [.one (zbm (zbb ys (voS a)))]:=by
 have hv:=zq2 a
 simp only[tmD,zaa]
 refine ztn Tryz.call150 Tryz.func150 rfl Ys (by simp only[Qb,Qe,Tryz.ntmps150];omega) (by simp[zau,T.isPin]) ?_
 simp -implicitDefEqProofs only[go_sem,Tryz.results150]
 refine callF (zij a.name) Yr ?_
 simp -implicitDefEqProofs only[go_sem]
 refine⟨fun h=>?_,fun h=>?_⟩
 ·rw[if_pos h]at hv;rw[hv]at hs⊢;refine zdx [] [9,11] [] (qcd ys a.name (by simp at hs;omega)) Yr Yr Yr Yr ?_;simp -implicitDefEqProofs only[go_sem];exact Or.inl rfl
 ·rw[h,if_neg (by simp)]at hv;rw[hv]at hs⊢;refine zaf (fun k:Nat=>hd [(0,.one (.ow 0 0)),(3,.one (.bx 3 0)),(5,vI k)] [(3,[.t (.str a.name),.rn (tmS a.args)])] [(0,⟨true,1,(zbb ys ((a.args.take k).map voS).flatten).map fun s=>[.str s],0,true⟩)]) (fun k=>k<=a.args.length) (fun k=>a.args.length-k) 0 (zad ?_) (Q1 _) ?_
  ·simp -implicitDefEqProofs only[go_sem];rfl
  ·intro k hk;by_cases hlt:k<a.args.length
   ·have hf:=zcc voS a.args k hlt;have hL:=zcs ((a.args.take k).map voS).flatten ys;have HC:=H a.args[k] (Qd hlt) (zbb ys ((a.args.take k).map voS).flatten) Yt;rw[<-zh0,<-zc8 voS a.args k hlt]at HC;simp only[tmD,zaa a.args[k]]at HC;simp -implicitDefEqProofs only[go_sem,zac,hlt,zaa a.args[k]];refine zdx [3,5] [20,25] [] (HC) Yr Yr Yr Yr ?_;simp -implicitDefEqProofs only[go_sem];refine⟨k+1,hlt,Yt,zch 0 832 ?_⟩;simp -implicitDefEqProofs only[go_sem];rw[zam Yt]
   ·simp -implicitDefEqProofs only[go_sem,hlt];exact Or.inl (by rw[Qm Yt])
end Go.Proofs.YtliiapbmkcbfaaaGreat
namespace Go.Proofs.YtliiapbmkcbfaaaGreat
set_option linter.unusedSimpArgs false
set_option linter.unusedVariables false
set_option linter.unusedSectionVars false
set_option maxRecDepth 4000
open Go.RowKit
def Fm.nodes:Fm->Nat:=Fm.fold fun _ _ _ _ rs=>1+rs.sum
theorem Fm.nodes_eq (a:Fm):a.nodes=1+(a.parts.map Fm.nodes).sum:=Fm.fold_eq _ a
theorem zfr:∀a:Fm,a.nodes<=1+a.wt:=by
 refine zb7 fun o a v xs ih=>?_
 rw[Fm.nodes_eq,Fm.wt_eq]
 show 1+(xs.map Fm.nodes).sum<=1+(a.wt+v.length+xs.length+(xs.map Fm.wt).sum)
 have:(xs.map Fm.nodes).sum<=xs.length+(xs.map Fm.wt).sum:=by
  induction xs with
  | nil=>simp
  | cons x xs ih2 =>
   have h1:=ih x (by simp);have h2:=ih2 fun y hy=>ih y (by simp[hy]);simp only[Qi,Qz,Qb];omega
 omega
def zfn:Fm->Int:=Fm.fold fun _ _ _ _ rs=>szL 40 1 rs
theorem zut (a:Fm):zfn a=szL 40 1 (a.parts.map zfn):=Fm.fold_eq _ a
theorem zl1:∀a:Fm,1<=zfn a/\zfn a<=a.nodes/\(zfn a<=40->zfn a=a.nodes):=by
 refine zb7 fun o a v xs ih=>?_
 rw[zut,Fm.nodes_eq]
 show 1<=szL 40 1 (xs.map zfn)/\szL 40 1 (xs.map zfn)<=((1+(xs.map Fm.nodes).sum:Nat):Int)/\_
 obtain⟨k1,k2,k3⟩:=zjy zfn Fm.nodes 40 xs 1 Yt ih
 refine⟨k2,Yt,fun h=>?_⟩
 have:=k3 h
 show szL 40 1 (xs.map zfn)=_
 rw[this];show _=((1+(xs.map Fm.nodes).sum:Nat):Int);omega
theorem qhw (a:Fm):decide (zfn a<=40)=decide (a.nodes<=40):=by
 obtain⟨h1,h2,h3⟩:=zl1 a
 rw[Ju]
 exact⟨fun h=>by have:=h3 h;omega,fun h=>by omega⟩
theorem zb8 {a x:Fm}(h:x∈a.parts):x.wt<=a.wt:=by
 have:=Fm.wt_eq a
 have:=zay Fm.wt a.parts x h
 omega
theorem zkm {a x:Tm}(h:x∈a.args):x.wt<=a.wt:=by
 have:=Tm.wt_eq a
 have:=zay Tm.wt a.args x h
 omega
theorem zii (a:Fm):a.atom.wt<=a.wt:=by have:=Fm.wt_eq a;omega
set_option maxHeartbeats 400000 in
theorem qcn (a:Fm)(hs:a.wt<=1099511627776)(H:∀x∈a.parts,FC Tryz.prog 151 [fmD x] [iD (zfn x)]):FC Tryz.prog 151 [fmD a] [iD (zfn a)]:=by
 have hl:a.parts.length<=9223372036854775807:=by rw[Fm.wt_eq]at hs;omega
 have hn:=zfr a
 have hN:=a.nodes_eq
 simp only[fmD,zab]
 refine zak Tryz.call151 Tryz.func151 rfl Ys (zaz Ys) ?_
 simp -implicitDefEqProofs only[go_sem,Tryz.results151]
 refine zaf (fun p:Nat×Int=>hd [(3,vI p.2),(7,vT (fmS a.parts)),(8,vI a.parts.length),(9,vI p.1)] [] []) (fun p=>p.1<=a.parts.length/\zfn a=szL 40 p.2 ((a.parts.drop p.1).map zfn)/\1<=p.2/\p.2+zx7 Fm.nodes a.parts p.1<=a.nodes) (fun p=>a.parts.length-p.1) (0,1) (zad ?_) ?_ ?_
 ·simp -implicitDefEqProofs only[go_sem]
 ·exact⟨by simp,by rw[zut];rfl,Yt,by rw[zdo];omega⟩
 ·intro ⟨k,n⟩ ⟨hk,hr,h1,h2⟩;simp only at hk hr h1 h2;by_cases hlt:k<a.parts.length
  ·have hd:=zfs Fm.nodes a.parts k hlt;obtain⟨s1,s2,s3⟩:=zl1 a.parts[k];rw[Qx hlt,Qi,szL]at hr;simp -implicitDefEqProofs only[go_sem,zac,hlt,zab];refine⟨fun h=>?_,fun h=>?_⟩
   ·rw[hr,if_pos (by simpa using h)]
   ·refine callF (H a.parts[k] (Qd hlt)) (by simp -implicitDefEqProofs only[go_sem,zab]) ?_;simp -implicitDefEqProofs only[go_sem,zab];rw[if_neg (by simpa using h)]at hr;exact⟨(k+1,n+zfn a.parts[k]),⟨hlt,hr,by simp only;omega,by simp only;omega⟩,by simp only;omega,zad (by simp -implicitDefEqProofs only[go_sem];rw[zam Yt,zbn Yt Yt];exact⟨rfl,rfl⟩)⟩
  ·simp -implicitDefEqProofs only[go_sem,hlt];rw[hr,Q0 Yt];rfl
theorem qhu:∀a:Fm,a.wt<=1099511627776->FC Tryz.prog 151 [fmD a] [iD (zfn a)] :=
 zb7 fun o a v xs ih hs=>qcn (.mk o a v xs) hs fun x hx=>ih x hx (Q9 (zb8 (a:=.mk o a v xs) hx) hs)
def mnL (zuf:Int):Int->List (Int->Int)->Int
 | n,[]=>n
 | n,r::rs=>if n<=zuf then mnL zuf (n+r (zuf-n)) rs else n
theorem zj0 {α:Type}(f:α->Int->Int)(g:α->Nat)(zuf:Int):∀(xs:List α)(n:Int),0<=n->(∀x∈xs,∀m,0<=m->1<=f x m/\f x m<=g x/\(f x m<=m->f x m=g x))->mnL zuf n (xs.map f)<=n+(xs.map g).sum/\n<=mnL zuf n (xs.map f)/\(mnL zuf n (xs.map f)<=zuf->mnL zuf n (xs.map f)=n+(xs.map g).sum)
 | [],n,_,_=>by simp[mnL]
 | x::xs,n,hn,h=>by
  simp only[Qi,mnL,Qz];split
  ·obtain⟨h1,h2,h3⟩:=h x (by simp) (zuf-n) Yt;obtain⟨k1,k2,k3⟩:=zj0 f g zuf xs (n+f x (zuf-n)) Yt fun y hy=>h y (by simp[hy]);refine⟨Yt,Yt,fun hh=>?_⟩;have:=k3 hh;have:f x (zuf-n)=g x:=h3 Yt;omega
  ·refine⟨Yt,Yt,fun hh=>by omega⟩
def zfc:Tm->Int->Int:=Tm.fold fun _ _ rs m=>mnL m 1 rs
theorem zuk (a:Tm)(m:Int):zfc a m=mnL m 1 (a.args.map zfc):=congrFun (Tm.fold_eq _ a) m
theorem zl2:∀(a:Tm)(m:Int),0<=m->1<=zfc a m/\zfc a m<=a.nodes/\(zfc a m<=m->zfc a m=a.nodes):=by
 refine zb0 fun b0 xs ih m hm=>?_
 rw[zuk,Tm.nodes_eq]
 show 1<=mnL m 1 (xs.map zfc)/\mnL m 1 (xs.map zfc)<=((1+(xs.map Tm.nodes).sum:Nat):Int)/\(mnL m 1 (xs.map zfc)<=m->mnL m 1 (xs.map zfc)=((1+(xs.map Tm.nodes).sum:Nat):Int))
 obtain⟨k1,k2,k3⟩:=zj0 zfc Tm.nodes m xs 1 Yt ih
 refine⟨k2,Yt,fun h=>?_⟩
 have:=k3 h
 omega
theorem qfj (a:Tm)(m:Nat):decide (zfc a m<=m)=decide (a.nodes<=m):=by
 obtain⟨h1,h2,h3⟩:=zl2 a m Yt
 rw[Ju]
 exact⟨fun h=>by have:=h3 h;omega,fun h=>by omega⟩
set_option maxHeartbeats 400000 in
theorem zy1 (a:Tm)(hs:a.wt<=1099511627776)(H:∀x∈a.args,∀m:Int,0<=m->m<=1099511627776->FC Tryz.prog 262 [tmD x,iD m] [iD (zfc x m)])(m:Int)(h0:0<=m)(h1:m<=1099511627776):FC Tryz.prog 262 [tmD a,iD m] [iD (zfc a m)]:=by
 have hl:a.args.length<=9223372036854775807:=by rw[Tm.wt_eq]at hs;omega
 have hn:=ze3 a
 have hN:=a.nodes_eq
 simp only[tmD,zaa]
 refine zak Tryz.call262 Tryz.func262 rfl Ys (zaz Ys) ?_
 simp -implicitDefEqProofs only[go_sem,Tryz.results262]
 refine zaf (fun p:Nat×Int=>hd [(1,vI m),(2,.one (.bx 2 0)),(5,vI p.2),(6,vI p.1)] [(2,[.t (.str a.name),.t (tmS a.args)])] []) (fun p=>p.1<=a.args.length/\zfc a m=mnL m p.2 ((a.args.drop p.1).map zfc)/\1<=p.2/\p.2+zx7 Tm.nodes a.args p.1<=a.nodes) (fun p=>a.args.length-p.1) (0,1) (zad ?_) ?_ ?_
 ·simp -implicitDefEqProofs only[go_sem]
 ·exact⟨by simp,by rw[zuk];rfl,Yt,by rw[zdo];omega⟩
 ·intro ⟨k,n⟩ ⟨hk,hr,h2,h3⟩;simp only at hk hr h2 h3;by_cases hlt:k<a.args.length
  ·have hd:=zfs Tm.nodes a.args k hlt;rw[Qx hlt,Qi,mnL]at hr;simp -implicitDefEqProofs only[go_sem,zac,hlt,zaa];refine⟨fun h=>?_,fun h=>?_⟩
   ·have hle:n<=m:=by simpa using h
    obtain⟨s1,s2,s3⟩:=zl2 a.args[k] (m-n) Yt;rw[zbn (n:=m-n) Yt Yt];refine callF (H a.args[k] (Qd hlt) (m-n) Yt Yt) (by simp -implicitDefEqProofs only[go_sem,zaa]) ?_;simp -implicitDefEqProofs only[go_sem,zaa];rw[if_pos hle]at hr;exact⟨(k+1,n+zfc a.args[k] (m-n)),⟨hlt,hr,by simp only;omega,by simp only;omega⟩,by simp only;omega,zad (by simp -implicitDefEqProofs only[go_sem];rw[zam Yt,zbn Yt Yt];exact⟨rfl,rfl⟩)⟩
   ·rw[hr,if_neg (by simpa using h)]
  ·simp -implicitDefEqProofs only[go_sem,hlt];rw[hr,Q0 Yt];rfl
theorem qf6:∀a:Tm,a.wt<=1099511627776->∀m:Int,0<=m->m<=1099511627776->FC Tryz.prog 262 [tmD a,iD m] [iD (zfc a m)] :=
 zb0 fun b0 xs ih hs=>zy1 (.mk b0 xs) hs fun x hx=>ih x hx (Q9 (zkm (a:=.mk b0 xs) hx) hs)
def ze6:Fm->Int->Int:=Fm.fold fun _ _ _ _ rs m=>mnL m 1 rs
theorem zv5 (a:Fm)(m:Int):ze6 a m=mnL m 1 (a.parts.map ze6):=congrFun (Fm.fold_eq _ a) m
theorem zma:∀(a:Fm)(m:Int),0<=m->1<=ze6 a m/\ze6 a m<=a.nodes/\(ze6 a m<=m->ze6 a m=a.nodes):=by
 refine zb7 fun b0 b1 b2 xs ih m hm=>?_
 rw[zv5,Fm.nodes_eq]
 show 1<=mnL m 1 (xs.map ze6)/\mnL m 1 (xs.map ze6)<=((1+(xs.map Fm.nodes).sum:Nat):Int)/\(mnL m 1 (xs.map ze6)<=m->mnL m 1 (xs.map ze6)=((1+(xs.map Fm.nodes).sum:Nat):Int))
 obtain⟨k1,k2,k3⟩:=zj0 ze6 Fm.nodes m xs 1 Yt ih
 refine⟨k2,Yt,fun h=>?_⟩
 have:=k3 h
 omega
theorem qjj (a:Fm)(m:Nat):decide (ze6 a m<=m)=decide (a.nodes<=m):=by
 obtain⟨h1,h2,h3⟩:=zma a m Yt
 rw[Ju]
 exact⟨fun h=>by have:=h3 h;omega,fun h=>by omega⟩
set_option maxHeartbeats 400000 in
theorem zz9 (a:Fm)(hs:a.wt<=1099511627776)(H:∀x∈a.parts,∀m:Int,0<=m->m<=1099511627776->FC Tryz.prog 172 [fmD x,iD m] [iD (ze6 x m)])(m:Int)(h0:0<=m)(h1:m<=1099511627776):FC Tryz.prog 172 [fmD a,iD m] [iD (ze6 a m)]:=by
 have hl:a.parts.length<=9223372036854775807:=by rw[Fm.wt_eq]at hs;omega
 have hn:=zfr a
 have hN:=a.nodes_eq
 simp only[fmD,zab]
 refine zak Tryz.call172 Tryz.func172 rfl Ys (zaz Ys) ?_
 simp -implicitDefEqProofs only[go_sem,Tryz.results172]
 refine zaf (fun p:Nat×Int=>hd [(1,vI m),(2,.one (.bx 2 0)),(5,vI p.2),(6,vI p.1)] [(2,[.t (.int .i64 a.op),.t (.str a.atom.name),.t (tmS a.atom.args),.t (.str a.var),.t (fmS a.parts)])] []) (fun p=>p.1<=a.parts.length/\ze6 a m=mnL m p.2 ((a.parts.drop p.1).map ze6)/\1<=p.2/\p.2+zx7 Fm.nodes a.parts p.1<=a.nodes) (fun p=>a.parts.length-p.1) (0,1) (zad ?_) ?_ ?_
 ·simp -implicitDefEqProofs only[go_sem]
 ·exact⟨by simp,by rw[zv5];rfl,Yt,by rw[zdo];omega⟩
 ·intro ⟨k,n⟩ ⟨hk,hr,h2,h3⟩;simp only at hk hr h2 h3;by_cases hlt:k<a.parts.length
  ·have hd:=zfs Fm.nodes a.parts k hlt;rw[Qx hlt,Qi,mnL]at hr;simp -implicitDefEqProofs only[go_sem,zac,hlt,zab];refine⟨fun h=>?_,fun h=>?_⟩
   ·have hle:n<=m:=by simpa using h
    obtain⟨s1,s2,s3⟩:=zma a.parts[k] (m-n) Yt;rw[zbn (n:=m-n) Yt Yt];refine callF (H a.parts[k] (Qd hlt) (m-n) Yt Yt) (by simp -implicitDefEqProofs only[go_sem,zab]) ?_;simp -implicitDefEqProofs only[go_sem,zab];rw[if_pos hle]at hr;exact⟨(k+1,n+ze6 a.parts[k] (m-n)),⟨hlt,hr,by simp only;omega,by simp only;omega⟩,by simp only;omega,zad (by simp -implicitDefEqProofs only[go_sem];rw[zam Yt,zbn Yt Yt];exact⟨rfl,rfl⟩)⟩
   ·rw[hr,if_neg (by simpa using h)]
  ·simp -implicitDefEqProofs only[go_sem,hlt];rw[hr,Q0 Yt];rfl
theorem qf3:∀a:Fm,a.wt<=1099511627776->∀m:Int,0<=m->m<=1099511627776->FC Tryz.prog 172 [fmD a,iD m] [iD (ze6 a m)] :=
 zb7 fun b0 b1 b2 xs ih hs=>zz9 (.mk b0 b1 b2 xs) hs fun x hx=>ih x hx (Q9 (zb8 (a:=.mk b0 b1 b2 xs) hx) hs)
end Go.Proofs.YtliiapbmkcbfaaaGreat
namespace Go.Proofs.YtliiapbmkcbfaaaGreat
set_option linter.unusedSimpArgs false
set_option linter.unusedVariables false
set_option linter.unusedSectionVars false
set_option maxRecDepth 4000
open Go.RowKit
set_option maxHeartbeats 400000 in
theorem zyc (a:Tm)(hs:a.wt<=1099511627776)(H:∀x∈a.args,FC Tryz.prog 263 [tmD x] [iD x.depth]):FC Tryz.prog 263 [tmD a] [iD a.depth]:=by
 have hl:a.args.length<=9223372036854775807:=by rw[Tm.wt_eq]at hs;omega
 have hn:=ze3 a
 have hdn:=zke a
 have hD:=a.depth_eq
 simp only[tmD,zaa]
 refine zak Tryz.call263 Tryz.func263 rfl Ys (zaz Ys) ?_
 simp -implicitDefEqProofs only[go_sem,Tryz.results263]
 refine zaf (fun p:Nat×Nat=>hd [(1,.one (.bx 1 0)),(3,vI p.2),(4,vI p.1)] [(1,[.t (.str a.name),.t (tmS a.args)])] []) (fun p=>p.1<=a.args.length/\a.depth=((a.args.drop p.1).map Tm.depth).foldl max p.2+1) (fun p=>a.args.length-p.1) (0,0) (zad ?_) ?_ ?_
 ·simp -implicitDefEqProofs only[go_sem]
 ·exact⟨by simp,hD⟩
 ·intro ⟨k,n⟩ ⟨hk,hr⟩;simp only at hk hr;by_cases hlt:k<a.args.length
  ·rw[Qx hlt,Qi,Jd]at hr;simp -implicitDefEqProofs only[go_sem,zac,hlt,zaa];refine callF (H a.args[k] (Qd hlt)) (by simp -implicitDefEqProofs only[go_sem,zaa]) ?_;simp -implicitDefEqProofs only[go_sem,zaa];refine callF (qi7 n a.args[k].depth) (by simp -implicitDefEqProofs only[go_sem,zaa]) ?_;simp -implicitDefEqProofs only[go_sem,zaa];exact⟨(k+1,max n a.args[k].depth),⟨hlt,hr⟩,by simp only;omega,zad (by simp -implicitDefEqProofs only[go_sem];rw[zam Yt];exact⟨by congr 1;omega,rfl⟩)⟩
  ·simp -implicitDefEqProofs only[go_sem,hlt];rw[Q0 Yt]at hr;simp only[Qk,Yj]at hr;rw[hr,zam Yt]
theorem qe3:∀a:Tm,a.wt<=1099511627776->FC Tryz.prog 263 [tmD a] [iD a.depth] :=
 zb0 fun n xs ih hs=>zyc (.mk n xs) hs fun x hx=>ih x hx (Q9 (zkm (a:=.mk n xs) hx) hs)
theorem zva (a:Tm)(hs:a.wt<=1099511627776):FC Tryz.prog 218 [tmD a] [bD (zdh a)]:=by
 simp only[tmD,zaa]
 refine zak Tryz.call218 Tryz.func218 rfl Ys (zaz Ys) ?_
 simp -implicitDefEqProofs only[go_sem,Tryz.results218]
 refine callF (qf6 a hs 30 Yt Yt) (by simp -implicitDefEqProofs only[go_sem,zaa]) ?_
 simp -implicitDefEqProofs only[go_sem,zaa]
 rw[show decide (zfc a 30<=30)=decide (a.nodes<=30) from qfj a 30]
 refine⟨fun h=>?_,fun h=>?_⟩
 ·refine callF (qe3 a hs) (by simp -implicitDefEqProofs only[go_sem,zaa]) ?_;simp -implicitDefEqProofs only[go_sem,zaa];rw[zdh,h,Qq]
  congr 1
  rw[Ju];omega
 ·rw[zdh,h];rfl
theorem zw0 (a:Tm)(H:∀x∈a.args,FC Tryz.prog 219 [tmD x] [bD x.names]):FC Tryz.prog 219 [tmD a] [bD a.names]:=by
 refine zfp (fun hw=>?_) Tryz.call219
 have hl:a.args.length<=9223372036854775807:=by simp only[tmD,zaa]at hw;simp[zlj,wfT,zue]at hw;exact hw.2.1
 have hN:=a.names_eq
 simp only[tmD,zaa]
 refine zak Tryz.call219 Tryz.func219 rfl Ys (zaz Ys) ?_
 simp -implicitDefEqProofs only[go_sem,Tryz.results219]
 refine callF (zij a.name) Yr ?_
 simp -implicitDefEqProofs only[go_sem]
 refine⟨fun h=>?_,fun h=>?_⟩
 ·rw[hN,if_pos h]
  congr 1
  rw[Kq];simp
 ·rw[h]at hN;simp only[Qn,if_false]at hN;refine callF (zmv a.name) Yr ?_;simp -implicitDefEqProofs only[go_sem];by_cases hy:zce a.name=true
  ·by_cases h4:a.args.length<=4
   ·rw[hy,show decide (a.args.length<=4)=true by simpa using h4,Qq,Qq]at hN;refine⟨fun _=>⟨fun h=>by simp at h;omega,fun _=>?_⟩,fun h=>by simp[hy]at h⟩;refine zaf (fun k:Nat=>hd [(1,.one (.bx 1 0)),(3,vI k)] [(1,[.t (.str a.name),.t (tmS a.args)])] []) (fun k=>k<=a.args.length/\a.names=(a.args.drop k).all Tm.names) (fun k=>a.args.length-k) 0 (zad ?_) ?_ ?_
    ·simp -implicitDefEqProofs only[go_sem]
    ·exact⟨by simp,hN⟩
    ·intro k ⟨hk,hr⟩;by_cases hlt:k<a.args.length
     ·rw[Qx hlt,Kt]at hr;simp -implicitDefEqProofs only[go_sem,zac,hlt,zaa];refine callF (H a.args[k] (Qd hlt)) (by simp -implicitDefEqProofs only[go_sem,zaa]) ?_;simp -implicitDefEqProofs only[go_sem,zaa];refine⟨fun h=>?_,fun h=>⟨k+1,⟨hlt,?_⟩,Yt,zad (by simp -implicitDefEqProofs only[go_sem];rw[zam Yt])⟩⟩
      ·rw[hr,show a.args[k].names=false by simpa using h];rfl
      ·rw[hr,show a.args[k].names=true by simpa using h];rfl
     ·simp -implicitDefEqProofs only[go_sem,hlt];rw[hr,Q0 Yt];rfl
   ·refine⟨fun _=>⟨fun _=>?_,fun h=>by simp at h;omega⟩,fun h=>by simp[hy]at h⟩;rw[hN,show decide (a.args.length<=4)=false by simpa using h4,Q6];rfl
  ·have hy':zce a.name=false:=by simpa using hy
   refine⟨fun h=>by simp[hy']at h,fun _=>?_⟩;rw[hN,hy'];rfl
theorem zkf:∀a:Tm,FC Tryz.prog 219 [tmD a] [bD a.names]:=zb0 fun n xs ih=>zw0 (.mk n xs) ih
theorem zjt (a:Tm)(hs:a.wt<=1099511627776):FC Tryz.prog 166 [tmD a] [bD a.good]:=by
 simp only[tmD,zaa]
 refine zak Tryz.call166 Tryz.func166 rfl Ys (zaz Ys) ?_
 simp -implicitDefEqProofs only[go_sem,Tryz.results166]
 refine callF (zva a hs) (by simp -implicitDefEqProofs only[go_sem,zaa]) ?_
 simp -implicitDefEqProofs only[go_sem,zaa]
 refine⟨fun h=>?_,fun h=>?_⟩
 ·refine callF (zkf a) (by simp -implicitDefEqProofs only[go_sem,zaa]) ?_;simp -implicitDefEqProofs only[go_sem,zaa];rw[Tm.good,h,Qq]
 ·rw[Tm.good,h,Ql]
theorem zv0 (a:Tm)(hs:a.wt<=1099511627776):FC Tryz.prog 170 [tmD a] [bD a.atomOk]:=by
 have hN:a.atomOk=if(a.name==[61])=true then decide (a.args.length=2)&&zdh a&&a.args.all Tm.names else zce a.name&&a.good:=rfl
 simp only[tmD,zaa]
 refine zak Tryz.call170 Tryz.func170 rfl Ys (zaz Ys) ?_
 simp -implicitDefEqProofs only[go_sem,Tryz.results170]
 refine⟨fun h=>?_,fun h=>?_⟩
 ·rw[if_pos h]at hN;by_cases h2:a.args.length=2
  ·have k0:0<a.args.length:=by omega
   have k1:1<a.args.length:=by omega
   have e2:((a.args.length:Int)==2)=true:=by simp[h2]
   have l0:(0:Int)<a.args.length:=by omega
   have l1:(1:Int)<a.args.length:=by omega
   rw[qef h2,show decide (a.args.length=2)=true by simp[h2]]at hN;simp only[Qq]at hN;simp only[e2,qcf,zf2,qmj,zex,and_true];refine callF (zva a hs) (by simp -implicitDefEqProofs only[go_sem,zaa,l0,zac,k0]) ?_;simp -implicitDefEqProofs only[go_sem,zaa,l0,zac,k0];refine⟨fun h3=>?_,fun h3=>?_⟩
   ·refine callF (zkf a.args[0]) (by simp -implicitDefEqProofs only[go_sem,zaa,l1,zac,k1]) ?_;simp -implicitDefEqProofs only[go_sem,zaa,l1,zac,k1];refine⟨fun h4=>?_,fun h4=>?_⟩
    ·refine callF (zkf a.args[1]) (by simp -implicitDefEqProofs only[go_sem,zaa]) ?_;simp -implicitDefEqProofs only[go_sem,zaa];rw[hN,h3,h4];rfl
    ·rw[hN,h3,h4];rfl
   ·rw[hN,h3];rfl
  ·have e2:((a.args.length:Int)==2)=false:=by simp;omega
   simp only[e2,qcf,qme,zf2,zex,and_true,true_and,qnj];rw[hN,show decide (a.args.length=2)=false by simpa using h2];rfl
 ·rw[h]at hN;simp only[Qn,if_false]at hN;refine callF (zmv a.name) Yr ?_;simp -implicitDefEqProofs only[go_sem];refine⟨fun h3=>?_,fun h3=>?_⟩
  ·refine callF (zjt a hs) (by simp -implicitDefEqProofs only[go_sem,zaa]) ?_;simp -implicitDefEqProofs only[go_sem,zaa];rw[hN,h3,Qq]
  ·rw[hN,h3,Ql]
theorem zee (a:Tm):FC Tryz.prog 264 [tmD a] [bD a.none]:=by
 simp only[tmD,zaa]
 refine zak Tryz.call264 Tryz.func264 rfl Ys (zaz Ys) ?_
 simp -implicitDefEqProofs only[go_sem,Tryz.results264]
 unfold Tm.none
 refine⟨fun h=>?_,fun h=>?_⟩
 ·rw[h,Qq]
  congr 1
  rw[Kq];simp
 ·rw[h];rfl
def Fm.here (f:Fm):Bool :=
 if(f.op==1||f.op==2)=true then decide (f.parts.length=0)&&f.atom.none&&(f.var==[])
 else if(f.op==3)=true then decide (f.parts.length=0)&&f.atom.atomOk&&(f.var==[])
 else if(f.op==4)=true then decide (f.parts.length=1)&&f.atom.none&&(f.var==[])
 else if zm3 f.op=true then decide (f.parts.length=2)&&f.atom.none&&(f.var==[])
 else if isQ f.op=true then decide (f.parts.length=1)&&f.atom.none&&za9 f.var
 else false
theorem zos (n m:Nat):((n:Int)==(m:Int))=decide (n=m):=by
 rw[Kq];simp only[Ko,Qr];omega
theorem zrt (n m:Nat):((n:Int) != (m:Int))=!decide (n=m):=by
 rw[bne,zos]
theorem zv3 (o:Int):o=1\/o=2\/o=3\/o=4\/o=5\/o=6\/o=7\/o=8\/o=9\/(o≠1/\o≠2/\o≠3/\o≠4/\o≠5/\o≠6/\o≠7/\o≠8/\o≠9):=by omega
set_option maxHeartbeats 4000000 in
theorem qiu (f:Fm)(hs:f.wt<=1099511627776):FC Tryz.prog 222 [fmD f] [bD f.here]:=by
 obtain⟨o,a,v,ps⟩:=f
 have ha:a.wt<=1099511627776:=Q9 (zii (.mk o a v ps)) hs
 have e0:((ps.length:Int)==0)=decide (ps.length=0):=zos _ 0
 have e1:((ps.length:Int)==1)=decide (ps.length=1):=zos _ 1
 have e2:((ps.length:Int)==2)=decide (ps.length=2):=zos _ 2
 rcases zv3 o with rfl|rfl|rfl|rfl|rfl|rfl|rfl|rfl|rfl|⟨n1,n2,n3,n4,n5,n6,n7,n8,n9⟩
 ·have hN:Fm.here (.mk 1 a v ps)=(decide (ps.length=0)&&a.none&&(v==[])):=rfl;simp only[fmD,zab,Fm.op,Fm.atom,Fm.var,Fm.parts];refine zak Tryz.call222 Tryz.func222 rfl Ys (zaz Ys) ?_;simp -implicitDefEqProofs only[go_sem,Tryz.results222];simp only[e0];refine⟨fun h=>?_,fun h=>?_⟩
  ·refine callF (zee a) (by simp -implicitDefEqProofs only[go_sem,zaa]) ?_;simp -implicitDefEqProofs only[go_sem,zaa];refine⟨fun h1=>?_,fun h1=>?_⟩
   ·rw[hN,h,h1];rfl
   ·rw[hN,h,h1];rfl
  ·rw[hN,h];rfl
 ·have hN:Fm.here (.mk 2 a v ps)=(decide (ps.length=0)&&a.none&&(v==[])):=rfl;simp only[fmD,zab,Fm.op,Fm.atom,Fm.var,Fm.parts];refine zak Tryz.call222 Tryz.func222 rfl Ys (zaz Ys) ?_;simp -implicitDefEqProofs only[go_sem,Tryz.results222];simp only[e0];refine⟨fun h=>?_,fun h=>?_⟩
  ·refine callF (zee a) (by simp -implicitDefEqProofs only[go_sem,zaa]) ?_;simp -implicitDefEqProofs only[go_sem,zaa];refine⟨fun h1=>?_,fun h1=>?_⟩
   ·rw[hN,h,h1];rfl
   ·rw[hN,h,h1];rfl
  ·rw[hN,h];rfl
 ·have hN:Fm.here (.mk 3 a v ps)=(decide (ps.length=0)&&a.atomOk&&(v==[])):=rfl;simp only[fmD,zab,Fm.op,Fm.atom,Fm.var,Fm.parts];refine zak Tryz.call222 Tryz.func222 rfl Ys (zaz Ys) ?_;simp -implicitDefEqProofs only[go_sem,Tryz.results222];simp only[e0];refine⟨fun h=>?_,fun h=>?_⟩
  ·refine callF (zv0 a ha) (by simp -implicitDefEqProofs only[go_sem,zaa]) ?_;simp -implicitDefEqProofs only[go_sem,zaa];refine⟨fun h1=>?_,fun h1=>?_⟩
   ·rw[hN,h,h1];rfl
   ·rw[hN,h,h1];rfl
  ·rw[hN,h];rfl
 ·have hN:Fm.here (.mk 4 a v ps)=(decide (ps.length=1)&&a.none&&(v==[])):=rfl;simp only[fmD,zab,Fm.op,Fm.atom,Fm.var,Fm.parts];refine zak Tryz.call222 Tryz.func222 rfl Ys (zaz Ys) ?_;simp -implicitDefEqProofs only[go_sem,Tryz.results222];simp only[e1];refine⟨fun h=>?_,fun h=>?_⟩
  ·refine callF (zee a) (by simp -implicitDefEqProofs only[go_sem,zaa]) ?_;simp -implicitDefEqProofs only[go_sem,zaa];refine⟨fun h1=>?_,fun h1=>?_⟩
   ·rw[hN,h,h1];rfl
   ·rw[hN,h,h1];rfl
  ·rw[hN,h];rfl
 ·have hN:Fm.here (.mk 5 a v ps)=(decide (ps.length=2)&&a.none&&(v==[])):=rfl;simp only[fmD,zab,Fm.op,Fm.atom,Fm.var,Fm.parts];refine zak Tryz.call222 Tryz.func222 rfl Ys (zaz Ys) ?_;simp -implicitDefEqProofs only[go_sem,Tryz.results222];simp only[e2];refine⟨fun h=>?_,fun h=>?_⟩
  ·refine callF (zee a) (by simp -implicitDefEqProofs only[go_sem,zaa]) ?_;simp -implicitDefEqProofs only[go_sem,zaa];refine⟨fun h1=>?_,fun h1=>?_⟩
   ·rw[hN,h,h1];rfl
   ·rw[hN,h,h1];rfl
  ·rw[hN,h];rfl
 ·have hN:Fm.here (.mk 6 a v ps)=(decide (ps.length=2)&&a.none&&(v==[])):=rfl;simp only[fmD,zab,Fm.op,Fm.atom,Fm.var,Fm.parts];refine zak Tryz.call222 Tryz.func222 rfl Ys (zaz Ys) ?_;simp -implicitDefEqProofs only[go_sem,Tryz.results222];simp only[e2];refine⟨fun h=>?_,fun h=>?_⟩
  ·refine callF (zee a) (by simp -implicitDefEqProofs only[go_sem,zaa]) ?_;simp -implicitDefEqProofs only[go_sem,zaa];refine⟨fun h1=>?_,fun h1=>?_⟩
   ·rw[hN,h,h1];rfl
   ·rw[hN,h,h1];rfl
  ·rw[hN,h];rfl
 ·have hN:Fm.here (.mk 7 a v ps)=(decide (ps.length=2)&&a.none&&(v==[])):=rfl;simp only[fmD,zab,Fm.op,Fm.atom,Fm.var,Fm.parts];refine zak Tryz.call222 Tryz.func222 rfl Ys (zaz Ys) ?_;simp -implicitDefEqProofs only[go_sem,Tryz.results222];simp only[e2];refine⟨fun h=>?_,fun h=>?_⟩
  ·refine callF (zee a) (by simp -implicitDefEqProofs only[go_sem,zaa]) ?_;simp -implicitDefEqProofs only[go_sem,zaa];refine⟨fun h1=>?_,fun h1=>?_⟩
   ·rw[hN,h,h1];rfl
   ·rw[hN,h,h1];rfl
  ·rw[hN,h];rfl
 ·have hN:Fm.here (.mk 8 a v ps)=(decide (ps.length=1)&&a.none&&za9 v):=rfl;simp only[fmD,zab,Fm.op,Fm.atom,Fm.var,Fm.parts];refine zak Tryz.call222 Tryz.func222 rfl Ys (zaz Ys) ?_;simp -implicitDefEqProofs only[go_sem,Tryz.results222];simp only[e1];refine⟨fun h=>?_,fun h=>?_⟩
  ·refine callF (zee a) (by simp -implicitDefEqProofs only[go_sem,zaa]) ?_;simp -implicitDefEqProofs only[go_sem,zaa];refine⟨fun h1=>?_,fun h1=>?_⟩
   ·refine callF (zij v) Yr ?_;simp -implicitDefEqProofs only[go_sem];rw[hN,h,h1];rfl
   ·rw[hN,h,h1];rfl
  ·rw[hN,h];rfl
 ·have hN:Fm.here (.mk 9 a v ps)=(decide (ps.length=1)&&a.none&&za9 v):=rfl;simp only[fmD,zab,Fm.op,Fm.atom,Fm.var,Fm.parts];refine zak Tryz.call222 Tryz.func222 rfl Ys (zaz Ys) ?_;simp -implicitDefEqProofs only[go_sem,Tryz.results222];simp only[e1];refine⟨fun h=>?_,fun h=>?_⟩
  ·refine callF (zee a) (by simp -implicitDefEqProofs only[go_sem,zaa]) ?_;simp -implicitDefEqProofs only[go_sem,zaa];refine⟨fun h1=>?_,fun h1=>?_⟩
   ·refine callF (zij v) Yr ?_;simp -implicitDefEqProofs only[go_sem];rw[hN,h,h1];rfl
   ·rw[hN,h,h1];rfl
  ·rw[hN,h];rfl
 ·have hN:Fm.here (.mk o a v ps)=false:=by simp[Fm.here,zm3,isQ,Fm.op, *]
  have f1:(o==1)=false:=by simpa using n1
  have f2:(o==2)=false:=by simpa using n2
  have f3:(o==3)=false:=by simpa using n3
  have f4:(o==4)=false:=by simpa using n4
  have f5:(o==5)=false:=by simpa using n5
  have f6:(o==6)=false:=by simpa using n6
  have f7:(o==7)=false:=by simpa using n7
  have f8:(o==8)=false:=by simpa using n8
  have f9:(o==9)=false:=by simpa using n9
  simp only[fmD,zab,Fm.op,Fm.atom,Fm.var,Fm.parts];refine zak Tryz.call222 Tryz.func222 rfl Ys (zaz Ys) ?_;simp -implicitDefEqProofs only[go_sem,Tryz.results222,f1,f2,f3,f4,f5,f6,f7,f8,f9];rw[hN]
def Fm.forms:Fm->Bool:=Fm.fold fun o a v ps rs=>(Fm.mk o a v ps).here&&rs.all id
theorem Fm.forms_eq (f:Fm):f.forms=(f.here&&f.parts.all Fm.forms):=by
 unfold Fm.forms
 rw[Fm.fold_eq]
 simp only[Yp,Fm.eta]
 rfl
theorem zxz (a:Fm)(hs:a.wt<=1099511627776)(H:∀x∈a.parts,FC Tryz.prog 173 [fmD x] [bD x.forms]):FC Tryz.prog 173 [fmD a] [bD a.forms]:=by
 have hl:a.parts.length<=9223372036854775807:=by rw[Fm.wt_eq]at hs;omega
 have hN:=a.forms_eq
 simp only[fmD,zab]
 refine zak Tryz.call173 Tryz.func173 rfl Ys (zaz Ys) ?_
 simp -implicitDefEqProofs only[go_sem,Tryz.results173]
 refine callF (qiu a hs) (by simp -implicitDefEqProofs only[go_sem,zab]) ?_
 simp -implicitDefEqProofs only[go_sem,zab]
 refine⟨fun h=>?_,fun h=>?_⟩
 ·rw[hN,show a.here=false by simpa using h];rfl
 ·rw[show a.here=true by simpa using h,Qq]at hN;refine zaf (fun k:Nat=>hd [(1,.one (.bx 1 0)),(3,vI k)] [(1,[.t (.int .i64 a.op),.t (.str a.atom.name),.t (tmS a.atom.args),.t (.str a.var),.t (fmS a.parts)])] []) (fun k=>k<=a.parts.length/\a.forms=(a.parts.drop k).all Fm.forms) (fun k=>a.parts.length-k) 0 (zad ?_) ?_ ?_
  ·simp -implicitDefEqProofs only[go_sem]
  ·exact⟨by simp,hN⟩
  ·intro k ⟨hk,hr⟩;by_cases hlt:k<a.parts.length
   ·rw[Qx hlt,Kt]at hr;simp -implicitDefEqProofs only[go_sem,zac,hlt,zab];refine callF (H a.parts[k] (Qd hlt)) (by simp -implicitDefEqProofs only[go_sem,zab]) ?_;simp -implicitDefEqProofs only[go_sem,zab];refine⟨fun h=>?_,fun h=>⟨k+1,⟨hlt,?_⟩,Yt,zad (by simp -implicitDefEqProofs only[go_sem];rw[zam Yt])⟩⟩
    ·rw[hr,show a.parts[k].forms=false by simpa using h];rfl
    ·rw[hr,show a.parts[k].forms=true by simpa using h];rfl
   ·simp -implicitDefEqProofs only[go_sem,hlt];rw[hr,Q0 Yt];rfl
theorem qb9:∀a:Fm,a.wt<=1099511627776->FC Tryz.prog 173 [fmD a] [bD a.forms] :=
 zb7 fun o a v xs ih hs=>zxz (.mk o a v xs) hs fun x hx=>ih x hx (Q9 (zb8 (a:=.mk o a v xs) hx) hs)
def Fm.good (a:Fm):Bool:=decide (a.nodes<=40)&&a.forms
theorem ztp (a:Fm)(hs:a.wt<=1099511627776):FC Tryz.prog 96 [fmD a] [bD a.good]:=by
 simp only[fmD,zab]
 refine zak Tryz.call96 Tryz.func96 rfl Ys (zaz Ys) ?_
 simp -implicitDefEqProofs only[go_sem,Tryz.results96]
 refine callF (qf3 a hs 40 Yt Yt) (by simp -implicitDefEqProofs only[go_sem,zab]) ?_
 simp -implicitDefEqProofs only[go_sem,zab]
 rw[show decide (ze6 a 40<=40)=decide (a.nodes<=40) from qjj a 40]
 refine⟨fun h=>?_,fun h=>?_⟩
 ·refine callF (qb9 a hs) (by simp -implicitDefEqProofs only[go_sem,zab]) ?_;simp -implicitDefEqProofs only[go_sem,zab];rw[Fm.good,h,Qq]
 ·rw[Fm.good,h,Ql]
end Go.Proofs.YtliiapbmkcbfaaaGreat
namespace Go.Proofs.YtliiapbmkcbfaaaGreat
set_option linter.unusedSimpArgs false
set_option linter.unusedVariables false
set_option linter.unusedSectionVars false
set_option maxRecDepth 4000
open Go.RowKit
theorem zuz:∀a:Tm,a.wt<=1099511627776->∀ys:List Str,ys.length+(voS a).length<=1073741824->GC Tryz.prog 150 [(true,.one (zbm ys)),(false,tmD a)] [.one (zbm (zbb ys (voS a)))] :=
 zb0 fun n xs ih hw ys hs=>qec (.mk n xs) (fun x hx ys hs=>ih x hx (Q9 (zkm (a:=.mk n xs) hx) hw) ys hs) ys hs (by have:=Tm.wt_eq (.mk n xs);omega)
theorem zvg (a:Tm)(hw:a.wt<=1099511627776)(hs:(voS a).length<=1073741824):FC Tryz.prog 171 [tmD a] [.one (zbm (zbb [] (voS a)))]:=by
 have HC:=zuz a hw [] (by simpa using hs)
 simp only[tmD,zaa]at HC⊢
 refine zdw Tryz.call171 Tryz.func171 rfl Ys (zaz Ys) ?_
 simp -implicitDefEqProofs only[go_sem,Tryz.results171]
 refine zap Yr ?_
 simp -implicitDefEqProofs only[go_sem]
 refine zdx [] [3,4] [] (HC) Yr Yr Yr Yr ?_
 simp -implicitDefEqProofs only[go_sem]
theorem zm9 {s:Str}(h:za9 s=true):zjl (s.getD 0 0)=true/\0<s.length:=by
 unfold za9 at h
 rw[Qc]at h
 cases s with
 | nil=>exact absurd h.2 (by decide)
 | cons b s =>
  have:=zuv (s:=b::s) (by simp);rw[h.1]at this;have:=(Qc _ _).mp this.symm;exact⟨this.1,by simp⟩
theorem up_low {b:UInt8}(h:zf8 b=true):zjl b=false:=by
 unfold zf8 zjl at *
 simp only[Qc,Qr,Bool.and_eq_false_iff,Kz]at *
 omega
theorem zky {s:Str}(h:zce s=true):zjl (s.getD 0 0)=false/\0<s.length:=by
 unfold zce at h
 simp only[Qc]at h
 cases s with
 | nil=>exact absurd h.1.2 (by decide)
 | cons b s =>
  have:=zpf (s:=b::s) (by simp);rw[h.1.1]at this;have:=(Qc _ _).mp this.symm;exact⟨up_low this.1,by simp⟩
theorem zgk:∀a:Tm,a.names=true->voI a=voS a/\a.ne=true:=zb0 fun n xs ih h=>by
 rw[Tm.names_eq]at h
 rw[zu8,zq2,Tm.ne_eq']
 change (if za9 n=true then decide (xs.length=0)else zce n&&decide (xs.length<=4)&&xs.all Tm.names)=true at h
 change (if(decide (xs.length=0)&&zjl (n.getD 0 0))=true then [n]else (xs.map voI).flatten)=(if za9 n=true then [n]else (xs.map voS).flatten)/\((!decide (xs.length=0)||decide (0<n.length))&&xs.all Tm.ne)=true
 change ∀x∈xs,_ at ih
 by_cases hv:za9 n=true
 ·rw[if_pos hv]at h⊢;obtain⟨h1,h2⟩:=zm9 hv;have h:xs.length=0:=Jm h;have hx:xs=[]:=Q8.1 h;subst hx;rw[h1];exact⟨rfl,by simp[h2]⟩
 ·rw[if_neg hv]at h⊢;simp only[Qc]at h;obtain⟨h1,h2⟩:=zky h.1.1;rw[h1,Q6,if_neg (by simp)];have hI:=fun x hx=>ih x hx (Qs.1 h.2 x hx);refine⟨by rw[Kk fun x hx=>(hI x hx).1],?_⟩;rw[Qc];exact⟨by simp[h2],Qs.2 fun x hx=>(hI x hx).2⟩
theorem qn2 {a:Tm}(h:a.atomOk=true):voI a=voS a/\a.ne=true:=by
 unfold Tm.atomOk at h
 split at h
 ·rename_i he;have he:a.name=[61]:=by simpa using he
  simp only[Qc,Qr]at h;rw[zu8,zq2,Tm.ne_eq',he];have hI:=fun x hx=>zgk x (Qs.1 h.2 x hx);rw[show zjl (([61]:Str).getD 0 0)=false by decide,show za9 [61]=false by decide,Q6,if_neg (by simp),if_neg (by simp)];refine⟨by rw[Kk fun x hx=>(hI x hx).1],?_⟩;rw[Qc];exact⟨by simp,Qs.2 fun x hx=>(hI x hx).2⟩
 ·simp only[Qc]at h;have:=h.2;unfold Tm.good at this;rw[Qc]at this;exact zgk a this.2
theorem zge {f:Fm}(h:f.here=true)(h3:f.op=3):f.atom.atomOk=true/\f.parts=[]:=by
 unfold Fm.here at h
 rw[h3]at h
 simp only[show((3:Int)==1||(3:Int)==2)=false by decide,show((3:Int)==3)=true by decide,if_true,Qn,if_false,Qc,Qr,Q8]at h
 exact⟨h.1.2,h.1.1⟩
def vf:Fm->List Str->List Str:=Fm.fold fun o a v _ rs b=>if(o==3)=true then (zbb [] (voS a)).filter (fun s=>!b.contains s)else (rs.map fun r=>r (if isQ o=true then b++[v]else b)).flatten
theorem zxt (f:Fm)(b:List Str):vf f b=if(f.op==3)=true then (zbb [] (voS f.atom)).filter (fun s=>!b.contains s)else (f.parts.map fun x=>vf x (if isQ f.op=true then b++[f.var]else b)).flatten:=by
 unfold vf
 rw[Fm.fold_eq]
 simp only[Kh]
 rfl
theorem znr:∀a:Tm,(voS a).length<=1+a.wt:=zb0 fun n xs ih=>by
 rw[zq2,Tm.wt_eq]
 change (if za9 n=true then [n]else (xs.map voS).flatten).length<=1+(n.length+xs.length+(xs.map Tm.wt).sum)
 split
 ·simp
 ·have:((xs.map voS).flatten).length<=xs.length+(xs.map Tm.wt).sum:=by
   revert ih;induction xs with
   | nil=>simp
   | cons x xs ih2 =>
    intro ih;have h1:=ih x (by simp);have h2:=ih2 fun y hy=>ih y (by simp[hy]);simp only[Qi,Q4,Qh,Qz,Qb];omega
  omega
theorem qjw:∀(f:Fm)(b:List Str),(vf f b).length<=f.nodes+f.wt:=zb7 fun o a v ps ih b=>by
 rw[zxt,Fm.nodes_eq,Fm.wt_eq]
 change (if(o==3)=true then (zbb [] (voS a)).filter (fun s=>!b.contains s)else (ps.map fun x=>vf x (if isQ o=true then b++[v]else b)).flatten).length<=1+(ps.map Fm.nodes).sum+(a.wt+v.length+ps.length+(ps.map Fm.wt).sum)
 split
 ·have h1:=List.length_filter_le (fun s=>!b.contains s) (zbb [] (voS a));have h2:=zcs (voS a) [];have h3:=znr a;simp only[Qe]at h2;omega
 ·have:∀b,((ps.map fun x=>vf x b).flatten).length<=(ps.map Fm.nodes).sum+(ps.map Fm.wt).sum:=fun b=>by
   revert ih;induction ps with
   | nil=>simp
   | cons x xs ih2 =>
    intro ih;have h1:=ih x (by simp) b;have h2:=ih2 fun y hy=>ih y (by simp[hy]);simp only[Qi,Q4,Qh,Qz];omega
  have:=this (if isQ o=true then b++[v]else b);omega
def zgv (b l:List Str)(s:Str):List Str:=if(!b.contains s&&!l.contains s)=true then l++[s]else l
theorem zi7 (b:List Str):∀(ss l:List Str),ss.foldl (zgv b) l=zc3 l (ss.filter fun s=>!b.contains s)
 | [],l=>rfl
 | s::ss,l=>by
  rw[Jd,zi7 b ss,List.filter_cons];unfold zgv;by_cases h:b.contains s=true
  ·rw[h];simp
  ·have h:b.contains s=false:=by simpa using h
   rw[h,if_pos (show(!false)=true from rfl)];show _=zc3 (zsy l s) _
   congr 1
   unfold zsy;cases l.contains s<;>rfl
theorem qds {b l:List Str}{s:Str}(h:(!b.contains s)=true)(h2:(!l.contains s)=true):zgv b l s=l++[s]:=by unfold zgv;rw[h,h2];rfl
theorem qg7 {b l:List Str}{s:Str}(h2:(!l.contains s)=false):zgv b l s=l:=by unfold zgv;rw[h2,Q6];rfl
theorem qmz {b l:List Str}{s:Str}(h:(!b.contains s)=false):zgv b l s=l:=by unfold zgv;rw[h,Ql];rfl
theorem qao (b l:List Str)(s:Str):(zgv b l s).length<=l.length+1:=by unfold zgv;split<;>simp
theorem zmu (b:List Str):∀(ss l:List Str),(ss.foldl (zgv b) l).length<=l.length+ss.length
 | [],l=>by simp
 | s::ss,l=>by have:=zmu b ss (zgv b l s);have:=qao b l s;simp only[Jd,Qb]at *;omega
theorem zfl {α β:Type}(g:β->α->β)(xs:List α)(z:β)(k:Nat)(h:k<xs.length):(xs.take (k+1)).foldl g z=g ((xs.take k).foldl g z) xs[k]:=by
 rw[Qj h,List.foldl_append];rfl
set_option maxHeartbeats 2000000 in
theorem qeu (f:Fm)(hf:f.forms=true)(hw:f.wt<=1048576)(H:∀x∈f.parts,∀ys b:List Str,ys.length+(vf x b).length<=1073741824->b.length+x.nodes<=1073741824->GC Tryz.prog 153 [(true,.one (zbm ys)),(false,fmD x),(false,.one (zbm b))] [.one (zbm (zc3 ys (vf x b)))])
  (ys b:List Str) (hs:ys.length+(vf f b).length<=1073741824) (hb:b.length+f.nodes<=1073741824):GC Tryz.prog 153 [(true,.one (zbm ys)),(false,fmD f),(false,.one (zbm b))] [.one (zbm (zc3 ys (vf f b)))]:=by
 have hv:=zxt f b
 have hN:=f.nodes_eq
 have hW:=f.wt_eq
 rw[Fm.forms_eq,Qc]at hf
 simp only[fmD,zab]
 refine ztn Tryz.call153 Tryz.func153 rfl Ys (by simp only[Qb,Qe,Tryz.ntmps153];omega) (by simp[zau,T.isPin]) ?_
 simp -implicitDefEqProofs only[go_sem,Tryz.results153]
 by_cases h3:f.op=3
 ·obtain⟨ha,hp⟩:=zge hf.1 h3;obtain⟨ev,ene⟩:=qn2 ha;have e3:(f.op==3)=true:=by simp[h3]
  rw[if_pos e3]at hv;have hvl:=znr f.atom;have HV:=zko f.atom ene Yt (by rw[ev];omega);rw[ev]at HV;have hPl:=zcs (voS f.atom) [];generalize zbb [] (voS f.atom)=V at hv HV hPl;rw[hv,<-zi7 b V ys];simp only[tmD,zaa]at HV;simp -implicitDefEqProofs only[go_sem,e3];refine zku (HV) Yr ?_;simp -implicitDefEqProofs only[go_sem];refine zaf (fun k:Nat=>hd [(0,.one (.ow 0 0)),(2,.one (.rn (zbm b))),(16,.one (.rn (zbm V))),(17,vI V.length),(18,vI k)] [] [(0,⟨true,1,((V.take k).foldl (zgv b) ys).map fun s=>[.str s],0,true⟩)]) (fun k=>k<=V.length) (fun k=>V.length-k) 0 (zad ?_) (Q1 _) ?_
  ·simp -implicitDefEqProofs only[go_sem];rfl
  ·intro k hk;by_cases hlt:k<V.length
   ·have hL:=zmu b (V.take k) ys;rw[Qo]at hL;have hnx:=zfl (zgv b) V ys k hlt;simp only[Qe]at hPl;simp -implicitDefEqProofs only[go_sem,zac,hlt];refine callF (zbu b V[k]) Yr ?_;simp -implicitDefEqProofs only[go_sem];refine⟨fun h=>?_,fun h=>?_⟩
    ·refine callF (zbu ((V.take k).foldl (zgv b) ys) V[k]) Yr ?_;simp -implicitDefEqProofs only[go_sem];have hy2:((V.take k).foldl (zgv b) ys).length<=4294967295:=by omega
     refine⟨fun h2=>?_,fun h2=>?_⟩
     ·refine zap Yr ?_;simp -implicitDefEqProofs only[go_sem];refine apD true (by simp -implicitDefEqProofs only[go_sem,hy2,ne_eq,Qa]) ?_;simp -implicitDefEqProofs only[go_sem,hy2,ne_eq,Qa];refine⟨k+1,hlt,Yt,zad ?_⟩;simp -implicitDefEqProofs only[go_sem];rw[zam Yt,hnx,qds h h2];exact⟨rfl,by simp⟩
     ·refine⟨k+1,hlt,Yt,zad ?_⟩;simp -implicitDefEqProofs only[go_sem];rw[zam Yt,hnx,qg7 h2];exact⟨rfl,rfl⟩
    ·refine⟨k+1,hlt,Yt,zad ?_⟩;simp -implicitDefEqProofs only[go_sem];rw[zam Yt,hnx,qmz h];exact⟨rfl,rfl⟩
   ·simp -implicitDefEqProofs only[go_sem,hlt];exact Or.inl (by rw[Qm Yt])
 ·have e3:(f.op==3)=false:=by simp[h3]
  rw[e3,if_neg (by simp)]at hv;simp -implicitDefEqProofs only[go_sem,e3];refine callF (zan f.op) Yr ?_;simp -implicitDefEqProofs only[go_sem];refine⟨fun h=>?_,fun h=>?_⟩
  ·rw[if_pos h]at hv;rw[hv]at hs⊢;have hb1:b.length<=4294967295:=by omega
   refine drawn Ys ?_;simp -implicitDefEqProofs only[go_sem];refine zaj (zwv b Yt) Yr ?_;simp -implicitDefEqProofs only[go_sem];refine za8 Yr ?_;simp -implicitDefEqProofs only[go_sem];refine zek true (by simp -implicitDefEqProofs only[go_sem,hb1,ne_eq,Qa]) ?_;simp -implicitDefEqProofs only[go_sem,hb1,ne_eq,Qa];refine⟨Ys,?_⟩;refine zaf (fun k:Nat=>hd [(0,.one (.ow 0 0)),(2,.one (.rn (zbm (b++[f.var])))),(48,.one (.rn (fmS f.parts))),(49,vI f.parts.length),(50,vI k)] [] [(0,⟨true,1,(zc3 ys ((f.parts.take k).map fun x=>vf x ((b++[f.var]))).flatten).map fun s=>[.str s],0,true⟩)]) (fun k=>k<=f.parts.length) (fun k=>f.parts.length-k) 0 (zad ?_) (Q1 _) ?_
   ·simp -implicitDefEqProofs only[go_sem];exact⟨by simp,rfl⟩
   ·intro k hk;by_cases hlt:k<f.parts.length
    ·have hq:=zcc (fun x=>vf x ((b++[f.var]))) f.parts k hlt;have hL:=zea ((f.parts.take k).map fun x=>vf x ((b++[f.var]))).flatten ys;have hnx:=zay Fm.nodes f.parts _ (Qd hlt);have HC:=H f.parts[k] (Qd hlt) (zc3 ys ((f.parts.take k).map fun x=>vf x ((b++[f.var]))).flatten) ((b++[f.var])) Yt (by simp only[Qh,Qb,Qe];omega);rw[<-zha,<-zc8 (fun x=>vf x ((b++[f.var]))) f.parts k hlt]at HC;simp only[fmD,zab f.parts[k]]at HC;simp -implicitDefEqProofs only[go_sem,zac,hlt,zab f.parts[k]];refine zdx [2,48,49,50] [54,55,56] [] (HC) Yr Yr Yr Yr ?_;simp -implicitDefEqProofs only[go_sem];refine⟨k+1,hlt,Yt,zch 0 1824 ?_⟩;simp -implicitDefEqProofs only[go_sem];rw[zam Yt]
    ·simp -implicitDefEqProofs only[go_sem,hlt];exact Or.inl (by rw[Qm Yt])
  ·rw[h,if_neg (by simp)]at hv;rw[hv]at hs⊢;refine zaf (fun k:Nat=>hd [(0,.one (.ow 0 0)),(2,.one (.rn (zbm b))),(48,.one (.rn (fmS f.parts))),(49,vI f.parts.length),(50,vI k)] [] [(0,⟨true,1,(zc3 ys ((f.parts.take k).map fun x=>vf x (b)).flatten).map fun s=>[.str s],0,true⟩)]) (fun k=>k<=f.parts.length) (fun k=>f.parts.length-k) 0 (zad ?_) (Q1 _) ?_
   ·simp -implicitDefEqProofs only[go_sem];rfl
   ·intro k hk;by_cases hlt:k<f.parts.length
    ·have hq:=zcc (fun x=>vf x (b)) f.parts k hlt;have hL:=zea ((f.parts.take k).map fun x=>vf x (b)).flatten ys;have hnx:=zay Fm.nodes f.parts _ (Qd hlt);have HC:=H f.parts[k] (Qd hlt) (zc3 ys ((f.parts.take k).map fun x=>vf x (b)).flatten) (b) Yt Yt;rw[<-zha,<-zc8 (fun x=>vf x (b)) f.parts k hlt]at HC;simp only[fmD,zab f.parts[k]]at HC;simp -implicitDefEqProofs only[go_sem,zac,hlt,zab f.parts[k]];refine zdx [2,48,49,50] [54,55,56] [] (HC) Yr Yr Yr Yr ?_;simp -implicitDefEqProofs only[go_sem];refine⟨k+1,hlt,Yt,zch 0 1824 ?_⟩;simp -implicitDefEqProofs only[go_sem];rw[zam Yt]
    ·simp -implicitDefEqProofs only[go_sem,hlt];exact Or.inl (by rw[Qm Yt])
theorem qho:∀f:Fm,f.forms=true->f.wt<=1048576->∀ys b:List Str,ys.length+(vf f b).length<=1073741824->b.length+f.nodes<=1073741824->GC Tryz.prog 153 [(true,.one (zbm ys)),(false,fmD f),(false,.one (zbm b))] [.one (zbm (zc3 ys (vf f b)))] :=
 zb7 fun o a v ps ih hf hw ys b hs hb=>qeu (.mk o a v ps) hf hw (fun x hx ys b hs hb=>ih x hx (by rw[Fm.forms_eq,Qc]at hf;exact Qs.1 hf.2 x hx) (Q9 (zb8 (a:=.mk o a v ps) hx) hw) ys b hs hb) ys b hs hb
theorem qjt (f:Fm)(hf:f.forms=true)(hw:f.wt<=1048576):FC Tryz.prog 80 [fmD f] [.one (zbm (zbb [] (vf f [])))]:=by
 have h1:=qjw f []
 have h2:=zfr f
 have HC:=qho f hf hw [] [] (by simp only[Qe];omega) (by simp only[Qe];omega)
 have HS:=zpq (zc3 [] (vf f [])) (by have:=zea (vf f []) [];simp only[Qe]at this;omega)
 rw[zwl]at HS
 simp only[fmD,zab]at HC⊢
 refine zdw Tryz.call80 Tryz.func80 rfl Ys (zaz Ys) ?_
 simp -implicitDefEqProofs only[go_sem,Tryz.results80]
 refine zap Yr ?_
 simp -implicitDefEqProofs only[go_sem]
 refine zdx [] [4,5] [] (HC) Yr Yr Yr Yr ?_
 simp -implicitDefEqProofs only[go_sem]
 refine qk6 (HS) (by simp -implicitDefEqProofs only[go_sem,za5]) (by simp -implicitDefEqProofs only[go_sem,za5]) rfl ?_
 simp -implicitDefEqProofs only[go_sem,za5]
def zin (b l:List Str)(s:Str):List Str:=if(!b.contains s)=true then zvo l s else l
theorem zi6 (b:List Str):∀(ss l:List Str),ss.foldl (zin b) l=zbb l (ss.filter fun s=>!b.contains s)
 | [],l=>rfl
 | s::ss,l=>by
  rw[Jd,zi6 b ss,List.filter_cons];unfold zin;by_cases h:b.contains s=true
  ·rw[h];simp
  ·have h:b.contains s=false:=by simpa using h
   rw[h,if_pos (show(!false)=true from rfl),if_pos (show(!false)=true from rfl)];rfl
theorem zzb (b l:List Str)(s:Str):(zin b l s).length<=l.length+1:=by
 unfold zin
 split
 ·exact zt6 l s
 ·omega
theorem zmo (b:List Str):∀(ss l:List Str),(ss.foldl (zin b) l).length<=l.length+ss.length
 | [],l=>by simp
 | s::ss,l=>by have:=zmo b ss (zin b l s);have:=zzb b l s;simp only[Jd,Qb]at *;omega
theorem qcs {b l:List Str}{s:Str}(h:(!b.contains s)=true):zin b l s=zvo l s:=if_pos h
theorem qni {b l:List Str}{s:Str}(h:(!b.contains s)=false):zin b l s=l:=by unfold zin;rw[h];rfl
set_option maxHeartbeats 2000000 in
theorem qe0 (f:Fm)(hf:f.forms=true)(hw:f.wt<=1048576)(H:∀x∈f.parts,∀ys b:List Str,ys.length+(vf x b).length<=1073741824->b.length+x.nodes<=1073741824->GC Tryz.prog 175 [(true,.one (zbm ys)),(false,fmD x),(false,.one (zbm b))] [.one (zbm (zbb ys (vf x b)))])
  (ys b:List Str) (hs:ys.length+(vf f b).length<=1073741824) (hb:b.length+f.nodes<=1073741824):GC Tryz.prog 175 [(true,.one (zbm ys)),(false,fmD f),(false,.one (zbm b))] [.one (zbm (zbb ys (vf f b)))]:=by
 have hv:=zxt f b
 have hN:=f.nodes_eq
 have hW:=f.wt_eq
 rw[Fm.forms_eq,Qc]at hf
 simp only[fmD,zab]
 refine ztn Tryz.call175 Tryz.func175 rfl Ys (by simp only[Qb,Qe,Tryz.ntmps175];omega) (by simp[zau,T.isPin]) ?_
 simp -implicitDefEqProofs only[go_sem,Tryz.results175]
 by_cases h3:f.op=3
 ·obtain⟨ha,hp⟩:=zge hf.1 h3;have e3:(f.op==3)=true:=by simp[h3]
  have e8:(f.op==8)=false:=by simp[h3]
  have e9:(f.op==9)=false:=by simp[h3]
  rw[if_pos e3]at hv;have hvl:=znr f.atom;have HV:=zvg f.atom Yt Yt;have hPl:=zcs (voS f.atom) [];generalize zbb [] (voS f.atom)=V at hv HV hPl;simp only[Qe]at hPl;rw[hv,<-zi6 b V ys];simp only[tmD,zaa]at HV;simp -implicitDefEqProofs only[go_sem,e3];refine zku (HV) Yr ?_;simp -implicitDefEqProofs only[go_sem];refine zaf (fun k:Nat=>hd [(0,.one (.ow 0 0)),(2,.one (.rn (zbm b))),(4,.one (.bx 4 0)),(7,.one (.rn (zbm V))),(8,vI k)] [(4,[.t (.int .i64 f.op),.t (.str f.atom.name),.rn (tmS f.atom.args),.t (.str f.var),.rn (fmS f.parts)])] [(0,⟨true,1,((V.take k).foldl (zin b) ys).map fun s=>[.str s],0,true⟩)]) (fun k=>k<=V.length) (fun k=>V.length-k) 0 (zad ?_) (Q1 _) ?_
  ·simp -implicitDefEqProofs only[go_sem];rfl
  ·intro k hk;by_cases hlt:k<V.length
   ·have hL:=zmo b (V.take k) ys;rw[Qo]at hL;have hnx:=zfl (zin b) V ys k hlt;simp -implicitDefEqProofs only[go_sem,zac,hlt];refine callF (zjd b V[k]) Yr ?_;simp -implicitDefEqProofs only[go_sem];refine⟨fun h=>?_,fun h=>?_⟩
    ·simp -implicitDefEqProofs only[go_sem,zac,hlt];refine zdx [2,4,7,8] [29,33] [] (qcd ((V.take k).foldl (zin b) ys) V[k] Yt) Yr Yr Yr Yr ?_;simp -implicitDefEqProofs only[go_sem];refine⟨k+1,hlt,Yt,zch 0 1088 ?_⟩;simp -implicitDefEqProofs only[go_sem];rw[zam Yt,hnx,qcs h];exact⟨rfl,rfl⟩
    ·refine⟨k+1,hlt,Yt,zad ?_⟩;simp -implicitDefEqProofs only[go_sem];rw[zam Yt,hnx,qni h];exact⟨rfl,rfl⟩
   ·rw[Qm Yt];have hr:∃R,V.foldl (zin b) ys=R:=⟨_,rfl⟩;obtain⟨R,hR⟩:=hr;rw[hR];simp -implicitDefEqProofs only[go_sem,hlt,e8,e9];refine zaf (fun k:Nat=>hd [(0,.one (.ow 0 0)),(2,.one (.rn (zbm b))),(4,.one (.bx 4 0)),(9,vI k)] [(4,[.t (.int .i64 f.op),.t (.str f.atom.name),.rn (tmS f.atom.args),.t (.str f.var),.rn (fmS f.parts)])] [(0,⟨true,1,R.map fun s=>[.str s],0,true⟩)]) (fun k=>k=0) (fun k=>0) 0 (zad ?_) rfl ?_
    ·simp -implicitDefEqProofs only[go_sem]
    ·rintro k rfl;have hp0:f.parts.length=0:=by rw[hp];rfl
     simp -implicitDefEqProofs only[go_sem,hp0]
 ·have e3:(f.op==3)=false:=by simp[h3]
  rw[e3,if_neg (by simp)]at hv;by_cases hq8:isQ f.op=true
  ·rw[if_pos hq8]at hv;rw[hv]at hs⊢;have hb1:b.length<=4294967296:=by omega
   have hb2:b.length<=4294967295:=by omega
   have key:(f.op==8)=true\/((f.op==8)=false/\(f.op==9)=true):=by
    unfold isQ at hq8;cases h8:f.op==8
    ·rw[h8,Jf]at hq8;exact Or.inr ⟨rfl,hq8⟩
    ·exact Or.inl rfl
   rcases key with e8|⟨e8,e9⟩
   ·simp -implicitDefEqProofs only[go_sem,e3,e8];refine drawn Ys ?_;simp -implicitDefEqProofs only[go_sem];refine za8 Yr ?_;simp -implicitDefEqProofs only[go_sem];refine zek true (by simp -implicitDefEqProofs only[go_sem,hb1,za5,ne_eq,Qa,Q2]) ?_;simp -implicitDefEqProofs only[go_sem,hb1,za5,ne_eq,Qa,Q2];refine za8 Yr ?_;simp -implicitDefEqProofs only[go_sem];refine zek true (by simp -implicitDefEqProofs only[go_sem,hb2,ne_eq,Qa]) ?_;simp -implicitDefEqProofs only[go_sem,hb2,ne_eq,Qa];refine⟨Ys,?_⟩;refine zaf (fun k:Nat=>hd [(0,.one (.ow 0 0)),(2,.one (.rn (zbm (b++[f.var])))),(4,.one (.bx 4 0)),(9,vI k)] [(4,[.t (.int .i64 f.op),.t (.str f.atom.name),.rn (tmS f.atom.args),.t (.str f.var),.rn (fmS f.parts)])] [(0,⟨true,1,(zbb ys ((f.parts.take k).map fun x=>vf x ((b++[f.var]))).flatten).map fun s=>[.str s],0,true⟩)]) (fun k=>k<=f.parts.length) (fun k=>f.parts.length-k) 0 (zad ?_) (Q1 _) ?_
    ·simp -implicitDefEqProofs only[go_sem];exact⟨by simp,rfl⟩
    ·intro k hk;by_cases hlt:k<f.parts.length
     ·have hq:=zcc (fun x=>vf x ((b++[f.var]))) f.parts k hlt;have hL:=zcs ((f.parts.take k).map fun x=>vf x ((b++[f.var]))).flatten ys;have hnx:=zay Fm.nodes f.parts _ (Qd hlt);have HC:=H f.parts[k] (Qd hlt) (zbb ys ((f.parts.take k).map fun x=>vf x ((b++[f.var]))).flatten) ((b++[f.var])) Yt (by simp only[Qh,Qb,Qe];omega);rw[<-zh0,<-zc8 (fun x=>vf x ((b++[f.var]))) f.parts k hlt]at HC;simp only[fmD,zab f.parts[k]]at HC;simp -implicitDefEqProofs only[go_sem,zac,hlt,zab f.parts[k]];refine zdx [2,4,9] [57,62,63] [] (HC) Yr Yr Yr Yr ?_;simp -implicitDefEqProofs only[go_sem];refine⟨k+1,hlt,Yt,zch 0 2048 ?_⟩;simp -implicitDefEqProofs only[go_sem];rw[zam Yt]
     ·simp -implicitDefEqProofs only[go_sem,hlt];exact Or.inl (by rw[Qm Yt])
   ·simp -implicitDefEqProofs only[go_sem,e3,e8,e9];refine drawn Ys ?_;simp -implicitDefEqProofs only[go_sem];refine za8 Yr ?_;simp -implicitDefEqProofs only[go_sem];refine zek true (by simp -implicitDefEqProofs only[go_sem,hb1,za5,ne_eq,Qa,Q2]) ?_;simp -implicitDefEqProofs only[go_sem,hb1,za5,ne_eq,Qa,Q2];refine za8 Yr ?_;simp -implicitDefEqProofs only[go_sem];refine zek true (by simp -implicitDefEqProofs only[go_sem,hb2,ne_eq,Qa]) ?_;simp -implicitDefEqProofs only[go_sem,hb2,ne_eq,Qa];refine⟨Ys,?_⟩;refine zaf (fun k:Nat=>hd [(0,.one (.ow 0 0)),(2,.one (.rn (zbm (b++[f.var])))),(4,.one (.bx 4 0)),(9,vI k)] [(4,[.t (.int .i64 f.op),.t (.str f.atom.name),.rn (tmS f.atom.args),.t (.str f.var),.rn (fmS f.parts)])] [(0,⟨true,1,(zbb ys ((f.parts.take k).map fun x=>vf x ((b++[f.var]))).flatten).map fun s=>[.str s],0,true⟩)]) (fun k=>k<=f.parts.length) (fun k=>f.parts.length-k) 0 (zad ?_) (Q1 _) ?_
    ·simp -implicitDefEqProofs only[go_sem];exact⟨by simp,rfl⟩
    ·intro k hk;by_cases hlt:k<f.parts.length
     ·have hq:=zcc (fun x=>vf x ((b++[f.var]))) f.parts k hlt;have hL:=zcs ((f.parts.take k).map fun x=>vf x ((b++[f.var]))).flatten ys;have hnx:=zay Fm.nodes f.parts _ (Qd hlt);have HC:=H f.parts[k] (Qd hlt) (zbb ys ((f.parts.take k).map fun x=>vf x ((b++[f.var]))).flatten) ((b++[f.var])) Yt (by simp only[Qh,Qb,Qe];omega);rw[<-zh0,<-zc8 (fun x=>vf x ((b++[f.var]))) f.parts k hlt]at HC;simp only[fmD,zab f.parts[k]]at HC;simp -implicitDefEqProofs only[go_sem,zac,hlt,zab f.parts[k]];refine zdx [2,4,9] [57,62,63] [] (HC) Yr Yr Yr Yr ?_;simp -implicitDefEqProofs only[go_sem];refine⟨k+1,hlt,Yt,zch 0 2048 ?_⟩;simp -implicitDefEqProofs only[go_sem];rw[zam Yt]
     ·simp -implicitDefEqProofs only[go_sem,hlt];exact Or.inl (by rw[Qm Yt])
  ·have hq:isQ f.op=false:=by simpa using hq8
   rw[hq,if_neg (by simp)]at hv;rw[hv]at hs⊢;unfold isQ at hq;rw[Bool.or_eq_false_iff]at hq;obtain⟨e8,e9⟩:=hq;simp -implicitDefEqProofs only[go_sem,e3,e8,e9];refine zaf (fun k:Nat=>hd [(0,.one (.ow 0 0)),(2,.one (.rn (zbm b))),(4,.one (.bx 4 0)),(9,vI k)] [(4,[.t (.int .i64 f.op),.t (.str f.atom.name),.rn (tmS f.atom.args),.t (.str f.var),.rn (fmS f.parts)])] [(0,⟨true,1,(zbb ys ((f.parts.take k).map fun x=>vf x (b)).flatten).map fun s=>[.str s],0,true⟩)]) (fun k=>k<=f.parts.length) (fun k=>f.parts.length-k) 0 (zad ?_) (Q1 _) ?_
   ·simp -implicitDefEqProofs only[go_sem];rfl
   ·intro k hk;by_cases hlt:k<f.parts.length
    ·have hq:=zcc (fun x=>vf x (b)) f.parts k hlt;have hL:=zcs ((f.parts.take k).map fun x=>vf x (b)).flatten ys;have hnx:=zay Fm.nodes f.parts _ (Qd hlt);have HC:=H f.parts[k] (Qd hlt) (zbb ys ((f.parts.take k).map fun x=>vf x (b)).flatten) (b) Yt Yt;rw[<-zh0,<-zc8 (fun x=>vf x (b)) f.parts k hlt]at HC;simp only[fmD,zab f.parts[k]]at HC;simp -implicitDefEqProofs only[go_sem,zac,hlt,zab f.parts[k]];refine zdx [2,4,9] [57,62,63] [] (HC) Yr Yr Yr Yr ?_;simp -implicitDefEqProofs only[go_sem];refine⟨k+1,hlt,Yt,zch 0 2048 ?_⟩;simp -implicitDefEqProofs only[go_sem];rw[zam Yt]
    ·simp -implicitDefEqProofs only[go_sem,hlt];exact Or.inl (by rw[Qm Yt])
theorem qjd:∀f:Fm,f.forms=true->f.wt<=1048576->∀ys b:List Str,ys.length+(vf f b).length<=1073741824->b.length+f.nodes<=1073741824->GC Tryz.prog 175 [(true,.one (zbm ys)),(false,fmD f),(false,.one (zbm b))] [.one (zbm (zbb ys (vf f b)))] :=
 zb7 fun o a v ps ih hf hw ys b hs hb=>qe0 (.mk o a v ps) hf hw (fun x hx ys b hs hb=>ih x hx (by rw[Fm.forms_eq,Qc]at hf;exact Qs.1 hf.2 x hx) (Q9 (zb8 (a:=.mk o a v ps) hx) hw) ys b hs hb) ys b hs hb
theorem zu3 (f:Fm)(hf:f.forms=true)(hw:f.wt<=1048576):FC Tryz.prog 105 [fmD f] [.one (zbm (zbb [] (vf f [])))]:=by
 have h1:=qjw f []
 have h2:=zfr f
 have HC:=qjd f hf hw [] [] (by simp only[Qe];omega) (by simp only[Qe];omega)
 simp only[fmD,zab]at HC⊢
 refine zdw Tryz.call105 Tryz.func105 rfl Ys (zaz Ys) ?_
 simp -implicitDefEqProofs only[go_sem,Tryz.results105]
 refine zap Yr ?_
 simp -implicitDefEqProofs only[go_sem]
 refine zap Yr ?_
 simp -implicitDefEqProofs only[go_sem]
 refine zd0 160 rfl rfl ?_
 simp -implicitDefEqProofs only[go_sem]
 refine zdx [] [3,4,5] [] (HC) (by simp -implicitDefEqProofs only[go_sem,zbm,Qk]) (by simp -implicitDefEqProofs only[go_sem,zbm,Qk]) (by simp -implicitDefEqProofs only[go_sem,zbm,Qk]) (by simp -implicitDefEqProofs only[go_sem,zbm,Qk]) ?_
 simp -implicitDefEqProofs only[go_sem,zbm,Qk]
end Go.Proofs.YtliiapbmkcbfaaaGreat
