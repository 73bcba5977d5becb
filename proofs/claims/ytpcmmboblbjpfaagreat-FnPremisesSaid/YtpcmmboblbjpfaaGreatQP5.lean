/-
  The walk over plain data, and contracts of functions of the program and of its laws.
  Conditions: those that each theorem names.
-/
import Derived.Test.YtpcmmboblbjpfaaGreatQP4
import Derived.Sort.OwnSorted
import Derived.Sort.KeysCollected
import Derived.Sort.Walk0
import Derived.Laws.AppendOwn
import Derived.MapKept
import Derived.Lib.SliceRun
import Derived.Deep.LoopGhost
namespace Go.Proofs.YtpcmmboblbjpfaaGreat
set_option linter.unusedSimpArgs false
set_option linter.unusedVariables false
set_option linter.unusedSectionVars false
set_option maxRecDepth 4000
set_option maxHeartbeats 8000000
section
open Go.RowKit
def zfs (b:UInt8):Bool:=decide (97<=(b.toNat:Int))&&decide ((b.toNat:Int)<=122)
def qeu (b:UInt8):Bool:=decide (48<=(b.toNat:Int))&&decide ((b.toNat:Int)<=57)
def zik (b:UInt8):Bool:=decide (65<=(b.toNat:Int))&&decide ((b.toNat:Int)<=90)
def zk0 (b:UInt8):Bool:=zfs b||qeu b
abbrev uD (b:UInt8):D:=.one (.int .u8 b.toNat)
theorem zg2 (b:UInt8):FC Tryz.prog 249 [uD b] [bD (zfs b)]:=by
 unfold zfs
 refine zai Tryz.call249 Tryz.func249 rfl Yn (zau Yn) ?_
 simp -implicitDefEqProofs only[go_sem,Tryz.results249]
 refine⟨fun h=>?_,fun h=>?_⟩<;>simp at h⊢<;>omega
theorem zqf (b:UInt8):FC Tryz.prog 250 [uD b] [bD (qeu b)]:=by
 unfold qeu
 refine zai Tryz.call250 Tryz.func250 rfl Yn (zau Yn) ?_
 simp -implicitDefEqProofs only[go_sem,Tryz.results250]
 refine⟨fun h=>?_,fun h=>?_⟩<;>simp at h⊢<;>omega
theorem zpy (b:UInt8):FC Tryz.prog 222 [uD b] [bD (zik b)]:=by
 unfold zik
 refine zai Tryz.call222 Tryz.func222 rfl Yn (zau Yn) ?_
 simp -implicitDefEqProofs only[go_sem,Tryz.results222]
 refine⟨fun h=>?_,fun h=>?_⟩<;>simp at h⊢<;>omega
def inB (n lo hi:Int):Bool:=decide (lo<=n)&&decide (n<=hi)
theorem zb2 (n lo hi:Int):FC Tryz.prog 56 [iD n,iD lo,iD hi] [bD (inB n lo hi)]:=by
 unfold inB
 refine zai Tryz.call56 Tryz.func56 rfl Yn (zau Yn) ?_
 simp -implicitDefEqProofs only[go_sem,Tryz.results56]
 refine⟨fun h=>?_,fun h=>?_⟩<;>simp at h⊢<;>omega
theorem zey (n lo hi:Int):FC Tryz.prog 63 [iD n,iD lo,iD hi] [bD (inB n lo hi)]:=by
 unfold inB
 refine zai Tryz.call63 Tryz.func63 rfl Yn (zau Yn) ?_
 simp -implicitDefEqProofs only[go_sem,Tryz.results63]
 refine⟨fun h=>?_,fun h=>?_⟩<;>simp at h⊢<;>omega
theorem qet (a b:Int):FC Tryz.prog 135 [iD a,iD b] [iD (max a b)]:=by
 refine zai Tryz.call135 Tryz.func135 rfl Yn (zau Yn) ?_
 simp -implicitDefEqProofs only[go_sem,Tryz.results135]
 refine⟨fun h=>?_,fun h=>?_⟩<;>simp at h<;>exact int_eq Yo
theorem zjn (b:UInt8):FC Tryz.prog 185 [uD b] [bD (zk0 b)]:=by
 unfold zk0 zfs qeu
 refine zai Tryz.call185 Tryz.func185 rfl Yn (zau Yn) ?_
 simp -implicitDefEqProofs only[go_sem,Tryz.results185]
 simp only[T.bool.injEq,Qm,Jf]
 refine⟨fun h=>⟨fun h2=>⟨fun h3=>?_,fun h3=>?_⟩,fun h2=>?_⟩,fun h=>⟨fun h2=>?_,fun h2=>?_⟩⟩<;>simp[h,h2]<;>omega
def zrh:Str->Bool
 | []=>true
 | c::cs=>zik c&&cs.all zk0
def za9 (s:Str):Bool:=zrh s&&inB s.length 1 4
theorem zdn (s:Str):FC Tryz.prog 195 [sD s] [bD (za9 s)]:=by
 refine zfa (fun hw=>?_) Tryz.call195
 have hl:s.length<=9223372036854775807:=by simpa[ziy,wfT]using hw.1
 refine zai Tryz.call195 Tryz.func195 rfl Yn (zau Yn) ?_
 simp -implicitDefEqProofs only[go_sem,Tryz.results195]
 refine zaf (fun k:Nat=>hd [(0,vT (.str s)),(5,vI s.length),(6,vI k)] [] []) (fun k=>k<=s.length/\zrh s=if k=0 then zrh s else (s.drop k).all zk0) (fun k=>s.length-k) 0 (zac ?_) ?_ ?_
 ·simp -implicitDefEqProofs only[go_sem]
 ·simp
 ·intro k ⟨hk,hr⟩;by_cases hlt:k<s.length
  ·by_cases h0:k=0
   ·subst h0;have hl0:(0:Int)<s.length:=by omega
    have he:zrh s=(zik (s.getD 0 0)&&(s.drop 1).all zk0):=by cases s;exact absurd hlt (by simp);rfl
    simp -implicitDefEqProofs only[go_sem,hlt,hl0];refine callF (zpy (s.getD 0 0)) Ym ?_;simp -implicitDefEqProofs only[go_sem];refine⟨fun h=>⟨1,⟨hlt,?_⟩,Yo,zac (by simp -implicitDefEqProofs only[go_sem];rw[za1 Yo Yo])⟩,fun h=>?_⟩
    ·have:zik (s.getD 0 0)=true:=by simpa using h
     rw[he,this];rfl
    ·have:zik (s.getD 0 0)=false:=by simpa using h
     rw[za9,he,this];rfl
   ·have h1:((k:Int)==0)=false:=by simp;omega
    have h2:(0:Int)<k:=by omega
    have hg:s.getD k 0=s[k]:=by simp[List.getD,hlt]
    rw[if_neg h0,Qx hlt,Ke]at hr;simp -implicitDefEqProofs only[go_sem,hlt,h1,h2];refine callF (zg2 (s.getD k 0)) Ym ?_;simp -implicitDefEqProofs only[go_sem];simp only[hg];refine⟨fun h=>⟨hlt,?_⟩,fun h=>?_⟩
    ·refine callF (zqf s[k]) Ym ?_;simp -implicitDefEqProofs only[go_sem];refine⟨fun h'=>?_,fun h'=>⟨k+1,⟨hlt,?_⟩,Yo,zac (by simp -implicitDefEqProofs only[go_sem];rw[zaw Yo])⟩⟩
     ·have:zk0 s[k]=false:=by simp[zk0];simp at h h';exact⟨h,h'⟩
      simp[za9,hr,this]
     ·have:zk0 s[k]=true:=by simp[zk0];right;simpa using h'
      rw[hr,this];simp
    ·refine⟨k+1,⟨hlt,?_⟩,Yo,zac (by simp -implicitDefEqProofs only[go_sem];rw[zaw Yo])⟩;have:zk0 s[k]=true:=by simp[zk0];left;simpa using h
     rw[hr,this];simp
  ·simp -implicitDefEqProofs only[go_sem,hlt];refine callF (zb2 s.length 1 4) Ym ?_;simp -implicitDefEqProofs only[go_sem];have:zrh s=true:=by
    by_cases h0:k=0
    ·have:s=[]:=Q7.1 Yo;rw[this];rfl
    ·rw[hr,if_neg h0,Q6 Yo];rfl
   simp[za9,this]
end
section
open Go.RowKit
abbrev zb5 (xs:List Str):T:=.sl 1 (xs.map fun s=>[.str s])
theorem zyx {α:Type} [BEq α] [LawfulBEq α]{xs:List α}{s:α}{k:Nat}(hk:k<xs.length)(hn:s∉xs.take k)(e:xs[k]=s):xs.idxOf s=k:=by
 have h:xs=xs.take k++xs.drop k:=(K9 k xs).symm
 rw[Qx hk]at h
 rw[h,List.idxOf_append,if_neg hn,e]
 rw[show(s::xs.drop (k+1)).idxOf s=0 from List.idxOf_cons_self ..]
 simp;omega
theorem zhx {α:Type}{xs:List α}{s:α}{k:Nat}(hk:k<xs.length)(hn:s∉xs.take k)(e:xs[k]≠s):s∉xs.take (k+1):=by
 rw[Qk hk]
 simp only[Qt,Qw,not_or]
 exact⟨hn,fun h=>e h.symm⟩
def idxS {α:Type} [BEq α](xs:List α)(s:α):Int:=if xs.contains s then xs.idxOf s else -1
theorem zv9 (xs:List Str)(s:Str):FC Tryz.prog 223 [.one (zb5 xs),sD s] [iD (idxS xs s)]:=by
 refine zfa (fun hw=>?_) Tryz.call223
 have hl:xs.length<=9223372036854775807:=by simpa[ziy,wfT]using hw.1.1
 refine zai Tryz.call223 Tryz.func223 rfl Yn (zau Yn) ?_
 simp -implicitDefEqProofs only[go_sem,Tryz.results223]
 refine zaf (fun k:Nat=>hd [(0,vT (zb5 xs)),(1,vT (.str s)),(7,vI xs.length),(8,vI k)] [] []) (fun k=>k<=xs.length/\s∉xs.take k) (fun k=>xs.length-k) 0 (zac ?_) ?_ ?_
 ·simp -implicitDefEqProofs only[go_sem]
 ·simp
 ·intro k ⟨hk,hr⟩;by_cases hlt:k<xs.length
  ·simp -implicitDefEqProofs only[go_sem,zae,hlt];refine⟨fun h=>?_,fun h=>?_⟩
   ·have e:xs[k]=s:=(Kr.1 h).symm;have hm:s∈xs:=e▸Qj hlt;rw[idxS,if_pos (by simpa using hm),zyx hlt hr e]
   ·have e:xs[k]≠s:=fun e=>by simp[e]at h
    exact⟨k+1,⟨hlt,zhx hlt hr e⟩,Yo,zac (by simp -implicitDefEqProofs only[go_sem];rw[zaw Yo])⟩
  ·simp -implicitDefEqProofs only[go_sem,hlt];rw[Qu Yo]at hr;rw[idxS,if_neg (by simpa using hr)]
theorem zcz (xs:List Str)(s:Str):FC Tryz.prog 172 [.one (zb5 xs),sD s] [bD (xs.contains s)]:=by
 refine zai Tryz.call172 Tryz.func172 rfl Yn (zau Yn) ?_
 simp -implicitDefEqProofs only[go_sem,Tryz.results172]
 refine callF (zv9 xs s) Ym ?_
 simp -implicitDefEqProofs only[go_sem]
 unfold idxS
 cases h:xs.contains s<;>simp
def zr0:List Str:=[[116,114,117,101],[102,97,108,115,101],[116,114,117,116,104],[98,111,116,104],[101,105,116,104,101,114],[105,102],[97,108,108],[115,111,109,101]]
theorem zwv:FC Tryz.prog 251 [] [.one (zb5 zr0)]:=by
 refine zai Tryz.call251 Tryz.func251 rfl Yn (zau Yn) ?_
 simp -implicitDefEqProofs only[go_sem,Tryz.results251]
 refine zad Ym ?_
 simp -implicitDefEqProofs only[go_sem]
 rfl
def zmm (b:UInt8):Bool:=zk0 b||b==95
def zkr:Str->Bool
 | []=>true
 | c::cs=>zfs c&&cs.all zmm
def zcs (s:Str):Bool:=zkr s&&inB s.length 1 6&&!zr0.contains s
theorem qju {b:UInt8}{n:Nat}(hn:n<256):((b.toNat:Int)==(n:Int))=(b==UInt8.ofNat n):=by
 rw[Kq]
 simp only[Kr]
 constructor
 ·intro h;apply UInt8.toNat_inj.1;simp[UInt8.toNat_ofNat];omega
 ·intro h;subst h;simp[UInt8.toNat_ofNat];omega
theorem zmd (s:Str):FC Tryz.prog 196 [sD s] [bD (zcs s)]:=by
 refine zfa (fun hw=>?_) Tryz.call196
 have hl:s.length<=9223372036854775807:=by simpa[ziy,wfT]using hw.1
 refine zai Tryz.call196 Tryz.func196 rfl Yn (zau Yn) ?_
 simp -implicitDefEqProofs only[go_sem,Tryz.results196]
 refine zaf (fun k:Nat=>hd [(0,vT (.str s)),(5,vI s.length),(6,vI k)] [] []) (fun k=>k<=s.length/\zkr s=if k=0 then zkr s else (s.drop k).all zmm) (fun k=>s.length-k) 0 (zac ?_) ?_ ?_
 ·simp -implicitDefEqProofs only[go_sem]
 ·simp
 ·intro k ⟨hk,hr⟩;by_cases hlt:k<s.length
  ·by_cases h0:k=0
   ·subst h0;have hl0:(0:Int)<s.length:=by omega
    have he:zkr s=(zfs (s.getD 0 0)&&(s.drop 1).all zmm):=by cases s;exact absurd hlt (by simp);rfl
    simp -implicitDefEqProofs only[go_sem,hlt,hl0];refine callF (zg2 (s.getD 0 0)) Ym ?_;simp -implicitDefEqProofs only[go_sem];refine⟨fun h=>⟨hl0,?_⟩,fun h=>?_⟩
    ·have hi:zfs (s.getD 0 0)=true:=by simpa using h
     refine callF (zg2 (s.getD 0 0)) (by simp -implicitDefEqProofs only[go_sem,hi]) ?_;simp -implicitDefEqProofs only[go_sem,hi];refine⟨1,⟨hlt,?_⟩,Yo,zac (by simp -implicitDefEqProofs only[go_sem];rw[za1 Yo Yo])⟩;rw[he,hi];rfl
    ·have:zfs (s.getD 0 0)=false:=by simpa using h
     rw[zcs,he,this];rfl
   ·have h1:((k:Int)==0)=false:=by simp;omega
    have h2:(0:Int)<k:=by omega
    have hg:s.getD k 0=s[k]:=by simp[List.getD,hlt]
    rw[if_neg h0,Qx hlt,Ke]at hr;simp -implicitDefEqProofs only[go_sem,hlt,h1,h2];refine callF (zg2 (s.getD k 0)) Ym ?_;simp -implicitDefEqProofs only[go_sem];simp only[hg];refine⟨fun h=>⟨hlt,?_⟩,fun h=>?_⟩
    ·refine callF (zqf s[k]) Ym ?_;simp -implicitDefEqProofs only[go_sem];simp only[hg];refine⟨fun h'=>⟨hlt,fun h''=>?_,fun h''=>⟨k+1,⟨hlt,?_⟩,Yo,zac (by simp -implicitDefEqProofs only[go_sem];rw[zaw Yo])⟩⟩,fun h'=>⟨k+1,⟨hlt,?_⟩,Yo,zac (by simp -implicitDefEqProofs only[go_sem];rw[zaw Yo])⟩⟩
     ·have:zmm s[k]=false:=by
       have:=qju (b:=s[k]) (n:=95) Yo;simp[zmm,zk0]at h h'⊢;refine⟨⟨h,h'⟩,fun e=>?_⟩;rw[e]at h'';simp at h''
      rw[zcs,hr,this];rfl
     ·have:zmm s[k]=true:=by
       have:=qju (b:=s[k]) (n:=95) Yo;simp[zmm]at h''⊢;right;simpa[h'']using this
      rw[hr,this];rfl
     ·have:zmm s[k]=true:=by simp[zmm,zk0];simp at h';simp[h']
      rw[hr,this];rfl
    ·refine⟨k+1,⟨hlt,?_⟩,Yo,zac (by simp -implicitDefEqProofs only[go_sem];rw[zaw Yo])⟩;have:zmm s[k]=true:=by simp[zmm,zk0];simp at h;simp[h]
     rw[hr,this];rfl
  ·simp -implicitDefEqProofs only[go_sem,hlt];refine callF (zb2 s.length 1 6) Ym ?_;simp -implicitDefEqProofs only[go_sem];have ha:zkr s=true:=by
    by_cases h0:k=0
    ·have:s=[]:=Q7.1 Yo;rw[this];rfl
    ·rw[hr,if_neg h0,Q6 Yo];rfl
   refine⟨fun h=>?_,fun h=>?_⟩
   ·refine callF (zwv) Ym ?_;simp -implicitDefEqProofs only[go_sem];refine callF (zcz zr0 s) Ym ?_;simp -implicitDefEqProofs only[go_sem];rw[zcs,ha,h];rfl
   ·rw[zcs,ha,h];rfl
end
section
open Go.RowKit Go.Sort Go.Proofs
variable {P:Program}
theorem zti {w:World}:∀{ss:List Str}{vs:List Value}{fps:List Nat},zba w (ss.map T.str) vs fps->vs=ss.map encStr/\fps=[]/\∀s∈ss,s.length<=zfc
 | [],vs,fps,h=>⟨h.1,h.2,by simp⟩
 | s::ss,vs,fps,h=>by
  obtain⟨v,vs',f1,f2,rfl,rfl,h1,h2⟩:=h;unfold za7 at h1;obtain⟨rfl,k1,rfl⟩:=h1;obtain⟨rfl,rfl,k2⟩:=zti h2;exact⟨rfl,rfl,fun x hx=>(Qr.1 hx).elim (fun e=>e▸k1) (k2 x)⟩
theorem zuv {w:World}:∀{ss:List Str},(∀s∈ss,s.length<=zfc)->zba w (ss.map T.str) (ss.map encStr) []
 | [],_=>⟨rfl,rfl⟩
 | s::ss,h=>⟨_,_,[],[],rfl,rfl,by unfold za7;exact⟨rfl,h s (by simp),rfl⟩,zuv fun x hx=>h x (by simp[hx])⟩
theorem zj9 (ss:List Str):(ss.map fun s=>[T.str s]).flatten=ss.map T.str:=by induction ss<;>simp_all
theorem qb1 (ss:List Str):lens 1 (ss.map fun s=>[T.str s]):=fun r hr=>by obtain⟨s,_,rfl⟩:=Ki.1 hr;rfl
abbrev zi0 (ss:List Str):List Str:=ss.mergeSort leB
theorem qk3 {f:FuncId}(hc:zbv P f)(hS:∀(blk off cap:Nat)(ss:List (List UInt8))(w:World),Holds encStr w blk off ss.toArray->blk<w.heap.size->ss.length<4611686018427387904 →
   Calls P f #[.slice (some ⟨blk,off,none⟩) ss.length cap] w fun e w'=>e=.returned (.tuple #[])/\∃n os,w'=grow (putRow encStr (Sort.ahead w n) blk off (ss.mergeSort fun x y=>decide (x<=y)).toArray) os)
  (hN:∀(p:Option Addr) (cap:Nat) (w:World),Calls P f #[.slice p 0 cap] w fun e w'=>e=.returned (.tuple #[])/\w'=w) (ss:List Str) (hl:ss.length<4611686018427387904):IC P f [] (.one (zb5 ss)) [] (.one (zb5 (zi0 ss))) []:=by
 refine⟨hc,fun w us1 v us2 fp tp h1 hg h2 hn=>?_⟩
 rw[show us1=[] from h1,show us2=[] from h2]
 obtain⟨hg,_⟩:=hg
 unfold za7 at hg
 obtain⟨ao,cap,rfl,q1,q2,q3⟩:=hg
 rw[Qa]at q1⊢
 rcases q3 with⟨rfl,rfl,q3,rfl⟩|⟨b,cells,ty,fps,rfl,rfl,q3,q4,q5⟩
 ·have hs:ss=[]:=List.map_eq_nil_iff.1 q3;subst hs;refine(hN none 0 w).mono ?_;rintro e w' ⟨rfl,rfl⟩;refine⟨[],[],[],rfl,⟨_,[],[],[],[],[],rfl,rfl,rfl,⟨?_,rfl⟩,rfl,rfl,rfl⟩,Kp,by simp,Bk.refl _ _⟩;unfold za7;exact⟨none,0,by simp[zi0],by simp[zi0],by simp,Or.inl ⟨rfl,rfl,by simp[zi0],rfl⟩⟩
 ·obtain⟨_,vs,k1,k2,k3⟩:=q5.vals;rw[zj9]at k3;obtain⟨rfl,rfl,k4⟩:=zti k3;have hsz:ss.length<=cells.size:=by omega
  have ht:cells.toList.take ss.length=ss.map encStr:=by
   apply List.ext_getElem?;intro j;by_cases hj:j<ss.length
   ·rw[List.getElem?_take_of_lt hj,Array.getElem?_toList];have:=k2 j _ (List.getElem?_eq_getElem (by simpa using hj));rw[Q5]at this;rw[this,List.getElem?_eq_getElem (by simpa using hj)]
   ·rw[List.getElem?_take_eq_none Yo,List.getElem?_eq_none (by simp;omega)]
  refine(hS b 0 cap ss w (holds_of_block q3 ht) (Array.getElem?_eq_some_iff.1 q3).1 hl).mono ?_;rintro e w' ⟨rfl,n,os,rfl⟩;have hgr:=grownBy_sorted (w:=w) (g:=b) (n:=n) (os:=os) (ss.mergeSort fun x y=>decide (x<=y)).toArray;have hlen:(zi0 ss).length=ss.length:=by simp[zi0]
  have htk:=take_putCells cells (zi0 ss) Yo;refine⟨[],[b],[b],rfl,⟨_,[],[b],[],[b],[],rfl,rfl,rfl,⟨?_,rfl⟩,rfl,rfl,rfl⟩,by simp,fun x hx=>Or.inl hx,⟨hgr.os,hgr.tape,hgr.output,hgr.size,fun k hk=>hgr.block k hk.1 fun e=>hk.2 (by cases e;simp)⟩⟩;unfold za7;refine⟨_,cap,by rw[Qa,hlen],by rw[Qa,hlen];exact q1,q2,Or.inr ⟨b,_,ty,[],rfl,rfl,heap_sorted _ q3,by simp[putCells,q4],?_⟩⟩;refine zao.of_vals (qb1 _) (by rw[zj9];exact zuv fun s hs=>k4 s ((List.mergeSort_perm ss leB).mem_iff.1 hs)) fun j u hu=>?_;rw[<-htk,List.getElem?_take]at hu;split at hu
  ·simpa using hu
  ·cases hu
structure CloneOf (P:Program)(f:FuncId)(sz bytes:Nat):Prop where
 call:zbv P f
 old:∀(ad:Addr) (n c:Nat) (news:List Value) (w:World),news.length=n*sz->n<=maxLen->n*bytes<=140737488355328->(∀j u,news[j]?=some u->w.cell? (ad.add j)=some u)->(∀u∈news,u.oneCell'=true) →
  Calls P f #[.slice (some ad) n c] w fun e w'=>∃t v',e=.returned v'/\w'.ownsRow w.heap.size t sz v' n news/\v'≠.slice none 0 0/\Below w.heap.size w w'
 none:∀(n c:Nat) (w:World),Calls P f #[.slice none n c] w fun e w'=>e=.returned (.slice none 0 0)/\w'=w
theorem zar.valsA {w:World}{A:Nat->Prop}{b sz:Nat}{rows:List (List T)}{o:Nat}(h:zar w A b o sz rows):∃vs,vs.length=rows.length*sz/\(∀j u,vs[j]?=some u->w.cell? ⟨b,o+j,none⟩=some u)/\zaj w A rows.flatten vs/\lens sz rows:=by
 obtain⟨h1,vs,h2,h3,h4⟩:=h.vals
 exact⟨vs,h2,h3,h4,h1⟩
theorem qac {f:FuncId}{sz bytes:Nat}(h:CloneOf P f sz bytes)(rows:List (List T))(hb:rows.length*bytes<=140737488355328){w:World}{A:Nat->Prop}{v:Value}(h1:zas w A (.sl sz rows) v) :
  Calls P f #[v] w fun e w'=>∃v',e=.returned v'/\Below w.heap.size w w'/\((v'=.slice none 0 0/\rows=[])\/∃g cap cur ty vs,v'=.slice (some ⟨g,0,none⟩) rows.length cap/\w.heap.size<=g/\w'.heap[g]?=some (.cells cur ty (0,0))/\rows.length<=cap/\cap<=zfc/\cur.size=cap*sz/\cur.toList.take (rows.length*sz)=vs/\zaj w A rows.flatten vs/\lens sz rows):=by
 unfold zas at h1
 obtain⟨ao,cap,rfl,q1,q2,q3⟩:=h1
 cases ao with
 | none =>
  have hr:rows=[]:=q3.resolve_right fun⟨b,o,e,_⟩=>by cases e
  refine(h.none rows.length cap w).mono ?_;rintro e w' ⟨rfl,rfl⟩;exact⟨_,rfl,Below.refl _ _,Or.inl ⟨rfl,hr⟩⟩
 | some ad =>
  have hx:∃news:List Value,news.length=rows.length*sz/\(∀j u,news[j]?=some u->w.cell? (ad.add j)=some u)/\zaj w A rows.flatten news/\lens sz rows:=by
   rcases q3 with rfl|⟨b',o',e,_,q4⟩
   ·exact⟨[],by simp,fun j u hj=>by simp at hj,by unfold zaj;rfl,fun r hr=>by simp at hr⟩
   ·cases e;obtain⟨news,k1,k2,k3,k4⟩:=q4.valsA;exact⟨news,k1,fun j u hj=>by rw[zff];exact k2 j u hj,k3,k4⟩
  obtain⟨news,k1,k2,k3,k4⟩:=hx;refine(h.old ad rows.length cap news w k1 (by unfold maxLen;have:=q2;unfold zfc at this;omega) hb k2 k3.one).mono ?_;rintro e w' ⟨t,v',rfl,⟨o1,o2⟩,hn,hbel⟩;refine⟨v',rfl,hbel,Or.inr ?_⟩;rcases o2 with⟨e,_⟩|⟨g,cap',cur,e,p1,p2,p3,p4,p5,p6⟩
  ·exact absurd e hn
  ·exact⟨g,cap',cur,t,news,e,p1,p2,p3,by unfold maxLen at p4;omega,p5,p6,k3,k4⟩
theorem qkk {cur:Array Value}{vs:List Value}{n:Nat}(h:cur.toList.take n=vs):∀j u,vs[j]?=some u->cur[0+j]?=some u:=fun j u hu=>by
 rw[<-h,List.getElem?_take]at hu
 split at hu
 ·simpa using hu
 ·cases hu
theorem qfg {f:FuncId}{sz bytes:Nat}(h:CloneOf P f sz bytes)(rows:List (List T))(hb:rows.length*bytes<=140737488355328)(hf:∀c∈rows.flatten,c.flat=true):FC P f [.one (.sl sz rows)] [.one (.sl sz rows)]:=by
 refine⟨h.call,fun w vs fp tp hv hn=>?_⟩
 obtain⟨hr,rfl,rfl⟩:=zeo hv
 obtain⟨v,_,rfl,h1,rfl⟩:=hr
 refine(qac h rows hb h1).mono ?_
 rintro e w' ⟨v',rfl,hbel,hh⟩
 have hB:Bk (fun k=>k<w.heap.size/\k∉([]:List Nat)) w w':=⟨hbel.os,hbel.tape,hbel.output,hbel.size,fun k hk=>hbel.block k hk.1⟩
 rcases hh with⟨rfl,hr⟩|⟨g,cap,cur,ty,vs,rfl,p1,p2,p3,p4,p5,p6,p7,p8⟩
 ·subst hr;refine⟨[_],[],[],rfl,⟨_,[],[],[],[],[],rfl,rfl,rfl,⟨?_,rfl⟩,rfl,rfl,rfl⟩,Kp,by simp,hB⟩;unfold za7;exact⟨Option.none,0,rfl,Qz _,by simp,Or.inl ⟨rfl,rfl,rfl,rfl⟩⟩
 ·refine⟨[_],[g],[g],rfl,⟨_,[],[g],[],[g],[],rfl,rfl,rfl,⟨?_,rfl⟩,rfl,rfl,rfl⟩,by simp,fun b hb=>by rw[Qw.1 hb];exact Or.inr p1,hB⟩;unfold za7;refine⟨_,cap,rfl,p3,p4,Or.inr ⟨g,cur,ty,[],rfl,rfl,p2,p5,?_⟩⟩;have hown:=zaj.own p7 hf;exact zao.of_vals p8 (zba.keep hown fun b hb=>by simp at hb) fun j u hu=>qkk p6 j u hu
theorem zmg (a b:Str):Op.bytesLess a b=decide (a<b):=bytesLess_eq a b
def Srt (xs:List Str):Prop:=xs.Pairwise (·<·)
theorem zn1 (a:Str):¬a<a:=List.lt_irrefl a
theorem zom {xs:List Str}(h:Srt xs):xs.Nodup:=List.Pairwise.imp (fun {a b}(h:a<b)(e:a=b)=>zn1 b (e▸h)) h
theorem qlf {xs ys:List Str}(hx:Srt xs)(hy:Srt ys)(h:∀s,s∈xs↔s∈ys):xs=ys:=by
 have hp:xs.Perm ys:=(List.perm_ext_iff_of_nodup (zom hx) (zom hy)).2 h
 exact hp.eq_of_pairwise (le:=fun a b=>a<b) (fun a b _ _ h1 h2=>absurd (List.lt_trans h1 h2) (zn1 a)) hx hy
theorem qih {a b:Str}(h:a<=b):a<b\/a=b:=by
 by_cases h1:a<b
 ·exact Or.inl h1
 ·exact Or.inr (List.le_antisymm h (List.not_lt.1 h1))
theorem zys (xs:List Str)(s:Str):s∈zi0 xs↔s∈xs:=(List.mergeSort_perm xs leB).mem_iff
theorem qc7 {xs:List Str}(h:xs.Nodup):Srt (zi0 xs):=by
 have tr:∀a b c:List UInt8,leB a b=true->leB b c=true->leB a c=true:=fun a b c h1 h2=>by simp only[leB,Qm]at *;exact List.le_trans h1 h2
 have to:∀a b:List UInt8,(leB a b||leB b a)=true:=fun a b=>by simp only[leB,K7,Qm];exact List.le_total a b
 have hs:=List.pairwise_mergeSort tr to xs
 have hn:(zi0 xs).Nodup:=(List.mergeSort_perm xs leB).nodup_iff.2 h
 refine(List.Pairwise.and hs hn).imp ?_
 rintro a b ⟨h1,h2⟩
 simp only[leB,Qm]at h1
 exact(qih h1).resolve_right h2
def zu7 (l:List Str)(s:Str):List Str:=if(l.dropWhile fun x=>Op.bytesLess x s).head?=some s then l else (l.takeWhile fun x=>Op.bytesLess x s)++[s]++l.dropWhile fun x=>Op.bytesLess x s
theorem qeq (l:List Str)(s x:Str):x∈zu7 l s↔x=s\/x∈l:=by
 have e:l=(l.takeWhile fun x=>Op.bytesLess x s)++l.dropWhile fun x=>Op.bytesLess x s:=(List.takeWhile_append_dropWhile).symm
 unfold zu7
 split
 ·rename_i h;have:s∈l:=by rw[e];exact Jp _ (List.mem_of_mem_head? h)
  exact⟨Or.inr,fun h=>h.elim (fun e=>e▸this) id⟩
 ·conv=>rhs;rw[e]
  simp only[Qt,Qw,or_assoc];constructor
  ·rintro(h|h|h)
   ·exact Or.inr (Or.inl h)
   ·exact Or.inl h
   ·exact Or.inr (Or.inr h)
  ·rintro(h|h|h)
   ·exact Or.inr (Or.inl h)
   ·exact Or.inl h
   ·exact Or.inr (Or.inr h)
theorem zkw {l:List Str}{p:Str->Bool}{x:Str}(h:(l.dropWhile p).head?=some x):p x=false:=by
 induction l with
 | nil=>simp at h
 | cons a l ih =>
  rw[List.dropWhile_cons]at h;split at h
  ·exact ih h
  ·rename_i hp;simp only[List.head?_cons,Qe]at h;subst h;simpa using hp
theorem qfj {l:List Str}(h:Srt l)(s:Str):Srt (zu7 l s):=by
 unfold zu7
 split
 ·exact h
 ·rename_i hne;have e:(l.takeWhile fun x=>Op.bytesLess x s)++(l.dropWhile fun x=>Op.bytesLess x s)=l:=List.takeWhile_append_dropWhile;have h':=h;rw[<-e]at h';obtain⟨h1,h2,h3⟩:=List.pairwise_append.1 h';have ht:∀a∈l.takeWhile fun x=>Op.bytesLess x s,a<s:=fun a ha=>by
   have:=List.all_takeWhile (l:=l) (p:=fun x=>Op.bytesLess x s);have:=Qn.1 this a ha;rw[zmg]at this;exact Jj this
  have hd:∀a∈l.dropWhile fun x=>Op.bytesLess x s,s<a:=fun a ha=>by
   cases hD:l.dropWhile fun x=>Op.bytesLess x s with
   | nil=>rw[hD]at ha;simp at ha
   | cons y ys =>
    have hy:=zkw (l:=l) (p:=fun x=>Op.bytesLess x s) (x:=y) (by rw[hD];rfl);have hys:s<y:=by
     have h0:¬y<s:=by rw[zmg]at hy;exact of_decide_eq_false hy
     rcases qih (List.not_lt.1 h0)with h|h
     ·exact h
     ·exact absurd (by rw[hD,h];rfl) hne
    rw[hD]at ha h2;rcases Qr.1 ha with rfl|ha
    ·exact hys
    ·exact List.lt_trans hys ((Jz.1 h2).1 a ha)
  rw[Ji];refine List.pairwise_append.2 ⟨h1,?_,fun a ha b hb=>?_⟩
  ·exact Jz.2 ⟨hd,h2⟩
  ·rcases Qr.1 hb with rfl|hb
   ·exact ht a ha
   ·exact h3 a ha b hb
end
section
open Go.RowKit
theorem Tm.wt_args {a:Tm}{n:Nat}(h:a.wt<=n):a.args.length<=n/\∀x∈a.args,x.wt<=n:=by
 have e:=Tm.wt_eq a
 refine⟨Yo,fun x hx=>?_⟩
 have:=zb8 Tm.wt a.args x hx
 omega
theorem Fm.wt_parts {f:Fm}{n:Nat}(h:f.wt<=n):f.atom.wt<=n/\f.parts.length<=n/\∀x∈f.parts,x.wt<=n:=by
 have e:=Fm.wt_eq f
 refine⟨Yo,Yo,fun x hx=>?_⟩
 have:=zb8 Fm.wt f.parts x hx
 omega
set_option maxRecDepth 10000 in
theorem zp0 (xs:List Tm)(H:∀x∈xs,FC Tryz.prog 105 [tmD x] [tmD x])(hs:xs.length<=1048576) :
  FC Tryz.prog 128 [.one (tmS xs)] [.one (tmS xs)]:=by
 by_cases h0:xs=[]
 ·subst h0;refine zai Tryz.call128 Tryz.func128 rfl Yn (zau Yn) ?_;simp -implicitDefEqProofs only[go_sem,Tryz.results128]
 ·have hp:((xs.length:Int)==0)=false:=by
   have:0<xs.length:=List.length_pos_iff.2 h0;simp;omega
  refine zai Tryz.call128 Tryz.func128 rfl Yn (zau Yn) ?_;simp -implicitDefEqProofs only[go_sem,Tryz.results128,hp];refine makeD (by simp -implicitDefEqProofs only[go_sem];omega) ?_;simp -implicitDefEqProofs only[go_sem];refine zaf (fun k:Nat=>hd [(12,vT (tmS xs)),(13,vI xs.length),(3,.one (.ow 352 0)),(14,vI k)] [] [(352,⟨true,2,(xs.take k).map tmC++List.replicate (xs.length-k) [T.str [],T.sl 2 []],0,true⟩)]) (fun k=>k<=xs.length) (fun k=>xs.length-k) 0 (zac ?_) ?_ ?_
  ·simp -implicitDefEqProofs only[go_sem];simp
  ·simp
  ·intro k hk;by_cases hlt:k<xs.length
   ·have hlen:((xs.take k).map tmC++List.replicate (xs.length-k) [T.str [],T.sl 2 []]).length=xs.length:=by simp;omega
    have hlt2:k<k+(xs.length-k):=by omega
    simp -implicitDefEqProofs only[go_sem,Qa,zae,hlt,zab];refine callF (H xs[k] (Qj hlt)) (by simp -implicitDefEqProofs only[go_sem,zab,hlen,hlt,Qi,Qa,Qs,K5,Jy hk,hlt2]) ?_;simp -implicitDefEqProofs only[go_sem,zab,hlen,hlt,Qi,Qa,Qs,K5,Jy hk,hlt2];refine qho (by simp -implicitDefEqProofs only[go_sem];simp) ?_;simp -implicitDefEqProofs only[go_sem];rw[zaw Yo];refine⟨k+1,Yo,Yo,zac ?_⟩;simp -implicitDefEqProofs only[go_sem];have hf:=zox ((xs.take k).map tmC) xs.length k [T.str [],T.sl 2 []] (tmC xs[k]) (by simp;omega) hlt (by simp[zab]);simp only[zab]at hf;rw[hf,Qk hlt,Qy,Kj];simp only[zab]
   ·simp -implicitDefEqProofs only[go_sem,Qa,hlt];simp[Qu (show xs.length<=k by omega),show xs.length-k=0 by omega]
theorem zq5 (a:Tm)(H:FC Tryz.prog 128 [.one (tmS a.args)] [.one (tmS a.args)]):FC Tryz.prog 105 [tmD a] [tmD a]:=by
 simp only[tmD,zab a]
 refine zai Tryz.call105 Tryz.func105 rfl Yn (zau Yn) ?_
 simp -implicitDefEqProofs only[go_sem,Tryz.results105]
 refine drawn Yn ?_
 simp -implicitDefEqProofs only[go_sem]
 refine zal (H) Ym ?_
 simp -implicitDefEqProofs only[go_sem]
 kernel_rfl
theorem qel (a:Tm)(H:∀x∈a.args,FC Tryz.prog 69 [tmD x] [tmD x])(hs:a.args.length<=1048576):FC Tryz.prog 69 [tmD a] [tmD a]:=by
 simp only[tmD,zab a]
 refine zai Tryz.call69 Tryz.func69 rfl Yn (zau Yn) ?_
 simp -implicitDefEqProofs only[go_sem,Tryz.results69]
 refine zaf (fun k:Nat=>hd [(1,.one (.bx 1 0)),(2,.one (.bx 2 0)),(3,.one (.bx 3 0)),(4,vI k)] [(1,[.t (.str a.name),.t (tmS a.args)]),(2,[.t (.str []),.nl 2]),(3,[.t (.str a.name),.ow 3000 0])] [(3000,⟨true,2,(a.args.take k).map tmC,0,true⟩)]) (fun k=>k<=a.args.length) (fun k=>a.args.length-k) 0 (zac ?_) ?_ ?_
 ·simp -implicitDefEqProofs only[go_sem]
 ·simp
 ·intro k hk;by_cases hlt:k<a.args.length
  ·simp -implicitDefEqProofs only[go_sem,hlt];refine drawn Yn ?_;have hmin:min k a.args.length<=4294967295:=by omega
   simp -implicitDefEqProofs only[go_sem,zae,hlt,zab];refine zal (H a.args[k] (Qj hlt)) (by simp -implicitDefEqProofs only[go_sem,zab]) ?_;simp -implicitDefEqProofs only[go_sem,zab];refine za2 Ym ?_;simp -implicitDefEqProofs only[go_sem];refine zgr true (by simp -implicitDefEqProofs only[go_sem,ne_eq,Qa,Qs,hmin]) ?_;simp -implicitDefEqProofs only[go_sem,ne_eq,Qa,Qs,hmin];refine⟨Yn,k+1,hlt,Yo,zac ?_⟩;simp -implicitDefEqProofs only[go_sem];rw[zaw Yo,Qk hlt,Qy,Kj];simp only[zab]
   trivial
  ·have ht:a.args.take k=a.args:=Qu Yo;simp -implicitDefEqProofs only[go_sem,hlt,ht]
theorem zid:∀a:Tm,a.wt<=1048576->FC Tryz.prog 105 [tmD a] [tmD a] :=
 zby fun n xs ih hs=>by
  obtain⟨h1,h2⟩:=Tm.wt_args hs;exact zq5 (.mk n xs) (zp0 xs (fun x hx=>ih x hx (h2 x hx)) h1)
theorem zsu:∀a:Tm,a.wt<=1048576->FC Tryz.prog 69 [tmD a] [tmD a] :=
 zby fun n xs ih hs=>by
  obtain⟨h1,h2⟩:=Tm.wt_args hs;exact qel (.mk n xs) (fun x hx=>ih x hx (h2 x hx)) h1
theorem qe5 (a:Fm)(H:∀x∈a.parts,FC Tryz.prog 140 [fmD x] [fmD x])(h0:a.atom.wt<=1048576)(hs:a.parts.length<=1048576):FC Tryz.prog 140 [fmD a] [fmD a]:=by
 simp only[fmD,zaa a]
 refine zai Tryz.call140 Tryz.func140 rfl Yn (zau Yn) ?_
 simp -implicitDefEqProofs only[go_sem,Tryz.results140]
 refine drawn Yn ?_
 simp -implicitDefEqProofs only[go_sem]
 refine zal (zsu a.atom h0) (by simp -implicitDefEqProofs only[go_sem,zab]) ?_
 simp -implicitDefEqProofs only[go_sem,zab]
 refine⟨Yn,?_⟩
 refine zaf (fun k:Nat=>hd [(1,.one (.bx 1 0)),(2,.one (.bx 2 0)),(3,.one (.bx 3 0)),(4,vI k)] [(1,[.t (.int .i64 a.op),.t (.str a.atom.name),.t (tmS a.atom.args),.t (.str a.var),.t (fmS a.parts)]),(2,[.t (.int .i64 0),.t (.str []),.nl 2,.t (.str []),.nl 5]),(3,[.t (.int .i64 a.op),.t (.str a.atom.name),.ow 289 0,.t (.str a.var),.ow 3000 0])]
  [(289,⟨true,2,a.atom.args.map tmC,0,true⟩),(3000,⟨true,5,(a.parts.take k).map fmC,0,true⟩)]) (fun k=>k<=a.parts.length) (fun k=>a.parts.length-k) 0 (zac ?_) ?_ ?_
 ·simp -implicitDefEqProofs only[go_sem]
 ·simp
 ·intro k hk;by_cases hlt:k<a.parts.length
  ·simp -implicitDefEqProofs only[go_sem,hlt];refine drawn Yn ?_;have hmin:min k a.parts.length<=4294967295:=by omega
   simp -implicitDefEqProofs only[go_sem,zae,hlt,zaa];refine zal (H a.parts[k] (Qj hlt)) (by simp -implicitDefEqProofs only[go_sem,zaa]) ?_;simp -implicitDefEqProofs only[go_sem,zaa];refine za2 Ym ?_;simp -implicitDefEqProofs only[go_sem];refine zgr true (by simp -implicitDefEqProofs only[go_sem,ne_eq,Qa,Qs,hmin]) ?_;simp -implicitDefEqProofs only[go_sem,ne_eq,Qa,Qs,hmin];refine⟨Yn,k+1,hlt,Yo,zac ?_⟩;simp -implicitDefEqProofs only[go_sem];rw[zaw Yo,Qk hlt,Qy,Kj];simp only[zaa]
   trivial
  ·have ht:a.parts.take k=a.parts:=Qu Yo;simp -implicitDefEqProofs only[go_sem,hlt,ht]
theorem zic:∀a:Fm,a.wt<=1048576->FC Tryz.prog 140 [fmD a] [fmD a] :=
 zcc fun o t v ps ih hs=>by
  obtain⟨h1,h2,h3⟩:=Fm.wt_parts hs;exact qe5 (.mk o t v ps) (fun x hx=>ih x hx (h3 x hx)) h1 h2
theorem zrq (a:Fm)(g:FuncId)(φ:Fm->Fm)(H:∀x∈a.parts,FC Tryz.prog g [fmD x] [fmD (φ x)])(h0:a.atom.wt<=1048576)(hs:a.parts.length<=1048576):FC Tryz.prog 257 [fmD a,.one (.fn g [])] [fmD (.mk a.op a.atom a.var (a.parts.map φ))]:=by
 simp only[fmD,zaa a,zdc]
 refine zai Tryz.call257 Tryz.func257 rfl Yn (zau Yn) ?_
 simp -implicitDefEqProofs only[go_sem,Tryz.results257]
 refine drawn Yn ?_
 simp -implicitDefEqProofs only[go_sem]
 refine zal (zid a.atom h0) (by simp -implicitDefEqProofs only[go_sem,zab]) ?_
 simp -implicitDefEqProofs only[go_sem,zab]
 refine⟨Yn,?_⟩
 refine zaf (fun k:Nat=>hd [(1,.one (.t (.fn g []))),(4,.one (.bx 4 0)),(5,.one (.bx 5 0)),(17,vT (fmS a.parts)),(18,vI a.parts.length),(19,vI k)] [(4,[.t (.int .i64 0),.t (.str []),.nl 2,.t (.str []),.nl 5]),(5,[.t (.int .i64 a.op),.t (.str a.atom.name),.ow 385 0,.t (.str a.var),.ow 3000 0])]
  [(385,⟨true,2,a.atom.args.map tmC,0,true⟩),(3000,⟨true,5,(a.parts.take k).map fun x=>fmC (φ x),0,true⟩)]) (fun k=>k<=a.parts.length) (fun k=>a.parts.length-k) 0 (zac ?_) ?_ ?_
 ·simp -implicitDefEqProofs only[go_sem]
 ·simp
 ·intro k hk;by_cases hlt:k<a.parts.length
  ·have hmin:min k a.parts.length<=4294967295:=by omega
   simp -implicitDefEqProofs only[go_sem,zae,hlt,zaa a.parts[k]];refine drawn Yn ?_;simp -implicitDefEqProofs only[go_sem];refine zal (H a.parts[k] (Qj hlt)) (by simp -implicitDefEqProofs only[go_sem,zaa]) ?_;simp -implicitDefEqProofs only[go_sem,zaa];refine za2 Ym ?_;simp -implicitDefEqProofs only[go_sem];refine zgr true (by simp -implicitDefEqProofs only[go_sem,ne_eq,Qa,Qs,hmin]) ?_;simp -implicitDefEqProofs only[go_sem,ne_eq,Qa,Qs,hmin];refine⟨Yn,k+1,hlt,Yo,zac ?_⟩;simp -implicitDefEqProofs only[go_sem];rw[zaw Yo,Qk hlt,Qy,Kj];simp only[zaa]
   trivial
  ·have ht:a.parts.take k=a.parts:=Qu Yo;simp -implicitDefEqProofs only[go_sem,hlt,ht];rfl
set_option maxRecDepth 10000 in
theorem zg1:∀a:Fm,a.wt<=1048576->FC Tryz.prog 211 [fmD a] [fmD a] :=
 zcc fun o t v ps ih hs=>by
  obtain⟨h1,h2,h3⟩:=Fm.wt_parts hs;have H:=zrq (.mk o t v ps) 211 (fun x=>x) (fun x hx=>ih x hx (h3 x hx)) h1 h2;simp only[Fm.op,Fm.atom,Fm.var,Fm.parts,List.map_id']at H;simp only[fmD,zdc]at H⊢;refine zai Tryz.call211 Tryz.func211 rfl Yn (zau Yn) ?_;simp -implicitDefEqProofs only[go_sem,Tryz.results211];refine callF (H) Ym ?_;simp -implicitDefEqProofs only[go_sem]
  trace_state
end
section
open Go.RowKit
theorem ql9 {P:Program}{t:TypeId}{n b:Nat}{z:List C}(h1:zbt P t=some n)(h2:zd6 P t=some b)(h3:zc5 P t=some z)(h4:z.length=n):∃i0 zv,P.info? t=some i0/\i0.zero=some zv/\zv.cells.size=n/\i0.size=n/\i0.bytes=b:=by
 unfold zbt at h1
 unfold zd6 at h2
 unfold zc5 at h3
 cases hi:P.info? t with
 | none=>rw[hi]at h1;cases h1
 | some i =>
  rw[hi]at h1 h2 h3;simp only[Kc,Qe]at h1 h2;simp only[Q9]at h3;cases hz:i.zero with
  | none=>rw[hz]at h3;cases h3
  | some zv =>
   rw[hz]at h3;simp only[Kc,Qe]at h3;refine⟨i,zv,rfl,hz,?_,h1,h2⟩;rw[<-h4,<-h3];simp
abbrev zo1 (xs:List Int):T:=.sl 1 (xs.map fun s=>[.int .i64 s])
end
section
open Go.RowKit
theorem qlt {b:UInt8}(h1:decide ((b.toNat:Int)<65)=false)(h2:decide ((90:Int)<b.toNat)=false):zik b=true:=by
 simp[zik]at *;omega
theorem qd4 {b:UInt8}(h1:decide ((b.toNat:Int)<65)=true):zik b=false:=by
 simp[zik]at *;omega
theorem qdv {b:UInt8}(h2:decide ((90:Int)<b.toNat)=true):zik b=false:=by
 simp[zik]at *;omega
theorem qga {b:UInt8}(h1:decide ((b.toNat:Int)<97)=false)(h2:decide ((122:Int)<b.toNat)=false):zfs b=true:=by
 simp[zfs]at *;omega
theorem qa8 {b:UInt8}(h1:decide ((b.toNat:Int)<97)=true):zfs b=false:=by
 simp[zfs]at *;omega
theorem zyy {b:UInt8}(h2:decide ((122:Int)<b.toNat)=true):zfs b=false:=by
 simp[zfs]at *;omega
theorem zt7 {s:Str}(h:0<s.length):zrh s=(zik (s.getD 0 0)&&(s.drop 1).all zk0):=by
 cases s
 ·exact absurd h (by simp)
 ·rfl
theorem zon {s:Str}(h:0<s.length):zkr s=(zfs (s.getD 0 0)&&(s.drop 1).all zmm):=by
 cases s
 ·exact absurd h (by simp)
 ·rfl
theorem zib (s:Str):FC Tryz.prog 120 [sD s] [bD (za9 s)]:=by
 refine zfa (fun hw=>?_) Tryz.call120
 have hl:s.length<=9223372036854775807:=by simpa[ziy,wfT]using hw.1
 refine zai Tryz.call120 Tryz.func120 rfl Yn (zau Yn) ?_
 simp -implicitDefEqProofs only[go_sem,Tryz.results120]
 refine callF (zey s.length 1 4) Ym ?_
 simp -implicitDefEqProofs only[go_sem]
 by_cases hb:inB s.length 1 4=true
 ·have hp:0<s.length:=by simp[inB]at hb;omega
  have hp':(0:Int)<s.length:=by omega
  have he:=zt7 hp;refine⟨fun h=>⟨hp',fun h1=>⟨hp',fun h2=>?_,fun h2=>?_⟩,fun h1=>?_⟩,fun h=>by simp[hb]at h⟩
  ·rw[za9,he,qdv h2];rfl
  ·rw[qlt h1 h2,Qv]at he;refine zaf (fun k:Nat=>hd [(0,vT (.str s)),(3,vI k)] [] []) (fun k=>k<=s.length/\zrh s=(s.drop k).all zk0) (fun k=>s.length-k) 1 (zac ?_) ?_ ?_
   ·simp -implicitDefEqProofs only[go_sem]
   ·exact⟨hp,he⟩
   ·intro k ⟨hk,hr⟩;by_cases hlt:k<s.length
    ·have hg:s.getD k 0=s[k]:=by simp[List.getD,hlt]
     rw[Qx hlt,Ke]at hr;simp -implicitDefEqProofs only[go_sem,hlt];simp only[hg];refine callF (zjn s[k]) Ym ?_;simp -implicitDefEqProofs only[go_sem];refine⟨fun h=>?_,fun h=>⟨k+1,⟨hlt,?_⟩,Yo,zac (by simp -implicitDefEqProofs only[go_sem];rw[zaw Yo])⟩⟩
     ·have:zk0 s[k]=false:=by simpa using h
      rw[za9,hr,this];rfl
     ·have:zk0 s[k]=true:=by simpa using h
      rw[hr,this];rfl
    ·simp -implicitDefEqProofs only[go_sem,hlt];rw[za9,hr,Q6 Yo,hb];rfl
  ·rw[za9,he,qd4 h1];rfl
 ·have hb':inB s.length 1 4=false:=by simpa using hb
  refine⟨fun h=>by simp[hb']at h,fun h=>?_⟩;rw[za9,hb',Ka]
theorem zln (s:Str):FC Tryz.prog 182 [sD s] [bD (zcs s)]:=by
 refine zfa (fun hw=>?_) Tryz.call182
 have hl:s.length<=9223372036854775807:=by simpa[ziy,wfT]using hw.1
 refine zai Tryz.call182 Tryz.func182 rfl Yn (zau Yn) ?_
 simp -implicitDefEqProofs only[go_sem,Tryz.results182]
 refine callF (zey s.length 1 6) Ym ?_
 simp -implicitDefEqProofs only[go_sem]
 by_cases hb:inB s.length 1 6=true
 ·have hp:0<s.length:=by simp[inB]at hb;omega
  have hp':(0:Int)<s.length:=by omega
  have he:=zon hp;refine⟨fun h=>⟨hp',fun h1=>⟨hp',fun h2=>?_,fun h2=>?_⟩,fun h1=>?_⟩,fun h=>by simp[hb]at h⟩
  ·rw[zcs,he,zyy h2];rfl
  ·rw[qga h1 h2,Qv]at he;have leaf:∀l,l∈zr0->(s==l)=true->T.bool false=T.bool (zcs s):=fun l hl e=>by
    have:zr0.contains s=true:=by rw[Kh,Kr.1 e];exact hl
    rw[zcs,this,Kd,Ka]
   refine⟨fun e=>⟨fun _=>leaf _ (by simp[zr0]) e,fun e'=>absurd (e.symm.trans e') (by simp)⟩,fun n1=>?_⟩;refine⟨fun e=>⟨fun _=>leaf _ (by simp[zr0]) e,fun e'=>absurd (e.symm.trans e') (by simp)⟩,fun n2=>?_⟩;refine⟨fun e=>⟨fun _=>leaf _ (by simp[zr0]) e,fun e'=>absurd (e.symm.trans e') (by simp)⟩,fun n3=>?_⟩;refine⟨fun e=>⟨fun _=>leaf _ (by simp[zr0]) e,fun e'=>absurd (e.symm.trans e') (by simp)⟩,fun n4=>?_⟩;refine⟨fun e=>⟨fun _=>leaf _ (by simp[zr0]) e,fun e'=>absurd (e.symm.trans e') (by simp)⟩,fun n5=>?_⟩;refine⟨fun e=>⟨fun _=>leaf _ (by simp[zr0]) e,fun e'=>absurd (e.symm.trans e') (by simp)⟩,fun n6=>?_⟩;refine⟨fun e=>⟨fun _=>leaf _ (by simp[zr0]) e,fun e'=>absurd (e.symm.trans e') (by simp)⟩,fun n7=>?_⟩;refine⟨fun e=>leaf _ (by simp[zr0]) e,fun n8=>?_⟩;have hnc:zr0.contains s=false:=by
    simp only[Ql,ne_eq]at n1 n2 n3 n4 n5 n6 n7 n8;rw[Yg,ne_eq,Kh];simp only[zr0,Qr,Kn,or_false,not_or];exact⟨n1,n2,n3,n4,n5,n6,n7,n8⟩
   refine zaf (fun k:Nat=>hd [(0,vT (.str s)),(3,vI k)] [] []) (fun k=>k<=s.length/\zkr s=(s.drop k).all zmm) (fun k=>s.length-k) 1 (zac ?_) ?_ ?_
   ·simp -implicitDefEqProofs only[go_sem]
   ·exact⟨hp,he⟩
   ·intro k ⟨hk,hr⟩;by_cases hlt:k<s.length
    ·have hg:s.getD k 0=s[k]:=by simp[List.getD,hlt]
     rw[Qx hlt,Ke]at hr;simp -implicitDefEqProofs only[go_sem,hlt];simp only[hg];refine callF (zjn s[k]) Ym ?_;simp -implicitDefEqProofs only[go_sem];simp only[hg];refine⟨fun h=>⟨hlt,fun h'=>?_,fun h'=>⟨k+1,⟨hlt,?_⟩,Yo,zac (by simp -implicitDefEqProofs only[go_sem];rw[zaw Yo])⟩⟩,fun h=>⟨k+1,⟨hlt,?_⟩,Yo,zac (by simp -implicitDefEqProofs only[go_sem];rw[zaw Yo])⟩⟩
     ·have:zmm s[k]=false:=by
       simp[zmm]at h⊢;refine⟨h,fun e=>?_⟩;rw[e]at h';simp at h'
      rw[zcs,hr,this];rfl
     ·have:zmm s[k]=true:=by
       have:=qju (b:=s[k]) (n:=95) Yo;simp[zmm]at h'⊢;right;simpa[h']using this
      rw[hr,this];rfl
     ·have:zmm s[k]=true:=by simp[zmm];simp at h;simp[h]
      rw[hr,this];rfl
    ·simp -implicitDefEqProofs only[go_sem,hlt];rw[zcs,hr,Q6 Yo,hb,hnc];rfl
  ·rw[zcs,he,qa8 h1];rfl
 ·have hb':inB s.length 1 6=false:=by simpa using hb
  refine⟨fun h=>by simp[hb']at h,fun h=>?_⟩;rw[zcs,hb',Ka];rfl
end
section
open Go.RowKit
def Tm.nodes:Tm->Nat:=Tm.fold fun _ _ rs=>1+rs.sum
theorem Tm.nodes_eq (a:Tm):a.nodes=1+(a.args.map Tm.nodes).sum:=Tm.fold_eq _ a
def Tm.depth:Tm->Nat:=Tm.fold fun _ _ rs=>rs.foldl max 0+1
theorem Tm.depth_eq (a:Tm):a.depth=(a.args.map Tm.depth).foldl max 0+1:=Tm.fold_eq _ a
theorem ze8:∀a:Tm,a.nodes<=1+a.wt:=by
 refine zby fun n xs ih=>?_
 rw[Tm.nodes_eq,Tm.wt_eq]
 show 1+(xs.map Tm.nodes).sum<=1+(n.length+xs.length+(xs.map Tm.wt).sum)
 have:(xs.map Tm.nodes).sum<=xs.length+(xs.map Tm.wt).sum:=by
  clear n;induction xs with
  | nil=>simp
  | cons x xs ih2 =>
   have h1:=ih x (by simp);have h2:=ih2 fun y hy=>ih y (by simp[hy]);simp only[Qg,Q2,Qc];omega
 omega
theorem zii {B:Nat}:∀(xs:List Nat)(m:Nat),m<=B->(∀x∈xs,x<=B)->xs.foldl max m<=B
 | [],m,h,_=>h
 | x::xs,m,h,h2=>zii xs (max m x) (by have:=h2 x (by simp);omega) fun y hy=>h2 y (by simp[hy])
theorem zjq:∀a:Tm,a.depth<=a.nodes:=by
 refine zby fun n xs ih=>?_
 rw[Tm.nodes_eq,Tm.depth_eq]
 show(xs.map Tm.depth).foldl max 0+1<=1+(xs.map Tm.nodes).sum
 have:=zii (B:=(xs.map Tm.nodes).sum) (xs.map Tm.depth) 0 Yo fun d hd=>by
  obtain⟨x,hx,rfl⟩:=Ki.1 hd;exact Kk (ih x hx) (zb8 Tm.nodes xs x hx)
 omega
def szL (lim:Int):Int->List Int->Int
 | n,[]=>n
 | n,r::rs=>if n>lim then n else szL lim (n+r) rs
def zfp:Tm->Int:=Tm.fold fun _ _ rs=>szL 30 1 rs
theorem zsy (a:Tm):zfp a=szL 30 1 (a.args.map zfp):=Tm.fold_eq _ a
theorem zn8 {α:Type}(f:α->Int)(g:α->Nat)(lim:Int):∀(xs:List α)(n:Int),0<=n->(∀x∈xs,1<=f x/\f x<=g x/\(f x<=lim->f x=g x))->szL lim n (xs.map f)<=n+(xs.map g).sum/\n<=szL lim n (xs.map f)/\(szL lim n (xs.map f)<=lim->szL lim n (xs.map f)=n+(xs.map g).sum)
 | [],n,_,_=>by simp[szL]
 | x::xs,n,hn,h=>by
  obtain⟨h1,h2,h3⟩:=h x (by simp);obtain⟨k1,k2,k3⟩:=zn8 f g lim xs (n+f x) Yo fun y hy=>h y (by simp[hy]);simp only[Qg,szL,Q2];split
  ·refine⟨Yo,Yo,fun hh=>by omega⟩
  ·refine⟨Yo,Yo,fun hh=>?_⟩;have:=k3 hh;rw[this];have:f x=g x:=h3 Yo;omega
theorem zlf:∀a:Tm,1<=zfp a/\zfp a<=a.nodes/\(zfp a<=30->zfp a=a.nodes):=by
 refine zby fun n xs ih=>?_
 rw[zsy,Tm.nodes_eq]
 show 1<=szL 30 1 (xs.map zfp)/\szL 30 1 (xs.map zfp)<=((1+(xs.map Tm.nodes).sum:Nat):Int)/\_
 obtain⟨k1,k2,k3⟩:=zn8 zfp Tm.nodes 30 xs 1 Yo ih
 refine⟨k2,Yo,fun h=>?_⟩
 have:=k3 h
 show szL 30 1 (xs.map zfp)=_
 rw[this];show _=((1+(xs.map Tm.nodes).sum:Nat):Int);omega
theorem qdm (a:Tm):decide (zfp a<=30)=decide (a.nodes<=30):=by
 obtain⟨h1,h2,h3⟩:=zlf a
 rw[J5]
 exact⟨fun h=>by have:=h3 h;omega,fun h=>by omega⟩
def qfe {α:Type}(f:α->Nat)(xs:List α)(k:Nat):Nat:=((xs.drop k).map f).sum
theorem zht {α:Type}(f:α->Nat)(xs:List α):qfe f xs 0=(xs.map f).sum:=by simp[qfe]
theorem zm1 {α:Type}(f:α->Nat)(xs:List α)(k:Nat)(h:k<xs.length):qfe f xs k=f xs[k]+qfe f xs (k+1):=by
 unfold qfe
 rw[Qx h,Qg,Q2]
theorem ql6 (a:Tm)(hs:a.wt<=1099511627776)(H:∀x∈a.args,FC Tryz.prog 194 [tmD x] [iD (zfp x)]):FC Tryz.prog 194 [tmD a] [iD (zfp a)]:=by
 refine zfa (fun hw=>?_) Tryz.call194
 have hl:a.args.length<=9223372036854775807:=by rw[Tm.wt_eq]at hs;omega
 have hn:=ze8 a
 have hN:=a.nodes_eq
 simp only[tmD,zab]
 refine zai Tryz.call194 Tryz.func194 rfl Yn (zau Yn) ?_
 simp -implicitDefEqProofs only[go_sem,Tryz.results194]
 refine zaf (fun p:Nat×Int=>hd [(3,vI p.2),(7,vT (tmS a.args)),(8,vI a.args.length),(9,vI p.1)] [] []) (fun p=>p.1<=a.args.length/\zfp a=szL 30 p.2 ((a.args.drop p.1).map zfp)/\1<=p.2/\p.2+qfe Tm.nodes a.args p.1<=a.nodes) (fun p=>a.args.length-p.1) (0,1) (zac ?_) ?_ ?_
 ·simp -implicitDefEqProofs only[go_sem]
 ·exact⟨by simp,by rw[zsy];rfl,Yo,by rw[zht];omega⟩
 ·intro ⟨k,n⟩ ⟨hk,hr,h1,h2⟩;simp only at hk hr h1 h2;by_cases hlt:k<a.args.length
  ·have hd:=zm1 Tm.nodes a.args k hlt;obtain⟨s1,s2,s3⟩:=zlf a.args[k];rw[Qx hlt,Qg,szL]at hr;simp -implicitDefEqProofs only[go_sem,zae,hlt,zab];refine⟨fun h=>?_,fun h=>?_⟩
   ·rw[hr,if_pos (by simpa using h)]
   ·refine callF (H a.args[k] (Qj hlt)) (by simp -implicitDefEqProofs only[go_sem,zab]) ?_;simp -implicitDefEqProofs only[go_sem,zab];rw[if_neg (by simpa using h)]at hr;exact⟨(k+1,n+zfp a.args[k]),⟨hlt,hr,by simp only;omega,by simp only;omega⟩,by simp only;omega,zac (by simp -implicitDefEqProofs only[go_sem];rw[zaw Yo,za1 Yo Yo];exact⟨rfl,rfl⟩)⟩
  ·simp -implicitDefEqProofs only[go_sem,hlt];rw[hr,Q6 Yo];rfl
theorem size_c:∀a:Tm,a.wt<=1099511627776->FC Tryz.prog 194 [tmD a] [iD (zfp a)] :=
 zby fun n xs ih hs=>ql6 (.mk n xs) hs fun x hx=>ih x hx (by
  have:=Tm.wt_eq (.mk n xs);have:=zb8 Tm.wt xs x hx
  simp only[Tm.args]at *;omega)
theorem qfw (a:Tm)(hs:a.wt<=1099511627776)(H:∀x∈a.args,FC Tryz.prog 129 [tmD x] [iD x.depth]):FC Tryz.prog 129 [tmD a] [iD a.depth]:=by
 have hl:a.args.length<=9223372036854775807:=by rw[Tm.wt_eq]at hs;omega
 have hn:=ze8 a
 have hdn:=zjq a
 have hD:=a.depth_eq
 simp only[tmD,zab]
 refine zai Tryz.call129 Tryz.func129 rfl Yn (zau Yn) ?_
 simp -implicitDefEqProofs only[go_sem,Tryz.results129]
 refine zaf (fun p:Nat×Nat=>hd [(3,vI p.2),(7,vT (tmS a.args)),(8,vI a.args.length),(9,vI p.1)] [] []) (fun p=>p.1<=a.args.length/\a.depth=((a.args.drop p.1).map Tm.depth).foldl max p.2+1) (fun p=>a.args.length-p.1) (0,0) (zac ?_) ?_ ?_
 ·simp -implicitDefEqProofs only[go_sem]
 ·exact⟨by simp,hD⟩
 ·intro ⟨k,n⟩ ⟨hk,hr⟩;simp only at hk hr;by_cases hlt:k<a.args.length
  ·rw[Qx hlt,Qg,Jw]at hr;simp -implicitDefEqProofs only[go_sem,zae,hlt,zab];refine callF (H a.args[k] (Qj hlt)) (by simp -implicitDefEqProofs only[go_sem,zab]) ?_;simp -implicitDefEqProofs only[go_sem,zab];exact⟨(k+1,max n a.args[k].depth),⟨hlt,hr⟩,by simp only;omega,zac (by simp -implicitDefEqProofs only[go_sem];rw[zaw Yo];exact⟨by congr 1;omega,rfl⟩)⟩
  ·simp -implicitDefEqProofs only[go_sem,hlt];rw[Q6 Yo]at hr;simp only[Qh,List.foldl_nil]at hr;rw[hr,zaw Yo]
theorem qko:∀a:Tm,a.wt<=1099511627776->FC Tryz.prog 129 [tmD a] [iD a.depth] :=
 zby fun n xs ih hs=>qfw (.mk n xs) hs fun x hx=>ih x hx (by
  have:=Tm.wt_eq (.mk n xs);have:=zb8 Tm.wt xs x hx
  simp only[Tm.args]at *;omega)
def zd5 (a:Tm):Bool:=decide (a.nodes<=30)&&decide (a.depth<=8)
theorem zqh (a:Tm)(hs:a.wt<=1099511627776):FC Tryz.prog 132 [tmD a] [bD (zd5 a)]:=by
 simp only[tmD,zab]
 refine zai Tryz.call132 Tryz.func132 rfl Yn (zau Yn) ?_
 simp -implicitDefEqProofs only[go_sem,Tryz.results132]
 refine callF (size_c a hs) (by simp -implicitDefEqProofs only[go_sem,zab]) ?_
 simp -implicitDefEqProofs only[go_sem,zab]
 rw[qdm]
 refine⟨fun h=>?_,fun h=>?_⟩
 ·refine callF (qko a hs) (by simp -implicitDefEqProofs only[go_sem,zab]) ?_;simp -implicitDefEqProofs only[go_sem,zab];rw[zd5,h,Qv]
  congr 1
  rw[J5];omega
 ·rw[zd5,h];rfl
end
section
open Go.RowKit
theorem qem (σ:St)(caps:List T):VDs σ (caps.map fun t=>.one (.t t)) (caps.map .one)=True:=by
 induction caps with
 | nil=>simp[VDs]
 | cons t ts ih=>rw[Qg,Qg,zuu,ih];simp[qhs,CT_t]
attribute [go_sem] qem
def qil {α:Type}(xs:List α)(p:α->Bool):Int:=if xs.any p then xs.findIdx p else -1
theorem zl7 {α:Type}{xs:List α}{p:α->Bool}{k:Nat}(hk:k<xs.length)(hn:∀x∈xs.take k,p x=false)(h:p xs[k]=true):qil xs p=k:=by
 have ha:xs.any p=true:=Jt.2 ⟨xs[k],Qj hk,h⟩
 have hf:xs.findIdx p=k:=(List.findIdx_eq hk).2 ⟨h,fun j hj=>hn _ (by
  rw[List.mem_take_iff_getElem];exact⟨j,Yo,rfl⟩)⟩
 rw[qil,if_pos ha,hf]
theorem zqs {α:Type}{xs:List α}{p:α->Bool}(hn:∀x∈xs,p x=false):qil xs p = -1:=by
 have ha:xs.any p=false:=by rw[List.any_eq_false];exact fun x hx=>by simp[hn x hx]
 rw[qil,ha];rfl
theorem zvd {α:Type}(xs:List α)(p:α->Bool):decide (0<=qil xs p)=xs.any p:=by
 unfold qil
 cases xs.any p<;>simp
theorem zg4 {α:Type}{xs:List α}{p:α->Bool}{k:Nat}(hk:k<xs.length)(hn:∀x∈xs.take k,p x=false)(h:p xs[k]=false):∀x∈xs.take (k+1),p x=false:=by
 rw[Qk hk]
 intro x hx
 rcases Qt.1 hx with hx|hx
 ·exact hn x hx
 ·rw[Qw.1 hx];exact h
theorem zj0 (xs:List Tm)(p:Tm->Bool)(g:FuncId)(caps:List T)(H:∀x∈xs,FC Tryz.prog g (tmD x::caps.map .one) [bD (p x)]):FC Tryz.prog 99 [.one (tmS xs),.one (.fn g caps)] [iD (qil xs p)]:=by
 refine zfa (fun hw=>?_) Tryz.call99
 have hl:xs.length<=9223372036854775807:=by simpa[ziy,wfT]using hw.1.1
 refine zai Tryz.call99 Tryz.func99 rfl Yn (zau Yn) ?_
 simp -implicitDefEqProofs only[go_sem,Tryz.results99]
 refine zaf (fun k:Nat=>hd [(0,vT (tmS xs)),(1,vT (.fn g caps)),(7,vI xs.length),(8,vI k)] [] []) (fun k=>k<=xs.length/\∀x∈xs.take k,p x=false) (fun k=>xs.length-k) 0 (zac ?_) ?_ ?_
 ·simp -implicitDefEqProofs only[go_sem]
 ·simp
 ·intro k ⟨hk,hr⟩;by_cases hlt:k<xs.length
  ·simp -implicitDefEqProofs only[go_sem,zae,hlt,zab];refine callF (H xs[k] (Qj hlt)) (by simp -implicitDefEqProofs only[go_sem,zab]) ?_;simp -implicitDefEqProofs only[go_sem,zab];refine⟨fun h=>?_,fun h=>⟨k+1,⟨hlt,zg4 hlt hr h⟩,Yo,zac (by simp -implicitDefEqProofs only[go_sem];rw[zaw Yo])⟩⟩;rw[zl7 hlt hr h]
  ·simp -implicitDefEqProofs only[go_sem,hlt];rw[Qu Yo]at hr;rw[zqs hr]
theorem zhb (xs:List Tm)(p:Tm->Bool)(g:FuncId)(caps:List T)(H:∀x∈xs,FC Tryz.prog g (tmD x::caps.map .one) [bD (p x)]):FC Tryz.prog 37 [.one (tmS xs),.one (.fn g caps)] [bD (xs.any p)]:=by
 refine zai Tryz.call37 Tryz.func37 rfl Yn (zau Yn) ?_
 simp -implicitDefEqProofs only[go_sem,Tryz.results37]
 refine callF (zj0 xs p g caps H) Ym ?_
 simp -implicitDefEqProofs only[go_sem]
 rw[zvd]
theorem zhj (xs:List Fm)(p:Fm->Bool)(g:FuncId)(caps:List T)(H:∀x∈xs,FC Tryz.prog g (fmD x::caps.map .one) [bD (p x)]):FC Tryz.prog 146 [.one (fmS xs),.one (.fn g caps)] [iD (qil xs p)]:=by
 refine zfa (fun hw=>?_) Tryz.call146
 have hl:xs.length<=9223372036854775807:=by simpa[ziy,wfT]using hw.1.1
 refine zai Tryz.call146 Tryz.func146 rfl Yn (zau Yn) ?_
 simp -implicitDefEqProofs only[go_sem,Tryz.results146]
 refine zaf (fun k:Nat=>hd [(0,vT (fmS xs)),(1,vT (.fn g caps)),(7,vI xs.length),(8,vI k)] [] []) (fun k=>k<=xs.length/\∀x∈xs.take k,p x=false) (fun k=>xs.length-k) 0 (zac ?_) ?_ ?_
 ·simp -implicitDefEqProofs only[go_sem]
 ·simp
 ·intro k ⟨hk,hr⟩;by_cases hlt:k<xs.length
  ·simp -implicitDefEqProofs only[go_sem,zae,hlt,zaa,zab];refine callF (H xs[k] (Qj hlt)) (by simp -implicitDefEqProofs only[go_sem,zaa,zab]) ?_;simp -implicitDefEqProofs only[go_sem,zaa,zab];refine⟨fun h=>?_,fun h=>⟨k+1,⟨hlt,zg4 hlt hr h⟩,Yo,zac (by simp -implicitDefEqProofs only[go_sem];rw[zaw Yo])⟩⟩;rw[zl7 hlt hr h]
  ·simp -implicitDefEqProofs only[go_sem,hlt];rw[Qu Yo]at hr;rw[zqs hr]
theorem zav (xs:List Fm)(p:Fm->Bool)(g:FuncId)(caps:List T)(H:∀x∈xs,FC Tryz.prog g (fmD x::caps.map .one) [bD (p x)]):FC Tryz.prog 79 [.one (fmS xs),.one (.fn g caps)] [bD (xs.any p)]:=by
 refine zai Tryz.call79 Tryz.func79 rfl Yn (zau Yn) ?_
 simp -implicitDefEqProofs only[go_sem,Tryz.results79]
 refine callF (zhj xs p g caps H) Ym ?_
 simp -implicitDefEqProofs only[go_sem]
 rw[zvd]
end
section
open Go.RowKit
abbrev zeg (l:List UInt8):T:=.sl 1 (l.map fun b=>[T.int .u8 b.toNat])
end
section
open Go.RowKit
abbrev bsD (l:List UInt8):D:=.one (zeg l)
theorem qfm {d:PD}(h:zc0 Tryz.prog 22 d):∃l:List UInt8,d.cells=[zeg l]:=by
 obtain⟨xs,rfl,hx⟩:=h.sl Tryz.underlying22
 obtain⟨l,hl⟩:=zlz (fun b:UInt8=>[T.int .u8 b.toNat]) xs fun x hx'=>by
  obtain⟨n,rfl⟩:=(hx x hx').oct Tryz.underlying5;exact⟨n,by rw[PD.cells]⟩
 exact⟨l,by rw[PD.cells,hl,show Tryz.prog.cellsOf 5=1 from by kernel_rfl]⟩
end
section
open Go.RowKit
variable {P:Program}
inductive AF
 | d (b:Bool) (x:D)
 | p (j:Nat)
 | fn (g:FuncId) (js:List Nat)
def AF.ds:List AF->List (Bool×D)
 | []=>[]
 | .d b x::l=>(b,x)::AF.ds l
 | .p _::l=>AF.ds l
 | .fn _ _::l=>AF.ds l
def zvq (b:Nat):Value:=.pointer (some ⟨b,0,none⟩)
def AF.vals (bs:Nat->Nat):List AF->List Value->List Value
 | [],_=>[]
 | .d _ _::l,v::vs=>v::AF.vals bs l vs
 | .d _ _::_,[]=>[]
 | .p j::l,vs=>zvq (bs j)::AF.vals bs l vs
 | .fn g js::l,vs=>.func (.func g) #[] ⟨js.map fun j=>zvq (bs j)⟩::AF.vals bs l vs
def AF.okJ (n:Nat):List AF->Bool
 | []=>true
 | .d _ _::l=>AF.okJ n l
 | .p j::l=>decide (j<n)&&AF.okJ n l
 | .fn _ js::l=>js.all (fun j=>decide (j<n))&&AF.okJ n l
abbrev Bxs:=List (List (Bool×T))
def zvl (w:World)(bs:Nat->Nat):Nat->List (List Value)->Bxs->Prop
 | _,[],[]=>True
 | j,vs::bvs,b::bx=>vs.length=b.length/\(∃ty,w.heap[bs j]?=some (.cells ⟨vs⟩ ty (0,0)))/\zvl w bs (j+1) bvs bx
 | _,_,_=>False
theorem zvl.lt {w:World}{bs:Nat->Nat}:∀{j:Nat}{bvs:List (List Value)}{bx:Bxs},zvl w bs j bvs bx->∀i,i<bx.length->bs (j+i)<w.heap.size
 | _,[],[],_,i,hi=>by simp at hi
 | j,_::_,_::_,h,0,hi=>by obtain⟨ty,h⟩:=h.2.1;exact(Array.getElem?_eq_some_iff.1 h).1
 | j,_::_,_::_,h,i+1,hi=>by rw[show j+(i+1)=j+1+i by omega];exact zvl.lt h.2.2 i (by simpa using hi)
 | _,[],_::_,h,_,_=>h.elim
 | _,_::_,[],h,_,_=>h.elim
def PC (P:Program)(f:FuncId)(bx:Bxs)(l:List AF)(bx':Bxs)(res:List (Bool×D)):Prop:=zbv P f/\bx'.length=bx.length/\∀(w:World)(bs:Nat->Nat)(bvs:List (List Value))(dvs:List Value)(fp tp:List Nat)(A:Nat->Prop),
 (∀i j,i<bx.length->j<bx.length->bs i=bs j->i=j)->(∀j,j<bx.length->bs j∉fp)->zvl w bs 0 bvs bx →
 za6 w (fun k=>(k<w.heap.size/\k∉fp/\∀j,j<bx.length->k≠bs j)/\A k) (AF.ds l++bxA bx.flatten) (dvs++bvs.flatten) fp tp->fp.Nodup->dvs.length=(AF.ds l).length →
 Calls P f ⟨AF.vals bs l dvs⟩ w fun e w'=>∃us bvs' fp' tp',e=.returned (zcj us)/\zvl w' bs 0 bvs' bx'/\us.length=res.length ∧
  za6 w' (fun k=>(k<w'.heap.size/\k∉fp'/\∀j,j<bx.length->k≠bs j)/\(A k\/w.heap.size<=k\/k∈fp)) (res++bxA bx'.flatten) (us++bvs'.flatten) fp' tp'/\fp'.Nodup/\(∀b∈fp',b∈fp\/w.heap.size<=b) ∧
  Bk (fun k=>k<w.heap.size/\k∉fp/\∀j,j<bx.length->k≠bs j) w w'
def c1P (k:Nat):Bool×T->C
 | (true,t)=>owC k 0 t
 | (false,t)=>t.toN
def zt6:Nat->List (Bool×T)->List C
 | _,[]=>[]
 | k,p::ps=>c1P k p::zt6 (k+1) ps
def zkb:Nat->Nat->Bxs->Nat->Option (List C)
 | _,_,[]=>fun _=>none
 | j,k,b::bs=>upd (zkb (j+1) (k+b.length) bs) (1000000+j) (some (zt6 k b))
def zdd:Nat->Nat->List AF->Nat->V
 | _,_,[]=>fun _=>.one .any
 | i,k,.d b x::l=>upd (zdd (i+1) (k+1) l) i (gVN k (b,x))
 | i,k,.p j::l=>upd (zdd (i+1) k l) i (.one (.bx (1000000+j) 0))
 | i,k,.fn g js::l=>upd (zdd (i+1) k l) i (.one (.fn g (js.map (1000000+·))))
def zio:Nat->Bxs->(Nat->V)->Nat->V
 | _,[],f=>f
 | j,_::bs,f=>upd (zio (j+1) bs f) (1000000+j) (.one (.bx (1000000+j) 0))
def zh0 (l:List AF)(bx:Bxs):St:=⟨zio 0 bx (zdd 0 0 l),zkb 0 (AF.ds l).length bx,zfl 0 (AF.ds l++bxA bx.flatten)⟩
theorem qmk (k:Nat)(p:Bool×T):gVN k (p.1,.one p.2)=.one (c1P k p):=by obtain⟨b,t⟩:=p;cases b<;>rfl
theorem zoy:∀(bx:Bxs)(j:Nat)(f:Nat->V)(i:Nat),((∃q,q<bx.length/\i=1000000+(j+q))/\zio j bx f i=.one (.bx i 0))\/((∀q,q<bx.length->i≠1000000+(j+q))/\zio j bx f i=f i)
 | [],j,f,i=>Or.inr ⟨fun q hq=>by simp at hq,rfl⟩
 | b::bx,j,f,i=>by
  by_cases hi:i=1000000+j
  ·subst hi;exact Or.inl ⟨⟨0,by simp,rfl⟩,by unfold zio;rw[zah]⟩
  ·unfold zio;rw[zam _ _ hi];rcases zoy bx (j+1) f i with⟨⟨q,h1,h2⟩,h3⟩|⟨h1,h2⟩
   ·exact Or.inl ⟨⟨q+1,by simp;omega,Yo⟩,h3⟩
   ·refine Or.inr ⟨fun q hq=>?_,h2⟩;cases q with
    | zero=>exact hi
    | succ q=>have:=h1 q (by simpa using hq);omega
theorem zo2:∀(bx:Bxs)(j k b:Nat),zkb j k bx b≠none↔∃q,q<bx.length/\b=1000000+(j+q)
 | [],j,k,b=>⟨fun h=>absurd rfl h,fun⟨q,hq,_⟩=>by simp at hq⟩
 | c::bx,j,k,b=>by
  unfold zkb;by_cases hi:b=1000000+j
  ·subst hi;rw[zah];exact⟨fun _=>⟨0,by simp,rfl⟩,fun _=>by simp⟩
  ·rw[zam _ _ hi,zo2 bx (j+1) _ b];refine⟨fun⟨q,h1,h2⟩=>⟨q+1,by simp;omega,Yo⟩,fun⟨q,h1,h2⟩=>?_⟩;cases q with
   | zero=>exact absurd h2 hi
   | succ q=>exact⟨q,by simpa using h1,Yo⟩
theorem zl9 {σ:St}{g:Gh}{w:World}:∀{b:List (Bool×T)}{vs:List Value}{k:Nat},vs.length=b.length->(∀i p v,b[i]?=some p->vs[i]?=some v->CR σ g w (c1P (k+i) p) v)->CRs σ g w (zt6 k b) vs
 | [],vs,_,hl,_=>Q7.1 hl
 | p::b,[],_,hl,_=>by simp at hl
 | p::b,v::vs,k,hl,h=>⟨v,vs,rfl,by simpa using h 0 p v rfl rfl,zl9 (by simpa using hl) fun i q u h1 h2=>by
   have:=h (i+1) q u (by simpa using h1) (by simpa using h2);rw[show k+(i+1)=k+1+i by omega]at this
   exact this⟩
theorem zpc {σ:St}{g:Gh}{w:World}{bs:Nat->Nat}:∀(bx:Bxs)(bvs:List (List Value))(j k:Nat),zvl w bs j bvs bx->(∀i p v,bx.flatten[i]?=some p->bvs.flatten[i]?=some v->CR σ g w (c1P (k+i) p) v) →
  ∀b cs,zkb j k bx b=some cs->∃q vs ty,q<bx.length/\b=1000000+(j+q)/\w.heap[bs (j+q)]?=some (.cells ⟨vs⟩ ty (0,0))/\CRs σ g w cs vs
 | [],_,_,_,_,_,b,cs,h=>by cases h
 | c::bx,[],_,_,h0,_,_,_,_=>h0.elim
 | c::bx,vs::bvs,j,k,h0,hc,b,cs,h=>by
  obtain⟨h1,⟨ty,h2⟩,h3⟩:=h0;unfold zkb at h;by_cases hi:b=1000000+j
  ·subst hi;rw[zah]at h;cases h;refine⟨0,vs,ty,by simp,rfl,h2,zl9 h1 fun i p v e1 e2=>hc i p v ?_ ?_⟩
   ·rw[Q8,List.getElem?_append_left (List.getElem?_eq_some_iff.1 e1).1];exact e1
   ·rw[Q8,List.getElem?_append_left (List.getElem?_eq_some_iff.1 e2).1];exact e2
  ·rw[zam _ _ hi]at h
   obtain⟨q,vs',ty',k1,k2,k3,k4⟩:=zpc bx bvs (j+1) (k+c.length) h3 (fun i p v e1 e2=>by
    have:=hc (c.length+i) p v (by rw[Q8,List.getElem?_append_right Yo,show c.length+i-c.length=i by omega];exact e1) (by rw[Q8,List.getElem?_append_right Yo,show c.length+i-vs.length=i by omega];exact e2);rw[show k+(c.length+i)=k+c.length+i by omega]at this
    exact this) b cs h
   exact⟨q+1,vs',ty',by simp;omega,Yo,by rw[show j+(q+1)=j+1+q by omega];exact k3,k4⟩
theorem zge:∀(l:List AF)(i0 k i:Nat),l.length<=i->zdd i0 k l (i0+i)=.one .any
 | [],_,_,_,_=>rfl
 | a::l,i0,k,0,h=>by simp at h
 | .d b x::l,i0,k,i+1,h=>by unfold zdd;rw[zam _ _ Yo,show i0+(i+1)=i0+1+i by omega];exact zge l _ _ i (by simpa using h)
 | .p j::l,i0,k,i+1,h=>by unfold zdd;rw[zam _ _ Yo,show i0+(i+1)=i0+1+i by omega];exact zge l _ _ i (by simpa using h)
 | .fn g js::l,i0,k,i+1,h=>by unfold zdd;rw[zam _ _ Yo,show i0+(i+1)=i0+1+i by omega];exact zge l _ _ i (by simpa using h)
theorem zhf {σ:St}{g:Gh}{w:World}{bs:Nat->Nat}{n:Nat}(hb:∀j,j<n->σ.bx (1000000+j)≠none/\g.β (1000000+j)=bs j):∀(l:List AF)(i0 k:Nat)(dvs:List Value),AF.okJ n l=true->dvs.length=(AF.ds l).length->(∀i d v,(AF.ds l)[i]?=some d->dvs[i]?=some v->VR σ g w (gVN (k+i) d) v) →
  ∀i,i<l.length->∃v,(AF.vals bs l dvs)[i]?=some v/\VR σ g w (zdd i0 k l (i0+i)) v
 | [],_,_,_,_,_,_,i,hi=>by simp at hi
 | .d b x::l,i0,k,[],_,hl,_,i,hi=>by simp[AF.ds]at hl
 | .d b x::l,i0,k,v::dvs,ho,hl,h,i,hi=>by
  cases i with
  | zero=>exact⟨v,rfl,by unfold zdd;show VR σ g w (upd _ i0 _ i0) v;rw[zah];simpa using h 0 (b,x) v rfl rfl⟩
  | succ i =>
   obtain⟨u,k1,k2⟩:=zhf hb l (i0+1) (k+1) dvs ho (by simpa[AF.ds]using hl) (fun i d v h1 h2=>by
    have:=h (i+1) d v (by simpa[AF.ds]using h1) (by simpa using h2);rw[show k+(i+1)=k+1+i by omega]at this
    exact this) i (by simpa using hi)
   exact⟨u,by unfold AF.vals;simpa using k1,by unfold zdd;rw[zam _ _ Yo,show i0+(i+1)=i0+1+i by omega];exact k2⟩
 | .p j::l,i0,k,dvs,ho,hl,h,i,hi=>by
  unfold AF.okJ at ho;rw[Qb,Qm]at ho;cases i with
  | zero=>exact⟨_,rfl,by unfold zdd;show VR σ g w (upd _ i0 _ i0) _;rw[zah];exact⟨by rw[(hb j ho.1).2];rfl,(hb j ho.1).1⟩⟩
  | succ i =>
   obtain⟨u,k1,k2⟩:=zhf hb l (i0+1) k dvs ho.2 hl h i (by simpa using hi);exact⟨u,by unfold AF.vals;simpa using k1,by unfold zdd;rw[zam _ _ Yo,show i0+(i+1)=i0+1+i by omega];exact k2⟩
 | .fn f js::l,i0,k,dvs,ho,hl,h,i,hi=>by
  unfold AF.okJ at ho;rw[Qb,Qn]at ho;cases i with
  | zero =>
   refine⟨_,rfl,?_⟩;unfold zdd;show VR σ g w (upd _ i0 _ i0) _
   rw[zah];refine⟨?_,fun b hb'=>?_⟩
   ·rw[Kt]
    congr 2
    refine Kg fun j hj=>?_;show zvq (bs j)=.pointer (some ⟨g.β (1000000+j),0,none⟩)
    rw[(hb j (by simpa using ho.1 j hj)).2];rfl
   ·obtain⟨j,hj,rfl⟩:=Ki.1 hb';exact(hb j (by simpa using ho.1 j hj)).1
  | succ i =>
   obtain⟨u,k1,k2⟩:=zhf hb l (i0+1) k dvs ho.2 hl h i (by simpa using hi);exact⟨u,by unfold AF.vals;simpa using k1,by unfold zdd;rw[zam _ _ Yo,show i0+(i+1)=i0+1+i by omega];exact k2⟩
theorem AF.vals_len (bs:Nat->Nat):∀(l:List AF)(dvs:List Value),dvs.length=(AF.ds l).length->(AF.vals bs l dvs).length=l.length
 | [],_,_=>rfl
 | .d _ _::l,[],h=>by simp[AF.ds]at h
 | .d _ _::l,v::vs,h=>by simp[AF.vals,AF.vals_len bs l vs (by simpa[AF.ds]using h)]
 | .p _::l,vs,h=>by simp[AF.vals,AF.vals_len bs l vs h]
 | .fn _ _::l,vs,h=>by simp[AF.vals,AF.vals_len bs l vs h]
def T.fs:T->Bool
 | .sl _ _=>true
 | t=>t.flat
def gFS:List (Bool×D)->Bool
 | []=>true
 | (false,_)::ds=>gFS ds
 | (true,.one t)::ds=>t.fs&&gFS ds
 | (true,.agg ts)::ds=>ts.all T.fs&&gFS ds
theorem zs8:∀{ds:List (Bool×D)},gFS ds=true->∀(i:Nat) d,ds[i]?=some (true,d)->match d with|.one t=>t.fs=true|.agg ts=>ts.all T.fs=true
 | [],_,i,d,h=>by simp at h
 | (false,x)::ds,hg,0,d,h=>by simp at h
 | (false,x)::ds,hg,i+1,d,h=>zs8 (ds:=ds) hg i d (by simpa using h)
 | (true,.one t)::ds,hg,0,d,h=>by
  simp only[List.getElem?_cons_zero,Qe,Qo,true_and]at h;subst h;exact((Qb _ _).mp hg).1
 | (true,.agg t)::ds,hg,0,d,h=>by
  simp only[List.getElem?_cons_zero,Qe,Qo,true_and]at h;subst h;exact((Qb _ _).mp hg).1
 | (true,.one t)::ds,hg,i+1,d,h=>zs8 (ds:=ds) ((Qb _ _).mp hg).2 i d (by simpa using h)
 | (true,.agg t)::ds,hg,i+1,d,h=>zs8 (ds:=ds) ((Qb _ _).mp hg).2 i d (by simpa using h)
theorem zu5 {σ σ':St}{g g':Gh}{w:World}(he:σ'.ev=σ.ev)(hψ:g'.ψ=g.ψ){k j:Nat}{t:T}{v:Value}(ht:t.fs=true)(h:CR σ g w (owC k j t) v):CR σ' g' w (owC k j t) v:=by
 cases t
 case sl=>exact⟨by rw[hψ];exact h.1,by obtain⟨x,h1,h2⟩:=h.2;exact⟨x,by rw[he];exact h1,h2⟩⟩
 all_goals exact zem (A:=Fix σ g w) (w:=w) ht h
theorem zof {σ σ':St}{g g':Gh}{w:World}(he:σ'.ev=σ.ev)(hψ:g'.ψ=g.ψ){k:Nat}:∀{ts:List T}{j:Nat}{vs:List Value},ts.all T.fs=true->CRs σ g w (zm8 k j ts) vs->CRs σ' g' w (zm8 k j ts) vs
 | [],_,_,_,h=>h
 | t::ts,j,vs,ht,h=>by
  rw[Ke,Qb]at ht;obtain⟨v,vs',rfl,h1,h2⟩:=h;exact⟨v,vs',rfl,zu5 he hψ ht.1 h1,zof he hψ ht.2 h2⟩
theorem zni (d:Nat):∀(ts:List T)(j:Nat)(f:Nat->Option Ev),(∀e x,f e=some x->x.deep=true/\x.on=true)->∀e x,owE d j ts f e=some x->x.deep=true/\x.on=true
 | [],_,f,h,e,x,hx=>h e x hx
 | t::ts,j,f,h,e,x,hx=>zni d ts (j+1) _ (fun e x hx=>by
   cases t<;>first|exact h e x hx|skip
   rename_i sz rows;by_cases he:e=d*32+j
   ·subst he;simp only[zq4,zah,Qe]at hx;subst hx;exact⟨rfl,rfl⟩
   ·simp only[zq4,zam _ _ he]at hx;exact h e x hx) e x hx
theorem zgj:∀(ds:List (Bool×D))(k e:Nat)(x:Ev),zfl k ds e=some x->x.deep=true/\x.on=true
 | [],_,_,_,h=>by cases h
 | (false,_)::ds,k,e,x,h=>zgj ds (k+1) e x h
 | (true,.one t)::ds,k,e,x,h=>zni k [t] 0 _ (fun e x hx=>zgj ds (k+1) e x hx) e x h
 | (true,.agg ts)::ds,k,e,x,h=>zni k ts 0 _ (fun e x hx=>zgj ds (k+1) e x hx) e x h
theorem zpd {w:World}{l:List AF}{bx:Bxs}{bs:Nat->Nat}{bvs:List (List Value)}{dvs:List Value}{fp tp:List Nat}{A:Nat->Prop}{N:Nat}(hinj:∀i j,i<bx.length->j<bx.length->bs i=bs j->i=j)(hbf:∀j,j<bx.length->bs j∉fp)(hbx:zvl w bs 0 bvs bx)
  (hv:za6 w (fun k=>(k<w.heap.size/\k∉fp/\∀j,j<bx.length->k≠bs j)/\A k) (AF.ds l++bxA bx.flatten) (dvs++bvs.flatten) fp tp) (hn:fp.Nodup) (hl:dvs.length=(AF.ds l).length) (hj:AF.okJ bx.length l=true) (hN:l.length<=N) (hN2:N<=1000000) (hs:zay (AF.ds l++bxA bx.flatten)) (hfs:gFS (AF.ds l++bxA bx.flatten)=true)
  {ξ:Nat->Value} (h1:∀i,i<1000000->ξ i=undef) (h2:∀i b,ξ i≠.bool b) (h3:∀j,j<bx.length->ξ (1000000+j)=zvq (bs j)) :
  ∃g,(g.A0,g.R0)=(fun b=>A b\/w.heap.size<=b\/b∈fp\/∃j,j<bx.length/\b=bs j,⟨fun b=>b∈fp\/w.heap.size<=b\/∃j,j<bx.length/\b=bs j,ξ,h1,h2⟩) ∧
   Rel (fun b=>b<w.heap.size/\b∉fp/\∀j,j<bx.length->b≠bs j) N (zh0 l bx) g { tmps:=(⟨AF.vals bs l dvs⟩:Array Value)++Array.replicate (N-(AF.vals bs l dvs).length) undef,defers:=[] } w:=by
 have hv':za6 w (fun b=>b<w.heap.size/\(A b/\∀j,j<bx.length->b≠bs j)/\b∉fp) (AF.ds l++bxA bx.flatten) (dvs++bvs.flatten) fp tp:=za6.keepA (fun b hb=>⟨hb.1.1,⟨hb.2,hb.1.2.2⟩,hb.1.2.1⟩) hv
 obtain⟨g,hg,hR⟩:=Rel.start (N:=(AF.ds l++bxA bx.flatten).length) (A0:=fun b=>A b\/w.heap.size<=b\/b∈fp\/∃j,j<bx.length/\b=bs j) (R0:=⟨fun b=>b∈fp\/w.heap.size<=b\/∃j,j<bx.length/\b=bs j,ξ,h1,h2⟩) hv' hn hs (Qz _) (fun b hb=>Or.inl hb.1) (fun b hb=>⟨Or.inr (Or.inr (Or.inl hb)),Or.inl hb⟩) (fun b hb=>by
  by_cases hlt:b<w.heap.size
  ·have hm:b∈fp:=Classical.byContradiction fun h=>hb ⟨hlt,h⟩;exact⟨Or.inr (Or.inr (Or.inl hm)),Or.inl hm⟩
  ·exact⟨Or.inr (Or.inl Yo),Or.inr (Or.inl Yo)⟩)
 have hg1:g.A0=_:=(Je hg).1
 have hg2:g.R0=_:=(Je hg).2
 refine⟨{ g with β:=fun k=>bs (k-1000000) },hg,?_⟩
 have hlen:(dvs++bvs.flatten).length=(AF.ds l++bxA bx.flatten).length:=za6.len hv
 have hbne:∀b,(zh0 l bx).bx b≠none↔∃q,q<bx.length/\b=1000000+q:=fun b=>by
  have:=zo2 bx 0 (AF.ds l).length b;simp only[Q5]at this;exact this
 have hblt:∀q,q<bx.length->bs q<w.heap.size:=fun q hq=>by have:=hbx.lt q hq;rwa [Q5]at this
 have hdeep:∀e x,(zh0 l bx).ev e=some x->x.deep=true/\x.on=true:=fun e x hx=>zgj _ _ e x hx
 have hφ:∀e,(zh0 l bx).On e->∀b∈g.φ e,¬(b<w.heap.size/\b∉fp):=fun e he b hb=>hR.etop e he b hb
 have hfree:∀b,((b<w.heap.size/\b∉fp/\∀j,j<bx.length->b≠bs j)/\A b)->zcd (zh0 l bx) { g with β:=fun k=>bs (k-1000000) } w b:=fun b hb=>by
  refine⟨⟨fun k hk=>?_,fun e x hx ho hh=>hφ e ⟨x,hx,ho⟩ b (List.mem_of_mem_head? hh) ⟨hb.1.1,hb.1.2.1⟩,hb.1.1,?_⟩,fun e he hm=>hφ e he b hm ⟨hb.1.1,hb.1.2.1⟩⟩
  ·obtain⟨q,hq,rfl⟩:=(hbne k).1 hk;show bs (1000000+q-1000000)≠b
   rw[show 1000000+q-1000000=q by omega];exact fun e=>hb.1.2.2 q hq e.symm
  ·show g.A0 b
   rw[hg1];exact Or.inl hb.2
 have hat:∀(i:Nat) d v,(AF.ds l++bxA bx.flatten)[i]?=some d->(dvs++bvs.flatten)[i]?=some v->VR (zh0 l bx) { g with β:=fun k=>bs (k-1000000) } w (gVN i d) v:=fun i d v hd hv1=>by
  obtain⟨b,d⟩:=d;cases b with
  | false =>
   obtain⟨u,e1,e2⟩:=za6.atR hv i d hd;rw[e1]at hv1;cases hv1;exact zl0 hfree e2
  | true =>
   have h0:=hR.slots i;have hj0:=zhm (AF.ds l++bxA bx.flatten) 0 i;rw[Q5,hd]at hj0;have h0':VR (zdt (AF.ds l++bxA bx.flatten)) g w (ziz 0 (AF.ds l++bxA bx.flatten) i) _:=h0;rw[hj0]at h0';have hlt:i<(dvs++bvs.flatten).length:=(List.getElem?_eq_some_iff.1 hv1).1;have e:((⟨dvs++bvs.flatten⟩:Array Value)++Array.replicate ((AF.ds l++bxA bx.flatten).length-(dvs++bvs.flatten).length) undef).getD i (g.R0.ξ i)=v:=by
    rw[Array.getD_eq_getD_getElem?,Array.getElem?_append_left (by simpa using hlt)];simp only[List.getElem?_toArray,hv1,Kw]
   rw[e]at h0';have hf:=zs8 hfs i d hd;cases d with
   | one t=>exact zu5 (σ:=zdt (AF.ds l++bxA bx.flatten)) (σ':=zh0 l bx) (g:=g) (g':={ g with β:=fun k=>bs (k-1000000) }) rfl rfl hf h0'
   | agg ts=>obtain⟨a,e1,e2⟩:=h0';exact⟨a,e1,zof (σ:=zdt (AF.ds l++bxA bx.flatten)) (σ':=zh0 l bx) (g:=g) (g':={ g with β:=fun k=>bs (k-1000000) }) rfl rfl hf e2⟩
 have hvl:=AF.vals_len bs l dvs hl
 refine⟨rfl,by simp;omega,fun b hb=>?_,fun i=>?_,fun b cs hb=>?_,fun b hb=>?_,fun b b' hb hb' he=>?_,fun e x he ho=>?_,fun e x he ho=>?_,hR.slc,fun e he b hb=>?_,fun e he b hb=>?_,fun e he=>hR.nodup e he,fun e e' h1 h2 hne=>hR.apart e e' h1 h2 hne,fun e k he hk hm=>?_⟩
 ·show g.A0 b/\g.R0 b
  rw[hg1,hg2];show(A b\/_)/\(b∈fp\/_)
  by_cases hlt:b<w.heap.size
  ·by_cases hm:b∈fp
   ·exact⟨Or.inr (Or.inr (Or.inl hm)),Or.inl hm⟩
   ·have:∃j,j<bx.length/\b=bs j:=Classical.byContradiction fun hh=>hb ⟨hlt,hm,fun j hj e=>hh ⟨j,hj,e⟩⟩;exact⟨Or.inr (Or.inr (Or.inr this)),Or.inr (Or.inr this)⟩
  ·exact⟨Or.inr (Or.inl Yo),Or.inr (Or.inl Yo)⟩
 ·show VR _ _ _ (zio 0 bx (zdd 0 0 l) i) _
  rcases zoy bx 0 (zdd 0 0 l) i with⟨⟨q,h4,rfl⟩,h5⟩|⟨_,h5⟩
  ·rw[h5,Q5,Array.getD_eq_getD_getElem?,Array.getElem?_eq_none (by simp;omega)];refine⟨?_,(hbne _).2 ⟨q,h4,rfl⟩⟩;show(none:Option Value).getD (g.R0.ξ (1000000+q))=.pointer (some ⟨bs (1000000+q-1000000),0,none⟩)
   rw[hg2,show 1000000+q-1000000=q by omega];exact h3 q h4
  ·rw[h5];by_cases hi:i<l.length
   ·obtain⟨u,e1,e2⟩:=zhf (σ:=zh0 l bx) (g:={ g with β:=fun k=>bs (k-1000000) }) (w:=w) (bs:=bs) (n:=bx.length) (fun j hj=>⟨(hbne _).2 ⟨j,hj,rfl⟩,by show bs (1000000+j-1000000)=bs j;rw[show 1000000+j-1000000=j by omega]⟩) l 0 0 dvs hj hl (fun i d v e1 e2=>by
     rw[Q5]
     exact hat i d v (by rw[List.getElem?_append_left (List.getElem?_eq_some_iff.1 e1).1];exact e1) (by rw[List.getElem?_append_left (List.getElem?_eq_some_iff.1 e2).1];exact e2)) i hi
    rw[Q5]at e2;rw[Array.getD_eq_getD_getElem?,Array.getElem?_append_left (by simp;omega)];simp only[List.getElem?_toArray,e1,Kw];exact e2
   ·have:=zge l 0 0 i Yo;rw[Q5]at this;rw[this]
    trivial
 ·obtain⟨q,vs,ty,k1,k2,k3,k4⟩:=zpc (σ:=zh0 l bx) (g:={ g with β:=fun k=>bs (k-1000000) }) bx bvs 0 (AF.ds l).length hbx (fun i p v e1 e2=>by
   have:=hat ((AF.ds l).length+i) (p.1,.one p.2) v (by rw[List.getElem?_append_right Yo,show(AF.ds l).length+i-(AF.ds l).length=i by omega];unfold bxA;rw[List.getElem?_map,e1];rfl) (by rw[List.getElem?_append_right Yo,show(AF.ds l).length+i-dvs.length=i by omega];exact e2);rw[qmk]at this
   exact this) b cs hb
  rw[Q5]at k2 k3;subst k2;exact⟨⟨vs⟩,ty,by show w.heap[bs (1000000+q-1000000)]?=_;rw[show 1000000+q-1000000=q by omega];exact k3,k4⟩
 ·obtain⟨q,hq,rfl⟩:=(hbne b).1 hb;intro h;have h:=h.2.2 q hq;exact h (show bs (1000000+q-1000000)=bs q by rw[show 1000000+q-1000000=q by omega])
 ·obtain⟨q,hq,rfl⟩:=(hbne b).1 hb;obtain⟨q',hq',rfl⟩:=(hbne b').1 hb';have he:bs (1000000+q-1000000)=bs (1000000+q'-1000000):=he;rw[show 1000000+q-1000000=q by omega,show 1000000+q'-1000000=q' by omega]at he;rw[hinj q q' hq hq' he]
 ·obtain⟨ao,cap,e1,e2,e3,e4⟩:=hR.evs e x he ho;refine⟨ao,cap,e1,e2,e3,?_⟩;rcases e4 with e4|⟨b,cells,ty,fps,j1,j2,j3,j4,j5⟩
  ·exact Or.inl e4
  ·rw[if_pos (hdeep e x he).1]at j5;exact Or.inr ⟨b,cells,ty,fps,j1,j2,j3,j4,by rw[if_pos (hdeep e x he).1];exact j5⟩
 ·rw[(hdeep e x he).2]at ho;cases ho
 ·exact hR.ebase e he b hb
 ·exact fun h=>hφ e he b hb ⟨h.1,h.2.1⟩
 ·obtain⟨q,hq,rfl⟩:=(hbne k).1 hk;have hm:bs (1000000+q-1000000)∈g.φ e:=hm;rw[show 1000000+q-1000000=q by omega]at hm;exact hφ e he _ hm ⟨hblt q hq,hbf q hq⟩
def bxE (σ:St):Nat->Bxs->(List V->Prop)->Prop
 | _,[],K=>K []
 | j,b::bs,K=>σ.sl (1000000+j)=.one (.bx (1000000+j) 0)/\zax (σ.bx (1000000+j)) fun cs=>cs.length=b.length/\bxE σ (j+1) bs fun vs=>K (cs.map .one++vs)
theorem CRs.ones {σ:St}{g:Gh}{w:World}:∀{cs:List C}{vs:List Value},CRs σ g w cs vs->VRl σ g w (cs.map .one) vs
 | [],_,h=>h
 | c::cs,_,h=>by obtain⟨v,vs',rfl,h1,h2⟩:=h;exact⟨v,vs',rfl,h1,CRs.ones h2⟩
theorem zjt {n0:Nat->Prop}{N:Nat}{σ:St}{g:Gh}{a:Act}{w:World}{bs:Nat->Nat}(hR:Rel n0 N σ g a w)(hN:N<=1000000):∀{bx:Bxs}{j:Nat}{K:List V->Prop},(∀q,q<bx.length->g.R0.ξ (1000000+(j+q))=zvq (bs (j+q)))->bxE σ j bx K →
  ∃vs bvs,K vs/\zvl w bs j bvs bx/\VRl σ g w vs bvs.flatten/\∀q,q<bx.length->σ.bx (1000000+(j+q))≠none/\g.β (1000000+(j+q))=bs (j+q)
 | [],j,K,_,h=>⟨[],[],h,trivial,rfl,fun q hq=>by simp at hq⟩
 | b::bx,j,K,hξ,h=>by
  obtain⟨h1,h2⟩:=h;obtain⟨cs,h3,h4,h5⟩:=zap h2;obtain⟨vs,bvs,k1,k2,k3,k4⟩:=zjt hR hN (bx:=bx) (j:=j+1) (fun q hq=>by have:=hξ (q+1) (by simpa using hq);rw[show j+(q+1)=j+1+q by omega]at this;exact this) h5;have h0:=hR.slots (1000000+j);rw[h1,Array.getD_eq_getD_getElem?,Array.getElem?_eq_none (by rw[hR.size];omega)]at h0;have hx:=hξ 0 (by simp);rw[J9]at hx;have h0:CR σ g w (.bx (1000000+j) 0) (g.R0.ξ (1000000+j)):=h0;rw[hx]at h0;have hβ:g.β (1000000+j)=bs j:=by
   have:=h0.1;unfold zvq at this;simp only[Value.pointer.injEq,Qe]at this;injection this with e
   exact e.symm
  obtain⟨us,ty,j1,j2⟩:=hR.boxes _ cs h3;rw[hβ]at j1;refine⟨_,us.toList::bvs,k1,⟨by rw[j2.len,h4],⟨ty,j1⟩,k2⟩,VRl.append j2.ones k3,fun q hq=>?_⟩;cases q with
  | zero=>exact⟨h0.2,hβ⟩
  | succ q=>rw[show j+(q+1)=j+1+q by omega];exact k4 q (by simpa using hq)
def PB0 (P:Program)(rs:List ResultVar)(res:List (Bool×D))(bx:Bxs)(pl:List (Nat×Nat×Nat))(σ:St):Prop:=zax (zb9 P σ rs) fun vs=>bxE σ 0 bx fun cs=>gvA σ (fun _=>True) [] pl (vs++cs) (res++bxA bx.flatten)
def PB (P:Program)(rs:List ResultVar)(res:List (Bool×D))(bx:Bxs)(e:Exit)(σ:St):Prop:=match e with
 | .normal=>PB0 P rs res bx [] σ\/∃pl,PB0 P rs res bx pl σ
 | .ret=>PB0 P rs res bx [] σ\/∃pl,PB0 P rs res bx pl σ
 | _=>False
theorem zgu {σ:St}:∀{rs:List ResultVar}{vs:List V},zb9 P σ rs=some vs->vs.length=rs.length
 | [],vs,h=>by cases h;rfl
 | r::rs,vs,h=>by
  unfold zb9 at h;cases h1:zv2 P σ r with
  | none=>rw[h1]at h;cases h
  | some v =>
   rw[h1]at h;simp only[Q9]at h;cases h2:zb9 P σ rs with
   | none=>rw[h2]at h;cases h
   | some us=>rw[h2]at h;cases h;simp[zgu h2]
theorem VRl.len {σ:St}{g:Gh}{w:World}:∀{xs:List V}{vs:List Value},VRl σ g w xs vs->vs.length=xs.length
 | [],_,h=>by rw[show _=[] from h];rfl
 | x::xs,_,h=>by obtain⟨v,vs',rfl,_,h2⟩:=h;simp[VRl.len h2]
theorem zbp {f:FuncId}{fn:Func}{c:Code}{bx bx':Bxs}{l:List AF}{res:List (Bool×D)}(hc:zbv P f)(hf:P.funcs[f]?=some fn)(hb:fn.body=some c)(hd:zdz fn.ntmps c=true)(hN:l.length<=fn.ntmps)(hN2:fn.ntmps<=1000000)(hbl:bx'.length=bx.length)(hj:AF.okJ bx.length l=true)(hs:zay (AF.ds l++bxA bx.flatten))(hfs:gFS (AF.ds l++bxA bx.flatten)=true)(hrl:fn.results.toList.length=res.length)
  (h:ex P c [] (PB P fn.results.toList res bx') (zh0 l bx)):PC P f bx l bx' res:=by
 refine⟨hc,hbl,fun w bs bvs dvs fp tp A hinj hbf hbx hv hn hl=>?_⟩
 refine calls_of_wp hf hb ?_
 obtain⟨g,hg,hR⟩:=zpd (N:=fn.ntmps) hinj hbf hbx hv hn hl hj hN hN2 hs hfs (ξ:=fun i=>if 1000000<=i then zvq (bs (i-1000000))else undef) (fun i hi=>if_neg Yo) (fun i b=>by
  by_cases h:1000000<=i
  ·rw[if_pos h];exact fun e=>by cases e
  ·rw[if_neg h];exact fun e=>by cases e) (fun j hj=>by
  rw[if_pos Yo,show 1000000+j-1000000=j by omega])
 refine wp_mono (zbu (w0:=w) c (zh0 l bx) _ hd h g _ w hR (fun k hk=>hk.1) (Bk.refl _ _) hg) fun e a' w' hq=>?_
 obtain⟨σ',g',h1,h2,h3,h4,h5⟩:=hq
 have hξ:∀q,q<bx'.length->g'.R0.ξ (1000000+(0+q))=zvq (bs (0+q)):=fun q hq=>by
  rw[(Je h5).2,Q5];show(if 1000000<=1000000+q then zvq (bs (1000000+q-1000000))else undef)=_
  rw[if_pos Yo,show 1000000+q-1000000=q by omega]
 have key:(∃pl,PB0 P fn.results.toList res bx' pl σ')->∃v,(results fn a'.tmps).run P w'=.ok v w'/\∃us bvs' fp' tp',Ending.returned v=.returned (zcj us)/\zvl w' bs 0 bvs' bx'/\us.length=res.length ∧
   za6 w' (fun k=>(k<w'.heap.size/\k∉fp'/\∀j,j<bx.length->k≠bs j)/\(A k\/w.heap.size<=k\/k∈fp)) (res++bxA bx'.flatten) (us++bvs'.flatten) fp' tp'/\fp'.Nodup/\(∀b∈fp',b∈fp\/w.heap.size<=b)/\Bk (fun k=>k<w.heap.size/\k∉fp/\∀j,j<bx.length->k≠bs j) w w':=by
  rintro⟨pl,hk⟩;obtain⟨vs,hvs,hk⟩:=zap hk;obtain⟨us,r1,r2⟩:=zch h2 fn hvs;obtain⟨cs,bvs',k0,b1,b2,b3⟩:=zjt (bs:=bs) h2 hN2 hξ hk;obtain⟨B,hB⟩:=h2.fam;obtain⟨s,k1,⟨tp',k2⟩,k3,k4⟩:=zek h2 hB k0 (VRl.append r2 b2);rw[Ks]at k4;have hsp:s.Pairwise okP:=(Jq.1 (k4 List.Pairwise.nil)).imp fun h=>h.symm;have hin:∀b∈bks B s,∃e,σ'.On e/\b∈g'.φ e:=fun b hb=>by
   obtain⟨x,hx,hm⟩:=Jh.1 hb;exact⟨x.1,k3 x hx,hB.sub x.1 x.2 b (k3 x hx) hm⟩
  have hbβ:∀j,j<bx.length->σ'.bx (1000000+j)≠none/\g'.β (1000000+j)=bs j:=fun j hj=>by
   have:=b3 j Yo
   rwa [Q5]at this
  have hA:∀b,zcd σ' g' w' b->(b<w'.heap.size/\b∉bks B s/\∀j,j<bx.length->b≠bs j)/\(A b\/w.heap.size<=b\/b∈fp):=fun b hb=>by
   have hnb:∀j,j<bx.length->b≠bs j:=fun j hj e=>hb.1.1 _ (hbβ j hj).1 (by rw[(hbβ j hj).2,e]);refine⟨⟨hb.1.2.2.1,fun hm=>?_,hnb⟩,?_⟩
   ·obtain⟨e,ho,hm⟩:=hin b hm;exact hb.2 e ho hm
   ·have h0:=hb.1.2.2.2;rw[(Je h5).1]at h0;rcases h0 with h0|h0|h0|⟨j,hj,h0⟩
    ·exact Or.inl h0
    ·exact Or.inr (Or.inl h0)
    ·exact Or.inr (Or.inr h0)
    ·exact absurd h0 (hnb j hj)
  refine⟨_,r1,us,bvs',bks B s,tp',rfl,b1,by rw[r2.len,<-hrl];exact zgu hvs,za6.keepA hA k2,zdq h2 hB k3 hsp,fun b hb=>?_,h4⟩;obtain⟨e,ho,hm⟩:=hin b hb;have h0:=(h2.ebase e ho b hm).2;rw[(Je h5).2]at h0;rcases h0 with h0|h0|⟨j,hj,h0⟩
  ·exact Or.inl h0
  ·exact Or.inr h0
  ·have:=h2.ebx e _ ho (hbβ j hj).1;rw[(hbβ j hj).2]at this;exact absurd (h0▸hm) this
 have key':∀{Y:Prop},(PB0 P fn.results.toList res bx' [] σ'\/∃pl,PB0 P fn.results.toList res bx' pl σ')->((∃pl,PB0 P fn.results.toList res bx' pl σ')->Y)->Y:=fun h k=>h.elim (fun h=>k ⟨[],h⟩) k
 cases e with
 | normal=>exact⟨h2.defers,key' h1 key⟩
 | ret=>exact⟨h2.defers,key' h1 key⟩
 | exit _=>exact h1.elim
 | goto _=>exact h1.elim
 | panic _=>exact h1.elim
 | outgrown=>exact h1.elim
end
section
open Go.RowKit
variable {P:Program}
structure KeptB (W:List Nat)(σ τ:St):Prop where
 sl:∀i,τ.sl i=.one .any\/(τ.sl i=σ.sl i/\(τ.sl i).okU τ)
 bx:∀b cs,b∉W->τ.bx b=some cs->σ.bx b=some cs/\qge τ cs
 bxW:∀b∈W,σ.bx b≠none/\τ.bx b≠none
 ev:∀e x,τ.ev e=some x->σ.ev e=some x/\x.on=true/\x.deep=true
theorem Rel.givenB {W:List Nat}{n0:Nat->Prop}{N:Nat}{σ τ:St}{g g':Gh}{a:Act}{w w':World}(hR:Rel n0 N σ g a w)(hn0:LtK n0 w)(hK:KeptB W σ τ){fp:List Nat}(hfp:∀b∈fp,∃e,σ.On e/\τ.ev e=none/\b∈g.φ e)(hbk:Bk (fun k=>k<w.heap.size/\k∉fp/\∀b∈W,k≠g.β b) w w')
  {ev':Nat->Option Ev} {F:List Nat} (hn:New τ g (fun b=>b∈fp\/w.heap.size<=b) w' ev' g' F) (hW:∀b∈W,∀cs,τ.bx b=some cs->∃vs ty,w'.heap[g.β b]?=some (.cells vs ty (0,0))/\CRs ⟨τ.sl,τ.bx,ev'⟩ g' w' cs vs.toList):Rel n0 N ⟨τ.sl,τ.bx,ev'⟩ g' a w':=by
 have hOnσ:∀e,τ.On e->σ.On e:=fun e ⟨x,hx,ho⟩=>⟨x,(hK.ev e x hx).1,ho⟩
 have hlt:∀e,σ.On e->∀b∈g.φ e,b<w.heap.size:=fun e ⟨x,hx,ho⟩=>(hR.evs e x hx ho).lt
 have hbne:∀b,τ.bx b≠none->σ.bx b≠none:=fun b hb=>by
  by_cases hbW:b∈W
  ·exact(hK.bxW b hbW).1
  obtain⟨cs,hcs⟩:=Ko.1 hb;rw[(hK.bx b cs hbW hcs).1];simp
 have hfR:∀b∈fp,g.A0 b/\g.R0 b/\¬n0 b:=fun b hb=>by
  obtain⟨e,ho,_,hm⟩:=hfp b hb;obtain⟨k1,k2⟩:=hR.ebase e ho b hm;exact⟨k1,k2,hR.etop e ho b hm⟩
 have hNB:∀b,(b∈fp\/w.heap.size<=b)->g.A0 b/\g.R0 b/\¬n0 b:=fun b hb=>by
  rcases hb with hb|hb
  ·exact hfR b hb
  ·have hnn:=hn0.new hb;exact⟨(hR.anew b hnn).1,(hR.anew b hnn).2,hnn⟩
 have hβfp:∀b,τ.bx b≠none->¬(g.β b∈fp\/w.heap.size<=g.β b):=fun b hb h=>by
  rcases h with h|h
  ·obtain⟨e,ho,_,hm⟩:=hfp _ h;exact hR.ebx e b ho (hbne b hb) hm
  ·have:=hR.lt (hbne b hb);omega
 have hφfp:∀e,τ.On e->∀b∈g.φ e,¬(b∈fp\/w.heap.size<=b):=fun e ho b hb h=>by
  rcases h with h|h
  ·obtain⟨e',ho',hno,hm⟩:=hfp b h;refine hR.apart e e' (hOnσ e ho) ho' (fun hee=>?_) b hb hm;subst hee;obtain⟨x,hx,_⟩:=ho;rw[hx]at hno;cases hno
  ·have:=hlt e (hOnσ e ho) b hb;omega
 have hon:∀e,St.On ⟨τ.sl,τ.bx,ev'⟩ e->τ.ev e≠none->τ.On e:=fun e ⟨x,hx,ho⟩ hee=>⟨x,(hn.old e hee).1.symm.trans hx,ho⟩
 have hkeep:∀b,b<w.heap.size->b∉fp->(∀k∈W,b≠g.β k)->w'.heap[b]?=w.heap[b]?:=fun b h1 h2 h3=>hbk.block b ⟨h1,h2,h3⟩
 have hrn:∀b,zcd σ g w b->w'.heap[b]?=w.heap[b]?/\zcd ⟨τ.sl,τ.bx,ev'⟩ g' w' b:=fun b hb=>by
  obtain⟨hf,hr⟩:=hb;have hnb:∀e,St.On ⟨τ.sl,τ.bx,ev'⟩ e->b∉g'.φ e:=fun e ho hm=>by
   by_cases hee:τ.ev e=none
   ·obtain⟨x,hx,_⟩:=ho;rcases((hn.new e x hee hx).2.2.1 b hm).1 with h|h
    ·obtain⟨e',ho',_,hm'⟩:=hfp b h;exact hr e' ho' hm'
    ·have:=hf.2.2.1;omega
   ·rw[(hn.old e hee).2.2]at hm;exact hr e (hOnσ e (hon e ho hee)) hm
  refine⟨hkeep b hf.2.2.1 (fun hm=>by obtain⟨e',ho',_,hm'⟩:=hfp b hm;exact hr e' ho' hm') (fun k hk e=>hf.1 k (hK.bxW k hk).1 e.symm),⟨fun k hk=>by rw[hn.β];exact hf.1 k (hbne k hk),fun e x hx hon' hh=>hnb e ⟨x,hx,hon'⟩ (List.mem_of_mem_head? hh),Js hf.2.2.1 hbk.size,by rw[hn.A0];exact hf.2.2.2⟩,hnb⟩
 have hψ:∀e,τ.ev e≠none->ev' e=τ.ev e/\g'.ψ e=g.ψ e:=fun e he=>⟨(hn.old e he).1,(hn.old e he).2.1⟩
 refine⟨by rw[hR.defers],hR.size,by rw[hn.A0,hn.R0];exact hR.anew,fun i=>?_,fun b cs hb=>?_,fun b hb=>by rw[hn.β];exact hR.base b (hbne b hb),fun b b' h1 h2 h3=>by rw[hn.β]at h3;exact hR.inj b b' (hbne b h1) (hbne b' h2) h3,fun e x he ho=>?_,fun e x he ho=>?_,hn.slc,fun e he b hb=>?_,fun e he b hb=>?_,fun e he=>?_,fun e e' h1 h2 hne b hb1 hb2=>?_,fun e k he hk hm=>?_⟩
 ·rcases hK.sl i with h|⟨h,hok⟩
  ·rw[show(⟨τ.sl,τ.bx,ev'⟩:St).sl i=.one .any from h];trivial
  ·rw[hn.R0];show VR _ g' w' (τ.sl i) _
   have hs:=hR.slots i;rw[<-h]at hs;exact qia hn.β hψ hrn hok hs
 ·by_cases hbW:b∈W
  ·rw[hn.β];exact hW b hbW cs hb
  obtain⟨hb1,hb2⟩:=hK.bx b cs hbW hb;obtain⟨vs,ty,k1,k2⟩:=hR.boxes b cs hb1;have hne:τ.bx b≠none:=by rw[show τ.bx b=some cs from hb];simp
  have hnf:=hβfp b hne;exact⟨vs,ty,by rw[hn.β,hkeep _ (hR.lt (hbne b hne)) (fun h=>hnf (Or.inl h)) (fun k hk e=>hbW (hR.inj b k (hbne b hne) (hK.bxW k hk).1 e▸hk))];exact k1,zkp hn.β hψ hrn hb2 k2⟩
 ·by_cases hee:τ.ev e=none
  ·obtain⟨⟨k1,_,k0⟩,k2,k3,k4⟩:=hn.new e x hee he;rw[k0];unfold za7 at k2;obtain⟨ao,cap,j1,j2,j3,j4⟩:=k2;refine⟨ao,cap,j1,j2,j3,?_⟩;rcases j4 with j4|⟨b,cells,ty,fps,j4,j5,j6,j7,j8⟩
   ·exact Or.inl j4
   ·exact Or.inr ⟨b,cells,ty,fps,j4,j5,j6,j7,by rw[if_pos k1];exact j8⟩
  ·obtain⟨o1,o2,o3⟩:=hn.old e hee;have hx:τ.ev e=some x:=o1.symm.trans he;obtain⟨k1,k2,k3⟩:=hK.ev e x hx;have hE:=hR.evs e x k1 k2;have hno:=hφfp e ⟨x,hx,k2⟩;have hl:=hlt e ⟨x,k1,k2⟩;have hkp:∀b∈g.φ e,w'.heap[b]?=w.heap[b]?:=fun b hb=>hkeep b (hl b hb) (fun h=>hno b hb (Or.inl h)) fun k' hk' e=>hR.ebx _ k' ⟨x,k1,k2⟩ (hK.bxW k' hk').1 (e▸hb);rw[o2,o3];obtain⟨ao,cap,r1,r2,r3,r4⟩:=hE;refine⟨ao,cap,r1,r2,r3,?_⟩;rcases r4 with r4|⟨b,cells,ty,fps,r4,r5,r6,r7,r8⟩
   ·exact Or.inl r4
   ·rw[if_pos k3]at r8;exact Or.inr ⟨b,cells,ty,fps,r4,r5,by rw[hkp b (by rw[r5];simp)];exact r6,r7,by rw[if_pos k3];exact zao.keep cells 0 x.sz x.rows fps r8 fun b' hb'=>hkp b' (by rw[r5];simp[hb'])⟩
 ·by_cases hee:τ.ev e=none
  ·rw[(hn.new e x hee he).1.2.1]at ho;cases ho
  ·have hx:τ.ev e=some x:=(hn.old e hee).1.symm.trans he;rw[(hK.ev e x hx).2.1]at ho;cases ho
 ·rw[hn.A0,hn.R0];by_cases hee:τ.ev e=none
  ·obtain⟨x,hx,_⟩:=he;have:=hNB b ((hn.new e x hee hx).2.2.1 b hb).1;exact⟨this.1,this.2.1⟩
  ·rw[(hn.old e hee).2.2]at hb;exact hR.ebase e (hOnσ e (hon e he hee)) b hb
 ·by_cases hee:τ.ev e=none
  ·obtain⟨x,hx,_⟩:=he;exact(hNB b ((hn.new e x hee hx).2.2.1 b hb).1).2.2
  ·rw[(hn.old e hee).2.2]at hb;exact hR.etop e (hOnσ e (hon e he hee)) b hb
 ·by_cases hee:τ.ev e=none
  ·obtain⟨x,hx,_⟩:=he;exact(hn.new e x hee hx).2.2.2
  ·rw[(hn.old e hee).2.2];exact hR.nodup e (hOnσ e (hon e he hee))
 ·by_cases hee:τ.ev e=none
  ·obtain⟨x,hx,_⟩:=h1;by_cases hee':τ.ev e'=none
   ·obtain⟨x',hx',_⟩:=h2;exact hn.apart e e' hee hee' (by rw[show ev' e=some x from hx];simp) (by rw[show ev' e'=some x' from hx'];simp) hne b hb1 hb2
   ·rw[(hn.old e' hee').2.2]at hb2;exact hφfp e' (hon e' h2 hee') b hb2 ((hn.new e x hee hx).2.2.1 b hb1).1
  ·rw[(hn.old e hee).2.2]at hb1;by_cases hee':τ.ev e'=none
   ·obtain⟨x',hx',_⟩:=h2;exact hφfp e (hon e h1 hee) b hb1 ((hn.new e' x' hee' hx').2.2.1 b hb2).1
   ·rw[(hn.old e' hee').2.2]at hb2;exact hR.apart e e' (hOnσ e (hon e h1 hee)) (hOnσ e' (hon e' h2 hee')) hne b hb1 hb2
 ·rw[hn.β]at hm;by_cases hee:τ.ev e=none
  ·obtain⟨x,hx,_⟩:=he;exact hβfp k hk ((hn.new e x hee hx).2.2.1 _ hm).1
  ·rw[(hn.old e hee).2.2]at hm;exact hR.ebx e k (hOnσ e (hon e he hee)) (hbne k hk) hm
def mtK (W:List Nat):List AF->List V->(List V->Prop)->Prop
 | [],[],K=>K []
 | .d _ _::l,v::vs,K=>mtK W l vs fun u=>K (v::u)
 | .p j::l,.one (.bx b o)::vs,K=>W[j]?=some b/\o=0/\mtK W l vs K
 | .fn g js::l,.one (.fn g' bs)::vs,K=>g'=g/\js.map (fun j=>W[j]?)=bs.map some/\mtK W l vs K
 | _,_,_=>False
theorem zyc {g:Gh}{W:List Nat}{bs:Nat->Nat}(hb:∀j b,W[j]?=some b->bs j=g.β b):∀(js bs':List Nat),js.map (fun j=>W[j]?)=bs'.map some->bs'.map (fun b=>Value.pointer (some ⟨g.β b,0,none⟩))=js.map fun j=>zvq (bs j)
 | [],[],_=>rfl
 | [],_::_,e=>by cases e
 | _::_,[],e=>by cases e
 | j::js,b::bs',e=>by
  simp only[Qg,List.cons.injEq]at e;rw[Qg,Qg,zyc hb js bs' e.2,hb j b e.1];rfl
theorem zf3 {σ:St}{g:Gh}{w:World}{W:List Nat}{bs:Nat->Nat}(hb:∀j b,W[j]?=some b->bs j=g.β b):∀{l:List AF}{xs:List V}{K:List V->Prop}{vs:List Value},mtK W l xs K->VRl σ g w xs vs →
  ∃us dvs,K us/\VRl σ g w us dvs/\dvs.length=(AF.ds l).length/\vs=AF.vals bs l dvs
 | [],[],K,vs,h,hv=>⟨[],[],h,rfl,rfl,hv⟩
 | .d _ _::l,x::xs,K,vs,h,hv=>by
  obtain⟨v,vs',rfl,h1,h2⟩:=hv;obtain⟨us,dvs,k1,k2,k3,k4⟩:=zf3 hb (l:=l) h h2;exact⟨x::us,v::dvs,k1,⟨v,dvs,rfl,h1,k2⟩,by simp[AF.ds,k3],by rw[k4];rfl⟩
 | .p j::l,.one (.bx b o)::xs,K,vs,h,hv=>by
  obtain⟨v,vs',rfl,h1,h2⟩:=hv;obtain⟨e1,rfl,h⟩:=h;obtain⟨us,dvs,k1,k2,k3,k4⟩:=zf3 hb (l:=l) h h2;refine⟨us,dvs,k1,k2,k3,?_⟩;have h1:CR σ g w (.bx b 0) v:=h1;rw[k4,h1.1,<-hb j b e1];rfl
 | .fn f js::l,.one (.fn f' bs')::xs,K,vs,h,hv=>by
  obtain⟨v,vs',rfl,h1,h2⟩:=hv;obtain⟨rfl,e1,h⟩:=h;obtain⟨us,dvs,k1,k2,k3,k4⟩:=zf3 hb (l:=l) h h2;refine⟨us,dvs,k1,k2,k3,?_⟩;have h1:CR σ g w (.fn f' bs') v:=h1;rw[k4,h1.1];rw[zyc hb js bs' e1];rfl
 | .d _ _::_,[],_,_,h,_=>h.elim
 | .p _::_,[],_,_,h,_=>h.elim
 | .fn _ _::_,[],_,_,h,_=>h.elim
 | [],_::_,_,_,h,_=>h.elim
 | .p _::_,.agg _::_,_,_,h,_=>h.elim
 | .p _::_,.tup _::_,_,_,h,_=>h.elim
 | .fn _ _::_,.agg _::_,_,_,h,_=>h.elim
 | .fn _ _::_,.tup _::_,_,_,h,_=>h.elim
 | .p _::_,.one (.t _)::_,_,_,h,_=>h.elim
 | .p _::_,.one (.nl _)::_,_,_,h,_=>h.elim
 | .p _::_,.one (.ow _ _)::_,_,_,h,_=>h.elim
 | .p _::_,.one (.el _ _)::_,_,_,h,_=>h.elim
 | .p _::_,.one (.eo _ _ _ _ _)::_,_,_,h,_=>h.elim
 | .p _::_,.one (.fn _ _)::_,_,_,h,_=>h.elim
 | .p _::_,.one (.cv _)::_,_,_,h,_=>h.elim
 | .p _::_,.one .any::_,_,_,h,_=>h.elim
 | .p _::_,.one (.rn _)::_,_,_,h,_=>h.elim
 | .p _::_,.one (.er _ _)::_,_,_,h,_=>h.elim
 | .fn _ _::_,.one (.t _)::_,_,_,h,_=>h.elim
 | .fn _ _::_,.one (.nl _)::_,_,_,h,_=>h.elim
 | .fn _ _::_,.one (.ow _ _)::_,_,_,h,_=>h.elim
 | .fn _ _::_,.one (.el _ _)::_,_,_,h,_=>h.elim
 | .fn _ _::_,.one (.eo _ _ _ _ _)::_,_,_,h,_=>h.elim
 | .fn _ _::_,.one (.bx _ _)::_,_,_,h,_=>h.elim
 | .fn _ _::_,.one (.cv _)::_,_,_,h,_=>h.elim
 | .fn _ _::_,.one .any::_,_,_,h,_=>h.elim
 | .fn _ _::_,.one (.rn _)::_,_,_,h,_=>h.elim
 | .fn _ _::_,.one (.er _ _)::_,_,_,h,_=>h.elim
def zxb (σ:St):List Nat->Bxs->(List V->Prop)->Prop
 | [],[],K=>K []
 | k::W,b::bx,K=>zax (σ.bx k) fun cs=>cs.length=b.length/\zxb σ W bx fun l=>K (cs.map .one++l)
 | _,_,_=>False
theorem zh7 {n0:Nat->Prop}{N:Nat}{σ:St}{g:Gh}{a:Act}{w:World}(hR:Rel n0 N σ g a w){bs:Nat->Nat}:∀{W:List Nat}{bx:Bxs}{j:Nat}{K:List V->Prop},(∀i b,W[i]?=some b->bs (j+i)=g.β b)->zxb σ W bx K →
  ∃l bvs,K l/\VRl σ g w l bvs.flatten/\zvl w bs j bvs bx/\W.length=bx.length/\∀b∈W,σ.bx b≠none
 | [],[],j,K,_,h=>⟨[],[],h,rfl,trivial,rfl,fun b hb=>by simp at hb⟩
 | k::W,b::bx,j,K,hb,h=>by
  obtain⟨cs,h1,h2,h3⟩:=zap h;obtain⟨l,bvs,k1,k2,k3,k4,k5⟩:=zh7 hR (W:=W) (bx:=bx) (j:=j+1) (fun i b hi=>by have:=hb (i+1) b (by simpa using hi);rw[show j+(i+1)=j+1+i by omega]at this;exact this) h3;obtain⟨us,ty,j1,j2⟩:=hR.boxes k cs h1;have hk:=hb 0 k rfl;rw[J9]at hk;refine⟨_,us.toList::bvs,k1,VRl.append j2.ones k2,⟨by rw[j2.len,h2],⟨ty,by rw[hk];exact j1⟩,k3⟩,by simp[k4],fun x hx=>?_⟩;rcases Qr.1 hx with rfl|hx
  ·rw[h1];simp
  ·exact k5 x hx
 | [],_::_,_,_,_,h=>h.elim
 | _::_,[],_,_,_,h=>h.elim
theorem qcf {σ:St}{K K':List V->Prop}(hK:∀l,K l->K' l):∀{W:List Nat}{bx:Bxs},zxb σ W bx K->zxb σ W bx K':=fun {W}=>by
 induction W generalizing K K' with
 | nil=>intro bx h;cases bx with
  | nil=>exact hK _ h
  | cons _ _=>exact h.elim
 | cons k W ih=>intro bx h;cases bx with
  | nil=>exact h.elim
  | cons b bx =>
   obtain⟨cs,h1,h2,h3⟩:=zap h;show zax (σ.bx k) _
   rw[h1];exact⟨h2,ih (fun l=>hK _) h3⟩
theorem zuf {W:List Nat}:∀{l:List AF}{xs:List V}{K K':List V->Prop},(∀u,K u->K' u)->mtK W l xs K->mtK W l xs K':=fun {l}=>by
 induction l with
 | nil=>intro xs K K' hK h;cases xs with
  | nil=>exact hK _ h
  | cons _ _=>exact h.elim
 | cons a l ih=>intro xs K K' hK h;cases xs with
  | nil=>cases a<;>exact h.elim
  | cons x xs =>
   cases a with
   | d b y=>exact ih (fun u=>hK _) h
   | p j =>
    cases x with
    | one c=>cases c<;>first|exact h.elim|exact⟨h.1,h.2.1,ih hK h.2.2⟩
    | agg _=>exact h.elim
    | tup _=>exact h.elim
   | fn g js =>
    cases x with
    | one c=>cases c<;>first|exact h.elim|exact⟨h.1,h.2.1,ih hK h.2.2⟩
    | agg _=>exact h.elim
    | tup _=>exact h.elim
def zgm (d:Nat):Nat->List Nat->Bxs->(Nat->Option (List C))->(Nat->Option (List C))
 | m,k::W,b::bx,f=>upd (zgm d (m+b.length) W bx f) k (some (mC d m b))
 | _,_,_,f=>f
theorem zjh (d:Nat):∀(W:List Nat)(bx:Bxs)(m:Nat)(f:Nat->Option (List C))(b:Nat),b∉W->zgm d m W bx f b=f b
 | [],_,_,_,_,_=>by unfold zgm;rfl
 | k::W,[],_,_,_,_=>by unfold zgm;rfl
 | k::W,c::bx,m,f,b,hb=>by
  unfold zgm;rw[zam _ _ (fun e=>hb (by simp[e]))];exact zjh d W bx _ f b fun h=>hb (by simp[h])
theorem zsp (d:Nat):∀(W:List Nat)(bx:Bxs)(m:Nat)(f:Nat->Option (List C))(b:Nat),W.length=bx.length->b∈W->zgm d m W bx f b≠none
 | [],_,_,_,_,_,hb=>by simp at hb
 | k::W,[],_,_,_,hl,_=>by simp at hl
 | k::W,c::bx,m,f,b,hl,hb=>by
  unfold zgm;by_cases h:b=k
  ·subst h;rw[zah];simp
  ·rw[zam _ _ h];exact zsp d W bx _ f b (by simpa using hl) ((Qr.1 hb).resolve_left h)
theorem zig {σ:St}{g:Gh}{w:World}{bs:Nat->Nat}(d:Nat){β:Nat->Nat}:∀(W:List Nat)(bx:Bxs)(bvs:List (List Value))(j m:Nat)(f:Nat->Option (List C)),(∀i b,W[i]?=some b->bs (j+i)=β b)->zvl w bs j bvs bx->CRs σ g w (mC d m bx.flatten) bvs.flatten->W.length=bx.length →
  ∀b∈W,∀cs,zgm d m W bx f b=some cs->∃vs ty,w.heap[β b]?=some (.cells vs ty (0,0))/\CRs σ g w cs vs.toList
 | [],_,_,_,_,_,_,_,_,_,b,hb,_,_=>by simp at hb
 | k::W,[],_,_,_,_,_,_,_,hl,_,_,_,_=>by simp at hl
 | k::W,c::bx,[],_,_,_,_,h0,_,_,_,_,_,_=>h0.elim
 | k::W,c::bx,vs::bvs,j,m,f,hβ,h0,hc,hl,b,hb,cs,hs=>by
  obtain⟨h1,⟨ty,h2⟩,h3⟩:=h0;rw[Q8,Q8,zf0]at hc;obtain⟨v1,v2,e,c1,c2⟩:=hc.split;obtain⟨e1,e2⟩:=J6 e (by rw[c1.len,zo5,h1]);subst e1 e2;unfold zgm at hs;by_cases h:b=k
  ·subst h;rw[zah]at hs;cases hs;have:=hβ 0 b rfl;rw[J9]at this;exact⟨⟨vs⟩,ty,by rw[<-this];exact h2,c1⟩
  ·rw[zam _ _ h]at hs;exact zig d W bx bvs (j+1) (m+c.length) f (fun i b hi=>by have:=hβ (i+1) b (by simpa using hi);rw[show j+(i+1)=j+1+i by omega]at this;exact this) h3 c2 (by simpa using hl) b ((Qr.1 hb).resolve_left h) cs hs
def St.callP (σ:St)(d:Nat)(W:List Nat)(bx':Bxs)(res:List (Bool×D)):St:={ sl:=upd σ.sl d (znp (mD d 0 res)),bx:=zgm d (zbm res).length W bx' σ.bx,ev:=mE d 0 (zbm res++bx'.flatten) σ.ev }
theorem CRs.split_flat {σ:St}{g:Gh}{w w':World}{A:Nat->Prop}{d m:Nat}{l:List (Bool×T)}{c:Bxs}{us vs:List Value}(h:CRs σ g w (mC d 0 (l++c.flatten)) (us++vs))(hl:us.length=l.length):CRs σ g w (mC d 0 l) us/\CRs σ g w (mC d l.length c.flatten) vs:=by
 rw[zf0]at h
 obtain⟨v1,v2,e,c1,c2⟩:=h.split
 obtain⟨e1,e2⟩:=J6 e (by rw[c1.len,zo5,hl])
 subst e1 e2
 rw[Q5]at c2
 exact⟨c1,c2⟩
theorem za6.one_vals {w:World}{A:Nat->Prop}:∀{ds:List (Bool×D)}{vs:List Value}{fp tp:List Nat},za6 w A ds vs fp tp->(vs.flatMap fun u=>u.cells.toList).length=(zbm ds).length:=fun {ds vs fp tp} h=>by
 obtain⟨tp',h'⟩:=h.flat
 rw[za6.len h']
 unfold bxA
 rw[Qa]
theorem qb5 {W:List Nat}{o:Oper}{σ:St}{τs:Nat->V}{τe:Nat->Option Ev}{τb:Nat->Option (List C)}{x:Operand}{asx:Array Operand}{ts:Array TypeId}{f:FuncId}{cvs:List V}{d:Nat}{bx bx':Bxs}{l:List AF}{res:List (Bool×D)}{ps:List (Nat×Nat×Nat)}(ho:o.op=.call ⟨.value x,asx,ts⟩)(hd:o.dst=some d)
  (h:PC P f bx l bx' res) (hc:za8 (σ.get P 0 x)=some (f,cvs)) (hK:KeptB W σ ⟨τs,zgm d (zbm res).length W bx' τb,τe⟩) (hWn:W.Nodup)
  (hv:mtK W l (σ.gets P asx ts++cvs) fun us=>zxb σ W bx fun cs=>gvA σ (fun u=>∀s∈u,τe s.1=none) [] ps (us++cs) (AF.ds l++bxA bx.flatten)) (hf:mF d 0 (zbm res++bx'.flatten) τe):zak P o σ (St.callP ⟨τs,τb,τe⟩ d W bx' res):=by
 intro n0 N g a w hR hn hdN
 obtain⟨vs,h1,h2⟩:=zd8 hR ho hc h.1
 unfold Oper.wp
 rw[h1]
 obtain⟨B,hB⟩:=hR.fam
 let bs:Nat->Nat:=fun j=>g.β (W.getD j 0)
 have hbs:∀j b,W[j]?=some b->bs j=g.β b:=fun j b hj=>by show g.β (W.getD j 0)=_;rw[List.getD_eq_getElem?_getD,hj];rfl
 obtain⟨us,dvs,a1,a2,a3,rfl⟩:=zf3 hbs hv h2
 obtain⟨cs,bvs,b1,b2,b3,b4,b5⟩:=zh7 hR (bs:=bs) (j:=0) (fun i b hi=>by rw[Q5];exact hbs i b hi) a1
 obtain⟨s,k1,⟨tp,k2⟩,k3,k4⟩:=zek hR hB b1 (VRl.append a2 b2)
 rw[Ks]at k1 k4
 have hsp:s.Pairwise okP:=(Jq.1 (k4 List.Pairwise.nil)).imp fun h=>h.symm
 have hnd:=zdq hR hB k3 hsp
 have hfp:∀b∈bks B s,∃e,σ.On e/\τe e=none/\b∈g.φ e:=fun b hb=>by
  obtain⟨x,hx,hm⟩:=Jh.1 hb;exact⟨x.1,k3 x hx,k1 x (List.mem_reverse.2 hx),hB.sub x.1 x.2 b (k3 x hx) hm⟩
 have hfn:∀b,zcd σ g w b->b∉bks B s:=fun b hb hm=>by obtain⟨e,h1,_,h3⟩:=hfp b hm;exact hb.2 e h1 h3
 have hWj:∀j,j<bx.length->∃b,W[j]?=some b/\b∈W/\bs j=g.β b:=fun j hj=>by
  have hlt:j<W.length:=by omega
  exact⟨W[j],List.getElem?_eq_getElem hlt,Qj hlt,hbs j _ (List.getElem?_eq_getElem hlt)⟩
 have hWb:∀b∈W,∃j,j<bx.length/\bs j=g.β b:=fun b hb=>by
  obtain⟨j,hj,rfl⟩:=Jm hb;exact⟨j,Yo,hbs j _ (List.getElem?_eq_getElem hj)⟩
 have hinj:∀i j,i<bx.length->j<bx.length->bs i=bs j->i=j:=fun i j hi hj he=>by
  obtain⟨b,e1,e2,e3⟩:=hWj i hi;obtain⟨c,f1,f2,f3⟩:=hWj j hj;have:b=c:=hR.inj b c (b5 b e2) (b5 c f2) (by rw[<-e3,<-f3];exact he);subst this;have hi':i<W.length:=by omega
  have hj':j<W.length:=by omega
  rw[List.getElem?_eq_getElem hi']at e1;rw[List.getElem?_eq_getElem hj']at f1;exact(List.getElem_inj hWn).1 ((Option.some.inj e1).trans (Option.some.inj f1).symm)
 have hbf:∀j,j<bx.length->bs j∉bks B s:=fun j hj hm=>by
  obtain⟨b,_,e2,e3⟩:=hWj j hj;obtain⟨e,h1,_,h3⟩:=hfp _ hm;exact hR.ebx e b h1 (b5 b e2) (e3▸h3)
 have hfb:∀b,zcd σ g w b->∀j,j<bx.length->b≠bs j:=fun b hb j hj e=>by
  obtain⟨c,_,e2,e3⟩:=hWj j hj;exact hb.1.1 c (b5 c e2) (by rw[<-e3,e])
 refine(h.2.2 w bs bvs dvs (bks B s) tp (zcd σ g w) hinj hbf b3 (za6.keepA (fun b hb=>⟨⟨hb.1.2.2.1,hfn b hb,hfb b hb⟩,hb⟩) k2) hnd a3).mono ?_
 rintro e w' ⟨us',bvs',fp',tp',rfl,hbx',hlu,o1,o2,o3,hbk⟩
 obtain⟨v1,v2,f1,f2,t1,t2,ev,ef,et,p1,p2⟩:=za6.split o1
 obtain⟨rfl,rfl⟩:=J6 ev (by rw[hlu,za6.len p1])
 subst ef
 obtain⟨t1',p1'⟩:=p1.flat
 have pp:=za6.append p1' p2
 rw[<-zgc]at pp
 have hnew:=New.refl ⟨τs,zgm d (zbm res).length W bx' τb,τe⟩ g (fun b=>b∈bks B s\/w.heap.size<=b) w' hR.slc
 obtain⟨g',q1,q2,q3⟩:=New.mix (τ:=⟨τs,zgm d (zbm res).length W bx' τb,τe⟩) (g:=g) (NB:=fun b=>b∈bks B s\/w.heap.size<=b) (w':=w') d (zbm res++bx'.flatten) _ (f1++f2) _ 0 τe g [] hnew hf pp o2 (fun b hb'=>⟨o3 b hb',by simp⟩)
 have hbk':Bk (fun k=>k<w.heap.size/\k∉bks B s/\∀b∈W,k≠g.β b) w w':=⟨hbk.os,hbk.tape,hbk.output,hbk.size,fun k hk=>hbk.block k ⟨hk.1,hk.2.1,fun j hj e=>by
  obtain⟨c,_,e2,e3⟩:=hWj j hj
  exact hk.2.2 c e2 (by rw[<-e3,e])⟩⟩
 have hfree:∀k,((k<w'.heap.size/\k∉f1++f2/\∀j,j<bx.length->k≠bs j)/\(zcd σ g w k\/w.heap.size<=k\/k∈bks B s))->zcd ⟨τs,zgm d (zbm res).length W bx' τb,mE d 0 (zbm res++bx'.flatten) τe⟩ g' w' k:=fun k hk=>by
  have hOnσ:∀e,St.On ⟨τs,zgm d (zbm res).length W bx' τb,τe⟩ e->σ.On e:=fun e ⟨x,hx,ho⟩=>⟨x,(hK.ev e x hx).1,ho⟩;have hno:∀e,St.On ⟨τs,zgm d (zbm res).length W bx' τb,mE d 0 (zbm res++bx'.flatten) τe⟩ e->k∉g'.φ e:=fun e ho' hm=>by
   by_cases hee:τe e=none
   ·obtain⟨x,hx,_⟩:=ho';have:=((q1.new e x hee hx).2.2.1 k hm).2;rw[Jb]at this;exact hk.1.2.1 this
   ·rw[(q1.old e hee).2.2]at hm;obtain⟨x,hx,hon⟩:=ho';have ho2:St.On ⟨τs,zgm d (zbm res).length W bx' τb,τe⟩ e:=⟨x,(q1.old e hee).1.symm.trans hx,hon⟩;rcases hk.2 with h|h|h
    ·exact h.2 e (hOnσ e ho2) hm
    ·obtain⟨y,hy,hyo⟩:=hOnσ e ho2;have:=(hR.evs e y hy hyo).lt k hm;omega
    ·obtain⟨e',h1,h2,h3⟩:=hfp k h;refine hR.apart e e' (hOnσ e ho2) h1 (fun ee=>?_) k hm h3;subst ee;obtain⟨y,hy,_⟩:=ho2;have hy:τe e=some y:=hy;rw[h2]at hy;cases hy
  have hbne:∀b,zgm d (zbm res).length W bx' τb b≠none->σ.bx b≠none:=fun b hb=>by
   by_cases hbW:b∈W
   ·exact(hK.bxW b hbW).1
   obtain⟨cs,hcs⟩:=Ko.1 hb;rw[(hK.bx b cs hbW hcs).1];simp
  refine⟨⟨fun j hj e=>?_,fun e x hx hon hh=>hno e ⟨x,hx,hon⟩ (List.mem_of_mem_head? hh),hk.1.1,?_⟩,hno⟩
  ·have hj':=hbne j hj;rw[q1.β]at e;rcases hk.2 with h|h|h
   ·exact h.1.1 j hj' e
   ·have:=hR.lt hj';omega
   ·obtain⟨e',h1,_,h3⟩:=hfp k h;exact hR.ebx e' j h1 hj' (e▸h3)
  ·rw[q1.A0];rcases hk.2 with h|h|h
   ·exact h.1.2.2.2
   ·exact(hR.anew k (hn.new h)).1
   ·obtain⟨e',h1,_,h3⟩:=hfp k h;exact(hR.ebase e' h1 k h3).1
 have hcr:=q3 ⟨τs,zgm d (zbm res).length W bx' τb,mE d 0 (zbm res++bx'.flatten) τe⟩ w' rfl fun t v h=>zas.keep (fun _ _=>rfl) hfree t v h
 obtain⟨hc1,hc2⟩:=hcr.split_flat (A:=fun _=>True) (w':=w') (m:=0) (za6.one_vals p1)
 have hR':=hR.givenB hn hK (fun b hb=>by obtain⟨e,x1,x2,x3⟩:=hfp b hb;exact⟨e,x1,x2,x3⟩) hbk' q1 (zig d W bx' bvs' 0 (zbm res).length τb (fun i b hi=>by rw[Q5];exact hbs i b hi) hbx' hc2 (by rw[h.2.1];omega))
 have hBk:Bk n0 w w':=⟨hbk.os,hbk.tape,hbk.output,hbk.size,fun k hk=>hbk.block k ⟨hn k hk,fun hm=>by
  obtain⟨e,h1,_,h3⟩:=hfp k hm;exact hR.etop e h1 k h3 hk,fun j hj e=>by
  obtain⟨c,_,e2,e3⟩:=hWj j hj
  exact hR.base c (b5 c e2) (by rw[<-e3,<-e];exact hk)⟩⟩
 refine⟨g',?_,hBk,q1.A0,q1.R0⟩
 have hp:=hR'.put (some d) (x:=znp (mD d 0 res)) (v:=zcj us') (ze6 (zsa d 0 p1 hc1) (zqq d res 0)) (fun i hi=>by cases hi;exact hdN d hd)
 rw[hd]
 exact hp
end
section
open Go.RowKit
variable {P:Program}
def subN:List Nat->List Nat->Prop
 | [],_=>True
 | x::xs,l=>noK x l=false/\subN xs l
theorem zzc:∀{x:Nat}{l:List Nat},noK x l=false->x∈l
 | _,[],h=>by cases h
 | x,y::l,h=>by
  unfold noK at h;by_cases e:x=y
  ·simp[e]
  ·rw[if_neg e]at h;exact Jg _ (zzc h)
theorem zi5:∀{xs l:List Nat},subN xs l->∀x∈xs,x∈l
 | [],_,_,x,hx=>by simp at hx
 | y::xs,l,h,x,hx=>by
  rcases Qr.1 hx with rfl|hx
  ·exact zzc h.1
  ·exact zi5 h.2 x hx
theorem zjl {σ:St}:∀(L:List Nat)(i:Nat),(i∈L->zgk (σ.lL L) i=σ.sl i)/\(i∉L->zgk (σ.lL L) i=.one .any)
 | [],i=>⟨fun h=>by simp at h,fun _=>rfl⟩
 | j::L,i=>by
  show(_->(if i=j then σ.sl j else zgk (σ.lL L) i)=_)/\(_->(if i=j then σ.sl j else zgk (σ.lL L) i)=_)
  by_cases h:i=j
  ·subst h;rw[if_pos rfl];exact⟨fun _=>rfl,fun h=>by simp at h⟩
  ·rw[if_neg h];exact⟨fun hm=>(zjl L i).1 ((Qr.1 hm).resolve_left h),fun hm=>(zjl L i).2 fun h'=>hm (Jg _ h')⟩
theorem ze9 {α:Type}(f:Nat->α):∀(L:List Nat)(i:Nat),(i∈L->tbl (L.map fun b=>(b,f b)) i=some (f i))/\(i∉L->tbl (L.map fun b=>(b,f b)) i=none)
 | [],i=>⟨fun h=>by simp at h,fun _=>rfl⟩
 | j::L,i=>by
  show(_->(if i=j then some (f j)else tbl (L.map fun b=>(b,f b)) i)=_)/\(_->(if i=j then some (f j)else tbl (L.map fun b=>(b,f b)) i)=_)
  by_cases h:i=j
  ·subst h;rw[if_pos rfl];exact⟨fun _=>rfl,fun h=>by simp at h⟩
  ·rw[if_neg h];exact⟨fun hm=>(ze9 f L i).1 ((Qr.1 hm).resolve_left h),fun hm=>(ze9 f L i).2 fun h'=>hm (Jg _ h')⟩
def blank (W:List Nat)(f:Nat->Option (List C)):Nat->Option (List C)
 | b=>if noK b W=true then f b else some []
theorem qeb (W:List Nat)(f:Nat->Option (List C))(b:Nat):blank W f b=if noK b W=true then f b else some []:=rfl
def St.wB (σ:St)(W:List Nat):St:=⟨σ.sl,blank W σ.bx,σ.ev⟩
def St.BW (σ:St)(L W:List Nat):List Nat:=dif W ((σ.wB W).KB L)
def St.EW (σ:St)(L W:List Nat):List Nat:=(σ.wB W).KE L
def St.hW (σ:St)(L W:List Nat):St:=⟨zgk (σ.lL L),tbl (σ.lB (σ.BW L W)),tbl (σ.lE (σ.EW L W))⟩
section
variable {ks:List Fr}{Q:Exit->St->Prop}{σ:St}{ops:Array Oper}{os:List Oper}{ty:TypeId}{ps:String}{af:Array Edge}{d:Nat}{x:Operand}{asx:Array Operand}{ts:Array TypeId}{f:FuncId}{bx bx':Bxs}{l:List AF}{res:List (Bool×D)}
theorem zag (L A W:List Nat)(pl:List (Nat×Nat×Nat))(h:PC P f bx l bx' res)(hWn:W.Nodup)(hWl:W.length=bx'.length)(hw:wkK σ (A++L))
  (hk:subN (σ.BW L W) (σ.KB (A++L))/\subN W (σ.KB (A++L))/\subN (σ.EW L W) (σ.KE (A++L))/\okL ⟨zgk (σ.lL L),zgm d (zbm res).length W bx' (tbl (σ.lB (σ.BW L W))),tbl (σ.lE (σ.EW L W))⟩ (σ.lL L)/\okB ⟨zgk (σ.lL L),zgm d (zbm res).length W bx' (tbl (σ.lB (σ.BW L W))),tbl (σ.lE (σ.EW L W))⟩ (σ.lB (σ.BW L W))/\okE (σ.lE (σ.EW L W)))
  (hp:zax (za8 ((σ.hL (A++L)).get P 0 x)) fun p=>p.1=f/\mtK W l ((σ.hL (A++L)).gets P asx ts++p.2) fun us=>zxb (σ.hL (A++L)) W bx fun cs=>gvA (σ.hL (A++L)) (zpr (σ.lE (σ.EW L W))) [] pl (us++cs) (AF.ds l++bxA bx.flatten))
  (hf:mF d 0 (zbm res++bx'.flatten) (tbl (σ.lE (σ.EW L W))))
  (k:exo P ops os ks Q ((σ.hW L W).callP d W bx' res)):exo P ops (⟨some d,.call ⟨.value x,asx,ts⟩,ty,ps,af,none⟩::os) ks Q σ:=by
 obtain⟨⟨f',cvs⟩,h1,rfl,h2⟩:=zap hp
 obtain⟨k1,k2,k3,k4,k5,k6⟩:=hk
 have hK:KeptB W (σ.hL (A++L)) ⟨zgk (σ.lL L),zgm d (zbm res).length W bx' (tbl (σ.lB (σ.BW L W))),tbl (σ.lE (σ.EW L W))⟩:=by
  refine⟨fun i=>?_,fun b cs hb hcs=>?_,fun b hb=>⟨?_,zsp d W bx' _ _ b hWl hb⟩,fun e x he=>?_⟩
  ·by_cases hi:i∈L
   ·refine Or.inr ⟨?_,zny k4 i⟩;show zgk (σ.lL L) i=zgk (σ.lL (A++L)) i
    rw[(zjl L i).1 hi,(zjl (A++L) i).1 (Jp _ hi)]
   ·exact Or.inl ((zjl L i).2 hi)
  ·have hcs:zgm d (zbm res).length W bx' (tbl (σ.lB (σ.BW L W))) b=some cs:=hcs;rw[zjh d W bx' _ _ b hb]at hcs;by_cases hm:b∈σ.BW L W
   ·refine⟨?_,zng k5 b cs hcs⟩;have e1:=(ze9 (fun b=>(σ.bx b).getD []) (σ.BW L W) b).1 hm;have e2:=(ze9 (fun b=>(σ.bx b).getD []) (σ.KB (A++L)) b).1 (zi5 k1 b hm);have e1:tbl (σ.lB (σ.BW L W)) b=some ((σ.bx b).getD []):=e1;rw[e1]at hcs;cases hcs;exact e2
   ·have e1:=(ze9 (fun b=>(σ.bx b).getD []) (σ.BW L W) b).2 hm;have e1:tbl (σ.lB (σ.BW L W)) b=none:=e1;rw[e1]at hcs;cases hcs
  ·have e2:=(ze9 (fun b=>(σ.bx b).getD []) (σ.KB (A++L)) b).1 (zi5 k2 b hb);have e2:(σ.hL (A++L)).bx b=some ((σ.bx b).getD []):=e2;rw[e2];simp
  ·have he:tbl (σ.lE (σ.EW L W)) e=some x:=he;by_cases hm:e∈σ.EW L W
   ·refine⟨?_,znw k6 e x he⟩;have e1:=(ze9 (fun e=>(σ.ev e).getD ⟨false,0,[],0,false⟩) (σ.EW L W) e).1 hm;have e2:=(ze9 (fun e=>(σ.ev e).getD ⟨false,0,[],0,false⟩) (σ.KE (A++L)) e).1 (zi5 k3 e hm);have e1:tbl (σ.lE (σ.EW L W)) e=some ((σ.ev e).getD ⟨false,0,[],0,false⟩):=e1;rw[e1]at he;cases he;exact e2
   ·have e1:=(ze9 (fun e=>(σ.ev e).getD ⟨false,0,[],0,false⟩) (σ.EW L W) e).2 hm;have e1:tbl (σ.lE (σ.EW L W)) e=none:=e1;rw[e1]at he;cases he
 refine zdh rfl rfl (zak.pre (wkK_wk hw) (qb5 (P:=P) (o:=⟨some d,.call ⟨.value x,asx,ts⟩,ty,ps,af,none⟩) rfl rfl h h1 hK hWn (ps:=pl) ?_ hf)) k
 exact zuf (fun us hu=>qcf (fun cs hc=>zgh (fun u hu=>zhl hu) hc) hu) h2
end
def mkZ (P:Program)(t:TypeId):List (List C):=match (elT P t).bind (zc5 P)with
 | some z=>[z]
 | none=>[]
def mkEv (d:Nat):Option (Prop×Ev)->List (Nat×Ev)
 | some (_,y)=>[(d*32,y)]
 | none=>[]
theorem qk8 {σ σ1:St}{t:TypeId}{l c:Operand}(h:∀k∈zaz [l,c]++rK (mkZ P t),zbd σ σ1 k):mkD P σ1 t l c=mkD P σ t l c:=by
 have e1:σ1.get P 0 l=σ.get P 0 l:=zcb (l:=[l,c]) (fun k hk=>h k (by simp[hk])) (by simp) 0
 have e2:σ1.get P 0 c=σ.get P 0 c:=zcb (l:=[l,c]) (fun k hk=>h k (by simp[hk])) (by simp) 0
 unfold mkD
 rw[e1,e2]
 unfold mkZ at h
 cases hel:elT P t with
 | none=>rfl
 | some el =>
  simp only[Q9];rw[hel]at h;cases hz:zc5 P el with
  | none=>simp only[Option.bind_none]
  | some z =>
   rw[Q9,hz]at h;have e3:zqv σ1 z=zqv σ z:=zjd fun k hk=>h k (by simp[rK,hk]);simp only[Q9,e3]
section
variable {ks:List Fr}{Q:Exit->St->Prop}{σ:St}{ops:Array Oper}{os:List Oper}{L:List (List Ky×List Ky)}{ty:TypeId}{ps:String}{af:Array Edge}{d:Nat}{l c:Operand}{t:TypeId}
theorem dMakeD (h:zax (mkD P σ t l c) fun r=>r.1/\σ.ev (d*32)=none)
  (k:exd P ops os (L++[(zaz [l,c]++(rK (mkZ P t)++[(2,d*32)]),dK (some d)++eK (mkEv d (mkD P σ t l c)))]) ks Q ((σ.mk1 d (mkD P σ t l c)).put (some d) (.one (.ow (d*32) 0)))) :
  exd P ops (⟨some d,.makeSlice t l c,ty,ps,af,none⟩::os) L ks Q σ:=by
 obtain⟨⟨p,y⟩,h1,h2,h3⟩:=zap h
 rw[h1]at k
 have hloc:∀σ1,(∀k∈zaz [l,c]++(rK (mkZ P t)++[(2,d*32)]),zbd σ σ1 k)->mkD P σ1 t l c=some (p,y)/\σ1.ev (d*32)=none:=fun σ1 hs =>
  ⟨(qk8 fun k hk=>hs k (by simp only[Qt]at hk⊢;rcases hk with hk|hk<;>simp[hk])).trans h1,(Eq.symm (hs (2,d*32) (by simp))).trans h3⟩
 refine zfj rfl rfl ?_ k
 show zgo P _ _ _ σ ((σ.apd (d*32) [] y).put (some d) _)
 rw[zd3]
 refine zgo.of (o:=⟨some d,_,ty,ps,af,none⟩) (l:=[(d*32,y)]) (zbj (zbx _) (zbj (zrn _) rfl)) fun σ1 hs=>?_
 obtain⟨h1,h3⟩:=hloc σ1 hs
 show zak P _ σ1 ((σ1.upE ((d*32,y)::zsc [])).put _ _)
 rw[<-zd3]
 unfold mkD at h1
 obtain⟨el,e1,h1⟩:=Qf.1 h1
 obtain⟨n,e2,h1⟩:=Qf.1 h1
 obtain⟨bts,e3,h1⟩:=Qf.1 h1
 obtain⟨z,e4,h1⟩:=Qf.1 h1
 obtain⟨⟨q1,q2⟩,e5,h1⟩:=Qf.1 h1
 split at h1
 ·rename_i kl a kc b hl hc;split at h1
  ·rename_i hh;obtain⟨k1,k2,k3⟩:=hh;have:q2=[]:=K1 k2;subst this;simp only[Qe,Qo]at h1;obtain⟨rfl,rfl⟩:=h1;exact qi2 e1 e2 e3 e4 k1 e5 hl hc k3 h2.1 h2.2.1 h2.2.2 h3
  ·cases h1
 ·cases h1
end
def zvo:Option (Nat×Ev×List (Nat×Ev))->List Ky
 | some (e,_,_)=>[(2,e)]
 | none=>[]
def stoW:Option (Nat×Ev×List (Nat×Ev))->List (Nat×Ev)
 | some (e,y,cons)=>(e,y)::zsc cons
 | none=>[]
theorem qfx {σ σ1:St}{t:TypeId}{x y:Operand}(h:∀k∈zaz [x,y]++(rK [(σ.get P t y).cells]++zvo (zqu P σ t x y)),zbd σ σ1 k){r:Nat×Ev×List (Nat×Ev)}(hr:zqu P σ t x y=some r):zqu P σ1 t x y=some r:=by
 have e1:σ1.get P 0 x=σ.get P 0 x:=zcb (l:=[x,y]) (fun k hk=>h k (by simp[hk])) (by simp) 0
 have e2:σ1.get P t y=σ.get P t y:=zcb (l:=[x,y]) (fun k hk=>h k (by simp[hk])) (by simp) t
 have e3:zqv σ1 (σ.get P t y).cells=zqv σ (σ.get P t y).cells:=zjd fun k hk=>h k (by simp[rK,hk])
 rw[hr]at h
 rw[<-hr]
 unfold zqu at hr⊢
 rw[e1,e2]
 split at hr
 ·rename_i e g sz i o hx;obtain⟨z,hz,hr⟩:=Qf.1 hr;obtain⟨n,hn,hr⟩:=Qf.1 hr;split at hr
  ·obtain⟨q,_,hr⟩:=Q4.1 hr;subst hr;have e4:σ1.ev e=σ.ev e:=Eq.symm (h (2,e) (by simp[zvo]));simp only[e4,e3]
  ·cases hr
 ·cases hr
section
variable {ks:List Fr}{Q:Exit->St->Prop}{σ:St}{ops:Array Oper}{os:List Oper}{L:List (List Ky×List Ky)}{ty:TypeId}{ps:String}{af:Array Edge}{ds:Option Nat}{x y:Operand}{t:TypeId}
theorem qg3 (r:Option (Nat×Ev×List (Nat×Ev))):okK (zvo r)=true:=by
 cases r with
 | none=>rfl
 | some r=>rfl
theorem qav (h:zax (zqu P σ t x y) fun r=>(r.2.2.map (·.1)).Nodup/\∀p∈r.2.2,p.1≠r.1)
  (k:exd P ops os (L++[(zaz [x,y]++(rK [(σ.get P t y).cells]++zvo (zqu P σ t x y)),dK ds++eK (stoW (zqu P σ t x y)))]) ks Q ((σ.apdO (zqu P σ t x y)).put ds (.one .any))):exdS P ops ⟨ds,.store t x y,ty,ps,af,none⟩ os L ks Q σ:=by
 obtain⟨⟨e,z,cons⟩,h1,h2,h3⟩:=zap h
 refine⟨_,_,_,?_,k⟩
 have hloc:∀σ1,(∀k∈zaz [x,y]++(rK [(σ.get P t y).cells]++zvo (zqu P σ t x y)),zbd σ σ1 k)->zqu P σ1 t x y=some (e,z,cons):=fun σ1 hs=>qfx hs h1
 rw[h1]
 show zgo P _ _ (dK ds++eK ((e,z)::zsc cons)) σ ((σ.apd e cons z).put ds _)
 rw[zd3]
 rw[h1]at hloc
 refine zgo.of (o:=⟨ds,_,ty,ps,af,none⟩) (l:=(e,z)::zsc cons) (zbj (zbx _) (zbj (zrn _) (qg3 _))) fun σ1 hs=>?_
 have hh:=hloc σ1 hs
 have hs2:=zu2 (σ:=σ1) (ty:=ty) (ps:=ps) (af:=af) (ds:=ds) (x:=x) (y:=y) (t:=t) (P:=P) (by rw[hh];exact⟨h2,h3⟩)
 rw[hh]at hs2
 have hs2:zak P ⟨ds,.store t x y,ty,ps,af,none⟩ σ1 ((σ1.apd e cons z).put ds (.one .any)):=hs2
 rw[zd3]at hs2
 exact hs2
end
attribute [go_sem] mkZ mkEv zvo stoW AF.ds c1P zt6 zkb zdd zio zh0 bxE PB PB0 mtK zxb zgm St.callP subN qeb St.wB St.BW St.EW St.hW bxA List.flatten_cons List.flatten_nil
end
section
open Go.RowKit
variable {P:Program}
theorem Rel.afterB {W:List Nat}{bx':Nat->Option (List C)}{n0:Nat->Prop}{N:Nat}{σ:St}{g g':Gh}{a:Act}{w w':World}{ev':Nat->Option Ev}{F:List Nat}(h:Rel n0 N σ g a w)(hn0:LtK n0 w)(hb:Bk (fun k=>k<w.heap.size/\∀b∈W,k≠g.β b) w w')(hdom:∀b,bx' b≠none↔σ.bx b≠none)(hsm:∀b,b∉W->bx' b=σ.bx b)(hWσ:∀b∈W,σ.bx b≠none)(hn:New σ g (w.heap.size<=·) w' ev' g' F)(hW:∀b∈W,∀cs,bx' b=some cs->∃vs ty,w'.heap[g.β b]?=some (.cells vs ty (0,0))/\CRs ⟨σ.sl,bx',ev'⟩ g' w' cs vs.toList):Rel n0 N ⟨σ.sl,bx',ev'⟩ g' a w':=by
 have hlt:∀e x,σ.ev e=none->ev' e=some x->∀b∈g'.φ e,w.heap.size<=b:=fun e x h1 h2 b hbb=>((hn.new e x h1 h2).2.2.1 b hbb).1
 have hold:∀e,σ.On e->∀b∈g.φ e,b<w.heap.size:=fun e he b hbb=>by
  obtain⟨x,hx,ho⟩:=he;exact(h.evs e x hx ho).lt b hbb
 have hon:∀e,St.On ⟨σ.sl,bx',ev'⟩ e->σ.ev e≠none->σ.On e:=fun e he hee=>by
  obtain⟨x,hx,ho⟩:=he;exact⟨x,(hn.old e hee).1.symm.trans hx,ho⟩
 have hne:∀e,St.On ⟨σ.sl,bx',ev'⟩ e->∃x,ev' e=some x:=fun e he=>⟨_,he.choose_spec.1⟩
 have m:Mv σ ⟨σ.sl,bx',ev'⟩ g g' w w':=by
  refine⟨fun b hf=>hb.block b ⟨hf.2.2.1,fun k hk e=>hf.1 k (hWσ k hk) e.symm⟩,fun b hf=>⟨fun k hk=>by rw[hn.β];exact hf.1 k ((hdom k).1 hk),fun e x hx ho hh=>?_,Js hf.2.2.1 hb.size,by rw[hn.A0];exact hf.2.2.2⟩,fun b hbb=>⟨by rw[hn.β],(hdom b).2 hbb⟩,fun e n he=>?_,fun b hf e he hm=>?_⟩
  ·by_cases hee:σ.ev e=none
   ·have:=hlt e x hee hx b (List.mem_of_mem_head? hh);have:=hf.2.2.1;omega
   ·rw[(hn.old e hee).2.2]at hh;exact hf.2.1 e x ((hn.old e hee).1.symm.trans hx) ho hh
  ·obtain⟨x,hx,hg⟩:=he;have hee:σ.ev e≠none:=by rw[hx];simp
   exact⟨⟨x,(hn.old e hee).1.trans hx,hg⟩,by rw[(hn.old e hee).2.1]⟩
  ·by_cases hee:σ.ev e=none
   ·obtain⟨x,hx⟩:=hne e he;have:=hlt e x hee hx b hm;have:=hf.1.2.2.1;omega
   ·rw[(hn.old e hee).2.2]at hm;exact hf.2 e (hon e he hee) hm
 refine⟨h.defers,h.size,by rw[hn.A0,hn.R0];exact h.anew,fun i=>by rw[hn.R0];exact m.vr (h.slots i),fun b cs hbb=>?_,fun b hbb=>by rw[hn.β];exact h.base b ((hdom b).1 hbb),fun b b' h1 h2 h3=>by rw[hn.β]at h3;exact h.inj b b' ((hdom b).1 h1) ((hdom b').1 h2) h3,fun e x he ho=>?_,fun e x he ho=>?_,hn.slc,fun e he b hbb=>?_,fun e he b hbb=>?_,fun e he=>?_,fun e e' h1 h2 hne' b hb1 hb2=>?_,fun e k he hk hm=>?_⟩
 ·by_cases hbW:b∈W
  ·rw[hn.β];exact hW b hbW cs hbb
  have hbb:bx' b=some cs:=hbb;rw[hsm b hbW]at hbb;obtain⟨vs,ty,k1,k2⟩:=h.boxes b cs hbb;have hne0:σ.bx b≠none:=by rw[hbb];simp
  exact⟨vs,ty,by rw[hn.β,hb.block _ ⟨h.lt hne0,fun k hk e=>hbW (h.inj b k hne0 (hWσ k hk) e▸hk)⟩];exact k1,m.crs k2⟩
 ·by_cases hee:σ.ev e=none
  ·obtain⟨⟨k1,_,k0⟩,k2,k3,k4⟩:=hn.new e x hee he;rw[k0];unfold za7 at k2;obtain⟨ao,cap,j1,j2,j3,j4⟩:=k2;refine⟨ao,cap,j1,j2,j3,?_⟩;rcases j4 with j4|⟨b,cells,ty,fps,j4,j5,j6,j7,j8⟩
   ·exact Or.inl j4
   ·exact Or.inr ⟨b,cells,ty,fps,j4,j5,j6,j7,by rw[if_pos k1];exact j8⟩
  ·have he':=he;simp only[(hn.old e hee).1]at he;rw[(hn.old e hee).2.1,(hn.old e hee).2.2];exact m.evr (h.evs e x he ho) fun b hbb=>hb.block b ⟨hold e ⟨x,he,ho⟩ b hbb,fun k hk e'=>h.ebx e k ⟨x,he,ho⟩ (hWσ k hk) (e'▸hbb)⟩
 ·by_cases hee:σ.ev e=none
  ·obtain⟨⟨_,k1,_⟩,_⟩:=hn.new e x hee he;rw[k1]at ho;cases ho
  ·simp only[(hn.old e hee).1]at he;rw[(hn.old e hee).2.1];exact⟨m.rep (h.offs e x he ho).1,(h.offs e x he ho).2⟩
 ·by_cases hee:σ.ev e=none
  ·obtain⟨x,hx⟩:=hne e he;rw[hn.A0,hn.R0];exact h.anew b (hn0.new (hlt e x hee hx b hbb))
  ·rw[(hn.old e hee).2.2]at hbb;rw[hn.A0,hn.R0];exact h.ebase e (hon e he hee) b hbb
 ·by_cases hee:σ.ev e=none
  ·obtain⟨x,hx⟩:=hne e he;exact hn0.new (hlt e x hee hx b hbb)
  ·rw[(hn.old e hee).2.2]at hbb;exact h.etop e (hon e he hee) b hbb
 ·by_cases hee:σ.ev e=none
  ·obtain⟨x,hx⟩:=hne e he;exact(hn.new e x hee hx).2.2.2
  ·rw[(hn.old e hee).2.2];exact h.nodup e (hon e he hee)
 ·obtain⟨x,hx⟩:=hne e h1;obtain⟨x',hx'⟩:=hne e' h2;by_cases e1:σ.ev e=none<;>by_cases e2:σ.ev e'=none
  ·exact hn.apart e e' e1 e2 (by rw[hx];simp) (by rw[hx'];simp) hne' b hb1 hb2
  ·rw[(hn.old e' e2).2.2]at hb2;have:=hlt e x e1 hx b hb1;have:=hold e' (hon e' h2 e2) b hb2;omega
  ·rw[(hn.old e e1).2.2]at hb1;have:=hlt e' x' e2 hx' b hb2;have:=hold e (hon e h1 e1) b hb1;omega
  ·rw[(hn.old e e1).2.2]at hb1;rw[(hn.old e' e2).2.2]at hb2;exact h.apart e e' (hon e h1 e1) (hon e' h2 e2) hne' b hb1 hb2
 ·rw[hn.β]at hm;by_cases hee:σ.ev e=none
  ·obtain⟨x,hx⟩:=hne e he;have:=hlt e x hee hx _ hm;have:=h.lt ((hdom k).1 hk);omega
  ·rw[(hn.old e hee).2.2]at hm;exact h.ebx e k (hon e he hee) ((hdom k).1 hk) hm
def gvQ:List V->List (Bool×D)->Prop
 | [],[]=>True
 | v::vs,(false,d)::ds=>rdV v d/\gvQ vs ds
 | .one (.t x)::vs,(true,.one t)::ds=>x=t/\t.flat=true/\gvQ vs ds
 | _,_=>False
theorem qdz {w:World}{A:Nat->Prop}{t:T}{v:Value}(hf:t.flat=true)(h:zas w A t v):za7 w t v []/\zkh t []=[]:=by
 cases t<;>simp only[T.flat,Qp]at hf
 ·unfold zas at h;unfold za7;exact⟨⟨h.1,h.2.1,h.2.2,rfl⟩,rfl⟩
 ·unfold zas at h;unfold za7;exact⟨⟨h,rfl⟩,rfl⟩
 ·unfold zas at h;unfold za7;exact⟨⟨h.1,h.2,rfl⟩,rfl⟩
 ·unfold zas at h;unfold za7;exact⟨⟨h,rfl⟩,rfl⟩
theorem zke {σ:St}{g:Gh}{w:World}:∀{xs:List V}{ds:List (Bool×D)}{vs:List Value},gvQ xs ds->VRl σ g w xs vs->za6 w (zcd σ g w) ds vs [] []
 | [],[],vs,_,hv=>⟨hv,rfl,rfl⟩
 | [],_::_,_,h,_=>h.elim
 | x::xs,[],_,h,_=>by cases x with
  | one c=>cases c<;>exact h.elim
  | agg _=>exact h.elim
  | tup _=>exact h.elim
 | x::xs,(false,d)::ds,vs,h,hv=>by
  obtain⟨v,vs',rfl,h1,h2⟩:=hv;have h:rdV x d/\gvQ xs ds:=by cases x with
   | one c=>cases c<;>exact h
   | agg _=>exact h
   | tup _=>exact h
  exact⟨v,vs',rfl,qhq h.1 h1,zke h.2 h2⟩
 | .one (.t x)::xs,(true,.one t)::ds,vs,h,hv=>by
  obtain⟨v,vs',rfl,h1,h2⟩:=hv;obtain⟨rfl,hf,h⟩:=h;obtain⟨k1,k2⟩:=qdz hf h1;exact⟨v,vs',[],[],[],[],rfl,rfl,rfl,⟨k1,k2.symm⟩,zke h h2⟩
 | x::_,(true,.agg _)::_,_,h,_=>by cases x with
  | one c=>cases c<;>exact h.elim
  | agg _=>exact h.elim
  | tup _=>exact h.elim
 | .one (.nl _)::_,(true,.one _)::_,_,h,_=>h.elim
 | .one (.ow _ _)::_,(true,.one _)::_,_,h,_=>h.elim
 | .one (.bx _ _)::_,(true,.one _)::_,_,h,_=>h.elim
 | .one (.el _ _)::_,(true,.one _)::_,_,h,_=>h.elim
 | .one (.eo _ _ _ _ _)::_,(true,.one _)::_,_,h,_=>h.elim
 | .one (.fn _ _)::_,(true,.one _)::_,_,h,_=>h.elim
 | .one (.cv _)::_,(true,.one _)::_,_,h,_=>h.elim
 | .one .any::_,(true,.one _)::_,_,h,_=>h.elim
 | .one (.rn _)::_,(true,.one _)::_,_,h,_=>h.elim
 | .one (.er _ _)::_,(true,.one _)::_,_,h,_=>h.elim
 | .agg _::_,(true,.one _)::_,_,h,_=>h.elim
 | .tup _::_,(true,.one _)::_,_,h,_=>h.elim
def zxc:List (Nat×List C)->(Nat->Option (List C))->(Nat->Option (List C))
 | [],f=>f
 | (k,cs)::l,f=>upd (zxc l f) k (some cs)
def boL (d:Nat):Nat->List Nat->Bxs->List (Nat×List C)
 | m,k::W,b::bx=>(k,mC d m b)::boL d (m+b.length) W bx
 | _,_,_=>[]
theorem ztl (d:Nat):∀(W:List Nat)(bx:Bxs)(m:Nat)(f:Nat->Option (List C)),zgm d m W bx f=zxc (boL d m W bx) f
 | [],bx,m,f=>by unfold zgm boL;rfl
 | k::W,[],m,f=>by unfold zgm boL;rfl
 | k::W,b::bx,m,f=>by unfold zgm boL zxc;rw[ztl d W bx]
def mEl (d:Nat):Nat->List (Bool×T)->List (Nat×Ev)->List (Nat×Ev)
 | _,[],acc=>acc
 | j,(true,.sl sz rows)::ts,acc=>mEl d (j+1) ts ((d*32+j,⟨true,sz,rows,0,true⟩)::acc)
 | j,(_,_)::ts,acc=>mEl d (j+1) ts acc
theorem ztw (d:Nat):∀(ts:List (Bool×T))(j:Nat)(acc:List (Nat×Ev))(f:Nat->Option Ev),mE d j ts (zld acc f)=zld (mEl d j ts acc) f
 | [],_,_,_=>rfl
 | (false,t)::ts,j,acc,f=>by
  have:mEl d j ((false,t)::ts) acc=mEl d (j+1) ts acc:=by cases t<;>rfl
  rw[this];exact ztw d ts (j+1) acc f
 | (true,t)::ts,j,acc,f=>by
  cases t
  case sl sz rows=>exact ztw d ts (j+1) ((d*32+j,⟨true,sz,rows,0,true⟩)::acc) f
  all_goals exact ztw d ts (j+1) acc f
theorem zje (d:Nat):∀(ts:List (Bool×T))(j:Nat)(acc:List (Nat×Ev))(k:Ky),k∈eK acc->k∈eK (mEl d j ts acc)
 | [],_,_,_,h=>h
 | (false,t)::ts,j,acc,k,h=>by
  have:mEl d j ((false,t)::ts) acc=mEl d (j+1) ts acc:=by cases t<;>rfl
  rw[this];exact zje d ts (j+1) acc k h
 | (true,t)::ts,j,acc,k,h=>by
  cases t
  case sl sz rows=>exact zje d ts (j+1) _ k (by unfold eK;exact Jg _ h)
  all_goals exact zje d ts (j+1) acc k h
theorem zuj (d:Nat):∀(ts:List (Bool×T))(j:Nat)(acc:List (Nat×Ev))(f f':Nat->Option Ev),(∀e,(2,e)∈eK (mEl d j ts acc)->f' e=f e)->mF d j ts f->mF d j ts f'
 | [],_,_,_,_,_,_=>trivial
 | (false,t)::ts,j,acc,f,f',hk,h=>by
  have e0:mEl d j ((false,t)::ts) acc=mEl d (j+1) ts acc:=by cases t<;>rfl
  rw[e0]at hk;exact zuj d ts (j+1) acc f f' hk h
 | (true,t)::ts,j,acc,f,f',hk,h=>by
  cases t
  case sl sz rows =>
   obtain⟨h1,h2⟩:=h;have hm:(2,d*32+j)∈eK (mEl d j ((true,.sl sz rows)::ts) acc):=zje d ts (j+1) _ _ (by unfold eK;simp);refine⟨(hk _ hm).trans h1,zuj d ts (j+1) ((d*32+j,⟨true,sz,rows,0,true⟩)::acc) _ _ (fun e he=>?_) h2⟩;by_cases hee:e=d*32+j
   ·subst hee;show upd _ _ _ _=upd _ _ _ _;rw[zah,zah]
   ·show upd _ _ _ _=upd _ _ _ _;rw[zam _ _ hee,zam _ _ hee];exact hk e he
  all_goals exact⟨h.1,zuj d ts (j+1) acc _ _ hk h.2⟩
def boK:List (Nat×List C)->List Ky
 | []=>[]
 | (k,_)::l=>(1,k)::boK l
def wK1:List Nat->List Ky
 | []=>[]
 | k::l=>(1,k)::wK1 l
theorem zrd {n e:Nat}:∀{l:List (Nat×List C)},(n,e)∈boK l->n=1
 | [],h=>by simp[boK]at h
 | (e',x)::l,h=>by
  simp only[boK,Qr,Qo]at h;rcases h with h|h
  ·exact h.1
  ·exact zrd h
theorem qiu:∀l,okK (boK l)=true
 | []=>rfl
 | (e,x)::l=>by have:=qiu l;unfold okK at *;simpa[boK]using this
theorem qh9:∀l,okK (wK1 l)=true
 | []=>rfl
 | e::l=>by have:=qh9 l;unfold okK at *;simpa[wK1]using this
theorem qau:∀{l:List (Nat×List C)}(f f':Nat->Option (List C)){e:Nat},(1,e)∈boK l->zxc l f e=zxc l f' e
 | [],f,f',e,h=>by simp[boK]at h
 | (e',x)::l,f,f',e,h=>by
  unfold zxc;by_cases he:e=e'
  ·subst he;rw[zah,zah]
  ·rw[zam _ _ he,zam _ _ he];simp only[boK,Qr,Qo]at h;exact qau f f' (h.resolve_left fun hh=>he hh.2)
theorem zmn:∀{l:List (Nat×List C)}(f:Nat->Option (List C)){e:Nat},(1,e)∉boK l->zxc l f e=f e
 | [],f,e,h=>rfl
 | (e',x)::l,f,e,h=>by
  simp only[boK,Qr,Qo,true_and,not_or]at h;unfold zxc;rw[zam _ _ h.1,zmn f h.2]
def St.upEB (σ:St)(l:List (Nat×Ev))(bl:List (Nat×List C)):St:=⟨σ.sl,zxc bl σ.bx,zld l σ.ev⟩
theorem zgo.ofB {o:Oper}{σ:St}{R:List Ky}{l:List (Nat×Ev)}{bl:List (Nat×List C)}{v:V}{d:Nat}(hd:o.dst=some d)(hR:okK R=true)(h:∀σ1,(∀k∈R,zbd σ σ1 k)->zak P o σ1 ((σ1.upEB l bl).put (some d) v)):zgo P o R (dK (some d)++(boK bl++eK l)) σ ((σ.upEB l bl).put (some d) v):=by
 have hW:okK (dK (some d)++(boK bl++eK l))=true:=zbj (zsm _) (zbj (qiu _) (zwl _))
 refine⟨hW,hR,fun k hk3 hk=>?_,fun σ1 h1=>?_⟩
 ·simp only[Qt,not_or]at hk;refine zbd.trans ?_ (zfo hk.1);obtain⟨n,i⟩:=k
  match n,hk3 with
  | 0,_=>rfl
  | 1,_=>exact(zmn σ.bx hk.2.1).symm
  | 2,_=>exact(zg8 σ.ev hk.2.2).symm
 ·have:zsg σ1 (dK (some d)++(boK bl++eK l)) ((σ.upEB l bl).put (some d) v)=(σ1.upEB l bl).put (some d) v:=by
   refine zbd.all3 fun c i hc=>?_;by_cases hin:(c,i)∈dK (some d)++(boK bl++eK l)
   ·refine(zgy hW hin).trans ?_;simp only[Qt]at hin
    match c,hc with
    | 0,_ =>
     rcases hin with h|h|h
     ·simp only[dK,Qr,Kn,or_false,Qo,true_and]at h;subst h;show upd _ _ _ _=upd _ _ _ _
      rw[zah,zah]
     ·have:=zrd h;omega
     ·have:=zo6 h;omega
    | 1,_ =>
     rcases hin with h|h|h
     ·simp[dK]at h
     ·exact qau _ _ h
     ·have:=zo6 h;omega
    | 2,_ =>
     rcases hin with h|h|h
     ·simp[dK]at h
     ·have:=zrd h;omega
     ·exact zsv _ _ h
   ·refine(zdl hc hin).trans ?_;simp only[Qt,not_or]at hin;refine zbd.trans ?_ (zfo hin.1)
    match c,hc with
    | 0,_=>rfl
    | 1,_=>exact(zmn σ1.bx hin.2.1).symm
    | 2,_=>exact(zg8 σ1.ev hin.2.2).symm
  rw[this];exact h σ1 h1
def St.callQ (σ:St)(d:Nat)(W:List Nat)(bx':Bxs)(res:List (Bool×D)):St:={ sl:=upd σ.sl d (znp (mD d 0 res)),bx:=zxc (boL d (zbm res).length W bx') σ.bx,ev:=zld (mEl d 0 (zbm res++bx'.flatten) []) σ.ev }
theorem ztf (σ:St)(d:Nat)(W:List Nat)(bx':Bxs)(res:List (Bool×D)):σ.callQ d W bx' res=((σ.upEB (mEl d 0 (zbm res++bx'.flatten) []) (boL d (zbm res).length W bx')).put (some d) (znp (mD d 0 res))):=rfl
theorem zow {W:List Nat}{o:Oper}{σ:St}{x:Operand}{asx:Array Operand}{ts:Array TypeId}{f:FuncId}{cvs:List V}{d:Nat}{bx bx':Bxs}{l:List AF}{res:List (Bool×D)}(ho:o.op=.call ⟨.value x,asx,ts⟩)(hd:o.dst=some d)
  (h:PC P f bx l bx' res) (hc:za8 (σ.get P 0 x)=some (f,cvs)) (hWn:W.Nodup)
  (hv:mtK W l (σ.gets P asx ts++cvs) fun us=>zxb σ W bx fun cs=>gvQ (us++cs) (AF.ds l++bxA bx.flatten)) (hf:mF d 0 (zbm res++bx'.flatten) σ.ev):zak P o σ (σ.callQ d W bx' res):=by
 intro n0 N g a w hR hn hdN
 obtain⟨vs,h1,h2⟩:=zd8 hR ho hc h.1
 unfold Oper.wp
 rw[h1]
 let bs:Nat->Nat:=fun j=>g.β (W.getD j 0)
 have hbs:∀j b,W[j]?=some b->bs j=g.β b:=fun j b hj=>by show g.β (W.getD j 0)=_;rw[List.getD_eq_getElem?_getD,hj];rfl
 obtain⟨us,dvs,a1,a2,a3,rfl⟩:=zf3 hbs hv h2
 obtain⟨cs,bvs,b1,b2,b3,b4,b5⟩:=zh7 hR (bs:=bs) (j:=0) (fun i b hi=>by rw[Q5];exact hbs i b hi) a1
 have k2:=zke b1 (VRl.append a2 b2)
 have hWj:∀j,j<bx.length->∃b,W[j]?=some b/\b∈W/\bs j=g.β b:=fun j hj=>by
  have hlt:j<W.length:=by omega
  exact⟨W[j],List.getElem?_eq_getElem hlt,Qj hlt,hbs j _ (List.getElem?_eq_getElem hlt)⟩
 have hinj:∀i j,i<bx.length->j<bx.length->bs i=bs j->i=j:=fun i j hi hj he=>by
  obtain⟨b,e1,e2,e3⟩:=hWj i hi;obtain⟨c,f1,f2,f3⟩:=hWj j hj;have:b=c:=hR.inj b c (b5 b e2) (b5 c f2) (by rw[<-e3,<-f3];exact he);subst this;have hi':i<W.length:=by omega
  have hj':j<W.length:=by omega
  rw[List.getElem?_eq_getElem hi']at e1;rw[List.getElem?_eq_getElem hj']at f1;exact(List.getElem_inj hWn).1 ((Option.some.inj e1).trans (Option.some.inj f1).symm)
 have hfb:∀b,zcd σ g w b->∀j,j<bx.length->b≠bs j:=fun b hb j hj e=>by
  obtain⟨c,_,e2,e3⟩:=hWj j hj;exact hb.1.1 c (b5 c e2) (by rw[<-e3,e])
 refine(h.2.2 w bs bvs dvs [] [] (zcd σ g w) hinj (fun j _=>by simp) b3 (za6.keepA (fun b hb=>⟨⟨hb.1.2.2.1,by simp,hfb b hb⟩,hb⟩) k2) Kp a3).mono ?_
 rintro e w' ⟨us',bvs',fp',tp',rfl,hbx',hlu,o1,o2,o3,hbk⟩
 obtain⟨v1,v2,f1,f2,t1,t2,ev,ef,et,p1,p2⟩:=za6.split o1
 obtain⟨rfl,rfl⟩:=J6 ev (by rw[hlu,za6.len p1])
 subst ef
 obtain⟨t1',p1'⟩:=p1.flat
 have pp:=za6.append p1' p2
 rw[<-zgc]at pp
 have e0:mE d 0 (zbm res++bx'.flatten) σ.ev=zld (mEl d 0 (zbm res++bx'.flatten) []) σ.ev:=ztw d _ 0 [] σ.ev
 have e1:zgm d (zbm res).length W bx' σ.bx=zxc (boL d (zbm res).length W bx') σ.bx:=ztl d W bx' _ _
 obtain⟨g',q1,q2,q3⟩:=New.mix (τ:=σ) (g:=g) (NB:=fun b=>w.heap.size<=b) (w':=w') d (zbm res++bx'.flatten) _ (f1++f2) _ 0 σ.ev g [] (New.refl _ _ _ _ hR.slc) hf pp o2 (fun b hb'=>⟨by simpa using o3 b hb',by simp⟩)
 have hbk':Bk (fun k=>k<w.heap.size/\∀b∈W,k≠g.β b) w w':=⟨hbk.os,hbk.tape,hbk.output,hbk.size,fun k hk=>hbk.block k ⟨hk.1,by simp,fun j hj e=>by
  obtain⟨c,_,e2,e3⟩:=hWj j hj
  exact hk.2 c e2 (by rw[<-e3,e])⟩⟩
 have hWl:W.length=bx'.length:=by rw[h.2.1];omega
 have hdom:∀b,zgm d (zbm res).length W bx' σ.bx b≠none↔σ.bx b≠none:=fun b=>by
  by_cases hbW:b∈W
  ·exact⟨fun _=>b5 b hbW,fun _=>zsp d W bx' _ _ b hWl hbW⟩
  ·rw[zjh d W bx' _ _ b hbW]
 have hfree:∀k,((k<w'.heap.size/\k∉f1++f2/\∀j,j<bx.length->k≠bs j)/\(zcd σ g w k\/w.heap.size<=k\/k∈([]:List Nat)))->zcd ⟨σ.sl,zgm d (zbm res).length W bx' σ.bx,mE d 0 (zbm res++bx'.flatten) σ.ev⟩ g' w' k:=fun k hk=>by
  have hno:∀e,St.On ⟨σ.sl,zgm d (zbm res).length W bx' σ.bx,mE d 0 (zbm res++bx'.flatten) σ.ev⟩ e->k∉g'.φ e:=fun e ho' hm=>by
   by_cases hee:σ.ev e=none
   ·obtain⟨x,hx,_⟩:=ho';have:=((q1.new e x hee hx).2.2.1 k hm).2;rw[Jb]at this;exact hk.1.2.1 this
   ·rw[(q1.old e hee).2.2]at hm;obtain⟨x,hx,hon⟩:=ho';have ho2:σ.On e:=⟨x,(q1.old e hee).1.symm.trans hx,hon⟩;rcases hk.2 with h|h|h
    ·exact h.2 e ho2 hm
    ·obtain⟨y,hy,hyo⟩:=ho2;have:=(hR.evs e y hy hyo).lt k hm;omega
    ·simp at h
  refine⟨⟨fun j hj e=>?_,fun e x hx hon hh=>hno e ⟨x,hx,hon⟩ (List.mem_of_mem_head? hh),hk.1.1,?_⟩,hno⟩
  ·have hj':=(hdom j).1 hj;rw[q1.β]at e;rcases hk.2 with h|h|h
   ·exact h.1.1 j hj' e
   ·have:=hR.lt hj';omega
   ·simp at h
  ·rw[q1.A0];rcases hk.2 with h|h|h
   ·exact h.1.2.2.2
   ·exact(hR.anew k (hn.new h)).1
   ·simp at h
 have hcr:=q3 ⟨σ.sl,zgm d (zbm res).length W bx' σ.bx,mE d 0 (zbm res++bx'.flatten) σ.ev⟩ w' rfl fun t v h=>zas.keep (fun _ _=>rfl) hfree t v h
 obtain⟨hc1,hc2⟩:=hcr.split_flat (A:=fun _=>True) (w':=w') (m:=0) (za6.one_vals p1)
 have hR':=hR.afterB hn hbk' hdom (fun b hb=>zjh d W bx' _ _ b hb) b5 q1 (zig d W bx' bvs' 0 (zbm res).length σ.bx (fun i b hi=>by rw[Q5];exact hbs i b hi) hbx' hc2 hWl)
 have hBk:Bk n0 w w':=⟨hbk.os,hbk.tape,hbk.output,hbk.size,fun k hk=>hbk.block k ⟨hn k hk,by simp,fun j hj e=>by
  obtain⟨c,_,e2,e3⟩:=hWj j hj
  exact hR.base c (b5 c e2) (by rw[<-e3,<-e];exact hk)⟩⟩
 refine⟨g',?_,hBk,q1.A0,q1.R0⟩
 have hp:=hR'.put (some d) (x:=znp (mD d 0 res)) (v:=zcj us') (ze6 (zsa d 0 p1 hc1) (zqq d res 0)) (fun i hi=>by cases hi;exact hdN d hd)
 rw[e0,e1]at hp
 rw[hd]
 exact hp
section
variable {ks:List Fr}{Q:Exit->St->Prop}{σ:St}{ops:Array Oper}{os:List Oper}{L:List (List Ky×List Ky)}{ty:TypeId}{ps:String}{af:Array Edge}{d:Nat}{x:Operand}{asx:Array Operand}{ts:Array TypeId}{f:FuncId}{bx bx':Bxs}{l:List AF}{res:List (Bool×D)}
theorem callQ (W:List Nat)(h:PC P f bx l bx' res)(hWn:W.Nodup)
  (hp:zax (za8 (σ.get P 0 x)) fun p=>p.1=f/\mtK W l (σ.gets P asx ts++p.2) fun us=>zxb σ W bx fun cs=>gvQ (us++cs) (AF.ds l++bxA bx.flatten)) (hf:mF d 0 (zbm res++bx'.flatten) σ.ev)
  (k:exo P ops os ks Q (σ.callQ d W bx' res)):exo P ops (⟨some d,.call ⟨.value x,asx,ts⟩,ty,ps,af,none⟩::os) ks Q σ:=by
 obtain⟨⟨f',cvs⟩,h1,rfl,h2⟩:=zap hp
 exact zdh rfl rfl (zow rfl rfl h h1 hWn h2 hf) k
theorem zt0 {σ1:St}:∀{W:List Nat}{bx:Bxs}{K:List V->Prop},(∀k∈wK1 W,zbd σ σ1 k)->zxb σ W bx K->zxb σ1 W bx K
 | [],[],_,_,h=>h
 | [],_::_,_,_,h=>h.elim
 | _::_,[],_,_,h=>h.elim
 | k::W,b::bx,K,hs,h=>by
  obtain⟨cs,h1,h2,h3⟩:=zap h;have:σ1.bx k=some cs:=(Eq.symm (hs (1,k) (by simp[wK1]))).trans h1;show zax (σ1.bx k) _
  rw[this];exact⟨h2,zt0 (W:=W) (fun k hk=>hs k (by simp[wK1,hk])) h3⟩
theorem zzy {σ1:St}{asx:Array Operand}{ts:Array TypeId}(h:∀k∈zaz asx.toList,zbd σ σ1 k):σ1.gets P asx ts=σ.gets P asx ts:=by
 unfold St.gets
 refine Kg fun p hp=>?_
 exact zcb h (List.of_mem_zip hp).1 _
theorem zju {x:Operand}{l:List Operand}{k:Ky}(h:k∈zaz l):k∈zaz (x::l):=by
 cases x<;>first|exact Jg _ h|exact h
theorem zdr (W:List Nat)(h:PC P f bx l bx' res)(hWn:W.Nodup)
  (hp:zax (za8 (σ.get P 0 x)) fun p=>p.1=f/\mtK W l (σ.gets P asx ts++p.2) fun us=>zxb σ W bx fun cs=>gvQ (us++cs) (AF.ds l++bxA bx.flatten)) (hf:mF d 0 (zbm res++bx'.flatten) σ.ev)
  (k:exd P ops os (L++[(zaz (x::asx.toList)++(wK1 W++eK (mEl d 0 (zbm res++bx'.flatten) [])),dK (some d)++(boK (boL d (zbm res).length W bx')++eK (mEl d 0 (zbm res++bx'.flatten) [])))]) ks Q (σ.callQ d W bx' res)) :
  exd P ops (⟨some d,.call ⟨.value x,asx,ts⟩,ty,ps,af,none⟩::os) L ks Q σ:=by
 obtain⟨⟨f',cvs⟩,h1,rfl,h2⟩:=zap hp
 refine zfj rfl rfl ?_ k
 rw[ztf]
 refine zgo.ofB rfl (zbj (zbx _) (zbj (qh9 _) (zwl _))) fun σ1 hs=>?_
 rw[<-ztf]
 have e1:σ1.get P 0 x=σ.get P 0 x:=zcb (l:=x::asx.toList) (fun k hk=>hs k (by simp only[Qt];exact Or.inl hk)) (by simp) 0
 have e2:σ1.gets P asx ts=σ.gets P asx ts:=zzy fun k hk=>hs k (by simp only[Qt];exact Or.inl (zju hk))
 refine zow rfl rfl h (by rw[e1];exact h1) hWn (by rw[e2];exact zuf (fun us hu=>zt0 (fun k hk=>hs k (by simp only[Qt];exact Or.inr (Or.inl hk))) hu) h2) ?_
 exact zuj d _ 0 [] _ _ (fun e he=>Eq.symm (hs (2,e) (by simp only[Qt];exact Or.inr (Or.inr he)))) hf
theorem za5 {ds0 res0:List D}{gR:List Ky}(h:FC P f ds0 res0)(hp:zax (za8 (σ.get P 0 x)) fun p=>p.1=f/\VDs σ (σ.gets P asx ts++p.2) ds0/\zg0 d 0 (zbf res0) σ.ev)
  (k:exd P ops os (L++[(gR++(zaz (x::asx.toList)++(vsK σ (σ.gets P asx ts++qmi (za8 (σ.get P 0 x)))++eK (owL d 0 (zbf res0)))),dK (some d)++eK (owL d 0 (zbf res0)))]) ks Q (σ.callF d res0)) :
  zpu P ops ⟨some d,.call ⟨.value x,asx,ts⟩,ty,ps,af,none⟩ os L gR ks Q σ:=by
 obtain⟨⟨f',cvs⟩,h1,rfl,h2,h3⟩:=zap hp
 rw[h1]at k
 exact qlx _ _ _ _ _ _ rfl (zpg rfl rfl h h1 h2 h3) k
end
attribute [go_sem] gvQ zxc boL mEl boK wK1 St.callQ
end
section
open Go.RowKit
variable {P:Program}
attribute [go_sem] St.upEB
end
section
open Go.RowKit
variable {P:Program}
section
variable {σ σ':St}{g g':Gh}{w:World}
theorem qi9 (hβ:g'.β=g.β)(hb:σ'.bx=σ.bx)(hh:∀e n,σ.has e n->σ'.has e n/\g'.ψ e n=g.ψ e n)(hrn:∀b,zcd σ g w b->zcd σ' g' w b){c:C}{v:Value}(hc:c.mOk=true)(h:CR σ g w c v):CR σ' g' w c v:=by
 cases c with
 | t x=>exact zem hc h
 | nl s=>exact h
 | ow e n=>exact⟨by rw[(hh e n h.2).2];exact h.1,(hh e n h.2).1⟩
 | bx b o=>exact⟨by rw[hβ];exact h.1,by rw[hb];exact h.2⟩
 | el cs o=>cases hc
 | eo e s sz i o=>obtain⟨b,n,c,k1,k2,k3,k4⟩:=h;exact⟨b,n,c,by rw[(hh e s k4).2];exact k1,k2,k3,(hh e s k4).1⟩
 | vw e s sz i=>obtain⟨b,n,c,k1,k2,k3,k4⟩:=h;exact⟨b,n,c,by rw[(hh e s k4).2];exact k1,k2,k3,(hh e s k4).1⟩
 | fn f caps=>exact⟨by rw[hβ];exact h.1,by rw[hb];exact h.2⟩
 | cv u=>exact h
 | any=>trivial
 | rn x=>exact zas.keep (fun _ _=>rfl) hrn x v h
 | er cs o=>obtain⟨b,q,h1,h2,h3⟩:=h;exact⟨b,q,h1,hrn b h2,zbg.keep (fun _ _=>rfl) hrn b rfl q cs h3⟩
theorem zoq (hβ:g'.β=g.β)(hb:σ'.bx=σ.bx)(hh:∀e n,σ.has e n->σ'.has e n/\g'.ψ e n=g.ψ e n)(hrn:∀b,zcd σ g w b->zcd σ' g' w b):∀{cs:List C}{vs:List Value},cs.all C.mOk=true->CRs σ g w cs vs->CRs σ' g' w cs vs
 | [],_,_,h=>h
 | c::cs,vs,hc,h=>by
  rw[Ke,Qb]at hc;obtain⟨v,vs',rfl,h1,h2⟩:=h;exact⟨v,vs',rfl,qi9 hβ hb hh hrn hc.1 h1,zoq hβ hb hh hrn hc.2 h2⟩
theorem qiy (hβ:g'.β=g.β)(hb:σ'.bx=σ.bx)(hh:∀e n,σ.has e n->σ'.has e n/\g'.ψ e n=g.ψ e n)(hrn:∀b,zcd σ g w b->zcd σ' g' w b):∀{xs:List (Bool×List C)}{vs:List Value},(xs.all fun x=>x.2.all C.mOk)=true->CRt σ g w xs vs->CRt σ' g' w xs vs
 | [],_,_,h=>h
 | x::xs,vs,hc,h=>by
  rw[Ke,Qb]at hc;obtain⟨v,vs',rfl,h1,h2⟩:=h;refine⟨v,vs',rfl,?_,qiy hβ hb hh hrn hc.2 h2⟩;unfold CRx at h1⊢;split at h1
  ·rw[if_pos ‹_›];obtain⟨a,k1,k2⟩:=h1;exact⟨a,k1,zoq hβ hb hh hrn hc.1 k2⟩
  ·rw[if_neg ‹_›];obtain⟨c,k1,k2⟩:=h1;refine⟨c,k1,qi9 hβ hb hh hrn ?_ k2⟩;have:=hc.1;rw[k1]at this;simpa using this
theorem mv_vr (hβ:g'.β=g.β)(hb:σ'.bx=σ.bx)(hh:∀e n,σ.has e n->σ'.has e n/\g'.ψ e n=g.ψ e n)(hrn:∀b,zcd σ g w b->zcd σ' g' w b){x:V}{v:Value}(hc:x.mOk=true)(h:VR σ g w x v):VR σ' g' w x v:=by
 cases x with
 | one c=>exact qi9 hβ hb hh hrn hc h
 | agg cs=>obtain⟨a,k1,k2⟩:=h;exact⟨a,k1,zoq hβ hb hh hrn hc k2⟩
 | tup xs=>obtain⟨a,k1,k2⟩:=h;exact⟨a,k1,qiy hβ hb hh hrn hc k2⟩
end
def WkX (σ:St)(K:St->Prop):Prop:=∀n0 N g a w,Rel n0 N σ g a w->LtK n0 w->∃σ' g',K σ'/\Rel n0 N σ' g' a w/\g'.A0=g.A0/\g'.R0=g.R0
theorem zb7.preX {o:Oper}{σ:St}{K:St->Prop}(h:WkX σ fun σ'=>zb7 P o σ' K):zb7 P o σ K:=fun n0 N g a w hR hn hd=>by
 obtain⟨σ1,g1,k,h1,h2,h3⟩:=h n0 N g a w hR hn
 have:=k n0 N g1 a w h1 hn hd
 unfold Oper.wp at this⊢
 revert this
 cases (execOp a.eval o).run P w<;>intro this<;>try exact this
 all_goals (revert this;rw[h2,h3];exact id)
end
section
open Go.RowKit
variable {P:Program}
attribute [go_sem] zis
end
section
open Go.RowKit
variable {P:Program}
section
variable {ks:List Fr}{Q:Exit->St->Prop}{σ:St}{ops:Array Oper}{os:List Oper}{L:List (List Ky×List Ky)}{d:Nat}{t:TypeId}{ty:TypeId}{ps:String}{af:Array Edge}{len:Nat}{parts:Array (Nat×Operand)}
theorem zji (h:zax (blS P σ t len parts) fun _=>σ.ev (d*32)=none)
  (k:exd P ops os (L++[(zaz (parts.toList.map (·.2))++(rK (qah (zim P (σ.get P) t len parts))++[(2,d*32)]),dK (some d)++eK (blK d (blS P σ t len parts)))]) ks Q ((σ.bl d (blS P σ t len parts)).put (some d) (.one (.ow (d*32) 0)))) :
  exd P ops (⟨some d,.buildSlice t len parts,ty,ps,af,none⟩::os) L ks Q σ:=by
 obtain⟨⟨x,cons⟩,h1,h2⟩:=zap h
 rw[h1]at k
 unfold blS at h1
 obtain⟨p,e1,h1⟩:=Qf.1 h1
 obtain⟨q,e2,h1⟩:=Q4.1 h1
 simp only[Qo]at h1
 obtain⟨rfl,rfl⟩:=h1
 rw[e1]at k
 exact qjb ⟨e1,e2,h2⟩ k
end
end
section
open Go.RowKit
variable {P:Program}{N:Nat}
def zfh (P:Program)(N:Nat)(c:Code)(σ:St)(Q:Exit->St->Prop):Prop:=∀n0 w0 A0 g a w,Rel n0 N σ g a w->LtK n0 w->Bk n0 w0 w->(g.A0,g.R0)=A0->c.wp P (Ends n0 N w0 A0 Q) a w
theorem Ends.mono {n0:Nat->Prop}{w0:World}{A0:(Nat->Prop)×RP}{Q Q':Exit->St->Prop}(h:∀e σ,Q e σ->Q' e σ){e:Exit}{a:Act}{w:World}:Ends n0 N w0 A0 Q e a w->Ends n0 N w0 A0 Q' e a w
 | ⟨σ,g,h1,h2⟩=>⟨σ,g,h _ _ h1,h2⟩
theorem zfh.mono {c:Code}{σ:St}{Q Q':Exit->St->Prop}(h:∀e σ,Q e σ->Q' e σ)(k:zfh P N c σ Q):zfh P N c σ Q':=fun n0 w0 A0 g a w h1 h2 h3 h4=>wp_mono (k n0 w0 A0 g a w h1 h2 h3 h4) fun _ _ _=>Ends.mono h
theorem zfh.ofEx {c:Code}{σ:St}{Q:Exit->St->Prop}(hd:zdz N c=true)(h:ex P c [] Q σ):zfh P N c σ Q:=fun _ _ _ g a w h1 h2 h3 h4=>zbu c σ Q hd h g a w h1 h2 h3 h4
def qmn (P:Program)(N:Nat)(c:Code)(Q:Exit->St->Prop)(e:Exit)(σ:St):Prop:=match e with|.normal=>zfh P N c σ Q|e=>Q e σ
theorem zoi (c:Code)(Q:Exit->St->Prop)(σ:St):qmn P N c Q .normal σ=zfh P N c σ Q:=rfl
theorem zfh.seq {x y:Code}{σ:St}{Q:Exit->St->Prop}(h:zfh P N x σ (qmn P N y Q)):zfh P N (.seq x y) σ Q:=fun n0 w0 A0 g a w h1 h2 h3 h4=>by
 refine wp_seq (wp_mono (h n0 w0 A0 g a w h1 h2 h3 h4) fun e a' w' hq=>?_)
 obtain⟨σ',g',k1,k2,k3,k4,k5⟩:=hq
 cases e with
 | normal=>exact k1 n0 w0 A0 g' a' w' k2 k3 k4 k5
 | exit i=>exact⟨σ',g',k1,k2,k3,k4,k5⟩
 | goto l=>exact⟨σ',g',k1,k2,k3,k4,k5⟩
 | ret=>exact⟨σ',g',k1,k2,k3,k4,k5⟩
 | panic ch=>exact⟨σ',g',k1,k2,k3,k4,k5⟩
 | outgrown=>exact⟨σ',g',k1,k2,k3,k4,k5⟩
def preC:Nat->Code->Code
 | 0,.seq x _=>x
 | n+1,.seq x y=>.seq x (preC n y)
 | _,c=>c
def sufC:Nat->Code->Code
 | 0,.seq _ y=>y
 | n+1,.seq _ y=>sufC n y
 | _,_=>.skip
def okC:Nat->Code->Bool
 | 0,.seq _ _=>true
 | n+1,.seq _ y=>okC n y
 | _,_=>false
theorem zfh.cut:∀(n:Nat){c:Code}{σ:St}{Q:Exit->St->Prop},okC n c=true->zdz N (preC n c)=true->ex P (preC n c) [] (qmn P N (sufC n c) Q) σ->zfh P N c σ Q
 | 0,.seq x y,σ,Q,_,hd,h=>zfh.seq (zfh.ofEx hd h)
 | n+1,.seq x y,σ,Q,ho,hd,h=>by
  simp only[preC,zdz,Qb]at hd;refine zfh.seq (zfh.mono (fun e σ' k=>?_) (zfh.ofEx (Q:=_) hd.1 h));cases e with
  | normal=>exact zfh.cut n ho hd.2 k
  | exit i=>exact k
  | goto l=>exact k
  | ret=>exact k
  | panic ch=>exact k
  | outgrown=>exact k
attribute [go_sem] zoi preC sufC
end
section
open Go.RowKit
variable {P:Program}{N:Nat}
attribute [go_sem] Option.bind_some Option.map_some
end
section
open Go.RowKit
variable {P:Program}
theorem PC_ofW {f:FuncId}{fn:Func}{c:Code}{bx bx':Bxs}{l:List AF}{res:List (Bool×D)}(hc:zbv P f)(hf:P.funcs[f]?=some fn)(hb:fn.body=some c)(hN:l.length<=fn.ntmps)(hN2:fn.ntmps<=1000000)(hbl:bx'.length=bx.length)(hj:AF.okJ bx.length l=true)(hs:zay (AF.ds l++bxA bx.flatten))(hfs:gFS (AF.ds l++bxA bx.flatten)=true)(hrl:fn.results.toList.length=res.length)
  (h:zfh P fn.ntmps c (zh0 l bx) (PB P fn.results.toList res bx')):PC P f bx l bx' res:=by
 refine⟨hc,hbl,fun w bs bvs dvs fp tp A hinj hbf hbx hv hn hl=>?_⟩
 refine calls_of_wp hf hb ?_
 obtain⟨g,hg,hR⟩:=zpd (N:=fn.ntmps) hinj hbf hbx hv hn hl hj hN hN2 hs hfs (ξ:=fun i=>if 1000000<=i then zvq (bs (i-1000000))else undef) (fun i hi=>if_neg Yo) (fun i b=>by
  by_cases h:1000000<=i
  ·rw[if_pos h];exact fun e=>by cases e
  ·rw[if_neg h];exact fun e=>by cases e) (fun j hj=>by
  rw[if_pos Yo,show 1000000+j-1000000=j by omega])
 refine wp_mono (h _ w _ g _ w hR (fun k hk=>hk.1) (Bk.refl _ _) hg) fun e a' w' hq=>?_
 obtain⟨σ',g',h1,h2,h3,h4,h5⟩:=hq
 have hξ:∀q,q<bx'.length->g'.R0.ξ (1000000+(0+q))=zvq (bs (0+q)):=fun q hq=>by
  rw[(Je h5).2,Q5];show(if 1000000<=1000000+q then zvq (bs (1000000+q-1000000))else undef)=_
  rw[if_pos Yo,show 1000000+q-1000000=q by omega]
 have key:(∃pl,PB0 P fn.results.toList res bx' pl σ')->∃v,(results fn a'.tmps).run P w'=.ok v w'/\∃us bvs' fp' tp',Ending.returned v=.returned (zcj us)/\zvl w' bs 0 bvs' bx'/\us.length=res.length ∧
   za6 w' (fun k=>(k<w'.heap.size/\k∉fp'/\∀j,j<bx.length->k≠bs j)/\(A k\/w.heap.size<=k\/k∈fp)) (res++bxA bx'.flatten) (us++bvs'.flatten) fp' tp'/\fp'.Nodup/\(∀b∈fp',b∈fp\/w.heap.size<=b)/\Bk (fun k=>k<w.heap.size/\k∉fp/\∀j,j<bx.length->k≠bs j) w w':=by
  rintro⟨pl,hk⟩;obtain⟨vs,hvs,hk⟩:=zap hk;obtain⟨us,r1,r2⟩:=zch h2 fn hvs;obtain⟨cs,bvs',k0,b1,b2,b3⟩:=zjt (bs:=bs) h2 hN2 hξ hk;obtain⟨B,hB⟩:=h2.fam;obtain⟨s,k1,⟨tp',k2⟩,k3,k4⟩:=zek h2 hB k0 (VRl.append r2 b2);rw[Ks]at k4;have hsp:s.Pairwise okP:=(Jq.1 (k4 List.Pairwise.nil)).imp fun h=>h.symm;have hin:∀b∈bks B s,∃e,σ'.On e/\b∈g'.φ e:=fun b hb=>by
   obtain⟨x,hx,hm⟩:=Jh.1 hb;exact⟨x.1,k3 x hx,hB.sub x.1 x.2 b (k3 x hx) hm⟩
  have hbβ:∀j,j<bx.length->σ'.bx (1000000+j)≠none/\g'.β (1000000+j)=bs j:=fun j hj=>by
   have:=b3 j Yo
   rwa [Q5]at this
  have hA:∀b,zcd σ' g' w' b->(b<w'.heap.size/\b∉bks B s/\∀j,j<bx.length->b≠bs j)/\(A b\/w.heap.size<=b\/b∈fp):=fun b hb=>by
   have hnb:∀j,j<bx.length->b≠bs j:=fun j hj e=>hb.1.1 _ (hbβ j hj).1 (by rw[(hbβ j hj).2,e]);refine⟨⟨hb.1.2.2.1,fun hm=>?_,hnb⟩,?_⟩
   ·obtain⟨e,ho,hm⟩:=hin b hm;exact hb.2 e ho hm
   ·have h0:=hb.1.2.2.2;rw[(Je h5).1]at h0;rcases h0 with h0|h0|h0|⟨j,hj,h0⟩
    ·exact Or.inl h0
    ·exact Or.inr (Or.inl h0)
    ·exact Or.inr (Or.inr h0)
    ·exact absurd h0 (hnb j hj)
  refine⟨_,r1,us,bvs',bks B s,tp',rfl,b1,by rw[r2.len,<-hrl];exact zgu hvs,za6.keepA hA k2,zdq h2 hB k3 hsp,fun b hb=>?_,h4⟩;obtain⟨e,ho,hm⟩:=hin b hb;have h0:=(h2.ebase e ho b hm).2;rw[(Je h5).2]at h0;rcases h0 with h0|h0|⟨j,hj,h0⟩
  ·exact Or.inl h0
  ·exact Or.inr h0
  ·have:=h2.ebx e _ ho (hbβ j hj).1;rw[(hbβ j hj).2]at this;exact absurd (h0▸hm) this
 have key':∀{Y:Prop},(PB0 P fn.results.toList res bx' [] σ'\/∃pl,PB0 P fn.results.toList res bx' pl σ')->((∃pl,PB0 P fn.results.toList res bx' pl σ')->Y)->Y:=fun h k=>h.elim (fun h=>k ⟨[],h⟩) k
 cases e with
 | normal=>exact⟨h2.defers,key' h1 key⟩
 | ret=>exact⟨h2.defers,key' h1 key⟩
 | exit _=>exact h1.elim
 | goto _=>exact h1.elim
 | panic _=>exact h1.elim
 | outgrown=>exact h1.elim
end
end Go.Proofs.YtpcmmboblbjpfaaGreat
