/-
  The walk over plain data, and contracts of functions of the program and of its laws.
  Conditions: those that each theorem names.
-/
import Derived.Test.YtnemmlahbbbobaaGreatQR7
import Derived.Test.YtnemmlahbbbobaaGreatQR5
import Derived.Sort.OwnSorted
import Derived.Sort.KeysCollected
import Derived.Sort.Walk0
import Derived.Laws.AppendOwn
import Derived.Shelf.Sort.Plain
import Derived.Shelf.Slices.In.SortNone
import Derived.Shelf.Slices.CompactS
import Derived.Test.YtnemmlahbbbobaaGreatQR4
import Derived.Lib.SliceRun
import Derived.Test.YtnemmlahbbbobaaGreatQR6
import Derived.RangeFuncNested
import Derived.RangeFuncBound
import Derived.RangeFuncCalls
import Derived.TacticsInMore
import Derived.LoopNIn
import Derived.LoopIn
namespace Go.Proofs.YtnemmlahbbbobaaGreat
set_option linter.unusedSimpArgs false
set_option linter.unusedVariables false
set_option linter.unusedSectionVars false
set_option maxRecDepth 4000
open Go.RowKit
set_option maxHeartbeats 4000000 in
theorem qb5 (f:Fm)(hs:f.wt<=1099511627776)(H:∀x∈f.parts,FC Tryz.prog 139 [fmD x] [bD x.forms]):FC Tryz.prog 139 [fmD f] [bD f.forms]:=by
 have H1:∀x∈f.parts,FC Tryz.prog 167 [fmD x] [bD (!x.forms)]:=λx hx=>by
  simp only[fmD,zaa];refine zae Tryz.call167 Tryz.func167 rfl Yz (zao Yz) ?_;simp -implicitDefEqProofs only[go_sem,Tryz.results167];refine callF (H x hx) Zp ?_;exact Zp
 have hN:=f.forms_eq
 obtain⟨o,a,v,ps⟩:=f
 have ha:a.wt<=1099511627776:=Je (zj3 (.mk o a v ps)) hs
 have e0:((ps.length:Int) != 0)=!decide (ps.length=0):=zvj _ 0
 have e1:((ps.length:Int) != 1)=!decide (ps.length=1):=zvj _ 1
 have e2:((ps.length:Int) != 2)=!decide (ps.length=2):=zvj _ 2
 simp only[Fm.parts]at H1 hN
 rcases zx1 o with rfl|rfl|rfl|rfl|rfl|rfl|rfl|rfl|rfl|⟨n1,n2,n3,n4,n5,n6,n7,n8,n9⟩
 ·have hH:Fm.here (.mk 1 a v ps)=(decide (ps.length=0)&&a.none&&(v==[])):=rfl;rw[hH]at hN;have hq:isQ 1=false:=rfl;have hb:zk6 1=false:=rfl;simp only[fmD,zaa,Fm.op,Fm.atom,Fm.var,Fm.parts];refine zae Tryz.call139 Tryz.func139 rfl Yz (zao Yz) ?_;refine Z3 ?_;simp only[e0];refine⟨λh=>?_,λh=>?_⟩
  ·have h':decide (ps.length=0)=true:=by simpa using h
   refine callF (zaw 1) Vf ?_;refine Y2 hq ?_;refine callF (zaw 1) Vf ?_;refine Y2 hq ?_;refine⟨λh1=>?_,λh1=>?_⟩
   ·rw[hN,show(v==[])=false by simpa using h1,Ke,Qx]
   ·have h1':(v==[])=true:=by simpa using h1
    refine callF (zb2 a) Y4 ?_;refine Y5 ?_;refine⟨λh2=>?_,λh2=>?_⟩
    ·rw[hN,show a.none=false by simpa using h2,Ke,Qx,Qx]
    ·have h2':a.none=true:=by simpa using h2
     refine callF (za6 ps (λx=>!x.forms) _ [] H1) Yy ?_;refine Y1 ?_;rw[zfm,hN,h',h1',h2'];rfl
  ·rw[hN,show decide (ps.length=0)=false by simpa using h];rfl
 ·have hH:Fm.here (.mk 2 a v ps)=(decide (ps.length=0)&&a.none&&(v==[])):=rfl;rw[hH]at hN;have hq:isQ 2=false:=rfl;have hb:zk6 2=false:=rfl;simp only[fmD,zaa,Fm.op,Fm.atom,Fm.var,Fm.parts];refine zae Tryz.call139 Tryz.func139 rfl Yz (zao Yz) ?_;refine Z3 ?_;simp only[e0];refine⟨λh=>?_,λh=>?_⟩
  ·have h':decide (ps.length=0)=true:=by simpa using h
   refine callF (zaw 2) Vf ?_;refine Y2 hq ?_;refine callF (zaw 2) Vf ?_;refine Y2 hq ?_;refine⟨λh1=>?_,λh1=>?_⟩
   ·rw[hN,show(v==[])=false by simpa using h1,Ke,Qx]
   ·have h1':(v==[])=true:=by simpa using h1
    refine callF (zb2 a) Y4 ?_;refine Y5 ?_;refine⟨λh2=>?_,λh2=>?_⟩
    ·rw[hN,show a.none=false by simpa using h2,Ke,Qx,Qx]
    ·have h2':a.none=true:=by simpa using h2
     refine callF (za6 ps (λx=>!x.forms) _ [] H1) Yy ?_;refine Y1 ?_;rw[zfm,hN,h',h1',h2'];rfl
  ·rw[hN,show decide (ps.length=0)=false by simpa using h];rfl
 ·have hH:Fm.here (.mk 3 a v ps)=(decide (ps.length=0)&&a.atomOk&&(v==[])):=rfl;rw[hH]at hN;have hq:isQ 3=false:=rfl;have hb:zk6 3=false:=rfl;simp only[fmD,zaa,Fm.op,Fm.atom,Fm.var,Fm.parts];refine zae Tryz.call139 Tryz.func139 rfl Yz (zao Yz) ?_;refine Z3 ?_;simp only[e0];refine⟨λh=>?_,λh=>?_⟩
  ·have h':decide (ps.length=0)=true:=by simpa using h
   refine callF (zaw 3) Vf ?_;refine Y2 hq ?_;refine callF (zaw 3) Vf ?_;refine Y2 hq ?_;refine⟨λh1=>?_,λh1=>?_⟩
   ·rw[hN,show(v==[])=false by simpa using h1,Ke,Qx]
   ·have h1':(v==[])=true:=by simpa using h1
    refine callF (zq4 a ha) Y4 ?_;refine Y5 ?_;refine And.symm ⟨λh2=>?_,λh2=>?_⟩
    ·rw[hN,show a.atomOk=false by simpa using h2,Ke,Qx,Qx]
    ·have h2':a.atomOk=true:=by simpa using h2
     refine callF (za6 ps (λx=>!x.forms) _ [] H1) Yy ?_;refine Y1 ?_;rw[zfm,hN,h',h1',h2'];rfl
  ·rw[hN,show decide (ps.length=0)=false by simpa using h];rfl
 ·have hH:Fm.here (.mk 4 a v ps)=(decide (ps.length=1)&&a.none&&(v==[])):=rfl;rw[hH]at hN;have hq:isQ 4=false:=rfl;have hb:zk6 4=false:=rfl;simp only[fmD,zaa,Fm.op,Fm.atom,Fm.var,Fm.parts];refine zae Tryz.call139 Tryz.func139 rfl Yz (zao Yz) ?_;refine Z3 ?_;simp only[e1];refine⟨λh=>?_,λh=>?_⟩
  ·have h':decide (ps.length=1)=true:=by simpa using h
   refine callF (zaw 4) Vf ?_;refine Y2 hq ?_;refine callF (zaw 4) Vf ?_;refine Y2 hq ?_;refine⟨λh1=>?_,λh1=>?_⟩
   ·rw[hN,show(v==[])=false by simpa using h1,Ke,Qx]
   ·have h1':(v==[])=true:=by simpa using h1
    refine callF (zb2 a) Y4 ?_;refine Y5 ?_;refine⟨λh2=>?_,λh2=>?_⟩
    ·rw[hN,show a.none=false by simpa using h2,Ke,Qx,Qx]
    ·have h2':a.none=true:=by simpa using h2
     refine callF (za6 ps (λx=>!x.forms) _ [] H1) Yy ?_;refine Y1 ?_;rw[zfm,hN,h',h1',h2'];rfl
  ·rw[hN,show decide (ps.length=1)=false by simpa using h];rfl
 ·have hH:Fm.here (.mk 5 a v ps)=(decide (ps.length=2)&&a.none&&(v==[])):=rfl;rw[hH]at hN;have hq:isQ 5=false:=rfl;have hb:zk6 5=true:=rfl;simp only[fmD,zaa,Fm.op,Fm.atom,Fm.var,Fm.parts];refine zae Tryz.call139 Tryz.func139 rfl Yz (zao Yz) ?_;refine Z3 ?_;refine callF (zaw 5) Vf ?_;refine Y2 hq ?_;refine callF (zh2 5) (Y3 hb) ?_;refine Y2 hb ?_;simp only[e2];refine⟨λh=>?_,λh=>?_⟩
  ·have h':decide (ps.length=2)=true:=by simpa using h
   refine callF (zaw 5) Vf ?_;refine Y2 hq ?_;refine callF (zaw 5) Vf ?_;refine Y2 hq ?_;refine⟨λh1=>?_,λh1=>?_⟩
   ·rw[hN,show(v==[])=false by simpa using h1,Ke,Qx]
   ·have h1':(v==[])=true:=by simpa using h1
    refine callF (zb2 a) Y4 ?_;refine Y5 ?_;refine⟨λh2=>?_,λh2=>?_⟩
    ·rw[hN,show a.none=false by simpa using h2,Ke,Qx,Qx]
    ·have h2':a.none=true:=by simpa using h2
     refine callF (za6 ps (λx=>!x.forms) _ [] H1) Yy ?_;refine Y1 ?_;rw[zfm,hN,h',h1',h2'];rfl
  ·rw[hN,show decide (ps.length=2)=false by simpa using h];rfl
 ·have hH:Fm.here (.mk 6 a v ps)=(decide (ps.length=2)&&a.none&&(v==[])):=rfl;rw[hH]at hN;have hq:isQ 6=false:=rfl;have hb:zk6 6=true:=rfl;simp only[fmD,zaa,Fm.op,Fm.atom,Fm.var,Fm.parts];refine zae Tryz.call139 Tryz.func139 rfl Yz (zao Yz) ?_;refine Z3 ?_;refine callF (zaw 6) Vf ?_;refine Y2 hq ?_;refine callF (zh2 6) (Y3 hb) ?_;refine Y2 hb ?_;simp only[e2];refine⟨λh=>?_,λh=>?_⟩
  ·have h':decide (ps.length=2)=true:=by simpa using h
   refine callF (zaw 6) Vf ?_;refine Y2 hq ?_;refine callF (zaw 6) Vf ?_;refine Y2 hq ?_;refine⟨λh1=>?_,λh1=>?_⟩
   ·rw[hN,show(v==[])=false by simpa using h1,Ke,Qx]
   ·have h1':(v==[])=true:=by simpa using h1
    refine callF (zb2 a) Y4 ?_;refine Y5 ?_;refine⟨λh2=>?_,λh2=>?_⟩
    ·rw[hN,show a.none=false by simpa using h2,Ke,Qx,Qx]
    ·have h2':a.none=true:=by simpa using h2
     refine callF (za6 ps (λx=>!x.forms) _ [] H1) Yy ?_;refine Y1 ?_;rw[zfm,hN,h',h1',h2'];rfl
  ·rw[hN,show decide (ps.length=2)=false by simpa using h];rfl
 ·have hH:Fm.here (.mk 7 a v ps)=(decide (ps.length=2)&&a.none&&(v==[])):=rfl;rw[hH]at hN;have hq:isQ 7=false:=rfl;have hb:zk6 7=true:=rfl;simp only[fmD,zaa,Fm.op,Fm.atom,Fm.var,Fm.parts];refine zae Tryz.call139 Tryz.func139 rfl Yz (zao Yz) ?_;refine Z3 ?_;refine callF (zaw 7) Vf ?_;refine Y2 hq ?_;refine callF (zh2 7) (Y3 hb) ?_;refine Y2 hb ?_;simp only[e2];refine⟨λh=>?_,λh=>?_⟩
  ·have h':decide (ps.length=2)=true:=by simpa using h
   refine callF (zaw 7) Vf ?_;refine Y2 hq ?_;refine callF (zaw 7) Vf ?_;refine Y2 hq ?_;refine⟨λh1=>?_,λh1=>?_⟩
   ·rw[hN,show(v==[])=false by simpa using h1,Ke,Qx]
   ·have h1':(v==[])=true:=by simpa using h1
    refine callF (zb2 a) Y4 ?_;refine Y5 ?_;refine⟨λh2=>?_,λh2=>?_⟩
    ·rw[hN,show a.none=false by simpa using h2,Ke,Qx,Qx]
    ·have h2':a.none=true:=by simpa using h2
     refine callF (za6 ps (λx=>!x.forms) _ [] H1) Yy ?_;refine Y1 ?_;rw[zfm,hN,h',h1',h2'];rfl
  ·rw[hN,show decide (ps.length=2)=false by simpa using h];rfl
 ·have hH:Fm.here (.mk 8 a v ps)=(decide (ps.length=1)&&a.none&&za9 v):=rfl;rw[hH]at hN;have hq:isQ 8=true:=rfl;have hb:zk6 8=false:=rfl;simp only[fmD,zaa,Fm.op,Fm.atom,Fm.var,Fm.parts];refine zae Tryz.call139 Tryz.func139 rfl Yz (zao Yz) ?_;refine Z3 ?_;refine callF (zaw 8) Vf ?_;refine Y2 hq ?_;simp only[e1];refine⟨λh=>?_,λh=>?_⟩
  ·have h':decide (ps.length=1)=true:=by simpa using h
   refine callF (zaw 8) Vf ?_;refine Y2 hq ?_;refine callF (zdt v) Yy ?_;refine Y1 ?_;refine⟨λh1=>?_,λh1=>?_⟩
   ·have h1':za9 v=true:=by simpa using h1
    refine callF (zaw 8) Vf ?_;refine Y2 hq ?_;refine callF (zb2 a) Y4 ?_;refine Y5 ?_;refine⟨λh2=>?_,λh2=>?_⟩
    ·rw[hN,show a.none=false by simpa using h2,Ke,Qx,Qx]
    ·have h2':a.none=true:=by simpa using h2
     refine callF (za6 ps (λx=>!x.forms) _ [] H1) Yy ?_;refine Y1 ?_;rw[zfm,hN,h',h1',h2'];rfl
   ·rw[hN,show za9 v=false by simpa using h1,Ke,Qx]
  ·rw[hN,show decide (ps.length=1)=false by simpa using h];rfl
 ·have hH:Fm.here (.mk 9 a v ps)=(decide (ps.length=1)&&a.none&&za9 v):=rfl;rw[hH]at hN;have hq:isQ 9=true:=rfl;have hb:zk6 9=false:=rfl;simp only[fmD,zaa,Fm.op,Fm.atom,Fm.var,Fm.parts];refine zae Tryz.call139 Tryz.func139 rfl Yz (zao Yz) ?_;refine Z3 ?_;refine callF (zaw 9) Vf ?_;refine Y2 hq ?_;simp only[e1];refine⟨λh=>?_,λh=>?_⟩
  ·have h':decide (ps.length=1)=true:=by simpa using h
   refine callF (zaw 9) Vf ?_;refine Y2 hq ?_;refine callF (zdt v) Yy ?_;refine Y1 ?_;refine⟨λh1=>?_,λh1=>?_⟩
   ·have h1':za9 v=true:=by simpa using h1
    refine callF (zaw 9) Vf ?_;refine Y2 hq ?_;refine callF (zb2 a) Y4 ?_;refine Y5 ?_;refine⟨λh2=>?_,λh2=>?_⟩
    ·rw[hN,show a.none=false by simpa using h2,Ke,Qx,Qx]
    ·have h2':a.none=true:=by simpa using h2
     refine callF (za6 ps (λx=>!x.forms) _ [] H1) Yy ?_;refine Y1 ?_;rw[zfm,hN,h',h1',h2'];rfl
   ·rw[hN,show za9 v=false by simpa using h1,Ke,Qx]
  ·rw[hN,show decide (ps.length=1)=false by simpa using h];rfl
 ·have hH:Fm.here (.mk o a v ps)=false:=by simp[Fm.here,zk6,isQ,Fm.op, *]
  rw[hH]at hN;have f1:(o==1)=false:=by simpa using n1
  have f2:(o==2)=false:=by simpa using n2
  have f3:(o==3)=false:=by simpa using n3
  have f4:(o==4)=false:=by simpa using n4
  have hq:isQ o=false:=by simp[isQ,n8,n9]
  have hb:zk6 o=false:=by simp[zk6,n5,n6,n7]
  simp only[fmD,zaa,Fm.op,Fm.atom,Fm.var,Fm.parts];refine zae Tryz.call139 Tryz.func139 rfl Yz (zao Yz) ?_;simp -implicitDefEqProofs only[go_sem,Tryz.results139,f1,f2,f3,f4];refine callF (zaw o) Vf ?_;refine Y2 hq ?_;refine callF (zh2 o) (Y3 hb) ?_;refine Y2 hb ?_;rw[hN];rfl
theorem qf8:∀a:Fm,a.wt<=1099511627776->FC Tryz.prog 139 [fmD a] [bD a.forms] :=
 zck λo a v xs ih hs=>qb5 (.mk o a v xs) hs λx hx=>ih x hx (Je (zd3 (a:=.mk o a v xs) hx) hs)
theorem zcc (a:Fm)(hs:a.wt<=1099511627776):FC Tryz.prog 117 [fmD a] [bD a.good]:=by
 simp only[fmD,zaa]
 refine zae Tryz.call117 Tryz.func117 rfl Yz (zao Yz) ?_
 simp -implicitDefEqProofs only[go_sem,Tryz.results117]
 refine callF (qpq a hs) Zp ?_
 refine Zx ?_
 rw[qmt]
 refine⟨λh=>?_,λh=>?_⟩
 ·refine callF (qf8 a hs) Zp ?_;refine Zx ?_;rw[Fm.good,h,Qv]
 ·rw[Fm.good,h,Qx]
end Go.Proofs.YtnemmlahbbbobaaGreat
namespace Go.Proofs.YtnemmlahbbbobaaGreat
set_option linter.unusedSimpArgs false
set_option linter.unusedVariables false
set_option linter.unusedSectionVars false
set_option maxRecDepth 4000
open Go.RowKit Go.Sort Go.Proofs
variable {P:Program}
theorem zxp {w:World}:∀{ss:List Str}{vs:List Value}{fps:List Nat},zbc w (ss.map T.str) vs fps->vs=ss.map encStr/\fps=[]/\∀s∈ss,s.length<=zh1
 | [],vs,fps,h=>⟨h.1,h.2,by simp⟩
 | s::ss,vs,fps,h=>by
  obtain⟨v,vs',f1,f2,rfl,rfl,h1,h2⟩:=h;unfold zba at h1;obtain⟨rfl,k1,rfl⟩:=h1;obtain⟨rfl,rfl,k2⟩:=zxp h2;exact⟨rfl,rfl,λx hx=>(Qu.1 hx).elim (λe=>e▸k1) (k2 x)⟩
theorem zzb {w:World}:∀{ss:List Str},(∀s∈ss,s.length<=zh1)->zbc w (ss.map T.str) (ss.map encStr) []
 | [],_=>⟨rfl,rfl⟩
 | s::ss,h=>⟨_,_,[],[],rfl,rfl,by unfold zba;exact⟨rfl,h s (by simp),rfl⟩,zzb λx hx=>h x (by simp[hx])⟩
theorem zmm (ss:List Str):(ss.map λs=>[T.str s]).flatten=ss.map T.str:=by induction ss<;>simp_all
theorem qle (ss:List Str):lens 1 (ss.map λs=>[T.str s]):=λr hr=>by obtain⟨s,_,rfl⟩:=Ka.1 hr;rfl
abbrev zk8 (ss:List Str):List Str:=ss.mergeSort leB
theorem qsy {f:FuncId}(hc:zbl P f)(hS:∀(blk off cap:Nat)(ss:List (List UInt8))(w:World),Holds encStr w blk off ss.toArray->blk<w.heap.size->ss.length<4611686018427387904 →
   Calls P f #[.slice (some ⟨blk,off,none⟩) ss.length cap] w λe w'=>e=.returned (.tuple #[])/\∃n os,w'=grow (putRow encStr (Sort.ahead w n) blk off (ss.mergeSort λx y=>decide (x<=y)).toArray) os)
  (hN:∀(p:Option Addr) (cap:Nat) (w:World),Calls P f #[.slice p 0 cap] w λe w'=>e=.returned (.tuple #[])/\w'=w) (ss:List Str) (hl:ss.length<4611686018427387904):IC P f [] (.one (zdl ss)) [] (.one (zdl (zk8 ss))) []:=by
 refine⟨hc,λw us1 v us2 fp tp h1 hg h2 hn=>?_⟩
 rw[show us1=[] from h1,show us2=[] from h2]
 obtain⟨hg,_⟩:=hg
 unfold zba at hg
 obtain⟨ao,cap,rfl,q1,q2,q3⟩:=hg
 rw[Qa]at q1⊢
 rcases q3 with⟨rfl,rfl,q3,rfl⟩|⟨b,cells,ty,fps,rfl,rfl,q3,q4,q5⟩
 ·have hs:ss=[]:=List.map_eq_nil_iff.1 q3;subst hs;refine(hN none 0 w).mono ?_;rintro e w' ⟨rfl,rfl⟩;refine⟨[],[],[],rfl,⟨_,[],[],[],[],[],rfl,rfl,rfl,⟨?_,rfl⟩,rfl,rfl,rfl⟩,Kr,by simp,Bk.refl _ _⟩;unfold zba;exact⟨none,0,by simp[zk8],by simp[zk8],by simp,Or.inl ⟨rfl,rfl,by simp[zk8],rfl⟩⟩
 ·obtain⟨_,vs,k1,k2,k3⟩:=q5.vals;rw[zmm]at k3;obtain⟨rfl,rfl,k4⟩:=zxp k3;have hsz:ss.length<=cells.size:=by omega
  have ht:cells.toList.take ss.length=ss.map encStr:=by
   apply List.ext_getElem?;intro j;by_cases hj:j<ss.length
   ·rw[List.getElem?_take_of_lt hj,Array.getElem?_toList];have:=k2 j _ (List.getElem?_eq_getElem (by simpa using hj));rw[Q7]at this;rw[this,List.getElem?_eq_getElem (by simpa using hj)]
   ·rw[List.getElem?_take_eq_none Y0,List.getElem?_eq_none (by simp;omega)]
  refine(hS b 0 cap ss w (holds_of_block q3 ht) (Array.getElem?_eq_some_iff.1 q3).1 hl).mono ?_;rintro e w' ⟨rfl,n,os,rfl⟩;have hgr:=grownBy_sorted (w:=w) (g:=b) (n:=n) (os:=os) (ss.mergeSort λx y=>decide (x<=y)).toArray;have hlen:(zk8 ss).length=ss.length:=by simp[zk8]
  have htk:=take_putCells cells (zk8 ss) Y0;refine⟨[],[b],[b],rfl,⟨_,[],[b],[],[b],[],rfl,rfl,rfl,⟨?_,rfl⟩,rfl,rfl,rfl⟩,by simp,λx hx=>Or.inl hx,⟨hgr.os,hgr.tape,hgr.output,hgr.size,λk hk=>hgr.block k hk.1 λe=>hk.2 (by cases e;simp)⟩⟩;unfold zba;refine⟨_,cap,by rw[Qa,hlen],by rw[Qa,hlen];exact q1,q2,Or.inr ⟨b,_,ty,[],rfl,rfl,heap_sorted _ q3,by simp[putCells,q4],?_⟩⟩;refine zat.of_vals (qle _) (by rw[zmm];exact zzb λs hs=>k4 s ((List.mergeSort_perm ss leB).mem_iff.1 hs)) λj u hu=>?_;rw[<-htk,List.getElem?_take]at hu;split at hu
  ·simpa using hu
  ·cases hu
structure CloneOf (P:Program)(f:FuncId)(sz bytes:Nat):Prop where
 call:zbl P f
 old:∀(ad:Addr) (n c:Nat) (news:List Value) (w:World),news.length=n*sz->n<=maxLen->n*bytes<=140737488355328->(∀j u,news[j]?=some u->w.cell? (ad.add j)=some u)->(∀u∈news,u.oneCell'=true) →
  Calls P f #[.slice (some ad) n c] w λe w'=>∃t v',e=.returned v'/\w'.ownsRow w.heap.size t sz v' n news/\v'≠.slice none 0 0/\Below w.heap.size w w'
 none:∀(n c:Nat) (w:World),Calls P f #[.slice none n c] w λe w'=>e=.returned (.slice none 0 0)/\w'=w
theorem zax.valsA {w:World}{A:Nat->Prop}{b sz:Nat}{rows:List (List T)}{o:Nat}(h:zax w A b o sz rows):∃vs,vs.length=rows.length*sz/\(∀j u,vs[j]?=some u->w.cell? ⟨b,o+j,none⟩=some u)/\zag w A rows.flatten vs/\lens sz rows:=by
 obtain⟨h1,vs,h2,h3,h4⟩:=h.vals
 exact⟨vs,h2,h3,h4,h1⟩
theorem qei {f:FuncId}{sz bytes:Nat}(h:CloneOf P f sz bytes)(rows:List (List T))(hb:rows.length*bytes<=140737488355328){w:World}{A:Nat->Prop}{v:Value}(h1:zau w A (.sl sz rows) v) :
  Calls P f #[v] w λe w'=>∃v',e=.returned v'/\Below w.heap.size w w'/\((v'=.slice none 0 0/\rows=[])\/∃g cap cur ty vs,v'=.slice (some ⟨g,0,none⟩) rows.length cap/\w.heap.size<=g/\w'.heap[g]?=some (.cells cur ty (0,0))/\rows.length<=cap/\cap<=zh1/\cur.size=cap*sz/\cur.toList.take (rows.length*sz)=vs/\zag w A rows.flatten vs/\lens sz rows):=by
 unfold zau at h1
 obtain⟨ao,cap,rfl,q1,q2,q3⟩:=h1
 cases ao with
 | none =>
  have hr:rows=[]:=q3.resolve_right λ⟨b,o,e,_⟩=>by cases e
  refine(h.none rows.length cap w).mono ?_;rintro e w' ⟨rfl,rfl⟩;exact⟨_,rfl,Below.refl _ _,Or.inl ⟨rfl,hr⟩⟩
 | some ad =>
  have hx:∃news:List Value,news.length=rows.length*sz/\(∀j u,news[j]?=some u->w.cell? (ad.add j)=some u)/\zag w A rows.flatten news/\lens sz rows:=by
   rcases q3 with rfl|⟨b',o',e,_,q4⟩
   ·exact⟨[],by simp,λj u hj=>by simp at hj,by unfold zag;rfl,λr hr=>by simp at hr⟩
   ·cases e;obtain⟨news,k1,k2,k3,k4⟩:=q4.valsA;exact⟨news,k1,λj u hj=>by rw[zgn];exact k2 j u hj,k3,k4⟩
  obtain⟨news,k1,k2,k3,k4⟩:=hx;refine(h.old ad rows.length cap news w k1 (by unfold maxLen;have:=q2;unfold zh1 at this;omega) hb k2 k3.one).mono ?_;rintro e w' ⟨t,v',rfl,⟨o1,o2⟩,hn,hbel⟩;refine⟨v',rfl,hbel,Or.inr ?_⟩;rcases o2 with⟨e,_⟩|⟨g,cap',cur,e,p1,p2,p3,p4,p5,p6⟩
  ·exact absurd e hn
  ·exact⟨g,cap',cur,t,news,e,p1,p2,p3,by unfold maxLen at p4;omega,p5,p6,k3,k4⟩
theorem qvv {cur:Array Value}{vs:List Value}{n:Nat}(h:cur.toList.take n=vs):∀j u,vs[j]?=some u->cur[0+j]?=some u:=λj u hu=>by
 rw[<-h,List.getElem?_take]at hu
 split at hu
 ·simpa using hu
 ·cases hu
theorem qpe {f:FuncId}{sz bytes:Nat}(h:CloneOf P f sz bytes)(rows:List (List T))(hb:rows.length*bytes<=140737488355328)(hf:∀c∈rows.flatten,c.flat=true):FC P f [.one (.sl sz rows)] [.one (.sl sz rows)]:=by
 refine⟨h.call,λw vs fp tp hv hn=>?_⟩
 obtain⟨hr,rfl,rfl⟩:=zfr hv
 obtain⟨v,_,rfl,h1,rfl⟩:=hr
 refine(qei h rows hb h1).mono ?_
 rintro e w' ⟨v',rfl,hbel,hh⟩
 have hB:Bk (λk=>k<w.heap.size/\k∉([]:List Nat)) w w':=⟨hbel.os,hbel.tape,hbel.output,hbel.size,λk hk=>hbel.block k hk.1⟩
 rcases hh with⟨rfl,hr⟩|⟨g,cap,cur,ty,vs,rfl,p1,p2,p3,p4,p5,p6,p7,p8⟩
 ·subst hr;refine⟨[_],[],[],rfl,⟨_,[],[],[],[],[],rfl,rfl,rfl,⟨?_,rfl⟩,rfl,rfl,rfl⟩,Kr,by simp,hB⟩;unfold zba;exact⟨Option.none,0,rfl,Qz _,by simp,Or.inl ⟨rfl,rfl,rfl,rfl⟩⟩
 ·refine⟨[_],[g],[g],rfl,⟨_,[],[g],[],[g],[],rfl,rfl,rfl,⟨?_,rfl⟩,rfl,rfl,rfl⟩,by simp,λb hb=>by rw[Q4.1 hb];exact Or.inr p1,hB⟩;unfold zba;refine⟨_,cap,rfl,p3,p4,Or.inr ⟨g,cur,ty,[],rfl,rfl,p2,p5,?_⟩⟩;have hown:=zag.own p7 hf;exact zat.of_vals p8 (zbc.keep hown λb hb=>by simp at hb) λj u hu=>qvv p6 j u hu
theorem zqv (a b:Str):Op.bytesLess a b=decide (a<b):=bytesLess_eq a b
def Srt (xs:List Str):Prop:=xs.Pairwise (·<·)
theorem zrc (a:Str):¬a<a:=List.lt_irrefl a
theorem zs1 {xs:List Str}(h:Srt xs):xs.Nodup:=List.Pairwise.imp (fun {a b}(h:a<b)(e:a=b)=>zrc b (e▸h)) h
theorem qun {xs ys:List Str}(hx:Srt xs)(hy:Srt ys)(h:∀s,s∈xs↔s∈ys):xs=ys:=by
 have hp:xs.Perm ys:=(List.perm_ext_iff_of_nodup (zs1 hx) (zs1 hy)).2 h
 exact hp.eq_of_pairwise (le:=λa b=>a<b) (λa b _ _ h1 h2=>absurd (List.lt_trans h1 h2) (zrc a)) hx hy
theorem qrm {a b:Str}(h:a<=b):a<b\/a=b:=by
 by_cases h1:a<b
 ·exact Or.inl h1
 ·exact Or.inr (List.le_antisymm h (List.not_lt.1 h1))
theorem qg2 (xs:List Str)(s:Str):s∈zk8 xs↔s∈xs:=(List.mergeSort_perm xs leB).mem_iff
theorem qlh {xs:List Str}(h:xs.Nodup):Srt (zk8 xs):=by
 have tr:∀a b c:List UInt8,leB a b=true->leB b c=true->leB a c=true:=λa b c h1 h2=>by simp only[leB,Q2]at *;exact List.le_trans h1 h2
 have to:∀a b:List UInt8,(leB a b||leB b a)=true:=λa b=>by simp only[leB,K1,Q2];exact List.le_total a b
 have hs:=List.pairwise_mergeSort tr to xs
 have hn:(zk8 xs).Nodup:=(List.mergeSort_perm xs leB).nodup_iff.2 h
 refine(List.Pairwise.and hs hn).imp ?_
 rintro a b ⟨h1,h2⟩
 simp only[leB,Q2]at h1
 exact(qrm h1).resolve_right h2
def zzq (l:List Str)(s:Str):List Str:=if(l.dropWhile λx=>Op.bytesLess x s).head?=some s then l else (l.takeWhile λx=>Op.bytesLess x s)++[s]++l.dropWhile λx=>Op.bytesLess x s
theorem qp2 (l:List Str)(s x:Str):x∈zzq l s↔x=s\/x∈l:=by
 have e:l=(l.takeWhile λx=>Op.bytesLess x s)++l.dropWhile λx=>Op.bytesLess x s:=(List.takeWhile_append_dropWhile).symm
 unfold zzq
 split
 ·rename_i h;have:s∈l:=by rw[e];exact J7 _ (List.mem_of_mem_head? h)
  exact⟨Or.inr,λh=>h.elim (λe=>e▸this) id⟩
 ·conv=>rhs;rw[e]
  simp only[Qw,Q4,or_assoc];constructor
  ·rintro(h|h|h)
   ·exact Or.inr (Or.inl h)
   ·exact Or.inl h
   ·exact Or.inr (Or.inr h)
  ·rintro(h|h|h)
   ·exact Or.inr (Or.inl h)
   ·exact Or.inl h
   ·exact Or.inr (Or.inr h)
theorem zn6 {l:List Str}{p:Str->Bool}{x:Str}(h:(l.dropWhile p).head?=some x):p x=false:=by
 induction l with
 | nil=>simp at h
 | cons a l ih =>
  rw[List.dropWhile_cons]at h;split at h
  ·exact ih h
  ·rename_i hp;simp only[List.head?_cons,Qe]at h;subst h;simpa using hp
theorem qp9 {l:List Str}(h:Srt l)(s:Str):Srt (zzq l s):=by
 unfold zzq
 split
 ·exact h
 ·rename_i hne;have e:(l.takeWhile λx=>Op.bytesLess x s)++(l.dropWhile λx=>Op.bytesLess x s)=l:=List.takeWhile_append_dropWhile;have h':=h;rw[<-e]at h';obtain⟨h1,h2,h3⟩:=List.pairwise_append.1 h';have ht:∀a∈l.takeWhile λx=>Op.bytesLess x s,a<s:=λa ha=>by
   have:=List.all_takeWhile (l:=l) (p:=λx=>Op.bytesLess x s);have:=Qq.1 this a ha;rw[zqv]at this;exact Jc this
  have hd:∀a∈l.dropWhile λx=>Op.bytesLess x s,s<a:=λa ha=>by
   cases hD:l.dropWhile λx=>Op.bytesLess x s with
   | nil=>rw[hD]at ha;simp at ha
   | cons y ys =>
    have hy:=zn6 (l:=l) (p:=λx=>Op.bytesLess x s) (x:=y) (by rw[hD];rfl);have hys:s<y:=by
     have h0:¬y<s:=by rw[zqv]at hy;exact of_decide_eq_false hy
     rcases qrm (List.not_lt.1 h0)with h|h
     ·exact h
     ·exact absurd (by rw[hD,h];rfl) hne
    rw[hD]at ha h2;rcases Qu.1 ha with rfl|ha
    ·exact hys
    ·exact List.lt_trans hys ((Jf.1 h2).1 a ha)
  rw[Kd];refine List.pairwise_append.2 ⟨h1,?_,λa ha b hb=>?_⟩
  ·exact Jf.2 ⟨hd,h2⟩
  ·rcases Qu.1 hb with rfl|hb
   ·exact ht a ha
   ·exact h3 a ha b hb
end Go.Proofs.YtnemmlahbbbobaaGreat
namespace Go.Proofs.YtnemmlahbbbobaaGreat
set_option linter.unusedSimpArgs false
set_option linter.unusedVariables false
set_option linter.unusedSectionVars false
set_option maxRecDepth 4000
open Go.RowKit
theorem qr4 {P:Program}{t:TypeId}{n b:Nat}{z:List C}(h1:zby P t=some n)(h2:zdy P t=some b)(h3:zdu P t=some z)(h4:z.length=n):∃i0 zv,P.info? t=some i0/\i0.zero=some zv/\zv.cells.size=n/\i0.size=n/\i0.bytes=b:=by
 unfold zby at h1
 unfold zdy at h2
 unfold zdu at h3
 cases hi:P.info? t with
 | none=>rw[hi]at h1;cases h1
 | some i =>
  rw[hi]at h1 h2 h3;simp only[Q8,Qe]at h1 h2;simp only[Kj]at h3;cases hz:i.zero with
  | none=>rw[hz]at h3;cases h3
  | some zv =>
   rw[hz]at h3;simp only[Q8,Qe]at h3;refine⟨i,zv,rfl,hz,?_,h1,h2⟩;rw[<-h4,<-h3];simp
abbrev ze2 (xs:List Int):T:=.sl 1 (xs.map λs=>[.int .i64 s])
end Go.Proofs.YtnemmlahbbbobaaGreat
namespace Go.Proofs
open Go.Shelf
set_option maxRecDepth 100000
def Tryz.lays190_ren : Go.Shelf.Ren := ⟨fun | 190 => 194 | 125 => 200 | 258 => 199 | 128 => 214 | 129 => 215 | 302 => 205 | 303 => 206 | 304 => 207 | 305 => 208 | 306 => 209 | 307 => 210 | 308 => 211 | 309 => 212 | 310 => 213 | 333 => 218 | 329 => 219 | 330 => 220 | 334 => 221 | 335 => 222 | 336 => 216 | 344 => 223 | n => n, fun | 31 => 115 | 9 => 9 | 3 => 3 | 46 => 178 | 0 => 0 | 51 => 192 | 53 => 194 | 4 => 4 | 183 => 185 | 182 => 184 | 131 => 179 | 5 => 5 | 218 => 195 | 222 => 199 | 228 => 201 | 229 => 202 | n => n, fun | n => n⟩
theorem Tryz.lays190 : Go.Proofs.Lays.n190 Tryz.prog Tryz.lays190_ren := {
 mixed := by kernel_rfl
 f125 := Tryz.func200.trans (congrArg some (by kernel_rfl))
 f128 := Tryz.func214.trans (congrArg some (by kernel_rfl))
 f129 := Tryz.func215.trans (congrArg some (by kernel_rfl))
 f190 := Tryz.func194.trans (congrArg some (by kernel_rfl))
 f258 := Tryz.func199.trans (congrArg some (by kernel_rfl))
 f302 := Tryz.func205.trans (congrArg some (by kernel_rfl))
 f303 := Tryz.func206.trans (congrArg some (by kernel_rfl))
 f304 := Tryz.func207.trans (congrArg some (by kernel_rfl))
 f305 := Tryz.func208.trans (congrArg some (by kernel_rfl))
 f306 := Tryz.func209.trans (congrArg some (by kernel_rfl))
 f307 := Tryz.func210.trans (congrArg some (by kernel_rfl))
 f308 := Tryz.func211.trans (congrArg some (by kernel_rfl))
 f309 := Tryz.func212.trans (congrArg some (by kernel_rfl))
 f310 := Tryz.func213.trans (congrArg some (by kernel_rfl))
 f329 := Tryz.func219.trans (congrArg some (by kernel_rfl))
 f330 := Tryz.func220.trans (congrArg some (by kernel_rfl))
 f333 := Tryz.func218.trans (congrArg some (by kernel_rfl))
 f334 := Tryz.func221.trans (congrArg some (by kernel_rfl))
 f335 := Tryz.func222.trans (congrArg some (by kernel_rfl))
 f336 := Tryz.func216.trans (congrArg some (by kernel_rfl))
 f344 := Tryz.func223.trans (congrArg some (by kernel_rfl))
 t0 := Tryz.underlying0
 a0 := Tryz.isAgg0
 z0 := Tryz.sizeOf0
 v0 := Tryz.zeroValue0
 t3 := Tryz.underlying3
 a3 := Tryz.isAgg3
 z3 := Tryz.sizeOf3
 v3 := Tryz.zeroValue3
 t4 := Tryz.underlying4
 a4 := Tryz.isAgg4
 z4 := Tryz.sizeOf4
 v4 := Tryz.zeroValue4
 t5 := Tryz.underlying5
 a5 := Tryz.isAgg5
 z5 := Tryz.sizeOf5
 v5 := Tryz.zeroValue5
 t9 := Tryz.underlying9
 a9 := Tryz.isAgg9
 z9 := Tryz.sizeOf9
 v9 := Tryz.zeroValue9
 t31 := Tryz.underlying115
 a31 := Tryz.isAgg115
 z31 := Tryz.sizeOf115
 v31 := Tryz.zeroValue115
 t46 := Tryz.underlying178
 a46 := Tryz.isAgg178
 z46 := Tryz.sizeOf178
 v46 := Tryz.zeroValue178
 t51 := Tryz.underlying192
 a51 := Tryz.isAgg192
 z51 := Tryz.sizeOf192
 v51 := Tryz.zeroValue192
 t53 := Tryz.underlying194
 a53 := Tryz.isAgg194
 z53 := Tryz.sizeOf194
 v53 := Tryz.zeroValue194
 t131 := Tryz.underlying179
 a131 := Tryz.isAgg179
 z131 := Tryz.sizeOf179
 v131 := Tryz.zeroValue179
 t182 := Tryz.underlying184
 a182 := Tryz.isAgg184
 z182 := Tryz.sizeOf184
 v182 := Tryz.zeroValue184
 t183 := Tryz.underlying185
 a183 := Tryz.isAgg185
 z183 := Tryz.sizeOf185
 v183 := Tryz.zeroValue185
 t218 := Tryz.underlying195
 a218 := Tryz.isAgg195
 z218 := Tryz.sizeOf195
 v218 := Tryz.zeroValue195
 t222 := Tryz.underlying199
 a222 := Tryz.isAgg199
 z222 := Tryz.sizeOf199
 v222 := Tryz.zeroValue199
 t228 := Tryz.underlying201
 a228 := Tryz.isAgg201
 z228 := Tryz.sizeOf201
 v228 := Tryz.zeroValue201
 t229 := Tryz.underlying202
 a229 := Tryz.isAgg202
 z229 := Tryz.sizeOf202
 v229 := Tryz.zeroValue202 }
end Go.Proofs
namespace Go.Proofs.YtnemmlahbbbobaaGreat
set_option linter.unusedSimpArgs false
set_option linter.unusedVariables false
set_option linter.unusedSectionVars false
set_option maxRecDepth 4000
open Go.RowKit
theorem zs5 (ss:List Str)(hl:ss.length<=1099511627776):IC Tryz.prog 194 [] (.one (zdl ss)) [] (.one (zdl (zk8 ss))) [] :=
 qsy Tryz.call194 (λblk off cap ss w h1 h2 h3=>Any.slices_Sort_string Tryz.lays190 blk off cap ss w h1 h2 h3) (λp cap w=>Any.slices_Sort_string_none Tryz.lays190 p cap w) ss Y0
set_option maxHeartbeats 1000000 in
theorem qcp:CloneOf Tryz.prog 198 1 16:=by
 have t22:=Tryz.underlying115
 have q22:∀(w:World) (a:Option Addr) (n c n' c':Nat),(binOp .eql 115 (.slice a n c) (.slice none n' c')).run Tryz.prog w=.ok (.bool a.isNone) w:=λw a n c n' c'=>Lib.run_eql_slice_nil w _ _ a n c n' c' t22
 have u22:∀w,Sem.run Tryz.prog (underlying 115) w=.ok (TypeDesc.slice 9) w:=run_underlying t22
 refine⟨Tryz.call198,λad n c news w hl hn hbig hc h1=>?_,λn c w=>?_⟩
 ·have A:Aside (∀j u,news[j]?=some u->w.cell? (ad.add j)=some u):=hc;clear hc;obtain⟨i0,z,hi,hz0,hzs,hz1,hz2⟩:=qr4 (P:=Tryz.prog) (t:=9) (n:=1) (b:=16) (z:=[.t (.str [])]) Yz Yz Yz rfl
  go_enter Tryz.func198,Tryz.ntmps198
  go_wp2_with (at_builtin;refine wpList_append_own _ rfl _ _ 115 rfl w.heap.size 9 i0 z 1 16 t22 hi hz0 hz1 hz2 hzs (by decide) _ _ _ rfl (World.ownsRow_made w #[] 0 (Qz _) (Kc _) (by simp)) ad n c news rfl ?qc1 ?qc2 ?qc3 ?qc4 ?qc5 ?qc6 ?_)
  case qc1=>exact hl
  case qc2 =>
   intro j u hj;exact Lib.cell?_alloc_some _ (A.out j u hj)
  case qc3=>exact h1
  case qc4=>rw[Q7];exact hn
  case qc5=>rw[Q7];exact hbig
  case qc6=>simp
  intro v' w1 hown hgrow hnil
  go_wp2
  go_ret
  refine⟨_,v',rfl,by simpa using hown,hnil,?_⟩;exact((Below.refl _ w).alloc (Qz _) _).grown hgrow (by simp) (by intro k hk;simp[Value.ownBlock]at hk;omega)
 ·go_enter Tryz.func198,Tryz.ntmps198
  go_wp2
  go_ret
  exact⟨rfl,rfl⟩
theorem qbp (ss:List Str):∀c∈(ss.map λs=>[T.str s]).flatten,c.flat=true:=λc hc=>by
 rw[zmm]at hc
 obtain⟨s,_,rfl⟩:=Ka.1 hc
 rfl
theorem qcf (ss:List Str)(hs:ss.length<=1099511627776):FC Tryz.prog 198 [.one (zdl ss)] [.one (zdl ss)] :=
 qpe qcp _ (by simp;omega) (qbp ss)
theorem zpt (xs:List Str)(s:Str):FC Tryz.prog 92 [.one (zdl xs),sD s] [bD (xs.contains s)]:=by
 refine zeo (λhw=>?_) Tryz.call92
 have hl:xs.length<=9223372036854775807:=by simpa[zik,wfT]using hw.1.1
 refine zae Tryz.call92 Tryz.func92 rfl Yz (zao Yz) ?_
 simp -implicitDefEqProofs only[go_sem,Tryz.results92]
 refine zah (λk:Nat=>hd [(0,vT (zdl xs)),(1,vT (.str s)),(5,vI k)] [] []) (λk=>k<=xs.length/\s∉xs.take k) (λk=>xs.length-k) 0 (zad ?_) ?_ ?_
 ·exact Yy
 ·simp
 ·intro k ⟨hk,hr⟩;by_cases hlt:k<xs.length
  ·refine Xj hlt ?_;refine⟨λh=>?_,λh=>?_⟩
   ·have e:xs[k]=s:=by simpa using h
    rw[Jl.2 (e▸Qk hlt)]
   ·have e:xs[k]≠s:=by simpa using h
    exact⟨k+1,⟨hlt,zi3 hlt hr e⟩,Y0,zad (by simp -implicitDefEqProofs only[go_sem];rw[zaq Y0])⟩
  ·refine Vd ?_;rw[Qr Y0]at hr;simpa using hr
theorem zda {α:Type}{p:α->Bool}:∀{l:List α}{k:Nat},k<=l.length->(∀x∈l.take k,p x=true)->(∀h:k<l.length,p l[k]=false)->l.takeWhile p=l.take k/\l.dropWhile p=l.drop k
 | [],k,hk,_,_=>by simp
 | a::l,0,hk,_,h2=>by have:=h2 (by simp);simp only[Kk]at this;simp[this]
 | a::l,k+1,hk,h1,h2=>by
  have ha:=h1 a (by simp);obtain⟨e1,e2⟩:=zda (l:=l) (k:=k) (by simpa using hk) (λx hx=>h1 x (by simp[hx])) (λh=>h2 (by simpa using h));simp[ha,e1,e2]
theorem qhw {l:List Str}{s:Str}{k:Nat}(hk:k<=l.length)(h1:∀x∈l.take k,Op.bytesLess x s=true)(h2:∀h:k<l.length,Op.bytesLess l[k] s=false):zzq l s=if(l.drop k).head?=some s then l else l.take k++[s]++l.drop k:=by
 obtain⟨e1,e2⟩:=zda (p:=λx=>Op.bytesLess x s) hk h1 h2
 unfold zzq
 rw[e1,e2]
theorem flR_of {rows:List (List T)}(h:∀r∈rows,r.all T.flat=true):flR rows=true:=by
 induction rows with
 | nil=>rfl
 | cons r rs ih=>unfold flR;rw[h r (by simp),ih λr hr=>h r (by simp[hr])];rfl
theorem zdh (l:List Str):flR (l.map λs=>[T.str s])=true:=flR_of λr hr=>by obtain⟨s,_,rfl⟩:=Ka.1 hr;rfl
theorem zcw (k:Nat)(l:List Str):flR ((l.map λs=>[T.str s]).take k)=true:=by rw[<-List.map_take];exact zdh _
theorem zcv (k:Nat)(l:List Str):flR ((l.map λs=>[T.str s]).drop k)=true:=by rw[<-List.map_drop];exact zdh _
theorem zgs {α β:Type}(f:α->β)(l:List α):(l.map f).take l.length=l.map f:=Qr (by simp)
theorem qij (l:List Str)(s:Str)(hl:l.length<=2147483648):GC Tryz.prog 137 [(true,.one (zdl l)),(false,sD s)] [.one (zdl (zzq l s))]:=by
 refine qcd Tryz.call137 Tryz.func137 rfl Yz (by simp only[Qg,Qs,Tryz.ntmps137];omega) (by simp[zcj,T.isPin]) ?_
 simp -implicitDefEqProofs only[go_sem,Tryz.results137]
 refine zah (λk:Nat=>hd [(0,.one (.ow 0 0)),(1,vT (.str s)),(5,vI k)] [] [(0,⟨true,1,l.map λs=>[.str s],0,true⟩)]) (λk=>k<=l.length/\∀x∈l.take k,Op.bytesLess x s=true) (λk=>l.length-k) 0 (zad ?_) ?_ ?_
 ·exact Yy
 ·simp
 ·intro k ⟨hk,hr⟩;have hm1:min k l.length<=4294967296:=by omega
  have hm2:min k l.length<=4294967295:=by omega
  have hm3:min k l.length+1+(l.length-k)<=4294967296:=by omega
  by_cases hlt:k<l.length
  ·have hnx:∀{b},Op.bytesLess l[k] s=b->b=true->∀x∈l.take (k+1),Op.bytesLess x s=true:=fun {b} e hb x hx=>by
    rw[Qn hlt]at hx;rcases Qw.1 hx with hx|hx
    ·exact hr x hx
    ·rw[Q4.1 hx,e,hb]
   refine Xj hlt ?_;refine⟨λh=>⟨k+1,⟨hlt,hnx rfl h⟩,Y0,zad (by simp -implicitDefEqProofs only[go_sem];rw[zaq Y0])⟩,λh=>?_⟩;have hp:=qhw hk hr (λ_=>h);have hh:(l.drop k).head?=some l[k]:=by rw[List.head?_drop,List.getElem?_eq_getElem hlt]
   refine⟨λh2=>?_,λh2=>?_⟩
   ·rw[hp,if_pos (by rw[hh];simpa using h2)]
   ·rw[if_neg (by rw[hh];simpa using h2)]at hp;refine frzD 0 ?_;refine Y1 ?_;refine drawn Yz ?_;refine Y2 hk ?_;refine zbj (Y3 hk) ?_;refine Y2 hk ?_;refine zg5 true (Xl hk hm1 hm2 hm3) ?_;refine Xm hk hm1 hm2 hm3 ?_;refine zbj (Y3 hk) ?_;refine Y2 hk ?_;refine zg5 true (Xl hk hm1 hm2 hm3) ?_;refine Xm hk hm1 hm2 hm3 ?_;refine zg5 true (Xl hk hm1 hm2 hm3) ?_;refine Xm hk hm1 hm2 hm3 ?_;refine⟨Yz,?_⟩;rw[hp];simp
  ·refine Vd ?_;have hp:=qhw hk hr (λh=>absurd h hlt);rw[if_neg (by rw[Q0 Y0];simp)]at hp;refine frzD 0 ?_;refine Y1 ?_;refine drawn Yz ?_;refine Y2 hk ?_;refine zbj (Y3 hk) ?_;refine Y2 hk ?_;refine zg5 true (Xl hk hm1 hm2 hm3) ?_;refine Xm hk hm1 hm2 hm3 ?_;refine zbj (Y3 hk) ?_;refine Y2 hk ?_;refine zg5 true (Xl hk hm1 hm2 hm3) ?_;refine Xm hk hm1 hm2 hm3 ?_;refine zg5 true (Xl hk hm1 hm2 hm3) ?_;refine Xm hk hm1 hm2 hm3 ?_;refine⟨Yz,?_⟩;rw[hp];simp
end Go.Proofs.YtnemmlahbbbobaaGreat
namespace Go.Proofs.YtnemmlahbbbobaaGreat
set_option linter.unusedSimpArgs false
set_option linter.unusedVariables false
set_option linter.unusedSectionVars false
set_option maxRecDepth 4000
open Go.RowKit
def voI:Tm->List Str:=Tm.fold λn xs rs=>if(decide (xs.length=0)&&zn0 (n.getD 0 0))=true then [n]else rs.flatten
theorem qkh (a:Tm):voI a=if(decide (a.args.length=0)&&zn0 (a.name.getD 0 0))=true then [a.name]else (a.args.map voI).flatten:=Tm.fold_eq _ a
def voS:Tm->List Str:=Tm.fold λn _ rs=>if za9 n=true then [n]else rs.flatten
theorem zsa (a:Tm):voS a=if za9 a.name=true then [a.name]else (a.args.map voS).flatten:=Tm.fold_eq _ a
def Tm.ne:Tm->Bool:=Tm.fold λn xs rs=>(!decide (xs.length=0)||decide (0<n.length))&&rs.all id
theorem Tm.ne_eq' (a:Tm):a.ne=((!decide (a.args.length=0)||decide (0<a.name.length))&&a.args.all Tm.ne):=by
 unfold Tm.ne
 rw[Tm.fold_eq]
 simp only[J8]
 rfl
def zw5 (l:List Str)(s:Str):List Str:=if l.contains s=true then l else l++[s]
def zdk (l:List Str)(ss:List Str):List Str:=ss.foldl zw5 l
theorem qnp (l:List Str)(s:Str):(zw5 l s).length<=l.length+1:=by unfold zw5;split<;>simp
theorem ze5:∀(ss:List Str)(l:List Str),(zdk l ss).length<=l.length+ss.length
 | [],l=>by simp[zdk]
 | s::ss,l=>by have:=ze5 ss (zw5 l s);have:=qnp l s;simp only[zdk,J6,Qg]at *;omega
theorem zjs (l a b:List Str):zdk l (a++b)=zdk (zdk l a) b:=List.foldl_append ..
theorem qms (l:List Str)(s x:Str):x∈zw5 l s↔x=s\/x∈l:=by
 unfold zw5
 split
 ·rename_i h;have h:s∈l:=by simpa using h
  exact⟨Or.inr,λk=>k.elim (λe=>e▸h) id⟩
 ·simp[or_comm]
theorem zr9:∀(ss l:List Str)(x:Str),x∈zdk l ss↔x∈ss\/x∈l
 | [],l,x=>by simp[zdk]
 | s::ss,l,x=>by
  show x∈zdk (zw5 l s) ss↔_
  rw[zr9 ss,qms];simp[or_assoc,or_left_comm,or_comm]
theorem qt9 {l:List Str}(h:l.Nodup)(s:Str):(zw5 l s).Nodup:=by
 unfold zw5
 split
 ·exact h
 ·rename_i hn;have hn:s∉l:=by simpa using hn
  exact Kg.2 ⟨h,by simp,λa ha b hb e=>hn (by rw[Q4.1 hb]at e;exact e▸ha)⟩
theorem qaj:∀(ss:List Str){l:List Str},l.Nodup->(zdk l ss).Nodup
 | [],_,h=>h
 | s::ss,_,h=>qaj ss (qt9 h s)
def zbk (l:List Str)(ss:List Str):List Str:=ss.foldl zzq l
theorem zzm (l:List Str)(s:Str):(zzq l s).length<=l.length+1:=by
 unfold zzq
 split
 ·omega
 ·have:l.length=((l.takeWhile λx=>Op.bytesLess x s)++l.dropWhile λx=>Op.bytesLess x s).length:=by rw[List.takeWhile_append_dropWhile]
  simp only[Qy,Qg,Qs]at *;omega
theorem zeh:∀(ss:List Str)(l:List Str),(zbk l ss).length<=l.length+ss.length
 | [],l=>by simp[zbk]
 | s::ss,l=>by have:=zeh ss (zzq l s);have:=zzm l s;simp only[zbk,J6,Qg]at *;omega
theorem ziy (l a b:List Str):zbk l (a++b)=zbk (zbk l a) b:=List.foldl_append ..
theorem zmo:∀(ss l:List Str)(x:Str),x∈zbk l ss↔x∈ss\/x∈l
 | [],l,x=>by simp[zbk]
 | s::ss,l,x=>by
  show x∈zbk (zzq l s) ss↔_
  rw[zmo ss,qp2];simp[or_assoc,or_left_comm,or_comm]
theorem zto:∀(ss:List Str){l:List Str},Srt l->Srt (zbk l ss)
 | [],_,h=>h
 | s::ss,_,h=>zto ss (qp9 h s)
theorem zy0 (ss:List Str):zk8 (zdk [] ss)=zbk [] ss :=
 qun (qlh (qaj ss Kr)) (zto ss List.Pairwise.nil) λs=>by rw[qg2,zr9,zmo]
theorem qu4 (a:Tm)(h:0<a.name.length):FC Tryz.prog 217 [tmD a] [bD (zn0 (a.name.getD 0 0))]:=by
 simp only[tmD,zab]
 refine zae Tryz.call217 Tryz.func217 rfl Yz (zao Yz) ?_
 simp -implicitDefEqProofs only[go_sem,Tryz.results217]
 have h0:(0:Int)<a.name.length:=by omega
 refine Ze h0 h ?_
 refine callF (zs8 (a.name.getD 0 0)) Yy ?_
 exact Yy
theorem zdq {α:Type}(f:α->List Str)(xs:List α)(k:Nat)(h:k<xs.length):((xs.take (k+1)).map f).flatten=((xs.take k).map f).flatten++f xs[k]:=by
 rw[Qn h,Q1,Yd];simp
theorem zwx {α:Type}(f:α->List Str):∀(xs:List α),∀x∈xs,(f x).length<=((xs.map f).flatten).length
 | [],x,h=>by simp at h
 | a::xs,x,h=>by
  rcases Qu.1 h with rfl|h
  ·simp
  ·have:=zwx f xs x h;simp at *;omega
theorem zco {α:Type}(f:α->List Str)(xs:List α)(k:Nat)(h:k<xs.length):(((xs.take k).map f).flatten).length+(f xs[k]).length<=((xs.map f).flatten).length:=by
 have e:xs=xs.take k++xs[k]::xs.drop (k+1):=by rw[<-Qm h,Jh]
 conv=>rhs;rw[e]
 simp only[Q1,Qc,Yd,Ki,Qy];omega
set_option maxHeartbeats 1000000 in
theorem qbj (a:Tm)(ha:a.ne=true)(H:∀x∈a.args,∀ys:List Str,ys.length+(voI x).length<=1073741824->GC Tryz.prog 204 [(true,.one (zdl ys)),(false,tmD x)] [.one (zdl (zdk ys (voI x)))])
  (ys:List Str) (hs:ys.length+(voI a).length<=1073741824) (hl:a.args.length<=1099511627776):GC Tryz.prog 204 [(true,.one (zdl ys)),(false,tmD a)] [.one (zdl (zdk ys (voI a)))]:=by
 have hv:=qkh a
 rw[Tm.ne_eq']at ha
 simp only[tmD,zab]
 refine zz6 Tryz.call204 Tryz.func204 rfl Yz (by simp only[Qg,Qs,Tryz.ntmps204];omega) (by simp[zcj,T.isPin]) ?_
 simp -implicitDefEqProofs only[go_sem,Tryz.results204]
 by_cases h0:a.args.length=0
 ·have hn:0<a.name.length:=by simp[h0]at ha;omega
  have e0:((a.args.length:Int)==0)=true:=by simp[h0]
  have hV:=qu4 a hn;simp only[tmD,zab]at hV;refine Y2 e0 ?_;refine callF (hV) Yy ?_;refine Y1 ?_;refine⟨λh1=>?_,λh1=>?_⟩
  ·rw[h1,show decide (a.args.length=0)=true by simpa using h0,Qv,if_pos rfl]at hv;rw[hv]at hs⊢;refine callF (zc8 ys a.name) Yy ?_;refine Y1 ?_;have hy:ys.length+1<=4294967296:=by simp at hs;omega
   have hy2:ys.length<=4294967295:=by simp at hs;omega
   refine⟨λh2=>?_,λh2=>?_⟩
   ·have h2:ys.contains a.name=false:=by simpa using h2
    refine zbg Yy ?_;refine Y1 ?_;refine apD true (by simp -implicitDefEqProofs only[go_sem,hy,hy2,ne_eq,Qa]) ?_;simp -implicitDefEqProofs only[go_sem,hy,hy2,ne_eq,Qa];have e:zdk ys [a.name]=ys++[a.name]:=by show zw5 ys a.name=_;unfold zw5;rw[h2];simp
    exact Or.inl (by rw[e];simp)
   ·have h2:ys.contains a.name=true:=by simpa using h2
    have e:zdk ys [a.name]=ys:=by show zw5 ys a.name=_;unfold zw5;rw[h2];simp
    exact Or.inl (by rw[e])
  ·rw[h1,Ke,if_neg (by simp),Kf.1 h0,Qi,List.flatten_nil]at hv;have hv:voI a=(a.args.map voI).flatten:=by rw[hv,Kf.1 h0];rfl
   rw[hv]at hs⊢;refine zah (λk:Nat=>hd [(0,.one (.ow 0 0)),(27,.one (.rn (tmS a.args))),(28,vI a.args.length),(29,vI k)] [] [(0,⟨true,1,(zdk ys ((a.args.take k).map voI).flatten).map λs=>[.str s],0,true⟩)]) (λk=>k<=a.args.length) (λk=>a.args.length-k) 0 (zad ?_) (Kc _) ?_
   ·refine Y1 ?_;rfl
   ·intro k hk;by_cases hlt:k<a.args.length
    ·have hf:=zco voI a.args k hlt;have hL:=ze5 ((a.args.take k).map voI).flatten ys;have hx:=zwx voI a.args _ (Qk hlt);have HC:=H a.args[k] (Qk hlt) (zdk ys ((a.args.take k).map voI).flatten) Y0;rw[<-zjs,<-zdq voI a.args k hlt]at HC;simp only[tmD,zab a.args[k]]at HC;refine Zc hlt (zab a.args[k]) ?_;refine zem [27,28,29] [33,34] [] (HC) Yy Yy Yy Yy ?_;refine Y1 ?_;refine⟨k+1,hlt,Y0,zev 0 1120 ?_⟩;refine Y1 ?_;rw[zaq Y0]
    ·refine Vd ?_;exact Or.inl (by rw[Qr Y0])
 ·have e0:((a.args.length:Int)==0)=false:=by simp[h0]
  rw[show decide (a.args.length=0)=false by simpa using h0,Qx,if_neg (by simp)]at hv;rw[hv]at hs⊢;refine Y2 e0 ?_;refine zah (λk:Nat=>hd [(0,.one (.ow 0 0)),(27,.one (.rn (tmS a.args))),(28,vI a.args.length),(29,vI k)] [] [(0,⟨true,1,(zdk ys ((a.args.take k).map voI).flatten).map λs=>[.str s],0,true⟩)]) (λk=>k<=a.args.length) (λk=>a.args.length-k) 0 (zad ?_) (Kc _) ?_
  ·refine Y1 ?_;rfl
  ·intro k hk;by_cases hlt:k<a.args.length
   ·have hf:=zco voI a.args k hlt;have hL:=ze5 ((a.args.take k).map voI).flatten ys;have hx:=zwx voI a.args _ (Qk hlt);have HC:=H a.args[k] (Qk hlt) (zdk ys ((a.args.take k).map voI).flatten) Y0;rw[<-zjs,<-zdq voI a.args k hlt]at HC;simp only[tmD,zab a.args[k]]at HC;refine Zc hlt (zab a.args[k]) ?_;refine zem [27,28,29] [33,34] [] (HC) Yy Yy Yy Yy ?_;refine Y1 ?_;refine⟨k+1,hlt,Y0,zev 0 1120 ?_⟩;refine Y1 ?_;rw[zaq Y0]
   ·refine Vd ?_;exact Or.inl (by rw[Qr Y0])
theorem qfa:∀a:Tm,a.ne=true->a.wt<=1099511627776->∀ys:List Str,ys.length+(voI a).length<=1073741824->GC Tryz.prog 204 [(true,.one (zdl ys)),(false,tmD a)] [.one (zdl (zdk ys (voI a)))] :=
 zb3 λn xs ih ha hw ys hs=>qbj (.mk n xs) ha (λx hx ys hs=>ih x hx (by rw[Tm.ne_eq',Qb]at ha;exact Qq.1 ha.2 x hx) (by
  have:=Tm.wt_eq (.mk n xs);have:=zbz Tm.wt xs x hx
  simp only[Tm.args]at *;omega) ys hs) ys hs (by have:=Tm.wt_eq (.mk n xs);omega)
theorem zv9 (a:Tm)(ha:a.ne=true)(hw:a.wt<=1099511627776)(hs:(voI a).length<=1073741824):FC Tryz.prog 197 [tmD a] [.one (zdl (zbk [] (voI a)))]:=by
 have HC:=qfa a ha hw [] (by simpa using hs)
 have HS:=zs5 (zdk [] (voI a)) (by have:=ze5 (voI a) [];simp at this;omega)
 rw[zy0]at HS
 simp only[tmD,zab]at HC⊢
 refine zgr Tryz.call197 Tryz.func197 rfl Yz (zao Yz) ?_
 simp -implicitDefEqProofs only[go_sem,Tryz.results197]
 refine zbg Yy ?_
 refine Y1 ?_
 refine zem [] [4,5] [] (HC) Yy Yy Yy Yy ?_
 refine Y1 ?_
 refine qrs (HS) Xn Xn rfl ?_
 exact Xn
theorem qky (a:Tm)(H:∀x∈a.args,∀ys:List Str,ys.length+(voS x).length<=1073741824->GC Tryz.prog 162 [(true,.one (zdl ys)),(false,tmD x)] [.one (zdl (zbk ys (voS x)))])
  (ys:List Str) (hs:ys.length+(voS a).length<=1073741824) (hl:a.args.length<=1099511627776):GC Tryz.prog 162 [(true,.one (zdl ys)),(false,tmD a)] [.one (zdl (zbk ys (voS a)))]:=by
 have hv:=zsa a
 simp only[tmD,zab]
 refine zz6 Tryz.call162 Tryz.func162 rfl Yz (by simp only[Qg,Qs,Tryz.ntmps162];omega) (by simp[zcj,T.isPin]) ?_
 simp -implicitDefEqProofs only[go_sem,Tryz.results162]
 refine callF (zih a.name) Yy ?_
 refine Y1 ?_
 refine⟨λh=>?_,λh=>?_⟩
 ·rw[if_pos h]at hv;rw[hv]at hs⊢;refine zem [] [9,11] [] (qij ys a.name (by simp at hs;omega)) Yy Yy Yy Yy ?_;refine Y1 ?_;exact Or.inl rfl
 ·rw[h,if_neg (by simp)]at hv;rw[hv]at hs⊢;refine zah (λk:Nat=>hd [(0,.one (.ow 0 0)),(3,.one (.bx 3 0)),(5,vI k)] [(3,[.t (.str a.name),.rn (tmS a.args)])] [(0,⟨true,1,(zbk ys ((a.args.take k).map voS).flatten).map λs=>[.str s],0,true⟩)]) (λk=>k<=a.args.length) (λk=>a.args.length-k) 0 (zad ?_) (Kc _) ?_
  ·refine Y1 ?_;rfl
  ·intro k hk;by_cases hlt:k<a.args.length
   ·have hf:=zco voS a.args k hlt;have hL:=zeh ((a.args.take k).map voS).flatten ys;have HC:=H a.args[k] (Qk hlt) (zbk ys ((a.args.take k).map voS).flatten) Y0;rw[<-ziy,<-zdq voS a.args k hlt]at HC;simp only[tmD,zab a.args[k]]at HC;refine Zc hlt (zab a.args[k]) ?_;refine zem [3,5] [20,25] [] (HC) Yy Yy Yy Yy ?_;refine Y1 ?_;refine⟨k+1,hlt,Y0,zev 0 832 ?_⟩;refine Y1 ?_;rw[zaq Y0]
   ·refine Vd ?_;exact Or.inl (by rw[Qr Y0])
end Go.Proofs.YtnemmlahbbbobaaGreat
namespace Go.Proofs.YtnemmlahbbbobaaGreat
set_option linter.unusedSimpArgs false
set_option linter.unusedVariables false
set_option linter.unusedSectionVars false
set_option maxRecDepth 4000
open Go.RowKit
theorem qou:∀a:Tm,a.wt<=1099511627776->∀ys:List Str,ys.length+(voS a).length<=1073741824->GC Tryz.prog 162 [(true,.one (zdl ys)),(false,tmD a)] [.one (zdl (zbk ys (voS a)))] :=
 zb3 λn xs ih hw ys hs=>qky (.mk n xs) (λx hx ys hs=>ih x hx (Je (zpu (a:=.mk n xs) hx) hw) ys hs) ys hs (by have:=Tm.wt_eq (.mk n xs);omega)
theorem zyj (a:Tm)(hw:a.wt<=1099511627776)(hs:(voS a).length<=1073741824):FC Tryz.prog 136 [tmD a] [.one (zdl (zbk [] (voS a)))]:=by
 have HC:=qou a hw [] (by simpa using hs)
 simp only[tmD,zab]at HC⊢
 refine zgr Tryz.call136 Tryz.func136 rfl Yz (zao Yz) ?_
 simp -implicitDefEqProofs only[go_sem,Tryz.results136]
 refine zbg Yy ?_
 refine Y1 ?_
 refine zem [] [3,4] [] (HC) Yy Yy Yy Yy ?_
 exact Yy
theorem zyy {s:Str}(h:za9 s=true):zn0 (s.getD 0 0)=true/\0<s.length:=by
 unfold za9 at h
 rw[Qb]at h
 cases s with
 | nil=>exact absurd h.2 (by decide)
 | cons b s =>
  have:=zyz (s:=b::s) (by simp);rw[h.1]at this;have:=(Qb _ _).mp this.symm;exact⟨this.1,by simp⟩
theorem up_low {b:UInt8}(h:zhi b=true):zn0 b=false:=by
 unfold zhi zn0 at *
 simp only[Qb,Q2,Bool.and_eq_false_iff,Ju]at *
 omega
theorem zue {s:Str}(h:zdg s=true):zn0 (s.getD 0 0)=false/\0<s.length:=by
 unfold zdg at h
 simp only[Qb]at h
 cases s with
 | nil=>exact absurd h.1.2 (by decide)
 | cons b s =>
  have:=zt6 (s:=b::s) (by simp);rw[h.1.1]at this;have:=(Qb _ _).mp this.symm;exact⟨up_low this.1,by simp⟩
theorem zxl:∀a:Tm,a.names=true->voI a=voS a/\a.ne=true:=zb3 λn xs ih h=>by
 rw[Tm.names_eq]at h
 rw[qkh,zsa,Tm.ne_eq']
 change (if za9 n=true then decide (xs.length=0)else zdg n&&decide (xs.length<=4)&&xs.all Tm.names)=true at h
 change (if(decide (xs.length=0)&&zn0 (n.getD 0 0))=true then [n]else (xs.map voI).flatten)=(if za9 n=true then [n]else (xs.map voS).flatten)/\((!decide (xs.length=0)||decide (0<n.length))&&xs.all Tm.ne)=true
 change ∀x∈xs,_ at ih
 by_cases hv:za9 n=true
 ·rw[if_pos hv]at h⊢;obtain⟨h1,h2⟩:=zyy hv;have h:xs.length=0:=Jc h;have hx:xs=[]:=Kf.1 h;subst hx;rw[h1];exact⟨rfl,by simp[h2]⟩
 ·rw[if_neg hv]at h⊢;simp only[Qb]at h;obtain⟨h1,h2⟩:=zue h.1.1;rw[h1,Ke,if_neg (by simp)];have hI:=λx hx=>ih x hx (Qq.1 h.2 x hx);refine⟨by rw[Kv λx hx=>(hI x hx).1],?_⟩;rw[Qb];exact⟨by simp[h2],Qq.2 λx hx=>(hI x hx).2⟩
theorem qub {a:Tm}(h:a.atomOk=true):voI a=voS a/\a.ne=true:=by
 unfold Tm.atomOk at h
 split at h
 ·rename_i he;have he:a.name=[61]:=by simpa using he
  simp only[Qb,Q2]at h;rw[qkh,zsa,Tm.ne_eq',he];have hI:=λx hx=>zxl x (Qq.1 h.2 x hx);rw[show zn0 (([61]:Str).getD 0 0)=false by decide,show za9 [61]=false by decide,Ke,if_neg (by simp),if_neg (by simp)];refine⟨by rw[Kv λx hx=>(hI x hx).1],?_⟩;rw[Qb];exact⟨by simp,Qq.2 λx hx=>(hI x hx).2⟩
 ·simp only[Qb]at h;have:=h.2;unfold Tm.good at this;rw[Qb]at this;exact zxl a this.2
theorem zg9 {f:Fm}(h:f.here=true)(h3:f.op=3):f.atom.atomOk=true/\f.parts=[]:=by
 unfold Fm.here at h
 rw[h3]at h
 simp only[show((3:Int)==1||(3:Int)==2)=false by decide,show((3:Int)==3)=true by decide,if_true,Qp,if_false,Qb,Q2,Kf]at h
 exact⟨h.1.2,h.1.1⟩
def vf:Fm->List Str->List Str:=Fm.fold λo a v _ rs b=>if(o==3)=true then (zbk [] (voS a)).filter (λs=>!b.contains s)else (rs.map λr=>r (if isQ o=true then b++[v]else b)).flatten
theorem qce (f:Fm)(b:List Str):vf f b=if(f.op==3)=true then (zbk [] (voS f.atom)).filter (λs=>!b.contains s)else (f.parts.map λx=>vf x (if isQ f.op=true then b++[f.var]else b)).flatten:=by
 unfold vf
 rw[Fm.fold_eq]
 simp only[Kw]
 rfl
theorem zrn:∀a:Tm,(voS a).length<=1+a.wt:=zb3 λn xs ih=>by
 rw[zsa,Tm.wt_eq]
 change (if za9 n=true then [n]else (xs.map voS).flatten).length<=1+(n.length+xs.length+(xs.map Tm.wt).sum)
 split
 ·simp
 ·have:((xs.map voS).flatten).length<=xs.length+(xs.map Tm.wt).sum:=by
   revert ih;induction xs with
   | nil=>simp
   | cons x xs ih2 =>
    intro ih;have h1:=ih x (by simp);have h2:=ih2 λy hy=>ih y (by simp[hy]);simp only[Qc,Ki,Qy,Kt,Qg];omega
  omega
theorem qqq:∀(f:Fm)(b:List Str),(vf f b).length<=f.nodes+f.wt:=zck λo a v ps ih b=>by
 rw[qce,Fm.nodes_eq,Fm.wt_eq]
 change (if(o==3)=true then (zbk [] (voS a)).filter (λs=>!b.contains s)else (ps.map λx=>vf x (if isQ o=true then b++[v]else b)).flatten).length<=1+(ps.map Fm.nodes).sum+(a.wt+v.length+ps.length+(ps.map Fm.wt).sum)
 split
 ·have h1:=List.length_filter_le (λs=>!b.contains s) (zbk [] (voS a));have h2:=zeh (voS a) [];have h3:=zrn a;simp only[Qs]at h2;omega
 ·have:∀b,((ps.map λx=>vf x b).flatten).length<=(ps.map Fm.nodes).sum+(ps.map Fm.wt).sum:=λb=>by
   revert ih;induction ps with
   | nil=>simp
   | cons x xs ih2 =>
    intro ih;have h1:=ih x (by simp) b;have h2:=ih2 λy hy=>ih y (by simp[hy]);simp only[Qc,Ki,Qy,Kt];omega
  have:=this (if isQ o=true then b++[v]else b);omega
def zh6 (b l:List Str)(s:Str):List Str:=if(!b.contains s&&!l.contains s)=true then l++[s]else l
theorem zk0 (b:List Str):∀(ss l:List Str),ss.foldl (zh6 b) l=zdk l (ss.filter λs=>!b.contains s)
 | [],l=>rfl
 | s::ss,l=>by
  rw[J6,zk0 b ss,Jo];unfold zh6;by_cases h:b.contains s=true
  ·rw[h];simp
  ·have h:b.contains s=false:=by simpa using h
   rw[h,if_pos (show(!false)=true from rfl)];show _=zdk (zw5 l s) _
   congr 1
   unfold zw5;cases l.contains s<;>rfl
theorem qib {b l:List Str}{s:Str}(h:(!b.contains s)=true)(h2:(!l.contains s)=true):zh6 b l s=l++[s]:=by unfold zh6;rw[h,h2];rfl
theorem qmy {b l:List Str}{s:Str}(h2:(!l.contains s)=false):zh6 b l s=l:=by unfold zh6;rw[h2,Ke];rfl
theorem qtq {b l:List Str}{s:Str}(h:(!b.contains s)=false):zh6 b l s=l:=by unfold zh6;rw[h,Qx];rfl
theorem qkg (b l:List Str)(s:Str):(zh6 b l s).length<=l.length+1:=by unfold zh6;split<;>simp
theorem zpe (b:List Str):∀(ss l:List Str),(ss.foldl (zh6 b) l).length<=l.length+ss.length
 | [],l=>by simp
 | s::ss,l=>by have:=zpe b ss (zh6 b l s);have:=qkg b l s;simp only[J6,Qg]at *;omega
theorem zhh {α β:Type}(g:β->α->β)(xs:List α)(z:β)(k:Nat)(h:k<xs.length):(xs.take (k+1)).foldl g z=g ((xs.take k).foldl g z) xs[k]:=by
 rw[Qn h,List.foldl_append];rfl
set_option maxHeartbeats 2000000 in
theorem qk7 (f:Fm)(hf:f.forms=true)(hw:f.wt<=1048576)(H:∀x∈f.parts,∀ys b:List Str,ys.length+(vf x b).length<=1073741824->b.length+x.nodes<=1073741824->GC Tryz.prog 193 [(true,.one (zdl ys)),(false,fmD x),(false,.one (zdl b))] [.one (zdl (zdk ys (vf x b)))])
  (ys b:List Str) (hs:ys.length+(vf f b).length<=1073741824) (hb:b.length+f.nodes<=1073741824):GC Tryz.prog 193 [(true,.one (zdl ys)),(false,fmD f),(false,.one (zdl b))] [.one (zdl (zdk ys (vf f b)))]:=by
 have hv:=qce f b
 have hN:=f.nodes_eq
 have hW:=f.wt_eq
 rw[Fm.forms_eq,Qb]at hf
 simp only[fmD,zaa]
 refine zz6 Tryz.call193 Tryz.func193 rfl Yz (by simp only[Qg,Qs,Tryz.ntmps193];omega) (by simp[zcj,T.isPin]) ?_
 simp -implicitDefEqProofs only[go_sem,Tryz.results193]
 by_cases h3:f.op=3
 ·obtain⟨ha,hp⟩:=zg9 hf.1 h3;obtain⟨ev,ene⟩:=qub ha;have e3:(f.op==3)=true:=by simp[h3]
  rw[if_pos e3]at hv;have hvl:=zrn f.atom;have HV:=zv9 f.atom ene Y0 (by rw[ev];omega);rw[ev]at HV;have hPl:=zeh (voS f.atom) [];generalize zbk [] (voS f.atom)=V at hv HV hPl;rw[hv,<-zk0 b V ys];simp only[tmD,zab]at HV;refine Y2 e3 ?_;refine qrv (HV) Yy ?_;refine Y1 ?_;refine zah (λk:Nat=>hd [(0,.one (.ow 0 0)),(2,.one (.rn (zdl b))),(16,.one (.rn (zdl V))),(17,vI V.length),(18,vI k)] [] [(0,⟨true,1,((V.take k).foldl (zh6 b) ys).map λs=>[.str s],0,true⟩)]) (λk=>k<=V.length) (λk=>V.length-k) 0 (zad ?_) (Kc _) ?_
  ·refine Y1 ?_;rfl
  ·intro k hk;by_cases hlt:k<V.length
   ·have hL:=zpe b (V.take k) ys;rw[Qo]at hL;have hnx:=zhh (zh6 b) V ys k hlt;simp only[Qs]at hPl;refine Xj hlt ?_;refine callF (zc8 b V[k]) Yy ?_;refine Y1 ?_;refine⟨λh=>?_,λh=>?_⟩
    ·refine callF (zc8 ((V.take k).foldl (zh6 b) ys) V[k]) Yy ?_;refine Y1 ?_;have hy2:((V.take k).foldl (zh6 b) ys).length<=4294967295:=by omega
     refine⟨λh2=>?_,λh2=>?_⟩
     ·refine zbg Yy ?_;refine Y1 ?_;refine apD true (Zk hy2) ?_;refine Zl hy2 ?_;refine⟨k+1,hlt,Y0,zad ?_⟩;refine Y1 ?_;rw[zaq Y0,hnx,qib h h2];exact⟨rfl,by simp⟩
     ·refine⟨k+1,hlt,Y0,zad ?_⟩;refine Y1 ?_;rw[zaq Y0,hnx,qmy h2];exact⟨rfl,rfl⟩
    ·refine⟨k+1,hlt,Y0,zad ?_⟩;refine Y1 ?_;rw[zaq Y0,hnx,qtq h];exact⟨rfl,rfl⟩
   ·refine Vd ?_;exact Or.inl (by rw[Qr Y0])
 ·have e3:(f.op==3)=false:=by simp[h3]
  rw[e3,if_neg (by simp)]at hv;refine Y2 e3 ?_;refine callF (zaw f.op) Yy ?_;refine Y1 ?_;refine⟨λh=>?_,λh=>?_⟩
  ·rw[if_pos h]at hv;rw[hv]at hs⊢;have hb1:b.length<=4294967295:=by omega
   refine drawn Yz ?_;refine Y1 ?_;refine zai (qcf b Y0) Yy ?_;refine Y1 ?_;refine zbj Yy ?_;refine Y1 ?_;refine zg5 true (Zk hb1) ?_;refine Zl hb1 ?_;refine⟨Yz,?_⟩;refine zah (λk:Nat=>hd [(0,.one (.ow 0 0)),(2,.one (.rn (zdl (b++[f.var])))),(48,.one (.rn (fmS f.parts))),(49,vI f.parts.length),(50,vI k)] [] [(0,⟨true,1,(zdk ys ((f.parts.take k).map λx=>vf x ((b++[f.var]))).flatten).map λs=>[.str s],0,true⟩)]) (λk=>k<=f.parts.length) (λk=>f.parts.length-k) 0 (zad ?_) (Kc _) ?_
   ·refine Y1 ?_;exact⟨by simp,rfl⟩
   ·intro k hk;by_cases hlt:k<f.parts.length
    ·have hq:=zco (λx=>vf x ((b++[f.var]))) f.parts k hlt;have hL:=ze5 ((f.parts.take k).map λx=>vf x ((b++[f.var]))).flatten ys;have hnx:=zbz Fm.nodes f.parts _ (Qk hlt);have HC:=H f.parts[k] (Qk hlt) (zdk ys ((f.parts.take k).map λx=>vf x ((b++[f.var]))).flatten) ((b++[f.var])) Y0 (by simp only[Qy,Qg,Qs];omega);rw[<-zjs,<-zdq (λx=>vf x ((b++[f.var]))) f.parts k hlt]at HC;simp only[fmD,zaa f.parts[k]]at HC;refine Vk ?_;refine zem [2,48,49,50] [54,55,56] [] (HC) Yy Yy Yy Yy ?_;refine Y1 ?_;refine⟨k+1,hlt,Y0,zev 0 1824 ?_⟩;refine Y1 ?_;rw[zaq Y0]
    ·refine Vd ?_;exact Or.inl (by rw[Qr Y0])
  ·rw[h,if_neg (by simp)]at hv;rw[hv]at hs⊢;refine zah (λk:Nat=>hd [(0,.one (.ow 0 0)),(2,.one (.rn (zdl b))),(48,.one (.rn (fmS f.parts))),(49,vI f.parts.length),(50,vI k)] [] [(0,⟨true,1,(zdk ys ((f.parts.take k).map λx=>vf x (b)).flatten).map λs=>[.str s],0,true⟩)]) (λk=>k<=f.parts.length) (λk=>f.parts.length-k) 0 (zad ?_) (Kc _) ?_
   ·refine Y1 ?_;rfl
   ·intro k hk;by_cases hlt:k<f.parts.length
    ·have hq:=zco (λx=>vf x (b)) f.parts k hlt;have hL:=ze5 ((f.parts.take k).map λx=>vf x (b)).flatten ys;have hnx:=zbz Fm.nodes f.parts _ (Qk hlt);have HC:=H f.parts[k] (Qk hlt) (zdk ys ((f.parts.take k).map λx=>vf x (b)).flatten) (b) Y0 Y0;rw[<-zjs,<-zdq (λx=>vf x (b)) f.parts k hlt]at HC;simp only[fmD,zaa f.parts[k]]at HC;refine Vk ?_;refine zem [2,48,49,50] [54,55,56] [] (HC) Yy Yy Yy Yy ?_;refine Y1 ?_;refine⟨k+1,hlt,Y0,zev 0 1824 ?_⟩;refine Y1 ?_;rw[zaq Y0]
    ·refine Vd ?_;exact Or.inl (by rw[Qr Y0])
theorem qnx:∀f:Fm,f.forms=true->f.wt<=1048576->∀ys b:List Str,ys.length+(vf f b).length<=1073741824->b.length+f.nodes<=1073741824->GC Tryz.prog 193 [(true,.one (zdl ys)),(false,fmD f),(false,.one (zdl b))] [.one (zdl (zdk ys (vf f b)))] :=
 zck λo a v ps ih hf hw ys b hs hb=>qk7 (.mk o a v ps) hf hw (λx hx ys b hs hb=>ih x hx (by rw[Fm.forms_eq,Qb]at hf;exact Qq.1 hf.2 x hx) (Je (zd3 (a:=.mk o a v ps) hx) hw) ys b hs hb) ys b hs hb
theorem qqf (f:Fm)(hf:f.forms=true)(hw:f.wt<=1048576):FC Tryz.prog 181 [fmD f] [.one (zdl (zbk [] (vf f [])))]:=by
 have h1:=qqq f []
 have h2:=zi7 f
 have HC:=qnx f hf hw [] [] (by simp only[Qs];omega) (by simp only[Qs];omega)
 have HS:=zs5 (zdk [] (vf f [])) (by have:=ze5 (vf f []) [];simp only[Qs]at this;omega)
 rw[zy0]at HS
 simp only[fmD,zaa]at HC⊢
 refine zgr Tryz.call181 Tryz.func181 rfl Yz (zao Yz) ?_
 simp -implicitDefEqProofs only[go_sem,Tryz.results181]
 refine zbg Yy ?_
 refine Y1 ?_
 refine zem [] [4,5] [] (HC) Yy Yy Yy Yy ?_
 refine Y1 ?_
 refine qrs (HS) Xn Xn rfl ?_
 exact Xn
def stepS (b l:List Str)(s:Str):List Str:=if(!b.contains s)=true then zzq l s else l
theorem zk2 (b:List Str):∀(ss l:List Str),ss.foldl (stepS b) l=zbk l (ss.filter λs=>!b.contains s)
 | [],l=>rfl
 | s::ss,l=>by
  rw[J6,zk2 b ss,Jo];unfold stepS;by_cases h:b.contains s=true
  ·rw[h];simp
  ·have h:b.contains s=false:=by simpa using h
   rw[h,if_pos (show(!false)=true from rfl),if_pos (show(!false)=true from rfl)];rfl
theorem qfo (b l:List Str)(s:Str):(stepS b l s).length<=l.length+1:=by
 unfold stepS
 split
 ·exact zzm l s
 ·omega
theorem zov (b:List Str):∀(ss l:List Str),(ss.foldl (stepS b) l).length<=l.length+ss.length
 | [],l=>by simp
 | s::ss,l=>by have:=zov b ss (stepS b l s);have:=qfo b l s;simp only[J6,Qg]at *;omega
theorem qf1 {b l:List Str}{s:Str}(h:(!b.contains s)=true):stepS b l s=zzq l s:=if_pos h
theorem qry {b l:List Str}{s:Str}(h:(!b.contains s)=false):stepS b l s=l:=by unfold stepS;rw[h];rfl
set_option maxHeartbeats 2000000 in
theorem qfx (f:Fm)(hf:f.forms=true)(hw:f.wt<=1048576)(H:∀x∈f.parts,∀ys b:List Str,ys.length+(vf x b).length<=1073741824->b.length+x.nodes<=1073741824->GC Tryz.prog 115 [(true,.one (zdl ys)),(false,fmD x),(false,.one (zdl b))] [.one (zdl (zbk ys (vf x b)))])
  (ys b:List Str) (hs:ys.length+(vf f b).length<=1073741824) (hb:b.length+f.nodes<=1073741824):GC Tryz.prog 115 [(true,.one (zdl ys)),(false,fmD f),(false,.one (zdl b))] [.one (zdl (zbk ys (vf f b)))]:=by
 have hv:=qce f b
 have hN:=f.nodes_eq
 have hW:=f.wt_eq
 rw[Fm.forms_eq,Qb]at hf
 simp only[fmD,zaa]
 refine zz6 Tryz.call115 Tryz.func115 rfl Yz (by simp only[Qg,Qs,Tryz.ntmps115];omega) (by simp[zcj,T.isPin]) ?_
 simp -implicitDefEqProofs only[go_sem,Tryz.results115]
 by_cases h3:f.op=3
 ·obtain⟨ha,hp⟩:=zg9 hf.1 h3;have e3:(f.op==3)=true:=by simp[h3]
  have e8:(f.op==8)=false:=by simp[h3]
  have e9:(f.op==9)=false:=by simp[h3]
  rw[if_pos e3]at hv;have hvl:=zrn f.atom;have HV:=zyj f.atom Y0 Y0;have hPl:=zeh (voS f.atom) [];generalize zbk [] (voS f.atom)=V at hv HV hPl;simp only[Qs]at hPl;rw[hv,<-zk2 b V ys];simp only[tmD,zab]at HV;refine Y2 e3 ?_;refine qrv (HV) Yy ?_;refine Y1 ?_;refine zah (λk:Nat=>hd [(0,.one (.ow 0 0)),(2,.one (.rn (zdl b))),(4,.one (.bx 4 0)),(7,.one (.rn (zdl V))),(8,vI k)] [(4,[.t (.int .i64 f.op),.t (.str f.atom.name),.rn (tmS f.atom.args),.t (.str f.var),.rn (fmS f.parts)])] [(0,⟨true,1,((V.take k).foldl (stepS b) ys).map λs=>[.str s],0,true⟩)]) (λk=>k<=V.length) (λk=>V.length-k) 0 (zad ?_) (Kc _) ?_
  ·refine Y1 ?_;rfl
  ·intro k hk;by_cases hlt:k<V.length
   ·have hL:=zov b (V.take k) ys;rw[Qo]at hL;have hnx:=zhh (stepS b) V ys k hlt;refine Xj hlt ?_;refine callF (zpt b V[k]) Yy ?_;refine Y1 ?_;refine⟨λh=>?_,λh=>?_⟩
    ·refine Xj hlt ?_;refine zem [2,4,7,8] [29,33] [] (qij ((V.take k).foldl (stepS b) ys) V[k] Y0) Yy Yy Yy Yy ?_;refine Y1 ?_;refine⟨k+1,hlt,Y0,zev 0 1088 ?_⟩;refine Y1 ?_;rw[zaq Y0,hnx,qf1 h];exact⟨rfl,rfl⟩
    ·refine⟨k+1,hlt,Y0,zad ?_⟩;refine Y1 ?_;rw[zaq Y0,hnx,qry h];exact⟨rfl,rfl⟩
   ·rw[Qr Y0];have hr:∃R,V.foldl (stepS b) ys=R:=⟨_,rfl⟩;obtain⟨R,hR⟩:=hr;rw[hR];refine Zj hlt e8 e9 ?_;refine zah (λk:Nat=>hd [(0,.one (.ow 0 0)),(2,.one (.rn (zdl b))),(4,.one (.bx 4 0)),(9,vI k)] [(4,[.t (.int .i64 f.op),.t (.str f.atom.name),.rn (tmS f.atom.args),.t (.str f.var),.rn (fmS f.parts)])] [(0,⟨true,1,R.map λs=>[.str s],0,true⟩)]) (λk=>k=0) (λk=>0) 0 (zad ?_) rfl ?_
    ·exact Yy
    ·rintro k rfl;have hp0:f.parts.length=0:=by rw[hp];rfl
     exact Y3 hp0
 ·have e3:(f.op==3)=false:=by simp[h3]
  rw[e3,if_neg (by simp)]at hv;by_cases hq8:isQ f.op=true
  ·rw[if_pos hq8]at hv;rw[hv]at hs⊢;have hb1:b.length<=4294967296:=by omega
   have hb2:b.length<=4294967295:=by omega
   have key:(f.op==8)=true\/((f.op==8)=false/\(f.op==9)=true):=by
    unfold isQ at hq8;cases h8:f.op==8
    ·rw[h8,K0]at hq8;exact Or.inr ⟨rfl,hq8⟩
    ·exact Or.inl rfl
   rcases key with e8|⟨e8,e9⟩
   ·refine Ze e3 e8 ?_;refine drawn Yz ?_;refine Y1 ?_;refine zbj Yy ?_;refine Y1 ?_;refine zg5 true (by simp -implicitDefEqProofs only[go_sem,hb1,zdh,ne_eq,Qa,Q7]) ?_;simp -implicitDefEqProofs only[go_sem,hb1,zdh,ne_eq,Qa,Q7];refine zbj Yy ?_;refine Y1 ?_;refine zg5 true (Zk hb2) ?_;refine Zl hb2 ?_;refine⟨Yz,?_⟩;refine zah (λk:Nat=>hd [(0,.one (.ow 0 0)),(2,.one (.rn (zdl (b++[f.var])))),(4,.one (.bx 4 0)),(9,vI k)] [(4,[.t (.int .i64 f.op),.t (.str f.atom.name),.rn (tmS f.atom.args),.t (.str f.var),.rn (fmS f.parts)])] [(0,⟨true,1,(zbk ys ((f.parts.take k).map λx=>vf x ((b++[f.var]))).flatten).map λs=>[.str s],0,true⟩)]) (λk=>k<=f.parts.length) (λk=>f.parts.length-k) 0 (zad ?_) (Kc _) ?_
    ·refine Y1 ?_;exact⟨by simp,rfl⟩
    ·intro k hk;by_cases hlt:k<f.parts.length
     ·have hq:=zco (λx=>vf x ((b++[f.var]))) f.parts k hlt;have hL:=zeh ((f.parts.take k).map λx=>vf x ((b++[f.var]))).flatten ys;have hnx:=zbz Fm.nodes f.parts _ (Qk hlt);have HC:=H f.parts[k] (Qk hlt) (zbk ys ((f.parts.take k).map λx=>vf x ((b++[f.var]))).flatten) ((b++[f.var])) Y0 (by simp only[Qy,Qg,Qs];omega);rw[<-ziy,<-zdq (λx=>vf x ((b++[f.var]))) f.parts k hlt]at HC;simp only[fmD,zaa f.parts[k]]at HC;refine Vk ?_;refine zem [2,4,9] [57,62,63] [] (HC) Yy Yy Yy Yy ?_;refine Y1 ?_;refine⟨k+1,hlt,Y0,zev 0 2048 ?_⟩;refine Y1 ?_;rw[zaq Y0]
     ·refine Vd ?_;exact Or.inl (by rw[Qr Y0])
   ·refine Zj e3 e8 e9 ?_;refine drawn Yz ?_;refine Y1 ?_;refine zbj Yy ?_;refine Y1 ?_;refine zg5 true (by simp -implicitDefEqProofs only[go_sem,hb1,zdh,ne_eq,Qa,Q7]) ?_;simp -implicitDefEqProofs only[go_sem,hb1,zdh,ne_eq,Qa,Q7];refine zbj Yy ?_;refine Y1 ?_;refine zg5 true (Zk hb2) ?_;refine Zl hb2 ?_;refine⟨Yz,?_⟩;refine zah (λk:Nat=>hd [(0,.one (.ow 0 0)),(2,.one (.rn (zdl (b++[f.var])))),(4,.one (.bx 4 0)),(9,vI k)] [(4,[.t (.int .i64 f.op),.t (.str f.atom.name),.rn (tmS f.atom.args),.t (.str f.var),.rn (fmS f.parts)])] [(0,⟨true,1,(zbk ys ((f.parts.take k).map λx=>vf x ((b++[f.var]))).flatten).map λs=>[.str s],0,true⟩)]) (λk=>k<=f.parts.length) (λk=>f.parts.length-k) 0 (zad ?_) (Kc _) ?_
    ·refine Y1 ?_;exact⟨by simp,rfl⟩
    ·intro k hk;by_cases hlt:k<f.parts.length
     ·have hq:=zco (λx=>vf x ((b++[f.var]))) f.parts k hlt;have hL:=zeh ((f.parts.take k).map λx=>vf x ((b++[f.var]))).flatten ys;have hnx:=zbz Fm.nodes f.parts _ (Qk hlt);have HC:=H f.parts[k] (Qk hlt) (zbk ys ((f.parts.take k).map λx=>vf x ((b++[f.var]))).flatten) ((b++[f.var])) Y0 (by simp only[Qy,Qg,Qs];omega);rw[<-ziy,<-zdq (λx=>vf x ((b++[f.var]))) f.parts k hlt]at HC;simp only[fmD,zaa f.parts[k]]at HC;refine Vk ?_;refine zem [2,4,9] [57,62,63] [] (HC) Yy Yy Yy Yy ?_;refine Y1 ?_;refine⟨k+1,hlt,Y0,zev 0 2048 ?_⟩;refine Y1 ?_;rw[zaq Y0]
     ·refine Vd ?_;exact Or.inl (by rw[Qr Y0])
  ·have hq:isQ f.op=false:=by simpa using hq8
   rw[hq,if_neg (by simp)]at hv;rw[hv]at hs⊢;unfold isQ at hq;rw[Bool.or_eq_false_iff]at hq;obtain⟨e8,e9⟩:=hq;refine Zj e3 e8 e9 ?_;refine zah (λk:Nat=>hd [(0,.one (.ow 0 0)),(2,.one (.rn (zdl b))),(4,.one (.bx 4 0)),(9,vI k)] [(4,[.t (.int .i64 f.op),.t (.str f.atom.name),.rn (tmS f.atom.args),.t (.str f.var),.rn (fmS f.parts)])] [(0,⟨true,1,(zbk ys ((f.parts.take k).map λx=>vf x (b)).flatten).map λs=>[.str s],0,true⟩)]) (λk=>k<=f.parts.length) (λk=>f.parts.length-k) 0 (zad ?_) (Kc _) ?_
   ·refine Y1 ?_;rfl
   ·intro k hk;by_cases hlt:k<f.parts.length
    ·have hq:=zco (λx=>vf x (b)) f.parts k hlt;have hL:=zeh ((f.parts.take k).map λx=>vf x (b)).flatten ys;have hnx:=zbz Fm.nodes f.parts _ (Qk hlt);have HC:=H f.parts[k] (Qk hlt) (zbk ys ((f.parts.take k).map λx=>vf x (b)).flatten) (b) Y0 Y0;rw[<-ziy,<-zdq (λx=>vf x (b)) f.parts k hlt]at HC;simp only[fmD,zaa f.parts[k]]at HC;refine Vk ?_;refine zem [2,4,9] [57,62,63] [] (HC) Yy Yy Yy Yy ?_;refine Y1 ?_;refine⟨k+1,hlt,Y0,zev 0 2048 ?_⟩;refine Y1 ?_;rw[zaq Y0]
    ·refine Vd ?_;exact Or.inl (by rw[Qr Y0])
theorem qnh:∀f:Fm,f.forms=true->f.wt<=1048576->∀ys b:List Str,ys.length+(vf f b).length<=1073741824->b.length+f.nodes<=1073741824->GC Tryz.prog 115 [(true,.one (zdl ys)),(false,fmD f),(false,.one (zdl b))] [.one (zdl (zbk ys (vf f b)))] :=
 zck λo a v ps ih hf hw ys b hs hb=>qfx (.mk o a v ps) hf hw (λx hx ys b hs hb=>ih x hx (by rw[Fm.forms_eq,Qb]at hf;exact Qq.1 hf.2 x hx) (Je (zd3 (a:=.mk o a v ps) hx) hw) ys b hs hb) ys b hs hb
theorem zlo (f:Fm)(hf:f.forms=true)(hw:f.wt<=1048576):FC Tryz.prog 93 [fmD f] [.one (zdl (zbk [] (vf f [])))]:=by
 have h1:=qqq f []
 have h2:=zi7 f
 have HC:=qnh f hf hw [] [] (by simp only[Qs];omega) (by simp only[Qs];omega)
 simp only[fmD,zaa]at HC⊢
 refine zgr Tryz.call93 Tryz.func93 rfl Yz (zao Yz) ?_
 simp -implicitDefEqProofs only[go_sem,Tryz.results93]
 refine zbg Yy ?_
 refine Y1 ?_
 refine zbg Yy ?_
 refine Y1 ?_
 refine frzO 160 rfl rfl ?_
 refine Y1 ?_
 refine zem [] [3,4,5] [] (HC) Xs Xs Xs Xs ?_
 exact Xs
end Go.Proofs.YtnemmlahbbbobaaGreat
namespace Go.Proofs.YtnemmlahbbbobaaGreat
set_option linter.unusedSimpArgs false
set_option linter.unusedVariables false
set_option linter.unusedSectionVars false
set_option maxRecDepth 4000
open Go.RowKit
theorem qf6 (s:Str):FC Tryz.prog 216 [sD s] [bD false]:=by
 refine zae Tryz.call216 Tryz.func216 rfl Yz (zao Yz) ?_
 simp -implicitDefEqProofs only[go_sem,Tryz.results216]
 simp
def cmpI (s t:Str):Int:=if Op.bytesLess s t=true then -1 else if(s==t)=true then 0 else 1
theorem qnf (s t:Str):FC Tryz.prog 203 [sD s,sD t] [iD (cmpI s t)]:=by
 have hc:cmpI s t=if Op.bytesLess s t=true then -1 else if(s==t)=true then 0 else 1:=rfl
 refine zae Tryz.call203 Tryz.func203 rfl Yz (zao Yz) ?_
 simp -implicitDefEqProofs only[go_sem,Tryz.results203]
 refine callF (qf6 s) Yy ?_
 refine Y1 ?_
 refine callF (qf6 t) Yy ?_
 refine Y1 ?_
 refine⟨λh=>by rw[hc,if_pos h],λh=>⟨λh2=>?_,λh2=>?_⟩⟩
 ·rw[h,K0,J4]at h2;rw[hc,h,h2];rfl
 ·rw[h,K0,Bool.not_eq_false']at h2;rw[hc,h,h2];rfl
def bnC (p:Str×Tm):List T:=.str p.1::tmC p.2
def sbS (l:List (Str×Tm)):T:=.sl 3 (l.map bnC)
theorem zhg (n:Str)(t:Tm):bnC (n,t)=[.str n,.str t.name,.sl 2 (t.args.map tmC)]:=by unfold bnC;rw[zab]
theorem qhc (n:Str)(t:Tm)(x:Str):FC Tryz.prog 202 [.agg (bnC (n,t)),sD x] [iD (cmpI n x)]:=by
 rw[zhg]
 refine zae Tryz.call202 Tryz.func202 rfl Yz (zao Yz) ?_
 simp -implicitDefEqProofs only[go_sem,Tryz.results202]
 refine callF (qnf n x) Yy ?_
 exact Yy
theorem zy4 (n:Str)(t:Tm)(x:Str):FC Tryz.prog 201 [.one (sbS [(n,t)]),sD x,.one (.fn 202 [])] [iD (if Op.bytesLess n x=true then 1 else 0),bD (n==x)]:=by
 have H:=qhc n t x
 have hS:sbS [(n,t)]=.sl 3 [bnC (n,t)]:=rfl
 rw[hS]
 rw[zhg]at H⊢
 have hc:cmpI n x=if Op.bytesLess n x=true then -1 else if(n==x)=true then 0 else 1:=rfl
 refine zae Tryz.call201 Tryz.func201 rfl Yz (zao Yz) ?_
 simp -implicitDefEqProofs only[go_sem,Tryz.results201]
 refine zah (λp:Nat×Nat=>hd [(0,vT (.sl 3 [[.str n,.str t.name,.sl 2 (t.args.map tmC)]])),(1,vT (.str x)),(2,vT (.fn 202 [])),(8,vI (1:Nat)),(9,vI p.1),(10,vI p.2)] [] []) (λp=>p=(0,1)\/(p=(1,1)/\Op.bytesLess n x=true)\/(p=(0,0)/\Op.bytesLess n x=false)) (λp=>p.2-p.1) (0,1) (zad ?_) (Or.inl rfl) ?_
 ·exact Yy
 ·rintro p (rfl|⟨rfl,hl⟩|⟨rfl,hl⟩)
  ·have hz:(IntKind.u64.wrap (IntKind.i64.wrap 1)).fdiv (2^min 1 64)=0:=by decide
   have hz2:IntKind.i64.wrap 0=0:=by decide
   refine Ze hz hz2 ?_;refine callF (H) Yy ?_;refine Y1 ?_;cases hl:Op.bytesLess n x
   ·have hi:decide (cmpI n x<0)=false:=by rw[hc,hl];cases n==x<;>rfl
    refine Y2 hi ?_;refine⟨(0,0),Or.inr (Or.inr rfl),by decide,zad ?_⟩;exact Yy
   ·have hi:decide (cmpI n x<0)=true:=by rw[hc,hl];rfl
    have hz3:IntKind.i64.wrap 1=1:=by decide
    refine Y2 hi ?_;refine⟨(1,1),Or.inr (Or.inl rfl),by decide,zad ?_⟩;exact Y3 hz3
  ·rw[if_pos hl];refine Y1 ?_;have:(n==x)=false:=by
    rw[Jd];rintro rfl;rw[zqv,Q2]at hl;exact zrc n hl
   rw[this]
  ·rw[hl,if_neg (by simp)];refine Y1 ?_;refine callF (H) Yy ?_;refine Y1 ?_;rw[hc,hl];cases n==x<;>rfl
theorem qck (n:Str)(t:Tm):XC Tryz.prog 196 [(false,.agg [sbS [(n,t)]]),(false,sD n)] [(false,tmD t),(true,bD true)]:=by
 have H:=zy4 n t n
 rw[show Op.bytesLess n n=false by rw[zqv,Ju];exact zrc n,Q3]at H
 have hS:sbS [(n,t)]=.sl 3 [bnC (n,t)]:=rfl
 rw[hS,zhg]at H⊢
 simp only[tmD,zab]
 refine XC_of Tryz.call196 Tryz.func196 rfl Yz (by simp only[Qg,Qs,Tryz.ntmps196];omega) (by simp[zcj,T.isPin]) ?_
 simp -implicitDefEqProofs only[go_sem,Tryz.results196]
 refine callF (H) Yy ?_
 exact Yy
theorem qdh (n:Str)(t:Tm)(x:Str)(h:(n==x)=false):XC Tryz.prog 196 [(false,.agg [sbS [(n,t)]]),(false,sD x)] [(false,tmD (.mk [] [])),(true,bD false)]:=by
 have H:=zy4 n t x
 rw[h]at H
 have hS:sbS [(n,t)]=.sl 3 [bnC (n,t)]:=rfl
 rw[hS,zhg]at H⊢
 simp only[tmD,zab]
 refine XC_of Tryz.call196 Tryz.func196 rfl Yz (by simp only[Qg,Qs,Tryz.ntmps196];omega) (by simp[zcj,T.isPin]) ?_
 simp -implicitDefEqProofs only[go_sem,Tryz.results196]
 refine callF (H) Yy ?_
 refine Y1 ?_
 exact Or.inl ⟨rfl,rfl⟩
def zgt (n:Str)(t:Tm):Tm->Tm:=Tm.fold λm _ rs=>if rs.length=0 then (if(n==m)=true then t else .mk m [])else .mk m rs
theorem zj7 (n:Str)(t a:Tm):zgt n t a=if a.args.length=0 then (if(n==a.name)=true then t else .mk a.name [])else .mk a.name (a.args.map (zgt n t)):=by
 unfold zgt
 rw[Tm.fold_eq]
 simp only[Qa]
theorem qlr (n:Str)(t:Tm)(ht:t.wt<=1048576)(a:Tm)(ha:a.args.length<=1048576)(H:∀x∈a.args,FC Tryz.prog 191 [.agg [sbS [(n,t)]],tmD x] [tmD (zgt n t x)]):FC Tryz.prog 191 [.agg [sbS [(n,t)]],tmD a] [tmD (zgt n t a)]:=by
 have hv:=zj7 n t a
 have HY:=qck n t
 have HN:=qdh n t
 have HK:=zft t ht
 have hS:sbS [(n,t)]=.sl 3 [bnC (n,t)]:=rfl
 rw[hS,zhg]at HY HN H⊢
 by_cases h0:a.args.length=0
 ·rw[if_pos h0]at hv;cases hn:n==a.name
  ·have HN:=HN a.name hn;rw[hn,if_neg (by simp)]at hv;rw[hv];have HN:XC Tryz.prog 196 [(false,.agg [.sl 3 [[.str n,.str t.name,.sl 2 (t.args.map tmC)]]]),(false,sD a.name)] [(false,.agg [.str [],.sl 2 []]),(true,bD false)]:=HN;have e1:tmD (.mk a.name [])=.agg [.str a.name,.sl 2 []]:=rfl;rw[e1];simp only[tmD,zab a];refine zgr Tryz.call191 Tryz.func191 rfl Yz (zao Yz) ?_;simp -implicitDefEqProofs only[go_sem,Tryz.results191,h0];refine qqy [3,4] [15,17] [] (HN) Yy Yy Yy Yy ?_;exact Yy
  ·have hn':n=a.name:=by simpa using hn
   rw[hn,if_pos rfl]at hv;rw[hv];rw[hn']at HY⊢;simp only[tmD,zab]at HY HK⊢;refine zgr Tryz.call191 Tryz.func191 rfl Yz (zao Yz) ?_;simp -implicitDefEqProofs only[go_sem,Tryz.results191,h0];refine qqy [3,4] [15,17] [] (HY) Yy Yy Yy Yy ?_;refine Y1 ?_;refine callF (HK) Yy ?_;exact Yy
 ·have hb:((a.args.length:Int)==0)=false:=by
   rw[Jd];omega
  rw[if_neg h0]at hv;rw[hv];have e1:tmD (.mk a.name (a.args.map (zgt n t)))=.agg [.str a.name,.sl 2 (a.args.map λx=>tmC (zgt n t x))]:=by unfold tmD;rw[zab];simp only[Tm.name,Tm.args,Kw,J0]
  rw[e1];simp only[tmD,zab a]at H⊢;refine zae Tryz.call191 Tryz.func191 rfl Yz (zao Yz) ?_;simp -implicitDefEqProofs only[go_sem,Tryz.results191,hb];refine drawn Yz ?_;refine Y1 ?_;refine dMakeD (by simp -implicitDefEqProofs only[go_sem];omega) ?_;refine Y1 ?_;refine⟨Yz,?_⟩;refine zah (λk:Nat=>hd [(2,.one (.bx 2 0)),(4,.one (.bx 4 0)),(7,.one (.bx 7 0)),(35,vT (tmS a.args)),(36,vI a.args.length),(37,vI k)] [(2,[.t (.sl 3 [[.str n,.str t.name,.sl 2 (t.args.map tmC)]])]),(4,[.t (.str []),.nl 2]),(7,[.t (.str a.name),.ow 1024 0])] [(1024,⟨true,2,((a.args.take k).map λx=>tmC (zgt n t x))++List.replicate (a.args.length-k) [.str [],.sl 2 []],0,true⟩)]) (λk=>k<=a.args.length) (λk=>a.args.length-k) 0 (zad ?_) (Kc _) ?_
  ·refine Y1 ?_;simp
  ·intro k hk;by_cases hlt:k<a.args.length
   ·have hlen:((a.args.take k).map (λx=>tmC (zgt n t x))++List.replicate (a.args.length-k) [T.str [],T.sl 2 []]).length=a.args.length:=by simp;omega
    have HC:=H a.args[k] (Qk hlt);have hlt2:k<k+(a.args.length-k):=by omega
    simp only[zab a.args[k],zab (zgt n t a.args[k])]at HC;refine Zi hlt (zab a.args[k]) ?_;refine drawn Yz ?_;refine Y1 ?_;refine zai (HC) (by simp -implicitDefEqProofs only[go_sem,hlen,hlt,Qy,Qa,Qo,Jb,Jm hk,hlt2]) ?_;simp -implicitDefEqProofs only[go_sem,hlen,hlt,Qy,Qa,Qo,Jb,Jm hk,hlt2];refine znr (by simp -implicitDefEqProofs only[go_sem];simp) ?_;refine Y1 ?_;refine⟨Yz,k+1,hlt,Y0,zad ?_⟩;refine Y1 ?_;have hf:=zhj ((a.args.take k).map λx=>tmC (zgt n t x)) a.args.length k [T.str [],T.sl 2 []] (tmC (zgt n t a.args[k])) (by simp;omega) hlt (by simp[zab]);rw[zaq Y0,<-zab (zgt n t a.args[k]),hf,Qn hlt,Q1,Q6];exact⟨rfl,rfl⟩
   ·have ht:a.args.take k=a.args:=Qr Y0;refine Ze hlt ht ?_;simp[show a.args.length-k=0 by omega]
theorem qv2 (n:Str)(t:Tm)(ht:t.wt<=1048576):∀a:Tm,a.wt<=1048576->FC Tryz.prog 191 [.agg [sbS [(n,t)]],tmD a] [tmD (zgt n t a)] :=
 zb3 λm xs ih hs=>by
  obtain⟨h1,h2⟩:=Tm.wt_args hs;exact qlr n t ht (.mk m xs) h1 λx hx=>ih x hx (h2 x hx)
def zjq (n:Str):Tm->Nat:=Tm.fold λm _ rs=>(if(m==n)=true then 1 else 0)+rs.sum
theorem zwt (n:Str)(a:Tm):zjq n a=(if(a.name==n)=true then 1 else 0)+(a.args.map (zjq n)).sum:=by unfold zjq;rw[Tm.fold_eq]
theorem qaz (n:Str):∀a:Tm,zjq n a<=a.nodes:=zb3 λm xs ih=>by
 rw[zwt,Tm.nodes_eq]
 have:(xs.map (zjq n)).sum<=(xs.map Tm.nodes).sum:=by
  revert ih;induction xs with
  | nil=>simp
  | cons x xs ih2 =>
   intro ih;have h1:=ih x (by simp);have h2:=ih2 λy hy=>ih y (by simp[hy]);simp only[Qc,Kt];omega
 show(if(m==n)=true then 1 else 0)+(xs.map (zjq n)).sum<=1+(xs.map Tm.nodes).sum
 split<;>omega
theorem zs9 (n:Str)(a:Tm)(ha:a.wt<=1099511627776)(H:∀x∈a.args,FC Tryz.prog 195 [tmD x,sD n] [iD (zjq n x)]):FC Tryz.prog 195 [tmD a,sD n] [iD (zjq n a)]:=by
 have hv:=zwt n a
 have hN:=zgo a
 have hNe:=a.nodes_eq
 have hle:=qaz n a
 simp only[tmD,zab a]
 refine zae Tryz.call195 Tryz.func195 rfl Yz (zao Yz) ?_
 simp -implicitDefEqProofs only[go_sem,Tryz.results195]
 obtain⟨z,hz⟩:∃z:Nat,(if(a.name==n)=true then 1 else 0)=z:=⟨_,rfl⟩
 rw[hz]at hv
 cases hn:a.name==n
 all_goals
  rw[hn]at hz;simp only[Qp,if_true,if_false]at hz;refine Y2 hn ?_;refine zah (λk:Nat=>hd [(1,vT (.str n)),(5,vI (z+((a.args.take k).map (zjq n)).sum:Nat)),(13,vT (tmS a.args)),(14,vI a.args.length),(15,vI k)] [] []) (λk=>k<=a.args.length) (λk=>a.args.length-k) 0 (zad ?_) (Kc _) ?_
  ·refine Y1 ?_;subst hz;rfl
  ·intro k hk;by_cases hlt:k<a.args.length
   ·have HC:=H a.args[k] (Qk hlt);simp only[tmD,zab a.args[k]]at HC;have hsm:((a.args.take (k+1)).map (zjq n)).sum=((a.args.take k).map (zjq n)).sum+zjq n a.args[k]:=by rw[Qn hlt,Q1,List.sum_append,Q6,List.sum_singleton]
    have hle2:((a.args.take (k+1)).map (zjq n)).sum<=(a.args.map (zjq n)).sum:=by
     have:=congrArg (λl=>(l.map (zjq n)).sum) (Jh (k+1) a.args);simp only[Q1,List.sum_append]at this;omega
    have hlen:a.args.length<=a.wt:=by have:=a.wt_eq;omega
    refine Zc hlt (zab a.args[k]) ?_;refine callF (HC) Yy ?_;refine Y1 ?_;refine⟨k+1,hlt,Y0,zad ?_⟩;refine Y1 ?_;rw[zaq Y0,za4 Y0 Y0,hsm];exact⟨by congr 1;omega,rfl⟩
   ·refine Vd ?_;rw[hv,Qr Y0]
theorem zwk (n:Str):∀a:Tm,a.wt<=1099511627776->FC Tryz.prog 195 [tmD a,sD n] [iD (zjq n a)] :=
 zb3 λm xs ih hs=>zs9 n (.mk m xs) hs λx hx=>ih x hx (Je (zpu (a:=.mk m xs) hx) hs)
theorem qo9 (n:Str)(a:Tm)(hs:a.wt<=1099511627776):FC Tryz.prog 189 [sD n,tmD a] [bD (decide (0<zjq n a))]:=by
 have H:=zwk n a hs
 simp only[tmD,zab]at H⊢
 have e:decide ((0:Int)<(zjq n a:Int))=decide (0<zjq n a):=by rw[Kp,Q2,Q2];omega
 refine zae Tryz.call189 Tryz.func189 rfl Yz (zao Yz) ?_
 simp -implicitDefEqProofs only[go_sem,Tryz.results189]
 refine callF (H) Yy ?_
 refine Y1 ?_
 rw[e]
end Go.Proofs.YtnemmlahbbbobaaGreat
namespace Go.Proofs.YtnemmlahbbbobaaGreat
set_option linter.unusedSimpArgs false
set_option linter.unusedVariables false
set_option linter.unusedSectionVars false
set_option maxRecDepth 4000
open Go.RowKit
theorem zw1 {a:Tm}(h:a.none=true):a=.mk [] []:=by
 obtain⟨n,xs⟩:=a
 simp only[Tm.none,Tm.name,Tm.args,Qb,Q9,Q2,Kf]at h
 rw[h.1,h.2]
theorem len1 {α:Type}{xs:List α}(h:xs.length=1):∃x,xs=[x]:=by
 match xs,h with
 | [x],_=>exact⟨x,rfl⟩
theorem len2 {α:Type}{xs:List α}(h:xs.length=2):∃x y,xs=[x,y]:=by
 match xs,h with
 | [x,y],_=>exact⟨x,y,rfl⟩
theorem qk1 (o:Int)(a:Tm)(v:Str)(ps:List Fm):Fm.here (.mk o a v ps) =
  if(o==1||o==2)=true then decide (ps.length=0)&&a.none&&(v==[])
  else if(o==3)=true then decide (ps.length=0)&&a.atomOk&&(v==[])
  else if(o==4)=true then decide (ps.length=1)&&a.none&&(v==[])
  else if(o==5||o==6||o==7)=true then decide (ps.length=2)&&a.none&&(v==[])
  else if(o==8||o==9)=true then decide (ps.length=1)&&a.none&&za9 v
  else false:=rfl
theorem zwq {f:Fm}(h:f.forms=true) :
  (f.parts=[]/\(f.op=1\/f.op=2\/f.op=3))\/(∃p:Fm,f=mkF 4 [p]/\p.forms=true)\/(∃(o:Int) (p q:Fm),(o=5\/o=6\/o=7)/\f=mkF o [p,q]/\p.forms=true/\q.forms=true) ∨
   ∃(o:Int) (v:Str) (p:Fm),(o=8\/o=9)/\f=.mk o (.mk [] []) v [p]/\p.forms=true:=by
 rw[Fm.forms_eq,Qb]at h
 obtain⟨h1,h2⟩:=h
 obtain⟨o,a,v,ps⟩:=f
 rw[qk1]at h1
 simp only[Fm.op,Fm.parts]at h2⊢
 by_cases h12:(o==1||o==2)=true
 ·rw[if_pos h12]at h1;simp only[K1,Q9,Qb,Q2,Kf]at h12 h1;exact Or.inl ⟨h1.1.1,Y0⟩
 rw[if_neg h12]at h1
 by_cases h3:(o==3)=true
 ·rw[if_pos h3]at h1;simp only[Q9,Qb,Q2,Kf]at h3 h1;exact Or.inl ⟨h1.1.1,Y0⟩
 rw[if_neg h3]at h1
 by_cases h4:(o==4)=true
 ·rw[if_pos h4]at h1;simp only[Q9,Qb,Q2]at h4 h1;obtain⟨⟨h5,h6⟩,h7⟩:=h1;obtain⟨x,rfl⟩:=len1 h5;rw[h4,zw1 h6,h7];exact Or.inr (Or.inl ⟨x,rfl,by simpa using h2⟩)
 rw[if_neg h4]at h1
 by_cases h5:(o==5||o==6||o==7)=true
 ·rw[if_pos h5]at h1;simp only[K1,Q9,Qb,Q2]at h5 h1;obtain⟨⟨h6,h7⟩,h8⟩:=h1;obtain⟨x,y,rfl⟩:=len2 h6;rw[zw1 h7,h8];simp only[Ks,List.all_nil,Kz,Qb]at h2;exact Or.inr (Or.inr (Or.inl ⟨o,x,y,Y0,rfl,h2.1,h2.2⟩))
 rw[if_neg h5]at h1
 by_cases h6:(o==8||o==9)=true
 ·rw[if_pos h6]at h1;simp only[K1,Q9,Qb,Q2]at h6 h1;obtain⟨⟨h7,h8⟩,h9⟩:=h1;obtain⟨x,rfl⟩:=len1 h7;rw[zw1 h8];exact Or.inr (Or.inr (Or.inr ⟨o,v,x,Y0,rfl,by simpa using h2⟩))
 ·rw[if_neg h6]at h1;cases h1
end Go.Proofs.YtnemmlahbbbobaaGreat
namespace Go.Proofs.YtnemmlahbbbobaaGreat
set_option linter.unusedSimpArgs false
set_option linter.unusedVariables false
set_option linter.unusedSectionVars false
set_option maxRecDepth 4000
open Go.RowKit
def zeb (n:Str)(t:Tm):Fm->Fm×Bool:=Fm.fold λo a v ps rs =>
 if(isQ o&&(v==n||!((zbk [] (vf (.mk o a v ps) [])).contains n)))=true then (.mk o a v ps,true)
 else if(isQ o&&decide (0<zjq v t))=true then (mkF 0 [],false)
 else (.mk o (if(o==3)=true then zgt n t a else a) v (rs.map Prod.fst),rs.all Prod.snd)
theorem zwr (n:Str)(t:Tm)(f:Fm):zeb n t f=if(isQ f.op&&(f.var==n||!((zbk [] (vf f [])).contains n)))=true then (f,true)
  else if(isQ f.op&&decide (0<zjq f.var t))=true then (mkF 0 [],false)
  else (.mk f.op (if(f.op==3)=true then zgt n t f.atom else f.atom) f.var (f.parts.map λx=>(zeb n t x).1),f.parts.all λx=>(zeb n t x).2):=by
 cases f with
 | mk o a v ps =>
  conv=>lhs;unfold zeb;rw[Fm.fold_eq]
  simp only[Kw,J8];rfl
abbrev subX (n:Str)(t:Tm)(b:Bool):Bxs:=[[(false,.str n)],[(false,.str t.name),(false,.sl 2 (t.args.map tmC))],[(true,.bool b)]]
theorem quz (n:Str)(t:Tm)(f:Fm)(r:Fm)(ok b:Bool)(H:FC Tryz.prog 176 [fmD f,sD n,tmD t] [fmD r,bD ok]) :
  PC Tryz.prog 190 (subX n t b) [.d false (fmD f),.p 0,.p 1,.p 2] (subX n t (b&&ok)) [(true,fmD r)]:=by
 simp only[fmD,zaa,tmD,zab t]at H⊢
 refine PC_of Tryz.call190 Tryz.func190 rfl Yz (by simp only[Qg,Qs,Tryz.ntmps190];omega) (by simp only[Tryz.ntmps190];omega) rfl rfl (by simp[zcj,T.isPin,AF.ds,bxA]) (by simp[gFS,T.fs,T.flat,AF.ds,bxA]) rfl ?_
 simp -implicitDefEqProofs only[go_sem,Tryz.results190]
 refine callF (H) Yy ?_
 refine Y1 ?_
 exact⟨λh=>Or.inl (by rw[h];rfl),λh=>Or.inl (by rw[h];rfl)⟩
theorem zsm (n:Str)(t:Tm)(a:Fm)(g:FuncId)(φ:Fm->Fm)(ψ:Fm->Bool)(b:Bool)(H:∀x∈a.parts,∀b,PC Tryz.prog g (subX n t b) [.d false (fmD x),.p 0,.p 1,.p 2] (subX n t (b&&ψ x)) [(true,fmD (φ x))])(h0:a.atom.wt<=1048576)(hs:a.parts.length<=1048576) :
  PC Tryz.prog 98 (subX n t b) [.d false (fmD a),.fn g [0,1,2]] (subX n t (b&&a.parts.all ψ)) [(true,fmD (.mk a.op a.atom a.var (a.parts.map φ)))]:=by
 simp only[fmD,zaa a,ze0]
 refine PC_of Tryz.call98 Tryz.func98 rfl Yz (by simp only[Qg,Qs,Tryz.ntmps98];omega) (by simp only[Tryz.ntmps98];omega) rfl rfl (by simp[zcj,T.isPin,AF.ds,bxA]) (by simp[gFS,T.fs,T.flat,AF.ds,bxA]) rfl ?_
 simp -implicitDefEqProofs only[go_sem,Tryz.results98]
 refine drawn Yz ?_
 refine Y1 ?_
 refine zai (zft a.atom h0) Y4 ?_
 refine Y5 ?_
 refine⟨Yz,?_⟩
 refine zah (λk:Nat=>hd [(1,.one (.fn g [1000000,1000001,1000002])),(4,.one (.bx 4 0)),(5,.one (.bx 5 0)),(17,.one (.rn (fmS a.parts))),(18,vI a.parts.length),(19,vI k),(1000000,.one (.bx 1000000 0)),(1000001,.one (.bx 1000001 0)),(1000002,.one (.bx 1000002 0))] [(4,[.t (.int .i64 0),.t (.str []),.nl 2,.t (.str []),.nl 5]),(5,[.t (.int .i64 a.op),.t (.str a.atom.name),.ow 385 0,.t (.str a.var),.ow 3000 0]),(1000000,[.t (.str n)]),(1000001,[.t (.str t.name),.rn (.sl 2 (t.args.map tmC))]),(1000002,[.t (.bool (b&&(a.parts.take k).all ψ))])]
  [(385,⟨true,2,a.atom.args.map tmC,0,true⟩),(3000,⟨true,5,(a.parts.take k).map λx=>fmC (φ x),0,true⟩)]) (λk=>k<=a.parts.length) (λk=>a.parts.length-k) 0 (zad ?_) ?_ ?_
 ·exact Yy
 ·simp
 ·intro k hk;by_cases hlt:k<a.parts.length
  ·have hmin:min k a.parts.length<=4294967295:=by omega
   have HC:=H a.parts[k] (Qk hlt) (b&&(a.parts.take k).all ψ);have hsuc:(a.parts.take (k+1)).all ψ=((a.parts.take k).all ψ&&ψ a.parts[k]):=by rw[Qn hlt,List.all_append];simp
   simp only[fmD,zaa a.parts[k],zaa (φ a.parts[k])]at HC;refine Zc hlt (zaa a.parts[k]) ?_;refine drawn Yz ?_;refine Y1 ?_;refine dCallQ [1000000,1000001,1000002] (HC) (by decide) Yy Yy ?_;refine Y1 ?_;refine zbj Yy ?_;refine Y1 ?_;refine zg5 true (Zs hmin) ?_;refine Zt hmin ?_;refine⟨Yz,k+1,hlt,Y0,zad ?_⟩;refine Y1 ?_;rw[zaq Y0,Qn hlt,Q1,Q6];simp only[zaa];rw[<-Qn hlt,hsuc,Yn];exact⟨trivial,rfl,trivial⟩
  ·have ht:a.parts.take k=a.parts:=Qr Y0;refine Ze hlt ht ?_;exact Or.inl (Or.inl rfl)
theorem zn5 (n:Str)(t:Tm)(ht:t.wt<=1048576)(f:Fm)(hf:f.forms=true)(hw:f.wt<=1048576)(H:∀x∈f.parts,FC Tryz.prog 176 [fmD x,sD n,tmD t] [fmD (zeb n t x).1,bD (zeb n t x).2]) :
  FC Tryz.prog 176 [fmD f,sD n,tmD t] [fmD (zeb n t f).1,bD (zeb n t f).2]:=by
 have hv:=zwr n t f
 have HF:=qqf f hf hw
 have HO:=qo9 f.var t Y0
 have HP:=zsm n t f 190 (λx=>(zeb n t x).1) (λx=>(zeb n t x).2) true (λx hx b=>quz n t x _ _ b (H x hx)) (by have:=zj3 f;omega) (by have:=f.wt_eq;omega)
 rw[Qv]at HP
 have HC:=zjm f hw
 generalize zbk [] (vf f [])=V at hv HF
 simp only[fmD,zaa f,tmD,zab t,ze0]at HF HO HC HP⊢
 refine zgr Tryz.call176 Tryz.func176 rfl Yz (zao Yz) ?_
 simp -implicitDefEqProofs only[go_sem,Tryz.results176]
 cases hq:isQ f.op
 ·rw[hq,Qx,Qx,if_neg (by simp),if_neg (by simp)]at hv;have HI:=zaw f.op;rw[hq]at HI;refine drawn Yz ?_;refine Y1 ?_;refine zai (HI) Yy ?_;refine Y1 ?_;refine⟨Yz,?_⟩;refine callF (HI) Yy ?_;refine Y1 ?_;have HA:=qv2 n t ht f.atom (by have:=zj3 f;omega);have hS:sbS [(n,t)]=.sl 3 [[.str n,.str t.name,.sl 2 (t.args.map tmC)]]:=by unfold sbS;rw[Q6,zhg]
  rw[hS]at HA;simp only[tmD,zab f.atom,zab (zgt n t f.atom)]at HA;cases h3:f.op==3
  ·rw[h3,if_neg (by simp)]at hv;rw[hv];simp only[fmD,ze0];refine callQ [4,5,8] (HP) (by decide) (Y3 h3) (Y3 h3) ?_;refine Y2 h3 ?_;refine drawn Yz ?_;refine Y1 ?_;kernel_rfl
  ·rw[h3,if_pos rfl]at hv;rw[hv];simp only[fmD,ze0];refine callQ [4,5,8] (HP) (by decide) (Y3 h3) (Y3 h3) ?_;refine Y2 h3 ?_;refine zde Yy ?_;refine Y1 ?_;refine callF (HA) Yy ?_;refine Y1 ?_;refine drawn Yz ?_;refine Y1 ?_;kernel_rfl
 ·have HI:=zaw f.op;rw[hq]at HI;rw[hq,Qv,Qv]at hv;cases hvn:f.var==n
  ·rw[hvn,K0]at hv;have HCt:=zc8 V n;refine drawn Yz ?_;refine Y1 ?_;refine zai (HI) (Y3 hvn) ?_;refine Y2 hvn ?_;cases hcn:V.contains n
   ·rw[hcn,if_pos (by simp)]at hv;rw[hcn]at HCt;rw[hv];simp only[fmD,zaa f];refine zaz (HF) Yy ?_;refine Y1 ?_;refine zaz (HCt) Yy ?_;refine Y1 ?_;refine⟨Yz,?_⟩;refine callF (HC) Yy ?_;exact Yy
   ·rw[hcn,if_neg (by simp)]at hv;rw[hcn]at HCt;refine zaz (HF) Yy ?_;refine Y1 ?_;refine zaz (HCt) Yy ?_;refine Y1 ?_;refine⟨Yz,?_⟩;refine callF (HI) Yy ?_;refine Y1 ?_;have h3:(f.op==3)=false:=by
     rw[Jd];intro e;rw[e]at hq;exact absurd hq (by decide)
    cases ho:decide (0<zjq f.var t)
    ·rw[ho,if_neg (by simp),h3,if_neg (by simp)]at hv;rw[ho]at HO;rw[hv];simp only[fmD,ze0];refine callF (HO) Yy ?_;refine Y1 ?_;refine callQ [4,5,8] (HP) (by decide) (Y3 h3) (Y3 h3) ?_;refine Y2 h3 ?_;refine drawn Yz ?_;refine Y1 ?_;kernel_rfl
    ·rw[ho,if_pos rfl]at hv;rw[ho]at HO;rw[hv];simp only[fmD,zkh,Qi];refine callF (HO) Yy ?_;exact Yy
  ·rw[hvn,Yh,if_pos rfl]at hv;refine drawn Yz ?_;refine Y1 ?_;rw[hv];simp only[fmD,zaa f];refine zai (HI) (Y3 hvn) ?_;refine Y2 hvn ?_;refine⟨Yz,?_⟩;refine callF (HC) Yy ?_;exact Yy
theorem zrg (n:Str)(t:Tm)(ht:t.wt<=1048576):∀f:Fm,f.forms=true->f.wt<=1048576->FC Tryz.prog 176 [fmD f,sD n,tmD t] [fmD (zeb n t f).1,bD (zeb n t f).2] :=
 zck λo a v ps ih hf hw=>zn5 n t ht (.mk o a v ps) hf hw λx hx=>ih x hx (by rw[Fm.forms_eq,Qb]at hf;exact Qq.1 hf.2 x hx) (Je (zd3 (a:=.mk o a v ps) hx) hw)
end Go.Proofs.YtnemmlahbbbobaaGreat
namespace Go.Proofs.YtnemmlahbbbobaaGreat
set_option linter.unusedSimpArgs false
set_option linter.unusedVariables false
set_option linter.unusedSectionVars false
set_option maxRecDepth 4000
open Go.RowKit
theorem qcm (n:Str)(t:Tm)(x:Str):FC Tryz.prog 184 [.agg [sbS [(n,t)]],sD x] [iD (if(n==x)=true then 0 else -1)]:=by
 have hS:sbS [(n,t)]=.sl 3 [[.str n,.str t.name,.sl 2 (t.args.map tmC)]]:=by unfold sbS;rw[Q6,zhg]
 rw[hS]
 refine zae Tryz.call184 Tryz.func184 rfl Yz (zao Yz) ?_
 simp -implicitDefEqProofs only[go_sem,Tryz.results184]
 refine zah (λk:Nat=>hd [(1,vT (.str x)),(2,.one (.bx 2 0)),(5,vI k)] [(2,[.t (.sl 3 [[.str n,.str t.name,.sl 2 (t.args.map tmC)]])])] []) (λk=>k=0\/(k=1/\(n==x)=false)) (λk=>1-k) 0 (zad ?_) (Or.inl rfl) ?_
 ·exact Yy
 ·rintro k (rfl|⟨rfl,hn⟩)
  ·cases hn:n==x
   ·refine Y2 hn ?_;refine⟨1,Or.inr rfl,by decide,zad ?_⟩;have hz:IntKind.i64.wrap 1=1:=by decide
    exact Y3 hz
   ·exact Y3 hn
  ·exact Y3 hn
theorem zs4 (n:Str)(t:Tm)(ht:t.wt<=1048576)(hn:(t.name==n)=false):FC Tryz.prog 160 [.agg [sbS []],sD n,tmD t] [.agg [sbS [(n,t)]]]:=by
 have hS:sbS [(n,t)]=.sl 3 [[.str n,.str t.name,.sl 2 (t.args.map tmC)]]:=by unfold sbS;rw[Q6,zhg]
 have hS0:sbS []=.sl 3 []:=rfl
 have HK:=zmv t ht
 rw[hS,hS0]
 simp only[tmD,zab t]at HK⊢
 refine zgr Tryz.call160 Tryz.func160 rfl Yz (zao Yz) ?_
 simp -implicitDefEqProofs only[go_sem,Tryz.results160,hn]
 refine zah (λk:Nat=>hd [(1,vT (.str n)),(3,.one (.bx 3 0)),(5,.one (.bx 5 0)),(6,.one (.bx 6 0)),(7,vI (0:Nat))] [(3,[.rn (.sl 3 [])]),(5,[.t (.str t.name),.rn (.sl 2 (t.args.map tmC))]),(6,[.nl 3])] []) (λk=>k=0) (λk=>0) 0 (zad ?_) rfl ?_
 ·exact Yy
 ·rintro k rfl;refine Y1 ?_;refine zbg Yy ?_;refine Y1 ?_;refine apD true X4 ?_;simp -implicitDefEqProofs only[go_sem,ne_eq];refine callF (HK) Yy ?_;refine Y1 ?_;refine zbg Yy ?_;refine Y1 ?_;refine apD true X4 ?_;simp -implicitDefEqProofs only[go_sem,ne_eq];refine apD true X4 ?_;exact X4
theorem zos (n:Str)(t:Tm)(hn:(t.name==n)=true):RC Tryz.prog 160 [.agg [sbS []],sD n,tmD t] [.agg [sbS []]]:=by
 have hS0:sbS []=.sl 3 []:=rfl
 rw[hS0]
 simp only[tmD,zab t]
 refine RC_of Tryz.call160 Tryz.func160 rfl Yz (zao Yz) ?_
 simp -implicitDefEqProofs only[go_sem,Tryz.results160,hn]
def zez (l:List (Str×Tm)):Tm->Tm:=Tm.fold λm _ rs=>if za9 m=true then (match l.find? λp=>p.1==m with|some p=>p.2|none=>.mk m [])else .mk m rs
theorem zmh (l:List (Str×Tm))(a:Tm):zez l a=if za9 a.name=true then (match l.find? λp=>p.1==a.name with|some p=>p.2|none=>.mk a.name [])else .mk a.name (a.args.map (zez l)):=by unfold zez;rw[Tm.fold_eq]
theorem zwf (x:Str):FC Tryz.prog 184 [.agg [sbS []],sD x] [iD (-1)]:=by
 have hS:sbS []=.sl 3 []:=rfl
 rw[hS]
 refine zae Tryz.call184 Tryz.func184 rfl Yz (zao Yz) ?_
 simp -implicitDefEqProofs only[go_sem,Tryz.results184]
 refine zah (λk:Nat=>hd [(1,vT (.str x)),(2,.one (.bx 2 0)),(5,vI (0:Nat))] [(2,[.t (.sl 3 [])])] []) (λk=>k=0) (λk=>0) 0 (zad ?_) rfl ?_
 ·exact Yy
 ·rintro k rfl;exact Yy
theorem qbi (l:List (Str×Tm))(hl:l.length<=1)(hw:∀p∈l,p.2.wt<=1048576)(a:Tm)(ha:a.args.length<=1048576)(H:∀x∈a.args,FC Tryz.prog 159 [.agg [sbS l],tmD x] [tmD (zez l x)]):FC Tryz.prog 159 [.agg [sbS l],tmD a] [tmD (zez l a)]:=by
 have hv:=zmh l a
 have HV:=zih a.name
 cases hva:za9 a.name
 ·rw[hva,if_neg (by simp)]at hv;rw[hva]at HV;rw[hv];have e1:tmD (.mk a.name (a.args.map (zez l)))=.agg [.str a.name,.sl 2 (a.args.map λx=>tmC (zez l x))]:=by unfold tmD;rw[zab];simp only[Tm.name,Tm.args,Kw,J0]
  rw[e1];simp only[tmD,zab a]at H⊢;unfold sbS at H⊢;generalize l.map bnC=L at H⊢;refine zae Tryz.call159 Tryz.func159 rfl Yz (zao Yz) ?_;refine X5 ?_;refine callF (HV) Yy ?_;refine Y1 ?_;refine zah (λk:Nat=>hd [(2,.one (.bx 2 0)),(3,.one (.bx 3 0)),(4,.one (.bx 4 0)),(6,.one (.bx 6 0)),(7,vI k)] [(2,[.t (.sl 3 L)]),(3,[.t (.str a.name),.t (tmS a.args)]),(4,[.t (.str []),.nl 2]),(6,[.t (.str a.name),.ow 3000 0])] [(3000,⟨true,2,(a.args.take k).map λx=>tmC (zez l x),0,true⟩)]) (λk=>k<=a.args.length) (λk=>a.args.length-k) 0 (zad ?_) (Kc _) ?_
  ·exact Yy
  ·intro k hk;by_cases hlt:k<a.args.length
   ·have HC:=H a.args[k] (Qk hlt);have hmin:min k a.args.length<=4294967295:=by omega
    simp only[zab a.args[k],zab (zez l a.args[k])]at HC;refine Vd ?_;refine drawn Yz ?_;refine Zc hlt (zab a.args[k]) ?_;refine zai (HC) Yy ?_;refine Y1 ?_;refine zbj Yy ?_;refine Y1 ?_;refine zg5 true (Zs hmin) ?_;refine Zt hmin ?_;refine⟨Yz,k+1,hlt,Y0,zad ?_⟩;refine Y1 ?_;rw[zaq Y0,Qn hlt,Q1,Q6];simp only[zab]
    trivial
   ·have ht:a.args.take k=a.args:=Qr Y0;exact Y9 hlt ht
 ·rw[hva,if_pos rfl]at hv;rw[hva]at HV;rw[hv]
  match l,hl with
  | [],_ =>
   have HN:=zwf a.name;simp only[List.find?_nil];have e1:tmD (.mk a.name [])=.agg [.str a.name,.sl 2 []]:=rfl;have hS:sbS []=.sl 3 []:=rfl;rw[hS]at HN⊢;rw[e1];simp only[tmD,zab a];refine zae Tryz.call159 Tryz.func159 rfl Yz (zao Yz) ?_;refine X5 ?_;refine callF (HV) Yy ?_;refine Y1 ?_;refine callF (HN) Yy ?_;exact Yy
  | [(n,t)],_ =>
   have HO:=qcm n t a.name;have HK:=zmv t (hw (n,t) (by simp));have hS:sbS [(n,t)]=.sl 3 [[.str n,.str t.name,.sl 2 (t.args.map tmC)]]:=by unfold sbS;rw[Q6,zhg]
   rw[hS]at HO⊢;cases hn:n==a.name
   ·rw[hn]at HO;simp only[List.find?_cons,hn,List.find?_nil];have e1:tmD (.mk a.name [])=.agg [.str a.name,.sl 2 []]:=rfl;rw[e1];simp only[tmD,zab a];refine zae Tryz.call159 Tryz.func159 rfl Yz (zao Yz) ?_;refine X5 ?_;refine callF (HV) Yy ?_;refine Y1 ?_;refine callF (HO) Yy ?_;exact Yy
   ·rw[hn]at HO;simp only[List.find?_cons,hn];simp only[tmD,zab a,zab t]at HK⊢;refine zae Tryz.call159 Tryz.func159 rfl Yz (zao Yz) ?_;refine X5 ?_;refine callF (HV) Yy ?_;refine Y1 ?_;refine callF (HO) Yy ?_;refine Y1 ?_;refine callF (HK) Yy ?_;exact Yy
theorem zud (l:List (Str×Tm))(hl:l.length<=1)(hw:∀p∈l,p.2.wt<=1048576):∀a:Tm,a.wt<=1048576->FC Tryz.prog 159 [.agg [sbS l],tmD a] [tmD (zez l a)] :=
 zb3 λm xs ih hs=>by
  obtain⟨h1,h2⟩:=Tm.wt_args hs;exact qbi l hl hw (.mk m xs) h1 λx hx=>ih x hx (h2 x hx)
end Go.Proofs.YtnemmlahbbbobaaGreat
namespace Go.Proofs.YtnemmlahbbbobaaGreat
set_option linter.unusedSimpArgs false
set_option linter.unusedVariables false
set_option linter.unusedSectionVars false
set_option maxRecDepth 4000
open Go.RowKit
def bnd (n:Str)(t:Tm):List (Str×Tm):=if(t.name==n)=true then []else [(n,t)]
def zuj (ps:List Fm):List Str:=match ps with
 | p::_=>zbk [] (vf p [])
 | []=>[]
def zbs (n:Str)(t:Tm):Fm->Fm×Bool:=Fm.fold λo a v ps rs =>
 if(o==3)=true then (.mk o (zez (bnd n t) a) v [],(zez (bnd n t) a).atomOk)
 else if(isQ o&&(v==n||!((zuj ps).contains n)))=true then (.mk o a v ps,true)
 else if(isQ o&&(zbk [] (voS t)).contains v)=true then (.mk o (.mk [] []) v [],false)
 else (.mk o (.mk [] []) v ((rs.takeWhile Prod.snd).map Prod.fst),rs.all Prod.snd)
theorem qrb {α β:Type}(p:β->Bool)(f:α->β):∀xs:List α,(xs.map f).takeWhile p=(xs.takeWhile λx=>p (f x)).map f
 | []=>rfl
 | x::xs=>by
  simp only[Qc,List.takeWhile_cons];cases p (f x)
  ·rfl
  ·simp only[if_true,Qc,qrb p f xs]
theorem zqw (n:Str)(t:Tm)(f:Fm):zbs n t f=if(f.op==3)=true then (.mk f.op (zez (bnd n t) f.atom) f.var [],(zez (bnd n t) f.atom).atomOk)
  else if(isQ f.op&&(f.var==n||!((zuj f.parts).contains n)))=true then (f,true)
  else if(isQ f.op&&(zbk [] (voS t)).contains f.var)=true then (.mk f.op (.mk [] []) f.var [],false)
  else (.mk f.op (.mk [] []) f.var ((f.parts.takeWhile λx=>(zbs n t x).2).map λx=>(zbs n t x).1),f.parts.all λx=>(zbs n t x).2):=by
 cases f with
 | mk o a v ps =>
  conv=>lhs;unfold zbs;rw[Fm.fold_eq]
  simp only[qrb,Kw,J8];rfl
theorem qfk {f:Fm}(h:isQ f.op=true)(hf:f.forms=true):∃p,f.parts=[p]/\p.forms=true:=by
 rw[Fm.forms_eq,Qb]at hf
 have h1:=hf.1
 unfold Fm.here at h1
 have h2:(f.op==1||f.op==2)=false/\(f.op==3)=false/\(f.op==4)=false/\zk6 f.op=false:=by
  have h8:f.op=8\/f.op=9:=by unfold isQ at h;rw[K1,Q9,Q9]at h;exact h
  rcases h8 with e|e<;>rw[e]<;>decide
 rw[h2.1,h2.2.1,h2.2.2.1,h2.2.2.2,h]at h1
 simp only[Qp,if_false,if_true,Qb,Q2]at h1
 obtain⟨p,hp⟩:=List.length_eq_one_iff.1 h1.1.1
 exact⟨p,hp,Qq.1 hf.2 p (by rw[hp];simp)⟩
theorem qdc (n:Str)(t:Tm):(bnd n t).length<=1:=by unfold bnd;split<;>simp
theorem qqs (n:Str)(t:Tm)(ht:t.wt<=1048576):∀p∈bnd n t,p.2.wt<=1048576:=by
 unfold bnd
 split
 ·simp
 ·intro p hp;simp at hp;rw[hp];exact ht
set_option maxHeartbeats 2000000 in
theorem qlu (n:Str)(t:Tm)(ht:t.wt<=1048576)(f:Fm)(hf:f.forms=true)(hw:f.wt<=1048576)(hwa:(zez (bnd n t) f.atom).wt<=1099511627776)(H:∀x∈f.parts,FC Tryz.prog 135 [fmD x,sD n,tmD t] [fmD (zbs n t x).1,bD (zbs n t x).2]) :
  FC Tryz.prog 135 [fmD f,sD n,tmD t] [fmD (zbs n t f).1,bD (zbs n t f).2]:=by
 have hv:=zqw n t f
 have hfl:f.parts.length<=1048576:=by have:=f.wt_eq;omega
 cases h3:f.op==3
 ·rw[h3,if_neg (by simp)]at hv;cases hq:isQ f.op
  ·rw[hq,Qx,if_neg (by simp),Qx,if_neg (by simp)]at hv;have hq8:(f.op==8)=false/\(f.op==9)=false:=by unfold isQ at hq;rw[Bool.or_eq_false_iff]at hq;exact hq
   simp only[fmD,zaa f,tmD,zab t];refine zae Tryz.call135 Tryz.func135 rfl Yz (zao Yz) ?_;simp -implicitDefEqProofs only[go_sem,Tryz.results135,h3,hq8.1,hq8.2];refine zah (λk:Nat=>hd [(1,vT (.str n)),(3,.one (.bx 3 0)),(5,.one (.bx 5 0)),(6,.one (.bx 6 0)),(8,.one (.bx 8 0)),(9,vI k)] [(3,[.t (.int .i64 f.op),.t (.str f.atom.name),.t (tmS f.atom.args),.t (.str f.var),.t (fmS f.parts)]),(5,[.t (.str t.name),.t (tmS t.args)]),(6,[.t (.int .i64 0),.t (.str []),.nl 2,.t (.str []),.nl 5]),(8,[.t (.int .i64 f.op),.t (.str []),.nl 2,.t (.str f.var),.ow 8000 0])] [(8000,⟨true,5,(f.parts.take k).map λx=>fmC (zbs n t x).1,0,true⟩)]) (λk=>k<=f.parts.length/\∀x∈f.parts.take k,(zbs n t x).2=true) (λk=>f.parts.length-k) 0 (zad ?_) ⟨Kc _,by simp⟩ ?_
   ·exact Yy
   ·rintro k ⟨hk,hT⟩;by_cases hlt:k<f.parts.length
    ·have HC:=H f.parts[k] (Qk hlt);have hmin:min k f.parts.length<=4294967295:=by omega
     simp only[fmD,zaa f.parts[k],zaa (zbs n t f.parts[k]).1,tmD,zab t]at HC;cases hk2:(zbs n t f.parts[k]).2
     ·rw[hk2]at HC;have htw:=(zda (p:=λx=>(zbs n t x).2) hk hT λ_=>hk2).1;have hall:(f.parts.all λx=>(zbs n t x).2)=false:=by rw[J5];exact⟨_,Qk hlt,by rw[hk2];simp⟩
      rw[htw,hall]at hv;rw[hv];refine Vd ?_;refine drawn Yz ?_;refine Vk ?_;refine zai (HC) Yy ?_;refine Y1 ?_;refine⟨Yz,?_⟩;simp -implicitDefEqProofs only[go_sem,ze0,Kw,J0];exact⟨rfl,rfl⟩
     ·rw[hk2]at HC;refine Vd ?_;refine drawn Yz ?_;refine Vk ?_;refine zai (HC) Yy ?_;refine Y1 ?_;refine⟨Yz,?_⟩;refine zbg Yy ?_;refine Y1 ?_;refine apD true (Zs hmin) ?_;refine Zt hmin ?_;refine⟨k+1,⟨hlt,λx hx=>?_⟩,Y0,zad ?_⟩
      ·rw[Qn hlt]at hx;rcases Qw.1 hx with hx|hx
       ·exact hT x hx
       ·rw[Q4]at hx;subst hx;exact hk2
      ·refine Y1 ?_;rw[zaq Y0,Qn hlt,Q1,Q6];simp only[zaa]
       trivial
    ·have htk:f.parts.take k=f.parts:=Qr Y0;rw[htk]at hT;have hall:(f.parts.all λx=>(zbs n t x).2)=true:=Qq.2 hT;have htw:(f.parts.takeWhile λx=>(zbs n t x).2)=f.parts:=by
      have:=(zda (l:=f.parts) (p:=λx=>(zbs n t x).2) (k:=f.parts.length) (Qz _) (by rw[K8];exact hT) λh=>absurd h (Yk _)).1;rw[this,K8]
     rw[htw,hall]at hv;rw[hv];simp -implicitDefEqProofs only[go_sem,hlt,htk,ze0,Kw,J0];exact⟨rfl,rfl⟩
  ·obtain⟨q,hp,hpf⟩:=qfk hq hf;have key:(f.op==8)=true\/((f.op==8)=false/\(f.op==9)=true):=by
    have hq8:=hq;unfold isQ at hq8;cases h8:f.op==8
    ·rw[h8,K0]at hq8;exact Or.inr ⟨rfl,hq8⟩
    ·exact Or.inl rfl
   have HFr:=zlo q hpf (by have:=f.wt_eq;rw[hp]at this;simp only[Qc,Qi,Kt,List.sum_nil]at this;omega);have HOw:=zu4 f hw;have hfr:zuj f.parts=zbk [] (vf q []):=by rw[hp];rfl
   rw[hfr]at hv;generalize zbk [] (vf q [])=V at hv HFr;have HIn:=zpt V n;have hvl:=zrn t;have HVs:=zyj t Y0 Y0;generalize zbk [] (voS t)=TV at hv HVs;have HIt:=zpt TV f.var;rw[hq,Qv,Qv]at hv;have hp0:f.parts.length=1:=by rw[hp];rfl
   have e0:(List.map fmC f.parts).getD 0 []=fmC q:=by rw[hp];rfl
   cases hvn:f.var==n
   ·rw[hvn,K0]at hv;cases hcn:V.contains n
    ·rw[hcn,if_pos (by simp)]at hv;rw[hcn]at HIn;rw[hv];simp only[fmD,zaa f,tmD,zab t,zaa q]at HOw HFr⊢;rcases key with e8|⟨e8,e9⟩
     ·refine zae Tryz.call135 Tryz.func135 rfl Yz (zao Yz) ?_;refine V6 ?_;refine callF (HFr) Yy ?_;refine Y1 ?_;refine callF (HIn) Yy ?_;refine Y1 ?_;refine callF (HOw) Yy ?_;exact Yy
     ·refine zae Tryz.call135 Tryz.func135 rfl Yz (zao Yz) ?_;refine V7 ?_;refine callF (HFr) Yy ?_;refine Y1 ?_;refine callF (HIn) Yy ?_;refine Y1 ?_;refine callF (HOw) Yy ?_;exact Yy
    ·rw[hcn,if_neg (by simp)]at hv;rw[hcn]at HIn;cases hti:TV.contains f.var
     ·rw[hti,if_neg (by simp)]at hv;rw[hti]at HIt;simp only[fmD,zaa f,tmD,zab t,zaa q]at HVs HFr⊢;rcases key with e8|⟨e8,e9⟩
      ·refine zae Tryz.call135 Tryz.func135 rfl Yz (zao Yz) ?_;refine V6 ?_;refine callF (HFr) Yy ?_;refine Y1 ?_;refine callF (HIn) Yy ?_;refine Y1 ?_;refine drawn Yz ?_;refine Y1 ?_;refine zai (HVs) Yy ?_;refine Y1 ?_;refine zai (HIt) Yy ?_;refine Y1 ?_;refine⟨Yz,?_⟩;refine zah (λk:Nat=>hd [(1,vT (.str n)),(3,.one (.bx 3 0)),(5,.one (.bx 5 0)),(6,.one (.bx 6 0)),(8,.one (.bx 8 0)),(9,vI k)] [(3,[.t (.int .i64 f.op),.t (.str f.atom.name),.t (tmS f.atom.args),.t (.str f.var),.t (fmS f.parts)]),(5,[.t (.str t.name),.t (tmS t.args)]),(6,[.t (.int .i64 0),.t (.str []),.nl 2,.t (.str []),.nl 5]),(8,[.t (.int .i64 f.op),.t (.str []),.nl 2,.t (.str f.var),.ow 8000 0])] [(8000,⟨true,5,(f.parts.take k).map λx=>fmC (zbs n t x).1,0,true⟩)]) (λk=>k<=f.parts.length/\∀x∈f.parts.take k,(zbs n t x).2=true) (λk=>f.parts.length-k) 0 (zad ?_) ⟨Kc _,by simp⟩ ?_
       ·exact Yy
       ·rintro k ⟨hk,hT⟩;by_cases hlt:k<f.parts.length
        ·have HC:=H f.parts[k] (Qk hlt);have hmin:min k f.parts.length<=4294967295:=by omega
         simp only[fmD,zaa f.parts[k],zaa (zbs n t f.parts[k]).1,tmD,zab t]at HC;cases hk2:(zbs n t f.parts[k]).2
         ·rw[hk2]at HC;have htw:=(zda (p:=λx=>(zbs n t x).2) hk hT λ_=>hk2).1;have hall:(f.parts.all λx=>(zbs n t x).2)=false:=by rw[J5];exact⟨_,Qk hlt,by rw[hk2];simp⟩
          rw[htw,hall]at hv;rw[hv];refine Vd ?_;refine drawn Yz ?_;refine Vk ?_;refine zai (HC) Yy ?_;refine Y1 ?_;refine⟨Yz,?_⟩;simp -implicitDefEqProofs only[go_sem,ze0,Kw,J0];exact⟨rfl,rfl⟩
         ·rw[hk2]at HC;refine Vd ?_;refine drawn Yz ?_;refine Vk ?_;refine zai (HC) Yy ?_;refine Y1 ?_;refine⟨Yz,?_⟩;refine zbg Yy ?_;refine Y1 ?_;refine apD true (Zs hmin) ?_;refine Zt hmin ?_;refine⟨k+1,⟨hlt,λx hx=>?_⟩,Y0,zad ?_⟩
          ·rw[Qn hlt]at hx;rcases Qw.1 hx with hx|hx
           ·exact hT x hx
           ·rw[Q4]at hx;subst hx;exact hk2
          ·refine Y1 ?_;rw[zaq Y0,Qn hlt,Q1,Q6];simp only[zaa]
           trivial
        ·have htk:f.parts.take k=f.parts:=Qr Y0;rw[htk]at hT;have hall:(f.parts.all λx=>(zbs n t x).2)=true:=Qq.2 hT;have htw:(f.parts.takeWhile λx=>(zbs n t x).2)=f.parts:=by
          have:=(zda (l:=f.parts) (p:=λx=>(zbs n t x).2) (k:=f.parts.length) (Qz _) (by rw[K8];exact hT) λh=>absurd h (Yk _)).1;rw[this,K8]
         rw[htw,hall]at hv;rw[hv];simp -implicitDefEqProofs only[go_sem,hlt,htk,ze0,Kw,J0];exact⟨rfl,rfl⟩
      ·refine zae Tryz.call135 Tryz.func135 rfl Yz (zao Yz) ?_;refine V7 ?_;refine callF (HFr) Yy ?_;refine Y1 ?_;refine callF (HIn) Yy ?_;refine Y1 ?_;refine drawn Yz ?_;refine Y1 ?_;refine zai (HVs) Yy ?_;refine Y1 ?_;refine zai (HIt) Yy ?_;refine Y1 ?_;refine⟨Yz,?_⟩;refine zah (λk:Nat=>hd [(1,vT (.str n)),(3,.one (.bx 3 0)),(5,.one (.bx 5 0)),(6,.one (.bx 6 0)),(8,.one (.bx 8 0)),(9,vI k)] [(3,[.t (.int .i64 f.op),.t (.str f.atom.name),.t (tmS f.atom.args),.t (.str f.var),.t (fmS f.parts)]),(5,[.t (.str t.name),.t (tmS t.args)]),(6,[.t (.int .i64 0),.t (.str []),.nl 2,.t (.str []),.nl 5]),(8,[.t (.int .i64 f.op),.t (.str []),.nl 2,.t (.str f.var),.ow 8000 0])] [(8000,⟨true,5,(f.parts.take k).map λx=>fmC (zbs n t x).1,0,true⟩)]) (λk=>k<=f.parts.length/\∀x∈f.parts.take k,(zbs n t x).2=true) (λk=>f.parts.length-k) 0 (zad ?_) ⟨Kc _,by simp⟩ ?_
       ·exact Yy
       ·rintro k ⟨hk,hT⟩;by_cases hlt:k<f.parts.length
        ·have HC:=H f.parts[k] (Qk hlt);have hmin:min k f.parts.length<=4294967295:=by omega
         simp only[fmD,zaa f.parts[k],zaa (zbs n t f.parts[k]).1,tmD,zab t]at HC;cases hk2:(zbs n t f.parts[k]).2
         ·rw[hk2]at HC;have htw:=(zda (p:=λx=>(zbs n t x).2) hk hT λ_=>hk2).1;have hall:(f.parts.all λx=>(zbs n t x).2)=false:=by rw[J5];exact⟨_,Qk hlt,by rw[hk2];simp⟩
          rw[htw,hall]at hv;rw[hv];refine Vd ?_;refine drawn Yz ?_;refine Vk ?_;refine zai (HC) Yy ?_;refine Y1 ?_;refine⟨Yz,?_⟩;simp -implicitDefEqProofs only[go_sem,ze0,Kw,J0];exact⟨rfl,rfl⟩
         ·rw[hk2]at HC;refine Vd ?_;refine drawn Yz ?_;refine Vk ?_;refine zai (HC) Yy ?_;refine Y1 ?_;refine⟨Yz,?_⟩;refine zbg Yy ?_;refine Y1 ?_;refine apD true (Zs hmin) ?_;refine Zt hmin ?_;refine⟨k+1,⟨hlt,λx hx=>?_⟩,Y0,zad ?_⟩
          ·rw[Qn hlt]at hx;rcases Qw.1 hx with hx|hx
           ·exact hT x hx
           ·rw[Q4]at hx;subst hx;exact hk2
          ·refine Y1 ?_;rw[zaq Y0,Qn hlt,Q1,Q6];simp only[zaa]
           trivial
        ·have htk:f.parts.take k=f.parts:=Qr Y0;rw[htk]at hT;have hall:(f.parts.all λx=>(zbs n t x).2)=true:=Qq.2 hT;have htw:(f.parts.takeWhile λx=>(zbs n t x).2)=f.parts:=by
          have:=(zda (l:=f.parts) (p:=λx=>(zbs n t x).2) (k:=f.parts.length) (Qz _) (by rw[K8];exact hT) λh=>absurd h (Yk _)).1;rw[this,K8]
         rw[htw,hall]at hv;rw[hv];simp -implicitDefEqProofs only[go_sem,hlt,htk,ze0,Kw,J0];exact⟨rfl,rfl⟩
     ·rw[hti,if_pos rfl]at hv;rw[hti]at HIt;rw[hv];have e5:fmD (.mk f.op (.mk [] []) f.var [])=.agg [.int .i64 f.op,.str [],.sl 2 [],.str f.var,.sl 5 []]:=by unfold fmD;rw[zaa];rfl
      rw[e5];simp only[fmD,zaa f,tmD,zab t,zaa q]at HVs HFr⊢;rcases key with e8|⟨e8,e9⟩
      ·refine zae Tryz.call135 Tryz.func135 rfl Yz (zao Yz) ?_;refine V6 ?_;refine callF (HFr) Yy ?_;refine Y1 ?_;refine callF (HIn) Yy ?_;refine Y1 ?_;refine drawn Yz ?_;refine Y1 ?_;refine zai (HVs) Yy ?_;refine Y1 ?_;refine zai (HIt) Yy ?_;refine Y1 ?_;kernel_rfl
      ·refine zae Tryz.call135 Tryz.func135 rfl Yz (zao Yz) ?_;refine V7 ?_;refine callF (HFr) Yy ?_;refine Y1 ?_;refine callF (HIn) Yy ?_;refine Y1 ?_;refine drawn Yz ?_;refine Y1 ?_;refine zai (HVs) Yy ?_;refine Y1 ?_;refine zai (HIt) Yy ?_;refine Y1 ?_;kernel_rfl
   ·rw[hvn,Yh,if_pos rfl]at hv;rw[hv];simp only[fmD,zaa f,tmD,zab t]at HOw⊢;rcases key with e8|⟨e8,e9⟩
    ·refine zae Tryz.call135 Tryz.func135 rfl Yz (zao Yz) ?_;simp -implicitDefEqProofs only[go_sem,Tryz.results135,h3,e8,hvn];refine callF (HOw) Yy ?_;exact Yy
    ·refine zae Tryz.call135 Tryz.func135 rfl Yz (zao Yz) ?_;simp -implicitDefEqProofs only[go_sem,Tryz.results135,h3,e8,e9,hvn];refine callF (HOw) Yy ?_;exact Yy
 ·rw[h3,if_pos rfl]at hv;have HA:=zud (bnd n t) (qdc n t) (qqs n t ht) f.atom (by have:=zj3 f;omega);rw[hv];generalize zez (bnd n t) f.atom=R at HA hwa⊢;have HO:=zx8 R hwa;cases hn:t.name==n
  ·have e0:bnd n t=[(n,t)]:=by unfold bnd;rw[hn,if_neg (by simp)]
   have HP:=zs4 n t ht hn;have hS0:sbS []=.sl 3 []:=rfl;rw[e0]at HA;generalize [(n,t)]=B at HA HP;rw[hS0]at HP;unfold sbS at HP HA;generalize B.map bnC=L at HA HP;simp only[fmD,zaa f,tmD,zab t,zab f.atom,zab R,ze0,Qi]at HA HP HO⊢;refine zae Tryz.call135 Tryz.func135 rfl Yz (zao Yz) ?_;simp -implicitDefEqProofs only[go_sem,Tryz.results135,h3];refine drawn Yz ?_;refine Y1 ?_;refine zai (HP) Yy ?_;refine Y1 ?_;refine zai (HA) Yy ?_;refine Y1 ?_;refine⟨Yz,?_⟩;refine drawn Yz ?_;refine Y1 ?_;refine zai (HO) Yy ?_;refine Y1 ?_;kernel_rfl
  ·have e0:bnd n t=[]:=by unfold bnd;rw[hn,if_pos rfl]
   have HP:=zos n t hn;have hS0:sbS []=.sl 3 []:=rfl;rw[e0]at HA;rw[hS0]at HP HA;simp only[fmD,zaa f,tmD,zab t,zab f.atom,zab R,ze0,Qi]at HA HP HO⊢;refine zae Tryz.call135 Tryz.func135 rfl Yz (zao Yz) ?_;simp -implicitDefEqProofs only[go_sem,Tryz.results135,h3];refine drawn Yz ?_;refine Y1 ?_;refine zay HP Yy ?_;refine Y1 ?_;refine zai (HA) Yy ?_;refine Y1 ?_;refine⟨Yz,?_⟩;refine drawn Yz ?_;refine Y1 ?_;refine zai (HO) Yy ?_;refine Y1 ?_;kernel_rfl
end Go.Proofs.YtnemmlahbbbobaaGreat
namespace Go.Proofs.YtnemmlahbbbobaaGreat
set_option linter.unusedSimpArgs false
set_option linter.unusedVariables false
set_option linter.unusedSectionVars false
set_option maxRecDepth 4000
open Go.RowKit
theorem qje (n:Str)(t:Tm):∀a:Tm,(zgt n t a).wt<=a.wt+a.nodes*t.wt:=zb3 λm xs ih=>by
 rw[zj7,Tm.nodes_eq]
 show(if xs.length=0 then (if(n==m)=true then t else .mk m [])else .mk m (xs.map (zgt n t))).wt<=(Tm.mk m xs).wt+(1+(xs.map Tm.nodes).sum)*t.wt
 have hs:(xs.map λx=>(zgt n t x).wt).sum<=(xs.map Tm.wt).sum+(xs.map Tm.nodes).sum*t.wt:=by
  revert ih;induction xs with
  | nil=>simp
  | cons x xs ih2 =>
   intro ih;have h1:=ih x (by simp);have h2:=ih2 λy hy=>ih y (by simp[hy]);simp only[Qc,Kt,Ku];omega
 have h0:=Tm.wt_eq (.mk m xs)
 have h0:(Tm.mk m xs).wt=m.length+xs.length+(xs.map Tm.wt).sum:=h0
 rw[Ku,Yv]
 split
 ·split
  ·omega
  ·have h1:=Tm.wt_eq (.mk m []);have h1:(Tm.mk m []).wt=m.length+0+0:=h1;omega
 ·have h1:=Tm.wt_eq (.mk m (xs.map (zgt n t)));have h1:(Tm.mk m (xs.map (zgt n t))).wt=m.length+(xs.map (zgt n t)).length+((xs.map (zgt n t)).map Tm.wt).sum:=h1;rw[Qa,Kw]at h1;have h2:(xs.map (Tm.wt∘zgt n t)).sum=(xs.map λx=>(zgt n t x).wt).sum:=rfl;omega
theorem quf (l:List (Str×Tm))(W:Nat)(hW:∀p∈l,p.2.wt<=W):∀a:Tm,(zez l a).wt<=a.wt+a.nodes*W:=zb3 λm xs ih=>by
 rw[zmh,Tm.nodes_eq]
 show(if za9 m=true then (match l.find? fun(p:Str×Tm)=>p.1==m with|some p=>p.2|none=>.mk m [])else .mk m (xs.map (zez l))).wt<=(Tm.mk m xs).wt+(1+(xs.map Tm.nodes).sum)*W
 have hs:(xs.map λx=>(zez l x).wt).sum<=(xs.map Tm.wt).sum+(xs.map Tm.nodes).sum*W:=by
  revert ih;induction xs with
  | nil=>simp
  | cons x xs ih2 =>
   intro ih;have h1:=ih x (by simp);have h2:=ih2 λy hy=>ih y (by simp[hy]);simp only[Qc,Kt,Ku];omega
 have h0:=Tm.wt_eq (.mk m xs)
 have h0:(Tm.mk m xs).wt=m.length+xs.length+(xs.map Tm.wt).sum:=h0
 rw[Ku,Yv]
 split
 ·split
  ·rename_i p hp;have:=hW p (List.mem_of_find?_eq_some hp);omega
  ·have h1:=Tm.wt_eq (.mk m []);have h1:(Tm.mk m []).wt=m.length+0+0:=h1;omega
 ·have h1:=Tm.wt_eq (.mk m (xs.map (zez l)));have h1:(Tm.mk m (xs.map (zez l))).wt=m.length+(xs.map (zez l)).length+((xs.map (zez l)).map Tm.wt).sum:=h1;rw[Qa,Kw]at h1;have h2:(xs.map (Tm.wt∘zez l)).sum=(xs.map λx=>(zez l x).wt).sum:=rfl;omega
theorem qsm (n:Str)(t:Tm):∀p∈bnd n t,p.2.wt<=t.wt:=by
 unfold bnd
 split
 ·simp
 ·intro p hp;simp at hp;rw[hp];exact Qz _
theorem qkn (n:Str)(t:Tm)(ht:t.wt<=1048576):∀f:Fm,f.forms=true->f.wt<=1048576->f.wt+(1+f.wt)*t.wt<=1099511627776->FC Tryz.prog 135 [fmD f,sD n,tmD t] [fmD (zbs n t f).1,bD (zbs n t f).2] :=
 zck λo a v ps ih hf hw hb=>by
  refine qlu n t ht (.mk o a v ps) hf hw ?_ λx hx=>ih x hx (by rw[Fm.forms_eq,Qb]at hf;exact Qq.1 hf.2 x hx) (Je (zd3 (a:=.mk o a v ps) hx) hw) ?_
  ·have h1:=quf (bnd n t) t.wt (qsm n t) a;have h2:=zgo a;have h3:a.wt<=(Fm.mk o a v ps).wt:=zj3 (.mk o a v ps);have h4:a.nodes*t.wt<=(1+(Fm.mk o a v ps).wt)*t.wt:=Jg _ Y0;show(zez (bnd n t) a).wt<=_
   omega
  ·have h3:=zd3 (a:=.mk o a v ps) hx;have h4:(1+x.wt)*t.wt<=(1+(Fm.mk o a v ps).wt)*t.wt:=Jg _ Y0;omega
theorem qgd:(mkF 0 []).wt=0:=rfl
theorem qf9 {α:Type}{g w:α->Nat}{W:Nat}:∀ps:List α,(∀x∈ps,g x<=w x+(1+w x)*W)->(ps.map g).sum<=(ps.map w).sum+(ps.length+(ps.map w).sum)*W
 | [],_=>by simp
 | x::xs,ih=>by
  have h1:=ih x (by simp);have h2:=qf9 (g:=g) (w:=w) (W:=W) xs λy hy=>ih y (by simp[hy]);simp only[Qc,Kt,Qg];have e:(xs.length+1+(w x+(xs.map w).sum))*W=(1+w x)*W+(xs.length+(xs.map w).sum)*W:=by rw[<-Ku];congr 1;omega
  rw[e];omega
theorem qvz (n:Str)(t:Tm):∀f:Fm,(zeb n t f).1.wt<=f.wt+(1+f.wt)*t.wt:=zck λo a v ps ih=>by
 rw[zwr]
 have h0:(Fm.mk o a v ps).wt=a.wt+v.length+ps.length+(ps.map Fm.wt).sum:=Fm.wt_eq (.mk o a v ps)
 split
 ·exact Nat.le_add_right _ _
 ·split
  ·rw[qgd];exact Kc _
  ·have hs:(ps.map λx=>(zeb n t x).1.wt).sum<=(ps.map Fm.wt).sum+(ps.length+(ps.map Fm.wt).sum)*t.wt:=qf9 (g:=λx=>(zeb n t x).1.wt) (w:=Fm.wt) (W:=t.wt) ps ih;have ha:=qje n t a;have hn:=zgo a;show(Fm.mk o (if(o==3)=true then zgt n t a else a) v (ps.map λx=>(zeb n t x).1)).wt<=_
   have h1:=Fm.wt_eq (.mk o (if(o==3)=true then zgt n t a else a) v (ps.map λx=>(zeb n t x).1));have h1:(Fm.mk o (if(o==3)=true then zgt n t a else a) v (ps.map λx=>(zeb n t x).1)).wt=(if(o==3)=true then zgt n t a else a).wt+v.length+(ps.map λx=>(zeb n t x).1).length+((ps.map λx=>(zeb n t x).1).map Fm.wt).sum:=h1;rw[Qa,Kw]at h1;have h2:(ps.map (Fm.wt∘λx=>(zeb n t x).1)).sum=(ps.map λx=>(zeb n t x).1.wt).sum:=rfl;have h3:(if(o==3)=true then zgt n t a else a).wt<=a.wt+(1+a.wt)*t.wt:=by
    have:a.nodes*t.wt<=(1+a.wt)*t.wt:=Jg _ Y0;split<;>omega
   have h4:(1+a.wt)*t.wt+(ps.length+(ps.map Fm.wt).sum)*t.wt<=(1+(Fm.mk o a v ps).wt)*t.wt:=by rw[<-Ku];exact Jg _ Y0
   omega
end Go.Proofs.YtnemmlahbbbobaaGreat
namespace Go.Proofs.YtnemmlahbbbobaaGreat
set_option linter.unusedSimpArgs false
set_option linter.unusedVariables false
set_option linter.unusedSectionVars false
set_option maxRecDepth 4000
open Go.RowKit
attribute [local go_sem] Oper.semAt_some
end Go.Proofs.YtnemmlahbbbobaaGreat
namespace Go.Proofs.YtnemmlahbbbobaaGreat
set_option linter.unusedSimpArgs false
set_option linter.unusedVariables false
set_option linter.unusedSectionVars false
set_option maxRecDepth 4000
open Go.RowKit
theorem zvg (f:Fm)(hs:f.wt<=1099511627776):GC Tryz.prog 177 [(true,fmD f)] [fmD (if f.good=true then f else mkF 0 []),bD f.good]:=by
 cases h:f.good
 ·rw[if_neg (by simp)];simp only[fmD,zaa f,zkh,Qi];refine qcd Tryz.call177 Tryz.func177 rfl Yz (by simp only[Qg,Qs,Tryz.ntmps177];omega) (by simp[zcj,T.isPin]) ?_;simp -implicitDefEqProofs only[go_sem,Tryz.results177];refine callF (zcc f hs) (Y9 (zaa f) h) ?_;exact Y9 (zaa f) h
 ·rw[if_pos rfl];simp only[fmD,zaa f];refine qcd Tryz.call177 Tryz.func177 rfl Yz (by simp only[Qg,Qs,Tryz.ntmps177];omega) (by simp[zcj,T.isPin]) ?_;simp -implicitDefEqProofs only[go_sem,Tryz.results177];refine callF (zcc f hs) (Y9 (zaa f) h) ?_;exact Y9 (zaa f) h
end Go.Proofs.YtnemmlahbbbobaaGreat
