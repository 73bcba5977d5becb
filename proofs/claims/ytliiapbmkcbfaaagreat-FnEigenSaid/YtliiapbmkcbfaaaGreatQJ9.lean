/-
  The walk over plain data, and contracts of functions of the program and of its laws.
  Conditions: those that each theorem names.
-/
import Derived.Test.YtliiapbmkcbfaaaGreatQJ8
import Derived.Lib.ItoaNum
import Derived.Test.YtliiapbmkcbfaaaGreatQJ5
import Derived.Test.YtliiapbmkcbfaaaGreatQJ6
import Derived.Test.YtliiapbmkcbfaaaGreatQJ7
import Derived.Lib.Join
import Derived.Test.YtliiapbmkcbfaaaGreatQJ4
import Derived.OrdersIn
import Derived.Laws.IdiomRangeMap
namespace Go.Proofs.YtliiapbmkcbfaaaGreat
set_option linter.unusedSimpArgs false
set_option linter.unusedVariables false
set_option linter.unusedSectionVars false
set_option maxRecDepth 4000
set_option maxHeartbeats 8000000
section
open Go.RowKit
theorem zoc (o:Int)(a:Tm)(v:Str)(ps:List Fm):(Fm.mk o a v ps).wt=a.wt+v.length+ps.length+(ps.map Fm.wt).sum:=Fm.wt_eq _
def Fm.dq:Fm->Nat:=Fm.fold fun _ _ _ _ rs=>rs.foldl max 0+1
theorem Fm.dq_eq (a:Fm):a.dq=(a.parts.map Fm.dq).foldl max 0+1:=Fm.fold_eq _ a
structure FmG (f:Fm)(N D:Nat):Prop where
 fm:f.forms=true
 nd:f.nodes<=N
 dp:f.dq<=D
theorem FmG.mono {f:Fm}{N D N' D':Nat}(h:FmG f N D)(hn:N<=N')(hd:D<=D'):FmG f N' D':=⟨h.fm,Q9 h.nd hn,Q9 h.dp hd⟩
theorem FmG.leaf {o:Int}{a:Tm}(h:(Fm.mk o a [] []).here=true):FmG (.mk o a [] []) 1 1:=⟨by rw[Fm.forms_eq,h];rfl,by rw[Fm.nodes_eq];exact Qw _,by rw[Fm.dq_eq];exact Qw _⟩
theorem FmG.one {o:Int}{v:Str}{f:Fm}{N D:Nat}(hf:FmG f N D)(h:(Fm.mk o (.mk [] []) v [f]).here=true):FmG (.mk o (.mk [] []) v [f]) (N+1) (D+1):=by
 refine⟨?_,?_,?_⟩
 ·rw[Fm.forms_eq,h];show(true&&[f].all Fm.forms)=true
  simp[hf.fm]
 ·rw[Fm.nodes_eq];show 1+([f].map Fm.nodes).sum<=_
  have:=hf.nd;simp only[Qi,Qk,Qz,Ks];omega
 ·rw[Fm.dq_eq];show([f].map Fm.dq).foldl max 0+1<=_
  have:=hf.dp;simp only[Qi,Qk,Jd,Yj];omega
theorem FmG.two {o:Int}{f g:Fm}{N D:Nat}(hf:FmG f N D)(hg:FmG g N D)(h:(Fm.mk o (.mk [] []) [] [f,g]).here=true):FmG (.mk o (.mk [] []) [] [f,g]) (2*N+1) (D+1):=by
 refine⟨?_,?_,?_⟩
 ·rw[Fm.forms_eq,h];show(true&&[f,g].all Fm.forms)=true
  simp[hf.fm,hg.fm]
 ·rw[Fm.nodes_eq];show 1+([f,g].map Fm.nodes).sum<=_
  have:=hf.nd;have:=hg.nd;simp only[Qi,Qk,Qz,Ks];omega
 ·rw[Fm.dq_eq];show([f,g].map Fm.dq).foldl max 0+1<=_
  have:=hf.dp;have:=hg.dp;simp only[Qi,Qk,Jd,Yj];omega
theorem zrk {a:Tm}(h:a.atomOk=true):(Fm.mk 3 a [] []).here=true:=by
 show(decide (([]:List Fm).length=0)&&a.atomOk&&(([]:Str)==[]))=true
 rw[h];rfl
theorem zwb {x:Int}(h:0<=x/\x<2):(Fm.mk (1+x) (.mk [] []) [] []).here=true:=by
 rcases(show x=0\/x=1 by omega)with rfl|rfl<;>decide
theorem qon {o:Int}{v:Str}{f:Fm}(h:o=8\/o=9)(hv:za9 v=true):(Fm.mk o (.mk [] []) v [f]).here=true:=by
 rcases h with rfl|rfl
 ·show(decide ([f].length=1)&&(Tm.mk [] []).none&&za9 v)=true
  rw[hv];rfl
 ·show(decide ([f].length=1)&&(Tm.mk [] []).none&&za9 v)=true
  rw[hv];rfl
theorem ql5 {o:Int}{f g:Fm}(h:o=5\/o=6\/o=7):(Fm.mk o (.mk [] []) [] [f,g]).here=true:=by
 rcases h with rfl|rfl|rfl<;>rfl
theorem zl9 (code:List UInt8)(d:Int)(hd:d<=1):Drw code 196 [.p 0,.d false (iD d)] 31 (fun f:Fm=>(true,fmD f)) (fun f=>f.wt<=200/\FmG f 1 1):=fun q hq hp=>by
 have hd1:(d<=1)=True:=by simp[hd]
 obtain⟨q1,b,c1,p1,_,H1⟩:=qfe code 16 Yt q hq Yt
 cases b
 ·obtain⟨q2,a,c2,p2,o2,H2⟩:=atomD code q1 c1 Yt;simp only[tmD,zaa a]at H2;refine⟨q2,.mk 3 a [] [],c2,Yt,?_,?_⟩
  ·refine⟨?_,FmG.leaf (zrk o2.2)⟩;show(Fm.mk 3 a [] []).wt<=200
   rw[zoc];simp;omega
  refine zbh Tryz.call196 Tryz.func196 rfl Ys (by simp only[Qb,Qe,Tryz.ntmps196];omega) (by simp only[Tryz.ntmps196];omega) rfl rfl (by simp[zau,T.isPin,AF.ds,bxA]) (by simp[gFS,T.fs,T.flat,AF.ds,bxA]) rfl ?_;simp -implicitDefEqProofs only[go_sem,Tryz.results196,hd1];refine zaq [0,4,1000000] [12] [1000000] [] (H1) (by decide) rfl Yr Yr Yr Yr ?_;simp -implicitDefEqProofs only[go_sem];refine zaq [4,1000000] [18] [1000000] [] (H2) (by decide) rfl Yr Yr Yr Yr ?_;simp -implicitDefEqProofs only[go_sem];rw[show fmC (.mk 3 a [] [])=[.int .i64 3,.str a.name,.sl 2 (a.args.map tmC),.str [],.sl 5 []] from zab _];left;simp -implicitDefEqProofs only[go_sem]
 ·obtain⟨q2,x,c2,p2,o2,H2⟩:=zjn code 2 Yt Yt q1 c1 Yt;have hw:IntKind.i64.wrap (1+x)=1+x:=zbn Yt Yt;refine⟨q2,.mk (1+x) (.mk [] []) [] [],c2,Yt,?_,?_⟩
  ·refine⟨?_,FmG.leaf (zwb o2)⟩;show(Fm.mk (1+x) (.mk [] []) [] []).wt<=200
   rw[zoc,zc6];simp
  refine zbh Tryz.call196 Tryz.func196 rfl Ys (by simp only[Qb,Qe,Tryz.ntmps196];omega) (by simp only[Tryz.ntmps196];omega) rfl rfl (by simp[zau,T.isPin,AF.ds,bxA]) (by simp[gFS,T.fs,T.flat,AF.ds,bxA]) rfl ?_;simp -implicitDefEqProofs only[go_sem,Tryz.results196,hd1];refine zaq [0,4,1000000] [12] [1000000] [] (H1) (by decide) rfl Yr Yr Yr Yr ?_;simp -implicitDefEqProofs only[go_sem];refine zaq [4,1000000] [14] [1000000] [] (H2) (by decide) rfl Yr Yr Yr Yr ?_;simp -implicitDefEqProofs only[go_sem];rw[hw];rw[show fmC (.mk (1+x) (.mk [] []) [] [])=[.int .i64 (1+x),.str [],.sl 2 [],.str [],.sl 5 []] from zab _];left;simp -implicitDefEqProofs only[go_sem]
abbrev opL':List Int:=[4,5,6,7,8,9,8,9,5,7]
abbrev vrL:List Str:=[[88],[89],[90],[88]]
theorem ziq (code:List UInt8)(k:Nat)(hk:k<=8)(c W N D:Nat)(hN:1<=N)(H:Drw code 196 [.p 0,.d false (iD ((k:Int)+1))] c (fun f:Fm=>(true,fmD f)) (fun f=>f.wt<=W/\FmG f N D)) :
  Drw code 196 [.p 0,.d false (iD ((k:Int)+2))] (2*c+40) (fun f:Fm=>(true,fmD f)) (fun f=>f.wt<=2*W+200/\FmG f (2*N+1) (D+1)):=fun q hq hp=>by
 have hd1:((k:Int)+2<=1)=False:=by simp;omega
 have hw:IntKind.i64.wrap ((k:Int)+2-1)=(k:Int)+1:=by rw[zbn Yt Yt];omega
 obtain⟨q1,b,c1,p1,_,H1⟩:=qfe code 4 Yt q hq Yt
 cases b
 ·obtain⟨q2,o,c2,p2,o2,H2⟩:=qjv code opL' (by simp) (by simp) q1 c1 Yt;by_cases h4:o=4
  ·subst h4;obtain⟨q3,f,c3,p3,o3,H3⟩:=H q2 c2 Yt;simp only[fmD,zab f]at H3;refine⟨q3,.mk 4 (.mk [] []) [] [f],c3,Yt,?_,?_⟩
   ·refine⟨?_,(FmG.one o3.2 rfl).mono Yt (Qw _)⟩;show(Fm.mk 4 (.mk [] []) [] [f]).wt<=2*W+200
    rw[zoc,zc6];simp;omega
   refine zbh Tryz.call196 Tryz.func196 rfl Ys (by simp only[Qb,Qe,Tryz.ntmps196];omega) (by simp only[Tryz.ntmps196];omega) rfl rfl (by simp[zau,T.isPin,AF.ds,bxA]) (by simp[gFS,T.fs,T.flat,AF.ds,bxA]) rfl ?_;simp -implicitDefEqProofs only[go_sem,Tryz.results196,hd1];refine zaq [0,1,4,8,1000000] [9] [1000000] [] (H1) (by decide) rfl Yr Yr Yr Yr ?_;simp -implicitDefEqProofs only[go_sem];refine zap Yr ?_;simp -implicitDefEqProofs only[go_sem];refine zaq [0,1,4,1000000] [21,22] [1000000] [] (H2) (by decide) rfl Yr Yr Yr Yr ?_;simp -implicitDefEqProofs only[go_sem];rw[hw];refine zaq [4,26,1000000] [27,29] [1000000] [] (H3) (by decide) rfl Yr Yr Yr Yr ?_;simp -implicitDefEqProofs only[go_sem];refine zap Yr ?_;simp -implicitDefEqProofs only[go_sem];rw[show fmC (.mk 4 (.mk [] []) [] [f])=[.int .i64 4,.str [],.sl 2 [],.str [],.sl 5 [fmC f]] from zab _,zab f];left;simp -implicitDefEqProofs only[go_sem]
  ·by_cases h8:o=8\/o=9
   ·obtain⟨q3,v,c3,p3,o3,H3⟩:=ofD code vrL (by simp) (by simp) q2 c2 Yt;obtain⟨q4,f,c4,p4,o4,H4⟩:=H q3 c3 Yt;simp only[fmD,zab f]at H4;have hv:v.length<=8:=(show ∀s∈vrL,s.length<=8 by decide) v o3;refine⟨q4,.mk o (.mk [] []) v [f],c4,Yt,?_,?_⟩
    ·refine⟨?_,(FmG.one o4.2 (qon h8 ((show ∀s∈vrL,za9 s=true by decide) v o3))).mono Yt (Qw _)⟩;show(Fm.mk o (.mk [] []) v [f]).wt<=2*W+200
     rw[zoc,zc6];simp;omega
    rcases h8 with rfl|rfl
    all_goals
     refine zbh Tryz.call196 Tryz.func196 rfl Ys (by simp only[Qb,Qe,Tryz.ntmps196];omega) (by simp only[Tryz.ntmps196];omega) rfl rfl (by simp[zau,T.isPin,AF.ds,bxA]) (by simp[gFS,T.fs,T.flat,AF.ds,bxA]) rfl ?_;simp -implicitDefEqProofs only[go_sem,Tryz.results196,hd1];refine zaq [0,1,4,8,1000000] [9] [1000000] [] (H1) (by decide) rfl Yr Yr Yr Yr ?_;simp -implicitDefEqProofs only[go_sem];refine zap Yr ?_;simp -implicitDefEqProofs only[go_sem];refine zaq [0,1,4,1000000] [21,22] [1000000] [] (H2) (by decide) rfl Yr Yr Yr Yr ?_;simp -implicitDefEqProofs only[go_sem];refine zap Yr ?_;simp -implicitDefEqProofs only[go_sem];refine zaq [0,1,4,39,1000000] [40,41] [1000000] [] (H3) (by decide) rfl Yr Yr Yr Yr ?_;simp -implicitDefEqProofs only[go_sem];rw[hw];refine zaq [4,39,42,1000000] [43,45] [1000000] [] (H4) (by decide) rfl Yr Yr Yr Yr ?_;simp -implicitDefEqProofs only[go_sem];refine zap Yr ?_;simp -implicitDefEqProofs only[go_sem];rw[show fmC (.mk _ (.mk [] []) v [f])=[.int .i64 _,.str [],.sl 2 [],.str v,.sl 5 [fmC f]] from zab _,zab f];left;simp -implicitDefEqProofs only[go_sem];rfl
   ·have h567:o=5\/o=6\/o=7:=by simp at o2;omega
    obtain⟨q3,f,c3,p3,o3,H3⟩:=H q2 c2 Yt;obtain⟨q4,g,c4,p4,o4,H4⟩:=H q3 c3 Yt;simp only[fmD,zab f]at H3;simp only[fmD,zab g]at H4;refine⟨q4,.mk o (.mk [] []) [] [f,g],c4,Yt,?_,?_⟩
    ·refine⟨?_,FmG.two o3.2 o4.2 (ql5 h567)⟩;show(Fm.mk o (.mk [] []) [] [f,g]).wt<=2*W+200
     rw[zoc,zc6];simp;omega
    rcases h567 with rfl|rfl|rfl
    all_goals
     refine zbh Tryz.call196 Tryz.func196 rfl Ys (by simp only[Qb,Qe,Tryz.ntmps196];omega) (by simp only[Tryz.ntmps196];omega) rfl rfl (by simp[zau,T.isPin,AF.ds,bxA]) (by simp[gFS,T.fs,T.flat,AF.ds,bxA]) rfl ?_;simp -implicitDefEqProofs only[go_sem,Tryz.results196,hd1];refine zaq [0,1,4,8,1000000] [9] [1000000] [] (H1) (by decide) rfl Yr Yr Yr Yr ?_;simp -implicitDefEqProofs only[go_sem];refine zap Yr ?_;simp -implicitDefEqProofs only[go_sem];refine zaq [0,1,4,1000000] [21,22] [1000000] [] (H2) (by decide) rfl Yr Yr Yr Yr ?_;simp -implicitDefEqProofs only[go_sem];rw[hw];refine zaq [0,1,4,49,1000000] [50,52] [1000000] [] (H3) (by decide) rfl Yr Yr Yr Yr ?_;simp -implicitDefEqProofs only[go_sem];rw[hw];refine zaq [4,49,53,1000000] [54,56] [1000000] [] (H4) (by decide) rfl Yr Yr Yr Yr ?_;simp -implicitDefEqProofs only[go_sem];refine zap Yr ?_;simp -implicitDefEqProofs only[go_sem];rw[show fmC (.mk _ (.mk [] []) [] [f,g])=[.int .i64 _,.str [],.sl 2 [],.str [],.sl 5 [fmC f,fmC g]] from zab _,zab f,zab g];left;simp -implicitDefEqProofs only[go_sem];rfl
 ·obtain⟨q2,b2,c2,p2,_,H2⟩:=qfe code 16 Yt q1 c1 Yt;cases b2
  ·obtain⟨q3,a,c3,p3,o3,H3⟩:=atomD code q2 c2 Yt;simp only[tmD,zaa a]at H3;refine⟨q3,.mk 3 a [] [],c3,Yt,?_,?_⟩
   ·refine⟨?_,(FmG.leaf (zrk o3.2)).mono Yt Yt⟩;show(Fm.mk 3 a [] []).wt<=2*W+200
    rw[zoc];simp;omega
   refine zbh Tryz.call196 Tryz.func196 rfl Ys (by simp only[Qb,Qe,Tryz.ntmps196];omega) (by simp only[Tryz.ntmps196];omega) rfl rfl (by simp[zau,T.isPin,AF.ds,bxA]) (by simp[gFS,T.fs,T.flat,AF.ds,bxA]) rfl ?_;simp -implicitDefEqProofs only[go_sem,Tryz.results196,hd1];refine zaq [0,1,4,8,1000000] [9] [1000000] [] (H1) (by decide) rfl Yr Yr Yr Yr ?_;simp -implicitDefEqProofs only[go_sem];refine zaq [0,4,1000000] [12] [1000000] [] (H2) (by decide) rfl Yr Yr Yr Yr ?_;simp -implicitDefEqProofs only[go_sem];refine zaq [4,1000000] [18] [1000000] [] (H3) (by decide) rfl Yr Yr Yr Yr ?_;simp -implicitDefEqProofs only[go_sem];rw[show fmC (.mk 3 a [] [])=[.int .i64 3,.str a.name,.sl 2 (a.args.map tmC),.str [],.sl 5 []] from zab _];left;simp -implicitDefEqProofs only[go_sem]
  ·obtain⟨q3,x,c3,p3,o3,H3⟩:=zjn code 2 Yt Yt q2 c2 Yt;have hw1:IntKind.i64.wrap (1+x)=1+x:=zbn Yt Yt;refine⟨q3,.mk (1+x) (.mk [] []) [] [],c3,Yt,?_,?_⟩
   ·refine⟨?_,(FmG.leaf (zwb o3)).mono Yt Yt⟩;show(Fm.mk (1+x) (.mk [] []) [] []).wt<=2*W+200
    rw[zoc,zc6];simp
   refine zbh Tryz.call196 Tryz.func196 rfl Ys (by simp only[Qb,Qe,Tryz.ntmps196];omega) (by simp only[Tryz.ntmps196];omega) rfl rfl (by simp[zau,T.isPin,AF.ds,bxA]) (by simp[gFS,T.fs,T.flat,AF.ds,bxA]) rfl ?_;simp -implicitDefEqProofs only[go_sem,Tryz.results196,hd1];refine zaq [0,1,4,8,1000000] [9] [1000000] [] (H1) (by decide) rfl Yr Yr Yr Yr ?_;simp -implicitDefEqProofs only[go_sem];refine zaq [0,4,1000000] [12] [1000000] [] (H2) (by decide) rfl Yr Yr Yr Yr ?_;simp -implicitDefEqProofs only[go_sem];refine zaq [4,1000000] [14] [1000000] [] (H3) (by decide) rfl Yr Yr Yr Yr ?_;simp -implicitDefEqProofs only[go_sem];rw[hw1,show fmC (.mk (1+x) (.mk [] []) [] [])=[.int .i64 (1+x),.str [],.sl 2 [],.str [],.sl 5 []] from zab _];left;simp -implicitDefEqProofs only[go_sem]
theorem builtD (code:List UInt8)(d:Int)(hd:d<=4):Drw code 196 [.p 0,.d false (iD d)] 600 (fun f:Fm=>(true,fmD f)) (fun f=>f.wt<=3000/\FmG f 15 4):=by
 have g1:Drw code 196 [.p 0,.d false (iD (((0:Nat):Int)+1))] 31 (fun f:Fm=>(true,fmD f)) (fun f=>f.wt<=200/\FmG f 1 1):=zl9 code _ Yt
 have g2:=ziq code 0 Yt 31 200 1 1 Yt g1
 have g3:=ziq code 1 Yt _ _ _ _ Yt g2
 have g4:=ziq code 2 Yt _ _ _ _ Yt g3
 by_cases h1:d<=1
 ·exact(zl9 code d h1).mono Yt fun x h=>⟨Yt,h.2.mono Yt Yt⟩
 ·rcases(show d=2\/d=3\/d=4 by omega)with rfl|rfl|rfl
  ·exact g2.mono Yt fun x h=>⟨Yt,h.2.mono Yt Yt⟩
  ·exact g3.mono Yt fun x h=>⟨Yt,h.2.mono Yt Yt⟩
  ·exact g4.mono Yt fun x h=>⟨Yt,h.2.mono Yt Yt⟩
end
section
open Go.RowKit
theorem zju (code:List UInt8):Drw code 135 [.p 0] 601 (fun f:Fm=>(true,fmD f)) (fun f=>f.wt<=3000/\FmG f 15 4):=fun q hq hp=>by
 obtain⟨q1,x,c1,p1,o1,H1⟩:=zjn code 4 Yt Yt q hq Yt
 obtain⟨q2,f,c2,p2,o2,H2⟩:=builtD code (1+x) Yt q1 c1 Yt
 have hw:IntKind.i64.wrap (1+x)=1+x:=zbn Yt Yt
 simp only[fmD,zab f]at H2
 refine⟨q2,f,c2,Yt,o2,?_⟩
 simp only[fmD,zab f]
 refine zbh Tryz.call135 Tryz.func135 rfl Ys (by simp only[Qb,Qe,Tryz.ntmps135];omega) (by simp only[Tryz.ntmps135];omega) rfl rfl (by simp[zau,T.isPin,AF.ds,bxA]) (by simp[gFS,T.fs,T.flat,AF.ds,bxA]) rfl ?_
 simp -implicitDefEqProofs only[go_sem,Tryz.results135]
 refine zaq [2,3,1000000] [4] [1000000] [] (H1) (by decide) rfl Yr Yr Yr Yr ?_
 simp -implicitDefEqProofs only[go_sem]
 rw[hw]
 refine zaq [2,1000000] [3,6] [1000000] [] (H2) (by decide) rfl Yr Yr Yr Yr ?_
 simp -implicitDefEqProofs only[go_sem]
end
section
open Go.RowKit
theorem qhj {o:Int}{v:Str}{ps qs:List Fm}(h:(Fm.mk o (.mk [] []) v ps).here=true)(hl:qs.length=ps.length):(Fm.mk o (.mk [] []) v qs).here=true:=by
 have e:∀xs:List Fm,(Fm.mk o (.mk [] []) v xs).here=(fun n:Nat=>if(o==1||o==2)=true then decide (n=0)&&(Tm.mk [] []).none&&(v==[])else if(o==3)=true then decide (n=0)&&(Tm.mk [] []).atomOk&&(v==[])
  else if(o==4)=true then decide (n=1)&&(Tm.mk [] []).none&&(v==[])else if zm3 o=true then decide (n=2)&&(Tm.mk [] []).none&&(v==[])else if isQ o=true then decide (n=1)&&(Tm.mk [] []).none&&za9 v else false) xs.length:=fun xs=>rfl
 rw[e]at h⊢
 rw[hl];exact h
theorem zpc {α β:Type}{f g:α->β}{xs:List α}(h:∀x∈xs,f x=g x):xs.map f=xs.map g:=Kk h
theorem qj5 {α:Type}{p:α->Bool}:∀{xs:List α},(∀x∈xs,p x=true)->xs.takeWhile p=xs
 | [],_=>rfl
 | x::xs,h=>by rw[J1,if_pos (h x (by simp)),qj5 fun y hy=>h y (by simp[hy])]
theorem zza (n:Str)(t:Tm):∀f:Fm,f.forms=true->(zbf n t f).2=true->(zbf n t f).1.forms=true/\(zbf n t f).1.nodes=f.nodes/\(zbf n t f).1.dq=f.dq:=zb7 fun o a v ps ih hf h2=>by
 have hP:=zk1 n t (.mk o a v ps)
 obtain⟨hh,hps⟩:=qan hf
 cases h3:o==3
 ·have h3':((Fm.mk o a v ps).op==3)=false:=h3;have ha:a=.mk [] []:=zhd hh h3';rw[h3',if_neg (by simp)]at hP;split at hP
  ·rw[hP];exact⟨hf,rfl,rfl⟩
  ·split at hP
   ·rw[hP]at h2;cases h2
   ·rw[hP]at h2;have hall:∀x∈ps,(zbf n t x).2=true:=fun x hx=>Qs.1 h2 x hx;have htw:(ps.takeWhile fun x=>(zbf n t x).2)=ps:=qj5 hall;rw[hP];show(Fm.mk o (.mk [] []) v ((ps.takeWhile fun x=>(zbf n t x).2).map fun x=>(zbf n t x).1)).forms=true/\(Fm.mk o (.mk [] []) v ((ps.takeWhile fun x=>(zbf n t x).2).map fun x=>(zbf n t x).1)).nodes=_/\(Fm.mk o (.mk [] []) v ((ps.takeWhile fun x=>(zbf n t x).2).map fun x=>(zbf n t x).1)).dq=_
    rw[htw];have ihx:=fun x hx=>ih x hx (hps x hx) (hall x hx);rw[ha]at hh;refine⟨?_,?_,?_⟩
    ·rw[Fm.forms_eq,qhj hh (by rw[Qa])];show(true&&(ps.map fun x=>(zbf n t x).1).all Fm.forms)=true
     rw[Qq,Qs];intro y hy;obtain⟨x,hx,rfl⟩:=Kn.1 hy;exact(ihx x hx).1
    ·rw[Fm.nodes_eq,Fm.nodes_eq (.mk o a v ps)];show 1+((ps.map fun x=>(zbf n t x).1).map Fm.nodes).sum=1+(ps.map Fm.nodes).sum
     rw[Kh,zpc (f:=Fm.nodes∘fun x=>(zbf n t x).1) (g:=Fm.nodes) fun x hx=>(ihx x hx).2.1]
    ·rw[Fm.dq_eq,Fm.dq_eq (.mk o a v ps)];show((ps.map fun x=>(zbf n t x).1).map Fm.dq).foldl max 0+1=(ps.map Fm.dq).foldl max 0+1
     rw[Kh,zpc (f:=Fm.dq∘fun x=>(zbf n t x).1) (g:=Fm.dq) fun x hx=>(ihx x hx).2.2]
 ·obtain⟨rfl,rfl,rfl,h4⟩:=qlh h3 hh;rw[show((Fm.mk 3 a [] []).op==3)=true from rfl,if_pos rfl]at hP;rw[hP]at h2⊢;refine⟨?_,rfl,rfl⟩;show(Fm.mk 3 (zef (bnd n t) a) [] []).forms=true
  rw[Fm.forms_eq,zrk (a:=zef (bnd n t) a) h2];rfl
theorem FmG.put {n:Str}{t:Tm}{f:Fm}{N D:Nat}(h:FmG f N D)(h2:(zbf n t f).2=true):FmG (zbf n t f).1 N D:=by
 obtain⟨k1,k2,k3⟩:=zza n t f h.fm h2
 exact⟨k1,by rw[k2];exact h.nd,by rw[k3];exact h.dp⟩
theorem FmG.wt {f:Fm}{N D:Nat}(h:FmG f N D):f.wt<=238*N:=Q9 (zzc f h.fm) (Nat.mul_le_mul_left _ h.nd)
theorem qko {xs:List Nat}{x a:Nat}(h:x∈xs):x<=xs.foldl max a:=by
 induction xs generalizing a with
 | nil=>cases h
 | cons y ys ih =>
  rw[Jd];have key:∀(zs:List Nat) (b:Nat),b<=zs.foldl max b:=fun zs=>by
   induction zs with
   | nil=>exact fun b=>Qw _
   | cons z zs ihz=>exact fun b=>Q9 (Nat.le_max_left b z) (ihz _)
  rcases Qu.1 h with rfl|h
  ·exact Q9 (Nat.le_max_right _ _) (key ys _)
  ·exact ih h
theorem FmG.part {f p:Fm}{N D:Nat}(h:FmG f N (D+1))(hp:p∈f.parts):FmG p N D:=by
 have h1:=h.fm
 rw[Fm.forms_eq,Qc]at h1
 have h2:=h.nd
 have h3:=h.dp
 rw[Fm.nodes_eq]at h2
 rw[Fm.dq_eq]at h3
 have h4:=zay Fm.nodes f.parts p hp
 have h5:=qko (a:=0) (List.mem_map_of_mem (f:=Fm.dq) hp)
 exact⟨Qs.1 h1.2 p hp,Yt,Yt⟩
theorem FmG.few {f:Fm}{N D:Nat}(h:FmG f N D):f.parts.length<=2:=by
 rcases ze0 h.fm with⟨h1,_⟩|⟨p,h1,_⟩|⟨o',p,q,_,h1,_⟩|⟨o',v',p,_,h1,_⟩
 ·rw[h1];simp
 ·rw[h1];exact Nat.le_succ 1
 ·rw[h1];exact Qw 2
 ·rw[h1];exact Nat.le_succ 1
theorem FmG.flat {f:Fm}{N:Nat}(h:FmG f N 1):f.parts=[]:=by
 cases hp:f.parts with
 | nil=>rfl
 | cons p ps =>
  have h3:=h.dp;rw[Fm.dq_eq]at h3;have h5:=qko (a:=0) (List.mem_map_of_mem (f:=Fm.dq) (show p∈f.parts by rw[hp];simp));have h6:=Fm.dq_eq p;omega
end
section
open Go.RowKit
theorem zuh:∀n:Nat,n<100->(Lib.decDigits n).length<=2:=by
 intro n hn
 rw[Lib.decDigits]
 split
 ·simp
 ·rw[Lib.decDigits,dif_pos Yt];simp
def dgs:List UInt8:=[48,49,50,51,52,53,54,55,56,57]
theorem qlg (n:Nat)(h:n<10):((dgs.take (n+1)).drop n)=[UInt8.ofNat (48+n)]:=by
 have:n=0\/n=1\/n=2\/n=3\/n=4\/n=5\/n=6\/n=7\/n=8\/n=9:=by omega
 rcases this with rfl|rfl|rfl|rfl|rfl|rfl|rfl|rfl|rfl|rfl<;>rfl
theorem zug (n:Nat)(hn:n<10):FC Tryz.prog 139 [iD n] [.one (.str (Lib.decDigits n))]:=by
 have h0:((n:Int)<0)=False:=by simp
 have h1:((n:Int)<10)=True:=by simp;omega
 have hw:IntKind.i64.wrap ((n:Int)+1)=((n+1:Nat):Int):=zam Yt
 have hd:Lib.decDigits n=[UInt8.ofNat (48+n)]:=by rw[Lib.decDigits,dif_pos hn]
 have hg:=qlg n hn
 unfold dgs at hg
 rw[hd]
 refine zak Tryz.call139 Tryz.func139 rfl Ys (zaz Ys) ?_
 simp -implicitDefEqProofs only[go_sem,Tryz.results139,h0,h1]
 rw[hw]
 simp -implicitDefEqProofs only[go_sem]
 exact⟨⟨Yt,Yt⟩,congrArg T.str hg⟩
theorem qdb (n:Nat)(hn:n<100):FC Tryz.prog 139 [iD n] [.one (.str (Lib.decDigits n))]:=by
 by_cases h10:n<10
 ·exact zug n h10
 ·have h0:((n:Int)<0)=False:=by simp
  have h1:((n:Int)<10)=False:=by simp;omega
  have hq:IntKind.i64.wrap ((n:Int).tdiv 10)=((n / 10:Nat):Int):=by rw[show(n:Int).tdiv 10=((n / 10:Nat):Int) from rfl];exact zbn Yt Yt
  have hr:(n:Int).tmod 10=((n % 10:Nat):Int):=rfl;have hw:IntKind.i64.wrap (((n % 10:Nat):Int)+1)=((n % 10+1:Nat):Int):=zam Yt;have H:=zug (n / 10) Yt;have hd:Lib.decDigits n=Lib.decDigits (n / 10)++[UInt8.ofNat (48+n % 10)]:=by rw[Lib.decDigits,dif_neg h10]
  have hg:=qlg (n % 10) Yt;have hl:=zuh (n / 10) Yt;unfold dgs at hg;rw[hd];generalize Lib.decDigits (n / 10)=D at H hl⊢;refine zak Tryz.call139 Tryz.func139 rfl Ys (zaz Ys) ?_;simp -implicitDefEqProofs only[go_sem,Tryz.results139,h0,h1];refine drawn Ys ?_;simp -implicitDefEqProofs only[go_sem,hq,hr];refine⟨by decide,?_⟩;refine zaj (H) (by simp -implicitDefEqProofs only[go_sem,hr]) ?_;simp -implicitDefEqProofs only[go_sem,hr];rw[hw,Jw,hg];refine⟨⟨by decide,Yt,Yt⟩,⟨by decide,Yt,Yt⟩,⟨Yt,Yt⟩,?_,Ys,rfl⟩;simp only[Qb,Qe];omega
end
section
open Go.RowKit
def zk5 (b:UInt8):Bool:=zlt b||zjl b||b==95
theorem zj2 (b:UInt8):FC Tryz.prog 271 [uD b] [bD (zk5 b)]:=by
 have HS:=zks b
 unfold zk5 zjl
 have e95:((b.toNat:Int)==95)=(b==95):=by
  rw[Kq,Ko,Ko,<-UInt8.toNat_inj];show _↔b.toNat=95
  omega
 cases h:zlt b
 ·rw[h]at HS;by_cases h1:(65:Int)<=b.toNat
  ·by_cases h2:(b.toNat:Int)<=90
   ·have g1:((b.toNat:Int)>=65)=True:=by simp;omega
    have g2:((b.toNat:Int)<=90)=True:=by simp;omega
    refine zak Tryz.call271 Tryz.func271 rfl Ys (zaz Ys) ?_;simp -implicitDefEqProofs only[go_sem,Tryz.results271];refine callF (HS) (by simp -implicitDefEqProofs only[go_sem,g1,g2]) ?_;simp -implicitDefEqProofs only[go_sem,g1,g2];rfl
   ·have g1:((b.toNat:Int)>=65)=True:=by simp;omega
    have g2:((b.toNat:Int)<=90)=False:=by simp;omega
    refine zak Tryz.call271 Tryz.func271 rfl Ys (zaz Ys) ?_;simp -implicitDefEqProofs only[go_sem,Tryz.results271];refine callF (HS) (by simp -implicitDefEqProofs only[go_sem,g1,g2,e95]) ?_;simp -implicitDefEqProofs only[go_sem,g1,g2,e95];rfl
  ·have g1:((b.toNat:Int)>=65)=False:=by simp;omega
   refine zak Tryz.call271 Tryz.func271 rfl Ys (zaz Ys) ?_;simp -implicitDefEqProofs only[go_sem,Tryz.results271];refine callF (HS) (by simp -implicitDefEqProofs only[go_sem,g1,e95]) ?_;simp -implicitDefEqProofs only[go_sem,g1,e95];rfl
 ·rw[h]at HS;refine zak Tryz.call271 Tryz.func271 rfl Ys (zaz Ys) ?_;simp -implicitDefEqProofs only[go_sem,Tryz.results271];refine callF (HS) Yr ?_;simp -implicitDefEqProofs only[go_sem];rfl
abbrev qas (s:Str)(a e:Nat):Str:=(s.take e).drop a
structure Word (s:Str)(a e:Nat):Prop where
 lt:a<e
 le:e<=s.length
 sm:s.length<=4000
 all:∀i,a<=i->i<e->zk5 (s.getD i 0)=true
theorem zpj (s:Str)(a e:Nat)(h:Word s a e)(he:e=s.length\/e<s.length/\zk5 (s.getD e 0)=false/\((s.getD e 0).toNat:Int)≠40):FC Tryz.prog 242 [.one (.str s),iD a] [tmD (.mk (qas s a e) []),iD e]:=by
 obtain⟨h1,h2,h3,h4⟩:=h
 have hne:((e:Int)==(a:Int))=false:=by rw[Qy];omega
 simp only[tmD,zaa]
 refine zak Tryz.call242 Tryz.func242 rfl Ys (zaz Ys) ?_
 simp -implicitDefEqProofs only[go_sem,Tryz.results242]
 refine zaf (fun i:Nat=>hd [(0,vT (.str s)),(1,vI a),(4,.one (.bx 4 0)),(6,vI i)] [(4,[.t (.str []),.nl 2])] []) (fun i=>a<=i/\i<=e) (fun i=>e-i) a (zad ?_) ⟨Qw _,Yt⟩ ?_
 ·simp -implicitDefEqProofs only[go_sem]
 ·intro i ⟨i1,i2⟩;by_cases hlt:i<e
  ·have hls:i<s.length:=by omega
   have HW:=zj2 (s.getD i 0);rw[h4 i i1 hlt]at HW;have hwk:IntKind.i64.wrap ((i:Int)+1)=((i+1:Nat):Int):=zam Yt;simp -implicitDefEqProofs only[go_sem,hls];refine callF (HW) Yr ?_;simp -implicitDefEqProofs only[go_sem];rw[hwk];exact⟨i+1,⟨Yt,hlt⟩,Yt,zad Yr⟩
  ·have e1:i=e:=by omega
   subst e1;rcases he with he|⟨k1,k2,k3⟩
   ·have hls:¬i<s.length:=by omega
    have heq:((i:Int)==(s.length:Int))=true:=by rw[Ko];omega
    simp -implicitDefEqProofs only[go_sem,hls,hne,heq,Tm.name,Tm.args];exact⟨i1,h2⟩
   ·have heq:((i:Int)==(s.length:Int))=false:=by rw[Qy];omega
    have h40:(((s.getD i 0).toNat:Int) != 40)=true:=by simpa using k3
    have HW:=zj2 (s.getD i 0);rw[k2]at HW;simp -implicitDefEqProofs only[go_sem,k1];refine callF (HW) (by simp -implicitDefEqProofs only[go_sem,k1,hne,heq,h40,Tm.name,Tm.args]) ?_;simp -implicitDefEqProofs only[go_sem,k1,hne,heq,h40,Tm.name,Tm.args];exact⟨i1,h2⟩
theorem qea (s:Str)(a:Nat)(E:Nat->Nat)(xs:List Tm)(h:Word s a (E 0))(h0:E 0<s.length)(h40:s.getD (E 0) 0=40)(hx:0<xs.length)(hxs:xs.length<=1000)(hE:∀k,k<=xs.length->E k<s.length)
  (H:∀k (hk:k<xs.length),FC Tryz.prog 242 [.one (.str s),iD ((E k+1:Nat):Int)] [tmD xs[k],iD (E (k+1))]) (hc:∀k,k<xs.length->s.getD (E (k+1)) 0=if k+1<xs.length then 44 else 41) :
  FC Tryz.prog 242 [.one (.str s),iD a] [tmD (.mk (qas s a (E 0)) xs),iD ((E xs.length+1:Nat):Int)]:=by
 obtain⟨h1,h2,h3,h4⟩:=h
 have hne:(((E 0:Nat):Int)==(a:Int))=false:=by rw[Qy];omega
 simp only[tmD,zaa]
 refine zak Tryz.call242 Tryz.func242 rfl Ys (zaz Ys) ?_
 simp -implicitDefEqProofs only[go_sem,Tryz.results242]
 refine zaf (fun i:Nat=>hd [(0,vT (.str s)),(1,vI a),(4,.one (.bx 4 0)),(6,vI i)] [(4,[.t (.str []),.nl 2])] []) (fun i=>a<=i/\i<=E 0) (fun i=>E 0-i) a (zad ?_) ⟨Qw _,Yt⟩ ?_
 ·simp -implicitDefEqProofs only[go_sem]
 ·intro i ⟨i1,i2⟩;have hls:i<s.length:=by omega
  have hwk:IntKind.i64.wrap ((i:Int)+1)=((i+1:Nat):Int):=zam Yt;have HW:=zj2 (s.getD i 0);by_cases hlt:i<E 0
  ·rw[h4 i i1 hlt]at HW;simp -implicitDefEqProofs only[go_sem,hls];refine callF (HW) Yr ?_;simp -implicitDefEqProofs only[go_sem];rw[hwk];exact⟨i+1,⟨Yt,hlt⟩,Yt,zad Yr⟩
  ·have e1:i=E 0:=by omega
   rw[e1]at HW hls hwk⊢;rw[h40,show zk5 40=false from rfl]at HW;have heq:(((E 0:Nat):Int)==(s.length:Int))=false:=by rw[Qy];omega
   have h40':((((40:UInt8).toNat:Nat):Int) != 40)=false:=by decide
   simp -implicitDefEqProofs only[go_sem,hls];rw[h40];refine callF (HW) (by simp -implicitDefEqProofs only[go_sem,hls,hne,heq,h40,h40']) ?_;simp -implicitDefEqProofs only[go_sem,hls,hne,heq,h40,h40'];refine⟨⟨Yt,h2⟩,?_⟩;refine zaf (fun k:Nat=>hd [(0,vT (.str s)),(4,.one (.bx 4 0)),(6,vI (E k)),(7,.one (.bx 7 0))] [(4,[.t (.str []),.nl 2]),(7,[.t (.str (qas s a (E 0))),.ow 6000 k])] [(6000,⟨true,2,(xs.take k).map tmC,k,true⟩)]) (fun k=>k<xs.length) (fun k=>xs.length-k) 0 (zad ?_) hx ?_
   ·simp -implicitDefEqProofs only[go_sem]
   ·intro k hk;have HK:=H k hk;have hck:=hc k hk;have hlk:=hE (k+1) Yt;have hw1:IntKind.i64.wrap ((E k:Int)+1)=((E k+1:Nat):Int):=zam (by have:=hE k Yt;omega);have hw2:IntKind.i64.wrap ((E (k+1):Int)+1)=((E (k+1)+1:Nat):Int):=zam Yt;have heq:(((E (k+1):Nat):Int)==(s.length:Int))=false:=by rw[Qy];omega
    have hn0:(((E (k+1):Nat):Int)<0)=False:=by simp
    have hk4:k<=4294967295:=by omega
    simp only[tmD,zaa xs[k]]at HK;by_cases hlast:k+1<xs.length
    ·rw[if_pos hlast]at hck;have n1:((((44:UInt8).toNat:Nat):Int) != 44)=false:=by decide
     have n2:((((44:UInt8).toNat:Nat):Int)==41)=false:=by decide
     simp -implicitDefEqProofs only[go_sem];rw[hw1];refine callF (HK) (by simp -implicitDefEqProofs only[go_sem,heq,hn0,hlk,hck,n1,n2]) ?_;simp -implicitDefEqProofs only[go_sem,heq,hn0,hlk,hck,n1,n2];refine zap Yr ?_;simp -implicitDefEqProofs only[go_sem];refine apD true (by simp -implicitDefEqProofs only[go_sem,ne_eq,Qa,Qo,Jz (Nat.le_of_lt hk),hk4,hlk,hck,n2]) ?_;simp -implicitDefEqProofs only[go_sem,ne_eq,Qa,Qo,Jz (Nat.le_of_lt hk),hk4,hlk,hck,n2];refine⟨k+1,hlast,Yt,zad ?_⟩;rw[Qj hk,Qt,Qi,Qk,zaa xs[k]];simp -implicitDefEqProofs only[go_sem]
    ·rw[if_neg hlast]at hck;have e:k+1=xs.length:=by omega
     have n1:((((41:UInt8).toNat:Nat):Int) != 44)=true:=by decide
     have n3:((((41:UInt8).toNat:Nat):Int) != 41)=false:=by decide
     have n2:((((41:UInt8).toNat:Nat):Int)==41)=true:=by decide
     simp -implicitDefEqProofs only[go_sem];rw[hw1];refine callF (HK) (by simp -implicitDefEqProofs only[go_sem,heq,hn0,hlk,hck,n1,n2,n3]) ?_;simp -implicitDefEqProofs only[go_sem,heq,hn0,hlk,hck,n1,n2,n3];refine zap Yr ?_;simp -implicitDefEqProofs only[go_sem];refine apD true (by simp -implicitDefEqProofs only[go_sem,ne_eq,Qa,Qo,Jz (Nat.le_of_lt hk),hk4,hlk,hck,n2]) ?_;simp -implicitDefEqProofs only[go_sem,ne_eq,Qa,Qo,Jz (Nat.le_of_lt hk),hk4,hlk,hck,n2];have hrows:(xs.take k).map tmC++[[T.str xs[k].name,T.sl 2 (xs[k].args.map tmC)]]=xs.map tmC:=by
      rw[<-zaa xs[k],show[tmC xs[k]]=[xs[k]].map tmC from rfl,<-Qt,<-Qj hk,e,Kv]
     rw[hrows,hw2,e];exact⟨rfl,rfl,rfl⟩
end
section
open Go.RowKit
theorem qmx (s:Str)(t:Tm)(hs:s.length<=4000)(hw:t.wt<=4000)(hg:t.good=true)(HR:FC Tryz.prog 242 [.one (.str s),iD 0] [tmD t,iD s.length]):FC Tryz.prog 199 [.one (.str s)] [tmD t,bD true]:=by
 have HG:=zjt t Yt
 rw[hg]at HG
 have hne:((s.length:Int) != (s.length:Int))=false:=by simp
 simp only[tmD,zaa t]at HR HG⊢
 refine zak Tryz.call199 Tryz.func199 rfl Ys (zaz Ys) ?_
 simp -implicitDefEqProofs only[go_sem,Tryz.results199]
 refine callF (HR) (by simp -implicitDefEqProofs only[go_sem,hne]) ?_
 simp -implicitDefEqProofs only[go_sem,hne]
 refine callF (HG) Yr ?_
 simp -implicitDefEqProofs only[go_sem]
end
section
open Go.RowKit
def zkp (s:Str)(a:Nat):Nat:=a+((s.drop a).takeWhile zk5).length
def rdL (f:Nat->Option (Tm×Nat))(s:Str):Nat->Nat->Option (List Tm×Nat)
 | 0,_=>none
 | m+1,e=>match f (e+1)with
  | none=>none
  | some (x,e')=>if e'<s.length then (if s.getD e' 0=41 then some ([x],e')else if s.getD e' 0=44 then (match rdL f s m e' with|none=>none|some (xs,e2)=>some (x::xs,e2))else none)else none
def rdT (s:Str):Nat->Nat->Option (Tm×Nat)
 | 0,_=>none
 | n+1,a=>if zkp s a<=a then none else if zkp s a=s.length then some (.mk (qas s a (zkp s a)) [],zkp s a)else if s.getD (zkp s a) 0=40 then (match rdL (rdT s n) s n (zkp s a)with|none=>none|some (xs,e)=>some (.mk (qas s a (zkp s a)) xs,e+1))else some (.mk (qas s a (zkp s a)) [],zkp s a)
theorem zs2 (s:Str)(a:Nat)(h:a<=s.length):zkp s a<=s.length:=by
 unfold zkp
 have:=(List.takeWhile_sublist zk5 (l:=s.drop a)).length_le
 rw[Kr]at this
 omega
theorem tw_at {p:UInt8->Bool}:∀(l:List UInt8)(i:Nat),i<(l.takeWhile p).length->p (l.getD i 0)=true
 | [],i,h=>by simp at h
 | x::l,i,h=>by
  rw[J1]at h;split at h
  ·rename_i hx;cases i with
   | zero=>exact hx
   | succ i =>
    rw[Qb]at h;exact tw_at l i Yt
  ·simp at h
theorem qka {p:UInt8->Bool}:∀(l:List UInt8),(l.takeWhile p).length<l.length->p (l.getD (l.takeWhile p).length 0)=false
 | [],h=>by simp at h
 | x::l,h=>by
  rw[J1]at h⊢;split
  ·rename_i hx;rw[if_pos hx,Qb,Qb]at h;exact qka l Yt
  ·rename_i hx;simpa using hx
theorem zpt {s:Str}{a i:Nat}:(s.drop a).getD i 0=s.getD (a+i) 0:=by
 rw[List.getD_eq_getElem?_getD,List.getD_eq_getElem?_getD,List.getElem?_drop]
theorem zk4 {s:Str}{a:Nat}(hs:s.length<=4000)(ha:a<zkp s a)(hl:a<=s.length):Word s a (zkp s a):=by
 refine⟨ha,zs2 s a hl,hs,fun i h1 h2=>?_⟩
 have:=tw_at (p:=zk5) (s.drop a) (i-a) (by unfold zkp at h2;omega)
 rw[zpt]at this
 rwa [show a+(i-a)=i by omega]at this
theorem qb3 {s:Str}{a:Nat}(hl:a<=s.length)(h:zkp s a<s.length):zk5 (s.getD (zkp s a) 0)=false:=by
 have:=qka (p:=zk5) (s.drop a) (by rw[Kr];unfold zkp at h;omega)
 rw[zpt]at this
 exact this
theorem qag {f:Nat->Option (Tm×Nat)}{s:Str}:∀(m e:Nat)(xs:List Tm)(e2:Nat),rdL f s m e=some (xs,e2)->∃E:Nat->Nat,E 0=e/\E xs.length=e2/\0<xs.length/\xs.length<=m/\∀k (hk:k<xs.length),f (E k+1)=some (xs[k],E (k+1))/\E (k+1)<s.length/\s.getD (E (k+1)) 0=if k+1<xs.length then 44 else 41
 | 0,e,xs,e2,h=>by cases h
 | m+1,e,xs,e2,h=>by
  rw[rdL]at h;split at h
  ·cases h
  ·rename_i x e' hx;split at h
   ·rename_i hl;split at h
    ·rename_i h41;simp only[Qf,Qp]at h;obtain⟨rfl,rfl⟩:=h;refine⟨fun k=>if k=0 then e else e',rfl,rfl,by simp,by simp,fun k hk=>?_⟩;have:k=0:=by simp at hk;omega
     subst this;exact⟨hx,hl,by simpa using h41⟩
    ·split at h
     ·rename_i h44;split at h
      ·cases h
      ·rename_i ys e3 hy;simp only[Qf,Qp]at h;obtain⟨rfl,rfl⟩:=h;obtain⟨E,E0,E1,hp,hm,hE⟩:=qag m e' ys e3 hy;refine⟨fun k=>Nat.casesOn k e fun j=>E j,rfl,E1,by simp,by simp;omega,fun k hk=>?_⟩;cases k with
       | zero =>
        refine⟨?_,?_,?_⟩
        ·show f (e+1)=some (x,E 0)
         rw[E0];exact hx
        ·show E 0<_
         rw[E0];exact hl
        ·show s.getD (E 0) 0=_
         rw[E0,if_pos (by simp;omega)];exact h44
       | succ k =>
        have:=hE k (by simp at hk;omega);refine⟨this.1,this.2.1,?_⟩;show s.getD (E (k+1)) 0=_
        rw[this.2.2];simp
     ·cases h
   ·cases h
theorem qls (s:Str)(hs:s.length<=4000):∀(n a:Nat)(t:Tm)(e:Nat),n<=1000->a<=s.length->rdT s n a=some (t,e)->FC Tryz.prog 242 [.one (.str s),iD a] [tmD t,iD e]
 | 0,a,t,e,hn,ha,h=>by cases h
 | n+1,a,t,e,hn,ha,h=>by
  rw[rdT]at h;split at h
  ·cases h
  ·rename_i hlt;have hW:=zk4 hs Yt ha;split at h
   ·rename_i he;simp only[Qf,Qp]at h;obtain⟨rfl,rfl⟩:=h;exact zpj s a _ hW (Or.inl he)
   ·rename_i hne;have hl:zkp s a<s.length:=by have:=hW.le;omega
    split at h
    ·rename_i h40;split at h
     ·cases h
     ·rename_i xs e2 hx;simp only[Qf,Qp]at h;obtain⟨rfl,rfl⟩:=h;obtain⟨E,E0,E1,hp,hm,hE⟩:=qag n _ xs e2 hx;have hEl:∀k,k<=xs.length->E k<s.length:=fun k hk=>by
       cases k with
       | zero=>rw[E0];exact hl
       | succ k=>exact(hE k Yt).2.1
      have:=qea s a E xs (by rw[E0];exact hW) (by rw[E0];exact hl) (by rw[E0];exact h40) hp Yt hEl (fun k hk=>qls s hs n (E k+1) _ _ Yt (by have:=hEl k Yt;omega) (hE k hk).1) (fun k hk=>(hE k hk).2.2);rw[E0,E1]at this;exact this
    ·rename_i h40;simp only[Qf,Qp]at h;obtain⟨rfl,rfl⟩:=h;refine zpj s a _ hW (Or.inr ⟨hl,qb3 ha hl,fun h=>h40 ?_⟩);rw[<-UInt8.toNat_inj];exact Int.ofNat.inj h
theorem rdT_le {s:Str}:∀(n a:Nat)(t:Tm)(e:Nat),a<=s.length->rdT s n a=some (t,e)->e<=s.length
 | 0,a,t,e,ha,h=>by cases h
 | n+1,a,t,e,ha,h=>by
  rw[rdT]at h;split at h
  ·cases h
  ·split at h
   ·simp only[Qf,Qp]at h;rw[<-h.2];exact zs2 s a ha
   ·split at h
    ·split at h
     ·cases h
     ·rename_i xs e2 hx;simp only[Qf,Qp]at h;obtain⟨E,E0,E1,hp,hm,hE⟩:=qag n _ xs e2 hx;have:=(hE (xs.length-1) Yt).2.1;rw[show xs.length-1+1=xs.length by omega,E1]at this;omega
    ·simp only[Qf,Qp]at h;rw[<-h.2];exact zs2 s a ha
theorem zc5 (s:Str)(t:Tm)(e:Nat)(hr:rdT s 20 0=some (t,e))(he:e=s.length)(hs:s.length<=4000)(hw:t.wt<=4000)(hg:t.good=true):FC Tryz.prog 140 [.one (.str s)] [tmD t,bD true]:=by
 have HR:=qls s hs 20 0 t e Yt Yt hr
 rw[he]at HR
 have HW:=qmx s t hs hw hg HR
 have h4:((s.length:Int)>4000)=False:=eq_false Yt
 simp only[tmD,zaa t]at HW⊢
 refine zak Tryz.call140 Tryz.func140 rfl Ys (zaz Ys) ?_
 simp -implicitDefEqProofs only[go_sem,Tryz.results140,h4]
 refine callF (HW) Yr ?_
 simp -implicitDefEqProofs only[go_sem]
end
section
open Go.RowKit
abbrev zc4 (code:List UInt8)(q:Cu)(f:Fm)(pos:Bool)(nm:List Str)(q':Cu)(e:Ex)(nm':List Str):Prop :=
 PC Tryz.prog 68 (za4 code q) [.p 0,.d false (fmD f),.d false (bD pos),.d false (.one (zbm nm))] (za4 code q') [(true,exD e),(false,.one (zbm nm'))]
def ExpP (code:List UInt8)(f:Fm)(pos:Bool)(c W M:Nat):Prop:=∀(nm:List Str)(q:Cu),q.code=code->q.pos+c<=1099511627776->nm.length+M<=90 →
 ∃(q':Cu) (e:Ex) (nm':List Str),q'.code=code/\q'.pos<=q.pos+c/\e.wt<=W/\nm'.length<=nm.length+M/\zc4 code q f pos nm q' e nm'
def exZ:Ex:=.mk (.mk 0 (.mk [] []) [] []) [] []
theorem qlc {code:List UInt8}{F:Nat->Fm}{B:Nat->Bool}{c W M:Nat}:∀(n:Nat),(∀k,k<n->ExpP code (F k) (B k) c W M)->∀(nm:List Str)(q:Cu),q.code=code->q.pos+n*c<=1099511627776->nm.length+n*M<=90 →
  ∃(Q:Nat->Cu) (N:Nat->List Str) (E:Nat->Ex),Q 0=q/\N 0=nm/\((Q n).code=code/\(Q n).pos<=q.pos+n*c/\(N n).length<=nm.length+n*M)/\∀k,k<n->(E k).wt<=W/\zc4 code (Q k) (F k) (B k) (N k) (Q (k+1)) (E k) (N (k+1))
 | 0,_,nm,q,hq,_,_=>⟨fun _=>q,fun _=>nm,fun _=>exZ,rfl,rfl,⟨hq,by show q.pos<=_;omega,by show nm.length<=_;omega⟩,fun k hk=>absurd hk Yt⟩
 | n+1,H,nm,q,hq,hp,hm=>by
  rw[Yf]at hp hm;obtain⟨Q,N,E,e1,e2,⟨h1,h2,h3⟩,hE⟩:=qlc n (fun k hk=>H k Yt) nm q hq Yt Yt;obtain⟨q',e,nm',k1,k2,k3,k4,k5⟩:=H n Yt (N n) (Q n) h1 Yt Yt;refine⟨fun k=>if k<=n then Q k else q',fun k=>if k<=n then N k else nm',fun k=>if k<n then E k else e,e1,e2,?_,fun k hk=>?_⟩
  ·simp only[show ¬n+1<=n by omega,if_false];rw[Yf,Yf];exact⟨k1,Yt,Yt⟩
  ·by_cases hlt:k<n
   ·simp only[show k<=n by omega,show k+1<=n by omega,if_true,hlt];exact hE k hlt
   ·have e:k=n:=by omega
    subst e;simp only[Qw,if_true,show ¬k+1<=k by omega,if_false,Ya];exact⟨k3,k5⟩
abbrev txL:List Str:=[[97],[98],[102,40,97,41],[69,49],[69,50],[102,40,69,49,41],[102,40,69,50,41]]
def egN (nm:List Str):Str:=69::Lib.decDigits (nm.length+1)
def qgf (v:Str)(p:Fm)(t:Tm):Bool:=(zbf v t p).2
def qfg (v:Str)(p:Fm)(t:Tm):Fm:=(zbf v t p).1
def qnl (code:List UInt8)(p:Fm)(v:Str)(pos strong:Bool)(q:Cu)(nm:List Str)(ts:List Tm)(es:List Ex)(q':Cu)(nm':List Str)(ts':List Tm)(es':List Ex):Prop :=
 ∃(r:Cu) (t:Tm) (nm1:List Str),((strong=true/\r=q/\t=.mk (egN nm) []/\nm1=nm++[egN nm])\/(strong=false/\nm1=nm/\∃s,PC Tryz.prog 137 (za4 code q) [.p 0,.d true (.one (zbm txL))] (za4 code r) [(true,.one (.str s))]/\FC Tryz.prog 140 [.one (.str s)] [tmD t,bD true])) ∧
  (t.wt<=20/\nm1.length<=91)/\((qgf v p t=false/\q'=r/\nm'=nm1/\ts'=ts/\es'=es)\/(qgf v p t=true/\0<=zc9 ts (fun a=>same a t)/\q'=r/\nm'=nm1/\ts'=ts/\es'=es)\/(qgf v p t=true/\zc9 ts (fun a=>same a t)<0/\∃e,zc4 code r (qfg v p t) pos nm1 q' e nm'/\ts'=ts++[t]/\es'=es++[e]))
end
section
open Go.RowKit
def upX {α:Type}(X:Nat->α)(k:Nat):List α:=(List.range k).map X
theorem qh5 {α:Type}(X:Nat->α):upX X 0=[]:=rfl
theorem zuq {α:Type}(X:Nat->α)(k:Nat):upX X (k+1)=upX X k++[X k]:=by
 unfold upX;rw[List.range_succ,Qt];rfl
theorem zrq {α:Type}(X:Nat->α)(k:Nat):(upX X k).length=k:=by unfold upX;simp
end
section
open Go.RowKit
def sgB (f:Fm)(pos:Bool)(k:Nat):Bool:=pos != (f.op==4||(f.op==7&&((k:Int)==0)))
theorem zp5 (code:List UInt8)(f:Fm)(pos:Bool)(hq:isQ f.op=false)(hw:f.wt<=1048576)(q:Cu)(nm:List Str)(Q:Nat->Cu)(N:Nat->List Str)(E:Nat->Ex)(e1:Q 0=q)(e2:N 0=nm)
  (hE:∀k (hk:k<f.parts.length),zc4 code (Q k) f.parts[k] (sgB f pos k) (N k) (Q (k+1)) (E k) (N (k+1))):zc4 code q f pos nm (Q f.parts.length) (.mk f [] (upX E f.parts.length)) (N f.parts.length):=by
 have HO:=zkc f hw
 have HQ:=zcr f
 rw[hq]at HQ
 have hl:f.parts.length<=1048576:=by have:=f.wt_eq;omega
 unfold zc4
 rw[show exD (.mk f [] (upX E f.parts.length))=.agg [.int .i64 f.op,.str f.atom.name,.sl 2 (f.atom.args.map tmC),.str f.var,.sl 5 (f.parts.map fmC),.sl 2 [],.sl 7 ((upX E f.parts.length).map exC)] from congrArg D.agg (zi5 _ _ _)]
 simp only[fmD,zab f]at HO HQ⊢
 refine zbh Tryz.call68 Tryz.func68 rfl Ys (by simp only[Qb,Qe,Tryz.ntmps68];omega) (by simp only[Tryz.ntmps68];omega) rfl rfl (by simp[zau,T.isPin,AF.ds,bxA]) (by simp[gFS,T.fs,T.flat,AF.ds,bxA]) rfl ?_
 simp -implicitDefEqProofs only[go_sem,Tryz.results68]
 refine callF (HO) Yr ?_
 simp -implicitDefEqProofs only[go_sem]
 refine callF (HQ) Yr ?_
 simp -implicitDefEqProofs only[go_sem]
 refine zaf (fun k:Nat=>hd [(0,.one (.bx 1000000 0)),(2,vB pos),(3,.one (.rn (zbm (N k)))),(5,.one (.bx 5 0)),(8,.one (.bx 8 0)),(10,.one (.bx 10 0)),(11,vI k),(1000000,.one (.bx 1000000 0))] [(5,[.t (.int .i64 f.op),.t (.str f.atom.name),.rn (tmS f.atom.args),.t (.str f.var),.rn (fmS f.parts)]),(8,[.t (.int .i64 0),.t (.str []),.nl 2,.t (.str []),.nl 5,.nl 2,.nl 7]),(10,[.t (.int .i64 f.op),.t (.str f.atom.name),.ow 674 0,.t (.str f.var),.ow 676 0,.nl 2,.ow 6000 k]),(1000000,[.rn (zou code),.t (.int .i64 (Q k).pos),.t (.int .u64 (Q k).seed)])] [(674,⟨true,2,f.atom.args.map tmC,0,true⟩),(676,⟨true,5,f.parts.map fmC,0,true⟩),(6000,⟨true,7,(upX E k).map exC,k,true⟩)]) (fun k=>k<=f.parts.length) (fun k=>f.parts.length-k) 0 (zad ?_) (Q1 _) ?_
 ·rw[e1,e2];simp -implicitDefEqProofs only[go_sem,qh5,Qk]
 ·intro k hk;by_cases hlt:k<f.parts.length
  ·have hwk:IntKind.i64.wrap ((k:Int)+1)=((k+1:Nat):Int):=zam Yt;have HS:=zdr f (k:Int) pos;have HK:=hE k hlt;have hk4:k<=4294967295:=by omega
   rw[show(pos != (f.op==4||(f.op==7&&((k:Int)==0))))=sgB f pos k from rfl]at HS;unfold zc4 at HK;simp only[fmD,zab f]at HS;simp only[fmD,zab f.parts[k],exD,zae (E k)]at HK;simp -implicitDefEqProofs only[go_sem,hlt,Qa];refine drawn Ys ?_;simp -implicitDefEqProofs only[go_sem,hlt,Qa,zac,zab f.parts[k]];refine zaj (HS) Yr ?_;simp -implicitDefEqProofs only[go_sem];refine zfk [1000000] (HK) (by decide) Yr Yr ?_;simp -implicitDefEqProofs only[go_sem];refine⟨Ys,?_⟩;refine zap Yr ?_;simp -implicitDefEqProofs only[go_sem];refine apD true (by simp -implicitDefEqProofs only[go_sem,ne_eq,Qa,zrq,hk4]) ?_;simp -implicitDefEqProofs only[go_sem,ne_eq,Qa,zrq,hk4];refine⟨k+1,hlt,Yt,zad ?_⟩;rw[zuq,Qt,Qi,Qk,zae (E k)];simp -implicitDefEqProofs only[go_sem];rw[hwk]
  ·simp -implicitDefEqProofs only[go_sem,hlt,Qa];left;rw[show k=f.parts.length by omega];exact⟨Or.inl rfl,rfl,rfl,rfl⟩
end
section
open Go.RowKit
theorem qok (nm:List Str):flR (nm.map fun s=>[T.str s])=true:=by
 induction nm with
 | nil=>rfl
 | cons x xs ih=>show([T.str x].all T.flat&&flR (xs.map _))=true;rw[ih];rfl
abbrev nqL:List Int:=[1,1,2,2,3,0]
theorem qck (code:List UInt8)(f p:Fm)(pos strong:Bool)(hq:isQ f.op=true)(hp:f.parts=[p])(hpf:p.forms=true)(hw:f.wt<=10000)(hs:((f.op==8)==pos)=strong)(n:Nat)(hn3:n<=3)(q q1:Cu)(nm:List Str)
  (hn:(strong=true/\n=1/\q1=q)\/(strong=false/\PC Tryz.prog 138 (za4 code q) [.p 0,.d true (.one (intS nqL))] (za4 code q1) [(true,iD (n:Int))]))
  (Q:Nat->Cu) (N:Nat->List Str) (TS:Nat->List Tm) (ES:Nat->List Ex) (e1:Q 0=q1) (e2:N 0=nm) (e3:TS 0=[]) (e4:ES 0=[]) (hN:∀k,k<n->(N k).length<=90/\(TS k).length<=3/\(ES k).length<=3)
  (hE:∀k,k<n->qnl code p f.var pos strong (Q k) (N k) (TS k) (ES k) (Q (k+1)) (N (k+1)) (TS (k+1)) (ES (k+1))):zc4 code q f pos nm (Q n) (.mk f (TS n) (ES n)) (N n):=by
 have HO:=zkc f Yt
 have HQ:=zcr f
 have HS:=zd3 f pos
 rw[hq]at HQ
 rw[hq,hs,Qq]at HS
 have hpw:p.wt<=10000:=by
  have:=f.wt_eq;rw[hp]at this;simp only[Qi,Qk,Qz,Ks]at this;omega
 have HPt:=fun(t:Tm) (ht:t.wt<=20)=>zre f.var t Yt p hpf Yt (by
  have:(1+p.wt)*t.wt<=10001*20:=Yo Yt ht
  omega)
 unfold zc4
 rw[show exD (.mk f (TS n) (ES n))=.agg [.int .i64 f.op,.str f.atom.name,.sl 2 (f.atom.args.map tmC),.str f.var,.sl 5 (f.parts.map fmC),.sl 2 ((TS n).map tmC),.sl 7 ((ES n).map exC)] from congrArg D.agg (zi5 _ _ _)]
 simp only[fmD,zab f]at HO HQ HS⊢
 have body:∀σ0:St,True:=fun _=>trivial
 clear body
 rcases hn with⟨rfl,hn1,rfl⟩|⟨rfl,HA⟩
 ·refine zbh Tryz.call68 Tryz.func68 rfl Ys (by simp only[Qb,Qe,Tryz.ntmps68];omega) (by simp only[Tryz.ntmps68];omega) rfl rfl (by simp[zau,T.isPin,AF.ds,bxA]) (by simp[gFS,T.fs,T.flat,AF.ds,bxA]) rfl ?_;simp -implicitDefEqProofs only[go_sem,Tryz.results68];refine callF (HO) Yr ?_;simp -implicitDefEqProofs only[go_sem];refine callF (HQ) Yr ?_;simp -implicitDefEqProofs only[go_sem];refine callF (HS) Yr ?_;simp -implicitDefEqProofs only[go_sem];refine zaf (fun k:Nat=>hd [(0,.one (.bx 1000000 0)),(2,vB pos),(3,.one (.rn (zbm (N k)))),(5,.one (.bx 5 0)),(8,.one (.bx 8 0)),(10,.one (.bx 10 0)),(14,vI ((n:Int)-k)),(1000000,.one (.bx 1000000 0))] [(5,[.t (.int .i64 f.op),.t (.str f.atom.name),.rn (tmS f.atom.args),.t (.str f.var),.rn (fmS f.parts)]),(8,[.t (.int .i64 0),.t (.str []),.nl 2,.t (.str []),.nl 5,.nl 2,.nl 7]),(10,[.t (.int .i64 f.op),.t (.str f.atom.name),.ow 674 0,.t (.str f.var),.ow 676 0,.ow 6001 (TS k).length,.ow 6000 (ES k).length]),(1000000,[.rn (zou code),.t (.int .i64 (Q k).pos),.t (.int .u64 (Q k).seed)])] [(674,⟨true,2,f.atom.args.map tmC,0,true⟩),(676,⟨true,5,f.parts.map fmC,0,true⟩),(6001,⟨true,2,(TS k).map tmC,(TS k).length,true⟩),(6000,⟨true,7,(ES k).map exC,(ES k).length,true⟩)]) (fun k=>k<=n) (fun k=>n-k) 0 (zad ?_) (Q1 _) ?_
  ·rw[e1,e2,e3,e4];simp -implicitDefEqProofs only[go_sem,Qk,Qe];rw[hn1];rfl
  ·intro k hk;by_cases hlt:k<n
   ·have h0:(0<(n:Int)-(k:Int))=True:=eq_true Yt;have hwk:IntKind.i64.wrap ((n:Int)-(k:Int)-1)=(n:Int)-((k+1:Nat):Int):=by rw[zbn Yt Yt];omega
    obtain⟨b1,b2,b3⟩:=hN k hlt;have c2:(TS k).length<=4294967295:=by omega
    have c3:(ES k).length<=4294967295:=by omega
    have hw1:IntKind.i64.wrap (((N k).length:Int)+1)=(((N k).length+1:Nat):Int):=zam Yt;have HN:=qdb ((N k).length+1) Yt;have hdl:=zuh ((N k).length+1) Yt;have hf1:=qok (N k);have ha1:0+(N k).length<=4294967296:=by omega
    have ha2:(N k).length<=4294967295:=by omega
    obtain⟨r,t,nm1,hv,⟨ht,hl1⟩,hstep⟩:=hE k hlt;rcases hv with⟨_,rfl,rfl,rfl⟩|⟨hv,_⟩
    ·have HPut:=HPt (.mk (egN (N k)) []) ht;rw[show(zbf f.var (.mk (egN (N k)) []) p).2=qgf f.var p (.mk (egN (N k)) []) from rfl,show(zbf f.var (.mk (egN (N k)) []) p).1=qfg f.var p (.mk (egN (N k)) []) from rfl]at HPut;simp only[fmD,zab p,zab (qfg f.var p _),tmD,zaa (.mk _ [])]at HPut;simp -implicitDefEqProofs only[go_sem,h0,Qa];rw[hw1];have he:(69::Lib.decDigits ((N k).length+1))=egN (N k):=rfl;have hnr:List.map (fun s=>[T.str s]) (N k)++[[T.str (egN (N k))]]=List.map (fun s=>[T.str s]) (N k++[egN (N k)]):=by rw[Qt];rfl
     have htn:(Tm.mk (egN (N k)) []).name=egN (N k):=rfl;have hta:(Tm.mk (egN (N k)) []).args=[]:=rfl;refine callF (HN) (by simp -implicitDefEqProofs only[go_sem,Qb,Qe,he]) ?_;simp -implicitDefEqProofs only[go_sem,Qb,Qe,he];refine⟨Yt,?_⟩;refine callF (HS) Yr ?_;simp -implicitDefEqProofs only[go_sem];refine drawn Ys ?_;simp -implicitDefEqProofs only[go_sem];refine za8 Yr ?_;simp -implicitDefEqProofs only[go_sem];refine zek true (by simp -implicitDefEqProofs only[go_sem,ha1,hf1]) ?_;simp -implicitDefEqProofs only[go_sem,ha1,hf1];refine za8 Yr ?_;simp -implicitDefEqProofs only[go_sem];refine zek true (by simp -implicitDefEqProofs only[go_sem,ha2,hf1,ne_eq,Qa]) ?_;simp -implicitDefEqProofs only[go_sem,ha2,hf1,ne_eq,Qa];refine⟨Ys,?_⟩;refine frzD 2464 ?_;simp -implicitDefEqProofs only[go_sem,hnr];rcases hstep with⟨hb,m1,m2,m3,m4⟩|⟨hb,hi,m1,m2,m3,m4⟩|⟨hb,hi,e,HK,m3,m4⟩
     ·rw[hb]at HPut;refine drawn Ys ?_;simp -implicitDefEqProofs only[go_sem,hp,Qb,Qe,Qi,Qk,zab p];refine zaj (HPut) (by simp -implicitDefEqProofs only[go_sem,htn,hta,Qk]) ?_;simp -implicitDefEqProofs only[go_sem,htn,hta,Qk];refine⟨Ys,?_⟩;refine⟨k+1,hlt,Yt,zad ?_⟩;rw[m1,m2,m3,m4];simp -implicitDefEqProofs only[go_sem,hp,hwk]
     ·rw[hb]at HPut;have gi:(0<=zc9 (TS k) (fun a=>same a (.mk (egN (N k)) [])))=True:=eq_true hi;have HI:=zc7 (TS k) (.mk (egN (N k)) []);simp only[tmD,zaa (.mk (egN (N k)) [])]at HI;refine drawn Ys ?_;simp -implicitDefEqProofs only[go_sem,hp,Qb,Qe,Qi,Qk,zab p];refine zaj (HPut) (by simp -implicitDefEqProofs only[go_sem,htn,hta,Qk]) ?_;simp -implicitDefEqProofs only[go_sem,htn,hta,Qk];refine⟨Ys,?_⟩;refine callF (HI) (by simp -implicitDefEqProofs only[go_sem,gi,htn,hta,Qk]) ?_;simp -implicitDefEqProofs only[go_sem,gi,htn,hta,Qk];refine⟨k+1,hlt,Yt,zad ?_⟩;rw[m1,m2,m3,m4];simp -implicitDefEqProofs only[go_sem,hp,hwk]
     ·rw[hb]at HPut;have gi:(0<=zc9 (TS k) (fun a=>same a (.mk (egN (N k)) [])))=False:=eq_false Yt;have HI:=zc7 (TS k) (.mk (egN (N k)) []);simp only[tmD,zaa (.mk (egN (N k)) [])]at HI;unfold zc4 at HK;simp only[fmD,zab (qfg f.var p (.mk (egN (N k)) [])),exD,zae e]at HK;refine drawn Ys ?_;simp -implicitDefEqProofs only[go_sem,hp,Qb,Qe,Qi,Qk,zab p];refine zaj (HPut) (by simp -implicitDefEqProofs only[go_sem,htn,hta,Qk]) ?_;simp -implicitDefEqProofs only[go_sem,htn,hta,Qk];refine⟨Ys,?_⟩;refine callF (HI) (by simp -implicitDefEqProofs only[go_sem,gi,htn,hta,Qk]) ?_;simp -implicitDefEqProofs only[go_sem,gi,htn,hta,Qk];refine zd0 3170 rfl rfl ?_;simp -implicitDefEqProofs only[go_sem];refine zd0 3172 rfl rfl ?_;simp -implicitDefEqProofs only[go_sem];refine callQ [1000000] (HK) (by decide) Yr Yr ?_;simp -implicitDefEqProofs only[go_sem];refine zap Yr ?_;simp -implicitDefEqProofs only[go_sem];refine apD true (by simp -implicitDefEqProofs only[go_sem,ne_eq,Qa,c2,htn,hta,Qk]) ?_;simp -implicitDefEqProofs only[go_sem,ne_eq,Qa,c2,htn,hta,Qk];refine zap Yr ?_;simp -implicitDefEqProofs only[go_sem];refine apD true (by simp -implicitDefEqProofs only[go_sem,ne_eq,Qa,c3]) ?_;simp -implicitDefEqProofs only[go_sem,ne_eq,Qa,c3];refine⟨k+1,hlt,Yt,zad ?_⟩;simp only[m3,m4,Qt,Qi,Qk,zae e,zaa (.mk (egN (N k)) [])];simp -implicitDefEqProofs only[go_sem,hp,htn,hta,Qk,hwk,Qh,Qb,Qe]
    ·cases hv
   ·have h0:(0<(n:Int)-(k:Int))=False:=eq_false Yt;simp -implicitDefEqProofs only[go_sem,h0];left;rw[show k=n by omega];exact⟨Or.inl rfl,Or.inl rfl,rfl,rfl,rfl⟩
 ·refine zbh Tryz.call68 Tryz.func68 rfl Ys (by simp only[Qb,Qe,Tryz.ntmps68];omega) (by simp only[Tryz.ntmps68];omega) rfl rfl (by simp[zau,T.isPin,AF.ds,bxA]) (by simp[gFS,T.fs,T.flat,AF.ds,bxA]) rfl ?_;simp -implicitDefEqProofs only[go_sem,Tryz.results68];refine callF (HO) Yr ?_;simp -implicitDefEqProofs only[go_sem];refine callF (HQ) Yr ?_;simp -implicitDefEqProofs only[go_sem];refine callF (HS) Yr ?_;simp -implicitDefEqProofs only[go_sem];refine zap Yr ?_;simp -implicitDefEqProofs only[go_sem];refine zaq [0,2,3,5,8,10,1000000] [61,62] [1000000] [] (HA) (by decide) rfl Yr Yr Yr Yr ?_;simp -implicitDefEqProofs only[go_sem];refine zaf (fun k:Nat=>hd [(0,.one (.bx 1000000 0)),(2,vB pos),(3,.one (.rn (zbm (N k)))),(5,.one (.bx 5 0)),(8,.one (.bx 8 0)),(10,.one (.bx 10 0)),(14,vI ((n:Int)-k)),(1000000,.one (.bx 1000000 0))] [(5,[.t (.int .i64 f.op),.t (.str f.atom.name),.rn (tmS f.atom.args),.t (.str f.var),.rn (fmS f.parts)]),(8,[.t (.int .i64 0),.t (.str []),.nl 2,.t (.str []),.nl 5,.nl 2,.nl 7]),(10,[.t (.int .i64 f.op),.t (.str f.atom.name),.ow 674 0,.t (.str f.var),.ow 676 0,.ow 6001 (TS k).length,.ow 6000 (ES k).length]),(1000000,[.rn (zou code),.t (.int .i64 (Q k).pos),.t (.int .u64 (Q k).seed)])] [(674,⟨true,2,f.atom.args.map tmC,0,true⟩),(676,⟨true,5,f.parts.map fmC,0,true⟩),(6001,⟨true,2,(TS k).map tmC,(TS k).length,true⟩),(6000,⟨true,7,(ES k).map exC,(ES k).length,true⟩)]) (fun k=>k<=n) (fun k=>n-k) 0 (zad ?_) (Q1 _) ?_
  ·rw[e1,e2,e3,e4];simp -implicitDefEqProofs only[go_sem,Qk,Qe];simp only[Int.sub_zero,Int.ofNat_zero,Int.natCast_zero]
  ·intro k hk;by_cases hlt:k<n
   ·have h0:(0<(n:Int)-(k:Int))=True:=eq_true Yt;have hwk:IntKind.i64.wrap ((n:Int)-(k:Int)-1)=(n:Int)-((k+1:Nat):Int):=by rw[zbn Yt Yt];omega
    obtain⟨b1,b2,b3⟩:=hN k hlt;have c2:(TS k).length<=4294967295:=by omega
    have c3:(ES k).length<=4294967295:=by omega
    have hw1:IntKind.i64.wrap (((N k).length:Int)+1)=(((N k).length+1:Nat):Int):=zam Yt;have HN:=qdb ((N k).length+1) Yt;have hdl:=zuh ((N k).length+1) Yt;obtain⟨r,t,nm1,hv,⟨ht,hl1⟩,hstep⟩:=hE k hlt;rcases hv with⟨hv,_⟩|⟨_,rfl,s,HOf,HPa⟩
    ·cases hv
    ·have HPut:=HPt t ht;rw[show(zbf f.var t p).2=qgf f.var p t from rfl,show(zbf f.var t p).1=qfg f.var p t from rfl]at HPut;simp only[fmD,zab p,zab (qfg f.var p _),tmD,zaa t]at HPut;simp only[tmD,zaa t]at HPa;simp -implicitDefEqProofs only[go_sem,h0,Qa];rw[hw1];refine callF (HN) (by simp -implicitDefEqProofs only[go_sem,Qb,Qe]) ?_;simp -implicitDefEqProofs only[go_sem,Qb,Qe];refine⟨Yt,?_⟩;refine callF (HS) Yr ?_;simp -implicitDefEqProofs only[go_sem];refine zap Yr ?_;simp -implicitDefEqProofs only[go_sem];refine zaq [0,2,3,5,8,10,14,15,1000000] [85,86] [1000000] [] (HOf) (by decide) rfl Yr Yr Yr Yr ?_;simp -implicitDefEqProofs only[go_sem];refine callF (HPa) Yr ?_;simp -implicitDefEqProofs only[go_sem];rcases hstep with⟨hb,m1,m2,m3,m4⟩|⟨hb,hi,m1,m2,m3,m4⟩|⟨hb,hi,e,HK,m3,m4⟩
     ·rw[hb]at HPut;refine drawn Ys ?_;simp -implicitDefEqProofs only[go_sem,hp,Qb,Qe,Qi,Qk,zab p];refine zaj (HPut) (by simp -implicitDefEqProofs only[go_sem,Qa]) ?_;simp -implicitDefEqProofs only[go_sem,Qa];refine⟨Ys,?_⟩;refine⟨k+1,hlt,Yt,zad ?_⟩;rw[m1,m2,m3,m4];simp -implicitDefEqProofs only[go_sem,hp,hwk]
     ·rw[hb]at HPut;have gi:(0<=zc9 (TS k) (fun a=>same a t))=True:=eq_true hi;have HI:=zc7 (TS k) t;simp only[tmD,zaa t]at HI;refine drawn Ys ?_;simp -implicitDefEqProofs only[go_sem,hp,Qb,Qe,Qi,Qk,zab p];refine zaj (HPut) (by simp -implicitDefEqProofs only[go_sem,Qa]) ?_;simp -implicitDefEqProofs only[go_sem,Qa];refine⟨Ys,?_⟩;refine callF (HI) (by simp -implicitDefEqProofs only[go_sem,gi,Qa]) ?_;simp -implicitDefEqProofs only[go_sem,gi,Qa];refine⟨k+1,hlt,Yt,zad ?_⟩;rw[m1,m2,m3,m4];simp -implicitDefEqProofs only[go_sem,hp,hwk]
     ·rw[hb]at HPut;have gi:(0<=zc9 (TS k) (fun a=>same a t))=False:=eq_false Yt;have HI:=zc7 (TS k) t;simp only[tmD,zaa t]at HI;unfold zc4 at HK;simp only[fmD,zab (qfg f.var p t),exD,zae e]at HK;refine drawn Ys ?_;simp -implicitDefEqProofs only[go_sem,hp,Qb,Qe,Qi,Qk,zab p];refine zaj (HPut) (by simp -implicitDefEqProofs only[go_sem,Qa]) ?_;simp -implicitDefEqProofs only[go_sem,Qa];refine⟨Ys,?_⟩;refine callF (HI) (by simp -implicitDefEqProofs only[go_sem,gi,Qa]) ?_;simp -implicitDefEqProofs only[go_sem,gi,Qa];refine zd0 3170 rfl rfl ?_;simp -implicitDefEqProofs only[go_sem];refine zd0 3172 rfl rfl ?_;simp -implicitDefEqProofs only[go_sem];refine callQ [1000000] (HK) (by decide) Yr Yr ?_;simp -implicitDefEqProofs only[go_sem];refine zap Yr ?_;simp -implicitDefEqProofs only[go_sem];refine apD true (by simp -implicitDefEqProofs only[go_sem,ne_eq,Qa,c2,Qa]) ?_;simp -implicitDefEqProofs only[go_sem,ne_eq,Qa,c2,Qa];refine zap Yr ?_;simp -implicitDefEqProofs only[go_sem];refine apD true (by simp -implicitDefEqProofs only[go_sem,ne_eq,Qa,c3]) ?_;simp -implicitDefEqProofs only[go_sem,ne_eq,Qa,c3];refine⟨k+1,hlt,Yt,zad ?_⟩;simp only[m3,m4,Qt,Qi,Qk,zae e,zaa t];simp -implicitDefEqProofs only[go_sem,hp,Qa,hwk,Qh,Qb,Qe]
   ·have h0:(0<(n:Int)-(k:Int))=False:=eq_false Yt;simp -implicitDefEqProofs only[go_sem,h0];left;rw[show k=n by omega];exact⟨Or.inl rfl,Or.inl rfl,rfl,rfl,rfl⟩
end
section
open Go.RowKit
theorem eg_wt (nm:List Str)(h:nm.length<=90):(Tm.mk (egN nm) []).wt<=20:=by
 have hd:=zuh (nm.length+1) Yt
 rw[Tm.wt_eq]
 show(Lib.decDigits (nm.length+1)).length+1+0+0<=20
 omega
theorem qab (s:Str)(hs:s∈txL):∃t:Tm,t.wt<=20/\FC Tryz.prog 140 [.one (.str s)] [tmD t,bD true]:=by
 simp only[txL,Qu,Jg,or_false]at hs
 rcases hs with rfl|rfl|rfl|rfl|rfl|rfl|rfl
 ·exact⟨.mk [97] [],by decide,zc5 _ _ 1 Ys rfl (by decide) (by decide) Ys⟩
 ·exact⟨.mk [98] [],by decide,zc5 _ _ 1 Ys rfl (by decide) (by decide) Ys⟩
 ·exact⟨.mk [102] [.mk [97] []],by decide,zc5 _ _ 4 Ys rfl (by decide) (by decide) Ys⟩
 ·exact⟨.mk [69,49] [],by decide,zc5 _ _ 2 Ys rfl (by decide) (by decide) Ys⟩
 ·exact⟨.mk [69,50] [],by decide,zc5 _ _ 2 Ys rfl (by decide) (by decide) Ys⟩
 ·exact⟨.mk [102] [.mk [69,49] []],by decide,zc5 _ _ 5 Ys rfl (by decide) (by decide) Ys⟩
 ·exact⟨.mk [102] [.mk [69,50] []],by decide,zc5 _ _ 5 Ys rfl (by decide) (by decide) Ys⟩
theorem stepE {code:List UInt8}{p:Fm}{v:Str}{pos strong:Bool}{c W M s1:Nat}(Hx:∀t,qgf v p t=true->ExpP code (qfg v p t) pos c W M)(h1:strong=true->1<=s1)(nm:List Str)(q:Cu)(ts:List Tm)(es:List Ex)(hq:q.code=code)(hp:q.pos+(c+1)<=1099511627776)(hm:nm.length+(M+s1)<=90) :
  ∃(q':Cu) (nm':List Str) (ts':List Tm) (es':List Ex),q'.code=code/\q'.pos<=q.pos+(c+1)/\nm'.length<=nm.length+(M+s1)/\qnl code p v pos strong q nm ts es q' nm' ts' es'/\((ts'=ts/\es'=es)\/∃t e,ts'=ts++[t]/\es'=es++[e]/\t.wt<=20/\e.wt<=W):=by
 have mid:∃(r:Cu) (t:Tm) (nm1:List Str),r.code=code/\r.pos<=q.pos+1/\nm1.length<=nm.length+s1/\t.wt<=20/\((strong=true/\r=q/\t=.mk (egN nm) []/\nm1=nm++[egN nm])\/(strong=false/\nm1=nm/\∃s,PC Tryz.prog 137 (za4 code q) [.p 0,.d true (.one (zbm txL))] (za4 code r) [(true,.one (.str s))]/\FC Tryz.prog 140 [.one (.str s)] [tmD t,bD true])):=by
  cases strong
  ·obtain⟨r,s,k1,k2,k3,k4⟩:=ofD code txL (by decide) (by decide) q hq Yt;obtain⟨t,ht,HP⟩:=qab s k3;exact⟨r,t,nm,k1,k2,Yt,ht,Or.inr ⟨rfl,rfl,s,k4,HP⟩⟩
  ·have:=h1 rfl;exact⟨q,_,_,hq,Yt,by simp only[Qh,Qb,Qe];omega,eg_wt nm Yt,Or.inl ⟨rfl,rfl,rfl,rfl⟩⟩
 obtain⟨r,t,nm1,a1,a2,a3,a4,a5⟩:=mid
 cases hb:qgf v p t
 ·exact⟨r,nm1,ts,es,a1,Yt,Yt,⟨r,t,nm1,a5,⟨a4,Yt⟩,Or.inl ⟨hb,rfl,rfl,rfl,rfl⟩⟩,Or.inl ⟨rfl,rfl⟩⟩
 ·by_cases hi:0<=zc9 ts (fun a=>same a t)
  ·exact⟨r,nm1,ts,es,a1,Yt,Yt,⟨r,t,nm1,a5,⟨a4,Yt⟩,Or.inr (Or.inl ⟨hb,hi,rfl,rfl,rfl,rfl⟩)⟩,Or.inl ⟨rfl,rfl⟩⟩
  ·obtain⟨q',e,nm',k1,k2,k3,k4,k5⟩:=Hx t hb nm1 r a1 Yt Yt;exact⟨q',nm',ts++[t],es++[e],k1,Yt,Yt,⟨r,t,nm1,a5,⟨a4,Yt⟩,Or.inr (Or.inr ⟨hb,Yt,e,k5,rfl,rfl⟩)⟩,Or.inr ⟨t,e,rfl,rfl,a4,k3⟩⟩
theorem qkw {code:List UInt8}{p:Fm}{v:Str}{pos strong:Bool}{c W M s1:Nat}(Hx:∀t,qgf v p t=true->ExpP code (qfg v p t) pos c W M)(h1:strong=true->1<=s1):∀(n:Nat),n<=3->∀(nm:List Str)(q:Cu),q.code=code->q.pos+n*(c+1)<=1099511627776->nm.length+n*(M+s1)<=90 →
  ∃(Q:Nat->Cu) (N:Nat->List Str) (TS:Nat->List Tm) (ES:Nat->List Ex),Q 0=q/\N 0=nm/\TS 0=[]/\ES 0=[]/\((Q n).code=code/\(Q n).pos<=q.pos+n*(c+1)/\(N n).length<=nm.length+n*(M+s1)/\(TS n).length<=n/\(ES n).length<=n/\((TS n).map Tm.wt).sum<=n*20/\((ES n).map Ex.wt).sum<=n*W) ∧
   ∀k,k<n->((N k).length<=90/\(TS k).length<=3/\(ES k).length<=3)/\qnl code p v pos strong (Q k) (N k) (TS k) (ES k) (Q (k+1)) (N (k+1)) (TS (k+1)) (ES (k+1))
 | 0,_,nm,q,hq,_,_=>⟨fun _=>q,fun _=>nm,fun _=>[],fun _=>[],rfl,rfl,rfl,rfl,⟨hq,by show q.pos<=_;omega,by show nm.length<=_;omega,Qw _,Qw _,Q1 _,Q1 _⟩,fun k hk=>absurd hk Yt⟩
 | n+1,hn,nm,q,hq,hp,hm=>by
  rw[Yf]at hp hm;obtain⟨Q,N,TS,ES,e1,e2,e3,e4,⟨b1,b2,b3,b4,b5,b6,b7⟩,hE⟩:=qkw Hx h1 n Yt nm q hq Yt Yt;obtain⟨q',nm',ts',es',k1,k2,k3,k4,k5⟩:=stepE Hx h1 (N n) (Q n) (TS n) (ES n) b1 Yt Yt;refine⟨fun k=>if k<=n then Q k else q',fun k=>if k<=n then N k else nm',fun k=>if k<=n then TS k else ts',fun k=>if k<=n then ES k else es',e1,e2,e3,e4,?_,fun k hk=>?_⟩
  ·simp only[show ¬n+1<=n by omega,if_false];rw[Yf,Yf,Yf,Yf];rcases k5 with⟨rfl,rfl⟩|⟨t,e,rfl,rfl,h3,h4⟩
   ·exact⟨k1,Yt,Yt,Yt,Yt,Yt,Yt⟩
   ·simp only[Qh,Qb,Qe,Qt,Qi,Qk,Js,Qz,Ks];exact⟨k1,Yt,Yt,Yt,Yt,Yt,Yt⟩
  ·by_cases hlt:k<n
   ·simp only[show k<=n by omega,show k+1<=n by omega,if_true];exact hE k hlt
   ·have e:k=n:=by omega
    subst e;simp only[Qw,if_true,show ¬k+1<=k by omega,if_false];exact⟨⟨Yt,Yt,Yt⟩,k4⟩
theorem zyv (E:Nat->Ex)(W:Nat):∀n:Nat,(∀k,k<n->(E k).wt<=W)->((upX E n).map Ex.wt).sum<=n*W
 | 0,_=>Q1 _
 | n+1,h=>by
  rw[zuq,Qt,Js,Yf];have h1:=zyv E W n fun k hk=>h k Yt;have h2:=h n Yt;show _+((E n).wt+0)<=_
  omega
def zyt:Nat->Nat
 | 0=>0
 | d+1=>1+3*(zyt d+1)
def zyk:Nat->Nat
 | 0=>0
 | d+1=>3640+3*zyk d
def zvw:Nat->Nat
 | 0=>0
 | 1=>0
 | d+2=>1+3*zvw (d+1)
theorem isQ_or {o:Int}(h:isQ o=true):o=8\/o=9:=by
 unfold isQ at h
 simp only[Jl,Ko]at h
 exact h
theorem expP (code:List UInt8):∀(D:Nat)(f:Fm)(pos:Bool),FmG f 15 (D+1)->ExpP code f pos (zyt (D+1)) (zyk (D+1)) (zvw (D+1))
 | 0,f,pos,hf=>fun nm q hq hp hm=>by
  have hw:=hf.wt;have h0:=hf.flat;have hQ:isQ f.op=false:=by
   cases hq:isQ f.op
   ·rfl
   ·rcases ze0 hf.fm with⟨_,h|h|h⟩|⟨p,h1,_⟩|⟨o',p,q,_,h1,_⟩|⟨o',v',p,_,h1,_⟩
    ·rw[h]at hq;cases hq
    ·rw[h]at hq;cases hq
    ·rw[h]at hq;cases hq
    ·rw[h1]at h0;cases h0
    ·rw[h1]at h0;cases h0
    ·rw[h1]at h0;cases h0
  have HE:=zp5 code f pos hQ Yt q nm (fun _=>q) (fun _=>nm) (fun _=>exZ) rfl rfl (fun k hk=>by rw[h0]at hk;exact absurd hk (by simp));rw[h0]at HE;refine⟨q,_,nm,hq,Yt,?_,Yt,HE⟩;rw[Ex.wt_eq];show f.wt+0+0<=_
  show _<=3640+3*0
  omega
 | D+1,f,pos,hf=>fun nm q hq hp hm=>by
  have hw:=hf.wt;have hC:zyt (D+1+1)=1+3*(zyt (D+1)+1):=rfl;have hW:zyk (D+1+1)=3640+3*zyk (D+1):=rfl;have hM:zvw (D+1+1)=1+3*zvw (D+1):=rfl;rw[hC]at hp;rw[hM]at hm;cases hQ:isQ f.op
  ·have hl:=hf.few;have hmul:∀x:Nat,f.parts.length*x<=2*x:=fun x=>Jc _ hl
   obtain⟨Q,N,E,e1,e2,⟨b1,b2,b3⟩,hE⟩:=qlc (code:=code) (F:=fun k=>f.parts.getD k exZ.form) (B:=sgB f pos) (c:=zyt (D+1)) (W:=zyk (D+1)) (M:=zvw (D+1)) f.parts.length (fun k hk=>by
    have:f.parts.getD k exZ.form=f.parts[k]:=by rw[List.getD_eq_getElem?_getD,List.getElem?_eq_getElem hk];rfl
    show ExpP code (f.parts.getD k exZ.form) _ _ _ _
    rw[this]
    exact expP code D _ _ (hf.part (Qd hk))) nm q hq (by have:=hmul (zyt (D+1));omega) (by have:=hmul (zvw (D+1));omega)
   have HE:=zp5 code f pos hQ Yt q nm Q N E e1 e2 (fun k hk=>by
    have:=(hE k hk).2;have e:f.parts.getD k exZ.form=f.parts[k]:=by rw[List.getD_eq_getElem?_getD,List.getElem?_eq_getElem hk];rfl
    rw[e]at this
    exact this)
   refine⟨_,_,_,b1,?_,?_,?_,HE⟩
   ·have:=hmul (zyt (D+1));omega
   ·rw[Ex.wt_eq,hW];have hs:((upX E f.parts.length).map Ex.wt).sum<=f.parts.length*zyk (D+1):=zyv E _ _ fun k hk=>(hE k hk).1;have:=hmul (zyk (D+1));show f.wt+0+((upX E f.parts.length).length+((upX E f.parts.length).map Ex.wt).sum)<=_
    rw[zrq];omega
   ·have:=hmul (zvw (D+1));omega
  ·have ho:=isQ_or hQ;obtain⟨p,hp1⟩:∃p,f.parts=[p]:=by
    rcases ze0 hf.fm with⟨_,h|h|h⟩|⟨p,h1,_⟩|⟨o',p,q,hx,h1,_⟩|⟨o',v',p,_,h1,_⟩
    ·rw[h]at hQ;cases hQ
    ·rw[h]at hQ;cases hQ
    ·rw[h]at hQ;cases hQ
    ·exact⟨p,by rw[h1];rfl⟩
    ·rw[h1]at hQ;rcases hx with rfl|rfl|rfl<;>cases hQ
    ·exact⟨p,by rw[h1];rfl⟩
   have hpg:FmG p 15 (D+1):=hf.part (by rw[hp1];simp);have Hx:∀t,qgf f.var p t=true->ExpP code (qfg f.var p t) pos (zyt (D+1)) (zyk (D+1)) (zvw (D+1)):=fun t ht=>expP code D _ _ (hpg.put ht);have fin:∀(n:Nat) (strong:Bool) (s1:Nat) (q1:Cu),n<=3->n*s1<=1->(strong=true->1<=s1)->((f.op==8)==pos)=strong->q1.code=code->q1.pos<=q.pos+1 →
     ((strong=true/\n=1/\q1=q)\/(strong=false/\PC Tryz.prog 138 (za4 code q) [.p 0,.d true (.one (intS nqL))] (za4 code q1) [(true,iD (n:Int))]))->∃(q':Cu) (e:Ex) (nm':List Str),q'.code=code/\q'.pos<=q.pos+zyt (D+1+1)/\e.wt<=zyk (D+1+1)/\nm'.length<=nm.length+zvw (D+1+1)/\zc4 code q f pos nm q' e nm':=by
    intro n strong s1 q1 hn hns hs1 hst hq1 hp1' hd;have hmul:∀x:Nat,n*x<=3*x:=fun x=>Jc _ hn;have m1:=hmul (zyt (D+1)+1);have m2:n*(zvw (D+1)+s1)=n*zvw (D+1)+n*s1:=Nat.mul_add _ _ _;have m3:=hmul (zvw (D+1));have m4:=hmul (zyk (D+1));obtain⟨Q,N,TS,ES,e1,e2,e3,e4,⟨b1,b2,b3,b4,b5,b6,b7⟩,hE⟩:=qkw Hx hs1 n hn nm q1 hq1 Yt Yt;have HE:=qck code f p pos strong hQ hp1 hpg.fm Yt hst n hn q q1 nm hd Q N TS ES e1 e2 e3 e4 (fun k hk=>(hE k hk).1) (fun k hk=>(hE k hk).2);refine⟨_,_,_,b1,Yt,?_,Yt,HE⟩;rw[Ex.wt_eq,hW];show f.wt+((TS n).length+((TS n).map Tm.wt).sum)+((ES n).length+((ES n).map Ex.wt).sum)<=_
    omega
   cases hst:(f.op==8)==pos
   ·obtain⟨q1,x,k1,k2,k3,k4⟩:=qjv code nqL (by decide) (by decide) q hq Yt;have hx:0<=x/\x<=3:=by
     simp only[nqL,Qu,Jg,or_false]at k3;omega
    obtain⟨n,rfl⟩:∃n:Nat,x=(n:Int):=⟨x.toNat,Yt⟩;exact fin n false 0 q1 Yt Yt (fun h=>by cases h) hst k1 k2 (Or.inr ⟨rfl,k4⟩)
   ·exact fin 1 true 1 q Yt Yt (fun _=>Qw _) hst hq Yt (Or.inl ⟨rfl,rfl,rfl⟩)
end
section
open Go.RowKit
def stB (s:Str)(a:Nat)(w:Str):Bool:=decide (a+w.length<=s.length)&&(qas s a (a+w.length)==w)
theorem zbc (s w:Str)(a:Nat)(hs:s.length<=4000)(ha:a<=5000)(hw:w.length<=100):FC Tryz.prog 237 [.one (.str s),iD a,.one (.str w)] [bD (stB s a w)]:=by
 have hw1:IntKind.i64.wrap ((a:Int)+(w.length:Int))=((a+w.length:Nat):Int):=by rw[zbn Yt Yt];omega
 unfold stB
 by_cases hl:a+w.length<=s.length
 ·have h1:(((a+w.length:Nat):Int)<=(s.length:Int))=True:=eq_true Yt;rw[decide_eq_true hl,Qq];refine zak Tryz.call237 Tryz.func237 rfl Ys (zaz Ys) ?_;simp -implicitDefEqProofs only[go_sem,Tryz.results237,hw1,h1];omega
 ·have h1:(((a+w.length:Nat):Int)<=(s.length:Int))=False:=eq_false Yt;rw[decide_eq_false hl,Ql];refine zak Tryz.call237 Tryz.func237 rfl Ys (zaz Ys) ?_;simp -implicitDefEqProofs only[go_sem,Tryz.results237,hw1,h1]
abbrev zyl:Str:=[97,108,108,32]
abbrev zlr:Str:=[115,111,109,101,32]
abbrev kNp:Str:=[126,40]
abbrev kN:Str:=[126]
abbrev kP:Str:=[40]
abbrev qin:Str:=[32,38,32]
abbrev kOr:Str:=[32,124,32]
abbrev kImp:Str:=[32,61,62,32]
abbrev kEq:Str:=[32,61,32]
theorem zpd (s:Str)(a e:Nat)(op:Int)(f:Fm)(nx:Nat)(hW:Word s a e)(hl:e<s.length)(h46:s.getD e 0=46)(HR:FC Tryz.prog 197 [.one (.str s),iD ((e+1:Nat):Int)] [fmD f,iD nx]) :
  FC Tryz.prog 238 [.one (.str s),iD a,iD op] [fmD (.mk op (.mk [] []) (qas s a e) [f]),iD nx]:=by
 obtain⟨h1,h2,h3,h4⟩:=hW
 rw[show fmD (.mk op (.mk [] []) (qas s a e) [f])=.agg [.int .i64 op,.str [],.sl 2 [],.str (qas s a e),.sl 5 [fmC f]] from congrArg D.agg (zab _)]
 simp only[fmD,zab f]at HR
 refine zak Tryz.call238 Tryz.func238 rfl Ys (zaz Ys) ?_
 simp -implicitDefEqProofs only[go_sem,Tryz.results238]
 refine zaf (fun i:Nat=>hd [(0,vT (.str s)),(1,vI a),(2,vI op),(6,.one (.bx 6 0)),(8,vI i)] [(6,[.t (.int .i64 0),.t (.str []),.nl 2,.t (.str []),.nl 5])] []) (fun i=>a<=i/\i<=e) (fun i=>e-i) a (zad ?_) ⟨Qw _,Yt⟩ ?_
 ·simp -implicitDefEqProofs only[go_sem]
 ·intro i ⟨i1,i2⟩;have hls:i<s.length:=by omega
  have HW:=zj2 (s.getD i 0);have hwk:IntKind.i64.wrap ((i:Int)+1)=((i+1:Nat):Int):=zam Yt;by_cases hlt:i<e
  ·rw[h4 i i1 hlt]at HW;simp -implicitDefEqProofs only[go_sem,hls];refine callF (HW) Yr ?_;simp -implicitDefEqProofs only[go_sem];rw[hwk];exact⟨i+1,⟨Yt,hlt⟩,Yt,zad Yr⟩
  ·have e1:i=e:=by omega
   subst e1;rw[h46,show zk5 46=false from rfl]at HW;have heq:((i:Int)==(s.length:Int))=false:=by rw[Qy];omega
   have n1:((((46:UInt8).toNat:Nat):Int) != 46)=false:=by decide
   simp -implicitDefEqProofs only[go_sem,hls];rw[h46];refine callF (HW) (by simp -implicitDefEqProofs only[go_sem,hls,heq,h46,n1]) ?_;simp -implicitDefEqProofs only[go_sem,hls,heq,h46,n1];rw[hwk];refine callF (HR) Yr ?_;simp -implicitDefEqProofs only[go_sem];refine drawn Ys ?_;simp -implicitDefEqProofs only[go_sem];refine⟨⟨Yt,h2⟩,?_⟩;refine za8 Yr ?_;simp -implicitDefEqProofs only[go_sem];refine⟨Ys,?_⟩;rw[zab f]
theorem qg4 (s:Str)(a n1 n2:Nat)(x y:Fm)(op:Int)(sz:Nat)(hs:s.length<=4000)(ha:a<=s.length)(hn1:n1<=s.length)(hn2:n2<s.length)
  (hop:(stB s n1 qin=true/\op=5/\sz=3)\/(stB s n1 qin=false/\stB s n1 kOr=true/\op=6/\sz=3)\/(stB s n1 qin=false/\stB s n1 kOr=false/\stB s n1 kImp=true/\op=7/\sz=4))
  (HA:FC Tryz.prog 197 [.one (.str s),iD ((a+1:Nat):Int)] [fmD x,iD n1]) (HB:FC Tryz.prog 197 [.one (.str s),iD ((n1+sz:Nat):Int)] [fmD y,iD n2]) (h41:s.getD n2 0=41) :
  FC Tryz.prog 240 [.one (.str s),iD a] [fmD (.mk op (.mk [] []) [] [x,y]),iD ((n2+1:Nat):Int)]:=by
 have K1:=zbc s qin n1 hs Yt (by simp)
 have K2:=zbc s kOr n1 hs Yt (by simp)
 have K3:=zbc s kImp n1 hs Yt (by simp)
 have hw1:IntKind.i64.wrap ((a:Int)+1)=((a+1:Nat):Int):=zam Yt
 have hw2:IntKind.i64.wrap ((n2:Int)+1)=((n2+1:Nat):Int):=zam Yt
 have g1:((n1:Int)<0)=False:=by simp
 have g2:((n2:Int)<0)=False:=by simp
 have heq:((n2:Int)==(s.length:Int))=false:=by rw[Qy];omega
 have c1:((((41:UInt8).toNat:Nat):Int) != 41)=false:=by decide
 rw[show fmD (.mk op (.mk [] []) [] [x,y])=.agg [.int .i64 op,.str [],.sl 2 [],.str [],.sl 5 [fmC x,fmC y]] from congrArg D.agg (zab _)]
 simp only[fmD,zab x]at HA
 simp only[fmD,zab y]at HB
 rcases hop with⟨h1,rfl,rfl⟩|⟨h1,h2,rfl,rfl⟩|⟨h1,h2,h3,rfl,rfl⟩
 ·rw[h1]at K1;have hw3:IntKind.i64.wrap ((n1:Int)+3)=((n1+3:Nat):Int):=zam Yt;refine zak Tryz.call240 Tryz.func240 rfl Ys (zaz Ys) ?_;simp -implicitDefEqProofs only[go_sem,Tryz.results240];rw[hw1];refine callF (HA) (by simp -implicitDefEqProofs only[go_sem,g1]) ?_;simp -implicitDefEqProofs only[go_sem,g1];refine callF (K1) Yr ?_;simp -implicitDefEqProofs only[go_sem];rw[hw3];refine callF (HB) (by simp -implicitDefEqProofs only[go_sem,g2,heq,hn2,h41,c1]) ?_;simp -implicitDefEqProofs only[go_sem,g2,heq,hn2,h41,c1];refine zap Yr ?_;simp -implicitDefEqProofs only[go_sem];rw[hw2];rw[zab x,zab y];exact⟨rfl,rfl⟩
 ·rw[h1]at K1;rw[h2]at K2;have hw3:IntKind.i64.wrap ((n1:Int)+3)=((n1+3:Nat):Int):=zam Yt;refine zak Tryz.call240 Tryz.func240 rfl Ys (zaz Ys) ?_;simp -implicitDefEqProofs only[go_sem,Tryz.results240];rw[hw1];refine callF (HA) (by simp -implicitDefEqProofs only[go_sem,g1]) ?_;simp -implicitDefEqProofs only[go_sem,g1];refine callF (K1) Yr ?_;simp -implicitDefEqProofs only[go_sem];refine callF (K2) Yr ?_;simp -implicitDefEqProofs only[go_sem];rw[hw3];refine callF (HB) (by simp -implicitDefEqProofs only[go_sem,g2,heq,hn2,h41,c1]) ?_;simp -implicitDefEqProofs only[go_sem,g2,heq,hn2,h41,c1];refine zap Yr ?_;simp -implicitDefEqProofs only[go_sem];rw[hw2];rw[zab x,zab y];exact⟨rfl,rfl⟩
 ·rw[h1]at K1;rw[h2]at K2;rw[h3]at K3;have hw3:IntKind.i64.wrap ((n1:Int)+4)=((n1+4:Nat):Int):=zam Yt;refine zak Tryz.call240 Tryz.func240 rfl Ys (zaz Ys) ?_;simp -implicitDefEqProofs only[go_sem,Tryz.results240];rw[hw1];refine callF (HA) (by simp -implicitDefEqProofs only[go_sem,g1]) ?_;simp -implicitDefEqProofs only[go_sem,g1];refine callF (K1) Yr ?_;simp -implicitDefEqProofs only[go_sem];refine callF (K2) Yr ?_;simp -implicitDefEqProofs only[go_sem];refine callF (K3) Yr ?_;simp -implicitDefEqProofs only[go_sem];rw[hw3];refine callF (HB) (by simp -implicitDefEqProofs only[go_sem,g2,heq,hn2,h41,c1]) ?_;simp -implicitDefEqProofs only[go_sem,g2,heq,hn2,h41,c1];refine zap Yr ?_;simp -implicitDefEqProofs only[go_sem];rw[hw2];rw[zab x,zab y];exact⟨rfl,rfl⟩
end
section
open Go.RowKit
theorem znj (sep:Str)(r:List Str)(x:Str):Lib.joinTail sep (r++[x])=Lib.joinTail sep r++sep++x:=by simp[Lib.joinTail]
theorem qe2 (sep:Str)(xs:List Str)(x:Str)(h:xs≠[]):Lib.join (xs++[x]) sep=Lib.join xs sep++sep++x:=by
 cases xs with
 | nil=>exact absurd rfl h
 | cons a r=>rw[K6,Lib.join_cons,Lib.join_cons,znj];simp
theorem qbm (sep:Str)(xs:List Str):(Lib.join xs sep).length<=sep.length*xs.length+(xs.map List.length).sum:=by
 cases xs with
 | nil=>simp[Lib.join_nil]
 | cons a r =>
  rw[Lib.join_length];have e:Lib.lens (a::r)=((a::r).map List.length).sum:=rfl;rw[e];simp only[Qb,Nat.mul_succ];omega
def zed (n:Str)(rs:List Str):Str:=if rs=[]then n else n++[40]++Lib.join rs [44]++[41]
def Tm.text:Tm->Str:=Tm.fold fun n _ rs=>if n=[61]then rs.getD 0 []++[32,61,32]++rs.getD 1 []else zed n rs
theorem Tm.text_eq (a:Tm):a.text=if a.name=[61]then (a.args.map Tm.text).getD 0 []++[32,61,32]++(a.args.map Tm.text).getD 1 []else zed a.name (a.args.map Tm.text):=Tm.fold_eq _ a
def Tm.fine:Tm->Bool:=Tm.fold fun n xs rs=>(decide (n≠[61])||decide (2<=xs.length))&&rs.all id
theorem Tm.fine_eq (a:Tm):a.fine=((decide (a.name≠[61])||decide (2<=a.args.length))&&a.args.all Tm.fine):=by
 rw[show a.fine=((decide (a.name≠[61])||decide (2<=a.args.length))&&(a.args.map Tm.fine).all id) from Tm.fold_eq _ a,Yp];rfl
theorem Tm.fine_two {a:Tm}(h:a.fine=true)(hn:a.name=[61]):2<=a.args.length:=by
 rw[Tm.fine_eq,hn]at h;simp at h;exact h.1
theorem Tm.fine_arg {a:Tm}(h:a.fine=true):∀x∈a.args,x.fine=true:=by
 rw[Tm.fine_eq,Qc,Qs]at h;exact h.2
theorem ziz {α:Type}(f g:α->Nat):∀(xs:List α),(∀x∈xs,f x<=g x)->(xs.map f).sum<=(xs.map g).sum
 | [],_=>by simp
 | a::xs,h=>by
  have h1:=h a (by simp);have h2:=ziz f g xs fun x hx=>h x (by simp[hx]);simp;omega
theorem zrl {α:Type}(f:α->Nat)(k:Nat):∀(xs:List α),(xs.map fun x=>k*f x).sum=k*(xs.map f).sum
 | []=>by simp
 | a::xs=>by simp[zrl f k xs,Nat.mul_add]
theorem zrr {α:Type}(f:α->Nat)(xs:List α)(h:2<=xs.length):f (xs[0]'Yt)+f (xs[1]'Yt)<=(xs.map f).sum:=by
 rcases xs with _|⟨a,_|⟨b,xs⟩⟩
 ·simp at h
 ·simp at h
 ·simp<;>omega
theorem zfd:∀a:Tm,a.fine=true->a.text.length<=3*a.wt:=zb0 fun n xs ih hf=>by
 have hx:=Tm.fine_arg hf
 have hw:=(Tm.mk n xs).wt_eq
 have ht:=(Tm.mk n xs).text_eq
 have hS:(xs.map fun x=>x.text.length).sum<=3*(xs.map Tm.wt).sum:=by
  rw[<-zrl];exact ziz _ _ xs fun x h=>ih x h (hx x h)
 change (Tm.mk n xs).wt=n.length+xs.length+(xs.map Tm.wt).sum at hw
 change (Tm.mk n xs).text=if n=[61]then (xs.map Tm.text).getD 0 []++[32,61,32]++(xs.map Tm.text).getD 1 []else zed n (xs.map Tm.text)at ht
 rw[ht]
 by_cases hn:n=[61]
 ·have h2:2<=xs.length:=Tm.fine_two hf hn;have:=zrr (fun x=>x.text.length) xs h2;rw[if_pos hn,show(xs.map Tm.text).getD 0 []=(xs[0]'Yt).text by simp[List.getD,show 0<xs.length by omega],show(xs.map Tm.text).getD 1 []=(xs[1]'Yt).text by simp[List.getD,show 1<xs.length by omega]];simp only[Qh,Qb,Qe];omega
 ·rw[if_neg hn];unfold zed;by_cases h0:xs=[]
  ·subst h0;simp;omega
  ·have hl:0<xs.length:=List.length_pos_iff.2 h0;rw[if_neg (by simpa using h0)];have hj:=qbm [44] (xs.map Tm.text);rw[Kh,Qa]at hj;simp only[Qh,Qb,Qe];have:(xs.map (List.length∘Tm.text)).sum=(xs.map fun x=>x.text.length).sum:=rfl;simp only[Qb,Qe]at hj;omega
def zdf (n:Str)(rs:List Str)(k:Nat):Str:=if k=0 then n else n++[40]++Lib.join (rs.take k) [44]
theorem zqs (n:Str)(rs:List Str)(h:0<rs.length):zdf n rs 1=n++([40]:Str)++rs[0]:=by
 cases rs with
 | nil=>simp at h
 | cons a r=>simp[zdf,Lib.join_one]
theorem znv (n:Str)(rs:List Str)(k:Nat)(h:k<rs.length)(h0:k≠0):zdf n rs (k+1)=zdf n rs k++([44]:Str)++rs[k]:=by
 unfold zdf
 rw[if_neg Yt,if_neg h0,Qj h,qe2 _ _ _ (by
  intro e;have:(rs.take k).length=0:=by rw[e];rfl
  rw[Qo]at this;omega)]
 simp
theorem zpv (sep:Str)(xs:List Str)(k:Nat):(Lib.join (xs.take k) sep).length<=sep.length*xs.length+(xs.map List.length).sum:=by
 refine Q9 (qbm sep (xs.take k)) ?_
 have h1:(xs.take k).length<=xs.length:=by rw[Qo];omega
 have h2:=Nat.mul_le_mul_left sep.length h1
 have h3:=zyy List.length xs k
 unfold zpx at h3
 omega
theorem zr1 (n:Str)(rs:List Str)(k:Nat):(zdf n rs k).length<=n.length+1+(rs.length+(rs.map List.length).sum):=by
 unfold zdf
 split
 ·omega
 ·have:=zpv [44] rs k;simp only[Qh,Qb,Qe]at this⊢;omega
theorem qa1 {a:Tm}(hf:a.fine=true):((a.args.map Tm.text).map List.length).sum<=3*(a.args.map Tm.wt).sum:=by
 rw[Kh,<-zrl]
 exact ziz _ _ a.args fun x h=>zfd x (Tm.fine_arg hf x h)
theorem zhp {a:Tm}(hs:a.wt<=1099511627776)(hf:a.fine=true)(k:Nat):(zdf a.name (a.args.map Tm.text) k).length<=4398046511104:=by
 have h1:=zr1 a.name (a.args.map Tm.text) k
 have h2:=qa1 hf
 rw[a.wt_eq]at hs
 rw[Qa]at h1
 omega
theorem qhf (n:Str)(rs:List Str)(k:Nat)(h:k=rs.length)(h0:k≠0):zdf n rs k++[41]=zed n rs:=by
 unfold zdf zed
 have:rs≠[]:=fun e=>by subst e;exact h0 h
 rw[if_neg h0,if_neg this,Qm Yt]
theorem qay (n:Str)(rs:List Str)(h:rs.length=0):n=zed n rs:=by
 unfold zed
 rw[if_pos (Q8.1 h)]
end
section
open Go.RowKit
theorem qb0 (a:Tm)(hs:a.wt<=1099511627776)(hf:a.fine=true)(H:∀x∈a.args,FC Tryz.prog 241 [tmD x] [sD x.text]):FC Tryz.prog 241 [tmD a] [sD a.text]:=by
 have hl:a.args.length<=1099511627776:=by rw[Tm.wt_eq]at hs;omega
 have hT:=a.text_eq
 have hL:=zfd a hf
 have hW:=a.wt_eq
 simp only[tmD,zaa]
 refine zak Tryz.call241 Tryz.func241 rfl Ys (zaz Ys) ?_
 simp -implicitDefEqProofs only[go_sem,Tryz.results241]
 refine⟨fun hn=>?_,fun hn=>?_⟩
 ·have hn:a.name=[61]:=by simpa using hn
  have h2:=Tm.fine_two hf hn;have h0:0<a.args.length:=by omega
  have h1:1<a.args.length:=by omega
  have hT2:=zrr Tm.wt a.args h2;have L0:=zfd a.args[0] (Tm.fine_arg hf _ (Qd h0));have L1:=zfd a.args[1] (Tm.fine_arg hf _ (Qd h1));rw[if_pos hn,show(a.args.map Tm.text).getD 0 []=a.args[0].text by simp[List.getD,h0],show(a.args.map Tm.text).getD 1 []=a.args[1].text by simp[List.getD,h1]]at hT;refine drawn Ys ?_;have h0i:(0:Int)<a.args.length:=by omega
  have h1i:(1:Int)<a.args.length:=by omega
  simp -implicitDefEqProofs only[go_sem,zac,h0,h1,h0i,h1i,zaa];refine zaj (H a.args[0] (Qd h0)) (by simp -implicitDefEqProofs only[go_sem,zaa,zac,h0,h1,h0i,h1i]) ?_;simp -implicitDefEqProofs only[go_sem,zaa,zac,h0,h1,h0i,h1i];refine⟨Yt,?_⟩;refine zaj (H a.args[1] (Qd h1)) (by simp -implicitDefEqProofs only[go_sem,zaa,zac,h0,h1,h0i,h1i]) ?_;simp -implicitDefEqProofs only[go_sem,zaa,zac,h0,h1,h0i,h1i];refine⟨by first|omega|(simp only[Qh,Qb,Qe];omega),Ys,by rw[hT]⟩
 ·have hn:a.name≠[61]:=by simpa using hn
  rw[if_neg hn]at hT;refine zaf (fun k:Nat=>hd [(1,.one (.bx 1 0)),(3,vT (.str (zdf a.name (a.args.map Tm.text) k))),(4,vI k)] [(1,[.t (.str a.name),.t (tmS a.args)])] []) (fun k=>k<=a.args.length) (fun k=>a.args.length-k) 0 (zad ?_) ?_ ?_
  ·simp -implicitDefEqProofs only[go_sem];rfl
  ·omega
  ·intro k hk;by_cases hlt:k<a.args.length
   ·by_cases h0:k=0
    ·subst h0;have hli:(0:Int)<a.args.length:=by omega
     have hp:=zhp hs hf 0;have hp1:=zhp hs hf 1;have ha:=zfd a.args[0] (Tm.fine_arg hf _ (Qd hlt));have haw:=zay Tm.wt a.args _ (Qd hlt);simp -implicitDefEqProofs only[go_sem,zac,hlt,hli,zaa];refine⟨Yt,?_⟩;refine callF (H a.args[0] (Qd hlt)) (by simp -implicitDefEqProofs only[go_sem,zaa]) ?_;simp -implicitDefEqProofs only[go_sem,zaa];refine⟨?_,1,Yt,Yt,zad ?_⟩
     ·first|omega|(simp only[Qh,Qb,Qe];omega)
     ·simp -implicitDefEqProofs only[go_sem];rw[zqs _ _ (by rw[Qa];exact hlt),List.getElem_map];exact⟨rfl,rfl⟩
    ·have h0':((k:Int)==0)=false:=by simpa using h0
     have hp:=zhp hs hf k;have ha:=zfd a.args[k] (Tm.fine_arg hf _ (Qd hlt));have haw:=zay Tm.wt a.args _ (Qd hlt);simp -implicitDefEqProofs only[go_sem,zac,hlt,zaa,h0'];refine⟨Yt,?_⟩;refine callF (H a.args[k] (Qd hlt)) (by simp -implicitDefEqProofs only[go_sem,zaa]) ?_;simp -implicitDefEqProofs only[go_sem,zaa];refine⟨?_,k+1,Yt,Yt,zad ?_⟩
     ·first|omega|(simp only[Qh,Qb,Qe];omega)
     ·simp -implicitDefEqProofs only[go_sem];rw[znv _ _ _ (by rw[Qa];exact hlt) h0,List.getElem_map,zam Yt];exact⟨rfl,rfl⟩
   ·have hp:=zhp hs hf k;simp -implicitDefEqProofs only[go_sem,hlt];rw[hT];refine⟨fun h=>⟨Yt,?_⟩,fun h=>?_⟩
    ·have:0<a.args.length:=by simpa using h
     rw[qhf _ _ _ (by rw[Qa];omega) Yt]
    ·have:a.args.length=0:=by simp at h;simp[h]
     rw[<-qay _ _ (by rw[Qa];exact this)];obtain rfl:k=0:=by omega
     rfl
theorem qje:∀a:Tm,a.wt<=1099511627776->a.fine=true->FC Tryz.prog 241 [tmD a] [sD a.text] :=
 zb0 fun n xs ih hs hf=>qb0 (.mk n xs) hs hf fun x hx=>ih x hx (Q9 (zkm (a:=.mk n xs) hx) hs) (Tm.fine_arg hf x hx)
end
section
open Go.RowKit
def qj4:List Fm->Bool
 | p::_=>p.atom.name==[61]
 | []=>false
def zyz:List Fm->Bool
 | p::_=>!(p.atom.name==[61])||p.op==3
 | []=>false
def zhu (o:Int):Str:=if o=6 then [32,124,32]else if o=7 then [32,61,62,32]else [32,38,32]
def zqx (o:Int)(a:Tm)(v:Str)(ps:List Fm)(rs:List Str):Str :=
 if o=1 then [116,114,117,101]else if o=2 then [102,97,108,115,101]else if o=3 then a.text
 else if o=4 then (if qj4 ps=true then [126,40]++rs.getD 0 []++[41]else [126]++rs.getD 0 [])
 else if o=8 then [97,108,108,32]++v++[46]++rs.getD 0 []
 else if o=9 then [115,111,109,101,32]++v++[46]++rs.getD 0 []
 else [40]++rs.getD 0 []++zhu o++rs.getD 1 []++[41]
def Fm.text:Fm->Str:=Fm.fold zqx
theorem Fm.text_eq (f:Fm):f.text=zqx f.op f.atom f.var f.parts (f.parts.map Fm.text):=Fm.fold_eq _ f
def zkn (o:Int)(a:Tm)(ps:List Fm):Bool :=
 if o=1 then true else if o=2 then true else if o=3 then a.fine
 else if o=4 then zyz ps else if o=8 then decide (1<=ps.length)else if o=9 then decide (1<=ps.length)
 else (decide (o=5)||decide (o=6)||decide (o=7))&&decide (2<=ps.length)
def Fm.fine:Fm->Bool:=Fm.fold fun o a _ ps rs=>zkn o a ps&&rs.all id
theorem Fm.fine_eq (f:Fm):f.fine=(zkn f.op f.atom f.parts&&f.parts.all Fm.fine):=by
 rw[show f.fine=(zkn f.op f.atom f.parts&&(f.parts.map Fm.fine).all id) from Fm.fold_eq _ f,Yp];rfl
theorem Fm.fine_part {f:Fm}(h:f.fine=true):∀x∈f.parts,x.fine=true:=by
 rw[Fm.fine_eq,Qc,Qs]at h;exact h.2
theorem Fm.fine_op {f:Fm}(h:f.fine=true):zkn f.op f.atom f.parts=true:=by
 rw[Fm.fine_eq,Qc]at h;exact h.1
theorem zik {ps:List Fm}(h:zyz ps=true):1<=ps.length:=by
 cases ps with
 | nil=>cases h
 | cons p ps=>simp
theorem zdm (ps:List Fm)(k:Nat)(h:k<ps.length):(ps.map Fm.text).getD k []=ps[k].text:=by simp[List.getD,h]
theorem zxb (o:Int):(zhu o).length<=4:=by unfold zhu;split;decide;split<;>decide
theorem qna {α:Type}(f:α->Nat)(xs:List α)(h:1<=xs.length):f (xs[0]'Yt)<=(xs.map f).sum:=zay f xs _ (Qd _)
theorem zqt:∀f:Fm,f.fine=true->f.text.length<=8*(f.wt+1):=zb7 fun o a v ps ih hf=>by
 have hx:=Fm.fine_part hf
 have ho:zkn o a ps=true:=Fm.fine_op hf
 have hw:(Fm.mk o a v ps).wt=a.wt+v.length+ps.length+(ps.map Fm.wt).sum:=(Fm.mk o a v ps).wt_eq
 have ht:(Fm.mk o a v ps).text=zqx o a v ps (ps.map Fm.text):=(Fm.mk o a v ps).text_eq
 rw[ht]
 have h1:1<=ps.length->((ps.map Fm.text).getD 0 []).length<=8*(ps.map Fm.wt).sum+8:=fun h=>by
  rw[zdm ps 0 h];have k1:=ih _ (Qd h) (hx _ (Qd h));have k2:=qna Fm.wt ps h;omega
 have h2:2<=ps.length->((ps.map Fm.text).getD 0 []).length+((ps.map Fm.text).getD 1 []).length<=8*(ps.map Fm.wt).sum+16:=fun h=>by
  rw[zdm ps 0 Yt,zdm ps 1 Yt];have k1:=ih (ps[0]'Yt) (Qd _) (hx _ (Qd _));have k2:=ih (ps[1]'Yt) (Qd _) (hx _ (Qd _));have k3:=zrr Fm.wt ps h;omega
 unfold zqx
 unfold zkn at ho
 split
 ·simp;omega
 ·split
  ·simp;omega
  ·split
   ·rename_i n1 n2 n3;rw[if_neg n1,if_neg n2,if_pos n3]at ho;have:=zfd a ho;omega
   ·rename_i n1 n2 n3;rw[if_neg n1,if_neg n2,if_neg n3]at ho;split
    ·rename_i n4;rw[if_pos n4]at ho;have:=h1 (zik ho);have hl:=zik ho;split
     ·first|omega|(simp only[Qh,Qb,Qe];omega)
     ·first|omega|(simp only[Qh,Qb,Qe];omega)
    ·rename_i n4;rw[if_neg n4]at ho;split
     ·rename_i n8;rw[if_pos n8]at ho;have hl:1<=ps.length:=by simpa using ho
      have:=h1 hl
      first|omega|(simp only[Qh,Qb,Qe];omega)
     ·rename_i n8;rw[if_neg n8]at ho;split
      ·rename_i n9;rw[if_pos n9]at ho;have hl:1<=ps.length:=by simpa using ho
       have:=h1 hl
       first|omega|(simp only[Qh,Qb,Qe];omega)
      ·rename_i n9;rw[if_neg n9,Qc]at ho;have hl:2<=ps.length:=by simpa using ho.2
       have:=h2 hl;have hs:=zxb o
       first|omega|(simp only[Qh,Qb,Qe];omega)
theorem qel:∀(ps:List Fm)(h:0<ps.length),qj4 ps=(ps[0].atom.name==[61])
 | [],h=>by simp at h
 | p::ps,_=>rfl
theorem qcp:∀(ps:List Fm)(h:0<ps.length),zyz ps=(!(ps[0].atom.name==[61])||ps[0].op==3)
 | [],h=>by simp at h
 | p::ps,_=>rfl
theorem zu9 {f x:Fm}(h:x∈f.parts):x.wt<=f.wt:=by
 have:=f.wt_eq
 have:=zay Fm.wt f.parts x h
 omega
end
section
open Go.RowKit
theorem qd3 (f:Fm)(hs:f.wt<=1073741824)(hf:f.fine=true)(H:∀x∈f.parts,FC Tryz.prog 198 [fmD x] [sD x.text]):FC Tryz.prog 198 [fmD f] [sD f.text]:=by
 have hT:=f.text_eq
 have ho:=Fm.fine_op hf
 have hW:=f.wt_eq
 have hL:=zqt f hf
 have X:∀x∈f.parts,x.text.length<=8589934600:=fun x hx=>by
  have k1:=zqt x (Fm.fine_part hf x hx);have k2:=zu9 hx;omega
 unfold zqx at hT
 unfold zkn at ho
 simp only[fmD,zab]
 refine zak Tryz.call198 Tryz.func198 rfl Ys (zaz Ys) ?_
 simp -implicitDefEqProofs only[go_sem,Tryz.results198]
 refine⟨fun h1=>?_,fun h1=>⟨fun h2=>?_,fun h2=>⟨fun h3=>?_,fun h3=>⟨fun h4=>?_,fun h4=>⟨fun h8=>?_,fun h8=>⟨fun h9=>?_,fun h9=>?_⟩⟩⟩⟩⟩⟩
 ·rw[hT,if_pos (by simpa using h1)]
 ·rw[hT,if_neg (by simpa using h1),if_pos (by simpa using h2)]
 ·rw[if_neg (by simpa using h1),if_neg (by simpa using h2),if_pos (by simpa using h3)]at hT ho;refine callF (qje f.atom Yt ho) (by simp -implicitDefEqProofs only[go_sem,zaa]) ?_;simp -implicitDefEqProofs only[go_sem,zaa];rw[hT]
 ·rw[if_neg (by simpa using h1),if_neg (by simpa using h2),if_neg (by simpa using h3),if_pos (by simpa using h4)]at hT ho;have hl:=zik ho;have h0:0<f.parts.length:=hl;have h0i:(0:Int)<f.parts.length:=by omega
  have hx:=X _ (Qd h0);have e1:=qel f.parts h0;have e2:(f.parts[0].atom.name==[61])=true->(f.parts[0].op==3)=true:=fun h=>by
   rw[qcp f.parts h0,h]at ho;simpa using ho
  rw[e1]at hT;rw[zdm _ _ h0]at hT;simp -implicitDefEqProofs only[go_sem,zac,h0,h0i,zab];have eqCase:(f.parts[0].atom.name==[61])=true->f.text=([126,40]:Str)++f.parts[0].text++[41]:=fun h=>by rw[hT,if_pos h]
  have neCase:(f.parts[0].atom.name==[61])=false->f.text=([126]:Str)++f.parts[0].text:=fun h=>by rw[hT,if_neg (by simp[h])]
  refine⟨fun k3=>⟨fun ke=>?_,fun ke=>?_⟩,fun k3=>?_⟩
  ·refine callF (H f.parts[0] (Qd h0)) (by simp -implicitDefEqProofs only[go_sem,zab]) ?_;simp -implicitDefEqProofs only[go_sem,zab];exact⟨Yt,Yt,by rw[eqCase ke];rfl⟩
  ·refine callF (H f.parts[0] (Qd h0)) (by simp -implicitDefEqProofs only[go_sem,zab]) ?_;simp -implicitDefEqProofs only[go_sem,zab];exact⟨Yt,by rw[neCase ke];rfl⟩
  ·refine callF (H f.parts[0] (Qd h0)) (by simp -implicitDefEqProofs only[go_sem,zab]) ?_;simp -implicitDefEqProofs only[go_sem,zab]
   exact⟨Yt,by rw[neCase (by
    cases hq:(f.parts[0].atom.name==[61])
    ·rfl
    ·have:=e2 hq;rw[k3]at this;cases this)];rfl⟩
 ·rw[if_neg (by simpa using h1),if_neg (by simpa using h2),if_neg (by simpa using h3),if_neg (by simpa using h4),if_pos (by simpa using h8)]at hT ho;have hl:1<=f.parts.length:=by simpa using ho
  have h0:0<f.parts.length:=hl;have h0i:(0:Int)<f.parts.length:=by omega
  have hx:=X _ (Qd h0);rw[zdm _ _ h0]at hT;refine drawn Ys ?_;simp -implicitDefEqProofs only[go_sem,zac,h0,h0i,zab];refine⟨Yt,Yt,?_⟩;refine zaj (H f.parts[0] (Qd h0)) (by simp -implicitDefEqProofs only[go_sem,zac,h0,h0i,zab]) ?_;simp -implicitDefEqProofs only[go_sem,zac,h0,h0i,zab];refine⟨?_,Ys,by rw[hT];rfl⟩
  first|omega|(simp only[Qh,Qb,Qe];omega)
 ·rw[if_neg (by simpa using h1),if_neg (by simpa using h2),if_neg (by simpa using h3),if_neg (by simpa using h4),if_neg (by simpa using h8),if_pos (by simpa using h9)]at hT ho;have hl:1<=f.parts.length:=by simpa using ho
  have h0:0<f.parts.length:=hl;have h0i:(0:Int)<f.parts.length:=by omega
  have hx:=X _ (Qd h0);rw[zdm _ _ h0]at hT;refine drawn Ys ?_;simp -implicitDefEqProofs only[go_sem,zac,h0,h0i,zab];refine⟨Yt,Yt,?_⟩;refine zaj (H f.parts[0] (Qd h0)) (by simp -implicitDefEqProofs only[go_sem,zac,h0,h0i,zab]) ?_;simp -implicitDefEqProofs only[go_sem,zac,h0,h0i,zab];refine⟨?_,Ys,by rw[hT];rfl⟩
  first|omega|(simp only[Qh,Qb,Qe];omega)
 ·rw[if_neg (by simpa using h1),if_neg (by simpa using h2),if_neg (by simpa using h3),if_neg (by simpa using h4),if_neg (by simpa using h8),if_neg (by simpa using h9)]at hT ho;rw[Qc]at ho;have hl:2<=f.parts.length:=by simpa using ho.2
  have h0:0<f.parts.length:=by omega
  have h1':1<f.parts.length:=by omega
  have h0i:(0:Int)<f.parts.length:=by omega
  have h1i:(1:Int)<f.parts.length:=by omega
  have hx0:=X _ (Qd h0);have hx1:=X _ (Qd h1');rw[zdm _ _ h0,zdm _ _ h1']at hT;refine⟨fun h6=>⟨fun h7=>?_,fun h7=>?_⟩,fun h6=>⟨fun h7=>?_,fun h7=>?_⟩⟩
  ·simp at h6 h7;omega
  ·have hS:zhu f.op=[32,124,32]:=by unfold zhu;rw[if_pos (by simpa using h6)]
   refine drawn Ys ?_;simp -implicitDefEqProofs only[go_sem,zac,h0,h1',h0i,h1i,zab];refine zaj (H f.parts[0] (Qd h0)) (by simp -implicitDefEqProofs only[go_sem,zac,h0,h1',h0i,h1i,zab]) ?_;simp -implicitDefEqProofs only[go_sem,zac,h0,h1',h0i,h1i,zab];refine⟨Yt,by (try simp only[Qh,Qb,Qe]);omega,?_⟩;refine zaj (H f.parts[1] (Qd h1')) (by simp -implicitDefEqProofs only[go_sem,zac,h0,h1',h0i,h1i,zab]) ?_;simp -implicitDefEqProofs only[go_sem,zac,h0,h1',h0i,h1i,zab];refine⟨?_,?_,Ys,by rw[hT,hS];rfl⟩<;>(first|omega|(simp only[Qh,Qb,Qe];omega))
  ·have hS:zhu f.op=[32,61,62,32]:=by unfold zhu;rw[if_neg (by simpa using h6),if_pos (by simpa using h7)]
   refine drawn Ys ?_;simp -implicitDefEqProofs only[go_sem,zac,h0,h1',h0i,h1i,zab];refine zaj (H f.parts[0] (Qd h0)) (by simp -implicitDefEqProofs only[go_sem,zac,h0,h1',h0i,h1i,zab]) ?_;simp -implicitDefEqProofs only[go_sem,zac,h0,h1',h0i,h1i,zab];refine⟨Yt,by (try simp only[Qh,Qb,Qe]);omega,?_⟩;refine zaj (H f.parts[1] (Qd h1')) (by simp -implicitDefEqProofs only[go_sem,zac,h0,h1',h0i,h1i,zab]) ?_;simp -implicitDefEqProofs only[go_sem,zac,h0,h1',h0i,h1i,zab];refine⟨?_,?_,Ys,by rw[hT,hS];rfl⟩<;>(first|omega|(simp only[Qh,Qb,Qe];omega))
  ·have hS:zhu f.op=[32,38,32]:=by unfold zhu;rw[if_neg (by simpa using h6),if_neg (by simpa using h7)]
   refine drawn Ys ?_;simp -implicitDefEqProofs only[go_sem,zac,h0,h1',h0i,h1i,zab];refine zaj (H f.parts[0] (Qd h0)) (by simp -implicitDefEqProofs only[go_sem,zac,h0,h1',h0i,h1i,zab]) ?_;simp -implicitDefEqProofs only[go_sem,zac,h0,h1',h0i,h1i,zab];refine⟨Yt,by (try simp only[Qh,Qb,Qe]);omega,?_⟩;refine zaj (H f.parts[1] (Qd h1')) (by simp -implicitDefEqProofs only[go_sem,zac,h0,h1',h0i,h1i,zab]) ?_;simp -implicitDefEqProofs only[go_sem,zac,h0,h1',h0i,h1i,zab];refine⟨?_,?_,Ys,by rw[hT,hS];rfl⟩<;>(first|omega|(simp only[Qh,Qb,Qe];omega))
theorem qiw:∀f:Fm,f.wt<=1073741824->f.fine=true->FC Tryz.prog 198 [fmD f] [sD f.text] :=
 zb7 fun o a v ps ih hs hf=>qd3 (.mk o a v ps) hs hf fun x hx=>ih x hx (Q9 (zu9 (f:=.mk o a v ps) hx) hs) (Fm.fine_part hf x hx)
end
section
open Go.RowKit
theorem qd9 (s:Str)(a:Nat)(f:Fm)(nx:Nat)(hs:s.length<=4000)(ha:a<=s.length)(h1:stB s a zyl=true)(HQ:FC Tryz.prog 238 [.one (.str s),iD ((a+4:Nat):Int),iD 8] [fmD f,iD nx]):FC Tryz.prog 197 [.one (.str s),iD a] [fmD f,iD nx]:=by
 have K1:=zbc s zyl a hs Yt (by simp)
 rw[h1]at K1
 have hw:IntKind.i64.wrap ((a:Int)+4)=((a+4:Nat):Int):=zam Yt
 simp only[fmD,zab f]at HQ⊢
 refine zak Tryz.call197 Tryz.func197 rfl Ys (zaz Ys) ?_
 simp -implicitDefEqProofs only[go_sem,Tryz.results197]
 refine callF (K1) Yr ?_
 simp -implicitDefEqProofs only[go_sem]
 rw[hw]
 refine callF (HQ) Yr ?_
 simp -implicitDefEqProofs only[go_sem]
theorem zx6 (s:Str)(a:Nat)(f:Fm)(nx:Nat)(hs:s.length<=4000)(ha:a<=s.length)(h1:stB s a zyl=false)(h2:stB s a zlr=true)(HQ:FC Tryz.prog 238 [.one (.str s),iD ((a+5:Nat):Int),iD 9] [fmD f,iD nx]):FC Tryz.prog 197 [.one (.str s),iD a] [fmD f,iD nx]:=by
 have K1:=zbc s zyl a hs Yt (by simp)
 rw[h1]at K1
 have K2:=zbc s zlr a hs Yt (by simp)
 rw[h2]at K2
 have hw:IntKind.i64.wrap ((a:Int)+5)=((a+5:Nat):Int):=zam Yt
 simp only[fmD,zab f]at HQ⊢
 refine zak Tryz.call197 Tryz.func197 rfl Ys (zaz Ys) ?_
 simp -implicitDefEqProofs only[go_sem,Tryz.results197]
 refine callF (K1) Yr ?_
 simp -implicitDefEqProofs only[go_sem]
 refine callF (K2) Yr ?_
 simp -implicitDefEqProofs only[go_sem]
 rw[hw]
 refine callF (HQ) Yr ?_
 simp -implicitDefEqProofs only[go_sem]
theorem zzp (s:Str)(a:Nat)(f:Fm)(nx:Nat)(hs:s.length<=4000)(ha:a<=s.length)(h1:stB s a zyl=false)(h2:stB s a zlr=false)(h3:stB s a kNp=false)(h4:stB s a kN=true)(HR:FC Tryz.prog 197 [.one (.str s),iD ((a+1:Nat):Int)] [fmD f,iD nx]):FC Tryz.prog 197 [.one (.str s),iD a] [fmD (.mk 4 (.mk [] []) [] [f]),iD nx]:=by
 have K1:=zbc s zyl a hs Yt (by simp)
 rw[h1]at K1
 have K2:=zbc s zlr a hs Yt (by simp)
 rw[h2]at K2
 have K3:=zbc s kNp a hs Yt (by simp)
 rw[h3]at K3
 have K4:=zbc s kN a hs Yt (by simp)
 rw[h4]at K4
 have hw:IntKind.i64.wrap ((a:Int)+1)=((a+1:Nat):Int):=zam Yt
 rw[show fmD (.mk 4 (.mk [] []) [] [f])=.agg [.int .i64 4,.str [],.sl 2 [],.str [],.sl 5 [fmC f]] from congrArg D.agg (zab _)]
 simp only[fmD,zab f]at HR
 refine zak Tryz.call197 Tryz.func197 rfl Ys (zaz Ys) ?_
 simp -implicitDefEqProofs only[go_sem,Tryz.results197]
 refine callF (K1) Yr ?_
 simp -implicitDefEqProofs only[go_sem]
 refine callF (K2) Yr ?_
 simp -implicitDefEqProofs only[go_sem]
 refine callF (K3) Yr ?_
 simp -implicitDefEqProofs only[go_sem]
 refine callF (K4) Yr ?_
 simp -implicitDefEqProofs only[go_sem]
 rw[hw]
 refine callF (HR) Yr ?_
 simp -implicitDefEqProofs only[go_sem]
 refine zap Yr ?_
 simp -implicitDefEqProofs only[go_sem]
 rw[zab f]
theorem zxk (s:Str)(a:Nat)(f:Fm)(nx:Nat)(hs:s.length<=4000)(ha:a<=s.length)(h1:stB s a zyl=false)(h2:stB s a zlr=false)(h3:stB s a kNp=false)(h4:stB s a kN=false)(h5:stB s a kP=true)(HP:FC Tryz.prog 240 [.one (.str s),iD a] [fmD f,iD nx]):FC Tryz.prog 197 [.one (.str s),iD a] [fmD f,iD nx]:=by
 have K1:=zbc s zyl a hs Yt (by simp)
 rw[h1]at K1
 have K2:=zbc s zlr a hs Yt (by simp)
 rw[h2]at K2
 have K3:=zbc s kNp a hs Yt (by simp)
 rw[h3]at K3
 have K4:=zbc s kN a hs Yt (by simp)
 rw[h4]at K4
 have K5:=zbc s kP a hs Yt (by simp)
 rw[h5]at K5
 simp only[fmD,zab f]at HP⊢
 refine zak Tryz.call197 Tryz.func197 rfl Ys (zaz Ys) ?_
 simp -implicitDefEqProofs only[go_sem,Tryz.results197]
 refine callF (K1) Yr ?_
 simp -implicitDefEqProofs only[go_sem]
 refine callF (K2) Yr ?_
 simp -implicitDefEqProofs only[go_sem]
 refine callF (K3) Yr ?_
 simp -implicitDefEqProofs only[go_sem]
 refine callF (K4) Yr ?_
 simp -implicitDefEqProofs only[go_sem]
 refine callF (K5) Yr ?_
 simp -implicitDefEqProofs only[go_sem]
 refine callF (HP) Yr ?_
 simp -implicitDefEqProofs only[go_sem]
theorem zwr (s:Str)(a:Nat)(t:Tm)(e:Nat)(hs:s.length<=4000)(he:e<=s.length)(hE:stB s e kEq=false)(hn:¬(t.args.length=0/\(t.name=[116,114,117,101]\/t.name=[102,97,108,115,101])))(HT:FC Tryz.prog 242 [.one (.str s),iD a] [tmD t,iD e]) :
  FC Tryz.prog 239 [.one (.str s),iD a] [fmD (.mk 3 t [] []),iD e]:=by
 have K:=zbc s kEq e hs Yt (by simp)
 rw[hE]at K
 have g1:((e:Int)<0)=False:=by simp
 rw[show fmD (.mk 3 t [] [])=.agg [.int .i64 3,.str t.name,.sl 2 (t.args.map tmC),.str [],.sl 5 []] from congrArg D.agg (zab _)]
 simp only[tmD,zaa t]at HT
 refine zak Tryz.call239 Tryz.func239 rfl Ys (zaz Ys) ?_
 simp -implicitDefEqProofs only[go_sem,Tryz.results239]
 refine callF (HT) (by simp -implicitDefEqProofs only[go_sem,g1]) ?_
 simp -implicitDefEqProofs only[go_sem,g1]
 by_cases h0:t.args.length=0
 ·have e0:((t.args.length:Int)==0)=true:=by rw[h0];rfl
  have e1:(t.name==[116,114,117,101])=false:=by rw[Qy];exact fun h=>hn ⟨h0,Or.inl h⟩
  have e2:(t.name==[102,97,108,115,101])=false:=by rw[Qy];exact fun h=>hn ⟨h0,Or.inr h⟩
  refine callF (K) (by simp -implicitDefEqProofs only[go_sem,Qa,e0,e1,e2]) ?_;simp -implicitDefEqProofs only[go_sem,Qa,e0,e1,e2]
 ·have e0:((t.args.length:Int)==0)=false:=by rw[Qy];omega
  refine callF (K) (by simp -implicitDefEqProofs only[go_sem,Qa,e0]) ?_;simp -implicitDefEqProofs only[go_sem,Qa,e0]
theorem zqh (s:Str)(a:Nat)(f:Fm)(nx:Nat)(hs:s.length<=4000)(ha:a<=s.length)(h1:stB s a zyl=false)(h2:stB s a zlr=false)(h3:stB s a kNp=false)(h4:stB s a kN=false)(h5:stB s a kP=false)(HP:FC Tryz.prog 239 [.one (.str s),iD a] [fmD f,iD nx]):FC Tryz.prog 197 [.one (.str s),iD a] [fmD f,iD nx]:=by
 have K1:=zbc s zyl a hs Yt (by simp)
 rw[h1]at K1
 have K2:=zbc s zlr a hs Yt (by simp)
 rw[h2]at K2
 have K3:=zbc s kNp a hs Yt (by simp)
 rw[h3]at K3
 have K4:=zbc s kN a hs Yt (by simp)
 rw[h4]at K4
 have K5:=zbc s kP a hs Yt (by simp)
 rw[h5]at K5
 simp only[fmD,zab f]at HP⊢
 refine zak Tryz.call197 Tryz.func197 rfl Ys (zaz Ys) ?_
 simp -implicitDefEqProofs only[go_sem,Tryz.results197]
 refine callF (K1) Yr ?_
 simp -implicitDefEqProofs only[go_sem]
 refine callF (K2) Yr ?_
 simp -implicitDefEqProofs only[go_sem]
 refine callF (K3) Yr ?_
 simp -implicitDefEqProofs only[go_sem]
 refine callF (K4) Yr ?_
 simp -implicitDefEqProofs only[go_sem]
 refine callF (K5) Yr ?_
 simp -implicitDefEqProofs only[go_sem]
 refine callF (HP) Yr ?_
 simp -implicitDefEqProofs only[go_sem]
def rdQ (s:Str)(f:Nat->Option (Fm×Nat))(a:Nat)(op:Int):Option (Fm×Nat):=if a<zkp s a/\zkp s a<s.length/\s.getD (zkp s a) 0=46 then (match f (zkp s a+1)with|none=>none|some (p,nx)=>some (.mk op (.mk [] []) (qas s a (zkp s a)) [p],nx))else none
def opAt (s:Str)(n:Nat):Option (Int×Nat):=if stB s n qin=true then some (5,3)else if stB s n kOr=true then some (6,3)else if stB s n kImp=true then some (7,4)else none
def rdP (s:Str)(f:Nat->Option (Fm×Nat))(a:Nat):Option (Fm×Nat):=match f (a+1)with
 | none=>none
 | some (x,n1)=>match opAt s n1 with
  | none=>none
  | some (op,sz)=>match f (n1+sz)with
   | none=>none
   | some (y,n2)=>if n2<s.length/\s.getD n2 0=41 then some (.mk op (.mk [] []) [] [x,y],n2+1)else none
def rdS (s:Str)(n a:Nat):Option (Fm×Nat):=match rdT s n a with
 | none=>none
 | some (t,e)=>if stB s e kEq=true\/(t.args.length=0/\(t.name=[116,114,117,101]\/t.name=[102,97,108,115,101]))then none else some (.mk 3 t [] [],e)
def rdF (s:Str):Nat->Nat->Option (Fm×Nat)
 | 0,_=>none
 | n+1,a=>if s.length<a then none else if stB s a zyl=true then rdQ s (rdF s n) (a+4) 8 else if stB s a zlr=true then rdQ s (rdF s n) (a+5) 9 else if stB s a kNp=true then none
  else if stB s a kN=true then (match rdF s n (a+1)with|none=>none|some (p,nx)=>some (.mk 4 (.mk [] []) [] [p],nx))else if stB s a kP=true then rdP s (rdF s n) a else rdS s n a
theorem opAt_c {s:Str}{n:Nat}{op:Int}{sz:Nat}(h:opAt s n=some (op,sz)):(stB s n qin=true/\op=5/\sz=3)\/(stB s n qin=false/\stB s n kOr=true/\op=6/\sz=3)\/(stB s n qin=false/\stB s n kOr=false/\stB s n kImp=true/\op=7/\sz=4):=by
 unfold opAt at h
 cases h1:stB s n qin
 ·cases h2:stB s n kOr
  ·cases h3:stB s n kImp
   ·rw[h1,h2,h3]at h;simp at h
   ·rw[h1,h2,h3]at h;simp at h;exact Or.inr (Or.inr ⟨rfl,rfl,rfl,h.1.symm,h.2.symm⟩)
  ·rw[h1,h2]at h;simp at h;exact Or.inr (Or.inl ⟨rfl,rfl,h.1.symm,h.2.symm⟩)
 ·rw[h1]at h;simp at h;exact Or.inl ⟨rfl,h.1.symm,h.2.symm⟩
theorem qks {s:Str}{a:Nat}{w:Str}(h:stB s a w=true):a+w.length<=s.length:=by
 unfold stB at h
 rw[Qc,Qr]at h
 exact h.1
theorem zws (s:Str)(hs:s.length<=4000):∀(n a:Nat)(f:Fm)(e:Nat),n<=1000->rdF s n a=some (f,e)->a<=s.length/\e<=s.length/\FC Tryz.prog 197 [.one (.str s),iD a] [fmD f,iD e]
 | 0,a,f,e,hn,h=>by cases h
 | n+1,a,f,e,hn,h=>by
  rw[rdF]at h;split at h
  ·cases h
  have ha:a<=s.length:=by omega
  refine⟨ha,?_⟩;split at h
  ·rename_i k1;have hl:=qks k1;unfold rdQ at h;split at h
   ·rename_i hw;split at h
    ·cases h
    ·rename_i p nx hp;simp only[Qf,Qp]at h;obtain⟨rfl,rfl⟩:=h;obtain⟨r1,r2,r3⟩:=zws s hs n _ p nx Yt hp;have hW:=zk4 hs hw.1 hl;exact⟨r2,qd9 s a _ nx hs ha k1 (zpd s (a+4) _ 8 p nx hW hw.2.1 hw.2.2 r3)⟩
   ·cases h
  rename_i k1;have k1:stB s a zyl=false:=by simpa using k1
  split at h
  ·rename_i k2;have hl:=qks k2;unfold rdQ at h;split at h
   ·rename_i hw;split at h
    ·cases h
    ·rename_i p nx hp;simp only[Qf,Qp]at h;obtain⟨rfl,rfl⟩:=h;obtain⟨r1,r2,r3⟩:=zws s hs n _ p nx Yt hp;have hW:=zk4 hs hw.1 hl;exact⟨r2,zx6 s a _ nx hs ha k1 k2 (zpd s (a+5) _ 9 p nx hW hw.2.1 hw.2.2 r3)⟩
   ·cases h
  rename_i k2;have k2:stB s a zlr=false:=by simpa using k2
  split at h
  ·cases h
  rename_i k3;have k3:stB s a kNp=false:=by simpa using k3
  split at h
  ·rename_i k4;split at h
   ·cases h
   ·rename_i p nx hp;simp only[Qf,Qp]at h;obtain⟨rfl,rfl⟩:=h;obtain⟨r1,r2,r3⟩:=zws s hs n _ p nx Yt hp;exact⟨r2,zzp s a p nx hs ha k1 k2 k3 k4 r3⟩
  rename_i k4;have k4:stB s a kN=false:=by simpa using k4
  split at h
  ·rename_i k5;unfold rdP at h;split at h
   ·cases h
   ·rename_i x n1 hx;split at h
    ·cases h
    ·rename_i op sz ho;split at h
     ·cases h
     ·rename_i y n2 hy;split at h
      ·rename_i hc;simp only[Qf,Qp]at h;obtain⟨rfl,rfl⟩:=h;obtain⟨r1,r2,r3⟩:=zws s hs n _ x n1 Yt hx;obtain⟨q1,q2,q3⟩:=zws s hs n _ y n2 Yt hy;exact⟨Yt,zxk s a _ _ hs ha k1 k2 k3 k4 k5 (qg4 s a n1 n2 x y op sz hs ha r2 hc.1 (opAt_c ho) r3 q3 hc.2)⟩
      ·cases h
  ·rename_i k5;have k5:stB s a kP=false:=by simpa using k5
   unfold rdS at h;split at h
   ·cases h
   ·rename_i t e2 ht;split at h
    ·cases h
    ·rename_i hc;simp only[Qf,Qp]at h;obtain⟨rfl,rfl⟩:=h;have he:=rdT_le n a t e2 ha ht;exact⟨he,zqh s a _ _ hs ha k1 k2 k3 k4 k5 (zwr s a t e2 hs he (by simpa using fun h=>hc (Or.inl h)) (fun h=>hc (Or.inr h)) (qls s hs n a t e2 Yt ha ht))⟩
theorem zbs (s:Str)(f:Fm)(hr:rdF s 30 0=some (f,s.length))(hs:s.length<=4000)(hw:f.wt<=4000)(hg:f.good=true)(hf:f.fine=true)(ht:f.text=s):FC Tryz.prog 136 [.one (.str s)] [fmD f,bD true]:=by
 have HR:=(zws s hs 30 0 f _ Yt hr).2.2
 have HG:=ztp f Yt
 have HT:=qiw f Yt hf
 rw[hg]at HG
 rw[ht]at HT
 have h4:((s.length:Int)>4000)=False:=eq_false Yt
 have hne:((s.length:Int) != (s.length:Int))=false:=by simp
 have hse:(!(s==s))=false:=by simp
 simp only[fmD,zab f]at HR HG HT⊢
 refine zak Tryz.call136 Tryz.func136 rfl Ys (zaz Ys) ?_
 simp -implicitDefEqProofs only[go_sem,Tryz.results136,h4]
 refine callF (HR) (by simp -implicitDefEqProofs only[go_sem,hne]) ?_
 simp -implicitDefEqProofs only[go_sem,hne]
 refine callF (HG) Yr ?_
 simp -implicitDefEqProofs only[go_sem]
 refine callF (HT) (by simp -implicitDefEqProofs only[go_sem,hse]) ?_
 simp -implicitDefEqProofs only[go_sem,hse]
end
section
open Go.RowKit
abbrev t17L:List Str:=[[115,111,109,101,32,88,46,97,108,108,32,89,46,40,112,40,88,41,32,61,62,32,112,40,89,41,41],[40,97,108,108,32,88,46,112,40,88,41,32,61,62,32,115,111,109,101,32,89,46,112,40,89,41,41],[115,111,109,101,32,88,46,40,112,40,88,41,32,61,62,32,112,40,102,40,88,41,41,41],[40,115,111,109,101,32,88,46,97,108,108,32,89,46,113,40,88,44,89,41,32,61,62,32,97,108,108,32,89,46,115,111,109,101,32,88,46,113,40,88,44,89,41,41],[40,97,108,108,32,88,46,40,112,40,88,41,32,61,62,32,112,40,102,40,88,41,41,41,32,61,62,32,40,112,40,97,41,32,61,62,32,112,40,102,40,102,40,97,41,41,41,41,41],[126,97,108,108,32,88,46,40,112,40,88,41,32,38,32,126,112,40,102,40,88,41,41,41],[40,97,108,108,32,88,46,40,112,40,88,41,32,38,32,114,41,32,61,62,32,40,97,108,108,32,88,46,112,40,88,41,32,38,32,114,41,41],[115,111,109,101,32,88,46,115,111,109,101,32,89,46,40,113,40,88,44,89,41,32,61,62,32,113,40,89,44,88,41,41],[97,108,108,32,88,46,115,111,109,101,32,89,46,40,113,40,88,44,89,41,32,124,32,126,113,40,88,44,102,40,88,41,41,41]]
theorem tx17_0:∃f:Fm,FmG f 15 5/\FC Tryz.prog 136 [.one (.str [115,111,109,101,32,88,46,97,108,108,32,89,46,40,112,40,88,41,32,61,62,32,112,40,89,41,41])] [fmD f,bD true] :=
 ⟨.mk 9 (.mk [] []) [88] [.mk 8 (.mk [] []) [89] [.mk 7 (.mk [] []) [] [.mk 3 (.mk [112] [.mk [88] []]) [] [],.mk 3 (.mk [112] [.mk [89] []]) [] []]]],⟨Ys,by decide,by decide⟩,zbs _ _ Ys (by decide) (by decide) Ys Ys Ys⟩
theorem tx17_1:∃f:Fm,FmG f 15 5/\FC Tryz.prog 136 [.one (.str [40,97,108,108,32,88,46,112,40,88,41,32,61,62,32,115,111,109,101,32,89,46,112,40,89,41,41])] [fmD f,bD true] :=
 ⟨.mk 7 (.mk [] []) [] [.mk 8 (.mk [] []) [88] [.mk 3 (.mk [112] [.mk [88] []]) [] []],.mk 9 (.mk [] []) [89] [.mk 3 (.mk [112] [.mk [89] []]) [] []]],⟨Ys,by decide,by decide⟩,zbs _ _ Ys (by decide) (by decide) Ys Ys Ys⟩
theorem tx17_2:∃f:Fm,FmG f 15 5/\FC Tryz.prog 136 [.one (.str [115,111,109,101,32,88,46,40,112,40,88,41,32,61,62,32,112,40,102,40,88,41,41,41])] [fmD f,bD true] :=
 ⟨.mk 9 (.mk [] []) [88] [.mk 7 (.mk [] []) [] [.mk 3 (.mk [112] [.mk [88] []]) [] [],.mk 3 (.mk [112] [.mk [102] [.mk [88] []]]) [] []]],⟨Ys,by decide,by decide⟩,zbs _ _ Ys (by decide) (by decide) Ys Ys Ys⟩
theorem tx17_3:∃f:Fm,FmG f 15 5/\FC Tryz.prog 136 [.one (.str [40,115,111,109,101,32,88,46,97,108,108,32,89,46,113,40,88,44,89,41,32,61,62,32,97,108,108,32,89,46,115,111,109,101,32,88,46,113,40,88,44,89,41,41])] [fmD f,bD true] :=
 ⟨.mk 7 (.mk [] []) [] [.mk 9 (.mk [] []) [88] [.mk 8 (.mk [] []) [89] [.mk 3 (.mk [113] [.mk [88] [],.mk [89] []]) [] []]],.mk 8 (.mk [] []) [89] [.mk 9 (.mk [] []) [88] [.mk 3 (.mk [113] [.mk [88] [],.mk [89] []]) [] []]]],⟨Ys,by decide,by decide⟩,zbs _ _ Ys (by decide) (by decide) Ys Ys Ys⟩
theorem tx17_4:∃f:Fm,FmG f 15 5/\FC Tryz.prog 136 [.one (.str [40,97,108,108,32,88,46,40,112,40,88,41,32,61,62,32,112,40,102,40,88,41,41,41,32,61,62,32,40,112,40,97,41,32,61,62,32,112,40,102,40,102,40,97,41,41,41,41,41])] [fmD f,bD true] :=
 ⟨.mk 7 (.mk [] []) [] [.mk 8 (.mk [] []) [88] [.mk 7 (.mk [] []) [] [.mk 3 (.mk [112] [.mk [88] []]) [] [],.mk 3 (.mk [112] [.mk [102] [.mk [88] []]]) [] []]],.mk 7 (.mk [] []) [] [.mk 3 (.mk [112] [.mk [97] []]) [] [],.mk 3 (.mk [112] [.mk [102] [.mk [102] [.mk [97] []]]]) [] []]],⟨Ys,by decide,by decide⟩,zbs _ _ Ys (by decide) (by decide) Ys Ys Ys⟩
theorem tx17_5:∃f:Fm,FmG f 15 5/\FC Tryz.prog 136 [.one (.str [126,97,108,108,32,88,46,40,112,40,88,41,32,38,32,126,112,40,102,40,88,41,41,41])] [fmD f,bD true] :=
 ⟨.mk 4 (.mk [] []) [] [.mk 8 (.mk [] []) [88] [.mk 5 (.mk [] []) [] [.mk 3 (.mk [112] [.mk [88] []]) [] [],.mk 4 (.mk [] []) [] [.mk 3 (.mk [112] [.mk [102] [.mk [88] []]]) [] []]]]],⟨Ys,by decide,by decide⟩,zbs _ _ Ys (by decide) (by decide) Ys Ys Ys⟩
theorem tx17_6:∃f:Fm,FmG f 15 5/\FC Tryz.prog 136 [.one (.str [40,97,108,108,32,88,46,40,112,40,88,41,32,38,32,114,41,32,61,62,32,40,97,108,108,32,88,46,112,40,88,41,32,38,32,114,41,41])] [fmD f,bD true] :=
 ⟨.mk 7 (.mk [] []) [] [.mk 8 (.mk [] []) [88] [.mk 5 (.mk [] []) [] [.mk 3 (.mk [112] [.mk [88] []]) [] [],.mk 3 (.mk [114] []) [] []]],.mk 5 (.mk [] []) [] [.mk 8 (.mk [] []) [88] [.mk 3 (.mk [112] [.mk [88] []]) [] []],.mk 3 (.mk [114] []) [] []]],⟨Ys,by decide,by decide⟩,zbs _ _ Ys (by decide) (by decide) Ys Ys Ys⟩
theorem tx17_7:∃f:Fm,FmG f 15 5/\FC Tryz.prog 136 [.one (.str [115,111,109,101,32,88,46,115,111,109,101,32,89,46,40,113,40,88,44,89,41,32,61,62,32,113,40,89,44,88,41,41])] [fmD f,bD true] :=
 ⟨.mk 9 (.mk [] []) [88] [.mk 9 (.mk [] []) [89] [.mk 7 (.mk [] []) [] [.mk 3 (.mk [113] [.mk [88] [],.mk [89] []]) [] [],.mk 3 (.mk [113] [.mk [89] [],.mk [88] []]) [] []]]],⟨Ys,by decide,by decide⟩,zbs _ _ Ys (by decide) (by decide) Ys Ys Ys⟩
theorem tx17_8:∃f:Fm,FmG f 15 5/\FC Tryz.prog 136 [.one (.str [97,108,108,32,88,46,115,111,109,101,32,89,46,40,113,40,88,44,89,41,32,124,32,126,113,40,88,44,102,40,88,41,41,41])] [fmD f,bD true] :=
 ⟨.mk 8 (.mk [] []) [88] [.mk 9 (.mk [] []) [89] [.mk 6 (.mk [] []) [] [.mk 3 (.mk [113] [.mk [88] [],.mk [89] []]) [] [],.mk 4 (.mk [] []) [] [.mk 3 (.mk [113] [.mk [88] [],.mk [102] [.mk [88] []]]) [] []]]]],⟨Ys,by decide,by decide⟩,zbs _ _ Ys (by decide) (by decide) Ys Ys Ys⟩
theorem tx17 (s:Str)(hs:s∈t17L):∃f:Fm,FmG f 15 5/\FC Tryz.prog 136 [.one (.str s)] [fmD f,bD true]:=by
 simp only[t17L,Qu,Jg,or_false]at hs
 rcases hs with rfl|rfl|rfl|rfl|rfl|rfl|rfl|rfl|rfl
 ·exact tx17_0
 ·exact tx17_1
 ·exact tx17_2
 ·exact tx17_3
 ·exact tx17_4
 ·exact tx17_5
 ·exact tx17_6
 ·exact tx17_7
 ·exact tx17_8
theorem zml (code:List UInt8):Drw code 67 [.p 0] 602 (fun f:Fm=>(true,fmD f)) (fun f=>FmG f 15 5):=fun q hq hp=>by
 obtain⟨q1,x,c1,p1,o1,H1⟩:=qfe code 5 Yt q hq Yt
 cases x
 ·obtain⟨q2,s,c2,p2,o2,H2⟩:=ofD code t17L (by decide) (by decide) q1 c1 Yt;obtain⟨f,hf,HF⟩:=tx17 s o2;simp only[fmD,zab f]at HF;refine⟨q2,f,c2,Yt,hf,?_⟩;simp only[fmD,zab f];refine zbh Tryz.call67 Tryz.func67 rfl Ys (by simp only[Qb,Qe,Tryz.ntmps67];omega) (by simp only[Tryz.ntmps67];omega) rfl rfl (by simp[zau,T.isPin,AF.ds,bxA]) (by simp[gFS,T.fs,T.flat,AF.ds,bxA]) rfl ?_;simp -implicitDefEqProofs only[go_sem,Tryz.results67];refine zap Yr ?_;simp -implicitDefEqProofs only[go_sem];refine zaq [0,2,3,1000000] [7] [1000000] [] (H1) (by decide) rfl Yr Yr Yr Yr ?_;simp -implicitDefEqProofs only[go_sem];refine zaq [2,1000000] [12,13] [1000000] [] (H2) (by decide) rfl Yr Yr Yr Yr ?_;simp -implicitDefEqProofs only[go_sem];refine callF (HF) Yr ?_;simp -implicitDefEqProofs only[go_sem]
 ·obtain⟨q2,f,c2,p2,⟨o2,o3⟩,H2⟩:=zju code q1 c1 Yt;simp only[fmD,zab f]at H2;refine⟨q2,f,c2,Yt,o3.mono Yt Yt,?_⟩;simp only[fmD,zab f];refine zbh Tryz.call67 Tryz.func67 rfl Ys (by simp only[Qb,Qe,Tryz.ntmps67];omega) (by simp only[Tryz.ntmps67];omega) rfl rfl (by simp[zau,T.isPin,AF.ds,bxA]) (by simp[gFS,T.fs,T.flat,AF.ds,bxA]) rfl ?_;simp -implicitDefEqProofs only[go_sem,Tryz.results67];refine zap Yr ?_;simp -implicitDefEqProofs only[go_sem];refine zaq [0,2,3,1000000] [7] [1000000] [] (H1) (by decide) rfl Yr Yr Yr Yr ?_;simp -implicitDefEqProofs only[go_sem];refine zaq [2,1000000] [9] [1000000] [] (H2) (by decide) rfl Yr Yr Yr Yr ?_;simp -implicitDefEqProofs only[go_sem]
end
section
open Go.RowKit
theorem zpp (code:List UInt8)(q q1 q2:Cu)(f:Fm)(x:Int)(hx:6<=x\/x=5/\f.parts=[])(H1:PC Tryz.prog 135 (za4 code q) [.p 0] (za4 code q1) [(true,fmD f)])(H2:PC Tryz.prog 134 (za4 code q1) [.p 0,.d false (iD 24)] (za4 code q2) [(true,iD x)]) :
  PC Tryz.prog 142 (za4 code q) [.p 0] (za4 code q2) [(true,fmD f)]:=by
 have e0:(x==0)=false:=by rw[Qy];omega
 have e1:(x==1)=false:=by rw[Qy];omega
 have e2:(x==2)=false:=by rw[Qy];omega
 have e3:(x==3)=false:=by rw[Qy];omega
 have e4:(x==4)=false:=by rw[Qy];omega
 simp only[fmD,zab f]at H1⊢
 rcases hx with hx|⟨hx,ha⟩
 ·have e5:(x==5)=false:=by rw[Qy];omega
  refine zbh Tryz.call142 Tryz.func142 rfl Ys (by simp only[Qb,Qe,Tryz.ntmps142];omega) (by simp only[Tryz.ntmps142];omega) rfl rfl (by simp[zau,T.isPin,AF.ds,bxA]) (by simp[gFS,T.fs,T.flat,AF.ds,bxA]) rfl ?_;simp -implicitDefEqProofs only[go_sem,Tryz.results142];refine zaq [0,2,1000000] [5] [1000000] [] (H1) (by decide) rfl Yr Yr Yr Yr ?_;simp -implicitDefEqProofs only[go_sem];refine zaq [0,2,3,1000000] [7] [1000000] [] (H2) (by decide) rfl (by simp -implicitDefEqProofs only[go_sem,e0,e1,e2,e3,e4,e5]) (by simp -implicitDefEqProofs only[go_sem,e0,e1,e2,e3,e4,e5]) (by simp -implicitDefEqProofs only[go_sem,e0,e1,e2,e3,e4,e5]) (by simp -implicitDefEqProofs only[go_sem,e0,e1,e2,e3,e4,e5]) ?_;simp -implicitDefEqProofs only[go_sem,e0,e1,e2,e3,e4,e5]
 ·subst hx;rw[ha]at H1⊢;refine zbh Tryz.call142 Tryz.func142 rfl Ys (by simp only[Qb,Qe,Tryz.ntmps142];omega) (by simp only[Tryz.ntmps142];omega) rfl rfl (by simp[zau,T.isPin,AF.ds,bxA]) (by simp[gFS,T.fs,T.flat,AF.ds,bxA]) rfl ?_;simp -implicitDefEqProofs only[go_sem,Tryz.results142];refine zaq [0,2,1000000] [5] [1000000] [] (H1) (by decide) rfl Yr Yr Yr Yr ?_;simp -implicitDefEqProofs only[go_sem];refine zaq [0,2,3,1000000] [7] [1000000] [] (H2) (by decide) rfl (by simp -implicitDefEqProofs only[go_sem,Qe,Qk]) (by simp -implicitDefEqProofs only[go_sem,Qe,Qk]) (by simp -implicitDefEqProofs only[go_sem,Qe,Qk]) (by simp -implicitDefEqProofs only[go_sem,Qe,Qk]) ?_;simp -implicitDefEqProofs only[go_sem,Qe,Qk]
theorem qmc (code:List UInt8)(q q1 q2 q3:Cu)(f:Fm)(x:Int)(H1:PC Tryz.prog 135 (za4 code q) [.p 0] (za4 code q1) [(true,fmD f)])(H2:PC Tryz.prog 134 (za4 code q1) [.p 0,.d false (iD 24)] (za4 code q2) [(true,iD 0)])
  (H3:PC Tryz.prog 134 (za4 code q2) [.p 0,.d false (iD 11)] (za4 code q3) [(true,iD x)]) :
  PC Tryz.prog 142 (za4 code q) [.p 0] (za4 code q3) [(true,fmD (.mk x f.atom f.var f.parts))]:=by
 simp only[fmD,zab f]at H1
 unfold fmD
 rw[show fmC (.mk x f.atom f.var f.parts)=[.int .i64 x,.str f.atom.name,.sl 2 (f.atom.args.map tmC),.str f.var,.sl 5 (f.parts.map fmC)] from zab _]
 refine zbh Tryz.call142 Tryz.func142 rfl Ys (by simp only[Qb,Qe,Tryz.ntmps142];omega) (by simp only[Tryz.ntmps142];omega) rfl rfl (by simp[zau,T.isPin,AF.ds,bxA]) (by simp[gFS,T.fs,T.flat,AF.ds,bxA]) rfl ?_
 simp -implicitDefEqProofs only[go_sem,Tryz.results142]
 refine zaq [0,2,1000000] [5] [1000000] [] (H1) (by decide) rfl Yr Yr Yr Yr ?_
 simp -implicitDefEqProofs only[go_sem]
 refine zaq [0,2,3,1000000] [7] [1000000] [] (H2) (by decide) rfl Yr Yr Yr Yr ?_
 simp -implicitDefEqProofs only[go_sem]
 refine zaq [2,3,1000000] [11] [1000000] [] (H3) (by decide) rfl Yr Yr Yr Yr ?_
 simp -implicitDefEqProofs only[go_sem]
abbrev vaL:List Str:=[[88],[97],[]]
theorem qf5 (code:List UInt8)(q q1 q2 q3:Cu)(f:Fm)(s:Str)(H1:PC Tryz.prog 135 (za4 code q) [.p 0] (za4 code q1) [(true,fmD f)])(H2:PC Tryz.prog 134 (za4 code q1) [.p 0,.d false (iD 24)] (za4 code q2) [(true,iD 1)])
  (H3:PC Tryz.prog 137 (za4 code q2) [.p 0,.d true (.one (zbm vaL))] (za4 code q3) [(true,.one (.str s))]) :
  PC Tryz.prog 142 (za4 code q) [.p 0] (za4 code q3) [(true,fmD (.mk f.op f.atom s f.parts))]:=by
 simp only[fmD,zab f]at H1
 unfold fmD
 rw[show fmC (.mk f.op f.atom s f.parts)=[.int .i64 f.op,.str f.atom.name,.sl 2 (f.atom.args.map tmC),.str s,.sl 5 (f.parts.map fmC)] from zab _]
 refine zbh Tryz.call142 Tryz.func142 rfl Ys (by simp only[Qb,Qe,Tryz.ntmps142];omega) (by simp only[Tryz.ntmps142];omega) rfl rfl (by simp[zau,T.isPin,AF.ds,bxA]) (by simp[gFS,T.fs,T.flat,AF.ds,bxA]) rfl ?_
 simp -implicitDefEqProofs only[go_sem,Tryz.results142]
 refine zaq [0,2,1000000] [5] [1000000] [] (H1) (by decide) rfl Yr Yr Yr Yr ?_
 simp -implicitDefEqProofs only[go_sem]
 refine zaq [0,2,3,1000000] [7] [1000000] [] (H2) (by decide) rfl Yr Yr Yr Yr ?_
 simp -implicitDefEqProofs only[go_sem]
 refine zap Yr ?_
 simp -implicitDefEqProofs only[go_sem]
 refine zaq [2,3,1000000] [16,17] [1000000] [] (H3) (by decide) rfl Yr Yr Yr Yr ?_
 simp -implicitDefEqProofs only[go_sem]
theorem qei (code:List UInt8)(q q1 q2 q3:Cu)(f:Fm)(u:Tm)(H1:PC Tryz.prog 135 (za4 code q) [.p 0] (za4 code q1) [(true,fmD f)])(H2:PC Tryz.prog 134 (za4 code q1) [.p 0,.d false (iD 24)] (za4 code q2) [(true,iD 2)])
  (H3:PC Tryz.prog 201 (za4 code q2) [.p 0] (za4 code q3) [(true,tmD u)]) :
  PC Tryz.prog 142 (za4 code q) [.p 0] (za4 code q3) [(true,fmD (.mk f.op u f.var f.parts))]:=by
 simp only[fmD,zab f]at H1
 simp only[tmD,zaa u]at H3
 unfold fmD
 rw[show fmC (.mk f.op u f.var f.parts)=[.int .i64 f.op,.str u.name,.sl 2 (u.args.map tmC),.str f.var,.sl 5 (f.parts.map fmC)] from zab _]
 refine zbh Tryz.call142 Tryz.func142 rfl Ys (by simp only[Qb,Qe,Tryz.ntmps142];omega) (by simp only[Tryz.ntmps142];omega) rfl rfl (by simp[zau,T.isPin,AF.ds,bxA]) (by simp[gFS,T.fs,T.flat,AF.ds,bxA]) rfl ?_
 simp -implicitDefEqProofs only[go_sem,Tryz.results142]
 refine zaq [0,2,1000000] [5] [1000000] [] (H1) (by decide) rfl Yr Yr Yr Yr ?_
 simp -implicitDefEqProofs only[go_sem]
 refine zaq [0,2,3,1000000] [7] [1000000] [] (H2) (by decide) rfl Yr Yr Yr Yr ?_
 simp -implicitDefEqProofs only[go_sem]
 refine zaq [2,3,1000000] [22] [1000000] [] (H3) (by decide) rfl Yr Yr Yr Yr ?_
 simp -implicitDefEqProofs only[go_sem]
theorem qcw (code:List UInt8)(q q1 q2 q3:Cu)(f g:Fm)(hl:f.parts.length<=100000)(H1:PC Tryz.prog 135 (za4 code q) [.p 0] (za4 code q1) [(true,fmD f)])(H2:PC Tryz.prog 134 (za4 code q1) [.p 0,.d false (iD 24)] (za4 code q2) [(true,iD 3)])
  (H3:PC Tryz.prog 135 (za4 code q2) [.p 0] (za4 code q3) [(true,fmD g)]) :
  PC Tryz.prog 142 (za4 code q) [.p 0] (za4 code q3) [(true,fmD (.mk f.op f.atom f.var (f.parts++[g])))]:=by
 simp only[fmD,zab f]at H1
 simp only[fmD,zab g]at H3
 unfold fmD
 rw[show fmC (.mk f.op f.atom f.var (f.parts++[g]))=[.int .i64 f.op,.str f.atom.name,.sl 2 (f.atom.args.map tmC),.str f.var,.sl 5 ((f.parts++[g]).map fmC)] from zab _]
 have hl2:f.parts.length<=4294967295:=by omega
 refine zbh Tryz.call142 Tryz.func142 rfl Ys (by simp only[Qb,Qe,Tryz.ntmps142];omega) (by simp only[Tryz.ntmps142];omega) rfl rfl (by simp[zau,T.isPin,AF.ds,bxA]) (by simp[gFS,T.fs,T.flat,AF.ds,bxA]) rfl ?_
 simp -implicitDefEqProofs only[go_sem,Tryz.results142]
 refine zaq [0,2,1000000] [5] [1000000] [] (H1) (by decide) rfl Yr Yr Yr Yr ?_
 simp -implicitDefEqProofs only[go_sem]
 refine zaq [0,2,3,1000000] [7] [1000000] [] (H2) (by decide) rfl Yr Yr Yr Yr ?_
 simp -implicitDefEqProofs only[go_sem]
 refine drawn Ys ?_
 simp -implicitDefEqProofs only[go_sem]
 refine zfk [1000000] (H3) (by decide) Yr Yr ?_
 simp -implicitDefEqProofs only[go_sem]
 refine za8 Yr ?_
 simp -implicitDefEqProofs only[go_sem]
 refine zek true (by simp -implicitDefEqProofs only[go_sem,ne_eq,Qa,Qb,Qe,hl2]) ?_
 simp -implicitDefEqProofs only[go_sem,ne_eq,Qa,Qb,Qe,hl2]
 refine⟨Ys,?_⟩
 left
 rw[Qt,Qi,Qk,zab g]
 simp -implicitDefEqProofs only[go_sem]
end
section
open Go.RowKit
theorem qa2 (code:List UInt8)(q q1 q2 q3:Cu)(f p:Fm)(ps:List Fm)(x:Int)(hf:f.parts=p::ps)(H1:PC Tryz.prog 135 (za4 code q) [.p 0] (za4 code q1) [(true,fmD f)])(H2:PC Tryz.prog 134 (za4 code q1) [.p 0,.d false (iD 24)] (za4 code q2) [(true,iD 5)])
  (H3:PC Tryz.prog 134 (za4 code q2) [.p 0,.d false (iD 11)] (za4 code q3) [(true,iD x)]) :
  PC Tryz.prog 142 (za4 code q) [.p 0] (za4 code q3) [(true,fmD (.mk f.op f.atom f.var (.mk x p.atom p.var p.parts::ps)))]:=by
 have hgt:decide (0<((ps.length+1:Nat):Int))=true:=by simp
 simp only[fmD,zab f,hf,Qi,zab p]at H1
 unfold fmD
 rw[show fmC (.mk f.op f.atom f.var (.mk x p.atom p.var p.parts::ps))=[.int .i64 f.op,.str f.atom.name,.sl 2 (f.atom.args.map tmC),.str f.var,.sl 5 ((.mk x p.atom p.var p.parts::ps).map fmC)] from zab _]
 refine zbh Tryz.call142 Tryz.func142 rfl Ys (by simp only[Qb,Qe,Tryz.ntmps142];omega) (by simp only[Tryz.ntmps142];omega) rfl rfl (by simp[zau,T.isPin,AF.ds,bxA]) (by simp[gFS,T.fs,T.flat,AF.ds,bxA]) rfl ?_
 simp -implicitDefEqProofs only[go_sem,Tryz.results142]
 refine zaq [0,2,1000000] [5] [1000000] [] (H1) (by decide) rfl Yr Yr Yr Yr ?_
 simp -implicitDefEqProofs only[go_sem]
 refine zaq [0,2,3,1000000] [7] [1000000] [] (H2) (by decide) rfl (by simp -implicitDefEqProofs only[go_sem,Qb,hgt]) (by simp -implicitDefEqProofs only[go_sem,Qb,hgt]) (by simp -implicitDefEqProofs only[go_sem,Qb,hgt]) (by simp -implicitDefEqProofs only[go_sem,Qb,hgt]) ?_
 simp -implicitDefEqProofs only[go_sem,Qb,hgt]
 refine drawn Ys ?_
 simp -implicitDefEqProofs only[go_sem,Qb,Qa]
 refine zfk [1000000] (H3) (by decide) Yr Yr ?_
 simp -implicitDefEqProofs only[go_sem]
 refine⟨Yt,?_⟩
 refine znt (by
  simp -implicitDefEqProofs only[go_sem]
  exact fun _=>trivial) ?_
 simp -implicitDefEqProofs only[go_sem]
 refine⟨Ys,?_⟩
 left
 rw[zab (.mk x p.atom p.var p.parts)]
 exact Or.inl rfl
end
section
open Go.RowKit
theorem qey (a:Fm)(hs:a.wt<=1099511627776)(H:∀x∈a.parts,FC Tryz.prog 202 [fmD x] [iD x.nodes]):FC Tryz.prog 202 [fmD a] [iD a.nodes]:=by
 have hl:a.parts.length<=9223372036854775807:=by rw[Fm.wt_eq]at hs;omega
 have hn:=zfr a
 have hN:=a.nodes_eq
 simp only[fmD,zab a]
 refine zak Tryz.call202 Tryz.func202 rfl Ys (zaz Ys) ?_
 simp -implicitDefEqProofs only[go_sem,Tryz.results202]
 refine zaf (fun k:Nat=>hd [(1,.one (.bx 1 0)),(3,vI ((1+zpx Fm.nodes a.parts k:Nat):Int)),(4,vI k)] [(1,[.t (.int .i64 a.op),.t (.str a.atom.name),.t (tmS a.atom.args),.t (.str a.var),.t (fmS a.parts)])] []) (fun k=>k<=a.parts.length) (fun k=>a.parts.length-k) 0 (zad ?_) (Q1 _) ?_
 ·rw[qa3];simp -implicitDefEqProofs only[go_sem]
 ·intro k hk;by_cases hlt:k<a.parts.length
  ·have hp:=zfq Fm.nodes a.parts k hlt;have hle:=zyy Fm.nodes a.parts (k+1);have HC:=H a.parts[k] (Qd hlt);simp only[fmD,zab a.parts[k]]at HC;have hw1:IntKind.i64.wrap (((1+zpx Fm.nodes a.parts k:Nat):Int)+(a.parts[k].nodes:Int))=((1+zpx Fm.nodes a.parts (k+1):Nat):Int):=by rw[zbn Yt Yt];omega
   have hwk:IntKind.i64.wrap ((k:Int)+1)=((k+1:Nat):Int):=zam Yt;simp -implicitDefEqProofs only[go_sem,zac,hlt,zab a.parts[k]];refine callF (HC) Yr ?_;simp -implicitDefEqProofs only[go_sem];rw[hw1,hwk];exact⟨k+1,hlt,Yt,zad Yr⟩
  ·simp -implicitDefEqProofs only[go_sem,hlt];rw[zhv Fm.nodes a.parts k Yt,hN]
theorem qjc:∀a:Fm,a.wt<=1099511627776->FC Tryz.prog 202 [fmD a] [iD a.nodes] :=
 zb7 fun b0 b1 b2 xs ih hs=>qey (.mk b0 b1 b2 xs) hs fun x hx=>ih x hx (Q9 (zb8 (a:=.mk b0 b1 b2 xs) hx) hs)
def zsf (f:Fm):Nat->Fm
 | 0=>f
 | k+1=>.mk 4 (.mk [] []) [] [zsf f k]
theorem zvm (f:Fm)(k:Nat):fmC (zsf f (k+1))=[.int .i64 4,.str [],.sl 2 [],.str [],.sl 5 [fmC (zsf f k)]]:=zab _
theorem zso (f:Fm):∀k:Nat,(zsf f k).wt=f.wt+k
 | 0=>rfl
 | k+1=>by
  show(Fm.mk 4 (.mk [] []) [] [zsf f k]).wt=_
  rw[zoc,zc6,Qi,Qk,Qz,Ks,zso f k];simp only[Qb,Qe,Qk,Ks];omega
theorem zl5 (f:Fm):∀k:Nat,(zsf f k).nodes=f.nodes+k
 | 0=>rfl
 | k+1=>by
  rw[Fm.nodes_eq];show 1+([zsf f k].map Fm.nodes).sum=_
  rw[Qi,Qk,Qz,Ks,zl5 f k];omega
def ntF (f:Fm)(n:Nat):Fm:=zsf f (n-f.nodes)
theorem ntF_wt (f:Fm)(n:Nat):(ntF f n).wt<=f.wt+n:=by
 unfold ntF;rw[zso];omega
def ntS (code:List UInt8)(q:Cu)(f:Fm)(m:Nat):Nat->St
 | 0=>hd [(2,.one (.bx 2 0)),(3,.one (.bx 3 0)),(4,vI m),(1000000,.one (.bx 1000000 0))] [(2,[.t (.int .i64 0),.t (.str []),.nl 2,.t (.str []),.nl 5]),(3,[.t (.int .i64 f.op),.t (.str f.atom.name),.ow 194 0,.t (.str f.var),.ow 196 0]),(1000000,[.rn (zou code),.t (.int .i64 q.pos),.t (.int .u64 q.seed)])] [(194,⟨true,2,f.atom.args.map tmC,0,true⟩),(196,⟨true,5,f.parts.map fmC,0,true⟩)]
 | k+1=>hd [(2,.one (.bx 2 0)),(3,.one (.bx 3 0)),(4,vI m),(1000000,.one (.bx 1000000 0))] [(2,[.t (.int .i64 0),.t (.str []),.nl 2,.t (.str []),.nl 5]),(3,[.t (.int .i64 4),.t (.str []),.nl 2,.t (.str []),.ow 5000 0]),(1000000,[.rn (zou code),.t (.int .i64 q.pos),.t (.int .u64 q.seed)])] [(5000,⟨true,5,[fmC (zsf f k)],0,true⟩)]
theorem qbk (code:List UInt8)(q q1 q2 q3:Cu)(f:Fm)(x:Int)(hx:0<=x/\x<5)(hf:f.wt<=3000)(H1:PC Tryz.prog 135 (za4 code q) [.p 0] (za4 code q1) [(true,fmD f)])(H2:PC Tryz.prog 134 (za4 code q1) [.p 0,.d false (iD 24)] (za4 code q2) [(true,iD 4)])
  (H3:PC Tryz.prog 134 (za4 code q2) [.p 0,.d false (iD 5)] (za4 code q3) [(true,iD x)]) :
  PC Tryz.prog 142 (za4 code q) [.p 0] (za4 code q3) [(true,fmD (ntF f (36+x).toNat))]:=by
 obtain⟨m,hm⟩:∃m:Nat,36+x=m:=⟨(36+x).toNat,Yt⟩
 have hm2:(36+x).toNat=m:=by omega
 have hw:IntKind.i64.wrap (36+x)=(m:Int):=by rw[zbn Yt Yt];exact hm
 have hZ:∀k,k<=m->(zsf f k).wt<=1099511627776:=fun k hk=>by rw[zso];omega
 rw[hm2]
 unfold ntF
 simp only[fmD,zab f]at H1
 refine zbh Tryz.call142 Tryz.func142 rfl Ys (by simp only[Qb,Qe,Tryz.ntmps142];omega) (by simp only[Tryz.ntmps142];omega) rfl rfl (by simp[zau,T.isPin,AF.ds,bxA]) (by simp[gFS,T.fs,T.flat,AF.ds,bxA]) rfl ?_
 simp -implicitDefEqProofs only[go_sem,Tryz.results142]
 refine zaq [0,2,1000000] [5] [1000000] [] (H1) (by decide) rfl Yr Yr Yr Yr ?_
 simp -implicitDefEqProofs only[go_sem]
 refine zaq [0,2,3,1000000] [7] [1000000] [] (H2) (by decide) rfl Yr Yr Yr Yr ?_
 simp -implicitDefEqProofs only[go_sem]
 refine zaq [2,3,1000000] [36] [1000000] [] (H3) (by decide) rfl Yr Yr Yr Yr ?_
 simp -implicitDefEqProofs only[go_sem]
 rw[hw]
 refine zaf (ntS code q3 f m) (fun k=>k<=m-f.nodes) (fun k=>m-f.nodes-k) 0 (zad ?_) (Q1 _) ?_
 ·simp -implicitDefEqProofs only[go_sem]
 ·intro k hk;have HS:=qjc (zsf f k) (hZ k Yt);rw[zl5]at HS;by_cases hlt:k<m-f.nodes
  ·have h0:(((f.nodes+k:Nat):Int)<(m:Int))=True:=by simp;omega
   cases k with
   | zero =>
    simp only[fmD,show zsf f 0=f from rfl,zab f]at HS;show ex _ _ _ _ (hd _ _ _)
    simp -implicitDefEqProofs only[go_sem];refine callF (HS) (by simp -implicitDefEqProofs only[go_sem,h0]) ?_;simp -implicitDefEqProofs only[go_sem,h0];refine zap Yr ?_;simp -implicitDefEqProofs only[go_sem];refine⟨1,Yt,Yt,zch 1408 5000 ?_⟩;simp -implicitDefEqProofs only[go_sem];rw[show zsf f 0=f from rfl,zab f]
   | succ k =>
    simp only[fmD,zvm f k]at HS;show ex _ _ _ _ (hd _ _ _)
    simp -implicitDefEqProofs only[go_sem];refine callF (HS) (by simp -implicitDefEqProofs only[go_sem,h0]) ?_;simp -implicitDefEqProofs only[go_sem,h0];refine zap Yr ?_;simp -implicitDefEqProofs only[go_sem];refine⟨k+2,Yt,Yt,zch 1408 5000 ?_⟩;simp -implicitDefEqProofs only[go_sem];rw[zvm f k]
  ·have h0:(((f.nodes+k:Nat):Int)<(m:Int))=False:=by simp;omega
   have e:m-f.nodes=k:=by omega
   rw[e];cases k with
   | zero =>
    simp only[fmD,show zsf f 0=f from rfl,zab f]at HS;show ex _ _ _ _ (hd _ _ _)
    simp -implicitDefEqProofs only[go_sem];refine callF (HS) (by simp -implicitDefEqProofs only[go_sem,h0]) ?_;simp -implicitDefEqProofs only[go_sem,h0];rw[show zsf f 0=f from rfl,zab f];left;simp -implicitDefEqProofs only[go_sem]
   | succ k =>
    simp only[fmD,zvm f k]at HS;show ex _ _ _ _ (hd _ _ _)
    simp -implicitDefEqProofs only[go_sem];refine callF (HS) (by simp -implicitDefEqProofs only[go_sem,h0]) ?_;simp -implicitDefEqProofs only[go_sem,h0];rw[zvm f k];left;simp -implicitDefEqProofs only[go_sem]
end
section
open Go.RowKit
variable {P:Program}{N:Nat}
theorem Wk.fzO {σ σ':St}(e:Nat)(k:zav (σ.ev e) fun x=>x.deep=true/\x.on=true/\Wk (σ.fz e x) σ'):Wk σ σ':=by
 obtain⟨x,hx,h1,h2,h3⟩:=zar k
 exact(qnh hx h1 h2).trans h3
end
section
open Go.RowKit
variable {P:Program}{N:Nat}
inductive Ob
 | mp (ag:Bool) (rows:List (List T))
 | it (src:Nat) (ag:Bool) (left:List (List T)) (last:Option (List T))
abbrev Hid:=List (Nat×Ob)
end
end Go.Proofs.YtliiapbmkcbfaaaGreat
