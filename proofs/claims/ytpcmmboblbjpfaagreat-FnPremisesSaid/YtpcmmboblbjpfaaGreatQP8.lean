/-
  The walk over plain data, and contracts of functions of the program and of its laws.
  Conditions: those that each theorem names.
-/
import Derived.Test.YtpcmmboblbjpfaaGreatQP5
import Derived.Test.YtpcmmboblbjpfaaGreatQP7
import Derived.Lib.SliceRun
import Derived.Test.YtpcmmboblbjpfaaGreatQP6
import Derived.Test.YtpcmmboblbjpfaaGreatQP4
import Derived.RangeFuncNested
import Derived.RangeFuncBound
import Derived.RangeFuncCalls
import Derived.TacticsInMore
import Derived.LoopNIn
import Derived.LoopIn
namespace Go.Proofs.YtpcmmboblbjpfaaGreat
set_option linter.unusedSimpArgs false
set_option linter.unusedVariables false
set_option linter.unusedSectionVars false
set_option maxRecDepth 4000
set_option maxHeartbeats 8000000
section
open Go.RowKit
theorem zp6 (ss:List Str)(hl:ss.length<=1099511627776):IC Tryz.prog 102 [] (.one (zb5 ss)) [] (.one (zb5 (zi0 ss))) [] :=
 qk3 Tryz.call102 (fun blk off cap ss w h1 h2 h3=>Any.slices_Sort_string Tryz.lays190 blk off cap ss w h1 h2 h3) (fun p cap w=>Any.slices_Sort_string_none Tryz.lays190 p cap w) ss Yo
theorem zvk:CloneOf Tryz.prog 293 1 16:=by
 have t22:=Tryz.underlying41
 have q22:∀(w:World) (a:Option Addr) (n c n' c':Nat),(binOp .eql 41 (.slice a n c) (.slice none n' c')).run Tryz.prog w=.ok (.bool a.isNone) w:=fun w a n c n' c'=>Lib.run_eql_slice_nil w _ _ a n c n' c' t22
 have u22:∀w,Sem.run Tryz.prog (underlying 41) w=.ok (TypeDesc.slice 9) w:=run_underlying t22
 refine⟨Tryz.call293,fun ad n c news w hl hn hbig hc h1=>?_,fun n c w=>?_⟩
 ·have A:Aside (∀j u,news[j]?=some u->w.cell? (ad.add j)=some u):=hc;clear hc;obtain⟨i0,z,hi,hz0,hzs,hz1,hz2⟩:=ql9 (P:=Tryz.prog) (t:=9) (n:=1) (b:=16) (z:=[.t (.str [])]) Yn Yn Yn rfl
  go_enter Tryz.func293,Tryz.ntmps293
  go_wp2_with (at_builtin;refine wpList_append_own _ rfl _ _ 41 rfl w.heap.size 9 i0 z 1 16 t22 hi hz0 hz1 hz2 hzs (by decide) _ _ _ rfl (World.ownsRow_made w #[] 0 (Qz _) (Q3 _) (by simp)) ad n c news rfl ?qc1 ?qc2 ?qc3 ?qc4 ?qc5 ?qc6 ?_)
  case qc1=>exact hl
  case qc2 =>
   intro j u hj;exact Lib.cell?_alloc_some _ (A.out j u hj)
  case qc3=>exact h1
  case qc4=>rw[Q5];exact hn
  case qc5=>rw[Q5];exact hbig
  case qc6=>simp
  intro v' w1 hown hgrow hnil
  go_wp2
  go_ret
  refine⟨_,v',rfl,by simpa using hown,hnil,?_⟩;exact((Below.refl _ w).alloc (Qz _) _).grown hgrow (by simp) (by intro k hk;simp[Value.ownBlock]at hk;omega)
 ·go_enter Tryz.func293,Tryz.ntmps293
  go_wp2
  go_ret
  exact⟨rfl,rfl⟩
theorem zwc (ss:List Str):∀c∈(ss.map fun s=>[T.str s]).flatten,c.flat=true:=fun c hc=>by
 rw[zj9]at hc
 obtain⟨s,_,rfl⟩:=Ki.1 hc
 rfl
theorem zvn (ss:List Str)(hs:ss.length<=1099511627776):FC Tryz.prog 293 [.one (zb5 ss)] [.one (zb5 ss)] :=
 qfg zvk _ (by simp;omega) (zwc ss)
theorem zte (xs:List Str)(s:Str):FC Tryz.prog 216 [.one (zb5 xs),sD s] [bD (xs.contains s)]:=by
 refine zfa (fun hw=>?_) Tryz.call216
 have hl:xs.length<=9223372036854775807:=by simpa[ziy,wfT]using hw.1.1
 refine zai Tryz.call216 Tryz.func216 rfl Yn (zau Yn) ?_
 simp -implicitDefEqProofs only[go_sem,Tryz.results216]
 refine zaf (fun k:Nat=>hd [(0,vT (zb5 xs)),(1,vT (.str s)),(5,vI k)] [] []) (fun k=>k<=xs.length/\s∉xs.take k) (fun k=>xs.length-k) 0 (zac ?_) ?_ ?_
 ·simp -implicitDefEqProofs only[go_sem]
 ·simp
 ·intro k ⟨hk,hr⟩;by_cases hlt:k<xs.length
  ·simp -implicitDefEqProofs only[go_sem,zae,hlt];refine⟨fun h=>?_,fun h=>?_⟩
   ·have e:xs[k]=s:=by simpa using h
    rw[Kh.2 (e▸Qj hlt)]
   ·have e:xs[k]≠s:=by simpa using h
    exact⟨k+1,⟨hlt,zhx hlt hr e⟩,Yo,zac (by simp -implicitDefEqProofs only[go_sem];rw[zaw Yo])⟩
  ·simp -implicitDefEqProofs only[go_sem,hlt];rw[Qu Yo]at hr;simpa using hr
theorem zda {α:Type}{p:α->Bool}:∀{l:List α}{k:Nat},k<=l.length->(∀x∈l.take k,p x=true)->(∀h:k<l.length,p l[k]=false)->l.takeWhile p=l.take k/\l.dropWhile p=l.drop k
 | [],k,hk,_,_=>by simp
 | a::l,0,hk,_,h2=>by have:=h2 (by simp);simp only[List.getElem_cons_zero]at this;simp[this]
 | a::l,k+1,hk,h1,h2=>by
  have ha:=h1 a (by simp);obtain⟨e1,e2⟩:=zda (l:=l) (k:=k) (by simpa using hk) (fun x hx=>h1 x (by simp[hx])) (fun h=>h2 (by simpa using h));simp[ha,e1,e2]
theorem qbp {l:List Str}{s:Str}{k:Nat}(hk:k<=l.length)(h1:∀x∈l.take k,Op.bytesLess x s=true)(h2:∀h:k<l.length,Op.bytesLess l[k] s=false):zu7 l s=if(l.drop k).head?=some s then l else l.take k++[s]++l.drop k:=by
 obtain⟨e1,e2⟩:=zda (p:=fun x=>Op.bytesLess x s) hk h1 h2
 unfold zu7
 rw[e1,e2]
theorem flR_of {rows:List (List T)}(h:∀r∈rows,r.all T.flat=true):flR rows=true:=by
 induction rows with
 | nil=>rfl
 | cons r rs ih=>unfold flR;rw[h r (by simp),ih fun r hr=>h r (by simp[hr])];rfl
theorem zc1 (l:List Str):flR (l.map fun s=>[T.str s])=true:=flR_of fun r hr=>by obtain⟨s,_,rfl⟩:=Ki.1 hr;rfl
theorem zcl (k:Nat)(l:List Str):flR ((l.map fun s=>[T.str s]).take k)=true:=by rw[<-List.map_take];exact zc1 _
theorem zcn (k:Nat)(l:List Str):flR ((l.map fun s=>[T.str s]).drop k)=true:=by rw[<-List.map_drop];exact zc1 _
theorem zfg {α β:Type}(f:α->β)(l:List α):(l.map f).take l.length=l.map f:=Qu (by simp)
theorem qcp (l:List Str)(s:Str)(hl:l.length<=2147483648):GC Tryz.prog 121 [(true,.one (zb5 l)),(false,sD s)] [.one (zb5 (zu7 l s))]:=by
 refine qhh Tryz.call121 Tryz.func121 rfl Yn (by simp only[Qc,Qd,Tryz.ntmps121];omega) (by simp[zay,T.isPin]) ?_
 simp -implicitDefEqProofs only[go_sem,Tryz.results121]
 refine zaf (fun k:Nat=>hd [(0,.one (.ow 0 0)),(1,vT (.str s)),(5,vI k)] [] [(0,⟨true,1,l.map fun s=>[.str s],0,true⟩)]) (fun k=>k<=l.length/\∀x∈l.take k,Op.bytesLess x s=true) (fun k=>l.length-k) 0 (zac ?_) ?_ ?_
 ·simp -implicitDefEqProofs only[go_sem]
 ·simp
 ·intro k ⟨hk,hr⟩;have hm1:min k l.length<=4294967296:=by omega
  have hm2:min k l.length<=4294967295:=by omega
  have hm3:min k l.length+1+(l.length-k)<=4294967296:=by omega
  by_cases hlt:k<l.length
  ·have hnx:∀{b},Op.bytesLess l[k] s=b->b=true->∀x∈l.take (k+1),Op.bytesLess x s=true:=fun {b} e hb x hx=>by
    rw[Qk hlt]at hx;rcases Qt.1 hx with hx|hx
    ·exact hr x hx
    ·rw[Qw.1 hx,e,hb]
   simp -implicitDefEqProofs only[go_sem,zae,hlt];refine⟨fun h=>⟨k+1,⟨hlt,hnx rfl h⟩,Yo,zac (by simp -implicitDefEqProofs only[go_sem];rw[zaw Yo])⟩,fun h=>?_⟩;have hp:=qbp hk hr (fun _=>h);have hh:(l.drop k).head?=some l[k]:=by rw[List.head?_drop,List.getElem?_eq_getElem hlt]
   refine⟨fun h2=>?_,fun h2=>?_⟩
   ·rw[hp,if_pos (by rw[hh];simpa using h2)]
   ·rw[if_neg (by rw[hh];simpa using h2)]at hp;refine frzD 0 ?_;simp -implicitDefEqProofs only[go_sem];refine drawn Yn ?_;simp -implicitDefEqProofs only[go_sem,hk];refine za2 (by simp -implicitDefEqProofs only[go_sem,hk]) ?_;simp -implicitDefEqProofs only[go_sem,hk];refine zgr true (by simp -implicitDefEqProofs only[go_sem,hk,ne_eq,Q5,hm1,hm2,hm3,zcl,zcn,zfg,K3,Qs,Qi,Qa]) ?_;simp -implicitDefEqProofs only[go_sem,hk,ne_eq,Q5,hm1,hm2,hm3,zcl,zcn,zfg,K3,Qs,Qi,Qa];refine za2 (by simp -implicitDefEqProofs only[go_sem,hk]) ?_;simp -implicitDefEqProofs only[go_sem,hk];refine zgr true (by simp -implicitDefEqProofs only[go_sem,hk,ne_eq,Q5,hm1,hm2,hm3,zcl,zcn,zfg,K3,Qs,Qi,Qa]) ?_;simp -implicitDefEqProofs only[go_sem,hk,ne_eq,Q5,hm1,hm2,hm3,zcl,zcn,zfg,K3,Qs,Qi,Qa];refine zgr true (by simp -implicitDefEqProofs only[go_sem,hk,ne_eq,Q5,hm1,hm2,hm3,zcl,zcn,zfg,K3,Qs,Qi,Qa]) ?_;simp -implicitDefEqProofs only[go_sem,hk,ne_eq,Q5,hm1,hm2,hm3,zcl,zcn,zfg,K3,Qs,Qi,Qa];refine⟨Yn,?_⟩;rw[hp];simp
  ·simp -implicitDefEqProofs only[go_sem,hlt];have hp:=qbp hk hr (fun h=>absurd h hlt);rw[if_neg (by rw[Q6 Yo];simp)]at hp;refine frzD 0 ?_;simp -implicitDefEqProofs only[go_sem];refine drawn Yn ?_;simp -implicitDefEqProofs only[go_sem,hk];refine za2 (by simp -implicitDefEqProofs only[go_sem,hk]) ?_;simp -implicitDefEqProofs only[go_sem,hk];refine zgr true (by simp -implicitDefEqProofs only[go_sem,hk,ne_eq,Q5,hm1,hm2,hm3,zcl,zcn,zfg,K3,Qs,Qi,Qa]) ?_;simp -implicitDefEqProofs only[go_sem,hk,ne_eq,Q5,hm1,hm2,hm3,zcl,zcn,zfg,K3,Qs,Qi,Qa];refine za2 (by simp -implicitDefEqProofs only[go_sem,hk]) ?_;simp -implicitDefEqProofs only[go_sem,hk];refine zgr true (by simp -implicitDefEqProofs only[go_sem,hk,ne_eq,Q5,hm1,hm2,hm3,zcl,zcn,zfg,K3,Qs,Qi,Qa]) ?_;simp -implicitDefEqProofs only[go_sem,hk,ne_eq,Q5,hm1,hm2,hm3,zcl,zcn,zfg,K3,Qs,Qi,Qa];refine zgr true (by simp -implicitDefEqProofs only[go_sem,hk,ne_eq,Q5,hm1,hm2,hm3,zcl,zcn,zfg,K3,Qs,Qi,Qa]) ?_;simp -implicitDefEqProofs only[go_sem,hk,ne_eq,Q5,hm1,hm2,hm3,zcl,zcn,zfg,K3,Qs,Qi,Qa];refine⟨Yn,?_⟩;rw[hp];simp
end
section
open Go.RowKit
def voI:Tm->List Str:=Tm.fold fun n xs rs=>if(decide (xs.length=0)&&zik (n.getD 0 0))=true then [n]else rs.flatten
theorem qa1 (a:Tm):voI a=if(decide (a.args.length=0)&&zik (a.name.getD 0 0))=true then [a.name]else (a.args.map voI).flatten:=Tm.fold_eq _ a
def voS:Tm->List Str:=Tm.fold fun n _ rs=>if za9 n=true then [n]else rs.flatten
theorem zjm (a:Tm):voS a=if za9 a.name=true then [a.name]else (a.args.map voS).flatten:=Tm.fold_eq _ a
def Tm.ne:Tm->Bool:=Tm.fold fun n xs rs=>(!decide (xs.length=0)||decide (0<n.length))&&rs.all id
theorem Tm.ne_eq' (a:Tm):a.ne=((!decide (a.args.length=0)||decide (0<a.name.length))&&a.args.all Tm.ne):=by
 unfold Tm.ne
 rw[Tm.fold_eq]
 simp only[List.all_map]
 rfl
def zsx (l:List Str)(s:Str):List Str:=if l.contains s=true then l else l++[s]
def zc2 (l:List Str)(ss:List Str):List Str:=ss.foldl zsx l
theorem qe3 (l:List Str)(s:Str):(zsx l s).length<=l.length+1:=by unfold zsx;split<;>simp
theorem zee:∀(ss:List Str)(l:List Str),(zc2 l ss).length<=l.length+ss.length
 | [],l=>by simp[zc2]
 | s::ss,l=>by have:=zee ss (zsx l s);have:=qe3 l s;simp only[zc2,Jw,Qc]at *;omega
theorem zhz (l a b:List Str):zc2 l (a++b)=zc2 (zc2 l a) b:=Yh ..
theorem qfr (l:List Str)(s x:Str):x∈zsx l s↔x=s\/x∈l:=by
 unfold zsx
 split
 ·rename_i h;have h:s∈l:=by simpa using h
  exact⟨Or.inr,fun k=>k.elim (fun e=>e▸h) id⟩
 ·simp[or_comm]
theorem zoz:∀(ss l:List Str)(x:Str),x∈zc2 l ss↔x∈ss\/x∈l
 | [],l,x=>by simp[zc2]
 | s::ss,l,x=>by
  show x∈zc2 (zsx l s) ss↔_
  rw[zoz ss,qfr];simp[or_assoc,or_left_comm,or_comm]
theorem qjk {l:List Str}(h:l.Nodup)(s:Str):(zsx l s).Nodup:=by
 unfold zsx
 split
 ·exact h
 ·rename_i hn;have hn:s∉l:=by simpa using hn
  exact Kf.2 ⟨h,by simp,fun a ha b hb e=>hn (by rw[Qw.1 hb]at e;exact e▸ha)⟩
theorem ztm:∀(ss:List Str){l:List Str},l.Nodup->(zc2 l ss).Nodup
 | [],_,h=>h
 | s::ss,_,h=>ztm ss (qjk h s)
def zbb (l:List Str)(ss:List Str):List Str:=ss.foldl zu7 l
theorem zuw (l:List Str)(s:Str):(zu7 l s).length<=l.length+1:=by
 unfold zu7
 split
 ·omega
 ·have:l.length=((l.takeWhile fun x=>Op.bytesLess x s)++l.dropWhile fun x=>Op.bytesLess x s).length:=by rw[List.takeWhile_append_dropWhile]
  simp only[Qi,Qc,Qd]at *;omega
theorem zcx:∀(ss:List Str)(l:List Str),(zbb l ss).length<=l.length+ss.length
 | [],l=>by simp[zbb]
 | s::ss,l=>by have:=zcx ss (zu7 l s);have:=zuw l s;simp only[zbb,Jw,Qc]at *;omega
theorem ze0 (l a b:List Str):zbb l (a++b)=zbb (zbb l a) b:=Yh ..
theorem zes:∀(ss l:List Str)(x:Str),x∈zbb l ss↔x∈ss\/x∈l
 | [],l,x=>by simp[zbb]
 | s::ss,l,x=>by
  show x∈zbb (zu7 l s) ss↔_
  rw[zes ss,qeq];simp[or_assoc,or_left_comm,or_comm]
theorem zqc:∀(ss:List Str){l:List Str},Srt l->Srt (zbb l ss)
 | [],_,h=>h
 | s::ss,_,h=>zqc ss (qfj h s)
theorem zt5 (ss:List Str):zi0 (zc2 [] ss)=zbb [] ss :=
 qlf (qc7 (ztm ss Kp)) (zqc ss List.Pairwise.nil) fun s=>by rw[zys,zoz,zes]
theorem qi8 (a:Tm)(h:0<a.name.length):FC Tryz.prog 171 [tmD a] [bD (zik (a.name.getD 0 0))]:=by
 simp only[tmD,zab]
 refine zai Tryz.call171 Tryz.func171 rfl Yn (zau Yn) ?_
 simp -implicitDefEqProofs only[go_sem,Tryz.results171]
 have h0:(0:Int)<a.name.length:=by omega
 simp -implicitDefEqProofs only[go_sem,h0,h]
 refine callF (zpy (a.name.getD 0 0)) Ym ?_
 simp -implicitDefEqProofs only[go_sem]
theorem zc4 {α:Type}(f:α->List Str)(xs:List α)(k:Nat)(h:k<xs.length):((xs.take (k+1)).map f).flatten=((xs.take k).map f).flatten++f xs[k]:=by
 rw[Qk h,Qy,Jv];simp
theorem zqz {α:Type}(f:α->List Str):∀(xs:List α),∀x∈xs,(f x).length<=((xs.map f).flatten).length
 | [],x,h=>by simp at h
 | a::xs,x,h=>by
  rcases Qr.1 h with rfl|h
  ·simp
  ·have:=zqz f xs x h;simp at *;omega
theorem zce {α:Type}(f:α->List Str)(xs:List α)(k:Nat)(h:k<xs.length):(((xs.take k).map f).flatten).length+(f xs[k]).length<=((xs.map f).flatten).length:=by
 have e:xs=xs.take k++xs[k]::xs.drop (k+1):=by rw[<-Qx h,K9]
 conv=>rhs;rw[e]
 simp only[Qy,Qg,Jv,Q8,Qi];omega
theorem zwt (a:Tm)(ha:a.ne=true)(H:∀x∈a.args,∀ys:List Str,ys.length+(voI x).length<=1073741824->GC Tryz.prog 100 [(true,.one (zb5 ys)),(false,tmD x)] [.one (zb5 (zc2 ys (voI x)))])
  (ys:List Str) (hs:ys.length+(voI a).length<=1073741824) (hl:a.args.length<=1099511627776):GC Tryz.prog 100 [(true,.one (zb5 ys)),(false,tmD a)] [.one (zb5 (zc2 ys (voI a)))]:=by
 have hv:=qa1 a
 rw[Tm.ne_eq']at ha
 simp only[tmD,zab]
 refine zth Tryz.call100 Tryz.func100 rfl Yn (by simp only[Qc,Qd,Tryz.ntmps100];omega) (by simp[zay,T.isPin]) ?_
 simp -implicitDefEqProofs only[go_sem,Tryz.results100]
 by_cases h0:a.args.length=0
 ·have hn:0<a.name.length:=by simp[h0]at ha;omega
  have e0:((a.args.length:Int)==0)=true:=by simp[h0]
  have hV:=qi8 a hn;simp only[tmD,zab]at hV;simp -implicitDefEqProofs only[go_sem,e0];refine callF (hV) Ym ?_;simp -implicitDefEqProofs only[go_sem];refine⟨fun h1=>?_,fun h1=>?_⟩
  ·rw[h1,show decide (a.args.length=0)=true by simpa using h0,Qv,if_pos rfl]at hv;rw[hv]at hs⊢;refine callF (zcz ys a.name) Ym ?_;simp -implicitDefEqProofs only[go_sem];have hy:ys.length+1<=4294967296:=by simp at hs;omega
   have hy2:ys.length<=4294967295:=by simp at hs;omega
   refine⟨fun h2=>?_,fun h2=>?_⟩
   ·have h2:ys.contains a.name=false:=by simpa using h2
    refine zad Ym ?_;simp -implicitDefEqProofs only[go_sem];refine apD true (by simp -implicitDefEqProofs only[go_sem,hy,hy2,ne_eq,Qa]) ?_;simp -implicitDefEqProofs only[go_sem,hy,hy2,ne_eq,Qa];have e:zc2 ys [a.name]=ys++[a.name]:=by show zsx ys a.name=_;unfold zsx;rw[h2];simp
    exact Or.inl (by rw[e];simp)
   ·have h2:ys.contains a.name=true:=by simpa using h2
    have e:zc2 ys [a.name]=ys:=by show zsx ys a.name=_;unfold zsx;rw[h2];simp
    exact Or.inl (by rw[e])
  ·rw[h1,Ka,if_neg (by simp),Q7.1 h0,Qh,List.flatten_nil]at hv;have hv:voI a=(a.args.map voI).flatten:=by rw[hv,Q7.1 h0];rfl
   rw[hv]at hs⊢;refine zaf (fun k:Nat=>hd [(0,.one (.ow 0 0)),(27,.one (.rn (tmS a.args))),(28,vI a.args.length),(29,vI k)] [] [(0,⟨true,1,(zc2 ys ((a.args.take k).map voI).flatten).map fun s=>[.str s],0,true⟩)]) (fun k=>k<=a.args.length) (fun k=>a.args.length-k) 0 (zac ?_) (Q3 _) ?_
   ·simp -implicitDefEqProofs only[go_sem];rfl
   ·intro k hk;by_cases hlt:k<a.args.length
    ·have hf:=zce voI a.args k hlt;have hL:=zee ((a.args.take k).map voI).flatten ys;have hx:=zqz voI a.args _ (Qj hlt);have HC:=H a.args[k] (Qj hlt) (zc2 ys ((a.args.take k).map voI).flatten) Yo;rw[<-zhz,<-zc4 voI a.args k hlt]at HC;simp only[tmD,zab a.args[k]]at HC;simp -implicitDefEqProofs only[go_sem,zae,hlt,zab a.args[k]];refine zdo [27,28,29] [33,34] [] (HC) Ym Ym Ym Ym ?_;simp -implicitDefEqProofs only[go_sem];refine⟨k+1,hlt,Yo,zb0 0 1120 ?_⟩;simp -implicitDefEqProofs only[go_sem];rw[zaw Yo]
    ·simp -implicitDefEqProofs only[go_sem,hlt];exact Or.inl (by rw[Qu Yo])
 ·have e0:((a.args.length:Int)==0)=false:=by simp[h0]
  rw[show decide (a.args.length=0)=false by simpa using h0,Qq,if_neg (by simp)]at hv;rw[hv]at hs⊢;simp -implicitDefEqProofs only[go_sem,e0];refine zaf (fun k:Nat=>hd [(0,.one (.ow 0 0)),(27,.one (.rn (tmS a.args))),(28,vI a.args.length),(29,vI k)] [] [(0,⟨true,1,(zc2 ys ((a.args.take k).map voI).flatten).map fun s=>[.str s],0,true⟩)]) (fun k=>k<=a.args.length) (fun k=>a.args.length-k) 0 (zac ?_) (Q3 _) ?_
  ·simp -implicitDefEqProofs only[go_sem];rfl
  ·intro k hk;by_cases hlt:k<a.args.length
   ·have hf:=zce voI a.args k hlt;have hL:=zee ((a.args.take k).map voI).flatten ys;have hx:=zqz voI a.args _ (Qj hlt);have HC:=H a.args[k] (Qj hlt) (zc2 ys ((a.args.take k).map voI).flatten) Yo;rw[<-zhz,<-zc4 voI a.args k hlt]at HC;simp only[tmD,zab a.args[k]]at HC;simp -implicitDefEqProofs only[go_sem,zae,hlt,zab a.args[k]];refine zdo [27,28,29] [33,34] [] (HC) Ym Ym Ym Ym ?_;simp -implicitDefEqProofs only[go_sem];refine⟨k+1,hlt,Yo,zb0 0 1120 ?_⟩;simp -implicitDefEqProofs only[go_sem];rw[zaw Yo]
   ·simp -implicitDefEqProofs only[go_sem,hlt];exact Or.inl (by rw[Qu Yo])
theorem qad:∀a:Tm,a.ne=true->a.wt<=1099511627776->∀ys:List Str,ys.length+(voI a).length<=1073741824->GC Tryz.prog 100 [(true,.one (zb5 ys)),(false,tmD a)] [.one (zb5 (zc2 ys (voI a)))] :=
 zby fun n xs ih ha hw ys hs=>zwt (.mk n xs) ha (fun x hx ys hs=>ih x hx (by rw[Tm.ne_eq',Qb]at ha;exact Qn.1 ha.2 x hx) (by
  have:=Tm.wt_eq (.mk n xs);have:=zb8 Tm.wt xs x hx
  simp only[Tm.args]at *;omega) ys hs) ys hs (by have:=Tm.wt_eq (.mk n xs);omega)
theorem zr4 (a:Tm)(ha:a.ne=true)(hw:a.wt<=1099511627776)(hs:(voI a).length<=1073741824):FC Tryz.prog 292 [tmD a] [.one (zb5 (zbb [] (voI a)))]:=by
 have HC:=qad a ha hw [] (by simpa using hs)
 have HS:=zp6 (zc2 [] (voI a)) (by have:=zee (voI a) [];simp at this;omega)
 rw[zt5]at HS
 simp only[tmD,zab]at HC⊢
 refine zh2 Tryz.call292 Tryz.func292 rfl Yn (zau Yn) ?_
 simp -implicitDefEqProofs only[go_sem,Tryz.results292]
 refine zad Ym ?_
 simp -implicitDefEqProofs only[go_sem]
 refine zdo [] [4,5] [] (HC) Ym Ym Ym Ym ?_
 simp -implicitDefEqProofs only[go_sem]
 refine qhr (HS) (by simp -implicitDefEqProofs only[go_sem,zc1]) (by simp -implicitDefEqProofs only[go_sem,zc1]) rfl ?_
 simp -implicitDefEqProofs only[go_sem,zc1]
theorem qdc (a:Tm)(H:∀x∈a.args,∀ys:List Str,ys.length+(voS x).length<=1073741824->GC Tryz.prog 49 [(true,.one (zb5 ys)),(false,tmD x)] [.one (zb5 (zbb ys (voS x)))])
  (ys:List Str) (hs:ys.length+(voS a).length<=1073741824) (hl:a.args.length<=1099511627776):GC Tryz.prog 49 [(true,.one (zb5 ys)),(false,tmD a)] [.one (zb5 (zbb ys (voS a)))]:=by
 have hv:=zjm a
 simp only[tmD,zab]
 refine zth Tryz.call49 Tryz.func49 rfl Yn (by simp only[Qc,Qd,Tryz.ntmps49];omega) (by simp[zay,T.isPin]) ?_
 simp -implicitDefEqProofs only[go_sem,Tryz.results49]
 refine callF (zib a.name) Ym ?_
 simp -implicitDefEqProofs only[go_sem]
 refine⟨fun h=>?_,fun h=>?_⟩
 ·rw[if_pos h]at hv;rw[hv]at hs⊢;refine zdo [] [9,11] [] (qcp ys a.name (by simp at hs;omega)) Ym Ym Ym Ym ?_;simp -implicitDefEqProofs only[go_sem];exact Or.inl rfl
 ·rw[h,if_neg (by simp)]at hv;rw[hv]at hs⊢;refine zaf (fun k:Nat=>hd [(0,.one (.ow 0 0)),(3,.one (.bx 3 0)),(5,vI k)] [(3,[.t (.str a.name),.rn (tmS a.args)])] [(0,⟨true,1,(zbb ys ((a.args.take k).map voS).flatten).map fun s=>[.str s],0,true⟩)]) (fun k=>k<=a.args.length) (fun k=>a.args.length-k) 0 (zac ?_) (Q3 _) ?_
  ·simp -implicitDefEqProofs only[go_sem];rfl
  ·intro k hk;by_cases hlt:k<a.args.length
   ·have hf:=zce voS a.args k hlt;have hL:=zcx ((a.args.take k).map voS).flatten ys;have HC:=H a.args[k] (Qj hlt) (zbb ys ((a.args.take k).map voS).flatten) Yo;rw[<-ze0,<-zc4 voS a.args k hlt]at HC;simp only[tmD,zab a.args[k]]at HC;simp -implicitDefEqProofs only[go_sem,zae,hlt,zab a.args[k]];refine zdo [3,5] [20,25] [] (HC) Ym Ym Ym Ym ?_;simp -implicitDefEqProofs only[go_sem];refine⟨k+1,hlt,Yo,zb0 0 832 ?_⟩;simp -implicitDefEqProofs only[go_sem];rw[zaw Yo]
   ·simp -implicitDefEqProofs only[go_sem,hlt];exact Or.inl (by rw[Qu Yo])
end
section
open Go.RowKit
theorem qd2:∀a:Tm,a.wt<=1099511627776->∀ys:List Str,ys.length+(voS a).length<=1073741824->GC Tryz.prog 49 [(true,.one (zb5 ys)),(false,tmD a)] [.one (zb5 (zbb ys (voS a)))] :=
 zby fun n xs ih hw ys hs=>qdc (.mk n xs) (fun x hx ys hs=>ih x hx (Kk (znr (a:=.mk n xs) hx) hw) ys hs) ys hs (by have:=Tm.wt_eq (.mk n xs);omega)
theorem zuy (a:Tm)(hw:a.wt<=1099511627776)(hs:(voS a).length<=1073741824):FC Tryz.prog 183 [tmD a] [.one (zb5 (zbb [] (voS a)))]:=by
 have HC:=qd2 a hw [] (by simpa using hs)
 simp only[tmD,zab]at HC⊢
 refine zh2 Tryz.call183 Tryz.func183 rfl Yn (zau Yn) ?_
 simp -implicitDefEqProofs only[go_sem,Tryz.results183]
 refine zad Ym ?_
 simp -implicitDefEqProofs only[go_sem]
 refine zdo [] [3,4] [] (HC) Ym Ym Ym Ym ?_
 simp -implicitDefEqProofs only[go_sem]
theorem zmi {s:Str}(h:za9 s=true):zik (s.getD 0 0)=true/\0<s.length:=by
 unfold za9 at h
 rw[Qb]at h
 cases s with
 | nil=>exact absurd h.2 (by decide)
 | cons b s =>
  have:=zt7 (s:=b::s) (by simp);rw[h.1]at this;have:=(Qb _ _).mp this.symm;exact⟨this.1,by simp⟩
theorem up_low {b:UInt8}(h:zfs b=true):zik b=false:=by
 unfold zfs zik at *
 simp only[Qb,Qm,Bool.and_eq_false_iff,Jf]at *
 omega
theorem zkj {s:Str}(h:zcs s=true):zik (s.getD 0 0)=false/\0<s.length:=by
 unfold zcs at h
 simp only[Qb]at h
 cases s with
 | nil=>exact absurd h.1.2 (by decide)
 | cons b s =>
  have:=zon (s:=b::s) (by simp);rw[h.1.1]at this;have:=(Qb _ _).mp this.symm;exact⟨up_low this.1,by simp⟩
theorem ztk:∀a:Tm,a.names=true->voI a=voS a/\a.ne=true:=zby fun n xs ih h=>by
 rw[Tm.names_eq]at h
 rw[qa1,zjm,Tm.ne_eq']
 change (if za9 n=true then decide (xs.length=0)else zcs n&&decide (xs.length<=4)&&xs.all Tm.names)=true at h
 change (if(decide (xs.length=0)&&zik (n.getD 0 0))=true then [n]else (xs.map voI).flatten)=(if za9 n=true then [n]else (xs.map voS).flatten)/\((!decide (xs.length=0)||decide (0<n.length))&&xs.all Tm.ne)=true
 change ∀x∈xs,_ at ih
 by_cases hv:za9 n=true
 ·rw[if_pos hv]at h⊢;obtain⟨h1,h2⟩:=zmi hv;have h:xs.length=0:=Jj h;have hx:xs=[]:=Q7.1 h;subst hx;rw[h1];exact⟨rfl,by simp[h2]⟩
 ·rw[if_neg hv]at h⊢;simp only[Qb]at h;obtain⟨h1,h2⟩:=zkj h.1.1;rw[h1,Ka,if_neg (by simp)];have hI:=fun x hx=>ih x hx (Qn.1 h.2 x hx);refine⟨by rw[Kg fun x hx=>(hI x hx).1],?_⟩;rw[Qb];exact⟨by simp[h2],Qn.2 fun x hx=>(hI x hx).2⟩
theorem qkp {a:Tm}(h:a.atomOk=true):voI a=voS a/\a.ne=true:=by
 unfold Tm.atomOk at h
 split at h
 ·rename_i he;have he:a.name=[61]:=by simpa using he
  simp only[Qb,Qm]at h;rw[qa1,zjm,Tm.ne_eq',he];have hI:=fun x hx=>ztk x (Qn.1 h.2 x hx);rw[show zik (([61]:Str).getD 0 0)=false by decide,show za9 [61]=false by decide,Ka,if_neg (by simp),if_neg (by simp)];refine⟨by rw[Kg fun x hx=>(hI x hx).1],?_⟩;rw[Qb];exact⟨by simp,Qn.2 fun x hx=>(hI x hx).2⟩
 ·simp only[Qb]at h;have:=h.2;unfold Tm.good at this;rw[Qb]at this;exact ztk a this.2
theorem zew {f:Fm}(h:f.here=true)(h3:f.op=3):f.atom.atomOk=true/\f.parts=[]:=by
 unfold Fm.here at h
 rw[h3]at h
 simp only[show((3:Int)==1||(3:Int)==2)=false by decide,show((3:Int)==3)=true by decide,if_true,Qp,if_false,Qb,Qm,Q7]at h
 exact⟨h.1.2,h.1.1⟩
def vf:Fm->List Str->List Str:=Fm.fold fun o a v _ rs b=>if(o==3)=true then (zbb [] (voS a)).filter (fun s=>!b.contains s)else (rs.map fun r=>r (if isQ o=true then b++[v]else b)).flatten
theorem zk6 (f:Fm)(b:List Str):vf f b=if(f.op==3)=true then (zbb [] (voS f.atom)).filter (fun s=>!b.contains s)else (f.parts.map fun x=>vf x (if isQ f.op=true then b++[f.var]else b)).flatten:=by
 unfold vf
 rw[Fm.fold_eq]
 simp only[Kt]
 rfl
theorem zmp:∀a:Tm,(voS a).length<=1+a.wt:=zby fun n xs ih=>by
 rw[zjm,Tm.wt_eq]
 change (if za9 n=true then [n]else (xs.map voS).flatten).length<=1+(n.length+xs.length+(xs.map Tm.wt).sum)
 split
 ·simp
 ·have:((xs.map voS).flatten).length<=xs.length+(xs.map Tm.wt).sum:=by
   revert ih;induction xs with
   | nil=>simp
   | cons x xs ih2 =>
    intro ih;have h1:=ih x (by simp);have h2:=ih2 fun y hy=>ih y (by simp[hy]);simp only[Qg,Q8,Qi,Q2,Qc];omega
  omega
theorem zs1:∀(f:Fm)(b:List Str),(vf f b).length<=f.nodes+f.wt:=zcc fun o a v ps ih b=>by
 rw[zk6,Fm.nodes_eq,Fm.wt_eq]
 change (if(o==3)=true then (zbb [] (voS a)).filter (fun s=>!b.contains s)else (ps.map fun x=>vf x (if isQ o=true then b++[v]else b)).flatten).length<=1+(ps.map Fm.nodes).sum+(a.wt+v.length+ps.length+(ps.map Fm.wt).sum)
 split
 ·have h1:=List.length_filter_le (fun s=>!b.contains s) (zbb [] (voS a));have h2:=zcx (voS a) [];have h3:=zmp a;simp only[Qd]at h2;omega
 ·have:∀b,((ps.map fun x=>vf x b).flatten).length<=(ps.map Fm.nodes).sum+(ps.map Fm.wt).sum:=fun b=>by
   revert ih;induction ps with
   | nil=>simp
   | cons x xs ih2 =>
    intro ih;have h1:=ih x (by simp) b;have h2:=ih2 fun y hy=>ih y (by simp[hy]);simp only[Qg,Q8,Qi,Q2];omega
  have:=this (if isQ o=true then b++[v]else b);omega
def zgl (b l:List Str)(s:Str):List Str:=if(!b.contains s&&!l.contains s)=true then l++[s]else l
theorem zin (b:List Str):∀(ss l:List Str),ss.foldl (zgl b) l=zc2 l (ss.filter fun s=>!b.contains s)
 | [],l=>rfl
 | s::ss,l=>by
  rw[Jw,zin b ss,List.filter_cons];unfold zgl;by_cases h:b.contains s=true
  ·rw[h];simp
  ·have h:b.contains s=false:=by simpa using h
   rw[h,if_pos (show(!false)=true from rfl)];show _=zc2 (zsx l s) _
   congr 1
   unfold zsx;cases l.contains s<;>rfl
theorem zy5 {b l:List Str}{s:Str}(h:(!b.contains s)=true)(h2:(!l.contains s)=true):zgl b l s=l++[s]:=by unfold zgl;rw[h,h2];rfl
theorem qgh {b l:List Str}{s:Str}(h2:(!l.contains s)=false):zgl b l s=l:=by unfold zgl;rw[h2,Ka];rfl
theorem qk0 {b l:List Str}{s:Str}(h:(!b.contains s)=false):zgl b l s=l:=by unfold zgl;rw[h,Qq];rfl
theorem zzq (b l:List Str)(s:Str):(zgl b l s).length<=l.length+1:=by unfold zgl;split<;>simp
theorem zlj (b:List Str):∀(ss l:List Str),(ss.foldl (zgl b) l).length<=l.length+ss.length
 | [],l=>by simp
 | s::ss,l=>by have:=zlj b ss (zgl b l s);have:=zzq b l s;simp only[Jw,Qc]at *;omega
theorem zfr {α β:Type}(g:β->α->β)(xs:List α)(z:β)(k:Nat)(h:k<xs.length):(xs.take (k+1)).foldl g z=g ((xs.take k).foldl g z) xs[k]:=by
 rw[Qk h,Yh];rfl
theorem qbf (f:Fm)(hf:f.forms=true)(hw:f.wt<=1048576)(H:∀x∈f.parts,∀ys b:List Str,ys.length+(vf x b).length<=1073741824->b.length+x.nodes<=1073741824->GC Tryz.prog 280 [(true,.one (zb5 ys)),(false,fmD x),(false,.one (zb5 b))] [.one (zb5 (zc2 ys (vf x b)))])
  (ys b:List Str) (hs:ys.length+(vf f b).length<=1073741824) (hb:b.length+f.nodes<=1073741824):GC Tryz.prog 280 [(true,.one (zb5 ys)),(false,fmD f),(false,.one (zb5 b))] [.one (zb5 (zc2 ys (vf f b)))]:=by
 have hv:=zk6 f b
 have hN:=f.nodes_eq
 have hW:=f.wt_eq
 rw[Fm.forms_eq,Qb]at hf
 simp only[fmD,zaa]
 refine zth Tryz.call280 Tryz.func280 rfl Yn (by simp only[Qc,Qd,Tryz.ntmps280];omega) (by simp[zay,T.isPin]) ?_
 simp -implicitDefEqProofs only[go_sem,Tryz.results280]
 by_cases h3:f.op=3
 ·obtain⟨ha,hp⟩:=zew hf.1 h3;obtain⟨ev,ene⟩:=qkp ha;have e3:(f.op==3)=true:=by simp[h3]
  rw[if_pos e3]at hv;have hvl:=zmp f.atom;have HV:=zr4 f.atom ene Yo (by rw[ev];omega);rw[ev]at HV;have hPl:=zcx (voS f.atom) [];generalize zbb [] (voS f.atom)=V at hv HV hPl;rw[hv,<-zin b V ys];simp only[tmD,zab]at HV;simp -implicitDefEqProofs only[go_sem,e3];refine qig (HV) Ym ?_;simp -implicitDefEqProofs only[go_sem];refine zaf (fun k:Nat=>hd [(0,.one (.ow 0 0)),(2,.one (.rn (zb5 b))),(16,.one (.rn (zb5 V))),(17,vI V.length),(18,vI k)] [] [(0,⟨true,1,((V.take k).foldl (zgl b) ys).map fun s=>[.str s],0,true⟩)]) (fun k=>k<=V.length) (fun k=>V.length-k) 0 (zac ?_) (Q3 _) ?_
  ·simp -implicitDefEqProofs only[go_sem];rfl
  ·intro k hk;by_cases hlt:k<V.length
   ·have hL:=zlj b (V.take k) ys;rw[Qs]at hL;have hnx:=zfr (zgl b) V ys k hlt;simp only[Qd]at hPl;simp -implicitDefEqProofs only[go_sem,zae,hlt];refine callF (zcz b V[k]) Ym ?_;simp -implicitDefEqProofs only[go_sem];refine⟨fun h=>?_,fun h=>?_⟩
    ·refine callF (zcz ((V.take k).foldl (zgl b) ys) V[k]) Ym ?_;simp -implicitDefEqProofs only[go_sem];have hy2:((V.take k).foldl (zgl b) ys).length<=4294967295:=by omega
     refine⟨fun h2=>?_,fun h2=>?_⟩
     ·refine zad Ym ?_;simp -implicitDefEqProofs only[go_sem];refine apD true (by simp -implicitDefEqProofs only[go_sem,hy2,ne_eq,Qa]) ?_;simp -implicitDefEqProofs only[go_sem,hy2,ne_eq,Qa];refine⟨k+1,hlt,Yo,zac ?_⟩;simp -implicitDefEqProofs only[go_sem];rw[zaw Yo,hnx,zy5 h h2];exact⟨rfl,by simp⟩
     ·refine⟨k+1,hlt,Yo,zac ?_⟩;simp -implicitDefEqProofs only[go_sem];rw[zaw Yo,hnx,qgh h2];exact⟨rfl,rfl⟩
    ·refine⟨k+1,hlt,Yo,zac ?_⟩;simp -implicitDefEqProofs only[go_sem];rw[zaw Yo,hnx,qk0 h];exact⟨rfl,rfl⟩
   ·simp -implicitDefEqProofs only[go_sem,hlt];exact Or.inl (by rw[Qu Yo])
 ·have e3:(f.op==3)=false:=by simp[h3]
  rw[e3,if_neg (by simp)]at hv;simp -implicitDefEqProofs only[go_sem,e3];refine callF (zaq f.op) Ym ?_;simp -implicitDefEqProofs only[go_sem];refine⟨fun h=>?_,fun h=>?_⟩
  ·rw[if_pos h]at hv;rw[hv]at hs⊢;have hb1:b.length<=4294967295:=by omega
   refine drawn Yn ?_;simp -implicitDefEqProofs only[go_sem];refine zal (zvn b Yo) Ym ?_;simp -implicitDefEqProofs only[go_sem];refine za2 Ym ?_;simp -implicitDefEqProofs only[go_sem];refine zgr true (by simp -implicitDefEqProofs only[go_sem,hb1,ne_eq,Qa]) ?_;simp -implicitDefEqProofs only[go_sem,hb1,ne_eq,Qa];refine⟨Yn,?_⟩;refine zaf (fun k:Nat=>hd [(0,.one (.ow 0 0)),(2,.one (.rn (zb5 (b++[f.var])))),(48,.one (.rn (fmS f.parts))),(49,vI f.parts.length),(50,vI k)] [] [(0,⟨true,1,(zc2 ys ((f.parts.take k).map fun x=>vf x ((b++[f.var]))).flatten).map fun s=>[.str s],0,true⟩)]) (fun k=>k<=f.parts.length) (fun k=>f.parts.length-k) 0 (zac ?_) (Q3 _) ?_
   ·simp -implicitDefEqProofs only[go_sem];exact⟨by simp,rfl⟩
   ·intro k hk;by_cases hlt:k<f.parts.length
    ·have hq:=zce (fun x=>vf x ((b++[f.var]))) f.parts k hlt;have hL:=zee ((f.parts.take k).map fun x=>vf x ((b++[f.var]))).flatten ys;have hnx:=zb8 Fm.nodes f.parts _ (Qj hlt);have HC:=H f.parts[k] (Qj hlt) (zc2 ys ((f.parts.take k).map fun x=>vf x ((b++[f.var]))).flatten) ((b++[f.var])) Yo (by simp only[Qi,Qc,Qd];omega);rw[<-zhz,<-zc4 (fun x=>vf x ((b++[f.var]))) f.parts k hlt]at HC;simp only[fmD,zaa f.parts[k]]at HC;simp -implicitDefEqProofs only[go_sem,zae,hlt,zaa f.parts[k]];refine zdo [2,48,49,50] [54,55,56] [] (HC) Ym Ym Ym Ym ?_;simp -implicitDefEqProofs only[go_sem];refine⟨k+1,hlt,Yo,zb0 0 1824 ?_⟩;simp -implicitDefEqProofs only[go_sem];rw[zaw Yo]
    ·simp -implicitDefEqProofs only[go_sem,hlt];exact Or.inl (by rw[Qu Yo])
  ·rw[h,if_neg (by simp)]at hv;rw[hv]at hs⊢;refine zaf (fun k:Nat=>hd [(0,.one (.ow 0 0)),(2,.one (.rn (zb5 b))),(48,.one (.rn (fmS f.parts))),(49,vI f.parts.length),(50,vI k)] [] [(0,⟨true,1,(zc2 ys ((f.parts.take k).map fun x=>vf x (b)).flatten).map fun s=>[.str s],0,true⟩)]) (fun k=>k<=f.parts.length) (fun k=>f.parts.length-k) 0 (zac ?_) (Q3 _) ?_
   ·simp -implicitDefEqProofs only[go_sem];rfl
   ·intro k hk;by_cases hlt:k<f.parts.length
    ·have hq:=zce (fun x=>vf x (b)) f.parts k hlt;have hL:=zee ((f.parts.take k).map fun x=>vf x (b)).flatten ys;have hnx:=zb8 Fm.nodes f.parts _ (Qj hlt);have HC:=H f.parts[k] (Qj hlt) (zc2 ys ((f.parts.take k).map fun x=>vf x (b)).flatten) (b) Yo Yo;rw[<-zhz,<-zc4 (fun x=>vf x (b)) f.parts k hlt]at HC;simp only[fmD,zaa f.parts[k]]at HC;simp -implicitDefEqProofs only[go_sem,zae,hlt,zaa f.parts[k]];refine zdo [2,48,49,50] [54,55,56] [] (HC) Ym Ym Ym Ym ?_;simp -implicitDefEqProofs only[go_sem];refine⟨k+1,hlt,Yo,zb0 0 1824 ?_⟩;simp -implicitDefEqProofs only[go_sem];rw[zaw Yo]
    ·simp -implicitDefEqProofs only[go_sem,hlt];exact Or.inl (by rw[Qu Yo])
theorem qdo:∀f:Fm,f.forms=true->f.wt<=1048576->∀ys b:List Str,ys.length+(vf f b).length<=1073741824->b.length+f.nodes<=1073741824->GC Tryz.prog 280 [(true,.one (zb5 ys)),(false,fmD f),(false,.one (zb5 b))] [.one (zb5 (zc2 ys (vf f b)))] :=
 zcc fun o a v ps ih hf hw ys b hs hb=>qbf (.mk o a v ps) hf hw (fun x hx ys b hs hb=>ih x hx (by rw[Fm.forms_eq,Qb]at hf;exact Qn.1 hf.2 x hx) (Kk (zck (a:=.mk o a v ps) hx) hw) ys b hs hb) ys b hs hb
theorem qhp (f:Fm)(hf:f.forms=true)(hw:f.wt<=1048576):FC Tryz.prog 254 [fmD f] [.one (zb5 (zbb [] (vf f [])))]:=by
 have h1:=zs1 f []
 have h2:=zdp f
 have HC:=qdo f hf hw [] [] (by simp only[Qd];omega) (by simp only[Qd];omega)
 have HS:=zp6 (zc2 [] (vf f [])) (by have:=zee (vf f []) [];simp only[Qd]at this;omega)
 rw[zt5]at HS
 simp only[fmD,zaa]at HC⊢
 refine zh2 Tryz.call254 Tryz.func254 rfl Yn (zau Yn) ?_
 simp -implicitDefEqProofs only[go_sem,Tryz.results254]
 refine zad Ym ?_
 simp -implicitDefEqProofs only[go_sem]
 refine zdo [] [4,5] [] (HC) Ym Ym Ym Ym ?_
 simp -implicitDefEqProofs only[go_sem]
 refine qhr (HS) (by simp -implicitDefEqProofs only[go_sem,zc1]) (by simp -implicitDefEqProofs only[go_sem,zc1]) rfl ?_
 simp -implicitDefEqProofs only[go_sem,zc1]
def zia (b l:List Str)(s:Str):List Str:=if(!b.contains s)=true then zu7 l s else l
theorem ziu (b:List Str):∀(ss l:List Str),ss.foldl (zia b) l=zbb l (ss.filter fun s=>!b.contains s)
 | [],l=>rfl
 | s::ss,l=>by
  rw[Jw,ziu b ss,List.filter_cons];unfold zia;by_cases h:b.contains s=true
  ·rw[h];simp
  ·have h:b.contains s=false:=by simpa using h
   rw[h,if_pos (show(!false)=true from rfl),if_pos (show(!false)=true from rfl)];rfl
theorem zyl (b l:List Str)(s:Str):(zia b l s).length<=l.length+1:=by
 unfold zia
 split
 ·exact zuw l s
 ·omega
theorem zlw (b:List Str):∀(ss l:List Str),(ss.foldl (zia b) l).length<=l.length+ss.length
 | [],l=>by simp
 | s::ss,l=>by have:=zlw b ss (zia b l s);have:=zyl b l s;simp only[Jw,Qc]at *;omega
theorem zxv {b l:List Str}{s:Str}(h:(!b.contains s)=true):zia b l s=zu7 l s:=if_pos h
theorem qjy {b l:List Str}{s:Str}(h:(!b.contains s)=false):zia b l s=l:=by unfold zia;rw[h];rfl
theorem zxp (f:Fm)(hf:f.forms=true)(hw:f.wt<=1048576)(H:∀x∈f.parts,∀ys b:List Str,ys.length+(vf x b).length<=1073741824->b.length+x.nodes<=1073741824->GC Tryz.prog 261 [(true,.one (zb5 ys)),(false,fmD x),(false,.one (zb5 b))] [.one (zb5 (zbb ys (vf x b)))])
  (ys b:List Str) (hs:ys.length+(vf f b).length<=1073741824) (hb:b.length+f.nodes<=1073741824):GC Tryz.prog 261 [(true,.one (zb5 ys)),(false,fmD f),(false,.one (zb5 b))] [.one (zb5 (zbb ys (vf f b)))]:=by
 have hv:=zk6 f b
 have hN:=f.nodes_eq
 have hW:=f.wt_eq
 rw[Fm.forms_eq,Qb]at hf
 simp only[fmD,zaa]
 refine zth Tryz.call261 Tryz.func261 rfl Yn (by simp only[Qc,Qd,Tryz.ntmps261];omega) (by simp[zay,T.isPin]) ?_
 simp -implicitDefEqProofs only[go_sem,Tryz.results261]
 by_cases h3:f.op=3
 ·obtain⟨ha,hp⟩:=zew hf.1 h3;have e3:(f.op==3)=true:=by simp[h3]
  have e8:(f.op==8)=false:=by simp[h3]
  have e9:(f.op==9)=false:=by simp[h3]
  rw[if_pos e3]at hv;have hvl:=zmp f.atom;have HV:=zuy f.atom Yo Yo;have hPl:=zcx (voS f.atom) [];generalize zbb [] (voS f.atom)=V at hv HV hPl;simp only[Qd]at hPl;rw[hv,<-ziu b V ys];simp only[tmD,zab]at HV;simp -implicitDefEqProofs only[go_sem,e3];refine qig (HV) Ym ?_;simp -implicitDefEqProofs only[go_sem];refine zaf (fun k:Nat=>hd [(0,.one (.ow 0 0)),(2,.one (.rn (zb5 b))),(4,.one (.bx 4 0)),(7,.one (.rn (zb5 V))),(8,vI k)] [(4,[.t (.int .i64 f.op),.t (.str f.atom.name),.rn (tmS f.atom.args),.t (.str f.var),.rn (fmS f.parts)])] [(0,⟨true,1,((V.take k).foldl (zia b) ys).map fun s=>[.str s],0,true⟩)]) (fun k=>k<=V.length) (fun k=>V.length-k) 0 (zac ?_) (Q3 _) ?_
  ·simp -implicitDefEqProofs only[go_sem];rfl
  ·intro k hk;by_cases hlt:k<V.length
   ·have hL:=zlw b (V.take k) ys;rw[Qs]at hL;have hnx:=zfr (zia b) V ys k hlt;simp -implicitDefEqProofs only[go_sem,zae,hlt];refine callF (zte b V[k]) Ym ?_;simp -implicitDefEqProofs only[go_sem];refine⟨fun h=>?_,fun h=>?_⟩
    ·simp -implicitDefEqProofs only[go_sem,zae,hlt];refine zdo [2,4,7,8] [29,33] [] (qcp ((V.take k).foldl (zia b) ys) V[k] Yo) Ym Ym Ym Ym ?_;simp -implicitDefEqProofs only[go_sem];refine⟨k+1,hlt,Yo,zb0 0 1088 ?_⟩;simp -implicitDefEqProofs only[go_sem];rw[zaw Yo,hnx,zxv h];exact⟨rfl,rfl⟩
    ·refine⟨k+1,hlt,Yo,zac ?_⟩;simp -implicitDefEqProofs only[go_sem];rw[zaw Yo,hnx,qjy h];exact⟨rfl,rfl⟩
   ·rw[Qu Yo];have hr:∃R,V.foldl (zia b) ys=R:=⟨_,rfl⟩;obtain⟨R,hR⟩:=hr;rw[hR];simp -implicitDefEqProofs only[go_sem,hlt,e8,e9];refine zaf (fun k:Nat=>hd [(0,.one (.ow 0 0)),(2,.one (.rn (zb5 b))),(4,.one (.bx 4 0)),(9,vI k)] [(4,[.t (.int .i64 f.op),.t (.str f.atom.name),.rn (tmS f.atom.args),.t (.str f.var),.rn (fmS f.parts)])] [(0,⟨true,1,R.map fun s=>[.str s],0,true⟩)]) (fun k=>k=0) (fun k=>0) 0 (zac ?_) rfl ?_
    ·simp -implicitDefEqProofs only[go_sem]
    ·rintro k rfl;have hp0:f.parts.length=0:=by rw[hp];rfl
     simp -implicitDefEqProofs only[go_sem,hp0]
 ·have e3:(f.op==3)=false:=by simp[h3]
  rw[e3,if_neg (by simp)]at hv;by_cases hq8:isQ f.op=true
  ·rw[if_pos hq8]at hv;rw[hv]at hs⊢;have hb1:b.length<=4294967296:=by omega
   have hb2:b.length<=4294967295:=by omega
   have key:(f.op==8)=true\/((f.op==8)=false/\(f.op==9)=true):=by
    unfold isQ at hq8;cases h8:f.op==8
    ·rw[h8,Km]at hq8;exact Or.inr ⟨rfl,hq8⟩
    ·exact Or.inl rfl
   rcases key with e8|⟨e8,e9⟩
   ·simp -implicitDefEqProofs only[go_sem,e3,e8];refine drawn Yn ?_;simp -implicitDefEqProofs only[go_sem];refine za2 Ym ?_;simp -implicitDefEqProofs only[go_sem];refine zgr true (by simp -implicitDefEqProofs only[go_sem,hb1,zc1,ne_eq,Qa,Q5]) ?_;simp -implicitDefEqProofs only[go_sem,hb1,zc1,ne_eq,Qa,Q5];refine za2 Ym ?_;simp -implicitDefEqProofs only[go_sem];refine zgr true (by simp -implicitDefEqProofs only[go_sem,hb2,ne_eq,Qa]) ?_;simp -implicitDefEqProofs only[go_sem,hb2,ne_eq,Qa];refine⟨Yn,?_⟩;refine zaf (fun k:Nat=>hd [(0,.one (.ow 0 0)),(2,.one (.rn (zb5 (b++[f.var])))),(4,.one (.bx 4 0)),(9,vI k)] [(4,[.t (.int .i64 f.op),.t (.str f.atom.name),.rn (tmS f.atom.args),.t (.str f.var),.rn (fmS f.parts)])] [(0,⟨true,1,(zbb ys ((f.parts.take k).map fun x=>vf x ((b++[f.var]))).flatten).map fun s=>[.str s],0,true⟩)]) (fun k=>k<=f.parts.length) (fun k=>f.parts.length-k) 0 (zac ?_) (Q3 _) ?_
    ·simp -implicitDefEqProofs only[go_sem];exact⟨by simp,rfl⟩
    ·intro k hk;by_cases hlt:k<f.parts.length
     ·have hq:=zce (fun x=>vf x ((b++[f.var]))) f.parts k hlt;have hL:=zcx ((f.parts.take k).map fun x=>vf x ((b++[f.var]))).flatten ys;have hnx:=zb8 Fm.nodes f.parts _ (Qj hlt);have HC:=H f.parts[k] (Qj hlt) (zbb ys ((f.parts.take k).map fun x=>vf x ((b++[f.var]))).flatten) ((b++[f.var])) Yo (by simp only[Qi,Qc,Qd];omega);rw[<-ze0,<-zc4 (fun x=>vf x ((b++[f.var]))) f.parts k hlt]at HC;simp only[fmD,zaa f.parts[k]]at HC;simp -implicitDefEqProofs only[go_sem,zae,hlt,zaa f.parts[k]];refine zdo [2,4,9] [57,62,63] [] (HC) Ym Ym Ym Ym ?_;simp -implicitDefEqProofs only[go_sem];refine⟨k+1,hlt,Yo,zb0 0 2048 ?_⟩;simp -implicitDefEqProofs only[go_sem];rw[zaw Yo]
     ·simp -implicitDefEqProofs only[go_sem,hlt];exact Or.inl (by rw[Qu Yo])
   ·simp -implicitDefEqProofs only[go_sem,e3,e8,e9];refine drawn Yn ?_;simp -implicitDefEqProofs only[go_sem];refine za2 Ym ?_;simp -implicitDefEqProofs only[go_sem];refine zgr true (by simp -implicitDefEqProofs only[go_sem,hb1,zc1,ne_eq,Qa,Q5]) ?_;simp -implicitDefEqProofs only[go_sem,hb1,zc1,ne_eq,Qa,Q5];refine za2 Ym ?_;simp -implicitDefEqProofs only[go_sem];refine zgr true (by simp -implicitDefEqProofs only[go_sem,hb2,ne_eq,Qa]) ?_;simp -implicitDefEqProofs only[go_sem,hb2,ne_eq,Qa];refine⟨Yn,?_⟩;refine zaf (fun k:Nat=>hd [(0,.one (.ow 0 0)),(2,.one (.rn (zb5 (b++[f.var])))),(4,.one (.bx 4 0)),(9,vI k)] [(4,[.t (.int .i64 f.op),.t (.str f.atom.name),.rn (tmS f.atom.args),.t (.str f.var),.rn (fmS f.parts)])] [(0,⟨true,1,(zbb ys ((f.parts.take k).map fun x=>vf x ((b++[f.var]))).flatten).map fun s=>[.str s],0,true⟩)]) (fun k=>k<=f.parts.length) (fun k=>f.parts.length-k) 0 (zac ?_) (Q3 _) ?_
    ·simp -implicitDefEqProofs only[go_sem];exact⟨by simp,rfl⟩
    ·intro k hk;by_cases hlt:k<f.parts.length
     ·have hq:=zce (fun x=>vf x ((b++[f.var]))) f.parts k hlt;have hL:=zcx ((f.parts.take k).map fun x=>vf x ((b++[f.var]))).flatten ys;have hnx:=zb8 Fm.nodes f.parts _ (Qj hlt);have HC:=H f.parts[k] (Qj hlt) (zbb ys ((f.parts.take k).map fun x=>vf x ((b++[f.var]))).flatten) ((b++[f.var])) Yo (by simp only[Qi,Qc,Qd];omega);rw[<-ze0,<-zc4 (fun x=>vf x ((b++[f.var]))) f.parts k hlt]at HC;simp only[fmD,zaa f.parts[k]]at HC;simp -implicitDefEqProofs only[go_sem,zae,hlt,zaa f.parts[k]];refine zdo [2,4,9] [57,62,63] [] (HC) Ym Ym Ym Ym ?_;simp -implicitDefEqProofs only[go_sem];refine⟨k+1,hlt,Yo,zb0 0 2048 ?_⟩;simp -implicitDefEqProofs only[go_sem];rw[zaw Yo]
     ·simp -implicitDefEqProofs only[go_sem,hlt];exact Or.inl (by rw[Qu Yo])
  ·have hq:isQ f.op=false:=by simpa using hq8
   rw[hq,if_neg (by simp)]at hv;rw[hv]at hs⊢;unfold isQ at hq;rw[J3]at hq;obtain⟨e8,e9⟩:=hq;simp -implicitDefEqProofs only[go_sem,e3,e8,e9];refine zaf (fun k:Nat=>hd [(0,.one (.ow 0 0)),(2,.one (.rn (zb5 b))),(4,.one (.bx 4 0)),(9,vI k)] [(4,[.t (.int .i64 f.op),.t (.str f.atom.name),.rn (tmS f.atom.args),.t (.str f.var),.rn (fmS f.parts)])] [(0,⟨true,1,(zbb ys ((f.parts.take k).map fun x=>vf x (b)).flatten).map fun s=>[.str s],0,true⟩)]) (fun k=>k<=f.parts.length) (fun k=>f.parts.length-k) 0 (zac ?_) (Q3 _) ?_
   ·simp -implicitDefEqProofs only[go_sem];rfl
   ·intro k hk;by_cases hlt:k<f.parts.length
    ·have hq:=zce (fun x=>vf x (b)) f.parts k hlt;have hL:=zcx ((f.parts.take k).map fun x=>vf x (b)).flatten ys;have hnx:=zb8 Fm.nodes f.parts _ (Qj hlt);have HC:=H f.parts[k] (Qj hlt) (zbb ys ((f.parts.take k).map fun x=>vf x (b)).flatten) (b) Yo Yo;rw[<-ze0,<-zc4 (fun x=>vf x (b)) f.parts k hlt]at HC;simp only[fmD,zaa f.parts[k]]at HC;simp -implicitDefEqProofs only[go_sem,zae,hlt,zaa f.parts[k]];refine zdo [2,4,9] [57,62,63] [] (HC) Ym Ym Ym Ym ?_;simp -implicitDefEqProofs only[go_sem];refine⟨k+1,hlt,Yo,zb0 0 2048 ?_⟩;simp -implicitDefEqProofs only[go_sem];rw[zaw Yo]
    ·simp -implicitDefEqProofs only[go_sem,hlt];exact Or.inl (by rw[Qu Yo])
theorem zux:∀f:Fm,f.forms=true->f.wt<=1048576->∀ys b:List Str,ys.length+(vf f b).length<=1073741824->b.length+f.nodes<=1073741824->GC Tryz.prog 261 [(true,.one (zb5 ys)),(false,fmD f),(false,.one (zb5 b))] [.one (zb5 (zbb ys (vf f b)))] :=
 zcc fun o a v ps ih hf hw ys b hs hb=>zxp (.mk o a v ps) hf hw (fun x hx ys b hs hb=>ih x hx (by rw[Fm.forms_eq,Qb]at hf;exact Qn.1 hf.2 x hx) (Kk (zck (a:=.mk o a v ps) hx) hw) ys b hs hb) ys b hs hb
theorem qef (f:Fm)(hf:f.forms=true)(hw:f.wt<=1048576):FC Tryz.prog 260 [fmD f] [.one (zb5 (zbb [] (vf f [])))]:=by
 have h1:=zs1 f []
 have h2:=zdp f
 have HC:=zux f hf hw [] [] (by simp only[Qd];omega) (by simp only[Qd];omega)
 simp only[fmD,zaa]at HC⊢
 refine zh2 Tryz.call260 Tryz.func260 rfl Yn (zau Yn) ?_
 simp -implicitDefEqProofs only[go_sem,Tryz.results260]
 refine zad Ym ?_
 simp -implicitDefEqProofs only[go_sem]
 refine zad Ym ?_
 simp -implicitDefEqProofs only[go_sem]
 refine frzO 160 rfl rfl ?_
 simp -implicitDefEqProofs only[go_sem]
 refine zdo [] [3,4,5] [] (HC) (by simp -implicitDefEqProofs only[go_sem,zb5,Qh]) (by simp -implicitDefEqProofs only[go_sem,zb5,Qh]) (by simp -implicitDefEqProofs only[go_sem,zb5,Qh]) (by simp -implicitDefEqProofs only[go_sem,zb5,Qh]) ?_
 simp -implicitDefEqProofs only[go_sem,zb5,Qh]
end
section
open Go.RowKit
theorem zx5 (s:Str):FC Tryz.prog 248 [sD s] [bD false]:=by
 refine zai Tryz.call248 Tryz.func248 rfl Yn (zau Yn) ?_
 simp -implicitDefEqProofs only[go_sem,Tryz.results248]
 simp
def cmpI (s t:Str):Int:=if Op.bytesLess s t=true then -1 else if(s==t)=true then 0 else 1
theorem qg6 (s t:Str):FC Tryz.prog 192 [sD s,sD t] [iD (cmpI s t)]:=by
 have hc:cmpI s t=if Op.bytesLess s t=true then -1 else if(s==t)=true then 0 else 1:=rfl
 refine zai Tryz.call192 Tryz.func192 rfl Yn (zau Yn) ?_
 simp -implicitDefEqProofs only[go_sem,Tryz.results192]
 refine callF (zx5 s) Ym ?_
 simp -implicitDefEqProofs only[go_sem]
 refine callF (zx5 t) Ym ?_
 simp -implicitDefEqProofs only[go_sem]
 refine⟨fun h=>by rw[hc,if_pos h],fun h=>⟨fun h2=>?_,fun h2=>?_⟩⟩
 ·rw[h,Km,Jo]at h2;rw[hc,h,h2];rfl
 ·rw[h,Km,Bool.not_eq_false']at h2;rw[hc,h,h2];rfl
def bnC (p:Str×Tm):List T:=.str p.1::tmC p.2
def sbS (l:List (Str×Tm)):T:=.sl 3 (l.map bnC)
theorem zg6 (n:Str)(t:Tm):bnC (n,t)=[.str n,.str t.name,.sl 2 (t.args.map tmC)]:=by unfold bnC;rw[zab]
theorem zxk (n:Str)(t:Tm)(x:Str):FC Tryz.prog 298 [.agg (bnC (n,t)),sD x] [iD (cmpI n x)]:=by
 rw[zg6]
 refine zai Tryz.call298 Tryz.func298 rfl Yn (zau Yn) ?_
 simp -implicitDefEqProofs only[go_sem,Tryz.results298]
 refine callF (qg6 n x) Ym ?_
 simp -implicitDefEqProofs only[go_sem]
theorem zs9 (n:Str)(t:Tm)(x:Str):FC Tryz.prog 297 [.one (sbS [(n,t)]),sD x,.one (.fn 298 [])] [iD (if Op.bytesLess n x=true then 1 else 0),bD (n==x)]:=by
 have H:=zxk n t x
 have hS:sbS [(n,t)]=.sl 3 [bnC (n,t)]:=rfl
 rw[hS]
 rw[zg6]at H⊢
 have hc:cmpI n x=if Op.bytesLess n x=true then -1 else if(n==x)=true then 0 else 1:=rfl
 refine zai Tryz.call297 Tryz.func297 rfl Yn (zau Yn) ?_
 simp -implicitDefEqProofs only[go_sem,Tryz.results297]
 refine zaf (fun p:Nat×Nat=>hd [(0,vT (.sl 3 [[.str n,.str t.name,.sl 2 (t.args.map tmC)]])),(1,vT (.str x)),(2,vT (.fn 298 [])),(8,vI (1:Nat)),(9,vI p.1),(10,vI p.2)] [] []) (fun p=>p=(0,1)\/(p=(1,1)/\Op.bytesLess n x=true)\/(p=(0,0)/\Op.bytesLess n x=false)) (fun p=>p.2-p.1) (0,1) (zac ?_) (Or.inl rfl) ?_
 ·simp -implicitDefEqProofs only[go_sem]
 ·rintro p (rfl|⟨rfl,hl⟩|⟨rfl,hl⟩)
  ·have hz:(IntKind.u64.wrap (IntKind.i64.wrap 1)).fdiv (2^min 1 64)=0:=by decide
   have hz2:IntKind.i64.wrap 0=0:=by decide
   simp -implicitDefEqProofs only[go_sem,hz,hz2];refine callF (H) Ym ?_;simp -implicitDefEqProofs only[go_sem];cases hl:Op.bytesLess n x
   ·have hi:decide (cmpI n x<0)=false:=by rw[hc,hl];cases n==x<;>rfl
    simp -implicitDefEqProofs only[go_sem,hi];refine⟨(0,0),Or.inr (Or.inr rfl),by decide,zac ?_⟩;simp -implicitDefEqProofs only[go_sem]
   ·have hi:decide (cmpI n x<0)=true:=by rw[hc,hl];rfl
    have hz3:IntKind.i64.wrap 1=1:=by decide
    simp -implicitDefEqProofs only[go_sem,hi];refine⟨(1,1),Or.inr (Or.inl rfl),by decide,zac ?_⟩;simp -implicitDefEqProofs only[go_sem,hz3]
  ·rw[if_pos hl];simp -implicitDefEqProofs only[go_sem];have:(n==x)=false:=by
    rw[Ql];rintro rfl;rw[zmg,Qm]at hl;exact zn1 n hl
   rw[this]
  ·rw[hl,if_neg (by simp)];simp -implicitDefEqProofs only[go_sem];refine callF (H) Ym ?_;simp -implicitDefEqProofs only[go_sem];rw[hc,hl];cases n==x<;>rfl
theorem zvp (n:Str)(t:Tm):XC Tryz.prog 295 [(false,.agg [sbS [(n,t)]]),(false,sD n)] [(false,tmD t),(true,bD true)]:=by
 have H:=zs9 n t n
 rw[show Op.bytesLess n n=false by rw[zmg,Jf];exact zn1 n,beq_self_eq_true]at H
 have hS:sbS [(n,t)]=.sl 3 [bnC (n,t)]:=rfl
 rw[hS,zg6]at H⊢
 simp only[tmD,zab]
 refine XC_of Tryz.call295 Tryz.func295 rfl Yn (by simp only[Qc,Qd,Tryz.ntmps295];omega) (by simp[zay,T.isPin]) ?_
 simp -implicitDefEqProofs only[go_sem,Tryz.results295]
 refine callF (H) Ym ?_
 simp -implicitDefEqProofs only[go_sem]
theorem qaw (n:Str)(t:Tm)(x:Str)(h:(n==x)=false):XC Tryz.prog 295 [(false,.agg [sbS [(n,t)]]),(false,sD x)] [(false,tmD (.mk [] [])),(true,bD false)]:=by
 have H:=zs9 n t x
 rw[h]at H
 have hS:sbS [(n,t)]=.sl 3 [bnC (n,t)]:=rfl
 rw[hS,zg6]at H⊢
 simp only[tmD,zab]
 refine XC_of Tryz.call295 Tryz.func295 rfl Yn (by simp only[Qc,Qd,Tryz.ntmps295];omega) (by simp[zay,T.isPin]) ?_
 simp -implicitDefEqProofs only[go_sem,Tryz.results295]
 refine callF (H) Ym ?_
 simp -implicitDefEqProofs only[go_sem]
 exact Or.inl ⟨rfl,rfl⟩
def zds (n:Str)(t:Tm):Tm->Tm:=Tm.fold fun m _ rs=>if rs.length=0 then (if(n==m)=true then t else .mk m [])else .mk m rs
theorem zfx (n:Str)(t a:Tm):zds n t a=if a.args.length=0 then (if(n==a.name)=true then t else .mk a.name [])else .mk a.name (a.args.map (zds n t)):=by
 unfold zds
 rw[Tm.fold_eq]
 simp only[Qa]
theorem qe8 (n:Str)(t:Tm)(ht:t.wt<=1048576)(a:Tm)(ha:a.args.length<=1048576)(H:∀x∈a.args,FC Tryz.prog 283 [.agg [sbS [(n,t)]],tmD x] [tmD (zds n t x)]):FC Tryz.prog 283 [.agg [sbS [(n,t)]],tmD a] [tmD (zds n t a)]:=by
 have hv:=zfx n t a
 have HY:=zvp n t
 have HN:=qaw n t
 have HK:=zid t ht
 have hS:sbS [(n,t)]=.sl 3 [bnC (n,t)]:=rfl
 rw[hS,zg6]at HY HN H⊢
 by_cases h0:a.args.length=0
 ·rw[if_pos h0]at hv;cases hn:n==a.name
  ·have HN:=HN a.name hn;rw[hn,if_neg (by simp)]at hv;rw[hv];have HN:XC Tryz.prog 295 [(false,.agg [.sl 3 [[.str n,.str t.name,.sl 2 (t.args.map tmC)]]]),(false,sD a.name)] [(false,.agg [.str [],.sl 2 []]),(true,bD false)]:=HN;have e1:tmD (.mk a.name [])=.agg [.str a.name,.sl 2 []]:=rfl;rw[e1];simp only[tmD,zab a];refine zh2 Tryz.call283 Tryz.func283 rfl Yn (zau Yn) ?_;simp -implicitDefEqProofs only[go_sem,Tryz.results283,h0];refine qht [3,4] [15,17] [] (HN) Ym Ym Ym Ym ?_;simp -implicitDefEqProofs only[go_sem]
  ·have hn':n=a.name:=by simpa using hn
   rw[hn,if_pos rfl]at hv;rw[hv];rw[hn']at HY⊢;simp only[tmD,zab]at HY HK⊢;refine zh2 Tryz.call283 Tryz.func283 rfl Yn (zau Yn) ?_;simp -implicitDefEqProofs only[go_sem,Tryz.results283,h0];refine qht [3,4] [15,17] [] (HY) Ym Ym Ym Ym ?_;simp -implicitDefEqProofs only[go_sem];refine callF (HK) Ym ?_;simp -implicitDefEqProofs only[go_sem]
 ·have hb:((a.args.length:Int)==0)=false:=by
   rw[Ql];omega
  rw[if_neg h0]at hv;rw[hv];have e1:tmD (.mk a.name (a.args.map (zds n t)))=.agg [.str a.name,.sl 2 (a.args.map fun x=>tmC (zds n t x))]:=by unfold tmD;rw[zab];simp only[Tm.name,Tm.args,Kt,Jk]
  rw[e1];simp only[tmD,zab a]at H⊢;refine zai Tryz.call283 Tryz.func283 rfl Yn (zau Yn) ?_;simp -implicitDefEqProofs only[go_sem,Tryz.results283,hb];refine drawn Yn ?_;simp -implicitDefEqProofs only[go_sem];refine dMakeD (by simp -implicitDefEqProofs only[go_sem];omega) ?_;simp -implicitDefEqProofs only[go_sem];refine⟨Yn,?_⟩;refine zaf (fun k:Nat=>hd [(2,.one (.bx 2 0)),(4,.one (.bx 4 0)),(7,.one (.bx 7 0)),(35,vT (tmS a.args)),(36,vI a.args.length),(37,vI k)] [(2,[.t (.sl 3 [[.str n,.str t.name,.sl 2 (t.args.map tmC)]])]),(4,[.t (.str []),.nl 2]),(7,[.t (.str a.name),.ow 1024 0])] [(1024,⟨true,2,((a.args.take k).map fun x=>tmC (zds n t x))++List.replicate (a.args.length-k) [.str [],.sl 2 []],0,true⟩)]) (fun k=>k<=a.args.length) (fun k=>a.args.length-k) 0 (zac ?_) (Q3 _) ?_
  ·simp -implicitDefEqProofs only[go_sem];simp
  ·intro k hk;by_cases hlt:k<a.args.length
   ·have hlen:((a.args.take k).map (fun x=>tmC (zds n t x))++List.replicate (a.args.length-k) [T.str [],T.sl 2 []]).length=a.args.length:=by simp;omega
    have HC:=H a.args[k] (Qj hlt);have hlt2:k<k+(a.args.length-k):=by omega
    simp only[zab a.args[k],zab (zds n t a.args[k])]at HC;simp -implicitDefEqProofs only[go_sem,Qa,zae,hlt,zab a.args[k]];refine drawn Yn ?_;simp -implicitDefEqProofs only[go_sem];refine zal (HC) (by simp -implicitDefEqProofs only[go_sem,hlen,hlt,Qi,Qa,Qs,K5,Jy hk,hlt2]) ?_;simp -implicitDefEqProofs only[go_sem,hlen,hlt,Qi,Qa,Qs,K5,Jy hk,hlt2];refine qav (by simp -implicitDefEqProofs only[go_sem];simp) ?_;simp -implicitDefEqProofs only[go_sem];refine⟨Yn,k+1,hlt,Yo,zac ?_⟩;simp -implicitDefEqProofs only[go_sem];have hf:=zox ((a.args.take k).map fun x=>tmC (zds n t x)) a.args.length k [T.str [],T.sl 2 []] (tmC (zds n t a.args[k])) (by simp;omega) hlt (by simp[zab]);rw[zaw Yo,<-zab (zds n t a.args[k]),hf,Qk hlt,Qy,Kj];exact⟨rfl,rfl⟩
   ·have ht:a.args.take k=a.args:=Qu Yo;simp -implicitDefEqProofs only[go_sem,hlt,ht];simp[show a.args.length-k=0 by omega]
theorem qkd (n:Str)(t:Tm)(ht:t.wt<=1048576):∀a:Tm,a.wt<=1048576->FC Tryz.prog 283 [.agg [sbS [(n,t)]],tmD a] [tmD (zds n t a)] :=
 zby fun m xs ih hs=>by
  obtain⟨h1,h2⟩:=Tm.wt_args hs;exact qe8 n t ht (.mk m xs) h1 fun x hx=>ih x hx (h2 x hx)
def zgs (n:Str):Tm->Nat:=Tm.fold fun m _ rs=>(if(m==n)=true then 1 else 0)+rs.sum
theorem zr9 (n:Str)(a:Tm):zgs n a=(if(a.name==n)=true then 1 else 0)+(a.args.map (zgs n)).sum:=by unfold zgs;rw[Tm.fold_eq]
theorem zwk (n:Str):∀a:Tm,zgs n a<=a.nodes:=zby fun m xs ih=>by
 rw[zr9,Tm.nodes_eq]
 have:(xs.map (zgs n)).sum<=(xs.map Tm.nodes).sum:=by
  revert ih;induction xs with
  | nil=>simp
  | cons x xs ih2 =>
   intro ih;have h1:=ih x (by simp);have h2:=ih2 fun y hy=>ih y (by simp[hy]);simp only[Qg,Q2];omega
 show(if(m==n)=true then 1 else 0)+(xs.map (zgs n)).sum<=1+(xs.map Tm.nodes).sum
 split<;>omega
theorem zpo (n:Str)(a:Tm)(ha:a.wt<=1099511627776)(H:∀x∈a.args,FC Tryz.prog 294 [tmD x,sD n] [iD (zgs n x)]):FC Tryz.prog 294 [tmD a,sD n] [iD (zgs n a)]:=by
 have hv:=zr9 n a
 have hN:=ze8 a
 have hNe:=a.nodes_eq
 have hle:=zwk n a
 simp only[tmD,zab a]
 refine zai Tryz.call294 Tryz.func294 rfl Yn (zau Yn) ?_
 simp -implicitDefEqProofs only[go_sem,Tryz.results294]
 obtain⟨z,hz⟩:∃z:Nat,(if(a.name==n)=true then 1 else 0)=z:=⟨_,rfl⟩
 rw[hz]at hv
 cases hn:a.name==n
 all_goals
  rw[hn]at hz;simp only[Qp,if_true,if_false]at hz;simp -implicitDefEqProofs only[go_sem,hn];refine zaf (fun k:Nat=>hd [(1,vT (.str n)),(5,vI (z+((a.args.take k).map (zgs n)).sum:Nat)),(13,vT (tmS a.args)),(14,vI a.args.length),(15,vI k)] [] []) (fun k=>k<=a.args.length) (fun k=>a.args.length-k) 0 (zac ?_) (Q3 _) ?_
  ·simp -implicitDefEqProofs only[go_sem];subst hz;rfl
  ·intro k hk;by_cases hlt:k<a.args.length
   ·have HC:=H a.args[k] (Qj hlt);simp only[tmD,zab a.args[k]]at HC;have hsm:((a.args.take (k+1)).map (zgs n)).sum=((a.args.take k).map (zgs n)).sum+zgs n a.args[k]:=by rw[Qk hlt,Qy,J8,Kj,List.sum_singleton]
    have hle2:((a.args.take (k+1)).map (zgs n)).sum<=(a.args.map (zgs n)).sum:=by
     have:=congrArg (fun l=>(l.map (zgs n)).sum) (K9 (k+1) a.args);simp only[Qy,J8]at this;omega
    have hlen:a.args.length<=a.wt:=by have:=a.wt_eq;omega
    simp -implicitDefEqProofs only[go_sem,zae,hlt,zab a.args[k]];refine callF (HC) Ym ?_;simp -implicitDefEqProofs only[go_sem];refine⟨k+1,hlt,Yo,zac ?_⟩;simp -implicitDefEqProofs only[go_sem];rw[zaw Yo,za1 Yo Yo,hsm];exact⟨by congr 1;omega,rfl⟩
   ·simp -implicitDefEqProofs only[go_sem,hlt];rw[hv,Qu Yo]
theorem zso (n:Str):∀a:Tm,a.wt<=1099511627776->FC Tryz.prog 294 [tmD a,sD n] [iD (zgs n a)] :=
 zby fun m xs ih hs=>zpo n (.mk m xs) hs fun x hx=>ih x hx (Kk (znr (a:=.mk m xs) hx) hs)
theorem qg7 (n:Str)(a:Tm)(hs:a.wt<=1099511627776):FC Tryz.prog 281 [sD n,tmD a] [bD (decide (0<zgs n a))]:=by
 have H:=zso n a hs
 simp only[tmD,zab]at H⊢
 have e:decide ((0:Int)<(zgs n a:Int))=decide (0<zgs n a):=by rw[Kq,Qm,Qm];omega
 refine zai Tryz.call281 Tryz.func281 rfl Yn (zau Yn) ?_
 simp -implicitDefEqProofs only[go_sem,Tryz.results281]
 refine callF (H) Ym ?_
 simp -implicitDefEqProofs only[go_sem]
 rw[e]
end
section
open Go.RowKit
def eqL {α:Type}(p:α->α->Bool):List α->List α->Bool
 | [],[]=>true
 | a::xs,b::ys=>p a b&&eqL p xs ys
 | _,_=>false
theorem zrs {α:Type}{p:α->α->Bool}:∀{xs ys:List α},xs.length≠ys.length->eqL p xs ys=false
 | [],[],h=>absurd rfl h
 | [],_::_,_=>rfl
 | _::_,[],_=>rfl
 | a::xs,b::ys,h=>by simp only[eqL];rw[zrs (by simpa using h),Ka]
theorem znu {α:Type}{p:α->α->Bool}:∀{xs ys:List α},(∀x∈xs,∀y,p x y=same x y)->eqL p xs ys=same xs ys
 | [],[],_=>zna.symm
 | [],_::_,_=>(znc.2 (by simp)).symm
 | _::_,[],_=>(znc.2 (by simp)).symm
 | a::xs,b::ys,h=>by simp only[eqL];rw[zjz,h a (by simp) b,znu fun x hx y=>h x (by simp[hx]) y]
set_option maxRecDepth 10000 in
theorem zj7 (xs ys:List Tm)(p:Tm->Tm->Bool)(g:FuncId)(caps:List T)(H:∀x∈xs,∀y∈ys,FC Tryz.prog g (tmD x::tmD y::caps.map .one) [bD (p x y)]):FC Tryz.prog 252 [.one (tmS xs),.one (tmS ys),.one (.fn g caps)] [bD (eqL p xs ys)]:=by
 refine zfa (fun hw=>?_) Tryz.call252
 have hl:xs.length<=9223372036854775807:=by simpa[ziy,wfT]using hw.1.1
 have hl2:ys.length<=9223372036854775807:=by simpa[ziy,wfT]using hw.2.1.1
 refine zai Tryz.call252 Tryz.func252 rfl Yn (zau Yn) ?_
 simp -implicitDefEqProofs only[go_sem,Tryz.results252]
 refine⟨fun h=>?_,fun h=>?_⟩
 ·rw[zrs (by rintro e;simp[e]at h)]
 ·have hlen:xs.length=ys.length:=by simp at h;omega
  refine zaf (fun k:Nat=>hd [(1,vT (tmS ys)),(2,.one (.t (.fn g caps))),(15,vT (tmS xs)),(16,vI xs.length),(17,vI k)] [] []) (fun k=>k<=xs.length/\eqL p xs ys=eqL p (xs.drop k) (ys.drop k)) (fun k=>xs.length-k) 0 (zac ?_) ?_ ?_
  ·simp -implicitDefEqProofs only[go_sem]
  ·simp
  ·intro k ⟨hk,hr⟩;by_cases hlt:k<xs.length
   ·have hk2:k<ys.length:=by omega
    simp -implicitDefEqProofs only[go_sem,Qa,zae,hlt,hk2,zab];refine callF (H xs[k] (Qj hlt) ys[k] (Qj hk2)) (by simp -implicitDefEqProofs only[go_sem,zab]) ?_;simp -implicitDefEqProofs only[go_sem,zab];rw[Qx hlt,Qx hk2,eqL]at hr;refine⟨fun h=>?_,fun h=>?_⟩
    ·rw[hr,show p xs[k] ys[k]=false by simpa using h];rfl
    ·rw[show p xs[k] ys[k]=true by simpa using h,Qv]at hr;rw[zaw Yo];exact⟨k+1,⟨Yo,hr⟩,Yo,zac Ym⟩
   ·simp -implicitDefEqProofs only[go_sem,Qa,hlt];rw[hr,Q6 Yo,Q6 Yo];rfl
set_option maxRecDepth 10000 in
theorem zhr (xs ys:List Fm)(p:Fm->Fm->Bool)(g:FuncId)(caps:List T)(H:∀x∈xs,∀y∈ys,FC Tryz.prog g (fmD x::fmD y::caps.map .one) [bD (p x y)]):FC Tryz.prog 206 [.one (fmS xs),.one (fmS ys),.one (.fn g caps)] [bD (eqL p xs ys)]:=by
 refine zfa (fun hw=>?_) Tryz.call206
 have hl:xs.length<=9223372036854775807:=by simpa[ziy,wfT]using hw.1.1
 have hl2:ys.length<=9223372036854775807:=by simpa[ziy,wfT]using hw.2.1.1
 refine zai Tryz.call206 Tryz.func206 rfl Yn (zau Yn) ?_
 simp -implicitDefEqProofs only[go_sem,Tryz.results206]
 refine⟨fun h=>?_,fun h=>?_⟩
 ·rw[zrs (by rintro e;simp[e]at h)]
 ·have hlen:xs.length=ys.length:=by simp at h;omega
  refine zaf (fun k:Nat=>hd [(1,vT (fmS ys)),(2,.one (.t (.fn g caps))),(15,vT (fmS xs)),(16,vI xs.length),(17,vI k)] [] []) (fun k=>k<=xs.length/\eqL p xs ys=eqL p (xs.drop k) (ys.drop k)) (fun k=>xs.length-k) 0 (zac ?_) ?_ ?_
  ·simp -implicitDefEqProofs only[go_sem]
  ·simp
  ·intro k ⟨hk,hr⟩;by_cases hlt:k<xs.length
   ·have hk2:k<ys.length:=by omega
    simp -implicitDefEqProofs only[go_sem,Qa,zae,hlt,hk2,zaa,zab];refine callF (H xs[k] (Qj hlt) ys[k] (Qj hk2)) (by simp -implicitDefEqProofs only[go_sem,zaa,zab]) ?_;simp -implicitDefEqProofs only[go_sem,zaa,zab];rw[Qx hlt,Qx hk2,eqL]at hr;refine⟨fun h=>?_,fun h=>?_⟩
    ·rw[hr,show p xs[k] ys[k]=false by simpa using h];rfl
    ·rw[show p xs[k] ys[k]=true by simpa using h,Qv]at hr;rw[zaw Yo];exact⟨k+1,⟨Yo,hr⟩,Yo,zac Ym⟩
   ·simp -implicitDefEqProofs only[go_sem,Qa,hlt];rw[hr,Q6 Yo,Q6 Yo];rfl
end
section
open Go.RowKit
theorem zkk (a b:Tm):same a b=(same a.name b.name&&same a.args b.args):=by
 cases a;cases b
 rw[Kq]
 simp only[Qb,zdk,Tm.name,Tm.args,Tm.mk.injEq]
theorem zfu (a b:Fm):same a b=(same a.op b.op&&same a.atom b.atom&&same a.var b.var&&same a.parts b.parts):=by
 cases a;cases b
 rw[Kq]
 simp only[Qb,zdk,Fm.op,Fm.atom,Fm.var,Fm.parts,Fm.mk.injEq,and_assoc]
theorem zcp {α:Type} [BEq α] [LawfulBEq α](a b:α):(a==b)=same a b:=by
 rw[Kq,Kr,zdk]
theorem zww (a b:Tm)(H:FC Tryz.prog 252 [.one (tmS a.args),.one (tmS b.args),.one (.fn 205 [])] [bD (same a.args b.args)]) :
  FC Tryz.prog 205 [tmD a,tmD b] [bD (same a b)]:=by
 simp only[tmD,zab]
 refine zai Tryz.call205 Tryz.func205 rfl Yn (zau Yn) ?_
 simp -implicitDefEqProofs only[go_sem,Tryz.results205]
 refine⟨fun h=>?_,fun h=>?_⟩
 ·refine callF (H) Ym ?_;simp -implicitDefEqProofs only[go_sem];rw[zkk,<-zcp a.name,h,Qv]
 ·rw[zkk,<-zcp a.name,h];rfl
theorem zok:∀a b:Tm,FC Tryz.prog 205 [tmD a,tmD b] [bD (same a b)] :=
 zby fun n xs ih b=>zww (.mk n xs) b (by
  rw[show same (Tm.mk n xs).args b.args=eqL same (Tm.mk n xs).args b.args from(znu fun _ _ _=>rfl).symm]
  exact zj7 xs b.args same _ [] fun x hx y _=>ih x hx y)
theorem zk3 (a b:Fm)(H:FC Tryz.prog 206 [.one (fmS a.parts),.one (fmS b.parts),.one (.fn 148 [])] [bD (same a.parts b.parts)]) :
  FC Tryz.prog 148 [fmD a,fmD b] [bD (same a b)]:=by
 simp only[fmD,zaa]
 refine zai Tryz.call148 Tryz.func148 rfl Yn (zau Yn) ?_
 simp -implicitDefEqProofs only[go_sem,Tryz.results148]
 refine⟨fun h1=>?_,fun h1=>by rw[zfu,<-zcp a.op,h1];rfl⟩
 refine callF (zok a.atom b.atom) (by simp -implicitDefEqProofs only[go_sem,zab]) ?_
 simp -implicitDefEqProofs only[go_sem,zab]
 refine⟨fun h2=>?_,fun h2=>by rw[zfu,<-zcp a.op,h1,h2];rfl⟩
 refine⟨fun h3=>?_,fun h3=>by rw[zfu,<-zcp a.op,h1,h2,<-zcp a.var,h3];rfl⟩
 refine callF (H) Ym ?_
 simp -implicitDefEqProofs only[go_sem]
 rw[zfu,<-zcp a.op,h1,h2,<-zcp a.var,h3];rfl
theorem zbe:∀a b:Fm,FC Tryz.prog 148 [fmD a,fmD b] [bD (same a b)] :=
 zcc fun o t v ps ih b=>zk3 (.mk o t v ps) b (by
  rw[show same (Fm.mk o t v ps).parts b.parts=eqL same (Fm.mk o t v ps).parts b.parts from(znu fun _ _ _=>rfl).symm]
  exact zhr ps b.parts same _ [] fun x hx y _=>ih x hx y)
theorem zzx (a b:Tm)(H:∀x∈a.args,∀y,FC Tryz.prog 137 [tmD x,tmD y] [bD (same x y)]):FC Tryz.prog 137 [tmD a,tmD b] [bD (same a b)]:=by
 refine zfa (fun hw=>?_) Tryz.call137
 simp only[tmD,zab]at hw⊢
 have hl:a.args.length<=9223372036854775807:=by simp[ziy,wfT,zoe]at hw;exact hw.1.2.1
 refine zai Tryz.call137 Tryz.func137 rfl Yn (zau Yn) ?_
 simp -implicitDefEqProofs only[go_sem,Tryz.results137]
 refine⟨fun h1=>?_,fun h1=>by rw[zkk,<-zcp a.name,show(a.name==b.name)=false by simpa using h1];rfl⟩
 have h1':same a.name b.name=true:=by rw[<-zcp];simpa using h1
 refine⟨fun h2=>?_,fun h2=>?_⟩
 ·rw[zkk,h1',Qv,znc.2 (by rintro e;simp[e]at h2)]
 have hlen:a.args.length=b.args.length:=by simp at h2;omega
 have hs:same a b=same a.args b.args:=by rw[zkk,h1',Qv]
 refine zaf (fun k:Nat=>hd [(2,.one (.bx 2 0)),(3,.one (.bx 3 0)),(4,vB false),(5,vI k)] [(2,[.t (.str a.name),.t (tmS a.args)]),(3,[.t (.str b.name),.t (tmS b.args)])] []) (fun k=>k<=a.args.length/\same a.args b.args=same (a.args.drop k) (b.args.drop k)) (fun k=>a.args.length-k) 0 (zac ?_) ?_ ?_
 ·simp -implicitDefEqProofs only[go_sem]
 ·simp
 ·intro k ⟨hk,hr⟩;by_cases hlt:k<a.args.length
  ·have hk2:k<b.args.length:=by omega
   simp -implicitDefEqProofs only[go_sem,hlt];refine drawn Yn ?_;simp -implicitDefEqProofs only[go_sem,zae,hlt,hk2,zab];refine zal (H a.args[k] (Qj hlt) b.args[k]) (by simp -implicitDefEqProofs only[go_sem,zab]) ?_;simp -implicitDefEqProofs only[go_sem,zab];rw[Qx hlt,Qx hk2,zjz]at hr;refine⟨Yn,fun h=>?_,fun h=>?_⟩
   ·rw[hs,hr,show same a.args[k] b.args[k]=false by simpa using h];rfl
   ·rw[show same a.args[k] b.args[k]=true by simpa using h,Qv]at hr;rw[zaw Yo];exact⟨k+1,⟨Yo,hr⟩,Yo,zac Ym⟩
  ·simp -implicitDefEqProofs only[go_sem,hlt];rw[hs,hr,Q6 Yo,Q6 Yo,zna]
theorem zg9:∀a b:Tm,FC Tryz.prog 137 [tmD a,tmD b] [bD (same a b)]:=zby fun n xs ih b=>zzx (.mk n xs) b ih
theorem qa9 (a b:Fm)(H:∀x∈a.parts,∀y,FC Tryz.prog 158 [fmD x,fmD y] [bD (same x y)]):FC Tryz.prog 158 [fmD a,fmD b] [bD (same a b)]:=by
 refine zfa (fun hw=>?_) Tryz.call158
 simp only[fmD,zaa]at hw⊢
 have hl:a.parts.length<=9223372036854775807:=by simp[ziy,wfT,zoe]at hw;exact hw.1.2.2.2.2.1
 refine zai Tryz.call158 Tryz.func158 rfl Yn (zau Yn) ?_
 simp -implicitDefEqProofs only[go_sem,Tryz.results158]
 refine⟨fun h1=>?_,fun h1=>by rw[zfu,<-zcp a.op,show(a.op==b.op)=false by simpa using h1];rfl⟩
 have h1':same a.op b.op=true:=by rw[<-zcp];simpa using h1
 refine⟨fun h2=>?_,fun h2=>by rw[zfu,h1',<-zcp a.var,show(a.var==b.var)=false by simpa using h2];simp⟩
 have h2':same a.var b.var=true:=by rw[<-zcp];simpa using h2
 refine callF (zg9 a.atom b.atom) (by simp -implicitDefEqProofs only[go_sem,zab]) ?_
 simp -implicitDefEqProofs only[go_sem,zab]
 refine⟨fun h3=>?_,fun h3=>by rw[zfu,h1',show same a.atom b.atom=false by simpa using h3];rfl⟩
 have h3':same a.atom b.atom=true:=by simpa using h3
 have hs:same a b=same a.parts b.parts:=by rw[zfu,h1',h2',h3'];rfl
 refine⟨fun h4=>?_,fun h4=>?_⟩
 ·rw[hs,znc.2 (by rintro e;simp[e]at h4)]
 have hlen:a.parts.length=b.parts.length:=by simp at h4;omega
 refine zaf (fun k:Nat=>hd [(2,.one (.bx 2 0)),(3,.one (.bx 3 0)),(4,vB false),(5,vI k)] [(2,[.t (.int .i64 a.op),.t (.str a.atom.name),.t (tmS a.atom.args),.t (.str a.var),.t (fmS a.parts)]),(3,[.t (.int .i64 b.op),.t (.str b.atom.name),.t (tmS b.atom.args),.t (.str b.var),.t (fmS b.parts)])] []) (fun k=>k<=a.parts.length/\same a.parts b.parts=same (a.parts.drop k) (b.parts.drop k)) (fun k=>a.parts.length-k) 0 (zac ?_) ?_ ?_
 ·simp -implicitDefEqProofs only[go_sem]
 ·simp
 ·intro k ⟨hk,hr⟩;by_cases hlt:k<a.parts.length
  ·have hk2:k<b.parts.length:=by omega
   simp -implicitDefEqProofs only[go_sem,hlt];refine drawn Yn ?_;simp -implicitDefEqProofs only[go_sem,zae,hlt,hk2,zaa];refine zal (H a.parts[k] (Qj hlt) b.parts[k]) (by simp -implicitDefEqProofs only[go_sem,zaa]) ?_;simp -implicitDefEqProofs only[go_sem,zaa];rw[Qx hlt,Qx hk2,zjz]at hr;refine⟨Yn,fun h=>?_,fun h=>?_⟩
   ·rw[hs,hr,show same a.parts[k] b.parts[k]=false by simpa using h];rfl
   ·rw[show same a.parts[k] b.parts[k]=true by simpa using h,Qv]at hr;rw[zaw Yo];exact⟨k+1,⟨Yo,hr⟩,Yo,zac Ym⟩
  ·simp -implicitDefEqProofs only[go_sem,hlt];rw[hs,hr,Q6 Yo,Q6 Yo,zna]
theorem zi9:∀a b:Fm,FC Tryz.prog 158 [fmD a,fmD b] [bD (same a b)]:=zcc fun o t v ps ih b=>qa9 (.mk o t v ps) b ih
end
section
open Go.RowKit
def mkF (op:Int)(ps:List Fm):Fm:=.mk op (.mk [] []) [] ps
theorem zih (op:Int)(ps:List Fm):fmC (mkF op ps)=[.int .i64 op,.str [],.sl 2 [],.str [],.sl 5 (ps.map fmC)]:=zaa _
end
section
open Go.RowKit
theorem zq7 {a:Tm}(h:a.none=true):a=.mk [] []:=by
 obtain⟨n,xs⟩:=a
 simp only[Tm.none,Tm.name,Tm.args,Qb,Kr,Qm,Q7]at h
 rw[h.1,h.2]
theorem len1 {α:Type}{xs:List α}(h:xs.length=1):∃x,xs=[x]:=by
 match xs,h with
 | [x],_=>exact⟨x,rfl⟩
theorem len2 {α:Type}{xs:List α}(h:xs.length=2):∃x y,xs=[x,y]:=by
 match xs,h with
 | [x,y],_=>exact⟨x,y,rfl⟩
theorem zxn (o:Int)(a:Tm)(v:Str)(ps:List Fm):Fm.here (.mk o a v ps) =
  if(o==1||o==2)=true then decide (ps.length=0)&&a.none&&(v==[])
  else if(o==3)=true then decide (ps.length=0)&&a.atomOk&&(v==[])
  else if(o==4)=true then decide (ps.length=1)&&a.none&&(v==[])
  else if(o==5||o==6||o==7)=true then decide (ps.length=2)&&a.none&&(v==[])
  else if(o==8||o==9)=true then decide (ps.length=1)&&a.none&&za9 v
  else false:=rfl
theorem zcu {f:Fm}(h:f.forms=true) :
  (f.parts=[]/\(f.op=1\/f.op=2\/f.op=3))\/(∃p:Fm,f=mkF 4 [p]/\p.forms=true)\/(∃(o:Int) (p q:Fm),(o=5\/o=6\/o=7)/\f=mkF o [p,q]/\p.forms=true/\q.forms=true) ∨
   ∃(o:Int) (v:Str) (p:Fm),(o=8\/o=9)/\f=.mk o (.mk [] []) v [p]/\p.forms=true:=by
 rw[Fm.forms_eq,Qb]at h
 obtain⟨h1,h2⟩:=h
 obtain⟨o,a,v,ps⟩:=f
 rw[zxn]at h1
 simp only[Fm.op,Fm.parts]at h2⊢
 by_cases h12:(o==1||o==2)=true
 ·rw[if_pos h12]at h1;simp only[K7,Kr,Qb,Qm,Q7]at h12 h1;exact Or.inl ⟨h1.1.1,Yo⟩
 rw[if_neg h12]at h1
 by_cases h3:(o==3)=true
 ·rw[if_pos h3]at h1;simp only[Kr,Qb,Qm,Q7]at h3 h1;exact Or.inl ⟨h1.1.1,Yo⟩
 rw[if_neg h3]at h1
 by_cases h4:(o==4)=true
 ·rw[if_pos h4]at h1;simp only[Kr,Qb,Qm]at h4 h1;obtain⟨⟨h5,h6⟩,h7⟩:=h1;obtain⟨x,rfl⟩:=len1 h5;rw[h4,zq7 h6,h7];exact Or.inr (Or.inl ⟨x,rfl,by simpa using h2⟩)
 rw[if_neg h4]at h1
 by_cases h5:(o==5||o==6||o==7)=true
 ·rw[if_pos h5]at h1;simp only[K7,Kr,Qb,Qm]at h5 h1;obtain⟨⟨h6,h7⟩,h8⟩:=h1;obtain⟨x,y,rfl⟩:=len2 h6;rw[zq7 h7,h8];simp only[Ke,Jd,K4,Qb]at h2;exact Or.inr (Or.inr (Or.inl ⟨o,x,y,Yo,rfl,h2.1,h2.2⟩))
 rw[if_neg h5]at h1
 by_cases h6:(o==8||o==9)=true
 ·rw[if_pos h6]at h1;simp only[K7,Kr,Qb,Qm]at h6 h1;obtain⟨⟨h7,h8⟩,h9⟩:=h1;obtain⟨x,rfl⟩:=len1 h7;rw[zq7 h8];exact Or.inr (Or.inr (Or.inr ⟨o,v,x,Yo,rfl,by simpa using h2⟩))
 ·rw[if_neg h6]at h1;cases h1
end
section
open Go.RowKit
theorem zwu {f:Fm}{x:Fm}(h:x∈f.parts):x.nodes<f.nodes:=by
 have:=f.nodes_eq
 obtain⟨i,hi,rfl⟩:=Jm h
 have:=zb8 Fm.nodes f.parts _ (Qj hi)
 omega
end
section
open Go.RowKit
def zci (n:Str)(t:Tm):Fm->Fm×Bool:=Fm.fold fun o a v ps rs =>
 if(isQ o&&(v==n||!((zbb [] (vf (.mk o a v ps) [])).contains n)))=true then (.mk o a v ps,true)
 else if(isQ o&&decide (0<zgs v t))=true then (mkF 0 [],false)
 else (.mk o (if(o==3)=true then zds n t a else a) v (rs.map Prod.fst),rs.all Prod.snd)
theorem zfb (n:Str)(t:Tm)(f:Fm):zci n t f=if(isQ f.op&&(f.var==n||!((zbb [] (vf f [])).contains n)))=true then (f,true)
  else if(isQ f.op&&decide (0<zgs f.var t))=true then (mkF 0 [],false)
  else (.mk f.op (if(f.op==3)=true then zds n t f.atom else f.atom) f.var (f.parts.map fun x=>(zci n t x).1),f.parts.all fun x=>(zci n t x).2):=by
 cases f with
 | mk o a v ps =>
  conv=>lhs;unfold zci;rw[Fm.fold_eq]
  simp only[Kt,List.all_map];rfl
abbrev subX (n:Str)(t:Tm)(b:Bool):Bxs:=[[(false,.str n)],[(false,.str t.name),(false,.sl 2 (t.args.map tmC))],[(true,.bool b)]]
theorem ql4 (n:Str)(t:Tm)(f:Fm)(r:Fm)(ok b:Bool)(H:FC Tryz.prog 255 [fmD f,sD n,tmD t] [fmD r,bD ok]) :
  PC Tryz.prog 282 (subX n t b) [.d false (fmD f),.p 0,.p 1,.p 2] (subX n t (b&&ok)) [(true,fmD r)]:=by
 simp only[fmD,zaa,tmD,zab t]at H⊢
 refine zbp Tryz.call282 Tryz.func282 rfl Yn (by simp only[Qc,Qd,Tryz.ntmps282];omega) (by simp only[Tryz.ntmps282];omega) rfl rfl (by simp[zay,T.isPin,AF.ds,bxA]) (by simp[gFS,T.fs,T.flat,AF.ds,bxA]) rfl ?_
 simp -implicitDefEqProofs only[go_sem,Tryz.results282]
 refine callF (H) Ym ?_
 simp -implicitDefEqProofs only[go_sem]
 exact⟨fun h=>Or.inl (by rw[h];rfl),fun h=>Or.inl (by rw[h];rfl)⟩
theorem zp9 (n:Str)(t:Tm)(a:Fm)(g:FuncId)(φ:Fm->Fm)(ψ:Fm->Bool)(b:Bool)(H:∀x∈a.parts,∀b,PC Tryz.prog g (subX n t b) [.d false (fmD x),.p 0,.p 1,.p 2] (subX n t (b&&ψ x)) [(true,fmD (φ x))])(h0:a.atom.wt<=1048576)(hs:a.parts.length<=1048576) :
  PC Tryz.prog 257 (subX n t b) [.d false (fmD a),.fn g [0,1,2]] (subX n t (b&&a.parts.all ψ)) [(true,fmD (.mk a.op a.atom a.var (a.parts.map φ)))]:=by
 simp only[fmD,zaa a,zdc]
 refine zbp Tryz.call257 Tryz.func257 rfl Yn (by simp only[Qc,Qd,Tryz.ntmps257];omega) (by simp only[Tryz.ntmps257];omega) rfl rfl (by simp[zay,T.isPin,AF.ds,bxA]) (by simp[gFS,T.fs,T.flat,AF.ds,bxA]) rfl ?_
 simp -implicitDefEqProofs only[go_sem,Tryz.results257]
 refine drawn Yn ?_
 simp -implicitDefEqProofs only[go_sem]
 refine zal (zid a.atom h0) (by simp -implicitDefEqProofs only[go_sem,zab]) ?_
 simp -implicitDefEqProofs only[go_sem,zab]
 refine⟨Yn,?_⟩
 refine zaf (fun k:Nat=>hd [(1,.one (.fn g [1000000,1000001,1000002])),(4,.one (.bx 4 0)),(5,.one (.bx 5 0)),(17,.one (.rn (fmS a.parts))),(18,vI a.parts.length),(19,vI k),(1000000,.one (.bx 1000000 0)),(1000001,.one (.bx 1000001 0)),(1000002,.one (.bx 1000002 0))] [(4,[.t (.int .i64 0),.t (.str []),.nl 2,.t (.str []),.nl 5]),(5,[.t (.int .i64 a.op),.t (.str a.atom.name),.ow 385 0,.t (.str a.var),.ow 3000 0]),(1000000,[.t (.str n)]),(1000001,[.t (.str t.name),.rn (.sl 2 (t.args.map tmC))]),(1000002,[.t (.bool (b&&(a.parts.take k).all ψ))])]
  [(385,⟨true,2,a.atom.args.map tmC,0,true⟩),(3000,⟨true,5,(a.parts.take k).map fun x=>fmC (φ x),0,true⟩)]) (fun k=>k<=a.parts.length) (fun k=>a.parts.length-k) 0 (zac ?_) ?_ ?_
 ·simp -implicitDefEqProofs only[go_sem]
 ·simp
 ·intro k hk;by_cases hlt:k<a.parts.length
  ·have hmin:min k a.parts.length<=4294967295:=by omega
   have HC:=H a.parts[k] (Qj hlt) (b&&(a.parts.take k).all ψ);have hsuc:(a.parts.take (k+1)).all ψ=((a.parts.take k).all ψ&&ψ a.parts[k]):=by rw[Qk hlt,Yf];simp
   simp only[fmD,zaa a.parts[k],zaa (φ a.parts[k])]at HC;simp -implicitDefEqProofs only[go_sem,zae,hlt,zaa a.parts[k]];refine drawn Yn ?_;simp -implicitDefEqProofs only[go_sem];refine zdr [1000000,1000001,1000002] (HC) (by decide) Ym Ym ?_;simp -implicitDefEqProofs only[go_sem];refine za2 Ym ?_;simp -implicitDefEqProofs only[go_sem];refine zgr true (by simp -implicitDefEqProofs only[go_sem,ne_eq,Qa,Qs,hmin]) ?_;simp -implicitDefEqProofs only[go_sem,ne_eq,Qa,Qs,hmin];refine⟨Yn,k+1,hlt,Yo,zac ?_⟩;simp -implicitDefEqProofs only[go_sem];rw[zaw Yo,Qk hlt,Qy,Kj];simp only[zaa];rw[<-Qk hlt,hsuc,Yj];exact⟨trivial,rfl,trivial⟩
  ·have ht:a.parts.take k=a.parts:=Qu Yo;simp -implicitDefEqProofs only[go_sem,hlt,ht];exact Or.inl (Or.inl rfl)
theorem zku (n:Str)(t:Tm)(ht:t.wt<=1048576)(f:Fm)(hf:f.forms=true)(hw:f.wt<=1048576)(H:∀x∈f.parts,FC Tryz.prog 255 [fmD x,sD n,tmD t] [fmD (zci n t x).1,bD (zci n t x).2]) :
  FC Tryz.prog 255 [fmD f,sD n,tmD t] [fmD (zci n t f).1,bD (zci n t f).2]:=by
 have hv:=zfb n t f
 have HF:=qhp f hf hw
 have HO:=qg7 f.var t Yo
 have HP:=zp9 n t f 282 (fun x=>(zci n t x).1) (fun x=>(zci n t x).2) true (fun x hx b=>ql4 n t x _ _ b (H x hx)) (by have:=zh8 f;omega) (by have:=f.wt_eq;omega)
 rw[Qv]at HP
 have HC:=zg1 f hw
 generalize zbb [] (vf f [])=V at hv HF
 simp only[fmD,zaa f,tmD,zab t,zdc]at HF HO HC HP⊢
 refine zh2 Tryz.call255 Tryz.func255 rfl Yn (zau Yn) ?_
 simp -implicitDefEqProofs only[go_sem,Tryz.results255]
 cases hq:isQ f.op
 ·rw[hq,Qq,Qq,if_neg (by simp),if_neg (by simp)]at hv;have HI:=zaq f.op;rw[hq]at HI;refine drawn Yn ?_;simp -implicitDefEqProofs only[go_sem];refine zal (HI) Ym ?_;simp -implicitDefEqProofs only[go_sem];refine⟨Yn,?_⟩;refine callF (HI) Ym ?_;simp -implicitDefEqProofs only[go_sem];have HA:=qkd n t ht f.atom (by have:=zh8 f;omega);have hS:sbS [(n,t)]=.sl 3 [[.str n,.str t.name,.sl 2 (t.args.map tmC)]]:=by unfold sbS;rw[Kj,zg6]
  rw[hS]at HA;simp only[tmD,zab f.atom,zab (zds n t f.atom)]at HA;cases h3:f.op==3
  ·rw[h3,if_neg (by simp)]at hv;rw[hv];simp only[fmD,zdc];refine callQ [4,5,8] (HP) (by decide) (by simp -implicitDefEqProofs only[go_sem,h3]) (by simp -implicitDefEqProofs only[go_sem,h3]) ?_;simp -implicitDefEqProofs only[go_sem,h3];refine drawn Yn ?_;simp -implicitDefEqProofs only[go_sem];kernel_rfl
  ·rw[h3,if_pos rfl]at hv;rw[hv];simp only[fmD,zdc];refine callQ [4,5,8] (HP) (by decide) (by simp -implicitDefEqProofs only[go_sem,h3]) (by simp -implicitDefEqProofs only[go_sem,h3]) ?_;simp -implicitDefEqProofs only[go_sem,h3];refine zcw Ym ?_;simp -implicitDefEqProofs only[go_sem];refine callF (HA) Ym ?_;simp -implicitDefEqProofs only[go_sem];refine drawn Yn ?_;simp -implicitDefEqProofs only[go_sem];kernel_rfl
 ·have HI:=zaq f.op;rw[hq]at HI;rw[hq,Qv,Qv]at hv;cases hvn:f.var==n
  ·rw[hvn,Km]at hv;have HCt:=zcz V n;refine drawn Yn ?_;simp -implicitDefEqProofs only[go_sem];refine zal (HI) (by simp -implicitDefEqProofs only[go_sem,hvn]) ?_;simp -implicitDefEqProofs only[go_sem,hvn];cases hcn:V.contains n
   ·rw[hcn,if_pos (by simp)]at hv;rw[hcn]at HCt;rw[hv];simp only[fmD,zaa f];refine za5 (HF) Ym ?_;simp -implicitDefEqProofs only[go_sem];refine za5 (HCt) Ym ?_;simp -implicitDefEqProofs only[go_sem];refine⟨Yn,?_⟩;refine callF (HC) Ym ?_;simp -implicitDefEqProofs only[go_sem]
   ·rw[hcn,if_neg (by simp)]at hv;rw[hcn]at HCt;refine za5 (HF) Ym ?_;simp -implicitDefEqProofs only[go_sem];refine za5 (HCt) Ym ?_;simp -implicitDefEqProofs only[go_sem];refine⟨Yn,?_⟩;refine callF (HI) Ym ?_;simp -implicitDefEqProofs only[go_sem];have h3:(f.op==3)=false:=by
     rw[Ql];intro e;rw[e]at hq;exact absurd hq (by decide)
    cases ho:decide (0<zgs f.var t)
    ·rw[ho,if_neg (by simp),h3,if_neg (by simp)]at hv;rw[ho]at HO;rw[hv];simp only[fmD,zdc];refine callF (HO) Ym ?_;simp -implicitDefEqProofs only[go_sem];refine callQ [4,5,8] (HP) (by decide) (by simp -implicitDefEqProofs only[go_sem,h3]) (by simp -implicitDefEqProofs only[go_sem,h3]) ?_;simp -implicitDefEqProofs only[go_sem,h3];refine drawn Yn ?_;simp -implicitDefEqProofs only[go_sem];kernel_rfl
    ·rw[ho,if_pos rfl]at hv;rw[ho]at HO;rw[hv];simp only[fmD,zih,Qh];refine callF (HO) Ym ?_;simp -implicitDefEqProofs only[go_sem]
  ·rw[hvn,J4,if_pos rfl]at hv;refine drawn Yn ?_;simp -implicitDefEqProofs only[go_sem];rw[hv];simp only[fmD,zaa f];refine zal (HI) (by simp -implicitDefEqProofs only[go_sem,hvn]) ?_;simp -implicitDefEqProofs only[go_sem,hvn];refine⟨Yn,?_⟩;refine callF (HC) Ym ?_;simp -implicitDefEqProofs only[go_sem]
theorem znq (n:Str)(t:Tm)(ht:t.wt<=1048576):∀f:Fm,f.forms=true->f.wt<=1048576->FC Tryz.prog 255 [fmD f,sD n,tmD t] [fmD (zci n t f).1,bD (zci n t f).2] :=
 zcc fun o a v ps ih hf hw=>zku n t ht (.mk o a v ps) hf hw fun x hx=>ih x hx (by rw[Fm.forms_eq,Qb]at hf;exact Qn.1 hf.2 x hx) (Kk (zck (a:=.mk o a v ps) hx) hw)
end
section
open Go.RowKit
theorem zvv (n:Str)(t:Tm)(x:Str):FC Tryz.prog 236 [.agg [sbS [(n,t)]],sD x] [iD (if(n==x)=true then 0 else -1)]:=by
 have hS:sbS [(n,t)]=.sl 3 [[.str n,.str t.name,.sl 2 (t.args.map tmC)]]:=by unfold sbS;rw[Kj,zg6]
 rw[hS]
 refine zai Tryz.call236 Tryz.func236 rfl Yn (zau Yn) ?_
 simp -implicitDefEqProofs only[go_sem,Tryz.results236]
 refine zaf (fun k:Nat=>hd [(1,vT (.str x)),(2,.one (.bx 2 0)),(5,vI k)] [(2,[.t (.sl 3 [[.str n,.str t.name,.sl 2 (t.args.map tmC)]])])] []) (fun k=>k=0\/(k=1/\(n==x)=false)) (fun k=>1-k) 0 (zac ?_) (Or.inl rfl) ?_
 ·simp -implicitDefEqProofs only[go_sem]
 ·rintro k (rfl|⟨rfl,hn⟩)
  ·cases hn:n==x
   ·simp -implicitDefEqProofs only[go_sem,hn];refine⟨1,Or.inr rfl,by decide,zac ?_⟩;have hz:IntKind.i64.wrap 1=1:=by decide
    simp -implicitDefEqProofs only[go_sem,hz]
   ·simp -implicitDefEqProofs only[go_sem,hn]
  ·simp -implicitDefEqProofs only[go_sem,hn]
theorem zyi (n:Str)(t:Tm)(ht:t.wt<=1048576)(hn:(t.name==n)=false):FC Tryz.prog 259 [.agg [sbS []],sD n,tmD t] [.agg [sbS [(n,t)]]]:=by
 have hS:sbS [(n,t)]=.sl 3 [[.str n,.str t.name,.sl 2 (t.args.map tmC)]]:=by unfold sbS;rw[Kj,zg6]
 have hS0:sbS []=.sl 3 []:=rfl
 have HK:=zsu t ht
 rw[hS,hS0]
 simp only[tmD,zab t]at HK⊢
 refine zh2 Tryz.call259 Tryz.func259 rfl Yn (zau Yn) ?_
 simp -implicitDefEqProofs only[go_sem,Tryz.results259,hn]
 refine zaf (fun k:Nat=>hd [(1,vT (.str n)),(3,.one (.bx 3 0)),(5,.one (.bx 5 0)),(6,.one (.bx 6 0)),(7,vI (0:Nat))] [(3,[.rn (.sl 3 [])]),(5,[.t (.str t.name),.rn (.sl 2 (t.args.map tmC))]),(6,[.nl 3])] []) (fun k=>k=0) (fun k=>0) 0 (zac ?_) rfl ?_
 ·simp -implicitDefEqProofs only[go_sem]
 ·rintro k rfl;simp -implicitDefEqProofs only[go_sem];refine zad Ym ?_;simp -implicitDefEqProofs only[go_sem];refine apD true (by simp -implicitDefEqProofs only[go_sem,ne_eq]) ?_;simp -implicitDefEqProofs only[go_sem,ne_eq];refine callF (HK) Ym ?_;simp -implicitDefEqProofs only[go_sem];refine zad Ym ?_;simp -implicitDefEqProofs only[go_sem];refine apD true (by simp -implicitDefEqProofs only[go_sem,ne_eq]) ?_;simp -implicitDefEqProofs only[go_sem,ne_eq];refine apD true (by simp -implicitDefEqProofs only[go_sem,ne_eq]) ?_;simp -implicitDefEqProofs only[go_sem,ne_eq]
theorem zvr (n:Str)(t:Tm)(hn:(t.name==n)=true):RC Tryz.prog 259 [.agg [sbS []],sD n,tmD t] [.agg [sbS []]]:=by
 have hS0:sbS []=.sl 3 []:=rfl
 rw[hS0]
 simp only[tmD,zab t]
 refine RC_of Tryz.call259 Tryz.func259 rfl Yn (zau Yn) ?_
 simp -implicitDefEqProofs only[go_sem,Tryz.results259,hn]
def zfn (l:List (Str×Tm)):Tm->Tm:=Tm.fold fun m _ rs=>if za9 m=true then (match l.find? fun p=>p.1==m with|some p=>p.2|none=>.mk m [])else .mk m rs
theorem zoa (l:List (Str×Tm))(a:Tm):zfn l a=if za9 a.name=true then (match l.find? fun p=>p.1==a.name with|some p=>p.2|none=>.mk a.name [])else .mk a.name (a.args.map (zfn l)):=by unfold zfn;rw[Tm.fold_eq]
theorem zrm (x:Str):FC Tryz.prog 236 [.agg [sbS []],sD x] [iD (-1)]:=by
 have hS:sbS []=.sl 3 []:=rfl
 rw[hS]
 refine zai Tryz.call236 Tryz.func236 rfl Yn (zau Yn) ?_
 simp -implicitDefEqProofs only[go_sem,Tryz.results236]
 refine zaf (fun k:Nat=>hd [(1,vT (.str x)),(2,.one (.bx 2 0)),(5,vI (0:Nat))] [(2,[.t (.sl 3 [])])] []) (fun k=>k=0) (fun k=>0) 0 (zac ?_) rfl ?_
 ·simp -implicitDefEqProofs only[go_sem]
 ·rintro k rfl;simp -implicitDefEqProofs only[go_sem]
theorem zv5 (l:List (Str×Tm))(hl:l.length<=1)(hw:∀p∈l,p.2.wt<=1048576)(a:Tm)(ha:a.args.length<=1048576)(H:∀x∈a.args,FC Tryz.prog 184 [.agg [sbS l],tmD x] [tmD (zfn l x)]):FC Tryz.prog 184 [.agg [sbS l],tmD a] [tmD (zfn l a)]:=by
 have hv:=zoa l a
 have HV:=zib a.name
 cases hva:za9 a.name
 ·rw[hva,if_neg (by simp)]at hv;rw[hva]at HV;rw[hv];have e1:tmD (.mk a.name (a.args.map (zfn l)))=.agg [.str a.name,.sl 2 (a.args.map fun x=>tmC (zfn l x))]:=by unfold tmD;rw[zab];simp only[Tm.name,Tm.args,Kt,Jk]
  rw[e1];simp only[tmD,zab a]at H⊢;unfold sbS at H⊢;generalize l.map bnC=L at H⊢;refine zai Tryz.call184 Tryz.func184 rfl Yn (zau Yn) ?_;simp -implicitDefEqProofs only[go_sem,Tryz.results184];refine callF (HV) Ym ?_;simp -implicitDefEqProofs only[go_sem];refine zaf (fun k:Nat=>hd [(2,.one (.bx 2 0)),(3,.one (.bx 3 0)),(4,.one (.bx 4 0)),(6,.one (.bx 6 0)),(7,vI k)] [(2,[.t (.sl 3 L)]),(3,[.t (.str a.name),.t (tmS a.args)]),(4,[.t (.str []),.nl 2]),(6,[.t (.str a.name),.ow 3000 0])] [(3000,⟨true,2,(a.args.take k).map fun x=>tmC (zfn l x),0,true⟩)]) (fun k=>k<=a.args.length) (fun k=>a.args.length-k) 0 (zac ?_) (Q3 _) ?_
  ·simp -implicitDefEqProofs only[go_sem]
  ·intro k hk;by_cases hlt:k<a.args.length
   ·have HC:=H a.args[k] (Qj hlt);have hmin:min k a.args.length<=4294967295:=by omega
    simp only[zab a.args[k],zab (zfn l a.args[k])]at HC;simp -implicitDefEqProofs only[go_sem,hlt];refine drawn Yn ?_;simp -implicitDefEqProofs only[go_sem,zae,hlt,zab a.args[k]];refine zal (HC) Ym ?_;simp -implicitDefEqProofs only[go_sem];refine za2 Ym ?_;simp -implicitDefEqProofs only[go_sem];refine zgr true (by simp -implicitDefEqProofs only[go_sem,ne_eq,Qa,Qs,hmin]) ?_;simp -implicitDefEqProofs only[go_sem,ne_eq,Qa,Qs,hmin];refine⟨Yn,k+1,hlt,Yo,zac ?_⟩;simp -implicitDefEqProofs only[go_sem];rw[zaw Yo,Qk hlt,Qy,Kj];simp only[zab]
    trivial
   ·have ht:a.args.take k=a.args:=Qu Yo;simp -implicitDefEqProofs only[go_sem,hlt,ht]
 ·rw[hva,if_pos rfl]at hv;rw[hva]at HV;rw[hv]
  match l,hl with
  | [],_ =>
   have HN:=zrm a.name;simp only[List.find?_nil];have e1:tmD (.mk a.name [])=.agg [.str a.name,.sl 2 []]:=rfl;have hS:sbS []=.sl 3 []:=rfl;rw[hS]at HN⊢;rw[e1];simp only[tmD,zab a];refine zai Tryz.call184 Tryz.func184 rfl Yn (zau Yn) ?_;simp -implicitDefEqProofs only[go_sem,Tryz.results184];refine callF (HV) Ym ?_;simp -implicitDefEqProofs only[go_sem];refine callF (HN) Ym ?_;simp -implicitDefEqProofs only[go_sem]
  | [(n,t)],_ =>
   have HO:=zvv n t a.name;have HK:=zsu t (hw (n,t) (by simp));have hS:sbS [(n,t)]=.sl 3 [[.str n,.str t.name,.sl 2 (t.args.map tmC)]]:=by unfold sbS;rw[Kj,zg6]
   rw[hS]at HO⊢;cases hn:n==a.name
   ·rw[hn]at HO;simp only[List.find?_cons,hn,List.find?_nil];have e1:tmD (.mk a.name [])=.agg [.str a.name,.sl 2 []]:=rfl;rw[e1];simp only[tmD,zab a];refine zai Tryz.call184 Tryz.func184 rfl Yn (zau Yn) ?_;simp -implicitDefEqProofs only[go_sem,Tryz.results184];refine callF (HV) Ym ?_;simp -implicitDefEqProofs only[go_sem];refine callF (HO) Ym ?_;simp -implicitDefEqProofs only[go_sem]
   ·rw[hn]at HO;simp only[List.find?_cons,hn];simp only[tmD,zab a,zab t]at HK⊢;refine zai Tryz.call184 Tryz.func184 rfl Yn (zau Yn) ?_;simp -implicitDefEqProofs only[go_sem,Tryz.results184];refine callF (HV) Ym ?_;simp -implicitDefEqProofs only[go_sem];refine callF (HO) Ym ?_;simp -implicitDefEqProofs only[go_sem];refine callF (HK) Ym ?_;simp -implicitDefEqProofs only[go_sem]
theorem zyh (l:List (Str×Tm))(hl:l.length<=1)(hw:∀p∈l,p.2.wt<=1048576):∀a:Tm,a.wt<=1048576->FC Tryz.prog 184 [.agg [sbS l],tmD a] [tmD (zfn l a)] :=
 zby fun m xs ih hs=>by
  obtain⟨h1,h2⟩:=Tm.wt_args hs;exact zv5 l hl hw (.mk m xs) h1 fun x hx=>ih x hx (h2 x hx)
end
section
open Go.RowKit
def bnd (n:Str)(t:Tm):List (Str×Tm):=if(t.name==n)=true then []else [(n,t)]
def zm6 (ps:List Fm):List Str:=match ps with
 | p::_=>zbb [] (vf p [])
 | []=>[]
def zbs (n:Str)(t:Tm):Fm->Fm×Bool:=Fm.fold fun o a v ps rs =>
 if(o==3)=true then (.mk o (zfn (bnd n t) a) v [],(zfn (bnd n t) a).atomOk)
 else if(isQ o&&(v==n||!((zm6 ps).contains n)))=true then (.mk o a v ps,true)
 else if(isQ o&&(zbb [] (voS t)).contains v)=true then (.mk o (.mk [] []) v [],false)
 else (.mk o (.mk [] []) v ((rs.takeWhile Prod.snd).map Prod.fst),rs.all Prod.snd)
theorem qii {α β:Type}(p:β->Bool)(f:α->β):∀xs:List α,(xs.map f).takeWhile p=(xs.takeWhile fun x=>p (f x)).map f
 | []=>rfl
 | x::xs=>by
  simp only[Qg,List.takeWhile_cons];cases p (f x)
  ·rfl
  ·simp only[if_true,Qg,qii p f xs]
theorem zqw (n:Str)(t:Tm)(f:Fm):zbs n t f=if(f.op==3)=true then (.mk f.op (zfn (bnd n t) f.atom) f.var [],(zfn (bnd n t) f.atom).atomOk)
  else if(isQ f.op&&(f.var==n||!((zm6 f.parts).contains n)))=true then (f,true)
  else if(isQ f.op&&(zbb [] (voS t)).contains f.var)=true then (.mk f.op (.mk [] []) f.var [],false)
  else (.mk f.op (.mk [] []) f.var ((f.parts.takeWhile fun x=>(zbs n t x).2).map fun x=>(zbs n t x).1),f.parts.all fun x=>(zbs n t x).2):=by
 cases f with
 | mk o a v ps =>
  conv=>lhs;unfold zbs;rw[Fm.fold_eq]
  simp only[qii,Kt,List.all_map];rfl
theorem zzm {f:Fm}(h:isQ f.op=true)(hf:f.forms=true):∃p,f.parts=[p]/\p.forms=true:=by
 rw[Fm.forms_eq,Qb]at hf
 have h1:=hf.1
 unfold Fm.here at h1
 have h2:(f.op==1||f.op==2)=false/\(f.op==3)=false/\(f.op==4)=false/\zms f.op=false:=by
  have h8:f.op=8\/f.op=9:=by unfold isQ at h;rw[K7,Kr,Kr]at h;exact h
  rcases h8 with e|e<;>rw[e]<;>decide
 rw[h2.1,h2.2.1,h2.2.2.1,h2.2.2.2,h]at h1
 simp only[Qp,if_false,if_true,Qb,Qm]at h1
 obtain⟨p,hp⟩:=List.length_eq_one_iff.1 h1.1.1
 exact⟨p,hp,Qn.1 hf.2 p (by rw[hp];simp)⟩
theorem qkn (n:Str)(t:Tm):(bnd n t).length<=1:=by unfold bnd;split<;>simp
theorem bnd_wt (n:Str)(t:Tm)(ht:t.wt<=1048576):∀p∈bnd n t,p.2.wt<=1048576:=by
 unfold bnd
 split
 ·simp
 ·intro p hp;simp at hp;rw[hp];exact ht
theorem qey (n:Str)(t:Tm)(ht:t.wt<=1048576)(f:Fm)(hf:f.forms=true)(hw:f.wt<=1048576)(hwa:(zfn (bnd n t) f.atom).wt<=1099511627776)(H:∀x∈f.parts,FC Tryz.prog 215 [fmD x,sD n,tmD t] [fmD (zbs n t x).1,bD (zbs n t x).2]) :
  FC Tryz.prog 215 [fmD f,sD n,tmD t] [fmD (zbs n t f).1,bD (zbs n t f).2]:=by
 have hv:=zqw n t f
 have hfl:f.parts.length<=1048576:=by have:=f.wt_eq;omega
 cases h3:f.op==3
 ·rw[h3,if_neg (by simp)]at hv;cases hq:isQ f.op
  ·rw[hq,Qq,if_neg (by simp),Qq,if_neg (by simp)]at hv;have hq8:(f.op==8)=false/\(f.op==9)=false:=by unfold isQ at hq;rw[J3]at hq;exact hq
   simp only[fmD,zaa f,tmD,zab t];refine zai Tryz.call215 Tryz.func215 rfl Yn (zau Yn) ?_;simp -implicitDefEqProofs only[go_sem,Tryz.results215,h3,hq8.1,hq8.2];refine zaf (fun k:Nat=>hd [(1,vT (.str n)),(3,.one (.bx 3 0)),(5,.one (.bx 5 0)),(6,.one (.bx 6 0)),(8,.one (.bx 8 0)),(9,vI k)] [(3,[.t (.int .i64 f.op),.t (.str f.atom.name),.t (tmS f.atom.args),.t (.str f.var),.t (fmS f.parts)]),(5,[.t (.str t.name),.t (tmS t.args)]),(6,[.t (.int .i64 0),.t (.str []),.nl 2,.t (.str []),.nl 5]),(8,[.t (.int .i64 f.op),.t (.str []),.nl 2,.t (.str f.var),.ow 8000 0])] [(8000,⟨true,5,(f.parts.take k).map fun x=>fmC (zbs n t x).1,0,true⟩)]) (fun k=>k<=f.parts.length/\∀x∈f.parts.take k,(zbs n t x).2=true) (fun k=>f.parts.length-k) 0 (zac ?_) ⟨Q3 _,by simp⟩ ?_
   ·simp -implicitDefEqProofs only[go_sem]
   ·rintro k ⟨hk,hT⟩;by_cases hlt:k<f.parts.length
    ·have HC:=H f.parts[k] (Qj hlt);have hmin:min k f.parts.length<=4294967295:=by omega
     simp only[fmD,zaa f.parts[k],zaa (zbs n t f.parts[k]).1,tmD,zab t]at HC;cases hk2:(zbs n t f.parts[k]).2
     ·rw[hk2]at HC;have htw:=(zda (p:=fun x=>(zbs n t x).2) hk hT fun _=>hk2).1;have hall:(f.parts.all fun x=>(zbs n t x).2)=false:=by rw[List.all_eq_false];exact⟨_,Qj hlt,by rw[hk2];simp⟩
      rw[htw,hall]at hv;rw[hv];simp -implicitDefEqProofs only[go_sem,hlt];refine drawn Yn ?_;simp -implicitDefEqProofs only[go_sem,zae,hlt,zaa f.parts[k]];refine zal (HC) Ym ?_;simp -implicitDefEqProofs only[go_sem];refine⟨Yn,?_⟩;simp -implicitDefEqProofs only[go_sem,zdc,Kt,Jk];exact⟨rfl,rfl⟩
     ·rw[hk2]at HC;simp -implicitDefEqProofs only[go_sem,hlt];refine drawn Yn ?_;simp -implicitDefEqProofs only[go_sem,zae,hlt,zaa f.parts[k]];refine zal (HC) Ym ?_;simp -implicitDefEqProofs only[go_sem];refine⟨Yn,?_⟩;refine zad Ym ?_;simp -implicitDefEqProofs only[go_sem];refine apD true (by simp -implicitDefEqProofs only[go_sem,ne_eq,Qa,Qs,hmin]) ?_;simp -implicitDefEqProofs only[go_sem,ne_eq,Qa,Qs,hmin];refine⟨k+1,⟨hlt,fun x hx=>?_⟩,Yo,zac ?_⟩
      ·rw[Qk hlt]at hx;rcases Qt.1 hx with hx|hx
       ·exact hT x hx
       ·rw[Qw]at hx;subst hx;exact hk2
      ·simp -implicitDefEqProofs only[go_sem];rw[zaw Yo,Qk hlt,Qy,Kj];simp only[zaa]
       trivial
    ·have htk:f.parts.take k=f.parts:=Qu Yo;rw[htk]at hT;have hall:(f.parts.all fun x=>(zbs n t x).2)=true:=Qn.2 hT;have htw:(f.parts.takeWhile fun x=>(zbs n t x).2)=f.parts:=by
      have:=(zda (l:=f.parts) (p:=fun x=>(zbs n t x).2) (k:=f.parts.length) (Qz _) (by rw[Kx];exact hT) fun h=>absurd h (Yk _)).1;rw[this,Kx]
     rw[htw,hall]at hv;rw[hv];simp -implicitDefEqProofs only[go_sem,hlt,htk,zdc,Kt,Jk];exact⟨rfl,rfl⟩
  ·obtain⟨q,hp,hpf⟩:=zzm hq hf;have key:(f.op==8)=true\/((f.op==8)=false/\(f.op==9)=true):=by
    have hq8:=hq;unfold isQ at hq8;cases h8:f.op==8
    ·rw[h8,Km]at hq8;exact Or.inr ⟨rfl,hq8⟩
    ·exact Or.inl rfl
   have HFr:=qef q hpf (by have:=f.wt_eq;rw[hp]at this;simp only[Qg,Qh,Q2,Ku]at this;omega);have HOw:=zic f hw;have hfr:zm6 f.parts=zbb [] (vf q []):=by rw[hp];rfl
   rw[hfr]at hv;generalize zbb [] (vf q [])=V at hv HFr;have HIn:=zte V n;have hvl:=zmp t;have HVs:=zuy t Yo Yo;generalize zbb [] (voS t)=TV at hv HVs;have HIt:=zte TV f.var;rw[hq,Qv,Qv]at hv;have hp0:f.parts.length=1:=by rw[hp];rfl
   have e0:(List.map fmC f.parts).getD 0 []=fmC q:=by rw[hp];rfl
   cases hvn:f.var==n
   ·rw[hvn,Km]at hv;cases hcn:V.contains n
    ·rw[hcn,if_pos (by simp)]at hv;rw[hcn]at HIn;rw[hv];simp only[fmD,zaa f,tmD,zab t,zaa q]at HOw HFr⊢;rcases key with e8|⟨e8,e9⟩
     ·refine zai Tryz.call215 Tryz.func215 rfl Yn (zau Yn) ?_;simp -implicitDefEqProofs only[go_sem,Tryz.results215,h3,e8,hvn,hp0,e0,zaa q];refine callF (HFr) Ym ?_;simp -implicitDefEqProofs only[go_sem];refine callF (HIn) Ym ?_;simp -implicitDefEqProofs only[go_sem];refine callF (HOw) Ym ?_;simp -implicitDefEqProofs only[go_sem]
     ·refine zai Tryz.call215 Tryz.func215 rfl Yn (zau Yn) ?_;simp -implicitDefEqProofs only[go_sem,Tryz.results215,h3,e8,e9,hvn,hp0,e0,zaa q];refine callF (HFr) Ym ?_;simp -implicitDefEqProofs only[go_sem];refine callF (HIn) Ym ?_;simp -implicitDefEqProofs only[go_sem];refine callF (HOw) Ym ?_;simp -implicitDefEqProofs only[go_sem]
    ·rw[hcn,if_neg (by simp)]at hv;rw[hcn]at HIn;cases hti:TV.contains f.var
     ·rw[hti,if_neg (by simp)]at hv;rw[hti]at HIt;simp only[fmD,zaa f,tmD,zab t,zaa q]at HVs HFr⊢;rcases key with e8|⟨e8,e9⟩
      ·refine zai Tryz.call215 Tryz.func215 rfl Yn (zau Yn) ?_;simp -implicitDefEqProofs only[go_sem,Tryz.results215,h3,e8,hvn,hp0,e0,zaa q];refine callF (HFr) Ym ?_;simp -implicitDefEqProofs only[go_sem];refine callF (HIn) Ym ?_;simp -implicitDefEqProofs only[go_sem];refine drawn Yn ?_;simp -implicitDefEqProofs only[go_sem];refine zal (HVs) Ym ?_;simp -implicitDefEqProofs only[go_sem];refine zal (HIt) Ym ?_;simp -implicitDefEqProofs only[go_sem];refine⟨Yn,?_⟩;refine zaf (fun k:Nat=>hd [(1,vT (.str n)),(3,.one (.bx 3 0)),(5,.one (.bx 5 0)),(6,.one (.bx 6 0)),(8,.one (.bx 8 0)),(9,vI k)] [(3,[.t (.int .i64 f.op),.t (.str f.atom.name),.t (tmS f.atom.args),.t (.str f.var),.t (fmS f.parts)]),(5,[.t (.str t.name),.t (tmS t.args)]),(6,[.t (.int .i64 0),.t (.str []),.nl 2,.t (.str []),.nl 5]),(8,[.t (.int .i64 f.op),.t (.str []),.nl 2,.t (.str f.var),.ow 8000 0])] [(8000,⟨true,5,(f.parts.take k).map fun x=>fmC (zbs n t x).1,0,true⟩)]) (fun k=>k<=f.parts.length/\∀x∈f.parts.take k,(zbs n t x).2=true) (fun k=>f.parts.length-k) 0 (zac ?_) ⟨Q3 _,by simp⟩ ?_
       ·simp -implicitDefEqProofs only[go_sem]
       ·rintro k ⟨hk,hT⟩;by_cases hlt:k<f.parts.length
        ·have HC:=H f.parts[k] (Qj hlt);have hmin:min k f.parts.length<=4294967295:=by omega
         simp only[fmD,zaa f.parts[k],zaa (zbs n t f.parts[k]).1,tmD,zab t]at HC;cases hk2:(zbs n t f.parts[k]).2
         ·rw[hk2]at HC;have htw:=(zda (p:=fun x=>(zbs n t x).2) hk hT fun _=>hk2).1;have hall:(f.parts.all fun x=>(zbs n t x).2)=false:=by rw[List.all_eq_false];exact⟨_,Qj hlt,by rw[hk2];simp⟩
          rw[htw,hall]at hv;rw[hv];simp -implicitDefEqProofs only[go_sem,hlt];refine drawn Yn ?_;simp -implicitDefEqProofs only[go_sem,zae,hlt,zaa f.parts[k]];refine zal (HC) Ym ?_;simp -implicitDefEqProofs only[go_sem];refine⟨Yn,?_⟩;simp -implicitDefEqProofs only[go_sem,zdc,Kt,Jk];exact⟨rfl,rfl⟩
         ·rw[hk2]at HC;simp -implicitDefEqProofs only[go_sem,hlt];refine drawn Yn ?_;simp -implicitDefEqProofs only[go_sem,zae,hlt,zaa f.parts[k]];refine zal (HC) Ym ?_;simp -implicitDefEqProofs only[go_sem];refine⟨Yn,?_⟩;refine zad Ym ?_;simp -implicitDefEqProofs only[go_sem];refine apD true (by simp -implicitDefEqProofs only[go_sem,ne_eq,Qa,Qs,hmin]) ?_;simp -implicitDefEqProofs only[go_sem,ne_eq,Qa,Qs,hmin];refine⟨k+1,⟨hlt,fun x hx=>?_⟩,Yo,zac ?_⟩
          ·rw[Qk hlt]at hx;rcases Qt.1 hx with hx|hx
           ·exact hT x hx
           ·rw[Qw]at hx;subst hx;exact hk2
          ·simp -implicitDefEqProofs only[go_sem];rw[zaw Yo,Qk hlt,Qy,Kj];simp only[zaa]
           trivial
        ·have htk:f.parts.take k=f.parts:=Qu Yo;rw[htk]at hT;have hall:(f.parts.all fun x=>(zbs n t x).2)=true:=Qn.2 hT;have htw:(f.parts.takeWhile fun x=>(zbs n t x).2)=f.parts:=by
          have:=(zda (l:=f.parts) (p:=fun x=>(zbs n t x).2) (k:=f.parts.length) (Qz _) (by rw[Kx];exact hT) fun h=>absurd h (Yk _)).1;rw[this,Kx]
         rw[htw,hall]at hv;rw[hv];simp -implicitDefEqProofs only[go_sem,hlt,htk,zdc,Kt,Jk];exact⟨rfl,rfl⟩
      ·refine zai Tryz.call215 Tryz.func215 rfl Yn (zau Yn) ?_;simp -implicitDefEqProofs only[go_sem,Tryz.results215,h3,e8,e9,hvn,hp0,e0,zaa q];refine callF (HFr) Ym ?_;simp -implicitDefEqProofs only[go_sem];refine callF (HIn) Ym ?_;simp -implicitDefEqProofs only[go_sem];refine drawn Yn ?_;simp -implicitDefEqProofs only[go_sem];refine zal (HVs) Ym ?_;simp -implicitDefEqProofs only[go_sem];refine zal (HIt) Ym ?_;simp -implicitDefEqProofs only[go_sem];refine⟨Yn,?_⟩;refine zaf (fun k:Nat=>hd [(1,vT (.str n)),(3,.one (.bx 3 0)),(5,.one (.bx 5 0)),(6,.one (.bx 6 0)),(8,.one (.bx 8 0)),(9,vI k)] [(3,[.t (.int .i64 f.op),.t (.str f.atom.name),.t (tmS f.atom.args),.t (.str f.var),.t (fmS f.parts)]),(5,[.t (.str t.name),.t (tmS t.args)]),(6,[.t (.int .i64 0),.t (.str []),.nl 2,.t (.str []),.nl 5]),(8,[.t (.int .i64 f.op),.t (.str []),.nl 2,.t (.str f.var),.ow 8000 0])] [(8000,⟨true,5,(f.parts.take k).map fun x=>fmC (zbs n t x).1,0,true⟩)]) (fun k=>k<=f.parts.length/\∀x∈f.parts.take k,(zbs n t x).2=true) (fun k=>f.parts.length-k) 0 (zac ?_) ⟨Q3 _,by simp⟩ ?_
       ·simp -implicitDefEqProofs only[go_sem]
       ·rintro k ⟨hk,hT⟩;by_cases hlt:k<f.parts.length
        ·have HC:=H f.parts[k] (Qj hlt);have hmin:min k f.parts.length<=4294967295:=by omega
         simp only[fmD,zaa f.parts[k],zaa (zbs n t f.parts[k]).1,tmD,zab t]at HC;cases hk2:(zbs n t f.parts[k]).2
         ·rw[hk2]at HC;have htw:=(zda (p:=fun x=>(zbs n t x).2) hk hT fun _=>hk2).1;have hall:(f.parts.all fun x=>(zbs n t x).2)=false:=by rw[List.all_eq_false];exact⟨_,Qj hlt,by rw[hk2];simp⟩
          rw[htw,hall]at hv;rw[hv];simp -implicitDefEqProofs only[go_sem,hlt];refine drawn Yn ?_;simp -implicitDefEqProofs only[go_sem,zae,hlt,zaa f.parts[k]];refine zal (HC) Ym ?_;simp -implicitDefEqProofs only[go_sem];refine⟨Yn,?_⟩;simp -implicitDefEqProofs only[go_sem,zdc,Kt,Jk];exact⟨rfl,rfl⟩
         ·rw[hk2]at HC;simp -implicitDefEqProofs only[go_sem,hlt];refine drawn Yn ?_;simp -implicitDefEqProofs only[go_sem,zae,hlt,zaa f.parts[k]];refine zal (HC) Ym ?_;simp -implicitDefEqProofs only[go_sem];refine⟨Yn,?_⟩;refine zad Ym ?_;simp -implicitDefEqProofs only[go_sem];refine apD true (by simp -implicitDefEqProofs only[go_sem,ne_eq,Qa,Qs,hmin]) ?_;simp -implicitDefEqProofs only[go_sem,ne_eq,Qa,Qs,hmin];refine⟨k+1,⟨hlt,fun x hx=>?_⟩,Yo,zac ?_⟩
          ·rw[Qk hlt]at hx;rcases Qt.1 hx with hx|hx
           ·exact hT x hx
           ·rw[Qw]at hx;subst hx;exact hk2
          ·simp -implicitDefEqProofs only[go_sem];rw[zaw Yo,Qk hlt,Qy,Kj];simp only[zaa]
           trivial
        ·have htk:f.parts.take k=f.parts:=Qu Yo;rw[htk]at hT;have hall:(f.parts.all fun x=>(zbs n t x).2)=true:=Qn.2 hT;have htw:(f.parts.takeWhile fun x=>(zbs n t x).2)=f.parts:=by
          have:=(zda (l:=f.parts) (p:=fun x=>(zbs n t x).2) (k:=f.parts.length) (Qz _) (by rw[Kx];exact hT) fun h=>absurd h (Yk _)).1;rw[this,Kx]
         rw[htw,hall]at hv;rw[hv];simp -implicitDefEqProofs only[go_sem,hlt,htk,zdc,Kt,Jk];exact⟨rfl,rfl⟩
     ·rw[hti,if_pos rfl]at hv;rw[hti]at HIt;rw[hv];have e5:fmD (.mk f.op (.mk [] []) f.var [])=.agg [.int .i64 f.op,.str [],.sl 2 [],.str f.var,.sl 5 []]:=by unfold fmD;rw[zaa];rfl
      rw[e5];simp only[fmD,zaa f,tmD,zab t,zaa q]at HVs HFr⊢;rcases key with e8|⟨e8,e9⟩
      ·refine zai Tryz.call215 Tryz.func215 rfl Yn (zau Yn) ?_;simp -implicitDefEqProofs only[go_sem,Tryz.results215,h3,e8,hvn,hp0,e0,zaa q];refine callF (HFr) Ym ?_;simp -implicitDefEqProofs only[go_sem];refine callF (HIn) Ym ?_;simp -implicitDefEqProofs only[go_sem];refine drawn Yn ?_;simp -implicitDefEqProofs only[go_sem];refine zal (HVs) Ym ?_;simp -implicitDefEqProofs only[go_sem];refine zal (HIt) Ym ?_;simp -implicitDefEqProofs only[go_sem];kernel_rfl
      ·refine zai Tryz.call215 Tryz.func215 rfl Yn (zau Yn) ?_;simp -implicitDefEqProofs only[go_sem,Tryz.results215,h3,e8,e9,hvn,hp0,e0,zaa q];refine callF (HFr) Ym ?_;simp -implicitDefEqProofs only[go_sem];refine callF (HIn) Ym ?_;simp -implicitDefEqProofs only[go_sem];refine drawn Yn ?_;simp -implicitDefEqProofs only[go_sem];refine zal (HVs) Ym ?_;simp -implicitDefEqProofs only[go_sem];refine zal (HIt) Ym ?_;simp -implicitDefEqProofs only[go_sem];kernel_rfl
   ·rw[hvn,J4,if_pos rfl]at hv;rw[hv];simp only[fmD,zaa f,tmD,zab t]at HOw⊢;rcases key with e8|⟨e8,e9⟩
    ·refine zai Tryz.call215 Tryz.func215 rfl Yn (zau Yn) ?_;simp -implicitDefEqProofs only[go_sem,Tryz.results215,h3,e8,hvn];refine callF (HOw) Ym ?_;simp -implicitDefEqProofs only[go_sem]
    ·refine zai Tryz.call215 Tryz.func215 rfl Yn (zau Yn) ?_;simp -implicitDefEqProofs only[go_sem,Tryz.results215,h3,e8,e9,hvn];refine callF (HOw) Ym ?_;simp -implicitDefEqProofs only[go_sem]
 ·rw[h3,if_pos rfl]at hv;have HA:=zyh (bnd n t) (qkn n t) (bnd_wt n t ht) f.atom (by have:=zh8 f;omega);rw[hv];generalize zfn (bnd n t) f.atom=R at HA hwa⊢;have HO:=zmo R hwa;cases hn:t.name==n
  ·have e0:bnd n t=[(n,t)]:=by unfold bnd;rw[hn,if_neg (by simp)]
   have HP:=zyi n t ht hn;have hS0:sbS []=.sl 3 []:=rfl;rw[e0]at HA;generalize [(n,t)]=B at HA HP;rw[hS0]at HP;unfold sbS at HP HA;generalize B.map bnC=L at HA HP;simp only[fmD,zaa f,tmD,zab t,zab f.atom,zab R,zdc,Qh]at HA HP HO⊢;refine zai Tryz.call215 Tryz.func215 rfl Yn (zau Yn) ?_;simp -implicitDefEqProofs only[go_sem,Tryz.results215,h3];refine drawn Yn ?_;simp -implicitDefEqProofs only[go_sem];refine zal (HP) Ym ?_;simp -implicitDefEqProofs only[go_sem];refine zal (HA) Ym ?_;simp -implicitDefEqProofs only[go_sem];refine⟨Yn,?_⟩;refine drawn Yn ?_;simp -implicitDefEqProofs only[go_sem];refine zal (HO) Ym ?_;simp -implicitDefEqProofs only[go_sem];kernel_rfl
  ·have e0:bnd n t=[]:=by unfold bnd;rw[hn,if_pos rfl]
   have HP:=zvr n t hn;have hS0:sbS []=.sl 3 []:=rfl;rw[e0]at HA;rw[hS0]at HP HA;simp only[fmD,zaa f,tmD,zab t,zab f.atom,zab R,zdc,Qh]at HA HP HO⊢;refine zai Tryz.call215 Tryz.func215 rfl Yn (zau Yn) ?_;simp -implicitDefEqProofs only[go_sem,Tryz.results215,h3];refine drawn Yn ?_;simp -implicitDefEqProofs only[go_sem];refine zhq HP Ym ?_;simp -implicitDefEqProofs only[go_sem];refine zal (HA) Ym ?_;simp -implicitDefEqProofs only[go_sem];refine⟨Yn,?_⟩;refine drawn Yn ?_;simp -implicitDefEqProofs only[go_sem];refine zal (HO) Ym ?_;simp -implicitDefEqProofs only[go_sem];kernel_rfl
end
section
open Go.RowKit
theorem ql2 (n:Str)(t:Tm):∀a:Tm,(zds n t a).wt<=a.wt+a.nodes*t.wt:=zby fun m xs ih=>by
 rw[zfx,Tm.nodes_eq]
 show(if xs.length=0 then (if(n==m)=true then t else .mk m [])else .mk m (xs.map (zds n t))).wt<=(Tm.mk m xs).wt+(1+(xs.map Tm.nodes).sum)*t.wt
 have hs:(xs.map fun x=>(zds n t x).wt).sum<=(xs.map Tm.wt).sum+(xs.map Tm.nodes).sum*t.wt:=by
  revert ih;induction xs with
  | nil=>simp
  | cons x xs ih2 =>
   intro ih;have h1:=ih x (by simp);have h2:=ih2 fun y hy=>ih y (by simp[hy]);simp only[Qg,Q2,Kl];omega
 have h0:=Tm.wt_eq (.mk m xs)
 have h0:(Tm.mk m xs).wt=m.length+xs.length+(xs.map Tm.wt).sum:=h0
 rw[Kl,Yi]
 split
 ·split
  ·omega
  ·have h1:=Tm.wt_eq (.mk m []);have h1:(Tm.mk m []).wt=m.length+0+0:=h1;omega
 ·have h1:=Tm.wt_eq (.mk m (xs.map (zds n t)));have h1:(Tm.mk m (xs.map (zds n t))).wt=m.length+(xs.map (zds n t)).length+((xs.map (zds n t)).map Tm.wt).sum:=h1;rw[Qa,Kt]at h1;have h2:(xs.map (Tm.wt∘zds n t)).sum=(xs.map fun x=>(zds n t x).wt).sum:=rfl;omega
theorem zxf (l:List (Str×Tm))(W:Nat)(hW:∀p∈l,p.2.wt<=W):∀a:Tm,(zfn l a).wt<=a.wt+a.nodes*W:=zby fun m xs ih=>by
 rw[zoa,Tm.nodes_eq]
 show(if za9 m=true then (match l.find? fun(p:Str×Tm)=>p.1==m with|some p=>p.2|none=>.mk m [])else .mk m (xs.map (zfn l))).wt<=(Tm.mk m xs).wt+(1+(xs.map Tm.nodes).sum)*W
 have hs:(xs.map fun x=>(zfn l x).wt).sum<=(xs.map Tm.wt).sum+(xs.map Tm.nodes).sum*W:=by
  revert ih;induction xs with
  | nil=>simp
  | cons x xs ih2 =>
   intro ih;have h1:=ih x (by simp);have h2:=ih2 fun y hy=>ih y (by simp[hy]);simp only[Qg,Q2,Kl];omega
 have h0:=Tm.wt_eq (.mk m xs)
 have h0:(Tm.mk m xs).wt=m.length+xs.length+(xs.map Tm.wt).sum:=h0
 rw[Kl,Yi]
 split
 ·split
  ·rename_i p hp;have:=hW p (List.mem_of_find?_eq_some hp);omega
  ·have h1:=Tm.wt_eq (.mk m []);have h1:(Tm.mk m []).wt=m.length+0+0:=h1;omega
 ·have h1:=Tm.wt_eq (.mk m (xs.map (zfn l)));have h1:(Tm.mk m (xs.map (zfn l))).wt=m.length+(xs.map (zfn l)).length+((xs.map (zfn l)).map Tm.wt).sum:=h1;rw[Qa,Kt]at h1;have h2:(xs.map (Tm.wt∘zfn l)).sum=(xs.map fun x=>(zfn l x).wt).sum:=rfl;omega
theorem qcd (n:Str)(t:Tm):∀p∈bnd n t,p.2.wt<=t.wt:=by
 unfold bnd
 split
 ·simp
 ·intro p hp;simp at hp;rw[hp];exact Qz _
theorem qkq (n:Str)(t:Tm)(ht:t.wt<=1048576):∀f:Fm,f.forms=true->f.wt<=1048576->f.wt+(1+f.wt)*t.wt<=1099511627776->FC Tryz.prog 215 [fmD f,sD n,tmD t] [fmD (zbs n t f).1,bD (zbs n t f).2] :=
 zcc fun o a v ps ih hf hw hb=>by
  refine qey n t ht (.mk o a v ps) hf hw ?_ fun x hx=>ih x hx (by rw[Fm.forms_eq,Qb]at hf;exact Qn.1 hf.2 x hx) (Kk (zck (a:=.mk o a v ps) hx) hw) ?_
  ·have h1:=zxf (bnd n t) t.wt (qcd n t) a;have h2:=ze8 a;have h3:a.wt<=(Fm.mk o a v ps).wt:=zh8 (.mk o a v ps);have h4:a.nodes*t.wt<=(1+(Fm.mk o a v ps).wt)*t.wt:=Kz _ Yo;show(zfn (bnd n t) a).wt<=_
   omega
  ·have h3:=zck (a:=.mk o a v ps) hx;have h4:(1+x.wt)*t.wt<=(1+(Fm.mk o a v ps).wt)*t.wt:=Kz _ Yo;omega
theorem qmh:(mkF 0 []).wt=0:=rfl
theorem zz4 {α:Type}{g w:α->Nat}{W:Nat}:∀ps:List α,(∀x∈ps,g x<=w x+(1+w x)*W)->(ps.map g).sum<=(ps.map w).sum+(ps.length+(ps.map w).sum)*W
 | [],_=>by simp
 | x::xs,ih=>by
  have h1:=ih x (by simp);have h2:=zz4 (g:=g) (w:=w) (W:=W) xs fun y hy=>ih y (by simp[hy]);simp only[Qg,Q2,Qc];have e:(xs.length+1+(w x+(xs.map w).sum))*W=(1+w x)*W+(xs.length+(xs.map w).sum)*W:=by rw[<-Kl];congr 1;omega
  rw[e];omega
theorem qjg (n:Str)(t:Tm):∀f:Fm,(zci n t f).1.wt<=f.wt+(1+f.wt)*t.wt:=zcc fun o a v ps ih=>by
 rw[zfb]
 have h0:(Fm.mk o a v ps).wt=a.wt+v.length+ps.length+(ps.map Fm.wt).sum:=Fm.wt_eq (.mk o a v ps)
 split
 ·exact Nat.le_add_right _ _
 ·split
  ·rw[qmh];exact Q3 _
  ·have hs:(ps.map fun x=>(zci n t x).1.wt).sum<=(ps.map Fm.wt).sum+(ps.length+(ps.map Fm.wt).sum)*t.wt:=zz4 (g:=fun x=>(zci n t x).1.wt) (w:=Fm.wt) (W:=t.wt) ps ih;have ha:=ql2 n t a;have hn:=ze8 a;show(Fm.mk o (if(o==3)=true then zds n t a else a) v (ps.map fun x=>(zci n t x).1)).wt<=_
   have h1:=Fm.wt_eq (.mk o (if(o==3)=true then zds n t a else a) v (ps.map fun x=>(zci n t x).1));have h1:(Fm.mk o (if(o==3)=true then zds n t a else a) v (ps.map fun x=>(zci n t x).1)).wt=(if(o==3)=true then zds n t a else a).wt+v.length+(ps.map fun x=>(zci n t x).1).length+((ps.map fun x=>(zci n t x).1).map Fm.wt).sum:=h1;rw[Qa,Kt]at h1;have h2:(ps.map (Fm.wt∘fun x=>(zci n t x).1)).sum=(ps.map fun x=>(zci n t x).1.wt).sum:=rfl;have h3:(if(o==3)=true then zds n t a else a).wt<=a.wt+(1+a.wt)*t.wt:=by
    have:a.nodes*t.wt<=(1+a.wt)*t.wt:=Kz _ Yo;split<;>omega
   have h4:(1+a.wt)*t.wt+(ps.length+(ps.map Fm.wt).sum)*t.wt<=(1+(Fm.mk o a v ps).wt)*t.wt:=by rw[<-Kl];exact Kz _ Yo
   omega
end
section
open Go.RowKit
attribute [local go_sem] Oper.semAt_some
end
section
open Go.RowKit
theorem zgt (xs:List Fm)(hs:zdm xs<=1048576):FC Tryz.prog 154 [.one (fmS xs)] [.one (fmS xs)]:=by
 have hW:zdm xs=xs.length+(xs.map Fm.wt).sum:=rfl
 refine zai Tryz.call154 Tryz.func154 rfl Yn (zau Yn) ?_
 simp -implicitDefEqProofs only[go_sem,Tryz.results154]
 refine zad Ym ?_
 simp -implicitDefEqProofs only[go_sem]
 refine zaf (fun k:Nat=>hd [(3,.one (.ow 192 k)),(7,vT (fmS xs)),(8,vI xs.length),(9,vI k)] [] [(192,⟨true,5,(xs.take k).map fmC,k,true⟩)]) (fun k=>k<=xs.length) (fun k=>xs.length-k) 0 (zac ?_) ?_ ?_
 ·simp -implicitDefEqProofs only[go_sem]
 ·simp
 ·intro k hk;by_cases hlt:k<xs.length
  ·have hmin:min k xs.length<=4294967295:=by omega
   have hx:xs[k].wt<=1048576:=by have:=zb8 Fm.wt xs xs[k] (Qj hlt);omega
   simp -implicitDefEqProofs only[go_sem,zae,hlt,zaa xs[k]];refine callF (zg1 xs[k] hx) (by simp -implicitDefEqProofs only[go_sem,zaa]) ?_;simp -implicitDefEqProofs only[go_sem,zaa];refine zad Ym ?_;simp -implicitDefEqProofs only[go_sem];refine apD true (by simp -implicitDefEqProofs only[go_sem,ne_eq,Qa,Qs,hmin]) ?_;simp -implicitDefEqProofs only[go_sem,ne_eq,Qa,Qs,hmin];refine⟨k+1,hlt,Yo,zac ?_⟩;simp -implicitDefEqProofs only[go_sem];rw[zaw Yo,Qk hlt,Qy,Kj,zaa xs[k]];exact⟨rfl,rfl⟩
  ·have ht:xs.take k=xs:=Qu Yo;simp -implicitDefEqProofs only[go_sem,hlt,ht]
end
section
open Go.RowKit
theorem zrr (f:Fm)(hs:f.wt<=1099511627776):GC Tryz.prog 256 [(true,fmD f)] [fmD (if f.good=true then f else mkF 0 []),bD f.good]:=by
 cases h:f.good
 ·rw[if_neg (by simp)];simp only[fmD,zaa f,zih,Qh];refine qhh Tryz.call256 Tryz.func256 rfl Yn (by simp only[Qc,Qd,Tryz.ntmps256];omega) (by simp[zay,T.isPin]) ?_;simp -implicitDefEqProofs only[go_sem,Tryz.results256];refine callF (zcm f hs) (by simp -implicitDefEqProofs only[go_sem,zaa f,h]) ?_;simp -implicitDefEqProofs only[go_sem,zaa f,h]
 ·rw[if_pos rfl];simp only[fmD,zaa f];refine qhh Tryz.call256 Tryz.func256 rfl Yn (by simp only[Qc,Qd,Tryz.ntmps256];omega) (by simp[zay,T.isPin]) ?_;simp -implicitDefEqProofs only[go_sem,Tryz.results256];refine callF (zcm f hs) (by simp -implicitDefEqProofs only[go_sem,zaa f,h]) ?_;simp -implicitDefEqProofs only[go_sem,zaa f,h]
end
section
open Go.RowKit
theorem zm2 {n m:Str}(hn:za9 n=true)(hm:zcs m=true):(n==m)=false:=by
 rw[Ql]
 rintro rfl
 have h1:=(zmi hn).1
 have h2:=(zkj hm).1
 rw[h1]at h2
 cases h2
theorem zle {n:Str}(h:zcs n=true):za9 n=false:=by
 cases hv:za9 n
 ·rfl
 ·have:=zm2 hv h;simp at this
theorem qbi (v:Str)(hv:za9 v=true):∀a:Tm,a.names=true->(decide (0<zgs v a)=(voS a).contains v):=zby fun m xs ih h=>by
 rw[Tm.names_eq]at h
 rw[zr9,zjm]
 change (if za9 m=true then decide (xs.length=0)else zcs m&&decide (xs.length<=4)&&xs.all Tm.names)=true at h
 change decide (0<(if(m==v)=true then 1 else 0)+(xs.map (zgs v)).sum)=(if za9 m=true then [m]else (xs.map voS).flatten).contains v
 rw[Kq,Qm,Kh]
 by_cases hm:za9 m=true
 ·rw[if_pos hm]at h⊢;have hx:xs=[]:=Q7.1 (Jj h);subst hx;simp only[Qh,Ku,Qw,Kr];by_cases e:m=v
  ·simp[e]
  ·simp[e];exact fun h=>e h.symm
 ·rw[if_neg hm]at h⊢;simp only[Qb]at h;have hne:=zm2 hv h.1.1;have hmv:(m==v)=false:=by rw[Ql]at hne⊢;exact fun e=>hne e.symm
  rw[hmv,if_neg (by simp),Q5];have hI:∀x∈xs,(0<zgs v x↔v∈voS x):=fun x hx=>by
   have:=ih x hx (Qn.1 h.2 x hx)
   rwa [Kq,Qm,Kh]at this
  clear ih h;rw[List.mem_flatten];constructor
  ·intro hs;have:∃x∈xs,0<zgs v x:=by
    revert hs;clear hI;induction xs with
    | nil=>simp
    | cons x xs ih2 =>
     intro hs;simp only[Qg,Q2]at hs;by_cases h0:0<zgs v x
     ·exact⟨x,by simp,h0⟩
     ·obtain⟨y,hy,h1⟩:=ih2 Yo;exact⟨y,by simp[hy],h1⟩
   obtain⟨x,hx,h1⟩:=this;exact⟨voS x,Ki.2 ⟨x,hx,rfl⟩,(hI x hx).1 h1⟩
  ·rintro⟨l,hl,hv2⟩;obtain⟨x,hx,rfl⟩:=Ki.1 hl;have h1:=(hI x hx).2 hv2;have h2:=zb8 (zgs v) xs x hx;omega
theorem qc0:∀(f:Fm)(b:List Str)(x:Str),x∈vf f b↔x∈vf f []/\x∉b:=zcc fun o a v ps ih b x=>by
 rw[zk6 (.mk o a v ps) b,zk6 (.mk o a v ps) []]
 change x∈(if(o==3)=true then (zbb [] (voS a)).filter (fun s=>!b.contains s)else (ps.map fun y=>vf y (if isQ o=true then b++[v]else b)).flatten)↔x∈(if(o==3)=true then (zbb [] (voS a)).filter (fun s=>!([]:List Str).contains s)else (ps.map fun y=>vf y (if isQ o=true then []++[v]else [])).flatten)/\x∉b
 split
 ·simp[J7]
 ·have hI:∀y∈ps,∀c,x∈vf y c↔x∈vf y []/\x∉c:=fun y hy c=>ih y hy c x;simp only[List.mem_flatten,Ki];constructor
  ·rintro⟨l,⟨y,hy,rfl⟩,hx⟩;rw[hI y hy]at hx;refine⟨⟨_,⟨y,hy,rfl⟩,?_⟩,?_⟩
   ·rw[hI y hy];refine⟨hx.1,fun hm=>hx.2 ?_⟩;split at hm
    ·rw[if_pos ‹_›];simp at hm;simp[hm]
    ·simp at hm
   ·intro hm;apply hx.2;split
    ·simp[hm]
    ·exact hm
  ·rintro⟨⟨l,⟨y,hy,rfl⟩,hx⟩,hb⟩;rw[hI y hy]at hx;refine⟨_,⟨y,hy,rfl⟩,?_⟩;rw[hI y hy];refine⟨hx.1,fun hm=>?_⟩;split at hm
   ·rw[if_pos ‹_›]at hx;rcases Qt.1 hm with hm|hm
    ·exact hb hm
    ·exact hx.2 (by simpa using hm)
   ·exact hb hm
theorem zdu (l:List Str)(n:Str):(zbb [] l).contains n=l.contains n:=by
 rw[Kq,Kh,Kh,zes];simp
theorem zx3 {f q:Fm}{n:Str}(hq:isQ f.op=true)(hp:f.parts=[q])(hn:(f.var==n)=false):(zbb [] (vf f [])).contains n=(zm6 f.parts).contains n:=by
 have h3:(f.op==3)=false:=by
  rw[Ql];intro e;rw[e]at hq;exact absurd hq (by decide)
 rw[zdu,hp]
 show _=(zbb [] (vf q [])).contains n
 rw[zdu,Kq,Kh,Kh,zk6 f [],h3,if_neg (by simp),if_pos hq,hp]
 simp only[Qg,Qh,Q8,List.flatten_nil,Ks,Jb]
 rw[qc0]
 rw[Ql]at hn
 constructor
 ·exact fun h=>h.1
 ·exact fun h=>⟨h,by simpa using fun e=>hn e.symm⟩
theorem zo8 (n:Str)(t:Tm)(hn:za9 n=true)(ht:t.names=true):∀a:Tm,a.names=true->zds n t a=zfn (bnd n t) a:=zby fun m xs ih h=>by
 rw[Tm.names_eq]at h
 rw[zfx,zoa]
 change (if za9 m=true then decide (xs.length=0)else zcs m&&decide (xs.length<=4)&&xs.all Tm.names)=true at h
 change (if xs.length=0 then (if(n==m)=true then t else .mk m [])else .mk m (xs.map (zds n t)))=(if za9 m=true then (match (bnd n t).find? fun(p:Str×Tm)=>p.1==m with|some p=>p.2|none=>.mk m [])else .mk m (xs.map (zfn (bnd n t))))
 by_cases hm:za9 m=true
 ·rw[if_pos hm]at h⊢;rw[if_pos (Jj h)];unfold bnd;cases htn:t.name==n
  ·cases hnm:n==m<;>simp only[hnm,if_true,if_false,Qp,List.find?_cons,List.find?_nil]
  ·cases hnm:n==m
   ·simp only[if_true,if_false,Qp,List.find?_nil]
   ·simp only[if_true,List.find?_nil];have e1:t.name=m:=by rw[Kr]at htn hnm;rw[htn,hnm]
    rw[Tm.names_eq,e1,if_pos hm]at ht;have e2:t.args=[]:=Q7.1 (Jj ht);cases t with
    | mk tn ta=>simp only[Tm.name,Tm.args]at e1 e2;rw[e1,e2]
 ·rw[if_neg hm]at h⊢;simp only[Qb]at h;have hne:=zm2 hn h.1.1;by_cases hx:xs.length=0
  ·rw[if_pos hx,hne,if_neg (by simp)];have hx:xs=[]:=Q7.1 hx;subst hx;rfl
  ·rw[if_neg hx];rw[Kg fun x hx=>ih x hx (Qn.1 h.2 x hx)]
theorem qbd (n:Str)(t:Tm)(hn:za9 n=true)(ht:t.names=true)(a:Tm)(h:a.atomOk=true):zds n t a=zfn (bnd n t) a:=by
 unfold Tm.atomOk at h
 split at h
 ·rename_i he;have he:a.name=[61]:=by simpa using he
  simp only[Qb,Qm]at h;rw[zfx,zoa,he,show za9 [61]=false by decide,if_neg Yo,if_neg (by simp)];rw[Kg fun x hx=>zo8 n t hn ht x (Qn.1 h.2 x hx)]
 ·simp only[Qb]at h;have:=h.2;unfold Tm.good at this;rw[Qb]at this;exact zo8 n t hn ht a this.2
theorem noneT {a:Tm}(h:a.none=true):a=.mk [] []:=by
 unfold Tm.none at h
 rw[Qb,Kr,Qm,Q7]at h
 cases a with
 | mk n xs=>simp only[Tm.name,Tm.args]at h;rw[h.1,h.2]
theorem zpa {f:Fm}(h:f.here=true)(h3:(f.op==3)=false):f.atom=.mk [] []:=by
 apply noneT
 unfold Fm.here at h
 rw[h3]at h
 simp only[Qp,if_false]at h
 split at h
 ·simp only[Qb]at h;exact h.1.2
 ·split at h
  ·simp only[Qb]at h;exact h.1.2
  ·split at h
   ·simp only[Qb]at h;exact h.1.2
   ·split at h
    ·simp only[Qb]at h;exact h.1.2
    ·cases h
theorem zo3 {f:Fm}{ps:List Fm}(h:f.here=true)(h3:(f.op==3)=false)(hl:ps.length=f.parts.length):(Fm.mk f.op f.atom f.var ps).here=true:=by
 have e:(Fm.mk f.op f.atom f.var ps).here=f.here:=by
  unfold Fm.here;show(if(f.op==1||f.op==2)=true then decide (ps.length=0)&&f.atom.none&&(f.var==[])else if(f.op==3)=true then decide (ps.length=0)&&f.atom.atomOk&&(f.var==[])else if(f.op==4)=true then decide (ps.length=1)&&f.atom.none&&(f.var==[])else if zms f.op=true then decide (ps.length=2)&&f.atom.none&&(f.var==[])else if isQ f.op=true then decide (ps.length=1)&&f.atom.none&&za9 f.var else false)=_
  rw[hl]
 rw[e];exact h
theorem zqj {f:Fm}(h1:f.here=true)(h:isQ f.op=true):za9 f.var=true:=by
 unfold Fm.here at h1
 have h2:(f.op==1||f.op==2)=false/\(f.op==3)=false/\(f.op==4)=false/\zms f.op=false:=by
  have h8:f.op=8\/f.op=9:=by unfold isQ at h;rw[K7,Kr,Kr]at h;exact h
  rcases h8 with e|e<;>rw[e]<;>decide
 rw[h2.1,h2.2.1,h2.2.2.1,h2.2.2.2,h]at h1
 simp only[Qp,if_false,if_true,Qb]at h1
 exact h1.2
theorem zjg (o:Int)(a:Tm)(v:Str)(ps:List Fm):(Fm.mk o a v ps).forms=((Fm.mk o a v ps).here&&ps.all Fm.forms):=Fm.forms_eq _
theorem zy8 (n:Str)(t:Tm)(hn:za9 n=true)(ht:t.names=true):∀f:Fm,f.forms=true->(((zci n t f).2=true/\(zci n t f).1.forms=true)↔((zbs n t f).2=true/\(zbs n t f).1.forms=true))/\((zbs n t f).2=true->(zbs n t f).1.forms=true->(zci n t f).1=(zbs n t f).1):=zcc fun o a v ps ih hf=>by
 have hS:=zfb n t (.mk o a v ps)
 have hP:=zqw n t (.mk o a v ps)
 have hf0:=hf
 rw[Fm.forms_eq,Qb]at hf0
 obtain⟨hh,hps⟩:=hf0
 have hps:∀x∈ps,x.forms=true:=Qn.1 hps
 have ihx:∀x∈ps,_:=fun x hx=>ih x hx (hps x hx)
 cases h3:o==3
 ·have h3':((Fm.mk o a v ps).op==3)=false:=h3;have ha:a=.mk [] []:=zpa hh h3';have hall:(∀x∈ps,(zci n t x).2=true/\(zci n t x).1.forms=true)↔(∀x∈ps,(zbs n t x).2=true/\(zbs n t x).1.forms=true):=forall_congr' fun x=>forall_congr' fun hx=>(ihx x hx).1;have main:((zci n t (.mk o a v ps))=(.mk o a v (ps.map fun x=>(zci n t x).1),ps.all fun x=>(zci n t x).2))->((zbs n t (.mk o a v ps))=(.mk o a v ((ps.takeWhile fun x=>(zbs n t x).2).map fun x=>(zbs n t x).1),ps.all fun x=>(zbs n t x).2))->_:=fun e1 e2=>by
   have l1:((zci n t (.mk o a v ps)).2=true/\(zci n t (.mk o a v ps)).1.forms=true)↔(∀x∈ps,(zci n t x).2=true/\(zci n t x).1.forms=true):=by
    rw[e1];show((ps.all fun x=>(zci n t x).2)=true/\(Fm.mk o a v (ps.map fun x=>(zci n t x).1)).forms=true)↔_
    rw[zjg,Qn,Qb,Qn];have hhe:(Fm.mk o a v (ps.map fun x=>(zci n t x).1)).here=true:=zo3 (f:=.mk o a v ps) hh h3' (by show(ps.map _).length=ps.length;rw[Qa]);constructor
    ·rintro⟨h1,_,h2⟩ x hx;exact⟨h1 x hx,h2 _ (Ki.2 ⟨x,hx,rfl⟩)⟩
    ·intro h;refine⟨fun x hx=>(h x hx).1,hhe,fun y hy=>?_⟩;obtain⟨x,hx,rfl⟩:=Ki.1 hy;exact(h x hx).2
   have l2:((zbs n t (.mk o a v ps)).2=true/\(zbs n t (.mk o a v ps)).1.forms=true)↔(∀x∈ps,(zbs n t x).2=true/\(zbs n t x).1.forms=true):=by
    rw[e2];show((ps.all fun x=>(zbs n t x).2)=true/\(Fm.mk o a v ((ps.takeWhile fun x=>(zbs n t x).2).map fun x=>(zbs n t x).1)).forms=true)↔_
    constructor
    ·rintro⟨h1,h2⟩ x hx;have hw:(ps.takeWhile fun x=>(zbs n t x).2)=ps:=by
      have:=(zda (l:=ps) (p:=fun x=>(zbs n t x).2) (k:=ps.length) (Qz _) (by rw[Kx];exact Qn.1 h1) fun h=>absurd h (Yk _)).1;rw[this,Kx]
     rw[hw,zjg,Qb,Qn]at h2;exact⟨Qn.1 h1 x hx,h2.2 _ (Ki.2 ⟨x,hx,rfl⟩)⟩
    ·intro h;have h1:(ps.all fun x=>(zbs n t x).2)=true:=Qn.2 fun x hx=>(h x hx).1;have hw:(ps.takeWhile fun x=>(zbs n t x).2)=ps:=by
      have:=(zda (l:=ps) (p:=fun x=>(zbs n t x).2) (k:=ps.length) (Qz _) (by rw[Kx];exact Qn.1 h1) fun h=>absurd h (Yk _)).1;rw[this,Kx]
     have hhe:(Fm.mk o a v (ps.map fun x=>(zbs n t x).1)).here=true:=zo3 (f:=.mk o a v ps) hh h3' (by show(ps.map _).length=ps.length;rw[Qa]);rw[hw,zjg,Qb];refine⟨h1,hhe,Qn.2 fun y hy=>?_⟩;obtain⟨x,hx,rfl⟩:=Ki.1 hy;exact(h x hx).2
   refine(⟨l1.trans (hall.trans l2.symm),fun p1 p2=>?_⟩:(((zci n t (.mk o a v ps)).2=true/\(zci n t (.mk o a v ps)).1.forms=true)↔((zbs n t (.mk o a v ps)).2=true/\(zbs n t (.mk o a v ps)).1.forms=true))/\((zbs n t (.mk o a v ps)).2=true->(zbs n t (.mk o a v ps)).1.forms=true->(zci n t (.mk o a v ps)).1=(zbs n t (.mk o a v ps)).1));have hA:=l2.1 ⟨p1,p2⟩;have h1:(ps.all fun x=>(zbs n t x).2)=true:=Qn.2 fun x hx=>(hA x hx).1;have hw:(ps.takeWhile fun x=>(zbs n t x).2)=ps:=by
    have:=(zda (l:=ps) (p:=fun x=>(zbs n t x).2) (k:=ps.length) (Qz _) (by rw[Kx];exact Qn.1 h1) fun h=>absurd h (Yk _)).1;rw[this,Kx]
   rw[e1,e2,hw];show Fm.mk o a v (ps.map fun x=>(zci n t x).1)=Fm.mk o a v (ps.map fun x=>(zbs n t x).1)
   rw[Kg fun x hx=>(ihx x hx).2 (hA x hx).1 (hA x hx).2]
  cases hq:isQ o
  ·refine main ?_ ?_
   ·rw[hS];show(if(isQ o&&_)=true then _ else if(isQ o&&_)=true then _ else (Fm.mk o (if(o==3)=true then zds n t a else a) v _,_))=_
    rw[hq,h3];simp only[Qq,Qp,if_false];rfl
   ·rw[hP];show(if(o==3)=true then _ else if(isQ o&&_)=true then _ else if(isQ o&&_)=true then _ else (Fm.mk o (.mk [] []) v _,_))=_
    rw[hq,h3];simp only[Qq,Qp,if_false];rw[<-ha];rfl
  ·obtain⟨q,hp,hqf⟩:=zzm (f:=.mk o a v ps) hq hf;cases hvn:v==n
   ·have hfp:=zx3 (f:=.mk o a v ps) (n:=n) hq hp hvn;have hvok:za9 v=true:=zqj (f:=.mk o a v ps) hh hq;have hoc:=qbi v hvok t ht;have hc2:(zbb [] (voS t)).contains v=(voS t).contains v:=zdu _ _;have hS2:zci n t (.mk o a v ps)=if(!(zm6 ps).contains n)=true then (.mk o a v ps,true)else if(voS t).contains v=true then (mkF 0 [],false)else (.mk o a v (ps.map fun x=>(zci n t x).1),ps.all fun x=>(zci n t x).2):=by
     rw[hS];show(if(isQ o&&(v==n||!((zbb [] (vf (.mk o a v ps) [])).contains n)))=true then _ else if(isQ o&&decide (0<zgs v t))=true then _ else (Fm.mk o (if(o==3)=true then zds n t a else a) v _,_))=_
     rw[hfp,hq,hvn,h3,hoc];simp only[Qv,Km,Qp,if_false];rfl
    have hP2:zbs n t (.mk o a v ps)=if(!(zm6 ps).contains n)=true then (.mk o a v ps,true)else if(voS t).contains v=true then (.mk o (.mk [] []) v [],false)else (.mk o a v ((ps.takeWhile fun x=>(zbs n t x).2).map fun x=>(zbs n t x).1),ps.all fun x=>(zbs n t x).2):=by
     rw[hP];show(if(o==3)=true then _ else if(isQ o&&(v==n||!((zm6 ps).contains n)))=true then _ else if(isQ o&&(zbb [] (voS t)).contains v)=true then _ else (Fm.mk o (.mk [] []) v _,_))=_
     rw[hq,hvn,h3,hc2];simp only[Qv,Km,Qp,if_false];rw[<-ha];rfl
    cases hfc:(!(zm6 ps).contains n)
    ·rw[hfc]at hS2 hP2;simp only[Qp,if_false]at hS2 hP2;cases hvc:(voS t).contains v
     ·rw[hvc]at hS2 hP2;simp only[Qp,if_false]at hS2 hP2;exact main hS2 hP2
     ·rw[hvc]at hS2 hP2;simp only[if_true]at hS2 hP2;rw[hS2,hP2];exact⟨⟨fun h=>(by cases h.1),fun h=>(by cases h.1)⟩,fun h=>(by cases h)⟩
    ·rw[hfc]at hS2 hP2;simp only[if_true]at hS2 hP2;rw[hS2,hP2];exact⟨Iff.rfl,fun _ _=>rfl⟩
   ·have hS2:zci n t (.mk o a v ps)=(.mk o a v ps,true):=by
     rw[hS];show(if(isQ o&&(v==n||_))=true then _ else _)=_
     rw[hq,hvn];simp only[Qv,J4,if_true]
    have hP2:zbs n t (.mk o a v ps)=(.mk o a v ps,true):=by
     rw[hP];show(if(o==3)=true then _ else if(isQ o&&(v==n||_))=true then _ else _)=_
     rw[hq,hvn,h3];simp only[Qv,J4,if_true,Qp,if_false]
    rw[hS2,hP2];exact⟨Iff.rfl,fun _ _=>rfl⟩
 ·have ho3:o=3:=by simpa using h3
  obtain⟨hat,hp⟩:=zew (f:=.mk o a v ps) hh ho3;have hp:ps=[]:=hp;have hat:a.atomOk=true:=hat;have hq:isQ o=false:=by rw[ho3];decide
  have hS2:zci n t (.mk o a v ps)=(.mk o (zfn (bnd n t) a) v [],true):=by
   rw[hS];show(if(isQ o&&_)=true then _ else if(isQ o&&_)=true then _ else (Fm.mk o (if(o==3)=true then zds n t a else a) v (ps.map _),ps.all _))=_
   rw[hq,h3,hp];simp only[Qq,Qp,if_false,if_true,Qh,Jd];rw[qbd n t hn ht a hat]
  have hP2:zbs n t (.mk o a v ps)=(.mk o (zfn (bnd n t) a) v [],(zfn (bnd n t) a).atomOk):=by
   rw[hP];show(if(o==3)=true then _ else _)=_
   rw[h3];rfl
  rw[hS2,hP2];refine⟨⟨fun h=>⟨?_,h.2⟩,fun h=>⟨rfl,h.2⟩⟩,fun _ _=>rfl⟩;have:=h.2;rw[zjg,Qb]at this;exact(zew (f:=.mk o (zfn (bnd n t) a) v []) this.1 ho3).1
theorem zdy {f:Fm}(h:f.good=true):f.forms=true:=(Qb _ _▸h:_/\_).2
noncomputable def sbF (n:Str)(t:Tm)(f:Fm):Fm×Bool:=if(f.good&&za9 n&&t.good&&(zci n t f).2&&(zci n t f).1.good)=true then ((zci n t f).1,true)else (mkF 0 [],false)
theorem qgw (n:Str)(t:Tm)(hn:za9 n=true)(ht:t.names=true)(f:Fm)(hf:f.forms=true):((zci n t f).2&&(zci n t f).1.good)=((zbs n t f).2&&(zbs n t f).1.good):=by
 obtain⟨h1,h2⟩:=zy8 n t hn ht f hf
 rw[Kq,Qb,Qb]
 unfold Fm.good
 rw[Qb,Qb]
 constructor
 ·rintro⟨a,b,c⟩;obtain⟨p,q⟩:=h1.1 ⟨a,c⟩;exact⟨p,by rw[<-h2 p q];exact b,q⟩
 ·rintro⟨a,b,c⟩;obtain⟨p,q⟩:=h1.2 ⟨a,c⟩;exact⟨p,by rw[h2 a c];exact b,q⟩
theorem zgz (f:Fm)(n:Str)(t:Tm)(hw:f.wt<=1048576)(ht:t.wt<=1048576)(hb:f.wt+(1+f.wt)*t.wt<=1099511627776):FC Tryz.prog 210 [fmD f,sD n,tmD t] [fmD (sbF n t f).1,bD (sbF n t f).2]:=by
 have hv:sbF n t f=if(f.good&&za9 n&&t.good&&(zci n t f).2&&(zci n t f).1.good)=true then ((zci n t f).1,true)else (mkF 0 [],false):=rfl
 have HF:=zcm f Yo
 have HN:=zdn n
 have HT:=zhs t Yo
 cases hg:f.good
 ·rw[hg]at hv HF;simp only[Qq,Qp,if_false]at hv;rw[hv];simp only[fmD,zaa f,tmD,zab t,zih,Qh]at HF⊢;refine zai Tryz.call210 Tryz.func210 rfl Yn (zau Yn) ?_;simp -implicitDefEqProofs only[go_sem,Tryz.results210];refine callF (HF) Ym ?_;simp -implicitDefEqProofs only[go_sem]
 ·cases hn:za9 n
  ·rw[hg,hn]at hv;rw[hg]at HF;rw[hn]at HN;simp only[Qq,Qv,Qp,if_false]at hv;rw[hv];simp only[fmD,zaa f,tmD,zab t,zih,Qh]at HF⊢;refine zai Tryz.call210 Tryz.func210 rfl Yn (zau Yn) ?_;simp -implicitDefEqProofs only[go_sem,Tryz.results210];refine callF (HF) Ym ?_;simp -implicitDefEqProofs only[go_sem];refine callF (HN) Ym ?_;simp -implicitDefEqProofs only[go_sem]
  ·cases htg:t.good
   ·rw[hg,hn,htg]at hv;rw[hg]at HF;rw[hn]at HN;rw[htg]at HT;simp only[Qq,Qv,Qp,if_false]at hv;rw[hv];simp only[fmD,zaa f,tmD,zab t,zih,Qh]at HF HT⊢;refine zai Tryz.call210 Tryz.func210 rfl Yn (zau Yn) ?_;simp -implicitDefEqProofs only[go_sem,Tryz.results210];refine callF (HF) Ym ?_;simp -implicitDefEqProofs only[go_sem];refine callF (HN) Ym ?_;simp -implicitDefEqProofs only[go_sem];refine callF (HT) Ym ?_;simp -implicitDefEqProofs only[go_sem]
   ·rw[hg,hn,htg]at hv;rw[hg]at HF;rw[hn]at HN;rw[htg]at HT;have HS:=znq n t ht f (zdy hg) hw;have hwt:=qjg n t f;generalize (zci n t f).1=R at HS hv hwt;simp only[Qv]at hv;cases hok:(zci n t f).2
    ·rw[hok]at hv HS;simp only[Qq,Qp,if_false]at hv;rw[hv];simp only[fmD,zaa f,tmD,zab t,zaa R,zih,Qh]at HF HT HS⊢;refine zai Tryz.call210 Tryz.func210 rfl Yn (zau Yn) ?_;simp -implicitDefEqProofs only[go_sem,Tryz.results210];refine callF (HF) Ym ?_;simp -implicitDefEqProofs only[go_sem];refine callF (HN) Ym ?_;simp -implicitDefEqProofs only[go_sem];refine callF (HT) Ym ?_;simp -implicitDefEqProofs only[go_sem];refine callF (HS) Ym ?_;simp -implicitDefEqProofs only[go_sem]
    ·rw[hok]at hv HS;have HI:=zrr R Yo;simp only[Qv]at hv;have hv2:sbF n t f=((if R.good=true then R else mkF 0 []),R.good):=by rw[hv];cases R.good<;>rfl
     rw[hv2];generalize (if R.good=true then R else mkF 0 [])=Z at HI⊢;generalize R.good=G at HI⊢;simp only[fmD,zaa f,tmD,zab t,zaa R,zaa Z]at HF HT HS HI⊢;refine zai Tryz.call210 Tryz.func210 rfl Yn (zau Yn) ?_;simp -implicitDefEqProofs only[go_sem,Tryz.results210];refine callF (HF) Ym ?_;simp -implicitDefEqProofs only[go_sem];refine callF (HN) Ym ?_;simp -implicitDefEqProofs only[go_sem];refine callF (HT) Ym ?_;simp -implicitDefEqProofs only[go_sem];refine callF (HS) Ym ?_;simp -implicitDefEqProofs only[go_sem];refine zdo [6] [34] [] (HI) Ym Ym Ym Ym ?_;simp -implicitDefEqProofs only[go_sem]
end
end Go.Proofs.YtpcmmboblbjpfaaGreat
