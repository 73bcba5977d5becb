/-
  The walk over plain data, and contracts of functions of the program and of its laws.
  Conditions: those that each theorem names.
-/
import Derived.Test.YtliiapbmkcbfaaaGreatQE5
namespace Go.Proofs.YtliiapbmkcbfaaaGreat
set_option linter.unusedSimpArgs false
set_option linter.unusedVariables false
set_option linter.unusedSectionVars false
section
set_option maxRecDepth 4000
open Go.RowKit
def voI:Tm->List Str:=Tm.fold fun n xs rs=>if (decide (xs.length = 0) && zlm (n.getD 0 0)) = true then [n] else rs.flatten
theorem zxu (a:Tm):voI a = if (decide (a.args.length = 0) && zlm (a.name.getD 0 0)) = true then [a.name] else (a.args.map voI).flatten:=Tm.fold_eq _ a
def voS:Tm->List Str:=Tm.fold fun n _ rs=>if zay n = true then [n] else rs.flatten
theorem zkp (a:Tm):voS a = if zay a.name = true then [a.name] else (a.args.map voS).flatten:=Tm.fold_eq _ a
def Tm.ne:Tm->Bool:=Tm.fold fun n xs rs=>(!decide (xs.length = 0) || decide (0 < n.length)) && rs.all id
theorem Tm.ne_eq' (a:Tm):a.ne = ((!decide (a.args.length = 0) || decide (0 < a.name.length)) && a.args.all Tm.ne):=by
 unfold Tm.ne
 rw [Tm.fold_eq]
 simp only [J0]
 rfl
def zoe (l:List Str) (s:Str):List Str:=if l.contains s = true then l else l ++ [s]
def zci (l:List Str) (ss:List Str):List Str:=ss.foldl zoe l
theorem qkv (l:List Str) (s:Str):(zoe l s).length <= l.length + 1:=by unfold zoe; split <;> simp
theorem zem:∀ (ss:List Str) (l:List Str),(zci l ss).length <= l.length + ss.length
 | [],l=>by simp [zci]
 | s :: ss,l=>by have:=zem ss (zoe l s); have:=qkv l s; simp only [zci,Jg,Qm] at *; omega
theorem zjk (l a b:List Str):zci l (a ++ b) = zci (zci l a) b:=List.foldl_append ..
theorem qi0 (l:List Str) (s x:Str):x ∈ zoe l s ↔ x = s \/ x ∈ l:=by
 unfold zoe
 split
 ·rename_i h
  have h:s ∈ l:=by simpa using h
  exact ⟨Or.inr,fun k=>k.elim (fun e=>e ▸ h) id⟩
 ·simp [or_comm]
theorem zsr:∀ (ss l:List Str) (x:Str),x ∈ zci l ss ↔ x ∈ ss \/ x ∈ l
 | [],l,x=>by simp [zci]
 | s :: ss,l,x=>by
  show x ∈ zci (zoe l s) ss ↔ _
  rw [zsr ss,qi0]; simp [or_assoc,or_left_comm,or_comm]
theorem qng {l:List Str} (h:l.Nodup) (s:Str):(zoe l s).Nodup:=by
 unfold zoe
 split
 ·exact h
 ·rename_i hn
  have hn:s ∉ l:=by simpa using hn
  exact Q8.2 ⟨h,by simp,fun a ha b hb e=>hn (by rw [Q5.1 hb] at e; exact e ▸ ha)⟩
theorem zxa:∀ (ss:List Str) {l:List Str},l.Nodup->(zci l ss).Nodup
 | [],_,h=>h
 | s :: ss,_,h=>zxa ss (qng h s)
def zba (l:List Str) (ss:List Str):List Str:=ss.foldl zy4 l
theorem zy1 (l:List Str) (s:Str):(zy4 l s).length <= l.length + 1:=by
 unfold zy4
 split
 ·omega
 ·have:l.length = ((l.takeWhile fun x=>Op.bytesLess x s) ++ l.dropWhile fun x=>Op.bytesLess x s).length:=by rw [List.takeWhile_append_dropWhile]
  simp only [Qr,Qm,Qv] at *; omega
theorem zd1:∀ (ss:List Str) (l:List Str),(zba l ss).length <= l.length + ss.length
 | [],l=>by simp [zba]
 | s :: ss,l=>by have:=zd1 ss (zy4 l s); have:=zy1 l s; simp only [zba,Jg,Qm] at *; omega
theorem zio (l a b:List Str):zba l (a ++ b) = zba (zba l a) b:=List.foldl_append ..
theorem zmu:∀ (ss l:List Str) (x:Str),x ∈ zba l ss ↔ x ∈ ss \/ x ∈ l
 | [],l,x=>by simp [zba]
 | s :: ss,l,x=>by
  show x ∈ zba (zy4 l s) ss ↔ _
  rw [zmu ss,qjw]; simp [or_assoc,or_left_comm,or_comm]
theorem zrh:∀ (ss:List Str) {l:List Str},Srt l->Srt (zba l ss)
 | [],_,h=>h
 | s :: ss,_,h=>zrh ss (qio h s)
theorem zpz (ss:List Str):zex (zci [] ss) = zba [] ss :=
 qpq (qgx (zxa ss Km)) (zrh ss List.Pairwise.nil) fun s=>by rw [qfx,zsr,zmu]
theorem qhf (a:Tm) (h:0 < a.name.length):FC Tryz.prog 213 [tmD a] [bD (zlm (a.name.getD 0 0))]:=by
 simp only [tmD,zaa]
 refine zaj Tryz.call213 Tryz.func213 rfl (by kernel_rfl) (zax (by kernel_rfl)) ?_
 simp -implicitDefEqProofs only[go_sem,Tryz.results213]
 have h0:(0:Int) < a.name.length:=by omega
 simp -implicitDefEqProofs only[go_sem,h0,h]
 refine callF (zsf (a.name.getD 0 0)) (by simp -implicitDefEqProofs only[go_sem]) ?_
 simp -implicitDefEqProofs only[go_sem]
theorem zdd {α:Type} (f:α->List Str) (xs:List α) (k:Nat) (h:k < xs.length):((xs.take (k + 1)).map f).flatten = ((xs.take k).map f).flatten ++ f xs[k]:=by
 rw [Qf h,Q0,Jd]; simp
theorem zwh {α:Type} (f:α->List Str):∀ (xs:List α),∀ x ∈ xs,(f x).length <= ((xs.map f).flatten).length
 | [],x,h=>by simp at h
 | a :: xs,x,h=>by
  rcases Qu.1 h with rfl | h
  ·simp
  ·have:=zwh f xs x h; simp at *; omega
theorem zce {α:Type} (f:α->List Str) (xs:List α) (k:Nat) (h:k < xs.length):(((xs.take k).map f).flatten).length + (f xs[k]).length <= ((xs.map f).flatten).length:=by
 have e:xs = xs.take k ++ xs[k] :: xs.drop (k + 1):=by rw [<-Qh h,K7]
 conv=>rhs; rw [e]
 simp only [Q0,Qi,Jd,Q9,Qr]; omega
set_option maxHeartbeats 1000000 in
theorem zzk (a:Tm) (ha:a.ne = true) (H:∀ x ∈ a.args,∀ ys:List Str,ys.length + (voI x).length <= 1073741824->GC Tryz.prog 178 [(true,.one (zca ys)),(false,tmD x)] [.one (zca (zci ys (voI x)))])
  (ys:List Str) (hs:ys.length + (voI a).length <= 1073741824) (hl:a.args.length <= 1099511627776):GC Tryz.prog 178 [(true,.one (zca ys)),(false,tmD a)] [.one (zca (zci ys (voI a)))]:=by
 have hv:=zxu a
 rw [Tm.ne_eq'] at ha
 simp only [tmD,zaa]
 refine zrn Tryz.call178 Tryz.func178 rfl (by kernel_rfl) (by simp only [Qm,Qv,Tryz.ntmps178]; omega) (by simp [zbq,T.isPin]) ?_
 simp -implicitDefEqProofs only[go_sem,Tryz.results178]
 by_cases h0:a.args.length = 0
 ·have hn:0 < a.name.length:=by simp [h0] at ha; omega
  have e0:((a.args.length:Int) == 0) = true:=by simp [h0]
  have hV:=qhf a hn
  simp only [tmD,zaa] at hV
  simp -implicitDefEqProofs only[go_sem,e0]
  refine callF (hV) (by simp -implicitDefEqProofs only[go_sem]) ?_
  simp -implicitDefEqProofs only[go_sem]
  refine ⟨fun h1=>?_,fun h1=>?_⟩
  ·rw [h1,show decide (a.args.length = 0) = true by simpa using h0,Qn,if_pos rfl] at hv
   rw [hv] at hs ⊢
   refine callF (zcf ys a.name) (by simp -implicitDefEqProofs only[go_sem]) ?_
   simp -implicitDefEqProofs only[go_sem]
   have hy:ys.length + 1 <= 4294967296:=by simp at hs; omega
   have hy2:ys.length <= 4294967295:=by simp at hs; omega
   refine ⟨fun h2=>?_,fun h2=>?_⟩
   ·have h2:ys.contains a.name = false:=by simpa using h2
    refine zbx (by simp -implicitDefEqProofs only[go_sem]) ?_
    simp -implicitDefEqProofs only[go_sem]
    refine apD true (by simp -implicitDefEqProofs only[go_sem,hy,hy2,ne_eq,Qb]) ?_
    simp -implicitDefEqProofs only[go_sem,hy,hy2,ne_eq,Qb]
    have e:zci ys [a.name] = ys ++ [a.name]:=by show zoe ys a.name = _; unfold zoe; rw [h2]; simp
    exact Or.inl (by rw [e]; simp)
   ·have h2:ys.contains a.name = true:=by simpa using h2
    have e:zci ys [a.name] = ys:=by show zoe ys a.name = _; unfold zoe; rw [h2]; simp
    exact Or.inl (by rw [e])
  ·rw [h1,Kb,if_neg (by simp),Qx.1 h0,Qy,List.flatten_nil] at hv
   have hv:voI a = (a.args.map voI).flatten:=by rw [hv,Qx.1 h0]; rfl
   rw [hv] at hs ⊢
   refine zae (fun k:Nat=>hd [(0,.one (.ow 0 0)),(27,.one (.rn (tmS a.args))),(28,vI a.args.length),(29,vI k)] [] [(0,⟨true,1,(zci ys ((a.args.take k).map voI).flatten).map fun s=>[.str s],0,true⟩)]) (fun k=>k <= a.args.length) (fun k=>a.args.length - k) 0 (zac ?_) (Ka _) ?_
   ·simp -implicitDefEqProofs only[go_sem]
    rfl
   ·intro k hk
    by_cases hlt:k < a.args.length
    ·have hf:=zce voI a.args k hlt
     have hL:=zem ((a.args.take k).map voI).flatten ys
     have hx:=zwh voI a.args _ (Qe hlt)
     have HC:=H a.args[k] (Qe hlt) (zci ys ((a.args.take k).map voI).flatten) (by omega)
     rw [<-zjk,<-zdd voI a.args k hlt] at HC
     simp only [tmD,zaa a.args[k]] at HC
     simp -implicitDefEqProofs only[go_sem,zad,hlt,zaa a.args[k]]
     refine zc7 [27,28,29] [33,34] [] (HC) (by simp -implicitDefEqProofs only[go_sem]) (by simp -implicitDefEqProofs only[go_sem]) (by simp -implicitDefEqProofs only[go_sem]) (by simp -implicitDefEqProofs only[go_sem]) ?_
     simp -implicitDefEqProofs only[go_sem]
     refine ⟨k + 1,hlt,by omega,zeb 0 1120 ?_⟩
     simp -implicitDefEqProofs only[go_sem]
     rw [zal (by omega)]
    ·simp -implicitDefEqProofs only[go_sem,hlt]
     exact Or.inl (by rw [Qk (by omega)])
 ·have e0:((a.args.length:Int) == 0) = false:=by simp [h0]
  rw [show decide (a.args.length = 0) = false by simpa using h0,Qj,if_neg (by simp)] at hv
  rw [hv] at hs ⊢
  simp -implicitDefEqProofs only[go_sem,e0]
  refine zae (fun k:Nat=>hd [(0,.one (.ow 0 0)),(27,.one (.rn (tmS a.args))),(28,vI a.args.length),(29,vI k)] [] [(0,⟨true,1,(zci ys ((a.args.take k).map voI).flatten).map fun s=>[.str s],0,true⟩)]) (fun k=>k <= a.args.length) (fun k=>a.args.length - k) 0 (zac ?_) (Ka _) ?_
  ·simp -implicitDefEqProofs only[go_sem]
   rfl
  ·intro k hk
   by_cases hlt:k < a.args.length
   ·have hf:=zce voI a.args k hlt
    have hL:=zem ((a.args.take k).map voI).flatten ys
    have hx:=zwh voI a.args _ (Qe hlt)
    have HC:=H a.args[k] (Qe hlt) (zci ys ((a.args.take k).map voI).flatten) (by omega)
    rw [<-zjk,<-zdd voI a.args k hlt] at HC
    simp only [tmD,zaa a.args[k]] at HC
    simp -implicitDefEqProofs only[go_sem,zad,hlt,zaa a.args[k]]
    refine zc7 [27,28,29] [33,34] [] (HC) (by simp -implicitDefEqProofs only[go_sem]) (by simp -implicitDefEqProofs only[go_sem]) (by simp -implicitDefEqProofs only[go_sem]) (by simp -implicitDefEqProofs only[go_sem]) ?_
    simp -implicitDefEqProofs only[go_sem]
    refine ⟨k + 1,hlt,by omega,zeb 0 1120 ?_⟩
    simp -implicitDefEqProofs only[go_sem]
    rw [zal (by omega)]
   ·simp -implicitDefEqProofs only[go_sem,hlt]
    exact Or.inl (by rw [Qk (by omega)])
theorem ztm:∀ a:Tm,a.ne = true->a.wt <= 1099511627776->∀ ys:List Str,ys.length + (voI a).length <= 1073741824->GC Tryz.prog 178 [(true,.one (zca ys)),(false,tmD a)] [.one (zca (zci ys (voI a)))] :=
 zbf fun n xs ih ha hw ys hs=>zzk (.mk n xs) ha (fun x hx ys hs=>ih x hx (by rw [Tm.ne_eq',Qa] at ha; exact Ql.1 ha.2 x hx) (by
  have:=Tm.wt_eq (.mk n xs)
  have:=zbo Tm.wt xs x hx
  simp only [Tm.args] at *; omega) ys hs) ys hs (by have:=Tm.wt_eq (.mk n xs); omega)
theorem zvu (a:Tm) (ha:a.ne = true) (hw:a.wt <= 1099511627776) (hs:(voI a).length <= 1073741824):FC Tryz.prog 204 [tmD a] [.one (zca (zba [] (voI a)))]:=by
 have HC:=ztm a ha hw [] (by simpa using hs)
 have HS:=zmk (zci [] (voI a)) (by have:=zem (voI a) []; simp at this; omega)
 rw [zpz] at HS
 simp only [tmD,zaa] at HC ⊢
 refine zcq Tryz.call204 Tryz.func204 rfl (by kernel_rfl) (zax (by kernel_rfl)) ?_
 simp -implicitDefEqProofs only[go_sem,Tryz.results204]
 refine zbx (by simp -implicitDefEqProofs only[go_sem]) ?_
 simp -implicitDefEqProofs only[go_sem]
 refine zc7 [] [4,5] [] (HC) (by simp -implicitDefEqProofs only[go_sem]) (by simp -implicitDefEqProofs only[go_sem]) (by simp -implicitDefEqProofs only[go_sem]) (by simp -implicitDefEqProofs only[go_sem]) ?_
 simp -implicitDefEqProofs only[go_sem]
 refine qcv (HS) (by simp -implicitDefEqProofs only[go_sem,za4]) (by simp -implicitDefEqProofs only[go_sem,za4]) rfl ?_
 simp -implicitDefEqProofs only[go_sem,za4]
theorem qcy (a:Tm) (H:∀ x ∈ a.args,∀ ys:List Str,ys.length + (voS x).length <= 1073741824->GC Tryz.prog 150 [(true,.one (zca ys)),(false,tmD x)] [.one (zca (zba ys (voS x)))])
  (ys:List Str) (hs:ys.length + (voS a).length <= 1073741824) (hl:a.args.length <= 1099511627776):GC Tryz.prog 150 [(true,.one (zca ys)),(false,tmD a)] [.one (zca (zba ys (voS a)))]:=by
 have hv:=zkp a
 simp only [tmD,zaa]
 refine zrn Tryz.call150 Tryz.func150 rfl (by kernel_rfl) (by simp only [Qm,Qv,Tryz.ntmps150]; omega) (by simp [zbq,T.isPin]) ?_
 simp -implicitDefEqProofs only[go_sem,Tryz.results150]
 refine callF (zjx a.name) (by simp -implicitDefEqProofs only[go_sem]) ?_
 simp -implicitDefEqProofs only[go_sem]
 refine ⟨fun h=>?_,fun h=>?_⟩
 ·rw [if_pos h] at hv
  rw [hv] at hs ⊢
  refine zc7 [] [9,11] [] (qb1 ys a.name (by simp at hs; omega)) (by simp -implicitDefEqProofs only[go_sem]) (by simp -implicitDefEqProofs only[go_sem]) (by simp -implicitDefEqProofs only[go_sem]) (by simp -implicitDefEqProofs only[go_sem]) ?_
  simp -implicitDefEqProofs only[go_sem]
  exact Or.inl rfl
 ·rw [h,if_neg (by simp)] at hv
  rw [hv] at hs ⊢
  refine zae (fun k:Nat=>hd [(0,.one (.ow 0 0)),(3,.one (.bx 3 0)),(5,vI k)] [(3,[.t (.str a.name),.rn (tmS a.args)])] [(0,⟨true,1,(zba ys ((a.args.take k).map voS).flatten).map fun s=>[.str s],0,true⟩)]) (fun k=>k <= a.args.length) (fun k=>a.args.length - k) 0 (zac ?_) (Ka _) ?_
  ·simp -implicitDefEqProofs only[go_sem]
   rfl
  ·intro k hk
   by_cases hlt:k < a.args.length
   ·have hf:=zce voS a.args k hlt
    have hL:=zd1 ((a.args.take k).map voS).flatten ys
    have HC:=H a.args[k] (Qe hlt) (zba ys ((a.args.take k).map voS).flatten) (by omega)
    rw [<-zio,<-zdd voS a.args k hlt] at HC
    simp only [tmD,zaa a.args[k]] at HC
    simp -implicitDefEqProofs only[go_sem,zad,hlt,zaa a.args[k]]
    refine zc7 [3,5] [20,25] [] (HC) (by simp -implicitDefEqProofs only[go_sem]) (by simp -implicitDefEqProofs only[go_sem]) (by simp -implicitDefEqProofs only[go_sem]) (by simp -implicitDefEqProofs only[go_sem]) ?_
    simp -implicitDefEqProofs only[go_sem]
    refine ⟨k + 1,hlt,by omega,zeb 0 832 ?_⟩
    simp -implicitDefEqProofs only[go_sem]
    rw [zal (by omega)]
   ·simp -implicitDefEqProofs only[go_sem,hlt]
    exact Or.inl (by rw [Qk (by omega)])
end
section
set_option maxRecDepth 4000
open Go.RowKit
def Fm.nodes:Fm->Nat:=Fm.fold fun _ _ _ _ rs=>1 + rs.sum
theorem Fm.nodes_eq (a:Fm):a.nodes = 1 + (a.parts.map Fm.nodes).sum:=Fm.fold_eq _ a
theorem zd2:∀ a:Fm,a.nodes <= 1 + a.wt:=by
 refine za8 fun o a v xs ih=>?_
 rw [Fm.nodes_eq,Fm.wt_eq]
 show 1 + (xs.map Fm.nodes).sum <= 1 + (a.wt + v.length + xs.length + (xs.map Fm.wt).sum)
 have:(xs.map Fm.nodes).sum <= xs.length + (xs.map Fm.wt).sum:=by
  induction xs with
  | nil=>simp
  | cons x xs ih2 =>
   have h1:=ih x (by simp)
   have h2:=ih2 fun y hy=>ih y (by simp [hy])
   simp only [Qi,Q3,Qm]
   omega
 omega
def zgq:Fm->Int:=Fm.fold fun _ _ _ _ rs=>szL 40 1 rs
theorem zw2 (a:Fm):zgq a = szL 40 1 (a.parts.map zgq):=Fm.fold_eq _ a
theorem zom:∀ a:Fm,1 <= zgq a /\ zgq a <= a.nodes /\ (zgq a <= 40->zgq a = a.nodes):=by
 refine za8 fun o a v xs ih=>?_
 rw [zw2,Fm.nodes_eq]
 show 1 <= szL 40 1 (xs.map zgq) /\ szL 40 1 (xs.map zgq) <= ((1 + (xs.map Fm.nodes).sum:Nat):Int) /\ _
 obtain ⟨k1,k2,k3⟩:=zk5 zgq Fm.nodes 40 xs 1 (by omega) ih
 refine ⟨k2,by omega,fun h=>?_⟩
 have:=k3 h
 show szL 40 1 (xs.map zgq) = _
 rw [this]; show _ = ((1 + (xs.map Fm.nodes).sum:Nat):Int); omega
theorem qlf (a:Fm):decide (zgq a <= 40) = decide (a.nodes <= 40):=by
 obtain ⟨h1,h2,h3⟩:=zom a
 rw [Ju]
 exact ⟨fun h=>by have:=h3 h; omega,fun h=>by omega⟩
theorem zbt {a x:Fm} (h:x ∈ a.parts):x.wt <= a.wt:=by
 have:=Fm.wt_eq a
 have:=zbo Fm.wt a.parts x h
 omega
theorem zoy {a x:Tm} (h:x ∈ a.args):x.wt <= a.wt:=by
 have:=Tm.wt_eq a
 have:=zbo Tm.wt a.args x h
 omega
theorem zj5 (a:Fm):a.atom.wt <= a.wt:=by have:=Fm.wt_eq a; omega
set_option maxHeartbeats 400000 in
theorem qg0 (a:Fm) (hs:a.wt <= 1099511627776) (H:∀ x ∈ a.parts,FC Tryz.prog 151 [fmD x] [iD (zgq x)]):FC Tryz.prog 151 [fmD a] [iD (zgq a)]:=by
 have hl:a.parts.length <= 9223372036854775807:=by rw [Fm.wt_eq] at hs; omega
 have hn:=zd2 a
 have hN:=a.nodes_eq
 simp only [fmD,zab]
 refine zaj Tryz.call151 Tryz.func151 rfl (by kernel_rfl) (zax (by kernel_rfl)) ?_
 simp -implicitDefEqProofs only[go_sem,Tryz.results151]
 refine zae (fun p:Nat × Int=>hd [(3,vI p.2),(7,vT (fmS a.parts)),(8,vI a.parts.length),(9,vI p.1)] [] []) (fun p=>p.1 <= a.parts.length /\ zgq a = szL 40 p.2 ((a.parts.drop p.1).map zgq) /\ 1 <= p.2 /\ p.2 + qa4 Fm.nodes a.parts p.1 <= a.nodes) (fun p=>a.parts.length - p.1) (0,1) (zac ?_) ?_ ?_
 ·simp -implicitDefEqProofs only[go_sem]
 ·exact ⟨by simp,by rw [zw2]; rfl,by omega,by rw [zd0]; omega⟩
 ·intro ⟨k,n⟩ ⟨hk,hr,h1,h2⟩
  simp only at hk hr h1 h2
  by_cases hlt:k < a.parts.length
  ·have hd:=zg1 Fm.nodes a.parts k hlt
   obtain ⟨s1,s2,s3⟩:=zom a.parts[k]
   rw [Qh hlt,Qi,szL] at hr
   simp -implicitDefEqProofs only[go_sem,zad,hlt,zab]
   refine ⟨fun h=>?_,fun h=>?_⟩
   ·rw [hr,if_pos (by simpa using h)]
   ·refine callF (H a.parts[k] (Qe hlt)) (by simp -implicitDefEqProofs only[go_sem,zab]) ?_
    simp -implicitDefEqProofs only[go_sem,zab]
    rw [if_neg (by simpa using h)] at hr
    exact ⟨(k + 1,n + zgq a.parts[k]),⟨hlt,hr,by simp only; omega,by simp only; omega⟩,by simp only; omega,zac (by simp -implicitDefEqProofs only[go_sem]; rw [zal (by omega),zb2 (by omega) (by omega)]; exact ⟨rfl,rfl⟩)⟩
  ·simp -implicitDefEqProofs only[go_sem,hlt]
   rw [hr,Qs (by omega)]; rfl
theorem qjy:∀ a:Fm,a.wt <= 1099511627776->FC Tryz.prog 151 [fmD a] [iD (zgq a)] :=
 za8 fun o a v xs ih hs=>qg0 (.mk o a v xs) hs fun x hx=>ih x hx (Kg (zbt (a:=.mk o a v xs) hx) hs)
def mnL (most:Int):Int->List (Int->Int)->Int
 | n,[]=>n
 | n,r :: rs=>if n <= most then mnL most (n + r (most - n)) rs else n
theorem zle {α:Type} (f:α->Int->Int) (g:α->Nat) (most:Int):∀ (xs:List α) (n:Int),0 <= n->(∀ x ∈ xs,∀ m,0 <= m->1 <= f x m /\ f x m <= g x /\ (f x m <= m->f x m = g x))->mnL most n (xs.map f) <= n + (xs.map g).sum /\ n <= mnL most n (xs.map f) /\ (mnL most n (xs.map f) <= most->mnL most n (xs.map f) = n + (xs.map g).sum)
 | [],n,_,_=>by simp [mnL]
 | x :: xs,n,hn,h=>by
  simp only [Qi,mnL,Q3]
  split
  ·obtain ⟨h1,h2,h3⟩:=h x (by simp) (most - n) (by omega)
   obtain ⟨k1,k2,k3⟩:=zle f g most xs (n + f x (most - n)) (by omega) fun y hy=>h y (by simp [hy])
   refine ⟨by omega,by omega,fun hh=>?_⟩
   have:=k3 hh
   have:f x (most - n) = g x:=h3 (by omega)
   omega
  ·refine ⟨by omega,by omega,fun hh=>by omega⟩
def zf6:Tm->Int->Int:=Tm.fold fun _ _ rs m=>mnL m 1 rs
theorem zx3 (a:Tm) (m:Int):zf6 a m = mnL m 1 (a.args.map zf6):=congrFun (Tm.fold_eq _ a) m
theorem znx:∀ (a:Tm) (m:Int),0 <= m->1 <= zf6 a m /\ zf6 a m <= a.nodes /\ (zf6 a m <= m->zf6 a m = a.nodes):=by
 refine zbf fun b0 xs ih m hm=>?_
 rw [zx3,Tm.nodes_eq]
 show 1 <= mnL m 1 (xs.map zf6) /\ mnL m 1 (xs.map zf6) <= ((1 + (xs.map Tm.nodes).sum:Nat):Int) /\ (mnL m 1 (xs.map zf6) <= m->mnL m 1 (xs.map zf6) = ((1 + (xs.map Tm.nodes).sum:Nat):Int))
 obtain ⟨k1,k2,k3⟩:=zle zf6 Tm.nodes m xs 1 (by omega) ih
 refine ⟨k2,by omega,fun h=>?_⟩
 have:=k3 h
 omega
theorem qip (a:Tm) (m:Nat):decide (zf6 a m <= m) = decide (a.nodes <= m):=by
 obtain ⟨h1,h2,h3⟩:=znx a m (by omega)
 rw [Ju]
 exact ⟨fun h=>by have:=h3 h; omega,fun h=>by omega⟩
set_option maxHeartbeats 400000 in
theorem qg6 (a:Tm) (hs:a.wt <= 1099511627776) (H:∀ x ∈ a.args,∀ m:Int,0 <= m->m <= 1099511627776->FC Tryz.prog 262 [tmD x,iD m] [iD (zf6 x m)]) (m:Int) (h0:0 <= m) (h1:m <= 1099511627776):FC Tryz.prog 262 [tmD a,iD m] [iD (zf6 a m)]:=by
 have hl:a.args.length <= 9223372036854775807:=by rw [Tm.wt_eq] at hs; omega
 have hn:=zey a
 have hN:=a.nodes_eq
 simp only [tmD,zaa]
 refine zaj Tryz.call262 Tryz.func262 rfl (by kernel_rfl) (zax (by kernel_rfl)) ?_
 simp -implicitDefEqProofs only[go_sem,Tryz.results262]
 refine zae (fun p:Nat × Int=>hd [(1,vI m),(2,.one (.bx 2 0)),(5,vI p.2),(6,vI p.1)] [(2,[.t (.str a.name),.t (tmS a.args)])] []) (fun p=>p.1 <= a.args.length /\ zf6 a m = mnL m p.2 ((a.args.drop p.1).map zf6) /\ 1 <= p.2 /\ p.2 + qa4 Tm.nodes a.args p.1 <= a.nodes) (fun p=>a.args.length - p.1) (0,1) (zac ?_) ?_ ?_
 ·simp -implicitDefEqProofs only[go_sem]
 ·exact ⟨by simp,by rw [zx3]; rfl,by omega,by rw [zd0]; omega⟩
 ·intro ⟨k,n⟩ ⟨hk,hr,h2,h3⟩
  simp only at hk hr h2 h3
  by_cases hlt:k < a.args.length
  ·have hd:=zg1 Tm.nodes a.args k hlt
   rw [Qh hlt,Qi,mnL] at hr
   simp -implicitDefEqProofs only[go_sem,zad,hlt,zaa]
   refine ⟨fun h=>?_,fun h=>?_⟩
   ·have hle:n <= m:=by simpa using h
    obtain ⟨s1,s2,s3⟩:=znx a.args[k] (m - n) (by omega)
    rw [zb2 (n:=m - n) (by omega) (by omega)]
    refine callF (H a.args[k] (Qe hlt) (m - n) (by omega) (by omega)) (by simp -implicitDefEqProofs only[go_sem,zaa]) ?_
    simp -implicitDefEqProofs only[go_sem,zaa]
    rw [if_pos hle] at hr
    exact ⟨(k + 1,n + zf6 a.args[k] (m - n)),⟨hlt,hr,by simp only; omega,by simp only; omega⟩,by simp only; omega,zac (by simp -implicitDefEqProofs only[go_sem]; rw [zal (by omega),zb2 (by omega) (by omega)]; exact ⟨rfl,rfl⟩)⟩
   ·rw [hr,if_neg (by simpa using h)]
  ·simp -implicitDefEqProofs only[go_sem,hlt]
   rw [hr,Qs (by omega)]; rfl
theorem qi6:∀ a:Tm,a.wt <= 1099511627776->∀ m:Int,0 <= m->m <= 1099511627776->FC Tryz.prog 262 [tmD a,iD m] [iD (zf6 a m)] :=
 zbf fun b0 xs ih hs=>qg6 (.mk b0 xs) hs fun x hx=>ih x hx (Kg (zoy (a:=.mk b0 xs) hx) hs)
def zfy:Fm->Int->Int:=Fm.fold fun _ _ _ _ rs m=>mnL m 1 rs
theorem zw6 (a:Fm) (m:Int):zfy a m = mnL m 1 (a.parts.map zfy):=congrFun (Fm.fold_eq _ a) m
theorem zoo:∀ (a:Fm) (m:Int),0 <= m->1 <= zfy a m /\ zfy a m <= a.nodes /\ (zfy a m <= m->zfy a m = a.nodes):=by
 refine za8 fun b0 b1 b2 xs ih m hm=>?_
 rw [zw6,Fm.nodes_eq]
 show 1 <= mnL m 1 (xs.map zfy) /\ mnL m 1 (xs.map zfy) <= ((1 + (xs.map Fm.nodes).sum:Nat):Int) /\ (mnL m 1 (xs.map zfy) <= m->mnL m 1 (xs.map zfy) = ((1 + (xs.map Fm.nodes).sum:Nat):Int))
 obtain ⟨k1,k2,k3⟩:=zle zfy Fm.nodes m xs 1 (by omega) ih
 refine ⟨k2,by omega,fun h=>?_⟩
 have:=k3 h
 omega
theorem qj9 (a:Fm) (m:Nat):decide (zfy a m <= m) = decide (a.nodes <= m):=by
 obtain ⟨h1,h2,h3⟩:=zoo a m (by omega)
 rw [Ju]
 exact ⟨fun h=>by have:=h3 h; omega,fun h=>by omega⟩
set_option maxHeartbeats 400000 in
theorem qfp (a:Fm) (hs:a.wt <= 1099511627776) (H:∀ x ∈ a.parts,∀ m:Int,0 <= m->m <= 1099511627776->FC Tryz.prog 172 [fmD x,iD m] [iD (zfy x m)]) (m:Int) (h0:0 <= m) (h1:m <= 1099511627776):FC Tryz.prog 172 [fmD a,iD m] [iD (zfy a m)]:=by
 have hl:a.parts.length <= 9223372036854775807:=by rw [Fm.wt_eq] at hs; omega
 have hn:=zd2 a
 have hN:=a.nodes_eq
 simp only [fmD,zab]
 refine zaj Tryz.call172 Tryz.func172 rfl (by kernel_rfl) (zax (by kernel_rfl)) ?_
 simp -implicitDefEqProofs only[go_sem,Tryz.results172]
 refine zae (fun p:Nat × Int=>hd [(1,vI m),(2,.one (.bx 2 0)),(5,vI p.2),(6,vI p.1)] [(2,[.t (.int .i64 a.op),.t (.str a.atom.name),.t (tmS a.atom.args),.t (.str a.var),.t (fmS a.parts)])] []) (fun p=>p.1 <= a.parts.length /\ zfy a m = mnL m p.2 ((a.parts.drop p.1).map zfy) /\ 1 <= p.2 /\ p.2 + qa4 Fm.nodes a.parts p.1 <= a.nodes) (fun p=>a.parts.length - p.1) (0,1) (zac ?_) ?_ ?_
 ·simp -implicitDefEqProofs only[go_sem]
 ·exact ⟨by simp,by rw [zw6]; rfl,by omega,by rw [zd0]; omega⟩
 ·intro ⟨k,n⟩ ⟨hk,hr,h2,h3⟩
  simp only at hk hr h2 h3
  by_cases hlt:k < a.parts.length
  ·have hd:=zg1 Fm.nodes a.parts k hlt
   rw [Qh hlt,Qi,mnL] at hr
   simp -implicitDefEqProofs only[go_sem,zad,hlt,zab]
   refine ⟨fun h=>?_,fun h=>?_⟩
   ·have hle:n <= m:=by simpa using h
    obtain ⟨s1,s2,s3⟩:=zoo a.parts[k] (m - n) (by omega)
    rw [zb2 (n:=m - n) (by omega) (by omega)]
    refine callF (H a.parts[k] (Qe hlt) (m - n) (by omega) (by omega)) (by simp -implicitDefEqProofs only[go_sem,zab]) ?_
    simp -implicitDefEqProofs only[go_sem,zab]
    rw [if_pos hle] at hr
    exact ⟨(k + 1,n + zfy a.parts[k] (m - n)),⟨hlt,hr,by simp only; omega,by simp only; omega⟩,by simp only; omega,zac (by simp -implicitDefEqProofs only[go_sem]; rw [zal (by omega),zb2 (by omega) (by omega)]; exact ⟨rfl,rfl⟩)⟩
   ·rw [hr,if_neg (by simpa using h)]
  ·simp -implicitDefEqProofs only[go_sem,hlt]
   rw [hr,Qs (by omega)]; rfl
theorem qko:∀ a:Fm,a.wt <= 1099511627776->∀ m:Int,0 <= m->m <= 1099511627776->FC Tryz.prog 172 [fmD a,iD m] [iD (zfy a m)] :=
 za8 fun b0 b1 b2 xs ih hs=>qfp (.mk b0 b1 b2 xs) hs fun x hx=>ih x hx (Kg (zbt (a:=.mk b0 b1 b2 xs) hx) hs)
end
section
set_option maxRecDepth 4000
open Go.RowKit
set_option maxHeartbeats 400000 in
theorem qa5 (a:Tm) (hs:a.wt <= 1099511627776) (H:∀ x ∈ a.args,FC Tryz.prog 263 [tmD x] [iD x.depth]):FC Tryz.prog 263 [tmD a] [iD a.depth]:=by
 have hl:a.args.length <= 9223372036854775807:=by rw [Tm.wt_eq] at hs; omega
 have hn:=zey a
 have hdn:=zm6 a
 have hD:=a.depth_eq
 simp only [tmD,zaa]
 refine zaj Tryz.call263 Tryz.func263 rfl (by kernel_rfl) (zax (by kernel_rfl)) ?_
 simp -implicitDefEqProofs only[go_sem,Tryz.results263]
 refine zae (fun p:Nat × Nat=>hd [(1,.one (.bx 1 0)),(3,vI p.2),(4,vI p.1)] [(1,[.t (.str a.name),.t (tmS a.args)])] []) (fun p=>p.1 <= a.args.length /\ a.depth = ((a.args.drop p.1).map Tm.depth).foldl max p.2 + 1) (fun p=>a.args.length - p.1) (0,0) (zac ?_) ?_ ?_
 ·simp -implicitDefEqProofs only[go_sem]
 ·exact ⟨by simp,hD⟩
 ·intro ⟨k,n⟩ ⟨hk,hr⟩
  simp only at hk hr
  by_cases hlt:k < a.args.length
  ·rw [Qh hlt,Qi,Jg] at hr
   simp -implicitDefEqProofs only[go_sem,zad,hlt,zaa]
   refine callF (H a.args[k] (Qe hlt)) (by simp -implicitDefEqProofs only[go_sem,zaa]) ?_
   simp -implicitDefEqProofs only[go_sem,zaa]
   refine callF (qiy n a.args[k].depth) (by simp -implicitDefEqProofs only[go_sem,zaa]) ?_
   simp -implicitDefEqProofs only[go_sem,zaa]
   exact ⟨(k + 1,max n a.args[k].depth),⟨hlt,hr⟩,by simp only; omega,zac (by simp -implicitDefEqProofs only[go_sem]; rw [zal (by omega)]; exact ⟨by congr 1; omega,rfl⟩)⟩
  ·simp -implicitDefEqProofs only[go_sem,hlt]
   rw [Qs (by omega)] at hr
   simp only [Qy,List.foldl_nil] at hr
   rw [hr,zal (by omega)]
theorem qhh:∀ a:Tm,a.wt <= 1099511627776->FC Tryz.prog 263 [tmD a] [iD a.depth] :=
 zbf fun n xs ih hs=>qa5 (.mk n xs) hs fun x hx=>ih x hx (Kg (zoy (a:=.mk n xs) hx) hs)
theorem zwx (a:Tm) (hs:a.wt <= 1099511627776):FC Tryz.prog 218 [tmD a] [bD (zdc a)]:=by
 simp only [tmD,zaa]
 refine zaj Tryz.call218 Tryz.func218 rfl (by kernel_rfl) (zax (by kernel_rfl)) ?_
 simp -implicitDefEqProofs only[go_sem,Tryz.results218]
 refine callF (qi6 a hs 30 (by omega) (by omega)) (by simp -implicitDefEqProofs only[go_sem,zaa]) ?_
 simp -implicitDefEqProofs only[go_sem,zaa]
 rw [show decide (zf6 a 30 <= 30) = decide (a.nodes <= 30) from qip a 30]
 refine ⟨fun h=>?_,fun h=>?_⟩
 ·refine callF (qhh a hs) (by simp -implicitDefEqProofs only[go_sem,zaa]) ?_
  simp -implicitDefEqProofs only[go_sem,zaa]
  rw [zdc,h,Qn]
  congr 1
  rw [Ju]; omega
 ·rw [zdc,h]; rfl
theorem qas (a:Tm) (H:∀ x ∈ a.args,FC Tryz.prog 219 [tmD x] [bD x.names]):FC Tryz.prog 219 [tmD a] [bD a.names]:=by
 refine zdi (fun hw=>?_) Tryz.call219
 have hl:a.args.length <= 9223372036854775807:=by simp only [tmD,zaa] at hw; simp [zgg,wfT,zt5] at hw; exact hw.2.1
 have hN:=a.names_eq
 simp only [tmD,zaa]
 refine zaj Tryz.call219 Tryz.func219 rfl (by kernel_rfl) (zax (by kernel_rfl)) ?_
 simp -implicitDefEqProofs only[go_sem,Tryz.results219]
 refine callF (zjx a.name) (by simp -implicitDefEqProofs only[go_sem]) ?_
 simp -implicitDefEqProofs only[go_sem]
 refine ⟨fun h=>?_,fun h=>?_⟩
 ·rw [hN,if_pos h]
  congr 1
  rw [Kk]; simp
 ·rw [h] at hN
  simp only [Qo,if_false] at hN
  refine callF (zn2 a.name) (by simp -implicitDefEqProofs only[go_sem]) ?_
  simp -implicitDefEqProofs only[go_sem]
  by_cases hy:zc4 a.name = true
  ·by_cases h4:a.args.length <= 4
   ·rw [hy,show decide (a.args.length <= 4) = true by simpa using h4,Qn,Qn] at hN
    refine ⟨fun _=>⟨fun h=>by simp at h; omega,fun _=>?_⟩,fun h=>by simp [hy] at h⟩
    refine zae (fun k:Nat=>hd [(1,.one (.bx 1 0)),(3,vI k)] [(1,[.t (.str a.name),.t (tmS a.args)])] []) (fun k=>k <= a.args.length /\ a.names = (a.args.drop k).all Tm.names) (fun k=>a.args.length - k) 0 (zac ?_) ?_ ?_
    ·simp -implicitDefEqProofs only[go_sem]
    ·exact ⟨by simp,hN⟩
    ·intro k ⟨hk,hr⟩
     by_cases hlt:k < a.args.length
     ·rw [Qh hlt,Ks] at hr
      simp -implicitDefEqProofs only[go_sem,zad,hlt,zaa]
      refine callF (H a.args[k] (Qe hlt)) (by simp -implicitDefEqProofs only[go_sem,zaa]) ?_
      simp -implicitDefEqProofs only[go_sem,zaa]
      refine ⟨fun h=>?_,fun h=>⟨k + 1,⟨hlt,?_⟩,by omega,zac (by simp -implicitDefEqProofs only[go_sem]; rw [zal (by omega)])⟩⟩
      ·rw [hr,show a.args[k].names = false by simpa using h]; rfl
      ·rw [hr,show a.args[k].names = true by simpa using h]; rfl
     ·simp -implicitDefEqProofs only[go_sem,hlt]
      rw [hr,Qs (by omega)]; rfl
   ·refine ⟨fun _=>⟨fun _=>?_,fun h=>by simp at h; omega⟩,fun h=>by simp [hy] at h⟩
    rw [hN,show decide (a.args.length <= 4) = false by simpa using h4,Kb]; rfl
  ·have hy':zc4 a.name = false:=by simpa using hy
   refine ⟨fun h=>by simp [hy'] at h,fun _=>?_⟩
   rw [hN,hy']; rfl
theorem zlk:∀ a:Tm,FC Tryz.prog 219 [tmD a] [bD a.names]:=zbf fun n xs ih=>qas (.mk n xs) ih
theorem zk6 (a:Tm) (hs:a.wt <= 1099511627776):FC Tryz.prog 166 [tmD a] [bD a.good]:=by
 simp only [tmD,zaa]
 refine zaj Tryz.call166 Tryz.func166 rfl (by kernel_rfl) (zax (by kernel_rfl)) ?_
 simp -implicitDefEqProofs only[go_sem,Tryz.results166]
 refine callF (zwx a hs) (by simp -implicitDefEqProofs only[go_sem,zaa]) ?_
 simp -implicitDefEqProofs only[go_sem,zaa]
 refine ⟨fun h=>?_,fun h=>?_⟩
 ·refine callF (zlk a) (by simp -implicitDefEqProofs only[go_sem,zaa]) ?_
  simp -implicitDefEqProofs only[go_sem,zaa]
  rw [Tm.good,h,Qn]
 ·rw [Tm.good,h,Qj]
theorem zx5 (a:Tm) (hs:a.wt <= 1099511627776):FC Tryz.prog 170 [tmD a] [bD a.atomOk]:=by
 have hN:a.atomOk = if (a.name == [61]) = true then decide (a.args.length = 2) && zdc a && a.args.all Tm.names else zc4 a.name && a.good:=rfl
 simp only [tmD,zaa]
 refine zaj Tryz.call170 Tryz.func170 rfl (by kernel_rfl) (zax (by kernel_rfl)) ?_
 simp -implicitDefEqProofs only[go_sem,Tryz.results170]
 refine ⟨fun h=>?_,fun h=>?_⟩
 ·rw [if_pos h] at hN
  by_cases h2:a.args.length = 2
  ·have k0:0 < a.args.length:=by omega
   have k1:1 < a.args.length:=by omega
   have e2:((a.args.length:Int) == 2) = true:=by simp [h2]
   have l0:(0:Int) < a.args.length:=by omega
   have l1:(1:Int) < a.args.length:=by omega
   rw [qfh h2,show decide (a.args.length = 2) = true by simp [h2]] at hN
   simp only [Qn] at hN
   simp only [e2,qfo,zg6,qo2,zfi,and_true]
   refine callF (zwx a hs) (by simp -implicitDefEqProofs only[go_sem,zaa,l0,zad,k0]) ?_
   simp -implicitDefEqProofs only[go_sem,zaa,l0,zad,k0]
   refine ⟨fun h3=>?_,fun h3=>?_⟩
   ·refine callF (zlk a.args[0]) (by simp -implicitDefEqProofs only[go_sem,zaa,l1,zad,k1]) ?_
    simp -implicitDefEqProofs only[go_sem,zaa,l1,zad,k1]
    refine ⟨fun h4=>?_,fun h4=>?_⟩
    ·refine callF (zlk a.args[1]) (by simp -implicitDefEqProofs only[go_sem,zaa]) ?_
     simp -implicitDefEqProofs only[go_sem,zaa]
     rw [hN,h3,h4]; rfl
    ·rw [hN,h3,h4]; rfl
   ·rw [hN,h3]; rfl
  ·have e2:((a.args.length:Int) == 2) = false:=by simp; omega
   simp only [e2,qfo,qpc,zg6,zfi,and_true,true_and,qoo]
   rw [hN,show decide (a.args.length = 2) = false by simpa using h2]; rfl
 ·rw [h] at hN
  simp only [Qo,if_false] at hN
  refine callF (zn2 a.name) (by simp -implicitDefEqProofs only[go_sem]) ?_
  simp -implicitDefEqProofs only[go_sem]
  refine ⟨fun h3=>?_,fun h3=>?_⟩
  ·refine callF (zk6 a hs) (by simp -implicitDefEqProofs only[go_sem,zaa]) ?_
   simp -implicitDefEqProofs only[go_sem,zaa]
   rw [hN,h3,Qn]
  ·rw [hN,h3,Qj]
theorem ze3 (a:Tm):FC Tryz.prog 264 [tmD a] [bD a.none]:=by
 simp only [tmD,zaa]
 refine zaj Tryz.call264 Tryz.func264 rfl (by kernel_rfl) (zax (by kernel_rfl)) ?_
 simp -implicitDefEqProofs only[go_sem,Tryz.results264]
 unfold Tm.none
 refine ⟨fun h=>?_,fun h=>?_⟩
 ·rw [h,Qn]
  congr 1
  rw [Kk]; simp
 ·rw [h]; rfl
def Fm.here (f:Fm):Bool :=
 if (f.op == 1 || f.op == 2) = true then decide (f.parts.length = 0) && f.atom.none && (f.var == [])
 else if (f.op == 3) = true then decide (f.parts.length = 0) && f.atom.atomOk && (f.var == [])
 else if (f.op == 4) = true then decide (f.parts.length = 1) && f.atom.none && (f.var == [])
 else if zm8 f.op = true then decide (f.parts.length = 2) && f.atom.none && (f.var == [])
 else if isQ f.op = true then decide (f.parts.length = 1) && f.atom.none && zay f.var
 else false
theorem zp9 (n m:Nat):((n:Int) == (m:Int)) = decide (n = m):=by
 rw [Kk]; simp only [Ki,Qg]; omega
theorem zum (n m:Nat):((n:Int) != (m:Int)) = !decide (n = m):=by
 rw [bne,zp9]
theorem zwj (o:Int):o = 1 \/ o = 2 \/ o = 3 \/ o = 4 \/ o = 5 \/ o = 6 \/ o = 7 \/ o = 8 \/ o = 9 \/ (o ≠ 1 /\ o ≠ 2 /\ o ≠ 3 /\ o ≠ 4 /\ o ≠ 5 /\ o ≠ 6 /\ o ≠ 7 /\ o ≠ 8 /\ o ≠ 9):=by omega
set_option maxHeartbeats 4000000 in
theorem qjl (f:Fm) (hs:f.wt <= 1099511627776):FC Tryz.prog 222 [fmD f] [bD f.here]:=by
 obtain ⟨o,a,v,ps⟩:=f
 have ha:a.wt <= 1099511627776:=Kg (zj5 (.mk o a v ps)) hs
 have e0:((ps.length:Int) == 0) = decide (ps.length = 0):=zp9 _ 0
 have e1:((ps.length:Int) == 1) = decide (ps.length = 1):=zp9 _ 1
 have e2:((ps.length:Int) == 2) = decide (ps.length = 2):=zp9 _ 2
 rcases zwj o with rfl | rfl | rfl | rfl | rfl | rfl | rfl | rfl | rfl | ⟨n1,n2,n3,n4,n5,n6,n7,n8,n9⟩
 ·have hN:Fm.here (.mk 1 a v ps) = (decide (ps.length = 0) && a.none && (v == [])):=rfl
  simp only [fmD,zab,Fm.op,Fm.atom,Fm.var,Fm.parts]
  refine zaj Tryz.call222 Tryz.func222 rfl (by kernel_rfl) (zax (by kernel_rfl)) ?_
  simp -implicitDefEqProofs only[go_sem,Tryz.results222]
  simp only [e0]
  refine ⟨fun h=>?_,fun h=>?_⟩
  ·refine callF (ze3 a) (by simp -implicitDefEqProofs only[go_sem,zaa]) ?_
   simp -implicitDefEqProofs only[go_sem,zaa]
   refine ⟨fun h1=>?_,fun h1=>?_⟩
   ·rw [hN,h,h1]; rfl
   ·rw [hN,h,h1]; rfl
  ·rw [hN,h]; rfl
 ·have hN:Fm.here (.mk 2 a v ps) = (decide (ps.length = 0) && a.none && (v == [])):=rfl
  simp only [fmD,zab,Fm.op,Fm.atom,Fm.var,Fm.parts]
  refine zaj Tryz.call222 Tryz.func222 rfl (by kernel_rfl) (zax (by kernel_rfl)) ?_
  simp -implicitDefEqProofs only[go_sem,Tryz.results222]
  simp only [e0]
  refine ⟨fun h=>?_,fun h=>?_⟩
  ·refine callF (ze3 a) (by simp -implicitDefEqProofs only[go_sem,zaa]) ?_
   simp -implicitDefEqProofs only[go_sem,zaa]
   refine ⟨fun h1=>?_,fun h1=>?_⟩
   ·rw [hN,h,h1]; rfl
   ·rw [hN,h,h1]; rfl
  ·rw [hN,h]; rfl
 ·have hN:Fm.here (.mk 3 a v ps) = (decide (ps.length = 0) && a.atomOk && (v == [])):=rfl
  simp only [fmD,zab,Fm.op,Fm.atom,Fm.var,Fm.parts]
  refine zaj Tryz.call222 Tryz.func222 rfl (by kernel_rfl) (zax (by kernel_rfl)) ?_
  simp -implicitDefEqProofs only[go_sem,Tryz.results222]
  simp only [e0]
  refine ⟨fun h=>?_,fun h=>?_⟩
  ·refine callF (zx5 a ha) (by simp -implicitDefEqProofs only[go_sem,zaa]) ?_
   simp -implicitDefEqProofs only[go_sem,zaa]
   refine ⟨fun h1=>?_,fun h1=>?_⟩
   ·rw [hN,h,h1]; rfl
   ·rw [hN,h,h1]; rfl
  ·rw [hN,h]; rfl
 ·have hN:Fm.here (.mk 4 a v ps) = (decide (ps.length = 1) && a.none && (v == [])):=rfl
  simp only [fmD,zab,Fm.op,Fm.atom,Fm.var,Fm.parts]
  refine zaj Tryz.call222 Tryz.func222 rfl (by kernel_rfl) (zax (by kernel_rfl)) ?_
  simp -implicitDefEqProofs only[go_sem,Tryz.results222]
  simp only [e1]
  refine ⟨fun h=>?_,fun h=>?_⟩
  ·refine callF (ze3 a) (by simp -implicitDefEqProofs only[go_sem,zaa]) ?_
   simp -implicitDefEqProofs only[go_sem,zaa]
   refine ⟨fun h1=>?_,fun h1=>?_⟩
   ·rw [hN,h,h1]; rfl
   ·rw [hN,h,h1]; rfl
  ·rw [hN,h]; rfl
 ·have hN:Fm.here (.mk 5 a v ps) = (decide (ps.length = 2) && a.none && (v == [])):=rfl
  simp only [fmD,zab,Fm.op,Fm.atom,Fm.var,Fm.parts]
  refine zaj Tryz.call222 Tryz.func222 rfl (by kernel_rfl) (zax (by kernel_rfl)) ?_
  simp -implicitDefEqProofs only[go_sem,Tryz.results222]
  simp only [e2]
  refine ⟨fun h=>?_,fun h=>?_⟩
  ·refine callF (ze3 a) (by simp -implicitDefEqProofs only[go_sem,zaa]) ?_
   simp -implicitDefEqProofs only[go_sem,zaa]
   refine ⟨fun h1=>?_,fun h1=>?_⟩
   ·rw [hN,h,h1]; rfl
   ·rw [hN,h,h1]; rfl
  ·rw [hN,h]; rfl
 ·have hN:Fm.here (.mk 6 a v ps) = (decide (ps.length = 2) && a.none && (v == [])):=rfl
  simp only [fmD,zab,Fm.op,Fm.atom,Fm.var,Fm.parts]
  refine zaj Tryz.call222 Tryz.func222 rfl (by kernel_rfl) (zax (by kernel_rfl)) ?_
  simp -implicitDefEqProofs only[go_sem,Tryz.results222]
  simp only [e2]
  refine ⟨fun h=>?_,fun h=>?_⟩
  ·refine callF (ze3 a) (by simp -implicitDefEqProofs only[go_sem,zaa]) ?_
   simp -implicitDefEqProofs only[go_sem,zaa]
   refine ⟨fun h1=>?_,fun h1=>?_⟩
   ·rw [hN,h,h1]; rfl
   ·rw [hN,h,h1]; rfl
  ·rw [hN,h]; rfl
 ·have hN:Fm.here (.mk 7 a v ps) = (decide (ps.length = 2) && a.none && (v == [])):=rfl
  simp only [fmD,zab,Fm.op,Fm.atom,Fm.var,Fm.parts]
  refine zaj Tryz.call222 Tryz.func222 rfl (by kernel_rfl) (zax (by kernel_rfl)) ?_
  simp -implicitDefEqProofs only[go_sem,Tryz.results222]
  simp only [e2]
  refine ⟨fun h=>?_,fun h=>?_⟩
  ·refine callF (ze3 a) (by simp -implicitDefEqProofs only[go_sem,zaa]) ?_
   simp -implicitDefEqProofs only[go_sem,zaa]
   refine ⟨fun h1=>?_,fun h1=>?_⟩
   ·rw [hN,h,h1]; rfl
   ·rw [hN,h,h1]; rfl
  ·rw [hN,h]; rfl
 ·have hN:Fm.here (.mk 8 a v ps) = (decide (ps.length = 1) && a.none && zay v):=rfl
  simp only [fmD,zab,Fm.op,Fm.atom,Fm.var,Fm.parts]
  refine zaj Tryz.call222 Tryz.func222 rfl (by kernel_rfl) (zax (by kernel_rfl)) ?_
  simp -implicitDefEqProofs only[go_sem,Tryz.results222]
  simp only [e1]
  refine ⟨fun h=>?_,fun h=>?_⟩
  ·refine callF (ze3 a) (by simp -implicitDefEqProofs only[go_sem,zaa]) ?_
   simp -implicitDefEqProofs only[go_sem,zaa]
   refine ⟨fun h1=>?_,fun h1=>?_⟩
   ·refine callF (zjx v) (by simp -implicitDefEqProofs only[go_sem]) ?_
    simp -implicitDefEqProofs only[go_sem]
    rw [hN,h,h1]; rfl
   ·rw [hN,h,h1]; rfl
  ·rw [hN,h]; rfl
 ·have hN:Fm.here (.mk 9 a v ps) = (decide (ps.length = 1) && a.none && zay v):=rfl
  simp only [fmD,zab,Fm.op,Fm.atom,Fm.var,Fm.parts]
  refine zaj Tryz.call222 Tryz.func222 rfl (by kernel_rfl) (zax (by kernel_rfl)) ?_
  simp -implicitDefEqProofs only[go_sem,Tryz.results222]
  simp only [e1]
  refine ⟨fun h=>?_,fun h=>?_⟩
  ·refine callF (ze3 a) (by simp -implicitDefEqProofs only[go_sem,zaa]) ?_
   simp -implicitDefEqProofs only[go_sem,zaa]
   refine ⟨fun h1=>?_,fun h1=>?_⟩
   ·refine callF (zjx v) (by simp -implicitDefEqProofs only[go_sem]) ?_
    simp -implicitDefEqProofs only[go_sem]
    rw [hN,h,h1]; rfl
   ·rw [hN,h,h1]; rfl
  ·rw [hN,h]; rfl
 ·have hN:Fm.here (.mk o a v ps) = false:=by simp [Fm.here,zm8,isQ,Fm.op, *]
  have f1:(o == 1) = false:=by simpa using n1
  have f2:(o == 2) = false:=by simpa using n2
  have f3:(o == 3) = false:=by simpa using n3
  have f4:(o == 4) = false:=by simpa using n4
  have f5:(o == 5) = false:=by simpa using n5
  have f6:(o == 6) = false:=by simpa using n6
  have f7:(o == 7) = false:=by simpa using n7
  have f8:(o == 8) = false:=by simpa using n8
  have f9:(o == 9) = false:=by simpa using n9
  simp only [fmD,zab,Fm.op,Fm.atom,Fm.var,Fm.parts]
  refine zaj Tryz.call222 Tryz.func222 rfl (by kernel_rfl) (zax (by kernel_rfl)) ?_
  simp -implicitDefEqProofs only[go_sem,Tryz.results222,f1,f2,f3,f4,f5,f6,f7,f8,f9]
  rw [hN]
def Fm.forms:Fm->Bool:=Fm.fold fun o a v ps rs=>(Fm.mk o a v ps).here && rs.all id
theorem Fm.forms_eq (f:Fm):f.forms = (f.here && f.parts.all Fm.forms):=by
 unfold Fm.forms
 rw [Fm.fold_eq]
 simp only [J0,Fm.eta]
 rfl
theorem zzu (a:Fm) (hs:a.wt <= 1099511627776) (H:∀ x ∈ a.parts,FC Tryz.prog 173 [fmD x] [bD x.forms]):FC Tryz.prog 173 [fmD a] [bD a.forms]:=by
 have hl:a.parts.length <= 9223372036854775807:=by rw [Fm.wt_eq] at hs; omega
 have hN:=a.forms_eq
 simp only [fmD,zab]
 refine zaj Tryz.call173 Tryz.func173 rfl (by kernel_rfl) (zax (by kernel_rfl)) ?_
 simp -implicitDefEqProofs only[go_sem,Tryz.results173]
 refine callF (qjl a hs) (by simp -implicitDefEqProofs only[go_sem,zab]) ?_
 simp -implicitDefEqProofs only[go_sem,zab]
 refine ⟨fun h=>?_,fun h=>?_⟩
 ·rw [hN,show a.here = false by simpa using h]; rfl
 ·rw [show a.here = true by simpa using h,Qn] at hN
  refine zae (fun k:Nat=>hd [(1,.one (.bx 1 0)),(3,vI k)] [(1,[.t (.int .i64 a.op),.t (.str a.atom.name),.t (tmS a.atom.args),.t (.str a.var),.t (fmS a.parts)])] []) (fun k=>k <= a.parts.length /\ a.forms = (a.parts.drop k).all Fm.forms) (fun k=>a.parts.length - k) 0 (zac ?_) ?_ ?_
  ·simp -implicitDefEqProofs only[go_sem]
  ·exact ⟨by simp,hN⟩
  ·intro k ⟨hk,hr⟩
   by_cases hlt:k < a.parts.length
   ·rw [Qh hlt,Ks] at hr
    simp -implicitDefEqProofs only[go_sem,zad,hlt,zab]
    refine callF (H a.parts[k] (Qe hlt)) (by simp -implicitDefEqProofs only[go_sem,zab]) ?_
    simp -implicitDefEqProofs only[go_sem,zab]
    refine ⟨fun h=>?_,fun h=>⟨k + 1,⟨hlt,?_⟩,by omega,zac (by simp -implicitDefEqProofs only[go_sem]; rw [zal (by omega)])⟩⟩
    ·rw [hr,show a.parts[k].forms = false by simpa using h]; rfl
    ·rw [hr,show a.parts[k].forms = true by simpa using h]; rfl
   ·simp -implicitDefEqProofs only[go_sem,hlt]
    rw [hr,Qs (by omega)]; rfl
theorem qcz:∀ a:Fm,a.wt <= 1099511627776->FC Tryz.prog 173 [fmD a] [bD a.forms] :=
 za8 fun o a v xs ih hs=>zzu (.mk o a v xs) hs fun x hx=>ih x hx (Kg (zbt (a:=.mk o a v xs) hx) hs)
def Fm.good (a:Fm):Bool:=decide (a.nodes <= 40) && a.forms
theorem zhi (a:Fm) (hs:a.wt <= 1099511627776):FC Tryz.prog 96 [fmD a] [bD a.good]:=by
 simp only [fmD,zab]
 refine zaj Tryz.call96 Tryz.func96 rfl (by kernel_rfl) (zax (by kernel_rfl)) ?_
 simp -implicitDefEqProofs only[go_sem,Tryz.results96]
 refine callF (qko a hs 40 (by omega) (by omega)) (by simp -implicitDefEqProofs only[go_sem,zab]) ?_
 simp -implicitDefEqProofs only[go_sem,zab]
 rw [show decide (zfy a 40 <= 40) = decide (a.nodes <= 40) from qj9 a 40]
 refine ⟨fun h=>?_,fun h=>?_⟩
 ·refine callF (qcz a hs) (by simp -implicitDefEqProofs only[go_sem,zab]) ?_
  simp -implicitDefEqProofs only[go_sem,zab]
  rw [Fm.good,h,Qn]
 ·rw [Fm.good,h,Qj]
end
section
set_option maxRecDepth 4000
open Go.RowKit
theorem qj4:∀ a:Tm,a.wt <= 1099511627776->∀ ys:List Str,ys.length + (voS a).length <= 1073741824->GC Tryz.prog 150 [(true,.one (zca ys)),(false,tmD a)] [.one (zca (zba ys (voS a)))] :=
 zbf fun n xs ih hw ys hs=>qcy (.mk n xs) (fun x hx ys hs=>ih x hx (Kg (zoy (a:=.mk n xs) hx) hw) ys hs) ys hs (by have:=Tm.wt_eq (.mk n xs); omega)
theorem zqs (a:Tm) (hw:a.wt <= 1099511627776) (hs:(voS a).length <= 1073741824):FC Tryz.prog 171 [tmD a] [.one (zca (zba [] (voS a)))]:=by
 have HC:=qj4 a hw [] (by simpa using hs)
 simp only [tmD,zaa] at HC ⊢
 refine zcq Tryz.call171 Tryz.func171 rfl (by kernel_rfl) (zax (by kernel_rfl)) ?_
 simp -implicitDefEqProofs only[go_sem,Tryz.results171]
 refine zbx (by simp -implicitDefEqProofs only[go_sem]) ?_
 simp -implicitDefEqProofs only[go_sem]
 refine zc7 [] [3,4] [] (HC) (by simp -implicitDefEqProofs only[go_sem]) (by simp -implicitDefEqProofs only[go_sem]) (by simp -implicitDefEqProofs only[go_sem]) (by simp -implicitDefEqProofs only[go_sem]) ?_
 simp -implicitDefEqProofs only[go_sem]
theorem zq3 {s:Str} (h:zay s = true):zlm (s.getD 0 0) = true /\ 0 < s.length:=by
 unfold zay at h
 rw [Qa] at h
 cases s with
 | nil=>exact absurd h.2 (by decide)
 | cons b s =>
  have:=zw1 (s:=b :: s) (by simp)
  rw [h.1] at this
  have:=(Qa _ _).mp this.symm
  exact ⟨this.1,by simp⟩
theorem up_low {b:UInt8} (h:zgt b = true):zlm b = false:=by
 unfold zgt zlm at *
 simp only [Qa,Qg,Bool.and_eq_false_iff,Ko] at *
 omega
theorem zls {s:Str} (h:zc4 s = true):zlm (s.getD 0 0) = false /\ 0 < s.length:=by
 unfold zc4 at h
 simp only [Qa] at h
 cases s with
 | nil=>exact absurd h.1.2 (by decide)
 | cons b s =>
  have:=ztn (s:=b :: s) (by simp)
  rw [h.1.1] at this
  have:=(Qa _ _).mp this.symm
  exact ⟨up_low this.1,by simp⟩
theorem zqr:∀ a:Tm,a.names = true->voI a = voS a /\ a.ne = true:=zbf fun n xs ih h=>by
 rw [Tm.names_eq] at h
 rw [zxu,zkp,Tm.ne_eq']
 change (if zay n = true then decide (xs.length = 0) else zc4 n && decide (xs.length <= 4) && xs.all Tm.names) = true at h
 change (if (decide (xs.length = 0) && zlm (n.getD 0 0)) = true then [n] else (xs.map voI).flatten) = (if zay n = true then [n] else (xs.map voS).flatten) /\ ((!decide (xs.length = 0) || decide (0 < n.length)) && xs.all Tm.ne) = true
 change ∀ x ∈ xs,_ at ih
 by_cases hv:zay n = true
 ·rw [if_pos hv] at h ⊢
  obtain ⟨h1,h2⟩:=zq3 hv
  have h:xs.length = 0:=K4 h
  have hx:xs = []:=Qx.1 h
  subst hx
  rw [h1]
  exact ⟨rfl,by simp [h2]⟩
 ·rw [if_neg hv] at h ⊢
  simp only [Qa] at h
  obtain ⟨h1,h2⟩:=zls h.1.1
  rw [h1,Kb,if_neg (by simp)]
  have hI:=fun x hx=>ih x hx (Ql.1 h.2 x hx)
  refine ⟨by rw [Q6 fun x hx=>(hI x hx).1],?_⟩
  rw [Qa]
  exact ⟨by simp [h2],Ql.2 fun x hx=>(hI x hx).2⟩
theorem qo4 {a:Tm} (h:a.atomOk = true):voI a = voS a /\ a.ne = true:=by
 unfold Tm.atomOk at h
 split at h
 ·rename_i he
  have he:a.name = [61]:=by simpa using he
  simp only [Qa,Qg] at h
  rw [zxu,zkp,Tm.ne_eq',he]
  have hI:=fun x hx=>zqr x (Ql.1 h.2 x hx)
  rw [show zlm (([61]:Str).getD 0 0) = false by decide,show zay [61] = false by decide,Kb,if_neg (by simp),if_neg (by simp)]
  refine ⟨by rw [Q6 fun x hx=>(hI x hx).1],?_⟩
  rw [Qa]
  exact ⟨by simp,Ql.2 fun x hx=>(hI x hx).2⟩
 ·simp only [Qa] at h
  have:=h.2
  unfold Tm.good at this
  rw [Qa] at this
  exact zqr a this.2
theorem zgx {f:Fm} (h:f.here = true) (h3:f.op = 3):f.atom.atomOk = true /\ f.parts = []:=by
 unfold Fm.here at h
 rw [h3] at h
 simp only [show ((3:Int) == 1 || (3:Int) == 2) = false by decide,show ((3:Int) == 3) = true by decide,if_true,Qo,if_false,Qa,Qg,Qx] at h
 exact ⟨h.1.2,h.1.1⟩
def vf:Fm->List Str->List Str:=Fm.fold fun o a v _ rs b=>if (o == 3) = true then (zba [] (voS a)).filter (fun s=>!b.contains s) else (rs.map fun r=>r (if isQ o = true then b ++ [v] else b)).flatten
theorem zzc (f:Fm) (b:List Str):vf f b = if (f.op == 3) = true then (zba [] (voS f.atom)).filter (fun s=>!b.contains s) else (f.parts.map fun x=>vf x (if isQ f.op = true then b ++ [f.var] else b)).flatten:=by
 unfold vf
 rw [Fm.fold_eq]
 simp only [Ke]
 rfl
theorem zq1:∀ a:Tm,(voS a).length <= 1 + a.wt:=zbf fun n xs ih=>by
 rw [zkp,Tm.wt_eq]
 change (if zay n = true then [n] else (xs.map voS).flatten).length <= 1 + (n.length + xs.length + (xs.map Tm.wt).sum)
 split
 ·simp
 ·have:((xs.map voS).flatten).length <= xs.length + (xs.map Tm.wt).sum:=by
   revert ih
   induction xs with
   | nil=>simp
   | cons x xs ih2 =>
    intro ih
    have h1:=ih x (by simp)
    have h2:=ih2 fun y hy=>ih y (by simp [hy])
    simp only [Qi,Q9,Qr,Q3,Qm]
    omega
  omega
theorem qme:∀ (f:Fm) (b:List Str),(vf f b).length <= f.nodes + f.wt:=za8 fun o a v ps ih b=>by
 rw [zzc,Fm.nodes_eq,Fm.wt_eq]
 change (if (o == 3) = true then (zba [] (voS a)).filter (fun s=>!b.contains s) else (ps.map fun x=>vf x (if isQ o = true then b ++ [v] else b)).flatten).length <= 1 + (ps.map Fm.nodes).sum + (a.wt + v.length + ps.length + (ps.map Fm.wt).sum)
 split
 ·have h1:=J2 (fun s=>!b.contains s) (zba [] (voS a))
  have h2:=zd1 (voS a) []
  have h3:=zq1 a
  simp only [Qv] at h2
  omega
 ·have:∀ b,((ps.map fun x=>vf x b).flatten).length <= (ps.map Fm.nodes).sum + (ps.map Fm.wt).sum:=fun b=>by
   revert ih
   induction ps with
   | nil=>simp
   | cons x xs ih2 =>
    intro ih
    have h1:=ih x (by simp) b
    have h2:=ih2 fun y hy=>ih y (by simp [hy])
    simp only [Qi,Q9,Qr,Q3]
    omega
  have:=this (if isQ o = true then b ++ [v] else b)
  omega
def zhu (b l:List Str) (s:Str):List Str:=if (!b.contains s && !l.contains s) = true then l ++ [s] else l
theorem zkn (b:List Str):∀ (ss l:List Str),ss.foldl (zhu b) l = zci l (ss.filter fun s=>!b.contains s)
 | [],l=>rfl
 | s :: ss,l=>by
  rw [Jg,zkn b ss,List.filter_cons]
  unfold zhu
  by_cases h:b.contains s = true
  ·rw [h]; simp
  ·have h:b.contains s = false:=by simpa using h
   rw [h,if_pos (show (!false) = true from rfl)]
   show _ = zci (zoe l s) _
   congr 1
   unfold zoe
   cases l.contains s <;> rfl
theorem qe1 {b l:List Str} {s:Str} (h:(!b.contains s) = true) (h2:(!l.contains s) = true):zhu b l s = l ++ [s]:=by unfold zhu; rw [h,h2]; rfl
theorem qiv {b l:List Str} {s:Str} (h2:(!l.contains s) = false):zhu b l s = l:=by unfold zhu; rw [h2,Kb]; rfl
theorem qo8 {b l:List Str} {s:Str} (h:(!b.contains s) = false):zhu b l s = l:=by unfold zhu; rw [h,Qj]; rfl
theorem qde (b l:List Str) (s:Str):(zhu b l s).length <= l.length + 1:=by unfold zhu; split <;> simp
theorem zny (b:List Str):∀ (ss l:List Str),(ss.foldl (zhu b) l).length <= l.length + ss.length
 | [],l=>by simp
 | s :: ss,l=>by have:=zny b ss (zhu b l s); have:=qde b l s; simp only [Jg,Qm] at *; omega
theorem zgj {α β:Type} (g:β->α->β) (xs:List α) (z:β) (k:Nat) (h:k < xs.length):(xs.take (k + 1)).foldl g z = g ((xs.take k).foldl g z) xs[k]:=by
 rw [Qf h,List.foldl_append]; rfl
set_option maxHeartbeats 2000000 in
theorem qgt (f:Fm) (hf:f.forms = true) (hw:f.wt <= 1048576) (H:∀ x ∈ f.parts,∀ ys b:List Str,ys.length + (vf x b).length <= 1073741824->b.length + x.nodes <= 1073741824->GC Tryz.prog 153 [(true,.one (zca ys)),(false,fmD x),(false,.one (zca b))] [.one (zca (zci ys (vf x b)))])
  (ys b:List Str) (hs:ys.length + (vf f b).length <= 1073741824) (hb:b.length + f.nodes <= 1073741824):GC Tryz.prog 153 [(true,.one (zca ys)),(false,fmD f),(false,.one (zca b))] [.one (zca (zci ys (vf f b)))]:=by
 have hv:=zzc f b
 have hN:=f.nodes_eq
 have hW:=f.wt_eq
 rw [Fm.forms_eq,Qa] at hf
 simp only [fmD,zab]
 refine zrn Tryz.call153 Tryz.func153 rfl (by kernel_rfl) (by simp only [Qm,Qv,Tryz.ntmps153]; omega) (by simp [zbq,T.isPin]) ?_
 simp -implicitDefEqProofs only[go_sem,Tryz.results153]
 by_cases h3:f.op = 3
 ·obtain ⟨ha,hp⟩:=zgx hf.1 h3
  obtain ⟨ev,ene⟩:=qo4 ha
  have e3:(f.op == 3) = true:=by simp [h3]
  rw [if_pos e3] at hv
  have hvl:=zq1 f.atom
  have HV:=zvu f.atom ene (by omega) (by rw [ev]; omega)
  rw [ev] at HV
  have hPl:=zd1 (voS f.atom) []
  generalize zba [] (voS f.atom) = V at hv HV hPl
  rw [hv,<-zkn b V ys]
  simp only [tmD,zaa] at HV
  simp -implicitDefEqProofs only[go_sem,e3]
  refine zjf (HV) (by simp -implicitDefEqProofs only[go_sem]) ?_
  simp -implicitDefEqProofs only[go_sem]
  refine zae (fun k:Nat=>hd [(0,.one (.ow 0 0)),(2,.one (.rn (zca b))),(16,.one (.rn (zca V))),(17,vI V.length),(18,vI k)] [] [(0,⟨true,1,((V.take k).foldl (zhu b) ys).map fun s=>[.str s],0,true⟩)]) (fun k=>k <= V.length) (fun k=>V.length - k) 0 (zac ?_) (Ka _) ?_
  ·simp -implicitDefEqProofs only[go_sem]
   rfl
  ·intro k hk
   by_cases hlt:k < V.length
   ·have hL:=zny b (V.take k) ys
    rw [Qp] at hL
    have hnx:=zgj (zhu b) V ys k hlt
    simp only [Qv] at hPl
    simp -implicitDefEqProofs only[go_sem,zad,hlt]
    refine callF (zcf b V[k]) (by simp -implicitDefEqProofs only[go_sem]) ?_
    simp -implicitDefEqProofs only[go_sem]
    refine ⟨fun h=>?_,fun h=>?_⟩
    ·refine callF (zcf ((V.take k).foldl (zhu b) ys) V[k]) (by simp -implicitDefEqProofs only[go_sem]) ?_
     simp -implicitDefEqProofs only[go_sem]
     have hy2:((V.take k).foldl (zhu b) ys).length <= 4294967295:=by omega
     refine ⟨fun h2=>?_,fun h2=>?_⟩
     ·refine zbx (by simp -implicitDefEqProofs only[go_sem]) ?_
      simp -implicitDefEqProofs only[go_sem]
      refine apD true (by simp -implicitDefEqProofs only[go_sem,hy2,ne_eq,Qb]) ?_
      simp -implicitDefEqProofs only[go_sem,hy2,ne_eq,Qb]
      refine ⟨k + 1,hlt,by omega,zac ?_⟩
      simp -implicitDefEqProofs only[go_sem]
      rw [zal (by omega),hnx,qe1 h h2]
      exact ⟨rfl,by simp⟩
     ·refine ⟨k + 1,hlt,by omega,zac ?_⟩
      simp -implicitDefEqProofs only[go_sem]
      rw [zal (by omega),hnx,qiv h2]
      exact ⟨rfl,rfl⟩
    ·refine ⟨k + 1,hlt,by omega,zac ?_⟩
     simp -implicitDefEqProofs only[go_sem]
     rw [zal (by omega),hnx,qo8 h]
     exact ⟨rfl,rfl⟩
   ·simp -implicitDefEqProofs only[go_sem,hlt]
    exact Or.inl (by rw [Qk (by omega)])
 ·have e3:(f.op == 3) = false:=by simp [h3]
  rw [e3,if_neg (by simp)] at hv
  simp -implicitDefEqProofs only[go_sem,e3]
  refine callF (zan f.op) (by simp -implicitDefEqProofs only[go_sem]) ?_
  simp -implicitDefEqProofs only[go_sem]
  refine ⟨fun h=>?_,fun h=>?_⟩
  ·rw [if_pos h] at hv
   rw [hv] at hs ⊢
   have hb1:b.length <= 4294967295:=by omega
   refine drawn (by kernel_rfl) ?_
   simp -implicitDefEqProofs only[go_sem]
   refine zao (zoi b (by omega)) (by simp -implicitDefEqProofs only[go_sem]) ?_
   simp -implicitDefEqProofs only[go_sem]
   refine zbi (by simp -implicitDefEqProofs only[go_sem]) ?_
   simp -implicitDefEqProofs only[go_sem]
   refine zj0 true (by simp -implicitDefEqProofs only[go_sem,hb1,ne_eq,Qb]) ?_
   simp -implicitDefEqProofs only[go_sem,hb1,ne_eq,Qb]
   refine ⟨by kernel_rfl,?_⟩
   refine zae (fun k:Nat=>hd [(0,.one (.ow 0 0)),(2,.one (.rn (zca (b ++ [f.var])))),(48,.one (.rn (fmS f.parts))),(49,vI f.parts.length),(50,vI k)] [] [(0,⟨true,1,(zci ys ((f.parts.take k).map fun x=>vf x ((b ++ [f.var]))).flatten).map fun s=>[.str s],0,true⟩)]) (fun k=>k <= f.parts.length) (fun k=>f.parts.length - k) 0 (zac ?_) (Ka _) ?_
   ·simp -implicitDefEqProofs only[go_sem]
    exact ⟨by simp,rfl⟩
   ·intro k hk
    by_cases hlt:k < f.parts.length
    ·have hq:=zce (fun x=>vf x ((b ++ [f.var]))) f.parts k hlt
     have hL:=zem ((f.parts.take k).map fun x=>vf x ((b ++ [f.var]))).flatten ys
     have hnx:=zbo Fm.nodes f.parts _ (Qe hlt)
     have HC:=H f.parts[k] (Qe hlt) (zci ys ((f.parts.take k).map fun x=>vf x ((b ++ [f.var]))).flatten) ((b ++ [f.var])) (by omega) (by simp only [Qr,Qm,Qv]; omega)
     rw [<-zjk,<-zdd (fun x=>vf x ((b ++ [f.var]))) f.parts k hlt] at HC
     simp only [fmD,zab f.parts[k]] at HC
     simp -implicitDefEqProofs only[go_sem,zad,hlt,zab f.parts[k]]
     refine zc7 [2,48,49,50] [54,55,56] [] (HC) (by simp -implicitDefEqProofs only[go_sem]) (by simp -implicitDefEqProofs only[go_sem]) (by simp -implicitDefEqProofs only[go_sem]) (by simp -implicitDefEqProofs only[go_sem]) ?_
     simp -implicitDefEqProofs only[go_sem]
     refine ⟨k + 1,hlt,by omega,zeb 0 1824 ?_⟩
     simp -implicitDefEqProofs only[go_sem]
     rw [zal (by omega)]
    ·simp -implicitDefEqProofs only[go_sem,hlt]
     exact Or.inl (by rw [Qk (by omega)])
  ·rw [h,if_neg (by simp)] at hv
   rw [hv] at hs ⊢
   refine zae (fun k:Nat=>hd [(0,.one (.ow 0 0)),(2,.one (.rn (zca b))),(48,.one (.rn (fmS f.parts))),(49,vI f.parts.length),(50,vI k)] [] [(0,⟨true,1,(zci ys ((f.parts.take k).map fun x=>vf x (b)).flatten).map fun s=>[.str s],0,true⟩)]) (fun k=>k <= f.parts.length) (fun k=>f.parts.length - k) 0 (zac ?_) (Ka _) ?_
   ·simp -implicitDefEqProofs only[go_sem]
    rfl
   ·intro k hk
    by_cases hlt:k < f.parts.length
    ·have hq:=zce (fun x=>vf x (b)) f.parts k hlt
     have hL:=zem ((f.parts.take k).map fun x=>vf x (b)).flatten ys
     have hnx:=zbo Fm.nodes f.parts _ (Qe hlt)
     have HC:=H f.parts[k] (Qe hlt) (zci ys ((f.parts.take k).map fun x=>vf x (b)).flatten) (b) (by omega) (by omega)
     rw [<-zjk,<-zdd (fun x=>vf x (b)) f.parts k hlt] at HC
     simp only [fmD,zab f.parts[k]] at HC
     simp -implicitDefEqProofs only[go_sem,zad,hlt,zab f.parts[k]]
     refine zc7 [2,48,49,50] [54,55,56] [] (HC) (by simp -implicitDefEqProofs only[go_sem]) (by simp -implicitDefEqProofs only[go_sem]) (by simp -implicitDefEqProofs only[go_sem]) (by simp -implicitDefEqProofs only[go_sem]) ?_
     simp -implicitDefEqProofs only[go_sem]
     refine ⟨k + 1,hlt,by omega,zeb 0 1824 ?_⟩
     simp -implicitDefEqProofs only[go_sem]
     rw [zal (by omega)]
    ·simp -implicitDefEqProofs only[go_sem,hlt]
     exact Or.inl (by rw [Qk (by omega)])
theorem qig:∀ f:Fm,f.forms = true->f.wt <= 1048576->∀ ys b:List Str,ys.length + (vf f b).length <= 1073741824->b.length + f.nodes <= 1073741824->GC Tryz.prog 153 [(true,.one (zca ys)),(false,fmD f),(false,.one (zca b))] [.one (zca (zci ys (vf f b)))] :=
 za8 fun o a v ps ih hf hw ys b hs hb=>qgt (.mk o a v ps) hf hw (fun x hx ys b hs hb=>ih x hx (by rw [Fm.forms_eq,Qa] at hf; exact Ql.1 hf.2 x hx) (Kg (zbt (a:=.mk o a v ps) hx) hw) ys b hs hb) ys b hs hb
theorem qbq (f:Fm) (hf:f.forms = true) (hw:f.wt <= 1048576):FC Tryz.prog 80 [fmD f] [.one (zca (zba [] (vf f [])))]:=by
 have h1:=qme f []
 have h2:=zd2 f
 have HC:=qig f hf hw [] [] (by simp only [Qv]; omega) (by simp only [Qv]; omega)
 have HS:=zmk (zci [] (vf f [])) (by have:=zem (vf f []) []; simp only [Qv] at this; omega)
 rw [zpz] at HS
 simp only [fmD,zab] at HC ⊢
 refine zcq Tryz.call80 Tryz.func80 rfl (by kernel_rfl) (zax (by kernel_rfl)) ?_
 simp -implicitDefEqProofs only[go_sem,Tryz.results80]
 refine zbx (by simp -implicitDefEqProofs only[go_sem]) ?_
 simp -implicitDefEqProofs only[go_sem]
 refine zc7 [] [4,5] [] (HC) (by simp -implicitDefEqProofs only[go_sem]) (by simp -implicitDefEqProofs only[go_sem]) (by simp -implicitDefEqProofs only[go_sem]) (by simp -implicitDefEqProofs only[go_sem]) ?_
 simp -implicitDefEqProofs only[go_sem]
 refine qcv (HS) (by simp -implicitDefEqProofs only[go_sem,za4]) (by simp -implicitDefEqProofs only[go_sem,za4]) rfl ?_
 simp -implicitDefEqProofs only[go_sem,za4]
def zjq (b l:List Str) (s:Str):List Str:=if (!b.contains s) = true then zy4 l s else l
theorem zke (b:List Str):∀ (ss l:List Str),ss.foldl (zjq b) l = zba l (ss.filter fun s=>!b.contains s)
 | [],l=>rfl
 | s :: ss,l=>by
  rw [Jg,zke b ss,List.filter_cons]
  unfold zjq
  by_cases h:b.contains s = true
  ·rw [h]; simp
  ·have h:b.contains s = false:=by simpa using h
   rw [h,if_pos (show (!false) = true from rfl),if_pos (show (!false) = true from rfl)]
   rfl
theorem qd9 (b l:List Str) (s:Str):(zjq b l s).length <= l.length + 1:=by
 unfold zjq
 split
 ·exact zy1 l s
 ·omega
theorem zn4 (b:List Str):∀ (ss l:List Str),(ss.foldl (zjq b) l).length <= l.length + ss.length
 | [],l=>by simp
 | s :: ss,l=>by have:=zn4 b ss (zjq b l s); have:=qd9 b l s; simp only [Jg,Qm] at *; omega
theorem qf4 {b l:List Str} {s:Str} (h:(!b.contains s) = true):zjq b l s = zy4 l s:=if_pos h
theorem qps {b l:List Str} {s:Str} (h:(!b.contains s) = false):zjq b l s = l:=by unfold zjq; rw [h]; rfl
set_option maxHeartbeats 2000000 in
theorem qbw (f:Fm) (hf:f.forms = true) (hw:f.wt <= 1048576) (H:∀ x ∈ f.parts,∀ ys b:List Str,ys.length + (vf x b).length <= 1073741824->b.length + x.nodes <= 1073741824->GC Tryz.prog 175 [(true,.one (zca ys)),(false,fmD x),(false,.one (zca b))] [.one (zca (zba ys (vf x b)))])
  (ys b:List Str) (hs:ys.length + (vf f b).length <= 1073741824) (hb:b.length + f.nodes <= 1073741824):GC Tryz.prog 175 [(true,.one (zca ys)),(false,fmD f),(false,.one (zca b))] [.one (zca (zba ys (vf f b)))]:=by
 have hv:=zzc f b
 have hN:=f.nodes_eq
 have hW:=f.wt_eq
 rw [Fm.forms_eq,Qa] at hf
 simp only [fmD,zab]
 refine zrn Tryz.call175 Tryz.func175 rfl (by kernel_rfl) (by simp only [Qm,Qv,Tryz.ntmps175]; omega) (by simp [zbq,T.isPin]) ?_
 simp -implicitDefEqProofs only[go_sem,Tryz.results175]
 by_cases h3:f.op = 3
 ·obtain ⟨ha,hp⟩:=zgx hf.1 h3
  have e3:(f.op == 3) = true:=by simp [h3]
  have e8:(f.op == 8) = false:=by simp [h3]
  have e9:(f.op == 9) = false:=by simp [h3]
  rw [if_pos e3] at hv
  have hvl:=zq1 f.atom
  have HV:=zqs f.atom (by omega) (by omega)
  have hPl:=zd1 (voS f.atom) []
  generalize zba [] (voS f.atom) = V at hv HV hPl
  simp only [Qv] at hPl
  rw [hv,<-zke b V ys]
  simp only [tmD,zaa] at HV
  simp -implicitDefEqProofs only[go_sem,e3]
  refine zjf (HV) (by simp -implicitDefEqProofs only[go_sem]) ?_
  simp -implicitDefEqProofs only[go_sem]
  refine zae (fun k:Nat=>hd [(0,.one (.ow 0 0)),(2,.one (.rn (zca b))),(4,.one (.bx 4 0)),(7,.one (.rn (zca V))),(8,vI k)] [(4,[.t (.int .i64 f.op),.t (.str f.atom.name),.rn (tmS f.atom.args),.t (.str f.var),.rn (fmS f.parts)])] [(0,⟨true,1,((V.take k).foldl (zjq b) ys).map fun s=>[.str s],0,true⟩)]) (fun k=>k <= V.length) (fun k=>V.length - k) 0 (zac ?_) (Ka _) ?_
  ·simp -implicitDefEqProofs only[go_sem]
   rfl
  ·intro k hk
   by_cases hlt:k < V.length
   ·have hL:=zn4 b (V.take k) ys
    rw [Qp] at hL
    have hnx:=zgj (zjq b) V ys k hlt
    simp -implicitDefEqProofs only[go_sem,zad,hlt]
    refine callF (zn0 b V[k]) (by simp -implicitDefEqProofs only[go_sem]) ?_
    simp -implicitDefEqProofs only[go_sem]
    refine ⟨fun h=>?_,fun h=>?_⟩
    ·simp -implicitDefEqProofs only[go_sem,zad,hlt]
     refine zc7 [2,4,7,8] [29,33] [] (qb1 ((V.take k).foldl (zjq b) ys) V[k] (by omega)) (by simp -implicitDefEqProofs only[go_sem]) (by simp -implicitDefEqProofs only[go_sem]) (by simp -implicitDefEqProofs only[go_sem]) (by simp -implicitDefEqProofs only[go_sem]) ?_
     simp -implicitDefEqProofs only[go_sem]
     refine ⟨k + 1,hlt,by omega,zeb 0 1088 ?_⟩
     simp -implicitDefEqProofs only[go_sem]
     rw [zal (by omega),hnx,qf4 h]
     exact ⟨rfl,rfl⟩
    ·refine ⟨k + 1,hlt,by omega,zac ?_⟩
     simp -implicitDefEqProofs only[go_sem]
     rw [zal (by omega),hnx,qps h]
     exact ⟨rfl,rfl⟩
   ·rw [Qk (by omega)]
    have hr : ∃ R,V.foldl (zjq b) ys = R:=⟨_,rfl⟩
    obtain ⟨R,hR⟩:=hr
    rw [hR]
    simp -implicitDefEqProofs only[go_sem,hlt,e8,e9]
    refine zae (fun k:Nat=>hd [(0,.one (.ow 0 0)),(2,.one (.rn (zca b))),(4,.one (.bx 4 0)),(9,vI k)] [(4,[.t (.int .i64 f.op),.t (.str f.atom.name),.rn (tmS f.atom.args),.t (.str f.var),.rn (fmS f.parts)])] [(0,⟨true,1,R.map fun s=>[.str s],0,true⟩)]) (fun k=>k = 0) (fun k=>0) 0 (zac ?_) rfl ?_
    ·simp -implicitDefEqProofs only[go_sem]
    ·rintro k rfl
     have hp0:f.parts.length = 0:=by rw [hp]; rfl
     simp -implicitDefEqProofs only[go_sem,hp0]
 ·have e3:(f.op == 3) = false:=by simp [h3]
  rw [e3,if_neg (by simp)] at hv
  by_cases hq8:isQ f.op = true
  ·rw [if_pos hq8] at hv
   rw [hv] at hs ⊢
   have hb1:b.length <= 4294967296:=by omega
   have hb2:b.length <= 4294967295:=by omega
   have key:(f.op == 8) = true \/ ((f.op == 8) = false /\ (f.op == 9) = true):=by
    unfold isQ at hq8
    cases h8:f.op == 8
    ·rw [h8,Jc] at hq8; exact Or.inr ⟨rfl,hq8⟩
    ·exact Or.inl rfl
   rcases key with e8 | ⟨e8,e9⟩
   ·simp -implicitDefEqProofs only[go_sem,e3,e8]
    refine drawn (by kernel_rfl) ?_
    simp -implicitDefEqProofs only[go_sem]
    refine zbi (by simp -implicitDefEqProofs only[go_sem]) ?_
    simp -implicitDefEqProofs only[go_sem]
    refine zj0 true (by simp -implicitDefEqProofs only[go_sem,hb1,za4,ne_eq,Qb,Q4]) ?_
    simp -implicitDefEqProofs only[go_sem,hb1,za4,ne_eq,Qb,Q4]
    refine zbi (by simp -implicitDefEqProofs only[go_sem]) ?_
    simp -implicitDefEqProofs only[go_sem]
    refine zj0 true (by simp -implicitDefEqProofs only[go_sem,hb2,ne_eq,Qb]) ?_
    simp -implicitDefEqProofs only[go_sem,hb2,ne_eq,Qb]
    refine ⟨by kernel_rfl,?_⟩
    refine zae (fun k:Nat=>hd [(0,.one (.ow 0 0)),(2,.one (.rn (zca (b ++ [f.var])))),(4,.one (.bx 4 0)),(9,vI k)] [(4,[.t (.int .i64 f.op),.t (.str f.atom.name),.rn (tmS f.atom.args),.t (.str f.var),.rn (fmS f.parts)])] [(0,⟨true,1,(zba ys ((f.parts.take k).map fun x=>vf x ((b ++ [f.var]))).flatten).map fun s=>[.str s],0,true⟩)]) (fun k=>k <= f.parts.length) (fun k=>f.parts.length - k) 0 (zac ?_) (Ka _) ?_
    ·simp -implicitDefEqProofs only[go_sem]
     exact ⟨by simp,rfl⟩
    ·intro k hk
     by_cases hlt:k < f.parts.length
     ·have hq:=zce (fun x=>vf x ((b ++ [f.var]))) f.parts k hlt
      have hL:=zd1 ((f.parts.take k).map fun x=>vf x ((b ++ [f.var]))).flatten ys
      have hnx:=zbo Fm.nodes f.parts _ (Qe hlt)
      have HC:=H f.parts[k] (Qe hlt) (zba ys ((f.parts.take k).map fun x=>vf x ((b ++ [f.var]))).flatten) ((b ++ [f.var])) (by omega) (by simp only [Qr,Qm,Qv]; omega)
      rw [<-zio,<-zdd (fun x=>vf x ((b ++ [f.var]))) f.parts k hlt] at HC
      simp only [fmD,zab f.parts[k]] at HC
      simp -implicitDefEqProofs only[go_sem,zad,hlt,zab f.parts[k]]
      refine zc7 [2,4,9] [57,62,63] [] (HC) (by simp -implicitDefEqProofs only[go_sem]) (by simp -implicitDefEqProofs only[go_sem]) (by simp -implicitDefEqProofs only[go_sem]) (by simp -implicitDefEqProofs only[go_sem]) ?_
      simp -implicitDefEqProofs only[go_sem]
      refine ⟨k + 1,hlt,by omega,zeb 0 2048 ?_⟩
      simp -implicitDefEqProofs only[go_sem]
      rw [zal (by omega)]
     ·simp -implicitDefEqProofs only[go_sem,hlt]
      exact Or.inl (by rw [Qk (by omega)])
   ·simp -implicitDefEqProofs only[go_sem,e3,e8,e9]
    refine drawn (by kernel_rfl) ?_
    simp -implicitDefEqProofs only[go_sem]
    refine zbi (by simp -implicitDefEqProofs only[go_sem]) ?_
    simp -implicitDefEqProofs only[go_sem]
    refine zj0 true (by simp -implicitDefEqProofs only[go_sem,hb1,za4,ne_eq,Qb,Q4]) ?_
    simp -implicitDefEqProofs only[go_sem,hb1,za4,ne_eq,Qb,Q4]
    refine zbi (by simp -implicitDefEqProofs only[go_sem]) ?_
    simp -implicitDefEqProofs only[go_sem]
    refine zj0 true (by simp -implicitDefEqProofs only[go_sem,hb2,ne_eq,Qb]) ?_
    simp -implicitDefEqProofs only[go_sem,hb2,ne_eq,Qb]
    refine ⟨by kernel_rfl,?_⟩
    refine zae (fun k:Nat=>hd [(0,.one (.ow 0 0)),(2,.one (.rn (zca (b ++ [f.var])))),(4,.one (.bx 4 0)),(9,vI k)] [(4,[.t (.int .i64 f.op),.t (.str f.atom.name),.rn (tmS f.atom.args),.t (.str f.var),.rn (fmS f.parts)])] [(0,⟨true,1,(zba ys ((f.parts.take k).map fun x=>vf x ((b ++ [f.var]))).flatten).map fun s=>[.str s],0,true⟩)]) (fun k=>k <= f.parts.length) (fun k=>f.parts.length - k) 0 (zac ?_) (Ka _) ?_
    ·simp -implicitDefEqProofs only[go_sem]
     exact ⟨by simp,rfl⟩
    ·intro k hk
     by_cases hlt:k < f.parts.length
     ·have hq:=zce (fun x=>vf x ((b ++ [f.var]))) f.parts k hlt
      have hL:=zd1 ((f.parts.take k).map fun x=>vf x ((b ++ [f.var]))).flatten ys
      have hnx:=zbo Fm.nodes f.parts _ (Qe hlt)
      have HC:=H f.parts[k] (Qe hlt) (zba ys ((f.parts.take k).map fun x=>vf x ((b ++ [f.var]))).flatten) ((b ++ [f.var])) (by omega) (by simp only [Qr,Qm,Qv]; omega)
      rw [<-zio,<-zdd (fun x=>vf x ((b ++ [f.var]))) f.parts k hlt] at HC
      simp only [fmD,zab f.parts[k]] at HC
      simp -implicitDefEqProofs only[go_sem,zad,hlt,zab f.parts[k]]
      refine zc7 [2,4,9] [57,62,63] [] (HC) (by simp -implicitDefEqProofs only[go_sem]) (by simp -implicitDefEqProofs only[go_sem]) (by simp -implicitDefEqProofs only[go_sem]) (by simp -implicitDefEqProofs only[go_sem]) ?_
      simp -implicitDefEqProofs only[go_sem]
      refine ⟨k + 1,hlt,by omega,zeb 0 2048 ?_⟩
      simp -implicitDefEqProofs only[go_sem]
      rw [zal (by omega)]
     ·simp -implicitDefEqProofs only[go_sem,hlt]
      exact Or.inl (by rw [Qk (by omega)])
  ·have hq:isQ f.op = false:=by simpa using hq8
   rw [hq,if_neg (by simp)] at hv
   rw [hv] at hs ⊢
   unfold isQ at hq
   rw [Bool.or_eq_false_iff] at hq
   obtain ⟨e8,e9⟩:=hq
   simp -implicitDefEqProofs only[go_sem,e3,e8,e9]
   refine zae (fun k:Nat=>hd [(0,.one (.ow 0 0)),(2,.one (.rn (zca b))),(4,.one (.bx 4 0)),(9,vI k)] [(4,[.t (.int .i64 f.op),.t (.str f.atom.name),.rn (tmS f.atom.args),.t (.str f.var),.rn (fmS f.parts)])] [(0,⟨true,1,(zba ys ((f.parts.take k).map fun x=>vf x (b)).flatten).map fun s=>[.str s],0,true⟩)]) (fun k=>k <= f.parts.length) (fun k=>f.parts.length - k) 0 (zac ?_) (Ka _) ?_
   ·simp -implicitDefEqProofs only[go_sem]
    rfl
   ·intro k hk
    by_cases hlt:k < f.parts.length
    ·have hq:=zce (fun x=>vf x (b)) f.parts k hlt
     have hL:=zd1 ((f.parts.take k).map fun x=>vf x (b)).flatten ys
     have hnx:=zbo Fm.nodes f.parts _ (Qe hlt)
     have HC:=H f.parts[k] (Qe hlt) (zba ys ((f.parts.take k).map fun x=>vf x (b)).flatten) (b) (by omega) (by omega)
     rw [<-zio,<-zdd (fun x=>vf x (b)) f.parts k hlt] at HC
     simp only [fmD,zab f.parts[k]] at HC
     simp -implicitDefEqProofs only[go_sem,zad,hlt,zab f.parts[k]]
     refine zc7 [2,4,9] [57,62,63] [] (HC) (by simp -implicitDefEqProofs only[go_sem]) (by simp -implicitDefEqProofs only[go_sem]) (by simp -implicitDefEqProofs only[go_sem]) (by simp -implicitDefEqProofs only[go_sem]) ?_
     simp -implicitDefEqProofs only[go_sem]
     refine ⟨k + 1,hlt,by omega,zeb 0 2048 ?_⟩
     simp -implicitDefEqProofs only[go_sem]
     rw [zal (by omega)]
    ·simp -implicitDefEqProofs only[go_sem,hlt]
     exact Or.inl (by rw [Qk (by omega)])
theorem qji:∀ f:Fm,f.forms = true->f.wt <= 1048576->∀ ys b:List Str,ys.length + (vf f b).length <= 1073741824->b.length + f.nodes <= 1073741824->GC Tryz.prog 175 [(true,.one (zca ys)),(false,fmD f),(false,.one (zca b))] [.one (zca (zba ys (vf f b)))] :=
 za8 fun o a v ps ih hf hw ys b hs hb=>qbw (.mk o a v ps) hf hw (fun x hx ys b hs hb=>ih x hx (by rw [Fm.forms_eq,Qa] at hf; exact Ql.1 hf.2 x hx) (Kg (zbt (a:=.mk o a v ps) hx) hw) ys b hs hb) ys b hs hb
theorem zp0 (f:Fm) (hf:f.forms = true) (hw:f.wt <= 1048576):FC Tryz.prog 105 [fmD f] [.one (zca (zba [] (vf f [])))]:=by
 have h1:=qme f []
 have h2:=zd2 f
 have HC:=qji f hf hw [] [] (by simp only [Qv]; omega) (by simp only [Qv]; omega)
 simp only [fmD,zab] at HC ⊢
 refine zcq Tryz.call105 Tryz.func105 rfl (by kernel_rfl) (zax (by kernel_rfl)) ?_
 simp -implicitDefEqProofs only[go_sem,Tryz.results105]
 refine zbx (by simp -implicitDefEqProofs only[go_sem]) ?_
 simp -implicitDefEqProofs only[go_sem]
 refine zbx (by simp -implicitDefEqProofs only[go_sem]) ?_
 simp -implicitDefEqProofs only[go_sem]
 refine frzO 160 rfl rfl ?_
 simp -implicitDefEqProofs only[go_sem]
 refine zc7 [] [3,4,5] [] (HC) (by simp -implicitDefEqProofs only[go_sem,zca,Qy]) (by simp -implicitDefEqProofs only[go_sem,zca,Qy]) (by simp -implicitDefEqProofs only[go_sem,zca,Qy]) (by simp -implicitDefEqProofs only[go_sem,zca,Qy]) ?_
 simp -implicitDefEqProofs only[go_sem,zca,Qy]
end
section
set_option maxRecDepth 4000
open Go.RowKit
variable {P:Program}
inductive AF
 | d (b:Bool) (x:D)
 | p (j:Nat)
 | fn (g:FuncId) (js:List Nat)
def AF.ds:List AF->List (Bool × D)
 | []=>[]
 | .d b x :: l=>(b,x) :: AF.ds l
 | .p _ :: l=>AF.ds l
 | .fn _ _ :: l=>AF.ds l
def qhz (b:Nat):Value:=.pointer (some ⟨b,0,none⟩)
def AF.vals (bs:Nat->Nat):List AF->List Value->List Value
 | [],_=>[]
 | .d _ _ :: l,v :: vs=>v :: AF.vals bs l vs
 | .d _ _ :: _,[]=>[]
 | .p j :: l,vs=>qhz (bs j) :: AF.vals bs l vs
 | .fn g js :: l,vs=>.func (.func g) #[] ⟨js.map fun j=>qhz (bs j)⟩ :: AF.vals bs l vs
def AF.okJ (n:Nat):List AF->Bool
 | []=>true
 | .d _ _ :: l=>AF.okJ n l
 | .p j :: l=>decide (j < n) && AF.okJ n l
 | .fn _ js :: l=>js.all (fun j=>decide (j < n)) && AF.okJ n l
abbrev Bxs:=List (List (Bool × T))
def zzb (w:World) (bs:Nat->Nat):Nat->List (List Value)->Bxs->Prop
 | _,[],[]=>True
 | j,vs :: bvs,b :: bx=>vs.length = b.length /\ (∃ ty,w.heap[bs j]? = some (.cells ⟨vs⟩ ty (0,0))) /\ zzb w bs (j + 1) bvs bx
 | _,_,_=>False
theorem zzb.lt {w:World} {bs:Nat->Nat}:∀ {j:Nat} {bvs:List (List Value)} {bx:Bxs},zzb w bs j bvs bx->∀ i,i < bx.length->bs (j + i) < w.heap.size
 | _,[],[],_,i,hi=>by simp at hi
 | j,_ :: _,_ :: _,h,0,hi=>by obtain ⟨ty,h⟩:=h.2.1; exact (Array.getElem?_eq_some_iff.1 h).1
 | j,_ :: _,_ :: _,h,i + 1,hi=>by rw [show j + (i + 1) = j + 1 + i by omega]; exact zzb.lt h.2.2 i (by simpa using hi)
 | _,[],_ :: _,h,_,_=>h.elim
 | _,_ :: _,[],h,_,_=>h.elim
def PC (P:Program) (f:FuncId) (bx:Bxs) (l:List AF) (bx':Bxs) (res:List (Bool × D)):Prop:=za7 P f /\ bx'.length = bx.length /\ ∀ (w:World) (bs:Nat->Nat) (bvs:List (List Value)) (dvs:List Value) (fp tp:List Nat) (A:Nat->Prop),
 (∀ i j,i < bx.length->j < bx.length->bs i = bs j->i = j)->(∀ j,j < bx.length->bs j ∉ fp)->zzb w bs 0 bvs bx →
 zau w (fun k=>(k < w.heap.size /\ k ∉ fp /\ ∀ j,j < bx.length->k ≠ bs j) /\ A k) (AF.ds l ++ bxA bx.flatten) (dvs ++ bvs.flatten) fp tp->fp.Nodup->dvs.length = (AF.ds l).length →
 Calls P f ⟨AF.vals bs l dvs⟩ w fun e w'=>∃ us bvs' fp' tp',e = .returned (zb5 us) /\ zzb w' bs 0 bvs' bx' /\ us.length = res.length ∧
  zau w' (fun k=>(k < w'.heap.size /\ k ∉ fp' /\ ∀ j,j < bx.length->k ≠ bs j) /\ (A k \/ w.heap.size <= k \/ k ∈ fp)) (res ++ bxA bx'.flatten) (us ++ bvs'.flatten) fp' tp' /\ fp'.Nodup /\ (∀ b ∈ fp',b ∈ fp \/ w.heap.size <= b) ∧
  Bk (fun k=>k < w.heap.size /\ k ∉ fp /\ ∀ j,j < bx.length->k ≠ bs j) w w'
def c1P (k:Nat):Bool × T->C
 | (true,t)=>owC k 0 t
 | (false,t)=>t.toN
def zxs:Nat->List (Bool × T)->List C
 | _,[]=>[]
 | k,p :: ps=>c1P k p :: zxs (k + 1) ps
def zmn:Nat->Nat->Bxs->Nat->Option (List C)
 | _,_,[]=>fun _=>none
 | j,k,b :: bs=>upd (zmn (j + 1) (k + b.length) bs) (1000000 + j) (some (zxs k b))
def zdp:Nat->Nat->List AF->Nat->V
 | _,_,[]=>fun _=>.one .any
 | i,k,.d b x :: l=>upd (zdp (i + 1) (k + 1) l) i (gVN k (b,x))
 | i,k,.p j :: l=>upd (zdp (i + 1) k l) i (.one (.bx (1000000 + j) 0))
 | i,k,.fn g js :: l=>upd (zdp (i + 1) k l) i (.one (.fn g (js.map (1000000 + ·))))
def zkr:Nat->Bxs->(Nat->V)->Nat->V
 | _,[],f=>f
 | j,_ :: bs,f=>upd (zkr (j + 1) bs f) (1000000 + j) (.one (.bx (1000000 + j) 0))
def zjs (l:List AF) (bx:Bxs):St:=⟨zkr 0 bx (zdp 0 0 l),zmn 0 (AF.ds l).length bx,zh9 0 (AF.ds l ++ bxA bx.flatten)⟩
theorem qp0 (k:Nat) (p:Bool × T):gVN k (p.1,.one p.2) = .one (c1P k p):=by obtain ⟨b,t⟩:=p; cases b <;> rfl
theorem ztc:∀ (bx:Bxs) (j:Nat) (f:Nat->V) (i:Nat),((∃ q,q < bx.length /\ i = 1000000 + (j + q)) /\ zkr j bx f i = .one (.bx i 0)) \/ ((∀ q,q < bx.length->i ≠ 1000000 + (j + q)) /\ zkr j bx f i = f i)
 | [],j,f,i=>Or.inr ⟨fun q hq=>by simp at hq,rfl⟩
 | b :: bx,j,f,i=>by
  by_cases hi:i = 1000000 + j
  ·subst hi
   exact Or.inl ⟨⟨0,by simp,rfl⟩,by unfold zkr; rw [zag]⟩
  ·unfold zkr
   rw [zam _ _ hi]
   rcases ztc bx (j + 1) f i with ⟨⟨q,h1,h2⟩,h3⟩ | ⟨h1,h2⟩
   ·exact Or.inl ⟨⟨q + 1,by simp; omega,by omega⟩,h3⟩
   ·refine Or.inr ⟨fun q hq=>?_,h2⟩
    cases q with
    | zero=>exact hi
    | succ q=>have:=h1 q (by simpa using hq); omega
theorem zsj:∀ (bx:Bxs) (j k b:Nat),zmn j k bx b ≠ none ↔ ∃ q,q < bx.length /\ b = 1000000 + (j + q)
 | [],j,k,b=>⟨fun h=>absurd rfl h,fun ⟨q,hq,_⟩=>by simp at hq⟩
 | c :: bx,j,k,b=>by
  unfold zmn
  by_cases hi:b = 1000000 + j
  ·subst hi; rw [zag]; exact ⟨fun _=>⟨0,by simp,rfl⟩,fun _=>by simp⟩
  ·rw [zam _ _ hi,zsj bx (j + 1) _ b]
   refine ⟨fun ⟨q,h1,h2⟩=>⟨q + 1,by simp; omega,by omega⟩,fun ⟨q,h1,h2⟩=>?_⟩
   cases q with
   | zero=>exact absurd h2 hi
   | succ q=>exact ⟨q,by simpa using h1,by omega⟩
theorem znn {σ:St} {g:Gh} {w:World}:∀ {b:List (Bool × T)} {vs:List Value} {k:Nat},vs.length = b.length->(∀ i p v,b[i]? = some p->vs[i]? = some v->CR σ g w (c1P (k + i) p) v)->CRs σ g w (zxs k b) vs
 | [],vs,_,hl,_=>Qx.1 hl
 | p :: b,[],_,hl,_=>by simp at hl
 | p :: b,v :: vs,k,hl,h=>⟨v,vs,rfl,by simpa using h 0 p v rfl rfl,znn (by simpa using hl) fun i q u h1 h2=>by
   have:=h (i + 1) q u (by simpa using h1) (by simpa using h2)
   rw [show k + (i + 1) = k + 1 + i by omega] at this
   exact this⟩
theorem zr6 {σ:St} {g:Gh} {w:World} {bs:Nat->Nat}:∀ (bx:Bxs) (bvs:List (List Value)) (j k:Nat),zzb w bs j bvs bx->(∀ i p v,bx.flatten[i]? = some p->bvs.flatten[i]? = some v->CR σ g w (c1P (k + i) p) v) →
  ∀ b cs,zmn j k bx b = some cs->∃ q vs ty,q < bx.length /\ b = 1000000 + (j + q) /\ w.heap[bs (j + q)]? = some (.cells ⟨vs⟩ ty (0,0)) /\ CRs σ g w cs vs
 | [],_,_,_,_,_,b,cs,h=>by cases h
 | c :: bx,[],_,_,h0,_,_,_,_=>h0.elim
 | c :: bx,vs :: bvs,j,k,h0,hc,b,cs,h=>by
  obtain ⟨h1,⟨ty,h2⟩,h3⟩:=h0
  unfold zmn at h
  by_cases hi:b = 1000000 + j
  ·subst hi
   rw [zag] at h
   cases h
   refine ⟨0,vs,ty,by simp,rfl,h2,znn h1 fun i p v e1 e2=>hc i p v ?_ ?_⟩
   ·rw [Q9,List.getElem?_append_left (List.getElem?_eq_some_iff.1 e1).1]; exact e1
   ·rw [Q9,List.getElem?_append_left (List.getElem?_eq_some_iff.1 e2).1]; exact e2
  ·rw [zam _ _ hi] at h
   obtain ⟨q,vs',ty',k1,k2,k3,k4⟩:=zr6 bx bvs (j + 1) (k + c.length) h3 (fun i p v e1 e2=>by
    have:=hc (c.length + i) p v (by rw [Q9,List.getElem?_append_right (by omega),show c.length + i - c.length = i by omega]; exact e1) (by rw [Q9,List.getElem?_append_right (by omega),show c.length + i - vs.length = i by omega]; exact e2)
    rw [show k + (c.length + i) = k + c.length + i by omega] at this
    exact this) b cs h
   exact ⟨q + 1,vs',ty',by simp; omega,by omega,by rw [show j + (q + 1) = j + 1 + q by omega]; exact k3,k4⟩
theorem zhk:∀ (l:List AF) (i0 k i:Nat),l.length <= i->zdp i0 k l (i0 + i) = .one .any
 | [],_,_,_,_=>rfl
 | a :: l,i0,k,0,h=>by simp at h
 | .d b x :: l,i0,k,i + 1,h=>by unfold zdp; rw [zam _ _ (by omega),show i0 + (i + 1) = i0 + 1 + i by omega]; exact zhk l _ _ i (by simpa using h)
 | .p j :: l,i0,k,i + 1,h=>by unfold zdp; rw [zam _ _ (by omega),show i0 + (i + 1) = i0 + 1 + i by omega]; exact zhk l _ _ i (by simpa using h)
 | .fn g js :: l,i0,k,i + 1,h=>by unfold zdp; rw [zam _ _ (by omega),show i0 + (i + 1) = i0 + 1 + i by omega]; exact zhk l _ _ i (by simpa using h)
theorem zij {σ:St} {g:Gh} {w:World} {bs:Nat->Nat} {n:Nat} (hb:∀ j,j < n->σ.bx (1000000 + j) ≠ none /\ g.β (1000000 + j) = bs j):∀ (l:List AF) (i0 k:Nat) (dvs:List Value),AF.okJ n l = true->dvs.length = (AF.ds l).length->(∀ i d v,(AF.ds l)[i]? = some d->dvs[i]? = some v->VR σ g w (gVN (k + i) d) v) →
  ∀ i,i < l.length->∃ v,(AF.vals bs l dvs)[i]? = some v /\ VR σ g w (zdp i0 k l (i0 + i)) v
 | [],_,_,_,_,_,_,i,hi=>by simp at hi
 | .d b x :: l,i0,k,[],_,hl,_,i,hi=>by simp [AF.ds] at hl
 | .d b x :: l,i0,k,v :: dvs,ho,hl,h,i,hi=>by
  cases i with
  | zero=>exact ⟨v,rfl,by unfold zdp; show VR σ g w (upd _ i0 _ i0) v; rw [zag]; simpa using h 0 (b,x) v rfl rfl⟩
  | succ i =>
   obtain ⟨u,k1,k2⟩:=zij hb l (i0 + 1) (k + 1) dvs ho (by simpa [AF.ds] using hl) (fun i d v h1 h2=>by
    have:=h (i + 1) d v (by simpa [AF.ds] using h1) (by simpa using h2)
    rw [show k + (i + 1) = k + 1 + i by omega] at this
    exact this) i (by simpa using hi)
   exact ⟨u,by unfold AF.vals; simpa using k1,by unfold zdp; rw [zam _ _ (by omega),show i0 + (i + 1) = i0 + 1 + i by omega]; exact k2⟩
 | .p j :: l,i0,k,dvs,ho,hl,h,i,hi=>by
  unfold AF.okJ at ho
  rw [Qa,Qg] at ho
  cases i with
  | zero=>exact ⟨_,rfl,by unfold zdp; show VR σ g w (upd _ i0 _ i0) _; rw [zag]; exact ⟨by rw [(hb j ho.1).2]; rfl,(hb j ho.1).1⟩⟩
  | succ i =>
   obtain ⟨u,k1,k2⟩:=zij hb l (i0 + 1) k dvs ho.2 hl h i (by simpa using hi)
   exact ⟨u,by unfold AF.vals; simpa using k1,by unfold zdp; rw [zam _ _ (by omega),show i0 + (i + 1) = i0 + 1 + i by omega]; exact k2⟩
 | .fn f js :: l,i0,k,dvs,ho,hl,h,i,hi=>by
  unfold AF.okJ at ho
  rw [Qa,Ql] at ho
  cases i with
  | zero =>
   refine ⟨_,rfl,?_⟩
   unfold zdp
   show VR σ g w (upd _ i0 _ i0) _
   rw [zag]
   refine ⟨?_,fun b hb'=>?_⟩
   ·rw [Ke]
    congr 2
    refine Q6 fun j hj=>?_
    show qhz (bs j) = .pointer (some ⟨g.β (1000000 + j),0,none⟩)
    rw [(hb j (by simpa using ho.1 j hj)).2]
    rfl
   ·obtain ⟨j,hj,rfl⟩:=Kf.1 hb'
    exact (hb j (by simpa using ho.1 j hj)).1
  | succ i =>
   obtain ⟨u,k1,k2⟩:=zij hb l (i0 + 1) k dvs ho.2 hl h i (by simpa using hi)
   exact ⟨u,by unfold AF.vals; simpa using k1,by unfold zdp; rw [zam _ _ (by omega),show i0 + (i + 1) = i0 + 1 + i by omega]; exact k2⟩
theorem AF.vals_len (bs:Nat->Nat):∀ (l:List AF) (dvs:List Value),dvs.length = (AF.ds l).length->(AF.vals bs l dvs).length = l.length
 | [],_,_=>rfl
 | .d _ _ :: l,[],h=>by simp [AF.ds] at h
 | .d _ _ :: l,v :: vs,h=>by simp [AF.vals,AF.vals_len bs l vs (by simpa [AF.ds] using h)]
 | .p _ :: l,vs,h=>by simp [AF.vals,AF.vals_len bs l vs h]
 | .fn _ _ :: l,vs,h=>by simp [AF.vals,AF.vals_len bs l vs h]
def T.fs:T->Bool
 | .sl _ _=>true
 | t=>t.flat
def gFS:List (Bool × D)->Bool
 | []=>true
 | (false,_) :: ds=>gFS ds
 | (true,.one t) :: ds=>t.fs && gFS ds
 | (true,.agg ts) :: ds=>ts.all T.fs && gFS ds
theorem zy2:∀ {ds:List (Bool × D)},gFS ds = true->∀ (i:Nat) d,ds[i]? = some (true,d)->match d with | .one t=>t.fs = true | .agg ts=>ts.all T.fs = true
 | [],_,i,d,h=>by simp at h
 | (false,x) :: ds,hg,0,d,h=>by simp at h
 | (false,x) :: ds,hg,i + 1,d,h=>zy2 (ds:=ds) hg i d (by simpa using h)
 | (true,.one t) :: ds,hg,0,d,h=>by
  simp only [List.getElem?_cons_zero,Qc,Qq,true_and] at h
  subst h
  exact ((Qa _ _).mp hg).1
 | (true,.agg t) :: ds,hg,0,d,h=>by
  simp only [List.getElem?_cons_zero,Qc,Qq,true_and] at h
  subst h
  exact ((Qa _ _).mp hg).1
 | (true,.one t) :: ds,hg,i + 1,d,h=>zy2 (ds:=ds) ((Qa _ _).mp hg).2 i d (by simpa using h)
 | (true,.agg t) :: ds,hg,i + 1,d,h=>zy2 (ds:=ds) ((Qa _ _).mp hg).2 i d (by simpa using h)
theorem zyh {σ σ':St} {g g':Gh} {w:World} (he:σ'.ev = σ.ev) (hψ:g'.ψ = g.ψ) {k j:Nat} {t:T} {v:Value} (ht:t.fs = true) (h:CR σ g w (owC k j t) v):CR σ' g' w (owC k j t) v:=by
 cases t
 case sl=>exact ⟨by rw [hψ]; exact h.1,by obtain ⟨x,h1,h2⟩:=h.2; exact ⟨x,by rw [he]; exact h1,h2⟩⟩
 all_goals exact zdv (A:=Fix σ g w) (w:=w) ht h
theorem ztq {σ σ':St} {g g':Gh} {w:World} (he:σ'.ev = σ.ev) (hψ:g'.ψ = g.ψ) {k:Nat}:∀ {ts:List T} {j:Nat} {vs:List Value},ts.all T.fs = true->CRs σ g w (zo0 k j ts) vs->CRs σ' g' w (zo0 k j ts) vs
 | [],_,_,_,h=>h
 | t :: ts,j,vs,ht,h=>by
  rw [Ks,Qa] at ht
  obtain ⟨v,vs',rfl,h1,h2⟩:=h
  exact ⟨v,vs',rfl,zyh he hψ ht.1 h1,ztq he hψ ht.2 h2⟩
theorem zq0 (d:Nat):∀ (ts:List T) (j:Nat) (f:Nat->Option Ev),(∀ e x,f e = some x->x.deep = true /\ x.on = true)->∀ e x,owE d j ts f e = some x->x.deep = true /\ x.on = true
 | [],_,f,h,e,x,hx=>h e x hx
 | t :: ts,j,f,h,e,x,hx=>zq0 d ts (j + 1) _ (fun e x hx=>by
   cases t <;> first | exact h e x hx | skip
   rename_i sz rows
   by_cases he:e = d * 32 + j
   ·subst he; simp only [zvm,zag,Qc] at hx; subst hx; exact ⟨rfl,rfl⟩
   ·simp only [zvm,zam _ _ he] at hx; exact h e x hx) e x hx
theorem zhe:∀ (ds:List (Bool × D)) (k e:Nat) (x:Ev),zh9 k ds e = some x->x.deep = true /\ x.on = true
 | [],_,_,_,h=>by cases h
 | (false,_) :: ds,k,e,x,h=>zhe ds (k + 1) e x h
 | (true,.one t) :: ds,k,e,x,h=>zq0 k [t] 0 _ (fun e x hx=>zhe ds (k + 1) e x hx) e x h
 | (true,.agg ts) :: ds,k,e,x,h=>zq0 k ts 0 _ (fun e x hx=>zhe ds (k + 1) e x hx) e x h
theorem qhd {w:World} {l:List AF} {bx:Bxs} {bs:Nat->Nat} {bvs:List (List Value)} {dvs:List Value} {fp tp:List Nat} {A:Nat->Prop} {N:Nat} (hinj:∀ i j,i < bx.length->j < bx.length->bs i = bs j->i = j) (hbf:∀ j,j < bx.length->bs j ∉ fp) (hbx:zzb w bs 0 bvs bx)
  (hv:zau w (fun k=>(k < w.heap.size /\ k ∉ fp /\ ∀ j,j < bx.length->k ≠ bs j) /\ A k) (AF.ds l ++ bxA bx.flatten) (dvs ++ bvs.flatten) fp tp) (hn:fp.Nodup) (hl:dvs.length = (AF.ds l).length) (hj:AF.okJ bx.length l = true) (hN:l.length <= N) (hN2:N <= 1000000) (hs:zbq (AF.ds l ++ bxA bx.flatten)) (hfs:gFS (AF.ds l ++ bxA bx.flatten) = true)
  {ξ:Nat->Value} (h1:∀ i,i < 1000000->ξ i = undef) (h2:∀ i b,ξ i ≠ .bool b) (h3:∀ j,j < bx.length->ξ (1000000 + j) = qhz (bs j)) :
  ∃ g,(g.A0,g.R0) = (fun b=>A b \/ w.heap.size <= b \/ b ∈ fp \/ ∃ j,j < bx.length /\ b = bs j,⟨fun b=>b ∈ fp \/ w.heap.size <= b \/ ∃ j,j < bx.length /\ b = bs j,ξ,h1,h2⟩) ∧
   Rel (fun b=>b < w.heap.size /\ b ∉ fp /\ ∀ j,j < bx.length->b ≠ bs j) N (zjs l bx) g { tmps:=(⟨AF.vals bs l dvs⟩:Array Value) ++ Array.replicate (N - (AF.vals bs l dvs).length) undef,defers:=[] } w:=by
 have hv':zau w (fun b=>b < w.heap.size /\ (A b /\ ∀ j,j < bx.length->b ≠ bs j) /\ b ∉ fp) (AF.ds l ++ bxA bx.flatten) (dvs ++ bvs.flatten) fp tp:=zau.keepA (fun b hb=>⟨hb.1.1,⟨hb.2,hb.1.2.2⟩,hb.1.2.1⟩) hv
 obtain ⟨g,hg,hR⟩:=Rel.start (N:=(AF.ds l ++ bxA bx.flatten).length) (A0:=fun b=>A b \/ w.heap.size <= b \/ b ∈ fp \/ ∃ j,j < bx.length /\ b = bs j) (R0:=⟨fun b=>b ∈ fp \/ w.heap.size <= b \/ ∃ j,j < bx.length /\ b = bs j,ξ,h1,h2⟩) hv' hn hs (Qw _) (fun b hb=>Or.inl hb.1) (fun b hb=>⟨Or.inr (Or.inr (Or.inl hb)),Or.inl hb⟩) (fun b hb=>by
  by_cases hlt:b < w.heap.size
  ·have hm:b ∈ fp:=Classical.byContradiction fun h=>hb ⟨hlt,h⟩
   exact ⟨Or.inr (Or.inr (Or.inl hm)),Or.inl hm⟩
  ·exact ⟨Or.inr (Or.inl (by omega)),Or.inr (Or.inl (by omega))⟩)
 have hg1:g.A0 = _:=(Kt hg).1
 have hg2:g.R0 = _:=(Kt hg).2
 refine ⟨{ g with β:=fun k=>bs (k - 1000000) },hg,?_⟩
 have hlen:(dvs ++ bvs.flatten).length = (AF.ds l ++ bxA bx.flatten).length:=zau.len hv
 have hbne:∀ b,(zjs l bx).bx b ≠ none ↔ ∃ q,q < bx.length /\ b = 1000000 + q:=fun b=>by
  have:=zsj bx 0 (AF.ds l).length b
  simp only [Q4] at this
  exact this
 have hblt:∀ q,q < bx.length->bs q < w.heap.size:=fun q hq=>by have:=hbx.lt q hq; rwa [Q4] at this
 have hdeep:∀ e x,(zjs l bx).ev e = some x->x.deep = true /\ x.on = true:=fun e x hx=>zhe _ _ e x hx
 have hφ:∀ e,(zjs l bx).On e->∀ b ∈ g.φ e,¬ (b < w.heap.size /\ b ∉ fp):=fun e he b hb=>hR.etop e he b hb
 have hfree:∀ b,((b < w.heap.size /\ b ∉ fp /\ ∀ j,j < bx.length->b ≠ bs j) /\ A b)->zcj (zjs l bx) { g with β:=fun k=>bs (k - 1000000) } w b:=fun b hb=>by
  refine ⟨⟨fun k hk=>?_,fun e x hx ho hh=>hφ e ⟨x,hx,ho⟩ b (List.mem_of_mem_head? hh) ⟨hb.1.1,hb.1.2.1⟩,hb.1.1,?_⟩,fun e he hm=>hφ e he b hm ⟨hb.1.1,hb.1.2.1⟩⟩
  ·obtain ⟨q,hq,rfl⟩:=(hbne k).1 hk
   show bs (1000000 + q - 1000000) ≠ b
   rw [show 1000000 + q - 1000000 = q by omega]
   exact fun e=>hb.1.2.2 q hq e.symm
  ·show g.A0 b
   rw [hg1]
   exact Or.inl hb.2
 have hat:∀ (i:Nat) d v,(AF.ds l ++ bxA bx.flatten)[i]? = some d->(dvs ++ bvs.flatten)[i]? = some v->VR (zjs l bx) { g with β:=fun k=>bs (k - 1000000) } w (gVN i d) v:=fun i d v hd hv1=>by
  obtain ⟨b,d⟩:=d
  cases b with
  | false =>
   obtain ⟨u,e1,e2⟩:=zau.atR hv i d hd
   rw [e1] at hv1
   cases hv1
   exact zr5 hfree e2
  | true =>
   have h0:=hR.slots i
   have hj0:=zjd (AF.ds l ++ bxA bx.flatten) 0 i
   rw [Q4,hd] at hj0
   have h0':VR (zea (AF.ds l ++ bxA bx.flatten)) g w (zh6 0 (AF.ds l ++ bxA bx.flatten) i) _:=h0
   rw [hj0] at h0'
   have hlt:i < (dvs ++ bvs.flatten).length:=(List.getElem?_eq_some_iff.1 hv1).1
   have e:((⟨dvs ++ bvs.flatten⟩:Array Value) ++ Array.replicate ((AF.ds l ++ bxA bx.flatten).length - (dvs ++ bvs.flatten).length) undef).getD i (g.R0.ξ i) = v:=by
    rw [Array.getD_eq_getD_getElem?,Array.getElem?_append_left (by simpa using hlt)]
    simp only [List.getElem?_toArray,hv1,K2]
   rw [e] at h0'
   have hf:=zy2 hfs i d hd
   cases d with
   | one t=>exact zyh (σ:=zea (AF.ds l ++ bxA bx.flatten)) (σ':=zjs l bx) (g:=g) (g':={ g with β:=fun k=>bs (k - 1000000) }) rfl rfl hf h0'
   | agg ts=>obtain ⟨a,e1,e2⟩:=h0'; exact ⟨a,e1,ztq (σ:=zea (AF.ds l ++ bxA bx.flatten)) (σ':=zjs l bx) (g:=g) (g':={ g with β:=fun k=>bs (k - 1000000) }) rfl rfl hf e2⟩
 have hvl:=AF.vals_len bs l dvs hl
 refine ⟨rfl,by simp; omega,fun b hb=>?_,fun i=>?_,fun b cs hb=>?_,fun b hb=>?_,fun b b' hb hb' he=>?_,fun e x he ho=>?_,fun e x he ho=>?_,hR.slc,fun e he b hb=>?_,fun e he b hb=>?_,fun e he=>hR.nodup e he,fun e e' h1 h2 hne=>hR.apart e e' h1 h2 hne,fun e k he hk hm=>?_⟩
 ·show g.A0 b /\ g.R0 b
  rw [hg1,hg2]
  show (A b \/ _) /\ (b ∈ fp \/ _)
  by_cases hlt:b < w.heap.size
  ·by_cases hm:b ∈ fp
   ·exact ⟨Or.inr (Or.inr (Or.inl hm)),Or.inl hm⟩
   ·have : ∃ j,j < bx.length /\ b = bs j:=Classical.byContradiction fun hh=>hb ⟨hlt,hm,fun j hj e=>hh ⟨j,hj,e⟩⟩
    exact ⟨Or.inr (Or.inr (Or.inr this)),Or.inr (Or.inr this)⟩
  ·exact ⟨Or.inr (Or.inl (by omega)),Or.inr (Or.inl (by omega))⟩
 ·show VR _ _ _ (zkr 0 bx (zdp 0 0 l) i) _
  rcases ztc bx 0 (zdp 0 0 l) i with ⟨⟨q,h4,rfl⟩,h5⟩ | ⟨_,h5⟩
  ·rw [h5,Q4,Array.getD_eq_getD_getElem?,Array.getElem?_eq_none (by simp; omega)]
   refine ⟨?_,(hbne _).2 ⟨q,h4,rfl⟩⟩
   show (none:Option Value).getD (g.R0.ξ (1000000 + q)) = .pointer (some ⟨bs (1000000 + q - 1000000),0,none⟩)
   rw [hg2,show 1000000 + q - 1000000 = q by omega]
   exact h3 q h4
  ·rw [h5]
   by_cases hi:i < l.length
   ·obtain ⟨u,e1,e2⟩:=zij (σ:=zjs l bx) (g:={ g with β:=fun k=>bs (k - 1000000) }) (w:=w) (bs:=bs) (n:=bx.length) (fun j hj=>⟨(hbne _).2 ⟨j,hj,rfl⟩,by show bs (1000000 + j - 1000000) = bs j; rw [show 1000000 + j - 1000000 = j by omega]⟩) l 0 0 dvs hj hl (fun i d v e1 e2=>by
     rw [Q4]
     exact hat i d v (by rw [List.getElem?_append_left (List.getElem?_eq_some_iff.1 e1).1]; exact e1) (by rw [List.getElem?_append_left (List.getElem?_eq_some_iff.1 e2).1]; exact e2)) i hi
    rw [Q4] at e2
    rw [Array.getD_eq_getD_getElem?,Array.getElem?_append_left (by simp; omega)]
    simp only [List.getElem?_toArray,e1,K2]
    exact e2
   ·have:=zhk l 0 0 i (by omega)
    rw [Q4] at this
    rw [this]
    trivial
 ·obtain ⟨q,vs,ty,k1,k2,k3,k4⟩:=zr6 (σ:=zjs l bx) (g:={ g with β:=fun k=>bs (k - 1000000) }) bx bvs 0 (AF.ds l).length hbx (fun i p v e1 e2=>by
   have:=hat ((AF.ds l).length + i) (p.1,.one p.2) v (by rw [List.getElem?_append_right (by omega),show (AF.ds l).length + i - (AF.ds l).length = i by omega]; unfold bxA; rw [List.getElem?_map,e1]; rfl) (by rw [List.getElem?_append_right (by omega),show (AF.ds l).length + i - dvs.length = i by omega]; exact e2)
   rw [qp0] at this
   exact this) b cs hb
  rw [Q4] at k2 k3
  subst k2
  exact ⟨⟨vs⟩,ty,by show w.heap[bs (1000000 + q - 1000000)]? = _; rw [show 1000000 + q - 1000000 = q by omega]; exact k3,k4⟩
 ·obtain ⟨q,hq,rfl⟩:=(hbne b).1 hb
  intro h
  have h:=h.2.2 q hq
  exact h (show bs (1000000 + q - 1000000) = bs q by rw [show 1000000 + q - 1000000 = q by omega])
 ·obtain ⟨q,hq,rfl⟩:=(hbne b).1 hb
  obtain ⟨q',hq',rfl⟩:=(hbne b').1 hb'
  have he:bs (1000000 + q - 1000000) = bs (1000000 + q' - 1000000):=he
  rw [show 1000000 + q - 1000000 = q by omega,show 1000000 + q' - 1000000 = q' by omega] at he
  rw [hinj q q' hq hq' he]
 ·obtain ⟨ao,cap,e1,e2,e3,e4⟩:=hR.evs e x he ho
  refine ⟨ao,cap,e1,e2,e3,?_⟩
  rcases e4 with e4 | ⟨b,cells,ty,fps,j1,j2,j3,j4,j5⟩
  ·exact Or.inl e4
  ·rw [if_pos (hdeep e x he).1] at j5
   exact Or.inr ⟨b,cells,ty,fps,j1,j2,j3,j4,by rw [if_pos (hdeep e x he).1]; exact j5⟩
 ·rw [(hdeep e x he).2] at ho; cases ho
 ·exact hR.ebase e he b hb
 ·exact fun h=>hφ e he b hb ⟨h.1,h.2.1⟩
 ·obtain ⟨q,hq,rfl⟩:=(hbne k).1 hk
  have hm:bs (1000000 + q - 1000000) ∈ g.φ e:=hm
  rw [show 1000000 + q - 1000000 = q by omega] at hm
  exact hφ e he _ hm ⟨hblt q hq,hbf q hq⟩
def bxE (σ:St):Nat->Bxs->(List V->Prop)->Prop
 | _,[],K=>K []
 | j,b :: bs,K=>σ.sl (1000000 + j) = .one (.bx (1000000 + j) 0) /\ zat (σ.bx (1000000 + j)) fun cs=>cs.length = b.length /\ bxE σ (j + 1) bs fun vs=>K (cs.map .one ++ vs)
theorem CRs.ones {σ:St} {g:Gh} {w:World}:∀ {cs:List C} {vs:List Value},CRs σ g w cs vs->VRl σ g w (cs.map .one) vs
 | [],_,h=>h
 | c :: cs,_,h=>by obtain ⟨v,vs',rfl,h1,h2⟩:=h; exact ⟨v,vs',rfl,h1,CRs.ones h2⟩
theorem zte {n0:Nat->Prop} {N:Nat} {σ:St} {g:Gh} {a:Act} {w:World} {bs:Nat->Nat} (hR:Rel n0 N σ g a w) (hN:N <= 1000000):∀ {bx:Bxs} {j:Nat} {K:List V->Prop},(∀ q,q < bx.length->g.R0.ξ (1000000 + (j + q)) = qhz (bs (j + q)))->bxE σ j bx K →
  ∃ vs bvs,K vs /\ zzb w bs j bvs bx /\ VRl σ g w vs bvs.flatten /\ ∀ q,q < bx.length->σ.bx (1000000 + (j + q)) ≠ none /\ g.β (1000000 + (j + q)) = bs (j + q)
 | [],j,K,_,h=>⟨[],[],h,trivial,rfl,fun q hq=>by simp at hq⟩
 | b :: bx,j,K,hξ,h=>by
  obtain ⟨h1,h2⟩:=h
  obtain ⟨cs,h3,h4,h5⟩:=zaq h2
  obtain ⟨vs,bvs,k1,k2,k3,k4⟩:=zte hR hN (bx:=bx) (j:=j + 1) (fun q hq=>by have:=hξ (q + 1) (by simpa using hq); rw [show j + (q + 1) = j + 1 + q by omega] at this; exact this) h5
  have h0:=hR.slots (1000000 + j)
  rw [h1,Array.getD_eq_getD_getElem?,Array.getElem?_eq_none (by rw [hR.size]; omega)] at h0
  have hx:=hξ 0 (by simp)
  rw [Jz] at hx
  have h0:CR σ g w (.bx (1000000 + j) 0) (g.R0.ξ (1000000 + j)):=h0
  rw [hx] at h0
  have hβ:g.β (1000000 + j) = bs j:=by
   have:=h0.1
   unfold qhz at this
   simp only [Value.pointer.injEq,Qc] at this
   injection this with e
   exact e.symm
  obtain ⟨us,ty,j1,j2⟩:=hR.boxes _ cs h3
  rw [hβ] at j1
  refine ⟨_,us.toList :: bvs,k1,⟨by rw [j2.len,h4],⟨ty,j1⟩,k2⟩,VRl.append j2.ones k3,fun q hq=>?_⟩
  cases q with
  | zero=>exact ⟨h0.2,hβ⟩
  | succ q=>rw [show j + (q + 1) = j + 1 + q by omega]; exact k4 q (by simpa using hq)
def PB0 (P:Program) (rs:List ResultVar) (res:List (Bool × D)) (bx:Bxs) (pl:List (Nat × Nat × Nat)) (σ:St):Prop:=zat (zb4 P σ rs) fun vs=>bxE σ 0 bx fun cs=>gvA σ (fun _=>True) [] pl (vs ++ cs) (res ++ bxA bx.flatten)
def PB (P:Program) (rs:List ResultVar) (res:List (Bool × D)) (bx:Bxs) (e:Exit) (σ:St):Prop:=match e with
 | .normal=>PB0 P rs res bx [] σ \/ ∃ pl,PB0 P rs res bx pl σ
 | .ret=>PB0 P rs res bx [] σ \/ ∃ pl,PB0 P rs res bx pl σ
 | _=>False
theorem zmt {σ:St}:∀ {rs:List ResultVar} {vs:List V},zb4 P σ rs = some vs->vs.length = rs.length
 | [],vs,h=>by cases h; rfl
 | r :: rs,vs,h=>by
  unfold zb4 at h
  cases h1:qaz P σ r with
  | none=>rw [h1] at h; cases h
  | some v =>
   rw [h1] at h
   simp only [Kc] at h
   cases h2:zb4 P σ rs with
   | none=>rw [h2] at h; cases h
   | some us=>rw [h2] at h; cases h; simp [zmt h2]
theorem VRl.len {σ:St} {g:Gh} {w:World}:∀ {xs:List V} {vs:List Value},VRl σ g w xs vs->vs.length = xs.length
 | [],_,h=>by rw [show _ = [] from h]; rfl
 | x :: xs,_,h=>by obtain ⟨v,vs',rfl,_,h2⟩:=h; simp [VRl.len h2]
theorem zry {f:FuncId} {fn:Func} {c:Code} {bx bx':Bxs} {l:List AF} {res:List (Bool × D)} (hc:za7 P f) (hf:P.funcs[f]? = some fn) (hb:fn.body = some c) (hd:zbv fn.ntmps c = true) (hN:l.length <= fn.ntmps) (hN2:fn.ntmps <= 1000000) (hbl:bx'.length = bx.length) (hj:AF.okJ bx.length l = true) (hs:zbq (AF.ds l ++ bxA bx.flatten)) (hfs:gFS (AF.ds l ++ bxA bx.flatten) = true) (hrl:fn.results.toList.length = res.length)
  (h:ex P c [] (PB P fn.results.toList res bx') (zjs l bx)):PC P f bx l bx' res:=by
 refine ⟨hc,hbl,fun w bs bvs dvs fp tp A hinj hbf hbx hv hn hl=>?_⟩
 refine calls_of_wp hf hb ?_
 obtain ⟨g,hg,hR⟩:=qhd (N:=fn.ntmps) hinj hbf hbx hv hn hl hj hN hN2 hs hfs (ξ:=fun i=>if 1000000 <= i then qhz (bs (i - 1000000)) else undef) (fun i hi=>if_neg (by omega)) (fun i b=>by
  by_cases h:1000000 <= i
  ·rw [if_pos h]; exact fun e=>by cases e
  ·rw [if_neg h]; exact fun e=>by cases e) (fun j hj=>by
  rw [if_pos (by omega),show 1000000 + j - 1000000 = j by omega])
 refine wp_mono (zbs (w0:=w) c (zjs l bx) _ hd h g _ w hR (fun k hk=>hk.1) (Bk.refl _ _) hg) fun e a' w' hq=>?_
 obtain ⟨σ',g',h1,h2,h3,h4,h5⟩:=hq
 have hξ:∀ q,q < bx'.length->g'.R0.ξ (1000000 + (0 + q)) = qhz (bs (0 + q)):=fun q hq=>by
  rw [(Kt h5).2,Q4]
  show (if 1000000 <= 1000000 + q then qhz (bs (1000000 + q - 1000000)) else undef) = _
  rw [if_pos (by omega),show 1000000 + q - 1000000 = q by omega]
 have key:(∃ pl,PB0 P fn.results.toList res bx' pl σ')->∃ v,(results fn a'.tmps).run P w' = .ok v w' /\ ∃ us bvs' fp' tp',Ending.returned v = .returned (zb5 us) /\ zzb w' bs 0 bvs' bx' /\ us.length = res.length ∧
   zau w' (fun k=>(k < w'.heap.size /\ k ∉ fp' /\ ∀ j,j < bx.length->k ≠ bs j) /\ (A k \/ w.heap.size <= k \/ k ∈ fp)) (res ++ bxA bx'.flatten) (us ++ bvs'.flatten) fp' tp' /\ fp'.Nodup /\ (∀ b ∈ fp',b ∈ fp \/ w.heap.size <= b) /\ Bk (fun k=>k < w.heap.size /\ k ∉ fp /\ ∀ j,j < bx.length->k ≠ bs j) w w':=by
  rintro ⟨pl,hk⟩
  obtain ⟨vs,hvs,hk⟩:=zaq hk
  obtain ⟨us,r1,r2⟩:=zb3 h2 fn hvs
  obtain ⟨cs,bvs',k0,b1,b2,b3⟩:=zte (bs:=bs) h2 hN2 hξ hk
  obtain ⟨B,hB⟩:=h2.fam
  obtain ⟨s,k1,⟨tp',k2⟩,k3,k4⟩:=zfz h2 hB k0 (VRl.append r2 b2)
  rw [Kd] at k4
  have hsp:s.Pairwise okP:=(Jr.1 (k4 List.Pairwise.nil)).imp fun h=>h.symm
  have hin:∀ b ∈ bks B s,∃ e,σ'.On e /\ b ∈ g'.φ e:=fun b hb=>by
   obtain ⟨x,hx,hm⟩:=Jk.1 hb
   exact ⟨x.1,k3 x hx,hB.sub x.1 x.2 b (k3 x hx) hm⟩
  have hbβ:∀ j,j < bx.length->σ'.bx (1000000 + j) ≠ none /\ g'.β (1000000 + j) = bs j:=fun j hj=>by
   have:=b3 j (by omega)
   rwa [Q4] at this
  have hA:∀ b,zcj σ' g' w' b->(b < w'.heap.size /\ b ∉ bks B s /\ ∀ j,j < bx.length->b ≠ bs j) /\ (A b \/ w.heap.size <= b \/ b ∈ fp):=fun b hb=>by
   have hnb:∀ j,j < bx.length->b ≠ bs j:=fun j hj e=>hb.1.1 _ (hbβ j hj).1 (by rw [(hbβ j hj).2,e])
   refine ⟨⟨hb.1.2.2.1,fun hm=>?_,hnb⟩,?_⟩
   ·obtain ⟨e,ho,hm⟩:=hin b hm
    exact hb.2 e ho hm
   ·have h0:=hb.1.2.2.2
    rw [(Kt h5).1] at h0
    rcases h0 with h0 | h0 | h0 | ⟨j,hj,h0⟩
    ·exact Or.inl h0
    ·exact Or.inr (Or.inl h0)
    ·exact Or.inr (Or.inr h0)
    ·exact absurd h0 (hnb j hj)
  refine ⟨_,r1,us,bvs',bks B s,tp',rfl,b1,by rw [r2.len,<-hrl]; exact zmt hvs,zau.keepA hA k2,zen h2 hB k3 hsp,fun b hb=>?_,h4⟩
  obtain ⟨e,ho,hm⟩:=hin b hb
  have h0:=(h2.ebase e ho b hm).2
  rw [(Kt h5).2] at h0
  rcases h0 with h0 | h0 | ⟨j,hj,h0⟩
  ·exact Or.inl h0
  ·exact Or.inr h0
  ·have:=h2.ebx e _ ho (hbβ j hj).1
   rw [(hbβ j hj).2] at this
   exact absurd (h0 ▸ hm) this
 have key':∀ {Y:Prop},(PB0 P fn.results.toList res bx' [] σ' \/ ∃ pl,PB0 P fn.results.toList res bx' pl σ')->((∃ pl,PB0 P fn.results.toList res bx' pl σ')->Y)->Y:=fun h k=>h.elim (fun h=>k ⟨[],h⟩) k
 cases e with
 | normal=>exact ⟨h2.defers,key' h1 key⟩
 | ret=>exact ⟨h2.defers,key' h1 key⟩
 | exit _=>exact h1.elim
 | goto _=>exact h1.elim
 | panic _=>exact h1.elim
 | outgrown=>exact h1.elim
end
section
set_option maxRecDepth 4000
open Go.RowKit
variable {P:Program}
structure KeptB (W:List Nat) (σ τ:St):Prop where
 sl:∀ i,τ.sl i = .one .any \/ (τ.sl i = σ.sl i /\ (τ.sl i).okU τ)
 bx:∀ b cs,b ∉ W->τ.bx b = some cs->σ.bx b = some cs /\ qja τ cs
 bxW:∀ b ∈ W,σ.bx b ≠ none /\ τ.bx b ≠ none
 ev:∀ e x,τ.ev e = some x->σ.ev e = some x /\ x.on = true /\ x.deep = true
theorem Rel.givenB {W:List Nat} {n0:Nat->Prop} {N:Nat} {σ τ:St} {g g':Gh} {a:Act} {w w':World} (hR:Rel n0 N σ g a w) (hn0:LtK n0 w) (hK:KeptB W σ τ) {fp:List Nat} (hfp:∀ b ∈ fp,∃ e,σ.On e /\ τ.ev e = none /\ b ∈ g.φ e) (hbk:Bk (fun k=>k < w.heap.size /\ k ∉ fp /\ ∀ b ∈ W,k ≠ g.β b) w w')
  {ev':Nat->Option Ev} {F:List Nat} (hn:New τ g (fun b=>b ∈ fp \/ w.heap.size <= b) w' ev' g' F) (hW:∀ b ∈ W,∀ cs,τ.bx b = some cs->∃ vs ty,w'.heap[g.β b]? = some (.cells vs ty (0,0)) /\ CRs ⟨τ.sl,τ.bx,ev'⟩ g' w' cs vs.toList):Rel n0 N ⟨τ.sl,τ.bx,ev'⟩ g' a w':=by
 have hOnσ:∀ e,τ.On e->σ.On e:=fun e ⟨x,hx,ho⟩=>⟨x,(hK.ev e x hx).1,ho⟩
 have hlt:∀ e,σ.On e->∀ b ∈ g.φ e,b < w.heap.size:=fun e ⟨x,hx,ho⟩=>(hR.evs e x hx ho).lt
 have hbne:∀ b,τ.bx b ≠ none->σ.bx b ≠ none:=fun b hb=>by
  by_cases hbW:b ∈ W
  ·exact (hK.bxW b hbW).1
  obtain ⟨cs,hcs⟩:=Kr.1 hb
  rw [(hK.bx b cs hbW hcs).1]; simp
 have hfR:∀ b ∈ fp,g.A0 b /\ g.R0 b /\ ¬ n0 b:=fun b hb=>by
  obtain ⟨e,ho,_,hm⟩:=hfp b hb
  obtain ⟨k1,k2⟩:=hR.ebase e ho b hm
  exact ⟨k1,k2,hR.etop e ho b hm⟩
 have hNB:∀ b,(b ∈ fp \/ w.heap.size <= b)->g.A0 b /\ g.R0 b /\ ¬ n0 b:=fun b hb=>by
  rcases hb with hb | hb
  ·exact hfR b hb
  ·have hnn:=hn0.new hb
   exact ⟨(hR.anew b hnn).1,(hR.anew b hnn).2,hnn⟩
 have hβfp:∀ b,τ.bx b ≠ none->¬ (g.β b ∈ fp \/ w.heap.size <= g.β b):=fun b hb h=>by
  rcases h with h | h
  ·obtain ⟨e,ho,_,hm⟩:=hfp _ h
   exact hR.ebx e b ho (hbne b hb) hm
  ·have:=hR.lt (hbne b hb); omega
 have hφfp:∀ e,τ.On e->∀ b ∈ g.φ e,¬ (b ∈ fp \/ w.heap.size <= b):=fun e ho b hb h=>by
  rcases h with h | h
  ·obtain ⟨e',ho',hno,hm⟩:=hfp b h
   refine hR.apart e e' (hOnσ e ho) ho' (fun hee=>?_) b hb hm
   subst hee
   obtain ⟨x,hx,_⟩:=ho
   rw [hx] at hno; cases hno
  ·have:=hlt e (hOnσ e ho) b hb; omega
 have hon:∀ e,St.On ⟨τ.sl,τ.bx,ev'⟩ e->τ.ev e ≠ none->τ.On e:=fun e ⟨x,hx,ho⟩ hee=>⟨x,(hn.old e hee).1.symm.trans hx,ho⟩
 have hkeep:∀ b,b < w.heap.size->b ∉ fp->(∀ k ∈ W,b ≠ g.β k)->w'.heap[b]? = w.heap[b]?:=fun b h1 h2 h3=>hbk.block b ⟨h1,h2,h3⟩
 have hrn:∀ b,zcj σ g w b->w'.heap[b]? = w.heap[b]? /\ zcj ⟨τ.sl,τ.bx,ev'⟩ g' w' b:=fun b hb=>by
  obtain ⟨hf,hr⟩:=hb
  have hnb:∀ e,St.On ⟨τ.sl,τ.bx,ev'⟩ e->b ∉ g'.φ e:=fun e ho hm=>by
   by_cases hee:τ.ev e = none
   ·obtain ⟨x,hx,_⟩:=ho
    rcases ((hn.new e x hee hx).2.2.1 b hm).1 with h | h
    ·obtain ⟨e',ho',_,hm'⟩:=hfp b h
     exact hr e' ho' hm'
    ·have:=hf.2.2.1; omega
   ·rw [(hn.old e hee).2.2] at hm
    exact hr e (hOnσ e (hon e ho hee)) hm
  refine ⟨hkeep b hf.2.2.1 (fun hm=>by obtain ⟨e',ho',_,hm'⟩:=hfp b hm; exact hr e' ho' hm') (fun k hk e=>hf.1 k (hK.bxW k hk).1 e.symm),⟨fun k hk=>by rw [hn.β]; exact hf.1 k (hbne k hk),fun e x hx hon' hh=>hnb e ⟨x,hx,hon'⟩ (List.mem_of_mem_head? hh),Jb hf.2.2.1 hbk.size,by rw [hn.A0]; exact hf.2.2.2⟩,hnb⟩
 have hψ:∀ e,τ.ev e ≠ none->ev' e = τ.ev e /\ g'.ψ e = g.ψ e:=fun e he=>⟨(hn.old e he).1,(hn.old e he).2.1⟩
 refine ⟨by rw [hR.defers],hR.size,by rw [hn.A0,hn.R0]; exact hR.anew,fun i=>?_,fun b cs hb=>?_,fun b hb=>by rw [hn.β]; exact hR.base b (hbne b hb),fun b b' h1 h2 h3=>by rw [hn.β] at h3; exact hR.inj b b' (hbne b h1) (hbne b' h2) h3,fun e x he ho=>?_,fun e x he ho=>?_,hn.slc,fun e he b hb=>?_,fun e he b hb=>?_,fun e he=>?_,fun e e' h1 h2 hne b hb1 hb2=>?_,fun e k he hk hm=>?_⟩
 ·rcases hK.sl i with h | ⟨h,hok⟩
  ·rw [show (⟨τ.sl,τ.bx,ev'⟩:St).sl i = .one .any from h]; trivial
  ·rw [hn.R0]
   show VR _ g' w' (τ.sl i) _
   have hs:=hR.slots i
   rw [<-h] at hs
   exact qmy hn.β hψ hrn hok hs
 ·by_cases hbW:b ∈ W
  ·rw [hn.β]; exact hW b hbW cs hb
  obtain ⟨hb1,hb2⟩:=hK.bx b cs hbW hb
  obtain ⟨vs,ty,k1,k2⟩:=hR.boxes b cs hb1
  have hne:τ.bx b ≠ none:=by rw [show τ.bx b = some cs from hb]; simp
  have hnf:=hβfp b hne
  exact ⟨vs,ty,by rw [hn.β,hkeep _ (hR.lt (hbne b hne)) (fun h=>hnf (Or.inl h)) (fun k hk e=>hbW (hR.inj b k (hbne b hne) (hK.bxW k hk).1 e ▸ hk))]; exact k1,zlq hn.β hψ hrn hb2 k2⟩
 ·by_cases hee:τ.ev e = none
  ·obtain ⟨⟨k1,_,k0⟩,k2,k3,k4⟩:=hn.new e x hee he
   rw [k0]
   unfold zaz at k2
   obtain ⟨ao,cap,j1,j2,j3,j4⟩:=k2
   refine ⟨ao,cap,j1,j2,j3,?_⟩
   rcases j4 with j4 | ⟨b,cells,ty,fps,j4,j5,j6,j7,j8⟩
   ·exact Or.inl j4
   ·exact Or.inr ⟨b,cells,ty,fps,j4,j5,j6,j7,by rw [if_pos k1]; exact j8⟩
  ·obtain ⟨o1,o2,o3⟩:=hn.old e hee
   have hx:τ.ev e = some x:=o1.symm.trans he
   obtain ⟨k1,k2,k3⟩:=hK.ev e x hx
   have hE:=hR.evs e x k1 k2
   have hno:=hφfp e ⟨x,hx,k2⟩
   have hl:=hlt e ⟨x,k1,k2⟩
   have hkp:∀ b ∈ g.φ e,w'.heap[b]? = w.heap[b]?:=fun b hb=>hkeep b (hl b hb) (fun h=>hno b hb (Or.inl h)) fun k' hk' e=>hR.ebx _ k' ⟨x,k1,k2⟩ (hK.bxW k' hk').1 (e ▸ hb)
   rw [o2,o3]
   obtain ⟨ao,cap,r1,r2,r3,r4⟩:=hE
   refine ⟨ao,cap,r1,r2,r3,?_⟩
   rcases r4 with r4 | ⟨b,cells,ty,fps,r4,r5,r6,r7,r8⟩
   ·exact Or.inl r4
   ·rw [if_pos k3] at r8
    exact Or.inr ⟨b,cells,ty,fps,r4,r5,by rw [hkp b (by rw [r5]; simp)]; exact r6,r7,by rw [if_pos k3]; exact zak.keep cells 0 x.sz x.rows fps r8 fun b' hb'=>hkp b' (by rw [r5]; simp [hb'])⟩
 ·by_cases hee:τ.ev e = none
  ·rw [(hn.new e x hee he).1.2.1] at ho; cases ho
  ·have hx:τ.ev e = some x:=(hn.old e hee).1.symm.trans he
   rw [(hK.ev e x hx).2.1] at ho; cases ho
 ·rw [hn.A0,hn.R0]
  by_cases hee:τ.ev e = none
  ·obtain ⟨x,hx,_⟩:=he
   have:=hNB b ((hn.new e x hee hx).2.2.1 b hb).1
   exact ⟨this.1,this.2.1⟩
  ·rw [(hn.old e hee).2.2] at hb
   exact hR.ebase e (hOnσ e (hon e he hee)) b hb
 ·by_cases hee:τ.ev e = none
  ·obtain ⟨x,hx,_⟩:=he
   exact (hNB b ((hn.new e x hee hx).2.2.1 b hb).1).2.2
  ·rw [(hn.old e hee).2.2] at hb
   exact hR.etop e (hOnσ e (hon e he hee)) b hb
 ·by_cases hee:τ.ev e = none
  ·obtain ⟨x,hx,_⟩:=he
   exact (hn.new e x hee hx).2.2.2
  ·rw [(hn.old e hee).2.2]
   exact hR.nodup e (hOnσ e (hon e he hee))
 ·by_cases hee:τ.ev e = none
  ·obtain ⟨x,hx,_⟩:=h1
   by_cases hee':τ.ev e' = none
   ·obtain ⟨x',hx',_⟩:=h2
    exact hn.apart e e' hee hee' (by rw [show ev' e = some x from hx]; simp) (by rw [show ev' e' = some x' from hx']; simp) hne b hb1 hb2
   ·rw [(hn.old e' hee').2.2] at hb2
    exact hφfp e' (hon e' h2 hee') b hb2 ((hn.new e x hee hx).2.2.1 b hb1).1
  ·rw [(hn.old e hee).2.2] at hb1
   by_cases hee':τ.ev e' = none
   ·obtain ⟨x',hx',_⟩:=h2
    exact hφfp e (hon e h1 hee) b hb1 ((hn.new e' x' hee' hx').2.2.1 b hb2).1
   ·rw [(hn.old e' hee').2.2] at hb2
    exact hR.apart e e' (hOnσ e (hon e h1 hee)) (hOnσ e' (hon e' h2 hee')) hne b hb1 hb2
 ·rw [hn.β] at hm
  by_cases hee:τ.ev e = none
  ·obtain ⟨x,hx,_⟩:=he
   exact hβfp k hk ((hn.new e x hee hx).2.2.1 _ hm).1
  ·rw [(hn.old e hee).2.2] at hm
   exact hR.ebx e k (hOnσ e (hon e he hee)) (hbne k hk) hm
def mtK (W:List Nat):List AF->List V->(List V->Prop)->Prop
 | [],[],K=>K []
 | .d _ _ :: l,v :: vs,K=>mtK W l vs fun u=>K (v :: u)
 | .p j :: l,.one (.bx b o) :: vs,K=>W[j]? = some b /\ o = 0 /\ mtK W l vs K
 | .fn g js :: l,.one (.fn g' bs) :: vs,K=>g' = g /\ js.map (fun j=>W[j]?) = bs.map some /\ mtK W l vs K
 | _,_,_=>False
theorem qdv {g:Gh} {W:List Nat} {bs:Nat->Nat} (hb:∀ j b,W[j]? = some b->bs j = g.β b):∀ (js bs':List Nat),js.map (fun j=>W[j]?) = bs'.map some->bs'.map (fun b=>Value.pointer (some ⟨g.β b,0,none⟩)) = js.map fun j=>qhz (bs j)
 | [],[],_=>rfl
 | [],_ :: _,e=>by cases e
 | _ :: _,[],e=>by cases e
 | j :: js,b :: bs',e=>by
  simp only [Qi,J4] at e
  rw [Qi,Qi,qdv hb js bs' e.2,hb j b e.1]
  rfl
theorem zfq {σ:St} {g:Gh} {w:World} {W:List Nat} {bs:Nat->Nat} (hb:∀ j b,W[j]? = some b->bs j = g.β b):∀ {l:List AF} {xs:List V} {K:List V->Prop} {vs:List Value},mtK W l xs K->VRl σ g w xs vs →
  ∃ us dvs,K us /\ VRl σ g w us dvs /\ dvs.length = (AF.ds l).length /\ vs = AF.vals bs l dvs
 | [],[],K,vs,h,hv=>⟨[],[],h,rfl,rfl,hv⟩
 | .d _ _ :: l,x :: xs,K,vs,h,hv=>by
  obtain ⟨v,vs',rfl,h1,h2⟩:=hv
  obtain ⟨us,dvs,k1,k2,k3,k4⟩:=zfq hb (l:=l) h h2
  exact ⟨x :: us,v :: dvs,k1,⟨v,dvs,rfl,h1,k2⟩,by simp [AF.ds,k3],by rw [k4]; rfl⟩
 | .p j :: l,.one (.bx b o) :: xs,K,vs,h,hv=>by
  obtain ⟨v,vs',rfl,h1,h2⟩:=hv
  obtain ⟨e1,rfl,h⟩:=h
  obtain ⟨us,dvs,k1,k2,k3,k4⟩:=zfq hb (l:=l) h h2
  refine ⟨us,dvs,k1,k2,k3,?_⟩
  have h1:CR σ g w (.bx b 0) v:=h1
  rw [k4,h1.1,<-hb j b e1]
  rfl
 | .fn f js :: l,.one (.fn f' bs') :: xs,K,vs,h,hv=>by
  obtain ⟨v,vs',rfl,h1,h2⟩:=hv
  obtain ⟨rfl,e1,h⟩:=h
  obtain ⟨us,dvs,k1,k2,k3,k4⟩:=zfq hb (l:=l) h h2
  refine ⟨us,dvs,k1,k2,k3,?_⟩
  have h1:CR σ g w (.fn f' bs') v:=h1
  rw [k4,h1.1]
  rw [qdv hb js bs' e1]
  rfl
 | .d _ _ :: _,[],_,_,h,_=>h.elim
 | .p _ :: _,[],_,_,h,_=>h.elim
 | .fn _ _ :: _,[],_,_,h,_=>h.elim
 | [],_ :: _,_,_,h,_=>h.elim
 | .p _ :: _,.agg _ :: _,_,_,h,_=>h.elim
 | .p _ :: _,.tup _ :: _,_,_,h,_=>h.elim
 | .fn _ _ :: _,.agg _ :: _,_,_,h,_=>h.elim
 | .fn _ _ :: _,.tup _ :: _,_,_,h,_=>h.elim
 | .p _ :: _,.one (.t _) :: _,_,_,h,_=>h.elim
 | .p _ :: _,.one (.nl _) :: _,_,_,h,_=>h.elim
 | .p _ :: _,.one (.ow _ _) :: _,_,_,h,_=>h.elim
 | .p _ :: _,.one (.el _ _) :: _,_,_,h,_=>h.elim
 | .p _ :: _,.one (.eo _ _ _ _ _) :: _,_,_,h,_=>h.elim
 | .p _ :: _,.one (.fn _ _) :: _,_,_,h,_=>h.elim
 | .p _ :: _,.one (.cv _) :: _,_,_,h,_=>h.elim
 | .p _ :: _,.one .any :: _,_,_,h,_=>h.elim
 | .p _ :: _,.one (.rn _) :: _,_,_,h,_=>h.elim
 | .p _ :: _,.one (.er _ _) :: _,_,_,h,_=>h.elim
 | .fn _ _ :: _,.one (.t _) :: _,_,_,h,_=>h.elim
 | .fn _ _ :: _,.one (.nl _) :: _,_,_,h,_=>h.elim
 | .fn _ _ :: _,.one (.ow _ _) :: _,_,_,h,_=>h.elim
 | .fn _ _ :: _,.one (.el _ _) :: _,_,_,h,_=>h.elim
 | .fn _ _ :: _,.one (.eo _ _ _ _ _) :: _,_,_,h,_=>h.elim
 | .fn _ _ :: _,.one (.bx _ _) :: _,_,_,h,_=>h.elim
 | .fn _ _ :: _,.one (.cv _) :: _,_,_,h,_=>h.elim
 | .fn _ _ :: _,.one .any :: _,_,_,h,_=>h.elim
 | .fn _ _ :: _,.one (.rn _) :: _,_,_,h,_=>h.elim
 | .fn _ _ :: _,.one (.er _ _) :: _,_,_,h,_=>h.elim
def qbg (σ:St):List Nat->Bxs->(List V->Prop)->Prop
 | [],[],K=>K []
 | k :: W,b :: bx,K=>zat (σ.bx k) fun cs=>cs.length = b.length /\ qbg σ W bx fun l=>K (cs.map .one ++ l)
 | _,_,_=>False
theorem zjy {n0:Nat->Prop} {N:Nat} {σ:St} {g:Gh} {a:Act} {w:World} (hR:Rel n0 N σ g a w) {bs:Nat->Nat}:∀ {W:List Nat} {bx:Bxs} {j:Nat} {K:List V->Prop},(∀ i b,W[i]? = some b->bs (j + i) = g.β b)->qbg σ W bx K →
  ∃ l bvs,K l /\ VRl σ g w l bvs.flatten /\ zzb w bs j bvs bx /\ W.length = bx.length /\ ∀ b ∈ W,σ.bx b ≠ none
 | [],[],j,K,_,h=>⟨[],[],h,rfl,trivial,rfl,fun b hb=>by simp at hb⟩
 | k :: W,b :: bx,j,K,hb,h=>by
  obtain ⟨cs,h1,h2,h3⟩:=zaq h
  obtain ⟨l,bvs,k1,k2,k3,k4,k5⟩:=zjy hR (W:=W) (bx:=bx) (j:=j + 1) (fun i b hi=>by have:=hb (i + 1) b (by simpa using hi); rw [show j + (i + 1) = j + 1 + i by omega] at this; exact this) h3
  obtain ⟨us,ty,j1,j2⟩:=hR.boxes k cs h1
  have hk:=hb 0 k rfl
  rw [Jz] at hk
  refine ⟨_,us.toList :: bvs,k1,VRl.append j2.ones k2,⟨by rw [j2.len,h2],⟨ty,by rw [hk]; exact j1⟩,k3⟩,by simp [k4],fun x hx=>?_⟩
  rcases Qu.1 hx with rfl | hx
  ·rw [h1]; simp
  ·exact k5 x hx
 | [],_ :: _,_,_,_,h=>h.elim
 | _ :: _,[],_,_,_,h=>h.elim
theorem qf3 {σ:St} {K K':List V->Prop} (hK:∀ l,K l->K' l):∀ {W:List Nat} {bx:Bxs},qbg σ W bx K->qbg σ W bx K':=fun {W}=>by
 induction W generalizing K K' with
 | nil=>intro bx h; cases bx with
  | nil=>exact hK _ h
  | cons _ _=>exact h.elim
 | cons k W ih=>intro bx h; cases bx with
  | nil=>exact h.elim
  | cons b bx =>
   obtain ⟨cs,h1,h2,h3⟩:=zaq h
   show zat (σ.bx k) _
   rw [h1]
   exact ⟨h2,ih (fun l=>hK _) h3⟩
theorem zw0 {W:List Nat}:∀ {l:List AF} {xs:List V} {K K':List V->Prop},(∀ u,K u->K' u)->mtK W l xs K->mtK W l xs K':=fun {l}=>by
 induction l with
 | nil=>intro xs K K' hK h; cases xs with
  | nil=>exact hK _ h
  | cons _ _=>exact h.elim
 | cons a l ih=>intro xs K K' hK h; cases xs with
  | nil=>cases a <;> exact h.elim
  | cons x xs =>
   cases a with
   | d b y=>exact ih (fun u=>hK _) h
   | p j =>
    cases x with
    | one c=>cases c <;> first | exact h.elim | exact ⟨h.1,h.2.1,ih hK h.2.2⟩
    | agg _=>exact h.elim
    | tup _=>exact h.elim
   | fn g js =>
    cases x with
    | one c=>cases c <;> first | exact h.elim | exact ⟨h.1,h.2.1,ih hK h.2.2⟩
    | agg _=>exact h.elim
    | tup _=>exact h.elim
def zhs (d:Nat):Nat->List Nat->Bxs->(Nat->Option (List C))->(Nat->Option (List C))
 | m,k :: W,b :: bx,f=>upd (zhs d (m + b.length) W bx f) k (some (mC d m b))
 | _,_,_,f=>f
theorem zla (d:Nat):∀ (W:List Nat) (bx:Bxs) (m:Nat) (f:Nat->Option (List C)) (b:Nat),b ∉ W->zhs d m W bx f b = f b
 | [],_,_,_,_,_=>by unfold zhs; rfl
 | k :: W,[],_,_,_,_=>by unfold zhs; rfl
 | k :: W,c :: bx,m,f,b,hb=>by
  unfold zhs
  rw [zam _ _ (fun e=>hb (by simp [e]))]
  exact zla d W bx _ f b fun h=>hb (by simp [h])
theorem zu7 (d:Nat):∀ (W:List Nat) (bx:Bxs) (m:Nat) (f:Nat->Option (List C)) (b:Nat),W.length = bx.length->b ∈ W->zhs d m W bx f b ≠ none
 | [],_,_,_,_,_,hb=>by simp at hb
 | k :: W,[],_,_,_,hl,_=>by simp at hl
 | k :: W,c :: bx,m,f,b,hl,hb=>by
  unfold zhs
  by_cases h:b = k
  ·subst h; rw [zag]; simp
  ·rw [zam _ _ h]
   exact zu7 d W bx _ f b (by simpa using hl) ((Qu.1 hb).resolve_left h)
theorem zj2 {σ:St} {g:Gh} {w:World} {bs:Nat->Nat} (d:Nat) {β:Nat->Nat}:∀ (W:List Nat) (bx:Bxs) (bvs:List (List Value)) (j m:Nat) (f:Nat->Option (List C)),(∀ i b,W[i]? = some b->bs (j + i) = β b)->zzb w bs j bvs bx->CRs σ g w (mC d m bx.flatten) bvs.flatten->W.length = bx.length →
  ∀ b ∈ W,∀ cs,zhs d m W bx f b = some cs->∃ vs ty,w.heap[β b]? = some (.cells vs ty (0,0)) /\ CRs σ g w cs vs.toList
 | [],_,_,_,_,_,_,_,_,_,b,hb,_,_=>by simp at hb
 | k :: W,[],_,_,_,_,_,_,_,hl,_,_,_,_=>by simp at hl
 | k :: W,c :: bx,[],_,_,_,_,h0,_,_,_,_,_,_=>h0.elim
 | k :: W,c :: bx,vs :: bvs,j,m,f,hβ,h0,hc,hl,b,hb,cs,hs=>by
  obtain ⟨h1,⟨ty,h2⟩,h3⟩:=h0
  rw [Q9,Q9,zgz] at hc
  obtain ⟨v1,v2,e,c1,c2⟩:=hc.split
  obtain ⟨e1,e2⟩:=Jx e (by rw [c1.len,zrm,h1])
  subst e1 e2
  unfold zhs at hs
  by_cases h:b = k
  ·subst h
   rw [zag] at hs
   cases hs
   have:=hβ 0 b rfl
   rw [Jz] at this
   exact ⟨⟨vs⟩,ty,by rw [<-this]; exact h2,c1⟩
  ·rw [zam _ _ h] at hs
   exact zj2 d W bx bvs (j + 1) (m + c.length) f (fun i b hi=>by have:=hβ (i + 1) b (by simpa using hi); rw [show j + (i + 1) = j + 1 + i by omega] at this; exact this) h3 c2 (by simpa using hl) b ((Qu.1 hb).resolve_left h) cs hs
def St.callP (σ:St) (d:Nat) (W:List Nat) (bx':Bxs) (res:List (Bool × D)):St:={ sl:=upd σ.sl d (zm4 (mD d 0 res)),bx:=zhs d (zbg res).length W bx' σ.bx,ev:=mE d 0 (zbg res ++ bx'.flatten) σ.ev }
theorem CRs.split_flat {σ:St} {g:Gh} {w w':World} {A:Nat->Prop} {d m:Nat} {l:List (Bool × T)} {c:Bxs} {us vs:List Value} (h:CRs σ g w (mC d 0 (l ++ c.flatten)) (us ++ vs)) (hl:us.length = l.length):CRs σ g w (mC d 0 l) us /\ CRs σ g w (mC d l.length c.flatten) vs:=by
 rw [zgz] at h
 obtain ⟨v1,v2,e,c1,c2⟩:=h.split
 obtain ⟨e1,e2⟩:=Jx e (by rw [c1.len,zrm,hl])
 subst e1 e2
 rw [Q4] at c2
 exact ⟨c1,c2⟩
theorem zau.one_vals {w:World} {A:Nat->Prop}:∀ {ds:List (Bool × D)} {vs:List Value} {fp tp:List Nat},zau w A ds vs fp tp->(vs.flatMap fun u=>u.cells.toList).length = (zbg ds).length:=fun {ds vs fp tp} h=>by
 obtain ⟨tp',h'⟩:=h.flat
 rw [zau.len h']
 unfold bxA
 rw [Qb]
theorem qgz {W:List Nat} {o:Oper} {σ:St} {τs:Nat->V} {τe:Nat->Option Ev} {τb:Nat->Option (List C)} {x:Operand} {asx:Array Operand} {ts:Array TypeId} {f:FuncId} {cvs:List V} {d:Nat} {bx bx':Bxs} {l:List AF} {res:List (Bool × D)} {ps:List (Nat × Nat × Nat)} (ho:o.op = .call ⟨.value x,asx,ts⟩) (hd:o.dst = some d)
  (h:PC P f bx l bx' res) (hc:zaw (σ.get P 0 x) = some (f,cvs)) (hK:KeptB W σ ⟨τs,zhs d (zbg res).length W bx' τb,τe⟩) (hWn:W.Nodup)
  (hv:mtK W l (σ.gets P asx ts ++ cvs) fun us=>qbg σ W bx fun cs=>gvA σ (fun u=>∀ s ∈ u,τe s.1 = none) [] ps (us ++ cs) (AF.ds l ++ bxA bx.flatten)) (hf:mF d 0 (zbg res ++ bx'.flatten) τe):zah P o σ (St.callP ⟨τs,τb,τe⟩ d W bx' res):=by
 intro n0 N g a w hR hn hdN
 obtain ⟨vs,h1,h2⟩:=zdf hR ho hc h.1
 unfold Oper.wp
 rw [h1]
 obtain ⟨B,hB⟩:=hR.fam
 let bs:Nat->Nat:=fun j=>g.β (W.getD j 0)
 have hbs:∀ j b,W[j]? = some b->bs j = g.β b:=fun j b hj=>by show g.β (W.getD j 0) = _; rw [List.getD_eq_getElem?_getD,hj]; rfl
 obtain ⟨us,dvs,a1,a2,a3,rfl⟩:=zfq hbs hv h2
 obtain ⟨cs,bvs,b1,b2,b3,b4,b5⟩:=zjy hR (bs:=bs) (j:=0) (fun i b hi=>by rw [Q4]; exact hbs i b hi) a1
 obtain ⟨s,k1,⟨tp,k2⟩,k3,k4⟩:=zfz hR hB b1 (VRl.append a2 b2)
 rw [Kd] at k1 k4
 have hsp:s.Pairwise okP:=(Jr.1 (k4 List.Pairwise.nil)).imp fun h=>h.symm
 have hnd:=zen hR hB k3 hsp
 have hfp:∀ b ∈ bks B s,∃ e,σ.On e /\ τe e = none /\ b ∈ g.φ e:=fun b hb=>by
  obtain ⟨x,hx,hm⟩:=Jk.1 hb
  exact ⟨x.1,k3 x hx,k1 x (List.mem_reverse.2 hx),hB.sub x.1 x.2 b (k3 x hx) hm⟩
 have hfn:∀ b,zcj σ g w b->b ∉ bks B s:=fun b hb hm=>by obtain ⟨e,h1,_,h3⟩:=hfp b hm; exact hb.2 e h1 h3
 have hWj:∀ j,j < bx.length->∃ b,W[j]? = some b /\ b ∈ W /\ bs j = g.β b:=fun j hj=>by
  have hlt:j < W.length:=by omega
  exact ⟨W[j],List.getElem?_eq_getElem hlt,Qe hlt,hbs j _ (List.getElem?_eq_getElem hlt)⟩
 have hWb:∀ b ∈ W,∃ j,j < bx.length /\ bs j = g.β b:=fun b hb=>by
  obtain ⟨j,hj,rfl⟩:=Jl hb
  exact ⟨j,by omega,hbs j _ (List.getElem?_eq_getElem hj)⟩
 have hinj:∀ i j,i < bx.length->j < bx.length->bs i = bs j->i = j:=fun i j hi hj he=>by
  obtain ⟨b,e1,e2,e3⟩:=hWj i hi
  obtain ⟨c,f1,f2,f3⟩:=hWj j hj
  have:b = c:=hR.inj b c (b5 b e2) (b5 c f2) (by rw [<-e3,<-f3]; exact he)
  subst this
  have hi':i < W.length:=by omega
  have hj':j < W.length:=by omega
  rw [List.getElem?_eq_getElem hi'] at e1
  rw [List.getElem?_eq_getElem hj'] at f1
  exact (List.getElem_inj hWn).1 ((Jy e1).trans (Jy f1).symm)
 have hbf:∀ j,j < bx.length->bs j ∉ bks B s:=fun j hj hm=>by
  obtain ⟨b,_,e2,e3⟩:=hWj j hj
  obtain ⟨e,h1,_,h3⟩:=hfp _ hm
  exact hR.ebx e b h1 (b5 b e2) (e3 ▸ h3)
 have hfb:∀ b,zcj σ g w b->∀ j,j < bx.length->b ≠ bs j:=fun b hb j hj e=>by
  obtain ⟨c,_,e2,e3⟩:=hWj j hj
  exact hb.1.1 c (b5 c e2) (by rw [<-e3,e])
 refine (h.2.2 w bs bvs dvs (bks B s) tp (zcj σ g w) hinj hbf b3 (zau.keepA (fun b hb=>⟨⟨hb.1.2.2.1,hfn b hb,hfb b hb⟩,hb⟩) k2) hnd a3).mono ?_
 rintro e w' ⟨us',bvs',fp',tp',rfl,hbx',hlu,o1,o2,o3,hbk⟩
 obtain ⟨v1,v2,f1,f2,t1,t2,ev,ef,et,p1,p2⟩:=zau.split o1
 obtain ⟨rfl,rfl⟩:=Jx ev (by rw [hlu,zau.len p1])
 subst ef
 obtain ⟨t1',p1'⟩:=p1.flat
 have pp:=zau.append p1' p2
 rw [<-zhn] at pp
 have hnew:=New.refl ⟨τs,zhs d (zbg res).length W bx' τb,τe⟩ g (fun b=>b ∈ bks B s \/ w.heap.size <= b) w' hR.slc
 obtain ⟨g',q1,q2,q3⟩:=New.mix (τ:=⟨τs,zhs d (zbg res).length W bx' τb,τe⟩) (g:=g) (NB:=fun b=>b ∈ bks B s \/ w.heap.size <= b) (w':=w') d (zbg res ++ bx'.flatten) _ (f1 ++ f2) _ 0 τe g [] hnew hf pp o2 (fun b hb'=>⟨o3 b hb',by simp⟩)
 have hbk':Bk (fun k=>k < w.heap.size /\ k ∉ bks B s /\ ∀ b ∈ W,k ≠ g.β b) w w':=⟨hbk.os,hbk.tape,hbk.output,hbk.size,fun k hk=>hbk.block k ⟨hk.1,hk.2.1,fun j hj e=>by
  obtain ⟨c,_,e2,e3⟩:=hWj j hj
  exact hk.2.2 c e2 (by rw [<-e3,e])⟩⟩
 have hfree:∀ k,((k < w'.heap.size /\ k ∉ f1 ++ f2 /\ ∀ j,j < bx.length->k ≠ bs j) /\ (zcj σ g w k \/ w.heap.size <= k \/ k ∈ bks B s))->zcj ⟨τs,zhs d (zbg res).length W bx' τb,mE d 0 (zbg res ++ bx'.flatten) τe⟩ g' w' k:=fun k hk=>by
  have hOnσ:∀ e,St.On ⟨τs,zhs d (zbg res).length W bx' τb,τe⟩ e->σ.On e:=fun e ⟨x,hx,ho⟩=>⟨x,(hK.ev e x hx).1,ho⟩
  have hno:∀ e,St.On ⟨τs,zhs d (zbg res).length W bx' τb,mE d 0 (zbg res ++ bx'.flatten) τe⟩ e->k ∉ g'.φ e:=fun e ho' hm=>by
   by_cases hee:τe e = none
   ·obtain ⟨x,hx,_⟩:=ho'
    have:=((q1.new e x hee hx).2.2.1 k hm).2
    rw [Kl] at this
    exact hk.1.2.1 this
   ·rw [(q1.old e hee).2.2] at hm
    obtain ⟨x,hx,hon⟩:=ho'
    have ho2:St.On ⟨τs,zhs d (zbg res).length W bx' τb,τe⟩ e:=⟨x,(q1.old e hee).1.symm.trans hx,hon⟩
    rcases hk.2 with h | h | h
    ·exact h.2 e (hOnσ e ho2) hm
    ·obtain ⟨y,hy,hyo⟩:=hOnσ e ho2
     have:=(hR.evs e y hy hyo).lt k hm; omega
    ·obtain ⟨e',h1,h2,h3⟩:=hfp k h
     refine hR.apart e e' (hOnσ e ho2) h1 (fun ee=>?_) k hm h3
     subst ee
     obtain ⟨y,hy,_⟩:=ho2
     have hy:τe e = some y:=hy
     rw [h2] at hy; cases hy
  have hbne:∀ b,zhs d (zbg res).length W bx' τb b ≠ none->σ.bx b ≠ none:=fun b hb=>by
   by_cases hbW:b ∈ W
   ·exact (hK.bxW b hbW).1
   obtain ⟨cs,hcs⟩:=Kr.1 hb
   rw [(hK.bx b cs hbW hcs).1]; simp
  refine ⟨⟨fun j hj e=>?_,fun e x hx hon hh=>hno e ⟨x,hx,hon⟩ (List.mem_of_mem_head? hh),hk.1.1,?_⟩,hno⟩
  ·have hj':=hbne j hj
   rw [q1.β] at e
   rcases hk.2 with h | h | h
   ·exact h.1.1 j hj' e
   ·have:=hR.lt hj'; omega
   ·obtain ⟨e',h1,_,h3⟩:=hfp k h
    exact hR.ebx e' j h1 hj' (e ▸ h3)
  ·rw [q1.A0]
   rcases hk.2 with h | h | h
   ·exact h.1.2.2.2
   ·exact (hR.anew k (hn.new h)).1
   ·obtain ⟨e',h1,_,h3⟩:=hfp k h
    exact (hR.ebase e' h1 k h3).1
 have hcr:=q3 ⟨τs,zhs d (zbg res).length W bx' τb,mE d 0 (zbg res ++ bx'.flatten) τe⟩ w' rfl fun t v h=>zar.keep (fun _ _=>rfl) hfree t v h
 obtain ⟨hc1,hc2⟩:=hcr.split_flat (A:=fun _=>True) (w':=w') (m:=0) (zau.one_vals p1)
 have hR':=hR.givenB hn hK (fun b hb=>by obtain ⟨e,x1,x2,x3⟩:=hfp b hb; exact ⟨e,x1,x2,x3⟩) hbk' q1 (zj2 d W bx' bvs' 0 (zbg res).length τb (fun i b hi=>by rw [Q4]; exact hbs i b hi) hbx' hc2 (by rw [h.2.1]; omega))
 have hBk:Bk n0 w w':=⟨hbk.os,hbk.tape,hbk.output,hbk.size,fun k hk=>hbk.block k ⟨hn k hk,fun hm=>by
  obtain ⟨e,h1,_,h3⟩:=hfp k hm
  exact hR.etop e h1 k h3 hk,fun j hj e=>by
  obtain ⟨c,_,e2,e3⟩:=hWj j hj
  exact hR.base c (b5 c e2) (by rw [<-e3,<-e]; exact hk)⟩⟩
 refine ⟨g',?_,hBk,q1.A0,q1.R0⟩
 have hp:=hR'.put (some d) (x:=zm4 (mD d 0 res)) (v:=zb5 us') (ze6 (zuj d 0 p1 hc1) (zru d res 0)) (fun i hi=>by cases hi; exact hdN d hd)
 rw [hd]
 exact hp
end
section
set_option maxRecDepth 4000
open Go.RowKit
variable {P:Program}
def subN:List Nat->List Nat->Prop
 | [],_=>True
 | x :: xs,l=>noK x l = false /\ subN xs l
theorem qdx:∀ {x:Nat} {l:List Nat},noK x l = false->x ∈ l
 | _,[],h=>by cases h
 | x,y :: l,h=>by
  unfold noK at h
  by_cases e:x = y
  ·simp [e]
  ·rw [if_neg e] at h; exact Jf _ (qdx h)
theorem zk2:∀ {xs l:List Nat},subN xs l->∀ x ∈ xs,x ∈ l
 | [],_,_,x,hx=>by simp at hx
 | y :: xs,l,h,x,hx=>by
  rcases Qu.1 hx with rfl | hx
  ·exact qdx h.1
  ·exact zk2 h.2 x hx
theorem zl6 {σ:St}:∀ (L:List Nat) (i:Nat),(i ∈ L->zhr (σ.lL L) i = σ.sl i) /\ (i ∉ L->zhr (σ.lL L) i = .one .any)
 | [],i=>⟨fun h=>by simp at h,fun _=>rfl⟩
 | j :: L,i=>by
  show (_->(if i = j then σ.sl j else zhr (σ.lL L) i) = _) /\ (_->(if i = j then σ.sl j else zhr (σ.lL L) i) = _)
  by_cases h:i = j
  ·subst h; rw [if_pos rfl]; exact ⟨fun _=>rfl,fun h=>by simp at h⟩
  ·rw [if_neg h]
   exact ⟨fun hm=>(zl6 L i).1 ((Qu.1 hm).resolve_left h),fun hm=>(zl6 L i).2 fun h'=>hm (Jf _ h')⟩
theorem zfu {α:Type} (f:Nat->α):∀ (L:List Nat) (i:Nat),(i ∈ L->tbl (L.map fun b=>(b,f b)) i = some (f i)) /\ (i ∉ L->tbl (L.map fun b=>(b,f b)) i = none)
 | [],i=>⟨fun h=>by simp at h,fun _=>rfl⟩
 | j :: L,i=>by
  show (_->(if i = j then some (f j) else tbl (L.map fun b=>(b,f b)) i) = _) /\ (_->(if i = j then some (f j) else tbl (L.map fun b=>(b,f b)) i) = _)
  by_cases h:i = j
  ·subst h; rw [if_pos rfl]; exact ⟨fun _=>rfl,fun h=>by simp at h⟩
  ·rw [if_neg h]
   exact ⟨fun hm=>(zfu f L i).1 ((Qu.1 hm).resolve_left h),fun hm=>(zfu f L i).2 fun h'=>hm (Jf _ h')⟩
def blank (W:List Nat) (f:Nat->Option (List C)):Nat->Option (List C)
 | b=>if noK b W = true then f b else some []
theorem qit (W:List Nat) (f:Nat->Option (List C)) (b:Nat):blank W f b = if noK b W = true then f b else some []:=rfl
def St.wB (σ:St) (W:List Nat):St:=⟨σ.sl,blank W σ.bx,σ.ev⟩
def St.BW (σ:St) (L W:List Nat):List Nat:=dif W ((σ.wB W).KB L)
def St.EW (σ:St) (L W:List Nat):List Nat:=(σ.wB W).KE L
def St.hW (σ:St) (L W:List Nat):St:=⟨zhr (σ.lL L),tbl (σ.lB (σ.BW L W)),tbl (σ.lE (σ.EW L W))⟩
section
variable {ks:List Fr} {Q:Exit->St->Prop} {σ:St} {ops:Array Oper} {os:List Oper} {ty:TypeId} {ps:String} {af:Array Edge} {d:Nat} {x:Operand} {asx:Array Operand} {ts:Array TypeId} {f:FuncId} {bx bx':Bxs} {l:List AF} {res:List (Bool × D)}
theorem callPL (L A W:List Nat) (pl:List (Nat × Nat × Nat)) (h:PC P f bx l bx' res) (hWn:W.Nodup) (hWl:W.length = bx'.length) (hw:wkK σ (A ++ L))
  (hk:subN (σ.BW L W) (σ.KB (A ++ L)) /\ subN W (σ.KB (A ++ L)) /\ subN (σ.EW L W) (σ.KE (A ++ L)) /\ okL ⟨zhr (σ.lL L),zhs d (zbg res).length W bx' (tbl (σ.lB (σ.BW L W))),tbl (σ.lE (σ.EW L W))⟩ (σ.lL L) /\ okB ⟨zhr (σ.lL L),zhs d (zbg res).length W bx' (tbl (σ.lB (σ.BW L W))),tbl (σ.lE (σ.EW L W))⟩ (σ.lB (σ.BW L W)) /\ okE (σ.lE (σ.EW L W)))
  (hp:zat (zaw ((σ.hL (A ++ L)).get P 0 x)) fun p=>p.1 = f /\ mtK W l ((σ.hL (A ++ L)).gets P asx ts ++ p.2) fun us=>qbg (σ.hL (A ++ L)) W bx fun cs=>gvA (σ.hL (A ++ L)) (zre (σ.lE (σ.EW L W))) [] pl (us ++ cs) (AF.ds l ++ bxA bx.flatten))
  (hf:mF d 0 (zbg res ++ bx'.flatten) (tbl (σ.lE (σ.EW L W))))
  (k:exo P ops os ks Q ((σ.hW L W).callP d W bx' res)):exo P ops (⟨some d,.call ⟨.value x,asx,ts⟩,ty,ps,af,none⟩ :: os) ks Q σ:=by
 obtain ⟨⟨f',cvs⟩,h1,rfl,h2⟩:=zaq hp
 obtain ⟨k1,k2,k3,k4,k5,k6⟩:=hk
 have hK:KeptB W (σ.hL (A ++ L)) ⟨zhr (σ.lL L),zhs d (zbg res).length W bx' (tbl (σ.lB (σ.BW L W))),tbl (σ.lE (σ.EW L W))⟩:=by
  refine ⟨fun i=>?_,fun b cs hb hcs=>?_,fun b hb=>⟨?_,zu7 d W bx' _ _ b hWl hb⟩,fun e x he=>?_⟩
  ·by_cases hi:i ∈ L
   ·refine Or.inr ⟨?_,zou k4 i⟩
    show zhr (σ.lL L) i = zhr (σ.lL (A ++ L)) i
    rw [(zl6 L i).1 hi,(zl6 (A ++ L) i).1 (Jm _ hi)]
   ·exact Or.inl ((zl6 L i).2 hi)
  ·have hcs:zhs d (zbg res).length W bx' (tbl (σ.lB (σ.BW L W))) b = some cs:=hcs
   rw [zla d W bx' _ _ b hb] at hcs
   by_cases hm:b ∈ σ.BW L W
   ·refine ⟨?_,zo7 k5 b cs hcs⟩
    have e1:=(zfu (fun b=>(σ.bx b).getD []) (σ.BW L W) b).1 hm
    have e2:=(zfu (fun b=>(σ.bx b).getD []) (σ.KB (A ++ L)) b).1 (zk2 k1 b hm)
    have e1:tbl (σ.lB (σ.BW L W)) b = some ((σ.bx b).getD []):=e1
    rw [e1] at hcs
    cases hcs
    exact e2
   ·have e1:=(zfu (fun b=>(σ.bx b).getD []) (σ.BW L W) b).2 hm
    have e1:tbl (σ.lB (σ.BW L W)) b = none:=e1
    rw [e1] at hcs; cases hcs
  ·have e2:=(zfu (fun b=>(σ.bx b).getD []) (σ.KB (A ++ L)) b).1 (zk2 k2 b hb)
   have e2:(σ.hL (A ++ L)).bx b = some ((σ.bx b).getD []):=e2
   rw [e2]; simp
  ·have he:tbl (σ.lE (σ.EW L W)) e = some x:=he
   by_cases hm:e ∈ σ.EW L W
   ·refine ⟨?_,zqy k6 e x he⟩
    have e1:=(zfu (fun e=>(σ.ev e).getD ⟨false,0,[],0,false⟩) (σ.EW L W) e).1 hm
    have e2:=(zfu (fun e=>(σ.ev e).getD ⟨false,0,[],0,false⟩) (σ.KE (A ++ L)) e).1 (zk2 k3 e hm)
    have e1:tbl (σ.lE (σ.EW L W)) e = some ((σ.ev e).getD ⟨false,0,[],0,false⟩):=e1
    rw [e1] at he
    cases he
    exact e2
   ·have e1:=(zfu (fun e=>(σ.ev e).getD ⟨false,0,[],0,false⟩) (σ.EW L W) e).2 hm
    have e1:tbl (σ.lE (σ.EW L W)) e = none:=e1
    rw [e1] at he; cases he
 refine zc6 rfl rfl (zah.pre (wkK_wk hw) (qgz (P:=P) (o:=⟨some d,.call ⟨.value x,asx,ts⟩,ty,ps,af,none⟩) rfl rfl h h1 hK hWn (ps:=pl) ?_ hf)) k
 exact zw0 (fun us hu=>qf3 (fun cs hc=>zhm (fun u hu=>zil hu) hc) hu) h2
end
def mkZ (P:Program) (t:TypeId):List (List C):=match (elT P t).bind (zde P) with
 | some z=>[z]
 | none=>[]
def mkEv (d:Nat):Option (Prop × Ev)->List (Nat × Ev)
 | some (_,y)=>[(d * 32,y)]
 | none=>[]
theorem qn1 {σ σ1:St} {t:TypeId} {l c:Operand} (h:∀ k ∈ zav [l,c] ++ rK (mkZ P t),za9 σ σ1 k):mkD P σ1 t l c = mkD P σ t l c:=by
 have e1:σ1.get P 0 l = σ.get P 0 l:=zco (l:=[l,c]) (fun k hk=>h k (by simp [hk])) (by simp) 0
 have e2:σ1.get P 0 c = σ.get P 0 c:=zco (l:=[l,c]) (fun k hk=>h k (by simp [hk])) (by simp) 0
 unfold mkD
 rw [e1,e2]
 unfold mkZ at h
 cases hel:elT P t with
 | none=>rfl
 | some el =>
  simp only [Kc]
  rw [hel] at h
  cases hz:zde P el with
  | none=>simp only [Option.bind_none]
  | some z =>
   rw [Kc,hz] at h
   have e3:zt7 σ1 z = zt7 σ z:=zk8 fun k hk=>h k (by simp [rK,hk])
   simp only [Kc,e3]
section
variable {ks:List Fr} {Q:Exit->St->Prop} {σ:St} {ops:Array Oper} {os:List Oper} {L:List (List Ky × List Ky)} {ty:TypeId} {ps:String} {af:Array Edge} {d:Nat} {l c:Operand} {t:TypeId}
theorem dMakeD (h:zat (mkD P σ t l c) fun r=>r.1 /\ σ.ev (d * 32) = none)
  (k:exd P ops os (L ++ [(zav [l,c] ++ (rK (mkZ P t) ++ [(2,d * 32)]),dK (some d) ++ eK (mkEv d (mkD P σ t l c)))]) ks Q ((σ.mk1 d (mkD P σ t l c)).put (some d) (.one (.ow (d * 32) 0)))) :
  exd P ops (⟨some d,.makeSlice t l c,ty,ps,af,none⟩ :: os) L ks Q σ:=by
 obtain ⟨⟨p,y⟩,h1,h2,h3⟩:=zaq h
 rw [h1] at k
 have hloc:∀ σ1,(∀ k ∈ zav [l,c] ++ (rK (mkZ P t) ++ [(2,d * 32)]),za9 σ σ1 k)->mkD P σ1 t l c = some (p,y) /\ σ1.ev (d * 32) = none:=fun σ1 hs =>
  ⟨(qn1 fun k hk=>hs k (by simp only [Qt] at hk ⊢; rcases hk with hk | hk <;> simp [hk])).trans h1,(Eq.symm (hs (2,d * 32) (by simp))).trans h3⟩
 refine zi4 rfl rfl ?_ k
 show zh5 P _ _ _ σ ((σ.apd (d * 32) [] y).put (some d) _)
 rw [zez]
 refine zh5.of (o:=⟨some d,_,ty,ps,af,none⟩) (l:=[(d * 32,y)]) (zbp (zb8 _) (zbp (qk9 _) rfl)) fun σ1 hs=>?_
 obtain ⟨h1,h3⟩:=hloc σ1 hs
 show zah P _ σ1 ((σ1.upE ((d * 32,y) :: zwq [])).put _ _)
 rw [<-zez]
 unfold mkD at h1
 obtain ⟨el,e1,h1⟩:=Qd.1 h1
 obtain ⟨n,e2,h1⟩:=Qd.1 h1
 obtain ⟨bts,e3,h1⟩:=Qd.1 h1
 obtain ⟨z,e4,h1⟩:=Qd.1 h1
 obtain ⟨⟨q1,q2⟩,e5,h1⟩:=Qd.1 h1
 split at h1
 ·rename_i kl a kc b hl hc
  split at h1
  ·rename_i hh
   obtain ⟨k1,k2,k3⟩:=hh
   have:q2 = []:=K0 k2
   subst this
   simp only [Qc,Qq] at h1
   obtain ⟨rfl,rfl⟩:=h1
   exact qly e1 e2 e3 e4 k1 e5 hl hc k3 h2.1 h2.2.1 h2.2.2 h3
  ·cases h1
 ·cases h1
end
def qa6:Option (Nat × Ev × List (Nat × Ev))->List Ky
 | some (e,_,_)=>[(2,e)]
 | none=>[]
def stoW:Option (Nat × Ev × List (Nat × Ev))->List (Nat × Ev)
 | some (e,y,cons)=>(e,y) :: zwq cons
 | none=>[]
theorem qka {σ σ1:St} {t:TypeId} {x y:Operand} (h:∀ k ∈ zav [x,y] ++ (rK [(σ.get P t y).cells] ++ qa6 (zt4 P σ t x y)),za9 σ σ1 k) {r:Nat × Ev × List (Nat × Ev)} (hr:zt4 P σ t x y = some r):zt4 P σ1 t x y = some r:=by
 have e1:σ1.get P 0 x = σ.get P 0 x:=zco (l:=[x,y]) (fun k hk=>h k (by simp [hk])) (by simp) 0
 have e2:σ1.get P t y = σ.get P t y:=zco (l:=[x,y]) (fun k hk=>h k (by simp [hk])) (by simp) t
 have e3:zt7 σ1 (σ.get P t y).cells = zt7 σ (σ.get P t y).cells:=zk8 fun k hk=>h k (by simp [rK,hk])
 rw [hr] at h
 rw [<-hr]
 unfold zt4 at hr ⊢
 rw [e1,e2]
 split at hr
 ·rename_i e g sz i o hx
  obtain ⟨z,hz,hr⟩:=Qd.1 hr
  obtain ⟨n,hn,hr⟩:=Qd.1 hr
  split at hr
  ·obtain ⟨q,_,hr⟩:=Qz.1 hr
   subst hr
   have e4:σ1.ev e = σ.ev e:=Eq.symm (h (2,e) (by simp [qa6]))
   simp only [e4,e3]
  ·cases hr
 ·cases hr
section
variable {ks:List Fr} {Q:Exit->St->Prop} {σ:St} {ops:Array Oper} {os:List Oper} {L:List (List Ky × List Ky)} {ty:TypeId} {ps:String} {af:Array Edge} {ds:Option Nat} {x y:Operand} {t:TypeId}
theorem qjg (r:Option (Nat × Ev × List (Nat × Ev))):okK (qa6 r) = true:=by
 cases r with
 | none=>rfl
 | some r=>rfl
theorem qnj (h:zat (zt4 P σ t x y) fun r=>(r.2.2.map (·.1)).Nodup /\ ∀ p ∈ r.2.2,p.1 ≠ r.1)
  (k:exd P ops os (L ++ [(zav [x,y] ++ (rK [(σ.get P t y).cells] ++ qa6 (zt4 P σ t x y)),dK ds ++ eK (stoW (zt4 P σ t x y)))]) ks Q ((σ.apdO (zt4 P σ t x y)).put ds (.one .any))):exdS P ops ⟨ds,.store t x y,ty,ps,af,none⟩ os L ks Q σ:=by
 obtain ⟨⟨e,z,cons⟩,h1,h2,h3⟩:=zaq h
 refine ⟨_,_,_,?_,k⟩
 have hloc:∀ σ1,(∀ k ∈ zav [x,y] ++ (rK [(σ.get P t y).cells] ++ qa6 (zt4 P σ t x y)),za9 σ σ1 k)->zt4 P σ1 t x y = some (e,z,cons):=fun σ1 hs=>qka hs h1
 rw [h1]
 show zh5 P _ _ (dK ds ++ eK ((e,z) :: zwq cons)) σ ((σ.apd e cons z).put ds _)
 rw [zez]
 rw [h1] at hloc
 refine zh5.of (o:=⟨ds,_,ty,ps,af,none⟩) (l:=(e,z) :: zwq cons) (zbp (zb8 _) (zbp (qk9 _) (qjg _))) fun σ1 hs=>?_
 have hh:=hloc σ1 hs
 have hs2:=zw5 (σ:=σ1) (ty:=ty) (ps:=ps) (af:=af) (ds:=ds) (x:=x) (y:=y) (t:=t) (P:=P) (by rw [hh]; exact ⟨h2,h3⟩)
 rw [hh] at hs2
 have hs2:zah P ⟨ds,.store t x y,ty,ps,af,none⟩ σ1 ((σ1.apd e cons z).put ds (.one .any)):=hs2
 rw [zez] at hs2
 exact hs2
end
attribute [go_sem] mkZ mkEv qa6 stoW AF.ds c1P zxs zmn zdp zkr zjs bxE PB PB0 mtK qbg zhs St.callP subN qit St.wB St.BW St.EW St.hW bxA List.flatten_cons List.flatten_nil
end
section
set_option maxRecDepth 4000
open Go.RowKit
variable {P:Program}
theorem Rel.afterB {W:List Nat} {bx':Nat->Option (List C)} {n0:Nat->Prop} {N:Nat} {σ:St} {g g':Gh} {a:Act} {w w':World} {ev':Nat->Option Ev} {F:List Nat} (h:Rel n0 N σ g a w) (hn0:LtK n0 w) (hb:Bk (fun k=>k < w.heap.size /\ ∀ b ∈ W,k ≠ g.β b) w w') (hdom:∀ b,bx' b ≠ none ↔ σ.bx b ≠ none) (hsm:∀ b,b ∉ W->bx' b = σ.bx b) (hWσ:∀ b ∈ W,σ.bx b ≠ none) (hn:New σ g (w.heap.size <= ·) w' ev' g' F) (hW:∀ b ∈ W,∀ cs,bx' b = some cs->∃ vs ty,w'.heap[g.β b]? = some (.cells vs ty (0,0)) /\ CRs ⟨σ.sl,bx',ev'⟩ g' w' cs vs.toList):Rel n0 N ⟨σ.sl,bx',ev'⟩ g' a w':=by
 have hlt:∀ e x,σ.ev e = none->ev' e = some x->∀ b ∈ g'.φ e,w.heap.size <= b:=fun e x h1 h2 b hbb=>((hn.new e x h1 h2).2.2.1 b hbb).1
 have hold:∀ e,σ.On e->∀ b ∈ g.φ e,b < w.heap.size:=fun e he b hbb=>by
  obtain ⟨x,hx,ho⟩:=he
  exact (h.evs e x hx ho).lt b hbb
 have hon:∀ e,St.On ⟨σ.sl,bx',ev'⟩ e->σ.ev e ≠ none->σ.On e:=fun e he hee=>by
  obtain ⟨x,hx,ho⟩:=he
  exact ⟨x,(hn.old e hee).1.symm.trans hx,ho⟩
 have hne:∀ e,St.On ⟨σ.sl,bx',ev'⟩ e->∃ x,ev' e = some x:=fun e he=>⟨_,he.choose_spec.1⟩
 have m:Mv σ ⟨σ.sl,bx',ev'⟩ g g' w w':=by
  refine ⟨fun b hf=>hb.block b ⟨hf.2.2.1,fun k hk e=>hf.1 k (hWσ k hk) e.symm⟩,fun b hf=>⟨fun k hk=>by rw [hn.β]; exact hf.1 k ((hdom k).1 hk),fun e x hx ho hh=>?_,Jb hf.2.2.1 hb.size,by rw [hn.A0]; exact hf.2.2.2⟩,fun b hbb=>⟨by rw [hn.β],(hdom b).2 hbb⟩,fun e n he=>?_,fun b hf e he hm=>?_⟩
  ·by_cases hee:σ.ev e = none
   ·have:=hlt e x hee hx b (List.mem_of_mem_head? hh)
    have:=hf.2.2.1
    omega
   ·rw [(hn.old e hee).2.2] at hh
    exact hf.2.1 e x ((hn.old e hee).1.symm.trans hx) ho hh
  ·obtain ⟨x,hx,hg⟩:=he
   have hee:σ.ev e ≠ none:=by rw [hx]; simp
   exact ⟨⟨x,(hn.old e hee).1.trans hx,hg⟩,by rw [(hn.old e hee).2.1]⟩
  ·by_cases hee:σ.ev e = none
   ·obtain ⟨x,hx⟩:=hne e he
    have:=hlt e x hee hx b hm
    have:=hf.1.2.2.1
    omega
   ·rw [(hn.old e hee).2.2] at hm
    exact hf.2 e (hon e he hee) hm
 refine ⟨h.defers,h.size,by rw [hn.A0,hn.R0]; exact h.anew,fun i=>by rw [hn.R0]; exact m.vr (h.slots i),fun b cs hbb=>?_,fun b hbb=>by rw [hn.β]; exact h.base b ((hdom b).1 hbb),fun b b' h1 h2 h3=>by rw [hn.β] at h3; exact h.inj b b' ((hdom b).1 h1) ((hdom b').1 h2) h3,fun e x he ho=>?_,fun e x he ho=>?_,hn.slc,fun e he b hbb=>?_,fun e he b hbb=>?_,fun e he=>?_,fun e e' h1 h2 hne' b hb1 hb2=>?_,fun e k he hk hm=>?_⟩
 ·by_cases hbW:b ∈ W
  ·rw [hn.β]; exact hW b hbW cs hbb
  have hbb:bx' b = some cs:=hbb
  rw [hsm b hbW] at hbb
  obtain ⟨vs,ty,k1,k2⟩:=h.boxes b cs hbb
  have hne0:σ.bx b ≠ none:=by rw [hbb]; simp
  exact ⟨vs,ty,by rw [hn.β,hb.block _ ⟨h.lt hne0,fun k hk e=>hbW (h.inj b k hne0 (hWσ k hk) e ▸ hk)⟩]; exact k1,m.crs k2⟩
 ·by_cases hee:σ.ev e = none
  ·obtain ⟨⟨k1,_,k0⟩,k2,k3,k4⟩:=hn.new e x hee he
   rw [k0]
   unfold zaz at k2
   obtain ⟨ao,cap,j1,j2,j3,j4⟩:=k2
   refine ⟨ao,cap,j1,j2,j3,?_⟩
   rcases j4 with j4 | ⟨b,cells,ty,fps,j4,j5,j6,j7,j8⟩
   ·exact Or.inl j4
   ·exact Or.inr ⟨b,cells,ty,fps,j4,j5,j6,j7,by rw [if_pos k1]; exact j8⟩
  ·have he':=he
   simp only [(hn.old e hee).1] at he
   rw [(hn.old e hee).2.1,(hn.old e hee).2.2]
   exact m.evr (h.evs e x he ho) fun b hbb=>hb.block b ⟨hold e ⟨x,he,ho⟩ b hbb,fun k hk e'=>h.ebx e k ⟨x,he,ho⟩ (hWσ k hk) (e' ▸ hbb)⟩
 ·by_cases hee:σ.ev e = none
  ·obtain ⟨⟨_,k1,_⟩,_⟩:=hn.new e x hee he
   rw [k1] at ho; cases ho
  ·simp only [(hn.old e hee).1] at he
   rw [(hn.old e hee).2.1]
   exact ⟨m.rep (h.offs e x he ho).1,(h.offs e x he ho).2⟩
 ·by_cases hee:σ.ev e = none
  ·obtain ⟨x,hx⟩:=hne e he
   rw [hn.A0,hn.R0]
   exact h.anew b (hn0.new (hlt e x hee hx b hbb))
  ·rw [(hn.old e hee).2.2] at hbb
   rw [hn.A0,hn.R0]
   exact h.ebase e (hon e he hee) b hbb
 ·by_cases hee:σ.ev e = none
  ·obtain ⟨x,hx⟩:=hne e he
   exact hn0.new (hlt e x hee hx b hbb)
  ·rw [(hn.old e hee).2.2] at hbb
   exact h.etop e (hon e he hee) b hbb
 ·by_cases hee:σ.ev e = none
  ·obtain ⟨x,hx⟩:=hne e he
   exact (hn.new e x hee hx).2.2.2
  ·rw [(hn.old e hee).2.2]; exact h.nodup e (hon e he hee)
 ·obtain ⟨x,hx⟩:=hne e h1
  obtain ⟨x',hx'⟩:=hne e' h2
  by_cases e1:σ.ev e = none <;> by_cases e2:σ.ev e' = none
  ·exact hn.apart e e' e1 e2 (by rw [hx]; simp) (by rw [hx']; simp) hne' b hb1 hb2
  ·rw [(hn.old e' e2).2.2] at hb2
   have:=hlt e x e1 hx b hb1
   have:=hold e' (hon e' h2 e2) b hb2
   omega
  ·rw [(hn.old e e1).2.2] at hb1
   have:=hlt e' x' e2 hx' b hb2
   have:=hold e (hon e h1 e1) b hb1
   omega
  ·rw [(hn.old e e1).2.2] at hb1
   rw [(hn.old e' e2).2.2] at hb2
   exact h.apart e e' (hon e h1 e1) (hon e' h2 e2) hne' b hb1 hb2
 ·rw [hn.β] at hm
  by_cases hee:σ.ev e = none
  ·obtain ⟨x,hx⟩:=hne e he
   have:=hlt e x hee hx _ hm
   have:=h.lt ((hdom k).1 hk)
   omega
  ·rw [(hn.old e hee).2.2] at hm
   exact h.ebx e k (hon e he hee) ((hdom k).1 hk) hm
def gvQ:List V->List (Bool × D)->Prop
 | [],[]=>True
 | v :: vs,(false,d) :: ds=>rdV v d /\ gvQ vs ds
 | .one (.t x) :: vs,(true,.one t) :: ds=>x = t /\ t.flat = true /\ gvQ vs ds
 | _,_=>False
theorem qld {w:World} {A:Nat->Prop} {t:T} {v:Value} (hf:t.flat = true) (h:zar w A t v):zaz w t v [] /\ zkj t [] = []:=by
 cases t <;> simp only [T.flat,Qo] at hf
 ·unfold zar at h; unfold zaz; exact ⟨⟨h.1,h.2.1,h.2.2,rfl⟩,rfl⟩
 ·unfold zar at h; unfold zaz; exact ⟨⟨h,rfl⟩,rfl⟩
 ·unfold zar at h; unfold zaz; exact ⟨⟨h.1,h.2,rfl⟩,rfl⟩
 ·unfold zar at h; unfold zaz; exact ⟨⟨h,rfl⟩,rfl⟩
theorem zi2 {σ:St} {g:Gh} {w:World}:∀ {xs:List V} {ds:List (Bool × D)} {vs:List Value},gvQ xs ds->VRl σ g w xs vs->zau w (zcj σ g w) ds vs [] []
 | [],[],vs,_,hv=>⟨hv,rfl,rfl⟩
 | [],_ :: _,_,h,_=>h.elim
 | x :: xs,[],_,h,_=>by cases x with
  | one c=>cases c <;> exact h.elim
  | agg _=>exact h.elim
  | tup _=>exact h.elim
 | x :: xs,(false,d) :: ds,vs,h,hv=>by
  obtain ⟨v,vs',rfl,h1,h2⟩:=hv
  have h:rdV x d /\ gvQ xs ds:=by cases x with
   | one c=>cases c <;> exact h
   | agg _=>exact h
   | tup _=>exact h
  exact ⟨v,vs',rfl,qm3 h.1 h1,zi2 h.2 h2⟩
 | .one (.t x) :: xs,(true,.one t) :: ds,vs,h,hv=>by
  obtain ⟨v,vs',rfl,h1,h2⟩:=hv
  obtain ⟨rfl,hf,h⟩:=h
  obtain ⟨k1,k2⟩:=qld hf h1
  exact ⟨v,vs',[],[],[],[],rfl,rfl,rfl,⟨k1,k2.symm⟩,zi2 h h2⟩
 | x :: _,(true,.agg _) :: _,_,h,_=>by cases x with
  | one c=>cases c <;> exact h.elim
  | agg _=>exact h.elim
  | tup _=>exact h.elim
 | .one (.nl _) :: _,(true,.one _) :: _,_,h,_=>h.elim
 | .one (.ow _ _) :: _,(true,.one _) :: _,_,h,_=>h.elim
 | .one (.bx _ _) :: _,(true,.one _) :: _,_,h,_=>h.elim
 | .one (.el _ _) :: _,(true,.one _) :: _,_,h,_=>h.elim
 | .one (.eo _ _ _ _ _) :: _,(true,.one _) :: _,_,h,_=>h.elim
 | .one (.fn _ _) :: _,(true,.one _) :: _,_,h,_=>h.elim
 | .one (.cv _) :: _,(true,.one _) :: _,_,h,_=>h.elim
 | .one .any :: _,(true,.one _) :: _,_,h,_=>h.elim
 | .one (.rn _) :: _,(true,.one _) :: _,_,h,_=>h.elim
 | .one (.er _ _) :: _,(true,.one _) :: _,_,h,_=>h.elim
 | .agg _ :: _,(true,.one _) :: _,_,h,_=>h.elim
 | .tup _ :: _,(true,.one _) :: _,_,h,_=>h.elim
def qbe:List (Nat × List C)->(Nat->Option (List C))->(Nat->Option (List C))
 | [],f=>f
 | (k,cs) :: l,f=>upd (qbe l f) k (some cs)
def boL (d:Nat):Nat->List Nat->Bxs->List (Nat × List C)
 | m,k :: W,b :: bx=>(k,mC d m b) :: boL d (m + b.length) W bx
 | _,_,_=>[]
theorem zyt (d:Nat):∀ (W:List Nat) (bx:Bxs) (m:Nat) (f:Nat->Option (List C)),zhs d m W bx f = qbe (boL d m W bx) f
 | [],bx,m,f=>by unfold zhs boL; rfl
 | k :: W,[],m,f=>by unfold zhs boL; rfl
 | k :: W,b :: bx,m,f=>by unfold zhs boL qbe; rw [zyt d W bx]
def mEl (d:Nat):Nat->List (Bool × T)->List (Nat × Ev)->List (Nat × Ev)
 | _,[],acc=>acc
 | j,(true,.sl sz rows) :: ts,acc=>mEl d (j + 1) ts ((d * 32 + j,⟨true,sz,rows,0,true⟩) :: acc)
 | j,(_,_) :: ts,acc=>mEl d (j + 1) ts acc
theorem zw9 (d:Nat):∀ (ts:List (Bool × T)) (j:Nat) (acc:List (Nat × Ev)) (f:Nat->Option Ev),mE d j ts (znv acc f) = znv (mEl d j ts acc) f
 | [],_,_,_=>rfl
 | (false,t) :: ts,j,acc,f=>by
  have:mEl d j ((false,t) :: ts) acc = mEl d (j + 1) ts acc:=by cases t <;> rfl
  rw [this]; exact zw9 d ts (j + 1) acc f
 | (true,t) :: ts,j,acc,f=>by
  cases t
  case sl sz rows=>exact zw9 d ts (j + 1) ((d * 32 + j,⟨true,sz,rows,0,true⟩) :: acc) f
  all_goals exact zw9 d ts (j + 1) acc f
theorem zlb (d:Nat):∀ (ts:List (Bool × T)) (j:Nat) (acc:List (Nat × Ev)) (k:Ky),k ∈ eK acc->k ∈ eK (mEl d j ts acc)
 | [],_,_,_,h=>h
 | (false,t) :: ts,j,acc,k,h=>by
  have:mEl d j ((false,t) :: ts) acc = mEl d (j + 1) ts acc:=by cases t <;> rfl
  rw [this]; exact zlb d ts (j + 1) acc k h
 | (true,t) :: ts,j,acc,k,h=>by
  cases t
  case sl sz rows=>exact zlb d ts (j + 1) _ k (by unfold eK; exact Jf _ h)
  all_goals exact zlb d ts (j + 1) acc k h
theorem zwp (d:Nat):∀ (ts:List (Bool × T)) (j:Nat) (acc:List (Nat × Ev)) (f f':Nat->Option Ev),(∀ e,(2,e) ∈ eK (mEl d j ts acc)->f' e = f e)->mF d j ts f->mF d j ts f'
 | [],_,_,_,_,_,_=>trivial
 | (false,t) :: ts,j,acc,f,f',hk,h=>by
  have e0:mEl d j ((false,t) :: ts) acc = mEl d (j + 1) ts acc:=by cases t <;> rfl
  rw [e0] at hk
  exact zwp d ts (j + 1) acc f f' hk h
 | (true,t) :: ts,j,acc,f,f',hk,h=>by
  cases t
  case sl sz rows =>
   obtain ⟨h1,h2⟩:=h
   have hm:(2,d * 32 + j) ∈ eK (mEl d j ((true,.sl sz rows) :: ts) acc):=zlb d ts (j + 1) _ _ (by unfold eK; simp)
   refine ⟨(hk _ hm).trans h1,zwp d ts (j + 1) ((d * 32 + j,⟨true,sz,rows,0,true⟩) :: acc) _ _ (fun e he=>?_) h2⟩
   by_cases hee:e = d * 32 + j
   ·subst hee; show upd _ _ _ _ = upd _ _ _ _; rw [zag,zag]
   ·show upd _ _ _ _ = upd _ _ _ _; rw [zam _ _ hee,zam _ _ hee]; exact hk e he
  all_goals exact ⟨h.1,zwp d ts (j + 1) acc _ _ hk h.2⟩
def boK:List (Nat × List C)->List Ky
 | []=>[]
 | (k,_) :: l=>(1,k) :: boK l
def wK1:List Nat->List Ky
 | []=>[]
 | k :: l=>(1,k) :: wK1 l
theorem zv5 {n e:Nat}:∀ {l:List (Nat × List C)},(n,e) ∈ boK l->n = 1
 | [],h=>by simp [boK] at h
 | (e',x) :: l,h=>by
  simp only [boK,Qu,Qq] at h
  rcases h with h | h
  ·exact h.1
  ·exact zv5 h
theorem qmt:∀ l,okK (boK l) = true
 | []=>rfl
 | (e,x) :: l=>by have:=qmt l; unfold okK at *; simpa [boK] using this
theorem qmj:∀ l,okK (wK1 l) = true
 | []=>rfl
 | e :: l=>by have:=qmj l; unfold okK at *; simpa [wK1] using this
theorem qez:∀ {l:List (Nat × List C)} (f f':Nat->Option (List C)) {e:Nat},(1,e) ∈ boK l->qbe l f e = qbe l f' e
 | [],f,f',e,h=>by simp [boK] at h
 | (e',x) :: l,f,f',e,h=>by
  unfold qbe
  by_cases he:e = e'
  ·subst he; rw [zag,zag]
  ·rw [zam _ _ he,zam _ _ he]
   simp only [boK,Qu,Qq] at h
   exact qez f f' (h.resolve_left fun hh=>he hh.2)
theorem zqx:∀ {l:List (Nat × List C)} (f:Nat->Option (List C)) {e:Nat},(1,e) ∉ boK l->qbe l f e = f e
 | [],f,e,h=>rfl
 | (e',x) :: l,f,e,h=>by
  simp only [boK,Qu,Qq,true_and,not_or] at h
  unfold qbe
  rw [zam _ _ h.1,zqx f h.2]
def St.upEB (σ:St) (l:List (Nat × Ev)) (bl:List (Nat × List C)):St:=⟨σ.sl,qbe bl σ.bx,znv l σ.ev⟩
theorem zh5.ofB {o:Oper} {σ:St} {R:List Ky} {l:List (Nat × Ev)} {bl:List (Nat × List C)} {v:V} {d:Nat} (hd:o.dst = some d) (hR:okK R = true) (h:∀ σ1,(∀ k ∈ R,za9 σ σ1 k)->zah P o σ1 ((σ1.upEB l bl).put (some d) v)):zh5 P o R (dK (some d) ++ (boK bl ++ eK l)) σ ((σ.upEB l bl).put (some d) v):=by
 have hW:okK (dK (some d) ++ (boK bl ++ eK l)) = true:=zbp (zwa _) (zbp (qmt _) (zzf _))
 refine ⟨hW,hR,fun k hk3 hk=>?_,fun σ1 h1=>?_⟩
 ·simp only [Qt,not_or] at hk
  refine za9.trans ?_ (zg3 hk.1)
  obtain ⟨n,i⟩:=k
  match n,hk3 with
  | 0,_=>rfl
  | 1,_=>exact (zqx σ.bx hk.2.1).symm
  | 2,_=>exact (zih σ.ev hk.2.2).symm
 ·have:zve σ1 (dK (some d) ++ (boK bl ++ eK l)) ((σ.upEB l bl).put (some d) v) = (σ1.upEB l bl).put (some d) v:=by
   refine za9.all3 fun c i hc=>?_
   by_cases hin:(c,i) ∈ dK (some d) ++ (boK bl ++ eK l)
   ·refine (zib hW hin).trans ?_
    simp only [Qt] at hin
    match c,hc with
    | 0,_ =>
     rcases hin with h | h | h
     ·simp only [dK,Qu,Jj,or_false,Qq,true_and] at h
      subst h
      show upd _ _ _ _ = upd _ _ _ _
      rw [zag,zag]
     ·have:=zv5 h; omega
     ·have:=ztv h; omega
    | 1,_ =>
     rcases hin with h | h | h
     ·simp [dK] at h
     ·exact qez _ _ h
     ·have:=ztv h; omega
    | 2,_ =>
     rcases hin with h | h | h
     ·simp [dK] at h
     ·have:=zv5 h; omega
     ·exact zuh _ _ h
   ·refine (zdw hc hin).trans ?_
    simp only [Qt,not_or] at hin
    refine za9.trans ?_ (zg3 hin.1)
    match c,hc with
    | 0,_=>rfl
    | 1,_=>exact (zqx σ1.bx hin.2.1).symm
    | 2,_=>exact (zih σ1.ev hin.2.2).symm
  rw [this]
  exact h σ1 h1
def St.callQ (σ:St) (d:Nat) (W:List Nat) (bx':Bxs) (res:List (Bool × D)):St:={ sl:=upd σ.sl d (zm4 (mD d 0 res)),bx:=qbe (boL d (zbg res).length W bx') σ.bx,ev:=znv (mEl d 0 (zbg res ++ bx'.flatten) []) σ.ev }
theorem zxo (σ:St) (d:Nat) (W:List Nat) (bx':Bxs) (res:List (Bool × D)):σ.callQ d W bx' res = ((σ.upEB (mEl d 0 (zbg res ++ bx'.flatten) []) (boL d (zbg res).length W bx')).put (some d) (zm4 (mD d 0 res))):=rfl
theorem ztl {W:List Nat} {o:Oper} {σ:St} {x:Operand} {asx:Array Operand} {ts:Array TypeId} {f:FuncId} {cvs:List V} {d:Nat} {bx bx':Bxs} {l:List AF} {res:List (Bool × D)} (ho:o.op = .call ⟨.value x,asx,ts⟩) (hd:o.dst = some d)
  (h:PC P f bx l bx' res) (hc:zaw (σ.get P 0 x) = some (f,cvs)) (hWn:W.Nodup)
  (hv:mtK W l (σ.gets P asx ts ++ cvs) fun us=>qbg σ W bx fun cs=>gvQ (us ++ cs) (AF.ds l ++ bxA bx.flatten)) (hf:mF d 0 (zbg res ++ bx'.flatten) σ.ev):zah P o σ (σ.callQ d W bx' res):=by
 intro n0 N g a w hR hn hdN
 obtain ⟨vs,h1,h2⟩:=zdf hR ho hc h.1
 unfold Oper.wp
 rw [h1]
 let bs:Nat->Nat:=fun j=>g.β (W.getD j 0)
 have hbs:∀ j b,W[j]? = some b->bs j = g.β b:=fun j b hj=>by show g.β (W.getD j 0) = _; rw [List.getD_eq_getElem?_getD,hj]; rfl
 obtain ⟨us,dvs,a1,a2,a3,rfl⟩:=zfq hbs hv h2
 obtain ⟨cs,bvs,b1,b2,b3,b4,b5⟩:=zjy hR (bs:=bs) (j:=0) (fun i b hi=>by rw [Q4]; exact hbs i b hi) a1
 have k2:=zi2 b1 (VRl.append a2 b2)
 have hWj:∀ j,j < bx.length->∃ b,W[j]? = some b /\ b ∈ W /\ bs j = g.β b:=fun j hj=>by
  have hlt:j < W.length:=by omega
  exact ⟨W[j],List.getElem?_eq_getElem hlt,Qe hlt,hbs j _ (List.getElem?_eq_getElem hlt)⟩
 have hinj:∀ i j,i < bx.length->j < bx.length->bs i = bs j->i = j:=fun i j hi hj he=>by
  obtain ⟨b,e1,e2,e3⟩:=hWj i hi
  obtain ⟨c,f1,f2,f3⟩:=hWj j hj
  have:b = c:=hR.inj b c (b5 b e2) (b5 c f2) (by rw [<-e3,<-f3]; exact he)
  subst this
  have hi':i < W.length:=by omega
  have hj':j < W.length:=by omega
  rw [List.getElem?_eq_getElem hi'] at e1
  rw [List.getElem?_eq_getElem hj'] at f1
  exact (List.getElem_inj hWn).1 ((Jy e1).trans (Jy f1).symm)
 have hfb:∀ b,zcj σ g w b->∀ j,j < bx.length->b ≠ bs j:=fun b hb j hj e=>by
  obtain ⟨c,_,e2,e3⟩:=hWj j hj
  exact hb.1.1 c (b5 c e2) (by rw [<-e3,e])
 refine (h.2.2 w bs bvs dvs [] [] (zcj σ g w) hinj (fun j _=>by simp) b3 (zau.keepA (fun b hb=>⟨⟨hb.1.2.2.1,by simp,hfb b hb⟩,hb⟩) k2) Km a3).mono ?_
 rintro e w' ⟨us',bvs',fp',tp',rfl,hbx',hlu,o1,o2,o3,hbk⟩
 obtain ⟨v1,v2,f1,f2,t1,t2,ev,ef,et,p1,p2⟩:=zau.split o1
 obtain ⟨rfl,rfl⟩:=Jx ev (by rw [hlu,zau.len p1])
 subst ef
 obtain ⟨t1',p1'⟩:=p1.flat
 have pp:=zau.append p1' p2
 rw [<-zhn] at pp
 have e0:mE d 0 (zbg res ++ bx'.flatten) σ.ev = znv (mEl d 0 (zbg res ++ bx'.flatten) []) σ.ev:=zw9 d _ 0 [] σ.ev
 have e1:zhs d (zbg res).length W bx' σ.bx = qbe (boL d (zbg res).length W bx') σ.bx:=zyt d W bx' _ _
 obtain ⟨g',q1,q2,q3⟩:=New.mix (τ:=σ) (g:=g) (NB:=fun b=>w.heap.size <= b) (w':=w') d (zbg res ++ bx'.flatten) _ (f1 ++ f2) _ 0 σ.ev g [] (New.refl _ _ _ _ hR.slc) hf pp o2 (fun b hb'=>⟨by simpa using o3 b hb',by simp⟩)
 have hbk':Bk (fun k=>k < w.heap.size /\ ∀ b ∈ W,k ≠ g.β b) w w':=⟨hbk.os,hbk.tape,hbk.output,hbk.size,fun k hk=>hbk.block k ⟨hk.1,by simp,fun j hj e=>by
  obtain ⟨c,_,e2,e3⟩:=hWj j hj
  exact hk.2 c e2 (by rw [<-e3,e])⟩⟩
 have hWl:W.length = bx'.length:=by rw [h.2.1]; omega
 have hdom:∀ b,zhs d (zbg res).length W bx' σ.bx b ≠ none ↔ σ.bx b ≠ none:=fun b=>by
  by_cases hbW:b ∈ W
  ·exact ⟨fun _=>b5 b hbW,fun _=>zu7 d W bx' _ _ b hWl hbW⟩
  ·rw [zla d W bx' _ _ b hbW]
 have hfree:∀ k,((k < w'.heap.size /\ k ∉ f1 ++ f2 /\ ∀ j,j < bx.length->k ≠ bs j) /\ (zcj σ g w k \/ w.heap.size <= k \/ k ∈ ([]:List Nat)))->zcj ⟨σ.sl,zhs d (zbg res).length W bx' σ.bx,mE d 0 (zbg res ++ bx'.flatten) σ.ev⟩ g' w' k:=fun k hk=>by
  have hno:∀ e,St.On ⟨σ.sl,zhs d (zbg res).length W bx' σ.bx,mE d 0 (zbg res ++ bx'.flatten) σ.ev⟩ e->k ∉ g'.φ e:=fun e ho' hm=>by
   by_cases hee:σ.ev e = none
   ·obtain ⟨x,hx,_⟩:=ho'
    have:=((q1.new e x hee hx).2.2.1 k hm).2
    rw [Kl] at this
    exact hk.1.2.1 this
   ·rw [(q1.old e hee).2.2] at hm
    obtain ⟨x,hx,hon⟩:=ho'
    have ho2:σ.On e:=⟨x,(q1.old e hee).1.symm.trans hx,hon⟩
    rcases hk.2 with h | h | h
    ·exact h.2 e ho2 hm
    ·obtain ⟨y,hy,hyo⟩:=ho2
     have:=(hR.evs e y hy hyo).lt k hm; omega
    ·simp at h
  refine ⟨⟨fun j hj e=>?_,fun e x hx hon hh=>hno e ⟨x,hx,hon⟩ (List.mem_of_mem_head? hh),hk.1.1,?_⟩,hno⟩
  ·have hj':=(hdom j).1 hj
   rw [q1.β] at e
   rcases hk.2 with h | h | h
   ·exact h.1.1 j hj' e
   ·have:=hR.lt hj'; omega
   ·simp at h
  ·rw [q1.A0]
   rcases hk.2 with h | h | h
   ·exact h.1.2.2.2
   ·exact (hR.anew k (hn.new h)).1
   ·simp at h
 have hcr:=q3 ⟨σ.sl,zhs d (zbg res).length W bx' σ.bx,mE d 0 (zbg res ++ bx'.flatten) σ.ev⟩ w' rfl fun t v h=>zar.keep (fun _ _=>rfl) hfree t v h
 obtain ⟨hc1,hc2⟩:=hcr.split_flat (A:=fun _=>True) (w':=w') (m:=0) (zau.one_vals p1)
 have hR':=hR.afterB hn hbk' hdom (fun b hb=>zla d W bx' _ _ b hb) b5 q1 (zj2 d W bx' bvs' 0 (zbg res).length σ.bx (fun i b hi=>by rw [Q4]; exact hbs i b hi) hbx' hc2 hWl)
 have hBk:Bk n0 w w':=⟨hbk.os,hbk.tape,hbk.output,hbk.size,fun k hk=>hbk.block k ⟨hn k hk,by simp,fun j hj e=>by
  obtain ⟨c,_,e2,e3⟩:=hWj j hj
  exact hR.base c (b5 c e2) (by rw [<-e3,<-e]; exact hk)⟩⟩
 refine ⟨g',?_,hBk,q1.A0,q1.R0⟩
 have hp:=hR'.put (some d) (x:=zm4 (mD d 0 res)) (v:=zb5 us') (ze6 (zuj d 0 p1 hc1) (zru d res 0)) (fun i hi=>by cases hi; exact hdN d hd)
 rw [e0,e1] at hp
 rw [hd]
 exact hp
section
variable {ks:List Fr} {Q:Exit->St->Prop} {σ:St} {ops:Array Oper} {os:List Oper} {L:List (List Ky × List Ky)} {ty:TypeId} {ps:String} {af:Array Edge} {d:Nat} {x:Operand} {asx:Array Operand} {ts:Array TypeId} {f:FuncId} {bx bx':Bxs} {l:List AF} {res:List (Bool × D)}
theorem callQ (W:List Nat) (h:PC P f bx l bx' res) (hWn:W.Nodup)
  (hp:zat (zaw (σ.get P 0 x)) fun p=>p.1 = f /\ mtK W l (σ.gets P asx ts ++ p.2) fun us=>qbg σ W bx fun cs=>gvQ (us ++ cs) (AF.ds l ++ bxA bx.flatten)) (hf:mF d 0 (zbg res ++ bx'.flatten) σ.ev)
  (k:exo P ops os ks Q (σ.callQ d W bx' res)):exo P ops (⟨some d,.call ⟨.value x,asx,ts⟩,ty,ps,af,none⟩ :: os) ks Q σ:=by
 obtain ⟨⟨f',cvs⟩,h1,rfl,h2⟩:=zaq hp
 exact zc6 rfl rfl (ztl rfl rfl h h1 hWn h2 hf) k
theorem zwm {σ1:St}:∀ {W:List Nat} {bx:Bxs} {K:List V->Prop},(∀ k ∈ wK1 W,za9 σ σ1 k)->qbg σ W bx K->qbg σ1 W bx K
 | [],[],_,_,h=>h
 | [],_ :: _,_,_,h=>h.elim
 | _ :: _,[],_,_,h=>h.elim
 | k :: W,b :: bx,K,hs,h=>by
  obtain ⟨cs,h1,h2,h3⟩:=zaq h
  have:σ1.bx k = some cs:=(Eq.symm (hs (1,k) (by simp [wK1]))).trans h1
  show zat (σ1.bx k) _
  rw [this]
  exact ⟨h2,zwm (W:=W) (fun k hk=>hs k (by simp [wK1,hk])) h3⟩
theorem ztt {σ1:St} {asx:Array Operand} {ts:Array TypeId} (h:∀ k ∈ zav asx.toList,za9 σ σ1 k):σ1.gets P asx ts = σ.gets P asx ts:=by
 unfold St.gets
 refine Q6 fun p hp=>?_
 exact zco h (List.of_mem_zip hp).1 _
theorem zgm {x:Operand} {l:List Operand} {k:Ky} (h:k ∈ zav l):k ∈ zav (x :: l):=by
 cases x <;> first | exact Jf _ h | exact h
theorem dCallQ (W:List Nat) (h:PC P f bx l bx' res) (hWn:W.Nodup)
  (hp:zat (zaw (σ.get P 0 x)) fun p=>p.1 = f /\ mtK W l (σ.gets P asx ts ++ p.2) fun us=>qbg σ W bx fun cs=>gvQ (us ++ cs) (AF.ds l ++ bxA bx.flatten)) (hf:mF d 0 (zbg res ++ bx'.flatten) σ.ev)
  (k:exd P ops os (L ++ [(zav (x :: asx.toList) ++ (wK1 W ++ eK (mEl d 0 (zbg res ++ bx'.flatten) [])),dK (some d) ++ (boK (boL d (zbg res).length W bx') ++ eK (mEl d 0 (zbg res ++ bx'.flatten) [])))]) ks Q (σ.callQ d W bx' res)) :
  exd P ops (⟨some d,.call ⟨.value x,asx,ts⟩,ty,ps,af,none⟩ :: os) L ks Q σ:=by
 obtain ⟨⟨f',cvs⟩,h1,rfl,h2⟩:=zaq hp
 refine zi4 rfl rfl ?_ k
 rw [zxo]
 refine zh5.ofB rfl (zbp (zb8 _) (zbp (qmj _) (zzf _))) fun σ1 hs=>?_
 rw [<-zxo]
 have e1:σ1.get P 0 x = σ.get P 0 x:=zco (l:=x :: asx.toList) (fun k hk=>hs k (by simp only [Qt]; exact Or.inl hk)) (by simp) 0
 have e2:σ1.gets P asx ts = σ.gets P asx ts:=ztt fun k hk=>hs k (by simp only [Qt]; exact Or.inl (zgm hk))
 refine ztl rfl rfl h (by rw [e1]; exact h1) hWn (by rw [e2]; exact zw0 (fun us hu=>zwm (fun k hk=>hs k (by simp only [Qt]; exact Or.inr (Or.inl hk))) hu) h2) ?_
 exact zwp d _ 0 [] _ _ (fun e he=>Eq.symm (hs (2,e) (by simp only [Qt]; exact Or.inr (Or.inr he)))) hf
theorem zbl {ds0 res0:List D} {gR:List Ky} (h:FC P f ds0 res0) (hp:zat (zaw (σ.get P 0 x)) fun p=>p.1 = f /\ VDs σ (σ.gets P asx ts ++ p.2) ds0 /\ zj7 d 0 (zbd res0) σ.ev)
  (k:exd P ops os (L ++ [(gR ++ (zav (x :: asx.toList) ++ (vsK σ (σ.gets P asx ts ++ qpz (zaw (σ.get P 0 x))) ++ eK (owL d 0 (zbd res0)))),dK (some d) ++ eK (owL d 0 (zbd res0)))]) ks Q (σ.callF d res0)) :
  zn9 P ops ⟨some d,.call ⟨.value x,asx,ts⟩,ty,ps,af,none⟩ os L gR ks Q σ:=by
 obtain ⟨⟨f',cvs⟩,h1,rfl,h2,h3⟩:=zaq hp
 rw [h1] at k
 exact qgk _ _ _ _ _ _ rfl (zrg rfl rfl h h1 h2 h3) k
end
attribute [go_sem] gvQ qbe boL mEl boK wK1 St.callQ
end
end Go.Proofs.YtliiapbmkcbfaaaGreat
