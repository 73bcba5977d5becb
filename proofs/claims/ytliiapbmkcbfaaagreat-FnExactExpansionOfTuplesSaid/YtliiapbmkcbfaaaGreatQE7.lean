/-
  The walk over plain data, and contracts of functions of the program and of its laws.
  Conditions: those that each theorem names.
-/
import Derived.Test.YtliiapbmkcbfaaaGreatQE6
import Derived.Test.YtliiapbmkcbfaaaGreatQE5
import Derived.RangeFuncNested
import Derived.RangeFuncBound
import Derived.RangeFuncCalls
import Derived.TacticsInMore
import Derived.LoopNIn
import Derived.LoopIn
namespace Go.Proofs.YtliiapbmkcbfaaaGreat
set_option linter.unusedSimpArgs false
set_option linter.unusedVariables false
set_option linter.unusedSectionVars false
section
set_option maxRecDepth 4000
open Go.RowKit
theorem qep (s:Str):FC Tryz.prog 278 [sD s] [bD false]:=by
 refine zaj Tryz.call278 Tryz.func278 rfl (by kernel_rfl) (zax (by kernel_rfl)) ?_
 simp -implicitDefEqProofs only[go_sem,Tryz.results278]
 simp
def cmpI (s t:Str):Int:=if Op.bytesLess s t = true then -1 else if (s == t) = true then 0 else 1
theorem qlb (s t:Str):FC Tryz.prog 282 [sD s,sD t] [iD (cmpI s t)]:=by
 have hc:cmpI s t = if Op.bytesLess s t = true then -1 else if (s == t) = true then 0 else 1:=rfl
 refine zaj Tryz.call282 Tryz.func282 rfl (by kernel_rfl) (zax (by kernel_rfl)) ?_
 simp -implicitDefEqProofs only[go_sem,Tryz.results282]
 refine callF (qep s) (by simp -implicitDefEqProofs only[go_sem]) ?_
 simp -implicitDefEqProofs only[go_sem]
 refine callF (qep t) (by simp -implicitDefEqProofs only[go_sem]) ?_
 simp -implicitDefEqProofs only[go_sem]
 refine ⟨fun h=>by rw [hc,if_pos h],fun h=>⟨fun h2=>?_,fun h2=>?_⟩⟩
 ·rw [h,Jc,J8] at h2
  rw [hc,h,h2]; rfl
 ·rw [h,Jc,Bool.not_eq_false'] at h2
  rw [hc,h,h2]; rfl
def bnC (p:Str × Tm):List T:=.str p.1 :: tmC p.2
def sbS (l:List (Str × Tm)):T:=.sl 3 (l.map bnC)
theorem zhx (n:Str) (t:Tm):bnC (n,t) = [.str n,.str t.name,.sl 2 (t.args.map tmC)]:=by unfold bnC; rw [zaa]
theorem qhj (n:Str) (t:Tm) (x:Str):FC Tryz.prog 281 [.agg (bnC (n,t)),sD x] [iD (cmpI n x)]:=by
 rw [zhx]
 refine zaj Tryz.call281 Tryz.func281 rfl (by kernel_rfl) (zax (by kernel_rfl)) ?_
 simp -implicitDefEqProofs only[go_sem,Tryz.results281]
 refine callF (qlb n x) (by simp -implicitDefEqProofs only[go_sem]) ?_
 simp -implicitDefEqProofs only[go_sem]
theorem zxe (n:Str) (t:Tm) (x:Str):FC Tryz.prog 280 [.one (sbS [(n,t)]),sD x,.one (.fn 281 [])] [iD (if Op.bytesLess n x = true then 1 else 0),bD (n == x)]:=by
 have H:=qhj n t x
 have hS:sbS [(n,t)] = .sl 3 [bnC (n,t)]:=rfl
 rw [hS]
 rw [zhx] at H ⊢
 have hc:cmpI n x = if Op.bytesLess n x = true then -1 else if (n == x) = true then 0 else 1:=rfl
 refine zaj Tryz.call280 Tryz.func280 rfl (by kernel_rfl) (zax (by kernel_rfl)) ?_
 simp -implicitDefEqProofs only[go_sem,Tryz.results280]
 refine zae (fun p:Nat × Nat=>hd [(0,vT (.sl 3 [[.str n,.str t.name,.sl 2 (t.args.map tmC)]])),(1,vT (.str x)),(2,vT (.fn 281 [])),(8,vI (1:Nat)),(9,vI p.1),(10,vI p.2)] [] []) (fun p=>p = (0,1) \/ (p = (1,1) /\ Op.bytesLess n x = true) \/ (p = (0,0) /\ Op.bytesLess n x = false)) (fun p=>p.2 - p.1) (0,1) (zac ?_) (Or.inl rfl) ?_
 ·simp -implicitDefEqProofs only[go_sem]
 ·rintro p (rfl | ⟨rfl,hl⟩ | ⟨rfl,hl⟩)
  ·have hz:(IntKind.u64.wrap (IntKind.i64.wrap 1)).fdiv (2 ^ min 1 64) = 0:=by decide
   have hz2:IntKind.i64.wrap 0 = 0:=by decide
   simp -implicitDefEqProofs only[go_sem,hz,hz2]
   refine callF (H) (by simp -implicitDefEqProofs only[go_sem]) ?_
   simp -implicitDefEqProofs only[go_sem]
   cases hl:Op.bytesLess n x
   ·have hi:decide (cmpI n x < 0) = false:=by rw [hc,hl]; cases n == x <;> rfl
    simp -implicitDefEqProofs only[go_sem,hi]
    refine ⟨(0,0),Or.inr (Or.inr rfl),by decide,zac ?_⟩
    simp -implicitDefEqProofs only[go_sem]
   ·have hi:decide (cmpI n x < 0) = true:=by rw [hc,hl]; rfl
    have hz3:IntKind.i64.wrap 1 = 1:=by decide
    simp -implicitDefEqProofs only[go_sem,hi]
    refine ⟨(1,1),Or.inr (Or.inl rfl),by decide,zac ?_⟩
    simp -implicitDefEqProofs only[go_sem,hz3]
  ·rw [if_pos hl]
   simp -implicitDefEqProofs only[go_sem]
   have:(n == x) = false:=by
    rw [Je]
    rintro rfl
    rw [zq5,Qg] at hl
    exact zo4 n hl
   rw [this]
  ·rw [hl,if_neg (by simp)]
   simp -implicitDefEqProofs only[go_sem]
   refine callF (H) (by simp -implicitDefEqProofs only[go_sem]) ?_
   simp -implicitDefEqProofs only[go_sem]
   rw [hc,hl]
   cases n == x <;> rfl
theorem zzw (n:Str) (t:Tm):XC Tryz.prog 269 [(false,.agg [sbS [(n,t)]]),(false,sD n)] [(false,tmD t),(true,bD true)]:=by
 have H:=zxe n t n
 rw [show Op.bytesLess n n = false by rw [zq5,Ko]; exact zo4 n,K6] at H
 have hS:sbS [(n,t)] = .sl 3 [bnC (n,t)]:=rfl
 rw [hS,zhx] at H ⊢
 simp only [tmD,zaa]
 refine qlv Tryz.call269 Tryz.func269 rfl (by kernel_rfl) (by simp only [Qm,Qv,Tryz.ntmps269]; omega) (by simp [zbq,T.isPin]) ?_
 simp -implicitDefEqProofs only[go_sem,Tryz.results269]
 refine callF (H) (by simp -implicitDefEqProofs only[go_sem]) ?_
 simp -implicitDefEqProofs only[go_sem]
theorem qfu (n:Str) (t:Tm) (x:Str) (h:(n == x) = false):XC Tryz.prog 269 [(false,.agg [sbS [(n,t)]]),(false,sD x)] [(false,tmD (.mk [] [])),(true,bD false)]:=by
 have H:=zxe n t x
 rw [h] at H
 have hS:sbS [(n,t)] = .sl 3 [bnC (n,t)]:=rfl
 rw [hS,zhx] at H ⊢
 simp only [tmD,zaa]
 refine qlv Tryz.call269 Tryz.func269 rfl (by kernel_rfl) (by simp only [Qm,Qv,Tryz.ntmps269]; omega) (by simp [zbq,T.isPin]) ?_
 simp -implicitDefEqProofs only[go_sem,Tryz.results269]
 refine callF (H) (by simp -implicitDefEqProofs only[go_sem]) ?_
 simp -implicitDefEqProofs only[go_sem]
 exact Or.inl ⟨rfl,rfl⟩
def zge (n:Str) (t:Tm):Tm->Tm:=Tm.fold fun m _ rs=>if rs.length = 0 then (if (n == m) = true then t else .mk m []) else .mk m rs
theorem zqi (n:Str) (t a:Tm):zge n t a = if a.args.length = 0 then (if (n == a.name) = true then t else .mk a.name []) else .mk a.name (a.args.map (zge n t)):=by
 unfold zge
 rw [Tm.fold_eq]
 simp only [Qb]
theorem qj3 (n:Str) (t:Tm) (ht:t.wt <= 1048576) (a:Tm) (ha:a.args.length <= 1048576) (H:∀ x ∈ a.args,FC Tryz.prog 234 [.agg [sbS [(n,t)]],tmD x] [tmD (zge n t x)]):FC Tryz.prog 234 [.agg [sbS [(n,t)]],tmD a] [tmD (zge n t a)]:=by
 have hv:=zqi n t a
 have HY:=zzw n t
 have HN:=qfu n t
 have HK:=zeg t ht
 have hS:sbS [(n,t)] = .sl 3 [bnC (n,t)]:=rfl
 rw [hS,zhx] at HY HN H ⊢
 by_cases h0:a.args.length = 0
 ·rw [if_pos h0] at hv
  cases hn:n == a.name
  ·have HN:=HN a.name hn
   rw [hn,if_neg (by simp)] at hv
   rw [hv]
   have HN:XC Tryz.prog 269 [(false,.agg [.sl 3 [[.str n,.str t.name,.sl 2 (t.args.map tmC)]]]),(false,sD a.name)] [(false,.agg [.str [],.sl 2 []]),(true,bD false)]:=HN
   have e1:tmD (.mk a.name []) = .agg [.str a.name,.sl 2 []]:=rfl
   rw [e1]
   simp only [tmD,zaa a]
   refine zcq Tryz.call234 Tryz.func234 rfl (by kernel_rfl) (zax (by kernel_rfl)) ?_
   simp -implicitDefEqProofs only[go_sem,Tryz.results234,h0]
   refine zoj [3,4] [15,17] [] (HN) (by simp -implicitDefEqProofs only[go_sem]) (by simp -implicitDefEqProofs only[go_sem]) (by simp -implicitDefEqProofs only[go_sem]) (by simp -implicitDefEqProofs only[go_sem]) ?_
   simp -implicitDefEqProofs only[go_sem]
  ·have hn':n = a.name:=by simpa using hn
   rw [hn,if_pos rfl] at hv
   rw [hv]
   rw [hn'] at HY ⊢
   simp only [tmD,zaa] at HY HK ⊢
   refine zcq Tryz.call234 Tryz.func234 rfl (by kernel_rfl) (zax (by kernel_rfl)) ?_
   simp -implicitDefEqProofs only[go_sem,Tryz.results234,h0]
   refine zoj [3,4] [15,17] [] (HY) (by simp -implicitDefEqProofs only[go_sem]) (by simp -implicitDefEqProofs only[go_sem]) (by simp -implicitDefEqProofs only[go_sem]) (by simp -implicitDefEqProofs only[go_sem]) ?_
   simp -implicitDefEqProofs only[go_sem]
   refine callF (HK) (by simp -implicitDefEqProofs only[go_sem]) ?_
   simp -implicitDefEqProofs only[go_sem]
 ·have hb:((a.args.length:Int) == 0) = false:=by
   rw [Je]; omega
  rw [if_neg h0] at hv
  rw [hv]
  have e1:tmD (.mk a.name (a.args.map (zge n t))) = .agg [.str a.name,.sl 2 (a.args.map fun x=>tmC (zge n t x))]:=by unfold tmD; rw [zaa]; simp only [Tm.name,Tm.args,Ke,K5]
  rw [e1]
  simp only [tmD,zaa a] at H ⊢
  refine zaj Tryz.call234 Tryz.func234 rfl (by kernel_rfl) (zax (by kernel_rfl)) ?_
  simp -implicitDefEqProofs only[go_sem,Tryz.results234,hb]
  refine drawn (by kernel_rfl) ?_
  simp -implicitDefEqProofs only[go_sem]
  refine dMakeD (by simp -implicitDefEqProofs only[go_sem]; omega) ?_
  simp -implicitDefEqProofs only[go_sem]
  refine ⟨by kernel_rfl,?_⟩
  refine zae (fun k:Nat=>hd [(2,.one (.bx 2 0)),(4,.one (.bx 4 0)),(7,.one (.bx 7 0)),(35,vT (tmS a.args)),(36,vI a.args.length),(37,vI k)] [(2,[.t (.sl 3 [[.str n,.str t.name,.sl 2 (t.args.map tmC)]])]),(4,[.t (.str []),.nl 2]),(7,[.t (.str a.name),.ow 1024 0])] [(1024,⟨true,2,((a.args.take k).map fun x=>tmC (zge n t x)) ++ List.replicate (a.args.length - k) [.str [],.sl 2 []],0,true⟩)]) (fun k=>k <= a.args.length) (fun k=>a.args.length - k) 0 (zac ?_) (Ka _) ?_
  ·simp -implicitDefEqProofs only[go_sem]
   simp
  ·intro k hk
   by_cases hlt:k < a.args.length
   ·have hlen:((a.args.take k).map (fun x=>tmC (zge n t x)) ++ List.replicate (a.args.length - k) [T.str [],T.sl 2 []]).length = a.args.length:=by simp; omega
    have HC:=H a.args[k] (Qe hlt)
    have hlt2:k < k + (a.args.length - k):=by omega
    simp only [zaa a.args[k],zaa (zge n t a.args[k])] at HC
    simp -implicitDefEqProofs only[go_sem,Qb,zad,hlt,zaa a.args[k]]
    refine drawn (by kernel_rfl) ?_
    simp -implicitDefEqProofs only[go_sem]
    refine zao (HC) (by simp -implicitDefEqProofs only[go_sem,hlen,hlt,Qr,Qb,Qp,Kv,Jh hk,hlt2]) ?_
    simp -implicitDefEqProofs only[go_sem,hlen,hlt,Qr,Qb,Qp,Kv,Jh hk,hlt2]
    refine qnj (by simp -implicitDefEqProofs only[go_sem]; simp) ?_
    simp -implicitDefEqProofs only[go_sem]
    refine ⟨by kernel_rfl,k + 1,hlt,by omega,zac ?_⟩
    simp -implicitDefEqProofs only[go_sem]
    have hf:=zg5 ((a.args.take k).map fun x=>tmC (zge n t x)) a.args.length k [T.str [],T.sl 2 []] (tmC (zge n t a.args[k])) (by simp; omega) hlt (by simp [zaa])
    rw [zal (by omega),<-zaa (zge n t a.args[k]),hf,Qf hlt,Q0,Q7]
    exact ⟨rfl,rfl⟩
   ·have ht:a.args.take k = a.args:=Qk (by omega)
    simp -implicitDefEqProofs only[go_sem,hlt,ht]
    simp [show a.args.length - k = 0 by omega]
theorem qqk (n:Str) (t:Tm) (ht:t.wt <= 1048576):∀ a:Tm,a.wt <= 1048576->FC Tryz.prog 234 [.agg [sbS [(n,t)]],tmD a] [tmD (zge n t a)] :=
 zbf fun m xs ih hs=>by
  obtain ⟨h1,h2⟩:=Tm.wt_args hs
  exact qj3 n t ht (.mk m xs) h1 fun x hx=>ih x hx (h2 x hx)
def zjh (n:Str):Tm->Nat:=Tm.fold fun m _ rs=>(if (m == n) = true then 1 else 0) + rs.sum
theorem zvv (n:Str) (a:Tm):zjh n a = (if (a.name == n) = true then 1 else 0) + (a.args.map (zjh n)).sum:=by unfold zjh; rw [Tm.fold_eq]
theorem zzd (n:Str):∀ a:Tm,zjh n a <= a.nodes:=zbf fun m xs ih=>by
 rw [zvv,Tm.nodes_eq]
 have:(xs.map (zjh n)).sum <= (xs.map Tm.nodes).sum:=by
  revert ih
  induction xs with
  | nil=>simp
  | cons x xs ih2 =>
   intro ih
   have h1:=ih x (by simp)
   have h2:=ih2 fun y hy=>ih y (by simp [hy])
   simp only [Qi,Q3]
   omega
 show (if (m == n) = true then 1 else 0) + (xs.map (zjh n)).sum <= 1 + (xs.map Tm.nodes).sum
 split <;> omega
theorem zto (n:Str) (a:Tm) (ha:a.wt <= 1099511627776) (H:∀ x ∈ a.args,FC Tryz.prog 268 [tmD x,sD n] [iD (zjh n x)]):FC Tryz.prog 268 [tmD a,sD n] [iD (zjh n a)]:=by
 have hv:=zvv n a
 have hN:=zey a
 have hNe:=a.nodes_eq
 have hle:=zzd n a
 simp only [tmD,zaa a]
 refine zaj Tryz.call268 Tryz.func268 rfl (by kernel_rfl) (zax (by kernel_rfl)) ?_
 simp -implicitDefEqProofs only[go_sem,Tryz.results268]
 obtain ⟨z,hz⟩ : ∃ z:Nat,(if (a.name == n) = true then 1 else 0) = z:=⟨_,rfl⟩
 rw [hz] at hv
 cases hn:a.name == n
 all_goals
  rw [hn] at hz
  simp only [Qo,if_true,if_false] at hz
  simp -implicitDefEqProofs only[go_sem,hn]
  refine zae (fun k:Nat=>hd [(1,vT (.str n)),(5,vI (z + ((a.args.take k).map (zjh n)).sum:Nat)),(13,vT (tmS a.args)),(14,vI a.args.length),(15,vI k)] [] []) (fun k=>k <= a.args.length) (fun k=>a.args.length - k) 0 (zac ?_) (Ka _) ?_
  ·simp -implicitDefEqProofs only[go_sem]
   subst hz
   rfl
  ·intro k hk
   by_cases hlt:k < a.args.length
   ·have HC:=H a.args[k] (Qe hlt)
    simp only [tmD,zaa a.args[k]] at HC
    have hsm:((a.args.take (k + 1)).map (zjh n)).sum = ((a.args.take k).map (zjh n)).sum + zjh n a.args[k]:=by rw [Qf hlt,Q0,List.sum_append,Q7,List.sum_singleton]
    have hle2:((a.args.take (k + 1)).map (zjh n)).sum <= (a.args.map (zjh n)).sum:=by
     have:=congrArg (fun l=>(l.map (zjh n)).sum) (K7 (k + 1) a.args)
     simp only [Q0,List.sum_append] at this
     omega
    have hlen:a.args.length <= a.wt:=by have:=a.wt_eq; omega
    simp -implicitDefEqProofs only[go_sem,zad,hlt,zaa a.args[k]]
    refine callF (HC) (by simp -implicitDefEqProofs only[go_sem]) ?_
    simp -implicitDefEqProofs only[go_sem]
    refine ⟨k + 1,hlt,by omega,zac ?_⟩
    simp -implicitDefEqProofs only[go_sem]
    rw [zal (by omega),zb2 (by omega) (by omega),hsm]
    exact ⟨by congr 1; omega,rfl⟩
   ·simp -implicitDefEqProofs only[go_sem,hlt]
    rw [hv,Qk (by omega)]
theorem zuo (n:Str):∀ a:Tm,a.wt <= 1099511627776->FC Tryz.prog 268 [tmD a,sD n] [iD (zjh n a)] :=
 zbf fun m xs ih hs=>zto n (.mk m xs) hs fun x hx=>ih x hx (Kg (zoy (a:=.mk m xs) hx) hs)
theorem qle (n:Str) (a:Tm) (hs:a.wt <= 1099511627776):FC Tryz.prog 232 [sD n,tmD a] [bD (decide (0 < zjh n a))]:=by
 have H:=zuo n a hs
 simp only [tmD,zaa] at H ⊢
 have e:decide ((0:Int) < (zjh n a:Int)) = decide (0 < zjh n a):=by rw [Kk,Qg,Qg]; omega
 refine zaj Tryz.call232 Tryz.func232 rfl (by kernel_rfl) (zax (by kernel_rfl)) ?_
 simp -implicitDefEqProofs only[go_sem,Tryz.results232]
 refine callF (H) (by simp -implicitDefEqProofs only[go_sem]) ?_
 simp -implicitDefEqProofs only[go_sem]
 rw [e]
end
section
set_option maxRecDepth 4000
open Go.RowKit
def eqL {α:Type} (p:α->α->Bool):List α->List α->Bool
 | [],[]=>true
 | a :: xs,b :: ys=>p a b && eqL p xs ys
 | _,_=>false
theorem zuu {α:Type} {p:α->α->Bool}:∀ {xs ys:List α},xs.length ≠ ys.length->eqL p xs ys = false
 | [],[],h=>absurd rfl h
 | [],_ :: _,_=>rfl
 | _ :: _,[],_=>rfl
 | a :: xs,b :: ys,h=>by simp only [eqL]; rw [zuu (by simpa using h),Kb]
theorem zpu {α:Type} {p:α->α->Bool}:∀ {xs ys:List α},(∀ x ∈ xs,∀ y,p x y = same x y)->eqL p xs ys = same xs ys
 | [],[],_=>zf4.symm
 | [],_ :: _,_=>(zc0.2 (by simp)).symm
 | _ :: _,[],_=>(zc0.2 (by simp)).symm
 | a :: xs,b :: ys,h=>by simp only [eqL]; rw [zcv,h a (by simp) b,zpu fun x hx y=>h x (by simp [hx]) y]
set_option maxRecDepth 10000 in
set_option maxHeartbeats 400000 in
theorem zmi (xs ys:List Tm) (p:Tm->Tm->Bool) (g:FuncId) (caps:List T) (H:∀ x ∈ xs,∀ y ∈ ys,FC Tryz.prog g (tmD x :: tmD y :: caps.map .one) [bD (p x y)]):FC Tryz.prog 144 [.one (tmS xs),.one (tmS ys),.one (.fn g caps)] [bD (eqL p xs ys)]:=by
 refine zdi (fun hw=>?_) Tryz.call144
 have hl:xs.length <= 9223372036854775807:=by simpa [zgg,wfT] using hw.1.1
 have hl2:ys.length <= 9223372036854775807:=by simpa [zgg,wfT] using hw.2.1.1
 refine zaj Tryz.call144 Tryz.func144 rfl (by kernel_rfl) (zax (by kernel_rfl)) ?_
 simp -implicitDefEqProofs only[go_sem,Tryz.results144]
 refine ⟨fun h=>?_,fun h=>?_⟩
 ·rw [zuu (by rintro e; simp [e] at h)]
 ·have hlen:xs.length = ys.length:=by simp at h; omega
  refine zae (fun k:Nat=>hd [(1,vT (tmS ys)),(2,.one (.t (.fn g caps))),(15,vT (tmS xs)),(16,vI xs.length),(17,vI k)] [] []) (fun k=>k <= xs.length /\ eqL p xs ys = eqL p (xs.drop k) (ys.drop k)) (fun k=>xs.length - k) 0 (zac ?_) ?_ ?_
  ·simp -implicitDefEqProofs only[go_sem]
  ·simp
  ·intro k ⟨hk,hr⟩
   by_cases hlt:k < xs.length
   ·have hk2:k < ys.length:=by omega
    simp -implicitDefEqProofs only[go_sem,Qb,zad,hlt,hk2,zaa]
    refine callF (H xs[k] (Qe hlt) ys[k] (Qe hk2)) (by simp -implicitDefEqProofs only[go_sem,zaa]) ?_
    simp -implicitDefEqProofs only[go_sem,zaa]
    rw [Qh hlt,Qh hk2,eqL] at hr
    refine ⟨fun h=>?_,fun h=>?_⟩
    ·rw [hr,show p xs[k] ys[k] = false by simpa using h]; rfl
    ·rw [show p xs[k] ys[k] = true by simpa using h,Qn] at hr
     rw [zal (by omega)]
     exact ⟨k + 1,⟨by omega,hr⟩,by omega,zac (by simp -implicitDefEqProofs only[go_sem])⟩
   ·simp -implicitDefEqProofs only[go_sem,Qb,hlt]
    rw [hr,Qs (by omega),Qs (by omega)]; rfl
set_option maxRecDepth 10000 in
set_option maxHeartbeats 400000 in
theorem zig (xs ys:List Fm) (p:Fm->Fm->Bool) (g:FuncId) (caps:List T) (H:∀ x ∈ xs,∀ y ∈ ys,FC Tryz.prog g (fmD x :: fmD y :: caps.map .one) [bD (p x y)]):FC Tryz.prog 143 [.one (fmS xs),.one (fmS ys),.one (.fn g caps)] [bD (eqL p xs ys)]:=by
 refine zdi (fun hw=>?_) Tryz.call143
 have hl:xs.length <= 9223372036854775807:=by simpa [zgg,wfT] using hw.1.1
 have hl2:ys.length <= 9223372036854775807:=by simpa [zgg,wfT] using hw.2.1.1
 refine zaj Tryz.call143 Tryz.func143 rfl (by kernel_rfl) (zax (by kernel_rfl)) ?_
 simp -implicitDefEqProofs only[go_sem,Tryz.results143]
 refine ⟨fun h=>?_,fun h=>?_⟩
 ·rw [zuu (by rintro e; simp [e] at h)]
 ·have hlen:xs.length = ys.length:=by simp at h; omega
  refine zae (fun k:Nat=>hd [(1,vT (fmS ys)),(2,.one (.t (.fn g caps))),(15,vT (fmS xs)),(16,vI xs.length),(17,vI k)] [] []) (fun k=>k <= xs.length /\ eqL p xs ys = eqL p (xs.drop k) (ys.drop k)) (fun k=>xs.length - k) 0 (zac ?_) ?_ ?_
  ·simp -implicitDefEqProofs only[go_sem]
  ·simp
  ·intro k ⟨hk,hr⟩
   by_cases hlt:k < xs.length
   ·have hk2:k < ys.length:=by omega
    simp -implicitDefEqProofs only[go_sem,Qb,zad,hlt,hk2,zab,zaa]
    refine callF (H xs[k] (Qe hlt) ys[k] (Qe hk2)) (by simp -implicitDefEqProofs only[go_sem,zab,zaa]) ?_
    simp -implicitDefEqProofs only[go_sem,zab,zaa]
    rw [Qh hlt,Qh hk2,eqL] at hr
    refine ⟨fun h=>?_,fun h=>?_⟩
    ·rw [hr,show p xs[k] ys[k] = false by simpa using h]; rfl
    ·rw [show p xs[k] ys[k] = true by simpa using h,Qn] at hr
     rw [zal (by omega)]
     exact ⟨k + 1,⟨by omega,hr⟩,by omega,zac (by simp -implicitDefEqProofs only[go_sem])⟩
   ·simp -implicitDefEqProofs only[go_sem,Qb,hlt]
    rw [hr,Qs (by omega),Qs (by omega)]; rfl
end
section
set_option maxRecDepth 4000
open Go.RowKit
theorem zlx (a b:Tm):same a b = (same a.name b.name && same a.args b.args):=by
 cases a; cases b
 rw [Kk]
 simp only [Qa,zbc,Tm.name,Tm.args,Tm.mk.injEq]
theorem zg9 (a b:Fm):same a b = (same a.op b.op && same a.atom b.atom && same a.var b.var && same a.parts b.parts):=by
 cases a; cases b
 rw [Kk]
 simp only [Qa,zbc,Fm.op,Fm.atom,Fm.var,Fm.parts,Fm.mk.injEq,and_assoc]
theorem zcr {α:Type} [BEq α] [LawfulBEq α] (a b:α):(a == b) = same a b:=by
 rw [Kk,Ki,zbc]
theorem qam (a b:Tm) (H:FC Tryz.prog 144 [.one (tmS a.args),.one (tmS b.args),.one (.fn 116 [])] [bD (same a.args b.args)]) :
  FC Tryz.prog 116 [tmD a,tmD b] [bD (same a b)]:=by
 simp only [tmD,zaa]
 refine zaj Tryz.call116 Tryz.func116 rfl (by kernel_rfl) (zax (by kernel_rfl)) ?_
 simp -implicitDefEqProofs only[go_sem,Tryz.results116]
 refine ⟨fun h=>?_,fun h=>?_⟩
 ·refine callF (H) (by simp -implicitDefEqProofs only[go_sem]) ?_
  simp -implicitDefEqProofs only[go_sem]
  rw [zlx,<-zcr a.name,h,Qn]
 ·rw [zlx,<-zcr a.name,h]; rfl
theorem zha:∀ a b:Tm,FC Tryz.prog 116 [tmD a,tmD b] [bD (same a b)] :=
 zbf fun n xs ih b=>qam (.mk n xs) b (by
  rw [show same (Tm.mk n xs).args b.args = eqL same (Tm.mk n xs).args b.args from (zpu fun _ _ _=>rfl).symm]
  exact zmi xs b.args same _ [] fun x hx y _=>ih x hx y)
theorem zni (a b:Fm) (H:FC Tryz.prog 143 [.one (fmS a.parts),.one (fmS b.parts),.one (.fn 70 [])] [bD (same a.parts b.parts)]) :
  FC Tryz.prog 70 [fmD a,fmD b] [bD (same a b)]:=by
 simp only [fmD,zab]
 refine zaj Tryz.call70 Tryz.func70 rfl (by kernel_rfl) (zax (by kernel_rfl)) ?_
 simp -implicitDefEqProofs only[go_sem,Tryz.results70]
 refine ⟨fun h1=>?_,fun h1=>by rw [zg9,<-zcr a.op,h1]; rfl⟩
 refine callF (zha a.atom b.atom) (by simp -implicitDefEqProofs only[go_sem,zaa]) ?_
 simp -implicitDefEqProofs only[go_sem,zaa]
 refine ⟨fun h2=>?_,fun h2=>by rw [zg9,<-zcr a.op,h1,h2]; rfl⟩
 refine ⟨fun h3=>?_,fun h3=>by rw [zg9,<-zcr a.op,h1,h2,<-zcr a.var,h3]; rfl⟩
 refine callF (H) (by simp -implicitDefEqProofs only[go_sem]) ?_
 simp -implicitDefEqProofs only[go_sem]
 rw [zg9,<-zcr a.op,h1,h2,<-zcr a.var,h3]; rfl
theorem zis:∀ a b:Fm,FC Tryz.prog 70 [fmD a,fmD b] [bD (same a b)] :=
 za8 fun o t v ps ih b=>zni (.mk o t v ps) b (by
  rw [show same (Fm.mk o t v ps).parts b.parts = eqL same (Fm.mk o t v ps).parts b.parts from (zpu fun _ _ _=>rfl).symm]
  exact zig ps b.parts same _ [] fun x hx y _=>ih x hx y)
theorem qf0 (a b:Tm) (H:∀ x ∈ a.args,∀ y,FC Tryz.prog 101 [tmD x,tmD y] [bD (same x y)]):FC Tryz.prog 101 [tmD a,tmD b] [bD (same a b)]:=by
 refine zdi (fun hw=>?_) Tryz.call101
 simp only [tmD,zaa] at hw ⊢
 have hl:a.args.length <= 9223372036854775807:=by simp [zgg,wfT,zt5] at hw; exact hw.1.2.1
 refine zaj Tryz.call101 Tryz.func101 rfl (by kernel_rfl) (zax (by kernel_rfl)) ?_
 simp -implicitDefEqProofs only[go_sem,Tryz.results101]
 refine ⟨fun h1=>?_,fun h1=>by rw [zlx,<-zcr a.name,show (a.name == b.name) = false by simpa using h1]; rfl⟩
 have h1':same a.name b.name = true:=by rw [<-zcr]; simpa using h1
 refine ⟨fun h2=>?_,fun h2=>?_⟩
 ·rw [zlx,h1',Qn,zc0.2 (by rintro e; simp [e] at h2)]
 have hlen:a.args.length = b.args.length:=by simp at h2; omega
 have hs:same a b = same a.args b.args:=by rw [zlx,h1',Qn]
 refine zae (fun k:Nat=>hd [(2,.one (.bx 2 0)),(3,.one (.bx 3 0)),(4,vB false),(5,vI k)] [(2,[.t (.str a.name),.t (tmS a.args)]),(3,[.t (.str b.name),.t (tmS b.args)])] []) (fun k=>k <= a.args.length /\ same a.args b.args = same (a.args.drop k) (b.args.drop k)) (fun k=>a.args.length - k) 0 (zac ?_) ?_ ?_
 ·simp -implicitDefEqProofs only[go_sem]
 ·simp
 ·intro k ⟨hk,hr⟩
  by_cases hlt:k < a.args.length
  ·have hk2:k < b.args.length:=by omega
   simp -implicitDefEqProofs only[go_sem,hlt]
   refine drawn (by kernel_rfl) ?_
   simp -implicitDefEqProofs only[go_sem,zad,hlt,hk2,zaa]
   refine zao (H a.args[k] (Qe hlt) b.args[k]) (by simp -implicitDefEqProofs only[go_sem,zaa]) ?_
   simp -implicitDefEqProofs only[go_sem,zaa]
   rw [Qh hlt,Qh hk2,zcv] at hr
   refine ⟨by kernel_rfl,fun h=>?_,fun h=>?_⟩
   ·rw [hs,hr,show same a.args[k] b.args[k] = false by simpa using h]; rfl
   ·rw [show same a.args[k] b.args[k] = true by simpa using h,Qn] at hr
    rw [zal (by omega)]
    exact ⟨k + 1,⟨by omega,hr⟩,by omega,zac (by simp -implicitDefEqProofs only[go_sem])⟩
  ·simp -implicitDefEqProofs only[go_sem,hlt]
   rw [hs,hr,Qs (by omega),Qs (by omega),zf4]
theorem zo2:∀ a b:Tm,FC Tryz.prog 101 [tmD a,tmD b] [bD (same a b)]:=zbf fun n xs ih b=>qf0 (.mk n xs) b ih
set_option maxHeartbeats 1000000 in
theorem qg3 (a b:Fm) (H:∀ x ∈ a.parts,∀ y,FC Tryz.prog 72 [fmD x,fmD y] [bD (same x y)]):FC Tryz.prog 72 [fmD a,fmD b] [bD (same a b)]:=by
 refine zdi (fun hw=>?_) Tryz.call72
 simp only [fmD,zab] at hw ⊢
 have hl:a.parts.length <= 9223372036854775807:=by simp [zgg,wfT,zt5] at hw; exact hw.1.2.2.2.2.1
 refine zaj Tryz.call72 Tryz.func72 rfl (by kernel_rfl) (zax (by kernel_rfl)) ?_
 simp -implicitDefEqProofs only[go_sem,Tryz.results72]
 refine ⟨fun h1=>?_,fun h1=>by rw [zg9,<-zcr a.op,show (a.op == b.op) = false by simpa using h1]; rfl⟩
 have h1':same a.op b.op = true:=by rw [<-zcr]; simpa using h1
 refine ⟨fun h2=>?_,fun h2=>by rw [zg9,h1',<-zcr a.var,show (a.var == b.var) = false by simpa using h2]; simp⟩
 have h2':same a.var b.var = true:=by rw [<-zcr]; simpa using h2
 refine callF (zo2 a.atom b.atom) (by simp -implicitDefEqProofs only[go_sem,zaa]) ?_
 simp -implicitDefEqProofs only[go_sem,zaa]
 refine ⟨fun h3=>?_,fun h3=>by rw [zg9,h1',show same a.atom b.atom = false by simpa using h3]; rfl⟩
 have h3':same a.atom b.atom = true:=by simpa using h3
 have hs:same a b = same a.parts b.parts:=by rw [zg9,h1',h2',h3']; rfl
 refine ⟨fun h4=>?_,fun h4=>?_⟩
 ·rw [hs,zc0.2 (by rintro e; simp [e] at h4)]
 have hlen:a.parts.length = b.parts.length:=by simp at h4; omega
 refine zae (fun k:Nat=>hd [(2,.one (.bx 2 0)),(3,.one (.bx 3 0)),(4,vB false),(5,vI k)] [(2,[.t (.int .i64 a.op),.t (.str a.atom.name),.t (tmS a.atom.args),.t (.str a.var),.t (fmS a.parts)]),(3,[.t (.int .i64 b.op),.t (.str b.atom.name),.t (tmS b.atom.args),.t (.str b.var),.t (fmS b.parts)])] []) (fun k=>k <= a.parts.length /\ same a.parts b.parts = same (a.parts.drop k) (b.parts.drop k)) (fun k=>a.parts.length - k) 0 (zac ?_) ?_ ?_
 ·simp -implicitDefEqProofs only[go_sem]
 ·simp
 ·intro k ⟨hk,hr⟩
  by_cases hlt:k < a.parts.length
  ·have hk2:k < b.parts.length:=by omega
   simp -implicitDefEqProofs only[go_sem,hlt]
   refine drawn (by kernel_rfl) ?_
   simp -implicitDefEqProofs only[go_sem,zad,hlt,hk2,zab]
   refine zao (H a.parts[k] (Qe hlt) b.parts[k]) (by simp -implicitDefEqProofs only[go_sem,zab]) ?_
   simp -implicitDefEqProofs only[go_sem,zab]
   rw [Qh hlt,Qh hk2,zcv] at hr
   refine ⟨by kernel_rfl,fun h=>?_,fun h=>?_⟩
   ·rw [hs,hr,show same a.parts[k] b.parts[k] = false by simpa using h]; rfl
   ·rw [show same a.parts[k] b.parts[k] = true by simpa using h,Qn] at hr
    rw [zal (by omega)]
    exact ⟨k + 1,⟨by omega,hr⟩,by omega,zac (by simp -implicitDefEqProofs only[go_sem])⟩
  ·simp -implicitDefEqProofs only[go_sem,hlt]
   rw [hs,hr,Qs (by omega),Qs (by omega),zf4]
theorem zo1:∀ a b:Fm,FC Tryz.prog 72 [fmD a,fmD b] [bD (same a b)]:=za8 fun o t v ps ih b=>qg3 (.mk o t v ps) b ih
end
section
set_option maxRecDepth 4000
open Go.RowKit
def mkF (op:Int) (ps:List Fm):Fm:=.mk op (.mk [] []) [] ps
theorem zcg (op:Int) (ps:List Fm):fmC (mkF op ps) = [.int .i64 op,.str [],.sl 2 [],.str [],.sl 5 (ps.map fmC)]:=zab _
end
section
set_option maxRecDepth 4000
open Go.RowKit
set_option maxHeartbeats 4000000 in
theorem qa1 (f:Fm) (hs:f.wt <= 1099511627776) (H:∀ x ∈ f.parts,FC Tryz.prog 152 [fmD x] [bD x.forms]):FC Tryz.prog 152 [fmD f] [bD f.forms]:=by
 have H1:∀ x ∈ f.parts,FC Tryz.prog 210 [fmD x] [bD (!x.forms)]:=fun x hx=>by
  simp only [fmD,zab]
  refine zaj Tryz.call210 Tryz.func210 rfl (by kernel_rfl) (zax (by kernel_rfl)) ?_
  simp -implicitDefEqProofs only[go_sem,Tryz.results210]
  refine callF (H x hx) (by simp -implicitDefEqProofs only[go_sem,zab]) ?_
  simp -implicitDefEqProofs only[go_sem,zab]
 have hN:=f.forms_eq
 obtain ⟨o,a,v,ps⟩:=f
 have ha:a.wt <= 1099511627776:=Kg (zj5 (.mk o a v ps)) hs
 have e0:((ps.length:Int) != 0) = !decide (ps.length = 0):=zum _ 0
 have e1:((ps.length:Int) != 1) = !decide (ps.length = 1):=zum _ 1
 have e2:((ps.length:Int) != 2) = !decide (ps.length = 2):=zum _ 2
 simp only [Fm.parts] at H1 hN
 rcases zwj o with rfl | rfl | rfl | rfl | rfl | rfl | rfl | rfl | rfl | ⟨n1,n2,n3,n4,n5,n6,n7,n8,n9⟩
 ·have hH:Fm.here (.mk 1 a v ps) = (decide (ps.length = 0) && a.none && (v == [])):=rfl
  rw [hH] at hN
  have hq:isQ 1 = false:=rfl
  have hb:zm8 1 = false:=rfl
  simp only [fmD,zab,Fm.op,Fm.atom,Fm.var,Fm.parts]
  refine zaj Tryz.call152 Tryz.func152 rfl (by kernel_rfl) (zax (by kernel_rfl)) ?_
  simp -implicitDefEqProofs only[go_sem,Tryz.results152]
  simp only [e0]
  refine ⟨fun h=>?_,fun h=>?_⟩
  ·have h':decide (ps.length = 0) = true:=by simpa using h
   refine callF (zan 1) (by simp -implicitDefEqProofs only[go_sem,hq]) ?_
   simp -implicitDefEqProofs only[go_sem,hq]
   refine callF (zan 1) (by simp -implicitDefEqProofs only[go_sem,hq]) ?_
   simp -implicitDefEqProofs only[go_sem,hq]
   refine ⟨fun h1=>?_,fun h1=>?_⟩
   ·rw [hN,show (v == []) = false by simpa using h1,Kb,Qj]
   ·have h1':(v == []) = true:=by simpa using h1
    refine callF (zcb a) (by simp -implicitDefEqProofs only[go_sem,zaa]) ?_
    simp -implicitDefEqProofs only[go_sem,zaa]
    refine ⟨fun h2=>?_,fun h2=>?_⟩
    ·rw [hN,show a.none = false by simpa using h2,Kb,Qj,Qj]
    ·have h2':a.none = true:=by simpa using h2
     refine callF (za0 ps (fun x=>!x.forms) _ [] H1) (by simp -implicitDefEqProofs only[go_sem]) ?_
     simp -implicitDefEqProofs only[go_sem]
     rw [zd4,hN,h',h1',h2']; rfl
  ·rw [hN,show decide (ps.length = 0) = false by simpa using h]; rfl
 ·have hH:Fm.here (.mk 2 a v ps) = (decide (ps.length = 0) && a.none && (v == [])):=rfl
  rw [hH] at hN
  have hq:isQ 2 = false:=rfl
  have hb:zm8 2 = false:=rfl
  simp only [fmD,zab,Fm.op,Fm.atom,Fm.var,Fm.parts]
  refine zaj Tryz.call152 Tryz.func152 rfl (by kernel_rfl) (zax (by kernel_rfl)) ?_
  simp -implicitDefEqProofs only[go_sem,Tryz.results152]
  simp only [e0]
  refine ⟨fun h=>?_,fun h=>?_⟩
  ·have h':decide (ps.length = 0) = true:=by simpa using h
   refine callF (zan 2) (by simp -implicitDefEqProofs only[go_sem,hq]) ?_
   simp -implicitDefEqProofs only[go_sem,hq]
   refine callF (zan 2) (by simp -implicitDefEqProofs only[go_sem,hq]) ?_
   simp -implicitDefEqProofs only[go_sem,hq]
   refine ⟨fun h1=>?_,fun h1=>?_⟩
   ·rw [hN,show (v == []) = false by simpa using h1,Kb,Qj]
   ·have h1':(v == []) = true:=by simpa using h1
    refine callF (zcb a) (by simp -implicitDefEqProofs only[go_sem,zaa]) ?_
    simp -implicitDefEqProofs only[go_sem,zaa]
    refine ⟨fun h2=>?_,fun h2=>?_⟩
    ·rw [hN,show a.none = false by simpa using h2,Kb,Qj,Qj]
    ·have h2':a.none = true:=by simpa using h2
     refine callF (za0 ps (fun x=>!x.forms) _ [] H1) (by simp -implicitDefEqProofs only[go_sem]) ?_
     simp -implicitDefEqProofs only[go_sem]
     rw [zd4,hN,h',h1',h2']; rfl
  ·rw [hN,show decide (ps.length = 0) = false by simpa using h]; rfl
 ·have hH:Fm.here (.mk 3 a v ps) = (decide (ps.length = 0) && a.atomOk && (v == [])):=rfl
  rw [hH] at hN
  have hq:isQ 3 = false:=rfl
  have hb:zm8 3 = false:=rfl
  simp only [fmD,zab,Fm.op,Fm.atom,Fm.var,Fm.parts]
  refine zaj Tryz.call152 Tryz.func152 rfl (by kernel_rfl) (zax (by kernel_rfl)) ?_
  simp -implicitDefEqProofs only[go_sem,Tryz.results152]
  simp only [e0]
  refine ⟨fun h=>?_,fun h=>?_⟩
  ·have h':decide (ps.length = 0) = true:=by simpa using h
   refine callF (zan 3) (by simp -implicitDefEqProofs only[go_sem,hq]) ?_
   simp -implicitDefEqProofs only[go_sem,hq]
   refine callF (zan 3) (by simp -implicitDefEqProofs only[go_sem,hq]) ?_
   simp -implicitDefEqProofs only[go_sem,hq]
   refine ⟨fun h1=>?_,fun h1=>?_⟩
   ·rw [hN,show (v == []) = false by simpa using h1,Kb,Qj]
   ·have h1':(v == []) = true:=by simpa using h1
    refine callF (zqw a ha) (by simp -implicitDefEqProofs only[go_sem,zaa]) ?_
    simp -implicitDefEqProofs only[go_sem,zaa]
    refine And.symm ⟨fun h2=>?_,fun h2=>?_⟩
    ·rw [hN,show a.atomOk = false by simpa using h2,Kb,Qj,Qj]
    ·have h2':a.atomOk = true:=by simpa using h2
     refine callF (za0 ps (fun x=>!x.forms) _ [] H1) (by simp -implicitDefEqProofs only[go_sem]) ?_
     simp -implicitDefEqProofs only[go_sem]
     rw [zd4,hN,h',h1',h2']; rfl
  ·rw [hN,show decide (ps.length = 0) = false by simpa using h]; rfl
 ·have hH:Fm.here (.mk 4 a v ps) = (decide (ps.length = 1) && a.none && (v == [])):=rfl
  rw [hH] at hN
  have hq:isQ 4 = false:=rfl
  have hb:zm8 4 = false:=rfl
  simp only [fmD,zab,Fm.op,Fm.atom,Fm.var,Fm.parts]
  refine zaj Tryz.call152 Tryz.func152 rfl (by kernel_rfl) (zax (by kernel_rfl)) ?_
  simp -implicitDefEqProofs only[go_sem,Tryz.results152]
  simp only [e1]
  refine ⟨fun h=>?_,fun h=>?_⟩
  ·have h':decide (ps.length = 1) = true:=by simpa using h
   refine callF (zan 4) (by simp -implicitDefEqProofs only[go_sem,hq]) ?_
   simp -implicitDefEqProofs only[go_sem,hq]
   refine callF (zan 4) (by simp -implicitDefEqProofs only[go_sem,hq]) ?_
   simp -implicitDefEqProofs only[go_sem,hq]
   refine ⟨fun h1=>?_,fun h1=>?_⟩
   ·rw [hN,show (v == []) = false by simpa using h1,Kb,Qj]
   ·have h1':(v == []) = true:=by simpa using h1
    refine callF (zcb a) (by simp -implicitDefEqProofs only[go_sem,zaa]) ?_
    simp -implicitDefEqProofs only[go_sem,zaa]
    refine ⟨fun h2=>?_,fun h2=>?_⟩
    ·rw [hN,show a.none = false by simpa using h2,Kb,Qj,Qj]
    ·have h2':a.none = true:=by simpa using h2
     refine callF (za0 ps (fun x=>!x.forms) _ [] H1) (by simp -implicitDefEqProofs only[go_sem]) ?_
     simp -implicitDefEqProofs only[go_sem]
     rw [zd4,hN,h',h1',h2']; rfl
  ·rw [hN,show decide (ps.length = 1) = false by simpa using h]; rfl
 ·have hH:Fm.here (.mk 5 a v ps) = (decide (ps.length = 2) && a.none && (v == [])):=rfl
  rw [hH] at hN
  have hq:isQ 5 = false:=rfl
  have hb:zm8 5 = true:=rfl
  simp only [fmD,zab,Fm.op,Fm.atom,Fm.var,Fm.parts]
  refine zaj Tryz.call152 Tryz.func152 rfl (by kernel_rfl) (zax (by kernel_rfl)) ?_
  simp -implicitDefEqProofs only[go_sem,Tryz.results152]
  refine callF (zan 5) (by simp -implicitDefEqProofs only[go_sem,hq]) ?_
  simp -implicitDefEqProofs only[go_sem,hq]
  refine callF (zhd 5) (by simp -implicitDefEqProofs only[go_sem,hb]) ?_
  simp -implicitDefEqProofs only[go_sem,hb]
  simp only [e2]
  refine ⟨fun h=>?_,fun h=>?_⟩
  ·have h':decide (ps.length = 2) = true:=by simpa using h
   refine callF (zan 5) (by simp -implicitDefEqProofs only[go_sem,hq]) ?_
   simp -implicitDefEqProofs only[go_sem,hq]
   refine callF (zan 5) (by simp -implicitDefEqProofs only[go_sem,hq]) ?_
   simp -implicitDefEqProofs only[go_sem,hq]
   refine ⟨fun h1=>?_,fun h1=>?_⟩
   ·rw [hN,show (v == []) = false by simpa using h1,Kb,Qj]
   ·have h1':(v == []) = true:=by simpa using h1
    refine callF (zcb a) (by simp -implicitDefEqProofs only[go_sem,zaa]) ?_
    simp -implicitDefEqProofs only[go_sem,zaa]
    refine ⟨fun h2=>?_,fun h2=>?_⟩
    ·rw [hN,show a.none = false by simpa using h2,Kb,Qj,Qj]
    ·have h2':a.none = true:=by simpa using h2
     refine callF (za0 ps (fun x=>!x.forms) _ [] H1) (by simp -implicitDefEqProofs only[go_sem]) ?_
     simp -implicitDefEqProofs only[go_sem]
     rw [zd4,hN,h',h1',h2']; rfl
  ·rw [hN,show decide (ps.length = 2) = false by simpa using h]; rfl
 ·have hH:Fm.here (.mk 6 a v ps) = (decide (ps.length = 2) && a.none && (v == [])):=rfl
  rw [hH] at hN
  have hq:isQ 6 = false:=rfl
  have hb:zm8 6 = true:=rfl
  simp only [fmD,zab,Fm.op,Fm.atom,Fm.var,Fm.parts]
  refine zaj Tryz.call152 Tryz.func152 rfl (by kernel_rfl) (zax (by kernel_rfl)) ?_
  simp -implicitDefEqProofs only[go_sem,Tryz.results152]
  refine callF (zan 6) (by simp -implicitDefEqProofs only[go_sem,hq]) ?_
  simp -implicitDefEqProofs only[go_sem,hq]
  refine callF (zhd 6) (by simp -implicitDefEqProofs only[go_sem,hb]) ?_
  simp -implicitDefEqProofs only[go_sem,hb]
  simp only [e2]
  refine ⟨fun h=>?_,fun h=>?_⟩
  ·have h':decide (ps.length = 2) = true:=by simpa using h
   refine callF (zan 6) (by simp -implicitDefEqProofs only[go_sem,hq]) ?_
   simp -implicitDefEqProofs only[go_sem,hq]
   refine callF (zan 6) (by simp -implicitDefEqProofs only[go_sem,hq]) ?_
   simp -implicitDefEqProofs only[go_sem,hq]
   refine ⟨fun h1=>?_,fun h1=>?_⟩
   ·rw [hN,show (v == []) = false by simpa using h1,Kb,Qj]
   ·have h1':(v == []) = true:=by simpa using h1
    refine callF (zcb a) (by simp -implicitDefEqProofs only[go_sem,zaa]) ?_
    simp -implicitDefEqProofs only[go_sem,zaa]
    refine ⟨fun h2=>?_,fun h2=>?_⟩
    ·rw [hN,show a.none = false by simpa using h2,Kb,Qj,Qj]
    ·have h2':a.none = true:=by simpa using h2
     refine callF (za0 ps (fun x=>!x.forms) _ [] H1) (by simp -implicitDefEqProofs only[go_sem]) ?_
     simp -implicitDefEqProofs only[go_sem]
     rw [zd4,hN,h',h1',h2']; rfl
  ·rw [hN,show decide (ps.length = 2) = false by simpa using h]; rfl
 ·have hH:Fm.here (.mk 7 a v ps) = (decide (ps.length = 2) && a.none && (v == [])):=rfl
  rw [hH] at hN
  have hq:isQ 7 = false:=rfl
  have hb:zm8 7 = true:=rfl
  simp only [fmD,zab,Fm.op,Fm.atom,Fm.var,Fm.parts]
  refine zaj Tryz.call152 Tryz.func152 rfl (by kernel_rfl) (zax (by kernel_rfl)) ?_
  simp -implicitDefEqProofs only[go_sem,Tryz.results152]
  refine callF (zan 7) (by simp -implicitDefEqProofs only[go_sem,hq]) ?_
  simp -implicitDefEqProofs only[go_sem,hq]
  refine callF (zhd 7) (by simp -implicitDefEqProofs only[go_sem,hb]) ?_
  simp -implicitDefEqProofs only[go_sem,hb]
  simp only [e2]
  refine ⟨fun h=>?_,fun h=>?_⟩
  ·have h':decide (ps.length = 2) = true:=by simpa using h
   refine callF (zan 7) (by simp -implicitDefEqProofs only[go_sem,hq]) ?_
   simp -implicitDefEqProofs only[go_sem,hq]
   refine callF (zan 7) (by simp -implicitDefEqProofs only[go_sem,hq]) ?_
   simp -implicitDefEqProofs only[go_sem,hq]
   refine ⟨fun h1=>?_,fun h1=>?_⟩
   ·rw [hN,show (v == []) = false by simpa using h1,Kb,Qj]
   ·have h1':(v == []) = true:=by simpa using h1
    refine callF (zcb a) (by simp -implicitDefEqProofs only[go_sem,zaa]) ?_
    simp -implicitDefEqProofs only[go_sem,zaa]
    refine ⟨fun h2=>?_,fun h2=>?_⟩
    ·rw [hN,show a.none = false by simpa using h2,Kb,Qj,Qj]
    ·have h2':a.none = true:=by simpa using h2
     refine callF (za0 ps (fun x=>!x.forms) _ [] H1) (by simp -implicitDefEqProofs only[go_sem]) ?_
     simp -implicitDefEqProofs only[go_sem]
     rw [zd4,hN,h',h1',h2']; rfl
  ·rw [hN,show decide (ps.length = 2) = false by simpa using h]; rfl
 ·have hH:Fm.here (.mk 8 a v ps) = (decide (ps.length = 1) && a.none && zay v):=rfl
  rw [hH] at hN
  have hq:isQ 8 = true:=rfl
  have hb:zm8 8 = false:=rfl
  simp only [fmD,zab,Fm.op,Fm.atom,Fm.var,Fm.parts]
  refine zaj Tryz.call152 Tryz.func152 rfl (by kernel_rfl) (zax (by kernel_rfl)) ?_
  simp -implicitDefEqProofs only[go_sem,Tryz.results152]
  refine callF (zan 8) (by simp -implicitDefEqProofs only[go_sem,hq]) ?_
  simp -implicitDefEqProofs only[go_sem,hq]
  simp only [e1]
  refine ⟨fun h=>?_,fun h=>?_⟩
  ·have h':decide (ps.length = 1) = true:=by simpa using h
   refine callF (zan 8) (by simp -implicitDefEqProofs only[go_sem,hq]) ?_
   simp -implicitDefEqProofs only[go_sem,hq]
   refine callF (ze4 v) (by simp -implicitDefEqProofs only[go_sem]) ?_
   simp -implicitDefEqProofs only[go_sem]
   refine ⟨fun h1=>?_,fun h1=>?_⟩
   ·have h1':zay v = true:=by simpa using h1
    refine callF (zan 8) (by simp -implicitDefEqProofs only[go_sem,hq]) ?_
    simp -implicitDefEqProofs only[go_sem,hq]
    refine callF (zcb a) (by simp -implicitDefEqProofs only[go_sem,zaa]) ?_
    simp -implicitDefEqProofs only[go_sem,zaa]
    refine ⟨fun h2=>?_,fun h2=>?_⟩
    ·rw [hN,show a.none = false by simpa using h2,Kb,Qj,Qj]
    ·have h2':a.none = true:=by simpa using h2
     refine callF (za0 ps (fun x=>!x.forms) _ [] H1) (by simp -implicitDefEqProofs only[go_sem]) ?_
     simp -implicitDefEqProofs only[go_sem]
     rw [zd4,hN,h',h1',h2']; rfl
   ·rw [hN,show zay v = false by simpa using h1,Kb,Qj]
  ·rw [hN,show decide (ps.length = 1) = false by simpa using h]; rfl
 ·have hH:Fm.here (.mk 9 a v ps) = (decide (ps.length = 1) && a.none && zay v):=rfl
  rw [hH] at hN
  have hq:isQ 9 = true:=rfl
  have hb:zm8 9 = false:=rfl
  simp only [fmD,zab,Fm.op,Fm.atom,Fm.var,Fm.parts]
  refine zaj Tryz.call152 Tryz.func152 rfl (by kernel_rfl) (zax (by kernel_rfl)) ?_
  simp -implicitDefEqProofs only[go_sem,Tryz.results152]
  refine callF (zan 9) (by simp -implicitDefEqProofs only[go_sem,hq]) ?_
  simp -implicitDefEqProofs only[go_sem,hq]
  simp only [e1]
  refine ⟨fun h=>?_,fun h=>?_⟩
  ·have h':decide (ps.length = 1) = true:=by simpa using h
   refine callF (zan 9) (by simp -implicitDefEqProofs only[go_sem,hq]) ?_
   simp -implicitDefEqProofs only[go_sem,hq]
   refine callF (ze4 v) (by simp -implicitDefEqProofs only[go_sem]) ?_
   simp -implicitDefEqProofs only[go_sem]
   refine ⟨fun h1=>?_,fun h1=>?_⟩
   ·have h1':zay v = true:=by simpa using h1
    refine callF (zan 9) (by simp -implicitDefEqProofs only[go_sem,hq]) ?_
    simp -implicitDefEqProofs only[go_sem,hq]
    refine callF (zcb a) (by simp -implicitDefEqProofs only[go_sem,zaa]) ?_
    simp -implicitDefEqProofs only[go_sem,zaa]
    refine ⟨fun h2=>?_,fun h2=>?_⟩
    ·rw [hN,show a.none = false by simpa using h2,Kb,Qj,Qj]
    ·have h2':a.none = true:=by simpa using h2
     refine callF (za0 ps (fun x=>!x.forms) _ [] H1) (by simp -implicitDefEqProofs only[go_sem]) ?_
     simp -implicitDefEqProofs only[go_sem]
     rw [zd4,hN,h',h1',h2']; rfl
   ·rw [hN,show zay v = false by simpa using h1,Kb,Qj]
  ·rw [hN,show decide (ps.length = 1) = false by simpa using h]; rfl
 ·have hH:Fm.here (.mk o a v ps) = false:=by simp [Fm.here,zm8,isQ,Fm.op, *]
  rw [hH] at hN
  have f1:(o == 1) = false:=by simpa using n1
  have f2:(o == 2) = false:=by simpa using n2
  have f3:(o == 3) = false:=by simpa using n3
  have f4:(o == 4) = false:=by simpa using n4
  have hq:isQ o = false:=by simp [isQ,n8,n9]
  have hb:zm8 o = false:=by simp [zm8,n5,n6,n7]
  simp only [fmD,zab,Fm.op,Fm.atom,Fm.var,Fm.parts]
  refine zaj Tryz.call152 Tryz.func152 rfl (by kernel_rfl) (zax (by kernel_rfl)) ?_
  simp -implicitDefEqProofs only[go_sem,Tryz.results152,f1,f2,f3,f4]
  refine callF (zan o) (by simp -implicitDefEqProofs only[go_sem,hq]) ?_
  simp -implicitDefEqProofs only[go_sem,hq]
  refine callF (zhd o) (by simp -implicitDefEqProofs only[go_sem,hb]) ?_
  simp -implicitDefEqProofs only[go_sem,hb]
  rw [hN]; rfl
theorem qcw:∀ a:Fm,a.wt <= 1099511627776->FC Tryz.prog 152 [fmD a] [bD a.forms] :=
 za8 fun o a v xs ih hs=>qa1 (.mk o a v xs) hs fun x hx=>ih x hx (Kg (zbt (a:=.mk o a v xs) hx) hs)
theorem zb6 (a:Fm) (hs:a.wt <= 1099511627776):FC Tryz.prog 79 [fmD a] [bD a.good]:=by
 simp only [fmD,zab]
 refine zaj Tryz.call79 Tryz.func79 rfl (by kernel_rfl) (zax (by kernel_rfl)) ?_
 simp -implicitDefEqProofs only[go_sem,Tryz.results79]
 refine callF (qjy a hs) (by simp -implicitDefEqProofs only[go_sem,zab]) ?_
 simp -implicitDefEqProofs only[go_sem,zab]
 rw [qlf]
 refine ⟨fun h=>?_,fun h=>?_⟩
 ·refine callF (qcw a hs) (by simp -implicitDefEqProofs only[go_sem,zab]) ?_
  simp -implicitDefEqProofs only[go_sem,zab]
  rw [Fm.good,h,Qn]
 ·rw [Fm.good,h,Qj]
end
section
set_option maxRecDepth 4000
open Go.RowKit
theorem zvj {a:Tm} (h:a.none = true):a = .mk [] []:=by
 obtain ⟨n,xs⟩:=a
 simp only [Tm.none,Tm.name,Tm.args,Qa,Ki,Qg,Qx] at h
 rw [h.1,h.2]
theorem len1 {α:Type} {xs:List α} (h:xs.length = 1) : ∃ x,xs = [x]:=by
 match xs,h with
 | [x],_=>exact ⟨x,rfl⟩
theorem len2 {α:Type} {xs:List α} (h:xs.length = 2) : ∃ x y,xs = [x,y]:=by
 match xs,h with
 | [x,y],_=>exact ⟨x,y,rfl⟩
theorem zu3 (o:Int) (a:Tm) (v:Str) (ps:List Fm):Fm.here (.mk o a v ps) =
  if (o == 1 || o == 2) = true then decide (ps.length = 0) && a.none && (v == [])
  else if (o == 3) = true then decide (ps.length = 0) && a.atomOk && (v == [])
  else if (o == 4) = true then decide (ps.length = 1) && a.none && (v == [])
  else if (o == 5 || o == 6 || o == 7) = true then decide (ps.length = 2) && a.none && (v == [])
  else if (o == 8 || o == 9) = true then decide (ps.length = 1) && a.none && zay v
  else false:=rfl
theorem zie {f:Fm} (h:f.forms = true) :
  (f.parts = [] /\ (f.op = 1 \/ f.op = 2 \/ f.op = 3)) \/ (∃ p:Fm,f = mkF 4 [p] /\ p.forms = true) \/ (∃ (o:Int) (p q:Fm),(o = 5 \/ o = 6 \/ o = 7) /\ f = mkF o [p,q] /\ p.forms = true /\ q.forms = true) ∨
   ∃ (o:Int) (v:Str) (p:Fm),(o = 8 \/ o = 9) /\ f = .mk o (.mk [] []) v [p] /\ p.forms = true:=by
 rw [Fm.forms_eq,Qa] at h
 obtain ⟨h1,h2⟩:=h
 obtain ⟨o,a,v,ps⟩:=f
 rw [zu3] at h1
 simp only [Fm.op,Fm.parts] at h2 ⊢
 by_cases h12:(o == 1 || o == 2) = true
 ·rw [if_pos h12] at h1
  simp only [Ji,Ki,Qa,Qg,Qx] at h12 h1
  exact Or.inl ⟨h1.1.1,by omega⟩
 rw [if_neg h12] at h1
 by_cases h3:(o == 3) = true
 ·rw [if_pos h3] at h1
  simp only [Ki,Qa,Qg,Qx] at h3 h1
  exact Or.inl ⟨h1.1.1,by omega⟩
 rw [if_neg h3] at h1
 by_cases h4:(o == 4) = true
 ·rw [if_pos h4] at h1
  simp only [Ki,Qa,Qg] at h4 h1
  obtain ⟨⟨h5,h6⟩,h7⟩:=h1
  obtain ⟨x,rfl⟩:=len1 h5
  rw [h4,zvj h6,h7]
  exact Or.inr (Or.inl ⟨x,rfl,by simpa using h2⟩)
 rw [if_neg h4] at h1
 by_cases h5:(o == 5 || o == 6 || o == 7) = true
 ·rw [if_pos h5] at h1
  simp only [Ji,Ki,Qa,Qg] at h5 h1
  obtain ⟨⟨h6,h7⟩,h8⟩:=h1
  obtain ⟨x,y,rfl⟩:=len2 h6
  rw [zvj h7,h8]
  simp only [Ks,List.all_nil,Yb,Qa] at h2
  exact Or.inr (Or.inr (Or.inl ⟨o,x,y,by omega,rfl,h2.1,h2.2⟩))
 rw [if_neg h5] at h1
 by_cases h6:(o == 8 || o == 9) = true
 ·rw [if_pos h6] at h1
  simp only [Ji,Ki,Qa,Qg] at h6 h1
  obtain ⟨⟨h7,h8⟩,h9⟩:=h1
  obtain ⟨x,rfl⟩:=len1 h7
  rw [zvj h8]
  exact Or.inr (Or.inr (Or.inr ⟨o,v,x,by omega,rfl,by simpa using h2⟩))
 ·rw [if_neg h6] at h1; cases h1
theorem qm6 (o:Int) (ps:List Fm):(mkF o ps).parts = ps:=rfl
end
section
set_option maxRecDepth 4000
open Go.RowKit Go.Sort
theorem qaf {P:Program} {f:FuncId} (hc:za7 P f) (hS:∀ (blk off cap:Nat) (zs:List (List UInt8)) (w:World),Holds encStr w blk off zs.toArray->zs.length <= 9223372036854775807->zs.length <= cap →
   Calls P f #[.slice (some ⟨blk,off,none⟩) zs.length cap] w fun e w'=>e = .returned (.slice (some ⟨blk,off,none⟩) (Lib.compact zs).length cap) /\ ∃ q,w' = putRow encStr (Sort.ahead w q) blk off (Lib.compact zs ++ List.replicate (zs.length - (Lib.compact zs).length) []).toArray)
  (hN:∀ (a:Option Addr) (cap:Nat) (w:World),Calls P f #[.slice a 0 cap] w fun e w'=>e = .returned (.slice a 0 cap) /\ w' = w) (hsub:∀ zs:List (List UInt8),(Lib.compact zs).length <= zs.length /\ ∀ s ∈ Lib.compact zs,s ∈ zs) (ss:List Str):GC P f [(true,.one (zca ss))] [.one (zca (Lib.compact ss))]:=by
 refine ⟨hc,fun w vs fp tp hv hn=>?_⟩
 obtain ⟨v,_,f1,_,t1,_,rfl,rfl,rfl,⟨hg,_⟩,hv⟩:=hv
 obtain ⟨rfl,rfl,rfl⟩:=hv
 unfold zaz at hg
 obtain ⟨ao,cap,rfl,q1,q2,q3⟩:=hg
 rw [Qb] at q1 ⊢
 rcases q3 with ⟨rfl,rfl,q3,rfl⟩ | ⟨b,cells,ty,fps,rfl,rfl,q3,q4,q5⟩
 ·have hs:ss = []:=List.map_eq_nil_iff.1 q3
  subst hs
  refine (hN none 0 w).mono ?_
  rintro e w' ⟨rfl,rfl⟩
  refine ⟨[_],[],[],rfl,⟨_,[],[],[],[],[],rfl,rfl,rfl,⟨?_,rfl⟩,rfl,rfl,rfl⟩,Km,by simp,Bk.refl _ _⟩
  unfold zaz
  exact ⟨none,0,rfl,by simp [Lib.compact,Lib.compactUpTo],by simp,Or.inl ⟨rfl,rfl,by simp [Lib.compact,Lib.compactUpTo],rfl⟩⟩
 ·obtain ⟨_,vs,k1,k2,k3⟩:=q5.vals
  rw [zgp] at k3
  obtain ⟨rfl,rfl,k4⟩:=zqa k3
  have hsz:ss.length <= cells.size:=by omega
  have ht:cells.toList.take ss.length = ss.map encStr:=by
   apply List.ext_getElem?
   intro j
   by_cases hj:j < ss.length
   ·rw [List.getElem?_take_of_lt hj,Array.getElem?_toList]
    have:=k2 j _ (List.getElem?_eq_getElem (by simpa using hj))
    rw [Q4] at this
    rw [this,List.getElem?_eq_getElem (by simpa using hj)]
   ·rw [List.getElem?_take_eq_none (by omega),List.getElem?_eq_none (by simp; omega)]
  have hM:(9223372036854775807:Nat) = zf3:=rfl
  refine (hS b 0 cap ss w (holds_of_block q3 ht) (by omega) q1).mono ?_
  rintro e w' ⟨rfl,q,rfl⟩
  obtain ⟨hsl,hsm⟩:=hsub ss
  have hw:putRow encStr (Sort.ahead w q) b 0 (Lib.compact ss ++ List.replicate (ss.length - (Lib.compact ss).length) []).toArray = grow (putRow encStr (Sort.ahead w q) b 0 (Lib.compact ss ++ List.replicate (ss.length - (Lib.compact ss).length) []).toArray) #[]:=by unfold grow; simp only [Array.append_empty]
  rw [hw]
  have hgr:=grownBy_sorted (w:=w) (g:=b) (n:=q) (os:=#[]) (Lib.compact ss ++ List.replicate (ss.length - (Lib.compact ss).length) []).toArray
  have hlen:(Lib.compact ss ++ List.replicate (ss.length - (Lib.compact ss).length) ([]:Str)).length = ss.length:=by simp; omega
  have htk:=take_putCells cells (Lib.compact ss ++ List.replicate (ss.length - (Lib.compact ss).length) []) (by omega)
  refine ⟨[_],[b],[b],rfl,⟨_,[],[b],[],[b],[],rfl,rfl,rfl,⟨?_,rfl⟩,rfl,rfl,rfl⟩,by simp,fun x hx=>Or.inl (by simpa using hx),⟨hgr.os,hgr.tape,hgr.output,hgr.size,fun k hk=>hgr.block k hk.1 fun e=>hk.2 (by cases e; simp)⟩⟩
  unfold zaz
  refine ⟨_,cap,by rw [Qb],by rw [Qb]; omega,q2,Or.inr ⟨b,_,ty,[],rfl,rfl,heap_sorted _ q3,by simp [putCells,q4],?_⟩⟩
  refine zak.of_vals (ztx _) (by rw [zgp]; exact zqg fun s hs=>k4 s (hsm s hs)) fun j u hu=>?_
  have hu':((Lib.compact ss ++ List.replicate (ss.length - (Lib.compact ss).length) ([]:Str)).map encStr)[j]? = some u:=by
   rw [Q0]
   have hj:j < ((Lib.compact ss).map encStr).length:=(List.getElem?_eq_some_iff.1 hu).1
   rw [List.getElem?_append_left hj]; exact hu
  rw [<-htk,List.getElem?_take] at hu'
  split at hu'
  ·simpa using hu'
  ·cases hu'
theorem zva (zs:List (List UInt8)):(Lib.compact zs).length <= zs.length /\ ∀ s ∈ Lib.compact zs,s ∈ zs:=by
 unfold Lib.compact Lib.compactUpTo
 refine ⟨?_,fun s hs=>?_⟩
 ·rw [Qb]
  have:=J2 (Lib.keeps zs.toArray) (List.range zs.length)
  simpa using this
 ·obtain ⟨i,hi,rfl⟩:=Kf.1 hs
  have hi:i < zs.length:=by simpa using List.mem_range.1 (Yh.1 hi).1
  simp [hi]
theorem zrs (ss:List Str):GC Tryz.prog 162 [(true,.one (zca ss))] [.one (zca (Lib.compact ss))] :=
 qaf Tryz.call162 (fun blk off cap zs w h1 h2 h3=>Any.slices_Compact_string Tryz.lays194 blk off cap zs w h1 h2 h3) (fun a cap w=>Any.slices_Compact_string_empty Tryz.lays194 a cap w) zva ss
end
section
set_option maxRecDepth 4000
open Go.RowKit
theorem zdb {f:Fm} {x:Fm} (h:x ∈ f.parts):x.nodes < f.nodes:=by
 have:=f.nodes_eq
 obtain ⟨i,hi,rfl⟩:=Jl h
 have:=zbo Fm.nodes f.parts _ (Qe hi)
 omega
def exN (f:Fm):List Str × Fm:=if h:f.op = 9 /\ 0 < f.parts.length then (f.var :: (exN (f.parts[0]'h.2)).1,(exN (f.parts[0]'h.2)).2) else ([],f)
termination_by f.nodes
decreasing_by all_goals exact zdb (Qe h.2)
theorem zku {f:Fm} (h:(f.op == 9) = false):exN f = ([],f):=by rw [exN,dif_neg]; rintro ⟨h1,_⟩; rw [h1] at h; exact absurd h (by decide)
theorem ziu {f:Fm} (h:(f.op == 9) = true) (hf:f.forms = true) : ∃ p,f.parts = [p] /\ p.forms = true:=by
 rw [Fm.forms_eq,Qa] at hf
 have h9:f.op = 9:=by simpa using h
 have h1:=hf.1
 unfold Fm.here at h1
 rw [h9] at h1
 simp only [show ((9:Int) == 1 || (9:Int) == 2) = false by decide,show ((9:Int) == 3) = false by decide,show ((9:Int) == 4) = false by decide,show zm8 9 = false by decide,show isQ 9 = true by decide,if_true,Qo,if_false,Qa,Qg] at h1
 obtain ⟨p,hp⟩:=Jp.1 h1.1.1
 exact ⟨p,hp,Ql.1 hf.2 p (by rw [hp]; simp)⟩
theorem zj3 {f p:Fm} (h:(f.op == 9) = true) (hp:f.parts = [p]):exN f = (f.var :: (exN p).1,(exN p).2):=by
 have h9:f.op = 9:=by simpa using h
 have hl:0 < f.parts.length:=by rw [hp]; simp
 rw [exN,dif_pos ⟨h9,hl⟩]
 have:f.parts[0]'hl = p:=by simp [hp]
 rw [this]
theorem ze8:∀ f:Fm,(exN f).1.length <= f.nodes:=za8 fun o a v ps ih=>by
 by_cases h:((Fm.mk o a v ps).op = 9 /\ 0 < (Fm.mk o a v ps).parts.length)
 ·rw [exN,dif_pos h]
  have hm:=Qe h.2
  have h1:=ih _ hm
  have h2:=zdb hm
  simp only [Qm]
  omega
 ·rw [exN,dif_neg h]; exact Ka _
theorem qhc:∀ f:Fm,(exN f).2.wt <= f.wt:=za8 fun o a v ps ih=>by
 by_cases h:((Fm.mk o a v ps).op = 9 /\ 0 < (Fm.mk o a v ps).parts.length)
 ·rw [exN,dif_pos h]
  have hm:=Qe h.2
  exact Kg (ih _ hm) (zbt hm)
 ·rw [exN,dif_neg h]; exact Qw _
theorem zm0:∀ f:Fm,f.forms = true->(exN f).2.forms = true:=za8 fun o a v ps ih hf=>by
 by_cases h:((Fm.mk o a v ps).op = 9 /\ 0 < (Fm.mk o a v ps).parts.length)
 ·rw [exN,dif_pos h]
  have hm:=Qe h.2
  rw [Fm.forms_eq,Qa] at hf
  exact ih _ hm (Ql.1 hf.2 _ hm)
 ·rw [exN,dif_neg h]; exact hf
theorem zy6 (f:Fm) (hf:f.forms = true) (hw:f.wt <= 1048576):XC Tryz.prog 106 [(false,fmD f)] [(true,.one (zca (exN f).1)),(false,fmD (exN f).2)]:=by
 have hN:=zd2 f
 have hL:=ze8 f
 simp only [fmD,zab]
 refine qlv Tryz.call106 Tryz.func106 rfl (by kernel_rfl) (by simp only [Qm,Qv,Tryz.ntmps106]; omega) (by simp [zbq,T.isPin]) ?_
 simp -implicitDefEqProofs only[go_sem,Tryz.results106]
 refine zbx (by simp -implicitDefEqProofs only[go_sem]) ?_
 simp -implicitDefEqProofs only[go_sem]
 refine zae (fun x:List Str × Fm=>hd [(1,.one (.bx 1 0)),(3,.one (.bx 3 0)),(4,.one (.ow 160 0))] [(1,[.t (.int .i64 x.2.op),.t (.str x.2.atom.name),.rn (tmS x.2.atom.args),.t (.str x.2.var),.rn (fmS x.2.parts)]),(3,[.any,.any,.any,.any,.any])] [(160,⟨true,1,x.1.map fun s=>[.str s],0,true⟩)]) (fun x=>x.2.forms = true /\ x.1 ++ (exN x.2).1 = (exN f).1 /\ (exN x.2).2 = (exN f).2) (fun x=>x.2.nodes) ([],f) (zac ?_) ⟨hf,rfl,rfl⟩ ?_
 ·simp -implicitDefEqProofs only[go_sem]
 ·rintro ⟨ns,g⟩ ⟨h1,h2,h3⟩
  simp only at h1 h2 h3
  have hG:=ze8 g
  cases h9:g.op == 9
  ·rw [zku h9] at h2 h3
   rw [Kd] at h2
   simp only at h2 h3
   subst h2 h3
   simp -implicitDefEqProofs only[go_sem,h9]
   refine drawn (by kernel_rfl) ?_
   simp -implicitDefEqProofs only[go_sem]
   kernel_rfl
  ·obtain ⟨p,hp,hpf⟩:=ziu h9 h1
   rw [zj3 h9 hp] at h2 h3
   have hl:ns.length <= 4294967295:=by
    have:=congrArg List.length h2
    simp only [Qr,Qm] at this
    omega
   have hp0:g.parts.length = 1:=by rw [hp]; rfl
   simp -implicitDefEqProofs only[go_sem,h9]
   refine zbx (by simp -implicitDefEqProofs only[go_sem]) ?_
   simp -implicitDefEqProofs only[go_sem]
   refine apD true (by simp -implicitDefEqProofs only[go_sem,hl,ne_eq,Qb]) ?_
   simp -implicitDefEqProofs only[go_sem,hl,ne_eq,Qb]
   have e0:(List.map fmC g.parts).getD 0 [] = fmC p:=by rw [hp]; rfl
   simp -implicitDefEqProofs only[go_sem,hp0,e0,zab p]
   refine ⟨(ns ++ [g.var],p),⟨hpf,by rw [Kh]; exact h2,h3⟩,zdb (by rw [hp]; simp),zac ?_⟩
   simp -implicitDefEqProofs only[go_sem]
   simp
theorem zsl (f:Fm) (hf:f.forms = true) (hw:f.wt <= 1048576):XC Tryz.prog 93 [(false,fmD f)] [(true,.one (zca (exN f).1)),(false,fmD (exN f).2)]:=by
 have hN:=zd2 f
 have hL:=ze8 f
 simp only [fmD,zab]
 refine qlv Tryz.call93 Tryz.func93 rfl (by kernel_rfl) (by simp only [Qm,Qv,Tryz.ntmps93]; omega) (by simp [zbq,T.isPin]) ?_
 simp -implicitDefEqProofs only[go_sem,Tryz.results93]
 refine zbx (by simp -implicitDefEqProofs only[go_sem]) ?_
 simp -implicitDefEqProofs only[go_sem]
 refine zae (fun x:List Str × Fm=>hd [(1,.one (.bx 1 0)),(3,.one (.bx 3 0)),(4,.one (.ow 160 0))] [(1,[.t (.int .i64 x.2.op),.t (.str x.2.atom.name),.rn (tmS x.2.atom.args),.t (.str x.2.var),.rn (fmS x.2.parts)]),(3,[.any,.any,.any,.any,.any])] [(160,⟨true,1,x.1.map fun s=>[.str s],0,true⟩)]) (fun x=>x.2.forms = true /\ x.1 ++ (exN x.2).1 = (exN f).1 /\ (exN x.2).2 = (exN f).2) (fun x=>x.2.nodes) ([],f) (zac ?_) ⟨hf,rfl,rfl⟩ ?_
 ·simp -implicitDefEqProofs only[go_sem]
 ·rintro ⟨ns,g⟩ ⟨h1,h2,h3⟩
  simp only at h1 h2 h3
  have hG:=ze8 g
  cases h9:g.op == 9
  ·rw [zku h9] at h2 h3
   rw [Kd] at h2
   simp only at h2 h3
   subst h2 h3
   simp -implicitDefEqProofs only[go_sem,h9]
   refine drawn (by kernel_rfl) ?_
   simp -implicitDefEqProofs only[go_sem]
   kernel_rfl
  ·obtain ⟨p,hp,hpf⟩:=ziu h9 h1
   rw [zj3 h9 hp] at h2 h3
   have hl:ns.length <= 4294967295:=by
    have:=congrArg List.length h2
    simp only [Qr,Qm] at this
    omega
   have hp0:g.parts.length = 1:=by rw [hp]; rfl
   simp -implicitDefEqProofs only[go_sem,h9]
   refine zbx (by simp -implicitDefEqProofs only[go_sem]) ?_
   simp -implicitDefEqProofs only[go_sem]
   refine apD true (by simp -implicitDefEqProofs only[go_sem,hl,ne_eq,Qb]) ?_
   simp -implicitDefEqProofs only[go_sem,hl,ne_eq,Qb]
   have e0:(List.map fmC g.parts).getD 0 [] = fmC p:=by rw [hp]; rfl
   simp -implicitDefEqProofs only[go_sem,hp0,e0,zab p]
   refine ⟨(ns ++ [g.var],p),⟨hpf,by rw [Kh]; exact h2,h3⟩,zdb (by rw [hp]; simp),zac ?_⟩
   simp -implicitDefEqProofs only[go_sem]
   simp
def zbu:Fm->Bool:=Fm.fold fun o _ _ _ rs=>!(o == 8 || o == 9) && rs.all id
theorem zfg (f:Fm):zbu f = (!(f.op == 8 || f.op == 9) && f.parts.all zbu):=by
 unfold zbu
 rw [Fm.fold_eq]
 simp only [J0]
 rfl
theorem qgo (f:Fm) (H:FC Tryz.prog 164 [fmD f,.one (qk5 [8,9])] [bD (!zbu f)]):FC Tryz.prog 217 [fmD f,.one (.ptr [qk5 [8,9]])] [bD (!zbu f)]:=by
 simp only [fmD,zab] at H ⊢
 refine zaj Tryz.call217 Tryz.func217 rfl (by kernel_rfl) (zax (by kernel_rfl)) ?_
 simp -implicitDefEqProofs only[go_sem,Tryz.results217]
 refine callF (H) (by simp -implicitDefEqProofs only[go_sem]) ?_
 simp -implicitDefEqProofs only[go_sem]
theorem qll (f:Fm) (H:∀ x ∈ f.parts,FC Tryz.prog 164 [fmD x,.one (qk5 [8,9])] [bD (!zbu x)]):FC Tryz.prog 164 [fmD f,.one (qk5 [8,9])] [bD (!zbu f)]:=by
 have HC:=za0 f.parts (fun x=>!zbu x) 217 [.ptr [qk5 [8,9]]] fun x hx=>qgo x (H x hx)
 have h9:([8,9]:List Int).contains f.op = (f.op == 8 || f.op == 9):=by simp only [List.contains,List.elem]; cases h:f.op == 8 <;> cases h2:f.op == 9 <;> rfl
 have hv:=zfg f
 simp only [fmD,zab]
 refine zaj Tryz.call164 Tryz.func164 rfl (by kernel_rfl) (zax (by kernel_rfl)) ?_
 simp -implicitDefEqProofs only[go_sem,Tryz.results164]
 refine callF (zpb [8,9] f.op) (by simp -implicitDefEqProofs only[go_sem,h9]) ?_
 simp -implicitDefEqProofs only[go_sem,h9]
 refine ⟨fun h=>?_,fun h=>?_⟩
 ·refine callF (HC) (by simp -implicitDefEqProofs only[go_sem]) ?_
  simp -implicitDefEqProofs only[go_sem]
  rw [hv,h]
  simp [List.any_eq_not_all_not]
 ·rw [hv,h]; rfl
theorem qpi:∀ f:Fm,FC Tryz.prog 164 [fmD f,.one (qk5 [8,9])] [bD (!zbu f)]:=za8 fun o a v ps ih=>qll (.mk o a v ps) ih
theorem zvn (f:Fm) (hw:f.wt <= 1048576) (H:∀ x ∈ f.parts,FC Tryz.prog 165 [fmD x] [bD (zbu x)]):FC Tryz.prog 165 [fmD f] [bD (zbu f)]:=by
 have hv:=zfg f
 have hW:=f.wt_eq
 simp only [fmD,zab]
 refine zaj Tryz.call165 Tryz.func165 rfl (by kernel_rfl) (zax (by kernel_rfl)) ?_
 simp -implicitDefEqProofs only[go_sem,Tryz.results165]
 cases h8:f.op == 8
 ·cases h9:f.op == 9
  ·rw [h8,h9] at hv
   simp only [Bool.or_self,Jo,Qn] at hv
   simp -implicitDefEqProofs only[go_sem,h8,h9]
   refine zae (fun k:Nat=>hd [(1,.one (.bx 1 0)),(3,vI k)] [(1,[.t (.int .i64 f.op),.t (.str f.atom.name),.t (tmS f.atom.args),.t (.str f.var),.t (fmS f.parts)])] []) (fun k=>k <= f.parts.length /\ (f.parts.take k).all zbu = true) (fun k=>f.parts.length - k) 0 (zac ?_) ⟨Ka _,rfl⟩ ?_
   ·simp -implicitDefEqProofs only[go_sem]
   ·rintro k ⟨hk,hT⟩
    by_cases hlt:k < f.parts.length
    ·have HC:=H f.parts[k] (Qe hlt)
     simp only [fmD,zab f.parts[k]] at HC
     simp -implicitDefEqProofs only[go_sem,zad,hlt,zab f.parts[k]]
     refine callF (HC) (by simp -implicitDefEqProofs only[go_sem]) ?_
     simp -implicitDefEqProofs only[go_sem]
     refine ⟨fun h=>?_,fun h=>?_⟩
     ·have hn:f.parts.all zbu = false:=by
       rw [Jq]
       exact ⟨_,Qe hlt,by simpa using h⟩
      rw [hv,hn]
     ·refine ⟨k + 1,⟨hlt,?_⟩,by omega,zac ?_⟩
      ·rw [Qf hlt,J5,hT]
       simpa using h
      ·simp -implicitDefEqProofs only[go_sem]
       rw [zal (by omega)]
    ·simp -implicitDefEqProofs only[go_sem,hlt]
     rw [Qk (by omega)] at hT
     rw [hv,hT]
  ·simp -implicitDefEqProofs only[go_sem,h8,h9]
   rw [hv,h8,h9]; rfl
 ·simp -implicitDefEqProofs only[go_sem,h8]
  rw [hv,h8]; rfl
theorem qa8:∀ f:Fm,f.wt <= 1048576->FC Tryz.prog 165 [fmD f] [bD (zbu f)]:=za8 fun o a v ps ih hw=>zvn (.mk o a v ps) hw fun x hx=>ih x hx (Kg (zbt (a:=.mk o a v ps) hx) hw)
end
section
set_option maxRecDepth 4000
open Go.RowKit
def zdo (n:Str) (t:Tm):Fm->Fm × Bool:=Fm.fold fun o a v ps rs =>
 if (isQ o && (v == n || !((zba [] (vf (.mk o a v ps) [])).contains n))) = true then (.mk o a v ps,true)
 else if (isQ o && decide (0 < zjh v t)) = true then (mkF 0 [],false)
 else (.mk o (if (o == 3) = true then zge n t a else a) v (rs.map Prod.fst),rs.all Prod.snd)
theorem zwg (n:Str) (t:Tm) (f:Fm):zdo n t f = if (isQ f.op && (f.var == n || !((zba [] (vf f [])).contains n))) = true then (f,true)
  else if (isQ f.op && decide (0 < zjh f.var t)) = true then (mkF 0 [],false)
  else (.mk f.op (if (f.op == 3) = true then zge n t f.atom else f.atom) f.var (f.parts.map fun x=>(zdo n t x).1),f.parts.all fun x=>(zdo n t x).2):=by
 cases f with
 | mk o a v ps =>
  conv=>lhs; unfold zdo; rw [Fm.fold_eq]
  simp only [Ke,J0]
  rfl
abbrev subX (n:Str) (t:Tm) (b:Bool):Bxs:=[[(false,.str n)],[(false,.str t.name),(false,.sl 2 (t.args.map tmC))],[(true,.bool b)]]
theorem qnk (n:Str) (t:Tm) (f:Fm) (r:Fm) (ok b:Bool) (H:FC Tryz.prog 187 [fmD f,sD n,tmD t] [fmD r,bD ok]) :
  PC Tryz.prog 233 (subX n t b) [.d false (fmD f),.p 0,.p 1,.p 2] (subX n t (b && ok)) [(true,fmD r)]:=by
 simp only [fmD,zab,tmD,zaa t] at H ⊢
 refine zry Tryz.call233 Tryz.func233 rfl (by kernel_rfl) (by simp only [Qm,Qv,Tryz.ntmps233]; omega) (by simp only [Tryz.ntmps233]; omega) rfl rfl (by simp [zbq,T.isPin,AF.ds,bxA]) (by simp [gFS,T.fs,T.flat,AF.ds,bxA]) rfl ?_
 simp -implicitDefEqProofs only[go_sem,Tryz.results233]
 refine callF (H) (by simp -implicitDefEqProofs only[go_sem]) ?_
 simp -implicitDefEqProofs only[go_sem]
 exact ⟨fun h=>Or.inl (by rw [h]; rfl),fun h=>Or.inl (by rw [h]; rfl)⟩
theorem zti (n:Str) (t:Tm) (a:Fm) (g:FuncId) (φ:Fm->Fm) (ψ:Fm->Bool) (b:Bool) (H:∀ x ∈ a.parts,∀ b,PC Tryz.prog g (subX n t b) [.d false (fmD x),.p 0,.p 1,.p 2] (subX n t (b && ψ x)) [(true,fmD (φ x))]) (h0:a.atom.wt <= 1048576) (hs:a.parts.length <= 1048576) :
  PC Tryz.prog 181 (subX n t b) [.d false (fmD a),.fn g [0,1,2]] (subX n t (b && a.parts.all ψ)) [(true,fmD (.mk a.op a.atom a.var (a.parts.map φ)))]:=by
 simp only [fmD,zab a,zdm]
 refine zry Tryz.call181 Tryz.func181 rfl (by kernel_rfl) (by simp only [Qm,Qv,Tryz.ntmps181]; omega) (by simp only [Tryz.ntmps181]; omega) rfl rfl (by simp [zbq,T.isPin,AF.ds,bxA]) (by simp [gFS,T.fs,T.flat,AF.ds,bxA]) rfl ?_
 simp -implicitDefEqProofs only[go_sem,Tryz.results181]
 refine drawn (by kernel_rfl) ?_
 simp -implicitDefEqProofs only[go_sem]
 refine zao (zeg a.atom h0) (by simp -implicitDefEqProofs only[go_sem,zaa]) ?_
 simp -implicitDefEqProofs only[go_sem,zaa]
 refine ⟨by kernel_rfl,?_⟩
 refine zae (fun k:Nat=>hd [(1,.one (.fn g [1000000,1000001,1000002])),(4,.one (.bx 4 0)),(5,.one (.bx 5 0)),(17,.one (.rn (fmS a.parts))),(18,vI a.parts.length),(19,vI k),(1000000,.one (.bx 1000000 0)),(1000001,.one (.bx 1000001 0)),(1000002,.one (.bx 1000002 0))] [(4,[.t (.int .i64 0),.t (.str []),.nl 2,.t (.str []),.nl 5]),(5,[.t (.int .i64 a.op),.t (.str a.atom.name),.ow 385 0,.t (.str a.var),.ow 3000 0]),(1000000,[.t (.str n)]),(1000001,[.t (.str t.name),.rn (.sl 2 (t.args.map tmC))]),(1000002,[.t (.bool (b && (a.parts.take k).all ψ))])]
  [(385,⟨true,2,a.atom.args.map tmC,0,true⟩),(3000,⟨true,5,(a.parts.take k).map fun x=>fmC (φ x),0,true⟩)]) (fun k=>k <= a.parts.length) (fun k=>a.parts.length - k) 0 (zac ?_) ?_ ?_
 ·simp -implicitDefEqProofs only[go_sem]
 ·simp
 ·intro k hk
  by_cases hlt:k < a.parts.length
  ·have hmin:min k a.parts.length <= 4294967295:=by omega
   have HC:=H a.parts[k] (Qe hlt) (b && (a.parts.take k).all ψ)
   have hsuc:(a.parts.take (k + 1)).all ψ = ((a.parts.take k).all ψ && ψ a.parts[k]):=by rw [Qf hlt,J5]; simp
   simp only [fmD,zab a.parts[k],zab (φ a.parts[k])] at HC
   simp -implicitDefEqProofs only[go_sem,zad,hlt,zab a.parts[k]]
   refine drawn (by kernel_rfl) ?_
   simp -implicitDefEqProofs only[go_sem]
   refine dCallQ [1000000,1000001,1000002] (HC) (by decide) (by simp -implicitDefEqProofs only[go_sem]) (by simp -implicitDefEqProofs only[go_sem]) ?_
   simp -implicitDefEqProofs only[go_sem]
   refine zbi (by simp -implicitDefEqProofs only[go_sem]) ?_
   simp -implicitDefEqProofs only[go_sem]
   refine zj0 true (by simp -implicitDefEqProofs only[go_sem,ne_eq,Qb,Qp,hmin]) ?_
   simp -implicitDefEqProofs only[go_sem,ne_eq,Qb,Qp,hmin]
   refine ⟨by kernel_rfl,k + 1,hlt,by omega,zac ?_⟩
   simp -implicitDefEqProofs only[go_sem]
   rw [zal (by omega),Qf hlt,Q0,Q7]
   simp only [zab]
   rw [<-Qf hlt,hsuc,Bool.and_assoc]
   exact ⟨trivial,rfl,trivial⟩
  ·have ht:a.parts.take k = a.parts:=Qk (by omega)
   simp -implicitDefEqProofs only[go_sem,hlt,ht]
   exact Or.inl (Or.inl rfl)
theorem znk (n:Str) (t:Tm) (ht:t.wt <= 1048576) (f:Fm) (hf:f.forms = true) (hw:f.wt <= 1048576) (H:∀ x ∈ f.parts,FC Tryz.prog 187 [fmD x,sD n,tmD t] [fmD (zdo n t x).1,bD (zdo n t x).2]) :
  FC Tryz.prog 187 [fmD f,sD n,tmD t] [fmD (zdo n t f).1,bD (zdo n t f).2]:=by
 have hv:=zwg n t f
 have HF:=qbq f hf hw
 have HO:=qle f.var t (by omega)
 have HP:=zti n t f 233 (fun x=>(zdo n t x).1) (fun x=>(zdo n t x).2) true (fun x hx b=>qnk n t x _ _ b (H x hx)) (by have:=zj5 f; omega) (by have:=f.wt_eq; omega)
 rw [Qn] at HP
 have HC:=zf0 f hw
 generalize zba [] (vf f []) = V at hv HF
 simp only [fmD,zab f,tmD,zaa t,zdm] at HF HO HC HP ⊢
 refine zcq Tryz.call187 Tryz.func187 rfl (by kernel_rfl) (zax (by kernel_rfl)) ?_
 simp -implicitDefEqProofs only[go_sem,Tryz.results187]
 cases hq:isQ f.op
 ·rw [hq,Qj,Qj,if_neg (by simp),if_neg (by simp)] at hv
  have HI:=zan f.op
  rw [hq] at HI
  refine drawn (by kernel_rfl) ?_
  simp -implicitDefEqProofs only[go_sem]
  refine zao (HI) (by simp -implicitDefEqProofs only[go_sem]) ?_
  simp -implicitDefEqProofs only[go_sem]
  refine ⟨by kernel_rfl,?_⟩
  refine callF (HI) (by simp -implicitDefEqProofs only[go_sem]) ?_
  simp -implicitDefEqProofs only[go_sem]
  have HA:=qqk n t ht f.atom (by have:=zj5 f; omega)
  have hS:sbS [(n,t)] = .sl 3 [[.str n,.str t.name,.sl 2 (t.args.map tmC)]]:=by unfold sbS; rw [Q7,zhx]
  rw [hS] at HA
  simp only [tmD,zaa f.atom,zaa (zge n t f.atom)] at HA
  cases h3:f.op == 3
  ·rw [h3,if_neg (by simp)] at hv
   rw [hv]
   simp only [fmD,zdm]
   refine callQ [4,5,8] (HP) (by decide) (by simp -implicitDefEqProofs only[go_sem,h3]) (by simp -implicitDefEqProofs only[go_sem,h3]) ?_
   simp -implicitDefEqProofs only[go_sem,h3]
   refine drawn (by kernel_rfl) ?_
   simp -implicitDefEqProofs only[go_sem]
   kernel_rfl
  ·rw [h3,if_pos rfl] at hv
   rw [hv]
   simp only [fmD,zdm]
   refine callQ [4,5,8] (HP) (by decide) (by simp -implicitDefEqProofs only[go_sem,h3]) (by simp -implicitDefEqProofs only[go_sem,h3]) ?_
   simp -implicitDefEqProofs only[go_sem,h3]
   refine zgl (by simp -implicitDefEqProofs only[go_sem]) ?_
   simp -implicitDefEqProofs only[go_sem]
   refine callF (HA) (by simp -implicitDefEqProofs only[go_sem]) ?_
   simp -implicitDefEqProofs only[go_sem]
   refine drawn (by kernel_rfl) ?_
   simp -implicitDefEqProofs only[go_sem]
   kernel_rfl
 ·have HI:=zan f.op
  rw [hq] at HI
  rw [hq,Qn,Qn] at hv
  cases hvn:f.var == n
  ·rw [hvn,Jc] at hv
   have HCt:=zcf V n
   refine drawn (by kernel_rfl) ?_
   simp -implicitDefEqProofs only[go_sem]
   refine zao (HI) (by simp -implicitDefEqProofs only[go_sem,hvn]) ?_
   simp -implicitDefEqProofs only[go_sem,hvn]
   cases hcn:V.contains n
   ·rw [hcn,if_pos (by simp)] at hv
    rw [hcn] at HCt
    rw [hv]
    simp only [fmD,zab f]
    refine zbl (HF) (by simp -implicitDefEqProofs only[go_sem]) ?_
    simp -implicitDefEqProofs only[go_sem]
    refine zbl (HCt) (by simp -implicitDefEqProofs only[go_sem]) ?_
    simp -implicitDefEqProofs only[go_sem]
    refine ⟨by kernel_rfl,?_⟩
    refine callF (HC) (by simp -implicitDefEqProofs only[go_sem]) ?_
    simp -implicitDefEqProofs only[go_sem]
   ·rw [hcn,if_neg (by simp)] at hv
    rw [hcn] at HCt
    refine zbl (HF) (by simp -implicitDefEqProofs only[go_sem]) ?_
    simp -implicitDefEqProofs only[go_sem]
    refine zbl (HCt) (by simp -implicitDefEqProofs only[go_sem]) ?_
    simp -implicitDefEqProofs only[go_sem]
    refine ⟨by kernel_rfl,?_⟩
    refine callF (HI) (by simp -implicitDefEqProofs only[go_sem]) ?_
    simp -implicitDefEqProofs only[go_sem]
    have h3:(f.op == 3) = false:=by
     rw [Je]
     intro e
     rw [e] at hq
     exact absurd hq (by decide)
    cases ho:decide (0 < zjh f.var t)
    ·rw [ho,if_neg (by simp),h3,if_neg (by simp)] at hv
     rw [ho] at HO
     rw [hv]
     simp only [fmD,zdm]
     refine callF (HO) (by simp -implicitDefEqProofs only[go_sem]) ?_
     simp -implicitDefEqProofs only[go_sem]
     refine callQ [4,5,8] (HP) (by decide) (by simp -implicitDefEqProofs only[go_sem,h3]) (by simp -implicitDefEqProofs only[go_sem,h3]) ?_
     simp -implicitDefEqProofs only[go_sem,h3]
     refine drawn (by kernel_rfl) ?_
     simp -implicitDefEqProofs only[go_sem]
     kernel_rfl
    ·rw [ho,if_pos rfl] at hv
     rw [ho] at HO
     rw [hv]
     simp only [fmD,zcg,Qy]
     refine callF (HO) (by simp -implicitDefEqProofs only[go_sem]) ?_
     simp -implicitDefEqProofs only[go_sem]
  ·rw [hvn,Bool.true_or,if_pos rfl] at hv
   refine drawn (by kernel_rfl) ?_
   simp -implicitDefEqProofs only[go_sem]
   rw [hv]
   simp only [fmD,zab f]
   refine zao (HI) (by simp -implicitDefEqProofs only[go_sem,hvn]) ?_
   simp -implicitDefEqProofs only[go_sem,hvn]
   refine ⟨by kernel_rfl,?_⟩
   refine callF (HC) (by simp -implicitDefEqProofs only[go_sem]) ?_
   simp -implicitDefEqProofs only[go_sem]
theorem zqt (n:Str) (t:Tm) (ht:t.wt <= 1048576):∀ f:Fm,f.forms = true->f.wt <= 1048576->FC Tryz.prog 187 [fmD f,sD n,tmD t] [fmD (zdo n t f).1,bD (zdo n t f).2] :=
 za8 fun o a v ps ih hf hw=>znk n t ht (.mk o a v ps) hf hw fun x hx=>ih x hx (by rw [Fm.forms_eq,Qa] at hf; exact Ql.1 hf.2 x hx) (Kg (zbt (a:=.mk o a v ps) hx) hw)
end
section
set_option maxRecDepth 4000
open Go.RowKit
theorem qan (n:Str) (t:Tm) (x:Str):FC Tryz.prog 220 [.agg [sbS [(n,t)]],sD x] [iD (if (n == x) = true then 0 else -1)]:=by
 have hS:sbS [(n,t)] = .sl 3 [[.str n,.str t.name,.sl 2 (t.args.map tmC)]]:=by unfold sbS; rw [Q7,zhx]
 rw [hS]
 refine zaj Tryz.call220 Tryz.func220 rfl (by kernel_rfl) (zax (by kernel_rfl)) ?_
 simp -implicitDefEqProofs only[go_sem,Tryz.results220]
 refine zae (fun k:Nat=>hd [(1,vT (.str x)),(2,.one (.bx 2 0)),(5,vI k)] [(2,[.t (.sl 3 [[.str n,.str t.name,.sl 2 (t.args.map tmC)]])])] []) (fun k=>k = 0 \/ (k = 1 /\ (n == x) = false)) (fun k=>1 - k) 0 (zac ?_) (Or.inl rfl) ?_
 ·simp -implicitDefEqProofs only[go_sem]
 ·rintro k (rfl | ⟨rfl,hn⟩)
  ·cases hn:n == x
   ·simp -implicitDefEqProofs only[go_sem,hn]
    refine ⟨1,Or.inr rfl,by decide,zac ?_⟩
    have hz:IntKind.i64.wrap 1 = 1:=by decide
    simp -implicitDefEqProofs only[go_sem,hz]
   ·simp -implicitDefEqProofs only[go_sem,hn]
  ·simp -implicitDefEqProofs only[go_sem,hn]
theorem qf2 (n:Str) (t:Tm) (ht:t.wt <= 1048576) (hn:(t.name == n) = false):FC Tryz.prog 169 [.agg [sbS []],sD n,tmD t] [.agg [sbS [(n,t)]]]:=by
 have hS:sbS [(n,t)] = .sl 3 [[.str n,.str t.name,.sl 2 (t.args.map tmC)]]:=by unfold sbS; rw [Q7,zhx]
 have hS0:sbS [] = .sl 3 []:=rfl
 have HK:=zqj t ht
 rw [hS,hS0]
 simp only [tmD,zaa t] at HK ⊢
 refine zcq Tryz.call169 Tryz.func169 rfl (by kernel_rfl) (zax (by kernel_rfl)) ?_
 simp -implicitDefEqProofs only[go_sem,Tryz.results169,hn]
 refine zae (fun k:Nat=>hd [(1,vT (.str n)),(3,.one (.bx 3 0)),(5,.one (.bx 5 0)),(6,.one (.bx 6 0)),(7,vI (0:Nat))] [(3,[.rn (.sl 3 [])]),(5,[.t (.str t.name),.rn (.sl 2 (t.args.map tmC))]),(6,[.nl 3])] []) (fun k=>k = 0) (fun k=>0) 0 (zac ?_) rfl ?_
 ·simp -implicitDefEqProofs only[go_sem]
 ·rintro k rfl
  simp -implicitDefEqProofs only[go_sem]
  refine zbx (by simp -implicitDefEqProofs only[go_sem]) ?_
  simp -implicitDefEqProofs only[go_sem]
  refine apD true (by simp -implicitDefEqProofs only[go_sem,ne_eq]) ?_
  simp -implicitDefEqProofs only[go_sem,ne_eq]
  refine callF (HK) (by simp -implicitDefEqProofs only[go_sem]) ?_
  simp -implicitDefEqProofs only[go_sem]
  refine zbx (by simp -implicitDefEqProofs only[go_sem]) ?_
  simp -implicitDefEqProofs only[go_sem]
  refine apD true (by simp -implicitDefEqProofs only[go_sem,ne_eq]) ?_
  simp -implicitDefEqProofs only[go_sem,ne_eq]
  refine apD true (by simp -implicitDefEqProofs only[go_sem,ne_eq]) ?_
  simp -implicitDefEqProofs only[go_sem,ne_eq]
theorem zzh (n:Str) (t:Tm) (hn:(t.name == n) = true):RC Tryz.prog 169 [.agg [sbS []],sD n,tmD t] [.agg [sbS []]]:=by
 have hS0:sbS [] = .sl 3 []:=rfl
 rw [hS0]
 simp only [tmD,zaa t]
 refine RC_of Tryz.call169 Tryz.func169 rfl (by kernel_rfl) (zax (by kernel_rfl)) ?_
 simp -implicitDefEqProofs only[go_sem,Tryz.results169,hn]
def zb9 (l:List (Str × Tm)):Tm->Tm:=Tm.fold fun m _ rs=>if zay m = true then (match l.find? fun p=>p.1 == m with | some p=>p.2 | none=>.mk m []) else .mk m rs
theorem zfx (l:List (Str × Tm)) (a:Tm):zb9 l a = if zay a.name = true then (match l.find? fun p=>p.1 == a.name with | some p=>p.2 | none=>.mk a.name []) else .mk a.name (a.args.map (zb9 l)):=by unfold zb9; rw [Tm.fold_eq]
theorem zvp (x:Str):FC Tryz.prog 220 [.agg [sbS []],sD x] [iD (-1)]:=by
 have hS:sbS [] = .sl 3 []:=rfl
 rw [hS]
 refine zaj Tryz.call220 Tryz.func220 rfl (by kernel_rfl) (zax (by kernel_rfl)) ?_
 simp -implicitDefEqProofs only[go_sem,Tryz.results220]
 refine zae (fun k:Nat=>hd [(1,vT (.str x)),(2,.one (.bx 2 0)),(5,vI (0:Nat))] [(2,[.t (.sl 3 [])])] []) (fun k=>k = 0) (fun k=>0) 0 (zac ?_) rfl ?_
 ·simp -implicitDefEqProofs only[go_sem]
 ·rintro k rfl
  simp -implicitDefEqProofs only[go_sem]
theorem zz4 (l:List (Str × Tm)) (hl:l.length <= 1) (hw:∀ p ∈ l,p.2.wt <= 1048576) (a:Tm) (ha:a.args.length <= 1048576) (H:∀ x ∈ a.args,FC Tryz.prog 168 [.agg [sbS l],tmD x] [tmD (zb9 l x)]):FC Tryz.prog 168 [.agg [sbS l],tmD a] [tmD (zb9 l a)]:=by
 have hv:=zfx l a
 have HV:=zjx a.name
 cases hva:zay a.name
 ·rw [hva,if_neg (by simp)] at hv
  rw [hva] at HV
  rw [hv]
  have e1:tmD (.mk a.name (a.args.map (zb9 l))) = .agg [.str a.name,.sl 2 (a.args.map fun x=>tmC (zb9 l x))]:=by unfold tmD; rw [zaa]; simp only [Tm.name,Tm.args,Ke,K5]
  rw [e1]
  simp only [tmD,zaa a] at H ⊢
  unfold sbS at H ⊢
  generalize l.map bnC = L at H ⊢
  refine zaj Tryz.call168 Tryz.func168 rfl (by kernel_rfl) (zax (by kernel_rfl)) ?_
  simp -implicitDefEqProofs only[go_sem,Tryz.results168]
  refine callF (HV) (by simp -implicitDefEqProofs only[go_sem]) ?_
  simp -implicitDefEqProofs only[go_sem]
  refine zae (fun k:Nat=>hd [(2,.one (.bx 2 0)),(3,.one (.bx 3 0)),(4,.one (.bx 4 0)),(6,.one (.bx 6 0)),(7,vI k)] [(2,[.t (.sl 3 L)]),(3,[.t (.str a.name),.t (tmS a.args)]),(4,[.t (.str []),.nl 2]),(6,[.t (.str a.name),.ow 3000 0])] [(3000,⟨true,2,(a.args.take k).map fun x=>tmC (zb9 l x),0,true⟩)]) (fun k=>k <= a.args.length) (fun k=>a.args.length - k) 0 (zac ?_) (Ka _) ?_
  ·simp -implicitDefEqProofs only[go_sem]
  ·intro k hk
   by_cases hlt:k < a.args.length
   ·have HC:=H a.args[k] (Qe hlt)
    have hmin:min k a.args.length <= 4294967295:=by omega
    simp only [zaa a.args[k],zaa (zb9 l a.args[k])] at HC
    simp -implicitDefEqProofs only[go_sem,hlt]
    refine drawn (by kernel_rfl) ?_
    simp -implicitDefEqProofs only[go_sem,zad,hlt,zaa a.args[k]]
    refine zao (HC) (by simp -implicitDefEqProofs only[go_sem]) ?_
    simp -implicitDefEqProofs only[go_sem]
    refine zbi (by simp -implicitDefEqProofs only[go_sem]) ?_
    simp -implicitDefEqProofs only[go_sem]
    refine zj0 true (by simp -implicitDefEqProofs only[go_sem,ne_eq,Qb,Qp,hmin]) ?_
    simp -implicitDefEqProofs only[go_sem,ne_eq,Qb,Qp,hmin]
    refine ⟨by kernel_rfl,k + 1,hlt,by omega,zac ?_⟩
    simp -implicitDefEqProofs only[go_sem]
    rw [zal (by omega),Qf hlt,Q0,Q7]
    simp only [zaa]
    trivial
   ·have ht:a.args.take k = a.args:=Qk (by omega)
    simp -implicitDefEqProofs only[go_sem,hlt,ht]
 ·rw [hva,if_pos rfl] at hv
  rw [hva] at HV
  rw [hv]
  match l,hl with
  | [],_ =>
   have HN:=zvp a.name
   simp only [List.find?_nil]
   have e1:tmD (.mk a.name []) = .agg [.str a.name,.sl 2 []]:=rfl
   have hS:sbS [] = .sl 3 []:=rfl
   rw [hS] at HN ⊢
   rw [e1]
   simp only [tmD,zaa a]
   refine zaj Tryz.call168 Tryz.func168 rfl (by kernel_rfl) (zax (by kernel_rfl)) ?_
   simp -implicitDefEqProofs only[go_sem,Tryz.results168]
   refine callF (HV) (by simp -implicitDefEqProofs only[go_sem]) ?_
   simp -implicitDefEqProofs only[go_sem]
   refine callF (HN) (by simp -implicitDefEqProofs only[go_sem]) ?_
   simp -implicitDefEqProofs only[go_sem]
  | [(n,t)],_ =>
   have HO:=qan n t a.name
   have HK:=zqj t (hw (n,t) (by simp))
   have hS:sbS [(n,t)] = .sl 3 [[.str n,.str t.name,.sl 2 (t.args.map tmC)]]:=by unfold sbS; rw [Q7,zhx]
   rw [hS] at HO ⊢
   cases hn:n == a.name
   ·rw [hn] at HO
    simp only [List.find?_cons,hn,List.find?_nil]
    have e1:tmD (.mk a.name []) = .agg [.str a.name,.sl 2 []]:=rfl
    rw [e1]
    simp only [tmD,zaa a]
    refine zaj Tryz.call168 Tryz.func168 rfl (by kernel_rfl) (zax (by kernel_rfl)) ?_
    simp -implicitDefEqProofs only[go_sem,Tryz.results168]
    refine callF (HV) (by simp -implicitDefEqProofs only[go_sem]) ?_
    simp -implicitDefEqProofs only[go_sem]
    refine callF (HO) (by simp -implicitDefEqProofs only[go_sem]) ?_
    simp -implicitDefEqProofs only[go_sem]
   ·rw [hn] at HO
    simp only [List.find?_cons,hn]
    simp only [tmD,zaa a,zaa t] at HK ⊢
    refine zaj Tryz.call168 Tryz.func168 rfl (by kernel_rfl) (zax (by kernel_rfl)) ?_
    simp -implicitDefEqProofs only[go_sem,Tryz.results168]
    refine callF (HV) (by simp -implicitDefEqProofs only[go_sem]) ?_
    simp -implicitDefEqProofs only[go_sem]
    refine callF (HO) (by simp -implicitDefEqProofs only[go_sem]) ?_
    simp -implicitDefEqProofs only[go_sem]
    refine callF (HK) (by simp -implicitDefEqProofs only[go_sem]) ?_
    simp -implicitDefEqProofs only[go_sem]
theorem qbx (l:List (Str × Tm)) (hl:l.length <= 1) (hw:∀ p ∈ l,p.2.wt <= 1048576):∀ a:Tm,a.wt <= 1048576->FC Tryz.prog 168 [.agg [sbS l],tmD a] [tmD (zb9 l a)] :=
 zbf fun m xs ih hs=>by
  obtain ⟨h1,h2⟩:=Tm.wt_args hs
  exact zz4 l hl hw (.mk m xs) h1 fun x hx=>ih x hx (h2 x hx)
end
section
set_option maxRecDepth 4000
open Go.RowKit
def bnd (n:Str) (t:Tm):List (Str × Tm):=if (t.name == n) = true then [] else [(n,t)]
def zkx (ps:List Fm):List Str:=match ps with
 | p :: _=>zba [] (vf p [])
 | []=>[]
def za5 (n:Str) (t:Tm):Fm->Fm × Bool:=Fm.fold fun o a v ps rs =>
 if (o == 3) = true then (.mk o (zb9 (bnd n t) a) v [],(zb9 (bnd n t) a).atomOk)
 else if (isQ o && (v == n || !((zkx ps).contains n))) = true then (.mk o a v ps,true)
 else if (isQ o && (zba [] (voS t)).contains v) = true then (.mk o (.mk [] []) v [],false)
 else (.mk o (.mk [] []) v ((rs.takeWhile Prod.snd).map Prod.fst),rs.all Prod.snd)
theorem qmx {α β:Type} (p:β->Bool) (f:α->β):∀ xs:List α,(xs.map f).takeWhile p = (xs.takeWhile fun x=>p (f x)).map f
 | []=>rfl
 | x :: xs=>by
  simp only [Qi,List.takeWhile_cons]
  cases p (f x)
  ·rfl
  ·simp only [if_true,Qi,qmx p f xs]
theorem zic (n:Str) (t:Tm) (f:Fm):za5 n t f = if (f.op == 3) = true then (.mk f.op (zb9 (bnd n t) f.atom) f.var [],(zb9 (bnd n t) f.atom).atomOk)
  else if (isQ f.op && (f.var == n || !((zkx f.parts).contains n))) = true then (f,true)
  else if (isQ f.op && (zba [] (voS t)).contains f.var) = true then (.mk f.op (.mk [] []) f.var [],false)
  else (.mk f.op (.mk [] []) f.var ((f.parts.takeWhile fun x=>(za5 n t x).2).map fun x=>(za5 n t x).1),f.parts.all fun x=>(za5 n t x).2):=by
 cases f with
 | mk o a v ps =>
  conv=>lhs; unfold za5; rw [Fm.fold_eq]
  simp only [qmx,Ke,J0]
  rfl
theorem zlh {f:Fm} (h:isQ f.op = true) (hf:f.forms = true) : ∃ p,f.parts = [p] /\ p.forms = true:=by
 rw [Fm.forms_eq,Qa] at hf
 have h1:=hf.1
 unfold Fm.here at h1
 have h2:(f.op == 1 || f.op == 2) = false /\ (f.op == 3) = false /\ (f.op == 4) = false /\ zm8 f.op = false:=by
  have h8:f.op = 8 \/ f.op = 9:=by unfold isQ at h; rw [Ji,Ki,Ki] at h; exact h
  rcases h8 with e | e <;> rw [e] <;> decide
 rw [h2.1,h2.2.1,h2.2.2.1,h2.2.2.2,h] at h1
 simp only [Qo,if_false,if_true,Qa,Qg] at h1
 obtain ⟨p,hp⟩:=Jp.1 h1.1.1
 exact ⟨p,hp,Ql.1 hf.2 p (by rw [hp]; simp)⟩
theorem qn2 (n:Str) (t:Tm):(bnd n t).length <= 1:=by unfold bnd; split <;> simp
theorem bnd_wt (n:Str) (t:Tm) (ht:t.wt <= 1048576):∀ p ∈ bnd n t,p.2.wt <= 1048576:=by
 unfold bnd
 split
 ·simp
 ·intro p hp; simp at hp; rw [hp]; exact ht
set_option maxHeartbeats 2000000 in
theorem qh2 (n:Str) (t:Tm) (ht:t.wt <= 1048576) (f:Fm) (hf:f.forms = true) (hw:f.wt <= 1048576) (hwa:(zb9 (bnd n t) f.atom).wt <= 1099511627776) (H:∀ x ∈ f.parts,FC Tryz.prog 95 [fmD x,sD n,tmD t] [fmD (za5 n t x).1,bD (za5 n t x).2]) :
  FC Tryz.prog 95 [fmD f,sD n,tmD t] [fmD (za5 n t f).1,bD (za5 n t f).2]:=by
 have hv:=zic n t f
 have hfl:f.parts.length <= 1048576:=by have:=f.wt_eq; omega
 cases h3:f.op == 3
 ·rw [h3,if_neg (by simp)] at hv
  cases hq:isQ f.op
  ·rw [hq,Qj,if_neg (by simp),Qj,if_neg (by simp)] at hv
   have hq8:(f.op == 8) = false /\ (f.op == 9) = false:=by unfold isQ at hq; rw [Bool.or_eq_false_iff] at hq; exact hq
   simp only [fmD,zab f,tmD,zaa t]
   refine zaj Tryz.call95 Tryz.func95 rfl (by kernel_rfl) (zax (by kernel_rfl)) ?_
   simp -implicitDefEqProofs only[go_sem,Tryz.results95,h3,hq8.1,hq8.2]
   refine zae (fun k:Nat=>hd [(1,vT (.str n)),(3,.one (.bx 3 0)),(5,.one (.bx 5 0)),(6,.one (.bx 6 0)),(8,.one (.bx 8 0)),(9,vI k)] [(3,[.t (.int .i64 f.op),.t (.str f.atom.name),.t (tmS f.atom.args),.t (.str f.var),.t (fmS f.parts)]),(5,[.t (.str t.name),.t (tmS t.args)]),(6,[.t (.int .i64 0),.t (.str []),.nl 2,.t (.str []),.nl 5]),(8,[.t (.int .i64 f.op),.t (.str []),.nl 2,.t (.str f.var),.ow 8000 0])] [(8000,⟨true,5,(f.parts.take k).map fun x=>fmC (za5 n t x).1,0,true⟩)]) (fun k=>k <= f.parts.length /\ ∀ x ∈ f.parts.take k,(za5 n t x).2 = true) (fun k=>f.parts.length - k) 0 (zac ?_) ⟨Ka _,by simp⟩ ?_
   ·simp -implicitDefEqProofs only[go_sem]
   ·rintro k ⟨hk,hT⟩
    by_cases hlt:k < f.parts.length
    ·have HC:=H f.parts[k] (Qe hlt)
     have hmin:min k f.parts.length <= 4294967295:=by omega
     simp only [fmD,zab f.parts[k],zab (za5 n t f.parts[k]).1,tmD,zaa t] at HC
     cases hk2:(za5 n t f.parts[k]).2
     ·rw [hk2] at HC
      have htw:=(zc1 (p:=fun x=>(za5 n t x).2) hk hT fun _=>hk2).1
      have hall:(f.parts.all fun x=>(za5 n t x).2) = false:=by rw [Jq]; exact ⟨_,Qe hlt,by rw [hk2]; simp⟩
      rw [htw,hall] at hv
      rw [hv]
      simp -implicitDefEqProofs only[go_sem,hlt]
      refine drawn (by kernel_rfl) ?_
      simp -implicitDefEqProofs only[go_sem,zad,hlt,zab f.parts[k]]
      refine zao (HC) (by simp -implicitDefEqProofs only[go_sem]) ?_
      simp -implicitDefEqProofs only[go_sem]
      refine ⟨by kernel_rfl,?_⟩
      simp -implicitDefEqProofs only[go_sem,zdm,Ke,K5]
      exact ⟨rfl,rfl⟩
     ·rw [hk2] at HC
      simp -implicitDefEqProofs only[go_sem,hlt]
      refine drawn (by kernel_rfl) ?_
      simp -implicitDefEqProofs only[go_sem,zad,hlt,zab f.parts[k]]
      refine zao (HC) (by simp -implicitDefEqProofs only[go_sem]) ?_
      simp -implicitDefEqProofs only[go_sem]
      refine ⟨by kernel_rfl,?_⟩
      refine zbx (by simp -implicitDefEqProofs only[go_sem]) ?_
      simp -implicitDefEqProofs only[go_sem]
      refine apD true (by simp -implicitDefEqProofs only[go_sem,ne_eq,Qb,Qp,hmin]) ?_
      simp -implicitDefEqProofs only[go_sem,ne_eq,Qb,Qp,hmin]
      refine ⟨k + 1,⟨hlt,fun x hx=>?_⟩,by omega,zac ?_⟩
      ·rw [Qf hlt] at hx
       rcases Qt.1 hx with hx | hx
       ·exact hT x hx
       ·rw [Q5] at hx; subst hx; exact hk2
      ·simp -implicitDefEqProofs only[go_sem]
       rw [zal (by omega),Qf hlt,Q0,Q7]
       simp only [zab]
       trivial
    ·have htk:f.parts.take k = f.parts:=Qk (by omega)
     rw [htk] at hT
     have hall:(f.parts.all fun x=>(za5 n t x).2) = true:=Ql.2 hT
     have htw:(f.parts.takeWhile fun x=>(za5 n t x).2) = f.parts:=by
      have:=(zc1 (l:=f.parts) (p:=fun x=>(za5 n t x).2) (k:=f.parts.length) (Qw _) (by rw [Kz]; exact hT) fun h=>absurd h (Yc _)).1
      rw [this,Kz]
     rw [htw,hall] at hv
     rw [hv]
     simp -implicitDefEqProofs only[go_sem,hlt,htk,zdm,Ke,K5]
     exact ⟨rfl,rfl⟩
  ·obtain ⟨q,hp,hpf⟩:=zlh hq hf
   have key:(f.op == 8) = true \/ ((f.op == 8) = false /\ (f.op == 9) = true):=by
    have hq8:=hq
    unfold isQ at hq8
    cases h8:f.op == 8
    ·rw [h8,Jc] at hq8; exact Or.inr ⟨rfl,hq8⟩
    ·exact Or.inl rfl
   have HFr:=zp0 q hpf (by have:=f.wt_eq; rw [hp] at this; simp only [Qi,Qy,Q3,Yj] at this; omega)
   have HOw:=zmg f hw
   have hfr:zkx f.parts = zba [] (vf q []):=by rw [hp]; rfl
   rw [hfr] at hv
   generalize zba [] (vf q []) = V at hv HFr
   have HIn:=zn0 V n
   have hvl:=zq1 t
   have HVs:=zqs t (by omega) (by omega)
   generalize zba [] (voS t) = TV at hv HVs
   have HIt:=zn0 TV f.var
   rw [hq,Qn,Qn] at hv
   have hp0:f.parts.length = 1:=by rw [hp]; rfl
   have e0:(List.map fmC f.parts).getD 0 [] = fmC q:=by rw [hp]; rfl
   cases hvn:f.var == n
   ·rw [hvn,Jc] at hv
    cases hcn:V.contains n
    ·rw [hcn,if_pos (by simp)] at hv
     rw [hcn] at HIn
     rw [hv]
     simp only [fmD,zab f,tmD,zaa t,zab q] at HOw HFr ⊢
     rcases key with e8 | ⟨e8,e9⟩
     ·refine zaj Tryz.call95 Tryz.func95 rfl (by kernel_rfl) (zax (by kernel_rfl)) ?_
      simp -implicitDefEqProofs only[go_sem,Tryz.results95,h3,e8,hvn,hp0,e0,zab q]
      refine callF (HFr) (by simp -implicitDefEqProofs only[go_sem]) ?_
      simp -implicitDefEqProofs only[go_sem]
      refine callF (HIn) (by simp -implicitDefEqProofs only[go_sem]) ?_
      simp -implicitDefEqProofs only[go_sem]
      refine callF (HOw) (by simp -implicitDefEqProofs only[go_sem]) ?_
      simp -implicitDefEqProofs only[go_sem]
     ·refine zaj Tryz.call95 Tryz.func95 rfl (by kernel_rfl) (zax (by kernel_rfl)) ?_
      simp -implicitDefEqProofs only[go_sem,Tryz.results95,h3,e8,e9,hvn,hp0,e0,zab q]
      refine callF (HFr) (by simp -implicitDefEqProofs only[go_sem]) ?_
      simp -implicitDefEqProofs only[go_sem]
      refine callF (HIn) (by simp -implicitDefEqProofs only[go_sem]) ?_
      simp -implicitDefEqProofs only[go_sem]
      refine callF (HOw) (by simp -implicitDefEqProofs only[go_sem]) ?_
      simp -implicitDefEqProofs only[go_sem]
    ·rw [hcn,if_neg (by simp)] at hv
     rw [hcn] at HIn
     cases hti:TV.contains f.var
     ·rw [hti,if_neg (by simp)] at hv
      rw [hti] at HIt
      simp only [fmD,zab f,tmD,zaa t,zab q] at HVs HFr ⊢
      rcases key with e8 | ⟨e8,e9⟩
      ·refine zaj Tryz.call95 Tryz.func95 rfl (by kernel_rfl) (zax (by kernel_rfl)) ?_
       simp -implicitDefEqProofs only[go_sem,Tryz.results95,h3,e8,hvn,hp0,e0,zab q]
       refine callF (HFr) (by simp -implicitDefEqProofs only[go_sem]) ?_
       simp -implicitDefEqProofs only[go_sem]
       refine callF (HIn) (by simp -implicitDefEqProofs only[go_sem]) ?_
       simp -implicitDefEqProofs only[go_sem]
       refine drawn (by kernel_rfl) ?_
       simp -implicitDefEqProofs only[go_sem]
       refine zao (HVs) (by simp -implicitDefEqProofs only[go_sem]) ?_
       simp -implicitDefEqProofs only[go_sem]
       refine zao (HIt) (by simp -implicitDefEqProofs only[go_sem]) ?_
       simp -implicitDefEqProofs only[go_sem]
       refine ⟨by kernel_rfl,?_⟩
       refine zae (fun k:Nat=>hd [(1,vT (.str n)),(3,.one (.bx 3 0)),(5,.one (.bx 5 0)),(6,.one (.bx 6 0)),(8,.one (.bx 8 0)),(9,vI k)] [(3,[.t (.int .i64 f.op),.t (.str f.atom.name),.t (tmS f.atom.args),.t (.str f.var),.t (fmS f.parts)]),(5,[.t (.str t.name),.t (tmS t.args)]),(6,[.t (.int .i64 0),.t (.str []),.nl 2,.t (.str []),.nl 5]),(8,[.t (.int .i64 f.op),.t (.str []),.nl 2,.t (.str f.var),.ow 8000 0])] [(8000,⟨true,5,(f.parts.take k).map fun x=>fmC (za5 n t x).1,0,true⟩)]) (fun k=>k <= f.parts.length /\ ∀ x ∈ f.parts.take k,(za5 n t x).2 = true) (fun k=>f.parts.length - k) 0 (zac ?_) ⟨Ka _,by simp⟩ ?_
       ·simp -implicitDefEqProofs only[go_sem]
       ·rintro k ⟨hk,hT⟩
        by_cases hlt:k < f.parts.length
        ·have HC:=H f.parts[k] (Qe hlt)
         have hmin:min k f.parts.length <= 4294967295:=by omega
         simp only [fmD,zab f.parts[k],zab (za5 n t f.parts[k]).1,tmD,zaa t] at HC
         cases hk2:(za5 n t f.parts[k]).2
         ·rw [hk2] at HC
          have htw:=(zc1 (p:=fun x=>(za5 n t x).2) hk hT fun _=>hk2).1
          have hall:(f.parts.all fun x=>(za5 n t x).2) = false:=by rw [Jq]; exact ⟨_,Qe hlt,by rw [hk2]; simp⟩
          rw [htw,hall] at hv
          rw [hv]
          simp -implicitDefEqProofs only[go_sem,hlt]
          refine drawn (by kernel_rfl) ?_
          simp -implicitDefEqProofs only[go_sem,zad,hlt,zab f.parts[k]]
          refine zao (HC) (by simp -implicitDefEqProofs only[go_sem]) ?_
          simp -implicitDefEqProofs only[go_sem]
          refine ⟨by kernel_rfl,?_⟩
          simp -implicitDefEqProofs only[go_sem,zdm,Ke,K5]
          exact ⟨rfl,rfl⟩
         ·rw [hk2] at HC
          simp -implicitDefEqProofs only[go_sem,hlt]
          refine drawn (by kernel_rfl) ?_
          simp -implicitDefEqProofs only[go_sem,zad,hlt,zab f.parts[k]]
          refine zao (HC) (by simp -implicitDefEqProofs only[go_sem]) ?_
          simp -implicitDefEqProofs only[go_sem]
          refine ⟨by kernel_rfl,?_⟩
          refine zbx (by simp -implicitDefEqProofs only[go_sem]) ?_
          simp -implicitDefEqProofs only[go_sem]
          refine apD true (by simp -implicitDefEqProofs only[go_sem,ne_eq,Qb,Qp,hmin]) ?_
          simp -implicitDefEqProofs only[go_sem,ne_eq,Qb,Qp,hmin]
          refine ⟨k + 1,⟨hlt,fun x hx=>?_⟩,by omega,zac ?_⟩
          ·rw [Qf hlt] at hx
           rcases Qt.1 hx with hx | hx
           ·exact hT x hx
           ·rw [Q5] at hx; subst hx; exact hk2
          ·simp -implicitDefEqProofs only[go_sem]
           rw [zal (by omega),Qf hlt,Q0,Q7]
           simp only [zab]
           trivial
        ·have htk:f.parts.take k = f.parts:=Qk (by omega)
         rw [htk] at hT
         have hall:(f.parts.all fun x=>(za5 n t x).2) = true:=Ql.2 hT
         have htw:(f.parts.takeWhile fun x=>(za5 n t x).2) = f.parts:=by
          have:=(zc1 (l:=f.parts) (p:=fun x=>(za5 n t x).2) (k:=f.parts.length) (Qw _) (by rw [Kz]; exact hT) fun h=>absurd h (Yc _)).1
          rw [this,Kz]
         rw [htw,hall] at hv
         rw [hv]
         simp -implicitDefEqProofs only[go_sem,hlt,htk,zdm,Ke,K5]
         exact ⟨rfl,rfl⟩
      ·refine zaj Tryz.call95 Tryz.func95 rfl (by kernel_rfl) (zax (by kernel_rfl)) ?_
       simp -implicitDefEqProofs only[go_sem,Tryz.results95,h3,e8,e9,hvn,hp0,e0,zab q]
       refine callF (HFr) (by simp -implicitDefEqProofs only[go_sem]) ?_
       simp -implicitDefEqProofs only[go_sem]
       refine callF (HIn) (by simp -implicitDefEqProofs only[go_sem]) ?_
       simp -implicitDefEqProofs only[go_sem]
       refine drawn (by kernel_rfl) ?_
       simp -implicitDefEqProofs only[go_sem]
       refine zao (HVs) (by simp -implicitDefEqProofs only[go_sem]) ?_
       simp -implicitDefEqProofs only[go_sem]
       refine zao (HIt) (by simp -implicitDefEqProofs only[go_sem]) ?_
       simp -implicitDefEqProofs only[go_sem]
       refine ⟨by kernel_rfl,?_⟩
       refine zae (fun k:Nat=>hd [(1,vT (.str n)),(3,.one (.bx 3 0)),(5,.one (.bx 5 0)),(6,.one (.bx 6 0)),(8,.one (.bx 8 0)),(9,vI k)] [(3,[.t (.int .i64 f.op),.t (.str f.atom.name),.t (tmS f.atom.args),.t (.str f.var),.t (fmS f.parts)]),(5,[.t (.str t.name),.t (tmS t.args)]),(6,[.t (.int .i64 0),.t (.str []),.nl 2,.t (.str []),.nl 5]),(8,[.t (.int .i64 f.op),.t (.str []),.nl 2,.t (.str f.var),.ow 8000 0])] [(8000,⟨true,5,(f.parts.take k).map fun x=>fmC (za5 n t x).1,0,true⟩)]) (fun k=>k <= f.parts.length /\ ∀ x ∈ f.parts.take k,(za5 n t x).2 = true) (fun k=>f.parts.length - k) 0 (zac ?_) ⟨Ka _,by simp⟩ ?_
       ·simp -implicitDefEqProofs only[go_sem]
       ·rintro k ⟨hk,hT⟩
        by_cases hlt:k < f.parts.length
        ·have HC:=H f.parts[k] (Qe hlt)
         have hmin:min k f.parts.length <= 4294967295:=by omega
         simp only [fmD,zab f.parts[k],zab (za5 n t f.parts[k]).1,tmD,zaa t] at HC
         cases hk2:(za5 n t f.parts[k]).2
         ·rw [hk2] at HC
          have htw:=(zc1 (p:=fun x=>(za5 n t x).2) hk hT fun _=>hk2).1
          have hall:(f.parts.all fun x=>(za5 n t x).2) = false:=by rw [Jq]; exact ⟨_,Qe hlt,by rw [hk2]; simp⟩
          rw [htw,hall] at hv
          rw [hv]
          simp -implicitDefEqProofs only[go_sem,hlt]
          refine drawn (by kernel_rfl) ?_
          simp -implicitDefEqProofs only[go_sem,zad,hlt,zab f.parts[k]]
          refine zao (HC) (by simp -implicitDefEqProofs only[go_sem]) ?_
          simp -implicitDefEqProofs only[go_sem]
          refine ⟨by kernel_rfl,?_⟩
          simp -implicitDefEqProofs only[go_sem,zdm,Ke,K5]
          exact ⟨rfl,rfl⟩
         ·rw [hk2] at HC
          simp -implicitDefEqProofs only[go_sem,hlt]
          refine drawn (by kernel_rfl) ?_
          simp -implicitDefEqProofs only[go_sem,zad,hlt,zab f.parts[k]]
          refine zao (HC) (by simp -implicitDefEqProofs only[go_sem]) ?_
          simp -implicitDefEqProofs only[go_sem]
          refine ⟨by kernel_rfl,?_⟩
          refine zbx (by simp -implicitDefEqProofs only[go_sem]) ?_
          simp -implicitDefEqProofs only[go_sem]
          refine apD true (by simp -implicitDefEqProofs only[go_sem,ne_eq,Qb,Qp,hmin]) ?_
          simp -implicitDefEqProofs only[go_sem,ne_eq,Qb,Qp,hmin]
          refine ⟨k + 1,⟨hlt,fun x hx=>?_⟩,by omega,zac ?_⟩
          ·rw [Qf hlt] at hx
           rcases Qt.1 hx with hx | hx
           ·exact hT x hx
           ·rw [Q5] at hx; subst hx; exact hk2
          ·simp -implicitDefEqProofs only[go_sem]
           rw [zal (by omega),Qf hlt,Q0,Q7]
           simp only [zab]
           trivial
        ·have htk:f.parts.take k = f.parts:=Qk (by omega)
         rw [htk] at hT
         have hall:(f.parts.all fun x=>(za5 n t x).2) = true:=Ql.2 hT
         have htw:(f.parts.takeWhile fun x=>(za5 n t x).2) = f.parts:=by
          have:=(zc1 (l:=f.parts) (p:=fun x=>(za5 n t x).2) (k:=f.parts.length) (Qw _) (by rw [Kz]; exact hT) fun h=>absurd h (Yc _)).1
          rw [this,Kz]
         rw [htw,hall] at hv
         rw [hv]
         simp -implicitDefEqProofs only[go_sem,hlt,htk,zdm,Ke,K5]
         exact ⟨rfl,rfl⟩
     ·rw [hti,if_pos rfl] at hv
      rw [hti] at HIt
      rw [hv]
      have e5:fmD (.mk f.op (.mk [] []) f.var []) = .agg [.int .i64 f.op,.str [],.sl 2 [],.str f.var,.sl 5 []]:=by unfold fmD; rw [zab]; rfl
      rw [e5]
      simp only [fmD,zab f,tmD,zaa t,zab q] at HVs HFr ⊢
      rcases key with e8 | ⟨e8,e9⟩
      ·refine zaj Tryz.call95 Tryz.func95 rfl (by kernel_rfl) (zax (by kernel_rfl)) ?_
       simp -implicitDefEqProofs only[go_sem,Tryz.results95,h3,e8,hvn,hp0,e0,zab q]
       refine callF (HFr) (by simp -implicitDefEqProofs only[go_sem]) ?_
       simp -implicitDefEqProofs only[go_sem]
       refine callF (HIn) (by simp -implicitDefEqProofs only[go_sem]) ?_
       simp -implicitDefEqProofs only[go_sem]
       refine drawn (by kernel_rfl) ?_
       simp -implicitDefEqProofs only[go_sem]
       refine zao (HVs) (by simp -implicitDefEqProofs only[go_sem]) ?_
       simp -implicitDefEqProofs only[go_sem]
       refine zao (HIt) (by simp -implicitDefEqProofs only[go_sem]) ?_
       simp -implicitDefEqProofs only[go_sem]
       kernel_rfl
      ·refine zaj Tryz.call95 Tryz.func95 rfl (by kernel_rfl) (zax (by kernel_rfl)) ?_
       simp -implicitDefEqProofs only[go_sem,Tryz.results95,h3,e8,e9,hvn,hp0,e0,zab q]
       refine callF (HFr) (by simp -implicitDefEqProofs only[go_sem]) ?_
       simp -implicitDefEqProofs only[go_sem]
       refine callF (HIn) (by simp -implicitDefEqProofs only[go_sem]) ?_
       simp -implicitDefEqProofs only[go_sem]
       refine drawn (by kernel_rfl) ?_
       simp -implicitDefEqProofs only[go_sem]
       refine zao (HVs) (by simp -implicitDefEqProofs only[go_sem]) ?_
       simp -implicitDefEqProofs only[go_sem]
       refine zao (HIt) (by simp -implicitDefEqProofs only[go_sem]) ?_
       simp -implicitDefEqProofs only[go_sem]
       kernel_rfl
   ·rw [hvn,Bool.true_or,if_pos rfl] at hv
    rw [hv]
    simp only [fmD,zab f,tmD,zaa t] at HOw ⊢
    rcases key with e8 | ⟨e8,e9⟩
    ·refine zaj Tryz.call95 Tryz.func95 rfl (by kernel_rfl) (zax (by kernel_rfl)) ?_
     simp -implicitDefEqProofs only[go_sem,Tryz.results95,h3,e8,hvn]
     refine callF (HOw) (by simp -implicitDefEqProofs only[go_sem]) ?_
     simp -implicitDefEqProofs only[go_sem]
    ·refine zaj Tryz.call95 Tryz.func95 rfl (by kernel_rfl) (zax (by kernel_rfl)) ?_
     simp -implicitDefEqProofs only[go_sem,Tryz.results95,h3,e8,e9,hvn]
     refine callF (HOw) (by simp -implicitDefEqProofs only[go_sem]) ?_
     simp -implicitDefEqProofs only[go_sem]
 ·rw [h3,if_pos rfl] at hv
  have HA:=qbx (bnd n t) (qn2 n t) (bnd_wt n t ht) f.atom (by have:=zj5 f; omega)
  rw [hv]
  generalize zb9 (bnd n t) f.atom = R at HA hwa ⊢
  have HO:=zx5 R hwa
  cases hn:t.name == n
  ·have e0:bnd n t = [(n,t)]:=by unfold bnd; rw [hn,if_neg (by simp)]
   have HP:=qf2 n t ht hn
   have hS0:sbS [] = .sl 3 []:=rfl
   rw [e0] at HA
   generalize [(n,t)] = B at HA HP
   rw [hS0] at HP
   unfold sbS at HP HA
   generalize B.map bnC = L at HA HP
   simp only [fmD,zab f,tmD,zaa t,zaa f.atom,zaa R,zdm,Qy] at HA HP HO ⊢
   refine zaj Tryz.call95 Tryz.func95 rfl (by kernel_rfl) (zax (by kernel_rfl)) ?_
   simp -implicitDefEqProofs only[go_sem,Tryz.results95,h3]
   refine drawn (by kernel_rfl) ?_
   simp -implicitDefEqProofs only[go_sem]
   refine zao (HP) (by simp -implicitDefEqProofs only[go_sem]) ?_
   simp -implicitDefEqProofs only[go_sem]
   refine zao (HA) (by simp -implicitDefEqProofs only[go_sem]) ?_
   simp -implicitDefEqProofs only[go_sem]
   refine ⟨by kernel_rfl,?_⟩
   refine drawn (by kernel_rfl) ?_
   simp -implicitDefEqProofs only[go_sem]
   refine zao (HO) (by simp -implicitDefEqProofs only[go_sem]) ?_
   simp -implicitDefEqProofs only[go_sem]
   kernel_rfl
  ·have e0:bnd n t = []:=by unfold bnd; rw [hn,if_pos rfl]
   have HP:=zzh n t hn
   have hS0:sbS [] = .sl 3 []:=rfl
   rw [e0] at HA
   rw [hS0] at HP HA
   simp only [fmD,zab f,tmD,zaa t,zaa f.atom,zaa R,zdm,Qy] at HA HP HO ⊢
   refine zaj Tryz.call95 Tryz.func95 rfl (by kernel_rfl) (zax (by kernel_rfl)) ?_
   simp -implicitDefEqProofs only[go_sem,Tryz.results95,h3]
   refine drawn (by kernel_rfl) ?_
   simp -implicitDefEqProofs only[go_sem]
   refine dCallR HP (by simp -implicitDefEqProofs only[go_sem]) ?_
   simp -implicitDefEqProofs only[go_sem]
   refine zao (HA) (by simp -implicitDefEqProofs only[go_sem]) ?_
   simp -implicitDefEqProofs only[go_sem]
   refine ⟨by kernel_rfl,?_⟩
   refine drawn (by kernel_rfl) ?_
   simp -implicitDefEqProofs only[go_sem]
   refine zao (HO) (by simp -implicitDefEqProofs only[go_sem]) ?_
   simp -implicitDefEqProofs only[go_sem]
   kernel_rfl
end
section
set_option maxRecDepth 4000
open Go.RowKit
theorem qpv (n:Str) (t:Tm):∀ a:Tm,(zge n t a).wt <= a.wt + a.nodes * t.wt:=zbf fun m xs ih=>by
 rw [zqi,Tm.nodes_eq]
 show (if xs.length = 0 then (if (n == m) = true then t else .mk m []) else .mk m (xs.map (zge n t))).wt <= (Tm.mk m xs).wt + (1 + (xs.map Tm.nodes).sum) * t.wt
 have hs:(xs.map fun x=>(zge n t x).wt).sum <= (xs.map Tm.wt).sum + (xs.map Tm.nodes).sum * t.wt:=by
  revert ih
  induction xs with
  | nil=>simp
  | cons x xs ih2 =>
   intro ih
   have h1:=ih x (by simp)
   have h2:=ih2 fun y hy=>ih y (by simp [hy])
   simp only [Qi,Q3,Kq]
   omega
 have h0:=Tm.wt_eq (.mk m xs)
 have h0:(Tm.mk m xs).wt = m.length + xs.length + (xs.map Tm.wt).sum:=h0
 rw [Kq,Yg]
 split
 ·split
  ·omega
  ·have h1:=Tm.wt_eq (.mk m [])
   have h1:(Tm.mk m []).wt = m.length + 0 + 0:=h1
   omega
 ·have h1:=Tm.wt_eq (.mk m (xs.map (zge n t)))
  have h1:(Tm.mk m (xs.map (zge n t))).wt = m.length + (xs.map (zge n t)).length + ((xs.map (zge n t)).map Tm.wt).sum:=h1
  rw [Qb,Ke] at h1
  have h2:(xs.map (Tm.wt ∘ zge n t)).sum = (xs.map fun x=>(zge n t x).wt).sum:=rfl
  omega
theorem qfj (l:List (Str × Tm)) (W:Nat) (hW:∀ p ∈ l,p.2.wt <= W):∀ a:Tm,(zb9 l a).wt <= a.wt + a.nodes * W:=zbf fun m xs ih=>by
 rw [zfx,Tm.nodes_eq]
 show (if zay m = true then (match l.find? fun (p:Str × Tm)=>p.1 == m with | some p=>p.2 | none=>.mk m []) else .mk m (xs.map (zb9 l))).wt <= (Tm.mk m xs).wt + (1 + (xs.map Tm.nodes).sum) * W
 have hs:(xs.map fun x=>(zb9 l x).wt).sum <= (xs.map Tm.wt).sum + (xs.map Tm.nodes).sum * W:=by
  revert ih
  induction xs with
  | nil=>simp
  | cons x xs ih2 =>
   intro ih
   have h1:=ih x (by simp)
   have h2:=ih2 fun y hy=>ih y (by simp [hy])
   simp only [Qi,Q3,Kq]
   omega
 have h0:=Tm.wt_eq (.mk m xs)
 have h0:(Tm.mk m xs).wt = m.length + xs.length + (xs.map Tm.wt).sum:=h0
 rw [Kq,Yg]
 split
 ·split
  ·rename_i p hp
   have:=hW p (List.mem_of_find?_eq_some hp)
   omega
  ·have h1:=Tm.wt_eq (.mk m [])
   have h1:(Tm.mk m []).wt = m.length + 0 + 0:=h1
   omega
 ·have h1:=Tm.wt_eq (.mk m (xs.map (zb9 l)))
  have h1:(Tm.mk m (xs.map (zb9 l))).wt = m.length + (xs.map (zb9 l)).length + ((xs.map (zb9 l)).map Tm.wt).sum:=h1
  rw [Qb,Ke] at h1
  have h2:(xs.map (Tm.wt ∘ zb9 l)).sum = (xs.map fun x=>(zb9 l x).wt).sum:=rfl
  omega
theorem qoq (n:Str) (t:Tm):∀ p ∈ bnd n t,p.2.wt <= t.wt:=by
 unfold bnd
 split
 ·simp
 ·intro p hp; simp at hp; rw [hp]; exact Qw _
theorem zo9 (n:Str) (t:Tm) (ht:t.wt <= 1048576):∀ f:Fm,f.forms = true->f.wt <= 1048576->f.wt + (1 + f.wt) * t.wt <= 1099511627776->FC Tryz.prog 95 [fmD f,sD n,tmD t] [fmD (za5 n t f).1,bD (za5 n t f).2] :=
 za8 fun o a v ps ih hf hw hb=>by
  refine qh2 n t ht (.mk o a v ps) hf hw ?_ fun x hx=>ih x hx (by rw [Fm.forms_eq,Qa] at hf; exact Ql.1 hf.2 x hx) (Kg (zbt (a:=.mk o a v ps) hx) hw) ?_
  ·have h1:=qfj (bnd n t) t.wt (qoq n t) a
   have h2:=zey a
   have h3:a.wt <= (Fm.mk o a v ps).wt:=zj5 (.mk o a v ps)
   have h4:a.nodes * t.wt <= (1 + (Fm.mk o a v ps).wt) * t.wt:=K1 _ (by omega)
   show (zb9 (bnd n t) a).wt <= _
   omega
  ·have h3:=zbt (a:=.mk o a v ps) hx
   have h4:(1 + x.wt) * t.wt <= (1 + (Fm.mk o a v ps).wt) * t.wt:=K1 _ (by omega)
   omega
theorem qoa:(mkF 0 []).wt = 0:=rfl
theorem qf9 {α:Type} {g w:α->Nat} {W:Nat}:∀ ps:List α,(∀ x ∈ ps,g x <= w x + (1 + w x) * W)->(ps.map g).sum <= (ps.map w).sum + (ps.length + (ps.map w).sum) * W
 | [],_=>by simp
 | x :: xs,ih=>by
  have h1:=ih x (by simp)
  have h2:=qf9 (g:=g) (w:=w) (W:=W) xs fun y hy=>ih y (by simp [hy])
  simp only [Qi,Q3,Qm]
  have e:(xs.length + 1 + (w x + (xs.map w).sum)) * W = (1 + w x) * W + (xs.length + (xs.map w).sum) * W:=by rw [<-Kq]; congr 1; omega
  rw [e]
  omega
theorem qns (n:Str) (t:Tm):∀ f:Fm,(zdo n t f).1.wt <= f.wt + (1 + f.wt) * t.wt:=za8 fun o a v ps ih=>by
 rw [zwg]
 have h0:(Fm.mk o a v ps).wt = a.wt + v.length + ps.length + (ps.map Fm.wt).sum:=Fm.wt_eq (.mk o a v ps)
 split
 ·exact Nat.le_add_right _ _
 ·split
  ·rw [qoa]; exact Ka _
  ·have hs:(ps.map fun x=>(zdo n t x).1.wt).sum <= (ps.map Fm.wt).sum + (ps.length + (ps.map Fm.wt).sum) * t.wt:=qf9 (g:=fun x=>(zdo n t x).1.wt) (w:=Fm.wt) (W:=t.wt) ps ih
   have ha:=qpv n t a
   have hn:=zey a
   show (Fm.mk o (if (o == 3) = true then zge n t a else a) v (ps.map fun x=>(zdo n t x).1)).wt <= _
   have h1:=Fm.wt_eq (.mk o (if (o == 3) = true then zge n t a else a) v (ps.map fun x=>(zdo n t x).1))
   have h1:(Fm.mk o (if (o == 3) = true then zge n t a else a) v (ps.map fun x=>(zdo n t x).1)).wt = (if (o == 3) = true then zge n t a else a).wt + v.length + (ps.map fun x=>(zdo n t x).1).length + ((ps.map fun x=>(zdo n t x).1).map Fm.wt).sum:=h1
   rw [Qb,Ke] at h1
   have h2:(ps.map (Fm.wt ∘ fun x=>(zdo n t x).1)).sum = (ps.map fun x=>(zdo n t x).1.wt).sum:=rfl
   have h3:(if (o == 3) = true then zge n t a else a).wt <= a.wt + (1 + a.wt) * t.wt:=by
    have:a.nodes * t.wt <= (1 + a.wt) * t.wt:=K1 _ (by omega)
    split <;> omega
   have h4:(1 + a.wt) * t.wt + (ps.length + (ps.map Fm.wt).sum) * t.wt <= (1 + (Fm.mk o a v ps).wt) * t.wt:=by rw [<-Kq]; exact K1 _ (by omega)
   omega
end
section
set_option maxRecDepth 4000
open Go.RowKit
attribute [local go_sem] Oper.semAt_some
set_option maxHeartbeats 1000000 in
theorem zne:qbs Tryz.prog 183 227:=by
 refine ⟨Tryz.call183,fun a len cap w=>?_⟩
 refine callsIn_wide.1 (callsIn_of_wp (n:=0) Tryz.func183 rfl trivial ?_ rfl)
 simp only [Tryz.ntmps183,J7,Qm,Qv,Nat.reduceAdd,Nat.reduceSub,Array.replicate_succ,Array.replicate_zero,List.push_toArray,List.append_toArray,Kl,Kw]
 gi_wp2
 go_ret
 exact ⟨_,rfl,rfl⟩
set_option maxRecDepth 100000 in
set_option maxHeartbeats 2000000 in
theorem zow:zwy Tryz.prog 227 true 5:=by
 intro l Bs n W J hmax hlen0 hrd h0
 obtain ⟨ao,cap,hBs⟩:=hlen0 W h0
 have hmax:n <= 9223372036854775807:=hmax
 have hw1:IntKind.i64.wrap ((n:Int) - 1) = (n:Int) - 1:=by rw [IntKind.wrap_i64]; omega
 have hro:(FR none).round = none:=rfl
 refine callsIn_of_wp Tryz.func227 rfl trivial ?_ rfl
 simp only [Tryz.ntmps227,J7,Qm,Qv,Nat.reduceAdd,Nat.reduceSub,Array.replicate_succ,Array.replicate_zero,List.push_toArray,List.append_toArray,Kl,Kw]
 gi_wp2
 gi_loopw [3] (fun i wr=>∃ k:Nat,k <= n /\ i = .int .i64 ((n:Int) - 1 - k) /\ J k wr) (fun i _=>(intOf i + 1).toNat)
 case atStart=>exact ⟨0,Ka _,by simp,h0⟩
 case round =>
  obtain ⟨k,hk,rfl,hJs⟩:=hrel
  by_cases hlt:k < n
  ·obtain ⟨m,hm⟩ : ∃ m,n - 1 - k = m:=⟨_,rfl⟩
   have hml:m < n:=by omega
   obtain ⟨b,o,cap',r,hb,hr,hcell,fn,tmps,assign,body,hy,hR⟩:=hrd k wr hJs hlt
   match r,hr,hcell,hy with
   | [v0,v1,v2,v3,v4],_,hcell,hy =>
    rw [hm] at hcell hy
    rw [show (n:Int) - 1 - k = (m:Int) by omega]
    have e1:wr.cell? ⟨b,o + m * 5,none⟩ = _:=hcell 0 v0 rfl
    have e2:wr.cell? ⟨b,o + m * 5 + 1,none⟩ = _:=hcell 1 v1 rfl
    have e3:wr.cell? ⟨b,o + m * 5 + 2,none⟩ = _:=hcell 2 v2 rfl
    have e4:wr.cell? ⟨b,o + m * 5 + 3,none⟩ = _:=hcell 3 v3 rfl
    have e5:wr.cell? ⟨b,o + m * 5 + 4,none⟩ = _:=hcell 4 v4 rfl
    simp only [agv,if_true] at hy
    have hw2:IntKind.i64.wrap ((m:Int) - 1) = (m:Int) - 1:=by rw [IntKind.wrap_i64]; omega
    gi_wp2
    refine hR.mono ?_
    rintro e W3 ⟨rfl,hJ3⟩
    gi_wp2
    go_roundw
    case rel=>exact ⟨k + 1,by omega,by go_num,hJ3⟩
    case measure=>simp [intOf]
  ·obtain rfl:k = n:=by omega
   gi_wp2
   go_end0
   exact ⟨⟨_,rfl⟩,hJs⟩
end
section
set_option maxRecDepth 4000
open Go.RowKit
structure OF where
 op:Int
 name:Str
 a:Option Addr × Nat × Nat
 var:Str
 p:Option Addr × Nat × Nat
def ofC (x:OF):List T:=[.int .i64 x.op,.str x.name,.vs x.a.1 x.a.2.1 x.a.2.2,.str x.var,.vs x.p.1 x.p.2.1 x.p.2.2]
theorem zfo (x:OF):ofC x = [.int .i64 x.op,.str x.name,.vs x.a.1 x.a.2.1 x.a.2.2,.str x.var,.vs x.p.1 x.p.2.1 x.p.2.2]:=rfl
def jnC (op:Int):List OF->List T
 | []=>[]
 | [x]=>ofC x
 | x :: xs=>[.int .i64 op,.str [],.sl 2 [],.str [],.sl 5 [ofC x,jnC op xs]]
theorem zpo (op:Int) (x:OF) {xs:List OF} (h:xs ≠ []):jnC op (x :: xs) = [.int .i64 op,.str [],.sl 2 [],.str [],.sl 5 [ofC x,jnC op xs]]:=by
 cases xs with
 | nil=>exact absurd rfl h
 | cons y ys=>rfl
theorem qeq (op:Int) (x y:OF):FC Tryz.prog 184 [iD op,.agg (ofC x),.agg (ofC y)] [.agg [.int .i64 op,.str [],.sl 2 [],.str [],.sl 5 [ofC x,ofC y]]]:=by
 simp only [zfo]
 refine zaj Tryz.call184 Tryz.func184 rfl (by kernel_rfl) (zax (by kernel_rfl)) ?_
 simp -implicitDefEqProofs only[go_sem,Tryz.results184]
 refine zbx (by simp -implicitDefEqProofs only[go_sem]) ?_
 simp -implicitDefEqProofs only[go_sem]
theorem qea (op o2:Int) (x:OF) (R:List (List T)):GC Tryz.prog 184 [(false,iD op),(false,.agg (ofC x)),(true,.agg [.int .i64 o2,.str [],.sl 2 [],.str [],.sl 5 R])] [.agg [.int .i64 op,.str [],.sl 2 [],.str [],.sl 5 [ofC x,[.int .i64 o2,.str [],.sl 2 [],.str [],.sl 5 R]]]]:=by
 simp only [zfo]
 refine qgg Tryz.call184 Tryz.func184 rfl (by kernel_rfl) (by simp only [Qm,Qv,Tryz.ntmps184]; omega) (by simp [zbq,T.isPin]) ?_
 simp -implicitDefEqProofs only[go_sem,Tryz.results184]
 refine zbx (by simp -implicitDefEqProofs only[go_sem]) ?_
 simp -implicitDefEqProofs only[go_sem]
def cbH (op:Int) (xs:List OF) (z:OF):Nat->St
 | 0=>hd [(3,.one (.bx 3 0)),(6,.one (.bx 6 0)),(7,.one (.bx 7 0)),(25,.one (.fn 227 [25]))]
   [(3,[.t (.int .i64 op)]),(6,[.t (.int .i64 0),.t (.str []),.nl 2,.t (.str []),.nl 5]),(7,(ofC (xs.getD (xs.length - 1) z)).map .t),(25,[.rn (.sl 5 ((xs.map ofC).take (xs.length - 1)))])] []
 | k + 1=>hd [(3,.one (.bx 3 0)),(6,.one (.bx 6 0)),(7,.one (.bx 7 0)),(25,.one (.fn 227 [25]))]
   [(3,[.t (.int .i64 op)]),(6,[.t (.int .i64 0),.t (.str []),.nl 2,.t (.str []),.nl 5]),(7,[.t (.int .i64 op),.t (.str []),.ow 994 0,.t (.str []),.ow 996 0]),(25,[.rn (.sl 5 ((xs.map ofC).take (xs.length - 1)))])]
   [(994,⟨true,2,[],0,true⟩),(996,⟨true,5,[ofC (xs.getD (xs.length - 1 - 1 - k) z),jnC op (xs.drop (xs.length - 1 - k))],0,true⟩)]
set_option maxHeartbeats 1000000 in
theorem zn5 (op:Int) (xs:List OF) (z:OF):FC Tryz.prog 111 [iD op,.one (.sl 5 (xs.map ofC)),.agg (ofC z)] [.agg (if xs = [] then ofC z else jnC op xs)]:=by
 cases hx:xs with
 | nil =>
  simp only [if_true,Qy,ofC]
  refine qg2 Tryz.call111 Tryz.func111 rfl rfl (by kernel_rfl) (zax (by kernel_rfl)) ?_
  simp -implicitDefEqProofs only[go_sem,Tryz.results111]
 | cons x0 r0 =>
  rw [<-hx]
  have hne:xs ≠ []:=by rw [hx]; simp
  have hn:0 < xs.length:=by rw [hx]; simp
  refine zdi (fun hw=>?_) Tryz.call111
  have hl:xs.length <= 9223372036854775807:=by simpa [zgg,wfT] using hw.2.1.1
  clear hw hx
  have e0:((xs.length:Int) == 0) = false:=by simp; omega
  have e1:IntKind.i64.wrap ((xs.length:Int) - 1) = ((xs.length - 1:Nat):Int):=by rw [zb2 (by omega) (by omega)]; omega
  have hi:xs.length - 1 < xs.length:=by omega
  rw [if_neg hne]
  simp only [ofC]
  refine qg2 Tryz.call111 Tryz.func111 rfl rfl (by kernel_rfl) (zax (by kernel_rfl)) ?_
  simp -implicitDefEqProofs only[go_sem,Tryz.results111,e0,e1,hi,zad,Qb,zfo]
  refine ⟨by omega,?_⟩
  refine callB (sz:=5) (rows:=(xs.map ofC).take (xs.length - 1)) zne (by simp -implicitDefEqProofs only[go_sem]) ?_
  simp -implicitDefEqProofs only[go_sem]
  have hlen:((xs.map ofC).take (xs.length - 1)).length = xs.length - 1:=by simp
  have hlast:xs.getD (xs.length - 1) z = xs[xs.length - 1]:=by simp [hi]
  refine loopB zow Tryz.call227 25 (cbH op xs z) ((xs.map ofC).take (xs.length - 1)) (by kernel_rfl) rfl (fun k=>by cases k <;> exact ⟨rfl,rfl⟩) (fun k=>by cases k <;> exact ⟨rfl,rfl,rfl,rfl,rfl,rfl,rfl,trivial⟩) (zac (by simp -implicitDefEqProofs only[go_sem,hlast,zfo])) ?_ ?_
  ·intro k hk
   rw [hlen] at hk ⊢
   have hrow:((xs.map ofC).take (xs.length - 1)).getD (xs.length - 1 - 1 - k) [] = ofC (xs.getD (xs.length - 1 - 1 - k) z):=by
    have h1:xs.length - 1 - 1 - k < xs.length - 1:=by omega
    have h2:xs.length - 1 - 1 - k < xs.length:=by omega
    simp [List.getD,List.getElem?_take,h1,h2]
   rw [hrow]
   have hd1:xs.drop (xs.length - 1) = [xs.getD (xs.length - 1) z]:=by
    rw [Qh hi,Qs (by omega),hlast]
   cases k with
   | zero =>
    simp only [cbH,qmf,if_true,Nat.sub_zero]
    simp -implicitDefEqProofs only[go_sem,zfo,qmf,T.toN]
    refine callF (qeq op (xs.getD (xs.length - 1 - 1) z) (xs.getD (xs.length - 1) z)) (by simp -implicitDefEqProofs only[go_sem,zfo]) ?_
    simp -implicitDefEqProofs only[go_sem,zfo]
    refine zac ?_
    rw [hd1]
    simp -implicitDefEqProofs only[go_sem,jnC,zfo]
   | succ k =>
    have hdk:xs.drop (xs.length - 1 - (k + 1)) = xs.getD (xs.length - 1 - 1 - k) z :: xs.drop (xs.length - 1 - k):=by
     have h1:xs.length - 1 - (k + 1) < xs.length:=by omega
     rw [Qh h1,show xs.length - 1 - (k + 1) + 1 = xs.length - 1 - k by omega]
     congr 1
     rw [show xs.length - 1 - 1 - k = xs.length - 1 - (k + 1) by omega]
     simp [h1]
    have hdn:xs.drop (xs.length - 1 - k) ≠ []:=by
     intro e
     have:=congrArg List.length e
     simp at this; omega
    simp only [cbH,qmf,if_true]
    rw [hdk,zpo op _ hdn]
    generalize xs.getD (xs.length - 1 - 1 - (k + 1)) z = x
    generalize xs.getD (xs.length - 1 - 1 - k) z = y
    generalize jnC op (xs.drop (xs.length - 1 - k)) = J
    simp -implicitDefEqProofs only[go_sem,zfo x,T.toN]
    refine callG [(28,vI op),(29,.agg ((ofC x).map .t)),(30,.agg [.t (.int .i64 op),.t (.str []),.ow 994 0,.t (.str []),.ow 996 0])]
     [(3,.one (.bx 3 0)),(6,.one (.bx 6 0)),(7,.one (.bx 7 0)),(25,.one (.fn 227 [25]))] []
     [(3,[.t (.int .i64 op)]),(6,[.t (.int .i64 0),.t (.str []),.nl 2,.t (.str []),.nl 5]),(7,[.any,.any,.any,.any,.any]),(25,[.rn (.sl 5 ((xs.map ofC).take (xs.length - 1)))])]
     [(994,⟨true,2,[],0,true⟩),(996,⟨true,5,[ofC y,J],0,true⟩)] [] [] (qea op op x [ofC y,J]) (by simp -implicitDefEqProofs only[go_sem,zfo x]) (by simp -implicitDefEqProofs only[go_sem]) (by simp -implicitDefEqProofs only[go_sem,zfo x]) (by simp -implicitDefEqProofs only[go_sem]) ?_
    simp -implicitDefEqProofs only[go_sem]
    refine zac ?_
    simp -implicitDefEqProofs only[go_sem,zfo x]
  ·rw [hlen]
   cases hm:xs.length - 1 with
   | zero =>
    have hx1:xs = [xs.getD (xs.length - 1) z]:=by
     rw [hlast]
     have:xs.length = 1:=by omega
     match xs,this with
     | [x],_=>rfl
    rw [hm] at hx1
    rw [hx1]
    generalize xs.getD 0 z = x
    show ex _ _ _ _ (cbH op [x] z 0)
    simp only [cbH]
    simp -implicitDefEqProofs only[go_sem,jnC,zfo,Tryz.results111]
   | succ m =>
    have h0:0 < xs.length:=hn
    have hx2:jnC op xs = [.int .i64 op,.str [],.sl 2 [],.str [],.sl 5 [ofC (xs.getD 0 z),jnC op (xs.drop 1)]]:=by
     match xs,hm with
     | x :: r,hm =>
      rw [zpo op x (by intro e; rw [e] at hm; simp at hm)]
      rfl
    rw [hx2]
    simp only [cbH]
    rw [show xs.length - 1 - 1 - m = 0 by omega,show xs.length - 1 - m = 1 by omega]
    generalize xs.getD 0 z = x
    generalize jnC op (xs.drop 1) = J
    simp -implicitDefEqProofs only[go_sem,Tryz.results111]
end
section
set_option maxRecDepth 4000
open Go.RowKit
def zdk (op:Int):List Fm->Fm->Fm
 | [],z=>z
 | [x],_=>x
 | x :: xs,z=>mkF op [x,zdk op xs z]
theorem zho (op:Int) (x:Fm) {xs:List Fm} (h:xs ≠ []) (z:Fm):zdk op (x :: xs) z = mkF op [x,zdk op xs z]:=by
 cases xs with
 | nil=>exact absurd rfl h
 | cons y ys=>rfl
theorem of_fm {w:World} {x:Fm} {vs:List Value} {f:List Nat} (h:za2 w (fmC x) vs f) : ∃ y:OF,(∀ A:Nat->Prop,zaf w A (ofC y) vs) /\ ∀ w':World,(∀ b ∈ f,w'.heap[b]? = w.heap[b]?)->zmr w' (ofC y) (fmC x) f:=by
 rw [zab] at h ⊢
 obtain ⟨v1,_,f1,_,rfl,rfl,h1,h⟩:=h
 obtain ⟨v2,_,f2,_,rfl,rfl,h2,h⟩:=h
 obtain ⟨v3,_,f3,_,rfl,rfl,h3,h⟩:=h
 obtain ⟨v4,_,f4,_,rfl,rfl,h4,h⟩:=h
 obtain ⟨v5,_,f5,_,rfl,rfl,h5,h⟩:=h
 obtain ⟨rfl,rfl⟩:=h
 unfold zaz at h1 h2 h4
 obtain ⟨rfl,n1,n2,rfl⟩:=h1
 obtain ⟨rfl,n3,rfl⟩:=h2
 obtain ⟨rfl,n4,rfl⟩:=h4
 have g3:=h3
 have g5:=h5
 unfold zaz at g3 g5
 obtain ⟨a3,c3,rfl,_⟩:=g3
 obtain ⟨a5,c5,rfl,_⟩:=g5
 refine ⟨⟨x.op,x.atom.name,(a3,(x.atom.args.map tmC).length,c3),x.var,(a5,(x.parts.map fmC).length,c5)⟩,fun A=>?_,fun w' hs=>?_⟩
 ·unfold ofC
  simp only [zaf,zar]
  exact ⟨_,_,rfl,⟨rfl,n1,n2⟩,_,_,rfl,⟨rfl,n3⟩,_,_,rfl,rfl,_,_,rfl,⟨rfl,n4⟩,_,_,rfl,rfl,rfl⟩
 ·unfold ofC
  simp only [zmr,GrT]
  refine ⟨_,_,[],_,rfl,rfl,⟨rfl,rfl⟩,_,_,[],_,rfl,rfl,⟨rfl,rfl⟩,_,_,f3,_,rfl,rfl,zaz.keep _ _ _ h3 fun b hb=>hs b (by simp [hb]),_,_,[],_,rfl,rfl,⟨rfl,rfl⟩,_,_,f5,_,rfl,rfl,zaz.keep _ _ _ h5 fun b hb=>hs b (by simp [hb]),rfl,rfl⟩
theorem ql2 {w:World} {cells:Array Value} {b:Nat} {ty:TypeId} (hc:w.heap[b]? = some (.cells cells ty (0,0))):∀ {xs:List Fm} {o:Nat} {fps:List Nat},zak w cells o 5 (xs.map fmC) fps →
  ∃ ys:List OF,ys.length = xs.length /\ (∀ A:Nat->Prop,zas w A b o 5 (ys.map ofC)) /\ ∀ w':World,(∀ b ∈ fps,w'.heap[b]? = w.heap[b]?)->zcz w' (ys.map ofC) (xs.map fmC) fps
 | [],o,fps,h=>by
  rw [Qy] at h
  unfold zak at h
  subst h
  exact ⟨[],rfl,fun A=>by rw [Qy]; unfold zas; trivial,fun w' _=>by rw [Qy,Qy]; unfold zcz; exact ⟨rfl,rfl⟩⟩
 | x :: xs,o,fps,h=>by
  rw [Qi] at h
  unfold zak at h
  obtain ⟨h1,f1,f2,rfl,h2,h3⟩:=h
  obtain ⟨vs,k1,k2,k3⟩:=h2.vals
  obtain ⟨y,l1,l2⟩:=of_fm k3
  obtain ⟨ys,m1,m2,m3⟩:=ql2 hc h3
  refine ⟨y :: ys,by simp [m1],fun A=>?_,fun w' hs=>?_⟩
  ·rw [Qi]
   unfold zas
   refine ⟨rfl,zbk.mk fun j c hj=>?_,m2 A⟩
   obtain ⟨v,q1,q2⟩:=(l1 A).at j c hj
   exact ⟨v,by simp [World.cell?,hc,k2 j v q1],q2⟩
  ·rw [Qi,Qi]
   unfold zcz
   exact ⟨_,_,f1,f2,rfl,rfl,l2 w' fun b hb=>hs b (by simp [hb]),m3 w' fun b hb=>hs b (by simp [hb])⟩
theorem qei {w:World} (op:Int) (z:Fm):∀ {xs:List Fm} {ys:List OF} {fps:List Nat},xs ≠ []->zcz w (ys.map ofC) (xs.map fmC) fps->zmr w (jnC op ys) (fmC (zdk op xs z)) fps
 | [],_,_,h,_=>absurd rfl h
 | x :: xs,[],_,_,h=>by rw [Qy,Qi] at h; unfold zcz at h; exact absurd h.1 (by simp)
 | x :: xs,y :: ys,fps,_,h=>by
  rw [Qi,Qi] at h
  unfold zcz at h
  obtain ⟨r',rs',e1,e2,h0,rfl,h1,h2⟩:=h
  simp only [J4] at h0
  obtain ⟨rfl,rfl⟩:=h0
  have hlen:=h2.len
  simp only [Qb] at hlen
  by_cases hx:xs = []
  ·subst hx
   have hy:ys = []:=Qx.1 (by simpa using hlen.symm)
   subst hy
   rw [Qy,Qy] at h2
   unfold zcz at h2
   rw [h2.2,Kd]
   exact h1
  ·have hy:ys ≠ []:=fun e=>hx (Qx.1 (by rw [hlen,e]; rfl))
   rw [zpo op y hy,zho op x hx,zcg,Qi,Qi,Qy]
   have h3:=qei op z hx h2
   simp only [zmr,GrT,zcz]
   exact ⟨_,_,[],_,rfl,rfl,⟨rfl,rfl⟩,_,_,[],_,rfl,rfl,⟨rfl,rfl⟩,_,_,[],_,rfl,rfl,⟨[],rfl,rfl,rfl⟩,_,_,[],_,rfl,rfl,⟨rfl,rfl⟩,_,_,e1 ++ e2,[],rfl,by simp,⟨_,rfl,_,_,e1,e2,rfl,rfl,h1,_,_,e2,[],rfl,by simp,h3,rfl,rfl⟩,rfl,rfl⟩
theorem zzm (op:Int) (xs:List Fm) (z:Fm):GC Tryz.prog 111 [(false,iD op),(true,.one (fmS xs)),(true,fmD z)] [fmD (zdk op xs z)]:=by
 refine zu4 Tryz.call111 fun w vs fp tp hv hn=>?_
 obtain ⟨v1,_,rfl,h1,hv⟩:=hv
 obtain ⟨v2,_,f2,_,t2,_,rfl,rfl,rfl,h2,hv⟩:=hv
 obtain ⟨v3,_,f3,_,t3,_,rfl,rfl,rfl,h3,hv⟩:=hv
 obtain ⟨rfl,rfl,rfl⟩:=hv
 obtain ⟨a,rfl,h3⟩:=h3
 have h2:zaz w (fmS xs) v2 f2:=h2.1
 have h3:za2 w (fmC z) a f3:=za2.of_g h3
 obtain ⟨y,k1,k2⟩:=of_fm h3
 have hlt3:∀ b ∈ f3,b < w.heap.size:=za2.lt h3
 have hlt2:∀ b ∈ f2,b < w.heap.size:=zaz.lt _ _ _ h2
 have hi:qa3 w (fun b=>b < w.heap.size) (iD op) v1:=by
  have:zbr w (fun b=>b < w.heap.size) [iD op] [v1]:=zbr.keep (fun _ _=>rfl) (fun b hb=>hb.1) (⟨v1,[],rfl,h1,rfl⟩:zbr w (fun b=>b < w.heap.size /\ b ∉ f2 ++ (f3 ++ [])) [iD op] [v1])
  obtain ⟨_,_,e,h4,_⟩:=this
  cases e; exact h4
 obtain ⟨n1,n2,-⟩:=Q8.1 hn
 rw [Kd] at n2
 have hS : ∃ (ys:List OF) (f:List Nat),ys.length = xs.length /\ f.Nodup /\ (∀ b ∈ f,b ∈ f2) /\ zar w (fun b=>b < w.heap.size) (.sl 5 (ys.map ofC)) v2 /\ ∀ w':World,(∀ b ∈ f,w'.heap[b]? = w.heap[b]?)->zcz w' (ys.map ofC) (xs.map fmC) f:=by
  unfold fmS at h2
  unfold zaz at h2
  obtain ⟨ao,cap,rfl,q1,q2,q3⟩:=h2
  rw [Qb] at q1
  rcases q3 with ⟨rfl,rfl,q3,rfl⟩ | ⟨b,cells,ty,fps,rfl,rfl,q3,q4,q5⟩
  ·have hx:xs = []:=by simpa using q3
   subst hx
   refine ⟨[],[],rfl,Km,fun b hb=>hb,?_,fun _ _=>by rw [Qy,Qy]; unfold zcz; exact ⟨rfl,rfl⟩⟩
   unfold zar
   exact ⟨none,0,rfl,Qw _,by simp,Or.inl rfl⟩
  ·obtain ⟨ys,r1,r2,r3⟩:=ql2 q3 q5
   refine ⟨ys,fps,r1,(Ku.1 n1).2,fun b hb=>by simp [hb],?_,r3⟩
   unfold zar
   exact ⟨_,cap,by rw [Qb,Qb,r1],by rw [Qb,r1]; exact q1,q2,Or.inr ⟨b,0,rfl,hlt2 b (by simp),r2 _⟩⟩
 obtain ⟨ys,f,r1,r4,r5,r2,r3⟩:=hS
 by_cases hx:xs = []
 ·subst hx
  have hy:ys = []:=Qx.1 (by simpa using r1)
  refine ⟨[iD op,.one (.sl 5 (ys.map ofC)),.agg (ofC y)],_,f3,zn5 op ys y,⟨v1,_,rfl,hi,v2,_,rfl,r2,_,_,rfl,⟨a,rfl,k1 _⟩,rfl⟩,n2,fun b hb=>⟨by simp [hb],hlt3 b hb⟩,fun w' hs=>?_⟩
  rw [if_pos hy]
  exact k2 w' hs
 ·have hy:ys ≠ []:=fun e=>hx (Qx.1 (by rw [<-r1,e]; rfl))
  refine ⟨[iD op,.one (.sl 5 (ys.map ofC)),.agg (ofC y)],_,f,zn5 op ys y,⟨v1,_,rfl,hi,v2,_,rfl,r2,_,_,rfl,⟨a,rfl,k1 _⟩,rfl⟩,r4,fun b hb=>⟨by simp [r5 b hb],hlt2 b (r5 b hb)⟩,fun w' hs=>?_⟩
  rw [if_neg hy]
  exact qei op z hx (r3 w' hs)
end
section
set_option maxRecDepth 4000
open Go.RowKit
def jS (op:Int) (xs:List Fm) (J:Fm) (i:Int) (a b:Nat):St:=hd [(0,vT (fmS xs)),(1,.one (.t (.int .i64 op))),(6,.one (.bx 6 0)),(7,.one (.bx 7 0)),(8,.one (.t (.int .i64 i)))]
 [(6,[.t (.int .i64 0),.t (.str []),.nl 2,.t (.str []),.nl 5]),(7,[.t (.int .i64 J.op),.t (.str J.atom.name),.ow a 0,.t (.str J.var),.ow b 0])] [(a,⟨true,2,J.atom.args.map tmC,0,true⟩),(b,⟨true,5,J.parts.map fmC,0,true⟩)]
theorem qoz (op:Int) (xs:List Fm) (J:Fm) (i:Int):Wk (jS op xs J i 642 644) (jS op xs J i 2002 644):=zs3 642 2002 _ _ _
theorem qpk (op:Int) (xs:List Fm) (J:Fm) (i:Int):Wk (jS op xs J i 2002 644) (jS op xs J i 2002 2000):=zs3 644 2000 _ _ _
theorem qo9 (op:Int) (xs:List Fm) (J:Fm) (i:Int):Wk (jS op xs J i 2003 1120) (jS op xs J i 2003 2000):=zs3 1120 2000 _ _ _
theorem qp1 (op:Int) (xs:List Fm) (J:Fm) (i:Int):Wk (jS op xs J i 2003 2000) (jS op xs J i 2002 2000):=zs3 2003 2002 _ _ _
theorem mkF_op (o:Int) (ps:List Fm):(mkF o ps).op = o:=rfl
theorem qiw (o:Int) (ps:List Fm):(mkF o ps).atom.name = []:=rfl
theorem qjs (o:Int) (ps:List Fm):(mkF o ps).atom.args = []:=rfl
theorem qql (o:Int) (ps:List Fm):(mkF o ps).var = []:=rfl
theorem qb0 (o:Int) (ps:List Fm):(mkF o ps).parts = ps:=rfl
theorem zsy (xs:List Fm) (op none:Int) (hs:xs.length <= 1099511627776) (hwt:∀ k (h:k < xs.length),xs[k].wt <= 1048576):FC Tryz.prog 97 [.one (fmS xs),iD op,iD none] [fmD (zdk op xs (mkF none []))]:=by
 by_cases hx:xs = []
 ·subst hx
  show FC _ _ _ [fmD (mkF none [])]
  simp only [fmD,zcg,Qy,fmS]
  refine zaj Tryz.call97 Tryz.func97 rfl (by kernel_rfl) (zax (by kernel_rfl)) ?_
  simp -implicitDefEqProofs only[go_sem,Tryz.results97]
 ·have hn:0 < xs.length:=List.length_pos_iff.2 hx
  have e0:((xs.length:Int) == 0) = false:=by simp; omega
  have e1:IntKind.i64.wrap ((xs.length:Int) - 1) = ((xs.length - 1:Nat):Int):=by rw [zb2 (by omega) (by omega)]; omega
  have e2:IntKind.i64.wrap ((xs.length:Int) - 2) = (xs.length:Int) - 2:=zb2 (by omega) (by omega)
  have hi:xs.length - 1 < xs.length:=by omega
  have hR : ∃ R,zdk op xs (mkF none []) = R:=⟨_,rfl⟩
  obtain ⟨R,hR⟩:=hR
  rw [hR]
  simp only [fmD,zab R]
  have hL:=zab xs[xs.length - 1]
  refine zaj Tryz.call97 Tryz.func97 rfl (by kernel_rfl) (zax (by kernel_rfl)) ?_
  simp -implicitDefEqProofs only[go_sem,Tryz.results97,e0,e1,hi,zad,hL]
  refine callF (zmg xs[xs.length - 1] (hwt _ hi)) (by simp -implicitDefEqProofs only[go_sem,zab xs[xs.length - 1],e2]) ?_
  simp -implicitDefEqProofs only[go_sem,zab xs[xs.length - 1],e2]
  have hd1:zdk op (xs.drop (xs.length - 1)) (mkF none []) = xs[xs.length - 1]:=by
   rw [Qh hi,Qs (by omega)]; rfl
  refine zae (fun k:Nat=>jS op xs (zdk op (xs.drop (xs.length - 1 - k)) (mkF none [])) ((xs.length:Int) - 2 - k) 2002 2000) (fun k=>k <= xs.length - 1) (fun k=>xs.length - 1 - k) 0 (Wk.trans ?_ ((qoz _ _ _ _).trans (qpk _ _ _ _))) (Ka _) ?_
  ·rw [Nat.sub_zero,hd1]
   unfold jS
   refine zac ?_
   simp -implicitDefEqProofs only[go_sem]
   simp
  ·intro k hk
   by_cases hlt:k < xs.length - 1
   ·obtain ⟨m,hm⟩ : ∃ m,xs.length - 2 - k = m:=⟨_,rfl⟩
    have hml:m < xs.length:=by omega
    have hge:((0:Int) <= (m:Int)) = True:=by simp
    have hdk:zdk op (xs.drop (xs.length - 1 - (k + 1))) (mkF none []) = mkF op [xs[m],zdk op (xs.drop (xs.length - 1 - k)) (mkF none [])]:=by
     rw [show xs.length - 1 - (k + 1) = m by omega,Qh hml,show m + 1 = xs.length - 1 - k by omega]
     refine zho op _ ?_ _
     intro e
     have:=congrArg List.length e
     simp at this; omega
    have hwm:=hwt m hml
    have hnx:Wk (jS op xs (zdk op (xs.drop (xs.length - 1 - (k + 1))) (mkF none [])) ((xs.length:Int) - 2 - ((k + 1:Nat):Int)) 2003 1120) (jS op xs (zdk op (xs.drop (xs.length - 1 - (k + 1))) (mkF none [])) ((xs.length:Int) - 2 - ((k + 1:Nat):Int)) 2002 2000):=(qo9 _ _ _ _).trans (qp1 _ _ _ _)
    have e3:IntKind.i64.wrap ((m:Int) - 1) = (xs.length:Int) - 2 - ((k + 1:Nat):Int):=by rw [zb2 (by omega) (by omega)]; omega
    rw [show (xs.length:Int) - 2 - (k:Int) = (m:Int) by omega]
    generalize hJ:zdk op (xs.drop (xs.length - 1 - k)) (mkF none []) = J at hdk ⊢
    generalize hX:xs[m] = x at hdk hwm
    have hxE:=zab x
    unfold jS
    simp -implicitDefEqProofs only[go_sem,hge,zad,hml,hX,hxE]
    refine drawn (by kernel_rfl) ?_
    simp -implicitDefEqProofs only[go_sem,zad,hml,hX,hxE]
    refine zao (zmg x hwm) (by simp -implicitDefEqProofs only[go_sem,hxE]) ?_
    simp -implicitDefEqProofs only[go_sem,hxE]
    refine zbi (by simp -implicitDefEqProofs only[go_sem]) ?_
    simp -implicitDefEqProofs only[go_sem]
    refine ⟨by kernel_rfl,k + 1,by omega,by omega,Wk.trans ?_ hnx⟩
    rw [hdk]
    unfold jS
    refine zac ?_
    simp -implicitDefEqProofs only[go_sem,e3,mkF_op,qiw,qjs,qql,qb0,Qi,Qy,hxE]
    rw [zab J]
   ·have hk2:k = xs.length - 1:=by omega
    subst hk2
    have hlt0:((xs.length:Int) - 2 - ((xs.length - 1:Nat):Int)) = -1:=by omega
    rw [Nat.sub_self,List.drop_zero,hR,hlt0]
    unfold jS
    simp -implicitDefEqProofs only[go_sem]
end
section
set_option maxRecDepth 4000
open Go.RowKit
def mtd:Nat->Nat->Str->Str
 | 0,_,acc=>acc
 | fuel + 1,n,acc=>if n = 0 then acc else mtd fuel (n / 10) (UInt8.ofNat (48 + n % 10) :: acc)
def mtx (k:Nat):Str:=109 :: mtd (k + 1) k []
theorem zpj (fuel n:Nat) (acc:Str) (h:0 < n):mtd (fuel + 1) n acc = mtd fuel (n / 10) (UInt8.ofNat (48 + n % 10) :: acc):=by rw [mtd,if_neg (by omega)]
theorem zyy:∀ (f f' n:Nat) (acc:Str),n < f->n < f'->mtd f n acc = mtd f' n acc
 | 0,_,n,_,h,_=>absurd h (by omega)
 | _ + 1,0,n,_,_,h=>absurd h (by omega)
 | f + 1,f' + 1,n,acc,h,h'=>by
  by_cases h0:n = 0
  ·simp [mtd,h0]
  ·rw [zpj _ _ _ (by omega),zpj _ _ _ (by omega)]
   exact zyy f f' _ _ (by omega) (by omega)
theorem qov {n:Nat} (h:n < 256):IntKind.u8.wrap (n:Int) = n:=by
 have e:IntKind.u8.wrap (n:Int) = (n:Int) % 256:=rfl
 rw [e]; omega
theorem zcl (k:Nat) (hk0:0 < k) (hk:k <= 4611686018427387904):FC Tryz.prog 118 [iD k] [sD (mtx k)]:=by
 have h0:((k:Int) <= 0) = False:=by simp; omega
 refine zaj Tryz.call118 Tryz.func118 rfl (by kernel_rfl) (zax (by kernel_rfl)) ?_
 simp -implicitDefEqProofs only[go_sem,Tryz.results118,h0]
 refine zae (fun (x:Nat × Str)=>hd [(0,vI x.1),(3,vT (.str x.2))] [] []) (fun x=>mtx k = 109 :: mtd (x.1 + 1) x.1 x.2 /\ x.1 * 10 ^ x.2.length <= k /\ x.2.length <= 19) (fun x=>x.1) (k,[]) (zac ?_) ?_ ?_
 ·simp -implicitDefEqProofs only[go_sem]
 ·exact ⟨rfl,by simp,by simp⟩
 ·intro ⟨n,s⟩ ⟨h1,h2,hl⟩
  have hl:s.length <= 19:=hl
  have hn:n <= k:=Kg (Nat.le_mul_of_pos_right _ (Nat.pow_pos (by omega))) h2
  have hs:s.length <= 18 \/ n = 0:=by
   by_cases h:n = 0
   ·exact Or.inr h
   ·left
    refine Nat.le_of_not_lt fun hl=>?_
    have:10 ^ 19 <= 10 ^ s.length:=Nat.pow_le_pow_right (by omega) (by omega)
    have:1 * 10 ^ s.length <= n * 10 ^ s.length:=K1 _ (by omega)
    have h2:n * 10 ^ s.length <= k:=h2
    omega
  by_cases hp:0 < n
  ·have hp':((n:Int) > 0) = True:=by simp; omega
   have e1:(n:Int).tmod 10 = ((n % 10:Nat):Int):=by rw [Int.tmod_eq_emod_of_nonneg (by omega)]; omega
   have e2:(n:Int).tdiv 10 = ((n / 10:Nat):Int):=by rw [Int.tdiv_eq_ediv_of_nonneg (by omega)]; omega
   have e3:IntKind.i64.wrap (48 + ((n % 10:Nat):Int)) = ((48 + n % 10:Nat):Int):=by rw [zb2 (by omega) (by omega)]; omega
   have e4:IntKind.u8.wrap ((48 + n % 10:Nat):Int) = ((48 + n % 10:Nat):Int):=qov (by omega)
   have e5:IntKind.i64.wrap ((n / 10:Nat):Int) = ((n / 10:Nat):Int):=zb2 (by omega) (by omega)
   simp -implicitDefEqProofs only[go_sem,hp',e1,e2,e3,e4,e5]
   refine ⟨by omega,?_⟩
   refine zbx (by simp -implicitDefEqProofs only[go_sem]) ?_
   simp -implicitDefEqProofs only[go_sem]
   have hs':s.length <= 18:=by omega
   refine ⟨by omega,by omega,(n / 10,UInt8.ofNat (48 + n % 10) :: s),⟨?_,?_,show s.length + 1 <= 19 by omega⟩,by omega,zac (by simp -implicitDefEqProofs only[go_sem,e2,e5])⟩
   ·rw [h1]
    show (109 :: mtd (n + 1) n s:Str) = 109 :: mtd (n / 10 + 1) (n / 10) (UInt8.ofNat (48 + n % 10) :: s)
    rw [zpj _ _ _ hp,zyy n (n / 10 + 1) _ _ (by omega) (by omega)]
   ·show n / 10 * 10 ^ (s.length + 1) <= k
    rw [Nat.pow_succ,Nat.mul_comm _ 10,<-Nat.mul_assoc]
    exact Kg (K1 _ (by omega)) h2
  ·have h0':n = 0:=by omega
   subst h0'
   simp -implicitDefEqProofs only[go_sem]
   refine ⟨by omega,?_⟩
   rw [h1]; simp [mtd]
end
end Go.Proofs.YtliiapbmkcbfaaaGreat
