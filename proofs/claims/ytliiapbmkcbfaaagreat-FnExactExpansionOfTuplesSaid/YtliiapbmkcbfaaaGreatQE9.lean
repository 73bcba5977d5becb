/-
  The walk over plain data, and contracts of functions of the program and of its laws.
  Conditions: those that each theorem names.
-/
import Derived.Test.YtliiapbmkcbfaaaGreatQE6
import Derived.Test.YtliiapbmkcbfaaaGreatQE8
import Derived.Test.YtliiapbmkcbfaaaGreatQE7
import Derived.Test.YtliiapbmkcbfaaaGreatQE5
import Derived.MapKept
import Derived.Lib.Walk
import Derived.Lib.SliceRun
import Derived.Lib.AppendZeros
namespace Go.Proofs.YtliiapbmkcbfaaaGreat
set_option linter.unusedSimpArgs false
set_option linter.unusedVariables false
set_option linter.unusedSectionVars false
section
set_option maxRecDepth 4000
open Go.RowKit
theorem znb (xs:List Str) (p:Str->Bool) (g:FuncId) (caps:List T) (H:∀ x ∈ xs,FC Tryz.prog g (sD x :: caps.map .one) [bD (p x)]):FC Tryz.prog 156 [.one (zca xs),.one (.fn g caps)] [iD (zxz xs p)]:=by
 refine zdi (fun hw=>?_) Tryz.call156
 have hl:xs.length <= 9223372036854775807:=by simpa [zgg,wfT] using hw.1.1
 refine zaj Tryz.call156 Tryz.func156 rfl (by kernel_rfl) (zax (by kernel_rfl)) ?_
 simp -implicitDefEqProofs only[go_sem,Tryz.results156]
 refine zae (fun k:Nat=>hd [(0,vT (zca xs)),(1,vT (.fn g caps)),(7,vI xs.length),(8,vI k)] [] []) (fun k=>k <= xs.length /\ ∀ x ∈ xs.take k,p x = false) (fun k=>xs.length - k) 0 (zac ?_) ?_ ?_
 ·simp -implicitDefEqProofs only[go_sem]
 ·simp
 ·intro k ⟨hk,hr⟩
  by_cases hlt:k < xs.length
  ·simp -implicitDefEqProofs only[go_sem,zad,hlt,ne_eq]
   refine callF (H xs[k] (Qe hlt)) (by simp -implicitDefEqProofs only[go_sem,ne_eq]) ?_
   simp -implicitDefEqProofs only[go_sem,ne_eq]
   refine ⟨fun h=>?_,fun h=>⟨k + 1,⟨hlt,zef hlt hr h⟩,by omega,zac (by simp -implicitDefEqProofs only[go_sem]; rw [zal (by omega)])⟩⟩
   rw [zhh hlt hr h]
  ·simp -implicitDefEqProofs only[go_sem,hlt]
   rw [Qk (by omega)] at hr
   rw [zif hr]
theorem zj9 (xs:List Str) (p:Str->Bool) (g:FuncId) (caps:List T) (H:∀ x ∈ xs,FC Tryz.prog g (sD x :: caps.map .one) [bD (p x)]):FC Tryz.prog 82 [.one (zca xs),.one (.fn g caps)] [bD (xs.any p)]:=by
 refine zaj Tryz.call82 Tryz.func82 rfl (by kernel_rfl) (zax (by kernel_rfl)) ?_
 simp -implicitDefEqProofs only[go_sem,Tryz.results82]
 refine callF (znb xs p g caps H) (by simp -implicitDefEqProofs only[go_sem]) ?_
 simp -implicitDefEqProofs only[go_sem]
 rw [zhp]
end
section
set_option maxRecDepth 4000
open Go.RowKit
noncomputable def qa7 (e:Ex) (pos:Bool):Bool:=decide (e.nodes <= 60) && e.form.good && (zb7 e pos []).1 && !((zb7 e pos []).2.any fun n=>(zba [] (vf e.form [])).contains n)
theorem zpq (V:List Str) (s:Str):FC Tryz.prog 83 [sD s,.one (.ptr [zca V])] [bD (V.contains s)]:=by
 have H:=zcf V s
 refine zaj Tryz.call83 Tryz.func83 rfl (by kernel_rfl) (zax (by kernel_rfl)) ?_
 simp -implicitDefEqProofs only[go_sem,Tryz.results83]
 refine callF (H) (by simp -implicitDefEqProofs only[go_sem]) ?_
 simp -implicitDefEqProofs only[go_sem]
theorem zin (e:Ex) (he:e.wt <= 1048576) (pos:Bool):FC Tryz.prog 30 [exD e,bD pos] [bD (qa7 e pos)]:=by
 have hv:qa7 e pos = (decide (e.nodes <= 60) && e.form.good && (zb7 e pos []).1 && !((zb7 e pos []).2.any fun n=>(zba [] (vf e.form [])).contains n)):=rfl
 have HN:=zsb e (by omega)
 have hs:=zwu e
 have hfw:=zo6 e
 have HG:=zb6 e.form (by omega)
 simp only [exD,zap,fmD,zab] at HN HG ⊢
 cases hn:decide (e.nodes <= 60)
 ·have hs2:decide (60 < zfk e) = true:=by rw [hn] at hs; rw [Qg]; rw [Ko] at hs; omega
  rw [hn,Qj,Qj,Qj] at hv
  rw [hv]
  refine zcq Tryz.call30 Tryz.func30 rfl (by kernel_rfl) (zax (by kernel_rfl)) ?_
  simp -implicitDefEqProofs only[go_sem,Tryz.results30]
  refine callF (HN) (by simp -implicitDefEqProofs only[go_sem,hs2]) ?_
  simp -implicitDefEqProofs only[go_sem,hs2]
 ·have hs2:decide (60 < zfk e) = false:=by rw [hn] at hs; rw [Ko]; rw [Qg] at hs; omega
  cases hg:e.form.good
  ·rw [hn,hg,Qn,Qj,Qj] at hv
   rw [hv]
   rw [hg] at HG
   refine zcq Tryz.call30 Tryz.func30 rfl (by kernel_rfl) (zax (by kernel_rfl)) ?_
   simp -implicitDefEqProofs only[go_sem,Tryz.results30]
   refine callF (HN) (by simp -implicitDefEqProofs only[go_sem,hs2]) ?_
   simp -implicitDefEqProofs only[go_sem,hs2]
   refine callF (HG) (by simp -implicitDefEqProofs only[go_sem]) ?_
   simp -implicitDefEqProofs only[go_sem]
  ·rw [hn,hg,Qn,Qn] at hv
   rw [hg] at HG
   have HF:=qbq e.form (zbw hg) (by omega)
   have hen:=zg8 e
   have HI:=node_c e he (zbw hg) pos [] (by simp only [Qv]; omega)
   unfold zvw at HI
   generalize (zb7 e pos []).1 = b at hv HI
   generalize (zb7 e pos []).2 = E at hv HI
   generalize zba [] (vf e.form []) = V at hv HF
   have HA:=zj9 E (fun s=>V.contains s) 83 [.ptr [zca V]] fun s _=>zpq V s
   simp only [exD,zap,fmD,zab,Qy] at HI HF
   refine zcq Tryz.call30 Tryz.func30 rfl (by kernel_rfl) (zax (by kernel_rfl)) ?_
   simp -implicitDefEqProofs only[go_sem,Tryz.results30]
   refine callF (HN) (by simp -implicitDefEqProofs only[go_sem,hs2]) ?_
   simp -implicitDefEqProofs only[go_sem,hs2]
   refine callF (HG) (by simp -implicitDefEqProofs only[go_sem]) ?_
   simp -implicitDefEqProofs only[go_sem]
   refine zjf (HF) (by simp -implicitDefEqProofs only[go_sem]) ?_
   simp -implicitDefEqProofs only[go_sem]
   refine callPL [4,5,6] [21,22,23] [17] [] (HI) (by decide) rfl (by simp -implicitDefEqProofs only[go_sem]) (by simp -implicitDefEqProofs only[go_sem]) (by simp -implicitDefEqProofs only[go_sem]) (by simp -implicitDefEqProofs only[go_sem]) ?_
   simp -implicitDefEqProofs only[go_sem]
   refine ⟨fun hb=>?_,fun hb=>Or.inl (by rw [hv,hb]; rfl)⟩
   refine callF (HA) (by simp -implicitDefEqProofs only[go_sem]) ?_
   simp -implicitDefEqProofs only[go_sem]
   exact Or.inl (by rw [hv,hb]; rfl)
end
section
set_option maxRecDepth 4000
open Go.RowKit
theorem ztf (n:Str) (t:Tm):∀ f:Fm,f.forms = true->(za5 n t f).2 = true->(za5 n t f).1.nodes = f.nodes:=za8 fun o a v ps ih hf h=>by
 have hP:=zic n t (.mk o a v ps)
 have hf0:=hf
 rw [Fm.forms_eq,Qa] at hf0
 obtain ⟨hh,hps⟩:=hf0
 have hps:∀ x ∈ ps,x.forms = true:=Ql.1 hps
 cases h3:o == 3
 ·rw [hP] at h ⊢
  change (if (o == 3) = true then _ else if (isQ o && _) = true then _ else if (isQ o && _) = true then _ else (Fm.mk o (.mk [] []) v ((ps.takeWhile fun x=>(za5 n t x).2).map fun x=>(za5 n t x).1),ps.all fun x=>(za5 n t x).2):Fm × Bool).2 = true at h
  change (if (o == 3) = true then _ else if (isQ o && _) = true then _ else if (isQ o && _) = true then _ else (Fm.mk o (.mk [] []) v ((ps.takeWhile fun x=>(za5 n t x).2).map fun x=>(za5 n t x).1),ps.all fun x=>(za5 n t x).2):Fm × Bool).1.nodes = _
  rw [h3,if_neg (by simp)] at h ⊢
  split
  ·rfl
  ·rename_i h1
   rw [if_neg h1] at h
   split
   ·rename_i h2
    rw [if_pos h2] at h; cases h
   ·rename_i h2
    rw [if_neg h2] at h
    have h1:(ps.all fun x=>(za5 n t x).2) = true:=h
    have hA:=Ql.1 h1
    have hw:(ps.takeWhile fun x=>(za5 n t x).2) = ps:=by
     have:=(zc1 (l:=ps) (p:=fun x=>(za5 n t x).2) (k:=ps.length) (Qw _) (by rw [Kz]; exact hA) fun h=>absurd h (Yc _)).1
     rw [this,Kz]
    rw [hw]
    show (Fm.mk o (.mk [] []) v (ps.map fun x=>(za5 n t x).1)).nodes = _
    rw [Fm.nodes_eq,Fm.nodes_eq]
    show 1 + ((ps.map fun x=>(za5 n t x).1).map Fm.nodes).sum = 1 + (ps.map Fm.nodes).sum
    rw [Ke]
    show 1 + (ps.map fun x=>(za5 n t x).1.nodes).sum = _
    rw [Q6 (g:=Fm.nodes) fun x hx=>ih x hx (hps x hx) (hA x hx)]
 ·have ho3:o = 3:=by simpa using h3
  obtain ⟨_,hp⟩:=zgx (f:=.mk o a v ps) hh ho3
  have hp:ps = []:=hp
  rw [hP]
  change (if (o == 3) = true then (Fm.mk o (zb9 (bnd n t) a) v [],(zb9 (bnd n t) a).atomOk) else _:Fm × Bool).1.nodes = _
  rw [h3,if_pos rfl,hp,Fm.nodes_eq,Fm.nodes_eq]
  rfl
theorem zsq {α:Type} (a b:α):same a b = same b a:=by
 rw [Kk,zbc,zbc]; exact eq_comm
theorem sb_put (n:Str) (t:Tm) (q:Fm) (hq:q.good = true) (hn:zay n = true) (ht:t.good = true) (g:Fm):((sbF n t q).2 && same (sbF n t q).1 g) = ((za5 n t q).2 && same g (za5 n t q).1):=by
 have htn:t.names = true:=((Qa _ _).mp ht).2
 have hqf:=zbw hq
 have h1:=qj5 n t hn htn q hqf
 have h2:=zui n t hn htn q hqf
 unfold sbF
 rw [hq,hn,ht]
 simp only [Bool.and_self,Qn]
 rw [h1]
 cases hp:(za5 n t q).2
 ·simp only [Qj,Qo,if_false]
 ·have hpf:=zix n t q hqf hp
  have hpg:(za5 n t q).1.good = true:=by
   unfold Fm.good at hq ⊢
   rw [Qa,Qg] at hq ⊢
   rw [ztf n t q hqf hp]
   exact ⟨hq.1,hpf⟩
  rw [hpg]
  simp only [Bool.and_self,if_true,Qn]
  rw [h2.2 hp hpf,zsq]
theorem ztw {f q:Fm} (h:f.good = true) (hm:q ∈ f.parts):q.good = true:=by
 unfold Fm.good at h ⊢
 rw [Qa,Qg] at h ⊢
 have hp:=zdb hm
 have:=h.2
 rw [Fm.forms_eq,Qa] at this
 exact ⟨by omega,Ql.1 this.2 q hm⟩
theorem zsg:∀ (L:List (Bool × (List Str->Bool × List Str))) (S:List (Bool × List Str)) (hl:L.length = S.length) (E:List Str),E.Nodup->(∀ i (h:i < L.length),L[i].1 = true->∀ E:List Str,E.Nodup->((L[i].2 E).1 = true ↔ (S[i]'(by omega)).1 = true /\ (E ++ (S[i]'(by omega)).2).Nodup) /\ ((L[i].2 E).1 = true->(L[i].2 E).2 = E ++ (S[i]'(by omega)).2)) →
  ((zh7 L E).1 = true ↔ (∀ i (h:i < L.length),L[i].1 = true /\ (S[i]'(by omega)).1 = true) /\ (E ++ (S.map Prod.snd).flatten).Nodup) /\ ((zh7 L E).1 = true->(zh7 L E).2 = E ++ (S.map Prod.snd).flatten)
 | [],[],_,E,hE,_=>⟨⟨fun _=>⟨fun i h=>by simp at h,by simpa using hE⟩,fun _=>rfl⟩,fun _=>by simp [zh7]⟩
 | [],_ :: _,hl,_,_,_=>by simp at hl
 | _ :: _,[],hl,_,_,_=>by simp at hl
 | (c,g) :: L,(s,N) :: S,hl,E,hE,h=>by
  have hl':L.length = S.length:=by simpa using hl
  cases hc:c
  ·have:zh7 ((false,g) :: L) E = (false,E):=rfl
   rw [this]
   refine ⟨⟨fun h=>(by cases h),fun h=>?_⟩,fun h=>(by cases h)⟩
   have:=(h.1 0 (by simp)).1
   cases this
  ·subst hc
   obtain ⟨k1,k2⟩:=h 0 (by simp) rfl E hE
   have k1:(g E).1 = true ↔ s = true /\ (E ++ N).Nodup:=k1
   have k2:(g E).1 = true->(g E).2 = E ++ N:=k2
   cases hg:(g E).1
   ·have e0:zh7 ((true,g) :: L) E = (false,(g E).2):=by unfold zh7; rw [if_pos rfl,hg,if_neg (by simp)]
    rw [e0]
    rw [hg] at k1
    refine ⟨⟨fun h=>(by cases h),fun h=>?_⟩,fun h=>(by cases h)⟩
    have h1:=(h.1 0 (by simp)).2
    have h2:(E ++ N).Nodup:=by
     have:=h.2
     rw [Qi,Q9,<-Kh] at this
     exact (Q8.1 this).1
    exact (by have:=k1.2 ⟨h1,h2⟩; cases this)
   ·have e0:zh7 ((true,g) :: L) E = zh7 L (g E).2:=by unfold zh7; rw [if_pos rfl,hg,if_pos rfl]; cases L <;> rfl
    rw [e0,k2 hg]
    obtain ⟨s1,n1⟩:=k1.1 hg
    obtain ⟨r1,r2⟩:=zsg L S hl' (E ++ N) n1 fun i hi hci E hE=>by
     have:=h (i + 1) (by simpa using hi) (by simpa using hci) E hE
     simpa using this
    rw [Qi,Q9,<-Kh]
    refine ⟨r1.trans ⟨fun ⟨a,b⟩=>⟨fun i hi=>?_,b⟩,fun ⟨a,b⟩=>⟨fun i hi=>?_,b⟩⟩,r2⟩
    ·cases i with
     | zero=>exact ⟨rfl,s1⟩
     | succ i=>exact a i (by simpa using hi)
    ·exact a (i + 1) (by simpa using hi)
end
section
set_option maxRecDepth 4000
open Go.RowKit
theorem qb3 {ps:List Ex} (t:Nat->Ex->Bool) (s:Nat->Ex->Bool):(ps.mapIdx fun i p=>(t i p && s i p)).all id = true ↔ ∀ i (h:i < ps.length),t i ps[i] = true /\ s i ps[i] = true:=by
 rw [Ql]
 constructor
 ·intro h i hi
  have:=h _ (Qe (l:=ps.mapIdx fun i p=>(t i p && s i p)) (n:=i) (by simpa using hi))
  simpa only [Kp,id,Qa] using this
 ·intro h x hx
  obtain ⟨i,hi,rfl⟩:=Jl hx
  have hi':i < ps.length:=by simpa using hi
  simp only [Kp,id,Qa]
  exact h i hi'
theorem zoa (ps:List Ex) (t:Nat->Ex->Bool) (sg:Nat->Bool) (ih:∀ i (h:i < ps.length),t i ps[i] = true->∀ E:List Str,E.Nodup->((zb7 ps[i] (sg i) E).1 = true ↔ zct ps[i] (sg i) = true /\ (E ++ zbn ps[i] (sg i)).Nodup) /\ ((zb7 ps[i] (sg i) E).1 = true->(zb7 ps[i] (sg i) E).2 = E ++ zbn ps[i] (sg i))) (E:List Str) (hE:E.Nodup) :
  ((zh7 (ps.mapIdx fun i p=>(t i p,zb7 p (sg i))) E).1 = true ↔ (ps.mapIdx fun i p=>(t i p && zct p (sg i))).all id = true /\ (E ++ (ps.mapIdx fun i p=>zbn p (sg i)).flatten).Nodup) /\ ((zh7 (ps.mapIdx fun i p=>(t i p,zb7 p (sg i))) E).1 = true->(zh7 (ps.mapIdx fun i p=>(t i p,zb7 p (sg i))) E).2 = E ++ (ps.mapIdx fun i p=>zbn p (sg i)).flatten):=by
 have h:=zsg (ps.mapIdx fun i p=>(t i p,zb7 p (sg i))) (ps.mapIdx fun i p=>(zct p (sg i),zbn p (sg i))) (by simp) E hE fun i hi hc E hE=>by
  have hi':i < ps.length:=by simpa using hi
  simp only [Kp] at hc ⊢
  exact ih i hi' hc E hE
 have em:(ps.mapIdx fun i p=>(zct p (sg i),zbn p (sg i))).map Prod.snd = ps.mapIdx fun i p=>zbn p (sg i):=by
  refine List.ext_getElem? fun i=>?_
  simp only [List.getElem?_map,List.getElem?_mapIdx,Option.map_map,K5]
 rw [em] at h
 refine ⟨h.1.trans (and_congr_left fun _=>?_),h.2⟩
 rw [qb3]
 constructor
 ·intro a i hi
  have:=a i (by simpa using hi)
  simpa only [Kp] using this
 ·intro a i hi
  have:=a i (by simpa using hi)
  simpa only [Kp] using this
theorem qgp:∀ e:Ex,e.form.good = true->∀ pos (E:List Str),E.Nodup->((zb7 e pos E).1 = true ↔ zct e pos = true /\ (E ++ zbn e pos).Nodup) /\ ((zb7 e pos E).1 = true->(zb7 e pos E).2 = E ++ zbn e pos):=zd8 fun f ts ps ih hg pos E hE=>by
 rw [zpp,zqp,zm2]
 have hg:f.good = true:=hg
 have eF:(Ex.mk f ts ps).form = f:=rfl
 have eT:(Ex.mk f ts ps).terms = ts:=rfl
 have eP:(Ex.mk f ts ps).parts = ps:=rfl
 simp only [eF,eT,eP]
 cases hq:isQ f.op
 ·have hst:zcs f pos = false:=by unfold zcs; rw [hq]; rfl
  rw [hst]
  simp only [Qo,if_false,Kl]
  by_cases hc:ts.length = 0 /\ ps.length = f.parts.length
  ·rw [if_pos hc]
   have h:=zoa ps (qbf f) (fun i=>sgn f i pos) (fun i hi ht E hE=>ih ps[i] (Qe hi) (by
    have hif:i < f.parts.length:=by omega
    unfold qbf at ht
    rw [zdr hif] at ht
    rw [<-zbc.1 ht]
    exact ztw hg (Qe hif)) _ E hE) E hE
   rw [show decide (ts.length = 0) = true by simp [hc.1],show decide (ps.length = f.parts.length) = true by simp [hc.2],Qn,Qn]
   have e1:(fun (i:Nat) (p:Ex)=>(same p.form (f.parts.getD i (mkF 0 [])) && zct p (sgn f i pos))) = fun i p=>(qbf f i p && zct p (sgn f i pos)):=by
    funext i p; unfold qbf; rw [zsq]
   rw [e1]
   exact h
  ·rw [if_neg hc]
   refine ⟨⟨fun h=>(by cases h),fun h=>?_⟩,fun h=>(by cases h)⟩
   have h:=h.1
   simp only [Qa,Qg] at h
   exact absurd h.1 hc
 ·obtain ⟨q,hp,hqf⟩:=zlh hq (zbw hg)
  have hqg:q.good = true:=ztw hg (by rw [hp]; simp)
  have hvar:zay f.var = true:=by
   have:=zbw hg
   rw [Fm.forms_eq,Qa] at this
   exact zmo this.1 hq
  have esg:(fun (i:Nat) (p:Ex)=>zbn p (sgn f i pos)) = fun i p=>zbn p pos:=by funext i p; rw [sgn_q hq]
  have hse:zcs f pos = ((f.op == 8) == pos):=by unfold zcs; rw [hq,Qn]
  simp only [if_true]
  rw [esg]
  have core:TOk ts->ts.length = ps.length->∀ E1:List Str,E1.Nodup->((zh7 (ps.mapIdx fun i p=>(zwo f ts i p,zb7 p pos)) E1).1 = true ↔ (ps.mapIdx fun i p=>(zq8 f ts i p && zct p pos)).all id = true /\ (E1 ++ (ps.mapIdx fun i p=>zbn p pos).flatten).Nodup) /\ ((zh7 (ps.mapIdx fun i p=>(zwo f ts i p,zb7 p pos)) E1).1 = true->(zh7 (ps.mapIdx fun i p=>(zwo f ts i p,zb7 p pos)) E1).2 = E1 ++ (ps.mapIdx fun i p=>zbn p pos).flatten):=fun hT hl E1 hE1=>by
   have et:∀ i (h:i < ps.length),zwo f ts i ps[i] = zq8 f ts i ps[i]:=fun i hi=>by
    have hit:i < ts.length:=by omega
    obtain ⟨g1,g2⟩:=hT i hit
    have hpq:f.parts.getD 0 (mkF 0 []) = q:=by
     have hp:f.parts = [q]:=hp
     rw [hp]; rfl
    unfold zwo zq8
    rw [zdr hit,hpq,sb_put f.var ts[i] q hqg hvar g1,g1,g2]
    simp only [Jo,Bool.and_self,Qn]
   have em:(ps.mapIdx fun i p=>(zwo f ts i p,zb7 p pos)) = ps.mapIdx fun i p=>(zq8 f ts i p,zb7 p pos):=by
    refine List.ext_getElem (by simp) fun i h1 h2=>?_
    simp only [Kp]
    rw [et i (by simpa using h1)]
   rw [em]
   refine zoa ps (zq8 f ts) (fun _=>pos) (fun i hi ht E hE=>ih ps[i] (Qe hi) ?_ _ E hE) E1 hE1
   have hit:i < ts.length:=by omega
   have hpq:f.parts.getD 0 (mkF 0 []) = q:=by
    have hp:f.parts = [q]:=hp
    rw [hp]; rfl
   unfold zq8 at ht
   rw [zdr hit,hpq] at ht
   simp only [Qa] at ht
   rw [zbc.1 ht.2]
   unfold Fm.good at hqg ⊢
   rw [Qa,Qg] at hqg ⊢
   rw [ztf _ _ q hqf ht.1.2]
   exact ⟨hqg.1,zix _ _ q hqf ht.1.2⟩
  have hTS:ts.length = ps.length->(ps.mapIdx fun i p=>(zq8 f ts i p && zct p pos)).all id = true->TOk ts:=fun hl h k hk=>by
   have h:=(qb3 (zq8 f ts) (fun _ p=>zct p pos)).1 h k (by omega)
   have h:=h.1
   unfold zq8 at h
   rw [zdr hk] at h
   simp only [Qa,J8] at h
   exact ⟨h.1.1.1,h.1.1.2⟩
  unfold zcd
  simp only [eF,eT,eP]
  cases hd:dec (TOk ts)
  ·rw [if_neg (by simp)]
   simp only [Qo,if_false,false_iff,false_implies,and_true]
   rintro ⟨h1,_⟩
   simp only [Qa,Qg] at h1
   exact zy5.1 hd (hTS h1.1.1 h1.2)
  ·have hT:TOk ts:=zjt.1 hd
   rw [if_pos rfl,<-hse]
   cases hst:zcs f pos
   ·simp only [Qo,if_false,Jo,Bool.true_or,Yb,Kl]
    by_cases hl:ps.length = ts.length
    ·have hl':ts.length = ps.length:=hl.symm
     rw [show decide (ps.length = ts.length) = true by simp [hl],show decide (ts.length = ps.length) = true by simp [hl'],if_pos rfl,Qn]
     exact core hT hl' E hE
    ·rw [show decide (ps.length = ts.length) = false by simp [hl],show decide (ts.length = ps.length) = false by simp; omega]
     simp
   ·simp only [if_true,J1,Jc]
    have hbad:ts.length ≠ 1->∀ X:Prop,¬ ((decide (ts.length = ps.length) && (decide (ts.length = 1) && zay (ts.getD 0 Tm.zero).name) && (ps.mapIdx fun i p=>(zq8 f ts i p && zct p pos)).all id) = true /\ X):=fun h X hh=>by
     have:=hh.1
     simp only [Qa,Qg] at this
     exact h this.1.2.1
    match ts,hT,core,hbad with
    | [],_,_,hbad=>exact ⟨⟨fun h=>(by cases h),fun h=>absurd h (hbad (by simp) _)⟩,fun h=>(by cases h)⟩
    | _ :: _ :: _,_,_,hbad=>exact ⟨⟨fun h=>(by cases h),fun h=>absurd h (hbad (by simp) _)⟩,fun h=>(by cases h)⟩
    | [t],hT,core,_ =>
     have e0:([t].getD 0 Tm.zero) = t:=rfl
     simp only [e0,Js,decide_true,Qn]
     cases hv:zay t.name
     ·simp only [Qj,Qo,if_false,Kb,false_and,iff_false,J6,false_implies,and_self]
     ·cases hcn:E.contains t.name
      ·have hn:t.name ∉ E:=fun hm=>by rw [Kn.2 hm] at hcn; cases hcn
       have hE1:(E ++ [t.name]).Nodup:=by
        rw [Q8]
        refine ⟨hE,by simp,?_⟩
        rintro a ha b hb rfl
        rw [Q5] at hb
        subst hb; exact hn ha
       by_cases hl:ps.length = 1
       ·simp only [Qn,Jo,if_true,hl,decide_true,Yb]
        have:=core hT hl.symm (E ++ [t.name]) hE1
        rw [Kh] at this
        exact this
       ·have hl2:¬ 1 = ps.length:=fun h=>hl h.symm
        simp only [Qn,Jo,if_true,hl,hl2,decide_false,Qo,if_false,Qj,false_and,iff_false,J6,false_implies,and_self]
      ·simp only [J1,Kb,Qo,if_false,false_iff,false_implies,and_true]
       rintro ⟨_,h⟩
       have hm:t.name ∈ E:=Kn.1 hcn
       have:=(Q8.1 h).2.2 _ hm t.name (by simp)
       exact this rfl
theorem qih (e:Ex) (pos:Bool):qa7 e pos = zhy e pos:=by
 unfold qa7 zhy
 cases hg:e.form.good
 ·simp
 ·obtain ⟨h1,h2⟩:=qgp e hg pos [] Km
  rw [Kl] at h1 h2
  cases hn:decide (e.nodes <= 60)
  ·simp
  ·simp only [Qn]
   rw [Kk,Qa,Qa,h1,zjt]
   constructor
   ·rintro ⟨⟨a,b⟩,c⟩
    refine ⟨a,b,fun n hn hm=>?_⟩
    rw [h2 (h1.2 ⟨a,b⟩),J8,List.any_eq_false] at c
    exact c n hn (Kn.2 hm)
   ·rintro ⟨a,b,c⟩
    refine ⟨⟨a,b⟩,?_⟩
    rw [h2 (h1.2 ⟨a,b⟩),J8,List.any_eq_false]
    exact fun n hn hm=>c n hn (Kn.1 hm)
end
section
set_option maxRecDepth 4000
open Go.RowKit
theorem qdk {α:Type} {l:List α} (h:l.Nodup) {i j:Nat} (hi:i < l.length) (hj:j < l.length) (e:l[i] = l[j]):i = j:=by
 rw [List.nodup_iff_pairwise_ne,List.pairwise_iff_getElem] at h
 rcases Nat.lt_trichotomy i j with h1 | h1 | h1
 ·exact absurd e (h i j hi hj h1)
 ·exact h1
 ·exact absurd e.symm (h j i hj hi h1)
theorem zq2 {f:Fm} (h:f.here = true) (hq:isQ f.op = false):f.var = []:=by
 unfold Fm.here at h
 rw [hq] at h
 simp only [Qo,if_false] at h
 (repeat' split at h) <;> first | (simp only [Qa,Ki] at h; exact h.2) | cases h
end
section
set_option maxRecDepth 4000
open Go.RowKit
theorem zwt {f:Fm} (h:f.good = true):f.forms = true:=(Qa _ _ ▸ h:_ /\ _).2
theorem qi8 (xs:List Str):(zex xs).Pairwise (· <= ·):=by
 have tr:∀ a b c:List UInt8,leB a b = true->leB b c = true->leB a c = true:=fun a b c h1 h2=>by simp only [leB,Qg] at *; exact List.le_trans h1 h2
 have to:∀ a b:List UInt8,(leB a b || leB b a) = true:=fun a b=>by simp only [leB,Ji,Qg]; exact List.le_total a b
 refine (List.pairwise_mergeSort tr to xs).imp ?_
 intro a b h1
 simpa only [leB,Qg] using h1
theorem zgw (ns:List Str):(zex ns).length = ns.length:=(Yd ns leB).length_eq
theorem zu0 (ns:List Str):((Lib.compact (zex ns)).length == ns.length) = decide ns.Nodup:=by
 have hp:(zex ns).Nodup ↔ ns.Nodup:=(Yd ns leB).nodup_iff
 rw [Kk,Ki,Qg,<-hp,<-zgw ns]
 have hs:(zex ns).Pairwise (· <= ·):=qi8 ns
 generalize zex ns = zs at hs ⊢
 unfold Lib.compact Lib.compactUpTo
 rw [Qb]
 have hr:zs.length = (List.range zs.length).length:=by simp
 rw [show ((List.filter (Lib.keeps zs.toArray) (List.range zs.length)).length = zs.length) = ((List.filter (Lib.keeps zs.toArray) (List.range zs.length)).length = (List.range zs.length).length) by rw [<-hr],List.length_filter_eq_length_iff]
 rw [List.pairwise_iff_getElem] at hs
 unfold List.Nodup
 rw [List.pairwise_iff_getElem]
 constructor
 ·intro h i j hi hj hij e
  have hk:=h j (by simpa using hj)
  unfold Lib.keeps at hk
  rw [Qg] at hk
  rcases hk with hk | hk
  ·omega
  ·apply hk
   have hj1:j - 1 < zs.length:=by omega
   rw [show zs.toArray[j]! = zs[j] by simp [hj],show zs.toArray[j - 1]! = zs[j - 1] by simp [hj1]]
   by_cases hij2:i = j - 1
   ·subst hij2; exact e.symm
   ·have h1:=hs i (j - 1) hi hj1 (by omega)
    have h2:=hs (j - 1) j hj1 hj (by omega)
    rw [<-e] at h2 ⊢
    exact List.le_antisymm h1 h2
 ·intro h j hj
  have hj:j < zs.length:=by simpa using hj
  unfold Lib.keeps
  rw [Qg]
  by_cases h0:j = 0
  ·exact Or.inl h0
  ·right
   have hj1:j - 1 < zs.length:=by omega
   rw [show zs.toArray[j]! = zs[j] by simp [hj],show zs.toArray[j - 1]! = zs[j - 1] by simp [hj1]]
   exact fun e=>h (j - 1) j hj1 hj (by omega) e.symm
noncomputable def qli (f:Fm):Bool:=f.good && decide ((zba [] (vf f [])).length = 0) && decide (exN f).1.Nodup && zbu (exN f).2
theorem zth (f:Fm) (hw:f.wt <= 1048576):FC Tryz.prog 87 [fmD f] [bD (qli f)]:=by
 have hH:qli f = (f.good && decide ((zba [] (vf f [])).length = 0) && decide (exN f).1.Nodup && zbu (exN f).2):=rfl
 cases hg:f.good
 ·rw [hH,hg]
  simp only [fmD,zab f]
  refine zcq Tryz.call87 Tryz.func87 rfl (by kernel_rfl) (zax (by kernel_rfl)) ?_
  simp -implicitDefEqProofs only[go_sem,Tryz.results87]
  refine callF (zb6 f (by omega)) (by simp -implicitDefEqProofs only[go_sem,zab f,hg]) ?_
  simp -implicitDefEqProofs only[go_sem,zab f,hg]
 ·rw [hg,Qn] at hH
  have HF:=qbq f (zwt hg) hw
  have HP:=zy6 f (zwt hg) hw
  have hL:=ze8 f
  have hN:=zd2 f
  generalize (exN f).1 = ns at hH HP hL
  generalize (exN f).2 = g at hH HP
  generalize (zba [] (vf f [])) = V at hH HF
  have hcl:=zu0 ns
  simp only [fmD,zab f,zab g] at HF HP ⊢
  refine zcq Tryz.call87 Tryz.func87 rfl (by kernel_rfl) (zax (by kernel_rfl)) ?_
  simp -implicitDefEqProofs only[go_sem,Tryz.results87]
  refine callF (zb6 f (by omega)) (by simp -implicitDefEqProofs only[go_sem,zab f,hg]) ?_
  simp -implicitDefEqProofs only[go_sem,zab f,hg]
  by_cases hV:V.length = 0
  ·have hS:=zmk ns (by omega)
   have hC:=zoi (zex ns) (by rw [zgw]; omega)
   have hK:=zrs (zex ns)
   have hO:=qpi g
   simp only [fmD,zab g] at hO
   rw [<-zgw ns] at hcl
   have hsl:=zgw ns
   generalize Lib.compact (zex ns) = cs at hK hcl
   generalize zex ns = ss at hS hC hK hcl hsl
   rw [show decide (V.length = 0) = true by simp [hV],Qn] at hH
   refine zjf (HF) (by simp -implicitDefEqProofs only[go_sem,hV]) ?_
   simp -implicitDefEqProofs only[go_sem,hV]
   refine zoj [1] [15] [] (HP) (by simp -implicitDefEqProofs only[go_sem]) (by simp -implicitDefEqProofs only[go_sem]) (by simp -implicitDefEqProofs only[go_sem]) (by simp -implicitDefEqProofs only[go_sem]) ?_
   simp -implicitDefEqProofs only[go_sem]
   refine qcv (hS) (by simp -implicitDefEqProofs only[go_sem,za4]) (by simp -implicitDefEqProofs only[go_sem,za4]) rfl ?_
   simp -implicitDefEqProofs only[go_sem,za4]
   refine frzO 512 rfl rfl ?_
   simp -implicitDefEqProofs only[go_sem]
   refine callF (hC) (by simp -implicitDefEqProofs only[go_sem]) ?_
   simp -implicitDefEqProofs only[go_sem]
   have hcl':((cs.length:Int) == (ss.length:Int)) = decide ns.Nodup:=by rw [<-hcl,Kk]; simp only [Ki]; omega
   cases hn:decide ns.Nodup
   ·rw [hn] at hcl' hH
    refine zc7 [3,4] [22] [] (hK) (by simp -implicitDefEqProofs only[go_sem,hcl']) (by simp -implicitDefEqProofs only[go_sem,hcl']) (by simp -implicitDefEqProofs only[go_sem,hcl']) (by simp -implicitDefEqProofs only[go_sem,hcl']) ?_
    simp -implicitDefEqProofs only[go_sem,hcl']
    exact Or.inl (by rw [hH]; rfl)
   ·rw [hn] at hcl' hH
    refine zc7 [3,4] [22] [] (hK) (by simp -implicitDefEqProofs only[go_sem,hcl']) (by simp -implicitDefEqProofs only[go_sem,hcl']) (by simp -implicitDefEqProofs only[go_sem,hcl']) (by simp -implicitDefEqProofs only[go_sem,hcl']) ?_
    simp -implicitDefEqProofs only[go_sem,hcl']
    refine zgl (by simp -implicitDefEqProofs only[go_sem]) ?_
    simp -implicitDefEqProofs only[go_sem]
    refine callF (hO) (by simp -implicitDefEqProofs only[go_sem]) ?_
    simp -implicitDefEqProofs only[go_sem]
    exact Or.inl (by rw [hH]; simp)
  ·rw [show decide (V.length = 0) = false by simp [hV],Qj,Qj] at hH
   have hV':(0:Int) < (V.length:Int):=by omega
   refine zjf (HF) (by simp -implicitDefEqProofs only[go_sem,hV']) ?_
   simp -implicitDefEqProofs only[go_sem,hV']
   exact Or.inl (by rw [hH])
theorem zs2 (f:Fm) (hw:f.wt <= 1048576):FC Tryz.prog 92 [fmD f] [bD (qli f)]:=by
 have hH:qli f = (f.good && decide ((zba [] (vf f [])).length = 0) && decide (exN f).1.Nodup && zbu (exN f).2):=rfl
 cases hg:f.good
 ·rw [hH,hg]
  simp only [fmD,zab f]
  refine zcq Tryz.call92 Tryz.func92 rfl (by kernel_rfl) (zax (by kernel_rfl)) ?_
  simp -implicitDefEqProofs only[go_sem,Tryz.results92]
  refine callF (zhi f (by omega)) (by simp -implicitDefEqProofs only[go_sem,zab f,hg]) ?_
  simp -implicitDefEqProofs only[go_sem,zab f,hg]
 ·rw [hg,Qn] at hH
  have HF:=zp0 f (zwt hg) hw
  have HP:=zsl f (zwt hg) hw
  have hL:=ze8 f
  have hN:=zd2 f
  have hgw:=Kg (qhc f) hw
  generalize (exN f).1 = ns at hH HP hL
  generalize (exN f).2 = g at hH HP hgw
  generalize (zba [] (vf f [])) = V at hH HF
  simp only [fmD,zab f,zab g] at HF HP ⊢
  refine zcq Tryz.call92 Tryz.func92 rfl (by kernel_rfl) (zax (by kernel_rfl)) ?_
  simp -implicitDefEqProofs only[go_sem,Tryz.results92]
  refine callF (zhi f (by omega)) (by simp -implicitDefEqProofs only[go_sem,zab f,hg]) ?_
  simp -implicitDefEqProofs only[go_sem,zab f,hg]
  by_cases hV:V.length = 0
  ·have hO:=qa8 g hgw
   simp only [fmD,zab g] at hO
   rw [show decide (V.length = 0) = true by simp [hV],Qn] at hH
   refine zjf (HF) (by simp -implicitDefEqProofs only[go_sem,hV]) ?_
   simp -implicitDefEqProofs only[go_sem,hV]
   refine zoj [1] [16] [] (HP) (by simp -implicitDefEqProofs only[go_sem]) (by simp -implicitDefEqProofs only[go_sem]) (by simp -implicitDefEqProofs only[go_sem]) (by simp -implicitDefEqProofs only[go_sem]) ?_
   simp -implicitDefEqProofs only[go_sem]
   refine zae (fun k:Nat=>hd [(3,.one (.rn (zca ns))),(4,.one (.bx 4 0)),(5,vI k)] [(4,[.t (.int .i64 g.op),.t (.str g.atom.name),.rn (tmS g.atom.args),.t (.str g.var),.rn (fmS g.parts)])] []) (fun k=>k <= ns.length /\ (ns.take k).Nodup) (fun k=>ns.length - k) 0 (zac ?_) ⟨Ka _,Km⟩ ?_
   ·simp -implicitDefEqProofs only[go_sem]
   ·rintro k ⟨hk,hT⟩
    by_cases hlt:k < ns.length
    ·simp -implicitDefEqProofs only[go_sem,hlt]
     refine drawn (by kernel_rfl) ?_
     simp -implicitDefEqProofs only[go_sem,zad,hlt]
     refine ⟨hk,?_⟩
     refine zao (zn0 (ns.take k) ns[k]) (by simp -implicitDefEqProofs only[go_sem,zca,Yi]) ?_
     simp -implicitDefEqProofs only[go_sem,zca,Yi]
     refine ⟨by kernel_rfl,fun h=>?_,fun h=>?_⟩
     ·have hn:decide ns.Nodup = false:=by
       rw [Ko]
       intro hnd
       have h1:(ns.take (k + 1)).Nodup:=hnd.sublist (List.take_sublist _ _)
       rw [Qf hlt,Q8] at h1
       exact h1.2.2 _ (by simpa using h) _ (by simp) rfl
      rw [hn] at hH
      exact Or.inl (by rw [hH]; rfl)
     ·refine ⟨k + 1,⟨hlt,?_⟩,by omega,zac ?_⟩
      ·rw [Qf hlt,Q8]
       refine ⟨hT,by simp,?_⟩
       rintro a ha b hb rfl
       rw [Q5] at hb
       subst hb
       simp only [List.contains_eq_mem,Ko] at h
       exact h ha
      ·simp -implicitDefEqProofs only[go_sem]
       rw [zal (by omega)]
    ·simp -implicitDefEqProofs only[go_sem,hlt]
     rw [Qk (by omega)] at hT
     rw [show decide ns.Nodup = true by simp [hT],Qn] at hH
     refine callF (hO) (by simp -implicitDefEqProofs only[go_sem]) ?_
     simp -implicitDefEqProofs only[go_sem]
     exact Or.inl (by rw [hH])
  ·rw [show decide (V.length = 0) = false by simp [hV],Qj,Qj] at hH
   have hV':(0:Int) < (V.length:Int):=by omega
   refine zjf (HF) (by simp -implicitDefEqProofs only[go_sem,hV']) ?_
   simp -implicitDefEqProofs only[go_sem,hV']
   exact Or.inl (by rw [hH])
end
section
set_option maxRecDepth 4000
open Go.RowKit
abbrev zht (xs:List (List Tm)):T:=.sl 1 (xs.map fun s=>[tmS s])
end
section
set_option maxRecDepth 4000
open Go.RowKit
abbrev tssD (l:List (List Tm)):D:=.one (zht l)
theorem qf7 {d:PD} (h:zb0 Tryz.prog 28 d) : ∃ l:List (List Tm),d.cells = [zht l]:=by
 obtain ⟨xs,rfl,hx⟩:=h.sl Tryz.underlying28
 obtain ⟨l,hl⟩:=zff (fun s=>[tmS s]) xs fun x hx'=>qjh (hx x hx')
 exact ⟨l,by rw [PD.cells,hl,show Tryz.prog.cellsOf 22 = 1 from by kernel_rfl]⟩
end
section
set_option maxRecDepth 4000
open Go.RowKit
variable {P:Program} {N:Nat}
def zeu (P:Program) (N:Nat) (c:Code) (σ:St) (Q:Exit->St->Prop):Prop:=∀ n0 w0 A0 g a w,Rel n0 N σ g a w->LtK n0 w->Bk n0 w0 w->(g.A0,g.R0) = A0->c.wp P (qlr n0 N w0 A0 Q) a w
theorem qlr.mono {n0:Nat->Prop} {w0:World} {A0:(Nat->Prop) × RP} {Q Q':Exit->St->Prop} (h:∀ e σ,Q e σ->Q' e σ) {e:Exit} {a:Act} {w:World}:qlr n0 N w0 A0 Q e a w->qlr n0 N w0 A0 Q' e a w
 | ⟨σ,g,h1,h2⟩=>⟨σ,g,h _ _ h1,h2⟩
theorem zeu.mono {c:Code} {σ:St} {Q Q':Exit->St->Prop} (h:∀ e σ,Q e σ->Q' e σ) (k:zeu P N c σ Q):zeu P N c σ Q':=fun n0 w0 A0 g a w h1 h2 h3 h4=>wp_mono (k n0 w0 A0 g a w h1 h2 h3 h4) fun _ _ _=>qlr.mono h
theorem zeu.ofEx {c:Code} {σ:St} {Q:Exit->St->Prop} (hd:zbv N c = true) (h:ex P c [] Q σ):zeu P N c σ Q:=fun _ _ _ g a w h1 h2 h3 h4=>zbs c σ Q hd h g a w h1 h2 h3 h4
def qdy (P:Program) (N:Nat) (c:Code) (Q:Exit->St->Prop) (e:Exit) (σ:St):Prop:=match e with | .normal=>zeu P N c σ Q | e=>Q e σ
theorem zs9 (c:Code) (Q:Exit->St->Prop) (σ:St):qdy P N c Q .normal σ = zeu P N c σ Q:=rfl
theorem qgc (c:Code) (Q:Exit->St->Prop) (σ:St):qdy P N c Q .ret σ = Q .ret σ:=rfl
theorem qab (c:Code) (Q:Exit->St->Prop) (σ:St) (i:Nat):qdy P N c Q (.exit i) σ = Q (.exit i) σ:=rfl
theorem zeu.seq {x y:Code} {σ:St} {Q:Exit->St->Prop} (h:zeu P N x σ (qdy P N y Q)):zeu P N (.seq x y) σ Q:=fun n0 w0 A0 g a w h1 h2 h3 h4=>by
 refine wp_seq (wp_mono (h n0 w0 A0 g a w h1 h2 h3 h4) fun e a' w' hq=>?_)
 obtain ⟨σ',g',k1,k2,k3,k4,k5⟩:=hq
 cases e with
 | normal=>exact k1 n0 w0 A0 g' a' w' k2 k3 k4 k5
 | exit i=>exact ⟨σ',g',k1,k2,k3,k4,k5⟩
 | goto l=>exact ⟨σ',g',k1,k2,k3,k4,k5⟩
 | ret=>exact ⟨σ',g',k1,k2,k3,k4,k5⟩
 | panic ch=>exact ⟨σ',g',k1,k2,k3,k4,k5⟩
 | outgrown=>exact ⟨σ',g',k1,k2,k3,k4,k5⟩
def qkg:Nat->Code->Code
 | 0,.seq x _=>x
 | n + 1,.seq x y=>.seq x (qkg n y)
 | _,c=>c
def sufC:Nat->Code->Code
 | 0,.seq _ y=>y
 | n + 1,.seq _ y=>sufC n y
 | _,_=>.skip
def okC:Nat->Code->Bool
 | 0,.seq _ _=>true
 | n + 1,.seq _ y=>okC n y
 | _,_=>false
theorem zeu.cut:∀ (n:Nat) {c:Code} {σ:St} {Q:Exit->St->Prop},okC n c = true->zbv N (qkg n c) = true->ex P (qkg n c) [] (qdy P N (sufC n c) Q) σ->zeu P N c σ Q
 | 0,.seq x y,σ,Q,_,hd,h=>zeu.seq (zeu.ofEx hd h)
 | n + 1,.seq x y,σ,Q,ho,hd,h=>by
  simp only [qkg,zbv,Qa] at hd
  refine zeu.seq (zeu.mono (fun e σ' k=>?_) (zeu.ofEx (Q:=_) hd.1 h))
  cases e with
  | normal=>exact zeu.cut n ho hd.2 k
  | exit i=>exact k
  | goto l=>exact k
  | ret=>exact k
  | panic ch=>exact k
  | outgrown=>exact k
def blkQ (i:Nat) (Q:Exit->St->Prop) (e:Exit) (σ:St):Prop:=match e with | .exit j=>if j = i then Q .normal σ else Q (.exit j) σ | e=>Q e σ
theorem zvq (i:Nat) (Q:Exit->St->Prop) (σ:St):blkQ i Q .normal σ = Q .normal σ:=rfl
theorem qk1 (i:Nat) (Q:Exit->St->Prop) (σ:St):blkQ i Q .ret σ = Q .ret σ:=rfl
theorem zty (i j:Nat) (Q:Exit->St->Prop) (σ:St):blkQ i Q (.exit j) σ = if j = i then Q .normal σ else Q (.exit j) σ:=rfl
theorem zeu.block {i:Nat} {c:Code} {σ:St} {Q:Exit->St->Prop} (h:zeu P N c σ (blkQ i Q)):zeu P N (.block i c) σ Q:=fun n0 w0 A0 g a w h1 h2 h3 h4=>by
 refine wp_block (wp_mono (h n0 w0 A0 g a w h1 h2 h3 h4) fun e a' w' hq=>?_)
 obtain ⟨σ',g',k1,k2,k3,k4,k5⟩:=hq
 cases e with
 | exit j =>
  simp only [Exit.inBlock]
  simp only [zty] at k1
  split at k1
  ·rw [if_pos ‹_›]; exact ⟨σ',g',k1,k2,k3,k4,k5⟩
  ·rw [if_neg ‹_›]; exact ⟨σ',g',k1,k2,k3,k4,k5⟩
 | normal=>exact ⟨σ',g',k1,k2,k3,k4,k5⟩
 | goto l=>exact ⟨σ',g',k1,k2,k3,k4,k5⟩
 | ret=>exact ⟨σ',g',k1,k2,k3,k4,k5⟩
 | panic ch=>exact ⟨σ',g',k1,k2,k3,k4,k5⟩
 | outgrown=>exact ⟨σ',g',k1,k2,k3,k4,k5⟩
def lpQ {X:Type} (I:X->St) (Pr:X->Prop) (μ:X->Nat) (x:X) (Q:Exit->St->Prop) (e:Exit) (σ:St):Prop:=match e with | .normal=>∃ x',Pr x' /\ μ x' < μ x /\ Wk σ (I x') | e=>Q e σ
section
variable {X:Type} (I:X->St) (Pr:X->Prop) (μ:X->Nat) (x:X)
theorem zz7 (Q:Exit->St->Prop) (σ:St):lpQ I Pr μ x Q .normal σ = ∃ x',Pr x' /\ μ x' < μ x /\ Wk σ (I x'):=rfl
theorem qoy (Q:Exit->St->Prop) (σ:St):lpQ I Pr μ x Q .ret σ = Q .ret σ:=rfl
theorem qjv (Q:Exit->St->Prop) (σ:St) (i:Nat):lpQ I Pr μ x Q (.exit i) σ = Q (.exit i) σ:=rfl
end
theorem zeu.loop {b:Code} {σ:St} {Q:Exit->St->Prop} {X:Type} (I:X->St) (Pr:X->Prop) (μ:X->Nat) (x0:X) (h0:Wk σ (I x0)) (p0:Pr x0) (hr:∀ x,Pr x->zeu P N b (I x) (lpQ I Pr μ x Q)):zeu P N (.loop b) σ Q:=fun n0 w0 A0 g a w h1 h2 h3 h4=>by
 refine zoz (fun n a w=>∃ x g1,Pr x /\ μ x = n /\ Rel n0 N (I x) g1 a w /\ LtK n0 w /\ Bk n0 w0 w /\ (g1.A0,g1.R0) = A0) ?_ (n:=μ x0) (by obtain ⟨g0,r1,r2,r3⟩:=h0 _ _ _ _ _ h1; exact ⟨x0,g0,p0,rfl,r1,h2,h3,by rw [r2,r3]; exact h4⟩)
 rintro n a w ⟨x,g1,px,rfl,k2,k3,k4,k5⟩
 refine wp_mono (hr x px n0 w0 A0 g1 a w k2 k3 k4 k5) fun e a' w' hq=>?_
 obtain ⟨σ',g',h1,h2,h3,h4,h5⟩:=hq
 cases e with
 | normal =>
  obtain ⟨x',p',hlt,hwk⟩:=h1
  obtain ⟨g2,r1,r2,r3⟩:=hwk _ _ _ _ _ h2
  exact ⟨μ x',hlt,x',g2,p',rfl,r1,h3,h4,by rw [r2,r3]; exact h5⟩
 | exit i=>exact ⟨σ',g',h1,h2,h3,h4,h5⟩
 | goto l=>exact ⟨σ',g',h1,h2,h3,h4,h5⟩
 | ret=>exact ⟨σ',g',h1,h2,h3,h4,h5⟩
 | panic ch=>exact ⟨σ',g',h1,h2,h3,h4,h5⟩
 | outgrown=>exact ⟨σ',g',h1,h2,h3,h4,h5⟩
theorem qpy {f:FuncId} {fn:Func} {c:Code} {args:List (Bool × D)} {res:List D} (hc:za7 P f) (hf:P.funcs[f]? = some fn) (hb:fn.body = some c) (hN:args.length <= fn.ntmps) (hs:zbq args)
  (h:∀ (w:World) (vs:List Value) (fp tp:List Nat),zau w (fun b=>b < w.heap.size /\ b ∉ fp) args vs fp tp->∀ (g:Gh) (a:Act),Rel (fun b=>b < w.heap.size /\ b ∉ fp) fn.ntmps (zea args) g a w->(a.tmps = (⟨vs⟩:Array Value) ++ Array.replicate (fn.ntmps - vs.length) undef /\ (g.A0,g.R0) = ((fun _=>True),RP.of fun b=>b ∈ fp \/ w.heap.size <= b)) →
   ∃ σ0,zeu P fn.ntmps c σ0 (PS P fn.results.toList res) /\ Rel (fun b=>b < w.heap.size /\ b ∉ fp) fn.ntmps σ0 g a w):GC P f args res:=by
 refine ⟨hc,fun w vs fp tp hv hn=>?_⟩
 refine calls_of_wp hf hb ?_
 have hv':zau w (fun b=>b < w.heap.size /\ True /\ b ∉ fp) args vs fp tp:=zau.keepA (fun b hb=>⟨hb.1,trivial,hb.2⟩) hv
 obtain ⟨g,hg,hR⟩:=Rel.start (A0:=fun _=>True) (R0:=RP.of fun b=>b ∈ fp \/ w.heap.size <= b) (N:=fn.ntmps) hv' hn hs hN (fun _ _=>trivial) (fun b hb=>⟨trivial,Or.inl hb⟩) (fun b hb=>⟨trivial,by
  by_cases hlt:b < w.heap.size
  ·exact Or.inl (Classical.byContradiction fun h=>hb ⟨hlt,h⟩)
  ·exact Or.inr (by omega)⟩)
 obtain ⟨σ0,hex,hR0⟩:=h w vs fp tp hv g _ hR ⟨rfl,hg⟩
 refine wp_mono (hex _ w _ g _ w hR0 (fun k hk=>hk.1) (Bk.refl _ _) hg) fun e a' w' hq=>?_
 obtain ⟨σ',g',h1,h2,h3,h4,h5⟩:=hq
 have fin:∀ {us:List Value} {v:Value},(results fn a'.tmps).run P w' = .ok v w'->v = zb5 us->(∃ fp' tp',GDs w' res us fp' tp' /\ fp'.Nodup /\ ∀ b ∈ fp',∃ e,σ'.On e /\ b ∈ g'.φ e)->∃ v,(results fn a'.tmps).run P w' = .ok v w' /\ ∃ us fp' tp',Ending.returned v = .returned (zb5 us) /\ GDs w' res us fp' tp' /\ fp'.Nodup /\ (∀ b ∈ fp',b ∈ fp \/ w.heap.size <= b) /\ Bk (fun k=>k < w.heap.size /\ k ∉ fp) w w':=fun {us v} r1 rv ⟨fp',tp',o1,o2,o3⟩=>by
  refine ⟨_,r1,us,fp',tp',by rw [rv],o1,o2,fun b hb=>?_,h4⟩
  obtain ⟨e,l,m⟩:=o3 b hb
  have:=(h2.ebase e l b m).2
  rw [(Kt h5).2] at this
  exact this
 have key:(zat (zb4 P σ' fn.results.toList) (fun vs=>zyk σ' [] vs res) \/ PX P fn.results.toList res σ')->∃ v,(results fn a'.tmps).run P w' = .ok v w' /\ ∃ us fp' tp',Ending.returned v = .returned (zb5 us) /\ GDs w' res us fp' tp' /\ fp'.Nodup /\ (∀ b ∈ fp',b ∈ fp \/ w.heap.size <= b) /\ Bk (fun k=>k < w.heap.size /\ k ∉ fp) w w':=fun hk=>by
  rcases hk with hk | ⟨pl,hk⟩
  ·obtain ⟨vs,hvs,hk⟩:=zaq hk
   obtain ⟨us,r1,r2⟩:=zb3 h2 fn hvs
   obtain ⟨used,fp',tp',o1,o2⟩:=zdq h2 hk r2
   exact fin r1 rfl ⟨fp',tp',o1,o2.1,fun b hb=>by obtain ⟨e,_,_,l,m⟩:=o2.2.1 b hb; exact ⟨e,l,m⟩⟩
  ·obtain ⟨vs,hvs,hk⟩:=zaq hk
   obtain ⟨us,r1,r2⟩:=zb3 h2 fn hvs
   exact fin r1 rfl (qd8 h2 hk r2)
 cases e with
 | normal=>exact ⟨h2.defers,key h1⟩
 | ret=>exact ⟨h2.defers,key h1⟩
 | exit _=>exact h1.elim
 | goto _=>exact h1.elim
 | panic _=>exact h1.elim
 | outgrown=>exact h1.elim
theorem qnn {f:FuncId} {fn:Func} {c:Code} {args res:List D} (hc:za7 P f) (hf:P.funcs[f]? = some fn) (hb:fn.body = some c) (hN:(rd args).length <= fn.ntmps)
  (h:zeu P fn.ntmps c (zi1 args) (PS P fn.results.toList res)):FC P f args res:=by
 refine qpy hc hf hb hN (zcx args) fun w vs fp tp hv g a hR hg=>?_
 obtain ⟨hr,rfl,rfl⟩:=zc8 hv
 exact ⟨zi1 args,h,zmh hr hR hg⟩
structure RelM (n0:Nat->Prop) (N:Nat) (σ:St) (ag:Bool) (rows:List (List T)) (b:Nat) (A0:(Nat->Prop) × RP) (g:Gh) (a:Act) (w:World):Prop where
 rel : ∃ (n1:Nat->Prop) (es:Array MapEntry) (clk:Nat),(∀ x,n0 x->n1 x) /\ n1 b /\ ¬ g.A0 b /\ Rel n1 N σ g a w /\ LtK n1 w /\ w.heap[b]? = some (.map es clk) /\ za6 w (fun x=>n1 x /\ g.A0 x) ag rows es.toList
 nb:¬ n0 b
 sub:∀ x,g.A0 x->A0.1 x
 r0:g.R0 = A0.2
 new:∀ x,¬ n0 x->A0.1 x /\ A0.2 x
def zrf (n0:Nat->Prop) (N:Nat) (w0:World) (A0:(Nat->Prop) × RP) (ag:Bool) (b:Nat) (Q:Exit->St->List (List T)->Prop) (e:Exit) (a:Act) (w:World):Prop:=∃ σ rows g,Q e σ rows /\ RelM n0 N σ ag rows b A0 g a w /\ LtK n0 w /\ Bk n0 w0 w
def zgf (P:Program) (N:Nat) (ag:Bool) (b:Nat) (c:Code) (σ:St) (rows:List (List T)) (Q:Exit->St->List (List T)->Prop):Prop:=∀ n0 w0 A0 g a w,RelM n0 N σ ag rows b A0 g a w->LtK n0 w->Bk n0 w0 w->c.wp P (zrf n0 N w0 A0 ag b Q) a w
section
variable {ag:Bool} {b:Nat}
theorem zrf.mono {n0:Nat->Prop} {w0:World} {A0:(Nat->Prop) × RP} {Q Q':Exit->St->List (List T)->Prop} (h:∀ e σ r,Q e σ r->Q' e σ r) {e:Exit} {a:Act} {w:World}:zrf n0 N w0 A0 ag b Q e a w->zrf n0 N w0 A0 ag b Q' e a w
 | ⟨σ,r,g,h1,h2⟩=>⟨σ,r,g,h _ _ _ h1,h2⟩
theorem zgf.mono {c:Code} {σ:St} {rows:List (List T)} {Q Q':Exit->St->List (List T)->Prop} (h:∀ e σ r,Q e σ r->Q' e σ r) (k:zgf P N ag b c σ rows Q):zgf P N ag b c σ rows Q':=fun n0 w0 A0 g a w h1 h2 h3=>wp_mono (k n0 w0 A0 g a w h1 h2 h3) fun _ _ _=>zrf.mono h
theorem RelM.keep {n0 n1:Nat->Prop} {σ σ':St} {rows:List (List T)} {A0:(Nat->Prop) × RP} {g g':Gh} {a a':Act} {w w':World} {es:Array MapEntry} {clk:Nat} (h:RelM n0 N σ ag rows b A0 g a w) (hn:∀ x,n0 x->n1 x) (hb:n1 b) (hA:¬ g.A0 b) (he:w.heap[b]? = some (.map es clk)) (hr:za6 w (fun x=>n1 x /\ g.A0 x) ag rows es.toList)
  (h2:Rel n1 N σ' g' a' w') (h3:LtK n1 w') (h4:Bk n1 w w') (h5:(g'.A0,g'.R0) = (g.A0,g.R0)):RelM n0 N σ' ag rows b A0 g' a' w':=by
 have e1:g'.A0 = g.A0:=(Kt h5).1
 have e2:g'.R0 = g.R0:=(Kt h5).2
 exact ⟨⟨n1,es,clk,hn,hb,by rw [e1]; exact hA,h2,h3,(h4.block b hb).trans he,za6.keep (fun x hx=>h4.block x hx.1) (fun x hx=>⟨hx.1,by rw [e1]; exact hx.2⟩) ag rows _ hr⟩,h.nb,by rw [e1]; exact h.sub,by rw [e2]; exact h.r0,h.new⟩
theorem ql9 {n0 n1:Nat->Prop} {w w':World} (hn:∀ x,n0 x->n1 x) (h:Bk n1 w w'):Bk n0 w w':=⟨h.os,h.tape,h.output,h.size,fun k hk=>h.block k (hn k hk)⟩
theorem zgf.ofEx {c:Code} {σ:St} {rows:List (List T)} {Q:Exit->St->List (List T)->Prop} (hd:zbv N c = true) (h:ex P c [] (fun e σ'=>Q e σ' rows) σ):zgf P N ag b c σ rows Q:=fun n0 w0 A0 g a w hM h2 h3=>by
 obtain ⟨n1,es,clk,k1,k2,k3,k4,k5,k6,k7⟩:=hM.rel
 refine wp_mono (zbs (w0:=w) (A0:=(g.A0,g.R0)) c σ _ hd h g a w k4 k5 (Bk.refl _ _) rfl) fun e a' w' hq=>?_
 obtain ⟨σ',g',h1,m2,m3,m4,m5⟩:=hq
 exact ⟨σ',rows,g',h1,hM.keep k1 k2 k3 k6 k7 m2 m3 m4 m5,h2.mono m4.size,h3.trans (ql9 k1 m4)⟩
def qhl (P:Program) (N:Nat) (ag:Bool) (b:Nat) (c:Code) (Q:Exit->St->List (List T)->Prop) (e:Exit) (σ:St) (rows:List (List T)):Prop:=match e with | .normal=>zgf P N ag b c σ rows Q | e=>Q e σ rows
theorem ztu (c:Code) (Q:Exit->St->List (List T)->Prop) (σ:St) (rows:List (List T)):qhl P N ag b c Q .normal σ rows = zgf P N ag b c σ rows Q:=rfl
theorem zzo (c:Code) (Q:Exit->St->List (List T)->Prop) (σ:St) (rows:List (List T)) (i:Nat):qhl P N ag b c Q (.exit i) σ rows = Q (.exit i) σ rows:=rfl
theorem zgf.seq {x y:Code} {σ:St} {rows:List (List T)} {Q:Exit->St->List (List T)->Prop} (h:zgf P N ag b x σ rows (qhl P N ag b y Q)):zgf P N ag b (.seq x y) σ rows Q:=fun n0 w0 A0 g a w h1 h2 h3=>by
 refine wp_seq (wp_mono (h n0 w0 A0 g a w h1 h2 h3) fun e a' w' hq=>?_)
 obtain ⟨σ',r',g',k1,k2,k3,k4⟩:=hq
 cases e with
 | normal=>exact k1 n0 w0 A0 g' a' w' k2 k3 k4
 | exit i=>exact ⟨σ',r',g',k1,k2,k3,k4⟩
 | goto l=>exact ⟨σ',r',g',k1,k2,k3,k4⟩
 | ret=>exact ⟨σ',r',g',k1,k2,k3,k4⟩
 | panic ch=>exact ⟨σ',r',g',k1,k2,k3,k4⟩
 | outgrown=>exact ⟨σ',r',g',k1,k2,k3,k4⟩
theorem zgf.cut:∀ (n:Nat) {c:Code} {σ:St} {rows:List (List T)} {Q:Exit->St->List (List T)->Prop},okC n c = true->zbv N (qkg n c) = true->ex P (qkg n c) [] (fun e σ'=>qhl P N ag b (sufC n c) Q e σ' rows) σ->zgf P N ag b c σ rows Q
 | 0,.seq x y,σ,rows,Q,_,hd,h=>zgf.seq (zgf.ofEx hd h)
 | n + 1,.seq x y,σ,rows,Q,ho,hd,h=>by
  simp only [qkg,zbv,Qa] at hd
  refine zgf.seq (zgf.mono (Q:=fun e σ' r=>r = rows /\ qcr P [.seq (qkg n y)] (fun e σ'=>qhl P N ag b (sufC n y) Q e σ' rows) e σ') (fun e σ' r k=>?_) (zgf.ofEx hd.1 (zcw (fun e σ' k=>⟨rfl,k⟩) h)))
  obtain ⟨rfl,k⟩:=k
  cases e with
  | normal=>exact zgf.cut n ho hd.2 k
  | exit i=>exact k
  | goto l=>exact k
  | ret=>exact k
  | panic ch=>exact k
  | outgrown=>exact k
def blkM (i:Nat) (Q:Exit->St->List (List T)->Prop) (e:Exit) (σ:St) (rows:List (List T)):Prop:=match e with | .exit j=>if j = i then Q .normal σ rows else Q (.exit j) σ rows | e=>Q e σ rows
theorem zug (i:Nat) (Q:Exit->St->List (List T)->Prop) (σ:St) (rows:List (List T)):blkM i Q .normal σ rows = Q .normal σ rows:=rfl
theorem zr8 (i j:Nat) (Q:Exit->St->List (List T)->Prop) (σ:St) (rows:List (List T)):blkM i Q (.exit j) σ rows = if j = i then Q .normal σ rows else Q (.exit j) σ rows:=rfl
theorem zgf.block {i:Nat} {c:Code} {σ:St} {rows:List (List T)} {Q:Exit->St->List (List T)->Prop} (h:zgf P N ag b c σ rows (blkM i Q)):zgf P N ag b (.block i c) σ rows Q:=fun n0 w0 A0 g a w h1 h2 h3=>by
 refine wp_block (wp_mono (h n0 w0 A0 g a w h1 h2 h3) fun e a' w' hq=>?_)
 obtain ⟨σ',r',g',k1,k2,k3,k4⟩:=hq
 cases e with
 | exit j =>
  simp only [Exit.inBlock]
  simp only [zr8] at k1
  split at k1
  ·rw [if_pos ‹_›]; exact ⟨σ',r',g',k1,k2,k3,k4⟩
  ·rw [if_neg ‹_›]; exact ⟨σ',r',g',k1,k2,k3,k4⟩
 | normal=>exact ⟨σ',r',g',k1,k2,k3,k4⟩
 | goto l=>exact ⟨σ',r',g',k1,k2,k3,k4⟩
 | ret=>exact ⟨σ',r',g',k1,k2,k3,k4⟩
 | panic ch=>exact ⟨σ',r',g',k1,k2,k3,k4⟩
 | outgrown=>exact ⟨σ',r',g',k1,k2,k3,k4⟩
theorem RelM.wk {n0:Nat->Prop} {σ σ':St} {rows:List (List T)} {A0:(Nat->Prop) × RP} {g:Gh} {a:Act} {w:World} (h:RelM n0 N σ ag rows b A0 g a w) (k:Wk σ σ') : ∃ g',RelM n0 N σ' ag rows b A0 g' a w:=by
 obtain ⟨n1,es,clk,k1,k2,k3,k4,k5,k6,k7⟩:=h.rel
 obtain ⟨g',r1,r2,r3⟩:=k _ _ _ _ _ k4
 exact ⟨g',h.keep k1 k2 k3 k6 k7 r1 k5 (Bk.refl _ _) (by rw [r2,r3])⟩
def lpM {X:Type} (I:X->St) (J:X->List (List T)) (Pr:X->Prop) (μ:X->Nat) (x:X) (Q:Exit->St->List (List T)->Prop) (e:Exit) (σ:St) (rows:List (List T)):Prop:=match e with | .normal=>∃ x',Pr x' /\ μ x' < μ x /\ J x' = rows /\ Wk σ (I x') | e=>Q e σ rows
section
variable {X:Type} (I:X->St) (J:X->List (List T)) (Pr:X->Prop) (μ:X->Nat) (x:X)
theorem zzt (Q:Exit->St->List (List T)->Prop) (σ:St) (rows:List (List T)):lpM I J Pr μ x Q .normal σ rows = ∃ x',Pr x' /\ μ x' < μ x /\ J x' = rows /\ Wk σ (I x'):=rfl
theorem qj1 (Q:Exit->St->List (List T)->Prop) (σ:St) (rows:List (List T)) (i:Nat):lpM I J Pr μ x Q (.exit i) σ rows = Q (.exit i) σ rows:=rfl
theorem zgf.loop {c:Code} {σ:St} {rows:List (List T)} {Q:Exit->St->List (List T)->Prop} (x0:X) (h0:Wk σ (I x0)) (j0:J x0 = rows) (p0:Pr x0) (hr:∀ x,Pr x->zgf P N ag b c (I x) (J x) (lpM I J Pr μ x Q)):zgf P N ag b (.loop c) σ rows Q:=fun n0 w0 A0 g a w h1 h2 h3=>by
 subst j0
 refine zoz (fun n a w=>∃ x g1,Pr x /\ μ x = n /\ RelM n0 N (I x) ag (J x) b A0 g1 a w /\ LtK n0 w /\ Bk n0 w0 w) ?_ (n:=μ x0) (by obtain ⟨g0,r1⟩:=h1.wk h0; exact ⟨x0,g0,p0,rfl,r1,h2,h3⟩)
 rintro n a w ⟨x,g1,px,rfl,k2,k3,k4⟩
 refine wp_mono (hr x px n0 w0 A0 g1 a w k2 k3 k4) fun e a' w' hq=>?_
 obtain ⟨σ',r',g',h1,h2,h3,h4⟩:=hq
 cases e with
 | normal =>
  obtain ⟨x',p',hlt,rfl,hwk⟩:=h1
  obtain ⟨g2,r1⟩:=h2.wk hwk
  exact ⟨μ x',hlt,x',g2,p',rfl,r1,h3,h4⟩
 | exit i=>exact ⟨σ',r',g',h1,h2,h3,h4⟩
 | goto l=>exact ⟨σ',r',g',h1,h2,h3,h4⟩
 | ret=>exact ⟨σ',r',g',h1,h2,h3,h4⟩
 | panic ch=>exact ⟨σ',r',g',h1,h2,h3,h4⟩
 | outgrown=>exact ⟨σ',r',g',h1,h2,h3,h4⟩
end
end
attribute [go_sem] zs9 qgc qab zvq qk1 zty zz7 qoy qjv qkg sufC ztu zzo zug zr8 zzt qj1
end
section
set_option maxRecDepth 4000
open Go.RowKit
variable {P:Program} {N:Nat}
theorem ztk {mt kt et:TypeId} {d:TypeDesc} (hm:P.underlying mt = some (.map kt et)) (hd:P.underlying kt = some d) {w:World} {r:Nat} {es:Array MapEntry} {clk:Nat} {key val:Value} (hb:w.heap[r]? = some (.map es clk)) (hk:Go.MapKept.IsKey d key) (hf:Instr.findNow d key es.toList 0 = some none) :
  (Instr.mapUpdate mt (.map (some r)) key val).run P w = .ok () { w with heap:=w.heap.setIfInBounds r (.map (es.push { key,val,born:=clk }) (clk + 1)) }:=by
 simp [Instr.mapUpdate,run_underlying hm,Go.MapKept.run_getObj_map hb,Go.MapKept.run_checkKey hd hk,Go.MapKept.run_findKey hd hf,Go.MapKept.run_setObj_map _ hb,Result.andThen]
theorem zs6 {mt:TypeId} {w:World}:(Instr.makeMap mt none).run P w = .ok (.map (some w.heap.size)) (w.alloc (.map #[] 0)):=by
 simp [Instr.makeMap,Result.andThen]
theorem qdc {ops:Array Oper} {K:St->Prop} {n0:Nat->Prop} {w0:World} {A0:(Nat->Prop) × RP} {R:Exit->Act->World->Prop} {rest:List Nat} (hg:∀ o ∈ ops.toList,o.guard = none) (hR:∀ a w σ g,K σ->Rel n0 N σ g a w->LtK n0 w->Bk n0 w0 w->(g.A0,g.R0) = A0->wpOps P ops R rest a w) :
  ∀ (k i:Nat),i + k <= ops.size->(∀ o ∈ ops.toList,∀ d,o.dst = some d->d < N)->∀ (σ:St) (g:Gh) (a:Act) (w:World),zb1 P ops ((ops.toList.drop i).take k) σ K->Rel n0 N σ g a w->LtK n0 w->Bk n0 w0 w->(g.A0,g.R0) = A0->wpOps P ops R (List.range' i k ++ rest) a w
 | 0,i,hi,hd,σ,g,a,w,h,hr,hn,hb,hA=>by
  rw [List.take_zero] at h
  exact hR a w σ g h hr hn hb hA
 | k + 1,i,hi,hd,σ,g,a,w,h,hr,hn,hb,hA=>by
  have hlt:i < ops.size:=by omega
  have hcons:ops.toList.drop i = ops[i] :: ops.toList.drop (i + 1):=by
   rw [Qh (by simpa using hlt)]; rfl
  rw [hcons,List.take_succ_cons] at h
  rw [show List.range' i (k + 1) ++ rest = i :: (List.range' (i + 1) k ++ rest) from rfl,wpOps_cons]
  have ho:ops[i]? = some ops[i]:=by simp [hlt]
  have hdi:∀ d,ops[i].dst = some d->d < N:=hd _ (by simp)
  have hgi:ops[i].guard = none:=hg _ (by simp)
  unfold wpOp
  simp only [ho]
  unfold zb1 exG at h
  rw [hgi] at h
  have:Region.wanted ops[i] (yielded ops a.tmps) = true:=by simp [Region.wanted,hgi]
  rw [if_pos this]
  exact Or.inl (zfm (fun a' w' ⟨σ',g',h0,k1,k2,k3,k4⟩=>qdc hg hR k (i + 1) (by omega) hd σ' g' a' w' h0 k1 (hn.mono k2.size) (hb.trans k2) (by rw [k3,k4]; exact hA)) (zft h n0 N g a w hr hn hdi))
def mvC:C->Option T
 | .rn t=>some t
 | .t t=>if t.flat = true then some t else none
 | _=>none
def mvCs:List C->Option (List T)
 | []=>some []
 | c :: cs=>(mvC c).bind fun t=>(mvCs cs).map fun ts=>t :: ts
def mvV (ag:Bool):V->Option (List T)
 | .agg cs=>if ag = true then mvCs cs else none
 | .one c=>if ag = true then none else (mvC c).map fun t=>[t]
 | _=>none
theorem qfi {σ:St} {g:Gh} {w:World} {A:Nat->Prop} (hA:∀ b,zcj σ g w b->A b) {c:C} {t:T} {v:Value} (h:mvC c = some t) (hv:CR σ g w c v):zar w A t v:=by
 cases c <;> simp only [mvC,Qc,reduceCtorEq] at h
 ·split at h
  ·rename_i hf
   obtain rfl:=Jy h
   exact zdv hf hv
  ·cases h
 ·subst h
  exact zar.keep (fun _ _=>rfl) hA _ _ hv
theorem zya {σ:St} {g:Gh} {w:World} {A:Nat->Prop} (hA:∀ b,zcj σ g w b->A b):∀ {cs:List C} {ts:List T} {vs:List Value},mvCs cs = some ts->CRs σ g w cs vs->zaf w A ts vs
 | [],ts,vs,h,hv=>by
  obtain rfl:=Jy h
  unfold zaf
  exact hv
 | c :: cs,ts,vs,h,hv=>by
  obtain ⟨t,h1,h⟩:=Qd.1 h
  obtain ⟨ts',h2,rfl⟩:=Qz.1 h
  obtain ⟨v,vs',rfl,k1,k2⟩:=hv
  unfold zaf
  exact ⟨v,vs',rfl,qfi hA h1 k1,zya hA h2 k2⟩
theorem qo6 {σ:St} {g:Gh} {w:World} {A:Nat->Prop} (hA:∀ b,zcj σ g w b->A b) {ag:Bool} {x:V} {ts:List T} {v:Value} (h:mvV ag x = some ts) (hv:VR σ g w x v) : ∃ us,(if ag = true then v = .agg ⟨us⟩ else us = [v]) /\ zaf w A ts us:=by
 cases x with
 | agg cs =>
  simp only [mvV] at h
  split at h
  ·rename_i hag
   obtain ⟨us,rfl,hc⟩:=hv
   exact ⟨us,by rw [if_pos hag],zya hA h hc⟩
  ·cases h
 | one c =>
  simp only [mvV] at h
  split at h
  ·cases h
  ·rename_i hag
   obtain ⟨t,h1,rfl⟩:=Qz.1 h
   refine ⟨[v],by rw [if_neg hag],?_⟩
   unfold zaf
   refine ⟨v,[],rfl,qfi hA h1 hv,?_⟩
   unfold zaf; rfl
 | tup _=>cases h
theorem za6.push {w:World} {A:Nat->Prop} {ag:Bool} {r:List T} {e:MapEntry} (he : ∃ us,(if ag = true then e.val = .agg ⟨us⟩ else us = [e.val]) /\ zaf w A r (e.key :: us)):∀ {rows:List (List T)} {es:List MapEntry},za6 w A ag rows es->za6 w A ag (rows ++ [r]) (es ++ [e])
 | [],es,h=>by
  unfold za6 at h
  subst h
  obtain ⟨us,h1,h2⟩:=he
  show za6 w A ag [r] [e]
  unfold za6
  refine ⟨e,[],us,rfl,h1,h2,?_⟩
  unfold za6; rfl
 | _ :: rows,es,h=>by
  unfold za6 at h
  obtain ⟨e',es',us,rfl,h1,h2,h3⟩:=h
  show za6 w A ag (_ :: (rows ++ [r])) (e' :: (es' ++ [e]))
  unfold za6
  exact ⟨e',_,us,rfl,h1,h2,za6.push he h3⟩
def updM (P:Program) (ag:Bool) (b:Nat) (mt:TypeId) (x k v:Operand) (σ:St) (rows:List (List T)) (K:St->List (List T)->Prop):Prop:=match σ.get P 0 x,σ.get P 0 k,mapT P mt,mvV ag (σ.get P 0 v) with
 | .one (.cv (.map (some b'))),.one (.t kT),some (d,_),some vts=>b' = b /\ qc7 d kT = true /\ zeo kT rows = some none /\ K σ (rows ++ [kT :: vts])
 | _,_,_,_=>False
theorem qpl {ag:Bool} {b:Nat} {mt:TypeId} {x k v:Operand} {σ:St} {rows:List (List T)} {K:St->List (List T)->Prop} (h:updM P ag b mt x k v σ rows K) : ∃ kT d et vts,σ.get P 0 x = .one (.cv (.map (some b))) /\ σ.get P 0 k = .one (.t kT) /\ mapT P mt = some (d,et) /\ mvV ag (σ.get P 0 v) = some vts /\ qc7 d kT = true /\ zeo kT rows = some none /\ K σ (rows ++ [kT :: vts]):=by
 unfold updM at h
 split at h
 ·rename_i b' kT d et vts h1 h2 h3 h4
  obtain ⟨rfl,h5,h6,h7⟩:=h
  exact ⟨kT,d,et,vts,h1,h2,h3,h4,h5,h6,h7⟩
 ·exact h.elim
theorem zrq {d:TypeDesc} {k:T} (h:qc7 d k = true):k.flat = true:=by
 cases d <;> cases k <;> simp [qc7] at h <;> rfl
section
variable {ag:Bool} {b:Nat}
theorem zgf.upd {i:Nat} {ops:Array Oper} {mt:TypeId} {x k v:Operand} {ty:TypeId} {ps:String} {af:Array Edge} {σ:St} {rows:List (List T)} {Q:Exit->St->List (List T)->Prop} (m:Nat) (hz:ops.size = m + 1) (hl:ops[m]? = some ⟨none,.mapUpdate mt x k v,ty,ps,af,none⟩) (hg:(ops.toList.all fun o=>o.guard.isNone) = true) (hd:zbv N (.region i ops false) = true)
  (h:exo P ops (ops.toList.take m) [] (fun _ σ'=>updM P ag b mt x k v σ' rows (Q .normal)) σ):zgf P N ag b (.region i ops false) σ rows Q:=fun n0 w0 A0 g a w hM h2 h3=>by
 obtain ⟨n1,es,clk,k1,k2,k3,k4,k5,k6,k7⟩:=hM.rel
 refine wp_region ?_
 have hd':∀ o ∈ ops.toList,∀ d,o.dst = some d->d < N:=fun o ho d hdd=>by
  simp only [zbv,K3] at hd
  have:=hd o (by simpa using ho)
  rw [hdd] at this
  simpa using this
 have hg':∀ o ∈ ops.toList,o.guard = none:=fun o ho=>by
  have:=Ql.1 hg o ho
  simpa using this
 rw [hz,List.range_eq_range',show List.range' 0 (m + 1) = List.range' 0 m ++ [m] by rw [List.range'_1_concat,Q4]]
 refine qdc (w0:=w) (A0:=(g.A0,g.R0)) hg' ?_ m 0 (by omega) hd' σ g a w (by simpa [exo,qcr] using h) k4 k5 (Bk.refl _ _) rfl
 intro a' w' σ' g' hK m2 m3 m4 m5
 obtain ⟨kT,d,et,vts,c1,c2,c3,c4,c5,c6,c7⟩:=qpl hK
 obtain ⟨kt,t1,t2⟩:=qhe c3
 have hM':=hM.keep k1 k2 k3 k6 k7 m2 m3 m4 m5
 have e1:g'.A0 = g.A0:=(Kt m5).1
 have hA':¬ g'.A0 b:=by rw [e1]; exact k3
 have he:w'.heap[b]? = some (.map es clk):=(m4.block b k2).trans k6
 have hr:za6 w' (fun x=>n1 x /\ g'.A0 x) ag rows es.toList:=za6.keep (fun x hx=>m4.block x hx.1) (fun x hx=>⟨hx.1,by rw [e1]; exact hx.2⟩) ag rows _ k7
 have v1:=m2.get P 0 x
 have v2:=m2.get P 0 k
 have v3:=m2.get P 0 v
 rw [c1] at v1
 rw [c2] at v2
 have v1:a'.eval x = .map (some b):=v1
 have v2:zar w' (Fix σ' g' w') kT (a'.eval k):=v2
 have hfn:=zfv c5 (zdv (A':=fun x=>n1 x /\ g'.A0 x) (w':=w') (zrq c5) v2) ag rows es.toList 0 none hr c6
 have hkey:=zph c5 v2
 have hrun:=ztk t1 t2 (val:=a'.eval v) he hkey hfn
 rw [wpOps_cons]
 unfold wpOp
 simp only [hl]
 rw [if_pos (by simp [Region.wanted])]
 refine Or.inl ?_
 unfold Oper.wp
 have hex:(execOp a'.eval ⟨none,.mapUpdate mt x k v,ty,ps,af,none⟩).run P w' = .ok .skip { w' with heap:=w'.heap.setIfInBounds b (.map (es.push { key:=a'.eval k,val:=a'.eval v,born:=clk }) (clk + 1)) }:=by
  unfold execOp
  simp only [v1,Sem.run_bind,hrun,Result.andThen_ok,Sem.run_pure]
 rw [hex]
 have hh:=(Go.MapKept.heap_set (o':=.map (es.push { key:=a'.eval k,val:=a'.eval v,born:=clk }) (clk + 1)) he)
 have hother:∀ x,x ≠ b->({ w' with heap:=w'.heap.setIfInBounds b (.map (es.push { key:=a'.eval k,val:=a'.eval v,born:=clk }) (clk + 1)) }:World).heap[x]? = w'.heap[x]?:=hh.2
 have hsize:({ w' with heap:=w'.heap.setIfInBounds b (.map (es.push { key:=a'.eval k,val:=a'.eval v,born:=clk }) (clk + 1)) }:World).heap.size = w'.heap.size:=by simp
 have hself:({ w' with heap:=w'.heap.setIfInBounds b (.map (es.push { key:=a'.eval k,val:=a'.eval v,born:=clk }) (clk + 1)) }:World).heap[b]? = _:=hh.1
 have hbk:Bk n0 w' { w' with heap:=w'.heap.setIfInBounds b (.map (es.push { key:=a'.eval k,val:=a'.eval v,born:=clk }) (clk + 1)) }:=⟨rfl,rfl,rfl,by rw [hsize]; exact Qw _,fun j hj=>hother j fun e=>hM.nb (e ▸ hj)⟩
 have hfree:∀ y,zcj σ' g' w' y->y < w'.heap.size /\ g'.A0 y:=fun y hy=>⟨hy.1.2.2.1,hy.1.2.2.2⟩
 generalize hw:({ w' with heap:=w'.heap.setIfInBounds b (.map (es.push { key:=a'.eval k,val:=a'.eval v,born:=clk }) (clk + 1)) }:World) = w2 at hother hsize hself hbk ⊢
 have hR2:Rel (fun y=>n1 y \/ zcj σ' g' w' y) N σ' g' a' w2:=by
  refine m2.turn (n1:=fun y=>n1 y \/ zcj σ' g' w' y) (A1:=g'.A0) (w':=w2) (fun y hf=>⟨hf.2.2.2,hother y fun e=>hA' (e ▸ hf.2.2.2)⟩) (by rw [hsize]; exact Qw _) (fun y hy=>m2.anew y fun q=>hy (Or.inl q)) (fun j hj=>⟨?_,hother _ fun e=>m2.base j hj (e ▸ k2)⟩) fun e ho y hy=>⟨?_,(m2.ebase e ho y hy).1,hother _ fun q=>m2.etop e ho y hy (q ▸ k2)⟩
  ·rintro (q | q)
   ·exact m2.base j hj q
   ·exact q.1.1 j hj rfl
  ·rintro (q | q)
   ·exact m2.etop e ho y hy q
   ·exact q.2 e ho hy
 obtain ⟨us,u1,u2⟩:=qo6 (A:=fun y=>(n1 y \/ zcj σ' g' w' y) /\ g'.A0 y) (fun y hy=>⟨Or.inr hy,hy.1.2.2.2⟩) c4 v3
 refine ⟨σ',rows ++ [kT :: vts],g',c7,⟨⟨fun y=>n1 y \/ zcj σ' g' w' y,es.push { key:=a'.eval k,val:=a'.eval v,born:=clk },clk + 1,fun y hy=>Or.inl (k1 y hy),Or.inl k2,hA',hR2,fun y hy=>?_,hself,?_⟩,hM'.nb,hM'.sub,hM'.r0,hM'.new⟩,(h2.mono m4.size).mono hbk.size,(h3.trans (ql9 k1 m4)).trans hbk⟩
 ·rw [hsize]
  rcases hy with q | q
  ·exact m3 y q
  ·exact (hfree y q).1
 ·rw [Array.toList_push]
  refine za6.keep (A:=fun y=>(n1 y \/ zcj σ' g' w' y) /\ g'.A0 y) (fun y hy=>hother y fun e=>hA' (e ▸ hy.2)) (fun y hy=>hy) ag _ _ (za6.push ⟨us,u1,?_⟩ (za6.keep (fun _ _=>rfl) (fun y hy=>⟨Or.inl hy.1,hy.2⟩) ag rows _ hr))
  unfold zaf
  exact ⟨_,_,rfl,zdv (zrq c5) v2,u2⟩
end
theorem Rel.enter1 {n0:Nat->Prop} {σ:St} {g:Gh} {a:Act} {w:World} (h:Rel n0 N σ g a w) (o1:Obj) :
  Rel (fun b=>n0 b \/ b = w.heap.size) N σ { g with A0:=fun b=>g.A0 b /\ b ≠ w.heap.size } a (w.alloc o1):=by
 have hs:∀ b,b < w.heap.size->(w.alloc o1).heap[b]? = w.heap[b]?:=fun b hb=>Below.heap_alloc _ _ _ hb
 refine h.turn (fun b hf=>⟨⟨hf.2.2.2,?_⟩,hs b hf.2.2.1⟩) (by simp) (fun b hb=>?_) (fun k hk=>⟨?_,hs _ (h.lt hk)⟩) (fun e ho b hm=>?_)
 ·have:=hf.2.2.1; omega
 ·have h1:¬ n0 b:=fun k=>hb (Or.inl k)
  exact ⟨⟨(h.anew b h1).1,fun e=>hb (Or.inr e)⟩,(h.anew b h1).2⟩
 ·have:=h.lt hk
  rintro (k1 | k1)
  ·exact h.base k hk k1
  ·omega
 ·have:=h.elt ho hm
  refine ⟨?_,⟨(h.ebase e ho b hm).1,by omega⟩,hs b this⟩
  rintro (k1 | k1)
  ·exact h.etop e ho b hm k1
  ·omega
def onM (ag:Bool) (b d:Nat) (σ:St) (rows:List (List T)) (K:St->Prop):Prop:=σ.sl d = .one (.cv (.map (some b))) /\ K (σ.put (some d) (.one (.rn (.mp ag rows))))
theorem RelM.leave {n0:Nat->Prop} {σ:St} {ag:Bool} {rows:List (List T)} {b d:Nat} {A0:(Nat->Prop) × RP} {g:Gh} {a:Act} {w:World} (h:RelM n0 N σ ag rows b A0 g a w) (hd:σ.sl d = .one (.cv (.map (some b)))) :
  ∃ g',Rel n0 N (σ.put (some d) (.one (.rn (.mp ag rows)))) g' a w /\ (g'.A0,g'.R0) = A0:=by
 obtain ⟨n1,es,clk,k1,k2,k3,k4,k5,k6,k7⟩:=h.rel
 have hL:Rel n0 N σ { g with A0:=A0.1 } a w:=k4.leave k1 h.sub fun x hx=>⟨(h.new x hx).1,by rw [h.r0]; exact (h.new x hx).2⟩
 have hF:∀ x,n1 x->A0.1 x->zcj σ { g with A0:=A0.1 } w x:=fun x h1 h2=>⟨⟨fun k hk e=>k4.base k hk (e ▸ h1),fun e y he ho hh=>k4.etop e ⟨y,he,ho⟩ x (List.mem_of_mem_head? hh) h1,k5 x h1,h2⟩,fun e ho hm=>k4.etop e ho x hm h1⟩
 refine ⟨{ g with A0:=A0.1 },hL.slots_of rfl rfl hL.defers hL.size fun i=>?_,by show (A0.1,g.R0) = A0; rw [h.r0]⟩
 show VR σ _ w (upd σ.sl d _ i) _
 by_cases hi:i = d
 ·subst hi
  rw [zag]
  have hv:=k4.slots i
  rw [hd] at hv
  have hv:a.tmps.getD i (g.R0.ξ i) = .map (some b):=hv
  show CR σ _ w (.rn (.mp ag rows)) (a.tmps.getD i (g.R0.ξ i))
  rw [hv]
  show zar w _ (.mp ag rows) (.map (some b))
  unfold zar
  exact ⟨b,es,clk,rfl,hF b k2 (h.new b h.nb).1,k6,za6.keep (fun _ _=>rfl) (fun x hx=>hF x hx.1 (h.sub x hx.2)) ag rows _ k7⟩
 ·rw [zam _ _ hi]
  exact hL.slots i
theorem zeu.scope {i d0 d1:Nat} {mt t0 t1:TypeId} {p0 p1:String} {f0 f1:Array Edge} {X Y:Code} {σ:St} {Q:Exit->St->Prop} {ops:Array Oper} (ag:Bool) (hz:ops.size = 2) (c0:ops[0]? = some ⟨some d0,.makeMap mt none,t0,p0,f0,none⟩) (c1:ops[1]? = some ⟨some d1,.assign (.tmp d0),t1,p1,f1,none⟩) (hd:d0 < N /\ d1 < N)
  (h:∀ b,zgf P N ag b X ((σ.put (some d0) (.one (.cv (.map (some b))))).put (some d1) (.one (.cv (.map (some b))))) [] (fun e σ' rows=>e = .normal /\ onM ag b d1 σ' rows fun σ''=>zeu P N Y σ'' Q)) :
  zeu P N (.seq (.region i ops false) (.seq X Y)) σ Q:=fun n0 w0 A0 g a w hR h2 h3 h4=>by
 refine wp_seq (wp_region ?_)
 have e0:(execOp a.eval ⟨some d0,.makeMap mt none,t0,p0,f0,none⟩).run P w = .ok (.value (.map (some w.heap.size))) (w.alloc (.map #[] 0)):=by
  unfold execOp
  simp only [J3,Sem.run_bind,zs6,Result.andThen_ok,Sem.run_pure]
 have hR1:=(hR.enter1 (.map #[] 0)).put (some d0) (x:=.one (.cv (.map (some w.heap.size)))) (v:=.map (some w.heap.size)) rfl (fun j hj=>by cases hj; exact hd.1)
 have ev:(a.put (some d0) (.map (some w.heap.size))).eval (.tmp d0) = .map (some w.heap.size):=by
  show (a.tmps.setIfInBounds d0 _).getD d0 undef = _
  exact ziz hR.size hd.1 _ _
 have hR2:=hR1.put (some d1) (x:=.one (.cv (.map (some w.heap.size)))) (v:=.map (some w.heap.size)) rfl (fun j hj=>by cases hj; exact hd.2)
 rw [hz]
 show wpOps P _ _ [0,1] a w
 rw [wpOps_cons]
 unfold wpOp
 simp only [c0]
 rw [if_pos (by simp [Region.wanted])]
 refine Or.inl ?_
 unfold Oper.wp
 rw [e0]
 show wpOps P _ _ [1] _ _
 rw [wpOps_cons]
 unfold wpOp
 simp only [c1]
 rw [if_pos (by simp [Region.wanted])]
 refine Or.inl ?_
 unfold Oper.wp
 have e1:∀ (a:Act) (w:World),(execOp a.eval ⟨some d1,.assign (.tmp d0),t1,p1,f1,none⟩).run P w = .ok (.value (a.eval (.tmp d0))) w:=fun a w=>rfl
 rw [e1,ev]
 have hbk:Bk n0 w (w.alloc (.map #[] 0)):=⟨rfl,rfl,rfl,by simp,fun k hk=>Below.heap_alloc w _ k (h2 k hk)⟩
 have hM:RelM n0 N ((σ.put (some d0) (.one (.cv (.map (some w.heap.size))))).put (some d1) (.one (.cv (.map (some w.heap.size))))) ag [] w.heap.size A0 { g with A0:=fun b=>g.A0 b /\ b ≠ w.heap.size } ((a.put (some d0) (.map (some w.heap.size))).put (some d1) (.map (some w.heap.size))) (w.alloc (.map #[] 0)):=by
  refine ⟨⟨fun b=>n0 b \/ b = w.heap.size,#[],0,fun x hx=>Or.inl hx,Or.inr rfl,fun q=>q.2 rfl,hR2,fun x hx=>?_,(Go.MapKept.heap_alloc w _).1,?_⟩,h2.new (Qw _),fun x hx=>?_,?_,fun x hx=>?_⟩
  ·rcases hx with q | q
   ·have:=h2 x q; simp; omega
   ·simp; omega
  ·unfold za6; rfl
  ·rw [<-h4]; exact hx.1
  ·rw [<-h4]
  ·rw [<-h4]; exact hR.anew x hx
 refine wp_seq (wp_mono (h w.heap.size n0 w0 A0 _ _ _ hM (h2.mono hbk.size) (h3.trans hbk)) fun e a' w' hq=>?_)
 obtain ⟨σ',rows,g',⟨rfl,q1,q2⟩,q3,q4,q5⟩:=hq
 obtain ⟨g'',r1,r2⟩:=q3.leave q1
 exact q2 n0 w0 A0 g'' a' w' r1 q4 q5 r2
end
section
set_option maxRecDepth 4000
open Go.RowKit
variable {P:Program} {N:Nat}
def mpOf:V->Option (Bool × List (List T))
 | .one (.t (.mp ag rows))=>some (ag,rows)
 | .one (.rn (.mp ag rows))=>some (ag,rows)
 | _=>none
def tupX:V->Option (Bool × List C)
 | .agg cs=>some (true,cs)
 | .one c=>some (false,[c])
 | _=>none
theorem qdu {σ:St} {g:Gh} {w:World} {x:V} {y:Bool × List C} {v:Value} (h:tupX x = some y) (hv:VR σ g w x v):CRx σ g w y v:=by
 cases x with
 | agg cs=>obtain rfl:=Jy h; obtain ⟨a,h1,h2⟩:=hv; exact ⟨a,h1,h2⟩
 | one c=>obtain rfl:=Jy h; exact ⟨c,rfl,hv⟩
 | tup _=>cases h
theorem qlu {σ:St} {g:Gh} {w:World} {x:V} {ag:Bool} {rows:List (List T)} {v:Value} (h:mpOf x = some (ag,rows)) (hv:VR σ g w x v):zar w (Fix σ g w) (.mp ag rows) v:=by
 unfold mpOf at h
 split at h
 ·cases h; exact hv
 ·cases h; exact zar.keep (fun _ _=>rfl) (fun b hb=>hb.1) _ _ hv
 ·cases h
def lk2Z (P:Program) (et:TypeId):Option V:=((P.info? et).bind (·.zero)).bind fun z=>(tupX (ofV P et z)).map fun y=>.tup [y,(false,[.t (.bool false)])]
def lk2 (P:Program) (σ:St) (mt:TypeId) (x ix:Operand):Option V:=match mpOf (σ.get P 0 x),σ.get P 0 ix,mapT P mt with
 | some (ag,rows),.one (.t k),some (d,et)=>if qc7 d k = true then (zeo k rows).bind fun r=>match r with
  | some vs=>(rowV ag vs).bind fun v=>(tupX v).map fun y=>.tup [y,(false,[.t (.bool true)])]
  | none=>lk2Z P et
  else none
 | _,_,_=>none
theorem zu2 {o:Oper} {σ:St} {mt:TypeId} {x ix:Operand} {v:V} (ho:o.op = .lookup mt x ix true) (h:lk2 P σ mt x ix = some v):zah P o σ (σ.put o.dst v) :=
 zah.value fun n0 N g a w hR=>by
  unfold lk2 at h
  split at h
  ·rename_i ag rows k d et hm hi ht
   split at h
   ·rename_i hk
    obtain ⟨r,hf,h⟩:=Qd.1 h
    obtain ⟨kt,t1,t2⟩:=qhe ht
    have h1:=qlu hm (hR.get P 0 x)
    have h2:=hR.get P 0 ix
    rw [hi] at h2
    have h2:zar w (Fix σ g w) k (a.eval ix):=h2
    unfold zar at h1
    obtain ⟨b,es,clk,e1,hA,hb,he⟩:=h1
    cases r with
    | some vs =>
     obtain ⟨y,hv,h⟩:=Qd.1 h
     obtain ⟨z,hz,rfl⟩:=Qz.1 h
     obtain ⟨j,u,us,f1,f2,f3⟩:=zfv hk h2 ag rows es.toList 0 (some vs) he hf
     have hvr:VR σ g w y u:=by
      unfold rowV at hv
      by_cases hag:ag = true
      ·rw [if_pos hag] at hv f2
       cases hv
       exact ⟨us,f2,qmz f3⟩
      ·rw [if_neg hag] at hv f2
       subst f2
       rcases vs with _ | ⟨t,_ | ⟨t',vs⟩⟩
       ·cases hv
       ·cases hv
        unfold zaf at f3
        obtain ⟨v',vs',e,h3,_⟩:=f3
        cases e
        exact h3
       ·cases hv
     refine ⟨.tuple #[u,.bool true],?_,[u,.bool true],rfl,u,[.bool true],rfl,qdu hz hvr,.bool true,[],rfl,⟨.t (.bool true),rfl,rfl⟩,rfl⟩
     unfold execOp
     simp only [ho]
     simp [Instr.lookup,run_underlying t1,e1,Go.MapKept.run_getObj_map hb,Go.MapKept.run_checkKey t2 (zph hk h2),Go.MapKept.run_findKey t2 f1,Result.andThen]
    | none =>
     obtain ⟨zv,hz0,h⟩:=Qd.1 h
     obtain ⟨y,hy,rfl⟩:=Qz.1 h
     obtain ⟨i,hi1,hi2⟩:=Qd.1 hz0
     have f1:=zfv hk h2 ag rows es.toList 0 none he hf
     have hvr:VR σ g w (ofV P et zv) zv:=ql1 P σ g w et zv
     refine ⟨.tuple #[zv,.bool false],?_,[zv,.bool false],rfl,zv,[.bool false],rfl,qdu hy hvr,.bool false,[],rfl,⟨.t (.bool false),rfl,rfl⟩,rfl⟩
     unfold execOp
     simp only [ho]
     simp [Instr.lookup,run_underlying t1,e1,Go.MapKept.run_getObj_map hb,Go.MapKept.run_checkKey t2 (zph hk h2),Go.MapKept.run_findKey t2 f1,Result.andThen,zeroValue,typeInfo,hi1,hi2]
   ·cases h
  ·cases h
section
variable {ks:List Fr} {Q:Exit->St->Prop} {σ:St} {ops:Array Oper} {os:List Oper} {L:List (List Ky × List Ky)} {ty:TypeId} {ps:String} {af:Array Edge} {dst:Option Nat} {mt:TypeId} {x ix:Operand} {v:V}
theorem qgw (h:lk2 P σ mt x ix = some v) (k:exo P ops os ks Q (σ.put dst v)):exo P ops (⟨dst,.lookup mt x ix true,ty,ps,af,none⟩ :: os) ks Q σ:=zc6 rfl rfl (zu2 rfl h) k
end
attribute [go_sem] mpOf tupX lk2 onM updM mvC mvCs mvV Option.bind_some Option.map_some
end
section
set_option maxRecDepth 4000
open Go.RowKit
def mpS (ps:List (Str × Tm)):T:=.mp true (ps.map bnC)
theorem zjw (s:Str):∀ ps:List (Str × Tm),zeo (.str s) (ps.map bnC) = some ((ps.find? fun p=>p.1 == s).map fun p=>tmC p.2)
 | []=>rfl
 | p :: ps=>by
  have ih:=zjw s ps
  show zeo (.str s) ((.str p.1 :: tmC p.2) :: ps.map bnC) = _
  unfold zeo
  rw [show qbv (.str s) (.str p.1) = some (decide (s = p.1)) from rfl,List.find?_cons]
  by_cases h:s = p.1
  ·subst h; simp
  ·have h2:(p.1 == s) = false:=by simpa using fun e=>h e.symm
   rw [decide_eq_false h,h2]
   exact ih
def rvT (ps:List (Str × Tm)):Tm->Tm:=Tm.fold fun m _ rs=>if rs.length = 0 then (match ps.find? fun p=>p.1 == m with | some p=>p.2 | none=>.mk m []) else .mk m rs
theorem zwv (ps:List (Str × Tm)) (a:Tm):rvT ps a = if a.args.length = 0 then (match ps.find? fun p=>p.1 == a.name with | some p=>p.2 | none=>.mk a.name []) else .mk a.name (a.args.map (rvT ps)):=by
 unfold rvT
 rw [Tm.fold_eq]
 simp only [Qb]
theorem qnz:lk2Z Tryz.prog 33 = some (.tup [(true,[.t (.str []),.nl 2]),(false,[.t (.bool false)])]):=by kernel_rfl
theorem znd (ps:List (Str × Tm)) (hp:∀ p ∈ ps,p.2.wt <= 1048576) (a:Tm) (ha:a.args.length <= 1048576) (H:∀ x ∈ a.args,FC Tryz.prog 180 [tmD x,.one (mpS ps)] [tmD (rvT ps x)]):FC Tryz.prog 180 [tmD a,.one (mpS ps)] [tmD (rvT ps a)]:=by
 have hv:=zwv ps a
 have hf:=zjw a.name ps
 have hpw:∀ p,(ps.find? fun p=>p.1 == a.name) = some p->p.2.wt <= 1048576:=fun p h=>hp p (List.mem_of_find?_eq_some h)
 have hz:=qnz
 unfold mpS at H ⊢
 generalize ps.map bnC = R at H hf ⊢
 generalize (ps.find? fun p=>p.1 == a.name) = r at hf hv hpw
 have e1:tmD (.mk a.name (a.args.map (rvT ps))) = .agg [.str a.name,.sl 2 (a.args.map fun x=>tmC (rvT ps x))]:=by unfold tmD; rw [zaa]; simp only [Tm.name,Tm.args,Ke,K5]
 cases r with
 | none =>
  rw [show (none:Option (Str × Tm)).map (fun p=>tmC p.2) = none from rfl] at hf
  have hv:rvT ps a = .mk a.name (a.args.map (rvT ps)):=by
   rw [hv]
   split
   ·rename_i h0
    rw [Qx.1 h0]; rfl
   ·rfl
  rw [hv,e1]
  simp only [tmD,zaa a] at H ⊢
  refine zaj Tryz.call180 Tryz.func180 rfl (by kernel_rfl) (zax (by kernel_rfl)) ?_
  simp -implicitDefEqProofs only[go_sem,Tryz.results180]
  refine qgw (by simp -implicitDefEqProofs only[go_sem,hf,hz,Tryz.underlying143,Tryz.underlying9]; rfl) ?_
  simp -implicitDefEqProofs only[go_sem]
  refine zae (fun k:Nat=>hd [(1,vT (.mp true R)),(4,.one (.bx 4 0)),(7,.one (.bx 7 0)),(30,vT (tmS a.args)),(31,vI a.args.length),(32,vI k)] [(4,[.t (.str []),.nl 2]),(7,[.t (.str a.name),.ow 3000 0])] [(3000,⟨true,2,(a.args.take k).map fun x=>tmC (rvT ps x),0,true⟩)]) (fun k=>k <= a.args.length) (fun k=>a.args.length - k) 0 (zac ?_) (Ka _) ?_
  ·simp -implicitDefEqProofs only[go_sem]
  ·intro k hk
   by_cases hlt:k < a.args.length
   ·have hmin:min k a.args.length <= 4294967295:=by omega
    have HC:=H a.args[k] (Qe hlt)
    simp only [tmD,zaa a.args[k],zaa (rvT ps a.args[k])] at HC
    simp -implicitDefEqProofs only[go_sem,zad,hlt,zaa a.args[k]]
    refine drawn (by kernel_rfl) ?_
    simp -implicitDefEqProofs only[go_sem]
    refine zao (HC) (by simp -implicitDefEqProofs only[go_sem]) ?_
    simp -implicitDefEqProofs only[go_sem]
    refine zbi (by simp -implicitDefEqProofs only[go_sem]) ?_
    simp -implicitDefEqProofs only[go_sem]
    refine zj0 true (by simp -implicitDefEqProofs only[go_sem,ne_eq,Qb,Qp,hmin]) ?_
    simp -implicitDefEqProofs only[go_sem,ne_eq,Qb,Qp,hmin]
    refine ⟨by kernel_rfl,k + 1,hlt,by omega,zac ?_⟩
    simp -implicitDefEqProofs only[go_sem]
    rw [zal (by omega),Qf hlt,Q0,Q7,zaa (rvT ps a.args[k])]
    trivial
   ·have ht:a.args.take k = a.args:=Qk (by omega)
    simp -implicitDefEqProofs only[go_sem,hlt,ht]
 | some p =>
  have HC:=zeg p.2 (hpw p rfl)
  rw [show (some p).map (fun p=>tmC p.2) = some (tmC p.2) from rfl] at hf
  simp only [tmD,zaa p.2] at HC hf
  by_cases h0:a.args.length = 0
  ·rw [if_pos h0] at hv
   rw [hv]
   have e0:((a.args.length:Int) == 0) = true:=by simp [h0]
   simp only [tmD,zaa a,zaa p.2]
   refine zaj Tryz.call180 Tryz.func180 rfl (by kernel_rfl) (zax (by kernel_rfl)) ?_
   simp -implicitDefEqProofs only[go_sem,Tryz.results180]
   refine qgw (by simp -implicitDefEqProofs only[go_sem,hf,hz,Tryz.underlying143,Tryz.underlying9]; rfl) ?_
   simp -implicitDefEqProofs only[go_sem,e0]
   refine callF (HC) (by simp -implicitDefEqProofs only[go_sem]) ?_
   simp -implicitDefEqProofs only[go_sem]
  ·rw [if_neg h0] at hv
   have e0:((a.args.length:Int) == 0) = false:=by simp [h0]
   rw [hv,e1]
   simp only [tmD,zaa a] at H ⊢
   refine zaj Tryz.call180 Tryz.func180 rfl (by kernel_rfl) (zax (by kernel_rfl)) ?_
   simp -implicitDefEqProofs only[go_sem,Tryz.results180]
   refine qgw (by simp -implicitDefEqProofs only[go_sem,hf,hz,Tryz.underlying143,Tryz.underlying9]; rfl) ?_
   simp -implicitDefEqProofs only[go_sem,e0]
   refine zae (fun k:Nat=>hd [(1,vT (.mp true R)),(4,.one (.bx 4 0)),(7,.one (.bx 7 0)),(30,vT (tmS a.args)),(31,vI a.args.length),(32,vI k)] [(4,[.t (.str []),.nl 2]),(7,[.t (.str a.name),.ow 3000 0])] [(3000,⟨true,2,(a.args.take k).map fun x=>tmC (rvT ps x),0,true⟩)]) (fun k=>k <= a.args.length) (fun k=>a.args.length - k) 0 (zac ?_) (Ka _) ?_
   ·simp -implicitDefEqProofs only[go_sem]
   ·intro k hk
    by_cases hlt:k < a.args.length
    ·have hmin:min k a.args.length <= 4294967295:=by omega
     have HC:=H a.args[k] (Qe hlt)
     simp only [tmD,zaa a.args[k],zaa (rvT ps a.args[k])] at HC
     simp -implicitDefEqProofs only[go_sem,zad,hlt,zaa a.args[k]]
     refine drawn (by kernel_rfl) ?_
     simp -implicitDefEqProofs only[go_sem]
     refine zao (HC) (by simp -implicitDefEqProofs only[go_sem]) ?_
     simp -implicitDefEqProofs only[go_sem]
     refine zbi (by simp -implicitDefEqProofs only[go_sem]) ?_
     simp -implicitDefEqProofs only[go_sem]
     refine zj0 true (by simp -implicitDefEqProofs only[go_sem,ne_eq,Qb,Qp,hmin]) ?_
     simp -implicitDefEqProofs only[go_sem,ne_eq,Qb,Qp,hmin]
     refine ⟨by kernel_rfl,k + 1,hlt,by omega,zac ?_⟩
     simp -implicitDefEqProofs only[go_sem]
     rw [zal (by omega),Qf hlt,Q0,Q7,zaa (rvT ps a.args[k])]
     trivial
    ·have ht:a.args.take k = a.args:=Qk (by omega)
     simp -implicitDefEqProofs only[go_sem,hlt,ht]
theorem zp8 (ps:List (Str × Tm)) (hp:∀ p ∈ ps,p.2.wt <= 1048576):∀ a:Tm,a.wt <= 1048576->FC Tryz.prog 180 [tmD a,.one (mpS ps)] [tmD (rvT ps a)] :=
 zbf fun m xs ih hs=>by
  obtain ⟨h1,h2⟩:=Tm.wt_args hs
  exact znd ps hp (.mk m xs) h1 fun x hx=>ih x hx (h2 x hx)
def inF (ps:List (Str × Tm)):Fm->Fm:=Fm.fold fun o a v _ rs=>if (o == 3) = true then .mk 3 (rvT ps a) [] [] else .mk o a v rs
theorem qmk (ps:List (Str × Tm)) (f:Fm):inF ps f = if (f.op == 3) = true then .mk 3 (rvT ps f.atom) [] [] else .mk f.op f.atom f.var (f.parts.map (inF ps)):=Fm.fold_eq _ f
theorem qkh (a:Tm):GC Tryz.prog 179 [(true,tmD a)] [fmD (.mk 3 a [] [])]:=by
 simp only [tmD,zaa a,fmD,zdm]
 refine zrn Tryz.call179 Tryz.func179 rfl (by kernel_rfl) (by simp only [Qm,Qv,Tryz.ntmps179]; omega) (by simp [zbq,T.isPin]) ?_
 simp -implicitDefEqProofs only[go_sem,Tryz.results179]
theorem ztr (a:Fm) (g:FuncId) (R:List (List T)) (φ:Fm->Fm) (H:∀ x ∈ a.parts,FC Tryz.prog g [fmD x,.one (.ptr [.mp true R])] [fmD (φ x)]) (h0:a.atom.wt <= 1048576) (hs:a.parts.length <= 1048576):FC Tryz.prog 181 [fmD a,.one (.fn g [.ptr [.mp true R]])] [fmD (.mk a.op a.atom a.var (a.parts.map φ))]:=by
 simp only [fmD,zab a,zdm]
 refine zaj Tryz.call181 Tryz.func181 rfl (by kernel_rfl) (zax (by kernel_rfl)) ?_
 simp -implicitDefEqProofs only[go_sem,Tryz.results181]
 refine drawn (by kernel_rfl) ?_
 simp -implicitDefEqProofs only[go_sem]
 refine zao (zeg a.atom h0) (by simp -implicitDefEqProofs only[go_sem,zaa]) ?_
 simp -implicitDefEqProofs only[go_sem,zaa]
 refine ⟨by kernel_rfl,?_⟩
 refine zae (fun k:Nat=>hd [(1,.one (.t (.fn g [.ptr [.mp true R]]))),(4,.one (.bx 4 0)),(5,.one (.bx 5 0)),(17,vT (fmS a.parts)),(18,vI a.parts.length),(19,vI k)] [(4,[.t (.int .i64 0),.t (.str []),.nl 2,.t (.str []),.nl 5]),(5,[.t (.int .i64 a.op),.t (.str a.atom.name),.ow 385 0,.t (.str a.var),.ow 3000 0])]
  [(385,⟨true,2,a.atom.args.map tmC,0,true⟩),(3000,⟨true,5,(a.parts.take k).map fun x=>fmC (φ x),0,true⟩)]) (fun k=>k <= a.parts.length) (fun k=>a.parts.length - k) 0 (zac ?_) ?_ ?_
 ·simp -implicitDefEqProofs only[go_sem]
 ·simp
 ·intro k hk
  by_cases hlt:k < a.parts.length
  ·have hmin:min k a.parts.length <= 4294967295:=by omega
   simp -implicitDefEqProofs only[go_sem,zad,hlt,zab a.parts[k]]
   refine drawn (by kernel_rfl) ?_
   simp -implicitDefEqProofs only[go_sem]
   refine zao (H a.parts[k] (Qe hlt)) (by simp -implicitDefEqProofs only[go_sem,zab]) ?_
   simp -implicitDefEqProofs only[go_sem,zab]
   refine zbi (by simp -implicitDefEqProofs only[go_sem]) ?_
   simp -implicitDefEqProofs only[go_sem]
   refine zj0 true (by simp -implicitDefEqProofs only[go_sem,ne_eq,Qb,Qp,hmin]) ?_
   simp -implicitDefEqProofs only[go_sem,ne_eq,Qb,Qp,hmin]
   refine ⟨by kernel_rfl,k + 1,hlt,by omega,zac ?_⟩
   simp -implicitDefEqProofs only[go_sem]
   rw [zal (by omega),Qf hlt,Q0,Q7]
   simp only [zab]
   trivial
  ·have ht:a.parts.take k = a.parts:=Qk (by omega)
   simp -implicitDefEqProofs only[go_sem,hlt,ht]
   rfl
theorem zr2 (ps:List (Str × Tm)) (f:Fm) (H:FC Tryz.prog 110 [fmD f,.one (mpS ps)] [fmD (inF ps f)]):FC Tryz.prog 182 [fmD f,.one (.ptr [mpS ps])] [fmD (inF ps f)]:=by
 unfold mpS at H ⊢
 generalize ps.map bnC = R at H ⊢
 generalize inF ps f = r at H ⊢
 simp only [fmD,zab f,zab r] at H ⊢
 refine zaj Tryz.call182 Tryz.func182 rfl (by kernel_rfl) (zax (by kernel_rfl)) ?_
 simp -implicitDefEqProofs only[go_sem,Tryz.results182]
 refine callF (H) (by simp -implicitDefEqProofs only[go_sem]) ?_
 simp -implicitDefEqProofs only[go_sem]
theorem zus (ps:List (Str × Tm)) (hp:∀ p ∈ ps,p.2.wt <= 1048576) (f:Fm) (hw:f.wt <= 1048576) (H:∀ x ∈ f.parts,FC Tryz.prog 110 [fmD x,.one (mpS ps)] [fmD (inF ps x)]):FC Tryz.prog 110 [fmD f,.one (mpS ps)] [fmD (inF ps f)]:=by
 obtain ⟨w1,w2,w3⟩:=Fm.wt_parts hw
 have hv:=qmk ps f
 have HM:=ztr f 182 (ps.map bnC) (inF ps) (fun x hx=>zr2 ps x (H x hx)) w1 w2
 have HR:=zp8 ps hp f.atom w1
 have HA:=qkh (rvT ps f.atom)
 rw [hv]
 unfold mpS at HR ⊢
 generalize ps.map bnC = R at HM HR ⊢
 cases h3:f.op == 3
 ·rw [if_neg (by simp)]
  simp only [fmD,zab f,zdm] at HM ⊢
  refine zaj Tryz.call110 Tryz.func110 rfl (by kernel_rfl) (zax (by kernel_rfl)) ?_
  simp -implicitDefEqProofs only[go_sem,Tryz.results110,h3]
  refine callF (HM) (by simp -implicitDefEqProofs only[go_sem]) ?_
  simp -implicitDefEqProofs only[go_sem]
 ·rw [if_pos rfl]
  generalize rvT ps f.atom = r at HR HA ⊢
  simp only [fmD,zab f,zdm,tmD,zaa f.atom,zaa r] at HR HA ⊢
  refine zcq Tryz.call110 Tryz.func110 rfl (by kernel_rfl) (zax (by kernel_rfl)) ?_
  simp -implicitDefEqProofs only[go_sem,Tryz.results110,h3]
  refine callF (HR) (by simp -implicitDefEqProofs only[go_sem]) ?_
  simp -implicitDefEqProofs only[go_sem]
  refine zc7 [4] [11] [] (HA) (by simp -implicitDefEqProofs only[go_sem]) (by simp -implicitDefEqProofs only[go_sem]) (by simp -implicitDefEqProofs only[go_sem]) (by simp -implicitDefEqProofs only[go_sem]) ?_
  simp -implicitDefEqProofs only[go_sem]
theorem qar (ps:List (Str × Tm)) (hp:∀ p ∈ ps,p.2.wt <= 1048576):∀ f:Fm,f.wt <= 1048576->FC Tryz.prog 110 [fmD f,.one (mpS ps)] [fmD (inF ps f)] :=
 za8 fun o a v xs ih hs=>zus ps hp (.mk o a v xs) hs fun x hx=>ih x hx (Kg (zbt (a:=.mk o a v xs) hx) hs)
end
section
set_option maxRecDepth 4000
open Go.RowKit
def lkP (ps:List (Str × Tm)) (m:Str):Tm:=match ps.find? fun p=>p.1 == m with | some p=>p.2 | none=>.mk m []
theorem ziv (n:Str) (t:Tm) (ps:List (Str × Tm)) (m:Str):lkP ((n,t) :: ps) m = if (n == m) = true then t else lkP ps m:=by
 unfold lkP
 rw [List.find?_cons]
 cases hn:n == m
 ·simp only [hn,Qo,if_false]
 ·simp only [hn,if_true]
theorem qcn (ps:List (Str × Tm)) (m:Str):(∃ p ∈ ps,lkP ps m = p.2) \/ lkP ps m = .mk m []:=by
 unfold lkP
 split
 ·rename_i p h
  exact Or.inl ⟨p,List.mem_of_find?_eq_some h,rfl⟩
 ·exact Or.inr rfl
theorem zgn (l:List (Str × Tm)) {m:Str} (h:zay m = true) (xs:List Tm):zb9 l (.mk m xs) = lkP l m:=by rw [zfx]; exact if_pos h
theorem zgc (l:List (Str × Tm)) {m:Str} (h:¬ zay m = true) (xs:List Tm):zb9 l (.mk m xs) = .mk m (xs.map (zb9 l)):=by rw [zfx]; exact if_neg h
theorem rvT_v (l:List (Str × Tm)) (m:Str):rvT l (.mk m []) = lkP l m:=by rw [zwv]; exact if_pos rfl
theorem rvT_n (l:List (Str × Tm)) (m:Str) {xs:List Tm} (h:xs ≠ []):rvT l (.mk m xs) = .mk m (xs.map (rvT l)):=by rw [zwv]; exact if_neg fun e=>h (Qx.1 e)
theorem zms {m:Str} (h:zay m = true) (xs:List Tm):(Tm.mk m xs).names = decide (xs.length = 0):=by rw [Tm.names_eq]; exact if_pos h
theorem zju {m:Str} (h:¬ zay m = true) (xs:List Tm):(Tm.mk m xs).names = (zc4 m && decide (xs.length <= 4) && xs.all Tm.names):=by rw [Tm.names_eq]; exact if_neg h
theorem zmx (l:List (Str × Tm)):∀ t:Tm,voS t = []->zb9 l t = t:=zbf fun m xs ih h=>by
 have hv:voS (.mk m xs) = if zay m = true then [m] else (xs.map voS).flatten:=zkp _
 rw [hv] at h
 by_cases hm:zay m = true
 ·rw [if_pos hm] at h; cases h
 ·rw [if_neg hm] at h
  rw [zgc l hm]
  congr 1
  conv=>rhs; rw [<-J9 xs]
  refine Q6 fun x hx=>ih x hx ?_
  exact List.flatten_eq_nil_iff.1 h _ (List.mem_map_of_mem hx)
theorem zme (n:Str) (t:Tm) (ht:voS t = []) (ps:List (Str × Tm)):∀ a:Tm,zb9 ps (zb9 [(n,t)] a) = zb9 ((n,t) :: ps) a:=zbf fun m xs ih=>by
 by_cases hm:zay m = true
 ·rw [zgn _ hm,zgn _ hm,ziv,ziv]
  cases hn:n == m
  ·show zb9 ps (.mk m []) = lkP ps m
   exact zgn _ hm []
  ·exact zmx ps t ht
 ·rw [zgc _ hm,zgc _ hm,zgc _ hm,Ke]
  congr 1
  exact Q6 fun x hx=>ih x hx
theorem qey (ps:List (Str × Tm)) (hp:∀ p ∈ ps,zay p.1 = true):∀ a:Tm,a.names = true->rvT ps a = zb9 ps a:=zbf fun m xs ih h=>by
 by_cases hm:zay m = true
 ·rw [zms hm] at h
  have hx:xs = []:=Qx.1 (K4 h)
  subst hx
  rw [rvT_v,zgn _ hm]
 ·rw [zju hm] at h
  simp only [Qa] at h
  rw [zgc _ hm]
  by_cases hx:xs = []
  ·subst hx
   rw [rvT_v]
   unfold lkP
   have hf:(ps.find? fun p=>p.1 == m) = none:=by
    rw [List.find?_eq_none]
    intro p hpm e
    have:=hp p hpm
    rw [Ki.1 e] at this
    exact hm this
   rw [hf]; rfl
  ·rw [rvT_n _ _ hx]
   congr 1
   exact Q6 fun x hx=>ih x hx (Ql.1 h.2 x hx)
def nmA (a:Tm):Bool:=if (a.name == [61]) = true then decide (a.args.length = 2) && a.args.all Tm.names else zc4 a.name && a.names
theorem zc9 (a:Tm):a.atomOk = (nmA a && zdc a):=by
 unfold Tm.atomOk nmA Tm.good
 split
 ·rw [Bool.and_assoc,Bool.and_comm (zdc a),Bool.and_assoc]
 ·rw [Bool.and_comm (zdc a),Bool.and_assoc]
theorem zns {a:Tm} (h:nmA a = true):zay a.name = false /\ a.args.all Tm.names = true:=by
 unfold nmA at h
 split at h
 ·rename_i he
  have he:a.name = [61]:=by simpa using he
  rw [Qa] at h
  rw [he]
  exact ⟨by decide,h.2⟩
 ·rw [Qa] at h
  have hv:=qav h.1
  have h2:=h.2
  rw [Tm.names_eq,hv,if_neg (by simp)] at h2
  simp only [Qa] at h2
  exact ⟨hv,h2.2⟩
theorem qcx (ps:List (Str × Tm)) (hp:∀ p ∈ ps,zay p.1 = true) {a:Tm} (h:nmA a = true):rvT ps a = zb9 ps a:=by
 by_cases he:(a.name == [61]) = true
 ·have h2:=h
  unfold nmA at h2
  rw [if_pos he] at h2
  simp only [Qa,Qg] at h2
  obtain ⟨h3,h4⟩:=zns h
  rw [zwv,zfx,if_neg (by omega),h3,if_neg (by simp)]
  congr 1
  exact Q6 fun x hx=>qey ps hp x (Ql.1 h4 x hx)
 ·unfold nmA at h
  rw [if_neg he,Qa] at h
  exact qey ps hp a h.2
theorem zol (ps:List (Str × Tm)) (hp:∀ p ∈ ps,p.2.names = true):∀ a:Tm,a.names = true->(zb9 ps a).names = true:=zbf fun m xs ih h=>by
 by_cases hm:zay m = true
 ·rw [zgn _ hm]
  rcases qcn ps m with ⟨p,h1,h2⟩ | h2
  ·rw [h2]; exact hp p h1
  ·rw [h2,zms hm]; rfl
 ·rw [zju hm] at h
  simp only [Qa] at h
  rw [zgc _ hm,zju hm,Qb,J0]
  simp only [Qa]
  exact ⟨h.1,Ql.2 fun x hx=>ih x hx (Ql.1 h.2 x hx)⟩
theorem zqv (ps:List (Str × Tm)) (hp:∀ p ∈ ps,p.2.names = true) {a:Tm} (h:nmA a = true):nmA (zb9 ps a) = true:=by
 obtain ⟨h3,h4⟩:=zns h
 have e:zb9 ps a = .mk a.name (a.args.map (zb9 ps)):=by rw [zfx,h3,if_neg (by simp)]
 have hall:(a.args.map (zb9 ps)).all Tm.names = true:=by
  rw [J0]
  exact Ql.2 fun x hx=>zol ps hp x (Ql.1 h4 x hx)
 rw [e]
 unfold nmA at h ⊢
 show (if (a.name == [61]) = true then decide ((a.args.map (zb9 ps)).length = 2) && (a.args.map (zb9 ps)).all Tm.names else zc4 a.name && (Tm.mk a.name (a.args.map (zb9 ps))).names) = true
 by_cases he:(a.name == [61]) = true
 ·rw [if_pos he] at h ⊢
  rw [Qa] at h ⊢
  rw [Qb]
  exact ⟨h.1,hall⟩
 ·rw [if_neg he] at h ⊢
  rw [Qa] at h ⊢
  have:=zol ps hp a h.2
  rw [e] at this
  exact ⟨h.1,this⟩
theorem zf2 {α:Type} (f g:α->Nat):∀ (xs:List α) (i j:Nat),i <= j->(∀ x ∈ xs,f x <= g x)->(xs.map f).foldl max i <= (xs.map g).foldl max j
 | [],_,_,h,_=>h
 | x :: xs,i,j,h,H=>by
  rw [Qi,Qi,Jg,Jg]
  have:=H x (by simp)
  exact zf2 f g xs _ _ (by omega) fun y hy=>H y (by simp [hy])
theorem zje {α:Type} (f g:α->Nat):∀ (xs:List α),(∀ x ∈ xs,f x <= g x)->(xs.map f).sum <= (xs.map g).sum
 | [],_=>Qw _
 | x :: xs,H=>by
  have:=H x (by simp)
  have:=zje f g xs fun y hy=>H y (by simp [hy])
  rw [Qi,Qi,Q3,Q3]; omega
theorem zyu (ps:List (Str × Tm)):∀ a:Tm,a.names = true->a.nodes <= (zb9 ps a).nodes /\ a.depth <= (zb9 ps a).depth:=zbf fun m xs ih h=>by
 have hn:(Tm.mk m xs).nodes = 1 + (xs.map Tm.nodes).sum:=Tm.nodes_eq _
 have hd:(Tm.mk m xs).depth = (xs.map Tm.depth).foldl max 0 + 1:=Tm.depth_eq _
 by_cases hm:zay m = true
 ·rw [zms hm] at h
  have hx:xs = []:=Qx.1 (K4 h)
  subst hx
  rw [zgn _ hm,hn,hd]
  have h1:=(lkP ps m).nodes_eq
  have h2:=(lkP ps m).depth_eq
  simp only [Qy,Yj,List.foldl_nil]
  omega
 ·rw [zju hm] at h
  simp only [Qa] at h
  rw [zgc _ hm,hn,hd]
  have hn2:(Tm.mk m (xs.map (zb9 ps))).nodes = 1 + ((xs.map (zb9 ps)).map Tm.nodes).sum:=Tm.nodes_eq _
  have hd2:(Tm.mk m (xs.map (zb9 ps))).depth = ((xs.map (zb9 ps)).map Tm.depth).foldl max 0 + 1:=Tm.depth_eq _
  rw [hn2,hd2,Ke,Ke]
  have h1:=zje Tm.nodes (Tm.nodes ∘ zb9 ps) xs fun x hx=>(ih x hx (Ql.1 h.2 x hx)).1
  have h2:=zf2 Tm.depth (Tm.depth ∘ zb9 ps) xs 0 0 (Qw _) fun x hx=>(ih x hx (Ql.1 h.2 x hx)).2
  omega
theorem zjn (ps:List (Str × Tm)) {a:Tm} (h:nmA a = true) (hs:zdc (zb9 ps a) = true):zdc a = true:=by
 obtain ⟨h3,h4⟩:=zns h
 have e:zb9 ps a = .mk a.name (a.args.map (zb9 ps)):=by rw [zfx,h3,if_neg (by simp)]
 rw [e] at hs
 unfold zdc at hs ⊢
 simp only [Qa,Qg] at hs ⊢
 rw [Tm.nodes_eq,Tm.depth_eq] at hs
 rw [Tm.nodes_eq,Tm.depth_eq]
 have hs:1 + ((a.args.map (zb9 ps)).map Tm.nodes).sum <= 30 /\ ((a.args.map (zb9 ps)).map Tm.depth).foldl max 0 + 1 <= 8:=hs
 rw [Ke,Ke] at hs
 have h1:=zje Tm.nodes (Tm.nodes ∘ zb9 ps) a.args fun x hx=>(zyu ps x (Ql.1 h4 x hx)).1
 have h2:=zf2 Tm.depth (Tm.depth ∘ zb9 ps) a.args 0 0 (Qw _) fun x hx=>(zyu ps x (Ql.1 h4 x hx)).2
 omega
theorem zxp {α:Type} (f:α->Nat):∀ xs:List α,(xs.map fun x=>8 * f x).sum = 8 * (xs.map f).sum
 | []=>rfl
 | x :: xs=>by rw [Qi,Q3,zxp f xs,Qi,Q3]; omega
theorem zv9 {α:Type} (w:α->Nat):∀ xs:List α,(xs.map fun x=>1 + w x).sum = xs.length + (xs.map w).sum
 | []=>rfl
 | a :: l=>by rw [Qi,Q3,zv9 w l,Qm,Qi,Q3]; omega
theorem zl0 {xs:List Tm} (H:∀ x ∈ xs,1 + x.wt <= 8 * x.nodes):xs.length + (xs.map Tm.wt).sum <= 8 * (xs.map Tm.nodes).sum:=by
 rw [<-zv9,<-zxp]
 exact zje _ _ xs H
theorem zpa:∀ a:Tm,a.names = true->1 + a.wt <= 8 * a.nodes:=zbf fun m xs ih h=>by
 have hw:(Tm.mk m xs).wt = m.length + xs.length + (xs.map Tm.wt).sum:=Tm.wt_eq _
 have hn:(Tm.mk m xs).nodes = 1 + (xs.map Tm.nodes).sum:=Tm.nodes_eq _
 rw [hw,hn]
 by_cases hm:zay m = true
 ·rw [zms hm] at h
  have hx:xs = []:=Qx.1 (K4 h)
  subst hx
  unfold zay inB at hm
  simp only [Qa,Qg] at hm
  simp only [Qy,Yj,Qv]
  omega
 ·rw [zju hm] at h
  simp only [Qa] at h
  have h1:zc4 m = true:=h.1.1
  unfold zc4 inB at h1
  simp only [Qa,Qg] at h1
  have h2:=zl0 fun x hx=>ih x hx (Ql.1 h.2 x hx)
  omega
theorem zr7 {a:Tm} (h:a.atomOk = true):a.wt <= 512:=by
 rw [zc9,Qa] at h
 obtain ⟨h1,h2⟩:=h
 have h4:=(zns h1).2
 have hl:a.name.length <= 6:=by
  unfold nmA at h1
  split at h1
  ·rename_i he
   rw [Ki.1 he]; simp
  ·rw [Qa] at h1
   have h1:=h1.1
   unfold zc4 inB at h1
   simp only [Qa,Qg] at h1
   omega
 unfold zdc at h2
 simp only [Qa,Qg] at h2
 have hn:=a.nodes_eq
 have hw:=a.wt_eq
 have h5:=zl0 fun x hx=>zpa x (Ql.1 h4 x hx)
 omega
end
section
set_option maxRecDepth 4000
open Go.RowKit
def atF:Fm->List Tm:=Fm.fold fun o a _ _ rs=>if (o == 3) = true then [a] else rs.flatten
theorem qmu (f:Fm):atF f = if (f.op == 3) = true then [f.atom] else (f.parts.map atF).flatten:=Fm.fold_eq _ f
def evF:Fm->(Tm->Bool)->Bool:=Fm.fold fun o a _ _ rs v =>
 if (o == 1) = true then true else if (o == 3) = true then v a else if (o == 4) = true then !((rs.map fun r=>r v).getD 0 false)
 else if (o == 5) = true then (rs.map fun r=>r v).getD 0 false && (rs.map fun r=>r v).getD 1 false
 else if (o == 6) = true then (rs.map fun r=>r v).getD 0 false || (rs.map fun r=>r v).getD 1 false
 else if (o == 7) = true then !((rs.map fun r=>r v).getD 0 false) || (rs.map fun r=>r v).getD 1 false else false
def evs (f:Fm) (v:Tm->Bool):List Bool:=f.parts.map fun p=>evF p v
end
section
set_option maxRecDepth 4000
open Go.RowKit
theorem zp3 {α β:Type} (f:α->List β) (w:α->Nat):∀ (l:List α),(∀ x ∈ l,(f x).length <= w x)->(l.map f).flatten.length <= (l.map w).sum
 | [],_=>by simp
 | a :: l,h=>by
  have h1:=h a (by simp)
  have h2:=zp3 f w l fun x hx=>h x (by simp [hx])
  simp only [Qi,Q9,Qr,Q3]
  omega
theorem qfl {α:Type} (w:α->Nat):∀ xs:List α,(xs.map fun x=>1 + w x).sum = xs.length + (xs.map w).sum
 | []=>rfl
 | a :: l=>by rw [Qi,Q3,qfl w l,Qm,Qi,Q3]; omega
theorem qpn:∀ a:Tm,(voI a).length <= 1 + a.wt:=zbf fun n xs ih=>by
 rw [zxu]
 split
 ·simp only [Qm,Qv]; omega
 ·have h1:=zp3 voI (fun x=>1 + x.wt) xs ih
  have h2:=qfl Tm.wt xs
  have h3:=Tm.wt_eq (.mk n xs)
  simp only [Tm.name,Tm.args] at h3 ⊢
  omega
end
section
set_option maxRecDepth 4000
open Go.RowKit
theorem zvr {f:Fm} (hf:f.forms = true):∀ p ∈ f.parts,p.forms = true:=by
 rw [Fm.forms_eq,Qa] at hf
 exact Ql.1 hf.2
theorem zia {f:Fm} (hf:zbu f = true):∀ p ∈ f.parts,zbu p = true:=by
 rw [zfg,Qa] at hf
 exact Ql.1 hf.2
end
section
set_option maxRecDepth 4000
open Go.RowKit
def pF (ps:List (Str × Tm)):Fm->Fm:=Fm.fold fun o a v _ rs=>if (o == 3) = true then .mk o (zb9 ps a) v [] else .mk o (.mk [] []) v rs
theorem qo1 (ps:List (Str × Tm)) (f:Fm):pF ps f = if (f.op == 3) = true then .mk f.op (zb9 ps f.atom) f.var [] else .mk f.op (.mk [] []) f.var (f.parts.map (pF ps)):=Fm.fold_eq _ f
theorem qhy (ps:List (Str × Tm)) {o:Int} (h:(o == 3) = true) (a:Tm) (v:Str) (xs:List Fm):pF ps (.mk o a v xs) = .mk o (zb9 ps a) v []:=by rw [qo1]; exact if_pos h
theorem qhu (ps:List (Str × Tm)) {o:Int} (h:(o == 3) = false) (a:Tm) (v:Str) (xs:List Fm):pF ps (.mk o a v xs) = .mk o (.mk [] []) v (xs.map (pF ps)):=by rw [qo1]; exact if_neg (by rw [show (Fm.mk o a v xs).op = o from rfl,h]; simp)
theorem qna {o:Int} (h:(o == 3) = true) (a:Tm) (v:Str) (xs:List Fm):atF (.mk o a v xs) = [a]:=by rw [qmu]; exact if_pos h
theorem qoh {o:Int} (h:(o == 3) = false) (a:Tm) (v:Str) (xs:List Fm):atF (.mk o a v xs) = (xs.map atF).flatten:=by rw [qmu]; exact if_neg (by rw [show (Fm.mk o a v xs).op = o from rfl,h]; simp)
theorem pl_q {f:Fm} (h:zbu f = true):isQ f.op = false:=by
 rw [zfg,Qa] at h
 unfold isQ
 simpa using h.1
theorem ql3 (n:Str) (t:Tm) {o:Int} (h:(o == 3) = true) (a:Tm) (v:Str) (xs:List Fm):za5 n t (.mk o a v xs) = (.mk o (zb9 (bnd n t) a) v [],(zb9 (bnd n t) a).atomOk):=by rw [zic]; exact if_pos h
theorem ql6 (n:Str) (t:Tm) {o:Int} (h:(o == 3) = false) (hq:isQ o = false) (a:Tm) (v:Str) (xs:List Fm):za5 n t (.mk o a v xs) = (.mk o (.mk [] []) v ((xs.takeWhile fun x=>(za5 n t x).2).map fun x=>(za5 n t x).1),xs.all fun x=>(za5 n t x).2):=by
 rw [zic]
 have e1:((Fm.mk o a v xs).op == 3) = false:=h
 have e2:isQ (Fm.mk o a v xs).op = false:=hq
 rw [if_neg (by rw [e1]; simp),e2,Qj,Qj,if_neg (by simp),if_neg (by simp)]
 rfl
theorem zo5 {α β:Type} (f:α->List β) (p:β->Bool):∀ xs:List α,((xs.map f).flatten).all p = xs.all fun x=>(f x).all p
 | []=>rfl
 | x :: xs=>by rw [Qi,Q9,J5,zo5 f p xs,Ks]
theorem zj1 {α:Type} {p q:α->Bool}:∀ {xs:List α},(∀ x ∈ xs,p x = q x)->xs.all p = xs.all q
 | [],_=>rfl
 | x :: xs,h=>by rw [Ks,Ks,h x (by simp),zj1 fun y hy=>h y (by simp [hy])]
theorem qmg {α:Type} {p:α->Bool}:∀ {xs:List α},(∀ x ∈ xs,p x = true)->xs.takeWhile p = xs
 | [],_=>rfl
 | x :: xs,h=>by rw [List.takeWhile_cons,h x (by simp),if_pos rfl,qmg fun y hy=>h y (by simp [hy])]
theorem zli (n:Str) (t:Tm):∀ f:Fm,zbu f = true->(za5 n t f).2 = (atF f).all fun a=>(zb9 (bnd n t) a).atomOk:=za8 fun o a v ps ih hp=>by
 cases h3:o == 3
 ·rw [ql6 n t h3 (pl_q hp),qoh h3,zo5]
  exact zj1 fun x hx=>ih x hx (zia hp x hx)
 ·rw [ql3 n t h3,qna h3]
  simp
theorem zpf (n:Str) (t:Tm):∀ f:Fm,zbu f = true->(za5 n t f).2 = true->(za5 n t f).1 = pF (bnd n t) f:=za8 fun o a v ps ih hp ho=>by
 cases h3:o == 3
 ·rw [ql6 n t h3 (pl_q hp)] at ho ⊢
  rw [qhu _ h3]
  show Fm.mk o (.mk [] []) v _ = _
  have ho:∀ x ∈ ps,(za5 n t x).2 = true:=Ql.1 ho
  congr 1
  rw [qmg ho]
  exact Q6 fun x hx=>ih x hx (zia hp x hx) (ho x hx)
 ·rw [ql3 n t h3,qhy _ h3]
theorem zun (n:Str) (t:Tm) (ht:voS t = []) (ps:List (Str × Tm)):∀ f:Fm,pF ps (pF [(n,t)] f) = pF ((n,t) :: ps) f:=za8 fun o a v xs ih=>by
 cases h3:o == 3
 ·rw [qhu _ h3,qhu _ h3,qhu _ h3,Ke]
  congr 1
  exact Q6 fun x hx=>ih x hx
 ·rw [qhy _ h3,qhy _ h3,qhy _ h3,zme n t ht]
theorem zeq {o:Int} {a:Tm} {v:Str} {xs:List Fm} (h:(Fm.mk o a v xs).forms = true):(Fm.mk o a v xs).here = true /\ ∀ x ∈ xs,x.forms = true:=by
 rw [Fm.forms_eq,Qa] at h
 exact ⟨h.1,Ql.1 h.2⟩
theorem zkf {o:Int} (h3:(o == 3) = true) {a:Tm} {v:Str} {xs:List Fm} (h:(Fm.mk o a v xs).here = true):o = 3 /\ xs = [] /\ v = [] /\ a.atomOk = true:=by
 have e:o = 3:=by simpa using h3
 subst e
 rw [zu3] at h
 simp only [show ((3:Int) == 1 || (3:Int) == 2) = false from rfl,Qo,if_false,h3,if_true,Qa,Qg,Ki] at h
 exact ⟨rfl,Qx.1 h.1.1,h.2,h.1.2⟩
theorem qkd (a:Tm):(Fm.mk 3 a [] []).here = a.atomOk:=by
 rw [zu3]
 simp
theorem zk7 (ps:List (Str × Tm)):∀ f:Fm,zbu f = true->zbu (pF ps f) = true:=za8 fun o a v xs ih hp=>by
 have hq:=pl_q hp
 unfold isQ at hq
 have hq:(o == 8 || o == 9) = false:=hq
 cases h3:o == 3
 ·rw [qhu _ h3,zfg]
  show (!(o == 8 || o == 9) && (xs.map (pF ps)).all zbu) = true
  rw [hq,J0]
  exact Ql.2 fun x hx=>ih x hx (zia hp x hx)
 ·rw [qhy _ h3,zfg]
  show (!(o == 8 || o == 9) && [].all zbu) = true
  rw [hq]; rfl
theorem zfs (ps:List (Str × Tm)):∀ f:Fm,f.forms = true->(pF ps f).forms = (atF f).all fun a=>(zb9 ps a).atomOk:=za8 fun o a v xs ih hf=>by
 obtain ⟨hh,hx⟩:=zeq hf
 cases h3:o == 3
 ·have h3':((Fm.mk o a v xs).op == 3) = false:=h3
  have ha:a = .mk [] []:=zer hh h3'
  subst ha
  rw [qhu _ h3,qoh h3,zo5,ze2,show (Fm.mk o (.mk [] []) v (xs.map (pF ps))).here = true from zi6 (f:=.mk o (.mk [] []) v xs) hh h3' (by rw [Qb]; rfl),Qn,J0]
  exact zj1 fun x hm=>ih x hm (hx x hm)
 ·obtain ⟨rfl,rfl,rfl,h4⟩:=zkf h3 hh
  rw [qhy _ h3,qna h3,ze2,qkd]
  simp
theorem zyr (ps:List (Str × Tm)):∀ f:Fm,f.forms = true->(pF ps f).nodes = f.nodes:=za8 fun o a v xs ih hf=>by
 obtain ⟨hh,hx⟩:=zeq hf
 cases h3:o == 3
 ·rw [qhu _ h3,Fm.nodes_eq,Fm.nodes_eq]
  show 1 + ((xs.map (pF ps)).map Fm.nodes).sum = 1 + (xs.map Fm.nodes).sum
  rw [Ke,show xs.map (Fm.nodes ∘ pF ps) = xs.map Fm.nodes from Q6 fun x hm=>ih x hm (hx x hm)]
 ·obtain ⟨rfl,rfl,rfl,h4⟩:=zkf h3 hh
  rw [qhy _ h3]; rfl
theorem qlx:∀ a:Tm,a.names = true->zb9 [] a = a:=zbf fun m xs ih h=>by
 by_cases hm:zay m = true
 ·rw [zms hm] at h
  have hx:xs = []:=Qx.1 (K4 h)
  subst hx
  rw [zgn _ hm]; rfl
 ·rw [zju hm] at h
  simp only [Qa] at h
  rw [zgc _ hm]
  congr 1
  conv=>rhs; rw [<-J9 xs]
  exact Q6 fun x hx=>ih x hx (Ql.1 h.2 x hx)
theorem qah {a:Tm} (h:nmA a = true):zb9 [] a = a:=by
 obtain ⟨h3,h4⟩:=zns h
 cases a with
 | mk m xs =>
  have h3:zay m = false:=h3
  have h4:xs.all Tm.names = true:=h4
  rw [zgc _ (by rw [h3]; simp)]
  congr 1
  conv=>rhs; rw [<-J9 xs]
  exact Q6 fun x hx=>qlx x (Ql.1 h4 x hx)
theorem qnm:∀ f:Fm,f.forms = true->∀ a ∈ atF f,a.atomOk = true:=za8 fun o a v xs ih hf b hb=>by
 obtain ⟨hh,hx⟩:=zeq hf
 cases h3:o == 3
 ·rw [qoh h3] at hb
  obtain ⟨l,hl,hb⟩:=List.mem_flatten.1 hb
  obtain ⟨x,hm,rfl⟩:=Kf.1 hl
  exact ih x hm (hx x hm) b hb
 ·obtain ⟨rfl,rfl,rfl,h4⟩:=zkf h3 hh
  rw [qna h3,Q5] at hb
  rw [hb]; exact h4
theorem zfl {a:Tm} (h:a.atomOk = true):nmA a = true:=by rw [zc9,Qa] at h; exact h.1
theorem pF_nil:∀ f:Fm,f.forms = true->pF [] f = f:=za8 fun o a v xs ih hf=>by
 obtain ⟨hh,hx⟩:=zeq hf
 cases h3:o == 3
 ·have h3':((Fm.mk o a v xs).op == 3) = false:=h3
  have ha:a = .mk [] []:=zer hh h3'
  subst ha
  rw [qhu _ h3]
  congr 1
  conv=>rhs; rw [<-J9 xs]
  exact Q6 fun x hm=>ih x hm (hx x hm)
 ·obtain ⟨rfl,rfl,rfl,h4⟩:=zkf h3 hh
  rw [qhy _ h3,qah (zfl h4)]
theorem inF_is (ps:List (Str × Tm)) (hp:∀ p ∈ ps,zay p.1 = true):∀ f:Fm,f.forms = true->inF ps f = pF ps f:=za8 fun o a v xs ih hf=>by
 obtain ⟨hh,hx⟩:=zeq hf
 rw [qmk]
 cases h3:o == 3
 ·have h3':((Fm.mk o a v xs).op == 3) = false:=h3
  have ha:a = .mk [] []:=zer hh h3'
  subst ha
  rw [qhu _ h3,h3',if_neg (by simp)]
  show Fm.mk o (.mk [] []) v (xs.map (inF ps)) = _
  congr 1
  exact Q6 fun x hm=>ih x hm (hx x hm)
 ·obtain ⟨rfl,rfl,rfl,h4⟩:=zkf h3 hh
  rw [qhy _ h3]
  show Fm.mk 3 (rvT ps a) [] [] = _
  rw [qcx ps hp (zfl h4)]
structure Grd (ps:List (Str × Tm)):Prop where
 v:∀ p ∈ ps,zay p.1 = true
 g:∀ p ∈ ps,p.2.good = true /\ voS p.2 = []
theorem Grd.tail {p:Str × Tm} {ps:List (Str × Tm)} (h:Grd (p :: ps)):Grd ps:=⟨fun q hq=>h.v q (by simp [hq]),fun q hq=>h.g q (by simp [hq])⟩
theorem zhl {t:Tm} (h:t.good = true):t.names = true:=by unfold Tm.good at h; rw [Qa] at h; exact h.2
theorem Grd.names {ps:List (Str × Tm)} (h:Grd ps):∀ p ∈ ps,p.2.names = true:=fun p hp=>zhl (h.g p hp).1
theorem qcl {n:Str} {t:Tm} (hn:zay n = true) (ht:voS t = []):bnd n t = [(n,t)]:=by
 unfold bnd
 rw [if_neg]
 intro e
 rw [zkp,Ki.1 e,if_pos hn] at ht
 cases ht
def zyp:Fm->List (Str × Tm)->Fm × Bool
 | g,[]=>(g,true)
 | g,(n,t) :: ps=>if (za5 n t g).2 = true then zyp (za5 n t g).1 ps else ((za5 n t g).1,false)
theorem zxw:∀ {ps:List (Str × Tm)} {f:Fm},Grd ps->f.forms = true->zbu f = true->(zyp f ps).2 = true->(zyp f ps).1 = pF ps f /\ (pF ps f).forms = true
 | [],f,_,hf,_,_=>by rw [pF_nil f hf]; exact ⟨rfl,hf⟩
 | (n,t) :: ps,f,hg,hf,hp,h=>by
  have hn:=hg.v (n,t) (by simp)
  obtain ⟨ht,hv⟩:=hg.g (n,t) (by simp)
  have hb:=qcl hn hv
  unfold zyp at h ⊢
  split at h
  ·rename_i ho
   rw [if_pos ho]
   have hi:=zpf n t f hp ho
   rw [zli n t f hp,<-zfs _ f hf,hb] at ho
   rw [hi,hb] at h ⊢
   obtain ⟨h1,h2⟩:=zxw hg.tail ho (zk7 _ f hp) h
   rw [zun n t hv] at h1 h2
   exact ⟨h1,h2⟩
  ·cases h
theorem qg4:∀ {ps:List (Str × Tm)} {f:Fm},Grd ps->f.forms = true->zbu f = true->(pF ps f).forms = true->(zyp f ps).2 = true
 | [],f,_,_,_,_=>rfl
 | (n,t) :: ps,f,hg,hf,hp,h=>by
  have hn:=hg.v (n,t) (by simp)
  obtain ⟨ht,hv⟩:=hg.g (n,t) (by simp)
  have hb:=qcl hn hv
  have hnm:∀ p ∈ [(n,t)],p.2.names = true:=fun p hp=>by rw [Q5.1 hp]; exact zhl ht
  have ho:(za5 n t f).2 = true:=by
   rw [zli n t f hp,hb]
   rw [zfs _ f hf] at h
   refine Ql.2 fun a ha=>?_
   have h1:=Ql.1 h a ha
   rw [<-zme n t hv,zc9,Qa] at h1
   have h2:=zqv [(n,t)] hnm (zfl (qnm f hf a ha))
   rw [zc9,h2,Qn]
   exact zjn ps h2 h1.2
  unfold zyp
  rw [if_pos ho,zpf n t f hp ho,hb]
  have h1:(pF [(n,t)] f).forms = true:=by rw [zli n t f hp,<-zfs _ f hf,hb] at ho; exact ho
  exact qg4 hg.tail h1 (zk7 _ f hp) (by rw [zun n t hv]; exact h)
theorem zxi {ps:List (Str × Tm)} {f:Fm} (hg:Grd ps) (hf:f.forms = true) (hp:zbu f = true):((zyp f ps).2 && (zyp f ps).1.good) = (pF ps f).good:=by
 rw [Kk,Qa]
 constructor
 ·rintro ⟨h1,h2⟩
  rw [(zxw hg hf hp h1).1] at h2
  exact h2
 ·intro h
  have h1:=qg4 hg hf hp (zbw h)
  exact ⟨h1,by rw [(zxw hg hf hp h1).1]; exact h⟩
theorem zpi:∀ f:Fm,f.forms = true->f.wt <= 520 * f.nodes:=za8 fun o a v xs ih hf=>by
 obtain ⟨hh,hx⟩:=zeq hf
 have hw:(Fm.mk o a v xs).wt = a.wt + v.length + xs.length + (xs.map Fm.wt).sum:=Fm.wt_eq _
 have hn:(Fm.mk o a v xs).nodes = 1 + (xs.map Fm.nodes).sum:=Fm.nodes_eq _
 have hs:(xs.map Fm.wt).sum <= (xs.map fun x=>520 * x.nodes).sum:=zje _ _ xs fun x hm=>ih x hm (hx x hm)
 have hs2:(xs.map fun x=>520 * x.nodes).sum = 520 * (xs.map Fm.nodes).sum:=by
  clear hs hw hn hx hh hf ih
  induction xs with
  | nil=>rfl
  | cons x xs ih2=>rw [Qi,Q3,ih2,Qi,Q3]; omega
 rw [hw,hn]
 cases h3:o == 3
 ·have h3':((Fm.mk o a v xs).op == 3) = false:=h3
  have ha:a = .mk [] []:=zer hh h3'
  have haw:a.wt = 0:=by rw [ha]; rfl
  have hl:xs.length <= 2 /\ v.length <= 4:=by
   rcases zie hf with ⟨h1,h2⟩ | ⟨p,h1,_⟩ | ⟨o',p,q,_,h1,_⟩ | ⟨o',v',p,ho,h1,_⟩
   ·have h1:xs = []:=h1
    refine ⟨by rw [h1]; simp,?_⟩
    have:=zq2 hh (by rcases h2 with h | h | h <;> (rw [h]; rfl))
    have this:v = []:=this
    rw [this]; simp
   ·cases h1; exact ⟨by simp,by simp⟩
   ·cases h1; exact ⟨by simp,by simp⟩
   ·cases h1
    refine ⟨by simp,?_⟩
    have:=zmo hh (by rcases ho with h | h <;> (rw [show (Fm.mk o _ v [p]).op = o from rfl,h]; rfl))
    have this:zay v = true:=this
    unfold zay inB at this
    simp only [Qa,Qg] at this
    omega
  omega
 ·obtain ⟨rfl,rfl,rfl,h4⟩:=zkf h3 hh
  have:=zr7 h4
  simp only [Qv,Qy,Yj]
  omega
theorem zpl {f:Fm} (h:f.good = true):f.wt <= 20800:=by
 have h1:=zpi f (zbw h)
 unfold Fm.good at h
 rw [Qa,Qg] at h
 omega
end
section
set_option maxRecDepth 4000
open Go.RowKit
def grT (t:Tm):Bool:=t.good && decide (voS t = [])
theorem zrl (l:List Str):(zci [] l).length = 0 ↔ l = []:=by
 constructor
 ·intro h
  cases l with
  | nil=>rfl
  | cons a l =>
   exfalso
   have h1:∀ (l ys:List Str),ys ≠ []->zci ys l ≠ []:=fun l=>by
    induction l with
    | nil=>exact fun ys h=>h
    | cons a l ih =>
     intro ys h
     show zci (zoe ys a) l ≠ []
     refine ih _ ?_
     unfold zoe
     split
     ·exact h
     ·simp
   have:zci [] (a :: l) = zci (zoe [] a) l:=rfl
   rw [this] at h
   exact h1 l (zoe [] a) (by unfold zoe; simp) (Qx.1 h)
 ·rintro rfl; rfl
theorem qp9 {t:Tm} (h:t.good = true):voI t = voS t /\ t.ne = true:=zqr t (zhl h)
theorem zng (t:Tm) (hw:t.wt <= 1048576):FC Tryz.prog 109 [tmD t] [bD (grT t)]:=by
 have HI:=zee t (by omega)
 have hv:grT t = (t.good && decide (voS t = [])):=rfl
 rw [hv]
 cases hg:t.good
 ·rw [hg] at HI
  rw [Qj]
  simp only [tmD,zaa t] at HI ⊢
  refine zcq Tryz.call109 Tryz.func109 rfl (by kernel_rfl) (zax (by kernel_rfl)) ?_
  simp -implicitDefEqProofs only[go_sem,Tryz.results109]
  refine callF (HI) (by simp -implicitDefEqProofs only[go_sem]) ?_
  simp -implicitDefEqProofs only[go_sem]
 ·rw [hg] at HI
  rw [Qn]
  obtain ⟨h1,h2⟩:=qp9 hg
  have hl:=qpn t
  have HC:=ztm t h2 (by omega) [] (by simp only [Qv]; omega)
  have hd:(((zci [] (voI t)).length:Int) == 0) = decide (voS t = []):=by
   rw [Kk,Ki,Qg,<-h1,<-zrl]
   omega
  rw [show zca [] = .sl 1 [] from rfl] at HC
  generalize zci [] (voI t) = L at HC hd
  simp only [tmD,zaa t] at HI HC ⊢
  refine zcq Tryz.call109 Tryz.func109 rfl (by kernel_rfl) (zax (by kernel_rfl)) ?_
  simp -implicitDefEqProofs only[go_sem,Tryz.results109]
  refine callF (HI) (by simp -implicitDefEqProofs only[go_sem]) ?_
  simp -implicitDefEqProofs only[go_sem]
  refine zc7 [1,4,5] [6] [] (HC) (by simp -implicitDefEqProofs only[go_sem,hd]) (by simp -implicitDefEqProofs only[go_sem,hd]) (by simp -implicitDefEqProofs only[go_sem,hd]) (by simp -implicitDefEqProofs only[go_sem,hd]) ?_
  simp -implicitDefEqProofs only[go_sem,hd]
theorem qlp:∀ a:Tm,(voS a).length <= 1 + a.wt:=zbf fun n xs ih=>by
 rw [zkp]
 split
 ·simp only [Qm,Qv]; omega
 ·have h1:=zp3 voS (fun x=>1 + x.wt) xs ih
  have h2:=zv9 Tm.wt xs
  have h3:(Tm.mk n xs).wt = n.length + xs.length + (xs.map Tm.wt).sum:=Tm.wt_eq _
  simp only [Tm.args]
  omega
theorem zua (t:Tm) (hw:t.wt <= 1048576):FC Tryz.prog 167 [tmD t] [bD (decide (voS t = []))]:=by
 have hn:=zey t
 have hl:=qlp t
 have HV:=zqs t (by omega) (by omega)
 have hd:(((zba [] (voS t)).length:Int) == 0) = decide (voS t = []):=by
  rw [Kk,Ki,Qg,<-zrl,<-zpz,zgw]
  omega
 generalize zba [] (voS t) = L at HV hd
 simp only [tmD,zaa t] at HV ⊢
 refine zaj Tryz.call167 Tryz.func167 rfl (by kernel_rfl) (zax (by kernel_rfl)) ?_
 simp -implicitDefEqProofs only[go_sem,Tryz.results167]
 refine callF (HV) (by simp -implicitDefEqProofs only[go_sem,hd]) ?_
 simp -implicitDefEqProofs only[go_sem,hd]
theorem zzj (ts:List Tm) (hw:zec ts <= 1048576) (hl:ts.length <= 60):FC Tryz.prog 94 [.one (tmS ts)] [bD (ts.all grT)]:=by
 have h60:decide ((ts.length:Int) <= 60) = true:=by simp; omega
 refine zaj Tryz.call94 Tryz.func94 rfl (by kernel_rfl) (zax (by kernel_rfl)) ?_
 simp -implicitDefEqProofs only[go_sem,Tryz.results94]
 refine zae (fun k:Nat=>hd [(0,vT (tmS ts)),(3,vI k)] [] []) (fun k=>k <= ts.length /\ (ts.take k).all grT = true) (fun k=>ts.length - k) 0 (zac ?_) ⟨Ka _,rfl⟩ ?_
 ·simp -implicitDefEqProofs only[go_sem]
 ·intro k ⟨hk,hT⟩
  have hk60:((k:Int) <= 60) = True:=by simp; omega
  by_cases hlt:k < ts.length
  ·have htw:=zbo Tm.wt ts ts[k] (Qe hlt)
   have hW:zec ts = ts.length + (ts.map Tm.wt).sum:=rfl
   have HG:=zk6 ts[k] (by omega)
   have HR:=zua ts[k] (by omega)
   have hv:grT ts[k] = (ts[k].good && decide (voS ts[k] = [])):=rfl
   simp only [tmD,zaa ts[k]] at HG HR
   have hbad:grT ts[k] = false->ts.all grT = false:=fun h=>Jq.2 ⟨_,Qe hlt,by rw [h]; simp⟩
   have hnx:grT ts[k] = true->(ts.take (k + 1)).all grT = true:=fun h=>by
    rw [Qf hlt,J5,hT]; simp [h]
   cases h1:ts[k].good
   ·rw [h1] at HG
    rw [h1,Qj] at hv
    rw [hbad hv]
    simp -implicitDefEqProofs only[go_sem,hlt,hk60,zad,zaa ts[k]]
    refine callF (HG) (by simp -implicitDefEqProofs only[go_sem]) ?_
    simp -implicitDefEqProofs only[go_sem]
   ·rw [h1] at HG
    rw [h1,Qn] at hv
    simp -implicitDefEqProofs only[go_sem,hlt,hk60,zad,zaa ts[k]]
    refine callF (HG) (by simp -implicitDefEqProofs only[go_sem]) ?_
    simp -implicitDefEqProofs only[go_sem]
    simp -implicitDefEqProofs only[go_sem,hlt,zad,zaa ts[k]]
    refine callF (HR) (by simp -implicitDefEqProofs only[go_sem]) ?_
    simp -implicitDefEqProofs only[go_sem]
    refine ⟨fun h=>?_,fun h=>?_⟩
    ·rw [hbad (by rw [hv]; simpa using h)]
    ·refine ⟨k + 1,⟨hlt,hnx (by rw [hv]; simpa using h)⟩,by omega,zac ?_⟩
     simp -implicitDefEqProofs only[go_sem]
     rw [zal (by omega)]
  ·rw [Qk (by omega)] at hT
   rw [hT]
   simp -implicitDefEqProofs only[go_sem,hlt,h60]
theorem zgh:∀ f:Fm,(exN f).2.nodes <= f.nodes /\ ∀ n ∈ (exN f).1,f.forms = true->zay n = true:=za8 fun o a v ps ih=>by
 cases h9:(Fm.mk o a v ps).op == 9
 ·rw [zku h9]
  exact ⟨Qw _,fun n hn=>by cases hn⟩
 ·by_cases hl:0 < ps.length
  ·have e:exN (.mk o a v ps) = ((Fm.mk o a v ps).var :: (exN ps[0]).1,(exN ps[0]).2):=by
    rw [exN,dif_pos ⟨by simpa using h9,hl⟩]; rfl
   rw [e]
   have hm:ps[0] ∈ ps:=Qe hl
   have h1:=(ih ps[0] hm).1
   have h2:=zdb (f:=.mk o a v ps) hm
   refine ⟨by show (exN ps[0]).2.nodes <= _; omega,fun n hn hf=>?_⟩
   obtain ⟨hh,hx⟩:=zeq hf
   rcases Qu.1 hn with rfl | hn
   ·exact zmo hh (by unfold isQ; rw [h9,Bool.or_true])
   ·exact (ih ps[0] hm).2 n hn (hx _ hm)
  ·have e:exN (.mk o a v ps) = ([],.mk o a v ps):=by
    rw [exN,dif_neg]
    rintro ⟨_,h⟩
    exact hl h
   rw [e]
   exact ⟨Qw _,fun n hn=>by cases hn⟩
theorem pF_wt (ps:List (Str × Tm)) (W:Nat) (hW:∀ p ∈ ps,p.2.wt <= W):∀ f:Fm,f.forms = true->(pF ps f).wt <= (520 + 30 * W) * f.nodes:=za8 fun o a v xs ih hf=>by
 obtain ⟨hh,hx⟩:=zeq hf
 have hn:(Fm.mk o a v xs).nodes = 1 + (xs.map Fm.nodes).sum:=Fm.nodes_eq _
 have hs:(xs.map fun x=>(pF ps x).wt).sum <= (xs.map fun x=>(520 + 30 * W) * x.nodes).sum:=zje _ _ xs fun x hm=>ih x hm (hx x hm)
 have hs2:(xs.map fun x=>(520 + 30 * W) * x.nodes).sum = (520 + 30 * W) * (xs.map Fm.nodes).sum:=by
  generalize 520 + 30 * W = K
  clear hs hn hx hh hf ih
  induction xs with
  | nil=>rfl
  | cons x xs ih2=>rw [Qi,Q3,ih2,Qi,Q3,Nat.mul_add]
 rw [hn,Nat.mul_add,Nat.mul_one]
 cases h3:o == 3
 ·have hw0:=zpi _ hf
  rw [qhu _ h3]
  have hw:(Fm.mk o (.mk [] []) v (xs.map (pF ps))).wt = 0 + v.length + (xs.map (pF ps)).length + ((xs.map (pF ps)).map Fm.wt).sum:=Fm.wt_eq _
  have hl:xs.length <= 2 /\ v.length <= 4:=by
   rcases zie hf with ⟨h1,h2⟩ | ⟨p,h1,_⟩ | ⟨o',p,q,_,h1,_⟩ | ⟨o',v',p,ho,h1,_⟩
   ·have h1:xs = []:=h1
    refine ⟨by rw [h1]; simp,?_⟩
    have:=zq2 hh (by rcases h2 with h | h | h <;> (rw [h]; rfl))
    have this:v = []:=this
    rw [this]; simp
   ·cases h1; exact ⟨by simp,by simp⟩
   ·cases h1; exact ⟨by simp,by simp⟩
   ·cases h1
    refine ⟨by simp,?_⟩
    have:=zmo hh (by rcases ho with h | h <;> (rw [show (Fm.mk o _ v [p]).op = o from rfl,h]; rfl))
    have this:zay v = true:=this
    unfold zay inB at this
    simp only [Qa,Qg] at this
    omega
  have e2:((xs.map (pF ps)).map Fm.wt).sum = (xs.map fun x=>(pF ps x).wt).sum:=by rw [Ke]; rfl
  rw [hw,Qb,e2]
  omega
 ·obtain ⟨rfl,rfl,rfl,h4⟩:=zkf h3 hh
  rw [qhy _ h3]
  have hw:(Fm.mk 3 (zb9 ps a) [] []).wt = (zb9 ps a).wt + 0 + 0 + 0:=Fm.wt_eq _
  have h5:=qfj ps W hW a
  have h6:=zr7 h4
  have h7:a.nodes <= 30:=by
   rw [zc9,Qa] at h4
   have h8:=h4.2
   unfold zdc at h8
   simp only [Qa,Qg] at h8
   exact h8.1
  have h8:a.nodes * W <= 30 * W:=K1 W h7
  rw [hw]
  omega
theorem zhq {t:Tm} (h:t.good = true):t.wt <= 240:=by
 have h1:=zpa t (zhl h)
 unfold Tm.good zdc at h
 simp only [Qa,Qg] at h
 omega
theorem zq4 {ns:List Str} {ts:List Tm} (hv:∀ n ∈ ns,zay n = true) (ht:ts.all grT = true):Grd (ns.zip ts):=by
 refine ⟨fun p hp=>hv _ (List.of_mem_zip hp).1,fun p hp=>?_⟩
 have:=Ql.1 ht _ (List.of_mem_zip hp).2
 unfold grT at this
 rw [Qa,Qg] at this
 exact this
theorem qo7 {ps:List (Str × Tm)} (h:Grd ps) {g:Fm} (hf:g.forms = true) (hn:g.nodes <= 40):(pF ps g).wt <= 308800:=by
 have h1:=pF_wt ps 240 (fun p hp=>zhq (h.g p hp).1) g hf
 have h2:(520 + 30 * 240) * g.nodes <= (520 + 30 * 240) * 40:=Nat.mul_le_mul_left _ hn
 omega
end
section
set_option maxRecDepth 4000
open Go.RowKit
def okT (n:Nat) (ts:List Tm):Bool:=decide (ts.length = n) && ts.all grT
def zxg (tss:List (List Tm)):Nat:=tss.length + (tss.map zec).sum
def zv4 (f:Fm) (ts:List Tm):Fm:=pF ((exN f).1.zip ts) (exN f).2
def zzz (f:Fm) (tss:List (List Tm)):Fm:=zdk 6 (tss.map (zv4 f)) (mkF 2 [])
noncomputable def qh0 (f:Fm) (tss:List (List Tm)):Bool:=qli f && tss.all (okT (exN f).1.length)
noncomputable def hdB (f:Fm) (tss:List (List Tm)):Bool:=qh0 f tss && (zzz f tss).good
noncomputable def hdR (f:Fm) (tss:List (List Tm)):Fm:=if hdB f tss = true then zzz f tss else mkF 0 []
theorem zj8 {f:Fm} (h:qli f = true):f.good = true /\ (exN f).1.Nodup /\ zbu (exN f).2 = true /\ (exN f).2.forms = true:=by
 unfold qli at h
 simp only [Qa,Qg] at h
 exact ⟨h.1.1.1,h.1.2,h.2,zm0 f (zbw h.1.1.1)⟩
theorem zud (t:Tm) (hw:t.wt <= 1048576):FC Tryz.prog 108 [tmD t] [bD (!grT t)]:=by
 have H:=zng t hw
 simp only [tmD,zaa t] at H ⊢
 refine zaj Tryz.call108 Tryz.func108 rfl (by kernel_rfl) (zax (by kernel_rfl)) ?_
 simp -implicitDefEqProofs only[go_sem,Tryz.results108]
 refine callF (H) (by simp -implicitDefEqProofs only[go_sem]) ?_
 simp -implicitDefEqProofs only[go_sem]
set_option maxHeartbeats 4000000 in
theorem qlk (f:Fm) (hw:f.wt <= 1048576) (tss:List (List Tm)) (ht:zxg tss <= 1048576):FC Tryz.prog 46 [fmD f,.one (zht tss)] [fmD (hdR f tss),bD (hdB f tss)]:=by
 have HH:=zth f hw
 cases hh:qli f
 ·have e1:hdB f tss = false:=by unfold hdB qh0; rw [hh]; rfl
  unfold hdR
  rw [e1,if_neg (by simp)]
  rw [hh] at HH
  simp only [fmD,zab f,zcg,Qy] at HH ⊢
  refine zcq Tryz.call46 Tryz.func46 rfl (by kernel_rfl) (zax (by kernel_rfl)) ?_
  simp -implicitDefEqProofs only[go_sem,Tryz.results46]
  refine callF (HH) (by simp -implicitDefEqProofs only[go_sem]) ?_
  simp -implicitDefEqProofs only[go_sem]
 ·rw [hh] at HH
  obtain ⟨hg,hnd,hpl,hfo⟩:=zj8 hh
  have HP:=zy6 f (zbw hg) hw
  have hbw:=Kg (qhc f) (zpl hg)
  have hfn:f.nodes <= 40:=by unfold Fm.good at hg; rw [Qa,Qg] at hg; exact hg.1
  have hvn:∀ n ∈ (exN f).1,zay n = true:=fun n hn=>(zgh f).2 n hn (zbw hg)
  have hgn:=Kg (zgh f).1 hfn
  have hlen:=ze8 f
  have hHG:zzz f tss = zdk 6 (tss.map (zv4 f)) (mkF 2 []):=rfl
  have hBv:hdB f tss = (qh0 f tss && (zzz f tss).good):=rfl
  have hRv:hdR f tss = if hdB f tss = true then zzz f tss else mkF 0 []:=rfl
  have hvO:qh0 f tss = tss.all (okT (exN f).1.length):=by unfold qh0; rw [hh,Qn]
  rw [show tss.map (zv4 f) = tss.map fun ts=>pF ((exN f).1.zip ts) (exN f).2 from rfl] at hHG
  generalize exN f = B at HP hnd hpl hfo hbw hvO hvn hgn hlen hHG
  obtain ⟨ns,g⟩:=B
  simp only at HP hnd hpl hfo hbw hvO hvn hgn hlen hHG
  have hTL:zxg tss = tss.length + (tss.map zec).sum:=rfl
  simp only [fmD,zab f,zab g] at HH HP ⊢
  refine qnn Tryz.call46 Tryz.func46 rfl (zax (by kernel_rfl)) ?_
  refine zeu.cut 3 rfl (by kernel_rfl) ?_
  simp -implicitDefEqProofs only[go_sem,Tryz.results46]
  refine callF (HH) (by simp -implicitDefEqProofs only[go_sem]) ?_
  simp -implicitDefEqProofs only[go_sem]
  refine zoj [1,2,4,5] [19] [] (HP) (by simp -implicitDefEqProofs only[go_sem]) (by simp -implicitDefEqProofs only[go_sem]) (by simp -implicitDefEqProofs only[go_sem]) (by simp -implicitDefEqProofs only[go_sem]) ?_
  simp -implicitDefEqProofs only[go_sem]
  refine zbx (by simp -implicitDefEqProofs only[go_sem]) ?_
  simp -implicitDefEqProofs only[go_sem]
  refine zeu.seq ?_
  refine zeu.cut 0 rfl (by kernel_rfl) ?_
  simp -implicitDefEqProofs only[go_sem]
  refine zeu.block ?_
  refine zeu.loop (fun k:Nat=>hd [(4,.one (.bx 4 0)),(5,vB false),(6,.one (.ow 640 0)),(7,.one (.bx 7 0)),(8,.one (.ow 736 0)),(24,.one (.rn (zht tss))),(25,vI tss.length),(26,vI k)] [(4,[.t (.int .i64 0),.t (.str []),.nl 2,.t (.str []),.nl 5]),(7,[.t (.int .i64 g.op),.t (.str g.atom.name),.rn (tmS g.atom.args),.t (.str g.var),.rn (fmS g.parts)])] [(640,⟨true,1,ns.map fun s=>[.str s],0,true⟩),(736,⟨true,5,(tss.take k).map fun ts=>fmC (pF (ns.zip ts) g),0,true⟩)]) (fun k=>k <= tss.length /\ (tss.take k).all (okT ns.length) = true) (fun k=>tss.length - k) 0 (zac ?_) ⟨Ka _,rfl⟩ ?_
  ·simp -implicitDefEqProofs only[go_sem]
  ·intro k ⟨hk,hT⟩
   refine zeu.cut 1 rfl (by kernel_rfl) ?_
   by_cases hlt:k < tss.length
   ·simp -implicitDefEqProofs only[go_sem,hlt]
    refine zeu.seq ?_
    refine zeu.block ?_
    refine zeu.cut 0 rfl (by kernel_rfl) ?_
    simp -implicitDefEqProofs only[go_sem,zad,hlt]
    have hmw:=zbo zec tss tss[k] (Qe hlt)
    have hbad:okT ns.length tss[k] = false->hdB f tss = false:=fun h=>by
     rw [hBv,hvO,Jq.2 ⟨_,Qe hlt,by rw [h]; simp⟩]; rfl
    have hnx:okT ns.length tss[k] = true->(tss.take (k + 1)).all (okT ns.length) = true:=fun h=>by
     rw [Qf hlt,J5,hT]; simp [h]
    have htk:tss.take (k + 1) = tss.take k ++ [tss[k]]:=by rw [Qf hlt]
    generalize tss[k] = ts at hmw hbad hnx htk ⊢
    have hF:=ze1 ts (fun t=>!grT t) 108 [] fun x hx=>zud x (by
     have h1:=zbo Tm.wt ts x hx
     have h2:zec ts = ts.length + (ts.map Tm.wt).sum:=rfl
     omega)
    have hov:okT ns.length ts = (decide (ts.length = ns.length) && ts.all grT):=rfl
    rw [<-zd4 ts grT] at hov
    generalize han:(ts.any fun t=>!grT t) = an at hF hov
    by_cases hl:ts.length = ns.length
    ·have hl0:((ts.length:Int) != (ns.length:Int)) = false:=by simp [hl]
     rw [decide_eq_true hl,Qn] at hov
     cases an
     ·have hok:=hnx hov
      refine zeu.cut 0 rfl (by kernel_rfl) ?_
      simp -implicitDefEqProofs only[go_sem,hl0]
      refine callF (hF) (by simp -implicitDefEqProofs only[go_sem]) ?_
      simp -implicitDefEqProofs only[go_sem]
      refine zeu.scope true rfl rfl rfl (by simp only [Tryz.ntmps46]; omega) ?_
      intro b
      refine zgf.cut 0 rfl (by kernel_rfl) ?_
      simp -implicitDefEqProofs only[go_sem]
      refine zgf.block ?_
      refine zgf.loop (fun j:Nat=>hd [(4,.one (.bx 4 0)),(5,vB false),(6,.one (.ow 640 0)),(7,.one (.bx 7 0)),(8,.one (.ow 736 0)),(10,.one (.rn (tmS ts))),(11,.one (.cv (.map (some b)))),(24,.one (.rn (zht tss))),(25,vI tss.length),(26,vI k),(41,.one (.ow 640 0)),(42,vI ns.length),(43,vI j)] [(4,[.t (.int .i64 0),.t (.str []),.nl 2,.t (.str []),.nl 5]),(7,[.t (.int .i64 g.op),.t (.str g.atom.name),.rn (tmS g.atom.args),.t (.str g.var),.rn (fmS g.parts)])] [(640,⟨true,1,ns.map fun s=>[.str s],0,true⟩),(736,⟨true,5,(tss.take k).map fun ts=>fmC (pF (ns.zip ts) g),0,true⟩)])
       (fun j=>((ns.zip ts).take j).map bnC) (fun j=>j <= ns.length) (fun j=>ns.length - j) 0 (zac ?_) rfl (Ka _) ?_
      ·simp -implicitDefEqProofs only[go_sem]
      ·intro j hj
       refine zgf.cut 1 rfl (by kernel_rfl) ?_
       by_cases hlj:j < ns.length
       ·have hlj2:j < ts.length:=by omega
        have hzl:j < (ns.zip ts).length:=by rw [List.length_zip]; omega
        have hfr:zeo (.str ns[j]) (((ns.zip ts).take j).map bnC) = some none:=by
         rw [zjw,List.find?_eq_none.2]
         ·rfl
         ·intro p hp e
          obtain ⟨i,hi,rfl⟩:=Jl hp
          rw [Qp] at hi
          rw [List.getElem_take,List.getElem_zip,Ki] at e
          have:=qdk hnd (by omega) hlj e
          omega
        have hrow:((ns.zip ts).take (j + 1)).map bnC = ((ns.zip ts).take j).map bnC ++ [[.str ns[j],.str ts[j].name,.sl 2 (ts[j].args.map tmC)]]:=by
         rw [Qf hzl,Q0,Q7,List.getElem_zip,zhx]
        generalize ((ns.zip ts).take j).map bnC = R at hfr hrow ⊢
        simp -implicitDefEqProofs only[go_sem,hlj]
        refine zgf.seq ?_
        refine zgf.block ?_
        refine zgf.cut 0 rfl (by kernel_rfl) ?_
        simp -implicitDefEqProofs only[go_sem,zad,hlj]
        refine zgf.upd 6 rfl rfl rfl (by kernel_rfl) ?_
        simp -implicitDefEqProofs only[go_sem,zad,hlj,hlj2,zaa ts[j],hfr,Tryz.underlying143,Tryz.underlying9]
        refine zgf.ofEx (by kernel_rfl) ?_
        simp -implicitDefEqProofs only[go_sem]
        refine ⟨j + 1,hlj,by omega,hrow,zac ?_⟩
        simp -implicitDefEqProofs only[go_sem]
        rw [zal (by omega)]
       ·have htz:(ns.zip ts).take j = ns.zip ts:=Qk (by rw [List.length_zip]; omega)
        have hgr:=zq4 hvn (by rw [<-zd4,han]; rfl:ts.all grT = true)
        have HI:=qar (ns.zip ts) (fun p hp=>by have:=zhq (hgr.g p hp).1; omega) g (by omega)
        rw [inF_is _ hgr.v g hfo] at HI
        have ha:k <= 4294967295:=by omega
        have ha2:min k tss.length <= 4294967295:=by omega
        unfold mpS at HI
        simp -implicitDefEqProofs only[go_sem,hlj,htz]
        refine zeu.ofEx (by kernel_rfl) ?_
        generalize hr:pF (ns.zip ts) g = r at HI ⊢
        simp only [fmD,zab g,zab r] at HI
        simp -implicitDefEqProofs only[go_sem]
        refine callF (HI) (by simp -implicitDefEqProofs only[go_sem]) ?_
        simp -implicitDefEqProofs only[go_sem]
        refine zbx (by simp -implicitDefEqProofs only[go_sem]) ?_
        simp -implicitDefEqProofs only[go_sem]
        refine apD true (by simp -implicitDefEqProofs only[go_sem,ne_eq,Qb,Qp,ha,ha2]) ?_
        simp -implicitDefEqProofs only[go_sem,ne_eq,Qb,Qp,ha,ha2]
        refine zeu.ofEx (by kernel_rfl) ?_
        simp -implicitDefEqProofs only[go_sem]
        refine ⟨k + 1,⟨hlt,hok⟩,by omega,zac ?_⟩
        simp -implicitDefEqProofs only[go_sem]
        rw [zal (by omega),htk,Q0,Q7,hr,zab r]
        exact ⟨rfl,rfl⟩
     ·have hB:=hbad hov
      rw [hRv,hB,if_neg (by simp)]
      simp only [zcg,Qy]
      refine zeu.cut 0 rfl (by kernel_rfl) ?_
      simp -implicitDefEqProofs only[go_sem,hl0]
      refine callF (hF) (by simp -implicitDefEqProofs only[go_sem]) ?_
      simp -implicitDefEqProofs only[go_sem]
    ·have hl0:((ts.length:Int) != (ns.length:Int)) = true:=by rw [bne_iff_ne]; omega
     rw [decide_eq_false hl,Qj] at hov
     have hB:=hbad hov
     rw [hRv,hB,if_neg (by simp)]
     simp only [zcg,Qy]
     refine zeu.cut 0 rfl (by kernel_rfl) ?_
     simp -implicitDefEqProofs only[go_sem,hl0]
   ·rw [Qk (by omega)] at hT
    rw [hvO,hT,Qn] at hBv
    have ht:tss.take k = tss:=Qk (by omega)
    have hall:∀ x ∈ tss.map (fun ts=>pF (ns.zip ts) g),x.wt <= 308800:=fun x hx=>by
     obtain ⟨ts,hm,rfl⟩:=Kf.1 hx
     have h1:=Ql.1 hT ts hm
     unfold okT at h1
     rw [Qa] at h1
     exact qo7 (zq4 hvn h1.2) hfo hgn
    have hsum:∀ l:List Fm,(∀ x ∈ l,x.wt <= 308800)->(l.map Fm.wt).sum <= 308800 * l.length:=fun l=>by
     induction l with
     | nil=>intro _; simp
     | cons x l ih =>
      intro h
      have:=ih fun y hy=>h y (by simp [hy])
      have:=h x (by simp)
      rw [Qi,Q3,Qm]; omega
    have hs:=hsum _ hall
    have hj:=zuq 6 (mkF 2 []) (tss.map fun ts=>pF (ns.zip ts) g)
    rw [Qb] at hs hj
    have h2:(mkF 2 []).wt = 0:=rfl
    have HL:=zzm 6 (tss.map fun ts=>pF (ns.zip ts) g) (mkF 2 [])
    rw [<-hHG] at HL hj
    have HI:=zmz (zzz f tss) (by omega)
    rw [hRv,hBv]
    generalize zzz f tss = G at HL HI
    generalize G.good = gd at HI
    generalize hC:(if gd = true then G else mkF 0 []) = C at HI ⊢
    simp only [fmD,zcg,Qy,Qi,zab G,zab C,fmS,Ke,K5] at HL HI ⊢
    simp -implicitDefEqProofs only[go_sem,hlt,ht]
    refine zeu.ofEx (by kernel_rfl) ?_
    simp -implicitDefEqProofs only[go_sem]
    refine zc7 [4,5] [62,63] [] (HL) (by simp -implicitDefEqProofs only[go_sem]) (by simp -implicitDefEqProofs only[go_sem]) (by simp -implicitDefEqProofs only[go_sem]) (by simp -implicitDefEqProofs only[go_sem]) ?_
    simp -implicitDefEqProofs only[go_sem]
    refine zc7 [4,5] [64] [] (HI) (by simp -implicitDefEqProofs only[go_sem]) (by simp -implicitDefEqProofs only[go_sem]) (by simp -implicitDefEqProofs only[go_sem]) (by simp -implicitDefEqProofs only[go_sem]) ?_
    simp -implicitDefEqProofs only[go_sem]
end
section
set_option maxRecDepth 4000
open Go.RowKit
theorem zlr (op:Int) (ho:op = 5 \/ op = 6 \/ op = 7) (z:Fm):∀ {xs:List Fm},(zdk op xs z).good = true->∀ x ∈ xs,x.good = true
 | [],_,x,hx=>by cases hx
 | [a],h,x,hx=>by rw [Q5.1 hx]; exact h
 | a :: b :: xs,h,x,hx=>by
  rw [zho op a (by simp) z] at h
  have h2:=h
  unfold Fm.good at h2
  rw [Qa,Qg] at h2
  obtain ⟨hn,hf⟩:=h2
  have hn2:(mkF op [a,zdk op (b :: xs) z]).nodes = 1 + (a.nodes + ((zdk op (b :: xs) z).nodes + 0)):=Fm.nodes_eq _
  have hp:=zvr hf
  have ha:a.good = true:=by
   unfold Fm.good
   rw [hp a (by simp [qm6]),Yb,Qg]; omega
  have hj:(zdk op (b :: xs) z).good = true:=by
   unfold Fm.good
   rw [hp _ (by simp [qm6]),Yb,Qg]; omega
  rcases Qu.1 hx with rfl | hx
  ·exact ha
  ·exact zlr op ho z hj x hx
theorem qij {g:Fm} {n:Str} {t:Tm} {ps:List (Str × Tm)}:zyp g ((n,t) :: ps) = if (za5 n t g).2 = true then zyp (za5 n t g).1 ps else ((za5 n t g).1,false):=rfl
theorem ztp {f:Fm} (h:f.forms = true) (hn:f.nodes <= 40):f.wt <= 20800:=by
 have:=zpi f h
 omega
set_option maxHeartbeats 4000000 in
theorem zky (f:Fm) (hw:f.wt <= 1048576) (tss:List (List Tm)) (ht:zxg tss <= 1048576):FC Tryz.prog 40 [fmD f,.one (zht tss)] [fmD (hdR f tss),bD (hdB f tss)]:=by
 have HH:=zs2 f hw
 cases hh:qli f
 ·have e1:hdB f tss = false:=by unfold hdB qh0; rw [hh]; rfl
  unfold hdR
  rw [e1,if_neg (by simp)]
  rw [hh] at HH
  simp only [fmD,zab f,zcg,Qy] at HH ⊢
  refine zcq Tryz.call40 Tryz.func40 rfl (by kernel_rfl) (zax (by kernel_rfl)) ?_
  simp -implicitDefEqProofs only[go_sem,Tryz.results40]
  refine callF (HH) (by simp -implicitDefEqProofs only[go_sem]) ?_
  simp -implicitDefEqProofs only[go_sem]
 ·rw [hh] at HH
  obtain ⟨hg,hnd,hpl,hfo⟩:=zj8 hh
  have HP:=zsl f (zbw hg) hw
  have hbw:=Kg (qhc f) (zpl hg)
  have hfn:f.nodes <= 40:=by unfold Fm.good at hg; rw [Qa,Qg] at hg; exact hg.1
  have hvn:∀ n ∈ (exN f).1,zay n = true:=fun n hn=>(zgh f).2 n hn (zbw hg)
  have hgn:=Kg (zgh f).1 hfn
  have hlen:=ze8 f
  have hHG:zzz f tss = zdk 6 (tss.map (zv4 f)) (mkF 2 []):=rfl
  have hBv:hdB f tss = (qh0 f tss && (zzz f tss).good):=rfl
  have hRv:hdR f tss = if hdB f tss = true then zzz f tss else mkF 0 []:=rfl
  have hvO:qh0 f tss = tss.all (okT (exN f).1.length):=by unfold qh0; rw [hh,Qn]
  rw [show tss.map (zv4 f) = tss.map fun ts=>pF ((exN f).1.zip ts) (exN f).2 from rfl] at hHG
  generalize exN f = B at HP hnd hpl hfo hbw hvO hvn hgn hlen hHG
  obtain ⟨ns,g⟩:=B
  simp only at HP hnd hpl hfo hbw hvO hvn hgn hlen hHG
  have hTL:zxg tss = tss.length + (tss.map zec).sum:=rfl
  simp only [fmD,zab f,zab g] at HH HP ⊢
  refine zcq Tryz.call40 Tryz.func40 rfl (by kernel_rfl) (zax (by kernel_rfl)) ?_
  simp -implicitDefEqProofs only[go_sem,Tryz.results40]
  refine callF (HH) (by simp -implicitDefEqProofs only[go_sem]) ?_
  simp -implicitDefEqProofs only[go_sem]
  refine zoj [1,2,4,5] [19] [] (HP) (by simp -implicitDefEqProofs only[go_sem]) (by simp -implicitDefEqProofs only[go_sem]) (by simp -implicitDefEqProofs only[go_sem]) (by simp -implicitDefEqProofs only[go_sem]) ?_
  simp -implicitDefEqProofs only[go_sem]
  refine zgl (by simp -implicitDefEqProofs only[go_sem]) ?_
  simp -implicitDefEqProofs only[go_sem]
  refine zae (fun k:Nat=>hd [(1,.one (.rn (zht tss))),(4,.one (.bx 4 0)),(5,vB false),(6,.one (.ow 640 0)),(7,.one (.bx 7 0)),(8,.one (.ow 736 0)),(9,vI k)] [(4,[.t (.int .i64 0),.t (.str []),.nl 2,.t (.str []),.nl 5]),(7,[.t (.int .i64 g.op),.t (.str g.atom.name),.rn (tmS g.atom.args),.t (.str g.var),.rn (fmS g.parts)])] [(640,⟨true,1,ns.map fun s=>[.str s],0,true⟩),(736,⟨false,5,(tss.take k).map fun ts=>fmC (pF (ns.zip ts) g),0,true⟩)]) (fun k=>k <= tss.length /\ (tss.take k).all (okT ns.length) = true /\ ∀ ts ∈ tss.take k,(pF (ns.zip ts) g).good = true) (fun k=>tss.length - k) 0 (zac ?_) ⟨Ka _,rfl,by simp⟩ ?_
  ·simp -implicitDefEqProofs only[go_sem]
  ·intro k ⟨hk,hT,hG⟩
   by_cases hlt:k < tss.length
   ·have hmw:=zbo zec tss tss[k] (Qe hlt)
    have hbad:okT ns.length tss[k] = false->hdB f tss = false:=fun h=>by
     rw [hBv,hvO,Jq.2 ⟨_,Qe hlt,by rw [h]; simp⟩]; rfl
    have hbad2:(pF (ns.zip tss[k]) g).good = false->hdB f tss = false:=fun h=>by
     rw [hBv,hHG]
     cases hgd:(zdk 6 (tss.map fun ts=>pF (ns.zip ts) g) (mkF 2 [])).good
     ·rw [Kb]
     ·have:=zlr 6 (Or.inr (Or.inl rfl)) (mkF 2 []) hgd _ (List.mem_map_of_mem (Qe hlt))
      rw [this] at h; cases h
    have hnx:okT ns.length tss[k] = true->(tss.take (k + 1)).all (okT ns.length) = true:=fun h=>by
     rw [Qf hlt,J5,hT]; simp [h]
    have hnx2:(pF (ns.zip tss[k]) g).good = true->∀ ts ∈ tss.take (k + 1),(pF (ns.zip ts) g).good = true:=fun h ts hm=>by
     rw [Qf hlt] at hm
     rcases Qt.1 hm with hm | hm
     ·exact hG ts hm
     ·rw [Q5.1 hm]; exact h
    have htk:tss.take (k + 1) = tss.take k ++ [tss[k]]:=by rw [Qf hlt]
    have hget : ∃ ts,ts = tss[k]:=⟨_,rfl⟩
    obtain ⟨ts,hts⟩:=hget
    rw [<-hts] at hmw hbad hbad2 hnx hnx2 htk
    have hov:okT ns.length ts = (decide (ts.length = ns.length) && ts.all grT):=rfl
    by_cases hl:ts.length = ns.length
    ·have hl0:((ts.length:Int) != (ns.length:Int)) = false:=by simp [hl]
     rw [decide_eq_true hl,Qn] at hov
     have HTm:=zzj ts (by omega) (by omega)
     cases han:ts.all grT
     ·rw [han] at hov HTm
      rw [hRv,hbad hov,if_neg (by simp)]
      simp only [zcg,Qy]
      simp -implicitDefEqProofs only[go_sem,hlt,zad,<-hts,hl0]
      refine callF (HTm) (by simp -implicitDefEqProofs only[go_sem]) ?_
      simp -implicitDefEqProofs only[go_sem]
     ·rw [han] at hov HTm
      have hgr:=zq4 hvn han
      have hzl:(ns.zip ts).length = ns.length:=by rw [List.length_zip]; omega
      simp -implicitDefEqProofs only[go_sem,hlt,zad,<-hts,hl0]
      refine callF (HTm) (by simp -implicitDefEqProofs only[go_sem]) ?_
      simp -implicitDefEqProofs only[go_sem]
      refine zae (fun x:Nat × Fm × Bool=>hd [(1,.one (.rn (zht tss))),(4,.one (.bx 4 0)),(5,vB false),(6,.one (.ow 640 0)),(7,.one (.bx 7 0)),(8,.one (.ow 736 0)),(9,vI k),(10,.one (.bx 10 0)),(11,vB x.2.2),(12,vI x.1)] [(4,[.t (.int .i64 0),.t (.str []),.nl 2,.t (.str []),.nl 5]),(7,[.t (.int .i64 g.op),.t (.str g.atom.name),.rn (tmS g.atom.args),.t (.str g.var),.rn (fmS g.parts)]),(10,[.t (.int .i64 x.2.1.op),.t (.str x.2.1.atom.name),.rn (tmS x.2.1.atom.args),.t (.str x.2.1.var),.rn (fmS x.2.1.parts)])] [(640,⟨true,1,ns.map fun s=>[.str s],0,true⟩),(736,⟨false,5,(tss.take k).map fun ts=>fmC (pF (ns.zip ts) g),0,true⟩)])
       (fun x=>x.1 <= ns.length /\ ((x.2.2 = true /\ x.2.1.forms = true /\ zbu x.2.1 = true /\ x.2.1.nodes <= 40 /\ zyp g (ns.zip ts) = zyp x.2.1 ((ns.zip ts).drop x.1)) \/ (x.2.2 = false /\ zyp g (ns.zip ts) = (x.2.1,false)))) (fun x=>(ns.length - x.1)) (0,g,true) (zac ?_) ⟨Ka _,Or.inl ⟨rfl,hfo,hpl,hgn,rfl⟩⟩ ?_
      ·simp -implicitDefEqProofs only[go_sem]
      ·rintro ⟨j,g1,ok⟩ ⟨hj,hx⟩
       simp only at hj hx
       rcases hx with ⟨rfl,hf1,hp1,hn1,hseq⟩ | ⟨rfl,hseq⟩
       ·by_cases hlj:j < ns.length
        ·have hlj2:j < ts.length:=by omega
         have hzj:j < (ns.zip ts).length:=by omega
         rw [Qh hzj,List.getElem_zip,qij] at hseq
         have hgt:=hgr.g (ns[j],ts[j]) (by rw [<-List.getElem_zip (h:=hzj)]; exact Qe hzj)
         have hvt:=hgr.v (ns[j],ts[j]) (by rw [<-List.getElem_zip (h:=hzj)]; exact Qe hzj)
         have htw:ts[j].wt <= 240:=zhq hgt.1
         have hw1:=ztp hf1 hn1
         have hmul:(1 + g1.wt) * ts[j].wt <= 20801 * 240:=Ye (by omega) htw
         have HPt:=zo9 ns[j] ts[j] (by omega) g1 hf1 (by omega) (by omega)
         have hok1:(za5 ns[j] ts[j] g1).2 = true->(za5 ns[j] ts[j] g1).1.forms = true /\ zbu (za5 ns[j] ts[j] g1).1 = true /\ (za5 ns[j] ts[j] g1).1.nodes <= 40:=fun ho=>by
          have hi:=zpf ns[j] ts[j] g1 hp1 ho
          rw [zli ns[j] ts[j] g1 hp1,<-zfs _ g1 hf1] at ho
          rw [hi]
          exact ⟨ho,zk7 _ g1 hp1,by rw [zyr _ g1 hf1]; exact hn1⟩
         generalize za5 ns[j] ts[j] g1 = R at HPt hseq hok1
         obtain ⟨g2,ok2⟩:=R
         simp only at HPt hseq hok1
         simp only [fmD,zab g1,zab g2,tmD,zaa ts[j]] at HPt
         simp -implicitDefEqProofs only[go_sem,hlj]
         refine drawn (by kernel_rfl) ?_
         simp -implicitDefEqProofs only[go_sem,hlj,hlj2,hlt,zad,<-hts,zaa ts[j]]
         refine zao (HPt) (by simp -implicitDefEqProofs only[go_sem]) ?_
         simp -implicitDefEqProofs only[go_sem]
         refine ⟨by kernel_rfl,(j + 1,g2,ok2),⟨hlj,?_⟩,by simp only; omega,zac ?_⟩
         ·cases ok2
          ·rw [if_neg (by simp)] at hseq
           exact Or.inr ⟨rfl,hseq⟩
          ·rw [if_pos rfl] at hseq
           obtain ⟨q1,q2,q3⟩:=hok1 rfl
           exact Or.inl ⟨rfl,q1,q2,q3,hseq⟩
         ·simp -implicitDefEqProofs only[go_sem]
          rw [zal (by omega)]
        ·rw [Qs (by omega)] at hseq
         have hseq:zyp g (ns.zip ts) = (g1,true):=hseq
         have hgood:=zxi hgr hfo hpl
         rw [hseq,Qn] at hgood
         have hg1:=(zxw hgr hfo hpl (by rw [hseq])).1
         rw [hseq] at hg1
         have hg1:g1 = pF (ns.zip ts) g:=hg1
         have HGd:=zhi g1 (by have:=ztp hf1 hn1; omega)
         have ha:k <= 4294967295:=by omega
         have ha2:min k tss.length <= 4294967295:=by omega
         cases hgd:g1.good
         ·rw [hgd] at HGd hgood
          rw [hRv,hbad2 hgood.symm,if_neg (by simp)]
          simp only [fmD,zab g1] at HGd
          simp only [zcg,Qy]
          simp -implicitDefEqProofs only[go_sem,hlj]
          refine callF (HGd) (by simp -implicitDefEqProofs only[go_sem]) ?_
          simp -implicitDefEqProofs only[go_sem]
         ·rw [hgd] at HGd hgood
          simp only [fmD,zab g1] at HGd
          simp -implicitDefEqProofs only[go_sem,hlj]
          refine callF (HGd) (by simp -implicitDefEqProofs only[go_sem]) ?_
          simp -implicitDefEqProofs only[go_sem]
          refine zgl (by simp -implicitDefEqProofs only[go_sem]) ?_
          simp -implicitDefEqProofs only[go_sem]
          refine apD false (by simp -implicitDefEqProofs only[go_sem,ne_eq,Qb,Qp,ha,ha2]) ?_
          simp -implicitDefEqProofs only[go_sem,ne_eq,Qb,Qp,ha,ha2]
          refine ⟨k + 1,⟨hlt,hnx hov,hnx2 hgood.symm⟩,by omega,zac ?_⟩
          simp -implicitDefEqProofs only[go_sem]
          rw [zal (by omega),htk,Q0,Q7,<-hg1,zab g1]
          exact ⟨rfl,rfl⟩
       ·have hgood:=zxi hgr hfo hpl
        rw [hseq,Qj] at hgood
        rw [hRv,hbad2 hgood.symm,if_neg (by simp)]
        simp only [zcg,Qy]
        by_cases hlj:j < ns.length
        ·simp -implicitDefEqProofs only[go_sem,hlj]
        ·simp -implicitDefEqProofs only[go_sem,hlj]
    ·have hl0:((ts.length:Int) != (ns.length:Int)) = true:=by rw [bne_iff_ne]; omega
     rw [decide_eq_false hl,Qj] at hov
     rw [hRv,hbad hov,if_neg (by simp)]
     simp only [zcg,Qy]
     simp -implicitDefEqProofs only[go_sem,hlt,zad,<-hts,hl0]
   ·rw [Qk (by omega)] at hT hG
    rw [hvO,hT,Qn] at hBv
    have hkt:tss.take k = tss:=Qk (by omega)
    have hwa:∀ (i:Nat) (h:i < (tss.map fun ts=>pF (ns.zip ts) g).length),(tss.map fun ts=>pF (ns.zip ts) g)[i].wt <= 1048576:=fun i h=>by
     rw [Yf]
     have:=zpl (hG _ (Qe (by simpa using h)))
     omega
    have HJ:=zsy (tss.map fun ts=>pF (ns.zip ts) g) 6 2 (by rw [Qb]; omega) hwa
    have hsum:∀ l:List Fm,(∀ x ∈ l,x.wt <= 308800)->(l.map Fm.wt).sum <= 308800 * l.length:=fun l=>by
     induction l with
     | nil=>intro _; simp
     | cons x l ih =>
      intro h
      have:=ih fun y hy=>h y (by simp [hy])
      have:=h x (by simp)
      rw [Qi,Q3,Qm]; omega
    have hs:=hsum (tss.map fun ts=>pF (ns.zip ts) g) fun x hx=>by
     obtain ⟨ts,hm,rfl⟩:=Kf.1 hx
     have:=zpl (hG ts hm)
     omega
    have hj:=zuq 6 (mkF 2 []) (tss.map fun ts=>pF (ns.zip ts) g)
    rw [Qb] at hs hj
    have h2:(mkF 2 []).wt = 0:=rfl
    rw [<-hHG] at HJ hj
    have HI:=zhi (zzz f tss) (by omega)
    rw [hRv,hBv]
    generalize zzz f tss = G at HJ HI
    cases hgd:G.good
    ·rw [hgd] at HI
     rw [if_neg (by simp)]
     simp only [fmD,zcg,Qy,zab G,fmS,Ke,K5] at HJ HI ⊢
     simp -implicitDefEqProofs only[go_sem,hlt,hkt]
     refine callF (HJ) (by simp -implicitDefEqProofs only[go_sem]) ?_
     simp -implicitDefEqProofs only[go_sem]
     refine callF (HI) (by simp -implicitDefEqProofs only[go_sem]) ?_
     simp -implicitDefEqProofs only[go_sem]
    ·rw [hgd] at HI
     rw [if_pos rfl]
     simp only [fmD,zcg,Qy,zab G,fmS,Ke,K5] at HJ HI ⊢
     simp -implicitDefEqProofs only[go_sem,hlt,hkt]
     refine callF (HJ) (by simp -implicitDefEqProofs only[go_sem]) ?_
     simp -implicitDefEqProofs only[go_sem]
     refine callF (HI) (by simp -implicitDefEqProofs only[go_sem]) ?_
     simp -implicitDefEqProofs only[go_sem]
end
section
set_option maxRecDepth 4000
open Go.RowKit
theorem lkP_no {ps:List (Str × Tm)} {m:Str} (h:∀ p ∈ ps,p.1 ≠ m):lkP ps m = .mk m []:=by
 unfold lkP
 have:(ps.find? fun p=>p.1 == m) = none:=List.find?_eq_none.2 fun p hp=>by simpa using h p hp
 rw [this]
theorem qqj (n:Str) (t:Tm) (ps:List (Str × Tm)) (hg:∀ p ∈ ps,voS p.2 = []) (hn:∀ p ∈ ps,p.1 ≠ n):∀ a:Tm,zb9 [(n,t)] (zb9 ps a) = zb9 ((n,t) :: ps) a:=zbf fun m xs ih=>by
 by_cases hm:zay m = true
 ·rw [zgn _ hm,zgn _ hm,ziv]
  by_cases he:(n == m) = true
  ·have e:n = m:=Ki.1 he
   rw [if_pos he,lkP_no (by rw [<-e]; exact hn),zgn _ hm,ziv,if_pos he]
  ·rw [if_neg he]
   rcases qcn ps m with ⟨p,hp,e⟩ | e
   ·rw [e,zmx _ _ (hg p hp)]
   ·rw [e,zgn _ hm,ziv,if_neg he]; rfl
 ·rw [zgc _ hm,zgc _ hm,zgc _ hm,Ke]
  congr 1
  exact Q6 fun x hx=>ih x hx
theorem formsA {n:Str} {t:Tm} {ps:List (Str × Tm)} {f:Fm} (hf:f.forms = true) (ht:t.good = true) (hv:voS t = []) (h:(pF ((n,t) :: ps) f).forms = true):(pF [(n,t)] f).forms = true:=by
 have hnm:∀ p ∈ [(n,t)],p.2.names = true:=fun p hp=>by rw [Q5.1 hp]; exact zhl ht
 rw [zfs _ f hf] at h ⊢
 refine Ql.2 fun a ha=>?_
 have h1:=Ql.1 h a ha
 rw [<-zme n t hv,zc9,Qa] at h1
 have h2:=zqv [(n,t)] hnm (zfl (qnm f hf a ha))
 rw [zc9,h2,Qn]
 exact zjn ps h2 h1.2
theorem formsB {n:Str} {t:Tm} {ps:List (Str × Tm)} {f:Fm} (hf:f.forms = true) (hg:Grd ps) (hn:∀ p ∈ ps,p.1 ≠ n) (h:(pF ((n,t) :: ps) f).forms = true):(pF ps f).forms = true:=by
 rw [zfs _ f hf] at h ⊢
 refine Ql.2 fun a ha=>?_
 have h1:=Ql.1 h a ha
 rw [<-qqj n t ps (fun p hp=>(hg.g p hp).2) hn,zc9,Qa] at h1
 have h2:=zqv ps hg.names (zfl (qnm f hf a ha))
 rw [zc9,h2,Qn]
 exact zjn [(n,t)] h2 h1.2
structure PutOk (x:Str) (t:Tm) (f g:Fm):Prop where
 forms:g.forms = true
 nodes:g.nodes = f.nodes
 names:(exN g).1 = (exN f).1
 plain:zbu (exN g).2 = true
 inst:∀ ps,Grd ps->(∀ p ∈ ps,p.1 ≠ x)->(pF ((x,t) :: ps) (exN f).2).forms = true->(pF ps (exN g).2).forms = true
theorem putEx (x:Str) (t:Tm) (hx:zay x = true) (ht:t.good = true) (hv:voS t = []):∀ f:Fm,f.forms = true->x ∉ (exN f).1->zbu (exN f).2 = true->(pF [(x,t)] (exN f).2).forms = true->(za5 x t f).2 = true /\ PutOk x t f (za5 x t f).1:=za8 fun o a v ps ih hf hn hp ho=>by
 have hb:=qcl hx hv
 have hM:=zm0 _ hf
 cases h9:(o == 9)
 ·have hno:exN (.mk o a v ps) = ([],.mk o a v ps):=zku (f:=.mk o a v ps) h9
  rw [hno] at hp ho
  have hq:=zli x t (.mk o a v ps) hp
  rw [hb,<-zfs _ _ hf,ho] at hq
  have hi:=zpf x t (.mk o a v ps) hp hq
  rw [hb] at hi
  have hop:((pF [(x,t)] (.mk o a v ps)).op == 9) = false:=by
   rw [qo1]
   split <;> exact h9
  refine ⟨hq,?_⟩
  rw [hi]
  refine ⟨ho,zyr _ _ hf,?_,?_,fun qs hg hne h=>?_⟩
  ·rw [zku hop,hno]
  ·rw [zku hop]; exact zk7 _ _ hp
  ·rw [hno] at h
   rw [zku hop,zun x t hv]
   exact h
 ·obtain ⟨f0,hps,hf0⟩:=ziu (f:=.mk o a v ps) h9 hf
  have hps:ps = [f0]:=hps
  subst hps
  have h9':o = 9:=Ki.1 h9
  subst h9'
  have he:exN (.mk 9 a v [f0]) = (v :: (exN f0).1,(exN f0).2):=zj3 (f:=.mk 9 a v [f0]) h9 rfl
  rw [he] at hn hp ho
  simp only [Qu,not_or] at hn
  have hvx:(v == x) = false:=by rw [Je]; exact fun e=>hn.1 e.symm
  have hh:(Fm.mk 9 a v [f0]).here = true:=(zeq hf).1
  have hvo:a.none = true /\ zay v = true:=by
   unfold Fm.here at hh
   simpa [Fm.op,Fm.parts,Fm.atom,Fm.var,zm8,isQ] using hh
  obtain ⟨k1,k2⟩:=ih f0 (by simp) hf0 hn.2 hp ho
  have hE:=zic x t (.mk 9 a v [f0])
  have hE:za5 x t (.mk 9 a v [f0]) = if (!((zkx [f0]).contains x)) = true then (.mk 9 a v [f0],true)
    else (.mk 9 (.mk [] []) v [(za5 x t f0).1],true):=by
   rw [hE]
   have e1:(isQ (Fm.mk 9 a v [f0]).op && ((Fm.mk 9 a v [f0]).var == x || !((zkx (Fm.mk 9 a v [f0]).parts).contains x))) = !((zkx [f0]).contains x):=by
    show (true && (v == x || !((zkx [f0]).contains x))) = _
    rw [hvx,Qn,Jc]
   have e2:(isQ (Fm.mk 9 a v [f0]).op && (zba [] (voS t)).contains (Fm.mk 9 a v [f0]).var) = false:=by
    rw [hv]; rfl
   rw [if_neg (show ¬ ((Fm.mk 9 a v [f0]).op == 3) = true by show ¬ ((9:Int) == 3) = true; decide),e1,e2]
   split
   ·rfl
   ·rw [if_neg (by simp)]
    show (Fm.mk 9 (.mk [] []) v (([f0].takeWhile fun x_1=>(za5 x t x_1).2).map fun x_1=>(za5 x t x_1).1),[f0].all fun x_1=>(za5 x t x_1).2) = _
    simp [k1]
  rw [hE]
  split
  ·refine ⟨rfl,hf,rfl,rfl,by rw [he]; exact hp,fun qs hg hne h=>?_⟩
   exact formsB hM hg hne h
  ·have he2:exN (.mk 9 (.mk [] []) v [(za5 x t f0).1]) = (v :: (exN (za5 x t f0).1).1,(exN (za5 x t f0).1).2):=zj3 (f:=.mk 9 (.mk [] []) v [(za5 x t f0).1]) h9 rfl
   refine ⟨rfl,?_,?_,?_,?_,fun qs hg hne h=>?_⟩
   ·rw [Fm.forms_eq,Qa]
    refine ⟨?_,by simpa [Fm.parts] using k2.forms⟩
    unfold Fm.here
    simp [Fm.op,Fm.parts,Fm.atom,Fm.var,zm8,isQ,hvo.2]
    rfl
   ·rw [Fm.nodes_eq,Fm.nodes_eq (.mk 9 a v [f0])]
    show 1 + (List.map Fm.nodes [(za5 x t f0).1]).sum = 1 + (List.map Fm.nodes [f0]).sum
    simp [k2.nodes]
   ·rw [he2,he,k2.names]
   ·rw [he2]; exact k2.plain
   ·rw [he2]
    rw [he] at h
    exact k2.inst qs hg hne h
end
section
set_option maxRecDepth 4000
open Go.RowKit
def zgk:(List Tm)->Nat->(List Tm) × Nat
 | s0,k=>((zai s0 k).1,(zai s0 k).2)
def zdy:List (List Tm)->Nat->List (List Tm) × Nat
 | [],k=>([],k)
 | a :: xs,k=>((zgk a k).1 :: (zdy xs (zgk a k).2).1,(zdy xs (zgk a k).2).2)
def zh8:(List Tm)->Nat
 | s0=>1 + zda s0
def zgd:List (List Tm)->Nat
 | []=>0
 | a :: xs=>zh8 a + zgd xs
theorem zz5:∀ (a:(List Tm)) (k:Nat),k <= (zgk a k).2 /\ (zgk a k).2 <= k + zh8 a
 | s0,k=>by have h_s0:=zbj s0 k; simp only [zgk,zh8]; omega
theorem zst:∀ (xs:List (List Tm)) (k:Nat),k <= (zdy xs k).2 /\ (zdy xs k).2 <= k + zgd xs
 | [],k=>⟨Qw _,Qw _⟩
 | a :: xs,k=>by have h1:=zz5 a k; have h2:=zst xs (zgk a k).2; simp only [zdy,zgd]; omega
theorem znw:∀ xs:List (List Tm),xs.length <= zgd xs
  | []=>Qw _
  | a :: xs=>by
    have:=znw xs
    have:1 <= zh8 a:=by simp only [zh8]; omega
    simp only [Qm,zgd]; omega
theorem zpt (xs:List (List Tm)) :
  ∀ k:Nat,0 < k->k + zgd xs <= 4611686018427387904->IC Tryz.prog 17 [] (.one (zht xs)) [iD k] (.one (zht (zdy xs k).1)) [iD (zdy xs k).2]:=by
 intro k h0 hk
 refine zyq Tryz.call17 Tryz.func17 rfl (by kernel_rfl) (by simp only [zdx,rd,Qi,Qy,Kl,Qm,Qv,Tryz.ntmps17]; omega) (by simp only [Tryz.ntmps17]; omega) (fun vs=>?_)
 simp -implicitDefEqProofs only[go_sem,Tryz.results17,qd3,zl2,zdx,PI]
 refine zae (fun (x:List (List Tm) × List (List Tm) × Nat)=>hd [(0,.one (.ow 0 0)),(1000000,.one (.ow 0 0)),(1,vI x.2.2),(5,vI x.1.length)] [] [(0,⟨true,1,x.1.map (fun s=>[tmS s]) ++ zew vs x.1.length (x.2.1.map (fun s=>[tmS s])),0,true⟩)])
  (fun x=>(zdy xs k).1 = x.1 ++ (zdy x.2.1 x.2.2).1 /\ (zdy xs k).2 = (zdy x.2.1 x.2.2).2 /\ 0 < x.2.2 /\ x.2.2 + zgd x.2.1 <= 4611686018427387904 /\ x.1.length + x.2.1.length = xs.length /\ ∀ a ∈ x.2.1,a ∈ xs) (fun x=>x.2.1.length) ([],xs,k) (zac ?_) ?_ ?_
 ·simp -implicitDefEqProofs only[go_sem]
 ·exact ⟨rfl,rfl,h0,hk,by simp,fun _ h=>h⟩
 ·intro ⟨dn,rest,kk⟩ ⟨h1,h2,h3,h4,h6,h5⟩
  simp only at h1 h2 h3 h4 h5 h6
  cases rest with
  | nil =>
   simp only [zdy,Kd] at h1 h2
   simp -implicitDefEqProofs only[go_sem,h1,h2]
  | cons s0 rest =>
   simp only [zdy,zgk,zgd,zh8] at h1 h2 h4
   have hc_s0:=zbj s0 kk
   have hln:=znw xs
   rw [Qm] at h6
   have wl:IntKind.i64.wrap ((dn.length:Int) + 1) = ((dn.length + 1:Nat):Int):=zal (by omega)
   simp -implicitDefEqProofs only[go_sem,Qi]
   refine callN (l:=[(0,.one (.ow 0 0)),(1000000,.one (.ow 0 0)),(5,vI dn.length),(15,.one (.cv (vs dn.length 0))),(16,vI (kk:Nat))]) (bl:=[]) (el:=[(0,⟨true,1,dn.map (fun s=>[tmS s]) ++ [.pin (vs dn.length 0) (tmS s0)] :: zew vs (dn.length + 1) (rest.map (fun s=>[tmS s])),0,true⟩)]) 0 dn.length 0 (zds s0 kk (by omega) (by omega)) (by simp -implicitDefEqProofs only[go_sem,tmS]) rfl rfl rfl (by simp -implicitDefEqProofs only[go_sem,tmS]) rfl ?_
   simp -implicitDefEqProofs only[go_sem,wl]
   refine ⟨(dn ++ [(zai s0 kk).1],rest,(zai s0 kk).2),⟨by simpa using h1,h2,by show 0 < (zai s0 kk).2; omega,by show (zai s0 kk).2 + zgd rest <= _; omega,by simp; omega,fun b hb=>h5 b (by simp [hb])⟩,by simp,zac ?_⟩
   simp -implicitDefEqProofs only[go_sem,wl,Qi,Q0,Kh]
theorem zsm (xs:List (List Tm)) (k:Nat) (h0:0 < k) (hk:k + zgd xs <= 4611686018427387904):IC Tryz.prog 17 [] (.one (zht xs)) [iD k] (.one (zht (zdy xs k).1)) [iD (zdy xs k).2]:=zpt xs k h0 hk
end
end Go.Proofs.YtliiapbmkcbfaaaGreat
