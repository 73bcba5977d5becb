/-
  The walk over plain data, and contracts of functions of the program and of its laws.
  Conditions: those that each theorem names.
-/
import Derived.Test.YtmhbmpbgpjljeaaGreatQL8
import Derived.Test.YtmhbmpbgpjljeaaGreatQL5
import Derived.Test.YtmhbmpbgpjljeaaGreatQL4
import Derived.Test.YtmhbmpbgpjljeaaGreatQL6
import Derived.Test.YtmhbmpbgpjljeaaGreatQL2
import Derived.Test.YtmhbmpbgpjljeaaGreatProg
import Derived.Lib.AppendZerosOnto
import Derived.Lib.Overlaps
import Derived.Laws.Externs
import Derived.Laws.CopyRow
import Derived.Lib.SliceRun
import Derived.Deep.RegionLaw
import Derived.Test.YtmhbmpbgpjljeaaGreatQL7
namespace Go.Proofs.YtmhbmpbgpjljeaaGreat
set_option linter.unusedSimpArgs false
set_option linter.unusedVariables false
set_option linter.unusedSectionVars false
set_option maxRecDepth 4000
set_option maxHeartbeats 8000000
section
open Go.RowKit
theorem ztl (ts:List Tm):∀n,zco ts n=zgp ts n
 | 0=>rfl
 | n+1=>by rw[zco,zgp,ztl ts n]
theorem qf7 {α:Type}(xs:List α)(zbm:Nat):∀(r i:Nat),(∀j,i<j->j<=i+r->xs.length^j<=zbm)->zi9 xs zbm r i=(zgp xs (i+r),true)
 | 0,i,_=>rfl
 | r+1,i,h=>by
  rw[zi9,zj6,if_pos (h (i+1) Zi Zi),qf7 xs zbm r (i+1) λj h1 h2=>h j Zi Zi]
  congr 2
  omega
theorem qeg {α:Type}(xs:List α)(zbm:Nat):∀(r i j:Nat),i<j->j<=i+r->¬xs.length^j<=zbm->(zi9 xs zbm r i).2=false
 | 0,i,j,h1,h2,_=>by omega
 | r+1,i,j,h1,h2,h=>by
  rw[zi9,zj6];split
  ·rename_i hc;by_cases hj:j=i+1
   ·subst hj;exact absurd hc h
   ·exact qeg xs zbm r (i+1) j Zi Zi h
  ·rfl
theorem qrw (ts:List Tm)(n:Nat):(ts.length^n<=60->zi9 ts 60 n 0=(zco ts n,true))/\(¬ts.length^n<=60->(zi9 ts 60 n 0).2=false):=by
 constructor
 ·intro h;rw[qf7 ts 60 n 0 λj h1 h2=>?_,ztl,Qi];by_cases h0:ts.length=0
  ·rw[h0,Nat.zero_pow Zi];omega
  ·have:=Nat.pow_le_pow_right (Y4 h0) (show j<=n by omega);omega
 ·intro h;have hn:0<n:=Y4 λe=>by rw[e]at h;simp at h
  exact qeg ts 60 n 0 n hn Zi h
theorem qic {c:Cq}(hc:c.ok=true){ps:List (Str×Tm)}(hv:∀p∈ps,zax p.1=true):clP c.lits ps=clL c ps:=by
 unfold clP clL
 refine Jb λl hl=>?_
 rw[zrv ps hv (zmz (zcp hc l hl))]
theorem qkn {c:Cq}{ns:List Str}{L:List (List Tm)}{i:Nat}(h:i<L.length)(x:List Cq):giR c ns (L.take (i+1)) x=zdv (giR c ns (L.take i) x) (mkC (clL c (ns.zip L[i]))):=by
 unfold giR
 rw[Qg h,K0];rfl
theorem zu6 (c:Cq)(ns:List Str):∀(L:List (List Tm))(x:List Cq),(giR c ns L x).length<=x.length+L.length
 | [],x=>by simp[giR]
 | l::L,x=>by
  have h1:=zu6 c ns L (zdv x (mkC (clL c (ns.zip l))));have h2:(zdv x (mkC (clL c (ns.zip l)))).length<=x.length+1:=by unfold zdv;split<;>simp
  show(giR c ns L _).length<=_
  simp only[Qj];omega
theorem qow {c:Cq}{ns:List Str}:∀{L:List (List Tm)},(∀l∈L,(mkC (clL c (ns.zip l))).wt<=1048576)->∀(x:List Cq),(∀a∈x,a.wt<=1048576)->∀a∈giR c ns L x,a.wt<=1048576
 | [],_,x,hx=>hx
 | l::L,h,x,hx=>by
  refine qow (L:=L) (λq hq=>h q (by simp[hq])) (zdv x (mkC (clL c (ns.zip l)))) λa ha=>?_;unfold zdv at ha;split at ha
  ·exact hx a ha
  ·rcases Qt.1 ha with ha|ha
   ·exact hx a ha
   ·rw[Qv.1 ha];exact h l (by simp)
theorem zmj (c:Cq)(ts:List Tm)(hcw:c.wt<=1048576)(htw:zo7 ts<=1048576)(hP:giP c ts=true):RC Tryz.prog 58 [cqD c,.one (tmS ts)] [.one (cqS (giV c ts)),bD (giB c ts)]:=by
 have hP':=hP
 unfold giP at hP'
 rw[Qd,Qd,Q0]at hP'
 obtain⟨⟨hok,h60⟩,hgr⟩:=hP'
 have HN:=znb c hcw
 change FC _ _ _ [.one (zfg (vaC c))]at HN
 have hnl:=qh2 c
 have HL:=zz1 ts (vaC c).length 60 Zi Zi Zi
 have hb:giB c ts=(decide (ts.length^(vaC c).length<=60)&&zsc c (vaC c) (zco ts (vaC c).length)):=by unfold giB;rw[hP,Q2]
 have hv:giV c ts=if giB c ts=true then giR c (vaC c) (zco ts (vaC c).length) []else []:=rfl
 have hR:=qrw ts (vaC c).length
 have hll:∀q∈c.lits,q.wt<=1048576:=λq hq=>Q8 (zf1 hq) hcw
 have hlen:c.lits.length<=1048576:=by have:=c.wt_eq;unfold zgb at this;omega
 have hgrd:∀l,l∈zco ts (vaC c).length->Grd ((vaC c).zip l):=λl hl=>qht (qoh c) (by
  rw[Qr]
  exact λt ht=>Qr.1 hgr t (((zcg ts _ l).1 hl).2 t ht))
 have HA:∀l,l∈zco ts (vaC c).length->RC Tryz.prog 112 [.agg [sbS ((vaC c).zip l)],.one (liS c.lits)] [cqD (ifC (mkC (clL c ((vaC c).zip l))) (zjj (clL c ((vaC c).zip l)))),bD (zjj (clL c ((vaC c).zip l)))]:=λl hl=>by
  have:=qgb c.lits ((vaC c).zip l) (by rw[List.length_zip];omega) (λp hp=>by have:=zpc ((hgrd l hl).g p hp).1;omega) hll hlen (by rw[qic hok (hgrd l hl).v];exact zyu hok (hgrd l hl));rw[qic hok (hgrd l hl).v]at this;exact this
 have hnn:(vaC c).length<=1048576:=by omega
 have haml:=λl=>(zcg ts (vaC c).length l).1
 have hall_len:=zg8 ts (vaC c).length
 simp only[cqD,zap]at HN HA⊢
 generalize hns:vaC c=ns at *
 by_cases h6:ts.length^ns.length<=60
 ·rw[hR.1 h6]at HL;rw[Ku h6,Q2]at hb;rw[hb]at hv⊢;rw[hv];generalize hLd:zco ts ns.length=L at *;refine zbs Tryz.call58 Tryz.func58 rfl Zh (zat Zh) ?_;simp -implicitDefEqProofs only[go_sem,Tryz.results58];refine callF (HN) Zg ?_;refine Zj ?_;refine callR (HL) Zg ?_;refine Zj ?_;refine za2 Zg ?_;refine Zj ?_;have hLn:L.length<=60:=by omega
  refine zad (λi:Nat=>hd [(2,.one (.bx 2 0)),(6,.one (.ow 576 0)),(7,vT (qop L)),(9,.one (.ow 928 0)),(10,vI i)] [(2,[.t (liS c.lits)])] [(576,⟨true,1,ns.map λs=>[.str s],0,true⟩),(928,⟨true,1,(giR c ns (L.take i) []).map cqC,0,true⟩)]) (λi=>i<=L.length/\zsc c ns (L.take i)=true) (λi=>L.length-i) 0 (zab ?_) ⟨Qy _,rfl⟩ ?_
  ·refine Zj ?_;rfl
  ·intro i ⟨hi,hoki⟩;by_cases hlt:i<L.length
   ·have hmem:L[i]∈L:=Qe hlt;have hA:=HA L[i] hmem;have hLi:=(haml L[i] hmem).1;have hsucc:=qkn (c:=c) (ns:=ns) hlt [];have hoks:zsc c ns (L.take (i+1))=zjj (clL c (ns.zip L[i])):=by
     unfold zsc at hoki⊢;rw[Qg hlt,List.all_append,hoki];simp
    have hbad:zjj (clL c (ns.zip L[i]))=false->zsc c ns L=false:=λh=>by
     unfold zsc;rw[J9];exact⟨L[i],hmem,by rw[h];simp⟩
    have hxl:=zu6 c ns (L.take i) [];rw[Qc,Qo]at hxl;have hqw:=zza (clL c (ns.zip L[i]));have hqw2:=zyu hok (hgrd L[i] hmem);have hxw:∀a∈giR c ns (L.take i) [],a.wt<=1048576:=qow (λl hl=>Q8 (zza _) (zyu hok (hgrd l (Jt hl)))) [] (by simp);have hqok:zjj (clL c (ns.zip L[i]))=true->(mkC (clL c (ns.zip L[i]))).ok=true:=λh=>by
     unfold zjj at h;rw[Qd]at h;exact h.2
    generalize giR c ns (L.take i) []=x at hsucc hxl hxw⊢;generalize mkC (clL c (ns.zip L[i]))=q at hA hsucc hqw hqok;refine Xo ?_;refine zad (λk:Nat=>hd [(2,.one (.bx 2 0)),(6,.one (.ow 576 0)),(7,vT (qop L)),(9,.one (.ow 928 0)),(10,vI i),(11,.one (.bx 11 0)),(12,vI k)] [(2,[.t (liS c.lits)]),(11,[.ow 3000 0])] [(576,⟨true,1,ns.map λs=>[.str s],0,true⟩),(928,⟨true,1,x.map cqC,0,true⟩),(3000,⟨false,3,((ns.zip L[i]).take k).map bnC,0,true⟩)]) (λk=>k<=ns.length) (λk=>ns.length-k) 0 (zab ?_) (Qy _) ?_
    ·exact Zg
    ·intro k hk;by_cases hkl:k<ns.length
     ·have hkl2:k<L[i].length:=by omega
      have hzl:k<(ns.zip L[i]).length:=by rw[List.length_zip];omega
      have hmin:min k (ns.zip L[i]).length<=4294967295:=by omega
      have hrow:((ns.zip L[i]).take (k+1)).map bnC=((ns.zip L[i]).take k).map bnC++[[.str ns[k],.str L[i][k].name,.sl 2 (L[i][k].args.map tmC)]]:=by
       rw[Qg hzl,Qq,Q7,List.getElem_zip,zxg]
      have hget:(L.map λs=>[tmS s]).getD i []=[tmS L[i]]:=by rw[List.getD_eq_getElem?_getD,List.getElem?_map,List.getElem?_eq_getElem hlt];rfl
      refine Zk hkl ?_;refine drawn Zh ?_;refine Zz hkl hkl2 hlt hget (zaa L[i][k]) ?_;refine zbi (Z7 hkl hkl2 hlt hget (zaa L[i][k])) ?_;refine Zz hkl hkl2 hlt hget (zaa L[i][k]) ?_;refine zcx false (Z5 hmin) ?_;refine Z6 hmin ?_;refine⟨Zh,k+1,hkl,Zi,zab ?_⟩;refine Zj ?_;rw[zaf Zi,hrow];exact⟨rfl,rfl⟩
     ·have ht:(ns.zip L[i]).take k=ns.zip L[i]:=Ql (by rw[List.length_zip];omega);unfold sbS at hA;cases hmk:zjj (clL c (ns.zip L[i]))
      ·rw[hmk]at hA;have hb2:=hbad hmk;rw[hb2,if_neg (by simp)];simp only[ifC,Qz,if_false]at hA;simp -implicitDefEqProofs only[go_sem,hkl,ht];refine frzS 3000 rfl rfl ?_;refine Zj ?_;refine callR (hA) Zg ?_;refine Zj ?_;refine zb7 Zg ?_;refine Zj ?_;rfl
      ·rw[hmk]at hA hoks;simp only[ifC,if_true]at hA;simp -implicitDefEqProofs only[go_sem,hkl,ht];refine frzS 3000 rfl rfl ?_;refine Zj ?_;refine callR (hA) Zg ?_;refine Zj ?_;have hqo:q.ok=true:=hqok hmk;have HG:=zj1 q (Q8 hqw hqw2);have HO:=qs5 q (Q8 hqw hqw2);rw[hqo]at HG;simp only[cqD,zap]at HG HO;refine callF (HG) Zg ?_;refine Zj ?_;refine zad (λk:Nat=>hd [(2,.one (.bx 2 0)),(6,.one (.ow 576 0)),(7,vT (qop L)),(9,.one (.ow 928 0)),(10,vI i),(13,.one (.bx 13 0)),(15,vB ((x.take k).any λa=>same a q)),(16,vI k)] [(2,[.t (liS c.lits)]),(13,[.t (liS q.lits)])] [(576,⟨true,1,ns.map λs=>[.str s],0,true⟩),(928,⟨true,1,x.map cqC,0,true⟩)]) (λk=>k<=x.length) (λk=>x.length-k) 0 (zab ?_) (Qy _) ?_
       ·refine Zj ?_;rfl
       ·intro k hk;by_cases hkx:k<x.length
        ·have hany:((x.take (k+1)).any λa=>same a q)=(((x.take k).any λa=>same a q)||same x[k] q):=by
          rw[Qg hkx,List.any_append];simp
         have HS:=zy3 x[k] q (hxw x[k] (Qe hkx));simp only[cqD,zap]at HS;refine Zk hkx ?_;refine drawn Zh ?_;cases hkn:(x.take k).any λa=>same a q
         ·rw[hkn,K5]at hany;simp -implicitDefEqProofs only[go_sem,hkx,zac,zap x[k],hkn,Ja];refine zbf (HS) Zg ?_;refine Zj ?_;refine⟨Zh,k+1,hkx,Zi,zab ?_⟩;refine Zj ?_;rw[zaf Zi,hany];exact⟨rfl,rfl⟩
         ·rw[hkn,Zc]at hany;simp -implicitDefEqProofs only[go_sem,hkx,zac,zap x[k],hkn,K8];refine⟨Zh,k+1,hkx,Zi,zab ?_⟩;refine Zj ?_;rw[zaf Zi,hany];exact⟨rfl,rfl⟩
        ·have htx:x.take k=x:=Ql Zi;have hput:zdv x q=if(x.any λa=>same a q)=true then x else x++[q]:=rfl
         cases hkn:x.any λa=>same a q
         ·rw[hkn,if_neg (by simp)]at hput;have hx2:x.length<=4294967295:=by omega
          simp -implicitDefEqProofs only[go_sem,hkx,htx,hkn,Ja];refine callF (HO) Zg ?_;refine Zj ?_;refine za2 Zg ?_;refine Zj ?_;refine apD true (Zu hx2) ?_;refine Zv hx2 ?_;refine⟨i+1,⟨hlt,hoks⟩,Zi,zab ?_⟩;refine Zj ?_;rw[zaf Zi,hsucc,hput,Qq,Q7];exact⟨rfl,rfl⟩
         ·rw[hkn,if_pos rfl]at hput;simp -implicitDefEqProofs only[go_sem,hkx,htx,hkn,K8];refine⟨i+1,⟨hlt,hoks⟩,Zi,zab ?_⟩;refine Zj ?_;rw[zaf Zi,hsucc,hput];exact⟨rfl,rfl⟩
   ·have ht:L.take i=L:=Ql Zi;rw[ht]at hoki;rw[ht,hoki,if_pos rfl];exact Zl hlt
 ·have hf:=hR.2 h6;rw[hf]at HL;rw[Kv h6,Q4]at hb;rw[hb,if_neg (by simp)]at hv;rw[hv,hb];generalize (zi9 ts 60 ns.length 0).1=Z at HL;refine zbs Tryz.call58 Tryz.func58 rfl Zh (zat Zh) ?_;simp -implicitDefEqProofs only[go_sem,Tryz.results58];refine callF (HN) Zg ?_;refine Zj ?_;refine callR (HL) Zg ?_;refine Zj ?_;refine zb7 Zg ?_;refine Zj ?_;rfl
end
section
open Go.RowKit
noncomputable def gaP (cs:List Cq):Bool:=decide (cs.length<=40)&&cs.all grC
noncomputable def gaA (cs:List Cq):List Tm:=if gaP cs=true then gaL cs else []
theorem zyr (cs:List Cq):zp2 cs=(gaP cs&&decide ((gaL cs).length<=12)):=rfl
theorem zh5:∀(ts ys:List Tm),(ts.foldl zdg ys).length<=ys.length+ts.length
 | [],ys=>by simp
 | t::ts,ys=>by
  have h1:=zh5 ts (zdg ys t);have h2:(zdg ys t).length<=ys.length+1:=by
   unfold zdg;split
   ·omega
   ·have:=congrArg List.length (K6 (p:=λx=>ltT x t) (l:=ys));simp only[Qb,Qj,Qo]at this⊢;omega
  rw[Ks,Qj];omega
theorem zzx (cs:List Cq)(hw:CsB cs):RC Tryz.prog 60 [.one (cqS cs)] [.one (tmS (gaA cs)),bD (zp2 cs)]:=by
 have hcw:=hw.wt
 have hv1:=zyr cs
 have hv2:gaA cs=if gaP cs=true then gaL cs else []:=rfl
 have hv3:gaP cs=(decide (cs.length<=40)&&cs.all grC):=rfl
 have hal:=hw.at'
 have hln:=hw.len
 by_cases h40:cs.length<=40
 ·have h40':((40:Int)<(cs.length:Int))=False:=eq_false Zi;rw[Ku h40,Q2]at hv3;refine zbs Tryz.call60 Tryz.func60 rfl Zh (zat Zh) ?_;simp -implicitDefEqProofs only[go_sem,Tryz.results60];refine zb7 Zg ?_;refine Zj ?_;refine Zk h40' ?_;refine zad (λk:Nat=>hd [(0,vT (cqS cs)),(4,vT (tmS ((atC (cs.take k)).foldl zdg []))),(5,vI k)] [] []) (λk=>k<=cs.length/\(cs.take k).all grC=true) (λk=>cs.length-k) 0 (zab ?_) ⟨Qy _,rfl⟩ ?_
  ·refine Zj ?_;rfl
  ·intro k ⟨hk,hr⟩;by_cases hlt:k<cs.length
   ·have hno:grC cs[k]=false->gaP cs=false:=λh=>by
     rw[hv3,J9];exact⟨cs[k],Qe hlt,by simp[h]⟩
    have HG:=zj1 cs[k] (hcw _ (Qe hlt));have HN:=znb cs[k] (hcw _ (Qe hlt));have hgv:grC cs[k]=(cs[k].ok&&decide (cs[k].vo=[])):=rfl;have hd0:((0:Int)<((zc6 [] cs[k].vo).length:Int))↔cs[k].vo≠[]:=by
     rw[<-zjz,zre];have h1:=zlx cs[k].vo;constructor
     ·intro h e;have:=h1.2 e;omega
     ·intro h;have:(zb1 [] cs[k].vo).length≠0:=λe=>h (h1.1 e);omega
    cases hg:cs[k].ok
    ·have hp:=hno (by rw[hgv,hg,Q4]);rw[hp,Q4]at hv1;rw[hp,if_neg (by simp)]at hv2;rw[hg]at HG;rw[hv1,hv2];simp only[cqD,zap cs[k]]at HG;refine Xt ?_;refine callF (HG) Zg ?_;refine Zj ?_;refine zex Zg ?_;exact Zg
    ·rw[hg]at HG;rw[hg,Q2]at hgv;generalize zc6 [] cs[k].vo=L at HN hd0;by_cases hvo:cs[k].vo=[]
     ·have hL:((0:Int)<(L.length:Int))=False:=by
       rw[eq_iff_iff,hd0];simp[hvo]
      have hpre:=λj=>qij (cs:=cs) (k:=k) (j:=j) hlt;have hsu:=zop hlt;have hdk:=zh5 (atC (cs.take k)) [];rw[Qo]at hdk;have hlw:=λl (h:l∈cs[k].lits)=>Q8 (zf1 h) (hcw _ (Qe hlt));have hgc:grC cs[k]=true:=by rw[hgv,Ku hvo]
      have hll:cs[k].lits.length<=1048576:=by
       have h1:=hcw _ (Qe hlt);have h2:=cs[k].wt_eq;have h3:zgb cs[k].lits=cs[k].lits.length+(cs[k].lits.map Li.wt).sum:=rfl;omega
      have hcq:=zap cs[k];simp only[cqD,hcq]at HG HN;generalize cs[k].lits=ls at hpre hsu hlw hll hcq HG HN;refine Zm hlt hcq ?_;refine callF (HG) (by simp -implicitDefEqProofs only[go_sem,hlt,zac,hcq]) ?_;refine Zm hlt hcq ?_;refine callF (HN) (by simp -implicitDefEqProofs only[go_sem,hL]) ?_;simp -implicitDefEqProofs only[go_sem,hL];refine zad (λj:Nat=>hd [(0,vT (cqS cs)),(4,vT (tmS ((atL (ls.take j)).foldl zdg ((atC (cs.take k)).foldl zdg [])))),(5,vI k),(6,vI j)] [] []) (λj=>j<=ls.length) (λj=>ls.length-j) 0 (zab ?_) (Qy _) ?_
      ·refine Zj ?_;rfl
      ·intro j hj;by_cases hlj:j<ls.length
       ·have hdj:=zh5 (atL (ls.take j)) ((atC (cs.take k)).foldl zdg []);have hpj:=hpre j;have HC:=zyy ((atL (ls.take j)).foldl zdg ((atC (cs.take k)).foldl zdg [])) ls[j].atom Zi;rw[show zdg ((atL (ls.take j)).foldl zdg ((atC (cs.take k)).foldl zdg [])) ls[j].atom=(atL (ls.take (j+1))).foldl zdg ((atC (cs.take k)).foldl zdg []) from by rw[zw8 hlj,K0];rfl]at HC;simp only[tmD,zaa ls[j].atom]at HC;refine Zy hlt hcq hlj (zaj ls[j]) ?_;refine callR (HC) Zg ?_;refine Zj ?_;refine⟨j+1,hlj,Zi,zab ?_⟩;refine Zj ?_;rw[zaf Zi]
       ·have ht:ls.take j=ls:=Ql Zi;refine Zs hlt hcq hlj ?_;refine⟨k+1,⟨hlt,?_⟩,Zi,zab ?_⟩
        ·rw[Qg hlt,List.all_append,hr];simp[hgc]
        ·refine Zj ?_;rw[zaf Zi,ht,hsu,K0];exact⟨rfl,rfl⟩
     ·have hL:((0:Int)<(L.length:Int))=True:=by
       rw[eq_iff_iff,hd0];simp[hvo]
      have hp:=hno (by rw[hgv,Kv hvo]);rw[hp,Q4]at hv1;rw[hp,if_neg (by simp)]at hv2;rw[hv1,hv2];simp only[cqD,zap cs[k]]at HG HN;refine Xt ?_;refine callF (HG) (by simp -implicitDefEqProofs only[go_sem,hlt,zac,zap cs[k]]) ?_;refine Xt ?_;refine callF (HN) (by simp -implicitDefEqProofs only[go_sem,hL]) ?_;simp -implicitDefEqProofs only[go_sem,hL];refine zex Zg ?_;exact Zg
   ·have ht:cs.take k=cs:=Ql Zi;rw[ht]at hr⊢;rw[hr]at hv3;rw[hv3,Q2]at hv1;rw[hv3,if_pos rfl]at hv2;rw[hv1,hv2,show(atC cs).foldl zdg []=gaL cs from rfl];by_cases h12:(gaL cs).length<=12
    ·have h12':(((gaL cs).length:Int)<=(12:Int))=True:=eq_true Zi;rw[Ku h12];exact Z0 hlt h12'
    ·have h12':(((gaL cs).length:Int)<=(12:Int))=False:=eq_false Zi;rw[Kv h12];exact Z0 hlt h12'
 ·have h40':((40:Int)<(cs.length:Int))=True:=eq_true Zi;rw[Kv h40,Q4]at hv3;rw[hv3,Q4]at hv1;rw[hv3,if_neg (by simp)]at hv2;rw[hv1,hv2];refine zbs Tryz.call60 Tryz.func60 rfl Zh (zat Zh) ?_;simp -implicitDefEqProofs only[go_sem,Tryz.results60];refine zb7 Zg ?_;refine Zj ?_;refine Zk h40' ?_;rfl
end
section
open Go.RowKit
theorem qew {α:Type}(f:α->Nat)(B:Nat):∀xs:List α,(∀x∈xs,f x<=B)->(xs.map f).sum<=xs.length*B
 | [],_=>by simp
 | a::xs,h=>by
  have h1:=qew f B xs λx hx=>h x (by simp[hx]);have h2:=h a (by simp);rw[Qk,Jd,Qj,Km];omega
end
section
open Go.RowKit
structure Tb where
 name:Str
 ar:Int
 pred:Bool
def tbC (t:Tb):List T:=[.str t.name,.int .i64 t.ar,.bool t.pred,.vs none 0 0]
theorem za0 (t:Tb):tbC t=[.str t.name,.int .i64 t.ar,.bool t.pred,.vs none 0 0]:=rfl
abbrev tbD (t:Tb):D:=.agg (tbC t)
abbrev tbS (ts:List Tb):T:=.sl 4 (ts.map tbC)
end
section
open Go.RowKit
def zfr (a b:Tb):Int:=orE (zl9 a.name b.name) (zmo a.ar b.ar)
theorem zfi (a b:Tb):FC Tryz.prog 155 [tbD a,tbD b] [iD (zfr a b)]:=by
 have HS:=zyk a.name b.name
 have HI:=zoq a.ar b.ar
 have HO:=zuk (zl9 a.name b.name) (zmo a.ar b.ar)
 unfold zfr
 generalize zl9 a.name b.name=x at HS HO⊢
 generalize zmo a.ar b.ar=y at HI HO⊢
 simp only[tbD,za0]
 refine zam Tryz.call155 Tryz.func155 rfl Zh (zat Zh) ?_
 simp -implicitDefEqProofs only[go_sem,Tryz.results155]
 refine drawn Zh ?_
 refine Zj ?_
 refine za1 (HS) Zg ?_
 refine Zj ?_
 refine za1 (HI) Zg ?_
 refine Zj ?_
 refine zof Zg ?_
 refine Zj ?_
 refine za1 (HO) Zg ?_
 refine Zj ?_
 kernel_rfl
end
section
open Go.RowKit
theorem zzn (ts:List Tb)(t:Tb)(hl:ts.length<=1048576)(p:Nat)(hp:p<=ts.length)(h1:∀k (h:k<ts.length),k<p->zfr ts[k] t<0)(h2:∀k (h:k<ts.length),p<=k->¬zfr ts[k] t<0) :
  FC Tryz.prog 154 [.one (tbS ts),tbD t,.one (.fn 155 [])] [iD p,bD (if h:p<ts.length then zfr ts[p] t==0 else false)]:=by
 simp only[tbD,za0 t]
 refine zam Tryz.call154 Tryz.func154 rfl Zh (zat Zh) ?_
 simp -implicitDefEqProofs only[go_sem,Tryz.results154]
 refine zad (λz:Nat×Nat=>hd [(0,vT (tbS ts)),(2,vT (.fn 155 [])),(4,.one (.bx 4 0)),(8,vI ts.length),(9,vI z.1),(10,vI z.2)] [(4,[.t (.str t.name),.t (.int .i64 t.ar),.t (.bool t.pred),.t (.vs none 0 0)])] []) (λz=>z.1<=p/\p<=z.2/\z.2<=ts.length) (λz=>z.2-z.1) (0,ts.length) (zab ?_) ⟨Qy _,hp,Qp _⟩ ?_
 ·exact Zg
 ·rintro⟨i,j⟩ ⟨hi,hj,hjn⟩;simp only at hi hj hjn⊢;by_cases hij:i<j
  ·have hij':((i:Int)<(j:Int))=True:=eq_true Zi;have e1:IntKind.i64.wrap ((i:Int)+(j:Int))=((i+j:Nat):Int):=by rw[zay Zi Zi];omega
   have e2:IntKind.u64.wrap ((i+j:Nat):Int)=((i+j:Nat):Int):=by
    simp only[IntKind.wrap,IntKind.signed,IntKind.bits];simp;omega
   have e3:(((i+j:Nat):Int)).fdiv (2^min 1 64)=(((i+j) / 2:Nat):Int):=by
    rw[show(2:Int)^min 1 64=2 from rfl,Int.fdiv_eq_ediv_of_nonneg _ Zi];omega
   have e4:IntKind.i64.wrap (((i+j) / 2:Nat):Int)=(((i+j) / 2:Nat):Int):=zay Zi Zi;have hm:(i+j) / 2<ts.length:=by omega
   have hm1:i<=(i+j) / 2:=by omega
   have hm2:(i+j) / 2<j:=by omega
   generalize hmd:(i+j) / 2=m at *;have hr1:(0<=(m:Int))=True:=eq_true Zi;have hr2:((m:Int)<=18446744073709551615)=True:=eq_true Zi;have HC:=zfi ts[m] t;simp only[tbD,za0 ts[m],za0 t]at HC;have hw1:IntKind.i64.wrap ((m:Int)+1)=((m+1:Nat):Int):=zaf Zi;have k1:=h1 m hm;have k2:=h2 m hm;generalize zfr ts[m] t=cc at HC k1 k2;refine Zt hij' e1 e2 e3 e4 hr1 hr2 ?_;refine drawn Zh ?_;refine Zm hm (za0 ts[m]) ?_;refine za1 (HC) Zg ?_;refine Zj ?_;refine⟨Zh,λh=>?_,λh=>?_⟩
   ·have hc:cc<0:=by simpa using h
    refine⟨(m+1,j),⟨by simp only;have:=k2;omega,hj,hjn⟩,by simp only;omega,zab ?_⟩;refine Zj ?_;rw[hw1]
   ·have hc:¬cc<0:=by simpa using h
    refine⟨(i,m),⟨hi,by simp only;have:=k1;omega,by simp only;omega⟩,by simp only;omega,zab ?_⟩;exact Zg
  ·have hij':((i:Int)<(j:Int))=False:=eq_false Zi;have hip:i=p:=by omega
   subst hip;refine Zk hij' ?_;refine drawn Zh ?_;by_cases hlt:i<ts.length
   ·have HC:=zfi ts[i] t;simp only[tbD,za0 ts[i],za0 t]at HC;rw[dif_pos hlt];refine Zm hlt (za0 ts[i]) ?_;refine zbf (HC) Zg ?_;refine Zj ?_;kernel_rfl
   ·rw[dif_neg hlt];refine Xo ?_;kernel_rfl
end
section
open Go.RowKit
def qon (n:Str)(a:Int)(x:Tb):Bool:=x.name==n&&x.ar==a
theorem qfq (ts:List Tb)(hl:ts.length<=1048576)(n:Str)(a:Int):FC Tryz.prog 147 [.one (tbS ts),sD n,iD a] [iD (zew ts (qon n a))]:=by
 refine zam Tryz.call147 Tryz.func147 rfl Zh (zat Zh) ?_
 simp -implicitDefEqProofs only[go_sem,Tryz.results147]
 refine zad (λk:Nat=>hd [(0,vT (tbS ts)),(1,vT (.str n)),(2,.one (.t (.int .i64 a))),(7,vI k)] [] []) (λk=>k<=ts.length/\∀x∈ts.take k,qon n a x=false) (λk=>ts.length-k) 0 (zab ?_) ⟨Qy _,by simp⟩ ?_
 ·exact Zg
 ·intro k ⟨hk,hr⟩;by_cases hlt:k<ts.length
  ·have hit:qon n a ts[k]=(ts[k].name==n&&ts[k].ar==a):=rfl;cases h1:ts[k].name==n
   ·rw[h1,Q4]at hit;refine Zs hlt (za0 ts[k]) h1 ?_;refine⟨k+1,⟨hlt,zbd hlt hr hit⟩,Zi,zab ?_⟩;refine Zj ?_;rw[zaf Zi]
   ·rw[h1,Q2]at hit;cases h2:ts[k].ar==a
    ·rw[h2]at hit;refine Zy hlt (za0 ts[k]) h1 h2 ?_;refine⟨k+1,⟨hlt,zbd hlt hr hit⟩,Zi,zab ?_⟩;refine Zj ?_;rw[zaf Zi]
    ·rw[h2]at hit;refine Zy hlt (za0 ts[k]) h1 h2 ?_;rw[zbn hlt hr hit]
  ·refine Xo ?_;rw[Ql Zi]at hr;rw[zb4 hr]
end
section
open Go.RowKit
theorem zjl (xs:List Tb)(p:Tb->Bool)(g:FuncId)(caps:List T)(H:∀x∈xs,FC Tryz.prog g (tbD x::caps.map .one) [bD (p x)]):FC Tryz.prog 94 [.one (tbS xs),.one (.fn g caps)] [iD (zew xs p)]:=by
 refine zbz (λhw=>?_) Tryz.call94
 have hl:xs.length<=9223372036854775807:=by simpa[zee,wfT]using hw.1.1
 refine zam Tryz.call94 Tryz.func94 rfl Zh (zat Zh) ?_
 simp -implicitDefEqProofs only[go_sem,Tryz.results94]
 refine zad (λk:Nat=>hd [(0,vT (tbS xs)),(1,vT (.fn g caps)),(7,vI xs.length),(8,vI k)] [] []) (λk=>k<=xs.length/\∀x∈xs.take k,p x=false) (λk=>xs.length-k) 0 (zab ?_) ?_ ?_
 ·exact Zg
 ·simp
 ·intro k ⟨hk,hr⟩;by_cases hlt:k<xs.length
  ·simp -implicitDefEqProofs only[go_sem,zac,hlt,za0];refine callF (H xs[k] (Qe hlt)) (by simp -implicitDefEqProofs only[go_sem,za0]) ?_;simp -implicitDefEqProofs only[go_sem,za0];refine⟨λh=>?_,λh=>⟨k+1,⟨hlt,zbd hlt hr h⟩,Zi,zab (by simp -implicitDefEqProofs only[go_sem];rw[zaf Zi])⟩⟩;rw[zbn hlt hr h]
  ·refine Xo ?_;rw[Ql Zi]at hr;rw[zb4 hr]
end
section
open Go.RowKit
section
variable (p:Tb->Bool)
def kpB (ts:List Tb)(j:Nat):List Tb:=(ts.take j).filter λx=>!p x
theorem zy7 (ts:List Tb){j:Nat}(h:j<ts.length):kpB p ts (j+1)=kpB p ts j++if p ts[j]=true then []else [ts[j]]:=by
 unfold kpB
 rw[Qg h,Ya]
 congr 1
 rw[J7]
 cases p ts[j]<;>simp
theorem qgt (ts:List Tb):∀c∈(ts.map tbC).flatten,c.flat=true:=λc hc=>by
 obtain⟨r,hr,hc⟩:=Ki.1 hc
 obtain⟨t,_,rfl⟩:=Ka.1 hr
 rw[za0]at hc
 simp only[Qs,K9,or_false]at hc
 rcases hc with rfl|rfl|rfl|rfl<;>rfl
theorem qak (ts:List Tb)(hlen:ts.length<=1048576)(g:FuncId)(H:∀x∈ts,FC Tryz.prog g [tbD x] [bD (p x)]):GC Tryz.prog 46 [(true,.one (tbS ts)),(false,.one (.fn g []))] [.one (tbS (ts.filter λx=>!p x))]:=by
 refine⟨Tryz.call46,λw vs fp tp hv hn=>?_⟩
 refine qn4 (fn:=Tryz.f46) (R:=λ_=>False) (I:=λ_=>True) (λ_ _ _ _=>trivial) rfl rfl (by simp only[Qj,Qo,Tryz.ntmps46];omega) (by simp[zb6,T.isPin]) ?_ w vs fp tp hv hn trivial (λx hx=>hx.elim)
 have HI:=zjl ts p g [] H
 by_cases hany:ts.any p=true
 ·obtain⟨c,hc,hid,hno,hye⟩:∃c,∃hc:c<ts.length,zew ts p=(c:Nat)/\(∀x∈ts.take c,p x=false)/\p ts[c]=true:=by
   have hlt:ts.findIdx p<ts.length:=List.findIdx_lt_length.2 (Ju.1 hany);refine⟨_,hlt,?_,λx hx=>?_,List.findIdx_getElem (p:=p) (w:=hlt)⟩
   ·unfold zew;rw[if_pos hany]
   ·obtain⟨q,hq,rfl⟩:=Js hx;rw[Qc]at hq;rw[Yz];have:=List.not_of_lt_findIdx (p:=p) (xs:=ts) (show q<ts.findIdx p by omega);simpa using this
  rw[hid]at HI;have hn1:((c:Int) == -1)=false:=by rw[Yf];omega
  have hw1:IntKind.i64.wrap ((c:Int)+1)=((c+1:Nat):Int):=zaf Zi;have hk0:kpB p ts (c+1)=ts.take c:=by
   rw[zy7 p ts hc,hye,if_pos rfl,Kh];unfold kpB;rw[List.filter_eq_self];intro x hx;rw[hno x hx];rfl
  refine zba.cut 0 rfl Zh ?_;refine Zj ?_;refine zba.cut 0 rfl Zh ?_;refine Zj ?_;refine callF (HI) (Zl hn1) ?_;refine Zk hn1 ?_;refine zba.seq ?_;refine zba.ofEx Zh ?_;refine Zk hn1 ?_;refine zba.seq ?_;refine zba.cut 0 rfl Zh ?_;refine Zk hw1 ?_;refine zba.block ?_;refine zba.loop (λx:Nat×List Tb=>hd [(0,.one (.ow 0 0)),(1,vT (.fn g [])),(5,vI (kpB p ts x.1).length),(6,vI x.1)] [] [(0,⟨true,4,x.2.map tbC,0,true⟩)]) (λ_=>⟨λ_=>False,λ_=>False,λ_=>True⟩)
   (λx=>x.1<=ts.length/\x.2.length=ts.length/\x.2.take (kpB p ts x.1).length=kpB p ts x.1/\x.2.drop x.1=ts.drop x.1/\(kpB p ts x.1).length<x.1) (λx=>ts.length-x.1) (c+1,ts) (zab ?_) rfl ?_ ?_
  ·refine Zj ?_;rw[hk0,Qc,K7 Zi]
  ·refine⟨hc,rfl,?_,rfl,?_⟩
   ·rw[hk0,Qc,K7 Zi]
   ·rw[hk0,Qc];simp only;omega
  rintro⟨j,Rr⟩ ⟨hj,hRl,hRt,hRd,hcj⟩;simp only at hj hRl hRt hRd hcj⊢;by_cases hlt:j<ts.length
  ·have hjR:j<Rr.length:=by omega
   have hRj:Rr[j]=ts[j]:=by
    have:=congrArg (λl=>l[0]?) hRd;simp only[List.getElem?_drop,Yx,List.getElem?_eq_getElem hjR,List.getElem?_eq_getElem hlt]at this;exact Jg this
   have hks:=zy7 p ts hlt;have HC:=H ts[j] (Qe hlt);have hcR:(kpB p ts j).length<Rr.length:=by omega
   have hlRi:((j:Int)<(Rr.length:Int))=True:=eq_true Zi;have hRd2:Rr.drop (j+1)=ts.drop (j+1):=by
    have:=congrArg (List.drop 1) hRd;simpa[Y6]using this
   have hwj:IntKind.i64.wrap ((j:Int)+1)=((j+1:Nat):Int):=zaf Zi;have hwc:IntKind.i64.wrap (((kpB p ts j).length:Int)+1)=(((kpB p ts j).length+1:Nat):Int):=zaf Zi;simp only[tbD,za0 ts[j]]at HC;refine zba.cut 0 rfl Zh ?_;refine Zk hlRi ?_;cases hb:p ts[j]
   ·rw[hb]at HC hks;simp only[Qz,if_false]at hks;have hst:zda (Rr.map tbC) (kpB p ts j).length 0 [.str ts[j].name,.int .i64 ts[j].ar,.bool ts[j].pred,.vs none 0 0]=(Rr.set (kpB p ts j).length ts[j]).map tbC:=by
     unfold zda setR;rw[List.getD_eq_getElem?_getD,List.getElem?_map,List.getElem?_eq_getElem hcR];simp[List.map_set,za0]
    refine zba.ofEx Zh ?_;refine Zs hjR hRj (za0 ts[j]) ?_;refine callF (HC) (by simp -implicitDefEqProofs only[go_sem,Ja,hcR,Qa]) ?_;simp -implicitDefEqProofs only[go_sem,Ja,hcR,Qa];refine zi6 (by simp -implicitDefEqProofs only[go_sem];simp) ?_;refine Zr hst hwc ?_;refine⟨(j+1,Rr.set (kpB p ts j).length ts[j]),⟨hlt,by rw[Y5];exact hRl,?_,?_,?_⟩,by simp only;omega,zab ?_⟩
    ·simp only;rw[hks,Qb,Jn,Qg (by rw[Y5];exact hcR),List.getElem_set_self,List.take_set_of_le (Qp _),hRt]
    ·simp only;rw[List.drop_set_of_lt Zi];exact hRd2
    ·simp only;rw[hks,Qb,Jn];omega
    ·refine Zk hwj ?_;rw[hks,Qb,Jn]
   ·rw[hb]at HC hks;simp only[if_true,Kh]at hks;refine zba.ofEx Zh ?_;refine Zs hjR hRj (za0 ts[j]) ?_;refine callF (HC) (by simp -implicitDefEqProofs only[go_sem,K8]) ?_;simp -implicitDefEqProofs only[go_sem,K8];refine⟨(j+1,Rr),⟨hlt,hRl,by rw[hks];exact hRt,hRd2,by rw[hks];simp only;omega⟩,by simp only;omega,zab ?_⟩;refine Zk hwj ?_;rw[hks]
  ·have hjn:j=ts.length:=by omega
   have hlRi:((j:Int)<(Rr.length:Int))=False:=eq_false Zi;have hall:kpB p ts j=ts.filter λx=>!p x:=by
    unfold kpB;rw[hjn,K2]
   rw[hall]at hRt hcj⊢;generalize hK:(ts.filter λx=>!p x)=K at *;have hcR:K.length<Rr.length:=by omega
   refine zba.cut 0 rfl Zh ?_;refine Zk hlRi ?_;refine zba.seq (zba.region (zdd.plain 3 (by decide) rfl Zh ?_));refine Zj ?_;refine qp5 ?_;simp -implicitDefEqProofs only[go_sem,vwM,hcR,Qa];refine zdd.step rfl rfl (λd hd=>by cases hd) (zxx (x:=.tmp 38) (t:=63) (e:=0) (gn:=0) (sz:=4) (k:=K.length) (rows:=Rr.map tbC) (zt:=[.str [],.int .i64 0,.bool false,.vs none 0 0]) Zg Zg (qgt Rr) Zh Tryz.zeroValue69 rfl ?_ ?_ ?_)
   ·intro v hv;simp only[Value.cells,Qs,K9,or_false]at hv;rcases hv with rfl|rfl|rfl|rfl<;>rfl
   ·intro w;refine⟨_,_,[],[],rfl,rfl,by unfold zas;exact⟨rfl,by simp[zd1],rfl⟩,_,_,[],[],rfl,rfl,by unfold zas;exact⟨rfl,by decide,by decide,rfl⟩,_,_,[],[],rfl,rfl,by unfold zas;exact⟨rfl,rfl⟩,_,_,[],[],rfl,rfl,by unfold zas;exact⟨rfl,rfl⟩,rfl,rfl⟩
   have hTk:((Rr.map tbC).take K.length++List.replicate ((Rr.map tbC).length-K.length) [T.str [],.int .i64 0,.bool false,.vs none 0 0]).take K.length=K.map tbC:=by
    rw[Yw (by rw[Qc,Qa];omega),<-Jm,hRt]
   have hZl:((Rr.map tbC).take K.length++List.replicate ((Rr.map tbC).length-K.length) [T.str [],.int .i64 0,.bool false,.vs none 0 0]).length=Rr.length:=by simp;omega
   have hfl3:∀c∈((Rr.map tbC).take K.length++List.replicate ((Rr.map tbC).length-K.length) [T.str [],.int .i64 0,.bool false,.vs none 0 0]).flatten,c.flat=true:=λc hc=>by
    obtain⟨r,hr,hc⟩:=Ki.1 hc;rcases Qt.1 hr with hr|hr
    ·exact qgt Rr c (Ki.2 ⟨r,Jt hr,hc⟩)
    ·rw[Yn hr]at hc;simp only[Qs,K9,or_false]at hc;rcases hc with rfl|rfl|rfl|rfl<;>rfl
   generalize (Rr.map tbC).take K.length++List.replicate ((Rr.map tbC).length-K.length) [T.str [],.int .i64 0,.bool false,.vs none 0 0]=Rz at hTk hZl hfl3⊢;refine zdd.done rfl ?_;refine Va ?_;refine zba.seq (zba.region (zdd.plain 2 (by decide) rfl Zh ?_));refine Zj ?_
   refine zdd.step rfl rfl (λd hd=>by
    have:d=41:=(Jg hd).symm;subst this;show 41<Tryz.f46.ntmps
    simp only[Tryz.ntmps46];omega) (zyz (el:=69) (e:=0) (gn:=0) (sz:=4) (k:=K.length) (rows:=Rz) (kk:=.i64) Zg Zg Zg hfl3 Zi Zh Zh ?_)
   rw[hTk];refine Va ?_;refine zdd.plain 1 (by decide) rfl Zh ?_;refine Zj ?_;refine zdd.done rfl ?_;refine Zj ?_;refine zba.ofEx Zh ?_;exact Xn
 ·have hid:zew ts p = -1:=by unfold zew;rw[if_neg hany]
  have hall:ts.filter (λx=>!p x)=ts:=by
   rw[List.filter_eq_self];intro x hx;have:=Yh.1 (by simpa using hany:ts.any p=false) x hx;simpa using this
  rw[hid]at HI;rw[hall];refine zba.cut 0 rfl Zh ?_;refine Zj ?_;refine zba.ofEx Zh ?_;refine Zj ?_;refine callF (HI) Xn ?_;exact Xn
end
end
section
open Go.RowKit
theorem zzv (t:Tb):FC Tryz.prog 47 [tbD t] [bD t.pred]:=by
 simp only[tbD,za0]
 refine zam Tryz.call47 Tryz.func47 rfl Zh (zat Zh) ?_
 simp -implicitDefEqProofs only[go_sem,Tryz.results47]
theorem ziz (t:Tm)(hw:t.wt<=1048576):FC Tryz.prog 50 [tmD t] [bD (!t.good)]:=by
 have H:=ze0 t Zi
 simp only[tmD,zaa]at H⊢
 refine zam Tryz.call50 Tryz.func50 rfl Zh (zat Zh) ?_
 simp -implicitDefEqProofs only[go_sem,Tryz.results50]
 refine callF (H) Zg ?_
 exact Zg
theorem qd7 (ts:List Tb)(hlen:ts.length<=1048576):GC Tryz.prog 46 [(true,.one (tbS ts)),(false,.one (.fn 47 []))] [.one (tbS (ts.filter λx=>!x.pred))] :=
 qak (λx=>x.pred) ts hlen 47 λx _=>zzv x
end
section
open Go.RowKit
def dpS (f:Tb)(level:Int)(n:Nat)(x:List Tm)(l:List Tm):Bool×List Tm :=
 (decide (n+(if((Tm.mk f.name l).depth:Int)==level then x++[Tm.mk f.name l]else x).length<=60),if((Tm.mk f.name l).depth:Int)==level then x++[Tm.mk f.name l]else x)
theorem qsm (f:Tb)(level:Int)(ts:List Tm)(x:List Tm)(l:List Tm)(hx:x.length<=1048576)(hts:ts.length<=1048576)(hlw:(Tm.mk f.name l).wt<=1048576) :
  PC Tryz.prog 96 [[(true,tmS x)]] (.d false (.one (tmS l))::[1,2,0,3].map (qg6 1 [tbC f,[.int .i64 level],[tmS ts]])) [[(true,tmS (dpS f level ts.length x l).2)]] [(true,.one (.bool (dpS f level ts.length x l).1))]:=by
 have hlw2:zo7 l<=1048576:=by
  have:=Tm.wt_eq (.mk f.name l);simp only[Tm.name,Tm.args]at this;unfold zo7;omega
 have HCo:=zt8 l hlw2
 have HD:=qh5 (.mk f.name l) Zi
 show PC _ _ _ [.d false (.one (tmS l)),.d false (.one (.ptr (tbC f))),.d false (.one (.ptr [.int .i64 level])),.p 0,.d false (.one (.ptr [tmS ts]))] _ _
 simp only[za0]
 refine qox Tryz.call96 Tryz.func96 rfl (by simp only[Qj,Qo,Tryz.ntmps96];omega) (by simp only[Tryz.ntmps96];omega) rfl rfl (by simp[zb6,T.isPin,AF.ds,bxA]) (by simp[gFS,T.fs,T.flat,AF.ds,bxA]) rfl ?_
 unfold dpS
 simp only[tmD,zr7]at HD
 generalize hdd:((Tm.mk f.name l).depth:Int)=dd at HD⊢
 have hx2:x.length<=4294967295:=by omega
 refine zgx.wkA (σ':=hd [(0,.one (.rn (tmS l))),(1,vT (.ptr [.str f.name,.int .i64 f.ar,.bool f.pred,.vs none 0 0])),(2,vT (.ptr [.int .i64 level])),(3,.one (.bx 1000000 0)),(4,vT (.ptr [tmS ts])),(1000000,.one (.bx 1000000 0))] [(1000000,[.ow 128 0])] [(128,⟨true,2,x.map tmC,0,true⟩)]) (zab ?_) ?_
 ·exact Zg
 refine zgx.ofEx Zh ?_
 simp -implicitDefEqProofs only[go_sem,Tryz.results96]
 refine drawn Zh ?_
 refine Zj ?_
 refine za1 (HCo) Zg ?_
 refine Zj ?_
 refine⟨Zh,?_⟩
 refine drawn Zh ?_
 refine Zj ?_
 refine za1 (HD) Zg ?_
 refine Zj ?_
 cases he:dd==level
 ·simp only[Qz,if_false];refine⟨Zh,λh=>h.elim,λ_=>Or.inl ⟨?_,Or.inl trivial⟩⟩;rw[zay Zi Zi]
  congr 1
  rw[Yr];omega
 ·simp only[if_true];refine⟨Zh,λ_=>?_,λh=>by cases h⟩;have hnls:(nlsT Tryz.prog 6 74).getD 1 0=2:=by kernel_rfl
  have hz:[Value.string ⟨#[]⟩,Value.slice none 0 0].zipIdx=[(Value.string ⟨#[]⟩,0),(Value.slice none 0 0,1)]:=rfl;have hs0:((⟨#[]⟩:ByteArray).size<=9223372036854775807)=True:=eq_true (by decide);refine drawn Zh ?_;simp -implicitDefEqProofs only[go_sem,hz,hnls,hs0];refine za7 (Z3 hz hnls hs0) ?_;simp -implicitDefEqProofs only[go_sem,hz,hnls,hs0];refine zcx true (by simp -implicitDefEqProofs only[go_sem,ne_eq,Qa,hx2,hz,hnls]) ?_;simp -implicitDefEqProofs only[go_sem,ne_eq,Qa,hx2,hz,hnls];have hst:zda (x.map tmC++[[.str [],.sl 2 []]]) x.length 0 [.str f.name,.sl 2 (l.map tmC)]=x.map tmC++[[.str f.name,.sl 2 (l.map tmC)]]:=by
   have:=zrb (x.map tmC) [] [.str [],.sl 2 []] (k:=x.length) (Qa ..) 0 [.str f.name,.sl 2 (l.map tmC)];rw[this];rfl
  refine qqk (by simp -implicitDefEqProofs only[go_sem,hst];rintro p rfl;exact(by decide:(352:Nat)≠128)) ?_;refine Zk hst ?_;refine⟨Zh,Or.inl ⟨?_,Or.inl ?_⟩⟩
  ·rw[zay Zi Zi]
   congr 1
   rw[Yr];omega
  ·rw[Qq,Q7,zr7]
end
section
open Go.RowKit
def zc1 (level:Int)(ts:List Tm):List Tb->List Tm->Bool×List Tm
 | [],x=>(true,x)
 | f::fs,x=>if f.ar==0 then zc1 level ts fs x else
   if(runT (dpS f level ts.length) (zco ts f.ar.toNat) x).1=true then zc1 level ts fs (runT (dpS f level ts.length) (zco ts f.ar.toNat) x).2 else (false,(runT (dpS f level ts.length) (zco ts f.ar.toNat) x).2)
theorem qcl {f:Tb}{level:Int}{n:Nat}{x l:List Tm}(h:(dpS f level n x l).1=true):(dpS f level n x l).2.length<=60:=by
 unfold dpS at h⊢
 simp only[Q0]at h⊢
 omega
theorem zzg {f:Tb}{level:Int}{n:Nat}:∀(L:List (List Tm))(x:List Tm),x.length<=60->(runT (dpS f level n) L x).1=true->(runT (dpS f level n) L x).2.length<=60
 | [],x,hx,_=>hx
 | l::L,x,hx,h=>by
  rw[runT]at h⊢;by_cases hc:(dpS f level n x l).1=true
  ·rw[if_pos hc]at h⊢;exact zzg L _ (qcl hc) h
  ·rw[if_neg hc]at h;cases h
theorem qat (f:Tb)(level:Int)(ts:List Tm)(hts:ts.length<=1048576)(n:Nat)(hn:n<=1048576)(hfw:∀l∈zco ts n,(Tm.mk f.name l).wt<=1048576)(x:List Tm)(hx:x.length<=60) :
  PC Tryz.prog 95 [[(true,tmS x)],[(false,.str f.name),(false,.int .i64 f.ar),(false,.bool f.pred),(false,.vs none 0 0)],[(false,.int .i64 level)],[(false,tmS ts)]] [.d false (.one (tmS ts)),.d false (.one (.int .i64 n)),.fn 96 [1,2,0,3]]
   [[(true,tmS (runT (dpS f level ts.length) (zco ts n) x).2)],[(false,.str f.name),(false,.int .i64 f.ar),(false,.bool f.pred),(false,.vs none 0 0)],[(false,.int .i64 level)],[(false,tmS ts)]] [(true,.one (.bool (runT (dpS f level ts.length) (zco ts n) x).1))]:=by
 have HE:=zle (g:=96) (bx:=λx:List Tm=>[[(true,tmS x)]]) (m:=1) (λ_=>rfl) (λx b hb p hp=>by
   rw[Qv.1 hb,Qv]at hp
   rw[hp]) [tbC f,[.int .i64 level],[tmS ts]] (js:=[1,2,0,3]) (by simp) (Inv:=λx=>x.length<=60) (okl:=λl=>l∈zco ts n) (st:=dpS f level ts.length) Tryz.call96 (λx l hx hl ho=>qcl ho) (λx l hx hl=>qsm f level ts x l Zi hts (hfw l hl))
  ts hts n hn (λl h1 h2=>(zcg ts _ l).2 ⟨h1,h2⟩) x hx
 rw[zko]at HE
 exact HE
end
section
open Go.RowKit
def zjm (ts:List Tm):List Tm:=ts.mergeSort λa b=>!ltOf zc9 b a
theorem zeq (ts:List Tm):(zjm ts).Perm ts:=Yl _ _
theorem zst (ts:List Tm):(zjm ts).Pairwise λa b=>ltOf zc9 b a=false:=by
 have:=List.pairwise_mergeSort (le:=λa b=>!ltOf zc9 b a) (λa b c h1 h2=>?_) (λa b=>?_) ts
 ·exact this.imp λh=>by simpa using h
 ·have hO:=zlh zdk;simp only[Jk]at h1 h2⊢;exact hO.ntrans c b a h2 h1
 ·have n1:=zdk.neg a b;simp only[ltOf,Yb,Jk,Ko];omega
theorem qi2 (xs:List Tm)(hg:∀x∈xs,upT x=true)(hl:xs.length<4611686018427387904):IC Tryz.prog 99 [] (.one (tmS xs)) [.one (.fn 100 [])] (.one (tmS (zjm xs))) [] :=
 ztm (G:=λx=>upT x=true) (cf:=zc9) Tryz.laysST Tryz.call99 (λw=>Tryz.isAgg74 w) (λw=>Tryz.sizeOf74 w) Tryz.call100 (λx=>by rw[zaa];rfl) (zlh zdk)
  (λx y h1 h2=>by
   have n1:=zde x y;unfold ltOf at h1 h2;rw[Ko]at h1 h2
   exact(zen x y).1 Zi) (λx y h1 h2=>zd8 x y h1 h2) xs (zjm xs) (zeq xs).symm (zst xs) hg hl
theorem zxt (fs:List Tb)(ts:List Tm)(level:Int)(hfs:fs.length<=1048576)(hts:ts.length<=1048576)(har:∀f∈fs,0<=f.ar/\f.ar<=3)(hfw:∀f∈fs,∀l∈zco ts f.ar.toNat,(Tm.mk f.name l).wt<=1048576)(hup:∀x∈(zc1 level ts fs []).2,upT x=true)(hln:(zc1 level ts fs []).1=true->(zc1 level ts fs []).2.length<=60) :
  FC Tryz.prog 48 [.one (tbS fs),.one (tmS ts),iD level] [.one (tmS (if(zc1 level ts fs []).1=true then zjm (zc1 level ts fs []).2 else [])),bD (zc1 level ts fs []).1]:=by
 refine zcc Tryz.call48 Tryz.func48 rfl Zh (zat Zh) ?_
 simp -implicitDefEqProofs only[go_sem,Tryz.results48]
 refine za2 Zg ?_
 refine Zj ?_
 refine zad (λz:Nat×List Tm=>hd [(4,.one (.bx 4 0)),(5,.one (.bx 5 0)),(8,.one (.bx 8 0)),(12,.one (.rn (tbS fs))),(13,vI fs.length),(14,vI z.1)] [(4,[.rn (tmS ts)]),(5,[.t (.int .i64 level)]),(8,[.ow 352 0])] [(352,⟨true,2,z.2.map tmC,0,true⟩)]) (λz=>z.1<=fs.length/\z.2.length<=60/\zc1 level ts fs []=zc1 level ts (fs.drop z.1) z.2) (λz=>fs.length-z.1) (0,[]) (zab ?_) ⟨Qy _,by simp,rfl⟩ ?_
 ·exact Zg
 ·rintro⟨k,x⟩ ⟨hk,hx,heq⟩;simp only at hk hx heq⊢;by_cases hlt:k<fs.length
  ·obtain⟨h0,h3⟩:=har fs[k] (Qe hlt);rw[Qn hlt,zc1]at heq;cases hz:fs[k].ar==0
   ·rw[hz,if_neg (by simp)]at heq;have HE:=qat fs[k] level ts hts fs[k].ar.toNat Zi (hfw _ (Qe hlt)) x hx;have hnn:((fs[k].ar.toNat:Nat):Int)=fs[k].ar:=by omega
    rw[hnn]at HE;have hrl:=zzg (f:=fs[k]) (level:=level) (n:=ts.length) (zco ts fs[k].ar.toNat) x hx;generalize (runT (dpS fs[k] level ts.length) (zco ts fs[k].ar.toNat) x).2=y at HE heq hrl;cases hr:(runT (dpS fs[k] level ts.length) (zco ts fs[k].ar.toNat) x).1
    ·rw[hr]at HE;rw[hr,if_neg (by simp)]at heq;rw[heq];simp only[Qz,if_false];refine Zs hlt (za0 fs[k]) hz ?_;refine znd [4,5,8,12,13,14] [21,23,24] [8,10,5,4] [] (HE) (by decide) rfl Zg Zg Zg Zg ?_;exact Zg
    ·rw[hr]at HE;rw[hr,if_pos rfl]at heq;refine Zs hlt (za0 fs[k]) hz ?_;refine znd [4,5,8,12,13,14] [21,23,24] [8,10,5,4] [] (HE) (by decide) rfl Zg Zg Zg Zg ?_;refine Zj ?_;refine⟨(k+1,y),⟨hlt,hrl hr,heq⟩,by simp only;omega,zcn 352 801 ?_⟩;refine Zj ?_;rw[zaf Zi]
   ·rw[hz,if_pos rfl]at heq;refine Zs hlt (za0 fs[k]) hz ?_;refine⟨(k+1,x),⟨hlt,hx,heq⟩,by simp only;omega,zab ?_⟩;refine Zj ?_;rw[zaf Zi]
  ·rw[Jy Zi,zc1]at heq;have HS:=qi2 x (λt ht=>hup t (by rw[heq];exact ht)) Zi;refine Zr hlt heq ?_;refine zvh [8,28] (HS) Zg Zg Zg Zg Zg rfl ?_;exact Zg
end
section
open Go.RowKit
theorem qc0:GCmp zmo:=by
 refine⟨λa b=>?_,λa b d=>?_⟩
 ·unfold zmo;split<;>split<;>omega
 ·have e:∀x y:Int,(zmo x y<=0)=(x<=y):=λx y=>by
   unfold zmo;rw[eq_iff_iff];split
   ·omega
   ·split<;>omega
  rw[e,e,e];omega
theorem zs9 {a b:Int}:zmo a b=0↔a=b:=by
 unfold zmo
 split
 ·omega
 ·split<;>omega
theorem zct:GCmp zfr:=GCmp.lex (zla.comp Tb.name) (qc0.comp Tb.ar)
theorem zkv {a b:Tb}:zfr a b=0↔a.name=b.name/\a.ar=b.ar:=by
 unfold zfr
 rw[zn5,zhj,zs9]
def ltB (a b:Tb):Bool:=decide (zfr a b<0)
abbrev zgo (l:List Tb):Prop:=l.Pairwise λa b=>zfr a b<0
theorem zhf {a b d:Tb}(h1:zfr a b<0)(h2:zfr b d<=0):zfr a d<0:=by
 have n1:=zct.neg a b
 have n2:=zct.neg b d
 have n3:=zct.neg a d
 have t1:=zct.tr a b d
 have t2:=zct.tr b d a
 omega
def plB (ts:List Tb)(x:Tb):Nat:=(ts.takeWhile λy=>ltB y x).length
def fdB (ts:List Tb)(x:Tb):Bool:=if h:plB ts x<ts.length then zfr ts[plB ts x] x==0 else false
theorem zw4 (ts:List Tb)(x:Tb):plB ts x<=ts.length:=by
 unfold plB
 have:=(List.takeWhile_prefix (λy=>ltB y x) (l:=ts)).length_le
 exact this
theorem zww {ts:List Tb}{x:Tb}(k:Nat)(hk:k<ts.length)(h:k<plB ts x):zfr ts[k] x<0:=by
 have hp:=List.takeWhile_prefix (λy=>ltB y x) (l:=ts)
 have hg:(ts.takeWhile λy=>ltB y x)[k]'h=ts[k]:=by
  obtain⟨r,hr⟩:=hp;have:ts[k]?=some ((ts.takeWhile λy=>ltB y x)[k]'h):=by
   conv=>lhs;rw[<-hr]
   rw[List.getElem?_append_left h,List.getElem?_eq_getElem h]
  rw[List.getElem?_eq_getElem hk]at this;exact(Jg this).symm
 have:=Qr.1 (List.all_takeWhile (p:=λy=>ltB y x) (l:=ts)) _ (Qe h)
 rw[hg]at this
 exact Kw this
theorem qno {ts:List Tb}{x:Tb}(h:plB ts x<ts.length):¬zfr ts[plB ts x] x<0:=by
 have hd:(ts.dropWhile λy=>ltB y x)=ts.drop (plB ts x):=by
  unfold plB;have h:=K6 (p:=λy=>ltB y x) (l:=ts);generalize (ts.takeWhile λy=>ltB y x)=A at h;rw[<-h,List.drop_left];rw[h]
 have hh:=List.head?_dropWhile_not (λy=>ltB y x) ts
 rw[hd,List.head?_drop,List.getElem?_eq_getElem h]at hh
 have hh:ltB ts[plB ts x] x=false:=by simpa using hh
 exact Yt hh
theorem qfz {ts:List Tb}(hs:zgo ts){i j:Nat}(hi:i<ts.length)(hj:j<ts.length)(h:i<j):zfr ts[i] ts[j]<0:=Yd.1 hs i j hi hj h
theorem qoz {ts:List Tb}(hs:zgo ts){x:Tb}(k:Nat)(hk:k<ts.length)(h:plB ts x<=k):¬zfr ts[k] x<0:=by
 have h0:=qno (ts:=ts) (x:=x) Zi
 intro hc
 by_cases he:plB ts x=k
 ·subst he;exact h0 hc
 ·have:=qfz hs (show plB ts x<ts.length by omega) hk Zi;exact h0 (zhf this Zi)
theorem zg9 {ts:List Tb}{x:Tb}(h:fdB ts x=true):∃hp:plB ts x<ts.length,zfr ts[plB ts x] x=0:=by
 unfold fdB at h
 split at h
 ·rename_i hp;exact⟨hp,by simpa using h⟩
 ·cases h
theorem zui {ts:List Tb}(hs:zgo ts){x:Tb}:fdB ts x=true↔∃y∈ts,zfr y x=0:=by
 constructor
 ·intro h;obtain⟨hp,h⟩:=zg9 h;exact⟨_,Qe hp,h⟩
 ·rintro⟨y,hy,h⟩;obtain⟨k,hk,rfl⟩:=Js hy;have h1:plB ts x<=k:=Nat.le_of_not_lt λh'=>by have:=zww k hk h';omega
  have hp:plB ts x<ts.length:=by omega
  have h2:plB ts x=k:=by
   rcases Y8 (plB ts x) k with h'|h'
   ·have a1:=qfz hs hp hk h';have a2:=qno hp;have:=zhf a1 (show zfr ts[k] x<=0 by omega);omega
   ·omega
  unfold fdB;rw[dif_pos hp,Jo];have:ts[plB ts x]=ts[k]:=by congr 1
  rw[this];exact h
def stB (z:List Tb×Bool)(x:Tb):List Tb×Bool :=
 if fdB z.1 x=true then (z.1,z.2||decide (3<x.ar)||((z.1.getD (plB z.1 x) x).pred != x.pred))else (z.1.take (plB z.1 x)++[x]++z.1.drop (plB z.1 x),z.2||decide (3<x.ar))
theorem zps {z:List Tb×Bool}(hs:zgo z.1)(x:Tb):zgo (stB z x).1:=by
 unfold stB
 split
 ·exact hs
 ·rename_i hf;have hn:∀y∈z.1,zfr y x≠0:=λy hy e=>hf ((zui hs).2 ⟨y,hy,e⟩);have hs':=hs;rw[<-Ke (plB z.1 x) z.1]at hs';unfold zgo at hs'⊢;rw[Jx]at hs';obtain⟨s1,s2,s3⟩:=hs';have h1:∀y∈z.1.take (plB z.1 x),zfr y x<0:=λy hy=>by
   obtain⟨k,hk,rfl⟩:=Js hy;rw[Qc]at hk;rw[Yz];exact zww k Zi Zi
  have h2:∀y∈z.1.drop (plB z.1 x),zfr x y<0:=λy hy=>by
   have hne:=hn y (List.mem_of_mem_drop hy);obtain⟨k,hk,rfl⟩:=Js hy;rw[Qm]at hk;rw[List.getElem_drop]at hne⊢;have a1:=qoz hs (x:=x) (plB z.1 x+k) Zi Zi;have a2:=zct.neg z.1[plB z.1 x+k] x;omega
  rw[Jx,Jx];refine⟨⟨s1,List.pairwise_singleton _ _,λa ha b hb=>?_⟩,s2,λa ha b hb=>?_⟩
  ·rw[Qv]at hb;subst hb;exact h1 a ha
  ·rcases Qt.1 ha with ha|ha
   ·exact s3 a ha b hb
   ·rw[Qv]at ha;subst ha;exact h2 b hb
theorem zvp (z:List Tb×Bool)(x:Tb):(stB z x).1.length<=z.1.length+1/\z.1.length<=(stB z x).1.length:=by
 unfold stB
 split
 ·simp
 ·simp only[Qb,Qc,Qm,Jn];have:=zw4 z.1 x;omega
theorem qpo {z:List Tb×Bool}(x y:Tb):y∈(stB z x).1↔y∈z.1\/(fdB z.1 x=false/\y=x):=by
 unfold stB
 split
 ·rename_i h;simp[h]
 ·rename_i h
  conv=>rhs;rw[<-Ke (plB z.1 x) z.1]
  rw[Ke];simp only[Qt,Qv];have h':fdB z.1 x=false:=by simpa using h
  rw[h'];have:y∈z.1↔y∈z.1.take (plB z.1 x)\/y∈z.1.drop (plB z.1 x):=by rw[<-Qt,Ke]
  rw[this];constructor
  ·rintro((h|h)|h)
   ·exact Or.inl (Or.inl h)
   ·exact Or.inr ⟨rfl,h⟩
   ·exact Or.inl (Or.inr h)
  ·rintro((h|h)|⟨_,h⟩)
   ·exact Or.inl (Or.inl h)
   ·exact Or.inr h
   ·exact Or.inl (Or.inr h)
theorem qmx {z:List Tb×Bool}(h:z.2=true)(x:Tb):(stB z x).2=true:=by
 unfold stB
 rw[h]
 split<;>simp
theorem zh4:∀(L:List Tb){z:List Tb×Bool},z.2=true->(L.foldl stB z).2=true
 | [],_,h=>h
 | x::L,_,h=>zh4 L (qmx h x)
theorem zfx:∀(L:List Tb){z:List Tb×Bool},zgo z.1->zgo (L.foldl stB z).1
 | [],_,h=>h
 | x::L,_,h=>zfx L (zps h x)
theorem zhe:∀(L:List Tb)(z:List Tb×Bool),(L.foldl stB z).1.length<=z.1.length+L.length
 | [],z=>by simp
 | x::L,z=>by
  have h1:=zhe L (stB z x);have h2:=(zvp z x).1;simp only[Ks,Qj];omega
def zjh (L:List Tb):Prop:=(∀x∈L,x.ar<=3)/\∀x∈L,∀y∈L,zfr x y=0->x.pred=y.pred
theorem tb_eq {x y:Tb}(h:zfr x y=0)(hp:x.pred=y.pred):x=y:=by
 obtain⟨n,a,p⟩:=x
 obtain⟨n',a',p'⟩:=y
 obtain⟨h1,h2⟩:=zkv.1 h
 simp only at h1 h2 hp
 subst h1 h2 hp
 rfl
theorem qiw {ts M:List Tb}(hs:zgo ts)(hm:∀x,x∈ts↔x∈M)(hc:zjh M)(x:Tb) :
  ((stB (ts,false) x).2=false->zjh (M++[x])/\∀y,y∈(stB (ts,false) x).1↔y∈M++[x])/\((stB (ts,false) x).2=true->¬zjh (M++[x])):=by
 have hmm:∀y,y∈M++[x]↔y∈M\/y=x:=λy=>by simp
 by_cases hf:fdB ts x=true
 ·have hst:stB (ts,false) x=(ts,decide (3<x.ar)||((ts.getD (plB ts x) x).pred != x.pred)):=by
   unfold stB;rw[if_pos hf];rfl
  obtain⟨hp,h0⟩:=zg9 hf;have hg:ts.getD (plB ts x) x=ts[plB ts x]:=by rw[List.getD_eq_getElem?_getD,List.getElem?_eq_getElem hp];rfl
  have hgm:ts[plB ts x]∈M:=(hm _).1 (Qe hp);rw[hst,hg];simp only[Bool.or_eq_false_iff,Yb,Ko,Q0,bne_iff_ne,bne_eq_false_iff_eq];refine⟨λ⟨h1,h2⟩=>?_,λh hcc=>?_⟩
  ·have hx:ts[plB ts x]=x:=tb_eq h0 h2;have hxM:x∈M:=by rw[<-hx];exact hgm
   have hsub:∀y,y∈M++[x]↔y∈M:=λy=>by
    rw[hmm];exact⟨λh=>h.elim id λe=>e▸hxM,Or.inl⟩
   refine⟨⟨λy hy=>hc.1 y ((hsub y).1 hy),λy hy z hz=>hc.2 y ((hsub y).1 hy) z ((hsub z).1 hz)⟩,λy=>?_⟩;rw[hsub,hm]
  ·rcases h with h|h
   ·have:=hcc.1 x ((hmm x).2 (Or.inr rfl));omega
   ·exact h (hcc.2 _ ((hmm _).2 (Or.inl hgm)) x ((hmm x).2 (Or.inr rfl)) h0)
 ·have hf':fdB ts x=false:=by simpa using hf
  have hst2:(stB (ts,false) x).2=decide (3<x.ar):=by
   unfold stB;rw[if_neg (show ¬fdB (ts,false).1 x=true from hf)];rfl
  have hnone:∀y∈M,zfr y x≠0:=λy hy e=>hf ((zui hs).2 ⟨y,(hm y).2 hy,e⟩);rw[hst2];refine⟨λh=>?_,λh hcc=>?_⟩
  ·have h:¬3<x.ar:=Yt h;refine⟨⟨λy hy=>?_,λy hy z hz e=>?_⟩,λy=>?_⟩
   ·rcases(hmm y).1 hy with hy|rfl
    ·exact hc.1 y hy
    ·omega
   ·rcases(hmm y).1 hy with hyM|rfl
    ·rcases(hmm z).1 hz with hzM|hzx
     ·exact hc.2 y hyM z hzM e
     ·rw[hzx]at e;exact absurd e (hnone y hyM)
    ·rcases(hmm z).1 hz with hz|hz
     ·have:=zct.neg y z;exact absurd Zi (hnone z hz)
     ·rw[hz]
   ·rw[qpo,hmm];exact⟨λh=>h.elim (λh=>Or.inl ((hm y).1 h)) λh=>Or.inr h.2,λh=>h.elim (λh=>Or.inl ((hm y).2 h)) λh=>Or.inr ⟨hf',h⟩⟩
  ·have h:3<x.ar:=Kw h;have:=hcc.1 x ((hmm x).2 (Or.inr rfl));omega
theorem qcp {M L:List Tb}(h:zjh (M++L)):zjh M:=⟨λx hx=>h.1 x (Ji _ hx),λx hx y hy=>h.2 x (Ji _ hx) y (Ji _ hy)⟩
theorem znh:∀(L:List Tb){ts M:List Tb},zgo ts->(∀x,x∈ts↔x∈M)->zjh M →
  ((L.foldl stB (ts,false)).2=false->zjh (M++L)/\∀y,y∈(L.foldl stB (ts,false)).1↔y∈M++L)/\((L.foldl stB (ts,false)).2=true->¬zjh (M++L))
 | [],ts,M,hs,hm,hc=>by
  simp only[Y7,Kh];exact⟨λ_=>⟨hc,hm⟩,λh=>by cases h⟩
 | x::L,ts,M,hs,hm,hc=>by
  have h1:=qiw hs hm hc x;have hsx:=zps (z:=(ts,false)) hs x;rw[Ks,show M++x::L=(M++[x])++L by simp];cases hz:(stB (ts,false) x).2
  ·obtain⟨c1,m1⟩:=h1.1 hz;have he:stB (ts,false) x=((stB (ts,false) x).1,false):=Prod.ext rfl hz;rw[he];exact znh L hsx m1 c1
  ·refine⟨λh=>?_,λ_ h=>h1.2 hz (qcp h)⟩;rw[zh4 L hz]at h;cases h
def sgB (L:List Tb):List Tb×Bool:=L.foldl stB ([],false)
theorem zuh (L:List Tb):zgo (sgB L).1:=zfx L List.Pairwise.nil
theorem zkd (L:List Tb):((sgB L).2=false->zjh L/\∀y,y∈(sgB L).1↔y∈L)/\((sgB L).2=true->¬zjh L):=by
 have:=znh L (ts:=[]) (M:=[]) List.Pairwise.nil (λ_=>Iff.rfl) ⟨by simp,by simp⟩
 unfold sgB
 simpa using this
theorem qjs {l l':List Tb}(h:zgo l)(h':zgo l')(hm:∀y,y∈l↔y∈l'):l=l':=by
 have irr:∀a:Tb,¬zfr a a<0:=λa h=>by rw[zct.self]at h;omega
 have nd:∀{l:List Tb},zgo l->l.Nodup:=λh=>List.Pairwise.imp (fun {a b} h e=>by subst e;exact irr a h) h
 have hp:l.Perm l':=(Ys (nd h) (nd h')).2 hm
 refine Y1 (le:=λa b=>zfr a b<0) (λa b _ _ h1 h2=>?_) h h' hp
 have:=zct.neg a b
 omega
theorem qk8 {L L':List Tb}(hm:∀y,y∈L↔y∈L'):(sgB L).2=(sgB L').2/\((sgB L).2=false->(sgB L).1=(sgB L').1):=by
 have hcc:zjh L↔zjh L':=⟨λh=>⟨λx hx=>h.1 x ((hm x).2 hx),λx hx y hy=>h.2 x ((hm x).2 hx) y ((hm y).2 hy)⟩,λh=>⟨λx hx=>h.1 x ((hm x).1 hx),λx hx y hy=>h.2 x ((hm x).1 hx) y ((hm y).1 hy)⟩⟩
 have e:(sgB L).2=(sgB L').2:=by
  cases h1:(sgB L).2<;>cases h2:(sgB L').2
  ·rfl
  ·exact absurd (hcc.1 ((zkd L).1 h1).1) ((zkd L').2 h2)
  ·exact absurd (hcc.2 ((zkd L').1 h2).1) ((zkd L).2 h1)
  ·rfl
 refine⟨e,λh=>qjs (zuh L) (zuh L') λy=>?_⟩
 rw[((zkd L).1 h).2,((zkd L').1 (e▸h)).2,hm]
def trB:List Tb->List Tb->List Tb×Bool
 | ts,[]=>(ts,true)
 | ts,x::L=>if(stB (ts,false) x).2=true then (ts,false)else trB (stB (ts,false) x).1 L
theorem zcf:∀(A:List Tb){B ts:List Tb},trB ts (A++B)=if(trB ts A).2=true then trB (trB ts A).1 B else (trB ts A)
 | [],_,_=>rfl
 | x::A,B,ts=>by
  rw[Kt,trB,trB];split
  ·simp
  ·exact zcf A
theorem zwi:∀(L:List Tb){ts:List Tb},(trB ts L).2=!(L.foldl stB (ts,false)).2/\((trB ts L).2=true->(trB ts L).1=(L.foldl stB (ts,false)).1)
 | [],_=>⟨rfl,λ_=>rfl⟩
 | x::L,ts=>by
  rw[trB,Ks];cases hz:(stB (ts,false) x).2
  ·rw[if_neg (by simp)];have he:stB (ts,false) x=((stB (ts,false) x).1,false):=Prod.ext rfl hz;rw[he];exact zwi L
  ·rw[if_pos rfl,zh4 L hz];exact⟨rfl,λh=>by cases h⟩
theorem zp0:∀(L:List Tb){ts:List Tb},zgo ts->zgo (trB ts L).1
 | [],_,h=>h
 | x::L,ts,h=>by
  rw[trB];split
  ·exact h
  ·exact zp0 L (zps (z:=(ts,false)) h x)
theorem zva:∀(L:List Tb)(ts:List Tb),(trB ts L).1.length<=ts.length+L.length
 | [],_=>by simp[trB]
 | x::L,ts=>by
  rw[trB];split
  ·simp
  ·have h1:=zva L (stB (ts,false) x).1;have h2:=(zvp (ts,false) x).1;simp only[Qj];simp only at h2;omega
def zte (n:Str)(k:Nat)(p:Bool):List Tb:=if((n==[61])||zax n)=true then []else [⟨n,k,p⟩]
def suP:Tm->List Tb:=Tm.fold λn xs rs=>rs.flatten++zte n xs.length false
theorem zwz (t:Tm):suP t=(t.args.map suP).flatten++zte t.name t.args.length false:=Tm.fold_eq _ t
def syP (t:Tm)(p:Bool):List Tb:=(t.args.map suP).flatten++zte t.name t.args.length p
def zox (n:Str)(k:Nat)(p:Bool):List Tb:=if(p&&(n==[61]))=true then []else [⟨n,k,p⟩]
def suS:Tm->List Tb:=Tm.fold λn xs rs=>if zax n=true then []else zox n xs.length false++rs.flatten
theorem zep (t:Tm):suS t=if zax t.name=true then []else zox t.name t.args.length false++(t.args.map suS).flatten:=Tm.fold_eq _ t
def syS (t:Tm)(p:Bool):List Tb:=if zax t.name=true then []else zox t.name t.args.length p++(t.args.map suS).flatten
theorem zdi {α β:Type}{f g:α->List β}{l:List α}(h:∀a∈l,∀y,y∈f a↔y∈g a)(y:β):y∈(l.map f).flatten↔y∈(l.map g).flatten:=by
 simp only[Ki,Ka]
 constructor
 ·rintro⟨_,⟨a,ha,rfl⟩,hy⟩;exact⟨_,⟨a,ha,rfl⟩,(h a ha y).1 hy⟩
 ·rintro⟨_,⟨a,ha,rfl⟩,hy⟩;exact⟨_,⟨a,ha,rfl⟩,(h a ha y).2 hy⟩
theorem qhv:∀t:Tm,t.names=true->∀y,y∈suP t↔y∈suS t:=zbb λn xs ih h y=>by
 rw[Tm.names_eq]at h
 rw[zwz,zep]
 change (if zax n=true then decide (xs.length=0)else zbt n&&decide (xs.length<=4)&&xs.all Tm.names)=true at h
 change y∈(xs.map suP).flatten++zte n xs.length false↔y∈if zax n=true then []else zox n xs.length false++(xs.map suS).flatten
 by_cases hv:zax n=true
 ·rw[if_pos hv]at h⊢;have hx:xs=[]:=Kc.1 (Kw h);subst hx;unfold zte;rw[hv];simp
 ·rw[if_neg hv]at h⊢;simp only[Qd]at h;have hne:(n==[61])=false:=by
   rw[Yf];rintro rfl;exact absurd h.1.1 (by decide)
  have hi:=zdi (λa ha y=>ih a ha (Qr.1 h.2 a ha) y) y;unfold zte zox;rw[hne,show zax n=false by simpa using hv];simp only[Qt,hi,Bool.or_false,Q4,Qz,if_false];exact Or.comm
theorem qr2 {t:Tm}(h:t.atomOk=true)(y:Tb):y∈syP t true↔y∈syS t true:=by
 unfold Tm.atomOk at h
 unfold syP syS
 split at h
 ·rename_i he;simp only[Qd]at h;have hn:t.name=[61]:=by simpa using he
  have hi:=zdi (λa ha y=>qhv a (Qr.1 h.2 a ha) y) y;unfold zte zox;rw[hn,show zax [61]=false by decide];simpa using hi
 ·rename_i he;simp only[Qd]at h;have hne:(t.name==[61])=false:=by simpa using he
  have hg:=h.2;unfold Tm.good at hg;rw[Qd,Tm.names_eq]at hg;have hv:zax t.name=false:=by
   cases hv:zax t.name
   ·rfl
   ·obtain⟨u1,u2⟩:=ze7 hv;obtain⟨l1,l2⟩:=zdx h.1;rw[u1]at l1;cases l1
  rw[hv]at hg;simp only[Qz,if_false,Qd]at hg;have hi:=zdi (λa ha y=>qhv a (Qr.1 hg.2.2 a ha) y) y;unfold zte zox;rw[hne,hv];simp only[Qt,hi,Bool.or_false,J0,Qz,if_false];exact Or.comm
def qmu (ls:List Li):List Tb:=(ls.map λl=>syP l.atom true).flatten
def zs5 (ls:List Li):List Tb:=(ls.map λl=>syS l.atom true).flatten
def zji (cs:List Cq):List Tb:=(cs.map λc=>qmu c.lits).flatten
def zl0 (cs:List Cq):List Tb:=(cs.map λc=>zs5 c.lits).flatten
theorem zwm {cs:List Cq}(h:∀c∈cs,c.ok=true)(y:Tb):y∈zji cs↔y∈zl0 cs :=
 zdi (λc hc y=>zdi (λl hl y=>qr2 (zcp (h c hc) l hl) y) y) y
theorem qf3:∀t:Tm,(suP t).length<=t.nodes:=zbb λn xs ih=>by
 rw[zwz,Tm.nodes_eq]
 change ((xs.map suP).flatten++zte n xs.length false).length<=1+(xs.map Tm.nodes).sum
 have h1:((xs.map suP).flatten).length<=(xs.map Tm.nodes).sum:=by
  rw[List.length_flatten,Jj];revert ih;intro ih;induction xs with
  | nil=>simp
  | cons a xs ih2 =>
   have:=ih a (by simp);have:=ih2 λx hx=>ih x (by simp[hx]);simp only[Qk,Jd,Function.comp];omega
 have h2:(zte n xs.length false).length<=1:=by unfold zte;split<;>simp
 rw[Qb];omega
end
section
open Go.RowKit
section
variable (ap:List Tm->Tm->List Tm)(lv:Int)(n:Nat)
def tkU (x:List Tm)(t:Tm):List Tm:=if((t.depth:Int)==lv)=true then ap x t else x
def zff:List Tm->List Tm->Bool×List Tm
 | [],x=>(true,x)
 | t::Q,x=>if n+(tkU ap lv x t).length<=60 then zff Q (tkU ap lv x t)else (false,tkU ap lv x t)
theorem zgt:∀(A B x:List Tm),zff ap lv n (A++B) x=if(zff ap lv n A x).1=true then zff ap lv n B (zff ap lv n A x).2 else zff ap lv n A x
 | [],_,_=>by rw[Jf,zff,if_pos rfl]
 | t::A,B,x=>by
  rw[Kt,zff,zff];split
  ·exact zgt A B _
  ·simp
end
def apX (x:List Tm)(t:Tm):List Tm:=x++[t]
theorem qoo (f:Tb)(lv:Int)(n:Nat):∀(L:List (List Tm))(x:List Tm),runT (dpS f lv n) L x=zff apX lv n (L.map (Tm.mk f.name)) x
 | [],_=>rfl
 | l::L,x=>by
  rw[runT,Qk,zff,qoo f lv n L];unfold dpS tkU apX;simp only[Q0]
def qF (ts:List Tm)(fs:List Tb):List Tm:=(fs.filter λf=>!(f.ar==0)).flatMap λf=>(zco ts f.ar.toNat).map (Tm.mk f.name)
theorem zir (lv:Int)(ts:List Tm):∀(fs:List Tb)(x:List Tm),zc1 lv ts fs x=zff apX lv ts.length (qF ts fs) x
 | [],_=>rfl
 | f::fs,x=>by
  rw[zc1];unfold qF;cases hz:f.ar==0
  ·rw[if_neg (by simp),J7,hz,Ja,if_pos rfl,Kx,zgt,<-qoo];split
   ·exact zir lv ts fs _
   ·rename_i h;rw[show(runT (dpS f lv ts.length) (zco ts f.ar.toNat) x)=((runT (dpS f lv ts.length) (zco ts f.ar.toNat) x).1,(runT (dpS f lv ts.length) (zco ts f.ar.toNat) x).2) from rfl];simp[show(runT (dpS f lv ts.length) (zco ts f.ar.toNat) x).1=false by simpa using h]
  ·rw[if_pos rfl,J7,hz,K8,if_neg (by simp)];exact zir lv ts fs x
noncomputable def dsS (f:Tb)(level:Int)(n:Nat)(x:List Tm)(l:List Tm):Bool×List Tm :=
 (decide (n+(if((Tm.mk f.name l).depth:Int)==level then zdg x (Tm.mk f.name l)else x).length<=60),if((Tm.mk f.name l).depth:Int)==level then zdg x (Tm.mk f.name l)else x)
noncomputable def zo1 (level:Int)(ts:List Tm):List Tb->List Tm->Bool×List Tm
 | [],x=>(true,x)
 | f::fs,x=>if((f.ar==0) != (level==1))=true then zo1 level ts fs x else
   if(runT (dsS f level ts.length) (zco ts f.ar.toNat) x).1=true then zo1 level ts fs (runT (dsS f level ts.length) (zco ts f.ar.toNat) x).2 else (false,(runT (dsS f level ts.length) (zco ts f.ar.toNat) x).2)
theorem qoa (f:Tb)(lv:Int)(n:Nat):∀(L:List (List Tm))(x:List Tm),runT (dsS f lv n) L x=zff zdg lv n (L.map (Tm.mk f.name)) x
 | [],_=>rfl
 | l::L,x=>by
  rw[runT,Qk,zff,qoa f lv n L];unfold dsS tkU;simp only[Q0]
def qS (lv:Int)(ts:List Tm)(fs:List Tb):List Tm:=(fs.filter λf=>!((f.ar==0) != (lv==1))).flatMap λf=>(zco ts f.ar.toNat).map (Tm.mk f.name)
theorem zzj (lv:Int)(ts:List Tm):∀(fs:List Tb)(x:List Tm),zo1 lv ts fs x=zff zdg lv ts.length (qS lv ts fs) x
 | [],_=>rfl
 | f::fs,x=>by
  rw[zo1];unfold qS;cases hz:(f.ar==0) != (lv==1)
  ·rw[if_neg (by simp),J7,hz,Ja,if_pos rfl,Kx,zgt,<-qoa];split
   ·exact zzj lv ts fs _
   ·rename_i h;rw[show(runT (dsS f lv ts.length) (zco ts f.ar.toNat) x)=((runT (dsS f lv ts.length) (zco ts f.ar.toNat) x).1,(runT (dsS f lv ts.length) (zco ts f.ar.toNat) x).2) from rfl];simp[show(runT (dsS f lv ts.length) (zco ts f.ar.toNat) x).1=false by simpa using h]
  ·rw[if_pos rfl,J7,hz,K8,if_neg (by simp)];exact zzj lv ts fs x
theorem qfu {y:List Tm}{t:Tm}(h:t∉y):(zdg y t).Perm (y++[t]):=by
 unfold zdg
 rw[if_neg (λhc=>h ((List.dropWhile_suffix (λx=>ltT x t)).subset (List.mem_of_mem_head? (Option.mem_def.2 (zb8.1 hc)))))]
 conv=>rhs;rw[<-K6 (p:=λx=>ltT x t) (l:=y)]
 rw[Kl,Kl]
 exact List.Perm.append_left _ List.perm_append_comm
theorem zkx (lv:Int)(n:Nat):∀(Q x y:List Tm),Q.Nodup->(∀t∈Q,t∉x)->x.Perm y->zpi y →
  (zff apX lv n Q x).1=(zff zdg lv n Q y).1/\(zff apX lv n Q x).2.Perm (zff zdg lv n Q y).2/\zpi (zff zdg lv n Q y).2
 | [],x,y,_,_,hp,hs=>⟨rfl,hp,hs⟩
 | t::Q,x,y,hn,hx,hp,hs=>by
  obtain⟨n1,n2⟩:=Jc.1 hn;have key:∀{x' y':List Tm},x'.Perm y'->zpi y'->(∀u∈Q,u∉x') →
    (if n+x'.length<=60 then zff apX lv n Q x' else (false,x')).1=(if n+y'.length<=60 then zff zdg lv n Q y' else (false,y')).1/\(if n+x'.length<=60 then zff apX lv n Q x' else (false,x')).2.Perm (if n+y'.length<=60 then zff zdg lv n Q y' else (false,y')).2/\zpi (if n+y'.length<=60 then zff zdg lv n Q y' else (false,y')).2:=by
   intro x' y' hp' hs' hx';rw[hp'.length_eq];split
   ·exact zkx lv n Q x' y' n2 hx' hp' hs'
   ·exact⟨rfl,hp',hs'⟩
  rw[zff,zff];unfold tkU;by_cases hd:((t.depth:Int)==lv)=true
  ·simp only[if_pos hd];refine key ?_ (zxv hs t) λu hu=>?_
   ·have h1:t∉y:=λh=>hx t (by simp) (hp.mem_iff.2 h);exact(hp.append_right [t]).trans (qfu h1).symm
   ·intro hc;rcases Qt.1 hc with hc|hc
    ·exact hx u (by simp[hu]) hc
    ·rw[Qv]at hc;subst hc;exact n1 hu
  ·simp only[if_neg hd];exact key hp hs λu hu=>hx u (by simp[hu])
theorem qi9 {x y:List Tm}(hp:x.Perm y)(hs:zpi y):zjm x=y:=by
 refine Y1 (le:=λa b=>ltOf zc9 b a=false) (λa b _ _ h1 h2=>?_) (zst x) (hs.imp fun {a b} h=>?_) ((zeq x).trans hp)
 ·unfold ltOf at h1 h2;rw[Ko]at h1 h2;have n1:=zde a b;exact(zen a b).1 Zi
 ·unfold ltOf;rw[Ko];have:=zde a b;omega
theorem zmw {ts:List Tm}(h:ts.Nodup):∀n,(zco ts n).Nodup
 | 0=>by rw[zco];simp
 | n+1=>by
  rw[zco,List.Nodup,List.pairwise_flatMap];refine⟨λl _=>?_,(zmw h n).imp_of_mem fun {a b} ha hb hne=>?_⟩
  ·exact List.Pairwise.map _ (λa b hab e=>hab (List.singleton_inj.1 (List.append_cancel_left e))) h
  ·intro l h1 l' h2 e;subst e;obtain⟨t,_,rfl⟩:=Ka.1 h1;obtain⟨t',_,h2⟩:=Ka.1 h2;exact hne (List.append_inj_left' h2 rfl).symm
structure FnOk (fs:List Tb):Prop where
 srt:zgo fs
 pos:∀f∈fs,0<=f.ar/\f.ar<=3
 low:∀f∈fs,zbt f.name=true
theorem zv3 {ts:List Tm}{fs:List Tb}(h:FnOk fs)(hn:ts.Nodup):(qF ts fs).Nodup:=by
 unfold qF
 rw[List.Nodup,List.pairwise_flatMap]
 refine⟨λf hf=>?_,?_⟩
 ·exact List.Pairwise.map _ (λa b hab e=>hab (Tm.mk.inj e).2) (zmw hn _)
 ·refine(h.srt.filter _).imp_of_mem fun {a b} ha hb hab=>?_;intro t h1 t' h2 e;subst e;obtain⟨l1,m1,rfl⟩:=Ka.1 h1;obtain⟨l2,m2,h2⟩:=Ka.1 h2;obtain⟨e1,e2⟩:=Tm.mk.inj h2;have k1:=((zcg ts _ l1).1 m1).1;have k2:=((zcg ts _ l2).1 m2).1;have p1:=(h.pos a (Kp.1 ha).1).1;have p2:=(h.pos b (Kp.1 hb).1).1;rw[e2]at k2;have:zfr a b=0:=zkv.2 ⟨e1.symm,Zi⟩;omega
theorem zj0 {ap:List Tm->Tm->List Tm}(hap:∀x t u,u∈ap x t↔u∈x\/u=t){lv:Int}{n:Nat}:∀(Q x:List Tm),∀u∈(zff ap lv n Q x).2,u∈x\/(u∈Q/\(u.depth:Int)=lv)
 | [],_,u,h=>Or.inl h
 | t::Q,x,u,h=>by
  rw[zff]at h;unfold tkU at h;by_cases hd:((t.depth:Int)==lv)=true
  ·simp only[if_pos hd]at h;have key:u∈ap x t->u∈x\/(u∈t::Q/\(u.depth:Int)=lv):=λhu=>((hap x t u).1 hu).imp id λe=>by
    subst e;exact⟨by simp,by simpa using hd⟩
   split at h
   ·rcases zj0 hap Q _ u h with h|⟨h1,h2⟩
    ·exact key h
    ·exact Or.inr ⟨by simp[h1],h2⟩
   ·exact key h
  ·simp only[if_neg hd]at h;split at h
   ·rcases zj0 hap Q _ u h with h|⟨h1,h2⟩
    ·exact Or.inl h
    ·exact Or.inr ⟨by simp[h1],h2⟩
   ·exact Or.inl h
theorem zoy {ap:List Tm->Tm->List Tm}{lv:Int}{n:Nat}:∀(Q x:List Tm),n+x.length<=60->(zff ap lv n Q x).1=true->n+(zff ap lv n Q x).2.length<=60
 | [],_,h,_=>h
 | t::Q,x,_,h=>by
  rw[zff]at h⊢;split at h
  ·rename_i hc;rw[if_pos hc];exact zoy Q _ hc h
  ·cases h
def fcS (fs:List Tb):List Tb:=fs++if(fs.any λf=>f.ar==0)=true then []else [⟨[99,48],0,false⟩]
def cnT (fs:List Tb):List Tm:=(fs.filter λf=>f.ar==0).map λf=>Tm.mk f.name []
def ts0 (fs:List Tb):List Tm:=if(cnT fs).length=0 then [Tm.mk [99,48] []]else cnT fs
theorem zwy {lv:Int}(h2:2<=lv){ts:List Tm}{fs:List Tb}(hf:FnOk fs)(hn:ts.Nodup) :
  (zo1 lv ts (fcS fs) []).1=(zc1 lv ts fs []).1/\(zo1 lv ts (fcS fs) []).2=zjm (zc1 lv ts fs []).2:=by
 have hq:qS lv ts (fcS fs)=qF ts fs:=by
  unfold qS qF fcS;have h1:(lv==1)=false:=by rw[Yf];omega
  rw[h1];have e:(λf:Tb=>!((f.ar==0) != false))=λf=>!(f.ar==0):=by funext f;simp
  rw[e,Ya,Ye];split<;>simp
 rw[zzj,zir,hq]
 obtain⟨r1,r2,r3⟩:=zkx lv ts.length (qF ts fs) [] [] (zv3 hf hn) (by simp) (List.Perm.refl _) List.Pairwise.nil
 exact⟨r1.symm,(qi9 r2 r3).symm⟩
noncomputable def lvI (fs:List Tb):Nat->Int->List Tm->Bool×List Tm
 | 0,_,ts=>(true,ts)
 | k+1,lv,ts=>if(zc1 lv ts fs []).1=true then lvI fs k (lv+1) (ts++zjm (zc1 lv ts fs []).2)else (false,[])
noncomputable def lvS (fs:List Tb):Nat->Int->List Tm->Bool×List Tm
 | 0,_,ts=>(true,ts)
 | k+1,lv,ts=>if(zo1 lv ts fs []).1=true then lvS fs k (lv+1) (ts++(zo1 lv ts fs []).2)else (false,[])
structure TsOk (fs:List Tb)(lv:Int)(ts:List Tm):Prop where
 nd:ts.Nodup
 dp:∀t∈ts,(t.depth:Int)<lv
 len:ts.length<=60
 from':∀t∈ts,∀p:Tm->Prop,(∀f∈fcS fs,∀l,l.length=f.ar.toNat->(∀a∈l,p a)->p (.mk f.name l))->p t
theorem zpz {fs:List Tb}{f:Tb}(h:f∈fs):f∈fcS fs:=Ji _ h
theorem zli {fs:List Tb}(hf:FnOk fs){lv:Int}{ts:List Tm}(ht:TsOk fs lv ts)(hb:(zc1 lv ts fs []).1=true):TsOk fs (lv+1) (ts++zjm (zc1 lv ts fs []).2):=by
 rw[zir]at hb⊢
 have hm:=zj0 (ap:=apX) (λx t u=>by unfold apX;simp) (lv:=lv) (n:=ts.length) (qF ts fs) []
 have hl:=zoy (ap:=apX) (lv:=lv) (n:=ts.length) (qF ts fs) [] (by have:=ht.len;simpa using this) hb
 have hsm:=zkx lv ts.length (qF ts fs) [] [] (zv3 hf ht.nd) (by simp) (List.Perm.refl _) List.Pairwise.nil
 have hnd:(zff apX lv ts.length (qF ts fs) []).2.Nodup:=hsm.2.1.nodup_iff.2 (zii hsm.2.2)
 generalize (zff apX lv ts.length (qF ts fs) []).2=x at *
 have hp:=zeq x
 have hmm:∀u∈zjm x,u∈qF ts fs/\(u.depth:Int)=lv:=λu hu=>(hm u (hp.mem_iff.1 hu)).elim (λh=>by cases h) id
 refine⟨?_,λt h=>?_,?_,λt h p hp'=>?_⟩
 ·rw[Kk];refine⟨ht.nd,hp.nodup_iff.2 hnd,λa ha b hb' e=>?_⟩;subst e;have:=ht.dp a ha;have:=(hmm a hb').2;omega
 ·rcases Qt.1 h with h|h
  ·have:=ht.dp t h;omega
  ·have:=(hmm t h).2;omega
 ·rw[Qb,hp.length_eq];exact hl
 ·rcases Qt.1 h with h|h
  ·exact ht.from' t h p hp'
  ·obtain⟨h,_⟩:=hmm t h;unfold qF at h;obtain⟨f,hfm,h⟩:=Jw.1 h;obtain⟨l,hl',rfl⟩:=Ka.1 h;obtain⟨h1,h2⟩:=(zcg ts _ l).1 hl';exact hp' f (zpz (Kp.1 hfm).1) l h1 λa ha=>ht.from' a (h2 a ha) p hp'
theorem qie {fs:List Tb}(hf:FnOk fs):∀(k:Nat){lv:Int}{ts:List Tm},2<=lv->TsOk fs lv ts->lvS (fcS fs) k lv ts=lvI fs k lv ts
 | 0,_,_,_,_=>rfl
 | k+1,lv,ts,h2,ht=>by
  obtain⟨e1,e2⟩:=zwy h2 hf ht.nd;rw[lvS,lvI,e1,e2];split
  ·rename_i hb;exact qie hf k Zi (zli hf ht hb)
  ·rfl
theorem qnu {fs:List Tb}(hf:FnOk fs):∀(k:Nat){lv:Int}{ts:List Tm},TsOk fs lv ts->(lvI fs k lv ts).1=true->TsOk fs (lv+k) (lvI fs k lv ts).2
 | 0,lv,ts,ht,_=>by
  rw[show lv+((0:Nat):Int)=lv by omega];exact ht
 | k+1,lv,ts,ht,h=>by
  rw[lvI]at h⊢;split at h
  ·rename_i hb;rw[if_pos hb];have:=qnu hf k (zli hf ht hb) h;rw[show lv+((k+1:Nat):Int)=lv+1+(k:Int) by omega];exact this
  ·cases h
theorem qn1 {fs:List Tb}(hf:FnOk fs):zpi (cnT fs):=by
 unfold cnT
 rw[zpi,List.pairwise_map]
 refine(hf.srt.filter _).imp_of_mem fun {a b} ha hb h=>?_
 obtain⟨ha,ha0⟩:=Kp.1 ha
 obtain⟨hb,hb0⟩:=Kp.1 hb
 have n:∀f∈fs,zax f.name=false:=λf hfm=>by
  cases hv:zax f.name
  ·rfl
  ·obtain⟨u1,_⟩:=ze7 hv;obtain⟨l1,_⟩:=zdx (hf.low f hfm);rw[u1]at l1;cases l1
 rw[zlp]
 unfold hdT
 simp only[Tm.name,Tm.args,n a ha,n b hb]
 have e0:zkk false false=0:=by decide
 have e1:qn9 ([]:List Tm).length ([]:List Tm).length=0:=by decide
 have e2:zea [] []=0:=by rw[zea]
 have ez:zmo a.ar b.ar=0:=by
  rw[zs9];have h1:a.ar=0:=by simpa using ha0
  have h2:b.ar=0:=by simpa using hb0
  omega
 unfold zfr at h
 rw[ez]at h
 rw[e0,e1,e2]
 unfold orE at h⊢
 simp only[if_true]
 split at h
 ·omega
 ·rename_i hne;rw[if_neg hne,if_neg hne];exact h
theorem zxr {lv:Int}{n:Nat}:∀(Q x:List Tm),(∀t∈Q,(t.depth:Int)=lv)->zpi (x++Q)->n+x.length+Q.length<=60->zff zdg lv n Q x=(true,x++Q)
 | [],x,_,_,_=>by rw[zff,Kh]
 | t::Q,x,hd,hs,hl=>by
  have h1:((t.depth:Int)==lv)=true:=by rw[Jo];exact hd t (by simp)
  have hs':(x++t::Q).Pairwise λa b=>zc9 a b<0:=hs;rw[Jx]at hs';have hin:zdg x t=x++[t]:=by
   have:=zu4 (l:=x) (t:=t) (k:=x.length) (Qp _) (λy hy=>Ku (hs'.2.2 y (by rw[K2]at hy;exact hy) t (by simp))) λh=>absurd h (Nat.lt_irrefl _);rw[K2,List.drop_length,if_neg (by rw[zb8];simp),Kh]at this;exact this
  simp only[Qj]at hl;rw[zff,tkU,if_pos h1,hin,if_pos (by rw[Qb,Jn];omega)];have:=zxr (n:=n) Q (x++[t]) (λu hu=>hd u (by simp[hu])) (by simpa using hs) (by rw[Qb,Jn];omega);rw[this,Kl];rfl
theorem zpj (n:Str):(Tm.mk n []).depth=1:=by rw[Tm.depth_eq];rfl
theorem qfe (fs:List Tb):(cnT fs).length<=fs.length:=by
 unfold cnT
 rw[Qa]
 exact Yi _ _
theorem qe9 (fs:List Tb):(fs.any λf=>f.ar==0)=true↔(cnT fs).length≠0:=by
 unfold cnT
 rw[Qa,Ju]
 constructor
 ·rintro⟨f,hf,h0⟩ hl;rw[Kc]at hl;have:f∈fs.filter λf=>f.ar==0:=Kp.2 ⟨hf,h0⟩;rw[hl]at this;cases this
 ·intro h;obtain⟨f,hf⟩:=List.exists_mem_of_length_pos (Y4 h);obtain⟨h1,h2⟩:=Kp.1 hf;exact⟨f,h1,h2⟩
theorem zxs {fs:List Tb}(hf:FnOk fs)(hl:fs.length<=12):zo1 1 [] (fcS fs) []=(true,ts0 fs):=by
 have hq:qS 1 [] (fcS fs)=ts0 fs:=by
  have e:(λf:Tb=>!((f.ar==0) != ((1:Int)==1)))=λf=>f.ar==0:=by funext f;simp
  have e2:∀l:List Tb,(∀f∈l,(f.ar==0)=true)->(l.flatMap λf=>(zco [] f.ar.toNat).map (Tm.mk f.name))=l.map λf=>Tm.mk f.name []:=by
   intro l;induction l with
   | nil=>intro _;rfl
   | cons f l ih =>
    intro h;have h0:f.ar=0:=by simpa using h f (by simp)
    rw[Kx,ih λg hg=>h g (by simp[hg]),Qk,h0];rfl
  unfold qS;rw[e,e2 _ λf h=>(Kp.1 h).2];unfold fcS ts0;rw[Ya,Qq];by_cases ha:(fs.any λf=>f.ar==0)=true
  ·rw[if_pos ha,if_neg ((qe9 fs).1 ha)];simp[cnT]
  ·have hz:(cnT fs).length=0:=Decidable.byContradiction λh=>ha ((qe9 fs).2 h);rw[if_neg ha,if_pos hz];have:(fs.filter λf=>f.ar==0).map (λf=>Tm.mk f.name [])=[]:=Kc.1 hz;rw[this];rfl
 rw[zzj,hq]
 have hcl:=qfe fs
 have hs:zpi (ts0 fs):=by
  unfold ts0;split
  ·exact List.pairwise_singleton _ _
  ·exact qn1 hf
 have hd:∀t∈ts0 fs,(t.depth:Int)=1:=by
  unfold ts0;intro t ht;split at ht
  ·rw[Qv.1 ht,zpj];rfl
  ·obtain⟨f,_,rfl⟩:=Ka.1 ht;rw[zpj];rfl
 have hln:(ts0 fs).length<=12:=by
  unfold ts0;split
  ·simp
  ·omega
 have:=zxr (lv:=1) (n:=([]:List Tm).length) (ts0 fs) [] hd (by simpa using hs) (by simp only[Qo];omega)
 rw[this,Jf]
theorem zqo {fs:List Tb}(hf:FnOk fs)(hl:fs.length<=12):TsOk fs 2 (ts0 fs):=by
 have hcl:=qfe fs
 refine⟨?_,λt ht=>?_,?_,λt ht p hp=>?_⟩
 ·unfold ts0;split
  ·simp
  ·exact zii (qn1 hf)
 ·unfold ts0 at ht;split at ht
  ·rw[Qv.1 ht,zpj];decide
  ·obtain⟨f,_,rfl⟩:=Ka.1 ht;rw[zpj];decide
 ·unfold ts0;split
  ·simp
  ·omega
 ·unfold ts0 at ht;split at ht
  ·rename_i hz;rw[Qv.1 ht];refine hp ⟨[99,48],0,false⟩ ?_ [] rfl (by simp);unfold fcS;rw[if_neg λha=>(qe9 fs).1 ha hz];simp
  ·obtain⟨f,hfm,rfl⟩:=Ka.1 ht;obtain⟨h1,h2⟩:=Kp.1 hfm;have h0:f.ar=0:=by simpa using h2
   exact hp f (zpz h1) [] (by rw[h0];rfl) (by simp)
theorem lv_all {fs:List Tb}(hf:FnOk fs)(hl:fs.length<=12)(d:Nat):lvS (fcS fs) (d+1) 1 []=lvI fs d 2 (ts0 fs):=by
 rw[lvS,zxs hf hl,if_pos rfl,Jf]
 exact qie hf d Zi (zqo hf hl)
theorem zni {fs:List Tb}(hf:FnOk fs):∀f∈fcS fs,zbt f.name=true/\f.ar.toNat<=3:=λf h=>by
 unfold fcS at h
 rcases Qt.1 h with h|h
 ·have:=hf.pos f h;exact⟨hf.low f h,Zi⟩
 ·split at h
  ·cases h
  ·rw[Qv.1 h];exact⟨by decide,by decide⟩
theorem qga {s:Str}(h:zbt s=true):s.length<=6:=by
 unfold zbt at h
 simp only[Qd]at h
 have:=h.1.2
 unfold inB at this
 simp only[Qd,Q0]at this
 omega
def pw3:Nat->Nat
 | 0=>0
 | n+1=>9+3*pw3 n
theorem zjr:∀{m n:Nat},m<=n->pw3 m<=pw3 n
 | 0,_,_=>Qy _
 | m+1,0,h=>by omega
 | m+1,n+1,h=>by
  have:=zjr (m:=m) (n:=n) Zi;rw[pw3,pw3];omega
theorem qr5 {t:Tm}{a:Tm}(h:a∈t.args):a.depth+1<=t.depth:=by
 rw[Tm.depth_eq t]
 have key:∀(l:List Nat) (m:Nat),m<=l.foldl max m/\∀x∈l,x<=l.foldl max m:=by
  intro l;induction l with
  | nil=>intro m;exact⟨Qp _,by simp⟩
  | cons y l ih =>
   intro m;obtain⟨h1,h2⟩:=ih (max m y);rw[Ks];refine⟨Zi,λx hx=>?_⟩;rcases Qs.1 hx with rfl|hx
   ·omega
   ·exact h2 x hx
 have:=(key (t.args.map Tm.depth) 0).2 a.depth (List.mem_map_of_mem h)
 omega
theorem zrm (f:Tm->Nat)(B:Nat):∀l:List Tm,(∀a∈l,f a<=B)->(l.map f).sum<=l.length*B
 | [],_=>by simp
 | a::l,h=>by
  have h1:=zrm f B l λx hx=>h x (by simp[hx]);have h2:=h a (by simp);rw[Qk,Jd,Qj,Km];omega
def HtOk (t:Tm):Prop:=t.wt<=pw3 t.depth/\upT t=true
theorem zyf {f:Tb}(h1:zbt f.name=true)(h2:f.ar.toNat<=3){l:List Tm}(hl:l.length=f.ar.toNat)(ha:∀a∈l,HtOk a):HtOk (.mk f.name l):=by
 have hn:=qga h1
 refine⟨?_,?_⟩
 ·obtain⟨d,hd⟩:∃d,(Tm.mk f.name l).depth=d+1:=⟨(l.map Tm.depth).foldl max 0,by rw[Tm.depth_eq];rfl⟩;rw[hd,pw3,Tm.wt_eq];show f.name.length+l.length+(l.map Tm.wt).sum<=_
  have hs:=zrm Tm.wt (pw3 d) l λa hm=>Q8 (ha a hm).1 (zjr (by have:=qr5 (t:=.mk f.name l) (a:=a) hm;omega));have:l.length*pw3 d<=3*pw3 d:=Kz _ Zi;omega
 ·rw[zm6];obtain⟨l1,l2⟩:=zdx h1;have hv:zax f.name=false:=by
   cases hv:zax f.name
   ·rfl
   ·obtain⟨u1,_⟩:=ze7 hv;rw[u1]at l1;cases l1
  show(decide (0<f.name.length)&&(zh2 (f.name.getD 0 0)==zax f.name)&&l.all upT)=true
  rw[l1,hv];simp only[Qd,Q0,Qr];exact⟨⟨l2,rfl⟩,λa hm=>(ha a hm).2⟩
theorem TsOk.ht {fs:List Tb}(hf:FnOk fs){lv:Int}{ts:List Tm}(h:TsOk fs lv ts):∀t∈ts,HtOk t:=λt ht=>h.from' t ht HtOk λf hfm l hl ha=>zyf (zni hf f hfm).1 (zni hf f hfm).2 hl ha
theorem TsOk.one {fs:List Tb}(hf:FnOk fs){lv:Int}(h9:lv<=8){ts:List Tm}(h:TsOk fs lv ts){f:Tb}(hfm:f∈fcS fs){l:List Tm}(hl:l∈zco ts f.ar.toNat):(Tm.mk f.name l).wt<=1048576/\upT (.mk f.name l)=true:=by
 obtain⟨h1,h2⟩:=(zcg ts _ l).1 hl
 have hb:=zyf (zni hf f hfm).1 (zni hf f hfm).2 h1 λa ha=>h.ht hf a (h2 a ha)
 refine⟨Q8 hb.1 ?_,hb.2⟩
 have hd:(Tm.mk f.name l).depth<=8:=by
  rw[Tm.depth_eq];show(l.map Tm.depth).foldl max 0+1<=8
  have:=zfj (B:=7) (l.map Tm.depth) 0 Zi λd hd=>by
   obtain⟨a,ha,rfl⟩:=Ka.1 hd;have:=h.dp a (h2 a ha);omega
  omega
 exact Q8 (zjr hd) (by decide)
theorem TsOk.wts {fs:List Tb}(hf:FnOk fs){lv:Int}(h9:lv<=9){ts:List Tm}(h:TsOk fs lv ts):∀t∈ts,t.wt<=30000:=λt ht=>by
 have hd:=h.dp t ht
 exact Q8 (h.ht hf t ht).1 (Q8 (zjr (n:=8) Zi) (by decide))
theorem qp3:∀t:Tm,t.names=true->∀y∈suS t,zbt y.name=true/\0<=y.ar:=zbb λn xs ih h y hy=>by
 rw[Tm.names_eq]at h
 rw[zep]at hy
 change (if zax n=true then decide (xs.length=0)else zbt n&&decide (xs.length<=4)&&xs.all Tm.names)=true at h
 change y∈(if zax n=true then []else zox n xs.length false++(xs.map suS).flatten)at hy
 by_cases hv:zax n=true
 ·rw[if_pos hv]at hy;cases hy
 ·rw[if_neg hv]at h hy;simp only[Qd]at h;rcases Qt.1 hy with hy|hy
  ·unfold zox at hy;rw[Q4,if_neg (by simp),Qv]at hy;subst hy;exact⟨h.1.1,Int.natCast_nonneg _⟩
  ·obtain⟨_,hb,hy⟩:=Ki.1 hy;obtain⟨a,ha,rfl⟩:=Ka.1 hb;exact ih a ha (Qr.1 h.2 a ha) y hy
theorem qs4 {t:Tm}(h:t.atomOk=true):∀y∈syS t true,y.pred=false->zbt y.name=true/\0<=y.ar:=λy hy hp=>by
 have key:(∀a∈t.args,a.names=true)->zbt y.name=true/\0<=y.ar:=λhn=>by
  unfold syS at hy;split at hy
  ·cases hy
  ·rcases Qt.1 hy with hy|hy
   ·unfold zox at hy;split at hy
    ·cases hy
    ·rw[Qv]at hy;subst hy;cases hp
   ·obtain⟨_,hb,hy⟩:=Ki.1 hy;obtain⟨a,ha,rfl⟩:=Ka.1 hb;exact qp3 a (hn a ha) y hy
 unfold Tm.atomOk at h
 split at h
 ·simp only[Qd]at h;exact key λa ha=>Qr.1 h.2 a ha
 ·simp only[Qd]at h;have hg:=h.2;unfold Tm.good at hg;rw[Qd,Tm.names_eq]at hg;split at hg
  ·have hx:t.args=[]:=Kc.1 (Kw hg.2);exact key (by rw[hx];simp)
  ·simp only[Qd]at hg;exact key λa ha=>Qr.1 hg.2.2 a ha
noncomputable def zcy (cs:List Cq):Bool:=decide (cs.length<=30)&&cs.all Cq.ok&&(!(sgB (zji cs)).2&&decide ((sgB (zji cs)).1.length<=12))
noncomputable def zp4 (cs:List Cq):List Tb:=if zcy cs=true then (sgB (zji cs)).1 else []
theorem qq7 (cs:List Cq)(h:∀c∈cs,c.ok=true):(sgB (zji cs)).2=(sgB (zl0 cs)).2/\((sgB (zji cs)).2=false->(sgB (zji cs)).1=(sgB (zl0 cs)).1):=qk8 (zwm h)
noncomputable def fnT (cs:List Cq):List Tb:=(zp4 cs).filter λx=>!x.pred
theorem qpk {cs:List Cq}(h:zcy cs=true):FnOk (fnT cs)/\(fnT cs).length<=12:=by
 have hv:zp4 cs=(sgB (zji cs)).1:=by unfold zp4;rw[if_pos h]
 unfold zcy at h
 simp only[Qd,Q0,Jk]at h
 obtain⟨⟨_,h1⟩,h2,h3⟩:=h
 obtain⟨c1,m1⟩:=(zkd (zji cs)).1 h2
 unfold fnT
 rw[hv]
 have hof:∀f∈(sgB (zji cs)).1.filter (λx=>!x.pred),f∈zji cs/\f.pred=false:=λf hf=>by
  obtain⟨a,b⟩:=Kp.1 hf;exact⟨(m1 f).1 a,by simpa using b⟩
 have hsy:∀f∈(sgB (zji cs)).1.filter (λx=>!x.pred),zbt f.name=true/\0<=f.ar:=λf hf=>by
  obtain⟨a,b⟩:=hof f hf;have a:=(zwm (λc hc=>Qr.1 h1 c hc) f).1 a;unfold zl0 zs5 at a;obtain⟨_,ha,hy⟩:=Ki.1 a;obtain⟨c,hc,rfl⟩:=Ka.1 ha;obtain⟨_,ha,hy⟩:=Ki.1 hy;obtain⟨l,hl,rfl⟩:=Ka.1 ha;exact qs4 (zcp (Qr.1 h1 c hc) l hl) f hy b
 refine⟨⟨(zuh _).filter _,λf hf=>⟨(hsy f hf).2,c1.1 f (hof f hf).1⟩,λf hf=>(hsy f hf).1⟩,?_⟩
 exact Q8 (Yi _ _) h3
noncomputable def htB (cs:List Cq)(d:Int):Bool:=zcy cs&&(decide (1<=d)&&decide (d<=8))&&((lvI (fnT cs) (d-1).toNat 2 (ts0 (fnT cs))).1&&(lvI (fnT cs) (d-1).toNat 2 (ts0 (fnT cs))).2.all Tm.good)
noncomputable def htV (cs:List Cq)(d:Int):List Tm:=if htB cs d=true then (lvI (fnT cs) (d-1).toNat 2 (ts0 (fnT cs))).2 else []
end
section
open Go.RowKit Go.Lib
variable {P:Program}
theorem zs6 (w:World){o:Oper}{a:Act}{K:Act->World->Prop}{Q:Exit->Act->World->Prop}(d s:Operand)(t t':TypeId)
  (ho:o.op=.call { callee:=.builtin .copy,args:=#[d,s],argTypes:=#[t,t'] }) (v u:Value) (hd:a.eval d=v) (hs:a.eval s=u) {v':Value} {w':World}
  (hr:(Builtin.copy_ #[t,t'] o.type #[v,u]).run P w=.ok v' w') (h:K (a.put o.dst v') w'):o.wp P a w K Q:=by
 unfold Oper.wp execOp
 simp only[ho,resolve,invoke,builtin,Sem.run_bind,Sem.run_pure,Result.andThen_ok,List.map_toArray,Qk,Q6,hd,hs,hr]
 exact h
theorem zfc (w:World){ops:Array Oper}{rest:List Oper}{o:Oper}{a:Act}{Q:Exit->Act->World->Prop}(hgd:o.guard=none)(d s:Operand)(t t':TypeId)
  (ho:o.op=.call { callee:=.builtin .copy,args:=#[d,s],argTypes:=#[t,t'] }) (v u:Value) (hd:a.eval d=v) (hs:a.eval s=u) {v':Value} {w':World}
  (hr:(Builtin.copy_ #[t,t'] o.type #[v,u]).run P w=.ok v' w') (h:wpList P ops Q rest (a.put o.dst v') w'):wpList P ops Q (o::rest) a w :=
 wpList_plain hgd λ_ hK=>zs6 w d s t t' ho v u hd hs hr (hK _ _ h)
theorem zgm {ops:Array Oper}{o:Oper}{a:Act}{w:World}{K:Act->World->Prop}{Q:Exit->Act->World->Prop}{E:Prop}
  (hg:o.guard=none) (d x:Operand) (dT sT:TypeId) (hop:o.op=Op.call { callee:=Callee.builtin Builtin.copy,args:=#[d,x],argTypes:=#[dT,sT] })
  (v u:Value) (hd:a.eval d=v) (hx:a.eval x=u) {v':Value} {w':World} (hr:(Builtin.copy_ #[dT,sT] o.type #[v,u]).run P w=.ok v' w') (hK:K (a.put o.dst v') w') :
  if Region.wanted o (yielded ops a.tmps)=true then Oper.wp P o a w K Q else E:=by
 have hw:Region.wanted o (yielded ops a.tmps)=true:=by simp[Region.wanted,hg]
 rw[if_pos hw]
 unfold Oper.wp
 simp[execOp,hop,resolve,invoke,builtin,hd,hx,hr,Result.andThen]
 exact hK
theorem zjq (w:World)(dT sT ty elem:TypeId)(g o dLen dCap:Nat)(a:Addr)(sLen sCap:Nat)(cur:Array Value)(t:TypeId)(cs:List Value)(n:Nat)
  (hu:P.underlying dT=some (.slice elem)) (hs:zbe P elem=some n)
  (hg:w.heap[g]?=some (.cells cur t (0,0))) (hn:cs.length=Nat.min sLen dLen*n)
  (hsrc:∀j v,cs[j]?=some v->w.cell? (a.add j)=some v) (hfit:o+cs.length<=cur.size) (h1:∀v∈cs,v.oneCell'=true) :
  (Builtin.copy_ #[dT,sT] ty #[.slice (some ⟨g,o,none⟩) dLen dCap,.slice (some a) sLen sCap]).run P w =
   .ok (goInt (Nat.min sLen dLen)) (w.setRow g (cur.toList.take o++cs++cur.toList.drop (o+cs.length)).toArray):=by
 have hl:=run_loadCells_list (P:=P) w a cs hsrc
 have hst:=run_storeCells_at P g o t cs 0 cur w hg (by simpa using hfit) h1
 unfold zbe at hs
 cases hq:P.info? elem with
 | none=>simp[hq]at hs
 | some i =>
  have hi:i.size=n:=by simpa[hq]using hs
  subst hi;rw[hn]at hl;simp[Builtin.copy_,run_underlying hu,Builtin.lenOf,Builtin.firstCells,sizeOf,typeInfo,hq,hl,hst]
section
abbrev zkp:TypeId:=69
abbrev zgq:TypeId:=63
set_option maxHeartbeats 4000000
set_option maxRecDepth 100000
theorem qn6 (w:World)(v:Value)(n:Nat)(old:Option Nat)(xs:List Value)
  (hs:(v=.slice none 0 0/\n=0/\xs=[])\/∃b cap cells cty,v=.slice (some ⟨b,0,none⟩) n cap/\n<=cap/\cap<=zd1/\w.heap[b]?=some (.cells cells cty (0,0))/\cells.size=cap*4/\cells.toList.take (n*4)=xs/\old=some b)
  (vb vc:Nat) (news:List Value) (hl:news.length=1*4) (hv:∀j u,news[j]?=some u->w.cell? ((⟨vb,0,none⟩:Addr).add j)=some u) (h1:∀u∈news,u.oneCell'=true) (hn:n<=1048576) :
  Calls Tryz.prog 156 #[v,.int .i64 n,.slice (some ⟨vb,0,none⟩) 1 vc] w λe w'=>∃v',e=.returned v'/\Apd w w' 4 (n+1) old (xs++news) v':=by
 obtain⟨v',w',hr,ha⟩:=znn (P:=Tryz.prog) w zgq zgq zkp 4 56 Tryz.underlying63 Zh Zh [.t (.str []),.t (.int .i64 0),.t (.bool false),.nl 1] Zh rfl v n old xs hs (some ⟨vb,0,none⟩) 1 vc news hl (Or.inr ⟨_,rfl,hv⟩) h1 Zi Zi
 have hg:v'=v':=rfl
 rcases hs with⟨rfl,rfl,rfl⟩|⟨b,cap,cells,cty,rfl,k1,k2,k3,k4,k5,rfl⟩
 ·go_enter Tryz.func156,Tryz.ntmps156
  go_wp2_with (at_builtin;refine Lib.wpList_append_run _ rfl _ _ _ _ rfl _ _ rfl rfl _ _ hr ?_)
  go_ret
  exact⟨_,rfl,ha⟩
 ·go_enter Tryz.func156,Tryz.ntmps156
  go_wp2_with (at_builtin;refine Lib.wpList_append_run _ rfl _ _ _ _ rfl _ _ rfl rfl _ _ hr ?_)
  all_goals (go_ret;exact⟨_,rfl,ha⟩)
theorem qsn (w:World)(b n c i vb vc:Nat)(cells vcells:Array Value)(cty vty:TypeId)(xs news:List Value)(hvb:vb≠b)
  (hg:w.heap[b]?=some (.cells cells cty (0,0))) (hcs:cells.size=c*4) (hxs:cells.toList.take (n*4)=xs) (hi:i<n) (hroom:n+1<=c) (hc:c<=zd1) (hn:n<=1048576)
  (hv:w.heap[vb]?=some (.cells vcells vty (0,0))) (hvx:vcells.toList.take 4=news) (hl:news.length=4) (h1c:∀v∈xs,v.oneCell'=true) (h1v:∀v∈news,v.oneCell'=true) :
  Calls Tryz.prog 156 #[.slice (some ⟨b,0,none⟩) n c,.int .i64 i,.slice (some ⟨vb,0,none⟩) 1 vc] w λe w' =>
   e=.returned (.slice (some ⟨b,0,none⟩) (n+1) c)/\∃A1:Array Value,A1=(cells.toList.take ((i+1)*4)++xs.drop (i*4)++cells.toList.drop ((i+1)*4+(xs.drop (i*4)).length)).toArray ∧
    w'=(w.drew.setRow b A1).setRow b (A1.toList.take (i*4)++news++A1.toList.drop (i*4+news.length)).toArray:=by
 have hz2:¬((i:Int)=(n:Int)):=by omega
 have hw1:IntKind.i64.wrap ((i:Int)+1)=(i:Int)+1:=by rw[IntKind.wrap_i64];omega
 have hw2:IntKind.i64.wrap ((n:Int)+1)=(n:Int)+1:=by rw[IntKind.wrap_i64];omega
 have hb1:(0:Int)<=(i:Int)+1:=by omega
 have hin:i<=n:=by omega
 have htn:((i:Int)+1).toNat=i+1:=by omega
 have htn2:((n:Int)+1).toNat=n+1:=by omega
 have hb2:¬(c=i+1):=by omega
 have hb3:(i:Int)<=(n:Int)+1:=by omega
 have hb4:¬(c=i):=by omega
 have hxl:xs.length=n*4:=by rw[<-hxs,Qc,Kg,hcs];omega
 have hdl:(xs.drop (i*4)).length=(n-i)*4:=by rw[Qm,hxl];omega
 have hgd:w.drew.heap[b]?=some (.cells cells cty (0,0)):=hg
 obtain⟨A1,hA1⟩:∃A1:Array Value,(cells.toList.take ((i+1)*4)++xs.drop (i*4)++cells.toList.drop ((i+1)*4+(xs.drop (i*4)).length)).toArray=A1:=⟨_,rfl⟩
 have hA1s:A1.size=c*4:=by
  rw[<-hA1];simp only[J3,Qb,Qc,Kg,hdl,Qm,hcs];omega
 have hcp1:∀ty dc sc,(Builtin.copy_ #[zgq,zgq] ty #[.slice (some ⟨b,(i+1)*4,none⟩) (n-i) dc,.slice (some ⟨b,i*4,none⟩) (n+1-i) sc]).run Tryz.prog w.drew=.ok (goInt (Nat.min (n+1-i) (n-i))) (w.drew.setRow b A1):=λty dc sc=>by
  rw[<-hA1];refine zjq w.drew zgq zgq ty zkp b ((i+1)*4) (n-i) dc ⟨b,i*4,none⟩ (n+1-i) sc cells cty (xs.drop (i*4)) 4 Tryz.underlying63 Zh hgd (by rw[hdl,show(n+1-i).min (n-i)=n-i from Nat.min_eq_right Zi]) (λj v hj=>?_) (by rw[hdl,hcs];omega) (λv hv=>h1c v (List.mem_of_mem_drop hv));rw[Addr.add_lit];rw[List.getElem?_drop,<-hxs,List.getElem?_take]at hj;split at hj
  ·simp only[World.cell?,hgd];simpa using hj
  ·cases hj
 have hg1:(w.drew.setRow b A1).heap[b]?=some (.cells A1 cty (0,0)):=setRow_heap w.drew b cells A1 cty (0,0) hgd
 have hv1:(w.drew.setRow b A1).heap[vb]?=some (.cells vcells vty (0,0)):=by rw[setRow_other w.drew b vb A1 hvb];exact hv
 have hcp2:∀ty dc,(Builtin.copy_ #[zgq,zgq] ty #[.slice (some ⟨b,i*4,none⟩) (n+1-i) dc,.slice (some ⟨vb,0,none⟩) 1 vc]).run Tryz.prog (w.drew.setRow b A1)=.ok (goInt (Nat.min 1 (n+1-i))) ((w.drew.setRow b A1).setRow b (A1.toList.take (i*4)++news++A1.toList.drop (i*4+news.length)).toArray):=λty dc=>by
  refine zjq (w.drew.setRow b A1) zgq zgq ty zkp b (i*4) (n+1-i) dc ⟨vb,0,none⟩ 1 vc A1 cty news 4 Tryz.underlying63 Zh hg1 (by rw[hl,show Nat.min 1 (n+1-i)=1 from K7 Zi]) (λj v hj=>?_) (by rw[hl,hA1s];omega) h1v;rw[Addr.add_lit,Qi];rw[<-hvx,List.getElem?_take]at hj;split at hj
  ·simp only[World.cell?,hv1];simpa using hj
  ·cases hj
 have hov:∀lb cb,(callFunc 202 #[.slice (some ⟨vb,0,none⟩) 1 vc,.slice (some ⟨b,(i+1)*4,none⟩) lb cb]).run Tryz.prog w=.ok (.value (.bool false)) w:=λlb cb=>by
  have hkv:vcells.size≠0:=by
   intro h0;have:vcells.toList=[]:=Kc.1 (by simpa using h0);rw[this]at hvx;rw[<-hvx]at hl;simp at hl
  rw[run_callFunc_extern Tryz.func202 Zh Zh Zh (e:=Extern.SlicesOverlaps.overlaps #[zgq,zgq] #[4]) Zh,
   Lib.run_overlaps_apart w zgq 4 zkp Tryz.underlying63 4 Tryz.sizeOf69 ⟨vb,0,none⟩ ⟨b,(i+1)*4,none⟩ 1 vc lb cb hvb vty cty vcells.size cells.size (by simp[World.shape?,hv]) (by simp[World.shape?,hg]) Zi (by simp[World.frozen?,hv]) (by simp[World.frozen?,hv])]
  rfl
 go_enter Tryz.func156,Tryz.ntmps156
 go_wp2_with (simp only[hov])
 go_region_law (refine zgm rfl _ _ zgq zgq rfl (.slice (some ⟨b,(i+1)*4,none⟩) (n-i) (c-(i+1))) (.slice (some ⟨b,i*4,none⟩) (n+1-i) (c-i)) (by simp[Act.eval,Act.put]) (by simp[Act.eval,Act.put]) (hcp1 _ _ _) ?_)
 go_wp2_with (at_builtin;refine zfc _ rfl _ _ zgq zgq rfl _ _ rfl rfl (hcp2 _ _) ?_)
 go_ret
 exact⟨rfl,A1,hA1.symm,by rw[hl,Kl]⟩
theorem qso (w:World)(b n c i vb vc:Nat)(cells vcells:Array Value)(cty vty:TypeId)(xs news:List Value)
  (hg:w.heap[b]?=some (.cells cells cty (0,0))) (hcs:cells.size=c*4) (hxs:cells.toList.take (n*4)=xs) (hi:i<n) (hnc:n<=c) (hroom:c<n+1) (hn:n<=1048576)
  (hv:w.heap[vb]?=some (.cells vcells vty (0,0))) (hvx:vcells.toList.take 4=news) (hl:news.length=4) (h1c:∀v∈xs,v.oneCell'=true) (h1v:∀v∈news,v.oneCell'=true) :
  Calls Tryz.prog 156 #[.slice (some ⟨b,0,none⟩) n c,.int .i64 i,.slice (some ⟨vb,0,none⟩) 1 vc] w λe w' =>
   ∃G cells',n+1<=G/\G<=zd1/\e=.returned (.slice (some ⟨w.heap.size,0,none⟩) (n+1) G)/\w'.heap[w.heap.size]?=some (.cells cells' zkp (0,0))/\cells'.size=G*4/\cells'.toList.take ((n+1)*4)=xs.take (i*4)++news++xs.drop (i*4)/\Below w.heap.size w w':=by
 obtain⟨i0,z,hi0,hz0,hzs,hzb,hzl⟩:∃i0 z,Tryz.prog.info? zkp=some i0/\i0.zero=some z/\i0.size=4/\i0.bytes=56/\z.cells.size=4:=⟨_,_,rfl,rfl,rfl,rfl,rfl⟩
 have hz2:¬((i:Int)=(n:Int)):=by omega
 have hz3:(c:Int)<(n:Int)+1:=by omega
 have hbw:b<w.heap.size:=(Array.getElem?_eq_some_iff.1 hg).1
 have hvw:vb<w.heap.size:=(Array.getElem?_eq_some_iff.1 hv).1
 have hkk:(n:Int)+1-(i:Int)=((n+1-i:Nat):Int):=by omega
 have hik:i+(n+1-i)=n+1:=by omega
 have hxl:xs.length=n*4:=by rw[<-hxs,Qc,Kg,hcs];omega
 have hcell:∀j v,xs[j]?=some v->w.cell? ⟨b,j,none⟩=some v:=λj v hj=>by
  rw[<-hxs,List.getElem?_take]at hj;split at hj
  ·simp only[World.cell?,hg];simpa using hj
  ·cases hj
 have hold:(Builtin.firstCells i0.size i (.slice (some ⟨b,0,none⟩) i c)).run Tryz.prog w.drew=.ok (xs.take (i*4)).toArray w.drew:=by
  rw[hzs]
  exact run_firstCells_some w.drew 4 i ⟨b,0,none⟩ i c (xs.take (i*4)) (by rw[Qc,hxl];omega) (λj v hj=>by
   rw[Addr.add_lit,Qi];rw[List.getElem?_take]at hj;split at hj
   ·exact hcell j v hj
   ·cases hj)
 have hrz:∀ty,(Builtin.append_ #[zgq,3] ty #[.slice (some ⟨b,0,none⟩) i c,.int .i64 ((n:Int)+1-(i:Int))]).run Tryz.prog w =
   .ok (.slice (some ⟨w.heap.size,0,none⟩) (n+1) (grownCap w (n+1) c zkp)) (w.drew.alloc (.cells ((xs.take (i*4)).toArray++Builtin.zeroCells z.cells (n+1-i)++Builtin.zeroCells z.cells (grownCap w (n+1) c zkp-(n+1))) zkp)):=λty=>by
  have h:=Lib.run_append_grow_zeros (P:=Tryz.prog) w zgq 3 ty zkp i0 z .i64 .i64 Tryz.underlying63 Tryz.underlying3 hi0 hz0 (some ⟨b,0,none⟩) i c (xs.take (i*4)) hold (n+1-i) Zi Zi Zi Zi (by rw[hzb];omega) (by rw[hzb,hik];exact growslice_fits hroom Zi);rw[hik]at h;rw[hkk];exact h
 have hge:=grownCap_ge w (n+1) c zkp
 have hle:=grownCap_le_maxLen w (n+1) c zkp (by unfold maxLen;omega)
 generalize grownCap w (n+1) c zkp=G at hrz hge hle
 have hG63:G<=9223372036854775807:=by unfold maxLen at hle;omega
 obtain⟨R0,hR0⟩:∃R0:Array Value,(xs.take (i*4)).toArray++Builtin.zeroCells z.cells (n+1-i)++Builtin.zeroCells z.cells (G-(n+1))=R0:=⟨_,rfl⟩
 have hR0s:R0.size=G*4:=by
  rw[<-hR0];simp only[Array.size_append,J3,size_zeroCells,hzl,Qc,hxl];omega
 have hR0t:R0.toList.take (i*4)=xs.take (i*4):=by
  rw[<-hR0];simp only[Array.toList_append,Kl];rw[Yw (by rw[Qc,hxl];omega)]
 obtain⟨W1,hW1⟩:∃W1,w.drew.alloc (.cells R0 zkp)=W1:=⟨_,rfl⟩
 rw[hR0,hW1]at hrz
 obtain⟨N,hN⟩:∃N,w.heap.size=N:=⟨_,rfl⟩
 rw[hN]at hrz⊢
 have hg0:W1.heap[N]?=some (.cells R0 zkp (0,0)):=by rw[<-hW1,<-hN];exact heap_alloc_new w.drew _
 have hold1:∀k,k<N->W1.heap[k]?=w.heap[k]?:=λk hk=>by rw[<-hW1];exact Below.heap_alloc w.drew _ k (by rw[<-hN]at hk;exact hk)
 have hB0:Below N w W1:=by rw[<-hW1,<-hN];exact⟨rfl,rfl,rfl,by simp,λk hk=>Below.heap_alloc w.drew _ k hk⟩
 obtain⟨R1,hR1⟩:∃R1:Array Value,(R0.toList.take (i*4)++news++R0.toList.drop (i*4+news.length)).toArray=R1:=⟨_,rfl⟩
 have hR1s:R1.size=G*4:=by
  rw[<-hR1];simp only[J3,Qb,Qc,Kg,Qm,hR0s,hl];omega
 have hcpA:∀ty dc,(Builtin.copy_ #[zgq,zgq] ty #[.slice (some ⟨N,i*4,none⟩) (n+1-i) dc,.slice (some ⟨vb,0,none⟩) 1 vc]).run Tryz.prog W1=.ok (goInt (Nat.min 1 (n+1-i))) (W1.setRow N R1):=λty dc=>by
  rw[<-hR1];refine zjq W1 zgq zgq ty zkp N (i*4) (n+1-i) dc ⟨vb,0,none⟩ 1 vc R0 zkp news 4 Tryz.underlying63 Zh hg0 (by rw[hl,show Nat.min 1 (n+1-i)=1 from K7 Zi]) (λj v hj=>?_) (by rw[hl,hR0s];omega) h1v;rw[Addr.add_lit,Qi];rw[<-hvx,List.getElem?_take]at hj;split at hj
  ·simp only[World.cell?,hold1 vb Zi,hv];simpa using hj
  ·cases hj
 obtain⟨W2,hW2⟩:∃W2,W1.setRow N R1=W2:=⟨_,rfl⟩
 have hg2:W2.heap[N]?=some (.cells R1 zkp (0,0)):=by rw[<-hW2];exact setRow_heap W1 N R0 R1 zkp (0,0) hg0
 have hold2:∀k,k<N->W2.heap[k]?=w.heap[k]?:=λk hk=>by rw[<-hW2,setRow_other W1 N k R1 Zi];exact hold1 k hk
 have hB2:Below N w W2:=⟨by rw[<-hW2];exact hB0.os,by rw[<-hW2];exact hB0.tape,by rw[<-hW2];exact hB0.output,by rw[<-hW2,size_setRow];exact hB0.size,hold2⟩
 rw[hW2]at hcpA
 have hcpB:∀ty dc sc,(Builtin.copy_ #[zgq,zgq] ty #[.slice (some ⟨N,(i+1)*4,none⟩) (n-i) dc,.slice (some ⟨b,i*4,none⟩) (n-i) sc]).run Tryz.prog W2.drew=.ok (goInt (Nat.min (n-i) (n-i))) (W2.drew.setRow N (R1.toList.take ((i+1)*4)++xs.drop (i*4)++R1.toList.drop ((i+1)*4+(xs.drop (i*4)).length)).toArray):=λty dc sc=>by
  have hdl:(xs.drop (i*4)).length=(n-i)*4:=by rw[Qm,hxl];omega
  refine zjq W2.drew zgq zgq ty zkp N ((i+1)*4) (n-i) dc ⟨b,i*4,none⟩ (n-i) sc R1 zkp (xs.drop (i*4)) 4 Tryz.underlying63 Zh hg2 (by rw[hdl,show(n-i).min (n-i)=n-i from Nat.min_self _]) (λj v hj=>?_) (by rw[hdl,hR1s];omega) (λv hv=>h1c v (List.mem_of_mem_drop hv));rw[Addr.add_lit];rw[List.getElem?_drop]at hj;have:=hcell _ v hj;simp only[World.cell?]at this⊢;rw[show W2.drew.heap[b]?=w.heap[b]? from hold2 b Zi];exact this
 obtain⟨R2,hR2⟩:∃R2:Array Value,(R1.toList.take ((i+1)*4)++xs.drop (i*4)++R1.toList.drop ((i+1)*4+(xs.drop (i*4)).length)).toArray=R2:=⟨_,rfl⟩
 rw[hR2]at hcpB
 have hfin:∀W3,W3=W2.drew.setRow N R2->W3.heap[N]?=some (.cells R2 zkp (0,0))/\R2.size=G*4/\R2.toList.take ((n+1)*4)=xs.take (i*4)++news++xs.drop (i*4)/\Below N w W3:=λW3 h3=>by
  have hdl:(xs.drop (i*4)).length=(n-i)*4:=by rw[Qm,hxl];omega
  subst h3;refine⟨setRow_heap W2.drew N R1 R2 zkp (0,0) hg2,?_,?_,⟨hB2.os,hB2.tape,hB2.output,by rw[size_setRow];exact hB2.size,λk hk=>by rw[setRow_other W2.drew N k R2 Zi];exact hold2 k hk⟩⟩
  ·rw[<-hR2];simp only[J3,Qb,Qc,Kg,Qm,hR1s,hxl];omega
  ·have e1:R1.toList.take ((i+1)*4)=xs.take (i*4)++news:=by
    rw[<-hR1];simp only;rw[hR0t,Yw (by rw[Qb,Qc,hxl,hl];omega)]
   rw[<-hR2];simp only;rw[e1,Yw (by rw[Qb,Qb,Qc,hxl,hl,hdl];omega)]
 have hGi:¬(G=i):=by omega
 have hGim:¬(G=i+1):=by omega
 have hci:¬(c=i):=by omega
 have hw1:IntKind.i64.wrap ((i:Int)+1)=(i:Int)+1:=by rw[IntKind.wrap_i64];omega
 have hw2:IntKind.i64.wrap ((n:Int)+1)=(n:Int)+1:=by rw[IntKind.wrap_i64];omega
 have hw3:IntKind.i64.wrap ((n:Int)+1-(i:Int))=(n:Int)+1-(i:Int):=by rw[IntKind.wrap_i64];omega
 have hb1:(0:Int)<=(i:Int)+1:=by omega
 have hin:i<=n:=by omega
 have htn:((i:Int)+1).toNat=i+1:=by omega
 have hb3:(i:Int)<=(n:Int)+1:=by omega
 clear hkk hik hold hR0 hR1 hR2 hW1 hW2 hR0t hN
 go_enter Tryz.func156,Tryz.ntmps156
 go_wp2_with (first
  | (at_builtin;refine Lib.wpList_append_run _ rfl _ _ _ _ rfl _ _ rfl rfl _ _ (hrz _) ?_)
  | (at_builtin;refine zfc _ rfl _ _ zgq zgq rfl _ _ rfl rfl (hcpA _ _) ?_))
 go_region_law (refine zgm rfl _ _ zgq zgq rfl (.slice (some ⟨N,(i+1)*4,none⟩) (n-i) (G-(i+1))) (.slice (some ⟨b,i*4,none⟩) (n-i) (c-i)) (by simp[Act.eval,Act.put]) (by simp[Act.eval,Act.put]) (hcpB _ _ _) ?_)
 go_wp2
 go_ret
 obtain⟨f1,f2,f3,f4⟩:=hfin _ rfl
 exact⟨G,R2,hge,hG63,rfl,f1,f2,f3,f4⟩
end
end
section
open Go.RowKit
def tvB (t:Tb):List Value:=[.string ⟨t.name.toArray⟩,.int .i64 t.ar,.bool t.pred,.slice none 0 0]
def tvs (ts:List Tb):List Value:=(ts.map tvB).flatten
theorem zgr (ts:List Tb):(tvs ts).length=ts.length*4:=by
 unfold tvs
 induction ts with
 | nil=>rfl
 | cons t ts ih=>rw[Qk,Q5,Qb,ih,Qj,Km];simp[tvB];omega
theorem znw (t:Tb)(ts:List Tb):tvs (t::ts)=tvB t++tvs ts:=rfl
theorem zes (a b:List Tb):tvs (a++b)=tvs a++tvs b:=by unfold tvs;rw[Qq,Kq]
theorem qi0 (ts:List Tb)(i:Nat):(tvs ts).take (i*4)=tvs (ts.take i):=by
 by_cases h:i<=ts.length
 ·conv=>lhs;rw[<-Ke i ts,zes]
  rw[Yw (by rw[zgr,Qc,K7 h])]
 ·rw[Ql (by rw[zgr];omega),Ql Zi]
theorem qkr (ts:List Tb)(i:Nat):(tvs ts).drop (i*4)=tvs (ts.drop i):=by
 by_cases h:i<=ts.length
 ·conv=>lhs;rw[<-Ke i ts,zes]
  rw[List.drop_left' (by rw[zgr,Qc,K7 h])]
 ·rw[Q1 (by rw[zgr];omega),Q1 Zi];rfl
theorem zie (ts:List Tb):∀v∈tvs ts,v.oneCell'=true:=λv hv=>by
 unfold tvs at hv
 obtain⟨r,hr,hv⟩:=Ki.1 hv
 obtain⟨t,_,rfl⟩:=Ka.1 hr
 simp only[tvB,Qs,K9,or_false]at hv
 rcases hv with rfl|rfl|rfl|rfl<;>rfl
def wfB (t:Tb):Prop:=t.name.length<=zd1/\IntKind.i64.min<=t.ar/\t.ar<=IntKind.i64.max
theorem zx2 {w:World}{cells:Array Value}{o:Nat}{t:Tb}{f:List Nat}:zbl w cells o (tbC t) f↔f=[]/\wfB t/\∀j v,(tvB t)[j]?=some v->cells[o+j]?=some v:=by
 constructor
 ·intro h;rw[za0]at h;simp only[zbl]at h;obtain⟨v1,f1,_,c1,rfl,h1,v2,f2,_,c2,rfl,h2,v3,f3,_,c3,rfl,h3,v4,f4,_,c4,rfl,h4,rfl⟩:=h;unfold zas at h1 h2 h3 h4;obtain⟨rfl,l1,rfl⟩:=h1;obtain⟨rfl,a1,a2,rfl⟩:=h2;obtain⟨rfl,rfl⟩:=h3;obtain⟨rfl,rfl⟩:=h4;refine⟨rfl,⟨l1,a1,a2⟩,λj v hj=>?_⟩
  match j,hj with
  | 0,hj=>rw[<-Jg hj];exact c1
  | 1,hj=>rw[<-Jg hj];exact c2
  | 2,hj=>rw[<-Jg hj];exact c3
  | 3,hj=>rw[<-Jg hj];exact c4
  | j+4,hj=>simp[tvB]at hj
 ·rintro⟨rfl,⟨l1,a1,a2⟩,h⟩;rw[za0];simp only[zbl];refine⟨_,[],[],h 0 _ rfl,rfl,?_,_,[],[],h 1 _ rfl,rfl,?_,_,[],[],h 2 _ rfl,rfl,?_,_,[],[],h 3 _ rfl,rfl,?_,rfl⟩<;>unfold zas
  ·exact⟨rfl,l1,rfl⟩
  ·exact⟨rfl,a1,a2,rfl⟩
  ·exact⟨rfl,rfl⟩
  ·exact⟨rfl,rfl⟩
theorem zf8 {w:World}{cells:Array Value}:∀{ts:List Tb}{o:Nat}{f:List Nat},zak w cells o 4 (ts.map tbC) f↔f=[]/\(∀t∈ts,wfB t)/\∀j v,(tvs ts)[j]?=some v->cells[o+j]?=some v
 | [],o,f=>by
  rw[Q6,zak];exact⟨λh=>⟨h,by simp,λj v hj=>by simp[tvs]at hj⟩,λh=>h.1⟩
 | t::ts,o,f=>by
  rw[Qk,zak];constructor
  ·rintro⟨_,f1,f2,rfl,h1,h2⟩;obtain⟨rfl,w1,c1⟩:=zx2.1 h1;obtain⟨rfl,w2,c2⟩:=zf8.1 h2;refine⟨rfl,λx hx=>?_,λj v hj=>?_⟩
   ·rcases Qs.1 hx with rfl|hx
    ·exact w1
    ·exact w2 x hx
   ·rw[znw]at hj;by_cases h4:j<4
    ·rw[List.getElem?_append_left (by simpa[tvB]using h4)]at hj;exact c1 j v hj
    ·rw[List.getElem?_append_right (by simpa[tvB]using Nat.le_of_not_lt h4)]at hj;have:=c2 (j-4) v (by simpa[tvB]using hj)
     rwa [show o+4+(j-4)=o+j by omega]at this
  ·rintro⟨rfl,h1,h2⟩;refine⟨rfl,[],[],rfl,zx2.2 ⟨rfl,h1 t (by simp),λj v hj=>h2 j v ?_⟩,zf8.2 ⟨rfl,λx hx=>h1 x (by simp[hx]),λj v hj=>?_⟩⟩
   ·rw[znw,List.getElem?_append_left (by
     have:=(List.getElem?_eq_some_iff.1 hj).1
     exact this)]
    exact hj
   ·have:=h2 (4+j) v (by
     rw[znw,List.getElem?_append_right (by simp[tvB])]
     simpa[tvB]using hj)
    rwa [show o+4+j=o+(4+j) by omega]
theorem qa4 {cells:Array Value}{xs:List Value}(h:∀j v,xs[j]?=some v->cells[0+j]?=some v):cells.toList.take xs.length=xs:=by
 apply List.ext_getElem?
 intro j
 by_cases hj:j<xs.length
 ·rw[List.getElem?_take,if_pos hj,List.getElem?_eq_getElem hj];have:=h j _ (List.getElem?_eq_getElem hj);simpa using this
 ·rw[List.getElem?_take,if_neg hj,List.getElem?_eq_none Zi]
theorem zm1 {cells:Array Value}{xs:List Value}{n:Nat}(h:cells.toList.take n=xs):∀j v,xs[j]?=some v->cells[0+j]?=some v:=λj v hj=>by
 rw[<-h,List.getElem?_take]at hj
 split at hj
 ·simpa using hj
 ·cases hj
theorem qrc {w:World}{ts:List Tb}{v:Value}{fp:List Nat}:zas w (tbS ts) v fp↔∃ao cap,v=.slice ao ts.length cap/\ts.length<=cap/\cap<=zd1/\((ao=none/\cap=0/\ts=[]/\fp=[]) ∨
  ∃b cells ty,ao=some ⟨b,0,none⟩/\fp=[b]/\w.heap[b]?=some (.cells cells ty (0,0))/\cells.size=cap*4/\(∀t∈ts,wfB t)/\cells.toList.take (ts.length*4)=tvs ts):=by
 constructor
 ·intro h;unfold zas at h;obtain⟨ao,cap,rfl,h1,h2,h3⟩:=h;rw[Qa]at h1⊢;refine⟨ao,cap,rfl,h1,h2,?_⟩;rcases h3 with⟨rfl,rfl,h3,rfl⟩|⟨b,cells,ty,fps,rfl,rfl,h3,h4,h5⟩
  ·exact Or.inl ⟨rfl,rfl,J8.1 h3,rfl⟩
  ·obtain⟨rfl,k1,k2⟩:=zf8.1 h5;refine Or.inr ⟨b,cells,ty,rfl,rfl,h3,h4,k1,?_⟩;have:=qa4 k2
   rwa [zgr]at this
 ·rintro⟨ao,cap,rfl,h1,h2,h3⟩;unfold zas;refine⟨ao,cap,by rw[Qa],by rw[Qa];exact h1,h2,?_⟩;rcases h3 with⟨rfl,rfl,rfl,rfl⟩|⟨b,cells,ty,rfl,rfl,h3,h4,k1,k2⟩
  ·exact Or.inl ⟨rfl,rfl,rfl,rfl⟩
  ·exact Or.inr ⟨b,cells,ty,[],rfl,rfl,h3,h4,zf8.2 ⟨rfl,k1,zm1 k2⟩⟩
theorem zzp (ts:List Tb)(t:Tb)(i:Nat)(hi:i<=ts.length)(hl:ts.length<=1048576):GC Tryz.prog 156 [(true,.one (tbS ts)),(false,iD i),(true,.one (tbS [t]))] [.one (tbS (ts.take i++[t]++ts.drop i))]:=by
 refine⟨Tryz.call156,λw vs fp tp hv hn=>?_⟩
 obtain⟨v1,_,f1,_,t1,_,rfl,rfl,rfl,⟨h1,ht1⟩,hv⟩:=hv
 obtain⟨v2,_,rfl,h2,hv⟩:=hv
 obtain⟨v3,_,f3,_,t3,_,rfl,rfl,rfl,⟨h3,ht3⟩,hv⟩:=hv
 obtain⟨rfl,rfl,rfl⟩:=hv
 have e2:v2=.int .i64 i:=by
  have h:zai w (λx=>x<w.heap.size/\x∉f1++(f3++[])) (.int .i64 i) v2:=h2;unfold zai at h;exact h.1
 subst e2
 obtain⟨ao,c,rfl,q1,q2,q3⟩:=qrc.1 h1
 obtain⟨ao3,vc,rfl,r1,r2,r3⟩:=qrc.1 h3
 obtain⟨vb,vcells,vty,rfl,rfl,hvb,hvs,hvw,hvx⟩:∃vb vcells vty,ao3=some ⟨vb,0,none⟩/\f3=[vb]/\w.heap[vb]?=some (.cells vcells vty (0,0))/\vcells.size=vc*4/\(∀x∈[t],wfB x)/\vcells.toList.take ([t].length*4)=tvs [t]:=by
  rcases r3 with⟨_,_,h,_⟩|h
  ·cases h
  ·exact h
 have hnl:(tvs [t]).length=4:=by rw[zgr];rfl
 have hnews:∀j u,(tvs [t])[j]?=some u->w.cell? ((⟨vb,0,none⟩:Addr).add j)=some u:=λj u hj=>by
  rw[zd5,Qi];have:=zm1 hvx j u hj;simp only[World.cell?,hvb];simpa using this
 have hres:∀(wfs:∀x∈ts,wfB x),∀x∈ts.take i++[t]++ts.drop i,wfB x:=λwfs x hx=>by
  rcases Qt.1 hx with hx|hx
  ·rcases Qt.1 hx with hx|hx
   ·exact wfs x (Jt hx)
   ·exact hvw x hx
  ·exact wfs x (List.mem_of_mem_drop hx)
 have hrl:(ts.take i++[t]++ts.drop i).length=ts.length+1:=by
  simp only[Qb,Qc,Qm,Jn];omega
 have fin:∀(w':World) (b' G:Nat) (cells':Array Value) (ty':TypeId),(∀x∈ts,wfB x)->ts.length+1<=G->G<=zd1->w'.heap[b']?=some (.cells cells' ty' (0,0))->cells'.size=G*4->cells'.toList.take ((ts.length+1)*4)=tvs (ts.take i++[t]++ts.drop i) →
   GDs w' [.one (tbS (ts.take i++[t]++ts.drop i))] [.slice (some ⟨b',0,none⟩) (ts.length+1) G] [b'] (zix (tbS (ts.take i++[t]++ts.drop i)) [b']):=λw' b' G cells' ty' k0 k1 k2 k3 k4 k5=>by
  refine⟨_,[],[b'],[],zix (tbS (ts.take i++[t]++ts.drop i)) [b'],[],rfl,by simp,by simp,⟨?_,rfl⟩,rfl,rfl,rfl⟩;exact qrc.2 ⟨_,G,by rw[hrl],by rw[hrl];exact k1,k2,Or.inr ⟨b',cells',ty',rfl,rfl,k3,k4,hres k0,by rw[hrl];exact k5⟩⟩
 by_cases hin:i=ts.length
 ·subst hin;have hcat:ts.take ts.length++[t]++ts.drop ts.length=ts++[t]:=by simp
  rcases q3 with⟨rfl,rfl,rfl,rfl⟩|⟨b,cells,ty,rfl,rfl,hb,hs,hwf,hx⟩
  ·refine(qn6 w (.slice none 0 0) 0 none [] (Or.inl ⟨rfl,rfl,rfl⟩) vb vc (tvs [t]) hnl hnews (zie _) Zi).mono ?_;rintro e w' ⟨v',rfl,ha⟩;rcases ha.res with⟨_,hc,_,_⟩|⟨b',cap',cells',ty',rfl,k1,k2,k3,k4,k5,k6,k7⟩
   ·rw[Jf]at hc;rw[hc]at hnl;cases hnl
   ·have k6:w.heap.size<=b':=k6.resolve_left (by simp);refine⟨[_],[b'],_,rfl,fin w' b' cap' cells' ty' (by simp) k1 k2 k3 k4 (by simpa using k5),by simp,λx hx=>Or.inr (by rw[Qv.1 hx];exact k6),⟨ha.os,ha.tape,ha.output,ha.size,λk hk=>k7 k hk.1 (by have:=hk.1;omega)⟩⟩
  ·have hb':b<w.heap.size:=(Array.getElem?_eq_some_iff.1 hb).1;refine(qn6 w (.slice (some ⟨b,0,none⟩) ts.length c) ts.length (some b) (tvs ts) (Or.inr ⟨b,c,cells,ty,rfl,q1,q2,hb,hs,hx,rfl⟩) vb vc (tvs [t]) hnl hnews (zie _) Zi).mono ?_;rintro e w' ⟨v',rfl,ha⟩;rcases ha.res with⟨_,hc,_,_⟩|⟨b',cap',cells',ty',rfl,k1,k2,k3,k4,k5,k6,k7⟩
   ·have:=congrArg List.length hc;rw[Qb,hnl]at this;simp at this
   ·refine⟨[_],[b'],_,rfl,fin w' b' cap' cells' ty' hwf k1 k2 k3 k4 (by rw[k5,hcat,zes]),by simp,λx hx=>?_,⟨ha.os,ha.tape,ha.output,ha.size,λk hk=>k7 k hk.1 λe=>?_⟩⟩
    ·rw[Qv.1 hx];rcases k6 with k6|k6
     ·left;rw[Jg k6];simp
     ·exact Or.inr k6
    ·rcases k6 with k6|k6
     ·exact hk.2 (by rw[e,Jg k6];simp)
     ·have:=hk.1;omega
 ·rcases q3 with⟨rfl,rfl,rfl,rfl⟩|⟨b,cells,ty,rfl,rfl,hb,hs,hwf,hx⟩
  ·simp at hi;omega
  have hne:vb≠b:=by
   intro e;subst e;simp at hn
  have hb':b<w.heap.size:=(Array.getElem?_eq_some_iff.1 hb).1;have hvb':vb<w.heap.size:=(Array.getElem?_eq_some_iff.1 hvb).1;have hcat:tvs (ts.take i++[t]++ts.drop i)=(tvs ts).take (i*4)++tvs [t]++(tvs ts).drop (i*4):=by rw[zes,zes,qi0,qkr]
  have hxl:=zgr ts;by_cases hroom:ts.length+1<=c
  ·refine(qsn w b ts.length c i vb vc cells vcells ty vty (tvs ts) (tvs [t]) hne hb hs hx Zi hroom q2 hl hvb hvx hnl (zie _) (zie _)).mono ?_;rintro e w' ⟨rfl,A1,hA1,rfl⟩;have hg1:(w.drew.setRow b A1).heap[b]?=some (.cells A1 ty (0,0)):=setRow_heap w.drew b cells A1 ty (0,0) hb;have hdl:((tvs ts).drop (i*4)).length=(ts.length-i)*4:=by rw[Qm,hxl];omega
   have hA1s:A1.size=c*4:=by
    rw[hA1];simp only[J3,Qb,Qc,Kg,hdl,Qm,hs];omega
   have hA1t:A1.toList=cells.toList.take ((i+1)*4)++(tvs ts).drop (i*4)++cells.toList.drop ((i+1)*4+((tvs ts).drop (i*4)).length):=by rw[hA1]
   have h4:A1.toList.take (i*4)=(tvs ts).take (i*4):=by
    rw[hA1t,Kl,Yo (by rw[Qc,Kg,hs];omega),List.take_take,K7 Zi,<-hx,List.take_take,K7 Zi]
   have h5:(A1.toList.drop (i*4+(tvs [t]).length)).take ((ts.length-i)*4)=(tvs ts).drop (i*4):=by
    rw[hnl,hA1t,Kl,List.drop_left' (by rw[Qc,Kg,hs];omega),Yw hdl]
   refine⟨[_],[b],_,rfl,fin _ b c _ ty hwf hroom q2 (setRow_heap _ b A1 _ ty (0,0) hg1) ?_ ?_,by simp,λx hx=>Or.inl (by rw[Qv.1 hx];simp),⟨rfl,rfl,rfl,?_,λk hk=>?_⟩⟩
   ·simp only[J3,Qb,Qc,Kg,Qm,hA1s,hnl];omega
   ·rw[hcat];simp only;rw[h4,List.take_append,Ql (by rw[Qb,Qc,hxl,hnl];omega)]
    congr 1
    rw[Qb,Qc,hxl,hnl,K7 Zi,<-h5]
    congr 1
    omega
   ·rw[size_setRow,size_setRow];exact Qp _
   ·have hkb:k≠b:=λe=>hk.2 (by rw[e];simp);rw[setRow_other _ b k _ hkb,setRow_other _ b k _ hkb];rfl
  ·refine(qso w b ts.length c i vb vc cells vcells ty vty (tvs ts) (tvs [t]) hb hs hx Zi q1 Zi hl hvb hvx hnl (zie _) (zie _)).mono ?_;rintro e w' ⟨G,cells',k1,k2,rfl,k3,k4,k5,bel⟩;exact⟨[_],[w.heap.size],_,rfl,fin w' w.heap.size G cells' _ hwf k1 k2 k3 k4 (by rw[k5,hcat]),by simp,λx hx=>Or.inr (by rw[Qv.1 hx];exact Qp _),⟨bel.os,bel.tape,bel.output,bel.size,λk hk=>bel.block k hk.1⟩⟩
end
section
open Go.RowKit
variable {P:Program}
def nilC:C->C
 | .nl _=>.t (.vs none 0 0)
 | c=>c
theorem CR.nilC {σ:St}{g:Gh}{w:World}{c:C}{v:Value}(h:CR σ g w c v):CR σ g w (nilC c) v:=by
 cases c with
 | nl z =>
  have h:v=.slice none 0 0:=h;subst h;show zai _ _ _ _
  unfold zai;rfl
 | _=>exact h
theorem CRs.nilC {σ:St}{g:Gh}{w:World}:∀{cs:List C}{vs:List Value},CRs σ g w cs vs->CRs σ g w (cs.map nilC) vs
 | [],_,h=>h
 | c::cs,_,h=>by
  obtain⟨v,vs',rfl,h1,h2⟩:=h;exact⟨v,vs',rfl,h1.nilC,CRs.nilC h2⟩
theorem Wk.nilB {σ σ':St}(b:Nat)(k:zaq (σ.bx b) λcs=>Wk { sl:=σ.sl,bx:=upd σ.bx b (some (cs.map nilC)),ev:=σ.ev } σ'):Wk σ σ':=by
 obtain⟨cs,hb,k⟩:=zao k
 refine Wk.trans (λn0 N g a w hR=>⟨g,?_,rfl,rfl⟩) k
 have hbn:σ.bx b≠none:=by rw[hb];simp
 have hne:∀k,σ.bx k≠none->(upd σ.bx b (some (cs.map Go.Proofs.YtmhbmpbgpjljeaaGreat.nilC))) k≠none:=λk hk=>by unfold upd;split<;>simp_all
 have hne':∀k,(upd σ.bx b (some (cs.map Go.Proofs.YtmhbmpbgpjljeaaGreat.nilC))) k≠none->σ.bx k≠none:=λk hk=>by unfold upd at hk;split at hk<;>simp_all
 have m:Mv σ { sl:=σ.sl,bx:=upd σ.bx b (some (cs.map Go.Proofs.YtmhbmpbgpjljeaaGreat.nilC)),ev:=σ.ev } g g w w :=
  ⟨λ_ _=>rfl,λk hf=>⟨λj hj=>hf.1 j (hne' j hj),hf.2.1,hf.2.2.1,hf.2.2.2⟩,λk hk=>⟨rfl,hne k hk⟩,λe _ he=>⟨he,rfl⟩,λb hf=>hf.2⟩
 refine⟨hR.defers,hR.size,hR.anew,λi=>m.vr (hR.slots i),λq ds hk=>?_,λk hk=>hR.base k (hne' k hk),λk k' h1 h2=>hR.inj k k' (hne' k h1) (hne' k' h2),λe z he ho=>m.evr (hR.evs e z he ho) λq hq=>rfl,λe z he ho=>⟨m.rep (hR.offs e z he ho).1,(hR.offs e z he ho).2⟩,hR.slc,hR.ebase,hR.etop,hR.nodup,hR.apart,λe k he hk=>hR.ebx e k he (hne' k hk)⟩
 by_cases hkb:q=b
 ·rw[hkb]at hk⊢;simp only[zah]at hk;cases hk;obtain⟨vs,ty,j1,j2⟩:=hR.boxes b cs hb;exact⟨vs,ty,j1,m.crs j2.nilC⟩
 ·simp only[zan _ _ hkb]at hk;obtain⟨vs',ty',j1,j2⟩:=hR.boxes q ds hk;exact⟨vs',ty',j1,m.crs j2⟩
theorem qqm (z:Nat):nilC (.nl z)=.t (.vs none 0 0):=rfl
theorem nilC_t (x:T):nilC (.t x)=.t x:=rfl
theorem zd0 {ks:List Fr}{Q:Exit->St->Prop}{σ σ':St}{i:Nat}{ops:Array Oper}(h:Wk σ σ')(k:ex P (.region i ops true) ks Q σ'):ex P (.region i ops true) ks Q σ:=zdm.pre h k
attribute [go_sem] qqm nilC_t
end
section
open Go.RowKit
abbrev sgX (z:List Tb×Bool):Bxs:=[[(true,tbS z.1),(true,.bool z.2)]]
abbrev qbb (t:Tm)(p:Bool)(z:List Tb×Bool):Prop:=PC Tryz.prog 93 (sgX z) [.p 0,.d false (tmD t),.d false (bD p)] (sgX ((syP t p).foldl stB z)) []
theorem zek {α β:Type}(f:α->List β)(xs:List α)(k:Nat)(h:k<xs.length):((xs.take (k+1)).map f).flatten=((xs.take k).map f).flatten++f xs[k]:=by
 rw[Qg h,Qq,Kq];simp
theorem qer (ts:List Tb)(fl:Bool)(x:Tb):stB (ts,fl) x=if fdB ts x=true then (ts,(fl||decide (3<x.ar))||((ts.getD (plB ts x) x).pred != x.pred))else (ts.take (plB ts x)++[x]++ts.drop (plB ts x),fl||decide (3<x.ar)):=rfl
theorem qqh (t:Tm)(hup:upT t=true)(hw:t.wt<=1048576)(H:∀a∈t.args,∀z:List Tb×Bool,zgo z.1->z.1.length+a.nodes<=1048576->qbb a false z)(p:Bool)(z:List Tb×Bool)(hs:zgo z.1)(hz:z.1.length+t.nodes<=1048576):qbb t p z:=by
 have hN:=t.nodes_eq
 have hW:=t.wt_eq
 rw[zm6]at hup
 simp only[Qd,Q0]at hup
 obtain⟨⟨hu1,hu2⟩,hu3⟩:=hup
 have hu2:zh2 (t.name.getD 0 0)=zax t.name:=by simpa using hu2
 have HE:=zfp t
 have HV:=zpu t hu1
 rw[hu2]at HV
 have hsy:syP t p=(t.args.map suP).flatten++zte t.name t.args.length p:=rfl
 unfold qbb
 rw[hsy,K0]
 obtain⟨Y,hY⟩:∃Y:Nat->List Tb×Bool,∀k,Y k=((t.args.take k).map suP).flatten.foldl stB z:=⟨_,λ_=>rfl⟩
 have hY0:Y 0=z:=by rw[hY];rfl
 have hsl:∀k,zgo (Y k).1:=λk=>by rw[hY];exact zfx _ hs
 have hll:∀k,(Y k).1.length<=z.1.length+zj3 Tm.nodes t.args k:=λk=>by
  rw[hY];have h1:=zhe (((t.args.take k).map suP).flatten) z;have h2:(((t.args.take k).map suP).flatten).length<=zj3 Tm.nodes t.args k:=by
   unfold zj3;rw[List.length_flatten,Jj];have:∀l:List Tm,(l.map (List.length∘suP)).sum<=(l.map Tm.nodes).sum:=λl=>by
    induction l with
    | nil=>simp
    | cons a l ih=>have:=qf3 a;simp only[Qk,Jd,Function.comp];omega
   exact this _
  omega
 have hYn:(Y t.args.length)=((t.args.map suP).flatten).foldl stB z:=by rw[hY,K2]
 have hYs:∀k (h:k<t.args.length),Y (k+1)=(suP t.args[k]).foldl stB (Y k):=λk h=>by
  rw[hY,hY,zek suP t.args k h,K0]
 rw[<-hYn]
 simp only[tmD,zaa t]at HE HV⊢
 refine PC_of Tryz.call93 Tryz.func93 rfl Zh (by simp only[Qj,Qo,Tryz.ntmps93];omega) (by simp only[Tryz.ntmps93];omega) rfl rfl (by simp[zb6,T.isPin,AF.ds,bxA]) (by simp[gFS,T.fs,T.flat,AF.ds,bxA]) rfl ?_
 simp -implicitDefEqProofs only[go_sem,Tryz.results93]
 refine zad (λk:Nat=>hd [(0,.one (.bx 1000000 0)),(1000000,.one (.bx 1000000 0)),(2,.one (.t (.bool p))),(4,.one (.bx 4 0)),(12,.one (.rn (tmS t.args))),(13,vI t.args.length),(14,vI k)] [(4,[.t (.str t.name),.rn (tmS t.args)]),(1000000,[.ow 64 0,.t (.bool (Y k).2)])] [(64,⟨true,4,(Y k).1.map tbC,0,true⟩)]) (λk=>k<=t.args.length) (λk=>t.args.length-k) 0 (zab ?_) (Qy _) ?_
 ·exact Zl hY0
 ·intro k hk;by_cases hlt:k<t.args.length
  ·have hps:=zbw Tm.nodes t.args k hlt;have hpl:=zcv Tm.nodes t.args (k+1);have hs1:=hsl k;have hl1:=hll k;have hYk:=hYs k hlt;generalize Y k=y at hs1 hl1 hYk⊢;have HC:=H t.args[k] (Qe hlt) y hs1 Zi;unfold qbb at HC;rw[show syP t.args[k] false=suP t.args[k] from(zwz _).symm,<-hYk]at HC;simp only[tmD,zaa t.args[k]]at HC;refine Zm hlt (zaa t.args[k]) ?_;refine znd [0,2,4,12,13,14,1000000] [18,19] [1000000] [] (HC) (by decide) rfl Zg Zg Zg Zg ?_;refine Zj ?_;refine⟨k+1,hlt,Zi,zcn 64 640 ?_⟩;refine Zj ?_;rw[zaf Zi]
  ·have hkn:k=t.args.length:=by omega
   subst hkn;have hs1:=hsl t.args.length;have hl1:=hll t.args.length;have hpl:=zcv Tm.nodes t.args t.args.length;generalize Y t.args.length=y at hs1 hl1⊢;obtain⟨ts,fl⟩:=y;simp only at hs1 hl1;unfold zte;cases hE:t.name==[61]
   ·rw[hE]at HE;rw[K5];cases hV:zax t.name
    ·rw[hV]at HV;rw[if_neg (by simp),Ks,Y7];have HS:=zzn ts ⟨t.name,t.args.length,p⟩ Zi (plB ts ⟨t.name,t.args.length,p⟩) (zw4 _ _) (λk h h2=>zww k h h2) (λk h h2=>qoz hs1 k h h2);have hfd:(if h:plB ts ⟨t.name,t.args.length,p⟩<ts.length then zfr ts[plB ts ⟨t.name,t.args.length,p⟩] ⟨t.name,t.args.length,p⟩==0 else false)=fdB ts ⟨t.name,t.args.length,p⟩:=rfl;rw[hfd]at HS;have hple:=zw4 ts ⟨t.name,t.args.length,p⟩;have hfs:=zg9 (ts:=ts) (x:=⟨t.name,t.args.length,p⟩);have hst:=qer ts fl ⟨t.name,t.args.length,p⟩;simp only at hst;have hI:=zzp ts ⟨t.name,t.args.length,p⟩ (plB ts ⟨t.name,t.args.length,p⟩) hple Zi;simp only[tbD,za0]at HS;generalize hplv:plB ts ⟨t.name,t.args.length,p⟩=pl at *;generalize fdB ts ⟨t.name,t.args.length,p⟩=fd at *;refine Xo ?_;refine callF (HE) Zg ?_;refine Zj ?_;refine callF (HV) Zg ?_;refine Zj ?_;obtain⟨fl2,hfl2⟩:∃fl2,fl2=(fl||decide (3<(t.args.length:Int))):=⟨_,rfl⟩;rw[<-hfl2]at hst;refine⟨λhf=>?_,λhf=>?_⟩
     all_goals
      refine zd0 (σ':=hd [(0,.one (.bx 1000000 0)),(1000000,.one (.bx 1000000 0)),(2,.one (.t (.bool p))),(8,.one (.bx 8 0))] [(8,[.t (.str t.name),.t (.int .i64 t.args.length),.t (.bool p),.t (.vs none 0 0)]),(1000000,[.ow 64 0,.t (.bool fl2)])] [(64,⟨true,4,ts.map tbC,0,true⟩)]) (Wk.nilB 8 ?_) ?_
      ·refine Zj ?_;refine zab ?_;simp -implicitDefEqProofs only[go_sem,hfl2,hf,K5,Zc]
     ·refine drawn Zh ?_;refine Zj ?_;refine za1 (HS) Zg ?_;refine Zj ?_;refine⟨Zh,?_⟩;cases fd
      ·rw[if_neg (by simp)]at hst;refine Zj ?_;refine qnq 8 Zh Zh Zh ?_;refine Zj ?_;refine za7 Zg ?_;refine Zj ?_;refine⟨Zh,?_⟩;refine zgv (σ':=hd [(59,.one (.bx 1000000 0)),(63,.one (.ow 64 0)),(64,vI pl),(66,.one (.ow 2112 0)),(1000000,.one (.bx 1000000 0))] [(1000000,[.any,.t (.bool fl2)])] [(64,⟨true,4,ts.map tbC,0,true⟩),(2112,⟨true,4,[[.str t.name,.int .i64 t.args.length,.bool p,.vs none 0 0]],0,true⟩)]) (zab ?_) rfl rfl ?_
       ·exact Zg
       have hI2:GC Tryz.prog 156 [(true,.one (tbS ts)),(false,iD pl),(true,.one (.sl 4 [[.str t.name,.int .i64 t.args.length,.bool p,.vs none 0 0]]))] [.one (tbS (ts.take pl++[⟨t.name,t.args.length,p⟩]++ts.drop pl))]:=hI;refine zei [59,1000000] [63,64,66] [] (hI2) Zg Zg Zg Zg ?_;refine Zj ?_;rw[hst];exact Or.inl ⟨Or.inl rfl,rfl⟩
      ·obtain⟨hp,hc0⟩:=hfs rfl;rw[if_pos rfl]at hst;have hg:ts.getD pl ⟨t.name,t.args.length,p⟩=ts[pl]:=by rw[List.getD_eq_getElem?_getD,List.getElem?_eq_getElem hp];rfl
       rw[hg]at hst;rw[hst];refine Zm hp (za0 ts[pl]) ?_;refine⟨λhb=>?_,λhb=>?_⟩
       ·rw[bne,hb,Zb];exact Or.inl rfl
       ·rw[bne,hb,Bool.or_false];exact Or.inl rfl
     ·refine drawn Zh ?_;refine Zj ?_;refine za1 (HS) Zg ?_;refine Zj ?_;refine⟨Zh,?_⟩;cases fd
      ·rw[if_neg (by simp)]at hst;refine Zj ?_;refine qnq 8 Zh Zh Zh ?_;refine Zj ?_;refine za7 Zg ?_;refine Zj ?_;refine⟨Zh,?_⟩;refine zgv (σ':=hd [(59,.one (.bx 1000000 0)),(63,.one (.ow 64 0)),(64,vI pl),(66,.one (.ow 2112 0)),(1000000,.one (.bx 1000000 0))] [(1000000,[.any,.t (.bool fl2)])] [(64,⟨true,4,ts.map tbC,0,true⟩),(2112,⟨true,4,[[.str t.name,.int .i64 t.args.length,.bool p,.vs none 0 0]],0,true⟩)]) (zab ?_) rfl rfl ?_
       ·exact Zg
       have hI2:GC Tryz.prog 156 [(true,.one (tbS ts)),(false,iD pl),(true,.one (.sl 4 [[.str t.name,.int .i64 t.args.length,.bool p,.vs none 0 0]]))] [.one (tbS (ts.take pl++[⟨t.name,t.args.length,p⟩]++ts.drop pl))]:=hI;refine zei [59,1000000] [63,64,66] [] (hI2) Zg Zg Zg Zg ?_;refine Zj ?_;rw[hst];exact Or.inl ⟨Or.inl rfl,rfl⟩
      ·obtain⟨hp,hc0⟩:=hfs rfl;rw[if_pos rfl]at hst;have hg:ts.getD pl ⟨t.name,t.args.length,p⟩=ts[pl]:=by rw[List.getD_eq_getElem?_getD,List.getElem?_eq_getElem hp];rfl
       rw[hg]at hst;rw[hst];refine Zm hp (za0 ts[pl]) ?_;refine⟨λhb=>?_,λhb=>?_⟩
       ·rw[bne,hb,Zb];exact Or.inl rfl
       ·rw[bne,hb,Bool.or_false];exact Or.inl rfl
    ·rw[hV]at HV;rw[if_pos rfl,Y7];refine Xo ?_;refine callF (HE) Zg ?_;refine Zj ?_;refine callF (HV) Zg ?_;exact Zg
   ·rw[hE]at HE;rw[Zc,if_pos rfl,Y7];refine Xo ?_;refine callF (HE) Zg ?_;exact Zg
theorem term_c:∀t:Tm,upT t=true->t.wt<=1048576->∀(p:Bool)(z:List Tb×Bool),zgo z.1->z.1.length+t.nodes<=1048576->qbb t p z :=
 zbb λn xs ih hup hw p z hs hz=>qqh (.mk n xs) hup hw (λa ha z' hs' hz'=>ih a ha (by
  rw[zm6]at hup;simp only[Qd]at hup
  exact Qr.1 hup.2 a ha) ((Tm.wt_args hw).2 a ha) false z' hs' hz') p z hs hz
end
section
open Go.RowKit
theorem sig1_c (c:Cq)(hw:c.wt<=1048576):FC Tryz.prog 91 [cqD c] [bD (!c.ok)]:=by
 have H:=zcu c hw
 simp only[cqD,zap]at H⊢
 refine zam Tryz.call91 Tryz.func91 rfl Zh (zat Zh) ?_
 simp -implicitDefEqProofs only[go_sem,Tryz.results91]
 refine callF (H) Zg ?_
 exact Zg
theorem zgf {t:Tm}(h:t.atomOk=true):t.nodes<=30:=by
 have hs:zc7 t=true:=by
  unfold Tm.atomOk at h;split at h
  ·simp only[Qd]at h;exact h.1.2
  ·simp only[Qd]at h;have:=h.2;unfold Tm.good at this;rw[Qd]at this;exact this.1
 unfold zc7 at hs
 simp only[Qd,Q0]at hs
 exact hs.1
theorem qs0 (t:Tm)(p:Bool):(syP t p).length<=t.nodes:=by
 have h:=qf3 t
 rw[zwz]at h
 have e:(zte t.name t.args.length p).length=(zte t.name t.args.length false).length:=by unfold zte;split<;>rfl
 unfold syP
 rw[Qb]at h⊢
 omega
theorem zhg {α β:Type}(f:α->List β)(B:Nat):∀l:List α,(∀a∈l,(f a).length<=B)->((l.map f).flatten).length<=l.length*B
 | [],_=>by simp
 | a::l,h=>by
  have h1:=zhg f B l λx hx=>h x (by simp[hx]);have h2:=h a (by simp);rw[Qk,Q5,Qb,Qj,Km];omega
theorem qhb {c:Cq}(h:c.ok=true)(j:Nat):(qmu (c.lits.take j)).length<=240:=by
 have h1:=zhg (λl:Li=>syP l.atom true) 30 (c.lits.take j) λl hl=>Q8 (qs0 _ _) (zgf (zcp h l (Jt hl)))
 have h2:=zfq h
 have h3:(c.lits.take j).length<=8:=by rw[Qc];omega
 unfold qmu
 have:(c.lits.take j).length*30<=8*30:=Kz _ h3
 omega
theorem qsv {cs:List Cq}(h:∀c∈cs,c.ok=true)(k:Nat):(zji (cs.take k)).length<=cs.length*240:=by
 have h1:=zhg (λc:Cq=>qmu c.lits) 240 (cs.take k) λc hc=>by
  have:=qhb (h c (Jt hc)) c.lits.length
  rwa [K2]at this
 have h3:(cs.take k).length<=cs.length:=by rw[Qc];omega
 unfold zji
 have:(cs.take k).length*240<=cs.length*240:=Kz _ h3
 omega
theorem qgi (cs:List Cq)(hw:zow cs<=1048576):FC Tryz.prog 44 [.one (cqS cs)] [.one (tbS (zp4 cs)),bD (zcy cs)]:=by
 have hcw:=λc (h:c∈cs)=>Q8 (zwt h) hw
 have HF:=zck cs (λc=>!c.ok) 91 [] λc hc=>sig1_c c (hcw c hc)
 have hv1:zcy cs=(decide (cs.length<=30)&&cs.all Cq.ok&&(!(sgB (zji cs)).2&&decide ((sgB (zji cs)).1.length<=12))):=rfl
 have hv2:zp4 cs=if zcy cs=true then (sgB (zji cs)).1 else []:=rfl
 have hln:cs.length<=1048576:=by have h2:zow cs=cs.length+(cs.map Cq.wt).sum:=rfl;omega
 by_cases h40:cs.length<=30
 ·have h40':((30:Int)<(cs.length:Int))=False:=eq_false Zi;rw[Ku h40,Q2]at hv1;cases hg:cs.all Cq.ok
  ·have hany:(cs.any λc=>!c.ok)=true:=by
    rw[Ju];rw[J9]at hg;obtain⟨c,h1,h2⟩:=hg;exact⟨c,h1,by simpa using h2⟩
   rw[hg,Q4]at hv1;rw[hany]at HF;rw[hv1,if_neg (by simp)]at hv2;rw[hv2,hv1];refine zcc Tryz.call44 Tryz.func44 rfl Zh (zat Zh) ?_;simp -implicitDefEqProofs only[go_sem,Tryz.results44,h40'];refine callF (HF) Zg ?_;exact Zg
  ·have hany:(cs.any λc=>!c.ok)=false:=by
    rw[Yh];rw[Qr]at hg;intro c hc;simp[hg c hc]
   rw[hany]at HF;rw[hg,Q2]at hv1;have hok:=λc (hc:c∈cs)=>Qr.1 hg c hc;obtain⟨Y,hY⟩:∃Y:Nat->List Tb×Bool,∀k,Y k=(zji (cs.take k)).foldl stB ([],false):=⟨_,λ_=>rfl⟩;have hY0:Y 0=([],false):=by rw[hY];rfl
   have hYn:Y cs.length=sgB (zji cs):=by rw[hY,K2];rfl
   have hYs:∀k,zgo (Y k).1:=λk=>by rw[hY];exact zfx _ List.Pairwise.nil
   have hYl:∀k,(Y k).1.length<=7200:=λk=>by
    rw[hY];have h1:=zhe (zji (cs.take k)) ([],false);have h2:=qsv hok k;simp only[Qo]at h1;omega
   have hYk:∀k (h:k<cs.length),Y (k+1)=(qmu cs[k].lits).foldl stB (Y k):=λk h=>by
    rw[hY,hY];unfold zji;rw[zek (λc:Cq=>qmu c.lits) cs k h,K0]
   rw[<-hYn]at hv1 hv2;refine zcc Tryz.call44 Tryz.func44 rfl Zh (zat Zh) ?_;simp -implicitDefEqProofs only[go_sem,Tryz.results44,h40'];refine callF (HF) Zg ?_;refine Zj ?_;refine zad (λk:Nat=>hd [(4,.one (.bx 17 0)),(18,.one (.rn (cqS cs))),(19,vI cs.length),(20,vI k)] [(17,[.ow 3000 0,.t (.bool (Y k).2)])] [(3000,⟨true,4,(Y k).1.map tbC,0,true⟩)]) (λk=>k<=cs.length) (λk=>cs.length-k) 0 (zab ?_) (Qy _) ?_
   ·exact Zl hY0
   ·intro k hk;by_cases hlt:k<cs.length
    ·have hYk:=hYk k hlt;have hs1:=hYs k;have hl1:=hYl k;have hsyl:=λj=>qhb (hok _ (Qe hlt)) j;have hat:=λl (h:l∈cs[k].lits)=>zlb (zcp (hok _ (Qe hlt)) l h);have hnd:=λl (h:l∈cs[k].lits)=>zgf (zcp (hok _ (Qe hlt)) l h);have hlw:=λl (h:l∈cs[k].lits)=>Q8 (zf1 h) (hcw _ (Qe hlt));have hll:cs[k].lits.length<=8:=zfq (hok _ (Qe hlt));refine Xt ?_;generalize cs[k].lits=ls at hYk hsyl hat hnd hlw hll⊢;obtain⟨Z,hZ⟩:∃Z:Nat->List Tb×Bool,∀j,Z j=(qmu (ls.take j)).foldl stB (Y k):=⟨_,λ_=>rfl⟩;have hZ0:Z 0=Y k:=by rw[hZ];rfl
     have hZn:Z ls.length=Y (k+1):=by rw[hZ,K2,hYk]
     have hZs:∀j,zgo (Z j).1:=λj=>by rw[hZ];exact zfx _ hs1
     have hZl:∀j,(Z j).1.length<=7440:=λj=>by
      rw[hZ];have h1:=zhe (qmu (ls.take j)) (Y k);have h2:=hsyl j;omega
     have hZj:∀j (h:j<ls.length),Z (j+1)=(syP ls[j].atom true).foldl stB (Z j):=λj h=>by
      rw[hZ,hZ];unfold qmu;rw[zek (λl:Li=>syP l.atom true) ls j h,K0]
     refine zad (λj:Nat=>hd [(4,.one (.bx 17 0)),(18,.one (.rn (cqS cs))),(19,vI cs.length),(20,vI k),(25,.one (.rn (liS ls))),(26,vI ls.length),(27,vI j)] [(17,[.ow 3000 0,.t (.bool (Z j).2)])] [(3000,⟨true,4,(Z j).1.map tbC,0,true⟩)]) (λj=>j<=ls.length) (λj=>ls.length-j) 0 (zab ?_) (Qy _) ?_
     ·exact Zl hZ0
     ·intro j hj;by_cases hlj:j<ls.length
      ·have hlj2:=hlw _ (Qe hlj);have hlj3:=ls[j].wt_eq;have HC:=term_c ls[j].atom (hat _ (Qe hlj)) Zi true (Z j) (hZs j) (by have:=hZl j;have:=hnd _ (Qe hlj);omega);unfold qbb at HC;rw[<-hZj j hlj]at HC;simp only[tmD,zaa ls[j].atom]at HC;refine Zm hlj (zaj ls[j]) ?_;refine znd [4,18,19,20,25,26,27] [31,33] [17] [] (HC) (by decide) rfl Zg Zg Zg Zg ?_;refine Zj ?_;refine⟨j+1,hlj,Zi,zcn 3000 1088 ?_⟩;refine Zj ?_;rw[zaf Zi]
      ·have hjn:j=ls.length:=by omega
       subst hjn;rw[hZn];refine Zk hlj ?_;refine⟨k+1,hlt,Zi,zab ?_⟩;refine Zj ?_;rw[zaf Zi]
    ·have hkn:k=cs.length:=by omega
     subst hkn;have hl1:=hYl cs.length;generalize Y cs.length=y at hv1 hv2 hl1⊢;obtain⟨ts,fl⟩:=y;simp only at hv1 hv2 hl1;cases fl
     ·by_cases h12:ts.length<=12
      ·have h12':((12:Int)<(ts.length:Int))=False:=eq_false Zi;have hv1:zcy cs=true:=by rw[hv1,Ku h12];rfl
       rw[hv1,if_pos rfl]at hv2;rw[hv2,hv1];exact Z0 hlt h12'
      ·have h12':((12:Int)<(ts.length:Int))=True:=eq_true Zi;have hv1:zcy cs=false:=by rw[hv1,Kv h12];rfl
       rw[hv1,if_neg (by simp)]at hv2;rw[hv2,hv1];exact Z0 hlt h12'
     ·have hv1:zcy cs=false:=by rw[hv1];rfl
      rw[hv1,if_neg (by simp)]at hv2;rw[hv2,hv1];exact Zl hlt
 ·have h40':((30:Int)<(cs.length:Int))=True:=eq_true Zi;rw[Kv h40,Q4]at hv1;rw[hv1,if_neg (by simp)]at hv2;rw[hv2,hv1];refine zcc Tryz.call44 Tryz.func44 rfl Zh (zat Zh) ?_;simp -implicitDefEqProofs only[go_sem,Tryz.results44,h40']
end
end Go.Proofs.YtmhbmpbgpjljeaaGreat
