/-
  The walk over plain data, and contracts of functions of the program and of its laws.
  Conditions: those that each theorem names.
-/
import Derived.Test.YtmhbmpbgpjljeaaGreatQL9
import Derived.Test.YtmhbmpbgpjljeaaGreatQL4
import Derived.Test.YtmhbmpbgpjljeaaGreatQL6
import Derived.Test.YtmhbmpbgpjljeaaGreatQL5
import Derived.Lib.SliceRun
import Derived.Deep.LoopGhost
namespace Go.Proofs.YtmhbmpbgpjljeaaGreat
set_option linter.unusedSimpArgs false
set_option linter.unusedVariables false
set_option linter.unusedSectionVars false
set_option maxRecDepth 4000
set_option maxHeartbeats 8000000
section
open Go.RowKit
theorem ltB_eq (a b:Tb):ltB a b=(Op.bytesLess a.name b.name||(a.name==b.name&&decide (a.ar<b.ar))):=by
 unfold ltB zfr zl9
 cases h1:Op.bytesLess a.name b.name
 ·cases h2:a.name==b.name
  ·simp[orE]
  ·simp only[Qz,if_false,if_true,orE,K5,Q2]
   congr 1
   unfold zmo;rw[eq_iff_iff];split
   ·rename_i h;exact⟨λ_=>h,λ_=>by omega⟩
   ·rename_i h;split
    ·exact⟨λh'=>by omega,λh'=>absurd h' h⟩
    ·exact⟨λh'=>by omega,λh'=>absurd h' h⟩
 ·simp[orE]
theorem zot {x y:Tb}:qon x.name x.ar y=true↔zfr y x=0:=by
 unfold qon
 rw[zkv,Qd,Jo,Jo]
theorem idx_fd {ts:List Tb}(hs:zgo ts)(x:Tb):zew ts (qon x.name x.ar)=if fdB ts x=true then ((plB ts x:Nat):Int)else -1:=by
 by_cases hf:fdB ts x=true
 ·obtain⟨hp,h0⟩:=zg9 hf;rw[if_pos hf];refine zbn hp (λy hy=>?_) (zot.2 h0);obtain⟨k,hk,rfl⟩:=Js hy;rw[Qc]at hk;rw[Yz];have:=zww (ts:=ts) (x:=x) k Zi Zi;cases h:qon x.name x.ar (ts[k]'Zi)
  ·rfl
  ·have:=zot.1 h;omega
 ·rw[if_neg hf];refine zb4 λy hy=>?_;cases h:qon x.name x.ar y
  ·rfl
  ·exact absurd ((zui hs).2 ⟨y,hy,zot.1 h⟩) hf
theorem plB_is {ts:List Tb}(hs:zgo ts){x:Tb}{k:Nat}(hk:k<=ts.length)(h1:∀y∈ts.take k,ltB y x=true)(h2:∀h:k<ts.length,ltB ts[k] x=false):plB ts x=k:=by
 unfold plB
 have:=(zjy (p:=λy=>ltB y x) hk h1 h2).1
 rw[this,Qc]
 omega
abbrev zv2 (t:Tm)(p:Bool)(ts:List Tb):Prop:=RC Tryz.prog 85 [.one (tbS ts),tmD t,bD p] [.one (tbS (trB ts (syS t p)).1),bD (trB ts (syS t p)).2]
theorem qca:∀t:Tm,(suS t).length<=t.nodes:=zbb λn xs ih=>by
 rw[zep,Tm.nodes_eq]
 change (if zax n=true then []else zox n xs.length false++(xs.map suS).flatten).length<=1+(xs.map Tm.nodes).sum
 have h1:((xs.map suS).flatten).length<=(xs.map Tm.nodes).sum:=by
  rw[List.length_flatten,Jj];revert ih;induction xs with
  | nil=>intro _;simp
  | cons a xs ih2 =>
   intro ih;have:=ih a (by simp);have:=ih2 λx hx=>ih x (by simp[hx]);simp only[Qk,Jd,Function.comp];omega
 have h2:(zox n xs.length false).length<=1:=by unfold zox;split<;>simp
 split
 ·simp
 ·rw[Qb];omega
theorem qgp (t:Tm)(hw:t.wt<=1048576)(H:∀a∈t.args,∀ts:List Tb,zgo ts->ts.length+a.nodes<=1048576->zv2 a false ts)(p:Bool)(ts:List Tb)(hs:zgo ts)(hz:ts.length+t.nodes<=1048576):zv2 t p ts:=by
 have hN:=t.nodes_eq
 have hW:=t.wt_eq
 have HV:=zh6 t.name
 unfold zv2
 have hsy:syS t p=if zax t.name=true then []else zox t.name t.args.length p++(t.args.map suS).flatten:=rfl
 have HF:=qfq ts Zi t.name t.args.length
 have hix:=idx_fd hs ⟨t.name,t.args.length,p⟩
 simp only at hix
 rw[hix]at HF
 have hfs:=zg9 (ts:=ts) (x:=⟨t.name,t.args.length,p⟩)
 have hst:=qer ts false ⟨t.name,t.args.length,p⟩
 simp only[K5]at hst
 have hpl:=zw4 ts ⟨t.name,t.args.length,p⟩
 have hple:=fun(k:Nat) (h1:k<=ts.length) h2 h3=>plB_is hs (x:=⟨t.name,t.args.length,p⟩) (k:=k) h1 h2 h3
 have hlb:=λa:Tb=>ltB_eq a ⟨t.name,t.args.length,p⟩
 have hto:trB ts [⟨t.name,t.args.length,p⟩]=if(stB (ts,false) ⟨t.name,t.args.length,p⟩).2=true then (ts,false)else ((stB (ts,false) ⟨t.name,t.args.length,p⟩).1,true):=rfl
 have hsrt:=zps (z:=(ts,false)) hs ⟨t.name,t.args.length,p⟩
 have hsln:=(zvp (ts,false) ⟨t.name,t.args.length,p⟩).1
 have key:∀ts1:List Tb,zgo ts1->ts1.length<=ts.length+1->∃X:Nat->List Tb×Bool,X 0=(ts1,true)/\(∀j (h:j<t.args.length),(X j).2=true->X (j+1)=trB (X j).1 (suS t.args[j]))/\(∀j,zgo (X j).1)/\(∀j,(X j).1.length<=ts.length+1+zj3 Tm.nodes t.args j)/\X t.args.length=trB ts1 (t.args.map suS).flatten/\(∀j,(X j).2=false->trB ts1 (t.args.map suS).flatten=X j):=λts1 h1 h2=>by
  refine⟨λj=>trB ts1 ((t.args.take j).map suS).flatten,rfl,λj h hok=>?_,λj=>zp0 _ h1,λj=>?_,by simp only[K2],λj hf=>?_⟩
  ·simp only;rw[zek suS t.args j h,zcf,if_pos hok]
  ·have k1:=zva (((t.args.take j).map suS).flatten) ts1;have k2:(((t.args.take j).map suS).flatten).length<=zj3 Tm.nodes t.args j:=by
    unfold zj3;rw[List.length_flatten,Jj];have:∀l:List Tm,(l.map (List.length∘suS)).sum<=(l.map Tm.nodes).sum:=λl=>by
     induction l with
     | nil=>simp
     | cons a l ih=>have:=qca a;simp only[Qk,Jd,Function.comp];omega
    exact this _
   simp only;omega
  ·have e:(t.args.map suS).flatten=((t.args.take j).map suS).flatten++((t.args.drop j).map suS).flatten:=by
    rw[<-Kq,<-Qq,Ke]
   rw[e,zcf,if_neg (by rw[hf];simp)]
 simp only[tmD,zaa t]
 cases hV:zax t.name
 ·rw[hV]at HV;rw[hV,if_neg (by simp)]at hsy;have hown:zox t.name t.args.length p=if(p&&(t.name==[61]))=true then []else [⟨t.name,t.args.length,p⟩]:=rfl
  cases hb:p&&(t.name==[61])
  ·rw[hb,if_neg (by simp)]at hown;rw[hsy,zcf,hown,hto];have hc:∀b:Prop,(p=false\/(p=true/\(t.name==[61])=false)->b)->b:=λb h=>h (by cases p;exact Or.inl rfl;rw[Q2]at hb;exact Or.inr ⟨rfl,hb⟩);generalize hplv:plB ts ⟨t.name,t.args.length,p⟩=pl at *;cases hfd:fdB ts ⟨t.name,t.args.length,p⟩
   ·rw[hfd,if_neg (by simp)]at hst HF;rw[hst]at hsrt hsln⊢;simp only at hsrt hsln⊢;by_cases h3:3<(t.args.length:Int)
    ·simp only[Ku h3,Qz,if_false,if_true];refine hc _ λhcp=>?_;rcases hcp with rfl|⟨rfl,hne⟩
     ·refine zbs Tryz.call85 Tryz.func85 rfl Zh (zat Zh) ?_;refine Z4 ?_;refine callF (HV) Zg ?_;refine Zj ?_;refine callF (HF) (Zl h3) ?_;exact Zl h3
     ·refine zbs Tryz.call85 Tryz.func85 rfl Zh (zat Zh) ?_;refine Z4 ?_;refine callF (HV) (Zl hne) ?_;refine Zk hne ?_;refine callF (HF) (Zl h3) ?_;exact Zl h3
    ·have h3':(3<(t.args.length:Int))=False:=eq_false h3;simp only[Kv h3,Qz,if_false,if_true];obtain⟨X,hX0,hXs,hXr,hXl,hXn,hXf⟩:=key _ hsrt hsln;rw[<-hXn]at hXf⊢;refine hc _ λhcp=>?_;have go:(rcx:Bool)->True:=λ_=>trivial;rcases hcp with rfl|⟨rfl,hne⟩
     all_goals
      refine zbs Tryz.call85 Tryz.func85 rfl Zh (zat Zh) ?_;simp -implicitDefEqProofs only[go_sem,Tryz.results85]
     ·refine callF (HV) Zg ?_;refine Zj ?_;refine callF (HF) (Zl h3') ?_;refine Zk h3' ?_;refine zad (λk:Nat=>hd [(0,vT (tbS ts)),(2,.one (.t (.bool false))),(4,.one (.bx 4 0)),(10,vI k)] [(4,[.t (.str t.name),.t (tmS t.args)])] []) (λk=>k<=ts.length/\∀y∈ts.take k,ltB y ⟨t.name,t.args.length,false⟩=true) (λk=>ts.length-k) 0 (zab ?_) ⟨Qy _,by simp⟩ ?_
      ·exact Zg
      ·intro k ⟨hk,hr⟩;have hbk:=λh:k<ts.length=>hlb ts[k];have hnx:∀h:k<ts.length,ltB ts[k] ⟨t.name,t.args.length,false⟩=true->∀y∈ts.take (k+1),ltB y ⟨t.name,t.args.length,false⟩=true:=λh hb y hy=>by
        rw[Qg h]at hy;rcases Qt.1 hy with hy|hy
        ·exact hr y hy
        ·rw[Qv.1 hy];exact hb
       have hm1:min k ts.length<=4294967296:=by omega
       have hm2:min k ts.length<=4294967295:=by omega
       have hm3:min k ts.length+1+(ts.length-k)<=4294967296:=by omega
       by_cases hlt:k<ts.length
       ·have hbk:=hbk hlt;have hnx:=hnx hlt;have hgo:=λhb:ltB ts[k] ⟨t.name,t.args.length,false⟩=false=>(hple k hk hr λ_=>hb).symm;simp only at hbk;refine Zj ?_;refine drawn Zh ?_;cases h1:Op.bytesLess ts[k].name t.name
        ·cases h2:(ts[k].name==t.name)
         ·rw[h1,h2,K5,Q4]at hbk;have hpk:=hgo hbk;subst hpk;refine Zy hlt (za0 ts[k]) h1 h2 ?_;refine⟨Zh,?_⟩;refine zd0 (σ':=hd [(0,vT (tbS ts)),(10,vI k),(4,.one (.bx 4 0)),(11,.one (.bx 11 0))] [(4,[.t (.str t.name),.t (tmS t.args)]),(11,[.t (.str t.name),.t (.int .i64 t.args.length),.t (.bool false),.t (.vs none 0 0)])] []) (Wk.nilB 11 ?_) ?_
          ·refine Zj ?_;refine zab ?_;exact Zg
          refine drawn Zh ?_;refine Zk hk ?_;refine zbi Xp ?_;refine Zk hk ?_;refine zcx false Xq ?_;refine Xr ?_;refine zbi Xp ?_;refine Zk hk ?_;refine zcx false Xq ?_;refine Xr ?_;refine zcx false Xq ?_;refine Xr ?_;refine⟨Zh,?_⟩;refine zad (λj:Nat=>hd [(0,vT (tbS (X j).1)),(4,.one (.bx 4 0)),(12,vI j)] [(4,[.t (.str t.name),.t (tmS t.args)])] []) (λj=>j<=t.args.length/\(X j).2=true) (λj=>t.args.length-j) 0 (Wk.fsO 3040 ?_) ⟨Qy _,by rw[hX0]⟩ ?_
          ·refine Zk hX0 ?_;refine zab ?_;refine Zk hX0 ?_;show T.sl 4 _=T.sl 4 (List.map tbC _)
           rw[Qq,Qq,Jm,Yc];rfl
          ·intro j ⟨hj,hokj⟩;by_cases hlj:j<t.args.length
           ·have hXj:=hXs j hlj hokj;have HC:=H t.args[j] (Qe hlj) (X j).1 (hXr j) (by have:=hXl j;have:=zbw Tm.nodes t.args j hlj;have:=zcv Tm.nodes t.args (j+1);omega);unfold zv2 at HC;rw[show syS t.args[j] false=suS t.args[j] from(zep _).symm,<-hXj]at HC;simp only[tmD,zaa t.args[j]]at HC;refine Xz ?_;refine callR (HC) Zg ?_;refine Zj ?_;cases hk:(X (j+1)).2
            ·rw[hXf (j+1) hk];exact Xp
            ·refine Zj ?_;refine⟨j+1,⟨hlj,hk⟩,Zi,zab ?_⟩;refine Zj ?_;rw[zaf Zi]
           ·have hjn:j=t.args.length:=by omega
            subst hjn;rw[hXn]at hokj;exact X0
         ·by_cases h4:ts[k].ar<(t.args.length:Int)
          ·rw[h1,h2,Ku h4]at hbk;refine Zz hlt (za0 ts[k]) h1 h2 h4 ?_;refine⟨Zh,?_⟩;refine⟨k+1,⟨hlt,hnx hbk⟩,Zi,zab ?_⟩;refine Zj ?_;rw[zaf Zi]
          ·rw[h1,h2,Kv h4]at hbk;have hpk:=hgo hbk;subst hpk;have h4':(ts[k].ar<(t.args.length:Int))=False:=eq_false h4;refine Zz hlt (za0 ts[k]) h1 h2 h4' ?_;refine⟨Zh,?_⟩;refine zd0 (σ':=hd [(0,vT (tbS ts)),(10,vI k),(4,.one (.bx 4 0)),(11,.one (.bx 11 0))] [(4,[.t (.str t.name),.t (tmS t.args)]),(11,[.t (.str t.name),.t (.int .i64 t.args.length),.t (.bool false),.t (.vs none 0 0)])] []) (Wk.nilB 11 ?_) ?_
           ·refine Zj ?_;refine zab ?_;exact Zg
           refine drawn Zh ?_;refine Zk hk ?_;refine zbi Xp ?_;refine Zk hk ?_;refine zcx false Xq ?_;refine Xr ?_;refine zbi Xp ?_;refine Zk hk ?_;refine zcx false Xq ?_;refine Xr ?_;refine zcx false Xq ?_;refine Xr ?_;refine⟨Zh,?_⟩;refine zad (λj:Nat=>hd [(0,vT (tbS (X j).1)),(4,.one (.bx 4 0)),(12,vI j)] [(4,[.t (.str t.name),.t (tmS t.args)])] []) (λj=>j<=t.args.length/\(X j).2=true) (λj=>t.args.length-j) 0 (Wk.fsO 3040 ?_) ⟨Qy _,by rw[hX0]⟩ ?_
           ·refine Zk hX0 ?_;refine zab ?_;refine Zk hX0 ?_;show T.sl 4 _=T.sl 4 (List.map tbC _)
            rw[Qq,Qq,Jm,Yc];rfl
           ·intro j ⟨hj,hokj⟩;by_cases hlj:j<t.args.length
            ·have hXj:=hXs j hlj hokj;have HC:=H t.args[j] (Qe hlj) (X j).1 (hXr j) (by have:=hXl j;have:=zbw Tm.nodes t.args j hlj;have:=zcv Tm.nodes t.args (j+1);omega);unfold zv2 at HC;rw[show syS t.args[j] false=suS t.args[j] from(zep _).symm,<-hXj]at HC;simp only[tmD,zaa t.args[j]]at HC;refine Xz ?_;refine callR (HC) Zg ?_;refine Zj ?_;cases hk:(X (j+1)).2
             ·rw[hXf (j+1) hk];exact Xp
             ·refine Zj ?_;refine⟨j+1,⟨hlj,hk⟩,Zi,zab ?_⟩;refine Zj ?_;rw[zaf Zi]
            ·have hjn:j=t.args.length:=by omega
             subst hjn;rw[hXn]at hokj;exact X0
        ·rw[h1,Zc]at hbk;refine Zs hlt (za0 ts[k]) h1 ?_;refine⟨Zh,?_⟩;refine⟨k+1,⟨hlt,hnx hbk⟩,Zi,zab ?_⟩;refine Zj ?_;rw[zaf Zi]
       ·have hpk:=(hple k hk hr λh=>absurd h hlt).symm;subst hpk;refine Zj ?_;refine drawn Zh ?_;refine Xo ?_;refine⟨Zh,?_⟩;refine zd0 (σ':=hd [(0,vT (tbS ts)),(10,vI k),(4,.one (.bx 4 0)),(11,.one (.bx 11 0))] [(4,[.t (.str t.name),.t (tmS t.args)]),(11,[.t (.str t.name),.t (.int .i64 t.args.length),.t (.bool false),.t (.vs none 0 0)])] []) (Wk.nilB 11 ?_) ?_
        ·refine Zj ?_;refine zab ?_;exact Zg
        refine drawn Zh ?_;refine Zk hk ?_;refine zbi Xp ?_;refine Zk hk ?_;refine zcx false Xq ?_;refine Xr ?_;refine zbi Xp ?_;refine Zk hk ?_;refine zcx false Xq ?_;refine Xr ?_;refine zcx false Xq ?_;refine Xr ?_;refine⟨Zh,?_⟩;refine zad (λj:Nat=>hd [(0,vT (tbS (X j).1)),(4,.one (.bx 4 0)),(12,vI j)] [(4,[.t (.str t.name),.t (tmS t.args)])] []) (λj=>j<=t.args.length/\(X j).2=true) (λj=>t.args.length-j) 0 (Wk.fsO 3040 ?_) ⟨Qy _,by rw[hX0]⟩ ?_
        ·refine Zk hX0 ?_;refine zab ?_;refine Zk hX0 ?_;show T.sl 4 _=T.sl 4 (List.map tbC _)
         rw[Qq,Qq,Jm,Yc];rfl
        ·intro j ⟨hj,hokj⟩;by_cases hlj:j<t.args.length
         ·have hXj:=hXs j hlj hokj;have HC:=H t.args[j] (Qe hlj) (X j).1 (hXr j) (by have:=hXl j;have:=zbw Tm.nodes t.args j hlj;have:=zcv Tm.nodes t.args (j+1);omega);unfold zv2 at HC;rw[show syS t.args[j] false=suS t.args[j] from(zep _).symm,<-hXj]at HC;simp only[tmD,zaa t.args[j]]at HC;refine Xz ?_;refine callR (HC) Zg ?_;refine Zj ?_;cases hk:(X (j+1)).2
          ·rw[hXf (j+1) hk];exact Xp
          ·refine Zj ?_;refine⟨j+1,⟨hlj,hk⟩,Zi,zab ?_⟩;refine Zj ?_;rw[zaf Zi]
         ·have hjn:j=t.args.length:=by omega
          subst hjn;rw[hXn]at hokj;exact X0
     ·refine callF (HV) (Zl hne) ?_;refine Zk hne ?_;refine callF (HF) (Zl h3') ?_;refine Zk h3' ?_;refine zad (λk:Nat=>hd [(0,vT (tbS ts)),(2,.one (.t (.bool true))),(4,.one (.bx 4 0)),(10,vI k)] [(4,[.t (.str t.name),.t (tmS t.args)])] []) (λk=>k<=ts.length/\∀y∈ts.take k,ltB y ⟨t.name,t.args.length,true⟩=true) (λk=>ts.length-k) 0 (zab ?_) ⟨Qy _,by simp⟩ ?_
      ·exact Zg
      ·intro k ⟨hk,hr⟩;have hbk:=λh:k<ts.length=>hlb ts[k];have hnx:∀h:k<ts.length,ltB ts[k] ⟨t.name,t.args.length,true⟩=true->∀y∈ts.take (k+1),ltB y ⟨t.name,t.args.length,true⟩=true:=λh hb y hy=>by
        rw[Qg h]at hy;rcases Qt.1 hy with hy|hy
        ·exact hr y hy
        ·rw[Qv.1 hy];exact hb
       have hm1:min k ts.length<=4294967296:=by omega
       have hm2:min k ts.length<=4294967295:=by omega
       have hm3:min k ts.length+1+(ts.length-k)<=4294967296:=by omega
       by_cases hlt:k<ts.length
       ·have hbk:=hbk hlt;have hnx:=hnx hlt;have hgo:=λhb:ltB ts[k] ⟨t.name,t.args.length,true⟩=false=>(hple k hk hr λ_=>hb).symm;simp only at hbk;refine Zj ?_;refine drawn Zh ?_;cases h1:Op.bytesLess ts[k].name t.name
        ·cases h2:(ts[k].name==t.name)
         ·rw[h1,h2,K5,Q4]at hbk;have hpk:=hgo hbk;subst hpk;refine Zy hlt (za0 ts[k]) h1 h2 ?_;refine⟨Zh,?_⟩;refine zd0 (σ':=hd [(0,vT (tbS ts)),(10,vI k),(4,.one (.bx 4 0)),(11,.one (.bx 11 0))] [(4,[.t (.str t.name),.t (tmS t.args)]),(11,[.t (.str t.name),.t (.int .i64 t.args.length),.t (.bool true),.t (.vs none 0 0)])] []) (Wk.nilB 11 ?_) ?_
          ·refine Zj ?_;refine zab ?_;exact Zg
          refine drawn Zh ?_;refine Zk hk ?_;refine zbi Xp ?_;refine Zk hk ?_;refine zcx false Xq ?_;refine Xr ?_;refine zbi Xp ?_;refine Zk hk ?_;refine zcx false Xq ?_;refine Xr ?_;refine zcx false Xq ?_;refine Xr ?_;refine⟨Zh,?_⟩;refine zad (λj:Nat=>hd [(0,vT (tbS (X j).1)),(4,.one (.bx 4 0)),(12,vI j)] [(4,[.t (.str t.name),.t (tmS t.args)])] []) (λj=>j<=t.args.length/\(X j).2=true) (λj=>t.args.length-j) 0 (Wk.fsO 3040 ?_) ⟨Qy _,by rw[hX0]⟩ ?_
          ·refine Zk hX0 ?_;refine zab ?_;refine Zk hX0 ?_;show T.sl 4 _=T.sl 4 (List.map tbC _)
           rw[Qq,Qq,Jm,Yc];rfl
          ·intro j ⟨hj,hokj⟩;by_cases hlj:j<t.args.length
           ·have hXj:=hXs j hlj hokj;have HC:=H t.args[j] (Qe hlj) (X j).1 (hXr j) (by have:=hXl j;have:=zbw Tm.nodes t.args j hlj;have:=zcv Tm.nodes t.args (j+1);omega);unfold zv2 at HC;rw[show syS t.args[j] false=suS t.args[j] from(zep _).symm,<-hXj]at HC;simp only[tmD,zaa t.args[j]]at HC;refine Xz ?_;refine callR (HC) Zg ?_;refine Zj ?_;cases hk:(X (j+1)).2
            ·rw[hXf (j+1) hk];exact Xp
            ·refine Zj ?_;refine⟨j+1,⟨hlj,hk⟩,Zi,zab ?_⟩;refine Zj ?_;rw[zaf Zi]
           ·have hjn:j=t.args.length:=by omega
            subst hjn;rw[hXn]at hokj;exact X0
         ·by_cases h4:ts[k].ar<(t.args.length:Int)
          ·rw[h1,h2,Ku h4]at hbk;refine Zz hlt (za0 ts[k]) h1 h2 h4 ?_;refine⟨Zh,?_⟩;refine⟨k+1,⟨hlt,hnx hbk⟩,Zi,zab ?_⟩;refine Zj ?_;rw[zaf Zi]
          ·rw[h1,h2,Kv h4]at hbk;have hpk:=hgo hbk;subst hpk;have h4':(ts[k].ar<(t.args.length:Int))=False:=eq_false h4;refine Zz hlt (za0 ts[k]) h1 h2 h4' ?_;refine⟨Zh,?_⟩;refine zd0 (σ':=hd [(0,vT (tbS ts)),(10,vI k),(4,.one (.bx 4 0)),(11,.one (.bx 11 0))] [(4,[.t (.str t.name),.t (tmS t.args)]),(11,[.t (.str t.name),.t (.int .i64 t.args.length),.t (.bool true),.t (.vs none 0 0)])] []) (Wk.nilB 11 ?_) ?_
           ·refine Zj ?_;refine zab ?_;exact Zg
           refine drawn Zh ?_;refine Zk hk ?_;refine zbi Xp ?_;refine Zk hk ?_;refine zcx false Xq ?_;refine Xr ?_;refine zbi Xp ?_;refine Zk hk ?_;refine zcx false Xq ?_;refine Xr ?_;refine zcx false Xq ?_;refine Xr ?_;refine⟨Zh,?_⟩;refine zad (λj:Nat=>hd [(0,vT (tbS (X j).1)),(4,.one (.bx 4 0)),(12,vI j)] [(4,[.t (.str t.name),.t (tmS t.args)])] []) (λj=>j<=t.args.length/\(X j).2=true) (λj=>t.args.length-j) 0 (Wk.fsO 3040 ?_) ⟨Qy _,by rw[hX0]⟩ ?_
           ·refine Zk hX0 ?_;refine zab ?_;refine Zk hX0 ?_;show T.sl 4 _=T.sl 4 (List.map tbC _)
            rw[Qq,Qq,Jm,Yc];rfl
           ·intro j ⟨hj,hokj⟩;by_cases hlj:j<t.args.length
            ·have hXj:=hXs j hlj hokj;have HC:=H t.args[j] (Qe hlj) (X j).1 (hXr j) (by have:=hXl j;have:=zbw Tm.nodes t.args j hlj;have:=zcv Tm.nodes t.args (j+1);omega);unfold zv2 at HC;rw[show syS t.args[j] false=suS t.args[j] from(zep _).symm,<-hXj]at HC;simp only[tmD,zaa t.args[j]]at HC;refine Xz ?_;refine callR (HC) Zg ?_;refine Zj ?_;cases hk:(X (j+1)).2
             ·rw[hXf (j+1) hk];exact Xp
             ·refine Zj ?_;refine⟨j+1,⟨hlj,hk⟩,Zi,zab ?_⟩;refine Zj ?_;rw[zaf Zi]
            ·have hjn:j=t.args.length:=by omega
             subst hjn;rw[hXn]at hokj;exact X0
        ·rw[h1,Zc]at hbk;refine Zs hlt (za0 ts[k]) h1 ?_;refine⟨Zh,?_⟩;refine⟨k+1,⟨hlt,hnx hbk⟩,Zi,zab ?_⟩;refine Zj ?_;rw[zaf Zi]
       ·have hpk:=(hple k hk hr λh=>absurd h hlt).symm;subst hpk;refine Zj ?_;refine drawn Zh ?_;refine Xo ?_;refine⟨Zh,?_⟩;refine zd0 (σ':=hd [(0,vT (tbS ts)),(10,vI k),(4,.one (.bx 4 0)),(11,.one (.bx 11 0))] [(4,[.t (.str t.name),.t (tmS t.args)]),(11,[.t (.str t.name),.t (.int .i64 t.args.length),.t (.bool true),.t (.vs none 0 0)])] []) (Wk.nilB 11 ?_) ?_
        ·refine Zj ?_;refine zab ?_;exact Zg
        refine drawn Zh ?_;refine Zk hk ?_;refine zbi Xp ?_;refine Zk hk ?_;refine zcx false Xq ?_;refine Xr ?_;refine zbi Xp ?_;refine Zk hk ?_;refine zcx false Xq ?_;refine Xr ?_;refine zcx false Xq ?_;refine Xr ?_;refine⟨Zh,?_⟩;refine zad (λj:Nat=>hd [(0,vT (tbS (X j).1)),(4,.one (.bx 4 0)),(12,vI j)] [(4,[.t (.str t.name),.t (tmS t.args)])] []) (λj=>j<=t.args.length/\(X j).2=true) (λj=>t.args.length-j) 0 (Wk.fsO 3040 ?_) ⟨Qy _,by rw[hX0]⟩ ?_
        ·refine Zk hX0 ?_;refine zab ?_;refine Zk hX0 ?_;show T.sl 4 _=T.sl 4 (List.map tbC _)
         rw[Qq,Qq,Jm,Yc];rfl
        ·intro j ⟨hj,hokj⟩;by_cases hlj:j<t.args.length
         ·have hXj:=hXs j hlj hokj;have HC:=H t.args[j] (Qe hlj) (X j).1 (hXr j) (by have:=hXl j;have:=zbw Tm.nodes t.args j hlj;have:=zcv Tm.nodes t.args (j+1);omega);unfold zv2 at HC;rw[show syS t.args[j] false=suS t.args[j] from(zep _).symm,<-hXj]at HC;simp only[tmD,zaa t.args[j]]at HC;refine Xz ?_;refine callR (HC) Zg ?_;refine Zj ?_;cases hk:(X (j+1)).2
          ·rw[hXf (j+1) hk];exact Xp
          ·refine Zj ?_;refine⟨j+1,⟨hlj,hk⟩,Zi,zab ?_⟩;refine Zj ?_;rw[zaf Zi]
         ·have hjn:j=t.args.length:=by omega
          subst hjn;rw[hXn]at hokj;exact X0
   ·obtain⟨hp,hc0⟩:=hfs hfd;rw[hfd,if_pos rfl]at hst HF;have hg:ts.getD pl ⟨t.name,t.args.length,p⟩=ts[pl]:=by rw[List.getD_eq_getElem?_getD,List.getElem?_eq_getElem hp];rfl
    rw[hg,show(ts[pl].pred != p)=!(ts[pl].pred==p) from rfl]at hst;rw[hst]at hsrt hsln⊢;simp only at hsrt hsln⊢;have hge:((0:Int)<=((pl:Nat):Int))=True:=eq_true Zi;have hl0:(((pl:Nat):Int)<0)=False:=eq_false Zi;refine hc _ λhcp=>?_;cases hq : !(ts[pl].pred==p)
    ·by_cases h3:3<(t.args.length:Int)
     ·simp only[Ku h3,Zc,Qz,if_false,if_true];rcases hcp with rfl|⟨rfl,hne⟩
      ·refine zbs Tryz.call85 Tryz.func85 rfl Zh (zat Zh) ?_;refine Z4 ?_;refine callF (HV) Zg ?_;refine Zj ?_;refine callF (HF) (Z7 hge hp (za0 ts[pl]) hq h3) ?_;exact Z7 hge hp (za0 ts[pl]) hq h3
      ·refine zbs Tryz.call85 Tryz.func85 rfl Zh (zat Zh) ?_;refine Z4 ?_;refine callF (HV) (Zl hne) ?_;refine Zk hne ?_;refine callF (HF) (Z7 hge hp (za0 ts[pl]) hq h3) ?_;exact Z7 hge hp (za0 ts[pl]) hq h3
     ·have h3':(3<(t.args.length:Int))=False:=eq_false h3;simp only[Kv h3,K5,Qz,if_false,if_true];obtain⟨X,hX0,hXs,hXr,hXl,hXn,hXf⟩:=key _ hsrt hsln;rw[<-hXn]at hXf⊢;rcases hcp with rfl|⟨rfl,hne⟩
      ·refine zbs Tryz.call85 Tryz.func85 rfl Zh (zat Zh) ?_;refine Z4 ?_;refine callF (HV) Zg ?_;refine Zj ?_;refine callF (HF) Vd ?_;simp -implicitDefEqProofs only[go_sem,hge,hp,zac,za0 ts[pl],hq,h3',hl0];refine zad (λj:Nat=>hd [(0,vT (tbS (X j).1)),(4,.one (.bx 4 0)),(12,vI j)] [(4,[.t (.str t.name),.t (tmS t.args)])] []) (λj=>j<=t.args.length/\(X j).2=true) (λj=>t.args.length-j) 0 (zab ?_) ⟨Qy _,by rw[hX0]⟩ ?_
       ·exact Zl hX0
       ·intro j ⟨hj,hokj⟩;by_cases hlj:j<t.args.length
        ·have hXj:=hXs j hlj hokj;have HC:=H t.args[j] (Qe hlj) (X j).1 (hXr j) (by have:=hXl j;have:=zbw Tm.nodes t.args j hlj;have:=zcv Tm.nodes t.args (j+1);omega);unfold zv2 at HC;rw[show syS t.args[j] false=suS t.args[j] from(zep _).symm,<-hXj]at HC;simp only[tmD,zaa t.args[j]]at HC;refine Xz ?_;refine callR (HC) Zg ?_;refine Zj ?_;cases hk:(X (j+1)).2
         ·rw[hXf (j+1) hk];exact Xp
         ·refine Zj ?_;refine⟨j+1,⟨hlj,hk⟩,Zi,zab ?_⟩;refine Zj ?_;rw[zaf Zi]
        ·have hjn:j=t.args.length:=by omega
         subst hjn;rw[hXn]at hokj;exact X0
      ·refine zbs Tryz.call85 Tryz.func85 rfl Zh (zat Zh) ?_;refine Z4 ?_;refine callF (HV) (Zl hne) ?_;refine Zk hne ?_;refine callF (HF) Vd ?_;simp -implicitDefEqProofs only[go_sem,hge,hp,zac,za0 ts[pl],hq,h3',hl0];refine zad (λj:Nat=>hd [(0,vT (tbS (X j).1)),(4,.one (.bx 4 0)),(12,vI j)] [(4,[.t (.str t.name),.t (tmS t.args)])] []) (λj=>j<=t.args.length/\(X j).2=true) (λj=>t.args.length-j) 0 (zab ?_) ⟨Qy _,by rw[hX0]⟩ ?_
       ·exact Zl hX0
       ·intro j ⟨hj,hokj⟩;by_cases hlj:j<t.args.length
        ·have hXj:=hXs j hlj hokj;have HC:=H t.args[j] (Qe hlj) (X j).1 (hXr j) (by have:=hXl j;have:=zbw Tm.nodes t.args j hlj;have:=zcv Tm.nodes t.args (j+1);omega);unfold zv2 at HC;rw[show syS t.args[j] false=suS t.args[j] from(zep _).symm,<-hXj]at HC;simp only[tmD,zaa t.args[j]]at HC;refine Xz ?_;refine callR (HC) Zg ?_;refine Zj ?_;cases hk:(X (j+1)).2
         ·rw[hXf (j+1) hk];exact Xp
         ·refine Zj ?_;refine⟨j+1,⟨hlj,hk⟩,Zi,zab ?_⟩;refine Zj ?_;rw[zaf Zi]
        ·have hjn:j=t.args.length:=by omega
         subst hjn;rw[hXn]at hokj;exact X0
    ·simp only[Zb,Qz,if_false,if_true];rcases hcp with rfl|⟨rfl,hne⟩
     ·refine zbs Tryz.call85 Tryz.func85 rfl Zh (zat Zh) ?_;refine Z4 ?_;refine callF (HV) Zg ?_;refine Zj ?_;refine callF (HF) (Z9 hge hp (za0 ts[pl]) hq) ?_;exact Z9 hge hp (za0 ts[pl]) hq
     ·refine zbs Tryz.call85 Tryz.func85 rfl Zh (zat Zh) ?_;refine Z4 ?_;refine callF (HV) (Zl hne) ?_;refine Zk hne ?_;refine callF (HF) (Z9 hge hp (za0 ts[pl]) hq) ?_;exact Z9 hge hp (za0 ts[pl]) hq
  ·rw[hb,if_pos rfl]at hown;rw[hsy,zcf,hown,trB,if_pos rfl];rw[Qd]at hb;obtain⟨hbp,hbn⟩:=hb;obtain⟨X,hX0,hXs,hXr,hXl,hXn,hXf⟩:=key ts hs Zi;rw[<-hXn]at hXf⊢;rw[hbp];refine zbs Tryz.call85 Tryz.func85 rfl Zh (zat Zh) ?_;refine Z4 ?_;refine callF (HV) (Zl hbn) ?_;refine Zk hbn ?_;refine zad (λj:Nat=>hd [(0,vT (tbS (X j).1)),(4,.one (.bx 4 0)),(12,vI j)] [(4,[.t (.str t.name),.t (tmS t.args)])] []) (λj=>j<=t.args.length/\(X j).2=true) (λj=>t.args.length-j) 0 (zab ?_) ⟨Qy _,by rw[hX0]⟩ ?_
   ·exact Zl hX0
   ·intro j ⟨hj,hokj⟩;by_cases hlj:j<t.args.length
    ·have hXj:=hXs j hlj hokj;have HC:=H t.args[j] (Qe hlj) (X j).1 (hXr j) (by have:=hXl j;have:=zbw Tm.nodes t.args j hlj;have:=zcv Tm.nodes t.args (j+1);omega);unfold zv2 at HC;rw[show syS t.args[j] false=suS t.args[j] from(zep _).symm,<-hXj]at HC;simp only[tmD,zaa t.args[j]]at HC;refine Xz ?_;refine callR (HC) Zg ?_;refine Zj ?_;cases hk:(X (j+1)).2
     ·rw[hXf (j+1) hk];exact Xp
     ·refine Zj ?_;refine⟨j+1,⟨hlj,hk⟩,Zi,zab ?_⟩;refine Zj ?_;rw[zaf Zi]
    ·have hjn:j=t.args.length:=by omega
     subst hjn;rw[hXn]at hokj;exact X0
 ·rw[hV]at HV;rw[hV,if_pos rfl]at hsy;rw[hsy,trB];refine zbs Tryz.call85 Tryz.func85 rfl Zh (zat Zh) ?_;refine Z4 ?_;refine callF (HV) Zg ?_;exact Zg
theorem qke:∀t:Tm,t.wt<=1048576->∀(p:Bool)(ts:List Tb),zgo ts->ts.length+t.nodes<=1048576->zv2 t p ts :=
 zbb λn xs ih hw p ts hs hz=>qgp (.mk n xs) hw (λa ha ts' hs' hz'=>ih a ha ((Tm.wt_args hw).2 a ha) false ts' hs' hz') p ts hs hz
end
section
open Go.RowKit
theorem qsk (t:Tm)(p:Bool):(syS t p).length<=t.nodes:=by
 have h:=qca t
 rw[zep]at h
 unfold syS
 split
 ·simp
 ·rename_i hv;rw[if_neg hv,Qb]at h;have e1:(zox t.name t.args.length false).length=1:=by unfold zox;rw[Q4,if_neg (by simp)];rfl
  have e2:(zox t.name t.args.length p).length<=1:=by unfold zox;split<;>simp
  rw[Qb];omega
theorem qm6 {c:Cq}(h:c.ok=true)(j:Nat):(zs5 (c.lits.take j)).length<=240:=by
 have h1:=zhg (λl:Li=>syS l.atom true) 30 (c.lits.take j) λl hl=>Q8 (qsk _ _) (zgf (zcp h l (Jt hl)))
 have h2:=zfq h
 have h3:(c.lits.take j).length<=8:=by rw[Qc];omega
 unfold zs5
 have:(c.lits.take j).length*30<=8*30:=Kz _ h3
 omega
theorem qjt {A B ts:List Tb}(h:(trB ts A).2=false):(trB ts (A++B)).2=false:=by rw[zcf,if_neg (by rw[h];simp)];exact h
theorem qdu (cs:List Cq)(hw:zow cs<=1048576):RC Tryz.prog 36 [.one (cqS cs)] [.one (tbS (zp4 cs)),bD (zcy cs)]:=by
 have hcw:=λc (h:c∈cs)=>Q8 (zwt h) hw
 have hv1:zcy cs=(decide (cs.length<=30)&&cs.all Cq.ok&&(!(sgB (zji cs)).2&&decide ((sgB (zji cs)).1.length<=12))):=rfl
 have hv2:zp4 cs=if zcy cs=true then (sgB (zji cs)).1 else []:=rfl
 have hln:cs.length<=1048576:=by have h2:zow cs=cs.length+(cs.map Cq.wt).sum:=rfl;omega
 have htr:=zwi (zl0 cs) (ts:=[])
 have htr2:(trB [] (zl0 cs)).2=!(sgB (zl0 cs)).2/\((trB [] (zl0 cs)).2=true->(trB [] (zl0 cs)).1=(sgB (zl0 cs)).1):=htr
 have hno:zcy cs=false->zp4 cs=[]:=λh=>by rw[hv2,h,if_neg (by simp)]
 by_cases h40:cs.length<=30
 ·have h40':((30:Int)<(cs.length:Int))=False:=eq_false Zi;rw[Ku h40,Q2]at hv1;have hbadc:∀c∈cs,c.ok=false->zcy cs=false:=λc hc h=>by
   rw[hv1,show cs.all Cq.ok=false from J9.2 ⟨c,hc,by rw[h];simp⟩,Q4]
  have hsame:=qq7 cs;have hbadt:∀A B,zl0 cs=A++B->(trB [] A).2=false->zcy cs=false:=λA B he h=>by
   have h1:=qjt (B:=B) h;rw[<-he,htr2.1]at h1;have h1:(sgB (zl0 cs)).2=true:=by simpa using h1
   cases hall:cs.all Cq.ok
   ·rw[hv1,hall,Q4]
   ·rw[hv1,(hsame λc hc=>Qr.1 hall c hc).1,h1];simp
  obtain⟨X,hX⟩:∃X:Nat->List Tb×Bool,∀k,X k=trB [] (zl0 (cs.take k)):=⟨_,λ_=>rfl⟩;have hX0:X 0=([],true):=by rw[hX];rfl
  have hXr:∀k,zgo (X k).1:=λk=>by rw[hX];exact zp0 _ List.Pairwise.nil
  have hXk:∀k (h:k<cs.length),(X k).2=true->X (k+1)=trB (X k).1 (zs5 cs[k].lits):=λk h hok=>by
   rw[hX]at hok⊢;rw[hX];unfold zl0 at hok⊢;rw[zek (λc:Cq=>zs5 c.lits) cs k h,zcf,if_pos hok]
  refine zbs Tryz.call36 Tryz.func36 rfl Zh (zat Zh) ?_;simp -implicitDefEqProofs only[go_sem,Tryz.results36];refine zb7 Zg ?_;refine Zj ?_;refine Zk h40' ?_;refine zad (λk:Nat=>hd [(0,vT (cqS cs)),(4,vT (tbS (X k).1)),(6,vI k)] [] []) (λk=>k<=cs.length/\(X k).2=true/\(X k).1.length<=k*240/\∀c∈cs.take k,c.ok=true) (λk=>cs.length-k) 0 (zab ?_) ⟨Qy _,by rw[hX0],by rw[hX0];simp,by simp⟩ ?_
  ·refine Zk hX0 ?_;rfl
  ·intro k ⟨hk,hok,hlen,hcok⟩;by_cases hlt:k<cs.length
   ·have HG:=zj1 cs[k] (hcw _ (Qe hlt));simp only[cqD,zap cs[k]]at HG;cases hck:cs[k].ok
    ·have hs:=hbadc _ (Qe hlt) hck;rw[hck]at HG;rw[hno hs,hs];refine Xt ?_;refine callF (HG) Zg ?_;refine Zj ?_;refine zb7 Zg ?_;refine Zj ?_;rfl
    ·have hXk:=hXk k hlt hok;have hs1:=hXr k;have hsyl:=λj=>qm6 hck j;have hnd:=λl (h:l∈cs[k].lits)=>zgf (zcp hck l h);have hlw:=λl (h:l∈cs[k].lits)=>Q8 (zf1 h) (hcw _ (Qe hlt));have hcok1:∀c∈cs.take (k+1),c.ok=true:=λc hc=>by
      rw[Qg hlt]at hc;rcases Qt.1 hc with hc|hc
      ·exact hcok c hc
      ·rw[Qv.1 hc];exact hck
     have hll:cs[k].lits.length<=8:=zfq hck;have hsp:∀j,zl0 cs=(zl0 (cs.take k)++zs5 (cs[k].lits.take j))++(zs5 (cs[k].lits.drop j)++zl0 (cs.drop (k+1))):=λj=>by
      have e1:zs5 (cs[k].lits.take j)++zs5 (cs[k].lits.drop j)=zs5 cs[k].lits:=by
       unfold zs5;rw[<-Kq,<-Qq,Ke]
      have e2:zl0 cs=zl0 (cs.take k)++(zs5 cs[k].lits++zl0 (cs.drop (k+1))):=by
       conv=>lhs;rw[<-Ke k cs,Qn hlt]
       unfold zl0;rw[Qq,Kq,Qk,Q5]
      rw[e2,<-e1];simp only[Kl]
     have hbadj:∀j,(trB (X k).1 (zs5 (cs[k].lits.take j))).2=false->zcy cs=false:=λj h=>hbadt _ _ (hsp j) (by
      rw[zcf,<-hX,if_pos hok];exact h)
     rw[hck]at HG;have hrow:(cs.map cqC).getD k []=cqC cs[k]:=zac cqC cs k hlt;rw[zap]at hrow;refine Xt ?_;refine callF (HG) Zg ?_;refine Zj ?_;generalize cs[k].lits=ls at hXk hsyl hnd hlw hll hbadj hrow⊢;obtain⟨Z,hZ⟩:∃Z:Nat->List Tb×Bool,∀j,Z j=trB (X k).1 (zs5 (ls.take j)):=⟨_,λ_=>rfl⟩;have hZ0:Z 0=((X k).1,true):=by rw[hZ];rfl
     have hZn:Z ls.length=X (k+1):=by rw[hZ,K2,hXk]
     have hZs:∀j,zgo (Z j).1:=λj=>by rw[hZ];exact zp0 _ hs1
     have hZl:∀j,(Z j).1.length<=k*240+240:=λj=>by
      rw[hZ];have h1:=zva (zs5 (ls.take j)) (X k).1;have h2:=hsyl j;omega
     have hZj:∀j (h:j<ls.length),(Z j).2=true->Z (j+1)=trB (Z j).1 (syS ls[j].atom true):=λj h hok=>by
      rw[hZ]at hok⊢;rw[hZ];unfold zs5 at hok⊢;rw[zek (λl:Li=>syS l.atom true) ls j h,zcf,if_pos hok]
     refine zad (λj:Nat=>hd [(0,vT (cqS cs)),(4,vT (tbS (Z j).1)),(6,vI k),(7,vI j)] [] []) (λj=>j<=ls.length/\(Z j).2=true) (λj=>ls.length-j) 0 (zab ?_) ⟨Qy _,by rw[hZ0]⟩ ?_
     ·exact Zl hZ0
     ·intro j ⟨hj,hokj⟩;by_cases hlj:j<ls.length
      ·have hlj2:=hlw _ (Qe hlj);have hlj3:=ls[j].wt_eq;have HC:=qke ls[j].atom Zi true (Z j).1 (hZs j) (by have:=hZl j;have:=hnd _ (Qe hlj);omega);unfold zv2 at HC;rw[<-hZj j hlj hokj]at HC;simp only[tmD,zaa ls[j].atom]at HC;refine Zy hlj hlt hrow (zaj ls[j]) ?_;refine callR (HC) Zg ?_;refine Zj ?_;cases hk2:(Z (j+1)).2
       ·have hs:=hbadj (j+1) (by rw[<-hZ];exact hk2);rw[hno hs,hs];refine Zk hk2 ?_;refine zb7 Zg ?_;refine Zj ?_;rfl
       ·refine Zj ?_;refine⟨j+1,⟨hlj,hk2⟩,Zi,zab ?_⟩;refine Zj ?_;rw[zaf Zi]
      ·have hjn:j=ls.length:=by omega
       subst hjn;rw[hZn]at hokj;have hZl2:=hZl ls.length;rw[hZn]at hZl2;rw[hZn];simp -implicitDefEqProofs only[go_sem,hlj,hlt,hrow];refine⟨k+1,⟨hlt,hokj,Zi,hcok1⟩,Zi,zab ?_⟩;refine Zj ?_;rw[zaf Zi]
   ·have hkn:k=cs.length:=by omega
    subst hkn;rw[K2]at hcok;have hsame:=hsame hcok;rw[hX,K2]at hok hlen;have hall:cs.all Cq.ok=true:=Qr.2 hcok;have e1:=htr2.1;rw[hok]at e1;have e1:(sgB (zl0 cs)).2=false:=by simpa using e1.symm
    have e2:=htr2.2 hok;have e3:(sgB (zji cs)).2=false:=hsame.1.trans e1;have e4:=hsame.2 e3;rw[hall,e3,e4,<-e2]at hv1;rw[e4,<-e2]at hv2;rw[hX,K2];generalize (trB [] (zl0 cs)).1=T at hv1 hv2 hlen⊢;by_cases h12:T.length<=12
    ·have h12':((12:Int)<(T.length:Int))=False:=eq_false Zi;have hv1:zcy cs=true:=by rw[hv1,Ku h12];rfl
     rw[hv1,if_pos rfl]at hv2;rw[hv2,hv1];exact Z0 hlt h12'
    ·have h12':((12:Int)<(T.length:Int))=True:=eq_true Zi;have hv1:zcy cs=false:=by rw[hv1,Kv h12];rfl
     rw[hno hv1,hv1];refine Zr hlt h12' ?_;refine zb7 Zg ?_;refine Zj ?_;rfl
 ·have h40':((30:Int)<(cs.length:Int))=True:=eq_true Zi;rw[Kv h40,Q4]at hv1;rw[hno hv1,hv1];refine zbs Tryz.call36 Tryz.func36 rfl Zh (zat Zh) ?_;simp -implicitDefEqProofs only[go_sem,Tryz.results36];refine zb7 Zg ?_;refine Zj ?_;refine Zk h40' ?_;rfl
end
section
open Go.RowKit
theorem zyx {fs:List Tb}(hf:FnOk fs){lv:Int}(h8:lv<=8){ts:List Tm}(ht:TsOk fs lv ts) :
  (∀f∈fs,∀l∈zco ts f.ar.toNat,(Tm.mk f.name l).wt<=1048576)/\(∀x∈(zc1 lv ts fs []).2,upT x=true)/\((zc1 lv ts fs []).1=true->ts.length+(zc1 lv ts fs []).2.length<=60):=by
 refine⟨λf hfm l hl=>(ht.one hf h8 (zpz hfm) hl).1,λx hx=>?_,λh=>?_⟩
 ·rw[zir]at hx;rcases zj0 (ap:=apX) (λx t u=>by unfold apX;simp) (qF ts fs) [] x hx with h|⟨h,_⟩
  ·cases h
  ·unfold qF at h;obtain⟨f,hfm,h⟩:=Jw.1 h;obtain⟨l,hl,rfl⟩:=Ka.1 h;exact(ht.one hf h8 (zpz (Kp.1 hfm).1) hl).2
 ·rw[zir]at h⊢;exact zoy (ap:=apX) (qF ts fs) [] (by have:=ht.len;simpa using this) h
theorem qsy (fs:List Tb){k:Nat}(h:k<fs.length):cnT (fs.take (k+1))=cnT (fs.take k)++if(fs[k].ar==0)=true then [Tm.mk fs[k].name []]else []:=by
 unfold cnT
 rw[Qg h,Ya,Qq]
 congr 1
 rw[J7]
 cases fs[k].ar==0<;>rfl
theorem qm5 (cs:List Cq)(d:Int)(hw:zow cs<=1048576):FC Tryz.prog 14 [.one (cqS cs),iD d] [.one (tmS (htV cs d)),bD (htB cs d)]:=by
 have HS:=qgi cs hw
 have HW:=zju d 1 8
 have hv1:htB cs d=(zcy cs&&(decide (1<=d)&&decide (d<=8))&&((lvI (fnT cs) (d-1).toNat 2 (ts0 (fnT cs))).1&&(lvI (fnT cs) (d-1).toNat 2 (ts0 (fnT cs))).2.all Tm.good)):=rfl
 have hno:htB cs d=false->htV cs d=[]:=λh=>by unfold htV;rw[h,if_neg (by simp)]
 have hyes:htB cs d=true->htV cs d=(lvI (fnT cs) (d-1).toNat 2 (ts0 (fnT cs))).2:=λh=>by unfold htV;rw[h,if_pos rfl]
 cases hso:zcy cs
 ·rw[hso,Q4,Q4]at hv1;rw[hso]at HS;rw[hno hv1,hv1];refine zcc Tryz.call14 Tryz.func14 rfl Zh (zat Zh) ?_;simp -implicitDefEqProofs only[go_sem,Tryz.results14];refine callF (HS) Zg ?_;exact Zg
 ·obtain⟨hfo,hfl⟩:=qpk hso;have hfn:fnT cs=(zp4 cs).filter λx=>!x.pred:=rfl;have hsl:(zp4 cs).length<=12:=by
   have h:=hso;unfold zp4;rw[if_pos h];unfold zcy at h;simp only[Qd,Q0]at h;exact h.2.2
  rw[hso,Q2]at hv1;rw[hso]at HS;have hin:inB d 1 8=(decide (1<=d)&&decide (d<=8)):=rfl;rw[hin]at HW;cases hdb:(decide (1<=d)&&decide (d<=8))
  ·rw[hdb,Q4]at hv1;rw[hdb]at HW;rw[hno hv1,hv1];refine zcc Tryz.call14 Tryz.func14 rfl Zh (zat Zh) ?_;simp -implicitDefEqProofs only[go_sem,Tryz.results14];refine callF (HS) Zg ?_;refine Zj ?_;refine callF (HW) Zg ?_;exact Zg
  ·rw[hdb,Q2]at hv1;rw[hdb]at HW;simp only[Qd,Q0]at hdb;obtain⟨hd1,hd8⟩:=hdb;have HD:=qd7 (zp4 cs) Zi;rw[<-hfn]at HD;generalize fnT cs=fs at *;generalize zp4 cs=sg at *;obtain⟨n,hn⟩:∃n:Nat,(d-1).toNat=n:=⟨_,rfl⟩;have hdn:d=(n:Int)+1:=by omega
   rw[hn]at hv1 hyes;refine zcc Tryz.call14 Tryz.func14 rfl Zh (zat Zh) ?_;simp -implicitDefEqProofs only[go_sem,Tryz.results14];refine callF (HS) Zg ?_;refine Zj ?_;refine callF (HW) Zg ?_;refine Zj ?_;refine zei [1] [27] [] (HD) Zg Zg Zg Zg ?_;refine Zj ?_;refine za2 Zg ?_;refine Zj ?_;refine zad (λk:Nat=>hd [(1,vI d),(8,.one (.ow 896 0)),(9,.one (.ow 928 0)),(30,.one (.ow 896 0)),(31,vI fs.length),(32,vI k)] [] [(896,⟨true,4,fs.map tbC,0,true⟩),(928,⟨true,2,(cnT (fs.take k)).map tmC,0,true⟩)]) (λk=>k<=fs.length) (λk=>fs.length-k) 0 (zab ?_) (Qy _) ?_
   ·refine Zj ?_;rfl
   ·intro k hk;by_cases hlt:k<fs.length
    ·have hsu:=qsy fs hlt;have hcl:(cnT (fs.take k)).length<=4294967295:=by
      have h1:=qfe (fs.take k);rw[Qc]at h1;omega
     cases h0:fs[k].ar==0
     ·rw[h0,if_neg (by simp),Kh]at hsu;refine Zs hlt (za0 fs[k]) h0 ?_;refine⟨k+1,hlt,Zi,zab ?_⟩;refine Zj ?_;rw[zaf Zi,hsu];exact⟨rfl,rfl⟩
     ·rw[h0,if_pos rfl]at hsu;refine Zs hlt (za0 fs[k]) h0 ?_;refine za2 Zg ?_;refine Zj ?_;refine apD true (Zu hcl) ?_;refine Zv hcl ?_;refine⟨k+1,hlt,Zi,zab ?_⟩;refine Zj ?_;rw[zaf Zi,hsu,Qq,Q7,zr7];exact⟨rfl,rfl⟩
    ·have ht:fs.take k=fs:=Ql Zi;rw[ht];have h0v:ts0 fs=if(cnT fs).length=0 then [Tm.mk [99,48] []]else cnT fs:=rfl
     by_cases hz:(cnT fs).length=0
     ·rw[if_pos hz]at h0v;have hzz:((cnT fs).length:Int)=0:=by omega
      have hcn:cnT fs=[]:=Kc.1 hz;rw[hcn];refine Xo ?_;refine za2 Zg ?_;refine Zj ?_;refine apD true Xl ?_;simp -implicitDefEqProofs only[go_sem,ne_eq];refine zad (λz:Nat×List Tm=>hd [(1,vI d),(8,.one (.ow 896 0)),(9,.one (.ow 928 0)),(12,vI (2+(z.1:Int)))] [] [(896,⟨true,4,fs.map tbC,0,true⟩),(928,⟨true,2,z.2.map tmC,0,true⟩)]) (λz=>z.1<=n/\TsOk fs (2+(z.1:Int)) z.2/\lvI fs n 2 (ts0 fs)=lvI fs (n-z.1) (2+(z.1:Int)) z.2) (λz=>n-z.1) (0,ts0 fs) (zab ?_) ⟨Qy _,zqo hfo hfl,rfl⟩ ?_
      ·simp -implicitDefEqProofs only[go_sem,h0v,Q7,zr7]
      ·rintro⟨m,ts⟩ ⟨hm,hto,heq⟩;simp only at hm hto heq⊢;have htl:=hto.len;by_cases hmn:m<n
       ·have hle:(2+(m:Int)<=d)=True:=eq_true Zi;obtain⟨r,hr⟩:∃r,n-m=r+1:=⟨n-m-1,Zi⟩;obtain⟨g1,g2,g3⟩:=zyx hfo (lv:=2+(m:Int)) Zi hto;have HE:=zxt fs ts (2+(m:Int)) Zi Zi hfo.pos g1 g2 (λh=>by have:=g3 h;omega);have hstep:=zli hfo hto;rw[hr,lvI]at heq;cases hb:(zc1 (2+(m:Int)) ts fs []).1
        ·rw[hb,if_neg (by simp)]at heq HE;rw[heq]at hv1;have hv1:htB cs d=false:=hv1;rw[hno hv1,hv1];refine Zk hle ?_;refine callF (HE) Zg ?_;exact Zg
        ·have hsl:=(zeq (zc1 (2+(m:Int)) ts fs []).2).length_eq;have g3:=g3 hb;have hstep:=hstep hb;rw[hb,if_pos rfl]at heq HE;generalize zjm (zc1 (2+(m:Int)) ts fs []).2=more at heq HE hstep hsl;have hap:ts.length+more.length<=4294967296:=by omega
         refine Zk hle ?_;refine callF (HE) Zg ?_;refine Zj ?_;refine apD true (Zu hap) ?_;refine Zv hap ?_;refine⟨(m+1,ts++more),⟨hmn,?_,?_⟩,by simp only;omega,zab ?_⟩
         ·rw[show 2+((m+1:Nat):Int)=2+(m:Int)+1 by omega];exact hstep
         ·simp only;rw[show n-(m+1)=r by omega,show 2+((m+1:Nat):Int)=2+(m:Int)+1 by omega];exact heq
         ·refine Zj ?_;rw[zay Zi Zi,Qq,show 2+((m+1:Nat):Int)=2+(m:Int)+1 by omega];exact⟨rfl,rfl⟩
       ·have hle:(2+(m:Int)<=d)=False:=eq_false Zi;rw[show n-m=0 by omega,lvI]at heq;rw[heq]at hv1 hyes;have hv1:htB cs d=ts.all Tm.good:=by rw[hv1];exact Q2 _
        have hw2:=hto.wts hfo Zi;have h60:((60:Int)<(ts.length:Int))=False:=eq_false Zi;have HG:=zbr ts (λt=>!t.good) 50 [] λt ht=>ziz t (by have:=hw2 t ht;omega);cases hg:ts.all Tm.good
        ·have hany:(ts.any λt=>!t.good)=true:=by
          rw[Ju];rw[J9]at hg;obtain⟨c,h1,h2⟩:=hg;exact⟨c,h1,by simpa using h2⟩
         rw[hany]at HG;rw[hg]at hv1;rw[hno hv1,hv1];refine Zr hle h60 ?_;refine callF (HG) Zg ?_;exact Zg
        ·have hany:(ts.any λt=>!t.good)=false:=by
          rw[Yh];rw[Qr]at hg;intro c hc;simp[hg c hc]
         rw[hany]at HG;rw[hg]at hv1;rw[hyes hv1,hv1];refine Zr hle h60 ?_;refine callF (HG) Zg ?_;exact Zg
     ·rw[if_neg hz]at h0v;have hzz:(((cnT fs).length:Int)==0)=false:=by rw[Yf];omega
      refine Zr hlt hzz ?_;refine zad (λz:Nat×List Tm=>hd [(1,vI d),(8,.one (.ow 896 0)),(9,.one (.ow 928 0)),(12,vI (2+(z.1:Int)))] [] [(896,⟨true,4,fs.map tbC,0,true⟩),(928,⟨true,2,z.2.map tmC,0,true⟩)]) (λz=>z.1<=n/\TsOk fs (2+(z.1:Int)) z.2/\lvI fs n 2 (ts0 fs)=lvI fs (n-z.1) (2+(z.1:Int)) z.2) (λz=>n-z.1) (0,ts0 fs) (zab ?_) ⟨Qy _,zqo hfo hfl,rfl⟩ ?_
      ·exact Zl h0v
      ·rintro⟨m,ts⟩ ⟨hm,hto,heq⟩;simp only at hm hto heq⊢;have htl:=hto.len;by_cases hmn:m<n
       ·have hle:(2+(m:Int)<=d)=True:=eq_true Zi;obtain⟨r,hr⟩:∃r,n-m=r+1:=⟨n-m-1,Zi⟩;obtain⟨g1,g2,g3⟩:=zyx hfo (lv:=2+(m:Int)) Zi hto;have HE:=zxt fs ts (2+(m:Int)) Zi Zi hfo.pos g1 g2 (λh=>by have:=g3 h;omega);have hstep:=zli hfo hto;rw[hr,lvI]at heq;cases hb:(zc1 (2+(m:Int)) ts fs []).1
        ·rw[hb,if_neg (by simp)]at heq HE;rw[heq]at hv1;have hv1:htB cs d=false:=hv1;rw[hno hv1,hv1];refine Zk hle ?_;refine callF (HE) Zg ?_;exact Zg
        ·have hsl:=(zeq (zc1 (2+(m:Int)) ts fs []).2).length_eq;have g3:=g3 hb;have hstep:=hstep hb;rw[hb,if_pos rfl]at heq HE;generalize zjm (zc1 (2+(m:Int)) ts fs []).2=more at heq HE hstep hsl;have hap:ts.length+more.length<=4294967296:=by omega
         refine Zk hle ?_;refine callF (HE) Zg ?_;refine Zj ?_;refine apD true (Zu hap) ?_;refine Zv hap ?_;refine⟨(m+1,ts++more),⟨hmn,?_,?_⟩,by simp only;omega,zab ?_⟩
         ·rw[show 2+((m+1:Nat):Int)=2+(m:Int)+1 by omega];exact hstep
         ·simp only;rw[show n-(m+1)=r by omega,show 2+((m+1:Nat):Int)=2+(m:Int)+1 by omega];exact heq
         ·refine Zj ?_;rw[zay Zi Zi,Qq,show 2+((m+1:Nat):Int)=2+(m:Int)+1 by omega];exact⟨rfl,rfl⟩
       ·have hle:(2+(m:Int)<=d)=False:=eq_false Zi;rw[show n-m=0 by omega,lvI]at heq;rw[heq]at hv1 hyes;have hv1:htB cs d=ts.all Tm.good:=by rw[hv1];exact Q2 _
        have hw2:=hto.wts hfo Zi;have h60:((60:Int)<(ts.length:Int))=False:=eq_false Zi;have HG:=zbr ts (λt=>!t.good) 50 [] λt ht=>ziz t (by have:=hw2 t ht;omega);cases hg:ts.all Tm.good
        ·have hany:(ts.any λt=>!t.good)=true:=by
          rw[Ju];rw[J9]at hg;obtain⟨c,h1,h2⟩:=hg;exact⟨c,h1,by simpa using h2⟩
         rw[hany]at HG;rw[hg]at hv1;rw[hno hv1,hv1];refine Zr hle h60 ?_;refine callF (HG) Zg ?_;exact Zg
        ·have hany:(ts.any λt=>!t.good)=false:=by
          rw[Yh];rw[Qr]at hg;intro c hc;simp[hg c hc]
         rw[hany]at HG;rw[hg]at hv1;rw[hyes hv1,hv1];refine Zr hle h60 ?_;refine callF (HG) Zg ?_;exact Zg
end
section
open Go.RowKit
variable {P:Program}
def TopV (w:World)(A:Nat->Prop)(sz:Nat)(rows:List (List T))(v:Value):Prop :=
 ∃ao cap,v=.slice ao rows.length cap/\rows.length<=cap/\cap<=zd1/\(rows=[]\/∃b o,ao=some ⟨b,o,none⟩/\b<w.heap.size/\zal w A b o sz rows)
def RT (P:Program)(f:FuncId)(sz:Nat)(rows:List (List T))(ds res:List D):Prop:=za8 P f/\∀(w:World)(v:Value)(vs:List Value)(A:Nat->Prop),TopV w (λb=>b<w.heap.size/\A b) sz rows v->zbc w (λb=>b<w.heap.size/\A b) ds vs →
 Calls P f ⟨v::vs⟩ w λe w'=>∃us,e=.returned (zcm us)/\zbc w' (λb=>b<w'.heap.size/\(A b\/w.heap.size<=b)) res us/\Below w.heap.size w w'
def VDt (σ:St)(e:Nat)(y:Ev):List V->List D->Prop
 | .one (.ow e' n)::vs,ds=>e'=e/\n=y.gen/\zu7 σ vs ds
 | _,_=>False
theorem VDt_ow (σ:St)(e:Nat)(y:Ev)(e' n:Nat)(vs:List V)(ds:List D):VDt σ e y (.one (.ow e' n)::vs) ds=(e'=e/\n=y.gen/\zu7 σ vs ds):=rfl
theorem VDt_ex {σ:St}{e:Nat}{y:Ev}{xs:List V}{ds:List D}(h:VDt σ e y xs ds):∃xs',xs=.one (.ow e y.gen)::xs'/\zu7 σ xs' ds:=by
 unfold VDt at h
 split at h
 ·obtain⟨rfl,rfl,h⟩:=h;exact⟨_,rfl,h⟩
 ·exact h.elim
theorem qbn {o:Oper}{σ:St}{x:Operand}{asx:Array Operand}{ts:Array TypeId}{f:FuncId}{cvs:List V}{ds res:List D}{e:Nat}{y:Ev}(hy:σ.ev e=some y)(hdp:y.deep=false)(hon:y.on=true)(ho:o.op=.call ⟨.value x,asx,ts⟩)
  (h:RT P f y.sz y.rows ds res) (hc:za3 (σ.get P 0 x)=some (f,cvs)) (hv:VDt σ e y (σ.gets P asx ts++cvs) ds):zag P o σ (σ.callR o.dst res):=by
 intro n0 N g a w hR hn hdN
 obtain⟨vs,h1,h2⟩:=zd7 hR ho hc h.1
 unfold Oper.wp
 rw[h1]
 generalize σ.gets P asx ts++cvs=xs at hv h2
 obtain⟨xs',rfl,hv2⟩:=VDt_ex hv
 obtain⟨v,vs',rfl,k1,k2⟩:=h2
 have k1:CR σ g w (.ow e y.gen) v:=k1
 obtain⟨rfl,_⟩:=k1
 have htop:TopV w (λb=>b<w.heap.size/\Fix σ g w b) y.sz y.rows (g.ψ e y.gen):=by
  obtain⟨ao,cap,q1,q2,q3,q4⟩:=hR.evs e y hy hon;refine⟨ao,cap,q1,q2,q3,?_⟩;rcases q4 with⟨_,_,q4,_⟩|⟨b,cells,ty,fps,q4,q5,q6,q7,q8⟩
  ·exact Or.inl q4
  ·rw[hdp,if_neg (by simp)]at q8;exact Or.inr ⟨b,0,q4,(Array.getElem?_eq_some_iff.1 q6).1,zal.keep (λ_ _=>rfl) (λb hb=>⟨hb.2.2.1,hb⟩) b rfl 0 _ _ q8.2⟩
 have hargs:=(zu7.rep hv2 k2).keep (A':=λb=>b<w.heap.size/\Fix σ g w b) (λ_ _=>rfl) λb hb=>⟨hb.2.2.1,hb⟩
 refine(h.2 w _ vs' (Fix σ g w) htop hargs).mono ?_
 rintro e2 w' ⟨us,rfl,o1,hb⟩
 have hR':Rel n0 N σ g a w':=hR.after hn hb (New.refl σ g (w.heap.size<=·) w' hR.slc)
 refine⟨g,?_,Bk.of_below hb hn,rfl,rfl⟩
 have hfix:∀b,(b<w'.heap.size/\(Fix σ g w b\/w.heap.size<=b))->Fix σ g w' b:=λb hb'=>by
  rcases hb'.2 with hf|hf
  ·exact⟨hf.1,hf.2.1,hb'.1,hf.2.2.2⟩
  ·refine⟨λk hk e=>by have:=hR.lt hk;omega,λe x hx ho hh=>?_,hb'.1,(hR.anew b (hn.new hf)).1⟩;have:=(hR.evs e x hx ho).lt b (List.mem_of_mem_head? hh);omega
 exact hR'.put o.dst (zih (zbc.vrl (o1.keep (λ_ _=>rfl) hfix)) (λy hy=>by
  obtain⟨d,_,rfl⟩:=Ka.1 hy
  cases d<;>rfl)) hdN
section
variable {ks:List Fr}{Q:Exit->St->Prop}{σ:St}{ops:Array Oper}{os:List Oper}{ty:TypeId}{ps:String}{af:Array Edge}
theorem callRt (e:Nat){d:Option Nat}{x:Operand}{asx:Array Operand}{ts:Array TypeId}{f:FuncId}{sz:Nat}{rows:List (List T)}{ds res:List D}(h:RT P f sz rows ds res)(hp:zaq (σ.ev e) λy=>(y.deep=false/\y.on=true/\y.sz=sz/\y.rows=rows)/\zaq (za3 (σ.get P 0 x)) λp=>p.1=f/\VDt σ e y (σ.gets P asx ts++p.2) ds)
  (k:exo P ops os ks Q (σ.callR d res)):exo P ops (⟨d,.call ⟨.value x,asx,ts⟩,ty,ps,af,none⟩::os) ks Q σ:=by
 obtain⟨y,hy,⟨q1,q2,q3,q4⟩,hp2⟩:=zao hp
 subst q3 q4
 obtain⟨⟨f',cvs⟩,h1,rfl,h2⟩:=zao hp2
 exact zdc rfl rfl (qbn hy q1 q2 rfl h h1 h2) k
end
def nilV:V->V
 | .one c=>.one (nilC c)
 | .agg cs=>.agg (cs.map nilC)
 | v=>v
theorem Wk.nilS {σ σ':St}(i:Nat)(k:Wk { sl:=upd σ.sl i (nilV (σ.sl i)),bx:=σ.bx,ev:=σ.ev } σ'):Wk σ σ':=by
 refine Wk.trans (λn0 N g a w hR=>⟨g,?_,rfl,rfl⟩) k
 refine hR.slots_of rfl rfl hR.defers hR.size λj=>?_
 show VR σ g w (upd σ.sl i (nilV (σ.sl i)) j) _
 have hv:=hR.slots j
 by_cases hj:j=i
 ·rw[hj,zah];rw[hj]at hv;revert hv;generalize σ.sl i=v;generalize a.tmps.getD i (g.R0.ξ i)=u;intro hv;cases v with
  | one c=>exact CR.nilC hv
  | agg cs=>obtain⟨x,rfl,h⟩:=hv;exact⟨x,rfl,CRs.nilC h⟩
  | tup _=>exact hv
 ·rw[zan _ _ hj];exact hv
theorem qlu (cs:List C):nilV (.agg cs)=.agg (cs.map nilC):=rfl
attribute [go_sem] VDt_ow qlu
end
section
open Go.RowKit
theorem l16G_c (ft:List (List T))(hsh:∀r∈ft,∃s ao n c,r=[.str s,.vs ao n c])(n zbm:Nat)(hft:ft.length<=1048576)(hn:n<=1048576)(hm:zbm<=1048576)(hok:∀j,j<=n->ft.length^j<=zbm) :
  FC Tryz.prog 39 [.one (.sl 2 ft),iD n,iD zbm] [.one (rwS (zgp ft n)),bD true]:=by
 refine zam Tryz.call39 Tryz.func39 rfl Zh (zat Zh) ?_
 simp -implicitDefEqProofs only[go_sem,Tryz.results39]
 refine za2 Zg ?_
 refine Zj ?_
 refine za2 Zg ?_
 refine Zj ?_
 refine zad (λi:Nat=>hd [(0,vT (.sl 2 ft)),(1,vI n),(2,vI zbm),(8,.one (.ow 448 0)),(9,vI i)] [] [(448,⟨true,1,(zgp ft i).map λl=>[.sl 2 l],0,true⟩)]) (λi=>i<=n/\(i=0\/(zgp ft i).length<=zbm)) (λi=>n-i) 0 (zab ?_) ⟨Qy _,Or.inl rfl⟩ ?_
 ·refine Zj ?_;rfl
 ·intro i ⟨hi,h0⟩;by_cases hin:i<n
  ·have hin':((i:Int)<(n:Int))=True:=eq_true Zi;obtain⟨r,hr⟩:∃r,n-i=r+1:=⟨n-i-1,Zi⟩;have hpow:=hok (i+1) Zi;rw[<-zj6]at hpow;have hLl:(zgp ft i).length<=1048577:=by
    rcases h0 with rfl|h0
    ·show 1<=_;omega
    ·omega
   have hnx:zgp ft (i+1)=(zgp ft i).flatMap λl=>ft.map λt=>l++[t]:=rfl;have hel:=zin ft i;rw[hnx]at hpow;generalize hO:zgp ft i=out at *;have hfl:∀l∈out,∀c∈l.flatten,c.flat=true:=λl hl c hc=>by
    obtain⟨q,hq,hc⟩:=Ki.1 hc;obtain⟨s,ao,n,cc,rfl⟩:=hsh q ((hel l hl).2 q hq);simp only[Qs,K9,or_false]at hc;rcases hc with rfl|rfl<;>rfl
   refine Zk hin' ?_;refine za2 Zg ?_;refine Zj ?_;refine zad (λk:Nat=>hd [(0,vT (.sl 2 ft)),(1,vI n),(2,vI zbm),(8,vT (rwS out)),(9,vI i),(10,.one (.ow 640 0)),(11,vI k)] [] [(640,⟨true,1,((out.take k).flatMap λl=>ft.map λt=>l++[t]).map λl=>[.sl 2 l],0,true⟩)]) (λk=>k<=out.length/\((out.take k).flatMap λl=>ft.map λt=>l++[t]).length<=zbm) (λk=>out.length-k) 0 (Wk.fzO 448 ?_) ⟨Qy _,by simp⟩ ?_
   ·refine Zj ?_;refine zab ?_;refine Zj ?_;rfl
   ·intro k ⟨hk,hkm⟩;by_cases hlk:k<out.length
    ·have hpart:=zp8 (λl=>ft.map λt=>l++[t]) out k hlk;have hpre:∀j,j<=ft.length->((out.take k).flatMap λl=>ft.map λt=>l++[t]).length+j<=(out.flatMap λl=>ft.map λt=>l++[t]).length:=λj hj=>by
      have h1:((out.take (k+1)).flatMap λl=>ft.map λt=>l++[t]).length<=(out.flatMap λl=>ft.map λt=>l++[t]).length:=by
       conv=>rhs;rw[<-Ke (k+1) out,Ye,Qb]
       omega
      rw[hpart,Qb,Qa]at h1;omega
     have hlo:=(hel out[k] (Qe hlk)).1;have hflk:=hfl out[k] (Qe hlk);generalize ((out.take k).flatMap λl=>ft.map λt=>l++[t])=P at hkm hpart hpre⊢;refine Zk hlk ?_;refine zad (λj:Nat=>hd [(0,vT (.sl 2 ft)),(1,vI n),(2,vI zbm),(8,vT (rwS out)),(9,vI i),(10,.one (.ow 640 0)),(11,vI k),(12,vI j)] [] [(640,⟨true,1,(P++(ft.take j).map λt=>out[k]++[t]).map λl=>[.sl 2 l],0,true⟩)]) (λj=>j<=ft.length/\P.length+j<=zbm) (λj=>ft.length-j) 0 (zab ?_) ⟨Qy _,hkm⟩ ?_
     ·exact Zg
     ·intro j ⟨hj,hjm⟩;have hPl:(P++(ft.take j).map λt=>out[k]++[t]).length=P.length+j:=by
       rw[Qb,Qa,Qc];omega
      by_cases hlj:j<ft.length
      ·obtain⟨s,ao,nn,cc,hrow⟩:=hsh ft[j] (Qe hlj);have hrs:(P++(ft.take (j+1)).map λt=>out[k]++[t])=(P++(ft.take j).map λt=>out[k]++[t])++[out[k]++[[.str s,.vs ao nn cc]]]:=by
        rw[Qg hlj,Qq,Q7,Kl,hrow]
       have hget:ft.getD j []=[.str s,.vs ao nn cc]:=by rw[List.getD_eq_getElem?_getD,List.getElem?_eq_getElem hlj];exact hrow
       generalize (P++(ft.take j).map λt=>out[k]++[t])=W at hPl hrs⊢;by_cases hmost:P.length+j=zbm
       ·have hmost':((W.length:Int)==(zbm:Int))=true:=by rw[Jo];omega
        have hfail:¬(out.flatMap λl=>ft.map λt=>l++[t]).length<=zbm:=by
         have:=hpre (j+1) Zi;omega
        exact absurd hpow hfail
       ·have hmost':((W.length:Int)==(zbm:Int))=false:=by rw[Yf];omega
        have hb1:out[k].length<=4294967295:=by omega
        have hb2:W.length<=4294967295:=by omega
        refine Zr hlj hmost' ?_;refine drawn Zh ?_;have hkget:(out.map λl=>[T.sl 2 l]).getD k []=[.sl 2 out[k]]:=by rw[List.getD_eq_getElem?_getD,List.getElem?_map,List.getElem?_eq_getElem hlk];rfl
        simp -implicitDefEqProofs only[go_sem,hlk,hlj,hkget,hget];have hb3:out[k].length<=4294967296:=by omega
        have hfr:flR out[k]=true:=by
         have:∀l:List (List T),(∀q∈l,q∈ft)->flR l=true:=by
          intro l;induction l with
          | nil=>intro _;rfl
          | cons q l ih =>
           intro h;obtain⟨s,ao,n,c,rfl⟩:=hsh q (h q (by simp));rw[flR,ih λx hx=>h x (by simp[hx])];rfl
         exact this _ (hel out[k] (Qe hlk)).2
        refine za7 Xu ?_;refine Xv ?_;refine zcx true Xu ?_;refine Xv ?_;refine za7 Xu ?_;refine Xv ?_;refine zcx true Xu ?_;refine Xv ?_;refine za7 Xu ?_;refine Xv ?_;refine zcx true Xu ?_;refine Xv ?_;refine⟨Zh,j+1,⟨hlj,Zi⟩,Zi,zab ?_⟩;refine Zj ?_;rw[zaf Zi,hrs,Qq];exact⟨rfl,rfl⟩
      ·have ht:ft.take j=ft:=Ql Zi;refine Zk hlj ?_;refine⟨k+1,⟨hlk,by rw[hpart,Qb,Qa];omega⟩,Zi,zab ?_⟩;refine Zj ?_;rw[zaf Zi,hpart,ht];exact⟨rfl,rfl⟩
    ·have ht:out.take k=out:=Ql Zi;rw[ht]at hkm;simp -implicitDefEqProofs only[go_sem,hlk,ht];refine⟨i+1,⟨hin,Or.inr (by rw[hnx];exact hkm)⟩,Zi,zcn 448 640 ?_⟩;refine Zj ?_;rw[zaf Zi,hnx];exact⟨rfl,rfl⟩
  ·have hin':((i:Int)<(n:Int))=False:=eq_false Zi;have hii:i=n:=by omega
   rw[hii]at hin'⊢;exact Zl hin'
theorem qar (ts:List Tm)(n zbm:Nat)(hts:ts.length<=1048576)(hn:n<=1048576)(hm:zbm<=1048576)(hok:∀j,j<=n->ts.length^j<=zbm) :
  RT Tryz.prog 39 2 (ts.map tmC) [iD n,iD zbm] [.one (qop (zco ts n)),bD true]:=by
 refine⟨Tryz.call39,λw v vs A ht hds=>?_⟩
 obtain⟨ao,cap,rfl,q1,q2,q3⟩:=ht
 rw[Qa]at q1⊢
 obtain⟨fl,f0,f2⟩:∃fl,(fl=[]\/∃b o,ao=some ⟨b,o,none⟩/\b<w.heap.size/\zal w (λb=>b<w.heap.size/\A b) b o 2 fl)/\zby w (λb=>b<w.heap.size/\A b) fl ts:=by
  rcases q3 with q3|⟨b,o,e,hb,q3⟩
  ·have:ts=[]:=J8.1 q3;subst this;exact⟨[],Or.inl rfl,rfl⟩
  ·obtain⟨fl,k1,k2⟩:=zki ts o q3;exact⟨fl,Or.inr ⟨b,o,e,hb,k1⟩,k2⟩
 have hlen:=f2.len
 have hr:zbc w (λb=>b<w.heap.size) [.one (.sl 2 fl),iD n,iD zbm] (.slice ao ts.length cap::vs):=by
  refine⟨_,_,rfl,?_,zbc.keep (λ_ _=>rfl) (λb hb=>hb.1) hds⟩;show zai w _ (T.sl 2 fl) _
  unfold zai;refine⟨ao,cap,by rw[hlen],by rw[hlen];exact q1,q2,?_⟩;rcases f0 with rfl|⟨b,o,e,hb,k⟩
  ·exact Or.inl rfl
  ·exact Or.inr ⟨b,o,e,hb,zal.keep (λ_ _=>rfl) (λb hb=>hb.1) b rfl o 2 fl k⟩
 refine((l16G_c fl f2.shape n zbm Zi hn hm (by rw[hlen];exact hok)).use hr).mono ?_
 rintro e w' ⟨us,fp,rfl,ho,_,hnew,bel⟩
 obtain⟨u1,_,p1,_,rfl,rfl,r1,r2⟩:=ho
 obtain⟨u2,_,p2,_,rfl,rfl,r2,r3⟩:=r2
 obtain⟨rfl,rfl⟩:=r3
 have r2:zas w' (.bool true) u2 p2:=r2
 unfold zas at r2
 obtain⟨rfl,rfl⟩:=r2
 have r1:zas w' (rwS (zgp fl n)) u1 p1:=r1
 have hlt:=zas.lt _ _ _ r1
 have r1:=zas.rep (A:=λb=>b<w'.heap.size/\(A b\/w.heap.size<=b)) _ _ _ r1 λb hb=>⟨hlt b hb,Or.inr (hnew b (by simp[hb]))⟩
 refine⟨[u1,.bool true],rfl,⟨u1,_,rfl,?_,_,_,rfl,?_,rfl⟩,bel⟩
 ·have e1:(fl.zip ts).map (·.1)=fl:=List.map_fst_zip Zi;have e2:(fl.zip ts).map (·.2)=ts:=List.map_snd_zip Zi;have g1:=zf3 (·.1) (fl.zip ts) n;have g2:=zf3 (·.2) (fl.zip ts) n;rw[e1]at g1;rw[e2]at g2;have hel:=λl hl=>(zin (fl.zip ts) n l hl).2;rw[g1]at r1;rw[ztl,g2];generalize zgp (fl.zip ts) n=Z at r1 hel⊢;have hF:∀zl∈Z,∀z∈zl,zjk w' (λb=>b<w'.heap.size/\(A b\/w.heap.size<=b)) z.1 z.2:=λzl hzl z hz=>(f2.zip z (hel zl hzl z hz)).keep (λb hb'=>bel.block b hb'.1) λb hb'=>⟨Je hb'.1 bel.size,Or.inl hb'.2⟩;show zai w' (λb=>b<w'.heap.size/\(A b\/w.heap.size<=b)) (qop (Z.map (List.map (·.2)))) u1
  unfold zai at r1⊢;obtain⟨ao,cap,rfl,q1,q2,q3⟩:=r1;simp only[Qa,Jj,Yy]at q1 q3⊢;refine⟨ao,cap,rfl,q1,q2,?_⟩;rcases q3 with q3|⟨b,o,rfl,q4,q5⟩
  ·have:Z=[]:=J8.1 q3;rw[this];exact Or.inl rfl
  ·exact Or.inr ⟨b,o,rfl,q4,zkf Z o hF q5⟩
 ·show zai w' (λb=>b<w'.heap.size/\(A b\/w.heap.size<=b)) (T.bool true) _
  unfold zai;rfl
end
section
open Go.RowKit
theorem qr3 (ts:List Tb){k:Nat}(h:k<ts.length):((ts.take (k+1)).filter λx=>!x.pred)=((ts.take k).filter λx=>!x.pred)++if ts[k].pred=true then []else [ts[k]]:=by
 rw[Qg h,Ya]
 congr 1
 rw[J7]
 cases ts[k].pred<;>simp
theorem qpx (fs:List Tb):fcS fs=fs++if(fs.any λf=>f.ar==0)=true then []else [⟨[99,48],0,false⟩]:=rfl
theorem zml (ts:List Tb)(hl:ts.length<=1048576):FC Tryz.prog 38 [.one (tbS ts)] [.one (tbS (fcS (ts.filter λx=>!x.pred)))]:=by
 refine zam Tryz.call38 Tryz.func38 rfl Zh (zat Zh) ?_
 simp -implicitDefEqProofs only[go_sem,Tryz.results38]
 refine za2 Zg ?_
 refine Zj ?_
 refine zad (λk:Nat=>hd [(0,vT (tbS ts)),(3,.one (.ow 192 0)),(4,vB (((ts.take k).filter λx=>!x.pred).any λf=>f.ar==0)),(5,vI k)] [] [(192,⟨true,4,((ts.take k).filter λx=>!x.pred).map tbC,0,true⟩)]) (λk=>k<=ts.length) (λk=>ts.length-k) 0 (zab ?_) (Qy _) ?_
 ·refine Zj ?_;exact⟨rfl,rfl⟩
 ·intro k hk;by_cases hlt:k<ts.length
  ·have hsu:=qr3 ts hlt;have hcl:((ts.take k).filter λx=>!x.pred).length<=4294967295:=by
    have h1:=Yi (λx:Tb=>!x.pred) (ts.take k);rw[Qc]at h1;omega
   generalize ((ts.take k).filter λx=>!x.pred)=fs at hsu hcl⊢;cases hp:ts[k].pred
   ·rw[hp,if_neg (by simp)]at hsu;refine Zs hlt (za0 ts[k]) hp ?_;refine za2 Zg ?_;refine Zj ?_;refine apD true (Zu hcl) ?_;refine Zv hcl ?_;cases hc:fs.any λf=>f.ar==0
    ·refine Zs hlt (za0 ts[k]) hc ?_;refine⟨k+1,hlt,Zi,zab ?_⟩;refine Zj ?_;rw[zaf Zi,hsu,Qq,Q7,List.any_append,hc,za0 ts[k],hp];exact⟨⟨by simp,rfl⟩,rfl⟩
    ·refine Zs hlt (za0 ts[k]) hc ?_;refine⟨k+1,hlt,Zi,zab ?_⟩;refine Zj ?_;rw[zaf Zi,hsu,Qq,Q7,List.any_append,hc,za0 ts[k],hp];exact⟨⟨by simp,rfl⟩,rfl⟩
   ·rw[hp,if_pos rfl,Kh]at hsu;refine Zs hlt (za0 ts[k]) hp ?_;refine⟨k+1,hlt,Zi,zab ?_⟩;refine Zj ?_;rw[zaf Zi,hsu];exact⟨⟨rfl,rfl⟩,rfl⟩
  ·have ht:ts.take k=ts:=Ql Zi;rw[ht];have hcl:(ts.filter λx=>!x.pred).length<=4294967295:=by
    have h1:=Yi (λx:Tb=>!x.pred) ts;omega
   have hfc:=qpx (ts.filter λx=>!x.pred);generalize (ts.filter λx=>!x.pred)=fs at hfc hcl⊢;cases hc:fs.any λf=>f.ar==0
   ·rw[hc,if_neg (by simp)]at hfc;refine Zr hlt hc ?_;refine zgv (σ':=hd [(37,.one (.ow 192 0)),(38,.agg [.t (.str [99,48]),.t (.int .i64 0),.t (.bool false),.t (.vs none 0 0)])] [] [(192,⟨true,4,fs.map tbC,0,true⟩)]) (Wk.nilS 38 ?_) rfl rfl ?_
    ·refine Zj ?_;refine zab ?_;exact Zg
    refine za2 Zg ?_;refine Zj ?_;refine apD true (Zu hcl) ?_;refine Zv hcl ?_;rw[hfc,Qq,Q7,za0]
   ·rw[hc,if_pos rfl,Kh]at hfc;rw[hfc];exact Z0 hlt hc
theorem qnj {k j:Nat}(hk:k<=60)(hj:j<=3):k^j<=300000:=by
 have h1:k^j<=60^j:=Nat.pow_le_pow_left hk j
 have h2:60^j<=60^3:=Nat.pow_le_pow_right (by decide) hj
 have h3:60^3<=300000:=by decide
 omega
theorem nil_ok (fs:List Tb):TsOk fs 1 []:=⟨Kn,by simp,by simp,by simp⟩
theorem qb7 {fs:List Tb}(hf:FnOk fs)(hl:fs.length<=12){m:Nat}{ts:List Tm}(h0:m=0->ts=[])(ht:TsOk fs ((m:Int)+1) ts)(hb:(zo1 ((m:Int)+1) ts (fcS fs) []).1=true):TsOk fs ((m:Int)+1+1) (ts++(zo1 ((m:Int)+1) ts (fcS fs) []).2):=by
 by_cases hm:m=0
 ·subst hm;rw[h0 rfl];rw[show((0:Nat):Int)+1=1 by omega,zxs hf hl,Jf];exact zqo hf hl
 ·obtain⟨e1,e2⟩:=zwy (lv:=(m:Int)+1) Zi hf ht.nd;rw[e1]at hb;rw[e2];exact zli hf ht hb
theorem qjy (l:List Tm)(t:Tm):(zdg l t).length<=l.length+1:=by
 unfold zdg
 split
 ·omega
 ·have:=congrArg List.length (K6 (p:=λx=>ltT x t) (l:=l));rw[Qb]at this;simp only[Qb,Jn];omega
theorem qje (cs:List Cq)(d:Int)(hw:zow cs<=1048576):RC Tryz.prog 13 [.one (cqS cs),iD d] [.one (tmS (htV cs d)),bD (htB cs d)]:=by
 have HS:=qdu cs hw
 have HW:=qgj d 1 8
 have hv1:htB cs d=(zcy cs&&(decide (1<=d)&&decide (d<=8))&&((lvI (fnT cs) (d-1).toNat 2 (ts0 (fnT cs))).1&&(lvI (fnT cs) (d-1).toNat 2 (ts0 (fnT cs))).2.all Tm.good)):=rfl
 have hno:htB cs d=false->htV cs d=[]:=λh=>by unfold htV;rw[h,if_neg (by simp)]
 have hyes:htB cs d=true->htV cs d=(lvI (fnT cs) (d-1).toNat 2 (ts0 (fnT cs))).2:=λh=>by unfold htV;rw[h,if_pos rfl]
 cases hso:zcy cs
 ·rw[hso,Q4,Q4]at hv1;rw[hso]at HS;rw[hno hv1,hv1];refine zbs Tryz.call13 Tryz.func13 rfl Zh (zat Zh) ?_;simp -implicitDefEqProofs only[go_sem,Tryz.results13];refine callR (HS) Zg ?_;refine Zj ?_;refine zb7 Zg ?_;refine Zj ?_;rfl
 ·obtain⟨hfo,hfl⟩:=qpk hso;have hfn:fnT cs=(zp4 cs).filter λx=>!x.pred:=rfl;have hsl:(zp4 cs).length<=12:=by
   have h:=hso;unfold zp4;rw[if_pos h];unfold zcy at h;simp only[Qd,Q0]at h;exact h.2.2
  rw[hso,Q2]at hv1;rw[hso]at HS;have hin:inB d 1 8=(decide (1<=d)&&decide (d<=8)):=rfl;rw[hin]at HW;cases hdb:(decide (1<=d)&&decide (d<=8))
  ·rw[hdb,Q4]at hv1;rw[hdb]at HW;rw[hno hv1,hv1];refine zbs Tryz.call13 Tryz.func13 rfl Zh (zat Zh) ?_;simp -implicitDefEqProofs only[go_sem,Tryz.results13];refine callR (HS) Zg ?_;refine Zj ?_;refine callF (HW) Zg ?_;refine Zj ?_;refine zb7 Zg ?_;refine Zj ?_;rfl
  ·rw[hdb,Q2]at hv1;rw[hdb]at HW;simp only[Qd,Q0]at hdb;obtain⟨hd1,hd8⟩:=hdb;have HF:=zml (zp4 cs) Zi;rw[<-hfn]at HF;obtain⟨n,hn⟩:∃n:Nat,(d-1).toNat=n:=⟨_,rfl⟩;have hdn:d=(n:Int)+1:=by omega
   rw[hn]at hv1 hyes;have hall:=lv_all hfo hfl n;rw[<-hall]at hv1 hyes;have hlow:=zni hfo;have hpos:∀f∈fcS (fnT cs),0<=f.ar:=λf hf=>by
    unfold fcS at hf;rcases Qt.1 hf with hf|hf
    ·exact(hfo.pos f hf).1
    ·split at hf
     ·cases hf
     ·rw[Qv.1 hf];exact Int.le_refl _
   have hFl:(fcS (fnT cs)).length<=13:=by
    unfold fcS;rw[Qb];split<;>simp<;>omega
   have hstep:∀(m:Nat) (ts:List Tm),(m=0->ts=[])->TsOk (fnT cs) ((m:Int)+1) ts->(zo1 ((m:Int)+1) ts (fcS (fnT cs)) []).1=true->TsOk (fnT cs) ((m:Int)+1+1) (ts++(zo1 ((m:Int)+1) ts (fcS (fnT cs)) []).2):=λm ts h1 h2 h3=>qb7 hfo hfl h1 h2 h3;have hone:=fun(lv:Int) (ts:List Tm) (h8:lv<=8) (h:TsOk (fnT cs) lv ts) (f:Tb) (hf:f∈fcS (fnT cs)) (l:List Tm) (hl:l∈zco ts f.ar.toNat)=>TsOk.one hfo h8 h hf hl;have hwts:=fun(lv:Int) (ts:List Tm) (h9:lv<=9) (h:TsOk (fnT cs) lv ts)=>TsOk.wts hfo h9 h;have hnil:=nil_ok (fnT cs);generalize hF:fcS (fnT cs)=F at *;generalize fnT cs=fs at *;generalize zp4 cs=sg at *;obtain⟨V,hV⟩:∃V,V=lvS F (n+1) 1 []:=⟨_,rfl⟩;rw[<-hV]at hv1 hyes;refine zbs Tryz.call13 Tryz.func13 rfl Zh (zat Zh) ?_;simp -implicitDefEqProofs only[go_sem,Tryz.results13];refine callR (HS) Zg ?_;refine Zj ?_;refine callF (HW) Zg ?_;refine Zj ?_;refine callF (HF) Zg ?_;refine Zj ?_;refine zex Zg ?_;refine Zj ?_;refine zad (λz:Nat×List Tm=>hd [(1,vI d),(8,.one (.ow 1056 0)),(9,.one (.ow 1088 0)),(10,vI ((z.1:Int)+1))] [] [(1056,⟨true,4,F.map tbC,0,true⟩),(1088,⟨false,2,z.2.map tmC,0,true⟩)]) (λz=>z.1<=n+1/\(z.1=0->z.2=[])/\TsOk fs ((z.1:Int)+1) z.2/\V=lvS F (n+1-z.1) ((z.1:Int)+1) z.2) (λz=>n+1-z.1) (0,[]) (zab ?_) ⟨Qy _,λ_=>rfl,hnil,hV⟩ ?_
   ·exact Zg
   ·rintro⟨m,ts⟩ ⟨hm,h0,hto,heq⟩;simp only at hm h0 hto heq⊢;have htl:=hto.len;by_cases hmn:m<n+1
    ·have hle:((m:Int)+1<=d)=True:=eq_true Zi;obtain⟨r,hr⟩:∃r,n+1-m=r+1:=⟨n+1-m-1,Zi⟩;have hstep:=hstep m ts h0 hto;have hone:=hone ((m:Int)+1) ts Zi hto;rw[hr,lvS]at heq;have hlv8:(m:Int)+1<=8:=by omega
     refine Zk hle ?_;refine zb7 Zg ?_;refine Zj ?_;refine zad (λz:Nat×List Tm=>hd [(1,vI d),(8,.one (.ow 1056 0)),(9,.one (.ow 1088 0)),(10,vI ((m:Int)+1)),(11,vT (tmS z.2)),(12,vI z.1)] [] [(1056,⟨true,4,F.map tbC,0,true⟩),(1088,⟨false,2,ts.map tmC,0,true⟩)]) (λz=>z.1<=F.length/\z.2.length<=60/\zo1 ((m:Int)+1) ts F []=zo1 ((m:Int)+1) ts (F.drop z.1) z.2) (λz=>F.length-z.1) (0,[]) (zab ?_) ⟨Qy _,by simp,rfl⟩ ?_
     ·refine Zj ?_;rfl
     ·rintro⟨i,x⟩ ⟨hi,hx60,heq1⟩;simp only at hi hx60 heq1⊢;by_cases hlt:i<F.length
      ·have hfm:F[i]∈F:=Qe hlt;have hfp:=hpos _ hfm;have hf3:=(hlow _ hfm).2;have hone:=hone _ hfm;rw[Qn hlt,zo1]at heq1;cases hsk:(F[i].ar==0) != (((m:Int)+1)==1)
       ·rw[hsk,if_neg (by simp)]at heq1;have hsk':(!((F[i].ar==0)==(((m:Int)+1)==1)))=false:=hsk;have HL:=qar ts F[i].ar.toNat 300000 Zi Zi Zi λj hj=>qnj htl Zi;have har:((F[i].ar.toNat:Nat):Int)=F[i].ar:=by omega
        rw[har]at HL;have hLl:(zco ts F[i].ar.toNat).length<=300000:=by rw[zg8];exact qnj htl hf3
        generalize zco ts F[i].ar.toNat=L at HL heq1 hone hLl;refine Zs hlt (za0 F[i]) hsk' ?_;refine callRt 1088 HL (Zl hlt) ?_;refine Zj ?_;refine zad (λz:Nat×List Tm=>hd [(1,vI d),(8,.one (.ow 1056 0)),(9,.one (.ow 1088 0)),(10,vI ((m:Int)+1)),(11,vT (tmS z.2)),(12,vI i),(13,vT (qop L)),(15,vI z.1)] [] [(1056,⟨true,4,F.map tbC,0,true⟩),(1088,⟨false,2,ts.map tmC,0,true⟩)]) (λz=>z.1<=L.length/\z.2.length<=60/\runT (dsS F[i] ((m:Int)+1) ts.length) L x=runT (dsS F[i] ((m:Int)+1) ts.length) (L.drop z.1) z.2) (λz=>L.length-z.1) (0,x) (zab ?_) ⟨Qy _,hx60,rfl⟩ ?_
        ·exact Zg
        ·rintro⟨j,y⟩ ⟨hj,hy60,heq2⟩;simp only at hj hy60 heq2⊢;by_cases hlj:j<L.length
         ·have hget:(L.map λs=>[tmS s]).getD j []=[tmS L[j]]:=by rw[List.getD_eq_getElem?_getD,List.getElem?_map,List.getElem?_eq_getElem hlj];rfl
          obtain⟨ho1,ho2⟩:=hone _ (Qe hlj);have HD:=zsp (.mk F[i].name L[j]) Zi;have HP:=zyy y (.mk F[i].name L[j]) Zi;have hil:=qjy y (.mk F[i].name L[j]);rw[Qn hlj,runT]at heq2;have hds:dsS F[i] ((m:Int)+1) ts.length y L[j]=(decide (ts.length+(if((Tm.mk F[i].name L[j]).depth:Int)==(m:Int)+1 then zdg y (.mk F[i].name L[j])else y).length<=60),if((Tm.mk F[i].name L[j]).depth:Int)==(m:Int)+1 then zdg y (.mk F[i].name L[j])else y):=rfl;simp only[tmD,zr7]at HD HP;refine Zk hlj ?_;refine drawn Zh ?_;refine Zy hlt hlj hget (za0 F[i]) ?_;refine⟨Zh,?_⟩;refine callF (HD) Zg ?_;refine Zj ?_;cases hdd:((Tm.mk F[i].name L[j]).depth:Int)==(m:Int)+1
          ·rw[hdd]at hds;simp only[Qz,if_false]at hds;by_cases h60:ts.length+y.length<=60
           ·have hw60:IntKind.i64.wrap ((ts.length:Int)+(y.length:Int))=((ts.length+y.length:Nat):Int):=by rw[zay Zi Zi];omega
            have h60':((60:Int)<((ts.length+y.length:Nat):Int))=False:=eq_false Zi;rw[Ku h60]at hds;rw[hds,if_pos rfl]at heq2;simp -implicitDefEqProofs only[go_sem,hdd,hw60,h60'];refine⟨(j+1,y),⟨hlj,by simp only;omega,heq2⟩,by simp only;omega,zab ?_⟩;refine Zj ?_;rw[zaf Zi]
           ·have hw60:IntKind.i64.wrap ((ts.length:Int)+(y.length:Int))=((ts.length+y.length:Nat):Int):=by rw[zay Zi Zi];omega
            have h60':((60:Int)<((ts.length+y.length:Nat):Int))=True:=eq_true Zi;rw[Kv h60]at hds;have e2:(runT (dsS F[i] ((m:Int)+1) ts.length) L x).1=false:=by rw[heq2,hds,if_neg (by simp)]
            have e1:(zo1 ((m:Int)+1) ts F []).1=false:=by rw[heq1,e2,if_neg (by simp)]
            have e0:V=(false,[]):=by rw[heq,e1,if_neg (by simp)]
            rw[e0]at hv1;have hv1:htB cs d=false:=hv1;rw[hno hv1,hv1];simp -implicitDefEqProofs only[go_sem,hdd,hw60,h60'];refine zb7 Zg ?_;refine Zj ?_;rfl
          ·rw[hdd]at hds;simp only[if_true]at hds;refine Zk hdd ?_;refine callR (HP) Zg ?_;refine Zj ?_;by_cases h60:ts.length+(zdg y (.mk F[i].name L[j])).length<=60
           ·have hw60:IntKind.i64.wrap ((ts.length:Int)+((zdg y (.mk F[i].name L[j])).length:Int))=((ts.length+(zdg y (.mk F[i].name L[j])).length:Nat):Int):=by rw[zay Zi Zi];omega
            have h60':((60:Int)<((ts.length+(zdg y (.mk F[i].name L[j])).length:Nat):Int))=False:=eq_false Zi;rw[Ku h60]at hds;rw[hds,if_pos rfl]at heq2;refine Zr hw60 h60' ?_;refine⟨(j+1,(zdg y (.mk F[i].name L[j]))),⟨hlj,by simp only;omega,heq2⟩,by simp only;omega,zab ?_⟩;refine Zj ?_;rw[zaf Zi]
           ·have hw60:IntKind.i64.wrap ((ts.length:Int)+((zdg y (.mk F[i].name L[j])).length:Int))=((ts.length+(zdg y (.mk F[i].name L[j])).length:Nat):Int):=by rw[zay Zi Zi];omega
            have h60':((60:Int)<((ts.length+(zdg y (.mk F[i].name L[j])).length:Nat):Int))=True:=eq_true Zi;rw[Kv h60]at hds;have e2:(runT (dsS F[i] ((m:Int)+1) ts.length) L x).1=false:=by rw[heq2,hds,if_neg (by simp)]
            have e1:(zo1 ((m:Int)+1) ts F []).1=false:=by rw[heq1,e2,if_neg (by simp)]
            have e0:V=(false,[]):=by rw[heq,e1,if_neg (by simp)]
            rw[e0]at hv1;have hv1:htB cs d=false:=hv1;rw[hno hv1,hv1];refine Zr hw60 h60' ?_;refine zb7 Zg ?_;refine Zj ?_;rfl
         ·rw[Jy Zi,runT]at heq2;rw[heq2,if_pos rfl]at heq1;refine Zk hlj ?_;refine⟨(i+1,y),⟨hlt,hy60,heq1⟩,by simp only;omega,zab ?_⟩;refine Zj ?_;rw[zaf Zi]
       ·rw[hsk,if_pos rfl]at heq1;have hsk':(!((F[i].ar==0)==(((m:Int)+1)==1)))=true:=hsk;refine Zs hlt (za0 F[i]) hsk' ?_;refine⟨(i+1,x),⟨hlt,hx60,heq1⟩,by simp only;omega,zab ?_⟩;refine Zj ?_;rw[zaf Zi]
      ·rw[Jy Zi,zo1]at heq1;rw[heq1]at heq hstep;rw[if_pos rfl]at heq;have hstep:=hstep rfl;have hap:ts.length+x.length<=4294967296:=by omega
       refine Xo ?_;refine apD false (Zu hap) ?_;refine Zv hap ?_;refine⟨(m+1,ts++x),⟨Zi,by simp,?_,?_⟩,by simp only;omega,zab ?_⟩
       ·rw[show((m+1:Nat):Int)+1=(m:Int)+1+1 by omega];exact hstep
       ·simp only;rw[show n+1-(m+1)=r by omega,show((m+1:Nat):Int)+1=(m:Int)+1+1 by omega];exact heq
       ·refine Zj ?_;rw[zay Zi Zi,Qq,show((m+1:Nat):Int)+1=(m:Int)+1+1 by omega];exact⟨rfl,rfl⟩
    ·have hle:((m:Int)+1<=d)=False:=eq_false Zi;rw[show n+1-m=0 by omega,lvS]at heq;rw[heq]at hv1 hyes;have hv1:htB cs d=ts.all Tm.good:=by rw[hv1];exact Q2 _
     have hw2:=hwts ((m:Int)+1) ts Zi hto;refine Zk hle ?_;refine za2 Zg ?_;refine Zj ?_;refine zad (λk:Nat=>hd [(9,.one (.ow 1088 0)),(17,.one (.ow 3264 0)),(18,vI k)] [] [(1088,⟨false,2,ts.map tmC,0,true⟩),(3264,⟨true,2,(ts.take k).map tmC,0,true⟩)]) (λk=>k<=ts.length/\∀t∈ts.take k,t.good=true) (λk=>ts.length-k) 0 (zab ?_) ⟨Qy _,by simp⟩ ?_
     ·exact Zg
     ·intro k ⟨hk,hgk⟩;by_cases hlt:k<ts.length
      ·have hw3:=hw2 _ (Qe hlt);have HG:=zxa ts[k] Zi;have HO:=znu ts[k] Zi;have hmin:min k ts.length<=4294967295:=by omega
       simp only[tmD,zaa ts[k]]at HG HO;cases hg:ts[k].good
       ·have hv1:htB cs d=false:=by rw[hv1];exact J9.2 ⟨_,Qe hlt,by rw[hg];simp⟩
        rw[hg]at HG;rw[hno hv1,hv1];refine Zm hlt (zaa ts[k]) ?_;refine callF (HG) Zg ?_;refine Zj ?_;refine zb7 Zg ?_;refine Zj ?_;rfl
       ·rw[hg]at HG;refine Zm hlt (zaa ts[k]) ?_;refine callF (HG) Zg ?_;refine Zj ?_;refine Zm hlt (zaa ts[k]) ?_;refine callF (HO) Zg ?_;refine Zj ?_;refine za2 Zg ?_;refine Zj ?_;refine apD true (Z5 hmin) ?_;refine Z6 hmin ?_;refine⟨k+1,⟨hlt,λt ht=>?_⟩,Zi,zab ?_⟩
        ·rw[Qg hlt]at ht;rcases Qt.1 ht with ht|ht
         ·exact hgk t ht
         ·rw[Qv.1 ht];exact hg
        ·refine Zj ?_;rw[zaf Zi,Qg hlt,Qq,Q7,zaa ts[k]];exact⟨rfl,rfl⟩
      ·have ht:ts.take k=ts:=Ql Zi;rw[ht]at hgk;have hv1:htB cs d=true:=by rw[hv1];exact Qr.2 hgk
       rw[hyes hv1,hv1,ht];exact Zl hlt
end
section
open Go.RowKit
theorem htV_ok {cs:List Cq}{d:Int}(h:htB cs d=true):FnOk (fnT cs)/\TsOk (fnT cs) (2+((d-1).toNat:Nat)) (htV cs d)/\d<=8/\1<=d:=by
 have hv:htV cs d=(lvI (fnT cs) (d-1).toNat 2 (ts0 (fnT cs))).2:=by unfold htV;rw[h,if_pos rfl]
 unfold htB at h
 simp only[Qd,Q0]at h
 obtain⟨⟨h1,h2,h3⟩,h4,h5⟩:=h
 obtain⟨hfo,hfl⟩:=qpk h1
 rw[hv]
 exact⟨hfo,qnu hfo _ (zqo hfo hfl) h4,h3,h2⟩
end
def ab (n:Int):Int:=max n (-n)
theorem zsd (n:Int):ab (-n)=ab n:=by unfold ab;omega
theorem zm2 {n:Int}(h:0<=n):ab n=n:=by unfold ab;omega
def qqu:Int->List Int->Bool
 | _,[]=>true
 | p,l::ls=>decide (p<ab l)&&decide (ab l<=12)&&qqu (ab l) ls
def pcl (c:List Int):Bool:=qqu 0 c
def qiq (S:List (List Int)):Bool:=decide (S.length<=40)&&S.all pcl
def sat (a c:List Int):Bool:=c.any λl=>a.contains l
def opn (a c:List Int):List Int:=c.filter λl=>!a.contains (-l)
def fal (a c:List Int):Bool:=(opn a c).isEmpty
abbrev Ris (c:List Int):Prop:=c.Pairwise λa b=>ab a<ab b
theorem zxq:∀(c:List Int)(p:Int),qqu p c=true↔(∀l∈c,p<ab l/\ab l<=12)/\Ris c
 | [],p=>by simp[qqu,Ris]
 | l::ls,p=>by
  unfold qqu;rw[Qd,Qd,Q0,Q0,zxq ls (ab l)];simp only[Qs,forall_eq_or_imp,Ris,Jp];constructor
  ·rintro⟨⟨h1,h2⟩,h3,h4⟩;exact⟨⟨⟨h1,h2⟩,λx hx=>⟨by have:=h3 x hx;omega,(h3 x hx).2⟩⟩,λx hx=>(h3 x hx).1,h4⟩
  ·rintro⟨⟨⟨h1,h2⟩,h3⟩,h4,h5⟩;exact⟨⟨h1,h2⟩,λx hx=>⟨h4 x hx,(h3 x hx).2⟩,h5⟩
theorem qgn (c:List Int):pcl c=true↔(∀l∈c,0<ab l/\ab l<=12)/\Ris c:=zxq c 0
theorem zvv {c:List Int}(h:pcl c=true){l:Int}(hl:l∈c):0<ab l/\ab l<=12:=((qgn c).1 h).1 l hl
theorem ab_bd {l:Int}(h:0<ab l/\ab l<=12):l≠0 /\ -12<=l/\l<=12:=by unfold ab at h;omega
theorem qpq {c:List Int}(h:Ris c):∀{a b:Int},a∈c->b∈c->ab a=ab b->a=b:=by
 induction h with
 | nil=>intro a b ha;simp at ha
 | cons h1 _ ih =>
  intro a b ha hb e;rcases Qs.1 ha with ea|ha'<;>rcases Qs.1 hb with eb|hb'
  ·rw[ea,eb]
  ·have:=h1 _ hb';rw[ea]at e;omega
  ·have:=h1 _ ha';rw[eb]at e;omega
  ·exact ih ha' hb' e
theorem zhh {S:List (List Int)}(h:qiq S=true){c:List Int}(hc:c∈S):pcl c=true:=by
 unfold qiq at h
 rw[Qd,Qr]at h
 exact h.2 c hc
def ziw:List Int->Int->List Int
 | [],x=>[x]
 | y::ys,x=>if ab y<ab x then y::ziw ys x else x::y::ys
theorem zlr:∀(c:List Int)(x:Int),(ziw c x).Perm (x::c)
 | [],x=>List.Perm.refl _
 | y::ys,x=>by
  unfold ziw;split
  ·exact((zlr ys x).cons y).trans (List.Perm.swap x y ys)
  ·exact List.Perm.refl _
theorem qjj {c:List Int}{x y:Int}:y∈ziw c x↔y=x\/y∈c:=by rw[(zlr c x).mem_iff,Qs]
theorem zug (c:List Int)(x:Int):(ziw c x).length=c.length+1:=by rw[(zlr c x).length_eq,Qj]
theorem zld {a c:List Int}:sat a c=true↔∃l∈c,l∈a:=by
 unfold sat
 rw[Ju]
 simp only[List.contains_iff_mem]
theorem zuu {a c:List Int}:fal a c=true↔∀l∈c,-l∈a:=by
 unfold fal opn
 rw[List.isEmpty_iff,Yq]
 constructor
 ·intro h l hl;have:=h l hl;simpa using this
 ·intro h l hl;have:=h l hl;simpa using this
abbrev Cons (a:List Int):Prop:=∀l∈a,-l∉a
theorem qdh {a c:List Int}(ha:Cons a)(h:fal a c=true):sat a c=false:=by
 rw[<-Bool.not_eq_true,zld]
 rintro⟨l,h1,h2⟩
 exact ha l h2 (zuu.1 h l h1)
def qbx (a c:List Int):Int×Int:=if sat a c=true then (-1,0)else ((opn a c).length,(opn a c).getLast?.getD 0)
def zbm (S:List (List Int)):Int:=S.foldl (λn c=>c.foldl (λm l=>max m (ab l)) n) 0
def isM (S:List (List Int))(a:List Int):Bool:=S.all (sat a)
def sfx:Int->Nat->List (List Int)
 | _,0=>[[]]
 | v,n+1=>(sfx (v+1) n).map (v::·)++(sfx (v+1) n).map (-v::·)
def asg:Int->Nat->Nat->List Int
 | _,0,_=>[]
 | v,n+1,k=>(if k / 2^n % 2=1 then -v else v)::asg (v+1) n k
theorem zvj:∀(n:Nat)(v:Int),(sfx v n).length=2^n
 | 0,_=>rfl
 | n+1,v=>by
  unfold sfx;rw[Qb,Qa,Qa,zvj n];omega
theorem qh7:∀(n:Nat)(v:Int)(k q:Nat),asg v n (q*2^n+k)=asg v n k
 | 0,_,_,_=>rfl
 | n+1,v,k,q=>by
  unfold asg;have e:q*2^(n+1)+k=(q*2)*2^n+k:=by rw[Nat.pow_succ,Nat.mul_assoc,Nat.mul_comm 2]
  rw[e,qh7 n (v+1) k (q*2),Y9,Nat.add_mul_div_right _ _ (Nat.two_pow_pos n)];have:(k / 2^n+q*2) % 2=k / 2^n % 2:=by omega
  rw[this]
theorem zt5:∀(n:Nat)(v:Int)(k:Nat)(_:k<2^n),(sfx v n)[k]?=some (asg v n k)
 | 0,v,k,h=>by
  have:k=0:=by simpa using h
  subst this;rfl
 | n+1,v,k,h=>by
  have hl:=zvj n (v+1);unfold sfx asg;by_cases hk:k<2^n
  ·rw[List.getElem?_append_left (by rw[Qa,hl];exact hk),List.getElem?_map,zt5 n (v+1) k hk,Nat.div_eq_of_lt hk,if_neg (by simp)];rfl
  ·have h2:k-2^n<2^n:=by rw[Nat.pow_succ]at h;omega
   rw[List.getElem?_append_right (by rw[Qa,hl];omega),Qa,hl,List.getElem?_map,zt5 n (v+1) (k-2^n) h2];have hd:k / 2^n=1:=by
    rw[show k=(k-2^n)+1*2^n by omega,Nat.add_mul_div_right _ _ (Nat.two_pow_pos n),Nat.div_eq_of_lt h2]
   rw[hd,if_pos rfl];have:=qh7 n (v+1) (k-2^n) 1;rw[show 1*2^n+(k-2^n)=k by omega]at this;rw[this];rfl
theorem sfx_eq (n:Nat)(v:Int):sfx v n=(List.range (2^n)).map (asg v n):=by
 apply List.ext_getElem?
 intro k
 by_cases hk:k<2^n
 ·rw[zt5 n v k hk,List.getElem?_map,List.getElem?_range hk];rfl
 ·rw[List.getElem?_eq_none (by rw[zvj];omega),List.getElem?_eq_none (by simp;omega)]
theorem qid:∀{n:Nat}{v:Int}{t:List Int},1<=v->t∈sfx v n->t.length=n/\(∀l∈t,v<=ab l/\ab l<v+n)/\Ris t/\∀w:Int,v<=w->w<v+n->(w∈t \/ -w∈t)
 | 0,v,t,_,h=>by
  simp only[sfx,Qv]at h;subst h;refine⟨rfl,by simp,by simp[Ris],λw h1 h2=>?_⟩;simp at h2;omega
 | n+1,v,t,hv,h=>by
  unfold sfx at h;rw[Qt,Ka,Ka]at h;have key:∀x:Int,ab x=v->∀s,s∈sfx (v+1) n->(x::s).length=n+1/\(∀l∈x::s,v<=ab l/\ab l<v+((n+1:Nat):Int))/\Ris (x::s)/\∀w:Int,v<=w->w<v+((n+1:Nat):Int)->(w∈x::s \/ -w∈x::s):=λx hx s hs=>by
   obtain⟨h1,h2,h3,h4⟩:=qid Zi hs;refine⟨by rw[Qj,h1],λl hl=>?_,Jp.2 ⟨λy hy=>by have:=(h2 y hy).1;omega,h3⟩,λw hw1 hw2=>?_⟩
   ·rcases Qs.1 hl with rfl|hl
    ·omega
    ·have:=h2 l hl;omega
   ·by_cases hvw:w=v
    ·have:x=w\/x = -w:=by unfold ab at hx;omega
     rcases this with rfl|rfl<;>simp
    ·rcases h4 w Zi Zi with h|h
     ·exact Or.inl (J4 _ h)
     ·exact Or.inr (J4 _ h)
  rcases h with⟨s,hs,rfl⟩|⟨s,hs,rfl⟩
  ·exact key v (zm2 Zi) s hs
  ·exact key (-v) (by rw[zsd,zm2 Zi]) s hs
def qj5 (S:List (List Int)):Nat->List Int->Int->Option (List Int)
 | n,a,v=>if(S.any λc=>fal a c)=true then none else match n with
  | 0=>some a
  | n+1=>match qj5 S n (a++[v]) (v+1)with
   | some m=>some m
   | none=>qj5 S n (a++[-v]) (v+1)
structure Pre (a:List Int)(v:Int):Prop where
 pos:1<=v
 bd:∀l∈a,0<ab l/\ab l<v
 ris:Ris a
 all:∀w:Int,1<=w->w<v->(w∈a \/ -w∈a)
theorem Pre.cons {a:List Int}{v:Int}(h:Pre a v):Cons a:=λl hl hn=>by
 have:=qpq h.ris hl hn (zsd l).symm
 have:=h.bd l hl
 unfold ab at this;omega
theorem Pre.put {a:List Int}{v x:Int}(h:Pre a v)(hx:ab x=v):Pre (a++[x]) (v+1):=by
 refine⟨by have:=h.pos;omega,λl hl=>?_,?_,λw h1 h2=>?_⟩
 ·rcases Qt.1 hl with hl|hl
  ·have:=h.bd l hl;omega
  ·rw[Qv.1 hl];have:=h.pos;omega
 ·refine Jx.2 ⟨h.ris,by simp,λy hy z hz=>?_⟩;rw[Qv.1 hz];have:=h.bd y hy;omega
 ·by_cases hw:w=v
  ·have:x=w\/x = -w:=by unfold ab at hx;omega
   rcases this with rfl|rfl<;>simp
  ·rcases h.all w h1 Zi with h|h
   ·exact Or.inl (Ji _ h)
   ·exact Or.inr (Ji _ h)
theorem Pre.nil:Pre [] 1:=⟨Zi,by simp,by simp[Ris],λw h1 h2=>by omega⟩
theorem qsl {a:List Int}{v:Int}(h:Pre a v){c:List Int}(hf:fal a c=true){n:Nat}{t:List Int}(ht:t∈sfx v n):sat (a++t) c=false:=by
 rw[<-Bool.not_eq_true,zld]
 rintro⟨l,h1,h2⟩
 have hn:=zuu.1 hf l h1
 rcases Qt.1 h2 with h2|h2
 ·exact h.cons l h2 hn
 ·have e1:=(qid h.pos ht).2.1 l h2;have e2:=h.bd _ hn;rw[zsd]at e2;omega
theorem zvf {S:List (List Int)}{a:List Int}{v:Int}(h:Pre a v)(hv:∀c∈S,∀l∈c,0<ab l/\ab l<v)(hf:(S.any λc=>fal a c)=false):isM S a=true:=by
 unfold isM
 rw[Qr]
 intro c hc
 rw[Yh]at hf
 have hfc:=hf c hc
 rw[zuu]at hfc
 have:∃l∈c,-l∉a:=Classical.byContradiction λhh=>hfc λl hl=>Classical.byContradiction λh3=>hh ⟨l,hl,h3⟩
 obtain⟨l,hl,hn⟩:=this
 refine zld.2 ⟨l,hl,?_⟩
 have hb:=hv c hc l hl
 rcases h.all (ab l) Zi hb.2 with h|h
 ·have:ab l=l\/ab l = -l:=by unfold ab;omega
  rcases this with e|e
  ·rwa [e]at h
  ·rw[e]at h;exact absurd h hn
 ·have:ab l=l\/ab l = -l:=by unfold ab;omega
  rcases this with e|e
  ·rw[e]at h;exact absurd h hn
  ·rwa [e,Int.neg_neg]at h
theorem ztu (S:List (List Int)):∀(n:Nat)(a:List Int)(v:Int),Pre a v->(∀c∈S,∀l∈c,0<ab l/\ab l<v+n)->qj5 S n a v=((sfx v n).map (a++·)).find? (isM S)
 | n,a,v,hp,hv=>by
  unfold qj5;cases hf:S.any λc=>fal a c
  ·rw[if_neg (by simp)];cases n with
   | zero =>
    have:=zvf hp (λc hc l hl=>by have:=hv c hc l hl;simpa using this) hf;simp[sfx,this]
   | succ n =>
    have hpos:=hp.pos;have e1:=ztu S n (a++[v]) (v+1) (hp.put (zm2 Zi)) λc hc l hl=>by have:=hv c hc l hl;omega
    have e2:=ztu S n (a++[-v]) (v+1) (hp.put (by rw[zsd,zm2 Zi])) λc hc l hl=>by have:=hv c hc l hl;omega
    simp only[sfx,e1,e2,Qq,Jj,List.find?_append];have f1:((λx=>a++x)∘λx=>v::x)=λx=>(a++[v])++x:=by funext x;simp
    have f2:((λx=>a++x)∘λx => -v::x)=λx=>(a++[-v])++x:=by funext x;simp
    rw[f1,f2];cases List.find? (isM S) (List.map (λx=>(a++[v])++x) (sfx (v+1) n))<;>rfl
  ·rw[if_pos rfl];obtain⟨c,hc,hfc⟩:=Ju.1 hf
   symm
   rw[List.find?_eq_none];intro x hx hm;obtain⟨t,ht,rfl⟩:=Ka.1 hx;have h1:=qsl hp hfc ht;unfold isM at hm;rw[Qr]at hm;have:=hm c hc;rw[h1]at this;cases this
structure Ps where
 l:Int
 r:Int
 p:Int
 c:List Int
def ps0:Ps:=⟨0,0,0,[]⟩
def ndB1 (n:Nat)(s:Ps)(k:Nat)(out:List Bool):List Bool:=if out.getD (n+k) false=true then (out.set s.l.toNat true).set s.r.toNat true else out
def ndB (n:Nat)(st:List Ps):Nat->List Bool->List Bool
 | 0,out=>out
 | k+1,out=>ndB n st k (ndB1 n (st.getD k ps0) k out)
def nd0 (n m:Nat):List Bool:=(List.replicate (n+m) false).set (n+m-1) true
def nd (n:Nat)(st:List Ps):List Bool:=ndB n st st.length (nd0 n st.length)
theorem qom:∀(c:List Int)(n:Int),n<=c.foldl (λm l=>max m (ab l)) n/\∀l∈c,ab l<=c.foldl (λm l=>max m (ab l)) n
 | [],n=>⟨Int.le_refl _,by simp⟩
 | l::c,n=>by
  have h:=qom c (max n (ab l));rw[Ks];refine⟨Zi,λx hx=>?_⟩;rcases Qs.1 hx with rfl|hx
  ·omega
  ·exact h.2 x hx
theorem qil:∀(S:List (List Int))(n:Int),n<=S.foldl (λn c=>c.foldl (λm l=>max m (ab l)) n) n/\∀c∈S,∀l∈c,ab l<=S.foldl (λn c=>c.foldl (λm l=>max m (ab l)) n) n
 | [],n=>⟨Int.le_refl _,by simp⟩
 | c::S,n=>by
  have h1:=qom c n;have h:=qil S (c.foldl (λm l=>max m (ab l)) n);rw[Ks];refine⟨Zi,λd hd l hl=>?_⟩;rcases Qs.1 hd with rfl|hd
  ·have:=h1.2 l hl;omega
  ·exact h.2 d hd l hl
theorem qro {S:List (List Int)}{c:List Int}(hc:c∈S){l:Int}(hl:l∈c):ab l<=zbm S:=(qil S 0).2 c hc l hl
theorem zos (S:List (List Int)):0<=zbm S:=(qil S 0).1
theorem zsu:∀(c:List Int)(n:Int),n<=12->(∀l∈c,ab l<=12)->c.foldl (λm l=>max m (ab l)) n<=12
 | [],n,h,_=>h
 | l::c,n,h,hc=>by
  rw[Ks];exact zsu c _ (by have:=hc l (by simp);omega) λx hx=>hc x (by simp[hx])
theorem zq3:∀(S:List (List Int))(n:Int),n<=12->(∀c∈S,∀l∈c,ab l<=12)->S.foldl (λn c=>c.foldl (λm l=>max m (ab l)) n) n<=12
 | [],n,h,_=>h
 | c::S,n,h,hc=>by
  rw[Ks];exact zq3 S _ (zsu c n h (hc c (by simp))) λd hd=>hc d (by simp[hd])
theorem qen {S:List (List Int)}(h:∀c∈S,pcl c=true):zbm S<=12:=zq3 S 0 Zi λc hc _ hl=>(zvv (h c hc) hl).2
def qbq (S:List (List Int)):Option (List Int):=(sfx 1 (zbm S).toNat).find? (isM S)
theorem qhl {S:List (List Int)}(h:∀c∈S,pcl c=true):qj5 S (zbm S).toNat [] 1=qbq S:=by
 have:=zos S
 rw[ztu S _ [] 1 Pre.nil λc hc l hl=>⟨(zvv (h c hc) hl).1,by have:=qro hc hl;omega⟩]
 unfold qbq
 congr 1
 simp
theorem qfv (S:List (List Int)):qbq S=((List.range (2^(zbm S).toNat)).find? λk=>isM S (asg 1 (zbm S).toNat k)).map (asg 1 (zbm S).toNat):=by
 unfold qbq
 rw[sfx_eq,List.find?_map]
 rfl
section
open Go
structure Cu where
 code:List UInt8
 pos:Nat
 seed:Int
def Cu.b (q:Cu):Int:=if q.pos<q.code.length then ((q.code.getD q.pos 0).toNat:Int)else 0
def Cu.sd (q:Cu):Int:=IntKind.u64.wrap (IntKind.u64.wrap (IntKind.u64.wrap (q.seed*6364136223846793005)+IntKind.u64.wrap q.b)+892892)
def Cu.nx (q:Cu):Cu:=⟨q.code,q.pos+1,q.sd⟩
def Cu.v (q:Cu):Int:=if q.pos+1<=q.code.length then q.b else IntKind.i64.wrap (IntKind.u64.wrap ((BitVec.ofInt 64 (q.sd.fdiv (2^40)) &&& BitVec.ofInt 64 255).toNat:Int))
theorem Cu.v_bd (q:Cu):0<=q.v/\q.v<=255:=by
 unfold Cu.v
 split
 ·unfold Cu.b;split
  ·have:=(q.code.getD q.pos 0).toNat_lt;omega
  ·omega
 ·have h:(BitVec.ofInt 64 (q.sd.fdiv (2^40)) &&& BitVec.ofInt 64 255).toNat<=255:=by
   rw[BitVec.toNat_and];exact Nat.and_le_right
  generalize (BitVec.ofInt 64 (q.sd.fdiv (2^40)) &&& BitVec.ofInt 64 255).toNat=n at h;have e1:IntKind.u64.wrap (n:Int)=n:=by
   simp[IntKind.wrap,IntKind.bits,IntKind.signed];omega
  rw[e1];have e2:IntKind.i64.wrap (n:Int)=n:=by
   simp[IntKind.wrap,IntKind.bits,IntKind.signed];omega
  rw[e2];omega
def Cu.pick (q:Cu)(n:Int):Cu×Int:=if n<=1 then (q,0)else (q.nx,q.v.tmod n)
theorem Cu.pick_bd (q:Cu){n:Int}(h:1<=n):0<=(q.pick n).2/\(q.pick n).2<n:=by
 unfold Cu.pick
 split
 ·dsimp only;omega
 ·have h2:=q.v_bd
  dsimp only
  rw[Int.tmod_eq_emod_of_nonneg h2.1];exact⟨Int.emod_nonneg _ Zi,Int.emod_lt_of_pos _ Zi⟩
theorem Cu.pick_pos (q:Cu)(n:Int):q.pos<=(q.pick n).1.pos/\(q.pick n).1.pos<=q.pos+1:=by
 unfold Cu.pick Cu.nx
 split<;>simp
theorem Cu.pick_code (q:Cu)(n:Int):(q.pick n).1.code=q.code:=by
 unfold Cu.pick Cu.nx
 split<;>rfl
def litV (v x:Int):Int:=v-2*v*x
def clR (q:Cu):Nat->Cu×List Int
 | 0=>(q,[])
 | k+1=>if((clR q k).1.pick 3).2=0 then ((((clR q k).1.pick 3).1.pick 2).1,(clR q k).2++[litV ((k:Int)+1) ((((clR q k).1.pick 3).1.pick 2).2)])else (((clR q k).1.pick 3).1,(clR q k).2)
def clD (q:Cu)(n:Nat):Cu×List Int :=
 if(clR q n).2.take 3=[]then
  if((clR q n).1.pick 20).2=0 then (((clR q n).1.pick 20).1,[])
  else ((((((clR q n).1.pick 20).1.pick n).1.pick 2).1),[litV (1+(((clR q n).1.pick 20).1.pick n).2) ((((clR q n).1.pick 20).1.pick n).1.pick 2).2])
 else ((clR q n).1,(clR q n).2.take 3)
theorem qhk (q:Cu):∀k,q.pos<=(clR q k).1.pos/\(clR q k).1.pos<=q.pos+2*k/\(clR q k).1.code=q.code/\(clR q k).2.length<=k
 | 0=>⟨Qp _,Qp _,rfl,Qp _⟩
 | k+1=>by
  obtain⟨h1,h2,h3,h4⟩:=qhk q k;have p1:=(clR q k).1.pick_pos 3;have p2:=((clR q k).1.pick 3).1.pick_pos 2;have c1:=(clR q k).1.pick_code 3;have c2:=((clR q k).1.pick 3).1.pick_code 2;rw[clR];split
  ·refine⟨by dsimp only;omega,by dsimp only;omega,?_,?_⟩
   ·exact(c2.trans c1).trans h3
   ·simp;exact h4
  ·exact⟨by dsimp only;omega,by dsimp only;omega,c1.trans h3,by dsimp only;omega⟩
theorem qpb (q:Cu)(n:Nat):q.pos<=(clD q n).1.pos/\(clD q n).1.pos<=q.pos+2*n+3/\(clD q n).1.code=q.code/\(clD q n).2.length<=3:=by
 obtain⟨h1,h2,h3,h4⟩:=qhk q n
 have p1:=(clR q n).1.pick_pos 20
 have p2:=((clR q n).1.pick 20).1.pick_pos n
 have p3:=(((clR q n).1.pick 20).1.pick n).1.pick_pos 2
 have c1:=(clR q n).1.pick_code 20
 have c2:=((clR q n).1.pick 20).1.pick_code n
 have c3:=(((clR q n).1.pick 20).1.pick n).1.pick_code 2
 unfold clD
 split
 ·split
  ·exact⟨by dsimp only;omega,by dsimp only;omega,c1.trans h3,by simp⟩
  ·exact⟨by dsimp only;omega,by dsimp only;omega,((c3.trans c2).trans c1).trans h3,by simp⟩
 ·refine⟨by dsimp only;omega,by dsimp only;omega,h3,?_⟩
  dsimp only
  rw[Qc];omega
abbrev Lits (n:Int)(c:List Int):Prop:=∀l∈c,-n<=l/\l<=n
theorem qcb {n v x:Int}(hv:0<=v/\v<=n)(hx:0<=x/\x<2) : -n<=litV v x/\litV v x<=n:=by
 unfold litV
 have:x=0\/x=1:=by omega
 rcases this with rfl|rfl<;>omega
theorem zwe (q:Cu):∀k:Nat,Lits k (clR q k).2
 | 0=>λl hl=>by simp[clR]at hl
 | k+1=>by
  have h:=zwe q k;rw[clR];split
  ·intro l hl;rcases Qt.1 hl with hl|hl
   ·have:=h l hl;omega
   ·rw[Qv.1 hl];exact qcb Zi (Cu.pick_bd _ Zi)
  ·intro l hl;have:=h l hl;omega
theorem qjf (q:Cu)(n:Nat)(hn:1<=n):Lits n (clD q n).2:=by
 unfold clD
 split
 ·split
  ·intro l hl;simp at hl
  ·intro l hl;rw[Qv.1 hl];have:=Cu.pick_bd ((clR q n).1.pick 20).1 (n:=n) Zi;exact qcb Zi (Cu.pick_bd _ Zi)
 ·intro l hl;exact zwe q n l (Jt hl)
structure GdS (B:Nat)(n:Int)(N:Nat)(q:Cu)(x:Cu×List (List Int)):Prop where
 pos:q.pos<=x.1.pos/\x.1.pos<=q.pos+B
 code:x.1.code=q.code
 lits:∀c∈x.2,Lits n c/\c.length<=3
 len:x.2.length<=N
theorem GdS.put {B N:Nat}{n:Int}{q:Cu}{x:Cu×List (List Int)}(h:GdS B n N q x){m:Nat}(hm:1<=m)(hn:(m:Int)<=n):GdS (B+(2*m+3)) n (N+1) q ((clD x.1 m).1,x.2++[(clD x.1 m).2]):=by
 obtain⟨p1,p2,p3,p4⟩:=qpb x.1 m
 have hl:=qjf x.1 m hm
 have h0:=h.pos
 refine⟨⟨by dsimp only;omega,by dsimp only;omega⟩,p3.trans h.code,λc hc=>?_,by have:=h.len;simp;omega⟩
 rcases Qt.1 hc with hc|hc
 ·exact h.lits c hc
 ·rw[Qv.1 hc];exact⟨λl hl'=>by have:=hl l hl';omega,p4⟩
theorem GdS.pick {B N:Nat}{n:Int}{q:Cu}{x:Cu×List (List Int)}(h:GdS B n N q x)(m:Int):GdS (B+1) n N q ((x.1.pick m).1,x.2):=by
 have p:=x.1.pick_pos m
 have h0:=h.pos
 exact⟨⟨by dsimp only;omega,by dsimp only;omega⟩,(x.1.pick_code m).trans h.code,h.lits,h.len⟩
end
section
open Go.RowKit
abbrev zdn (S:List (List Int)):T:=.sl 1 (S.map λs=>[zcq s])
theorem zim (n:Int)(h : -4611686018427387904<=n/\n<=4611686018427387904):FC Tryz.prog 172 [iD n] [iD (ab n)]:=by
 refine zam Tryz.call172 Tryz.func172 rfl Zh (zat Zh) ?_
 simp -implicitDefEqProofs only[go_sem,Tryz.results172]
 rw[zay Zi Zi]
 exact znc (by unfold ab;omega)
theorem zob (n:Int)(h : -4611686018427387904<=n/\n<=4611686018427387904):FC Tryz.prog 105 [iD n] [iD (ab n)]:=by
 refine zam Tryz.call105 Tryz.func105 rfl Zh (zat Zh) ?_
 simp -implicitDefEqProofs only[go_sem,Tryz.results105]
 rw[zay Zi Zi]
 refine⟨λh=>?_,λh=>?_⟩<;>simp at h<;>exact znc (by unfold ab;omega)
def pv (c:List Int)(k:Nat):Int:=if k=0 then 0 else ab (c.getD (k-1) 0)
theorem qrl (c:List Int){k:Nat}(h:k<c.length):pv c (k+1)=ab c[k]:=by
 unfold pv
 rw[if_neg Zi,Jq,List.getD_eq_getElem?_getD,List.getElem?_eq_getElem h];rfl
theorem ab_in {l:Int}(h : -12<=l/\l<=12)(h0:l≠0):0<ab l/\ab l<=12:=by unfold ab;omega
theorem zmf (c:List Int):FC Tryz.prog 171 [.one (zcq c)] [bD (pcl c)]:=by
 refine zbz (λhw=>?_) Tryz.call171
 have hl:c.length<=9223372036854775807:=by have:=hw.1.1;simpa using this
 refine zam Tryz.call171 Tryz.func171 rfl Zh (zat Zh) ?_
 simp -implicitDefEqProofs only[go_sem,Tryz.results171]
 refine zad (λk:Nat=>hd [(0,vT (zcq c)),(5,vT (zcq c)),(6,vI c.length),(7,vI k)] [] []) (λk=>k<=c.length/\pcl c=qqu (pv c k) (c.drop k)/\(0<k -> -12<=c.getD (k-1) 0/\c.getD (k-1) 0<=12)) (λk=>c.length-k) 0 (zab ?_) ?_ ?_
 ·exact Zg
 ·exact⟨Qy _,rfl,λh=>absurd h Zi⟩
 ·intro k ⟨hk,hr,hpr⟩;by_cases hlt:k<c.length
  ·have hsu:=qrl c hlt;have hgd:c.getD k 0=c[k]:=by rw[List.getD_eq_getElem?_getD,List.getElem?_eq_getElem hlt];rfl
   rw[Qn hlt]at hr;unfold qqu at hr;have HW:=zju c[k] (-12) 12;cases h0:(c[k]==(0:Int))
   ·have h0':c[k]≠0:=by simpa using h0
    cases hwi:inB c[k] (-12) 12
    ·rw[hwi]at HW;have hno:¬ab c[k]<=12:=by
      unfold inB at hwi;simp only[Bool.and_eq_false_iff,Ko]at hwi;unfold ab;omega
     refine Zm hlt h0 ?_;refine callF (HW) Zg ?_;refine Zj ?_;rw[hr,show decide (ab c[k]<=12)=false by simpa using hno];simp
    ·rw[hwi]at HW;have hin : -12<=c[k]/\c[k]<=12:=by
      unfold inB at hwi;simpa using hwi
     have hab:=ab_in hin h0';have HA:=zim c[k] Zi;by_cases hk0:k=0
     ·have hkf:((0:Int)<(k:Int))=False:=by simp;omega
      refine Zm hlt h0 ?_;refine callF (HW) (Zl hkf) ?_;refine Zk hkf ?_;rw[zaf Zi];refine⟨k+1,⟨hlt,?_,λ_=>?_⟩,Zi,zab Zg⟩
      ·have hpv:pv c k=0:=by unfold pv;rw[if_pos hk0]
       rw[hr,hsu,hpv,show decide (0<ab c[k])=true by simpa using hab.1,show decide (ab c[k]<=12)=true by simpa using hab.2];rfl
      ·rw[Jq,hgd];exact hin
     ·have hkp:(0:Int)<k:=by omega
      have hk1:k-1<c.length:=by omega
      have hw1:IntKind.i64.wrap ((k:Int)-1)=((k-1:Nat):Int):=by rw[zay Zi Zi];omega
      have hg1:c.getD (k-1) 0=c[k-1]:=by rw[List.getD_eq_getElem?_getD,List.getElem?_eq_getElem hk1];rfl
      have hp1:=hpr Zi;rw[hg1]at hp1;have HB:=zim c[k-1] Zi;have hpv:pv c k=ab c[k-1]:=by unfold pv;rw[if_neg hk0,hg1]
      rw[hpv]at hr;refine Zm hlt h0 ?_;refine callF (HW) (by simp -implicitDefEqProofs only[go_sem,hkp,hw1,hk1,zac]) ?_;refine Zs hkp hw1 hk1 ?_;refine callF (HB) Zg ?_;refine Zj ?_;refine callF (HA) Zg ?_;refine Zj ?_;rw[zaf Zi];refine⟨λh=>?_,λh=>⟨k+1,⟨hlt,?_,λ_=>?_⟩,Zi,zab Zg⟩⟩
      ·have:¬ab c[k-1]<ab c[k]:=by simp at h;omega
       rw[hr,show decide (ab c[k-1]<ab c[k])=false by simpa using this];simp
      ·have:ab c[k-1]<ab c[k]:=by simp at h;omega
       rw[hr,hsu,show decide (ab c[k-1]<ab c[k])=true by simpa using this,show decide (ab c[k]<=12)=true by simpa using hab.2];rfl
      ·rw[Jq,hgd];exact hin
   ·have h0':c[k]=0:=by simpa using h0
    have hpv:0<=pv c k:=by unfold pv ab;split<;>omega
    refine Zm hlt h0 ?_;rw[hr,show decide (pv c k<ab c[k])=false by rw[h0'];unfold ab;simpa using hpv];simp
  ·refine Xo ?_;rw[hr,Q1 Zi];rfl
end
section
open Go.RowKit
theorem zxu (xs:List Int)(i:Nat)(v:Int)(hi:i<xs.length):zda (xs.map λs=>[T.int .i64 s]) i 0 [.int .i64 v]=(xs.set i v).map λs=>[T.int .i64 s]:=by
 unfold zda setR
 rw[List.getD_eq_getElem?_getD,List.getElem?_map,List.getElem?_eq_getElem hi]
 simp[List.map_set]
theorem qb4 (xs:List Int)(p:Int->Bool)(g:FuncId)(caps:List T)(H:∀x∈xs,FC Tryz.prog g (iD x::caps.map .one) [bD (p x)]):FC Tryz.prog 242 [.one (zcq xs),.one (.fn g caps)] [iD (zew xs p)]:=by
 refine zbz (λhw=>?_) Tryz.call242
 have hl:xs.length<=9223372036854775807:=by simpa[zee,wfT]using hw.1.1
 refine zam Tryz.call242 Tryz.func242 rfl Zh (zat Zh) ?_
 simp -implicitDefEqProofs only[go_sem,Tryz.results242]
 refine zad (λk:Nat=>hd [(0,vT (zcq xs)),(1,vT (.fn g caps)),(7,vI xs.length),(8,vI k)] [] []) (λk=>k<=xs.length/\∀x∈xs.take k,p x=false) (λk=>xs.length-k) 0 (zab ?_) ?_ ?_
 ·exact Zg
 ·simp
 ·intro k ⟨hk,hr⟩;by_cases hlt:k<xs.length
  ·simp -implicitDefEqProofs only[go_sem,zac,hlt,ne_eq];refine callF (H xs[k] (Qe hlt)) Xl ?_;simp -implicitDefEqProofs only[go_sem,ne_eq];refine⟨λh=>?_,λh=>⟨k+1,⟨hlt,zbd hlt hr h⟩,Zi,zab (by simp -implicitDefEqProofs only[go_sem];rw[zaf Zi])⟩⟩;rw[zbn hlt hr h]
  ·refine Xo ?_;rw[Ql Zi]at hr;rw[zb4 hr]
end
section
open Go.RowKit
theorem zpm (xs:List (List Int))(p:List Int->Bool)(g:FuncId)(caps:List T)(H:∀x∈xs,FC Tryz.prog g (.one (zcq x)::caps.map .one) [bD (p x)]):FC Tryz.prog 136 [.one (zdn xs),.one (.fn g caps)] [iD (zew xs p)]:=by
 refine zbz (λhw=>?_) Tryz.call136
 have hl:xs.length<=9223372036854775807:=by simpa[zee,wfT]using hw.1.1
 refine zam Tryz.call136 Tryz.func136 rfl Zh (zat Zh) ?_
 simp -implicitDefEqProofs only[go_sem,Tryz.results136]
 refine zad (λk:Nat=>hd [(0,vT (zdn xs)),(1,vT (.fn g caps)),(7,vI xs.length),(8,vI k)] [] []) (λk=>k<=xs.length/\∀x∈xs.take k,p x=false) (λk=>xs.length-k) 0 (zab ?_) ?_ ?_
 ·exact Zg
 ·simp
 ·intro k ⟨hk,hr⟩;by_cases hlt:k<xs.length
  ·simp -implicitDefEqProofs only[go_sem,zac,hlt,ne_eq];refine callF (H xs[k] (Qe hlt)) Xl ?_;simp -implicitDefEqProofs only[go_sem,ne_eq];refine⟨λh=>?_,λh=>⟨k+1,⟨hlt,zbd hlt hr h⟩,Zi,zab (by simp -implicitDefEqProofs only[go_sem];rw[zaf Zi])⟩⟩;rw[zbn hlt hr h]
  ·refine Xo ?_;rw[Ql Zi]at hr;rw[zb4 hr]
theorem zfb (xs:List (List Int))(p:List Int->Bool)(g:FuncId)(caps:List T)(H:∀x∈xs,FC Tryz.prog g (.one (zcq x)::caps.map .one) [bD (p x)]):FC Tryz.prog 78 [.one (zdn xs),.one (.fn g caps)] [bD (xs.any p)]:=by
 refine zam Tryz.call78 Tryz.func78 rfl Zh (zat Zh) ?_
 simp -implicitDefEqProofs only[go_sem,Tryz.results78]
 refine callF (zpm xs p g caps H) Zg ?_
 refine Zj ?_
 rw[zhs]
theorem qap (xs:List Int)(p:Int->Bool)(g:FuncId)(caps:List T)(H:∀x∈xs,FC Tryz.prog g (iD x::caps.map .one) [bD (p x)]):FC Tryz.prog 220 [.one (zcq xs),.one (.fn g caps)] [bD (xs.any p)]:=by
 refine zam Tryz.call220 Tryz.func220 rfl Zh (zat Zh) ?_
 simp -implicitDefEqProofs only[go_sem,Tryz.results220]
 refine callF (qb4 xs p g caps H) Zg ?_
 refine Zj ?_
 rw[zhs]
theorem zvc (c:List Int):FC Tryz.prog 170 [.one (zcq c)] [bD (!pcl c)]:=by
 refine zam Tryz.call170 Tryz.func170 rfl Zh (zat Zh) ?_
 simp -implicitDefEqProofs only[go_sem,Tryz.results170]
 refine callF (zmf c) Zg ?_
 exact Zg
theorem qr9 (S:List (List Int)):qiq S=(decide ((S.length:Int)<=40)&&!(S.any λc=>!pcl c)):=by
 unfold qiq
 congr 1
 ·rw[Yr];omega
 ·rw[List.not_any_eq_all_not];simp
theorem zjo (S:List (List Int)):FC Tryz.prog 106 [.one (zdn S)] [bD (qiq S)]:=by
 have H:=zfb S (λc=>!pcl c) 170 [] λx _=>zvc x
 rw[qr9]
 refine zam Tryz.call106 Tryz.func106 rfl Zh (zat Zh) ?_
 simp -implicitDefEqProofs only[go_sem,Tryz.results106]
 cases h:decide ((S.length:Int)<=40)
 ·exact Zl h
 ·refine Zk h ?_;refine callF (H) Zg ?_;exact Zg
theorem qe2 (xs:List Int)(s:Int):FC Tryz.prog 118 [.one (zcq xs),iD s] [bD (xs.contains s)]:=by
 refine zbz (λhw=>?_) Tryz.call118
 have hl:xs.length<=9223372036854775807:=by simpa[zee,wfT]using hw.1.1
 refine zam Tryz.call118 Tryz.func118 rfl Zh (zat Zh) ?_
 simp -implicitDefEqProofs only[go_sem,Tryz.results118]
 refine zad (λk:Nat=>hd [(0,vT (zcq xs)),(1,vT (.int .i64 s)),(5,vI k)] [] []) (λk=>k<=xs.length/\s∉xs.take k) (λk=>xs.length-k) 0 (zab ?_) ?_ ?_
 ·exact Zg
 ·simp
 ·intro k ⟨hk,hr⟩;by_cases hlt:k<xs.length
  ·refine Zx hlt ?_;refine⟨λh=>?_,λh=>?_⟩
   ·have e:xs[k]=s:=Jo.1 h;have hm:s∈xs:=e▸Qe hlt;rw[show xs.contains s=true by simpa using hm]
   ·have e:xs[k]≠s:=λe=>by simp[e]at h
    rw[zaf Zi];exact⟨k+1,⟨hlt,ze6 hlt hr e⟩,Zi,zab Zg⟩
  ·refine Xo ?_;rw[Ql Zi]at hr;rw[show xs.contains s=false by simpa using hr]
theorem qct:∀xs:List Int,flR (xs.map λs=>[T.int .i64 s])=true
 | []=>rfl
 | a::xs=>by rw[Qk];unfold flR;rw[qct xs];rfl
attribute [go_sem] qct
theorem qsa (xs:List Int)(hl:xs.length<=4294967296):FC Tryz.prog 104 [.one (zcq xs)] [.one (zcq xs)]:=by
 refine zam Tryz.call104 Tryz.func104 rfl Zh (zat Zh) ?_
 simp -implicitDefEqProofs only[go_sem,Tryz.results104]
 refine za2 Zg ?_
 refine Zj ?_
 refine apD true (by simp -implicitDefEqProofs only[go_sem,ne_eq,Qa,Qi,hl]) ?_
 simp -implicitDefEqProofs only[go_sem,ne_eq,Qa,Qi,hl]
end
section
open Go.RowKit
theorem qjn (a:List Int)(l:Int):FC Tryz.prog 221 [iD l,.one (.ptr [zcq a])] [bD (a.contains l)]:=by
 have H:=zpe a l
 refine zam Tryz.call221 Tryz.func221 rfl Zh (zat Zh) ?_
 simp -implicitDefEqProofs only[go_sem,Tryz.results221]
 refine callF (H) Zg ?_
 exact Zg
theorem zo2 (c a:List Int):FC Tryz.prog 174 [.one (zcq c),.one (zcq a)] [bD (sat a c)]:=by
 have H:=qap c (λl=>a.contains l) 221 [.ptr [zcq a]] λl _=>qjn a l
 unfold sat
 refine zam Tryz.call174 Tryz.func174 rfl Zh (zat Zh) ?_
 simp -implicitDefEqProofs only[go_sem,Tryz.results174]
 refine frzX 3 rfl rfl ?_
 refine Zj ?_
 refine callF (H) Zg ?_
 exact Zg
end
section
open Go.RowKit
theorem qd2:∀{S:List (List Int)},zdo (S.map λs=>[zcq s])->∀{c:List Int},c∈S->wfT (zcq c)
 | [],_,c,hc=>by simp at hc
 | x::S,h,c,hc=>by
  have h':zp6 [zcq x]/\zdo (S.map λs=>[zcq s]):=h;rcases Qs.1 hc with rfl|hc
  ·exact h'.1.1
  ·exact qd2 h'.2 hc
theorem qnh {S:List (List Int)}(h:zdo (S.map λs=>[zcq s])){c:List Int}(hc:c∈S):c.length<=9223372036854775807:=by
 have:=(qd2 h hc).1
 simpa using this
abbrev Sm (c:List Int):Prop:=∀l∈c,-1073741824<=l/\l<=1073741824
theorem qn5 {c:List Int}(h:pcl c=true):Sm c:=λl hl=>by have:=ab_bd (zvv h hl);omega
theorem ql9 (a c:List Int){k:Nat}(h:k<c.length):opn a (c.take (k+1))=opn a (c.take k)++if a.contains (-c[k])=true then []else [c[k]]:=by
 unfold opn
 rw[Qg h,Ya]
 congr 1
 rw[J7]
 cases a.contains (-c[k])<;>simp
theorem qpg (a c:List Int):(opn a c).length<=c.length:=Yi _ _
theorem zvk (c a:List Int)(hc:Sm c):FC Tryz.prog 117 [.one (zcq c),.one (zcq a)] [iD (qbx a c).1,iD (qbx a c).2]:=by
 refine zbz (λhw=>?_) Tryz.call117
 have hl:c.length<=9223372036854775807:=by have:=hw.1.1;simpa using this
 refine zam Tryz.call117 Tryz.func117 rfl Zh (zat Zh) ?_
 simp -implicitDefEqProofs only[go_sem,Tryz.results117]
 refine zad (λk:Nat=>hd [(0,vT (zcq c)),(1,vT (zcq a)),(6,vI (opn a (c.take k)).length),(7,vT (.int .i64 ((opn a (c.take k)).getLast?.getD 0))),(8,vI k)] [] []) (λk=>k<=c.length/\∀l∈c.take k,l∉a) (λk=>c.length-k) 0 (zab ?_) ?_ ?_
 ·refine Zj ?_;exact⟨rfl,rfl⟩
 ·simp
 ·intro k ⟨hk,hr⟩;by_cases hlt:k<c.length
  ·have hb:=hc c[k] (Qe hlt);have H1:=qe2 a c[k];have H2:=qe2 a (-c[k]);have hwn:IntKind.i64.wrap (0-c[k]) = -c[k]:=by rw[zay Zi Zi];omega
   have hs:=ql9 a c hlt;have hlo:=qpg a (c.take k);rw[Qc]at hlo;refine Zx hlt ?_;refine callF (H1) (by simp -implicitDefEqProofs only[go_sem,zac,hlt]) ?_;refine Zx hlt ?_;refine⟨λh=>?_,λh=>?_⟩
   ·have:qbx a c=(-1,0):=by
     unfold qbx;rw[if_pos (zld.2 ⟨c[k],Qe hlt,by simpa using h⟩)]
    rw[this];exact⟨rfl,rfl⟩
   ·have hna:c[k]∉a:=by simpa using h
    have hr2:∀l∈c.take (k+1),l∉a:=λl hl=>by
     rw[Qg hlt]at hl;rcases Qt.1 hl with hl|hl
     ·exact hr l hl
     ·rw[Qv.1 hl];exact hna
    rw[hwn];refine callF (H2) (by simp -implicitDefEqProofs only[go_sem,zac,hlt]) ?_;refine Zx hlt ?_;refine⟨λh=>?_,λh=>?_⟩
    ·have h':a.contains (-c[k])=false:=by simpa using h
     rw[h',if_neg (by simp)]at hs;rw[zaf Zi];refine⟨k+1,⟨hlt,hr2⟩,Zi,zab ?_⟩;refine Zj ?_;rw[hs,zaf Zi];simp
    ·have h':a.contains (-c[k])=true:=by simpa using h
     rw[h',if_pos rfl,Kh]at hs;rw[zaf Zi];refine⟨k+1,⟨hlt,hr2⟩,Zi,zab ?_⟩;refine Zj ?_;rw[hs];exact⟨rfl,rfl⟩
  ·have hns:sat a c=false:=by
    rw[<-Bool.not_eq_true,zld];rintro⟨l,h1,h2⟩;rw[Ql Zi]at hr;exact hr l h1 h2
   refine Xo ?_;rw[Ql Zi];unfold qbx;rw[hns,if_neg (by simp)];exact⟨rfl,rfl⟩
def qs6 (S:List (List Int))(a:List Int):Int:=zew S λc=>(qbx a c).1==0
theorem qax (S:List (List Int))(a:List Int)(hS:∀c∈S,Sm c):FC Tryz.prog 63 [.one (zdn S),.one (zcq a)] [iD (qs6 S a)]:=by
 refine zbz (λhw=>?_) Tryz.call63
 have hl:S.length<=9223372036854775807:=by simpa[zee,wfT]using hw.1.1
 unfold qs6
 refine zam Tryz.call63 Tryz.func63 rfl Zh (zat Zh) ?_
 simp -implicitDefEqProofs only[go_sem,Tryz.results63]
 refine zad (λk:Nat=>hd [(0,vT (zdn S)),(1,vT (zcq a)),(5,vI k)] [] []) (λk=>k<=S.length/\∀x∈S.take k,((qbx a x).1==0)=false) (λk=>S.length-k) 0 (zab ?_) ?_ ?_
 ·exact Zg
 ·simp
 ·intro k ⟨hk,hr⟩;by_cases hlt:k<S.length
  ·have H:=zvk S[k] a (hS _ (Qe hlt));refine Zx hlt ?_;refine callF (H) Zg ?_;refine Zj ?_;refine⟨λh=>?_,λh=>?_⟩
   ·rw[zbn (p:=λc=>(qbx a c).1==0) hlt hr h]
   ·rw[zaf Zi];exact⟨k+1,⟨hlt,zbd (p:=λc=>(qbx a c).1==0) hlt hr h⟩,Zi,zab Zg⟩
  ·refine Xo ?_;rw[Ql Zi]at hr;rw[zb4 hr]
theorem qj0 {a c:List Int}(ha:Cons a):((qbx a c).1==0)=fal a c:=by
 unfold qbx
 cases h:sat a c
 ·rw[if_neg (by simp)];unfold fal;cases opn a c with
  | nil=>rfl
  | cons x xs=>simp[List.isEmpty];omega
 ·rw[if_pos rfl];cases h2:fal a c
  ·rfl
  ·rw[qdh ha h2]at h;cases h
theorem qpy (S:List (List Int)){a:List Int}(ha:Cons a):qs6 S a=match S.findIdx? (fal a)with|some i=>(i:Int)|none => -1:=by
 unfold qs6
 rw[show(λc=>(qbx a c).1==0)=fal a from funext λc=>qj0 ha]
 cases h:S.findIdx? (fal a)with
 | none =>
  exact zb4 λx hx=>List.findIdx?_eq_none_iff.1 h x hx
 | some i =>
  obtain⟨hi,h1,h2⟩:=List.findIdx?_eq_some_iff_getElem.1 h;refine zbn hi (λx hx=>?_) h1;obtain⟨j,hj,rfl⟩:=List.mem_take_iff_getElem.1 hx;have:=h2 j Zi;simpa using this
def zqh (n:Int)(c:List Int)(j:Nat):Int:=(c.take j).foldl (λm l=>max m (ab l)) n
def zmd (S:List (List Int))(k:Nat):Int:=(S.take k).foldl (λn c=>c.foldl (λm l=>max m (ab l)) n) 0
theorem zm9 (n:Int)(c:List Int){j:Nat}(h:j<c.length):zqh n c (j+1)=max (zqh n c j) (ab c[j]):=by
 unfold zqh
 rw[Qg h,K0];rfl
theorem zna (S:List (List Int)){k:Nat}(h:k<S.length):zmd S (k+1)=zqh (zmd S k) S[k] S[k].length:=by
 unfold zmd zqh
 rw[Qg h,K0,K2];rfl
theorem qa9 (S:List (List Int))(hS:∀c∈S,Sm c):FC Tryz.prog 107 [.one (zdn S)] [iD (zbm S)]:=by
 refine zbz (λhw=>?_) Tryz.call107
 have hl:S.length<=9223372036854775807:=by simpa[zee,wfT]using hw.1.1
 have hwl:∀c∈S,c.length<=9223372036854775807:=λc hc=>qnh (show zdo (S.map λs=>[zcq s]) from hw.1.2) hc
 refine zam Tryz.call107 Tryz.func107 rfl Zh (zat Zh) ?_
 simp -implicitDefEqProofs only[go_sem,Tryz.results107]
 refine zad (λk:Nat=>hd [(3,vI (zmd S k)),(8,vT (zdn S)),(9,vI S.length),(10,vI k)] [] []) (λk=>k<=S.length) (λk=>S.length-k) 0 (zab ?_) (Qy _) ?_
 ·refine Zj ?_;rfl
 ·intro k hk;by_cases hlt:k<S.length
  ·have hlk:=hwl _ (Qe hlt);have hsk:=hS _ (Qe hlt);have hsu:=zna S hlt;refine Zx hlt ?_;refine zad (λj:Nat=>hd [(3,vI (zqh (zmd S k) S[k] j)),(8,vT (zdn S)),(9,vI S.length),(10,vI k),(14,vT (zcq S[k])),(15,vI S[k].length),(16,vI j)] [] []) (λj=>j<=S[k].length) (λj=>S[k].length-j) 0 (zab ?_) (Qy _) ?_
   ·refine Zj ?_;rfl
   ·intro j hj;by_cases hjl:j<S[k].length
    ·have HA:=zim S[k][j] (by have:=hsk _ (Qe hjl);omega);refine Zx hjl ?_;refine callF (HA) Zg ?_;refine Zj ?_;rw[zaf Zi];refine⟨j+1,hjl,Zi,zab ?_⟩;refine Zj ?_;rw[zm9 _ _ hjl]
    ·have hjn:j=S[k].length:=by omega
     subst hjn;rw[<-hsu];refine Zk hjl ?_;rw[zaf Zi];exact⟨k+1,hlt,Zi,zab Zg⟩
  ·refine Xo ?_;unfold zmd;rw[Ql Zi];rfl
theorem qde (S:List (List Int))(hS:∀c∈S,Sm c):FC Tryz.prog 55 [.one (zdn S)] [iD (zbm S)]:=by
 refine zbz (λhw=>?_) Tryz.call55
 have hl:S.length<=9223372036854775807:=by simpa[zee,wfT]using hw.1.1
 have hwl:∀c∈S,c.length<=9223372036854775807:=λc hc=>qnh (show zdo (S.map λs=>[zcq s]) from hw.1.2) hc
 refine zam Tryz.call55 Tryz.func55 rfl Zh (zat Zh) ?_
 simp -implicitDefEqProofs only[go_sem,Tryz.results55]
 refine zad (λk:Nat=>hd [(0,vT (zdn S)),(3,vI (zmd S k)),(4,vI k)] [] []) (λk=>k<=S.length) (λk=>S.length-k) 0 (zab ?_) (Qy _) ?_
 ·refine Zj ?_;rfl
 ·intro k hk;by_cases hlt:k<S.length
  ·have hlk:=hwl _ (Qe hlt);have hsk:=hS _ (Qe hlt);have hsu:=zna S hlt;refine Xo ?_;refine zad (λj:Nat=>hd [(0,vT (zdn S)),(3,vI (zqh (zmd S k) S[k] j)),(4,vI k),(5,vI j)] [] []) (λj=>j<=S[k].length) (λj=>S[k].length-j) 0 (zab ?_) (Qy _) ?_
   ·refine Zj ?_;rfl
   ·intro j hj;by_cases hjl:j<S[k].length
    ·have HA:=zob S[k][j] (by have:=hsk _ (Qe hjl);omega);have HM:=zyd (zqh (zmd S k) S[k] j) (ab S[k][j]);refine Zm hlt hjl ?_;refine callF (HA) Zg ?_;refine Zj ?_;refine callF (HM) Zg ?_;refine Zj ?_;rw[zaf Zi];refine⟨j+1,hjl,Zi,zab ?_⟩;refine Zj ?_;rw[zm9 _ _ hjl]
    ·have hjn:j=S[k].length:=by omega
     have hjf:((S[k].length:Int)<(S[k].length:Int))=False:=by simp
     subst hjn;rw[<-hsu];refine Zm hlt hjf ?_;rw[zaf Zi];exact⟨k+1,hlt,Zi,zab Zg⟩
  ·refine Xo ?_;unfold zmd;rw[Ql Zi];rfl
end
section
open Go.RowKit
def qbt (l:Li):Prop:=l.pos=true/\l.atom.name=[61]/\∃p,l.atom.args=[p,p]
def tauP (ls:List Li):Prop:=∃k,∃h:k<ls.length,qbt ls[k]\/(0<k/\(ls[k-1]'Zi).atom=ls[k].atom)
noncomputable def Cq.taut (c:Cq):Bool:=dec (tauP c.lits)
noncomputable def zmb (A:List Tm)(l:Li):Int:=if l.pos=true then (zew A λa=>same a l.atom)+1 else -((zew A λa=>same a l.atom)+1)
noncomputable def prC (A:List Tm)(c:Cq):List Int:=c.lits.map (zmb A)
noncomputable def toL (A:List Tm)(cs:List Cq):List (List Int):=(cs.filter λc=>!c.taut).map (prC A)
noncomputable def frL (cs:List Cq):List Cq:=cs.filter λc=>!c.taut
noncomputable def toR (cs:List Cq):List (List Int):=if zp2 cs=true then toL (gaL cs) cs else []
theorem qrg {a:Tm}(h:a.atomOk=true)(hn:a.name=[61]):∃p q,a.args=[p,q]:=by
 unfold Tm.atomOk at h
 rw[if_pos (by simp[hn])]at h
 simp only[Qd,Q0]at h
 match ha:a.args,h.1.1 with
 | [p,q],_=>exact⟨p,q,rfl⟩
theorem zu3 {α:Type}(xs:List α)(p:α->Bool) : -1<=zew xs p/\zew xs p<=xs.length:=by
 unfold zew
 split
 ·have:=List.findIdx_le_length (p:=p) (xs:=xs);omega
 ·omega
theorem qii (A:List Tm)(l:Li)(hA:A.length<=1048576) : -1073741824<=zmb A l/\zmb A l<=1073741824:=by
 have:=zu3 A λa=>same a l.atom
 unfold zmb
 split<;>omega
theorem ix_lt {A:List Tm}(hA:zpi A){s t:Tm}(hs:s∈A)(ht:t∈A)(h:zc9 s t<0):ixT A s<ixT A t:=by
 obtain⟨h1,e1,_⟩:=zwa hs
 obtain⟨h2,e2,_⟩:=zwa ht
 have n:=zde s t
 rcases Yg (ixT A s) (ixT A t)with h3|h3|h3
 ·exact h3
 ·have:s=t:=by rw[<-e1,<-e2];congr 1
  subst this;rw[zdk.self]at h;omega
 ·have:=Yd.1 hA _ _ h2 h1 h3;rw[e1,e2]at this;omega
theorem zkq {A:List Tm}{l:Li}(h:l.atom∈A):ab (zmb A l)=ixT A l.atom+1:=by
 obtain⟨_,_,e⟩:=zwa h
 unfold zmb ab
 rw[e]
 split<;>omega
theorem zyv:∀(c:List Int)(x:Int),(∀y∈c,ab y<ab x)->ziw c x=c++[x]
 | [],x,_=>rfl
 | y::c,x,h=>by
  rw[ziw,if_pos (h y (by simp)),zyv c x λz hz=>h z (by simp[hz])];rfl
theorem qih {ls:List Li}(h:okc ls)(ht:¬tauP ls):∀k,∀hk:k<ls.length,∀j,∀hj:j<k,zc9 (ls[j]'Zi).atom ls[k].atom<0
 | 0,_,j,hj=>absurd hj Zi
 | k+1,hk,j,hj=>by
  have hs:zc9 (ls[k]'Zi).atom ls[k+1].atom<0:=by
   have h1:=(h (k+1) hk).2 Zi;simp only[Jq]at h1;unfold zd2 orE at h1;split at h1
   ·rename_i h0;exact absurd ⟨k+1,hk,Or.inr ⟨Zi,by simp only[Jq];exact(zen _ _).1 h0⟩⟩ ht
   ·exact h1
  by_cases e:j=k
  ·subst e;exact hs
  ·exact zhm (qih h ht k Zi j Zi) (Int.le_of_lt hs)
theorem zx0 {A:List Tm}(hA:zpi A){ls:List Li}(h:okc ls)(ht:¬tauP ls)(hm:∀l∈ls,l.atom∈A):∀k,k<=ls.length->(ls.take k).foldl (λc l=>ziw c (zmb A l)) []=(ls.take k).map (zmb A)
 | 0,_=>by simp
 | k+1,hk=>by
  have hlt:k<ls.length:=by omega
  rw[Qg hlt,K0,Qq,zx0 hA h ht hm k Zi];refine zyv _ _ λy hy=>?_;obtain⟨l,hl,rfl⟩:=Ka.1 hy;obtain⟨j,hj,rfl⟩:=Js hl;rw[Qc]at hj;rw[Yz,zkq (hm _ (Qe _)),zkq (hm _ (Qe _))];have:=ix_lt hA (hm _ (Qe (by omega:j<ls.length))) (hm _ (Qe hlt)) (qih h ht k hlt j Zi);omega
theorem qkp {cs:List Cq}(hg:cs.all grC=true){c:Cq}(hc:c∈cs)(ht:c.taut=false):c.lits.foldl (λz l=>ziw z (zmb (gaL cs) l)) []=prC (gaL cs) c:=by
 have hk:=qha (Qr.1 hg c hc)
 unfold Cq.ok at hk
 rw[Qd,zb8]at hk
 have h:=zx0 (qgz cs) hk.2 (λh=>by unfold Cq.taut at ht;rw[zb8.2 h]at ht;cases ht) (λl hl=>qnx.2 (ztv.2 ⟨c,hc,l,hl,rfl⟩)) c.lits.length (Qp _)
 rw[K2]at h
 exact h
theorem zyq (A:List Tm):∀(ls:List Li)(z:List Int),(ls.foldl (λc l=>ziw c (zmb A l)) z).length=z.length+ls.length
 | [],z=>by simp
 | l::ls,z=>by
  rw[Ks,zyq A ls,zug,Qj];omega
theorem qdt (A:List Tm)(hA:A.length<=1048576):∀(ls:List Li)(z:List Int),Sm z->Sm (ls.foldl (λc l=>ziw c (zmb A l)) z)
 | [],z,h=>h
 | l::ls,z,h=>by
  rw[Ks];refine qdt A hA ls _ λy hy=>?_;rcases qjj.1 hy with rfl|hy
  ·exact qii A l hA
  ·exact h y hy
theorem zxc (A:List Tm){cs:List Cq}{k:Nat}(h:k<cs.length):toL A (cs.take (k+1))=if cs[k].taut=true then toL A (cs.take k)else toL A (cs.take k)++[prC A cs[k]]:=by
 unfold toL
 rw[Qg h,Ya,Qq]
 cases hb:cs[k].taut<;>simp[J7,hb]
theorem qj2 {cs:List Cq}{k:Nat}(h:k<cs.length):frL (cs.take (k+1))=if cs[k].taut=true then frL (cs.take k)else frL (cs.take k)++[cs[k]]:=by
 unfold frL
 rw[Qg h,Ya]
 cases hb:cs[k].taut<;>simp[J7,hb]
theorem zuv (A:List Tm)(cs:List Cq):(toL A cs).length<=cs.length:=by
 unfold toL
 rw[Qa]
 exact Yi _ _
theorem qpw (cs:List Cq):(frL cs).length<=cs.length:=Yi _ _
end
section
open Go.RowKit
theorem qls (c:List Int)(x:Int)(hc:Sm c)(hx : -1073741824<=x/\x<=1073741824)(hl:c.length<=4294967290):FC Tryz.prog 115 [.one (zcq c),iD x] [.one (zcq (ziw c x))]:=by
 have HX:=zob x Zi
 refine zam Tryz.call115 Tryz.func115 rfl Zh (zat Zh) ?_
 simp -implicitDefEqProofs only[go_sem,Tryz.results115]
 refine zad (λk:Nat=>hd [(0,vT (zcq c)),(1,vI x),(5,vI k)] [] []) (λk=>k<=c.length/\ziw c x=c.take k++ziw (c.drop k) x) (λk=>c.length-k) 0 (zab ?_) ?_ ?_
 ·exact Zg
 ·simp
 ·intro k ⟨hk,hr⟩;have fin:ziw (c.drop k) x=x::c.drop k->ziw c x=c.take k++[x]++c.drop k:=λe=>by rw[hr,e];simp
  have hl0:min k c.length<=4294967296:=by omega
  have hl1:min k c.length<=4294967295:=by omega
  have hl2:min k c.length+1<=4294967295:=by omega
  have hl3:min k c.length+1+(c.length-k)<=4294967296:=by omega
  by_cases hlt:k<c.length
  ·have HA:=zob c[k] (by have:=hc _ (Qe hlt);omega);rw[Qn hlt]at hr fin;by_cases hab:ab c[k]<ab x
   ·have hab':(ab c[k]<ab x)=True:=by simpa using hab
    refine Zx hlt ?_;refine callF (HA) Zg ?_;refine Zj ?_;refine callF (HX) (Zl hab') ?_;refine Zk hab' ?_;rw[zaf Zi];refine⟨k+1,⟨hlt,?_⟩,Zi,zab Zg⟩;rw[hr,show ziw (c[k]::c.drop (k+1)) x=c[k]::ziw (c.drop (k+1)) x by rw[ziw,if_pos hab],Qg hlt,Kl];rfl
   ·have hab':(ab c[k]<ab x)=False:=by simpa using hab
    have hf:=fin (by rw[ziw,if_neg hab]);rw[<-Qn hlt]at hf;rw[hf];refine Zx hlt ?_;refine callF (HA) Zg ?_;refine Zj ?_;refine callF (HX) (Zl hab') ?_;refine Zk hab' ?_;refine drawn Zh ?_;refine Zj ?_;refine za7 (by simp -implicitDefEqProofs only[go_sem,hk,<-Jm]) ?_;simp -implicitDefEqProofs only[go_sem,hk,<-Jm];refine zcx true (by simp -implicitDefEqProofs only[go_sem,ne_eq,Qa,Qc,Qi,hl0]) ?_;simp -implicitDefEqProofs only[go_sem,ne_eq,Qa,Qc,Qi,hl0];refine za7 Zg ?_;refine Zj ?_;refine zcx true (by simp -implicitDefEqProofs only[go_sem,ne_eq,Qa,Qb,Qc,hl1]) ?_;simp -implicitDefEqProofs only[go_sem,ne_eq,Qa,Qb,Qc,hl1];refine⟨hk,?_⟩;rw[<-Jm,K2,<-Yc];refine zcx true Ve ?_;simp -implicitDefEqProofs only[go_sem,ne_eq,Qa,Qb,Qc,Qj,Qo,Qm,hl3];refine⟨Zh,?_⟩;rw[Qq,Qq];rfl
  ·have hf:=fin (by rw[Q1 Zi];rfl);rw[hf];refine Xo ?_;refine drawn Zh ?_;refine Zj ?_;refine za7 (by simp -implicitDefEqProofs only[go_sem,hk,<-Jm]) ?_;simp -implicitDefEqProofs only[go_sem,hk,<-Jm];refine zcx true (by simp -implicitDefEqProofs only[go_sem,ne_eq,Qa,Qc,Qi,hl0]) ?_;simp -implicitDefEqProofs only[go_sem,ne_eq,Qa,Qc,Qi,hl0];refine za7 Zg ?_;refine Zj ?_;refine zcx true (by simp -implicitDefEqProofs only[go_sem,ne_eq,Qa,Qb,Qc,hl1]) ?_;simp -implicitDefEqProofs only[go_sem,ne_eq,Qa,Qb,Qc,hl1];refine⟨hk,?_⟩;rw[<-Jm,K2,<-Yc];refine zcx true Ve ?_;simp -implicitDefEqProofs only[go_sem,ne_eq,Qa,Qb,Qc,Qj,Qo,Qm,hl3];refine⟨Zh,?_⟩;rw[Qq,Qq];rfl
end
end Go.Proofs.YtmhbmpbgpjljeaaGreat
