/-
  The walk over plain data, and contracts of functions of the program and of its laws.
  Conditions: those that each theorem names.
-/
import Derived.Test.YtmhbmpbgpjljeaaGreatQL10
import Derived.Test.YtmhbmpbgpjljeaaGreatQL5
import Derived.Test.YtmhbmpbgpjljeaaGreatQL6
import Derived.Test.YtmhbmpbgpjljeaaGreatQL9
namespace Go.Proofs.YtmhbmpbgpjljeaaGreat
set_option linter.unusedSimpArgs false
set_option linter.unusedVariables false
set_option linter.unusedSectionVars false
set_option maxRecDepth 4000
set_option maxHeartbeats 8000000
section
open Go.RowKit
theorem qk3 {c:Cq}{k:Nat}(h:k<c.lits.length)(h1:qbt c.lits[k]\/(0<k/\(c.lits[k-1]'Zi).atom=c.lits[k].atom)):c.taut=true:=zb8.2 ⟨k,h,h1⟩
theorem zqx {c:Cq}{k:Nat}(h:k<c.lits.length)(h1:qbt c.lits[k]\/∃j,∃hj:j<c.lits.length,k=j+1/\c.lits[j].atom=c.lits[k].atom):c.taut=true:=qk3 h (by
 rcases h1 with h1|⟨j,hj,rfl,h1⟩
 ·exact Or.inl h1
 ·exact Or.inr ⟨Zi,by simpa using h1⟩)
def ntb (ls:List Li)(n:Nat):Prop:=∀k (h:k<ls.length),k<n->¬(qbt ls[k]\/(0<k/\(ls[k-1]'Zi).atom=ls[k].atom))
theorem zx4 {ls:List Li}{k:Nat}(h:ntb ls k)(hk:k<ls.length)(h1:¬qbt ls[k])(h2:0<k->(ls[k-1]'Zi).atom≠ls[k].atom):ntb ls (k+1):=λj hj hl=>by
 by_cases e:j=k
 ·subst e;rintro(h|h)
  ·exact h1 h
  ·exact h2 h.1 h.2
 ·exact h j hj Zi
theorem qfy {c:Cq}(h:ntb c.lits c.lits.length):c.taut=false:=by
 cases hb:c.taut
 ·rfl
 ·unfold Cq.taut at hb;obtain⟨k,hk,h1⟩:=zb8.1 hb;exact absurd h1 (h k hk hk)
inductive Way1 (l:Li):Prop where
 | wneg (h:l.pos=false)
 | woth (h:l.pos=true) (h2:(l.atom.name==[61])=false)
 | wtwo (h:l.pos=true) (h2:(l.atom.name==[61])=true) (p q:Tm) (h3:l.atom.args=[p,q]) (h4:same p q=false)
 | wone (h:l.pos=true) (h2:(l.atom.name==[61])=true) (p:Tm) (h3:l.atom.args=[p,p])
theorem way1 {l:Li}(h:l.atom.atomOk=true):Way1 l:=by
 cases h1:l.pos
 ·exact .wneg h1
 cases h2:(l.atom.name==[61])
 ·exact .woth h1 h2
 obtain⟨p,q,h3⟩:=qrg h (by simpa using h2)
 cases h4:same p q
 ·exact .wtwo h1 h2 p q h3 h4
 ·obtain rfl:=za9.1 h4;exact .wone h1 h2 p h3
theorem Way1.no {l:Li}:∀(_:Way1 l),(∃p,l.pos=true/\(l.atom.name==[61])=true/\l.atom.args=[p,p])\/¬qbt l
 | .wneg h=>Or.inr λt=>by have:=t.1;rw[h]at this;cases this
 | .woth h h2=>Or.inr λt=>by rw[t.2.1]at h2;cases h2
 | .wtwo h h2 p q h3 h4=>Or.inr λt=>by
  obtain⟨r,hr⟩:=t.2.2;rw[h3]at hr;simp only[Jv,and_true]at hr;obtain⟨rfl,rfl⟩:=hr;rw[zbh]at h4;cases h4
 | .wone h h2 p h3=>Or.inl ⟨p,h,h2,h3⟩
theorem zpy (c:Cq)(hc:c.ok=true)(hw:c.wt<=1048576):FC Tryz.prog 28 [cqD c] [bD c.taut]:=by
 have hok:=zcp hc
 have hy:=λk (h:k<c.lits.length)=>zqx (c:=c) h
 have hn:=qfy (c:=c)
 have hll:c.lits.length<=8:=zfq hc
 simp only[cqD,zap]
 generalize c.taut=R at hy hn⊢
 generalize c.lits=ls at hok hy hn hll⊢
 refine zam Tryz.call28 Tryz.func28 rfl Zh (zat Zh) ?_
 simp -implicitDefEqProofs only[go_sem,Tryz.results28]
 refine zad (λk:Nat=>hd [(1,.one (.bx 1 0)),(6,vT (liS ls)),(7,vI ls.length),(8,vI k)] [(1,[.t (liS ls)])] []) (λk=>k<=ls.length/\ntb ls k) (λk=>ls.length-k) 0 (zab ?_) ⟨Qy _,λj _ h=>by omega⟩ ?_
 ·exact Zg
 ·intro k ⟨hk,hr⟩;by_cases hlt:k<ls.length
  ·have hwy:=way1 (hok _ (Qe hlt));have hyk:=hy k hlt;have hnx:=λh1 h2=>zx4 hr hlt h1 h2;have hliq:=zaj ls[k];have hgd:=zac liC ls k hlt;have hprev:0<k->∃j,∃h:j<ls.length,k=j+1:=λh=>⟨k-1,Zi,Zi⟩;have hpv:∀j (e:k=j+1),(ls[k-1]'Zi)=ls[j]'Zi:=λj e=>by subst e;rfl
   generalize hl:ls[k]=l at hwy hyk hnx hliq hgd;have hno:=hwy.no;have HEQ:=zfp l.atom;simp only[tmD,zaa l.atom]at HEQ;have hgd2:=hgd;rw[hliq]at hgd2;rcases hwy with h1|⟨h1,h2⟩|⟨h1,h2,p,q,h3,h4⟩|⟨h1,h2,p,h3⟩
   ·have hnt:¬qbt l:=λt=>by have:=t.1;rw[h1]at this;cases this
    by_cases h0:k=0
    ·subst h0;have hlz:((0:Int)<(ls.length:Int))=True:=eq_true Zi;refine X1 ?_;refine drawn Zh ?_;refine X1 ?_;refine⟨Zh,1,⟨hlt,hnx hnt λh=>by omega⟩,Zi,zab ?_⟩;refine Zj ?_;rfl
    ·obtain⟨j,hj,rfl⟩:=hprev Zi;have hkp:((0:Int)<((j+1:Nat):Int))=True:=eq_true Zi;have hw1:IntKind.i64.wrap (((j+1:Nat):Int)-1)=(j:Int):=by rw[zay Zi Zi];omega
     have HP:=zbx ls[j].atom l.atom;have hgj:=zac liC ls j hj;rw[zaj ls[j]]at hgj;simp only[tmD,zaa ls[j].atom,zaa l.atom]at HP;simp only[Jq]at hnx;cases hs:same ls[j].atom l.atom
     ·rw[hs]at HP;refine Xs ?_;refine drawn Zh ?_;refine Xs ?_;refine zbf (HP) X2 ?_;refine Xs ?_;refine⟨Zh,j+1+1,⟨hlt,hnx hnt λ_=>zbv.1 hs⟩,Zi,zab ?_⟩;refine Zj ?_;rw[zaf Zi]
     ·rw[hs]at HP;rw[hyk (Or.inr ⟨j,hj,rfl,za9.1 hs⟩)];refine Xs ?_;refine drawn Zh ?_;refine Xs ?_;refine zbf (HP) X2 ?_;refine Xs ?_;kernel_rfl
   ·have hnt:¬qbt l:=λt=>by rw[t.2.1]at h2;cases h2
    rw[h2]at HEQ;by_cases h0:k=0
    ·subst h0;have hlz:((0:Int)<(ls.length:Int))=True:=eq_true Zi;refine X1 ?_;refine drawn Zh ?_;refine X1 ?_;refine zbf (HEQ) (by simp -implicitDefEqProofs only[go_sem,hlt,hgd2,h1,hlz]) ?_;refine X1 ?_;refine⟨Zh,1,⟨hlt,hnx hnt λh=>by omega⟩,Zi,zab ?_⟩;refine Zj ?_;rfl
    ·obtain⟨j,hj,rfl⟩:=hprev Zi;have hkp:((0:Int)<((j+1:Nat):Int))=True:=eq_true Zi;have hw1:IntKind.i64.wrap (((j+1:Nat):Int)-1)=(j:Int):=by rw[zay Zi Zi];omega
     have HP:=zbx ls[j].atom l.atom;have hgj:=zac liC ls j hj;rw[zaj ls[j]]at hgj;simp only[tmD,zaa ls[j].atom,zaa l.atom]at HP;simp only[Jq]at hnx;cases hs:same ls[j].atom l.atom
     ·rw[hs]at HP;refine Xs ?_;refine drawn Zh ?_;refine Xs ?_;refine zbf (HEQ) X2 ?_;refine Xs ?_;refine zbf (HP) X2 ?_;refine Xs ?_;refine⟨Zh,j+1+1,⟨hlt,hnx hnt λ_=>zbv.1 hs⟩,Zi,zab ?_⟩;refine Zj ?_;rw[zaf Zi]
     ·rw[hs]at HP;rw[hyk (Or.inr ⟨j,hj,rfl,za9.1 hs⟩)];refine Xs ?_;refine drawn Zh ?_;refine Xs ?_;refine zbf (HEQ) X2 ?_;refine Xs ?_;refine zbf (HP) X2 ?_;refine Xs ?_;kernel_rfl
   ·have hnt:¬qbt l:=(Way1.wtwo h1 h2 p q h3 h4).no.resolve_left (by rintro⟨r,_,_,hr⟩;rw[h3]at hr;simp only[Jv,and_true]at hr;obtain⟨rfl,rfl⟩:=hr;rw[zbh]at h4;cases h4);rw[h2]at HEQ;have HS:=zbx p q;rw[h4]at HS;simp only[tmD,zaa p,zaa q]at HS;rw[h3]at HEQ hgd2;by_cases h0:k=0
    ·subst h0;have hlz:((0:Int)<(ls.length:Int))=True:=eq_true Zi;refine X6 ?_;refine drawn Zh ?_;refine X6 ?_;refine zbf (HEQ) Vf ?_;refine X6 ?_;refine zbf (HS) Vf ?_;refine X6 ?_;refine⟨Zh,1,⟨hlt,hnx hnt λh=>by omega⟩,Zi,zab ?_⟩;refine Zj ?_;rfl
    ·obtain⟨j,hj,rfl⟩:=hprev Zi;have hkp:((0:Int)<((j+1:Nat):Int))=True:=eq_true Zi;have hw1:IntKind.i64.wrap (((j+1:Nat):Int)-1)=(j:Int):=by rw[zay Zi Zi];omega
     have HP:=zbx ls[j].atom l.atom;have hgj:=zac liC ls j hj;rw[zaj ls[j]]at hgj;simp only[tmD,zaa ls[j].atom,zaa l.atom,h3]at HP;simp only[Jq]at hnx;cases hs:same ls[j].atom l.atom
     ·rw[hs]at HP;refine Xw ?_;refine drawn Zh ?_;refine Xw ?_;refine zbf (HEQ) X5 ?_;refine Xw ?_;refine zbf (HS) X5 ?_;refine Xw ?_;refine zbf (HP) X5 ?_;refine Xw ?_;refine⟨Zh,j+1+1,⟨hlt,hnx hnt λ_=>zbv.1 hs⟩,Zi,zab ?_⟩;refine Zj ?_;rw[zaf Zi]
     ·rw[hs]at HP;rw[hyk (Or.inr ⟨j,hj,rfl,za9.1 hs⟩)];refine Xw ?_;refine drawn Zh ?_;refine Xw ?_;refine zbf (HEQ) X5 ?_;refine Xw ?_;refine zbf (HS) X5 ?_;refine Xw ?_;refine zbf (HP) X5 ?_;refine Xw ?_;kernel_rfl
   ·have hyt:R=true:=hyk (Or.inl ⟨h1,by simpa using h2,p,h3⟩);rw[h2]at HEQ;have HS:=zbx p p;rw[zbh]at HS;simp only[tmD,zaa p]at HS;rw[h3]at HEQ hgd2;rw[hyt];refine X7 ?_;refine drawn Zh ?_;refine X7 ?_;refine zbf (HEQ) Vg ?_;refine X7 ?_;refine zbf (HS) Vg ?_;refine X7 ?_;kernel_rfl
  ·have e:k=ls.length:=by omega
   subst e;rw[hn hr];exact Zl hlt
theorem qkl (c:Cq)(hc:c.ok=true)(hw:c.wt<=1048576):FC Tryz.prog 113 [cqD c] [bD c.taut]:=by
 have hok:=zcp hc
 have hy:=λk (h:k<c.lits.length)=>zqx (c:=c) h
 have hn:=qfy (c:=c)
 have hll:c.lits.length<=8:=zfq hc
 simp only[cqD,zap]
 generalize c.taut=R at hy hn⊢
 generalize c.lits=ls at hok hy hn hll⊢
 refine zam Tryz.call113 Tryz.func113 rfl Zh (zat Zh) ?_
 simp -implicitDefEqProofs only[go_sem,Tryz.results113]
 refine zad (λk:Nat=>hd [(1,.one (.bx 1 0)),(3,vI k)] [(1,[.t (liS ls)])] []) (λk=>k<=ls.length/\ntb ls k) (λk=>ls.length-k) 0 (zab ?_) ⟨Qy _,λj _ h=>by omega⟩ ?_
 ·exact Zg
 ·intro k ⟨hk,hr⟩;by_cases hlt:k<ls.length
  ·have hwy:=way1 (hok _ (Qe hlt));have hyk:=hy k hlt;have hnx:=λh1 h2=>zx4 hr hlt h1 h2;have hliq:=zaj ls[k];have hgd:=zac liC ls k hlt;have hprev:0<k->∃j,∃h:j<ls.length,k=j+1:=λh=>⟨k-1,Zi,Zi⟩;generalize hl:ls[k]=l at hwy hyk hnx hliq hgd;have hno:=hwy.no;have hgd2:=hgd;rw[hliq]at hgd2;rcases hwy with h1|⟨h1,h2⟩|⟨h1,h2,p,q,h3,h4⟩|⟨h1,h2,p,h3⟩
   ·have hnt:¬qbt l:=λt=>by have:=t.1;rw[h1]at this;cases this
    by_cases h0:k=0
    ·subst h0;have hlz:((0:Int)<(ls.length:Int))=True:=eq_true Zi;refine X1 ?_;refine drawn Zh ?_;refine X1 ?_;refine⟨Zh,?_⟩;refine drawn Zh ?_;refine X1 ?_;refine⟨Zh,1,⟨hlt,hnx hnt λh=>by omega⟩,Zi,zab ?_⟩;refine Zj ?_;rfl
    ·obtain⟨j,hj,rfl⟩:=hprev Zi;have hkp:((0:Int)<((j+1:Nat):Int))=True:=eq_true Zi;have hw1:IntKind.i64.wrap (((j+1:Nat):Int)-1)=(j:Int):=by rw[zay Zi Zi];omega
     have HP:=zd6 ls[j].atom l.atom;have hgj:=zac liC ls j hj;rw[zaj ls[j]]at hgj;simp only[tmD,zaa ls[j].atom,zaa l.atom]at HP;simp only[Jq]at hnx;cases hs:same ls[j].atom l.atom
     ·rw[hs]at HP;refine Xs ?_;refine drawn Zh ?_;refine Xs ?_;refine⟨Zh,?_⟩;refine drawn Zh ?_;refine Xs ?_;refine zbf (HP) X2 ?_;refine Xs ?_;refine⟨Zh,j+1+1,⟨hlt,hnx hnt λ_=>zbv.1 hs⟩,Zi,zab ?_⟩;refine Zj ?_;rw[zaf Zi]
     ·rw[hs]at HP;rw[hyk (Or.inr ⟨j,hj,rfl,za9.1 hs⟩)];refine Xs ?_;refine drawn Zh ?_;refine Xs ?_;refine⟨Zh,?_⟩;refine drawn Zh ?_;refine Xs ?_;refine zbf (HP) X2 ?_;refine Xs ?_;kernel_rfl
   ·have hnt:¬qbt l:=λt=>by rw[t.2.1]at h2;cases h2
    by_cases h0:k=0
    ·subst h0;have hlz:((0:Int)<(ls.length:Int))=True:=eq_true Zi;simp -implicitDefEqProofs only[go_sem,hlt,hgd2,h1,h2,hlz];refine drawn Zh ?_;simp -implicitDefEqProofs only[go_sem,hlt,hgd2,h1,h2,hlz];refine⟨Zh,?_⟩;refine drawn Zh ?_;simp -implicitDefEqProofs only[go_sem,hlt,hgd2,h1,h2,hlz];refine⟨Zh,1,⟨hlt,hnx hnt λh=>by omega⟩,Zi,zab ?_⟩;refine Zj ?_;rfl
    ·obtain⟨j,hj,rfl⟩:=hprev Zi;have hkp:((0:Int)<((j+1:Nat):Int))=True:=eq_true Zi;have hw1:IntKind.i64.wrap (((j+1:Nat):Int)-1)=(j:Int):=by rw[zay Zi Zi];omega
     have HP:=zd6 ls[j].atom l.atom;have hgj:=zac liC ls j hj;rw[zaj ls[j]]at hgj;simp only[tmD,zaa ls[j].atom,zaa l.atom]at HP;simp only[Jq]at hnx;cases hs:same ls[j].atom l.atom
     ·rw[hs]at HP;refine X3 ?_;refine drawn Zh ?_;refine X3 ?_;refine⟨Zh,?_⟩;refine drawn Zh ?_;refine X3 ?_;refine zbf (HP) Vh ?_;refine X3 ?_;refine⟨Zh,j+1+1,⟨hlt,hnx hnt λ_=>zbv.1 hs⟩,Zi,zab ?_⟩;refine Zj ?_;rw[zaf Zi]
     ·rw[hs]at HP;rw[hyk (Or.inr ⟨j,hj,rfl,za9.1 hs⟩)];refine X3 ?_;refine drawn Zh ?_;refine X3 ?_;refine⟨Zh,?_⟩;refine drawn Zh ?_;refine X3 ?_;refine zbf (HP) Vh ?_;refine X3 ?_;kernel_rfl
   ·have hnt:¬qbt l:=(Way1.wtwo h1 h2 p q h3 h4).no.resolve_left (by rintro⟨r,_,_,hr⟩;rw[h3]at hr;simp only[Jv,and_true]at hr;obtain⟨rfl,rfl⟩:=hr;rw[zbh]at h4;cases h4);have HS:=zd6 p q;rw[h4]at HS;simp only[tmD,zaa p,zaa q]at HS;rw[h3]at hgd2;by_cases h0:k=0
    ·subst h0;have hlz:((0:Int)<(ls.length:Int))=True:=eq_true Zi;refine X8 ?_;refine drawn Zh ?_;refine X8 ?_;refine zbf (HS) (by simp -implicitDefEqProofs only[go_sem,hlt,hgd2,h1,h2,Qk,Q6,Qu,Qw,Qj,Qo,zaa p,zaa q,hlz]) ?_;refine X8 ?_;refine⟨Zh,?_⟩;refine drawn Zh ?_;refine X8 ?_;refine⟨Zh,1,⟨hlt,hnx hnt λh=>by omega⟩,Zi,zab ?_⟩;refine Zj ?_;rfl
    ·obtain⟨j,hj,rfl⟩:=hprev Zi;have hkp:((0:Int)<((j+1:Nat):Int))=True:=eq_true Zi;have hw1:IntKind.i64.wrap (((j+1:Nat):Int)-1)=(j:Int):=by rw[zay Zi Zi];omega
     have HP:=zd6 ls[j].atom l.atom;have hgj:=zac liC ls j hj;rw[zaj ls[j]]at hgj;simp only[tmD,zaa ls[j].atom,zaa l.atom,h3]at HP;simp only[Jq]at hnx;cases hs:same ls[j].atom l.atom
     ·rw[hs]at HP;refine Xx ?_;refine drawn Zh ?_;refine Xx ?_;refine zbf (HS) X9 ?_;refine Xx ?_;refine⟨Zh,?_⟩;refine drawn Zh ?_;refine Xx ?_;refine zbf (HP) X9 ?_;refine Xx ?_;refine⟨Zh,j+1+1,⟨hlt,hnx hnt λ_=>zbv.1 hs⟩,Zi,zab ?_⟩;refine Zj ?_;rw[zaf Zi]
     ·rw[hs]at HP;rw[hyk (Or.inr ⟨j,hj,rfl,za9.1 hs⟩)];refine Xx ?_;refine drawn Zh ?_;refine Xx ?_;refine zbf (HS) X9 ?_;refine Xx ?_;refine⟨Zh,?_⟩;refine drawn Zh ?_;refine Xx ?_;refine zbf (HP) X9 ?_;refine Xx ?_;kernel_rfl
   ·have hyt:R=true:=hyk (Or.inl ⟨h1,by simpa using h2,p,h3⟩);have HS:=zd6 p p;rw[zbh]at HS;simp only[tmD,zaa p]at HS;rw[h3]at hgd2;rw[hyt];refine Vc ?_;refine drawn Zh ?_;refine Vc ?_;refine zbf (HS) (by simp -implicitDefEqProofs only[go_sem,hlt,hgd2,h1,h2,Qk,Q6,Qu,Qw,Qj,Qo,zaa p]) ?_;refine Vc ?_;kernel_rfl
  ·have e:k=ls.length:=by omega
   subst e;rw[hn hr];exact Zl hlt
end
section
open Go.RowKit
theorem zrz (A:List Tm)(hA:A.length<=1048576)(c:Cq)(hl:c.lits.length<=8):FC Tryz.prog 77 [.one (tmS A),cqD c] [.one (zcq (prC A c))]:=by
 have hv:prC A c=c.lits.map (zmb A):=rfl
 rw[hv]
 simp only[cqD,zap]
 generalize c.lits=ls at hl⊢
 refine zam Tryz.call77 Tryz.func77 rfl Zh (zat Zh) ?_
 simp -implicitDefEqProofs only[go_sem,Tryz.results77]
 refine za2 Zg ?_
 refine Zj ?_
 refine zad (λk:Nat=>hd [(0,vT (tmS A)),(5,.one (.ow 288 0)),(11,vT (liS ls)),(12,vI ls.length),(13,vI k)] [] [(288,⟨true,1,((ls.take k).map (zmb A)).map λs=>[.int .i64 s],0,true⟩)]) (λk=>k<=ls.length) (λk=>ls.length-k) 0 (zab ?_) (Qy _) ?_
 ·exact Zg
 ·intro k hk;by_cases hlt:k<ls.length
  ·have HI:=zph A ls[k].atom;have hb:=zu3 A λa=>same a ls[k].atom;have hz:zmb A ls[k]=if ls[k].pos=true then (zew A λa=>same a ls[k].atom)+1 else -((zew A λa=>same a ls[k].atom)+1):=rfl
   generalize (zew A λa=>same a ls[k].atom)=ix at HI hb hz;have hwp:IntKind.i64.wrap (ix+1)=ix+1:=zay Zi Zi;have hwn:IntKind.i64.wrap (0-(ix+1)) = -(ix+1):=by rw[zay Zi Zi];omega
   have ha:k<=4294967295:=by omega
   have hlk:(ls.take k).length=k:=by rw[Qc];omega
   simp only[tmD,zaa ls[k].atom]at HI;cases hp:ls[k].pos
   ·rw[hp,if_neg (by simp)]at hz;refine Zs hlt (zaj ls[k]) hp ?_;refine callF (HI) Zg ?_;refine Zj ?_;rw[hwp,hwn];refine za2 Zg ?_;refine Zj ?_;refine apD true (by simp -implicitDefEqProofs only[go_sem,ne_eq,Qa,hlk,ha]) ?_;simp -implicitDefEqProofs only[go_sem,ne_eq,Qa,hlk,ha];refine⟨k+1,hlt,Zi,zab ?_⟩;refine Zj ?_;rw[zaf Zi,Qg hlt,Qq,Q7];simp[Function.comp,hz]
   ·rw[hp,if_pos rfl]at hz;refine Zs hlt (zaj ls[k]) hp ?_;refine callF (HI) Zg ?_;refine Zj ?_;rw[hwp];refine za2 Zg ?_;refine Zj ?_;refine apD true (by simp -implicitDefEqProofs only[go_sem,ne_eq,Qa,hlk,ha]) ?_;simp -implicitDefEqProofs only[go_sem,ne_eq,Qa,hlk,ha];refine⟨k+1,hlt,Zi,zab ?_⟩;refine Zj ?_;rw[zaf Zi,Qg hlt,Qq,Q7];simp[Function.comp,hz]
  ·have ht:ls.take k=ls:=Ql Zi;exact Xy
theorem qjg (cs:List Cq)(hw:CsB cs):FC Tryz.prog 30 [.one (cqS cs)] [.one (zdn (toR cs)),bD (zp2 cs)]:=by
 have HG:=zh8 cs hw
 have hv:toR cs=if zp2 cs=true then toL (gaL cs) cs else []:=rfl
 have hv2:gaR cs=if zp2 cs=true then gaL cs else []:=rfl
 rw[hv]
 have hv3:=zyr cs
 cases hg:zp2 cs
 ·rw[hg]at HG;rw[if_neg (by simp)];generalize gaR cs=A at HG;refine zam Tryz.call30 Tryz.func30 rfl Zh (zat Zh) ?_;simp -implicitDefEqProofs only[go_sem,Tryz.results30];refine callF (HG) Zg ?_;exact Zg
 ·rw[hg,if_pos rfl]at hv2;rw[hg]at hv3;have hp:=(Qd _ _).mp hv3.symm;have hA:(gaL cs).length<=12:=Kw hp.2;have hall:cs.all grC=true:=((Qd _ _).mp hp.1).2;have h40:cs.length<=40:=Kw ((Qd _ _).mp hp.1).1;have hok:=λc (h:c∈cs)=>qha (Qr.1 hall c h);rw[hg,hv2]at HG;rw[if_pos rfl];generalize gaL cs=A at HG hA⊢;refine zam Tryz.call30 Tryz.func30 rfl Zh (zat Zh) ?_;simp -implicitDefEqProofs only[go_sem,Tryz.results30];refine callF (HG) Zg ?_;refine Zj ?_;refine za2 Zg ?_;refine Zj ?_;refine zad (λk:Nat=>hd [(4,.one (.ow 352 0)),(6,.one (.ow 512 0)),(17,vT (cqS cs)),(18,vI cs.length),(19,vI k)] [] [(352,⟨true,2,A.map tmC,0,true⟩),(512,⟨true,1,(toL A (cs.take k)).map λs=>[zcq s],0,true⟩)]) (λk=>k<=cs.length) (λk=>cs.length-k) 0 (zab ?_) (Qy _) ?_
  ·refine Zj ?_;rfl
  ·intro k hk;by_cases hlt:k<cs.length
   ·have hm:=Qe hlt;have HT:=zpy cs[k] (hok _ hm) (hw.wt _ hm);have HP:=zrz A Zi cs[k] (zfq (hok _ hm));have hs:=zxc A hlt;have htl:=zuv A (cs.take k);rw[Qc]at htl;have ha:(toL A (cs.take k)).length<=4294967295:=by omega
    simp only[cqD,zap cs[k]]at HT HP;cases ht:cs[k].taut
    ·rw[ht]at HT hs;rw[if_neg (by simp)]at hs;refine Xt ?_;refine callF (HT) Zg ?_;refine Zj ?_;refine callF (HP) Zg ?_;refine Zj ?_;refine za2 Zg ?_;refine Zj ?_;refine apD true (Zu ha) ?_;refine Zv ha ?_;refine⟨k+1,hlt,Zi,zab ?_⟩;refine Zj ?_;rw[zaf Zi,hs,Qq,Q7];exact⟨rfl,rfl⟩
    ·rw[ht]at HT hs;rw[if_pos rfl]at hs;refine Xt ?_;refine callF (HT) Zg ?_;refine Zj ?_;refine⟨k+1,hlt,Zi,zab ?_⟩;refine Zj ?_;rw[zaf Zi,hs];exact⟨rfl,rfl⟩
   ·have ht:cs.take k=cs:=Ql Zi;exact Xy
theorem qe8 (cs:List Cq)(hw:CsB cs)(hall:cs.all grC=true)(h40:cs.length<=1048576)(hA:(gaL cs).length<=1048576):RC Tryz.prog 61 [.one (cqS cs),.one (tmS (gaL cs))] [.one (zdn (toL (gaL cs) cs)),.one (cqS (frL cs))]:=by
 have hok:=λc (h:c∈cs)=>qha (Qr.1 hall c h)
 have hfa:=λc (h:c∈cs)=>qkp hall h
 generalize gaL cs=A at hA hfa⊢
 refine zbs Tryz.call61 Tryz.func61 rfl Zh (zat Zh) ?_
 simp -implicitDefEqProofs only[go_sem,Tryz.results61]
 refine za2 Zg ?_
 refine Zj ?_
 refine zex Zg ?_
 refine Zj ?_
 refine zad (λk:Nat=>hd [(0,vT (cqS cs)),(1,vT (tmS A)),(6,.one (.ow 384 0)),(7,.one (.ow 416 0)),(8,vI k)] [] [(384,⟨true,1,(toL A (cs.take k)).map λs=>[zcq s],0,true⟩),(416,⟨false,1,(frL (cs.take k)).map cqC,0,true⟩)]) (λk=>k<=cs.length) (λk=>cs.length-k) 0 (zab ?_) (Qy _) ?_
 ·refine Zj ?_;exact⟨rfl,rfl⟩
 ·intro k hk;by_cases hlt:k<cs.length
  ·have hm:=Qe hlt;have HT:=qkl cs[k] (hok _ hm) (hw.wt _ hm);have hll:=zfq (hok _ hm);have hs:=zxc A hlt;have hf:=qj2 hlt;have htl:=zuv A (cs.take k);have hfl:=qpw (cs.take k);rw[Qc]at htl hfl;have ha:(toL A (cs.take k)).length<=4294967295:=by omega
   have ha2:(frL (cs.take k)).length<=4294967295:=by omega
   have hcq:=zap cs[k];have hfk:=hfa _ hm;simp only[cqD,hcq]at HT;cases ht:cs[k].taut
   ·rw[ht]at HT hs hf;rw[if_neg (by simp)]at hs hf;have hfk:=hfk ht;generalize cs[k].lits=ls at HT hll hcq hfk;refine Zm hlt hcq ?_;refine callF (HT) Zg ?_;refine Zj ?_;refine za2 Zg ?_;refine Zj ?_;refine zad (λj:Nat=>hd [(0,vT (cqS cs)),(1,vT (tmS A)),(6,.one (.ow 384 0)),(7,.one (.ow 416 0)),(8,vI k),(9,.one (.ow 800 0)),(10,vI j)] [] [(384,⟨true,1,(toL A (cs.take k)).map λs=>[zcq s],0,true⟩),(416,⟨false,1,(frL (cs.take k)).map cqC,0,true⟩),(800,⟨true,1,((ls.take j).foldl (λz l=>ziw z (zmb A l)) []).map λs=>[.int .i64 s],0,true⟩)]) (λj=>j<=ls.length) (λj=>ls.length-j) 0 (zab ?_) (Qy _) ?_
    ·refine Zj ?_;rfl
    ·intro j hj;by_cases hlj:j<ls.length
     ·have HI:=qaa A ls[j].atom;have hb:=zu3 A λa=>same a ls[j].atom;have hz:zmb A ls[j]=if ls[j].pos=true then (zew A λa=>same a ls[j].atom)+1 else -((zew A λa=>same a ls[j].atom)+1):=rfl
      have hfs:(ls.take (j+1)).foldl (λz l=>ziw z (zmb A l)) []=ziw ((ls.take j).foldl (λz l=>ziw z (zmb A l)) []) (zmb A ls[j]):=by
       rw[Qg hlj,K0];rfl
      have hsm:=qdt A hA (ls.take j) [] (λ_ h=>by cases h);have hln:=zyq A (ls.take j) [];rw[Qc,Qo]at hln;have HP:=qls ((ls.take j).foldl (λz l=>ziw z (zmb A l)) []) (zmb A ls[j]) hsm (qii A ls[j] hA) Zi;rw[<-hfs]at HP;clear hfs;generalize ((ls.take j).foldl (λz l=>ziw z (zmb A l)) [])=z at HP;generalize (zew A λa=>same a ls[j].atom)=ix at HI hb hz;have hwp:IntKind.i64.wrap (ix+1)=ix+1:=zay Zi Zi;have hwn:IntKind.i64.wrap (0-(ix+1)) = -(ix+1):=by rw[zay Zi Zi];omega
      simp only[tmD,zaa ls[j].atom]at HI;cases hp:ls[j].pos
      ·rw[hp,if_neg (by simp)]at hz;rw[hz]at HP;refine Zz hlt hcq hlj (zaj ls[j]) hp ?_;refine callF (HI) (Z7 hlt hcq hlj (zaj ls[j]) hp) ?_;refine Zz hlt hcq hlj (zaj ls[j]) hp ?_;rw[hwp,hwn];refine callF (HP) Zg ?_;refine Zj ?_;refine⟨j+1,hlj,Zi,zcn 800 1984 ?_⟩;refine Zj ?_;rw[zaf Zi]
      ·rw[hp,if_pos rfl]at hz;rw[hz]at HP;refine Zz hlt hcq hlj (zaj ls[j]) hp ?_;refine callF (HI) (Z7 hlt hcq hlj (zaj ls[j]) hp) ?_;refine Zz hlt hcq hlj (zaj ls[j]) hp ?_;rw[hwp];refine callF (HP) Zg ?_;refine Zj ?_;refine⟨j+1,hlj,Zi,zcn 800 1984 ?_⟩;refine Zj ?_;rw[zaf Zi]
     ·have htj:ls.take j=ls:=Ql Zi;rw[htj,hfk];refine Zs hlt hcq hlj ?_;refine za2 Zg ?_;refine Zj ?_;refine apD true (by simp -implicitDefEqProofs only[go_sem,ne_eq,Qa,ha,hlt,zac,hcq]) ?_;simp -implicitDefEqProofs only[go_sem,ne_eq,Qa,ha,hlt,zac,hcq];refine zex (by simp -implicitDefEqProofs only[go_sem,hlt,zac,hcq]) ?_;refine Zm hlt hcq ?_;refine apD false (Zu ha2) ?_;refine Zv ha2 ?_;refine⟨k+1,hlt,Zi,zab ?_⟩;refine Zj ?_;rw[zaf Zi,hs,hf,Qq,Qq,Q7,Q7,hcq];exact⟨rfl,rfl,rfl⟩
   ·rw[ht]at HT hs hf;rw[if_pos rfl]at hs hf;refine Zm hlt hcq ?_;refine callF (HT) Zg ?_;refine Zj ?_;refine⟨k+1,hlt,Zi,zab ?_⟩;refine Zj ?_;rw[zaf Zi,hs,hf];exact⟨rfl,rfl,rfl⟩
  ·have ht:cs.take k=cs:=Ql Zi;rw[ht];exact Zl hlt
end
section
open Go.RowKit
theorem qsd {n:Str}{l:List Tm}(hv:zax n=false)(h:∀a∈l,voS a=[]):voS (.mk n l)=[]:=by
 rw[znr]
 show(if zax n=true then [n]else (l.map voS).flatten)=[]
 rw[hv,if_neg (by simp),List.flatten_eq_nil_iff]
 intro x hx
 obtain⟨a,ha,rfl⟩:=Ka.1 hx
 exact h a ha
theorem qpn {s:Str}(h:zbt s=true):zax s=false:=by
 cases hv:zax s
 ·rfl
 ·obtain⟨u1,_⟩:=ze7 hv;obtain⟨l1,_⟩:=zdx h;rw[u1]at l1;cases l1
theorem qn2 {cs:List Cq}{d:Int}(hb:htB cs d=true):(htV cs d).all grT=true/\(htV cs d).length<=60/\zo7 (htV cs d)<=1048576/\∀c∈cs,c.ok=true:=by
 obtain⟨hfo,ho,h8,h1⟩:=htV_ok hb
 have hg:(htV cs d).all Tm.good=true:=by
  have hv:htV cs d=(lvI (fnT cs) (d-1).toNat 2 (ts0 (fnT cs))).2:=by unfold htV;rw[hb,if_pos rfl]
  rw[hv];unfold htB at hb;simp only[Qd]at hb;exact hb.2.2
 have hok:∀c∈cs,c.ok=true:=by
  unfold htB zcy at hb;simp only[Qd]at hb;exact λc hc=>Qr.1 hb.1.1.1.2 c hc
 have hvo:∀t∈htV cs d,voS t=[]:=λt ht=>ho.from' t ht (λt=>voS t=[]) λf hf l _ ha=>qsd (qpn (zni hfo f hf).1) ha
 refine⟨Qr.2 λt ht=>?_,ho.len,?_,hok⟩
 ·unfold grT;rw[Qr.1 hg t ht,hvo t ht];simp
 ·have h2:=qew Tm.wt 240 (htV cs d) λt ht=>zpc (Qr.1 hg t ht);have h3:=Kz 240 ho.len;have:=ho.len;unfold zo7;omega
noncomputable def aiG (ts:List Tm):List Cq->List Cq->Bool×List Cq
 | [],x=>(true,x)
 | c::cs,x=>if giB c ts=true then aiG ts cs ((giV c ts).foldl zdv x)else (false,[])
noncomputable def aiB (cs:List Cq)(d:Int):Bool:=htB cs d&&(aiG (htV cs d) cs []).1
noncomputable def aiV (cs:List Cq)(d:Int):List Cq:=if aiB cs d=true then (aiG (htV cs d) cs []).2 else []
theorem qmn (x:List Cq)(q:Cq):(zdv x q).length<=x.length+1:=by unfold zdv;split<;>simp
theorem zw2 {x:List Cq}{q a:Cq}(h:a∈zdv x q):a∈x\/a=q:=by
 unfold zdv at h
 split at h
 ·exact Or.inl h
 ·rcases Qt.1 h with h|h
  ·exact Or.inl h
  ·exact Or.inr (Qv.1 h)
theorem zga:∀(L x:List Cq),(L.foldl zdv x).length<=x.length+L.length
 | [],x=>by simp
 | q::L,x=>by
  have h1:=zga L (zdv x q);have h2:=qmn x q;simp only[Ks,Qj];omega
theorem zj5:∀(L x:List Cq),∀a∈L.foldl zdv x,a∈x\/a∈L
 | [],x,a,h=>Or.inl h
 | q::L,x,a,h=>by
  rcases zj5 L (zdv x q) a h with h|h
  ·exact(zw2 h).imp id λe=>by rw[e];simp
  ·exact Or.inr (by simp[h])
theorem zu9 (c:Cq)(ts:List Tm):(giV c ts).length<=60:=by
 unfold giV
 split
 ·rename_i hb;have hl:=zu6 c (vaC c) (zco ts (vaC c).length) [];unfold giB at hb;simp only[Qd,Q0]at hb;rw[Qo,zg8]at hl;omega
 ·exact Qy _
theorem qnv {c:Cq}{ns:List Str}:∀{L:List (List Tm)},(∀l∈L,zjj (clL c (ns.zip l))=true)->∀(x:List Cq),(∀a∈x,a.ok=true)->∀a∈giR c ns L x,a.ok=true
 | [],_,x,hx=>hx
 | l::L,h,x,hx=>by
  refine qnv (L:=L) (λq hq=>h q (by simp[hq])) (zdv x (mkC (clL c (ns.zip l)))) λa ha=>?_;rcases zw2 ha with ha|rfl
  ·exact hx a ha
  ·have:=h l (by simp);unfold zjj at this;rw[Qd]at this;exact this.2
theorem qob (c:Cq)(ts:List Tm):∀a∈giV c ts,a.ok=true:=by
 unfold giV
 split
 ·rename_i hb;unfold giB at hb;simp only[Qd]at hb;have h:=hb.2;unfold zsc at h;exact qnv (λl hl=>Qr.1 h l hl) [] (by simp)
 ·simp
theorem qef (ts:List Tm):∀(cs x:List Cq),(∀a∈x,a.ok=true)->(∀a∈(aiG ts cs x).2,a.ok=true)/\(aiG ts cs x).2.length<=x.length+cs.length*60
 | [],x,h=>⟨h,by simp[aiG]⟩
 | c::cs,x,h=>by
  rw[aiG];split
  ·have hk:∀a∈(giV c ts).foldl zdv x,a.ok=true:=λa ha=>(zj5 _ _ a ha).elim (h a) (qob c ts a);obtain⟨h1,h2⟩:=qef ts cs _ hk;have h3:=zga (giV c ts) x;have h4:=zu9 c ts;refine⟨h1,?_⟩;simp only[Qj,Km];omega
  ·exact⟨by simp,by simp⟩
theorem ok_wt {c:Cq}(h:c.ok=true):c.wt<=4104:=by
 have h1:=zfq h
 have h2:=qew Li.wt 512 c.lits λl hl=>by rw[Li.wt_eq];exact zsa (zcp h l hl)
 have h3:=Kz 512 h1
 rw[Cq.wt_eq]
 unfold zgb
 omega
theorem qss {cs:List Cq}{d:Int}:(∀a∈aiV cs d,a.ok=true)/\(aiV cs d).length<=cs.length*60:=by
 unfold aiV
 split
 ·have:=qef (htV cs d) cs [] (by simp);rw[Qo,Qi]at this;exact this
 ·exact⟨by simp,by simp⟩
theorem qdy {cs:List Cq}{d:Int}(h:aiB cs d=true):cs.length<=30:=by
 unfold aiB htB zcy at h
 simp only[Qd,Q0]at h
 exact h.1.1.1.1.1
theorem aiV_B (cs:List Cq)(d:Int):CsB (aiV cs d):=by
 obtain⟨h1,h2⟩:=qss (cs:=cs) (d:=d)
 have hl:(aiV cs d).length<=1800:=by
  cases hb:aiB cs d
  ·unfold aiV;rw[hb,if_neg (by simp)];exact Qy _
  ·have:=qdy hb;omega
 refine⟨λc hc=>by have:=ok_wt (h1 c hc);omega,?_,Zi⟩
 have h3:=zhg (λc:Cq=>atL c.lits) 8 (aiV cs d) λc hc=>by
  have:=zfq (h1 c hc);unfold atL;rw[Qa];exact this
 have h4:=Kz 8 hl
 unfold atC
 omega
end
section
open Go.RowKit
theorem qma (c m:List Int):FC Tryz.prog 173 [.one (zcq c),.one (.ptr [zcq m])] [bD (!sat m c)]:=by
 have H:=zo2 c m
 refine zam Tryz.call173 Tryz.func173 rfl Zh (zat Zh) ?_
 simp -implicitDefEqProofs only[go_sem,Tryz.results173]
 refine callF (H) Zg ?_
 exact Zg
theorem isM_eq (S:List (List Int))(m:List Int):isM S m=!(S.any λc=>!sat m c):=by
 unfold isM
 rw[List.not_any_eq_all_not];simp
theorem qg7 (S:List (List Int))(m:List Int):FC Tryz.prog 109 [.one (zdn S),.one (zcq m)] [bD (isM S m)]:=by
 have H:=zfb S (λc=>!sat m c) 173 [.ptr [zcq m]] λc _=>qma c m
 rw[isM_eq]
 refine zam Tryz.call109 Tryz.func109 rfl Zh (zat Zh) ?_
 simp -implicitDefEqProofs only[go_sem,Tryz.results109]
 refine frzX 3 rfl rfl ?_
 refine Zj ?_
 refine callF (H) Zg ?_
 exact Zg
def qaq (n k v:Nat):List Int:=List.replicate v 0++asg ((v:Int)+1) (n-v) k
theorem qka (n k v:Nat)(h:v<=n):(qaq n k v).length=n:=by
 unfold qaq
 rw[Qb,K1,(show(asg ((v:Int)+1) (n-v) k).length=n-v from ?_)]
 ·omega
 ·generalize n-v=m;generalize (v:Int)+1=u;induction m generalizing u with
  | zero=>rfl
  | succ m ih=>unfold asg;rw[Qj,ih]
theorem qmz {n k v:Nat}(h:v+1<=n):(qaq n k (v+1)).set v (if k / 2^(n-(v+1)) % 2=1 then -((v:Int)+1)else (v:Int)+1)=qaq n k v:=by
 unfold qaq
 rw[List.set_append_left _ _ (by rw[K1];omega),List.replicate_succ',List.set_append_right _ _ (by rw[K1];omega),K1,Nat.sub_self,List.set_cons_zero,Kl]
 congr 1
 rw[show n-v=(n-(v+1))+1 by omega,asg,List.singleton_append]
 congr 1
theorem qd5 (n k:Nat):qaq n k n=List.replicate n 0:=by unfold qaq;rw[Nat.sub_self,asg,Kh]
theorem qg0 (n k:Nat):qaq n k 0=asg 1 n k:=by unfold qaq;simp
theorem qko {x:Nat}(h:x<=1099511627776):IntKind.i64.wrap (((BitVec.ofInt 64 (x:Int) &&& BitVec.ofInt 64 1).toNat:Nat):Int)=((x % 2:Nat):Int):=by
 have e1:BitVec.ofInt 64 (x:Int)=BitVec.ofNat 64 x:=by simp
 have e2:BitVec.ofInt 64 1=BitVec.ofNat 64 1:=by rfl
 rw[e1,e2,BitVec.toNat_and,BitVec.toNat_ofNat,BitVec.toNat_ofNat,Nat.mod_eq_of_lt Zi,Nat.mod_eq_of_lt (a:=1) Zi,Nat.and_one_is_mod]
 exact zay Zi Zi
theorem qjw (x:Nat):(x:Int).fdiv (2^min 1 64)=((x / 2:Nat):Int):=by
 rw[show((2:Int)^min 1 64)=((2:Nat):Int) from rfl,Int.fdiv_eq_ediv_of_nonneg _ Zi]
 exact(Int.natCast_ediv _ _).symm
theorem zmi (k n:Nat)(hn:n<=12)(hk:k<=1048576):FC Tryz.prog 108 [iD k,iD n] [.one (zcq (asg 1 n k))]:=by
 refine zam Tryz.call108 Tryz.func108 rfl Zh (zat Zh) ?_
 simp -implicitDefEqProofs only[go_sem,Tryz.results108]
 refine qf8 (by simp -implicitDefEqProofs only[go_sem];omega) ?_
 refine Zj ?_
 refine zad (λv:Nat=>hd [(0,vI (k / 2^(n-v):Nat)),(5,.one (.ow 256 0)),(6,vI v)] [] [(256,⟨true,1,(qaq n k v).map λs=>[.int .i64 s],0,true⟩)]) (λv=>v<=n) (λv=>v) n (zab ?_) (Qp _) ?_
 ·refine Zj ?_;rw[qd5,List.map_replicate,Nat.sub_self,Nat.pow_zero,Nat.div_one];exact⟨rfl,rfl⟩
 ·intro v hv;cases v with
  | zero =>
   refine Zj ?_;rw[qg0]
  | succ v =>
   have hwv:IntKind.i64.wrap (((v+1:Nat):Int)-1)=(v:Int):=by rw[zay Zi Zi];omega
   have hlen:=qka n k (v+1) hv;have hst:=qmz (n:=n) (k:=k) (v:=v) hv;have h1v:(1<=((v+1:Nat):Int))=True:=by simp;omega
   have hlv:v<(qaq n k (v+1)).length:=by omega
   have hst0:=zxu (qaq n k (v+1)) v ((v:Int)+1) hlv;have hst1:=zxu ((qaq n k (v+1)).set v ((v:Int)+1)) v (-((v:Int)+1)) (by rw[Y5];exact hlv);rw[List.set_set]at hst1;have hkv:k / 2^(n-v)=k / 2^(n-(v+1)) / 2:=by rw[show n-v=(n-(v+1))+1 by omega,Nat.pow_succ,Nat.div_div_eq_div_mul]
   have hXk:k / 2^(n-(v+1))<=k:=Nat.div_le_self _ _;generalize k / 2^(n-(v+1))=X at hst hkv hXk⊢;have hbx : -9223372036854775808<=((X / 2:Nat):Int)/\((X / 2:Nat):Int)<=9223372036854775807:=by omega
   have hwv2:IntKind.i64.wrap ((v:Int)+1-1)=(v:Int):=by rw[zay Zi Zi];omega
   have ha:=qko (x:=X) Zi;have hd2:=qjw X;have hvn:((v+1:Nat):Int)=(v:Int)+1:=by omega
   have hneg:IntKind.i64.wrap (0-((v:Int)+1)) = -((v:Int)+1):=by rw[zay Zi Zi];omega
   refine Zk h1v ?_;rw[hwv];refine Zk hlv ?_;refine zi6 (by simp -implicitDefEqProofs only[go_sem];simp) ?_;refine Zj ?_;rw[hwv,hvn,hst0];refine⟨λh=>?_,λh=>?_⟩
   ·have h':(IntKind.i64.wrap (((BitVec.ofInt 64 (X:Int) &&& BitVec.ofInt 64 1).toNat:Nat):Int)==1)=true:=h;rw[ha]at h';have hx:X % 2=1:=by simp at h';omega
    rw[if_pos hx]at hst;rw[hneg];simp -implicitDefEqProofs only[go_sem,Y5,hlv];refine zi6 (by simp -implicitDefEqProofs only[go_sem];simp) ?_;refine Zj ?_;rw[hst1,hst,hd2];refine⟨hbx,v,Nat.le_of_succ_le hv,Nat.lt_succ_self v,zab ?_⟩;refine Zj ?_;rw[hkv,hwv2];exact⟨rfl,rfl⟩
   ·have h':(IntKind.i64.wrap (((BitVec.ofInt 64 (X:Int) &&& BitVec.ofInt 64 1).toNat:Nat):Int)==1)=false:=h;rw[ha]at h';have hx:¬X % 2=1:=by simp at h';omega
    rw[if_neg hx]at hst;rw[hd2];refine⟨hbx,v,Nat.le_of_succ_le hv,Nat.lt_succ_self v,zab ?_⟩;refine Zj ?_;rw[hkv,hst];exact⟨rfl,rfl⟩
def fmR (S:List (List Int)):(List Int×Bool)×Bool:=if qiq S=true then ((match qbq S with|some m=>(m,true)|none=>([],false)),true)else (([],false),false)
theorem qsq {S:List (List Int)}{n k:Nat}(hn:zbm S=n)(hk:k<2^n)(hno:∀j,j<k->isM S (asg 1 n j)=false)(hy:isM S (asg 1 n k)=true):qbq S=some (asg 1 n k):=by
 rw[qfv,hn,Yk]
 rw[show(List.range (2^n)).find? (λk=>isM S (asg 1 n k))=some k from List.find?_range_eq_some.2 ⟨hy,by simpa using hk,λj hj=>by rw[hno j hj];rfl⟩]
 rfl
theorem qqn {S:List (List Int)}{n:Nat}(hn:zbm S=n)(hno:∀j,j<2^n->isM S (asg 1 n j)=false):qbq S=none:=by
 rw[qfv,hn,Yk]
 rw[show(List.range (2^n)).find? (λk=>isM S (asg 1 n k))=none from List.find?_range_eq_none.2 λj hj=>by rw[hno j hj];rfl]
 rfl
theorem zqb (S:List (List Int)):FC Tryz.prog 56 [.one (zdn S)] [.one (zcq (fmR S).1.1),bD (fmR S).1.2,bD (fmR S).2]:=by
 have H1:=zjo S
 unfold fmR
 cases h1:qiq S
 ·rw[h1]at H1;rw[if_neg (by simp)];refine zam Tryz.call56 Tryz.func56 rfl Zh (zat Zh) ?_;simp -implicitDefEqProofs only[go_sem,Tryz.results56];refine callF (H1) Zg ?_;exact Zg
 ·rw[h1]at H1;rw[if_pos rfl];have hm:=zos S;have hm2:=qen λc hc=>zhh h1 hc;obtain⟨n,hn⟩:∃n:Nat,zbm S=n:=⟨(zbm S).toNat,Zi⟩;have HG:=qa9 S λc hc=>qn5 (zhh h1 hc);rw[hn]at HG;have hn12:n<=12:=by omega
  have hp:2^n<=4096:=Nat.pow_le_pow_right (n:=2) Zi hn12;refine zam Tryz.call56 Tryz.func56 rfl Zh (zat Zh) ?_;simp -implicitDefEqProofs only[go_sem,Tryz.results56];refine callF (H1) Zg ?_;refine Zj ?_;refine callF (HG) Zg ?_;refine Zj ?_;have hs:IntKind.i64.wrap (1*2^min n 64)=((2^n:Nat):Int):=by
   rw[K7 Zi,Int.one_mul,show((2:Int)^n)=((2^n:Nat):Int) by simp];generalize 2^n=N at hp;exact zay Zi Zi
  refine zad (λk:Nat=>hd [(0,vT (zdn S)),(5,vI n),(14,vI (2^n:Nat)),(15,vI k)] [] []) (λk=>k<=2^n/\∀j,j<k->isM S (asg 1 n j)=false) (λk=>2^n-k) 0 (zab ?_) ⟨Qy _,λj hj=>absurd hj Zi⟩ ?_
  ·refine Zj ?_;rw[hs]
  ·intro k ⟨hk,hno⟩;by_cases hkl:k<2^n
   ·have HA:=zmi k n hn12 Zi;have HM:=qg7 S (asg 1 n k);have hwk:IntKind.i64.wrap ((k:Int)+1)=((k+1:Nat):Int):=zaf Zi;have hkl':((k:Int)<((2^n:Nat):Int))=True:=by simpa using(by omega:(k:Int)<((2^n:Nat):Int))
    cases hy:isM S (asg 1 n k)
    ·rw[hy]at HM;refine Zk hkl' ?_;refine callF (HA) Zg ?_;refine Zj ?_;refine callF (HM) Zg ?_;refine Zj ?_;rw[hwk];exact⟨k+1,⟨hkl,λj hj=>by rcases Nat.lt_succ_iff_lt_or_eq.1 hj with h|h;exact hno j h;rw[h];exact hy⟩,Zi,zab Zg⟩
    ·rw[hy]at HM;rw[qsq hn hkl hno hy];refine Zk hkl' ?_;refine callF (HA) Zg ?_;refine Zj ?_;refine callF (HM) Zg ?_;exact Zg
     skip
   ·have hkl':((k:Int)<((2^n:Nat):Int))=False:=by simpa using(by omega:¬(k:Int)<((2^n:Nat):Int))
    rw[qqn hn λj hj=>hno j Zi];exact Zl hkl'
    skip
theorem qk5 {S:List (List Int)}{a:List Int}(ha:Cons a):(0<=qs6 S a)=((S.any λc=>fal a c)=true):=by
 rw[qpy S ha,<-List.findIdx?_isSome]
 cases S.findIdx? (fal a)with
 | none=>simp
 | some i=>simp
theorem zgz (S:List (List Int))(hS:∀c∈S,Sm c):∀(n:Nat)(a:List Int)(v last:Int),n<=12->Pre a v->v+n<=100->last=v+n-1->a.length+n<=1000->FC Tryz.prog 54 [.one (zdn S),.one (zcq a),iD v,iD last] [.one (zcq ((qj5 S n a v).getD [])),bD (qj5 S n a v).isSome]
 | n,a,v,last,hn,hp,hv,hlast,hal=>by
  have HF:=qax S a hS;have hfn:=qk5 (S:=S) hp.cons;have hvp:=hp.pos;have HO:=qsa a Zi;unfold qj5;by_cases hf:(S.any λc=>fal a c)=true
  ·rw[if_pos hf];have h0:(0<=qs6 S a)=True:=by rw[hfn];simpa using hf
   refine zam Tryz.call54 Tryz.func54 rfl Zh (zat Zh) ?_;refine Xd ?_;refine callF (HF) (Zl h0) ?_;refine Zk h0 ?_;refine za2 Zg ?_;refine Zj ?_;exact⟨rfl,rfl⟩
  ·rw[if_neg hf];have h0:(0<=qs6 S a)=False:=by rw[hfn];simpa using hf
   cases n with
   | zero =>
    have hgt:(last<v)=True:=by simpa using(by omega:last<v)
    refine zam Tryz.call54 Tryz.func54 rfl Zh (zat Zh) ?_;refine Xd ?_;refine callF (HF) (Z0 h0 hgt) ?_;refine Zr h0 hgt ?_;refine callF (HO) Zg ?_;exact Zg
    skip
   | succ n =>
    have hgt:(last<v)=False:=by simpa using(by omega:¬last<v)
    have HC1:=zgz S hS n (a++[v]) (v+1) last Zi (hp.put (zm2 Zi)) Zi Zi (by simp;omega);have HC2:=zgz S hS n (a++[-v]) (v+1) last Zi (hp.put (by rw[zsd,zm2 Zi])) Zi Zi (by simp;omega);have hw1:IntKind.i64.wrap (v+1)=v+1:=zay Zi Zi;have hw2:IntKind.i64.wrap (0-v) = -v:=by rw[zay Zi Zi];omega
    have hal1:a.length<=4294967295:=by omega
    have hm1:(a.map λs=>[T.int .i64 s])++[[T.int .i64 v]]=(a++[v]).map λs=>[T.int .i64 s]:=by rw[Qq];rfl
    have hm2:(a.map λs=>[T.int .i64 s])++[[T.int .i64 (-v)]]=(a++[-v]).map λs=>[T.int .i64 s]:=by rw[Qq];rfl
    cases h1:qj5 S n (a++[v]) (v+1)with
    | some m =>
     rw[h1]at HC1;have HC1:FC Tryz.prog 54 [.one (zdn S),.one (zcq (a++[v])),iD (v+1),iD last] [.one (zcq m),bD true]:=HC1;refine zam Tryz.call54 Tryz.func54 rfl Zh (zat Zh) ?_;refine Xd ?_;refine callF (HF) (Z0 h0 hgt) ?_;refine Zr h0 hgt ?_;refine callF (HO) Zg ?_;refine Zj ?_;refine za2 Zg ?_;refine Zj ?_;refine apD true (Zu hal1) ?_;refine Zv hal1 ?_;rw[hw1,hm1];refine callF (HC1) Zg ?_;refine Zj ?_;rw[h1];exact⟨rfl,rfl⟩
    | none =>
     rw[h1]at HC1;have HC1:FC Tryz.prog 54 [.one (zdn S),.one (zcq (a++[v])),iD (v+1),iD last] [.one (zcq []),bD false]:=HC1;refine zam Tryz.call54 Tryz.func54 rfl Zh (zat Zh) ?_;refine Xd ?_;refine callF (HF) (Z0 h0 hgt) ?_;refine Zr h0 hgt ?_;refine callF (HO) Zg ?_;refine Zj ?_;refine za2 Zg ?_;refine Zj ?_;refine apD true (Zu hal1) ?_;refine Zv hal1 ?_;rw[hw1,hm1];refine callF (HC1) Zg ?_;refine Zj ?_;refine callF (HO) Zg ?_;refine Zj ?_;rw[hw2];refine za2 Zg ?_;refine Zj ?_;refine apD true (Zu hal1) ?_;refine Zv hal1 ?_;rw[hw1,hm2];refine callF (HC2) Zg ?_;refine Zj ?_;rw[h1];exact⟨rfl,rfl⟩
end
section
open Go.RowKit
theorem zyc {cs:List Cq}(h:zp2 cs=true):qiq (toL (gaL cs) cs)=true:=by
 rw[zyr,Qd]at h
 obtain⟨hp,hA⟩:=h
 have hA:(gaL cs).length<=12:=Kw hA
 have hp':(decide (cs.length<=40)&&cs.all grC)=true:=hp
 rw[Qd,Q0]at hp'
 obtain⟨h40,hall⟩:=hp'
 unfold qiq
 rw[Qd,Q0]
 refine⟨Q8 (zuv _ _) h40,Qr.2 λz hz=>?_⟩
 unfold toL at hz
 obtain⟨c,hc,rfl⟩:=Ka.1 hz
 obtain⟨hc,hct⟩:=Kp.1 hc
 have hct:¬tauP c.lits:=λht=>by
  unfold Cq.taut at hct;rw[zb8.2 ht]at hct;cases hct
 have hk:=qha (Qr.1 hall c hc)
 unfold Cq.ok at hk
 rw[Qd,zb8]at hk
 have hm:∀l∈c.lits,l.atom∈gaL cs:=λl hl=>qnx.2 (ztv.2 ⟨c,hc,l,hl,rfl⟩)
 rw[qgn]
 unfold prC
 refine⟨λx hx=>?_,?_⟩
 ·obtain⟨l,hl,rfl⟩:=Ka.1 hx;rw[zkq (hm l hl)];obtain⟨hi,_,_⟩:=zwa (hm l hl);omega
 ·rw[Ris,List.pairwise_map,Yd];intro i j hi hj hij;rw[zkq (hm _ (Qe hi)),zkq (hm _ (Qe hj))];have:=ix_lt (qgz cs) (hm _ (Qe hi)) (hm _ (Qe hj)) (qih hk.2 hct j hj i hij);omega
noncomputable def hrB (cs:List Cq)(d:Int):Bool:=aiB cs d&&zp2 (aiV cs d)
noncomputable def hrV (cs:List Cq)(d:Int):Bool:=hrB cs d&&(qbq (toL (gaL (aiV cs d)) (aiV cs d))).isNone
theorem zv1 (ts:List Tm){cs:List Cq}{k:Nat}(h:k<cs.length)(x:List Cq):aiG ts (cs.drop k) x=if giB cs[k] ts=true then aiG ts (cs.drop (k+1)) ((giV cs[k] ts).foldl zdv x)else (false,[]):=by
 rw[Qn h];rfl
theorem qkz (cs:List Cq)(d:Int)(hw:zow cs<=1048576):RC Tryz.prog 26 [.one (cqS cs),iD d] [.one (cqS (aiV cs d)),bD (aiB cs d)]:=by
 have HH:=qm5 cs d hw
 have hcw:=λc (h:c∈cs)=>Q8 (zwt h) hw
 have hv1:aiB cs d=(htB cs d&&(aiG (htV cs d) cs []).1):=rfl
 have hno:aiB cs d=false->aiV cs d=[]:=λh=>by unfold aiV;rw[h,if_neg (by simp)]
 have hyes:aiB cs d=true->aiV cs d=(aiG (htV cs d) cs []).2:=λh=>by unfold aiV;rw[h,if_pos rfl]
 have hlen:=fun(h:aiB cs d=true)=>qdy h
 cases hb:htB cs d
 ·rw[hb,Q4]at hv1;rw[hb]at HH;rw[hno hv1,hv1];generalize htV cs d=R at HH;refine zbs Tryz.call26 Tryz.func26 rfl Zh (zat Zh) ?_;simp -implicitDefEqProofs only[go_sem,Tryz.results26];refine callF (HH) Zg ?_;exact Zg
 ·obtain⟨hgr,h60,htw,hok⟩:=qn2 hb;rw[hb,Q2]at hv1;rw[hb]at HH;have h30:cs.length<=30:=by
   unfold htB zcy at hb;simp only[Qd,Q0]at hb;exact hb.1.1.1.1
  generalize htV cs d=ts at *;refine zbs Tryz.call26 Tryz.func26 rfl Zh (zat Zh) ?_;simp -implicitDefEqProofs only[go_sem,Tryz.results26];refine callF (HH) Zg ?_;refine Zj ?_;refine zex Zg ?_;refine Zj ?_;refine zad (λz:Nat×List Cq=>hd [(6,.one (.ow 576 0)),(8,.one (.ow 736 0)),(24,vT (cqS cs)),(25,vI cs.length),(26,vI z.1)] [] [(576,⟨true,2,ts.map tmC,0,true⟩),(736,⟨false,1,z.2.map cqC,0,true⟩)]) (λz=>z.1<=cs.length/\z.2.length<=z.1*60/\aiG ts cs []=aiG ts (cs.drop z.1) z.2) (λz=>cs.length-z.1) (0,[]) (zab ?_) ⟨Qy _,by simp,rfl⟩ ?_
  ·exact Zg
  ·rintro⟨k,x⟩ ⟨hk,hx,heq⟩;simp only at hk hx heq⊢;by_cases hlt:k<cs.length
   ·have HG:=qmo cs[k] ts (hcw _ (Qe hlt)) htw;rw[zv1 ts hlt]at heq;have hql:=zu9 cs[k] ts;simp only[cqD,zap cs[k]]at HG;cases hg:giB cs[k] ts
    ·rw[hg,if_neg (by simp)]at heq;rw[hg]at HG;rw[heq]at hv1;have hv1:aiB cs d=false:=hv1;rw[hno hv1,hv1];generalize giV cs[k] ts=q at HG;refine Xt ?_;refine callF (HG) Zg ?_;exact Zg
    ·rw[hg,if_pos rfl]at heq;rw[hg]at HG;generalize giV cs[k] ts=q at HG heq hql;refine Xt ?_;refine callF (HG) Zg ?_;refine Zj ?_;refine zad (λj:Nat=>hd [(6,.one (.ow 576 0)),(8,.one (.ow 736 0)),(24,vT (cqS cs)),(25,vI cs.length),(26,vI k),(38,vT (cqS q)),(39,vI q.length),(40,vI j)] [] [(576,⟨true,2,ts.map tmC,0,true⟩),(736,⟨false,1,((q.take j).foldl zdv x).map cqC,0,true⟩)]) (λj=>j<=q.length) (λj=>q.length-j) 0 (Wk.fzO 1056 ?_) (Qy _) ?_
     ·refine Zj ?_;refine zab ?_;refine Zj ?_;rfl
     ·intro j hj;by_cases hlj:j<q.length
      ·have hsu:(q.take (j+1)).foldl zdv x=zdv ((q.take j).foldl zdv x) q[j]:=by
        rw[Qg hlj,K0];rfl
       have hyl:=zga (q.take j) x;rw[Qc]at hyl;have HC:=zln ((q.take j).foldl zdv x) q[j];have hput:zdv ((q.take j).foldl zdv x) q[j]=if(((q.take j).foldl zdv x).any λa=>same a q[j])=true then (q.take j).foldl zdv x else (q.take j).foldl zdv x++[q[j]]:=rfl
       simp only[cqD,zap q[j]]at HC;rw[<-hsu]at hput;generalize (q.take j).foldl zdv x=y at HC hput hyl⊢;have hy2:y.length<=4294967295:=by omega
       refine Zm hlj (zap q[j]) ?_;cases ha:y.any λa=>same a q[j]
       ·rw[ha]at HC;rw[ha,if_neg (by simp)]at hput;refine callF (HC) Zg ?_;refine Zj ?_;refine zex Zg ?_;refine Zj ?_;refine apD false (Zu hy2) ?_;refine Zv hy2 ?_;refine⟨j+1,hlj,Zi,zab ?_⟩;refine Zj ?_;rw[zaf Zi,hput,Qq,Q7,zap q[j]];exact⟨rfl,rfl⟩
       ·rw[ha]at HC;rw[ha,if_pos rfl]at hput;refine callF (HC) Zg ?_;refine Zj ?_;refine⟨j+1,hlj,Zi,zab ?_⟩;refine Zj ?_;rw[zaf Zi,hput];exact⟨rfl,rfl⟩
      ·have ht:q.take j=q:=Ql Zi;have hyl:=zga q x;rw[ht];refine Zk hlj ?_;refine⟨(k+1,q.foldl zdv x),⟨hlt,by simp only;omega,heq⟩,by simp only;omega,zab ?_⟩;refine Zj ?_;rw[zaf Zi]
   ·rw[Jy Zi,aiG]at heq;rw[heq]at hv1 hyes;have hv1:aiB cs d=true:=hv1;rw[hyes hv1,hv1];exact Zl hlt
theorem qlo (cs:List Cq)(d:Int)(hw:zow cs<=1048576):FC Tryz.prog 19 [.one (cqS cs),iD d] [bD (hrV cs d),bD (hrB cs d)]:=by
 have HA:=qkz cs d hw
 have HT:=qjg (aiV cs d) (aiV_B cs d)
 have hv1:hrB cs d=(aiB cs d&&zp2 (aiV cs d)):=rfl
 have hv2:hrV cs d=(hrB cs d&&(qbq (toL (gaL (aiV cs d)) (aiV cs d))).isNone):=rfl
 cases hb:aiB cs d
 ·rw[hb,Q4]at hv1;rw[hv1,Q4]at hv2;rw[hb]at HA;rw[hv1,hv2];generalize aiV cs d=R at HA;refine zam Tryz.call19 Tryz.func19 rfl Zh (zat Zh) ?_;refine Xe ?_;refine callR (HA) Zg ?_;exact Zg
 ·rw[hb,Q2]at hv1;rw[hb]at HA;have hps:=zyc (cs:=aiV cs d);have htr:toR (aiV cs d)=if zp2 (aiV cs d)=true then toL (gaL (aiV cs d)) (aiV cs d)else []:=rfl
  generalize toL (gaL (aiV cs d)) (aiV cs d)=S at hv2 hps htr;generalize toR (aiV cs d)=S2 at HT htr;cases hg:zp2 (aiV cs d)
  ·rw[hg]at hv1 HT;rw[hv1,Q4]at hv2;rw[hv1,hv2];generalize aiV cs d=R at HA HT;refine zam Tryz.call19 Tryz.func19 rfl Zh (zat Zh) ?_;refine Xe ?_;refine callR (HA) Zg ?_;refine Zj ?_;refine callF (HT) Zg ?_;exact Zg
  ·rw[hg]at hv1 HT htr;rw[if_pos rfl]at htr;rw[hv1,Q2]at hv2;rw[hv1,hv2];subst htr;have HM:=zqb S2;unfold fmR at HM;rw[hps hg,if_pos rfl]at HM;generalize aiV cs d=R at HA HT;cases hf:qbq S2 with
   | none =>
    rw[hf]at HM;have HM:FC Tryz.prog 56 [.one (zdn S2)] [.one (zcq []),bD false,bD true]:=HM;refine zam Tryz.call19 Tryz.func19 rfl Zh (zat Zh) ?_;refine Xe ?_;refine callR (HA) Zg ?_;refine Zj ?_;refine callF (HT) Zg ?_;refine Zj ?_;refine callF (HM) Zg ?_;exact Zg
   | some m =>
    rw[hf]at HM;have HM:FC Tryz.prog 56 [.one (zdn S2)] [.one (zcq m),bD true,bD true]:=HM;refine zam Tryz.call19 Tryz.func19 rfl Zh (zat Zh) ?_;refine Xe ?_;refine callR (HA) Zg ?_;refine Zj ?_;refine callF (HT) Zg ?_;refine Zj ?_;refine callF (HM) Zg ?_;refine Zj ?_;rfl
end
section
open Go.RowKit
noncomputable def alS (cs:List Cq)(d:Int):List (List Int):=if hrB cs d=true then toL (gaL (aiV cs d)) (aiV cs d)else []
noncomputable def alF (cs:List Cq)(d:Int):List Cq:=if hrB cs d=true then frL (aiV cs d)else []
theorem qjc (cs:List Cq)(d:Int)(hw:zow cs<=1048576):RC Tryz.prog 21 [.one (cqS cs),iD d] [.one (zdn (alS cs d)),.one (cqS (alF cs d)),bD (hrB cs d)]:=by
 have HH:=qje cs d hw
 have hcw:=λc (h:c∈cs)=>Q8 (zwt h) hw
 have hv1:hrB cs d=(aiB cs d&&zp2 (aiV cs d)):=rfl
 have hv0:aiB cs d=(htB cs d&&(aiG (htV cs d) cs []).1):=rfl
 have hno:hrB cs d=false->alS cs d=[]/\alF cs d=[]:=λh=>by unfold alS alF;rw[h,if_neg (by simp),if_neg (by simp)];exact⟨rfl,rfl⟩
 have hyes:hrB cs d=true->alS cs d=toL (gaL (aiV cs d)) (aiV cs d)/\alF cs d=frL (aiV cs d):=λh=>by unfold alS alF;rw[h,if_pos rfl,if_pos rfl];exact⟨rfl,rfl⟩
 have hai:aiB cs d=true->aiV cs d=(aiG (htV cs d) cs []).2:=λh=>by unfold aiV;rw[h,if_pos rfl]
 have hB:=aiV_B cs d
 have hcl:(aiV cs d).length<=1048576:=hB.len
 cases hb:htB cs d
 ·rw[hb,Q4]at hv0;rw[hv0,Q4]at hv1;rw[hb]at HH;rw[(hno hv1).1,(hno hv1).2,hv1];generalize htV cs d=R at HH;refine zbs Tryz.call21 Tryz.func21 rfl Zh (zat Zh) ?_;simp -implicitDefEqProofs only[go_sem,Tryz.results21];refine callR (HH) Zg ?_;refine Zj ?_;refine zb7 Zg ?_;refine Zj ?_;refine zb7 Zg ?_;refine Zj ?_;exact⟨rfl,rfl⟩
 ·obtain⟨hgr,h60,htw,hok⟩:=qn2 hb;rw[hb,Q2]at hv0;rw[hb]at HH;have h30:cs.length<=30:=by
   unfold htB zcy at hb;simp only[Qd,Q0]at hb;exact hb.1.1.1.1
  generalize htV cs d=ts at *;have hP:∀c∈cs,giP c ts=true:=λc hc=>by
   unfold giP;rw[hok c hc,hgr,Ku h60];rfl
  refine zbs Tryz.call21 Tryz.func21 rfl Zh (zat Zh) ?_;simp -implicitDefEqProofs only[go_sem,Tryz.results21];refine callR (HH) Zg ?_;refine Zj ?_;refine zex Zg ?_;refine Zj ?_;refine zad (λz:Nat×List Cq=>hd [(0,vT (cqS cs)),(7,vT (tmS ts)),(9,.one (.ow 960 0)),(10,vI z.1)] [] [(960,⟨false,1,z.2.map cqC,0,true⟩)]) (λz=>z.1<=cs.length/\z.2.length<=z.1*60/\(∀a∈z.2,a.wt<=1048576)/\aiG ts cs []=aiG ts (cs.drop z.1) z.2) (λz=>cs.length-z.1) (0,[]) (zab ?_) ⟨Qy _,by simp,by simp,rfl⟩ ?_
  ·exact Zg
  ·rintro⟨k,x⟩ ⟨hk,hx,hxw,heq⟩;simp only at hk hx hxw heq⊢;by_cases hlt:k<cs.length
   ·have HG:=zmj cs[k] ts (hcw _ (Qe hlt)) htw (hP _ (Qe hlt));rw[zv1 ts hlt]at heq;have hql:=zu9 cs[k] ts;have hqw:=λa (ha:a∈giV cs[k] ts)=>(show a.wt<=1048576 by have:=ok_wt (qob cs[k] ts a ha);omega);simp only[cqD,zap cs[k]]at HG;cases hg:giB cs[k] ts
    ·rw[hg,if_neg (by simp)]at heq;rw[hg]at HG;rw[heq]at hv0;have hv0:aiB cs d=false:=hv0;rw[hv0,Q4]at hv1;rw[(hno hv1).1,(hno hv1).2,hv1];generalize giV cs[k] ts=q at HG;refine Xt ?_;refine callR (HG) Zg ?_;refine Zj ?_;refine zb7 Zg ?_;refine Zj ?_;refine zb7 Zg ?_;refine Zj ?_;exact⟨rfl,rfl⟩
    ·rw[hg,if_pos rfl]at heq;rw[hg]at HG;generalize giV cs[k] ts=q at HG heq hql hqw;refine Xt ?_;refine callR (HG) Zg ?_;refine Zj ?_;refine zad (λj:Nat=>hd [(0,vT (cqS cs)),(7,vT (tmS ts)),(9,.one (.ow 960 0)),(10,vI k),(11,vT (cqS q)),(13,vI j)] [] [(960,⟨false,1,((q.take j).foldl zdv x).map cqC,0,true⟩)]) (λj=>j<=q.length) (λj=>q.length-j) 0 (zab ?_) (Qy _) ?_
     ·refine Zj ?_;rfl
     ·intro j hj;by_cases hlj:j<q.length
      ·have hsu:(q.take (j+1)).foldl zdv x=zdv ((q.take j).foldl zdv x) q[j]:=by
        rw[Qg hlj,K0];rfl
       have hyl:=zga (q.take j) x;rw[Qc]at hyl;have hyw:∀a∈(q.take j).foldl zdv x,a.wt<=1048576:=λa ha=>(zj5 _ _ a ha).elim (hxw a) λh=>hqw a (Jt h);have hput:zdv ((q.take j).foldl zdv x) q[j]=if(((q.take j).foldl zdv x).any λa=>same a q[j])=true then (q.take j).foldl zdv x else (q.take j).foldl zdv x++[q[j]]:=rfl
       rw[<-hsu]at hput;generalize (q.take j).foldl zdv x=y at hput hyl hyw⊢;have hy2:y.length<=4294967295:=by omega
       refine Zk hlj ?_;refine zad (λi:Nat=>hd [(0,vT (cqS cs)),(7,vT (tmS ts)),(9,.one (.ow 960 0)),(10,vI k),(11,vT (cqS q)),(13,vI j),(14,vB ((y.take i).any λa=>same a q[j])),(15,vI i)] [] [(960,⟨false,1,y.map cqC,0,true⟩)]) (λi=>i<=y.length) (λi=>y.length-i) 0 (zab ?_) (Qy _) ?_
       ·refine Zj ?_;rfl
       ·intro i hi;by_cases hli:i<y.length
        ·have hany:((y.take (i+1)).any λa=>same a q[j])=(((y.take i).any λa=>same a q[j])||same y[i] q[j]):=by
          rw[Qg hli,List.any_append];simp
         have HS:=zy3 y[i] q[j] (hyw y[i] (Qe hli));simp only[cqD,zap y[i],zap q[j]]at HS;refine Zk hli ?_;refine drawn Zh ?_;cases hkn:(y.take i).any λa=>same a q[j]
         ·rw[hkn,K5]at hany;simp -implicitDefEqProofs only[go_sem,hli,hlj,zac,zap y[i],zap q[j],hkn,Ja];refine zbf (HS) Zg ?_;refine Zj ?_;refine⟨Zh,i+1,hli,Zi,zab ?_⟩;refine Zj ?_;rw[zaf Zi,hany];exact⟨rfl,rfl⟩
         ·rw[hkn,Zc]at hany;simp -implicitDefEqProofs only[go_sem,hli,hlj,zac,zap y[i],zap q[j],hkn,K8];refine⟨Zh,i+1,hli,Zi,zab ?_⟩;refine Zj ?_;rw[zaf Zi,hany];exact⟨rfl,rfl⟩
        ·have hty:y.take i=y:=Ql Zi;cases hkn:y.any λa=>same a q[j]
         ·rw[hkn,if_neg (by simp)]at hput;simp -implicitDefEqProofs only[go_sem,hli,hty,hkn,Ja,hlj,zac,zap q[j]];refine zex Zg ?_;refine Zj ?_;refine apD false (Zu hy2) ?_;refine Zv hy2 ?_;refine⟨j+1,hlj,Zi,zab ?_⟩;refine Zj ?_;rw[zaf Zi,hput,Qq,Q7,zap q[j]];exact⟨rfl,rfl⟩
         ·rw[hkn,if_pos rfl]at hput;simp -implicitDefEqProofs only[go_sem,hli,hty,hkn,K8];refine⟨j+1,hlj,Zi,zab ?_⟩;refine Zj ?_;rw[zaf Zi,hput];exact⟨rfl,rfl⟩
      ·have ht:q.take j=q:=Ql Zi;have hyl:=zga q x;rw[ht];refine Zk hlj ?_;refine⟨(k+1,q.foldl zdv x),⟨hlt,by simp only;omega,λa ha=>(zj5 _ _ a ha).elim (hxw a) (hqw a),heq⟩,by simp only;omega,zab ?_⟩;refine Zj ?_;rw[zaf Zi]
   ·rw[Jy Zi,aiG]at heq;rw[heq]at hv0 hai;have hv0:aiB cs d=true:=hv0;have hai:aiV cs d=x:=hai hv0;rw[hv0,Q2,hai]at hv1;rw[hai]at hyes hB hcl;have HA:=zzx x hB;have hga:=zyr x;refine Xo ?_;refine frzS 960 rfl rfl ?_;refine Zj ?_;refine callR (HA) Zg ?_;refine Zj ?_;cases hg:zp2 x
    ·rw[hg]at hv1;rw[(hno hv1).1,(hno hv1).2,hv1];refine Zk hg ?_;refine zb7 Zg ?_;refine Zj ?_;refine zb7 Zg ?_;refine Zj ?_;exact⟨rfl,rfl⟩
    ·rw[hg]at hv1 hga;have hp:=(Qd _ _).mp hga.symm;have hall:x.all grC=true:=((Qd _ _).mp hp.1).2;have hA:(gaL x).length<=12:=Kw hp.2;have hgA:gaA x=gaL x:=by
      have h:gaP x=true:=hp.1;show(if gaP x=true then gaL x else [])=gaL x
      rw[h,if_pos rfl]
     have HP:=qe8 x hB hall hcl Zi;rw[<-hgA]at HP hyes;rw[(hyes hv1).1,(hyes hv1).2,hv1];refine Zk hg ?_;refine callR (HP) Zg ?_;exact Zg
theorem qmv (cs:List Cq)(d:Int)(hw:zow cs<=1048576):FC Tryz.prog 18 [.one (cqS cs),iD d] [bD (hrV cs d),bD (hrB cs d)]:=by
 have HA:=qjc cs d hw
 have hv2:hrV cs d=(hrB cs d&&(qbq (toL (gaL (aiV cs d)) (aiV cs d))).isNone):=rfl
 generalize alF cs d=F at HA
 cases hb:hrB cs d
 ·rw[hb,Q4]at hv2;rw[hb]at HA;rw[hv2];generalize alS cs d=S at HA;refine zam Tryz.call18 Tryz.func18 rfl Zh (zat Zh) ?_;simp -implicitDefEqProofs only[go_sem,Tryz.results18];refine callR (HA) Zg ?_;exact Zg
 ·have hp:qiq (toL (gaL (aiV cs d)) (aiV cs d))=true:=by
   unfold hrB at hb;rw[Qd]at hb;exact zyc hb.2
  have hs:alS cs d=toL (gaL (aiV cs d)) (aiV cs d):=by unfold alS;rw[hb,if_pos rfl]
  rw[hb,Q2]at hv2;rw[hb]at HA;rw[hs]at HA;rw[hv2];generalize toL (gaL (aiV cs d)) (aiV cs d)=S at HA hp⊢;have hS:∀c∈S,Sm c:=λc hc=>qn5 (zhh hp hc);have HM:=qde S hS;have hm:=zos S;have hm2:=qen λc hc=>zhh hp hc;have HC:=zgz S hS (zbm S).toNat [] 1 (zbm S) Zi Pre.nil Zi Zi (by simp;omega);rw[qhl λc hc=>zhh hp hc]at HC;cases hf:qbq S with
  | none =>
   rw[hf]at HC;have HC:FC Tryz.prog 54 [.one (zdn S),.one (zcq []),iD 1,iD (zbm S)] [.one (zcq []),bD false]:=HC;refine zam Tryz.call18 Tryz.func18 rfl Zh (zat Zh) ?_;simp -implicitDefEqProofs only[go_sem,Tryz.results18];refine callR (HA) Zg ?_;refine Zj ?_;refine za2 Zg ?_;refine Zj ?_;refine callF (HM) Zg ?_;refine Zj ?_;refine callF (HC) Zg ?_;exact Zg
  | some m =>
   rw[hf]at HC;have HC:FC Tryz.prog 54 [.one (zdn S),.one (zcq []),iD 1,iD (zbm S)] [.one (zcq m),bD true]:=HC;refine zam Tryz.call18 Tryz.func18 rfl Zh (zat Zh) ?_;simp -implicitDefEqProofs only[go_sem,Tryz.results18];refine callR (HA) Zg ?_;refine Zj ?_;refine za2 Zg ?_;refine Zj ?_;refine callF (HM) Zg ?_;refine Zj ?_;refine callF (HC) Zg ?_;refine Zj ?_;rfl
end
section
open Go.RowKit
theorem qq9 (cs:List Cq)(d:Int):FC Tryz.prog 5 [.one (cqS cs),iD d] [bD true]:=by
 have HZ:=ztn cs 1048576 Zi Zi
 refine zcc Tryz.call5 Tryz.func5 rfl Zh (zat Zh) ?_
 simp -implicitDefEqProofs only[go_sem,Tryz.results5]
 refine callF (HZ) Zg ?_
 refine Zj ?_
 refine⟨λh=>trivial,λh=>?_⟩
 obtain⟨hw1,hw2⟩:=zgw (show ¬szR (zow cs) 1048576<0 by simpa using h)
 have hw:zow cs<=1048576:=by omega
 have HS:=qmv cs d hw
 have HI:=qlo cs d hw
 have HT:=zuo cs hw
 have HE:=zvn cs cs
 generalize hrV cs d=R at HS HI
 generalize hrB cs d=G at HS HI
 have n2:∀b:Bool,(b != b)=false:=by decide
 refine callF (HT) Zg ?_
 refine Zj ?_
 refine callF (HS) Zg ?_
 refine Zj ?_
 refine callF (HT) Zg ?_
 refine Zj ?_
 refine callF (HI) (by simp -implicitDefEqProofs only[go_sem,zbh,beq_self_eq_true,bne_self_eq_false,K8,n2]) ?_
 simp -implicitDefEqProofs only[go_sem,zbh,beq_self_eq_true,bne_self_eq_false,K8,n2]
 refine callF (HT) Zg ?_
 refine Zj ?_
 refine callF (HE) (by simp -implicitDefEqProofs only[go_sem,zbh]) ?_
 simp -implicitDefEqProofs only[go_sem,zbh]
end
end Go.Proofs.YtmhbmpbgpjljeaaGreat
