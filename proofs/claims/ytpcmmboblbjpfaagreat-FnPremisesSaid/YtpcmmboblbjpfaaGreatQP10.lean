/-
  The walk over plain data, and contracts of functions of the program and of its laws.
  Conditions: those that each theorem names.
-/
import Derived.Test.YtpcmmboblbjpfaaGreatQP9
import Derived.Test.YtpcmmboblbjpfaaGreatQP6
namespace Go.Proofs.YtpcmmboblbjpfaaGreat
set_option linter.unusedSimpArgs false
set_option linter.unusedVariables false
set_option linter.unusedSectionVars false
set_option maxRecDepth 4000
set_option maxHeartbeats 8000000
section
open Go.RowKit
theorem qej {α:Type}(g:α->Nat):∀{l1 l2:List α},l1.Sublist l2->(l1.map g).sum<=(l2.map g).sum:=fun h=>by
 induction h with
 | slnil=>exact Qz _
 | cons a _ ih=>rw[Qg,Q2];omega
 | cons_cons a _ ih=>rw[Qg,Q2,Qg,Q2];omega
theorem sum_K {α:Type}(g:α->Nat)(K:Nat)(zs:List α):(zs.map fun x=>K*g x).sum=K*(zs.map g).sum:=by
 induction zs with
 | nil=>rfl
 | cons x zs ih=>rw[Qg,Q2,ih,Qg,Q2,Nat.mul_add]
theorem qhe (n:Str)(t:Tm)(W:Nat)(hW:t.wt<=W):∀f:Fm,f.forms=true->(zbs n t f).1.wt<=(520+30*W)*f.nodes:=zcc fun o a v xs ih hf=>by
 obtain⟨hh,hx⟩:=qa5 hf
 have hw0:=zus _ hf
 have hn:(Fm.mk o a v xs).nodes=1+(xs.map Fm.nodes).sum:=Fm.nodes_eq _
 have hN:520*(Fm.mk o a v xs).nodes<=(520+30*W)*(Fm.mk o a v xs).nodes:=Kz _ Yo
 have hw2:(Fm.mk o a v xs).wt=a.wt+v.length+xs.length+(xs.map Fm.wt).sum:=Fm.wt_eq _
 rw[zqw]
 show(if(o==3)=true then ((Fm.mk o (zfn (bnd n t) a) v []),_)else if(isQ o&&(v==n||!((zm6 xs).contains n)))=true then ((Fm.mk o a v xs),true)else if(isQ o&&(zbb [] (voS t)).contains v)=true then ((Fm.mk o (.mk [] []) v []),false)else ((Fm.mk o (.mk [] []) v ((xs.takeWhile fun x=>(zbs n t x).2).map fun x=>(zbs n t x).1)),_)).1.wt<=_
 split
 ·rename_i h3;obtain⟨rfl,rfl,rfl,h4⟩:=qhu h3 hh;have hw:(Fm.mk 3 (zfn (bnd n t) a) [] []).wt=(zfn (bnd n t) a).wt+0+0+0:=Fm.wt_eq _;have h5:=zxf (bnd n t) W (fun p hp=>Kk (qcd n t p hp) hW) a;have h6:=zpx h4;have h7:a.nodes<=30:=by
   rw[zpz,Qb]at h4;have h8:=h4.2;unfold zd5 at h8;simp only[Qb,Qm]at h8;exact h8.1
  have h8:a.nodes*W<=30*W:=Kz W h7;have h9:(Fm.mk 3 a [] []).nodes=1:=by rw[hn];rfl
  rw[h9,Nat.mul_one];show(Fm.mk 3 (zfn (bnd n t) a) [] []).wt<=_
  rw[hw];omega
 ·rename_i h3;split
  ·show(Fm.mk o a v xs).wt<=_
   omega
  ·split
   ·have hw:(Fm.mk o (.mk [] []) v []).wt=0+v.length+0+0:=Fm.wt_eq _;show(Fm.mk o (.mk [] []) v []).wt<=_
    omega
   ·have hl:xs.length<=2/\v.length<=4:=by
     rcases zcu hf with⟨h1,h2⟩|⟨p,h1,_⟩|⟨o',p,q,_,h1,_⟩|⟨o',v',p,ho,h1,_⟩
     ·have h1:xs=[]:=h1;refine⟨by rw[h1];simp,?_⟩;have:=zvb hh (by rcases h2 with h|h|h<;>(rw[h];rfl));have this:v=[]:=this;rw[this];simp
     ·cases h1;exact⟨by simp,by simp⟩
     ·cases h1;exact⟨by simp,by simp⟩
     ·cases h1;refine⟨by simp,?_⟩;have:=zqj hh (by rcases ho with h|h<;>(rw[show(Fm.mk o _ v [p]).op=o from rfl,h];rfl));have this:za9 v=true:=this;unfold za9 inB at this;simp only[Qb,Qm]at this;omega
    generalize hys:(xs.takeWhile fun x=>(zbs n t x).2)=ys;have hsub:ys.Sublist xs:=by rw[<-hys];exact List.takeWhile_sublist _
    have hw:(Fm.mk o (.mk [] []) v (ys.map fun x=>(zbs n t x).1)).wt=0+v.length+(ys.map fun x=>(zbs n t x).1).length+((ys.map fun x=>(zbs n t x).1).map Fm.wt).sum:=Fm.wt_eq _;show(Fm.mk o (.mk [] []) v (ys.map fun x=>(zbs n t x).1)).wt<=_
    have hs1:(ys.map fun x=>(zbs n t x).1.wt).sum<=(ys.map fun x=>(520+30*W)*x.nodes).sum:=ztj _ _ ys fun x hm=>ih x (hsub.subset hm) (hx x (hsub.subset hm));have e2:((ys.map fun x=>(zbs n t x).1).map Fm.wt).sum=(ys.map fun x=>(zbs n t x).1.wt).sum:=by rw[Kt];rfl
    rw[sum_K]at hs1;have hs3:=Nat.mul_le_mul_left (520+30*W) (qej Fm.nodes hsub);have hl2:=hsub.length_le;rw[hw,Qa,e2,hn,Nat.mul_add,Nat.mul_one];omega
theorem qip {n:Str}{t:Tm}{f:Fm}(ht:t.good=true)(hf:f.good=true):(zbs n t f).1.wt<=308800:=by
 have h1:=qhe n t 240 (qg2 ht) f (zdy hf)
 have hn:f.nodes<=40:=by
  unfold Fm.good at hf;rw[Qb,Qm]at hf;exact hf.1
 have h2:(520+30*240)*f.nodes<=(520+30*240)*40:=Nat.mul_le_mul_left _ hn
 omega
theorem zel (s:Sq)(hs:s.good=true)(l r:Int)(more extra:List Fm)(hm:∀x∈more,x.wt<=1048576)(he:∀x∈extra,x.wt<=1048576)(h1:more.length<=100000)(h2:extra.length<=100000):FC Tryz.prog 159 [sqD s,iD l,.one (fmS more),iD r,.one (fmS extra)] [sqD (zbk s l more r extra)]:=by
 obtain⟨l1,l2,g1,g2⟩:=zgw hs
 exact qa6 s l r more extra (fun x hx=>Kk (zcr (g1 x hx)) Yo) (fun x hx=>Kk (zcr (g2 x hx)) Yo) hm he Yo Yo
theorem zjv (s:Sq)(hs:s.good=true)(d:Dv)(hr:inB d.rule 11 14=true)(hd:d.term.wt<=1048576)(f:Fm)(hf:f.good=true)(ho:f.op=8\/f.op=9):FC Tryz.prog 161 [sqD s,iD d.rule,iD d.main,fmD f,tmD d.term] [.one (sqS (qS s d f).1),bD (qS s d f).2]:=by
  obtain⟨hpg,hp,hv⟩:=zdg hf ho;obtain⟨r,sq,m,t,c,ps⟩:=d;obtain⟨fo,fa,fv,fp⟩:=f;simp only[Dv.rule,Dv.term,Dv.main,Fm.parts,Fm.var]at hr hd hp hpg hv⊢;have hr':r=11\/r=12\/r=13\/r=14:=by unfold inB at hr;simp only[Qb,Qm]at hr;omega
  have hQ:qS s (.mk r sq m t c ps) (.mk fo fa fv fp)=(if(t.good&&(zbs fv t (fp.getD 0 zan)).2)=true then
    (if r=11 then ([zbk s (-1) [(zbs fv t (fp.getD 0 zan)).1] (-1) []],true)
     else if r=14 then ([zbk s (-1) [] (-1) [(zbs fv t (fp.getD 0 zan)).1]],true)
     else if(!za9 t.name||zet s t.name)=true then ([],false)
     else if r=12 then ([zbk s (-1) [] m [(zbs fv t (fp.getD 0 zan)).1]],true)
     else ([zbk s m [(zbs fv t (fp.getD 0 zan)).1] (-1) []],true))
  else ([],false)):=rfl
  rw[hQ];clear hQ hf;generalize fp.getD 0 zan=p at hp hpg⊢;subst hp;have hpw:=zcr hpg;have HT:=zns t Yo;cases htg:t.good
  · rw[htg]at HT;rw[Qq,if_neg (by simp)];show FC _ _ _ [.one (.sl 2 []),_]
    simp only[sqD,zat,fmD,zdc,tmD,zab t,Qg,Qh]at HT⊢;refine zai Tryz.call161 Tryz.func161 rfl Yn (zau Yn) ?_;simp -implicitDefEqProofs only[go_sem,Tryz.results161];refine callF (HT) Ym ?_;simp -implicitDefEqProofs only[go_sem];refine zad Ym ?_;simp -implicitDefEqProofs only[go_sem]
  · rw[htg]at HT;have hpw2:=qip (n:=fv) htg hpg;have HP:=qkq fv t hd p (zdy hpg) Yo (by have:=Nat.mul_le_mul (show 1+p.wt<=20801 by omega) hd;omega);have HN:=fun(l r:Int) (more extra:List Fm) hm he h1 h2=>zel s hs l r more extra hm he h1 h2;have HV:=zib t.name;have HNm:=zvm s hs;have HIn:=zte (zbb (zbb [] (vfs s.left)) (vfs s.right)) t.name;rw[zvw]at HIn;generalize zbb (zbb [] (vfs s.left)) (vfs s.right)=ns at HNm HIn;generalize zbs fv t p=B at HP hpw2⊢;obtain⟨a,b⟩:=B;simp only at hpw2 HP⊢;have hw1:∀x∈[a],x.wt<=1048576:=fun x hx=>by rw[Qw.1 hx];omega
    have hw0:∀x∈([]:List Fm),x.wt<=1048576:=fun x hx=>by cases hx
    have h2:(zbk s (-1) [a] (-1) [])=(zbk s (-1) [a] (-1) []):=rfl;have hsq:∀q:Sq,List.map sqC [q]=[[.sl 5 (q.left.map fmC),.sl 5 (q.right.map fmC)]]:=fun _=>rfl;rw[Qv];simp only[sqD,zat,fmD,zdc,zaa p,zaa a,tmD,zab t,Qg,Qh]at HT HP HNm⊢;cases b
    · rw[if_neg (by simp)];show FC _ _ _ [.one (.sl 2 []),_]
      refine zai Tryz.call161 Tryz.func161 rfl Yn (zau Yn) ?_;simp -implicitDefEqProofs only[go_sem,Tryz.results161];refine callF (HT) Ym ?_;simp -implicitDefEqProofs only[go_sem];refine drawn Yn ?_;simp -implicitDefEqProofs only[go_sem];refine zal (HP) Ym ?_;simp -implicitDefEqProofs only[go_sem];refine⟨Yn,?_⟩;refine zad Ym ?_;simp -implicitDefEqProofs only[go_sem]
    · rw[if_pos rfl];rcases hr' with rfl|rfl|rfl|rfl
      · rw[if_pos rfl];have HX:=HN (-1) (-1) [a] [] hw1 hw0 (by simp) (by simp);generalize zbk s (-1) [a] (-1) []=Q at HX⊢;rw[sqS,hsq];simp only[sqD,zat,zaa a,Qg,Qh]at HX;refine zai Tryz.call161 Tryz.func161 rfl Yn (zau Yn) ?_;simp -implicitDefEqProofs only[go_sem,Tryz.results161];refine callF (HT) Ym ?_;simp -implicitDefEqProofs only[go_sem];refine drawn Yn ?_;simp -implicitDefEqProofs only[go_sem];refine zal (HP) Ym ?_;simp -implicitDefEqProofs only[go_sem];refine⟨Yn,?_⟩;refine zad Ym ?_;simp -implicitDefEqProofs only[go_sem];refine zad Ym ?_;simp -implicitDefEqProofs only[go_sem];refine callF (HX) (by simp -implicitDefEqProofs only[go_sem,zaa a]) ?_;simp -implicitDefEqProofs only[go_sem,zaa a];refine zad Ym ?_;simp -implicitDefEqProofs only[go_sem]
      · rw[if_neg (by decide),if_neg (by decide)];generalize za9 t.name=vo at HV⊢;generalize zet s t.name=fr at HIn⊢;cases vo
        · rw[if_pos (by simp)];show FC _ _ _ [.one (.sl 2 []),_]
          refine zai Tryz.call161 Tryz.func161 rfl Yn (zau Yn) ?_;simp -implicitDefEqProofs only[go_sem,Tryz.results161];refine callF (HT) Ym ?_;simp -implicitDefEqProofs only[go_sem];refine drawn Yn ?_;simp -implicitDefEqProofs only[go_sem];refine zal (HP) Ym ?_;simp -implicitDefEqProofs only[go_sem];refine⟨Yn,?_⟩;refine zad Ym ?_;simp -implicitDefEqProofs only[go_sem];refine zad Ym ?_;simp -implicitDefEqProofs only[go_sem];refine drawn Yn ?_;simp -implicitDefEqProofs only[go_sem];refine zal (HV) Ym ?_;simp -implicitDefEqProofs only[go_sem];refine⟨Yn,?_⟩;refine zad Ym ?_;simp -implicitDefEqProofs only[go_sem]
        · cases fr
          · rw[if_neg (by simp),if_pos rfl];have HX:=HN (-1) m [] [a] hw0 hw1 (by simp) (by simp);generalize zbk s (-1) [] m [a]=Q at HX⊢;rw[sqS,hsq];simp only[sqD,zat,zaa a,Qg,Qh]at HX;refine zai Tryz.call161 Tryz.func161 rfl Yn (zau Yn) ?_;simp -implicitDefEqProofs only[go_sem,Tryz.results161];refine callF (HT) Ym ?_;simp -implicitDefEqProofs only[go_sem];refine drawn Yn ?_;simp -implicitDefEqProofs only[go_sem];refine zal (HP) Ym ?_;simp -implicitDefEqProofs only[go_sem];refine⟨Yn,?_⟩;refine zad Ym ?_;simp -implicitDefEqProofs only[go_sem];refine zad Ym ?_;simp -implicitDefEqProofs only[go_sem];refine drawn Yn ?_;simp -implicitDefEqProofs only[go_sem];refine zal (HV) Ym ?_;simp -implicitDefEqProofs only[go_sem];refine za5 (HNm) Ym ?_;simp -implicitDefEqProofs only[go_sem];refine za5 (HIn) Ym ?_;simp -implicitDefEqProofs only[go_sem];refine⟨Yn,?_⟩;refine callF (HX) (by simp -implicitDefEqProofs only[go_sem,zaa a]) ?_;simp -implicitDefEqProofs only[go_sem,zaa a];refine zad Ym ?_;simp -implicitDefEqProofs only[go_sem]
          · rw[if_pos (by simp)];show FC _ _ _ [.one (.sl 2 []),_]
            refine zai Tryz.call161 Tryz.func161 rfl Yn (zau Yn) ?_;simp -implicitDefEqProofs only[go_sem,Tryz.results161];refine callF (HT) Ym ?_;simp -implicitDefEqProofs only[go_sem];refine drawn Yn ?_;simp -implicitDefEqProofs only[go_sem];refine zal (HP) Ym ?_;simp -implicitDefEqProofs only[go_sem];refine⟨Yn,?_⟩;refine zad Ym ?_;simp -implicitDefEqProofs only[go_sem];refine zad Ym ?_;simp -implicitDefEqProofs only[go_sem];refine drawn Yn ?_;simp -implicitDefEqProofs only[go_sem];refine zal (HV) Ym ?_;simp -implicitDefEqProofs only[go_sem];refine za5 (HNm) Ym ?_;simp -implicitDefEqProofs only[go_sem];refine za5 (HIn) Ym ?_;simp -implicitDefEqProofs only[go_sem];refine⟨Yn,?_⟩;refine zad Ym ?_;simp -implicitDefEqProofs only[go_sem]
      · rw[if_neg (by decide),if_neg (by decide)];generalize za9 t.name=vo at HV⊢;generalize zet s t.name=fr at HIn⊢;cases vo
        · rw[if_pos (by simp)];show FC _ _ _ [.one (.sl 2 []),_]
          refine zai Tryz.call161 Tryz.func161 rfl Yn (zau Yn) ?_;simp -implicitDefEqProofs only[go_sem,Tryz.results161];refine callF (HT) Ym ?_;simp -implicitDefEqProofs only[go_sem];refine drawn Yn ?_;simp -implicitDefEqProofs only[go_sem];refine zal (HP) Ym ?_;simp -implicitDefEqProofs only[go_sem];refine⟨Yn,?_⟩;refine zad Ym ?_;simp -implicitDefEqProofs only[go_sem];refine zad Ym ?_;simp -implicitDefEqProofs only[go_sem];refine drawn Yn ?_;simp -implicitDefEqProofs only[go_sem];refine zal (HV) Ym ?_;simp -implicitDefEqProofs only[go_sem];refine⟨Yn,?_⟩;refine zad Ym ?_;simp -implicitDefEqProofs only[go_sem]
        · cases fr
          · rw[if_neg (by simp),if_neg (by decide)];have HX:=HN m (-1) [a] [] hw1 hw0 (by simp) (by simp);generalize zbk s m [a] (-1) []=Q at HX⊢;rw[sqS,hsq];simp only[sqD,zat,zaa a,Qg,Qh]at HX;refine zai Tryz.call161 Tryz.func161 rfl Yn (zau Yn) ?_;simp -implicitDefEqProofs only[go_sem,Tryz.results161];refine callF (HT) Ym ?_;simp -implicitDefEqProofs only[go_sem];refine drawn Yn ?_;simp -implicitDefEqProofs only[go_sem];refine zal (HP) Ym ?_;simp -implicitDefEqProofs only[go_sem];refine⟨Yn,?_⟩;refine zad Ym ?_;simp -implicitDefEqProofs only[go_sem];refine zad Ym ?_;simp -implicitDefEqProofs only[go_sem];refine drawn Yn ?_;simp -implicitDefEqProofs only[go_sem];refine zal (HV) Ym ?_;simp -implicitDefEqProofs only[go_sem];refine za5 (HNm) Ym ?_;simp -implicitDefEqProofs only[go_sem];refine za5 (HIn) Ym ?_;simp -implicitDefEqProofs only[go_sem];refine⟨Yn,?_⟩;refine callF (HX) (by simp -implicitDefEqProofs only[go_sem,zaa a]) ?_;simp -implicitDefEqProofs only[go_sem,zaa a];refine zad Ym ?_;simp -implicitDefEqProofs only[go_sem]
          · rw[if_pos (by simp)];show FC _ _ _ [.one (.sl 2 []),_]
            refine zai Tryz.call161 Tryz.func161 rfl Yn (zau Yn) ?_;simp -implicitDefEqProofs only[go_sem,Tryz.results161];refine callF (HT) Ym ?_;simp -implicitDefEqProofs only[go_sem];refine drawn Yn ?_;simp -implicitDefEqProofs only[go_sem];refine zal (HP) Ym ?_;simp -implicitDefEqProofs only[go_sem];refine⟨Yn,?_⟩;refine zad Ym ?_;simp -implicitDefEqProofs only[go_sem];refine zad Ym ?_;simp -implicitDefEqProofs only[go_sem];refine drawn Yn ?_;simp -implicitDefEqProofs only[go_sem];refine zal (HV) Ym ?_;simp -implicitDefEqProofs only[go_sem];refine za5 (HNm) Ym ?_;simp -implicitDefEqProofs only[go_sem];refine za5 (HIn) Ym ?_;simp -implicitDefEqProofs only[go_sem];refine⟨Yn,?_⟩;refine zad Ym ?_;simp -implicitDefEqProofs only[go_sem]
      · rw[if_neg (by decide),if_pos rfl];have HX:=HN (-1) (-1) [] [a] hw0 hw1 (by simp) (by simp);generalize zbk s (-1) [] (-1) [a]=Q at HX⊢;rw[sqS,hsq];simp only[sqD,zat,zaa a,Qg,Qh]at HX;refine zai Tryz.call161 Tryz.func161 rfl Yn (zau Yn) ?_;simp -implicitDefEqProofs only[go_sem,Tryz.results161];refine callF (HT) Ym ?_;simp -implicitDefEqProofs only[go_sem];refine drawn Yn ?_;simp -implicitDefEqProofs only[go_sem];refine zal (HP) Ym ?_;simp -implicitDefEqProofs only[go_sem];refine⟨Yn,?_⟩;refine zad Ym ?_;simp -implicitDefEqProofs only[go_sem];refine zad Ym ?_;simp -implicitDefEqProofs only[go_sem];refine callF (HX) (by simp -implicitDefEqProofs only[go_sem,zaa a]) ?_;simp -implicitDefEqProofs only[go_sem,zaa a];refine zad Ym ?_;simp -implicitDefEqProofs only[go_sem]
end
section
open Go.RowKit
theorem hsq1 (q:Sq):List.map sqC [q]=[[.sl 5 (q.left.map fmC),.sl 5 (q.right.map fmC)]]:=rfl
theorem hsq2 (q q2:Sq):List.map sqC [q,q2]=[[.sl 5 (q.left.map fmC),.sl 5 (q.right.map fmC)],[.sl 5 (q2.left.map fmC),.sl 5 (q2.right.map fmC)]]:=rfl
theorem prop_3 (s:Sq)(hs:s.good=true)(m:Int)(p:Fm)(hp:p.wt<=1048576):FC Tryz.prog 162 [sqD s,iD 3,iD m,.one (fmS [p])] [.one (sqS [zbk s m [] (-1) [p]])]:=by
 have hw0:∀x∈([]:List Fm),x.wt<=1048576:=fun x hx=>by cases hx
 have hp1:∀x∈[p],x.wt<=1048576:=fun x hx=>by rw[Qw.1 hx];exact hp
 have H0:=zel s hs m (-1) [] [p] hw0 hp1 (by simp) (by simp)
 generalize zbk s m [] (-1) [p]=Q0 at H0⊢
 rw[sqS,hsq1]
 simp only[sqD,zat,fmS,Qg,Qh]at H0⊢
 refine zai Tryz.call162 Tryz.func162 rfl Yn (zau Yn) ?_
 simp -implicitDefEqProofs only[go_sem,Tryz.results162]
 refine zad Ym ?_
 simp -implicitDefEqProofs only[go_sem]
 refine callF (H0) Ym ?_
 simp -implicitDefEqProofs only[go_sem]
 refine zad Ym ?_
 simp -implicitDefEqProofs only[go_sem]
theorem prop_4 (s:Sq)(hs:s.good=true)(m:Int)(p:Fm)(hp:p.wt<=1048576):FC Tryz.prog 162 [sqD s,iD 4,iD m,.one (fmS [p])] [.one (sqS [zbk s (-1) [p] m []])]:=by
 have hw0:∀x∈([]:List Fm),x.wt<=1048576:=fun x hx=>by cases hx
 have hp1:∀x∈[p],x.wt<=1048576:=fun x hx=>by rw[Qw.1 hx];exact hp
 have H0:=zel s hs (-1) m [p] [] hp1 hw0 (by simp) (by simp)
 generalize zbk s (-1) [p] m []=Q0 at H0⊢
 rw[sqS,hsq1]
 simp only[sqD,zat,fmS,Qg,Qh]at H0⊢
 refine zai Tryz.call162 Tryz.func162 rfl Yn (zau Yn) ?_
 simp -implicitDefEqProofs only[go_sem,Tryz.results162]
 refine zad Ym ?_
 simp -implicitDefEqProofs only[go_sem]
 refine callF (H0) Ym ?_
 simp -implicitDefEqProofs only[go_sem]
 refine zad Ym ?_
 simp -implicitDefEqProofs only[go_sem]
theorem prop_5 (s:Sq)(hs:s.good=true)(m:Int)(p q:Fm)(hp:p.wt<=1048576)(hq:q.wt<=1048576):FC Tryz.prog 162 [sqD s,iD 5,iD m,.one (fmS [p,q])] [.one (sqS [zbk s m [p,q] (-1) []])]:=by
 have hw0:∀x∈([]:List Fm),x.wt<=1048576:=fun x hx=>by cases hx
 have hp1:∀x∈[p],x.wt<=1048576:=fun x hx=>by rw[Qw.1 hx];exact hp
 have hq1:∀x∈[q],x.wt<=1048576:=fun x hx=>by rw[Qw.1 hx];exact hq
 have hpq:∀x∈[p,q],x.wt<=1048576:=fun x hx=>by
  simp only[Qr,Kn,or_false]at hx;rcases hx with rfl|rfl
  ·exact hp
  ·exact hq
 have H0:=zel s hs m (-1) [p,q] [] hpq hw0 (by simp) (by simp)
 generalize zbk s m [p,q] (-1) []=Q0 at H0⊢
 rw[sqS,hsq1]
 simp only[sqD,zat,fmS,Qg,Qh]at H0⊢
 refine zai Tryz.call162 Tryz.func162 rfl Yn (zau Yn) ?_
 simp -implicitDefEqProofs only[go_sem,Tryz.results162]
 refine zad Ym ?_
 simp -implicitDefEqProofs only[go_sem]
 refine callF (H0) Ym ?_
 simp -implicitDefEqProofs only[go_sem]
 refine zad Ym ?_
 simp -implicitDefEqProofs only[go_sem]
theorem prop_6 (s:Sq)(hs:s.good=true)(m:Int)(p q:Fm)(hp:p.wt<=1048576)(hq:q.wt<=1048576):FC Tryz.prog 162 [sqD s,iD 6,iD m,.one (fmS [p,q])] [.one (sqS [zbk s (-1) [] m [p],zbk s (-1) [] m [q]])]:=by
 have hw0:∀x∈([]:List Fm),x.wt<=1048576:=fun x hx=>by cases hx
 have hp1:∀x∈[p],x.wt<=1048576:=fun x hx=>by rw[Qw.1 hx];exact hp
 have hq1:∀x∈[q],x.wt<=1048576:=fun x hx=>by rw[Qw.1 hx];exact hq
 have hpq:∀x∈[p,q],x.wt<=1048576:=fun x hx=>by
  simp only[Qr,Kn,or_false]at hx;rcases hx with rfl|rfl
  ·exact hp
  ·exact hq
 have H0:=zel s hs (-1) m [] [p] hw0 hp1 (by simp) (by simp)
 have H1:=zel s hs (-1) m [] [q] hw0 hq1 (by simp) (by simp)
 generalize zbk s (-1) [] m [p]=Q0 at H0⊢
 generalize zbk s (-1) [] m [q]=Q1 at H1⊢
 rw[sqS,hsq2]
 simp only[sqD,zat,fmS,Qg,Qh]at H0 H1⊢
 refine zai Tryz.call162 Tryz.func162 rfl Yn (zau Yn) ?_
 simp -implicitDefEqProofs only[go_sem,Tryz.results162]
 refine zad Ym ?_
 simp -implicitDefEqProofs only[go_sem]
 refine drawn Yn ?_
 simp -implicitDefEqProofs only[go_sem]
 refine zal (H0) Ym ?_
 simp -implicitDefEqProofs only[go_sem]
 refine zal (H1) Ym ?_
 simp -implicitDefEqProofs only[go_sem]
 refine za2 Ym ?_
 simp -implicitDefEqProofs only[go_sem]
 kernel_rfl
theorem prop_7 (s:Sq)(hs:s.good=true)(m:Int)(p q:Fm)(hp:p.wt<=1048576)(hq:q.wt<=1048576):FC Tryz.prog 162 [sqD s,iD 7,iD m,.one (fmS [p,q])] [.one (sqS [zbk s m [p] (-1) [],zbk s m [q] (-1) []])]:=by
 have hw0:∀x∈([]:List Fm),x.wt<=1048576:=fun x hx=>by cases hx
 have hp1:∀x∈[p],x.wt<=1048576:=fun x hx=>by rw[Qw.1 hx];exact hp
 have hq1:∀x∈[q],x.wt<=1048576:=fun x hx=>by rw[Qw.1 hx];exact hq
 have hpq:∀x∈[p,q],x.wt<=1048576:=fun x hx=>by
  simp only[Qr,Kn,or_false]at hx;rcases hx with rfl|rfl
  ·exact hp
  ·exact hq
 have H0:=zel s hs m (-1) [p] [] hp1 hw0 (by simp) (by simp)
 have H1:=zel s hs m (-1) [q] [] hq1 hw0 (by simp) (by simp)
 generalize zbk s m [p] (-1) []=Q0 at H0⊢
 generalize zbk s m [q] (-1) []=Q1 at H1⊢
 rw[sqS,hsq2]
 simp only[sqD,zat,fmS,Qg,Qh]at H0 H1⊢
 refine zai Tryz.call162 Tryz.func162 rfl Yn (zau Yn) ?_
 simp -implicitDefEqProofs only[go_sem,Tryz.results162]
 refine zad Ym ?_
 simp -implicitDefEqProofs only[go_sem]
 refine drawn Yn ?_
 simp -implicitDefEqProofs only[go_sem]
 refine zal (H0) Ym ?_
 simp -implicitDefEqProofs only[go_sem]
 refine zal (H1) Ym ?_
 simp -implicitDefEqProofs only[go_sem]
 refine za2 Ym ?_
 simp -implicitDefEqProofs only[go_sem]
 kernel_rfl
theorem prop_8 (s:Sq)(hs:s.good=true)(m:Int)(p q:Fm)(hp:p.wt<=1048576)(hq:q.wt<=1048576):FC Tryz.prog 162 [sqD s,iD 8,iD m,.one (fmS [p,q])] [.one (sqS [zbk s (-1) [] m [p,q]])]:=by
 have hw0:∀x∈([]:List Fm),x.wt<=1048576:=fun x hx=>by cases hx
 have hp1:∀x∈[p],x.wt<=1048576:=fun x hx=>by rw[Qw.1 hx];exact hp
 have hq1:∀x∈[q],x.wt<=1048576:=fun x hx=>by rw[Qw.1 hx];exact hq
 have hpq:∀x∈[p,q],x.wt<=1048576:=fun x hx=>by
  simp only[Qr,Kn,or_false]at hx;rcases hx with rfl|rfl
  ·exact hp
  ·exact hq
 have H0:=zel s hs (-1) m [] [p,q] hw0 hpq (by simp) (by simp)
 generalize zbk s (-1) [] m [p,q]=Q0 at H0⊢
 rw[sqS,hsq1]
 simp only[sqD,zat,fmS,Qg,Qh]at H0⊢
 refine zai Tryz.call162 Tryz.func162 rfl Yn (zau Yn) ?_
 simp -implicitDefEqProofs only[go_sem,Tryz.results162]
 refine zad Ym ?_
 simp -implicitDefEqProofs only[go_sem]
 refine callF (H0) Ym ?_
 simp -implicitDefEqProofs only[go_sem]
 refine zad Ym ?_
 simp -implicitDefEqProofs only[go_sem]
theorem prop_9 (s:Sq)(hs:s.good=true)(m:Int)(p q:Fm)(hp:p.wt<=1048576)(hq:q.wt<=1048576):FC Tryz.prog 162 [sqD s,iD 9,iD m,.one (fmS [p,q])] [.one (sqS [zbk s m [] (-1) [p],zbk s m [q] (-1) []])]:=by
 have hw0:∀x∈([]:List Fm),x.wt<=1048576:=fun x hx=>by cases hx
 have hp1:∀x∈[p],x.wt<=1048576:=fun x hx=>by rw[Qw.1 hx];exact hp
 have hq1:∀x∈[q],x.wt<=1048576:=fun x hx=>by rw[Qw.1 hx];exact hq
 have hpq:∀x∈[p,q],x.wt<=1048576:=fun x hx=>by
  simp only[Qr,Kn,or_false]at hx;rcases hx with rfl|rfl
  ·exact hp
  ·exact hq
 have H0:=zel s hs m (-1) [] [p] hw0 hp1 (by simp) (by simp)
 have H1:=zel s hs m (-1) [q] [] hq1 hw0 (by simp) (by simp)
 generalize zbk s m [] (-1) [p]=Q0 at H0⊢
 generalize zbk s m [q] (-1) []=Q1 at H1⊢
 rw[sqS,hsq2]
 simp only[sqD,zat,fmS,Qg,Qh]at H0 H1⊢
 refine zai Tryz.call162 Tryz.func162 rfl Yn (zau Yn) ?_
 simp -implicitDefEqProofs only[go_sem,Tryz.results162]
 refine zad Ym ?_
 simp -implicitDefEqProofs only[go_sem]
 refine drawn Yn ?_
 simp -implicitDefEqProofs only[go_sem]
 refine zal (H0) Ym ?_
 simp -implicitDefEqProofs only[go_sem]
 refine zal (H1) Ym ?_
 simp -implicitDefEqProofs only[go_sem]
 refine za2 Ym ?_
 simp -implicitDefEqProofs only[go_sem]
 kernel_rfl
theorem qke (s:Sq)(hs:s.good=true)(m:Int)(p q:Fm)(hp:p.wt<=1048576)(hq:q.wt<=1048576):FC Tryz.prog 162 [sqD s,iD 10,iD m,.one (fmS [p,q])] [.one (sqS [zbk s (-1) [p] m [q]])]:=by
 have hw0:∀x∈([]:List Fm),x.wt<=1048576:=fun x hx=>by cases hx
 have hp1:∀x∈[p],x.wt<=1048576:=fun x hx=>by rw[Qw.1 hx];exact hp
 have hq1:∀x∈[q],x.wt<=1048576:=fun x hx=>by rw[Qw.1 hx];exact hq
 have hpq:∀x∈[p,q],x.wt<=1048576:=fun x hx=>by
  simp only[Qr,Kn,or_false]at hx;rcases hx with rfl|rfl
  ·exact hp
  ·exact hq
 have H0:=zel s hs (-1) m [p] [q] hp1 hq1 (by simp) (by simp)
 generalize zbk s (-1) [p] m [q]=Q0 at H0⊢
 rw[sqS,hsq1]
 simp only[sqD,zat,fmS,Qg,Qh]at H0⊢
 refine zai Tryz.call162 Tryz.func162 rfl Yn (zau Yn) ?_
 simp -implicitDefEqProofs only[go_sem,Tryz.results162]
 refine zad Ym ?_
 simp -implicitDefEqProofs only[go_sem]
 refine callF (H0) Ym ?_
 simp -implicitDefEqProofs only[go_sem]
 refine zad Ym ?_
 simp -implicitDefEqProofs only[go_sem]
theorem zei (s:Sq)(hs:s.good=true)(d:Dv)(hr:3<=d.rule/\d.rule<=10)(f:Fm)(hf:f.good=true)(ho:f.op=opL d.rule):FC Tryz.prog 162 [sqD s,iD d.rule,iD d.main,.one (fmS f.parts)] [.one (sqS ((zbw s d.rule f).1.map (zea s d)))]:=by
 obtain⟨r,sq,m,t,c,ps⟩:=d
 simp only[Dv.rule,Dv.main]at hr ho⊢
 have hw:=zcr hf
 have hpw:∀x∈f.parts,x.wt<=1048576:=fun x hx=>Kk (zck hx) Yo
 have hr':r=3\/r=4\/r=5\/r=6\/r=7\/r=8\/r=9\/r=10:=by omega
 rcases hr' with rfl|rfl|rfl|rfl|rfl|rfl|rfl|rfl
 ·obtain⟨p,hp⟩:=zga hf ho;rw[hp]at hpw⊢;have h:=prop_3 s hs m p (hpw p (by simp));have e:((zbw s 3 f).1.map (zea s (.mk 3 sq m t c ps)))=[zbk s m [] (-1) [p]]:=by
   have e0:zbw s 3 f=([⟨[],[f.parts.getD 0 zan]⟩],true):=rfl;rw[e0,hp];rfl
  rw[e];exact h
 ·obtain⟨p,hp⟩:=zga hf ho;rw[hp]at hpw⊢;have h:=prop_4 s hs m p (hpw p (by simp));have e:((zbw s 4 f).1.map (zea s (.mk 4 sq m t c ps)))=[zbk s (-1) [p] m []]:=by
   have e0:zbw s 4 f=([⟨[f.parts.getD 0 zan],[]⟩],true):=rfl;rw[e0,hp];rfl
  rw[e];exact h
 ·obtain⟨p,q,hp⟩:=zbz hf (Or.inl ho);rw[hp]at hpw⊢;have h:=prop_5 s hs m p q (hpw p (by simp)) (hpw q (by simp));have e:((zbw s 5 f).1.map (zea s (.mk 5 sq m t c ps)))=[zbk s m [p,q] (-1) []]:=by
   unfold zbw;simp only[show(5:Int)=1↔False by decide,show(5:Int)=2↔False by decide,show(5:Int)=3↔False by decide,show(5:Int)=4↔False by decide,hp,if_false];rfl
  rw[e];exact h
 ·obtain⟨p,q,hp⟩:=zbz hf (Or.inl ho);rw[hp]at hpw⊢;have h:=prop_6 s hs m p q (hpw p (by simp)) (hpw q (by simp));have e:((zbw s 6 f).1.map (zea s (.mk 6 sq m t c ps)))=[zbk s (-1) [] m [p],zbk s (-1) [] m [q]]:=by
   unfold zbw;simp only[show(6:Int)=1↔False by decide,show(6:Int)=2↔False by decide,show(6:Int)=3↔False by decide,show(6:Int)=4↔False by decide,hp,if_false];rfl
  rw[e];exact h
 ·obtain⟨p,q,hp⟩:=zbz hf (Or.inr (Or.inl ho));rw[hp]at hpw⊢;have h:=prop_7 s hs m p q (hpw p (by simp)) (hpw q (by simp));have e:((zbw s 7 f).1.map (zea s (.mk 7 sq m t c ps)))=[zbk s m [p] (-1) [],zbk s m [q] (-1) []]:=by
   unfold zbw;simp only[show(7:Int)=1↔False by decide,show(7:Int)=2↔False by decide,show(7:Int)=3↔False by decide,show(7:Int)=4↔False by decide,hp,if_false];rfl
  rw[e];exact h
 ·obtain⟨p,q,hp⟩:=zbz hf (Or.inr (Or.inl ho));rw[hp]at hpw⊢;have h:=prop_8 s hs m p q (hpw p (by simp)) (hpw q (by simp));have e:((zbw s 8 f).1.map (zea s (.mk 8 sq m t c ps)))=[zbk s (-1) [] m [p,q]]:=by
   unfold zbw;simp only[show(8:Int)=1↔False by decide,show(8:Int)=2↔False by decide,show(8:Int)=3↔False by decide,show(8:Int)=4↔False by decide,hp,if_false];rfl
  rw[e];exact h
 ·obtain⟨p,q,hp⟩:=zbz hf (Or.inr (Or.inr ho));rw[hp]at hpw⊢;have h:=prop_9 s hs m p q (hpw p (by simp)) (hpw q (by simp));have e:((zbw s 9 f).1.map (zea s (.mk 9 sq m t c ps)))=[zbk s m [] (-1) [p],zbk s m [q] (-1) []]:=by
   unfold zbw;simp only[show(9:Int)=1↔False by decide,show(9:Int)=2↔False by decide,show(9:Int)=3↔False by decide,show(9:Int)=4↔False by decide,hp,if_false];rfl
  rw[e];exact h
 ·obtain⟨p,q,hp⟩:=zbz hf (Or.inr (Or.inr ho));rw[hp]at hpw⊢;have h:=qke s hs m p q (hpw p (by simp)) (hpw q (by simp));have e:((zbw s 10 f).1.map (zea s (.mk 10 sq m t c ps)))=[zbk s (-1) [p] m [q]]:=by
   unfold zbw;simp only[show(10:Int)=1↔False by decide,show(10:Int)=2↔False by decide,show(10:Int)=3↔False by decide,show(10:Int)=4↔False by decide,hp,if_false];rfl
  rw[e];exact h
end
section
open Go.RowKit
theorem zha (t:Tm):same t (.mk [] [])=t.none:=by
 obtain⟨n,a⟩:=t
 rw[Kq,zdk]
 unfold Tm.none
 simp only[Tm.name,Tm.args,Qb,Kr,Qm,Q7,Tm.mk.injEq]
theorem znj {side:List Fm}{m:Int}(h:inB m 0 (side.length-1)=true):∃j:Nat,m=j/\j<side.length:=by
 unfold inB at h
 simp only[Qb,Qm]at h
 exact⟨m.toNat,Yo,Yo⟩
theorem qjm (s sq:Sq)(r m:Int)(t:Tm)(c:Fm)(ps:List Dv)(h:((!inB r 11 14&&!t.none)||(!(r==15)&&!same c zan))=true):FC Tryz.prog 85 [sqD s,dvD (.mk r sq m t c ps)] [.one (sqS []),bD false]:=by
 have HQ:=zey r 11 14
 have HT:=zg9 t (.mk [] [])
 have HC:=zi9 c zan
 have hzt:tmD (.mk [] [])=.agg [.str [],.sl 2 []]:=rfl
 have hzf:fmD zan=.agg [.int .i64 0,.str [],.sl 2 [],.str [],.sl 5 []]:=rfl
 rw[zha,hzt]at HT
 rw[hzf]at HC
 simp only[sqD,zat,dvD,zbq,tmD,zab t,fmD,zaa c]at HT HC⊢
 show FC _ _ _ [.one (.sl 2 []),_]
 have hne15:(r != 15)=!(r==15):=rfl
 generalize inB r 11 14=q at HQ h
 generalize t.none=n at HT h
 generalize same c zan=sc at HC h
 cases q
 ·cases n
  ·refine zai Tryz.call85 Tryz.func85 rfl Yn (zau Yn) ?_;simp -implicitDefEqProofs only[go_sem,Tryz.results85];refine zad Ym ?_;simp -implicitDefEqProofs only[go_sem];refine callF (HQ) Ym ?_;simp -implicitDefEqProofs only[go_sem];refine callF (HT) Ym ?_;simp -implicitDefEqProofs only[go_sem]
  ·simp only[Kb,Kd,Ka,Km,Qb,Jo]at h;obtain⟨h15,rfl⟩:=h;have hne15:(r != 15)=true:=by unfold bne;rw[h15];rfl
   refine zai Tryz.call85 Tryz.func85 rfl Yn (zau Yn) ?_;simp -implicitDefEqProofs only[go_sem,Tryz.results85];refine zad Ym ?_;simp -implicitDefEqProofs only[go_sem];refine callF (HQ) Ym ?_;simp -implicitDefEqProofs only[go_sem];refine callF (HT) (by simp -implicitDefEqProofs only[go_sem,hne15]) ?_;simp -implicitDefEqProofs only[go_sem,hne15];refine callF (HC) Ym ?_;simp -implicitDefEqProofs only[go_sem]
 ·simp only[Kd,Qq,Km,Qb,Jo]at h;obtain⟨h15,rfl⟩:=h;have hne15:(r != 15)=true:=by unfold bne;rw[h15];rfl
  refine zai Tryz.call85 Tryz.func85 rfl Yn (zau Yn) ?_;simp -implicitDefEqProofs only[go_sem,Tryz.results85];refine zad Ym ?_;simp -implicitDefEqProofs only[go_sem];refine callF (HQ) (by simp -implicitDefEqProofs only[go_sem,hne15]) ?_;simp -implicitDefEqProofs only[go_sem,hne15];refine callF (HC) Ym ?_;simp -implicitDefEqProofs only[go_sem]
theorem qes (s sq:Sq)(hs:s.good=true)(m:Int)(t:Tm)(c:Fm)(ps:List Dv)(hn:t.none=true)(hc:c.wt<=1048576):FC Tryz.prog 85 [sqD s,dvD (.mk 15 sq m t c ps)] [.one (sqS [zbk s (-1) [] (-1) [c],zbk s (-1) [c] (-1) []]),bD (m==0&&c.good)]:=by
 have HQ:FC Tryz.prog 63 [iD 15,iD 11,iD 14] [bD false]:=zey 15 11 14
 have HT:=zg9 t (.mk [] [])
 have hzt:tmD (.mk [] [])=.agg [.str [],.sl 2 []]:=rfl
 rw[zha,hzt,hn]at HT
 have hw0:∀x∈([]:List Fm),x.wt<=1048576:=fun x hx=>by cases hx
 have hw1:∀x∈[c],x.wt<=1048576:=fun x hx=>by rw[Qw.1 hx];exact hc
 have HA:=zel s hs (-1) (-1) [] [c] hw0 hw1 (by simp) (by simp)
 have HB:=zel s hs (-1) (-1) [c] [] hw1 hw0 (by simp) (by simp)
 have HG:=zul c Yo
 generalize zbk s (-1) [] (-1) [c]=Q0 at HA⊢
 generalize zbk s (-1) [c] (-1) []=Q1 at HB⊢
 generalize c.good=cg at HG⊢
 rw[sqS,hsq2]
 simp only[sqD,zat,dvD,zbq,tmD,zab t,fmD,fmS,zaa c,Qg,Qh]at HT HA HB HG⊢
 cases hm:(m==0)
 ·rw[Qq];refine zai Tryz.call85 Tryz.func85 rfl Yn (zau Yn) ?_;simp -implicitDefEqProofs only[go_sem,Tryz.results85];refine zad Ym ?_;simp -implicitDefEqProofs only[go_sem];refine callF (HQ) Ym ?_;simp -implicitDefEqProofs only[go_sem];refine callF (HT) Ym ?_;simp -implicitDefEqProofs only[go_sem];refine zcw Ym ?_;simp -implicitDefEqProofs only[go_sem];refine drawn Yn ?_;simp -implicitDefEqProofs only[go_sem];refine zji Ym ?_;simp -implicitDefEqProofs only[go_sem];refine zal (HA) Ym ?_;simp -implicitDefEqProofs only[go_sem];refine zji Ym ?_;simp -implicitDefEqProofs only[go_sem];refine zal (HB) Ym ?_;simp -implicitDefEqProofs only[go_sem];refine za2 (by simp -implicitDefEqProofs only[go_sem,hm]) ?_;simp -implicitDefEqProofs only[go_sem,hm];kernel_rfl
 ·rw[Qv];refine zai Tryz.call85 Tryz.func85 rfl Yn (zau Yn) ?_;simp -implicitDefEqProofs only[go_sem,Tryz.results85];refine zad Ym ?_;simp -implicitDefEqProofs only[go_sem];refine callF (HQ) Ym ?_;simp -implicitDefEqProofs only[go_sem];refine callF (HT) Ym ?_;simp -implicitDefEqProofs only[go_sem];refine zcw Ym ?_;simp -implicitDefEqProofs only[go_sem];refine drawn Yn ?_;simp -implicitDefEqProofs only[go_sem];refine zji Ym ?_;simp -implicitDefEqProofs only[go_sem];refine zal (HA) Ym ?_;simp -implicitDefEqProofs only[go_sem];refine zji Ym ?_;simp -implicitDefEqProofs only[go_sem];refine zal (HB) Ym ?_;simp -implicitDefEqProofs only[go_sem];refine za2 (by simp -implicitDefEqProofs only[go_sem,hm]) ?_;simp -implicitDefEqProofs only[go_sem,hm];refine za5 (HG) Ym ?_;simp -implicitDefEqProofs only[go_sem];kernel_rfl
theorem rule_q (s sq:Sq)(r m:Int)(t:Tm)(c:Fm)(ps:List Dv)(hs:s.good=true)(hq:inB r 11 14=true)(ht:t.wt<=1048576)(h15:(r==15)=false)(hcz:same c zan=true)(X:List Sq×Bool)(hX:X=if(inB r 1 15&&zbr s (.mk r sq m t c ps))=true then qS s (.mk r sq m t c ps) (zbc s (.mk r sq m t c ps))else ([],false)):FC Tryz.prog 85 [sqD s,dvD (.mk r sq m t c ps)] [.one (sqS X.1),bD X.2]:=by
 obtain⟨l1,l2,g1,g2⟩:=zgw hs
 have hne15:(r != 15)=true:=by unfold bne;rw[h15];rfl
 have h15':r≠15:=by simpa using h15
 have HR:=zey r 1 15
 have HOn:=qjs r
 have HQ:=zey r 11 14
 have HT:=zg9 t (.mk [] [])
 have HC:=zi9 c zan
 have hzt:tmD (.mk [] [])=.agg [.str [],.sl 2 []]:=rfl
 have hzf:fmD zan=.agg [.int .i64 0,.str [],.sl 2 [],.str [],.sl 5 []]:=rfl
 rw[zha,hzt]at HT
 rw[hzf]at HC
 rw[hq]at HQ
 rw[hcz]at HC
 have hr4:11<=r/\r<=14:=by unfold inB at hq;simpa only[Qb,Qm]using hq
 have hin:inB r 1 15=true:=by unfold inB;simp only[Qb,Qm];omega
 have h1:(r==1)=false:=by rw[Ql];omega
 have h2:(r==2)=false:=by rw[Ql];omega
 have hmk:∀side,zc6 s r=side->zbr s (.mk r sq m t c ps)=(inB m 0 (side.length-1)&&(opL r==0||(side.getD m.toNat zan).op==opL r)):=fun side hh=>by rw[<-hh];rfl
 have hmf:∀side,zc6 s r=side->zbc s (.mk r sq m t c ps)=side.getD m.toNat zan:=fun side hh=>by rw[<-hh];rfl
 have HXX:=fun f hf ho=>zjv s hs (.mk r sq m t c ps) hq ht f hf ho
 simp only[Dv.rule,Dv.main,Dv.term]at HXX
 have ho0:(opL r==0)=false:=by
  rcases(show r=11\/r=12\/r=13\/r=14 by omega)with rfl|rfl|rfl|rfl<;>rfl
 have hopq:∀o:Int,o=opL r->o=8\/o=9:=fun o e=>by
  rcases(show r=11\/r=12\/r=13\/r=14 by omega)with rfl|rfl|rfl|rfl
  ·exact Or.inl e
  ·exact Or.inl e
  ·exact Or.inr e
  ·exact Or.inr e
 rw[hin]at HR
 rw[hin,Qv]at hX
 have HO:=qds r Yo
 cases hon:onL r
 ·have hsd:zc6 s r=s.right:=by unfold zc6;rw[hon];rfl
  have hmk:=hmk _ hsd;have hmf:=hmf _ hsd;have gg:=g2;rw[hon]at HOn;have HM:=zey m 0 (s.right.length-1);have hw:IntKind.i64.wrap ((s.right.length:Int)-1)=(s.right.length:Int)-1:=za1 Yo Yo;cases hir:inB m 0 (s.right.length-1)
  ·rw[hir]at HM;rw[hir,Qq]at hmk;rw[hmk,if_neg (by simp)]at hX;subst hX;simp only[sqD,zat,dvD,zbq,tmD,zab t,fmD,zaa c]at HT HC⊢;show FC _ _ _ [.one (.sl 2 []),_]
   refine zai Tryz.call85 Tryz.func85 rfl Yn (zau Yn) ?_;simp -implicitDefEqProofs only[go_sem,Tryz.results85];refine zad Ym ?_;simp -implicitDefEqProofs only[go_sem];refine callF (HQ) (by simp -implicitDefEqProofs only[go_sem,hne15]) ?_;simp -implicitDefEqProofs only[go_sem,hne15];refine callF (HC) (by simp -implicitDefEqProofs only[go_sem,h15]) ?_;simp -implicitDefEqProofs only[go_sem,h15];refine callF (HOn) Ym ?_;simp -implicitDefEqProofs only[go_sem];refine callF (HR) (by simp -implicitDefEqProofs only[go_sem,hw]) ?_;simp -implicitDefEqProofs only[go_sem,hw];refine callF (HM) Ym ?_;simp -implicitDefEqProofs only[go_sem]
  ·rw[hir]at HM;obtain⟨j,rfl,hj⟩:=znj hir;rw[K0,zc8 hj]at hmf;rw[hir,Qv,K0,zc8 hj]at hmk;have hg:=gg _ (Qj hj);rw[ho0,Km]at hmk;cases hop:(s.right[j].op==opL r)
   ·have hne:(s.right[j].op != opL r)=true:=by unfold bne;rw[hop];rfl
    rw[hop]at hmk;rw[hmk,if_neg (by simp)]at hX;subst hX;simp only[sqD,zat,dvD,zbq,tmD,zab t,fmD,zaa c]at HT HC⊢;show FC _ _ _ [.one (.sl 2 []),_]
    refine zai Tryz.call85 Tryz.func85 rfl Yn (zau Yn) ?_;simp -implicitDefEqProofs only[go_sem,Tryz.results85];refine zad Ym ?_;simp -implicitDefEqProofs only[go_sem];refine callF (HQ) (by simp -implicitDefEqProofs only[go_sem,hne15]) ?_;simp -implicitDefEqProofs only[go_sem,hne15];refine callF (HC) (by simp -implicitDefEqProofs only[go_sem,h15]) ?_;simp -implicitDefEqProofs only[go_sem,h15];refine callF (HOn) Ym ?_;simp -implicitDefEqProofs only[go_sem];refine callF (HR) (by simp -implicitDefEqProofs only[go_sem,hw]) ?_;simp -implicitDefEqProofs only[go_sem,hw];refine callF (HM) (by simp -implicitDefEqProofs only[go_sem,hj,zae,zaa s.right[j],h1]) ?_;simp -implicitDefEqProofs only[go_sem,hj,zae,zaa s.right[j],h1];refine drawn Yn ?_;simp -implicitDefEqProofs only[go_sem];refine zal (HO) (by simp -implicitDefEqProofs only[go_sem,hop,hne]) ?_;simp -implicitDefEqProofs only[go_sem,hop,hne];kernel_rfl
   ·have hne:(s.right[j].op != opL r)=false:=by unfold bne;rw[hop];rfl
    rw[hop]at hmk;rw[hmk,if_pos rfl,hmf]at hX;have hop':s.right[j].op=opL r:=by simpa using hop
    have HX:=HXX s.right[j] hg (hopq _ hop');rw[<-hX]at HX;obtain⟨L,b⟩:=X;simp only[sqD,zat,fmD,zaa s.right[j],tmD,zab t]at HX;simp only[sqD,zat,dvD,zbq,tmD,zab t,fmD,zaa c]at HT HC⊢;refine zai Tryz.call85 Tryz.func85 rfl Yn (zau Yn) ?_;simp -implicitDefEqProofs only[go_sem,Tryz.results85];refine zad Ym ?_;simp -implicitDefEqProofs only[go_sem];refine callF (HQ) (by simp -implicitDefEqProofs only[go_sem,hne15]) ?_;simp -implicitDefEqProofs only[go_sem,hne15];refine callF (HC) (by simp -implicitDefEqProofs only[go_sem,h15]) ?_;simp -implicitDefEqProofs only[go_sem,h15];refine callF (HOn) Ym ?_;simp -implicitDefEqProofs only[go_sem];refine callF (HR) (by simp -implicitDefEqProofs only[go_sem,hw]) ?_;simp -implicitDefEqProofs only[go_sem,hw];refine callF (HM) (by simp -implicitDefEqProofs only[go_sem,hj,zae,zaa s.right[j],h1]) ?_;simp -implicitDefEqProofs only[go_sem,hj,zae,zaa s.right[j],h1];refine drawn Yn ?_;simp -implicitDefEqProofs only[go_sem];refine zal (HO) (by simp -implicitDefEqProofs only[go_sem,hop,hne]) ?_;simp -implicitDefEqProofs only[go_sem,hop,hne];refine⟨Yn,?_⟩;simp -implicitDefEqProofs only[go_sem,h2];refine callF (HX) Ym ?_;simp -implicitDefEqProofs only[go_sem]
 ·have hsd:zc6 s r=s.left:=by unfold zc6;rw[hon];rfl
  have hmk:=hmk _ hsd;have hmf:=hmf _ hsd;have gg:=g1;rw[hon]at HOn;have HM:=zey m 0 (s.left.length-1);have hw:IntKind.i64.wrap ((s.left.length:Int)-1)=(s.left.length:Int)-1:=za1 Yo Yo;cases hir:inB m 0 (s.left.length-1)
  ·rw[hir]at HM;rw[hir,Qq]at hmk;rw[hmk,if_neg (by simp)]at hX;subst hX;simp only[sqD,zat,dvD,zbq,tmD,zab t,fmD,zaa c]at HT HC⊢;show FC _ _ _ [.one (.sl 2 []),_]
   refine zai Tryz.call85 Tryz.func85 rfl Yn (zau Yn) ?_;simp -implicitDefEqProofs only[go_sem,Tryz.results85];refine zad Ym ?_;simp -implicitDefEqProofs only[go_sem];refine callF (HQ) (by simp -implicitDefEqProofs only[go_sem,hne15]) ?_;simp -implicitDefEqProofs only[go_sem,hne15];refine callF (HC) (by simp -implicitDefEqProofs only[go_sem,h15]) ?_;simp -implicitDefEqProofs only[go_sem,h15];refine callF (HOn) Ym ?_;simp -implicitDefEqProofs only[go_sem];refine callF (HR) (by simp -implicitDefEqProofs only[go_sem,hw]) ?_;simp -implicitDefEqProofs only[go_sem,hw];refine callF (HM) Ym ?_;simp -implicitDefEqProofs only[go_sem]
  ·rw[hir]at HM;obtain⟨j,rfl,hj⟩:=znj hir;rw[K0,zc8 hj]at hmf;rw[hir,Qv,K0,zc8 hj]at hmk;have hg:=gg _ (Qj hj);rw[ho0,Km]at hmk;cases hop:(s.left[j].op==opL r)
   ·have hne:(s.left[j].op != opL r)=true:=by unfold bne;rw[hop];rfl
    rw[hop]at hmk;rw[hmk,if_neg (by simp)]at hX;subst hX;simp only[sqD,zat,dvD,zbq,tmD,zab t,fmD,zaa c]at HT HC⊢;show FC _ _ _ [.one (.sl 2 []),_]
    refine zai Tryz.call85 Tryz.func85 rfl Yn (zau Yn) ?_;simp -implicitDefEqProofs only[go_sem,Tryz.results85];refine zad Ym ?_;simp -implicitDefEqProofs only[go_sem];refine callF (HQ) (by simp -implicitDefEqProofs only[go_sem,hne15]) ?_;simp -implicitDefEqProofs only[go_sem,hne15];refine callF (HC) (by simp -implicitDefEqProofs only[go_sem,h15]) ?_;simp -implicitDefEqProofs only[go_sem,h15];refine callF (HOn) Ym ?_;simp -implicitDefEqProofs only[go_sem];refine callF (HR) (by simp -implicitDefEqProofs only[go_sem,hw]) ?_;simp -implicitDefEqProofs only[go_sem,hw];refine callF (HM) (by simp -implicitDefEqProofs only[go_sem,hj,zae,zaa s.left[j],h1]) ?_;simp -implicitDefEqProofs only[go_sem,hj,zae,zaa s.left[j],h1];refine drawn Yn ?_;simp -implicitDefEqProofs only[go_sem];refine zal (HO) (by simp -implicitDefEqProofs only[go_sem,hop,hne]) ?_;simp -implicitDefEqProofs only[go_sem,hop,hne];kernel_rfl
   ·have hne:(s.left[j].op != opL r)=false:=by unfold bne;rw[hop];rfl
    rw[hop]at hmk;rw[hmk,if_pos rfl,hmf]at hX;have hop':s.left[j].op=opL r:=by simpa using hop
    have HX:=HXX s.left[j] hg (hopq _ hop');rw[<-hX]at HX;obtain⟨L,b⟩:=X;simp only[sqD,zat,fmD,zaa s.left[j],tmD,zab t]at HX;simp only[sqD,zat,dvD,zbq,tmD,zab t,fmD,zaa c]at HT HC⊢;refine zai Tryz.call85 Tryz.func85 rfl Yn (zau Yn) ?_;simp -implicitDefEqProofs only[go_sem,Tryz.results85];refine zad Ym ?_;simp -implicitDefEqProofs only[go_sem];refine callF (HQ) (by simp -implicitDefEqProofs only[go_sem,hne15]) ?_;simp -implicitDefEqProofs only[go_sem,hne15];refine callF (HC) (by simp -implicitDefEqProofs only[go_sem,h15]) ?_;simp -implicitDefEqProofs only[go_sem,h15];refine callF (HOn) Ym ?_;simp -implicitDefEqProofs only[go_sem];refine callF (HR) (by simp -implicitDefEqProofs only[go_sem,hw]) ?_;simp -implicitDefEqProofs only[go_sem,hw];refine callF (HM) (by simp -implicitDefEqProofs only[go_sem,hj,zae,zaa s.left[j],h1]) ?_;simp -implicitDefEqProofs only[go_sem,hj,zae,zaa s.left[j],h1];refine drawn Yn ?_;simp -implicitDefEqProofs only[go_sem];refine zal (HO) (by simp -implicitDefEqProofs only[go_sem,hop,hne]) ?_;simp -implicitDefEqProofs only[go_sem,hop,hne];refine⟨Yn,?_⟩;simp -implicitDefEqProofs only[go_sem,h2];refine callF (HX) Ym ?_;simp -implicitDefEqProofs only[go_sem]
theorem rule_p (s sq:Sq)(r m:Int)(t:Tm)(c:Fm)(ps:List Dv)(hs:s.good=true)(hq:inB r 11 14=false)(hn:t.none=true)(h15:(r==15)=false)(hcz:same c zan=true)(X:List Sq×Bool)(hX:X=if(inB r 1 15&&zbr s (.mk r sq m t c ps))=true then ((zbw s r (zbc s (.mk r sq m t c ps))).1.map (zea s (.mk r sq m t c ps)),(zbw s r (zbc s (.mk r sq m t c ps))).2)else ([],false)):FC Tryz.prog 85 [sqD s,dvD (.mk r sq m t c ps)] [.one (sqS X.1),bD X.2]:=by
 obtain⟨l1,l2,g1,g2⟩:=zgw hs
 have hne15:(r != 15)=true:=by unfold bne;rw[h15];rfl
 have h15':r≠15:=by simpa using h15
 have HR:=zey r 1 15
 have HOn:=qjs r
 have HQ:=zey r 11 14
 have HT:=zg9 t (.mk [] [])
 have HC:=zi9 c zan
 have hzt:tmD (.mk [] [])=.agg [.str [],.sl 2 []]:=rfl
 have hzf:fmD zan=.agg [.int .i64 0,.str [],.sl 2 [],.str [],.sl 5 []]:=rfl
 rw[zha,hzt]at HT
 rw[hzf]at HC
 rw[hq]at HQ
 rw[hcz]at HC
 rw[hn]at HT
 have hmk:∀side,zc6 s r=side->zbr s (.mk r sq m t c ps)=(inB m 0 (side.length-1)&&(opL r==0||(side.getD m.toNat zan).op==opL r)):=fun side hh=>by rw[<-hh];rfl
 have hmf:∀side,zc6 s r=side->zbc s (.mk r sq m t c ps)=side.getD m.toNat zan:=fun side hh=>by rw[<-hh];rfl
 cases hon:onL r
 ·have hsd:zc6 s r=s.right:=by unfold zc6;rw[hon];rfl
  have hmk:=hmk _ hsd;have hmf:=hmf _ hsd;have gg:=g2;rw[hon]at HOn;have HM:=zey m 0 (s.right.length-1);have hw:IntKind.i64.wrap ((s.right.length:Int)-1)=(s.right.length:Int)-1:=za1 Yo Yo;cases hin:inB r 1 15
  ·rw[hin]at HR;rw[hin,Qq,if_neg (by simp)]at hX;subst hX;simp only[sqD,zat,dvD,zbq,tmD,zab t,fmD,zaa c]at HT HC⊢;show FC _ _ _ [.one (.sl 2 []),_]
   refine zai Tryz.call85 Tryz.func85 rfl Yn (zau Yn) ?_;simp -implicitDefEqProofs only[go_sem,Tryz.results85];refine zad Ym ?_;simp -implicitDefEqProofs only[go_sem];refine callF (HQ) Ym ?_;simp -implicitDefEqProofs only[go_sem];refine callF (HT) (by simp -implicitDefEqProofs only[go_sem,hne15]) ?_;simp -implicitDefEqProofs only[go_sem,hne15];refine callF (HC) (by simp -implicitDefEqProofs only[go_sem,h15]) ?_;simp -implicitDefEqProofs only[go_sem,h15];refine callF (HOn) Ym ?_;simp -implicitDefEqProofs only[go_sem];refine callF (HR) Ym ?_;simp -implicitDefEqProofs only[go_sem]
  ·rw[hin]at HR;rw[hin,Qv]at hX;have hr14:1<=r/\r<=14:=by unfold inB at hin;simp only[Qb,Qm]at hin;omega
   have HO:=qds r hr14;cases hir:inB m 0 (s.right.length-1)
   ·rw[hir]at HM;rw[hir,Qq]at hmk;rw[hmk,if_neg (by simp)]at hX;subst hX;simp only[sqD,zat,dvD,zbq,tmD,zab t,fmD,zaa c]at HT HC⊢;show FC _ _ _ [.one (.sl 2 []),_]
    refine zai Tryz.call85 Tryz.func85 rfl Yn (zau Yn) ?_;simp -implicitDefEqProofs only[go_sem,Tryz.results85];refine zad Ym ?_;simp -implicitDefEqProofs only[go_sem];refine callF (HQ) Ym ?_;simp -implicitDefEqProofs only[go_sem];refine callF (HT) (by simp -implicitDefEqProofs only[go_sem,hne15]) ?_;simp -implicitDefEqProofs only[go_sem,hne15];refine callF (HC) (by simp -implicitDefEqProofs only[go_sem,h15]) ?_;simp -implicitDefEqProofs only[go_sem,h15];refine callF (HOn) Ym ?_;simp -implicitDefEqProofs only[go_sem];refine callF (HR) (by simp -implicitDefEqProofs only[go_sem,hw]) ?_;simp -implicitDefEqProofs only[go_sem,hw];refine callF (HM) Ym ?_;simp -implicitDefEqProofs only[go_sem]
   ·rw[hir]at HM;obtain⟨j,rfl,hj⟩:=znj hir;rw[K0,zc8 hj]at hmf;rw[hir,Qv,K0,zc8 hj]at hmk;have hg:=gg _ (Qj hj);cases h1:(r==1)
    ·have ho0:(opL r==0)=false:=by
      have h1':r≠1:=by simpa using h1
      rcases(show r=2\/r=3\/r=4\/r=5\/r=6\/r=7\/r=8\/r=9\/r=10\/r=11\/r=12\/r=13\/r=14 by omega)with rfl|rfl|rfl|rfl|rfl|rfl|rfl|rfl|rfl|rfl|rfl|rfl|rfl<;>rfl
     rw[ho0,Km]at hmk;cases hop:(s.right[j].op==opL r)
     ·have hne:(s.right[j].op != opL r)=true:=by unfold bne;rw[hop];rfl
      rw[hop]at hmk;rw[hmk,if_neg (by simp)]at hX;subst hX;simp only[sqD,zat,dvD,zbq,tmD,zab t,fmD,zaa c]at HT HC⊢;show FC _ _ _ [.one (.sl 2 []),_]
      refine zai Tryz.call85 Tryz.func85 rfl Yn (zau Yn) ?_;simp -implicitDefEqProofs only[go_sem,Tryz.results85];refine zad Ym ?_;simp -implicitDefEqProofs only[go_sem];refine callF (HQ) Ym ?_;simp -implicitDefEqProofs only[go_sem];refine callF (HT) (by simp -implicitDefEqProofs only[go_sem,hne15]) ?_;simp -implicitDefEqProofs only[go_sem,hne15];refine callF (HC) (by simp -implicitDefEqProofs only[go_sem,h15]) ?_;simp -implicitDefEqProofs only[go_sem,h15];refine callF (HOn) Ym ?_;simp -implicitDefEqProofs only[go_sem];refine callF (HR) (by simp -implicitDefEqProofs only[go_sem,hw]) ?_;simp -implicitDefEqProofs only[go_sem,hw];refine callF (HM) (by simp -implicitDefEqProofs only[go_sem,hj,zae,zaa s.right[j],h1]) ?_;simp -implicitDefEqProofs only[go_sem,hj,zae,zaa s.right[j],h1];refine drawn Yn ?_;simp -implicitDefEqProofs only[go_sem];refine zal (HO) (by simp -implicitDefEqProofs only[go_sem,hop,hne]) ?_;simp -implicitDefEqProofs only[go_sem,hop,hne];kernel_rfl
     ·have hne:(s.right[j].op != opL r)=false:=by unfold bne;rw[hop];rfl
      rw[hop]at hmk;rw[hmk,if_pos rfl,hmf]at hX;have hop':s.right[j].op=opL r:=by simpa using hop
      cases h2:(r==2)
      ·have hr3:3<=r/\r<=10:=by
        have h1':r≠1:=by simpa using h1
        have h2':r≠2:=by simpa using h2
        unfold inB at hq;simp only[Bool.and_eq_false_iff,Jf]at hq;omega
       have HX:=zei s hs (.mk r sq j t c ps) hr3 s.right[j] hg hop';simp only[Dv.rule,Dv.main]at HX;have hX:X=((zbw s r s.right[j]).1.map (zea s (.mk r sq j t c ps)),true):=by
        rw[hX];refine Prod.ext rfl ?_;show(zbw s r s.right[j]).2=true
        rcases(show r=3\/r=4\/r=5\/r=6\/r=7\/r=8\/r=9\/r=10 by omega)with rfl|rfl|rfl|rfl|rfl|rfl|rfl|rfl<;>rfl
       subst hX;generalize (zbw s r s.right[j]).1.map (zea s (.mk r sq j t c ps))=L at HX⊢;simp only[sqD,zat]at HX;simp only[sqD,zat,dvD,zbq,tmD,zab t,fmD,zaa c]at HT HC⊢;refine zai Tryz.call85 Tryz.func85 rfl Yn (zau Yn) ?_;simp -implicitDefEqProofs only[go_sem,Tryz.results85];refine zad Ym ?_;simp -implicitDefEqProofs only[go_sem];refine callF (HQ) Ym ?_;simp -implicitDefEqProofs only[go_sem];refine callF (HT) (by simp -implicitDefEqProofs only[go_sem,hne15]) ?_;simp -implicitDefEqProofs only[go_sem,hne15];refine callF (HC) (by simp -implicitDefEqProofs only[go_sem,h15]) ?_;simp -implicitDefEqProofs only[go_sem,h15];refine callF (HOn) Ym ?_;simp -implicitDefEqProofs only[go_sem];refine callF (HR) (by simp -implicitDefEqProofs only[go_sem,hw]) ?_;simp -implicitDefEqProofs only[go_sem,hw];refine callF (HM) (by simp -implicitDefEqProofs only[go_sem,hj,zae,zaa s.right[j],h1]) ?_;simp -implicitDefEqProofs only[go_sem,hj,zae,zaa s.right[j],h1];refine drawn Yn ?_;simp -implicitDefEqProofs only[go_sem];refine zal (HO) (by simp -implicitDefEqProofs only[go_sem,hop,hne]) ?_;simp -implicitDefEqProofs only[go_sem,hop,hne];refine⟨Yn,?_⟩;simp -implicitDefEqProofs only[go_sem,h2];refine callF (HX) Ym ?_;simp -implicitDefEqProofs only[go_sem]
      ·have er:r=2:=by simpa using h2
       subst er;have hX:X=([],true):=by rw[hX];rfl
       subst hX;simp only[sqD,zat,dvD,zbq,tmD,zab t,fmD,zaa c]at HT HC⊢;show FC _ _ _ [.one (.sl 2 []),_]
       refine zai Tryz.call85 Tryz.func85 rfl Yn (zau Yn) ?_;simp -implicitDefEqProofs only[go_sem,Tryz.results85];refine zad Ym ?_;simp -implicitDefEqProofs only[go_sem];refine callF (HQ) Ym ?_;simp -implicitDefEqProofs only[go_sem];refine callF (HT) (by simp -implicitDefEqProofs only[go_sem,hne15]) ?_;simp -implicitDefEqProofs only[go_sem,hne15];refine callF (HC) (by simp -implicitDefEqProofs only[go_sem,h15]) ?_;simp -implicitDefEqProofs only[go_sem,h15];refine callF (HOn) Ym ?_;simp -implicitDefEqProofs only[go_sem];refine callF (HR) (by simp -implicitDefEqProofs only[go_sem,hw]) ?_;simp -implicitDefEqProofs only[go_sem,hw];refine callF (HM) (by simp -implicitDefEqProofs only[go_sem,hj,zae,zaa s.right[j],h1]) ?_;simp -implicitDefEqProofs only[go_sem,hj,zae,zaa s.right[j],h1];refine drawn Yn ?_;simp -implicitDefEqProofs only[go_sem];refine zal (HO) (by simp -implicitDefEqProofs only[go_sem,hop,hne,h2]) ?_;simp -implicitDefEqProofs only[go_sem,hop,hne,h2];kernel_rfl
    ·have er:r=1:=by simpa using h1
     subst er;have hmk:zbr s (.mk 1 sq j t c ps)=true:=by rw[hmk];rfl
     rw[hmk,if_pos rfl]at hX;have hX:X=([],(s.right[j].op==2||s.right.any fun g=>same s.right[j] g)):=by rw[hX,hmf];rfl
     subst hX;have HH:=ztc s.right s.right[j];generalize (s.right.any fun g=>same s.right[j] g)=b at HH;simp only[fmD,zaa s.right[j]]at HH;simp only[sqD,zat,dvD,zbq,tmD,zab t,fmD,zaa c]at HT HC⊢;show FC _ _ _ [.one (.sl 2 []),_]
     cases hop:(s.right[j].op==2)
     ·rw[Km];refine zai Tryz.call85 Tryz.func85 rfl Yn (zau Yn) ?_;simp -implicitDefEqProofs only[go_sem,Tryz.results85];refine zad Ym ?_;simp -implicitDefEqProofs only[go_sem];refine callF (HQ) Ym ?_;simp -implicitDefEqProofs only[go_sem];refine callF (HT) (by simp -implicitDefEqProofs only[go_sem,hne15]) ?_;simp -implicitDefEqProofs only[go_sem,hne15];refine callF (HC) (by simp -implicitDefEqProofs only[go_sem,h15]) ?_;simp -implicitDefEqProofs only[go_sem,h15];refine callF (HOn) Ym ?_;simp -implicitDefEqProofs only[go_sem];refine callF (HR) (by simp -implicitDefEqProofs only[go_sem,hw]) ?_;simp -implicitDefEqProofs only[go_sem,hw];refine callF (HM) (by simp -implicitDefEqProofs only[go_sem,hj,zae,zaa s.right[j],h1]) ?_;simp -implicitDefEqProofs only[go_sem,hj,zae,zaa s.right[j],h1];simp -implicitDefEqProofs only[go_sem,hop];refine callF (HH) Ym ?_;simp -implicitDefEqProofs only[go_sem]
     ·rw[J4];refine zai Tryz.call85 Tryz.func85 rfl Yn (zau Yn) ?_;simp -implicitDefEqProofs only[go_sem,Tryz.results85];refine zad Ym ?_;simp -implicitDefEqProofs only[go_sem];refine callF (HQ) Ym ?_;simp -implicitDefEqProofs only[go_sem];refine callF (HT) (by simp -implicitDefEqProofs only[go_sem,hne15]) ?_;simp -implicitDefEqProofs only[go_sem,hne15];refine callF (HC) (by simp -implicitDefEqProofs only[go_sem,h15]) ?_;simp -implicitDefEqProofs only[go_sem,h15];refine callF (HOn) Ym ?_;simp -implicitDefEqProofs only[go_sem];refine callF (HR) (by simp -implicitDefEqProofs only[go_sem,hw]) ?_;simp -implicitDefEqProofs only[go_sem,hw];refine callF (HM) (by simp -implicitDefEqProofs only[go_sem,hj,zae,zaa s.right[j],h1]) ?_;simp -implicitDefEqProofs only[go_sem,hj,zae,zaa s.right[j],h1];simp -implicitDefEqProofs only[go_sem,hop]
 ·have hsd:zc6 s r=s.left:=by unfold zc6;rw[hon];rfl
  have hmk:=hmk _ hsd;have hmf:=hmf _ hsd;have gg:=g1;rw[hon]at HOn;have HM:=zey m 0 (s.left.length-1);have hw:IntKind.i64.wrap ((s.left.length:Int)-1)=(s.left.length:Int)-1:=za1 Yo Yo;cases hin:inB r 1 15
  ·rw[hin]at HR;rw[hin,Qq,if_neg (by simp)]at hX;subst hX;simp only[sqD,zat,dvD,zbq,tmD,zab t,fmD,zaa c]at HT HC⊢;show FC _ _ _ [.one (.sl 2 []),_]
   refine zai Tryz.call85 Tryz.func85 rfl Yn (zau Yn) ?_;simp -implicitDefEqProofs only[go_sem,Tryz.results85];refine zad Ym ?_;simp -implicitDefEqProofs only[go_sem];refine callF (HQ) Ym ?_;simp -implicitDefEqProofs only[go_sem];refine callF (HT) (by simp -implicitDefEqProofs only[go_sem,hne15]) ?_;simp -implicitDefEqProofs only[go_sem,hne15];refine callF (HC) (by simp -implicitDefEqProofs only[go_sem,h15]) ?_;simp -implicitDefEqProofs only[go_sem,h15];refine callF (HOn) Ym ?_;simp -implicitDefEqProofs only[go_sem];refine callF (HR) Ym ?_;simp -implicitDefEqProofs only[go_sem]
  ·rw[hin]at HR;rw[hin,Qv]at hX;have hr14:1<=r/\r<=14:=by unfold inB at hin;simp only[Qb,Qm]at hin;omega
   have HO:=qds r hr14;cases hir:inB m 0 (s.left.length-1)
   ·rw[hir]at HM;rw[hir,Qq]at hmk;rw[hmk,if_neg (by simp)]at hX;subst hX;simp only[sqD,zat,dvD,zbq,tmD,zab t,fmD,zaa c]at HT HC⊢;show FC _ _ _ [.one (.sl 2 []),_]
    refine zai Tryz.call85 Tryz.func85 rfl Yn (zau Yn) ?_;simp -implicitDefEqProofs only[go_sem,Tryz.results85];refine zad Ym ?_;simp -implicitDefEqProofs only[go_sem];refine callF (HQ) Ym ?_;simp -implicitDefEqProofs only[go_sem];refine callF (HT) (by simp -implicitDefEqProofs only[go_sem,hne15]) ?_;simp -implicitDefEqProofs only[go_sem,hne15];refine callF (HC) (by simp -implicitDefEqProofs only[go_sem,h15]) ?_;simp -implicitDefEqProofs only[go_sem,h15];refine callF (HOn) Ym ?_;simp -implicitDefEqProofs only[go_sem];refine callF (HR) (by simp -implicitDefEqProofs only[go_sem,hw]) ?_;simp -implicitDefEqProofs only[go_sem,hw];refine callF (HM) Ym ?_;simp -implicitDefEqProofs only[go_sem]
   ·rw[hir]at HM;obtain⟨j,rfl,hj⟩:=znj hir;rw[K0,zc8 hj]at hmf;rw[hir,Qv,K0,zc8 hj]at hmk;have hg:=gg _ (Qj hj);cases h1:(r==1)
    ·have ho0:(opL r==0)=false:=by
      have h1':r≠1:=by simpa using h1
      rcases(show r=2\/r=3\/r=4\/r=5\/r=6\/r=7\/r=8\/r=9\/r=10\/r=11\/r=12\/r=13\/r=14 by omega)with rfl|rfl|rfl|rfl|rfl|rfl|rfl|rfl|rfl|rfl|rfl|rfl|rfl<;>rfl
     rw[ho0,Km]at hmk;cases hop:(s.left[j].op==opL r)
     ·have hne:(s.left[j].op != opL r)=true:=by unfold bne;rw[hop];rfl
      rw[hop]at hmk;rw[hmk,if_neg (by simp)]at hX;subst hX;simp only[sqD,zat,dvD,zbq,tmD,zab t,fmD,zaa c]at HT HC⊢;show FC _ _ _ [.one (.sl 2 []),_]
      refine zai Tryz.call85 Tryz.func85 rfl Yn (zau Yn) ?_;simp -implicitDefEqProofs only[go_sem,Tryz.results85];refine zad Ym ?_;simp -implicitDefEqProofs only[go_sem];refine callF (HQ) Ym ?_;simp -implicitDefEqProofs only[go_sem];refine callF (HT) (by simp -implicitDefEqProofs only[go_sem,hne15]) ?_;simp -implicitDefEqProofs only[go_sem,hne15];refine callF (HC) (by simp -implicitDefEqProofs only[go_sem,h15]) ?_;simp -implicitDefEqProofs only[go_sem,h15];refine callF (HOn) Ym ?_;simp -implicitDefEqProofs only[go_sem];refine callF (HR) (by simp -implicitDefEqProofs only[go_sem,hw]) ?_;simp -implicitDefEqProofs only[go_sem,hw];refine callF (HM) (by simp -implicitDefEqProofs only[go_sem,hj,zae,zaa s.left[j],h1]) ?_;simp -implicitDefEqProofs only[go_sem,hj,zae,zaa s.left[j],h1];refine drawn Yn ?_;simp -implicitDefEqProofs only[go_sem];refine zal (HO) (by simp -implicitDefEqProofs only[go_sem,hop,hne]) ?_;simp -implicitDefEqProofs only[go_sem,hop,hne];kernel_rfl
     ·have hne:(s.left[j].op != opL r)=false:=by unfold bne;rw[hop];rfl
      rw[hop]at hmk;rw[hmk,if_pos rfl,hmf]at hX;have hop':s.left[j].op=opL r:=by simpa using hop
      cases h2:(r==2)
      ·have hr3:3<=r/\r<=10:=by
        have h1':r≠1:=by simpa using h1
        have h2':r≠2:=by simpa using h2
        unfold inB at hq;simp only[Bool.and_eq_false_iff,Jf]at hq;omega
       have HX:=zei s hs (.mk r sq j t c ps) hr3 s.left[j] hg hop';simp only[Dv.rule,Dv.main]at HX;have hX:X=((zbw s r s.left[j]).1.map (zea s (.mk r sq j t c ps)),true):=by
        rw[hX];refine Prod.ext rfl ?_;show(zbw s r s.left[j]).2=true
        rcases(show r=3\/r=4\/r=5\/r=6\/r=7\/r=8\/r=9\/r=10 by omega)with rfl|rfl|rfl|rfl|rfl|rfl|rfl|rfl<;>rfl
       subst hX;generalize (zbw s r s.left[j]).1.map (zea s (.mk r sq j t c ps))=L at HX⊢;simp only[sqD,zat]at HX;simp only[sqD,zat,dvD,zbq,tmD,zab t,fmD,zaa c]at HT HC⊢;refine zai Tryz.call85 Tryz.func85 rfl Yn (zau Yn) ?_;simp -implicitDefEqProofs only[go_sem,Tryz.results85];refine zad Ym ?_;simp -implicitDefEqProofs only[go_sem];refine callF (HQ) Ym ?_;simp -implicitDefEqProofs only[go_sem];refine callF (HT) (by simp -implicitDefEqProofs only[go_sem,hne15]) ?_;simp -implicitDefEqProofs only[go_sem,hne15];refine callF (HC) (by simp -implicitDefEqProofs only[go_sem,h15]) ?_;simp -implicitDefEqProofs only[go_sem,h15];refine callF (HOn) Ym ?_;simp -implicitDefEqProofs only[go_sem];refine callF (HR) (by simp -implicitDefEqProofs only[go_sem,hw]) ?_;simp -implicitDefEqProofs only[go_sem,hw];refine callF (HM) (by simp -implicitDefEqProofs only[go_sem,hj,zae,zaa s.left[j],h1]) ?_;simp -implicitDefEqProofs only[go_sem,hj,zae,zaa s.left[j],h1];refine drawn Yn ?_;simp -implicitDefEqProofs only[go_sem];refine zal (HO) (by simp -implicitDefEqProofs only[go_sem,hop,hne]) ?_;simp -implicitDefEqProofs only[go_sem,hop,hne];refine⟨Yn,?_⟩;simp -implicitDefEqProofs only[go_sem,h2];refine callF (HX) Ym ?_;simp -implicitDefEqProofs only[go_sem]
      ·have er:r=2:=by simpa using h2
       subst er;have hX:X=([],true):=by rw[hX];rfl
       subst hX;simp only[sqD,zat,dvD,zbq,tmD,zab t,fmD,zaa c]at HT HC⊢;show FC _ _ _ [.one (.sl 2 []),_]
       refine zai Tryz.call85 Tryz.func85 rfl Yn (zau Yn) ?_;simp -implicitDefEqProofs only[go_sem,Tryz.results85];refine zad Ym ?_;simp -implicitDefEqProofs only[go_sem];refine callF (HQ) Ym ?_;simp -implicitDefEqProofs only[go_sem];refine callF (HT) (by simp -implicitDefEqProofs only[go_sem,hne15]) ?_;simp -implicitDefEqProofs only[go_sem,hne15];refine callF (HC) (by simp -implicitDefEqProofs only[go_sem,h15]) ?_;simp -implicitDefEqProofs only[go_sem,h15];refine callF (HOn) Ym ?_;simp -implicitDefEqProofs only[go_sem];refine callF (HR) (by simp -implicitDefEqProofs only[go_sem,hw]) ?_;simp -implicitDefEqProofs only[go_sem,hw];refine callF (HM) (by simp -implicitDefEqProofs only[go_sem,hj,zae,zaa s.left[j],h1]) ?_;simp -implicitDefEqProofs only[go_sem,hj,zae,zaa s.left[j],h1];refine drawn Yn ?_;simp -implicitDefEqProofs only[go_sem];refine zal (HO) (by simp -implicitDefEqProofs only[go_sem,hop,hne,h2]) ?_;simp -implicitDefEqProofs only[go_sem,hop,hne,h2];kernel_rfl
    ·have er:r=1:=by simpa using h1
     subst er;have hmk:zbr s (.mk 1 sq j t c ps)=true:=by rw[hmk];rfl
     rw[hmk,if_pos rfl]at hX;have hX:X=([],(s.left[j].op==2||s.right.any fun g=>same s.left[j] g)):=by rw[hX,hmf];rfl
     subst hX;have HH:=ztc s.right s.left[j];generalize (s.right.any fun g=>same s.left[j] g)=b at HH;simp only[fmD,zaa s.left[j]]at HH;simp only[sqD,zat,dvD,zbq,tmD,zab t,fmD,zaa c]at HT HC⊢;show FC _ _ _ [.one (.sl 2 []),_]
     cases hop:(s.left[j].op==2)
     ·rw[Km];refine zai Tryz.call85 Tryz.func85 rfl Yn (zau Yn) ?_;simp -implicitDefEqProofs only[go_sem,Tryz.results85];refine zad Ym ?_;simp -implicitDefEqProofs only[go_sem];refine callF (HQ) Ym ?_;simp -implicitDefEqProofs only[go_sem];refine callF (HT) (by simp -implicitDefEqProofs only[go_sem,hne15]) ?_;simp -implicitDefEqProofs only[go_sem,hne15];refine callF (HC) (by simp -implicitDefEqProofs only[go_sem,h15]) ?_;simp -implicitDefEqProofs only[go_sem,h15];refine callF (HOn) Ym ?_;simp -implicitDefEqProofs only[go_sem];refine callF (HR) (by simp -implicitDefEqProofs only[go_sem,hw]) ?_;simp -implicitDefEqProofs only[go_sem,hw];refine callF (HM) (by simp -implicitDefEqProofs only[go_sem,hj,zae,zaa s.left[j],h1]) ?_;simp -implicitDefEqProofs only[go_sem,hj,zae,zaa s.left[j],h1];simp -implicitDefEqProofs only[go_sem,hop];refine callF (HH) Ym ?_;simp -implicitDefEqProofs only[go_sem]
     ·rw[J4];refine zai Tryz.call85 Tryz.func85 rfl Yn (zau Yn) ?_;simp -implicitDefEqProofs only[go_sem,Tryz.results85];refine zad Ym ?_;simp -implicitDefEqProofs only[go_sem];refine callF (HQ) Ym ?_;simp -implicitDefEqProofs only[go_sem];refine callF (HT) (by simp -implicitDefEqProofs only[go_sem,hne15]) ?_;simp -implicitDefEqProofs only[go_sem,hne15];refine callF (HC) (by simp -implicitDefEqProofs only[go_sem,h15]) ?_;simp -implicitDefEqProofs only[go_sem,h15];refine callF (HOn) Ym ?_;simp -implicitDefEqProofs only[go_sem];refine callF (HR) (by simp -implicitDefEqProofs only[go_sem,hw]) ?_;simp -implicitDefEqProofs only[go_sem,hw];refine callF (HM) (by simp -implicitDefEqProofs only[go_sem,hj,zae,zaa s.left[j],h1]) ?_;simp -implicitDefEqProofs only[go_sem,hj,zae,zaa s.left[j],h1];simp -implicitDefEqProofs only[go_sem,hop]
end
section
open Go.RowKit
set_option maxRecDepth 100000 in
theorem qfq (n:Nat)(hn:n<=1099511627776):FC Tryz.prog 155 [.one (.pin (.slice none 0 0) (.sl 5 [])),iD n] [.one (.sl 5 [])]:=by
 refine⟨Tryz.call155,fun w vs fp tp hv hnd=>?_⟩
 obtain⟨v1,_,rfl,h1,hv⟩:=hv
 obtain⟨v2,_,rfl,h2,hv⟩:=hv
 obtain⟨rfl,rfl,rfl⟩:=hv
 have e1:v1=.slice none 0 0:=by
  have h:zas w (fun b=>b<w.heap.size/\¬b∈[]) (.pin (.slice none 0 0) (.sl 5 [])) v1:=h1;unfold zas at h;exact h.1
 have e2:v2=.int .i64 n:=by
  have h:zas w (fun b=>b<w.heap.size/\¬b∈[]) (.int .i64 n) v2:=h2;unfold zas at h;exact h.1
 clear h1 h2
 subst e1 e2
 obtain⟨i,cs,hi,hz,hzs,hs,hby⟩:∃i cs,Tryz.prog.info? 31=some i/\i.zero=some (.agg cs)/\cs.size=5/\i.size=5/\i.bytes=88:=⟨_,_,rfl,rfl,rfl,rfl,rfl⟩
 have g1:¬((n:Int)<0):=by omega
 have g2:wrap64 ((0:Int)-0)=0:=by unfold wrap64;omega
 have g3:wrap64 ((n:Int)-0)=n:=by unfold wrap64;omega
 by_cases h0:n=0
 ·subst h0
  go_enter Tryz.func155,Tryz.ntmps155
  go_wp2
  go_ret
  refine⟨[.slice none 0 0],rfl,[],⟨_,_,[],[],[],_,[],rfl,rfl,rfl,⟨?_,rfl⟩,rfl,rfl,rfl⟩,Kp,by simp,Bk.refl _ _⟩;unfold za7;exact⟨none,0,rfl,Qz _,by simp,Or.inl ⟨rfl,rfl,rfl,rfl⟩⟩
 ·have g4:(n:Int)>0:=by omega
  have hrz:=fun ty=>Lib.run_append_nil_zeros (P:=Tryz.prog) w 24 3 ty 31 i (.agg cs) .i64 .i64 Tryz.underlying24 Tryz.underlying3 hi hz n Yo Yo Yo (by rw[hby];omega)
  go_enter Tryz.func155,Tryz.ntmps155
  go_wp2_with (at_builtin;refine Lib.wpList_append_run _ rfl _ _ _ _ rfl _ _ rfl rfl _ _ (hrz _) ?_)
  go_ret
  have hge:=grownCap_ge w n 0 31;have hle:=grownCap_le_maxLen w n 0 31 (by unfold maxLen;omega);generalize grownCap w n 0 31=G at hge hle⊢;refine⟨[.slice (some ⟨w.heap.size,0,none⟩) 0 G],rfl,[w.heap.size],⟨_,_,[],[w.heap.size],[],_,[],rfl,rfl,rfl,⟨?_,rfl⟩,rfl,rfl,rfl⟩,by simp,by simp,⟨rfl,rfl,rfl,?_,fun k hk=>?_⟩⟩
  ·unfold za7;refine⟨_,G,rfl,Q3 _,by unfold maxLen at hle;omega,Or.inr ⟨w.heap.size,Builtin.zeroCells cs n++Builtin.zeroCells cs (G-n),31,[],rfl,rfl,?_,?_,by unfold zao;rfl⟩⟩
   ·show(w.heap.push _)[w.heap.size]?=_
    simp
   ·simp[size_zeroCells,hzs];omega
  ·show w.heap.size<=(w.heap.push _).size
   rw[Array.size_push];omega
  ·show(w.heap.push _)[k]?=_
   have hk:k<w.heap.size:=by simpa using hk
   rw[Array.getElem?_push_lt hk,Array.getElem?_eq_getElem hk]
def qfo (A B:List Fm):Nat->Nat
 | 0=>0
 | 1=>A.length
 | _=>A.length+B.length
def qgz (A B:List Fm):Nat->List Fm
 | 0=>[]
 | 1=>A
 | _=>A++B
theorem zz0 (A B:List Fm):qfo A B 0=0:=rfl
theorem qa3 (A B:List Fm):qfo A B 1=A.length:=rfl
theorem zy7 (A B:List Fm):qfo A B 2=A.length+B.length:=rfl
theorem qar (A B:List Fm):qgz A B 0=[]:=rfl
theorem zy2 (A B:List Fm):qgz A B 1=A:=rfl
theorem qaz (A B:List Fm):qgz A B 2=A++B:=rfl
theorem zl6 (A B:List Fm)(hA:A.length+B.length<=4194304):RC Tryz.prog 82 [.one (.sl 1 [[fmS A],[fmS B]])] [.one (fmS (A++B))]:=by
 have hG:=qfq (A.length+B.length) Yo
 have w1:IntKind.i64.wrap ((A.length:Int)+(B.length:Int))=((A.length+B.length:Nat):Int):=by rw[za1 Yo Yo];omega
 have w0:IntKind.i64.wrap (0+(A.length:Int))=((A.length:Nat):Int):=by rw[za1 Yo Yo];omega
 have u1:IntKind.i64.wrap 1=1:=rfl
 have u2:IntKind.i64.wrap 2=2:=rfl
 have ha1:A.length<=4294967296:=by omega
 have ha2:A.length+B.length<=4294967296:=by omega
 refine zbn Tryz.call82 Tryz.func82 rfl Yn (zau Yn) ?_
 simp -implicitDefEqProofs only[go_sem,Tryz.results82]
 refine zaf (fun k:Nat=>hd [(0,vT (.sl 1 [[fmS A],[fmS B]])),(3,vI (qfo A B k)),(9,vT (.sl 1 [[fmS A],[fmS B]])),(10,vI 2),(11,vI k)] [] []) (fun k=>k<=2) (fun k=>2-k) 0 (zac ?_) (Q3 _) ?_
 ·simp -implicitDefEqProofs only[go_sem,zz0]
 ·intro k hk;rcases(by omega:k=0\/k=1\/k=2)with rfl|rfl|rfl
  ·simp -implicitDefEqProofs only[go_sem,zz0,w0];refine⟨1,Yo,Yo,zac ?_⟩;simp -implicitDefEqProofs only[go_sem,qa3,u1]
  ·simp -implicitDefEqProofs only[go_sem,qa3,w1];refine⟨2,Yo,Yo,zac ?_⟩;simp -implicitDefEqProofs only[go_sem,zy7,u2]
  ·simp -implicitDefEqProofs only[go_sem,zy7];refine callFn hG (by simp -implicitDefEqProofs only[go_sem,vdn_nl,vdn_t,qj0]) ?_;simp -implicitDefEqProofs only[go_sem];refine zaf (fun k:Nat=>hd [(6,.one (.ow 768 0)),(25,vT (.sl 1 [[fmS A],[fmS B]])),(26,vI 2),(27,vI k)] [] [(768,⟨false,5,(qgz A B k).map fmC,0,true⟩)]) (fun k=>k<=2) (fun k=>2-k) 0 (wk_sh 768 ?_) (Q3 _) ?_
   ·simp -implicitDefEqProofs only[go_sem];refine zac ?_;simp -implicitDefEqProofs only[go_sem,qar,Qh]
   ·intro k hk;rcases(by omega:k=0\/k=1\/k=2)with rfl|rfl|rfl
    ·simp -implicitDefEqProofs only[go_sem,qar,Qh];refine apD false (by simp -implicitDefEqProofs only[go_sem,ne_eq,Qa,ha1,Q5]) ?_;simp -implicitDefEqProofs only[go_sem,ne_eq,Qa,ha1,Q5];refine⟨1,Yo,Yo,zac ?_⟩;simp -implicitDefEqProofs only[go_sem,zy2,u1]
    ·simp -implicitDefEqProofs only[go_sem,zy2];refine apD false (by simp -implicitDefEqProofs only[go_sem,ne_eq,Qa,ha2]) ?_;simp -implicitDefEqProofs only[go_sem,ne_eq,Qa,ha2];refine⟨2,Yo,Yo,zac ?_⟩;simp -implicitDefEqProofs only[go_sem,qaz,u2,Qy]
    ·simp -implicitDefEqProofs only[go_sem,qaz]
theorem zzg (d:Dv)(left:Bool)(i:Nat)(h:1<=d.rule/\d.rule<=15):FC Tryz.prog 156 [dvD d,bD left,iD i] [bD ((i:Int)==zb6 d left)]:=by
 have HR:=zhy d.rule
 have e:((i:Int) == -1)=false:=by rw[Ql];omega
 unfold zb6
 simp only[dvD,zfi]
 cases h15:(d.rule==15)
 ·have h14:d.rule≠15:=by simpa using h15
  have hne:d.rule<=14:=by omega
  have HM:=zm4 d.rule ⟨h.1,hne⟩;cases hr:zur d.rule
  ·rw[hr]at HR;cases hl:(onL d.rule==left)
   ·rw[if_neg (by simp),e];refine zai Tryz.call156 Tryz.func156 rfl Yn (zau Yn) ?_;simp -implicitDefEqProofs only[go_sem,Tryz.results156,h15];refine callF (HR) Ym ?_;simp -implicitDefEqProofs only[go_sem];refine callF (HM) (by simp -implicitDefEqProofs only[go_sem,hl]) ?_;simp -implicitDefEqProofs only[go_sem,hl]
   ·rw[if_pos (by simp),Bool.beq_comm];refine zai Tryz.call156 Tryz.func156 rfl Yn (zau Yn) ?_;simp -implicitDefEqProofs only[go_sem,Tryz.results156,h15];refine callF (HR) Ym ?_;simp -implicitDefEqProofs only[go_sem];refine callF (HM) (by simp -implicitDefEqProofs only[go_sem,hl]) ?_;simp -implicitDefEqProofs only[go_sem,hl]
  ·rw[hr]at HR;rw[if_neg (by simp),e];refine zai Tryz.call156 Tryz.func156 rfl Yn (zau Yn) ?_;simp -implicitDefEqProofs only[go_sem,Tryz.results156,h15];refine callF (HR) Ym ?_;simp -implicitDefEqProofs only[go_sem]
 ·rw[if_neg (by simp),e];refine zai Tryz.call156 Tryz.func156 rfl Yn (zau Yn) ?_;simp -implicitDefEqProofs only[go_sem,Tryz.results156,h15]
theorem qin (d:Dv)(xs:List Fm)(left:Bool)(h:1<=d.rule/\d.rule<=15)(hl:xs.length<=1048576):RC Tryz.prog 83 [dvD d,.one (fmS xs),bD left] [.one (fmS (zct xs (zb6 d left)))]:=by
 have HR:=fun i:Nat=>zzg d left i h
 generalize zb6 d left=g at HR⊢
 simp only[dvD,zfi]at HR⊢
 refine zbn Tryz.call83 Tryz.func83 rfl Yn (zau Yn) ?_
 simp -implicitDefEqProofs only[go_sem,Tryz.results83]
 refine zcw Ym ?_
 simp -implicitDefEqProofs only[go_sem]
 refine zaf (fun k:Nat=>hd [(2,vB left),(3,.one (.bx 3 0)),(7,.one (.ow 320 0)),(11,vT (fmS xs)),(12,vI xs.length),(13,vI k)] [(3,[.t (.int .i64 d.rule),.t (fmS d.seq.left),.t (fmS d.seq.right),.t (.int .i64 d.main),.t (.str d.term.name),.t (tmS d.term.args),.t (.int .i64 d.cut.op),.t (.str d.cut.atom.name),.t (tmS d.cut.atom.args),.t (.str d.cut.var),.t (fmS d.cut.parts),.t (dvS d.parts)])] [(320,⟨false,5,(zf6 xs g k).map fmC,0,true⟩)]) (fun k=>k<=xs.length) (fun k=>xs.length-k) 0 (zac ?_) (Q3 _) ?_
 ·simp -implicitDefEqProofs only[go_sem,zl1]
 ·intro k hk;have hul:=zqn xs g k;have hul2:(zf6 xs g k).length<=4294967295:=by omega
  by_cases hlt:k<xs.length
  ·have hs:=zl4 xs g hlt;have HO:=HR k;cases hb:((k:Int)==g)
   ·rw[hb,if_neg (by simp)]at hs;rw[hb]at HO;simp -implicitDefEqProofs only[go_sem,zae,hlt,zaa xs[k]];refine callF (HO) Ym ?_;simp -implicitDefEqProofs only[go_sem];refine zcw Ym ?_;simp -implicitDefEqProofs only[go_sem];refine apD false (by simp -implicitDefEqProofs only[go_sem,ne_eq,Qa,hul2]) ?_;simp -implicitDefEqProofs only[go_sem,ne_eq,Qa,hul2];refine⟨k+1,hlt,Yo,zac ?_⟩;simp -implicitDefEqProofs only[go_sem];rw[zaw Yo,hs,Qy,Kj,zaa xs[k]];exact⟨rfl,rfl⟩
   ·rw[hb,if_pos rfl,Ks]at hs;rw[hb]at HO;simp -implicitDefEqProofs only[go_sem,zae,hlt,zaa xs[k]];refine callF (HO) Ym ?_;simp -implicitDefEqProofs only[go_sem];refine⟨k+1,hlt,Yo,zac ?_⟩;simp -implicitDefEqProofs only[go_sem];rw[zaw Yo,hs];exact⟨rfl,rfl⟩
  ·have hkn:k=xs.length:=by omega
   subst hkn;have hD:zf6 xs g xs.length=zct xs g:=rfl;rw[hD];simp -implicitDefEqProofs only[go_sem,hlt]
theorem znf (s:Sq)(hl:zdm s.left<=1048576)(hr:zdm s.right<=1048576):FC Tryz.prog 81 [sqD s] [sqD s]:=by
 have H1:=zgt s.left hl
 have H2:=zgt s.right hr
 simp only[sqD,zat]
 refine zai Tryz.call81 Tryz.func81 rfl Yn (zau Yn) ?_
 simp -implicitDefEqProofs only[go_sem,Tryz.results81]
 refine drawn Yn ?_
 simp -implicitDefEqProofs only[go_sem]
 refine zal (H1) Ym ?_
 simp -implicitDefEqProofs only[go_sem]
 refine zal (H2) Ym ?_
 simp -implicitDefEqProofs only[go_sem]
 kernel_rfl
end
section
open Go.RowKit
theorem zj4 (f:Fm)(hf:f.good=true)(n:Str):FC Tryz.prog 253 [fmD f,.one (.ptr [.str n])] [bD ((zbb [] (vf f [])).contains n)]:=by
 have H1:=qhp f (zdy hf) (Kk (zcr hf) Yo)
 have H2:=zcz (zbb [] (vf f [])) n
 generalize zbb [] (vf f [])=xs at H1 H2⊢
 simp only[fmD,zaa f]at H1⊢
 refine zai Tryz.call253 Tryz.func253 rfl Yn (zau Yn) ?_
 simp -implicitDefEqProofs only[go_sem,Tryz.results253]
 refine drawn Yn ?_
 simp -implicitDefEqProofs only[go_sem]
 refine zal (H1) Ym ?_
 simp -implicitDefEqProofs only[go_sem]
 refine zal (H2) Ym ?_
 simp -implicitDefEqProofs only[go_sem]
 kernel_rfl
theorem zv6 (s:Sq)(hs:s.good=true)(n:Str):FC Tryz.prog 209 [sqD s,sD n] [bD (zet s n)]:=by
 unfold Sq.good zc3 at hs
 simp only[Qb,Qm,Qn]at hs
 obtain⟨⟨l1,g1⟩,l2,g2⟩:=hs
 have H1:=zav s.left (fun f=>(zbb [] (vf f [])).contains n) 253 [.ptr [.str n]] fun x hx=>zj4 x (g1 x hx) n
 have H2:=zav s.right (fun f=>(zbb [] (vf f [])).contains n) 253 [.ptr [.str n]] fun x hx=>zj4 x (g2 x hx) n
 unfold zet
 simp only[sqD,zat]
 generalize (s.right.any fun f=>(zbb [] (vf f [])).contains n)=b2 at H2⊢
 cases h:(s.left.any fun f=>(zbb [] (vf f [])).contains n)
 ·rw[h]at H1;refine zai Tryz.call209 Tryz.func209 rfl Yn (zau Yn) ?_;simp -implicitDefEqProofs only[go_sem,Tryz.results209];refine callF (H1) Ym ?_;simp -implicitDefEqProofs only[go_sem];refine callF (H2) Ym ?_;simp -implicitDefEqProofs only[go_sem];rfl
 ·rw[h]at H1;refine zai Tryz.call209 Tryz.func209 rfl Yn (zau Yn) ?_;simp -implicitDefEqProofs only[go_sem,Tryz.results209];refine callF (H1) Ym ?_;simp -implicitDefEqProofs only[go_sem];rfl
theorem qcx {side:List Fm}{m:Int}(h:inB m 0 (side.length-1)=true):∃j:Nat,m=j/\j<side.length:=by
 unfold inB at h
 simp only[Qb,Qm]at h
 exact⟨m.toNat,Yo,Yo⟩
theorem zky (s:Sq)(r:Int)(sq:Sq)(m:Int)(t:Tm)(c:Fm)(ps:List Dv)(h:1<=r/\r<=14)(hl:s.left.length<=1048576)(hr:s.right.length<=1048576)(side:List Fm)(hside:zc6 s r=side)(b:Bool)(hb:b=(inB m 0 (side.length-1)&&(opL r==0||(side.getD m.toNat zan).op==opL r))):RC Tryz.prog 150 [sqD s,dvD (.mk r sq m t c ps)] [fmD (if b=true then side.getD m.toNat zan else zan),bD b]:=by
 have HM:=zm4 r h
 have hz:fmD zan=.agg [.int .i64 0,.str [],.sl 2 [],.str [],.sl 5 []]:=rfl
 simp only[dvD,zbq,sqD,zat]
 generalize opL r=o at HM hb
 cases hon:onL r
 ·have hs2:side=s.right:=by rw[<-hside];unfold zc6;rw[hon];rfl
  subst hs2;rw[hon]at HM;have HW:=zb2 m 0 (s.right.length-1);have hw:IntKind.i64.wrap ((s.right.length:Int)-1)=(s.right.length:Int)-1:=za1 Yo Yo;cases hin:inB m 0 (s.right.length-1)
  ·rw[hin]at HW;rw[hin,Qq]at hb;subst hb;rw[if_neg (by simp),hz];refine zbn Tryz.call150 Tryz.func150 rfl Yn (zau Yn) ?_;simp -implicitDefEqProofs only[go_sem,Tryz.results150];refine callF (HM) (by simp -implicitDefEqProofs only[go_sem,hw]) ?_;simp -implicitDefEqProofs only[go_sem,hw];refine callF (HW) Ym ?_;simp -implicitDefEqProofs only[go_sem]
  ·rw[hin]at HW;obtain⟨j,rfl,hj⟩:=qcx hin;rw[hin,Qv,K0,zc8 hj]at hb;rw[K0,zc8 hj];cases ho:(o==0)
   ·have hne:(o != 0)=true:=by unfold bne;rw[ho];rfl
    rw[ho,Km]at hb;cases hop:(s.right[j].op==o)
    ·have hne2:(s.right[j].op != o)=true:=by unfold bne;rw[hop];rfl
     rw[hop]at hb;subst hb;rw[if_neg (by simp),hz];refine zbn Tryz.call150 Tryz.func150 rfl Yn (zau Yn) ?_;simp -implicitDefEqProofs only[go_sem,Tryz.results150];refine callF (HM) (by simp -implicitDefEqProofs only[go_sem,hw]) ?_;simp -implicitDefEqProofs only[go_sem,hw];refine callF (HW) (by simp -implicitDefEqProofs only[go_sem,hne,hj,zae,zaa s.right[j],hne2]) ?_;simp -implicitDefEqProofs only[go_sem,hne,hj,zae,zaa s.right[j],hne2]
    ·have hne2:(s.right[j].op != o)=false:=by unfold bne;rw[hop];rfl
     rw[hop]at hb;subst hb;rw[if_pos rfl,fmD,zaa s.right[j]];refine zbn Tryz.call150 Tryz.func150 rfl Yn (zau Yn) ?_;simp -implicitDefEqProofs only[go_sem,Tryz.results150];refine callF (HM) (by simp -implicitDefEqProofs only[go_sem,hw]) ?_;simp -implicitDefEqProofs only[go_sem,hw];refine callF (HW) (by simp -implicitDefEqProofs only[go_sem,hne,hj,zae,zaa s.right[j],hne2]) ?_;simp -implicitDefEqProofs only[go_sem,hne,hj,zae,zaa s.right[j],hne2]
   ·have hne:(o != 0)=false:=by unfold bne;rw[ho];rfl
    rw[ho,J4]at hb;subst hb;rw[if_pos rfl,fmD,zaa s.right[j]];refine zbn Tryz.call150 Tryz.func150 rfl Yn (zau Yn) ?_;simp -implicitDefEqProofs only[go_sem,Tryz.results150];refine callF (HM) (by simp -implicitDefEqProofs only[go_sem,hw]) ?_;simp -implicitDefEqProofs only[go_sem,hw];refine callF (HW) (by simp -implicitDefEqProofs only[go_sem,hne,hj,zae,zaa s.right[j]]) ?_;simp -implicitDefEqProofs only[go_sem,hne,hj,zae,zaa s.right[j]]
 ·have hs2:side=s.left:=by rw[<-hside];unfold zc6;rw[hon];rfl
  subst hs2;rw[hon]at HM;have HW:=zb2 m 0 (s.left.length-1);have hw:IntKind.i64.wrap ((s.left.length:Int)-1)=(s.left.length:Int)-1:=za1 Yo Yo;cases hin:inB m 0 (s.left.length-1)
  ·rw[hin]at HW;rw[hin,Qq]at hb;subst hb;rw[if_neg (by simp),hz];refine zbn Tryz.call150 Tryz.func150 rfl Yn (zau Yn) ?_;simp -implicitDefEqProofs only[go_sem,Tryz.results150];refine callF (HM) (by simp -implicitDefEqProofs only[go_sem,hw]) ?_;simp -implicitDefEqProofs only[go_sem,hw];refine callF (HW) Ym ?_;simp -implicitDefEqProofs only[go_sem]
  ·rw[hin]at HW;obtain⟨j,rfl,hj⟩:=qcx hin;rw[hin,Qv,K0,zc8 hj]at hb;rw[K0,zc8 hj];cases ho:(o==0)
   ·have hne:(o != 0)=true:=by unfold bne;rw[ho];rfl
    rw[ho,Km]at hb;cases hop:(s.left[j].op==o)
    ·have hne2:(s.left[j].op != o)=true:=by unfold bne;rw[hop];rfl
     rw[hop]at hb;subst hb;rw[if_neg (by simp),hz];refine zbn Tryz.call150 Tryz.func150 rfl Yn (zau Yn) ?_;simp -implicitDefEqProofs only[go_sem,Tryz.results150];refine callF (HM) (by simp -implicitDefEqProofs only[go_sem,hw]) ?_;simp -implicitDefEqProofs only[go_sem,hw];refine callF (HW) (by simp -implicitDefEqProofs only[go_sem,hne,hj,zae,zaa s.left[j],hne2]) ?_;simp -implicitDefEqProofs only[go_sem,hne,hj,zae,zaa s.left[j],hne2]
    ·have hne2:(s.left[j].op != o)=false:=by unfold bne;rw[hop];rfl
     rw[hop]at hb;subst hb;rw[if_pos rfl,fmD,zaa s.left[j]];refine zbn Tryz.call150 Tryz.func150 rfl Yn (zau Yn) ?_;simp -implicitDefEqProofs only[go_sem,Tryz.results150];refine callF (HM) (by simp -implicitDefEqProofs only[go_sem,hw]) ?_;simp -implicitDefEqProofs only[go_sem,hw];refine callF (HW) (by simp -implicitDefEqProofs only[go_sem,hne,hj,zae,zaa s.left[j],hne2]) ?_;simp -implicitDefEqProofs only[go_sem,hne,hj,zae,zaa s.left[j],hne2]
   ·have hne:(o != 0)=false:=by unfold bne;rw[ho];rfl
    rw[ho,J4]at hb;subst hb;rw[if_pos rfl,fmD,zaa s.left[j]];refine zbn Tryz.call150 Tryz.func150 rfl Yn (zau Yn) ?_;simp -implicitDefEqProofs only[go_sem,Tryz.results150];refine callF (HM) (by simp -implicitDefEqProofs only[go_sem,hw]) ?_;simp -implicitDefEqProofs only[go_sem,hw];refine callF (HW) (by simp -implicitDefEqProofs only[go_sem,hne,hj,zae,zaa s.left[j]]) ?_;simp -implicitDefEqProofs only[go_sem,hne,hj,zae,zaa s.left[j]]
theorem zbl (s:Sq)(d:Dv)(h:1<=d.rule/\d.rule<=14)(hl:s.left.length<=1048576)(hr:s.right.length<=1048576):RC Tryz.prog 150 [sqD s,dvD d] [fmD (if zbr s d=true then zbc s d else zan),bD (zbr s d)]:=by
 obtain⟨r,sq,m,t,c,ps⟩:=d
 exact zky s r sq m t c ps h hl hr _ rfl _ rfl
theorem zgn (f:Fm)(i:Nat)(hi:i<f.parts.length):RC Tryz.prog 152 [iD i,.one (.ptr (fmC f))] [.one (fmS [f.parts.getD i zan])]:=by
 rw[zc8 hi]
 simp only[zaa f]
 refine zbn Tryz.call152 Tryz.func152 rfl Yn (zau Yn) ?_
 simp -implicitDefEqProofs only[go_sem,Tryz.results152]
 simp -implicitDefEqProofs only[go_sem,hi,zae,zaa f.parts[i]]
 refine zcw Ym ?_
 simp -implicitDefEqProofs only[go_sem]
 rw[zaa f.parts[i]]
theorem qln (f g:Fm):FC Tryz.prog 153 [fmD g,.one (.ptr (fmC f))] [bD (same f g)]:=by
 have H:=zbe f g
 simp only[fmD,zaa f,zaa g]at H⊢
 refine zai Tryz.call153 Tryz.func153 rfl Yn (zau Yn) ?_
 simp -implicitDefEqProofs only[go_sem,Tryz.results153]
 refine callF (H) Ym ?_
 simp -implicitDefEqProofs only[go_sem]
end
section
open Go.RowKit
theorem zkv (s:Sq)(hs:s.good=true)(d:Dv)(hr:inB d.rule 11 14=true)(hd:d.term.wt<=1048576)(f:Fm)(hf:f.good=true)(ho:f.op=8\/f.op=9):RC Tryz.prog 151 [sqD s,dvD d,fmD f] [.one (sqS (ze5 s d f).1),bD (ze5 s d f).2]:=by
 obtain⟨hpg,hp,hv⟩:=zdg hf ho
 obtain⟨r,sq,m,t,c,ps⟩:=d
 obtain⟨fo,fa,fv,fp⟩:=f
 simp only[Dv.rule,Dv.term,Fm.parts,Fm.var]at hr hd hp hpg hv⊢
 have hr':1<=r/\r<=14:=by unfold inB at hr;simp only[Qb,Qm]at hr;omega
 have hI:ze5 s (.mk r sq m t c ps) (.mk fo fa fv fp)=(if(!zur r&&(!za9 t.name||zet s t.name))=true then ([],false)else if(sbF fv t (fp.getD 0 zan)).2=true then (if onL r=true then ([⟨[(sbF fv t (fp.getD 0 zan)).1],[]⟩],true)else ([⟨[],[(sbF fv t (fp.getD 0 zan)).1]⟩],true))else ([],false)):=rfl
 rw[hI]
 clear hI hf
 generalize fp.getD 0 zan=p at hp hpg⊢
 subst hp
 have hpw:=zcr hpg
 have HM:=zhy r
 have HV:=zdn t.name
 have HF:=zv6 s hs t.name
 have HS:=zgz p fv t Yo hd (by have:=Nat.mul_le_mul (show 1+p.wt<=20801 by omega) hd;omega)
 have HO:=zm4 r hr'
 generalize sbF fv t p=B at HS⊢
 obtain⟨q,b⟩:=B
 simp only[sqD,zat,dvD,zbq,fmD,zdc,zaa q,tmD,zab t,zaa p,Qg,Qh]at HF HS⊢
 generalize zet s t.name=fr at HF⊢
 generalize za9 t.name=vo at HV⊢
 generalize zur r=rm at HM⊢
 generalize onL r=on at HO⊢
 cases rm
 ·cases vo
  ·rw[if_pos (by simp)];refine zbn Tryz.call151 Tryz.func151 rfl Yn (zau Yn) ?_;simp -implicitDefEqProofs only[go_sem,Tryz.results151];refine callF (HM) Ym ?_;simp -implicitDefEqProofs only[go_sem];refine callF (HV) Ym ?_;simp -implicitDefEqProofs only[go_sem]
  ·cases fr
   ·cases b
    ·rw[if_neg (by simp),if_neg (by simp)];refine zbn Tryz.call151 Tryz.func151 rfl Yn (zau Yn) ?_;simp -implicitDefEqProofs only[go_sem,Tryz.results151];refine callF (HM) Ym ?_;simp -implicitDefEqProofs only[go_sem];refine callF (HV) Ym ?_;simp -implicitDefEqProofs only[go_sem];refine callF (HF) Ym ?_;simp -implicitDefEqProofs only[go_sem];refine drawn Yn ?_;simp -implicitDefEqProofs only[go_sem];refine zal (HS) Ym ?_;simp -implicitDefEqProofs only[go_sem];kernel_rfl
    ·cases on
     ·rw[if_neg (by simp),if_pos rfl,if_neg (by simp)];show RC _ _ _ [.one (.sl 2 [[.sl 5 [],.sl 5 [fmC q]]]),bD true]
      rw[zaa q];refine zbn Tryz.call151 Tryz.func151 rfl Yn (zau Yn) ?_;simp -implicitDefEqProofs only[go_sem,Tryz.results151];refine callF (HM) Ym ?_;simp -implicitDefEqProofs only[go_sem];refine callF (HV) Ym ?_;simp -implicitDefEqProofs only[go_sem];refine callF (HF) Ym ?_;simp -implicitDefEqProofs only[go_sem];refine drawn Yn ?_;simp -implicitDefEqProofs only[go_sem];refine zal (HS) Ym ?_;simp -implicitDefEqProofs only[go_sem];refine⟨Yn,?_⟩;refine callF (HO) Ym ?_;simp -implicitDefEqProofs only[go_sem];refine zad Ym ?_;simp -implicitDefEqProofs only[go_sem];refine zad Ym ?_;simp -implicitDefEqProofs only[go_sem]
     ·rw[if_neg (by simp),if_pos rfl,if_pos rfl];show RC _ _ _ [.one (.sl 2 [[.sl 5 [fmC q],.sl 5 []]]),bD true]
      rw[zaa q];refine zbn Tryz.call151 Tryz.func151 rfl Yn (zau Yn) ?_;simp -implicitDefEqProofs only[go_sem,Tryz.results151];refine callF (HM) Ym ?_;simp -implicitDefEqProofs only[go_sem];refine callF (HV) Ym ?_;simp -implicitDefEqProofs only[go_sem];refine callF (HF) Ym ?_;simp -implicitDefEqProofs only[go_sem];refine drawn Yn ?_;simp -implicitDefEqProofs only[go_sem];refine zal (HS) Ym ?_;simp -implicitDefEqProofs only[go_sem];refine⟨Yn,?_⟩;refine callF (HO) Ym ?_;simp -implicitDefEqProofs only[go_sem];refine zad Ym ?_;simp -implicitDefEqProofs only[go_sem];refine zad Ym ?_;simp -implicitDefEqProofs only[go_sem]
   ·rw[if_pos (by simp)];refine zbn Tryz.call151 Tryz.func151 rfl Yn (zau Yn) ?_;simp -implicitDefEqProofs only[go_sem,Tryz.results151];refine callF (HM) Ym ?_;simp -implicitDefEqProofs only[go_sem];refine callF (HV) Ym ?_;simp -implicitDefEqProofs only[go_sem];refine callF (HF) Ym ?_;simp -implicitDefEqProofs only[go_sem]
 ·cases b
  ·rw[if_neg (by simp),if_neg (by simp)];refine zbn Tryz.call151 Tryz.func151 rfl Yn (zau Yn) ?_;simp -implicitDefEqProofs only[go_sem,Tryz.results151];refine callF (HM) Ym ?_;simp -implicitDefEqProofs only[go_sem];refine drawn Yn ?_;simp -implicitDefEqProofs only[go_sem];refine zal (HS) Ym ?_;simp -implicitDefEqProofs only[go_sem];kernel_rfl
  ·cases on
   ·rw[if_neg (by simp),if_pos rfl,if_neg (by simp)];show RC _ _ _ [.one (.sl 2 [[.sl 5 [],.sl 5 [fmC q]]]),bD true]
    rw[zaa q];refine zbn Tryz.call151 Tryz.func151 rfl Yn (zau Yn) ?_;simp -implicitDefEqProofs only[go_sem,Tryz.results151];refine callF (HM) Ym ?_;simp -implicitDefEqProofs only[go_sem];refine drawn Yn ?_;simp -implicitDefEqProofs only[go_sem];refine zal (HS) Ym ?_;simp -implicitDefEqProofs only[go_sem];refine⟨Yn,?_⟩;refine callF (HO) Ym ?_;simp -implicitDefEqProofs only[go_sem];refine zad Ym ?_;simp -implicitDefEqProofs only[go_sem];refine zad Ym ?_;simp -implicitDefEqProofs only[go_sem]
   ·rw[if_neg (by simp),if_pos rfl,if_pos rfl];show RC _ _ _ [.one (.sl 2 [[.sl 5 [fmC q],.sl 5 []]]),bD true]
    rw[zaa q];refine zbn Tryz.call151 Tryz.func151 rfl Yn (zau Yn) ?_;simp -implicitDefEqProofs only[go_sem,Tryz.results151];refine callF (HM) Ym ?_;simp -implicitDefEqProofs only[go_sem];refine drawn Yn ?_;simp -implicitDefEqProofs only[go_sem];refine zal (HS) Ym ?_;simp -implicitDefEqProofs only[go_sem];refine⟨Yn,?_⟩;refine callF (HO) Ym ?_;simp -implicitDefEqProofs only[go_sem];refine zad Ym ?_;simp -implicitDefEqProofs only[go_sem];refine zad Ym ?_;simp -implicitDefEqProofs only[go_sem]
end
section
open Go.RowKit
theorem bft:(false==true)=false:=rfl
theorem btf:(true==false)=false:=rfl
theorem btt:(true==true)=true:=rfl
theorem bff:(false==false)=true:=rfl
theorem zmj (s sq:Sq)(m:Int)(t:Tm)(c:Fm)(ps:List Dv)(hc:c.wt<=1048576):RC Tryz.prog 80 [sqD s,dvD (.mk 15 sq m t c ps)] [.one (sqS (if(m==0&&t.none&&c.good)=true then [⟨[],[c]⟩,⟨[c],[]⟩]else [])),bD (m==0&&t.none&&c.good)]:=by
 have HZ:=za4 t
 have HV:=zcm c Yo
 simp only[sqD,zat,dvD,zbq,tmD,zab t,fmD,zaa c]at HZ HV⊢
 generalize t.none=tn at HZ⊢
 generalize c.good=cg at HV⊢
 cases hm:(m==0)
 ·have hne:(m != 0)=true:=by unfold bne;rw[hm];rfl
  rw[if_neg (by simp)];refine zbn Tryz.call80 Tryz.func80 rfl Yn (zau Yn) ?_;simp -implicitDefEqProofs only[go_sem,Tryz.results80,hne]
 ·have hne:(m != 0)=false:=by unfold bne;rw[hm];rfl
  cases tn
  ·rw[if_neg (by simp)];refine zbn Tryz.call80 Tryz.func80 rfl Yn (zau Yn) ?_;simp -implicitDefEqProofs only[go_sem,Tryz.results80,hne];refine callF (HZ) Ym ?_;simp -implicitDefEqProofs only[go_sem]
  ·cases cg
   ·rw[if_neg (by simp)];refine zbn Tryz.call80 Tryz.func80 rfl Yn (zau Yn) ?_;simp -implicitDefEqProofs only[go_sem,Tryz.results80,hne];refine callF (HZ) Ym ?_;simp -implicitDefEqProofs only[go_sem];refine callF (HV) Ym ?_;simp -implicitDefEqProofs only[go_sem]
   ·show RC _ _ _ [.one (.sl 2 [[.sl 5 [],.sl 5 [fmC c]],[.sl 5 [fmC c],.sl 5 []]]),bD true]
    rw[zaa c];refine zbn Tryz.call80 Tryz.func80 rfl Yn (zau Yn) ?_;simp -implicitDefEqProofs only[go_sem,Tryz.results80,hne];refine callF (HZ) Ym ?_;simp -implicitDefEqProofs only[go_sem];refine callF (HV) Ym ?_;simp -implicitDefEqProofs only[go_sem];refine zcw Ym ?_;simp -implicitDefEqProofs only[go_sem];refine frzS 928 rfl rfl ?_;simp -implicitDefEqProofs only[go_sem];refine zcw Ym ?_;simp -implicitDefEqProofs only[go_sem];refine frzS 1056 rfl rfl ?_;simp -implicitDefEqProofs only[go_sem];refine zcw Ym ?_;simp -implicitDefEqProofs only[go_sem]
theorem zpq (s sq:Sq)(r m:Int)(t:Tm)(c:Fm)(ps:List Dv)(h15:(r==15)=false)(hno:(inB r 1 15&&same c zan&&(inB r 11 14==!t.none))=false):RC Tryz.prog 80 [sqD s,dvD (.mk r sq m t c ps)] [.one (sqS []),bD false]:=by
 have HW:=zb2 r 1 15
 have HSF:=zbe c zan
 have HQ:=za3 r
 have HZ:=za4 t
 have hz:fmD zan=.agg [.int .i64 0,.str [],.sl 2 [],.str [],.sl 5 []]:=rfl
 rw[hz]at HSF
 simp only[sqD,zat,dvD,zbq,tmD,zab t,fmD,zaa c]at HZ HSF⊢
 show RC _ _ _ [.one (.sl 2 []),_]
 generalize t.none=tn at HZ hno
 generalize same c zan=sc at HSF hno
 generalize inB r 1 15=bi at HW hno
 generalize inB r 11 14=bq at HQ hno
 cases bi
 ·refine zbn Tryz.call80 Tryz.func80 rfl Yn (zau Yn) ?_;simp -implicitDefEqProofs only[go_sem,Tryz.results80,h15];refine drawn Yn ?_;simp -implicitDefEqProofs only[go_sem];refine zal (HW) Ym ?_;simp -implicitDefEqProofs only[go_sem];kernel_rfl
 ·cases sc
  ·refine zbn Tryz.call80 Tryz.func80 rfl Yn (zau Yn) ?_;simp -implicitDefEqProofs only[go_sem,Tryz.results80,h15];refine drawn Yn ?_;simp -implicitDefEqProofs only[go_sem];refine zal (HW) Ym ?_;simp -implicitDefEqProofs only[go_sem];refine za5 (HSF) Ym ?_;simp -implicitDefEqProofs only[go_sem];kernel_rfl
  ·cases bq<;>cases tn
   ·refine zbn Tryz.call80 Tryz.func80 rfl Yn (zau Yn) ?_;simp -implicitDefEqProofs only[go_sem,Tryz.results80,h15];refine drawn Yn ?_;simp -implicitDefEqProofs only[go_sem];refine zal (HW) Ym ?_;simp -implicitDefEqProofs only[go_sem];refine za5 (HSF) Ym ?_;simp -implicitDefEqProofs only[go_sem];refine za5 (HQ) Ym ?_;simp -implicitDefEqProofs only[go_sem];refine za5 (HZ) (by simp -implicitDefEqProofs only[go_sem,bft,btf,btt,bff,Kb,Kd]) ?_;simp -implicitDefEqProofs only[go_sem,bft,btf,btt,bff,Kb,Kd];kernel_rfl
   ·cases hno
   ·cases hno
   ·refine zbn Tryz.call80 Tryz.func80 rfl Yn (zau Yn) ?_;simp -implicitDefEqProofs only[go_sem,Tryz.results80,h15];refine drawn Yn ?_;simp -implicitDefEqProofs only[go_sem];refine zal (HW) Ym ?_;simp -implicitDefEqProofs only[go_sem];refine za5 (HSF) Ym ?_;simp -implicitDefEqProofs only[go_sem];refine za5 (HQ) Ym ?_;simp -implicitDefEqProofs only[go_sem];refine za5 (HZ) (by simp -implicitDefEqProofs only[go_sem,bft,btf,btt,bff,Kb,Kd]) ?_;simp -implicitDefEqProofs only[go_sem,bft,btf,btt,bff,Kb,Kd];kernel_rfl
theorem zkz (s sq:Sq)(r m:Int)(t:Tm)(c:Fm)(ps:List Dv)(h15:(r==15)=false)(hin:inB r 1 15=true)(hc:same c zan=true)(hqn:inB r 11 14=!t.none)(hl:s.left.length<=1048576)(hr:s.right.length<=1048576)(hm:zbr s (.mk r sq m t c ps)=false):RC Tryz.prog 80 [sqD s,dvD (.mk r sq m t c ps)] [.one (sqS []),bD false]:=by
 have HW:=zb2 r 1 15
 have HSF:=zbe c zan
 have HQ:=za3 r
 have HZ:=za4 t
 have hz:fmD zan=.agg [.int .i64 0,.str [],.sl 2 [],.str [],.sl 5 []]:=rfl
 rw[hz]at HSF
 rw[hin]at HW
 rw[hc]at HSF
 have HMF:=zbl s (.mk r sq m t c ps) (by unfold inB at hin;simp only[Qb,Qm]at hin;have h14:r≠15:=(by simpa using h15);simp only[Dv.rule];omega) hl hr
 rw[hm,if_neg (by simp),hz]at HMF
 rw[hqn]at HQ
 simp only[sqD,zat,dvD,zbq,tmD,zab t,fmD,zaa c]at HZ HSF HMF⊢
 show RC _ _ _ [.one (.sl 2 []),_]
 generalize t.none=tn at HZ HQ
 cases tn
 ·refine zbn Tryz.call80 Tryz.func80 rfl Yn (zau Yn) ?_;simp -implicitDefEqProofs only[go_sem,Tryz.results80,h15];refine drawn Yn ?_;simp -implicitDefEqProofs only[go_sem];refine zal (HW) Ym ?_;simp -implicitDefEqProofs only[go_sem];refine za5 (HSF) Ym ?_;simp -implicitDefEqProofs only[go_sem];refine za5 (HQ) Ym ?_;simp -implicitDefEqProofs only[go_sem];refine za5 (HZ) (by simp -implicitDefEqProofs only[go_sem,bft,btf,btt,bff,Kb,Kd]) ?_;simp -implicitDefEqProofs only[go_sem,bft,btf,btt,bff,Kb,Kd];refine⟨Yn,?_⟩;refine callR (HMF) Ym ?_;simp -implicitDefEqProofs only[go_sem]
 ·refine zbn Tryz.call80 Tryz.func80 rfl Yn (zau Yn) ?_;simp -implicitDefEqProofs only[go_sem,Tryz.results80,h15];refine drawn Yn ?_;simp -implicitDefEqProofs only[go_sem];refine zal (HW) Ym ?_;simp -implicitDefEqProofs only[go_sem];refine za5 (HSF) Ym ?_;simp -implicitDefEqProofs only[go_sem];refine za5 (HQ) Ym ?_;simp -implicitDefEqProofs only[go_sem];refine za5 (HZ) (by simp -implicitDefEqProofs only[go_sem,bft,btf,btt,bff,Kb,Kd]) ?_;simp -implicitDefEqProofs only[go_sem,bft,btf,btt,bff,Kb,Kd];refine⟨Yn,?_⟩;refine callR (HMF) Ym ?_;simp -implicitDefEqProofs only[go_sem]
theorem zq6 (s sq:Sq)(r m:Int)(t:Tm)(c:Fm)(ps:List Dv)(hs:s.good=true)(ht:t.wt<=1048576)(hn:t.none=false)(hc:same c zan=true)(hq:inB r 11 14=true)(hl:s.left.length<=1048576)(hr:s.right.length<=1048576)(f:Fm)(hm:zbr s (.mk r sq m t c ps)=true)(hf:zbc s (.mk r sq m t c ps)=f)(hg:f.good=true)(ho:f.op=8\/f.op=9):RC Tryz.prog 80 [sqD s,dvD (.mk r sq m t c ps)] [.one (sqS (ze5 s (.mk r sq m t c ps) f).1),bD (ze5 s (.mk r sq m t c ps) f).2]:=by
 have hr1:11<=r/\r<=14:=by unfold inB at hq;simpa only[Qb,Qm]using hq
 have hin:inB r 1 15=true:=by unfold inB;simp only[Qb,Qm];omega
 have h15:(r==15)=false:=by rw[Ql];omega
 have HW:=zb2 r 1 15
 have HSF:=zbe c zan
 have HQ:=za3 r
 have HZ:=za4 t
 have hz:fmD zan=.agg [.int .i64 0,.str [],.sl 2 [],.str [],.sl 5 []]:=rfl
 rw[hz]at HSF
 rw[hin]at HW
 rw[hc]at HSF
 have HMF:=zbl s (.mk r sq m t c ps) (by simp only[Dv.rule];omega) hl hr
 rw[hm,if_pos rfl,hf]at HMF
 rw[hq]at HQ
 rw[hn]at HZ
 have HI:=zkv s hs (.mk r sq m t c ps) hq ht f hg ho
 generalize ze5 s (.mk r sq m t c ps) f=B at HI⊢
 obtain⟨L,b⟩:=B
 simp only[sqD,zat,dvD,zbq,tmD,zab t,fmD,zaa c,zaa f]at HZ HSF HMF HI⊢
 refine zbn Tryz.call80 Tryz.func80 rfl Yn (zau Yn) ?_
 simp -implicitDefEqProofs only[go_sem,Tryz.results80,h15]
 refine drawn Yn ?_
 simp -implicitDefEqProofs only[go_sem]
 refine zal (HW) Ym ?_
 simp -implicitDefEqProofs only[go_sem]
 refine za5 (HSF) Ym ?_
 simp -implicitDefEqProofs only[go_sem]
 refine za5 (HQ) Ym ?_
 simp -implicitDefEqProofs only[go_sem]
 refine za5 (HZ) (by simp -implicitDefEqProofs only[go_sem,bft,btf,btt,bff,Kb,Kd]) ?_
 simp -implicitDefEqProofs only[go_sem,bft,btf,btt,bff,Kb,Kd]
 refine⟨Yn,?_⟩
 refine callR (HMF) Ym ?_
 simp -implicitDefEqProofs only[go_sem]
 refine callF (HQ) Ym ?_
 simp -implicitDefEqProofs only[go_sem]
 refine callR (HI) Ym ?_
 simp -implicitDefEqProofs only[go_sem]
theorem zr2 (s sq:Sq)(m:Int)(t:Tm)(c:Fm)(ps:List Dv)(hn:t.none=true)(hc:same c zan=true)(hl:s.left.length<=1048576)(hr:s.right.length<=1048576)(f:Fm)(hm:zbr s (.mk 1 sq m t c ps)=true)(hf:zbc s (.mk 1 sq m t c ps)=f):RC Tryz.prog 80 [sqD s,dvD (.mk 1 sq m t c ps)] [.one (sqS []),bD (f.op==2||s.right.any fun g=>same f g)]:=by
 have HW:FC Tryz.prog 56 [iD 1,iD 1,iD 15] [bD true]:=zb2 1 1 15
 have HSF:=zbe c zan
 have HQ:FC Tryz.prog 149 [iD 1] [bD false]:=za3 1
 have HZ:=za4 t
 have hz:fmD zan=.agg [.int .i64 0,.str [],.sl 2 [],.str [],.sl 5 []]:=rfl
 rw[hz]at HSF
 rw[hc]at HSF
 rw[hn]at HZ
 have HMF:=zbl s (.mk 1 sq m t c ps) (by simp only[Dv.rule];omega) hl hr
 rw[hm,if_pos rfl,hf]at HMF
 have HC:=zav s.right (same f) 153 [.ptr (fmC f)] fun g _=>qln f g
 have hq:List.map sqC []=[]:=rfl
 rw[sqS,hq]
 simp only[sqD,zat,dvD,zbq,tmD,zab t,fmD,zaa c,zaa f,Qg,Qh]at HZ HSF HMF HC⊢
 cases hop:(f.op==2)
 ·rw[Km];generalize (s.right.any fun g=>same f g)=b at HC⊢;refine zbn Tryz.call80 Tryz.func80 rfl Yn (zau Yn) ?_;simp -implicitDefEqProofs only[go_sem,Tryz.results80];refine drawn Yn ?_;simp -implicitDefEqProofs only[go_sem];refine zal (HW) Ym ?_;simp -implicitDefEqProofs only[go_sem];refine za5 (HSF) Ym ?_;simp -implicitDefEqProofs only[go_sem];refine za5 (HQ) Ym ?_;simp -implicitDefEqProofs only[go_sem];refine za5 (HZ) (by simp -implicitDefEqProofs only[go_sem,bft,btf,btt,bff,Kb,Kd]) ?_;simp -implicitDefEqProofs only[go_sem,bft,btf,btt,bff,Kb,Kd];refine⟨Yn,?_⟩;refine callR (HMF) Ym ?_;simp -implicitDefEqProofs only[go_sem];refine callF (HQ) Ym ?_;simp -implicitDefEqProofs only[go_sem];simp -implicitDefEqProofs only[go_sem,hop];refine callF (HC) Ym ?_;simp -implicitDefEqProofs only[go_sem]
 ·rw[J4];refine zbn Tryz.call80 Tryz.func80 rfl Yn (zau Yn) ?_;simp -implicitDefEqProofs only[go_sem,Tryz.results80];refine drawn Yn ?_;simp -implicitDefEqProofs only[go_sem];refine zal (HW) Ym ?_;simp -implicitDefEqProofs only[go_sem];refine za5 (HSF) Ym ?_;simp -implicitDefEqProofs only[go_sem];refine za5 (HQ) Ym ?_;simp -implicitDefEqProofs only[go_sem];refine za5 (HZ) (by simp -implicitDefEqProofs only[go_sem,bft,btf,btt,bff,Kb,Kd]) ?_;simp -implicitDefEqProofs only[go_sem,bft,btf,btt,bff,Kb,Kd];refine⟨Yn,?_⟩;refine callR (HMF) Ym ?_;simp -implicitDefEqProofs only[go_sem];refine callF (HQ) Ym ?_;simp -implicitDefEqProofs only[go_sem];simp -implicitDefEqProofs only[go_sem,hop]
theorem zsj (s sq:Sq)(m:Int)(t:Tm)(c:Fm)(ps:List Dv)(hn:t.none=true)(hc:same c zan=true)(hl:s.left.length<=1048576)(hr:s.right.length<=1048576)(f:Fm)(hm:zbr s (.mk 2 sq m t c ps)=true)(hf:zbc s (.mk 2 sq m t c ps)=f):RC Tryz.prog 80 [sqD s,dvD (.mk 2 sq m t c ps)] [.one (sqS []),bD true]:=by
 have HW:FC Tryz.prog 56 [iD 2,iD 1,iD 15] [bD true]:=zb2 2 1 15
 have HSF:=zbe c zan
 have HQ:FC Tryz.prog 149 [iD 2] [bD false]:=za3 2
 have HZ:=za4 t
 have hz:fmD zan=.agg [.int .i64 0,.str [],.sl 2 [],.str [],.sl 5 []]:=rfl
 rw[hz]at HSF
 rw[hc]at HSF
 rw[hn]at HZ
 have HMF:=zbl s (.mk 2 sq m t c ps) (by simp only[Dv.rule];omega) hl hr
 rw[hm,if_pos rfl,hf]at HMF
 have hq:List.map sqC []=[]:=rfl
 rw[sqS,hq]
 simp only[sqD,zat,dvD,zbq,tmD,zab t,fmD,zaa c,zaa f,Qg,Qh]at HZ HSF HMF⊢
 refine zbn Tryz.call80 Tryz.func80 rfl Yn (zau Yn) ?_
 simp -implicitDefEqProofs only[go_sem,Tryz.results80]
 refine drawn Yn ?_
 simp -implicitDefEqProofs only[go_sem]
 refine zal (HW) Ym ?_
 simp -implicitDefEqProofs only[go_sem]
 refine za5 (HSF) Ym ?_
 simp -implicitDefEqProofs only[go_sem]
 refine za5 (HQ) Ym ?_
 simp -implicitDefEqProofs only[go_sem]
 refine za5 (HZ) (by simp -implicitDefEqProofs only[go_sem,bft,btf,btt,bff,Kb,Kd]) ?_
 simp -implicitDefEqProofs only[go_sem,bft,btf,btt,bff,Kb,Kd]
 refine⟨Yn,?_⟩
 refine callR (HMF) Ym ?_
 simp -implicitDefEqProofs only[go_sem]
 refine callF (HQ) Ym ?_
 simp -implicitDefEqProofs only[go_sem]
theorem zrg (s sq:Sq)(m:Int)(t:Tm)(c:Fm)(ps:List Dv)(hn:t.none=true)(hc:same c zan=true)(hl:s.left.length<=1048576)(hr:s.right.length<=1048576)(f:Fm)(hm:zbr s (.mk 3 sq m t c ps)=true)(hf:zbc s (.mk 3 sq m t c ps)=f)(hp:0<f.parts.length):RC Tryz.prog 80 [sqD s,dvD (.mk 3 sq m t c ps)] [.one (sqS [⟨[],[f.parts.getD 0 zan]⟩]),bD true]:=by
 have HW:FC Tryz.prog 56 [iD 3,iD 1,iD 15] [bD true]:=zb2 3 1 15
 have HSF:=zbe c zan
 have HQ:FC Tryz.prog 149 [iD 3] [bD false]:=za3 3
 have HZ:=za4 t
 have hz:fmD zan=.agg [.int .i64 0,.str [],.sl 2 [],.str [],.sl 5 []]:=rfl
 rw[hz]at HSF
 rw[hc]at HSF
 rw[hn]at HZ
 have HMF:=zbl s (.mk 3 sq m t c ps) (by simp only[Dv.rule];omega) hl hr
 rw[hm,if_pos rfl,hf]at HMF
 have H0:RC Tryz.prog 152 [iD 0,.one (.ptr (fmC f))] [.one (fmS [f.parts.getD 0 zan])]:=zgn f 0 Yo
 generalize f.parts.getD 0 zan=p0 at H0⊢
 have hq:List.map sqC [⟨[],[p0]⟩]=[[.sl 5 [],.sl 5 [fmC p0]]]:=rfl
 rw[sqS,hq]
 simp only[sqD,zat,dvD,zbq,tmD,zab t,fmD,zaa c,zaa f,Qg,Qh]at HZ HSF HMF H0⊢
 refine zbn Tryz.call80 Tryz.func80 rfl Yn (zau Yn) ?_
 simp -implicitDefEqProofs only[go_sem,Tryz.results80]
 refine drawn Yn ?_
 simp -implicitDefEqProofs only[go_sem]
 refine zal (HW) Ym ?_
 simp -implicitDefEqProofs only[go_sem]
 refine za5 (HSF) Ym ?_
 simp -implicitDefEqProofs only[go_sem]
 refine za5 (HQ) Ym ?_
 simp -implicitDefEqProofs only[go_sem]
 refine za5 (HZ) (by simp -implicitDefEqProofs only[go_sem,bft,btf,btt,bff,Kb,Kd]) ?_
 simp -implicitDefEqProofs only[go_sem,bft,btf,btt,bff,Kb,Kd]
 refine⟨Yn,?_⟩
 refine callR (HMF) Ym ?_
 simp -implicitDefEqProofs only[go_sem]
 refine callF (HQ) Ym ?_
 simp -implicitDefEqProofs only[go_sem]
 refine frzX 6 rfl rfl ?_
 simp -implicitDefEqProofs only[go_sem]
 refine callR (H0) Ym ?_
 simp -implicitDefEqProofs only[go_sem]
 refine zcw Ym ?_
 simp -implicitDefEqProofs only[go_sem]
 rfl
theorem zsf (s sq:Sq)(m:Int)(t:Tm)(c:Fm)(ps:List Dv)(hn:t.none=true)(hc:same c zan=true)(hl:s.left.length<=1048576)(hr:s.right.length<=1048576)(f:Fm)(hm:zbr s (.mk 4 sq m t c ps)=true)(hf:zbc s (.mk 4 sq m t c ps)=f)(hp:0<f.parts.length):RC Tryz.prog 80 [sqD s,dvD (.mk 4 sq m t c ps)] [.one (sqS [⟨[f.parts.getD 0 zan],[]⟩]),bD true]:=by
 have HW:FC Tryz.prog 56 [iD 4,iD 1,iD 15] [bD true]:=zb2 4 1 15
 have HSF:=zbe c zan
 have HQ:FC Tryz.prog 149 [iD 4] [bD false]:=za3 4
 have HZ:=za4 t
 have hz:fmD zan=.agg [.int .i64 0,.str [],.sl 2 [],.str [],.sl 5 []]:=rfl
 rw[hz]at HSF
 rw[hc]at HSF
 rw[hn]at HZ
 have HMF:=zbl s (.mk 4 sq m t c ps) (by simp only[Dv.rule];omega) hl hr
 rw[hm,if_pos rfl,hf]at HMF
 have H0:RC Tryz.prog 152 [iD 0,.one (.ptr (fmC f))] [.one (fmS [f.parts.getD 0 zan])]:=zgn f 0 Yo
 generalize f.parts.getD 0 zan=p0 at H0⊢
 have hq:List.map sqC [⟨[p0],[]⟩]=[[.sl 5 [fmC p0],.sl 5 []]]:=rfl
 rw[sqS,hq]
 simp only[sqD,zat,dvD,zbq,tmD,zab t,fmD,zaa c,zaa f,Qg,Qh]at HZ HSF HMF H0⊢
 refine zbn Tryz.call80 Tryz.func80 rfl Yn (zau Yn) ?_
 simp -implicitDefEqProofs only[go_sem,Tryz.results80]
 refine drawn Yn ?_
 simp -implicitDefEqProofs only[go_sem]
 refine zal (HW) Ym ?_
 simp -implicitDefEqProofs only[go_sem]
 refine za5 (HSF) Ym ?_
 simp -implicitDefEqProofs only[go_sem]
 refine za5 (HQ) Ym ?_
 simp -implicitDefEqProofs only[go_sem]
 refine za5 (HZ) (by simp -implicitDefEqProofs only[go_sem,bft,btf,btt,bff,Kb,Kd]) ?_
 simp -implicitDefEqProofs only[go_sem,bft,btf,btt,bff,Kb,Kd]
 refine⟨Yn,?_⟩
 refine callR (HMF) Ym ?_
 simp -implicitDefEqProofs only[go_sem]
 refine callF (HQ) Ym ?_
 simp -implicitDefEqProofs only[go_sem]
 refine frzX 6 rfl rfl ?_
 simp -implicitDefEqProofs only[go_sem]
 refine callR (H0) Ym ?_
 simp -implicitDefEqProofs only[go_sem]
 refine zcw Ym ?_
 simp -implicitDefEqProofs only[go_sem]
 rfl
theorem zrj (s sq:Sq)(m:Int)(t:Tm)(c:Fm)(ps:List Dv)(hn:t.none=true)(hc:same c zan=true)(hl:s.left.length<=1048576)(hr:s.right.length<=1048576)(f:Fm)(hm:zbr s (.mk 5 sq m t c ps)=true)(hf:zbc s (.mk 5 sq m t c ps)=f):RC Tryz.prog 80 [sqD s,dvD (.mk 5 sq m t c ps)] [.one (sqS [⟨f.parts,[]⟩]),bD true]:=by
 have HW:FC Tryz.prog 56 [iD 5,iD 1,iD 15] [bD true]:=zb2 5 1 15
 have HSF:=zbe c zan
 have HQ:FC Tryz.prog 149 [iD 5] [bD false]:=za3 5
 have HZ:=za4 t
 have hz:fmD zan=.agg [.int .i64 0,.str [],.sl 2 [],.str [],.sl 5 []]:=rfl
 rw[hz]at HSF
 rw[hc]at HSF
 rw[hn]at HZ
 have HMF:=zbl s (.mk 5 sq m t c ps) (by simp only[Dv.rule];omega) hl hr
 rw[hm,if_pos rfl,hf]at HMF
 have hq:List.map sqC [⟨f.parts,[]⟩]=[[.sl 5 (f.parts.map fmC),.sl 5 []]]:=rfl
 rw[sqS,hq]
 simp only[sqD,zat,dvD,zbq,tmD,zab t,fmD,zaa c,zaa f,Qg,Qh]at HZ HSF HMF⊢
 refine zbn Tryz.call80 Tryz.func80 rfl Yn (zau Yn) ?_
 simp -implicitDefEqProofs only[go_sem,Tryz.results80]
 refine drawn Yn ?_
 simp -implicitDefEqProofs only[go_sem]
 refine zal (HW) Ym ?_
 simp -implicitDefEqProofs only[go_sem]
 refine za5 (HSF) Ym ?_
 simp -implicitDefEqProofs only[go_sem]
 refine za5 (HQ) Ym ?_
 simp -implicitDefEqProofs only[go_sem]
 refine za5 (HZ) (by simp -implicitDefEqProofs only[go_sem,bft,btf,btt,bff,Kb,Kd]) ?_
 simp -implicitDefEqProofs only[go_sem,bft,btf,btt,bff,Kb,Kd]
 refine⟨Yn,?_⟩
 refine callR (HMF) Ym ?_
 simp -implicitDefEqProofs only[go_sem]
 refine callF (HQ) Ym ?_
 simp -implicitDefEqProofs only[go_sem]
 refine zcw Ym ?_
 simp -implicitDefEqProofs only[go_sem]
theorem zrx (s sq:Sq)(m:Int)(t:Tm)(c:Fm)(ps:List Dv)(hn:t.none=true)(hc:same c zan=true)(hl:s.left.length<=1048576)(hr:s.right.length<=1048576)(f:Fm)(hm:zbr s (.mk 6 sq m t c ps)=true)(hf:zbc s (.mk 6 sq m t c ps)=f)(hp:1<f.parts.length):RC Tryz.prog 80 [sqD s,dvD (.mk 6 sq m t c ps)] [.one (sqS [⟨[],[f.parts.getD 0 zan]⟩,⟨[],[f.parts.getD 1 zan]⟩]),bD true]:=by
 have HW:FC Tryz.prog 56 [iD 6,iD 1,iD 15] [bD true]:=zb2 6 1 15
 have HSF:=zbe c zan
 have HQ:FC Tryz.prog 149 [iD 6] [bD false]:=za3 6
 have HZ:=za4 t
 have hz:fmD zan=.agg [.int .i64 0,.str [],.sl 2 [],.str [],.sl 5 []]:=rfl
 rw[hz]at HSF
 rw[hc]at HSF
 rw[hn]at HZ
 have HMF:=zbl s (.mk 6 sq m t c ps) (by simp only[Dv.rule];omega) hl hr
 rw[hm,if_pos rfl,hf]at HMF
 have H0:RC Tryz.prog 152 [iD 0,.one (.ptr (fmC f))] [.one (fmS [f.parts.getD 0 zan])]:=zgn f 0 Yo
 have H1:RC Tryz.prog 152 [iD 1,.one (.ptr (fmC f))] [.one (fmS [f.parts.getD 1 zan])]:=zgn f 1 Yo
 generalize f.parts.getD 0 zan=p0 at H0⊢
 generalize f.parts.getD 1 zan=p1 at H1⊢
 have hq:List.map sqC [⟨[],[p0]⟩,⟨[],[p1]⟩]=[[.sl 5 [],.sl 5 [fmC p0]],[.sl 5 [],.sl 5 [fmC p1]]]:=rfl
 rw[sqS,hq]
 simp only[sqD,zat,dvD,zbq,tmD,zab t,fmD,zaa c,zaa f,Qg,Qh]at HZ HSF HMF H0 H1⊢
 refine zbn Tryz.call80 Tryz.func80 rfl Yn (zau Yn) ?_
 simp -implicitDefEqProofs only[go_sem,Tryz.results80]
 refine drawn Yn ?_
 simp -implicitDefEqProofs only[go_sem]
 refine zal (HW) Ym ?_
 simp -implicitDefEqProofs only[go_sem]
 refine za5 (HSF) Ym ?_
 simp -implicitDefEqProofs only[go_sem]
 refine za5 (HQ) Ym ?_
 simp -implicitDefEqProofs only[go_sem]
 refine za5 (HZ) (by simp -implicitDefEqProofs only[go_sem,bft,btf,btt,bff,Kb,Kd]) ?_
 simp -implicitDefEqProofs only[go_sem,bft,btf,btt,bff,Kb,Kd]
 refine⟨Yn,?_⟩
 refine callR (HMF) Ym ?_
 simp -implicitDefEqProofs only[go_sem]
 refine callF (HQ) Ym ?_
 simp -implicitDefEqProofs only[go_sem]
 refine frzX 6 rfl rfl ?_
 simp -implicitDefEqProofs only[go_sem]
 refine callR (H0) Ym ?_
 simp -implicitDefEqProofs only[go_sem]
 refine callR (H1) Ym ?_
 simp -implicitDefEqProofs only[go_sem]
 refine zcw Ym ?_
 simp -implicitDefEqProofs only[go_sem]
 rfl
theorem zst (s sq:Sq)(m:Int)(t:Tm)(c:Fm)(ps:List Dv)(hn:t.none=true)(hc:same c zan=true)(hl:s.left.length<=1048576)(hr:s.right.length<=1048576)(f:Fm)(hm:zbr s (.mk 7 sq m t c ps)=true)(hf:zbc s (.mk 7 sq m t c ps)=f)(hp:1<f.parts.length):RC Tryz.prog 80 [sqD s,dvD (.mk 7 sq m t c ps)] [.one (sqS [⟨[f.parts.getD 0 zan],[]⟩,⟨[f.parts.getD 1 zan],[]⟩]),bD true]:=by
 have HW:FC Tryz.prog 56 [iD 7,iD 1,iD 15] [bD true]:=zb2 7 1 15
 have HSF:=zbe c zan
 have HQ:FC Tryz.prog 149 [iD 7] [bD false]:=za3 7
 have HZ:=za4 t
 have hz:fmD zan=.agg [.int .i64 0,.str [],.sl 2 [],.str [],.sl 5 []]:=rfl
 rw[hz]at HSF
 rw[hc]at HSF
 rw[hn]at HZ
 have HMF:=zbl s (.mk 7 sq m t c ps) (by simp only[Dv.rule];omega) hl hr
 rw[hm,if_pos rfl,hf]at HMF
 have H0:RC Tryz.prog 152 [iD 0,.one (.ptr (fmC f))] [.one (fmS [f.parts.getD 0 zan])]:=zgn f 0 Yo
 have H1:RC Tryz.prog 152 [iD 1,.one (.ptr (fmC f))] [.one (fmS [f.parts.getD 1 zan])]:=zgn f 1 Yo
 generalize f.parts.getD 0 zan=p0 at H0⊢
 generalize f.parts.getD 1 zan=p1 at H1⊢
 have hq:List.map sqC [⟨[p0],[]⟩,⟨[p1],[]⟩]=[[.sl 5 [fmC p0],.sl 5 []],[.sl 5 [fmC p1],.sl 5 []]]:=rfl
 rw[sqS,hq]
 simp only[sqD,zat,dvD,zbq,tmD,zab t,fmD,zaa c,zaa f,Qg,Qh]at HZ HSF HMF H0 H1⊢
 refine zbn Tryz.call80 Tryz.func80 rfl Yn (zau Yn) ?_
 simp -implicitDefEqProofs only[go_sem,Tryz.results80]
 refine drawn Yn ?_
 simp -implicitDefEqProofs only[go_sem]
 refine zal (HW) Ym ?_
 simp -implicitDefEqProofs only[go_sem]
 refine za5 (HSF) Ym ?_
 simp -implicitDefEqProofs only[go_sem]
 refine za5 (HQ) Ym ?_
 simp -implicitDefEqProofs only[go_sem]
 refine za5 (HZ) (by simp -implicitDefEqProofs only[go_sem,bft,btf,btt,bff,Kb,Kd]) ?_
 simp -implicitDefEqProofs only[go_sem,bft,btf,btt,bff,Kb,Kd]
 refine⟨Yn,?_⟩
 refine callR (HMF) Ym ?_
 simp -implicitDefEqProofs only[go_sem]
 refine callF (HQ) Ym ?_
 simp -implicitDefEqProofs only[go_sem]
 refine frzX 6 rfl rfl ?_
 simp -implicitDefEqProofs only[go_sem]
 refine callR (H0) Ym ?_
 simp -implicitDefEqProofs only[go_sem]
 refine callR (H1) Ym ?_
 simp -implicitDefEqProofs only[go_sem]
 refine zcw Ym ?_
 simp -implicitDefEqProofs only[go_sem]
 rfl
theorem zru (s sq:Sq)(m:Int)(t:Tm)(c:Fm)(ps:List Dv)(hn:t.none=true)(hc:same c zan=true)(hl:s.left.length<=1048576)(hr:s.right.length<=1048576)(f:Fm)(hm:zbr s (.mk 8 sq m t c ps)=true)(hf:zbc s (.mk 8 sq m t c ps)=f):RC Tryz.prog 80 [sqD s,dvD (.mk 8 sq m t c ps)] [.one (sqS [⟨[],f.parts⟩]),bD true]:=by
 have HW:FC Tryz.prog 56 [iD 8,iD 1,iD 15] [bD true]:=zb2 8 1 15
 have HSF:=zbe c zan
 have HQ:FC Tryz.prog 149 [iD 8] [bD false]:=za3 8
 have HZ:=za4 t
 have hz:fmD zan=.agg [.int .i64 0,.str [],.sl 2 [],.str [],.sl 5 []]:=rfl
 rw[hz]at HSF
 rw[hc]at HSF
 rw[hn]at HZ
 have HMF:=zbl s (.mk 8 sq m t c ps) (by simp only[Dv.rule];omega) hl hr
 rw[hm,if_pos rfl,hf]at HMF
 have hq:List.map sqC [⟨[],f.parts⟩]=[[.sl 5 [],.sl 5 (f.parts.map fmC)]]:=rfl
 rw[sqS,hq]
 simp only[sqD,zat,dvD,zbq,tmD,zab t,fmD,zaa c,zaa f,Qg,Qh]at HZ HSF HMF⊢
 refine zbn Tryz.call80 Tryz.func80 rfl Yn (zau Yn) ?_
 simp -implicitDefEqProofs only[go_sem,Tryz.results80]
 refine drawn Yn ?_
 simp -implicitDefEqProofs only[go_sem]
 refine zal (HW) Ym ?_
 simp -implicitDefEqProofs only[go_sem]
 refine za5 (HSF) Ym ?_
 simp -implicitDefEqProofs only[go_sem]
 refine za5 (HQ) Ym ?_
 simp -implicitDefEqProofs only[go_sem]
 refine za5 (HZ) (by simp -implicitDefEqProofs only[go_sem,bft,btf,btt,bff,Kb,Kd]) ?_
 simp -implicitDefEqProofs only[go_sem,bft,btf,btt,bff,Kb,Kd]
 refine⟨Yn,?_⟩
 refine callR (HMF) Ym ?_
 simp -implicitDefEqProofs only[go_sem]
 refine callF (HQ) Ym ?_
 simp -implicitDefEqProofs only[go_sem]
 refine zcw Ym ?_
 simp -implicitDefEqProofs only[go_sem]
theorem zq1 (s sq:Sq)(m:Int)(t:Tm)(c:Fm)(ps:List Dv)(hn:t.none=true)(hc:same c zan=true)(hl:s.left.length<=1048576)(hr:s.right.length<=1048576)(f:Fm)(hm:zbr s (.mk 9 sq m t c ps)=true)(hf:zbc s (.mk 9 sq m t c ps)=f)(hp:1<f.parts.length):RC Tryz.prog 80 [sqD s,dvD (.mk 9 sq m t c ps)] [.one (sqS [⟨[],[f.parts.getD 0 zan]⟩,⟨[f.parts.getD 1 zan],[]⟩]),bD true]:=by
 have HW:FC Tryz.prog 56 [iD 9,iD 1,iD 15] [bD true]:=zb2 9 1 15
 have HSF:=zbe c zan
 have HQ:FC Tryz.prog 149 [iD 9] [bD false]:=za3 9
 have HZ:=za4 t
 have hz:fmD zan=.agg [.int .i64 0,.str [],.sl 2 [],.str [],.sl 5 []]:=rfl
 rw[hz]at HSF
 rw[hc]at HSF
 rw[hn]at HZ
 have HMF:=zbl s (.mk 9 sq m t c ps) (by simp only[Dv.rule];omega) hl hr
 rw[hm,if_pos rfl,hf]at HMF
 have H0:RC Tryz.prog 152 [iD 0,.one (.ptr (fmC f))] [.one (fmS [f.parts.getD 0 zan])]:=zgn f 0 Yo
 have H1:RC Tryz.prog 152 [iD 1,.one (.ptr (fmC f))] [.one (fmS [f.parts.getD 1 zan])]:=zgn f 1 Yo
 generalize f.parts.getD 0 zan=p0 at H0⊢
 generalize f.parts.getD 1 zan=p1 at H1⊢
 have hq:List.map sqC [⟨[],[p0]⟩,⟨[p1],[]⟩]=[[.sl 5 [],.sl 5 [fmC p0]],[.sl 5 [fmC p1],.sl 5 []]]:=rfl
 rw[sqS,hq]
 simp only[sqD,zat,dvD,zbq,tmD,zab t,fmD,zaa c,zaa f,Qg,Qh]at HZ HSF HMF H0 H1⊢
 refine zbn Tryz.call80 Tryz.func80 rfl Yn (zau Yn) ?_
 simp -implicitDefEqProofs only[go_sem,Tryz.results80]
 refine drawn Yn ?_
 simp -implicitDefEqProofs only[go_sem]
 refine zal (HW) Ym ?_
 simp -implicitDefEqProofs only[go_sem]
 refine za5 (HSF) Ym ?_
 simp -implicitDefEqProofs only[go_sem]
 refine za5 (HQ) Ym ?_
 simp -implicitDefEqProofs only[go_sem]
 refine za5 (HZ) (by simp -implicitDefEqProofs only[go_sem,bft,btf,btt,bff,Kb,Kd]) ?_
 simp -implicitDefEqProofs only[go_sem,bft,btf,btt,bff,Kb,Kd]
 refine⟨Yn,?_⟩
 refine callR (HMF) Ym ?_
 simp -implicitDefEqProofs only[go_sem]
 refine callF (HQ) Ym ?_
 simp -implicitDefEqProofs only[go_sem]
 refine frzX 6 rfl rfl ?_
 simp -implicitDefEqProofs only[go_sem]
 refine callR (H0) Ym ?_
 simp -implicitDefEqProofs only[go_sem]
 refine callR (H1) Ym ?_
 simp -implicitDefEqProofs only[go_sem]
 refine zcw Ym ?_
 simp -implicitDefEqProofs only[go_sem]
 rfl
theorem zpv (s sq:Sq)(m:Int)(t:Tm)(c:Fm)(ps:List Dv)(hn:t.none=true)(hc:same c zan=true)(hl:s.left.length<=1048576)(hr:s.right.length<=1048576)(f:Fm)(hm:zbr s (.mk 10 sq m t c ps)=true)(hf:zbc s (.mk 10 sq m t c ps)=f)(hp:1<f.parts.length):RC Tryz.prog 80 [sqD s,dvD (.mk 10 sq m t c ps)] [.one (sqS [⟨[f.parts.getD 0 zan],[f.parts.getD 1 zan]⟩]),bD true]:=by
 have HW:FC Tryz.prog 56 [iD 10,iD 1,iD 15] [bD true]:=zb2 10 1 15
 have HSF:=zbe c zan
 have HQ:FC Tryz.prog 149 [iD 10] [bD false]:=za3 10
 have HZ:=za4 t
 have hz:fmD zan=.agg [.int .i64 0,.str [],.sl 2 [],.str [],.sl 5 []]:=rfl
 rw[hz]at HSF
 rw[hc]at HSF
 rw[hn]at HZ
 have HMF:=zbl s (.mk 10 sq m t c ps) (by simp only[Dv.rule];omega) hl hr
 rw[hm,if_pos rfl,hf]at HMF
 have H0:RC Tryz.prog 152 [iD 0,.one (.ptr (fmC f))] [.one (fmS [f.parts.getD 0 zan])]:=zgn f 0 Yo
 have H1:RC Tryz.prog 152 [iD 1,.one (.ptr (fmC f))] [.one (fmS [f.parts.getD 1 zan])]:=zgn f 1 Yo
 generalize f.parts.getD 0 zan=p0 at H0⊢
 generalize f.parts.getD 1 zan=p1 at H1⊢
 have hq:List.map sqC [⟨[p0],[p1]⟩]=[[.sl 5 [fmC p0],.sl 5 [fmC p1]]]:=rfl
 rw[sqS,hq]
 simp only[sqD,zat,dvD,zbq,tmD,zab t,fmD,zaa c,zaa f,Qg,Qh]at HZ HSF HMF H0 H1⊢
 refine zbn Tryz.call80 Tryz.func80 rfl Yn (zau Yn) ?_
 simp -implicitDefEqProofs only[go_sem,Tryz.results80]
 refine drawn Yn ?_
 simp -implicitDefEqProofs only[go_sem]
 refine zal (HW) Ym ?_
 simp -implicitDefEqProofs only[go_sem]
 refine za5 (HSF) Ym ?_
 simp -implicitDefEqProofs only[go_sem]
 refine za5 (HQ) Ym ?_
 simp -implicitDefEqProofs only[go_sem]
 refine za5 (HZ) (by simp -implicitDefEqProofs only[go_sem,bft,btf,btt,bff,Kb,Kd]) ?_
 simp -implicitDefEqProofs only[go_sem,bft,btf,btt,bff,Kb,Kd]
 refine⟨Yn,?_⟩
 refine callR (HMF) Ym ?_
 simp -implicitDefEqProofs only[go_sem]
 refine callF (HQ) Ym ?_
 simp -implicitDefEqProofs only[go_sem]
 refine frzX 6 rfl rfl ?_
 simp -implicitDefEqProofs only[go_sem]
 refine callR (H0) Ym ?_
 simp -implicitDefEqProofs only[go_sem]
 refine callR (H1) Ym ?_
 simp -implicitDefEqProofs only[go_sem]
 refine zcw Ym ?_
 simp -implicitDefEqProofs only[go_sem]
 rfl
end
section
open Go.RowKit
theorem zri (s:Sq)(hs:s.good=true)(d:Dv)(hd:d.wt<=1048576):RC Tryz.prog 80 [sqD s,dvD d] [.one (sqS (adR s d).1),bD (adR s d).2]:=by
 obtain⟨l1,l2,_,_⟩:=zgw hs
 have hW:=d.wt_eq
 have hmm:=fun h=>zeb (s:=s) (d:=d) h
 have hop:=fun h=>zm0 (s:=s) (d:=d) h
 obtain⟨r,sq,m,t,c,ps⟩:=d
 simp only[Dv.rule,Dv.seq,Dv.main,Dv.term,Dv.cut,Dv.parts]at hW hmm hop
 by_cases h15:r=15
 ·subst h15;have h:=zmj s sq m t c ps Yo;have e:adR s (.mk 15 sq m t c ps)=(if(m==0&&t.none&&c.good)=true then [⟨[],[c]⟩,⟨[c],[]⟩]else [],m==0&&t.none&&c.good):=by
   unfold adR;rw[if_pos (show(Dv.mk 15 sq m t c ps).rule=15 from rfl)];show(if(m==0&&t.none&&c.good)=true then (([⟨[],[c]⟩,⟨[c],[]⟩]:List Sq),true)else ([],false))=_
   cases (m==0&&t.none&&c.good)<;>rfl
  rw[e];exact h
 ·have h15':(r==15)=false:=by rw[Ql];exact h15
  have e0:adR s (.mk r sq m t c ps)=if(inB r 1 15&&same c zan&&(inB r 11 14==!t.none)&&zbr s (.mk r sq m t c ps))=true then (if inB r 11 14=true then ze5 s (.mk r sq m t c ps) (zbc s (.mk r sq m t c ps))else zbw s r (zbc s (.mk r sq m t c ps)))else ([],false):=by
   unfold adR;rw[if_neg (show ¬(Dv.mk r sq m t c ps).rule=15 from h15)];rfl
  cases hno:(inB r 1 15&&same c zan&&(inB r 11 14==!t.none))
  ·rw[hno,Qq,if_neg (by simp)]at e0;rw[e0];exact zpq s sq r m t c ps h15' hno
  ·rw[hno,Qv]at e0;simp only[Qb,Kr]at hno;obtain⟨⟨hin,hc⟩,hqn⟩:=hno;cases hm:zbr s (.mk r sq m t c ps)
   ·rw[hm,if_neg (by simp)]at e0;rw[e0];exact zkz s sq r m t c ps h15' hin hc hqn Yo Yo hm
   ·rw[hm,if_pos rfl]at e0;rw[e0];have hg:=zdf hs r (hmm hm).2.2;have hop:=hop hm;cases hq:inB r 11 14
    ·rw[if_neg (by simp)];rw[hq]at hqn;have hn:t.none=true:=by simpa using hqn.symm
     have hr:r=1\/r=2\/r=3\/r=4\/r=5\/r=6\/r=7\/r=8\/r=9\/r=10:=by
      unfold inB at hin hq;simp only[Qb,Qm]at hin;simp only[Bool.and_eq_false_iff,Jf]at hq;omega
     rcases hr with rfl|rfl|rfl|rfl|rfl|rfl|rfl|rfl|rfl|rfl
     ·exact zr2 s sq m t c ps hn hc Yo Yo _ hm rfl
     ·exact zsj s sq m t c ps hn hc Yo Yo _ hm rfl
     ·obtain⟨p,hp⟩:=zga hg (hop.resolve_left (by decide));exact zrg s sq m t c ps hn hc Yo Yo _ hm rfl (by rw[hp];simp)
     ·obtain⟨p,hp⟩:=zga hg (hop.resolve_left (by decide));exact zsf s sq m t c ps hn hc Yo Yo _ hm rfl (by rw[hp];simp)
     ·exact zrj s sq m t c ps hn hc Yo Yo _ hm rfl
     ·obtain⟨p,q,hp⟩:=zbz hg (Or.inl (hop.resolve_left (by decide)));exact zrx s sq m t c ps hn hc Yo Yo _ hm rfl (by rw[hp];simp)
     ·obtain⟨p,q,hp⟩:=zbz hg (Or.inr (Or.inl (hop.resolve_left (by decide))));exact zst s sq m t c ps hn hc Yo Yo _ hm rfl (by rw[hp];simp)
     ·exact zru s sq m t c ps hn hc Yo Yo _ hm rfl
     ·obtain⟨p,q,hp⟩:=zbz hg (Or.inr (Or.inr (hop.resolve_left (by decide))));exact zq1 s sq m t c ps hn hc Yo Yo _ hm rfl (by rw[hp];simp)
     ·obtain⟨p,q,hp⟩:=zbz hg (Or.inr (Or.inr (hop.resolve_left (by decide))));exact zpv s sq m t c ps hn hc Yo Yo _ hm rfl (by rw[hp];simp)
    ·rw[if_pos rfl];rw[hq]at hqn;have hn:t.none=false:=by simpa using hqn.symm
     have ho:(zbc s (.mk r sq m t c ps)).op=8\/(zbc s (.mk r sq m t c ps)).op=9:=by
      have hr:r=11\/r=12\/r=13\/r=14:=by
       unfold inB at hq;simp only[Qb,Qm]at hq;omega
      rcases hr with rfl|rfl|rfl|rfl
      ·exact Or.inl (hop.resolve_left (by decide))
      ·exact Or.inl (hop.resolve_left (by decide))
      ·exact Or.inr (hop.resolve_left (by decide))
      ·exact Or.inr (hop.resolve_left (by decide))
     exact zq6 s sq r m t c ps hs Yo hn hc hq Yo Yo _ hm rfl hg ho
theorem zcf (f:Fm):zdm [f]=1+f.wt:=by simp[zdm]
theorem ze7:zdm []=0:=rfl
theorem ztz {f:Fm}:zdm f.parts<=f.wt:=by have:=f.wt_eq;unfold zdm;omega
theorem zmh (f:Fm)(i:Nat):(f.parts.getD i zan).wt<=f.wt:=by
 by_cases h:i<f.parts.length
 ·rw[zc8 h];exact zck (Qj h)
 ·rw[List.getD_eq_getElem?_getD,List.getElem?_eq_none Yo];exact Q3 _
def zli (x:Sq):Prop:=x.left.length<=100000/\x.right.length<=100000/\zdm x.left<=100000/\zdm x.right<=100000
theorem zf2 {x:Sq}(h1:zdm x.left<=100000)(h2:zdm x.right<=100000):zli x:=by
 have e1:zdm x.left=x.left.length+(x.left.map Fm.wt).sum:=rfl
 have e2:zdm x.right=x.right.length+(x.right.map Fm.wt).sum:=rfl
 exact⟨Yo,Yo,h1,h2⟩
theorem zu1 (s:Sq)(hs:s.good=true)(d:Dv):∀x∈(adR s d).1,zli x:=by
 unfold adR
 split
 ·split
  ·rename_i h;rw[Qb]at h;have hw:=zcr h.2;intro x hx;simp only[Qr,Kn,or_false]at hx;rcases hx with rfl|rfl<;>exact zf2 (by simp only[zcf,ze7];omega) (by simp only[zcf,ze7];omega)
  ·intro x hx;cases hx
 ·split
  ·rename_i h;rw[Qb]at h;have hg:=zdf hs d.rule (zeb h.2).2.2;have hw:=zcr hg;generalize zbc s d=f at hg hw⊢;have h0:=zmh f 0;have h1:=zmh f 1;have h2:=ztz (f:=f);split
   ·unfold ze5;split
    ·intro x hx;cases hx
    ·split
     ·rename_i h;have hsg:(sbF f.var d.term (f.parts.getD 0 zan)).1.good=true:=by
       unfold sbF at h⊢;split at h
       ·rename_i h3;rw[if_pos h3];rw[Qb]at h3;exact h3.2
       ·cases h
      have hsw:=zcr hsg;split
      ·intro x hx;rw[Qw.1 hx];exact zf2 (by simp only[zcf];omega) (by simp only[ze7];omega)
      ·intro x hx;rw[Qw.1 hx];exact zf2 (by simp only[ze7];omega) (by simp only[zcf];omega)
     ·intro x hx;cases hx
   ·have key:∀x:Sq,((x.left=[]\/x.left=[f.parts.getD 0 zan]\/x.left=[f.parts.getD 1 zan]\/x.left=f.parts)/\(x.right=[]\/x.right=[f.parts.getD 0 zan]\/x.right=[f.parts.getD 1 zan]\/x.right=f.parts))->zli x:=by
     rintro⟨l,r⟩ ⟨hl,hr⟩;simp only at hl hr;refine zf2 ?_ ?_
     ·rcases hl with rfl|rfl|rfl|rfl
      ·exact Q3 _
      ·show zdm [f.parts.getD 0 zan]<=100000
       rw[zcf];omega
      ·show zdm [f.parts.getD 1 zan]<=100000
       rw[zcf];omega
      ·show zdm f.parts<=100000
       omega
     ·rcases hr with rfl|rfl|rfl|rfl
      ·exact Q3 _
      ·show zdm [f.parts.getD 0 zan]<=100000
       rw[zcf];omega
      ·show zdm [f.parts.getD 1 zan]<=100000
       rw[zcf];omega
      ·show zdm f.parts<=100000
       omega
    unfold zbw
    repeat' split
    all_goals (intro x hx;simp only[Qr,Kn,or_false]at hx)
    all_goals first
     | exact hx.elim
     | (rcases hx with rfl|rfl<;>exact key _ ⟨by simp,by simp⟩)
     | (rw[hx];exact key _ ⟨by simp,by simp⟩)
  ·intro x hx;cases hx
theorem zqr {s:Sq}(hs:s.good=true)(d:Dv){x:Sq}(hx:zli x):zdm (zea s d x).left<=400000/\zdm (zea s d x).right<=400000:=by
 obtain⟨l1,l2,g1,g2⟩:=zgw hs
 obtain⟨_,_,h1,h2⟩:=hx
 have hh:∀xs:List Fm,xs.length<=10->(∀x∈xs,x.good=true)->zdm xs<=300000:=fun xs hl hg=>by
  have:(xs.map Fm.wt).sum<=20800*xs.length:=by
   clear hl;induction xs with
   | nil=>exact Qz _
   | cons x xs ih =>
    have h1:=ih fun y hy=>hg y (by simp[hy]);have h2:=zcr (hg x (by simp));rw[Qg,Q2,Qc];omega
  unfold zdm;omega
 have a1:=Kk (zi7 (zdv s.left (zb6 d true))) (hh _ l1 g1)
 have a2:=Kk (zi7 (zdv s.right (zb6 d false))) (hh _ l2 g2)
 unfold zea
 simp only[zs2]
 omega
theorem zwe (s:Sq)(hs:s.good=true)(d:Dv)(hdw:d.wt<=1048576):FC Tryz.prog 24 [sqD s,dvD d] [.one (sqS (prR s d).1),bD (prR s d).2]:=by
 obtain⟨l1,l2,g1,g2⟩:=zgw hs
 have HA:=zri s hs d hdw
 have hsm:=zu1 s hs d
 have hv:prR s d=if((adR s d).2&&((adR s d).1.map (zea s d)).all Sq.good)=true then ((adR s d).1.map (zea s d),true)else ([],false):=rfl
 rw[hv]
 have hlen:(adR s d).1.length<=2:=by
  unfold adR;split
  ·split<;>simp
  ·split
   ·split
    ·unfold ze5
     repeat' split
     all_goals simp
    ·unfold zbw
     repeat' split
     all_goals simp
   ·simp
 have hne:(adR s d).2=true->1<=d.rule/\d.rule<=15:=by
  unfold adR;split
  ·intro _;omega
  ·split
   ·rename_i h;intro _;simp only[Qb]at h;have:=h.1.1.1;unfold inB at this;simpa only[Qb,Qm]using this
   ·intro h;cases h
 generalize adR s d=A at HA hsm hlen hne⊢
 obtain⟨L,b⟩:=A
 simp only at HA hsm hlen hne⊢
 cases b
 ·rw[Qq,if_neg (by simp)];simp only[sqD,zat s,dvD,zfi d]at HA⊢;show FC _ _ _ [.one (.sl 2 []),_]
  refine zai Tryz.call24 Tryz.func24 rfl Yn (zau Yn) ?_;simp -implicitDefEqProofs only[go_sem,Tryz.results24];refine callR (HA) Ym ?_;simp -implicitDefEqProofs only[go_sem]
 ·have hr:=hne rfl;have HL:=qin d s.left true hr Yo;have HR:=qin d s.right false hr Yo;rw[Qv];have hd1:=(zdv s.left (zb6 d true)).length_le;have hd2:=(zdv s.right (zb6 d false)).length_le;have hexl:∀x,(zea s d x).left=zct s.left (zb6 d true)++x.left:=fun _=>rfl;have hexr:∀x,(zea s d x).right=zct s.right (zb6 d false)++x.right:=fun _=>rfl;simp only[sqD,zat s,dvD,zfi d]at HA HL HR⊢;refine zai Tryz.call24 Tryz.func24 rfl Yn (zau Yn) ?_;simp -implicitDefEqProofs only[go_sem,Tryz.results24];refine callR (HA) Ym ?_;simp -implicitDefEqProofs only[go_sem];refine zad Ym ?_;simp -implicitDefEqProofs only[go_sem];refine zaf (fun k:Nat=>hd [(2,.one (.bx 2 0)),(3,.one (.bx 3 0)),(8,.one (.ow 640 k)),(21,vT (sqS L)),(22,vI L.length),(23,vI k)] [(2,[.t (fmS s.left),.t (fmS s.right)]),(3,[.t (.int .i64 d.rule),.t (fmS d.seq.left),.t (fmS d.seq.right),.t (.int .i64 d.main),.t (.str d.term.name),.t (tmS d.term.args),.t (.int .i64 d.cut.op),.t (.str d.cut.atom.name),.t (tmS d.cut.atom.args),.t (.str d.cut.var),.t (fmS d.cut.parts),.t (dvS d.parts)])] [(640,⟨true,2,((L.take k).map (zea s d)).map sqC,k,true⟩)]) (fun k=>k<=L.length/\∀j (h:j<L.length),j<k->(zea s d L[j]).good=true) (fun k=>L.length-k) 0 (zac ?_) ⟨Q3 _,fun j _ h=>absurd h Yo⟩ ?_
  ·simp -implicitDefEqProofs only[go_sem]
  ·rintro k ⟨hk,hgd⟩;by_cases hlt:k<L.length
   ·have hx:=hsm _ (Qj hlt);have hy:=zqr hs d hx;obtain⟨x1,x2,x3,x4⟩:=hx;have HC1:=zl6 (zct s.left (zb6 d true)) L[k].left Yo;have HC2:=zl6 (zct s.right (zb6 d false)) L[k].right Yo;have HCp:=znf (zea s d L[k]) Yo Yo;have HV:=zfk (zea s d L[k]) (by rw[Sq.wt_eq];omega);simp only[sqD,zat,hexl,hexr]at HCp HV;have hmin:min k L.length<=4294967295:=by omega
    cases hgk:(zea s d L[k]).good
    ·rw[hgk]at HV
     rw[if_neg (show ¬(L.map (zea s d)).all Sq.good=true by
      rw[Qn];intro h;have:=h _ (Ki.2 ⟨_,Qj hlt,rfl⟩)
      rw[hgk]at this;cases this)]
     simp -implicitDefEqProofs only[go_sem,hlt,zae,zat L[k]];refine drawn Yn ?_;simp -implicitDefEqProofs only[go_sem];refine zhq HL Ym ?_;simp -implicitDefEqProofs only[go_sem];refine zn2 Ym ?_;simp -implicitDefEqProofs only[go_sem];refine zhq HC1 Ym ?_;simp -implicitDefEqProofs only[go_sem];refine zhq HR Ym ?_;simp -implicitDefEqProofs only[go_sem];refine zn2 Ym ?_;simp -implicitDefEqProofs only[go_sem];refine zhq HC2 Ym ?_;simp -implicitDefEqProofs only[go_sem];refine zal (HCp) Ym ?_;simp -implicitDefEqProofs only[go_sem];refine⟨Yn,?_⟩;refine callF (HV) Ym ?_;simp -implicitDefEqProofs only[go_sem]
    ·rw[hgk]at HV;simp -implicitDefEqProofs only[go_sem,hlt,zae,zat L[k]];refine drawn Yn ?_;simp -implicitDefEqProofs only[go_sem];refine zhq HL Ym ?_;simp -implicitDefEqProofs only[go_sem];refine zn2 Ym ?_;simp -implicitDefEqProofs only[go_sem];refine zhq HC1 Ym ?_;simp -implicitDefEqProofs only[go_sem];refine zhq HR Ym ?_;simp -implicitDefEqProofs only[go_sem];refine zn2 Ym ?_;simp -implicitDefEqProofs only[go_sem];refine zhq HC2 Ym ?_;simp -implicitDefEqProofs only[go_sem];refine zal (HCp) Ym ?_;simp -implicitDefEqProofs only[go_sem];refine⟨Yn,?_⟩;refine callF (HV) Ym ?_;simp -implicitDefEqProofs only[go_sem];refine zad Ym ?_;simp -implicitDefEqProofs only[go_sem];refine apD true (by simp -implicitDefEqProofs only[go_sem,ne_eq,Qa,Qs,hmin]) ?_;simp -implicitDefEqProofs only[go_sem,ne_eq,Qa,Qs,hmin];refine⟨k+1,⟨hlt,fun j h1 h2=>?_⟩,Yo,zac ?_⟩
     ·by_cases e:j=k
      ·subst e;exact hgk
      ·exact hgd j h1 Yo
     ·simp -implicitDefEqProofs only[go_sem];rw[zaw Yo,Qk hlt,Qy,Kj];refine⟨rfl,?_⟩;simp only[Function.comp_apply,zat,hexl,hexr,Qy]
   ·have htk:L.take k=L:=Qu Yo
    rw[if_pos (show(L.map (zea s d)).all Sq.good=true by
     rw[Qn];intro y hy;obtain⟨x,hx,rfl⟩:=Ki.1 hy;obtain⟨j,hj,rfl⟩:=Jm hx
     exact hgd j hj Yo)]
    simp -implicitDefEqProofs only[go_sem,hlt,htk]
theorem zqo (s:Sq)(hs:s.wt<=1048576)(d:Dv)(hd:d.wt<=1048576):FC Tryz.prog 7 [sqD s,dvD d] [.one (sqS (zp7 s d).1),bD (zp7 s d).2]:=by
 have HV:=zfk s Yo
 unfold zp7
 cases hg:s.good
 ·rw[hg]at HV;rw[if_neg (by simp)];simp only[sqD,zat s,dvD,zfi d]at HV⊢;show FC _ _ _ [.one (.sl 2 []),_]
  refine zai Tryz.call7 Tryz.func7 rfl Yn (zau Yn) ?_;simp -implicitDefEqProofs only[go_sem,Tryz.results7];refine callF (HV) Ym ?_;simp -implicitDefEqProofs only[go_sem]
 ·rw[hg]at HV;rw[if_pos rfl];have HP:=zwe s hg d hd;generalize prR s d=A at HP⊢;obtain⟨L,b⟩:=A;simp only[sqD,zat s,dvD,zfi d]at HV HP⊢;refine zai Tryz.call7 Tryz.func7 rfl Yn (zau Yn) ?_;simp -implicitDefEqProofs only[go_sem,Tryz.results7];refine callF (HV) Ym ?_;simp -implicitDefEqProofs only[go_sem];refine callF (HP) Ym ?_;simp -implicitDefEqProofs only[go_sem]
end
end Go.Proofs.YtpcmmboblbjpfaaGreat
