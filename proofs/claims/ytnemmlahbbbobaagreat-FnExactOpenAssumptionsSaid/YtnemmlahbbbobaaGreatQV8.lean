/-
  The walk over plain data, and contracts of functions of the program and of its laws.
  Conditions: those that each theorem names.
-/
import Derived.Test.YtnemmlahbbbobaaGreatQV7
import Derived.Test.YtnemmlahbbbobaaGreatQV5
import Derived.RangeFuncNested
import Derived.RangeFuncBound
import Derived.RangeFuncCalls
import Derived.TacticsInMore
import Derived.LoopNIn
import Derived.LoopIn
namespace Go.Proofs.YtnemmlahbbbobaaGreat
set_option linter.unusedSimpArgs false
set_option linter.unusedVariables false
set_option linter.unusedSectionVars false
set_option maxRecDepth 4000
set_option maxHeartbeats 8000000
section
open Go.RowKit
theorem qoy:∀a:Tm,a.wt<=1099511627776->∀ys:List Str,ys.length+(voS a).length<=1073741824->GC Tryz.prog 162 [(true,.one (zdh ys)),(false,tmD a)] [.one (zdh (zbl ys (voS a)))] :=
 zb4 fun n xs ih hw ys hs=>qkw (.mk n xs) (fun x hx ys hs=>ih x hx (Ja (zpy (a:=.mk n xs) hx) hw) ys hs) ys hs (by have:=Tm.wt_eq (.mk n xs);omega)
theorem zxw (a:Tm)(hw:a.wt<=1099511627776)(hs:(voS a).length<=1073741824):FC Tryz.prog 136 [tmD a] [.one (zdh (zbl [] (voS a)))]:=by
 have HC:=qoy a hw [] (by simpa using hs)
 simp only[tmD,zab]at HC⊢
 refine zfg Tryz.call136 Tryz.func136 rfl Yo (zao Yo) ?_
 simp -implicitDefEqProofs only[go_sem,Tryz.results136]
 refine za7 Yn ?_
 simp -implicitDefEqProofs only[go_sem]
 refine ze1 [] [3,4] [] (HC) Yn Yn Yn Yn ?_
 simp -implicitDefEqProofs only[go_sem]
theorem zzn {s:Str}(h:zbd s=true):zng (s.getD 0 0)=true/\0<s.length:=by
 unfold zbd at h
 rw[Qe]at h
 cases s with
 | nil=>exact absurd h.2 (by decide)
 | cons b s =>
  have:=zym (s:=b::s) (by simp);rw[h.1]at this;have:=(Qe _ _).mp this.symm;exact⟨this.1,by simp⟩
theorem up_low {b:UInt8}(h:zg9 b=true):zng b=false:=by
 unfold zg9 zng at *
 simp only[Qe,Kb,Bool.and_eq_false_iff,J4]at *
 omega
theorem zsu {s:Str}(h:zeb s=true):zng (s.getD 0 0)=false/\0<s.length:=by
 unfold zeb at h
 simp only[Qe]at h
 cases s with
 | nil=>exact absurd h.1.2 (by decide)
 | cons b s =>
  have:=zry (s:=b::s) (by simp);rw[h.1.1]at this;have:=(Qe _ _).mp this.symm;exact⟨up_low this.1,by simp⟩
theorem zyi:∀a:Tm,a.names=true->voI a=voS a/\a.ne=true:=zb4 fun n xs ih h=>by
 rw[Tm.names_eq]at h
 rw[qex,zt7,Tm.ne_eq']
 change (if zbd n=true then decide (xs.length=0)else zeb n&&decide (xs.length<=4)&&xs.all Tm.names)=true at h
 change (if(decide (xs.length=0)&&zng (n.getD 0 0))=true then [n]else (xs.map voI).flatten)=(if zbd n=true then [n]else (xs.map voS).flatten)/\((!decide (xs.length=0)||decide (0<n.length))&&xs.all Tm.ne)=true
 change ∀x∈xs,_ at ih
 by_cases hv:zbd n=true
 ·rw[if_pos hv]at h⊢;obtain⟨h1,h2⟩:=zzn hv;have h:xs.length=0:=K8 h;have hx:xs=[]:=Kr.1 h;subst hx;rw[h1];exact⟨rfl,by simp[h2]⟩
 ·rw[if_neg hv]at h⊢;simp only[Qe]at h;obtain⟨h1,h2⟩:=zsu h.1.1;rw[h1,Ki,if_neg (by simp)];have hI:=fun x hx=>ih x hx (Qx.1 h.2 x hx);refine⟨by rw[K0 fun x hx=>(hI x hx).1],?_⟩;rw[Qe];exact⟨by simp[h2],Qx.2 fun x hx=>(hI x hx).2⟩
theorem qth {a:Tm}(h:a.atomOk=true):voI a=voS a/\a.ne=true:=by
 unfold Tm.atomOk at h
 split at h
 ·rename_i he;have he:a.name=[61]:=by simpa using he
  simp only[Qe,Kb]at h;rw[qex,zt7,Tm.ne_eq',he];have hI:=fun x hx=>zyi x (Qx.1 h.2 x hx);rw[show zng (([61]:Str).getD 0 0)=false by decide,show zbd [61]=false by decide,Ki,if_neg (by simp),if_neg (by simp)];refine⟨by rw[K0 fun x hx=>(hI x hx).1],?_⟩;rw[Qe];exact⟨by simp,Qx.2 fun x hx=>(hI x hx).2⟩
 ·simp only[Qe]at h;have:=h.2;unfold Tm.good at this;rw[Qe]at this;exact zyi a this.2
theorem zg3 {f:Fm}(h:f.here=true)(h3:f.op=3):f.atom.atomOk=true/\f.parts=[]:=by
 unfold Fm.here at h
 rw[h3]at h
 simp only[show((3:Int)==1||(3:Int)==2)=false by decide,show((3:Int)==3)=true by decide,if_true,Ql,if_false,Qe,Kb,Kr]at h
 exact⟨h.1.2,h.1.1⟩
def vf:Fm->List Str->List Str:=Fm.fold fun o a v _ rs b=>if(o==3)=true then (zbl [] (voS a)).filter (fun s=>!b.contains s)else (rs.map fun r=>r (if isQ o=true then b++[v]else b)).flatten
theorem qbh (f:Fm)(b:List Str):vf f b=if(f.op==3)=true then (zbl [] (voS f.atom)).filter (fun s=>!b.contains s)else (f.parts.map fun x=>vf x (if isQ f.op=true then b++[f.var]else b)).flatten:=by
 unfold vf
 rw[Fm.fold_eq]
 simp only[K2]
 rfl
theorem zpr:∀a:Tm,(voS a).length<=1+a.wt:=zb4 fun n xs ih=>by
 rw[zt7,Tm.wt_eq]
 change (if zbd n=true then [n]else (xs.map voS).flatten).length<=1+(n.length+xs.length+(xs.map Tm.wt).sum)
 split
 ·simp
 ·have:((xs.map voS).flatten).length<=xs.length+(xs.map Tm.wt).sum:=by
   revert ih;induction xs with
   | nil=>simp
   | cons x xs ih2 =>
    intro ih;have h1:=ih x (by simp);have h2:=ih2 fun y hy=>ih y (by simp[hy]);simp only[Qf,Kc,Qu,Jd,Qi];omega
  omega
theorem qrh:∀(f:Fm)(b:List Str),(vf f b).length<=f.nodes+f.wt:=zcn fun o a v ps ih b=>by
 rw[qbh,Fm.nodes_eq,Fm.wt_eq]
 change (if(o==3)=true then (zbl [] (voS a)).filter (fun s=>!b.contains s)else (ps.map fun x=>vf x (if isQ o=true then b++[v]else b)).flatten).length<=1+(ps.map Fm.nodes).sum+(a.wt+v.length+ps.length+(ps.map Fm.wt).sum)
 split
 ·have h1:=List.length_filter_le (fun s=>!b.contains s) (zbl [] (voS a));have h2:=zef (voS a) [];have h3:=zpr a;simp only[Q4]at h2;omega
 ·have:∀b,((ps.map fun x=>vf x b).flatten).length<=(ps.map Fm.nodes).sum+(ps.map Fm.wt).sum:=fun b=>by
   revert ih;induction ps with
   | nil=>simp
   | cons x xs ih2 =>
    intro ih;have h1:=ih x (by simp) b;have h2:=ih2 fun y hy=>ih y (by simp[hy]);simp only[Qf,Kc,Qu,Jd];omega
  have:=this (if isQ o=true then b++[v]else b);omega
def zhp (b l:List Str)(s:Str):List Str:=if(!b.contains s&&!l.contains s)=true then l++[s]else l
theorem zkl (b:List Str):∀(ss l:List Str),ss.foldl (zhp b) l=zde l (ss.filter fun s=>!b.contains s)
 | [],l=>rfl
 | s::ss,l=>by
  rw[Jx,zkl b ss,Jm];unfold zhp;by_cases h:b.contains s=true
  ·rw[h];simp
  ·have h:b.contains s=false:=by simpa using h
   rw[h,if_pos (show(!false)=true from rfl)];show _=zde (zwh l s) _
   congr 1
   unfold zwh;cases l.contains s<;>rfl
theorem qh4 {b l:List Str}{s:Str}(h:(!b.contains s)=true)(h2:(!l.contains s)=true):zhp b l s=l++[s]:=by unfold zhp;rw[h,h2];rfl
theorem qpi {b l:List Str}{s:Str}(h2:(!l.contains s)=false):zhp b l s=l:=by unfold zhp;rw[h2,Ki];rfl
theorem qup {b l:List Str}{s:Str}(h:(!b.contains s)=false):zhp b l s=l:=by unfold zhp;rw[h,Q1];rfl
theorem qjs (b l:List Str)(s:Str):(zhp b l s).length<=l.length+1:=by unfold zhp;split<;>simp
theorem zn2 (b:List Str):∀(ss l:List Str),(ss.foldl (zhp b) l).length<=l.length+ss.length
 | [],l=>by simp
 | s::ss,l=>by have:=zn2 b ss (zhp b l s);have:=qjs b l s;simp only[Jx,Qi]at *;omega
theorem zgy {α β:Type}(g:β->α->β)(xs:List α)(z:β)(k:Nat)(h:k<xs.length):(xs.take (k+1)).foldl g z=g ((xs.take k).foldl g z) xs[k]:=by
 rw[Qk h,List.foldl_append];rfl
theorem qfe (f:Fm)(hf:f.forms=true)(hw:f.wt<=1048576)(H:∀x∈f.parts,∀ys b:List Str,ys.length+(vf x b).length<=1073741824->b.length+x.nodes<=1073741824->GC Tryz.prog 193 [(true,.one (zdh ys)),(false,fmD x),(false,.one (zdh b))] [.one (zdh (zde ys (vf x b)))])
  (ys b:List Str) (hs:ys.length+(vf f b).length<=1073741824) (hb:b.length+f.nodes<=1073741824):GC Tryz.prog 193 [(true,.one (zdh ys)),(false,fmD f),(false,.one (zdh b))] [.one (zdh (zde ys (vf f b)))]:=by
 have hv:=qbh f b
 have hN:=f.nodes_eq
 have hW:=f.wt_eq
 rw[Fm.forms_eq,Qe]at hf
 simp only[fmD,zaa]
 refine zyf Tryz.call193 Tryz.func193 rfl Yo (by simp only[Qi,Q4,Tryz.ntmps193];omega) (by simp[zcg,T.isPin]) ?_
 simp -implicitDefEqProofs only[go_sem,Tryz.results193]
 by_cases h3:f.op=3
 ·obtain⟨ha,hp⟩:=zg3 hf.1 h3;obtain⟨ev,ene⟩:=qth ha;have e3:(f.op==3)=true:=by simp[h3]
  rw[if_pos e3]at hv;have hvl:=zpr f.atom;have HV:=zuy f.atom ene Yp (by rw[ev];omega);rw[ev]at HV;have hPl:=zef (voS f.atom) [];generalize zbl [] (voS f.atom)=V at hv HV hPl;rw[hv,<-zkl b V ys];simp only[tmD,zab]at HV;simp -implicitDefEqProofs only[go_sem,e3];refine zzo (HV) Yn ?_;simp -implicitDefEqProofs only[go_sem];refine zag (fun k:Nat=>hd [(0,.one (.ow 0 0)),(2,.one (.rn (zdh b))),(16,.one (.rn (zdh V))),(17,vI V.length),(18,vI k)] [] [(0,⟨true,1,((V.take k).foldl (zhp b) ys).map fun s=>[.str s],0,true⟩)]) (fun k=>k<=V.length) (fun k=>V.length-k) 0 (zac ?_) (Kd _) ?_
  ·simp -implicitDefEqProofs only[go_sem];rfl
  ·intro k hk;by_cases hlt:k<V.length
   ·have hL:=zn2 b (V.take k) ys;rw[Qq]at hL;have hnx:=zgy (zhp b) V ys k hlt;simp only[Q4]at hPl;simp -implicitDefEqProofs only[go_sem,zan,hlt];refine callF (zc1 b V[k]) Yn ?_;simp -implicitDefEqProofs only[go_sem];refine⟨fun h=>?_,fun h=>?_⟩
    ·refine callF (zc1 ((V.take k).foldl (zhp b) ys) V[k]) Yn ?_;simp -implicitDefEqProofs only[go_sem];have hy2:((V.take k).foldl (zhp b) ys).length<=4294967295:=by omega
     refine⟨fun h2=>?_,fun h2=>?_⟩
     ·refine za7 Yn ?_;simp -implicitDefEqProofs only[go_sem];refine apD true (by simp -implicitDefEqProofs only[go_sem,hy2,ne_eq,Qa]) ?_;simp -implicitDefEqProofs only[go_sem,hy2,ne_eq,Qa];refine⟨k+1,hlt,Yp,zac ?_⟩;simp -implicitDefEqProofs only[go_sem];rw[zap Yp,hnx,qh4 h h2];exact⟨rfl,by simp⟩
     ·refine⟨k+1,hlt,Yp,zac ?_⟩;simp -implicitDefEqProofs only[go_sem];rw[zap Yp,hnx,qpi h2];exact⟨rfl,rfl⟩
    ·refine⟨k+1,hlt,Yp,zac ?_⟩;simp -implicitDefEqProofs only[go_sem];rw[zap Yp,hnx,qup h];exact⟨rfl,rfl⟩
   ·simp -implicitDefEqProofs only[go_sem,hlt];exact Or.inl (by rw[Qv Yp])
 ·have e3:(f.op==3)=false:=by simp[h3]
  rw[e3,if_neg (by simp)]at hv;simp -implicitDefEqProofs only[go_sem,e3];refine callF (zau f.op) Yn ?_;simp -implicitDefEqProofs only[go_sem];refine⟨fun h=>?_,fun h=>?_⟩
  ·rw[if_pos h]at hv;rw[hv]at hs⊢;have hb1:b.length<=4294967295:=by omega
   refine drawn Yo ?_;simp -implicitDefEqProofs only[go_sem];refine zav (qbm b Yp) Yn ?_;simp -implicitDefEqProofs only[go_sem];refine zb9 Yn ?_;simp -implicitDefEqProofs only[go_sem];refine zjp true (by simp -implicitDefEqProofs only[go_sem,hb1,ne_eq,Qa]) ?_;simp -implicitDefEqProofs only[go_sem,hb1,ne_eq,Qa];refine⟨Yo,?_⟩;refine zag (fun k:Nat=>hd [(0,.one (.ow 0 0)),(2,.one (.rn (zdh (b++[f.var])))),(48,.one (.rn (fmS f.parts))),(49,vI f.parts.length),(50,vI k)] [] [(0,⟨true,1,(zde ys ((f.parts.take k).map fun x=>vf x ((b++[f.var]))).flatten).map fun s=>[.str s],0,true⟩)]) (fun k=>k<=f.parts.length) (fun k=>f.parts.length-k) 0 (zac ?_) (Kd _) ?_
   ·simp -implicitDefEqProofs only[go_sem];exact⟨by simp,rfl⟩
   ·intro k hk;by_cases hlt:k<f.parts.length
    ·have hq:=zco (fun x=>vf x ((b++[f.var]))) f.parts k hlt;have hL:=ze5 ((f.parts.take k).map fun x=>vf x ((b++[f.var]))).flatten ys;have hnx:=zbz Fm.nodes f.parts _ (Qj hlt);have HC:=H f.parts[k] (Qj hlt) (zde ys ((f.parts.take k).map fun x=>vf x ((b++[f.var]))).flatten) ((b++[f.var])) Yp (by simp only[Qu,Qi,Q4];omega);rw[<-zje,<-zdk (fun x=>vf x ((b++[f.var]))) f.parts k hlt]at HC;simp only[fmD,zaa f.parts[k]]at HC;simp -implicitDefEqProofs only[go_sem,zan,hlt,zaa f.parts[k]];refine ze1 [2,48,49,50] [54,55,56] [] (HC) Yn Yn Yn Yn ?_;simp -implicitDefEqProofs only[go_sem];refine⟨k+1,hlt,Yp,zep 0 1824 ?_⟩;simp -implicitDefEqProofs only[go_sem];rw[zap Yp]
    ·simp -implicitDefEqProofs only[go_sem,hlt];exact Or.inl (by rw[Qv Yp])
  ·rw[h,if_neg (by simp)]at hv;rw[hv]at hs⊢;refine zag (fun k:Nat=>hd [(0,.one (.ow 0 0)),(2,.one (.rn (zdh b))),(48,.one (.rn (fmS f.parts))),(49,vI f.parts.length),(50,vI k)] [] [(0,⟨true,1,(zde ys ((f.parts.take k).map fun x=>vf x (b)).flatten).map fun s=>[.str s],0,true⟩)]) (fun k=>k<=f.parts.length) (fun k=>f.parts.length-k) 0 (zac ?_) (Kd _) ?_
   ·simp -implicitDefEqProofs only[go_sem];rfl
   ·intro k hk;by_cases hlt:k<f.parts.length
    ·have hq:=zco (fun x=>vf x (b)) f.parts k hlt;have hL:=ze5 ((f.parts.take k).map fun x=>vf x (b)).flatten ys;have hnx:=zbz Fm.nodes f.parts _ (Qj hlt);have HC:=H f.parts[k] (Qj hlt) (zde ys ((f.parts.take k).map fun x=>vf x (b)).flatten) (b) Yp Yp;rw[<-zje,<-zdk (fun x=>vf x (b)) f.parts k hlt]at HC;simp only[fmD,zaa f.parts[k]]at HC;simp -implicitDefEqProofs only[go_sem,zan,hlt,zaa f.parts[k]];refine ze1 [2,48,49,50] [54,55,56] [] (HC) Yn Yn Yn Yn ?_;simp -implicitDefEqProofs only[go_sem];refine⟨k+1,hlt,Yp,zep 0 1824 ?_⟩;simp -implicitDefEqProofs only[go_sem];rw[zap Yp]
    ·simp -implicitDefEqProofs only[go_sem,hlt];exact Or.inl (by rw[Qv Yp])
theorem qmy:∀f:Fm,f.forms=true->f.wt<=1048576->∀ys b:List Str,ys.length+(vf f b).length<=1073741824->b.length+f.nodes<=1073741824->GC Tryz.prog 193 [(true,.one (zdh ys)),(false,fmD f),(false,.one (zdh b))] [.one (zdh (zde ys (vf f b)))] :=
 zcn fun o a v ps ih hf hw ys b hs hb=>qfe (.mk o a v ps) hf hw (fun x hx ys b hs hb=>ih x hx (by rw[Fm.forms_eq,Qe]at hf;exact Qx.1 hf.2 x hx) (Ja (zdw (a:=.mk o a v ps) hx) hw) ys b hs hb) ys b hs hb
theorem qre (f:Fm)(hf:f.forms=true)(hw:f.wt<=1048576):FC Tryz.prog 181 [fmD f] [.one (zdh (zbl [] (vf f [])))]:=by
 have h1:=qrh f []
 have h2:=zjc f
 have HC:=qmy f hf hw [] [] (by simp only[Q4];omega) (by simp only[Q4];omega)
 have HS:=ztq (zde [] (vf f [])) (by have:=ze5 (vf f []) [];simp only[Q4]at this;omega)
 rw[zyt]at HS
 simp only[fmD,zaa]at HC⊢
 refine zfg Tryz.call181 Tryz.func181 rfl Yo (zao Yo) ?_
 simp -implicitDefEqProofs only[go_sem,Tryz.results181]
 refine za7 Yn ?_
 simp -implicitDefEqProofs only[go_sem]
 refine ze1 [] [4,5] [] (HC) Yn Yn Yn Yn ?_
 simp -implicitDefEqProofs only[go_sem]
 refine qrb (HS) (by simp -implicitDefEqProofs only[go_sem,zdc]) (by simp -implicitDefEqProofs only[go_sem,zdc]) rfl ?_
 simp -implicitDefEqProofs only[go_sem,zdc]
def stepS (b l:List Str)(s:Str):List Str:=if(!b.contains s)=true then zyu l s else l
theorem zko (b:List Str):∀(ss l:List Str),ss.foldl (stepS b) l=zbl l (ss.filter fun s=>!b.contains s)
 | [],l=>rfl
 | s::ss,l=>by
  rw[Jx,zko b ss,Jm];unfold stepS;by_cases h:b.contains s=true
  ·rw[h];simp
  ·have h:b.contains s=false:=by simpa using h
   rw[h,if_pos (show(!false)=true from rfl),if_pos (show(!false)=true from rfl)];rfl
theorem qee (b l:List Str)(s:Str):(stepS b l s).length<=l.length+1:=by
 unfold stepS
 split
 ·exact zy6 l s
 ·omega
theorem zn4 (b:List Str):∀(ss l:List Str),(ss.foldl (stepS b) l).length<=l.length+ss.length
 | [],l=>by simp
 | s::ss,l=>by have:=zn4 b ss (stepS b l s);have:=qee b l s;simp only[Jx,Qi]at *;omega
theorem qiq {b l:List Str}{s:Str}(h:(!b.contains s)=true):stepS b l s=zyu l s:=if_pos h
theorem qvo {b l:List Str}{s:Str}(h:(!b.contains s)=false):stepS b l s=l:=by unfold stepS;rw[h];rfl
theorem qey (f:Fm)(hf:f.forms=true)(hw:f.wt<=1048576)(H:∀x∈f.parts,∀ys b:List Str,ys.length+(vf x b).length<=1073741824->b.length+x.nodes<=1073741824->GC Tryz.prog 115 [(true,.one (zdh ys)),(false,fmD x),(false,.one (zdh b))] [.one (zdh (zbl ys (vf x b)))])
  (ys b:List Str) (hs:ys.length+(vf f b).length<=1073741824) (hb:b.length+f.nodes<=1073741824):GC Tryz.prog 115 [(true,.one (zdh ys)),(false,fmD f),(false,.one (zdh b))] [.one (zdh (zbl ys (vf f b)))]:=by
 have hv:=qbh f b
 have hN:=f.nodes_eq
 have hW:=f.wt_eq
 rw[Fm.forms_eq,Qe]at hf
 simp only[fmD,zaa]
 refine zyf Tryz.call115 Tryz.func115 rfl Yo (by simp only[Qi,Q4,Tryz.ntmps115];omega) (by simp[zcg,T.isPin]) ?_
 simp -implicitDefEqProofs only[go_sem,Tryz.results115]
 by_cases h3:f.op=3
 ·obtain⟨ha,hp⟩:=zg3 hf.1 h3;have e3:(f.op==3)=true:=by simp[h3]
  have e8:(f.op==8)=false:=by simp[h3]
  have e9:(f.op==9)=false:=by simp[h3]
  rw[if_pos e3]at hv;have hvl:=zpr f.atom;have HV:=zxw f.atom Yp Yp;have hPl:=zef (voS f.atom) [];generalize zbl [] (voS f.atom)=V at hv HV hPl;simp only[Q4]at hPl;rw[hv,<-zko b V ys];simp only[tmD,zab]at HV;simp -implicitDefEqProofs only[go_sem,e3];refine zzo (HV) Yn ?_;simp -implicitDefEqProofs only[go_sem];refine zag (fun k:Nat=>hd [(0,.one (.ow 0 0)),(2,.one (.rn (zdh b))),(4,.one (.bx 4 0)),(7,.one (.rn (zdh V))),(8,vI k)] [(4,[.t (.int .i64 f.op),.t (.str f.atom.name),.rn (tmS f.atom.args),.t (.str f.var),.rn (fmS f.parts)])] [(0,⟨true,1,((V.take k).foldl (stepS b) ys).map fun s=>[.str s],0,true⟩)]) (fun k=>k<=V.length) (fun k=>V.length-k) 0 (zac ?_) (Kd _) ?_
  ·simp -implicitDefEqProofs only[go_sem];rfl
  ·intro k hk;by_cases hlt:k<V.length
   ·have hL:=zn4 b (V.take k) ys;rw[Qq]at hL;have hnx:=zgy (stepS b) V ys k hlt;simp -implicitDefEqProofs only[go_sem,zan,hlt];refine callF (zof b V[k]) Yn ?_;simp -implicitDefEqProofs only[go_sem];refine⟨fun h=>?_,fun h=>?_⟩
    ·simp -implicitDefEqProofs only[go_sem,zan,hlt];refine ze1 [2,4,7,8] [29,33] [] (qg3 ((V.take k).foldl (stepS b) ys) V[k] Yp) Yn Yn Yn Yn ?_;simp -implicitDefEqProofs only[go_sem];refine⟨k+1,hlt,Yp,zep 0 1088 ?_⟩;simp -implicitDefEqProofs only[go_sem];rw[zap Yp,hnx,qiq h];exact⟨rfl,rfl⟩
    ·refine⟨k+1,hlt,Yp,zac ?_⟩;simp -implicitDefEqProofs only[go_sem];rw[zap Yp,hnx,qvo h];exact⟨rfl,rfl⟩
   ·rw[Qv Yp];have hr:∃R,V.foldl (stepS b) ys=R:=⟨_,rfl⟩;obtain⟨R,hR⟩:=hr;rw[hR];simp -implicitDefEqProofs only[go_sem,hlt,e8,e9];refine zag (fun k:Nat=>hd [(0,.one (.ow 0 0)),(2,.one (.rn (zdh b))),(4,.one (.bx 4 0)),(9,vI k)] [(4,[.t (.int .i64 f.op),.t (.str f.atom.name),.rn (tmS f.atom.args),.t (.str f.var),.rn (fmS f.parts)])] [(0,⟨true,1,R.map fun s=>[.str s],0,true⟩)]) (fun k=>k=0) (fun k=>0) 0 (zac ?_) rfl ?_
    ·simp -implicitDefEqProofs only[go_sem]
    ·rintro k rfl;have hp0:f.parts.length=0:=by rw[hp];rfl
     simp -implicitDefEqProofs only[go_sem,hp0]
 ·have e3:(f.op==3)=false:=by simp[h3]
  rw[e3,if_neg (by simp)]at hv;by_cases hq8:isQ f.op=true
  ·rw[if_pos hq8]at hv;rw[hv]at hs⊢;have hb1:b.length<=4294967296:=by omega
   have hb2:b.length<=4294967295:=by omega
   have key:(f.op==8)=true\/((f.op==8)=false/\(f.op==9)=true):=by
    unfold isQ at hq8;cases h8:f.op==8
    ·rw[h8,Kt]at hq8;exact Or.inr ⟨rfl,hq8⟩
    ·exact Or.inl rfl
   rcases key with e8|⟨e8,e9⟩
   ·simp -implicitDefEqProofs only[go_sem,e3,e8];refine drawn Yo ?_;simp -implicitDefEqProofs only[go_sem];refine zb9 Yn ?_;simp -implicitDefEqProofs only[go_sem];refine zjp true (by simp -implicitDefEqProofs only[go_sem,hb1,zdc,ne_eq,Qa,Q5]) ?_;simp -implicitDefEqProofs only[go_sem,hb1,zdc,ne_eq,Qa,Q5];refine zb9 Yn ?_;simp -implicitDefEqProofs only[go_sem];refine zjp true (by simp -implicitDefEqProofs only[go_sem,hb2,ne_eq,Qa]) ?_;simp -implicitDefEqProofs only[go_sem,hb2,ne_eq,Qa];refine⟨Yo,?_⟩;refine zag (fun k:Nat=>hd [(0,.one (.ow 0 0)),(2,.one (.rn (zdh (b++[f.var])))),(4,.one (.bx 4 0)),(9,vI k)] [(4,[.t (.int .i64 f.op),.t (.str f.atom.name),.rn (tmS f.atom.args),.t (.str f.var),.rn (fmS f.parts)])] [(0,⟨true,1,(zbl ys ((f.parts.take k).map fun x=>vf x ((b++[f.var]))).flatten).map fun s=>[.str s],0,true⟩)]) (fun k=>k<=f.parts.length) (fun k=>f.parts.length-k) 0 (zac ?_) (Kd _) ?_
    ·simp -implicitDefEqProofs only[go_sem];exact⟨by simp,rfl⟩
    ·intro k hk;by_cases hlt:k<f.parts.length
     ·have hq:=zco (fun x=>vf x ((b++[f.var]))) f.parts k hlt;have hL:=zef ((f.parts.take k).map fun x=>vf x ((b++[f.var]))).flatten ys;have hnx:=zbz Fm.nodes f.parts _ (Qj hlt);have HC:=H f.parts[k] (Qj hlt) (zbl ys ((f.parts.take k).map fun x=>vf x ((b++[f.var]))).flatten) ((b++[f.var])) Yp (by simp only[Qu,Qi,Q4];omega);rw[<-zi6,<-zdk (fun x=>vf x ((b++[f.var]))) f.parts k hlt]at HC;simp only[fmD,zaa f.parts[k]]at HC;simp -implicitDefEqProofs only[go_sem,zan,hlt,zaa f.parts[k]];refine ze1 [2,4,9] [57,62,63] [] (HC) Yn Yn Yn Yn ?_;simp -implicitDefEqProofs only[go_sem];refine⟨k+1,hlt,Yp,zep 0 2048 ?_⟩;simp -implicitDefEqProofs only[go_sem];rw[zap Yp]
     ·simp -implicitDefEqProofs only[go_sem,hlt];exact Or.inl (by rw[Qv Yp])
   ·simp -implicitDefEqProofs only[go_sem,e3,e8,e9];refine drawn Yo ?_;simp -implicitDefEqProofs only[go_sem];refine zb9 Yn ?_;simp -implicitDefEqProofs only[go_sem];refine zjp true (by simp -implicitDefEqProofs only[go_sem,hb1,zdc,ne_eq,Qa,Q5]) ?_;simp -implicitDefEqProofs only[go_sem,hb1,zdc,ne_eq,Qa,Q5];refine zb9 Yn ?_;simp -implicitDefEqProofs only[go_sem];refine zjp true (by simp -implicitDefEqProofs only[go_sem,hb2,ne_eq,Qa]) ?_;simp -implicitDefEqProofs only[go_sem,hb2,ne_eq,Qa];refine⟨Yo,?_⟩;refine zag (fun k:Nat=>hd [(0,.one (.ow 0 0)),(2,.one (.rn (zdh (b++[f.var])))),(4,.one (.bx 4 0)),(9,vI k)] [(4,[.t (.int .i64 f.op),.t (.str f.atom.name),.rn (tmS f.atom.args),.t (.str f.var),.rn (fmS f.parts)])] [(0,⟨true,1,(zbl ys ((f.parts.take k).map fun x=>vf x ((b++[f.var]))).flatten).map fun s=>[.str s],0,true⟩)]) (fun k=>k<=f.parts.length) (fun k=>f.parts.length-k) 0 (zac ?_) (Kd _) ?_
    ·simp -implicitDefEqProofs only[go_sem];exact⟨by simp,rfl⟩
    ·intro k hk;by_cases hlt:k<f.parts.length
     ·have hq:=zco (fun x=>vf x ((b++[f.var]))) f.parts k hlt;have hL:=zef ((f.parts.take k).map fun x=>vf x ((b++[f.var]))).flatten ys;have hnx:=zbz Fm.nodes f.parts _ (Qj hlt);have HC:=H f.parts[k] (Qj hlt) (zbl ys ((f.parts.take k).map fun x=>vf x ((b++[f.var]))).flatten) ((b++[f.var])) Yp (by simp only[Qu,Qi,Q4];omega);rw[<-zi6,<-zdk (fun x=>vf x ((b++[f.var]))) f.parts k hlt]at HC;simp only[fmD,zaa f.parts[k]]at HC;simp -implicitDefEqProofs only[go_sem,zan,hlt,zaa f.parts[k]];refine ze1 [2,4,9] [57,62,63] [] (HC) Yn Yn Yn Yn ?_;simp -implicitDefEqProofs only[go_sem];refine⟨k+1,hlt,Yp,zep 0 2048 ?_⟩;simp -implicitDefEqProofs only[go_sem];rw[zap Yp]
     ·simp -implicitDefEqProofs only[go_sem,hlt];exact Or.inl (by rw[Qv Yp])
  ·have hq:isQ f.op=false:=by simpa using hq8
   rw[hq,if_neg (by simp)]at hv;rw[hv]at hs⊢;unfold isQ at hq;rw[Bool.or_eq_false_iff]at hq;obtain⟨e8,e9⟩:=hq;simp -implicitDefEqProofs only[go_sem,e3,e8,e9];refine zag (fun k:Nat=>hd [(0,.one (.ow 0 0)),(2,.one (.rn (zdh b))),(4,.one (.bx 4 0)),(9,vI k)] [(4,[.t (.int .i64 f.op),.t (.str f.atom.name),.rn (tmS f.atom.args),.t (.str f.var),.rn (fmS f.parts)])] [(0,⟨true,1,(zbl ys ((f.parts.take k).map fun x=>vf x (b)).flatten).map fun s=>[.str s],0,true⟩)]) (fun k=>k<=f.parts.length) (fun k=>f.parts.length-k) 0 (zac ?_) (Kd _) ?_
   ·simp -implicitDefEqProofs only[go_sem];rfl
   ·intro k hk;by_cases hlt:k<f.parts.length
    ·have hq:=zco (fun x=>vf x (b)) f.parts k hlt;have hL:=zef ((f.parts.take k).map fun x=>vf x (b)).flatten ys;have hnx:=zbz Fm.nodes f.parts _ (Qj hlt);have HC:=H f.parts[k] (Qj hlt) (zbl ys ((f.parts.take k).map fun x=>vf x (b)).flatten) (b) Yp Yp;rw[<-zi6,<-zdk (fun x=>vf x (b)) f.parts k hlt]at HC;simp only[fmD,zaa f.parts[k]]at HC;simp -implicitDefEqProofs only[go_sem,zan,hlt,zaa f.parts[k]];refine ze1 [2,4,9] [57,62,63] [] (HC) Yn Yn Yn Yn ?_;simp -implicitDefEqProofs only[go_sem];refine⟨k+1,hlt,Yp,zep 0 2048 ?_⟩;simp -implicitDefEqProofs only[go_sem];rw[zap Yp]
    ·simp -implicitDefEqProofs only[go_sem,hlt];exact Or.inl (by rw[Qv Yp])
theorem ql5:∀f:Fm,f.forms=true->f.wt<=1048576->∀ys b:List Str,ys.length+(vf f b).length<=1073741824->b.length+f.nodes<=1073741824->GC Tryz.prog 115 [(true,.one (zdh ys)),(false,fmD f),(false,.one (zdh b))] [.one (zdh (zbl ys (vf f b)))] :=
 zcn fun o a v ps ih hf hw ys b hs hb=>qey (.mk o a v ps) hf hw (fun x hx ys b hs hb=>ih x hx (by rw[Fm.forms_eq,Qe]at hf;exact Qx.1 hf.2 x hx) (Ja (zdw (a:=.mk o a v ps) hx) hw) ys b hs hb) ys b hs hb
theorem zlj (f:Fm)(hf:f.forms=true)(hw:f.wt<=1048576):FC Tryz.prog 93 [fmD f] [.one (zdh (zbl [] (vf f [])))]:=by
 have h1:=qrh f []
 have h2:=zjc f
 have HC:=ql5 f hf hw [] [] (by simp only[Q4];omega) (by simp only[Q4];omega)
 simp only[fmD,zaa]at HC⊢
 refine zfg Tryz.call93 Tryz.func93 rfl Yo (zao Yo) ?_
 simp -implicitDefEqProofs only[go_sem,Tryz.results93]
 refine za7 Yn ?_
 simp -implicitDefEqProofs only[go_sem]
 refine za7 Yn ?_
 simp -implicitDefEqProofs only[go_sem]
 refine ztk 160 rfl rfl ?_
 simp -implicitDefEqProofs only[go_sem]
 refine ze1 [] [3,4,5] [] (HC) (by simp -implicitDefEqProofs only[go_sem,zdh,Qo]) (by simp -implicitDefEqProofs only[go_sem,zdh,Qo]) (by simp -implicitDefEqProofs only[go_sem,zdh,Qo]) (by simp -implicitDefEqProofs only[go_sem,zdh,Qo]) ?_
 simp -implicitDefEqProofs only[go_sem,zdh,Qo]
end
section
open Go.RowKit
theorem qjg (s:Str):FC Tryz.prog 216 [sD s] [bD false]:=by
 refine zad Tryz.call216 Tryz.func216 rfl Yo (zao Yo) ?_
 simp -implicitDefEqProofs only[go_sem,Tryz.results216]
 simp
def cmpI (s t:Str):Int:=if Op.bytesLess s t=true then -1 else if(s==t)=true then 0 else 1
theorem qpn (s t:Str):FC Tryz.prog 203 [sD s,sD t] [iD (cmpI s t)]:=by
 have hc:cmpI s t=if Op.bytesLess s t=true then -1 else if(s==t)=true then 0 else 1:=rfl
 refine zad Tryz.call203 Tryz.func203 rfl Yo (zao Yo) ?_
 simp -implicitDefEqProofs only[go_sem,Tryz.results203]
 refine callF (qjg s) Yn ?_
 simp -implicitDefEqProofs only[go_sem]
 refine callF (qjg t) Yn ?_
 simp -implicitDefEqProofs only[go_sem]
 refine⟨fun h=>by rw[hc,if_pos h],fun h=>⟨fun h2=>?_,fun h2=>?_⟩⟩
 ·rw[h,Kt,Yk]at h2;rw[hc,h,h2];rfl
 ·rw[h,Kt,Bool.not_eq_false']at h2;rw[hc,h,h2];rfl
def bnC (p:Str×Tm):List T:=.str p.1::tmC p.2
def sbS (l:List (Str×Tm)):T:=.sl 3 (l.map bnC)
theorem zie (n:Str)(t:Tm):bnC (n,t)=[.str n,.str t.name,.sl 2 (t.args.map tmC)]:=by unfold bnC;rw[zab]
theorem qkt (n:Str)(t:Tm)(x:Str):FC Tryz.prog 202 [.agg (bnC (n,t)),sD x] [iD (cmpI n x)]:=by
 rw[zie]
 refine zad Tryz.call202 Tryz.func202 rfl Yo (zao Yo) ?_
 simp -implicitDefEqProofs only[go_sem,Tryz.results202]
 refine callF (qpn n x) Yn ?_
 simp -implicitDefEqProofs only[go_sem]
theorem zyo (n:Str)(t:Tm)(x:Str):FC Tryz.prog 201 [.one (sbS [(n,t)]),sD x,.one (.fn 202 [])] [iD (if Op.bytesLess n x=true then 1 else 0),bD (n==x)]:=by
 have H:=qkt n t x
 have hS:sbS [(n,t)]=.sl 3 [bnC (n,t)]:=rfl
 rw[hS]
 rw[zie]at H⊢
 have hc:cmpI n x=if Op.bytesLess n x=true then -1 else if(n==x)=true then 0 else 1:=rfl
 refine zad Tryz.call201 Tryz.func201 rfl Yo (zao Yo) ?_
 simp -implicitDefEqProofs only[go_sem,Tryz.results201]
 refine zag (fun p:Nat×Nat=>hd [(0,vT (.sl 3 [[.str n,.str t.name,.sl 2 (t.args.map tmC)]])),(1,vT (.str x)),(2,vT (.fn 202 [])),(8,vI (1:Nat)),(9,vI p.1),(10,vI p.2)] [] []) (fun p=>p=(0,1)\/(p=(1,1)/\Op.bytesLess n x=true)\/(p=(0,0)/\Op.bytesLess n x=false)) (fun p=>p.2-p.1) (0,1) (zac ?_) (Or.inl rfl) ?_
 ·simp -implicitDefEqProofs only[go_sem]
 ·rintro p (rfl|⟨rfl,hl⟩|⟨rfl,hl⟩)
  ·have hz:(IntKind.u64.wrap (IntKind.i64.wrap 1)).fdiv (2^min 1 64)=0:=by decide
   have hz2:IntKind.i64.wrap 0=0:=by decide
   simp -implicitDefEqProofs only[go_sem,hz,hz2];refine callF (H) Yn ?_;simp -implicitDefEqProofs only[go_sem];cases hl:Op.bytesLess n x
   ·have hi:decide (cmpI n x<0)=false:=by rw[hc,hl];cases n==x<;>rfl
    simp -implicitDefEqProofs only[go_sem,hi];refine⟨(0,0),Or.inr (Or.inr rfl),by decide,zac ?_⟩;simp -implicitDefEqProofs only[go_sem]
   ·have hi:decide (cmpI n x<0)=true:=by rw[hc,hl];rfl
    have hz3:IntKind.i64.wrap 1=1:=by decide
    simp -implicitDefEqProofs only[go_sem,hi];refine⟨(1,1),Or.inr (Or.inl rfl),by decide,zac ?_⟩;simp -implicitDefEqProofs only[go_sem,hz3]
  ·rw[if_pos hl];simp -implicitDefEqProofs only[go_sem];have:(n==x)=false:=by
    rw[Jj];rintro rfl;rw[zp9,Kb]at hl;exact zqi n hl
   rw[this]
  ·rw[hl,if_neg (by simp)];simp -implicitDefEqProofs only[go_sem];refine callF (H) Yn ?_;simp -implicitDefEqProofs only[go_sem];rw[hc,hl];cases n==x<;>rfl
theorem qbj (n:Str)(t:Tm):XC Tryz.prog 196 [(false,.agg [sbS [(n,t)]]),(false,sD n)] [(false,tmD t),(true,bD true)]:=by
 have H:=zyo n t n
 rw[show Op.bytesLess n n=false by rw[zp9,J4];exact zqi n,Qw]at H
 have hS:sbS [(n,t)]=.sl 3 [bnC (n,t)]:=rfl
 rw[hS,zie]at H⊢
 simp only[tmD,zab]
 refine XC_of Tryz.call196 Tryz.func196 rfl Yo (by simp only[Qi,Q4,Tryz.ntmps196];omega) (by simp[zcg,T.isPin]) ?_
 simp -implicitDefEqProofs only[go_sem,Tryz.results196]
 refine callF (H) Yn ?_
 simp -implicitDefEqProofs only[go_sem]
theorem qit (n:Str)(t:Tm)(x:Str)(h:(n==x)=false):XC Tryz.prog 196 [(false,.agg [sbS [(n,t)]]),(false,sD x)] [(false,tmD (.mk [] [])),(true,bD false)]:=by
 have H:=zyo n t x
 rw[h]at H
 have hS:sbS [(n,t)]=.sl 3 [bnC (n,t)]:=rfl
 rw[hS,zie]at H⊢
 simp only[tmD,zab]
 refine XC_of Tryz.call196 Tryz.func196 rfl Yo (by simp only[Qi,Q4,Tryz.ntmps196];omega) (by simp[zcg,T.isPin]) ?_
 simp -implicitDefEqProofs only[go_sem,Tryz.results196]
 refine callF (H) Yn ?_
 simp -implicitDefEqProofs only[go_sem]
 exact Or.inl ⟨rfl,rfl⟩
def zgo (n:Str)(t:Tm):Tm->Tm:=Tm.fold fun m _ rs=>if rs.length=0 then (if(n==m)=true then t else .mk m [])else .mk m rs
theorem zq3 (n:Str)(t a:Tm):zgo n t a=if a.args.length=0 then (if(n==a.name)=true then t else .mk a.name [])else .mk a.name (a.args.map (zgo n t)):=by
 unfold zgo
 rw[Tm.fold_eq]
 simp only[Qa]
theorem qo5 (n:Str)(t:Tm)(ht:t.wt<=1048576)(a:Tm)(ha:a.args.length<=1048576)(H:∀x∈a.args,FC Tryz.prog 191 [.agg [sbS [(n,t)]],tmD x] [tmD (zgo n t x)]):FC Tryz.prog 191 [.agg [sbS [(n,t)]],tmD a] [tmD (zgo n t a)]:=by
 have hv:=zq3 n t a
 have HY:=qbj n t
 have HN:=qit n t
 have HK:=zjv t ht
 have hS:sbS [(n,t)]=.sl 3 [bnC (n,t)]:=rfl
 rw[hS,zie]at HY HN H⊢
 by_cases h0:a.args.length=0
 ·rw[if_pos h0]at hv;cases hn:n==a.name
  ·have HN:=HN a.name hn;rw[hn,if_neg (by simp)]at hv;rw[hv];have HN:XC Tryz.prog 196 [(false,.agg [.sl 3 [[.str n,.str t.name,.sl 2 (t.args.map tmC)]]]),(false,sD a.name)] [(false,.agg [.str [],.sl 2 []]),(true,bD false)]:=HN;have e1:tmD (.mk a.name [])=.agg [.str a.name,.sl 2 []]:=rfl;rw[e1];simp only[tmD,zab a];refine zfg Tryz.call191 Tryz.func191 rfl Yo (zao Yo) ?_;simp -implicitDefEqProofs only[go_sem,Tryz.results191,h0];refine zzd [3,4] [15,17] [] (HN) Yn Yn Yn Yn ?_;simp -implicitDefEqProofs only[go_sem]
  ·have hn':n=a.name:=by simpa using hn
   rw[hn,if_pos rfl]at hv;rw[hv];rw[hn']at HY⊢;simp only[tmD,zab]at HY HK⊢;refine zfg Tryz.call191 Tryz.func191 rfl Yo (zao Yo) ?_;simp -implicitDefEqProofs only[go_sem,Tryz.results191,h0];refine zzd [3,4] [15,17] [] (HY) Yn Yn Yn Yn ?_;simp -implicitDefEqProofs only[go_sem];refine callF (HK) Yn ?_;simp -implicitDefEqProofs only[go_sem]
 ·have hb:((a.args.length:Int)==0)=false:=by
   rw[Jj];omega
  rw[if_neg h0]at hv;rw[hv];have e1:tmD (.mk a.name (a.args.map (zgo n t)))=.agg [.str a.name,.sl 2 (a.args.map fun x=>tmC (zgo n t x))]:=by unfold tmD;rw[zab];simp only[Tm.name,Tm.args,K2,Jw]
  rw[e1];simp only[tmD,zab a]at H⊢;refine zad Tryz.call191 Tryz.func191 rfl Yo (zao Yo) ?_;simp -implicitDefEqProofs only[go_sem,Tryz.results191,hb];refine drawn Yo ?_;simp -implicitDefEqProofs only[go_sem];refine dMakeD (by simp -implicitDefEqProofs only[go_sem];omega) ?_;simp -implicitDefEqProofs only[go_sem];refine⟨Yo,?_⟩;refine zag (fun k:Nat=>hd [(2,.one (.bx 2 0)),(4,.one (.bx 4 0)),(7,.one (.bx 7 0)),(35,vT (tmS a.args)),(36,vI a.args.length),(37,vI k)] [(2,[.t (.sl 3 [[.str n,.str t.name,.sl 2 (t.args.map tmC)]])]),(4,[.t (.str []),.nl 2]),(7,[.t (.str a.name),.ow 1024 0])] [(1024,⟨true,2,((a.args.take k).map fun x=>tmC (zgo n t x))++List.replicate (a.args.length-k) [.str [],.sl 2 []],0,true⟩)]) (fun k=>k<=a.args.length) (fun k=>a.args.length-k) 0 (zac ?_) (Kd _) ?_
  ·simp -implicitDefEqProofs only[go_sem];simp
  ·intro k hk;by_cases hlt:k<a.args.length
   ·have hlen:((a.args.take k).map (fun x=>tmC (zgo n t x))++List.replicate (a.args.length-k) [T.str [],T.sl 2 []]).length=a.args.length:=by simp;omega
    have HC:=H a.args[k] (Qj hlt);have hlt2:k<k+(a.args.length-k):=by omega
    simp only[zab a.args[k],zab (zgo n t a.args[k])]at HC;simp -implicitDefEqProofs only[go_sem,Qa,zan,hlt,zab a.args[k]];refine drawn Yo ?_;simp -implicitDefEqProofs only[go_sem];refine zav (HC) (by simp -implicitDefEqProofs only[go_sem,hlen,hlt,Qu,Qa,Qq,K6,Jq hk,hlt2]) ?_;simp -implicitDefEqProofs only[go_sem,hlen,hlt,Qu,Qa,Qq,K6,Jq hk,hlt2];refine qv3 (by simp -implicitDefEqProofs only[go_sem];simp) ?_;simp -implicitDefEqProofs only[go_sem];refine⟨Yo,k+1,hlt,Yp,zac ?_⟩;simp -implicitDefEqProofs only[go_sem];have hf:=zgu ((a.args.take k).map fun x=>tmC (zgo n t x)) a.args.length k [T.str [],T.sl 2 []] (tmC (zgo n t a.args[k])) (by simp;omega) hlt (by simp[zab]);rw[zap Yp,<-zab (zgo n t a.args[k]),hf,Qk hlt,Q2,Ko];exact⟨rfl,rfl⟩
   ·have ht:a.args.take k=a.args:=Qv Yp;simp -implicitDefEqProofs only[go_sem,hlt,ht];simp[show a.args.length-k=0 by omega]
theorem qwm (n:Str)(t:Tm)(ht:t.wt<=1048576):∀a:Tm,a.wt<=1048576->FC Tryz.prog 191 [.agg [sbS [(n,t)]],tmD a] [tmD (zgo n t a)] :=
 zb4 fun m xs ih hs=>by
  obtain⟨h1,h2⟩:=Tm.wt_args hs;exact qo5 n t ht (.mk m xs) h1 fun x hx=>ih x hx (h2 x hx)
def zi7 (n:Str):Tm->Nat:=Tm.fold fun m _ rs=>(if(m==n)=true then 1 else 0)+rs.sum
theorem zwp (n:Str)(a:Tm):zi7 n a=(if(a.name==n)=true then 1 else 0)+(a.args.map (zi7 n)).sum:=by unfold zi7;rw[Tm.fold_eq]
theorem qa5 (n:Str):∀a:Tm,zi7 n a<=a.nodes:=zb4 fun m xs ih=>by
 rw[zwp,Tm.nodes_eq]
 have:(xs.map (zi7 n)).sum<=(xs.map Tm.nodes).sum:=by
  revert ih;induction xs with
  | nil=>simp
  | cons x xs ih2 =>
   intro ih;have h1:=ih x (by simp);have h2:=ih2 fun y hy=>ih y (by simp[hy]);simp only[Qf,Jd];omega
 show(if(m==n)=true then 1 else 0)+(xs.map (zi7 n)).sum<=1+(xs.map Tm.nodes).sum
 split<;>omega
theorem zug (n:Str)(a:Tm)(ha:a.wt<=1099511627776)(H:∀x∈a.args,FC Tryz.prog 195 [tmD x,sD n] [iD (zi7 n x)]):FC Tryz.prog 195 [tmD a,sD n] [iD (zi7 n a)]:=by
 have hv:=zwp n a
 have hN:=zge a
 have hNe:=a.nodes_eq
 have hle:=qa5 n a
 simp only[tmD,zab a]
 refine zad Tryz.call195 Tryz.func195 rfl Yo (zao Yo) ?_
 simp -implicitDefEqProofs only[go_sem,Tryz.results195]
 obtain⟨z,hz⟩:∃z:Nat,(if(a.name==n)=true then 1 else 0)=z:=⟨_,rfl⟩
 rw[hz]at hv
 cases hn:a.name==n
 all_goals
  rw[hn]at hz;simp only[Ql,if_true,if_false]at hz;simp -implicitDefEqProofs only[go_sem,hn];refine zag (fun k:Nat=>hd [(1,vT (.str n)),(5,vI (z+((a.args.take k).map (zi7 n)).sum:Nat)),(13,vT (tmS a.args)),(14,vI a.args.length),(15,vI k)] [] []) (fun k=>k<=a.args.length) (fun k=>a.args.length-k) 0 (zac ?_) (Kd _) ?_
  ·simp -implicitDefEqProofs only[go_sem];subst hz;rfl
  ·intro k hk;by_cases hlt:k<a.args.length
   ·have HC:=H a.args[k] (Qj hlt);simp only[tmD,zab a.args[k]]at HC;have hsm:((a.args.take (k+1)).map (zi7 n)).sum=((a.args.take k).map (zi7 n)).sum+zi7 n a.args[k]:=by rw[Qk hlt,Q2,List.sum_append,Ko,List.sum_singleton]
    have hle2:((a.args.take (k+1)).map (zi7 n)).sum<=(a.args.map (zi7 n)).sum:=by
     have:=congrArg (fun l=>(l.map (zi7 n)).sum) (Jg (k+1) a.args);simp only[Q2,List.sum_append]at this;omega
    have hlen:a.args.length<=a.wt:=by have:=a.wt_eq;omega
    simp -implicitDefEqProofs only[go_sem,zan,hlt,zab a.args[k]];refine callF (HC) Yn ?_;simp -implicitDefEqProofs only[go_sem];refine⟨k+1,hlt,Yp,zac ?_⟩;simp -implicitDefEqProofs only[go_sem];rw[zap Yp,za6 Yp Yp,hsm];exact⟨by congr 1;omega,rfl⟩
   ·simp -implicitDefEqProofs only[go_sem,hlt];rw[hv,Qv Yp]
theorem zwv (n:Str):∀a:Tm,a.wt<=1099511627776->FC Tryz.prog 195 [tmD a,sD n] [iD (zi7 n a)] :=
 zb4 fun m xs ih hs=>zug n (.mk m xs) hs fun x hx=>ih x hx (Ja (zpy (a:=.mk m xs) hx) hs)
theorem qnn (n:Str)(a:Tm)(hs:a.wt<=1099511627776):FC Tryz.prog 189 [sD n,tmD a] [bD (decide (0<zi7 n a))]:=by
 have H:=zwv n a hs
 simp only[tmD,zab]at H⊢
 have e:decide ((0:Int)<(zi7 n a:Int))=decide (0<zi7 n a):=by rw[Kl,Kb,Kb];omega
 refine zad Tryz.call189 Tryz.func189 rfl Yo (zao Yo) ?_
 simp -implicitDefEqProofs only[go_sem,Tryz.results189]
 refine callF (H) Yn ?_
 simp -implicitDefEqProofs only[go_sem]
 rw[e]
end
section
open Go.RowKit
def eqL {α:Type}(p:α->α->Bool):List α->List α->Bool
 | [],[]=>true
 | a::xs,b::ys=>p a b&&eqL p xs ys
 | _,_=>false
theorem zvm {α:Type}{p:α->α->Bool}:∀{xs ys:List α},xs.length≠ys.length->eqL p xs ys=false
 | [],[],h=>absurd rfl h
 | [],_::_,_=>rfl
 | _::_,[],_=>rfl
 | a::xs,b::ys,h=>by simp only[eqL];rw[zvm (by simpa using h),Ki]
theorem zk8 {α:Type}{p:α->α->Bool}:∀{xs ys:List α},(∀x∈xs,∀y,p x y=same x y)->eqL p xs ys=same xs ys
 | [],[],_=>zfb.symm
 | [],_::_,_=>(zb2.2 (by simp)).symm
 | _::_,[],_=>(zb2.2 (by simp)).symm
 | a::xs,b::ys,h=>by simp only[eqL];rw[zcm,h a (by simp) b,zk8 fun x hx y=>h x (by simp[hx]) y]
set_option maxRecDepth 10000 in
theorem znd (xs ys:List Tm)(p:Tm->Tm->Bool)(g:FuncId)(caps:List T)(H:∀x∈xs,∀y∈ys,FC Tryz.prog g (tmD x::tmD y::caps.map .one) [bD (p x y)]):FC Tryz.prog 178 [.one (tmS xs),.one (tmS ys),.one (.fn g caps)] [bD (eqL p xs ys)]:=by
 refine zd1 (fun hw=>?_) Tryz.call178
 have hl:xs.length<=9223372036854775807:=by simpa[zgs,wfT]using hw.1.1
 have hl2:ys.length<=9223372036854775807:=by simpa[zgs,wfT]using hw.2.1.1
 refine zad Tryz.call178 Tryz.func178 rfl Yo (zao Yo) ?_
 simp -implicitDefEqProofs only[go_sem,Tryz.results178]
 refine⟨fun h=>?_,fun h=>?_⟩
 ·rw[zvm (by rintro e;simp[e]at h)]
 ·have hlen:xs.length=ys.length:=by simp at h;omega
  refine zag (fun k:Nat=>hd [(1,vT (tmS ys)),(2,.one (.t (.fn g caps))),(15,vT (tmS xs)),(16,vI xs.length),(17,vI k)] [] []) (fun k=>k<=xs.length/\eqL p xs ys=eqL p (xs.drop k) (ys.drop k)) (fun k=>xs.length-k) 0 (zac ?_) ?_ ?_
  ·simp -implicitDefEqProofs only[go_sem]
  ·simp
  ·intro k ⟨hk,hr⟩;by_cases hlt:k<xs.length
   ·have hk2:k<ys.length:=by omega
    simp -implicitDefEqProofs only[go_sem,Qa,zan,hlt,hk2,zab];refine callF (H xs[k] (Qj hlt) ys[k] (Qj hk2)) (by simp -implicitDefEqProofs only[go_sem,zab]) ?_;simp -implicitDefEqProofs only[go_sem,zab];rw[Qh hlt,Qh hk2,eqL]at hr;refine⟨fun h=>?_,fun h=>?_⟩
    ·rw[hr,show p xs[k] ys[k]=false by simpa using h];rfl
    ·rw[show p xs[k] ys[k]=true by simpa using h,Qs]at hr;rw[zap Yp];exact⟨k+1,⟨Yp,hr⟩,Yp,zac Yn⟩
   ·simp -implicitDefEqProofs only[go_sem,Qa,hlt];rw[hr,Qt Yp,Qt Yp];rfl
set_option maxRecDepth 10000 in
theorem zfc (xs ys:List Fm)(p:Fm->Fm->Bool)(g:FuncId)(caps:List T)(H:∀x∈xs,∀y∈ys,FC Tryz.prog g (fmD x::fmD y::caps.map .one) [bD (p x y)]):FC Tryz.prog 149 [.one (fmS xs),.one (fmS ys),.one (.fn g caps)] [bD (eqL p xs ys)]:=by
 refine zd1 (fun hw=>?_) Tryz.call149
 have hl:xs.length<=9223372036854775807:=by simpa[zgs,wfT]using hw.1.1
 have hl2:ys.length<=9223372036854775807:=by simpa[zgs,wfT]using hw.2.1.1
 refine zad Tryz.call149 Tryz.func149 rfl Yo (zao Yo) ?_
 simp -implicitDefEqProofs only[go_sem,Tryz.results149]
 refine⟨fun h=>?_,fun h=>?_⟩
 ·rw[zvm (by rintro e;simp[e]at h)]
 ·have hlen:xs.length=ys.length:=by simp at h;omega
  refine zag (fun k:Nat=>hd [(1,vT (fmS ys)),(2,.one (.t (.fn g caps))),(15,vT (fmS xs)),(16,vI xs.length),(17,vI k)] [] []) (fun k=>k<=xs.length/\eqL p xs ys=eqL p (xs.drop k) (ys.drop k)) (fun k=>xs.length-k) 0 (zac ?_) ?_ ?_
  ·simp -implicitDefEqProofs only[go_sem]
  ·simp
  ·intro k ⟨hk,hr⟩;by_cases hlt:k<xs.length
   ·have hk2:k<ys.length:=by omega
    simp -implicitDefEqProofs only[go_sem,Qa,zan,hlt,hk2,zaa,zab];refine callF (H xs[k] (Qj hlt) ys[k] (Qj hk2)) (by simp -implicitDefEqProofs only[go_sem,zaa,zab]) ?_;simp -implicitDefEqProofs only[go_sem,zaa,zab];rw[Qh hlt,Qh hk2,eqL]at hr;refine⟨fun h=>?_,fun h=>?_⟩
    ·rw[hr,show p xs[k] ys[k]=false by simpa using h];rfl
    ·rw[show p xs[k] ys[k]=true by simpa using h,Qs]at hr;rw[zap Yp];exact⟨k+1,⟨Yp,hr⟩,Yp,zac Yn⟩
   ·simp -implicitDefEqProofs only[go_sem,Qa,hlt];rw[hr,Qt Yp,Qt Yp];rfl
end
section
open Go.RowKit
theorem zl2 (a b:Tm):same a b=(same a.name b.name&&same a.args b.args):=by
 cases a;cases b
 rw[Kl]
 simp only[Qe,zbj,Tm.name,Tm.args,Tm.mk.injEq]
theorem zg1 (a b:Fm):same a b=(same a.op b.op&&same a.atom b.atom&&same a.var b.var&&same a.parts b.parts):=by
 cases a;cases b
 rw[Kl]
 simp only[Qe,zbj,Fm.op,Fm.atom,Fm.var,Fm.parts,Fm.mk.injEq,and_assoc]
theorem zcv {α:Type} [BEq α] [LawfulBEq α](a b:α):(a==b)=same a b:=by
 rw[Kl,Kk,zbj]
theorem qbp (a b:Tm)(H:FC Tryz.prog 178 [.one (tmS a.args),.one (tmS b.args),.one (.fn 148 [])] [bD (same a.args b.args)]) :
  FC Tryz.prog 148 [tmD a,tmD b] [bD (same a b)]:=by
 simp only[tmD,zab]
 refine zad Tryz.call148 Tryz.func148 rfl Yo (zao Yo) ?_
 simp -implicitDefEqProofs only[go_sem,Tryz.results148]
 refine⟨fun h=>?_,fun h=>?_⟩
 ·refine callF (H) Yn ?_;simp -implicitDefEqProofs only[go_sem];rw[zl2,<-zcv a.name,h,Qs]
 ·rw[zl2,<-zcv a.name,h];rfl
theorem ztz:∀a b:Tm,FC Tryz.prog 148 [tmD a,tmD b] [bD (same a b)] :=
 zb4 fun n xs ih b=>qbp (.mk n xs) b (by
  rw[show same (Tm.mk n xs).args b.args=eqL same (Tm.mk n xs).args b.args from(zk8 fun _ _ _=>rfl).symm]
  exact znd xs b.args same _ [] fun x hx y _=>ih x hx y)
theorem znu (a b:Fm)(H:FC Tryz.prog 149 [.one (fmS a.parts),.one (fmS b.parts),.one (.fn 123 [])] [bD (same a.parts b.parts)]) :
  FC Tryz.prog 123 [fmD a,fmD b] [bD (same a b)]:=by
 simp only[fmD,zaa]
 refine zad Tryz.call123 Tryz.func123 rfl Yo (zao Yo) ?_
 simp -implicitDefEqProofs only[go_sem,Tryz.results123]
 refine⟨fun h1=>?_,fun h1=>by rw[zg1,<-zcv a.op,h1];rfl⟩
 refine callF (ztz a.atom b.atom) (by simp -implicitDefEqProofs only[go_sem,zab]) ?_
 simp -implicitDefEqProofs only[go_sem,zab]
 refine⟨fun h2=>?_,fun h2=>by rw[zg1,<-zcv a.op,h1,h2];rfl⟩
 refine⟨fun h3=>?_,fun h3=>by rw[zg1,<-zcv a.op,h1,h2,<-zcv a.var,h3];rfl⟩
 refine callF (H) Yn ?_
 simp -implicitDefEqProofs only[go_sem]
 rw[zg1,<-zcv a.op,h1,h2,<-zcv a.var,h3];rfl
theorem zbm:∀a b:Fm,FC Tryz.prog 123 [fmD a,fmD b] [bD (same a b)] :=
 zcn fun o t v ps ih b=>znu (.mk o t v ps) b (by
  rw[show same (Fm.mk o t v ps).parts b.parts=eqL same (Fm.mk o t v ps).parts b.parts from(zk8 fun _ _ _=>rfl).symm]
  exact zfc ps b.parts same _ [] fun x hx y _=>ih x hx y)
theorem qg7 (a b:Tm)(H:∀x∈a.args,∀y,FC Tryz.prog 107 [tmD x,tmD y] [bD (same x y)]):FC Tryz.prog 107 [tmD a,tmD b] [bD (same a b)]:=by
 refine zd1 (fun hw=>?_) Tryz.call107
 simp only[tmD,zab]at hw⊢
 have hl:a.args.length<=9223372036854775807:=by simp[zgs,wfT,zsa]at hw;exact hw.1.2.1
 refine zad Tryz.call107 Tryz.func107 rfl Yo (zao Yo) ?_
 simp -implicitDefEqProofs only[go_sem,Tryz.results107]
 refine⟨fun h1=>?_,fun h1=>by rw[zl2,<-zcv a.name,show(a.name==b.name)=false by simpa using h1];rfl⟩
 have h1':same a.name b.name=true:=by rw[<-zcv];simpa using h1
 refine⟨fun h2=>?_,fun h2=>?_⟩
 ·rw[zl2,h1',Qs,zb2.2 (by rintro e;simp[e]at h2)]
 have hlen:a.args.length=b.args.length:=by simp at h2;omega
 have hs:same a b=same a.args b.args:=by rw[zl2,h1',Qs]
 refine zag (fun k:Nat=>hd [(2,.one (.bx 2 0)),(3,.one (.bx 3 0)),(4,vB false),(5,vI k)] [(2,[.t (.str a.name),.t (tmS a.args)]),(3,[.t (.str b.name),.t (tmS b.args)])] []) (fun k=>k<=a.args.length/\same a.args b.args=same (a.args.drop k) (b.args.drop k)) (fun k=>a.args.length-k) 0 (zac ?_) ?_ ?_
 ·simp -implicitDefEqProofs only[go_sem]
 ·simp
 ·intro k ⟨hk,hr⟩;by_cases hlt:k<a.args.length
  ·have hk2:k<b.args.length:=by omega
   simp -implicitDefEqProofs only[go_sem,hlt];refine drawn Yo ?_;simp -implicitDefEqProofs only[go_sem,zan,hlt,hk2,zab];refine zav (H a.args[k] (Qj hlt) b.args[k]) (by simp -implicitDefEqProofs only[go_sem,zab]) ?_;simp -implicitDefEqProofs only[go_sem,zab];rw[Qh hlt,Qh hk2,zcm]at hr;refine⟨Yo,fun h=>?_,fun h=>?_⟩
   ·rw[hs,hr,show same a.args[k] b.args[k]=false by simpa using h];rfl
   ·rw[show same a.args[k] b.args[k]=true by simpa using h,Qs]at hr;rw[zap Yp];exact⟨k+1,⟨Yp,hr⟩,Yp,zac Yn⟩
  ·simp -implicitDefEqProofs only[go_sem,hlt];rw[hs,hr,Qt Yp,Qt Yp,zfb]
theorem zyz:∀a b:Tm,FC Tryz.prog 107 [tmD a,tmD b] [bD (same a b)]:=zb4 fun n xs ih b=>qg7 (.mk n xs) b ih
theorem qkn (a b:Fm)(H:∀x∈a.parts,∀y,FC Tryz.prog 109 [fmD x,fmD y] [bD (same x y)]):FC Tryz.prog 109 [fmD a,fmD b] [bD (same a b)]:=by
 refine zd1 (fun hw=>?_) Tryz.call109
 simp only[fmD,zaa]at hw⊢
 have hl:a.parts.length<=9223372036854775807:=by simp[zgs,wfT,zsa]at hw;exact hw.1.2.2.2.2.1
 refine zad Tryz.call109 Tryz.func109 rfl Yo (zao Yo) ?_
 simp -implicitDefEqProofs only[go_sem,Tryz.results109]
 refine⟨fun h1=>?_,fun h1=>by rw[zg1,<-zcv a.op,show(a.op==b.op)=false by simpa using h1];rfl⟩
 have h1':same a.op b.op=true:=by rw[<-zcv];simpa using h1
 refine⟨fun h2=>?_,fun h2=>by rw[zg1,h1',<-zcv a.var,show(a.var==b.var)=false by simpa using h2];simp⟩
 have h2':same a.var b.var=true:=by rw[<-zcv];simpa using h2
 refine callF (zyz a.atom b.atom) (by simp -implicitDefEqProofs only[go_sem,zab]) ?_
 simp -implicitDefEqProofs only[go_sem,zab]
 refine⟨fun h3=>?_,fun h3=>by rw[zg1,h1',show same a.atom b.atom=false by simpa using h3];rfl⟩
 have h3':same a.atom b.atom=true:=by simpa using h3
 have hs:same a b=same a.parts b.parts:=by rw[zg1,h1',h2',h3'];rfl
 refine⟨fun h4=>?_,fun h4=>?_⟩
 ·rw[hs,zb2.2 (by rintro e;simp[e]at h4)]
 have hlen:a.parts.length=b.parts.length:=by simp at h4;omega
 refine zag (fun k:Nat=>hd [(2,.one (.bx 2 0)),(3,.one (.bx 3 0)),(4,vB false),(5,vI k)] [(2,[.t (.int .i64 a.op),.t (.str a.atom.name),.t (tmS a.atom.args),.t (.str a.var),.t (fmS a.parts)]),(3,[.t (.int .i64 b.op),.t (.str b.atom.name),.t (tmS b.atom.args),.t (.str b.var),.t (fmS b.parts)])] []) (fun k=>k<=a.parts.length/\same a.parts b.parts=same (a.parts.drop k) (b.parts.drop k)) (fun k=>a.parts.length-k) 0 (zac ?_) ?_ ?_
 ·simp -implicitDefEqProofs only[go_sem]
 ·simp
 ·intro k ⟨hk,hr⟩;by_cases hlt:k<a.parts.length
  ·have hk2:k<b.parts.length:=by omega
   simp -implicitDefEqProofs only[go_sem,hlt];refine drawn Yo ?_;simp -implicitDefEqProofs only[go_sem,zan,hlt,hk2,zaa];refine zav (H a.parts[k] (Qj hlt) b.parts[k]) (by simp -implicitDefEqProofs only[go_sem,zaa]) ?_;simp -implicitDefEqProofs only[go_sem,zaa];rw[Qh hlt,Qh hk2,zcm]at hr;refine⟨Yo,fun h=>?_,fun h=>?_⟩
   ·rw[hs,hr,show same a.parts[k] b.parts[k]=false by simpa using h];rfl
   ·rw[show same a.parts[k] b.parts[k]=true by simpa using h,Qs]at hr;rw[zap Yp];exact⟨k+1,⟨Yp,hr⟩,Yp,zac Yn⟩
  ·simp -implicitDefEqProofs only[go_sem,hlt];rw[hs,hr,Qt Yp,Qt Yp,zfb]
theorem zcu:∀a b:Fm,FC Tryz.prog 109 [fmD a,fmD b] [bD (same a b)]:=zcn fun o t v ps ih b=>qkn (.mk o t v ps) b ih
end
section
open Go.RowKit
def mkF (op:Int)(ps:List Fm):Fm:=.mk op (.mk [] []) [] ps
theorem zjf (op:Int)(ps:List Fm):fmC (mkF op ps)=[.int .i64 op,.str [],.sl 2 [],.str [],.sl 5 (ps.map fmC)]:=zaa _
end
section
open Go.RowKit
def zd2 (n:Str)(t:Tm):Fm->Fm×Bool:=Fm.fold fun o a v ps rs =>
 if(isQ o&&(v==n||!((zbl [] (vf (.mk o a v ps) [])).contains n)))=true then (.mk o a v ps,true)
 else if(isQ o&&decide (0<zi7 v t))=true then (mkF 0 [],false)
 else (.mk o (if(o==3)=true then zgo n t a else a) v (rs.map Prod.fst),rs.all Prod.snd)
theorem zw6 (n:Str)(t:Tm)(f:Fm):zd2 n t f=if(isQ f.op&&(f.var==n||!((zbl [] (vf f [])).contains n)))=true then (f,true)
  else if(isQ f.op&&decide (0<zi7 f.var t))=true then (mkF 0 [],false)
  else (.mk f.op (if(f.op==3)=true then zgo n t f.atom else f.atom) f.var (f.parts.map fun x=>(zd2 n t x).1),f.parts.all fun x=>(zd2 n t x).2):=by
 cases f with
 | mk o a v ps =>
  conv=>lhs;unfold zd2;rw[Fm.fold_eq]
  simp only[K2,List.all_map];rfl
abbrev subX (n:Str)(t:Tm)(b:Bool):Bxs:=[[(false,.str n)],[(false,.str t.name),(false,.sl 2 (t.args.map tmC))],[(true,.bool b)]]
theorem qu4 (n:Str)(t:Tm)(f:Fm)(r:Fm)(ok b:Bool)(H:FC Tryz.prog 176 [fmD f,sD n,tmD t] [fmD r,bD ok]) :
  PC Tryz.prog 190 (subX n t b) [.d false (fmD f),.p 0,.p 1,.p 2] (subX n t (b&&ok)) [(true,fmD r)]:=by
 simp only[fmD,zaa,tmD,zab t]at H⊢
 refine PC_of Tryz.call190 Tryz.func190 rfl Yo (by simp only[Qi,Q4,Tryz.ntmps190];omega) (by simp only[Tryz.ntmps190];omega) rfl rfl (by simp[zcg,T.isPin,AF.ds,bxA]) (by simp[gFS,T.fs,T.flat,AF.ds,bxA]) rfl ?_
 simp -implicitDefEqProofs only[go_sem,Tryz.results190]
 refine callF (H) Yn ?_
 simp -implicitDefEqProofs only[go_sem]
 exact⟨fun h=>Or.inl (by rw[h];rfl),fun h=>Or.inl (by rw[h];rfl)⟩
theorem zsf (n:Str)(t:Tm)(a:Fm)(g:FuncId)(φ:Fm->Fm)(ψ:Fm->Bool)(b:Bool)(H:∀x∈a.parts,∀b,PC Tryz.prog g (subX n t b) [.d false (fmD x),.p 0,.p 1,.p 2] (subX n t (b&&ψ x)) [(true,fmD (φ x))])(h0:a.atom.wt<=1048576)(hs:a.parts.length<=1048576) :
  PC Tryz.prog 98 (subX n t b) [.d false (fmD a),.fn g [0,1,2]] (subX n t (b&&a.parts.all ψ)) [(true,fmD (.mk a.op a.atom a.var (a.parts.map φ)))]:=by
 simp only[fmD,zaa a,ze2]
 refine PC_of Tryz.call98 Tryz.func98 rfl Yo (by simp only[Qi,Q4,Tryz.ntmps98];omega) (by simp only[Tryz.ntmps98];omega) rfl rfl (by simp[zcg,T.isPin,AF.ds,bxA]) (by simp[gFS,T.fs,T.flat,AF.ds,bxA]) rfl ?_
 simp -implicitDefEqProofs only[go_sem,Tryz.results98]
 refine drawn Yo ?_
 simp -implicitDefEqProofs only[go_sem]
 refine zav (zjv a.atom h0) (by simp -implicitDefEqProofs only[go_sem,zab]) ?_
 simp -implicitDefEqProofs only[go_sem,zab]
 refine⟨Yo,?_⟩
 refine zag (fun k:Nat=>hd [(1,.one (.fn g [1000000,1000001,1000002])),(4,.one (.bx 4 0)),(5,.one (.bx 5 0)),(17,.one (.rn (fmS a.parts))),(18,vI a.parts.length),(19,vI k),(1000000,.one (.bx 1000000 0)),(1000001,.one (.bx 1000001 0)),(1000002,.one (.bx 1000002 0))] [(4,[.t (.int .i64 0),.t (.str []),.nl 2,.t (.str []),.nl 5]),(5,[.t (.int .i64 a.op),.t (.str a.atom.name),.ow 385 0,.t (.str a.var),.ow 3000 0]),(1000000,[.t (.str n)]),(1000001,[.t (.str t.name),.rn (.sl 2 (t.args.map tmC))]),(1000002,[.t (.bool (b&&(a.parts.take k).all ψ))])]
  [(385,⟨true,2,a.atom.args.map tmC,0,true⟩),(3000,⟨true,5,(a.parts.take k).map fun x=>fmC (φ x),0,true⟩)]) (fun k=>k<=a.parts.length) (fun k=>a.parts.length-k) 0 (zac ?_) ?_ ?_
 ·simp -implicitDefEqProofs only[go_sem]
 ·simp
 ·intro k hk;by_cases hlt:k<a.parts.length
  ·have hmin:min k a.parts.length<=4294967295:=by omega
   have HC:=H a.parts[k] (Qj hlt) (b&&(a.parts.take k).all ψ);have hsuc:(a.parts.take (k+1)).all ψ=((a.parts.take k).all ψ&&ψ a.parts[k]):=by rw[Qk hlt,List.all_append];simp
   simp only[fmD,zaa a.parts[k],zaa (φ a.parts[k])]at HC;simp -implicitDefEqProofs only[go_sem,zan,hlt,zaa a.parts[k]];refine drawn Yo ?_;simp -implicitDefEqProofs only[go_sem];refine dCallQ [1000000,1000001,1000002] (HC) (by decide) Yn Yn ?_;simp -implicitDefEqProofs only[go_sem];refine zb9 Yn ?_;simp -implicitDefEqProofs only[go_sem];refine zjp true (by simp -implicitDefEqProofs only[go_sem,ne_eq,Qa,Qq,hmin]) ?_;simp -implicitDefEqProofs only[go_sem,ne_eq,Qa,Qq,hmin];refine⟨Yo,k+1,hlt,Yp,zac ?_⟩;simp -implicitDefEqProofs only[go_sem];rw[zap Yp,Qk hlt,Q2,Ko];simp only[zaa];rw[<-Qk hlt,hsuc,Bool.and_assoc];exact⟨trivial,rfl,trivial⟩
  ·have ht:a.parts.take k=a.parts:=Qv Yp;simp -implicitDefEqProofs only[go_sem,hlt,ht];exact Or.inl (Or.inl rfl)
theorem znk (n:Str)(t:Tm)(ht:t.wt<=1048576)(f:Fm)(hf:f.forms=true)(hw:f.wt<=1048576)(H:∀x∈f.parts,FC Tryz.prog 176 [fmD x,sD n,tmD t] [fmD (zd2 n t x).1,bD (zd2 n t x).2]) :
  FC Tryz.prog 176 [fmD f,sD n,tmD t] [fmD (zd2 n t f).1,bD (zd2 n t f).2]:=by
 have hv:=zw6 n t f
 have HF:=qre f hf hw
 have HO:=qnn f.var t Yp
 have HP:=zsf n t f 190 (fun x=>(zd2 n t x).1) (fun x=>(zd2 n t x).2) true (fun x hx b=>qu4 n t x _ _ b (H x hx)) (by have:=zj9 f;omega) (by have:=f.wt_eq;omega)
 rw[Qs]at HP
 have HC:=zf1 f hw
 generalize zbl [] (vf f [])=V at hv HF
 simp only[fmD,zaa f,tmD,zab t,ze2]at HF HO HC HP⊢
 refine zfg Tryz.call176 Tryz.func176 rfl Yo (zao Yo) ?_
 simp -implicitDefEqProofs only[go_sem,Tryz.results176]
 cases hq:isQ f.op
 ·rw[hq,Q1,Q1,if_neg (by simp),if_neg (by simp)]at hv;have HI:=zau f.op;rw[hq]at HI;refine drawn Yo ?_;simp -implicitDefEqProofs only[go_sem];refine zav (HI) Yn ?_;simp -implicitDefEqProofs only[go_sem];refine⟨Yo,?_⟩;refine callF (HI) Yn ?_;simp -implicitDefEqProofs only[go_sem];have HA:=qwm n t ht f.atom (by have:=zj9 f;omega);have hS:sbS [(n,t)]=.sl 3 [[.str n,.str t.name,.sl 2 (t.args.map tmC)]]:=by unfold sbS;rw[Ko,zie]
  rw[hS]at HA;simp only[tmD,zab f.atom,zab (zgo n t f.atom)]at HA;cases h3:f.op==3
  ·rw[h3,if_neg (by simp)]at hv;rw[hv];simp only[fmD,ze2];refine callQ [4,5,8] (HP) (by decide) (by simp -implicitDefEqProofs only[go_sem,h3]) (by simp -implicitDefEqProofs only[go_sem,h3]) ?_;simp -implicitDefEqProofs only[go_sem,h3];refine drawn Yo ?_;simp -implicitDefEqProofs only[go_sem];kernel_rfl
  ·rw[h3,if_pos rfl]at hv;rw[hv];simp only[fmD,ze2];refine callQ [4,5,8] (HP) (by decide) (by simp -implicitDefEqProofs only[go_sem,h3]) (by simp -implicitDefEqProofs only[go_sem,h3]) ?_;simp -implicitDefEqProofs only[go_sem,h3];refine zcc Yn ?_;simp -implicitDefEqProofs only[go_sem];refine callF (HA) Yn ?_;simp -implicitDefEqProofs only[go_sem];refine drawn Yo ?_;simp -implicitDefEqProofs only[go_sem];kernel_rfl
 ·have HI:=zau f.op;rw[hq]at HI;rw[hq,Qs,Qs]at hv;cases hvn:f.var==n
  ·rw[hvn,Kt]at hv;have HCt:=zc1 V n;refine drawn Yo ?_;simp -implicitDefEqProofs only[go_sem];refine zav (HI) (by simp -implicitDefEqProofs only[go_sem,hvn]) ?_;simp -implicitDefEqProofs only[go_sem,hvn];cases hcn:V.contains n
   ·rw[hcn,if_pos (by simp)]at hv;rw[hcn]at HCt;rw[hv];simp only[fmD,zaa f];refine zaz (HF) Yn ?_;simp -implicitDefEqProofs only[go_sem];refine zaz (HCt) Yn ?_;simp -implicitDefEqProofs only[go_sem];refine⟨Yo,?_⟩;refine callF (HC) Yn ?_;simp -implicitDefEqProofs only[go_sem]
   ·rw[hcn,if_neg (by simp)]at hv;rw[hcn]at HCt;refine zaz (HF) Yn ?_;simp -implicitDefEqProofs only[go_sem];refine zaz (HCt) Yn ?_;simp -implicitDefEqProofs only[go_sem];refine⟨Yo,?_⟩;refine callF (HI) Yn ?_;simp -implicitDefEqProofs only[go_sem];have h3:(f.op==3)=false:=by
     rw[Jj];intro e;rw[e]at hq;exact absurd hq (by decide)
    cases ho:decide (0<zi7 f.var t)
    ·rw[ho,if_neg (by simp),h3,if_neg (by simp)]at hv;rw[ho]at HO;rw[hv];simp only[fmD,ze2];refine callF (HO) Yn ?_;simp -implicitDefEqProofs only[go_sem];refine callQ [4,5,8] (HP) (by decide) (by simp -implicitDefEqProofs only[go_sem,h3]) (by simp -implicitDefEqProofs only[go_sem,h3]) ?_;simp -implicitDefEqProofs only[go_sem,h3];refine drawn Yo ?_;simp -implicitDefEqProofs only[go_sem];kernel_rfl
    ·rw[ho,if_pos rfl]at hv;rw[ho]at HO;rw[hv];simp only[fmD,zjf,Qo];refine callF (HO) Yn ?_;simp -implicitDefEqProofs only[go_sem]
  ·rw[hvn,J1,if_pos rfl]at hv;refine drawn Yo ?_;simp -implicitDefEqProofs only[go_sem];rw[hv];simp only[fmD,zaa f];refine zav (HI) (by simp -implicitDefEqProofs only[go_sem,hvn]) ?_;simp -implicitDefEqProofs only[go_sem,hvn];refine⟨Yo,?_⟩;refine callF (HC) Yn ?_;simp -implicitDefEqProofs only[go_sem]
theorem zqc (n:Str)(t:Tm)(ht:t.wt<=1048576):∀f:Fm,f.forms=true->f.wt<=1048576->FC Tryz.prog 176 [fmD f,sD n,tmD t] [fmD (zd2 n t f).1,bD (zd2 n t f).2] :=
 zcn fun o a v ps ih hf hw=>znk n t ht (.mk o a v ps) hf hw fun x hx=>ih x hx (by rw[Fm.forms_eq,Qe]at hf;exact Qx.1 hf.2 x hx) (Ja (zdw (a:=.mk o a v ps) hx) hw)
end
section
open Go.RowKit
theorem qbf (n:Str)(t:Tm)(x:Str):FC Tryz.prog 184 [.agg [sbS [(n,t)]],sD x] [iD (if(n==x)=true then 0 else -1)]:=by
 have hS:sbS [(n,t)]=.sl 3 [[.str n,.str t.name,.sl 2 (t.args.map tmC)]]:=by unfold sbS;rw[Ko,zie]
 rw[hS]
 refine zad Tryz.call184 Tryz.func184 rfl Yo (zao Yo) ?_
 simp -implicitDefEqProofs only[go_sem,Tryz.results184]
 refine zag (fun k:Nat=>hd [(1,vT (.str x)),(2,.one (.bx 2 0)),(5,vI k)] [(2,[.t (.sl 3 [[.str n,.str t.name,.sl 2 (t.args.map tmC)]])])] []) (fun k=>k=0\/(k=1/\(n==x)=false)) (fun k=>1-k) 0 (zac ?_) (Or.inl rfl) ?_
 ·simp -implicitDefEqProofs only[go_sem]
 ·rintro k (rfl|⟨rfl,hn⟩)
  ·cases hn:n==x
   ·simp -implicitDefEqProofs only[go_sem,hn];refine⟨1,Or.inr rfl,by decide,zac ?_⟩;have hz:IntKind.i64.wrap 1=1:=by decide
    simp -implicitDefEqProofs only[go_sem,hz]
   ·simp -implicitDefEqProofs only[go_sem,hn]
  ·simp -implicitDefEqProofs only[go_sem,hn]
theorem qgp (n:Str)(t:Tm)(ht:t.wt<=1048576)(hn:(t.name==n)=false):FC Tryz.prog 160 [.agg [sbS []],sD n,tmD t] [.agg [sbS [(n,t)]]]:=by
 have hS:sbS [(n,t)]=.sl 3 [[.str n,.str t.name,.sl 2 (t.args.map tmC)]]:=by unfold sbS;rw[Ko,zie]
 have hS0:sbS []=.sl 3 []:=rfl
 have HK:=zvl t ht
 rw[hS,hS0]
 simp only[tmD,zab t]at HK⊢
 refine zfg Tryz.call160 Tryz.func160 rfl Yo (zao Yo) ?_
 simp -implicitDefEqProofs only[go_sem,Tryz.results160,hn]
 refine zag (fun k:Nat=>hd [(1,vT (.str n)),(3,.one (.bx 3 0)),(5,.one (.bx 5 0)),(6,.one (.bx 6 0)),(7,vI (0:Nat))] [(3,[.rn (.sl 3 [])]),(5,[.t (.str t.name),.rn (.sl 2 (t.args.map tmC))]),(6,[.nl 3])] []) (fun k=>k=0) (fun k=>0) 0 (zac ?_) rfl ?_
 ·simp -implicitDefEqProofs only[go_sem]
 ·rintro k rfl;simp -implicitDefEqProofs only[go_sem];refine za7 Yn ?_;simp -implicitDefEqProofs only[go_sem];refine apD true (by simp -implicitDefEqProofs only[go_sem,ne_eq]) ?_;simp -implicitDefEqProofs only[go_sem,ne_eq];refine callF (HK) Yn ?_;simp -implicitDefEqProofs only[go_sem];refine za7 Yn ?_;simp -implicitDefEqProofs only[go_sem];refine apD true (by simp -implicitDefEqProofs only[go_sem,ne_eq]) ?_;simp -implicitDefEqProofs only[go_sem,ne_eq];refine apD true (by simp -implicitDefEqProofs only[go_sem,ne_eq]) ?_;simp -implicitDefEqProofs only[go_sem,ne_eq]
theorem qao (n:Str)(t:Tm)(hn:(t.name==n)=true):RC Tryz.prog 160 [.agg [sbS []],sD n,tmD t] [.agg [sbS []]]:=by
 have hS0:sbS []=.sl 3 []:=rfl
 rw[hS0]
 simp only[tmD,zab t]
 refine RC_of Tryz.call160 Tryz.func160 rfl Yo (zao Yo) ?_
 simp -implicitDefEqProofs only[go_sem,Tryz.results160,hn]
def zfn (l:List (Str×Tm)):Tm->Tm:=Tm.fold fun m _ rs=>if zbd m=true then (match l.find? fun p=>p.1==m with|some p=>p.2|none=>.mk m [])else .mk m rs
theorem zrb (l:List (Str×Tm))(a:Tm):zfn l a=if zbd a.name=true then (match l.find? fun p=>p.1==a.name with|some p=>p.2|none=>.mk a.name [])else .mk a.name (a.args.map (zfn l)):=by unfold zfn;rw[Tm.fold_eq]
theorem zvz (x:Str):FC Tryz.prog 184 [.agg [sbS []],sD x] [iD (-1)]:=by
 have hS:sbS []=.sl 3 []:=rfl
 rw[hS]
 refine zad Tryz.call184 Tryz.func184 rfl Yo (zao Yo) ?_
 simp -implicitDefEqProofs only[go_sem,Tryz.results184]
 refine zag (fun k:Nat=>hd [(1,vT (.str x)),(2,.one (.bx 2 0)),(5,vI (0:Nat))] [(2,[.t (.sl 3 [])])] []) (fun k=>k=0) (fun k=>0) 0 (zac ?_) rfl ?_
 ·simp -implicitDefEqProofs only[go_sem]
 ·rintro k rfl;simp -implicitDefEqProofs only[go_sem]
theorem qa0 (l:List (Str×Tm))(hl:l.length<=1)(hw:∀p∈l,p.2.wt<=1048576)(a:Tm)(ha:a.args.length<=1048576)(H:∀x∈a.args,FC Tryz.prog 159 [.agg [sbS l],tmD x] [tmD (zfn l x)]):FC Tryz.prog 159 [.agg [sbS l],tmD a] [tmD (zfn l a)]:=by
 have hv:=zrb l a
 have HV:=zh0 a.name
 cases hva:zbd a.name
 ·rw[hva,if_neg (by simp)]at hv;rw[hva]at HV;rw[hv];have e1:tmD (.mk a.name (a.args.map (zfn l)))=.agg [.str a.name,.sl 2 (a.args.map fun x=>tmC (zfn l x))]:=by unfold tmD;rw[zab];simp only[Tm.name,Tm.args,K2,Jw]
  rw[e1];simp only[tmD,zab a]at H⊢;unfold sbS at H⊢;generalize l.map bnC=L at H⊢;refine zad Tryz.call159 Tryz.func159 rfl Yo (zao Yo) ?_;simp -implicitDefEqProofs only[go_sem,Tryz.results159];refine callF (HV) Yn ?_;simp -implicitDefEqProofs only[go_sem];refine zag (fun k:Nat=>hd [(2,.one (.bx 2 0)),(3,.one (.bx 3 0)),(4,.one (.bx 4 0)),(6,.one (.bx 6 0)),(7,vI k)] [(2,[.t (.sl 3 L)]),(3,[.t (.str a.name),.t (tmS a.args)]),(4,[.t (.str []),.nl 2]),(6,[.t (.str a.name),.ow 3000 0])] [(3000,⟨true,2,(a.args.take k).map fun x=>tmC (zfn l x),0,true⟩)]) (fun k=>k<=a.args.length) (fun k=>a.args.length-k) 0 (zac ?_) (Kd _) ?_
  ·simp -implicitDefEqProofs only[go_sem]
  ·intro k hk;by_cases hlt:k<a.args.length
   ·have HC:=H a.args[k] (Qj hlt);have hmin:min k a.args.length<=4294967295:=by omega
    simp only[zab a.args[k],zab (zfn l a.args[k])]at HC;simp -implicitDefEqProofs only[go_sem,hlt];refine drawn Yo ?_;simp -implicitDefEqProofs only[go_sem,zan,hlt,zab a.args[k]];refine zav (HC) Yn ?_;simp -implicitDefEqProofs only[go_sem];refine zb9 Yn ?_;simp -implicitDefEqProofs only[go_sem];refine zjp true (by simp -implicitDefEqProofs only[go_sem,ne_eq,Qa,Qq,hmin]) ?_;simp -implicitDefEqProofs only[go_sem,ne_eq,Qa,Qq,hmin];refine⟨Yo,k+1,hlt,Yp,zac ?_⟩;simp -implicitDefEqProofs only[go_sem];rw[zap Yp,Qk hlt,Q2,Ko];simp only[zab]
    trivial
   ·have ht:a.args.take k=a.args:=Qv Yp;simp -implicitDefEqProofs only[go_sem,hlt,ht]
 ·rw[hva,if_pos rfl]at hv;rw[hva]at HV;rw[hv]
  match l,hl with
  | [],_ =>
   have HN:=zvz a.name;simp only[List.find?_nil];have e1:tmD (.mk a.name [])=.agg [.str a.name,.sl 2 []]:=rfl;have hS:sbS []=.sl 3 []:=rfl;rw[hS]at HN⊢;rw[e1];simp only[tmD,zab a];refine zad Tryz.call159 Tryz.func159 rfl Yo (zao Yo) ?_;simp -implicitDefEqProofs only[go_sem,Tryz.results159];refine callF (HV) Yn ?_;simp -implicitDefEqProofs only[go_sem];refine callF (HN) Yn ?_;simp -implicitDefEqProofs only[go_sem]
  | [(n,t)],_ =>
   have HO:=qbf n t a.name;have HK:=zvl t (hw (n,t) (by simp));have hS:sbS [(n,t)]=.sl 3 [[.str n,.str t.name,.sl 2 (t.args.map tmC)]]:=by unfold sbS;rw[Ko,zie]
   rw[hS]at HO⊢;cases hn:n==a.name
   ·rw[hn]at HO;simp only[List.find?_cons,hn,List.find?_nil];have e1:tmD (.mk a.name [])=.agg [.str a.name,.sl 2 []]:=rfl;rw[e1];simp only[tmD,zab a];refine zad Tryz.call159 Tryz.func159 rfl Yo (zao Yo) ?_;simp -implicitDefEqProofs only[go_sem,Tryz.results159];refine callF (HV) Yn ?_;simp -implicitDefEqProofs only[go_sem];refine callF (HO) Yn ?_;simp -implicitDefEqProofs only[go_sem]
   ·rw[hn]at HO;simp only[List.find?_cons,hn];simp only[tmD,zab a,zab t]at HK⊢;refine zad Tryz.call159 Tryz.func159 rfl Yo (zao Yo) ?_;simp -implicitDefEqProofs only[go_sem,Tryz.results159];refine callF (HV) Yn ?_;simp -implicitDefEqProofs only[go_sem];refine callF (HO) Yn ?_;simp -implicitDefEqProofs only[go_sem];refine callF (HK) Yn ?_;simp -implicitDefEqProofs only[go_sem]
theorem qjq (l:List (Str×Tm))(hl:l.length<=1)(hw:∀p∈l,p.2.wt<=1048576):∀a:Tm,a.wt<=1048576->FC Tryz.prog 159 [.agg [sbS l],tmD a] [tmD (zfn l a)] :=
 zb4 fun m xs ih hs=>by
  obtain⟨h1,h2⟩:=Tm.wt_args hs;exact qa0 l hl hw (.mk m xs) h1 fun x hx=>ih x hx (h2 x hx)
end
section
open Go.RowKit
def bnd (n:Str)(t:Tm):List (Str×Tm):=if(t.name==n)=true then []else [(n,t)]
def zrm (ps:List Fm):List Str:=match ps with
 | p::_=>zbl [] (vf p [])
 | []=>[]
def zbx (n:Str)(t:Tm):Fm->Fm×Bool:=Fm.fold fun o a v ps rs =>
 if(o==3)=true then (.mk o (zfn (bnd n t) a) v [],(zfn (bnd n t) a).atomOk)
 else if(isQ o&&(v==n||!((zrm ps).contains n)))=true then (.mk o a v ps,true)
 else if(isQ o&&(zbl [] (voS t)).contains v)=true then (.mk o (.mk [] []) v [],false)
 else (.mk o (.mk [] []) v ((rs.takeWhile Prod.snd).map Prod.fst),rs.all Prod.snd)
theorem qsn {α β:Type}(p:β->Bool)(f:α->β):∀xs:List α,(xs.map f).takeWhile p=(xs.takeWhile fun x=>p (f x)).map f
 | []=>rfl
 | x::xs=>by
  simp only[Qf,List.takeWhile_cons];cases p (f x)
  ·rfl
  ·simp only[if_true,Qf,qsn p f xs]
theorem zpe (n:Str)(t:Tm)(f:Fm):zbx n t f=if(f.op==3)=true then (.mk f.op (zfn (bnd n t) f.atom) f.var [],(zfn (bnd n t) f.atom).atomOk)
  else if(isQ f.op&&(f.var==n||!((zrm f.parts).contains n)))=true then (f,true)
  else if(isQ f.op&&(zbl [] (voS t)).contains f.var)=true then (.mk f.op (.mk [] []) f.var [],false)
  else (.mk f.op (.mk [] []) f.var ((f.parts.takeWhile fun x=>(zbx n t x).2).map fun x=>(zbx n t x).1),f.parts.all fun x=>(zbx n t x).2):=by
 cases f with
 | mk o a v ps =>
  conv=>lhs;unfold zbx;rw[Fm.fold_eq]
  simp only[qsn,K2,List.all_map];rfl
theorem qk3 {f:Fm}(h:isQ f.op=true)(hf:f.forms=true):∃p,f.parts=[p]/\p.forms=true:=by
 rw[Fm.forms_eq,Qe]at hf
 have h1:=hf.1
 unfold Fm.here at h1
 have h2:(f.op==1||f.op==2)=false/\(f.op==3)=false/\(f.op==4)=false/\zky f.op=false:=by
  have h8:f.op=8\/f.op=9:=by unfold isQ at h;rw[K5,Kk,Kk]at h;exact h
  rcases h8 with e|e<;>rw[e]<;>decide
 rw[h2.1,h2.2.1,h2.2.2.1,h2.2.2.2,h]at h1
 simp only[Ql,if_false,if_true,Qe,Kb]at h1
 obtain⟨p,hp⟩:=List.length_eq_one_iff.1 h1.1.1
 exact⟨p,hp,Qx.1 hf.2 p (by rw[hp];simp)⟩
theorem qt3 (n:Str)(t:Tm):(bnd n t).length<=1:=by unfold bnd;split<;>simp
theorem bnd_wt (n:Str)(t:Tm)(ht:t.wt<=1048576):∀p∈bnd n t,p.2.wt<=1048576:=by
 unfold bnd
 split
 ·simp
 ·intro p hp;simp at hp;rw[hp];exact ht
theorem qmi (n:Str)(t:Tm)(ht:t.wt<=1048576)(f:Fm)(hf:f.forms=true)(hw:f.wt<=1048576)(hwa:(zfn (bnd n t) f.atom).wt<=1099511627776)(H:∀x∈f.parts,FC Tryz.prog 135 [fmD x,sD n,tmD t] [fmD (zbx n t x).1,bD (zbx n t x).2]) :
  FC Tryz.prog 135 [fmD f,sD n,tmD t] [fmD (zbx n t f).1,bD (zbx n t f).2]:=by
 have hv:=zpe n t f
 have hfl:f.parts.length<=1048576:=by have:=f.wt_eq;omega
 cases h3:f.op==3
 ·rw[h3,if_neg (by simp)]at hv;cases hq:isQ f.op
  ·rw[hq,Q1,if_neg (by simp),Q1,if_neg (by simp)]at hv;have hq8:(f.op==8)=false/\(f.op==9)=false:=by unfold isQ at hq;rw[Bool.or_eq_false_iff]at hq;exact hq
   simp only[fmD,zaa f,tmD,zab t];refine zad Tryz.call135 Tryz.func135 rfl Yo (zao Yo) ?_;simp -implicitDefEqProofs only[go_sem,Tryz.results135,h3,hq8.1,hq8.2];refine zag (fun k:Nat=>hd [(1,vT (.str n)),(3,.one (.bx 3 0)),(5,.one (.bx 5 0)),(6,.one (.bx 6 0)),(8,.one (.bx 8 0)),(9,vI k)] [(3,[.t (.int .i64 f.op),.t (.str f.atom.name),.t (tmS f.atom.args),.t (.str f.var),.t (fmS f.parts)]),(5,[.t (.str t.name),.t (tmS t.args)]),(6,[.t (.int .i64 0),.t (.str []),.nl 2,.t (.str []),.nl 5]),(8,[.t (.int .i64 f.op),.t (.str []),.nl 2,.t (.str f.var),.ow 8000 0])] [(8000,⟨true,5,(f.parts.take k).map fun x=>fmC (zbx n t x).1,0,true⟩)]) (fun k=>k<=f.parts.length/\∀x∈f.parts.take k,(zbx n t x).2=true) (fun k=>f.parts.length-k) 0 (zac ?_) ⟨Kd _,by simp⟩ ?_
   ·simp -implicitDefEqProofs only[go_sem]
   ·rintro k ⟨hk,hT⟩;by_cases hlt:k<f.parts.length
    ·have HC:=H f.parts[k] (Qj hlt);have hmin:min k f.parts.length<=4294967295:=by omega
     simp only[fmD,zaa f.parts[k],zaa (zbx n t f.parts[k]).1,tmD,zab t]at HC;cases hk2:(zbx n t f.parts[k]).2
     ·rw[hk2]at HC;have htw:=(zc0 (p:=fun x=>(zbx n t x).2) hk hT fun _=>hk2).1;have hall:(f.parts.all fun x=>(zbx n t x).2)=false:=by rw[J9];exact⟨_,Qj hlt,by rw[hk2];simp⟩
      rw[htw,hall]at hv;rw[hv];simp -implicitDefEqProofs only[go_sem,hlt];refine drawn Yo ?_;simp -implicitDefEqProofs only[go_sem,zan,hlt,zaa f.parts[k]];refine zav (HC) Yn ?_;simp -implicitDefEqProofs only[go_sem];refine⟨Yo,?_⟩;simp -implicitDefEqProofs only[go_sem,ze2,K2,Jw];exact⟨rfl,rfl⟩
     ·rw[hk2]at HC;simp -implicitDefEqProofs only[go_sem,hlt];refine drawn Yo ?_;simp -implicitDefEqProofs only[go_sem,zan,hlt,zaa f.parts[k]];refine zav (HC) Yn ?_;simp -implicitDefEqProofs only[go_sem];refine⟨Yo,?_⟩;refine za7 Yn ?_;simp -implicitDefEqProofs only[go_sem];refine apD true (by simp -implicitDefEqProofs only[go_sem,ne_eq,Qa,Qq,hmin]) ?_;simp -implicitDefEqProofs only[go_sem,ne_eq,Qa,Qq,hmin];refine⟨k+1,⟨hlt,fun x hx=>?_⟩,Yp,zac ?_⟩
      ·rw[Qk hlt]at hx;rcases Qm.1 hx with hx|hx
       ·exact hT x hx
       ·rw[Qy]at hx;subst hx;exact hk2
      ·simp -implicitDefEqProofs only[go_sem];rw[zap Yp,Qk hlt,Q2,Ko];simp only[zaa]
       trivial
    ·have htk:f.parts.take k=f.parts:=Qv Yp;rw[htk]at hT;have hall:(f.parts.all fun x=>(zbx n t x).2)=true:=Qx.2 hT;have htw:(f.parts.takeWhile fun x=>(zbx n t x).2)=f.parts:=by
      have:=(zc0 (l:=f.parts) (p:=fun x=>(zbx n t x).2) (k:=f.parts.length) (Qz _) (by rw[Kv];exact hT) fun h=>absurd h (Yc _)).1;rw[this,Kv]
     rw[htw,hall]at hv;rw[hv];simp -implicitDefEqProofs only[go_sem,hlt,htk,ze2,K2,Jw];exact⟨rfl,rfl⟩
  ·obtain⟨q,hp,hpf⟩:=qk3 hq hf;have key:(f.op==8)=true\/((f.op==8)=false/\(f.op==9)=true):=by
    have hq8:=hq;unfold isQ at hq8;cases h8:f.op==8
    ·rw[h8,Kt]at hq8;exact Or.inr ⟨rfl,hq8⟩
    ·exact Or.inl rfl
   have HFr:=zlj q hpf (by have:=f.wt_eq;rw[hp]at this;simp only[Qf,Qo,Jd,List.sum_nil]at this;omega);have HOw:=zvf f hw;have hfr:zrm f.parts=zbl [] (vf q []):=by rw[hp];rfl
   rw[hfr]at hv;generalize zbl [] (vf q [])=V at hv HFr;have HIn:=zof V n;have hvl:=zpr t;have HVs:=zxw t Yp Yp;generalize zbl [] (voS t)=TV at hv HVs;have HIt:=zof TV f.var;rw[hq,Qs,Qs]at hv;have hp0:f.parts.length=1:=by rw[hp];rfl
   have e0:(List.map fmC f.parts).getD 0 []=fmC q:=by rw[hp];rfl
   cases hvn:f.var==n
   ·rw[hvn,Kt]at hv;cases hcn:V.contains n
    ·rw[hcn,if_pos (by simp)]at hv;rw[hcn]at HIn;rw[hv];simp only[fmD,zaa f,tmD,zab t,zaa q]at HOw HFr⊢;rcases key with e8|⟨e8,e9⟩
     ·refine zad Tryz.call135 Tryz.func135 rfl Yo (zao Yo) ?_;simp -implicitDefEqProofs only[go_sem,Tryz.results135,h3,e8,hvn,hp0,e0,zaa q];refine callF (HFr) Yn ?_;simp -implicitDefEqProofs only[go_sem];refine callF (HIn) Yn ?_;simp -implicitDefEqProofs only[go_sem];refine callF (HOw) Yn ?_;simp -implicitDefEqProofs only[go_sem]
     ·refine zad Tryz.call135 Tryz.func135 rfl Yo (zao Yo) ?_;simp -implicitDefEqProofs only[go_sem,Tryz.results135,h3,e8,e9,hvn,hp0,e0,zaa q];refine callF (HFr) Yn ?_;simp -implicitDefEqProofs only[go_sem];refine callF (HIn) Yn ?_;simp -implicitDefEqProofs only[go_sem];refine callF (HOw) Yn ?_;simp -implicitDefEqProofs only[go_sem]
    ·rw[hcn,if_neg (by simp)]at hv;rw[hcn]at HIn;cases hti:TV.contains f.var
     ·rw[hti,if_neg (by simp)]at hv;rw[hti]at HIt;simp only[fmD,zaa f,tmD,zab t,zaa q]at HVs HFr⊢;rcases key with e8|⟨e8,e9⟩
      ·refine zad Tryz.call135 Tryz.func135 rfl Yo (zao Yo) ?_;simp -implicitDefEqProofs only[go_sem,Tryz.results135,h3,e8,hvn,hp0,e0,zaa q];refine callF (HFr) Yn ?_;simp -implicitDefEqProofs only[go_sem];refine callF (HIn) Yn ?_;simp -implicitDefEqProofs only[go_sem];refine drawn Yo ?_;simp -implicitDefEqProofs only[go_sem];refine zav (HVs) Yn ?_;simp -implicitDefEqProofs only[go_sem];refine zav (HIt) Yn ?_;simp -implicitDefEqProofs only[go_sem];refine⟨Yo,?_⟩;refine zag (fun k:Nat=>hd [(1,vT (.str n)),(3,.one (.bx 3 0)),(5,.one (.bx 5 0)),(6,.one (.bx 6 0)),(8,.one (.bx 8 0)),(9,vI k)] [(3,[.t (.int .i64 f.op),.t (.str f.atom.name),.t (tmS f.atom.args),.t (.str f.var),.t (fmS f.parts)]),(5,[.t (.str t.name),.t (tmS t.args)]),(6,[.t (.int .i64 0),.t (.str []),.nl 2,.t (.str []),.nl 5]),(8,[.t (.int .i64 f.op),.t (.str []),.nl 2,.t (.str f.var),.ow 8000 0])] [(8000,⟨true,5,(f.parts.take k).map fun x=>fmC (zbx n t x).1,0,true⟩)]) (fun k=>k<=f.parts.length/\∀x∈f.parts.take k,(zbx n t x).2=true) (fun k=>f.parts.length-k) 0 (zac ?_) ⟨Kd _,by simp⟩ ?_
       ·simp -implicitDefEqProofs only[go_sem]
       ·rintro k ⟨hk,hT⟩;by_cases hlt:k<f.parts.length
        ·have HC:=H f.parts[k] (Qj hlt);have hmin:min k f.parts.length<=4294967295:=by omega
         simp only[fmD,zaa f.parts[k],zaa (zbx n t f.parts[k]).1,tmD,zab t]at HC;cases hk2:(zbx n t f.parts[k]).2
         ·rw[hk2]at HC;have htw:=(zc0 (p:=fun x=>(zbx n t x).2) hk hT fun _=>hk2).1;have hall:(f.parts.all fun x=>(zbx n t x).2)=false:=by rw[J9];exact⟨_,Qj hlt,by rw[hk2];simp⟩
          rw[htw,hall]at hv;rw[hv];simp -implicitDefEqProofs only[go_sem,hlt];refine drawn Yo ?_;simp -implicitDefEqProofs only[go_sem,zan,hlt,zaa f.parts[k]];refine zav (HC) Yn ?_;simp -implicitDefEqProofs only[go_sem];refine⟨Yo,?_⟩;simp -implicitDefEqProofs only[go_sem,ze2,K2,Jw];exact⟨rfl,rfl⟩
         ·rw[hk2]at HC;simp -implicitDefEqProofs only[go_sem,hlt];refine drawn Yo ?_;simp -implicitDefEqProofs only[go_sem,zan,hlt,zaa f.parts[k]];refine zav (HC) Yn ?_;simp -implicitDefEqProofs only[go_sem];refine⟨Yo,?_⟩;refine za7 Yn ?_;simp -implicitDefEqProofs only[go_sem];refine apD true (by simp -implicitDefEqProofs only[go_sem,ne_eq,Qa,Qq,hmin]) ?_;simp -implicitDefEqProofs only[go_sem,ne_eq,Qa,Qq,hmin];refine⟨k+1,⟨hlt,fun x hx=>?_⟩,Yp,zac ?_⟩
          ·rw[Qk hlt]at hx;rcases Qm.1 hx with hx|hx
           ·exact hT x hx
           ·rw[Qy]at hx;subst hx;exact hk2
          ·simp -implicitDefEqProofs only[go_sem];rw[zap Yp,Qk hlt,Q2,Ko];simp only[zaa]
           trivial
        ·have htk:f.parts.take k=f.parts:=Qv Yp;rw[htk]at hT;have hall:(f.parts.all fun x=>(zbx n t x).2)=true:=Qx.2 hT;have htw:(f.parts.takeWhile fun x=>(zbx n t x).2)=f.parts:=by
          have:=(zc0 (l:=f.parts) (p:=fun x=>(zbx n t x).2) (k:=f.parts.length) (Qz _) (by rw[Kv];exact hT) fun h=>absurd h (Yc _)).1;rw[this,Kv]
         rw[htw,hall]at hv;rw[hv];simp -implicitDefEqProofs only[go_sem,hlt,htk,ze2,K2,Jw];exact⟨rfl,rfl⟩
      ·refine zad Tryz.call135 Tryz.func135 rfl Yo (zao Yo) ?_;simp -implicitDefEqProofs only[go_sem,Tryz.results135,h3,e8,e9,hvn,hp0,e0,zaa q];refine callF (HFr) Yn ?_;simp -implicitDefEqProofs only[go_sem];refine callF (HIn) Yn ?_;simp -implicitDefEqProofs only[go_sem];refine drawn Yo ?_;simp -implicitDefEqProofs only[go_sem];refine zav (HVs) Yn ?_;simp -implicitDefEqProofs only[go_sem];refine zav (HIt) Yn ?_;simp -implicitDefEqProofs only[go_sem];refine⟨Yo,?_⟩;refine zag (fun k:Nat=>hd [(1,vT (.str n)),(3,.one (.bx 3 0)),(5,.one (.bx 5 0)),(6,.one (.bx 6 0)),(8,.one (.bx 8 0)),(9,vI k)] [(3,[.t (.int .i64 f.op),.t (.str f.atom.name),.t (tmS f.atom.args),.t (.str f.var),.t (fmS f.parts)]),(5,[.t (.str t.name),.t (tmS t.args)]),(6,[.t (.int .i64 0),.t (.str []),.nl 2,.t (.str []),.nl 5]),(8,[.t (.int .i64 f.op),.t (.str []),.nl 2,.t (.str f.var),.ow 8000 0])] [(8000,⟨true,5,(f.parts.take k).map fun x=>fmC (zbx n t x).1,0,true⟩)]) (fun k=>k<=f.parts.length/\∀x∈f.parts.take k,(zbx n t x).2=true) (fun k=>f.parts.length-k) 0 (zac ?_) ⟨Kd _,by simp⟩ ?_
       ·simp -implicitDefEqProofs only[go_sem]
       ·rintro k ⟨hk,hT⟩;by_cases hlt:k<f.parts.length
        ·have HC:=H f.parts[k] (Qj hlt);have hmin:min k f.parts.length<=4294967295:=by omega
         simp only[fmD,zaa f.parts[k],zaa (zbx n t f.parts[k]).1,tmD,zab t]at HC;cases hk2:(zbx n t f.parts[k]).2
         ·rw[hk2]at HC;have htw:=(zc0 (p:=fun x=>(zbx n t x).2) hk hT fun _=>hk2).1;have hall:(f.parts.all fun x=>(zbx n t x).2)=false:=by rw[J9];exact⟨_,Qj hlt,by rw[hk2];simp⟩
          rw[htw,hall]at hv;rw[hv];simp -implicitDefEqProofs only[go_sem,hlt];refine drawn Yo ?_;simp -implicitDefEqProofs only[go_sem,zan,hlt,zaa f.parts[k]];refine zav (HC) Yn ?_;simp -implicitDefEqProofs only[go_sem];refine⟨Yo,?_⟩;simp -implicitDefEqProofs only[go_sem,ze2,K2,Jw];exact⟨rfl,rfl⟩
         ·rw[hk2]at HC;simp -implicitDefEqProofs only[go_sem,hlt];refine drawn Yo ?_;simp -implicitDefEqProofs only[go_sem,zan,hlt,zaa f.parts[k]];refine zav (HC) Yn ?_;simp -implicitDefEqProofs only[go_sem];refine⟨Yo,?_⟩;refine za7 Yn ?_;simp -implicitDefEqProofs only[go_sem];refine apD true (by simp -implicitDefEqProofs only[go_sem,ne_eq,Qa,Qq,hmin]) ?_;simp -implicitDefEqProofs only[go_sem,ne_eq,Qa,Qq,hmin];refine⟨k+1,⟨hlt,fun x hx=>?_⟩,Yp,zac ?_⟩
          ·rw[Qk hlt]at hx;rcases Qm.1 hx with hx|hx
           ·exact hT x hx
           ·rw[Qy]at hx;subst hx;exact hk2
          ·simp -implicitDefEqProofs only[go_sem];rw[zap Yp,Qk hlt,Q2,Ko];simp only[zaa]
           trivial
        ·have htk:f.parts.take k=f.parts:=Qv Yp;rw[htk]at hT;have hall:(f.parts.all fun x=>(zbx n t x).2)=true:=Qx.2 hT;have htw:(f.parts.takeWhile fun x=>(zbx n t x).2)=f.parts:=by
          have:=(zc0 (l:=f.parts) (p:=fun x=>(zbx n t x).2) (k:=f.parts.length) (Qz _) (by rw[Kv];exact hT) fun h=>absurd h (Yc _)).1;rw[this,Kv]
         rw[htw,hall]at hv;rw[hv];simp -implicitDefEqProofs only[go_sem,hlt,htk,ze2,K2,Jw];exact⟨rfl,rfl⟩
     ·rw[hti,if_pos rfl]at hv;rw[hti]at HIt;rw[hv];have e5:fmD (.mk f.op (.mk [] []) f.var [])=.agg [.int .i64 f.op,.str [],.sl 2 [],.str f.var,.sl 5 []]:=by unfold fmD;rw[zaa];rfl
      rw[e5];simp only[fmD,zaa f,tmD,zab t,zaa q]at HVs HFr⊢;rcases key with e8|⟨e8,e9⟩
      ·refine zad Tryz.call135 Tryz.func135 rfl Yo (zao Yo) ?_;simp -implicitDefEqProofs only[go_sem,Tryz.results135,h3,e8,hvn,hp0,e0,zaa q];refine callF (HFr) Yn ?_;simp -implicitDefEqProofs only[go_sem];refine callF (HIn) Yn ?_;simp -implicitDefEqProofs only[go_sem];refine drawn Yo ?_;simp -implicitDefEqProofs only[go_sem];refine zav (HVs) Yn ?_;simp -implicitDefEqProofs only[go_sem];refine zav (HIt) Yn ?_;simp -implicitDefEqProofs only[go_sem];kernel_rfl
      ·refine zad Tryz.call135 Tryz.func135 rfl Yo (zao Yo) ?_;simp -implicitDefEqProofs only[go_sem,Tryz.results135,h3,e8,e9,hvn,hp0,e0,zaa q];refine callF (HFr) Yn ?_;simp -implicitDefEqProofs only[go_sem];refine callF (HIn) Yn ?_;simp -implicitDefEqProofs only[go_sem];refine drawn Yo ?_;simp -implicitDefEqProofs only[go_sem];refine zav (HVs) Yn ?_;simp -implicitDefEqProofs only[go_sem];refine zav (HIt) Yn ?_;simp -implicitDefEqProofs only[go_sem];kernel_rfl
   ·rw[hvn,J1,if_pos rfl]at hv;rw[hv];simp only[fmD,zaa f,tmD,zab t]at HOw⊢;rcases key with e8|⟨e8,e9⟩
    ·refine zad Tryz.call135 Tryz.func135 rfl Yo (zao Yo) ?_;simp -implicitDefEqProofs only[go_sem,Tryz.results135,h3,e8,hvn];refine callF (HOw) Yn ?_;simp -implicitDefEqProofs only[go_sem]
    ·refine zad Tryz.call135 Tryz.func135 rfl Yo (zao Yo) ?_;simp -implicitDefEqProofs only[go_sem,Tryz.results135,h3,e8,e9,hvn];refine callF (HOw) Yn ?_;simp -implicitDefEqProofs only[go_sem]
 ·rw[h3,if_pos rfl]at hv;have HA:=qjq (bnd n t) (qt3 n t) (bnd_wt n t ht) f.atom (by have:=zj9 f;omega);rw[hv];generalize zfn (bnd n t) f.atom=R at HA hwa⊢;have HO:=zzc R hwa;cases hn:t.name==n
  ·have e0:bnd n t=[(n,t)]:=by unfold bnd;rw[hn,if_neg (by simp)]
   have HP:=qgp n t ht hn;have hS0:sbS []=.sl 3 []:=rfl;rw[e0]at HA;generalize [(n,t)]=B at HA HP;rw[hS0]at HP;unfold sbS at HP HA;generalize B.map bnC=L at HA HP;simp only[fmD,zaa f,tmD,zab t,zab f.atom,zab R,ze2,Qo]at HA HP HO⊢;refine zad Tryz.call135 Tryz.func135 rfl Yo (zao Yo) ?_;simp -implicitDefEqProofs only[go_sem,Tryz.results135,h3];refine drawn Yo ?_;simp -implicitDefEqProofs only[go_sem];refine zav (HP) Yn ?_;simp -implicitDefEqProofs only[go_sem];refine zav (HA) Yn ?_;simp -implicitDefEqProofs only[go_sem];refine⟨Yo,?_⟩;refine drawn Yo ?_;simp -implicitDefEqProofs only[go_sem];refine zav (HO) Yn ?_;simp -implicitDefEqProofs only[go_sem];kernel_rfl
  ·have e0:bnd n t=[]:=by unfold bnd;rw[hn,if_pos rfl]
   have HP:=qao n t hn;have hS0:sbS []=.sl 3 []:=rfl;rw[e0]at HA;rw[hS0]at HP HA;simp only[fmD,zaa f,tmD,zab t,zab f.atom,zab R,ze2,Qo]at HA HP HO⊢;refine zad Tryz.call135 Tryz.func135 rfl Yo (zao Yo) ?_;simp -implicitDefEqProofs only[go_sem,Tryz.results135,h3];refine drawn Yo ?_;simp -implicitDefEqProofs only[go_sem];refine zay HP Yn ?_;simp -implicitDefEqProofs only[go_sem];refine zav (HA) Yn ?_;simp -implicitDefEqProofs only[go_sem];refine⟨Yo,?_⟩;refine drawn Yo ?_;simp -implicitDefEqProofs only[go_sem];refine zav (HO) Yn ?_;simp -implicitDefEqProofs only[go_sem];kernel_rfl
end
section
open Go.RowKit
theorem qvm (n:Str)(t:Tm):∀a:Tm,(zgo n t a).wt<=a.wt+a.nodes*t.wt:=zb4 fun m xs ih=>by
 rw[zq3,Tm.nodes_eq]
 show(if xs.length=0 then (if(n==m)=true then t else .mk m [])else .mk m (xs.map (zgo n t))).wt<=(Tm.mk m xs).wt+(1+(xs.map Tm.nodes).sum)*t.wt
 have hs:(xs.map fun x=>(zgo n t x).wt).sum<=(xs.map Tm.wt).sum+(xs.map Tm.nodes).sum*t.wt:=by
  revert ih;induction xs with
  | nil=>simp
  | cons x xs ih2 =>
   intro ih;have h1:=ih x (by simp);have h2:=ih2 fun y hy=>ih y (by simp[hy]);simp only[Qf,Jd,Kw];omega
 have h0:=Tm.wt_eq (.mk m xs)
 have h0:(Tm.mk m xs).wt=m.length+xs.length+(xs.map Tm.wt).sum:=h0
 rw[Kw,Yl]
 split
 ·split
  ·omega
  ·have h1:=Tm.wt_eq (.mk m []);have h1:(Tm.mk m []).wt=m.length+0+0:=h1;omega
 ·have h1:=Tm.wt_eq (.mk m (xs.map (zgo n t)));have h1:(Tm.mk m (xs.map (zgo n t))).wt=m.length+(xs.map (zgo n t)).length+((xs.map (zgo n t)).map Tm.wt).sum:=h1;rw[Qa,K2]at h1;have h2:(xs.map (Tm.wt∘zgo n t)).sum=(xs.map fun x=>(zgo n t x).wt).sum:=rfl;omega
theorem quw (l:List (Str×Tm))(W:Nat)(hW:∀p∈l,p.2.wt<=W):∀a:Tm,(zfn l a).wt<=a.wt+a.nodes*W:=zb4 fun m xs ih=>by
 rw[zrb,Tm.nodes_eq]
 show(if zbd m=true then (match l.find? fun(p:Str×Tm)=>p.1==m with|some p=>p.2|none=>.mk m [])else .mk m (xs.map (zfn l))).wt<=(Tm.mk m xs).wt+(1+(xs.map Tm.nodes).sum)*W
 have hs:(xs.map fun x=>(zfn l x).wt).sum<=(xs.map Tm.wt).sum+(xs.map Tm.nodes).sum*W:=by
  revert ih;induction xs with
  | nil=>simp
  | cons x xs ih2 =>
   intro ih;have h1:=ih x (by simp);have h2:=ih2 fun y hy=>ih y (by simp[hy]);simp only[Qf,Jd,Kw];omega
 have h0:=Tm.wt_eq (.mk m xs)
 have h0:(Tm.mk m xs).wt=m.length+xs.length+(xs.map Tm.wt).sum:=h0
 rw[Kw,Yl]
 split
 ·split
  ·rename_i p hp;have:=hW p (List.mem_of_find?_eq_some hp);omega
  ·have h1:=Tm.wt_eq (.mk m []);have h1:(Tm.mk m []).wt=m.length+0+0:=h1;omega
 ·have h1:=Tm.wt_eq (.mk m (xs.map (zfn l)));have h1:(Tm.mk m (xs.map (zfn l))).wt=m.length+(xs.map (zfn l)).length+((xs.map (zfn l)).map Tm.wt).sum:=h1;rw[Qa,K2]at h1;have h2:(xs.map (Tm.wt∘zfn l)).sum=(xs.map fun x=>(zfn l x).wt).sum:=rfl;omega
theorem qt1 (n:Str)(t:Tm):∀p∈bnd n t,p.2.wt<=t.wt:=by
 unfold bnd
 split
 ·simp
 ·intro p hp;simp at hp;rw[hp];exact Qz _
theorem qva (n:Str)(t:Tm)(ht:t.wt<=1048576):∀f:Fm,f.forms=true->f.wt<=1048576->f.wt+(1+f.wt)*t.wt<=1099511627776->FC Tryz.prog 135 [fmD f,sD n,tmD t] [fmD (zbx n t f).1,bD (zbx n t f).2] :=
 zcn fun o a v ps ih hf hw hb=>by
  refine qmi n t ht (.mk o a v ps) hf hw ?_ fun x hx=>ih x hx (by rw[Fm.forms_eq,Qe]at hf;exact Qx.1 hf.2 x hx) (Ja (zdw (a:=.mk o a v ps) hx) hw) ?_
  ·have h1:=quw (bnd n t) t.wt (qt1 n t) a;have h2:=zge a;have h3:a.wt<=(Fm.mk o a v ps).wt:=zj9 (.mk o a v ps);have h4:a.nodes*t.wt<=(1+(Fm.mk o a v ps).wt)*t.wt:=Jf _ Yp;show(zfn (bnd n t) a).wt<=_
   omega
  ·have h3:=zdw (a:=.mk o a v ps) hx;have h4:(1+x.wt)*t.wt<=(1+(Fm.mk o a v ps).wt)*t.wt:=Jf _ Yp;omega
theorem qur:(mkF 0 []).wt=0:=rfl
theorem qju {α:Type}{g w:α->Nat}{W:Nat}:∀ps:List α,(∀x∈ps,g x<=w x+(1+w x)*W)->(ps.map g).sum<=(ps.map w).sum+(ps.length+(ps.map w).sum)*W
 | [],_=>by simp
 | x::xs,ih=>by
  have h1:=ih x (by simp);have h2:=qju (g:=g) (w:=w) (W:=W) xs fun y hy=>ih y (by simp[hy]);simp only[Qf,Jd,Qi];have e:(xs.length+1+(w x+(xs.map w).sum))*W=(1+w x)*W+(xs.length+(xs.map w).sum)*W:=by rw[<-Kw];congr 1;omega
  rw[e];omega
theorem qt0 (n:Str)(t:Tm):∀f:Fm,(zd2 n t f).1.wt<=f.wt+(1+f.wt)*t.wt:=zcn fun o a v ps ih=>by
 rw[zw6]
 have h0:(Fm.mk o a v ps).wt=a.wt+v.length+ps.length+(ps.map Fm.wt).sum:=Fm.wt_eq (.mk o a v ps)
 split
 ·exact Nat.le_add_right _ _
 ·split
  ·rw[qur];exact Kd _
  ·have hs:(ps.map fun x=>(zd2 n t x).1.wt).sum<=(ps.map Fm.wt).sum+(ps.length+(ps.map Fm.wt).sum)*t.wt:=qju (g:=fun x=>(zd2 n t x).1.wt) (w:=Fm.wt) (W:=t.wt) ps ih;have ha:=qvm n t a;have hn:=zge a;show(Fm.mk o (if(o==3)=true then zgo n t a else a) v (ps.map fun x=>(zd2 n t x).1)).wt<=_
   have h1:=Fm.wt_eq (.mk o (if(o==3)=true then zgo n t a else a) v (ps.map fun x=>(zd2 n t x).1));have h1:(Fm.mk o (if(o==3)=true then zgo n t a else a) v (ps.map fun x=>(zd2 n t x).1)).wt=(if(o==3)=true then zgo n t a else a).wt+v.length+(ps.map fun x=>(zd2 n t x).1).length+((ps.map fun x=>(zd2 n t x).1).map Fm.wt).sum:=h1;rw[Qa,K2]at h1;have h2:(ps.map (Fm.wt∘fun x=>(zd2 n t x).1)).sum=(ps.map fun x=>(zd2 n t x).1.wt).sum:=rfl;have h3:(if(o==3)=true then zgo n t a else a).wt<=a.wt+(1+a.wt)*t.wt:=by
    have:a.nodes*t.wt<=(1+a.wt)*t.wt:=Jf _ Yp;split<;>omega
   have h4:(1+a.wt)*t.wt+(ps.length+(ps.map Fm.wt).sum)*t.wt<=(1+(Fm.mk o a v ps).wt)*t.wt:=by rw[<-Kw];exact Jf _ Yp
   omega
end
section
open Go.RowKit
attribute [local go_sem] Oper.semAt_some
end
section
open Go.RowKit
def mtd:Nat->Nat->Str->Str
 | 0,_,acc=>acc
 | fuel+1,n,acc=>if n=0 then acc else mtd fuel (n / 10) (UInt8.ofNat (48+n % 10)::acc)
def mtx (k:Nat):Str:=109::mtd (k+1) k []
theorem zpm (fuel n:Nat)(acc:Str)(h:0<n):mtd (fuel+1) n acc=mtd fuel (n / 10) (UInt8.ofNat (48+n % 10)::acc):=by rw[mtd,if_neg Yp]
theorem zx1:∀(f f' n:Nat)(acc:Str),n<f->n<f'->mtd f n acc=mtd f' n acc
 | 0,_,n,_,h,_=>absurd h Yp
 | _+1,0,n,_,_,h=>absurd h Yp
 | f+1,f'+1,n,acc,h,h'=>by
  by_cases h0:n=0
  ·simp[mtd,h0]
  ·rw[zpm _ _ _ Yp,zpm _ _ _ Yp];exact zx1 f f' _ _ Yp Yp
theorem qub {n:Nat}(h:n<256):IntKind.u8.wrap (n:Int)=n:=by
 have e:IntKind.u8.wrap (n:Int)=(n:Int) % 256:=rfl
 rw[e];omega
theorem zb5 (k:Nat)(hk0:0<k)(hk:k<=4611686018427387904):FC Tryz.prog 66 [iD k] [sD (mtx k)]:=by
 have h0:((k:Int)<=0)=False:=by simp;omega
 refine zad Tryz.call66 Tryz.func66 rfl Yo (zao Yo) ?_
 simp -implicitDefEqProofs only[go_sem,Tryz.results66,h0]
 refine zag (fun(x:Nat×Str)=>hd [(0,vI x.1),(3,vT (.str x.2))] [] []) (fun x=>mtx k=109::mtd (x.1+1) x.1 x.2/\x.1*10^x.2.length<=k/\x.2.length<=19) (fun x=>x.1) (k,[]) (zac ?_) ?_ ?_
 ·simp -implicitDefEqProofs only[go_sem]
 ·exact⟨rfl,by simp,by simp⟩
 ·intro ⟨n,s⟩ ⟨h1,h2,hl⟩;have hl:s.length<=19:=hl;have hn:n<=k:=Ja (Nat.le_mul_of_pos_right _ (Nat.pow_pos Yp)) h2;have hs:s.length<=18\/n=0:=by
   by_cases h:n=0
   ·exact Or.inr h
   ·left;refine Yd fun hl=>?_;have:10^19<=10^s.length:=Nat.pow_le_pow_right Yp Yp;have:1*10^s.length<=n*10^s.length:=Jf _ Yp;have h2:n*10^s.length<=k:=h2;omega
  by_cases hp:0<n
  ·have hp':((n:Int)>0)=True:=by simp;omega
   have e1:(n:Int).tmod 10=((n % 10:Nat):Int):=by rw[Int.tmod_eq_emod_of_nonneg Yp];omega
   have e2:(n:Int).tdiv 10=((n / 10:Nat):Int):=by rw[Int.tdiv_eq_ediv_of_nonneg Yp];omega
   have e3:IntKind.i64.wrap (48+((n % 10:Nat):Int))=((48+n % 10:Nat):Int):=by rw[za6 Yp Yp];omega
   have e4:IntKind.u8.wrap ((48+n % 10:Nat):Int)=((48+n % 10:Nat):Int):=qub Yp;have e5:IntKind.i64.wrap ((n / 10:Nat):Int)=((n / 10:Nat):Int):=za6 Yp Yp;simp -implicitDefEqProofs only[go_sem,hp',e1,e2,e3,e4,e5];refine⟨Yp,?_⟩;refine za7 Yn ?_;simp -implicitDefEqProofs only[go_sem];have hs':s.length<=18:=by omega
   refine⟨Yp,Yp,(n / 10,UInt8.ofNat (48+n % 10)::s),⟨?_,?_,show s.length+1<=19 by omega⟩,Yp,zac (by simp -implicitDefEqProofs only[go_sem,e2,e5])⟩
   ·rw[h1];show(109::mtd (n+1) n s:Str)=109::mtd (n / 10+1) (n / 10) (UInt8.ofNat (48+n % 10)::s)
    rw[zpm _ _ _ hp,zx1 n (n / 10+1) _ _ Yp Yp]
   ·show n / 10*10^(s.length+1)<=k
    rw[Nat.pow_succ,Nat.mul_comm _ 10,<-Nat.mul_assoc];exact Ja (Jf _ Yp) h2
  ·have h0':n=0:=by omega
   subst h0';simp -implicitDefEqProofs only[go_sem];refine⟨Yp,?_⟩;rw[h1];simp[mtd]
end
section
open Go.RowKit
mutual
def zhr:Tm->Nat->Tm×Nat
 | .mk n0 s0,k=>(.mk (mtx k) (zal s0 (k+1)).1,(zal s0 (k+1)).2)
def zal:List Tm->Nat->List Tm×Nat
 | [],k=>([],k)
 | a::xs,k=>((zhr a k).1::(zal xs (zhr a k).2).1,(zal xs (zhr a k).2).2)
end
mutual
def zig:Tm->Nat
 | .mk n0 s0=>1+1+zc7 s0
def zc7:List Tm->Nat
 | []=>0
 | a::xs=>zig a+zc7 xs
end
mutual
theorem qef:∀(a:Tm)(k:Nat),k<=(zhr a k).2/\(zhr a k).2<=k+zig a
 | .mk n0 s0,k=>by have h_s0:=zb1 s0 (k+1);simp only[zhr,zig];omega
theorem zb1:∀(xs:List Tm)(k:Nat),k<=(zal xs k).2/\(zal xs k).2<=k+zc7 xs
 | [],k=>⟨Qz _,Qz _⟩
 | a::xs,k=>by have h1:=qef a k;have h2:=zb1 xs (zhr a k).2;simp only[zal,zc7];omega
end
theorem zmo:∀xs:List Tm,xs.length<=zc7 xs
 | []=>Qz _
 | a::xs=>by
  have:=zmo xs;have:1<=zig a:=by obtain⟨n0,s0⟩:=a;simp only[zig];omega
  simp only[Qi,zc7];omega
theorem zkj (xs:List Tm)(H:∀a∈xs,∀k:Nat,0<k->k+zc7 a.args<=4611686018427387904->IC Tryz.prog 67 [] (.one (tmS a.args)) [iD k] (.one (tmS (zal a.args k).1)) [iD (zal a.args k).2]) :
  ∀k:Nat,0<k->k+zc7 xs<=4611686018427387904->IC Tryz.prog 67 [] (.one (tmS xs)) [iD k] (.one (tmS (zal xs k).1)) [iD (zal xs k).2]:=by
 intro k h0 hk
 refine zrz Tryz.call67 Tryz.func67 rfl Yo (by simp only[zdm,rd,Qf,Qo,Kx,Qi,Q4,Tryz.ntmps67];omega) (by simp only[Tryz.ntmps67];omega) (fun vs=>?_)
 simp -implicitDefEqProofs only[go_sem,Tryz.results67,qav,zjm,zdm,PI]
 refine zag (fun(x:List Tm×List Tm×Nat)=>hd [(0,.one (.ow 0 0)),(1000000,.one (.ow 0 0)),(1,vI x.2.2),(5,vI x.1.length)] [] [(0,⟨true,2,x.1.map tmC++zdz vs x.1.length (x.2.1.map tmC),0,true⟩)])
  (fun x=>(zal xs k).1=x.1++(zal x.2.1 x.2.2).1/\(zal xs k).2=(zal x.2.1 x.2.2).2/\0<x.2.2/\x.2.2+zc7 x.2.1<=4611686018427387904/\x.1.length+x.2.1.length=xs.length/\∀a∈x.2.1,a∈xs) (fun x=>x.2.1.length) ([],xs,k) (zac ?_) ?_ ?_
 ·simp -implicitDefEqProofs only[go_sem]
 ·exact⟨rfl,rfl,h0,hk,by simp,fun _ h=>h⟩
 ·intro ⟨dn,rest,kk⟩ ⟨h1,h2,h3,h4,h6,h5⟩;simp only at h1 h2 h3 h4 h5 h6;cases rest with
  | nil =>
   simp only[zal,Kh]at h1 h2;simp -implicitDefEqProofs only[go_sem,h1,h2]
  | cons a rest =>
   obtain⟨n0,s0⟩:=a;simp only[zal,zhr,zc7,zig]at h1 h2 h4;have hc_s0:=zb1 s0 (kk+1);have w0:IntKind.i64.wrap (((kk:Nat):Int)+1)=((kk+1:Nat):Int):=zap Yp;have hln:=zmo xs;rw[Qi]at h6;have wl:IntKind.i64.wrap ((dn.length:Int)+1)=((dn.length+1:Nat):Int):=zap Yp;simp -implicitDefEqProofs only[go_sem,zab (.mk _ _),Tm.name,Tm.args];refine callF (zb5 kk Yp Yp) (by simp -implicitDefEqProofs only[go_sem,w0]) ?_;simp -implicitDefEqProofs only[go_sem,w0];refine zdq (by simp -implicitDefEqProofs only[go_sem,implies_true,w0]) ?_;simp -implicitDefEqProofs only[go_sem,implies_true,w0];refine callN (l:=[(0,.one (.ow 0 0)),(1000000,.one (.ow 0 0)),(5,vI dn.length),(24,.one (.cv (vs dn.length 1))),(25,vI ((kk+1):Nat))]) (bl:=[]) (el:=[(0,⟨true,2,dn.map tmC++[.str (mtx kk),.pin (vs dn.length 1) (tmS s0)]::zdz vs (dn.length+1) (rest.map tmC),0,true⟩)]) 0 dn.length 1 (H (.mk n0 s0) (h5 _ (by simp)) (kk+1) Yp (by show(kk+1)+zc7 s0<=_;omega)) (by simp -implicitDefEqProofs only[go_sem,w0,tmS]) rfl rfl rfl (by simp -implicitDefEqProofs only[go_sem,tmS,Tm.name,Tm.args]) rfl ?_;simp -implicitDefEqProofs only[go_sem,w0,Tm.name,Tm.args];refine⟨(dn++[.mk (mtx kk) (zal s0 (kk+1)).1],rest,(zal s0 (kk+1)).2),⟨by simpa using h1,h2,by show 0<(zal s0 (kk+1)).2;omega,by show(zal s0 (kk+1)).2+zc7 rest<=_;omega,by simp;omega,fun b hb=>h5 b (by simp[hb])⟩,by simp,zac ?_⟩;simp -implicitDefEqProofs only[go_sem,wl,zab (.mk _ _),Tm.name,Tm.args,Q2,Kf]
theorem zez (xs:List Tm)(k:Nat)(h0:0<k)(hk:k+zc7 xs<=4611686018427387904):IC Tryz.prog 67 [] (.one (tmS xs)) [iD k] (.one (tmS (zal xs k).1)) [iD (zal xs k).2] :=
 zkj xs (fun a _=>zb4 (P:=fun a=>∀k:Nat,0<k->k+zc7 a.args<=4611686018427387904->IC Tryz.prog 67 [] (.one (tmS a.args)) [iD k] (.one (tmS (zal a.args k).1)) [iD (zal a.args k).2]) (fun n ys ih=>zkj ys ih) a) k h0 hk
theorem zke (xs:List Tm)(H:∀a∈xs,∀k:Nat,0<k->k+zc7 a.args<=4611686018427387904->FC Tryz.prog 68 [.one (tmS (zal a.args k).1),iD k] [iD (zal a.args k).2]) :
  ∀k:Nat,0<k->k+zc7 xs<=4611686018427387904->FC Tryz.prog 68 [.one (tmS (zal xs k).1),iD k] [iD (zal xs k).2]:=by
 intro k h0 hk
 refine zad Tryz.call68 Tryz.func68 rfl Yo (zao Yo) ?_
 simp -implicitDefEqProofs only[go_sem,Tryz.results68]
 refine zag (fun(x:List Tm×List Tm×Nat)=>hd [(0,vT (.sl 2 (x.1.map tmC++(zal x.2.1 x.2.2).1.map tmC))),(1,vI x.2.2),(5,vI x.1.length)] [] [])
  (fun x=>(zal xs k).1=x.1++(zal x.2.1 x.2.2).1/\(zal xs k).2=(zal x.2.1 x.2.2).2/\0<x.2.2/\x.2.2+zc7 x.2.1<=4611686018427387904/\x.1.length+x.2.1.length=xs.length/\∀a∈x.2.1,a∈xs) (fun x=>x.2.1.length) ([],xs,k) (zac ?_) ?_ ?_
 ·simp -implicitDefEqProofs only[go_sem]
 ·exact⟨rfl,rfl,h0,hk,by simp,fun _ h=>h⟩
 ·intro ⟨dn,rest,kk⟩ ⟨h1,h2,h3,h4,h6,h5⟩;simp only at h1 h2 h3 h4 h5 h6;cases rest with
  | nil =>
   simp only[zal,Kh]at h1 h2;simp -implicitDefEqProofs only[go_sem,h2,zal]
  | cons a rest =>
   obtain⟨n0,s0⟩:=a;simp only[zal,zhr,zc7,zig]at h1 h2 h4;have hc_s0:=zb1 s0 (kk+1);have w0:IntKind.i64.wrap (((kk:Nat):Int)+1)=((kk+1:Nat):Int):=zap Yp;have hln:=zmo xs;rw[Qi]at h6;have wl:IntKind.i64.wrap ((dn.length:Int)+1)=((dn.length+1:Nat):Int):=zap Yp;simp -implicitDefEqProofs only[go_sem,zal,zhr,zab (.mk _ _),Tm.name,Tm.args];refine drawn Yo ?_;simp -implicitDefEqProofs only[go_sem];refine zav (zb5 kk Yp Yp) (by simp -implicitDefEqProofs only[go_sem,Qw,K7,w0]) ?_;simp -implicitDefEqProofs only[go_sem,Qw,K7,w0];refine⟨Yo,?_⟩;refine callF (H (.mk n0 s0) (h5 _ (by simp)) (kk+1) Yp (by show(kk+1)+zc7 s0<=_;omega)) (by simp -implicitDefEqProofs only[go_sem,w0,Tm.name,Tm.args]) ?_;simp -implicitDefEqProofs only[go_sem,w0,Tm.name,Tm.args];refine⟨(dn++[.mk (mtx kk) (zal s0 (kk+1)).1],rest,(zal s0 (kk+1)).2),⟨by simpa using h1,h2,by show 0<(zal s0 (kk+1)).2;omega,by show(zal s0 (kk+1)).2+zc7 rest<=_;omega,by simp;omega,fun b hb=>h5 b (by simp[hb])⟩,by simp,zac ?_⟩;simp -implicitDefEqProofs only[go_sem,wl,zab (.mk _ _),Tm.name,Tm.args,Q2,Kf]
theorem zl4 (xs:List Tm)(k:Nat)(h0:0<k)(hk:k+zc7 xs<=4611686018427387904):FC Tryz.prog 68 [.one (tmS (zal xs k).1),iD k] [iD (zal xs k).2] :=
 zke xs (fun a _=>zb4 (P:=fun a=>∀k:Nat,0<k->k+zc7 a.args<=4611686018427387904->FC Tryz.prog 68 [.one (tmS (zal a.args k).1),iD k] [iD (zal a.args k).2]) (fun n ys ih=>zke ys ih) a) k h0 hk
mutual
def zht:Fm->Nat->Fm×Nat
 | .mk o0 (.mk n0 s0) v0 p0,k=>(.mk ((k:Nat):Int) (.mk (mtx (k+1)) (zal s0 ((k+1)+1)).1) (mtx (zal s0 ((k+1)+1)).2) (za1 p0 ((zal s0 ((k+1)+1)).2+1)).1,(za1 p0 ((zal s0 ((k+1)+1)).2+1)).2)
def za1:List Fm->Nat->List Fm×Nat
 | [],k=>([],k)
 | a::xs,k=>((zht a k).1::(za1 xs (zht a k).2).1,(za1 xs (zht a k).2).2)
end
mutual
def zis:Fm->Nat
 | .mk o0 (.mk n0 s0) v0 p0=>1+1+1+zc7 s0+1+zdf p0
def zdf:List Fm->Nat
 | []=>0
 | a::xs=>zis a+zdf xs
end
mutual
theorem qje:∀(a:Fm)(k:Nat),k<=(zht a k).2/\(zht a k).2<=k+zis a
 | .mk o0 (.mk n0 s0) v0 p0,k=>by have h_s0:=zb1 s0 ((k+1)+1);have h_p0:=zca p0 ((zal s0 ((k+1)+1)).2+1);simp only[zht,zis];omega
theorem zca:∀(xs:List Fm)(k:Nat),k<=(za1 xs k).2/\(za1 xs k).2<=k+zdf xs
 | [],k=>⟨Qz _,Qz _⟩
 | a::xs,k=>by have h1:=qje a k;have h2:=zca xs (zht a k).2;simp only[za1,zdf];omega
end
theorem zmg:∀xs:List Fm,xs.length<=zdf xs
 | []=>Qz _
 | a::xs=>by
  have:=zmg xs;have:1<=zis a:=by obtain⟨o0,⟨n0,s0⟩,v0,p0⟩:=a;simp only[zis];omega
  simp only[Qi,zdf];omega
theorem zg0 (xs:List Fm)(H:∀a∈xs,∀k:Nat,0<k->k+zdf a.parts<=4611686018427387904->IC Tryz.prog 63 [] (.one (fmS a.parts)) [iD k] (.one (fmS (za1 a.parts k).1)) [iD (za1 a.parts k).2]) :
  ∀k:Nat,0<k->k+zdf xs<=4611686018427387904->IC Tryz.prog 63 [] (.one (fmS xs)) [iD k] (.one (fmS (za1 xs k).1)) [iD (za1 xs k).2]:=by
 intro k h0 hk
 refine zrz Tryz.call63 Tryz.func63 rfl Yo (by simp only[zdm,rd,Qf,Qo,Kx,Qi,Q4,Tryz.ntmps63];omega) (by simp only[Tryz.ntmps63];omega) (fun vs=>?_)
 simp -implicitDefEqProofs only[go_sem,Tryz.results63,qav,zjm,zdm,PI]
 refine zag (fun(x:List Fm×List Fm×Nat)=>hd [(0,.one (.ow 0 0)),(1000000,.one (.ow 0 0)),(1,vI x.2.2),(5,vI x.1.length)] [] [(0,⟨true,5,x.1.map fmC++zdz vs x.1.length (x.2.1.map fmC),0,true⟩)])
  (fun x=>(za1 xs k).1=x.1++(za1 x.2.1 x.2.2).1/\(za1 xs k).2=(za1 x.2.1 x.2.2).2/\0<x.2.2/\x.2.2+zdf x.2.1<=4611686018427387904/\x.1.length+x.2.1.length=xs.length/\∀a∈x.2.1,a∈xs) (fun x=>x.2.1.length) ([],xs,k) (zac ?_) ?_ ?_
 ·simp -implicitDefEqProofs only[go_sem]
 ·exact⟨rfl,rfl,h0,hk,by simp,fun _ h=>h⟩
 ·intro ⟨dn,rest,kk⟩ ⟨h1,h2,h3,h4,h6,h5⟩;simp only at h1 h2 h3 h4 h5 h6;cases rest with
  | nil =>
   simp only[za1,Kh]at h1 h2;simp -implicitDefEqProofs only[go_sem,h1,h2]
  | cons a rest =>
   obtain⟨o0,⟨n0,s0⟩,v0,p0⟩:=a;simp only[za1,zht,zdf,zis]at h1 h2 h4;have hc_s0:=zb1 s0 ((kk+1)+1);have hc_p0:=zca p0 ((zal s0 ((kk+1)+1)).2+1);have w0:IntKind.i64.wrap (((kk:Nat):Int)+1)=((kk+1:Nat):Int):=zap Yp;have w1:IntKind.i64.wrap ((((kk+1):Nat):Int)+1)=(((kk+1)+1:Nat):Int):=zap Yp;have w2:IntKind.i64.wrap ((((zal s0 ((kk+1)+1)).2:Nat):Int)+1)=(((zal s0 ((kk+1)+1)).2+1:Nat):Int):=zap Yp;have hln:=zmg xs;rw[Qi]at h6;have wl:IntKind.i64.wrap ((dn.length:Int)+1)=((dn.length+1:Nat):Int):=zap Yp;simp -implicitDefEqProofs only[go_sem,zaa (.mk _ _ _ _),Fm.op,Fm.atom,Fm.var,Fm.parts,Tm.name,Tm.args];refine zdq (by simp -implicitDefEqProofs only[go_sem,implies_true,w0,w1,w2]) ?_;simp -implicitDefEqProofs only[go_sem,implies_true,w0,w1,w2];refine callF (zb5 (kk+1) Yp Yp) (by simp -implicitDefEqProofs only[go_sem,w0,w1,w2]) ?_;simp -implicitDefEqProofs only[go_sem,w0,w1,w2];refine zdq (by simp -implicitDefEqProofs only[go_sem,implies_true,w0,w1,w2]) ?_;simp -implicitDefEqProofs only[go_sem,implies_true,w0,w1,w2];refine callN (l:=[(0,.one (.ow 0 0)),(1000000,.one (.ow 0 0)),(5,vI dn.length),(33,.one (.cv (vs dn.length 2))),(34,vI (((kk+1)+1):Nat))]) (bl:=[]) (el:=[(0,⟨true,5,dn.map fmC++[.int .i64 ((kk:Nat):Int),.str (mtx (kk+1)),.pin (vs dn.length 2) (tmS s0),.str v0,.pin (vs dn.length 4) (fmS p0)]::zdz vs (dn.length+1) (rest.map fmC),0,true⟩)]) 0 dn.length 2 (zez s0 ((kk+1)+1) Yp Yp) (by simp -implicitDefEqProofs only[go_sem,w0,w1,w2,tmS]) rfl rfl rfl (by simp -implicitDefEqProofs only[go_sem,tmS,Fm.op,Fm.atom,Fm.var,Fm.parts,Tm.name,Tm.args]) rfl ?_;simp -implicitDefEqProofs only[go_sem,w0,w1,w2,Fm.op,Fm.atom,Fm.var,Fm.parts,Tm.name,Tm.args];refine callF (zb5 (zal s0 ((kk+1)+1)).2 Yp Yp) (by simp -implicitDefEqProofs only[go_sem,w0,w1,w2]) ?_;simp -implicitDefEqProofs only[go_sem,w0,w1,w2];refine zdq (by simp -implicitDefEqProofs only[go_sem,implies_true,w0,w1,w2]) ?_;simp -implicitDefEqProofs only[go_sem,implies_true,w0,w1,w2];refine callN (l:=[(0,.one (.ow 0 0)),(1000000,.one (.ow 0 0)),(5,vI dn.length),(48,.one (.cv (vs dn.length 4))),(49,vI (((zal s0 ((kk+1)+1)).2+1):Nat))]) (bl:=[]) (el:=[(0,⟨true,5,dn.map fmC++[.int .i64 ((kk:Nat):Int),.str (mtx (kk+1)),tmS (zal s0 ((kk+1)+1)).1,.str (mtx (zal s0 ((kk+1)+1)).2),.pin (vs dn.length 4) (fmS p0)]::zdz vs (dn.length+1) (rest.map fmC),0,true⟩)]) 0 dn.length 4 (H (.mk o0 (.mk n0 s0) v0 p0) (h5 _ (by simp)) ((zal s0 ((kk+1)+1)).2+1) Yp (by show((zal s0 ((kk+1)+1)).2+1)+zdf p0<=_;omega)) (by simp -implicitDefEqProofs only[go_sem,w0,w1,w2,fmS]) rfl rfl rfl (by simp -implicitDefEqProofs only[go_sem,fmS,Fm.op,Fm.atom,Fm.var,Fm.parts,Tm.name,Tm.args]) rfl ?_;simp -implicitDefEqProofs only[go_sem,w0,w1,w2,Fm.op,Fm.atom,Fm.var,Fm.parts,Tm.name,Tm.args];refine⟨(dn++[.mk ((kk:Nat):Int) (.mk (mtx (kk+1)) (zal s0 ((kk+1)+1)).1) (mtx (zal s0 ((kk+1)+1)).2) (za1 p0 ((zal s0 ((kk+1)+1)).2+1)).1],rest,(za1 p0 ((zal s0 ((kk+1)+1)).2+1)).2),⟨by simpa using h1,h2,by show 0<(za1 p0 ((zal s0 ((kk+1)+1)).2+1)).2;omega,by show(za1 p0 ((zal s0 ((kk+1)+1)).2+1)).2+zdf rest<=_;omega,by simp;omega,fun b hb=>h5 b (by simp[hb])⟩,by simp,zac ?_⟩;simp -implicitDefEqProofs only[go_sem,wl,zaa (.mk _ _ _ _),Fm.op,Fm.atom,Fm.var,Fm.parts,Tm.name,Tm.args,Q2,Kf]
theorem zc8 (xs:List Fm)(k:Nat)(h0:0<k)(hk:k+zdf xs<=4611686018427387904):IC Tryz.prog 63 [] (.one (fmS xs)) [iD k] (.one (fmS (za1 xs k).1)) [iD (za1 xs k).2] :=
 zg0 xs (fun a _=>zcn (P:=fun a=>∀k:Nat,0<k->k+zdf a.parts<=4611686018427387904->IC Tryz.prog 63 [] (.one (fmS a.parts)) [iD k] (.one (fmS (za1 a.parts k).1)) [iD (za1 a.parts k).2]) (fun o b v ps ih=>zg0 ps ih) a) k h0 hk
theorem zg2 (xs:List Fm)(H:∀a∈xs,∀k:Nat,0<k->k+zdf a.parts<=4611686018427387904->FC Tryz.prog 64 [.one (fmS (za1 a.parts k).1),iD k] [iD (za1 a.parts k).2]) :
  ∀k:Nat,0<k->k+zdf xs<=4611686018427387904->FC Tryz.prog 64 [.one (fmS (za1 xs k).1),iD k] [iD (za1 xs k).2]:=by
 intro k h0 hk
 refine zad Tryz.call64 Tryz.func64 rfl Yo (zao Yo) ?_
 simp -implicitDefEqProofs only[go_sem,Tryz.results64]
 refine zag (fun(x:List Fm×List Fm×Nat)=>hd [(0,vT (.sl 5 (x.1.map fmC++(za1 x.2.1 x.2.2).1.map fmC))),(1,vI x.2.2),(5,vI x.1.length)] [] [])
  (fun x=>(za1 xs k).1=x.1++(za1 x.2.1 x.2.2).1/\(za1 xs k).2=(za1 x.2.1 x.2.2).2/\0<x.2.2/\x.2.2+zdf x.2.1<=4611686018427387904/\x.1.length+x.2.1.length=xs.length/\∀a∈x.2.1,a∈xs) (fun x=>x.2.1.length) ([],xs,k) (zac ?_) ?_ ?_
 ·simp -implicitDefEqProofs only[go_sem]
 ·exact⟨rfl,rfl,h0,hk,by simp,fun _ h=>h⟩
 ·intro ⟨dn,rest,kk⟩ ⟨h1,h2,h3,h4,h6,h5⟩;simp only at h1 h2 h3 h4 h5 h6;cases rest with
  | nil =>
   simp only[za1,Kh]at h1 h2;simp -implicitDefEqProofs only[go_sem,h2,za1]
  | cons a rest =>
   obtain⟨o0,⟨n0,s0⟩,v0,p0⟩:=a;simp only[za1,zht,zdf,zis]at h1 h2 h4;have hc_s0:=zb1 s0 ((kk+1)+1);have hc_p0:=zca p0 ((zal s0 ((kk+1)+1)).2+1);have w0:IntKind.i64.wrap (((kk:Nat):Int)+1)=((kk+1:Nat):Int):=zap Yp;have w1:IntKind.i64.wrap ((((kk+1):Nat):Int)+1)=(((kk+1)+1:Nat):Int):=zap Yp;have w2:IntKind.i64.wrap ((((zal s0 ((kk+1)+1)).2:Nat):Int)+1)=(((zal s0 ((kk+1)+1)).2+1:Nat):Int):=zap Yp;have hln:=zmg xs;rw[Qi]at h6;have wl:IntKind.i64.wrap ((dn.length:Int)+1)=((dn.length+1:Nat):Int):=zap Yp;simp -implicitDefEqProofs only[go_sem,za1,zht,zaa (.mk _ _ _ _),Fm.op,Fm.atom,Fm.var,Fm.parts,Tm.name,Tm.args];simp only[K7];simp -implicitDefEqProofs only[go_sem,w0,w1,w2];refine drawn Yo ?_;simp -implicitDefEqProofs only[go_sem];refine zav (zb5 (kk+1) Yp Yp) (by simp -implicitDefEqProofs only[go_sem,Qw,K7,w0,w1,w2]) ?_;simp -implicitDefEqProofs only[go_sem,Qw,K7,w0,w1,w2];refine⟨Yo,?_⟩;refine callF (zl4 s0 ((kk+1)+1) Yp Yp) (by simp -implicitDefEqProofs only[go_sem,w0,w1,w2,Fm.op,Fm.atom,Fm.var,Fm.parts,Tm.name,Tm.args]) ?_;simp -implicitDefEqProofs only[go_sem,w0,w1,w2,Fm.op,Fm.atom,Fm.var,Fm.parts,Tm.name,Tm.args];refine drawn Yo ?_;simp -implicitDefEqProofs only[go_sem];refine zav (zb5 (zal s0 ((kk+1)+1)).2 Yp Yp) (by simp -implicitDefEqProofs only[go_sem,Qw,K7,w0,w1,w2]) ?_;simp -implicitDefEqProofs only[go_sem,Qw,K7,w0,w1,w2];refine⟨Yo,?_⟩;refine callF (H (.mk o0 (.mk n0 s0) v0 p0) (h5 _ (by simp)) ((zal s0 ((kk+1)+1)).2+1) Yp (by show((zal s0 ((kk+1)+1)).2+1)+zdf p0<=_;omega)) (by simp -implicitDefEqProofs only[go_sem,w0,w1,w2,Fm.op,Fm.atom,Fm.var,Fm.parts,Tm.name,Tm.args]) ?_;simp -implicitDefEqProofs only[go_sem,w0,w1,w2,Fm.op,Fm.atom,Fm.var,Fm.parts,Tm.name,Tm.args];refine⟨(dn++[.mk ((kk:Nat):Int) (.mk (mtx (kk+1)) (zal s0 ((kk+1)+1)).1) (mtx (zal s0 ((kk+1)+1)).2) (za1 p0 ((zal s0 ((kk+1)+1)).2+1)).1],rest,(za1 p0 ((zal s0 ((kk+1)+1)).2+1)).2),⟨by simpa using h1,h2,by show 0<(za1 p0 ((zal s0 ((kk+1)+1)).2+1)).2;omega,by show(za1 p0 ((zal s0 ((kk+1)+1)).2+1)).2+zdf rest<=_;omega,by simp;omega,fun b hb=>h5 b (by simp[hb])⟩,by simp,zac ?_⟩;simp -implicitDefEqProofs only[go_sem,wl,zaa (.mk _ _ _ _),Fm.op,Fm.atom,Fm.var,Fm.parts,Tm.name,Tm.args,Q2,Kf]
theorem zfk (xs:List Fm)(k:Nat)(h0:0<k)(hk:k+zdf xs<=4611686018427387904):FC Tryz.prog 64 [.one (fmS (za1 xs k).1),iD k] [iD (za1 xs k).2] :=
 zg2 xs (fun a _=>zcn (P:=fun a=>∀k:Nat,0<k->k+zdf a.parts<=4611686018427387904->FC Tryz.prog 64 [.one (fmS (za1 a.parts k).1),iD k] [iD (za1 a.parts k).2]) (fun o b v ps ih=>zg2 ps ih) a) k h0 hk
def zck:Tm->Nat->Tm×Nat
 | .mk n0 s0,k=>(.mk n0 (zal s0 k).1,(zal s0 k).2)
def zh4:Tm->Nat
 | .mk n0 s0=>zc7 s0
theorem qbk:∀(a:Tm)(k:Nat),k<=(zck a k).2/\(zck a k).2<=k+zh4 a
 | .mk n0 s0,k=>by have h0:=zb1 s0 k;simp only[zck,zh4];omega
theorem zos (a:Tm)(k:Nat)(h0:0<k)(hk:k+zh4 a<=4611686018427387904):IC Tryz.prog 56 [] (.agg (tmC a)) [iD k] (.agg (tmC (zck a k).1)) [iD (zck a k).2]:=by
 obtain⟨n0,s0⟩:=a
 simp only[zh4]at hk
 have hc0:=zb1 s0 k
 simp only[zab (.mk _ _),Tm.name,Tm.args,zck]
 refine qnc Tryz.call56 Tryz.func56 rfl Yo (by simp only[zdm,rd,Qf,Qo,Kx,Qi,Q4,Tryz.ntmps56];omega) (by simp only[Tryz.ntmps56];omega) ⟨⟨by simp,by simp[T.isPin]⟩,zcl _⟩ trivial ?_
 simp -implicitDefEqProofs only[go_sem,Tryz.results56,zjm,zdm,PI]
 refine zou (l:=[(1000000,.agg [.t (.str n0),.ow 1 0]),(2,.one (.bx 2 0)),(6,.one (.ow 1 0)),(7,vI (k:Nat))]) (bl:=[(2,[.t (.str n0),.ow 1 0])]) (el:=[(1,⟨true,2,(s0).map tmC,0,true⟩)]) (zez s0 k Yp Yp) (by simp -implicitDefEqProofs only[go_sem,zab (.mk _ _),Tm.name,Tm.args,tmS]) rfl rfl rfl (by simp -implicitDefEqProofs only[go_sem,zab (.mk _ _),Tm.name,Tm.args,tmS]) rfl ?_
 simp -implicitDefEqProofs only[go_sem,zab (.mk _ _),Tm.name,Tm.args,tmS]
def zhk:Fm->Nat->Fm×Nat
 | .mk o0 (.mk n0 s0) v0 p0,k=>(.mk o0 (.mk n0 (zck (.mk n0 s0) k).1.args) v0 (za1 p0 (zck (.mk n0 s0) k).2).1,(za1 p0 (zck (.mk n0 s0) k).2).2)
def zjy:Fm->Nat
 | .mk o0 (.mk n0 s0) v0 p0=>zh4 (.mk n0 s0)+zdf p0
theorem zq5 (a:Fm)(k:Nat)(h0:0<k)(hk:k+zjy a<=4611686018427387904):IC Tryz.prog 55 [] (.agg (fmC a)) [iD k] (.agg (fmC (zhk a k).1)) [iD (zhk a k).2]:=by
 obtain⟨o0,⟨n0,s0⟩,v0,p0⟩:=a
 simp only[zjy]at hk
 have hc0:=qbk (.mk n0 s0) k
 have hc1:=zca p0 (zck (.mk n0 s0) k).2
 simp only[zaa (.mk _ _ _ _),zab (.mk _ _),Fm.op,Fm.atom,Fm.var,Fm.parts,Tm.name,Tm.args,zhk,zck]
 refine qnc Tryz.call55 Tryz.func55 rfl Yo (by simp only[zdm,rd,Qf,Qo,Kx,Qi,Q4,Tryz.ntmps55];omega) (by simp only[Tryz.ntmps55];omega) ⟨⟨by simp,by simp[T.isPin]⟩,zcl _⟩ trivial ?_
 simp -implicitDefEqProofs only[go_sem,Tryz.results55,zjm,zdm,PI]
 refine zou (l:=[(1000000,.agg [.t (.int .i64 o0),.t (.str n0),.ow 2 0,.t (.str v0),.ow 4 0]),(2,.one (.bx 2 0)),(6,.agg [.t (.str n0),.ow 2 0]),(7,vI (k:Nat))]) (bl:=[(2,[.t (.int .i64 o0),.t (.str n0),.ow 2 0,.t (.str v0),.ow 4 0])]) (el:=[(2,⟨true,2,(s0).map tmC,0,true⟩),(4,⟨true,5,(p0).map fmC,0,true⟩)]) (zos (.mk n0 s0) k Yp Yp) (by simp -implicitDefEqProofs only[go_sem,zaa (.mk _ _ _ _),zab (.mk _ _),Fm.op,Fm.atom,Fm.var,Fm.parts,Tm.name,Tm.args,zck,tmS]) rfl rfl rfl (by simp -implicitDefEqProofs only[go_sem,zaa (.mk _ _ _ _),zab (.mk _ _),Fm.op,Fm.atom,Fm.var,Fm.parts,Tm.name,Tm.args,zck,tmS]) rfl ?_
 simp -implicitDefEqProofs only[go_sem,zaa (.mk _ _ _ _),zab (.mk _ _),Fm.op,Fm.atom,Fm.var,Fm.parts,Tm.name,Tm.args,zck,tmS]
 refine zou (l:=[(1000000,.agg [.t (.int .i64 o0),.t (.str n0),.ow 2 0,.t (.str v0),.ow 4 0]),(2,.one (.bx 2 0)),(10,.one (.ow 4 0)),(11,vI ((zck (.mk n0 s0) k).2:Nat))]) (bl:=[(2,[.t (.int .i64 o0),.t (.str n0),.ow 2 0,.t (.str v0),.ow 4 0])]) (el:=[(2,⟨true,2,((zal s0 k).1).map tmC,0,true⟩),(4,⟨true,5,(p0).map fmC,0,true⟩)]) (zc8 p0 (zck (.mk n0 s0) k).2 Yp Yp) (by simp -implicitDefEqProofs only[go_sem,zaa (.mk _ _ _ _),zab (.mk _ _),Fm.op,Fm.atom,Fm.var,Fm.parts,Tm.name,Tm.args,zck,fmS]) rfl rfl rfl (by simp -implicitDefEqProofs only[go_sem,zaa (.mk _ _ _ _),zab (.mk _ _),Fm.op,Fm.atom,Fm.var,Fm.parts,Tm.name,Tm.args,zck,fmS]) rfl ?_
 simp -implicitDefEqProofs only[go_sem,zaa (.mk _ _ _ _),zab (.mk _ _),Fm.op,Fm.atom,Fm.var,Fm.parts,Tm.name,Tm.args,zck,fmS]
def zcf:Sq->Nat->Sq×Nat
 | ⟨l0,r0⟩,k=>(⟨(za1 l0 k).1,(za1 r0 (za1 l0 k).2).1⟩,(za1 r0 (za1 l0 k).2).2)
def zdi:Sq->Nat
 | ⟨l0,r0⟩=>zdf l0+zdf r0
theorem zqt:∀(a:Sq)(k:Nat),k<=(zcf a k).2/\(zcf a k).2<=k+zdi a
 | ⟨l0,r0⟩,k=>by have h0:=zca l0 k;have h26:=zca r0 (za1 l0 k).2;simp only[zcf,zdi];omega
theorem zps (a:Sq)(k:Nat)(h0:0<k)(hk:k+zdi a<=4611686018427387904):IC Tryz.prog 27 [] (.agg (sqC a)) [iD k] (.agg (sqC (zcf a k).1)) [iD (zcf a k).2]:=by
 obtain⟨l0,r0⟩:=a
 simp only[zdi]at hk
 have hc0:=zca l0 k
 have hc1:=zca r0 (za1 l0 k).2
 simp only[ze0,zcf]
 refine qnc Tryz.call27 Tryz.func27 rfl Yo (by simp only[zdm,rd,Qf,Qo,Kx,Qi,Q4,Tryz.ntmps27];omega) (by simp only[Tryz.ntmps27];omega) ⟨⟨by simp,by simp[T.isPin]⟩,zcl _⟩ trivial ?_
 simp -implicitDefEqProofs only[go_sem,Tryz.results27,zjm,zdm,PI]
 refine zou (l:=[(1000000,.agg [.ow 0 0,.ow 1 0]),(2,.one (.bx 2 0)),(6,.one (.ow 0 0)),(7,vI (k:Nat))]) (bl:=[(2,[.ow 0 0,.ow 1 0])]) (el:=[(0,⟨true,5,(l0).map fmC,0,true⟩),(1,⟨true,5,(r0).map fmC,0,true⟩)]) (zc8 l0 k Yp Yp) (by simp -implicitDefEqProofs only[go_sem,ze0,fmS]) rfl rfl rfl (by simp -implicitDefEqProofs only[go_sem,ze0,fmS]) rfl ?_
 simp -implicitDefEqProofs only[go_sem,ze0,fmS]
 refine zou (l:=[(1000000,.agg [.ow 0 0,.ow 1 0]),(2,.one (.bx 2 0)),(10,.one (.ow 1 0)),(11,vI ((za1 l0 k).2:Nat))]) (bl:=[(2,[.ow 0 0,.ow 1 0])]) (el:=[(0,⟨true,5,((za1 l0 k).1).map fmC,0,true⟩),(1,⟨true,5,(r0).map fmC,0,true⟩)]) (zc8 r0 (za1 l0 k).2 Yp Yp) (by simp -implicitDefEqProofs only[go_sem,ze0,fmS]) rfl rfl rfl (by simp -implicitDefEqProofs only[go_sem,ze0,fmS]) rfl ?_
 simp -implicitDefEqProofs only[go_sem,ze0,fmS]
end
section
open Go.RowKit
mutual
theorem qfy:∀a:Tm,zig a<=2+2*a.wt
 | .mk n s=>by
  have:=ze8 s;rw[Tm.wt_eq,zig];unfold zrg at this;simp only[Tm.name,Tm.args];omega
theorem ze8:∀xs:List Tm,zc7 xs<=2*zrg xs
 | []=>by simp[zc7]
 | a::xs=>by
  have h1:=qfy a;have h2:=ze8 xs;unfold zrg at h2⊢;rw[zc7,Qi,Qf,Jd];omega
end
mutual
theorem qid:∀a:Fm,zis a<=4+4*a.wt
 | .mk o (.mk n s) v p=>by
  have h1:=ze8 s;have h2:=zf8 p;rw[Fm.wt_eq,zis];unfold zh8 at h2;unfold zrg at h1;simp only[Fm.atom,Fm.var,Fm.parts];rw[Tm.wt_eq];simp only[Tm.name,Tm.args];omega
theorem zf8:∀xs:List Fm,zdf xs<=4*zh8 xs
 | []=>by simp[zdf]
 | a::xs=>by
  have h1:=qid a;have h2:=zf8 xs;unfold zh8 at h2⊢;rw[zdf,Qi,Qf,Jd];omega
end
end
section
open Go.RowKit
theorem zvp (f:Fm)(hs:f.wt<=1099511627776):GC Tryz.prog 177 [(true,fmD f)] [fmD (if f.good=true then f else mkF 0 []),bD f.good]:=by
 cases h:f.good
 ·rw[if_neg (by simp)];simp only[fmD,zaa f,zjf,Qo];refine qm9 Tryz.call177 Tryz.func177 rfl Yo (by simp only[Qi,Q4,Tryz.ntmps177];omega) (by simp[zcg,T.isPin]) ?_;simp -implicitDefEqProofs only[go_sem,Tryz.results177];refine callF (zce f hs) (by simp -implicitDefEqProofs only[go_sem,zaa f,h]) ?_;simp -implicitDefEqProofs only[go_sem,zaa f,h]
 ·rw[if_pos rfl];simp only[fmD,zaa f];refine qm9 Tryz.call177 Tryz.func177 rfl Yo (by simp only[Qi,Q4,Tryz.ntmps177];omega) (by simp[zcg,T.isPin]) ?_;simp -implicitDefEqProofs only[go_sem,Tryz.results177];refine callF (zce f hs) (by simp -implicitDefEqProofs only[go_sem,zaa f,h]) ?_;simp -implicitDefEqProofs only[go_sem,zaa f,h]
end
section
open Go.RowKit
theorem qhp {n m:Str}(hn:zbd n=true)(hm:zeb m=true):(n==m)=false:=by
 rw[Jj]
 rintro rfl
 have h1:=(zzn hn).1
 have h2:=(zsu hm).1
 rw[h1]at h2
 cases h2
theorem qs8 (v:Str)(hv:zbd v=true):∀a:Tm,a.names=true->(decide (0<zi7 v a)=(voS a).contains v):=zb4 fun m xs ih h=>by
 rw[Tm.names_eq]at h
 rw[zwp,zt7]
 change (if zbd m=true then decide (xs.length=0)else zeb m&&decide (xs.length<=4)&&xs.all Tm.names)=true at h
 change decide (0<(if(m==v)=true then 1 else 0)+(xs.map (zi7 v)).sum)=(if zbd m=true then [m]else (xs.map voS).flatten).contains v
 rw[Kl,Kb,Jl]
 by_cases hm:zbd m=true
 ·rw[if_pos hm]at h⊢;have hx:xs=[]:=Kr.1 (K8 h);subst hx;simp only[Qo,List.sum_nil,Qy,Kk];by_cases e:m=v
  ·simp[e]
  ·simp[e];exact fun h=>e h.symm
 ·rw[if_neg hm]at h⊢;simp only[Qe]at h;have hne:=qhp hv h.1.1;have hmv:(m==v)=false:=by rw[Jj]at hne⊢;exact fun e=>hne e.symm
  rw[hmv,if_neg (by simp),Q5];have hI:∀x∈xs,(0<zi7 v x↔v∈voS x):=fun x hx=>by
   have:=ih x hx (Qx.1 h.2 x hx)
   rwa [Kl,Kb,Jl]at this
  clear ih h;rw[List.mem_flatten];constructor
  ·intro hs;have:∃x∈xs,0<zi7 v x:=by
    revert hs;clear hI;induction xs with
    | nil=>simp
    | cons x xs ih2 =>
     intro hs;simp only[Qf,Jd]at hs;by_cases h0:0<zi7 v x
     ·exact⟨x,by simp,h0⟩
     ·obtain⟨y,hy,h1⟩:=ih2 Yp;exact⟨y,by simp[hy],h1⟩
   obtain⟨x,hx,h1⟩:=this;exact⟨voS x,Ka.2 ⟨x,hx,rfl⟩,(hI x hx).1 h1⟩
  ·rintro⟨l,hl,hv2⟩;obtain⟨x,hx,rfl⟩:=Ka.1 hl;have h1:=(hI x hx).2 hv2;have h2:=zbz (zi7 v) xs x hx;omega
theorem vf_mem:∀(f:Fm)(b:List Str)(x:Str),x∈vf f b↔x∈vf f []/\x∉b:=zcn fun o a v ps ih b x=>by
 rw[qbh (.mk o a v ps) b,qbh (.mk o a v ps) []]
 change x∈(if(o==3)=true then (zbl [] (voS a)).filter (fun s=>!b.contains s)else (ps.map fun y=>vf y (if isQ o=true then b++[v]else b)).flatten)↔x∈(if(o==3)=true then (zbl [] (voS a)).filter (fun s=>!([]:List Str).contains s)else (ps.map fun y=>vf y (if isQ o=true then []++[v]else [])).flatten)/\x∉b
 split
 ·simp[Ju]
 ·have hI:∀y∈ps,∀c,x∈vf y c↔x∈vf y []/\x∉c:=fun y hy c=>ih y hy c x;simp only[List.mem_flatten,Ka];constructor
  ·rintro⟨l,⟨y,hy,rfl⟩,hx⟩;rw[hI y hy]at hx;refine⟨⟨_,⟨y,hy,rfl⟩,?_⟩,?_⟩
   ·rw[hI y hy];refine⟨hx.1,fun hm=>hx.2 ?_⟩;split at hm
    ·rw[if_pos ‹_›];simp at hm;simp[hm]
    ·simp at hm
   ·intro hm;apply hx.2;split
    ·simp[hm]
    ·exact hm
  ·rintro⟨⟨l,⟨y,hy,rfl⟩,hx⟩,hb⟩;rw[hI y hy]at hx;refine⟨_,⟨y,hy,rfl⟩,?_⟩;rw[hI y hy];refine⟨hx.1,fun hm=>?_⟩;split at hm
   ·rw[if_pos ‹_›]at hx;rcases Qm.1 hm with hm|hm
    ·exact hb hm
    ·exact hx.2 (by simpa using hm)
   ·exact hb hm
theorem zha (l:List Str)(n:Str):(zbl [] l).contains n=l.contains n:=by
 rw[Kl,Jl,Jl,zmn];simp
theorem qlf {f q:Fm}{n:Str}(hq:isQ f.op=true)(hp:f.parts=[q])(hn:(f.var==n)=false):(zbl [] (vf f [])).contains n=(zrm f.parts).contains n:=by
 have h3:(f.op==3)=false:=by
  rw[Jj];intro e;rw[e]at hq;exact absurd hq (by decide)
 rw[zha,hp]
 show _=(zbl [] (vf q [])).contains n
 rw[zha,Kl,Jl,Jl,qbh f [],h3,if_neg (by simp),if_pos hq,hp]
 simp only[Qf,Qo,Kc,List.flatten_nil,Kh,Kx]
 rw[vf_mem]
 rw[Jj]at hn
 constructor
 ·exact fun h=>h.1
 ·exact fun h=>⟨h,by simpa using fun e=>hn e.symm⟩
theorem ztj (n:Str)(t:Tm)(hn:zbd n=true)(ht:t.names=true):∀a:Tm,a.names=true->zgo n t a=zfn (bnd n t) a:=zb4 fun m xs ih h=>by
 rw[Tm.names_eq]at h
 rw[zq3,zrb]
 change (if zbd m=true then decide (xs.length=0)else zeb m&&decide (xs.length<=4)&&xs.all Tm.names)=true at h
 change (if xs.length=0 then (if(n==m)=true then t else .mk m [])else .mk m (xs.map (zgo n t)))=(if zbd m=true then (match (bnd n t).find? fun(p:Str×Tm)=>p.1==m with|some p=>p.2|none=>.mk m [])else .mk m (xs.map (zfn (bnd n t))))
 by_cases hm:zbd m=true
 ·rw[if_pos hm]at h⊢;rw[if_pos (K8 h)];unfold bnd;cases htn:t.name==n
  ·cases hnm:n==m<;>simp only[hnm,if_true,if_false,Ql,List.find?_cons,List.find?_nil]
  ·cases hnm:n==m
   ·simp only[if_true,if_false,Ql,List.find?_nil]
   ·simp only[if_true,List.find?_nil];have e1:t.name=m:=by rw[Kk]at htn hnm;rw[htn,hnm]
    rw[Tm.names_eq,e1,if_pos hm]at ht;have e2:t.args=[]:=Kr.1 (K8 ht);cases t with
    | mk tn ta=>simp only[Tm.name,Tm.args]at e1 e2;rw[e1,e2]
 ·rw[if_neg hm]at h⊢;simp only[Qe]at h;have hne:=qhp hn h.1.1;by_cases hx:xs.length=0
  ·rw[if_pos hx,hne,if_neg (by simp)];have hx:xs=[]:=Kr.1 hx;subst hx;rfl
  ·rw[if_neg hx];rw[K0 fun x hx=>ih x hx (Qx.1 h.2 x hx)]
theorem qj1 (n:Str)(t:Tm)(hn:zbd n=true)(ht:t.names=true)(a:Tm)(h:a.atomOk=true):zgo n t a=zfn (bnd n t) a:=by
 unfold Tm.atomOk at h
 split at h
 ·rename_i he;have he:a.name=[61]:=by simpa using he
  simp only[Qe,Kb]at h;rw[zq3,zrb,he,show zbd [61]=false by decide,if_neg Yp,if_neg (by simp)];rw[K0 fun x hx=>ztj n t hn ht x (Qx.1 h.2 x hx)]
 ·simp only[Qe]at h;have:=h.2;unfold Tm.good at this;rw[Qe]at this;exact ztj n t hn ht a this.2
theorem noneT {a:Tm}(h:a.none=true):a=.mk [] []:=by
 unfold Tm.none at h
 rw[Qe,Kk,Kb,Kr]at h
 cases a with
 | mk n xs=>simp only[Tm.name,Tm.args]at h;rw[h.1,h.2]
theorem zr6 {f:Fm}(h:f.here=true)(h3:(f.op==3)=false):f.atom=.mk [] []:=by
 apply noneT
 unfold Fm.here at h
 rw[h3]at h
 simp only[Ql,if_false]at h
 split at h
 ·simp only[Qe]at h;exact h.1.2
 ·split at h
  ·simp only[Qe]at h;exact h.1.2
  ·split at h
   ·simp only[Qe]at h;exact h.1.2
   ·split at h
    ·simp only[Qe]at h;exact h.1.2
    ·cases h
theorem zm7 {f:Fm}{ps:List Fm}(h:f.here=true)(h3:(f.op==3)=false)(hl:ps.length=f.parts.length):(Fm.mk f.op f.atom f.var ps).here=true:=by
 have e:(Fm.mk f.op f.atom f.var ps).here=f.here:=by
  unfold Fm.here;show(if(f.op==1||f.op==2)=true then decide (ps.length=0)&&f.atom.none&&(f.var==[])else if(f.op==3)=true then decide (ps.length=0)&&f.atom.atomOk&&(f.var==[])else if(f.op==4)=true then decide (ps.length=1)&&f.atom.none&&(f.var==[])else if zky f.op=true then decide (ps.length=2)&&f.atom.none&&(f.var==[])else if isQ f.op=true then decide (ps.length=1)&&f.atom.none&&zbd f.var else false)=_
  rw[hl]
 rw[e];exact h
theorem here_q {f:Fm}(h1:f.here=true)(h:isQ f.op=true):zbd f.var=true:=by
 unfold Fm.here at h1
 have h2:(f.op==1||f.op==2)=false/\(f.op==3)=false/\(f.op==4)=false/\zky f.op=false:=by
  have h8:f.op=8\/f.op=9:=by unfold isQ at h;rw[K5,Kk,Kk]at h;exact h
  rcases h8 with e|e<;>rw[e]<;>decide
 rw[h2.1,h2.2.1,h2.2.2.1,h2.2.2.2,h]at h1
 simp only[Ql,if_false,if_true,Qe]at h1
 exact h1.2
theorem zhj (o:Int)(a:Tm)(v:Str)(ps:List Fm):(Fm.mk o a v ps).forms=((Fm.mk o a v ps).here&&ps.all Fm.forms):=Fm.forms_eq _
theorem zvv (n:Str)(t:Tm)(hn:zbd n=true)(ht:t.names=true):∀f:Fm,f.forms=true->(((zd2 n t f).2=true/\(zd2 n t f).1.forms=true)↔((zbx n t f).2=true/\(zbx n t f).1.forms=true))/\((zbx n t f).2=true->(zbx n t f).1.forms=true->(zd2 n t f).1=(zbx n t f).1):=zcn fun o a v ps ih hf=>by
 have hS:=zw6 n t (.mk o a v ps)
 have hP:=zpe n t (.mk o a v ps)
 have hf0:=hf
 rw[Fm.forms_eq,Qe]at hf0
 obtain⟨hh,hps⟩:=hf0
 have hps:∀x∈ps,x.forms=true:=Qx.1 hps
 have ihx:∀x∈ps,_:=fun x hx=>ih x hx (hps x hx)
 cases h3:o==3
 ·have h3':((Fm.mk o a v ps).op==3)=false:=h3;have ha:a=.mk [] []:=zr6 hh h3';have hall:(∀x∈ps,(zd2 n t x).2=true/\(zd2 n t x).1.forms=true)↔(∀x∈ps,(zbx n t x).2=true/\(zbx n t x).1.forms=true):=forall_congr' fun x=>forall_congr' fun hx=>(ihx x hx).1;have main:((zd2 n t (.mk o a v ps))=(.mk o a v (ps.map fun x=>(zd2 n t x).1),ps.all fun x=>(zd2 n t x).2))->((zbx n t (.mk o a v ps))=(.mk o a v ((ps.takeWhile fun x=>(zbx n t x).2).map fun x=>(zbx n t x).1),ps.all fun x=>(zbx n t x).2))->_:=fun e1 e2=>by
   have l1:((zd2 n t (.mk o a v ps)).2=true/\(zd2 n t (.mk o a v ps)).1.forms=true)↔(∀x∈ps,(zd2 n t x).2=true/\(zd2 n t x).1.forms=true):=by
    rw[e1];show((ps.all fun x=>(zd2 n t x).2)=true/\(Fm.mk o a v (ps.map fun x=>(zd2 n t x).1)).forms=true)↔_
    rw[zhj,Qx,Qe,Qx];have hhe:(Fm.mk o a v (ps.map fun x=>(zd2 n t x).1)).here=true:=zm7 (f:=.mk o a v ps) hh h3' (by show(ps.map _).length=ps.length;rw[Qa]);constructor
    ·rintro⟨h1,_,h2⟩ x hx;exact⟨h1 x hx,h2 _ (Ka.2 ⟨x,hx,rfl⟩)⟩
    ·intro h;refine⟨fun x hx=>(h x hx).1,hhe,fun y hy=>?_⟩;obtain⟨x,hx,rfl⟩:=Ka.1 hy;exact(h x hx).2
   have l2:((zbx n t (.mk o a v ps)).2=true/\(zbx n t (.mk o a v ps)).1.forms=true)↔(∀x∈ps,(zbx n t x).2=true/\(zbx n t x).1.forms=true):=by
    rw[e2];show((ps.all fun x=>(zbx n t x).2)=true/\(Fm.mk o a v ((ps.takeWhile fun x=>(zbx n t x).2).map fun x=>(zbx n t x).1)).forms=true)↔_
    constructor
    ·rintro⟨h1,h2⟩ x hx;have hw:(ps.takeWhile fun x=>(zbx n t x).2)=ps:=by
      have:=(zc0 (l:=ps) (p:=fun x=>(zbx n t x).2) (k:=ps.length) (Qz _) (by rw[Kv];exact Qx.1 h1) fun h=>absurd h (Yc _)).1;rw[this,Kv]
     rw[hw,zhj,Qe,Qx]at h2;exact⟨Qx.1 h1 x hx,h2.2 _ (Ka.2 ⟨x,hx,rfl⟩)⟩
    ·intro h;have h1:(ps.all fun x=>(zbx n t x).2)=true:=Qx.2 fun x hx=>(h x hx).1;have hw:(ps.takeWhile fun x=>(zbx n t x).2)=ps:=by
      have:=(zc0 (l:=ps) (p:=fun x=>(zbx n t x).2) (k:=ps.length) (Qz _) (by rw[Kv];exact Qx.1 h1) fun h=>absurd h (Yc _)).1;rw[this,Kv]
     have hhe:(Fm.mk o a v (ps.map fun x=>(zbx n t x).1)).here=true:=zm7 (f:=.mk o a v ps) hh h3' (by show(ps.map _).length=ps.length;rw[Qa]);rw[hw,zhj,Qe];refine⟨h1,hhe,Qx.2 fun y hy=>?_⟩;obtain⟨x,hx,rfl⟩:=Ka.1 hy;exact(h x hx).2
   refine(⟨l1.trans (hall.trans l2.symm),fun p1 p2=>?_⟩:(((zd2 n t (.mk o a v ps)).2=true/\(zd2 n t (.mk o a v ps)).1.forms=true)↔((zbx n t (.mk o a v ps)).2=true/\(zbx n t (.mk o a v ps)).1.forms=true))/\((zbx n t (.mk o a v ps)).2=true->(zbx n t (.mk o a v ps)).1.forms=true->(zd2 n t (.mk o a v ps)).1=(zbx n t (.mk o a v ps)).1));have hA:=l2.1 ⟨p1,p2⟩;have h1:(ps.all fun x=>(zbx n t x).2)=true:=Qx.2 fun x hx=>(hA x hx).1;have hw:(ps.takeWhile fun x=>(zbx n t x).2)=ps:=by
    have:=(zc0 (l:=ps) (p:=fun x=>(zbx n t x).2) (k:=ps.length) (Qz _) (by rw[Kv];exact Qx.1 h1) fun h=>absurd h (Yc _)).1;rw[this,Kv]
   rw[e1,e2,hw];show Fm.mk o a v (ps.map fun x=>(zd2 n t x).1)=Fm.mk o a v (ps.map fun x=>(zbx n t x).1)
   rw[K0 fun x hx=>(ihx x hx).2 (hA x hx).1 (hA x hx).2]
  cases hq:isQ o
  ·refine main ?_ ?_
   ·rw[hS];show(if(isQ o&&_)=true then _ else if(isQ o&&_)=true then _ else (Fm.mk o (if(o==3)=true then zgo n t a else a) v _,_))=_
    rw[hq,h3];simp only[Q1,Ql,if_false];rfl
   ·rw[hP];show(if(o==3)=true then _ else if(isQ o&&_)=true then _ else if(isQ o&&_)=true then _ else (Fm.mk o (.mk [] []) v _,_))=_
    rw[hq,h3];simp only[Q1,Ql,if_false];rw[<-ha];rfl
  ·obtain⟨q,hp,hqf⟩:=qk3 (f:=.mk o a v ps) hq hf;cases hvn:v==n
   ·have hfp:=qlf (f:=.mk o a v ps) (n:=n) hq hp hvn;have hvok:zbd v=true:=here_q (f:=.mk o a v ps) hh hq;have hoc:=qs8 v hvok t ht;have hc2:(zbl [] (voS t)).contains v=(voS t).contains v:=zha _ _;have hS2:zd2 n t (.mk o a v ps)=if(!(zrm ps).contains n)=true then (.mk o a v ps,true)else if(voS t).contains v=true then (mkF 0 [],false)else (.mk o a v (ps.map fun x=>(zd2 n t x).1),ps.all fun x=>(zd2 n t x).2):=by
     rw[hS];show(if(isQ o&&(v==n||!((zbl [] (vf (.mk o a v ps) [])).contains n)))=true then _ else if(isQ o&&decide (0<zi7 v t))=true then _ else (Fm.mk o (if(o==3)=true then zgo n t a else a) v _,_))=_
     rw[hfp,hq,hvn,h3,hoc];simp only[Qs,Kt,Ql,if_false];rfl
    have hP2:zbx n t (.mk o a v ps)=if(!(zrm ps).contains n)=true then (.mk o a v ps,true)else if(voS t).contains v=true then (.mk o (.mk [] []) v [],false)else (.mk o a v ((ps.takeWhile fun x=>(zbx n t x).2).map fun x=>(zbx n t x).1),ps.all fun x=>(zbx n t x).2):=by
     rw[hP];show(if(o==3)=true then _ else if(isQ o&&(v==n||!((zrm ps).contains n)))=true then _ else if(isQ o&&(zbl [] (voS t)).contains v)=true then _ else (Fm.mk o (.mk [] []) v _,_))=_
     rw[hq,hvn,h3,hc2];simp only[Qs,Kt,Ql,if_false];rw[<-ha];rfl
    cases hfc:(!(zrm ps).contains n)
    ·rw[hfc]at hS2 hP2;simp only[Ql,if_false]at hS2 hP2;cases hvc:(voS t).contains v
     ·rw[hvc]at hS2 hP2;simp only[Ql,if_false]at hS2 hP2;exact main hS2 hP2
     ·rw[hvc]at hS2 hP2;simp only[if_true]at hS2 hP2;rw[hS2,hP2];exact⟨⟨fun h=>(by cases h.1),fun h=>(by cases h.1)⟩,fun h=>(by cases h)⟩
    ·rw[hfc]at hS2 hP2;simp only[if_true]at hS2 hP2;rw[hS2,hP2];exact⟨Iff.rfl,fun _ _=>rfl⟩
   ·have hS2:zd2 n t (.mk o a v ps)=(.mk o a v ps,true):=by
     rw[hS];show(if(isQ o&&(v==n||_))=true then _ else _)=_
     rw[hq,hvn];simp only[Qs,J1,if_true]
    have hP2:zbx n t (.mk o a v ps)=(.mk o a v ps,true):=by
     rw[hP];show(if(o==3)=true then _ else if(isQ o&&(v==n||_))=true then _ else _)=_
     rw[hq,hvn,h3];simp only[Qs,J1,if_true,Ql,if_false]
    rw[hS2,hP2];exact⟨Iff.rfl,fun _ _=>rfl⟩
 ·have ho3:o=3:=by simpa using h3
  obtain⟨hat,hp⟩:=zg3 (f:=.mk o a v ps) hh ho3;have hp:ps=[]:=hp;have hat:a.atomOk=true:=hat;have hq:isQ o=false:=by rw[ho3];decide
  have hS2:zd2 n t (.mk o a v ps)=(.mk o (zfn (bnd n t) a) v [],true):=by
   rw[hS];show(if(isQ o&&_)=true then _ else if(isQ o&&_)=true then _ else (Fm.mk o (if(o==3)=true then zgo n t a else a) v (ps.map _),ps.all _))=_
   rw[hq,h3,hp];simp only[Q1,Ql,if_false,if_true,Qo,List.all_nil];rw[qj1 n t hn ht a hat]
  have hP2:zbx n t (.mk o a v ps)=(.mk o (zfn (bnd n t) a) v [],(zfn (bnd n t) a).atomOk):=by
   rw[hP];show(if(o==3)=true then _ else _)=_
   rw[h3];rfl
  rw[hS2,hP2];refine⟨⟨fun h=>⟨?_,h.2⟩,fun h=>⟨rfl,h.2⟩⟩,fun _ _=>rfl⟩;have:=h.2;rw[zhj,Qe]at this;exact(zg3 (f:=.mk o (zfn (bnd n t) a) v []) this.1 ho3).1
theorem qt8 {f:Fm}(h:f.good=true):f.forms=true:=(Qe _ _▸h:_/\_).2
noncomputable def sbF (n:Str)(t:Tm)(f:Fm):Fm×Bool:=if(f.good&&zbd n&&t.good&&(zd2 n t f).2&&(zd2 n t f).1.good)=true then ((zd2 n t f).1,true)else (mkF 0 [],false)
theorem zxy (n:Str)(t:Tm)(hn:zbd n=true)(ht:t.names=true)(f:Fm)(hf:f.forms=true):((zd2 n t f).2&&(zd2 n t f).1.good)=((zbx n t f).2&&(zbx n t f).1.good):=by
 obtain⟨h1,h2⟩:=zvv n t hn ht f hf
 rw[Kl,Qe,Qe]
 unfold Fm.good
 rw[Qe,Qe]
 constructor
 ·rintro⟨a,b,c⟩;obtain⟨p,q⟩:=h1.1 ⟨a,c⟩;exact⟨p,by rw[<-h2 p q];exact b,q⟩
 ·rintro⟨a,b,c⟩;obtain⟨p,q⟩:=h1.2 ⟨a,c⟩;exact⟨p,by rw[h2 a c];exact b,q⟩
theorem zh1 (f:Fm)(n:Str)(t:Tm)(hw:f.wt<=1048576)(ht:t.wt<=1048576)(hb:f.wt+(1+f.wt)*t.wt<=1099511627776):FC Tryz.prog 147 [fmD f,sD n,tmD t] [fmD (sbF n t f).1,bD (sbF n t f).2]:=by
 have hv:sbF n t f=if(f.good&&zbd n&&t.good&&(zd2 n t f).2&&(zd2 n t f).1.good)=true then ((zd2 n t f).1,true)else (mkF 0 [],false):=rfl
 have HF:=zce f Yp
 have HN:=zdj n
 have HT:=zdy t Yp
 cases hg:f.good
 ·rw[hg]at hv HF;simp only[Q1,Ql,if_false]at hv;rw[hv];simp only[fmD,zaa f,tmD,zab t,zjf,Qo]at HF⊢;refine zad Tryz.call147 Tryz.func147 rfl Yo (zao Yo) ?_;simp -implicitDefEqProofs only[go_sem,Tryz.results147];refine callF (HF) Yn ?_;simp -implicitDefEqProofs only[go_sem]
 ·cases hn:zbd n
  ·rw[hg,hn]at hv;rw[hg]at HF;rw[hn]at HN;simp only[Q1,Qs,Ql,if_false]at hv;rw[hv];simp only[fmD,zaa f,tmD,zab t,zjf,Qo]at HF⊢;refine zad Tryz.call147 Tryz.func147 rfl Yo (zao Yo) ?_;simp -implicitDefEqProofs only[go_sem,Tryz.results147];refine callF (HF) Yn ?_;simp -implicitDefEqProofs only[go_sem];refine callF (HN) Yn ?_;simp -implicitDefEqProofs only[go_sem]
  ·cases htg:t.good
   ·rw[hg,hn,htg]at hv;rw[hg]at HF;rw[hn]at HN;rw[htg]at HT;simp only[Q1,Qs,Ql,if_false]at hv;rw[hv];simp only[fmD,zaa f,tmD,zab t,zjf,Qo]at HF HT⊢;refine zad Tryz.call147 Tryz.func147 rfl Yo (zao Yo) ?_;simp -implicitDefEqProofs only[go_sem,Tryz.results147];refine callF (HF) Yn ?_;simp -implicitDefEqProofs only[go_sem];refine callF (HN) Yn ?_;simp -implicitDefEqProofs only[go_sem];refine callF (HT) Yn ?_;simp -implicitDefEqProofs only[go_sem]
   ·rw[hg,hn,htg]at hv;rw[hg]at HF;rw[hn]at HN;rw[htg]at HT;have HS:=zqc n t ht f (qt8 hg) hw;have hwt:=qt0 n t f;generalize (zd2 n t f).1=R at HS hv hwt;simp only[Qs]at hv;cases hok:(zd2 n t f).2
    ·rw[hok]at hv HS;simp only[Q1,Ql,if_false]at hv;rw[hv];simp only[fmD,zaa f,tmD,zab t,zaa R,zjf,Qo]at HF HT HS⊢;refine zad Tryz.call147 Tryz.func147 rfl Yo (zao Yo) ?_;simp -implicitDefEqProofs only[go_sem,Tryz.results147];refine callF (HF) Yn ?_;simp -implicitDefEqProofs only[go_sem];refine callF (HN) Yn ?_;simp -implicitDefEqProofs only[go_sem];refine callF (HT) Yn ?_;simp -implicitDefEqProofs only[go_sem];refine callF (HS) Yn ?_;simp -implicitDefEqProofs only[go_sem]
    ·rw[hok]at hv HS;have HI:=zvp R Yp;simp only[Qs]at hv;have hv2:sbF n t f=((if R.good=true then R else mkF 0 []),R.good):=by rw[hv];cases R.good<;>rfl
     rw[hv2];generalize (if R.good=true then R else mkF 0 [])=Z at HI⊢;generalize R.good=G at HI⊢;simp only[fmD,zaa f,tmD,zab t,zaa R,zaa Z]at HF HT HS HI⊢;refine zad Tryz.call147 Tryz.func147 rfl Yo (zao Yo) ?_;simp -implicitDefEqProofs only[go_sem,Tryz.results147];refine callF (HF) Yn ?_;simp -implicitDefEqProofs only[go_sem];refine callF (HN) Yn ?_;simp -implicitDefEqProofs only[go_sem];refine callF (HT) Yn ?_;simp -implicitDefEqProofs only[go_sem];refine callF (HS) Yn ?_;simp -implicitDefEqProofs only[go_sem];refine ze1 [6] [34] [] (HI) Yn Yn Yn Yn ?_;simp -implicitDefEqProofs only[go_sem]
end
end Go.Proofs.YtnemmlahbbbobaaGreat
