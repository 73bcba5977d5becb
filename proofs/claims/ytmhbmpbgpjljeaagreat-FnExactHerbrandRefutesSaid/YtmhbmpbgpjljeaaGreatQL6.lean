/-
  The walk over plain data, and contracts of functions of the program and of its laws.
  Conditions: those that each theorem names.
-/
import Derived.Test.YtmhbmpbgpjljeaaGreatQL5
import Derived.Sort.OwnSorted
import Derived.Sort.KeysCollected
import Derived.Sort.Walk0
import Derived.Laws.AppendOwn
import Derived.Test.YtmhbmpbgpjljeaaGreatQL4
import Derived.Deep.LoopGhost
import Derived.Lib.SliceRun
import Derived.Shelf.Sort.Plain
import Derived.Shelf.Slices.In.SortNone
import Derived.Shelf.Slices.CompactS
import Derived.RangeFuncNested
import Derived.RangeFuncBound
import Derived.RangeFuncCalls
import Derived.TacticsInMore
import Derived.LoopNIn
import Derived.LoopIn
import Derived.Lib.Walk
import Derived.Lib.AppendZeros
namespace Go.Proofs.YtmhbmpbgpjljeaaGreat
set_option linter.unusedSimpArgs false
set_option linter.unusedVariables false
set_option linter.unusedSectionVars false
set_option maxRecDepth 4000
open Go.RowKit
abbrev zfg (xs:List Str):T:=.sl 1 (xs.map λs=>[.str s])
theorem zrt {α:Type} [BEq α] [LawfulBEq α]{xs:List α}{s:α}{k:Nat}(hk:k<xs.length)(hn:s∉xs.take k)(e:xs[k]=s):xs.idxOf s=k:=by
 have h:xs=xs.take k++xs.drop k:=(Ke k xs).symm
 rw[Qn hk]at h
 rw[h,List.idxOf_append,if_neg hn,e]
 rw[show(s::xs.drop (k+1)).idxOf s=0 from List.idxOf_cons_self ..]
 simp;omega
theorem ze6 {α:Type}{xs:List α}{s:α}{k:Nat}(hk:k<xs.length)(hn:s∉xs.take k)(e:xs[k]≠s):s∉xs.take (k+1):=by
 rw[Qg hk]
 simp only[Qt,Qv,not_or]
 exact⟨hn,λh=>e h.symm⟩
def qnw {α:Type} [BEq α](xs:List α)(s:α):Int:=if xs.contains s then xs.idxOf s else -1
theorem qbh (xs:List Str)(s:Str):FC Tryz.prog 241 [.one (zfg xs),sD s] [iD (qnw xs s)]:=by
 refine zbz (λhw=>?_) Tryz.call241
 have hl:xs.length<=9223372036854775807:=by simpa[zee,wfT]using hw.1.1
 refine zam Tryz.call241 Tryz.func241 rfl Zh (zat Zh) ?_
 simp -implicitDefEqProofs only[go_sem,Tryz.results241]
 refine zad (λk:Nat=>hd [(0,vT (zfg xs)),(1,vT (.str s)),(7,vI xs.length),(8,vI k)] [] []) (λk=>k<=xs.length/\s∉xs.take k) (λk=>xs.length-k) 0 (zab ?_) ?_ ?_
 ·exact Zg
 ·simp
 ·intro k ⟨hk,hr⟩;by_cases hlt:k<xs.length
  ·refine Zx hlt ?_;refine⟨λh=>?_,λh=>?_⟩
   ·have e:xs[k]=s:=(Jo.1 h).symm;have hm:s∈xs:=e▸Qe hlt;rw[qnw,if_pos (by simpa using hm),zrt hlt hr e]
   ·have e:xs[k]≠s:=λe=>by simp[e]at h
    exact⟨k+1,⟨hlt,ze6 hlt hr e⟩,Zi,zab (by simp -implicitDefEqProofs only[go_sem];rw[zaf Zi])⟩
  ·refine Xo ?_;rw[Ql Zi]at hr;rw[qnw,if_neg (by simpa using hr)]
theorem zhw (xs:List Str)(s:Str):FC Tryz.prog 218 [.one (zfg xs),sD s] [bD (xs.contains s)]:=by
 refine zam Tryz.call218 Tryz.func218 rfl Zh (zat Zh) ?_
 simp -implicitDefEqProofs only[go_sem,Tryz.results218]
 refine callF (qbh xs s) Zg ?_
 refine Zj ?_
 unfold qnw
 cases h:xs.contains s<;>simp
def zub:List Str:=[[116,114,117,101],[102,97,108,115,101],[116,114,117,116,104],[98,111,116,104],[101,105,116,104,101,114],[105,102],[97,108,108],[115,111,109,101]]
theorem qba:FC Tryz.prog 219 [] [.one (zfg zub)]:=by
 refine zam Tryz.call219 Tryz.func219 rfl Zh (zat Zh) ?_
 simp -implicitDefEqProofs only[go_sem,Tryz.results219]
 refine za2 Zg ?_
 refine Zj ?_
 rfl
def zom (b:UInt8):Bool:=zpw b||b==95
def zke:Str->Bool
 | []=>true
 | c::cs=>zfl c&&cs.all zom
def zbt (s:Str):Bool:=zke s&&inB s.length 1 6&&!zub.contains s
theorem qpa {b:UInt8}{n:Nat}(hn:n<256):((b.toNat:Int)==(n:Int))=(b==UInt8.ofNat n):=by
 rw[J6]
 simp only[Jo]
 constructor
 ·intro h;apply UInt8.toNat_inj.1;simp[UInt8.toNat_ofNat];omega
 ·intro h;subst h;simp[UInt8.toNat_ofNat];omega
theorem zmr (s:Str):FC Tryz.prog 168 [sD s] [bD (zbt s)]:=by
 refine zbz (λhw=>?_) Tryz.call168
 have hl:s.length<=9223372036854775807:=by simpa[zee,wfT]using hw.1
 refine zam Tryz.call168 Tryz.func168 rfl Zh (zat Zh) ?_
 simp -implicitDefEqProofs only[go_sem,Tryz.results168]
 refine zad (λk:Nat=>hd [(0,vT (.str s)),(5,vI s.length),(6,vI k)] [] []) (λk=>k<=s.length/\zke s=if k=0 then zke s else (s.drop k).all zom) (λk=>s.length-k) 0 (zab ?_) ?_ ?_
 ·exact Zg
 ·simp
 ·intro k ⟨hk,hr⟩;by_cases hlt:k<s.length
  ·by_cases h0:k=0
   ·subst h0;have hl0:(0:Int)<s.length:=by omega
    have he:zke s=(zfl (s.getD 0 0)&&(s.drop 1).all zom):=by cases s;exact absurd hlt (by simp);rfl
    refine Zr hlt hl0 ?_;refine callF (zht (s.getD 0 0)) Zg ?_;refine Zj ?_;refine⟨λh=>⟨hl0,?_⟩,λh=>?_⟩
    ·have hi:zfl (s.getD 0 0)=true:=by simpa using h
     refine callF (zht (s.getD 0 0)) (Zl hi) ?_;refine Zk hi ?_;refine⟨1,⟨hlt,?_⟩,Zi,zab (by simp -implicitDefEqProofs only[go_sem];rw[zay Zi Zi])⟩;rw[he,hi];rfl
    ·have:zfl (s.getD 0 0)=false:=by simpa using h
     rw[zbt,he,this];rfl
   ·have h1:((k:Int)==0)=false:=by simp;omega
    have h2:(0:Int)<k:=by omega
    have hg:s.getD k 0=s[k]:=by simp[List.getD,hlt]
    rw[if_neg h0,Qn hlt,Jl]at hr;simp -implicitDefEqProofs only[go_sem,hlt,h1,h2];refine callF (zht (s.getD k 0)) Zg ?_;refine Zj ?_;simp only[hg];refine⟨λh=>⟨hlt,?_⟩,λh=>?_⟩
    ·refine callF (zr4 s[k]) Zg ?_;refine Zj ?_;simp only[hg];refine⟨λh'=>⟨hlt,λh''=>?_,λh''=>⟨k+1,⟨hlt,?_⟩,Zi,zab (by simp -implicitDefEqProofs only[go_sem];rw[zaf Zi])⟩⟩,λh'=>⟨k+1,⟨hlt,?_⟩,Zi,zab (by simp -implicitDefEqProofs only[go_sem];rw[zaf Zi])⟩⟩
     ·have:zom s[k]=false:=by
       have:=qpa (b:=s[k]) (n:=95) Zi;simp[zom,zpw]at h h'⊢;refine⟨⟨h,h'⟩,λe=>?_⟩;rw[e]at h'';simp at h''
      rw[zbt,hr,this];rfl
     ·have:zom s[k]=true:=by
       have:=qpa (b:=s[k]) (n:=95) Zi;simp[zom]at h''⊢;right;simpa[h'']using this
      rw[hr,this];rfl
     ·have:zom s[k]=true:=by simp[zom,zpw];simp at h';simp[h']
      rw[hr,this];rfl
    ·refine⟨k+1,⟨hlt,?_⟩,Zi,zab (by simp -implicitDefEqProofs only[go_sem];rw[zaf Zi])⟩;have:zom s[k]=true:=by simp[zom,zpw];simp at h;simp[h]
     rw[hr,this];rfl
  ·refine Xo ?_;refine callF (zju s.length 1 6) Zg ?_;refine Zj ?_;have ha:zke s=true:=by
    by_cases h0:k=0
    ·have:s=[]:=Kc.1 Zi;rw[this];rfl
    ·rw[hr,if_neg h0,Q1 Zi];rfl
   refine⟨λh=>?_,λh=>?_⟩
   ·refine callF (qba) Zg ?_;refine Zj ?_;refine callF (zhw zub s) Zg ?_;refine Zj ?_;rw[zbt,ha,h];rfl
   ·rw[zbt,ha,h];rfl
end Go.Proofs.YtmhbmpbgpjljeaaGreat
namespace Go.Proofs.YtmhbmpbgpjljeaaGreat
set_option linter.unusedSimpArgs false
set_option linter.unusedVariables false
set_option linter.unusedSectionVars false
set_option maxRecDepth 4000
open Go.RowKit Go.Sort Go.Proofs
variable {P:Program}
theorem zys {w:World}:∀{ss:List Str}{vs:List Value}{fps:List Nat},zav w (ss.map T.str) vs fps->vs=ss.map encStr/\fps=[]/\∀s∈ss,s.length<=zd1
 | [],vs,fps,h=>⟨h.1,h.2,by simp⟩
 | s::ss,vs,fps,h=>by
  obtain⟨v,vs',f1,f2,rfl,rfl,h1,h2⟩:=h;unfold zas at h1;obtain⟨rfl,k1,rfl⟩:=h1;obtain⟨rfl,rfl,k2⟩:=zys h2;exact⟨rfl,rfl,λx hx=>(Qs.1 hx).elim (λe=>e▸k1) (k2 x)⟩
theorem zx9 {w:World}:∀{ss:List Str},(∀s∈ss,s.length<=zd1)->zav w (ss.map T.str) (ss.map encStr) []
 | [],_=>⟨rfl,rfl⟩
 | s::ss,h=>⟨_,_,[],[],rfl,rfl,by unfold zas;exact⟨rfl,h s (by simp),rfl⟩,zx9 λx hx=>h x (by simp[hx])⟩
theorem zqr (ss:List Str):(ss.map λs=>[T.str s]).flatten=ss.map T.str:=by induction ss<;>simp_all
theorem qdp (ss:List Str):lens 1 (ss.map λs=>[T.str s]):=λr hr=>by obtain⟨s,_,rfl⟩:=Ka.1 hr;rfl
abbrev zio (ss:List Str):List Str:=ss.mergeSort leB
theorem qq2 {f:FuncId}(hc:za8 P f)(hS:∀(blk off cap:Nat)(ss:List (List UInt8))(w:World),Holds encStr w blk off ss.toArray->blk<w.heap.size->ss.length<4611686018427387904 →
   Calls P f #[.slice (some ⟨blk,off,none⟩) ss.length cap] w λe w'=>e=.returned (.tuple #[])/\∃n os,w'=grow (putRow encStr (Sort.ahead w n) blk off (ss.mergeSort λx y=>decide (x<=y)).toArray) os)
  (hN:∀(p:Option Addr) (cap:Nat) (w:World),Calls P f #[.slice p 0 cap] w λe w'=>e=.returned (.tuple #[])/\w'=w) (ss:List Str) (hl:ss.length<4611686018427387904):IC P f [] (.one (zfg ss)) [] (.one (zfg (zio ss))) []:=by
 refine⟨hc,λw us1 v us2 fp tp h1 hg h2 hn=>?_⟩
 rw[show us1=[] from h1,show us2=[] from h2]
 obtain⟨hg,_⟩:=hg
 unfold zas at hg
 obtain⟨ao,cap,rfl,q1,q2,q3⟩:=hg
 rw[Qa]at q1⊢
 rcases q3 with⟨rfl,rfl,q3,rfl⟩|⟨b,cells,ty,fps,rfl,rfl,q3,q4,q5⟩
 ·have hs:ss=[]:=J8.1 q3;subst hs;refine(hN none 0 w).mono ?_;rintro e w' ⟨rfl,rfl⟩;refine⟨[],[],[],rfl,⟨_,[],[],[],[],[],rfl,rfl,rfl,⟨?_,rfl⟩,rfl,rfl,rfl⟩,Kn,by simp,Bk.refl _ _⟩;unfold zas;exact⟨none,0,by simp[zio],by simp[zio],by simp,Or.inl ⟨rfl,rfl,by simp[zio],rfl⟩⟩
 ·obtain⟨_,vs,k1,k2,k3⟩:=q5.vals;rw[zqr]at k3;obtain⟨rfl,rfl,k4⟩:=zys k3;have hsz:ss.length<=cells.size:=by omega
  have ht:cells.toList.take ss.length=ss.map encStr:=by
   apply List.ext_getElem?;intro j;by_cases hj:j<ss.length
   ·rw[List.getElem?_take_of_lt hj,Array.getElem?_toList];have:=k2 j _ (List.getElem?_eq_getElem (by simpa using hj));rw[Qi]at this;rw[this,List.getElem?_eq_getElem (by simpa using hj)]
   ·rw[List.getElem?_take_eq_none Zi,List.getElem?_eq_none (by simp;omega)]
  refine(hS b 0 cap ss w (holds_of_block q3 ht) (Array.getElem?_eq_some_iff.1 q3).1 hl).mono ?_;rintro e w' ⟨rfl,n,os,rfl⟩;have hgr:=grownBy_sorted (w:=w) (g:=b) (n:=n) (os:=os) (ss.mergeSort λx y=>decide (x<=y)).toArray;have hlen:(zio ss).length=ss.length:=by simp[zio]
  have htk:=take_putCells cells (zio ss) Zi;refine⟨[],[b],[b],rfl,⟨_,[],[b],[],[b],[],rfl,rfl,rfl,⟨?_,rfl⟩,rfl,rfl,rfl⟩,by simp,λx hx=>Or.inl hx,⟨hgr.os,hgr.tape,hgr.output,hgr.size,λk hk=>hgr.block k hk.1 λe=>hk.2 (by cases e;simp)⟩⟩;unfold zas;refine⟨_,cap,by rw[Qa,hlen],by rw[Qa,hlen];exact q1,q2,Or.inr ⟨b,_,ty,[],rfl,rfl,heap_sorted _ q3,by simp[putCells,q4],?_⟩⟩;refine zak.of_vals (qdp _) (by rw[zqr];exact zx9 λs hs=>k4 s ((Yl ss leB).mem_iff.1 hs)) λj u hu=>?_;rw[<-htk,List.getElem?_take]at hu;split at hu
  ·simpa using hu
  ·cases hu
structure CloneOf (P:Program)(f:FuncId)(sz bytes:Nat):Prop where
 call:za8 P f
 old:∀(ad:Addr) (n c:Nat) (news:List Value) (w:World),news.length=n*sz->n<=maxLen->n*bytes<=140737488355328->(∀j u,news[j]?=some u->w.cell? (ad.add j)=some u)->(∀u∈news,u.oneCell'=true) →
  Calls P f #[.slice (some ad) n c] w λe w'=>∃t v',e=.returned v'/\w'.ownsRow w.heap.size t sz v' n news/\v'≠.slice none 0 0/\Below w.heap.size w w'
 none:∀(n c:Nat) (w:World),Calls P f #[.slice none n c] w λe w'=>e=.returned (.slice none 0 0)/\w'=w
theorem zal.valsA {w:World}{A:Nat->Prop}{b sz:Nat}{rows:List (List T)}{o:Nat}(h:zal w A b o sz rows):∃vs,vs.length=rows.length*sz/\(∀j u,vs[j]?=some u->w.cell? ⟨b,o+j,none⟩=some u)/\zae w A rows.flatten vs/\lens sz rows:=by
 obtain⟨h1,vs,h2,h3,h4⟩:=h.vals
 exact⟨vs,h2,h3,h4,h1⟩
theorem qg4 {f:FuncId}{sz bytes:Nat}(h:CloneOf P f sz bytes)(rows:List (List T))(hb:rows.length*bytes<=140737488355328){w:World}{A:Nat->Prop}{v:Value}(h1:zai w A (.sl sz rows) v) :
  Calls P f #[v] w λe w'=>∃v',e=.returned v'/\Below w.heap.size w w'/\((v'=.slice none 0 0/\rows=[])\/∃g cap cur ty vs,v'=.slice (some ⟨g,0,none⟩) rows.length cap/\w.heap.size<=g/\w'.heap[g]?=some (.cells cur ty (0,0))/\rows.length<=cap/\cap<=zd1/\cur.size=cap*sz/\cur.toList.take (rows.length*sz)=vs/\zae w A rows.flatten vs/\lens sz rows):=by
 unfold zai at h1
 obtain⟨ao,cap,rfl,q1,q2,q3⟩:=h1
 cases ao with
 | none =>
  have hr:rows=[]:=q3.resolve_right λ⟨b,o,e,_⟩=>by cases e
  refine(h.none rows.length cap w).mono ?_;rintro e w' ⟨rfl,rfl⟩;exact⟨_,rfl,Below.refl _ _,Or.inl ⟨rfl,hr⟩⟩
 | some ad =>
  have hx:∃news:List Value,news.length=rows.length*sz/\(∀j u,news[j]?=some u->w.cell? (ad.add j)=some u)/\zae w A rows.flatten news/\lens sz rows:=by
   rcases q3 with rfl|⟨b',o',e,_,q4⟩
   ·exact⟨[],by simp,λj u hj=>by simp at hj,by unfold zae;rfl,λr hr=>by simp at hr⟩
   ·cases e;obtain⟨news,k1,k2,k3,k4⟩:=q4.valsA;exact⟨news,k1,λj u hj=>by rw[zd5];exact k2 j u hj,k3,k4⟩
  obtain⟨news,k1,k2,k3,k4⟩:=hx;refine(h.old ad rows.length cap news w k1 (by unfold maxLen;have:=q2;unfold zd1 at this;omega) hb k2 k3.one).mono ?_;rintro e w' ⟨t,v',rfl,⟨o1,o2⟩,hn,hbel⟩;refine⟨v',rfl,hbel,Or.inr ?_⟩;rcases o2 with⟨e,_⟩|⟨g,cap',cur,e,p1,p2,p3,p4,p5,p6⟩
  ·exact absurd e hn
  ·exact⟨g,cap',cur,t,news,e,p1,p2,p3,by unfold maxLen at p4;omega,p5,p6,k3,k4⟩
theorem qqy {cur:Array Value}{vs:List Value}{n:Nat}(h:cur.toList.take n=vs):∀j u,vs[j]?=some u->cur[0+j]?=some u:=λj u hu=>by
 rw[<-h,List.getElem?_take]at hu
 split at hu
 ·simpa using hu
 ·cases hu
theorem qj4 {f:FuncId}{sz bytes:Nat}(h:CloneOf P f sz bytes)(rows:List (List T))(hb:rows.length*bytes<=140737488355328)(hf:∀c∈rows.flatten,c.flat=true):FC P f [.one (.sl sz rows)] [.one (.sl sz rows)]:=by
 refine⟨h.call,λw vs fp tp hv hn=>?_⟩
 obtain⟨hr,rfl,rfl⟩:=zdf hv
 obtain⟨v,_,rfl,h1,rfl⟩:=hr
 refine(qg4 h rows hb h1).mono ?_
 rintro e w' ⟨v',rfl,hbel,hh⟩
 have hB:Bk (λk=>k<w.heap.size/\k∉([]:List Nat)) w w':=⟨hbel.os,hbel.tape,hbel.output,hbel.size,λk hk=>hbel.block k hk.1⟩
 rcases hh with⟨rfl,hr⟩|⟨g,cap,cur,ty,vs,rfl,p1,p2,p3,p4,p5,p6,p7,p8⟩
 ·subst hr;refine⟨[_],[],[],rfl,⟨_,[],[],[],[],[],rfl,rfl,rfl,⟨?_,rfl⟩,rfl,rfl,rfl⟩,Kn,by simp,hB⟩;unfold zas;exact⟨Option.none,0,rfl,Qp _,by simp,Or.inl ⟨rfl,rfl,rfl,rfl⟩⟩
 ·refine⟨[_],[g],[g],rfl,⟨_,[],[g],[],[g],[],rfl,rfl,rfl,⟨?_,rfl⟩,rfl,rfl,rfl⟩,by simp,λb hb=>by rw[Qv.1 hb];exact Or.inr p1,hB⟩;unfold zas;refine⟨_,cap,rfl,p3,p4,Or.inr ⟨g,cur,ty,[],rfl,rfl,p2,p5,?_⟩⟩;have hown:=zae.own p7 hf;exact zak.of_vals p8 (zav.keep hown λb hb=>by simp at hb) λj u hu=>qqy p6 j u hu
theorem zn7 (a b:Str):Op.bytesLess a b=decide (a<b):=bytesLess_eq a b
def Srt (xs:List Str):Prop:=xs.Pairwise (·<·)
theorem zk2 (a:Str):¬a<a:=List.lt_irrefl a
theorem zs0 {xs:List Str}(h:Srt xs):xs.Nodup:=List.Pairwise.imp (fun {a b}(h:a<b)(e:a=b)=>zk2 b (e▸h)) h
theorem qry {xs ys:List Str}(hx:Srt xs)(hy:Srt ys)(h:∀s,s∈xs↔s∈ys):xs=ys:=by
 have hp:xs.Perm ys:=(Ys (zs0 hx) (zs0 hy)).2 h
 exact hp.eq_of_pairwise (le:=λa b=>a<b) (λa b _ _ h1 h2=>absurd (List.lt_trans h1 h2) (zk2 a)) hx hy
theorem qog {a b:Str}(h:a<=b):a<b\/a=b:=by
 by_cases h1:a<b
 ·exact Or.inl h1
 ·exact Or.inr (List.le_antisymm h (List.not_lt.1 h1))
theorem qc7 (xs:List Str)(s:Str):s∈zio xs↔s∈xs:=(Yl xs leB).mem_iff
theorem qeo {xs:List Str}(h:xs.Nodup):Srt (zio xs):=by
 have tr:∀a b c:List UInt8,leB a b=true->leB b c=true->leB a c=true:=λa b c h1 h2=>by simp only[leB,Q0]at *;exact List.le_trans h1 h2
 have to:∀a b:List UInt8,(leB a b||leB b a)=true:=λa b=>by simp only[leB,Yb,Q0];exact List.le_total a b
 have hs:=List.pairwise_mergeSort tr to xs
 have hn:(zio xs).Nodup:=(Yl xs leB).nodup_iff.2 h
 refine(List.Pairwise.and hs hn).imp ?_
 rintro a b ⟨h1,h2⟩
 simp only[leB,Q0]at h1
 exact(qog h1).resolve_right h2
def qbr (l:List Str)(s:Str):List Str:=if(l.dropWhile λx=>Op.bytesLess x s).head?=some s then l else (l.takeWhile λx=>Op.bytesLess x s)++[s]++l.dropWhile λx=>Op.bytesLess x s
theorem qmq (l:List Str)(s x:Str):x∈qbr l s↔x=s\/x∈l:=by
 have e:l=(l.takeWhile λx=>Op.bytesLess x s)++l.dropWhile λx=>Op.bytesLess x s:=(K6).symm
 unfold qbr
 split
 ·rename_i h;have:s∈l:=by rw[e];exact Jz _ (List.mem_of_mem_head? h)
  exact⟨Or.inr,λh=>h.elim (λe=>e▸this) id⟩
 ·conv=>rhs;rw[e]
  simp only[Qt,Qv,or_assoc];constructor
  ·rintro(h|h|h)
   ·exact Or.inr (Or.inl h)
   ·exact Or.inl h
   ·exact Or.inr (Or.inr h)
  ·rintro(h|h|h)
   ·exact Or.inr (Or.inl h)
   ·exact Or.inl h
   ·exact Or.inr (Or.inr h)
theorem zmk {l:List Str}{p:Str->Bool}{x:Str}(h:(l.dropWhile p).head?=some x):p x=false:=by
 induction l with
 | nil=>simp at h
 | cons a l ih =>
  rw[List.dropWhile_cons]at h;split at h
  ·exact ih h
  ·rename_i hp;simp only[List.head?_cons,Qf]at h;subst h;simpa using hp
theorem qlm {l:List Str}(h:Srt l)(s:Str):Srt (qbr l s):=by
 unfold qbr
 split
 ·exact h
 ·rename_i hne;have e:(l.takeWhile λx=>Op.bytesLess x s)++(l.dropWhile λx=>Op.bytesLess x s)=l:=K6;have h':=h;rw[<-e]at h';obtain⟨h1,h2,h3⟩:=Jx.1 h';have ht:∀a∈l.takeWhile λx=>Op.bytesLess x s,a<s:=λa ha=>by
   have:=List.all_takeWhile (l:=l) (p:=λx=>Op.bytesLess x s);have:=Qr.1 this a ha;rw[zn7]at this;exact Kw this
  have hd:∀a∈l.dropWhile λx=>Op.bytesLess x s,s<a:=λa ha=>by
   cases hD:l.dropWhile λx=>Op.bytesLess x s with
   | nil=>rw[hD]at ha;simp at ha
   | cons y ys =>
    have hy:=zmk (l:=l) (p:=λx=>Op.bytesLess x s) (x:=y) (by rw[hD];rfl);have hys:s<y:=by
     have h0:¬y<s:=by rw[zn7]at hy;exact Yt hy
     rcases qog (List.not_lt.1 h0)with h|h
     ·exact h
     ·exact absurd (by rw[hD,h];rfl) hne
    rw[hD]at ha h2;rcases Qs.1 ha with rfl|ha
    ·exact hys
    ·exact List.lt_trans hys ((Jp.1 h2).1 a ha)
  rw[Kl];refine Jx.2 ⟨h1,?_,λa ha b hb=>?_⟩
  ·exact Jp.2 ⟨hd,h2⟩
  ·rcases Qs.1 hb with rfl|hb
   ·exact ht a ha
   ·exact h3 a ha b hb
end Go.Proofs.YtmhbmpbgpjljeaaGreat
namespace Go.Proofs.YtmhbmpbgpjljeaaGreat
set_option linter.unusedSimpArgs false
set_option linter.unusedVariables false
set_option linter.unusedSectionVars false
set_option maxRecDepth 4000
open Go.RowKit
theorem Tm.wt_args {a:Tm}{n:Nat}(h:a.wt<=n):a.args.length<=n/\∀x∈a.args,x.wt<=n:=by
 have e:=Tm.wt_eq a
 refine⟨Zi,λx hx=>?_⟩
 have:=zci Tm.wt a.args x hx
 omega
set_option maxRecDepth 10000 in
theorem ziu (xs:List Tm)(H:∀x∈xs,FC Tryz.prog 159 [tmD x] [tmD x])(hs:xs.length<=1048576) :
  FC Tryz.prog 97 [.one (tmS xs)] [.one (tmS xs)]:=by
 by_cases h0:xs=[]
 ·subst h0;refine zam Tryz.call97 Tryz.func97 rfl Zh (zat Zh) ?_;simp -implicitDefEqProofs only[go_sem,Tryz.results97]
 ·have hp:((xs.length:Int)==0)=false:=by
   have:0<xs.length:=List.length_pos_iff.2 h0;simp;omega
  refine zam Tryz.call97 Tryz.func97 rfl Zh (zat Zh) ?_;simp -implicitDefEqProofs only[go_sem,Tryz.results97,hp];refine qf8 (by simp -implicitDefEqProofs only[go_sem];omega) ?_;refine Zj ?_;refine zad (λk:Nat=>hd [(12,vT (tmS xs)),(13,vI xs.length),(3,.one (.ow 352 0)),(14,vI k)] [] [(352,⟨true,2,(xs.take k).map tmC++List.replicate (xs.length-k) [T.str [],T.sl 2 []],0,true⟩)]) (λk=>k<=xs.length) (λk=>xs.length-k) 0 (zab ?_) ?_ ?_
  ·refine Zj ?_;simp
  ·simp
  ·intro k hk;by_cases hlt:k<xs.length
   ·have hlen:((xs.take k).map tmC++List.replicate (xs.length-k) [T.str [],T.sl 2 []]).length=xs.length:=by simp;omega
    have hlt2:k<k+(xs.length-k):=by omega
    simp -implicitDefEqProofs only[go_sem,Qa,zac,hlt,zaa];refine callF (H xs[k] (Qe hlt)) Vi ?_;simp -implicitDefEqProofs only[go_sem,zaa,hlen,hlt,Qb,Qa,Qc,K1,K7 hk,hlt2];refine zi6 (by simp -implicitDefEqProofs only[go_sem];simp) ?_;refine Zj ?_;rw[zaf Zi];refine⟨k+1,Zi,Zi,zab ?_⟩;refine Zj ?_;have hf:=zhr ((xs.take k).map tmC) xs.length k [T.str [],T.sl 2 []] (tmC xs[k]) (by simp;omega) hlt (by simp[zaa]);simp only[zaa]at hf;rw[hf,Qg hlt,Qq,Q7];simp only[zaa]
   ·refine Zw hlt ?_;simp[Ql (show xs.length<=k by omega),show xs.length-k=0 by omega]
theorem zt4 (a:Tm)(H:FC Tryz.prog 97 [.one (tmS a.args)] [.one (tmS a.args)]):FC Tryz.prog 159 [tmD a] [tmD a]:=by
 simp only[tmD,zaa a]
 refine zam Tryz.call159 Tryz.func159 rfl Zh (zat Zh) ?_
 simp -implicitDefEqProofs only[go_sem,Tryz.results159]
 refine drawn Zh ?_
 refine Zj ?_
 refine za1 (H) Zg ?_
 refine Zj ?_
 kernel_rfl
theorem qjx (a:Tm)(H:∀x∈a.args,FC Tryz.prog 43 [tmD x] [tmD x])(hs:a.args.length<=1048576):FC Tryz.prog 43 [tmD a] [tmD a]:=by
 simp only[tmD,zaa a]
 refine zam Tryz.call43 Tryz.func43 rfl Zh (zat Zh) ?_
 simp -implicitDefEqProofs only[go_sem,Tryz.results43]
 refine zad (λk:Nat=>hd [(1,.one (.bx 1 0)),(2,.one (.bx 2 0)),(3,.one (.bx 3 0)),(4,vI k)] [(1,[.t (.str a.name),.t (tmS a.args)]),(2,[.t (.str []),.nl 2]),(3,[.t (.str a.name),.ow 3000 0])] [(3000,⟨true,2,(a.args.take k).map tmC,0,true⟩)]) (λk=>k<=a.args.length) (λk=>a.args.length-k) 0 (zab ?_) ?_ ?_
 ·exact Zg
 ·simp
 ·intro k hk;by_cases hlt:k<a.args.length
  ·refine Xo ?_;refine drawn Zh ?_;have hmin:min k a.args.length<=4294967295:=by omega
   refine Z8 hlt ?_;refine za1 (H a.args[k] (Qe hlt)) Zn ?_;refine Zq ?_;refine za7 Zg ?_;refine Zj ?_;refine zcx true (Z5 hmin) ?_;refine Z6 hmin ?_;refine⟨Zh,k+1,hlt,Zi,zab ?_⟩;refine Zj ?_;rw[zaf Zi,Qg hlt,Qq,Q7];simp only[zaa]
   trivial
  ·have ht:a.args.take k=a.args:=Ql Zi;exact Xy
theorem zf4:∀a:Tm,a.wt<=1048576->FC Tryz.prog 159 [tmD a] [tmD a] :=
 zbb λn xs ih hs=>by
  obtain⟨h1,h2⟩:=Tm.wt_args hs;exact zt4 (.mk n xs) (ziu xs (λx hx=>ih x hx (h2 x hx)) h1)
theorem zt8 (xs:List Tm)(hs:zo7 xs<=1048576):FC Tryz.prog 97 [.one (tmS xs)] [.one (tmS xs)]:=by
 have e:zo7 xs=xs.length+(xs.map Tm.wt).sum:=rfl
 exact ziu xs (λx hx=>zf4 x (by have:=zci Tm.wt xs x hx;omega)) Zi
theorem znu:∀a:Tm,a.wt<=1048576->FC Tryz.prog 43 [tmD a] [tmD a] :=
 zbb λn xs ih hs=>by
  obtain⟨h1,h2⟩:=Tm.wt_args hs;exact qjx (.mk n xs) (λx hx=>ih x hx (h2 x hx)) h1
end Go.Proofs.YtmhbmpbgpjljeaaGreat
namespace Go.Proofs.YtmhbmpbgpjljeaaGreat
set_option linter.unusedSimpArgs false
set_option linter.unusedVariables false
set_option linter.unusedSectionVars false
set_option maxRecDepth 4000
open Go.RowKit
theorem qp9 {P:Program}{t:TypeId}{n b:Nat}{z:List C}(h1:zbe P t=some n)(h2:zcw P t=some b)(h3:zc2 P t=some z)(h4:z.length=n):∃i0 zv,P.info? t=some i0/\i0.zero=some zv/\zv.cells.size=n/\i0.size=n/\i0.bytes=b:=by
 unfold zbe at h1
 unfold zcw at h2
 unfold zc2 at h3
 cases hi:P.info? t with
 | none=>rw[hi]at h1;cases h1
 | some i =>
  rw[hi]at h1 h2 h3;simp only[Q9,Qf]at h1 h2;simp only[Kf]at h3;cases hz:i.zero with
  | none=>rw[hz]at h3;cases h3
  | some zv =>
   rw[hz]at h3;simp only[Q9,Qf]at h3;refine⟨i,zv,rfl,hz,?_,h1,h2⟩;rw[<-h4,<-h3];simp
abbrev zcq (xs:List Int):T:=.sl 1 (xs.map λs=>[.int .i64 s])
theorem zzw (xs:List Int)(s:Int):FC Tryz.prog 190 [.one (zcq xs),iD s] [iD (qnw xs s)]:=by
 refine zbz (λhw=>?_) Tryz.call190
 have hl:xs.length<=9223372036854775807:=by simpa[zee,wfT]using hw.1.1
 refine zam Tryz.call190 Tryz.func190 rfl Zh (zat Zh) ?_
 simp -implicitDefEqProofs only[go_sem,Tryz.results190]
 refine zad (λk:Nat=>hd [(0,vT (zcq xs)),(1,vT (.int .i64 s)),(7,vI xs.length),(8,vI k)] [] []) (λk=>k<=xs.length/\s∉xs.take k) (λk=>xs.length-k) 0 (zab ?_) ?_ ?_
 ·exact Zg
 ·simp
 ·intro k ⟨hk,hr⟩;by_cases hlt:k<xs.length
  ·refine Zx hlt ?_;refine⟨λh=>?_,λh=>?_⟩
   ·have e:xs[k]=s:=(Jo.1 h).symm;have hm:s∈xs:=e▸Qe hlt;rw[qnw,if_pos (by simpa using hm),zrt hlt hr e]
   ·have e:xs[k]≠s:=λe=>by simp[e]at h
    exact⟨k+1,⟨hlt,ze6 hlt hr e⟩,Zi,zab (by simp -implicitDefEqProofs only[go_sem];rw[zaf Zi])⟩
  ·refine Xo ?_;rw[Ql Zi]at hr;rw[qnw,if_neg (by simpa using hr)]
theorem zpe (xs:List Int)(s:Int):FC Tryz.prog 139 [.one (zcq xs),iD s] [bD (xs.contains s)]:=by
 refine zam Tryz.call139 Tryz.func139 rfl Zh (zat Zh) ?_
 simp -implicitDefEqProofs only[go_sem,Tryz.results139]
 refine callF (zzw xs s) Zg ?_
 refine Zj ?_
 unfold qnw
 cases h:xs.contains s<;>simp
end Go.Proofs.YtmhbmpbgpjljeaaGreat
namespace Go.Proofs.YtmhbmpbgpjljeaaGreat
set_option linter.unusedSimpArgs false
set_option linter.unusedVariables false
set_option linter.unusedSectionVars false
set_option maxRecDepth 4000
open Go.RowKit
def zjk (w:World)(A:Nat->Prop)(r:List T)(t:Tm):Prop:=∃ao l c,r=[.str t.name,.vs ao l c]/\zai w A (tmS t.args) (.slice ao l c)
def zby (w:World)(A:Nat->Prop):List (List T)->List Tm->Prop
 | [],l=>l=[]
 | r::rs,l=>∃t ts,l=t::ts/\zjk w A r t/\zby w A rs ts
theorem zjk.keep {w w':World}{A A':Nat->Prop}(hs:∀b,A b->w'.heap[b]?=w.heap[b]?)(ha:∀b,A b->A' b){r:List T}{t:Tm}(h:zjk w A r t):zjk w' A' r t:=by
 obtain⟨ao,l,c,h1,h2⟩:=h
 exact⟨ao,l,c,h1,zai.keep hs ha _ _ h2⟩
theorem zby.keep {w w':World}{A A':Nat->Prop}(hs:∀b,A b->w'.heap[b]?=w.heap[b]?)(ha:∀b,A b->A' b):∀{rs:List (List T)}{ts:List Tm},zby w A rs ts->zby w' A' rs ts
 | [],_,h=>h
 | _::_,_,h=>by obtain⟨t,ts,rfl,h1,h2⟩:=h;exact⟨t,ts,rfl,h1.keep hs ha,zby.keep hs ha h2⟩
theorem zby.len {w:World}{A:Nat->Prop}:∀{rs:List (List T)}{ts:List Tm},zby w A rs ts->rs.length=ts.length
 | [],_,h=>by rw[show _=[] from h];rfl
 | _::_,_,h=>by obtain⟨t,ts,rfl,h1,h2⟩:=h;simp[zby.len h2]
theorem zby.at {w:World}{A:Nat->Prop}:∀{rs:List (List T)}{ts:List Tm},zby w A rs ts->∀i (h1:i<rs.length)(h2:i<ts.length),zjk w A rs[i] ts[i]
 | [],_,_,i,h1,_=>by simp at h1
 | _::_,_,h,i,h1,h2=>by
  obtain⟨t,ts,rfl,k1,k2⟩:=h;cases i with
  | zero=>exact k1
  | succ i=>exact zby.at k2 i (by simpa using h1) (by simpa using h2)
theorem zby.snoc {w:World}{A:Nat->Prop}{r:List T}{t:Tm}(k:zjk w A r t):∀{rs:List (List T)}{ts:List Tm},zby w A rs ts->zby w A (rs++[r]) (ts++[t])
 | [],_,h=>by rw[show _=[] from h];exact⟨t,[],rfl,k,rfl⟩
 | _::_,_,h=>by obtain⟨t',ts,rfl,h1,h2⟩:=h;exact⟨t',_,rfl,h1,zby.snoc k h2⟩
theorem zby.flat {w:World}{A:Nat->Prop}:∀{rs:List (List T)}{ts:List Tm},zby w A rs ts->∀c∈rs.flatten,c.flat=true
 | [],_,_,c,hc=>by simp at hc
 | _::_,_,h,c,hc=>by
  obtain⟨t',ts,rfl,⟨ao,l,cc,rfl,_⟩,h2⟩:=h;simp only[Q5,Kt,Jf,Qs]at hc;rcases hc with rfl|rfl|hc
  ·rfl
  ·rfl
  ·exact zby.flat h2 c hc
theorem zki {w:World}{A:Nat->Prop}{b:Nat}:∀(l:List Tm)(o:Nat),zal w A b o 2 (l.map tmC)->∃fl,zal w A b o 2 fl/\zby w A fl l
 | [],_,_=>⟨[],by unfold zal;trivial,rfl⟩
 | t::l,o,h=>by
  rw[Qk,zal]at h;obtain⟨_,h2,h3⟩:=h;obtain⟨fl,k1,k2⟩:=zki l (o+2) h3;rw[zaa]at h2;simp only[za5]at h2;obtain⟨⟨v1,c1,r1⟩,⟨v2,c2,r2⟩,_⟩:=h2;have r2':=r2;unfold zai at r2';obtain⟨ao,cap,rfl,_⟩:=r2';refine⟨[.str t.name,.vs ao _ cap]::fl,?_,t,l,rfl,⟨ao,_,cap,rfl,r2⟩,k2⟩;rw[zal];refine⟨rfl,?_,k1⟩;simp only[za5];exact⟨⟨v1,c1,r1⟩,⟨_,c2,by unfold zai;rfl⟩,trivial⟩
theorem zro {w:World}{A A' A'':Nat->Prop}(h1:∀b,A b->A'' b)(h2:∀b,A' b->A'' b){b:Nat}:∀(fl:List (List T))(l:List Tm)(o:Nat),zal w A b o 2 fl->zby w A' fl l->zal w A'' b o 2 (l.map tmC)
 | [],l,o,_,h=>by rw[show l=[] from h,Q6,zal];trivial
 | r::fl,l,o,h,k=>by
  obtain⟨t,ts,rfl,⟨ao,n,c,rfl,k1⟩,k2⟩:=k;rw[zal]at h;obtain⟨_,h4,h5⟩:=h;rw[Qk,zal];refine⟨by rw[zaa];rfl,?_,zro h1 h2 fl ts (o+2) h5 k2⟩;rw[zaa];simp only[za5]at h4⊢;obtain⟨⟨v1,c1,r1⟩,⟨v2,c2,r2⟩,_⟩:=h4;unfold zai at r2;subst r2;exact⟨⟨v1,c1,zai.keep (λ_ _=>rfl) h1 _ _ r1⟩,⟨_,c2,zai.keep (λ_ _=>rfl) h2 _ _ k1⟩,trivial⟩
theorem zai.flatL {w:World}{A:Nat->Prop}{l:List Tm}{v:Value}(h:zai w A (tmS l) v):∃fl,zai w A (.sl 2 fl) v/\zby w A fl l:=by
 unfold zai at h
 obtain⟨ao,cap,rfl,h1,h2,h3⟩:=h
 rw[Qa]at h1
 rcases h3 with h3|⟨b,o,rfl,h4,h5⟩
 ·have e:l=[]:=J8.1 h3;subst e;exact⟨[],by unfold zai;exact⟨ao,cap,rfl,Qy _,h2,Or.inl rfl⟩,rfl⟩
 ·obtain⟨fl,k1,k2⟩:=zki l o h5;refine⟨fl,?_,k2⟩;unfold zai;exact⟨_,cap,by rw[k2.len,Qa],by rw[k2.len];exact h1,h2,Or.inr ⟨b,o,rfl,h4,k1⟩⟩
theorem zai.deepL {w:World}{A A' A'':Nat->Prop}(h1:∀b,A b->A'' b)(h2:∀b,A' b->A'' b){fl:List (List T)}{l:List Tm}{v:Value}(h:zai w A (.sl 2 fl) v)(k:zby w A' fl l):zai w A'' (tmS l) v:=by
 unfold zai at h⊢
 obtain⟨ao,cap,rfl,q1,q2,q3⟩:=h
 have e:=k.len
 refine⟨ao,cap,by rw[Qa,e],by rw[Qa,<-e];exact q1,q2,?_⟩
 rcases q3 with rfl|⟨b,o,rfl,h4,h5⟩
 ·have:l=[]:=k;subst this;exact Or.inl rfl
 ·exact Or.inr ⟨b,o,rfl,h1 b h4,zro h1 h2 fl l o h5 k⟩
set_option maxHeartbeats 1000000 in
theorem qb0:CloneOf Tryz.prog 158 2 40:=by
 have t22:=Tryz.underlying31
 have q22:∀(w:World) (a:Option Addr) (n c n' c':Nat),(binOp .eql 31 (.slice a n c) (.slice none n' c')).run Tryz.prog w=.ok (.bool a.isNone) w:=λw a n c n' c'=>Lib.run_eql_slice_nil w _ _ a n c n' c' t22
 have u22:∀w,Sem.run Tryz.prog (underlying 31) w=.ok (TypeDesc.slice 74) w:=run_underlying t22
 refine⟨Tryz.call158,λad n c news w hl hn hbig hc h1=>?_,λn c w=>?_⟩
 ·have A:Aside (∀j u,news[j]?=some u->w.cell? (ad.add j)=some u):=hc;clear hc;obtain⟨i0,z,hi,hz0,hzs,hz1,hz2⟩:=qp9 (P:=Tryz.prog) (t:=74) (n:=2) (b:=40) (z:=[.t (.str []),.nl 2]) Zh Zh Zh rfl
  go_enter Tryz.func158,Tryz.ntmps158
  go_wp2_with (at_builtin;refine wpList_append_own _ rfl _ _ 31 rfl w.heap.size 74 i0 z 2 40 t22 hi hz0 hz1 hz2 hzs (by decide) _ _ _ rfl (World.ownsRow_made w #[] 0 (Qp _) (Qy _) (by simp)) ad n c news rfl ?qc1 ?qc2 ?qc3 ?qc4 ?qc5 ?qc6 ?_)
  case qc1=>exact hl
  case qc2 =>
   intro j u hj;exact Lib.cell?_alloc_some _ (A.out j u hj)
  case qc3=>exact h1
  case qc4=>rw[Qi];exact hn
  case qc5=>rw[Qi];exact hbig
  case qc6=>simp
  intro v' w1 hown hgrow hnil
  go_wp2
  go_ret
  refine⟨_,v',rfl,by simpa using hown,hnil,?_⟩;exact((Below.refl _ w).alloc (Qp _) _).grown hgrow (by simp) (by intro k hk;simp[Value.ownBlock]at hk;omega)
 ·go_enter Tryz.func158,Tryz.ntmps158
  go_wp2
  go_ret
  exact⟨rfl,rfl⟩
theorem qei (fl:List (List T))(hs:fl.length<=1099511627776)(hf:∀c∈fl.flatten,c.flat=true):FC Tryz.prog 158 [.one (.sl 2 fl)] [.one (.sl 2 fl)] :=
 qj4 qb0 _ Zi hf
end Go.Proofs.YtmhbmpbgpjljeaaGreat
namespace Go.Proofs
open Go.Shelf
set_option maxRecDepth 100000
def Tryz.lays190_ren : Go.Shelf.Ren := ⟨fun | 190 => 182 | 125 => 161 | 258 => 226 | 128 => 212 | 129 => 213 | 302 => 243 | 303 => 244 | 304 => 245 | 305 => 246 | 306 => 247 | 307 => 248 | 308 => 249 | 309 => 250 | 310 => 251 | 333 => 263 | 329 => 237 | 330 => 238 | 334 => 264 | 335 => 265 | 336 => 214 | 344 => 277 | n => n, fun | 31 => 142 | 9 => 9 | 3 => 3 | 46 => 185 | 0 => 0 | 51 => 215 | 53 => 217 | 4 => 4 | 183 => 209 | 182 => 208 | 131 => 169 | 5 => 5 | 218 => 232 | 222 => 236 | 228 => 253 | 229 => 153 | n => n, fun | n => n⟩
theorem Tryz.lays190 : Go.Proofs.Lays.n190 Tryz.prog Tryz.lays190_ren := {
 mixed := by kernel_rfl
 f125 := Tryz.func161.trans (congrArg some (by kernel_rfl))
 f128 := Tryz.func212.trans (congrArg some (by kernel_rfl))
 f129 := Tryz.func213.trans (congrArg some (by kernel_rfl))
 f190 := Tryz.func182.trans (congrArg some (by kernel_rfl))
 f258 := Tryz.func226.trans (congrArg some (by kernel_rfl))
 f302 := Tryz.func243.trans (congrArg some (by kernel_rfl))
 f303 := Tryz.func244.trans (congrArg some (by kernel_rfl))
 f304 := Tryz.func245.trans (congrArg some (by kernel_rfl))
 f305 := Tryz.func246.trans (congrArg some (by kernel_rfl))
 f306 := Tryz.func247.trans (congrArg some (by kernel_rfl))
 f307 := Tryz.func248.trans (congrArg some (by kernel_rfl))
 f308 := Tryz.func249.trans (congrArg some (by kernel_rfl))
 f309 := Tryz.func250.trans (congrArg some (by kernel_rfl))
 f310 := Tryz.func251.trans (congrArg some (by kernel_rfl))
 f329 := Tryz.func237.trans (congrArg some (by kernel_rfl))
 f330 := Tryz.func238.trans (congrArg some (by kernel_rfl))
 f333 := Tryz.func263.trans (congrArg some (by kernel_rfl))
 f334 := Tryz.func264.trans (congrArg some (by kernel_rfl))
 f335 := Tryz.func265.trans (congrArg some (by kernel_rfl))
 f336 := Tryz.func214.trans (congrArg some (by kernel_rfl))
 f344 := Tryz.func277.trans (congrArg some (by kernel_rfl))
 t0 := Tryz.underlying0
 a0 := Tryz.isAgg0
 z0 := Tryz.sizeOf0
 v0 := Tryz.zeroValue0
 t3 := Tryz.underlying3
 a3 := Tryz.isAgg3
 z3 := Tryz.sizeOf3
 v3 := Tryz.zeroValue3
 t4 := Tryz.underlying4
 a4 := Tryz.isAgg4
 z4 := Tryz.sizeOf4
 v4 := Tryz.zeroValue4
 t5 := Tryz.underlying5
 a5 := Tryz.isAgg5
 z5 := Tryz.sizeOf5
 v5 := Tryz.zeroValue5
 t9 := Tryz.underlying9
 a9 := Tryz.isAgg9
 z9 := Tryz.sizeOf9
 v9 := Tryz.zeroValue9
 t31 := Tryz.underlying142
 a31 := Tryz.isAgg142
 z31 := Tryz.sizeOf142
 v31 := Tryz.zeroValue142
 t46 := Tryz.underlying185
 a46 := Tryz.isAgg185
 z46 := Tryz.sizeOf185
 v46 := Tryz.zeroValue185
 t51 := Tryz.underlying215
 a51 := Tryz.isAgg215
 z51 := Tryz.sizeOf215
 v51 := Tryz.zeroValue215
 t53 := Tryz.underlying217
 a53 := Tryz.isAgg217
 z53 := Tryz.sizeOf217
 v53 := Tryz.zeroValue217
 t131 := Tryz.underlying169
 a131 := Tryz.isAgg169
 z131 := Tryz.sizeOf169
 v131 := Tryz.zeroValue169
 t182 := Tryz.underlying208
 a182 := Tryz.isAgg208
 z182 := Tryz.sizeOf208
 v182 := Tryz.zeroValue208
 t183 := Tryz.underlying209
 a183 := Tryz.isAgg209
 z183 := Tryz.sizeOf209
 v183 := Tryz.zeroValue209
 t218 := Tryz.underlying232
 a218 := Tryz.isAgg232
 z218 := Tryz.sizeOf232
 v218 := Tryz.zeroValue232
 t222 := Tryz.underlying236
 a222 := Tryz.isAgg236
 z222 := Tryz.sizeOf236
 v222 := Tryz.zeroValue236
 t228 := Tryz.underlying253
 a228 := Tryz.isAgg253
 z228 := Tryz.sizeOf253
 v228 := Tryz.zeroValue253
 t229 := Tryz.underlying153
 a229 := Tryz.isAgg153
 z229 := Tryz.sizeOf153
 v229 := Tryz.zeroValue153 }
end Go.Proofs
namespace Go.Proofs.YtmhbmpbgpjljeaaGreat
set_option linter.unusedSimpArgs false
set_option linter.unusedVariables false
set_option linter.unusedSectionVars false
set_option maxRecDepth 4000
open Go.RowKit
theorem qed (ss:List Str)(hl:ss.length<=1099511627776):IC Tryz.prog 182 [] (.one (zfg ss)) [] (.one (zfg (zio ss))) [] :=
 qq2 Tryz.call182 (λblk off cap ss w h1 h2 h3=>Any.slices_Sort_string Tryz.lays190 blk off cap ss w h1 h2 h3) (λp cap w=>Any.slices_Sort_string_none Tryz.lays190 p cap w) ss Zi
theorem zjy {α:Type}{p:α->Bool}:∀{l:List α}{k:Nat},k<=l.length->(∀x∈l.take k,p x=true)->(∀h:k<l.length,p l[k]=false)->l.takeWhile p=l.take k/\l.dropWhile p=l.drop k
 | [],k,hk,_,_=>by simp
 | a::l,0,hk,_,h2=>by have:=h2 (by simp);simp only[List.getElem_cons_zero]at this;simp[this]
 | a::l,k+1,hk,h1,h2=>by
  have ha:=h1 a (by simp);obtain⟨e1,e2⟩:=zjy (l:=l) (k:=k) (by simpa using hk) (λx hx=>h1 x (by simp[hx])) (λh=>h2 (by simpa using h));simp[ha,e1,e2]
theorem qhg {l:List Str}{s:Str}{k:Nat}(hk:k<=l.length)(h1:∀x∈l.take k,Op.bytesLess x s=true)(h2:∀h:k<l.length,Op.bytesLess l[k] s=false):qbr l s=if(l.drop k).head?=some s then l else l.take k++[s]++l.drop k:=by
 obtain⟨e1,e2⟩:=zjy (p:=λx=>Op.bytesLess x s) hk h1 h2
 unfold qbr
 rw[e1,e2]
theorem flR_of {rows:List (List T)}(h:∀r∈rows,r.all T.flat=true):flR rows=true:=by
 induction rows with
 | nil=>rfl
 | cons r rs ih=>unfold flR;rw[h r (by simp),ih λr hr=>h r (by simp[hr])];rfl
theorem zh0 (l:List Str):flR (l.map λs=>[T.str s])=true:=flR_of λr hr=>by obtain⟨s,_,rfl⟩:=Ka.1 hr;rfl
theorem zb3 (k:Nat)(l:List Str):flR ((l.map λs=>[T.str s]).take k)=true:=by rw[<-Jm];exact zh0 _
theorem zb5 (k:Nat)(l:List Str):flR ((l.map λs=>[T.str s]).drop k)=true:=by rw[<-Yc];exact zh0 _
theorem zar {α β:Type}(f:α->β)(l:List α):(l.map f).take l.length=l.map f:=Ql (by simp)
theorem qrb (l:List Str)(s:Str)(hl:l.length<=2147483648):GC Tryz.prog 223 [(true,.one (zfg l)),(false,sD s)] [.one (zfg (qbr l s))]:=by
 refine GC_of Tryz.call223 Tryz.func223 rfl Zh (by simp only[Qj,Qo,Tryz.ntmps223];omega) (by simp[zb6,T.isPin]) ?_
 simp -implicitDefEqProofs only[go_sem,Tryz.results223]
 refine zad (λk:Nat=>hd [(0,.one (.ow 0 0)),(1,vT (.str s)),(5,vI k)] [] [(0,⟨true,1,l.map λs=>[.str s],0,true⟩)]) (λk=>k<=l.length/\∀x∈l.take k,Op.bytesLess x s=true) (λk=>l.length-k) 0 (zab ?_) ?_ ?_
 ·exact Zg
 ·simp
 ·intro k ⟨hk,hr⟩;have hm1:min k l.length<=4294967296:=by omega
  have hm2:min k l.length<=4294967295:=by omega
  have hm3:min k l.length+1+(l.length-k)<=4294967296:=by omega
  by_cases hlt:k<l.length
  ·have hnx:∀{b},Op.bytesLess l[k] s=b->b=true->∀x∈l.take (k+1),Op.bytesLess x s=true:=fun {b} e hb x hx=>by
    rw[Qg hlt]at hx;rcases Qt.1 hx with hx|hx
    ·exact hr x hx
    ·rw[Qv.1 hx,e,hb]
   refine Zx hlt ?_;refine⟨λh=>⟨k+1,⟨hlt,hnx rfl h⟩,Zi,zab (by simp -implicitDefEqProofs only[go_sem];rw[zaf Zi])⟩,λh=>?_⟩;have hp:=qhg hk hr (λ_=>h);have hh:(l.drop k).head?=some l[k]:=by rw[List.head?_drop,List.getElem?_eq_getElem hlt]
   refine⟨λh2=>?_,λh2=>?_⟩
   ·rw[hp,if_pos (by rw[hh];simpa using h2)]
   ·rw[if_neg (by rw[hh];simpa using h2)]at hp;refine frzD 0 ?_;refine Zj ?_;refine drawn Zh ?_;refine Zk hk ?_;refine za7 Xp ?_;refine Zk hk ?_;refine zcx true (Xa hk hm1 hm2 hm3) ?_;refine Xb hk hm1 hm2 hm3 ?_;refine za7 Xp ?_;refine Zk hk ?_;refine zcx true (Xa hk hm1 hm2 hm3) ?_;refine Xb hk hm1 hm2 hm3 ?_;refine zcx true (Xa hk hm1 hm2 hm3) ?_;refine Xb hk hm1 hm2 hm3 ?_;refine⟨Zh,?_⟩;rw[hp];simp
  ·refine Xo ?_;have hp:=qhg hk hr (λh=>absurd h hlt);rw[if_neg (by rw[Q1 Zi];simp)]at hp;refine frzD 0 ?_;refine Zj ?_;refine drawn Zh ?_;refine Zk hk ?_;refine za7 Xp ?_;refine Zk hk ?_;refine zcx true (Xa hk hm1 hm2 hm3) ?_;refine Xb hk hm1 hm2 hm3 ?_;refine za7 Xp ?_;refine Zk hk ?_;refine zcx true (Xa hk hm1 hm2 hm3) ?_;refine Xb hk hm1 hm2 hm3 ?_;refine zcx true (Xa hk hm1 hm2 hm3) ?_;refine Xb hk hm1 hm2 hm3 ?_;refine⟨Zh,?_⟩;rw[hp];simp
end Go.Proofs.YtmhbmpbgpjljeaaGreat
namespace Go.Proofs.YtmhbmpbgpjljeaaGreat
set_option linter.unusedSimpArgs false
set_option linter.unusedVariables false
set_option linter.unusedSectionVars false
set_option maxRecDepth 4000
open Go.RowKit
theorem qsp {b:UInt8}(h1:decide ((b.toNat:Int)<65)=false)(h2:decide ((90:Int)<b.toNat)=false):zh2 b=true:=by
 simp[zh2]at *;omega
theorem qmw {b:UInt8}(h1:decide ((b.toNat:Int)<65)=true):zh2 b=false:=by
 simp[zh2]at *;omega
theorem qjd {b:UInt8}(h2:decide ((90:Int)<b.toNat)=true):zh2 b=false:=by
 simp[zh2]at *;omega
theorem qm0 {b:UInt8}(h1:decide ((b.toNat:Int)<97)=false)(h2:decide ((122:Int)<b.toNat)=false):zfl b=true:=by
 simp[zfl]at *;omega
theorem qem {b:UInt8}(h1:decide ((b.toNat:Int)<97)=true):zfl b=false:=by
 simp[zfl]at *;omega
theorem qhd {b:UInt8}(h2:decide ((122:Int)<b.toNat)=true):zfl b=false:=by
 simp[zfl]at *;omega
theorem zws {s:Str}(h:0<s.length):zth s=(zh2 (s.getD 0 0)&&(s.drop 1).all zpw):=by
 cases s
 ·exact absurd h (by simp)
 ·rfl
theorem zrl {s:Str}(h:0<s.length):zke s=(zfl (s.getD 0 0)&&(s.drop 1).all zom):=by
 cases s
 ·exact absurd h (by simp)
 ·rfl
theorem zh6 (s:Str):FC Tryz.prog 146 [sD s] [bD (zax s)]:=by
 refine zbz (λhw=>?_) Tryz.call146
 have hl:s.length<=9223372036854775807:=by simpa[zee,wfT]using hw.1
 refine zam Tryz.call146 Tryz.func146 rfl Zh (zat Zh) ?_
 simp -implicitDefEqProofs only[go_sem,Tryz.results146]
 refine callF (qgj s.length 1 4) Zg ?_
 refine Zj ?_
 by_cases hb:inB s.length 1 4=true
 ·have hp:0<s.length:=by simp[inB]at hb;omega
  have hp':(0:Int)<s.length:=by omega
  have he:=zws hp;refine⟨λh=>⟨hp',λh1=>⟨hp',λh2=>?_,λh2=>?_⟩,λh1=>?_⟩,λh=>by simp[hb]at h⟩
  ·rw[zax,he,qjd h2];rfl
  ·rw[qsp h1 h2,Q2]at he;refine zad (λk:Nat=>hd [(0,vT (.str s)),(3,vI k)] [] []) (λk=>k<=s.length/\zth s=(s.drop k).all zpw) (λk=>s.length-k) 1 (zab ?_) ?_ ?_
   ·exact Zg
   ·exact⟨hp,he⟩
   ·intro k ⟨hk,hr⟩;by_cases hlt:k<s.length
    ·have hg:s.getD k 0=s[k]:=by simp[List.getD,hlt]
     rw[Qn hlt,Jl]at hr;refine Xo ?_;simp only[hg];refine callF (zrs s[k]) Zg ?_;refine Zj ?_;refine⟨λh=>?_,λh=>⟨k+1,⟨hlt,?_⟩,Zi,zab (by simp -implicitDefEqProofs only[go_sem];rw[zaf Zi])⟩⟩
     ·have:zpw s[k]=false:=by simpa using h
      rw[zax,hr,this];rfl
     ·have:zpw s[k]=true:=by simpa using h
      rw[hr,this];rfl
    ·refine Xo ?_;rw[zax,hr,Q1 Zi,hb];rfl
  ·rw[zax,he,qmw h1];rfl
 ·have hb':inB s.length 1 4=false:=by simpa using hb
  refine⟨λh=>by simp[hb']at h,λh=>?_⟩;rw[zax,hb',J0]
set_option maxHeartbeats 1000000 in
theorem znj (s:Str):FC Tryz.prog 150 [sD s] [bD (zbt s)]:=by
 refine zbz (λhw=>?_) Tryz.call150
 have hl:s.length<=9223372036854775807:=by simpa[zee,wfT]using hw.1
 refine zam Tryz.call150 Tryz.func150 rfl Zh (zat Zh) ?_
 simp -implicitDefEqProofs only[go_sem,Tryz.results150]
 refine callF (qgj s.length 1 6) Zg ?_
 refine Zj ?_
 by_cases hb:inB s.length 1 6=true
 ·have hp:0<s.length:=by simp[inB]at hb;omega
  have hp':(0:Int)<s.length:=by omega
  have he:=zrl hp;refine⟨λh=>⟨hp',λh1=>⟨hp',λh2=>?_,λh2=>?_⟩,λh1=>?_⟩,λh=>by simp[hb]at h⟩
  ·rw[zbt,he,qhd h2];rfl
  ·rw[qm0 h1 h2,Q2]at he;have leaf:∀l,l∈zub->(s==l)=true->T.bool false=T.bool (zbt s):=λl hl e=>by
    have:zub.contains s=true:=by rw[List.contains_iff_mem,Jo.1 e];exact hl
    rw[zbt,this,K8,J0]
   refine⟨λe=>⟨λ_=>leaf _ (by simp[zub]) e,λe'=>absurd (e.symm.trans e') (by simp)⟩,λn1=>?_⟩;refine⟨λe=>⟨λ_=>leaf _ (by simp[zub]) e,λe'=>absurd (e.symm.trans e') (by simp)⟩,λn2=>?_⟩;refine⟨λe=>⟨λ_=>leaf _ (by simp[zub]) e,λe'=>absurd (e.symm.trans e') (by simp)⟩,λn3=>?_⟩;refine⟨λe=>⟨λ_=>leaf _ (by simp[zub]) e,λe'=>absurd (e.symm.trans e') (by simp)⟩,λn4=>?_⟩;refine⟨λe=>⟨λ_=>leaf _ (by simp[zub]) e,λe'=>absurd (e.symm.trans e') (by simp)⟩,λn5=>?_⟩;refine⟨λe=>⟨λ_=>leaf _ (by simp[zub]) e,λe'=>absurd (e.symm.trans e') (by simp)⟩,λn6=>?_⟩;refine⟨λe=>⟨λ_=>leaf _ (by simp[zub]) e,λe'=>absurd (e.symm.trans e') (by simp)⟩,λn7=>?_⟩;refine⟨λe=>leaf _ (by simp[zub]) e,λn8=>?_⟩;have hnc:zub.contains s=false:=by
    simp only[Yf,ne_eq]at n1 n2 n3 n4 n5 n6 n7 n8;rw[Bool.eq_false_iff,ne_eq,List.contains_iff_mem];simp only[zub,Qs,K9,or_false,not_or];exact⟨n1,n2,n3,n4,n5,n6,n7,n8⟩
   refine zad (λk:Nat=>hd [(0,vT (.str s)),(3,vI k)] [] []) (λk=>k<=s.length/\zke s=(s.drop k).all zom) (λk=>s.length-k) 1 (zab ?_) ?_ ?_
   ·exact Zg
   ·exact⟨hp,he⟩
   ·intro k ⟨hk,hr⟩;by_cases hlt:k<s.length
    ·have hg:s.getD k 0=s[k]:=by simp[List.getD,hlt]
     rw[Qn hlt,Jl]at hr;refine Xo ?_;simp only[hg];refine callF (zrs s[k]) Zg ?_;refine Zj ?_;simp only[hg];refine⟨λh=>⟨hlt,λh'=>?_,λh'=>⟨k+1,⟨hlt,?_⟩,Zi,zab (by simp -implicitDefEqProofs only[go_sem];rw[zaf Zi])⟩⟩,λh=>⟨k+1,⟨hlt,?_⟩,Zi,zab (by simp -implicitDefEqProofs only[go_sem];rw[zaf Zi])⟩⟩
     ·have:zom s[k]=false:=by
       simp[zom]at h⊢;refine⟨h,λe=>?_⟩;rw[e]at h';simp at h'
      rw[zbt,hr,this];rfl
     ·have:zom s[k]=true:=by
       have:=qpa (b:=s[k]) (n:=95) Zi;simp[zom]at h'⊢;right;simpa[h']using this
      rw[hr,this];rfl
     ·have:zom s[k]=true:=by simp[zom];simp at h;simp[h]
      rw[hr,this];rfl
    ·refine Xo ?_;rw[zbt,hr,Q1 Zi,hb,hnc];rfl
  ·rw[zbt,he,qem h1];rfl
 ·have hb':inB s.length 1 6=false:=by simpa using hb
  refine⟨λh=>by simp[hb']at h,λh=>?_⟩;rw[zbt,hb',J0];rfl
end Go.Proofs.YtmhbmpbgpjljeaaGreat
namespace Go.Proofs.YtmhbmpbgpjljeaaGreat
set_option linter.unusedSimpArgs false
set_option linter.unusedVariables false
set_option linter.unusedSectionVars false
set_option maxRecDepth 4000
open Go.RowKit
def Tm.nodes:Tm->Nat:=Tm.fold λ_ _ rs=>1+rs.sum
theorem Tm.nodes_eq (a:Tm):a.nodes=1+(a.args.map Tm.nodes).sum:=Tm.fold_eq _ a
def Tm.depth:Tm->Nat:=Tm.fold λ_ _ rs=>rs.foldl max 0+1
theorem Tm.depth_eq (a:Tm):a.depth=(a.args.map Tm.depth).foldl max 0+1:=Tm.fold_eq _ a
theorem zkb:∀a:Tm,a.nodes<=1+a.wt:=by
 refine zbb λn xs ih=>?_
 rw[Tm.nodes_eq,Tm.wt_eq]
 show 1+(xs.map Tm.nodes).sum<=1+(n.length+xs.length+(xs.map Tm.wt).sum)
 have:(xs.map Tm.nodes).sum<=xs.length+(xs.map Tm.wt).sum:=by
  clear n;induction xs with
  | nil=>simp
  | cons x xs ih2 =>
   have h1:=ih x (by simp);have h2:=ih2 λy hy=>ih y (by simp[hy]);simp only[Qk,Jd,Qj];omega
 omega
theorem zfj {B:Nat}:∀(xs:List Nat)(m:Nat),m<=B->(∀x∈xs,x<=B)->xs.foldl max m<=B
 | [],m,h,_=>h
 | x::xs,m,h,h2=>zfj xs (max m x) (by have:=h2 x (by simp);omega) λy hy=>h2 y (by simp[hy])
theorem zlw:∀a:Tm,a.depth<=a.nodes:=by
 refine zbb λn xs ih=>?_
 rw[Tm.nodes_eq,Tm.depth_eq]
 show(xs.map Tm.depth).foldl max 0+1<=1+(xs.map Tm.nodes).sum
 have:=zfj (B:=(xs.map Tm.nodes).sum) (xs.map Tm.depth) 0 Zi λd hd=>by
  obtain⟨x,hx,rfl⟩:=Ka.1 hd;exact Q8 (ih x hx) (zci Tm.nodes xs x hx)
 omega
def szL (lim:Int):Int->List Int->Int
 | n,[]=>n
 | n,r::rs=>if n>lim then n else szL lim (n+r) rs
def zft:Tm->Int:=Tm.fold λ_ _ rs=>szL 30 1 rs
theorem zyl (a:Tm):zft a=szL 30 1 (a.args.map zft):=Tm.fold_eq _ a
theorem zxd {α:Type}(f:α->Int)(g:α->Nat)(lim:Int):∀(xs:List α)(n:Int),0<=n->(∀x∈xs,1<=f x/\f x<=g x/\(f x<=lim->f x=g x))->szL lim n (xs.map f)<=n+(xs.map g).sum/\n<=szL lim n (xs.map f)/\(szL lim n (xs.map f)<=lim->szL lim n (xs.map f)=n+(xs.map g).sum)
 | [],n,_,_=>by simp[szL]
 | x::xs,n,hn,h=>by
  obtain⟨h1,h2,h3⟩:=h x (by simp);obtain⟨k1,k2,k3⟩:=zxd f g lim xs (n+f x) Zi λy hy=>h y (by simp[hy]);simp only[Qk,szL,Jd];split
  ·refine⟨Zi,Zi,λhh=>by omega⟩
  ·refine⟨Zi,Zi,λhh=>?_⟩;have:=k3 hh;rw[this];have:f x=g x:=h3 Zi;omega
theorem znq:∀a:Tm,1<=zft a/\zft a<=a.nodes/\(zft a<=30->zft a=a.nodes):=by
 refine zbb λn xs ih=>?_
 rw[zyl,Tm.nodes_eq]
 show 1<=szL 30 1 (xs.map zft)/\szL 30 1 (xs.map zft)<=((1+(xs.map Tm.nodes).sum:Nat):Int)/\_
 obtain⟨k1,k2,k3⟩:=zxd zft Tm.nodes 30 xs 1 Zi ih
 refine⟨k2,Zi,λh=>?_⟩
 have:=k3 h
 show szL 30 1 (xs.map zft)=_
 rw[this];show _=((1+(xs.map Tm.nodes).sum:Nat):Int);omega
theorem qi1 (a:Tm):decide (zft a<=30)=decide (a.nodes<=30):=by
 obtain⟨h1,h2,h3⟩:=znq a
 rw[Yr]
 exact⟨λh=>by have:=h3 h;omega,λh=>by omega⟩
def qrp {α:Type}(f:α->Nat)(xs:List α)(k:Nat):Nat:=((xs.drop k).map f).sum
theorem zsq {α:Type}(f:α->Nat)(xs:List α):qrp f xs 0=(xs.map f).sum:=by simp[qrp]
theorem qhe {α:Type}(f:α->Nat)(xs:List α)(k:Nat)(h:k<xs.length):qrp f xs k=f xs[k]+qrp f xs (k+1):=by
 unfold qrp
 rw[Qn h,Qk,Jd]
set_option maxHeartbeats 400000 in
theorem qr0 (a:Tm)(hs:a.wt<=1099511627776)(H:∀x∈a.args,FC Tryz.prog 166 [tmD x] [iD (zft x)]):FC Tryz.prog 166 [tmD a] [iD (zft a)]:=by
 refine zbz (λhw=>?_) Tryz.call166
 have hl:a.args.length<=9223372036854775807:=by rw[Tm.wt_eq]at hs;omega
 have hn:=zkb a
 have hN:=a.nodes_eq
 simp only[tmD,zaa]
 refine zam Tryz.call166 Tryz.func166 rfl Zh (zat Zh) ?_
 simp -implicitDefEqProofs only[go_sem,Tryz.results166]
 refine zad (λp:Nat×Int=>hd [(3,vI p.2),(7,vT (tmS a.args)),(8,vI a.args.length),(9,vI p.1)] [] []) (λp=>p.1<=a.args.length/\zft a=szL 30 p.2 ((a.args.drop p.1).map zft)/\1<=p.2/\p.2+qrp Tm.nodes a.args p.1<=a.nodes) (λp=>a.args.length-p.1) (0,1) (zab ?_) ?_ ?_
 ·exact Zg
 ·exact⟨by simp,by rw[zyl];rfl,Zi,by rw[zsq];omega⟩
 ·intro ⟨k,n⟩ ⟨hk,hr,h1,h2⟩;simp only at hk hr h1 h2;by_cases hlt:k<a.args.length
  ·have hd:=qhe Tm.nodes a.args k hlt;obtain⟨s1,s2,s3⟩:=znq a.args[k];rw[Qn hlt,Qk,szL]at hr;refine Z8 hlt ?_;refine⟨λh=>?_,λh=>?_⟩
   ·rw[hr,if_pos (by simpa using h)]
   ·refine callF (H a.args[k] (Qe hlt)) Zn ?_;refine Zq ?_;rw[if_neg (by simpa using h)]at hr;exact⟨(k+1,n+zft a.args[k]),⟨hlt,hr,by simp only;omega,by simp only;omega⟩,by simp only;omega,zab (by simp -implicitDefEqProofs only[go_sem];rw[zaf Zi,zay Zi Zi];exact⟨rfl,rfl⟩)⟩
  ·refine Xo ?_;rw[hr,Q1 Zi];rfl
theorem size_c:∀a:Tm,a.wt<=1099511627776->FC Tryz.prog 166 [tmD a] [iD (zft a)] :=
 zbb λn xs ih hs=>qr0 (.mk n xs) hs λx hx=>ih x hx (by
  have:=Tm.wt_eq (.mk n xs);have:=zci Tm.wt xs x hx
  simp only[Tm.args]at *;omega)
set_option maxHeartbeats 400000 in
theorem qmt (a:Tm)(hs:a.wt<=1099511627776)(H:∀x∈a.args,FC Tryz.prog 98 [tmD x] [iD x.depth]):FC Tryz.prog 98 [tmD a] [iD a.depth]:=by
 have hl:a.args.length<=9223372036854775807:=by rw[Tm.wt_eq]at hs;omega
 have hn:=zkb a
 have hdn:=zlw a
 have hD:=a.depth_eq
 simp only[tmD,zaa]
 refine zam Tryz.call98 Tryz.func98 rfl Zh (zat Zh) ?_
 simp -implicitDefEqProofs only[go_sem,Tryz.results98]
 refine zad (λp:Nat×Nat=>hd [(3,vI p.2),(7,vT (tmS a.args)),(8,vI a.args.length),(9,vI p.1)] [] []) (λp=>p.1<=a.args.length/\a.depth=((a.args.drop p.1).map Tm.depth).foldl max p.2+1) (λp=>a.args.length-p.1) (0,0) (zab ?_) ?_ ?_
 ·exact Zg
 ·exact⟨by simp,hD⟩
 ·intro ⟨k,n⟩ ⟨hk,hr⟩;simp only at hk hr;by_cases hlt:k<a.args.length
  ·rw[Qn hlt,Qk,Ks]at hr;refine Z8 hlt ?_;refine callF (H a.args[k] (Qe hlt)) Zn ?_;refine Zq ?_;exact⟨(k+1,max n a.args[k].depth),⟨hlt,hr⟩,by simp only;omega,zab (by simp -implicitDefEqProofs only[go_sem];rw[zaf Zi];exact⟨by congr 1;omega,rfl⟩)⟩
  ·refine Xo ?_;rw[Q1 Zi]at hr;simp only[Q6,Y7]at hr;rw[hr,zaf Zi]
theorem qh5:∀a:Tm,a.wt<=1099511627776->FC Tryz.prog 98 [tmD a] [iD a.depth] :=
 zbb λn xs ih hs=>qmt (.mk n xs) hs λx hx=>ih x hx (by
  have:=Tm.wt_eq (.mk n xs);have:=zci Tm.wt xs x hx
  simp only[Tm.args]at *;omega)
def zc7 (a:Tm):Bool:=decide (a.nodes<=30)&&decide (a.depth<=8)
theorem zqg (a:Tm)(hs:a.wt<=1099511627776):FC Tryz.prog 102 [tmD a] [bD (zc7 a)]:=by
 simp only[tmD,zaa]
 refine zam Tryz.call102 Tryz.func102 rfl Zh (zat Zh) ?_
 simp -implicitDefEqProofs only[go_sem,Tryz.results102]
 refine callF (size_c a hs) Zn ?_
 refine Zq ?_
 rw[qi1]
 refine⟨λh=>?_,λh=>?_⟩
 ·refine callF (qh5 a hs) Zn ?_;refine Zq ?_;rw[zc7,h,Q2]
  congr 1
  rw[Yr];omega
 ·rw[zc7,h];rfl
end Go.Proofs.YtmhbmpbgpjljeaaGreat
namespace Go.Proofs.YtmhbmpbgpjljeaaGreat
set_option linter.unusedSimpArgs false
set_option linter.unusedVariables false
set_option linter.unusedSectionVars false
set_option maxRecDepth 4000
open Go.RowKit
theorem qlg (σ:St)(caps:List T):VDs σ (caps.map λt=>.one (.t t)) (caps.map .one)=True:=by
 induction caps with
 | nil=>simp[VDs]
 | cons t ts ih=>rw[Qk,Qk,zy4,ih];simp[qnn,CT_t]
attribute [go_sem] qlg
def zew {α:Type}(xs:List α)(p:α->Bool):Int:=if xs.any p then xs.findIdx p else -1
theorem zbn {α:Type}{xs:List α}{p:α->Bool}{k:Nat}(hk:k<xs.length)(hn:∀x∈xs.take k,p x=false)(h:p xs[k]=true):zew xs p=k:=by
 have ha:xs.any p=true:=Ju.2 ⟨xs[k],Qe hk,h⟩
 have hf:xs.findIdx p=k:=(List.findIdx_eq hk).2 ⟨h,λj hj=>hn _ (by
  rw[List.mem_take_iff_getElem];exact⟨j,Zi,rfl⟩)⟩
 rw[zew,if_pos ha,hf]
theorem zb4 {α:Type}{xs:List α}{p:α->Bool}(hn:∀x∈xs,p x=false):zew xs p = -1:=by
 have ha:xs.any p=false:=by rw[Yh];exact λx hx=>by simp[hn x hx]
 rw[zew,ha];rfl
theorem zhs {α:Type}(xs:List α)(p:α->Bool):decide (0<=zew xs p)=xs.any p:=by
 unfold zew
 cases xs.any p<;>simp
theorem zbd {α:Type}{xs:List α}{p:α->Bool}{k:Nat}(hk:k<xs.length)(hn:∀x∈xs.take k,p x=false)(h:p xs[k]=false):∀x∈xs.take (k+1),p x=false:=by
 rw[Qg hk]
 intro x hx
 rcases Qt.1 hx with hx|hx
 ·exact hn x hx
 ·rw[Qv.1 hx];exact h
theorem zf0 (xs:List Tm)(p:Tm->Bool)(g:FuncId)(caps:List T)(H:∀x∈xs,FC Tryz.prog g (tmD x::caps.map .one) [bD (p x)]):FC Tryz.prog 101 [.one (tmS xs),.one (.fn g caps)] [iD (zew xs p)]:=by
 refine zbz (λhw=>?_) Tryz.call101
 have hl:xs.length<=9223372036854775807:=by simpa[zee,wfT]using hw.1.1
 refine zam Tryz.call101 Tryz.func101 rfl Zh (zat Zh) ?_
 simp -implicitDefEqProofs only[go_sem,Tryz.results101]
 refine zad (λk:Nat=>hd [(0,vT (tmS xs)),(1,vT (.fn g caps)),(7,vI xs.length),(8,vI k)] [] []) (λk=>k<=xs.length/\∀x∈xs.take k,p x=false) (λk=>xs.length-k) 0 (zab ?_) ?_ ?_
 ·exact Zg
 ·simp
 ·intro k ⟨hk,hr⟩;by_cases hlt:k<xs.length
  ·refine Z8 hlt ?_;refine callF (H xs[k] (Qe hlt)) Zn ?_;refine Zq ?_;refine⟨λh=>?_,λh=>⟨k+1,⟨hlt,zbd hlt hr h⟩,Zi,zab (by simp -implicitDefEqProofs only[go_sem];rw[zaf Zi])⟩⟩;rw[zbn hlt hr h]
  ·refine Xo ?_;rw[Ql Zi]at hr;rw[zb4 hr]
theorem zbr (xs:List Tm)(p:Tm->Bool)(g:FuncId)(caps:List T)(H:∀x∈xs,FC Tryz.prog g (tmD x::caps.map .one) [bD (p x)]):FC Tryz.prog 49 [.one (tmS xs),.one (.fn g caps)] [bD (xs.any p)]:=by
 refine zam Tryz.call49 Tryz.func49 rfl Zh (zat Zh) ?_
 simp -implicitDefEqProofs only[go_sem,Tryz.results49]
 refine callF (zf0 xs p g caps H) Zg ?_
 refine Zj ?_
 rw[zhs]
end Go.Proofs.YtmhbmpbgpjljeaaGreat
namespace Go.Proofs.YtmhbmpbgpjljeaaGreat
set_option linter.unusedSimpArgs false
set_option linter.unusedVariables false
set_option linter.unusedSectionVars false
set_option maxRecDepth 4000
open Go.RowKit
def Tm.names:Tm->Bool:=Tm.fold λn xs rs=>if zax n=true then decide (xs.length=0)else zbt n&&decide (xs.length<=4)&&rs.all id
theorem Tm.names_eq (a:Tm):a.names=if zax a.name=true then decide (a.args.length=0)else zbt a.name&&decide (a.args.length<=4)&&a.args.all Tm.names:=by
 unfold Tm.names
 rw[Tm.fold_eq]
 simp only[List.all_map]
 rfl
theorem qdf {α:Type}(xs:List α)(p:α->Bool):(!xs.any λx=>!p x)=xs.all p:=by
 induction xs with
 | nil=>rfl
 | cons x xs ih=>simp only[List.any_cons,Jl,Bool.not_or,Bool.not_not,ih]
theorem zt9 (a:Tm)(H:∀x∈a.args,FC Tryz.prog 103 [tmD x] [bD x.names]):FC Tryz.prog 103 [tmD a] [bD a.names]:=by
 have H1:∀x∈a.args,FC Tryz.prog 169 [tmD x] [bD (!x.names)]:=λx hx=>by
  simp only[tmD,zaa];refine zam Tryz.call169 Tryz.func169 rfl Zh (zat Zh) ?_;simp -implicitDefEqProofs only[go_sem,Tryz.results169];refine callF (H x hx) Zn ?_;exact Zn
 have hN:=a.names_eq
 simp only[tmD,zaa]
 refine zam Tryz.call103 Tryz.func103 rfl Zh (zat Zh) ?_
 simp -implicitDefEqProofs only[go_sem,Tryz.results103]
 refine callF (zr3 a.name) Zg ?_
 refine Zj ?_
 refine⟨λh=>?_,λh=>?_⟩
 ·rw[hN,if_pos h]
  congr 1
  rw[J6];simp
 ·rw[h]at hN;simp only[Qz,if_false]at hN;refine callF (zmr a.name) Zg ?_;refine Zj ?_;refine⟨λh1=>⟨λh2=>?_,λh2=>?_⟩,λh1=>?_⟩
  ·refine callF (zbr a.args (λx=>!x.names) _ [] H1) Zg ?_;refine Zj ?_;rw[qdf,hN,h1,Q2];rw[show decide (a.args.length<=4)=true by simp at h2⊢;omega];rfl
  ·rw[hN,h1,Q2,show decide (a.args.length<=4)=false by simp at h2⊢;omega];rfl
  ·rw[hN,h1];rfl
theorem zh7:∀a:Tm,FC Tryz.prog 103 [tmD a] [bD a.names]:=zbb λn xs ih=>zt9 (.mk n xs) ih
def Tm.good (a:Tm):Bool:=zc7 a&&a.names
theorem ze0 (a:Tm)(hs:a.wt<=1099511627776):FC Tryz.prog 51 [tmD a] [bD a.good]:=by
 simp only[tmD,zaa]
 refine zam Tryz.call51 Tryz.func51 rfl Zh (zat Zh) ?_
 simp -implicitDefEqProofs only[go_sem,Tryz.results51]
 refine callF (zqg a hs) Zn ?_
 refine Zq ?_
 refine⟨λh=>?_,λh=>?_⟩
 ·refine callF (zh7 a) Zn ?_;refine Zq ?_;rw[Tm.good,h,Q2]
 ·rw[Tm.good,h,Q4]
theorem zfp (a:Tm):FC Tryz.prog 71 [tmD a] [bD (a.name==[61])]:=by
 simp only[tmD,zaa]
 refine zam Tryz.call71 Tryz.func71 rfl Zh (zat Zh) ?_
 simp -implicitDefEqProofs only[go_sem,Tryz.results71]
def Tm.atomOk (a:Tm):Bool:=if(a.name==[61])=true then decide (a.args.length=2)&&zc7 a&&a.args.all Tm.names else zbt a.name&&a.good
theorem qib {α:Type}{xs:List α}{p:α->Bool}(h:xs.length=2):xs.all p=(p (xs[0]'Zi)&&p (xs[1]'Zi)):=by
 match xs,h with
 | [a,b],_=>simp
theorem zpp (a:Tm)(hs:a.wt<=1099511627776):FC Tryz.prog 199 [tmD a] [bD a.atomOk]:=by
 have hN:a.atomOk=if(a.name==[61])=true then decide (a.args.length=2)&&zc7 a&&a.args.all Tm.names else zbt a.name&&a.good:=rfl
 simp only[tmD,zaa]
 refine zam Tryz.call199 Tryz.func199 rfl Zh (zat Zh) ?_
 simp -implicitDefEqProofs only[go_sem,Tryz.results199]
 refine callF (zfp a) Zn ?_
 refine Zq ?_
 refine⟨λh=>?_,λh=>?_⟩
 ·rw[if_pos h]at hN;by_cases h2:a.args.length=2
  ·have k0:0<a.args.length:=by omega
   have k1:1<a.args.length:=by omega
   have e2:((a.args.length:Int)==2)=true:=by simp[h2]
   have l0:(0:Int)<a.args.length:=by omega
   have l1:(1:Int)<a.args.length:=by omega
   rw[qib h2,show decide (a.args.length=2)=true by simp[h2]]at hN;simp only[Q2]at hN;simp only[e2,qdb,zfk,qsh,zev,and_true];refine callF (zqg a hs) (Xf l0 k0) ?_;simp -implicitDefEqProofs only[go_sem,zaa,l0,zac,k0];refine⟨λh3=>?_,λh3=>?_⟩
   ·refine callF (zh7 a.args[0]) (Xf l1 k1) ?_;simp -implicitDefEqProofs only[go_sem,zaa,l1,zac,k1];refine⟨λh4=>?_,λh4=>?_⟩
    ·refine callF (zh7 a.args[1]) Zn ?_;refine Zq ?_;rw[hN,h3,h4];rfl
    ·rw[hN,h3,h4];rfl
   ·rw[hN,h3];rfl
  ·have e2:((a.args.length:Int)==2)=false:=by simp;omega
   simp only[e2,qdb,qql,zfk,zev,and_true,true_and,qp2];rw[hN,show decide (a.args.length=2)=false by simpa using h2];rfl
 ·rw[h]at hN;simp only[Qz,if_false]at hN;refine callF (zmr a.name) Zg ?_;refine Zj ?_;refine⟨λh3=>?_,λh3=>?_⟩
  ·refine callF (ze0 a hs) Zn ?_;refine Zq ?_;rw[hN,h3,Q2]
  ·rw[hN,h3,Q4]
end Go.Proofs.YtmhbmpbgpjljeaaGreat
namespace Go.Proofs.YtmhbmpbgpjljeaaGreat
set_option linter.unusedSimpArgs false
set_option linter.unusedVariables false
set_option linter.unusedSectionVars false
set_option maxRecDepth 4000
open Go.RowKit
def voI:Tm->List Str:=Tm.fold λn xs rs=>if(decide (xs.length=0)&&zh2 (n.getD 0 0))=true then [n]else rs.flatten
theorem zy6 (a:Tm):voI a=if(decide (a.args.length=0)&&zh2 (a.name.getD 0 0))=true then [a.name]else (a.args.map voI).flatten:=Tm.fold_eq _ a
def voS:Tm->List Str:=Tm.fold λn _ rs=>if zax n=true then [n]else rs.flatten
theorem znr (a:Tm):voS a=if zax a.name=true then [a.name]else (a.args.map voS).flatten:=Tm.fold_eq _ a
def Tm.ne:Tm->Bool:=Tm.fold λn xs rs=>(!decide (xs.length=0)||decide (0<n.length))&&rs.all id
theorem Tm.ne_eq' (a:Tm):a.ne=((!decide (a.args.length=0)||decide (0<a.name.length))&&a.args.all Tm.ne):=by
 unfold Tm.ne
 rw[Tm.fold_eq]
 simp only[List.all_map]
 rfl
def zp7 (l:List Str)(s:Str):List Str:=if l.contains s=true then l else l++[s]
def zb1 (l:List Str)(ss:List Str):List Str:=ss.foldl zp7 l
theorem qju (l:List Str)(s:Str):(zp7 l s).length<=l.length+1:=by unfold zp7;split<;>simp
theorem zhy:∀(ss:List Str)(l:List Str),(zb1 l ss).length<=l.length+ss.length
 | [],l=>by simp[zb1]
 | s::ss,l=>by have:=zhy ss (zp7 l s);have:=qju l s;simp only[zb1,Ks,Qj]at *;omega
theorem zk8 (l a b:List Str):zb1 l (a++b)=zb1 (zb1 l a) b:=K0 ..
theorem qkw (l:List Str)(s x:Str):x∈zp7 l s↔x=s\/x∈l:=by
 unfold zp7
 split
 ·rename_i h;have h:s∈l:=by simpa using h
  exact⟨Or.inr,λk=>k.elim (λe=>e▸h) id⟩
 ·simp[or_comm]
theorem zqk:∀(ss l:List Str)(x:Str),x∈zb1 l ss↔x∈ss\/x∈l
 | [],l,x=>by simp[zb1]
 | s::ss,l,x=>by
  show x∈zb1 (zp7 l s) ss↔_
  rw[zqk ss,qkw];simp[or_assoc,or_left_comm,or_comm]
theorem qsf {l:List Str}(h:l.Nodup)(s:Str):(zp7 l s).Nodup:=by
 unfold zp7
 split
 ·exact h
 ·rename_i hn;have hn:s∉l:=by simpa using hn
  exact Kk.2 ⟨h,by simp,λa ha b hb e=>hn (by rw[Qv.1 hb]at e;exact e▸ha)⟩
theorem zoa:∀(ss:List Str){l:List Str},l.Nodup->(zb1 l ss).Nodup
 | [],_,h=>h
 | s::ss,_,h=>zoa ss (qsf h s)
def zc6 (l:List Str)(ss:List Str):List Str:=ss.foldl qbr l
theorem qne (l:List Str)(s:Str):(qbr l s).length<=l.length+1:=by
 unfold qbr
 split
 ·omega
 ·have:l.length=((l.takeWhile λx=>Op.bytesLess x s)++l.dropWhile λx=>Op.bytesLess x s).length:=by rw[K6]
  simp only[Qb,Qj,Qo]at *;omega
theorem ztd:∀(ss:List Str)(l:List Str),(zc6 l ss).length<=l.length+ss.length
 | [],l=>by simp[zc6]
 | s::ss,l=>by have:=ztd ss (qbr l s);have:=qne l s;simp only[zc6,Ks,Qj]at *;omega
theorem zsj (l a b:List Str):zc6 l (a++b)=zc6 (zc6 l a) b:=K0 ..
theorem zlc:∀(ss l:List Str)(x:Str),x∈zc6 l ss↔x∈ss\/x∈l
 | [],l,x=>by simp[zc6]
 | s::ss,l,x=>by
  show x∈zc6 (qbr l s) ss↔_
  rw[zlc ss,qmq];simp[or_assoc,or_left_comm,or_comm]
theorem zqp:∀(ss:List Str){l:List Str},Srt l->Srt (zc6 l ss)
 | [],_,h=>h
 | s::ss,_,h=>zqp ss (qlm h s)
theorem zjz (ss:List Str):zio (zb1 [] ss)=zc6 [] ss :=
 qry (qeo (zoa ss Kn)) (zqp ss List.Pairwise.nil) λs=>by rw[qc7,zqk,zlc]
theorem zpu (a:Tm)(h:0<a.name.length):FC Tryz.prog 153 [tmD a] [bD (zh2 (a.name.getD 0 0))]:=by
 simp only[tmD,zaa]
 refine zam Tryz.call153 Tryz.func153 rfl Zh (zat Zh) ?_
 simp -implicitDefEqProofs only[go_sem,Tryz.results153]
 have h0:(0:Int)<a.name.length:=by omega
 refine Zr h0 h ?_
 refine callF (zqt (a.name.getD 0 0)) Zg ?_
 exact Zg
theorem zeg {α:Type}(f:α->List Str)(xs:List α)(k:Nat)(h:k<xs.length):((xs.take (k+1)).map f).flatten=((xs.take k).map f).flatten++f xs[k]:=by
 rw[Qg h,Qq,Kq];simp
theorem zvg {α:Type}(f:α->List Str):∀(xs:List α),∀x∈xs,(f x).length<=((xs.map f).flatten).length
 | [],x,h=>by simp at h
 | a::xs,x,h=>by
  rcases Qs.1 h with rfl|h
  ·simp
  ·have:=zvg f xs x h;simp at *;omega
theorem zdh {α:Type}(f:α->List Str)(xs:List α)(k:Nat)(h:k<xs.length):(((xs.take k).map f).flatten).length+(f xs[k]).length<=((xs.map f).flatten).length:=by
 have e:xs=xs.take k++xs[k]::xs.drop (k+1):=by rw[<-Qn h,Ke]
 conv=>rhs;rw[e]
 simp only[Qq,Qk,Kq,Q5,Qb];omega
set_option maxHeartbeats 1000000 in
theorem zz9 (a:Tm)(ha:a.ne=true)(H:∀x∈a.args,∀ys:List Str,ys.length+(voI x).length<=1073741824->GC Tryz.prog 180 [(true,.one (zfg ys)),(false,tmD x)] [.one (zfg (zb1 ys (voI x)))])
  (ys:List Str) (hs:ys.length+(voI a).length<=1073741824) (hl:a.args.length<=1099511627776):GC Tryz.prog 180 [(true,.one (zfg ys)),(false,tmD a)] [.one (zfg (zb1 ys (voI a)))]:=by
 have hv:=zy6 a
 rw[Tm.ne_eq']at ha
 simp only[tmD,zaa]
 refine zs4 Tryz.call180 Tryz.func180 rfl Zh (by simp only[Qj,Qo,Tryz.ntmps180];omega) (by simp[zb6,T.isPin]) ?_
 simp -implicitDefEqProofs only[go_sem,Tryz.results180]
 by_cases h0:a.args.length=0
 ·have hn:0<a.name.length:=by simp[h0]at ha;omega
  have e0:((a.args.length:Int)==0)=true:=by simp[h0]
  have hV:=zpu a hn;simp only[tmD,zaa]at hV;refine Zk e0 ?_;refine callF (hV) Zg ?_;refine Zj ?_;refine⟨λh1=>?_,λh1=>?_⟩
  ·rw[h1,show decide (a.args.length=0)=true by simpa using h0,Q2,if_pos rfl]at hv;rw[hv]at hs⊢;refine callF (zhw ys a.name) Zg ?_;refine Zj ?_;have hy:ys.length+1<=4294967296:=by simp at hs;omega
   have hy2:ys.length<=4294967295:=by simp at hs;omega
   refine⟨λh2=>?_,λh2=>?_⟩
   ·have h2:ys.contains a.name=false:=by simpa using h2
    refine za2 Zg ?_;refine Zj ?_;refine apD true (by simp -implicitDefEqProofs only[go_sem,hy,hy2,ne_eq,Qa]) ?_;simp -implicitDefEqProofs only[go_sem,hy,hy2,ne_eq,Qa];have e:zb1 ys [a.name]=ys++[a.name]:=by show zp7 ys a.name=_;unfold zp7;rw[h2];simp
    exact Or.inl (by rw[e];simp)
   ·have h2:ys.contains a.name=true:=by simpa using h2
    have e:zb1 ys [a.name]=ys:=by show zp7 ys a.name=_;unfold zp7;rw[h2];simp
    exact Or.inl (by rw[e])
  ·rw[h1,J0,if_neg (by simp),Kc.1 h0,Q6,List.flatten_nil]at hv;have hv:voI a=(a.args.map voI).flatten:=by rw[hv,Kc.1 h0];rfl
   rw[hv]at hs⊢;refine zad (λk:Nat=>hd [(0,.one (.ow 0 0)),(27,.one (.rn (tmS a.args))),(28,vI a.args.length),(29,vI k)] [] [(0,⟨true,1,(zb1 ys ((a.args.take k).map voI).flatten).map λs=>[.str s],0,true⟩)]) (λk=>k<=a.args.length) (λk=>a.args.length-k) 0 (zab ?_) (Qy _) ?_
   ·refine Zj ?_;rfl
   ·intro k hk;by_cases hlt:k<a.args.length
    ·have hf:=zdh voI a.args k hlt;have hL:=zhy ((a.args.take k).map voI).flatten ys;have hx:=zvg voI a.args _ (Qe hlt);have HC:=H a.args[k] (Qe hlt) (zb1 ys ((a.args.take k).map voI).flatten) Zi;rw[<-zk8,<-zeg voI a.args k hlt]at HC;simp only[tmD,zaa a.args[k]]at HC;refine Zm hlt (zaa a.args[k]) ?_;refine zei [27,28,29] [33,34] [] (HC) Zg Zg Zg Zg ?_;refine Zj ?_;refine⟨k+1,hlt,Zi,zcn 0 1120 ?_⟩;refine Zj ?_;rw[zaf Zi]
    ·refine Xo ?_;exact Or.inl (by rw[Ql Zi])
 ·have e0:((a.args.length:Int)==0)=false:=by simp[h0]
  rw[show decide (a.args.length=0)=false by simpa using h0,Q4,if_neg (by simp)]at hv;rw[hv]at hs⊢;refine Zk e0 ?_;refine zad (λk:Nat=>hd [(0,.one (.ow 0 0)),(27,.one (.rn (tmS a.args))),(28,vI a.args.length),(29,vI k)] [] [(0,⟨true,1,(zb1 ys ((a.args.take k).map voI).flatten).map λs=>[.str s],0,true⟩)]) (λk=>k<=a.args.length) (λk=>a.args.length-k) 0 (zab ?_) (Qy _) ?_
  ·refine Zj ?_;rfl
  ·intro k hk;by_cases hlt:k<a.args.length
   ·have hf:=zdh voI a.args k hlt;have hL:=zhy ((a.args.take k).map voI).flatten ys;have hx:=zvg voI a.args _ (Qe hlt);have HC:=H a.args[k] (Qe hlt) (zb1 ys ((a.args.take k).map voI).flatten) Zi;rw[<-zk8,<-zeg voI a.args k hlt]at HC;simp only[tmD,zaa a.args[k]]at HC;refine Zm hlt (zaa a.args[k]) ?_;refine zei [27,28,29] [33,34] [] (HC) Zg Zg Zg Zg ?_;refine Zj ?_;refine⟨k+1,hlt,Zi,zcn 0 1120 ?_⟩;refine Zj ?_;rw[zaf Zi]
   ·refine Xo ?_;exact Or.inl (by rw[Ql Zi])
theorem zsm:∀a:Tm,a.ne=true->a.wt<=1099511627776->∀ys:List Str,ys.length+(voI a).length<=1073741824->GC Tryz.prog 180 [(true,.one (zfg ys)),(false,tmD a)] [.one (zfg (zb1 ys (voI a)))] :=
 zbb λn xs ih ha hw ys hs=>zz9 (.mk n xs) ha (λx hx ys hs=>ih x hx (by rw[Tm.ne_eq',Qd]at ha;exact Qr.1 ha.2 x hx) (by
  have:=Tm.wt_eq (.mk n xs);have:=zci Tm.wt xs x hx
  simp only[Tm.args]at *;omega) ys hs) ys hs (by have:=Tm.wt_eq (.mk n xs);omega)
theorem qda (a:Tm)(H:∀x∈a.args,∀ys:List Str,ys.length+(voS x).length<=1073741824->GC Tryz.prog 176 [(true,.one (zfg ys)),(false,tmD x)] [.one (zfg (zc6 ys (voS x)))])
  (ys:List Str) (hs:ys.length+(voS a).length<=1073741824) (hl:a.args.length<=1099511627776):GC Tryz.prog 176 [(true,.one (zfg ys)),(false,tmD a)] [.one (zfg (zc6 ys (voS a)))]:=by
 have hv:=znr a
 simp only[tmD,zaa]
 refine zs4 Tryz.call176 Tryz.func176 rfl Zh (by simp only[Qj,Qo,Tryz.ntmps176];omega) (by simp[zb6,T.isPin]) ?_
 simp -implicitDefEqProofs only[go_sem,Tryz.results176]
 refine callF (zh6 a.name) Zg ?_
 refine Zj ?_
 refine⟨λh=>?_,λh=>?_⟩
 ·rw[if_pos h]at hv;rw[hv]at hs⊢;refine zei [] [9,11] [] (qrb ys a.name (by simp at hs;omega)) Zg Zg Zg Zg ?_;refine Zj ?_;exact Or.inl rfl
 ·rw[h,if_neg (by simp)]at hv;rw[hv]at hs⊢;refine zad (λk:Nat=>hd [(0,.one (.ow 0 0)),(3,.one (.bx 3 0)),(5,vI k)] [(3,[.t (.str a.name),.rn (tmS a.args)])] [(0,⟨true,1,(zc6 ys ((a.args.take k).map voS).flatten).map λs=>[.str s],0,true⟩)]) (λk=>k<=a.args.length) (λk=>a.args.length-k) 0 (zab ?_) (Qy _) ?_
  ·refine Zj ?_;rfl
  ·intro k hk;by_cases hlt:k<a.args.length
   ·have hf:=zdh voS a.args k hlt;have hL:=ztd ((a.args.take k).map voS).flatten ys;have HC:=H a.args[k] (Qe hlt) (zc6 ys ((a.args.take k).map voS).flatten) Zi;rw[<-zsj,<-zeg voS a.args k hlt]at HC;simp only[tmD,zaa a.args[k]]at HC;refine Zm hlt (zaa a.args[k]) ?_;refine zei [3,5] [20,25] [] (HC) Zg Zg Zg Zg ?_;refine Zj ?_;refine⟨k+1,hlt,Zi,zcn 0 832 ?_⟩;refine Zj ?_;rw[zaf Zi]
   ·refine Xo ?_;exact Or.inl (by rw[Ql Zi])
end Go.Proofs.YtmhbmpbgpjljeaaGreat
namespace Go.Proofs.YtmhbmpbgpjljeaaGreat
set_option linter.unusedSimpArgs false
set_option linter.unusedVariables false
set_option linter.unusedSectionVars false
set_option maxRecDepth 4000
open Go.RowKit
theorem zu2 {a x:Tm}(h:x∈a.args):x.wt<=a.wt:=by
 have:=Tm.wt_eq a
 have:=zci Tm.wt a.args x h
 omega
def mnL (zbm:Int):Int->List (Int->Int)->Int
 | n,[]=>n
 | n,r::rs=>if n<=zbm then mnL zbm (n+r (zbm-n)) rs else n
theorem zwc {α:Type}(f:α->Int->Int)(g:α->Nat)(zbm:Int):∀(xs:List α)(n:Int),0<=n->(∀x∈xs,∀m,0<=m->1<=f x m/\f x m<=g x/\(f x m<=m->f x m=g x))->mnL zbm n (xs.map f)<=n+(xs.map g).sum/\n<=mnL zbm n (xs.map f)/\(mnL zbm n (xs.map f)<=zbm->mnL zbm n (xs.map f)=n+(xs.map g).sum)
 | [],n,_,_=>by simp[mnL]
 | x::xs,n,hn,h=>by
  simp only[Qk,mnL,Jd];split
  ·obtain⟨h1,h2,h3⟩:=h x (by simp) (zbm-n) Zi;obtain⟨k1,k2,k3⟩:=zwc f g zbm xs (n+f x (zbm-n)) Zi λy hy=>h y (by simp[hy]);refine⟨Zi,Zi,λhh=>?_⟩;have:=k3 hh;have:f x (zbm-n)=g x:=h3 Zi;omega
  ·refine⟨Zi,Zi,λhh=>by omega⟩
def ze9:Tm->Int->Int:=Tm.fold λ_ _ rs m=>mnL m 1 rs
theorem zxz (a:Tm)(m:Int):ze9 a m=mnL m 1 (a.args.map ze9):=congrFun (Tm.fold_eq _ a) m
theorem zmv:∀(a:Tm)(m:Int),0<=m->1<=ze9 a m/\ze9 a m<=a.nodes/\(ze9 a m<=m->ze9 a m=a.nodes):=by
 refine zbb λb0 xs ih m hm=>?_
 rw[zxz,Tm.nodes_eq]
 show 1<=mnL m 1 (xs.map ze9)/\mnL m 1 (xs.map ze9)<=((1+(xs.map Tm.nodes).sum:Nat):Int)/\(mnL m 1 (xs.map ze9)<=m->mnL m 1 (xs.map ze9)=((1+(xs.map Tm.nodes).sum:Nat):Int))
 obtain⟨k1,k2,k3⟩:=zwc ze9 Tm.nodes m xs 1 Zi ih
 refine⟨k2,Zi,λh=>?_⟩
 have:=k3 h
 omega
theorem qlz (a:Tm)(m:Nat):decide (ze9 a m<=m)=decide (a.nodes<=m):=by
 obtain⟨h1,h2,h3⟩:=zmv a m Zi
 rw[Yr]
 exact⟨λh=>by have:=h3 h;omega,λh=>by omega⟩
set_option maxHeartbeats 400000 in
theorem qcq (a:Tm)(hs:a.wt<=1099511627776)(H:∀x∈a.args,∀m:Int,0<=m->m<=1099511627776->FC Tryz.prog 149 [tmD x,iD m] [iD (ze9 x m)])(m:Int)(h0:0<=m)(h1:m<=1099511627776):FC Tryz.prog 149 [tmD a,iD m] [iD (ze9 a m)]:=by
 have hl:a.args.length<=9223372036854775807:=by rw[Tm.wt_eq]at hs;omega
 have hn:=zkb a
 have hN:=a.nodes_eq
 simp only[tmD,zaa]
 refine zam Tryz.call149 Tryz.func149 rfl Zh (zat Zh) ?_
 simp -implicitDefEqProofs only[go_sem,Tryz.results149]
 refine zad (λp:Nat×Int=>hd [(1,vI m),(2,.one (.bx 2 0)),(5,vI p.2),(6,vI p.1)] [(2,[.t (.str a.name),.t (tmS a.args)])] []) (λp=>p.1<=a.args.length/\ze9 a m=mnL m p.2 ((a.args.drop p.1).map ze9)/\1<=p.2/\p.2+qrp Tm.nodes a.args p.1<=a.nodes) (λp=>a.args.length-p.1) (0,1) (zab ?_) ?_ ?_
 ·exact Zg
 ·exact⟨by simp,by rw[zxz];rfl,Zi,by rw[zsq];omega⟩
 ·intro ⟨k,n⟩ ⟨hk,hr,h2,h3⟩;simp only at hk hr h2 h3;by_cases hlt:k<a.args.length
  ·have hd:=qhe Tm.nodes a.args k hlt;rw[Qn hlt,Qk,mnL]at hr;refine Z8 hlt ?_;refine⟨λh=>?_,λh=>?_⟩
   ·have hle:n<=m:=by simpa using h
    obtain⟨s1,s2,s3⟩:=zmv a.args[k] (m-n) Zi;rw[zay (n:=m-n) Zi Zi];refine callF (H a.args[k] (Qe hlt) (m-n) Zi Zi) Zn ?_;refine Zq ?_;rw[if_pos hle]at hr;exact⟨(k+1,n+ze9 a.args[k] (m-n)),⟨hlt,hr,by simp only;omega,by simp only;omega⟩,by simp only;omega,zab (by simp -implicitDefEqProofs only[go_sem];rw[zaf Zi,zay Zi Zi];exact⟨rfl,rfl⟩)⟩
   ·rw[hr,if_neg (by simpa using h)]
  ·refine Xo ?_;rw[hr,Q1 Zi];rfl
theorem qjv:∀a:Tm,a.wt<=1099511627776->∀m:Int,0<=m->m<=1099511627776->FC Tryz.prog 149 [tmD a,iD m] [iD (ze9 a m)] :=
 zbb λb0 xs ih hs=>qcq (.mk b0 xs) hs λx hx=>ih x hx (Q8 (zu2 (a:=.mk b0 xs) hx) hs)
end Go.Proofs.YtmhbmpbgpjljeaaGreat
namespace Go.Proofs.YtmhbmpbgpjljeaaGreat
set_option linter.unusedSimpArgs false
set_option linter.unusedVariables false
set_option linter.unusedSectionVars false
set_option maxRecDepth 4000
open Go.RowKit
set_option maxHeartbeats 400000 in
theorem qa8 (a:Tm)(hs:a.wt<=1099511627776)(H:∀x∈a.args,FC Tryz.prog 40 [tmD x] [iD x.depth]):FC Tryz.prog 40 [tmD a] [iD a.depth]:=by
 have hl:a.args.length<=9223372036854775807:=by rw[Tm.wt_eq]at hs;omega
 have hn:=zkb a
 have hdn:=zlw a
 have hD:=a.depth_eq
 simp only[tmD,zaa]
 refine zam Tryz.call40 Tryz.func40 rfl Zh (zat Zh) ?_
 simp -implicitDefEqProofs only[go_sem,Tryz.results40]
 refine zad (λp:Nat×Nat=>hd [(1,.one (.bx 1 0)),(3,vI p.2),(4,vI p.1)] [(1,[.t (.str a.name),.t (tmS a.args)])] []) (λp=>p.1<=a.args.length/\a.depth=((a.args.drop p.1).map Tm.depth).foldl max p.2+1) (λp=>a.args.length-p.1) (0,0) (zab ?_) ?_ ?_
 ·exact Zg
 ·exact⟨by simp,hD⟩
 ·intro ⟨k,n⟩ ⟨hk,hr⟩;simp only at hk hr;by_cases hlt:k<a.args.length
  ·rw[Qn hlt,Qk,Ks]at hr;refine Z8 hlt ?_;refine callF (H a.args[k] (Qe hlt)) Zn ?_;refine Zq ?_;refine callF (zyd n a.args[k].depth) Zn ?_;refine Zq ?_;exact⟨(k+1,max n a.args[k].depth),⟨hlt,hr⟩,by simp only;omega,zab (by simp -implicitDefEqProofs only[go_sem];rw[zaf Zi];exact⟨by congr 1;omega,rfl⟩)⟩
  ·refine Xo ?_;rw[Q1 Zi]at hr;simp only[Q6,Y7]at hr;rw[hr,zaf Zi]
theorem zsp:∀a:Tm,a.wt<=1099511627776->FC Tryz.prog 40 [tmD a] [iD a.depth] :=
 zbb λn xs ih hs=>qa8 (.mk n xs) hs λx hx=>ih x hx (Q8 (zu2 (a:=.mk n xs) hx) hs)
theorem zy5 (a:Tm)(hs:a.wt<=1099511627776):FC Tryz.prog 89 [tmD a] [bD (zc7 a)]:=by
 simp only[tmD,zaa]
 refine zam Tryz.call89 Tryz.func89 rfl Zh (zat Zh) ?_
 simp -implicitDefEqProofs only[go_sem,Tryz.results89]
 refine callF (qjv a hs 30 Zi Zi) Zn ?_
 refine Zq ?_
 rw[show decide (ze9 a 30<=30)=decide (a.nodes<=30) from qlz a 30]
 refine⟨λh=>?_,λh=>?_⟩
 ·refine callF (zsp a hs) Zn ?_;refine Zq ?_;rw[zc7,h,Q2]
  congr 1
  rw[Yr];omega
 ·rw[zc7,h];rfl
theorem zz6 (a:Tm)(H:∀x∈a.args,FC Tryz.prog 90 [tmD x] [bD x.names]):FC Tryz.prog 90 [tmD a] [bD a.names]:=by
 refine zbz (λhw=>?_) Tryz.call90
 have hl:a.args.length<=9223372036854775807:=by simp only[tmD,zaa]at hw;simp[zee,wfT,zp6]at hw;exact hw.2.1
 have hN:=a.names_eq
 simp only[tmD,zaa]
 refine zam Tryz.call90 Tryz.func90 rfl Zh (zat Zh) ?_
 simp -implicitDefEqProofs only[go_sem,Tryz.results90]
 refine callF (zh6 a.name) Zg ?_
 refine Zj ?_
 refine⟨λh=>?_,λh=>?_⟩
 ·rw[hN,if_pos h]
  congr 1
  rw[J6];simp
 ·rw[h]at hN;simp only[Qz,if_false]at hN;refine callF (znj a.name) Zg ?_;refine Zj ?_;by_cases hy:zbt a.name=true
  ·by_cases h4:a.args.length<=4
   ·rw[hy,show decide (a.args.length<=4)=true by simpa using h4,Q2,Q2]at hN;refine⟨λ_=>⟨λh=>by simp at h;omega,λ_=>?_⟩,λh=>by simp[hy]at h⟩;refine zad (λk:Nat=>hd [(1,.one (.bx 1 0)),(3,vI k)] [(1,[.t (.str a.name),.t (tmS a.args)])] []) (λk=>k<=a.args.length/\a.names=(a.args.drop k).all Tm.names) (λk=>a.args.length-k) 0 (zab ?_) ?_ ?_
    ·exact Zg
    ·exact⟨by simp,hN⟩
    ·intro k ⟨hk,hr⟩;by_cases hlt:k<a.args.length
     ·rw[Qn hlt,Jl]at hr;refine Z8 hlt ?_;refine callF (H a.args[k] (Qe hlt)) Zn ?_;refine Zq ?_;refine⟨λh=>?_,λh=>⟨k+1,⟨hlt,?_⟩,Zi,zab (by simp -implicitDefEqProofs only[go_sem];rw[zaf Zi])⟩⟩
      ·rw[hr,show a.args[k].names=false by simpa using h];rfl
      ·rw[hr,show a.args[k].names=true by simpa using h];rfl
     ·refine Xo ?_;rw[hr,Q1 Zi];rfl
   ·refine⟨λ_=>⟨λ_=>?_,λh=>by simp at h;omega⟩,λh=>by simp[hy]at h⟩;rw[hN,show decide (a.args.length<=4)=false by simpa using h4,J0];rfl
  ·have hy':zbt a.name=false:=by simpa using hy
   refine⟨λh=>by simp[hy']at h,λ_=>?_⟩;rw[hN,hy'];rfl
theorem zk6:∀a:Tm,FC Tryz.prog 90 [tmD a] [bD a.names]:=zbb λn xs ih=>zz6 (.mk n xs) ih
theorem zxa (a:Tm)(hs:a.wt<=1099511627776):FC Tryz.prog 42 [tmD a] [bD a.good]:=by
 simp only[tmD,zaa]
 refine zam Tryz.call42 Tryz.func42 rfl Zh (zat Zh) ?_
 simp -implicitDefEqProofs only[go_sem,Tryz.results42]
 refine callF (zy5 a hs) Zn ?_
 refine Zq ?_
 refine⟨λh=>?_,λh=>?_⟩
 ·refine callF (zk6 a) Zn ?_;refine Zq ?_;rw[Tm.good,h,Q2]
 ·rw[Tm.good,h,Q4]
theorem zxw (a:Tm)(hs:a.wt<=1099511627776):FC Tryz.prog 144 [tmD a] [bD a.atomOk]:=by
 have hN:a.atomOk=if(a.name==[61])=true then decide (a.args.length=2)&&zc7 a&&a.args.all Tm.names else zbt a.name&&a.good:=rfl
 simp only[tmD,zaa]
 refine zam Tryz.call144 Tryz.func144 rfl Zh (zat Zh) ?_
 simp -implicitDefEqProofs only[go_sem,Tryz.results144]
 refine⟨λh=>?_,λh=>?_⟩
 ·rw[if_pos h]at hN;by_cases h2:a.args.length=2
  ·have k0:0<a.args.length:=by omega
   have k1:1<a.args.length:=by omega
   have e2:((a.args.length:Int)==2)=true:=by simp[h2]
   have l0:(0:Int)<a.args.length:=by omega
   have l1:(1:Int)<a.args.length:=by omega
   rw[qib h2,show decide (a.args.length=2)=true by simp[h2]]at hN;simp only[Q2]at hN;simp only[e2,qdb,zfk,qsh,zev,and_true];refine callF (zy5 a hs) (Xf l0 k0) ?_;simp -implicitDefEqProofs only[go_sem,zaa,l0,zac,k0];refine⟨λh3=>?_,λh3=>?_⟩
   ·refine callF (zk6 a.args[0]) (Xf l1 k1) ?_;simp -implicitDefEqProofs only[go_sem,zaa,l1,zac,k1];refine⟨λh4=>?_,λh4=>?_⟩
    ·refine callF (zk6 a.args[1]) Zn ?_;refine Zq ?_;rw[hN,h3,h4];rfl
    ·rw[hN,h3,h4];rfl
   ·rw[hN,h3];rfl
  ·have e2:((a.args.length:Int)==2)=false:=by simp;omega
   simp only[e2,qdb,qql,zfk,zev,and_true,true_and,qp2];rw[hN,show decide (a.args.length=2)=false by simpa using h2];rfl
 ·rw[h]at hN;simp only[Qz,if_false]at hN;refine callF (znj a.name) Zg ?_;refine Zj ?_;refine⟨λh3=>?_,λh3=>?_⟩
  ·refine callF (zxa a hs) Zn ?_;refine Zq ?_;rw[hN,h3,Q2]
  ·rw[hN,h3,Q4]
end Go.Proofs.YtmhbmpbgpjljeaaGreat
namespace Go.Proofs.YtmhbmpbgpjljeaaGreat
set_option linter.unusedSimpArgs false
set_option linter.unusedVariables false
set_option linter.unusedSectionVars false
set_option maxRecDepth 4000
open Go.RowKit
theorem qll:∀a:Tm,a.wt<=1099511627776->∀ys:List Str,ys.length+(voS a).length<=1073741824->GC Tryz.prog 176 [(true,.one (zfg ys)),(false,tmD a)] [.one (zfg (zc6 ys (voS a)))] :=
 zbb λn xs ih hw ys hs=>qda (.mk n xs) (λx hx ys hs=>ih x hx (Q8 (zu2 (a:=.mk n xs) hx) hw) ys hs) ys hs (by have:=Tm.wt_eq (.mk n xs);omega)
theorem ze7 {s:Str}(h:zax s=true):zh2 (s.getD 0 0)=true/\0<s.length:=by
 unfold zax at h
 rw[Qd]at h
 cases s with
 | nil=>exact absurd h.2 (by decide)
 | cons b s =>
  have:=zws (s:=b::s) (by simp);rw[h.1]at this;have:=(Qd _ _).mp this.symm;exact⟨this.1,by simp⟩
theorem up_low {b:UInt8}(h:zfl b=true):zh2 b=false:=by
 unfold zfl zh2 at *
 simp only[Qd,Q0,Bool.and_eq_false_iff,Ko]at *
 omega
theorem zdx {s:Str}(h:zbt s=true):zh2 (s.getD 0 0)=false/\0<s.length:=by
 unfold zbt at h
 simp only[Qd]at h
 cases s with
 | nil=>exact absurd h.1.2 (by decide)
 | cons b s =>
  have:=zrl (s:=b::s) (by simp);rw[h.1.1]at this;have:=(Qd _ _).mp this.symm;exact⟨up_low this.1,by simp⟩
theorem zov:∀a:Tm,a.names=true->voI a=voS a/\a.ne=true:=zbb λn xs ih h=>by
 rw[Tm.names_eq]at h
 rw[zy6,znr,Tm.ne_eq']
 change (if zax n=true then decide (xs.length=0)else zbt n&&decide (xs.length<=4)&&xs.all Tm.names)=true at h
 change (if(decide (xs.length=0)&&zh2 (n.getD 0 0))=true then [n]else (xs.map voI).flatten)=(if zax n=true then [n]else (xs.map voS).flatten)/\((!decide (xs.length=0)||decide (0<n.length))&&xs.all Tm.ne)=true
 change ∀x∈xs,_ at ih
 by_cases hv:zax n=true
 ·rw[if_pos hv]at h⊢;obtain⟨h1,h2⟩:=ze7 hv;have h:xs.length=0:=Kw h;have hx:xs=[]:=Kc.1 h;subst hx;rw[h1];exact⟨rfl,by simp[h2]⟩
 ·rw[if_neg hv]at h⊢;simp only[Qd]at h;obtain⟨h1,h2⟩:=zdx h.1.1;rw[h1,J0,if_neg (by simp)];have hI:=λx hx=>ih x hx (Qr.1 h.2 x hx);refine⟨by rw[Jb λx hx=>(hI x hx).1],?_⟩;rw[Qd];exact⟨by simp[h2],Qr.2 λx hx=>(hI x hx).2⟩
theorem qhs {a:Tm}(h:a.atomOk=true):voI a=voS a/\a.ne=true:=by
 unfold Tm.atomOk at h
 split at h
 ·rename_i he;have he:a.name=[61]:=by simpa using he
  simp only[Qd,Q0]at h;rw[zy6,znr,Tm.ne_eq',he];have hI:=λx hx=>zov x (Qr.1 h.2 x hx);rw[show zh2 (([61]:Str).getD 0 0)=false by decide,show zax [61]=false by decide,J0,if_neg (by simp),if_neg (by simp)];refine⟨by rw[Jb λx hx=>(hI x hx).1],?_⟩;rw[Qd];exact⟨by simp,Qr.2 λx hx=>(hI x hx).2⟩
 ·simp only[Qd]at h;have:=h.2;unfold Tm.good at this;rw[Qd]at this;exact zov a this.2
end Go.Proofs.YtmhbmpbgpjljeaaGreat
namespace Go.Proofs.YtmhbmpbgpjljeaaGreat
set_option linter.unusedSimpArgs false
set_option linter.unusedVariables false
set_option linter.unusedSectionVars false
set_option maxRecDepth 4000
open Go.RowKit
theorem qci (s:Str):FC Tryz.prog 214 [sD s] [bD false]:=by
 refine zam Tryz.call214 Tryz.func214 rfl Zh (zat Zh) ?_
 simp -implicitDefEqProofs only[go_sem,Tryz.results214]
 simp
def zl9 (s t:Str):Int:=if Op.bytesLess s t=true then -1 else if(s==t)=true then 0 else 1
theorem zyk (s t:Str):FC Tryz.prog 163 [sD s,sD t] [iD (zl9 s t)]:=by
 have hc:zl9 s t=if Op.bytesLess s t=true then -1 else if(s==t)=true then 0 else 1:=rfl
 refine zam Tryz.call163 Tryz.func163 rfl Zh (zat Zh) ?_
 simp -implicitDefEqProofs only[go_sem,Tryz.results163]
 refine callF (qci s) Zg ?_
 refine Zj ?_
 refine callF (qci t) Zg ?_
 refine Zj ?_
 refine⟨λh=>by rw[hc,if_pos h],λh=>⟨λh2=>?_,λh2=>?_⟩⟩
 ·rw[h,K5,Jk]at h2;rw[hc,h,h2];rfl
 ·rw[h,K5,Bool.not_eq_false']at h2;rw[hc,h,h2];rfl
def bnC (p:Str×Tm):List T:=.str p.1::tmC p.2
def sbS (l:List (Str×Tm)):T:=.sl 3 (l.map bnC)
theorem zxg (n:Str)(t:Tm):bnC (n,t)=[.str n,.str t.name,.sl 2 (t.args.map tmC)]:=by unfold bnC;rw[zaa]
end Go.Proofs.YtmhbmpbgpjljeaaGreat
namespace Go.Proofs.YtmhbmpbgpjljeaaGreat
set_option linter.unusedSimpArgs false
set_option linter.unusedVariables false
set_option linter.unusedSectionVars false
set_option maxRecDepth 4000
open Go.RowKit
def eqL {α:Type}(p:α->α->Bool):List α->List α->Bool
 | [],[]=>true
 | a::xs,b::ys=>p a b&&eqL p xs ys
 | _,_=>false
theorem zu0 {α:Type}{p:α->α->Bool}:∀{xs ys:List α},xs.length≠ys.length->eqL p xs ys=false
 | [],[],h=>absurd rfl h
 | [],_::_,_=>rfl
 | _::_,[],_=>rfl
 | a::xs,b::ys,h=>by simp only[eqL];rw[zu0 (by simpa using h),J0]
theorem zo6 {α:Type}{p:α->α->Bool}:∀{xs ys:List α},(∀x∈xs,∀y,p x y=same x y)->eqL p xs ys=same xs ys
 | [],[],_=>zhd.symm
 | [],_::_,_=>(zbv.2 (by simp)).symm
 | _::_,[],_=>(zbv.2 (by simp)).symm
 | a::xs,b::ys,h=>by simp only[eqL];rw[zcr,h a (by simp) b,zo6 λx hx y=>h x (by simp[hx]) y]
set_option maxRecDepth 10000 in
set_option maxHeartbeats 400000 in
theorem zks (xs ys:List Tm)(p:Tm->Tm->Bool)(g:FuncId)(caps:List T)(H:∀x∈xs,∀y∈ys,FC Tryz.prog g (tmD x::tmD y::caps.map .one) [bD (p x y)]):FC Tryz.prog 129 [.one (tmS xs),.one (tmS ys),.one (.fn g caps)] [bD (eqL p xs ys)]:=by
 refine zbz (λhw=>?_) Tryz.call129
 have hl:xs.length<=9223372036854775807:=by simpa[zee,wfT]using hw.1.1
 have hl2:ys.length<=9223372036854775807:=by simpa[zee,wfT]using hw.2.1.1
 refine zam Tryz.call129 Tryz.func129 rfl Zh (zat Zh) ?_
 simp -implicitDefEqProofs only[go_sem,Tryz.results129]
 refine⟨λh=>?_,λh=>?_⟩
 ·rw[zu0 (by rintro e;simp[e]at h)]
 ·have hlen:xs.length=ys.length:=by simp at h;omega
  refine zad (λk:Nat=>hd [(1,vT (tmS ys)),(2,.one (.t (.fn g caps))),(15,vT (tmS xs)),(16,vI xs.length),(17,vI k)] [] []) (λk=>k<=xs.length/\eqL p xs ys=eqL p (xs.drop k) (ys.drop k)) (λk=>xs.length-k) 0 (zab ?_) ?_ ?_
  ·exact Zg
  ·simp
  ·intro k ⟨hk,hr⟩;by_cases hlt:k<xs.length
   ·have hk2:k<ys.length:=by omega
    simp -implicitDefEqProofs only[go_sem,Qa,zac,hlt,hk2,zaa];refine callF (H xs[k] (Qe hlt) ys[k] (Qe hk2)) Zn ?_;refine Zq ?_;rw[Qn hlt,Qn hk2,eqL]at hr;refine⟨λh=>?_,λh=>?_⟩
    ·rw[hr,show p xs[k] ys[k]=false by simpa using h];rfl
    ·rw[show p xs[k] ys[k]=true by simpa using h,Q2]at hr;rw[zaf Zi];exact⟨k+1,⟨Zi,hr⟩,Zi,zab Zg⟩
   ·refine Zw hlt ?_;rw[hr,Q1 Zi,Q1 Zi];rfl
end Go.Proofs.YtmhbmpbgpjljeaaGreat
namespace Go.Proofs.YtmhbmpbgpjljeaaGreat
set_option linter.unusedSimpArgs false
set_option linter.unusedVariables false
set_option linter.unusedSectionVars false
set_option maxRecDepth 4000
open Go.RowKit
theorem zl5 (a b:Tm):same a b=(same a.name b.name&&same a.args b.args):=by
 cases a;cases b
 rw[J6]
 simp only[Qd,za9,Tm.name,Tm.args,Tm.mk.injEq]
theorem ze1 {α:Type} [BEq α] [LawfulBEq α](a b:α):(a==b)=same a b:=by
 rw[J6,Jo,za9]
theorem qbc (a b:Tm)(H:FC Tryz.prog 129 [.one (tmS a.args),.one (tmS b.args),.one (.fn 72 [])] [bD (same a.args b.args)]) :
  FC Tryz.prog 72 [tmD a,tmD b] [bD (same a b)]:=by
 simp only[tmD,zaa]
 refine zam Tryz.call72 Tryz.func72 rfl Zh (zat Zh) ?_
 simp -implicitDefEqProofs only[go_sem,Tryz.results72]
 refine⟨λh=>?_,λh=>?_⟩
 ·refine callF (H) Zg ?_;refine Zj ?_;rw[zl5,<-ze1 a.name,h,Q2]
 ·rw[zl5,<-ze1 a.name,h];rfl
theorem zbx:∀a b:Tm,FC Tryz.prog 72 [tmD a,tmD b] [bD (same a b)] :=
 zbb λn xs ih b=>qbc (.mk n xs) b (by
  rw[show same (Tm.mk n xs).args b.args=eqL same (Tm.mk n xs).args b.args from(zo6 λ_ _ _=>rfl).symm]
  exact zks xs b.args same _ [] λx hx y _=>ih x hx y)
theorem qf9 (a b:Tm)(H:∀x∈a.args,∀y,FC Tryz.prog 88 [tmD x,tmD y] [bD (same x y)]):FC Tryz.prog 88 [tmD a,tmD b] [bD (same a b)]:=by
 refine zbz (λhw=>?_) Tryz.call88
 simp only[tmD,zaa]at hw⊢
 have hl:a.args.length<=9223372036854775807:=by simp[zee,wfT,zp6]at hw;exact hw.1.2.1
 refine zam Tryz.call88 Tryz.func88 rfl Zh (zat Zh) ?_
 simp -implicitDefEqProofs only[go_sem,Tryz.results88]
 refine⟨λh1=>?_,λh1=>by rw[zl5,<-ze1 a.name,show(a.name==b.name)=false by simpa using h1];rfl⟩
 have h1':same a.name b.name=true:=by rw[<-ze1];simpa using h1
 refine⟨λh2=>?_,λh2=>?_⟩
 ·rw[zl5,h1',Q2,zbv.2 (by rintro e;simp[e]at h2)]
 have hlen:a.args.length=b.args.length:=by simp at h2;omega
 have hs:same a b=same a.args b.args:=by rw[zl5,h1',Q2]
 refine zad (λk:Nat=>hd [(2,.one (.bx 2 0)),(3,.one (.bx 3 0)),(4,vB false),(5,vI k)] [(2,[.t (.str a.name),.t (tmS a.args)]),(3,[.t (.str b.name),.t (tmS b.args)])] []) (λk=>k<=a.args.length/\same a.args b.args=same (a.args.drop k) (b.args.drop k)) (λk=>a.args.length-k) 0 (zab ?_) ?_ ?_
 ·exact Zg
 ·simp
 ·intro k ⟨hk,hr⟩;by_cases hlt:k<a.args.length
  ·have hk2:k<b.args.length:=by omega
   refine Xo ?_;refine drawn Zh ?_;simp -implicitDefEqProofs only[go_sem,zac,hlt,hk2,zaa];refine za1 (H a.args[k] (Qe hlt) b.args[k]) Zn ?_;refine Zq ?_;rw[Qn hlt,Qn hk2,zcr]at hr;refine⟨Zh,λh=>?_,λh=>?_⟩
   ·rw[hs,hr,show same a.args[k] b.args[k]=false by simpa using h];rfl
   ·rw[show same a.args[k] b.args[k]=true by simpa using h,Q2]at hr;rw[zaf Zi];exact⟨k+1,⟨Zi,hr⟩,Zi,zab Zg⟩
  ·refine Xo ?_;rw[hs,hr,Q1 Zi,Q1 Zi,zhd]
theorem zd6:∀a b:Tm,FC Tryz.prog 88 [tmD a,tmD b] [bD (same a b)]:=zbb λn xs ih b=>qf9 (.mk n xs) b ih
end Go.Proofs.YtmhbmpbgpjljeaaGreat
namespace Go.Proofs.YtmhbmpbgpjljeaaGreat
set_option linter.unusedSimpArgs false
set_option linter.unusedVariables false
set_option linter.unusedSectionVars false
set_option maxRecDepth 4000
open Go.RowKit
def zgg (l:List (Str×Tm)):Tm->Tm:=Tm.fold λm _ rs=>if zax m=true then (match l.find? λp=>p.1==m with|some p=>p.2|none=>.mk m [])else .mk m rs
theorem zlq (l:List (Str×Tm))(a:Tm):zgg l a=if zax a.name=true then (match l.find? λp=>p.1==a.name with|some p=>p.2|none=>.mk a.name [])else .mk a.name (a.args.map (zgg l)):=by unfold zgg;rw[Tm.fold_eq]
end Go.Proofs.YtmhbmpbgpjljeaaGreat
namespace Go.Proofs.YtmhbmpbgpjljeaaGreat
set_option linter.unusedSimpArgs false
set_option linter.unusedVariables false
set_option linter.unusedSectionVars false
set_option maxRecDepth 4000
open Go.RowKit
theorem qqf (l:List (Str×Tm))(W:Nat)(hW:∀p∈l,p.2.wt<=W):∀a:Tm,(zgg l a).wt<=a.wt+a.nodes*W:=zbb λm xs ih=>by
 rw[zlq,Tm.nodes_eq]
 show(if zax m=true then (match l.find? fun(p:Str×Tm)=>p.1==m with|some p=>p.2|none=>.mk m [])else .mk m (xs.map (zgg l))).wt<=(Tm.mk m xs).wt+(1+(xs.map Tm.nodes).sum)*W
 have hs:(xs.map λx=>(zgg l x).wt).sum<=(xs.map Tm.wt).sum+(xs.map Tm.nodes).sum*W:=by
  revert ih;induction xs with
  | nil=>simp
  | cons x xs ih2 =>
   intro ih;have h1:=ih x (by simp);have h2:=ih2 λy hy=>ih y (by simp[hy]);simp only[Qk,Jd,Km];omega
 have h0:=Tm.wt_eq (.mk m xs)
 have h0:(Tm.mk m xs).wt=m.length+xs.length+(xs.map Tm.wt).sum:=h0
 rw[Km,Zd]
 split
 ·split
  ·rename_i p hp;have:=hW p (List.mem_of_find?_eq_some hp);omega
  ·have h1:=Tm.wt_eq (.mk m []);have h1:(Tm.mk m []).wt=m.length+0+0:=h1;omega
 ·have h1:=Tm.wt_eq (.mk m (xs.map (zgg l)));have h1:(Tm.mk m (xs.map (zgg l))).wt=m.length+(xs.map (zgg l)).length+((xs.map (zgg l)).map Tm.wt).sum:=h1;rw[Qa,Jj]at h1;have h2:(xs.map (Tm.wt∘zgg l)).sum=(xs.map λx=>(zgg l x).wt).sum:=rfl;omega
end Go.Proofs.YtmhbmpbgpjljeaaGreat
namespace Go.Proofs.YtmhbmpbgpjljeaaGreat
set_option linter.unusedSimpArgs false
set_option linter.unusedVariables false
set_option linter.unusedSectionVars false
set_option maxRecDepth 4000
open Go.RowKit
attribute [local go_sem] Oper.semAt_some
end Go.Proofs.YtmhbmpbgpjljeaaGreat
namespace Go.Proofs.YtmhbmpbgpjljeaaGreat
set_option linter.unusedSimpArgs false
set_option linter.unusedVariables false
set_option linter.unusedSectionVars false
set_option maxRecDepth 4000
open Go.RowKit
theorem qre {n m:Str}(hn:zax n=true)(hm:zbt m=true):(n==m)=false:=by
 rw[Yf]
 rintro rfl
 have h1:=(ze7 hn).1
 have h2:=(zdx hm).1
 rw[h1]at h2
 cases h2
theorem zz0 {n:Str}(h:zbt n=true):zax n=false:=by
 cases hv:zax n
 ·rfl
 ·have:=qre hv h;simp at this
end Go.Proofs.YtmhbmpbgpjljeaaGreat
namespace Go.Proofs.YtmhbmpbgpjljeaaGreat
set_option linter.unusedSimpArgs false
set_option linter.unusedVariables false
set_option linter.unusedSectionVars false
set_option maxRecDepth 4000
open Go.RowKit
set_option maxHeartbeats 400000 in
theorem zzy (xs:List Tm)(H:∀x∈xs,∀l:Int,0<=l->l<=1048576->FC Tryz.prog 175 [tmD x,iD l] [iD (szR x.wt l)])(l:Int)(h0:0<=l)(h1:l<=1048576) :
  FC Tryz.prog 222 [.one (tmS xs),iD l] [iD (szR (zo7 xs) l)]:=by
 refine zbz (λhw=>?_) Tryz.call222
 have hl:xs.length<=9223372036854775807:=by simpa[zee,wfT]using hw.1.1
 refine zam Tryz.call222 Tryz.func222 rfl Zh (zat Zh) ?_
 simp -implicitDefEqProofs only[go_sem,Tryz.results222]
 rw[zay Zi Zi]
 have hW:zo7 xs=xs.length+(xs.map Tm.wt).sum:=rfl
 refine⟨λh=>?_,λh=>?_⟩
 ·rw[zec (by simp at h;omega)]
 ·have hlen:(xs.length:Int)<=l:=by simp at h;omega
  refine zad (λk:Nat=>hd [(0,vT (tmS xs)),(1,vI (l-xs.length-zj3 Tm.wt xs k)),(5,vI k)] [] []) (λk=>k<=xs.length/\0<=l-xs.length-zj3 Tm.wt xs k) (λk=>xs.length-k) 0 (zab ?_) ?_ ?_
  ·refine Zj ?_;simp[zeh]
  ·simpa[zeh]using hlen
  ·intro k ⟨hk,hp⟩;by_cases hlt:k<xs.length
   ·have hs:=zbw Tm.wt xs k hlt;have hs2:=zcv Tm.wt xs (k+1);simp -implicitDefEqProofs only[go_sem,Qa,zac,hlt,zaa];refine callF (H xs[k] (Qe hlt) (l-xs.length-zj3 Tm.wt xs k) hp Zi) Zn ?_;refine Zq ?_;refine⟨λh=>?_,λh=>?_⟩
    ·have:=zik hp (by simpa using h);rw[zec Zi]
    ·obtain⟨h2,h3⟩:=zgw (by simpa using h);rw[zaf Zi];exact⟨k+1,⟨hlt,Zi⟩,Zi,zab (by simp -implicitDefEqProofs only[go_sem];rw[h3];congr 1;omega)⟩
   ·refine Zw hlt ?_;have hall:=zpv Tm.wt xs k Zi;rw[hall,zm7 Zi];congr 1;omega
set_option maxHeartbeats 400000 in
theorem zzt (xs:List Tm)(H:∀x∈xs,FC Tryz.prog 179 [tmD x] [tmD x])(hs:xs.length<=1048576) :
  FC Tryz.prog 225 [.one (tmS xs)] [.one (tmS xs)]:=by
 refine zbz (λhw=>?_) Tryz.call225
 refine zam Tryz.call225 Tryz.func225 rfl Zh (zat Zh) ?_
 simp -implicitDefEqProofs only[go_sem,Tryz.results225]
 refine qf8 (by simp -implicitDefEqProofs only[go_sem];omega) ?_
 refine Zj ?_
 refine zad (λk:Nat=>hd [(0,vT (tmS xs)),(3,.one (.ow 224 0)),(4,vI k)] [] [(224,⟨true,2,(xs.take k).map tmC++List.replicate (xs.length-k) [T.str [],T.sl 2 []],0,true⟩)]) (λk=>k<=xs.length) (λk=>xs.length-k) 0 (zab ?_) ?_ ?_
 ·refine Zj ?_;simp
 ·simp
 ·intro k hk;by_cases hlt:k<xs.length
  ·have hlen:((xs.take k).map tmC++List.replicate (xs.length-k) [T.str [],T.sl 2 []]).length=xs.length:=by simp;omega
   have hlt2:k<k+(xs.length-k):=by omega
   simp -implicitDefEqProofs only[go_sem,Qa,zac,hlt,zaa];refine callF (H xs[k] (Qe hlt)) Vi ?_;simp -implicitDefEqProofs only[go_sem,zaa,hlen,hlt,Qb,Qa,Qc,K1,K7 hk,hlt2];refine zi6 (by simp -implicitDefEqProofs only[go_sem];simp) ?_;refine Zj ?_;rw[zaf Zi];refine⟨k+1,Zi,Zi,zab ?_⟩;refine Zj ?_;have hf:=zhr ((xs.take k).map tmC) xs.length k [T.str [],T.sl 2 []] (tmC xs[k]) (by simp;omega) hlt (by simp[zaa]);simp only[zaa]at hf;rw[hf,Qg hlt,Qq,Q7];simp only[zaa]
  ·refine Zw hlt ?_;simp[Ql (show xs.length<=k by omega),show xs.length-k=0 by omega]
set_option maxHeartbeats 400000 in
theorem qai (xs ys:List Tm)(H:∀x∈xs,∀y,FC Tryz.prog 52 [tmD x,tmD y] [bD (same x y)]) :
  FC Tryz.prog 15 [.one (tmS xs),.one (tmS ys)] [bD (same xs ys)]:=by
 refine zbz (λhw=>?_) Tryz.call15
 have hl:xs.length<=9223372036854775807:=by simpa[zee,wfT]using hw.1.1
 have hl2:ys.length<=9223372036854775807:=by simpa[zee,wfT]using hw.2.1.1
 refine zam Tryz.call15 Tryz.func15 rfl Zh (zat Zh) ?_
 simp -implicitDefEqProofs only[go_sem,Tryz.results15]
 refine⟨λh=>?_,λh=>?_⟩
 ·rw[zbv.2 (by rintro rfl;simp at h)]
 ·have hlen:xs.length=ys.length:=by simp at h;omega
  refine zad (λk:Nat=>hd [(0,vT (tmS xs)),(1,vT (tmS ys)),(4,vB false),(5,vI k)] [] []) (λk=>k<=xs.length/\same xs ys=same (xs.drop k) (ys.drop k)) (λk=>xs.length-k) 0 (zab ?_) ?_ ?_
  ·exact Zg
  ·simp
  ·intro k ⟨hk,hr⟩;by_cases hlt:k<xs.length
   ·have hk2:k<ys.length:=by omega
    refine Zw hlt ?_;refine drawn Zh ?_;simp -implicitDefEqProofs only[go_sem,Qa,zac,hlt,hk2,zaa];refine za1 (H xs[k] (Qe hlt) ys[k]) Zn ?_;refine Zq ?_;refine⟨Zh,λh=>?_,λh=>?_⟩
    ·rw[hr,Qn hlt,Qn hk2,zcr,show same xs[k] ys[k]=false by simpa using h];rfl
    ·rw[Qn hlt,Qn hk2,zcr,show same xs[k] ys[k]=true by simpa using h,Q2]at hr;rw[zaf Zi];exact⟨k+1,⟨Zi,hr⟩,Zi,zab Zg⟩
   ·refine Zw hlt ?_;rw[hr,Q1 Zi,Q1 Zi,zhd]
set_option maxHeartbeats 400000 in
theorem qhz (a:Tm)(H:∀l:Int,0<=l->l<=1048576->FC Tryz.prog 222 [.one (tmS a.args),iD l] [iD (szR (zo7 a.args) l)])(l:Int)(h0:0<=l)(h1:l<=1048576) :
  FC Tryz.prog 175 [tmD a,iD l] [iD (szR a.wt l)]:=by
 refine zbz (λhw=>?_) Tryz.call175
 simp only[tmD,zaa]at hw⊢
 have hW:=a.wt_eq
 have hls:a.name.length<=9223372036854775807/\True:=by simp[zee,wfT,zp6]at hw;simp[hw]
 refine zam Tryz.call175 Tryz.func175 rfl Zh (zat Zh) ?_
 simp -implicitDefEqProofs only[go_sem,Tryz.results175]
 rw[zay Zi Zi]
 refine⟨λh1=>?_,λh1=>?_⟩
 ·rw[zec (by simp at h1;have hu0:zo7 a.args=a.args.length+(a.args.map Tm.wt).sum:=rfl; omega)]
 have k1:(a.name.length:Int)<=l:=by simp at h1;omega
 refine callF (H (l-(a.name.length:Int)) Zi Zi) Zn ?_
 refine Zq ?_
 refine⟨λh2=>?_,λh2=>?_⟩
 ·have:=zik Zi (show szR (zo7 a.args) (l-(a.name.length:Int))<0 by simpa using h2);rw[zec (by have hu0:zo7 a.args=a.args.length+(a.args.map Tm.wt).sum:=rfl; omega)]
 obtain⟨k2,j2⟩:=zgw (show ¬szR (zo7 a.args) (l-(a.name.length:Int))<0 by simpa using h2)
 rw[show szR a.wt l=l-a.wt from zm7 (by have hu0:zo7 a.args=a.args.length+(a.args.map Tm.wt).sum:=rfl; omega)];exact znc (by have hu0:zo7 a.args=a.args.length+(a.args.map Tm.wt).sum:=rfl; omega)
set_option maxHeartbeats 400000 in
theorem qes (a:Tm)(H:FC Tryz.prog 225 [.one (tmS a.args)] [.one (tmS a.args)])(hs:a.wt<=1048576):FC Tryz.prog 179 [tmD a] [tmD a]:=by
 have hW:=a.wt_eq
 simp only[tmD,zaa]
 refine zam Tryz.call179 Tryz.func179 rfl Zh (zat Zh) ?_
 simp -implicitDefEqProofs only[go_sem,Tryz.results179]
 refine callF (H) Zn ?_
 exact Zn
set_option maxHeartbeats 400000 in
theorem qcf (a b:Tm)(H:FC Tryz.prog 15 [.one (tmS a.args),.one (tmS b.args)] [bD (same a.args b.args)]):FC Tryz.prog 52 [tmD a,tmD b] [bD (same a b)]:=by
 simp only[tmD,zaa]
 refine zam Tryz.call52 Tryz.func52 rfl Zh (zat Zh) ?_
 simp -implicitDefEqProofs only[go_sem,Tryz.results52]
 refine⟨λh1=>?_,λh1=>?_⟩
 ·rw[zbv.2 (by rintro rfl;simp[zbh]at h1)]
 refine callF (H) Zn ?_
 refine Zq ?_
 refine⟨λh2=>?_,λh2=>?_⟩
 ·rw[zbv.2 (by rintro rfl;simp[zbh]at h2)]
 rw[za9.2 (by cases a;cases b;simp[za9,Tm.name,Tm.args]at h1 h2⊢;simp[h1,h2])]
theorem qmm:∀a:Tm,∀l:Int,0<=l->l<=1048576->FC Tryz.prog 175 [tmD a,iD l] [iD (szR a.wt l)] :=
 zbb λb0 xs ih l h0 h1=>qhz (.mk b0 xs) (λl h0 h1=>zzy xs ih l h0 h1) l h0 h1
theorem qiy:∀a:Tm,a.wt<=1048576->FC Tryz.prog 179 [tmD a] [tmD a]:=by
 refine zbb λb0 xs ih hs=>?_
 have hW:=Tm.wt_eq (.mk b0 xs)
 simp only[Tm.name,Tm.args]at hW
 refine qes _ (zzt xs (λx hx=>ih x hx ?_) Zi) hs
 have:=zci Tm.wt xs x hx
 omega
theorem qkf:∀a b:Tm,FC Tryz.prog 52 [tmD a,tmD b] [bD (same a b)] :=
 zbb λb0 xs ih b=>qcf (.mk b0 xs) b (qai xs b.args ih)
end Go.Proofs.YtmhbmpbgpjljeaaGreat
namespace Go.Proofs.YtmhbmpbgpjljeaaGreat
set_option linter.unusedSimpArgs false
set_option linter.unusedVariables false
set_option linter.unusedSectionVars false
set_option maxRecDepth 4000
open Go.RowKit
theorem zre (ns:List Str):(zio ns).length=ns.length:=(Yl ns leB).length_eq
end Go.Proofs.YtmhbmpbgpjljeaaGreat
namespace Go.Proofs.YtmhbmpbgpjljeaaGreat
set_option linter.unusedSimpArgs false
set_option linter.unusedVariables false
set_option linter.unusedSectionVars false
set_option maxRecDepth 4000
open Go.RowKit
def mpS (ps:List (Str×Tm)):T:=.mp true (ps.map bnC)
theorem zic (s:Str):∀ps:List (Str×Tm),zdy (.str s) (ps.map bnC)=some ((ps.find? λp=>p.1==s).map λp=>tmC p.2)
 | []=>rfl
 | p::ps=>by
  have ih:=zic s ps;show zdy (.str s) ((.str p.1::tmC p.2)::ps.map bnC)=_
  unfold zdy;rw[show qfg (.str s) (.str p.1)=some (decide (s=p.1)) from rfl,List.find?_cons];by_cases h:s=p.1
  ·subst h;simp
  ·have h2:(p.1==s)=false:=by simpa using λe=>h e.symm
   rw[Kv h,h2];exact ih
def rvT (ps:List (Str×Tm)):Tm->Tm:=Tm.fold λm _ rs=>if rs.length=0 then (match ps.find? λp=>p.1==m with|some p=>p.2|none=>.mk m [])else .mk m rs
theorem zy0 (ps:List (Str×Tm))(a:Tm):rvT ps a=if a.args.length=0 then (match ps.find? λp=>p.1==a.name with|some p=>p.2|none=>.mk a.name [])else .mk a.name (a.args.map (rvT ps)):=by
 unfold rvT
 rw[Tm.fold_eq]
 simp only[Qa]
theorem qqj:lk2Z Tryz.prog 74=some (.tup [(true,[.t (.str []),.nl 2]),(false,[.t (.bool false)])]):=by kernel_rfl
theorem zmm (ps:List (Str×Tm))(hp:∀p∈ps,p.2.wt<=1048576)(a:Tm)(ha:a.args.length<=1048576)(H:∀x∈a.args,FC Tryz.prog 127 [tmD x,.one (mpS ps)] [tmD (rvT ps x)]):FC Tryz.prog 127 [tmD a,.one (mpS ps)] [tmD (rvT ps a)]:=by
 have hv:=zy0 ps a
 have hf:=zic a.name ps
 have hpw:∀p,(ps.find? λp=>p.1==a.name)=some p->p.2.wt<=1048576:=λp h=>hp p (List.mem_of_find?_eq_some h)
 have hz:=qqj
 unfold mpS at H⊢
 generalize ps.map bnC=R at H hf⊢
 generalize (ps.find? λp=>p.1==a.name)=r at hf hv hpw
 have e1:tmD (.mk a.name (a.args.map (rvT ps)))=.agg [.str a.name,.sl 2 (a.args.map λx=>tmC (rvT ps x))]:=by unfold tmD;rw[zaa];simp only[Tm.name,Tm.args,Jj,Yy]
 cases r with
 | none =>
  rw[show(none:Option (Str×Tm)).map (λp=>tmC p.2)=none from rfl]at hf;have hv:rvT ps a=.mk a.name (a.args.map (rvT ps)):=by
   rw[hv];split
   ·rename_i h0;rw[Kc.1 h0];rfl
   ·rfl
  rw[hv,e1];simp only[tmD,zaa a]at H⊢;refine zam Tryz.call127 Tryz.func127 rfl Zh (zat Zh) ?_;simp -implicitDefEqProofs only[go_sem,Tryz.results127];refine qgf (v:=.tup [(true,[.t (.str []),.nl 2]),(false,[.t (.bool false)])]) (by simp -implicitDefEqProofs only[go_sem,hf,hz,Tryz.underlying162,Tryz.underlying9];try rfl) ?_;refine Zj ?_;refine zad (λk:Nat=>hd [(1,vT (.mp true R)),(4,.one (.bx 4 0)),(7,.one (.bx 7 0)),(30,vT (tmS a.args)),(31,vI a.args.length),(32,vI k)] [(4,[.t (.str []),.nl 2]),(7,[.t (.str a.name),.ow 3000 0])] [(3000,⟨true,2,(a.args.take k).map λx=>tmC (rvT ps x),0,true⟩)]) (λk=>k<=a.args.length) (λk=>a.args.length-k) 0 (zab ?_) (Qy _) ?_
  ·exact Zg
  ·intro k hk;by_cases hlt:k<a.args.length
   ·have hmin:min k a.args.length<=4294967295:=by omega
    have HC:=H a.args[k] (Qe hlt);simp only[tmD,zaa a.args[k],zaa (rvT ps a.args[k])]at HC;refine Zm hlt (zaa a.args[k]) ?_;refine drawn Zh ?_;refine Zj ?_;refine za1 (HC) Zg ?_;refine Zj ?_;refine za7 Zg ?_;refine Zj ?_;refine zcx true (Z5 hmin) ?_;refine Z6 hmin ?_;refine⟨Zh,k+1,hlt,Zi,zab ?_⟩;refine Zj ?_;rw[zaf Zi,Qg hlt,Qq,Q7,zaa (rvT ps a.args[k])]
    trivial
   ·have ht:a.args.take k=a.args:=Ql Zi;exact Xy
 | some p =>
  have HC:=zf4 p.2 (hpw p rfl);rw[show(some p).map (λp=>tmC p.2)=some (tmC p.2) from rfl]at hf;simp only[tmD,zaa p.2]at HC hf;by_cases h0:a.args.length=0
  ·rw[if_pos h0]at hv;rw[hv];have e0:((a.args.length:Int)==0)=true:=by simp[h0]
   simp only[tmD,zaa a,zaa p.2];refine zam Tryz.call127 Tryz.func127 rfl Zh (zat Zh) ?_;simp -implicitDefEqProofs only[go_sem,Tryz.results127];refine qgf (by simp -implicitDefEqProofs only[go_sem,hf,hz,Tryz.underlying162,Tryz.underlying9];rfl) ?_;refine Zk e0 ?_;refine callF (HC) Zg ?_;exact Zg
  ·rw[if_neg h0]at hv;have e0:((a.args.length:Int)==0)=false:=by simp[h0]
   rw[hv,e1];simp only[tmD,zaa a]at H⊢;refine zam Tryz.call127 Tryz.func127 rfl Zh (zat Zh) ?_;simp -implicitDefEqProofs only[go_sem,Tryz.results127];refine qgf (by simp -implicitDefEqProofs only[go_sem,hf,hz,Tryz.underlying162,Tryz.underlying9];rfl) ?_;refine Zk e0 ?_;refine zad (λk:Nat=>hd [(1,vT (.mp true R)),(4,.one (.bx 4 0)),(7,.one (.bx 7 0)),(30,vT (tmS a.args)),(31,vI a.args.length),(32,vI k)] [(4,[.t (.str []),.nl 2]),(7,[.t (.str a.name),.ow 3000 0])] [(3000,⟨true,2,(a.args.take k).map λx=>tmC (rvT ps x),0,true⟩)]) (λk=>k<=a.args.length) (λk=>a.args.length-k) 0 (zab ?_) (Qy _) ?_
   ·exact Zg
   ·intro k hk;by_cases hlt:k<a.args.length
    ·have hmin:min k a.args.length<=4294967295:=by omega
     have HC:=H a.args[k] (Qe hlt);simp only[tmD,zaa a.args[k],zaa (rvT ps a.args[k])]at HC;refine Zm hlt (zaa a.args[k]) ?_;refine drawn Zh ?_;refine Zj ?_;refine za1 (HC) Zg ?_;refine Zj ?_;refine za7 Zg ?_;refine Zj ?_;refine zcx true (Z5 hmin) ?_;refine Z6 hmin ?_;refine⟨Zh,k+1,hlt,Zi,zab ?_⟩;refine Zj ?_;rw[zaf Zi,Qg hlt,Qq,Q7,zaa (rvT ps a.args[k])]
     trivial
    ·have ht:a.args.take k=a.args:=Ql Zi;exact Xy
theorem zny (ps:List (Str×Tm))(hp:∀p∈ps,p.2.wt<=1048576):∀a:Tm,a.wt<=1048576->FC Tryz.prog 127 [tmD a,.one (mpS ps)] [tmD (rvT ps a)] :=
 zbb λm xs ih hs=>by
  obtain⟨h1,h2⟩:=Tm.wt_args hs;exact zmm ps hp (.mk m xs) h1 λx hx=>ih x hx (h2 x hx)
end Go.Proofs.YtmhbmpbgpjljeaaGreat
namespace Go.Proofs.YtmhbmpbgpjljeaaGreat
set_option linter.unusedSimpArgs false
set_option linter.unusedVariables false
set_option linter.unusedSectionVars false
set_option maxRecDepth 4000
open Go.RowKit
def lkP (ps:List (Str×Tm))(m:Str):Tm:=match ps.find? λp=>p.1==m with|some p=>p.2|none=>.mk m []
theorem putT_v (l:List (Str×Tm)){m:Str}(h:zax m=true)(xs:List Tm):zgg l (.mk m xs)=lkP l m:=by rw[zlq];exact if_pos h
theorem putT_n (l:List (Str×Tm)){m:Str}(h:¬zax m=true)(xs:List Tm):zgg l (.mk m xs)=.mk m (xs.map (zgg l)):=by rw[zlq];exact if_neg h
theorem rvT_v (l:List (Str×Tm))(m:Str):rvT l (.mk m [])=lkP l m:=by rw[zy0];exact if_pos rfl
theorem rvT_n (l:List (Str×Tm))(m:Str){xs:List Tm}(h:xs≠[]):rvT l (.mk m xs)=.mk m (xs.map (rvT l)):=by rw[zy0];exact if_neg λe=>h (Kc.1 e)
theorem qgl {m:Str}(h:zax m=true)(xs:List Tm):(Tm.mk m xs).names=decide (xs.length=0):=by rw[Tm.names_eq];exact if_pos h
theorem qh6 {m:Str}(h:¬zax m=true)(xs:List Tm):(Tm.mk m xs).names=(zbt m&&decide (xs.length<=4)&&xs.all Tm.names):=by rw[Tm.names_eq];exact if_neg h
theorem qcs (ps:List (Str×Tm))(hp:∀p∈ps,zax p.1=true):∀a:Tm,a.names=true->rvT ps a=zgg ps a:=zbb λm xs ih h=>by
 by_cases hm:zax m=true
 ·rw[qgl hm]at h;have hx:xs=[]:=Kc.1 (Kw h);subst hx;rw[rvT_v,putT_v _ hm]
 ·rw[qh6 hm]at h;simp only[Qd]at h;rw[putT_n _ hm];by_cases hx:xs=[]
  ·subst hx;rw[rvT_v];unfold lkP;have hf:(ps.find? λp=>p.1==m)=none:=by
    rw[List.find?_eq_none];intro p hpm e;have:=hp p hpm;rw[Jo.1 e]at this;exact hm this
   rw[hf];rfl
  ·rw[rvT_n _ _ hx]
   congr 1
   exact Jb λx hx=>ih x hx (Qr.1 h.2 x hx)
def nmA (a:Tm):Bool:=if(a.name==[61])=true then decide (a.args.length=2)&&a.args.all Tm.names else zbt a.name&&a.names
theorem zls (a:Tm):a.atomOk=(nmA a&&zc7 a):=by
 unfold Tm.atomOk nmA Tm.good
 split
 ·rw[Bool.and_assoc,Bool.and_comm (zc7 a),Bool.and_assoc]
 ·rw[Bool.and_comm (zc7 a),Bool.and_assoc]
theorem qod {a:Tm}(h:nmA a=true):zax a.name=false/\a.args.all Tm.names=true:=by
 unfold nmA at h
 split at h
 ·rename_i he;have he:a.name=[61]:=by simpa using he
  rw[Qd]at h;rw[he];exact⟨by decide,h.2⟩
 ·rw[Qd]at h;have hv:=zz0 h.1;have h2:=h.2;rw[Tm.names_eq,hv,if_neg (by simp)]at h2;simp only[Qd]at h2;exact⟨hv,h2.2⟩
theorem zrv (ps:List (Str×Tm))(hp:∀p∈ps,zax p.1=true){a:Tm}(h:nmA a=true):rvT ps a=zgg ps a:=by
 by_cases he:(a.name==[61])=true
 ·have h2:=h;unfold nmA at h2;rw[if_pos he]at h2;simp only[Qd,Q0]at h2;obtain⟨h3,h4⟩:=qod h;rw[zy0,zlq,if_neg Zi,h3,if_neg (by simp)]
  congr 1
  exact Jb λx hx=>qcs ps hp x (Qr.1 h4 x hx)
 ·unfold nmA at h;rw[if_neg he,Qd]at h;exact qcs ps hp a h.2
theorem qn3 {α:Type}(f g:α->Nat):∀(xs:List α),(∀x∈xs,f x<=g x)->(xs.map f).sum<=(xs.map g).sum
 | [],_=>Qp _
 | x::xs,H=>by
  have:=H x (by simp);have:=qn3 f g xs λy hy=>H y (by simp[hy]);rw[Qk,Qk,Jd,Jd];omega
theorem zzb {α:Type}(f:α->Nat):∀xs:List α,(xs.map λx=>8*f x).sum=8*(xs.map f).sum
 | []=>rfl
 | x::xs=>by rw[Qk,Jd,zzb f xs,Qk,Jd];omega
theorem zoj {α:Type}(w:α->Nat):∀xs:List α,(xs.map λx=>1+w x).sum=xs.length+(xs.map w).sum
 | []=>rfl
 | a::l=>by rw[Qk,Jd,zoj w l,Qj,Qk,Jd];omega
theorem zq9 {xs:List Tm}(H:∀x∈xs,1+x.wt<=8*x.nodes):xs.length+(xs.map Tm.wt).sum<=8*(xs.map Tm.nodes).sum:=by
 rw[<-zoj,<-zzb]
 exact qn3 _ _ xs H
theorem zx6:∀a:Tm,a.names=true->1+a.wt<=8*a.nodes:=zbb λm xs ih h=>by
 have hw:(Tm.mk m xs).wt=m.length+xs.length+(xs.map Tm.wt).sum:=Tm.wt_eq _
 have hn:(Tm.mk m xs).nodes=1+(xs.map Tm.nodes).sum:=Tm.nodes_eq _
 rw[hw,hn]
 by_cases hm:zax m=true
 ·rw[qgl hm]at h;have hx:xs=[]:=Kc.1 (Kw h);subst hx;unfold zax inB at hm;simp only[Qd,Q0]at hm;simp only[Q6,List.sum_nil,Qo];omega
 ·rw[qh6 hm]at h;simp only[Qd]at h;have h1:zbt m=true:=h.1.1;unfold zbt inB at h1;simp only[Qd,Q0]at h1;have h2:=zq9 λx hx=>ih x hx (Qr.1 h.2 x hx);omega
theorem zsa {a:Tm}(h:a.atomOk=true):a.wt<=512:=by
 rw[zls,Qd]at h
 obtain⟨h1,h2⟩:=h
 have h4:=(qod h1).2
 have hl:a.name.length<=6:=by
  unfold nmA at h1;split at h1
  ·rename_i he;rw[Jo.1 he];simp
  ·rw[Qd]at h1;have h1:=h1.1;unfold zbt inB at h1;simp only[Qd,Q0]at h1;omega
 unfold zc7 at h2
 simp only[Qd,Q0]at h2
 have hn:=a.nodes_eq
 have hw:=a.wt_eq
 have h5:=zq9 λx hx=>zx6 x (Qr.1 h4 x hx)
 omega
end Go.Proofs.YtmhbmpbgpjljeaaGreat
namespace Go.Proofs.YtmhbmpbgpjljeaaGreat
set_option linter.unusedSimpArgs false
set_option linter.unusedVariables false
set_option linter.unusedSectionVars false
set_option maxRecDepth 4000
open Go.RowKit
theorem zqa (a t:Tm):FC Tryz.prog 188 [tmD a,.one (.ptr (tmC t))] [bD (same a t)]:=by
 have H:=zbx a t
 simp only[tmD,zaa]at H⊢
 refine zam Tryz.call188 Tryz.func188 rfl Zh (zat Zh) ?_
 simp -implicitDefEqProofs only[go_sem,Tryz.results188]
 refine callF (H) Zg ?_
 exact Zg
theorem zph (xs:List Tm)(t:Tm):FC Tryz.prog 135 [.one (tmS xs),tmD t] [iD (zew xs λa=>same a t)]:=by
 have H:=zf0 xs (λa=>same a t) 188 [.ptr (tmC t)] λx _=>zqa x t
 simp only[tmD,zaa t]at H⊢
 refine zam Tryz.call135 Tryz.func135 rfl Zh (zat Zh) ?_
 simp -implicitDefEqProofs only[go_sem,Tryz.results135]
 refine callF (H) Zg ?_
 exact Zg
theorem qaa (xs:List Tm)(t:Tm):FC Tryz.prog 114 [.one (tmS xs),tmD t] [iD (zew xs λa=>same a t)]:=by
 refine zbz (λhw=>?_) Tryz.call114
 have hl:xs.length<=9223372036854775807:=by simpa[zee,wfT]using hw.1.1
 simp only[tmD,zaa t]
 refine zam Tryz.call114 Tryz.func114 rfl Zh (zat Zh) ?_
 simp -implicitDefEqProofs only[go_sem,Tryz.results114]
 refine zad (λk:Nat=>hd [(0,vT (tmS xs)),(3,.one (.bx 3 0)),(5,vI k)] [(3,[.t (.str t.name),.t (tmS t.args)])] []) (λk=>k<=xs.length/\∀x∈xs.take k,same x t=false) (λk=>xs.length-k) 0 (zab ?_) ⟨Qy _,by simp⟩ ?_
 ·exact Zg
 ·rintro k ⟨hk,hT⟩;by_cases hlt:k<xs.length
  ·have HC:=zd6 xs[k] t;simp only[tmD,zaa xs[k],zaa t]at HC;refine Xo ?_;refine drawn Zh ?_;refine Zm hlt (zaa xs[k]) ?_;refine za1 (HC) Zg ?_;refine Zj ?_;refine⟨Zh,λh=>?_,λh=>?_⟩
   ·rw[zbn hlt hT h]
   ·refine⟨k+1,⟨hlt,zbd hlt hT h⟩,Zi,zab ?_⟩;refine Zj ?_;rw[zaf Zi]
  ·refine Xo ?_;rw[Ql Zi]at hT;rw[zb4 hT]
end Go.Proofs.YtmhbmpbgpjljeaaGreat
namespace Go.Proofs.YtmhbmpbgpjljeaaGreat
set_option linter.unusedSimpArgs false
set_option linter.unusedVariables false
set_option linter.unusedSectionVars false
set_option maxRecDepth 4000
open Go.RowKit
noncomputable def dec (p:Prop):Bool:=@decide p (Classical.propDecidable _)
theorem zb8 {p:Prop}:dec p=true↔p:=by simp[dec]
end Go.Proofs.YtmhbmpbgpjljeaaGreat
namespace Go.Proofs.YtmhbmpbgpjljeaaGreat
set_option linter.unusedSimpArgs false
set_option linter.unusedVariables false
set_option linter.unusedSectionVars false
set_option maxRecDepth 4000
open Go.RowKit
def orE (x y:Int):Int:=if x=0 then y else x
structure GCmp {α:Type}(c:α->α->Int):Prop where
 neg:∀a b,c b a =-c a b
 tr:∀a b d,c a b<=0->c b d<=0->c a d<=0
section
variable {α β:Type}{c c1 c2:α->α->Int}
theorem GCmp.self (h:GCmp c)(a:α):c a a=0:=by have:=h.neg a a;omega
theorem GCmp.comp (h:GCmp c)(f:β->α):GCmp λx y=>c (f x) (f y):=⟨λa b=>h.neg _ _,λa b d=>h.tr _ _ _⟩
theorem GCmp.lex (h1:GCmp c1)(h2:GCmp c2):GCmp λa b=>orE (c1 a b) (c2 a b):=by
 refine⟨λa b=>?_,λa b d=>?_⟩
 ·have n1:=h1.neg a b;have n2:=h2.neg a b;unfold orE;split<;>split<;>omega
 ·have t1:=h1.tr a b d;have t2:=h2.tr a b d;have n1:=h1.neg a b;have n2:=h1.neg b d;have n3:=h1.neg a d;have t3:=h1.tr d a b;have t4:=h1.tr b d a;unfold orE;split<;>split<;>split<;>omega
end
def qbp {α:Type}(c:α->α->Int):List α->List α->Int
 | [],[]=>0
 | [],_::_ => -1
 | _::_,[]=>1
 | x::xs,y::ys=>orE (c x y) (qbp c xs ys)
theorem qeb {α:Type}{c:α->α->Int}(h:GCmp c):GCmp (qbp c):=by
 have hn:∀a b,qbp c b a =-qbp c a b:=by
  intro a;induction a with
  | nil=>intro b;cases b<;>rfl
  | cons x xs ih =>
   intro b;cases b with
   | nil=>rfl
   | cons y ys =>
    have n1:=h.neg x y;have n2:=ih ys;unfold qbp orE;split<;>split<;>omega
 refine⟨hn,?_⟩
 intro a
 induction a with
 | nil=>intro b d h1 h2;cases d with
  | nil=>exact Int.le_refl _
  | cons=>unfold qbp;omega
 | cons x xs ih =>
  intro b d h1 h2;cases b with
  | nil=>unfold qbp at h1;omega
  | cons y ys =>
   cases d with
   | nil=>unfold qbp at h2;omega
   | cons z zs =>
    have t1:=h.tr x y z;have t2:=ih ys zs;have n1:=h.neg x y;have n2:=h.neg y z;have n3:=h.neg x z;have t3:=h.tr z x y;have t4:=h.tr y z x;unfold qbp orE at h1 h2⊢;split at h1<;>split at h2<;>split<;>omega
def zkk (x y:Bool):Int:=if(x&&!y)=true then -1 else if(y&&!x)=true then 1 else 0
def qn9 (x y:Nat):Int:=if x<y then -1 else if y<x then 1 else 0
theorem zh9:GCmp zkk:=⟨by decide,by decide⟩
theorem zqj:GCmp qn9:=by
 refine⟨λa b=>?_,λa b d=>?_⟩<;>unfold qn9<;>repeat' split
 all_goals omega
theorem zla:GCmp zl9:=by
 have hc:∀s t:Str,zl9 s t=if s<t then -1 else if s=t then 0 else 1:=λs t=>by
  unfold zl9;rw[zn7];simp only[Q0,Jo]
 have tot:∀s t:Str,¬s<t->s≠t->t<s:=λs t h1 h2=>by
  rcases List.le_iff_lt_or_eq.1 (List.not_lt.1 h1)with h|h
  ·exact h
  ·exact absurd h.symm h2
 refine⟨λa b=>?_,λa b d=>?_⟩
 ·rw[hc,hc];by_cases h1:a<b
  ·have h2:¬b<a:=λh=>zk2 a (List.lt_trans h1 h);have h3:b≠a:=λe=>zk2 a (e▸h1);rw[if_pos h1,if_neg h2,if_neg h3];rfl
  ·by_cases h2:a=b
   ·subst h2;rw[if_neg h1,if_pos rfl];rfl
   ·rw[if_neg h1,if_neg h2,if_pos (tot _ _ h1 h2)]
 ·rw[hc,hc,hc];intro h1 h2;by_cases h3:a<b
  ·by_cases h4:b<d
   ·rw[if_pos (List.lt_trans h3 h4)];omega
   ·rw[if_neg h4]at h2;by_cases h5:b=d
    ·subst h5;rw[if_pos h3];omega
    ·rw[if_neg h5]at h2;omega
  ·rw[if_neg h3]at h1;by_cases h4:a=b
   ·subst h4;exact h2
   ·rw[if_neg h4]at h1;omega
theorem zhj {s t:Str}:zl9 s t=0↔s=t:=by
 unfold zl9
 rw[zn7]
 by_cases h:s<t
 ·have:s≠t:=λe=>zk2 t (e▸h);simp[h,this]
 ·by_cases h2:s=t
  ·simp[h2]
  ·simp[h,h2]
def hdT (a b:Tm):Int:=orE (zkk (zax a.name) (zax b.name)) (orE (zl9 a.name b.name) (qn9 a.args.length b.args.length))
mutual
def zc9:Tm->Tm->Int
 | .mk n xs,b=>orE (hdT (.mk n xs) b) (zea xs b.args)
def zea:List Tm->List Tm->Int
 | [],_=>0
 | _::_,[]=>0
 | x::xs,y::ys=>orE (zc9 x y) (zea xs ys)
end
theorem zlp (a b:Tm):zc9 a b=orE (hdT a b) (zea a.args b.args):=by cases a;rw[zc9];rfl
def cmpK:Nat->Tm->Tm->Int
 | 0,_,_=>0
 | k+1,a,b=>orE (hdT a b) (qbp (cmpK k) a.args b.args)
theorem qmr:GCmp hdT:=GCmp.lex (zh9.comp λa:Tm=>zax a.name) (GCmp.lex (zla.comp Tm.name) (zqj.comp λa:Tm=>a.args.length))
theorem zly:∀k,GCmp (cmpK k)
 | 0=>⟨λ_ _=>rfl,λ_ _ _ _ _=>Int.le_refl _⟩
 | k+1=>GCmp.lex qmr ((qeb (zly k)).comp Tm.args)
theorem zoe {a b:Tm}:hdT a b=0↔a.name=b.name/\a.args.length=b.args.length:=by
 unfold hdT
 constructor
 ·intro h;unfold orE at h;split at h
  ·split at h
   ·rename_i h2;refine⟨zhj.1 h2,?_⟩;unfold qn9 at h;split at h
    ·omega
    ·split at h<;>omega
   ·exact absurd h ‹_›
  ·exact absurd h ‹_›
 ·rintro⟨h1,h2⟩;rw[h1,h2,zh9.self,zla.self,zqj.self];rfl
def Tm.dp:Tm->Nat:=Tm.fold λ_ _ rs=>1+rs.sum
theorem Tm.dp_eq (a:Tm):a.dp=1+(a.args.map Tm.dp).sum:=Tm.fold_eq _ a
theorem zyw (c:Tm->Tm->Int):∀(xs ys:List Tm),xs.length=ys.length->(∀x∈xs,∀y,zc9 x y=c x y)->zea xs ys=qbp c xs ys
 | [],[],_,_=>by rw[zea];rfl
 | [],_::_,h,_=>by simp at h
 | _::_,[],h,_=>by simp at h
 | x::xs,y::ys,h,H=>by
  rw[zea,qbp,H x (by simp) y,zyw c xs ys (by simpa using h) λx hx=>H x (by simp[hx])]
theorem zw7:∀(a:Tm)(k:Nat),a.dp<=k->∀b,zc9 a b=cmpK k a b:=zbb λn xs ih k hk b=>by
 have hd:(Tm.mk n xs).dp=1+(xs.map Tm.dp).sum:=Tm.dp_eq _
 cases k with
 | zero=>omega
 | succ k =>
  rw[zlp,cmpK];by_cases h:hdT (.mk n xs) b=0
  ·rw[show(Tm.mk n xs).args=xs from rfl,zyw (cmpK k) xs b.args (zoe.1 h).2 λx hx y=>ih x hx k (by have:=zci Tm.dp xs x hx;omega) y]
  ·unfold orE;rw[if_neg h,if_neg h]
theorem zde (a b:Tm):zc9 b a =-zc9 a b:=by
 rw[zw7 a (a.dp+b.dp) Zi,zw7 b (a.dp+b.dp) Zi]
 exact(zly _).neg a b
theorem zt2 (a b d:Tm)(h1:zc9 a b<=0)(h2:zc9 b d<=0):zc9 a d<=0:=by
 rw[zw7 a (a.dp+b.dp) Zi]at h1⊢
 rw[zw7 b (a.dp+b.dp) Zi]at h2
 exact(zly _).tr a b d h1 h2
theorem zdk:GCmp zc9:=⟨zde,zt2⟩
theorem zen:∀a b:Tm,zc9 a b=0↔a=b:=zbb λn xs ih b=>by
 rw[zlp]
 have hts:∀(xs:List Tm),(∀x∈xs,∀b,zc9 x b=0↔x=b)->∀ys,xs.length=ys.length->(zea xs ys=0↔xs=ys):=λxs=>by
  induction xs with
  | nil=>intro _ ys h;cases ys with
   | nil=>simp[zea]
   | cons=>simp at h
  | cons x xs ih2 =>
   intro H ys h;cases ys with
   | nil=>simp at h
   | cons y ys =>
    have h1:=H x (by simp) y;have h2:=ih2 (λx hx=>H x (by simp[hx])) ys (by simpa using h);rw[zea,Jv,<-h1,<-h2];unfold orE;split
    ·rename_i e;simp[e]
    ·rename_i e;simp[e]
 constructor
 ·intro h;unfold orE at h;split at h
  ·rename_i h0;obtain⟨e1,e2⟩:=zoe.1 h0;have:=(hts xs ih b.args e2).1 h;cases b with
   | mk m ys =>
    obtain rfl:n=m:=e1;obtain rfl:xs=ys:=this;rfl
  ·exact absurd h ‹_›
 ·rintro rfl;rw[zoe.2 ⟨rfl,rfl⟩];exact(hts xs ih xs rfl).2 rfl
def ltT (a b:Tm):Bool:=decide (zc9 a b<0)
noncomputable def zdg (l:List Tm)(t:Tm):List Tm:=if dec ((l.dropWhile λx=>ltT x t).head?=some t)=true then l else l.takeWhile (λx=>ltT x t)++[t]++l.dropWhile λx=>ltT x t
abbrev zpi (l:List Tm):Prop:=l.Pairwise λa b=>zc9 a b<0
theorem zhm {a b d:Tm}(h1:zc9 a b<0)(h2:zc9 b d<=0):zc9 a d<0:=by
 have n1:=zde a b
 have n2:=zde b d
 have n3:=zde a d
 have t1:=zt2 a b d
 have t2:=zt2 b d a
 omega
theorem qlp {l:List Tm}{t x:Tm}:x∈zdg l t↔x∈l\/x=t:=by
 unfold zdg
 split
 ·rename_i h;have:t∈l:=(List.dropWhile_suffix _).subset (List.mem_of_mem_head? (zb8.1 h));constructor
  ·exact Or.inl
  ·rintro(h|rfl)
   ·exact h
   ·exact this
 ·conv=>rhs;rw[<-K6 (p:=λx=>ltT x t) (l:=l)]
  simp only[Qt,Qv];constructor
  ·rintro((h|h)|h)
   ·exact Or.inl (Or.inl h)
   ·exact Or.inr h
   ·exact Or.inl (Or.inr h)
  ·rintro((h|h)|h)
   ·exact Or.inl (Or.inl h)
   ·exact Or.inr h
   ·exact Or.inl (Or.inr h)
theorem zxv {l:List Tm}(hs:zpi l)(t:Tm):zpi (zdg l t):=by
 unfold zdg
 split
 ·exact hs
 ·rename_i h;have hl:=K6 (p:=λx=>ltT x t) (l:=l);have hs':=hs;rw[<-hl]at hs';unfold zpi at hs'⊢;rw[Jx]at hs';obtain⟨s1,s2,s3⟩:=hs';have h1:∀x∈l.takeWhile (λx=>ltT x t),zc9 x t<0:=λx hx=>by
   exact Kw (Qr.1 (List.all_takeWhile (p:=λx=>ltT x t) (l:=l)) x hx)
  have h2:∀x∈l.dropWhile (λx=>ltT x t),zc9 t x<0:=λx hx=>by
   cases hd:l.dropWhile λx=>ltT x t with
   | nil=>rw[hd]at hx;cases hx
   | cons y ys =>
    have hy:ltT y t=false:=by
     have:=List.head?_dropWhile_not (λx=>ltT x t) l;rw[hd]at this;simpa using this
    rw[hd]at h s2 hx;have hy1:¬zc9 y t<0:=Yt hy;have hy2:zc9 y t≠0:=λe=>h (zb8.2 (by rw[List.head?_cons,(zen y t).1 e]));have hty:zc9 t y<0:=by have:=zde y t;omega
    rcases Qs.1 hx with rfl|hx
    ·exact hty
    ·exact zhm hty (Int.le_of_lt ((Jp.1 s2).1 x hx))
  rw[Jx,Jx];refine⟨⟨s1,List.pairwise_singleton _ _,λa ha b hb=>?_⟩,s2,λa ha b hb=>?_⟩
  ·rw[Qv]at hb;subst hb;exact h1 a ha
  ·rcases Qt.1 ha with ha|ha
   ·exact s3 a ha b hb
   ·rw[Qv]at ha;subst ha;exact h2 b hb
theorem zii {l:List Tm}(h:zpi l):l.Nodup:=List.Pairwise.imp (fun {a b} h e=>by subst e;rw[zdk.self]at h;omega) h
end Go.Proofs.YtmhbmpbgpjljeaaGreat
namespace Go.Proofs.YtmhbmpbgpjljeaaGreat
set_option linter.unusedSimpArgs false
set_option linter.unusedVariables false
set_option linter.unusedSectionVars false
set_option maxRecDepth 4000
open Go.RowKit
noncomputable def ixT (l:List Tm)(t:Tm):Nat:=(zew l λa=>same a t).toNat
theorem zwa {l:List Tm}{t:Tm}(h:t∈l):∃hi:ixT l t<l.length,l[ixT l t]=t/\(zew l λa=>same a t)=(ixT l t:Nat):=by
 obtain⟨k,hk,h1,h2⟩:∃k,∃hk:k<l.length,l[k]=t/\∀x∈l.take k,x≠t:=by
  induction l with
  | nil=>cases h
  | cons a l ih =>
   by_cases e:a=t
   ·exact⟨0,by simp,by simpa using e,by simp⟩
   ·have hm:t∈l:=by
     rcases Qs.1 h with h|h
     ·exact absurd h.symm e
     ·exact h
    obtain⟨k,hk,h1,h2⟩:=ih hm;refine⟨k+1,by simpa using hk,by simpa using h1,λx hx=>?_⟩;rw[Y2]at hx;rcases Qs.1 hx with rfl|hx
    ·exact e
    ·exact h2 x hx
 have hI:(zew l λa=>same a t)=(k:Nat):=zbn hk (λx hx=>zbv.2 (h2 x hx)) (by rw[h1];exact zbh _)
 have hx:ixT l t=k:=by unfold ixT;rw[hI];rfl
 rw[hx]
 exact⟨hk,h1,hI⟩
noncomputable def zg2 (l:List Tm)(t:Tm):List Tm:=if(l.any λa=>same a t)=true then l else l++[t]
theorem ql1 {l:List Tm}{t x:Tm}:x∈zg2 l t↔x∈l\/x=t:=by
 unfold zg2
 split
 ·rename_i h;obtain⟨y,hy,h⟩:=Ju.1 h;have:=za9.1 h;subst this;constructor
  ·exact Or.inl
  ·rintro(h|rfl)
   ·exact h
   ·exact hy
 ·rw[Qt,Qv]
theorem qqe {l:List Tm}(h:l.Nodup)(t:Tm):(zg2 l t).Nodup:=by
 unfold zg2
 split
 ·exact h
 ·rename_i h2;rw[Kk];refine⟨h,by simp,λa ha b hb e=>h2 (Ju.2 ⟨a,ha,?_⟩)⟩;rw[Qv]at hb;rw[za9,e,hb]
theorem zkw:∀(ts l:List Tm)(x:Tm),x∈ts.foldl zg2 l↔x∈l\/x∈ts
 | [],l,x=>by simp
 | t::ts,l,x=>by rw[Ks,zkw ts,ql1,Qs,or_assoc]
theorem zzd:∀(ts:List Tm){l:List Tm},l.Nodup->(ts.foldl zg2 l).Nodup
 | [],_,h=>h
 | t::ts,_,h=>zzd ts (qqe h t)
theorem zky:∀(ts l:List Tm)(x:Tm),x∈ts.foldl zdg l↔x∈l\/x∈ts
 | [],l,x=>by simp
 | t::ts,l,x=>by rw[Ks,zky ts,qlp,Qs,or_assoc]
theorem zlo:∀(ts:List Tm){l:List Tm},zpi l->zpi (ts.foldl zdg l)
 | [],_,h=>h
 | t::ts,_,h=>zlo ts (zxv h t)
end Go.Proofs.YtmhbmpbgpjljeaaGreat
namespace Go.Proofs.YtmhbmpbgpjljeaaGreat
set_option linter.unusedSimpArgs false
set_option linter.unusedVariables false
set_option linter.unusedSectionVars false
set_option maxRecDepth 4000
open Go.RowKit
theorem qcx {α:Type}{l:List α}(h:l.Nodup){i j:Nat}(hi:i<l.length)(hj:j<l.length)(e:l[i]=l[j]):i=j:=by
 rw[List.nodup_iff_pairwise_ne,Yd]at h
 rcases Yg i j with h1|h1|h1
 ·exact absurd e (h i j hi hj h1)
 ·exact h1
 ·exact absurd e.symm (h j i hj hi h1)
end Go.Proofs.YtmhbmpbgpjljeaaGreat
