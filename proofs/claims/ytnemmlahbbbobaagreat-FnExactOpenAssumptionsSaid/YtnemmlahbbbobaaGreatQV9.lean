/-
  The walk over plain data, and contracts of functions of the program and of its laws.
  Conditions: those that each theorem names.
-/
import Derived.Test.YtnemmlahbbbobaaGreatQV6
import Derived.Test.YtnemmlahbbbobaaGreatQV7
import Derived.Test.YtnemmlahbbbobaaGreatQV8
import Derived.Test.YtnemmlahbbbobaaGreatQV5
namespace Go.Proofs.YtnemmlahbbbobaaGreat
set_option linter.unusedSimpArgs false
set_option linter.unusedVariables false
set_option linter.unusedSectionVars false
set_option maxRecDepth 4000
set_option maxHeartbeats 8000000
section
open Go.RowKit
def zbg (r:Int):Int:=if(r==1||r==2)=true then 0 else if(r==5||r==12||r==14||r==18)=true then 2 else if(r==10)=true then 3 else if inB r 3 17=true then 1 else -1
def zbh (r p:Int):Bool:=if(r==4||r==11||r==13)=true then true else if(r==10||r==18)=true then decide (0<p)else false
def zcp (r p:Int):Bool:=if(r==4||r==11||r==13)=true then p==0 else if(r==10)=true then p==1||p==2 else if(r==18)=true then p==1 else false
def zei (r:Int):Bool:=r==1||r==10||r==18||zbh r 0
theorem zhw (r p:Int):FC Tryz.prog 100 [iD r,iD p] [bD (zbh r p)]:=by
 by_cases h4:r=4
 ·subst h4;refine zad Tryz.call100 Tryz.func100 rfl Yo (zao Yo) ?_;simp -implicitDefEqProofs only[go_sem,Tryz.results100]
  all_goals simp[zbh]
 by_cases h11:r=11
 ·subst h11;refine zad Tryz.call100 Tryz.func100 rfl Yo (zao Yo) ?_;simp -implicitDefEqProofs only[go_sem,Tryz.results100]
  all_goals simp[zbh]
 by_cases h13:r=13
 ·subst h13;refine zad Tryz.call100 Tryz.func100 rfl Yo (zao Yo) ?_;simp -implicitDefEqProofs only[go_sem,Tryz.results100]
  all_goals simp[zbh]
 by_cases h10:r=10
 ·subst h10;refine zad Tryz.call100 Tryz.func100 rfl Yo (zao Yo) ?_;simp -implicitDefEqProofs only[go_sem,Tryz.results100]
  all_goals simp[zbh]
 by_cases h18:r=18
 ·subst h18;refine zad Tryz.call100 Tryz.func100 rfl Yo (zao Yo) ?_;simp -implicitDefEqProofs only[go_sem,Tryz.results100]
  all_goals simp[zbh]
 have e4:(r==4)=false:=by simpa using h4
 have e11:(r==11)=false:=by simpa using h11
 have e13:(r==13)=false:=by simpa using h13
 have e10:(r==10)=false:=by simpa using h10
 have e18:(r==18)=false:=by simpa using h18
 refine zad Tryz.call100 Tryz.func100 rfl Yo (zao Yo) ?_
 simp -implicitDefEqProofs only[go_sem,Tryz.results100,e4,e11,e13,e10,e18]
 simp[zbh,e4,e10,e11,e13,e18]
theorem ze4 (r p:Int):FC Tryz.prog 99 [iD r,iD p] [bD (zcp r p)]:=by
 by_cases h4:r=4
 ·subst h4;refine zad Tryz.call99 Tryz.func99 rfl Yo (zao Yo) ?_;simp -implicitDefEqProofs only[go_sem,Tryz.results99]
  all_goals (simp[zcp]<;>omega)
 by_cases h11:r=11
 ·subst h11;refine zad Tryz.call99 Tryz.func99 rfl Yo (zao Yo) ?_;simp -implicitDefEqProofs only[go_sem,Tryz.results99]
  all_goals (simp[zcp]<;>omega)
 by_cases h13:r=13
 ·subst h13;refine zad Tryz.call99 Tryz.func99 rfl Yo (zao Yo) ?_;simp -implicitDefEqProofs only[go_sem,Tryz.results99]
  all_goals (simp[zcp]<;>omega)
 by_cases h10:r=10
 ·subst h10;refine zad Tryz.call99 Tryz.func99 rfl Yo (zao Yo) ?_;simp -implicitDefEqProofs only[go_sem,Tryz.results99]
  all_goals (simp[zcp]<;>omega)
 by_cases h18:r=18
 ·subst h18;refine zad Tryz.call99 Tryz.func99 rfl Yo (zao Yo) ?_;simp -implicitDefEqProofs only[go_sem,Tryz.results99]
  all_goals (simp[zcp]<;>omega)
 have e4:(r==4)=false:=by simpa using h4
 have e11:(r==11)=false:=by simpa using h11
 have e13:(r==13)=false:=by simpa using h13
 have e10:(r==10)=false:=by simpa using h10
 have e18:(r==18)=false:=by simpa using h18
 refine zad Tryz.call99 Tryz.func99 rfl Yo (zao Yo) ?_
 simp -implicitDefEqProofs only[go_sem,Tryz.results99,e4,e11,e13,e10,e18]
 simp[zcp,e4,e10,e11,e13,e18]
theorem zm8 (r:Int):FC Tryz.prog 119 [iD r] [bD (inB r 15 18)]:=by
 refine zad Tryz.call119 Tryz.func119 rfl Yo (zao Yo) ?_
 simp -implicitDefEqProofs only[go_sem,Tryz.results119]
 refine callF (zf5 r 15 18) Yn ?_
 simp -implicitDefEqProofs only[go_sem]
theorem zjt (r:Int):FC Tryz.prog 118 [iD r] [bD (zei r)]:=by
 have H:=zhw r 0
 cases e1:(r==1)
 ·cases e10:(r==10)
  ·cases e18:(r==18)
   ·refine zad Tryz.call118 Tryz.func118 rfl Yo (zao Yo) ?_;simp -implicitDefEqProofs only[go_sem,Tryz.results118,e1,e10,e18];refine callF (H) (by simp -implicitDefEqProofs only[go_sem,e1,e10,e18]) ?_;simp -implicitDefEqProofs only[go_sem,e1,e10,e18];simp[zei,e1,e10,e18]
   ·refine zad Tryz.call118 Tryz.func118 rfl Yo (zao Yo) ?_;simp -implicitDefEqProofs only[go_sem,Tryz.results118,e1,e10,e18];simp[zei,e1,e10,e18]
  ·refine zad Tryz.call118 Tryz.func118 rfl Yo (zao Yo) ?_;simp -implicitDefEqProofs only[go_sem,Tryz.results118,e1,e10];simp[zei,e1,e10]
 ·refine zad Tryz.call118 Tryz.func118 rfl Yo (zao Yo) ?_;simp -implicitDefEqProofs only[go_sem,Tryz.results118,e1];simp[zei,e1]
theorem zfl (r:Int):FC Tryz.prog 116 [iD r] [iD (zbg r)]:=by
 have HW:=zf5 r 1 18
 cases hin:inB r 1 18
 ·rw[hin]at HW;have hv:zbg r = -1:=by
   unfold inB at hin;unfold zbg inB;have h1:¬(1<=r/\r<=18):=by simpa using hin
   have q:∀k:Int,1<=k->k<=18->(r==k)=false:=fun k a b=>by rw[Jj];omega
   have h2:(decide (3<=r)&&decide (r<=17))=false:=by simp;omega
   simp[q,h2]
  rw[hv];refine zad Tryz.call116 Tryz.func116 rfl Yo (zao Yo) ?_;simp -implicitDefEqProofs only[go_sem,Tryz.results116];refine callF (HW) Yn ?_;simp -implicitDefEqProofs only[go_sem]
 ·rw[hin]at HW;have h1:1<=r/\r<=18:=by simpa[inB]using hin
  obtain h|h|h|h|h|h|h|h|h|h|h|h|h|h|h|h|h|h:r=1\/r=2\/r=3\/r=4\/r=5\/r=6\/r=7\/r=8\/r=9\/r=10\/r=11\/r=12\/r=13\/r=14\/r=15\/r=16\/r=17\/r=18:=by omega
  ·subst h;have hw:IntKind.i64.wrap 0=0:=za6 Yp Yp;refine zad Tryz.call116 Tryz.func116 rfl Yo (zao Yo) ?_;simp -implicitDefEqProofs only[go_sem,Tryz.results116];refine callF (HW) (by simp -implicitDefEqProofs only[go_sem,hw]) ?_;simp -implicitDefEqProofs only[go_sem,hw];refine za7 (by simp -implicitDefEqProofs only[go_sem,hw,Q3,Qr,List.getElem?_cons_zero]) ?_;simp -implicitDefEqProofs only[go_sem,hw,Q3,Qr,List.getElem?_cons_zero]
   first|done|rfl|decide
  ·subst h;have hw:IntKind.i64.wrap 1=1:=za6 Yp Yp;refine zad Tryz.call116 Tryz.func116 rfl Yo (zao Yo) ?_;simp -implicitDefEqProofs only[go_sem,Tryz.results116];refine callF (HW) (by simp -implicitDefEqProofs only[go_sem,hw]) ?_;simp -implicitDefEqProofs only[go_sem,hw];refine za7 (by simp -implicitDefEqProofs only[go_sem,hw,Q3,Qr,List.getElem?_cons_zero]) ?_;simp -implicitDefEqProofs only[go_sem,hw,Q3,Qr,List.getElem?_cons_zero]
   first|done|rfl|decide
  ·subst h;have hw:IntKind.i64.wrap 2=2:=za6 Yp Yp;refine zad Tryz.call116 Tryz.func116 rfl Yo (zao Yo) ?_;simp -implicitDefEqProofs only[go_sem,Tryz.results116];refine callF (HW) (by simp -implicitDefEqProofs only[go_sem,hw]) ?_;simp -implicitDefEqProofs only[go_sem,hw];refine za7 (by simp -implicitDefEqProofs only[go_sem,hw,Q3,Qr,List.getElem?_cons_zero]) ?_;simp -implicitDefEqProofs only[go_sem,hw,Q3,Qr,List.getElem?_cons_zero]
   first|done|rfl|decide
  ·subst h;have hw:IntKind.i64.wrap 3=3:=za6 Yp Yp;refine zad Tryz.call116 Tryz.func116 rfl Yo (zao Yo) ?_;simp -implicitDefEqProofs only[go_sem,Tryz.results116];refine callF (HW) (by simp -implicitDefEqProofs only[go_sem,hw]) ?_;simp -implicitDefEqProofs only[go_sem,hw];refine za7 (by simp -implicitDefEqProofs only[go_sem,hw,Q3,Qr,List.getElem?_cons_zero]) ?_;simp -implicitDefEqProofs only[go_sem,hw,Q3,Qr,List.getElem?_cons_zero]
   first|done|rfl|decide
  ·subst h;have hw:IntKind.i64.wrap 4=4:=za6 Yp Yp;refine zad Tryz.call116 Tryz.func116 rfl Yo (zao Yo) ?_;simp -implicitDefEqProofs only[go_sem,Tryz.results116];refine callF (HW) (by simp -implicitDefEqProofs only[go_sem,hw]) ?_;simp -implicitDefEqProofs only[go_sem,hw];refine za7 (by simp -implicitDefEqProofs only[go_sem,hw,Q3,Qr,List.getElem?_cons_zero]) ?_;simp -implicitDefEqProofs only[go_sem,hw,Q3,Qr,List.getElem?_cons_zero]
   first|done|rfl|decide
  ·subst h;have hw:IntKind.i64.wrap 5=5:=za6 Yp Yp;refine zad Tryz.call116 Tryz.func116 rfl Yo (zao Yo) ?_;simp -implicitDefEqProofs only[go_sem,Tryz.results116];refine callF (HW) (by simp -implicitDefEqProofs only[go_sem,hw]) ?_;simp -implicitDefEqProofs only[go_sem,hw];refine za7 (by simp -implicitDefEqProofs only[go_sem,hw,Q3,Qr,List.getElem?_cons_zero]) ?_;simp -implicitDefEqProofs only[go_sem,hw,Q3,Qr,List.getElem?_cons_zero]
   first|done|rfl|decide
  ·subst h;have hw:IntKind.i64.wrap 6=6:=za6 Yp Yp;refine zad Tryz.call116 Tryz.func116 rfl Yo (zao Yo) ?_;simp -implicitDefEqProofs only[go_sem,Tryz.results116];refine callF (HW) (by simp -implicitDefEqProofs only[go_sem,hw]) ?_;simp -implicitDefEqProofs only[go_sem,hw];refine za7 (by simp -implicitDefEqProofs only[go_sem,hw,Q3,Qr,List.getElem?_cons_zero]) ?_;simp -implicitDefEqProofs only[go_sem,hw,Q3,Qr,List.getElem?_cons_zero]
   first|done|rfl|decide
  ·subst h;have hw:IntKind.i64.wrap 7=7:=za6 Yp Yp;refine zad Tryz.call116 Tryz.func116 rfl Yo (zao Yo) ?_;simp -implicitDefEqProofs only[go_sem,Tryz.results116];refine callF (HW) (by simp -implicitDefEqProofs only[go_sem,hw]) ?_;simp -implicitDefEqProofs only[go_sem,hw];refine za7 (by simp -implicitDefEqProofs only[go_sem,hw,Q3,Qr,List.getElem?_cons_zero]) ?_;simp -implicitDefEqProofs only[go_sem,hw,Q3,Qr,List.getElem?_cons_zero]
   first|done|rfl|decide
  ·subst h;have hw:IntKind.i64.wrap 8=8:=za6 Yp Yp;refine zad Tryz.call116 Tryz.func116 rfl Yo (zao Yo) ?_;simp -implicitDefEqProofs only[go_sem,Tryz.results116];refine callF (HW) (by simp -implicitDefEqProofs only[go_sem,hw]) ?_;simp -implicitDefEqProofs only[go_sem,hw];refine za7 (by simp -implicitDefEqProofs only[go_sem,hw,Q3,Qr,List.getElem?_cons_zero]) ?_;simp -implicitDefEqProofs only[go_sem,hw,Q3,Qr,List.getElem?_cons_zero]
   first|done|rfl|decide
  ·subst h;have hw:IntKind.i64.wrap 9=9:=za6 Yp Yp;refine zad Tryz.call116 Tryz.func116 rfl Yo (zao Yo) ?_;simp -implicitDefEqProofs only[go_sem,Tryz.results116];refine callF (HW) (by simp -implicitDefEqProofs only[go_sem,hw]) ?_;simp -implicitDefEqProofs only[go_sem,hw];refine za7 (by simp -implicitDefEqProofs only[go_sem,hw,Q3,Qr,List.getElem?_cons_zero]) ?_;simp -implicitDefEqProofs only[go_sem,hw,Q3,Qr,List.getElem?_cons_zero]
   first|done|rfl|decide
  ·subst h;have hw:IntKind.i64.wrap 10=10:=za6 Yp Yp;refine zad Tryz.call116 Tryz.func116 rfl Yo (zao Yo) ?_;simp -implicitDefEqProofs only[go_sem,Tryz.results116];refine callF (HW) (by simp -implicitDefEqProofs only[go_sem,hw]) ?_;simp -implicitDefEqProofs only[go_sem,hw];refine za7 (by simp -implicitDefEqProofs only[go_sem,hw,Q3,Qr,List.getElem?_cons_zero]) ?_;simp -implicitDefEqProofs only[go_sem,hw,Q3,Qr,List.getElem?_cons_zero]
   first|done|rfl|decide
  ·subst h;have hw:IntKind.i64.wrap 11=11:=za6 Yp Yp;refine zad Tryz.call116 Tryz.func116 rfl Yo (zao Yo) ?_;simp -implicitDefEqProofs only[go_sem,Tryz.results116];refine callF (HW) (by simp -implicitDefEqProofs only[go_sem,hw]) ?_;simp -implicitDefEqProofs only[go_sem,hw];refine za7 (by simp -implicitDefEqProofs only[go_sem,hw,Q3,Qr,List.getElem?_cons_zero]) ?_;simp -implicitDefEqProofs only[go_sem,hw,Q3,Qr,List.getElem?_cons_zero]
   first|done|rfl|decide
  ·subst h;have hw:IntKind.i64.wrap 12=12:=za6 Yp Yp;refine zad Tryz.call116 Tryz.func116 rfl Yo (zao Yo) ?_;simp -implicitDefEqProofs only[go_sem,Tryz.results116];refine callF (HW) (by simp -implicitDefEqProofs only[go_sem,hw]) ?_;simp -implicitDefEqProofs only[go_sem,hw];refine za7 (by simp -implicitDefEqProofs only[go_sem,hw,Q3,Qr,List.getElem?_cons_zero]) ?_;simp -implicitDefEqProofs only[go_sem,hw,Q3,Qr,List.getElem?_cons_zero]
   first|done|rfl|decide
  ·subst h;have hw:IntKind.i64.wrap 13=13:=za6 Yp Yp;refine zad Tryz.call116 Tryz.func116 rfl Yo (zao Yo) ?_;simp -implicitDefEqProofs only[go_sem,Tryz.results116];refine callF (HW) (by simp -implicitDefEqProofs only[go_sem,hw]) ?_;simp -implicitDefEqProofs only[go_sem,hw];refine za7 (by simp -implicitDefEqProofs only[go_sem,hw,Q3,Qr,List.getElem?_cons_zero]) ?_;simp -implicitDefEqProofs only[go_sem,hw,Q3,Qr,List.getElem?_cons_zero]
   first|done|rfl|decide
  ·subst h;have hw:IntKind.i64.wrap 14=14:=za6 Yp Yp;refine zad Tryz.call116 Tryz.func116 rfl Yo (zao Yo) ?_;simp -implicitDefEqProofs only[go_sem,Tryz.results116];refine callF (HW) (by simp -implicitDefEqProofs only[go_sem,hw]) ?_;simp -implicitDefEqProofs only[go_sem,hw];refine za7 (by simp -implicitDefEqProofs only[go_sem,hw,Q3,Qr,List.getElem?_cons_zero]) ?_;simp -implicitDefEqProofs only[go_sem,hw,Q3,Qr,List.getElem?_cons_zero]
   first|done|rfl|decide
  ·subst h;have hw:IntKind.i64.wrap 15=15:=za6 Yp Yp;refine zad Tryz.call116 Tryz.func116 rfl Yo (zao Yo) ?_;simp -implicitDefEqProofs only[go_sem,Tryz.results116];refine callF (HW) (by simp -implicitDefEqProofs only[go_sem,hw]) ?_;simp -implicitDefEqProofs only[go_sem,hw];refine za7 (by simp -implicitDefEqProofs only[go_sem,hw,Q3,Qr,List.getElem?_cons_zero]) ?_;simp -implicitDefEqProofs only[go_sem,hw,Q3,Qr,List.getElem?_cons_zero]
   first|done|rfl|decide
  ·subst h;have hw:IntKind.i64.wrap 16=16:=za6 Yp Yp;refine zad Tryz.call116 Tryz.func116 rfl Yo (zao Yo) ?_;simp -implicitDefEqProofs only[go_sem,Tryz.results116];refine callF (HW) (by simp -implicitDefEqProofs only[go_sem,hw]) ?_;simp -implicitDefEqProofs only[go_sem,hw];refine za7 (by simp -implicitDefEqProofs only[go_sem,hw,Q3,Qr,List.getElem?_cons_zero]) ?_;simp -implicitDefEqProofs only[go_sem,hw,Q3,Qr,List.getElem?_cons_zero]
   first|done|rfl|decide
  ·subst h;have hw:IntKind.i64.wrap 17=17:=za6 Yp Yp;refine zad Tryz.call116 Tryz.func116 rfl Yo (zao Yo) ?_;simp -implicitDefEqProofs only[go_sem,Tryz.results116];refine callF (HW) (by simp -implicitDefEqProofs only[go_sem,hw]) ?_;simp -implicitDefEqProofs only[go_sem,hw];refine za7 (by simp -implicitDefEqProofs only[go_sem,hw,Q3,Qr,List.getElem?_cons_zero]) ?_;simp -implicitDefEqProofs only[go_sem,hw,Q3,Qr,List.getElem?_cons_zero]
   first|done|rfl|decide
theorem qa2 (r:Int):FC Tryz.prog 104 [iD r] [iD (zbg r)]:=by
 have HW:=zsw r 3 17
 by_cases h1:r=1
 ·subst h1;refine zad Tryz.call104 Tryz.func104 rfl Yo (zao Yo) ?_;simp -implicitDefEqProofs only[go_sem,Tryz.results104];rfl
 by_cases h2:r=2
 ·subst h2;refine zad Tryz.call104 Tryz.func104 rfl Yo (zao Yo) ?_;simp -implicitDefEqProofs only[go_sem,Tryz.results104];rfl
 by_cases h5:r=5
 ·subst h5;refine zad Tryz.call104 Tryz.func104 rfl Yo (zao Yo) ?_;simp -implicitDefEqProofs only[go_sem,Tryz.results104];rfl
 by_cases h12:r=12
 ·subst h12;refine zad Tryz.call104 Tryz.func104 rfl Yo (zao Yo) ?_;simp -implicitDefEqProofs only[go_sem,Tryz.results104];rfl
 by_cases h14:r=14
 ·subst h14;refine zad Tryz.call104 Tryz.func104 rfl Yo (zao Yo) ?_;simp -implicitDefEqProofs only[go_sem,Tryz.results104];rfl
 by_cases h18:r=18
 ·subst h18;refine zad Tryz.call104 Tryz.func104 rfl Yo (zao Yo) ?_;simp -implicitDefEqProofs only[go_sem,Tryz.results104];rfl
 by_cases h10:r=10
 ·subst h10;refine zad Tryz.call104 Tryz.func104 rfl Yo (zao Yo) ?_;simp -implicitDefEqProofs only[go_sem,Tryz.results104];rfl
 have e1:(r==1)=false:=by simpa using h1
 have e2:(r==2)=false:=by simpa using h2
 have e5:(r==5)=false:=by simpa using h5
 have e12:(r==12)=false:=by simpa using h12
 have e14:(r==14)=false:=by simpa using h14
 have e18:(r==18)=false:=by simpa using h18
 have e10:(r==10)=false:=by simpa using h10
 have hv:zbg r=if inB r 3 17=true then 1 else -1:=by simp[zbg,e1,e2,e5,e12,e14,e18,e10]
 rw[hv]
 cases hin:inB r 3 17
 ·rw[hin]at HW;refine zad Tryz.call104 Tryz.func104 rfl Yo (zao Yo) ?_;simp -implicitDefEqProofs only[go_sem,Tryz.results104,e1,e2,e5,e12,e14,e18,e10];refine callF (HW) (by simp -implicitDefEqProofs only[go_sem,e1,e2,e5,e12,e14,e18,e10]) ?_;simp -implicitDefEqProofs only[go_sem,e1,e2,e5,e12,e14,e18,e10]
 ·rw[hin]at HW;refine zad Tryz.call104 Tryz.func104 rfl Yo (zao Yo) ?_;simp -implicitDefEqProofs only[go_sem,Tryz.results104,e1,e2,e5,e12,e14,e18,e10];refine callF (HW) (by simp -implicitDefEqProofs only[go_sem,e1,e2,e5,e12,e14,e18,e10]) ?_;simp -implicitDefEqProofs only[go_sem,e1,e2,e5,e12,e14,e18,e10]
end
section
open Go.RowKit
def ntB (a:Nt):List C:=[.t (.int .i64 a.rule),.t (.int .i64 a.form.op),.t (.str a.form.atom.name),.t (tmS a.form.atom.args),.t (.str a.form.var),.t (fmS a.form.parts),.t (.int .i64 a.label),.t (.str a.term.name),.t (tmS a.term.args),.t (ntS a.parts)]
attribute [go_sem] ntB
theorem zse {a x:Nt}(h:x∈a.parts):x.wt<=a.wt:=by
 have:=a.wt_eq
 have:=zbz Nt.wt a.parts x h
 omega
inductive Fit:Nt->Prop
 | mk (p:Nt) (h0:p.wt<=1073741824) (h1:p.form.wt+p.term.wt+p.parts.length<=1048576) (h2:∀q∈p.parts,q.form.wt+p.term.wt<=1048576) (h3:∀q∈p.parts,Fit q):Fit p
theorem Fit.all {p:Nt}(h:Fit p):p.wt<=1073741824:=by cases h;assumption
theorem Fit.own {p:Nt}(h:Fit p):p.form.wt+p.term.wt+p.parts.length<=1048576:=by cases h;assumption
theorem Fit.part {p:Nt}(h:Fit p):∀q∈p.parts,q.form.wt+p.term.wt<=1048576:=by cases h;assumption
theorem Fit.sub {p:Nt}(h:Fit p):∀q∈p.parts,Fit q:=by cases h;assumption
theorem Fit.of:∀p:Nt,p.wt<=1048576->Fit p :=
 zda fun r f l t ps ih hw=>by
  have hwe:=Nt.wt_eq (.mk r f l t ps);simp only[Nt.form,Nt.term,Nt.parts]at hwe;refine .mk _ Yp (by show f.wt+t.wt+ps.length<=_;omega) (fun q hq=>?_) fun q hq=>?_
  ·have hq:q∈ps:=hq;have e1:=zbz Nt.wt ps q hq;have e2:=q.wt_eq;show q.form.wt+t.wt<=_
   omega
  ·have hq:q∈ps:=hq;have e1:=zbz Nt.wt ps q hq;exact ih q hq Yp
def Nt.nodes:Nt->Nat:=Nt.fold fun _ _ _ _ _ rs=>1+rs.sum
theorem Nt.nodes_eq (a:Nt):a.nodes=1+(a.parts.map Nt.nodes).sum:=Nt.fold_eq _ a
theorem zih:∀a:Nt,a.nodes<=1+a.wt:=by
 refine zda fun r f l t xs ih=>?_
 rw[Nt.nodes_eq,Nt.wt_eq]
 show 1+(xs.map Nt.nodes).sum<=1+(f.wt+t.wt+(xs.length+(xs.map Nt.wt).sum))
 have:(xs.map Nt.nodes).sum<=xs.length+(xs.map Nt.wt).sum:=by
  induction xs with
  | nil=>simp
  | cons x xs ih2 =>
   have h1:=ih x (by simp);have h2:=ih2 fun y hy=>ih y (by simp[hy]);simp only[Qf,Jd,Qi];omega
 omega
def zeg:Nt->Int:=Nt.fold fun _ _ _ _ _ rs=>szL 60 1 rs
theorem zyd (a:Nt):zeg a=szL 60 1 (a.parts.map zeg):=Nt.fold_eq _ a
theorem zom:∀a:Nt,1<=zeg a/\zeg a<=a.nodes/\(zeg a<=60->zeg a=a.nodes):=by
 refine zda fun r f l t xs ih=>?_
 rw[zyd,Nt.nodes_eq]
 show 1<=szL 60 1 (xs.map zeg)/\szL 60 1 (xs.map zeg)<=((1+(xs.map Nt.nodes).sum:Nat):Int)/\_
 obtain⟨k1,k2,k3⟩:=zld zeg Nt.nodes 60 xs 1 Yp ih
 refine⟨k2,Yp,fun h=>?_⟩
 have:=k3 h
 show szL 60 1 (xs.map zeg)=_
 rw[this];show _=((1+(xs.map Nt.nodes).sum:Nat):Int);omega
theorem qo3 (a:Nt):decide (zeg a<=60)=decide (a.nodes<=60):=by
 obtain⟨h1,h2,h3⟩:=zom a
 rw[Js]
 exact⟨fun h=>by have:=h3 h;omega,fun h=>by omega⟩
theorem zmw (a:Nt)(hs:a.wt<=1099511627776)(H:∀x∈a.parts,FC Tryz.prog 53 [ntD x] [iD (zeg x)]):FC Tryz.prog 53 [ntD a] [iD (zeg a)]:=by
 have hl:a.parts.length<=9223372036854775807:=by rw[Nt.wt_eq]at hs;omega
 have hn:=zih a
 have hN:=a.nodes_eq
 simp only[ntD,zaj]
 refine zad Tryz.call53 Tryz.func53 rfl Yo (zao Yo) ?_
 simp -implicitDefEqProofs only[go_sem,Tryz.results53]
 refine zag (fun p:Nat×Int=>hd [(3,vI p.2),(7,vT (ntS a.parts)),(8,vI a.parts.length),(9,vI p.1)] [] []) (fun p=>p.1<=a.parts.length/\zeg a=szL 60 p.2 ((a.parts.drop p.1).map zeg)/\1<=p.2/\p.2+qlj Nt.nodes a.parts p.1<=a.nodes) (fun p=>a.parts.length-p.1) (0,1) (zac ?_) ?_ ?_
 ·simp -implicitDefEqProofs only[go_sem]
 ·exact⟨by simp,by rw[zyd];rfl,Yp,by rw[zfx];omega⟩
 ·intro ⟨k,n⟩ ⟨hk,hr,h1,h2⟩;simp only at hk hr h1 h2;by_cases hlt:k<a.parts.length
  ·have hd:=zjr Nt.nodes a.parts k hlt;obtain⟨s1,s2,s3⟩:=zom a.parts[k];rw[Qh hlt,Qf,szL]at hr;simp -implicitDefEqProofs only[go_sem,zan,hlt,zaj];refine⟨fun h=>?_,fun h=>?_⟩
   ·rw[hr,if_pos (by simpa using h)]
   ·refine callF (H a.parts[k] (Qj hlt)) (by simp -implicitDefEqProofs only[go_sem,zaj]) ?_;simp -implicitDefEqProofs only[go_sem,zaj];rw[if_neg (by simpa using h)]at hr;exact⟨(k+1,n+zeg a.parts[k]),⟨hlt,hr,by simp only;omega,by simp only;omega⟩,by simp only;omega,zac (by simp -implicitDefEqProofs only[go_sem];rw[zap Yp,za6 Yp Yp];exact⟨rfl,rfl⟩)⟩
  ·simp -implicitDefEqProofs only[go_sem,hlt];rw[hr,Qt Yp];rfl
theorem zfj:∀a:Nt,a.wt<=1099511627776->FC Tryz.prog 53 [ntD a] [iD (zeg a)] :=
 zda fun r f l t xs ih hs=>zmw (.mk r f l t xs) hs fun x hx=>ih x hx (Ja (zse (a:=.mk r f l t xs) hx) hs)
def zd9:Nt->Int->Int:=Nt.fold fun _ _ _ _ _ rs m=>mnL m 1 rs
theorem zx6 (a:Nt)(m:Int):zd9 a m=mnL m 1 (a.parts.map zd9):=congrFun (Nt.fold_eq _ a) m
theorem znw:∀(a:Nt)(m:Int),0<=m->1<=zd9 a m/\zd9 a m<=a.nodes/\(zd9 a m<=m->zd9 a m=a.nodes):=by
 refine zda fun r f l t xs ih m hm=>?_
 rw[zx6,Nt.nodes_eq]
 show 1<=mnL m 1 (xs.map zd9)/\mnL m 1 (xs.map zd9)<=((1+(xs.map Nt.nodes).sum:Nat):Int)/\(mnL m 1 (xs.map zd9)<=m->mnL m 1 (xs.map zd9)=((1+(xs.map Nt.nodes).sum:Nat):Int))
 obtain⟨k1,k2,k3⟩:=zlg zd9 Nt.nodes m xs 1 Yp ih
 refine⟨k2,Yp,fun h=>?_⟩
 have:=k3 h
 omega
theorem qma (a:Nt)(m:Nat):decide (zd9 a m<=m)=decide (a.nodes<=m):=by
 obtain⟨h1,h2,h3⟩:=znw a m Yp
 rw[Js]
 exact⟨fun h=>by have:=h3 h;omega,fun h=>by omega⟩
theorem qa4 (a:Nt)(hs:a.wt<=1099511627776)(H:∀x∈a.parts,∀m:Int,0<=m->m<=1099511627776->FC Tryz.prog 51 [ntD x,iD m] [iD (zd9 x m)])(m:Int)(h0:0<=m)(h1:m<=1099511627776):FC Tryz.prog 51 [ntD a,iD m] [iD (zd9 a m)]:=by
 have hl:a.parts.length<=9223372036854775807:=by rw[Nt.wt_eq]at hs;omega
 have hn:=zih a
 have hN:=a.nodes_eq
 simp only[ntD,zaj]
 refine zad Tryz.call51 Tryz.func51 rfl Yo (zao Yo) ?_
 simp -implicitDefEqProofs only[go_sem,Tryz.results51]
 refine zag (fun p:Nat×Int=>hd [(1,vI m),(2,.one (.bx 2 0)),(5,vI p.2),(6,vI p.1)] [(2,ntB a)] []) (fun p=>p.1<=a.parts.length/\zd9 a m=mnL m p.2 ((a.parts.drop p.1).map zd9)/\1<=p.2/\p.2+qlj Nt.nodes a.parts p.1<=a.nodes) (fun p=>a.parts.length-p.1) (0,1) (zac ?_) ?_ ?_
 ·simp -implicitDefEqProofs only[go_sem]
 ·exact⟨by simp,by rw[zx6];rfl,Yp,by rw[zfx];omega⟩
 ·intro ⟨k,n⟩ ⟨hk,hr,h2,h3⟩;simp only at hk hr h2 h3;by_cases hlt:k<a.parts.length
  ·have hd:=zjr Nt.nodes a.parts k hlt;rw[Qh hlt,Qf,mnL]at hr;simp -implicitDefEqProofs only[go_sem,zan,hlt,zaj];refine⟨fun h=>?_,fun h=>?_⟩
   ·have hle:n<=m:=by simpa using h
    obtain⟨s1,s2,s3⟩:=znw a.parts[k] (m-n) Yp;rw[za6 (n:=m-n) Yp Yp];refine callF (H a.parts[k] (Qj hlt) (m-n) Yp Yp) (by simp -implicitDefEqProofs only[go_sem,zaj]) ?_;simp -implicitDefEqProofs only[go_sem,zaj];rw[if_pos hle]at hr;exact⟨(k+1,n+zd9 a.parts[k] (m-n)),⟨hlt,hr,by simp only;omega,by simp only;omega⟩,by simp only;omega,zac (by simp -implicitDefEqProofs only[go_sem];rw[zap Yp,za6 Yp Yp];exact⟨rfl,rfl⟩)⟩
   ·rw[hr,if_neg (by simpa using h)]
  ·simp -implicitDefEqProofs only[go_sem,hlt];rw[hr,Qt Yp];rfl
theorem zsk:∀a:Nt,a.wt<=1099511627776->∀m:Int,0<=m->m<=1099511627776->FC Tryz.prog 51 [ntD a,iD m] [iD (zd9 a m)] :=
 zda fun r f l t xs ih hs=>qa4 (.mk r f l t xs) hs fun x hx=>ih x hx (Ja (zse (a:=.mk r f l t xs) hx) hs)
end
section
open Go.RowKit
def okF (f:Fm):Prop:=f.forms=true/\f.wt<=1048576
def frN (name:Str)(f:Fm):Bool:=(zbl [] (vf f [])).contains name
theorem qbq (name:Str)(f:Fm)(hf:okF f):FC Tryz.prog 179 [fmD f,.one (.ptr [.str name])] [bD (frN name f)]:=by
 have H1:=qre f hf.1 hf.2
 have H2:=zc1 (zbl [] (vf f [])) name
 simp only[fmD,zaa]at H1⊢
 unfold frN
 generalize zbl [] (vf f [])=xs at H1 H2⊢
 refine zad Tryz.call179 Tryz.func179 rfl Yo (zao Yo) ?_
 simp -implicitDefEqProofs only[go_sem,Tryz.results179]
 refine drawn Yo ?_
 simp -implicitDefEqProofs only[go_sem]
 refine zav (H1) Yn ?_
 simp -implicitDefEqProofs only[go_sem]
 refine zav (H2) Yn ?_
 simp -implicitDefEqProofs only[go_sem]
 kernel_rfl
noncomputable def sbs (q:Fm)(t:Tm):Fm×Bool:=sbF q.var t (q.parts.headD (mkF 0 []))
noncomputable def qjh (f q:Fm)(op:Int)(t:Tm):Bool:=q.op==op&&((sbs q t).2&&same (sbs q t).1 f)
theorem ztm (f q:Fm)(op:Int)(t:Tm)(HS0:q.op=op->q.parts≠[]/\FC Tryz.prog 147 [fmD (q.parts.headD (mkF 0 [])),sD q.var,tmD t] [fmD (sbs q t).1,bD (sbs q t).2]) :
  FC Tryz.prog 146 [fmD f,fmD q,iD op,tmD t] [bD (qjh f q op t)]:=by
 unfold qjh
 by_cases ho:q.op=op
 ·obtain⟨hp,HS⟩:=HS0 ho;clear HS0;obtain⟨o,a,v,ps⟩:=q;cases ps with
  | nil=>exact absurd rfl hp
  | cons g rest =>
   have H2:=zbm (sbs (.mk o a v (g::rest)) t).1 f;generalize sbs (.mk o a v (g::rest)) t=S at HS H2⊢;obtain⟨S1,S2⟩:=S;have ho:o=op:=ho;subst ho;have e0:(o != o)=false:=by simp
   have HS:FC Tryz.prog 147 [fmD g,sD v,tmD t] [fmD S1,bD S2]:=HS;have e1:((Fm.mk o a v (g::rest)).op==o)=true:=by show(o==o)=true;simp
   rw[e1,Qs];have hq:fmC (.mk o a v (g::rest))=[.int .i64 o,.str a.name,.sl 2 (a.args.map tmC),.str v,.sl 5 (fmC g::rest.map fmC)]:=zaa _;have hl:(0:Int)<((rest.length+1:Nat):Int):=by omega
   simp only[fmD,zaa S1,zaa f,tmD,zab t,hq]at HS H2⊢;generalize same S1 f=b at H2⊢;cases S2
   ·refine zad Tryz.call146 Tryz.func146 rfl Yo (zao Yo) ?_;simp -implicitDefEqProofs only[go_sem,Tryz.results146,e0];refine drawn Yo ?_;simp -implicitDefEqProofs only[go_sem,zaa g,hl];rw[zaa g]at HS;refine zav (HS) Yn ?_;simp -implicitDefEqProofs only[go_sem];kernel_rfl
   ·refine zad Tryz.call146 Tryz.func146 rfl Yo (zao Yo) ?_;simp -implicitDefEqProofs only[go_sem,Tryz.results146,e0];refine drawn Yo ?_;simp -implicitDefEqProofs only[go_sem,zaa g,hl];rw[zaa g]at HS;refine zav (HS) Yn ?_;simp -implicitDefEqProofs only[go_sem];refine⟨Yo,?_⟩;refine callF (H2) Yn ?_;simp -implicitDefEqProofs only[go_sem]
 ·have e0:(q.op != op)=true:=by simpa using ho
  have e1:(q.op==op)=false:=by simpa using ho
  rw[e1,Q1];simp only[fmD,zaa f,zaa q,tmD,zab t];refine zad Tryz.call146 Tryz.func146 rfl Yo (zao Yo) ?_;simp -implicitDefEqProofs only[go_sem,Tryz.results146,e0]
def pbs (q:Fm)(t:Tm):Fm×Bool:=zbx q.var t (q.parts.headD (mkF 0 []))
noncomputable def qhb (q:Fm)(op:Int)(t:Tm)(f:Fm):Bool:=q.op==op&&((pbs q t).2&&same (pbs q t).1 f)
theorem zpx (q:Fm)(op:Int)(t:Tm)(f:Fm)(HS0:q.op=op->q.parts≠[]/\FC Tryz.prog 135 [fmD (q.parts.headD (mkF 0 [])),sD q.var,tmD t] [fmD (pbs q t).1,bD (pbs q t).2]) :
  FC Tryz.prog 113 [fmD q,iD op,tmD t,fmD f] [bD (qhb q op t f)]:=by
 unfold qhb
 by_cases ho:q.op=op
 ·obtain⟨hp,HS⟩:=HS0 ho;clear HS0;obtain⟨o,a,v,ps⟩:=q;cases ps with
  | nil=>exact absurd rfl hp
  | cons g rest =>
   have H2:=zcu (pbs (.mk o a v (g::rest)) t).1 f;generalize pbs (.mk o a v (g::rest)) t=S at HS H2⊢;obtain⟨S1,S2⟩:=S;have ho:o=op:=ho;subst ho;have e0:(o != o)=false:=by simp
   have HS:FC Tryz.prog 135 [fmD g,sD v,tmD t] [fmD S1,bD S2]:=HS;have e1:((Fm.mk o a v (g::rest)).op==o)=true:=by show(o==o)=true;simp
   rw[e1,Qs];have hq:fmC (.mk o a v (g::rest))=[.int .i64 o,.str a.name,.sl 2 (a.args.map tmC),.str v,.sl 5 (fmC g::rest.map fmC)]:=zaa _;have hl:(0:Int)<((rest.length+1:Nat):Int):=by omega
   simp only[fmD,zaa S1,zaa f,tmD,zab t,hq]at HS H2⊢;generalize same S1 f=b at H2⊢;cases S2
   ·refine zad Tryz.call113 Tryz.func113 rfl Yo (zao Yo) ?_;simp -implicitDefEqProofs only[go_sem,Tryz.results113,e0];refine drawn Yo ?_;simp -implicitDefEqProofs only[go_sem,zaa g,hl];rw[zaa g]at HS;refine zav (HS) Yn ?_;simp -implicitDefEqProofs only[go_sem];kernel_rfl
   ·refine zad Tryz.call113 Tryz.func113 rfl Yo (zao Yo) ?_;simp -implicitDefEqProofs only[go_sem,Tryz.results113,e0];refine drawn Yo ?_;simp -implicitDefEqProofs only[go_sem,zaa g,hl];rw[zaa g]at HS;refine zav (HS) Yn ?_;simp -implicitDefEqProofs only[go_sem];refine⟨Yo,?_⟩;refine callF (H2) Yn ?_;simp -implicitDefEqProofs only[go_sem]
 ·have e0:(q.op != op)=true:=by simpa using ho
  have e1:(q.op==op)=false:=by simpa using ho
  rw[e1,Q1];simp only[fmD,zaa f,zaa q,tmD,zab t];refine zad Tryz.call113 Tryz.func113 rfl Yo (zao Yo) ?_;simp -implicitDefEqProofs only[go_sem,Tryz.results113,e0]
end
section
open Go.RowKit
variable {P:Program}
section
variable {ks:List Fr}{Q:Exit->St->Prop}{σ:St}{ops:Array Oper}{os:List Oper}{L:List (List Ky×List Ky)}{ty:TypeId}{ps:String}{af:Array Edge}{x:Operand}{asx:Array Operand}{ts:Array TypeId}{f:FuncId}{ds res:List D}
theorem zgg {d:Option Nat}{gR:List Ky}(h:RC P f ds res)(hp:zar (za0 (σ.get P 0 x)) fun p=>p.1=f/\zlf σ (σ.gets P asx ts++p.2) ds)
  (k:exd P ops os (L++[(gR++zat (x::asx.toList),dK d++[])]) ks Q (σ.callR d res)) :
  zrf P ops ⟨d,.call ⟨.value x,asx,ts⟩,ty,ps,af,none⟩ os L gR ks Q σ:=by
 obtain⟨⟨f',cvs⟩,h1,rfl,h2⟩:=zai hp
 exact qj2 _ _ _ _ _ _ rfl (zt5 rfl h h1 h2) k
end
end
section
open Go.RowKit
theorem zmq (xs ys:List Fm):FC Tryz.prog 144 [.one (fmS xs),.one (fmS ys)] [bD (same xs ys)]:=by
 have H:=zfc xs ys same 123 [] fun x _ y _=>zbm x y
 rw[zk8 fun x _ y=>rfl]at H
 refine zad Tryz.call144 Tryz.func144 rfl Yo (zao Yo) ?_
 simp -implicitDefEqProofs only[go_sem,Tryz.results144]
 refine callF (H) Yn ?_
 simp -implicitDefEqProofs only[go_sem]
theorem zbv (p:Nt)(i:Nat)(hi:i<p.parts.length):RC Tryz.prog 142 [iD i,.one (.ptr (ntC p))] [fmD p.parts[i].form]:=by
 simp only[zaj p,fmD,zaa p.parts[i].form]
 refine zbo Tryz.call142 Tryz.func142 rfl Yo (zao Yo) ?_
 simp -implicitDefEqProofs only[go_sem,Tryz.results142]
 simp -implicitDefEqProofs only[go_sem,hi,zan,zaj p.parts[i]]
theorem qfn (f:Fm)(op:Int)(fs:List Fm):FC Tryz.prog 143 [fmD f,iD op,.one (fmS fs)] [bD (f.op==op&&same f.parts fs)]:=by
 have H:=zmq f.parts fs
 generalize same f.parts fs=b at H⊢
 cases e:(f.op==op)
 ·simp only[fmD,zaa f];refine zad Tryz.call143 Tryz.func143 rfl Yo (zao Yo) ?_;simp -implicitDefEqProofs only[go_sem,Tryz.results143,e]
 ·simp only[fmD,zaa f];refine zad Tryz.call143 Tryz.func143 rfl Yo (zao Yo) ?_;simp -implicitDefEqProofs only[go_sem,Tryz.results143,e];refine callF (H) (by simp -implicitDefEqProofs only[go_sem,e]) ?_;simp -implicitDefEqProofs only[go_sem,e]
theorem zee {xs:List Fm}{i:Nat}(h:i<xs.length):(xs.map fmC).getD i []=fmC (xs.getD i (mkF 0 [])):=by
 simp only[List.getD_eq_getElem?_getD,List.getElem?_map,List.getElem?_eq_getElem h]
 rfl
theorem qan (c:Fm)(l:Int)(t:Tm):FC Tryz.prog 122 [ntD (.mk 1 c l t [])] [bD (true)]:=by
 simp only[ntD,zbe,fmD,tmD,zab t,zaa c,Nt.parts,fmS,Kg,Kj,Qf,Qo]at  ⊢
 refine zad Tryz.call122 Tryz.func122 rfl Yo (zao Yo) ?_
 simp -implicitDefEqProofs only[go_sem,Tryz.results122]
theorem qa1 (c:Fm)(l:Int)(t:Tm):FC Tryz.prog 122 [ntD (.mk 2 c l t [])] [bD (c.op==1)]:=by
 simp only[ntD,zbe,fmD,tmD,zab t,zaa c,Nt.parts,fmS,Kg,Kj,Qf,Qo]at  ⊢
 refine zad Tryz.call122 Tryz.func122 rfl Yo (zao Yo) ?_
 simp -implicitDefEqProofs only[go_sem,Tryz.results122]
theorem qb6 (c:Fm)(l:Int)(t:Tm)(p0:Nt):FC Tryz.prog 122 [ntD (.mk 3 c l t [p0])] [bD (p0.form.op==2)]:=by
 have H0:=zbv (.mk 3 c l t [p0]) 0 (by show 0<1;omega)
 simp only[ntD,zbe,fmD,tmD,zab t,zaa c,Nt.parts,fmS,Kg,Kj,Qf,Qo,zaa p0.form]at H0  ⊢
 refine zad Tryz.call122 Tryz.func122 rfl Yo (zao Yo) ?_
 simp -implicitDefEqProofs only[go_sem,Tryz.results122]
 refine qr4 1 rfl rfl ?_
 simp -implicitDefEqProofs only[go_sem]
 refine callR (H0) Yn ?_
 simp -implicitDefEqProofs only[go_sem]
theorem qau (c:Fm)(l:Int)(t:Tm)(p0:Nt):FC Tryz.prog 122 [ntD (.mk 4 c l t [p0])] [bD (p0.form.op==2)]:=by
 have H0:=zbv (.mk 4 c l t [p0]) 0 (by show 0<1;omega)
 simp only[ntD,zbe,fmD,tmD,zab t,zaa c,Nt.parts,fmS,Kg,Kj,Qf,Qo,zaa p0.form]at H0  ⊢
 refine zad Tryz.call122 Tryz.func122 rfl Yo (zao Yo) ?_
 simp -implicitDefEqProofs only[go_sem,Tryz.results122]
 refine qr4 1 rfl rfl ?_
 simp -implicitDefEqProofs only[go_sem]
 refine callR (H0) Yn ?_
 simp -implicitDefEqProofs only[go_sem]
theorem qbo (c:Fm)(l:Int)(t:Tm)(p0:Nt)(p1:Nt):FC Tryz.prog 122 [ntD (.mk 5 c l t [p0,p1])] [bD (c.op==5&&same c.parts [p0.form,p1.form])]:=by
 have H0:=zbv (.mk 5 c l t [p0,p1]) 0 (by show 0<2;omega)
 have H1:=zbv (.mk 5 c l t [p0,p1]) 1 (by show 1<2;omega)
 have HI:=qfn c 5 [p0.form,p1.form]
 generalize (c.op==5&&same c.parts [p0.form,p1.form])=b at HI⊢
 simp only[ntD,zbe,fmD,tmD,zab t,zaa c,Nt.parts,fmS,Kg,Kj,Qf,Qo,zaa p0.form,zaa p1.form]at H0 H1 HI  ⊢
 refine zad Tryz.call122 Tryz.func122 rfl Yo (zao Yo) ?_
 simp -implicitDefEqProofs only[go_sem,Tryz.results122]
 refine zgd 1 ?_
 simp -implicitDefEqProofs only[go_sem]
 refine drawn Yo ?_
 simp -implicitDefEqProofs only[go_sem]
 refine zay H0 Yn ?_
 simp -implicitDefEqProofs only[go_sem]
 refine zay H1 Yn ?_
 simp -implicitDefEqProofs only[go_sem]
 refine qki Yn ?_
 simp -implicitDefEqProofs only[go_sem]
 refine zav (HI) Yn ?_
 simp -implicitDefEqProofs only[go_sem]
 kernel_rfl
end
section
open Go.RowKit
theorem qai (c:Fm)(l:Int)(t:Tm)(p0:Nt)(ha:p0.form.op=5->p0.form.parts.length=2):FC Tryz.prog 122 [ntD (.mk 6 c l t [p0])] [bD (p0.form.op==5&&same (p0.form.parts.getD 0 (mkF 0 [])) c)]:=by
 have H0:=zbv (.mk 6 c l t [p0]) 0 (by show 0<1;omega)
 have HE:=zbm (p0.form.parts.getD 0 (mkF 0 [])) c
 simp only[ntD,zbe,fmD,tmD,zab t,zaa c,Nt.parts,fmS,Kg,Kj,Qf,Qo,zaa p0.form]at H0 HE  ⊢
 cases e:(p0.form.op==5)
 ·refine zad Tryz.call122 Tryz.func122 rfl Yo (zao Yo) ?_;simp -implicitDefEqProofs only[go_sem,Tryz.results122,e];refine zgd 1 ?_;simp -implicitDefEqProofs only[go_sem,e];refine drawn Yo ?_;simp -implicitDefEqProofs only[go_sem,e];refine zay H0 (by simp -implicitDefEqProofs only[go_sem,e]) ?_;simp -implicitDefEqProofs only[go_sem,e];kernel_rfl
 ·have hl:0<p0.form.parts.length:=by rw[ha (by simpa using e)];omega
  have hli:(0:Int)<(p0.form.parts.length:Int):=by omega
  have hw:IntKind.i64.wrap 0=0:=za6 Yp Yp;have hat:=zee hl;rw[zaa (p0.form.parts.getD 0 (mkF 0 []))]at hat;generalize p0.form.parts.getD 0 (mkF 0 [])=G at hat HE⊢;simp only[zaa G]at HE;generalize same G c=b at HE⊢;refine zad Tryz.call122 Tryz.func122 rfl Yo (zao Yo) ?_;simp -implicitDefEqProofs only[go_sem,Tryz.results122,e];refine zgd 1 ?_;simp -implicitDefEqProofs only[go_sem,e];refine drawn Yo ?_;simp -implicitDefEqProofs only[go_sem,e];refine zay H0 (by simp -implicitDefEqProofs only[go_sem,e]) ?_;simp -implicitDefEqProofs only[go_sem,e];refine zgg H0 (by simp -implicitDefEqProofs only[go_sem,e,hw,hli,hat,Qa]) ?_;simp -implicitDefEqProofs only[go_sem,e,hw,hli,hat,Qa];refine zaz HE (by simp -implicitDefEqProofs only[go_sem,e,hw,hli,hat]) ?_;simp -implicitDefEqProofs only[go_sem,e,hw,hli,hat];kernel_rfl
theorem qb5 (c:Fm)(l:Int)(t:Tm)(p0:Nt)(ha:p0.form.op=5->p0.form.parts.length=2):FC Tryz.prog 122 [ntD (.mk 7 c l t [p0])] [bD (p0.form.op==5&&same (p0.form.parts.getD 1 (mkF 0 [])) c)]:=by
 have H0:=zbv (.mk 7 c l t [p0]) 0 (by show 0<1;omega)
 have HE:=zbm (p0.form.parts.getD 1 (mkF 0 [])) c
 simp only[ntD,zbe,fmD,tmD,zab t,zaa c,Nt.parts,fmS,Kg,Kj,Qf,Qo,zaa p0.form]at H0 HE  ⊢
 cases e:(p0.form.op==5)
 ·refine zad Tryz.call122 Tryz.func122 rfl Yo (zao Yo) ?_;simp -implicitDefEqProofs only[go_sem,Tryz.results122,e];refine zgd 1 ?_;simp -implicitDefEqProofs only[go_sem,e];refine drawn Yo ?_;simp -implicitDefEqProofs only[go_sem,e];refine zay H0 (by simp -implicitDefEqProofs only[go_sem,e]) ?_;simp -implicitDefEqProofs only[go_sem,e];kernel_rfl
 ·have hl:1<p0.form.parts.length:=by rw[ha (by simpa using e)];omega
  have hli:(1:Int)<(p0.form.parts.length:Int):=by omega
  have hw:IntKind.i64.wrap 1=1:=za6 Yp Yp;have hat:=zee hl;rw[zaa (p0.form.parts.getD 1 (mkF 0 []))]at hat;generalize p0.form.parts.getD 1 (mkF 0 [])=G at hat HE⊢;simp only[zaa G]at HE;generalize same G c=b at HE⊢;refine zad Tryz.call122 Tryz.func122 rfl Yo (zao Yo) ?_;simp -implicitDefEqProofs only[go_sem,Tryz.results122,e];refine zgd 1 ?_;simp -implicitDefEqProofs only[go_sem,e];refine drawn Yo ?_;simp -implicitDefEqProofs only[go_sem,e];refine zay H0 (by simp -implicitDefEqProofs only[go_sem,e]) ?_;simp -implicitDefEqProofs only[go_sem,e];refine zgg H0 (by simp -implicitDefEqProofs only[go_sem,e,hw,hli,hat,Qa]) ?_;simp -implicitDefEqProofs only[go_sem,e,hw,hli,hat,Qa];refine zaz HE (by simp -implicitDefEqProofs only[go_sem,e,hw,hli,hat]) ?_;simp -implicitDefEqProofs only[go_sem,e,hw,hli,hat];kernel_rfl
theorem qbt (c:Fm)(l:Int)(t:Tm)(p0:Nt)(ha:c.op=6->c.parts.length=2):FC Tryz.prog 122 [ntD (.mk 8 c l t [p0])] [bD (c.op==6&&same (c.parts.getD 0 (mkF 0 [])) p0.form)]:=by
 have H0:=zbv (.mk 8 c l t [p0]) 0 (by show 0<1;omega)
 have HE:=zbm (c.parts.getD 0 (mkF 0 [])) p0.form
 simp only[ntD,zbe,fmD,tmD,zab t,zaa c,Nt.parts,fmS,Kg,Kj,Qf,Qo,zaa p0.form]at H0 HE  ⊢
 cases e:(c.op==6)
 ·refine zad Tryz.call122 Tryz.func122 rfl Yo (zao Yo) ?_;simp -implicitDefEqProofs only[go_sem,Tryz.results122,e];refine zgd 1 ?_;simp -implicitDefEqProofs only[go_sem,e];refine drawn Yo ?_;simp -implicitDefEqProofs only[go_sem,e];kernel_rfl
 ·have hl:0<c.parts.length:=by rw[ha (by simpa using e)];omega
  have hli:(0:Int)<(c.parts.length:Int):=by omega
  have hw:IntKind.i64.wrap 0=0:=za6 Yp Yp;have hat:=zee hl;rw[zaa (c.parts.getD 0 (mkF 0 []))]at hat;generalize c.parts.getD 0 (mkF 0 [])=G at hat HE⊢;simp only[zaa G]at HE;generalize same G p0.form=b at HE⊢;refine zad Tryz.call122 Tryz.func122 rfl Yo (zao Yo) ?_;simp -implicitDefEqProofs only[go_sem,Tryz.results122,e];refine zgd 1 ?_;simp -implicitDefEqProofs only[go_sem,e,hw,hli,hat,Qa];refine drawn Yo ?_;simp -implicitDefEqProofs only[go_sem,e,hw,hli,hat,Qa];refine zgg H0 (by simp -implicitDefEqProofs only[go_sem,e,hw,hli,hat]) ?_;simp -implicitDefEqProofs only[go_sem,e,hw,hli,hat];refine zaz HE (by simp -implicitDefEqProofs only[go_sem,e,hw,hli,hat]) ?_;simp -implicitDefEqProofs only[go_sem,e,hw,hli,hat];kernel_rfl
theorem qb3 (c:Fm)(l:Int)(t:Tm)(p0:Nt)(ha:c.op=6->c.parts.length=2):FC Tryz.prog 122 [ntD (.mk 9 c l t [p0])] [bD (c.op==6&&same (c.parts.getD 1 (mkF 0 [])) p0.form)]:=by
 have H0:=zbv (.mk 9 c l t [p0]) 0 (by show 0<1;omega)
 have HE:=zbm (c.parts.getD 1 (mkF 0 [])) p0.form
 simp only[ntD,zbe,fmD,tmD,zab t,zaa c,Nt.parts,fmS,Kg,Kj,Qf,Qo,zaa p0.form]at H0 HE  ⊢
 cases e:(c.op==6)
 ·refine zad Tryz.call122 Tryz.func122 rfl Yo (zao Yo) ?_;simp -implicitDefEqProofs only[go_sem,Tryz.results122,e];refine zgd 1 ?_;simp -implicitDefEqProofs only[go_sem,e];refine drawn Yo ?_;simp -implicitDefEqProofs only[go_sem,e];kernel_rfl
 ·have hl:1<c.parts.length:=by rw[ha (by simpa using e)];omega
  have hli:(1:Int)<(c.parts.length:Int):=by omega
  have hw:IntKind.i64.wrap 1=1:=za6 Yp Yp;have hat:=zee hl;rw[zaa (c.parts.getD 1 (mkF 0 []))]at hat;generalize c.parts.getD 1 (mkF 0 [])=G at hat HE⊢;simp only[zaa G]at HE;generalize same G p0.form=b at HE⊢;refine zad Tryz.call122 Tryz.func122 rfl Yo (zao Yo) ?_;simp -implicitDefEqProofs only[go_sem,Tryz.results122,e];refine zgd 1 ?_;simp -implicitDefEqProofs only[go_sem,e,hw,hli,hat,Qa];refine drawn Yo ?_;simp -implicitDefEqProofs only[go_sem,e,hw,hli,hat,Qa];refine zgg H0 (by simp -implicitDefEqProofs only[go_sem,e,hw,hli,hat]) ?_;simp -implicitDefEqProofs only[go_sem,e,hw,hli,hat];refine zaz HE (by simp -implicitDefEqProofs only[go_sem,e,hw,hli,hat]) ?_;simp -implicitDefEqProofs only[go_sem,e,hw,hli,hat];kernel_rfl
end
section
open Go.RowKit
theorem zu5 (c:Fm)(l:Int)(t:Tm)(p0:Nt)(p1:Nt)(p2:Nt):FC Tryz.prog 122 [ntD (.mk 10 c l t [p0,p1,p2])] [bD (p0.form.op==6&&same p1.form c&&same p2.form c)]:=by
 have H0:=zbv (.mk 10 c l t [p0,p1,p2]) 0 (by show 0<3;omega)
 have H1:=zbv (.mk 10 c l t [p0,p1,p2]) 1 (by show 1<3;omega)
 have H2:=zbv (.mk 10 c l t [p0,p1,p2]) 2 (by show 2<3;omega)
 have HE:=zbm p1.form c
 have HE2:=zbm p2.form c
 simp only[ntD,zbe,fmD,tmD,zab t,zaa c,Nt.parts,fmS,Kg,Kj,Qf,Qo,zaa p0.form,zaa p1.form,zaa p2.form]at H0 H1 H2 HE HE2  ⊢
 generalize same p1.form c=b1 at HE⊢
 generalize same p2.form c=b2 at HE2⊢
 cases e:(p0.form.op==6)
 ·refine zad Tryz.call122 Tryz.func122 rfl Yo (zao Yo) ?_;simp -implicitDefEqProofs only[go_sem,Tryz.results122,e];refine zgd 1 ?_;simp -implicitDefEqProofs only[go_sem,e];refine drawn Yo ?_;simp -implicitDefEqProofs only[go_sem,e];refine zay H0 (by simp -implicitDefEqProofs only[go_sem,e]) ?_;simp -implicitDefEqProofs only[go_sem,e];kernel_rfl
 ·cases b1
  ·refine zad Tryz.call122 Tryz.func122 rfl Yo (zao Yo) ?_;simp -implicitDefEqProofs only[go_sem,Tryz.results122,e];refine zgd 1 ?_;simp -implicitDefEqProofs only[go_sem,e];refine drawn Yo ?_;simp -implicitDefEqProofs only[go_sem,e];refine zay H0 (by simp -implicitDefEqProofs only[go_sem,e]) ?_;simp -implicitDefEqProofs only[go_sem,e];refine zgg H1 (by simp -implicitDefEqProofs only[go_sem,e]) ?_;simp -implicitDefEqProofs only[go_sem,e];refine zaz HE (by simp -implicitDefEqProofs only[go_sem,e]) ?_;simp -implicitDefEqProofs only[go_sem,e];kernel_rfl
  ·refine zad Tryz.call122 Tryz.func122 rfl Yo (zao Yo) ?_;simp -implicitDefEqProofs only[go_sem,Tryz.results122,e];refine zgd 1 ?_;simp -implicitDefEqProofs only[go_sem,e];refine drawn Yo ?_;simp -implicitDefEqProofs only[go_sem,e];refine zay H0 (by simp -implicitDefEqProofs only[go_sem,e]) ?_;simp -implicitDefEqProofs only[go_sem,e];refine zgg H1 (by simp -implicitDefEqProofs only[go_sem,e]) ?_;simp -implicitDefEqProofs only[go_sem,e];refine zaz HE (by simp -implicitDefEqProofs only[go_sem,e]) ?_;simp -implicitDefEqProofs only[go_sem,e];refine zgg H2 (by simp -implicitDefEqProofs only[go_sem,e]) ?_;simp -implicitDefEqProofs only[go_sem,e];refine zaz HE2 (by simp -implicitDefEqProofs only[go_sem,e]) ?_;simp -implicitDefEqProofs only[go_sem,e];kernel_rfl
theorem zv2 (c:Fm)(l:Int)(t:Tm)(p0:Nt)(ha:c.op=7->c.parts.length=2):FC Tryz.prog 122 [ntD (.mk 11 c l t [p0])] [bD (c.op==7&&same (c.parts.getD 1 (mkF 0 [])) p0.form)]:=by
 have H0:=zbv (.mk 11 c l t [p0]) 0 (by show 0<1;omega)
 have HE:=zbm (c.parts.getD 1 (mkF 0 [])) p0.form
 simp only[ntD,zbe,fmD,tmD,zab t,zaa c,Nt.parts,fmS,Kg,Kj,Qf,Qo,zaa p0.form]at H0 HE  ⊢
 cases e:(c.op==7)
 ·refine zad Tryz.call122 Tryz.func122 rfl Yo (zao Yo) ?_;simp -implicitDefEqProofs only[go_sem,Tryz.results122,e];refine zgd 1 ?_;simp -implicitDefEqProofs only[go_sem,e];refine drawn Yo ?_;simp -implicitDefEqProofs only[go_sem,e];kernel_rfl
 ·have hl:1<c.parts.length:=by rw[ha (by simpa using e)];omega
  have hli:(1:Int)<(c.parts.length:Int):=by omega
  have hat:=zee hl;rw[zaa (c.parts.getD 1 (mkF 0 []))]at hat;generalize c.parts.getD 1 (mkF 0 [])=G at hat HE⊢;simp only[zaa G]at HE;generalize same G p0.form=b at HE⊢;refine zad Tryz.call122 Tryz.func122 rfl Yo (zao Yo) ?_;simp -implicitDefEqProofs only[go_sem,Tryz.results122,e];refine zgd 1 ?_;simp -implicitDefEqProofs only[go_sem,e,hli,hat,Qa];refine drawn Yo ?_;simp -implicitDefEqProofs only[go_sem,e,hli,hat,Qa];refine zgg H0 (by simp -implicitDefEqProofs only[go_sem,e,hli,hat]) ?_;simp -implicitDefEqProofs only[go_sem,e,hli,hat];refine zaz HE (by simp -implicitDefEqProofs only[go_sem,e,hli,hat]) ?_;simp -implicitDefEqProofs only[go_sem,e,hli,hat];kernel_rfl
theorem zw3 (c:Fm)(l:Int)(t:Tm)(p0:Nt)(p1:Nt):FC Tryz.prog 122 [ntD (.mk 12 c l t [p0,p1])] [bD (p0.form.op==7&&same p0.form.parts [p1.form,c])]:=by
 have H0:=zbv (.mk 12 c l t [p0,p1]) 0 (by show 0<2;omega)
 have H1:=zbv (.mk 12 c l t [p0,p1]) 1 (by show 1<2;omega)
 have HI:=qfn p0.form 7 [p1.form,c]
 generalize (p0.form.op==7&&same p0.form.parts [p1.form,c])=b at HI⊢
 simp only[ntD,zbe,fmD,tmD,zab t,zaa c,Nt.parts,fmS,Kg,Kj,Qf,Qo,zaa p0.form,zaa p1.form]at H0 H1 HI  ⊢
 refine zad Tryz.call122 Tryz.func122 rfl Yo (zao Yo) ?_
 simp -implicitDefEqProofs only[go_sem,Tryz.results122]
 refine zgd 1 ?_
 simp -implicitDefEqProofs only[go_sem]
 refine drawn Yo ?_
 simp -implicitDefEqProofs only[go_sem]
 refine zay H0 Yn ?_
 simp -implicitDefEqProofs only[go_sem]
 refine zay H1 Yn ?_
 simp -implicitDefEqProofs only[go_sem]
 refine qki Yn ?_
 simp -implicitDefEqProofs only[go_sem]
 refine zav (HI) Yn ?_
 simp -implicitDefEqProofs only[go_sem]
 kernel_rfl
theorem zu3 (c:Fm)(l:Int)(t:Tm)(p0:Nt):FC Tryz.prog 122 [ntD (.mk 13 c l t [p0])] [bD (c.op==4&&p0.form.op==2)]:=by
 have H0:=zbv (.mk 13 c l t [p0]) 0 (by show 0<1;omega)
 simp only[ntD,zbe,fmD,tmD,zab t,zaa c,Nt.parts,fmS,Kg,Kj,Qf,Qo,zaa p0.form]at H0  ⊢
 cases e:(c.op==4)
 ·refine zad Tryz.call122 Tryz.func122 rfl Yo (zao Yo) ?_;simp -implicitDefEqProofs only[go_sem,Tryz.results122,e]
 ·refine zad Tryz.call122 Tryz.func122 rfl Yo (zao Yo) ?_;simp -implicitDefEqProofs only[go_sem,Tryz.results122,e];refine qr4 1 rfl rfl ?_;simp -implicitDefEqProofs only[go_sem,e];refine callR (H0) (by simp -implicitDefEqProofs only[go_sem,e]) ?_;simp -implicitDefEqProofs only[go_sem,e]
theorem zva (c:Fm)(l:Int)(t:Tm)(p0:Nt)(p1:Nt):FC Tryz.prog 122 [ntD (.mk 14 c l t [p0,p1])] [bD (p0.form.op==4&&same p0.form.parts [p1.form]&&c.op==2)]:=by
 have H0:=zbv (.mk 14 c l t [p0,p1]) 0 (by show 0<2;omega)
 have H1:=zbv (.mk 14 c l t [p0,p1]) 1 (by show 1<2;omega)
 have HI:=qfn p0.form 4 [p1.form]
 generalize (p0.form.op==4&&same p0.form.parts [p1.form])=b at HI⊢
 simp only[ntD,zbe,fmD,tmD,zab t,zaa c,Nt.parts,fmS,Kg,Kj,Qf,Qo,zaa p0.form,zaa p1.form]at H0 H1 HI  ⊢
 cases b
 ·refine zad Tryz.call122 Tryz.func122 rfl Yo (zao Yo) ?_;simp -implicitDefEqProofs only[go_sem,Tryz.results122];refine qr4 1 rfl rfl ?_;simp -implicitDefEqProofs only[go_sem];refine callR (H0) Yn ?_;simp -implicitDefEqProofs only[go_sem];refine callR (H1) Yn ?_;simp -implicitDefEqProofs only[go_sem];refine zi8 Yn ?_;simp -implicitDefEqProofs only[go_sem];refine callF (HI) Yn ?_;simp -implicitDefEqProofs only[go_sem]
 ·refine zad Tryz.call122 Tryz.func122 rfl Yo (zao Yo) ?_;simp -implicitDefEqProofs only[go_sem,Tryz.results122];refine qr4 1 rfl rfl ?_;simp -implicitDefEqProofs only[go_sem];refine callR (H0) Yn ?_;simp -implicitDefEqProofs only[go_sem];refine callR (H1) Yn ?_;simp -implicitDefEqProofs only[go_sem];refine zi8 Yn ?_;simp -implicitDefEqProofs only[go_sem];refine callF (HI) Yn ?_;simp -implicitDefEqProofs only[go_sem]
end
section
open Go.RowKit
theorem zvj (c:Fm)(l:Int)(t:Tm)(p0:Nt)(b:Bool)(HN:FC Tryz.prog 146 [fmD p0.form,fmD c,iD 8,tmD t] [bD b]):FC Tryz.prog 122 [ntD (.mk 15 c l t [p0])] [bD (zbd t.name&&b)]:=by
 have H0:=zbv (.mk 15 c l t [p0]) 0 (by show 0<1;omega)
 have HV:=zdj t.name
 simp only[ntD,zbe,fmD,tmD,zab t,zaa c,Nt.parts,fmS,Kg,Kj,Qf,Qo,zaa p0.form]at H0 HV HN  ⊢
 cases e:zbd t.name
 ·rw[e]at HV;refine zad Tryz.call122 Tryz.func122 rfl Yo (zao Yo) ?_;simp -implicitDefEqProofs only[go_sem,Tryz.results122];refine zgd 1 ?_;simp -implicitDefEqProofs only[go_sem];refine drawn Yo ?_;simp -implicitDefEqProofs only[go_sem];refine zav (HV) Yn ?_;simp -implicitDefEqProofs only[go_sem];kernel_rfl
 ·rw[e]at HV;refine zad Tryz.call122 Tryz.func122 rfl Yo (zao Yo) ?_;simp -implicitDefEqProofs only[go_sem,Tryz.results122];refine zgd 1 ?_;simp -implicitDefEqProofs only[go_sem];refine drawn Yo ?_;simp -implicitDefEqProofs only[go_sem];refine zav (HV) Yn ?_;simp -implicitDefEqProofs only[go_sem];refine zgg H0 Yn ?_;simp -implicitDefEqProofs only[go_sem];refine zaz HN Yn ?_;simp -implicitDefEqProofs only[go_sem];kernel_rfl
theorem zuw (c:Fm)(l:Int)(t:Tm)(p0:Nt)(b:Bool)(HN:FC Tryz.prog 146 [fmD c,fmD p0.form,iD 8,tmD t] [bD b]):FC Tryz.prog 122 [ntD (.mk 16 c l t [p0])] [bD (b)]:=by
 have H0:=zbv (.mk 16 c l t [p0]) 0 (by show 0<1;omega)
 simp only[ntD,zbe,fmD,tmD,zab t,zaa c,Nt.parts,fmS,Kg,Kj,Qf,Qo,zaa p0.form]at H0 HN  ⊢
 refine zad Tryz.call122 Tryz.func122 rfl Yo (zao Yo) ?_
 simp -implicitDefEqProofs only[go_sem,Tryz.results122]
 refine zgd 1 ?_
 simp -implicitDefEqProofs only[go_sem]
 refine drawn Yo ?_
 simp -implicitDefEqProofs only[go_sem]
 refine zay H0 Yn ?_
 simp -implicitDefEqProofs only[go_sem]
 refine zav (HN) Yn ?_
 simp -implicitDefEqProofs only[go_sem]
 kernel_rfl
theorem zu4 (c:Fm)(l:Int)(t:Tm)(p0:Nt)(b:Bool)(HN:FC Tryz.prog 146 [fmD p0.form,fmD c,iD 9,tmD t] [bD b]):FC Tryz.prog 122 [ntD (.mk 17 c l t [p0])] [bD (b)]:=by
 have H0:=zbv (.mk 17 c l t [p0]) 0 (by show 0<1;omega)
 simp only[ntD,zbe,fmD,tmD,zab t,zaa c,Nt.parts,fmS,Kg,Kj,Qf,Qo,zaa p0.form]at H0 HN  ⊢
 refine zad Tryz.call122 Tryz.func122 rfl Yo (zao Yo) ?_
 simp -implicitDefEqProofs only[go_sem,Tryz.results122]
 refine zgd 1 ?_
 simp -implicitDefEqProofs only[go_sem]
 refine drawn Yo ?_
 simp -implicitDefEqProofs only[go_sem]
 refine zay H0 Yn ?_
 simp -implicitDefEqProofs only[go_sem]
 refine zav (HN) Yn ?_
 simp -implicitDefEqProofs only[go_sem]
 kernel_rfl
end
section
open Go.RowKit
theorem zvk (c:Fm)(l:Int)(t:Tm)(p0:Nt)(p1:Nt)(ha:p0.form.op=9->0<p0.form.parts.length)(S1:Fm)(S2:Bool)(HU0:p0.form.op=9->FC Tryz.prog 147 [fmD (p0.form.parts.getD 0 (mkF 0 [])),sD p0.form.var,tmD t] [fmD S1,bD S2]):FC Tryz.prog 122 [ntD (.mk 18 c l t [p0,p1])] [bD (p0.form.op==9&&zbd t.name&&(S2&&same p1.form c))]:=by
 have H0:=zbv (.mk 18 c l t [p0,p1]) 0 (by show 0<2;omega)
 have H1:=zbv (.mk 18 c l t [p0,p1]) 1 (by show 1<2;omega)
 have HE:=zbm p1.form c
 have HV:=zdj t.name
 simp only[ntD,zbe,fmD,tmD,zab t,zaa c,Nt.parts,fmS,Kg,Kj,Qf,Qo,zaa p0.form,zaa p1.form]at H0 H1 HE HV  ⊢
 generalize same p1.form c=b1 at HE⊢
 cases e:(p0.form.op==9)
 ·have e2:(p0.form.op != 9)=true:=by simpa using e
  refine zad Tryz.call122 Tryz.func122 rfl Yo (zao Yo) ?_;simp -implicitDefEqProofs only[go_sem,Tryz.results122];refine qr4 1 rfl rfl ?_;simp -implicitDefEqProofs only[go_sem];refine callR (H0) (by simp -implicitDefEqProofs only[go_sem,e2]) ?_;simp -implicitDefEqProofs only[go_sem,e2]
 ·have e2:(p0.form.op != 9)=false:=by simpa using e
  have hl:=ha (by simpa using e);have HU:=HU0 (by simpa using e);simp only[fmD,tmD,zab t,zaa S1]at HU;have hli:(0:Int)<(p0.form.parts.length:Int):=by omega
  have hat:=zee hl;rw[zaa (p0.form.parts.getD 0 (mkF 0 []))]at hat;generalize p0.form.parts.getD 0 (mkF 0 [])=G at hat HU⊢;simp only[zaa G]at HU;cases ev:zbd t.name
  ·rw[ev]at HV;refine zad Tryz.call122 Tryz.func122 rfl Yo (zao Yo) ?_;simp -implicitDefEqProofs only[go_sem,Tryz.results122];refine qr4 1 rfl rfl ?_;simp -implicitDefEqProofs only[go_sem];refine callR (H0) (by simp -implicitDefEqProofs only[go_sem,e2]) ?_;simp -implicitDefEqProofs only[go_sem,e2];refine callF (HV) (by simp -implicitDefEqProofs only[go_sem,e2,Qg]) ?_;simp -implicitDefEqProofs only[go_sem,e2,Qg]
  ·rw[ev]at HV;refine zad Tryz.call122 Tryz.func122 rfl Yo (zao Yo) ?_;simp -implicitDefEqProofs only[go_sem,Tryz.results122];refine qr4 1 rfl rfl ?_;simp -implicitDefEqProofs only[go_sem];refine callR (H0) (by simp -implicitDefEqProofs only[go_sem,e2]) ?_;simp -implicitDefEqProofs only[go_sem,e2];refine callF (HV) (by simp -implicitDefEqProofs only[go_sem,e2,Qb]) ?_;simp -implicitDefEqProofs only[go_sem,e2,Qb];refine drawn Yo ?_;simp -implicitDefEqProofs only[go_sem];refine zay H0 (by simp -implicitDefEqProofs only[go_sem,hli,hat,Qa]) ?_;simp -implicitDefEqProofs only[go_sem,hli,hat,Qa];cases S2
   ·refine zay H0 (by simp -implicitDefEqProofs only[go_sem,hli,hat]) ?_;simp -implicitDefEqProofs only[go_sem,hli,hat];refine zav (HU) (by simp -implicitDefEqProofs only[go_sem,hli,hat]) ?_;simp -implicitDefEqProofs only[go_sem,hli,hat];refine⟨Yo,?_⟩;refine drawn Yo ?_;simp -implicitDefEqProofs only[go_sem];kernel_rfl
   ·refine zay H0 (by simp -implicitDefEqProofs only[go_sem,hli,hat]) ?_;simp -implicitDefEqProofs only[go_sem,hli,hat];refine zav (HU) (by simp -implicitDefEqProofs only[go_sem,hli,hat]) ?_;simp -implicitDefEqProofs only[go_sem,hli,hat];refine⟨Yo,?_⟩;refine drawn Yo ?_;simp -implicitDefEqProofs only[go_sem];refine zgg H1 (by simp -implicitDefEqProofs only[go_sem,hli,hat]) ?_;simp -implicitDefEqProofs only[go_sem,hli,hat];refine zaz HE Yn ?_;simp -implicitDefEqProofs only[go_sem];kernel_rfl
end
section
open Go.RowKit
theorem notR_c (a:Fm):RC Tryz.prog 150 [fmD a] [fmD (mkF 4 [a])]:=by
 have hm:fmC (mkF 4 [a])=[.int .i64 4,.str [],.sl 2 [],.str [],.sl 5 [fmC a]]:=zaa _
 simp only[fmD,hm,zaa a]
 refine zbo Tryz.call150 Tryz.func150 rfl Yo (zao Yo) ?_
 simp -implicitDefEqProofs only[go_sem,Tryz.results150]
 refine zcc Yn ?_
 simp -implicitDefEqProofs only[go_sem]
theorem zr7 (c:Fm)(l:Int)(t:Tm)(p0:Nt)(i:Int):RC Tryz.prog 124 [ntD (.mk 4 c l t [p0]),iD i] [fmD (mkF 4 [c])]:=by
 have HN:=notR_c c
 have hm:fmC (mkF 4 [c])=[.int .i64 4,.str [],.sl 2 [],.str [],.sl 5 [fmC c]]:=zaa _
 simp only[ntD,zbe,fmD,hm,zaa c,Qf,Qo]at HN⊢
 refine zbo Tryz.call124 Tryz.func124 rfl Yo (zao Yo) ?_
 simp -implicitDefEqProofs only[go_sem,Tryz.results124]
 simp -implicitDefEqProofs only[go_sem,zaj p0]
 refine callR (HN) Yn ?_
 simp -implicitDefEqProofs only[go_sem]
theorem zqn (c:Fm)(l:Int)(t:Tm)(p0 p1 p2:Nt)(j:Nat)(hj:j<2)(ha:p0.form.parts.length=2):RC Tryz.prog 124 [ntD (.mk 10 c l t [p0,p1,p2]),iD (j+1)] [fmD (p0.form.parts.getD j (mkF 0 []))]:=by
 have hl:j<p0.form.parts.length:=by omega
 have hli:(j:Int)<(p0.form.parts.length:Int):=by omega
 have hw:IntKind.i64.wrap (((j:Int)+1)-1)=j:=by rw[za6 Yp Yp];omega
 have hat:=zee hl
 rw[zaa (p0.form.parts.getD j (mkF 0 []))]at hat
 generalize p0.form.parts.getD j (mkF 0 [])=G at hat⊢
 simp only[ntD,zbe,fmD,zaa c,zaa G,Qf,Qo]
 refine zbo Tryz.call124 Tryz.func124 rfl Yo (zao Yo) ?_
 simp -implicitDefEqProofs only[go_sem,Tryz.results124]
 simp -implicitDefEqProofs only[go_sem,zaj p0,hw,hli,hat,Qa,Int.toNat_natCast,Int.natCast_nonneg]
theorem zif (c:Fm)(l:Int)(t:Tm)(p0:Nt)(i:Int)(r:Int)(hr:r=11\/r=13)(ha:0<c.parts.length):RC Tryz.prog 124 [ntD (.mk r c l t [p0]),iD i] [fmD (c.parts.getD 0 (mkF 0 []))]:=by
 have hli:(0:Int)<(c.parts.length:Int):=by omega
 have hat:=zee ha
 rw[zaa (c.parts.getD 0 (mkF 0 []))]at hat
 generalize c.parts.getD 0 (mkF 0 [])=G at hat⊢
 simp only[ntD,zbe,fmD,zaa c,zaa G,Qf,Qo]
 rcases hr with rfl|rfl
 ·refine zbo Tryz.call124 Tryz.func124 rfl Yo (zao Yo) ?_;simp -implicitDefEqProofs only[go_sem,Tryz.results124];simp -implicitDefEqProofs only[go_sem,zaj p0,hli,hat,Qa]
 ·refine zbo Tryz.call124 Tryz.func124 rfl Yo (zao Yo) ?_;simp -implicitDefEqProofs only[go_sem,Tryz.results124];simp -implicitDefEqProofs only[go_sem,zaj p0,hli,hat,Qa]
theorem zpz (c:Fm)(l:Int)(t:Tm)(p0 p1:Nt)(i:Int)(ha:0<p0.form.parts.length)(S1:Fm)(S2:Bool)(HU:FC Tryz.prog 147 [fmD (p0.form.parts.getD 0 (mkF 0 [])),sD p0.form.var,tmD t] [fmD S1,bD S2]):RC Tryz.prog 124 [ntD (.mk 18 c l t [p0,p1]),iD i] [fmD S1]:=by
 have hli:(0:Int)<(p0.form.parts.length:Int):=by omega
 have hat:=zee ha
 rw[zaa (p0.form.parts.getD 0 (mkF 0 []))]at hat
 generalize p0.form.parts.getD 0 (mkF 0 [])=G at hat HU⊢
 simp only[ntD,zbe,tmD,zab t,fmD,zaa c,zaa G,zaa S1,Qf,Qo]at HU⊢
 refine zbo Tryz.call124 Tryz.func124 rfl Yo (zao Yo) ?_
 simp -implicitDefEqProofs only[go_sem,Tryz.results124]
 simp -implicitDefEqProofs only[go_sem,zaj p0,hli,hat,Qa]
 refine drawn Yo ?_
 simp -implicitDefEqProofs only[go_sem,hli,hat,Qa]
 refine zav (HU) (by simp -implicitDefEqProofs only[go_sem,hli,hat]) ?_
 simp -implicitDefEqProofs only[go_sem,hli,hat]
 kernel_rfl
end
section
open Go.RowKit
theorem zny (name:Str)(fs:List Fm)(hf:∀f∈fs,okF f):RC Tryz.prog 151 [sD name,.one (fmS fs)] [bD (!fs.any (frN name))]:=by
 have H:=za4 fs (frN name) 179 [.ptr [.str name]] fun f hm=>qbq name f (hf f hm)
 refine zbo Tryz.call151 Tryz.func151 rfl Yo (zao Yo) ?_
 simp -implicitDefEqProofs only[go_sem,Tryz.results151]
 refine callF (H) Yn ?_
 simp -implicitDefEqProofs only[go_sem]
theorem zo9 {α:Type}{xs ys:List α}(h:xs.Perm ys)(p:α->Bool):xs.any p=ys.any p:=by
 rw[Kl,List.any_eq_true,List.any_eq_true]
 exact⟨fun⟨x,h1,h2⟩=>⟨x,h.mem_iff.1 h1,h2⟩,fun⟨x,h1,h2⟩=>⟨x,h.mem_iff.2 h1,h2⟩⟩
theorem qm8 (c:Fm)(l:Int)(t:Tm)(p0:Nt)(ags:List An)(hl:ags.length<=1048576)(hc:okF c)(ha:∀a∈ags,okF a.form):FC Tryz.prog 125 [ntD (.mk 15 c l t [p0]),.one (anM ags)] [bD (!(ags.any (fun a=>frN t.name a.form)||frN t.name c))]:=by
 simp only[ntD,zbe,Qf,Qo]
 refine zad Tryz.call125 Tryz.func125 rfl Yo (zao Yo) ?_
 simp -implicitDefEqProofs only[go_sem,Tryz.results125]
 refine qsg [0,1,2,3,5,6,7] 4 [8,9,10] Yo Yo Yo ?_
 simp -implicitDefEqProofs only[go_sem,Qf,Qo,Q3,Qr]
 refine qjw Yn ?_
 simp -implicitDefEqProofs only[go_sem]
 refine qg5 (zo1 ags hl) Yn Yn Yo ?_
 rintro rows ⟨fs,rfl,hp⟩
 simp -implicitDefEqProofs only[go_sem]
 have hlf:fs.length<=4294967295:=by have:=hp.length_eq;rw[Qa]at this;omega
 have hm:∀f∈fs,okF f:=fun f hf=>by
  obtain⟨a,h1,rfl⟩:=Ka.1 (hp.mem_iff.1 hf);exact ha a h1
 have H:=zny t.name (fs++[c]) fun f hf=>by
  rcases Qm.1 hf with h|h
  ·exact hm f h
  ·rw[Qy.1 h];exact hc
 have hb:(!(fs++[c]).any (frN t.name))=(!(ags.any (fun a=>frN t.name a.form)||frN t.name c)):=by
  rw[List.any_append,zo9 hp,List.any_map,List.any_cons,List.any_nil,Yj];rfl
 rw[hb]at H
 simp only[fmS,Q2,Qf,Qo,zaa c]at H
 refine kApD false (by simp -implicitDefEqProofs only[go_sem,Qa,hlf]) ?_
 simp -implicitDefEqProofs only[go_sem]
 refine qla 416 H Yn ?_
 simp -implicitDefEqProofs only[go_sem]
 kernel_rfl
theorem qne (c:Fm)(l:Int)(t:Tm)(p0 p1:Nt)(ags:List An)(hl:ags.length<=1048576)(hc:okF c)(h0:okF p0.form)(ha:∀a∈ags,okF a.form):FC Tryz.prog 125 [ntD (.mk 18 c l t [p0,p1]),.one (anM ags)] [bD (!(ags.any (fun a=>frN t.name a.form)||(frN t.name c||frN t.name p0.form)))]:=by
 simp only[ntD,zbe,Qf,Qo]
 refine zad Tryz.call125 Tryz.func125 rfl Yo (zao Yo) ?_
 simp -implicitDefEqProofs only[go_sem,Tryz.results125]
 refine qsg [0,1,2,3,5,6,7,8,9,10,11,12] 4 [13,14,15] Yo Yo Yo ?_
 simp -implicitDefEqProofs only[go_sem,Qf,Qo,Q3,Qr,zaj p0]
 refine qjw Yn ?_
 simp -implicitDefEqProofs only[go_sem]
 refine qg5 (zo1 ags hl) Yn Yn Yo ?_
 rintro rows ⟨fs,rfl,hp⟩
 simp -implicitDefEqProofs only[go_sem]
 have hlf:fs.length<=4294967294:=by have:=hp.length_eq;rw[Qa]at this;omega
 have hm:∀f∈fs,okF f:=fun f hf=>by
  obtain⟨a,h1,rfl⟩:=Ka.1 (hp.mem_iff.1 hf);exact ha a h1
 have H:=zny t.name (fs++[c,p0.form]) fun f hf=>by
  rcases Qm.1 hf with h|h
  ·exact hm f h
  ·simp only[Qp,Ku,or_false]at h;rcases h with rfl|rfl
   ·exact hc
   ·exact h0
 have hb:(!(fs++[c,p0.form]).any (frN t.name))=(!(ags.any (fun a=>frN t.name a.form)||(frN t.name c||frN t.name p0.form))):=by
  rw[List.any_append,zo9 hp,List.any_map,List.any_cons,List.any_cons,List.any_nil,Yj];rfl
 rw[hb]at H
 simp only[fmS,Q2,Qf,Qo,zaa c,zaa p0.form]at H
 refine kApD false (by simp -implicitDefEqProofs only[go_sem,Qa,hlf]) ?_
 simp -implicitDefEqProofs only[go_sem]
 refine qla 800 H Yn ?_
 simp -implicitDefEqProofs only[go_sem]
 kernel_rfl
theorem qp5 (p:Nt)(ags:List An)(h1:p.rule≠15)(h2:p.rule≠18):FC Tryz.prog 125 [ntD p,.one (anM ags)] [bD true]:=by
 have e1:(p.rule==15)=false:=by simpa using h1
 have e2:(p.rule==18)=false:=by simpa using h2
 simp only[ntD,zaj p]
 refine zad Tryz.call125 Tryz.func125 rfl Yo (zao Yo) ?_
 simp -implicitDefEqProofs only[go_sem,Tryz.results125,e1,e2]
end
section
open Go.RowKit
variable {P:Program}
def RV1 (σ:St):V->D->Prop
 | .one (.cv (.map none)),.one .nmp=>True
 | .one c,.one t=>CT0 σ c t
 | .agg cs,.agg ts=>zri σ cs ts
 | _,_=>False
def RVm (σ:St):List V->List D->Prop
 | [],[]=>True
 | v::vs,d::ds=>RV1 σ v d/\RVm σ vs ds
 | _,_=>False
theorem RV1.rep {n0:Nat->Prop}{N:Nat}{σ:St}{g:Gh}{a:Act}{w:World}(hR:Rel n0 N σ g a w){v:V}{d:D}{u:Value}(h:RV1 σ v d)(hv:VR σ g w v u):zt2 w (fun b=>b<w.heap.size/\g.A0 b) d u:=by
 unfold RV1 at h
 split at h
 ·have hv:u=.map none:=hv;subst hv;show zas _ _ _ _
  unfold zas;rfl
 ·exact qwk hR h hv
 ·obtain⟨q,rfl,k1⟩:=hv;exact⟨q,rfl,qhj hR h k1⟩
 ·exact h.elim
theorem RVm.rep {n0:Nat->Prop}{N:Nat}{σ:St}{g:Gh}{a:Act}{w:World}(hR:Rel n0 N σ g a w):∀{vs:List V}{ds:List D},RVm σ vs ds->∀{us:List Value},VRl σ g w vs us->zbf w (fun b=>b<w.heap.size/\g.A0 b) ds us
 | [],[],_,us,hv=>hv
 | v::vs,d::ds,h,us,hv=>by
  obtain⟨u,us',rfl,k1,k2⟩:=hv;exact⟨u,us',rfl,h.1.rep hR k1,RVm.rep hR h.2 k2⟩
 | [],_::_,h,_,_=>h.elim
 | _::_,[],h,_,_=>h.elim
def PRM (P:Program)(rs:List ResultVar)(K:List D->Prop)(e:Exit)(σ:St):Prop:=(e=.normal\/e=.ret)/\∃res,K res/\zar (zbu P σ rs) fun vs=>RVm σ vs res
theorem zoj {f:FuncId}{fn:Func}{c:Code}{args:List D}{K:List D->Prop}(hc:zbb P f)(hf:P.funcs[f]?=some fn)(hb:fn.body=some c)(hN:(rd args).length<=fn.ntmps)
  (h:zb6 P fn.ntmps c (zc4 (rd args)) (PRM P fn.results.toList K)):RX P f args K:=by
 refine⟨hc,fun w vs A hv=>zwk hf hb hN h hv fun e σ' g' a' w' hq h2 h3 h4=>?_⟩
 obtain⟨he,res,hk,hr⟩:=hq
 obtain⟨us0,hvs,hr⟩:=zai hr
 obtain⟨us,r1,r2⟩:=zbr h2 fn hvs
 exact⟨he,_,r1,res,us,hk,rfl,(RVm.rep h2 hr r2).keep (fun _ _=>rfl) fun b hb=>⟨hb.1,h4 b hb.2⟩,h3⟩
theorem qun (σ:St):RVm σ [] []=True:=rfl
theorem qme (σ:St)(v:V)(vs:List V)(d:D)(ds:List D):RVm σ (v::vs) (d::ds)=(RV1 σ v d/\RVm σ vs ds):=rfl
theorem RV1_nm (σ:St):RV1 σ (.one (.cv (.map none))) (.one .nmp)=True:=rfl
theorem RV1_t (σ:St)(x:T)(t:T):RV1 σ (.one (.t x)) (.one t)=CT0 σ (.t x) t:=by cases t<;>rfl
theorem RV1_rn (σ:St)(x:T)(t:T):RV1 σ (.one (.rn x)) (.one t)=CT0 σ (.rn x) t:=by cases t<;>rfl
theorem RV1_ow (σ:St)(e n:Nat)(t:T):RV1 σ (.one (.ow e n)) (.one t)=CT0 σ (.ow e n) t:=by cases t<;>rfl
theorem RV1_nl (σ:St)(z:Nat)(t:T):RV1 σ (.one (.nl z)) (.one t)=CT0 σ (.nl z) t:=by cases t<;>rfl
attribute [go_sem] PRM qun qme RV1_nm RV1_t RV1_rn RV1_ow RV1_nl
end
section
open Go.RowKit
def zeo (ags:List An)(k:Int):Option Fm:=(ags.find? fun a=>a.label==k).map An.form
def aNd (ags:List An):Prop:=(ags.map An.label).Nodup
theorem zhe (k:Int):∀ags:List An,zch (.int .i64 k) (ags.map anC)=some ((zeo ags k).map fmC)
 | []=>rfl
 | p::ps=>by
  have ih:=zhe k ps;show zch (.int .i64 k) ((.int .i64 p.label::[.int .i64 p.form.op,.str p.form.atom.name,.sl 2 (p.form.atom.args.map tmC),.str p.form.var,.sl 5 (p.form.parts.map fmC)])::ps.map anC)=_
  unfold zch;rw[show zu0 (.int .i64 k) (.int .i64 p.label)=some (decide (k=p.label)) from rfl];unfold zeo at ih⊢;rw[List.find?_cons];by_cases h:k=p.label
  ·subst h;simp[zaa p.form]
  ·have h2:(p.label==k)=false:=by simpa using fun e=>h e.symm
   rw[decide_eq_false h,h2];exact ih
theorem zq0 {ags:List An}{k:Int}{f:Fm}(h:zeo ags k=some f):∃a∈ags,a.label=k/\a.form=f:=by
 unfold zeo at h
 cases hf:ags.find? fun a=>a.label==k with
 | none=>rw[hf]at h;cases h
 | some a =>
  rw[hf]at h;exact⟨a,List.mem_of_find?_eq_some hf,by simpa using List.find?_some hf,by simpa using h⟩
theorem zfs {ags:List An}{k:Int}:zeo ags k=none↔∀a∈ags,a.label≠k:=by
 unfold zeo
 rw[Option.map_eq_none_iff,List.find?_eq_none]
 simp
theorem qj9 {ags:List An}(hn:aNd ags){a:An}(h:a∈ags):zeo ags a.label=some a.form:=by
 induction ags with
 | nil=>cases h
 | cons b ags ih =>
  unfold aNd at hn;rw[Qf,Kp]at hn;unfold zeo;rw[List.find?_cons];rcases Qp.1 h with rfl|h
  ·simp
  ·have hne:(b.label==a.label)=false:=by
    rw[Jj];exact fun e=>hn.1 (e▸Jt h)
   rw[hne];exact ih hn.2 h
theorem zfh {x y:List An}(h:x.Perm y)(hn:aNd x):aNd y:=(h.map An.label).nodup_iff.1 hn
theorem zfr {x y:List An}(h:x.Perm y)(hn:aNd x)(k:Int):zeo x k=zeo y k:=by
 cases hx:zeo x k with
 | none =>
  rw[zfs]at hx;exact(zfs.2 fun a ha=>hx a (h.mem_iff.2 ha)).symm
 | some f =>
  obtain⟨a,h1,rfl,rfl⟩:=zq0 hx;exact(qj9 (zfh h hn) (h.mem_iff.1 h1)).symm
theorem zj3 {x:List An}(hn:aNd x)(p:An->Bool):aNd (x.filter p):=hn.sublist (List.Sublist.map _ (List.filter_sublist ..))
def lft (own:List An)(l:Int)(d:Bool):List An:=own.filter fun a=>!(a.label==l&&d)
noncomputable def zv6 (own:List An)(l:Int)(d:Bool)(f:Fm):Bool:=own.all fun a=>!(a.label==l&&d)||same a.form f
noncomputable def zrj (out left:List An):Bool:=left.all fun a=>match zeo out a.label with|some f=>same f a.form|none=>true
def mrg (out left:List An):List An:=out++left.filter fun a=>(zeo out a.label).isNone
theorem qni (x y:List An)(k:Int):zeo (x++y) k=(zeo x k).or (zeo y k):=by
 unfold zeo
 rw[List.find?_append]
 cases x.find? fun a=>a.label==k<;>rfl
theorem qmx {out acc:List An}{a:An}(h:∀b∈acc,b.label≠a.label):zeo (mrg out acc) a.label=zeo out a.label:=by
 unfold mrg
 rw[qni,show zeo (acc.filter fun a=>(zeo out a.label).isNone) a.label=none from zfs.2 fun b hb=>h b (Ju.1 hb).1]
 cases zeo out a.label<;>rfl
theorem qn8 {out acc:List An}{a:An}(h:zeo out a.label=none):mrg out (acc++[a])=mrg out acc++[a]:=by
 unfold mrg
 rw[List.filter_append,Jm,h]
 simp
theorem qns {out acc:List An}{a:An}{f:Fm}(h:zeo out a.label=some f):mrg out (acc++[a])=mrg out acc:=by
 unfold mrg
 rw[List.filter_append,Jm,h]
 simp
theorem zjo {α:Type}{x y:List α}(h:x.Perm y){p q:α->Bool}(hpq:∀a∈y,p a=q a):(x.filter p).Perm (y.filter q):=by
 rw[<-List.filter_congr hpq]
 exact h.filter p
theorem zyg {out out' left left':List An}(h1:out'.Perm out)(hn:aNd out')(h2:left'.Perm left):(mrg out' left').Perm (mrg out left):=by
 unfold mrg
 exact h1.append (zjo h2 fun a _=>by rw[zfr h1 hn])
theorem qrf {out left:List An}(h1:aNd out)(h2:aNd left):aNd (mrg out left):=by
 unfold mrg aNd
 rw[Q2,Q8]
 refine⟨h1,zj3 h2 _,fun k hk j hj e=>?_⟩
 subst e
 obtain⟨a,ha,rfl⟩:=Ka.1 hk
 obtain⟨b,hb,he⟩:=Ka.1 hj
 have:=(Ju.1 hb).2
 rw[he,qj9 h1 ha]at this
 cases this
theorem qsr {out out' left left':List An}(h1:out'.Perm out)(hn:aNd out')(h2:left'.Perm left){a:An}(ha:a∈left'){f:Fm}(hf:zeo out' a.label=some f)(hs:same f a.form=false):zrj out left=false:=by
 unfold zrj
 rw[J9]
 refine⟨a,h2.mem_iff.1 ha,?_⟩
 rw[<-zfr h1 hn,hf]
 simp[hs]
theorem qo1 {out out' left left':List An}(h1:out'.Perm out)(hn:aNd out')(h2:left'.Perm left)(h:∀a∈left',∀f,zeo out' a.label=some f->same f a.form=true):zrj out left=true:=by
 unfold zrj
 rw[Qx]
 intro a ha
 rw[<-zfr h1 hn]
 cases hf:zeo out' a.label with
 | none=>rfl
 | some f=>exact h a (h2.mem_iff.2 ha) f hf
noncomputable def opM (l:Int)(d:Nat->Bool)(dis:Nat->Fm):Nat->List An->List (List An)->Option (List An)
 | _,out,[]=>some out
 | i,out,own::Ls=>if(zv6 own l (d i) (dis i)&&zrj out (lft own l (d i)))=true then opM l d dis (i+1) (mrg out (lft own l (d i))) Ls else none
end
section
open Go.RowKit
variable {P:Program}{N:Nat}
def jnW (τ:St)(Q:Exit->St->Prop)(e:Exit)(σ:St):Prop:=match e with|.normal=>Wk σ τ|e=>Q e σ
theorem qbw (τ:St)(Q:Exit->St->Prop)(σ:St):jnW τ Q .normal σ=Wk σ τ:=rfl
theorem qtt (τ:St)(Q:Exit->St->Prop)(σ:St):jnW τ Q .ret σ=Q .ret σ:=rfl
theorem zb6.join {c rest:Code}{σ:St}{Q:Exit->St->Prop}(τ:St)(hd:zc2 N c=true)(h:ex P c [] (jnW τ Q) σ)(k:zb6 P N rest τ Q):zb6 P N (.seq c rest) σ Q:=by
 refine zb6.seq (zb6.mono (fun e σ' q=>?_) (zb6.ofEx hd h))
 cases e with
 | normal=>exact zb6.wkS q k
 | exit i=>exact q
 | goto l=>exact q
 | ret=>exact q
 | panic ch=>exact q
 | outgrown=>exact q
theorem zbq.join {c rest:Code}{σ:St}{H:Hid}{Q:Exit->St->Hid->Prop}(τ:St)(hd:zc2 N c=true)(h:ex P c [] (jnW τ (fun e σ=>Q e σ H)) σ)(k:zbq P N rest τ H Q):zbq P N (.seq c rest) σ H Q:=by
 refine zbq.seq (zbq.mono (Q:=fun e σ' r=>r=H/\jnW τ (fun e σ=>Q e σ H) e σ') (fun e σ' r q=>?_) (zbq.ofEx hd (zdo (fun e σ' k=>⟨rfl,k⟩) h)))
 obtain⟨rfl,q⟩:=q
 cases e with
 | normal=>exact zbq.wkS q k
 | exit i=>exact q
 | goto l=>exact q
 | ret=>exact q
 | panic ch=>exact q
 | outgrown=>exact q
attribute [go_sem] qbw qtt
end
section
open Go.RowKit
section
variable {P:Program}{N:Nat}{ops:Array Oper}{i:Nat}{σ:St}{H:Hid}{K:St->Hid->Prop}{ty:TypeId}{ps:String}{af:Array Edge}{mt:TypeId}{x k:Operand}
theorem zby.lookN {d:Nat}(j:Nat)(y:V){b:Nat}{ag:Bool}{rows:List (List T)}{kT:T}(dd:TypeDesc)(et:TypeId)(hl:ops[i]?=some ⟨some d,.lookup mt x k true,ty,ps,af,none⟩)(hd:d<N)(h1:H[j]?=some (b,.mp ag rows))(h2:σ.get P 0 x=.one (.cv (.map (some b))))(h3:σ.get P 0 k=.one (.t kT))
  (h4:qlz P mt=some (dd,et)) (h5:zuo dd kT=true) (h6:zch kT rows=some none) (hz:qsp P et=some y) (kk:zby P N ops (i+1) (σ.put (some d) y) H K):zby P N ops i σ H K:=by
 refine zby.look j hl hd ?_
 unfold lkH
 rw[h1,h2,h3,h4]
 refine⟨rfl,h5,?_⟩
 rw[h6]
 show zar (qsp P et) _
 rw[hz]
 exact kk
end
abbrev lsS (Ls:List (List An)):T:=.sl 1 (Ls.map fun ags=>[anM ags])
def ntR (a:Nt):List C:=[.t (.int .i64 a.rule),.t (.int .i64 a.form.op),.t (.str a.form.atom.name),.rn (tmS a.form.atom.args),.t (.str a.form.var),.rn (fmS a.form.parts),.t (.int .i64 a.label),.t (.str a.term.name),.rn (tmS a.term.args),.rn (ntS a.parts)]
def fmR (a:Fm):List C:=[.t (.int .i64 a.op),.t (.str a.atom.name),.rn (tmS a.atom.args),.t (.str a.var),.rn (fmS a.parts)]
attribute [go_sem] ntR fmR
def zfe (p:Nt)(Ls:List (List An)):Nat->List An
 | 0=>[]
 | i+1=>lft (Ls.getD i []) p.label (zbh p.rule i)
noncomputable def opN (p:Nt)(Ls:List (List An))(dis:Nat->Fm)(i:Nat)(out:List An):Option (List An):=opM p.label (fun i=>zbh p.rule i) dis i out (Ls.drop i)
def opK (p:Nt)(Ls:List (List An))(dis:Nat->Fm)(nw:Bool)(res:List D):Prop:=(opN p Ls dis 0 []=none/\res=[.one .nmp,bD false])\/∃out ags,opN p Ls dis 0 []=some out/\aNd out/\ags.Perm out/\res=[.one (anM ags),bD nw]
theorem qpe {p:Nt}{Ls:List (List An)}{dis:Nat->Fm}{i:Nat}{out:List An}(h:i<Ls.length):opN p Ls dis i out=if(zv6 Ls[i] p.label (zbh p.rule i) (dis i)&&zrj out (lft Ls[i] p.label (zbh p.rule i)))=true then opN p Ls dis (i+1) (mrg out (lft Ls[i] p.label (zbh p.rule i)))else none:=by
 unfold opN
 rw[Qh h,opM]
theorem zwd {p:Nt}{Ls:List (List An)}{i:Nat}(h:i<Ls.length):zfe p Ls (i+1)=lft Ls[i] p.label (zbh p.rule i):=by
 show lft (Ls.getD i []) p.label (zbh p.rule i)=_
 rw[List.getD_eq_getElem?_getD,List.getElem?_eq_getElem h];rfl
theorem qt6 (p:Nt)(Ls:List (List An))(s1:zbg p.rule=p.parts.length)(s2:p.form.good=true)(s3:zei p.rule=inB p.label 1 20)(s4:zei p.rule=false->p.label=0)(hw:Fit p)
  (s5:(if inB p.rule 15 18=true then p.term.good else p.term.none)=true) (HSh:FC Tryz.prog 122 [ntD p] [bD true]) (h1:(p.rule==1)=false)
  (dis:Nat->Fm) (HD:∀i:Nat,i<Ls.length->zbh p.rule i=true->RC Tryz.prog 124 [ntD p,iD i] [fmD (dis i)]) (hnd:∀own∈Ls,aNd own) (hLl:Ls.length<=1048576)
  (nw:Bool) (HN:∀left',left'.Perm (zfe p Ls Ls.length)->FC Tryz.prog 125 [ntD p,.one (anM left')] [bD nw]):RX Tryz.prog 94 [ntD p,.one (lsS Ls)] (opK p Ls dis nw):=by
 have hfw:p.form.wt<=1048576:=by have:=hw.own;omega
 have htw:p.term.wt<=1048576:=by have:=hw.own;omega
 have HP:=zfl p.rule
 have HV:=zce p.form Yp
 have HL:=zjt p.rule
 have HW:=zf5 p.label 1 20
 have HT:=zm8 p.rule
 have HVT:=zdy p.term Yp
 have HZ:=zb0 p.term
 rw[s1]at HP
 rw[s2]at HV
 rw[<-s3]at HW
 have e1:(((p.parts.length:Nat):Int) != ((p.parts.length:Nat):Int))=false:=by simp
 have btt:(true != true)=false:=rfl
 have bff:(false != false)=false:=rfl
 simp only[ntD,fmD,tmD,zaj p,zaa p.form,zab p.term]at HV HVT HZ HSh⊢
 refine zoj Tryz.call94 Tryz.func94 rfl (zao Yo) ?_
 refine zb6.cut 0 rfl Yo ?_
 simp -implicitDefEqProofs only[go_sem,Tryz.results94]
 refine zb6.join (hd [(1,.one (.rn (lsS Ls))),(2,.one (.bx 2 0))] [(2,ntR p)] []) Yo ?_ ?_
 ·simp -implicitDefEqProofs only[go_sem];refine drawn Yo ?_;cases hlab:zei p.rule
  ·have e2:(p.label != 0)=false:=by simpa using s4 hlab
   rw[hlab]at HL HW;simp -implicitDefEqProofs only[go_sem];refine zav (HP) (by simp -implicitDefEqProofs only[go_sem,e1]) ?_;simp -implicitDefEqProofs only[go_sem,e1];refine zaz (HV) (by simp -implicitDefEqProofs only[go_sem,e1,Qb]) ?_;simp -implicitDefEqProofs only[go_sem,e1,Qb];refine zaz (HL) (by simp -implicitDefEqProofs only[go_sem,Qb]) ?_;simp -implicitDefEqProofs only[go_sem,Qb];refine zaz (HW) (by simp -implicitDefEqProofs only[go_sem,bff,Qw,Qb]) ?_;simp -implicitDefEqProofs only[go_sem,bff,Qw,Qb];refine zaz (HL) (by simp -implicitDefEqProofs only[go_sem,Qg,e2]) ?_;simp -implicitDefEqProofs only[go_sem,Qg,e2];refine⟨Yo,zac ?_⟩;simp -implicitDefEqProofs only[go_sem]
  ·rw[hlab]at HL HW;simp -implicitDefEqProofs only[go_sem];refine zav (HP) (by simp -implicitDefEqProofs only[go_sem,e1]) ?_;simp -implicitDefEqProofs only[go_sem,e1];refine zaz (HV) (by simp -implicitDefEqProofs only[go_sem,e1,Qb]) ?_;simp -implicitDefEqProofs only[go_sem,e1,Qb];refine zaz (HL) (by simp -implicitDefEqProofs only[go_sem,Qb]) ?_;simp -implicitDefEqProofs only[go_sem,Qb];refine zaz (HW) (by simp -implicitDefEqProofs only[go_sem,btt,Qw,Qb]) ?_;simp -implicitDefEqProofs only[go_sem,btt,Qw,Qb];refine zaz (HL) (by simp -implicitDefEqProofs only[go_sem,Qb]) ?_;simp -implicitDefEqProofs only[go_sem,Qb];refine⟨Yo,zac ?_⟩;simp -implicitDefEqProofs only[go_sem]
 refine zb6.join (hd [(1,.one (.rn (lsS Ls))),(2,.one (.bx 2 0))] [(2,ntR p)] []) Yo ?_ ?_
 ·cases hte:inB p.rule 15 18
  ·rw[hte]at HT;rw[hte,if_neg (by simp)]at s5;rw[s5]at HZ;simp -implicitDefEqProofs only[go_sem];refine callF (HT) (by simp -implicitDefEqProofs only[go_sem,Qb,Qg]) ?_;simp -implicitDefEqProofs only[go_sem,Qb,Qg];refine callF (HT) (by simp -implicitDefEqProofs only[go_sem,Qb,Qg]) ?_;simp -implicitDefEqProofs only[go_sem,Qb,Qg];refine callF (HZ) (by simp -implicitDefEqProofs only[go_sem,Qb,Qg]) ?_;simp -implicitDefEqProofs only[go_sem,Qb,Qg];refine callF (HSh) (by simp -implicitDefEqProofs only[go_sem,Qb,Qg]) ?_;simp -implicitDefEqProofs only[go_sem,Qb,Qg];refine zac ?_;simp -implicitDefEqProofs only[go_sem]
  ·rw[hte]at HT;rw[hte,if_pos rfl]at s5;rw[s5]at HVT;simp -implicitDefEqProofs only[go_sem];refine callF (HT) (by simp -implicitDefEqProofs only[go_sem,Qb,Qg]) ?_;simp -implicitDefEqProofs only[go_sem,Qb,Qg];refine callF (HVT) (by simp -implicitDefEqProofs only[go_sem,Qb,Qg]) ?_;simp -implicitDefEqProofs only[go_sem,Qb,Qg];refine callF (HT) (by simp -implicitDefEqProofs only[go_sem,Qb,Qg]) ?_;simp -implicitDefEqProofs only[go_sem,Qb,Qg];refine callF (HSh) (by simp -implicitDefEqProofs only[go_sem,Qb,Qg]) ?_;simp -implicitDefEqProofs only[go_sem,Qb,Qg];refine zac ?_;simp -implicitDefEqProofs only[go_sem]
 refine zb6.join (hd [(1,.one (.rn (lsS Ls))),(2,.one (.bx 2 0))] [(2,ntR p)] []) Yo ?_ ?_
 ·simp -implicitDefEqProofs only[go_sem,h1];refine zac ?_;simp -implicitDefEqProofs only[go_sem]
 refine zb6.hide ?_
 refine zbq.seq (zbq.region (zby.make true rfl (by simp only[Tryz.ntmps94];omega) fun bo _=>?_))
 refine zby.plain 1 (by decide) rfl Yo ?_
 simp -implicitDefEqProofs only[go_sem]
 refine zby.done rfl ?_
 simp -implicitDefEqProofs only[go_sem]
 refine zbq.seq (zbq.region (zby.make true rfl (by simp only[Tryz.ntmps94];omega) fun bl0 hbl0=>?_))
 refine zby.plain 1 (by decide) rfl Yo ?_
 simp -implicitDefEqProofs only[go_sem]
 refine zby.done rfl ?_
 simp -implicitDefEqProofs only[go_sem]
 refine zbq.seq ?_
 refine zbq.cut 0 rfl Yo ?_
 simp -implicitDefEqProofs only[go_sem,Qa]
 refine zbq.block ?_
 refine zbq.loop (fun x:Nat×List An×List An×Nat=>hd [(2,.one (.bx 2 0)),(6,.one (.cv (.map (some bo)))),(7,.one (.cv (.map (some x.2.2.2)))),(86,.one (.rn (lsS Ls))),(87,vI Ls.length),(88,vI x.1)] [(2,ntR p)] [])
  (fun x=>[(x.2.2.2,.mp true (x.2.2.1.map anC)),(bo,.mp true (x.2.1.map anC))])
  (fun x=>x.1<=Ls.length/\∃out,opN p Ls dis 0 []=opN p Ls dis x.1 out/\x.2.1.Perm out/\aNd out/\x.2.2.1.Perm (zfe p Ls x.1))
  (fun x=>Ls.length-x.1) (0,[],[],bl0) (zac ?_) (Jo _) ⟨Kd _,[],rfl,Jn _,Kn,Jn _⟩ ?_
 ·simp -implicitDefEqProofs only[go_sem]
 rintro⟨i,out',left',bl⟩ ⟨hi,out,ho,hp,hon,hlf⟩
 simp only at hi ho hp hlf⊢
 have hni2:∀b c d:Nat×Ob,∀x,(∃r,c.2=.mp true r)->(∃r,d.2=.mp true r)->qcv x [c,d]:=fun b c d x ⟨r,hr⟩ ⟨r2,hr2⟩ q hq s ag l la he=>by
  simp only[Qp,Ku,or_false]at hq;rcases hq with rfl|rfl
  ·rw[hr]at he;cases he
  ·rw[hr2]at he;cases he
 by_cases hlt:i<Ls.length
 ·refine zbq.cut 1 rfl Yo ?_;simp -implicitDefEqProofs only[go_sem,hlt];refine zbq.seq ?_;refine zbq.block ?_;refine zbq.cut 0 rfl Yo ?_;simp -implicitDefEqProofs only[go_sem,zan,hlt,Qa];have hmem:Ls[i]∈Ls:=Qj hlt;have hown:=hnd _ hmem;have hstep:=qpe (p:=p) (dis:=dis) (out:=out) hlt;have hls:=zwd (p:=p) hlt;have HDi:=HD i hlt;generalize Ls[i]=own at hmem hown hstep hls⊢;refine zbq.seq (zbq.region (zby.make true rfl (by simp only[Tryz.ntmps94];omega) fun b' hb'=>?_));have hbb:b'≠bo:=fun e=>hb' (bo,.mp true (out'.map anC)) (by simp) e.symm;refine zby.plain 1 (by decide) rfl Yo ?_;simp -implicitDefEqProofs only[go_sem];refine zby.done rfl ?_;simp -implicitDefEqProofs only[go_sem];refine zbq.seq ?_;refine zbq.seq (zbq.region (zby.plain 1 (by decide) rfl Yo ?_));simp -implicitDefEqProofs only[go_sem];refine zby.range true (own.map anC) rfl (by simp only[Tryz.ntmps94];omega) Yo Yn ?_;intro bi src hbi hsrc hsb;have hs1:src≠b':=hsrc (b',.mp true []) (by simp);have hs2:src≠bo:=hsrc (bo,.mp true (out'.map anC)) (by simp);refine zby.done rfl ?_;simp -implicitDefEqProofs only[go_sem];refine zbq.block ?_;refine zbq.loop (fun x:List An×List An×Option An=>hd [(2,.one (.bx 2 0)),(6,.one (.cv (.map (some bo)))),(7,.one (.cv (.map (some b')))),(8,vI i),(86,.one (.rn (lsS Ls))),(87,vI Ls.length),(88,vI i),(95,.one (.cv (.pointer (some ⟨bi,0,none⟩))))] [(2,ntR p)] [])
   (fun x=>[(bi,.it src true (x.1.map anC) (x.2.2.map anC)),(b',.mp true ((lft x.2.1 p.label (zbh p.rule i)).map anC)),(bo,.mp true (out'.map anC))])
   (fun x=>(x.2.1++x.1).Perm own/\zv6 x.2.1 p.label (zbh p.rule i) (dis i)=true)
   (fun x=>x.1.length) (own,[],none) (zac ?_) (List.Sublist.cons_cons _ (List.Sublist.cons_cons _ (List.Sublist.cons _ (Jo _)))) ⟨by simp,rfl⟩ ?_
  ·simp -implicitDefEqProofs only[go_sem]
  rintro⟨rem,acc,last⟩ ⟨hpa,hda⟩;simp only at hpa hda⊢;have hni:∀(x:Nat) (r1:List (List T)) (l1:Option (List T)) (r2 r3:List (List T)),src≠x->qcv x [(bi,.it src true r1 l1),(b',.mp true r2),(bo,.mp true r3)]:=fun x r1 l1 r2 r3 hx q hq s ag l la he=>by
   simp only[Qp,Ku,or_false]at hq;rcases hq with rfl|rfl|rfl
   ·simp only[Ob.it.injEq]at he;rw[<-he.1];exact hx
   ·cases he
   ·cases he
  refine zbq.seq (zbq.region ?_);refine zby.next 0 rfl rfl (by simp only[Tryz.ntmps94];omega) Yn (hni _ _ _ _ _ hsb) (fun _ _=>Or.inl rfl) (fun hnil=>?_) (fun m r hm=>?_)
  ·refine zby.plain 1 (by decide) rfl Yo ?_;simp -implicitDefEqProofs only[go_sem];refine zby.done rfl ?_;simp -implicitDefEqProofs only[go_sem];refine zbq.cut 0 rfl Yo ?_;simp -implicitDefEqProofs only[go_sem];have hrem:rem=[]:=by simpa using hnil
   subst hrem;rw[Kh]at hpa;have hna:aNd acc:=zfh hpa.symm hown;have hlo:(lft acc p.label (zbh p.rule i)).Perm (lft own p.label (zbh p.rule i)):=hpa.filter _;have hnl:aNd (lft acc p.label (zbh p.rule i)):=zj3 hna _;have hdo:zv6 own p.label (zbh p.rule i) (dis i)=true:=by
    unfold zv6 at hda⊢;rw[Qx]at hda⊢;exact fun a ha=>hda a (hpa.mem_iff.2 ha)
   have hno':aNd out':=zfh hp.symm hon;rw[hdo,Qs]at hstep;generalize lft acc p.label (zbh p.rule i)=left2 at hlo hnl⊢;generalize lft own p.label (zbh p.rule i)=left1 at hlo hstep hls;refine zbq.seq (zbq.region (zby.plain 1 (by decide) rfl Yo ?_));simp -implicitDefEqProofs only[go_sem];refine zby.rangeH 1 rfl rfl (by simp only[Tryz.ntmps94];omega) Yo Yn fun b2 hb2=>zby.done rfl ?_;have hs3:b'≠b2:=hb2 (b',.mp true (left2.map anC)) (by simp);simp -implicitDefEqProofs only[go_sem];refine zbq.block ?_;refine zbq.loop (fun x:List An×List An×Option An=>hd [(2,.one (.bx 2 0)),(6,.one (.cv (.map (some bo)))),(7,.one (.cv (.map (some b')))),(86,.one (.rn (lsS Ls))),(87,vI Ls.length),(88,vI i),(121,.one (.cv (.pointer (some ⟨b2,0,none⟩))))] [(2,ntR p)] [])
    (fun x=>[(b2,.it b' true (x.1.map anC) (x.2.2.map anC)),(b',.mp true (left2.map anC)),(bo,.mp true ((mrg out' x.2.1).map anC))])
    (fun x=>(x.2.1++x.1).Perm left2/\∀a∈x.2.1,∀f,zeo out' a.label=some f->same f a.form=true)
    (fun x=>x.1.length) (left2,[],none) (zac ?_) ?_ ⟨by simp,by simp⟩ ?_
   ·simp -implicitDefEqProofs only[go_sem]
   ·rw[show mrg out' []=out' from by simp[mrg]];exact List.Sublist.cons_cons _ (List.Sublist.cons _ (Jo _))
   rintro⟨rem,acc2,last2⟩ ⟨hpa2,hsa⟩;simp only at hpa2 hsa⊢;have hni3:∀(x:Nat) (r1:List (List T)) (l1:Option (List T)) (r2 r3:List (List T)),b'≠x->qcv x [(b2,.it b' true r1 l1),(b',.mp true r2),(bo,.mp true r3)]:=fun x r1 l1 r2 r3 hx q hq s ag l la he=>by
    simp only[Qp,Ku,or_false]at hq;rcases hq with rfl|rfl|rfl
    ·simp only[Ob.it.injEq]at he;rw[<-he.1];exact hx
    ·cases he
    ·cases he
   refine zbq.seq (zbq.region ?_);refine zby.next 0 rfl rfl (by simp only[Tryz.ntmps94];omega) Yn (hni3 _ _ _ _ _ hs3) (fun _ _=>Or.inl rfl) (fun hnil=>?_) (fun m r hm=>?_)
   ·refine zby.plain 1 (by decide) rfl Yo ?_;simp -implicitDefEqProofs only[go_sem];refine zby.done rfl ?_;simp -implicitDefEqProofs only[go_sem];refine zbq.cut 0 rfl Yo ?_;simp -implicitDefEqProofs only[go_sem];have hrem:rem=[]:=by simpa using hnil
    subst hrem;rw[Kh]at hpa2;refine zbq.ofEx Yo ?_;simp -implicitDefEqProofs only[go_sem];rw[zap Yp];have hmc:zrj out left1=true:=qo1 hp hno' (hpa2.trans hlo) hsa;refine⟨(i+1,mrg out' acc2,left2,b'),⟨hlt,mrg out left1,?_,zyg hp hno' (hpa2.trans hlo),qrf hon (zfh hlo hnl),?_⟩,by simp only;omega,List.Sublist.cons _ (Jo _),zac ?_⟩
    ·rw[ho,hstep,hmc,if_pos rfl]
    ·rw[hls];exact hlo
    ·simp -implicitDefEqProofs only[go_sem]
   ·obtain⟨a,ha,rfl⟩:∃a,rem[m]?=some a/\r=anC a:=by
     rw[List.getElem?_map]at hm;cases h:rem[m]? with
     | none=>rw[h]at hm;cases hm
     | some a=>rw[h]at hm;exact⟨a,rfl,by simpa using hm.symm⟩
    have hel:=zg8 ha;have hrm:a∈rem:=List.mem_of_getElem? ha;have hpa3:((acc2++[a])++rem.eraseIdx m).Perm left2:=by
     refine List.Perm.trans ?_ hpa2;rw[Kf];exact List.Perm.append_left acc2 (Perm.erase_at ha)
    have hne:∀b∈acc2,b.label≠a.label:=fun b hb he=>by
     have hn:aNd (acc2++rem):=zfh hpa2.symm hnl;unfold aNd at hn;rw[Q2,Q8]at hn;exact hn.2.2 _ (Jt hb) _ (Jt hrm) he
    have hfr:zch (.int .i64 a.label) ((mrg out' acc2).map anC)=some ((zeo out' a.label).map fmC):=by rw[zhe,qmx hne]
    have hal:a∈left2:=hpa3.mem_iff.1 (by simp);refine zby.plain 1 (by decide) rfl Yo ?_;simp -implicitDefEqProofs only[go_sem];refine zby.done rfl ?_;refine zbq.cut 0 rfl Yo ?_;simp -implicitDefEqProofs only[go_sem];refine zbq.block ?_;refine zbq.seq (zbq.region (zby.entry 0 rfl rfl (by simp only[Tryz.ntmps94];omega) Yn ?_));refine zby.plain 5 (by decide) rfl Yo ?_;simp -implicitDefEqProofs only[go_sem];refine zby.done rfl ?_;simp -implicitDefEqProofs only[go_sem];refine zbq.seq (zbq.seq (zbq.region (zby.plain 2 (by decide) rfl Yo ?_)));simp -implicitDefEqProofs only[go_sem];have hz:qsp Tryz.prog 38=some (.tup [(true,[.t (.int .i64 0),.t (.str []),.nl 2,.t (.str []),.nl 5]),(false,[.t (.bool false)])]):=by kernel_rfl
    cases hg:zeo out' a.label with
    | none =>
     rw[hg]at hfr;refine zby.lookN 2 _ (.int .i64) 38 rfl (by simp only[Tryz.ntmps94];omega) rfl Yn Yn Yo rfl hfr hz ?_;refine zby.plain 6 (by decide) rfl Yo ?_;simp -implicitDefEqProofs only[go_sem];refine zby.done rfl ?_;simp -implicitDefEqProofs only[go_sem];refine zbq.ofEx Yo ?_;simp -implicitDefEqProofs only[go_sem];refine zbq.region (zby.plain 3 (by decide) rfl Yo ?_);simp -implicitDefEqProofs only[go_sem];refine zby.upd 2 rfl ?_;simp -implicitDefEqProofs only[go_sem,Tryz.underlying82,Tryz.underlying3,List.getElem?_cons_succ,List.getElem?_cons_zero,hfr,Jy];refine Or.inl ⟨hni3 _ _ _ _ _ hbb,zby.done rfl ?_⟩;simp -implicitDefEqProofs only[go_sem];refine⟨(rem.eraseIdx m,acc2++[a],some a),⟨hpa3,fun x hx f hf=>?_⟩,by simp only;omega,?_,zac ?_⟩
     ·rcases Qm.1 hx with h|h
      ·exact hsa x h f hf
      ·rw[Qy.1 h,hg]at hf;cases hf
     ·simp only[qn8 hg,Q2,Qf,Qo,zcb a,zdl,Q7];exact Jo _
     ·simp -implicitDefEqProofs only[go_sem]
    | some f =>
     rw[hg,Q7,zaa f]at hfr;have HE:=zbm f a.form;simp only[fmD,zaa f,zaa a.form]at HE;refine zby.look 2 rfl (by simp only[Tryz.ntmps94];omega) ?_;simp -implicitDefEqProofs only[go_sem,Tryz.underlying82,Tryz.underlying3,List.getElem?_cons_succ,List.getElem?_cons_zero,hfr];refine zby.plain 6 (by decide) rfl Yo ?_;simp -implicitDefEqProofs only[go_sem];refine zby.done rfl ?_;simp -implicitDefEqProofs only[go_sem];refine zbq.ofEx Yo ?_;simp -implicitDefEqProofs only[go_sem];cases hs:same f a.form
     ·rw[hs]at HE;refine callF (HE) (by simp -implicitDefEqProofs only[go_sem,Qg]) ?_;simp -implicitDefEqProofs only[go_sem,Qg];refine⟨[.one .nmp,bD false],Or.inl ⟨?_,rfl⟩,by simp -implicitDefEqProofs only[go_sem]⟩;rw[ho,hstep,qsr hp hno' hlo hal hg hs,if_neg (by simp)]
     ·rw[hs]at HE;refine callF (HE) (by simp -implicitDefEqProofs only[go_sem,Qb]) ?_;simp -implicitDefEqProofs only[go_sem,Qb];obtain rfl:=zbj.1 hs;refine zbq.region (zby.plain 3 (by decide) rfl Yo ?_);simp -implicitDefEqProofs only[go_sem];refine zby.upd 2 rfl ?_;simp -implicitDefEqProofs only[go_sem,Tryz.underlying82,Tryz.underlying3,List.getElem?_cons_succ,List.getElem?_cons_zero,hfr];refine Or.inr ⟨hni3 _ _ _ _ _ hbb,zby.done rfl ?_⟩;simp -implicitDefEqProofs only[go_sem];refine⟨(rem.eraseIdx m,acc2++[a],some a),⟨hpa3,fun x hx f hf=>?_⟩,by simp only;omega,?_,zac ?_⟩
      ·rcases Qm.1 hx with h|h
       ·exact hsa x h f hf
       ·rw[Qy.1 h,hg]at hf;rw[Qy.1 h];cases hf;exact zbj.2 rfl
      ·simp only[qns hg,zdl,Q7];exact Jo _
      ·simp -implicitDefEqProofs only[go_sem]
  ·refine zby.plain 1 (by decide) rfl Yo ?_;simp -implicitDefEqProofs only[go_sem];refine zby.done rfl ?_;simp -implicitDefEqProofs only[go_sem];obtain⟨a,ha,rfl⟩:∃a,rem[m]?=some a/\r=anC a:=by
    rw[List.getElem?_map]at hm;cases h:rem[m]? with
    | none=>rw[h]at hm;cases hm
    | some a=>rw[h]at hm;exact⟨a,rfl,by simpa using hm.symm⟩
   have hel:=zg8 ha;have hrm:a∈rem:=List.mem_of_getElem? ha;have hpa2:((acc++[a])++rem.eraseIdx m).Perm own:=by
    refine List.Perm.trans ?_ hpa;rw[Kf];exact List.Perm.append_left acc (Perm.erase_at ha)
   have hne:∀b∈acc,b.label≠a.label:=fun b hb he=>by
    have hn:aNd (acc++rem):=zfh hpa.symm hown;unfold aNd at hn;rw[Q2,Q8]at hn;exact hn.2.2 _ (Jt hb) _ (Jt hrm) he
   refine zbq.cut 0 rfl Yo ?_;simp -implicitDefEqProofs only[go_sem];refine zbq.block ?_;refine zbq.seq (zbq.region (zby.entry 0 rfl rfl (by simp only[Tryz.ntmps94];omega) Yn ?_));refine zby.plain 5 (by decide) rfl Yo ?_;simp -implicitDefEqProofs only[go_sem];refine zby.done rfl ?_;simp -implicitDefEqProofs only[go_sem];have hkeep:(a.label==p.label&&zbh p.rule i)=false->zch (.int .i64 a.label) ((lft acc p.label (zbh p.rule i)).map anC)=some none/\lft (acc++[a]) p.label (zbh p.rule i)=lft acc p.label (zbh p.rule i)++[a]/\zv6 (acc++[a]) p.label (zbh p.rule i) (dis i)=true:=fun hk=>by
    refine⟨?_,?_,?_⟩
    ·rw[zhe,show zeo (lft acc p.label (zbh p.rule i)) a.label=none from zfs.2 fun b hb=>hne b (Ju.1 hb).1];rfl
    ·unfold lft;rw[List.filter_append,Jm,hk];rfl
    ·unfold zv6 at hda⊢;rw[List.all_append,hda,Kq,hk];rfl
   have HDI:=zhw p.rule i;cases hk:(a.label==p.label&&zbh p.rule i)
   ·obtain⟨k1,k2,k3⟩:=hkeep hk;refine zbq.join (hd [(2,.one (.bx 2 0)),(6,.one (.cv (.map (some bo)))),(7,.one (.cv (.map (some b')))),(8,vI i),(10,vI a.label),(11,.one (.bx 11 0)),(86,.one (.rn (lsS Ls))),(87,vI Ls.length),(88,vI i),(95,.one (.cv (.pointer (some ⟨bi,0,none⟩))))] [(2,ntR p),(11,fmR a.form)] []) Yo ?_ ?_
    ·cases e1:(a.label==p.label)
     ·simp -implicitDefEqProofs only[go_sem,e1];refine zac ?_;simp -implicitDefEqProofs only[go_sem]
     ·have ed:zbh p.rule i=false:=by rw[e1]at hk;exact hk
      rw[ed]at HDI;simp -implicitDefEqProofs only[go_sem,e1];refine callF (HDI) (by simp -implicitDefEqProofs only[go_sem,e1]) ?_;simp -implicitDefEqProofs only[go_sem,e1];refine zac ?_;simp -implicitDefEqProofs only[go_sem]
    ·refine zbq.region (zby.plain 3 (by decide) rfl Yo ?_);simp -implicitDefEqProofs only[go_sem];refine zby.upd 1 rfl ?_;simp -implicitDefEqProofs only[go_sem,Tryz.underlying82,Tryz.underlying3,List.getElem?_cons_succ,List.getElem?_cons_zero,k1];refine Or.inl ⟨hni _ _ _ _ _ hs1,zby.done rfl ?_⟩;simp -implicitDefEqProofs only[go_sem];refine⟨(rem.eraseIdx m,acc++[a],some a),⟨hpa2,k3⟩,by simp only;omega,?_,zac ?_⟩
     ·simp only[k2,Q2,Qf,Qo,zcb a,zdl,Q7];exact Jo _
     ·simp -implicitDefEqProofs only[go_sem]
   ·have e1:(a.label==p.label)=true:=by cases h:(a.label==p.label)with|true=>rfl|false=>rw[h]at hk;cases hk
    have ed:zbh p.rule i=true:=by rw[e1]at hk;exact hk
    have HDD:=HDi ed;have HE:=zbm a.form (dis i);rw[ed]at HDI;simp only[ntD,zaj p,fmD,zaa a.form,zaa (dis i)]at HDD HE;refine zbq.cut 0 rfl Yo ?_;simp -implicitDefEqProofs only[go_sem,e1];refine callF (HDI) (by simp -implicitDefEqProofs only[go_sem,e1]) ?_;simp -implicitDefEqProofs only[go_sem,e1];cases hs:same a.form (dis i)
    ·rw[hs]at HE;refine drawn Yo ?_;simp -implicitDefEqProofs only[go_sem];refine zay HDD Yn ?_;simp -implicitDefEqProofs only[go_sem];refine zav (HE) (by simp -implicitDefEqProofs only[go_sem,Qg]) ?_;simp -implicitDefEqProofs only[go_sem,Qg];refine⟨Yo,?_⟩;refine⟨[.one .nmp,bD false],Or.inl ⟨?_,rfl⟩,by simp -implicitDefEqProofs only[go_sem]⟩;rw[ho,hstep,if_neg];rw[show zv6 own p.label (zbh p.rule i) (dis i)=false from ?_]
     ·simp
     ·unfold zv6;rw[J9];exact⟨a,hpa2.mem_iff.1 (by simp),by rw[hk,hs];simp⟩
    ·rw[hs]at HE;refine drawn Yo ?_;simp -implicitDefEqProofs only[go_sem];refine zay HDD Yn ?_;simp -implicitDefEqProofs only[go_sem];refine zav (HE) (by simp -implicitDefEqProofs only[go_sem,Qb]) ?_;simp -implicitDefEqProofs only[go_sem,Qb];refine⟨Yo,?_⟩;refine⟨(rem.eraseIdx m,acc++[a],some a),⟨hpa2,?_⟩,by simp only;omega,?_,zac ?_⟩
     ·unfold zv6 at hda⊢;rw[List.all_append,hda,Kq,hs];simp
     ·have e3:lft (acc++[a]) p.label (zbh p.rule i)=lft acc p.label (zbh p.rule i):=by
       unfold lft;rw[List.filter_append,Jm,hk];simp
      simp only[e3,zdl,Q7];exact Jo _
     ·simp -implicitDefEqProofs only[go_sem]
 ·have hie:i=Ls.length:=by omega
  subst hie;refine zbq.cut 1 rfl Yo ?_;simp -implicitDefEqProofs only[go_sem,hlt];refine zbq.pub 7 0 rfl Yn (hni2 (0,.mp true []) _ _ _ ⟨_,rfl⟩ ⟨_,rfl⟩) ?_;refine zbq.pub 6 0 rfl Yn (fun q hq s ag l la he=>?_) ?_
  ·simp only[List.eraseIdx_cons_zero,Qp,Ku,or_false]at hq;rw[hq]at he;cases he
  refine zbq.ofEx Yo ?_;simp -implicitDefEqProofs only[go_sem];have HN':=HN left' hlf;simp only[ntD,zaj p]at HN';refine callF (HN') Yn ?_;simp -implicitDefEqProofs only[go_sem];refine⟨[.one (anM out'),bD nw],Or.inr ⟨out,out',?_,hon,hp,rfl⟩,?_⟩
  ·rw[ho];unfold opN;rw[Yf];rfl
  ·simp -implicitDefEqProofs only[go_sem]
end
section
open Go.RowKit
def stI (p:Nt)(sh:Bool):Bool:=zbg p.rule==(p.parts.length:Int)&&(p.form.good&&(zei p.rule==inB p.label 1 20&&((zei p.rule||p.label==0)&&((if inB p.rule 15 18=true then p.term.good else p.term.none)&&sh))))
theorem qpa (p:Nt)(Ls:List (List An))(sh:Bool)(hw:Fit p)(HSh0:stI p true=true->FC Tryz.prog 122 [ntD p] [bD sh])(hb:stI p sh=false) :
  RX Tryz.prog 94 [ntD p,.one (lsS Ls)] (fun res=>res=[.one .nmp,bD false]):=by
 have hfw:p.form.wt<=1048576:=by have:=hw.own;omega
 have htw:p.term.wt<=1048576:=by have:=hw.own;omega
 have HP:=zfl p.rule
 have HV:=zce p.form Yp
 have HL:=zjt p.rule
 have HW:=zf5 p.label 1 20
 have HT:=zm8 p.rule
 have HVT:=zdy p.term Yp
 have HZ:=zb0 p.term
 have btt:(true != true)=false:=rfl
 have bff:(false != false)=false:=rfl
 have btf:(true != false)=true:=rfl
 have bft:(false != true)=true:=rfl
 have qtf:(true==false)=false:=rfl
 have qft:(false==true)=false:=rfl
 unfold stI at hb HSh0
 simp only[ntD,fmD,tmD,zaj p,zaa p.form,zab p.term]at HV HVT HZ HSh0⊢
 refine zoj Tryz.call94 Tryz.func94 rfl (zao Yo) ?_
 refine zb6.cut 0 rfl Yo ?_
 simp -implicitDefEqProofs only[go_sem,Tryz.results94]
 by_cases c1:zbg p.rule=(p.parts.length:Int)
 ·have e1:(((p.parts.length:Nat):Int) != ((p.parts.length:Nat):Int))=false:=by simp
  rw[show(zbg p.rule==(p.parts.length:Int))=true by simpa using c1,Qs]at hb HSh0;rw[c1]at HP;cases c2:p.form.good
  ·rw[c2]at HV;refine zb6.cut 0 rfl Yo ?_;simp -implicitDefEqProofs only[go_sem];refine drawn Yo ?_;simp -implicitDefEqProofs only[go_sem];refine zav (HP) (by simp -implicitDefEqProofs only[go_sem,e1]) ?_;simp -implicitDefEqProofs only[go_sem,e1];refine zaz (HV) (by simp -implicitDefEqProofs only[go_sem,e1,Qg]) ?_;simp -implicitDefEqProofs only[go_sem,e1,Qg];refine⟨Yo,[.one .nmp,bD false],rfl,by simp -implicitDefEqProofs only[go_sem]⟩
  ·rw[c2,Qs]at hb HSh0;rw[c2]at HV;cases c3:(zei p.rule==inB p.label 1 20)
   ·refine zb6.cut 0 rfl Yo ?_;simp -implicitDefEqProofs only[go_sem];refine drawn Yo ?_;simp -implicitDefEqProofs only[go_sem];cases hl:zei p.rule
    ·have hi:inB p.label 1 20=true:=by rw[hl]at c3;cases h:inB p.label 1 20 with|true=>rfl|false=>rw[h]at c3;cases c3
     rw[hl]at HL;rw[hi]at HW;refine zav (HP) (by simp -implicitDefEqProofs only[go_sem,e1]) ?_;simp -implicitDefEqProofs only[go_sem,e1];refine zaz (HV) (by simp -implicitDefEqProofs only[go_sem,e1,Qb]) ?_;simp -implicitDefEqProofs only[go_sem,e1,Qb];refine zaz (HL) (by simp -implicitDefEqProofs only[go_sem,Qb]) ?_;simp -implicitDefEqProofs only[go_sem,Qb];refine zaz (HW) (by simp -implicitDefEqProofs only[go_sem,bft,qft,Qg]) ?_;simp -implicitDefEqProofs only[go_sem,bft,qft,Qg];refine⟨Yo,[.one .nmp,bD false],rfl,by simp -implicitDefEqProofs only[go_sem]⟩
    ·have hi:inB p.label 1 20=false:=by rw[hl]at c3;cases h:inB p.label 1 20 with|false=>rfl|true=>rw[h]at c3;cases c3
     rw[hl]at HL;rw[hi]at HW;refine zav (HP) (by simp -implicitDefEqProofs only[go_sem,e1]) ?_;simp -implicitDefEqProofs only[go_sem,e1];refine zaz (HV) (by simp -implicitDefEqProofs only[go_sem,e1,Qb]) ?_;simp -implicitDefEqProofs only[go_sem,e1,Qb];refine zaz (HL) (by simp -implicitDefEqProofs only[go_sem,Qb]) ?_;simp -implicitDefEqProofs only[go_sem,Qb];refine zaz (HW) (by simp -implicitDefEqProofs only[go_sem,btf,qtf,Qg]) ?_;simp -implicitDefEqProofs only[go_sem,btf,qtf,Qg];refine⟨Yo,[.one .nmp,bD false],rfl,by simp -implicitDefEqProofs only[go_sem]⟩
   ·rw[c3,Qs]at hb HSh0;have c3':zei p.rule=inB p.label 1 20:=by simpa using c3
    rw[<-c3']at HW;cases c4:(zei p.rule||p.label==0)
    ·have hl:zei p.rule=false:=by cases h:zei p.rule with|false=>rfl|true=>rw[h]at c4;cases c4
     have e2:(p.label != 0)=true:=by rw[hl,Kt]at c4;simpa using c4
     rw[hl]at HL HW;refine zb6.cut 0 rfl Yo ?_;simp -implicitDefEqProofs only[go_sem];refine drawn Yo ?_;simp -implicitDefEqProofs only[go_sem];refine zav (HP) (by simp -implicitDefEqProofs only[go_sem,e1]) ?_;simp -implicitDefEqProofs only[go_sem,e1];refine zaz (HV) (by simp -implicitDefEqProofs only[go_sem,e1,Qb]) ?_;simp -implicitDefEqProofs only[go_sem,e1,Qb];refine zaz (HL) (by simp -implicitDefEqProofs only[go_sem,Qb]) ?_;simp -implicitDefEqProofs only[go_sem,Qb];refine zaz (HW) (by simp -implicitDefEqProofs only[go_sem,bff,Qw,Qb]) ?_;simp -implicitDefEqProofs only[go_sem,bff,Qw,Qb];refine zaz (HL) (by simp -implicitDefEqProofs only[go_sem,Qg,e2]) ?_;simp -implicitDefEqProofs only[go_sem,Qg,e2];refine⟨Yo,[.one .nmp,bD false],rfl,by simp -implicitDefEqProofs only[go_sem]⟩
    ·rw[c4,Qs]at hb HSh0;refine zb6.join (hd [(1,.one (.rn (lsS Ls))),(2,.one (.bx 2 0))] [(2,ntR p)] []) Yo ?_ ?_
     ·simp -implicitDefEqProofs only[go_sem];refine drawn Yo ?_;cases hlab:zei p.rule
      ·have e2:(p.label != 0)=false:=by rw[hlab,Kt]at c4;simpa using c4
       rw[hlab]at HL HW;simp -implicitDefEqProofs only[go_sem];refine zav (HP) (by simp -implicitDefEqProofs only[go_sem,e1]) ?_;simp -implicitDefEqProofs only[go_sem,e1];refine zaz (HV) (by simp -implicitDefEqProofs only[go_sem,e1,Qb]) ?_;simp -implicitDefEqProofs only[go_sem,e1,Qb];refine zaz (HL) (by simp -implicitDefEqProofs only[go_sem,Qb]) ?_;simp -implicitDefEqProofs only[go_sem,Qb];refine zaz (HW) (by simp -implicitDefEqProofs only[go_sem,bff,Qw,Qb]) ?_;simp -implicitDefEqProofs only[go_sem,bff,Qw,Qb];refine zaz (HL) (by simp -implicitDefEqProofs only[go_sem,Qg,e2]) ?_;simp -implicitDefEqProofs only[go_sem,Qg,e2];refine⟨Yo,zac ?_⟩;simp -implicitDefEqProofs only[go_sem]
      ·rw[hlab]at HL HW;simp -implicitDefEqProofs only[go_sem];refine zav (HP) (by simp -implicitDefEqProofs only[go_sem,e1]) ?_;simp -implicitDefEqProofs only[go_sem,e1];refine zaz (HV) (by simp -implicitDefEqProofs only[go_sem,e1,Qb]) ?_;simp -implicitDefEqProofs only[go_sem,e1,Qb];refine zaz (HL) (by simp -implicitDefEqProofs only[go_sem,Qb]) ?_;simp -implicitDefEqProofs only[go_sem,Qb];refine zaz (HW) (by simp -implicitDefEqProofs only[go_sem,btt,Qw,Qb]) ?_;simp -implicitDefEqProofs only[go_sem,btt,Qw,Qb];refine zaz (HL) (by simp -implicitDefEqProofs only[go_sem,Qb]) ?_;simp -implicitDefEqProofs only[go_sem,Qb];refine⟨Yo,zac ?_⟩;simp -implicitDefEqProofs only[go_sem]
     refine zb6.cut 0 rfl Yo ?_;cases hte:inB p.rule 15 18
     ·rw[hte]at HT;rw[hte,if_neg (by simp)]at hb HSh0;simp -implicitDefEqProofs only[go_sem];refine callF (HT) (by simp -implicitDefEqProofs only[go_sem,Qb,Qg]) ?_;simp -implicitDefEqProofs only[go_sem,Qb,Qg];refine callF (HT) (by simp -implicitDefEqProofs only[go_sem,Qb,Qg]) ?_;simp -implicitDefEqProofs only[go_sem,Qb,Qg];cases c5:p.term.none
      ·rw[c5]at HZ;refine callF (HZ) (by simp -implicitDefEqProofs only[go_sem,Qb,Qg]) ?_;simp -implicitDefEqProofs only[go_sem,Qb,Qg];refine⟨[.one .nmp,bD false],rfl,by simp -implicitDefEqProofs only[go_sem]⟩
      ·rw[c5]at HZ hb HSh0;have HSh:=HSh0 rfl;rw[show sh=false from by simpa using hb]at HSh;refine callF (HZ) (by simp -implicitDefEqProofs only[go_sem,Qb,Qg]) ?_;simp -implicitDefEqProofs only[go_sem,Qb,Qg];refine callF (HSh) (by simp -implicitDefEqProofs only[go_sem,Qb,Qg]) ?_;simp -implicitDefEqProofs only[go_sem,Qb,Qg];refine⟨[.one .nmp,bD false],rfl,by simp -implicitDefEqProofs only[go_sem]⟩
     ·rw[hte]at HT;rw[hte,if_pos rfl]at hb HSh0;simp -implicitDefEqProofs only[go_sem];refine callF (HT) (by simp -implicitDefEqProofs only[go_sem,Qb,Qg]) ?_;simp -implicitDefEqProofs only[go_sem,Qb,Qg];cases c5:p.term.good
      ·rw[c5]at HVT;refine callF (HVT) (by simp -implicitDefEqProofs only[go_sem,Qb,Qg]) ?_;simp -implicitDefEqProofs only[go_sem,Qb,Qg];refine⟨[.one .nmp,bD false],rfl,by simp -implicitDefEqProofs only[go_sem]⟩
      ·rw[c5]at HVT hb HSh0;have HSh:=HSh0 rfl;rw[show sh=false from by simpa using hb]at HSh;refine callF (HVT) (by simp -implicitDefEqProofs only[go_sem,Qb,Qg]) ?_;simp -implicitDefEqProofs only[go_sem,Qb,Qg];refine callF (HT) (by simp -implicitDefEqProofs only[go_sem,Qb,Qg]) ?_;simp -implicitDefEqProofs only[go_sem,Qb,Qg];refine callF (HSh) (by simp -implicitDefEqProofs only[go_sem,Qb,Qg]) ?_;simp -implicitDefEqProofs only[go_sem,Qb,Qg];refine⟨[.one .nmp,bD false],rfl,by simp -implicitDefEqProofs only[go_sem]⟩
 ·have e1:(zbg p.rule != (p.parts.length:Int))=true:=by simpa using c1
  refine zb6.cut 0 rfl Yo ?_;simp -implicitDefEqProofs only[go_sem];refine drawn Yo ?_;simp -implicitDefEqProofs only[go_sem];refine zav (HP) (by simp -implicitDefEqProofs only[go_sem,e1]) ?_;simp -implicitDefEqProofs only[go_sem,e1];refine⟨Yo,[.one .nmp,bD false],rfl,by simp -implicitDefEqProofs only[go_sem]⟩
end
section
open Go.RowKit
theorem open_1 (p:Nt)(Ls:List (List An))(s1:zbg p.rule=p.parts.length)(s2:p.form.good=true)(s3:zei p.rule=inB p.label 1 20)(s4:zei p.rule=false->p.label=0)(hw:Fit p)
  (s5:(if inB p.rule 15 18=true then p.term.good else p.term.none)=true) (HSh:FC Tryz.prog 122 [ntD p] [bD true]) (h1:p.rule=1):RX Tryz.prog 94 [ntD p,.one (lsS Ls)] (fun res=>res=[.one (anM [⟨p.label,p.form⟩]),bD true]):=by
 have hfw:p.form.wt<=1048576:=by have:=hw.own;omega
 have htw:p.term.wt<=1048576:=by have:=hw.own;omega
 have HP:=zfl p.rule
 have HV:=zce p.form Yp
 have HL:=zjt p.rule
 have HW:=zf5 p.label 1 20
 have HT:=zm8 p.rule
 have HVT:=zdy p.term Yp
 have HZ:=zb0 p.term
 rw[s1]at HP
 rw[s2]at HV
 rw[<-s3]at HW
 have e1:(((p.parts.length:Nat):Int) != ((p.parts.length:Nat):Int))=false:=by simp
 have btt:(true != true)=false:=rfl
 have bff:(false != false)=false:=rfl
 simp only[ntD,fmD,tmD,zaj p,zaa p.form,zab p.term]at HV HVT HZ HSh⊢
 refine zoj Tryz.call94 Tryz.func94 rfl (zao Yo) ?_
 refine zb6.cut 0 rfl Yo ?_
 simp -implicitDefEqProofs only[go_sem,Tryz.results94]
 refine zb6.join (hd [(1,.one (.rn (lsS Ls))),(2,.one (.bx 2 0))] [(2,ntR p)] []) Yo ?_ ?_
 ·simp -implicitDefEqProofs only[go_sem];refine drawn Yo ?_;cases hlab:zei p.rule
  ·have e2:(p.label != 0)=false:=by simpa using s4 hlab
   rw[hlab]at HL HW;simp -implicitDefEqProofs only[go_sem];refine zav (HP) (by simp -implicitDefEqProofs only[go_sem,e1]) ?_;simp -implicitDefEqProofs only[go_sem,e1];refine zaz (HV) (by simp -implicitDefEqProofs only[go_sem,e1,Qb]) ?_;simp -implicitDefEqProofs only[go_sem,e1,Qb];refine zaz (HL) (by simp -implicitDefEqProofs only[go_sem,Qb]) ?_;simp -implicitDefEqProofs only[go_sem,Qb];refine zaz (HW) (by simp -implicitDefEqProofs only[go_sem,bff,Qw,Qb]) ?_;simp -implicitDefEqProofs only[go_sem,bff,Qw,Qb];refine zaz (HL) (by simp -implicitDefEqProofs only[go_sem,Qg,e2]) ?_;simp -implicitDefEqProofs only[go_sem,Qg,e2];refine⟨Yo,zac ?_⟩;simp -implicitDefEqProofs only[go_sem]
  ·rw[hlab]at HL HW;simp -implicitDefEqProofs only[go_sem];refine zav (HP) (by simp -implicitDefEqProofs only[go_sem,e1]) ?_;simp -implicitDefEqProofs only[go_sem,e1];refine zaz (HV) (by simp -implicitDefEqProofs only[go_sem,e1,Qb]) ?_;simp -implicitDefEqProofs only[go_sem,e1,Qb];refine zaz (HL) (by simp -implicitDefEqProofs only[go_sem,Qb]) ?_;simp -implicitDefEqProofs only[go_sem,Qb];refine zaz (HW) (by simp -implicitDefEqProofs only[go_sem,btt,Qw,Qb]) ?_;simp -implicitDefEqProofs only[go_sem,btt,Qw,Qb];refine zaz (HL) (by simp -implicitDefEqProofs only[go_sem,Qb]) ?_;simp -implicitDefEqProofs only[go_sem,Qb];refine⟨Yo,zac ?_⟩;simp -implicitDefEqProofs only[go_sem]
 refine zb6.join (hd [(1,.one (.rn (lsS Ls))),(2,.one (.bx 2 0))] [(2,ntR p)] []) Yo ?_ ?_
 ·cases hte:inB p.rule 15 18
  ·rw[hte]at HT;rw[hte,if_neg (by simp)]at s5;rw[s5]at HZ;simp -implicitDefEqProofs only[go_sem];refine callF (HT) (by simp -implicitDefEqProofs only[go_sem,Qb,Qg]) ?_;simp -implicitDefEqProofs only[go_sem,Qb,Qg];refine callF (HT) (by simp -implicitDefEqProofs only[go_sem,Qb,Qg]) ?_;simp -implicitDefEqProofs only[go_sem,Qb,Qg];refine callF (HZ) (by simp -implicitDefEqProofs only[go_sem,Qb,Qg]) ?_;simp -implicitDefEqProofs only[go_sem,Qb,Qg];refine callF (HSh) (by simp -implicitDefEqProofs only[go_sem,Qb,Qg]) ?_;simp -implicitDefEqProofs only[go_sem,Qb,Qg];refine zac ?_;simp -implicitDefEqProofs only[go_sem]
  ·rw[hte]at HT;rw[hte,if_pos rfl]at s5;rw[s5]at HVT;simp -implicitDefEqProofs only[go_sem];refine callF (HT) (by simp -implicitDefEqProofs only[go_sem,Qb,Qg]) ?_;simp -implicitDefEqProofs only[go_sem,Qb,Qg];refine callF (HVT) (by simp -implicitDefEqProofs only[go_sem,Qb,Qg]) ?_;simp -implicitDefEqProofs only[go_sem,Qb,Qg];refine callF (HT) (by simp -implicitDefEqProofs only[go_sem,Qb,Qg]) ?_;simp -implicitDefEqProofs only[go_sem,Qb,Qg];refine callF (HSh) (by simp -implicitDefEqProofs only[go_sem,Qb,Qg]) ?_;simp -implicitDefEqProofs only[go_sem,Qb,Qg];refine zac ?_;simp -implicitDefEqProofs only[go_sem]
 have e7:(p.rule==1)=true:=by simpa using h1
 refine zb6.hide ?_
 refine zbq.seq ?_
 refine zbq.cut 0 rfl Yo ?_
 simp -implicitDefEqProofs only[go_sem,e7]
 refine zbq.condT Yn ?_
 refine zbq.seq (zbq.region (zby.make true rfl (by simp only[Tryz.ntmps94];omega) fun bo _=>?_))
 refine zby.plain 4 (by decide) rfl Yo ?_
 simp -implicitDefEqProofs only[go_sem]
 refine zby.ins 0 rfl ?_
 have hfr:zch (.int .i64 p.label) []=some none:=rfl
 simp -implicitDefEqProofs only[go_sem,Tryz.underlying82,Tryz.underlying3,List.getElem?_cons_succ,List.getElem?_cons_zero,hfr]
 refine Or.inl ⟨fun q hq s ag l la he=>?_,?_⟩
 ·rw[Qy.1 hq]at he;cases he
 refine zby.plain 3 (by decide) rfl Yo ?_
 simp -implicitDefEqProofs only[go_sem]
 refine zby.done rfl ?_
 simp -implicitDefEqProofs only[go_sem]
 refine zbq.pub 4 0 rfl Yn (fun q hq s ag l la he=>?_) ?_
 ·rw[Qy.1 hq]at he;cases he
 refine zbq.ofEx Yo ?_
 simp -implicitDefEqProofs only[go_sem]
 refine⟨[.one (anM [⟨p.label,p.form⟩]),bD true],rfl,?_⟩
 simp -implicitDefEqProofs only[go_sem]
 rfl
end
section
open Go.RowKit
theorem zgt {f:Fm}(h:f.forms=true):(f.op=4->f.parts.length=1)/\(f.op=5\/f.op=6\/f.op=7->f.parts.length=2)/\(f.op=8\/f.op=9->f.parts.length=1):=by
 rw[Fm.forms_eq,Qe]at h
 have h:=h.1
 unfold Fm.here at h
 refine⟨fun e=>?_,fun e=>?_,fun e=>?_⟩
 ·rw[e]at h;exact(by simpa[zky,isQ]using h:(_/\_)/\_).1.1
 ·rcases e with e|e|e<;>rw[e]at h<;>exact(by simpa[zky,isQ]using h:(_/\_)/\_).1.1
 ·rcases e with e|e<;>rw[e]at h<;>exact(by simpa[zky,isQ]using h:(_/\_)/\_).1.1
theorem zbt {f:Fm}(h:f.good=true):f.forms=true:=(Qe _ _▸h:_/\_).2
abbrev zF:Fm:=mkF 0 []
noncomputable def shI (p:Nt):Bool :=
 let a:=(p.parts.map Nt.form).getD 0 zF
 let b:=(p.parts.map Nt.form).getD 1 zF
 let d:=(p.parts.map Nt.form).getD 2 zF
 let c:=p.form
 let t:=p.term
 if p.rule=2 then c.op==1
 else if p.rule=3 then a.op==2
 else if p.rule=4 then a.op==2
 else if p.rule=5 then c.op==5&&same c.parts [a,b]
 else if p.rule=6 then a.op==5&&same (a.parts.getD 0 (mkF 0 [])) c
 else if p.rule=7 then a.op==5&&same (a.parts.getD 1 (mkF 0 [])) c
 else if p.rule=8 then c.op==6&&same (c.parts.getD 0 (mkF 0 [])) a
 else if p.rule=9 then c.op==6&&same (c.parts.getD 1 (mkF 0 [])) a
 else if p.rule=10 then a.op==6&&same b c&&same d c
 else if p.rule=11 then c.op==7&&same (c.parts.getD 1 (mkF 0 [])) a
 else if p.rule=12 then a.op==7&&same a.parts [b,c]
 else if p.rule=13 then c.op==4&&a.op==2
 else if p.rule=14 then a.op==4&&same a.parts [b]&&c.op==2
 else if p.rule=15 then zbd t.name&&qjh a c 8 t
 else if p.rule=16 then qjh c a 8 t
 else if p.rule=17 then qjh a c 9 t
 else if p.rule=18 then a.op==9&&zbd t.name&&((sbs a t).2&&same b c)
 else true
noncomputable def zum (p:Nt)(i:Nat):Fm :=
 let a:=(p.parts.map Nt.form).getD 0 zF
 if p.rule=4 then mkF 4 [p.form]else if p.rule=10 then a.parts.getD (i-1) (mkF 0 [])else if p.rule=18 then (sbs a p.term).1 else p.form.parts.getD 0 (mkF 0 [])
def nwI (p:Nt)(last:List An):Bool :=
 let a:=(p.parts.map Nt.form).getD 0 zF
 if p.rule=15 then !(last.any (fun x=>frN p.term.name x.form)||frN p.term.name p.form)
 else if p.rule=18 then !(last.any (fun x=>frN p.term.name x.form)||(frN p.term.name p.form||frN p.term.name a))
 else true
theorem zvi {r:Int}(h:0<=zbg r):r=1\/r=2\/r=3\/r=4\/r=5\/r=6\/r=7\/r=8\/r=9\/r=10\/r=11\/r=12\/r=13\/r=14\/r=15\/r=16\/r=17\/r=18:=by
 unfold zbg at h
 split at h
 ·rename_i e;simp only[K5,Kk]at e;omega
 ·split at h
  ·rename_i e;simp only[K5,Kk]at e;omega
  ·split at h
   ·rename_i e;simp only[Kk]at e;omega
   ·split at h
    ·rename_i e;simp only[inB,Qe,Kb]at e;omega
    ·omega
theorem qvw (q:Fm)(t:Tm)(hq:q.forms=true)(hs:q.wt+t.wt<=1048576)(hp:q.parts≠[]):FC Tryz.prog 147 [fmD (q.parts.headD (mkF 0 [])),sD q.var,tmD t] [fmD (sbs q t).1,bD (sbs q t).2]:=by
 cases hps:q.parts with
 | nil=>exact absurd hps hp
 | cons g rest =>
  have hg:g.wt+t.wt<=1048576:=by have:=zbz Fm.wt q.parts g (by rw[hps];simp);have:=q.wt_eq;omega
  have:=zh1 g q.var t Yp Yp (by
   by_cases h:g.wt<=524288
   ·have h1:(1+g.wt)*t.wt<=524289*1048576:=Nat.mul_le_mul Yp Yp;omega
   ·have h1:(1+g.wt)*t.wt<=1048577*524288:=Nat.mul_le_mul Yp Yp
    omega)
  unfold sbs;rw[hps];exact this
theorem zkb (l:List Fm):l.headD (mkF 0 [])=l.getD 0 (mkF 0 []):=by cases l<;>rfl
theorem zh5 {α:Type}{xs:List α}(h:xs.length=1):∃a,xs=[a]:=by
 match xs,h with|[a],_=>exact⟨a,rfl⟩
theorem zvr {α:Type}{xs:List α}(h:xs.length=2):∃a b,xs=[a,b]:=by
 match xs,h with|[a,b],_=>exact⟨a,b,rfl⟩
theorem lnn3 {α:Type}{xs:List α}(h:xs.length=3):∃a b c,xs=[a,b,c]:=by
 match xs,h with|[a,b,c],_=>exact⟨a,b,c,rfl⟩
theorem zg4 {r:Int}{n:Nat}(h:zbg r=n):(r=1\/r=2->n=0)/\(r=5\/r=12\/r=14\/r=18->n=2)/\(r=10->n=3)/\(r=3\/r=4\/r=6\/r=7\/r=8\/r=9\/r=11\/r=13\/r=15\/r=16\/r=17->n=1):=by
 refine⟨fun e=>?_,fun e=>?_,fun e=>?_,fun e=>?_⟩
 ·rcases e with rfl|rfl<;>(have h:(0:Int)=n:=h;omega)
 ·rcases e with rfl|rfl|rfl|rfl<;>(have h:(2:Int)=n:=h;omega)
 ·subst e;have h:(3:Int)=n:=h;omega
 ·rcases e with rfl|rfl|rfl|rfl|rfl|rfl|rfl|rfl|rfl|rfl|rfl<;>(have h:(1:Int)=n:=h;omega)
theorem zn1 (p:Nt)(hw:Fit p)(hs:stI p true=true)(hf:∀q∈p.parts,q.form.forms=true):FC Tryz.prog 122 [ntD p] [bD (shI p)]:=by
 obtain⟨r,c,l,t,ps⟩:=p
 have hwe:c.wt+t.wt+ps.length<=1048576:=hw.own
 have hf:∀q∈ps,q.form.forms=true:=hf
 unfold stI at hs
 simp only[Qe,Kk]at hs
 obtain⟨h1,h2,h3,h4,h5,_⟩:=hs
 have h1:zbg r=(ps.length:Int):=h1
 have h2:c.good=true:=h2
 obtain⟨ac4,ac2,ac1⟩:=zgt (zbt h2)
 obtain⟨n0,n2,n3,n1⟩:=zg4 h1
 have hcw:c.wt+t.wt<=1048576:=by omega
 have hqw:∀q∈ps,q.form.wt+t.wt<=1048576:=hw.part
 have hI:∀f q:Fm,∀op,(op=8\/op=9)->q.forms=true->q.wt+t.wt<=1048576->FC Tryz.prog 146 [fmD f,fmD q,iD op,tmD t] [bD (qjh f q op t)]:=fun f q op ho hq hs=>ztm f q op t fun e=>by
  have hp:q.parts≠[]:=fun hn=>by
   have:=(zgt hq).2.2 (by rw[e];exact ho);rw[hn]at this;cases this
  exact⟨hp,qvw q t hq hs hp⟩
 rcases zvi (r:=r) Yp with h|h|h|h|h|h|h|h|h|h|h|h|h|h|h|h|h|h<;>subst h
 ·obtain rfl:=Km (n0 (Or.inl rfl));exact qan c l t
 ·obtain rfl:=Km (n0 (Or.inr rfl));exact qa1 c l t
 ·obtain⟨p0,rfl⟩:=zh5 (n1 (by decide));exact qb6 c l t p0
 ·obtain⟨p0,rfl⟩:=zh5 (n1 (by decide));exact qau c l t p0
 ·obtain⟨p0,p1,rfl⟩:=zvr (n2 (by decide));exact qbo c l t p0 p1
 ·obtain⟨p0,rfl⟩:=zh5 (n1 (by decide));exact qai c l t p0 fun e=>(zgt (hf p0 (Q9 ..))).2.1 (Or.inl e)
 ·obtain⟨p0,rfl⟩:=zh5 (n1 (by decide));exact qb5 c l t p0 fun e=>(zgt (hf p0 (Q9 ..))).2.1 (Or.inl e)
 ·obtain⟨p0,rfl⟩:=zh5 (n1 (by decide));exact qbt c l t p0 fun e=>ac2 (Or.inr (Or.inl e))
 ·obtain⟨p0,rfl⟩:=zh5 (n1 (by decide));exact qb3 c l t p0 fun e=>ac2 (Or.inr (Or.inl e))
 ·obtain⟨p0,p1,p2,rfl⟩:=lnn3 (n3 (by decide));exact zu5 c l t p0 p1 p2
 ·obtain⟨p0,rfl⟩:=zh5 (n1 (by decide));exact zv2 c l t p0 fun e=>ac2 (Or.inr (Or.inr e))
 ·obtain⟨p0,p1,rfl⟩:=zvr (n2 (by decide));exact zw3 c l t p0 p1
 ·obtain⟨p0,rfl⟩:=zh5 (n1 (by decide));exact zu3 c l t p0
 ·obtain⟨p0,p1,rfl⟩:=zvr (n2 (by decide));exact zva c l t p0 p1
 ·obtain⟨p0,rfl⟩:=zh5 (n1 (by decide));exact zvj c l t p0 _ (hI _ _ 8 (Or.inl rfl) (zbt h2) hcw)
 ·obtain⟨p0,rfl⟩:=zh5 (n1 (by decide));exact zuw c l t p0 _ (hI _ _ 8 (Or.inl rfl) (hf p0 (Q9 ..)) (hqw p0 (Q9 ..)))
 ·obtain⟨p0,rfl⟩:=zh5 (n1 (by decide));exact zu4 c l t p0 _ (hI _ _ 9 (Or.inr rfl) (zbt h2) hcw)
 ·obtain⟨p0,p1,rfl⟩:=zvr (n2 (by decide));have hp:p0.form.op=9->p0.form.parts≠[]:=fun ho hn=>by
   have:=(zgt (hf p0 (Q9 ..))).2.2 (Or.inr ho);rw[hn]at this;cases this
  exact zvk c l t p0 p1 (fun ho=>Nat.pos_of_ne_zero fun h=>hp ho (Km h)) _ _ fun ho=>by
   have HU:=qvw p0.form t (hf p0 (Q9 ..)) (hqw p0 (Q9 ..)) (hp ho);rw[zkb]at HU;exact HU
end
section
open Go.RowKit
theorem zf2 {p:Nt}{sh:Bool}(h:stI p sh=true):zbg p.rule=(p.parts.length:Int)/\p.form.good=true/\zei p.rule=inB p.label 1 20/\(zei p.rule=false->p.label=0)/\(if inB p.rule 15 18=true then p.term.good else p.term.none)=true/\sh=true:=by
 unfold stI at h
 simp only[Qe,Kk]at h
 obtain⟨h1,h2,h3,h4,h5,h6⟩:=h
 refine⟨h1,h2,h3,fun e=>?_,h5,h6⟩
 rw[e,Kt]at h4
 simpa using h4
theorem zt9 (p:Nt)(hw:Fit p)(hs:stI p (shI p)=true)(hf:∀q∈p.parts,q.form.forms=true)(i:Nat)(hi:i<p.parts.length)(hd:zbh p.rule i=true):RC Tryz.prog 124 [ntD p,iD i] [fmD (zum p i)]:=by
 obtain⟨h1,h2,h3,h4,h5,h6⟩:=zf2 hs
 obtain⟨r,c,l,t,ps⟩:=p
 have hwe:c.wt+t.wt+ps.length<=1048576:=hw.own
 have hwp:∀q∈ps,q.form.wt+t.wt<=1048576:=hw.part
 have hf:∀q∈ps,q.form.forms=true:=hf
 have hi:i<ps.length:=hi
 have h1:zbg r=(ps.length:Int):=h1
 have h2:c.good=true:=h2
 have hd:zbh r i=true:=hd
 obtain⟨ac4,ac2,ac1⟩:=zgt (zbt h2)
 obtain⟨n0,n2,n3,n1⟩:=zg4 h1
 have hr:r=4\/r=11\/r=13\/(r=10/\0<i)\/(r=18/\0<i):=by
  unfold zbh at hd;split at hd
  ·rename_i e;simp only[K5,Kk]at e;omega
  ·split at hd
   ·rename_i e;simp only[K5,Kk]at e;simp only[Kb]at hd;omega
   ·cases hd
 rcases hr with h|h|h|⟨h,h0⟩|⟨h,h0⟩<;>subst h
 ·obtain⟨p0,rfl⟩:=zh5 (n1 (by decide));exact zr7 c l t p0 i
 ·obtain⟨p0,rfl⟩:=zh5 (n1 (by decide));have e:c.op=7:=by
   have h6:(c.op==7&&same (c.parts.getD 1 (mkF 0 [])) p0.form)=true:=h6;rw[Qe,Kk]at h6;exact h6.1
  exact zif c l t p0 i 11 (Or.inl rfl) (by rw[ac2 (Or.inr (Or.inr e))];omega)
 ·obtain⟨p0,rfl⟩:=zh5 (n1 (by decide));have e:c.op=4:=by
   have h6:(c.op==4&&p0.form.op==2)=true:=h6;rw[Qe,Kk]at h6;exact h6.1
  exact zif c l t p0 i 13 (Or.inr rfl) (by rw[ac4 e];omega)
 ·obtain⟨p0,p1,p2,rfl⟩:=lnn3 (n3 (by decide));have e:p0.form.op=6:=by
   have h6:(p0.form.op==6&&same p1.form c&&same p2.form c)=true:=h6;rw[Qe,Qe,Kk]at h6;exact h6.1.1
  obtain⟨j,rfl⟩:∃j,i=j+1:=⟨i-1,Yp⟩;have hi:j+1<3:=hi;exact zqn c l t p0 p1 p2 j Yp ((zgt (hf p0 (Q9 ..))).2.1 (Or.inr (Or.inl e)))
 ·obtain⟨p0,p1,rfl⟩:=zvr (n2 (by decide));have e:p0.form.op=9:=by
   have h6:(p0.form.op==9&&zbd t.name&&((sbs p0.form t).2&&same p1.form c))=true:=h6;rw[Qe,Qe,Kk]at h6;exact h6.1.1
  have hl:=(zgt (hf p0 (Q9 ..))).2.2 (Or.inr e);have hp:p0.form.parts≠[]:=fun hn=>by rw[hn]at hl;cases hl
  have e1:=hwp p0 (Q9 ..);have HU:=qvw p0.form t (hf p0 (Q9 ..)) Yp hp;rw[zkb]at HU;exact zpz c l t p0 p1 i Yp _ _ HU
def okA (out:List An):Prop:=aNd out/\∀a∈out,okF a.form/\1<=a.label/\a.label<=20
theorem zmc:okA []:=⟨by simp[aNd],fun a ha=>by cases ha⟩
theorem qvl:∀(n:Nat)(xs:List Int),xs.Nodup->(∀x∈xs,1<=x/\x<=n)->xs.length<=n
 | 0,xs,_,h=>by
  cases xs with
  | nil=>exact Qz _
  | cons x xs=>have:=h x (by simp);omega
 | n+1,xs,hn,h=>by
  by_cases hm:((n+1:Nat):Int)∈xs
  ·have h1:=qvl n (xs.erase ((n+1:Nat):Int)) (hn.erase _) fun x hx=>by
    obtain⟨h2,h3⟩:=(hn.mem_erase_iff).1 hx;have:=h x h3;omega
   rw[List.length_erase_of_mem hm]at h1;omega
  ·have:=qvl n xs hn fun x hx=>by
    have h2:=h x hx;have h3:x≠((n+1:Nat):Int):=fun e=>hm (e▸hx);omega
   omega
theorem zjx {out:List An}(h:okA out):out.length<=20:=by
 have:=qvl 20 (out.map An.label) h.1 fun k hk=>by
  obtain⟨a,ha,rfl⟩:=Ka.1 hk;obtain⟨_,h2,h3⟩:=h.2 a ha;exact⟨h2,h3⟩
 simpa using this
theorem zqo {x y:List An}(h:x.Perm y)(hx:okA x):okA y:=⟨zfh h hx.1,fun a ha=>hx.2 a (h.mem_iff.2 ha)⟩
theorem zhn {x:List An}(hx:okA x)(q:An->Bool):okA (x.filter q):=⟨zj3 hx.1 q,fun a ha=>hx.2 a (Ju.1 ha).1⟩
theorem zu7 {x y:List An}(hx:okA x)(hy:okA y):okA (mrg x y):=by
 refine⟨qrf hx.1 hy.1,fun a ha=>?_⟩
 unfold mrg at ha
 rcases Qm.1 ha with h|h
 ·exact hx.2 a h
 ·exact hy.2 a (Ju.1 h).1
theorem qh1 {l:Int}{d:Nat->Bool}{dis:Nat->Fm}:∀{Ls:List (List An)}{i:Nat}{out r:List An},okA out->(∀own∈Ls,okA own)->opM l d dis i out Ls=some r->okA r
 | [],_,_,_,h,_,e=>by unfold opM at e;cases e;exact h
 | own::Ls,i,out,r,h,hL,e=>by
  unfold opM at e;split at e
  ·exact qh1 (zu7 h (zhn (hL own (by simp)) _)) (fun o ho=>hL o (by simp[ho])) e
  ·cases e
theorem zzw {p:Nt}{x y:List An}(h:x.Perm y):nwI p x=nwI p y:=by
 unfold nwI
 rw[zo9 h]
theorem qvc (p:Nt)(hw:Fit p)(hs:stI p (shI p)=true)(hf:∀q∈p.parts,q.form.forms=true)(ags:List An)(hok:okA ags):FC Tryz.prog 125 [ntD p,.one (anM ags)] [bD (nwI p ags)]:=by
 obtain⟨h1,h2,h3,h4,h5,h6⟩:=zf2 hs
 obtain⟨r,c,l,t,ps⟩:=p
 have hwe:c.wt+t.wt+ps.length<=1048576:=hw.own
 have hwp:∀q∈ps,q.form.wt+t.wt<=1048576:=hw.part
 have hf:∀q∈ps,q.form.forms=true:=hf
 have h1:zbg r=(ps.length:Int):=h1
 have h2:c.good=true:=h2
 obtain⟨n0,n2,n3,n1⟩:=zg4 h1
 have hl:=zjx hok
 by_cases h15:r=15
 ·subst h15;obtain⟨p0,rfl⟩:=zh5 (n1 (by decide));exact qm8 c l t p0 ags Yp ⟨zbt h2,Yp⟩ fun a ha=>(hok.2 a ha).1
 ·by_cases h18:r=18
  ·subst h18;obtain⟨p0,p1,rfl⟩:=zvr (n2 (by decide));have e1:=hwp p0 (Q9 ..);exact qne c l t p0 p1 ags Yp ⟨zbt h2,Yp⟩ ⟨hf p0 (Q9 ..),Yp⟩ fun a ha=>(hok.2 a ha).1
  ·have:=qp5 (.mk r c l t ps) ags h15 h18;have e:nwI (.mk r c l t ps) ags=true:=by
    unfold nwI;rw[if_neg (show ¬(Nt.mk r c l t ps).rule=15 from h15),if_neg (show ¬(Nt.mk r c l t ps).rule=18 from h18)]
   rw[e];exact this
noncomputable def opR (p:Nt)(Ls:List (List An)):Option (List An) :=
 if stI p (shI p)=true then (if p.rule=1 then some [⟨p.label,p.form⟩]else (opN p Ls (zum p) 0 []).bind fun out=>if nwI p (zfe p Ls Ls.length)=true then some out else none)else none
theorem qas {p:Nt}{Ls:List (List An)}(h:∀own∈Ls,okA own):∀i,okA (zfe p Ls i)
 | 0=>zmc
 | i+1=>by
  refine zhn ?_ _;rw[List.getD_eq_getElem?_getD];cases hg:Ls[i]? with
  | none=>exact zmc
  | some own=>exact h own (List.mem_of_getElem? hg)
theorem opR_ok {p:Nt}{Ls:List (List An)}{out:List An}(hw:Fit p)(h:∀own∈Ls,okA own)(e:opR p Ls=some out):okA out:=by
 unfold opR at e
 split at e
 ·rename_i hs;obtain⟨h1,h2,h3,h4,h5,h6⟩:=zf2 hs;split at e
  ·rename_i hr;cases e;refine⟨by simp[aNd],fun a ha=>?_⟩;rw[Qy]at ha;subst ha;have:=hw.own;rw[hr]at h3;have h3:true=inB p.label 1 20:=h3;have h3:=h3.symm;simp only[inB,Qe,Kb]at h3;exact⟨⟨zbt h2,by show p.form.wt<=_;omega⟩,h3.1,h3.2⟩
  ·obtain⟨o,ho,e⟩:=Qd.1 e;split at e
   ·cases e;exact qh1 zmc h ho
   ·cases e
 ·cases e
theorem qdv (p:Nt)(Ls:List (List An))(hw:Fit p)(hf:∀q∈p.parts,q.form.forms=true)(hl:Ls.length=p.parts.length)(hok:∀own∈Ls,okA own) :
  RX Tryz.prog 94 [ntD p,.one (lsS Ls)] (fun res=>(opR p Ls=none/\∃x,res=[.one x,bD false])\/∃out ags,opR p Ls=some out/\ags.Perm out/\res=[.one (anM ags),bD true]):=by
 cases hs:stI p (shI p)
 ·refine(qpa p Ls (shI p) hw (fun h=>zn1 p hw h hf) hs).mono fun r hr=>Or.inl ⟨?_,_,hr⟩;unfold opR;rw[hs];rfl
 ·obtain⟨s1,s2,s3,s4,s5,s6⟩:=zf2 hs;have hst:stI p true=true:=by rw[s6]at hs;exact hs
  have HSh:=zn1 p hw hst hf;rw[s6]at HSh;have hwe:=hw.own;by_cases h1:p.rule=1
  ·refine(open_1 p Ls s1 s2 s3 s4 hw s5 HSh h1).mono fun r hr=>Or.inr ⟨[⟨p.label,p.form⟩],_,?_,Jn _,hr⟩;unfold opR;rw[hs,if_pos rfl,if_pos h1]
  ·refine(qt6 p Ls s1 s2 s3 s4 hw s5 HSh (by simpa using h1) (zum p) (fun i hi hd=>zt9 p hw hs hf i Yp hd) (fun own ho=>(hok own ho).1) Yp (nwI p (zfe p Ls Ls.length)) (fun left' hp=>by
    rw[<-zzw hp]
    exact qvc p hw hs hf left' (zqo hp.symm (qas hok _)))).mono fun r hr=>?_
   rcases hr with⟨h2,rfl⟩|⟨out,ags,h2,h3,h4,rfl⟩
   ·refine Or.inl ⟨?_,_,rfl⟩;unfold opR;rw[hs,if_pos rfl,if_neg h1,h2];rfl
   ·cases hn:nwI p (zfe p Ls Ls.length)
    ·refine Or.inl ⟨?_,_,rfl⟩;unfold opR;rw[hs,if_pos rfl,if_neg h1,h2];show(if nwI p (zfe p Ls Ls.length)=true then _ else _)=_
     rw[hn];rfl
    ·refine Or.inr ⟨out,ags,?_,h4,rfl⟩;unfold opR;rw[hs,if_pos rfl,if_neg h1,h2];show(if nwI p (zfe p Ls Ls.length)=true then _ else _)=_
     rw[hn];rfl
end
section
open Go.RowKit
noncomputable def goR (p:Nt):Nat->List (Sum (List Int) (List An))->List (List An)->Sum (List Int) (List An)
 | _,[],acc=>match opR p acc with|none=>.inl []|some out=>.inr out
 | i,.inl pos::_,_=>.inl ((i:Int)::pos)
 | i,.inr own::rs,acc=>goR p (i+1) rs (acc++[own])
noncomputable def zfd:Nt->Sum (List Int) (List An):=Nt.fold fun r f l t ps rs=>goR (.mk r f l t ps) 0 rs []
theorem zj0 (p:Nt):zfd p=goR p 0 (p.parts.map zfd) []:=by
 unfold zfd
 rw[Nt.fold_eq,Nt.eta]
theorem qrc {p:Nt}(hw:Fit p):∀(rs:List (Sum (List Int) (List An)))(i:Nat)(acc:List (List An))(out:List An),(∀own∈acc,okA own)->(∀o,.inr o∈rs->okA o)->goR p i rs acc=.inr out->okA out/\p.form.good=true
 | [],i,acc,out,ha,hr,e=>by
  unfold goR at e;cases ho:opR p acc with
  | none=>rw[ho]at e;cases e
  | some o =>
   rw[ho]at e;cases e;refine⟨opR_ok hw ha ho,?_⟩;unfold opR at ho;split at ho
   ·rename_i hs;exact(zf2 hs).2.1
   ·cases ho
 | .inl pos::rs,i,acc,out,ha,hr,e=>by unfold goR at e;cases e
 | .inr own::rs,i,acc,out,ha,hr,e=>by
  unfold goR at e
  exact qrc hw rs (i+1) _ out (fun o ho=>by
   rcases Qm.1 ho with h|h
   ·exact ha o h
   ·rw[Qy.1 h];exact hr own (by simp)) (fun o ho=>hr o (by simp[ho])) e
theorem zd6 {a x:Nt}(h:x∈a.parts):x.wt+1<=a.wt:=by
 have:=a.wt_eq
 have:=zbz Nt.wt a.parts x h
 have:0<a.parts.length:=List.length_pos_iff_exists_mem.2 ⟨x,h⟩
 omega
theorem zjz:∀(p:Nt),Fit p->∀out,zfd p=.inr out->okA out/\p.form.good=true :=
 zda fun r f l t ps ih hw out e=>by
  rw[zj0]at e
  exact qrc hw _ _ _ _ (fun o ho=>by cases ho) (fun o ho=>by
   obtain⟨q,hq,he⟩:=Ka.1 ho
   exact(ih q hq (hw.sub q hq) o he).1) e
theorem qgc {p:Nt}:∀(rs:List (Sum (List Int) (List An)))(i:Nat)(acc:List (List An))(pos:List Int)(n:Nat),(∀o,.inl o∈rs->o.length+1<=n)->goR p i rs acc=.inl pos->pos.length<=n
 | [],i,acc,pos,n,h,e=>by
  unfold goR at e;split at e
  ·cases e;exact Kd _
  ·cases e
 | .inl q::rs,i,acc,pos,n,h,e=>by unfold goR at e;cases e;exact h q (by simp)
 | .inr own::rs,i,acc,pos,n,h,e=>by
  unfold goR at e;exact qgc rs (i+1) _ pos n (fun o ho=>h o (by simp[ho])) e
theorem zlp:∀(p:Nt)(pos:List Int),zfd p=.inl pos->pos.length<=p.wt :=
 zda fun r f l t ps ih pos e=>by
  rw[zj0]at e
  exact qgc _ _ _ _ _ (fun o ho=>by
   obtain⟨q,hq,he⟩:=Ka.1 ho;have:=zd6 (a:=.mk r f l t ps) hq;have:=ih q hq o he
   omega) e
theorem zyw {α:Type}{xs ys:List α}(h:xs.Perm ys)(p:α->Bool):xs.all p=ys.all p:=by
 rw[Kl,Qx,Qx]
 exact⟨fun h1 x hx=>h1 x (h.mem_iff.2 hx),fun h1 x hx=>h1 x (h.mem_iff.1 hx)⟩
inductive PermL:List (List An)->List (List An)->Prop
 | nil:PermL [] []
 | cons {a b:List An} {as1 bs:List (List An)}:a.Perm b->PermL as1 bs->PermL (a::as1) (b::bs)
theorem PermL.snoc {as1 bs:List (List An)}{a b:List An}(h:PermL as1 bs)(k:a.Perm b):PermL (as1++[a]) (bs++[b]):=by
 induction h with
 | nil=>exact .cons k .nil
 | cons h1 _ ih=>exact .cons h1 ih
theorem PermL.len {as1 bs:List (List An)}(h:PermL as1 bs):as1.length=bs.length:=by
 induction h with
 | nil=>rfl
 | cons _ _ ih=>simp[ih]
theorem PermL.at {as1 bs:List (List An)}(h:PermL as1 bs):∀i,(as1.getD i []).Perm (bs.getD i []):=by
 induction h with
 | nil=>intro i;exact Jn _
 | cons h1 _ ih=>intro i;cases i with|zero=>exact h1|succ i=>exact ih i
theorem PermL.ok {as1 bs:List (List An)}(h:PermL as1 bs)(hb:∀own∈bs,okA own):∀own∈as1,okA own:=by
 induction h with
 | nil=>intro o ho;cases ho
 | cons h1 _ ih =>
  intro o ho;rcases Qp.1 ho with rfl|ho
  ·exact zqo h1.symm (hb _ (by simp))
  ·exact ih (fun o ho=>hb o (by simp[ho])) o ho
theorem zx5 {l:Int}{d:Nat->Bool}{dis:Nat->Fm}{as1 bs:List (List An)}(h:PermL as1 bs):∀(i:Nat)(out' out:List An),out'.Perm out->okA out->(∀own∈bs,okA own)->(opM l d dis i out' as1=none/\opM l d dis i out bs=none)\/∃r r',opM l d dis i out' as1=some r'/\opM l d dis i out bs=some r/\r'.Perm r:=by
 induction h with
 | nil=>intro i out' out hp _ _;exact Or.inr ⟨out,out',rfl,rfl,hp⟩
 | @cons a b as1 bs h1 _ ih =>
  intro i out' out hp ho hb;have hl:(lft a l (d i)).Perm (lft b l (d i)):=h1.filter _;have hn':aNd out':=zfh hp.symm ho.1;have e1:zv6 a l (d i) (dis i)=zv6 b l (d i) (dis i):=zyw h1 _;have e2:zrj out' (lft a l (d i))=zrj out (lft b l (d i)):=by
   unfold zrj;rw[zyw hl];refine congrArg _ (funext fun x=>?_);rw[zfr hp hn']
  have hob:=hb b (by simp);unfold opM;rw[e1,e2];split
  ·exact ih (i+1) _ _ (zyg hp hn' hl) (zu7 ho (zhn hob _)) fun o ho=>hb o (by simp[ho])
  ·exact Or.inl ⟨rfl,rfl⟩
theorem zga {p:Nt}{as1 bs:List (List An)}(h:PermL as1 bs)(hb:∀own∈bs,okA own):(opR p as1=none/\opR p bs=none)\/∃r r',opR p as1=some r'/\opR p bs=some r/\r'.Perm r:=by
 unfold opR
 split
 ·split
  ·exact Or.inr ⟨_,_,rfl,rfl,Jn _⟩
  ·have hla:(zfe p as1 as1.length).Perm (zfe p bs bs.length):=by
    rw[h.len];cases bs.length with
    | zero=>exact Jn _
    | succ n=>exact(h.at n).filter _
   rw[zzw hla];rcases zx5 (l:=p.label) (d:=fun i=>zbh p.rule i) (dis:=zum p) h 0 [] [] (Jn _) zmc hb with⟨e1,e2⟩|⟨r,r',e1,e2,e3⟩
   ·left;unfold opN;simp only[List.drop_zero];rw[e1,e2];exact⟨rfl,rfl⟩
   ·unfold opN;simp only[List.drop_zero];rw[e1,e2];simp only[Ke];split
    ·exact Or.inr ⟨r,r',rfl,rfl,e3⟩
    ·exact Or.inl ⟨rfl,rfl⟩
 ·exact Or.inl ⟨rfl,rfl⟩
end
section
open Go.RowKit
def insK (m:Sum (List Int) (List An))(res:List D):Prop:=match m with
 | .inl pos=>res=[.one .nmp,.one (zd8 pos),bD false]
 | .inr out=>∃ags,ags.Perm out/\res=[.one (anM ags),.one (.sl 1 []),bD true]
theorem qqa:∀l:List Int,flR (l.map fun s=>[T.int .i64 s])=true
 | []=>rfl
 | a::l=>by rw[Qf];unfold flR;rw[qqa l];rfl
theorem qcb (p:Nt)(hw:Fit p)(H:∀x∈p.parts,RX Tryz.prog 54 [ntD x] (insK (zfd x))):RX Tryz.prog 54 [ntD p] (insK (zfd p)):=by
 have hl:p.parts.length<=1048576:=by have:=hw.own;omega
 have HO:=qdv p
 simp only[ntD,zaj p]at HO⊢
 refine zoj Tryz.call54 Tryz.func54 rfl (zao Yo) ?_
 refine zb6.ofEx Yo ?_
 simp -implicitDefEqProofs only[go_sem,Tryz.results54]
 refine zcc Yn ?_
 simp -implicitDefEqProofs only[go_sem]
 refine zag (fun x:Nat×List (List An)=>hd [(1,.one (.bx 1 0)),(5,.one (.ow 416 0)),(15,.one (.rn (ntS p.parts))),(16,vI p.parts.length),(17,vI x.1)] [(1,ntR p)] [(416,⟨false,1,x.2.map fun ags=>[anM ags],0,true⟩)])
  (fun x=>x.1<=p.parts.length/\x.2.length=x.1/\∃acc,zfd p=goR p x.1 ((p.parts.drop x.1).map zfd) acc/\PermL x.2 acc/\(∀own∈acc,okA own)/\∀q∈p.parts.take x.1,q.form.forms=true) (fun x=>p.parts.length-x.1) (0,[]) (zac ?_) ?_ ?_
 ·simp -implicitDefEqProofs only[go_sem,Qa]
 ·exact⟨Kd _,rfl,[],zj0 p,.nil,(fun o ho=>by cases ho),fun q hq=>by cases hq⟩
 ·rintro⟨k,Ls⟩ ⟨hk,hlk,acc,hm,hp,hok,hf⟩;simp only at hk hlk hm hp hf⊢;by_cases hlt:k<p.parts.length
  ·have hmem:p.parts[k]∈p.parts:=Qj hlt;have Hk:=H _ hmem;have hqw:=zd6 hmem;have hwa:=hw.all;have hio:=zjz p.parts[k] (hw.sub _ hmem);have hil:=zlp p.parts[k];rw[Qh hlt,Qf]at hm;have htk:p.parts.take (k+1)=p.parts.take k++[p.parts[k]]:=Qk hlt;simp -implicitDefEqProofs only[go_sem,zan,hlt,zaj p.parts[k],Qa];generalize hq:p.parts[k]=q at *;simp only[ntD,zaj q]at Hk;refine zhq Hk Yn ?_;intro res hres;cases hi:zfd q with
   | inl pos =>
    rw[hi]at hres hm;have hres:res=[.one .nmp,.one (zd8 pos),bD false]:=hres;subst hres;have hpl:=hil pos hi;have hpl2:1+pos.length<=4294967296:=by omega
    have hfl:=qqa pos;simp -implicitDefEqProofs only[go_sem,Qg];refine za7 Yn ?_;simp -implicitDefEqProofs only[go_sem];refine apD true (by simp -implicitDefEqProofs only[go_sem,ne_eq,Q6,Qa,hpl2,hfl]) ?_;simp -implicitDefEqProofs only[go_sem,ne_eq,Q6,Qa,hpl2,hfl];refine⟨[.one .nmp,.one (zd8 ((k:Int)::pos)),bD false],?_,?_⟩
    ·rw[hm];rfl
    ·simp -implicitDefEqProofs only[go_sem,Qf]
   | inr out =>
    rw[hi]at hres hm;obtain⟨ags,hperm,rfl⟩:=hres;obtain⟨ho1,ho2⟩:=hio out hi;simp -implicitDefEqProofs only[go_sem,Qb];refine zcc Yn ?_;simp -implicitDefEqProofs only[go_sem];have hkl:Ls.length<=4294967295:=by omega
    refine apD false (by simp -implicitDefEqProofs only[go_sem,ne_eq,Q6,Qa,hkl]) ?_;simp -implicitDefEqProofs only[go_sem,ne_eq,Q6,Qa,hkl];rw[zap Yp];refine⟨(k+1,Ls++[ags]),⟨hlt,by simp[hlk],acc++[out],hm,hp.snoc hperm,fun o ho=>?_,fun x hx=>?_⟩,by simp only;omega,zac ?_⟩
    ·rcases Qm.1 ho with h|h
     ·exact hok o h
     ·rw[Qy.1 h];exact ho1
    ·rw[htk]at hx;rcases Qm.1 hx with h|h
     ·exact hf x h
     ·rw[Qy.1 h];exact zbt ho2
    ·simp -implicitDefEqProofs only[go_sem,Q2,Qf,Qo]
  ·have hke:k=p.parts.length:=by omega
   subst hke;rw[Kv]at hf;have HO':=HO Ls hw hf hlk (hp.ok hok);have hm2:zfd p=match opR p acc with|none=>.inl []|some out=>.inr out:=by
    rw[hm,Yf];rfl
   simp -implicitDefEqProofs only[go_sem,hlt];refine frzS 416 rfl rfl ?_;simp -implicitDefEqProofs only[go_sem];refine zhq HO' Yn ?_;intro res hres;rcases hres with⟨h1,x,rfl⟩|⟨out,ags,h1,h2,rfl⟩
   ·have e2:opR p acc=none:=by
     rcases zga (p:=p) hp hok with⟨_,e⟩|⟨r,r',e1,_⟩
     ·exact e
     ·rw[e1]at h1;cases h1
    rw[e2]at hm2;simp -implicitDefEqProofs only[go_sem,Qg];refine zcc Yn ?_;simp -implicitDefEqProofs only[go_sem];refine⟨[.one .nmp,.one (zd8 []),bD false],?_,?_⟩
    ·rw[hm2];rfl
    ·simp -implicitDefEqProofs only[go_sem,Qo]
   ·obtain⟨r,e2,e3⟩:∃r,opR p acc=some r/\ags.Perm r:=by
     rcases zga (p:=p) hp hok with⟨e,_⟩|⟨r,r',e1,e2,e3⟩
     ·rw[e]at h1;cases h1
     ·rw[e1]at h1;cases h1;exact⟨r,e2,h2.trans e3⟩
    rw[e2]at hm2;simp -implicitDefEqProofs only[go_sem,Qb];refine⟨[.one (anM ags),.one (.sl 1 []),bD true],?_,?_⟩
    ·rw[hm2];exact⟨ags,e3,rfl⟩
    ·simp -implicitDefEqProofs only[go_sem]
theorem zi9:∀p:Nt,Fit p->RX Tryz.prog 54 [ntD p] (insK (zfd p)) :=
 zda fun r f l t ps ih hw=>qcb (.mk r f l t ps) hw fun x hx=>ih x hx (hw.sub x hx)
end
end Go.Proofs.YtnemmlahbbbobaaGreat
