/-
  What the walk asks of the types of the program.
  Conditions: none.
-/
import Derived.Test.YtgfjbbbkploonaaSxAC
import Derived.Test.YtgfjbbbkploonaaProg
import Derived.KernelRfl
namespace Go.Proofs.Ytgfjbbbkploonaa
theorem nl_0 : nlT Try.prog 0 = 0 := by kernel_rfl
theorem nl_1 : nlT Try.prog 1 = 0 := by kernel_rfl
theorem ag_1 : aggT Try.prog 1 = some false := by kernel_rfl
theorem sz_1 : sizeT Try.prog 1 = some 1 := by kernel_rfl
theorem ze_1 : zeroT Try.prog 1 = some [.cv .nilFunc] := by kernel_rfl
theorem nl_2 : nlT Try.prog 2 = 0 := by kernel_rfl
theorem ag_2 : aggT Try.prog 2 = some false := by kernel_rfl
theorem sz_2 : sizeT Try.prog 2 = some 1 := by kernel_rfl
theorem in_2 : intT Try.prog 2 = some .i64 := by kernel_rfl
theorem ze_2 : zeroT Try.prog 2 = some [.t (.int .i64 0)] := by kernel_rfl
theorem nl_3 : nlT Try.prog 3 = 0 := by kernel_rfl
theorem ag_3 : aggT Try.prog 3 = some false := by kernel_rfl
theorem sz_3 : sizeT Try.prog 3 = some 1 := by kernel_rfl
theorem in_3 : intT Try.prog 3 = some .i64 := by kernel_rfl
theorem ze_3 : zeroT Try.prog 3 = some [.t (.int .i64 0)] := by kernel_rfl
theorem nl_4 : nlT Try.prog 4 = 0 := by kernel_rfl
theorem ag_4 : aggT Try.prog 4 = some false := by kernel_rfl
theorem sz_4 : sizeT Try.prog 4 = some 1 := by kernel_rfl
theorem bo_4 : boolT Try.prog 4 = true := by kernel_rfl
theorem ze_4 : zeroT Try.prog 4 = some [.t (.bool false)] := by kernel_rfl
theorem nl_5 : nlT Try.prog 5 = 0 := by kernel_rfl
theorem ag_5 : aggT Try.prog 5 = some false := by kernel_rfl
theorem sz_5 : sizeT Try.prog 5 = some 1 := by kernel_rfl
theorem in_5 : intT Try.prog 5 = some .u8 := by kernel_rfl
theorem ze_5 : zeroT Try.prog 5 = some [.t (.int .u8 0)] := by kernel_rfl
theorem nl_6 : nlT Try.prog 6 = 0 := by kernel_rfl
theorem ag_6 : aggT Try.prog 6 = some false := by kernel_rfl
theorem sz_6 : sizeT Try.prog 6 = some 1 := by kernel_rfl
theorem in_6 : intT Try.prog 6 = some .u8 := by kernel_rfl
theorem ze_6 : zeroT Try.prog 6 = some [.t (.int .u8 0)] := by kernel_rfl
theorem nl_7 : nlT Try.prog 7 = 0 := by kernel_rfl
theorem ag_7 : aggT Try.prog 7 = some true := by kernel_rfl
theorem sz_7 : sizeT Try.prog 7 = some 4 := by kernel_rfl
theorem ze_7 : zeroT Try.prog 7 = some [.t (.int .i64 0), .t (.int .i64 0), .t (.bool false), .t (.int .u8 0)] := by kernel_rfl
theorem pl_7 : plsT Try.prog 7 = some [(0, 1), (1, 1), (2, 1), (3, 1)] := by kernel_rfl
theorem fl_7_0 : fldT Try.prog 7 0 = some (0, 2) := by kernel_rfl
theorem ft_7_0 : ftyT Try.prog 7 0 = 2 := by kernel_rfl
theorem fl_7_1 : fldT Try.prog 7 1 = some (1, 3) := by kernel_rfl
theorem ft_7_1 : ftyT Try.prog 7 1 = 3 := by kernel_rfl
theorem fl_7_2 : fldT Try.prog 7 2 = some (2, 4) := by kernel_rfl
theorem ft_7_2 : ftyT Try.prog 7 2 = 4 := by kernel_rfl
theorem fl_7_3 : fldT Try.prog 7 3 = some (3, 6) := by kernel_rfl
theorem ft_7_3 : ftyT Try.prog 7 3 = 6 := by kernel_rfl
theorem nl_8 : nlT Try.prog 8 = 0 := by kernel_rfl
theorem ag_8 : aggT Try.prog 8 = some true := by kernel_rfl
theorem sz_8 : sizeT Try.prog 8 = some 4 := by kernel_rfl
theorem ze_8 : zeroT Try.prog 8 = some [.t (.int .i64 0), .t (.int .i64 0), .t (.bool false), .t (.int .u8 0)] := by kernel_rfl
theorem pl_8 : plsT Try.prog 8 = some [(0, 1), (1, 1), (2, 1), (3, 1)] := by kernel_rfl
theorem fl_8_0 : fldT Try.prog 8 0 = some (0, 2) := by kernel_rfl
theorem ft_8_0 : ftyT Try.prog 8 0 = 2 := by kernel_rfl
theorem fl_8_1 : fldT Try.prog 8 1 = some (1, 3) := by kernel_rfl
theorem ft_8_1 : ftyT Try.prog 8 1 = 3 := by kernel_rfl
theorem fl_8_2 : fldT Try.prog 8 2 = some (2, 4) := by kernel_rfl
theorem ft_8_2 : ftyT Try.prog 8 2 = 4 := by kernel_rfl
theorem fl_8_3 : fldT Try.prog 8 3 = some (3, 6) := by kernel_rfl
theorem ft_8_3 : ftyT Try.prog 8 3 = 6 := by kernel_rfl
theorem nl_9 : nlT Try.prog 9 = 0 := by kernel_rfl
theorem ag_9 : aggT Try.prog 9 = some false := by kernel_rfl
theorem sz_9 : sizeT Try.prog 9 = some 1 := by kernel_rfl
theorem st_9 : strT Try.prog 9 = true := by kernel_rfl
theorem ze_9 : zeroT Try.prog 9 = some [.t (.str [])] := by kernel_rfl
theorem nl_10 : nlT Try.prog 10 = 0 := by kernel_rfl
theorem ag_10 : aggT Try.prog 10 = some false := by kernel_rfl
theorem sz_10 : sizeT Try.prog 10 = some 1 := by kernel_rfl
theorem st_10 : strT Try.prog 10 = true := by kernel_rfl
theorem ze_10 : zeroT Try.prog 10 = some [.t (.str [])] := by kernel_rfl
theorem nl_11 : nlT Try.prog 11 = 0 := by kernel_rfl
theorem ag_11 : aggT Try.prog 11 = some false := by kernel_rfl
theorem sz_11 : sizeT Try.prog 11 = some 1 := by kernel_rfl
theorem st_11 : strT Try.prog 11 = true := by kernel_rfl
theorem ze_11 : zeroT Try.prog 11 = some [.t (.str [])] := by kernel_rfl
theorem nl_12 : nlT Try.prog 12 = 0 := by kernel_rfl
theorem ag_12 : aggT Try.prog 12 = some false := by kernel_rfl
theorem sz_12 : sizeT Try.prog 12 = some 1 := by kernel_rfl
theorem in_12 : intT Try.prog 12 = some .u64 := by kernel_rfl
theorem ze_12 : zeroT Try.prog 12 = some [.t (.int .u64 0)] := by kernel_rfl
theorem nl_13 : nlT Try.prog 13 = 0 := by kernel_rfl
theorem ag_13 : aggT Try.prog 13 = some true := by kernel_rfl
theorem sz_13 : sizeT Try.prog 13 = some 2 := by kernel_rfl
theorem ze_13 : zeroT Try.prog 13 = some [.t (.str []), .t (.int .u64 0)] := by kernel_rfl
theorem pl_13 : plsT Try.prog 13 = some [(0, 1), (1, 1)] := by kernel_rfl
theorem fl_13_0 : fldT Try.prog 13 0 = some (0, 9) := by kernel_rfl
theorem ft_13_0 : ftyT Try.prog 13 0 = 9 := by kernel_rfl
theorem fl_13_1 : fldT Try.prog 13 1 = some (1, 12) := by kernel_rfl
theorem ft_13_1 : ftyT Try.prog 13 1 = 12 := by kernel_rfl
theorem nl_14 : nlT Try.prog 14 = 0 := by kernel_rfl
theorem ag_14 : aggT Try.prog 14 = some true := by kernel_rfl
theorem sz_14 : sizeT Try.prog 14 = some 2 := by kernel_rfl
theorem ze_14 : zeroT Try.prog 14 = some [.t (.str []), .t (.int .u64 0)] := by kernel_rfl
theorem pl_14 : plsT Try.prog 14 = some [(0, 1), (1, 1)] := by kernel_rfl
theorem fl_14_0 : fldT Try.prog 14 0 = some (0, 9) := by kernel_rfl
theorem ft_14_0 : ftyT Try.prog 14 0 = 9 := by kernel_rfl
theorem fl_14_1 : fldT Try.prog 14 1 = some (1, 12) := by kernel_rfl
theorem ft_14_1 : ftyT Try.prog 14 1 = 12 := by kernel_rfl
theorem nl_15 : nlT Try.prog 15 = 0 := by kernel_rfl
theorem ag_15 : aggT Try.prog 15 = some false := by kernel_rfl
theorem sz_15 : sizeT Try.prog 15 = some 1 := by kernel_rfl
theorem ze_15 : zeroT Try.prog 15 = some [.cv (.pointer none)] := by kernel_rfl
theorem nl_16 : nlT Try.prog 16 = 0 := by kernel_rfl
theorem ag_16 : aggT Try.prog 16 = some false := by kernel_rfl
theorem sz_16 : sizeT Try.prog 16 = some 1 := by kernel_rfl
theorem ze_16 : zeroT Try.prog 16 = some [.cv (.pointer none)] := by kernel_rfl
theorem nl_17 : nlT Try.prog 17 = 0 := by kernel_rfl
theorem ag_17 : aggT Try.prog 17 = some false := by kernel_rfl
theorem sz_17 : sizeT Try.prog 17 = some 1 := by kernel_rfl
theorem ze_17 : zeroT Try.prog 17 = some [.cv (.pointer none)] := by kernel_rfl
theorem nl_18 : nlT Try.prog 18 = 0 := by kernel_rfl
theorem ag_18 : aggT Try.prog 18 = some true := by kernel_rfl
theorem sz_18 : sizeT Try.prog 18 = some 1 := by kernel_rfl
theorem ze_18 : zeroT Try.prog 18 = some [.cv (.pointer none)] := by kernel_rfl
theorem pl_18 : plsT Try.prog 18 = some [(0, 1)] := by kernel_rfl
theorem fl_18_0 : fldT Try.prog 18 0 = some (0, 17) := by kernel_rfl
theorem ft_18_0 : ftyT Try.prog 18 0 = 17 := by kernel_rfl
theorem nl_19 : nlT Try.prog 19 = 0 := by kernel_rfl
theorem ag_19 : aggT Try.prog 19 = some true := by kernel_rfl
theorem sz_19 : sizeT Try.prog 19 = some 1 := by kernel_rfl
theorem ze_19 : zeroT Try.prog 19 = some [.cv (.pointer none)] := by kernel_rfl
theorem pl_19 : plsT Try.prog 19 = some [(0, 1)] := by kernel_rfl
theorem fl_19_0 : fldT Try.prog 19 0 = some (0, 17) := by kernel_rfl
theorem ft_19_0 : ftyT Try.prog 19 0 = 17 := by kernel_rfl
theorem nl_20 : nlT Try.prog 20 = 0 := by kernel_rfl
theorem ag_20 : aggT Try.prog 20 = some false := by kernel_rfl
theorem sz_20 : sizeT Try.prog 20 = some 1 := by kernel_rfl
theorem ze_20 : zeroT Try.prog 20 = some [.cv .nilIface] := by kernel_rfl
theorem nl_21 : nlT Try.prog 21 = 0 := by kernel_rfl
theorem ag_21 : aggT Try.prog 21 = some false := by kernel_rfl
theorem sz_21 : sizeT Try.prog 21 = some 1 := by kernel_rfl
theorem in_21 : intT Try.prog 21 = some .i32 := by kernel_rfl
theorem ze_21 : zeroT Try.prog 21 = some [.t (.int .i32 0)] := by kernel_rfl
theorem nl_22 : nlT Try.prog 22 = 5 := by kernel_rfl
theorem ag_22 : aggT Try.prog 22 = some false := by kernel_rfl
theorem sz_22 : sizeT Try.prog 22 = some 1 := by kernel_rfl
theorem el_22 : elT Try.prog 22 = some 49 := by kernel_rfl
theorem by_49_22 : bytesT Try.prog 49 = some 88 := by kernel_rfl
theorem ze_22 : zeroT Try.prog 22 = some [.nl 5] := by kernel_rfl
theorem nl_23 : nlT Try.prog 23 = 0 := by kernel_rfl
theorem ag_23 : aggT Try.prog 23 = some true := by kernel_rfl
theorem sz_23 : sizeT Try.prog 23 = some 2 := by kernel_rfl
theorem ze_23 : zeroT Try.prog 23 = some [.nl 5, .nl 5] := by kernel_rfl
theorem pl_23 : plsT Try.prog 23 = some [(0, 1), (1, 1)] := by kernel_rfl
theorem fl_23_0 : fldT Try.prog 23 0 = some (0, 22) := by kernel_rfl
theorem ft_23_0 : ftyT Try.prog 23 0 = 22 := by kernel_rfl
theorem fl_23_1 : fldT Try.prog 23 1 = some (1, 22) := by kernel_rfl
theorem ft_23_1 : ftyT Try.prog 23 1 = 22 := by kernel_rfl
theorem nl_24 : nlT Try.prog 24 = 0 := by kernel_rfl
theorem ag_24 : aggT Try.prog 24 = some true := by kernel_rfl
theorem sz_24 : sizeT Try.prog 24 = some 2 := by kernel_rfl
theorem ze_24 : zeroT Try.prog 24 = some [.nl 5, .nl 5] := by kernel_rfl
theorem pl_24 : plsT Try.prog 24 = some [(0, 1), (1, 1)] := by kernel_rfl
theorem fl_24_0 : fldT Try.prog 24 0 = some (0, 22) := by kernel_rfl
theorem ft_24_0 : ftyT Try.prog 24 0 = 22 := by kernel_rfl
theorem fl_24_1 : fldT Try.prog 24 1 = some (1, 22) := by kernel_rfl
theorem ft_24_1 : ftyT Try.prog 24 1 = 22 := by kernel_rfl
theorem nl_25 : nlT Try.prog 25 = 0 := by kernel_rfl
theorem ag_25 : aggT Try.prog 25 = some false := by kernel_rfl
theorem sz_25 : sizeT Try.prog 25 = some 1 := by kernel_rfl
theorem ze_25 : zeroT Try.prog 25 = some [.cv .nilFunc] := by kernel_rfl
theorem nl_26 : nlT Try.prog 26 = 0 := by kernel_rfl
theorem ag_26 : aggT Try.prog 26 = some false := by kernel_rfl
theorem sz_26 : sizeT Try.prog 26 = some 1 := by kernel_rfl
theorem ze_26 : zeroT Try.prog 26 = some [.cv .nilFunc] := by kernel_rfl
theorem nl_27 : nlT Try.prog 27 = 5 := by kernel_rfl
theorem ag_27 : aggT Try.prog 27 = some false := by kernel_rfl
theorem sz_27 : sizeT Try.prog 27 = some 1 := by kernel_rfl
theorem el_27 : elT Try.prog 27 = some 37 := by kernel_rfl
theorem by_37_27 : bytesT Try.prog 37 = some 88 := by kernel_rfl
theorem ze_27 : zeroT Try.prog 27 = some [.nl 5] := by kernel_rfl
theorem nl_28 : nlT Try.prog 28 = 0 := by kernel_rfl
theorem ag_28 : aggT Try.prog 28 = some true := by kernel_rfl
theorem sz_28 : sizeT Try.prog 28 = some 2 := by kernel_rfl
theorem ze_28 : zeroT Try.prog 28 = some [.nl 5, .nl 5] := by kernel_rfl
theorem pl_28 : plsT Try.prog 28 = some [(0, 1), (1, 1)] := by kernel_rfl
theorem fl_28_0 : fldT Try.prog 28 0 = some (0, 27) := by kernel_rfl
theorem ft_28_0 : ftyT Try.prog 28 0 = 27 := by kernel_rfl
theorem fl_28_1 : fldT Try.prog 28 1 = some (1, 27) := by kernel_rfl
theorem ft_28_1 : ftyT Try.prog 28 1 = 27 := by kernel_rfl
theorem nl_29 : nlT Try.prog 29 = 0 := by kernel_rfl
theorem ag_29 : aggT Try.prog 29 = some true := by kernel_rfl
theorem sz_29 : sizeT Try.prog 29 = some 2 := by kernel_rfl
theorem ze_29 : zeroT Try.prog 29 = some [.nl 5, .nl 5] := by kernel_rfl
theorem pl_29 : plsT Try.prog 29 = some [(0, 1), (1, 1)] := by kernel_rfl
theorem fl_29_0 : fldT Try.prog 29 0 = some (0, 27) := by kernel_rfl
theorem ft_29_0 : ftyT Try.prog 29 0 = 27 := by kernel_rfl
theorem fl_29_1 : fldT Try.prog 29 1 = some (1, 27) := by kernel_rfl
theorem ft_29_1 : ftyT Try.prog 29 1 = 27 := by kernel_rfl
theorem nl_30 : nlT Try.prog 30 = 0 := by kernel_rfl
theorem ag_30 : aggT Try.prog 30 = some false := by kernel_rfl
theorem sz_30 : sizeT Try.prog 30 = some 1 := by kernel_rfl
theorem ze_30 : zeroT Try.prog 30 = some [.cv .nilFunc] := by kernel_rfl
theorem nl_31 : nlT Try.prog 31 = 0 := by kernel_rfl
theorem ag_31 : aggT Try.prog 31 = some false := by kernel_rfl
theorem sz_31 : sizeT Try.prog 31 = some 1 := by kernel_rfl
theorem ze_31 : zeroT Try.prog 31 = some [.cv .nilFunc] := by kernel_rfl
theorem nl_32 : nlT Try.prog 32 = 0 := by kernel_rfl
theorem ag_32 : aggT Try.prog 32 = some false := by kernel_rfl
theorem sz_32 : sizeT Try.prog 32 = some 1 := by kernel_rfl
theorem ze_32 : zeroT Try.prog 32 = some [.cv .nilFunc] := by kernel_rfl
theorem nl_33 : nlT Try.prog 33 = 2 := by kernel_rfl
theorem ag_33 : aggT Try.prog 33 = some false := by kernel_rfl
theorem sz_33 : sizeT Try.prog 33 = some 1 := by kernel_rfl
theorem el_33 : elT Try.prog 33 = some 35 := by kernel_rfl
theorem by_35_33 : bytesT Try.prog 35 = some 40 := by kernel_rfl
theorem ze_33 : zeroT Try.prog 33 = some [.nl 2] := by kernel_rfl
theorem nl_34 : nlT Try.prog 34 = 0 := by kernel_rfl
theorem ag_34 : aggT Try.prog 34 = some true := by kernel_rfl
theorem sz_34 : sizeT Try.prog 34 = some 2 := by kernel_rfl
theorem ze_34 : zeroT Try.prog 34 = some [.t (.str []), .nl 2] := by kernel_rfl
theorem pl_34 : plsT Try.prog 34 = some [(0, 1), (1, 1)] := by kernel_rfl
theorem fl_34_0 : fldT Try.prog 34 0 = some (0, 9) := by kernel_rfl
theorem ft_34_0 : ftyT Try.prog 34 0 = 9 := by kernel_rfl
theorem fl_34_1 : fldT Try.prog 34 1 = some (1, 33) := by kernel_rfl
theorem ft_34_1 : ftyT Try.prog 34 1 = 33 := by kernel_rfl
theorem nl_35 : nlT Try.prog 35 = 0 := by kernel_rfl
theorem ag_35 : aggT Try.prog 35 = some true := by kernel_rfl
theorem sz_35 : sizeT Try.prog 35 = some 2 := by kernel_rfl
theorem ze_35 : zeroT Try.prog 35 = some [.t (.str []), .nl 2] := by kernel_rfl
theorem pl_35 : plsT Try.prog 35 = some [(0, 1), (1, 1)] := by kernel_rfl
theorem fl_35_0 : fldT Try.prog 35 0 = some (0, 9) := by kernel_rfl
theorem ft_35_0 : ftyT Try.prog 35 0 = 9 := by kernel_rfl
theorem fl_35_1 : fldT Try.prog 35 1 = some (1, 33) := by kernel_rfl
theorem ft_35_1 : ftyT Try.prog 35 1 = 33 := by kernel_rfl
theorem nl_36 : nlT Try.prog 36 = 0 := by kernel_rfl
theorem ag_36 : aggT Try.prog 36 = some true := by kernel_rfl
theorem sz_36 : sizeT Try.prog 36 = some 5 := by kernel_rfl
theorem ze_36 : zeroT Try.prog 36 = some [.t (.int .i64 0), .t (.str []), .nl 2, .t (.str []), .nl 5] := by kernel_rfl
theorem pl_36 : plsT Try.prog 36 = some [(0, 1), (1, 2), (3, 1), (4, 1)] := by kernel_rfl
theorem fl_36_0 : fldT Try.prog 36 0 = some (0, 3) := by kernel_rfl
theorem ft_36_0 : ftyT Try.prog 36 0 = 3 := by kernel_rfl
theorem fl_36_1 : fldT Try.prog 36 1 = some (1, 35) := by kernel_rfl
theorem ft_36_1 : ftyT Try.prog 36 1 = 35 := by kernel_rfl
theorem fl_36_2 : fldT Try.prog 36 2 = some (3, 9) := by kernel_rfl
theorem ft_36_2 : ftyT Try.prog 36 2 = 9 := by kernel_rfl
theorem fl_36_3 : fldT Try.prog 36 3 = some (4, 27) := by kernel_rfl
theorem ft_36_3 : ftyT Try.prog 36 3 = 27 := by kernel_rfl
theorem nl_37 : nlT Try.prog 37 = 0 := by kernel_rfl
theorem ag_37 : aggT Try.prog 37 = some true := by kernel_rfl
theorem sz_37 : sizeT Try.prog 37 = some 5 := by kernel_rfl
theorem ze_37 : zeroT Try.prog 37 = some [.t (.int .i64 0), .t (.str []), .nl 2, .t (.str []), .nl 5] := by kernel_rfl
theorem pl_37 : plsT Try.prog 37 = some [(0, 1), (1, 2), (3, 1), (4, 1)] := by kernel_rfl
theorem fl_37_0 : fldT Try.prog 37 0 = some (0, 3) := by kernel_rfl
theorem ft_37_0 : ftyT Try.prog 37 0 = 3 := by kernel_rfl
theorem fl_37_1 : fldT Try.prog 37 1 = some (1, 35) := by kernel_rfl
theorem ft_37_1 : ftyT Try.prog 37 1 = 35 := by kernel_rfl
theorem fl_37_2 : fldT Try.prog 37 2 = some (3, 9) := by kernel_rfl
theorem ft_37_2 : ftyT Try.prog 37 2 = 9 := by kernel_rfl
theorem fl_37_3 : fldT Try.prog 37 3 = some (4, 27) := by kernel_rfl
theorem ft_37_3 : ftyT Try.prog 37 3 = 27 := by kernel_rfl
theorem nl_38 : nlT Try.prog 38 = 0 := by kernel_rfl
theorem nl_39 : nlT Try.prog 39 = 0 := by kernel_rfl
theorem ag_39 : aggT Try.prog 39 = some false := by kernel_rfl
theorem sz_39 : sizeT Try.prog 39 = some 1 := by kernel_rfl
theorem ze_39 : zeroT Try.prog 39 = some [.cv .nilFunc] := by kernel_rfl
theorem nl_40 : nlT Try.prog 40 = 0 := by kernel_rfl
theorem ag_40 : aggT Try.prog 40 = some false := by kernel_rfl
theorem sz_40 : sizeT Try.prog 40 = some 1 := by kernel_rfl
theorem ze_40 : zeroT Try.prog 40 = some [.cv .nilFunc] := by kernel_rfl
theorem nl_41 : nlT Try.prog 41 = 0 := by kernel_rfl
theorem ag_41 : aggT Try.prog 41 = some false := by kernel_rfl
theorem sz_41 : sizeT Try.prog 41 = some 1 := by kernel_rfl
theorem ze_41 : zeroT Try.prog 41 = some [.cv .nilFunc] := by kernel_rfl
theorem nl_42 : nlT Try.prog 42 = 0 := by kernel_rfl
theorem ag_42 : aggT Try.prog 42 = some false := by kernel_rfl
theorem sz_42 : sizeT Try.prog 42 = some 1 := by kernel_rfl
theorem ze_42 : zeroT Try.prog 42 = some [.cv .nilFunc] := by kernel_rfl
theorem nl_43 : nlT Try.prog 43 = 0 := by kernel_rfl
theorem nl_44 : nlT Try.prog 44 = 0 := by kernel_rfl
theorem ag_44 : aggT Try.prog 44 = some false := by kernel_rfl
theorem sz_44 : sizeT Try.prog 44 = some 1 := by kernel_rfl
theorem ze_44 : zeroT Try.prog 44 = some [.cv .nilFunc] := by kernel_rfl
theorem nl_45 : nlT Try.prog 45 = 2 := by kernel_rfl
theorem ag_45 : aggT Try.prog 45 = some false := by kernel_rfl
theorem sz_45 : sizeT Try.prog 45 = some 1 := by kernel_rfl
theorem el_45 : elT Try.prog 45 = some 47 := by kernel_rfl
theorem by_47_45 : bytesT Try.prog 47 = some 40 := by kernel_rfl
theorem ze_45 : zeroT Try.prog 45 = some [.nl 2] := by kernel_rfl
theorem nl_46 : nlT Try.prog 46 = 0 := by kernel_rfl
theorem ag_46 : aggT Try.prog 46 = some true := by kernel_rfl
theorem sz_46 : sizeT Try.prog 46 = some 2 := by kernel_rfl
theorem ze_46 : zeroT Try.prog 46 = some [.t (.str []), .nl 2] := by kernel_rfl
theorem pl_46 : plsT Try.prog 46 = some [(0, 1), (1, 1)] := by kernel_rfl
theorem fl_46_0 : fldT Try.prog 46 0 = some (0, 9) := by kernel_rfl
theorem ft_46_0 : ftyT Try.prog 46 0 = 9 := by kernel_rfl
theorem fl_46_1 : fldT Try.prog 46 1 = some (1, 45) := by kernel_rfl
theorem ft_46_1 : ftyT Try.prog 46 1 = 45 := by kernel_rfl
theorem nl_47 : nlT Try.prog 47 = 0 := by kernel_rfl
theorem ag_47 : aggT Try.prog 47 = some true := by kernel_rfl
theorem sz_47 : sizeT Try.prog 47 = some 2 := by kernel_rfl
theorem ze_47 : zeroT Try.prog 47 = some [.t (.str []), .nl 2] := by kernel_rfl
theorem pl_47 : plsT Try.prog 47 = some [(0, 1), (1, 1)] := by kernel_rfl
theorem fl_47_0 : fldT Try.prog 47 0 = some (0, 9) := by kernel_rfl
theorem ft_47_0 : ftyT Try.prog 47 0 = 9 := by kernel_rfl
theorem fl_47_1 : fldT Try.prog 47 1 = some (1, 45) := by kernel_rfl
theorem ft_47_1 : ftyT Try.prog 47 1 = 45 := by kernel_rfl
theorem nl_48 : nlT Try.prog 48 = 0 := by kernel_rfl
theorem ag_48 : aggT Try.prog 48 = some true := by kernel_rfl
theorem sz_48 : sizeT Try.prog 48 = some 5 := by kernel_rfl
theorem ze_48 : zeroT Try.prog 48 = some [.t (.int .i64 0), .t (.str []), .nl 2, .t (.str []), .nl 5] := by kernel_rfl
theorem pl_48 : plsT Try.prog 48 = some [(0, 1), (1, 2), (3, 1), (4, 1)] := by kernel_rfl
theorem fl_48_0 : fldT Try.prog 48 0 = some (0, 3) := by kernel_rfl
theorem ft_48_0 : ftyT Try.prog 48 0 = 3 := by kernel_rfl
theorem fl_48_1 : fldT Try.prog 48 1 = some (1, 47) := by kernel_rfl
theorem ft_48_1 : ftyT Try.prog 48 1 = 47 := by kernel_rfl
theorem fl_48_2 : fldT Try.prog 48 2 = some (3, 9) := by kernel_rfl
theorem ft_48_2 : ftyT Try.prog 48 2 = 9 := by kernel_rfl
theorem fl_48_3 : fldT Try.prog 48 3 = some (4, 22) := by kernel_rfl
theorem ft_48_3 : ftyT Try.prog 48 3 = 22 := by kernel_rfl
theorem nl_49 : nlT Try.prog 49 = 0 := by kernel_rfl
theorem ag_49 : aggT Try.prog 49 = some true := by kernel_rfl
theorem sz_49 : sizeT Try.prog 49 = some 5 := by kernel_rfl
theorem ze_49 : zeroT Try.prog 49 = some [.t (.int .i64 0), .t (.str []), .nl 2, .t (.str []), .nl 5] := by kernel_rfl
theorem pl_49 : plsT Try.prog 49 = some [(0, 1), (1, 2), (3, 1), (4, 1)] := by kernel_rfl
theorem fl_49_0 : fldT Try.prog 49 0 = some (0, 3) := by kernel_rfl
theorem ft_49_0 : ftyT Try.prog 49 0 = 3 := by kernel_rfl
theorem fl_49_1 : fldT Try.prog 49 1 = some (1, 47) := by kernel_rfl
theorem ft_49_1 : ftyT Try.prog 49 1 = 47 := by kernel_rfl
theorem fl_49_2 : fldT Try.prog 49 2 = some (3, 9) := by kernel_rfl
theorem ft_49_2 : ftyT Try.prog 49 2 = 9 := by kernel_rfl
theorem fl_49_3 : fldT Try.prog 49 3 = some (4, 22) := by kernel_rfl
theorem ft_49_3 : ftyT Try.prog 49 3 = 22 := by kernel_rfl
theorem nl_50 : nlT Try.prog 50 = 0 := by kernel_rfl
theorem ag_50 : aggT Try.prog 50 = some false := by kernel_rfl
theorem sz_50 : sizeT Try.prog 50 = some 1 := by kernel_rfl
theorem ze_50 : zeroT Try.prog 50 = some [.cv .nilFunc] := by kernel_rfl
theorem nl_51 : nlT Try.prog 51 = 0 := by kernel_rfl
theorem ag_51 : aggT Try.prog 51 = some false := by kernel_rfl
theorem sz_51 : sizeT Try.prog 51 = some 1 := by kernel_rfl
theorem ze_51 : zeroT Try.prog 51 = some [.cv .nilFunc] := by kernel_rfl
theorem nl_52 : nlT Try.prog 52 = 0 := by kernel_rfl
theorem ag_52 : aggT Try.prog 52 = some false := by kernel_rfl
theorem sz_52 : sizeT Try.prog 52 = some 1 := by kernel_rfl
theorem ze_52 : zeroT Try.prog 52 = some [.cv .nilFunc] := by kernel_rfl
theorem nl_53 : nlT Try.prog 53 = 0 := by kernel_rfl
theorem ag_53 : aggT Try.prog 53 = some false := by kernel_rfl
theorem sz_53 : sizeT Try.prog 53 = some 1 := by kernel_rfl
theorem ze_53 : zeroT Try.prog 53 = some [.cv .nilFunc] := by kernel_rfl
theorem nl_54 : nlT Try.prog 54 = 0 := by kernel_rfl
theorem ag_54 : aggT Try.prog 54 = some false := by kernel_rfl
theorem sz_54 : sizeT Try.prog 54 = some 1 := by kernel_rfl
theorem ze_54 : zeroT Try.prog 54 = some [.cv .nilFunc] := by kernel_rfl
theorem nl_55 : nlT Try.prog 55 = 0 := by kernel_rfl
theorem ag_55 : aggT Try.prog 55 = some false := by kernel_rfl
theorem sz_55 : sizeT Try.prog 55 = some 1 := by kernel_rfl
theorem ze_55 : zeroT Try.prog 55 = some [.cv .nilFunc] := by kernel_rfl
theorem nl_56 : nlT Try.prog 56 = 0 := by kernel_rfl
theorem ag_56 : aggT Try.prog 56 = some false := by kernel_rfl
theorem sz_56 : sizeT Try.prog 56 = some 1 := by kernel_rfl
theorem ze_56 : zeroT Try.prog 56 = some [.cv .nilFunc] := by kernel_rfl
theorem nl_57 : nlT Try.prog 57 = 0 := by kernel_rfl
theorem ag_57 : aggT Try.prog 57 = some false := by kernel_rfl
theorem sz_57 : sizeT Try.prog 57 = some 1 := by kernel_rfl
theorem ze_57 : zeroT Try.prog 57 = some [.cv .nilFunc] := by kernel_rfl
theorem nl_58 : nlT Try.prog 58 = 0 := by kernel_rfl
theorem ag_58 : aggT Try.prog 58 = some false := by kernel_rfl
theorem sz_58 : sizeT Try.prog 58 = some 1 := by kernel_rfl
theorem ze_58 : zeroT Try.prog 58 = some [.cv .nilFunc] := by kernel_rfl
theorem nl_59 : nlT Try.prog 59 = 0 := by kernel_rfl
theorem ag_59 : aggT Try.prog 59 = some false := by kernel_rfl
theorem sz_59 : sizeT Try.prog 59 = some 1 := by kernel_rfl
theorem ze_59 : zeroT Try.prog 59 = some [.cv .nilFunc] := by kernel_rfl
theorem nl_60 : nlT Try.prog 60 = 0 := by kernel_rfl
theorem ag_60 : aggT Try.prog 60 = some false := by kernel_rfl
theorem sz_60 : sizeT Try.prog 60 = some 1 := by kernel_rfl
theorem ze_60 : zeroT Try.prog 60 = some [.cv .nilFunc] := by kernel_rfl
theorem nl_61 : nlT Try.prog 61 = 0 := by kernel_rfl
theorem ag_61 : aggT Try.prog 61 = some false := by kernel_rfl
theorem sz_61 : sizeT Try.prog 61 = some 1 := by kernel_rfl
theorem ze_61 : zeroT Try.prog 61 = some [.cv .nilFunc] := by kernel_rfl
theorem nl_62 : nlT Try.prog 62 = 0 := by kernel_rfl
theorem ag_62 : aggT Try.prog 62 = some false := by kernel_rfl
theorem sz_62 : sizeT Try.prog 62 = some 1 := by kernel_rfl
theorem ze_62 : zeroT Try.prog 62 = some [.cv .nilFunc] := by kernel_rfl
theorem nl_63 : nlT Try.prog 63 = 0 := by kernel_rfl
theorem ag_63 : aggT Try.prog 63 = some false := by kernel_rfl
theorem sz_63 : sizeT Try.prog 63 = some 1 := by kernel_rfl
theorem ze_63 : zeroT Try.prog 63 = some [.cv .nilFunc] := by kernel_rfl
theorem nl_64 : nlT Try.prog 64 = 0 := by kernel_rfl
theorem ag_64 : aggT Try.prog 64 = some false := by kernel_rfl
theorem sz_64 : sizeT Try.prog 64 = some 1 := by kernel_rfl
theorem ze_64 : zeroT Try.prog 64 = some [.cv .nilFunc] := by kernel_rfl
theorem nl_65 : nlT Try.prog 65 = 0 := by kernel_rfl
theorem ag_65 : aggT Try.prog 65 = some false := by kernel_rfl
theorem sz_65 : sizeT Try.prog 65 = some 1 := by kernel_rfl
theorem ze_65 : zeroT Try.prog 65 = some [.cv .nilFunc] := by kernel_rfl
theorem nl_66 : nlT Try.prog 66 = 0 := by kernel_rfl
theorem ag_66 : aggT Try.prog 66 = some false := by kernel_rfl
theorem sz_66 : sizeT Try.prog 66 = some 1 := by kernel_rfl
theorem ze_66 : zeroT Try.prog 66 = some [.cv .nilFunc] := by kernel_rfl
theorem nl_67 : nlT Try.prog 67 = 0 := by kernel_rfl
theorem ag_67 : aggT Try.prog 67 = some false := by kernel_rfl
theorem sz_67 : sizeT Try.prog 67 = some 1 := by kernel_rfl
theorem ze_67 : zeroT Try.prog 67 = some [.cv .nilFunc] := by kernel_rfl
theorem nl_68 : nlT Try.prog 68 = 0 := by kernel_rfl
theorem ag_68 : aggT Try.prog 68 = some false := by kernel_rfl
theorem sz_68 : sizeT Try.prog 68 = some 1 := by kernel_rfl
theorem ze_68 : zeroT Try.prog 68 = some [.cv .nilFunc] := by kernel_rfl
theorem nl_69 : nlT Try.prog 69 = 0 := by kernel_rfl
theorem ag_69 : aggT Try.prog 69 = some false := by kernel_rfl
theorem sz_69 : sizeT Try.prog 69 = some 1 := by kernel_rfl
theorem ze_69 : zeroT Try.prog 69 = some [.cv .nilFunc] := by kernel_rfl
theorem nl_70 : nlT Try.prog 70 = 0 := by kernel_rfl
theorem ag_70 : aggT Try.prog 70 = some false := by kernel_rfl
theorem sz_70 : sizeT Try.prog 70 = some 1 := by kernel_rfl
theorem ze_70 : zeroT Try.prog 70 = some [.cv .nilFunc] := by kernel_rfl
theorem nl_71 : nlT Try.prog 71 = 0 := by kernel_rfl
theorem ag_71 : aggT Try.prog 71 = some false := by kernel_rfl
theorem sz_71 : sizeT Try.prog 71 = some 1 := by kernel_rfl
theorem ze_71 : zeroT Try.prog 71 = some [.cv .nilFunc] := by kernel_rfl
theorem nl_72 : nlT Try.prog 72 = 0 := by kernel_rfl
theorem ag_72 : aggT Try.prog 72 = some false := by kernel_rfl
theorem sz_72 : sizeT Try.prog 72 = some 1 := by kernel_rfl
theorem ze_72 : zeroT Try.prog 72 = some [.cv .nilFunc] := by kernel_rfl
theorem nl_73 : nlT Try.prog 73 = 0 := by kernel_rfl
theorem ag_73 : aggT Try.prog 73 = some false := by kernel_rfl
theorem sz_73 : sizeT Try.prog 73 = some 1 := by kernel_rfl
theorem ze_73 : zeroT Try.prog 73 = some [.cv .nilFunc] := by kernel_rfl
theorem nl_74 : nlT Try.prog 74 = 0 := by kernel_rfl
theorem ag_74 : aggT Try.prog 74 = some false := by kernel_rfl
theorem sz_74 : sizeT Try.prog 74 = some 1 := by kernel_rfl
theorem ze_74 : zeroT Try.prog 74 = some [.cv .nilFunc] := by kernel_rfl
theorem nl_75 : nlT Try.prog 75 = 0 := by kernel_rfl
theorem ag_75 : aggT Try.prog 75 = some false := by kernel_rfl
theorem sz_75 : sizeT Try.prog 75 = some 1 := by kernel_rfl
theorem ze_75 : zeroT Try.prog 75 = some [.cv .nilFunc] := by kernel_rfl
theorem nl_76 : nlT Try.prog 76 = 0 := by kernel_rfl
theorem ag_76 : aggT Try.prog 76 = some false := by kernel_rfl
theorem sz_76 : sizeT Try.prog 76 = some 1 := by kernel_rfl
theorem ze_76 : zeroT Try.prog 76 = some [.cv .nilFunc] := by kernel_rfl
theorem nl_77 : nlT Try.prog 77 = 0 := by kernel_rfl
theorem ag_77 : aggT Try.prog 77 = some false := by kernel_rfl
theorem sz_77 : sizeT Try.prog 77 = some 1 := by kernel_rfl
theorem ze_77 : zeroT Try.prog 77 = some [.cv .nilFunc] := by kernel_rfl
theorem nl_78 : nlT Try.prog 78 = 0 := by kernel_rfl
theorem ag_78 : aggT Try.prog 78 = some false := by kernel_rfl
theorem sz_78 : sizeT Try.prog 78 = some 1 := by kernel_rfl
theorem ze_78 : zeroT Try.prog 78 = some [.cv .nilFunc] := by kernel_rfl
theorem nl_79 : nlT Try.prog 79 = 0 := by kernel_rfl
theorem ag_79 : aggT Try.prog 79 = some false := by kernel_rfl
theorem sz_79 : sizeT Try.prog 79 = some 1 := by kernel_rfl
theorem ze_79 : zeroT Try.prog 79 = some [.cv .nilFunc] := by kernel_rfl
theorem nl_80 : nlT Try.prog 80 = 0 := by kernel_rfl
theorem ag_80 : aggT Try.prog 80 = some false := by kernel_rfl
theorem sz_80 : sizeT Try.prog 80 = some 1 := by kernel_rfl
theorem ze_80 : zeroT Try.prog 80 = some [.cv .nilFunc] := by kernel_rfl
theorem nl_81 : nlT Try.prog 81 = 1 := by kernel_rfl
theorem ag_81 : aggT Try.prog 81 = some false := by kernel_rfl
theorem sz_81 : sizeT Try.prog 81 = some 1 := by kernel_rfl
theorem el_81 : elT Try.prog 81 = some 9 := by kernel_rfl
theorem by_9_81 : bytesT Try.prog 9 = some 16 := by kernel_rfl
theorem ze_81 : zeroT Try.prog 81 = some [.nl 1] := by kernel_rfl
theorem nl_82 : nlT Try.prog 82 = 0 := by kernel_rfl
theorem ag_82 : aggT Try.prog 82 = some false := by kernel_rfl
theorem sz_82 : sizeT Try.prog 82 = some 1 := by kernel_rfl
theorem ze_82 : zeroT Try.prog 82 = some [.cv .nilFunc] := by kernel_rfl
theorem nl_83 : nlT Try.prog 83 = 0 := by kernel_rfl
theorem ag_83 : aggT Try.prog 83 = some false := by kernel_rfl
theorem sz_83 : sizeT Try.prog 83 = some 1 := by kernel_rfl
theorem ze_83 : zeroT Try.prog 83 = some [.cv .nilFunc] := by kernel_rfl
theorem nl_84 : nlT Try.prog 84 = 0 := by kernel_rfl
theorem ag_84 : aggT Try.prog 84 = some false := by kernel_rfl
theorem sz_84 : sizeT Try.prog 84 = some 1 := by kernel_rfl
theorem ze_84 : zeroT Try.prog 84 = some [.cv .nilFunc] := by kernel_rfl
theorem nl_85 : nlT Try.prog 85 = 0 := by kernel_rfl
theorem ag_85 : aggT Try.prog 85 = some false := by kernel_rfl
theorem sz_85 : sizeT Try.prog 85 = some 1 := by kernel_rfl
theorem ze_85 : zeroT Try.prog 85 = some [.cv .nilFunc] := by kernel_rfl
theorem nl_86 : nlT Try.prog 86 = 0 := by kernel_rfl
theorem ag_86 : aggT Try.prog 86 = some false := by kernel_rfl
theorem sz_86 : sizeT Try.prog 86 = some 1 := by kernel_rfl
theorem ze_86 : zeroT Try.prog 86 = some [.cv .nilFunc] := by kernel_rfl
theorem nl_87 : nlT Try.prog 87 = 0 := by kernel_rfl
theorem ag_87 : aggT Try.prog 87 = some false := by kernel_rfl
theorem sz_87 : sizeT Try.prog 87 = some 1 := by kernel_rfl
theorem ze_87 : zeroT Try.prog 87 = some [.cv .nilFunc] := by kernel_rfl
theorem nl_88 : nlT Try.prog 88 = 0 := by kernel_rfl
theorem ag_88 : aggT Try.prog 88 = some false := by kernel_rfl
theorem sz_88 : sizeT Try.prog 88 = some 1 := by kernel_rfl
theorem ze_88 : zeroT Try.prog 88 = some [.cv .nilFunc] := by kernel_rfl
theorem nl_89 : nlT Try.prog 89 = 0 := by kernel_rfl
theorem ag_89 : aggT Try.prog 89 = some false := by kernel_rfl
theorem sz_89 : sizeT Try.prog 89 = some 1 := by kernel_rfl
theorem ze_89 : zeroT Try.prog 89 = some [.cv .nilFunc] := by kernel_rfl
theorem nl_90 : nlT Try.prog 90 = 0 := by kernel_rfl
theorem ag_90 : aggT Try.prog 90 = some false := by kernel_rfl
theorem sz_90 : sizeT Try.prog 90 = some 1 := by kernel_rfl
theorem ze_90 : zeroT Try.prog 90 = some [.cv .nilFunc] := by kernel_rfl
theorem nl_91 : nlT Try.prog 91 = 0 := by kernel_rfl
theorem ag_91 : aggT Try.prog 91 = some false := by kernel_rfl
theorem sz_91 : sizeT Try.prog 91 = some 1 := by kernel_rfl
theorem ze_91 : zeroT Try.prog 91 = some [.cv .nilFunc] := by kernel_rfl
theorem nl_92 : nlT Try.prog 92 = 0 := by kernel_rfl
theorem ag_92 : aggT Try.prog 92 = some false := by kernel_rfl
theorem sz_92 : sizeT Try.prog 92 = some 1 := by kernel_rfl
theorem ze_92 : zeroT Try.prog 92 = some [.cv .nilFunc] := by kernel_rfl
theorem nl_93 : nlT Try.prog 93 = 1 := by kernel_rfl
theorem ag_93 : aggT Try.prog 93 = some false := by kernel_rfl
theorem sz_93 : sizeT Try.prog 93 = some 1 := by kernel_rfl
theorem el_93 : elT Try.prog 93 = some 5 := by kernel_rfl
theorem by_5_93 : bytesT Try.prog 5 = some 1 := by kernel_rfl
theorem ze_93 : zeroT Try.prog 93 = some [.nl 1] := by kernel_rfl
theorem nl_94 : nlT Try.prog 94 = 0 := by kernel_rfl
theorem ag_94 : aggT Try.prog 94 = some false := by kernel_rfl
theorem sz_94 : sizeT Try.prog 94 = some 1 := by kernel_rfl
theorem ze_94 : zeroT Try.prog 94 = some [.cv .nilFunc] := by kernel_rfl
theorem nl_95 : nlT Try.prog 95 = 0 := by kernel_rfl
theorem ag_95 : aggT Try.prog 95 = some false := by kernel_rfl
theorem sz_95 : sizeT Try.prog 95 = some 1 := by kernel_rfl
theorem ze_95 : zeroT Try.prog 95 = some [.cv (.pointer none)] := by kernel_rfl
theorem nl_96 : nlT Try.prog 96 = 0 := by kernel_rfl
theorem ag_96 : aggT Try.prog 96 = some true := by kernel_rfl
theorem sz_96 : sizeT Try.prog 96 = some 2 := by kernel_rfl
theorem ze_96 : zeroT Try.prog 96 = some [.cv (.pointer none), .nl 1] := by kernel_rfl
theorem pl_96 : plsT Try.prog 96 = some [(0, 1), (1, 1)] := by kernel_rfl
theorem fl_96_0 : fldT Try.prog 96 0 = some (0, 95) := by kernel_rfl
theorem ft_96_0 : ftyT Try.prog 96 0 = 95 := by kernel_rfl
theorem fl_96_1 : fldT Try.prog 96 1 = some (1, 93) := by kernel_rfl
theorem ft_96_1 : ftyT Try.prog 96 1 = 93 := by kernel_rfl
theorem nl_97 : nlT Try.prog 97 = 0 := by kernel_rfl
theorem ag_97 : aggT Try.prog 97 = some true := by kernel_rfl
theorem sz_97 : sizeT Try.prog 97 = some 2 := by kernel_rfl
theorem ze_97 : zeroT Try.prog 97 = some [.cv (.pointer none), .nl 1] := by kernel_rfl
theorem pl_97 : plsT Try.prog 97 = some [(0, 1), (1, 1)] := by kernel_rfl
theorem fl_97_0 : fldT Try.prog 97 0 = some (0, 95) := by kernel_rfl
theorem ft_97_0 : ftyT Try.prog 97 0 = 95 := by kernel_rfl
theorem fl_97_1 : fldT Try.prog 97 1 = some (1, 93) := by kernel_rfl
theorem ft_97_1 : ftyT Try.prog 97 1 = 93 := by kernel_rfl
theorem nl_98 : nlT Try.prog 98 = 0 := by kernel_rfl
theorem ag_98 : aggT Try.prog 98 = some false := by kernel_rfl
theorem sz_98 : sizeT Try.prog 98 = some 1 := by kernel_rfl
theorem ze_98 : zeroT Try.prog 98 = some [.cv .nilFunc] := by kernel_rfl
theorem nl_99 : nlT Try.prog 99 = 0 := by kernel_rfl
theorem ag_99 : aggT Try.prog 99 = some false := by kernel_rfl
theorem sz_99 : sizeT Try.prog 99 = some 1 := by kernel_rfl
theorem ze_99 : zeroT Try.prog 99 = some [.cv .nilIface] := by kernel_rfl
theorem nl_100 : nlT Try.prog 100 = 0 := by kernel_rfl
theorem ag_100 : aggT Try.prog 100 = some false := by kernel_rfl
theorem sz_100 : sizeT Try.prog 100 = some 1 := by kernel_rfl
theorem ze_100 : zeroT Try.prog 100 = some [.cv .nilIface] := by kernel_rfl
theorem nl_101 : nlT Try.prog 101 = 0 := by kernel_rfl
theorem nl_102 : nlT Try.prog 102 = 0 := by kernel_rfl
theorem ag_102 : aggT Try.prog 102 = some false := by kernel_rfl
theorem sz_102 : sizeT Try.prog 102 = some 1 := by kernel_rfl
theorem ze_102 : zeroT Try.prog 102 = some [.cv .nilFunc] := by kernel_rfl
theorem nl_103 : nlT Try.prog 103 = 0 := by kernel_rfl
theorem ag_103 : aggT Try.prog 103 = some false := by kernel_rfl
theorem sz_103 : sizeT Try.prog 103 = some 1 := by kernel_rfl
theorem ze_103 : zeroT Try.prog 103 = some [.cv .nilFunc] := by kernel_rfl
theorem nl_104 : nlT Try.prog 104 = 0 := by kernel_rfl
theorem ag_104 : aggT Try.prog 104 = some false := by kernel_rfl
theorem sz_104 : sizeT Try.prog 104 = some 1 := by kernel_rfl
theorem ze_104 : zeroT Try.prog 104 = some [.cv .nilFunc] := by kernel_rfl
theorem nl_105 : nlT Try.prog 105 = 0 := by kernel_rfl
theorem ag_105 : aggT Try.prog 105 = some false := by kernel_rfl
theorem sz_105 : sizeT Try.prog 105 = some 1 := by kernel_rfl
theorem ze_105 : zeroT Try.prog 105 = some [.cv .nilFunc] := by kernel_rfl
theorem nl_106 : nlT Try.prog 106 = 0 := by kernel_rfl
theorem ag_106 : aggT Try.prog 106 = some false := by kernel_rfl
theorem sz_106 : sizeT Try.prog 106 = some 1 := by kernel_rfl
theorem ze_106 : zeroT Try.prog 106 = some [.cv .nilFunc] := by kernel_rfl
theorem nl_107 : nlT Try.prog 107 = 0 := by kernel_rfl
theorem ag_107 : aggT Try.prog 107 = some false := by kernel_rfl
theorem sz_107 : sizeT Try.prog 107 = some 1 := by kernel_rfl
theorem ze_107 : zeroT Try.prog 107 = some [.cv (.map none)] := by kernel_rfl
theorem nl_108 : nlT Try.prog 108 = 0 := by kernel_rfl
theorem ag_108 : aggT Try.prog 108 = some false := by kernel_rfl
theorem sz_108 : sizeT Try.prog 108 = some 1 := by kernel_rfl
theorem ze_108 : zeroT Try.prog 108 = some [.cv .nilFunc] := by kernel_rfl
theorem nl_109 : nlT Try.prog 109 = 0 := by kernel_rfl
theorem ag_109 : aggT Try.prog 109 = some false := by kernel_rfl
theorem sz_109 : sizeT Try.prog 109 = some 1 := by kernel_rfl
theorem ze_109 : zeroT Try.prog 109 = some [.cv (.pointer none)] := by kernel_rfl
theorem nl_110 : nlT Try.prog 110 = 0 := by kernel_rfl
theorem ag_110 : aggT Try.prog 110 = some false := by kernel_rfl
theorem sz_110 : sizeT Try.prog 110 = some 1 := by kernel_rfl
theorem ze_110 : zeroT Try.prog 110 = some [.cv .nilFunc] := by kernel_rfl
theorem nl_111 : nlT Try.prog 111 = 0 := by kernel_rfl
theorem ag_111 : aggT Try.prog 111 = some false := by kernel_rfl
theorem sz_111 : sizeT Try.prog 111 = some 1 := by kernel_rfl
theorem ze_111 : zeroT Try.prog 111 = some [.cv .nilFunc] := by kernel_rfl
theorem nl_112 : nlT Try.prog 112 = 0 := by kernel_rfl
theorem ag_112 : aggT Try.prog 112 = some false := by kernel_rfl
theorem sz_112 : sizeT Try.prog 112 = some 1 := by kernel_rfl
theorem ze_112 : zeroT Try.prog 112 = some [.cv .nilFunc] := by kernel_rfl
theorem nl_113 : nlT Try.prog 113 = 0 := by kernel_rfl
theorem ag_113 : aggT Try.prog 113 = some false := by kernel_rfl
theorem sz_113 : sizeT Try.prog 113 = some 1 := by kernel_rfl
theorem ze_113 : zeroT Try.prog 113 = some [.cv .nilFunc] := by kernel_rfl
theorem nl_114 : nlT Try.prog 114 = 0 := by kernel_rfl
theorem ag_114 : aggT Try.prog 114 = some false := by kernel_rfl
theorem sz_114 : sizeT Try.prog 114 = some 1 := by kernel_rfl
theorem ze_114 : zeroT Try.prog 114 = some [.cv .nilFunc] := by kernel_rfl
theorem nl_115 : nlT Try.prog 115 = 0 := by kernel_rfl
theorem ag_115 : aggT Try.prog 115 = some false := by kernel_rfl
theorem sz_115 : sizeT Try.prog 115 = some 1 := by kernel_rfl
theorem ze_115 : zeroT Try.prog 115 = some [.cv .nilFunc] := by kernel_rfl
theorem nl_116 : nlT Try.prog 116 = 0 := by kernel_rfl
theorem ag_116 : aggT Try.prog 116 = some false := by kernel_rfl
theorem sz_116 : sizeT Try.prog 116 = some 1 := by kernel_rfl
theorem nl_117 : nlT Try.prog 117 = 0 := by kernel_rfl
theorem ag_117 : aggT Try.prog 117 = some false := by kernel_rfl
theorem sz_117 : sizeT Try.prog 117 = some 1 := by kernel_rfl
theorem ze_117 : zeroT Try.prog 117 = some [.cv .nilFunc] := by kernel_rfl
theorem nl_118 : nlT Try.prog 118 = 0 := by kernel_rfl
theorem ag_118 : aggT Try.prog 118 = some false := by kernel_rfl
theorem sz_118 : sizeT Try.prog 118 = some 1 := by kernel_rfl
theorem ze_118 : zeroT Try.prog 118 = some [.cv .nilFunc] := by kernel_rfl
theorem nl_119 : nlT Try.prog 119 = 0 := by kernel_rfl
theorem ag_119 : aggT Try.prog 119 = some false := by kernel_rfl
theorem sz_119 : sizeT Try.prog 119 = some 1 := by kernel_rfl
theorem ze_119 : zeroT Try.prog 119 = some [.cv .nilFunc] := by kernel_rfl
theorem nl_120 : nlT Try.prog 120 = 0 := by kernel_rfl
theorem ag_120 : aggT Try.prog 120 = some false := by kernel_rfl
theorem sz_120 : sizeT Try.prog 120 = some 1 := by kernel_rfl
theorem ze_120 : zeroT Try.prog 120 = some [.cv .nilFunc] := by kernel_rfl
theorem nl_121 : nlT Try.prog 121 = 0 := by kernel_rfl
theorem ag_121 : aggT Try.prog 121 = some false := by kernel_rfl
theorem sz_121 : sizeT Try.prog 121 = some 1 := by kernel_rfl
theorem ze_121 : zeroT Try.prog 121 = some [.cv .nilFunc] := by kernel_rfl
theorem nl_122 : nlT Try.prog 122 = 0 := by kernel_rfl
theorem ag_122 : aggT Try.prog 122 = some false := by kernel_rfl
theorem sz_122 : sizeT Try.prog 122 = some 1 := by kernel_rfl
theorem ze_122 : zeroT Try.prog 122 = some [.cv .nilFunc] := by kernel_rfl
theorem nl_123 : nlT Try.prog 123 = 0 := by kernel_rfl
theorem ag_123 : aggT Try.prog 123 = some true := by kernel_rfl
theorem sz_123 : sizeT Try.prog 123 = some 4 := by kernel_rfl
theorem ze_123 : zeroT Try.prog 123 = some [.cv (.pointer none), .cv (.pointer none), .cv (.pointer none), .t (.str [])] := by kernel_rfl
theorem pl_123 : plsT Try.prog 123 = some [(0, 1), (1, 1), (2, 1), (3, 1)] := by kernel_rfl
theorem fl_123_0 : fldT Try.prog 123 0 = some (0, 17) := by kernel_rfl
theorem ft_123_0 : ftyT Try.prog 123 0 = 17 := by kernel_rfl
theorem fl_123_1 : fldT Try.prog 123 1 = some (1, 17) := by kernel_rfl
theorem ft_123_1 : ftyT Try.prog 123 1 = 17 := by kernel_rfl
theorem fl_123_2 : fldT Try.prog 123 2 = some (2, 17) := by kernel_rfl
theorem ft_123_2 : ftyT Try.prog 123 2 = 17 := by kernel_rfl
theorem fl_123_3 : fldT Try.prog 123 3 = some (3, 9) := by kernel_rfl
theorem ft_123_3 : ftyT Try.prog 123 3 = 9 := by kernel_rfl
theorem nl_124 : nlT Try.prog 124 = 0 := by kernel_rfl
theorem ag_124 : aggT Try.prog 124 = some true := by kernel_rfl
theorem sz_124 : sizeT Try.prog 124 = some 4 := by kernel_rfl
theorem ze_124 : zeroT Try.prog 124 = some [.cv (.pointer none), .cv (.pointer none), .cv (.pointer none), .t (.str [])] := by kernel_rfl
theorem pl_124 : plsT Try.prog 124 = some [(0, 1), (1, 1), (2, 1), (3, 1)] := by kernel_rfl
theorem fl_124_0 : fldT Try.prog 124 0 = some (0, 17) := by kernel_rfl
theorem ft_124_0 : ftyT Try.prog 124 0 = 17 := by kernel_rfl
theorem fl_124_1 : fldT Try.prog 124 1 = some (1, 17) := by kernel_rfl
theorem ft_124_1 : ftyT Try.prog 124 1 = 17 := by kernel_rfl
theorem fl_124_2 : fldT Try.prog 124 2 = some (2, 17) := by kernel_rfl
theorem ft_124_2 : ftyT Try.prog 124 2 = 17 := by kernel_rfl
theorem fl_124_3 : fldT Try.prog 124 3 = some (3, 9) := by kernel_rfl
theorem ft_124_3 : ftyT Try.prog 124 3 = 9 := by kernel_rfl
theorem nl_125 : nlT Try.prog 125 = 0 := by kernel_rfl
theorem ag_125 : aggT Try.prog 125 = some true := by kernel_rfl
theorem sz_125 : sizeT Try.prog 125 = some 0 := by kernel_rfl
theorem nl_126 : nlT Try.prog 126 = 0 := by kernel_rfl
theorem ag_126 : aggT Try.prog 126 = some true := by kernel_rfl
theorem sz_126 : sizeT Try.prog 126 = some 0 := by kernel_rfl
theorem pl_126 : plsT Try.prog 126 = some [(0, 0)] := by kernel_rfl
theorem fl_126_0 : fldT Try.prog 126 0 = some (0, 125) := by kernel_rfl
theorem ft_126_0 : ftyT Try.prog 126 0 = 125 := by kernel_rfl
theorem nl_127 : nlT Try.prog 127 = 0 := by kernel_rfl
theorem ag_127 : aggT Try.prog 127 = some true := by kernel_rfl
theorem sz_127 : sizeT Try.prog 127 = some 0 := by kernel_rfl
theorem pl_127 : plsT Try.prog 127 = some [(0, 0)] := by kernel_rfl
theorem fl_127_0 : fldT Try.prog 127 0 = some (0, 125) := by kernel_rfl
theorem ft_127_0 : ftyT Try.prog 127 0 = 125 := by kernel_rfl
theorem nl_128 : nlT Try.prog 128 = 0 := by kernel_rfl
theorem ag_128 : aggT Try.prog 128 = some false := by kernel_rfl
theorem sz_128 : sizeT Try.prog 128 = some 1 := by kernel_rfl
theorem ze_128 : zeroT Try.prog 128 = some [.cv .nilFunc] := by kernel_rfl
theorem nl_129 : nlT Try.prog 129 = 0 := by kernel_rfl
theorem ag_129 : aggT Try.prog 129 = some false := by kernel_rfl
theorem sz_129 : sizeT Try.prog 129 = some 1 := by kernel_rfl
theorem in_129 : intT Try.prog 129 = some .u32 := by kernel_rfl
theorem ze_129 : zeroT Try.prog 129 = some [.t (.int .u32 0)] := by kernel_rfl
theorem nl_130 : nlT Try.prog 130 = 0 := by kernel_rfl
theorem ag_130 : aggT Try.prog 130 = some false := by kernel_rfl
theorem sz_130 : sizeT Try.prog 130 = some 1 := by kernel_rfl
theorem in_130 : intT Try.prog 130 = some .u8 := by kernel_rfl
theorem ze_130 : zeroT Try.prog 130 = some [.t (.int .u8 0)] := by kernel_rfl
theorem nl_131 : nlT Try.prog 131 = 0 := by kernel_rfl
theorem ag_131 : aggT Try.prog 131 = some false := by kernel_rfl
theorem sz_131 : sizeT Try.prog 131 = some 1 := by kernel_rfl
theorem in_131 : intT Try.prog 131 = some .u8 := by kernel_rfl
theorem ze_131 : zeroT Try.prog 131 = some [.t (.int .u8 0)] := by kernel_rfl
theorem nl_132 : nlT Try.prog 132 = 0 := by kernel_rfl
theorem ag_132 : aggT Try.prog 132 = some false := by kernel_rfl
theorem sz_132 : sizeT Try.prog 132 = some 1 := by kernel_rfl
theorem ze_132 : zeroT Try.prog 132 = some [.cv .nilFunc] := by kernel_rfl
theorem nl_133 : nlT Try.prog 133 = 0 := by kernel_rfl
theorem ag_133 : aggT Try.prog 133 = some false := by kernel_rfl
theorem sz_133 : sizeT Try.prog 133 = some 1 := by kernel_rfl
theorem in_133 : intT Try.prog 133 = some .i32 := by kernel_rfl
theorem ze_133 : zeroT Try.prog 133 = some [.t (.int .i32 0)] := by kernel_rfl
theorem nl_134 : nlT Try.prog 134 = 0 := by kernel_rfl
theorem ag_134 : aggT Try.prog 134 = some false := by kernel_rfl
theorem sz_134 : sizeT Try.prog 134 = some 1 := by kernel_rfl
theorem in_134 : intT Try.prog 134 = some .i32 := by kernel_rfl
theorem ze_134 : zeroT Try.prog 134 = some [.t (.int .i32 0)] := by kernel_rfl
theorem nl_135 : nlT Try.prog 135 = 0 := by kernel_rfl
theorem ag_135 : aggT Try.prog 135 = some true := by kernel_rfl
theorem sz_135 : sizeT Try.prog 135 = some 11 := by kernel_rfl
theorem ze_135 : zeroT Try.prog 135 = some [.t (.int .u64 0), .t (.int .u64 0), .t (.int .u32 0), .t (.int .u8 0), .t (.int .u8 0), .t (.int .u8 0), .t (.int .u8 0), .cv .nilFunc, .cv (.pointer none), .t (.int .i32 0), .t (.int .i32 0)] := by kernel_rfl
theorem pl_135 : plsT Try.prog 135 = some [(0, 1), (1, 1), (2, 1), (3, 1), (4, 1), (5, 1), (6, 1), (7, 1), (8, 1), (9, 1), (10, 1)] := by kernel_rfl
theorem fl_135_0 : fldT Try.prog 135 0 = some (0, 12) := by kernel_rfl
theorem ft_135_0 : ftyT Try.prog 135 0 = 12 := by kernel_rfl
theorem fl_135_1 : fldT Try.prog 135 1 = some (1, 12) := by kernel_rfl
theorem ft_135_1 : ftyT Try.prog 135 1 = 12 := by kernel_rfl
theorem fl_135_2 : fldT Try.prog 135 2 = some (2, 129) := by kernel_rfl
theorem ft_135_2 : ftyT Try.prog 135 2 = 129 := by kernel_rfl
theorem fl_135_3 : fldT Try.prog 135 3 = some (3, 130) := by kernel_rfl
theorem ft_135_3 : ftyT Try.prog 135 3 = 130 := by kernel_rfl
theorem fl_135_4 : fldT Try.prog 135 4 = some (4, 5) := by kernel_rfl
theorem ft_135_4 : ftyT Try.prog 135 4 = 5 := by kernel_rfl
theorem fl_135_5 : fldT Try.prog 135 5 = some (5, 5) := by kernel_rfl
theorem ft_135_5 : ftyT Try.prog 135 5 = 5 := by kernel_rfl
theorem fl_135_6 : fldT Try.prog 135 6 = some (6, 131) := by kernel_rfl
theorem ft_135_6 : ftyT Try.prog 135 6 = 131 := by kernel_rfl
theorem fl_135_7 : fldT Try.prog 135 7 = some (7, 132) := by kernel_rfl
theorem ft_135_7 : ftyT Try.prog 135 7 = 132 := by kernel_rfl
theorem fl_135_8 : fldT Try.prog 135 8 = some (8, 109) := by kernel_rfl
theorem ft_135_8 : ftyT Try.prog 135 8 = 109 := by kernel_rfl
theorem fl_135_9 : fldT Try.prog 135 9 = some (9, 133) := by kernel_rfl
theorem ft_135_9 : ftyT Try.prog 135 9 = 133 := by kernel_rfl
theorem fl_135_10 : fldT Try.prog 135 10 = some (10, 134) := by kernel_rfl
theorem ft_135_10 : ftyT Try.prog 135 10 = 134 := by kernel_rfl
theorem nl_136 : nlT Try.prog 136 = 0 := by kernel_rfl
theorem ag_136 : aggT Try.prog 136 = some true := by kernel_rfl
theorem sz_136 : sizeT Try.prog 136 = some 11 := by kernel_rfl
theorem ze_136 : zeroT Try.prog 136 = some [.t (.int .u64 0), .t (.int .u64 0), .t (.int .u32 0), .t (.int .u8 0), .t (.int .u8 0), .t (.int .u8 0), .t (.int .u8 0), .cv .nilFunc, .cv (.pointer none), .t (.int .i32 0), .t (.int .i32 0)] := by kernel_rfl
theorem pl_136 : plsT Try.prog 136 = some [(0, 1), (1, 1), (2, 1), (3, 1), (4, 1), (5, 1), (6, 1), (7, 1), (8, 1), (9, 1), (10, 1)] := by kernel_rfl
theorem fl_136_0 : fldT Try.prog 136 0 = some (0, 12) := by kernel_rfl
theorem ft_136_0 : ftyT Try.prog 136 0 = 12 := by kernel_rfl
theorem fl_136_1 : fldT Try.prog 136 1 = some (1, 12) := by kernel_rfl
theorem ft_136_1 : ftyT Try.prog 136 1 = 12 := by kernel_rfl
theorem fl_136_2 : fldT Try.prog 136 2 = some (2, 129) := by kernel_rfl
theorem ft_136_2 : ftyT Try.prog 136 2 = 129 := by kernel_rfl
theorem fl_136_3 : fldT Try.prog 136 3 = some (3, 130) := by kernel_rfl
theorem ft_136_3 : ftyT Try.prog 136 3 = 130 := by kernel_rfl
theorem fl_136_4 : fldT Try.prog 136 4 = some (4, 5) := by kernel_rfl
theorem ft_136_4 : ftyT Try.prog 136 4 = 5 := by kernel_rfl
theorem fl_136_5 : fldT Try.prog 136 5 = some (5, 5) := by kernel_rfl
theorem ft_136_5 : ftyT Try.prog 136 5 = 5 := by kernel_rfl
theorem fl_136_6 : fldT Try.prog 136 6 = some (6, 131) := by kernel_rfl
theorem ft_136_6 : ftyT Try.prog 136 6 = 131 := by kernel_rfl
theorem fl_136_7 : fldT Try.prog 136 7 = some (7, 132) := by kernel_rfl
theorem ft_136_7 : ftyT Try.prog 136 7 = 132 := by kernel_rfl
theorem fl_136_8 : fldT Try.prog 136 8 = some (8, 109) := by kernel_rfl
theorem ft_136_8 : ftyT Try.prog 136 8 = 109 := by kernel_rfl
theorem fl_136_9 : fldT Try.prog 136 9 = some (9, 133) := by kernel_rfl
theorem ft_136_9 : ftyT Try.prog 136 9 = 133 := by kernel_rfl
theorem fl_136_10 : fldT Try.prog 136 10 = some (10, 134) := by kernel_rfl
theorem ft_136_10 : ftyT Try.prog 136 10 = 134 := by kernel_rfl
theorem ap_22 : apT Try.prog 22 5 := apT_mk el_22 sz_49 by_49_22 (by decide) ze_49 rfl
theorem ap_27 : apT Try.prog 27 5 := apT_mk el_27 sz_37 by_37_27 (by decide) ze_37 rfl
theorem ap_33 : apT Try.prog 33 2 := apT_mk el_33 sz_35 by_35_33 (by decide) ze_35 rfl
theorem ap_45 : apT Try.prog 45 2 := apT_mk el_45 sz_47 by_47_45 (by decide) ze_47 rfl
theorem ap_81 : apT Try.prog 81 1 := apT_mk el_81 sz_9 by_9_81 (by decide) ze_9 rfl
theorem ap_93 : apT Try.prog 93 1 := apT_mk el_93 sz_5 by_5_93 (by decide) ze_5 rfl
attribute [go_sem] nl_0 nl_1 ag_1 sz_1 ze_1 nl_2 ag_2 sz_2 in_2 ze_2 nl_3 ag_3 sz_3 in_3 ze_3 nl_4 ag_4 sz_4 bo_4 ze_4 nl_5 ag_5 sz_5 in_5 ze_5 nl_6 ag_6 sz_6 in_6 ze_6 nl_7 ag_7 sz_7 ze_7 pl_7 fl_7_0 ft_7_0 fl_7_1 ft_7_1 fl_7_2 ft_7_2 fl_7_3 ft_7_3 nl_8 ag_8 sz_8 ze_8 pl_8 fl_8_0 ft_8_0 fl_8_1 ft_8_1 fl_8_2 ft_8_2 fl_8_3 ft_8_3 nl_9 ag_9 sz_9 st_9 ze_9 nl_10 ag_10 sz_10 st_10 ze_10 nl_11 ag_11 sz_11 st_11 ze_11 nl_12 ag_12 sz_12 in_12 ze_12 nl_13 ag_13 sz_13 ze_13 pl_13 fl_13_0 ft_13_0 fl_13_1 ft_13_1 nl_14 ag_14 sz_14 ze_14 pl_14 fl_14_0 ft_14_0 fl_14_1 ft_14_1 nl_15 ag_15 sz_15 ze_15 nl_16 ag_16 sz_16 ze_16 nl_17 ag_17 sz_17 ze_17 nl_18 ag_18 sz_18 ze_18 pl_18 fl_18_0 ft_18_0 nl_19 ag_19 sz_19 ze_19 pl_19 fl_19_0 ft_19_0 nl_20 ag_20 sz_20 ze_20 nl_21 ag_21 sz_21 in_21 ze_21 nl_22 ag_22 sz_22 el_22 by_49_22 ze_22 nl_23 ag_23 sz_23 ze_23 pl_23 fl_23_0 ft_23_0 fl_23_1 ft_23_1 nl_24 ag_24 sz_24 ze_24 pl_24 fl_24_0 ft_24_0 fl_24_1 ft_24_1 nl_25 ag_25 sz_25 ze_25 nl_26 ag_26 sz_26 ze_26 nl_27 ag_27 sz_27 el_27 by_37_27 ze_27 nl_28 ag_28 sz_28 ze_28 pl_28 fl_28_0 ft_28_0 fl_28_1 ft_28_1 nl_29 ag_29 sz_29 ze_29 pl_29 fl_29_0 ft_29_0 fl_29_1 ft_29_1 nl_30 ag_30 sz_30 ze_30 nl_31 ag_31 sz_31 ze_31 nl_32 ag_32 sz_32 ze_32 nl_33 ag_33 sz_33 el_33 by_35_33 ze_33 nl_34 ag_34 sz_34 ze_34 pl_34 fl_34_0 ft_34_0 fl_34_1 ft_34_1 nl_35 ag_35 sz_35 ze_35 pl_35 fl_35_0 ft_35_0 fl_35_1 ft_35_1 nl_36 ag_36 sz_36 ze_36 pl_36 fl_36_0 ft_36_0 fl_36_1 ft_36_1 fl_36_2 ft_36_2 fl_36_3 ft_36_3 nl_37 ag_37 sz_37 ze_37 pl_37 fl_37_0 ft_37_0 fl_37_1 ft_37_1 fl_37_2 ft_37_2 fl_37_3 ft_37_3 nl_38 nl_39 ag_39 sz_39 ze_39 nl_40 ag_40 sz_40 ze_40 nl_41 ag_41 sz_41 ze_41 nl_42 ag_42 sz_42 ze_42 nl_43 nl_44 ag_44 sz_44 ze_44 nl_45 ag_45 sz_45 el_45 by_47_45 ze_45 nl_46 ag_46 sz_46 ze_46 pl_46 fl_46_0 ft_46_0 fl_46_1 ft_46_1 nl_47 ag_47 sz_47 ze_47 pl_47 fl_47_0 ft_47_0 fl_47_1 ft_47_1 nl_48 ag_48 sz_48 ze_48 pl_48 fl_48_0 ft_48_0 fl_48_1 ft_48_1 fl_48_2 ft_48_2 fl_48_3 ft_48_3 nl_49 ag_49 sz_49 ze_49 pl_49 fl_49_0 ft_49_0 fl_49_1 ft_49_1 fl_49_2 ft_49_2 fl_49_3 ft_49_3 nl_50 ag_50 sz_50 ze_50 nl_51 ag_51 sz_51 ze_51 nl_52 ag_52 sz_52 ze_52 nl_53 ag_53 sz_53 ze_53 nl_54 ag_54 sz_54 ze_54 nl_55 ag_55 sz_55 ze_55 nl_56 ag_56 sz_56 ze_56 nl_57 ag_57 sz_57 ze_57 nl_58 ag_58 sz_58 ze_58 nl_59 ag_59 sz_59 ze_59 nl_60 ag_60 sz_60 ze_60 nl_61 ag_61 sz_61 ze_61 nl_62 ag_62 sz_62 ze_62 nl_63 ag_63 sz_63 ze_63 nl_64 ag_64 sz_64 ze_64 nl_65 ag_65 sz_65 ze_65 nl_66 ag_66 sz_66 ze_66 nl_67 ag_67 sz_67 ze_67 nl_68 ag_68 sz_68 ze_68 nl_69 ag_69 sz_69 ze_69 nl_70 ag_70 sz_70 ze_70 nl_71 ag_71 sz_71 ze_71 nl_72 ag_72 sz_72 ze_72 nl_73 ag_73 sz_73 ze_73 nl_74 ag_74 sz_74 ze_74 nl_75 ag_75 sz_75 ze_75 nl_76 ag_76 sz_76 ze_76 nl_77 ag_77 sz_77 ze_77 nl_78 ag_78 sz_78 ze_78 nl_79 ag_79 sz_79 ze_79 nl_80 ag_80 sz_80 ze_80 nl_81 ag_81 sz_81 el_81 by_9_81 ze_81 nl_82 ag_82 sz_82 ze_82 nl_83 ag_83 sz_83 ze_83 nl_84 ag_84 sz_84 ze_84 nl_85 ag_85 sz_85 ze_85 nl_86 ag_86 sz_86 ze_86 nl_87 ag_87 sz_87 ze_87 nl_88 ag_88 sz_88 ze_88 nl_89 ag_89 sz_89 ze_89 nl_90 ag_90 sz_90 ze_90 nl_91 ag_91 sz_91 ze_91 nl_92 ag_92 sz_92 ze_92 nl_93 ag_93 sz_93 el_93 by_5_93 ze_93 nl_94 ag_94 sz_94 ze_94 nl_95 ag_95 sz_95 ze_95 nl_96 ag_96 sz_96 ze_96 pl_96 fl_96_0 ft_96_0 fl_96_1 ft_96_1 nl_97 ag_97 sz_97 ze_97 pl_97 fl_97_0 ft_97_0 fl_97_1 ft_97_1 nl_98 ag_98 sz_98 ze_98 nl_99 ag_99 sz_99 ze_99 nl_100 ag_100 sz_100 ze_100 nl_101 nl_102 ag_102 sz_102 ze_102 nl_103 ag_103 sz_103 ze_103 nl_104 ag_104 sz_104 ze_104 nl_105 ag_105 sz_105 ze_105 nl_106 ag_106 sz_106 ze_106 nl_107 ag_107 sz_107 ze_107 nl_108 ag_108 sz_108 ze_108 nl_109 ag_109 sz_109 ze_109 nl_110 ag_110 sz_110 ze_110 nl_111 ag_111 sz_111 ze_111 nl_112 ag_112 sz_112 ze_112 nl_113 ag_113 sz_113 ze_113 nl_114 ag_114 sz_114 ze_114 nl_115 ag_115 sz_115 ze_115 nl_116 ag_116 sz_116 nl_117 ag_117 sz_117 ze_117 nl_118 ag_118 sz_118 ze_118 nl_119 ag_119 sz_119 ze_119 nl_120 ag_120 sz_120 ze_120 nl_121 ag_121 sz_121 ze_121 nl_122 ag_122 sz_122 ze_122 nl_123 ag_123 sz_123 ze_123 pl_123 fl_123_0 ft_123_0 fl_123_1 ft_123_1 fl_123_2 ft_123_2 fl_123_3 ft_123_3 nl_124 ag_124 sz_124 ze_124 pl_124 fl_124_0 ft_124_0 fl_124_1 ft_124_1 fl_124_2 ft_124_2 fl_124_3 ft_124_3 nl_125 ag_125 sz_125 nl_126 ag_126 sz_126 pl_126 fl_126_0 ft_126_0 nl_127 ag_127 sz_127 pl_127 fl_127_0 ft_127_0 nl_128 ag_128 sz_128 ze_128 nl_129 ag_129 sz_129 in_129 ze_129 nl_130 ag_130 sz_130 in_130 ze_130 nl_131 ag_131 sz_131 in_131 ze_131 nl_132 ag_132 sz_132 ze_132 nl_133 ag_133 sz_133 in_133 ze_133 nl_134 ag_134 sz_134 in_134 ze_134 nl_135 ag_135 sz_135 ze_135 pl_135 fl_135_0 ft_135_0 fl_135_1 ft_135_1 fl_135_2 ft_135_2 fl_135_3 ft_135_3 fl_135_4 ft_135_4 fl_135_5 ft_135_5 fl_135_6 ft_135_6 fl_135_7 ft_135_7 fl_135_8 ft_135_8 fl_135_9 ft_135_9 fl_135_10 ft_135_10 nl_136 ag_136 sz_136 ze_136 pl_136 fl_136_0 ft_136_0 fl_136_1 ft_136_1 fl_136_2 ft_136_2 fl_136_3 ft_136_3 fl_136_4 ft_136_4 fl_136_5 ft_136_5 fl_136_6 ft_136_6 fl_136_7 ft_136_7 fl_136_8 ft_136_8 fl_136_9 ft_136_9 fl_136_10 ft_136_10 ap_22 ap_27 ap_33 ap_45 ap_81 ap_93
end Go.Proofs.Ytgfjbbbkploonaa
