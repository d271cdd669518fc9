/- Closed facts of the translation's types, written by a program (wip/tools/facts.py). -/
import Derived.Test.YtiiglipmekeikaaHxY
import Derived.Test.YtiiglipmekeikaaProg
set_option linter.unusedVariables false
namespace Go.Proofs.Ytiiglipmekeikaa
open Go.Hx
theorem tyK_1 : tyK Try.prog 1 = some (false, 1) := by kernel_rfl
theorem szK_1 : szK Try.prog 1 = some 1 := by kernel_rfl
theorem byK_1 : byK Try.prog 1 = some 8 := by kernel_rfl
theorem zeroK_1 : zeroK Try.prog 1 = some .nilFunc := by kernel_rfl
theorem tyK_2 : tyK Try.prog 2 = some (false, 1) := by kernel_rfl
theorem szK_2 : szK Try.prog 2 = some 1 := by kernel_rfl
theorem byK_2 : byK Try.prog 2 = some 8 := by kernel_rfl
theorem zeroK_2 : zeroK Try.prog 2 = some (.int .i64 0) := by kernel_rfl
theorem tyK_3 : tyK Try.prog 3 = some (false, 1) := by kernel_rfl
theorem szK_3 : szK Try.prog 3 = some 1 := by kernel_rfl
theorem byK_3 : byK Try.prog 3 = some 8 := by kernel_rfl
theorem zeroK_3 : zeroK Try.prog 3 = some (.int .i64 0) := by kernel_rfl
theorem tyK_4 : tyK Try.prog 4 = some (false, 1) := by kernel_rfl
theorem szK_4 : szK Try.prog 4 = some 1 := by kernel_rfl
theorem byK_4 : byK Try.prog 4 = some 1 := by kernel_rfl
theorem zeroK_4 : zeroK Try.prog 4 = some (.bool false) := by kernel_rfl
theorem tyK_5 : tyK Try.prog 5 = some (false, 1) := by kernel_rfl
theorem szK_5 : szK Try.prog 5 = some 1 := by kernel_rfl
theorem byK_5 : byK Try.prog 5 = some 1 := by kernel_rfl
theorem zeroK_5 : zeroK Try.prog 5 = some (.int .u8 0) := by kernel_rfl
theorem tyK_6 : tyK Try.prog 6 = some (false, 1) := by kernel_rfl
theorem szK_6 : szK Try.prog 6 = some 1 := by kernel_rfl
theorem byK_6 : byK Try.prog 6 = some 1 := by kernel_rfl
theorem zeroK_6 : zeroK Try.prog 6 = some (.int .u8 0) := by kernel_rfl
theorem tyK_7 : tyK Try.prog 7 = some (true, 4) := by kernel_rfl
theorem szK_7 : szK Try.prog 7 = some 4 := by kernel_rfl
theorem byK_7 : byK Try.prog 7 = some 24 := by kernel_rfl
theorem zeroK_7 : zeroK Try.prog 7 = some (.agg #[(.int .i64 0), (.int .i64 0), (.bool false), (.int .u8 0)]) := by kernel_rfl
theorem fldK_7_0 : fldK Try.prog 7 0 = some (0, (false, 1)) := by kernel_rfl
theorem fldK_7_1 : fldK Try.prog 7 1 = some (1, (false, 1)) := by kernel_rfl
theorem fldK_7_2 : fldK Try.prog 7 2 = some (2, (false, 1)) := by kernel_rfl
theorem fldK_7_3 : fldK Try.prog 7 3 = some (3, (false, 1)) := by kernel_rfl
theorem placesK_7 : placesK Try.prog 7 = some [(0, 1), (1, 1), (2, 1), (3, 1)] := by kernel_rfl
theorem tyK_8 : tyK Try.prog 8 = some (true, 4) := by kernel_rfl
theorem szK_8 : szK Try.prog 8 = some 4 := by kernel_rfl
theorem byK_8 : byK Try.prog 8 = some 24 := by kernel_rfl
theorem zeroK_8 : zeroK Try.prog 8 = some (.agg #[(.int .i64 0), (.int .i64 0), (.bool false), (.int .u8 0)]) := by kernel_rfl
theorem fldK_8_0 : fldK Try.prog 8 0 = some (0, (false, 1)) := by kernel_rfl
theorem fldK_8_1 : fldK Try.prog 8 1 = some (1, (false, 1)) := by kernel_rfl
theorem fldK_8_2 : fldK Try.prog 8 2 = some (2, (false, 1)) := by kernel_rfl
theorem fldK_8_3 : fldK Try.prog 8 3 = some (3, (false, 1)) := by kernel_rfl
theorem placesK_8 : placesK Try.prog 8 = some [(0, 1), (1, 1), (2, 1), (3, 1)] := by kernel_rfl
theorem tyK_9 : tyK Try.prog 9 = some (false, 1) := by kernel_rfl
theorem szK_9 : szK Try.prog 9 = some 1 := by kernel_rfl
theorem byK_9 : byK Try.prog 9 = some 16 := by kernel_rfl
theorem zeroK_9 : zeroK Try.prog 9 = some (.string ⟨#[]⟩) := by kernel_rfl
theorem tyK_10 : tyK Try.prog 10 = some (false, 1) := by kernel_rfl
theorem szK_10 : szK Try.prog 10 = some 1 := by kernel_rfl
theorem byK_10 : byK Try.prog 10 = some 16 := by kernel_rfl
theorem zeroK_10 : zeroK Try.prog 10 = some (.string ⟨#[]⟩) := by kernel_rfl
theorem tyK_11 : tyK Try.prog 11 = some (false, 1) := by kernel_rfl
theorem szK_11 : szK Try.prog 11 = some 1 := by kernel_rfl
theorem byK_11 : byK Try.prog 11 = some 16 := by kernel_rfl
theorem zeroK_11 : zeroK Try.prog 11 = some (.string ⟨#[]⟩) := by kernel_rfl
theorem tyK_12 : tyK Try.prog 12 = some (false, 1) := by kernel_rfl
theorem szK_12 : szK Try.prog 12 = some 1 := by kernel_rfl
theorem byK_12 : byK Try.prog 12 = some 8 := by kernel_rfl
theorem zeroK_12 : zeroK Try.prog 12 = some (.int .u64 0) := by kernel_rfl
theorem tyK_13 : tyK Try.prog 13 = some (true, 2) := by kernel_rfl
theorem szK_13 : szK Try.prog 13 = some 2 := by kernel_rfl
theorem byK_13 : byK Try.prog 13 = some 24 := by kernel_rfl
theorem zeroK_13 : zeroK Try.prog 13 = some (.agg #[(.string ⟨#[]⟩), (.int .u64 0)]) := by kernel_rfl
theorem fldK_13_0 : fldK Try.prog 13 0 = some (0, (false, 1)) := by kernel_rfl
theorem fldK_13_1 : fldK Try.prog 13 1 = some (1, (false, 1)) := by kernel_rfl
theorem placesK_13 : placesK Try.prog 13 = some [(0, 1), (1, 1)] := by kernel_rfl
theorem tyK_14 : tyK Try.prog 14 = some (true, 2) := by kernel_rfl
theorem szK_14 : szK Try.prog 14 = some 2 := by kernel_rfl
theorem byK_14 : byK Try.prog 14 = some 24 := by kernel_rfl
theorem zeroK_14 : zeroK Try.prog 14 = some (.agg #[(.string ⟨#[]⟩), (.int .u64 0)]) := by kernel_rfl
theorem fldK_14_0 : fldK Try.prog 14 0 = some (0, (false, 1)) := by kernel_rfl
theorem fldK_14_1 : fldK Try.prog 14 1 = some (1, (false, 1)) := by kernel_rfl
theorem placesK_14 : placesK Try.prog 14 = some [(0, 1), (1, 1)] := by kernel_rfl
theorem tyK_15 : tyK Try.prog 15 = some (false, 1) := by kernel_rfl
theorem szK_15 : szK Try.prog 15 = some 1 := by kernel_rfl
theorem byK_15 : byK Try.prog 15 = some 8 := by kernel_rfl
theorem zeroK_15 : zeroK Try.prog 15 = some (.pointer none) := by kernel_rfl
theorem tyK_16 : tyK Try.prog 16 = some (false, 1) := by kernel_rfl
theorem szK_16 : szK Try.prog 16 = some 1 := by kernel_rfl
theorem byK_16 : byK Try.prog 16 = some 8 := by kernel_rfl
theorem zeroK_16 : zeroK Try.prog 16 = some (.pointer none) := by kernel_rfl
theorem tyK_17 : tyK Try.prog 17 = some (false, 1) := by kernel_rfl
theorem szK_17 : szK Try.prog 17 = some 1 := by kernel_rfl
theorem byK_17 : byK Try.prog 17 = some 8 := by kernel_rfl
theorem zeroK_17 : zeroK Try.prog 17 = some (.pointer none) := by kernel_rfl
theorem tyK_18 : tyK Try.prog 18 = some (true, 1) := by kernel_rfl
theorem szK_18 : szK Try.prog 18 = some 1 := by kernel_rfl
theorem byK_18 : byK Try.prog 18 = some 8 := by kernel_rfl
theorem zeroK_18 : zeroK Try.prog 18 = some (.agg #[(.pointer none)]) := by kernel_rfl
theorem fldK_18_0 : fldK Try.prog 18 0 = some (0, (false, 1)) := by kernel_rfl
theorem placesK_18 : placesK Try.prog 18 = some [(0, 1)] := by kernel_rfl
theorem tyK_19 : tyK Try.prog 19 = some (true, 1) := by kernel_rfl
theorem szK_19 : szK Try.prog 19 = some 1 := by kernel_rfl
theorem byK_19 : byK Try.prog 19 = some 8 := by kernel_rfl
theorem zeroK_19 : zeroK Try.prog 19 = some (.agg #[(.pointer none)]) := by kernel_rfl
theorem fldK_19_0 : fldK Try.prog 19 0 = some (0, (false, 1)) := by kernel_rfl
theorem placesK_19 : placesK Try.prog 19 = some [(0, 1)] := by kernel_rfl
theorem tyK_20 : tyK Try.prog 20 = some (false, 1) := by kernel_rfl
theorem szK_20 : szK Try.prog 20 = some 1 := by kernel_rfl
theorem byK_20 : byK Try.prog 20 = some 16 := by kernel_rfl
theorem zeroK_20 : zeroK Try.prog 20 = some .nilIface := by kernel_rfl
theorem tyK_21 : tyK Try.prog 21 = some (false, 1) := by kernel_rfl
theorem szK_21 : szK Try.prog 21 = some 1 := by kernel_rfl
theorem byK_21 : byK Try.prog 21 = some 4 := by kernel_rfl
theorem zeroK_21 : zeroK Try.prog 21 = some (.int .i32 0) := by kernel_rfl
theorem tyK_22 : tyK Try.prog 22 = some (false, 1) := by kernel_rfl
theorem szK_22 : szK Try.prog 22 = some 1 := by kernel_rfl
theorem byK_22 : byK Try.prog 22 = some 24 := by kernel_rfl
theorem zeroK_22 : zeroK Try.prog 22 = some (.slice none 0 0) := by kernel_rfl
theorem elK_22 : elK Try.prog 22 = some (none, 3, (false, 1)) := by kernel_rfl
theorem tyK_23 : tyK Try.prog 23 = some (false, 1) := by kernel_rfl
theorem szK_23 : szK Try.prog 23 = some 1 := by kernel_rfl
theorem byK_23 : byK Try.prog 23 = some 8 := by kernel_rfl
theorem zeroK_23 : zeroK Try.prog 23 = some .nilFunc := by kernel_rfl
theorem tyK_24 : tyK Try.prog 24 = some (false, 1) := by kernel_rfl
theorem szK_24 : szK Try.prog 24 = some 1 := by kernel_rfl
theorem byK_24 : byK Try.prog 24 = some 8 := by kernel_rfl
theorem zeroK_24 : zeroK Try.prog 24 = some (.pointer none) := by kernel_rfl
theorem tyK_25 : tyK Try.prog 25 = some (false, 1) := by kernel_rfl
theorem szK_25 : szK Try.prog 25 = some 1 := by kernel_rfl
theorem byK_25 : byK Try.prog 25 = some 8 := by kernel_rfl
theorem zeroK_25 : zeroK Try.prog 25 = some .nilFunc := by kernel_rfl
theorem tyK_26 : tyK Try.prog 26 = some (false, 1) := by kernel_rfl
theorem szK_26 : szK Try.prog 26 = some 1 := by kernel_rfl
theorem byK_26 : byK Try.prog 26 = some 8 := by kernel_rfl
theorem zeroK_26 : zeroK Try.prog 26 = some (.map none) := by kernel_rfl
theorem mapK_26 : mapK Try.prog 26 = some ((.int .i64), 3) := by kernel_rfl
theorem tyK_27 : tyK Try.prog 27 = some (false, 1) := by kernel_rfl
theorem szK_27 : szK Try.prog 27 = some 1 := by kernel_rfl
theorem byK_27 : byK Try.prog 27 = some 8 := by kernel_rfl
theorem zeroK_27 : zeroK Try.prog 27 = some (.int .i64 0) := by kernel_rfl
theorem tyK_28 : tyK Try.prog 28 = some (false, 1) := by kernel_rfl
theorem szK_28 : szK Try.prog 28 = some 1 := by kernel_rfl
theorem byK_28 : byK Try.prog 28 = some 8 := by kernel_rfl
theorem zeroK_28 : zeroK Try.prog 28 = some .nilFunc := by kernel_rfl
theorem tyK_30 : tyK Try.prog 30 = some (false, 1) := by kernel_rfl
theorem szK_30 : szK Try.prog 30 = some 1 := by kernel_rfl
theorem byK_30 : byK Try.prog 30 = some 8 := by kernel_rfl
theorem zeroK_30 : zeroK Try.prog 30 = some .nilFunc := by kernel_rfl
theorem tyK_31 : tyK Try.prog 31 = some (false, 1) := by kernel_rfl
theorem szK_31 : szK Try.prog 31 = some 1 := by kernel_rfl
theorem byK_31 : byK Try.prog 31 = some 8 := by kernel_rfl
theorem zeroK_31 : zeroK Try.prog 31 = some .nilFunc := by kernel_rfl
theorem tyK_32 : tyK Try.prog 32 = some (false, 1) := by kernel_rfl
theorem szK_32 : szK Try.prog 32 = some 1 := by kernel_rfl
theorem byK_32 : byK Try.prog 32 = some 8 := by kernel_rfl
theorem zeroK_32 : zeroK Try.prog 32 = some .nilFunc := by kernel_rfl
theorem tyK_33 : tyK Try.prog 33 = some (false, 1) := by kernel_rfl
theorem szK_33 : szK Try.prog 33 = some 1 := by kernel_rfl
theorem byK_33 : byK Try.prog 33 = some 8 := by kernel_rfl
theorem zeroK_33 : zeroK Try.prog 33 = some .nilFunc := by kernel_rfl
theorem tyK_35 : tyK Try.prog 35 = some (false, 1) := by kernel_rfl
theorem szK_35 : szK Try.prog 35 = some 1 := by kernel_rfl
theorem byK_35 : byK Try.prog 35 = some 8 := by kernel_rfl
theorem zeroK_35 : zeroK Try.prog 35 = some .nilFunc := by kernel_rfl
theorem tyK_36 : tyK Try.prog 36 = some (false, 1) := by kernel_rfl
theorem szK_36 : szK Try.prog 36 = some 1 := by kernel_rfl
theorem byK_36 : byK Try.prog 36 = some 8 := by kernel_rfl
theorem zeroK_36 : zeroK Try.prog 36 = some .nilFunc := by kernel_rfl
theorem tyK_37 : tyK Try.prog 37 = some (false, 1) := by kernel_rfl
theorem szK_37 : szK Try.prog 37 = some 1 := by kernel_rfl
theorem byK_37 : byK Try.prog 37 = some 24 := by kernel_rfl
theorem zeroK_37 : zeroK Try.prog 37 = some (.slice none 0 0) := by kernel_rfl
theorem elK_37 : elK Try.prog 37 = some (none, 40, (true, 3)) := by kernel_rfl
theorem tyK_38 : tyK Try.prog 38 = some (false, 1) := by kernel_rfl
theorem szK_38 : szK Try.prog 38 = some 1 := by kernel_rfl
theorem byK_38 : byK Try.prog 38 = some 24 := by kernel_rfl
theorem zeroK_38 : zeroK Try.prog 38 = some (.slice none 0 0) := by kernel_rfl
theorem elK_38 : elK Try.prog 38 = some (none, 43, (true, 2)) := by kernel_rfl
theorem tyK_39 : tyK Try.prog 39 = some (true, 3) := by kernel_rfl
theorem szK_39 : szK Try.prog 39 = some 3 := by kernel_rfl
theorem byK_39 : byK Try.prog 39 = some 24 := by kernel_rfl
theorem zeroK_39 : zeroK Try.prog 39 = some (.agg #[(.int .i64 0), (.int .i64 0), (.int .i64 0)]) := by kernel_rfl
theorem fldK_39_0 : fldK Try.prog 39 0 = some (0, (false, 1)) := by kernel_rfl
theorem fldK_39_1 : fldK Try.prog 39 1 = some (1, (false, 1)) := by kernel_rfl
theorem fldK_39_2 : fldK Try.prog 39 2 = some (2, (false, 1)) := by kernel_rfl
theorem placesK_39 : placesK Try.prog 39 = some [(0, 1), (1, 1), (2, 1)] := by kernel_rfl
theorem aggK_39 : aggK Try.prog 39 = some [(.i .i64), (.i .i64), (.i .i64)] := by kernel_rfl
theorem tyK_40 : tyK Try.prog 40 = some (true, 3) := by kernel_rfl
theorem szK_40 : szK Try.prog 40 = some 3 := by kernel_rfl
theorem byK_40 : byK Try.prog 40 = some 24 := by kernel_rfl
theorem zeroK_40 : zeroK Try.prog 40 = some (.agg #[(.int .i64 0), (.int .i64 0), (.int .i64 0)]) := by kernel_rfl
theorem fldK_40_0 : fldK Try.prog 40 0 = some (0, (false, 1)) := by kernel_rfl
theorem fldK_40_1 : fldK Try.prog 40 1 = some (1, (false, 1)) := by kernel_rfl
theorem fldK_40_2 : fldK Try.prog 40 2 = some (2, (false, 1)) := by kernel_rfl
theorem placesK_40 : placesK Try.prog 40 = some [(0, 1), (1, 1), (2, 1)] := by kernel_rfl
theorem aggK_40 : aggK Try.prog 40 = some [(.i .i64), (.i .i64), (.i .i64)] := by kernel_rfl
theorem tyK_41 : tyK Try.prog 41 = some (false, 1) := by kernel_rfl
theorem szK_41 : szK Try.prog 41 = some 1 := by kernel_rfl
theorem byK_41 : byK Try.prog 41 = some 8 := by kernel_rfl
theorem zeroK_41 : zeroK Try.prog 41 = some .nilFunc := by kernel_rfl
theorem tyK_42 : tyK Try.prog 42 = some (true, 2) := by kernel_rfl
theorem szK_42 : szK Try.prog 42 = some 2 := by kernel_rfl
theorem byK_42 : byK Try.prog 42 = some 16 := by kernel_rfl
theorem zeroK_42 : zeroK Try.prog 42 = some (.agg #[(.int .i64 0), (.int .i64 0)]) := by kernel_rfl
theorem fldK_42_0 : fldK Try.prog 42 0 = some (0, (false, 1)) := by kernel_rfl
theorem fldK_42_1 : fldK Try.prog 42 1 = some (1, (false, 1)) := by kernel_rfl
theorem placesK_42 : placesK Try.prog 42 = some [(0, 1), (1, 1)] := by kernel_rfl
theorem aggK_42 : aggK Try.prog 42 = some [(.i .i64), (.i .i64)] := by kernel_rfl
theorem tyK_43 : tyK Try.prog 43 = some (true, 2) := by kernel_rfl
theorem szK_43 : szK Try.prog 43 = some 2 := by kernel_rfl
theorem byK_43 : byK Try.prog 43 = some 16 := by kernel_rfl
theorem zeroK_43 : zeroK Try.prog 43 = some (.agg #[(.int .i64 0), (.int .i64 0)]) := by kernel_rfl
theorem fldK_43_0 : fldK Try.prog 43 0 = some (0, (false, 1)) := by kernel_rfl
theorem fldK_43_1 : fldK Try.prog 43 1 = some (1, (false, 1)) := by kernel_rfl
theorem placesK_43 : placesK Try.prog 43 = some [(0, 1), (1, 1)] := by kernel_rfl
theorem aggK_43 : aggK Try.prog 43 = some [(.i .i64), (.i .i64)] := by kernel_rfl
theorem tyK_44 : tyK Try.prog 44 = some (false, 1) := by kernel_rfl
theorem szK_44 : szK Try.prog 44 = some 1 := by kernel_rfl
theorem byK_44 : byK Try.prog 44 = some 8 := by kernel_rfl
theorem zeroK_44 : zeroK Try.prog 44 = some .nilFunc := by kernel_rfl
theorem tyK_46 : tyK Try.prog 46 = some (false, 1) := by kernel_rfl
theorem szK_46 : szK Try.prog 46 = some 1 := by kernel_rfl
theorem byK_46 : byK Try.prog 46 = some 8 := by kernel_rfl
theorem zeroK_46 : zeroK Try.prog 46 = some .nilFunc := by kernel_rfl
theorem tyK_47 : tyK Try.prog 47 = some (false, 1) := by kernel_rfl
theorem szK_47 : szK Try.prog 47 = some 1 := by kernel_rfl
theorem byK_47 : byK Try.prog 47 = some 8 := by kernel_rfl
theorem zeroK_47 : zeroK Try.prog 47 = some .nilFunc := by kernel_rfl
theorem tyK_48 : tyK Try.prog 48 = some (false, 1) := by kernel_rfl
theorem szK_48 : szK Try.prog 48 = some 1 := by kernel_rfl
theorem byK_48 : byK Try.prog 48 = some 8 := by kernel_rfl
theorem zeroK_48 : zeroK Try.prog 48 = some .nilFunc := by kernel_rfl
theorem tyK_49 : tyK Try.prog 49 = some (false, 1) := by kernel_rfl
theorem szK_49 : szK Try.prog 49 = some 1 := by kernel_rfl
theorem byK_49 : byK Try.prog 49 = some 8 := by kernel_rfl
theorem zeroK_49 : zeroK Try.prog 49 = some .nilFunc := by kernel_rfl
theorem tyK_50 : tyK Try.prog 50 = some (false, 1) := by kernel_rfl
theorem szK_50 : szK Try.prog 50 = some 1 := by kernel_rfl
theorem byK_50 : byK Try.prog 50 = some 8 := by kernel_rfl
theorem zeroK_50 : zeroK Try.prog 50 = some (.map none) := by kernel_rfl
theorem mapK_50 : mapK Try.prog 50 = some ((.int .i64), 55) := by kernel_rfl
theorem tyK_51 : tyK Try.prog 51 = some (false, 1) := by kernel_rfl
theorem szK_51 : szK Try.prog 51 = some 1 := by kernel_rfl
theorem byK_51 : byK Try.prog 51 = some 24 := by kernel_rfl
theorem zeroK_51 : zeroK Try.prog 51 = some (.slice none 0 0) := by kernel_rfl
theorem elK_51 : elK Try.prog 51 = some (none, 55, (false, 1)) := by kernel_rfl
theorem tyK_52 : tyK Try.prog 52 = some (false, 1) := by kernel_rfl
theorem szK_52 : szK Try.prog 52 = some 1 := by kernel_rfl
theorem byK_52 : byK Try.prog 52 = some 24 := by kernel_rfl
theorem zeroK_52 : zeroK Try.prog 52 = some (.slice none 0 0) := by kernel_rfl
theorem elK_52 : elK Try.prog 52 = some (none, 55, (false, 1)) := by kernel_rfl
theorem tyK_53 : tyK Try.prog 53 = some (true, 2) := by kernel_rfl
theorem szK_53 : szK Try.prog 53 = some 2 := by kernel_rfl
theorem byK_53 : byK Try.prog 53 = some 32 := by kernel_rfl
theorem zeroK_53 : zeroK Try.prog 53 = some (.agg #[(.slice none 0 0), (.map none)]) := by kernel_rfl
theorem fldK_53_0 : fldK Try.prog 53 0 = some (0, (false, 1)) := by kernel_rfl
theorem fldK_53_1 : fldK Try.prog 53 1 = some (1, (false, 1)) := by kernel_rfl
theorem placesK_53 : placesK Try.prog 53 = some [(0, 1), (1, 1)] := by kernel_rfl
theorem tyK_54 : tyK Try.prog 54 = some (true, 2) := by kernel_rfl
theorem szK_54 : szK Try.prog 54 = some 2 := by kernel_rfl
theorem byK_54 : byK Try.prog 54 = some 32 := by kernel_rfl
theorem zeroK_54 : zeroK Try.prog 54 = some (.agg #[(.slice none 0 0), (.map none)]) := by kernel_rfl
theorem fldK_54_0 : fldK Try.prog 54 0 = some (0, (false, 1)) := by kernel_rfl
theorem fldK_54_1 : fldK Try.prog 54 1 = some (1, (false, 1)) := by kernel_rfl
theorem placesK_54 : placesK Try.prog 54 = some [(0, 1), (1, 1)] := by kernel_rfl
theorem tyK_55 : tyK Try.prog 55 = some (false, 1) := by kernel_rfl
theorem szK_55 : szK Try.prog 55 = some 1 := by kernel_rfl
theorem byK_55 : byK Try.prog 55 = some 8 := by kernel_rfl
theorem zeroK_55 : zeroK Try.prog 55 = some (.pointer none) := by kernel_rfl
theorem tyK_56 : tyK Try.prog 56 = some (true, 3) := by kernel_rfl
theorem szK_56 : szK Try.prog 56 = some 3 := by kernel_rfl
theorem byK_56 : byK Try.prog 56 = some 24 := by kernel_rfl
theorem zeroK_56 : zeroK Try.prog 56 = some (.agg #[(.int .i64 0), (.int .i64 0), (.int .i64 0)]) := by kernel_rfl
theorem fldK_56_0 : fldK Try.prog 56 0 = some (0, (false, 1)) := by kernel_rfl
theorem fldK_56_1 : fldK Try.prog 56 1 = some (1, (false, 1)) := by kernel_rfl
theorem fldK_56_2 : fldK Try.prog 56 2 = some (2, (false, 1)) := by kernel_rfl
theorem placesK_56 : placesK Try.prog 56 = some [(0, 1), (1, 1), (2, 1)] := by kernel_rfl
theorem aggK_56 : aggK Try.prog 56 = some [(.i .i64), (.i .i64), (.i .i64)] := by kernel_rfl
theorem tyK_57 : tyK Try.prog 57 = some (true, 3) := by kernel_rfl
theorem szK_57 : szK Try.prog 57 = some 3 := by kernel_rfl
theorem byK_57 : byK Try.prog 57 = some 24 := by kernel_rfl
theorem zeroK_57 : zeroK Try.prog 57 = some (.agg #[(.int .i64 0), (.int .i64 0), (.int .i64 0)]) := by kernel_rfl
theorem fldK_57_0 : fldK Try.prog 57 0 = some (0, (false, 1)) := by kernel_rfl
theorem fldK_57_1 : fldK Try.prog 57 1 = some (1, (false, 1)) := by kernel_rfl
theorem fldK_57_2 : fldK Try.prog 57 2 = some (2, (false, 1)) := by kernel_rfl
theorem placesK_57 : placesK Try.prog 57 = some [(0, 1), (1, 1), (2, 1)] := by kernel_rfl
theorem aggK_57 : aggK Try.prog 57 = some [(.i .i64), (.i .i64), (.i .i64)] := by kernel_rfl
theorem tyK_58 : tyK Try.prog 58 = some (false, 1) := by kernel_rfl
theorem szK_58 : szK Try.prog 58 = some 1 := by kernel_rfl
theorem byK_58 : byK Try.prog 58 = some 8 := by kernel_rfl
theorem zeroK_58 : zeroK Try.prog 58 = some .nilFunc := by kernel_rfl
theorem tyK_59 : tyK Try.prog 59 = some (false, 1) := by kernel_rfl
theorem szK_59 : szK Try.prog 59 = some 1 := by kernel_rfl
theorem byK_59 : byK Try.prog 59 = some 8 := by kernel_rfl
theorem zeroK_59 : zeroK Try.prog 59 = some (.pointer none) := by kernel_rfl
theorem tyK_60 : tyK Try.prog 60 = some (false, 1) := by kernel_rfl
theorem szK_60 : szK Try.prog 60 = some 1 := by kernel_rfl
theorem byK_60 : byK Try.prog 60 = some 8 := by kernel_rfl
theorem zeroK_60 : zeroK Try.prog 60 = some .nilFunc := by kernel_rfl
theorem tyK_61 : tyK Try.prog 61 = some (false, 1) := by kernel_rfl
theorem szK_61 : szK Try.prog 61 = some 1 := by kernel_rfl
theorem byK_61 : byK Try.prog 61 = some 8 := by kernel_rfl
theorem zeroK_61 : zeroK Try.prog 61 = some .nilFunc := by kernel_rfl
theorem tyK_62 : tyK Try.prog 62 = some (false, 1) := by kernel_rfl
theorem szK_62 : szK Try.prog 62 = some 1 := by kernel_rfl
theorem byK_62 : byK Try.prog 62 = some 16 := by kernel_rfl
theorem zeroK_62 : zeroK Try.prog 62 = some .nilIface := by kernel_rfl
theorem tyK_63 : tyK Try.prog 63 = some (false, 1) := by kernel_rfl
theorem szK_63 : szK Try.prog 63 = some 1 := by kernel_rfl
theorem byK_63 : byK Try.prog 63 = some 16 := by kernel_rfl
theorem zeroK_63 : zeroK Try.prog 63 = some .nilIface := by kernel_rfl
theorem tyK_64 : tyK Try.prog 64 = some (false, 1) := by kernel_rfl
theorem szK_64 : szK Try.prog 64 = some 1 := by kernel_rfl
theorem byK_64 : byK Try.prog 64 = some 8 := by kernel_rfl
theorem zeroK_64 : zeroK Try.prog 64 = some .nilFunc := by kernel_rfl
theorem tyK_65 : tyK Try.prog 65 = some (false, 1) := by kernel_rfl
theorem szK_65 : szK Try.prog 65 = some 1 := by kernel_rfl
theorem byK_65 : byK Try.prog 65 = some 8 := by kernel_rfl
theorem zeroK_65 : zeroK Try.prog 65 = some .nilFunc := by kernel_rfl
theorem tyK_66 : tyK Try.prog 66 = some (false, 1) := by kernel_rfl
theorem szK_66 : szK Try.prog 66 = some 1 := by kernel_rfl
theorem byK_66 : byK Try.prog 66 = some 8 := by kernel_rfl
theorem zeroK_66 : zeroK Try.prog 66 = some .nilFunc := by kernel_rfl
theorem tyK_67 : tyK Try.prog 67 = some (false, 1) := by kernel_rfl
theorem szK_67 : szK Try.prog 67 = some 1 := by kernel_rfl
theorem byK_67 : byK Try.prog 67 = some 8 := by kernel_rfl
theorem zeroK_67 : zeroK Try.prog 67 = some .nilFunc := by kernel_rfl
theorem tyK_68 : tyK Try.prog 68 = some (false, 1) := by kernel_rfl
theorem szK_68 : szK Try.prog 68 = some 1 := by kernel_rfl
theorem byK_68 : byK Try.prog 68 = some 8 := by kernel_rfl
theorem zeroK_68 : zeroK Try.prog 68 = some .nilFunc := by kernel_rfl
theorem tyK_69 : tyK Try.prog 69 = some (false, 1) := by kernel_rfl
theorem szK_69 : szK Try.prog 69 = some 1 := by kernel_rfl
theorem byK_69 : byK Try.prog 69 = some 8 := by kernel_rfl
theorem zeroK_69 : zeroK Try.prog 69 = some .nilFunc := by kernel_rfl
theorem tyK_70 : tyK Try.prog 70 = some (true, 4) := by kernel_rfl
theorem szK_70 : szK Try.prog 70 = some 4 := by kernel_rfl
theorem byK_70 : byK Try.prog 70 = some 40 := by kernel_rfl
theorem zeroK_70 : zeroK Try.prog 70 = some (.agg #[(.pointer none), (.pointer none), (.pointer none), (.string ⟨#[]⟩)]) := by kernel_rfl
theorem fldK_70_0 : fldK Try.prog 70 0 = some (0, (false, 1)) := by kernel_rfl
theorem fldK_70_1 : fldK Try.prog 70 1 = some (1, (false, 1)) := by kernel_rfl
theorem fldK_70_2 : fldK Try.prog 70 2 = some (2, (false, 1)) := by kernel_rfl
theorem fldK_70_3 : fldK Try.prog 70 3 = some (3, (false, 1)) := by kernel_rfl
theorem placesK_70 : placesK Try.prog 70 = some [(0, 1), (1, 1), (2, 1), (3, 1)] := by kernel_rfl
theorem tyK_71 : tyK Try.prog 71 = some (true, 4) := by kernel_rfl
theorem szK_71 : szK Try.prog 71 = some 4 := by kernel_rfl
theorem byK_71 : byK Try.prog 71 = some 40 := by kernel_rfl
theorem zeroK_71 : zeroK Try.prog 71 = some (.agg #[(.pointer none), (.pointer none), (.pointer none), (.string ⟨#[]⟩)]) := by kernel_rfl
theorem fldK_71_0 : fldK Try.prog 71 0 = some (0, (false, 1)) := by kernel_rfl
theorem fldK_71_1 : fldK Try.prog 71 1 = some (1, (false, 1)) := by kernel_rfl
theorem fldK_71_2 : fldK Try.prog 71 2 = some (2, (false, 1)) := by kernel_rfl
theorem fldK_71_3 : fldK Try.prog 71 3 = some (3, (false, 1)) := by kernel_rfl
theorem placesK_71 : placesK Try.prog 71 = some [(0, 1), (1, 1), (2, 1), (3, 1)] := by kernel_rfl
theorem tyK_72 : tyK Try.prog 72 = some (true, 0) := by kernel_rfl
theorem szK_72 : szK Try.prog 72 = some 0 := by kernel_rfl
theorem byK_72 : byK Try.prog 72 = some 0 := by kernel_rfl
theorem zeroK_72 : zeroK Try.prog 72 = some (.agg #[]) := by kernel_rfl
theorem elK_72 : elK Try.prog 72 = some (some 0, 16, (false, 1)) := by kernel_rfl
theorem tyK_73 : tyK Try.prog 73 = some (true, 0) := by kernel_rfl
theorem szK_73 : szK Try.prog 73 = some 0 := by kernel_rfl
theorem byK_73 : byK Try.prog 73 = some 0 := by kernel_rfl
theorem zeroK_73 : zeroK Try.prog 73 = some (.agg #[]) := by kernel_rfl
theorem fldK_73_0 : fldK Try.prog 73 0 = some (0, (true, 0)) := by kernel_rfl
theorem placesK_73 : placesK Try.prog 73 = some [(0, 0)] := by kernel_rfl
theorem tyK_74 : tyK Try.prog 74 = some (true, 0) := by kernel_rfl
theorem szK_74 : szK Try.prog 74 = some 0 := by kernel_rfl
theorem byK_74 : byK Try.prog 74 = some 0 := by kernel_rfl
theorem zeroK_74 : zeroK Try.prog 74 = some (.agg #[]) := by kernel_rfl
theorem fldK_74_0 : fldK Try.prog 74 0 = some (0, (true, 0)) := by kernel_rfl
theorem placesK_74 : placesK Try.prog 74 = some [(0, 0)] := by kernel_rfl
theorem tyK_75 : tyK Try.prog 75 = some (false, 1) := by kernel_rfl
theorem szK_75 : szK Try.prog 75 = some 1 := by kernel_rfl
theorem byK_75 : byK Try.prog 75 = some 4 := by kernel_rfl
theorem zeroK_75 : zeroK Try.prog 75 = some (.int .u32 0) := by kernel_rfl
theorem tyK_76 : tyK Try.prog 76 = some (false, 1) := by kernel_rfl
theorem szK_76 : szK Try.prog 76 = some 1 := by kernel_rfl
theorem byK_76 : byK Try.prog 76 = some 1 := by kernel_rfl
theorem zeroK_76 : zeroK Try.prog 76 = some (.int .u8 0) := by kernel_rfl
theorem tyK_77 : tyK Try.prog 77 = some (false, 1) := by kernel_rfl
theorem szK_77 : szK Try.prog 77 = some 1 := by kernel_rfl
theorem byK_77 : byK Try.prog 77 = some 1 := by kernel_rfl
theorem zeroK_77 : zeroK Try.prog 77 = some (.int .u8 0) := by kernel_rfl
theorem tyK_78 : tyK Try.prog 78 = some (false, 1) := by kernel_rfl
theorem szK_78 : szK Try.prog 78 = some 1 := by kernel_rfl
theorem byK_78 : byK Try.prog 78 = some 8 := by kernel_rfl
theorem zeroK_78 : zeroK Try.prog 78 = some .nilFunc := by kernel_rfl
theorem tyK_79 : tyK Try.prog 79 = some (false, 1) := by kernel_rfl
theorem szK_79 : szK Try.prog 79 = some 1 := by kernel_rfl
theorem byK_79 : byK Try.prog 79 = some 8 := by kernel_rfl
theorem zeroK_79 : zeroK Try.prog 79 = some (.pointer none) := by kernel_rfl
theorem tyK_80 : tyK Try.prog 80 = some (false, 1) := by kernel_rfl
theorem szK_80 : szK Try.prog 80 = some 1 := by kernel_rfl
theorem byK_80 : byK Try.prog 80 = some 4 := by kernel_rfl
theorem zeroK_80 : zeroK Try.prog 80 = some (.int .i32 0) := by kernel_rfl
theorem tyK_81 : tyK Try.prog 81 = some (false, 1) := by kernel_rfl
theorem szK_81 : szK Try.prog 81 = some 1 := by kernel_rfl
theorem byK_81 : byK Try.prog 81 = some 4 := by kernel_rfl
theorem zeroK_81 : zeroK Try.prog 81 = some (.int .i32 0) := by kernel_rfl
theorem tyK_82 : tyK Try.prog 82 = some (true, 11) := by kernel_rfl
theorem szK_82 : szK Try.prog 82 = some 11 := by kernel_rfl
theorem byK_82 : byK Try.prog 82 = some 48 := by kernel_rfl
theorem zeroK_82 : zeroK Try.prog 82 = some (.agg #[(.int .u64 0), (.int .u64 0), (.int .u32 0), (.int .u8 0), (.int .u8 0), (.int .u8 0), (.int .u8 0), .nilFunc, (.pointer none), (.int .i32 0), (.int .i32 0)]) := by kernel_rfl
theorem fldK_82_0 : fldK Try.prog 82 0 = some (0, (false, 1)) := by kernel_rfl
theorem fldK_82_1 : fldK Try.prog 82 1 = some (1, (false, 1)) := by kernel_rfl
theorem fldK_82_2 : fldK Try.prog 82 2 = some (2, (false, 1)) := by kernel_rfl
theorem fldK_82_3 : fldK Try.prog 82 3 = some (3, (false, 1)) := by kernel_rfl
theorem fldK_82_4 : fldK Try.prog 82 4 = some (4, (false, 1)) := by kernel_rfl
theorem fldK_82_5 : fldK Try.prog 82 5 = some (5, (false, 1)) := by kernel_rfl
theorem fldK_82_6 : fldK Try.prog 82 6 = some (6, (false, 1)) := by kernel_rfl
theorem fldK_82_7 : fldK Try.prog 82 7 = some (7, (false, 1)) := by kernel_rfl
theorem fldK_82_8 : fldK Try.prog 82 8 = some (8, (false, 1)) := by kernel_rfl
theorem fldK_82_9 : fldK Try.prog 82 9 = some (9, (false, 1)) := by kernel_rfl
theorem fldK_82_10 : fldK Try.prog 82 10 = some (10, (false, 1)) := by kernel_rfl
theorem placesK_82 : placesK Try.prog 82 = some [(0, 1), (1, 1), (2, 1), (3, 1), (4, 1), (5, 1), (6, 1), (7, 1), (8, 1), (9, 1), (10, 1)] := by kernel_rfl
theorem tyK_83 : tyK Try.prog 83 = some (true, 11) := by kernel_rfl
theorem szK_83 : szK Try.prog 83 = some 11 := by kernel_rfl
theorem byK_83 : byK Try.prog 83 = some 48 := by kernel_rfl
theorem zeroK_83 : zeroK Try.prog 83 = some (.agg #[(.int .u64 0), (.int .u64 0), (.int .u32 0), (.int .u8 0), (.int .u8 0), (.int .u8 0), (.int .u8 0), .nilFunc, (.pointer none), (.int .i32 0), (.int .i32 0)]) := by kernel_rfl
theorem fldK_83_0 : fldK Try.prog 83 0 = some (0, (false, 1)) := by kernel_rfl
theorem fldK_83_1 : fldK Try.prog 83 1 = some (1, (false, 1)) := by kernel_rfl
theorem fldK_83_2 : fldK Try.prog 83 2 = some (2, (false, 1)) := by kernel_rfl
theorem fldK_83_3 : fldK Try.prog 83 3 = some (3, (false, 1)) := by kernel_rfl
theorem fldK_83_4 : fldK Try.prog 83 4 = some (4, (false, 1)) := by kernel_rfl
theorem fldK_83_5 : fldK Try.prog 83 5 = some (5, (false, 1)) := by kernel_rfl
theorem fldK_83_6 : fldK Try.prog 83 6 = some (6, (false, 1)) := by kernel_rfl
theorem fldK_83_7 : fldK Try.prog 83 7 = some (7, (false, 1)) := by kernel_rfl
theorem fldK_83_8 : fldK Try.prog 83 8 = some (8, (false, 1)) := by kernel_rfl
theorem fldK_83_9 : fldK Try.prog 83 9 = some (9, (false, 1)) := by kernel_rfl
theorem fldK_83_10 : fldK Try.prog 83 10 = some (10, (false, 1)) := by kernel_rfl
theorem placesK_83 : placesK Try.prog 83 = some [(0, 1), (1, 1), (2, 1), (3, 1), (4, 1), (5, 1), (6, 1), (7, 1), (8, 1), (9, 1), (10, 1)] := by kernel_rfl
theorem tyK_85 : tyK Try.prog 85 = some (false, 1) := by kernel_rfl
theorem szK_85 : szK Try.prog 85 = some 1 := by kernel_rfl
theorem byK_85 : byK Try.prog 85 = some 8 := by kernel_rfl
theorem zeroK_85 : zeroK Try.prog 85 = some (.pointer none) := by kernel_rfl
/-- All of them in one, for the rules. -/
theorem TF :
    ((tyK Try.prog 1 = some (false, 1)) ∧ (tyK Try.prog 2 = some (false, 1)) ∧ (tyK Try.prog 3 = some (false, 1)) ∧ (tyK Try.prog 4 = some (false, 1)) ∧ (tyK Try.prog 5 = some (false, 1)) ∧ (tyK Try.prog 6 = some (false, 1)) ∧ (tyK Try.prog 7 = some (true, 4)) ∧ (tyK Try.prog 8 = some (true, 4)) ∧ (tyK Try.prog 9 = some (false, 1)) ∧ (tyK Try.prog 10 = some (false, 1)) ∧ (tyK Try.prog 11 = some (false, 1)) ∧ (tyK Try.prog 12 = some (false, 1)) ∧ (tyK Try.prog 13 = some (true, 2)) ∧ (tyK Try.prog 14 = some (true, 2)) ∧ (tyK Try.prog 15 = some (false, 1)) ∧ (tyK Try.prog 16 = some (false, 1)) ∧ (tyK Try.prog 17 = some (false, 1)) ∧ (tyK Try.prog 18 = some (true, 1)) ∧ (tyK Try.prog 19 = some (true, 1)) ∧ (tyK Try.prog 20 = some (false, 1))) ∧
    ((tyK Try.prog 21 = some (false, 1)) ∧ (tyK Try.prog 22 = some (false, 1)) ∧ (tyK Try.prog 23 = some (false, 1)) ∧ (tyK Try.prog 24 = some (false, 1)) ∧ (tyK Try.prog 25 = some (false, 1)) ∧ (tyK Try.prog 26 = some (false, 1)) ∧ (tyK Try.prog 27 = some (false, 1)) ∧ (tyK Try.prog 28 = some (false, 1)) ∧ (tyK Try.prog 30 = some (false, 1)) ∧ (tyK Try.prog 31 = some (false, 1)) ∧ (tyK Try.prog 32 = some (false, 1)) ∧ (tyK Try.prog 33 = some (false, 1)) ∧ (tyK Try.prog 35 = some (false, 1)) ∧ (tyK Try.prog 36 = some (false, 1)) ∧ (tyK Try.prog 37 = some (false, 1)) ∧ (tyK Try.prog 38 = some (false, 1)) ∧ (tyK Try.prog 39 = some (true, 3)) ∧ (tyK Try.prog 40 = some (true, 3)) ∧ (tyK Try.prog 41 = some (false, 1)) ∧ (tyK Try.prog 42 = some (true, 2))) ∧
    ((tyK Try.prog 43 = some (true, 2)) ∧ (tyK Try.prog 44 = some (false, 1)) ∧ (tyK Try.prog 46 = some (false, 1)) ∧ (tyK Try.prog 47 = some (false, 1)) ∧ (tyK Try.prog 48 = some (false, 1)) ∧ (tyK Try.prog 49 = some (false, 1)) ∧ (tyK Try.prog 50 = some (false, 1)) ∧ (tyK Try.prog 51 = some (false, 1)) ∧ (tyK Try.prog 52 = some (false, 1)) ∧ (tyK Try.prog 53 = some (true, 2)) ∧ (tyK Try.prog 54 = some (true, 2)) ∧ (tyK Try.prog 55 = some (false, 1)) ∧ (tyK Try.prog 56 = some (true, 3)) ∧ (tyK Try.prog 57 = some (true, 3)) ∧ (tyK Try.prog 58 = some (false, 1)) ∧ (tyK Try.prog 59 = some (false, 1)) ∧ (tyK Try.prog 60 = some (false, 1)) ∧ (tyK Try.prog 61 = some (false, 1)) ∧ (tyK Try.prog 62 = some (false, 1)) ∧ (tyK Try.prog 63 = some (false, 1))) ∧
    ((tyK Try.prog 64 = some (false, 1)) ∧ (tyK Try.prog 65 = some (false, 1)) ∧ (tyK Try.prog 66 = some (false, 1)) ∧ (tyK Try.prog 67 = some (false, 1)) ∧ (tyK Try.prog 68 = some (false, 1)) ∧ (tyK Try.prog 69 = some (false, 1)) ∧ (tyK Try.prog 70 = some (true, 4)) ∧ (tyK Try.prog 71 = some (true, 4)) ∧ (tyK Try.prog 72 = some (true, 0)) ∧ (tyK Try.prog 73 = some (true, 0)) ∧ (tyK Try.prog 74 = some (true, 0)) ∧ (tyK Try.prog 75 = some (false, 1)) ∧ (tyK Try.prog 76 = some (false, 1)) ∧ (tyK Try.prog 77 = some (false, 1)) ∧ (tyK Try.prog 78 = some (false, 1)) ∧ (tyK Try.prog 79 = some (false, 1)) ∧ (tyK Try.prog 80 = some (false, 1)) ∧ (tyK Try.prog 81 = some (false, 1)) ∧ (tyK Try.prog 82 = some (true, 11)) ∧ (tyK Try.prog 83 = some (true, 11))) ∧
    ((tyK Try.prog 85 = some (false, 1)) ∧ (szK Try.prog 1 = some 1) ∧ (szK Try.prog 2 = some 1) ∧ (szK Try.prog 3 = some 1) ∧ (szK Try.prog 4 = some 1) ∧ (szK Try.prog 5 = some 1) ∧ (szK Try.prog 6 = some 1) ∧ (szK Try.prog 7 = some 4) ∧ (szK Try.prog 8 = some 4) ∧ (szK Try.prog 9 = some 1) ∧ (szK Try.prog 10 = some 1) ∧ (szK Try.prog 11 = some 1) ∧ (szK Try.prog 12 = some 1) ∧ (szK Try.prog 13 = some 2) ∧ (szK Try.prog 14 = some 2) ∧ (szK Try.prog 15 = some 1) ∧ (szK Try.prog 16 = some 1) ∧ (szK Try.prog 17 = some 1) ∧ (szK Try.prog 18 = some 1) ∧ (szK Try.prog 19 = some 1)) ∧
    ((szK Try.prog 20 = some 1) ∧ (szK Try.prog 21 = some 1) ∧ (szK Try.prog 22 = some 1) ∧ (szK Try.prog 23 = some 1) ∧ (szK Try.prog 24 = some 1) ∧ (szK Try.prog 25 = some 1) ∧ (szK Try.prog 26 = some 1) ∧ (szK Try.prog 27 = some 1) ∧ (szK Try.prog 28 = some 1) ∧ (szK Try.prog 30 = some 1) ∧ (szK Try.prog 31 = some 1) ∧ (szK Try.prog 32 = some 1) ∧ (szK Try.prog 33 = some 1) ∧ (szK Try.prog 35 = some 1) ∧ (szK Try.prog 36 = some 1) ∧ (szK Try.prog 37 = some 1) ∧ (szK Try.prog 38 = some 1) ∧ (szK Try.prog 39 = some 3) ∧ (szK Try.prog 40 = some 3) ∧ (szK Try.prog 41 = some 1)) ∧
    ((szK Try.prog 42 = some 2) ∧ (szK Try.prog 43 = some 2) ∧ (szK Try.prog 44 = some 1) ∧ (szK Try.prog 46 = some 1) ∧ (szK Try.prog 47 = some 1) ∧ (szK Try.prog 48 = some 1) ∧ (szK Try.prog 49 = some 1) ∧ (szK Try.prog 50 = some 1) ∧ (szK Try.prog 51 = some 1) ∧ (szK Try.prog 52 = some 1) ∧ (szK Try.prog 53 = some 2) ∧ (szK Try.prog 54 = some 2) ∧ (szK Try.prog 55 = some 1) ∧ (szK Try.prog 56 = some 3) ∧ (szK Try.prog 57 = some 3) ∧ (szK Try.prog 58 = some 1) ∧ (szK Try.prog 59 = some 1) ∧ (szK Try.prog 60 = some 1) ∧ (szK Try.prog 61 = some 1) ∧ (szK Try.prog 62 = some 1)) ∧
    ((szK Try.prog 63 = some 1) ∧ (szK Try.prog 64 = some 1) ∧ (szK Try.prog 65 = some 1) ∧ (szK Try.prog 66 = some 1) ∧ (szK Try.prog 67 = some 1) ∧ (szK Try.prog 68 = some 1) ∧ (szK Try.prog 69 = some 1) ∧ (szK Try.prog 70 = some 4) ∧ (szK Try.prog 71 = some 4) ∧ (szK Try.prog 72 = some 0) ∧ (szK Try.prog 73 = some 0) ∧ (szK Try.prog 74 = some 0) ∧ (szK Try.prog 75 = some 1) ∧ (szK Try.prog 76 = some 1) ∧ (szK Try.prog 77 = some 1) ∧ (szK Try.prog 78 = some 1) ∧ (szK Try.prog 79 = some 1) ∧ (szK Try.prog 80 = some 1) ∧ (szK Try.prog 81 = some 1) ∧ (szK Try.prog 82 = some 11)) ∧
    ((szK Try.prog 83 = some 11) ∧ (szK Try.prog 85 = some 1) ∧ (zeroK Try.prog 1 = some .nilFunc) ∧ (zeroK Try.prog 2 = some (.int .i64 0)) ∧ (zeroK Try.prog 3 = some (.int .i64 0)) ∧ (zeroK Try.prog 4 = some (.bool false)) ∧ (zeroK Try.prog 5 = some (.int .u8 0)) ∧ (zeroK Try.prog 6 = some (.int .u8 0)) ∧ (zeroK Try.prog 7 = some (.agg #[(.int .i64 0), (.int .i64 0), (.bool false), (.int .u8 0)])) ∧ (zeroK Try.prog 8 = some (.agg #[(.int .i64 0), (.int .i64 0), (.bool false), (.int .u8 0)])) ∧ (zeroK Try.prog 9 = some (.string ⟨#[]⟩)) ∧ (zeroK Try.prog 10 = some (.string ⟨#[]⟩)) ∧ (zeroK Try.prog 11 = some (.string ⟨#[]⟩)) ∧ (zeroK Try.prog 12 = some (.int .u64 0)) ∧ (zeroK Try.prog 13 = some (.agg #[(.string ⟨#[]⟩), (.int .u64 0)])) ∧ (zeroK Try.prog 14 = some (.agg #[(.string ⟨#[]⟩), (.int .u64 0)])) ∧ (zeroK Try.prog 15 = some (.pointer none)) ∧ (zeroK Try.prog 16 = some (.pointer none)) ∧ (zeroK Try.prog 17 = some (.pointer none)) ∧ (zeroK Try.prog 18 = some (.agg #[(.pointer none)]))) ∧
    ((zeroK Try.prog 19 = some (.agg #[(.pointer none)])) ∧ (zeroK Try.prog 20 = some .nilIface) ∧ (zeroK Try.prog 21 = some (.int .i32 0)) ∧ (zeroK Try.prog 22 = some (.slice none 0 0)) ∧ (zeroK Try.prog 23 = some .nilFunc) ∧ (zeroK Try.prog 24 = some (.pointer none)) ∧ (zeroK Try.prog 25 = some .nilFunc) ∧ (zeroK Try.prog 26 = some (.map none)) ∧ (zeroK Try.prog 27 = some (.int .i64 0)) ∧ (zeroK Try.prog 28 = some .nilFunc) ∧ (zeroK Try.prog 30 = some .nilFunc) ∧ (zeroK Try.prog 31 = some .nilFunc) ∧ (zeroK Try.prog 32 = some .nilFunc) ∧ (zeroK Try.prog 33 = some .nilFunc) ∧ (zeroK Try.prog 35 = some .nilFunc) ∧ (zeroK Try.prog 36 = some .nilFunc) ∧ (zeroK Try.prog 37 = some (.slice none 0 0)) ∧ (zeroK Try.prog 38 = some (.slice none 0 0)) ∧ (zeroK Try.prog 39 = some (.agg #[(.int .i64 0), (.int .i64 0), (.int .i64 0)])) ∧ (zeroK Try.prog 40 = some (.agg #[(.int .i64 0), (.int .i64 0), (.int .i64 0)]))) ∧
    ((zeroK Try.prog 41 = some .nilFunc) ∧ (zeroK Try.prog 42 = some (.agg #[(.int .i64 0), (.int .i64 0)])) ∧ (zeroK Try.prog 43 = some (.agg #[(.int .i64 0), (.int .i64 0)])) ∧ (zeroK Try.prog 44 = some .nilFunc) ∧ (zeroK Try.prog 46 = some .nilFunc) ∧ (zeroK Try.prog 47 = some .nilFunc) ∧ (zeroK Try.prog 48 = some .nilFunc) ∧ (zeroK Try.prog 49 = some .nilFunc) ∧ (zeroK Try.prog 50 = some (.map none)) ∧ (zeroK Try.prog 51 = some (.slice none 0 0)) ∧ (zeroK Try.prog 52 = some (.slice none 0 0)) ∧ (zeroK Try.prog 53 = some (.agg #[(.slice none 0 0), (.map none)])) ∧ (zeroK Try.prog 54 = some (.agg #[(.slice none 0 0), (.map none)])) ∧ (zeroK Try.prog 55 = some (.pointer none)) ∧ (zeroK Try.prog 56 = some (.agg #[(.int .i64 0), (.int .i64 0), (.int .i64 0)])) ∧ (zeroK Try.prog 57 = some (.agg #[(.int .i64 0), (.int .i64 0), (.int .i64 0)])) ∧ (zeroK Try.prog 58 = some .nilFunc) ∧ (zeroK Try.prog 59 = some (.pointer none)) ∧ (zeroK Try.prog 60 = some .nilFunc) ∧ (zeroK Try.prog 61 = some .nilFunc)) ∧
    ((zeroK Try.prog 62 = some .nilIface) ∧ (zeroK Try.prog 63 = some .nilIface) ∧ (zeroK Try.prog 64 = some .nilFunc) ∧ (zeroK Try.prog 65 = some .nilFunc) ∧ (zeroK Try.prog 66 = some .nilFunc) ∧ (zeroK Try.prog 67 = some .nilFunc) ∧ (zeroK Try.prog 68 = some .nilFunc) ∧ (zeroK Try.prog 69 = some .nilFunc) ∧ (zeroK Try.prog 70 = some (.agg #[(.pointer none), (.pointer none), (.pointer none), (.string ⟨#[]⟩)])) ∧ (zeroK Try.prog 71 = some (.agg #[(.pointer none), (.pointer none), (.pointer none), (.string ⟨#[]⟩)])) ∧ (zeroK Try.prog 72 = some (.agg #[])) ∧ (zeroK Try.prog 73 = some (.agg #[])) ∧ (zeroK Try.prog 74 = some (.agg #[])) ∧ (zeroK Try.prog 75 = some (.int .u32 0)) ∧ (zeroK Try.prog 76 = some (.int .u8 0)) ∧ (zeroK Try.prog 77 = some (.int .u8 0)) ∧ (zeroK Try.prog 78 = some .nilFunc) ∧ (zeroK Try.prog 79 = some (.pointer none)) ∧ (zeroK Try.prog 80 = some (.int .i32 0)) ∧ (zeroK Try.prog 81 = some (.int .i32 0))) ∧
    ((zeroK Try.prog 82 = some (.agg #[(.int .u64 0), (.int .u64 0), (.int .u32 0), (.int .u8 0), (.int .u8 0), (.int .u8 0), (.int .u8 0), .nilFunc, (.pointer none), (.int .i32 0), (.int .i32 0)])) ∧ (zeroK Try.prog 83 = some (.agg #[(.int .u64 0), (.int .u64 0), (.int .u32 0), (.int .u8 0), (.int .u8 0), (.int .u8 0), (.int .u8 0), .nilFunc, (.pointer none), (.int .i32 0), (.int .i32 0)])) ∧ (zeroK Try.prog 85 = some (.pointer none)) ∧ (fldK Try.prog 7 0 = some (0, (false, 1))) ∧ (fldK Try.prog 7 1 = some (1, (false, 1))) ∧ (fldK Try.prog 7 2 = some (2, (false, 1))) ∧ (fldK Try.prog 7 3 = some (3, (false, 1))) ∧ (fldK Try.prog 8 0 = some (0, (false, 1))) ∧ (fldK Try.prog 8 1 = some (1, (false, 1))) ∧ (fldK Try.prog 8 2 = some (2, (false, 1))) ∧ (fldK Try.prog 8 3 = some (3, (false, 1))) ∧ (fldK Try.prog 13 0 = some (0, (false, 1))) ∧ (fldK Try.prog 13 1 = some (1, (false, 1))) ∧ (fldK Try.prog 14 0 = some (0, (false, 1))) ∧ (fldK Try.prog 14 1 = some (1, (false, 1))) ∧ (fldK Try.prog 18 0 = some (0, (false, 1))) ∧ (fldK Try.prog 19 0 = some (0, (false, 1))) ∧ (fldK Try.prog 39 0 = some (0, (false, 1))) ∧ (fldK Try.prog 39 1 = some (1, (false, 1))) ∧ (fldK Try.prog 39 2 = some (2, (false, 1)))) ∧
    ((fldK Try.prog 40 0 = some (0, (false, 1))) ∧ (fldK Try.prog 40 1 = some (1, (false, 1))) ∧ (fldK Try.prog 40 2 = some (2, (false, 1))) ∧ (fldK Try.prog 42 0 = some (0, (false, 1))) ∧ (fldK Try.prog 42 1 = some (1, (false, 1))) ∧ (fldK Try.prog 43 0 = some (0, (false, 1))) ∧ (fldK Try.prog 43 1 = some (1, (false, 1))) ∧ (fldK Try.prog 53 0 = some (0, (false, 1))) ∧ (fldK Try.prog 53 1 = some (1, (false, 1))) ∧ (fldK Try.prog 54 0 = some (0, (false, 1))) ∧ (fldK Try.prog 54 1 = some (1, (false, 1))) ∧ (fldK Try.prog 56 0 = some (0, (false, 1))) ∧ (fldK Try.prog 56 1 = some (1, (false, 1))) ∧ (fldK Try.prog 56 2 = some (2, (false, 1))) ∧ (fldK Try.prog 57 0 = some (0, (false, 1))) ∧ (fldK Try.prog 57 1 = some (1, (false, 1))) ∧ (fldK Try.prog 57 2 = some (2, (false, 1))) ∧ (fldK Try.prog 70 0 = some (0, (false, 1))) ∧ (fldK Try.prog 70 1 = some (1, (false, 1))) ∧ (fldK Try.prog 70 2 = some (2, (false, 1)))) ∧
    ((fldK Try.prog 70 3 = some (3, (false, 1))) ∧ (fldK Try.prog 71 0 = some (0, (false, 1))) ∧ (fldK Try.prog 71 1 = some (1, (false, 1))) ∧ (fldK Try.prog 71 2 = some (2, (false, 1))) ∧ (fldK Try.prog 71 3 = some (3, (false, 1))) ∧ (fldK Try.prog 73 0 = some (0, (true, 0))) ∧ (fldK Try.prog 74 0 = some (0, (true, 0))) ∧ (fldK Try.prog 82 0 = some (0, (false, 1))) ∧ (fldK Try.prog 82 1 = some (1, (false, 1))) ∧ (fldK Try.prog 82 2 = some (2, (false, 1))) ∧ (fldK Try.prog 82 3 = some (3, (false, 1))) ∧ (fldK Try.prog 82 4 = some (4, (false, 1))) ∧ (fldK Try.prog 82 5 = some (5, (false, 1))) ∧ (fldK Try.prog 82 6 = some (6, (false, 1))) ∧ (fldK Try.prog 82 7 = some (7, (false, 1))) ∧ (fldK Try.prog 82 8 = some (8, (false, 1))) ∧ (fldK Try.prog 82 9 = some (9, (false, 1))) ∧ (fldK Try.prog 82 10 = some (10, (false, 1))) ∧ (fldK Try.prog 83 0 = some (0, (false, 1))) ∧ (fldK Try.prog 83 1 = some (1, (false, 1)))) ∧
    ((fldK Try.prog 83 2 = some (2, (false, 1))) ∧ (fldK Try.prog 83 3 = some (3, (false, 1))) ∧ (fldK Try.prog 83 4 = some (4, (false, 1))) ∧ (fldK Try.prog 83 5 = some (5, (false, 1))) ∧ (fldK Try.prog 83 6 = some (6, (false, 1))) ∧ (fldK Try.prog 83 7 = some (7, (false, 1))) ∧ (fldK Try.prog 83 8 = some (8, (false, 1))) ∧ (fldK Try.prog 83 9 = some (9, (false, 1))) ∧ (fldK Try.prog 83 10 = some (10, (false, 1))) ∧ (elK Try.prog 22 = some (none, 3, (false, 1))) ∧ (elK Try.prog 37 = some (none, 40, (true, 3))) ∧ (elK Try.prog 38 = some (none, 43, (true, 2))) ∧ (elK Try.prog 51 = some (none, 55, (false, 1))) ∧ (elK Try.prog 52 = some (none, 55, (false, 1))) ∧ (elK Try.prog 72 = some (some 0, 16, (false, 1))) ∧ (mapK Try.prog 26 = some ((.int .i64), 3)) ∧ (mapK Try.prog 50 = some ((.int .i64), 55)) ∧ (placesK Try.prog 7 = some [(0, 1), (1, 1), (2, 1), (3, 1)]) ∧ (placesK Try.prog 8 = some [(0, 1), (1, 1), (2, 1), (3, 1)]) ∧ (placesK Try.prog 13 = some [(0, 1), (1, 1)])) ∧
    ((placesK Try.prog 14 = some [(0, 1), (1, 1)]) ∧ (placesK Try.prog 18 = some [(0, 1)]) ∧ (placesK Try.prog 19 = some [(0, 1)]) ∧ (placesK Try.prog 39 = some [(0, 1), (1, 1), (2, 1)]) ∧ (placesK Try.prog 40 = some [(0, 1), (1, 1), (2, 1)]) ∧ (placesK Try.prog 42 = some [(0, 1), (1, 1)]) ∧ (placesK Try.prog 43 = some [(0, 1), (1, 1)]) ∧ (placesK Try.prog 53 = some [(0, 1), (1, 1)]) ∧ (placesK Try.prog 54 = some [(0, 1), (1, 1)]) ∧ (placesK Try.prog 56 = some [(0, 1), (1, 1), (2, 1)]) ∧ (placesK Try.prog 57 = some [(0, 1), (1, 1), (2, 1)]) ∧ (placesK Try.prog 70 = some [(0, 1), (1, 1), (2, 1), (3, 1)]) ∧ (placesK Try.prog 71 = some [(0, 1), (1, 1), (2, 1), (3, 1)]) ∧ (placesK Try.prog 73 = some [(0, 0)]) ∧ (placesK Try.prog 74 = some [(0, 0)]) ∧ (placesK Try.prog 82 = some [(0, 1), (1, 1), (2, 1), (3, 1), (4, 1), (5, 1), (6, 1), (7, 1), (8, 1), (9, 1), (10, 1)]) ∧ (placesK Try.prog 83 = some [(0, 1), (1, 1), (2, 1), (3, 1), (4, 1), (5, 1), (6, 1), (7, 1), (8, 1), (9, 1), (10, 1)]) ∧ (aggK Try.prog 39 = some [(.i .i64), (.i .i64), (.i .i64)]) ∧ (aggK Try.prog 40 = some [(.i .i64), (.i .i64), (.i .i64)]) ∧ (aggK Try.prog 42 = some [(.i .i64), (.i .i64)])) ∧
    ((aggK Try.prog 43 = some [(.i .i64), (.i .i64)]) ∧ (aggK Try.prog 56 = some [(.i .i64), (.i .i64), (.i .i64)]) ∧ (aggK Try.prog 57 = some [(.i .i64), (.i .i64), (.i .i64)])) :=
  ⟨⟨tyK_1, tyK_2, tyK_3, tyK_4, tyK_5, tyK_6, tyK_7, tyK_8, tyK_9, tyK_10, tyK_11, tyK_12, tyK_13, tyK_14, tyK_15, tyK_16, tyK_17, tyK_18, tyK_19, tyK_20⟩, ⟨tyK_21, tyK_22, tyK_23, tyK_24, tyK_25, tyK_26, tyK_27, tyK_28, tyK_30, tyK_31, tyK_32, tyK_33, tyK_35, tyK_36, tyK_37, tyK_38, tyK_39, tyK_40, tyK_41, tyK_42⟩, ⟨tyK_43, tyK_44, tyK_46, tyK_47, tyK_48, tyK_49, tyK_50, tyK_51, tyK_52, tyK_53, tyK_54, tyK_55, tyK_56, tyK_57, tyK_58, tyK_59, tyK_60, tyK_61, tyK_62, tyK_63⟩, ⟨tyK_64, tyK_65, tyK_66, tyK_67, tyK_68, tyK_69, tyK_70, tyK_71, tyK_72, tyK_73, tyK_74, tyK_75, tyK_76, tyK_77, tyK_78, tyK_79, tyK_80, tyK_81, tyK_82, tyK_83⟩, ⟨tyK_85, szK_1, szK_2, szK_3, szK_4, szK_5, szK_6, szK_7, szK_8, szK_9, szK_10, szK_11, szK_12, szK_13, szK_14, szK_15, szK_16, szK_17, szK_18, szK_19⟩, ⟨szK_20, szK_21, szK_22, szK_23, szK_24, szK_25, szK_26, szK_27, szK_28, szK_30, szK_31, szK_32, szK_33, szK_35, szK_36, szK_37, szK_38, szK_39, szK_40, szK_41⟩, ⟨szK_42, szK_43, szK_44, szK_46, szK_47, szK_48, szK_49, szK_50, szK_51, szK_52, szK_53, szK_54, szK_55, szK_56, szK_57, szK_58, szK_59, szK_60, szK_61, szK_62⟩, ⟨szK_63, szK_64, szK_65, szK_66, szK_67, szK_68, szK_69, szK_70, szK_71, szK_72, szK_73, szK_74, szK_75, szK_76, szK_77, szK_78, szK_79, szK_80, szK_81, szK_82⟩, ⟨szK_83, szK_85, zeroK_1, zeroK_2, zeroK_3, zeroK_4, zeroK_5, zeroK_6, zeroK_7, zeroK_8, zeroK_9, zeroK_10, zeroK_11, zeroK_12, zeroK_13, zeroK_14, zeroK_15, zeroK_16, zeroK_17, zeroK_18⟩, ⟨zeroK_19, zeroK_20, zeroK_21, zeroK_22, zeroK_23, zeroK_24, zeroK_25, zeroK_26, zeroK_27, zeroK_28, zeroK_30, zeroK_31, zeroK_32, zeroK_33, zeroK_35, zeroK_36, zeroK_37, zeroK_38, zeroK_39, zeroK_40⟩, ⟨zeroK_41, zeroK_42, zeroK_43, zeroK_44, zeroK_46, zeroK_47, zeroK_48, zeroK_49, zeroK_50, zeroK_51, zeroK_52, zeroK_53, zeroK_54, zeroK_55, zeroK_56, zeroK_57, zeroK_58, zeroK_59, zeroK_60, zeroK_61⟩, ⟨zeroK_62, zeroK_63, zeroK_64, zeroK_65, zeroK_66, zeroK_67, zeroK_68, zeroK_69, zeroK_70, zeroK_71, zeroK_72, zeroK_73, zeroK_74, zeroK_75, zeroK_76, zeroK_77, zeroK_78, zeroK_79, zeroK_80, zeroK_81⟩, ⟨zeroK_82, zeroK_83, zeroK_85, fldK_7_0, fldK_7_1, fldK_7_2, fldK_7_3, fldK_8_0, fldK_8_1, fldK_8_2, fldK_8_3, fldK_13_0, fldK_13_1, fldK_14_0, fldK_14_1, fldK_18_0, fldK_19_0, fldK_39_0, fldK_39_1, fldK_39_2⟩, ⟨fldK_40_0, fldK_40_1, fldK_40_2, fldK_42_0, fldK_42_1, fldK_43_0, fldK_43_1, fldK_53_0, fldK_53_1, fldK_54_0, fldK_54_1, fldK_56_0, fldK_56_1, fldK_56_2, fldK_57_0, fldK_57_1, fldK_57_2, fldK_70_0, fldK_70_1, fldK_70_2⟩, ⟨fldK_70_3, fldK_71_0, fldK_71_1, fldK_71_2, fldK_71_3, fldK_73_0, fldK_74_0, fldK_82_0, fldK_82_1, fldK_82_2, fldK_82_3, fldK_82_4, fldK_82_5, fldK_82_6, fldK_82_7, fldK_82_8, fldK_82_9, fldK_82_10, fldK_83_0, fldK_83_1⟩, ⟨fldK_83_2, fldK_83_3, fldK_83_4, fldK_83_5, fldK_83_6, fldK_83_7, fldK_83_8, fldK_83_9, fldK_83_10, elK_22, elK_37, elK_38, elK_51, elK_52, elK_72, mapK_26, mapK_50, placesK_7, placesK_8, placesK_13⟩, ⟨placesK_14, placesK_18, placesK_19, placesK_39, placesK_40, placesK_42, placesK_43, placesK_53, placesK_54, placesK_56, placesK_57, placesK_70, placesK_71, placesK_73, placesK_74, placesK_82, placesK_83, aggK_39, aggK_40, aggK_42⟩, ⟨aggK_43, aggK_56, aggK_57⟩⟩
/-- The types' descriptions. -/
theorem UF :
    ((type_of% @Try.underlying2) ∧ (type_of% @Try.underlying3) ∧ (type_of% @Try.underlying4) ∧ (type_of% @Try.underlying5) ∧ (type_of% @Try.underlying6) ∧ (type_of% @Try.underlying9) ∧ (type_of% @Try.underlying10) ∧ (type_of% @Try.underlying11) ∧ (type_of% @Try.underlying12) ∧ (type_of% @Try.underlying15) ∧ (type_of% @Try.underlying16) ∧ (type_of% @Try.underlying17) ∧ (type_of% @Try.underlying20) ∧ (type_of% @Try.underlying21) ∧ (type_of% @Try.underlying22) ∧ (type_of% @Try.underlying24) ∧ (type_of% @Try.underlying26) ∧ (type_of% @Try.underlying27) ∧ (type_of% @Try.underlying37) ∧ (type_of% @Try.underlying38)) ∧
    ((type_of% @Try.underlying50) ∧ (type_of% @Try.underlying51) ∧ (type_of% @Try.underlying52) ∧ (type_of% @Try.underlying55) ∧ (type_of% @Try.underlying59) ∧ (type_of% @Try.underlying62) ∧ (type_of% @Try.underlying63) ∧ (type_of% @Try.underlying72) ∧ (type_of% @Try.underlying75) ∧ (type_of% @Try.underlying76) ∧ (type_of% @Try.underlying77) ∧ (type_of% @Try.underlying79) ∧ (type_of% @Try.underlying80) ∧ (type_of% @Try.underlying81) ∧ (type_of% @Try.underlying85)) :=
  ⟨⟨Try.underlying2, Try.underlying3, Try.underlying4, Try.underlying5, Try.underlying6, Try.underlying9, Try.underlying10, Try.underlying11, Try.underlying12, Try.underlying15, Try.underlying16, Try.underlying17, Try.underlying20, Try.underlying21, Try.underlying22, Try.underlying24, Try.underlying26, Try.underlying27, Try.underlying37, Try.underlying38⟩, ⟨Try.underlying50, Try.underlying51, Try.underlying52, Try.underlying55, Try.underlying59, Try.underlying62, Try.underlying63, Try.underlying72, Try.underlying75, Try.underlying76, Try.underlying77, Try.underlying79, Try.underlying80, Try.underlying81, Try.underlying85⟩⟩
end Go.Proofs.Ytiiglipmekeikaa
