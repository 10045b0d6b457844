/-
  Facts of the types. Printed by program.
  What the machine of values takes for known of slices.Clone is so. Printed by program.
-/
import Derived.Test.YtjmipgfaghjgmaaProg
import Derived.Test.YtjmipgfaghjgmaaMd
import Derived.KernelRfl
import Derived.WalkKit
import Derived.ProofKit
import Derived.OwnWalk
section
namespace Go.Proofs.Ytjmipgfaghjgmaa
open Go Go.Sim
set_option maxRecDepth 100000
set_option linter.unusedVariables false
set_option linter.unusedSimpArgs false
@[simp] theorem agg_0 : isAggV Try.prog 0 = some false := by kernel_rfl
@[simp] theorem size_0 : sizeV Try.prog 0 = some 1 := by kernel_rfl
@[simp] theorem bytes_0 : bytesV Try.prog 0 = some 0 := by kernel_rfl
attribute [simp] Try.underlying0
@[simp] theorem agg_1 : isAggV Try.prog 1 = some false := by kernel_rfl
@[simp] theorem size_1 : sizeV Try.prog 1 = some 1 := by kernel_rfl
@[simp] theorem bytes_1 : bytesV Try.prog 1 = some 8 := by kernel_rfl
attribute [simp] Try.underlying1
@[simp] theorem agg_2 : isAggV Try.prog 2 = some false := by kernel_rfl
@[simp] theorem size_2 : sizeV Try.prog 2 = some 1 := by kernel_rfl
@[simp] theorem bytes_2 : bytesV Try.prog 2 = some 8 := by kernel_rfl
@[simp] theorem zero_2 : zeroV Try.prog 2 = some (.int .i64 0) := by kernel_rfl
attribute [simp] Try.underlying2
@[simp] theorem agg_3 : isAggV Try.prog 3 = some false := by kernel_rfl
@[simp] theorem size_3 : sizeV Try.prog 3 = some 1 := by kernel_rfl
@[simp] theorem bytes_3 : bytesV Try.prog 3 = some 8 := by kernel_rfl
@[simp] theorem zero_3 : zeroV Try.prog 3 = some (.int .i64 0) := by kernel_rfl
attribute [simp] Try.underlying3
@[simp] theorem agg_4 : isAggV Try.prog 4 = some false := by kernel_rfl
@[simp] theorem size_4 : sizeV Try.prog 4 = some 1 := by kernel_rfl
@[simp] theorem bytes_4 : bytesV Try.prog 4 = some 1 := by kernel_rfl
@[simp] theorem zero_4 : zeroV Try.prog 4 = some (.bool false) := by kernel_rfl
attribute [simp] Try.underlying4
@[simp] theorem agg_5 : isAggV Try.prog 5 = some false := by kernel_rfl
@[simp] theorem size_5 : sizeV Try.prog 5 = some 1 := by kernel_rfl
@[simp] theorem bytes_5 : bytesV Try.prog 5 = some 1 := by kernel_rfl
@[simp] theorem zero_5 : zeroV Try.prog 5 = some (.int .u8 0) := by kernel_rfl
attribute [simp] Try.underlying5
@[simp] theorem agg_6 : isAggV Try.prog 6 = some false := by kernel_rfl
@[simp] theorem size_6 : sizeV Try.prog 6 = some 1 := by kernel_rfl
@[simp] theorem bytes_6 : bytesV Try.prog 6 = some 1 := by kernel_rfl
@[simp] theorem zero_6 : zeroV Try.prog 6 = some (.int .u8 0) := by kernel_rfl
attribute [simp] Try.underlying6
@[simp] theorem agg_7 : isAggV Try.prog 7 = some true := by kernel_rfl
@[simp] theorem size_7 : sizeV Try.prog 7 = some 4 := by kernel_rfl
@[simp] theorem bytes_7 : bytesV Try.prog 7 = some 24 := by kernel_rfl
@[simp] theorem zero_7 : zeroV Try.prog 7 = some (.agg [.int .i64 0, .int .i64 0, .bool false, .int .u8 0]) := by kernel_rfl
attribute [simp] Try.underlying7
@[simp] theorem agg_8 : isAggV Try.prog 8 = some true := by kernel_rfl
@[simp] theorem size_8 : sizeV Try.prog 8 = some 4 := by kernel_rfl
@[simp] theorem bytes_8 : bytesV Try.prog 8 = some 24 := by kernel_rfl
@[simp] theorem zero_8 : zeroV Try.prog 8 = some (.agg [.int .i64 0, .int .i64 0, .bool false, .int .u8 0]) := by kernel_rfl
attribute [simp] Try.underlying8
@[simp] theorem agg_9 : isAggV Try.prog 9 = some false := by kernel_rfl
@[simp] theorem size_9 : sizeV Try.prog 9 = some 1 := by kernel_rfl
@[simp] theorem bytes_9 : bytesV Try.prog 9 = some 16 := by kernel_rfl
@[simp] theorem zero_9 : zeroV Try.prog 9 = some (.str []) := by kernel_rfl
attribute [simp] Try.underlying9
@[simp] theorem agg_10 : isAggV Try.prog 10 = some false := by kernel_rfl
@[simp] theorem size_10 : sizeV Try.prog 10 = some 1 := by kernel_rfl
@[simp] theorem bytes_10 : bytesV Try.prog 10 = some 16 := by kernel_rfl
@[simp] theorem zero_10 : zeroV Try.prog 10 = some (.str []) := by kernel_rfl
attribute [simp] Try.underlying10
@[simp] theorem agg_11 : isAggV Try.prog 11 = some false := by kernel_rfl
@[simp] theorem size_11 : sizeV Try.prog 11 = some 1 := by kernel_rfl
@[simp] theorem bytes_11 : bytesV Try.prog 11 = some 16 := by kernel_rfl
@[simp] theorem zero_11 : zeroV Try.prog 11 = some (.str []) := by kernel_rfl
attribute [simp] Try.underlying11
@[simp] theorem agg_12 : isAggV Try.prog 12 = some false := by kernel_rfl
@[simp] theorem size_12 : sizeV Try.prog 12 = some 1 := by kernel_rfl
@[simp] theorem bytes_12 : bytesV Try.prog 12 = some 8 := by kernel_rfl
@[simp] theorem zero_12 : zeroV Try.prog 12 = some (.int .u64 0) := by kernel_rfl
attribute [simp] Try.underlying12
@[simp] theorem agg_13 : isAggV Try.prog 13 = some true := by kernel_rfl
@[simp] theorem size_13 : sizeV Try.prog 13 = some 2 := by kernel_rfl
@[simp] theorem bytes_13 : bytesV Try.prog 13 = some 24 := by kernel_rfl
@[simp] theorem zero_13 : zeroV Try.prog 13 = some (.agg [.str [], .int .u64 0]) := by kernel_rfl
attribute [simp] Try.underlying13
@[simp] theorem agg_14 : isAggV Try.prog 14 = some true := by kernel_rfl
@[simp] theorem size_14 : sizeV Try.prog 14 = some 2 := by kernel_rfl
@[simp] theorem bytes_14 : bytesV Try.prog 14 = some 24 := by kernel_rfl
@[simp] theorem zero_14 : zeroV Try.prog 14 = some (.agg [.str [], .int .u64 0]) := by kernel_rfl
attribute [simp] Try.underlying14
@[simp] theorem agg_15 : isAggV Try.prog 15 = some false := by kernel_rfl
@[simp] theorem size_15 : sizeV Try.prog 15 = some 1 := by kernel_rfl
@[simp] theorem bytes_15 : bytesV Try.prog 15 = some 8 := by kernel_rfl
@[simp] theorem zero_15 : zeroV Try.prog 15 = some (.nilptr) := by kernel_rfl
attribute [simp] Try.underlying15
@[simp] theorem agg_16 : isAggV Try.prog 16 = some false := by kernel_rfl
@[simp] theorem size_16 : sizeV Try.prog 16 = some 1 := by kernel_rfl
@[simp] theorem bytes_16 : bytesV Try.prog 16 = some 8 := by kernel_rfl
@[simp] theorem zero_16 : zeroV Try.prog 16 = some (.nilptr) := by kernel_rfl
attribute [simp] Try.underlying16
@[simp] theorem agg_17 : isAggV Try.prog 17 = some false := by kernel_rfl
@[simp] theorem size_17 : sizeV Try.prog 17 = some 1 := by kernel_rfl
@[simp] theorem bytes_17 : bytesV Try.prog 17 = some 8 := by kernel_rfl
@[simp] theorem zero_17 : zeroV Try.prog 17 = some (.nilptr) := by kernel_rfl
attribute [simp] Try.underlying17
@[simp] theorem agg_18 : isAggV Try.prog 18 = some true := by kernel_rfl
@[simp] theorem size_18 : sizeV Try.prog 18 = some 1 := by kernel_rfl
@[simp] theorem bytes_18 : bytesV Try.prog 18 = some 8 := by kernel_rfl
@[simp] theorem zero_18 : zeroV Try.prog 18 = some (.agg [.nilptr]) := by kernel_rfl
attribute [simp] Try.underlying18
@[simp] theorem agg_19 : isAggV Try.prog 19 = some true := by kernel_rfl
@[simp] theorem size_19 : sizeV Try.prog 19 = some 1 := by kernel_rfl
@[simp] theorem bytes_19 : bytesV Try.prog 19 = some 8 := by kernel_rfl
@[simp] theorem zero_19 : zeroV Try.prog 19 = some (.agg [.nilptr]) := by kernel_rfl
attribute [simp] Try.underlying19
@[simp] theorem agg_20 : isAggV Try.prog 20 = some false := by kernel_rfl
@[simp] theorem size_20 : sizeV Try.prog 20 = some 1 := by kernel_rfl
@[simp] theorem bytes_20 : bytesV Try.prog 20 = some 16 := by kernel_rfl
attribute [simp] Try.underlying20
@[simp] theorem agg_21 : isAggV Try.prog 21 = some false := by kernel_rfl
@[simp] theorem size_21 : sizeV Try.prog 21 = some 1 := by kernel_rfl
@[simp] theorem bytes_21 : bytesV Try.prog 21 = some 4 := by kernel_rfl
@[simp] theorem zero_21 : zeroV Try.prog 21 = some (.int .i32 0) := by kernel_rfl
attribute [simp] Try.underlying21
@[simp] theorem agg_22 : isAggV Try.prog 22 = some false := by kernel_rfl
@[simp] theorem size_22 : sizeV Try.prog 22 = some 1 := by kernel_rfl
@[simp] theorem bytes_22 : bytesV Try.prog 22 = some 24 := by kernel_rfl
@[simp] theorem zero_22 : zeroV Try.prog 22 = some (.nilslice) := by kernel_rfl
attribute [simp] Try.underlying22
@[simp] theorem agg_23 : isAggV Try.prog 23 = some false := by kernel_rfl
@[simp] theorem size_23 : sizeV Try.prog 23 = some 1 := by kernel_rfl
@[simp] theorem bytes_23 : bytesV Try.prog 23 = some 4 := by kernel_rfl
@[simp] theorem zero_23 : zeroV Try.prog 23 = some (.int .u32 0) := by kernel_rfl
attribute [simp] Try.underlying23
@[simp] theorem agg_24 : isAggV Try.prog 24 = some false := by kernel_rfl
@[simp] theorem size_24 : sizeV Try.prog 24 = some 1 := by kernel_rfl
@[simp] theorem bytes_24 : bytesV Try.prog 24 = some 24 := by kernel_rfl
@[simp] theorem zero_24 : zeroV Try.prog 24 = some (.nilslice) := by kernel_rfl
attribute [simp] Try.underlying24
@[simp] theorem agg_25 : isAggV Try.prog 25 = some false := by kernel_rfl
@[simp] theorem size_25 : sizeV Try.prog 25 = some 1 := by kernel_rfl
@[simp] theorem bytes_25 : bytesV Try.prog 25 = some 24 := by kernel_rfl
@[simp] theorem zero_25 : zeroV Try.prog 25 = some (.nilslice) := by kernel_rfl
attribute [simp] Try.underlying25
@[simp] theorem agg_26 : isAggV Try.prog 26 = some false := by kernel_rfl
@[simp] theorem size_26 : sizeV Try.prog 26 = some 1 := by kernel_rfl
@[simp] theorem bytes_26 : bytesV Try.prog 26 = some 8 := by kernel_rfl
attribute [simp] Try.underlying26
@[simp] theorem agg_27 : isAggV Try.prog 27 = some false := by kernel_rfl
@[simp] theorem size_27 : sizeV Try.prog 27 = some 1 := by kernel_rfl
@[simp] theorem bytes_27 : bytesV Try.prog 27 = some 1 := by kernel_rfl
@[simp] theorem zero_27 : zeroV Try.prog 27 = some (.int .u8 0) := by kernel_rfl
attribute [simp] Try.underlying27
@[simp] theorem agg_28 : isAggV Try.prog 28 = some false := by kernel_rfl
@[simp] theorem size_28 : sizeV Try.prog 28 = some 1 := by kernel_rfl
@[simp] theorem bytes_28 : bytesV Try.prog 28 = some 1 := by kernel_rfl
@[simp] theorem zero_28 : zeroV Try.prog 28 = some (.int .u8 0) := by kernel_rfl
attribute [simp] Try.underlying28
@[simp] theorem agg_29 : isAggV Try.prog 29 = some true := by kernel_rfl
@[simp] theorem size_29 : sizeV Try.prog 29 = some 6 := by kernel_rfl
@[simp] theorem bytes_29 : bytesV Try.prog 29 = some 20 := by kernel_rfl
@[simp] theorem zero_29 : zeroV Try.prog 29 = some (.agg [.int .u32 0, .int .u32 0, .int .u8 0, .int .u8 0, .int .u32 0, .int .u32 0]) := by kernel_rfl
attribute [simp] Try.underlying29
@[simp] theorem agg_30 : isAggV Try.prog 30 = some true := by kernel_rfl
@[simp] theorem size_30 : sizeV Try.prog 30 = some 6 := by kernel_rfl
@[simp] theorem bytes_30 : bytesV Try.prog 30 = some 20 := by kernel_rfl
@[simp] theorem zero_30 : zeroV Try.prog 30 = some (.agg [.int .u32 0, .int .u32 0, .int .u8 0, .int .u8 0, .int .u32 0, .int .u32 0]) := by kernel_rfl
attribute [simp] Try.underlying30
@[simp] theorem agg_31 : isAggV Try.prog 31 = some false := by kernel_rfl
@[simp] theorem size_31 : sizeV Try.prog 31 = some 1 := by kernel_rfl
@[simp] theorem bytes_31 : bytesV Try.prog 31 = some 8 := by kernel_rfl
@[simp] theorem zero_31 : zeroV Try.prog 31 = some (.int .i64 0) := by kernel_rfl
attribute [simp] Try.underlying31
@[simp] theorem agg_32 : isAggV Try.prog 32 = some false := by kernel_rfl
@[simp] theorem size_32 : sizeV Try.prog 32 = some 1 := by kernel_rfl
@[simp] theorem bytes_32 : bytesV Try.prog 32 = some 0 := by kernel_rfl
attribute [simp] Try.underlying32
@[simp] theorem agg_33 : isAggV Try.prog 33 = some false := by kernel_rfl
@[simp] theorem size_33 : sizeV Try.prog 33 = some 1 := by kernel_rfl
@[simp] theorem bytes_33 : bytesV Try.prog 33 = some 8 := by kernel_rfl
attribute [simp] Try.underlying33
@[simp] theorem agg_34 : isAggV Try.prog 34 = some false := by kernel_rfl
@[simp] theorem size_34 : sizeV Try.prog 34 = some 1 := by kernel_rfl
@[simp] theorem bytes_34 : bytesV Try.prog 34 = some 8 := by kernel_rfl
@[simp] theorem zero_34 : zeroV Try.prog 34 = some (.int .u64 0) := by kernel_rfl
attribute [simp] Try.underlying34
@[simp] theorem agg_35 : isAggV Try.prog 35 = some true := by kernel_rfl
@[simp] theorem size_35 : sizeV Try.prog 35 = some 2 := by kernel_rfl
@[simp] theorem bytes_35 : bytesV Try.prog 35 = some 8 := by kernel_rfl
@[simp] theorem zero_35 : zeroV Try.prog 35 = some (.agg [.int .u8 0, .int .u32 0]) := by kernel_rfl
attribute [simp] Try.underlying35
@[simp] theorem agg_36 : isAggV Try.prog 36 = some true := by kernel_rfl
@[simp] theorem size_36 : sizeV Try.prog 36 = some 2 := by kernel_rfl
@[simp] theorem bytes_36 : bytesV Try.prog 36 = some 8 := by kernel_rfl
@[simp] theorem zero_36 : zeroV Try.prog 36 = some (.agg [.int .u8 0, .int .u32 0]) := by kernel_rfl
attribute [simp] Try.underlying36
@[simp] theorem agg_37 : isAggV Try.prog 37 = some false := by kernel_rfl
@[simp] theorem size_37 : sizeV Try.prog 37 = some 1 := by kernel_rfl
@[simp] theorem bytes_37 : bytesV Try.prog 37 = some 8 := by kernel_rfl
@[simp] theorem zero_37 : zeroV Try.prog 37 = some (.nilptr) := by kernel_rfl
attribute [simp] Try.underlying37
@[simp] theorem agg_38 : isAggV Try.prog 38 = some false := by kernel_rfl
@[simp] theorem size_38 : sizeV Try.prog 38 = some 1 := by kernel_rfl
@[simp] theorem bytes_38 : bytesV Try.prog 38 = some 8 := by kernel_rfl
attribute [simp] Try.underlying38
@[simp] theorem agg_39 : isAggV Try.prog 39 = some true := by kernel_rfl
@[simp] theorem size_39 : sizeV Try.prog 39 = some 256 := by kernel_rfl
@[simp] theorem bytes_39 : bytesV Try.prog 39 = some 256 := by kernel_rfl
attribute [simp] Try.underlying39
@[simp] theorem agg_40 : isAggV Try.prog 40 = some true := by kernel_rfl
@[simp] theorem size_40 : sizeV Try.prog 40 = some 260 := by kernel_rfl
@[simp] theorem bytes_40 : bytesV Try.prog 40 = some 296 := by kernel_rfl
attribute [simp] Try.underlying40
@[simp] theorem agg_41 : isAggV Try.prog 41 = some true := by kernel_rfl
@[simp] theorem size_41 : sizeV Try.prog 41 = some 260 := by kernel_rfl
@[simp] theorem bytes_41 : bytesV Try.prog 41 = some 296 := by kernel_rfl
attribute [simp] Try.underlying41
@[simp] theorem agg_42 : isAggV Try.prog 42 = some false := by kernel_rfl
@[simp] theorem size_42 : sizeV Try.prog 42 = some 1 := by kernel_rfl
@[simp] theorem bytes_42 : bytesV Try.prog 42 = some 8 := by kernel_rfl
attribute [simp] Try.underlying42
@[simp] theorem agg_43 : isAggV Try.prog 43 = some false := by kernel_rfl
@[simp] theorem size_43 : sizeV Try.prog 43 = some 1 := by kernel_rfl
@[simp] theorem bytes_43 : bytesV Try.prog 43 = some 8 := by kernel_rfl
attribute [simp] Try.underlying43
@[simp] theorem agg_44 : isAggV Try.prog 44 = some false := by kernel_rfl
@[simp] theorem size_44 : sizeV Try.prog 44 = some 1 := by kernel_rfl
@[simp] theorem bytes_44 : bytesV Try.prog 44 = some 8 := by kernel_rfl
attribute [simp] Try.underlying44
@[simp] theorem agg_45 : isAggV Try.prog 45 = some false := by kernel_rfl
@[simp] theorem size_45 : sizeV Try.prog 45 = some 1 := by kernel_rfl
@[simp] theorem bytes_45 : bytesV Try.prog 45 = some 8 := by kernel_rfl
attribute [simp] Try.underlying45
@[simp] theorem agg_46 : isAggV Try.prog 46 = some false := by kernel_rfl
@[simp] theorem size_46 : sizeV Try.prog 46 = some 1 := by kernel_rfl
@[simp] theorem bytes_46 : bytesV Try.prog 46 = some 8 := by kernel_rfl
attribute [simp] Try.underlying46
@[simp] theorem agg_47 : isAggV Try.prog 47 = some false := by kernel_rfl
@[simp] theorem size_47 : sizeV Try.prog 47 = some 1 := by kernel_rfl
@[simp] theorem bytes_47 : bytesV Try.prog 47 = some 8 := by kernel_rfl
attribute [simp] Try.underlying47
@[simp] theorem agg_48 : isAggV Try.prog 48 = some false := by kernel_rfl
@[simp] theorem size_48 : sizeV Try.prog 48 = some 1 := by kernel_rfl
@[simp] theorem bytes_48 : bytesV Try.prog 48 = some 8 := by kernel_rfl
attribute [simp] Try.underlying48
@[simp] theorem agg_49 : isAggV Try.prog 49 = some false := by kernel_rfl
@[simp] theorem size_49 : sizeV Try.prog 49 = some 1 := by kernel_rfl
@[simp] theorem bytes_49 : bytesV Try.prog 49 = some 24 := by kernel_rfl
@[simp] theorem zero_49 : zeroV Try.prog 49 = some (.nilslice) := by kernel_rfl
attribute [simp] Try.underlying49
@[simp] theorem agg_50 : isAggV Try.prog 50 = some false := by kernel_rfl
@[simp] theorem size_50 : sizeV Try.prog 50 = some 1 := by kernel_rfl
@[simp] theorem bytes_50 : bytesV Try.prog 50 = some 0 := by kernel_rfl
attribute [simp] Try.underlying50
@[simp] theorem agg_51 : isAggV Try.prog 51 = some false := by kernel_rfl
@[simp] theorem size_51 : sizeV Try.prog 51 = some 1 := by kernel_rfl
@[simp] theorem bytes_51 : bytesV Try.prog 51 = some 8 := by kernel_rfl
attribute [simp] Try.underlying51
@[simp] theorem agg_52 : isAggV Try.prog 52 = some false := by kernel_rfl
@[simp] theorem size_52 : sizeV Try.prog 52 = some 1 := by kernel_rfl
@[simp] theorem bytes_52 : bytesV Try.prog 52 = some 8 := by kernel_rfl
attribute [simp] Try.underlying52
@[simp] theorem agg_53 : isAggV Try.prog 53 = some false := by kernel_rfl
@[simp] theorem size_53 : sizeV Try.prog 53 = some 1 := by kernel_rfl
@[simp] theorem bytes_53 : bytesV Try.prog 53 = some 8 := by kernel_rfl
attribute [simp] Try.underlying53
@[simp] theorem agg_54 : isAggV Try.prog 54 = some false := by kernel_rfl
@[simp] theorem size_54 : sizeV Try.prog 54 = some 1 := by kernel_rfl
@[simp] theorem bytes_54 : bytesV Try.prog 54 = some 8 := by kernel_rfl
attribute [simp] Try.underlying54
@[simp] theorem agg_55 : isAggV Try.prog 55 = some false := by kernel_rfl
@[simp] theorem size_55 : sizeV Try.prog 55 = some 1 := by kernel_rfl
@[simp] theorem bytes_55 : bytesV Try.prog 55 = some 8 := by kernel_rfl
attribute [simp] Try.underlying55
@[simp] theorem agg_56 : isAggV Try.prog 56 = some false := by kernel_rfl
@[simp] theorem size_56 : sizeV Try.prog 56 = some 1 := by kernel_rfl
@[simp] theorem bytes_56 : bytesV Try.prog 56 = some 8 := by kernel_rfl
attribute [simp] Try.underlying56
@[simp] theorem agg_57 : isAggV Try.prog 57 = some true := by kernel_rfl
@[simp] theorem size_57 : sizeV Try.prog 57 = some 3 := by kernel_rfl
@[simp] theorem bytes_57 : bytesV Try.prog 57 = some 32 := by kernel_rfl
@[simp] theorem zero_57 : zeroV Try.prog 57 = some (.agg [.nilslice, .int .u32 0, .int .u32 0]) := by kernel_rfl
attribute [simp] Try.underlying57
@[simp] theorem agg_58 : isAggV Try.prog 58 = some true := by kernel_rfl
@[simp] theorem size_58 : sizeV Try.prog 58 = some 3 := by kernel_rfl
@[simp] theorem bytes_58 : bytesV Try.prog 58 = some 32 := by kernel_rfl
@[simp] theorem zero_58 : zeroV Try.prog 58 = some (.agg [.nilslice, .int .u32 0, .int .u32 0]) := by kernel_rfl
attribute [simp] Try.underlying58
@[simp] theorem agg_59 : isAggV Try.prog 59 = some false := by kernel_rfl
@[simp] theorem size_59 : sizeV Try.prog 59 = some 1 := by kernel_rfl
@[simp] theorem bytes_59 : bytesV Try.prog 59 = some 1 := by kernel_rfl
@[simp] theorem zero_59 : zeroV Try.prog 59 = some (.int .u8 0) := by kernel_rfl
attribute [simp] Try.underlying59
@[simp] theorem agg_60 : isAggV Try.prog 60 = some true := by kernel_rfl
@[simp] theorem size_60 : sizeV Try.prog 60 = some 6 := by kernel_rfl
@[simp] theorem bytes_60 : bytesV Try.prog 60 = some 56 := by kernel_rfl
@[simp] theorem zero_60 : zeroV Try.prog 60 = some (.agg [.str [], .int .i64 0, .int .u32 0, .int .i64 0, .int .i64 0, .int .u8 0]) := by kernel_rfl
attribute [simp] Try.underlying60
@[simp] theorem agg_61 : isAggV Try.prog 61 = some true := by kernel_rfl
@[simp] theorem size_61 : sizeV Try.prog 61 = some 6 := by kernel_rfl
@[simp] theorem bytes_61 : bytesV Try.prog 61 = some 56 := by kernel_rfl
@[simp] theorem zero_61 : zeroV Try.prog 61 = some (.agg [.str [], .int .i64 0, .int .u32 0, .int .i64 0, .int .i64 0, .int .u8 0]) := by kernel_rfl
attribute [simp] Try.underlying61
@[simp] theorem agg_62 : isAggV Try.prog 62 = some false := by kernel_rfl
@[simp] theorem size_62 : sizeV Try.prog 62 = some 1 := by kernel_rfl
@[simp] theorem bytes_62 : bytesV Try.prog 62 = some 0 := by kernel_rfl
attribute [simp] Try.underlying62
@[simp] theorem agg_63 : isAggV Try.prog 63 = some false := by kernel_rfl
@[simp] theorem size_63 : sizeV Try.prog 63 = some 1 := by kernel_rfl
@[simp] theorem bytes_63 : bytesV Try.prog 63 = some 8 := by kernel_rfl
attribute [simp] Try.underlying63
@[simp] theorem agg_64 : isAggV Try.prog 64 = some false := by kernel_rfl
@[simp] theorem size_64 : sizeV Try.prog 64 = some 1 := by kernel_rfl
@[simp] theorem bytes_64 : bytesV Try.prog 64 = some 8 := by kernel_rfl
attribute [simp] Try.underlying64
@[simp] theorem agg_65 : isAggV Try.prog 65 = some false := by kernel_rfl
@[simp] theorem size_65 : sizeV Try.prog 65 = some 1 := by kernel_rfl
@[simp] theorem bytes_65 : bytesV Try.prog 65 = some 8 := by kernel_rfl
attribute [simp] Try.underlying65
@[simp] theorem agg_66 : isAggV Try.prog 66 = some false := by kernel_rfl
@[simp] theorem size_66 : sizeV Try.prog 66 = some 1 := by kernel_rfl
@[simp] theorem bytes_66 : bytesV Try.prog 66 = some 8 := by kernel_rfl
attribute [simp] Try.underlying66
@[simp] theorem agg_67 : isAggV Try.prog 67 = some false := by kernel_rfl
@[simp] theorem size_67 : sizeV Try.prog 67 = some 1 := by kernel_rfl
@[simp] theorem bytes_67 : bytesV Try.prog 67 = some 8 := by kernel_rfl
attribute [simp] Try.underlying67
@[simp] theorem agg_68 : isAggV Try.prog 68 = some false := by kernel_rfl
@[simp] theorem size_68 : sizeV Try.prog 68 = some 1 := by kernel_rfl
@[simp] theorem bytes_68 : bytesV Try.prog 68 = some 0 := by kernel_rfl
attribute [simp] Try.underlying68
@[simp] theorem agg_69 : isAggV Try.prog 69 = some false := by kernel_rfl
@[simp] theorem size_69 : sizeV Try.prog 69 = some 1 := by kernel_rfl
@[simp] theorem bytes_69 : bytesV Try.prog 69 = some 8 := by kernel_rfl
attribute [simp] Try.underlying69
@[simp] theorem agg_70 : isAggV Try.prog 70 = some false := by kernel_rfl
@[simp] theorem size_70 : sizeV Try.prog 70 = some 1 := by kernel_rfl
@[simp] theorem bytes_70 : bytesV Try.prog 70 = some 0 := by kernel_rfl
attribute [simp] Try.underlying70
@[simp] theorem agg_71 : isAggV Try.prog 71 = some false := by kernel_rfl
@[simp] theorem size_71 : sizeV Try.prog 71 = some 1 := by kernel_rfl
@[simp] theorem bytes_71 : bytesV Try.prog 71 = some 8 := by kernel_rfl
attribute [simp] Try.underlying71
@[simp] theorem agg_72 : isAggV Try.prog 72 = some false := by kernel_rfl
@[simp] theorem size_72 : sizeV Try.prog 72 = some 1 := by kernel_rfl
@[simp] theorem bytes_72 : bytesV Try.prog 72 = some 8 := by kernel_rfl
attribute [simp] Try.underlying72
@[simp] theorem agg_73 : isAggV Try.prog 73 = some false := by kernel_rfl
@[simp] theorem size_73 : sizeV Try.prog 73 = some 1 := by kernel_rfl
@[simp] theorem bytes_73 : bytesV Try.prog 73 = some 8 := by kernel_rfl
attribute [simp] Try.underlying73
@[simp] theorem agg_74 : isAggV Try.prog 74 = some false := by kernel_rfl
@[simp] theorem size_74 : sizeV Try.prog 74 = some 1 := by kernel_rfl
@[simp] theorem bytes_74 : bytesV Try.prog 74 = some 8 := by kernel_rfl
attribute [simp] Try.underlying74
@[simp] theorem agg_75 : isAggV Try.prog 75 = some true := by kernel_rfl
@[simp] theorem size_75 : sizeV Try.prog 75 = some 16 := by kernel_rfl
@[simp] theorem bytes_75 : bytesV Try.prog 75 = some 128 := by kernel_rfl
attribute [simp] Try.underlying75
@[simp] theorem agg_76 : isAggV Try.prog 76 = some false := by kernel_rfl
@[simp] theorem size_76 : sizeV Try.prog 76 = some 1 := by kernel_rfl
@[simp] theorem bytes_76 : bytesV Try.prog 76 = some 8 := by kernel_rfl
attribute [simp] Try.underlying76
@[simp] theorem agg_77 : isAggV Try.prog 77 = some false := by kernel_rfl
@[simp] theorem size_77 : sizeV Try.prog 77 = some 1 := by kernel_rfl
@[simp] theorem bytes_77 : bytesV Try.prog 77 = some 8 := by kernel_rfl
attribute [simp] Try.underlying77
@[simp] theorem agg_78 : isAggV Try.prog 78 = some false := by kernel_rfl
@[simp] theorem size_78 : sizeV Try.prog 78 = some 1 := by kernel_rfl
@[simp] theorem bytes_78 : bytesV Try.prog 78 = some 8 := by kernel_rfl
attribute [simp] Try.underlying78
@[simp] theorem agg_79 : isAggV Try.prog 79 = some true := by kernel_rfl
@[simp] theorem size_79 : sizeV Try.prog 79 = some 360 := by kernel_rfl
@[simp] theorem bytes_79 : bytesV Try.prog 79 = some 3360 := by kernel_rfl
attribute [simp] Try.underlying79
@[simp] theorem agg_80 : isAggV Try.prog 80 = some false := by kernel_rfl
@[simp] theorem size_80 : sizeV Try.prog 80 = some 1 := by kernel_rfl
@[simp] theorem bytes_80 : bytesV Try.prog 80 = some 8 := by kernel_rfl
attribute [simp] Try.underlying80
@[simp] theorem agg_81 : isAggV Try.prog 81 = some false := by kernel_rfl
@[simp] theorem size_81 : sizeV Try.prog 81 = some 1 := by kernel_rfl
@[simp] theorem bytes_81 : bytesV Try.prog 81 = some 8 := by kernel_rfl
attribute [simp] Try.underlying81
@[simp] theorem agg_82 : isAggV Try.prog 82 = some false := by kernel_rfl
@[simp] theorem size_82 : sizeV Try.prog 82 = some 1 := by kernel_rfl
@[simp] theorem bytes_82 : bytesV Try.prog 82 = some 1 := by kernel_rfl
@[simp] theorem zero_82 : zeroV Try.prog 82 = some (.int .u8 0) := by kernel_rfl
attribute [simp] Try.underlying82
@[simp] theorem agg_83 : isAggV Try.prog 83 = some false := by kernel_rfl
@[simp] theorem size_83 : sizeV Try.prog 83 = some 1 := by kernel_rfl
@[simp] theorem bytes_83 : bytesV Try.prog 83 = some 8 := by kernel_rfl
attribute [simp] Try.underlying83
@[simp] theorem agg_84 : isAggV Try.prog 84 = some false := by kernel_rfl
@[simp] theorem size_84 : sizeV Try.prog 84 = some 1 := by kernel_rfl
@[simp] theorem bytes_84 : bytesV Try.prog 84 = some 1 := by kernel_rfl
@[simp] theorem zero_84 : zeroV Try.prog 84 = some (.int .i8 0) := by kernel_rfl
attribute [simp] Try.underlying84
@[simp] theorem agg_85 : isAggV Try.prog 85 = some false := by kernel_rfl
@[simp] theorem size_85 : sizeV Try.prog 85 = some 1 := by kernel_rfl
@[simp] theorem bytes_85 : bytesV Try.prog 85 = some 2 := by kernel_rfl
@[simp] theorem zero_85 : zeroV Try.prog 85 = some (.int .i16 0) := by kernel_rfl
attribute [simp] Try.underlying85
@[simp] theorem agg_86 : isAggV Try.prog 86 = some false := by kernel_rfl
@[simp] theorem size_86 : sizeV Try.prog 86 = some 1 := by kernel_rfl
@[simp] theorem bytes_86 : bytesV Try.prog 86 = some 8 := by kernel_rfl
attribute [simp] Try.underlying86
@[simp] theorem agg_87 : isAggV Try.prog 87 = some false := by kernel_rfl
@[simp] theorem size_87 : sizeV Try.prog 87 = some 1 := by kernel_rfl
@[simp] theorem bytes_87 : bytesV Try.prog 87 = some 8 := by kernel_rfl
attribute [simp] Try.underlying87
@[simp] theorem agg_88 : isAggV Try.prog 88 = some false := by kernel_rfl
@[simp] theorem size_88 : sizeV Try.prog 88 = some 1 := by kernel_rfl
@[simp] theorem bytes_88 : bytesV Try.prog 88 = some 8 := by kernel_rfl
attribute [simp] Try.underlying88
@[simp] theorem agg_89 : isAggV Try.prog 89 = some false := by kernel_rfl
@[simp] theorem size_89 : sizeV Try.prog 89 = some 1 := by kernel_rfl
@[simp] theorem bytes_89 : bytesV Try.prog 89 = some 8 := by kernel_rfl
attribute [simp] Try.underlying89
@[simp] theorem agg_90 : isAggV Try.prog 90 = some false := by kernel_rfl
@[simp] theorem size_90 : sizeV Try.prog 90 = some 1 := by kernel_rfl
@[simp] theorem bytes_90 : bytesV Try.prog 90 = some 1 := by kernel_rfl
@[simp] theorem zero_90 : zeroV Try.prog 90 = some (.int .u8 0) := by kernel_rfl
attribute [simp] Try.underlying90
@[simp] theorem agg_91 : isAggV Try.prog 91 = some false := by kernel_rfl
@[simp] theorem size_91 : sizeV Try.prog 91 = some 1 := by kernel_rfl
@[simp] theorem bytes_91 : bytesV Try.prog 91 = some 8 := by kernel_rfl
attribute [simp] Try.underlying91
@[simp] theorem agg_92 : isAggV Try.prog 92 = some false := by kernel_rfl
@[simp] theorem size_92 : sizeV Try.prog 92 = some 1 := by kernel_rfl
@[simp] theorem bytes_92 : bytesV Try.prog 92 = some 8 := by kernel_rfl
attribute [simp] Try.underlying92
@[simp] theorem agg_93 : isAggV Try.prog 93 = some false := by kernel_rfl
@[simp] theorem size_93 : sizeV Try.prog 93 = some 1 := by kernel_rfl
@[simp] theorem bytes_93 : bytesV Try.prog 93 = some 8 := by kernel_rfl
attribute [simp] Try.underlying93
@[simp] theorem agg_94 : isAggV Try.prog 94 = some false := by kernel_rfl
@[simp] theorem size_94 : sizeV Try.prog 94 = some 1 := by kernel_rfl
@[simp] theorem bytes_94 : bytesV Try.prog 94 = some 8 := by kernel_rfl
attribute [simp] Try.underlying94
@[simp] theorem agg_95 : isAggV Try.prog 95 = some false := by kernel_rfl
@[simp] theorem size_95 : sizeV Try.prog 95 = some 1 := by kernel_rfl
@[simp] theorem bytes_95 : bytesV Try.prog 95 = some 4 := by kernel_rfl
@[simp] theorem zero_95 : zeroV Try.prog 95 = some (.float .f32 0) := by kernel_rfl
attribute [simp] Try.underlying95
@[simp] theorem agg_96 : isAggV Try.prog 96 = some false := by kernel_rfl
@[simp] theorem size_96 : sizeV Try.prog 96 = some 1 := by kernel_rfl
@[simp] theorem bytes_96 : bytesV Try.prog 96 = some 8 := by kernel_rfl
attribute [simp] Try.underlying96
@[simp] theorem agg_97 : isAggV Try.prog 97 = some false := by kernel_rfl
@[simp] theorem size_97 : sizeV Try.prog 97 = some 1 := by kernel_rfl
@[simp] theorem bytes_97 : bytesV Try.prog 97 = some 8 := by kernel_rfl
attribute [simp] Try.underlying97
@[simp] theorem agg_98 : isAggV Try.prog 98 = some false := by kernel_rfl
@[simp] theorem size_98 : sizeV Try.prog 98 = some 1 := by kernel_rfl
@[simp] theorem bytes_98 : bytesV Try.prog 98 = some 8 := by kernel_rfl
attribute [simp] Try.underlying98
@[simp] theorem agg_99 : isAggV Try.prog 99 = some false := by kernel_rfl
@[simp] theorem size_99 : sizeV Try.prog 99 = some 1 := by kernel_rfl
@[simp] theorem bytes_99 : bytesV Try.prog 99 = some 8 := by kernel_rfl
attribute [simp] Try.underlying99
@[simp] theorem agg_100 : isAggV Try.prog 100 = some true := by kernel_rfl
@[simp] theorem size_100 : sizeV Try.prog 100 = some 4 := by kernel_rfl
@[simp] theorem bytes_100 : bytesV Try.prog 100 = some 16 := by kernel_rfl
@[simp] theorem zero_100 : zeroV Try.prog 100 = some (.agg [.int .u32 0, .int .u32 0, .int .u8 0, .int .u32 0]) := by kernel_rfl
attribute [simp] Try.underlying100
@[simp] theorem agg_101 : isAggV Try.prog 101 = some true := by kernel_rfl
@[simp] theorem size_101 : sizeV Try.prog 101 = some 4 := by kernel_rfl
@[simp] theorem bytes_101 : bytesV Try.prog 101 = some 16 := by kernel_rfl
@[simp] theorem zero_101 : zeroV Try.prog 101 = some (.agg [.int .u32 0, .int .u32 0, .int .u8 0, .int .u32 0]) := by kernel_rfl
attribute [simp] Try.underlying101
@[simp] theorem agg_102 : isAggV Try.prog 102 = some false := by kernel_rfl
@[simp] theorem size_102 : sizeV Try.prog 102 = some 1 := by kernel_rfl
@[simp] theorem bytes_102 : bytesV Try.prog 102 = some 0 := by kernel_rfl
attribute [simp] Try.underlying102
@[simp] theorem agg_103 : isAggV Try.prog 103 = some false := by kernel_rfl
@[simp] theorem size_103 : sizeV Try.prog 103 = some 1 := by kernel_rfl
@[simp] theorem bytes_103 : bytesV Try.prog 103 = some 8 := by kernel_rfl
attribute [simp] Try.underlying103
@[simp] theorem agg_104 : isAggV Try.prog 104 = some false := by kernel_rfl
@[simp] theorem size_104 : sizeV Try.prog 104 = some 1 := by kernel_rfl
@[simp] theorem bytes_104 : bytesV Try.prog 104 = some 0 := by kernel_rfl
attribute [simp] Try.underlying104
@[simp] theorem agg_105 : isAggV Try.prog 105 = some false := by kernel_rfl
@[simp] theorem size_105 : sizeV Try.prog 105 = some 1 := by kernel_rfl
@[simp] theorem bytes_105 : bytesV Try.prog 105 = some 8 := by kernel_rfl
attribute [simp] Try.underlying105
@[simp] theorem agg_106 : isAggV Try.prog 106 = some true := by kernel_rfl
@[simp] theorem size_106 : sizeV Try.prog 106 = some 64 := by kernel_rfl
@[simp] theorem bytes_106 : bytesV Try.prog 106 = some 256 := by kernel_rfl
attribute [simp] Try.underlying106
@[simp] theorem agg_107 : isAggV Try.prog 107 = some true := by kernel_rfl
@[simp] theorem size_107 : sizeV Try.prog 107 = some 65 := by kernel_rfl
@[simp] theorem bytes_107 : bytesV Try.prog 107 = some 264 := by kernel_rfl
attribute [simp] Try.underlying107
@[simp] theorem agg_108 : isAggV Try.prog 108 = some true := by kernel_rfl
@[simp] theorem size_108 : sizeV Try.prog 108 = some 65 := by kernel_rfl
@[simp] theorem bytes_108 : bytesV Try.prog 108 = some 264 := by kernel_rfl
attribute [simp] Try.underlying108
@[simp] theorem agg_109 : isAggV Try.prog 109 = some false := by kernel_rfl
@[simp] theorem size_109 : sizeV Try.prog 109 = some 1 := by kernel_rfl
@[simp] theorem bytes_109 : bytesV Try.prog 109 = some 1 := by kernel_rfl
@[simp] theorem zero_109 : zeroV Try.prog 109 = some (.int .u8 0) := by kernel_rfl
attribute [simp] Try.underlying109
@[simp] theorem agg_110 : isAggV Try.prog 110 = some false := by kernel_rfl
@[simp] theorem size_110 : sizeV Try.prog 110 = some 1 := by kernel_rfl
@[simp] theorem bytes_110 : bytesV Try.prog 110 = some 8 := by kernel_rfl
attribute [simp] Try.underlying110
@[simp] theorem agg_111 : isAggV Try.prog 111 = some false := by kernel_rfl
@[simp] theorem size_111 : sizeV Try.prog 111 = some 1 := by kernel_rfl
@[simp] theorem bytes_111 : bytesV Try.prog 111 = some 8 := by kernel_rfl
@[simp] theorem zero_111 : zeroV Try.prog 111 = some (.nilptr) := by kernel_rfl
attribute [simp] Try.underlying111
@[simp] theorem agg_112 : isAggV Try.prog 112 = some false := by kernel_rfl
@[simp] theorem size_112 : sizeV Try.prog 112 = some 1 := by kernel_rfl
@[simp] theorem bytes_112 : bytesV Try.prog 112 = some 8 := by kernel_rfl
attribute [simp] Try.underlying112
@[simp] theorem agg_113 : isAggV Try.prog 113 = some false := by kernel_rfl
@[simp] theorem size_113 : sizeV Try.prog 113 = some 1 := by kernel_rfl
@[simp] theorem bytes_113 : bytesV Try.prog 113 = some 8 := by kernel_rfl
attribute [simp] Try.underlying113
@[simp] theorem agg_114 : isAggV Try.prog 114 = some false := by kernel_rfl
@[simp] theorem size_114 : sizeV Try.prog 114 = some 1 := by kernel_rfl
@[simp] theorem bytes_114 : bytesV Try.prog 114 = some 8 := by kernel_rfl
attribute [simp] Try.underlying114
@[simp] theorem agg_115 : isAggV Try.prog 115 = some true := by kernel_rfl
@[simp] theorem size_115 : sizeV Try.prog 115 = some 4 := by kernel_rfl
@[simp] theorem bytes_115 : bytesV Try.prog 115 = some 40 := by kernel_rfl
@[simp] theorem zero_115 : zeroV Try.prog 115 = some (.agg [.nilptr, .nilptr, .nilptr, .str []]) := by kernel_rfl
attribute [simp] Try.underlying115
@[simp] theorem agg_116 : isAggV Try.prog 116 = some true := by kernel_rfl
@[simp] theorem size_116 : sizeV Try.prog 116 = some 4 := by kernel_rfl
@[simp] theorem bytes_116 : bytesV Try.prog 116 = some 40 := by kernel_rfl
@[simp] theorem zero_116 : zeroV Try.prog 116 = some (.agg [.nilptr, .nilptr, .nilptr, .str []]) := by kernel_rfl
attribute [simp] Try.underlying116
@[simp] theorem agg_117 : isAggV Try.prog 117 = some true := by kernel_rfl
@[simp] theorem size_117 : sizeV Try.prog 117 = some 0 := by kernel_rfl
@[simp] theorem bytes_117 : bytesV Try.prog 117 = some 0 := by kernel_rfl
@[simp] theorem zero_117 : zeroV Try.prog 117 = some (.agg []) := by kernel_rfl
attribute [simp] Try.underlying117
@[simp] theorem agg_118 : isAggV Try.prog 118 = some true := by kernel_rfl
@[simp] theorem size_118 : sizeV Try.prog 118 = some 0 := by kernel_rfl
@[simp] theorem bytes_118 : bytesV Try.prog 118 = some 0 := by kernel_rfl
@[simp] theorem zero_118 : zeroV Try.prog 118 = some (.agg []) := by kernel_rfl
attribute [simp] Try.underlying118
@[simp] theorem agg_119 : isAggV Try.prog 119 = some true := by kernel_rfl
@[simp] theorem size_119 : sizeV Try.prog 119 = some 0 := by kernel_rfl
@[simp] theorem bytes_119 : bytesV Try.prog 119 = some 0 := by kernel_rfl
@[simp] theorem zero_119 : zeroV Try.prog 119 = some (.agg []) := by kernel_rfl
attribute [simp] Try.underlying119
@[simp] theorem agg_120 : isAggV Try.prog 120 = some false := by kernel_rfl
@[simp] theorem size_120 : sizeV Try.prog 120 = some 1 := by kernel_rfl
@[simp] theorem bytes_120 : bytesV Try.prog 120 = some 8 := by kernel_rfl
attribute [simp] Try.underlying120
@[simp] theorem agg_121 : isAggV Try.prog 121 = some false := by kernel_rfl
@[simp] theorem size_121 : sizeV Try.prog 121 = some 1 := by kernel_rfl
@[simp] theorem bytes_121 : bytesV Try.prog 121 = some 1 := by kernel_rfl
@[simp] theorem zero_121 : zeroV Try.prog 121 = some (.int .u8 0) := by kernel_rfl
attribute [simp] Try.underlying121
@[simp] theorem agg_122 : isAggV Try.prog 122 = some false := by kernel_rfl
@[simp] theorem size_122 : sizeV Try.prog 122 = some 1 := by kernel_rfl
@[simp] theorem bytes_122 : bytesV Try.prog 122 = some 1 := by kernel_rfl
@[simp] theorem zero_122 : zeroV Try.prog 122 = some (.int .u8 0) := by kernel_rfl
attribute [simp] Try.underlying122
@[simp] theorem agg_123 : isAggV Try.prog 123 = some false := by kernel_rfl
@[simp] theorem size_123 : sizeV Try.prog 123 = some 1 := by kernel_rfl
@[simp] theorem bytes_123 : bytesV Try.prog 123 = some 8 := by kernel_rfl
attribute [simp] Try.underlying123
@[simp] theorem agg_124 : isAggV Try.prog 124 = some false := by kernel_rfl
@[simp] theorem size_124 : sizeV Try.prog 124 = some 1 := by kernel_rfl
@[simp] theorem bytes_124 : bytesV Try.prog 124 = some 8 := by kernel_rfl
@[simp] theorem zero_124 : zeroV Try.prog 124 = some (.nilptr) := by kernel_rfl
attribute [simp] Try.underlying124
@[simp] theorem agg_125 : isAggV Try.prog 125 = some false := by kernel_rfl
@[simp] theorem size_125 : sizeV Try.prog 125 = some 1 := by kernel_rfl
@[simp] theorem bytes_125 : bytesV Try.prog 125 = some 4 := by kernel_rfl
@[simp] theorem zero_125 : zeroV Try.prog 125 = some (.int .i32 0) := by kernel_rfl
attribute [simp] Try.underlying125
@[simp] theorem agg_126 : isAggV Try.prog 126 = some false := by kernel_rfl
@[simp] theorem size_126 : sizeV Try.prog 126 = some 1 := by kernel_rfl
@[simp] theorem bytes_126 : bytesV Try.prog 126 = some 4 := by kernel_rfl
@[simp] theorem zero_126 : zeroV Try.prog 126 = some (.int .i32 0) := by kernel_rfl
attribute [simp] Try.underlying126
@[simp] theorem agg_127 : isAggV Try.prog 127 = some true := by kernel_rfl
@[simp] theorem size_127 : sizeV Try.prog 127 = some 11 := by kernel_rfl
@[simp] theorem bytes_127 : bytesV Try.prog 127 = some 48 := by kernel_rfl
@[simp] theorem zero_127 : zeroV Try.prog 127 = some (.agg [.int .u64 0, .int .u64 0, .int .u32 0, .int .u8 0, .int .u8 0, .int .u8 0, .int .u8 0, .nilfunc, .nilptr, .int .i32 0, .int .i32 0]) := by kernel_rfl
attribute [simp] Try.underlying127
@[simp] theorem agg_128 : isAggV Try.prog 128 = some true := by kernel_rfl
@[simp] theorem size_128 : sizeV Try.prog 128 = some 11 := by kernel_rfl
@[simp] theorem bytes_128 : bytesV Try.prog 128 = some 48 := by kernel_rfl
@[simp] theorem zero_128 : zeroV Try.prog 128 = some (.agg [.int .u64 0, .int .u64 0, .int .u32 0, .int .u8 0, .int .u8 0, .int .u8 0, .int .u8 0, .nilfunc, .nilptr, .int .i32 0, .int .i32 0]) := by kernel_rfl
attribute [simp] Try.underlying128
@[simp] theorem agg_129 : isAggV Try.prog 129 = some false := by kernel_rfl
@[simp] theorem size_129 : sizeV Try.prog 129 = some 1 := by kernel_rfl
@[simp] theorem bytes_129 : bytesV Try.prog 129 = some 8 := by kernel_rfl
@[simp] theorem zero_129 : zeroV Try.prog 129 = some (.nilptr) := by kernel_rfl
attribute [simp] Try.underlying129
end Go.Proofs.Ytjmipgfaghjgmaa
end
section
namespace Go.Proofs.Ytjmipgfaghjgmaa
open Go Go.Sim
set_option maxRecDepth 100000
set_option linter.unusedVariables false
set_option linter.unusedSimpArgs false

theorem wpList_append_any {P : Program} (w : World) {ops : Array Oper} {rest : List Oper} {o : Oper} {a : Act} {Q : Exit → Act → World → Prop} (hgd : o.guard = none) (s x : Operand) (t tn : TypeId)
    (ho : o.op = .call { callee := .builtin .append, args := #[s, x], argTypes := #[t, tn] }) (vs vx : Value) (hs : a.eval s = vs) (hx : a.eval x = vx)
    (v' : Value) (w' : World) (hr : (Builtin.append_ #[t, tn] o.type #[vs, vx]).run P w = .ok v' w') (h : wpList P ops Q rest (a.put o.dst v') w') : wpList P ops Q (o :: rest) a w := by
  refine wpList_plain hgd fun K hK' => ?_
  unfold Oper.wp
  simp [execOp, ho, resolve, invoke, builtin, hs, hx, hr, Result.andThen]
  exact hK' _ _ h
theorem clone_nil_28 (w : World) : Calls Try.prog 28 #[.slice none 0 0] w fun e w' => e = .returned (.slice none 0 0) ∧ w' = w := by
  have he := fun w => run_eql_nil2 (P := Try.prog) (t := 22) Try.underlying22 w
  go_enter Try.func28, Try.ntmps28
  go_wp2
  go_ret
  exact ⟨rfl, rfl⟩
theorem clone_some_28 (a : Addr) (n c : Nat) (w w2 : World) (x : Value) (h2 : (Builtin.append_ #[22, 22] 22 #[.slice (some ⟨w.heap.size, 0, none⟩) 0 0, .slice (some a) n c]).run Try.prog (w.alloc (.cells #[] 36 (0, 0))) = .ok x w2) :
    Calls Try.prog 28 #[.slice (some a) n c] w fun e w' => e = .returned x ∧ w' = w2 := by
  have he := fun w => run_eql_nil (P := Try.prog) (t := 22) Try.underlying22 a n c w
  go_enter Try.func28, Try.ntmps28
  go_wp2_with (at_builtin; refine wpList_append_any _ rfl _ _ 22 22 rfl _ _ rfl rfl x w2 h2 ?_)
  go_ret
  exact ⟨rfl, rfl⟩
theorem known_28 : ∀ args h r h', cloneWL 17592186044416 2 args h = some (r, h') → CallS Try.prog (fun _ => true) 28 args h r h' := by
  intro args h r h' hc
  obtain ⟨s, rfl⟩ : ∃ s, args = [s] := by
    unfold cloneWL at hc
    split at hc
    · exact ⟨_, rfl⟩
    · exact ⟨_, rfl⟩
    · cases hc
  intro ok B w args' R hh ha hR
  simp only [VRelL] at ha
  obtain ⟨v, l', rfl, hv, rfl⟩ := ha
  refine callsIn_wide.2 ?_
  have hA := clone_after (P := Try.prog) (t := 22) (e := 36) (ty := 22) (by_ := 8) hh Try.underlying22 size_36 bytes_36 zero_36 (by omega) (by omega) (by omega) rfl hc hv
  rcases hA with ⟨rfl, hA⟩ | ⟨a, n, c, u, w1, x, w2, ok', B', rfl, h1, h2, hA⟩
  · exact (clone_nil_28 w).mono fun e w' ⟨he, hw⟩ => by subst he hw; exact hR _ _ _ _ hA
  · rw [run_build_none (P := Try.prog) Try.underlying22 size_36] at h1
    simp only [Result.ok.injEq] at h1
    obtain ⟨rfl, rfl⟩ := h1
    exact (clone_some_28 a n c w w2 x h2).mono fun e w' ⟨he, hw⟩ => by subst he hw; exact hR _ _ _ _ hA
end Go.Proofs.Ytjmipgfaghjgmaa
end
