/-
  Facts of the types. Printed by program.
  What the machine of values takes for known of slices.Clone is so. Printed by program.
-/
import Derived.Test.YtpfodignhibjgaaProg
import Derived.Test.YtpfodignhibjgaaMd
import Derived.KernelRfl
import Derived.WalkKit
import Derived.ProofKit
import Derived.OwnWalk
section
namespace Go.Proofs.Ytpfodignhibjgaa
open Go Go.Sim
set_option maxRecDepth 100000
set_option linter.unusedVariables false
set_option linter.unusedSimpArgs false
@[simp] theorem agg_0 : isAggV Try.prog 0 = some false := by kernel_rfl
@[simp] theorem size_0 : sizeV Try.prog 0 = some 1 := by kernel_rfl
@[simp] theorem bytes_0 : bytesV Try.prog 0 = some 0 := by kernel_rfl
attribute [simp] Try.underlying0
@[simp] theorem agg_1 : isAggV Try.prog 1 = some false := by kernel_rfl
@[simp] theorem size_1 : sizeV Try.prog 1 = some 1 := by kernel_rfl
@[simp] theorem bytes_1 : bytesV Try.prog 1 = some 8 := by kernel_rfl
attribute [simp] Try.underlying1
@[simp] theorem agg_2 : isAggV Try.prog 2 = some false := by kernel_rfl
@[simp] theorem size_2 : sizeV Try.prog 2 = some 1 := by kernel_rfl
@[simp] theorem bytes_2 : bytesV Try.prog 2 = some 8 := by kernel_rfl
@[simp] theorem zero_2 : zeroV Try.prog 2 = some (.int .i64 0) := by kernel_rfl
attribute [simp] Try.underlying2
@[simp] theorem agg_3 : isAggV Try.prog 3 = some false := by kernel_rfl
@[simp] theorem size_3 : sizeV Try.prog 3 = some 1 := by kernel_rfl
@[simp] theorem bytes_3 : bytesV Try.prog 3 = some 8 := by kernel_rfl
@[simp] theorem zero_3 : zeroV Try.prog 3 = some (.int .i64 0) := by kernel_rfl
attribute [simp] Try.underlying3
@[simp] theorem agg_4 : isAggV Try.prog 4 = some false := by kernel_rfl
@[simp] theorem size_4 : sizeV Try.prog 4 = some 1 := by kernel_rfl
@[simp] theorem bytes_4 : bytesV Try.prog 4 = some 1 := by kernel_rfl
@[simp] theorem zero_4 : zeroV Try.prog 4 = some (.bool false) := by kernel_rfl
attribute [simp] Try.underlying4
@[simp] theorem agg_5 : isAggV Try.prog 5 = some false := by kernel_rfl
@[simp] theorem size_5 : sizeV Try.prog 5 = some 1 := by kernel_rfl
@[simp] theorem bytes_5 : bytesV Try.prog 5 = some 1 := by kernel_rfl
@[simp] theorem zero_5 : zeroV Try.prog 5 = some (.int .u8 0) := by kernel_rfl
attribute [simp] Try.underlying5
@[simp] theorem agg_6 : isAggV Try.prog 6 = some false := by kernel_rfl
@[simp] theorem size_6 : sizeV Try.prog 6 = some 1 := by kernel_rfl
@[simp] theorem bytes_6 : bytesV Try.prog 6 = some 1 := by kernel_rfl
@[simp] theorem zero_6 : zeroV Try.prog 6 = some (.int .u8 0) := by kernel_rfl
attribute [simp] Try.underlying6
@[simp] theorem agg_7 : isAggV Try.prog 7 = some true := by kernel_rfl
@[simp] theorem size_7 : sizeV Try.prog 7 = some 4 := by kernel_rfl
@[simp] theorem bytes_7 : bytesV Try.prog 7 = some 24 := by kernel_rfl
@[simp] theorem zero_7 : zeroV Try.prog 7 = some (.agg [.int .i64 0, .int .i64 0, .bool false, .int .u8 0]) := by kernel_rfl
attribute [simp] Try.underlying7
@[simp] theorem agg_8 : isAggV Try.prog 8 = some true := by kernel_rfl
@[simp] theorem size_8 : sizeV Try.prog 8 = some 4 := by kernel_rfl
@[simp] theorem bytes_8 : bytesV Try.prog 8 = some 24 := by kernel_rfl
@[simp] theorem zero_8 : zeroV Try.prog 8 = some (.agg [.int .i64 0, .int .i64 0, .bool false, .int .u8 0]) := by kernel_rfl
attribute [simp] Try.underlying8
@[simp] theorem agg_9 : isAggV Try.prog 9 = some false := by kernel_rfl
@[simp] theorem size_9 : sizeV Try.prog 9 = some 1 := by kernel_rfl
@[simp] theorem bytes_9 : bytesV Try.prog 9 = some 16 := by kernel_rfl
@[simp] theorem zero_9 : zeroV Try.prog 9 = some (.str []) := by kernel_rfl
attribute [simp] Try.underlying9
@[simp] theorem agg_10 : isAggV Try.prog 10 = some false := by kernel_rfl
@[simp] theorem size_10 : sizeV Try.prog 10 = some 1 := by kernel_rfl
@[simp] theorem bytes_10 : bytesV Try.prog 10 = some 16 := by kernel_rfl
@[simp] theorem zero_10 : zeroV Try.prog 10 = some (.str []) := by kernel_rfl
attribute [simp] Try.underlying10
@[simp] theorem agg_11 : isAggV Try.prog 11 = some false := by kernel_rfl
@[simp] theorem size_11 : sizeV Try.prog 11 = some 1 := by kernel_rfl
@[simp] theorem bytes_11 : bytesV Try.prog 11 = some 16 := by kernel_rfl
@[simp] theorem zero_11 : zeroV Try.prog 11 = some (.str []) := by kernel_rfl
attribute [simp] Try.underlying11
@[simp] theorem agg_12 : isAggV Try.prog 12 = some false := by kernel_rfl
@[simp] theorem size_12 : sizeV Try.prog 12 = some 1 := by kernel_rfl
@[simp] theorem bytes_12 : bytesV Try.prog 12 = some 8 := by kernel_rfl
@[simp] theorem zero_12 : zeroV Try.prog 12 = some (.int .u64 0) := by kernel_rfl
attribute [simp] Try.underlying12
@[simp] theorem agg_13 : isAggV Try.prog 13 = some true := by kernel_rfl
@[simp] theorem size_13 : sizeV Try.prog 13 = some 2 := by kernel_rfl
@[simp] theorem bytes_13 : bytesV Try.prog 13 = some 24 := by kernel_rfl
@[simp] theorem zero_13 : zeroV Try.prog 13 = some (.agg [.str [], .int .u64 0]) := by kernel_rfl
attribute [simp] Try.underlying13
@[simp] theorem agg_14 : isAggV Try.prog 14 = some true := by kernel_rfl
@[simp] theorem size_14 : sizeV Try.prog 14 = some 2 := by kernel_rfl
@[simp] theorem bytes_14 : bytesV Try.prog 14 = some 24 := by kernel_rfl
@[simp] theorem zero_14 : zeroV Try.prog 14 = some (.agg [.str [], .int .u64 0]) := by kernel_rfl
attribute [simp] Try.underlying14
@[simp] theorem agg_15 : isAggV Try.prog 15 = some false := by kernel_rfl
@[simp] theorem size_15 : sizeV Try.prog 15 = some 1 := by kernel_rfl
@[simp] theorem bytes_15 : bytesV Try.prog 15 = some 8 := by kernel_rfl
@[simp] theorem zero_15 : zeroV Try.prog 15 = some (.nilptr) := by kernel_rfl
attribute [simp] Try.underlying15
@[simp] theorem agg_16 : isAggV Try.prog 16 = some false := by kernel_rfl
@[simp] theorem size_16 : sizeV Try.prog 16 = some 1 := by kernel_rfl
@[simp] theorem bytes_16 : bytesV Try.prog 16 = some 8 := by kernel_rfl
@[simp] theorem zero_16 : zeroV Try.prog 16 = some (.nilptr) := by kernel_rfl
attribute [simp] Try.underlying16
@[simp] theorem agg_17 : isAggV Try.prog 17 = some false := by kernel_rfl
@[simp] theorem size_17 : sizeV Try.prog 17 = some 1 := by kernel_rfl
@[simp] theorem bytes_17 : bytesV Try.prog 17 = some 8 := by kernel_rfl
@[simp] theorem zero_17 : zeroV Try.prog 17 = some (.nilptr) := by kernel_rfl
attribute [simp] Try.underlying17
@[simp] theorem agg_18 : isAggV Try.prog 18 = some true := by kernel_rfl
@[simp] theorem size_18 : sizeV Try.prog 18 = some 1 := by kernel_rfl
@[simp] theorem bytes_18 : bytesV Try.prog 18 = some 8 := by kernel_rfl
@[simp] theorem zero_18 : zeroV Try.prog 18 = some (.agg [.nilptr]) := by kernel_rfl
attribute [simp] Try.underlying18
@[simp] theorem agg_19 : isAggV Try.prog 19 = some true := by kernel_rfl
@[simp] theorem size_19 : sizeV Try.prog 19 = some 1 := by kernel_rfl
@[simp] theorem bytes_19 : bytesV Try.prog 19 = some 8 := by kernel_rfl
@[simp] theorem zero_19 : zeroV Try.prog 19 = some (.agg [.nilptr]) := by kernel_rfl
attribute [simp] Try.underlying19
@[simp] theorem agg_20 : isAggV Try.prog 20 = some false := by kernel_rfl
@[simp] theorem size_20 : sizeV Try.prog 20 = some 1 := by kernel_rfl
@[simp] theorem bytes_20 : bytesV Try.prog 20 = some 16 := by kernel_rfl
attribute [simp] Try.underlying20
@[simp] theorem agg_21 : isAggV Try.prog 21 = some false := by kernel_rfl
@[simp] theorem size_21 : sizeV Try.prog 21 = some 1 := by kernel_rfl
@[simp] theorem bytes_21 : bytesV Try.prog 21 = some 4 := by kernel_rfl
@[simp] theorem zero_21 : zeroV Try.prog 21 = some (.int .i32 0) := by kernel_rfl
attribute [simp] Try.underlying21
@[simp] theorem agg_22 : isAggV Try.prog 22 = some false := by kernel_rfl
@[simp] theorem size_22 : sizeV Try.prog 22 = some 1 := by kernel_rfl
@[simp] theorem bytes_22 : bytesV Try.prog 22 = some 24 := by kernel_rfl
@[simp] theorem zero_22 : zeroV Try.prog 22 = some (.nilslice) := by kernel_rfl
attribute [simp] Try.underlying22
@[simp] theorem agg_23 : isAggV Try.prog 23 = some false := by kernel_rfl
@[simp] theorem size_23 : sizeV Try.prog 23 = some 1 := by kernel_rfl
@[simp] theorem bytes_23 : bytesV Try.prog 23 = some 24 := by kernel_rfl
@[simp] theorem zero_23 : zeroV Try.prog 23 = some (.nilslice) := by kernel_rfl
attribute [simp] Try.underlying23
@[simp] theorem agg_24 : isAggV Try.prog 24 = some true := by kernel_rfl
@[simp] theorem size_24 : sizeV Try.prog 24 = some 2 := by kernel_rfl
@[simp] theorem bytes_24 : bytesV Try.prog 24 = some 48 := by kernel_rfl
@[simp] theorem zero_24 : zeroV Try.prog 24 = some (.agg [.nilslice, .nilslice]) := by kernel_rfl
attribute [simp] Try.underlying24
@[simp] theorem agg_25 : isAggV Try.prog 25 = some true := by kernel_rfl
@[simp] theorem size_25 : sizeV Try.prog 25 = some 2 := by kernel_rfl
@[simp] theorem bytes_25 : bytesV Try.prog 25 = some 48 := by kernel_rfl
@[simp] theorem zero_25 : zeroV Try.prog 25 = some (.agg [.nilslice, .nilslice]) := by kernel_rfl
attribute [simp] Try.underlying25
@[simp] theorem agg_26 : isAggV Try.prog 26 = some false := by kernel_rfl
@[simp] theorem size_26 : sizeV Try.prog 26 = some 1 := by kernel_rfl
@[simp] theorem bytes_26 : bytesV Try.prog 26 = some 8 := by kernel_rfl
attribute [simp] Try.underlying26
@[simp] theorem agg_27 : isAggV Try.prog 27 = some false := by kernel_rfl
@[simp] theorem size_27 : sizeV Try.prog 27 = some 1 := by kernel_rfl
@[simp] theorem bytes_27 : bytesV Try.prog 27 = some 24 := by kernel_rfl
@[simp] theorem zero_27 : zeroV Try.prog 27 = some (.nilslice) := by kernel_rfl
attribute [simp] Try.underlying27
@[simp] theorem agg_28 : isAggV Try.prog 28 = some false := by kernel_rfl
@[simp] theorem size_28 : sizeV Try.prog 28 = some 1 := by kernel_rfl
@[simp] theorem bytes_28 : bytesV Try.prog 28 = some 8 := by kernel_rfl
@[simp] theorem zero_28 : zeroV Try.prog 28 = some (.int .i64 0) := by kernel_rfl
attribute [simp] Try.underlying28
@[simp] theorem agg_29 : isAggV Try.prog 29 = some false := by kernel_rfl
@[simp] theorem size_29 : sizeV Try.prog 29 = some 1 := by kernel_rfl
@[simp] theorem bytes_29 : bytesV Try.prog 29 = some 0 := by kernel_rfl
attribute [simp] Try.underlying29
@[simp] theorem agg_30 : isAggV Try.prog 30 = some false := by kernel_rfl
@[simp] theorem size_30 : sizeV Try.prog 30 = some 1 := by kernel_rfl
@[simp] theorem bytes_30 : bytesV Try.prog 30 = some 8 := by kernel_rfl
attribute [simp] Try.underlying30
@[simp] theorem agg_31 : isAggV Try.prog 31 = some false := by kernel_rfl
@[simp] theorem size_31 : sizeV Try.prog 31 = some 1 := by kernel_rfl
@[simp] theorem bytes_31 : bytesV Try.prog 31 = some 8 := by kernel_rfl
attribute [simp] Try.underlying31
@[simp] theorem agg_32 : isAggV Try.prog 32 = some false := by kernel_rfl
@[simp] theorem size_32 : sizeV Try.prog 32 = some 1 := by kernel_rfl
@[simp] theorem bytes_32 : bytesV Try.prog 32 = some 1 := by kernel_rfl
@[simp] theorem zero_32 : zeroV Try.prog 32 = some (.int .u8 0) := by kernel_rfl
attribute [simp] Try.underlying32
@[simp] theorem agg_33 : isAggV Try.prog 33 = some false := by kernel_rfl
@[simp] theorem size_33 : sizeV Try.prog 33 = some 1 := by kernel_rfl
@[simp] theorem bytes_33 : bytesV Try.prog 33 = some 4 := by kernel_rfl
@[simp] theorem zero_33 : zeroV Try.prog 33 = some (.int .u32 0) := by kernel_rfl
attribute [simp] Try.underlying33
@[simp] theorem agg_34 : isAggV Try.prog 34 = some true := by kernel_rfl
@[simp] theorem size_34 : sizeV Try.prog 34 = some 2 := by kernel_rfl
@[simp] theorem bytes_34 : bytesV Try.prog 34 = some 8 := by kernel_rfl
@[simp] theorem zero_34 : zeroV Try.prog 34 = some (.agg [.int .u8 0, .int .u32 0]) := by kernel_rfl
attribute [simp] Try.underlying34
@[simp] theorem agg_35 : isAggV Try.prog 35 = some true := by kernel_rfl
@[simp] theorem size_35 : sizeV Try.prog 35 = some 2 := by kernel_rfl
@[simp] theorem bytes_35 : bytesV Try.prog 35 = some 8 := by kernel_rfl
@[simp] theorem zero_35 : zeroV Try.prog 35 = some (.agg [.int .u8 0, .int .u32 0]) := by kernel_rfl
attribute [simp] Try.underlying35
@[simp] theorem agg_36 : isAggV Try.prog 36 = some false := by kernel_rfl
@[simp] theorem size_36 : sizeV Try.prog 36 = some 1 := by kernel_rfl
@[simp] theorem bytes_36 : bytesV Try.prog 36 = some 8 := by kernel_rfl
@[simp] theorem zero_36 : zeroV Try.prog 36 = some (.nilptr) := by kernel_rfl
attribute [simp] Try.underlying36
@[simp] theorem agg_37 : isAggV Try.prog 37 = some false := by kernel_rfl
@[simp] theorem size_37 : sizeV Try.prog 37 = some 1 := by kernel_rfl
@[simp] theorem bytes_37 : bytesV Try.prog 37 = some 0 := by kernel_rfl
attribute [simp] Try.underlying37
@[simp] theorem agg_38 : isAggV Try.prog 38 = some false := by kernel_rfl
@[simp] theorem size_38 : sizeV Try.prog 38 = some 1 := by kernel_rfl
@[simp] theorem bytes_38 : bytesV Try.prog 38 = some 8 := by kernel_rfl
attribute [simp] Try.underlying38
@[simp] theorem agg_39 : isAggV Try.prog 39 = some false := by kernel_rfl
@[simp] theorem size_39 : sizeV Try.prog 39 = some 1 := by kernel_rfl
@[simp] theorem bytes_39 : bytesV Try.prog 39 = some 8 := by kernel_rfl
attribute [simp] Try.underlying39
@[simp] theorem agg_40 : isAggV Try.prog 40 = some false := by kernel_rfl
@[simp] theorem size_40 : sizeV Try.prog 40 = some 1 := by kernel_rfl
@[simp] theorem bytes_40 : bytesV Try.prog 40 = some 8 := by kernel_rfl
attribute [simp] Try.underlying40
@[simp] theorem agg_41 : isAggV Try.prog 41 = some false := by kernel_rfl
@[simp] theorem size_41 : sizeV Try.prog 41 = some 1 := by kernel_rfl
@[simp] theorem bytes_41 : bytesV Try.prog 41 = some 8 := by kernel_rfl
attribute [simp] Try.underlying41
@[simp] theorem agg_42 : isAggV Try.prog 42 = some false := by kernel_rfl
@[simp] theorem size_42 : sizeV Try.prog 42 = some 1 := by kernel_rfl
@[simp] theorem bytes_42 : bytesV Try.prog 42 = some 8 := by kernel_rfl
attribute [simp] Try.underlying42
@[simp] theorem agg_43 : isAggV Try.prog 43 = some false := by kernel_rfl
@[simp] theorem size_43 : sizeV Try.prog 43 = some 1 := by kernel_rfl
@[simp] theorem bytes_43 : bytesV Try.prog 43 = some 8 := by kernel_rfl
attribute [simp] Try.underlying43
@[simp] theorem agg_44 : isAggV Try.prog 44 = some false := by kernel_rfl
@[simp] theorem size_44 : sizeV Try.prog 44 = some 1 := by kernel_rfl
@[simp] theorem bytes_44 : bytesV Try.prog 44 = some 8 := by kernel_rfl
attribute [simp] Try.underlying44
@[simp] theorem agg_45 : isAggV Try.prog 45 = some false := by kernel_rfl
@[simp] theorem size_45 : sizeV Try.prog 45 = some 1 := by kernel_rfl
@[simp] theorem bytes_45 : bytesV Try.prog 45 = some 24 := by kernel_rfl
@[simp] theorem zero_45 : zeroV Try.prog 45 = some (.nilslice) := by kernel_rfl
attribute [simp] Try.underlying45
@[simp] theorem agg_46 : isAggV Try.prog 46 = some false := by kernel_rfl
@[simp] theorem size_46 : sizeV Try.prog 46 = some 1 := by kernel_rfl
@[simp] theorem bytes_46 : bytesV Try.prog 46 = some 0 := by kernel_rfl
attribute [simp] Try.underlying46
@[simp] theorem agg_47 : isAggV Try.prog 47 = some false := by kernel_rfl
@[simp] theorem size_47 : sizeV Try.prog 47 = some 1 := by kernel_rfl
@[simp] theorem bytes_47 : bytesV Try.prog 47 = some 8 := by kernel_rfl
attribute [simp] Try.underlying47
@[simp] theorem agg_48 : isAggV Try.prog 48 = some false := by kernel_rfl
@[simp] theorem size_48 : sizeV Try.prog 48 = some 1 := by kernel_rfl
@[simp] theorem bytes_48 : bytesV Try.prog 48 = some 0 := by kernel_rfl
attribute [simp] Try.underlying48
@[simp] theorem agg_49 : isAggV Try.prog 49 = some false := by kernel_rfl
@[simp] theorem size_49 : sizeV Try.prog 49 = some 1 := by kernel_rfl
@[simp] theorem bytes_49 : bytesV Try.prog 49 = some 8 := by kernel_rfl
attribute [simp] Try.underlying49
@[simp] theorem agg_50 : isAggV Try.prog 50 = some true := by kernel_rfl
@[simp] theorem size_50 : sizeV Try.prog 50 = some 4 := by kernel_rfl
@[simp] theorem bytes_50 : bytesV Try.prog 50 = some 40 := by kernel_rfl
@[simp] theorem zero_50 : zeroV Try.prog 50 = some (.agg [.int .u32 0, .int .u32 0, .int .i64 0, .nilslice]) := by kernel_rfl
attribute [simp] Try.underlying50
@[simp] theorem agg_51 : isAggV Try.prog 51 = some true := by kernel_rfl
@[simp] theorem size_51 : sizeV Try.prog 51 = some 4 := by kernel_rfl
@[simp] theorem bytes_51 : bytesV Try.prog 51 = some 40 := by kernel_rfl
@[simp] theorem zero_51 : zeroV Try.prog 51 = some (.agg [.int .u32 0, .int .u32 0, .int .i64 0, .nilslice]) := by kernel_rfl
attribute [simp] Try.underlying51
@[simp] theorem agg_52 : isAggV Try.prog 52 = some false := by kernel_rfl
@[simp] theorem size_52 : sizeV Try.prog 52 = some 1 := by kernel_rfl
@[simp] theorem bytes_52 : bytesV Try.prog 52 = some 8 := by kernel_rfl
@[simp] theorem zero_52 : zeroV Try.prog 52 = some (.int .u64 0) := by kernel_rfl
attribute [simp] Try.underlying52
@[simp] theorem agg_53 : isAggV Try.prog 53 = some false := by kernel_rfl
@[simp] theorem size_53 : sizeV Try.prog 53 = some 1 := by kernel_rfl
@[simp] theorem bytes_53 : bytesV Try.prog 53 = some 8 := by kernel_rfl
attribute [simp] Try.underlying53
@[simp] theorem agg_54 : isAggV Try.prog 54 = some false := by kernel_rfl
@[simp] theorem size_54 : sizeV Try.prog 54 = some 1 := by kernel_rfl
@[simp] theorem bytes_54 : bytesV Try.prog 54 = some 8 := by kernel_rfl
attribute [simp] Try.underlying54
@[simp] theorem agg_55 : isAggV Try.prog 55 = some false := by kernel_rfl
@[simp] theorem size_55 : sizeV Try.prog 55 = some 1 := by kernel_rfl
@[simp] theorem bytes_55 : bytesV Try.prog 55 = some 8 := by kernel_rfl
attribute [simp] Try.underlying55
@[simp] theorem agg_56 : isAggV Try.prog 56 = some false := by kernel_rfl
@[simp] theorem size_56 : sizeV Try.prog 56 = some 1 := by kernel_rfl
@[simp] theorem bytes_56 : bytesV Try.prog 56 = some 8 := by kernel_rfl
@[simp] theorem zero_56 : zeroV Try.prog 56 = some (.nilptr) := by kernel_rfl
attribute [simp] Try.underlying56
@[simp] theorem agg_57 : isAggV Try.prog 57 = some false := by kernel_rfl
@[simp] theorem size_57 : sizeV Try.prog 57 = some 1 := by kernel_rfl
@[simp] theorem bytes_57 : bytesV Try.prog 57 = some 0 := by kernel_rfl
attribute [simp] Try.underlying57
@[simp] theorem agg_58 : isAggV Try.prog 58 = some false := by kernel_rfl
@[simp] theorem size_58 : sizeV Try.prog 58 = some 1 := by kernel_rfl
@[simp] theorem bytes_58 : bytesV Try.prog 58 = some 8 := by kernel_rfl
attribute [simp] Try.underlying58
@[simp] theorem agg_59 : isAggV Try.prog 59 = some false := by kernel_rfl
@[simp] theorem size_59 : sizeV Try.prog 59 = some 1 := by kernel_rfl
@[simp] theorem bytes_59 : bytesV Try.prog 59 = some 8 := by kernel_rfl
attribute [simp] Try.underlying59
@[simp] theorem agg_60 : isAggV Try.prog 60 = some false := by kernel_rfl
@[simp] theorem size_60 : sizeV Try.prog 60 = some 1 := by kernel_rfl
@[simp] theorem bytes_60 : bytesV Try.prog 60 = some 24 := by kernel_rfl
@[simp] theorem zero_60 : zeroV Try.prog 60 = some (.nilslice) := by kernel_rfl
attribute [simp] Try.underlying60
@[simp] theorem agg_61 : isAggV Try.prog 61 = some false := by kernel_rfl
@[simp] theorem size_61 : sizeV Try.prog 61 = some 1 := by kernel_rfl
@[simp] theorem bytes_61 : bytesV Try.prog 61 = some 24 := by kernel_rfl
@[simp] theorem zero_61 : zeroV Try.prog 61 = some (.nilslice) := by kernel_rfl
attribute [simp] Try.underlying61
@[simp] theorem agg_62 : isAggV Try.prog 62 = some false := by kernel_rfl
@[simp] theorem size_62 : sizeV Try.prog 62 = some 1 := by kernel_rfl
@[simp] theorem bytes_62 : bytesV Try.prog 62 = some 0 := by kernel_rfl
attribute [simp] Try.underlying62
@[simp] theorem agg_63 : isAggV Try.prog 63 = some false := by kernel_rfl
@[simp] theorem size_63 : sizeV Try.prog 63 = some 1 := by kernel_rfl
@[simp] theorem bytes_63 : bytesV Try.prog 63 = some 8 := by kernel_rfl
attribute [simp] Try.underlying63
@[simp] theorem agg_64 : isAggV Try.prog 64 = some false := by kernel_rfl
@[simp] theorem size_64 : sizeV Try.prog 64 = some 1 := by kernel_rfl
@[simp] theorem bytes_64 : bytesV Try.prog 64 = some 8 := by kernel_rfl
attribute [simp] Try.underlying64
@[simp] theorem agg_65 : isAggV Try.prog 65 = some false := by kernel_rfl
@[simp] theorem size_65 : sizeV Try.prog 65 = some 1 := by kernel_rfl
@[simp] theorem bytes_65 : bytesV Try.prog 65 = some 8 := by kernel_rfl
attribute [simp] Try.underlying65
@[simp] theorem agg_66 : isAggV Try.prog 66 = some true := by kernel_rfl
@[simp] theorem size_66 : sizeV Try.prog 66 = some 4 := by kernel_rfl
@[simp] theorem bytes_66 : bytesV Try.prog 66 = some 24 := by kernel_rfl
@[simp] theorem zero_66 : zeroV Try.prog 66 = some (.agg [.int .u32 0, .int .u32 0, .int .u32 0, .int .i64 0]) := by kernel_rfl
attribute [simp] Try.underlying66
@[simp] theorem agg_67 : isAggV Try.prog 67 = some true := by kernel_rfl
@[simp] theorem size_67 : sizeV Try.prog 67 = some 4 := by kernel_rfl
@[simp] theorem bytes_67 : bytesV Try.prog 67 = some 24 := by kernel_rfl
@[simp] theorem zero_67 : zeroV Try.prog 67 = some (.agg [.int .u32 0, .int .u32 0, .int .u32 0, .int .i64 0]) := by kernel_rfl
attribute [simp] Try.underlying67
@[simp] theorem agg_68 : isAggV Try.prog 68 = some false := by kernel_rfl
@[simp] theorem size_68 : sizeV Try.prog 68 = some 1 := by kernel_rfl
@[simp] theorem bytes_68 : bytesV Try.prog 68 = some 24 := by kernel_rfl
@[simp] theorem zero_68 : zeroV Try.prog 68 = some (.nilslice) := by kernel_rfl
attribute [simp] Try.underlying68
@[simp] theorem agg_69 : isAggV Try.prog 69 = some false := by kernel_rfl
@[simp] theorem size_69 : sizeV Try.prog 69 = some 1 := by kernel_rfl
@[simp] theorem bytes_69 : bytesV Try.prog 69 = some 24 := by kernel_rfl
@[simp] theorem zero_69 : zeroV Try.prog 69 = some (.nilslice) := by kernel_rfl
attribute [simp] Try.underlying69
@[simp] theorem agg_70 : isAggV Try.prog 70 = some true := by kernel_rfl
@[simp] theorem size_70 : sizeV Try.prog 70 = some 3 := by kernel_rfl
@[simp] theorem bytes_70 : bytesV Try.prog 70 = some 72 := by kernel_rfl
@[simp] theorem zero_70 : zeroV Try.prog 70 = some (.agg [.nilslice, .nilslice, .nilslice]) := by kernel_rfl
attribute [simp] Try.underlying70
@[simp] theorem agg_71 : isAggV Try.prog 71 = some true := by kernel_rfl
@[simp] theorem size_71 : sizeV Try.prog 71 = some 3 := by kernel_rfl
@[simp] theorem bytes_71 : bytesV Try.prog 71 = some 72 := by kernel_rfl
@[simp] theorem zero_71 : zeroV Try.prog 71 = some (.agg [.nilslice, .nilslice, .nilslice]) := by kernel_rfl
attribute [simp] Try.underlying71
@[simp] theorem agg_72 : isAggV Try.prog 72 = some false := by kernel_rfl
@[simp] theorem size_72 : sizeV Try.prog 72 = some 1 := by kernel_rfl
@[simp] theorem bytes_72 : bytesV Try.prog 72 = some 0 := by kernel_rfl
attribute [simp] Try.underlying72
@[simp] theorem agg_73 : isAggV Try.prog 73 = some false := by kernel_rfl
@[simp] theorem size_73 : sizeV Try.prog 73 = some 1 := by kernel_rfl
@[simp] theorem bytes_73 : bytesV Try.prog 73 = some 8 := by kernel_rfl
attribute [simp] Try.underlying73
@[simp] theorem agg_74 : isAggV Try.prog 74 = some true := by kernel_rfl
@[simp] theorem size_74 : sizeV Try.prog 74 = some 2 := by kernel_rfl
@[simp] theorem bytes_74 : bytesV Try.prog 74 = some 24 := by kernel_rfl
@[simp] theorem zero_74 : zeroV Try.prog 74 = some (.agg [.str [], .int .u32 0]) := by kernel_rfl
attribute [simp] Try.underlying74
@[simp] theorem agg_75 : isAggV Try.prog 75 = some true := by kernel_rfl
@[simp] theorem size_75 : sizeV Try.prog 75 = some 2 := by kernel_rfl
@[simp] theorem bytes_75 : bytesV Try.prog 75 = some 24 := by kernel_rfl
@[simp] theorem zero_75 : zeroV Try.prog 75 = some (.agg [.str [], .int .u32 0]) := by kernel_rfl
attribute [simp] Try.underlying75
@[simp] theorem agg_76 : isAggV Try.prog 76 = some false := by kernel_rfl
@[simp] theorem size_76 : sizeV Try.prog 76 = some 1 := by kernel_rfl
@[simp] theorem bytes_76 : bytesV Try.prog 76 = some 8 := by kernel_rfl
attribute [simp] Try.underlying76
@[simp] theorem agg_77 : isAggV Try.prog 77 = some false := by kernel_rfl
@[simp] theorem size_77 : sizeV Try.prog 77 = some 1 := by kernel_rfl
@[simp] theorem bytes_77 : bytesV Try.prog 77 = some 8 := by kernel_rfl
attribute [simp] Try.underlying77
@[simp] theorem agg_78 : isAggV Try.prog 78 = some false := by kernel_rfl
@[simp] theorem size_78 : sizeV Try.prog 78 = some 1 := by kernel_rfl
@[simp] theorem bytes_78 : bytesV Try.prog 78 = some 8 := by kernel_rfl
attribute [simp] Try.underlying78
@[simp] theorem agg_79 : isAggV Try.prog 79 = some false := by kernel_rfl
@[simp] theorem size_79 : sizeV Try.prog 79 = some 1 := by kernel_rfl
@[simp] theorem bytes_79 : bytesV Try.prog 79 = some 8 := by kernel_rfl
attribute [simp] Try.underlying79
@[simp] theorem agg_80 : isAggV Try.prog 80 = some false := by kernel_rfl
@[simp] theorem size_80 : sizeV Try.prog 80 = some 1 := by kernel_rfl
@[simp] theorem bytes_80 : bytesV Try.prog 80 = some 1 := by kernel_rfl
@[simp] theorem zero_80 : zeroV Try.prog 80 = some (.int .u8 0) := by kernel_rfl
attribute [simp] Try.underlying80
@[simp] theorem agg_81 : isAggV Try.prog 81 = some true := by kernel_rfl
@[simp] theorem size_81 : sizeV Try.prog 81 = some 6 := by kernel_rfl
@[simp] theorem bytes_81 : bytesV Try.prog 81 = some 56 := by kernel_rfl
@[simp] theorem zero_81 : zeroV Try.prog 81 = some (.agg [.str [], .int .i64 0, .int .u32 0, .int .i64 0, .int .i64 0, .int .u8 0]) := by kernel_rfl
attribute [simp] Try.underlying81
@[simp] theorem agg_82 : isAggV Try.prog 82 = some true := by kernel_rfl
@[simp] theorem size_82 : sizeV Try.prog 82 = some 6 := by kernel_rfl
@[simp] theorem bytes_82 : bytesV Try.prog 82 = some 56 := by kernel_rfl
@[simp] theorem zero_82 : zeroV Try.prog 82 = some (.agg [.str [], .int .i64 0, .int .u32 0, .int .i64 0, .int .i64 0, .int .u8 0]) := by kernel_rfl
attribute [simp] Try.underlying82
@[simp] theorem agg_83 : isAggV Try.prog 83 = some false := by kernel_rfl
@[simp] theorem size_83 : sizeV Try.prog 83 = some 1 := by kernel_rfl
@[simp] theorem bytes_83 : bytesV Try.prog 83 = some 0 := by kernel_rfl
attribute [simp] Try.underlying83
@[simp] theorem agg_84 : isAggV Try.prog 84 = some false := by kernel_rfl
@[simp] theorem size_84 : sizeV Try.prog 84 = some 1 := by kernel_rfl
@[simp] theorem bytes_84 : bytesV Try.prog 84 = some 8 := by kernel_rfl
attribute [simp] Try.underlying84
@[simp] theorem agg_85 : isAggV Try.prog 85 = some false := by kernel_rfl
@[simp] theorem size_85 : sizeV Try.prog 85 = some 1 := by kernel_rfl
@[simp] theorem bytes_85 : bytesV Try.prog 85 = some 0 := by kernel_rfl
attribute [simp] Try.underlying85
@[simp] theorem agg_86 : isAggV Try.prog 86 = some false := by kernel_rfl
@[simp] theorem size_86 : sizeV Try.prog 86 = some 1 := by kernel_rfl
@[simp] theorem bytes_86 : bytesV Try.prog 86 = some 8 := by kernel_rfl
attribute [simp] Try.underlying86
@[simp] theorem agg_87 : isAggV Try.prog 87 = some false := by kernel_rfl
@[simp] theorem size_87 : sizeV Try.prog 87 = some 1 := by kernel_rfl
@[simp] theorem bytes_87 : bytesV Try.prog 87 = some 8 := by kernel_rfl
attribute [simp] Try.underlying87
@[simp] theorem agg_88 : isAggV Try.prog 88 = some false := by kernel_rfl
@[simp] theorem size_88 : sizeV Try.prog 88 = some 1 := by kernel_rfl
@[simp] theorem bytes_88 : bytesV Try.prog 88 = some 8 := by kernel_rfl
@[simp] theorem zero_88 : zeroV Try.prog 88 = some (.nilptr) := by kernel_rfl
attribute [simp] Try.underlying88
@[simp] theorem agg_89 : isAggV Try.prog 89 = some false := by kernel_rfl
@[simp] theorem size_89 : sizeV Try.prog 89 = some 1 := by kernel_rfl
@[simp] theorem bytes_89 : bytesV Try.prog 89 = some 24 := by kernel_rfl
@[simp] theorem zero_89 : zeroV Try.prog 89 = some (.nilslice) := by kernel_rfl
attribute [simp] Try.underlying89
@[simp] theorem agg_90 : isAggV Try.prog 90 = some true := by kernel_rfl
@[simp] theorem size_90 : sizeV Try.prog 90 = some 6 := by kernel_rfl
@[simp] theorem bytes_90 : bytesV Try.prog 90 = some 144 := by kernel_rfl
@[simp] theorem zero_90 : zeroV Try.prog 90 = some (.agg [.nilslice, .nilslice, .nilslice, .nilslice, .nilslice, .nilslice]) := by kernel_rfl
attribute [simp] Try.underlying90
@[simp] theorem agg_91 : isAggV Try.prog 91 = some true := by kernel_rfl
@[simp] theorem size_91 : sizeV Try.prog 91 = some 6 := by kernel_rfl
@[simp] theorem bytes_91 : bytesV Try.prog 91 = some 144 := by kernel_rfl
@[simp] theorem zero_91 : zeroV Try.prog 91 = some (.agg [.nilslice, .nilslice, .nilslice, .nilslice, .nilslice, .nilslice]) := by kernel_rfl
attribute [simp] Try.underlying91
@[simp] theorem agg_92 : isAggV Try.prog 92 = some true := by kernel_rfl
@[simp] theorem size_92 : sizeV Try.prog 92 = some 3 := by kernel_rfl
@[simp] theorem bytes_92 : bytesV Try.prog 92 = some 56 := by kernel_rfl
@[simp] theorem zero_92 : zeroV Try.prog 92 = some (.agg [.nilslice, .nilslice, .nilptr]) := by kernel_rfl
attribute [simp] Try.underlying92
@[simp] theorem agg_93 : isAggV Try.prog 93 = some true := by kernel_rfl
@[simp] theorem size_93 : sizeV Try.prog 93 = some 3 := by kernel_rfl
@[simp] theorem bytes_93 : bytesV Try.prog 93 = some 56 := by kernel_rfl
@[simp] theorem zero_93 : zeroV Try.prog 93 = some (.agg [.nilslice, .nilslice, .nilptr]) := by kernel_rfl
attribute [simp] Try.underlying93
@[simp] theorem agg_94 : isAggV Try.prog 94 = some false := by kernel_rfl
@[simp] theorem size_94 : sizeV Try.prog 94 = some 1 := by kernel_rfl
@[simp] theorem bytes_94 : bytesV Try.prog 94 = some 8 := by kernel_rfl
attribute [simp] Try.underlying94
@[simp] theorem agg_95 : isAggV Try.prog 95 = some false := by kernel_rfl
@[simp] theorem size_95 : sizeV Try.prog 95 = some 1 := by kernel_rfl
@[simp] theorem bytes_95 : bytesV Try.prog 95 = some 8 := by kernel_rfl
attribute [simp] Try.underlying95
@[simp] theorem agg_96 : isAggV Try.prog 96 = some false := by kernel_rfl
@[simp] theorem size_96 : sizeV Try.prog 96 = some 1 := by kernel_rfl
@[simp] theorem bytes_96 : bytesV Try.prog 96 = some 8 := by kernel_rfl
attribute [simp] Try.underlying96
@[simp] theorem agg_97 : isAggV Try.prog 97 = some false := by kernel_rfl
@[simp] theorem size_97 : sizeV Try.prog 97 = some 1 := by kernel_rfl
@[simp] theorem bytes_97 : bytesV Try.prog 97 = some 8 := by kernel_rfl
attribute [simp] Try.underlying97
@[simp] theorem agg_98 : isAggV Try.prog 98 = some false := by kernel_rfl
@[simp] theorem size_98 : sizeV Try.prog 98 = some 1 := by kernel_rfl
@[simp] theorem bytes_98 : bytesV Try.prog 98 = some 8 := by kernel_rfl
attribute [simp] Try.underlying98
@[simp] theorem agg_99 : isAggV Try.prog 99 = some false := by kernel_rfl
@[simp] theorem size_99 : sizeV Try.prog 99 = some 1 := by kernel_rfl
@[simp] theorem bytes_99 : bytesV Try.prog 99 = some 0 := by kernel_rfl
attribute [simp] Try.underlying99
@[simp] theorem agg_100 : isAggV Try.prog 100 = some false := by kernel_rfl
@[simp] theorem size_100 : sizeV Try.prog 100 = some 1 := by kernel_rfl
@[simp] theorem bytes_100 : bytesV Try.prog 100 = some 8 := by kernel_rfl
attribute [simp] Try.underlying100
@[simp] theorem agg_101 : isAggV Try.prog 101 = some false := by kernel_rfl
@[simp] theorem size_101 : sizeV Try.prog 101 = some 1 := by kernel_rfl
@[simp] theorem bytes_101 : bytesV Try.prog 101 = some 8 := by kernel_rfl
attribute [simp] Try.underlying101
@[simp] theorem agg_102 : isAggV Try.prog 102 = some false := by kernel_rfl
@[simp] theorem size_102 : sizeV Try.prog 102 = some 1 := by kernel_rfl
@[simp] theorem bytes_102 : bytesV Try.prog 102 = some 8 := by kernel_rfl
attribute [simp] Try.underlying102
@[simp] theorem agg_103 : isAggV Try.prog 103 = some false := by kernel_rfl
@[simp] theorem size_103 : sizeV Try.prog 103 = some 1 := by kernel_rfl
@[simp] theorem bytes_103 : bytesV Try.prog 103 = some 8 := by kernel_rfl
attribute [simp] Try.underlying103
@[simp] theorem agg_104 : isAggV Try.prog 104 = some false := by kernel_rfl
@[simp] theorem size_104 : sizeV Try.prog 104 = some 1 := by kernel_rfl
@[simp] theorem bytes_104 : bytesV Try.prog 104 = some 8 := by kernel_rfl
attribute [simp] Try.underlying104
@[simp] theorem agg_105 : isAggV Try.prog 105 = some false := by kernel_rfl
@[simp] theorem size_105 : sizeV Try.prog 105 = some 1 := by kernel_rfl
@[simp] theorem bytes_105 : bytesV Try.prog 105 = some 0 := by kernel_rfl
attribute [simp] Try.underlying105
@[simp] theorem agg_106 : isAggV Try.prog 106 = some false := by kernel_rfl
@[simp] theorem size_106 : sizeV Try.prog 106 = some 1 := by kernel_rfl
@[simp] theorem bytes_106 : bytesV Try.prog 106 = some 8 := by kernel_rfl
attribute [simp] Try.underlying106
@[simp] theorem agg_107 : isAggV Try.prog 107 = some false := by kernel_rfl
@[simp] theorem size_107 : sizeV Try.prog 107 = some 1 := by kernel_rfl
@[simp] theorem bytes_107 : bytesV Try.prog 107 = some 8 := by kernel_rfl
attribute [simp] Try.underlying107
@[simp] theorem agg_108 : isAggV Try.prog 108 = some true := by kernel_rfl
@[simp] theorem size_108 : sizeV Try.prog 108 = some 360 := by kernel_rfl
@[simp] theorem bytes_108 : bytesV Try.prog 108 = some 3360 := by kernel_rfl
attribute [simp] Try.underlying108
@[simp] theorem agg_109 : isAggV Try.prog 109 = some false := by kernel_rfl
@[simp] theorem size_109 : sizeV Try.prog 109 = some 1 := by kernel_rfl
@[simp] theorem bytes_109 : bytesV Try.prog 109 = some 8 := by kernel_rfl
attribute [simp] Try.underlying109
@[simp] theorem agg_110 : isAggV Try.prog 110 = some false := by kernel_rfl
@[simp] theorem size_110 : sizeV Try.prog 110 = some 1 := by kernel_rfl
@[simp] theorem bytes_110 : bytesV Try.prog 110 = some 8 := by kernel_rfl
attribute [simp] Try.underlying110
@[simp] theorem agg_111 : isAggV Try.prog 111 = some false := by kernel_rfl
@[simp] theorem size_111 : sizeV Try.prog 111 = some 1 := by kernel_rfl
@[simp] theorem bytes_111 : bytesV Try.prog 111 = some 8 := by kernel_rfl
attribute [simp] Try.underlying111
@[simp] theorem agg_112 : isAggV Try.prog 112 = some false := by kernel_rfl
@[simp] theorem size_112 : sizeV Try.prog 112 = some 1 := by kernel_rfl
@[simp] theorem bytes_112 : bytesV Try.prog 112 = some 8 := by kernel_rfl
attribute [simp] Try.underlying112
@[simp] theorem agg_113 : isAggV Try.prog 113 = some false := by kernel_rfl
@[simp] theorem size_113 : sizeV Try.prog 113 = some 1 := by kernel_rfl
@[simp] theorem bytes_113 : bytesV Try.prog 113 = some 8 := by kernel_rfl
@[simp] theorem zero_113 : zeroV Try.prog 113 = some (.int .u64 0) := by kernel_rfl
attribute [simp] Try.underlying113
@[simp] theorem agg_114 : isAggV Try.prog 114 = some false := by kernel_rfl
@[simp] theorem size_114 : sizeV Try.prog 114 = some 1 := by kernel_rfl
@[simp] theorem bytes_114 : bytesV Try.prog 114 = some 0 := by kernel_rfl
attribute [simp] Try.underlying114
@[simp] theorem agg_115 : isAggV Try.prog 115 = some false := by kernel_rfl
@[simp] theorem size_115 : sizeV Try.prog 115 = some 1 := by kernel_rfl
@[simp] theorem bytes_115 : bytesV Try.prog 115 = some 8 := by kernel_rfl
attribute [simp] Try.underlying115
@[simp] theorem agg_116 : isAggV Try.prog 116 = some false := by kernel_rfl
@[simp] theorem size_116 : sizeV Try.prog 116 = some 1 := by kernel_rfl
@[simp] theorem bytes_116 : bytesV Try.prog 116 = some 8 := by kernel_rfl
@[simp] theorem zero_116 : zeroV Try.prog 116 = some (.nilptr) := by kernel_rfl
attribute [simp] Try.underlying116
@[simp] theorem agg_117 : isAggV Try.prog 117 = some false := by kernel_rfl
@[simp] theorem size_117 : sizeV Try.prog 117 = some 1 := by kernel_rfl
@[simp] theorem bytes_117 : bytesV Try.prog 117 = some 24 := by kernel_rfl
@[simp] theorem zero_117 : zeroV Try.prog 117 = some (.nilslice) := by kernel_rfl
attribute [simp] Try.underlying117
@[simp] theorem agg_118 : isAggV Try.prog 118 = some false := by kernel_rfl
@[simp] theorem size_118 : sizeV Try.prog 118 = some 1 := by kernel_rfl
@[simp] theorem bytes_118 : bytesV Try.prog 118 = some 8 := by kernel_rfl
attribute [simp] Try.underlying118
@[simp] theorem agg_119 : isAggV Try.prog 119 = some false := by kernel_rfl
@[simp] theorem size_119 : sizeV Try.prog 119 = some 1 := by kernel_rfl
@[simp] theorem bytes_119 : bytesV Try.prog 119 = some 8 := by kernel_rfl
attribute [simp] Try.underlying119
@[simp] theorem agg_120 : isAggV Try.prog 120 = some false := by kernel_rfl
@[simp] theorem size_120 : sizeV Try.prog 120 = some 1 := by kernel_rfl
@[simp] theorem bytes_120 : bytesV Try.prog 120 = some 8 := by kernel_rfl
attribute [simp] Try.underlying120
@[simp] theorem agg_121 : isAggV Try.prog 121 = some false := by kernel_rfl
@[simp] theorem size_121 : sizeV Try.prog 121 = some 1 := by kernel_rfl
@[simp] theorem bytes_121 : bytesV Try.prog 121 = some 8 := by kernel_rfl
attribute [simp] Try.underlying121
@[simp] theorem agg_122 : isAggV Try.prog 122 = some true := by kernel_rfl
@[simp] theorem size_122 : sizeV Try.prog 122 = some 2 := by kernel_rfl
@[simp] theorem bytes_122 : bytesV Try.prog 122 = some 16 := by kernel_rfl
@[simp] theorem zero_122 : zeroV Try.prog 122 = some (.agg [.int .i64 0, .int .i64 0]) := by kernel_rfl
attribute [simp] Try.underlying122
@[simp] theorem agg_123 : isAggV Try.prog 123 = some true := by kernel_rfl
@[simp] theorem size_123 : sizeV Try.prog 123 = some 2 := by kernel_rfl
@[simp] theorem bytes_123 : bytesV Try.prog 123 = some 16 := by kernel_rfl
@[simp] theorem zero_123 : zeroV Try.prog 123 = some (.agg [.int .i64 0, .int .i64 0]) := by kernel_rfl
attribute [simp] Try.underlying123
@[simp] theorem agg_124 : isAggV Try.prog 124 = some false := by kernel_rfl
@[simp] theorem size_124 : sizeV Try.prog 124 = some 1 := by kernel_rfl
@[simp] theorem bytes_124 : bytesV Try.prog 124 = some 24 := by kernel_rfl
@[simp] theorem zero_124 : zeroV Try.prog 124 = some (.nilslice) := by kernel_rfl
attribute [simp] Try.underlying124
@[simp] theorem agg_125 : isAggV Try.prog 125 = some false := by kernel_rfl
@[simp] theorem size_125 : sizeV Try.prog 125 = some 1 := by kernel_rfl
@[simp] theorem bytes_125 : bytesV Try.prog 125 = some 8 := by kernel_rfl
@[simp] theorem zero_125 : zeroV Try.prog 125 = some (.nilptr) := by kernel_rfl
attribute [simp] Try.underlying125
@[simp] theorem agg_126 : isAggV Try.prog 126 = some false := by kernel_rfl
@[simp] theorem size_126 : sizeV Try.prog 126 = some 1 := by kernel_rfl
@[simp] theorem bytes_126 : bytesV Try.prog 126 = some 0 := by kernel_rfl
attribute [simp] Try.underlying126
@[simp] theorem agg_127 : isAggV Try.prog 127 = some false := by kernel_rfl
@[simp] theorem size_127 : sizeV Try.prog 127 = some 1 := by kernel_rfl
@[simp] theorem bytes_127 : bytesV Try.prog 127 = some 8 := by kernel_rfl
attribute [simp] Try.underlying127
@[simp] theorem agg_128 : isAggV Try.prog 128 = some false := by kernel_rfl
@[simp] theorem size_128 : sizeV Try.prog 128 = some 1 := by kernel_rfl
@[simp] theorem bytes_128 : bytesV Try.prog 128 = some 0 := by kernel_rfl
attribute [simp] Try.underlying128
@[simp] theorem agg_129 : isAggV Try.prog 129 = some false := by kernel_rfl
@[simp] theorem size_129 : sizeV Try.prog 129 = some 1 := by kernel_rfl
@[simp] theorem bytes_129 : bytesV Try.prog 129 = some 8 := by kernel_rfl
attribute [simp] Try.underlying129
@[simp] theorem agg_130 : isAggV Try.prog 130 = some false := by kernel_rfl
@[simp] theorem size_130 : sizeV Try.prog 130 = some 1 := by kernel_rfl
@[simp] theorem bytes_130 : bytesV Try.prog 130 = some 16 := by kernel_rfl
attribute [simp] Try.underlying130
@[simp] theorem agg_131 : isAggV Try.prog 131 = some false := by kernel_rfl
@[simp] theorem size_131 : sizeV Try.prog 131 = some 1 := by kernel_rfl
@[simp] theorem bytes_131 : bytesV Try.prog 131 = some 16 := by kernel_rfl
attribute [simp] Try.underlying131
@[simp] theorem agg_132 : isAggV Try.prog 132 = some false := by kernel_rfl
@[simp] theorem size_132 : sizeV Try.prog 132 = some 1 := by kernel_rfl
@[simp] theorem bytes_132 : bytesV Try.prog 132 = some 8 := by kernel_rfl
attribute [simp] Try.underlying132
@[simp] theorem agg_133 : isAggV Try.prog 133 = some false := by kernel_rfl
@[simp] theorem size_133 : sizeV Try.prog 133 = some 1 := by kernel_rfl
@[simp] theorem bytes_133 : bytesV Try.prog 133 = some 8 := by kernel_rfl
attribute [simp] Try.underlying133
@[simp] theorem agg_134 : isAggV Try.prog 134 = some false := by kernel_rfl
@[simp] theorem size_134 : sizeV Try.prog 134 = some 1 := by kernel_rfl
@[simp] theorem bytes_134 : bytesV Try.prog 134 = some 8 := by kernel_rfl
attribute [simp] Try.underlying134
@[simp] theorem agg_135 : isAggV Try.prog 135 = some false := by kernel_rfl
@[simp] theorem size_135 : sizeV Try.prog 135 = some 1 := by kernel_rfl
@[simp] theorem bytes_135 : bytesV Try.prog 135 = some 8 := by kernel_rfl
attribute [simp] Try.underlying135
@[simp] theorem agg_136 : isAggV Try.prog 136 = some false := by kernel_rfl
@[simp] theorem size_136 : sizeV Try.prog 136 = some 1 := by kernel_rfl
@[simp] theorem bytes_136 : bytesV Try.prog 136 = some 8 := by kernel_rfl
attribute [simp] Try.underlying136
@[simp] theorem agg_137 : isAggV Try.prog 137 = some false := by kernel_rfl
@[simp] theorem size_137 : sizeV Try.prog 137 = some 1 := by kernel_rfl
@[simp] theorem bytes_137 : bytesV Try.prog 137 = some 8 := by kernel_rfl
attribute [simp] Try.underlying137
@[simp] theorem agg_138 : isAggV Try.prog 138 = some false := by kernel_rfl
@[simp] theorem size_138 : sizeV Try.prog 138 = some 1 := by kernel_rfl
@[simp] theorem bytes_138 : bytesV Try.prog 138 = some 8 := by kernel_rfl
attribute [simp] Try.underlying138
@[simp] theorem agg_139 : isAggV Try.prog 139 = some true := by kernel_rfl
@[simp] theorem size_139 : sizeV Try.prog 139 = some 4 := by kernel_rfl
@[simp] theorem bytes_139 : bytesV Try.prog 139 = some 40 := by kernel_rfl
@[simp] theorem zero_139 : zeroV Try.prog 139 = some (.agg [.nilptr, .nilptr, .nilptr, .str []]) := by kernel_rfl
attribute [simp] Try.underlying139
@[simp] theorem agg_140 : isAggV Try.prog 140 = some true := by kernel_rfl
@[simp] theorem size_140 : sizeV Try.prog 140 = some 4 := by kernel_rfl
@[simp] theorem bytes_140 : bytesV Try.prog 140 = some 40 := by kernel_rfl
@[simp] theorem zero_140 : zeroV Try.prog 140 = some (.agg [.nilptr, .nilptr, .nilptr, .str []]) := by kernel_rfl
attribute [simp] Try.underlying140
@[simp] theorem agg_141 : isAggV Try.prog 141 = some true := by kernel_rfl
@[simp] theorem size_141 : sizeV Try.prog 141 = some 0 := by kernel_rfl
@[simp] theorem bytes_141 : bytesV Try.prog 141 = some 0 := by kernel_rfl
@[simp] theorem zero_141 : zeroV Try.prog 141 = some (.agg []) := by kernel_rfl
attribute [simp] Try.underlying141
@[simp] theorem agg_142 : isAggV Try.prog 142 = some true := by kernel_rfl
@[simp] theorem size_142 : sizeV Try.prog 142 = some 0 := by kernel_rfl
@[simp] theorem bytes_142 : bytesV Try.prog 142 = some 0 := by kernel_rfl
@[simp] theorem zero_142 : zeroV Try.prog 142 = some (.agg []) := by kernel_rfl
attribute [simp] Try.underlying142
@[simp] theorem agg_143 : isAggV Try.prog 143 = some true := by kernel_rfl
@[simp] theorem size_143 : sizeV Try.prog 143 = some 0 := by kernel_rfl
@[simp] theorem bytes_143 : bytesV Try.prog 143 = some 0 := by kernel_rfl
@[simp] theorem zero_143 : zeroV Try.prog 143 = some (.agg []) := by kernel_rfl
attribute [simp] Try.underlying143
@[simp] theorem agg_144 : isAggV Try.prog 144 = some false := by kernel_rfl
@[simp] theorem size_144 : sizeV Try.prog 144 = some 1 := by kernel_rfl
@[simp] theorem bytes_144 : bytesV Try.prog 144 = some 1 := by kernel_rfl
@[simp] theorem zero_144 : zeroV Try.prog 144 = some (.int .u8 0) := by kernel_rfl
attribute [simp] Try.underlying144
@[simp] theorem agg_145 : isAggV Try.prog 145 = some false := by kernel_rfl
@[simp] theorem size_145 : sizeV Try.prog 145 = some 1 := by kernel_rfl
@[simp] theorem bytes_145 : bytesV Try.prog 145 = some 1 := by kernel_rfl
@[simp] theorem zero_145 : zeroV Try.prog 145 = some (.int .u8 0) := by kernel_rfl
attribute [simp] Try.underlying145
@[simp] theorem agg_146 : isAggV Try.prog 146 = some false := by kernel_rfl
@[simp] theorem size_146 : sizeV Try.prog 146 = some 1 := by kernel_rfl
@[simp] theorem bytes_146 : bytesV Try.prog 146 = some 8 := by kernel_rfl
attribute [simp] Try.underlying146
@[simp] theorem agg_147 : isAggV Try.prog 147 = some false := by kernel_rfl
@[simp] theorem size_147 : sizeV Try.prog 147 = some 1 := by kernel_rfl
@[simp] theorem bytes_147 : bytesV Try.prog 147 = some 8 := by kernel_rfl
@[simp] theorem zero_147 : zeroV Try.prog 147 = some (.nilptr) := by kernel_rfl
attribute [simp] Try.underlying147
@[simp] theorem agg_148 : isAggV Try.prog 148 = some false := by kernel_rfl
@[simp] theorem size_148 : sizeV Try.prog 148 = some 1 := by kernel_rfl
@[simp] theorem bytes_148 : bytesV Try.prog 148 = some 4 := by kernel_rfl
@[simp] theorem zero_148 : zeroV Try.prog 148 = some (.int .i32 0) := by kernel_rfl
attribute [simp] Try.underlying148
@[simp] theorem agg_149 : isAggV Try.prog 149 = some false := by kernel_rfl
@[simp] theorem size_149 : sizeV Try.prog 149 = some 1 := by kernel_rfl
@[simp] theorem bytes_149 : bytesV Try.prog 149 = some 4 := by kernel_rfl
@[simp] theorem zero_149 : zeroV Try.prog 149 = some (.int .i32 0) := by kernel_rfl
attribute [simp] Try.underlying149
@[simp] theorem agg_150 : isAggV Try.prog 150 = some true := by kernel_rfl
@[simp] theorem size_150 : sizeV Try.prog 150 = some 11 := by kernel_rfl
@[simp] theorem bytes_150 : bytesV Try.prog 150 = some 48 := by kernel_rfl
@[simp] theorem zero_150 : zeroV Try.prog 150 = some (.agg [.int .u64 0, .int .u64 0, .int .u32 0, .int .u8 0, .int .u8 0, .int .u8 0, .int .u8 0, .nilfunc, .nilptr, .int .i32 0, .int .i32 0]) := by kernel_rfl
attribute [simp] Try.underlying150
@[simp] theorem agg_151 : isAggV Try.prog 151 = some true := by kernel_rfl
@[simp] theorem size_151 : sizeV Try.prog 151 = some 11 := by kernel_rfl
@[simp] theorem bytes_151 : bytesV Try.prog 151 = some 48 := by kernel_rfl
@[simp] theorem zero_151 : zeroV Try.prog 151 = some (.agg [.int .u64 0, .int .u64 0, .int .u32 0, .int .u8 0, .int .u8 0, .int .u8 0, .int .u8 0, .nilfunc, .nilptr, .int .i32 0, .int .i32 0]) := by kernel_rfl
attribute [simp] Try.underlying151
@[simp] theorem agg_152 : isAggV Try.prog 152 = some false := by kernel_rfl
@[simp] theorem size_152 : sizeV Try.prog 152 = some 1 := by kernel_rfl
@[simp] theorem bytes_152 : bytesV Try.prog 152 = some 8 := by kernel_rfl
@[simp] theorem zero_152 : zeroV Try.prog 152 = some (.nilptr) := by kernel_rfl
attribute [simp] Try.underlying152
end Go.Proofs.Ytpfodignhibjgaa
end
section
namespace Go.Proofs.Ytpfodignhibjgaa
open Go Go.Sim
set_option maxRecDepth 100000
set_option linter.unusedVariables false
set_option linter.unusedSimpArgs false

theorem wpList_append_any {P : Program} (w : World) {ops : Array Oper} {rest : List Oper} {o : Oper} {a : Act} {Q : Exit → Act → World → Prop} (hgd : o.guard = none) (s x : Operand) (t tn : TypeId)
    (ho : o.op = .call { callee := .builtin .append, args := #[s, x], argTypes := #[t, tn] }) (vs vx : Value) (hs : a.eval s = vs) (hx : a.eval x = vx)
    (v' : Value) (w' : World) (hr : (Builtin.append_ #[t, tn] o.type #[vs, vx]).run P w = .ok v' w') (h : wpList P ops Q rest (a.put o.dst v') w') : wpList P ops Q (o :: rest) a w := by
  refine wpList_plain hgd fun K hK' => ?_
  unfold Oper.wp
  simp [execOp, ho, resolve, invoke, builtin, hs, hx, hr, Result.andThen]
  exact hK' _ _ h
theorem clone_nil_32 (w : World) : Calls Try.prog 32 #[.slice none 0 0] w fun e w' => e = .returned (.slice none 0 0) ∧ w' = w := by
  have he := fun w => run_eql_nil2 (P := Try.prog) (t := 22) Try.underlying22 w
  go_enter Try.func32, Try.ntmps32
  go_wp2
  go_ret
  exact ⟨rfl, rfl⟩
theorem clone_some_32 (a : Addr) (n c : Nat) (w w2 : World) (x : Value) (h2 : (Builtin.append_ #[22, 22] 22 #[.slice (some ⟨w.heap.size, 0, none⟩) 0 0, .slice (some a) n c]).run Try.prog (w.alloc (.cells #[] 35 (0, 0))) = .ok x w2) :
    Calls Try.prog 32 #[.slice (some a) n c] w fun e w' => e = .returned x ∧ w' = w2 := by
  have he := fun w => run_eql_nil (P := Try.prog) (t := 22) Try.underlying22 a n c w
  go_enter Try.func32, Try.ntmps32
  go_wp2_with (at_builtin; refine wpList_append_any _ rfl _ _ 22 22 rfl _ _ rfl rfl x w2 h2 ?_)
  go_ret
  exact ⟨rfl, rfl⟩
theorem known_32 : ∀ args h r h', cloneWL 17592186044416 2 args h = some (r, h') → CallS Try.prog (fun _ => true) 32 args h r h' := by
  intro args h r h' hc
  obtain ⟨s, rfl⟩ : ∃ s, args = [s] := by
    unfold cloneWL at hc
    split at hc
    · exact ⟨_, rfl⟩
    · exact ⟨_, rfl⟩
    · cases hc
  intro ok B w args' R hh ha hR
  simp only [VRelL] at ha
  obtain ⟨v, l', rfl, hv, rfl⟩ := ha
  refine callsIn_wide.2 ?_
  have hA := clone_after (P := Try.prog) (t := 22) (e := 35) (ty := 22) (by_ := 8) hh Try.underlying22 size_35 bytes_35 zero_35 (by omega) (by omega) (by omega) rfl hc hv
  rcases hA with ⟨rfl, hA⟩ | ⟨a, n, c, u, w1, x, w2, ok', B', rfl, h1, h2, hA⟩
  · exact (clone_nil_32 w).mono fun e w' ⟨he, hw⟩ => by subst he hw; exact hR _ _ _ _ hA
  · rw [run_build_none (P := Try.prog) Try.underlying22 size_35] at h1
    simp only [Result.ok.injEq] at h1
    obtain ⟨rfl, rfl⟩ := h1
    exact (clone_some_32 a n c w w2 x h2).mono fun e w' ⟨he, hw⟩ => by subst he hw; exact hR _ _ _ _ hA
theorem clone_nil_33 (w : World) : Calls Try.prog 33 #[.slice none 0 0] w fun e w' => e = .returned (.slice none 0 0) ∧ w' = w := by
  have he := fun w => run_eql_nil2 (P := Try.prog) (t := 23) Try.underlying23 w
  go_enter Try.func33, Try.ntmps33
  go_wp2
  go_ret
  exact ⟨rfl, rfl⟩
theorem clone_some_33 (a : Addr) (n c : Nat) (w w2 : World) (x : Value) (h2 : (Builtin.append_ #[23, 23] 23 #[.slice (some ⟨w.heap.size, 0, none⟩) 0 0, .slice (some a) n c]).run Try.prog (w.alloc (.cells #[] 33 (0, 0))) = .ok x w2) :
    Calls Try.prog 33 #[.slice (some a) n c] w fun e w' => e = .returned x ∧ w' = w2 := by
  have he := fun w => run_eql_nil (P := Try.prog) (t := 23) Try.underlying23 a n c w
  go_enter Try.func33, Try.ntmps33
  go_wp2_with (at_builtin; refine wpList_append_any _ rfl _ _ 23 23 rfl _ _ rfl rfl x w2 h2 ?_)
  go_ret
  exact ⟨rfl, rfl⟩
theorem known_33 : ∀ args h r h', cloneWL 35184372088832 1 args h = some (r, h') → CallS Try.prog (fun _ => true) 33 args h r h' := by
  intro args h r h' hc
  obtain ⟨s, rfl⟩ : ∃ s, args = [s] := by
    unfold cloneWL at hc
    split at hc
    · exact ⟨_, rfl⟩
    · exact ⟨_, rfl⟩
    · cases hc
  intro ok B w args' R hh ha hR
  simp only [VRelL] at ha
  obtain ⟨v, l', rfl, hv, rfl⟩ := ha
  refine callsIn_wide.2 ?_
  have hA := clone_after (P := Try.prog) (t := 23) (e := 33) (ty := 23) (by_ := 4) hh Try.underlying23 size_33 bytes_33 zero_33 (by omega) (by omega) (by omega) rfl hc hv
  rcases hA with ⟨rfl, hA⟩ | ⟨a, n, c, u, w1, x, w2, ok', B', rfl, h1, h2, hA⟩
  · exact (clone_nil_33 w).mono fun e w' ⟨he, hw⟩ => by subst he hw; exact hR _ _ _ _ hA
  · rw [run_build_none (P := Try.prog) Try.underlying23 size_33] at h1
    simp only [Result.ok.injEq] at h1
    obtain ⟨rfl, rfl⟩ := h1
    exact (clone_some_33 a n c w w2 x h2).mono fun e w' ⟨he, hw⟩ => by subst he hw; exact hR _ _ _ _ hA
end Go.Proofs.Ytpfodignhibjgaa
end
