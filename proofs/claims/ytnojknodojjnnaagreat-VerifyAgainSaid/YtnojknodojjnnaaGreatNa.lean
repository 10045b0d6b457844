/-
  Facts of the types. Printed by program.
  What the machine of values takes for known of slices.Clone is so. Printed by program.
-/
import Derived.Test.YtnojknodojjnnaaGreatProg
import Derived.Test.YtnojknodojjnnaaGreatMd
import Derived.KernelRfl
import Derived.WalkKit
import Derived.ProofKit
import Derived.OwnWalk
section
namespace Go.Proofs.YtnojknodojjnnaaGreat
open Go Go.Sim
set_option maxRecDepth 100000
set_option linter.unusedVariables false
set_option linter.unusedSimpArgs false
@[simp] theorem agg_0 : isAggV Tryz.prog 0 = some false := by kernel_rfl
@[simp] theorem size_0 : sizeV Tryz.prog 0 = some 1 := by kernel_rfl
@[simp] theorem bytes_0 : bytesV Tryz.prog 0 = some 0 := by kernel_rfl
attribute [simp] Tryz.underlying0
@[simp] theorem agg_1 : isAggV Tryz.prog 1 = some false := by kernel_rfl
@[simp] theorem size_1 : sizeV Tryz.prog 1 = some 1 := by kernel_rfl
@[simp] theorem bytes_1 : bytesV Tryz.prog 1 = some 8 := by kernel_rfl
attribute [simp] Tryz.underlying1
@[simp] theorem agg_2 : isAggV Tryz.prog 2 = some false := by kernel_rfl
@[simp] theorem size_2 : sizeV Tryz.prog 2 = some 1 := by kernel_rfl
@[simp] theorem bytes_2 : bytesV Tryz.prog 2 = some 8 := by kernel_rfl
@[simp] theorem zero_2 : zeroV Tryz.prog 2 = some (.int .i64 0) := by kernel_rfl
attribute [simp] Tryz.underlying2
@[simp] theorem agg_3 : isAggV Tryz.prog 3 = some false := by kernel_rfl
@[simp] theorem size_3 : sizeV Tryz.prog 3 = some 1 := by kernel_rfl
@[simp] theorem bytes_3 : bytesV Tryz.prog 3 = some 8 := by kernel_rfl
@[simp] theorem zero_3 : zeroV Tryz.prog 3 = some (.int .i64 0) := by kernel_rfl
attribute [simp] Tryz.underlying3
@[simp] theorem agg_4 : isAggV Tryz.prog 4 = some false := by kernel_rfl
@[simp] theorem size_4 : sizeV Tryz.prog 4 = some 1 := by kernel_rfl
@[simp] theorem bytes_4 : bytesV Tryz.prog 4 = some 1 := by kernel_rfl
@[simp] theorem zero_4 : zeroV Tryz.prog 4 = some (.bool false) := by kernel_rfl
attribute [simp] Tryz.underlying4
@[simp] theorem agg_5 : isAggV Tryz.prog 5 = some false := by kernel_rfl
@[simp] theorem size_5 : sizeV Tryz.prog 5 = some 1 := by kernel_rfl
@[simp] theorem bytes_5 : bytesV Tryz.prog 5 = some 1 := by kernel_rfl
@[simp] theorem zero_5 : zeroV Tryz.prog 5 = some (.int .u8 0) := by kernel_rfl
attribute [simp] Tryz.underlying5
@[simp] theorem agg_6 : isAggV Tryz.prog 6 = some false := by kernel_rfl
@[simp] theorem size_6 : sizeV Tryz.prog 6 = some 1 := by kernel_rfl
@[simp] theorem bytes_6 : bytesV Tryz.prog 6 = some 1 := by kernel_rfl
@[simp] theorem zero_6 : zeroV Tryz.prog 6 = some (.int .u8 0) := by kernel_rfl
attribute [simp] Tryz.underlying6
@[simp] theorem agg_7 : isAggV Tryz.prog 7 = some true := by kernel_rfl
@[simp] theorem size_7 : sizeV Tryz.prog 7 = some 4 := by kernel_rfl
@[simp] theorem bytes_7 : bytesV Tryz.prog 7 = some 24 := by kernel_rfl
@[simp] theorem zero_7 : zeroV Tryz.prog 7 = some (.agg [.int .i64 0, .int .i64 0, .bool false, .int .u8 0]) := by kernel_rfl
attribute [simp] Tryz.underlying7
@[simp] theorem agg_8 : isAggV Tryz.prog 8 = some true := by kernel_rfl
@[simp] theorem size_8 : sizeV Tryz.prog 8 = some 4 := by kernel_rfl
@[simp] theorem bytes_8 : bytesV Tryz.prog 8 = some 24 := by kernel_rfl
@[simp] theorem zero_8 : zeroV Tryz.prog 8 = some (.agg [.int .i64 0, .int .i64 0, .bool false, .int .u8 0]) := by kernel_rfl
attribute [simp] Tryz.underlying8
@[simp] theorem agg_9 : isAggV Tryz.prog 9 = some false := by kernel_rfl
@[simp] theorem size_9 : sizeV Tryz.prog 9 = some 1 := by kernel_rfl
@[simp] theorem bytes_9 : bytesV Tryz.prog 9 = some 16 := by kernel_rfl
@[simp] theorem zero_9 : zeroV Tryz.prog 9 = some (.str []) := by kernel_rfl
attribute [simp] Tryz.underlying9
@[simp] theorem agg_10 : isAggV Tryz.prog 10 = some false := by kernel_rfl
@[simp] theorem size_10 : sizeV Tryz.prog 10 = some 1 := by kernel_rfl
@[simp] theorem bytes_10 : bytesV Tryz.prog 10 = some 16 := by kernel_rfl
@[simp] theorem zero_10 : zeroV Tryz.prog 10 = some (.str []) := by kernel_rfl
attribute [simp] Tryz.underlying10
@[simp] theorem agg_11 : isAggV Tryz.prog 11 = some false := by kernel_rfl
@[simp] theorem size_11 : sizeV Tryz.prog 11 = some 1 := by kernel_rfl
@[simp] theorem bytes_11 : bytesV Tryz.prog 11 = some 16 := by kernel_rfl
@[simp] theorem zero_11 : zeroV Tryz.prog 11 = some (.str []) := by kernel_rfl
attribute [simp] Tryz.underlying11
@[simp] theorem agg_12 : isAggV Tryz.prog 12 = some false := by kernel_rfl
@[simp] theorem size_12 : sizeV Tryz.prog 12 = some 1 := by kernel_rfl
@[simp] theorem bytes_12 : bytesV Tryz.prog 12 = some 8 := by kernel_rfl
@[simp] theorem zero_12 : zeroV Tryz.prog 12 = some (.int .u64 0) := by kernel_rfl
attribute [simp] Tryz.underlying12
@[simp] theorem agg_13 : isAggV Tryz.prog 13 = some true := by kernel_rfl
@[simp] theorem size_13 : sizeV Tryz.prog 13 = some 2 := by kernel_rfl
@[simp] theorem bytes_13 : bytesV Tryz.prog 13 = some 24 := by kernel_rfl
@[simp] theorem zero_13 : zeroV Tryz.prog 13 = some (.agg [.str [], .int .u64 0]) := by kernel_rfl
attribute [simp] Tryz.underlying13
@[simp] theorem agg_14 : isAggV Tryz.prog 14 = some true := by kernel_rfl
@[simp] theorem size_14 : sizeV Tryz.prog 14 = some 2 := by kernel_rfl
@[simp] theorem bytes_14 : bytesV Tryz.prog 14 = some 24 := by kernel_rfl
@[simp] theorem zero_14 : zeroV Tryz.prog 14 = some (.agg [.str [], .int .u64 0]) := by kernel_rfl
attribute [simp] Tryz.underlying14
@[simp] theorem agg_15 : isAggV Tryz.prog 15 = some false := by kernel_rfl
@[simp] theorem size_15 : sizeV Tryz.prog 15 = some 1 := by kernel_rfl
@[simp] theorem bytes_15 : bytesV Tryz.prog 15 = some 8 := by kernel_rfl
@[simp] theorem zero_15 : zeroV Tryz.prog 15 = some (.nilptr) := by kernel_rfl
attribute [simp] Tryz.underlying15
@[simp] theorem agg_16 : isAggV Tryz.prog 16 = some false := by kernel_rfl
@[simp] theorem size_16 : sizeV Tryz.prog 16 = some 1 := by kernel_rfl
@[simp] theorem bytes_16 : bytesV Tryz.prog 16 = some 8 := by kernel_rfl
@[simp] theorem zero_16 : zeroV Tryz.prog 16 = some (.nilptr) := by kernel_rfl
attribute [simp] Tryz.underlying16
@[simp] theorem agg_17 : isAggV Tryz.prog 17 = some false := by kernel_rfl
@[simp] theorem size_17 : sizeV Tryz.prog 17 = some 1 := by kernel_rfl
@[simp] theorem bytes_17 : bytesV Tryz.prog 17 = some 8 := by kernel_rfl
@[simp] theorem zero_17 : zeroV Tryz.prog 17 = some (.nilptr) := by kernel_rfl
attribute [simp] Tryz.underlying17
@[simp] theorem agg_18 : isAggV Tryz.prog 18 = some true := by kernel_rfl
@[simp] theorem size_18 : sizeV Tryz.prog 18 = some 1 := by kernel_rfl
@[simp] theorem bytes_18 : bytesV Tryz.prog 18 = some 8 := by kernel_rfl
@[simp] theorem zero_18 : zeroV Tryz.prog 18 = some (.agg [.nilptr]) := by kernel_rfl
attribute [simp] Tryz.underlying18
@[simp] theorem agg_19 : isAggV Tryz.prog 19 = some true := by kernel_rfl
@[simp] theorem size_19 : sizeV Tryz.prog 19 = some 1 := by kernel_rfl
@[simp] theorem bytes_19 : bytesV Tryz.prog 19 = some 8 := by kernel_rfl
@[simp] theorem zero_19 : zeroV Tryz.prog 19 = some (.agg [.nilptr]) := by kernel_rfl
attribute [simp] Tryz.underlying19
@[simp] theorem agg_20 : isAggV Tryz.prog 20 = some false := by kernel_rfl
@[simp] theorem size_20 : sizeV Tryz.prog 20 = some 1 := by kernel_rfl
@[simp] theorem bytes_20 : bytesV Tryz.prog 20 = some 16 := by kernel_rfl
attribute [simp] Tryz.underlying20
@[simp] theorem agg_21 : isAggV Tryz.prog 21 = some false := by kernel_rfl
@[simp] theorem size_21 : sizeV Tryz.prog 21 = some 1 := by kernel_rfl
@[simp] theorem bytes_21 : bytesV Tryz.prog 21 = some 4 := by kernel_rfl
@[simp] theorem zero_21 : zeroV Tryz.prog 21 = some (.int .i32 0) := by kernel_rfl
attribute [simp] Tryz.underlying21
@[simp] theorem agg_22 : isAggV Tryz.prog 22 = some false := by kernel_rfl
@[simp] theorem size_22 : sizeV Tryz.prog 22 = some 1 := by kernel_rfl
@[simp] theorem bytes_22 : bytesV Tryz.prog 22 = some 24 := by kernel_rfl
@[simp] theorem zero_22 : zeroV Tryz.prog 22 = some (.nilslice) := by kernel_rfl
attribute [simp] Tryz.underlying22
@[simp] theorem agg_23 : isAggV Tryz.prog 23 = some false := by kernel_rfl
@[simp] theorem size_23 : sizeV Tryz.prog 23 = some 1 := by kernel_rfl
@[simp] theorem bytes_23 : bytesV Tryz.prog 23 = some 24 := by kernel_rfl
@[simp] theorem zero_23 : zeroV Tryz.prog 23 = some (.nilslice) := by kernel_rfl
attribute [simp] Tryz.underlying23
@[simp] theorem agg_24 : isAggV Tryz.prog 24 = some false := by kernel_rfl
@[simp] theorem size_24 : sizeV Tryz.prog 24 = some 1 := by kernel_rfl
@[simp] theorem bytes_24 : bytesV Tryz.prog 24 = some 24 := by kernel_rfl
@[simp] theorem zero_24 : zeroV Tryz.prog 24 = some (.nilslice) := by kernel_rfl
attribute [simp] Tryz.underlying24
@[simp] theorem agg_25 : isAggV Tryz.prog 25 = some false := by kernel_rfl
@[simp] theorem size_25 : sizeV Tryz.prog 25 = some 1 := by kernel_rfl
@[simp] theorem bytes_25 : bytesV Tryz.prog 25 = some 4 := by kernel_rfl
@[simp] theorem zero_25 : zeroV Tryz.prog 25 = some (.int .u32 0) := by kernel_rfl
attribute [simp] Tryz.underlying25
@[simp] theorem agg_26 : isAggV Tryz.prog 26 = some false := by kernel_rfl
@[simp] theorem size_26 : sizeV Tryz.prog 26 = some 1 := by kernel_rfl
@[simp] theorem bytes_26 : bytesV Tryz.prog 26 = some 24 := by kernel_rfl
@[simp] theorem zero_26 : zeroV Tryz.prog 26 = some (.nilslice) := by kernel_rfl
attribute [simp] Tryz.underlying26
@[simp] theorem agg_27 : isAggV Tryz.prog 27 = some true := by kernel_rfl
@[simp] theorem size_27 : sizeV Tryz.prog 27 = some 6 := by kernel_rfl
@[simp] theorem bytes_27 : bytesV Tryz.prog 27 = some 104 := by kernel_rfl
@[simp] theorem zero_27 : zeroV Tryz.prog 27 = some (.agg [.nilslice, .nilslice, .nilslice, .int .u32 0, .int .u32 0, .nilslice]) := by kernel_rfl
attribute [simp] Tryz.underlying27
@[simp] theorem agg_28 : isAggV Tryz.prog 28 = some true := by kernel_rfl
@[simp] theorem size_28 : sizeV Tryz.prog 28 = some 6 := by kernel_rfl
@[simp] theorem bytes_28 : bytesV Tryz.prog 28 = some 104 := by kernel_rfl
@[simp] theorem zero_28 : zeroV Tryz.prog 28 = some (.agg [.nilslice, .nilslice, .nilslice, .int .u32 0, .int .u32 0, .nilslice]) := by kernel_rfl
attribute [simp] Tryz.underlying28
@[simp] theorem agg_29 : isAggV Tryz.prog 29 = some false := by kernel_rfl
@[simp] theorem size_29 : sizeV Tryz.prog 29 = some 1 := by kernel_rfl
@[simp] theorem bytes_29 : bytesV Tryz.prog 29 = some 8 := by kernel_rfl
@[simp] theorem zero_29 : zeroV Tryz.prog 29 = some (.nilptr) := by kernel_rfl
attribute [simp] Tryz.underlying29
@[simp] theorem agg_30 : isAggV Tryz.prog 30 = some false := by kernel_rfl
@[simp] theorem size_30 : sizeV Tryz.prog 30 = some 1 := by kernel_rfl
@[simp] theorem bytes_30 : bytesV Tryz.prog 30 = some 8 := by kernel_rfl
@[simp] theorem zero_30 : zeroV Tryz.prog 30 = some (.int .i64 0) := by kernel_rfl
attribute [simp] Tryz.underlying30
@[simp] theorem agg_31 : isAggV Tryz.prog 31 = some false := by kernel_rfl
@[simp] theorem size_31 : sizeV Tryz.prog 31 = some 1 := by kernel_rfl
@[simp] theorem bytes_31 : bytesV Tryz.prog 31 = some 0 := by kernel_rfl
attribute [simp] Tryz.underlying31
@[simp] theorem agg_32 : isAggV Tryz.prog 32 = some false := by kernel_rfl
@[simp] theorem size_32 : sizeV Tryz.prog 32 = some 1 := by kernel_rfl
@[simp] theorem bytes_32 : bytesV Tryz.prog 32 = some 8 := by kernel_rfl
attribute [simp] Tryz.underlying32
@[simp] theorem agg_33 : isAggV Tryz.prog 33 = some true := by kernel_rfl
@[simp] theorem size_33 : sizeV Tryz.prog 33 = some 10 := by kernel_rfl
@[simp] theorem bytes_33 : bytesV Tryz.prog 33 = some 200 := by kernel_rfl
@[simp] theorem zero_33 : zeroV Tryz.prog 33 = some (.agg [.nilslice, .nilslice, .nilslice, .int .u32 0, .int .u32 0, .nilslice, .nilslice, .nilslice, .nilslice, .nilslice]) := by kernel_rfl
attribute [simp] Tryz.underlying33
@[simp] theorem agg_34 : isAggV Tryz.prog 34 = some true := by kernel_rfl
@[simp] theorem size_34 : sizeV Tryz.prog 34 = some 10 := by kernel_rfl
@[simp] theorem bytes_34 : bytesV Tryz.prog 34 = some 200 := by kernel_rfl
@[simp] theorem zero_34 : zeroV Tryz.prog 34 = some (.agg [.nilslice, .nilslice, .nilslice, .int .u32 0, .int .u32 0, .nilslice, .nilslice, .nilslice, .nilslice, .nilslice]) := by kernel_rfl
attribute [simp] Tryz.underlying34
@[simp] theorem agg_35 : isAggV Tryz.prog 35 = some false := by kernel_rfl
@[simp] theorem size_35 : sizeV Tryz.prog 35 = some 1 := by kernel_rfl
@[simp] theorem bytes_35 : bytesV Tryz.prog 35 = some 8 := by kernel_rfl
attribute [simp] Tryz.underlying35
@[simp] theorem agg_36 : isAggV Tryz.prog 36 = some false := by kernel_rfl
@[simp] theorem size_36 : sizeV Tryz.prog 36 = some 1 := by kernel_rfl
@[simp] theorem bytes_36 : bytesV Tryz.prog 36 = some 8 := by kernel_rfl
attribute [simp] Tryz.underlying36
@[simp] theorem agg_37 : isAggV Tryz.prog 37 = some false := by kernel_rfl
@[simp] theorem size_37 : sizeV Tryz.prog 37 = some 1 := by kernel_rfl
@[simp] theorem bytes_37 : bytesV Tryz.prog 37 = some 24 := by kernel_rfl
@[simp] theorem zero_37 : zeroV Tryz.prog 37 = some (.nilslice) := by kernel_rfl
attribute [simp] Tryz.underlying37
@[simp] theorem agg_38 : isAggV Tryz.prog 38 = some false := by kernel_rfl
@[simp] theorem size_38 : sizeV Tryz.prog 38 = some 1 := by kernel_rfl
@[simp] theorem bytes_38 : bytesV Tryz.prog 38 = some 8 := by kernel_rfl
attribute [simp] Tryz.underlying38
@[simp] theorem agg_39 : isAggV Tryz.prog 39 = some true := by kernel_rfl
@[simp] theorem size_39 : sizeV Tryz.prog 39 = some 4 := by kernel_rfl
@[simp] theorem bytes_39 : bytesV Tryz.prog 39 = some 24 := by kernel_rfl
@[simp] theorem zero_39 : zeroV Tryz.prog 39 = some (.agg [.int .u32 0, .int .u32 0, .int .u32 0, .int .i64 0]) := by kernel_rfl
attribute [simp] Tryz.underlying39
@[simp] theorem agg_40 : isAggV Tryz.prog 40 = some true := by kernel_rfl
@[simp] theorem size_40 : sizeV Tryz.prog 40 = some 4 := by kernel_rfl
@[simp] theorem bytes_40 : bytesV Tryz.prog 40 = some 24 := by kernel_rfl
@[simp] theorem zero_40 : zeroV Tryz.prog 40 = some (.agg [.int .u32 0, .int .u32 0, .int .u32 0, .int .i64 0]) := by kernel_rfl
attribute [simp] Tryz.underlying40
@[simp] theorem agg_41 : isAggV Tryz.prog 41 = some false := by kernel_rfl
@[simp] theorem size_41 : sizeV Tryz.prog 41 = some 1 := by kernel_rfl
@[simp] theorem bytes_41 : bytesV Tryz.prog 41 = some 8 := by kernel_rfl
attribute [simp] Tryz.underlying41
@[simp] theorem agg_42 : isAggV Tryz.prog 42 = some false := by kernel_rfl
@[simp] theorem size_42 : sizeV Tryz.prog 42 = some 1 := by kernel_rfl
@[simp] theorem bytes_42 : bytesV Tryz.prog 42 = some 8 := by kernel_rfl
attribute [simp] Tryz.underlying42
@[simp] theorem agg_43 : isAggV Tryz.prog 43 = some false := by kernel_rfl
@[simp] theorem size_43 : sizeV Tryz.prog 43 = some 1 := by kernel_rfl
@[simp] theorem bytes_43 : bytesV Tryz.prog 43 = some 8 := by kernel_rfl
attribute [simp] Tryz.underlying43
@[simp] theorem agg_44 : isAggV Tryz.prog 44 = some false := by kernel_rfl
@[simp] theorem size_44 : sizeV Tryz.prog 44 = some 1 := by kernel_rfl
@[simp] theorem bytes_44 : bytesV Tryz.prog 44 = some 8 := by kernel_rfl
attribute [simp] Tryz.underlying44
@[simp] theorem agg_45 : isAggV Tryz.prog 45 = some false := by kernel_rfl
@[simp] theorem size_45 : sizeV Tryz.prog 45 = some 1 := by kernel_rfl
@[simp] theorem bytes_45 : bytesV Tryz.prog 45 = some 8 := by kernel_rfl
attribute [simp] Tryz.underlying45
@[simp] theorem agg_46 : isAggV Tryz.prog 46 = some false := by kernel_rfl
@[simp] theorem size_46 : sizeV Tryz.prog 46 = some 1 := by kernel_rfl
@[simp] theorem bytes_46 : bytesV Tryz.prog 46 = some 0 := by kernel_rfl
attribute [simp] Tryz.underlying46
@[simp] theorem agg_47 : isAggV Tryz.prog 47 = some false := by kernel_rfl
@[simp] theorem size_47 : sizeV Tryz.prog 47 = some 1 := by kernel_rfl
@[simp] theorem bytes_47 : bytesV Tryz.prog 47 = some 8 := by kernel_rfl
attribute [simp] Tryz.underlying47
@[simp] theorem agg_48 : isAggV Tryz.prog 48 = some false := by kernel_rfl
@[simp] theorem size_48 : sizeV Tryz.prog 48 = some 1 := by kernel_rfl
@[simp] theorem bytes_48 : bytesV Tryz.prog 48 = some 8 := by kernel_rfl
attribute [simp] Tryz.underlying48
@[simp] theorem agg_49 : isAggV Tryz.prog 49 = some false := by kernel_rfl
@[simp] theorem size_49 : sizeV Tryz.prog 49 = some 1 := by kernel_rfl
@[simp] theorem bytes_49 : bytesV Tryz.prog 49 = some 8 := by kernel_rfl
attribute [simp] Tryz.underlying49
@[simp] theorem agg_50 : isAggV Tryz.prog 50 = some false := by kernel_rfl
@[simp] theorem size_50 : sizeV Tryz.prog 50 = some 1 := by kernel_rfl
@[simp] theorem bytes_50 : bytesV Tryz.prog 50 = some 8 := by kernel_rfl
@[simp] theorem zero_50 : zeroV Tryz.prog 50 = some (.int .u64 0) := by kernel_rfl
attribute [simp] Tryz.underlying50
@[simp] theorem agg_51 : isAggV Tryz.prog 51 = some false := by kernel_rfl
@[simp] theorem size_51 : sizeV Tryz.prog 51 = some 1 := by kernel_rfl
@[simp] theorem bytes_51 : bytesV Tryz.prog 51 = some 8 := by kernel_rfl
attribute [simp] Tryz.underlying51
@[simp] theorem agg_52 : isAggV Tryz.prog 52 = some false := by kernel_rfl
@[simp] theorem size_52 : sizeV Tryz.prog 52 = some 1 := by kernel_rfl
@[simp] theorem bytes_52 : bytesV Tryz.prog 52 = some 1 := by kernel_rfl
@[simp] theorem zero_52 : zeroV Tryz.prog 52 = some (.int .u8 0) := by kernel_rfl
attribute [simp] Tryz.underlying52
@[simp] theorem agg_53 : isAggV Tryz.prog 53 = some true := by kernel_rfl
@[simp] theorem size_53 : sizeV Tryz.prog 53 = some 2 := by kernel_rfl
@[simp] theorem bytes_53 : bytesV Tryz.prog 53 = some 8 := by kernel_rfl
@[simp] theorem zero_53 : zeroV Tryz.prog 53 = some (.agg [.int .u8 0, .int .u32 0]) := by kernel_rfl
attribute [simp] Tryz.underlying53
@[simp] theorem agg_54 : isAggV Tryz.prog 54 = some true := by kernel_rfl
@[simp] theorem size_54 : sizeV Tryz.prog 54 = some 2 := by kernel_rfl
@[simp] theorem bytes_54 : bytesV Tryz.prog 54 = some 8 := by kernel_rfl
@[simp] theorem zero_54 : zeroV Tryz.prog 54 = some (.agg [.int .u8 0, .int .u32 0]) := by kernel_rfl
attribute [simp] Tryz.underlying54
@[simp] theorem agg_55 : isAggV Tryz.prog 55 = some false := by kernel_rfl
@[simp] theorem size_55 : sizeV Tryz.prog 55 = some 1 := by kernel_rfl
@[simp] theorem bytes_55 : bytesV Tryz.prog 55 = some 0 := by kernel_rfl
attribute [simp] Tryz.underlying55
@[simp] theorem agg_56 : isAggV Tryz.prog 56 = some false := by kernel_rfl
@[simp] theorem size_56 : sizeV Tryz.prog 56 = some 1 := by kernel_rfl
@[simp] theorem bytes_56 : bytesV Tryz.prog 56 = some 8 := by kernel_rfl
attribute [simp] Tryz.underlying56
@[simp] theorem agg_57 : isAggV Tryz.prog 57 = some false := by kernel_rfl
@[simp] theorem size_57 : sizeV Tryz.prog 57 = some 1 := by kernel_rfl
@[simp] theorem bytes_57 : bytesV Tryz.prog 57 = some 8 := by kernel_rfl
attribute [simp] Tryz.underlying57
@[simp] theorem agg_58 : isAggV Tryz.prog 58 = some false := by kernel_rfl
@[simp] theorem size_58 : sizeV Tryz.prog 58 = some 1 := by kernel_rfl
@[simp] theorem bytes_58 : bytesV Tryz.prog 58 = some 8 := by kernel_rfl
attribute [simp] Tryz.underlying58
@[simp] theorem agg_59 : isAggV Tryz.prog 59 = some false := by kernel_rfl
@[simp] theorem size_59 : sizeV Tryz.prog 59 = some 1 := by kernel_rfl
@[simp] theorem bytes_59 : bytesV Tryz.prog 59 = some 8 := by kernel_rfl
attribute [simp] Tryz.underlying59
@[simp] theorem agg_60 : isAggV Tryz.prog 60 = some false := by kernel_rfl
@[simp] theorem size_60 : sizeV Tryz.prog 60 = some 1 := by kernel_rfl
@[simp] theorem bytes_60 : bytesV Tryz.prog 60 = some 8 := by kernel_rfl
@[simp] theorem zero_60 : zeroV Tryz.prog 60 = some (.nilptr) := by kernel_rfl
attribute [simp] Tryz.underlying60
@[simp] theorem agg_61 : isAggV Tryz.prog 61 = some false := by kernel_rfl
@[simp] theorem size_61 : sizeV Tryz.prog 61 = some 1 := by kernel_rfl
@[simp] theorem bytes_61 : bytesV Tryz.prog 61 = some 0 := by kernel_rfl
attribute [simp] Tryz.underlying61
@[simp] theorem agg_62 : isAggV Tryz.prog 62 = some false := by kernel_rfl
@[simp] theorem size_62 : sizeV Tryz.prog 62 = some 1 := by kernel_rfl
@[simp] theorem bytes_62 : bytesV Tryz.prog 62 = some 8 := by kernel_rfl
attribute [simp] Tryz.underlying62
@[simp] theorem agg_63 : isAggV Tryz.prog 63 = some false := by kernel_rfl
@[simp] theorem size_63 : sizeV Tryz.prog 63 = some 1 := by kernel_rfl
@[simp] theorem bytes_63 : bytesV Tryz.prog 63 = some 24 := by kernel_rfl
@[simp] theorem zero_63 : zeroV Tryz.prog 63 = some (.nilslice) := by kernel_rfl
attribute [simp] Tryz.underlying63
@[simp] theorem agg_64 : isAggV Tryz.prog 64 = some false := by kernel_rfl
@[simp] theorem size_64 : sizeV Tryz.prog 64 = some 1 := by kernel_rfl
@[simp] theorem bytes_64 : bytesV Tryz.prog 64 = some 0 := by kernel_rfl
attribute [simp] Tryz.underlying64
@[simp] theorem agg_65 : isAggV Tryz.prog 65 = some false := by kernel_rfl
@[simp] theorem size_65 : sizeV Tryz.prog 65 = some 1 := by kernel_rfl
@[simp] theorem bytes_65 : bytesV Tryz.prog 65 = some 8 := by kernel_rfl
attribute [simp] Tryz.underlying65
@[simp] theorem agg_66 : isAggV Tryz.prog 66 = some false := by kernel_rfl
@[simp] theorem size_66 : sizeV Tryz.prog 66 = some 1 := by kernel_rfl
@[simp] theorem bytes_66 : bytesV Tryz.prog 66 = some 8 := by kernel_rfl
@[simp] theorem zero_66 : zeroV Tryz.prog 66 = some (.nilptr) := by kernel_rfl
attribute [simp] Tryz.underlying66
@[simp] theorem agg_67 : isAggV Tryz.prog 67 = some true := by kernel_rfl
@[simp] theorem size_67 : sizeV Tryz.prog 67 = some 2 := by kernel_rfl
@[simp] theorem bytes_67 : bytesV Tryz.prog 67 = some 32 := by kernel_rfl
@[simp] theorem zero_67 : zeroV Tryz.prog 67 = some (.agg [.nilptr, .nilslice]) := by kernel_rfl
attribute [simp] Tryz.underlying67
@[simp] theorem agg_68 : isAggV Tryz.prog 68 = some true := by kernel_rfl
@[simp] theorem size_68 : sizeV Tryz.prog 68 = some 2 := by kernel_rfl
@[simp] theorem bytes_68 : bytesV Tryz.prog 68 = some 32 := by kernel_rfl
@[simp] theorem zero_68 : zeroV Tryz.prog 68 = some (.agg [.nilptr, .nilslice]) := by kernel_rfl
attribute [simp] Tryz.underlying68
@[simp] theorem agg_69 : isAggV Tryz.prog 69 = some true := by kernel_rfl
@[simp] theorem size_69 : sizeV Tryz.prog 69 = some 2 := by kernel_rfl
@[simp] theorem bytes_69 : bytesV Tryz.prog 69 = some 48 := by kernel_rfl
@[simp] theorem zero_69 : zeroV Tryz.prog 69 = some (.agg [.nilslice, .nilslice]) := by kernel_rfl
attribute [simp] Tryz.underlying69
@[simp] theorem agg_70 : isAggV Tryz.prog 70 = some true := by kernel_rfl
@[simp] theorem size_70 : sizeV Tryz.prog 70 = some 2 := by kernel_rfl
@[simp] theorem bytes_70 : bytesV Tryz.prog 70 = some 48 := by kernel_rfl
@[simp] theorem zero_70 : zeroV Tryz.prog 70 = some (.agg [.nilslice, .nilslice]) := by kernel_rfl
attribute [simp] Tryz.underlying70
@[simp] theorem agg_71 : isAggV Tryz.prog 71 = some true := by kernel_rfl
@[simp] theorem size_71 : sizeV Tryz.prog 71 = some 12 := by kernel_rfl
@[simp] theorem bytes_71 : bytesV Tryz.prog 71 = some 200 := by kernel_rfl
attribute [simp] Tryz.underlying71
@[simp] theorem agg_72 : isAggV Tryz.prog 72 = some true := by kernel_rfl
@[simp] theorem size_72 : sizeV Tryz.prog 72 = some 12 := by kernel_rfl
@[simp] theorem bytes_72 : bytesV Tryz.prog 72 = some 200 := by kernel_rfl
attribute [simp] Tryz.underlying72
@[simp] theorem agg_73 : isAggV Tryz.prog 73 = some false := by kernel_rfl
@[simp] theorem size_73 : sizeV Tryz.prog 73 = some 1 := by kernel_rfl
@[simp] theorem bytes_73 : bytesV Tryz.prog 73 = some 0 := by kernel_rfl
attribute [simp] Tryz.underlying73
@[simp] theorem agg_74 : isAggV Tryz.prog 74 = some false := by kernel_rfl
@[simp] theorem size_74 : sizeV Tryz.prog 74 = some 1 := by kernel_rfl
@[simp] theorem bytes_74 : bytesV Tryz.prog 74 = some 8 := by kernel_rfl
attribute [simp] Tryz.underlying74
@[simp] theorem agg_75 : isAggV Tryz.prog 75 = some false := by kernel_rfl
@[simp] theorem size_75 : sizeV Tryz.prog 75 = some 1 := by kernel_rfl
@[simp] theorem bytes_75 : bytesV Tryz.prog 75 = some 8 := by kernel_rfl
attribute [simp] Tryz.underlying75
@[simp] theorem agg_76 : isAggV Tryz.prog 76 = some false := by kernel_rfl
@[simp] theorem size_76 : sizeV Tryz.prog 76 = some 1 := by kernel_rfl
@[simp] theorem bytes_76 : bytesV Tryz.prog 76 = some 8 := by kernel_rfl
@[simp] theorem zero_76 : zeroV Tryz.prog 76 = some (.int .u64 0) := by kernel_rfl
attribute [simp] Tryz.underlying76
@[simp] theorem agg_77 : isAggV Tryz.prog 77 = some true := by kernel_rfl
@[simp] theorem size_77 : sizeV Tryz.prog 77 = some 1 := by kernel_rfl
@[simp] theorem bytes_77 : bytesV Tryz.prog 77 = some 8 := by kernel_rfl
@[simp] theorem zero_77 : zeroV Tryz.prog 77 = some (.agg [.nilptr]) := by kernel_rfl
attribute [simp] Tryz.underlying77
@[simp] theorem agg_78 : isAggV Tryz.prog 78 = some true := by kernel_rfl
@[simp] theorem size_78 : sizeV Tryz.prog 78 = some 1 := by kernel_rfl
@[simp] theorem bytes_78 : bytesV Tryz.prog 78 = some 8 := by kernel_rfl
@[simp] theorem zero_78 : zeroV Tryz.prog 78 = some (.agg [.nilptr]) := by kernel_rfl
attribute [simp] Tryz.underlying78
@[simp] theorem agg_79 : isAggV Tryz.prog 79 = some false := by kernel_rfl
@[simp] theorem size_79 : sizeV Tryz.prog 79 = some 1 := by kernel_rfl
@[simp] theorem bytes_79 : bytesV Tryz.prog 79 = some 8 := by kernel_rfl
attribute [simp] Tryz.underlying79
@[simp] theorem agg_80 : isAggV Tryz.prog 80 = some false := by kernel_rfl
@[simp] theorem size_80 : sizeV Tryz.prog 80 = some 1 := by kernel_rfl
@[simp] theorem bytes_80 : bytesV Tryz.prog 80 = some 8 := by kernel_rfl
attribute [simp] Tryz.underlying80
@[simp] theorem agg_81 : isAggV Tryz.prog 81 = some false := by kernel_rfl
@[simp] theorem size_81 : sizeV Tryz.prog 81 = some 1 := by kernel_rfl
@[simp] theorem bytes_81 : bytesV Tryz.prog 81 = some 8 := by kernel_rfl
attribute [simp] Tryz.underlying81
@[simp] theorem agg_82 : isAggV Tryz.prog 82 = some true := by kernel_rfl
@[simp] theorem size_82 : sizeV Tryz.prog 82 = some 2 := by kernel_rfl
@[simp] theorem bytes_82 : bytesV Tryz.prog 82 = some 24 := by kernel_rfl
@[simp] theorem zero_82 : zeroV Tryz.prog 82 = some (.agg [.str [], .int .u32 0]) := by kernel_rfl
attribute [simp] Tryz.underlying82
@[simp] theorem agg_83 : isAggV Tryz.prog 83 = some true := by kernel_rfl
@[simp] theorem size_83 : sizeV Tryz.prog 83 = some 2 := by kernel_rfl
@[simp] theorem bytes_83 : bytesV Tryz.prog 83 = some 24 := by kernel_rfl
@[simp] theorem zero_83 : zeroV Tryz.prog 83 = some (.agg [.str [], .int .u32 0]) := by kernel_rfl
attribute [simp] Tryz.underlying83
@[simp] theorem agg_84 : isAggV Tryz.prog 84 = some false := by kernel_rfl
@[simp] theorem size_84 : sizeV Tryz.prog 84 = some 1 := by kernel_rfl
@[simp] theorem bytes_84 : bytesV Tryz.prog 84 = some 8 := by kernel_rfl
attribute [simp] Tryz.underlying84
@[simp] theorem agg_85 : isAggV Tryz.prog 85 = some false := by kernel_rfl
@[simp] theorem size_85 : sizeV Tryz.prog 85 = some 1 := by kernel_rfl
@[simp] theorem bytes_85 : bytesV Tryz.prog 85 = some 0 := by kernel_rfl
attribute [simp] Tryz.underlying85
@[simp] theorem agg_86 : isAggV Tryz.prog 86 = some false := by kernel_rfl
@[simp] theorem size_86 : sizeV Tryz.prog 86 = some 1 := by kernel_rfl
@[simp] theorem bytes_86 : bytesV Tryz.prog 86 = some 8 := by kernel_rfl
attribute [simp] Tryz.underlying86
@[simp] theorem agg_87 : isAggV Tryz.prog 87 = some false := by kernel_rfl
@[simp] theorem size_87 : sizeV Tryz.prog 87 = some 1 := by kernel_rfl
@[simp] theorem bytes_87 : bytesV Tryz.prog 87 = some 1 := by kernel_rfl
@[simp] theorem zero_87 : zeroV Tryz.prog 87 = some (.int .u8 0) := by kernel_rfl
attribute [simp] Tryz.underlying87
@[simp] theorem agg_88 : isAggV Tryz.prog 88 = some true := by kernel_rfl
@[simp] theorem size_88 : sizeV Tryz.prog 88 = some 6 := by kernel_rfl
@[simp] theorem bytes_88 : bytesV Tryz.prog 88 = some 56 := by kernel_rfl
@[simp] theorem zero_88 : zeroV Tryz.prog 88 = some (.agg [.str [], .int .i64 0, .int .u32 0, .int .i64 0, .int .i64 0, .int .u8 0]) := by kernel_rfl
attribute [simp] Tryz.underlying88
@[simp] theorem agg_89 : isAggV Tryz.prog 89 = some true := by kernel_rfl
@[simp] theorem size_89 : sizeV Tryz.prog 89 = some 6 := by kernel_rfl
@[simp] theorem bytes_89 : bytesV Tryz.prog 89 = some 56 := by kernel_rfl
@[simp] theorem zero_89 : zeroV Tryz.prog 89 = some (.agg [.str [], .int .i64 0, .int .u32 0, .int .i64 0, .int .i64 0, .int .u8 0]) := by kernel_rfl
attribute [simp] Tryz.underlying89
@[simp] theorem agg_90 : isAggV Tryz.prog 90 = some false := by kernel_rfl
@[simp] theorem size_90 : sizeV Tryz.prog 90 = some 1 := by kernel_rfl
@[simp] theorem bytes_90 : bytesV Tryz.prog 90 = some 0 := by kernel_rfl
attribute [simp] Tryz.underlying90
@[simp] theorem agg_91 : isAggV Tryz.prog 91 = some false := by kernel_rfl
@[simp] theorem size_91 : sizeV Tryz.prog 91 = some 1 := by kernel_rfl
@[simp] theorem bytes_91 : bytesV Tryz.prog 91 = some 8 := by kernel_rfl
attribute [simp] Tryz.underlying91
@[simp] theorem agg_92 : isAggV Tryz.prog 92 = some false := by kernel_rfl
@[simp] theorem size_92 : sizeV Tryz.prog 92 = some 1 := by kernel_rfl
@[simp] theorem bytes_92 : bytesV Tryz.prog 92 = some 8 := by kernel_rfl
attribute [simp] Tryz.underlying92
@[simp] theorem agg_93 : isAggV Tryz.prog 93 = some false := by kernel_rfl
@[simp] theorem size_93 : sizeV Tryz.prog 93 = some 1 := by kernel_rfl
@[simp] theorem bytes_93 : bytesV Tryz.prog 93 = some 8 := by kernel_rfl
attribute [simp] Tryz.underlying93
@[simp] theorem agg_94 : isAggV Tryz.prog 94 = some false := by kernel_rfl
@[simp] theorem size_94 : sizeV Tryz.prog 94 = some 1 := by kernel_rfl
@[simp] theorem bytes_94 : bytesV Tryz.prog 94 = some 0 := by kernel_rfl
attribute [simp] Tryz.underlying94
@[simp] theorem agg_95 : isAggV Tryz.prog 95 = some false := by kernel_rfl
@[simp] theorem size_95 : sizeV Tryz.prog 95 = some 1 := by kernel_rfl
@[simp] theorem bytes_95 : bytesV Tryz.prog 95 = some 8 := by kernel_rfl
attribute [simp] Tryz.underlying95
@[simp] theorem agg_96 : isAggV Tryz.prog 96 = some false := by kernel_rfl
@[simp] theorem size_96 : sizeV Tryz.prog 96 = some 1 := by kernel_rfl
@[simp] theorem bytes_96 : bytesV Tryz.prog 96 = some 8 := by kernel_rfl
attribute [simp] Tryz.underlying96
@[simp] theorem agg_97 : isAggV Tryz.prog 97 = some false := by kernel_rfl
@[simp] theorem size_97 : sizeV Tryz.prog 97 = some 1 := by kernel_rfl
@[simp] theorem bytes_97 : bytesV Tryz.prog 97 = some 8 := by kernel_rfl
attribute [simp] Tryz.underlying97
@[simp] theorem agg_98 : isAggV Tryz.prog 98 = some false := by kernel_rfl
@[simp] theorem size_98 : sizeV Tryz.prog 98 = some 1 := by kernel_rfl
@[simp] theorem bytes_98 : bytesV Tryz.prog 98 = some 8 := by kernel_rfl
attribute [simp] Tryz.underlying98
@[simp] theorem agg_99 : isAggV Tryz.prog 99 = some false := by kernel_rfl
@[simp] theorem size_99 : sizeV Tryz.prog 99 = some 1 := by kernel_rfl
@[simp] theorem bytes_99 : bytesV Tryz.prog 99 = some 24 := by kernel_rfl
@[simp] theorem zero_99 : zeroV Tryz.prog 99 = some (.nilslice) := by kernel_rfl
attribute [simp] Tryz.underlying99
@[simp] theorem agg_100 : isAggV Tryz.prog 100 = some false := by kernel_rfl
@[simp] theorem size_100 : sizeV Tryz.prog 100 = some 1 := by kernel_rfl
@[simp] theorem bytes_100 : bytesV Tryz.prog 100 = some 24 := by kernel_rfl
@[simp] theorem zero_100 : zeroV Tryz.prog 100 = some (.nilslice) := by kernel_rfl
attribute [simp] Tryz.underlying100
@[simp] theorem agg_101 : isAggV Tryz.prog 101 = some false := by kernel_rfl
@[simp] theorem size_101 : sizeV Tryz.prog 101 = some 1 := by kernel_rfl
@[simp] theorem bytes_101 : bytesV Tryz.prog 101 = some 0 := by kernel_rfl
attribute [simp] Tryz.underlying101
@[simp] theorem agg_102 : isAggV Tryz.prog 102 = some false := by kernel_rfl
@[simp] theorem size_102 : sizeV Tryz.prog 102 = some 1 := by kernel_rfl
@[simp] theorem bytes_102 : bytesV Tryz.prog 102 = some 8 := by kernel_rfl
attribute [simp] Tryz.underlying102
@[simp] theorem agg_103 : isAggV Tryz.prog 103 = some true := by kernel_rfl
@[simp] theorem size_103 : sizeV Tryz.prog 103 = some 2 := by kernel_rfl
@[simp] theorem bytes_103 : bytesV Tryz.prog 103 = some 8 := by kernel_rfl
@[simp] theorem zero_103 : zeroV Tryz.prog 103 = some (.agg [.int .u32 0, .int .u32 0]) := by kernel_rfl
attribute [simp] Tryz.underlying103
@[simp] theorem agg_104 : isAggV Tryz.prog 104 = some true := by kernel_rfl
@[simp] theorem size_104 : sizeV Tryz.prog 104 = some 2 := by kernel_rfl
@[simp] theorem bytes_104 : bytesV Tryz.prog 104 = some 8 := by kernel_rfl
@[simp] theorem zero_104 : zeroV Tryz.prog 104 = some (.agg [.int .u32 0, .int .u32 0]) := by kernel_rfl
attribute [simp] Tryz.underlying104
@[simp] theorem agg_105 : isAggV Tryz.prog 105 = some false := by kernel_rfl
@[simp] theorem size_105 : sizeV Tryz.prog 105 = some 1 := by kernel_rfl
@[simp] theorem bytes_105 : bytesV Tryz.prog 105 = some 0 := by kernel_rfl
attribute [simp] Tryz.underlying105
@[simp] theorem agg_106 : isAggV Tryz.prog 106 = some false := by kernel_rfl
@[simp] theorem size_106 : sizeV Tryz.prog 106 = some 1 := by kernel_rfl
@[simp] theorem bytes_106 : bytesV Tryz.prog 106 = some 8 := by kernel_rfl
attribute [simp] Tryz.underlying106
@[simp] theorem agg_107 : isAggV Tryz.prog 107 = some false := by kernel_rfl
@[simp] theorem size_107 : sizeV Tryz.prog 107 = some 1 := by kernel_rfl
@[simp] theorem bytes_107 : bytesV Tryz.prog 107 = some 8 := by kernel_rfl
attribute [simp] Tryz.underlying107
@[simp] theorem agg_108 : isAggV Tryz.prog 108 = some false := by kernel_rfl
@[simp] theorem size_108 : sizeV Tryz.prog 108 = some 1 := by kernel_rfl
@[simp] theorem bytes_108 : bytesV Tryz.prog 108 = some 8 := by kernel_rfl
attribute [simp] Tryz.underlying108
@[simp] theorem agg_109 : isAggV Tryz.prog 109 = some false := by kernel_rfl
@[simp] theorem size_109 : sizeV Tryz.prog 109 = some 1 := by kernel_rfl
@[simp] theorem bytes_109 : bytesV Tryz.prog 109 = some 8 := by kernel_rfl
attribute [simp] Tryz.underlying109
@[simp] theorem agg_110 : isAggV Tryz.prog 110 = some false := by kernel_rfl
@[simp] theorem size_110 : sizeV Tryz.prog 110 = some 1 := by kernel_rfl
@[simp] theorem bytes_110 : bytesV Tryz.prog 110 = some 8 := by kernel_rfl
attribute [simp] Tryz.underlying110
@[simp] theorem agg_111 : isAggV Tryz.prog 111 = some false := by kernel_rfl
@[simp] theorem size_111 : sizeV Tryz.prog 111 = some 1 := by kernel_rfl
@[simp] theorem bytes_111 : bytesV Tryz.prog 111 = some 8 := by kernel_rfl
attribute [simp] Tryz.underlying111
@[simp] theorem agg_112 : isAggV Tryz.prog 112 = some false := by kernel_rfl
@[simp] theorem size_112 : sizeV Tryz.prog 112 = some 1 := by kernel_rfl
@[simp] theorem bytes_112 : bytesV Tryz.prog 112 = some 8 := by kernel_rfl
attribute [simp] Tryz.underlying112
@[simp] theorem agg_113 : isAggV Tryz.prog 113 = some false := by kernel_rfl
@[simp] theorem size_113 : sizeV Tryz.prog 113 = some 1 := by kernel_rfl
@[simp] theorem bytes_113 : bytesV Tryz.prog 113 = some 24 := by kernel_rfl
@[simp] theorem zero_113 : zeroV Tryz.prog 113 = some (.nilslice) := by kernel_rfl
attribute [simp] Tryz.underlying113
@[simp] theorem agg_114 : isAggV Tryz.prog 114 = some true := by kernel_rfl
@[simp] theorem size_114 : sizeV Tryz.prog 114 = some 3 := by kernel_rfl
@[simp] theorem bytes_114 : bytesV Tryz.prog 114 = some 72 := by kernel_rfl
@[simp] theorem zero_114 : zeroV Tryz.prog 114 = some (.agg [.nilslice, .nilslice, .nilslice]) := by kernel_rfl
attribute [simp] Tryz.underlying114
@[simp] theorem agg_115 : isAggV Tryz.prog 115 = some true := by kernel_rfl
@[simp] theorem size_115 : sizeV Tryz.prog 115 = some 3 := by kernel_rfl
@[simp] theorem bytes_115 : bytesV Tryz.prog 115 = some 72 := by kernel_rfl
@[simp] theorem zero_115 : zeroV Tryz.prog 115 = some (.agg [.nilslice, .nilslice, .nilslice]) := by kernel_rfl
attribute [simp] Tryz.underlying115
@[simp] theorem agg_116 : isAggV Tryz.prog 116 = some false := by kernel_rfl
@[simp] theorem size_116 : sizeV Tryz.prog 116 = some 1 := by kernel_rfl
@[simp] theorem bytes_116 : bytesV Tryz.prog 116 = some 8 := by kernel_rfl
attribute [simp] Tryz.underlying116
@[simp] theorem agg_117 : isAggV Tryz.prog 117 = some false := by kernel_rfl
@[simp] theorem size_117 : sizeV Tryz.prog 117 = some 1 := by kernel_rfl
@[simp] theorem bytes_117 : bytesV Tryz.prog 117 = some 8 := by kernel_rfl
@[simp] theorem zero_117 : zeroV Tryz.prog 117 = some (.nilptr) := by kernel_rfl
attribute [simp] Tryz.underlying117
@[simp] theorem agg_118 : isAggV Tryz.prog 118 = some false := by kernel_rfl
@[simp] theorem size_118 : sizeV Tryz.prog 118 = some 1 := by kernel_rfl
@[simp] theorem bytes_118 : bytesV Tryz.prog 118 = some 0 := by kernel_rfl
attribute [simp] Tryz.underlying118
@[simp] theorem agg_119 : isAggV Tryz.prog 119 = some false := by kernel_rfl
@[simp] theorem size_119 : sizeV Tryz.prog 119 = some 1 := by kernel_rfl
@[simp] theorem bytes_119 : bytesV Tryz.prog 119 = some 8 := by kernel_rfl
attribute [simp] Tryz.underlying119
@[simp] theorem agg_120 : isAggV Tryz.prog 120 = some false := by kernel_rfl
@[simp] theorem size_120 : sizeV Tryz.prog 120 = some 1 := by kernel_rfl
@[simp] theorem bytes_120 : bytesV Tryz.prog 120 = some 8 := by kernel_rfl
attribute [simp] Tryz.underlying120
@[simp] theorem agg_121 : isAggV Tryz.prog 121 = some false := by kernel_rfl
@[simp] theorem size_121 : sizeV Tryz.prog 121 = some 1 := by kernel_rfl
@[simp] theorem bytes_121 : bytesV Tryz.prog 121 = some 8 := by kernel_rfl
attribute [simp] Tryz.underlying121
@[simp] theorem agg_122 : isAggV Tryz.prog 122 = some false := by kernel_rfl
@[simp] theorem size_122 : sizeV Tryz.prog 122 = some 1 := by kernel_rfl
@[simp] theorem bytes_122 : bytesV Tryz.prog 122 = some 8 := by kernel_rfl
attribute [simp] Tryz.underlying122
@[simp] theorem agg_123 : isAggV Tryz.prog 123 = some false := by kernel_rfl
@[simp] theorem size_123 : sizeV Tryz.prog 123 = some 1 := by kernel_rfl
@[simp] theorem bytes_123 : bytesV Tryz.prog 123 = some 8 := by kernel_rfl
attribute [simp] Tryz.underlying123
@[simp] theorem agg_124 : isAggV Tryz.prog 124 = some false := by kernel_rfl
@[simp] theorem size_124 : sizeV Tryz.prog 124 = some 1 := by kernel_rfl
@[simp] theorem bytes_124 : bytesV Tryz.prog 124 = some 8 := by kernel_rfl
attribute [simp] Tryz.underlying124
@[simp] theorem agg_125 : isAggV Tryz.prog 125 = some true := by kernel_rfl
@[simp] theorem size_125 : sizeV Tryz.prog 125 = some 360 := by kernel_rfl
@[simp] theorem bytes_125 : bytesV Tryz.prog 125 = some 3360 := by kernel_rfl
attribute [simp] Tryz.underlying125
@[simp] theorem agg_126 : isAggV Tryz.prog 126 = some false := by kernel_rfl
@[simp] theorem size_126 : sizeV Tryz.prog 126 = some 1 := by kernel_rfl
@[simp] theorem bytes_126 : bytesV Tryz.prog 126 = some 8 := by kernel_rfl
attribute [simp] Tryz.underlying126
@[simp] theorem agg_127 : isAggV Tryz.prog 127 = some false := by kernel_rfl
@[simp] theorem size_127 : sizeV Tryz.prog 127 = some 1 := by kernel_rfl
@[simp] theorem bytes_127 : bytesV Tryz.prog 127 = some 8 := by kernel_rfl
attribute [simp] Tryz.underlying127
@[simp] theorem agg_128 : isAggV Tryz.prog 128 = some false := by kernel_rfl
@[simp] theorem size_128 : sizeV Tryz.prog 128 = some 1 := by kernel_rfl
@[simp] theorem bytes_128 : bytesV Tryz.prog 128 = some 8 := by kernel_rfl
attribute [simp] Tryz.underlying128
@[simp] theorem agg_129 : isAggV Tryz.prog 129 = some false := by kernel_rfl
@[simp] theorem size_129 : sizeV Tryz.prog 129 = some 1 := by kernel_rfl
@[simp] theorem bytes_129 : bytesV Tryz.prog 129 = some 8 := by kernel_rfl
attribute [simp] Tryz.underlying129
@[simp] theorem agg_130 : isAggV Tryz.prog 130 = some false := by kernel_rfl
@[simp] theorem size_130 : sizeV Tryz.prog 130 = some 1 := by kernel_rfl
@[simp] theorem bytes_130 : bytesV Tryz.prog 130 = some 8 := by kernel_rfl
attribute [simp] Tryz.underlying130
@[simp] theorem agg_131 : isAggV Tryz.prog 131 = some false := by kernel_rfl
@[simp] theorem size_131 : sizeV Tryz.prog 131 = some 1 := by kernel_rfl
@[simp] theorem bytes_131 : bytesV Tryz.prog 131 = some 8 := by kernel_rfl
attribute [simp] Tryz.underlying131
@[simp] theorem agg_132 : isAggV Tryz.prog 132 = some false := by kernel_rfl
@[simp] theorem size_132 : sizeV Tryz.prog 132 = some 1 := by kernel_rfl
@[simp] theorem bytes_132 : bytesV Tryz.prog 132 = some 8 := by kernel_rfl
attribute [simp] Tryz.underlying132
@[simp] theorem agg_133 : isAggV Tryz.prog 133 = some false := by kernel_rfl
@[simp] theorem size_133 : sizeV Tryz.prog 133 = some 1 := by kernel_rfl
@[simp] theorem bytes_133 : bytesV Tryz.prog 133 = some 8 := by kernel_rfl
attribute [simp] Tryz.underlying133
@[simp] theorem agg_134 : isAggV Tryz.prog 134 = some false := by kernel_rfl
@[simp] theorem size_134 : sizeV Tryz.prog 134 = some 1 := by kernel_rfl
@[simp] theorem bytes_134 : bytesV Tryz.prog 134 = some 8 := by kernel_rfl
attribute [simp] Tryz.underlying134
@[simp] theorem agg_135 : isAggV Tryz.prog 135 = some false := by kernel_rfl
@[simp] theorem size_135 : sizeV Tryz.prog 135 = some 1 := by kernel_rfl
@[simp] theorem bytes_135 : bytesV Tryz.prog 135 = some 8 := by kernel_rfl
attribute [simp] Tryz.underlying135
@[simp] theorem agg_136 : isAggV Tryz.prog 136 = some false := by kernel_rfl
@[simp] theorem size_136 : sizeV Tryz.prog 136 = some 1 := by kernel_rfl
@[simp] theorem bytes_136 : bytesV Tryz.prog 136 = some 0 := by kernel_rfl
attribute [simp] Tryz.underlying136
@[simp] theorem agg_137 : isAggV Tryz.prog 137 = some false := by kernel_rfl
@[simp] theorem size_137 : sizeV Tryz.prog 137 = some 1 := by kernel_rfl
@[simp] theorem bytes_137 : bytesV Tryz.prog 137 = some 8 := by kernel_rfl
attribute [simp] Tryz.underlying137
@[simp] theorem agg_138 : isAggV Tryz.prog 138 = some false := by kernel_rfl
@[simp] theorem size_138 : sizeV Tryz.prog 138 = some 1 := by kernel_rfl
@[simp] theorem bytes_138 : bytesV Tryz.prog 138 = some 8 := by kernel_rfl
attribute [simp] Tryz.underlying138
@[simp] theorem agg_139 : isAggV Tryz.prog 139 = some false := by kernel_rfl
@[simp] theorem size_139 : sizeV Tryz.prog 139 = some 1 := by kernel_rfl
@[simp] theorem bytes_139 : bytesV Tryz.prog 139 = some 0 := by kernel_rfl
attribute [simp] Tryz.underlying139
@[simp] theorem agg_140 : isAggV Tryz.prog 140 = some false := by kernel_rfl
@[simp] theorem size_140 : sizeV Tryz.prog 140 = some 1 := by kernel_rfl
@[simp] theorem bytes_140 : bytesV Tryz.prog 140 = some 8 := by kernel_rfl
attribute [simp] Tryz.underlying140
@[simp] theorem agg_141 : isAggV Tryz.prog 141 = some true := by kernel_rfl
@[simp] theorem size_141 : sizeV Tryz.prog 141 = some 4 := by kernel_rfl
@[simp] theorem bytes_141 : bytesV Tryz.prog 141 = some 32 := by kernel_rfl
@[simp] theorem zero_141 : zeroV Tryz.prog 141 = some (.agg [.int .i64 0, .int .i64 0, .int .i64 0, .int .i64 0]) := by kernel_rfl
attribute [simp] Tryz.underlying141
@[simp] theorem agg_142 : isAggV Tryz.prog 142 = some false := by kernel_rfl
@[simp] theorem size_142 : sizeV Tryz.prog 142 = some 1 := by kernel_rfl
@[simp] theorem bytes_142 : bytesV Tryz.prog 142 = some 8 := by kernel_rfl
attribute [simp] Tryz.underlying142
@[simp] theorem agg_143 : isAggV Tryz.prog 143 = some false := by kernel_rfl
@[simp] theorem size_143 : sizeV Tryz.prog 143 = some 1 := by kernel_rfl
@[simp] theorem bytes_143 : bytesV Tryz.prog 143 = some 0 := by kernel_rfl
attribute [simp] Tryz.underlying143
@[simp] theorem agg_144 : isAggV Tryz.prog 144 = some false := by kernel_rfl
@[simp] theorem size_144 : sizeV Tryz.prog 144 = some 1 := by kernel_rfl
@[simp] theorem bytes_144 : bytesV Tryz.prog 144 = some 8 := by kernel_rfl
attribute [simp] Tryz.underlying144
@[simp] theorem agg_145 : isAggV Tryz.prog 145 = some false := by kernel_rfl
@[simp] theorem size_145 : sizeV Tryz.prog 145 = some 1 := by kernel_rfl
@[simp] theorem bytes_145 : bytesV Tryz.prog 145 = some 8 := by kernel_rfl
attribute [simp] Tryz.underlying145
@[simp] theorem agg_146 : isAggV Tryz.prog 146 = some false := by kernel_rfl
@[simp] theorem size_146 : sizeV Tryz.prog 146 = some 1 := by kernel_rfl
@[simp] theorem bytes_146 : bytesV Tryz.prog 146 = some 8 := by kernel_rfl
attribute [simp] Tryz.underlying146
@[simp] theorem agg_147 : isAggV Tryz.prog 147 = some true := by kernel_rfl
@[simp] theorem size_147 : sizeV Tryz.prog 147 = some 3 := by kernel_rfl
@[simp] theorem bytes_147 : bytesV Tryz.prog 147 = some 56 := by kernel_rfl
@[simp] theorem zero_147 : zeroV Tryz.prog 147 = some (.agg [.nilslice, .nilslice, .nilptr]) := by kernel_rfl
attribute [simp] Tryz.underlying147
@[simp] theorem agg_148 : isAggV Tryz.prog 148 = some true := by kernel_rfl
@[simp] theorem size_148 : sizeV Tryz.prog 148 = some 3 := by kernel_rfl
@[simp] theorem bytes_148 : bytesV Tryz.prog 148 = some 56 := by kernel_rfl
@[simp] theorem zero_148 : zeroV Tryz.prog 148 = some (.agg [.nilslice, .nilslice, .nilptr]) := by kernel_rfl
attribute [simp] Tryz.underlying148
@[simp] theorem agg_149 : isAggV Tryz.prog 149 = some false := by kernel_rfl
@[simp] theorem size_149 : sizeV Tryz.prog 149 = some 1 := by kernel_rfl
@[simp] theorem bytes_149 : bytesV Tryz.prog 149 = some 8 := by kernel_rfl
attribute [simp] Tryz.underlying149
@[simp] theorem agg_150 : isAggV Tryz.prog 150 = some false := by kernel_rfl
@[simp] theorem size_150 : sizeV Tryz.prog 150 = some 1 := by kernel_rfl
@[simp] theorem bytes_150 : bytesV Tryz.prog 150 = some 8 := by kernel_rfl
attribute [simp] Tryz.underlying150
@[simp] theorem agg_151 : isAggV Tryz.prog 151 = some false := by kernel_rfl
@[simp] theorem size_151 : sizeV Tryz.prog 151 = some 1 := by kernel_rfl
@[simp] theorem bytes_151 : bytesV Tryz.prog 151 = some 8 := by kernel_rfl
attribute [simp] Tryz.underlying151
@[simp] theorem agg_152 : isAggV Tryz.prog 152 = some false := by kernel_rfl
@[simp] theorem size_152 : sizeV Tryz.prog 152 = some 1 := by kernel_rfl
@[simp] theorem bytes_152 : bytesV Tryz.prog 152 = some 8 := by kernel_rfl
attribute [simp] Tryz.underlying152
@[simp] theorem agg_153 : isAggV Tryz.prog 153 = some false := by kernel_rfl
@[simp] theorem size_153 : sizeV Tryz.prog 153 = some 1 := by kernel_rfl
@[simp] theorem bytes_153 : bytesV Tryz.prog 153 = some 0 := by kernel_rfl
attribute [simp] Tryz.underlying153
@[simp] theorem agg_154 : isAggV Tryz.prog 154 = some false := by kernel_rfl
@[simp] theorem size_154 : sizeV Tryz.prog 154 = some 1 := by kernel_rfl
@[simp] theorem bytes_154 : bytesV Tryz.prog 154 = some 8 := by kernel_rfl
attribute [simp] Tryz.underlying154
@[simp] theorem agg_155 : isAggV Tryz.prog 155 = some false := by kernel_rfl
@[simp] theorem size_155 : sizeV Tryz.prog 155 = some 1 := by kernel_rfl
@[simp] theorem bytes_155 : bytesV Tryz.prog 155 = some 8 := by kernel_rfl
attribute [simp] Tryz.underlying155
@[simp] theorem agg_156 : isAggV Tryz.prog 156 = some false := by kernel_rfl
@[simp] theorem size_156 : sizeV Tryz.prog 156 = some 1 := by kernel_rfl
@[simp] theorem bytes_156 : bytesV Tryz.prog 156 = some 0 := by kernel_rfl
attribute [simp] Tryz.underlying156
@[simp] theorem agg_157 : isAggV Tryz.prog 157 = some false := by kernel_rfl
@[simp] theorem size_157 : sizeV Tryz.prog 157 = some 1 := by kernel_rfl
@[simp] theorem bytes_157 : bytesV Tryz.prog 157 = some 8 := by kernel_rfl
attribute [simp] Tryz.underlying157
@[simp] theorem agg_158 : isAggV Tryz.prog 158 = some false := by kernel_rfl
@[simp] theorem size_158 : sizeV Tryz.prog 158 = some 1 := by kernel_rfl
@[simp] theorem bytes_158 : bytesV Tryz.prog 158 = some 8 := by kernel_rfl
attribute [simp] Tryz.underlying158
@[simp] theorem agg_159 : isAggV Tryz.prog 159 = some false := by kernel_rfl
@[simp] theorem size_159 : sizeV Tryz.prog 159 = some 1 := by kernel_rfl
@[simp] theorem bytes_159 : bytesV Tryz.prog 159 = some 0 := by kernel_rfl
attribute [simp] Tryz.underlying159
@[simp] theorem agg_160 : isAggV Tryz.prog 160 = some false := by kernel_rfl
@[simp] theorem size_160 : sizeV Tryz.prog 160 = some 1 := by kernel_rfl
@[simp] theorem bytes_160 : bytesV Tryz.prog 160 = some 8 := by kernel_rfl
attribute [simp] Tryz.underlying160
@[simp] theorem agg_161 : isAggV Tryz.prog 161 = some false := by kernel_rfl
@[simp] theorem size_161 : sizeV Tryz.prog 161 = some 1 := by kernel_rfl
@[simp] theorem bytes_161 : bytesV Tryz.prog 161 = some 8 := by kernel_rfl
attribute [simp] Tryz.underlying161
@[simp] theorem agg_162 : isAggV Tryz.prog 162 = some false := by kernel_rfl
@[simp] theorem size_162 : sizeV Tryz.prog 162 = some 1 := by kernel_rfl
@[simp] theorem bytes_162 : bytesV Tryz.prog 162 = some 8 := by kernel_rfl
attribute [simp] Tryz.underlying162
@[simp] theorem agg_163 : isAggV Tryz.prog 163 = some false := by kernel_rfl
@[simp] theorem size_163 : sizeV Tryz.prog 163 = some 1 := by kernel_rfl
@[simp] theorem bytes_163 : bytesV Tryz.prog 163 = some 8 := by kernel_rfl
attribute [simp] Tryz.underlying163
@[simp] theorem agg_164 : isAggV Tryz.prog 164 = some false := by kernel_rfl
@[simp] theorem size_164 : sizeV Tryz.prog 164 = some 1 := by kernel_rfl
@[simp] theorem bytes_164 : bytesV Tryz.prog 164 = some 8 := by kernel_rfl
attribute [simp] Tryz.underlying164
@[simp] theorem agg_165 : isAggV Tryz.prog 165 = some false := by kernel_rfl
@[simp] theorem size_165 : sizeV Tryz.prog 165 = some 1 := by kernel_rfl
@[simp] theorem bytes_165 : bytesV Tryz.prog 165 = some 8 := by kernel_rfl
attribute [simp] Tryz.underlying165
@[simp] theorem agg_166 : isAggV Tryz.prog 166 = some false := by kernel_rfl
@[simp] theorem size_166 : sizeV Tryz.prog 166 = some 1 := by kernel_rfl
@[simp] theorem bytes_166 : bytesV Tryz.prog 166 = some 8 := by kernel_rfl
attribute [simp] Tryz.underlying166
@[simp] theorem agg_167 : isAggV Tryz.prog 167 = some false := by kernel_rfl
@[simp] theorem size_167 : sizeV Tryz.prog 167 = some 1 := by kernel_rfl
@[simp] theorem bytes_167 : bytesV Tryz.prog 167 = some 0 := by kernel_rfl
attribute [simp] Tryz.underlying167
@[simp] theorem agg_168 : isAggV Tryz.prog 168 = some false := by kernel_rfl
@[simp] theorem size_168 : sizeV Tryz.prog 168 = some 1 := by kernel_rfl
@[simp] theorem bytes_168 : bytesV Tryz.prog 168 = some 8 := by kernel_rfl
attribute [simp] Tryz.underlying168
@[simp] theorem agg_169 : isAggV Tryz.prog 169 = some false := by kernel_rfl
@[simp] theorem size_169 : sizeV Tryz.prog 169 = some 1 := by kernel_rfl
@[simp] theorem bytes_169 : bytesV Tryz.prog 169 = some 0 := by kernel_rfl
attribute [simp] Tryz.underlying169
@[simp] theorem agg_170 : isAggV Tryz.prog 170 = some false := by kernel_rfl
@[simp] theorem size_170 : sizeV Tryz.prog 170 = some 1 := by kernel_rfl
@[simp] theorem bytes_170 : bytesV Tryz.prog 170 = some 8 := by kernel_rfl
attribute [simp] Tryz.underlying170
@[simp] theorem agg_171 : isAggV Tryz.prog 171 = some false := by kernel_rfl
@[simp] theorem size_171 : sizeV Tryz.prog 171 = some 1 := by kernel_rfl
@[simp] theorem bytes_171 : bytesV Tryz.prog 171 = some 8 := by kernel_rfl
attribute [simp] Tryz.underlying171
@[simp] theorem agg_172 : isAggV Tryz.prog 172 = some false := by kernel_rfl
@[simp] theorem size_172 : sizeV Tryz.prog 172 = some 1 := by kernel_rfl
@[simp] theorem bytes_172 : bytesV Tryz.prog 172 = some 8 := by kernel_rfl
@[simp] theorem zero_172 : zeroV Tryz.prog 172 = some (.nilptr) := by kernel_rfl
attribute [simp] Tryz.underlying172
@[simp] theorem agg_173 : isAggV Tryz.prog 173 = some false := by kernel_rfl
@[simp] theorem size_173 : sizeV Tryz.prog 173 = some 1 := by kernel_rfl
@[simp] theorem bytes_173 : bytesV Tryz.prog 173 = some 24 := by kernel_rfl
@[simp] theorem zero_173 : zeroV Tryz.prog 173 = some (.nilslice) := by kernel_rfl
attribute [simp] Tryz.underlying173
@[simp] theorem agg_174 : isAggV Tryz.prog 174 = some false := by kernel_rfl
@[simp] theorem size_174 : sizeV Tryz.prog 174 = some 1 := by kernel_rfl
@[simp] theorem bytes_174 : bytesV Tryz.prog 174 = some 8 := by kernel_rfl
attribute [simp] Tryz.underlying174
@[simp] theorem agg_175 : isAggV Tryz.prog 175 = some false := by kernel_rfl
@[simp] theorem size_175 : sizeV Tryz.prog 175 = some 1 := by kernel_rfl
@[simp] theorem bytes_175 : bytesV Tryz.prog 175 = some 8 := by kernel_rfl
attribute [simp] Tryz.underlying175
@[simp] theorem agg_176 : isAggV Tryz.prog 176 = some false := by kernel_rfl
@[simp] theorem size_176 : sizeV Tryz.prog 176 = some 1 := by kernel_rfl
@[simp] theorem bytes_176 : bytesV Tryz.prog 176 = some 8 := by kernel_rfl
attribute [simp] Tryz.underlying176
@[simp] theorem agg_177 : isAggV Tryz.prog 177 = some false := by kernel_rfl
@[simp] theorem size_177 : sizeV Tryz.prog 177 = some 1 := by kernel_rfl
@[simp] theorem bytes_177 : bytesV Tryz.prog 177 = some 8 := by kernel_rfl
attribute [simp] Tryz.underlying177
@[simp] theorem agg_178 : isAggV Tryz.prog 178 = some false := by kernel_rfl
@[simp] theorem size_178 : sizeV Tryz.prog 178 = some 1 := by kernel_rfl
@[simp] theorem bytes_178 : bytesV Tryz.prog 178 = some 8 := by kernel_rfl
attribute [simp] Tryz.underlying178
@[simp] theorem agg_179 : isAggV Tryz.prog 179 = some false := by kernel_rfl
@[simp] theorem size_179 : sizeV Tryz.prog 179 = some 1 := by kernel_rfl
@[simp] theorem bytes_179 : bytesV Tryz.prog 179 = some 8 := by kernel_rfl
attribute [simp] Tryz.underlying179
@[simp] theorem agg_180 : isAggV Tryz.prog 180 = some false := by kernel_rfl
@[simp] theorem size_180 : sizeV Tryz.prog 180 = some 1 := by kernel_rfl
@[simp] theorem bytes_180 : bytesV Tryz.prog 180 = some 24 := by kernel_rfl
@[simp] theorem zero_180 : zeroV Tryz.prog 180 = some (.nilslice) := by kernel_rfl
attribute [simp] Tryz.underlying180
@[simp] theorem agg_181 : isAggV Tryz.prog 181 = some false := by kernel_rfl
@[simp] theorem size_181 : sizeV Tryz.prog 181 = some 1 := by kernel_rfl
@[simp] theorem bytes_181 : bytesV Tryz.prog 181 = some 8 := by kernel_rfl
attribute [simp] Tryz.underlying181
@[simp] theorem agg_182 : isAggV Tryz.prog 182 = some false := by kernel_rfl
@[simp] theorem size_182 : sizeV Tryz.prog 182 = some 1 := by kernel_rfl
@[simp] theorem bytes_182 : bytesV Tryz.prog 182 = some 8 := by kernel_rfl
attribute [simp] Tryz.underlying182
@[simp] theorem agg_183 : isAggV Tryz.prog 183 = some false := by kernel_rfl
@[simp] theorem size_183 : sizeV Tryz.prog 183 = some 1 := by kernel_rfl
@[simp] theorem bytes_183 : bytesV Tryz.prog 183 = some 0 := by kernel_rfl
attribute [simp] Tryz.underlying183
@[simp] theorem agg_184 : isAggV Tryz.prog 184 = some false := by kernel_rfl
@[simp] theorem size_184 : sizeV Tryz.prog 184 = some 1 := by kernel_rfl
@[simp] theorem bytes_184 : bytesV Tryz.prog 184 = some 8 := by kernel_rfl
attribute [simp] Tryz.underlying184
@[simp] theorem agg_185 : isAggV Tryz.prog 185 = some false := by kernel_rfl
@[simp] theorem size_185 : sizeV Tryz.prog 185 = some 1 := by kernel_rfl
@[simp] theorem bytes_185 : bytesV Tryz.prog 185 = some 0 := by kernel_rfl
attribute [simp] Tryz.underlying185
@[simp] theorem agg_186 : isAggV Tryz.prog 186 = some false := by kernel_rfl
@[simp] theorem size_186 : sizeV Tryz.prog 186 = some 1 := by kernel_rfl
@[simp] theorem bytes_186 : bytesV Tryz.prog 186 = some 8 := by kernel_rfl
attribute [simp] Tryz.underlying186
@[simp] theorem agg_187 : isAggV Tryz.prog 187 = some false := by kernel_rfl
@[simp] theorem size_187 : sizeV Tryz.prog 187 = some 1 := by kernel_rfl
@[simp] theorem bytes_187 : bytesV Tryz.prog 187 = some 0 := by kernel_rfl
attribute [simp] Tryz.underlying187
@[simp] theorem agg_188 : isAggV Tryz.prog 188 = some false := by kernel_rfl
@[simp] theorem size_188 : sizeV Tryz.prog 188 = some 1 := by kernel_rfl
@[simp] theorem bytes_188 : bytesV Tryz.prog 188 = some 8 := by kernel_rfl
attribute [simp] Tryz.underlying188
@[simp] theorem agg_189 : isAggV Tryz.prog 189 = some false := by kernel_rfl
@[simp] theorem size_189 : sizeV Tryz.prog 189 = some 1 := by kernel_rfl
@[simp] theorem bytes_189 : bytesV Tryz.prog 189 = some 16 := by kernel_rfl
attribute [simp] Tryz.underlying189
@[simp] theorem agg_190 : isAggV Tryz.prog 190 = some false := by kernel_rfl
@[simp] theorem size_190 : sizeV Tryz.prog 190 = some 1 := by kernel_rfl
@[simp] theorem bytes_190 : bytesV Tryz.prog 190 = some 16 := by kernel_rfl
attribute [simp] Tryz.underlying190
@[simp] theorem agg_191 : isAggV Tryz.prog 191 = some false := by kernel_rfl
@[simp] theorem size_191 : sizeV Tryz.prog 191 = some 1 := by kernel_rfl
@[simp] theorem bytes_191 : bytesV Tryz.prog 191 = some 8 := by kernel_rfl
attribute [simp] Tryz.underlying191
@[simp] theorem agg_192 : isAggV Tryz.prog 192 = some false := by kernel_rfl
@[simp] theorem size_192 : sizeV Tryz.prog 192 = some 1 := by kernel_rfl
@[simp] theorem bytes_192 : bytesV Tryz.prog 192 = some 8 := by kernel_rfl
attribute [simp] Tryz.underlying192
@[simp] theorem agg_193 : isAggV Tryz.prog 193 = some false := by kernel_rfl
@[simp] theorem size_193 : sizeV Tryz.prog 193 = some 1 := by kernel_rfl
@[simp] theorem bytes_193 : bytesV Tryz.prog 193 = some 8 := by kernel_rfl
attribute [simp] Tryz.underlying193
@[simp] theorem agg_194 : isAggV Tryz.prog 194 = some false := by kernel_rfl
@[simp] theorem size_194 : sizeV Tryz.prog 194 = some 1 := by kernel_rfl
@[simp] theorem bytes_194 : bytesV Tryz.prog 194 = some 8 := by kernel_rfl
attribute [simp] Tryz.underlying194
@[simp] theorem agg_195 : isAggV Tryz.prog 195 = some false := by kernel_rfl
@[simp] theorem size_195 : sizeV Tryz.prog 195 = some 1 := by kernel_rfl
@[simp] theorem bytes_195 : bytesV Tryz.prog 195 = some 8 := by kernel_rfl
attribute [simp] Tryz.underlying195
@[simp] theorem agg_196 : isAggV Tryz.prog 196 = some false := by kernel_rfl
@[simp] theorem size_196 : sizeV Tryz.prog 196 = some 1 := by kernel_rfl
@[simp] theorem bytes_196 : bytesV Tryz.prog 196 = some 8 := by kernel_rfl
attribute [simp] Tryz.underlying196
@[simp] theorem agg_197 : isAggV Tryz.prog 197 = some false := by kernel_rfl
@[simp] theorem size_197 : sizeV Tryz.prog 197 = some 1 := by kernel_rfl
@[simp] theorem bytes_197 : bytesV Tryz.prog 197 = some 8 := by kernel_rfl
attribute [simp] Tryz.underlying197
@[simp] theorem agg_198 : isAggV Tryz.prog 198 = some true := by kernel_rfl
@[simp] theorem size_198 : sizeV Tryz.prog 198 = some 4 := by kernel_rfl
@[simp] theorem bytes_198 : bytesV Tryz.prog 198 = some 40 := by kernel_rfl
@[simp] theorem zero_198 : zeroV Tryz.prog 198 = some (.agg [.nilptr, .nilptr, .nilptr, .str []]) := by kernel_rfl
attribute [simp] Tryz.underlying198
@[simp] theorem agg_199 : isAggV Tryz.prog 199 = some true := by kernel_rfl
@[simp] theorem size_199 : sizeV Tryz.prog 199 = some 4 := by kernel_rfl
@[simp] theorem bytes_199 : bytesV Tryz.prog 199 = some 40 := by kernel_rfl
@[simp] theorem zero_199 : zeroV Tryz.prog 199 = some (.agg [.nilptr, .nilptr, .nilptr, .str []]) := by kernel_rfl
attribute [simp] Tryz.underlying199
@[simp] theorem agg_200 : isAggV Tryz.prog 200 = some true := by kernel_rfl
@[simp] theorem size_200 : sizeV Tryz.prog 200 = some 0 := by kernel_rfl
@[simp] theorem bytes_200 : bytesV Tryz.prog 200 = some 0 := by kernel_rfl
@[simp] theorem zero_200 : zeroV Tryz.prog 200 = some (.agg []) := by kernel_rfl
attribute [simp] Tryz.underlying200
@[simp] theorem agg_201 : isAggV Tryz.prog 201 = some true := by kernel_rfl
@[simp] theorem size_201 : sizeV Tryz.prog 201 = some 0 := by kernel_rfl
@[simp] theorem bytes_201 : bytesV Tryz.prog 201 = some 0 := by kernel_rfl
@[simp] theorem zero_201 : zeroV Tryz.prog 201 = some (.agg []) := by kernel_rfl
attribute [simp] Tryz.underlying201
@[simp] theorem agg_202 : isAggV Tryz.prog 202 = some true := by kernel_rfl
@[simp] theorem size_202 : sizeV Tryz.prog 202 = some 0 := by kernel_rfl
@[simp] theorem bytes_202 : bytesV Tryz.prog 202 = some 0 := by kernel_rfl
@[simp] theorem zero_202 : zeroV Tryz.prog 202 = some (.agg []) := by kernel_rfl
attribute [simp] Tryz.underlying202
@[simp] theorem agg_203 : isAggV Tryz.prog 203 = some false := by kernel_rfl
@[simp] theorem size_203 : sizeV Tryz.prog 203 = some 1 := by kernel_rfl
@[simp] theorem bytes_203 : bytesV Tryz.prog 203 = some 1 := by kernel_rfl
@[simp] theorem zero_203 : zeroV Tryz.prog 203 = some (.int .u8 0) := by kernel_rfl
attribute [simp] Tryz.underlying203
@[simp] theorem agg_204 : isAggV Tryz.prog 204 = some false := by kernel_rfl
@[simp] theorem size_204 : sizeV Tryz.prog 204 = some 1 := by kernel_rfl
@[simp] theorem bytes_204 : bytesV Tryz.prog 204 = some 1 := by kernel_rfl
@[simp] theorem zero_204 : zeroV Tryz.prog 204 = some (.int .u8 0) := by kernel_rfl
attribute [simp] Tryz.underlying204
@[simp] theorem agg_205 : isAggV Tryz.prog 205 = some false := by kernel_rfl
@[simp] theorem size_205 : sizeV Tryz.prog 205 = some 1 := by kernel_rfl
@[simp] theorem bytes_205 : bytesV Tryz.prog 205 = some 8 := by kernel_rfl
attribute [simp] Tryz.underlying205
@[simp] theorem agg_206 : isAggV Tryz.prog 206 = some false := by kernel_rfl
@[simp] theorem size_206 : sizeV Tryz.prog 206 = some 1 := by kernel_rfl
@[simp] theorem bytes_206 : bytesV Tryz.prog 206 = some 8 := by kernel_rfl
@[simp] theorem zero_206 : zeroV Tryz.prog 206 = some (.nilptr) := by kernel_rfl
attribute [simp] Tryz.underlying206
@[simp] theorem agg_207 : isAggV Tryz.prog 207 = some false := by kernel_rfl
@[simp] theorem size_207 : sizeV Tryz.prog 207 = some 1 := by kernel_rfl
@[simp] theorem bytes_207 : bytesV Tryz.prog 207 = some 4 := by kernel_rfl
@[simp] theorem zero_207 : zeroV Tryz.prog 207 = some (.int .i32 0) := by kernel_rfl
attribute [simp] Tryz.underlying207
@[simp] theorem agg_208 : isAggV Tryz.prog 208 = some false := by kernel_rfl
@[simp] theorem size_208 : sizeV Tryz.prog 208 = some 1 := by kernel_rfl
@[simp] theorem bytes_208 : bytesV Tryz.prog 208 = some 4 := by kernel_rfl
@[simp] theorem zero_208 : zeroV Tryz.prog 208 = some (.int .i32 0) := by kernel_rfl
attribute [simp] Tryz.underlying208
@[simp] theorem agg_209 : isAggV Tryz.prog 209 = some true := by kernel_rfl
@[simp] theorem size_209 : sizeV Tryz.prog 209 = some 11 := by kernel_rfl
@[simp] theorem bytes_209 : bytesV Tryz.prog 209 = some 48 := by kernel_rfl
@[simp] theorem zero_209 : zeroV Tryz.prog 209 = some (.agg [.int .u64 0, .int .u64 0, .int .u32 0, .int .u8 0, .int .u8 0, .int .u8 0, .int .u8 0, .nilfunc, .nilptr, .int .i32 0, .int .i32 0]) := by kernel_rfl
attribute [simp] Tryz.underlying209
@[simp] theorem agg_210 : isAggV Tryz.prog 210 = some true := by kernel_rfl
@[simp] theorem size_210 : sizeV Tryz.prog 210 = some 11 := by kernel_rfl
@[simp] theorem bytes_210 : bytesV Tryz.prog 210 = some 48 := by kernel_rfl
@[simp] theorem zero_210 : zeroV Tryz.prog 210 = some (.agg [.int .u64 0, .int .u64 0, .int .u32 0, .int .u8 0, .int .u8 0, .int .u8 0, .int .u8 0, .nilfunc, .nilptr, .int .i32 0, .int .i32 0]) := by kernel_rfl
attribute [simp] Tryz.underlying210
@[simp] theorem agg_211 : isAggV Tryz.prog 211 = some false := by kernel_rfl
@[simp] theorem size_211 : sizeV Tryz.prog 211 = some 1 := by kernel_rfl
@[simp] theorem bytes_211 : bytesV Tryz.prog 211 = some 8 := by kernel_rfl
attribute [simp] Tryz.underlying211
@[simp] theorem agg_212 : isAggV Tryz.prog 212 = some false := by kernel_rfl
@[simp] theorem size_212 : sizeV Tryz.prog 212 = some 1 := by kernel_rfl
@[simp] theorem bytes_212 : bytesV Tryz.prog 212 = some 8 := by kernel_rfl
@[simp] theorem zero_212 : zeroV Tryz.prog 212 = some (.nilptr) := by kernel_rfl
attribute [simp] Tryz.underlying212
end Go.Proofs.YtnojknodojjnnaaGreat
end
section
namespace Go.Proofs.YtnojknodojjnnaaGreat
open Go Go.Sim
set_option maxRecDepth 100000
set_option linter.unusedVariables false
set_option linter.unusedSimpArgs false

theorem wpList_append_any {P : Program} (w : World) {ops : Array Oper} {rest : List Oper} {o : Oper} {a : Act} {Q : Exit → Act → World → Prop} (hgd : o.guard = none) (s x : Operand) (t tn : TypeId)
    (ho : o.op = .call { callee := .builtin .append, args := #[s, x], argTypes := #[t, tn] }) (vs vx : Value) (hs : a.eval s = vs) (hx : a.eval x = vx)
    (v' : Value) (w' : World) (hr : (Builtin.append_ #[t, tn] o.type #[vs, vx]).run P w = .ok v' w') (h : wpList P ops Q rest (a.put o.dst v') w') : wpList P ops Q (o :: rest) a w := by
  refine wpList_plain hgd fun K hK' => ?_
  unfold Oper.wp
  simp [execOp, ho, resolve, invoke, builtin, hs, hx, hr, Result.andThen]
  exact hK' _ _ h
theorem clone_nil_50 (w : World) : Calls Tryz.prog 50 #[.slice none 0 0] w fun e w' => e = .returned (.slice none 0 0) ∧ w' = w := by
  have he := fun w => run_eql_nil2 (P := Tryz.prog) (t := 22) Tryz.underlying22 w
  go_enter Tryz.func50, Tryz.ntmps50
  go_wp2
  go_ret
  exact ⟨rfl, rfl⟩
theorem clone_some_50 (a : Addr) (n c : Nat) (w w2 : World) (x : Value) (h2 : (Builtin.append_ #[22, 22] 22 #[.slice (some ⟨w.heap.size, 0, none⟩) 0 0, .slice (some a) n c]).run Tryz.prog (w.alloc (.cells #[] 54 (0, 0))) = .ok x w2) :
    Calls Tryz.prog 50 #[.slice (some a) n c] w fun e w' => e = .returned x ∧ w' = w2 := by
  have he := fun w => run_eql_nil (P := Tryz.prog) (t := 22) Tryz.underlying22 a n c w
  go_enter Tryz.func50, Tryz.ntmps50
  go_wp2_with (at_builtin; refine wpList_append_any _ rfl _ _ 22 22 rfl _ _ rfl rfl x w2 h2 ?_)
  go_ret
  exact ⟨rfl, rfl⟩
theorem known_50 : ∀ args h r h', cloneWL 17592186044416 2 args h = some (r, h') → CallS Tryz.prog (fun _ => true) 50 args h r h' := by
  intro args h r h' hc
  obtain ⟨s, rfl⟩ : ∃ s, args = [s] := by
    unfold cloneWL at hc
    split at hc
    · exact ⟨_, rfl⟩
    · exact ⟨_, rfl⟩
    · cases hc
  intro ok B w args' R hh ha hR
  simp only [VRelL] at ha
  obtain ⟨v, l', rfl, hv, rfl⟩ := ha
  refine callsIn_wide.2 ?_
  have hA := clone_after (P := Tryz.prog) (t := 22) (e := 54) (ty := 22) (by_ := 8) hh Tryz.underlying22 size_54 bytes_54 zero_54 (by omega) (by omega) (by omega) rfl hc hv
  rcases hA with ⟨rfl, hA⟩ | ⟨a, n, c, u, w1, x, w2, ok', B', rfl, h1, h2, hA⟩
  · exact (clone_nil_50 w).mono fun e w' ⟨he, hw⟩ => by subst he hw; exact hR _ _ _ _ hA
  · rw [run_build_none (P := Tryz.prog) Tryz.underlying22 size_54] at h1
    simp only [Result.ok.injEq] at h1
    obtain ⟨rfl, rfl⟩ := h1
    exact (clone_some_50 a n c w w2 x h2).mono fun e w' ⟨he, hw⟩ => by subst he hw; exact hR _ _ _ _ hA
theorem clone_nil_51 (w : World) : Calls Tryz.prog 51 #[.slice none 0 0] w fun e w' => e = .returned (.slice none 0 0) ∧ w' = w := by
  have he := fun w => run_eql_nil2 (P := Tryz.prog) (t := 23) Tryz.underlying23 w
  go_enter Tryz.func51, Tryz.ntmps51
  go_wp2
  go_ret
  exact ⟨rfl, rfl⟩
theorem clone_some_51 (a : Addr) (n c : Nat) (w w2 : World) (x : Value) (h2 : (Builtin.append_ #[23, 23] 23 #[.slice (some ⟨w.heap.size, 0, none⟩) 0 0, .slice (some a) n c]).run Tryz.prog (w.alloc (.cells #[] 25 (0, 0))) = .ok x w2) :
    Calls Tryz.prog 51 #[.slice (some a) n c] w fun e w' => e = .returned x ∧ w' = w2 := by
  have he := fun w => run_eql_nil (P := Tryz.prog) (t := 23) Tryz.underlying23 a n c w
  go_enter Tryz.func51, Tryz.ntmps51
  go_wp2_with (at_builtin; refine wpList_append_any _ rfl _ _ 23 23 rfl _ _ rfl rfl x w2 h2 ?_)
  go_ret
  exact ⟨rfl, rfl⟩
theorem known_51 : ∀ args h r h', cloneWL 35184372088832 1 args h = some (r, h') → CallS Tryz.prog (fun _ => true) 51 args h r h' := by
  intro args h r h' hc
  obtain ⟨s, rfl⟩ : ∃ s, args = [s] := by
    unfold cloneWL at hc
    split at hc
    · exact ⟨_, rfl⟩
    · exact ⟨_, rfl⟩
    · cases hc
  intro ok B w args' R hh ha hR
  simp only [VRelL] at ha
  obtain ⟨v, l', rfl, hv, rfl⟩ := ha
  refine callsIn_wide.2 ?_
  have hA := clone_after (P := Tryz.prog) (t := 23) (e := 25) (ty := 23) (by_ := 4) hh Tryz.underlying23 size_25 bytes_25 zero_25 (by omega) (by omega) (by omega) rfl hc hv
  rcases hA with ⟨rfl, hA⟩ | ⟨a, n, c, u, w1, x, w2, ok', B', rfl, h1, h2, hA⟩
  · exact (clone_nil_51 w).mono fun e w' ⟨he, hw⟩ => by subst he hw; exact hR _ _ _ _ hA
  · rw [run_build_none (P := Tryz.prog) Tryz.underlying23 size_25] at h1
    simp only [Result.ok.injEq] at h1
    obtain ⟨rfl, rfl⟩ := h1
    exact (clone_some_51 a n c w w2 x h2).mono fun e w' ⟨he, hw⟩ => by subst he hw; exact hR _ _ _ _ hA
theorem clone_nil_52 (w : World) : Calls Tryz.prog 52 #[.slice none 0 0] w fun e w' => e = .returned (.slice none 0 0) ∧ w' = w := by
  have he := fun w => run_eql_nil2 (P := Tryz.prog) (t := 24) Tryz.underlying24 w
  go_enter Tryz.func52, Tryz.ntmps52
  go_wp2
  go_ret
  exact ⟨rfl, rfl⟩
theorem clone_some_52 (a : Addr) (n c : Nat) (w w2 : World) (x : Value) (h2 : (Builtin.append_ #[24, 24] 24 #[.slice (some ⟨w.heap.size, 0, none⟩) 0 0, .slice (some a) n c]).run Tryz.prog (w.alloc (.cells #[] 5 (0, 0))) = .ok x w2) :
    Calls Tryz.prog 52 #[.slice (some a) n c] w fun e w' => e = .returned x ∧ w' = w2 := by
  have he := fun w => run_eql_nil (P := Tryz.prog) (t := 24) Tryz.underlying24 a n c w
  go_enter Tryz.func52, Tryz.ntmps52
  go_wp2_with (at_builtin; refine wpList_append_any _ rfl _ _ 24 24 rfl _ _ rfl rfl x w2 h2 ?_)
  go_ret
  exact ⟨rfl, rfl⟩
theorem known_52 : ∀ args h r h', cloneWL 140737488355328 1 args h = some (r, h') → CallS Tryz.prog (fun _ => true) 52 args h r h' := by
  intro args h r h' hc
  obtain ⟨s, rfl⟩ : ∃ s, args = [s] := by
    unfold cloneWL at hc
    split at hc
    · exact ⟨_, rfl⟩
    · exact ⟨_, rfl⟩
    · cases hc
  intro ok B w args' R hh ha hR
  simp only [VRelL] at ha
  obtain ⟨v, l', rfl, hv, rfl⟩ := ha
  refine callsIn_wide.2 ?_
  have hA := clone_after (P := Tryz.prog) (t := 24) (e := 5) (ty := 24) (by_ := 1) hh Tryz.underlying24 size_5 bytes_5 zero_5 (by omega) (by omega) (by omega) rfl hc hv
  rcases hA with ⟨rfl, hA⟩ | ⟨a, n, c, u, w1, x, w2, ok', B', rfl, h1, h2, hA⟩
  · exact (clone_nil_52 w).mono fun e w' ⟨he, hw⟩ => by subst he hw; exact hR _ _ _ _ hA
  · rw [run_build_none (P := Tryz.prog) Tryz.underlying24 size_5] at h1
    simp only [Result.ok.injEq] at h1
    obtain ⟨rfl, rfl⟩ := h1
    exact (clone_some_52 a n c w w2 x h2).mono fun e w' ⟨he, hw⟩ => by subst he hw; exact hR _ _ _ _ hA
theorem clone_nil_53 (w : World) : Calls Tryz.prog 53 #[.slice none 0 0] w fun e w' => e = .returned (.slice none 0 0) ∧ w' = w := by
  have he := fun w => run_eql_nil2 (P := Tryz.prog) (t := 26) Tryz.underlying26 w
  go_enter Tryz.func53, Tryz.ntmps53
  go_wp2
  go_ret
  exact ⟨rfl, rfl⟩
theorem clone_some_53 (a : Addr) (n c : Nat) (w w2 : World) (x : Value) (h2 : (Builtin.append_ #[26, 26] 26 #[.slice (some ⟨w.heap.size, 0, none⟩) 0 0, .slice (some a) n c]).run Tryz.prog (w.alloc (.cells #[] 83 (0, 0))) = .ok x w2) :
    Calls Tryz.prog 53 #[.slice (some a) n c] w fun e w' => e = .returned x ∧ w' = w2 := by
  have he := fun w => run_eql_nil (P := Tryz.prog) (t := 26) Tryz.underlying26 a n c w
  go_enter Tryz.func53, Tryz.ntmps53
  go_wp2_with (at_builtin; refine wpList_append_any _ rfl _ _ 26 26 rfl _ _ rfl rfl x w2 h2 ?_)
  go_ret
  exact ⟨rfl, rfl⟩
theorem known_53 : ∀ args h r h', cloneWL 5864062014805 2 args h = some (r, h') → CallS Tryz.prog (fun _ => true) 53 args h r h' := by
  intro args h r h' hc
  obtain ⟨s, rfl⟩ : ∃ s, args = [s] := by
    unfold cloneWL at hc
    split at hc
    · exact ⟨_, rfl⟩
    · exact ⟨_, rfl⟩
    · cases hc
  intro ok B w args' R hh ha hR
  simp only [VRelL] at ha
  obtain ⟨v, l', rfl, hv, rfl⟩ := ha
  refine callsIn_wide.2 ?_
  have hA := clone_after (P := Tryz.prog) (t := 26) (e := 83) (ty := 26) (by_ := 24) hh Tryz.underlying26 size_83 bytes_83 zero_83 (by omega) (by omega) (by omega) rfl hc hv
  rcases hA with ⟨rfl, hA⟩ | ⟨a, n, c, u, w1, x, w2, ok', B', rfl, h1, h2, hA⟩
  · exact (clone_nil_53 w).mono fun e w' ⟨he, hw⟩ => by subst he hw; exact hR _ _ _ _ hA
  · rw [run_build_none (P := Tryz.prog) Tryz.underlying26 size_83] at h1
    simp only [Result.ok.injEq] at h1
    obtain ⟨rfl, rfl⟩ := h1
    exact (clone_some_53 a n c w w2 x h2).mono fun e w' ⟨he, hw⟩ => by subst he hw; exact hR _ _ _ _ hA
theorem clone_nil_93 (w : World) : Calls Tryz.prog 93 #[.slice none 0 0] w fun e w' => e = .returned (.slice none 0 0) ∧ w' = w := by
  have he := fun w => run_eql_nil2 (P := Tryz.prog) (t := 24) Tryz.underlying24 w
  go_enter Tryz.func93, Tryz.ntmps93
  go_wp2
  go_ret
  exact ⟨rfl, rfl⟩
theorem clone_some_93 (a : Addr) (n c : Nat) (w w2 : World) (x : Value) (h2 : (Builtin.append_ #[24, 24] 24 #[.slice (some ⟨w.heap.size, 0, none⟩) 0 0, .slice (some a) n c]).run Tryz.prog (w.alloc (.cells #[] 5 (0, 0))) = .ok x w2) :
    Calls Tryz.prog 93 #[.slice (some a) n c] w fun e w' => e = .returned x ∧ w' = w2 := by
  have he := fun w => run_eql_nil (P := Tryz.prog) (t := 24) Tryz.underlying24 a n c w
  go_enter Tryz.func93, Tryz.ntmps93
  go_wp2_with (at_builtin; refine wpList_append_any _ rfl _ _ 24 24 rfl _ _ rfl rfl x w2 h2 ?_)
  go_ret
  exact ⟨rfl, rfl⟩
theorem known_93 : ∀ args h r h', cloneWL 140737488355328 1 args h = some (r, h') → CallS Tryz.prog (fun _ => true) 93 args h r h' := by
  intro args h r h' hc
  obtain ⟨s, rfl⟩ : ∃ s, args = [s] := by
    unfold cloneWL at hc
    split at hc
    · exact ⟨_, rfl⟩
    · exact ⟨_, rfl⟩
    · cases hc
  intro ok B w args' R hh ha hR
  simp only [VRelL] at ha
  obtain ⟨v, l', rfl, hv, rfl⟩ := ha
  refine callsIn_wide.2 ?_
  have hA := clone_after (P := Tryz.prog) (t := 24) (e := 5) (ty := 24) (by_ := 1) hh Tryz.underlying24 size_5 bytes_5 zero_5 (by omega) (by omega) (by omega) rfl hc hv
  rcases hA with ⟨rfl, hA⟩ | ⟨a, n, c, u, w1, x, w2, ok', B', rfl, h1, h2, hA⟩
  · exact (clone_nil_93 w).mono fun e w' ⟨he, hw⟩ => by subst he hw; exact hR _ _ _ _ hA
  · rw [run_build_none (P := Tryz.prog) Tryz.underlying24 size_5] at h1
    simp only [Result.ok.injEq] at h1
    obtain ⟨rfl, rfl⟩ := h1
    exact (clone_some_93 a n c w w2 x h2).mono fun e w' ⟨he, hw⟩ => by subst he hw; exact hR _ _ _ _ hA
end Go.Proofs.YtnojknodojjnnaaGreat
end
