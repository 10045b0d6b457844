/-
  isa.Info by its table, and what is reckoned before: two evaluators that have these for known.
-/
import Derived.Test.YtlachkeneeflaabGreatNe
import Derived.Test.YtlachkeneeflaabGreatMd
section
namespace Go.Proofs.YtlachkeneeflaabGreat
open Go Go.Sim
set_option maxRecDepth 1000000
set_option linter.unusedVariables false
set_option linter.unusedSimpArgs false

def infoT : List V := [
  .tuple [.agg [.str [], .int .i64 0, .int .u32 0, .int .i64 0, .int .i64 0, .int .u8 0], .bool false],
  .tuple [.agg [.str [110, 111, 112], .int .i64 0, .int .u32 0, .int .i64 0, .int .i64 0, .int .u8 1], .bool true],
  .tuple [.agg [.str [98, 114, 101, 97, 107], .int .i64 0, .int .u32 0, .int .i64 0, .int .i64 0, .int .u8 8], .bool true],
  .tuple [.agg [.str [101, 110, 116, 101, 114], .int .i64 2, .int .u32 65535, .int .i64 0, .int .i64 0, .int .u8 6], .bool true],
  .tuple [.agg [.str [108, 101, 97, 118, 101], .int .i64 2, .int .u32 65535, .int .i64 1, .int .i64 0, .int .u8 7], .bool true],
  .tuple [.agg [.str [99, 97, 108, 108], .int .i64 0, .int .u32 0, .int .i64 1, .int .i64 1, .int .u8 5], .bool true],
  .tuple [.agg [.str [103, 111, 116, 111], .int .i64 2, .int .u32 16383, .int .i64 0, .int .i64 0, .int .u8 3], .bool true],
  .tuple [.agg [.str [106, 117, 109, 112], .int .i64 0, .int .u32 0, .int .i64 1, .int .i64 0, .int .u8 4], .bool true],
  .tuple [.agg [.str [99, 111, 110, 115, 116], .int .i64 4, .int .u32 4294967295, .int .i64 0, .int .i64 1, .int .u8 1], .bool true],
  .tuple [.agg [.str [108, 111, 99, 97, 108], .int .i64 4, .int .u32 4294967295, .int .i64 0, .int .i64 1, .int .u8 1], .bool true],
  .tuple [.agg [.str [112, 111, 112], .int .i64 0, .int .u32 0, .int .i64 1, .int .i64 0, .int .u8 1], .bool true],
  .tuple [.agg [.str [100, 117, 112], .int .i64 0, .int .u32 0, .int .i64 1, .int .i64 2, .int .u8 1], .bool true],
  .tuple [.agg [.str [97, 114, 103], .int .i64 1, .int .u32 14, .int .i64 1, .int .i64 0, .int .u8 1], .bool true],
  .tuple [.agg [.str [101, 113], .int .i64 2, .int .u32 16383, .int .i64 2, .int .i64 0, .int .u8 2], .bool true],
  .tuple [.agg [.str [110, 101], .int .i64 2, .int .u32 16383, .int .i64 2, .int .i64 0, .int .u8 2], .bool true],
  .tuple [.agg [.str [108, 116, 105], .int .i64 2, .int .u32 16383, .int .i64 2, .int .i64 0, .int .u8 2], .bool true],
  .tuple [.agg [.str [108, 101, 105], .int .i64 2, .int .u32 16383, .int .i64 2, .int .i64 0, .int .u8 2], .bool true],
  .tuple [.agg [.str [103, 116, 105], .int .i64 2, .int .u32 16383, .int .i64 2, .int .i64 0, .int .u8 2], .bool true],
  .tuple [.agg [.str [103, 101, 105], .int .i64 2, .int .u32 16383, .int .i64 2, .int .i64 0, .int .u8 2], .bool true],
  .tuple [.agg [.str [108, 116, 117], .int .i64 2, .int .u32 16383, .int .i64 2, .int .i64 0, .int .u8 2], .bool true],
  .tuple [.agg [.str [108, 101, 117], .int .i64 2, .int .u32 16383, .int .i64 2, .int .i64 0, .int .u8 2], .bool true],
  .tuple [.agg [.str [103, 116, 117], .int .i64 2, .int .u32 16383, .int .i64 2, .int .i64 0, .int .u8 2], .bool true],
  .tuple [.agg [.str [103, 101, 117], .int .i64 2, .int .u32 16383, .int .i64 2, .int .i64 0, .int .u8 2], .bool true],
  .tuple [.agg [.str [101, 113, 102], .int .i64 2, .int .u32 16383, .int .i64 2, .int .i64 0, .int .u8 2], .bool true],
  .tuple [.agg [.str [110, 101, 102], .int .i64 2, .int .u32 16383, .int .i64 2, .int .i64 0, .int .u8 2], .bool true],
  .tuple [.agg [.str [108, 116, 102], .int .i64 2, .int .u32 16383, .int .i64 2, .int .i64 0, .int .u8 2], .bool true],
  .tuple [.agg [.str [108, 101, 102], .int .i64 2, .int .u32 16383, .int .i64 2, .int .i64 0, .int .u8 2], .bool true],
  .tuple [.agg [.str [103, 116, 102], .int .i64 2, .int .u32 16383, .int .i64 2, .int .i64 0, .int .u8 2], .bool true],
  .tuple [.agg [.str [103, 101, 102], .int .i64 2, .int .u32 16383, .int .i64 2, .int .i64 0, .int .u8 2], .bool true],
  .tuple [.agg [.str [108, 111, 97, 100, 49], .int .i64 0, .int .u32 0, .int .i64 1, .int .i64 1, .int .u8 1], .bool true],
  .tuple [.agg [.str [108, 111, 97, 100, 50], .int .i64 0, .int .u32 0, .int .i64 1, .int .i64 1, .int .u8 1], .bool true],
  .tuple [.agg [.str [108, 111, 97, 100, 52], .int .i64 0, .int .u32 0, .int .i64 1, .int .i64 1, .int .u8 1], .bool true],
  .tuple [.agg [.str [115, 116, 111, 114, 101, 49], .int .i64 0, .int .u32 0, .int .i64 2, .int .i64 0, .int .u8 1], .bool true],
  .tuple [.agg [.str [115, 116, 111, 114, 101, 50], .int .i64 0, .int .u32 0, .int .i64 2, .int .i64 0, .int .u8 1], .bool true],
  .tuple [.agg [.str [115, 116, 111, 114, 101, 52], .int .i64 0, .int .u32 0, .int .i64 2, .int .i64 0, .int .u8 1], .bool true],
  .tuple [.agg [.str [99, 111, 112, 121], .int .i64 2, .int .u32 256, .int .i64 2, .int .i64 0, .int .u8 1], .bool true],
  .tuple [.agg [.str [115, 101, 120, 56], .int .i64 0, .int .u32 0, .int .i64 1, .int .i64 1, .int .u8 1], .bool true],
  .tuple [.agg [.str [115, 101, 120, 49, 54], .int .i64 0, .int .u32 0, .int .i64 1, .int .i64 1, .int .u8 1], .bool true],
  .tuple [.agg [.str [110, 101, 103], .int .i64 0, .int .u32 0, .int .i64 1, .int .i64 1, .int .u8 1], .bool true],
  .tuple [.agg [.str [97, 100, 100], .int .i64 0, .int .u32 0, .int .i64 2, .int .i64 1, .int .u8 1], .bool true],
  .tuple [.agg [.str [115, 117, 98], .int .i64 0, .int .u32 0, .int .i64 2, .int .i64 1, .int .u8 1], .bool true],
  .tuple [.agg [.str [109, 117, 108], .int .i64 0, .int .u32 0, .int .i64 2, .int .i64 1, .int .u8 1], .bool true],
  .tuple [.agg [.str [100, 105, 118, 105], .int .i64 0, .int .u32 0, .int .i64 2, .int .i64 1, .int .u8 1], .bool true],
  .tuple [.agg [.str [100, 105, 118, 117], .int .i64 0, .int .u32 0, .int .i64 2, .int .i64 1, .int .u8 1], .bool true],
  .tuple [.agg [.str [109, 111, 100, 105], .int .i64 0, .int .u32 0, .int .i64 2, .int .i64 1, .int .u8 1], .bool true],
  .tuple [.agg [.str [109, 111, 100, 117], .int .i64 0, .int .u32 0, .int .i64 2, .int .i64 1, .int .u8 1], .bool true],
  .tuple [.agg [.str [97, 110, 100], .int .i64 0, .int .u32 0, .int .i64 2, .int .i64 1, .int .u8 1], .bool true],
  .tuple [.agg [.str [111, 114], .int .i64 0, .int .u32 0, .int .i64 2, .int .i64 1, .int .u8 1], .bool true],
  .tuple [.agg [.str [120, 111, 114], .int .i64 0, .int .u32 0, .int .i64 2, .int .i64 1, .int .u8 1], .bool true],
  .tuple [.agg [.str [110, 111, 116], .int .i64 0, .int .u32 0, .int .i64 1, .int .i64 1, .int .u8 1], .bool true],
  .tuple [.agg [.str [115, 104, 108], .int .i64 0, .int .u32 0, .int .i64 2, .int .i64 1, .int .u8 1], .bool true],
  .tuple [.agg [.str [115, 104, 114, 105], .int .i64 0, .int .u32 0, .int .i64 2, .int .i64 1, .int .u8 1], .bool true],
  .tuple [.agg [.str [115, 104, 114, 117], .int .i64 0, .int .u32 0, .int .i64 2, .int .i64 1, .int .u8 1], .bool true],
  .tuple [.agg [.str [110, 101, 103, 102], .int .i64 0, .int .u32 0, .int .i64 1, .int .i64 1, .int .u8 1], .bool true],
  .tuple [.agg [.str [97, 100, 100, 102], .int .i64 0, .int .u32 0, .int .i64 2, .int .i64 1, .int .u8 1], .bool true],
  .tuple [.agg [.str [115, 117, 98, 102], .int .i64 0, .int .u32 0, .int .i64 2, .int .i64 1, .int .u8 1], .bool true],
  .tuple [.agg [.str [109, 117, 108, 102], .int .i64 0, .int .u32 0, .int .i64 2, .int .i64 1, .int .u8 1], .bool true],
  .tuple [.agg [.str [100, 105, 118, 102], .int .i64 0, .int .u32 0, .int .i64 2, .int .i64 1, .int .u8 1], .bool true],
  .tuple [.agg [.str [99, 118, 105, 102], .int .i64 0, .int .u32 0, .int .i64 1, .int .i64 1, .int .u8 1], .bool true],
  .tuple [.agg [.str [99, 118, 102, 105], .int .i64 0, .int .u32 0, .int .i64 1, .int .i64 1, .int .u8 1], .bool true]
  ]
def infoF (args : List V) (h : Heap) : Option (V × Heap) :=
  match args with
  | [.int .u8 (.ofNat n)] => (infoT[n]?).map fun r => (r, h)
  | _ => none
def known2 (f : Nat) : Option (List V → Heap → Option (V × Heap)) := if Nat.beq f 67 then some infoF else knownT f
noncomputable def E2 : Env := { E with known := known2 }
def findT : List (List V × V) := [
  ([.scon [.int .u8 3, .int .u32 8, .int .u8 8, .int .u32 4, .int .u8 5, .int .u32 0, .int .u8 4, .int .u32 8, .int .u8 3, .int .u32 4, .int .u8 8, .int .u32 7, .int .u8 4, .int .u32 4] 0 7 false, .scon [] 0 0 false, .scon [.str [109, 97, 105, 110], .int .u32 0] 0 1 false], .tuple [.pcon [.scon [.int .u32 0, .int .u32 4, .int .u32 8, .int .i64 0, .int .u32 4, .int .u32 7, .int .u32 4, .int .i64 0] 0 2 false, .scon [.int .i64 0, .int .i64 0, .int .i64 0, .int .i64 0, .int .i64 1, .int .i64 1, .int .i64 1] 0 7 false, .scon [.scon [] 0 0 false, .scon [] 0 0 false] 0 2 false] 0, .int .i64 0, .int .i64 0]),
  ([.scon [.int .u8 3, .int .u32 8, .int .u8 1, .int .u32 0, .int .u8 5, .int .u32 0, .int .u8 4, .int .u32 8, .int .u8 3, .int .u32 4, .int .u8 8, .int .u32 7, .int .u8 4, .int .u32 4] 0 7 false, .scon [] 0 0 false, .scon [.str [109, 97, 105, 110], .int .u32 0] 0 1 false], .tuple [.pcon [.scon [.int .u32 0, .int .u32 4, .int .u32 8, .int .i64 0, .int .u32 4, .int .u32 7, .int .u32 4, .int .i64 0] 0 2 false, .scon [.int .i64 0, .int .i64 0, .int .i64 0, .int .i64 0, .int .i64 1, .int .i64 1, .int .i64 1] 0 7 false, .scon [.scon [] 0 0 false, .scon [] 0 0 false] 0 2 false] 0, .int .i64 0, .int .i64 0]),
  ([.scon [.int .u8 3, .int .u32 8, .int .u8 8, .int .u32 4, .int .u8 5, .int .u32 0, .int .u8 4, .int .u32 4, .int .u8 3, .int .u32 4, .int .u8 8, .int .u32 7, .int .u8 4, .int .u32 4] 0 7 false, .scon [] 0 0 false, .scon [.str [109, 97, 105, 110], .int .u32 0] 0 1 false], .tuple [.nilptr, .int .i64 3, .int .i64 131]),
  ([.scon [.int .u8 3, .int .u32 8, .int .u8 8, .int .u32 4, .int .u8 5, .int .u32 0, .int .u8 4, .int .u32 8, .int .u8 3, .int .u32 4, .int .u8 8, .int .u32 7, .int .u8 4, .int .u32 4] 0 7 false, .scon [] 0 0 false, .scon [.str [109, 97, 105, 110], .int .u32 1] 0 1 false], .tuple [.nilptr, .int .i64 0, .int .i64 135])]
def depthT : List (List V × V) := [
  ([.scon [.int .u8 3, .int .u32 8, .int .u8 8, .int .u32 4, .int .u8 5, .int .u32 0, .int .u8 4, .int .u32 8, .int .u8 3, .int .u32 4, .int .u8 8, .int .u32 7, .int .u8 4, .int .u32 4] 0 7 false, .scon [] 0 0 false], .tuple [.scon [.int .i64 0, .int .i64 0, .int .i64 1, .int .i64 1, .int .i64 0, .int .i64 0, .int .i64 1] 0 7 false, .scon [.int .i64 1, .int .i64 1] 0 2 false, .int .i64 0, .int .i64 0]),
  ([.scon [.int .u8 3, .int .u32 8, .int .u8 1, .int .u32 0, .int .u8 5, .int .u32 0, .int .u8 4, .int .u32 8, .int .u8 3, .int .u32 4, .int .u8 8, .int .u32 7, .int .u8 4, .int .u32 4] 0 7 false, .scon [] 0 0 false], .tuple [.scon [] 0 0 false, .scon [] 0 0 false, .int .i64 2, .int .i64 140])]
def encT : List (List V × V) := [
  ([.agg [.scon [.int .u8 3, .int .u32 8, .int .u8 8, .int .u32 4, .int .u8 5, .int .u32 0, .int .u8 4, .int .u32 8, .int .u8 3, .int .u32 4, .int .u8 8, .int .u32 7, .int .u8 4, .int .u32 4] 0 7 false, .scon [] 0 0 false, .scon [] 0 0 false, .int .u32 0, .int .u32 64, .scon [.str [109, 97, 105, 110], .int .u32 0] 0 1 false]], .tuple [.scon [.int .u8 80, .int .u8 69, .int .u8 78, .int .u8 33, .int .u8 1, .int .u8 0, .int .u8 0, .int .u8 0, .int .u8 161, .int .u8 4, .int .u8 103, .int .u8 214, .int .u8 7, .int .u8 0, .int .u8 0, .int .u8 0, .int .u8 64, .int .u8 0, .int .u8 0, .int .u8 0, .int .u8 23, .int .u8 0, .int .u8 0, .int .u8 0, .int .u8 87, .int .u8 0, .int .u8 0, .int .u8 0, .int .u8 0, .int .u8 0, .int .u8 0, .int .u8 0, .int .u8 87, .int .u8 0, .int .u8 0, .int .u8 0, .int .u8 0, .int .u8 0, .int .u8 0, .int .u8 0, .int .u8 87, .int .u8 0, .int .u8 0, .int .u8 0, .int .u8 9, .int .u8 0, .int .u8 0, .int .u8 0, .int .u8 0, .int .u8 0, .int .u8 0, .int .u8 0, .int .u8 64, .int .u8 0, .int .u8 0, .int .u8 0, .int .u8 0, .int .u8 0, .int .u8 0, .int .u8 0, .int .u8 0, .int .u8 0, .int .u8 0, .int .u8 0, .int .u8 3, .int .u8 8, .int .u8 0, .int .u8 8, .int .u8 4, .int .u8 0, .int .u8 0, .int .u8 0, .int .u8 5, .int .u8 4, .int .u8 8, .int .u8 0, .int .u8 3, .int .u8 4, .int .u8 0, .int .u8 8, .int .u8 7, .int .u8 0, .int .u8 0, .int .u8 0, .int .u8 4, .int .u8 4, .int .u8 0, .int .u8 0, .int .u8 0, .int .u8 0, .int .u8 0, .int .u8 4, .int .u8 109, .int .u8 97, .int .u8 105, .int .u8 110] 0 96 false, .int .i64 0])]
def sumT : List (List V × V) := [
  ([.scon [.int .u8 80, .int .u8 69, .int .u8 78, .int .u8 33, .int .u8 1, .int .u8 0, .int .u8 0, .int .u8 0, .int .u8 161, .int .u8 4, .int .u8 103, .int .u8 214, .int .u8 7, .int .u8 0, .int .u8 0, .int .u8 0, .int .u8 64, .int .u8 0, .int .u8 0, .int .u8 0, .int .u8 23, .int .u8 0, .int .u8 0, .int .u8 0, .int .u8 87, .int .u8 0, .int .u8 0, .int .u8 0, .int .u8 0, .int .u8 0, .int .u8 0, .int .u8 0, .int .u8 87, .int .u8 0, .int .u8 0, .int .u8 0, .int .u8 0, .int .u8 0, .int .u8 0, .int .u8 0, .int .u8 87, .int .u8 0, .int .u8 0, .int .u8 0, .int .u8 9, .int .u8 0, .int .u8 0, .int .u8 0, .int .u8 0, .int .u8 0, .int .u8 0, .int .u8 0, .int .u8 64, .int .u8 0, .int .u8 0, .int .u8 0, .int .u8 0, .int .u8 0, .int .u8 0, .int .u8 0, .int .u8 0, .int .u8 0, .int .u8 0, .int .u8 0, .int .u8 3, .int .u8 8, .int .u8 0, .int .u8 8, .int .u8 4, .int .u8 0, .int .u8 0, .int .u8 0, .int .u8 5, .int .u8 4, .int .u8 8, .int .u8 0, .int .u8 3, .int .u8 4, .int .u8 0, .int .u8 8, .int .u8 7, .int .u8 0, .int .u8 0, .int .u8 0, .int .u8 4, .int .u8 4, .int .u8 0, .int .u8 0, .int .u8 0, .int .u8 0, .int .u8 0, .int .u8 4, .int .u8 109, .int .u8 97, .int .u8 105, .int .u8 110] 0 96 false], .int .u32 2027030147)]

def known3 (f : Nat) : Option (List V → Heap → Option (V × Heap)) := if Nat.beq f 17 then some (memoF findT) else if Nat.beq f 18 then some (memoF depthT) else if Nat.beq f 20 then some (memoF encT) else if Nat.beq f 21 then some (memoF sumT) else known2 f
noncomputable def E3 : Env := { E with known := known3 }
end Go.Proofs.YtlachkeneeflaabGreat
end
