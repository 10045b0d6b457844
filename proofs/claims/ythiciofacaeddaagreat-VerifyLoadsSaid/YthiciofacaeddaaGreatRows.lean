/-
  No cell of these rows narrows 'for every input' (looked for: loops, veiled, ifaces, maps, wideKeys, modest, calm, conditions, laid).
  DERIVED. THE GIVEN ROWS OF THIS SEAT. 4 by the template 'for every input the law returns true; each argument reads behind the call as it read before'; 0 by the template 'total and deterministic' (their statements: YthiciofacaeddaaGreatTotals.lean).
  GIVEN WITH THE SEED: the statements are not yours to turn. If you find one false, say at which input.
  Laid BY PROGRAM, IN A SANDBOX (cutbox-rows.mjs): the forced cells as the released guide's own fill.sh prints them over the translation 02aafa1a1c779d48… (all of the seat's roots in one cut). By AI agents, Wed Nov 11 2026. No macro, syntax, notation, axiom, sorry.
-/
import Derived.Test.YthiciofacaeddaaGreatChecked
import GoSem.Claim
import GoSem.ClaimJoined
import GoSem.ClaimMapViews
import Derived.JoinedTies
import Derived.KernelRfl
namespace Go.Proofs.YthiciofacaeddaaGreat
/- THE CELL 'sum', in the pinned program and in every row, IS THE sha256 OF THE DUMP (.gsa) THAT YthiciofacaeddaaGreatProg.lean LOADS. Nothing in Lean hashes anything: it is a label: what it is worth is what the hold of that sum in a sandbox is worth. -/
noncomputable def Tryz.pinned : Pinned := { name := "ythiciofacaeddaagreat", sum := "02aafa1a1c779d4834c2298d554a8ac95b8330661e5cde01357a448534f8b6c4", checked := Tryz.checked }
namespace Rows
def none {H : Type} : Left H := { results := [], args := [] }

/-- 'playpenlaw15.VerifyTakes': WHATEVER THE INPUT: true; the input reads as it did. -/
def verifyTakesSpec : ChangeSpec := { name := "verifyTakes", fn := fun _ => fun
  | [d] => { results := [.lit (.bool true)], args := [d] }
  | _ => none }
def verifyTakesRow : OpenClaim := { program := "ythiciofacaeddaagreat", sum := "02aafa1a1c779d4834c2298d554a8ac95b8330661e5cde01357a448534f8b6c4", func := "playpen/playpenlaw15.VerifyTakes", spec := "verifyTakes", unfollowed := true, recurses := true, apart := false }
def VerifyTakesSaid : Prop := verifyTakesRow.holds Tryz.pinned (OpenSpec.ofChange verifyTakesSpec)

/-- ITS FALSE NEIGHBOUR: 'it returns false'. Refute it at one input. -/
def verifyTakesWrong : ChangeSpec := { name := "verifyTakes", fn := fun _ => fun
  | [d] => { results := [.lit (.bool false)], args := [d] }
  | _ => none }
def VerifyTakesWrongFalsely : Prop := verifyTakesRow.holds Tryz.pinned (OpenSpec.ofChange verifyTakesWrong)

/-- 'playpenlaw15.VerifyTells': WHATEVER THE INPUT: true; the input reads as it did. -/
def verifyTellsSpec : ChangeSpec := { name := "verifyTells", fn := fun _ => fun
  | [d1, d2] => { results := [.lit (.bool true)], args := [d1, d2] }
  | _ => none }
def verifyTellsRow : OpenClaim := { program := "ythiciofacaeddaagreat", sum := "02aafa1a1c779d4834c2298d554a8ac95b8330661e5cde01357a448534f8b6c4", func := "playpen/playpenlaw15.VerifyTells", spec := "verifyTells", unfollowed := true, recurses := true, apart := false }
def VerifyTellsSaid : Prop := verifyTellsRow.holds Tryz.pinned (OpenSpec.ofChange verifyTellsSpec)

/-- ITS FALSE NEIGHBOUR: 'it returns false'. Refute it at one input. -/
def verifyTellsWrong : ChangeSpec := { name := "verifyTells", fn := fun _ => fun
  | [d1, d2] => { results := [.lit (.bool false)], args := [d1, d2] }
  | _ => none }
def VerifyTellsWrongFalsely : Prop := verifyTellsRow.holds Tryz.pinned (OpenSpec.ofChange verifyTellsWrong)

/-- 'playpenlaw15.VerifyStays': WHATEVER THE INPUT: true; the input reads as it did. -/
def verifyStaysSpec : ChangeSpec := { name := "verifyStays", fn := fun _ => fun
  | [d1, d2] => { results := [.lit (.bool true)], args := [d1, d2] }
  | _ => none }
def verifyStaysRow : OpenClaim := { program := "ythiciofacaeddaagreat", sum := "02aafa1a1c779d4834c2298d554a8ac95b8330661e5cde01357a448534f8b6c4", func := "playpen/playpenlaw15.VerifyStays", spec := "verifyStays", unfollowed := true, recurses := true, apart := false }
def VerifyStaysSaid : Prop := verifyStaysRow.holds Tryz.pinned (OpenSpec.ofChange verifyStaysSpec)

/-- ITS FALSE NEIGHBOUR: 'it returns false'. Refute it at one input. -/
def verifyStaysWrong : ChangeSpec := { name := "verifyStays", fn := fun _ => fun
  | [d1, d2] => { results := [.lit (.bool false)], args := [d1, d2] }
  | _ => none }
def VerifyStaysWrongFalsely : Prop := verifyStaysRow.holds Tryz.pinned (OpenSpec.ofChange verifyStaysWrong)

/-- 'playpenlaw15.VerifyLoads': WHATEVER THE INPUT: true; the input reads as it did. -/
def verifyLoadsSpec : ChangeSpec := { name := "verifyLoads", fn := fun _ => fun
  | [d] => { results := [.lit (.bool true)], args := [d] }
  | _ => none }
def verifyLoadsRow : OpenClaim := { program := "ythiciofacaeddaagreat", sum := "02aafa1a1c779d4834c2298d554a8ac95b8330661e5cde01357a448534f8b6c4", func := "playpen/playpenlaw15.VerifyLoads", spec := "verifyLoads", unfollowed := true, recurses := true, apart := false }
def VerifyLoadsSaid : Prop := verifyLoadsRow.holds Tryz.pinned (OpenSpec.ofChange verifyLoadsSpec)

/-- ITS FALSE NEIGHBOUR: 'it returns false'. Refute it at one input. -/
def verifyLoadsWrong : ChangeSpec := { name := "verifyLoads", fn := fun _ => fun
  | [d] => { results := [.lit (.bool false)], args := [d] }
  | _ => none }
def VerifyLoadsWrongFalsely : Prop := verifyLoadsRow.holds Tryz.pinned (OpenSpec.ofChange verifyLoadsWrong)

/- THE SECOND FORM. 'bulk': how many values and letters a reading holds, each counted each time it is reached (what is shared counts as often as it is met; a slice's spare places count too). A statement '..UptoSaid' is the law's where the arguments, and the package variables that the reading takes, are together of bulk at most 1048576: NARROWER than '..Said'. Prove '..Said' where nothing that the law and all that it calls make is longer than what came in: it says more and counts as full. Else prove '..UptoSaid'. A law counts once. -/
mutual
def uptoBulk {H : Type} : DataW H → Nat
  | .lit (.string bytes) => bytes.length + 1
  | .lit _ => 1
  | .nil => 1
  | .ptr d => uptoBulk d + 1
  | .slice elems spare => uptoBulkAll elems + uptoBulkAll spare + 1
  | .agg parts => uptoBulkAll parts + 1
  | .iface _ d => uptoBulk d + 1
  | .map entries => uptoBulkEntries entries + 1
  | .held _ => 1
def uptoBulkAll {H : Type} : List (DataW H) → Nat
  | [] => 0
  | d :: r => uptoBulk d + uptoBulkAll r
def uptoBulkEntries {H : Type} : List (Lit × DataW H) → Nat
  | [] => 0
  | x :: r => uptoBulkEntry x + uptoBulkEntries r
def uptoBulkEntry {H : Type} : Lit × DataW H → Nat
  | (.string bytes, d) => bytes.length + uptoBulk d + 1
  | (_, d) => uptoBulk d + 1
 end
def uptoSmall : (H : Type) → List (DataW H) → Bool := fun _ ds => decide (uptoBulkAll ds ≤ 1048576)
def OpenSpec.upto (s : _root_.Go.ChangeSpec) : _root_.Go.OpenSpec := { _root_.Go.OpenSpec.ofChange s with cond := some uptoSmall }

/-- 'playpenlaw15.VerifyTakes', WHERE WHAT IT READS IS OF BULK AT MOST 1048576: true; the input reads as it did. -/
def verifyTakesUptoRow : OpenClaim := { program := "ythiciofacaeddaagreat", sum := "02aafa1a1c779d4834c2298d554a8ac95b8330661e5cde01357a448534f8b6c4", func := "playpen/playpenlaw15.VerifyTakes", spec := "verifyTakes", unfollowed := true, recurses := true, apart := false, narrowed := true }
def VerifyTakesUptoSaid : Prop := verifyTakesUptoRow.holds Tryz.pinned (OpenSpec.upto verifyTakesSpec)

/-- 'playpenlaw15.VerifyTells', WHERE WHAT IT READS IS OF BULK AT MOST 1048576: true; the input reads as it did. -/
def verifyTellsUptoRow : OpenClaim := { program := "ythiciofacaeddaagreat", sum := "02aafa1a1c779d4834c2298d554a8ac95b8330661e5cde01357a448534f8b6c4", func := "playpen/playpenlaw15.VerifyTells", spec := "verifyTells", unfollowed := true, recurses := true, apart := false, narrowed := true }
def VerifyTellsUptoSaid : Prop := verifyTellsUptoRow.holds Tryz.pinned (OpenSpec.upto verifyTellsSpec)

/-- 'playpenlaw15.VerifyStays', WHERE WHAT IT READS IS OF BULK AT MOST 1048576: true; the input reads as it did. -/
def verifyStaysUptoRow : OpenClaim := { program := "ythiciofacaeddaagreat", sum := "02aafa1a1c779d4834c2298d554a8ac95b8330661e5cde01357a448534f8b6c4", func := "playpen/playpenlaw15.VerifyStays", spec := "verifyStays", unfollowed := true, recurses := true, apart := false, narrowed := true }
def VerifyStaysUptoSaid : Prop := verifyStaysUptoRow.holds Tryz.pinned (OpenSpec.upto verifyStaysSpec)

/-- 'playpenlaw15.VerifyLoads', WHERE WHAT IT READS IS OF BULK AT MOST 1048576: true; the input reads as it did. -/
def verifyLoadsUptoRow : OpenClaim := { program := "ythiciofacaeddaagreat", sum := "02aafa1a1c779d4834c2298d554a8ac95b8330661e5cde01357a448534f8b6c4", func := "playpen/playpenlaw15.VerifyLoads", spec := "verifyLoads", unfollowed := true, recurses := true, apart := false, narrowed := true }
def VerifyLoadsUptoSaid : Prop := verifyLoadsUptoRow.holds Tryz.pinned (OpenSpec.upto verifyLoadsSpec)

end Rows
end Go.Proofs.YthiciofacaeddaaGreat
