/-
  No cell of these rows narrows 'for every input' (looked for: loops, veiled, ifaces, maps, wideKeys, modest, calm, conditions, laid).
  DERIVED. THE GIVEN ROWS OF THIS SEAT. 3 by the template 'for every input the law returns true; each argument reads behind the call as it read before'; 0 by the template 'total and deterministic' (their statements: YtpfodignhibjgaaTotals.lean).
  GIVEN WITH THE SEED: the statements are not yours to turn. If you find one false, say at which input.
  Laid BY PROGRAM, IN A SANDBOX (cutbox-rows.mjs): the forced cells as the released guide's own fill.sh prints them over the translation 72045cd13f7a7c67… (all of the seat's roots in one cut). By AI agents, Wed Nov 11 2026. No macro, syntax, notation, axiom, sorry.
-/
import Derived.Test.YtpfodignhibjgaaChecked
import GoSem.Claim
import GoSem.ClaimJoined
import GoSem.ClaimMapViews
import Derived.JoinedTies
import Derived.KernelRfl
namespace Go.Proofs.Ytpfodignhibjgaa
/- THE CELL 'sum', in the pinned program and in every row, IS THE sha256 OF THE DUMP (.gsa) THAT YtpfodignhibjgaaProg.lean LOADS. Nothing in Lean hashes anything: it is a label: what it is worth is what the hold of that sum in a sandbox is worth. -/
noncomputable def Try.pinned : Pinned := { name := "ytpfodignhibjgaa", sum := "72045cd13f7a7c67afefe4d995d5e30a0100d26e0f4baeafc846848f312df7a3", checked := Try.checked }
namespace Rows
def none {H : Type} : Left H := { results := [], args := [] }

/-- 'playpenlaw14.FlowNops': WHATEVER THE INPUT: true; the input reads as it did. -/
def flowNopsSpec : ChangeSpec := { name := "flowNops", fn := fun _ => fun
  | [d1, d2] => { results := [.lit (.bool true)], args := [d1, d2] }
  | _ => none }
def flowNopsRow : OpenClaim := { program := "ytpfodignhibjgaa", sum := "72045cd13f7a7c67afefe4d995d5e30a0100d26e0f4baeafc846848f312df7a3", func := "playpen/playpenlaw14.FlowNops", spec := "flowNops", unfollowed := true, recurses := true, apart := false }
def FlowNopsSaid : Prop := flowNopsRow.holds Try.pinned (OpenSpec.ofChange flowNopsSpec)

/-- ITS FALSE NEIGHBOUR: 'it returns false'. Refute it at one input. -/
def flowNopsWrong : ChangeSpec := { name := "flowNops", fn := fun _ => fun
  | [d1, d2] => { results := [.lit (.bool false)], args := [d1, d2] }
  | _ => none }
def FlowNopsWrongFalsely : Prop := flowNopsRow.holds Try.pinned (OpenSpec.ofChange flowNopsWrong)

/-- 'playpenlaw14.FlowSound': WHATEVER THE INPUT: true; the input reads as it did. -/
def flowSoundSpec : ChangeSpec := { name := "flowSound", fn := fun _ => fun
  | [d] => { results := [.lit (.bool true)], args := [d] }
  | _ => none }
def flowSoundRow : OpenClaim := { program := "ytpfodignhibjgaa", sum := "72045cd13f7a7c67afefe4d995d5e30a0100d26e0f4baeafc846848f312df7a3", func := "playpen/playpenlaw14.FlowSound", spec := "flowSound", unfollowed := true, recurses := true, apart := false }
def FlowSoundSaid : Prop := flowSoundRow.holds Try.pinned (OpenSpec.ofChange flowSoundSpec)

/-- ITS FALSE NEIGHBOUR: 'it returns false'. Refute it at one input. -/
def flowSoundWrong : ChangeSpec := { name := "flowSound", fn := fun _ => fun
  | [d] => { results := [.lit (.bool false)], args := [d] }
  | _ => none }
def FlowSoundWrongFalsely : Prop := flowSoundRow.holds Try.pinned (OpenSpec.ofChange flowSoundWrong)

/-- 'playpenlaw14.FlowTiles': WHATEVER THE INPUT: true; the input reads as it did. -/
def flowTilesSpec : ChangeSpec := { name := "flowTiles", fn := fun _ => fun
  | [d] => { results := [.lit (.bool true)], args := [d] }
  | _ => none }
def flowTilesRow : OpenClaim := { program := "ytpfodignhibjgaa", sum := "72045cd13f7a7c67afefe4d995d5e30a0100d26e0f4baeafc846848f312df7a3", func := "playpen/playpenlaw14.FlowTiles", spec := "flowTiles", unfollowed := true, recurses := true, apart := false }
def FlowTilesSaid : Prop := flowTilesRow.holds Try.pinned (OpenSpec.ofChange flowTilesSpec)

/-- ITS FALSE NEIGHBOUR: 'it returns false'. Refute it at one input. -/
def flowTilesWrong : ChangeSpec := { name := "flowTiles", fn := fun _ => fun
  | [d] => { results := [.lit (.bool false)], args := [d] }
  | _ => none }
def FlowTilesWrongFalsely : Prop := flowTilesRow.holds Try.pinned (OpenSpec.ofChange flowTilesWrong)

/- THE SECOND FORM. 'bulk': how many values and letters a reading holds, each counted each time it is reached (what is shared counts as often as it is met; a slice's spare places count too). A statement '..UptoSaid' is the law's where the arguments, and the package variables that the reading takes, are together of bulk at most 1048576: NARROWER than '..Said'. Prove '..Said' where nothing that the law and all that it calls make is longer than what came in: it says more and counts as full. Else prove '..UptoSaid'. A law counts once. -/
mutual
def uptoBulk {H : Type} : DataW H → Nat
  | .lit (.string bytes) => bytes.length + 1
  | .lit _ => 1
  | .nil => 1
  | .ptr d => uptoBulk d + 1
  | .slice elems spare => uptoBulkAll elems + uptoBulkAll spare + 1
  | .agg parts => uptoBulkAll parts + 1
  | .iface _ d => uptoBulk d + 1
  | .map entries => uptoBulkEntries entries + 1
  | .held _ => 1
def uptoBulkAll {H : Type} : List (DataW H) → Nat
  | [] => 0
  | d :: r => uptoBulk d + uptoBulkAll r
def uptoBulkEntries {H : Type} : List (Lit × DataW H) → Nat
  | [] => 0
  | x :: r => uptoBulkEntry x + uptoBulkEntries r
def uptoBulkEntry {H : Type} : Lit × DataW H → Nat
  | (.string bytes, d) => bytes.length + uptoBulk d + 1
  | (_, d) => uptoBulk d + 1
 end
def uptoSmall : (H : Type) → List (DataW H) → Bool := fun _ ds => decide (uptoBulkAll ds ≤ 1048576)
def OpenSpec.upto (s : _root_.Go.ChangeSpec) : _root_.Go.OpenSpec := { _root_.Go.OpenSpec.ofChange s with cond := some uptoSmall }

/-- 'playpenlaw14.FlowNops', WHERE WHAT IT READS IS OF BULK AT MOST 1048576: true; the input reads as it did. -/
def flowNopsUptoRow : OpenClaim := { program := "ytpfodignhibjgaa", sum := "72045cd13f7a7c67afefe4d995d5e30a0100d26e0f4baeafc846848f312df7a3", func := "playpen/playpenlaw14.FlowNops", spec := "flowNops", unfollowed := true, recurses := true, apart := false, narrowed := true }
def FlowNopsUptoSaid : Prop := flowNopsUptoRow.holds Try.pinned (OpenSpec.upto flowNopsSpec)

/-- 'playpenlaw14.FlowSound', WHERE WHAT IT READS IS OF BULK AT MOST 1048576: true; the input reads as it did. -/
def flowSoundUptoRow : OpenClaim := { program := "ytpfodignhibjgaa", sum := "72045cd13f7a7c67afefe4d995d5e30a0100d26e0f4baeafc846848f312df7a3", func := "playpen/playpenlaw14.FlowSound", spec := "flowSound", unfollowed := true, recurses := true, apart := false, narrowed := true }
def FlowSoundUptoSaid : Prop := flowSoundUptoRow.holds Try.pinned (OpenSpec.upto flowSoundSpec)

/-- 'playpenlaw14.FlowTiles', WHERE WHAT IT READS IS OF BULK AT MOST 1048576: true; the input reads as it did. -/
def flowTilesUptoRow : OpenClaim := { program := "ytpfodignhibjgaa", sum := "72045cd13f7a7c67afefe4d995d5e30a0100d26e0f4baeafc846848f312df7a3", func := "playpen/playpenlaw14.FlowTiles", spec := "flowTiles", unfollowed := true, recurses := true, apart := false, narrowed := true }
def FlowTilesUptoSaid : Prop := flowTilesUptoRow.holds Try.pinned (OpenSpec.upto flowTilesSpec)

end Rows
end Go.Proofs.Ytpfodignhibjgaa
