/-
  No cell of these rows narrows 'for every input' (looked for: loops, veiled, ifaces, maps, wideKeys, modest, calm, conditions, laid).
  DERIVED. THE GIVEN ROWS OF THIS SEAT. 4 by the template 'for every input the law returns true; each argument reads behind the call as it read before'; 0 by the template 'total and deterministic' (their statements: YtjmipgfaghjgmaaTotals.lean).
  GIVEN WITH THE SEED: the statements are not yours to turn. If you find one false, say at which input.
  Laid BY PROGRAM, IN A SANDBOX (cutbox-rows.mjs): the forced cells as the released guide's own fill.sh prints them over the translation 2a0d377a6cc9634c… (all of the seat's roots in one cut). By AI agents, Wed Nov 11 2026. No macro, syntax, notation, axiom, sorry.
-/
import Derived.Test.YtjmipgfaghjgmaaChecked
import GoSem.Claim
import GoSem.ClaimJoined
import GoSem.ClaimMapViews
import Derived.JoinedTies
import Derived.KernelRfl
namespace Go.Proofs.Ytjmipgfaghjgmaa
/- THE CELL 'sum', in the pinned program and in every row, IS THE sha256 OF THE DUMP (.gsa) THAT YtjmipgfaghjgmaaProg.lean LOADS. Nothing in Lean hashes anything: it is a label: what it is worth is what the hold of that sum in a sandbox is worth. -/
noncomputable def Try.pinned : Pinned := { name := "ytjmipgfaghjgmaa", sum := "2a0d377a6cc9634c87a4254b658353403debe7eb07cc20e70bc2ac873028404c", checked := Try.checked }
namespace Rows
def none {H : Type} : Left H := { results := [], args := [] }

/-- 'playpenlaw22.FuseMeans': WHATEVER THE INPUT: true; the input reads as it did. -/
def fuseMeansSpec : ChangeSpec := { name := "fuseMeans", fn := fun _ => fun
  | [d1, d2, d3, d4, d5, d6] => { results := [.lit (.bool true)], args := [d1, d2, d3, d4, d5, d6] }
  | _ => none }
def fuseMeansRow : OpenClaim := { program := "ytjmipgfaghjgmaa", sum := "2a0d377a6cc9634c87a4254b658353403debe7eb07cc20e70bc2ac873028404c", func := "playpen/playpenlaw22.FuseMeans", spec := "fuseMeans", inPlace := ["math.Float32frombits", "math.Float32bits"], unfollowed := true, recurses := true, apart := false }
def FuseMeansSaid : Prop := fuseMeansRow.holds Try.pinned (OpenSpec.ofChange fuseMeansSpec)

/-- ITS FALSE NEIGHBOUR: 'it returns false'. Refute it at one input. -/
def fuseMeansWrong : ChangeSpec := { name := "fuseMeans", fn := fun _ => fun
  | [d1, d2, d3, d4, d5, d6] => { results := [.lit (.bool false)], args := [d1, d2, d3, d4, d5, d6] }
  | _ => none }
def FuseMeansWrongFalsely : Prop := fuseMeansRow.holds Try.pinned (OpenSpec.ofChange fuseMeansWrong)

/-- 'playpenlaw22.FuseApart': WHATEVER THE INPUT: true; the input reads as it did. -/
def fuseApartSpec : ChangeSpec := { name := "fuseApart", fn := fun _ => fun
  | [d1, d2, d3, d4] => { results := [.lit (.bool true)], args := [d1, d2, d3, d4] }
  | _ => none }
def fuseApartRow : OpenClaim := { program := "ytjmipgfaghjgmaa", sum := "2a0d377a6cc9634c87a4254b658353403debe7eb07cc20e70bc2ac873028404c", func := "playpen/playpenlaw22.FuseApart", spec := "fuseApart", inPlace := ["math.Float32frombits", "math.Float32bits"], unfollowed := true, recurses := true, apart := false }
def FuseApartSaid : Prop := fuseApartRow.holds Try.pinned (OpenSpec.ofChange fuseApartSpec)

/-- ITS FALSE NEIGHBOUR: 'it returns false'. Refute it at one input. -/
def fuseApartWrong : ChangeSpec := { name := "fuseApart", fn := fun _ => fun
  | [d1, d2, d3, d4] => { results := [.lit (.bool false)], args := [d1, d2, d3, d4] }
  | _ => none }
def FuseApartWrongFalsely : Prop := fuseApartRow.holds Try.pinned (OpenSpec.ofChange fuseApartWrong)

/-- 'playpenlaw22.FuseKnown': WHATEVER THE INPUT: true; the input reads as it did. -/
def fuseKnownSpec : ChangeSpec := { name := "fuseKnown", fn := fun _ => fun
  | [] => { results := [.lit (.bool true)], args := [] }
  | _ => none }
def fuseKnownRow : OpenClaim := { program := "ytjmipgfaghjgmaa", sum := "2a0d377a6cc9634c87a4254b658353403debe7eb07cc20e70bc2ac873028404c", func := "playpen/playpenlaw22.FuseKnown", spec := "fuseKnown", inPlace := ["math.Float32frombits", "math.Float32bits"], unfollowed := true, recurses := true, apart := false }
def FuseKnownSaid : Prop := fuseKnownRow.holds Try.pinned (OpenSpec.ofChange fuseKnownSpec)

/-- ITS FALSE NEIGHBOUR: 'it returns false'. Refute it at one input. -/
def fuseKnownWrong : ChangeSpec := { name := "fuseKnown", fn := fun _ => fun
  | [] => { results := [.lit (.bool false)], args := [] }
  | _ => none }
def FuseKnownWrongFalsely : Prop := fuseKnownRow.holds Try.pinned (OpenSpec.ofChange fuseKnownWrong)

/-- 'playpenlaw22.FuseCovers': WHATEVER THE INPUT: true; the input reads as it did. -/
def fuseCoversSpec : ChangeSpec := { name := "fuseCovers", fn := fun _ => fun
  | [d1, d2, d3] => { results := [.lit (.bool true)], args := [d1, d2, d3] }
  | _ => none }
def fuseCoversRow : OpenClaim := { program := "ytjmipgfaghjgmaa", sum := "2a0d377a6cc9634c87a4254b658353403debe7eb07cc20e70bc2ac873028404c", func := "playpen/playpenlaw22.FuseCovers", spec := "fuseCovers", inPlace := ["math.Float32frombits", "math.Float32bits"], unfollowed := true, recurses := true, apart := false }
def FuseCoversSaid : Prop := fuseCoversRow.holds Try.pinned (OpenSpec.ofChange fuseCoversSpec)

/-- ITS FALSE NEIGHBOUR: 'it returns false'. Refute it at one input. -/
def fuseCoversWrong : ChangeSpec := { name := "fuseCovers", fn := fun _ => fun
  | [d1, d2, d3] => { results := [.lit (.bool false)], args := [d1, d2, d3] }
  | _ => none }
def FuseCoversWrongFalsely : Prop := fuseCoversRow.holds Try.pinned (OpenSpec.ofChange fuseCoversWrong)

/- THE SECOND FORM. 'bulk': how many values and letters a reading holds, each counted each time it is reached (what is shared counts as often as it is met; a slice's spare places count too). A statement '..UptoSaid' is the law's where the arguments, and the package variables that the reading takes, are together of bulk at most 1048576: NARROWER than '..Said'. Prove '..Said' where nothing that the law and all that it calls make is longer than what came in: it says more and counts as full. Else prove '..UptoSaid'. A law counts once. -/
mutual
def uptoBulk {H : Type} : DataW H → Nat
  | .lit (.string bytes) => bytes.length + 1
  | .lit _ => 1
  | .nil => 1
  | .ptr d => uptoBulk d + 1
  | .slice elems spare => uptoBulkAll elems + uptoBulkAll spare + 1
  | .agg parts => uptoBulkAll parts + 1
  | .iface _ d => uptoBulk d + 1
  | .map entries => uptoBulkEntries entries + 1
  | .held _ => 1
def uptoBulkAll {H : Type} : List (DataW H) → Nat
  | [] => 0
  | d :: r => uptoBulk d + uptoBulkAll r
def uptoBulkEntries {H : Type} : List (Lit × DataW H) → Nat
  | [] => 0
  | x :: r => uptoBulkEntry x + uptoBulkEntries r
def uptoBulkEntry {H : Type} : Lit × DataW H → Nat
  | (.string bytes, d) => bytes.length + uptoBulk d + 1
  | (_, d) => uptoBulk d + 1
 end
def uptoSmall : (H : Type) → List (DataW H) → Bool := fun _ ds => decide (uptoBulkAll ds ≤ 1048576)
def OpenSpec.upto (s : _root_.Go.ChangeSpec) : _root_.Go.OpenSpec := { _root_.Go.OpenSpec.ofChange s with cond := some uptoSmall }

/-- 'playpenlaw22.FuseMeans', WHERE WHAT IT READS IS OF BULK AT MOST 1048576: true; the input reads as it did. -/
def fuseMeansUptoRow : OpenClaim := { program := "ytjmipgfaghjgmaa", sum := "2a0d377a6cc9634c87a4254b658353403debe7eb07cc20e70bc2ac873028404c", func := "playpen/playpenlaw22.FuseMeans", spec := "fuseMeans", inPlace := ["math.Float32frombits", "math.Float32bits"], unfollowed := true, recurses := true, apart := false, narrowed := true }
def FuseMeansUptoSaid : Prop := fuseMeansUptoRow.holds Try.pinned (OpenSpec.upto fuseMeansSpec)

/-- 'playpenlaw22.FuseApart', WHERE WHAT IT READS IS OF BULK AT MOST 1048576: true; the input reads as it did. -/
def fuseApartUptoRow : OpenClaim := { program := "ytjmipgfaghjgmaa", sum := "2a0d377a6cc9634c87a4254b658353403debe7eb07cc20e70bc2ac873028404c", func := "playpen/playpenlaw22.FuseApart", spec := "fuseApart", inPlace := ["math.Float32frombits", "math.Float32bits"], unfollowed := true, recurses := true, apart := false, narrowed := true }
def FuseApartUptoSaid : Prop := fuseApartUptoRow.holds Try.pinned (OpenSpec.upto fuseApartSpec)

/-- 'playpenlaw22.FuseKnown', WHERE WHAT IT READS IS OF BULK AT MOST 1048576: true; the input reads as it did. -/
def fuseKnownUptoRow : OpenClaim := { program := "ytjmipgfaghjgmaa", sum := "2a0d377a6cc9634c87a4254b658353403debe7eb07cc20e70bc2ac873028404c", func := "playpen/playpenlaw22.FuseKnown", spec := "fuseKnown", inPlace := ["math.Float32frombits", "math.Float32bits"], unfollowed := true, recurses := true, apart := false, narrowed := true }
def FuseKnownUptoSaid : Prop := fuseKnownUptoRow.holds Try.pinned (OpenSpec.upto fuseKnownSpec)

/-- 'playpenlaw22.FuseCovers', WHERE WHAT IT READS IS OF BULK AT MOST 1048576: true; the input reads as it did. -/
def fuseCoversUptoRow : OpenClaim := { program := "ytjmipgfaghjgmaa", sum := "2a0d377a6cc9634c87a4254b658353403debe7eb07cc20e70bc2ac873028404c", func := "playpen/playpenlaw22.FuseCovers", spec := "fuseCovers", inPlace := ["math.Float32frombits", "math.Float32bits"], unfollowed := true, recurses := true, apart := false, narrowed := true }
def FuseCoversUptoSaid : Prop := fuseCoversUptoRow.holds Try.pinned (OpenSpec.upto fuseCoversSpec)

end Rows
end Go.Proofs.Ytjmipgfaghjgmaa
