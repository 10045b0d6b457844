/-
  The machine of values: equations of its parts for 'simp', constructor by constructor.
  The machine of values: words and laws for walks: numbers, lists with their contents.
  The machine of values: lists of things of one kind, by their contents.
  The machine of values: lists that are being written.
  The machine of values: ranges over functions, told from the end.
  The machine of values: what slices.Clone does, from its operations.
  The machine of values: what slices.Clone does, by contents alone.
  The machine of values: structs that are compared.
  The machine of values: the same evaluator, in a form in which the kernel reckons quickly: what an operation gives is laid out before it is kept.
  The machine of values: what has been reckoned before is taken for known.
  The machine of values: from a given statement's form to it. What an argument reads as, by its contents; what a law's answer is to be.
  The machine of values: functions that answer numbers of numbers, by what they were walked to answer.
  The machine of values: arguments that are structs, by their cells; lists that nobody reads.
  The machine of values: lists of structs as arguments, by their contents.
  The machine of values: how long a list can be that an argument reads as.
  The machine of values: lists of whatever cells as arguments, by their contents (lists of structs that hold lists).
  The machine of values: a loop told by what changes at its head.
-/
import Derived.Test.YtijfffbhhlmgmaaGreatDoorMd
import Derived.IntWalk
import Derived.Deep.Slices
import Derived.Carry
import Derived.ChangeSame
import Derived.OpenShut
import Derived.SizedLaws
section
namespace Go.Sim
open Go
set_option linter.unusedVariables false
set_option linter.unusedSimpArgs false

@[simp] theorem flat_int {k} {n} : V.flat (.int k n : V) = true := by simp only [V.flat]
@[simp] theorem flat_pref {d} {j} {o} {e} : V.flat (.pref d j o e : V) = false := by simp only [V.flat]
@[simp] theorem flat_nilslice : V.flat (.nilslice : V) = true := by simp only [V.flat]
@[simp] theorem flat_sref {d} {j} {o} {l} {e} {q} : V.flat (.sref d j o l e q : V) = false := by simp only [V.flat]
@[simp] theorem flat_scon {cs} {o} {l} {f} : V.flat (.scon cs o l f : V) = true := by simp only [V.flat]
@[simp] theorem flat_func {fn} {a} {b} : V.flat (.func fn a b : V) = (V.flatL a && V.flatL b) := by simp only [V.flat]
@[simp] theorem flat_iface {ty} {v} : V.flat (.iface ty v : V) = V.flat v := by simp only [V.flat]
@[simp] theorem flat_agg {cs} : V.flat (.agg cs : V) = V.flatL cs := by simp only [V.flat]
@[simp] theorem flat_tuple {vs} : V.flat (.tuple vs : V) = V.flatL vs := by simp only [V.flat]
@[simp] theorem flat_mref {d} {j} : V.flat (.mref d j : V) = false := by simp only [V.flat]
@[simp] theorem flat_yield {d} {j} : V.flat (.yield d j : V) = false := by simp only [V.flat]
@[simp] theorem flat_poison : V.flat (.poison : V) = false := by simp only [V.flat]
@[simp] theorem plain_bool {b} : V.plain (.bool b : V) = true := by simp only [V.plain]
@[simp] theorem plain_int {k} {n} : V.plain (.int k n : V) = true := by simp only [V.plain]
@[simp] theorem plain_nilslice : V.plain (.nilslice : V) = true := by simp only [V.plain]
@[simp] theorem plain_sref {d} {j} {o} {l} {e} {q} : V.plain (.sref d j o l e q : V) = false := by simp only [V.plain]
@[simp] theorem plain_scon {cs} {o} {l} {f} : V.plain (.scon cs o l f : V) = false := by simp only [V.plain]
@[simp] theorem plain_mref {d} {j} : V.plain (.mref d j : V) = false := by simp only [V.plain]
@[simp] theorem cell1_int {k} {n} : V.cell1 (.int k n : V) = true := by simp only [V.cell1]
@[simp] theorem cell1_nilslice : V.cell1 (.nilslice : V) = true := by simp only [V.cell1]
@[simp] theorem cell1_sref {d} {j} {o} {l} {e} {q} : V.cell1 (.sref d j o l e q : V) = true := by simp only [V.cell1]
@[simp] theorem cell1_scon {cs} {o} {l} {f} : V.cell1 (.scon cs o l f : V) = true := by simp only [V.cell1]
@[simp] theorem cell1_mref {d} {j} : V.cell1 (.mref d j : V) = true := by simp only [V.cell1]
@[simp] theorem canon_bool {b} : V.canon (.bool b : V) = (.bool b) := by simp only [V.canon]
@[simp] theorem canon_int {k} {n} : V.canon (.int k n : V) = (.int k n) := by simp only [V.canon]
@[simp] theorem canon_nilslice : V.canon (.nilslice : V) = .scon [] 0 0 false := by simp only [V.canon]
@[simp] theorem canon_scon {cs} {o} {l} {f} : V.canon (.scon cs o l f : V) = .scon (V.canonL cs) o l false := by simp only [V.canon]
@[simp] theorem canon_func {fn} {a} {b} : V.canon (.func fn a b : V) = (.func fn a b) := by simp only [V.canon]
@[simp] theorem canon_agg {cs} : V.canon (.agg cs : V) = .agg (V.canonL cs) := by simp only [V.canon]
@[simp] theorem canon_tuple {vs} : V.canon (.tuple vs : V) = .tuple (V.canonL vs) := by simp only [V.canon]
@[simp] theorem up_int {m : Nat} {k} {n} : V.up m (.int k n : V) = (.int k n) := by simp only [V.up]
@[simp] theorem up_pref {m : Nat} {d} {j} {o} {e} : V.up m (.pref d j o e : V) = .pref (d + m) j o e := by simp only [V.up]
@[simp] theorem up_scon {m : Nat} {cs} {o} {l} {f} : V.up m (.scon cs o l f : V) = (.scon cs o l f) := by simp only [V.up]
@[simp] theorem up_agg {m : Nat} {cs} : V.up m (.agg cs : V) = .agg (V.upL m cs) := by simp only [V.up]
@[simp] theorem up_mref {m : Nat} {d} {j} : V.up m (.mref d j : V) = .mref (d + m) j := by simp only [V.up]
@[simp] theorem out_bool {m : Nat} {b} : V.out m (.bool b : V) = (.bool b) := by simp only [V.out]
@[simp] theorem out_int {m : Nat} {k} {n} : V.out m (.int k n : V) = (.int k n) := by simp only [V.out]
@[simp] theorem out_float {m : Nat} {k} {n} : V.out m (.float k n : V) = (.float k n) := by simp only [V.out]
@[simp] theorem out_str {m : Nat} {s} : V.out m (.str s : V) = (.str s) := by simp only [V.out]
@[simp] theorem out_nilptr {m : Nat} : V.out m (.nilptr : V) = .nilptr := by simp only [V.out]
@[simp] theorem out_pref {m : Nat} {d} {j} {o} {e} : V.out m (.pref d j o e : V) = if d = 0 then .pref 0 (m + j) o e else .pref (d - 1) j o e := by simp only [V.out]
@[simp] theorem out_pcon {m : Nat} {cs} {o} : V.out m (.pcon cs o : V) = (.pcon cs o) := by simp only [V.out]
@[simp] theorem out_nilslice {m : Nat} : V.out m (.nilslice : V) = .nilslice := by simp only [V.out]
@[simp] theorem out_sref {m : Nat} {d} {j} {o} {l} {e} {q} : V.out m (.sref d j o l e q : V) = if d = 0 then .sref 0 (m + j) o l e q else .sref (d - 1) j o l e q := by simp only [V.out]
@[simp] theorem out_scon {m : Nat} {cs} {o} {l} {f} : V.out m (.scon cs o l f : V) = (.scon cs o l f) := by simp only [V.out]
@[simp] theorem out_func {m : Nat} {fn} {a} {b} : V.out m (.func fn a b : V) = .func fn (V.outL m a) (V.outL m b) := by simp only [V.out]
@[simp] theorem out_nilfunc {m : Nat} : V.out m (.nilfunc : V) = .nilfunc := by simp only [V.out]
@[simp] theorem out_iface {m : Nat} {ty} {v} : V.out m (.iface ty v : V) = .iface ty (V.out m v) := by simp only [V.out]
@[simp] theorem out_niliface {m : Nat} : V.out m (.niliface : V) = .niliface := by simp only [V.out]
@[simp] theorem out_agg {m : Nat} {cs} : V.out m (.agg cs : V) = .agg (V.outL m cs) := by simp only [V.out]
@[simp] theorem out_tuple {m : Nat} {vs} : V.out m (.tuple vs : V) = .tuple (V.outL m vs) := by simp only [V.out]
@[simp] theorem out_mref {m : Nat} {d} {j} : V.out m (.mref d j : V) = if d = 0 then .mref 0 (m + j) else .mref (d - 1) j := by simp only [V.out]
@[simp] theorem out_nilmap {m : Nat} : V.out m (.nilmap : V) = .nilmap := by simp only [V.out]
@[simp] theorem settle_bool {m : Nat} {H : Heap} {b} : V.settle m H (.bool b : V) = (.bool b) := by simp only [V.settle]
@[simp] theorem settle_int {m : Nat} {H : Heap} {k} {n} : V.settle m H (.int k n : V) = (.int k n) := by simp only [V.settle]
@[simp] theorem settle_float {m : Nat} {H : Heap} {k} {n} : V.settle m H (.float k n : V) = (.float k n) := by simp only [V.settle]
@[simp] theorem settle_str {m : Nat} {H : Heap} {s} : V.settle m H (.str s : V) = (.str s) := by simp only [V.settle]
@[simp] theorem settle_nilptr {m : Nat} {H : Heap} : V.settle m H (.nilptr : V) = .nilptr := by simp only [V.settle]
@[simp] theorem settle_pref {m : Nat} {H : Heap} {d} {j} {o} {e} : V.settle m H (.pref d j o e : V) = if d == 0 && Nat.ble m j then (V.view 50 H (.pref d j o e)).getD .poison else .pref d j o e := by simp only [V.settle]
@[simp] theorem settle_pcon {m : Nat} {H : Heap} {cs} {o} : V.settle m H (.pcon cs o : V) = (.pcon cs o) := by simp only [V.settle]
@[simp] theorem settle_nilslice {m : Nat} {H : Heap} : V.settle m H (.nilslice : V) = .nilslice := by simp only [V.settle]
@[simp] theorem settle_sref {m : Nat} {H : Heap} {d} {j} {o} {l} {e} {q} : V.settle m H (.sref d j o l e q : V) = if d == 0 && Nat.ble m j then (V.view 50 H (.sref d j o l e q)).getD .poison else .sref d j o l e q := by simp only [V.settle]
@[simp] theorem settle_scon {m : Nat} {H : Heap} {cs} {o} {l} {f} : V.settle m H (.scon cs o l f : V) = (.scon cs o l f) := by simp only [V.settle]
@[simp] theorem settle_func {m : Nat} {H : Heap} {fn} {a} {b} : V.settle m H (.func fn a b : V) = .func fn (V.settleL m H a) (V.settleL m H b) := by simp only [V.settle]
@[simp] theorem settle_nilfunc {m : Nat} {H : Heap} : V.settle m H (.nilfunc : V) = .nilfunc := by simp only [V.settle]
@[simp] theorem settle_iface {m : Nat} {H : Heap} {ty} {v} : V.settle m H (.iface ty v : V) = .iface ty (V.settle m H v) := by simp only [V.settle]
@[simp] theorem settle_niliface {m : Nat} {H : Heap} : V.settle m H (.niliface : V) = .niliface := by simp only [V.settle]
@[simp] theorem settle_agg {m : Nat} {H : Heap} {cs} : V.settle m H (.agg cs : V) = .agg (V.settleL m H cs) := by simp only [V.settle]
@[simp] theorem settle_tuple {m : Nat} {H : Heap} {vs} : V.settle m H (.tuple vs : V) = .tuple (V.settleL m H vs) := by simp only [V.settle]
@[simp] theorem settle_mref {m : Nat} {H : Heap} {d} {j} : V.settle m H (.mref d j : V) = if d == 0 && Nat.ble m j then .poison else .mref d j := by simp only [V.settle]
@[simp] theorem settle_nilmap {m : Nat} {H : Heap} : V.settle m H (.nilmap : V) = .nilmap := by simp only [V.settle]
@[simp] theorem settle_poison {m : Nat} {H : Heap} : V.settle m H (.poison : V) = .poison := by simp only [V.settle]
@[simp] theorem freeze_bool {T : Heap} {b} : V.freeze T (.bool b : V) = some (.bool b) := by simp [V.freeze, V.down]
@[simp] theorem freeze_int {T : Heap} {k} {n} : V.freeze T (.int k n : V) = some (.int k n) := by simp [V.freeze, V.down]
@[simp] theorem freeze_nilslice {T : Heap} : V.freeze T (.nilslice : V) = some .nilslice := by simp [V.freeze, V.down]
@[simp] theorem freeze_scon {T : Heap} {cs} {o} {l} {f} : V.freeze T (.scon cs o l f : V) = some (.scon cs o l f) := by simp [V.freeze, V.down]
@[simp] theorem freeze_agg {T : Heap} {cs} : V.freeze T (.agg cs : V) = (V.freezeL T cs).bind fun cs' => some (.agg cs') := by simp [V.freeze, V.down]
@[simp] theorem freeze_tuple {T : Heap} {vs} : V.freeze T (.tuple vs : V) = (V.freezeL T vs).bind fun vs' => some (.tuple vs') := by simp [V.freeze, V.down]
@[simp] theorem freeze_sref0 {T : Heap} {j o l e q} : V.freeze T (.sref 0 j o l e q) = V.view 50 T (.sref 0 j o l e q) := by simp only [V.freeze]
@[simp] theorem stripBlk_row (cells ep esz flat plain) : stripBlk (.row cells ep esz flat plain) = if plain then .row cells ep esz flat plain else .row (V.stripL cells) ep esz false false := rfl
@[simp] theorem stripBlk_dead : stripBlk .dead = .dead := rfl
@[simp] theorem own_bool {h : Heap} {b} : V.own h (.bool b : V) = true := by simp [V.own]
@[simp] theorem own_int {h : Heap} {k} {n} : V.own h (.int k n : V) = true := by simp [V.own]
@[simp] theorem own_nilslice {h : Heap} : V.own h (.nilslice : V) = true := by simp [V.own]
@[simp] theorem own_agg {h : Heap} {cs} : V.own h (.agg cs : V) = V.ownL h cs := by simp [V.own]
@[simp] theorem own_tuple {h : Heap} {vs} : V.own h (.tuple vs : V) = V.ownL h vs := by simp [V.own]
@[simp] theorem own_sref0 {h : Heap} {j o l e q} : V.own h (.sref 0 j o l e q) = (match h.get 0 j with | some (.row _ _ _ flat plain) => flat && plain | _ => false) := by simp only [V.own]; rfl
attribute [simp] V.flatL V.plainL V.canonL V.upL V.outL V.downL V.settleL V.freezeL V.ownL optMap viewArgs V.forkL V.fork forkBlk
@[simp] theorem cells_int {k} {n} : V.cells (.int k n : V) = [.int k n] := same rfl
@[simp] theorem cells_nilslice : V.cells (.nilslice : V) = [.nilslice] := same rfl
@[simp] theorem cells_sref {d} {j} {o} {l} {e} {q} : V.cells (.sref d j o l e q : V) = [.sref d j o l e q] := same rfl
@[simp] theorem cells_scon {cs} {o} {l} {f} : V.cells (.scon cs o l f : V) = [.scon cs o l f] := same rfl
@[simp] theorem cells_agg {cs} : V.cells (.agg cs : V) = cs := same rfl
@[simp] theorem cells_mref {d} {j} : V.cells (.mref d j : V) = [.mref d j] := same rfl
@[simp] theorem view_sref {n : Nat} {h : Heap} {d} {j} {o} {l} {e} {q} : V.view (n + 1) h (.sref d j o l e q : V) = (match h.get d j with | some (.row cells ep' _ flat _) => if e = ep' then (if flat then some cells else optMap (V.view n (h.drop d)) cells).bind fun cs => some (.scon (cutCells cs o l q.1) 0 l q.2) else none | _ => none) := by first | rfl | simp only [V.view]
@[simp] theorem Heap_top_cons (l : List Blk) (r : Heap) : Heap.top (l :: r) = l := same rfl
@[simp] theorem Heap_get0 (l : List Blk) (r : Heap) (j : Nat) : Heap.get (l :: r) 0 j = l[j]? := same rfl
@[simp] theorem Heap_getS (l : List Blk) (r : Heap) (d j : Nat) : Heap.get (l :: r) (d + 1) j = Heap.get r d j := by simp [Heap.get]
@[simp] theorem Heap_set0 (l : List Blk) (r : Heap) (j : Nat) (b : Blk) : Heap.set (l :: r) 0 j b = l.set j b :: r := same rfl
@[simp] theorem Heap_setTop (l l' : List Blk) (r : Heap) : Heap.setTop (l :: r) l' = l' :: r := same rfl
@[simp] theorem Heap_push (l : List Blk) (r : Heap) (b : Blk) : Heap.push (l :: r) b = (l ++ [b]) :: r := same rfl
@[simp] theorem newRow_2 (h : Heap) (cells : List V) (esz : Nat) : (newRow h cells esz).2 = h.push (.row cells 0 esz (V.flatL cells) (V.plainL cells)) := same rfl
@[simp] theorem loadN_zero (cs : List V) (o : Nat) : loadN cs o 0 = some [] := same rfl
theorem loadN_succ (cs : List V) (o n : Nat) : loadN cs o (n + 1) = (cs[o]?).bind fun v => (loadN cs (o + 1) n).bind fun r => some (v :: r) := rfl
@[simp] theorem storeN_nil (cs : List V) (o : Nat) : storeN cs o [] = cs := same rfl
@[simp] theorem storeN_cons (cs : List V) (o : Nat) (v r) : storeN cs o (v :: r) = storeN (cs.set o v) (o + 1) r := same rfl
@[simp] theorem upIf_zero (b : Bool) (vs : List V) : V.upIf b 0 vs = vs := by cases b <;> rfl
@[simp] theorem load_pcon (h : Heap) (cs : List V) (o n : Nat) : Heap.load h (.pcon cs o) n = loadN cs o n := same rfl
@[simp] theorem load_pref (h : Heap) (d j o e n : Nat) : Heap.load h (.pref d j o e) n = (match h.get d j with | some (.row cells ep' _ flat _) => if e = ep' then (loadN cells o n).map (V.upIf flat d) else none | _ => none) := same rfl
@[simp] theorem undef_def : V.undef = .tuple [] := same rfl
@[simp] theorem okCells_nil : okCells [] = true := same rfl
@[simp] theorem okCells_cons (v l) : okCells (v :: l) = (V.cell1 v && okCells l) := same rfl
@[simp] theorem ofValue_bool (b) : ofValue (.bool b) = some (.bool b) := same rfl
@[simp] theorem ofValue_int (k n) : ofValue (.int k n) = some (.int k n) := same rfl
@[simp] theorem ofValue_nilptr : ofValue (.pointer none) = some .nilptr := same rfl
@[simp] theorem ofValue_nilslice : ofValue (.slice none 0 0) = some .nilslice := same rfl
@[simp] theorem ofValue_nilmap : ofValue (.map none) = some .nilmap := same rfl
attribute [simp] ofSimpleL

section
variable (E : Env) (t : TypeId) (x y : Operand) (k k' : IntKind) (a b : Int)
@[simp] theorem bin_add : binO E .add t x y (.int k a) (.int k b) = some (.int k (k.wrap (a + b))) := by simp [binO, binV, intV]
@[simp] theorem bin_sub : binO E .sub t x y (.int k a) (.int k b) = some (.int k (k.wrap (a - b))) := by simp [binO, binV, intV]
@[simp] theorem bin_eql : binO E .eql t x y (.int k a) (.int k b) = some (.bool (decide (a = b))) := by simp only [binO, binV, intV, if_true]; rfl
@[simp] theorem bin_neq : binO E .neq t x y (.int k a) (.int k b) = some (.bool (!decide (a = b))) := by simp only [binO, binV, intV, if_true]; rfl
@[simp] theorem bin_lss : binO E .lss t x y (.int k a) (.int k b) = some (.bool (decide (a < b))) := by simp [binO, binV, intV]
@[simp] theorem bin_leq : binO E .leq t x y (.int k a) (.int k b) = some (.bool (decide (a ≤ b))) := by simp [binO, binV, intV]
@[simp] theorem bin_gtr : binO E .gtr t x y (.int k a) (.int k b) = some (.bool (decide (b < a))) := by simp [binO, binV, intV]
@[simp] theorem bin_geq : binO E .geq t x y (.int k a) (.int k b) = some (.bool (decide (b ≤ a))) := by simp [binO, binV, intV]
variable (s s' : List UInt8)
@[simp] theorem bin_seql : binO E .eql t x y (.str s) (.str s') = some (.bool (decide (s = s'))) := by simp only [binO, binV, strV]; congr 2; by_cases h : s = s' <;> simp [h]
@[simp] theorem un_not (c : Bool) : unV .not (.bool c) = some (.bool !c) := same rfl
end
end Go.Sim
end
section
namespace Go.Sim
open Go
set_option linter.unusedVariables false
set_option linter.unusedSimpArgs false

abbrev ii (n : Int) : V := .int .i64 n
abbrev w8 (n : Int) : V := .int .u8 n
abbrev w32 (n : Int) : V := .int .u32 n
abbrev bb (b : Bool) : V := .bool b
abbrev sl (cells : List V) (len : Nat) : V := .scon cells 0 len false

section
variable (P : Program) (t : TypeId) (h : Heap)
@[simp] theorem fieldAddr_pref (d j off ep f) : fieldAddrV P t (.pref d j off ep) f = (match P.underlying t with | some (.struct fields) => (fields[f]?).bind fun fd => (sizeV P fd.type).bind fun n => if n = 0 then none else some (.pref d j (off + fd.offset) ep) | _ => none) := by
  unfold fieldAddrV; cases P.underlying t with | none => rfl | some d => cases d <;> rfl
@[simp] theorem loadV_pref (d j off ep) : loadV P h t (.pref d j off ep) = (isAggV P t).bind fun g => if g then (sizeV P t).bind fun n => (h.load (.pref d j off ep) n).map .agg else (h.load (.pref d j off ep) 1).bind fun l => l[0]? := same rfl
@[simp] theorem storeV_pref (d j off ep) (x : V) : storeV P h t (.pref d j off ep) x = (sizeV P t).bind fun n => if x.cells.length = n then h.store (.pref d j off ep) x.cells else none := same rfl
@[simp] theorem store_pref (d j off ep) (vs : List V) : Heap.store h (.pref d j off ep) vs = (match h.get d j with
    | some (.row cells ep' esz flat plain) =>
      if ep = ep' ∧ off + vs.length ≤ cells.length ∧ okCells vs ∧ esz < 4294967296 then
        (if d = 0 then some vs else V.downL d vs).bind fun vs' => some (h.set d j (.row (storeN cells off vs') ep esz (flat && V.flatL vs') (plain && V.plainL vs')))
      else none
    | _ => none) := same rfl
@[simp] theorem sliceCells_sref (d j off len ep q) (esz n : Nat) : Heap.sliceCells h (.sref d j off len ep q) esz n = (match h.get d j with
    | some (.row cells ep' _ flat _) => if ep = ep' ∧ n ≤ len ∧ off + n * esz ≤ cells.length then some (V.upIf flat d ((cells.drop off).take (n * esz))) else none
    | _ => none) := same rfl
@[simp] theorem sliceCells_scon (cells off len f) (esz n : Nat) : Heap.sliceCells h (.scon cells off len f) esz n = if n ≤ len ∧ off + n * esz ≤ cells.length then some ((cells.drop off).take (n * esz)) else none := same rfl
@[simp] theorem boundV_int (k : IntKind) (i : Int) (y : Nat) : boundV (.int k i) y = if 0 ≤ i ∧ i ≤ y then some i.toNat else none := same rfl
@[simp] theorem bounds_ns (len : Nat) (b : V) : boundsV len none (some b) none = (boundV b len).bind fun h => some (0, h, none) := same rfl
@[simp] theorem lenOp_scon (c o l f) : lenOp P t (.scon c o l f) = (match P.underlying t with | some (.slice _) => some (.int .i64 l) | some (.array n _) => some (.int .i64 n) | some (.pointer a) => (match P.underlying a with | some (.array n _) => some (.int .i64 n) | _ => none) | _ => none) := by
  unfold lenOp; cases P.underlying t with | none => rfl | some d => cases d <;> rfl
@[simp] theorem newsA_sref (k : Nat) (d j o l e q) : newsA h k (.sref d j o l e q) = (h.sliceCells (.sref d j o l e q) k l).bind fun cs => some (l, cs) := same rfl
@[simp] theorem newsA_scon (k : Nat) (c o l f) : newsA h k (.scon c o l f) = (h.sliceCells (.scon c o l f) k l).bind fun cs => some (l, cs) := same rfl
@[simp] theorem nilCheck_pref (d j o e) : nilCheckV (.pref d j o e) = some (.pref d j o e) := same rfl
def appV (P : Program) (h : Heap) (elem : TypeId) (s : V) (n : Nat) (news : List V) : Option (V × Heap) :=
  (sizeV P elem).bind fun k => (bytesV P elem).bind fun by_ => (zeroV P elem).bind fun z => (lenV s).bind fun len =>
    if k = 0 ∨ by_ = 0 ∨ 2 ^ 47 < (len + n) * by_ ∨ z.cells.length ≠ k ∨ news.length ≠ n * k then none else
    match s with
    | .nilslice => if n = 0 then some (.nilslice, h) else some (.sref 0 h.top.length 0 n 0 (k, false), (newRow h news k).2)
    | .sref d j off _ ep q =>
      if q.2 then (if n = 0 then some (s, h) else
        (h.sliceCells s k len).bind fun olds => some (.sref 0 h.top.length 0 (len + n) 0 (k, false), (newRow h (olds ++ news) k).2))
      else if n = 0 then some (s, h) else match h.get d j with
      | some (.row cells ep' esz flat plain) =>
        if ep = ep' ∧ off = 0 ∧ q.1 = k ∧ len * k ≤ cells.length ∧ okCells news ∧ esz / 4294967296 ≤ len * k then
          (if d = 0 then some news else V.downL d news).bind fun news' =>
          some (.sref d j 0 (len + n) (ep + 1) (k, false), h.set d j (.row (cells.take (len * k) ++ news') (ep + 1) esz (flat && V.flatL news') (plain && V.plainL news')))
        else none
      | _ => none
    | .scon _ _ _ full =>
      if full then (if n = 0 then some (s, h) else
        (h.sliceCells s k len).bind fun olds => some (.sref 0 h.top.length 0 (len + n) 0 (k, false), (newRow h (olds ++ news) k).2))
      else none
    | _ => none
def appendV0 (P : Program) (h : Heap) (t t2 : TypeId) (s x : V) : Option (V × Heap) := appendV P h t (some t2) s x
@[simp] theorem appendV_eq (t2 : TypeId) (s x : V) : appendV P h t (some t2) s x = (match P.underlying t with
    | some (.slice elem) => (match P.underlying t2 with | some (.slice _) => (sizeV P elem).bind fun k => (newsA h k x).bind fun y => appV P h elem s y.1 y.2 | some .string => (sizeV P elem).bind fun k => (newsA h k x).bind fun y => appV P h elem s y.1 y.2 | _ => appendV0 P h t t2 s x)
    | _ => appendV0 P h t t2 s x) := by
  cases hu : P.underlying t with
  | none => rfl
  | some d =>
    cases d <;> try rfl
    rename_i elem
    simp only
    have key : ∀ d2, P.underlying t2 = some d2 → (∀ k, newsV P h elem k (some t2) x = newsA h k x) → appendV P h t (some t2) s x = (sizeV P elem).bind fun k => (newsA h k x).bind fun y => appV P h elem s y.1 y.2 := by
      intro d2 h2 hn
      unfold appendV appV
      rw [hu]
      simp only [hn]
      cases sizeV P elem with
      | none => rfl
      | some k =>
        simp only [Option.bind_some]
        cases bytesV P elem with
        | none => cases newsA h k x <;> rfl
        | some b =>
          simp only [Option.bind_some]
          cases zeroV P elem with
          | none => cases newsA h k x <;> rfl
          | some z =>
            simp only [Option.bind_some]
            cases lenV s with
            | none => cases newsA h k x <;> rfl
            | some l =>
              simp only [Option.bind_some]
              cases newsA h k x <;> rfl
    cases h2 : P.underlying t2 with
    | none => rfl
    | some d2 =>
      cases d2 <;> try rfl
      · exact key _ h2 fun k => by unfold newsV; simp only; rw [h2]
      · exact key _ h2 fun k => by unfold newsV; simp only; rw [h2]
@[simp] theorem appV_nil (elem : TypeId) (n : Nat) (news : List V) : appV P h elem .nilslice n news = (sizeV P elem).bind fun k => (bytesV P elem).bind fun by_ => (zeroV P elem).bind fun z =>
    if k = 0 ∨ by_ = 0 ∨ 2 ^ 47 < (0 + n) * by_ ∨ z.cells.length ≠ k ∨ news.length ≠ n * k then none else if n = 0 then some (.nilslice, h) else some (.sref 0 h.top.length 0 n 0 (k, false), (newRow h news k).2) := same rfl
@[simp] theorem appV_sref (elem : TypeId) (n : Nat) (news : List V) (d j off len ep k0) : appV P h elem (.sref d j off len ep (k0, false)) n news = (sizeV P elem).bind fun k => (bytesV P elem).bind fun by_ => (zeroV P elem).bind fun z =>
    if k = 0 ∨ by_ = 0 ∨ 2 ^ 47 < (len + n) * by_ ∨ z.cells.length ≠ k ∨ news.length ≠ n * k then none else
    if n = 0 then some (.sref d j off len ep (k0, false), h) else match h.get d j with
      | some (.row cells ep' esz flat plain) =>
        if ep = ep' ∧ off = 0 ∧ k0 = k ∧ len * k ≤ cells.length ∧ okCells news ∧ esz / 4294967296 ≤ len * k then
          (if d = 0 then some news else V.downL d news).bind fun news' =>
          some (.sref d j 0 (len + n) (ep + 1) (k, false), h.set d j (.row (cells.take (len * k) ++ news') (ep + 1) esz (flat && V.flatL news') (plain && V.plainL news')))
        else none
      | _ => none := same rfl
def srcV (h : Heap) (src : V) (k n : Nat) : Option (List V) := match src with | .str b => some ((b.take n).map u8) | x => h.sliceCells x k n
@[simp] theorem srcV_str (s : List UInt8) (k n : Nat) : srcV h (.str s) k n = some ((s.take n).map u8) := rfl
@[simp] theorem srcV_nil (k n : Nat) : srcV h .nilslice k n = h.sliceCells .nilslice k n := rfl
@[simp] theorem srcV_sref (k n : Nat) (d j o l e q) : srcV h (.sref d j o l e q) k n = h.sliceCells (.sref d j o l e q) k n := rfl
@[simp] theorem srcV_scon (k n : Nat) (c o l f) : srcV h (.scon c o l f) k n = h.sliceCells (.scon c o l f) k n := rfl
end
attribute [simp] builtinV assertV ifaceV rowV partV buildV fillV capV foldV minV maxV rep placesV

attribute [simp] loadN_succ
attribute [simp] List.getElem?_cons_zero List.getElem?_cons_succ IntKind.bits IntKind.signed
theorem cutCells_all (cells : List V) (len k : Nat) (h : cells.length ≤ len * k) : cutCells cells 0 len k = cells := by
  unfold cutCells
  split
  · rfl
  · simpa using List.take_of_length_le h
theorem byteOf_u8 (b : UInt8) : byteOf (u8 b) = b := by simp [byteOf, u8]
@[simp] theorem map_byteOf (l : List UInt8) : (l.map u8).map byteOf = l := by
  rw [List.map_map]
  conv => rhs; rw [← List.map_id l]
  congr 1
  funext b; exact byteOf_u8 b
@[simp] theorem map_byteOf' (l : List UInt8) : List.map (byteOf ∘ u8) l = l := by rw [← List.map_map]; exact map_byteOf l
attribute [simp] flatL_append plainL_append
@[simp] theorem canonL_append : ∀ a b : List V, V.canonL (a ++ b) = V.canonL a ++ V.canonL b
  | [], b => by simp
  | v :: r, b => by simp [canonL_append r b]
@[simp] theorem okCells_append (a b : List V) : okCells (a ++ b) = (okCells a && okCells b) := by simp [okCells]

theorem u32_fits {n : Int} (h : 0 ≤ n ∧ n ≤ 4294967295) : IntKind.u32.wrap n = n := IntWalk.u32_in n h
theorem u64_fits {n : Int} (h : 0 ≤ n ∧ n ≤ 18446744073709551615) : IntKind.u64.wrap n = n := IntWalk.u64_in n h
theorem u8_fits {n : Int} (h : 0 ≤ n ∧ n ≤ 255) : IntKind.u8.wrap n = n := IntWalk.u8_in n h
theorem u16_fits {n : Int} (h : 0 ≤ n ∧ n ≤ 65535) : IntKind.u16.wrap n = n := IntWalk.u16_in n h
theorem i64_fits {n : Int} (h : -9223372036854775808 ≤ n ∧ n ≤ 9223372036854775807) : IntKind.i64.wrap n = n := IntWalk.i64_in n h
theorem i32_fits {n : Int} (h : -2147483648 ≤ n ∧ n ≤ 2147483647) : IntKind.i32.wrap n = n := IntWalk.i32_in n h
theorem tmod_pos {a b : Int} (h : 0 ≤ a) : a.tmod b = a % b := Int.tmod_eq_emod_of_nonneg h
theorem tdiv_pos {a b : Int} (h : 0 ≤ a) : a.tdiv b = a / b := Int.tdiv_eq_ediv_of_nonneg h
attribute [simp] u32_fits u64_fits u8_fits u16_fits i64_fits i32_fits tmod_pos tdiv_pos
@[simp] theorem toNat_add_nat (a b : Nat) : ((a : Int) + (b : Int)).toNat = a + b := by omega
@[simp] theorem toNat_add_lit (a b : Nat) : ((a : Int) + (no_index (OfNat.ofNat b) : Int)).toNat = a + b := by simp [OfNat.ofNat]
@[simp] theorem cast_inj32 (x y : UInt32) : ((x.toNat : Int) = y.toNat) ↔ x = y := by rw [Int.ofNat_inj, UInt32.toNat_inj]
section
variable (a b : UInt32) (x y : UInt8) (c d : UInt64)
end
end Go.Sim
end
section
namespace Go.Sim
open Go
set_option linter.unusedVariables false
set_option linter.unusedSimpArgs false

structure Enc (α : Type) where
  enc : α → List V
  k : Nat
  pos : 0 < k
  len : ∀ x, (enc x).length = k
  canon : ∀ x, V.canonL (enc x) = enc x
  flat : ∀ x, V.flatL (enc x) = true
  ok : ∀ x, okCells (enc x) = true

section
variable {α : Type} (e : Enc α)
def cat (l : List α) : List V := l.flatMap e.enc
def lst (l : List α) : V := .scon (cat e l) 0 l.length false
def ptr (l : List α) (i f : Nat) : V := .pcon (cat e l) (i * e.k + f)

@[simp] theorem cat_nil : cat e ([] : List α) = [] := same rfl
theorem cat_cons (x : α) (l : List α) : cat e (x :: l) = e.enc x ++ cat e l := rfl
theorem cat_append (a b : List α) : cat e (a ++ b) = cat e a ++ cat e b := by simp [cat]
@[simp] theorem cat_length (l : List α) : (cat e l).length = l.length * e.k := by
  induction l with
  | nil => simp [cat]
  | cons x l ih => rw [cat_cons, List.length_append, ih, e.len, List.length_cons, Nat.add_mul]; omega
@[simp] theorem cat_canon (l : List α) : V.canonL (cat e l) = cat e l := by
  induction l with
  | nil => simp
  | cons x l ih => rw [cat_cons, canonL_append, ih, e.canon]
@[simp] theorem cat_flat (l : List α) : V.flatL (cat e l) = true := by
  induction l with
  | nil => simp
  | cons x l ih => rw [cat_cons]; exact flatL_append (e.flat x) ih
theorem cat_drop (l : List α) (n : Nat) : (cat e l).drop (n * e.k) = cat e (l.drop n) := by
  induction l generalizing n with
  | nil => simp
  | cons x l ih =>
    cases n with
    | zero => simp
    | succ n =>
      rw [cat_cons, List.drop_append, e.len, List.drop_of_length_le (by rw [e.len, Nat.add_mul]; omega), List.nil_append, show (n + 1) * e.k - e.k = n * e.k by rw [Nat.add_mul]; omega, ih]
      rfl
theorem cat_take (l : List α) (n : Nat) : (cat e l).take (n * e.k) = cat e (l.take n) := by
  induction l generalizing n with
  | nil => simp
  | cons x l ih =>
    cases n with
    | zero => simp
    | succ n =>
      rw [cat_cons, List.take_append, e.len, List.take_of_length_le (by rw [e.len, Nat.add_mul]; omega), show (n + 1) * e.k - e.k = n * e.k by rw [Nat.add_mul]; omega, ih]
      rfl
theorem cat_cut (l : List α) (o n : Nat) : cutCells (cat e l) (o * e.k) n e.k = cat e ((l.drop o).take n) := by
  unfold cutCells
  rw [if_neg (by have := e.pos; omega), cat_drop, cat_take]
theorem cat_get (l : List α) (i f : Nat) (hf : f < e.k) : (cat e l)[i * e.k + f]? = (l[i]?).bind fun x => (e.enc x)[f]? := by
  induction l generalizing i with
  | nil => simp
  | cons x l ih =>
    rw [cat_cons]
    cases i with
    | zero =>
      rw [Nat.zero_mul, Nat.zero_add, List.getElem?_append_left (by rw [e.len]; exact hf)]
      simp
    | succ i =>
      rw [List.getElem?_append_right (by rw [e.len, Nat.add_mul]; omega), e.len, show (i + 1) * e.k + f - e.k = i * e.k + f by rw [Nat.add_mul]; omega, ih]
      simp

theorem loadN_take : ∀ (cs : List V) (o n : Nat), o + n ≤ cs.length → loadN cs o n = some ((cs.drop o).take n)
  | cs, o, 0, h => by simp
  | cs, o, n + 1, h => by
    have ho : o < cs.length := by omega
    rw [loadN_succ, List.getElem?_eq_getElem ho, Option.bind_some, loadN_take cs (o + 1) n (by omega), Option.bind_some, List.drop_eq_getElem_cons ho, List.take_succ_cons]

@[simp] theorem lst_canon (l : List α) : V.canon (lst e l) = lst e l := by simp [lst]
@[simp] theorem lst_flat (l : List α) : V.flat (lst e l) = true := by simp [lst]
@[simp] theorem lst_plain (l : List α) : V.plain (lst e l) = false := by simp [lst]
@[simp] theorem lst_cell1 (l : List α) : V.cell1 (lst e l) = true := by simp [lst]
@[simp] theorem lst_cells (l : List α) : V.cells (lst e l) = [lst e l] := by simp [lst]
@[simp] theorem lst_freeze (h : Heap) (l : List α) : V.freeze h (lst e l) = some (lst e l) := by simp [lst]
@[simp] theorem lst_up (n : Nat) (l : List α) : V.up n (lst e l) = lst e l := by simp [lst]
@[simp] theorem lst_settle (n : Nat) (h : Heap) (l : List α) : V.settle n h (lst e l) = lst e l := by simp [lst]
@[simp] theorem lst_len (l : List α) : lenV (lst e l) = some l.length := same rfl
@[simp] theorem lst_nil : lst e ([] : List α) = .scon [] 0 0 false := rfl
@[simp] theorem ptr_settle (n : Nat) (h : Heap) (l : List α) (i f) : V.settle n h (ptr e l i f) = ptr e l i f := by simp [ptr]
@[simp] theorem lst_srcV (h : Heap) (k n : Nat) (l : List α) : srcV h (lst e l) k n = h.sliceCells (lst e l) k n := rfl
@[simp] theorem lst_newsA (h : Heap) (k : Nat) (l : List α) : newsA h k (lst e l) = (h.sliceCells (lst e l) k l.length).bind fun cs => some (l.length, cs) := same rfl
@[simp] theorem lst_lenOp (P : Program) (t : TypeId) (l : List α) : lenOp P t (lst e l) = (match P.underlying t with | some (.slice _) => some (.int .i64 l.length) | some (.array n _) => some (.int .i64 n) | some (.pointer a) => (match P.underlying a with | some (.array n _) => some (.int .i64 n) | _ => none) | _ => none) := by
  unfold lst; exact lenOp_scon P t _ _ _ _

variable {P : Program} {t el : TypeId}
@[simp] theorem lst_indexAddr (kk : IntKind) (l : List α) (n : Int) : indexAddrV P t (lst e l) (.int kk n) =
    (match P.underlying t with | some (.slice el) => if 0 ≤ n ∧ n < l.length then (sizeV P el).bind fun k => if k = e.k then some (ptr e l n.toNat 0) else some (.pcon (cat e l) (0 + n.toNat * k)) else none | _ => none) := by
  unfold indexAddrV lst
  simp only
  cases P.underlying t with
  | none => rfl
  | some d =>
    cases d <;> try rfl
    rename_i el
    simp only
    split
    · cases sizeV P el with
      | none => rfl
      | some k =>
        simp only [Option.bind_some]
        split
        · rename_i hk; subst hk; simp [ptr]
        · rfl
    · rfl
theorem ptr_load (h : Heap) (l : List α) (i : Nat) (hi : i < l.length) : Heap.load h (ptr e l i 0) e.k = some (e.enc l[i]) := by
  have hl : i * e.k + e.k ≤ l.length * e.k := by
    have := Nat.mul_le_mul_right e.k (show i + 1 ≤ l.length from hi)
    rw [Nat.add_mul] at this; omega
  unfold ptr
  rw [load_pcon, loadN_take _ _ _ (by rw [cat_length]; omega), Nat.add_zero, cat_drop, List.drop_eq_getElem_cons hi, cat_cons, List.take_append_of_le_length (by rw [e.len]; omega), List.take_of_length_le (by rw [e.len]; omega)]
@[simp] theorem ptr_loadV (h : Heap) (l : List α) (i f : Nat) : loadV P h t (ptr e l i f) = (isAggV P t).bind fun g => if g then (sizeV P t).bind fun n => if f = 0 ∧ n = e.k then (l[i]?).map (fun x => .agg (e.enc x)) else (loadN (cat e l) (i * e.k + f) n).map .agg
    else if f < e.k then (l[i]?).bind fun x => (e.enc x)[f]? else (loadN (cat e l) (i * e.k + f) 1).bind fun r => r[0]? := by
  unfold loadV
  cases isAggV P t with
  | none => rfl
  | some g =>
    simp only [Option.bind_some]
    cases g with
    | true =>
      simp only [if_true]
      cases sizeV P t with
      | none => rfl
      | some n =>
        simp only [Option.bind_some]
        split
        · rename_i hc
          obtain ⟨rfl, rfl⟩ := hc
          by_cases hi : i < l.length
          · rw [ptr_load e h l i hi, List.getElem?_eq_getElem hi]; rfl
          · rw [List.getElem?_eq_none (by omega)]
            have : loadN (cat e l) (i * e.k + 0) e.k = none := by
              obtain ⟨m, hm⟩ : ∃ m, e.k = m + 1 := ⟨e.k - 1, by have := e.pos; omega⟩
              rw [hm, loadN_succ, List.getElem?_eq_none, Option.bind_none]
              rw [cat_length, ← hm]
              have := Nat.mul_le_mul_right e.k (show l.length ≤ i by omega)
              omega
            unfold ptr
            rw [load_pcon, this]; rfl
        · rfl
    | false =>
      simp only [Bool.false_eq_true, if_false]
      unfold ptr
      rw [load_pcon]
      split
      · rename_i hf
        rw [loadN_succ, cat_get e l i f hf]
        cases (l[i]?).bind fun x => (e.enc x)[f]? <;> simp
      · rfl
@[simp] theorem ptr_fieldAddr (l : List α) (i f n : Nat) : fieldAddrV P t (ptr e l i f) n = (match P.underlying t with | some (.struct fields) => (fields[n]?).bind fun fd => (sizeV P fd.type).bind fun m => if m = 0 then none else some (ptr e l i (f + fd.offset)) | _ => none) := by
  unfold fieldAddrV ptr
  cases P.underlying t with
  | none => rfl
  | some d =>
    cases d <;> try rfl
    simp only [Nat.add_assoc]
@[simp] theorem lst_slice (l : List α) (lo hi : Option V) : sliceV P t (lst e l) lo hi none = (match P.underlying t with | some (.slice el) => (boundsV l.length lo hi none).bind fun x => (sizeV P el).bind fun n => if n = e.k then some (lst e ((l.drop x.1).take (x.2.1 - x.1))) else some (.scon (cutCells (cat e l) (0 + x.1 * n) (x.2.1 - x.1) n) 0 (x.2.1 - x.1) (false && x.2.1 == l.length)) | _ => none) := by
  unfold sliceV lst
  cases P.underlying t with
  | none => rfl
  | some d =>
    cases d <;> try rfl
    rename_i el
    simp only
    cases hb : boundsV l.length lo hi none with
    | none => rfl
    | some x =>
      obtain ⟨a, b, m⟩ := x
      simp only [Option.bind_some]
      have hb' : a ≤ b ∧ b ≤ l.length ∧ m = none := by
        unfold boundsV at hb
        simp only [Option.bind_some, Option.getD_none, Option.bind_eq_some_iff, Option.some.injEq, Prod.mk.injEq] at hb
        obtain ⟨h', h1, l', h2, rfl, rfl, rfl⟩ := hb
        have hh : h' ≤ l.length := by
          cases hi with
          | none => simp only [Option.some.injEq] at h1; omega
          | some v =>
            simp only [boundV] at h1
            split at h1
            · split at h1
              · simp only [Option.some.injEq] at h1; omega
              · cases h1
            · cases h1
        have hl : l' ≤ h' := by
          cases lo with
          | none => simp only [Option.some.injEq] at h2; omega
          | some v =>
            simp only [boundV] at h2
            split at h2
            · split at h2
              · simp only [Option.some.injEq] at h2; omega
              · cases h2
            · cases h2
        exact ⟨hl, hh, rfl⟩
      obtain ⟨h1, h2, rfl⟩ := hb'
      cases sizeV P el with
      | none => rfl
      | some n =>
        simp only [Option.bind_some]
        split
        · rename_i hn; subst hn
          rw [Nat.zero_add, cat_cut]
          simp only [Option.some.injEq, V.scon.injEq, Bool.false_and, and_true, true_and]
          simp; omega
        · rfl
@[simp] theorem lst_sliceCells (h : Heap) (l : List α) (k n : Nat) : Heap.sliceCells h (lst e l) k n = if n ≤ l.length ∧ 0 + n * k ≤ l.length * e.k then some (((cat e l).drop 0).take (n * k)) else none := by
  unfold Heap.sliceCells lst
  simp only [cat_length]
end

def eU8 : Enc UInt8 where
  enc b := [w8 b.toNat]
  k := 1
  pos := by omega
  len := fun _ => rfl
  canon := fun _ => by simp
  flat := fun _ => by simp
  ok := fun _ => by simp
def eU32 : Enc UInt32 where
  enc b := [w32 b.toNat]
  k := 1
  pos := by omega
  len := fun _ => rfl
  canon := fun _ => by simp
  flat := fun _ => by simp
  ok := fun _ => by simp
@[simp] theorem eU8_k : eU8.k = 1 := same rfl
@[simp] theorem eU32_k : eU32.k = 1 := same rfl
@[simp] theorem eU8_enc (b) : eU8.enc b = [w8 b.toNat] := same rfl
@[simp] theorem eU32_enc (b) : eU32.enc b = [w32 b.toNat] := same rfl
abbrev bs (l : List UInt8) : V := lst eU8 l
abbrev ws (l : List UInt32) : V := lst eU32 l
theorem cat_bytes (l : List UInt8) : cat eU8 l = l.map u8 := by
  induction l with
  | nil => rfl
  | cons x l ih => rw [cat_cons, ih]; rfl
theorem conv_bytes_str {P : Program} {src dst el : TypeId} (h : Heap) (l : List UInt8) (hs : P.underlying src = some (.slice el)) (hd : P.underlying dst = some .string) (he : P.underlying el = some (.int .u8)) :
    convertV P h src dst (bs l) = some (.str l, h) := by
  rw [convertV_bytes hs hd (fun s => by simp [bs, lst]), he]
  simp only [bs, lst_len, Option.bind_some, lst_sliceCells]
  rw [if_pos (by simp), List.drop_zero, List.take_of_length_le (by simp), cat_bytes]
  simp
  intro a _; simp [u8, isByte]
def convertV0 (P : Program) (h : Heap) (src dst : TypeId) (x : V) : Option (V × Heap) := convertV P h src dst x
@[simp] theorem cv_bytes {P : Program} {src dst : TypeId} (h : Heap) (l : List UInt8) : convertV P h src dst (bs l) = (match P.underlying src with
    | some (.slice el) => (match P.underlying dst with | some .string => (match P.underlying el with | some (.int .u8) => some (.str l, h) | _ => convertV0 P h src dst (bs l)) | _ => convertV0 P h src dst (bs l)) | _ => convertV0 P h src dst (bs l)) := by
  cases hs : P.underlying src with
  | none => rfl
  | some d =>
    cases d <;> try rfl
    cases hd : P.underlying dst with
    | none => rfl
    | some d =>
      cases d <;> try rfl
      rename_i el
      simp only
      cases he : P.underlying el with
      | none => rfl
      | some d =>
        cases d with
        | int k =>
          cases k with
          | u8 => exact conv_bytes_str h l hs hd he
          | _ => rfl
        | _ => rfl
end Go.Sim
end
section
namespace Go.Sim
open Go
set_option linter.unusedVariables false
set_option linter.unusedSimpArgs false

section
variable {α : Type} (e : Enc α)
theorem cut_all {n k : Nat} {l : List α} (hk : k = e.k) (h : n = l.length) : cutCells (cat e l) 0 n k = cat e l := by
  subst hk h
  exact cutCells_all _ _ _ (by simp)
theorem cat_plain (hp : ∀ x, V.plainL (e.enc x) = true) (l : List α) : V.plainL (cat e l) = true := by
  induction l with
  | nil => simp
  | cons x l ih => rw [cat_cons]; exact plainL_append (hp x) ih
end
@[simp] theorem plain_eU8 (l : List UInt8) : V.plainL (cat eU8 l) = true := cat_plain eU8 (fun _ => by simp) l
@[simp] theorem plain_eU32 (l : List UInt32) : V.plainL (cat eU32 l) = true := cat_plain eU32 (fun _ => by simp) l
@[simp] theorem take_eU8 (l : List UInt8) (n : Nat) : (cat eU8 l).take n = cat eU8 (l.take n) := by simpa using cat_take eU8 l n
@[simp] theorem take_eU32 (l : List UInt32) (n : Nat) : (cat eU32 l).take n = cat eU32 (l.take n) := by simpa using cat_take eU32 l n
@[simp] theorem cut_eU8 (l : List UInt8) : cutCells (cat eU8 l) 0 l.length 1 = cat eU8 l := cut_all eU8 rfl rfl
@[simp] theorem cut_eU32 (l : List UInt32) : cutCells (cat eU32 l) 0 l.length 1 = cat eU32 l := cut_all eU32 rfl rfl
@[simp] theorem fold_eU8 (l : List UInt8) : V.scon (cat eU8 l) 0 l.length false = bs l := same rfl
@[simp] theorem fold_eU32 (l : List UInt32) : V.scon (cat eU32 l) 0 l.length false = ws l := same rfl
mutual
theorem out_flat (n : Nat) : ∀ v : V, V.flat v = true → V.out n v = v
  | .func fn a b, h => by
    simp only [flat_func, Bool.and_eq_true] at h
    simp [outL_flat n a h.1, outL_flat n b h.2]
  | .iface ty v, h => by
    simp only [flat_iface] at h
    simp [out_flat n v h]
  | .agg cs, h => by
    simp only [flat_agg] at h
    simp [outL_flat n cs h]
  | .tuple vs, h => by
    simp only [flat_tuple] at h
    simp [outL_flat n vs h]
  | .bool _, _ | .int _ _, _ | .float _ _, _ | .str _, _ | .nilptr, _ | .pcon _ _, _ | .nilslice, _ | .scon _ _ _ _, _ | .nilfunc, _ | .niliface, _ | .nilmap, _ => by simp
  | .pref _ _ _ _, h | .sref _ _ _ _ _ _, h | .mref _ _, h | .yield _ _, h | .poison, h => by simp at h
theorem outL_flat (n : Nat) : ∀ l : List V, V.flatL l = true → V.outL n l = l
  | [], _ => by simp
  | v :: r, h => by
    simp only [V.flatL, Bool.and_eq_true] at h
    simp [out_flat n v h.1, outL_flat n r h.2]
end
mutual
theorem settle_flat (n : Nat) (H : Heap) : ∀ v : V, V.flat v = true → V.settle n H v = v
  | .func fn a b, h => by
    simp only [flat_func, Bool.and_eq_true] at h
    simp [settleL_flat n H a h.1, settleL_flat n H b h.2]
  | .iface ty v, h => by
    simp only [flat_iface] at h
    simp [settle_flat n H v h]
  | .agg cs, h => by
    simp only [flat_agg] at h
    simp [settleL_flat n H cs h]
  | .tuple vs, h => by
    simp only [flat_tuple] at h
    simp [settleL_flat n H vs h]
  | .bool _, _ | .int _ _, _ | .float _ _, _ | .str _, _ | .nilptr, _ | .pcon _ _, _ | .nilslice, _ | .scon _ _ _ _, _ | .nilfunc, _ | .niliface, _ | .nilmap, _ => by simp
  | .pref _ _ _ _, h | .sref _ _ _ _ _ _, h | .mref _ _, h | .yield _ _, h | .poison, h => by simp at h
theorem settleL_flat (n : Nat) (H : Heap) : ∀ l : List V, V.flatL l = true → V.settleL n H l = l
  | [], _ => by simp
  | v :: r, h => by
    simp only [V.flatL, Bool.and_eq_true] at h
    simp [settle_flat n H v h.1, settleL_flat n H r h.2]
end

section
variable {α : Type} (e : Enc α) (l : List α)
end
attribute [simp] settleBlk outBlk
end Go.Sim
end
section
namespace Go.Sim
open Go
set_option linter.unusedVariables false
set_option linter.unusedSimpArgs false

section
variable {R : Type}
variable {E : Env} {dyn : List Nat}
def heapFin (v : V) (h : Heap) : Option (V × Heap) := (V.freeze [h.top] v).bind fun r' => some (r', h.tail)
attribute [simp] heapFin
theorem heap_of {f : FuncId} {fn : Func} {c : Code} {args : List V} {h : Heap} {r : V × Heap} (hk : E.known f = none) (hm : E.mode f = .heap) (hf : E.fns f = true) (h1 : E.P.funcs[f]? = some fn) (h2 : fn.body = some c) (hd : okDraws E dyn c = true)
    (hr : evK E (om E) f dyn c (endK E.P fn.results.toList heapFin) (V.upL 1 args ++ pois (fn.ntmps - (V.upL 1 args).length)) ([] :: h) = some r) : callV E (om E) f args h = some r := by
  obtain ⟨v, h', h3, h4⟩ := body_of hf h1 h2 hd hr
  rw [callV_heap hk hm, h3]
  exact h4
def prmB4 (c : Option V) (cells : List V) (j o ep ep' esz' off esz : Nat) (t : List V) (h : Heap) : Option (List V × Heap) :=
  match c with
  | some .nilslice => if ep = ep' then some (t, (h.set 0 j (.row (cells.set (o + off) (.sref 0 h.top.length 0 0 0 (esz, false))) ep' esz' false false)).push (.row [] 0 esz true true)) else none
  | _ => some (t, h)
def prmB3 (b : Option Blk) (j o ep off esz : Nat) (t : List V) (h : Heap) : Option (List V × Heap) :=
  match b with
  | some (.row cells ep' esz' _ _) => prmB4 cells[o + off]? cells j o ep ep' esz' off esz t h
  | _ => none
def prmB2 (v : V) (off esz : Nat) (t : List V) (h : Heap) : Option (List V × Heap) :=
  match v with
  | .pref 0 j o ep => prmB3 (h.get 0 j) j o ep off esz t h
  | _ => some (t, h)
@[simp] theorem prmB4_nil (cells j o ep ep' esz' off esz t h) : prmB4 (some .nilslice) cells j o ep ep' esz' off esz t h =
  if ep = ep' then some (t, (h.set 0 j (.row (cells.set (o + off) (.sref 0 h.top.length 0 0 0 (esz, false))) ep' esz' false false)).push (.row [] 0 esz true true)) else none := same rfl
@[simp] theorem prmB4_sref (a b c d e f cells j o ep ep' esz' off esz t h) : prmB4 (some (.sref a b c d e f)) cells j o ep ep' esz' off esz t h = some (t, h) := same rfl
@[simp] theorem prmB3_row (cells ep' esz' f p j o ep off esz t h) : prmB3 (some (.row cells ep' esz' f p)) j o ep off esz t h = prmB4 cells[o + off]? cells j o ep ep' esz' off esz t h := same rfl
@[simp] theorem prmB2_pref (j o ep off esz t h) : prmB2 (.pref 0 j o ep) off esz t h = prmB3 (h.get 0 j) j o ep off esz t h := same rfl
@[simp] theorem prmB_eq (i off esz : Nat) (t : List V) (h : Heap) : prmB i off esz t h = prmB2 (slot t i) off esz t h := by
  unfold prmB
  simp only [hintV, slot_eq]
  unfold prmB2
  split
  · rename_i j o ep hs
    unfold prmB3
    simp only [hs]
    split
    · rename_i cells ep' esz' f p hb
      rw [hb]
      simp only
      unfold prmB4
      split
      · rename_i hc
        rw [hc]
        simp only
        split <;> rfl
      · rename_i hc
        split
        · rename_i hc'; exact absurd hc' hc
        · rfl
    · rename_i hb
      split
      · rename_i hb'; exact absurd hb' (hb _ _ _ _ _)
      · rfl
  · rename_i hs
    split
    · rename_i hs'; exact absurd hs' (hs _ _ _)
    · rfl

end
end Go.Sim
end
section
namespace Go.Sim
open Go
set_option linter.unusedVariables false
set_option linter.unusedSimpArgs false

section
variable {ok : Nat → Nat → Prop} {w : World} {B : Bd} {p : Array Oper → Bool} {h : Heap} {P : Program}

theorem run_eq_nil {t e : TypeId} (hu : P.underlying t = some (.slice e)) (a : Addr) (n c d : Nat) (w : World) : (Op.equalIn (d + 1) t (.slice (some a) n c) (.slice none 0 0)).run P w = .ok false w := by
  simp [Op.equalIn, r_under hu]
theorem run_eq_nil2 {t e : TypeId} (hu : P.underlying t = some (.slice e)) (d : Nat) (w : World) : (Op.equalIn (d + 1) t (.slice none 0 0) (.slice none 0 0)).run P w = .ok true w := by
  simp [Op.equalIn, r_under hu]
theorem run_eql_nil {t e : TypeId} (hu : P.underlying t = some (.slice e)) (a : Addr) (n c : Nat) (w : World) : (binOp .eql t (.slice (some a) n c) (.slice none 0 0)).run P w = .ok (.bool false) w := by
  refine (eql_other ?_ ?_ ?_ ?_ (run_eq_nil hu a n c 9999 w)).1
  all_goals simp
theorem run_eql_nil2 {t e : TypeId} (hu : P.underlying t = some (.slice e)) (w : World) : (binOp .eql t (.slice none 0 0) (.slice none 0 0)).run P w = .ok (.bool true) w := by
  refine (eql_other ?_ ?_ ?_ ?_ (run_eq_nil2 hu 9999 w)).1
  all_goals simp
theorem run_build_none {t e : TypeId} {k : Nat} (hu : P.underlying t = some (.slice e)) (hk : sizeV P e = some k) (w : World) :
    (Instr.buildSlice t 0 #[]).run P w = .ok (.slice (some ⟨w.heap.size, 0, none⟩) 0 0) (w.alloc (.cells #[] e (0, 0))) := by
  have hz0 : (Array.range 0).map (fun _ => (default : Value)) = #[] := by simp [Array.range]
  simp [Instr.buildSlice, r_under hu, r_size hk, Go.newRow, hz0, Instr.fill]

theorem Ext.alloc_one (hh : HR ok w B p h) (o : Obj) : Ext ok B w ok B (w.alloc o) ∧ HR ok (w.alloc o) B p h := by
  have hsame : ∀ b, b < w.heap.size → (w.alloc o).heap[b]? = w.heap[b]? := by
    intro b hb
    show (w.heap.push o)[b]? = _
    rw [Array.getElem?_push, if_neg (by omega)]
  have hsize : w.heap.size ≤ (w.alloc o).heap.size := by show _ ≤ (w.heap.push o).size; simp
  refine ⟨⟨hsize, rfl, rfl, rfl, fun b hb _ => hsame b hb, OkLe.heap (fun _ _ h => h) (fun b n hb => hsame b (hh.okn b n hb).1), fun _ _ _ h => .inl h, fun d j => EntLe.refl _ fun b hb => ?_, fun _ _ _ h _ => h⟩, hh.world hsize (fun b n hb => hsame b (hh.okn b n hb).1) fun d j b hb => hsame b (hh.lt d j b hb)⟩
  simp only [csize, hsame b (hh.lt d j b hb)]; exact Nat.le_refl _

end
end Go.Sim
end
section
namespace Go.Sim
open Go
set_option linter.unusedVariables false
set_option linter.unusedSimpArgs false
def cloneCL (L k : Nat) (args : List V) (h : Heap) : Option (V × Heap) :=
  match args with
  | [.str _] => none
  | [s] =>
    (lenV s).bind fun n =>
    if n = 0 then some (.scon [] 0 0 false, h) else
    (h.sliceCells s k n).bind fun cs => if L < n ∨ V.flatL cs = false then none else some (.scon cs 0 n false, h)
  | _ => none
theorem cloneCL_same {L k : Nat} {args : List V} {h h' : Heap} {r : V} (hc : cloneCL L k args h = some (r, h')) : h' = h := by
  unfold cloneCL at hc
  split at hc
  · cases hc
  · simp only [Option.bind_eq_some_iff] at hc
    obtain ⟨n, _, hc⟩ := hc
    split at hc
    · simp only [Option.some.injEq, Prod.mk.injEq] at hc; exact hc.2.symm
    · simp only [Option.bind_eq_some_iff] at hc
      obtain ⟨cs, _, hc⟩ := hc
      split at hc
      · cases hc
      · simp only [Option.some.injEq, Prod.mk.injEq] at hc; exact hc.2.symm
  · cases hc
theorem clFrame (L k : Nat) : ∀ args h r h', cloneCL L k args h = some (r, h') → h'.length = h.length ∧ ∀ d j, (∀ v ∈ args, ∀ d' j' o e, v = .pref d' j' o e → d' ≠ d ∨ j' ≠ j) → h'.get d j = h.get d j := by
  intro args h r h' hc
  have := cloneCL_same hc
  subst this
  exact ⟨rfl, fun _ _ _ => rfl⟩
section
variable {ok : Nat → Nat → Prop} {w : World} {B : Bd} {p : Array Oper → Bool} {h : Heap} {P : Program}
theorem cloneC_inv {L k : Nat} {s r : V} {h' : Heap} (hc : cloneCL L k [s] h = some (r, h')) : (∀ x, s ≠ .str x) ∧ h' = h ∧
    ∃ n, lenV s = some n ∧ ((n = 0 ∧ r = .scon [] 0 0 false) ∨ (n ≠ 0 ∧ ∃ cs, h.sliceCells s k n = some cs ∧ n ≤ L ∧ V.flatL cs = true ∧ r = .scon cs 0 n false)) := by
  have hs : ∀ x, s ≠ .str x := by rintro x rfl; simp [cloneCL] at hc
  refine ⟨hs, cloneCL_same hc, ?_⟩
  have hc' : (lenV s).bind (fun n => if n = 0 then some (.scon [] 0 0 false, h) else
    (h.sliceCells s k n).bind fun cs => if L < n ∨ V.flatL cs = false then none else some (V.scon cs 0 n false, h)) = some (r, h') := by
    cases s <;> first | exact hc | exact absurd rfl (hs _)
  simp only [Option.bind_eq_some_iff] at hc'
  obtain ⟨n, hn, hc'⟩ := hc'
  refine ⟨n, hn, ?_⟩
  split at hc'
  · rename_i h0
    simp only [Option.some.injEq, Prod.mk.injEq] at hc'
    exact .inl ⟨h0, hc'.1.symm⟩
  · rename_i h0
    simp only [Option.bind_eq_some_iff] at hc'
    obtain ⟨cs, hcs, hc'⟩ := hc'
    split at hc'
    · cases hc'
    · rename_i hcond
      simp only [not_or, Nat.not_lt, Bool.not_eq_false] at hcond
      simp only [Option.some.injEq, Prod.mk.injEq] at hc'
      exact .inr ⟨h0, cs, hcs, hcond.1, hcond.2, hc'.1.symm⟩
theorem Ext.allocOk (hh : HR ok w B p h) (o : Obj) : Ext ok B w (fun b n => ok b n ∨ b = w.heap.size) B (w.alloc o) ∧ HR (fun b n => ok b n ∨ b = w.heap.size) (w.alloc o) B p h := by
  have h1 := Ext.allocNone hh o
  have h2 := HR.allocNone hh o
  refine ⟨⟨h1.size, h1.os, h1.tape, h1.output, h1.same, fun b n hb hlt => ⟨.inl (h1.okLe b n hb hlt).1, (h1.okLe b n hb hlt).2⟩, fun b n hlt hb => ?_, h1.ent, h1.new⟩, ⟨h2.pos, fun d j => (h2.blk d j).okmono fun b n hb => .inl hb, h2.inj, h2.lt, fun b n hb => ?_, h2.gl.mono fun b n hb _ => ⟨.inl hb, fun _ _ => rfl⟩⟩⟩
  · rcases hb with hb | rfl
    · exact .inl hb
    · omega
  · rcases hb with hb | rfl
    · exact h2.okn b n hb
    · refine ⟨by simp, fun d j hm => ?_⟩
      have := hh.lt d j _ hm
      omega
theorem crel_flat {b : Nat} (hb : ∀ n, ok b n) {B : Bd} : ∀ {cs : List V} {l : List Value} {i : Nat}, ORelL ok w B cs l → V.flatL cs = true → (∀ j c, l[j]? = some c → w.cell? ⟨b, i + j, none⟩ = some c) → CRel ok w b i cs := fun h hf hc =>
  crel_of_cells hb (ORelL.flat _ _ hf h) hc
theorem cloneC_after (hh : HR ok w B p h) {t e : TypeId} {ty : TypeId} {L k : Nat} {z : V} {by_ : Nat} (hu : P.underlying t = some (.slice e)) (hk : sizeV P e = some k) (hby : bytesV P e = some by_) (hz : zeroV P e = some z)
    (h0 : 0 < k) (h1 : 0 < by_) (h2 : L * by_ ≤ 2 ^ 47) (h3 : z.cells.length = k) {s r : V} {v : Value} {h' : Heap} (hc : cloneCL L k [s] h = some (r, h')) (hv : VRel ok w B s v) :
    (v = .slice none 0 0 ∧ After p ok B w h.length h' r ok B w (.slice none 0 0)) ∨
    ∃ a n c u w1 x w2 ok' B', v = .slice (some a) n c ∧ (Instr.buildSlice t 0 #[]).run P w = .ok u w1 ∧ (Builtin.append_ #[t, t] ty #[u, .slice (some a) n c]).run P w1 = .ok x w2 ∧ After p ok B w h.length h' r ok' B' w2 x := by
  obtain ⟨hs, rfl, n, hn, hc⟩ := cloneC_inv hc
  obtain ⟨a0, cap, rfl, hle, hnil⟩ := slice_len hn hv hs
  obtain ⟨i, hi, rfl⟩ := r_bytes hby
  have his : i.size = k := by simp only [sizeV, hi, Option.map_some, Option.some.injEq] at hk; exact hk
  have hzv : ∃ z', i.zero = some z' ∧ ofValue z' = some z := by
    simp only [zeroV, hi, Option.bind_some, Option.bind_eq_some_iff] at hz; exact hz
  obtain ⟨z', hz', hzv⟩ := hzv
  have hzs : z'.cells.size = i.size := by
    have := (zero_cells (ok := ok) (w := w) (B := B) hzv).length; simp at this; omega
  cases a0 with
  | none =>
    have h00 := hnil rfl
    obtain rfl : n = 0 := by omega
    subst h00
    refine .inl ⟨rfl, Ext.refl ok B w, hh, ?_, rfl⟩
    rcases hc with ⟨_, rfl⟩ | ⟨h, _⟩
    · simp [VRel]
    · exact absurd rfl h
  | some a =>
    right
    obtain ⟨e1, hh1⟩ := Ext.alloc_one hh (.cells #[] e (0, 0))
    rcases hc with ⟨rfl, rfl⟩ | ⟨hn0, cs, hcs, hnL, hfl, rfl⟩
    · have hnr : NewsRun P (w.alloc (.cells #[] e (0, 0))) #[t, t] i z' (.slice (some a) 0 cap) 0 [] := by
        refine .read (.inr ⟨t, _, rfl, hu, fun k h => by cases h⟩) ?_ fun w' _ => ?_
        · simp [Builtin.lenOf]
        · exact run_firstCells_some w' i.size 0 a 0 cap [] (by simp) (fun i c hi => by simp at hi)
      have g1 := append_room (ty := ty) rfl hu hi hz' hzs hnr (base := some ⟨w.heap.size, 0, none⟩) (len := 0) (cap := 0) (by omega)
      refine ⟨a, 0, cap, .slice (some ⟨w.heap.size, 0, none⟩) 0 0, w.alloc (.cells #[] e (0, 0)), .slice (some ⟨w.heap.size, 0, none⟩) 0 0, w.alloc (.cells #[] e (0, 0)), ok, B, rfl, run_build_none hu hk w, ?_, e1, hh1, ?_, rfl⟩
      · rw [g1]; simp [storeCells]
      · simp only [VRel]
        exact .inl ⟨w.heap.size, 0, 0, ⟨w.heap.size, 0, none⟩, rfl, Nat.le_refl _, fun h => (by cases h), fun h => by omega, trivial⟩
    · obtain ⟨a', len', cap', l, he, g1, g2, g3, g4⟩ := slice_cells_rel hh1 hcs (e1.vrel hh hv)
      simp only [Value.slice.injEq] at he
      obtain ⟨rfl, rfl, rfl⟩ := he
      have hl : l.length = n * i.size := by rw [his]; exact g1
      have hf := firstCells_of (P := P) (k := i.size) (n := n) (a := some a) (len := n) (cap := cap) hl g2 g3
      have hnr : NewsRun P (w.alloc (.cells #[] e (0, 0))) #[t, t] i z' (.slice (some a) n cap) n l := by
        refine .read (.inr ⟨t, _, rfl, hu, fun k h => by cases h⟩) ?_ fun w' hw' => hf w' hw'
        simp [Builtin.lenOf]
      have hb : (0 + n) * i.bytes ≤ 2 ^ 47 := by
        have : n * i.bytes ≤ L * i.bytes := Nat.mul_le_mul_right _ hnL
        rw [Nat.zero_add]
        omega
      have gr := append_grow (ty := ty) rfl hu hi hz' hzs hnr (base := some ⟨w.heap.size, 0, none⟩) (len := 0) (cap := 0) (by omega) (olds := []) (by
        have := run_firstCells_some (P := P) (w.alloc (.cells #[] e (0, 0))).drew i.size 0 ⟨w.heap.size, 0, none⟩ 0 0 [] (by simp) (fun i c hi => by simp at hi)
        exact this) h1 hb
      obtain ⟨e2, hh2⟩ := (⟨Ext.drew ok B _, hh1.drew⟩ : Ext ok B _ ok B (w.alloc (.cells #[] e (0, 0))).drew ∧ HR ok (w.alloc (.cells #[] e (0, 0))).drew B p h')
      obtain ⟨e3, hh3⟩ := Ext.allocOk hh2 (.cells (([] : List Value).toArray ++ l.toArray ++ Builtin.zeroCells z'.cells (grownCap (w.alloc (.cells #[] e (0, 0))) (0 + n) 0 e - (0 + n))) e)
      refine ⟨a, n, cap, .slice (some ⟨w.heap.size, 0, none⟩) 0 0, w.alloc (.cells #[] e (0, 0)), _, _, _, B, rfl, run_build_none hu hk w, gr, (e1.trans e2).trans e3, hh3, ?_, rfl⟩
      have hge := grownCap_ge (w.alloc (.cells #[] e (0, 0))) (0 + n) 0 e
      have hrel := e3.orelL hh2 (e2.orelL hh1 g4)
      simp only [VRel]
      refine .inl ⟨(w.alloc (.cells #[] e (0, 0))).heap.size, 0, grownCap (w.alloc (.cells #[] e (0, 0))) (0 + n) 0 e, ⟨(w.alloc (.cells #[] e (0, 0))).heap.size, 0, none⟩, by rw [Nat.zero_add], by omega, fun h => (by cases h), fun _ => rfl, ?_⟩
      refine crel_flat (fun n => .inr rfl) hrel hfl fun j c hj => ?_
      simp only [World.cell?, Nat.zero_add]
      have hsz : (w.alloc (.cells #[] e (0, 0))).heap.size = (w.alloc (.cells #[] e (0, 0))).drew.heap.size := rfl
      rw [hsz, heap_push_new]
      simp only [List.append_toArray, List.nil_append]
      rw [Array.getElem?_append_left (by simp; exact (List.getElem?_eq_some_iff.1 hj).1)]
      simpa using hj
end
theorem cloneC_lst {L : Nat} {α : Type} (e : Enc α) (l : List α) (h : Heap) (k : Nat) (hk : k = e.k) : cloneCL L k [lst e l] h = if L < l.length then none else some (lst e l, h) := by
  subst hk
  have he : cloneCL L e.k [lst e l] h = (lenV (lst e l)).bind fun n => if n = 0 then some (.scon [] 0 0 false, h) else (h.sliceCells (lst e l) e.k n).bind fun cs => if L < n ∨ V.flatL cs = false then none else some (.scon cs 0 n false, h) := rfl
  simp only [he, lst_len, Option.bind_some, lst_sliceCells]
  by_cases hl : l = []
  · subst hl; simp
  · have hp : l.length ≠ 0 := by simpa using hl
    rw [if_neg hp, if_pos ⟨Nat.le_refl _, by omega⟩]
    simp only [List.drop_zero, Option.bind_some]
    rw [List.take_of_length_le (by simp), cat_flat]
    simp [lst]
end Go.Sim
end
section
namespace Go.Sim
open Go
set_option linter.unusedVariables false
set_option linter.unusedSimpArgs false

section
variable {E : Env} {n : Nat} {t : TypeId} {xs ys : List V}
theorem eqV_struct {fs : Array Field} (hu : E.P.underlying t = some (.struct fs)) (hc : E.eqTypes.contains t = true) : eqV E (n + 1) t (.agg xs) (.agg ys) = eqFields E n fs.toList xs ys := by
  simp only [eqV, hu, hc, if_true]
theorem eqF_nil : eqFields E (n + 1) [] xs ys = some true := by simp only [eqFields]
theorem eqF_cons {f : Field} {r : List Field} {a b : V} (hn : (f.name == "_") = false) (ha : isAggV E.P f.type = some false) (hx : xs[f.offset]? = some a) (hy : ys[f.offset]? = some b) :
    eqFields E (n + 1) (f :: r) xs ys = (eqV E n f.type a b).bind fun c => if c then eqFields E n r xs ys else some false := by
  simp only [eqFields, hn, partV, ha, hx, hy, Option.bind_some, Bool.false_eq_true, if_false]
theorem eqV_int {k : IntKind} {a b : Int} (hu : E.P.underlying t = some (.int k)) : eqV E (n + 1) t (.int k a) (.int k b) = some (a == b) := by
  simp only [eqV, hu, if_true]
theorem eqV_two {f0 f1 : Field} {x0 x1 y0 y1 : V} {c0 c1 : Bool} (hu : E.P.underlying t = some (.struct #[f0, f1])) (hc : E.eqTypes.contains t = true) (hn0 : (f0.name == "_") = false) (hn1 : (f1.name == "_") = false)
    (ho0 : f0.offset = 0) (ho1 : f1.offset = 1) (ha0 : isAggV E.P f0.type = some false) (ha1 : isAggV E.P f1.type = some false) (h0 : eqV E (n + 2) f0.type x0 y0 = some c0) (h1 : eqV E (n + 1) f1.type x1 y1 = some c1) :
    eqV E (n + 4) t (.agg [x0, x1]) (.agg [y0, y1]) = some (c0 && c1) := by
  rw [eqV_struct hu hc]
  show eqFields E (n + 3) [f0, f1] _ _ = _
  rw [eqF_cons hn0 ha0 (by rw [ho0]; rfl) (by rw [ho0]; rfl), h0]
  cases c0 with
  | false => rfl
  | true =>
    simp only [Option.bind_some, if_true]
    rw [eqF_cons hn1 ha1 (by rw [ho1]; rfl) (by rw [ho1]; rfl), h1]
    cases c1 with
    | false => rfl
    | true => simp only [Option.bind_some, if_true, Bool.and_true]; rw [eqF_nil]
theorem binO_neq {x y : Operand} {a b : List V} {c : Bool} (h : eqV E 200 t (.agg a) (.agg b) = some c) : binO E .neq t x y (.agg a) (.agg b) = some (.bool !c) := by
  simp [binO, binV, h]
theorem binO_eql {x y : Operand} {a b : List V} {c : Bool} (h : eqV E 200 t (.agg a) (.agg b) = some c) : binO E .eql t x y (.agg a) (.agg b) = some (.bool c) := by
  simp [binO, binV, h]
end
end Go.Sim
end
section
namespace Go.Sim
open Go
set_option linter.unusedVariables false
set_option linter.unusedSimpArgs false

section
variable {β : Type}
def fN (m : Nat) (f : Nat → β) : β := match m with | 0 => f 0 | Nat.succ k => f (Nat.succ k)
def fI (n : Int) (f : Int → β) : β := match n with | .ofNat m => fN m fun m => f (.ofNat m) | .negSucc m => fN m fun m => f (.negSucc m)
def fB (b : Bool) (f : Bool → β) : β := match b with | true => f true | false => f false
mutual
def fV : V → (V → β) → β
  | .bool b, f => fB b fun b => f (.bool b)
  | .int k n, f => fI n fun n => f (.int k n)
  | .float k n, f => f (.float k n)
  | .str s, f => f (.str s)
  | .nilptr, f => f .nilptr
  | .pref d j o e, f => fN d fun d => fN j fun j => fN o fun o => fN e fun e => f (.pref d j o e)
  | .pcon cs o, f => fL cs fun cs => fN o fun o => f (.pcon cs o)
  | .nilslice, f => f .nilslice
  | .sref d j o l e q, f => fN d fun d => fN j fun j => fN o fun o => fN l fun l => fN e fun e => fN q.1 fun q1 => fB q.2 fun q2 => f (.sref d j o l e (q1, q2))
  | .scon cs o l b, f => fL cs fun cs => fN o fun o => fN l fun l => fB b fun b => f (.scon cs o l b)
  | .func fn a b, f => fL a fun a => fL b fun b => f (.func fn a b)
  | .nilfunc, f => f .nilfunc
  | .iface t v, f => fV v fun v => f (.iface t v)
  | .niliface, f => f .niliface
  | .agg cs, f => fL cs fun cs => f (.agg cs)
  | .tuple vs, f => fL vs fun vs => f (.tuple vs)
  | .mref d j, f => fN d fun d => fN j fun j => f (.mref d j)
  | .nilmap, f => f .nilmap
  | .yield d j, f => fN d fun d => fN j fun j => f (.yield d j)
  | .poison, f => f .poison
def fL : List V → (List V → β) → β
  | [], f => f []
  | v :: r, f => fV v fun v => fL r fun r => f (v :: r)
end
def fBlk (b : Blk) (f : Blk → β) : β :=
  match b with
  | .row cells ep esz flat plain => fL cells fun cells => fN ep fun ep => fN esz fun esz => fB flat fun flat => fB plain fun plain => f (.row cells ep esz flat plain)
  | .loop fn tmps ps a c st p => fL tmps fun tmps => f (.loop fn tmps ps a c st p)
  | .dead => f .dead
  | .mp es => f (.mp es)
  | .it m a b c => f (.it m a b c)
def fBlks : List Blk → (List Blk → β) → β
  | [], f => f []
  | b :: r, f => fBlk b fun b => fBlks r fun r => f (b :: r)
def fHeap : List (List Blk) → (List (List Blk) → β) → β
  | [], f => f []
  | l :: r, f => fBlks l fun l => fHeap r fun r => f (l :: r)
def setF : List V → Nat → V → (List V → β) → β
  | [], _, _, f => f []
  | _ :: r, 0, v, f => f (v :: r)
  | x :: r, Nat.succ i, v, f => setF r i v fun r => f (x :: r)

theorem fN_eq (m : Nat) (f : Nat → β) : fN m f = f m := by cases m <;> rfl
theorem fI_eq (n : Int) (f : Int → β) : fI n f = f n := by cases n <;> simp [fI, fN_eq]
theorem fB_eq (b : Bool) (f : Bool → β) : fB b f = f b := by cases b <;> rfl
mutual
theorem fV_eq : ∀ (v : V) (f : V → β), fV v f = f v
  | .bool b, f => by simp [fV, fB_eq]
  | .int k n, f => by simp [fV, fI_eq]
  | .float k n, f => by simp [fV]
  | .str s, f => by simp [fV]
  | .nilptr, f => by simp [fV]
  | .pref d j o e, f => by simp [fV, fN_eq]
  | .pcon cs o, f => by simp [fV, fN_eq, fL_eq cs]
  | .nilslice, f => by simp [fV]
  | .sref d j o l e q, f => by simp [fV, fN_eq, fB_eq]
  | .scon cs o l b, f => by simp [fV, fN_eq, fB_eq, fL_eq cs]
  | .func fn a b, f => by simp [fV, fL_eq a, fL_eq b]
  | .nilfunc, f => by simp [fV]
  | .iface t v, f => by simp [fV, fV_eq v]
  | .niliface, f => by simp [fV]
  | .agg cs, f => by simp [fV, fL_eq cs]
  | .tuple vs, f => by simp [fV, fL_eq vs]
  | .mref d j, f => by simp [fV, fN_eq]
  | .nilmap, f => by simp [fV]
  | .yield d j, f => by simp [fV, fN_eq]
  | .poison, f => by simp [fV]
theorem fL_eq : ∀ (l : List V) (f : List V → β), fL l f = f l
  | [], f => by simp [fL]
  | v :: r, f => by simp [fL, fV_eq v, fL_eq r]
end
theorem fBlk_eq (b : Blk) (f : Blk → β) : fBlk b f = f b := by cases b <;> simp [fBlk, fL_eq, fN_eq, fB_eq]
theorem fBlks_eq : ∀ (l : List Blk) (f : List Blk → β), fBlks l f = f l
  | [], f => rfl
  | b :: r, f => by simp [fBlks, fBlk_eq, fBlks_eq r]
theorem fHeap_eq : ∀ (l : List (List Blk)) (f : List (List Blk) → β), fHeap l f = f l
  | [], f => rfl
  | b :: r, f => by simp [fHeap, fBlks_eq, fHeap_eq r]
theorem setF_eq : ∀ (l : List V) (i : Nat) (v : V) (f : List V → β), setF l i v f = f (l.set i v)
  | [], i, v, f => rfl
  | x :: r, 0, v, f => rfl
  | x :: r, i + 1, v, f => by simp only [setF, setF_eq r i v, List.set_cons_succ]
end
def putF {β : Type} (tmps : List V) (dst : Option Tmp) (v : V) (f : List V → β) : β :=
  match dst with
  | some d => setF tmps d v f
  | none => f tmps
theorem putF_eq {β : Type} (tmps : List V) (dst : Option Tmp) (v : V) (f : List V → β) : putF tmps dst v f = f (putT tmps dst v) := by
  cases dst <;> simp [putF, putT, setF_eq]
def calm : Op → Bool
  | .move _ | .assign _ | .pick .. | .build .. | .nilCheck _ | .binOp .. | .unOp .. | .makeInterface .. | .makeFunc .. | .slice .. | .fieldAddr .. | .field .. | .indexAddr .. | .index .. | .typeAssert .. | .extract .. | .load .. => true
  | _ => false
def opsF (E : Env) (rec : Rec) (ops : Array Oper) : List Oper → St → Option St
  | [], s => some s
  | o :: r, s =>
    (wantedV ops s.tmps o).bind fun w =>
    if w then (operV E rec s.tmps s.heap o.op).bind fun (v, h) => fV v fun v => putF s.tmps o.dst v fun t => if calm o.op then opsF E rec ops r ⟨s.fn, t, h⟩ else fHeap h fun h => opsF E rec ops r ⟨s.fn, t, h⟩
    else putF s.tmps o.dst V.undef fun t => opsF E rec ops r ⟨s.fn, t, s.heap⟩
theorem opsF_eq (E : Env) (rec : Rec) (ops : Array Oper) : ∀ (l : List Oper) (s : St), opsF E rec ops l s = opsV E rec ops l s
  | [], s => rfl
  | o :: r, s => by
    simp only [opsF, opsV, fV_eq, putF_eq, fHeap_eq, ite_self, opsF_eq E rec ops r]
def fSt {β : Type} (s : St) (f : St → β) : β := fL s.tmps fun t => fHeap s.heap fun h => f ⟨s.fn, t, h⟩
theorem fSt_eq {β : Type} (s : St) (f : St → β) : fSt s f = f s := by simp [fSt, fL_eq, fHeap_eq]
def evStepF (E : Env) (rec : Rec) : Rec := fun c s =>
  match c with
  | .region _ ops draw => (opsF E rec ops ops.toList s).bind fun s' => if draw && !(regOkD E ops [] || regOkD E ops s'.tmps) then none else some (.normal, s')
  | .loop body =>
    (hintsV (E.hint s.fn ((firstRegion body).getD 0)) s).bind fun s0 => fSt s0 fun s0 =>
    match rec body s0 with
    | some (.normal, s') => fSt ((forgets (E.hint s.fn ((firstRegion body).getD 0)) s').trim s0.heap.top.length) fun s2 => rec (.loop body) s2
    | r => r
  | .rangeFunc f ps a b => fSt s fun s => evStep E rec (.rangeFunc f ps a b) s
  | c => evStep E rec c s
theorem evStepF_eq (E : Env) (rec : Rec) : evStepF E rec = evStep E rec := by
  funext c s
  cases c with
  | region id ops draw =>
    simp only [evStepF, evStep, opsF_eq]
    congr 1
    funext s'
    cases hn : regOkD E ops [] with
    | true => rw [regOkD_nil E ops s'.tmps hn]; rfl
    | false => rfl
  | loop body =>
    simp only [evStepF, evStep, fSt_eq]
    congr 1
  | rangeFunc f ps a b => simp only [evStepF, fSt_eq]
  | _ => rfl
def evF (E : Env) : Nat → Rec
  | 0 => fun _ _ => none
  | n + 1 => evStepF E (evF E n)
theorem evF_eq (E : Env) : ∀ n, evF E n = ev E n
  | 0 => rfl
  | n + 1 => by rw [evF, ev, evStepF_eq, evF_eq E n]
end Go.Sim
end
section
namespace Go.Sim
open Go
set_option linter.unusedVariables false
set_option linter.unusedSimpArgs false

/- Equality of values, as far as contents go. -/
end Go.Sim
end
section
namespace Go.Sim
open Go Go.RowKit Go.ChangeShapes Go.WideShapes Go.Deep
set_option linter.unusedVariables false
set_option linter.unusedSimpArgs false

section
variable {H : Type} {enc : TypeId × Value → H} {P : Program} {W W' : World}

theorem trodAll_below (hl : laidOutB P = true) (hb : Below W.heap.size W W') : ∀ {ts : List TypeId} {vs : List Value} {ds : List (DataW H)} {ps : List MemPlace},
    (∀ t ∈ ts, P.readableRec t = true ∧ t < P.types.size) → DataW.TrodAll enc P W 0 (fun _ => true) true ts vs ds ps → (∀ x ∈ ps, x.block < W.heap.size) → DataW.TrodAll enc P W' 0 (fun b => decide (b < W.heap.size)) true ts vs ds ps
  | [], [], [], ps, _, h, _ => h
  | t :: ts, v :: vs, d :: ds, ps, hr, h, hlt => by
    obtain ⟨p, q, h1, h2, rfl⟩ := h
    exact ⟨p, q, Below.trod hl (hr t (by simp)).1 (hr t (by simp)).2 h1 hb fun x hx => hlt x (by simp [hx]), trodAll_below hl hb (fun t ht => hr t (by simp [ht])) h2 fun x hx => hlt x (by simp [hx]), rfl⟩
  | [], _ :: _, _, _, _, h, _ => by simp [DataW.TrodAll] at h
  | [], [], _ :: _, _, _, h, _ => by simp [DataW.TrodAll] at h
  | _ :: _, [], _, _, _, h, _ => by simp [DataW.TrodAll] at h
  | _ :: _, _ :: _, [], _, _, h, _ => by simp [DataW.TrodAll] at h

theorem law_post {f : Func} {s : ChangeSpec} {apart fresh handsOn : Bool} {args : Array Value} {ds gs : List (DataW H)} {before : List MemPlace} {tb : TypeId}
    (hl : laidOutB P = true) (hrd : ∀ t ∈ f.params.toList, P.readableRec t = true ∧ t < P.types.size) (htb : P.underlying tb = some .bool) (hres : f.resultTypes = #[tb]) (hvars : s.vars = [])
    (hW : DataW.Whole enc P f.params.toList s.vars apart W args.toList ds gs before) (hfn : s.fn H (ds ++ gs) = { results := [.lit (.bool true)], args := ds }) (hb : Below W.heap.size W W') :
    s.post enc P f apart fresh handsOn false W args (.bool true) W' := by
  have hlt := hW.lt
  have hW' := hW
  obtain ⟨p, q, hA, hV, rfl, _, _⟩ := hW
  rw [hvars] at hV
  obtain ⟨rfl, rfl⟩ := trodVars_none hV
  refine ⟨ds, [], _, [], p, [], hW', ?_, ?_, ?_, Below.frame hb _, fun h => by cases h⟩
  · rw [hfn, hres]
    exact trodAll_cons_mk (shut_bool htb _) trodAll_mk0
  · rw [hfn]
    exact trodAll_below hl hb hrd hA fun x hx => hlt x (by simp [hx])
  · rw [hfn, hvars]; exact rfl
end
end Go.Sim
end
section
namespace Go.Sim
open Go Go.RowKit
set_option linter.unusedVariables false
set_option linter.unusedSimpArgs false

section
variable {ok : Nat → Nat → Prop} {w w' : World} {B : Bd} {p : Array Oper → Bool} {h : Heap} {P : Program}
theorem Ext.below (hh : HR ok w B p h) (hb : Below w.heap.size w w') : Ext ok B w ok B w' ∧ HR ok w' B p h := by
  refine ⟨⟨hb.size, hb.os, hb.tape, hb.output, fun b h1 _ => hb.block b h1, OkLe.heap (fun _ _ h => h) (fun b n h1 => hb.block b (hh.okn b n h1).1), fun _ _ _ h => .inl h, fun d j => EntLe.refl _ fun b h1 => ?_, fun _ _ _ h1 _ => h1⟩,
    hh.world hb.size (fun b n h1 => hb.block b (hh.okn b n h1).1) fun d j b h1 => hb.block b (hh.lt d j b h1)⟩
  simp only [csize, hb.block b (hh.lt d j b h1)]; exact Nat.le_refl _
end
def knUU (f : Nat → Nat → V) (args : List V) (h : Heap) : Option (V × Heap) := match args with | [.int .u32 (.ofNat a), .int .u32 (.ofNat b)] => some (f a b, h) | _ => none
def knU (f : Nat → V) (args : List V) (h : Heap) : Option (V × Heap) := match args with | [.int .u32 (.ofNat a)] => some (f a, h) | _ => none
def knI (f : Int → V) (args : List V) (h : Heap) : Option (V × Heap) := match args with | [.int .i32 a] => some (f a, h) | _ => none
@[simp] theorem knUU_nat (f : Nat → Nat → V) (a b : Nat) (h : Heap) : knUU f [.int .u32 a, .int .u32 b] h = some (f a b, h) := rfl
@[simp] theorem knU_nat (f : Nat → V) (a : Nat) (h : Heap) : knU f [.int .u32 a] h = some (f a, h) := rfl
@[simp] theorem knI_int (f : Int → V) (a : Int) (h : Heap) : knI f [.int .i32 a] h = some (f a, h) := rfl
section
variable {P : Program} {f : FuncId} {p : Array Oper → Bool}
end
def knOUU (f : Nat → Nat → Nat → V) (args : List V) (h : Heap) : Option (V × Heap) := match args with | [.int .u8 (.ofNat o), .int .u32 (.ofNat a), .int .u32 (.ofNat b)] => some (f o a b, h) | _ => none
@[simp] theorem knOUU_nat (f : Nat → Nat → Nat → V) (o a b : Nat) (h : Heap) : knOUU f [.int .u8 o, .int .u32 a, .int .u32 b] h = some (f o a b, h) := rfl
end Go.Sim
end
section
namespace Go.Sim
open Go Go.RowKit Go.ChangeShapes Go.WideShapes Go.Deep
set_option linter.unusedVariables false
set_option linter.unusedSimpArgs false

section
variable {P : Program} {W : World} {r : Reach} {b0 : Nat}

theorem struct_cells {t : TypeId} {fs : Array Field} {ts : List TypeId} {v : Value} (hu : P.underlying t = some (.struct fs)) (hct : P.cellTypes P.depth t = some ts) (hn : P.cellsOf t = ts.length) (hv : Value.okWide P W r b0 t v) :
    ∃ cs : List Value, v = .agg cs.toArray ∧ cs.length = ts.length ∧ ∀ (i : Nat) (x : Value) (u : TypeId), cs[i]? = some x → ts[i]? = some u → Cell.okWide P W r b0 u x := by
  simp only [Value.okWide, hu] at hv
  obtain ⟨cs, rfl, hsz, ts', hts, _, hcell⟩ := hv
  rw [hct] at hts
  obtain rfl := Option.some.inj hts
  refine ⟨cs.toList, by simp, by simp [hsz, hn], fun i x u hx hu => ?_⟩
  obtain ⟨u', hu', h⟩ := hcell i x (by simpa using hx)
  have hi : i < ts.length := (List.getElem?_eq_some_iff.1 hu).1
  rw [Nat.mod_eq_of_lt hi, hu] at hu'
  exact Option.some.inj hu' ▸ h
end
end Go.Sim
end
section
namespace Go.Sim
open Go Go.RowKit Go.ChangeShapes Go.WideShapes Go.Deep
set_option linter.unusedVariables false
set_option linter.unusedSimpArgs false

def toVal : V → Value
  | .int k n => .int k n
  | .str s => .string ⟨s.toArray⟩
  | .bool b => .bool b
  | _ => .bool false
def simpleV : V → Bool
  | .int _ _ | .str _ | .bool _ => true
  | _ => false
theorem simple_rel {ok : Nat → Nat → Prop} {w : World} {B : Bd} {v : V} (h : simpleV v = true) : one (toVal v) = true ∧ VRel ok w B v (toVal v) := by
  cases v <;> simp [simpleV] at h <;> exact ⟨rfl, by simp [VRel, toVal]⟩
theorem crel_of {ok : Nat → Nat → Prop} {w : World} {b : Nat} (hb : b < w.heap.size → ∀ n, ok b n) : ∀ (cs : List V) (i : Nat), (∀ f v, cs[f]? = some v → w.cell? ⟨b, i + f, none⟩ = some (toVal v) ∧ simpleV v = true) → CRel ok w b i cs
  | [], i, _ => by simp [CRel]
  | v :: r, i, h => by
    simp only [CRel]
    obtain ⟨h1, h2⟩ := h 0 v rfl
    obtain ⟨g1, g2⟩ := simple_rel (ok := ok) (w := w) (B := Bd.none_) h2
    refine ⟨⟨_, h1, g1, ⟨i + 1, Nat.lt_succ_self _, hb (lt_of_cell h1) _⟩, g2⟩, crel_of hb r (i + 1) fun f u hf => ?_⟩
    have := h (f + 1) u (by simpa using hf)
    rw [show i + 1 + f = i + (f + 1) by omega]; exact this
theorem add_none (b o n : Nat) : (⟨b, o, none⟩ : Addr).add n = ⟨b, o + n, none⟩ := by
  unfold Addr.add; split <;> simp_all

section
variable {H : Type} {enc : TypeId × Value → H} {P : Program} {W : World}
end
end Go.Sim
end
section
namespace Go.Sim
open Go Go.RowKit Go.ChangeShapes Go.WideShapes Go.Deep
set_option linter.unusedVariables false
set_option linter.unusedSimpArgs false
section
variable {H : Type} {enc : TypeId × Value → H} {P : Program} {W : World}
theorem weight_each : ∀ {ts : List TypeId} {ds : List (DataW H)} {j : Nat} {t : TypeId} {d : DataW H} {x : Nat}, ts[j]? = some t → ds[j]? = some d → x ∈ d.weights P t → x ∈ DataW.weightsEach P ts ds
  | t0 :: ts, d0 :: ds, 0, t, d, x, ht, hd, hx => by
    simp only [List.getElem?_cons_zero, Option.some.injEq] at ht hd
    subst ht hd
    simp only [DataW.weightsEach, List.mem_append]; exact .inl hx
  | t0 :: ts, d0 :: ds, j + 1, t, d, x, ht, hd, hx => by
    simp only [List.getElem?_cons_succ] at ht hd
    simp only [DataW.weightsEach, List.mem_append]; exact .inr (weight_each ht hd hx)
  | [], _, _, _, _, _, ht, _, _ => by simp at ht
  | _ :: _, [], _, _, _, _, _, hd, _ => by simp at hd
end
end Go.Sim
end
section
namespace Go.Sim
open Go Go.RowKit Go.ChangeShapes Go.WideShapes Go.Deep
set_option linter.unusedVariables false
set_option linter.unusedSimpArgs false
theorem crel_of' {ok : Nat → Nat → Prop} {w : World} {b : Nat} (hb : b < w.heap.size → ∀ n, ok b n) : ∀ (cs : List V) (i : Nat), (∀ f v, cs[f]? = some v → ∃ c, w.cell? ⟨b, i + f, none⟩ = some c ∧ one c = true ∧ VRel ok w Bd.none_ v c) → CRel ok w b i cs
  | [], i, _ => by simp [CRel]
  | v :: r, i, h => by
    simp only [CRel]
    obtain ⟨c, h1, g1, g2⟩ := h 0 v rfl
    refine ⟨⟨c, h1, g1, ⟨i + 1, Nat.lt_succ_self _, hb (lt_of_cell h1) _⟩, g2⟩, crel_of' hb r (i + 1) fun f u hf => ?_⟩
    have := h (f + 1) u (by simpa using hf)
    rw [show i + 1 + f = i + (f + 1) by omega]; exact this
section
variable {H : Type} {enc : TypeId × Value → H} {P : Program} {W : World}
end
end Go.Sim
end
section
namespace Go.Sim
open Go
set_option linter.unusedVariables false
set_option linter.unusedSimpArgs false

def puts (t : List V) : List (Nat × V) → List V
  | [] => t
  | (i, v) :: r => puts (put t i v) r
def forgT (t : List V) : List Hint → List V
  | [] => t
  | .forget i :: r => forgT (put t i .poison) r
  | _ :: r => forgT t r
def setsH (h : Heap) : List (Nat × Nat × Blk) → Heap
  | [] => h
  | (d, j, b) :: r => setsH (h.set d j b) r
def addsH (h : Heap) (l : List Blk) : Heap := h.setTop (h.top ++ l)
@[simp] theorem puts_nil (t) : puts t [] = t := rfl
@[simp] theorem puts_cons (t i v r) : puts t ((i, v) :: r) = puts (put t i v) r := rfl
@[simp] theorem forgT_nil (t) : forgT t [] = t := rfl
@[simp] theorem forgT_forget (t i r) : forgT t (.forget i :: r) = forgT (put t i .poison) r := rfl
@[simp] theorem forgT_canon (t i r) : forgT t (.canon i :: r) = forgT t r := rfl
@[simp] theorem forgT_promote (t i e r) : forgT t (.promote i e :: r) = forgT t r := rfl
@[simp] theorem forgT_promoteBox (t i o e r) : forgT t (.promoteBox i o e :: r) = forgT t r := rfl
@[simp] theorem forgT_promoteAll (t i o e r) : forgT t (.promoteAll i o e :: r) = forgT t r := rfl
@[simp] theorem forgT_loose (t i r) : forgT t (.loose i :: r) = forgT t r := rfl
@[simp] theorem setsH_nil (h) : setsH h [] = h := rfl
@[simp] theorem setsH_cons (h d j b r) : setsH h ((d, j, b) :: r) = setsH (h.set d j b) r := rfl
@[simp] theorem addsH_cons (l r : _) (b : List Blk) : addsH (l :: r) b = (l ++ b) :: r := rfl

theorem loop_chg {E : Env} {fn : FuncId} {dyn : List Nat} {hs : List Hint} {body : Code} {R : Type} {k : Kont R} {t : List V} {h : Heap} {r : R} {p : Tag (body, k)} {α : Type}
    (S : α → List (Nat × V)) (H : α → List (Nat × Nat × Blk)) (A : α → List Blk) (Inv : α → Prop) (μ : α → Nat)
    (hh : E.hint fn ((firstRegion body).getD 0) = hs) (hd : okDraws E dyn body = true)
    (step : ∀ a, Inv a → (∀ b t' h', Inv b → μ b < μ a → hintsK hs t' h' (fun t h => lpB E fn dyn hs body k t h .mk) = lpB E fn dyn hs body k (puts (forgT t hs) (S b)) (addsH (setsH h (H b)) (A b)) .mk → lpK (om E) fn body k t' h' .mk = some r) →
      lpB E fn dyn hs body k (puts (forgT t hs) (S a)) (addsH (setsH h (H a)) (A a)) .mk = some r)
    (a : α) (ha : Inv a) (hi : hintsK hs t h (fun t h => lpB E fn dyn hs body k t h .mk) = lpB E fn dyn hs body k (puts (forgT t hs) (S a)) (addsH (setsH h (H a)) (A a)) .mk) : lpK (om E) fn body k t h p = some r :=
  loop_use (fun a => puts (forgT t hs) (S a)) (fun a => addsH (setsH h (H a)) (A a)) Inv μ hh hd step a ha hi

def ngK {R : Type} (k : Kont R) : Kont R := fun e t h => match e with | .goto _ => none | e => k e t h
@[simp ↓] theorem ngK_normal {R : Type} (k : Kont R) (t h) : ngK k .normal t h = k .normal t h := rfl
@[simp ↓] theorem ngK_ret {R : Type} (k : Kont R) (t h) : ngK k .ret t h = k .ret t h := rfl
@[simp ↓] theorem ngK_exit {R : Type} (k : Kont R) (i t h) : ngK k (.exit i) t h = k (.exit i) t h := rfl
end Go.Sim
end
