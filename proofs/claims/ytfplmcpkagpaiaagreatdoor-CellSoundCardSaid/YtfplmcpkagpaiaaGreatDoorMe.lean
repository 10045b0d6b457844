/-
 The machine of values: equations of its parts for 'simp', constructor by constructor.
 The machine of values: words and laws for walks: numbers, lists with their contents.
 The machine of values: lists of things of one kind, by their contents.
 The machine of values: lists that are being written.
 The machine of values: ranges over functions, told from the end.
 The machine of values: what slices.Clone does, from its operations.
 The machine of values: structs that are compared.
 The machine of values: the same evaluator, in a form in which the kernel reckons quickly: what an operation gives is laid out before it is kept.
 The machine of values: what has been reckoned before is taken for known.
 The machine of values: from a given statement's form to it. What an argument reads as, by its contents; what a law's answer is to be.
 The machine of values: functions that answer numbers of numbers, by what they were walked to answer.
 The machine of values: arguments that are structs, by their cells; lists that nobody reads.
 The machine of values: lists of structs as arguments, by their contents.
 The machine of values: how long a list can be that an argument reads as.
 The machine of values: lists of whatever cells as arguments, by their contents (lists of structs that hold lists).
 Functions that read a global table; a law's walk where a package variable is laid; the lowest bit of a word.
 The machine of values: a loop told by what changes at its head.
 The machine of values: structs of six numbers that are compared.
-/
import Derived.Test.YtfplmcpkagpaiaaGreatDoorMd
import Derived.IntWalk
import Derived.Deep.Slices
import Derived.Carry
import Derived.ChangeSame
import Derived.OpenShut
import Derived.SizedLaws
set_option linter.unusedSimpArgs false
set_option linter.unusedVariables false
section
namespace Go.Sim
open Go
@[simp] theorem flat_bool {b} : V.flat (.bool b : V) = true := by simp only [V.flat]
@[simp] theorem flat_int {k} {n} : V.flat (.int k n : V) = true := by simp only [V.flat]
@[simp] theorem flat_str {s} : V.flat (.str s : V) = true := by simp only [V.flat]
@[simp] theorem flat_nilptr : V.flat (.nilptr : V) = true := by simp only [V.flat]
@[simp] theorem flat_pref {d} {j} {o} {e} : V.flat (.pref d j o e : V) = false := by simp only [V.flat]
@[simp] theorem flat_pcon {cs} {o} : V.flat (.pcon cs o : V) = true := by simp only [V.flat]
@[simp] theorem flat_nilslice : V.flat (.nilslice : V) = true := by simp only [V.flat]
@[simp] theorem flat_sref {d} {j} {o} {l} {e} {q} : V.flat (.sref d j o l e q : V) = false := by simp only [V.flat]
@[simp] theorem flat_scon {cs} {o} {l} {f} : V.flat (.scon cs o l f : V) = true := by simp only [V.flat]
@[simp] theorem flat_func {fn} {a} {b} : V.flat (.func fn a b : V) = (V.flatL a && V.flatL b) := by simp only [V.flat]
@[simp] theorem flat_iface {ty} {v} : V.flat (.iface ty v : V) = V.flat v := by simp only [V.flat]
@[simp] theorem flat_agg {cs} : V.flat (.agg cs : V) = V.flatL cs := by simp only [V.flat]
@[simp] theorem flat_tuple {vs} : V.flat (.tuple vs : V) = V.flatL vs := by simp only [V.flat]
@[simp] theorem flat_mref {d} {j} : V.flat (.mref d j : V) = false := by simp only [V.flat]
@[simp] theorem flat_yield {d} {j} : V.flat (.yield d j : V) = false := by simp only [V.flat]
@[simp] theorem flat_poison : V.flat (.poison : V) = false := by simp only [V.flat]
@[simp] theorem plain_bool {b} : V.plain (.bool b : V) = true := by simp only [V.plain]
@[simp] theorem plain_int {k} {n} : V.plain (.int k n : V) = true := by simp only [V.plain]
@[simp] theorem plain_str {s} : V.plain (.str s : V) = true := by simp only [V.plain]
@[simp] theorem plain_nilptr : V.plain (.nilptr : V) = true := by simp only [V.plain]
@[simp] theorem plain_pref {d} {j} {o} {e} : V.plain (.pref d j o e : V) = false := by simp only [V.plain]
@[simp] theorem plain_pcon {cs} {o} : V.plain (.pcon cs o : V) = false := by simp only [V.plain]
@[simp] theorem plain_nilslice : V.plain (.nilslice : V) = true := by simp only [V.plain]
@[simp] theorem plain_sref {d} {j} {o} {l} {e} {q} : V.plain (.sref d j o l e q : V) = false := by simp only [V.plain]
@[simp] theorem plain_scon {cs} {o} {l} {f} : V.plain (.scon cs o l f : V) = false := by simp only [V.plain]
@[simp] theorem plain_func {fn} {a} {b} : V.plain (.func fn a b : V) = (V.plainL a && V.plainL b) := by simp only [V.plain]
@[simp] theorem cell1_int {k} {n} : V.cell1 (.int k n : V) = true := by simp only [V.cell1]
@[simp] theorem cell1_str {s} : V.cell1 (.str s : V) = true := by simp only [V.cell1]
@[simp] theorem cell1_nilptr : V.cell1 (.nilptr : V) = true := by simp only [V.cell1]
@[simp] theorem cell1_pref {d} {j} {o} {e} : V.cell1 (.pref d j o e : V) = true := by simp only [V.cell1]
@[simp] theorem cell1_pcon {cs} {o} : V.cell1 (.pcon cs o : V) = true := by simp only [V.cell1]
@[simp] theorem cell1_nilslice : V.cell1 (.nilslice : V) = true := by simp only [V.cell1]
@[simp] theorem cell1_sref {d} {j} {o} {l} {e} {q} : V.cell1 (.sref d j o l e q : V) = true := by simp only [V.cell1]
@[simp] theorem cell1_scon {cs} {o} {l} {f} : V.cell1 (.scon cs o l f : V) = true := by simp only [V.cell1]
@[simp] theorem canon_bool {b} : V.canon (.bool b : V) = (.bool b) := by simp only [V.canon]
@[simp] theorem canon_int {k} {n} : V.canon (.int k n : V) = (.int k n) := by simp only [V.canon]
@[simp] theorem canon_str {s} : V.canon (.str s : V) = (.str s) := by simp only [V.canon]
@[simp] theorem canon_nilptr : V.canon (.nilptr : V) = .nilptr := by simp only [V.canon]
@[simp] theorem canon_pcon {cs} {o} : V.canon (.pcon cs o : V) = .pcon (V.canonL cs) o := by simp only [V.canon]
@[simp] theorem canon_nilslice : V.canon (.nilslice : V) = .scon [] 0 0 false := by simp only [V.canon]
@[simp] theorem canon_scon {cs} {o} {l} {f} : V.canon (.scon cs o l f : V) = .scon (V.canonL cs) o l false := by simp only [V.canon]
@[simp] theorem canon_func {fn} {a} {b} : V.canon (.func fn a b : V) = (.func fn a b) := by simp only [V.canon]
@[simp] theorem canon_agg {cs} : V.canon (.agg cs : V) = .agg (V.canonL cs) := by simp only [V.canon]
@[simp] theorem canon_tuple {vs} : V.canon (.tuple vs : V) = .tuple (V.canonL vs) := by simp only [V.canon]
@[simp] theorem up_bool {m : Nat} {b} : V.up m (.bool b : V) = (.bool b) := by simp only [V.up]
@[simp] theorem up_int {m : Nat} {k} {n} : V.up m (.int k n : V) = (.int k n) := by simp only [V.up]
@[simp] theorem up_float {m : Nat} {k} {n} : V.up m (.float k n : V) = (.float k n) := by simp only [V.up]
@[simp] theorem up_str {m : Nat} {s} : V.up m (.str s : V) = (.str s) := by simp only [V.up]
@[simp] theorem up_nilptr {m : Nat} : V.up m (.nilptr : V) = .nilptr := by simp only [V.up]
@[simp] theorem up_pref {m : Nat} {d} {j} {o} {e} : V.up m (.pref d j o e : V) = .pref (d + m) j o e := by simp only [V.up]
@[simp] theorem up_pcon {m : Nat} {cs} {o} : V.up m (.pcon cs o : V) = (.pcon cs o) := by simp only [V.up]
@[simp] theorem up_nilslice {m : Nat} : V.up m (.nilslice : V) = .nilslice := by simp only [V.up]
@[simp] theorem up_sref {m : Nat} {d} {j} {o} {l} {e} {q} : V.up m (.sref d j o l e q : V) = .sref (d + m) j o l e q := by simp only [V.up]
@[simp] theorem up_scon {m : Nat} {cs} {o} {l} {f} : V.up m (.scon cs o l f : V) = (.scon cs o l f) := by simp only [V.up]
@[simp] theorem up_func {m : Nat} {fn} {a} {b} : V.up m (.func fn a b : V) = .func fn (V.upL m a) (V.upL m b) := by simp only [V.up]
@[simp] theorem up_nilfunc {m : Nat} : V.up m (.nilfunc : V) = .nilfunc := by simp only [V.up]
@[simp] theorem up_iface {m : Nat} {ty} {v} : V.up m (.iface ty v : V) = .iface ty (V.up m v) := by simp only [V.up]
@[simp] theorem up_niliface {m : Nat} : V.up m (.niliface : V) = .niliface := by simp only [V.up]
@[simp] theorem up_agg {m : Nat} {cs} : V.up m (.agg cs : V) = .agg (V.upL m cs) := by simp only [V.up]
@[simp] theorem up_tuple {m : Nat} {vs} : V.up m (.tuple vs : V) = .tuple (V.upL m vs) := by simp only [V.up]
@[simp] theorem up_nilmap {m : Nat} : V.up m (.nilmap : V) = .nilmap := by simp only [V.up]
@[simp] theorem up_yield {m : Nat} {d} {j} : V.up m (.yield d j : V) = .yield (d + m) j := by simp only [V.up]
@[simp] theorem out_int {m : Nat} {k} {n} : V.out m (.int k n : V) = (.int k n) := by simp only [V.out]
@[simp] theorem out_nilptr {m : Nat} : V.out m (.nilptr : V) = .nilptr := by simp only [V.out]
@[simp] theorem out_pref {m : Nat} {d} {j} {o} {e} : V.out m (.pref d j o e : V) = if d = 0 then .pref 0 (m + j) o e else .pref (d - 1) j o e := by simp only [V.out]
@[simp] theorem out_nilslice {m : Nat} : V.out m (.nilslice : V) = .nilslice := by simp only [V.out]
@[simp] theorem out_sref {m : Nat} {d} {j} {o} {l} {e} {q} : V.out m (.sref d j o l e q : V) = if d = 0 then .sref 0 (m + j) o l e q else .sref (d - 1) j o l e q := by simp only [V.out]
@[simp] theorem out_func {m : Nat} {fn} {a} {b} : V.out m (.func fn a b : V) = .func fn (V.outL m a) (V.outL m b) := by simp only [V.out]
@[simp] theorem out_tuple {m : Nat} {vs} : V.out m (.tuple vs : V) = .tuple (V.outL m vs) := by simp only [V.out]
@[simp] theorem down_int {m : Nat} {k} {n} : V.down m (.int k n : V) = some (.int k n) := by simp only [V.down]
@[simp] theorem down_sref {m : Nat} {d} {j} {o} {l} {e} {q} : V.down m (.sref d j o l e q : V) = if m ≤ d then some (.sref (d - m) j o l e q) else none := by simp only [V.down]
@[simp] theorem down_agg {m : Nat} {cs} : V.down m (.agg cs : V) = (V.downL m cs).bind fun cs' => some (.agg cs') := by simp only [V.down]
@[simp] theorem settle_bool {m : Nat} {H : Heap} {b} : V.settle m H (.bool b : V) = (.bool b) := by simp only [V.settle]
@[simp] theorem settle_int {m : Nat} {H : Heap} {k} {n} : V.settle m H (.int k n : V) = (.int k n) := by simp only [V.settle]
@[simp] theorem settle_float {m : Nat} {H : Heap} {k} {n} : V.settle m H (.float k n : V) = (.float k n) := by simp only [V.settle]
@[simp] theorem settle_str {m : Nat} {H : Heap} {s} : V.settle m H (.str s : V) = (.str s) := by simp only [V.settle]
@[simp] theorem settle_nilptr {m : Nat} {H : Heap} : V.settle m H (.nilptr : V) = .nilptr := by simp only [V.settle]
@[simp] theorem settle_pref {m : Nat} {H : Heap} {d} {j} {o} {e} : V.settle m H (.pref d j o e : V) = if d == 0 && Nat.ble m j then (V.view 50 H (.pref d j o e)).getD .poison else .pref d j o e := by simp only [V.settle]
@[simp] theorem settle_pcon {m : Nat} {H : Heap} {cs} {o} : V.settle m H (.pcon cs o : V) = (.pcon cs o) := by simp only [V.settle]
@[simp] theorem settle_nilslice {m : Nat} {H : Heap} : V.settle m H (.nilslice : V) = .nilslice := by simp only [V.settle]
@[simp] theorem settle_sref {m : Nat} {H : Heap} {d} {j} {o} {l} {e} {q} : V.settle m H (.sref d j o l e q : V) = if d == 0 && Nat.ble m j then (V.view 50 H (.sref d j o l e q)).getD .poison else .sref d j o l e q := by simp only [V.settle]
@[simp] theorem settle_scon {m : Nat} {H : Heap} {cs} {o} {l} {f} : V.settle m H (.scon cs o l f : V) = (.scon cs o l f) := by simp only [V.settle]
@[simp] theorem settle_func {m : Nat} {H : Heap} {fn} {a} {b} : V.settle m H (.func fn a b : V) = .func fn (V.settleL m H a) (V.settleL m H b) := by simp only [V.settle]
@[simp] theorem settle_nilfunc {m : Nat} {H : Heap} : V.settle m H (.nilfunc : V) = .nilfunc := by simp only [V.settle]
@[simp] theorem settle_iface {m : Nat} {H : Heap} {ty} {v} : V.settle m H (.iface ty v : V) = .iface ty (V.settle m H v) := by simp only [V.settle]
@[simp] theorem settle_niliface {m : Nat} {H : Heap} : V.settle m H (.niliface : V) = .niliface := by simp only [V.settle]
@[simp] theorem settle_agg {m : Nat} {H : Heap} {cs} : V.settle m H (.agg cs : V) = .agg (V.settleL m H cs) := by simp only [V.settle]
@[simp] theorem settle_tuple {m : Nat} {H : Heap} {vs} : V.settle m H (.tuple vs : V) = .tuple (V.settleL m H vs) := by simp only [V.settle]
@[simp] theorem settle_nilmap {m : Nat} {H : Heap} : V.settle m H (.nilmap : V) = .nilmap := by simp only [V.settle]
@[simp] theorem settle_yield {m : Nat} {H : Heap} {d} {j} : V.settle m H (.yield d j : V) = if d == 0 && Nat.ble m j then .poison else .yield d j := by simp only [V.settle]
@[simp] theorem settle_poison {m : Nat} {H : Heap} : V.settle m H (.poison : V) = .poison := by simp only [V.settle]
@[simp] theorem freeze_bool {T : Heap} {b} : V.freeze T (.bool b : V) = some (.bool b) := by simp [V.freeze, V.down]
@[simp] theorem freeze_int {T : Heap} {k} {n} : V.freeze T (.int k n : V) = some (.int k n) := by simp [V.freeze, V.down]
@[simp] theorem freeze_str {T : Heap} {s} : V.freeze T (.str s : V) = some (.str s) := by simp [V.freeze, V.down]
@[simp] theorem freeze_nilptr {T : Heap} : V.freeze T (.nilptr : V) = some .nilptr := by simp [V.freeze, V.down]
@[simp] theorem freeze_pcon {T : Heap} {cs} {o} : V.freeze T (.pcon cs o : V) = some (.pcon cs o) := by simp [V.freeze, V.down]
@[simp] theorem freeze_nilslice {T : Heap} : V.freeze T (.nilslice : V) = some .nilslice := by simp [V.freeze, V.down]
@[simp] theorem freeze_scon {T : Heap} {cs} {o} {l} {f} : V.freeze T (.scon cs o l f : V) = some (.scon cs o l f) := by simp [V.freeze, V.down]
@[simp] theorem freeze_func {T : Heap} {fn} {a} {b} : V.freeze T (.func fn a b : V) = (V.freezeL T a).bind fun a' => (V.freezeL T b).bind fun b' => some (.func fn a' b') := by simp [V.freeze, V.down]
@[simp] theorem freeze_iface {T : Heap} {ty} {v} : V.freeze T (.iface ty v : V) = (V.freeze T v).bind fun v' => some (.iface ty v') := by simp [V.freeze, V.down]
@[simp] theorem freeze_agg {T : Heap} {cs} : V.freeze T (.agg cs : V) = (V.freezeL T cs).bind fun cs' => some (.agg cs') := by simp [V.freeze, V.down]
@[simp] theorem freeze_tuple {T : Heap} {vs} : V.freeze T (.tuple vs : V) = (V.freezeL T vs).bind fun vs' => some (.tuple vs') := by simp [V.freeze, V.down]
@[simp] theorem freeze_pref0 {T : Heap} {j o e} : V.freeze T (.pref 0 j o e) = V.view 50 T (.pref 0 j o e) := by simp only [V.freeze]
@[simp] theorem freeze_sref0 {T : Heap} {j o l e q} : V.freeze T (.sref 0 j o l e q) = V.view 50 T (.sref 0 j o l e q) := by simp only [V.freeze]
@[simp] theorem freeze_srefS {T : Heap} {d j o l e q} : V.freeze T (.sref (d + 1) j o l e q) = some (.sref d j o l e q) := by simp [V.freeze, V.down]
@[simp] theorem stripL_nil : V.stripL [] = [] := by simp [V.stripL]
@[simp] theorem stripL_cons (v r) : V.stripL (v :: r) = V.strip v :: V.stripL r := by simp [V.stripL]
@[simp] theorem strip_tuple (vs) : V.strip (.tuple vs) = .tuple (V.stripL vs) := by simp [V.strip]
@[simp] theorem strip_pref0 (j o e) : V.strip (.pref 0 j o e) = .pref 0 j o e := by simp [V.strip]
@[simp] theorem strip_sref0 (j o l e f) : V.strip (.sref 0 j o l e f) = .sref 0 j o l e f := by simp [V.strip]
@[simp] theorem strip_pcon (c o) : V.strip (.pcon c o) = .pcon [] 0 := by simp [V.strip]
@[simp] theorem strip_scon (c o l f) : V.strip (.scon c o l f) = .scon [] 0 l false := by simp [V.strip]
@[simp] theorem strip_int {k n} : V.strip (V.int k n) = V.int k n := by simp [V.strip, V.plain]
@[simp] theorem stripBlk_row (cells ep esz flat plain) : stripBlk (.row cells ep esz flat plain) = if plain then .row cells ep esz flat plain else .row (V.stripL cells) ep esz false false := rfl
@[simp] theorem stripBlk_dead : stripBlk .dead = .dead := rfl
@[simp] theorem own_bool {h : Heap} {b} : V.own h (.bool b : V) = true := by simp [V.own]
@[simp] theorem own_int {h : Heap} {k} {n} : V.own h (.int k n : V) = true := by simp [V.own]
@[simp] theorem own_str {h : Heap} {s} : V.own h (.str s : V) = true := by simp [V.own]
@[simp] theorem own_nilptr {h : Heap} : V.own h (.nilptr : V) = true := by simp [V.own]
@[simp] theorem own_pcon {h : Heap} {cs} {o} : V.own h (.pcon cs o : V) = false := by simp [V.own]
@[simp] theorem own_nilslice {h : Heap} : V.own h (.nilslice : V) = true := by simp [V.own]
@[simp] theorem own_scon {h : Heap} {cs} {o} {l} {f} : V.own h (.scon cs o l f : V) = (cs.isEmpty && o == 0 && l == 0 && !f) := by
 cases cs with
 | nil => cases o with
  | zero => cases l with
   | zero => cases f <;> simp [V.own]
   | succ l => simp [V.own]
  | succ o => simp [V.own]
 | cons v r => simp [V.own]
@[simp] theorem own_func {h : Heap} {fn} {a} {b} : V.own h (.func fn a b : V) = (V.plainL a && V.plainL b) := by simp [V.own]
@[simp] theorem own_agg {h : Heap} {cs} : V.own h (.agg cs : V) = V.ownL h cs := by simp [V.own]
@[simp] theorem own_tuple {h : Heap} {vs} : V.own h (.tuple vs : V) = V.ownL h vs := by simp [V.own]
@[simp] theorem own_pref0 {h : Heap} {j o e} : V.own h (.pref 0 j o e) = (match h.get 0 j with | some (.row _ _ _ flat plain) => flat && plain | _ => false) := by simp only [V.own]; rfl
@[simp] theorem own_sref0 {h : Heap} {j o l e q} : V.own h (.sref 0 j o l e q) = (match h.get 0 j with | some (.row _ _ _ flat plain) => flat && plain | _ => false) := by simp only [V.own]; rfl
attribute [simp] V.flatL V.plainL V.canonL V.upL V.outL V.downL V.settleL V.freezeL V.ownL optMap viewArgs V.forkL V.fork forkBlk
@[simp] theorem cells_int {k} {n} : V.cells (.int k n : V) = [.int k n] := same rfl
@[simp] theorem cells_pref {d} {j} {o} {e} : V.cells (.pref d j o e : V) = [.pref d j o e] := same rfl
@[simp] theorem cells_pcon {cs} {o} : V.cells (.pcon cs o : V) = [.pcon cs o] := same rfl
@[simp] theorem cells_nilslice : V.cells (.nilslice : V) = [.nilslice] := same rfl
@[simp] theorem cells_sref {d} {j} {o} {l} {e} {q} : V.cells (.sref d j o l e q : V) = [.sref d j o l e q] := same rfl
@[simp] theorem cells_scon {cs} {o} {l} {f} : V.cells (.scon cs o l f : V) = [.scon cs o l f] := same rfl
@[simp] theorem cells_agg {cs} : V.cells (.agg cs : V) = cs := same rfl
@[simp] theorem view_int {n : Nat} {h : Heap} {k} {m} : V.view (n + 1) h (.int k m : V) = some (.int k m) := by first | rfl | simp only [V.view]
@[simp] theorem view_pref {n : Nat} {h : Heap} {d} {j} {o} {e} : V.view (n + 1) h (.pref d j o e : V) = (match h.get d j with | some (.row cells ep' _ flat _) => if e = ep' then (if flat then some cells else optMap (V.view n (h.drop d)) cells).bind fun cs => some (.pcon cs o) else none | _ => none) := by first | rfl | simp only [V.view]
@[simp] theorem view_pcon {n : Nat} {h : Heap} {cs} {o} : V.view (n + 1) h (.pcon cs o : V) = some (.pcon cs o) := by first | rfl | simp only [V.view]
@[simp] theorem view_nilslice {n : Nat} {h : Heap} : V.view (n + 1) h (.nilslice : V) = some .nilslice := by first | rfl | simp only [V.view]
@[simp] theorem view_sref {n : Nat} {h : Heap} {d} {j} {o} {l} {e} {q} : V.view (n + 1) h (.sref d j o l e q : V) = (match h.get d j with | some (.row cells ep' _ flat _) => if e = ep' then (if flat then some cells else optMap (V.view n (h.drop d)) cells).bind fun cs => some (.scon (cutCells cs o l q.1) 0 l q.2) else none | _ => none) := by first | rfl | simp only [V.view]
@[simp] theorem view_scon {n : Nat} {h : Heap} {cs} {o} {l} {f} : V.view (n + 1) h (.scon cs o l f : V) = some (.scon cs o l f) := by first | rfl | simp only [V.view]
@[simp] theorem view_agg {n : Nat} {h : Heap} {cs} : V.view (n + 1) h (.agg cs : V) = (optMap (V.view n h) cs).bind fun cs' => some (.agg cs') := by first | rfl | simp only [V.view]
@[simp] theorem Heap_top_cons (l : List Blk) (r : Heap) : Heap.top (l :: r) = l := same rfl
@[simp] theorem Heap_get0 (l : List Blk) (r : Heap) (j : Nat) : Heap.get (l :: r) 0 j = l[j]? := same rfl
@[simp] theorem Heap_getS (l : List Blk) (r : Heap) (d j : Nat) : Heap.get (l :: r) (d + 1) j = Heap.get r d j := by simp [Heap.get]
@[simp] theorem Heap_set0 (l : List Blk) (r : Heap) (j : Nat) (b : Blk) : Heap.set (l :: r) 0 j b = l.set j b :: r := same rfl
@[simp] theorem Heap_setS (l : List Blk) (r : Heap) (d j : Nat) (b : Blk) : Heap.set (l :: r) (d + 1) j b = l :: Heap.set r d j b := by simp [Heap.set]
@[simp] theorem Heap_setTop (l l' : List Blk) (r : Heap) : Heap.setTop (l :: r) l' = l' :: r := same rfl
@[simp] theorem Heap_push (l : List Blk) (r : Heap) (b : Blk) : Heap.push (l :: r) b = (l ++ [b]) :: r := same rfl
@[simp] theorem newRow_2 (h : Heap) (cells : List V) (esz : Nat) : (newRow h cells esz).2 = h.push (.row cells 0 esz (V.flatL cells) (V.plainL cells)) := same rfl
@[simp] theorem loadN_zero (cs : List V) (o : Nat) : loadN cs o 0 = some [] := same rfl
theorem loadN_succ (cs : List V) (o n : Nat) : loadN cs o (n + 1) = (cs[o]?).bind fun v => (loadN cs (o + 1) n).bind fun r => some (v :: r) := rfl
@[simp] theorem storeN_nil (cs : List V) (o : Nat) : storeN cs o [] = cs := same rfl
@[simp] theorem storeN_cons (cs : List V) (o : Nat) (v r) : storeN cs o (v :: r) = storeN (cs.set o v) (o + 1) r := same rfl
@[simp] theorem upIf_true (d : Nat) (vs : List V) : V.upIf true d vs = vs := same rfl
@[simp] theorem upIf_zero (b : Bool) (vs : List V) : V.upIf b 0 vs = vs := by cases b <;> rfl
@[simp] theorem load_pcon (h : Heap) (cs : List V) (o n : Nat) : Heap.load h (.pcon cs o) n = loadN cs o n := same rfl
@[simp] theorem load_pref (h : Heap) (d j o e n : Nat) : Heap.load h (.pref d j o e) n = (match h.get d j with | some (.row cells ep' _ flat _) => if e = ep' then (loadN cells o n).map (V.upIf flat d) else none | _ => none) := same rfl
@[simp] theorem lenV_nil : lenV .nilslice = some 0 := same rfl
@[simp] theorem lenV_sref (d j o l e q) : lenV (.sref d j o l e q) = some l := same rfl
@[simp] theorem lenV_scon (c o l f) : lenV (.scon c o l f) = some l := same rfl
@[simp] theorem undef_def : V.undef = .tuple [] := same rfl
@[simp] theorem okCells_nil : okCells [] = true := same rfl
@[simp] theorem okCells_cons (v l) : okCells (v :: l) = (V.cell1 v && okCells l) := same rfl
@[simp] theorem ofValue_bool (b) : ofValue (.bool b) = some (.bool b) := same rfl
@[simp] theorem ofValue_int (k n) : ofValue (.int k n) = some (.int k n) := same rfl
@[simp] theorem ofValue_nilptr : ofValue (.pointer none) = some .nilptr := same rfl
@[simp] theorem ofValue_nilslice : ofValue (.slice none 0 0) = some .nilslice := same rfl
@[simp] theorem ofValue_nilfunc : ofValue .nilFunc = some .nilfunc := same rfl
@[simp] theorem ofValue_niliface : ofValue .nilIface = some .niliface := same rfl
attribute [simp] ofSimpleL
def andI (n : Nat) (a b : Int) : Int := ((BitVec.ofInt n a &&& BitVec.ofInt n b).toNat : Int)
def orI (n : Nat) (a b : Int) : Int := ((BitVec.ofInt n a ||| BitVec.ofInt n b).toNat : Int)
def xorI (n : Nat) (a b : Int) : Int := ((BitVec.ofInt n a ^^^ BitVec.ofInt n b).toNat : Int)
def andNotI (n : Nat) (a b : Int) : Int := ((BitVec.ofInt n a &&& ~~~BitVec.ofInt n b).toNat : Int)
section
variable (E : Env) (t : TypeId) (x y : Operand) (k k' : IntKind) (a b : Int)
@[simp] theorem bin_add : binO E .add t x y (.int k a) (.int k b) = some (.int k (k.wrap (a + b))) := by simp [binO, binV, intV]
@[simp] theorem bin_sub : binO E .sub t x y (.int k a) (.int k b) = some (.int k (k.wrap (a - b))) := by simp [binO, binV, intV]
@[simp] theorem bin_mul : binO E .mul t x y (.int k a) (.int k b) = some (.int k (k.wrap (a * b))) := by simp [binO, binV, intV]
@[simp] theorem bin_quo : binO E .quo t x y (.int k a) (.int k b) = if b = 0 then none else some (.int k (k.wrap (a.tdiv b))) := by simp [binO, binV, intV]
@[simp] theorem bin_rem : binO E .rem t x y (.int k a) (.int k b) = if b = 0 then none else some (.int k (a.tmod b)) := by simp [binO, binV, intV]
@[simp] theorem bin_and : binO E .and t x y (.int k a) (.int k b) = some (.int k (k.wrap (andI k.bits a b))) := by simp [binO, binV, intV, bitsV, andI]
@[simp] theorem bin_or : binO E .or t x y (.int k a) (.int k b) = some (.int k (k.wrap (orI k.bits a b))) := by simp [binO, binV, intV, bitsV, orI]
@[simp] theorem bin_xor : binO E .xor t x y (.int k a) (.int k b) = some (.int k (k.wrap (xorI k.bits a b))) := by simp [binO, binV, intV, bitsV, xorI]
@[simp] theorem bin_andNot : binO E .andNot t x y (.int k a) (.int k b) = some (.int k (k.wrap (andNotI k.bits a b))) := by simp [binO, binV, intV, bitsV, andNotI]
@[simp] theorem bin_eql : binO E .eql t x y (.int k a) (.int k b) = some (.bool (decide (a = b))) := by simp only [binO, binV, intV, if_true]; rfl
@[simp] theorem bin_neq : binO E .neq t x y (.int k a) (.int k b) = some (.bool (!decide (a = b))) := by simp only [binO, binV, intV, if_true]; rfl
@[simp] theorem bin_lss : binO E .lss t x y (.int k a) (.int k b) = some (.bool (decide (a < b))) := by simp [binO, binV, intV]
@[simp] theorem bin_leq : binO E .leq t x y (.int k a) (.int k b) = some (.bool (decide (a ≤ b))) := by simp [binO, binV, intV]
@[simp] theorem bin_gtr : binO E .gtr t x y (.int k a) (.int k b) = some (.bool (decide (b < a))) := by simp [binO, binV, intV]
@[simp] theorem bin_geq : binO E .geq t x y (.int k a) (.int k b) = some (.bool (decide (b ≤ a))) := by simp [binO, binV, intV]
@[simp] theorem bin_shl : binO E .shl t x y (.int k a) (.int k' b) = if b < 0 then none else some (.int k (k.wrap (a * 2 ^ min b.toNat k.bits))) := by simp [binO, binV, shiftV]
@[simp] theorem bin_shr : binO E .shr t x y (.int k a) (.int k' b) = if b < 0 then none else some (.int k (a.fdiv (2 ^ min b.toNat k.bits))) := by simp [binO, binV, shiftV]
variable (s s' : List UInt8)
@[simp] theorem bin_sgtr : binO E .gtr t x y (.str s) (.str s') = some (.bool !(Op.bytesLess s s' || s == s')) := by simp [binO, binV, strV]
@[simp] theorem un_neg : unV .neg (.int k a) = some (.int k (k.wrap (0 - a))) := same rfl
@[simp] theorem un_not (c : Bool) : unV .not (.bool c) = some (.bool !c) := same rfl
end
end Go.Sim
end
section
namespace Go.Sim
open Go
abbrev xx : V := .poison
abbrev ii (n : Int) : V := .int .i64 n
abbrev w8 (n : Int) : V := .int .u8 n
abbrev w32 (n : Int) : V := .int .u32 n
abbrev w64 (n : Int) : V := .int .u64 n
abbrev bb (b : Bool) : V := .bool b
abbrev sl (cells : List V) (len : Nat) : V := .scon cells 0 len false
section
variable (P : Program) (t : TypeId) (h : Heap)
@[simp] theorem indexAddr_sref (kk : IntKind) (n : Int) (d j off len ep q) : indexAddrV P t (.sref d j off len ep q) (.int kk n) = (match P.underlying t with | some (.slice elem) => if 0 ≤ n ∧ n < len then (sizeV P elem).bind fun k => some (.pref d j (off + n.toNat * k) ep) else none | _ => none) := by
 unfold indexAddrV; cases P.underlying t with | none => rfl | some d => cases d <;> rfl
@[simp] theorem indexAddr_scon (kk : IntKind) (n : Int) (cells off len f) : indexAddrV P t (.scon cells off len f) (.int kk n) = (match P.underlying t with | some (.slice elem) => if 0 ≤ n ∧ n < len then (sizeV P elem).bind fun k => some (.pcon cells (off + n.toNat * k)) else none | _ => none) := by
 unfold indexAddrV; cases P.underlying t with | none => rfl | some d => cases d <;> rfl
@[simp] theorem indexAddr_pref (kk : IntKind) (n : Int) (d j off ep) : indexAddrV P t (.pref d j off ep) (.int kk n) = (match P.underlying t with | some (.array len elem) => if 0 ≤ n ∧ n < len then (sizeV P elem).bind fun k => some (.pref d j (off + n.toNat * k) ep) else none | _ => none) := by
 unfold indexAddrV; cases P.underlying t with | none => rfl | some d => cases d <;> rfl
@[simp] theorem indexAddr_pcon (kk : IntKind) (n : Int) (cells off) : indexAddrV P t (.pcon cells off) (.int kk n) = (match P.underlying t with | some (.array len elem) => if 0 ≤ n ∧ n < len then (sizeV P elem).bind fun k => some (.pcon cells (off + n.toNat * k)) else none | _ => none) := by
 unfold indexAddrV; cases P.underlying t with | none => rfl | some d => cases d <;> rfl
@[simp] theorem index_agg (kk : IntKind) (n : Int) (cs) : indexV P t (.agg cs) (.int kk n) = (match P.underlying t with | some (.array len elem) => if 0 ≤ n ∧ n < len then (sizeV P elem).bind fun k => partV P elem cs (n.toNat * k) else none | _ => none) := by
 unfold indexV; cases P.underlying t with | none => rfl | some d => cases d <;> rfl
@[simp] theorem fieldAddr_pref (d j off ep f) : fieldAddrV P t (.pref d j off ep) f = (match P.underlying t with | some (.struct fields) => (fields[f]?).bind fun fd => (sizeV P fd.type).bind fun n => if n = 0 then none else some (.pref d j (off + fd.offset) ep) | _ => none) := by
 unfold fieldAddrV; cases P.underlying t with | none => rfl | some d => cases d <;> rfl
@[simp] theorem fieldAddr_pcon (cells off f) : fieldAddrV P t (.pcon cells off) f = (match P.underlying t with | some (.struct fields) => (fields[f]?).bind fun fd => (sizeV P fd.type).bind fun n => if n = 0 then none else some (.pcon cells (off + fd.offset)) | _ => none) := by
 unfold fieldAddrV; cases P.underlying t with | none => rfl | some d => cases d <;> rfl
@[simp] theorem field_agg (cs f) : fieldV P t (.agg cs) f = (match P.underlying t with | some (.struct fields) => (fields[f]?).bind fun fd => partV P fd.type cs fd.offset | _ => none) := by
 unfold fieldV; cases P.underlying t with | none => rfl | some d => cases d <;> rfl
@[simp] theorem loadV_pref (d j off ep) : loadV P h t (.pref d j off ep) = (isAggV P t).bind fun g => if g then (sizeV P t).bind fun n => (h.load (.pref d j off ep) n).map .agg else (h.load (.pref d j off ep) 1).bind fun l => l[0]? := same rfl
@[simp] theorem loadV_pcon (cells off) : loadV P h t (.pcon cells off) = (isAggV P t).bind fun g => if g then (sizeV P t).bind fun n => (h.load (.pcon cells off) n).map .agg else (h.load (.pcon cells off) 1).bind fun l => l[0]? := same rfl
@[simp] theorem storeV_pref (d j off ep) (x : V) : storeV P h t (.pref d j off ep) x = (sizeV P t).bind fun n => if x.cells.length = n then h.store (.pref d j off ep) x.cells else none := same rfl
@[simp] theorem store_pref (d j off ep) (vs : List V) : Heap.store h (.pref d j off ep) vs = (match h.get d j with
  | some (.row cells ep' esz flat plain) =>
   if ep = ep' ∧ off + vs.length ≤ cells.length ∧ okCells vs ∧ esz < 4294967296 then
    (if d = 0 then some vs else V.downL d vs).bind fun vs' => some (h.set d j (.row (storeN cells off vs') ep esz (flat && V.flatL vs') (plain && V.plainL vs')))
   else none
  | _ => none) := same rfl
@[simp] theorem cv_int (src dst : TypeId) (k : IntKind) (n : Int) : convertV P h src dst (.int k n) = (match P.underlying src, P.underlying dst with | some _, some (.int k) => some (.int k (k.wrap n), h) | _, _ => none) := by
 unfold convertV
 cases P.underlying src with
 | none => rfl
 | some d =>
  cases P.underlying dst with
  | none => cases d <;> rfl
  | some d' =>
   cases d' <;> cases d <;> try rfl
   rename_i e
   simp only
   generalize P.underlying e = u
   cases u with
   | none => rfl
   | some d => cases d with
    | int k => cases k <;> rfl
    | _ => rfl
@[simp] theorem cv_str (src dst : TypeId) (s : List UInt8) : convertV P h src dst (.str s) = (match P.underlying src, P.underlying dst with
  | some _, some .string => some (.str s, h)
  | some _, some (.slice e) => (match P.underlying e with | some (.int .u8) => some (.sref 0 h.top.length 0 s.length 0 (1, false), (newRow h (s.map u8) 1).2) | _ => none)
  | _, _ => none) := by
 unfold convertV
 cases P.underlying src with
 | none => rfl
 | some d =>
  cases P.underlying dst with
  | none => cases d <;> rfl
  | some d' => cases d' <;> cases d <;> rfl
@[simp] theorem sliceCells_sref (d j off len ep q) (esz n : Nat) : Heap.sliceCells h (.sref d j off len ep q) esz n = (match h.get d j with
  | some (.row cells ep' _ flat _) => if ep = ep' ∧ n ≤ len ∧ off + n * esz ≤ cells.length then some (V.upIf flat d ((cells.drop off).take (n * esz))) else none
  | _ => none) := same rfl
@[simp] theorem sliceCells_scon (cells off len f) (esz n : Nat) : Heap.sliceCells h (.scon cells off len f) esz n = if n ≤ len ∧ off + n * esz ≤ cells.length then some ((cells.drop off).take (n * esz)) else none := same rfl
@[simp] theorem slice_nil (lo hi mx : Option V) : sliceV P t .nilslice lo hi mx = (match P.underlying t with | some (.slice elem) => (boundsV 0 lo hi mx).bind fun _ => (sizeV P elem).bind fun _ => some .nilslice | _ => none) := by
 unfold sliceV; cases P.underlying t with | none => rfl | some d => cases d <;> rfl
@[simp] theorem slice_sref (d j off len ep q) (lo hi mx : Option V) : sliceV P t (.sref d j off len ep q) lo hi mx = (match P.underlying t with | some (.slice elem) => (boundsV len lo hi mx).bind fun x => (sizeV P elem).bind fun n => if q.1 = n ∨ q.1 = 0 then some (.sref d j (off + x.1 * n) (x.2.1 - x.1) ep (q.1, (match x.2.2 with | some m => m == x.2.1 | none => q.2 && x.2.1 == len))) else none | _ => none) := by
 unfold sliceV; cases P.underlying t with | none => rfl | some d => cases d <;> rfl
@[simp] theorem boundV_int (k : IntKind) (i : Int) (y : Nat) : boundV (.int k i) y = if 0 ≤ i ∧ i ≤ y then some i.toNat else none := same rfl
@[simp] theorem bounds_sn (len : Nat) (a : V) : boundsV len (some a) none none = (boundV a len).bind fun l => some (l, len, none) := same rfl
@[simp] theorem bounds_ns (len : Nat) (b : V) : boundsV len none (some b) none = (boundV b len).bind fun h => some (0, h, none) := same rfl
@[simp] theorem lenOp_str (s) : lenOp P t (.str s) = (match P.underlying t with | some .string => some (.int .i64 s.length) | some (.array n _) => some (.int .i64 n) | some (.pointer a) => (match P.underlying a with | some (.array n _) => some (.int .i64 n) | _ => none) | _ => none) := by
 unfold lenOp; cases P.underlying t with | none => rfl | some d => cases d <;> rfl
@[simp] theorem lenOp_nil : lenOp P t .nilslice = (match P.underlying t with | some (.slice _) => some (.int .i64 0) | some (.array n _) => some (.int .i64 n) | some (.pointer a) => (match P.underlying a with | some (.array n _) => some (.int .i64 n) | _ => none) | _ => none) := by
 unfold lenOp; cases P.underlying t with | none => rfl | some d => cases d <;> rfl
@[simp] theorem lenOp_sref (d j o l e q) : lenOp P t (.sref d j o l e q) = (match P.underlying t with | some (.slice _) => some (.int .i64 l) | some (.array n _) => some (.int .i64 n) | some (.pointer a) => (match P.underlying a with | some (.array n _) => some (.int .i64 n) | _ => none) | _ => none) := by
 unfold lenOp; cases P.underlying t with | none => rfl | some d => cases d <;> rfl
@[simp] theorem lenOp_scon (c o l f) : lenOp P t (.scon c o l f) = (match P.underlying t with | some (.slice _) => some (.int .i64 l) | some (.array n _) => some (.int .i64 n) | some (.pointer a) => (match P.underlying a with | some (.array n _) => some (.int .i64 n) | _ => none) | _ => none) := by
 unfold lenOp; cases P.underlying t with | none => rfl | some d => cases d <;> rfl
@[simp] theorem newsA_nil (k : Nat) : newsA h k .nilslice = some (0, []) := same rfl
@[simp] theorem newsA_sref (k : Nat) (d j o l e q) : newsA h k (.sref d j o l e q) = (h.sliceCells (.sref d j o l e q) k l).bind fun cs => some (l, cs) := same rfl
@[simp] theorem newsA_scon (k : Nat) (c o l f) : newsA h k (.scon c o l f) = (h.sliceCells (.scon c o l f) k l).bind fun cs => some (l, cs) := same rfl
@[simp] theorem nilCheck_pref (d j o e) : nilCheckV (.pref d j o e) = some (.pref d j o e) := same rfl
@[simp] theorem nilCheck_pcon (c o) : nilCheckV (.pcon c o) = some (.pcon c o) := same rfl
def appV (P : Program) (h : Heap) (elem : TypeId) (s : V) (n : Nat) (news : List V) : Option (V × Heap) :=
 (sizeV P elem).bind fun k => (bytesV P elem).bind fun by_ => (zeroV P elem).bind fun z => (lenV s).bind fun len =>
  if k = 0 ∨ by_ = 0 ∨ 2 ^ 47 < (len + n) * by_ ∨ z.cells.length ≠ k ∨ news.length ≠ n * k then none else
  match s with
  | .nilslice => if n = 0 then some (.nilslice, h) else some (.sref 0 h.top.length 0 n 0 (k, false), (newRow h news k).2)
  | .sref d j off _ ep q =>
   if q.2 then (if n = 0 then some (s, h) else
    (h.sliceCells s k len).bind fun olds => some (.sref 0 h.top.length 0 (len + n) 0 (k, false), (newRow h (olds ++ news) k).2))
   else if n = 0 then some (s, h) else match h.get d j with
   | some (.row cells ep' esz flat plain) =>
    if ep = ep' ∧ off = 0 ∧ q.1 = k ∧ len * k ≤ cells.length ∧ okCells news ∧ esz / 4294967296 ≤ len * k then
     (if d = 0 then some news else V.downL d news).bind fun news' =>
     some (.sref d j 0 (len + n) (ep + 1) (k, false), h.set d j (.row (cells.take (len * k) ++ news') (ep + 1) esz (flat && V.flatL news') (plain && V.plainL news')))
    else none
   | _ => none
  | .scon _ _ _ full =>
   if full then (if n = 0 then some (s, h) else
    (h.sliceCells s k len).bind fun olds => some (.sref 0 h.top.length 0 (len + n) 0 (k, false), (newRow h (olds ++ news) k).2))
   else none
  | _ => none
def appendV0 (P : Program) (h : Heap) (t t2 : TypeId) (s x : V) : Option (V × Heap) := appendV P h t (some t2) s x
@[simp] theorem appendV_eq (t2 : TypeId) (s x : V) : appendV P h t (some t2) s x = (match P.underlying t with
  | some (.slice elem) => (match P.underlying t2 with | some (.slice _) => (sizeV P elem).bind fun k => (newsA h k x).bind fun y => appV P h elem s y.1 y.2 | some .string => (sizeV P elem).bind fun k => (newsA h k x).bind fun y => appV P h elem s y.1 y.2 | _ => appendV0 P h t t2 s x)
  | _ => appendV0 P h t t2 s x) := by
 cases hu : P.underlying t with
 | none => rfl
 | some d =>
  cases d <;> try rfl
  rename_i elem
  simp only
  have key : ∀ d2, P.underlying t2 = some d2 → (∀ k, newsV P h elem k (some t2) x = newsA h k x) → appendV P h t (some t2) s x = (sizeV P elem).bind fun k => (newsA h k x).bind fun y => appV P h elem s y.1 y.2 := by
   intro d2 h2 hn
   unfold appendV appV
   rw [hu]
   simp only [hn]
   cases sizeV P elem with
   | none => rfl
   | some k =>
    simp only [Option.bind_some]
    cases bytesV P elem with
    | none => cases newsA h k x <;> rfl
    | some b =>
     simp only [Option.bind_some]
     cases zeroV P elem with
     | none => cases newsA h k x <;> rfl
     | some z =>
      simp only [Option.bind_some]
      cases lenV s with
      | none => cases newsA h k x <;> rfl
      | some l =>
       simp only [Option.bind_some]
       cases newsA h k x <;> rfl
  cases h2 : P.underlying t2 with
  | none => rfl
  | some d2 =>
   cases d2 <;> try rfl
   ·exact key _ h2 fun k => by unfold newsV; simp only; rw [h2]
   ·exact key _ h2 fun k => by unfold newsV; simp only; rw [h2]
@[simp] theorem appV_nil (elem : TypeId) (n : Nat) (news : List V) : appV P h elem .nilslice n news = (sizeV P elem).bind fun k => (bytesV P elem).bind fun by_ => (zeroV P elem).bind fun z =>
  if k = 0 ∨ by_ = 0 ∨ 2 ^ 47 < (0 + n) * by_ ∨ z.cells.length ≠ k ∨ news.length ≠ n * k then none else if n = 0 then some (.nilslice, h) else some (.sref 0 h.top.length 0 n 0 (k, false), (newRow h news k).2) := same rfl
@[simp] theorem appV_sref (elem : TypeId) (n : Nat) (news : List V) (d j off len ep k0) : appV P h elem (.sref d j off len ep (k0, false)) n news = (sizeV P elem).bind fun k => (bytesV P elem).bind fun by_ => (zeroV P elem).bind fun z =>
  if k = 0 ∨ by_ = 0 ∨ 2 ^ 47 < (len + n) * by_ ∨ z.cells.length ≠ k ∨ news.length ≠ n * k then none else
  if n = 0 then some (.sref d j off len ep (k0, false), h) else match h.get d j with
   | some (.row cells ep' esz flat plain) =>
    if ep = ep' ∧ off = 0 ∧ k0 = k ∧ len * k ≤ cells.length ∧ okCells news ∧ esz / 4294967296 ≤ len * k then
     (if d = 0 then some news else V.downL d news).bind fun news' =>
     some (.sref d j 0 (len + n) (ep + 1) (k, false), h.set d j (.row (cells.take (len * k) ++ news') (ep + 1) esz (flat && V.flatL news') (plain && V.plainL news')))
    else none
   | _ => none := same rfl
def srcV (h : Heap) (src : V) (k n : Nat) : Option (List V) := match src with | .str b => some ((b.take n).map u8) | x => h.sliceCells x k n
@[simp] theorem srcV_str (s : List UInt8) (k n : Nat) : srcV h (.str s) k n = some ((s.take n).map u8) := rfl
@[simp] theorem srcV_nil (k n : Nat) : srcV h .nilslice k n = h.sliceCells .nilslice k n := rfl
@[simp] theorem srcV_sref (k n : Nat) (d j o l e q) : srcV h (.sref d j o l e q) k n = h.sliceCells (.sref d j o l e q) k n := rfl
@[simp] theorem srcV_scon (k n : Nat) (c o l f) : srcV h (.scon c o l f) k n = h.sliceCells (.scon c o l f) k n := rfl
@[simp] theorem copyV_sref (d j off dl ep q) (src : V) : copyV P h t (.sref d j off dl ep q) src = (match P.underlying t with
 | some (.slice elem) => (sizeV P elem).bind fun k => (lenV src).bind fun sl => (srcV h src k (min sl dl)).bind fun news =>
  if min sl dl = 0 then some (.int .i64 0, h) else
  match h.get d j with
   | some (.row cells ep' esz flat plain) =>
    if ep = ep' ∧ off + min sl dl * k ≤ cells.length ∧ news.length = min sl dl * k ∧ okCells news ∧ esz < 4294967296 then
     (if d = 0 then some news else V.downL d news).bind fun news' =>
     some (V.int .i64 ((min sl dl : Nat) : Int), h.set d j (.row (cells.take off ++ news' ++ cells.drop (off + min sl dl * k)) ep esz (flat && V.flatL news') (plain && V.plainL news')))
    else none
   | _ => none
 | _ => none) := by
 unfold copyV srcV
 cases P.underlying t with
 | none => rfl
 | some d =>
  cases d <;> rfl
end
attribute [simp] builtinV assertV ifaceV rowV partV buildV fillV capV foldV minV maxV rep placesV
attribute [simp] loadN_succ
attribute [simp] List.getElem?_cons_zero List.getElem?_cons_succ IntKind.bits IntKind.signed
theorem cutCells_all (cells : List V) (len k : Nat) (h : cells.length ≤ len * k) : cutCells cells 0 len k = cells := by
 unfold cutCells
 split
 ·rfl
 ·simpa using List.take_of_length_le h
@[simp] theorem cutCells_bytes (l : List UInt8) (off len : Nat) : cutCells (l.map u8) off len 1 = ((l.drop off).take len).map u8 := by simp [cutCells, List.map_drop, List.map_take]
@[simp] theorem flat_u8 (b : UInt8) : V.flat (u8 b) = true := by simp [u8]
@[simp] theorem plain_u8 (b : UInt8) : V.plain (u8 b) = true := by simp [u8]
@[simp] theorem flatL_bytes : ∀ l : List UInt8, V.flatL (l.map u8) = true
 | [] => by simp
 | b :: r => by simp [flatL_bytes r]
@[simp] theorem plainL_bytes : ∀ l : List UInt8, V.plainL (l.map u8) = true
 | [] => by simp
 | b :: r => by simp [plainL_bytes r]
attribute [simp] flatL_append plainL_append
@[simp] theorem canonL_append : ∀ a b : List V, V.canonL (a ++ b) = V.canonL a ++ V.canonL b
 | [], b => by simp
 | v :: r, b => by simp [canonL_append r b]
@[simp] theorem okCells_append (a b : List V) : okCells (a ++ b) = (okCells a && okCells b) := by simp [okCells]
theorem u32_fits {n : Int} (h : 0 ≤ n ∧ n ≤ 4294967295) : IntKind.u32.wrap n = n := IntWalk.u32_in n h
theorem u64_fits {n : Int} (h : 0 ≤ n ∧ n ≤ 18446744073709551615) : IntKind.u64.wrap n = n := IntWalk.u64_in n h
theorem u8_fits {n : Int} (h : 0 ≤ n ∧ n ≤ 255) : IntKind.u8.wrap n = n := IntWalk.u8_in n h
theorem u16_fits {n : Int} (h : 0 ≤ n ∧ n ≤ 65535) : IntKind.u16.wrap n = n := IntWalk.u16_in n h
theorem i64_fits {n : Int} (h : -9223372036854775808 ≤ n ∧ n ≤ 9223372036854775807) : IntKind.i64.wrap n = n := IntWalk.i64_in n h
theorem i32_fits {n : Int} (h : -2147483648 ≤ n ∧ n ≤ 2147483647) : IntKind.i32.wrap n = n := IntWalk.i32_in n h
theorem tmod_pos {a b : Int} (h : 0 ≤ a) : a.tmod b = a % b := Int.tmod_eq_emod_of_nonneg h
theorem tdiv_pos {a b : Int} (h : 0 ≤ a) : a.tdiv b = a / b := Int.tdiv_eq_ediv_of_nonneg h
attribute [simp] u32_fits u64_fits u8_fits u16_fits i64_fits i32_fits tmod_pos tdiv_pos
@[simp] theorem toNat_add_nat (a b : Nat) : ((a : Int) + (b : Int)).toNat = a + b := by omega
@[simp] theorem toNat_add_lit (a b : Nat) : ((a : Int) + (no_index (OfNat.ofNat b) : Int)).toNat = a + b := by simp [OfNat.ofNat]
theorem toNat_lt8 (b : UInt8) : b.toNat < 256 := b.toNat_lt
theorem bv_not (n : Nat) (a : Int) (h0 : 0 ≤ a) (h1 : a < ((2 ^ n : Nat) : Int)) : ((BitVec.allOnes n ^^^ BitVec.ofInt n a).toNat : Int) = ((2 ^ n : Nat) : Int) - 1 - a := by
 rw [BitVec.allOnes_xor, BitVec.toNat_not, BitVec.toNat_ofInt, Int.emod_eq_of_lt h0 h1]
 have h4 : (a.toNat : Int) = a := Int.toNat_of_nonneg h0
 omega
@[simp] theorem un_xor32 {a : Int} (h : 0 ≤ a ∧ a ≤ 4294967295) : unV .xor (.int .u32 a) = some (.int .u32 (4294967295 - a)) := by
 have := bv_not 32 a h.1 (by omega)
 show (bitsV .xor .u32 IntKind.u32.max a).map (V.int .u32) = _
 rw [show IntKind.u32.max = 4294967295 from rfl]
 show some (V.int .u32 (IntKind.u32.wrap ((BitVec.ofInt 32 4294967295 ^^^ BitVec.ofInt 32 a).toNat : Int))) = _
 rw [show BitVec.ofInt 32 4294967295 = BitVec.allOnes 32 from rfl, this, u32_fits (by omega)]
 rfl
@[simp] theorem un_xor8 {a : Int} (h : 0 ≤ a ∧ a ≤ 255) : unV .xor (.int .u8 a) = some (.int .u8 (255 - a)) := by
 have := bv_not 8 a h.1 (by omega)
 show (bitsV .xor .u8 IntKind.u8.max a).map (V.int .u8) = _
 rw [show IntKind.u8.max = 255 from rfl]
 show some (V.int .u8 (IntKind.u8.wrap ((BitVec.ofInt 8 255 ^^^ BitVec.ofInt 8 a).toNat : Int))) = _
 rw [show BitVec.ofInt 8 255 = BitVec.allOnes 8 from rfl, this, u8_fits (by omega)]
 rfl
section
variable (a b : UInt32) (x y : UInt8) (c d : UInt64)
@[simp] theorem w64_32 : IntKind.u64.wrap (a.toNat : Int) = a.toNat := u64_fits (by have := a.toNat_lt; omega)
end
end Go.Sim
end
section
namespace Go.Sim
open Go
structure Enc (α : Type) where
 enc : α → List V
 k : Nat
 pos : 0 < k
 len : ∀ x, (enc x).length = k
 canon : ∀ x, V.canonL (enc x) = enc x
 flat : ∀ x, V.flatL (enc x) = true
 ok : ∀ x, okCells (enc x) = true
section
variable {α : Type} (e : Enc α)
def cat (l : List α) : List V := l.flatMap e.enc
def lst (l : List α) : V := .scon (cat e l) 0 l.length false
def ptr (l : List α) (i f : Nat) : V := .pcon (cat e l) (i * e.k + f)
@[simp] theorem cat_nil : cat e ([] : List α) = [] := same rfl
theorem cat_cons (x : α) (l : List α) : cat e (x :: l) = e.enc x ++ cat e l := rfl
theorem cat_append (a b : List α) : cat e (a ++ b) = cat e a ++ cat e b := by simp [cat]
@[simp] theorem cat_length (l : List α) : (cat e l).length = l.length * e.k := by
 induction l with
 | nil => simp [cat]
 | cons x l ih => rw [cat_cons, List.length_append, ih, e.len, List.length_cons, Nat.add_mul]; omega
@[simp] theorem cat_canon (l : List α) : V.canonL (cat e l) = cat e l := by
 induction l with
 | nil => simp
 | cons x l ih => rw [cat_cons, canonL_append, ih, e.canon]
@[simp] theorem cat_flat (l : List α) : V.flatL (cat e l) = true := by
 induction l with
 | nil => simp
 | cons x l ih => rw [cat_cons]; exact flatL_append (e.flat x) ih
@[simp] theorem cat_ok (l : List α) : okCells (cat e l) = true := by
 induction l with
 | nil => simp
 | cons x l ih => rw [cat_cons, okCells_append, ih, e.ok]; rfl
theorem cat_drop (l : List α) (n : Nat) : (cat e l).drop (n * e.k) = cat e (l.drop n) := by
 induction l generalizing n with
 | nil => simp
 | cons x l ih =>
  cases n with
  | zero => simp
  | succ n =>
   rw [cat_cons, List.drop_append, e.len, List.drop_of_length_le (by rw [e.len, Nat.add_mul]; omega), List.nil_append, show (n + 1) * e.k - e.k = n * e.k by rw [Nat.add_mul]; omega, ih]
   rfl
theorem cat_take (l : List α) (n : Nat) : (cat e l).take (n * e.k) = cat e (l.take n) := by
 induction l generalizing n with
 | nil => simp
 | cons x l ih =>
  cases n with
  | zero => simp
  | succ n =>
   rw [cat_cons, List.take_append, e.len, List.take_of_length_le (by rw [e.len, Nat.add_mul]; omega), show (n + 1) * e.k - e.k = n * e.k by rw [Nat.add_mul]; omega, ih]
   rfl
theorem cat_cut (l : List α) (o n : Nat) : cutCells (cat e l) (o * e.k) n e.k = cat e ((l.drop o).take n) := by
 unfold cutCells
 rw [if_neg (by have := e.pos; omega), cat_drop, cat_take]
theorem cat_get (l : List α) (i f : Nat) (hf : f < e.k) : (cat e l)[i * e.k + f]? = (l[i]?).bind fun x => (e.enc x)[f]? := by
 induction l generalizing i with
 | nil => simp
 | cons x l ih =>
  rw [cat_cons]
  cases i with
  | zero =>
   rw [Nat.zero_mul, Nat.zero_add, List.getElem?_append_left (by rw [e.len]; exact hf)]
   simp
  | succ i =>
   rw [List.getElem?_append_right (by rw [e.len, Nat.add_mul]; omega), e.len, show (i + 1) * e.k + f - e.k = i * e.k + f by rw [Nat.add_mul]; omega, ih]
   simp
theorem loadN_take : ∀ (cs : List V) (o n : Nat), o + n ≤ cs.length → loadN cs o n = some ((cs.drop o).take n)
 | cs, o, 0, h => by simp
 | cs, o, n + 1, h => by
  have ho : o < cs.length := by omega
  rw [loadN_succ, List.getElem?_eq_getElem ho, Option.bind_some, loadN_take cs (o + 1) n (by omega), Option.bind_some, List.drop_eq_getElem_cons ho, List.take_succ_cons]
@[simp] theorem lst_canon (l : List α) : V.canon (lst e l) = lst e l := by simp [lst]
@[simp] theorem lst_flat (l : List α) : V.flat (lst e l) = true := by simp [lst]
@[simp] theorem lst_plain (l : List α) : V.plain (lst e l) = false := by simp [lst]
@[simp] theorem lst_cell1 (l : List α) : V.cell1 (lst e l) = true := by simp [lst]
@[simp] theorem lst_cells (l : List α) : V.cells (lst e l) = [lst e l] := by simp [lst]
@[simp] theorem lst_own (h : Heap) (l : List α) : V.own h (lst e l) = l.isEmpty := by cases l <;> simp [lst]
@[simp] theorem lst_freeze (h : Heap) (l : List α) : V.freeze h (lst e l) = some (lst e l) := by simp [lst]
@[simp] theorem lst_up (n : Nat) (l : List α) : V.up n (lst e l) = lst e l := by simp [lst]
@[simp] theorem lst_settle (n : Nat) (h : Heap) (l : List α) : V.settle n h (lst e l) = lst e l := by simp [lst]
@[simp] theorem lst_view (n : Nat) (h : Heap) (l : List α) : V.view (n + 1) h (lst e l) = some (lst e l) := by simp [lst]
@[simp] theorem lst_len (l : List α) : lenV (lst e l) = some l.length := same rfl
@[simp] theorem lst_prm (l : List α) (i esz t h) : prmV (lst e l) i esz t h = some (t, h) := same rfl
@[simp] theorem lst_nil : lst e ([] : List α) = .scon [] 0 0 false := rfl
@[simp] theorem ptr_settle (n : Nat) (h : Heap) (l : List α) (i f) : V.settle n h (ptr e l i f) = ptr e l i f := by simp [ptr]
@[simp] theorem lst_srcV (h : Heap) (k n : Nat) (l : List α) : srcV h (lst e l) k n = h.sliceCells (lst e l) k n := rfl
@[simp] theorem lst_newsA (h : Heap) (k : Nat) (l : List α) : newsA h k (lst e l) = (h.sliceCells (lst e l) k l.length).bind fun cs => some (l.length, cs) := same rfl
@[simp] theorem lst_lenOp (P : Program) (t : TypeId) (l : List α) : lenOp P t (lst e l) = (match P.underlying t with | some (.slice _) => some (.int .i64 l.length) | some (.array n _) => some (.int .i64 n) | some (.pointer a) => (match P.underlying a with | some (.array n _) => some (.int .i64 n) | _ => none) | _ => none) := by
 unfold lst; exact lenOp_scon P t _ _ _ _
variable {P : Program} {t el : TypeId}
@[simp] theorem lst_indexAddr (kk : IntKind) (l : List α) (n : Int) : indexAddrV P t (lst e l) (.int kk n) =
  (match P.underlying t with | some (.slice el) => if 0 ≤ n ∧ n < l.length then (sizeV P el).bind fun k => if k = e.k then some (ptr e l n.toNat 0) else some (.pcon (cat e l) (0 + n.toNat * k)) else none | _ => none) := by
 unfold indexAddrV lst
 simp only
 cases P.underlying t with
 | none => rfl
 | some d =>
  cases d <;> try rfl
  rename_i el
  simp only
  split
  ·cases sizeV P el with
   | none => rfl
   | some k =>
    simp only [Option.bind_some]
    split
    ·rename_i hk; subst hk; simp [ptr]
    ·rfl
  ·rfl
theorem ptr_load (h : Heap) (l : List α) (i : Nat) (hi : i < l.length) : Heap.load h (ptr e l i 0) e.k = some (e.enc l[i]) := by
 have hl : i * e.k + e.k ≤ l.length * e.k := by
  have := Nat.mul_le_mul_right e.k (show i + 1 ≤ l.length from hi)
  rw [Nat.add_mul] at this; omega
 unfold ptr
 rw [load_pcon, loadN_take _ _ _ (by rw [cat_length]; omega), Nat.add_zero, cat_drop, List.drop_eq_getElem_cons hi, cat_cons, List.take_append_of_le_length (by rw [e.len]; omega), List.take_of_length_le (by rw [e.len]; omega)]
@[simp] theorem ptr_loadV (h : Heap) (l : List α) (i f : Nat) : loadV P h t (ptr e l i f) = (isAggV P t).bind fun g => if g then (sizeV P t).bind fun n => if f = 0 ∧ n = e.k then (l[i]?).map (fun x => .agg (e.enc x)) else (loadN (cat e l) (i * e.k + f) n).map .agg
  else if f < e.k then (l[i]?).bind fun x => (e.enc x)[f]? else (loadN (cat e l) (i * e.k + f) 1).bind fun r => r[0]? := by
 unfold loadV
 cases isAggV P t with
 | none => rfl
 | some g =>
  simp only [Option.bind_some]
  cases g with
  | true =>
   simp only [if_true]
   cases sizeV P t with
   | none => rfl
   | some n =>
    simp only [Option.bind_some]
    split
    ·rename_i hc
     obtain ⟨rfl, rfl⟩ := hc
     by_cases hi : i < l.length
     ·rw [ptr_load e h l i hi, List.getElem?_eq_getElem hi]; rfl
     ·rw [List.getElem?_eq_none (by omega)]
      have : loadN (cat e l) (i * e.k + 0) e.k = none := by
       obtain ⟨m, hm⟩ : ∃ m, e.k = m + 1 := ⟨e.k - 1, by have := e.pos; omega⟩
       rw [hm, loadN_succ, List.getElem?_eq_none, Option.bind_none]
       rw [cat_length, ← hm]
       have := Nat.mul_le_mul_right e.k (show l.length ≤ i by omega)
       omega
      unfold ptr
      rw [load_pcon, this]; rfl
    ·rfl
  | false =>
   simp only [Bool.false_eq_true, if_false]
   unfold ptr
   rw [load_pcon]
   split
   ·rename_i hf
    rw [loadN_succ, cat_get e l i f hf]
    cases (l[i]?).bind fun x => (e.enc x)[f]? <;> simp
   ·rfl
@[simp] theorem ptr_fieldAddr (l : List α) (i f n : Nat) : fieldAddrV P t (ptr e l i f) n = (match P.underlying t with | some (.struct fields) => (fields[n]?).bind fun fd => (sizeV P fd.type).bind fun m => if m = 0 then none else some (ptr e l i (f + fd.offset)) | _ => none) := by
 unfold fieldAddrV ptr
 cases P.underlying t with
 | none => rfl
 | some d =>
  cases d <;> try rfl
  simp only [Nat.add_assoc]
@[simp] theorem lst_slice (l : List α) (lo hi : Option V) : sliceV P t (lst e l) lo hi none = (match P.underlying t with | some (.slice el) => (boundsV l.length lo hi none).bind fun x => (sizeV P el).bind fun n => if n = e.k then some (lst e ((l.drop x.1).take (x.2.1 - x.1))) else some (.scon (cutCells (cat e l) (0 + x.1 * n) (x.2.1 - x.1) n) 0 (x.2.1 - x.1) (false && x.2.1 == l.length)) | _ => none) := by
 unfold sliceV lst
 cases P.underlying t with
 | none => rfl
 | some d =>
  cases d <;> try rfl
  rename_i el
  simp only
  cases hb : boundsV l.length lo hi none with
  | none => rfl
  | some x =>
   obtain ⟨a, b, m⟩ := x
   simp only [Option.bind_some]
   have hb' : a ≤ b ∧ b ≤ l.length ∧ m = none := by
    unfold boundsV at hb
    simp only [Option.bind_some, Option.getD_none, Option.bind_eq_some_iff, Option.some.injEq, Prod.mk.injEq] at hb
    obtain ⟨h', h1, l', h2, rfl, rfl, rfl⟩ := hb
    have hh : h' ≤ l.length := by
     cases hi with
     | none => simp only [Option.some.injEq] at h1; omega
     | some v =>
      simp only [boundV] at h1
      split at h1
      ·split at h1
       ·simp only [Option.some.injEq] at h1; omega
       ·cases h1
      ·cases h1
    have hl : l' ≤ h' := by
     cases lo with
     | none => simp only [Option.some.injEq] at h2; omega
     | some v =>
      simp only [boundV] at h2
      split at h2
      ·split at h2
       ·simp only [Option.some.injEq] at h2; omega
       ·cases h2
      ·cases h2
    exact ⟨hl, hh, rfl⟩
   obtain ⟨h1, h2, rfl⟩ := hb'
   cases sizeV P el with
   | none => rfl
   | some n =>
    simp only [Option.bind_some]
    split
    ·rename_i hn; subst hn
     rw [Nat.zero_add, cat_cut]
     simp only [Option.some.injEq, V.scon.injEq, Bool.false_and, and_true, true_and]
     simp; omega
    ·rfl
@[simp] theorem lst_sliceCells (h : Heap) (l : List α) (k n : Nat) : Heap.sliceCells h (lst e l) k n = if n ≤ l.length ∧ 0 + n * k ≤ l.length * e.k then some (((cat e l).drop 0).take (n * k)) else none := by
 unfold Heap.sliceCells lst
 simp only [cat_length]
end
def eU8 : Enc UInt8 where
 enc b := [w8 b.toNat]
 k := 1
 pos := by omega
 len := fun _ => rfl
 canon := fun _ => by simp
 flat := fun _ => by simp
 ok := fun _ => by simp
def eU32 : Enc UInt32 where
 enc b := [w32 b.toNat]
 k := 1
 pos := by omega
 len := fun _ => rfl
 canon := fun _ => by simp
 flat := fun _ => by simp
 ok := fun _ => by simp
@[simp] theorem eU8_k : eU8.k = 1 := same rfl
@[simp] theorem eU32_k : eU32.k = 1 := same rfl
@[simp] theorem eU8_enc (b) : eU8.enc b = [w8 b.toNat] := same rfl
@[simp] theorem eU32_enc (b) : eU32.enc b = [w32 b.toNat] := same rfl
abbrev bs (l : List UInt8) : V := lst eU8 l
abbrev ws (l : List UInt32) : V := lst eU32 l
end Go.Sim
end
section
namespace Go.Sim
open Go
section
variable {α : Type} (e : Enc α)
theorem fold_lst {n : Nat} {l : List α} (h : n = l.length) : V.scon (cat e l) 0 n false = lst e l := by subst h; rfl
theorem cut_all {n k : Nat} {l : List α} (hk : k = e.k) (h : n = l.length) : cutCells (cat e l) 0 n k = cat e l := by
 subst hk h
 exact cutCells_all _ _ _ (by simp)
theorem res_lst {n k : Nat} {l : List α} (h : n = l.length) (hk : k = e.k) : V.scon (V.canonL (cutCells (cat e l) 0 n k)) 0 n false = lst e l := by
 rw [cut_all e hk h, cat_canon]; exact fold_lst e h
theorem cat_plain (hp : ∀ x, V.plainL (e.enc x) = true) (l : List α) : V.plainL (cat e l) = true := by
 induction l with
 | nil => simp
 | cons x l ih => rw [cat_cons]; exact plainL_append (hp x) ih
end
theorem clone_lst {L : Nat} {α : Type} (e : Enc α) (l : List α) (h : Heap) (k : Nat) (hk : k = e.k) : cloneWL L k [lst e l] h = if L < l.length then none else if l = [] then some (.scon [] 0 0 false, h) else
  some (.sref 0 (h.top.length + 1) 0 l.length 0 (k, false), (newRow (h.push (.row [] 0 k true true)) (cat e l) k).2) := by
 subst hk
 have he : cloneWL L e.k [lst e l] h = (lenV (lst e l)).bind fun n => if n = 0 then some (.scon [] 0 0 false, h) else (h.sliceCells (lst e l) e.k n).bind fun cs => if L < n ∨ okCells cs = false then none else some (.sref 0 (h.top.length + 1) 0 n 0 (e.k, false), (newRow (newRow h [] e.k).2 cs e.k).2) := rfl
 simp only [he, lst_len, Option.bind_some, lst_sliceCells]
 by_cases hl : l = []
 ·subst hl; simp
 ·have hp : l.length ≠ 0 := by simpa using hl
  rw [if_neg hp, if_pos ⟨Nat.le_refl _, by omega⟩]
  simp only [List.drop_zero, Option.bind_some]
  rw [List.take_of_length_le (by simp), cat_ok]
  simp [hl]
@[simp] theorem clone_none (L k : Nat) (h : Heap) : cloneWL L k [.scon [] 0 0 false] h = some (.scon [] 0 0 false, h) := same rfl
@[simp] theorem clone_sref (L k : Nat) (h : Heap) (d j o l ep q) : cloneWL L k [.sref d j o l ep q] h = if l = 0 then some (.scon [] 0 0 false, h) else
  (h.sliceCells (.sref d j o l ep q) k l).bind fun cs => if L < l ∨ okCells cs = false then none else some (.sref 0 (h.top.length + 1) 0 l 0 (k, false), (newRow (newRow h [] k).2 cs k).2) := same rfl
@[simp] theorem plain_eU8 (l : List UInt8) : V.plainL (cat eU8 l) = true := cat_plain eU8 (fun _ => by simp) l
@[simp] theorem plain_eU32 (l : List UInt32) : V.plainL (cat eU32 l) = true := cat_plain eU32 (fun _ => by simp) l
@[simp] theorem take_eU8 (l : List UInt8) (n : Nat) : (cat eU8 l).take n = cat eU8 (l.take n) := by simpa using cat_take eU8 l n
@[simp] theorem drop_eU8 (l : List UInt8) (n : Nat) : (cat eU8 l).drop n = cat eU8 (l.drop n) := by simpa using cat_drop eU8 l n
@[simp] theorem cut_eU8 (l : List UInt8) : cutCells (cat eU8 l) 0 l.length 1 = cat eU8 l := cut_all eU8 rfl rfl
@[simp] theorem cut_eU32 (l : List UInt32) : cutCells (cat eU32 l) 0 l.length 1 = cat eU32 l := cut_all eU32 rfl rfl
@[simp] theorem fold_eU8 (l : List UInt8) : V.scon (cat eU8 l) 0 l.length false = bs l := same rfl
@[simp] theorem fold_eU32 (l : List UInt32) : V.scon (cat eU32 l) 0 l.length false = ws l := same rfl
mutual
theorem up_flat (n : Nat) : ∀ v : V, V.flat v = true → V.up n v = v
 | .func fn a b, h => by
  simp only [flat_func, Bool.and_eq_true] at h
  simp [upL_flat n a h.1, upL_flat n b h.2]
 | .iface ty v, h => by
  simp only [flat_iface] at h
  simp [up_flat n v h]
 | .agg cs, h => by
  simp only [flat_agg] at h
  simp [upL_flat n cs h]
 | .tuple vs, h => by
  simp only [flat_tuple] at h
  simp [upL_flat n vs h]
 | .bool _, _ | .int _ _, _ | .float _ _, _ | .str _, _ | .nilptr, _ | .pcon _ _, _ | .nilslice, _ | .scon _ _ _ _, _ | .nilfunc, _ | .niliface, _ | .nilmap, _ => by simp
 | .pref _ _ _ _, h | .sref _ _ _ _ _ _, h | .mref _ _, h | .yield _ _, h | .poison, h => by simp at h
theorem upL_flat (n : Nat) : ∀ l : List V, V.flatL l = true → V.upL n l = l
 | [], _ => by simp
 | v :: r, h => by
  simp only [V.flatL, Bool.and_eq_true] at h
  simp [up_flat n v h.1, upL_flat n r h.2]
end
mutual
theorem settle_flat (n : Nat) (H : Heap) : ∀ v : V, V.flat v = true → V.settle n H v = v
 | .func fn a b, h => by
  simp only [flat_func, Bool.and_eq_true] at h
  simp [settleL_flat n H a h.1, settleL_flat n H b h.2]
 | .iface ty v, h => by
  simp only [flat_iface] at h
  simp [settle_flat n H v h]
 | .agg cs, h => by
  simp only [flat_agg] at h
  simp [settleL_flat n H cs h]
 | .tuple vs, h => by
  simp only [flat_tuple] at h
  simp [settleL_flat n H vs h]
 | .bool _, _ | .int _ _, _ | .float _ _, _ | .str _, _ | .nilptr, _ | .pcon _ _, _ | .nilslice, _ | .scon _ _ _ _, _ | .nilfunc, _ | .niliface, _ | .nilmap, _ => by simp
 | .pref _ _ _ _, h | .sref _ _ _ _ _ _, h | .mref _ _, h | .yield _ _, h | .poison, h => by simp at h
theorem settleL_flat (n : Nat) (H : Heap) : ∀ l : List V, V.flatL l = true → V.settleL n H l = l
 | [], _ => by simp
 | v :: r, h => by
  simp only [V.flatL, Bool.and_eq_true] at h
  simp [settle_flat n H v h.1, settleL_flat n H r h.2]
end
section
variable {α : Type} (e : Enc α) (l : List α)
end
attribute [simp] settleBlk outBlk
end Go.Sim
end
section
namespace Go.Sim
open Go
theorem append_zeros {P : Program} {h : Heap} {t t2 elem : TypeId} {kk ik : IntKind} {k by_ : Nat} {n : Int} {z s : V} (h1 : P.underlying t = some (.slice elem)) (h2 : P.underlying t2 = some (.int kk)) (hs : sizeV P elem = some k) (hz : zeroV P elem = some z)
  (hb : bytesV P elem = some by_) (hn : 0 ≤ n ∧ n ≤ 2 ^ 46) (hzk : z.cells.length = k) (hnb : n * by_ ≤ 2 ^ 46) : appendV0 P h t t2 s (.int ik n) = appV P h elem s n.toNat (rep z.cells n.toNat) := by
 unfold appendV0 appendV appV newsV
 rw [h1]
 simp only [h2, hs, hz, hb, Option.bind_some, if_pos hn, if_pos (And.intro hzk hnb)]
 cases lenV s <;> rfl
theorem rep_cat {α : Type} (e : Enc α) (x : α) (n : Nat) : rep (e.enc x) n = cat e (List.replicate n x) := by
 unfold rep
 have hf : ∀ n, (List.replicate n (e.enc x)).flatten = cat e (List.replicate n x) := by
  intro n
  induction n with
  | zero => rfl
  | succ n ih => rw [List.replicate_succ, List.replicate_succ, List.flatten_cons, cat_cons, ih]
 split
 ·rename_i v hv
  rw [← hf, hv]
  induction n with
  | zero => rfl
  | succ n ih => rw [List.replicate_succ, List.replicate_succ, List.flatten_cons, ← ih]; rfl
 ·exact hf n
section
variable {R : Type}
@[simp] theorem setArgs_nil (t vs) : setArgs t [] vs = t := by cases vs <;> rfl
@[simp] theorem setArgs_cons (t p ps v vs) : setArgs t (p :: ps) (v :: vs) = setArgs (put t p v) ps vs := by rw [setArgs, put_eq]
def rdyB (b : Option Blk) : Option Blk := match b with | some (.loop fn t ps a b true none) => some (.loop fn t ps a b false none) | _ => none
def endB (b : Option Blk) (ready : Bool) (p : Option Code) : Option Blk := match b with | some (.loop fn t ps a b _ _) => some (.loop fn t ps a b ready p) | _ => none
@[simp] theorem rdyB_loop (fn t ps a b) : rdyB (some (.loop fn t ps a b true none)) = some (.loop fn t ps a b false none) := same rfl
@[simp] theorem endB_loop (fn t ps a b r q r' q') : endB (some (.loop fn t ps a b r q)) r' q' = some (.loop fn t ps a b r' q') := same rfl
def jumpB (e : Exit) : Option (Option Code) := match e with | .normal => some none | .ret => some (some .ret) | .exit id => some (some (.exit id)) | .goto l => some (some (.goto l)) | _ => none
@[simp] theorem jumpB_normal : jumpB .normal = some none := same rfl
@[simp] theorem jumpB_ret : jumpB .ret = some (some .ret) := same rfl
def rdK (d j n : Nat) (hd : Heap) (F : V × Heap → Option R) : Kont R := fun e _ h =>
 bnd (jumpB e) (fun p => bnd (endB (h.get 0 j) p.isNone p) (fun b => trimK n [] (h.set 0 j b) fun _ h3 => F (.bool p.isNone, hd ++ h3)) .mk) .mk
@[simp ↓] theorem rdK_eq (d j n hd) (F : V × Heap → Option R) (e t h) : rdK d j n hd F e t h =
 bnd (jumpB e) (fun p => bnd (endB (h.get 0 j) p.isNone p) (fun b => trimK n [] (h.set 0 j b) fun _ h3 => F (.bool p.isNone, hd ++ h3)) .mk) .mk := same rfl
def asgK (k : List V → Heap → Option R) : Kont R := fun e t h => match e with | .normal => k t h | _ => none
@[simp ↓] theorem asgK_normal (k : List V → Heap → Option R) (t h) : asgK k .normal t h = k t h := same rfl
theorem trimK_imp {n : Nat} {fn : FuncId} {t : List V} {h : Heap} {k : List V → Heap → Option R} {r : R} (hr : trimK n t h k = some r) : k (St.trim n ⟨fn, t, h⟩).tmps (St.trim n ⟨fn, t, h⟩).heap = some r := by
 unfold trimK at hr
 unfold St.trim
 split at hr
 ·rename_i hn; rw [if_pos hn]; exact hr
 ·rename_i hn; rw [if_neg hn]
  split at hr
  ·rename_i hk; rw [if_pos hk]; exact hr
  ·rename_i hk; rw [if_neg hk]; exact hr
variable {E : Env} {dyn : List Nat}
theorem round_of {d j : Nat} {args args' : List V} {h : Heap} {F : V × Heap → Option R} {r : R} {fn : FuncId} {tmps : List V} {ps : List Tmp} {assign body : Code} {p : Tag F}
  (h1 : h.get d j = some (.loop fn tmps ps assign body true none)) (hl : args.length = ps.length) (h2 : (if d = 0 then some args else V.downL d args) = some args')
  (hda : okDraws E dyn assign = true) (hdb : okDraws E dyn body = true)
  (hr : evK E (om E) fn dyn assign (asgK fun t1 h1 => bnd (rdyB (h1.get 0 j)) (fun b => evK E (om E) fn dyn body (rdK d j (Heap.top (h.drop d)).length (h.take d) F) t1 (h1.set 0 j b)) .mk) (setArgs tmps ps args') (h.drop d) = some r) :
  bnd (roundV (om E) d j args h) F p = some r := by
 unfold bnd roundV
 rw [h1]
 simp only [hl, if_true, h2, Option.bind_some]
 obtain ⟨e, t1, h1', e1, hr⟩ := evK_imp _ _ _ _ hda hr
 rw [e1]
 cases e with
 | normal =>
  simp only [asgK] at hr ⊢
  unfold bnd at hr
  cases hb : h1'.get 0 j with
  | none => rw [hb] at hr; simp [rdyB] at hr
  | some b =>
   rw [hb] at hr
   cases b with
   | loop fn' t' ps' a' b' rd q =>
    cases rd with
    | false => simp [rdyB] at hr
    | true =>
     cases q with
     | some q => simp [rdyB] at hr
     | none =>
      simp only [rdyB, Option.bind_some] at hr ⊢
      obtain ⟨e2, t2, h2', e2', hr⟩ := evK_imp _ _ _ _ hdb hr
      rw [e2']
      simp only [rdK] at hr ⊢
      unfold bnd at hr
      have key : ∀ q : Option Code, jumpB e2 = some q → (match h2'.get 0 j with
        | some (.loop fn2 tmps2 ps2 a2 b2 _ _) => some (V.bool q.isNone, h.take d ++ ((St.mk fn [] (h2'.set 0 j (.loop fn2 tmps2 ps2 a2 b2 q.isNone q))).trim (Heap.top (h.drop d)).length).heap)
        | _ => none).bind F = some r := by
       intro q hq
       rw [hq] at hr
       simp only [Option.bind_some] at hr
       cases hb2 : h2'.get 0 j with
       | none => rw [hb2] at hr; simp [endB] at hr
       | some b2 =>
        rw [hb2] at hr
        cases b2 with
        | loop f2 t2 p2 a2 b2 _ _ =>
         simp only [endB, Option.bind_some] at hr ⊢
         exact trimK_imp (fn := fn) hr
        | _ => simp [endB] at hr
      cases e2 <;> first | exact key _ rfl | (simp [jumpB] at hr)
   | _ => simp [rdyB] at hr
 | _ => simp only [asgK] at hr; cases hr
theorem round_eq {d j : Nat} {args args' : List V} {h : Heap} {r : V × Heap} {fn : FuncId} {tmps : List V} {ps : List Tmp} {assign body : Code}
  (h1 : h.get d j = some (.loop fn tmps ps assign body true none)) (hl : args.length = ps.length) (h2 : (if d = 0 then some args else V.downL d args) = some args')
  (hda : okDraws E dyn assign = true) (hdb : okDraws E dyn body = true)
  (hr : evK E (om E) fn dyn assign (asgK fun t1 h1 => bnd (rdyB (h1.get 0 j)) (fun b => evK E (om E) fn dyn body (rdK d j (Heap.top (h.drop d)).length (h.take d) some) t1 (h1.set 0 j b)) .mk) (setArgs tmps ps args') (h.drop d) = some r) :
  roundV (om E) d j args h = some r := by
 have := round_of (F := some) (p := .mk) h1 hl h2 hda hdb hr
 unfold bnd at this
 cases hh : roundV (om E) d j args h with
 | none => rw [hh] at this; simp at this
 | some x => rw [hh] at this; simpa using this
def heapFin (v : V) (h : Heap) : Option (V × Heap) := (V.freeze [h.top] v).bind fun r' => some (r', h.tail)
attribute [simp] heapFin
theorem heap_of {f : FuncId} {fn : Func} {c : Code} {args : List V} {h : Heap} {r : V × Heap} (hk : E.known f = none) (hm : E.mode f = .heap) (hf : E.fns f = true) (h1 : E.P.funcs[f]? = some fn) (h2 : fn.body = some c) (hd : okDraws E dyn c = true)
  (hr : evK E (om E) f dyn c (endK E.P fn.results.toList heapFin) (V.upL 1 args ++ pois (fn.ntmps - (V.upL 1 args).length)) ([] :: h) = some r) : callV E (om E) f args h = some r := by
 obtain ⟨v, h', h3, h4⟩ := body_of hf h1 h2 hd hr
 rw [callV_heap hk hm, h3]
 exact h4
def prmB4 (c : Option V) (cells : List V) (j o ep ep' esz' off esz : Nat) (t : List V) (h : Heap) : Option (List V × Heap) :=
 match c with
 | some .nilslice => if ep = ep' then some (t, (h.set 0 j (.row (cells.set (o + off) (.sref 0 h.top.length 0 0 0 (esz, false))) ep' esz' false false)).push (.row [] 0 esz true true)) else none
 | _ => some (t, h)
def prmB3 (b : Option Blk) (j o ep off esz : Nat) (t : List V) (h : Heap) : Option (List V × Heap) :=
 match b with
 | some (.row cells ep' esz' _ _) => prmB4 cells[o + off]? cells j o ep ep' esz' off esz t h
 | _ => none
def prmB2 (v : V) (off esz : Nat) (t : List V) (h : Heap) : Option (List V × Heap) :=
 match v with
 | .pref 0 j o ep => prmB3 (h.get 0 j) j o ep off esz t h
 | _ => some (t, h)
@[simp] theorem prmB4_nil (cells j o ep ep' esz' off esz t h) : prmB4 (some .nilslice) cells j o ep ep' esz' off esz t h =
 if ep = ep' then some (t, (h.set 0 j (.row (cells.set (o + off) (.sref 0 h.top.length 0 0 0 (esz, false))) ep' esz' false false)).push (.row [] 0 esz true true)) else none := same rfl
@[simp] theorem prmB4_sref (a b c d e f cells j o ep ep' esz' off esz t h) : prmB4 (some (.sref a b c d e f)) cells j o ep ep' esz' off esz t h = some (t, h) := same rfl
@[simp] theorem prmB3_row (cells ep' esz' f p j o ep off esz t h) : prmB3 (some (.row cells ep' esz' f p)) j o ep off esz t h = prmB4 cells[o + off]? cells j o ep ep' esz' off esz t h := same rfl
@[simp] theorem prmB2_pref (j o ep off esz t h) : prmB2 (.pref 0 j o ep) off esz t h = prmB3 (h.get 0 j) j o ep off esz t h := same rfl
@[simp] theorem prmB_eq (i off esz : Nat) (t : List V) (h : Heap) : prmB i off esz t h = prmB2 (slot t i) off esz t h := by
 unfold prmB
 simp only [hintV, slot_eq]
 unfold prmB2
 split
 ·rename_i j o ep hs
  unfold prmB3
  simp only [hs]
  split
  ·rename_i cells ep' esz' f p hb
   rw [hb]
   simp only
   unfold prmB4
   split
   ·rename_i hc
    rw [hc]
    simp only
    split <;> rfl
   ·rename_i hc
    split
    ·rename_i hc'; exact absurd hc' hc
    ·rfl
  ·rename_i hb
   split
   ·rename_i hb'; exact absurd hb' (hb _ _ _ _ _)
   ·rfl
 ·rename_i hs
  split
  ·rename_i hs'; exact absurd hs' (hs _ _ _)
  ·rfl
def funV (v : V) : Option (FuncId × List V × List V) := match v with | .func (.func g) first captured => some (g, first, captured) | _ => none
@[simp] theorem funV_func (g first captured) : funV (.func (.func g) first captured) = some (g, first, captured) := same rfl
def outB (b : Option Blk) : Option (Option Code) := match b with | some (.loop _ _ _ _ _ ready p) => if ready || p.isSome then some p else none | _ => none
@[simp] theorem outB_loop (fn t ps a b r p) : outB (some (.loop fn t ps a b r p)) = if r || p.isSome then some p else none := same rfl
def nextK (k : Kont R) (p : Option Code) : List V → Heap → Option R := fun t h =>
 match p with | none => k .normal t h | some .ret => k .ret t h | some (.exit id) => k (.exit id) t h | some (.goto l) => k (.goto l) t h | _ => none
@[simp ↓] theorem nextK_none (k : Kont R) (t h) : nextK k none t h = k .normal t h := same rfl
@[simp ↓] theorem nextK_ret (k : Kont R) (t h) : nextK k (some .ret) t h = k .ret t h := same rfl
def rangeE (n : Nat) (k : Kont R) (t : List V) : V × Heap → Option R := fun x => bnd (outB (x.2.get 0 n)) (fun p => trimK n t x.2 (nextK k p)) .mk
@[simp ↓] theorem rangeE_eq (n : Nat) (k : Kont R) (t : List V) (v h) : rangeE n k t (v, h) = bnd (outB (h.get 0 n)) (fun p => trimK n t h (nextK k p)) .mk := same rfl
theorem range_of {fn : FuncId} {f : Operand} {ps : Array Tmp} {assign body : Code} {k : Kont R} {t : List V} {h : Heap} {r : R} {hs : List Hint} {p : Tag (f, ps, assign, body, k)} (hh : E.hint fn (((firstRegion assign).or (firstRegion body)).getD 0) = hs)
  (hr : hintsK hs t h (fun t0 h0 => bnd (funV (ev1 t0 f)) (fun x => bnd (callV E (om E) x.1 (x.2.1 ++ [V.yield 0 h0.top.length] ++ x.2.2) (h0.push (.loop fn t0 ps.toList assign body true none))) (rangeE h0.top.length k t0) .mk) .mk) = some r) : rgK (om E) fn f ps assign body k t h p = some r := by
 obtain ⟨t0, h0, e0, hr⟩ := hintsK_imp (fn := fn) hr
 unfold rgK rangeK
 rw [om_step]
 simp only [evStep, hh, e0, Option.bind_some, ← ev1_eq]
 cases hf : ev1 t0 f with
 | func g first captured =>
  cases g with
  | func g =>
   rw [hf] at hr
   simp only [bnd, funV, Option.bind_some] at hr ⊢
   cases hc : callV E (om E) g (first ++ [V.yield 0 h0.top.length] ++ captured) (h0.push (.loop fn t0 ps.toList assign body true none)) with
   | none => rw [hc] at hr; cases hr
   | some x =>
    rw [hc] at hr
    simp only [Option.bind_some, rangeE, bnd] at hr ⊢
    cases hb : x.2.get 0 h0.top.length with
    | none => rw [hb] at hr; simp [outB] at hr
    | some b =>
     rw [hb] at hr
     cases b with
     | loop f2 t2 p2 a2 b2 rd q =>
      simp only [outB] at hr ⊢
      split at hr
      ·rename_i hq
       rw [if_pos hq]
       simp only [Option.bind_some] at hr
       have h3 := trimK_imp (fn := fn) hr
       have hfn : (St.trim h0.top.length ⟨fn, t0, x.2⟩).fn = fn := by unfold St.trim; split; rfl; split <;> rfl
       unfold nextK at h3
       cases q with
       | none => simp only [Option.bind_some, behind]; rw [if_pos hfn]; exact h3
       | some c =>
        simp only at h3 ⊢
        cases c <;> first | (cases h3) | (rw [om_step]; simp only [evStep, Option.bind_some, behind]; rw [if_pos hfn]; exact h3)
      ·cases hr
     | _ => simp [outB] at hr
  | _ => rw [hf] at hr; simp [bnd, funV] at hr
 | _ => rw [hf] at hr; simp [bnd, funV] at hr
end
end Go.Sim
end
section
namespace Go.Sim
open Go
section
variable {ok : Nat → Nat → Prop} {w : World} {B : Bd} {p : Array Oper → Bool} {h : Heap} {P : Program}
theorem run_eq_nil {t e : TypeId} (hu : P.underlying t = some (.slice e)) (a : Addr) (n c d : Nat) (w : World) : (Op.equalIn (d + 1) t (.slice (some a) n c) (.slice none 0 0)).run P w = .ok false w := by
 simp [Op.equalIn, r_under hu]
theorem run_eq_nil2 {t e : TypeId} (hu : P.underlying t = some (.slice e)) (d : Nat) (w : World) : (Op.equalIn (d + 1) t (.slice none 0 0) (.slice none 0 0)).run P w = .ok true w := by
 simp [Op.equalIn, r_under hu]
theorem run_eql_nil {t e : TypeId} (hu : P.underlying t = some (.slice e)) (a : Addr) (n c : Nat) (w : World) : (binOp .eql t (.slice (some a) n c) (.slice none 0 0)).run P w = .ok (.bool false) w := by
 refine (eql_other ?_ ?_ ?_ ?_ (run_eq_nil hu a n c 9999 w)).1
 all_goals simp
theorem run_eql_nil2 {t e : TypeId} (hu : P.underlying t = some (.slice e)) (w : World) : (binOp .eql t (.slice none 0 0) (.slice none 0 0)).run P w = .ok (.bool true) w := by
 refine (eql_other ?_ ?_ ?_ ?_ (run_eq_nil2 hu 9999 w)).1
 all_goals simp
theorem run_build_none {t e : TypeId} {k : Nat} (hu : P.underlying t = some (.slice e)) (hk : sizeV P e = some k) (w : World) :
  (Instr.buildSlice t 0 #[]).run P w = .ok (.slice (some ⟨w.heap.size, 0, none⟩) 0 0) (w.alloc (.cells #[] e (0, 0))) := by
 have hz0 : (Array.range 0).map (fun _ => (default : Value)) = #[] := by simp [Array.range]
 simp [Instr.buildSlice, r_under hu, r_size hk, Go.newRow, hz0, Instr.fill]
theorem Ext.alloc_one (hh : HR ok w B p h) (o : Obj) : Ext ok B w ok B (w.alloc o) ∧ HR ok (w.alloc o) B p h := by
 have hsame : ∀ b, b < w.heap.size → (w.alloc o).heap[b]? = w.heap[b]? := by
  intro b hb
  show (w.heap.push o)[b]? = _
  rw [Array.getElem?_push, if_neg (by omega)]
 have hsize : w.heap.size ≤ (w.alloc o).heap.size := by show _ ≤ (w.heap.push o).size; simp
 refine ⟨⟨hsize, rfl, rfl, rfl, fun b hb _ => hsame b hb, OkLe.heap (fun _ _ h => h) (fun b n hb => hsame b (hh.okn b n hb).1), fun _ _ _ h => .inl h, fun d j => EntLe.refl _ fun b hb => ?_, fun _ _ _ h _ => h⟩, hh.world hsize (fun b n hb => hsame b (hh.okn b n hb).1) fun d j b hb => hsame b (hh.lt d j b hb)⟩
 simp only [csize, hsame b (hh.lt d j b hb)]; exact Nat.le_refl _
theorem clone_inv {L k : Nat} {s r : V} {h' : Heap} (hc : cloneWL L k [s] h = some (r, h')) : (s = .nilslice ∨ (∃ d j o l e q, s = .sref d j o l e q) ∨ ∃ c o l f, s = .scon c o l f) ∧
  ∃ n, lenV s = some n ∧ ((n = 0 ∧ r = .scon [] 0 0 false ∧ h' = h) ∨ (n ≠ 0 ∧ ∃ cs, h.sliceCells s k n = some cs ∧ n ≤ L ∧ okCells cs = true ∧ r = .sref 0 (h.top.length + 1) 0 n 0 (k, false) ∧ h' = (newRow (newRow h [] k).2 cs k).2)) := by
 have hs : ∀ x, s ≠ .str x := by rintro x rfl; simp [cloneWL] at hc
 have hc' : (lenV s).bind (fun n => if n = 0 then some (.scon [] 0 0 false, h) else
  (h.sliceCells s k n).bind fun cs => if L < n ∨ okCells cs = false then none else some (V.sref 0 (h.top.length + 1) 0 n 0 (k, false), (newRow (newRow h [] k).2 cs k).2)) = some (r, h') := by
  cases s <;> first | exact hc | exact absurd rfl (hs _)
 simp only [Option.bind_eq_some_iff] at hc'
 obtain ⟨n, hn, hc'⟩ := hc'
 refine ⟨?_, n, hn, ?_⟩
 ·cases s <;> simp [lenV] at hn ⊢
  exact absurd rfl (hs _)
 ·split at hc'
  ·rename_i h0
   simp only [Option.some.injEq, Prod.mk.injEq] at hc'
   exact .inl ⟨h0, hc'.1.symm, hc'.2.symm⟩
  ·rename_i h0
   simp only [Option.bind_eq_some_iff] at hc'
   obtain ⟨cs, hcs, hc'⟩ := hc'
   split at hc'
   ·cases hc'
   ·rename_i hcond
    simp only [not_or, Nat.not_lt, Bool.not_eq_false] at hcond
    simp only [Option.some.injEq, Prod.mk.injEq] at hc'
    exact .inr ⟨h0, cs, hcs, hcond.1, hcond.2, hc'.1.symm, hc'.2.symm⟩
theorem clone_after (hh : HR ok w B p h) {t e : TypeId} {ty : TypeId} {L k : Nat} {z : V} {by_ : Nat} (hu : P.underlying t = some (.slice e)) (hk : sizeV P e = some k) (hby : bytesV P e = some by_) (hz : zeroV P e = some z)
  (h0 : 0 < k) (h1 : 0 < by_) (h2 : L * by_ ≤ 2 ^ 47) (h3 : z.cells.length = k) {s r : V} {v : Value} {h' : Heap} (hc : cloneWL L k [s] h = some (r, h')) (hv : VRel ok w B s v) :
  (v = .slice none 0 0 ∧ After p ok B w h.length h' r ok B w (.slice none 0 0)) ∨
  ∃ a n c u w1 x w2 ok' B', v = .slice (some a) n c ∧ (Instr.buildSlice t 0 #[]).run P w = .ok u w1 ∧ (Builtin.append_ #[t, t] ty #[u, .slice (some a) n c]).run P w1 = .ok x w2 ∧ After p ok B w h.length h' r ok' B' w2 x := by
 obtain ⟨hs, n, hn, hc⟩ := clone_inv hc
 have hshape : (v = .slice none 0 0 ∧ n = 0) ∨ ∃ a c, v = .slice (some a) n c ∧ n ≤ c := by
  rcases hs with rfl | ⟨d, j, o, l, e, q, rfl⟩ | ⟨c, o, l, f, rfl⟩
  ·simp only [VRel] at hv; simp at hn; exact .inl ⟨hv, hn.symm⟩
  ·obtain ⟨a, cap, hv, hle, ha⟩ := VRel.sshape hv
   simp at hn; subst hn
   cases a with
   | none => have := (ha rfl).1; subst this; have : l = 0 := by omega
             subst this; exact .inl ⟨hv, rfl⟩
   | some a => exact .inr ⟨a, cap, hv, hle⟩
  ·simp only [VRel] at hv
   simp at hn; subst hn
   rcases hv with ⟨b, base, cap, o, hv, hle, _⟩ | ⟨rfl, hv⟩
   ·exact .inr ⟨_, cap, hv, hle⟩
   ·exact .inl ⟨hv, rfl⟩
 rcases hshape with ⟨rfl, rfl⟩ | ⟨a, c, rfl, hle⟩
 ·rcases hc with ⟨_, rfl, rfl⟩ | ⟨h, _⟩
  ·exact .inl ⟨rfl, Ext.refl ok B w, hh, by simp [VRel], rfl⟩
  ·exact absurd rfl h
 ·right
  rcases hc with ⟨rfl, rfl, rfl⟩ | ⟨hn0, cs, hcs, hn40, hcok, rfl, rfl⟩
  ·obtain ⟨e1, hh1⟩ := Ext.alloc_one hh (.cells #[] e (0, 0))
   obtain ⟨i, hi, rfl⟩ := r_bytes hby
   have his : i.size = k := by simp only [sizeV, hi, Option.map_some, Option.some.injEq] at hk; exact hk
   have hzv : ∃ z', i.zero = some z' ∧ ofValue z' = some z := by
    simp only [zeroV, hi, Option.bind_some, Option.bind_eq_some_iff] at hz; exact hz
   obtain ⟨z', hz', hzv⟩ := hzv
   have hzs : z'.cells.size = i.size := by
    have := (zero_cells (ok := ok) (w := w) (B := B) hzv).length; simp at this; omega
   have hnr : NewsRun P (w.alloc (.cells #[] e (0, 0))) #[t, t] i z' (.slice (some a) 0 c) 0 [] := by
    refine .read (.inr ⟨t, _, rfl, hu, fun k h => by cases h⟩) ?_ fun w' _ => ?_
    ·simp [Builtin.lenOf]
    ·exact run_firstCells_some w' i.size 0 a 0 c [] (by simp) (fun i c hi => by simp at hi)
   have g1 := append_room (ty := ty) rfl hu hi hz' hzs hnr (base := some ⟨w.heap.size, 0, none⟩) (len := 0) (cap := 0) (by omega)
   refine ⟨a, 0, c, .slice (some ⟨w.heap.size, 0, none⟩) 0 0, w.alloc (.cells #[] e (0, 0)), .slice (some ⟨w.heap.size, 0, none⟩) 0 0, w.alloc (.cells #[] e (0, 0)), ok, B, rfl, run_build_none hu hk w, ?_, e1, hh1, ?_, rfl⟩
   ·rw [g1]; simp [storeCells]
   ·simp only [VRel]
    exact .inl ⟨w.heap.size, 0, 0, ⟨w.heap.size, 0, none⟩, rfl, Nat.le_refl _, fun h => (by cases h), fun h => by omega, trivial⟩
  ·have hb := (buildSlice_rel (P := P) (ok := ok) (B := B) (w := w) (p := p) (t := t) (len := 0) (parts := []) (parts' := #[]) (cells := []) hu hk hz (by omega) h3 h0 (by simp only [fillV, rep]; split <;> rfl) (by simp [PartsRel])).push hh
   obtain ⟨u, w1, B1, g1, g2, g3, g4⟩ := hb
   have hg : ∀ d j b, h.get d j = some b → (h.push (rowOf [] k)).get d j = some b := by
    intro d j b hb
    rw [Heap.get_push hh.pos, if_neg ?_, hb]
    rintro ⟨rfl, rfl⟩
    cases h with
    | nil => simp [Heap.get] at hb
    | cons x y => simp [Heap.get, Heap.top] at hb
   have hcs' : (h.push (rowOf [] k)).sliceCells s k n = some cs := by
    rcases hs with rfl | ⟨d, j, o, l, e', q, rfl⟩ | ⟨c', o, l, f, rfl⟩
    ·exact hcs
    ·simp only [Heap.sliceCells] at hcs ⊢
     split at hcs
     ·rename_i hb; rw [hg _ _ _ hb]; exact hcs
     ·cases hcs
    ·exact hcs
   have hap : appendV P (h.push (rowOf [] k)) t (#[t, t] : Array TypeId)[1]? (.sref 0 h.top.length 0 0 0 (k, true)) s = some (.sref 0 (h.top.length + 1) 0 n 0 (k, false), (newRow (newRow h [] k).2 cs k).2) := by
    have hnews : newsV P (h.push (rowOf [] k)) e k (some t) s = some (n, cs) := by
     simp only [newsV, hu]
     rcases hs with rfl | ⟨d, j, o, l, e', q, rfl⟩ | ⟨c', o, l, f, rfl⟩ <;> simp only [newsA, hn, Option.bind_some, hcs']
    have hlen : cs.length = n * k := by
     obtain ⟨_, _, _, l', _, h2, _, _, h5⟩ := slice_cells_rel hh hcs hv
     rw [h5.length, h2]
    have h46 : ¬ 2 ^ 47 < (0 + n) * by_ := by
     rw [Nat.zero_add]
     have : n * by_ ≤ L * by_ := Nat.mul_le_mul_right _ hn40
     omega
    have h00 : (h.push (rowOf [] k)).get 0 h.top.length = some (rowOf [] k) := by rw [Heap.get_push hh.pos, if_pos ⟨rfl, rfl⟩]
    have hq : (#[t, t] : Array TypeId)[1]? = some t := rfl
    simp only [appendV, hu, hk, hby, hz, Option.bind_some, lenV_sref, hq, hnews]
    rw [if_neg (by simp only [not_or, Nat.not_lt, ne_eq, Decidable.not_not]; exact ⟨by omega, by omega, by omega, h3, hlen⟩)]
    have h01 : (h.push (.row [] 0 k true true)).get 0 h.top.length = some (.row [] 0 k true true) := h00
    simp [hn0, Heap.sliceCells, h01, rowOf, Heap.top_push hh.pos, newRow, V.flatL, V.plainL]
   obtain ⟨x, w2, B2, k1, k2, k3, k4⟩ := append_rel (ty := ty) g3 hap rfl g4 (g2.vrel hh hv)
   exact ⟨a, n, c, u, w1, x, w2, ok, B2, rfl, g1, k1, g2.trans k2, k3, k4, by simp [newRow, Heap.length_push]⟩
end
end Go.Sim
end
section
namespace Go.Sim
open Go
section
variable {E : Env} {n : Nat} {t : TypeId} {xs ys : List V}
theorem eqV_struct {fs : Array Field} (hu : E.P.underlying t = some (.struct fs)) (hc : E.eqTypes.contains t = true) : eqV E (n + 1) t (.agg xs) (.agg ys) = eqFields E n fs.toList xs ys := by
 simp only [eqV, hu, hc, if_true]
theorem eqF_nil : eqFields E (n + 1) [] xs ys = some true := by simp only [eqFields]
theorem eqF_cons {f : Field} {r : List Field} {a b : V} (hn : (f.name == "_") = false) (ha : isAggV E.P f.type = some false) (hx : xs[f.offset]? = some a) (hy : ys[f.offset]? = some b) :
  eqFields E (n + 1) (f :: r) xs ys = (eqV E n f.type a b).bind fun c => if c then eqFields E n r xs ys else some false := by
 simp only [eqFields, hn, partV, ha, hx, hy, Option.bind_some, Bool.false_eq_true, if_false]
theorem eqV_int {k : IntKind} {a b : Int} (hu : E.P.underlying t = some (.int k)) : eqV E (n + 1) t (.int k a) (.int k b) = some (a == b) := by
 simp only [eqV, hu, if_true]
theorem eqV_two {f0 f1 : Field} {x0 x1 y0 y1 : V} {c0 c1 : Bool} (hu : E.P.underlying t = some (.struct #[f0, f1])) (hc : E.eqTypes.contains t = true) (hn0 : (f0.name == "_") = false) (hn1 : (f1.name == "_") = false)
  (ho0 : f0.offset = 0) (ho1 : f1.offset = 1) (ha0 : isAggV E.P f0.type = some false) (ha1 : isAggV E.P f1.type = some false) (h0 : eqV E (n + 2) f0.type x0 y0 = some c0) (h1 : eqV E (n + 1) f1.type x1 y1 = some c1) :
  eqV E (n + 4) t (.agg [x0, x1]) (.agg [y0, y1]) = some (c0 && c1) := by
 rw [eqV_struct hu hc]
 show eqFields E (n + 3) [f0, f1] _ _ = _
 rw [eqF_cons hn0 ha0 (by rw [ho0]; rfl) (by rw [ho0]; rfl), h0]
 cases c0 with
 | false => rfl
 | true =>
  simp only [Option.bind_some, if_true]
  rw [eqF_cons hn1 ha1 (by rw [ho1]; rfl) (by rw [ho1]; rfl), h1]
  cases c1 with
  | false => rfl
  | true => simp only [Option.bind_some, if_true, Bool.and_true]; rw [eqF_nil]
theorem binO_neq {x y : Operand} {a b : List V} {c : Bool} (h : eqV E 200 t (.agg a) (.agg b) = some c) : binO E .neq t x y (.agg a) (.agg b) = some (.bool !c) := by
 simp [binO, binV, h]
end
end Go.Sim
end
section
namespace Go.Sim
open Go
section
variable {β : Type}
end
end Go.Sim
end
section
namespace Go.Sim
open Go
/- Equality of values, as far as contents go. -/
end Go.Sim
end
section
namespace Go.Sim
open Go Go.RowKit Go.ChangeShapes Go.WideShapes Go.Deep
theorem calls_of_callV {E : Env} (hq : EqOk E) (hE : FnOk E (fun _ => true)) (hK : KnownOk E (fun _ => true)) (hKI : KnownIn E) {f : FuncId} {args : List V} {r : V} {h' : Heap}
  (he : callV E (om E) f args [[]] = some (r, h')) {ok : Nat → Nat → Prop} {w : World} {args' : Array Value} (hok : ∀ b n, ok b n → b < w.heap.size) (ha : VRelL ok w Bd.none_ args args'.toList) {R : Ending → World → Prop}
  (hR : ∀ ok' B' w' v, After (fun _ => true) ok Bd.none_ w 1 h' r ok' B' w' v → R (.returned v) w') : Calls E.P f args' w R := by
 obtain ⟨n, hn⟩ := Fs.fuel E (callV_fs E f args [[]]) he
 have h := call_sound (ev_sound hq hE hK hKI n) hE hK hn ok Bd.none_ w args'.toList R (HR.empty hok) ha hR
 rw [Array.toArray_toList] at h
 exact callsIn_wide.1 h
section
variable {H : Type} {enc : TypeId × Value → H} {P : Program} {W W' : World}
theorem slice_shape {P : Program} {W : World} {r : Reach} {base : Nat} {t e : TypeId} {v : Value} (ht : P.underlying t = some (.slice e)) (hv : Value.okWide P W r base t v) : v = .slice none 0 0 ∨ ∃ b off len cap, v = .slice (some ⟨b, off, none⟩) len cap ∧ len ≤ cap := by
 simp only [Value.okWide, ht, Cell.okWide] at hv
 unfold Cell.ok at hv
 simp only [ht] at hv
 split at hv
 all_goals rename_i heq
 all_goals first | contradiction | (simp at heq; done) | skip
 ·exact .inl rfl
 ·rename_i a len cap
  obtain ⟨b, off, spot⟩ := a
  have := hv.2.2.2.1
  simp only at this; subst this
  exact .inr ⟨b, off, len, cap, rfl, hv.1⟩
theorem trodAll_below (hl : laidOutB P = true) (hb : Below W.heap.size W W') : ∀ {ts : List TypeId} {vs : List Value} {ds : List (DataW H)} {ps : List MemPlace},
  (∀ t ∈ ts, P.readableRec t = true ∧ t < P.types.size) → DataW.TrodAll enc P W 0 (fun _ => true) true ts vs ds ps → (∀ x ∈ ps, x.block < W.heap.size) → DataW.TrodAll enc P W' 0 (fun b => decide (b < W.heap.size)) true ts vs ds ps
 | [], [], [], ps, _, h, _ => h
 | t :: ts, v :: vs, d :: ds, ps, hr, h, hlt => by
  obtain ⟨p, q, h1, h2, rfl⟩ := h
  exact ⟨p, q, Below.trod hl (hr t (by simp)).1 (hr t (by simp)).2 h1 hb fun x hx => hlt x (by simp [hx]), trodAll_below hl hb (fun t ht => hr t (by simp [ht])) h2 fun x hx => hlt x (by simp [hx]), rfl⟩
 | [], _ :: _, _, _, _, h, _ => by simp [DataW.TrodAll] at h
 | [], [], _ :: _, _, _, h, _ => by simp [DataW.TrodAll] at h
 | _ :: _, [], _, _, _, h, _ => by simp [DataW.TrodAll] at h
 | _ :: _, _ :: _, [], _, _, h, _ => by simp [DataW.TrodAll] at h
theorem law_post {f : Func} {s : ChangeSpec} {apart fresh handsOn : Bool} {args : Array Value} {ds gs : List (DataW H)} {before : List MemPlace} {tb : TypeId}
  (hl : laidOutB P = true) (hrd : ∀ t ∈ f.params.toList, P.readableRec t = true ∧ t < P.types.size) (htb : P.underlying tb = some .bool) (hres : f.resultTypes = #[tb]) (hvars : s.vars = [])
  (hW : DataW.Whole enc P f.params.toList s.vars apart W args.toList ds gs before) (hfn : s.fn H (ds ++ gs) = { results := [.lit (.bool true)], args := ds }) (hb : Below W.heap.size W W') :
  s.post enc P f apart fresh handsOn false W args (.bool true) W' := by
 have hlt := hW.lt
 have hW' := hW
 obtain ⟨p, q, hA, hV, rfl, _, _⟩ := hW
 rw [hvars] at hV
 obtain ⟨rfl, rfl⟩ := trodVars_none hV
 refine ⟨ds, [], _, [], p, [], hW', ?_, ?_, ?_, Below.frame hb _, fun h => by cases h⟩
 ·rw [hfn, hres]
  exact trodAll_cons_mk (shut_bool htb _) trodAll_mk0
 ·rw [hfn]
  exact trodAll_below hl hb hrd hA fun x hx => hlt x (by simp [hx])
 ·rw [hfn, hvars]; exact rfl
end
end Go.Sim
end
section
namespace Go.Sim
open Go Go.RowKit
section
variable {ok : Nat → Nat → Prop} {w w' : World} {B : Bd} {p : Array Oper → Bool} {h : Heap} {P : Program}
theorem Ext.below (hh : HR ok w B p h) (hb : Below w.heap.size w w') : Ext ok B w ok B w' ∧ HR ok w' B p h := by
 refine ⟨⟨hb.size, hb.os, hb.tape, hb.output, fun b h1 _ => hb.block b h1, OkLe.heap (fun _ _ h => h) (fun b n h1 => hb.block b (hh.okn b n h1).1), fun _ _ _ h => .inl h, fun d j => EntLe.refl _ fun b h1 => ?_, fun _ _ _ h1 _ => h1⟩,
  hh.world hb.size (fun b n h1 => hb.block b (hh.okn b n h1).1) fun d j b h1 => hb.block b (hh.lt d j b h1)⟩
 simp only [csize, hb.block b (hh.lt d j b h1)]; exact Nat.le_refl _
theorem callsIn_plain (hh : HR ok w B p h) {f : FuncId} {args : Array Value} {r : V} {v : Value} (hv : ∀ w', VRel ok w' B r v) {R : Ending → World → Prop}
  (hc : Calls P f args w fun e w' => e = .returned v ∧ Below w.heap.size w w') (hR : ∀ ok' B' w' v, After p ok B w h.length h r ok' B' w' v → R (.returned v) w') :
  CallsIn Fence.wide 0 P f args w R :=
 callsIn_wide.2 (hc.mono fun e w' ⟨he, hb⟩ => by
  subst he
  obtain ⟨h1, h2⟩ := Ext.below hh hb
  exact hR _ _ _ _ ⟨h1, h2, hv _, rfl⟩)
end
theorem below_drew (w : World) : Below w.heap.size w w.drew := ⟨rfl, rfl, rfl, Nat.le_refl _, fun _ _ => rfl⟩
theorem below_or {w w' : World} (h : w' = w ∨ w' = w.drew) : Below w.heap.size w w' := by
 rcases h with rfl | rfl
 ·exact Below.refl _ _
 ·exact below_drew _
def knUU (f : Nat → Nat → V) (args : List V) (h : Heap) : Option (V × Heap) := match args with | [.int .u32 (.ofNat a), .int .u32 (.ofNat b)] => some (f a b, h) | _ => none
def knU (f : Nat → V) (args : List V) (h : Heap) : Option (V × Heap) := match args with | [.int .u32 (.ofNat a)] => some (f a, h) | _ => none
def knI (f : Int → V) (args : List V) (h : Heap) : Option (V × Heap) := match args with | [.int .i32 a] => some (f a, h) | _ => none
@[simp] theorem knUU_nat (f : Nat → Nat → V) (a b : Nat) (h : Heap) : knUU f [.int .u32 a, .int .u32 b] h = some (f a b, h) := rfl
@[simp] theorem knU_nat (f : Nat → V) (a : Nat) (h : Heap) : knU f [.int .u32 a] h = some (f a, h) := rfl
@[simp] theorem knI_int (f : Int → V) (a : Int) (h : Heap) : knI f [.int .i32 a] h = some (f a, h) := rfl
section
variable {P : Program} {f : FuncId} {p : Array Oper → Bool}
theorem known_uu {k : IntKind} {F : Nat → Nat → Int} (hw : ∀ (a b : Nat) (w : World), Calls P f #[.int .u32 a, .int .u32 b] w fun e w' => e = .returned (.int k (F a b)) ∧ (w' = w ∨ w' = w.drew)) :
  ∀ args h r h', knUU (fun a b => .int k (F a b)) args h = some (r, h') → CallS P p f args h r h' := by
 intro args h r h' hc
 unfold knUU at hc
 split at hc
 ·rename_i a b
  simp only [Option.some.injEq, Prod.mk.injEq] at hc
  obtain ⟨rfl, rfl⟩ := hc
  intro ok B w args' R hh ha hR
  simp only [VRelL, VRel] at ha
  obtain ⟨v, l', rfl, rfl, v', l'', rfl, rfl, rfl⟩ := ha
  exact callsIn_plain hh (fun w' => by simp only [VRel]) ((hw a b w).mono fun e w' ⟨h1, h2⟩ => ⟨h1, below_or h2⟩) hR
 ·cases hc
theorem known_u {k : IntKind} {F : Nat → Int} (hw : ∀ (a : Nat) (w : World), Calls P f #[.int .u32 a] w fun e w' => e = .returned (.int k (F a)) ∧ w' = w) :
  ∀ args h r h', knU (fun a => .int k (F a)) args h = some (r, h') → CallS P p f args h r h' := by
 intro args h r h' hc
 unfold knU at hc
 split at hc
 ·rename_i a
  simp only [Option.some.injEq, Prod.mk.injEq] at hc
  obtain ⟨rfl, rfl⟩ := hc
  intro ok B w args' R hh ha hR
  simp only [VRelL, VRel] at ha
  obtain ⟨v, l', rfl, rfl, rfl⟩ := ha
  exact callsIn_plain hh (fun w' => by simp only [VRel]) ((hw a w).mono fun e w' ⟨h1, h2⟩ => ⟨h1, below_or (.inl h2)⟩) hR
 ·cases hc
theorem known_i {k : IntKind} {F : Int → Int} (hw : ∀ (a : Int) (w : World), Calls P f #[.int .i32 a] w fun e w' => e = .returned (.int k (F a)) ∧ w' = w) :
  ∀ args h r h', knI (fun a => .int k (F a)) args h = some (r, h') → CallS P p f args h r h' := by
 intro args h r h' hc
 unfold knI at hc
 split at hc
 ·rename_i a
  simp only [Option.some.injEq, Prod.mk.injEq] at hc
  obtain ⟨rfl, rfl⟩ := hc
  intro ok B w args' R hh ha hR
  simp only [VRelL, VRel] at ha
  obtain ⟨v, l', rfl, rfl, rfl⟩ := ha
  exact callsIn_plain hh (fun w' => by simp only [VRel]) ((hw a w).mono fun e w' ⟨h1, h2⟩ => ⟨h1, below_or (.inl h2)⟩) hR
 ·cases hc
end
def knOUU (f : Nat → Nat → Nat → V) (args : List V) (h : Heap) : Option (V × Heap) := match args with | [.int .u8 (.ofNat o), .int .u32 (.ofNat a), .int .u32 (.ofNat b)] => some (f o a b, h) | _ => none
@[simp] theorem knOUU_nat (f : Nat → Nat → Nat → V) (o a b : Nat) (h : Heap) : knOUU f [.int .u8 o, .int .u32 a, .int .u32 b] h = some (f o a b, h) := rfl
theorem known_ouu {P : Program} {f : FuncId} {p : Array Oper → Bool} {F G : Nat → Nat → Nat → Nat} (hw : ∀ (o a b : Nat) (w : World), Calls P f #[.int .u8 o, .int .u32 a, .int .u32 b] w fun e w' => e = .returned (.tuple #[.int .u32 (F o a b), .int .i64 (G o a b)]) ∧ Below w.heap.size w w') :
  ∀ args h r h', knOUU (fun o a b => .tuple [.int .u32 (F o a b), .int .i64 (G o a b)]) args h = some (r, h') → CallS P p f args h r h' := by
 intro args h r h' hc
 unfold knOUU at hc
 split at hc
 ·rename_i o a b
  simp only [Option.some.injEq, Prod.mk.injEq] at hc
  obtain ⟨rfl, rfl⟩ := hc
  intro ok B w args' R hh ha hR
  simp only [VRelL, VRel] at ha
  obtain ⟨v, l1, rfl, rfl, v1, l2, rfl, rfl, v2, l3, rfl, rfl, rfl⟩ := ha
  exact callsIn_plain hh (fun w' => by simp [VRel, VRelL]) (hw o a b w) hR
 ·cases hc
end Go.Sim
end
section
namespace Go.Sim
open Go Go.RowKit Go.ChangeShapes Go.WideShapes Go.Deep
section
variable {P : Program} {W : World} {r : Reach} {b0 : Nat}
theorem struct_cells {t : TypeId} {fs : Array Field} {ts : List TypeId} {v : Value} (hu : P.underlying t = some (.struct fs)) (hct : P.cellTypes P.depth t = some ts) (hn : P.cellsOf t = ts.length) (hv : Value.okWide P W r b0 t v) :
  ∃ cs : List Value, v = .agg cs.toArray ∧ cs.length = ts.length ∧ ∀ (i : Nat) (x : Value) (u : TypeId), cs[i]? = some x → ts[i]? = some u → Cell.okWide P W r b0 u x := by
 simp only [Value.okWide, hu] at hv
 obtain ⟨cs, rfl, hsz, ts', hts, _, hcell⟩ := hv
 rw [hct] at hts
 obtain rfl := Option.some.inj hts
 refine ⟨cs.toList, by simp, by simp [hsz, hn], fun i x u hx hu => ?_⟩
 obtain ⟨u', hu', h⟩ := hcell i x (by simpa using hx)
 have hi : i < ts.length := (List.getElem?_eq_some_iff.1 hu).1
 rw [Nat.mod_eq_of_lt hi, hu] at hu'
 exact Option.some.inj hu' ▸ h
end
theorem six {cs : List Value} (h : cs.length = 6) : ∃ a b c d e f, cs = [a, b, c, d, e, f] := by
 match cs, h with
 | [a, b, c, d, e, f], _ => exact ⟨a, b, c, d, e, f, rfl⟩
end Go.Sim
end
section
namespace Go.Sim
open Go Go.RowKit Go.ChangeShapes Go.WideShapes Go.Deep
def toVal : V → Value
 | .int k n => .int k n
 | .str s => .string ⟨s.toArray⟩
 | .bool b => .bool b
 | _ => .bool false
def simpleV : V → Bool
 | .int _ _ | .str _ | .bool _ => true
 | _ => false
theorem simple_rel {ok : Nat → Nat → Prop} {w : World} {B : Bd} {v : V} (h : simpleV v = true) : one (toVal v) = true ∧ VRel ok w B v (toVal v) := by
 cases v <;> simp [simpleV] at h <;> exact ⟨rfl, by simp [VRel, toVal]⟩
theorem crel_of {ok : Nat → Nat → Prop} {w : World} {b : Nat} (hb : b < w.heap.size → ∀ n, ok b n) : ∀ (cs : List V) (i : Nat), (∀ f v, cs[f]? = some v → w.cell? ⟨b, i + f, none⟩ = some (toVal v) ∧ simpleV v = true) → CRel ok w b i cs
 | [], i, _ => by simp [CRel]
 | v :: r, i, h => by
  simp only [CRel]
  obtain ⟨h1, h2⟩ := h 0 v rfl
  obtain ⟨g1, g2⟩ := simple_rel (ok := ok) (w := w) (B := Bd.none_) h2
  refine ⟨⟨_, h1, g1, ⟨i + 1, Nat.lt_succ_self _, hb (lt_of_cell h1) _⟩, g2⟩, crel_of hb r (i + 1) fun f u hf => ?_⟩
  have := h (f + 1) u (by simpa using hf)
  rw [show i + 1 + f = i + (f + 1) by omega]; exact this
theorem add_none (b o n : Nat) : (⟨b, o, none⟩ : Addr).add n = ⟨b, o + n, none⟩ := by
 unfold Addr.add; split <;> simp_all
section
variable {H : Type} {enc : TypeId × Value → H} {P : Program} {W : World}
theorem list_in {α : Type} [Inhabited α] (E : Enc α) {t e : TypeId} {n : Nat} {v : Value} {x : DataW H × List MemPlace} (ht : P.underlying t = some (.slice e)) (hce : P.cellsOf e = E.k)
  (hel : ∀ n cs x, DataW.trod enc P W 0 (fun _ => true) true n e cs = some x → ∃ a : α, cs = (E.enc a).map toVal ∧ ∀ u ∈ E.enc a, simpleV u = true)
  (hv : v = .slice none 0 0 ∨ ∃ b off len cap, v = .slice (some ⟨b, off, none⟩) len cap ∧ len ≤ cap) (hT : DataW.trod enc P W 0 (fun _ => true) true n t [v] = some x) :
  ∃ l : List α, one v = true ∧ VRel (fun b _ => b < W.heap.size) W Bd.none_ (lst E l) v ∧ l.length ≤ maxLen := by
 rcases hv with rfl | ⟨b, off, len, cap, rfl, hle⟩
 ·exact ⟨[], rfl, by simp [VRel, lst], by simp⟩
 ·rcases open_slice ht hT with ⟨h1, h2⟩ | ⟨a, len', cap', m, n', D, Pl, h1, _, h2, h3, h4, h5, h6⟩
  ·simp at h1
  ·simp at h1
   obtain ⟨rfl, rfl, rfl⟩ := h1
   simp only [if_true] at h4
   subst h4
   have hx : ∃ f : Nat → α, ∀ i, i < m → ∀ g u, (E.enc (f i))[g]? = some u → W.cell? ⟨b, off + i * E.k + g, none⟩ = some (toVal u) ∧ simpleV u = true := by
    have hb : ∀ i, i < m → ∃ y : α, ∀ g u, (E.enc y)[g]? = some u → W.cell? ⟨b, off + i * E.k + g, none⟩ = some (toVal u) ∧ simpleV u = true := by
     intro i hi
     obtain ⟨cs', hc1, hc2⟩ := h6 i hi
     obtain ⟨y, hy, hs⟩ := hel _ _ _ hc2
     obtain ⟨_, hl, hget⟩ := World.cells?_some hc1
     refine ⟨y, fun g u hg => ?_⟩
     have hgl : g < P.cellsOf e := by
      have := (List.getElem?_eq_some_iff.1 hg).1
      rw [hce, ← E.len y]; exact this
     have := hget g hgl
     rw [hce, add_none, add_none, hy, List.getElem?_map, hg] at this
     exact ⟨by simpa using this, hs u (List.mem_of_getElem? hg)⟩
    refine ⟨fun i => if h : i < m then (hb i h).choose else default, fun i hi => ?_⟩
    simp only [hi, dif_pos]
    exact (hb i hi).choose_spec
   obtain ⟨f, hf⟩ := hx
   refine ⟨(List.range len).map f, rfl, ?_, by simp; omega⟩
   have hlen : ((List.range len).map f).length = len := by simp
   simp only [lst, VRel, hlen]
   have hcell : ∀ g u, (cat E ((List.range len).map f))[g]? = some u → W.cell? ⟨b, off + g, none⟩ = some (toVal u) ∧ simpleV u = true := by
    intro g u hg
    have hk := E.pos
    have hdm : g / E.k * E.k + g % E.k = g := by rw [Nat.mul_comm]; exact Nat.div_add_mod g E.k
    rw [← hdm, cat_get E _ _ _ (Nat.mod_lt _ hk)] at hg
    obtain ⟨y, hy, hg⟩ := Option.bind_eq_some_iff.1 hg
    have hj : g / E.k < len := by have := (List.getElem?_eq_some_iff.1 hy).1; simpa using this
    simp [List.getElem?_map, List.getElem?_range hj] at hy
    subst hy
    have := hf (g / E.k) (by omega) (g % E.k) u hg
    rw [show off + g / E.k * E.k + g % E.k = off + g by omega] at this
    exact this
   refine .inl ⟨b, off, m, ⟨b, off, none⟩, rfl, h2, by simp, fun _ => rfl, crel_of (fun h _ => h) _ _ hcell⟩
theorem two_in {e : TypeId} {f0 f1 : Field} {n : Nat} {cs : List Value} {x : DataW H × List MemPlace} (hu : P.underlying e = some (.struct #[f0, f1])) (h2 : P.cellsOf e = 2) (ho0 : f0.offset = 0) (ho1 : f1.offset = 1) (hc0 : P.cellsOf f0.type = 1) (hc1 : P.cellsOf f1.type = 1)
  (hT : DataW.trod enc P W 0 (fun _ => true) true n e cs = some x) : ∃ a b n' y z, cs = [a, b] ∧ DataW.trod enc P W 0 (fun _ => true) true n' f0.type [a] = some y ∧ DataW.trod enc P W 0 (fun _ => true) true n' f1.type [b] = some z := by
 obtain ⟨xs, n', rfl, hx, hl, hxl, hf⟩ := DataW.trod_struct hu hT
 rw [h2] at hl
 match cs, hl with
 | [a, b], _ =>
  have g0 := hf 0 f0 rfl
  have g1 := hf 1 f1 rfl
  rw [ho0, hc0] at g0
  rw [ho1, hc1] at g1
  simp at hxl
  match xs, hxl with
  | [y, z], _ => exact ⟨a, b, n', y, z, rfl, by simpa using g0, by simpa using g1⟩
end
end Go.Sim
end
section
namespace Go.Sim
open Go Go.RowKit Go.ChangeShapes Go.WideShapes Go.Deep
section
variable {H : Type} {enc : TypeId × Value → H} {P : Program} {W : World}
theorem weight_of {α : Type} {E : Enc α} {l : List α} {t e : TypeId} {v : Value} {d : DataW H} {ps : List MemPlace} {n : Nat} {ok : Nat → Nat → Prop} {B : Bd} (ht : P.underlying t = some (.slice e))
  (hT : DataW.trod enc P W 0 (fun _ => true) true n t [v] = some (d, ps)) (hv : VRel ok W B (lst E l) v) : l = [] ∨ ∃ x ∈ d.weights P t, l.length * P.bytesOf e ≤ x := by
 have hl : ∀ a len cap, v = .slice a len cap → len = l.length := by
  rintro a len cap rfl
  simp only [lst, VRel] at hv
  rcases hv with ⟨b, base, c, o, hv, _⟩ | ⟨h0, hv⟩
  ·simp only [Value.slice.injEq] at hv; exact hv.2.1
  ·simp only [Value.slice.injEq] at hv; omega
 rcases open_slice ht hT with ⟨h1, h2⟩ | ⟨a, len, cap, m, n', D, Pl, h1, _, _, _, _, h5, _⟩
 ·left
  have hv0 : v = .slice none 0 0 := by simpa using h1
  have := hl _ _ _ hv0
  exact List.eq_nil_of_length_eq_zero this.symm
 ·right
  have hv0 : v = .slice (some a) len cap := by simpa using h1
  have hlen := hl _ _ _ hv0
  simp only [Prod.mk.injEq] at h5
  obtain ⟨rfl, _⟩ := h5
  refine ⟨_, by simp only [DataW.weights, ht]; exact List.mem_cons_self, ?_⟩
  rw [← hlen]
  exact Nat.mul_le_mul_right _ (by simp)
theorem weight_each : ∀ {ts : List TypeId} {ds : List (DataW H)} {j : Nat} {t : TypeId} {d : DataW H} {x : Nat}, ts[j]? = some t → ds[j]? = some d → x ∈ d.weights P t → x ∈ DataW.weightsEach P ts ds
 | t0 :: ts, d0 :: ds, 0, t, d, x, ht, hd, hx => by
  simp only [List.getElem?_cons_zero, Option.some.injEq] at ht hd
  subst ht hd
  simp only [DataW.weightsEach, List.mem_append]; exact .inl hx
 | t0 :: ts, d0 :: ds, j + 1, t, d, x, ht, hd, hx => by
  simp only [List.getElem?_cons_succ] at ht hd
  simp only [DataW.weightsEach, List.mem_append]; exact .inr (weight_each ht hd hx)
 | [], _, _, _, _, _, ht, _, _ => by simp at ht
 | _ :: _, [], _, _, _, _, _, hd, _ => by simp at hd
end
end Go.Sim
end
section
namespace Go.Sim
open Go Go.RowKit Go.ChangeShapes Go.WideShapes Go.Deep
section
variable {H : Type} {enc : TypeId × Value → H} {P : Program} {W : World}
end
end Go.Sim
end
section
namespace Go.Sim.Kr
open Go Go.Sim
def evalG (g : Nat) (tmps : List V) (x : Operand) : V :=
 match x with
 | .global g' => if Nat.beq g' g then .pcon tb64 0 else .poison
 | x => evalT tmps x
def opsG (E : Env) (g : Nat) (ops : Array Oper) : List Oper → St → Option St
 | [], s => some s
 | o :: r, s =>
  (wantedV ops s.tmps o).bind fun w =>
  if w then (opV E (evalG g s.tmps) s.heap o.op).bind fun x => opsG E g ops r { s with tmps := putT s.tmps o.dst x.1, heap := x.2 }
  else opsG E g ops r { s with tmps := putT s.tmps o.dst V.undef }
def evStepG (E : Env) (g : Nat) (rec : Rec) : Rec := fun c s =>
 match c with
 | .region _ ops false => (opsG E g ops ops.toList s).map fun s' => (.normal, s')
 | c => evStep E rec c s
def evG (E : Env) (g : Nat) : Nat → Rec
 | 0 => fun _ _ => none
 | n + 1 => evStepG E g (evG E g n)
section
variable {E : Env} {rec : Rec} {p : Array Oper → Bool} {ok : Nat → Nat → Prop} {w : World} {B : Bd} {m g : Nat} {h : Heap}
theorem evalG_rel (hg : p (markOps g) = false) (hh : HR ok w B p h) {tmps : List V} {a : Act} (ht : VRelL ok w B tmps a.tmps.toList) (x : Operand) : VRel ok w B (evalG g tmps x) (a.eval x) := by
 rcases x with t | v | g' | f
 ·exact evalT_rel ht (.tmp t)
 ·exact evalT_rel ht (.const v)
 ·simp only [evalG]
  split
  ·rename_i hb
   obtain rfl := Nat.eq_of_beq_eq_true hb
   have h2 := hh.gl g' hg
   simp only [VRel]
   exact ⟨g', 0, rfl, h2⟩
  ·simp only [VRel]
 ·exact evalT_rel ht (.func f)
theorem opsG_sound (hg : p (markOps g) = false) (hq : EqOk E) {F : Fence} (hF : FW F) {ops : Array Oper} :
  ∀ (l : List Oper) (i : Nat) (s s' : St) (base : Base) (ok : Nat → Nat → Prop) (B : Bd) (w : World) (a : Act) (Q : Exit → Act → World → Prop), ops.toList.drop i = l → opsG E g ops l s = some s' → SR p base s ok B w a →
   (∀ ok' B' w' a', Ext ok B w ok' B' w' → SR p base s' ok' B' w' a' → s'.heap.length = s.heap.length → Q .normal a' w') →
   wpOpsIn F 0 E.P ops Q (List.range' i l.length) a w
 | [], i, s, s', base, ok, B, w, a, Q, hl, he, hs, hQ => by
  simp only [opsG, Option.some.injEq] at he; subst he
  simp only [List.length_nil, List.range'_zero, wpOpsIn]
  exact hQ ok B w a (Ext.refl ok B w) hs rfl
 | o :: r, i, s, s', base, ok, B, w, a, Q, hl, he, hs, hQ => by
  have hi : ops[i]? = some o := by
   have : (ops.toList.drop i)[0]? = some o := by rw [hl]; rfl
   rw [List.getElem?_drop, Nat.add_zero, Array.getElem?_toList] at this
   exact this
  have hr : ops.toList.drop (i + 1) = r := by
   have : (ops.toList.drop i).drop 1 = r := by rw [hl]; rfl
   rwa [List.drop_drop] at this
  simp only [opsG, Option.bind_eq_some_iff] at he
  obtain ⟨b, hb, he⟩ := he
  have hw := wanted_rel (l := a.tmps) hb hs.tmps
  simp only [List.length_cons, List.range'_succ, wpOpsIn, hi, hw]
  cases b with
  | true =>
   simp only [if_true, Option.bind_eq_some_iff] at he ⊢
   obtain ⟨⟨v, h'⟩, hop, he⟩ := he
   obtain ⟨n, c, w', B', hrun, hgv, hx, hh', hv⟩ := op_rel hq hs.heap (evalG_rel hg hs.heap hs.tmps) hop
   have hd : ∀ c, o.op ≠ .defer c := fun c e => by rw [e] at hop; simp [opV] at hop
   have hlen : h'.length = s.heap.length := length_op hop
   refine ⟨fun f _ => hF.fn f, ?_⟩
   rw [Oper.semAt_eq _ _ _ hd, hrun]
   have key : ∀ v', VRel ok w' B' v v' → wpOpsIn F 0 E.P ops Q (List.range' (i + 1) r.length) (a.put o.dst v') w' := by
    intro v' hv'
    have hs' : SR p base { s with tmps := putT s.tmps o.dst v, heap := h' } ok B' w' (a.put o.dst v') :=
     ⟨hh', put_rel (hx.vrelL hs.heap hs.tmps) o.dst hv', by rw [put_defers]; exact Marks.ext hs.marks hx⟩
    refine opsG_sound hg hq hF r (i + 1) _ s' base ok B' w' _ Q hr he hs' fun ok2 B2 w2 a2 hx2 hs2 hl2 => ?_
    exact hQ ok2 B2 w2 a2 (hx.trans hx2) hs2 (hl2.trans hlen)
   rcases hgv with rfl | ⟨rfl, rfl⟩
   ·exact key c hv
   ·exact key _ hv
  | false =>
   simp only [Bool.false_eq_true, if_false] at he ⊢
   refine ⟨fun f _ => hF.fn f, ?_⟩
   have hs' : SR p base { s with tmps := putT s.tmps o.dst V.undef } ok B w (a.put o.dst undef) :=
    ⟨hs.heap, put_rel hs.tmps o.dst (by simp only [V.undef, VRel]; exact ⟨[], rfl, rfl⟩), by rw [put_defers]; exact hs.marks⟩
   exact opsG_sound hg hq hF r (i + 1) _ s' base ok B w _ Q hr he hs' hQ
theorem evG_sound (hg : p (markOps g) = false) (hq : EqOk E) (hE : FnOk E p) (hK : KnownOk E p) (hKI : KnownIn E) : ∀ n, Sound E.P p (evG E g n) n
 | 0 => ⟨fun c s e s' he => by simp [evG] at he, fun c s e s' he => by simp [evG] at he⟩
 | n + 1 => by
  have hS := evG_sound hg hq hE hK hKI n
  have hD : DrawOk E p (evG E g n) := fun id ops s s' hp he F base ok B w a Q hF hs hQ => draw_sound hS hq hE hK hKI hp id he hF hs hQ
  have base := ev_step hS hq hE hK hKI hD
  constructor
  ·intro c s e s' he F bs ok B w a Q hc
   change evStepG E g (evG E g n) c s = some (e, s') at he
   unfold evStepG at he
   split at he
   ·rename_i id ops
    simp only [Option.map_eq_some_iff, Prod.mk.injEq] at he
    obtain ⟨s1, he, rfl, rfl⟩ := he
    refine wpIn_region ?_
    rw [List.range_eq_range']
    have := opsG_sound hg hq hc.fence (ops := ops) ops.toList 0 s s1 bs ok B w a Q (by simp) he hc.st hc.post
    simpa using this
   ·exact base.code _ s e s' he F bs ok B w a Q hc
  ·intro c s e s' he F bs ok B w a Q hc
   exact base.loop c s e s' he F bs ok B w a Q hc
end
end Go.Sim.Kr
namespace Go.Sim.Tz
def tzGo (m : Nat) : Nat → Nat → Nat
 | 0, _ => 64
 | n + 1, i => if m.testBit i then i else tzGo m n (i + 1)
def tz (m : Nat) : Nat := tzGo m 64 0
theorem tzGo_spec (m : Nat) : ∀ n i, (∀ j, j < i → m.testBit j = false) → (∃ j, j < i + n ∧ m.testBit j = true) → tzGo m n i < i + n ∧ m.testBit (tzGo m n i) = true ∧ ∀ j, j < tzGo m n i → m.testBit j = false
 | 0, i, h0, ⟨j, hj, hb⟩ => by rw [h0 j (by omega)] at hb; cases hb
 | n + 1, i, h0, ⟨j, hj, hb⟩ => by
  rw [tzGo]
  cases hi : m.testBit i with
  | true => exact ⟨by simp, by simpa using hi, by simpa using h0⟩
  | false =>
   rw [if_neg (by simp)]
   have := tzGo_spec m n (i + 1) (fun k hk => by
    by_cases h : k = i
    ·rw [h]; exact hi
    ·exact h0 k (by omega)) ⟨j, by omega, hb⟩
   exact ⟨by omega, this.2⟩
theorem tz_spec {m : Nat} (h0 : m ≠ 0) (h : m < 2 ^ 64) : tz m < 64 ∧ m.testBit (tz m) = true ∧ ∀ j, j < tz m → m.testBit j = false := by
 have := tzGo_spec m 64 0 (by omega) (by
  apply Classical.byContradiction
  intro hn
  apply h0
  apply Nat.eq_of_testBit_eq
  intro j
  rw [Nat.zero_testBit]
  by_cases hj : j < 64
  ·cases hb : m.testBit j with
   | false => rfl
   | true => exact absurd ⟨j, by omega, hb⟩ hn
  ·exact Nat.testBit_lt_two_pow (Nat.lt_of_lt_of_le h (Nat.pow_le_pow_right (by omega) (by omega))))
 simpa [tz] using this
theorem mod_low {m k : Nat} (hb : m.testBit k = true) (hz : ∀ j, j < k → m.testBit j = false) : m % 2 ^ (k + 1) = 2 ^ k := by
 apply Nat.eq_of_testBit_eq
 intro j
 rw [Nat.testBit_mod_two_pow, Nat.testBit_two_pow]
 rcases Nat.lt_trichotomy j k with h | h | h
 ·rw [hz j h, decide_eq_false (by omega : ¬ k = j)]; simp
 ·subst h; rw [hb]; simp
 ·rw [decide_eq_false (by omega : ¬ j < k + 1), decide_eq_false (by omega : ¬ k = j)]; rfl
theorem low_split {m k : Nat} (hb : m.testBit k = true) (hz : ∀ j, j < k → m.testBit j = false) : m = 2 ^ (k + 1) * (m / 2 ^ (k + 1)) + 2 ^ k := by
 have := Nat.div_add_mod m (2 ^ (k + 1))
 rw [mod_low hb hz] at this
 exact this.symm
theorem and_pred {m k j : Nat} (hb : m.testBit k = true) (hz : ∀ j, j < k → m.testBit j = false) : (m.testBit j && !(m - 1).testBit j) = decide (k = j) := by
 have e := low_split hb hz
 have hp : 0 < 2 ^ k := Nat.two_pow_pos k
 have hlt : 2 ^ k < 2 ^ (k + 1) := Nat.pow_lt_pow_right (by omega) (by omega)
 have e1 : m - 1 = 2 ^ (k + 1) * (m / 2 ^ (k + 1)) + (2 ^ k - 1) := by omega
 generalize m / 2 ^ (k + 1) = q at e e1
 rw [e1, e, Nat.testBit_two_pow_mul_add _ hlt, Nat.testBit_two_pow_mul_add _ (by omega : 2 ^ k - 1 < 2 ^ (k + 1)), Nat.testBit_two_pow, Nat.testBit_two_pow_sub_one]
 rcases Nat.lt_trichotomy j k with h | h | h
 ·rw [if_pos (by omega), if_pos (by omega), decide_eq_false (by omega : ¬ k = j)]; simp
 ·subst h; rw [if_pos (by omega), if_pos (by omega)]; simp
 ·rw [if_neg (by omega), if_neg (by omega), decide_eq_false (by omega : ¬ k = j)]; simp
theorem and_neg {m : Nat} (h0 : m ≠ 0) (h : m < 2 ^ 64) : m &&& (2 ^ 64 - m) = 2 ^ tz m := by
 obtain ⟨h1, h2, h3⟩ := tz_spec h0 h
 apply Nat.eq_of_testBit_eq
 intro j
 rw [Nat.testBit_and, Nat.testBit_two_pow, ← and_pred (j := j) h2 h3]
 have e : 2 ^ 64 - m = 2 ^ 64 - ((m - 1) + 1) := by omega
 rw [e, Nat.testBit_two_pow_sub_succ (by omega)]
 by_cases hj : j < 64
 ·rw [decide_eq_true hj, Bool.true_and]
 ·rw [Nat.testBit_lt_two_pow (Nat.lt_of_lt_of_le h (Nat.pow_le_pow_right (by omega) (by omega : 64 ≤ j)))]; simp
theorem and_less {m : Nat} (h0 : m ≠ 0) (h : m < 2 ^ 64) (j : Nat) : (m &&& (m - 1)).testBit j = (m.testBit j && decide (j ≠ tz m)) := by
 obtain ⟨h1, h2, h3⟩ := tz_spec h0 h
 have := and_pred (j := j) h2 h3
 rw [Nat.testBit_and]
 by_cases hj : j = tz m
 ·rw [← hj] at this
  simp only [hj] at this ⊢
  rw [h2] at this ⊢
  simpa using this
 ·rw [decide_eq_false (fun h => hj h.symm)] at this
  rw [decide_eq_true hj, Bool.and_true]
  cases h4 : m.testBit j with
  | false => rfl
  | true => rw [h4] at this; simpa using this
end Go.Sim.Tz
namespace Go.Sim.Kr
open Go Go.Sim
def tzV (args : List V) (h : Heap) : Option (V × Heap) :=
 match args with
 | [.int .u64 (.ofNat m)] => if m < 2 ^ 64 then some (.int .i64 (Int.ofNat (Tz.tz m)), h) else none
 | _ => none
@[simp] theorem tzV_nat (m : Nat) (hm : m < 2 ^ 64) (h : Heap) : tzV [.int .u64 (m : Int)] h = some (.int .i64 (Tz.tz m : Int), h) := by
 show (if m < 2 ^ 64 then some (V.int .i64 (Int.ofNat (Tz.tz m)), h) else none) = _
 rw [if_pos hm]; rfl
theorem tz_known {E : Env} {p : Array Oper → Bool} {g : Nat} (hg : p (markOps g) = false) (hq : EqOk E) (hE : FnOk E p) (hK : KnownOk E p) (hKI : KnownIn E) {n f : Nat}
  (ht : ∀ m : Nat, m < 2 ^ 64 → ∀ h, bodyV E (evG E g n) f [.int .u64 (m : Int)] h = some (.int .i64 (Tz.tz m : Int), h)) : ∀ args h r h', tzV args h = some (r, h') → CallS E.P p f args h r h' := by
 intro args h r h' hc
 unfold tzV at hc
 split at hc
 case h_2 => cases hc
 rename_i m
 split at hc
 case isFalse => cases hc
 rename_i hm
 simp only [Option.some.injEq, Prod.mk.injEq] at hc
 obtain ⟨rfl, rfl⟩ := hc
 exact body_sound (evG_sound hg hq hE hK hKI n) hE (ht _ hm _)
theorem tzV_frame : ∀ args h r h', tzV args h = some (r, h') → h'.length = h.length ∧ ∀ d j, (∀ v ∈ args, ∀ d' j' o e, v = .pref d' j' o e → d' ≠ d ∨ j' ≠ j) → h'.get d j = h.get d j := by
 intro args h r h' hr
 unfold tzV at hr
 split at hr
 case h_2 => cases hr
 split at hr
 ·simp only [Option.some.injEq, Prod.mk.injEq] at hr
  obtain ⟨rfl, rfl⟩ := hr
  exact ⟨rfl, fun _ _ _ => rfl⟩
 ·cases hr
end Go.Sim.Kr
namespace Go.Sim
open Go Go.RowKit Go.ChangeShapes Go.WideShapes Go.Deep
theorem ev_soundP {E : Env} {p : Array Oper → Bool} (hq : EqOk E) (hE : FnOk E p) (hK : KnownOk E p) (hKI : KnownIn E) : ∀ n, Sound E.P p (ev E n) n
 | 0 => ⟨fun c s e s' he => by simp [ev] at he, fun c s e s' he => by simp [ev] at he⟩
 | n + 1 => ev_step (ev_soundP hq hE hK hKI n) hq hE hK hKI fun id ops s s' hp he F base ok B w a Q hF hs hQ =>
   draw_sound (ev_soundP hq hE hK hKI n) hq hE hK hKI hp id he hF hs hQ
theorem calls_of_callVP {E : Env} {p : Array Oper → Bool} (hq : EqOk E) (hE : FnOk E p) (hK : KnownOk E p) (hKI : KnownIn E) {f : FuncId} {args : List V} {r : V} {h' : Heap}
  (he : callV E (om E) f args [[]] = some (r, h')) {ok : Nat → Nat → Prop} {w : World} {args' : Array Value} (hok : ∀ b n, ok b n → b < w.heap.size) (hG : Gl p ok w) (ha : VRelL ok w Bd.none_ args args'.toList) {R : Ending → World → Prop}
  (hR : ∀ ok' B' w' v, After p ok Bd.none_ w 1 h' r ok' B' w' v → R (.returned v) w') : Calls E.P f args' w R := by
 obtain ⟨n, hn⟩ := Fs.fuel E (callV_fs E f args [[]]) he
 have h := call_sound (ev_soundP hq hE hK hKI n) hE hK hn ok Bd.none_ w args'.toList R (HR.empty hok hG) ha hR
 rw [Array.toArray_toList] at h
 exact callsIn_wide.1 h
theorem law_callsP {E : Env} {p : Array Oper → Bool} (hq : EqOk E) (hE : FnOk E p) (hK : KnownOk E p) (hKI : KnownIn E) {f : FuncId} {args : List V}
  (hk : E.known f = none) (hm : E.mode f = .pure) (hf : V.flatL args = true) (hv : viewArgs [[]] args = some args) (he : pureV E (om E) f false args = some (.bool true)) {w : World} (hG : Gl p (fun b _ => b < w.heap.size) w) {args' : Array Value} (ha : VRelL (fun b _ => b < w.heap.size) w Bd.none_ args args'.toList) :
  Calls E.P f args' w fun e w' => e = .returned (.bool true) ∧ Below w.heap.size w w' := by
 have hc : callV E (om E) f args [[]] = some (.bool true, [[]]) := by
  rw [callV_pure hk hm, hv, hf]
  simp only [Option.bind_some, Bool.not_true, he, Option.map_some]
 refine calls_of_callVP hq hE hK hKI hc (fun b _ hb => hb) hG ha fun ok' B' w' v hA => ?_
 have hval := hA.val
 simp only [VRel] at hval
 subst hval
 exact ⟨rfl, hA.ext.os, hA.ext.tape, hA.ext.output, hA.ext.size, fun k hk => hA.ext.same k hk fun d j => by simp [Bd.none_, Ent.blk]⟩
end Go.Sim
namespace Go.Sim.Kr
open Go Go.Sim
section
variable {E : Env} {g n : Nat} {s : St}
def opsN (E : Env) (g : Nat) : List Oper → St → Option St
 | [], s => some s
 | o :: r, s => (opV E (evalG g s.tmps) s.heap o.op).bind fun x => opsN E g r { s with tmps := putT s.tmps o.dst x.1, heap := x.2 }
theorem opsN_eq {ops : Array Oper} : ∀ (l : List Oper) (s : St), (l.all fun o => o.guard.isNone) = true → opsG E g ops l s = opsN E g l s
 | [], s, _ => rfl
 | o :: r, s, h => by
  simp only [List.all_cons, Bool.and_eq_true, Option.isNone_iff_eq_none] at h
  have ih := fun s => opsN_eq (ops := ops) r s h.2
  simp only [opsG, opsN, wantedV, h.1, Option.bind_some, if_true, ih]
theorem opsN_step {o : Oper} {r : List Oper} {s s' : St} {v : V} {h : Heap} (h1 : opV E (evalG g s.tmps) s.heap o.op = some (v, h)) (h2 : opsN E g r ⟨s.fn, putT s.tmps o.dst v, h⟩ = some s') : opsN E g (o :: r) s = some s' := by
 rw [opsN, h1]; exact h2
theorem bodyG3 {f : FuncId} {fn : Func} {i0 i1 i3 : Nat} {o0 o1 o3 : Array Oper} {A : Code} {t : Nat} {args l : List V} {h h' : Heap} {r : V} {s0 s1 s3 : St} (hfn : E.fns f = true) (hf : E.P.funcs[f]? = some fn)
  (hb : fn.body = some (.seq (.region i0 o0 false) (.seq (.seq (.region i1 o1 false) (.cond (.tmp t) A .skip)) (.seq (.region i3 o3 false) .ret))))
  (g0 : (o0.toList.all fun o => o.guard.isNone) = true) (g1 : (o1.toList.all fun o => o.guard.isNone) = true) (g3 : (o3.toList.all fun o => o.guard.isNone) = true)
  (h0 : opsN E g o0.toList { fn := f, tmps := args ++ List.replicate (fn.ntmps - args.length) .poison, heap := h } = some s0) (h1 : opsN E g o1.toList s0 = some s1) (ht : s1.tmps[t]? = some (.bool false)) (h3 : opsN E g o3.toList s1 = some s3)
  (hl : resultsV E.P s3 fn.results.toList = some l) (hr : joinV l = r) (hh : s3.heap = h') : bodyV E (evG E g (n + 12)) f args h = some (r, h') := by
 subst hr hh
 have e : evG E g (n + 12) (.seq (.region i0 o0 false) (.seq (.seq (.region i1 o1 false) (.cond (.tmp t) A .skip)) (.seq (.region i3 o3 false) .ret))) { fn := f, tmps := args ++ List.replicate (fn.ntmps - args.length) .poison, heap := h } = some (.ret, s3) := by
  rw [← opsN_eq (ops := o0) _ _ g0] at h0
  rw [← opsN_eq (ops := o1) _ _ g1] at h1
  rw [← opsN_eq (ops := o3) _ _ g3] at h3
  simp [evG, evStepG, evStep, h0, h1, h3, evalT, ht]
 unfold bodyV
 rw [if_pos hfn, hf]
 dsimp only
 rw [hb]
 dsimp only
 rw [e]
 dsimp only
 rw [hl]
 rfl
end
structure Tk (E : Env) (p : Array Oper → Bool) : Prop where
 eq : EqOk E
 fn : FnOk E p
 kn : KnownOk E p
 ki : KnownIn E
end Go.Sim.Kr
namespace Go.Sim
open Go
def nzN (n : Nat) : Nat := if n = 0 then 0 else 1
@[simp] theorem nzN_zero : nzN 0 = 0 := rfl
@[simp] theorem nzN_succ (n : Nat) : nzN (n + 1) = 1 := rfl
theorem Heap.set_get {h : Heap} {d j : Nat} {b : Blk} (hg : h.get d j = some b) : h.set d j b = h := by
 unfold Heap.get at hg
 unfold Heap.set
 cases hd : h[d]? with
 | none => rw [hd] at hg; cases hg
 | some l =>
  rw [hd] at hg
  simp only [Option.bind_some] at hg
  obtain ⟨h1, h2⟩ := List.getElem?_eq_some_iff.1 hd
  obtain ⟨h3, h4⟩ := List.getElem?_eq_some_iff.1 hg
  simp only [Option.getD_some]
  apply List.ext_getElem?
  intro i
  rw [List.getElem?_set]
  by_cases hi : d = i
  ·subst hi
   rw [if_pos rfl, if_pos h1, hd]
   congr 1
   apply List.ext_getElem?
   intro q
   rw [List.getElem?_set]
   by_cases hq : j = q
   ·subst hq; rw [if_pos rfl, if_pos h3, hg]
   ·rw [if_neg hq]
  ·rw [if_neg hi]
def appVx (P : Program) (h : Heap) (elem : TypeId) (s : V) (n : Nat) (news : List V) : Option (V × Heap) := appV P h elem s n news
theorem appV_srefU {P : Program} {h : Heap} (elem : TypeId) (n : Nat) (news : List V) (j len ep k0) : appV P h elem (.sref 0 j 0 len ep (k0, false)) n news = (sizeV P elem).bind fun k => (bytesV P elem).bind fun by_ => (zeroV P elem).bind fun z =>
  if k = 0 ∨ by_ = 0 ∨ 2 ^ 47 < (len + n) * by_ ∨ z.cells.length ≠ k ∨ news.length ≠ n * k then none else
  match h.get 0 j with
  | some (.row cells ep' esz flat plain) =>
   if ep = ep' ∧ k0 = k ∧ cells.length = len * k ∧ okCells news ∧ esz / 4294967296 ≤ len * k then
    some (.sref 0 j 0 (len + n) (ep + nzN n) (k, false), h.set 0 j (.row (cells ++ news) (ep + nzN n) esz (flat && V.flatL news) (plain && V.plainL news)))
   else appVx P h elem (.sref 0 j 0 len ep (k0, false)) n news
  | _ => appVx P h elem (.sref 0 j 0 len ep (k0, false)) n news := by
 unfold appVx
 rw [appV_sref]
 cases hk : sizeV P elem with
 | none => rfl
 | some k =>
 cases hb : bytesV P elem with
 | none => rfl
 | some by_ =>
 cases hz : zeroV P elem with
 | none => rfl
 | some z =>
 simp only [Option.bind_some]
 by_cases hc : k = 0 ∨ by_ = 0 ∨ 2 ^ 47 < (len + n) * by_ ∨ z.cells.length ≠ k ∨ news.length ≠ n * k
 ·rw [if_pos hc, if_pos hc]
 rw [if_neg hc, if_neg hc]
 cases hg : h.get 0 j with
 | none => rfl
 | some b =>
  cases b with
  | row cells ep' esz flat plain =>
   dsimp only
   by_cases h1 : ep = ep' ∧ k0 = k ∧ cells.length = len * k ∧ okCells news ∧ esz / 4294967296 ≤ len * k
   ·rw [if_pos h1]
    obtain ⟨rfl, rfl, h2, h3, h4⟩ := h1
    by_cases hn : n = 0
    ·subst hn
     rw [if_pos rfl]
     have h5 : news = [] := by
      apply List.eq_nil_of_length_eq_zero
      have : ¬ news.length ≠ 0 * k0 := fun h => hc (.inr (.inr (.inr (.inr h))))
      omega
     subst h5
     simp only [nzN_zero, Nat.add_zero, List.append_nil, V.flatL, V.plainL, Bool.and_true]
     rw [Heap.set_get hg]
    ·rw [if_neg hn, if_pos ⟨rfl, True.intro, rfl, by omega, h3, h4⟩, if_pos True.intro]
     have e : nzN n = 1 := if_neg hn
     rw [e, List.take_of_length_le (by omega)]
     rfl
   ·rw [if_neg h1]
  | _ => rfl
end Go.Sim
end
section
namespace Go.Sim
open Go
def puts (t : List V) : List (Nat × V) → List V
 | [] => t
 | (i, v) :: r => puts (put t i v) r
def forgT (t : List V) : List Hint → List V
 | [] => t
 | .forget i :: r => forgT (put t i .poison) r
 | _ :: r => forgT t r
def setsH (h : Heap) : List (Nat × Nat × Blk) → Heap
 | [] => h
 | (d, j, b) :: r => setsH (h.set d j b) r
def addsH (h : Heap) (l : List Blk) : Heap := h.setTop (h.top ++ l)
@[simp] theorem puts_nil (t) : puts t [] = t := rfl
@[simp] theorem puts_cons (t i v r) : puts t ((i, v) :: r) = puts (put t i v) r := rfl
@[simp] theorem forgT_nil (t) : forgT t [] = t := rfl
@[simp] theorem forgT_forget (t i r) : forgT t (.forget i :: r) = forgT (put t i .poison) r := rfl
@[simp] theorem forgT_canon (t i r) : forgT t (.canon i :: r) = forgT t r := rfl
@[simp] theorem forgT_promote (t i e r) : forgT t (.promote i e :: r) = forgT t r := rfl
@[simp] theorem forgT_promoteBox (t i o e r) : forgT t (.promoteBox i o e :: r) = forgT t r := rfl
@[simp] theorem forgT_promoteAll (t i o e r) : forgT t (.promoteAll i o e :: r) = forgT t r := rfl
@[simp] theorem forgT_loose (t i r) : forgT t (.loose i :: r) = forgT t r := rfl
@[simp] theorem setsH_nil (h) : setsH h [] = h := rfl
@[simp] theorem setsH_cons (h d j b r) : setsH h ((d, j, b) :: r) = setsH (h.set d j b) r := rfl
@[simp] theorem addsH_cons (l r : _) (b : List Blk) : addsH (l :: r) b = (l ++ b) :: r := rfl
theorem loop_chg {E : Env} {fn : FuncId} {dyn : List Nat} {hs : List Hint} {body : Code} {R : Type} {k : Kont R} {t : List V} {h : Heap} {r : R} {p : Tag (body, k)} {α : Type}
  (S : α → List (Nat × V)) (H : α → List (Nat × Nat × Blk)) (A : α → List Blk) (Inv : α → Prop) (μ : α → Nat)
  (hh : E.hint fn ((firstRegion body).getD 0) = hs) (hd : okDraws E dyn body = true)
  (step : ∀ a, Inv a → (∀ b t' h', Inv b → μ b < μ a → hintsK hs t' h' (fun t h => lpB E fn dyn hs body k t h .mk) = lpB E fn dyn hs body k (puts (forgT t hs) (S b)) (addsH (setsH h (H b)) (A b)) .mk → lpK (om E) fn body k t' h' .mk = some r) →
   lpB E fn dyn hs body k (puts (forgT t hs) (S a)) (addsH (setsH h (H a)) (A a)) .mk = some r)
  (a : α) (ha : Inv a) (hi : hintsK hs t h (fun t h => lpB E fn dyn hs body k t h .mk) = lpB E fn dyn hs body k (puts (forgT t hs) (S a)) (addsH (setsH h (H a)) (A a)) .mk) : lpK (om E) fn body k t h p = some r :=
 loop_use (fun a => puts (forgT t hs) (S a)) (fun a => addsH (setsH h (H a)) (A a)) Inv μ hh hd step a ha hi
def ngK {R : Type} (k : Kont R) : Kont R := fun e t h => match e with | .goto _ => none | e => k e t h
@[simp ↓] theorem ngK_normal {R : Type} (k : Kont R) (t h) : ngK k .normal t h = k .normal t h := rfl
@[simp ↓] theorem ngK_ret {R : Type} (k : Kont R) (t h) : ngK k .ret t h = k .ret t h := rfl
@[simp ↓] theorem ngK_exit {R : Type} (k : Kont R) (i t h) : ngK k (.exit i) t h = k (.exit i) t h := rfl
theorem goto_use {E : Env} {R : Type} {fn : FuncId} {c rest : Code} {l : Nat} {k : Kont R} {t : List V} {h : Heap} {r : R} (dyn : List Nat) (hl : findLabel c l = some rest) (hd : okDraws E dyn rest = true)
  (hr : evK E (om E) fn dyn rest (ngK k) t h = some r) : scopeK (om E) fn c k (.goto l) t h = some r := by
 obtain ⟨e, t', h', h1, h2⟩ := evK_imp (E := E) (fn := fn) (dyn := dyn) rest (ngK k) t h hd hr
 simp only [scopeK, hl, h1, Option.bind_some, behind, if_true]
 exact h2
end Go.Sim
end
section
namespace Go.Sim
open Go
section
variable {E : Env} {n : Nat} {t : TypeId} {xs ys : List V}
theorem eqF_int {f : Field} {r : List Field} {k : IntKind} {a b : Int} (hn : (f.name == "_") = false) (ha : isAggV E.P f.type = some false) (hu : E.P.underlying f.type = some (.int k)) (hx : xs[f.offset]? = some (.int k a)) (hy : ys[f.offset]? = some (.int k b)) :
  eqFields E (n + 2) (f :: r) xs ys = if (a == b) = true then eqFields E (n + 1) r xs ys else some false := by
 rw [eqF_cons hn ha hx hy, eqV_int hu]; rfl
theorem eqV_six {f0 f1 f2 f3 f4 f5 : Field} {k0 k1 k2 k3 k4 k5 : IntKind} {a0 a1 a2 a3 a4 a5 b0 b1 b2 b3 b4 b5 : Int} (hu : E.P.underlying t = some (.struct #[f0, f1, f2, f3, f4, f5])) (hc : E.eqTypes.contains t = true)
  (hn : ([f0, f1, f2, f3, f4, f5].all fun f => !(f.name == "_")) = true) (ho : [f0, f1, f2, f3, f4, f5].map (·.offset) = [0, 1, 2, 3, 4, 5])
  (h0 : E.P.underlying f0.type = some (.int k0)) (h1 : E.P.underlying f1.type = some (.int k1)) (h2 : E.P.underlying f2.type = some (.int k2)) (h3 : E.P.underlying f3.type = some (.int k3)) (h4 : E.P.underlying f4.type = some (.int k4)) (h5 : E.P.underlying f5.type = some (.int k5))
  (g0 : isAggV E.P f0.type = some false) (g1 : isAggV E.P f1.type = some false) (g2 : isAggV E.P f2.type = some false) (g3 : isAggV E.P f3.type = some false) (g4 : isAggV E.P f4.type = some false) (g5 : isAggV E.P f5.type = some false) :
  eqV E 200 t (.agg [.int k0 a0, .int k1 a1, .int k2 a2, .int k3 a3, .int k4 a4, .int k5 a5]) (.agg [.int k0 b0, .int k1 b1, .int k2 b2, .int k3 b3, .int k4 b4, .int k5 b5]) = some (decide (a0 = b0 ∧ a1 = b1 ∧ a2 = b2 ∧ a3 = b3 ∧ a4 = b4 ∧ a5 = b5)) := by
 simp only [List.map_cons, List.map_nil, List.cons.injEq, and_true] at ho
 obtain ⟨o0, o1, o2, o3, o4, o5⟩ := ho
 simp only [List.all_cons, List.all_nil, Bool.and_true, Bool.and_eq_true, Bool.not_eq_true'] at hn
 obtain ⟨n0, n1, n2, n3, n4, n5⟩ := hn
 rw [eqV_struct hu hc]
 show eqFields E 199 [f0, f1, f2, f3, f4, f5] _ _ = _
 rw [eqF_int n0 g0 h0 (by rw [o0]; rfl) (by rw [o0]; rfl), eqF_int n1 g1 h1 (by rw [o1]; rfl) (by rw [o1]; rfl), eqF_int n2 g2 h2 (by rw [o2]; rfl) (by rw [o2]; rfl),
  eqF_int n3 g3 h3 (by rw [o3]; rfl) (by rw [o3]; rfl), eqF_int n4 g4 h4 (by rw [o4]; rfl) (by rw [o4]; rfl), eqF_int n5 g5 h5 (by rw [o5]; rfl) (by rw [o5]; rfl), eqF_nil]
 by_cases c0 : a0 = b0 <;> by_cases c1 : a1 = b1 <;> by_cases c2 : a2 = b2 <;> by_cases c3 : a3 = b3 <;> by_cases c4 : a4 = b4 <;> by_cases c5 : a5 = b5 <;> simp [c0, c1, c2, c3, c4, c5]
end
end Go.Sim
end
