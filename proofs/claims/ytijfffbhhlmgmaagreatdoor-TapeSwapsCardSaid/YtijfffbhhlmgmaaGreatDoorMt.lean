/-
  Tapes: their parts, by their contents.
  Tapes as arguments, by their contents.
  Tapes as arguments, by their contents, and how long their lists can be. Printed by program.
  Tapes: lists that memory holds.
  Tapes: how their parts lie in cells, for simp.
  How two tapes differ.
  How many parts a tape has, as far as they are counted.
  Grants as a map's entries; which tapes may be.
  Two tapes differ in the same whichever comes first; a tape and its beginning.
-/
import Derived.Test.YtijfffbhhlmgmaaGreatDoorMe
section
namespace Go.Sim.Tape
open Go Go.Sim
set_option linter.unusedVariables false
set_option linter.unusedSimpArgs false
abbrev u32V (x : UInt32) : V := .int .u32 (x.toNat : Int)
abbrev u8V (x : UInt8) : V := .int .u8 (x.toNat : Int)
abbrev u64V (x : UInt64) : V := .int .u64 (x.toNat : Int)
structure Wr where
  at_ : UInt32
  bytes : List UInt8
  deriving Inhabited, DecidableEq
def eWr : Enc Wr where
  enc x := [u32V x.at_, bs x.bytes]
  k := 2
  pos := by omega
  len _ := rfl
  canon _ := by simp [V.canonL, V.canon]
  flat _ := by simp [V.flatL, V.flat]
  ok _ := rfl
structure Rp where
  val : UInt32
  writes : List Wr
  deriving Inhabited, DecidableEq
def eRp : Enc Rp where
  enc x := [u32V x.val, lst eWr x.writes]
  k := 2
  pos := by omega
  len _ := rfl
  canon _ := by simp [V.canonL, V.canon]
  flat _ := by simp [V.flatL, V.flat]
  ok _ := rfl
structure Ev where
  at_ : UInt32
  num : UInt32
  args : List UInt32
  val : UInt32
  deriving Inhabited, DecidableEq
def eEv : Enc Ev where
  enc x := [u32V x.at_, u32V x.num, ws x.args, u32V x.val]
  k := 4
  pos := by omega
  len _ := rfl
  canon _ := by simp [V.canonL, V.canon]
  flat _ := by simp [V.flatL, V.flat]
  ok _ := rfl
structure Rs where
  fin : UInt8
  at_ : UInt32
  val : UInt32
  fault : UInt8
  used : Int
  nrep : Int
  events : List Ev
  ask : Ev
  deriving Inhabited, DecidableEq
def eRs : Enc Rs where
  enc x := [u8V x.fin, u32V x.at_, u32V x.val, u8V x.fault, .int .i64 x.used, .int .i64 x.nrep, lst eEv x.events, u32V x.ask.at_, u32V x.ask.num, ws x.ask.args, u32V x.ask.val]
  k := 11
  pos := by omega
  len _ := rfl
  canon _ := by simp [V.canonL, V.canon]
  flat _ := by simp [V.flatL, V.flat]
  ok _ := rfl
structure Tk where
  kind : UInt8
  at_ : UInt32
  args : List UInt32
  fuel : Int
  reps : List Rp
  res : Rs
  deriving Inhabited, DecidableEq
def eTk : Enc Tk where
  enc x := [u8V x.kind, u32V x.at_, ws x.args, .int .i64 x.fuel, lst eRp x.reps] ++ eRs.enc x.res
  k := 16
  pos := by omega
  len _ := rfl
  canon _ := by simp [V.canonL, V.canon, eRs]
  flat _ := by simp [V.flatL, V.flat, eRs]
  ok _ := rfl
structure Gr where
  num : UInt32
  args : Int
  deriving Inhabited, DecidableEq
def eGr : Enc Gr where
  enc x := [u32V x.num, .int .i64 x.args]
  k := 2
  pos := by omega
  len _ := rfl
  canon _ := by simp [V.canonL, V.canon]
  flat _ := by simp [V.flatL, V.flat]
  ok _ := rfl
structure Tp where
  module : UInt64
  grants : List Gr
  takes : List Tk
  deriving Inhabited, DecidableEq
def tpV (x : Tp) : V := .agg [u64V x.module, lst eGr x.grants, lst eTk x.takes]
end Go.Sim.Tape
end
section
namespace Go.Sim.Tape
open Go Go.Sim Go.RowKit Go.ChangeShapes Go.WideShapes Go.Deep
set_option linter.unusedVariables false
set_option linter.unusedSimpArgs false
section
variable {H : Type} (enc : TypeId × Value → H) (P : Program) (W : World)
def Dec {α : Type} (t : TypeId) (k : Nat) (e : α → List V) : Prop :=
  P.cellsOf t = k ∧ ∀ n cs x, DataW.trod enc P W 0 (fun _ => true) true n t cs = some x → ∃ a : α, ORelL (fun b _ => b < W.heap.size) W Bd.none_ (e a) cs
variable {enc P W}
theorem orel_one {v : V} {c : Value} (h1 : one c = true) (h : VRel (fun b _ => b < W.heap.size) W Bd.none_ v c) : ORelL (fun b _ => b < W.heap.size) W Bd.none_ [v] [c] := by
  simp only [ORelL]; exact ⟨c, [], rfl, h1, h, rfl⟩
theorem dec_u8 {t : TypeId} (hu : P.underlying t = some (.int .u8)) (hc : P.cellsOf t = 1) : Dec enc P W t 1 (fun a : UInt8 => [u8V a]) := by
  refine ⟨hc, fun n cs x h => ?_⟩
  obtain ⟨m, rfl, _, hw⟩ := DataW.trod_int hu h
  refine ⟨UInt8.ofNat m.toNat, orel_one rfl ?_⟩
  simp only [VRel]
  congr 1
  simp [Lit.wf, IntKind.min, IntKind.max] at hw
  simp only [UInt8.toNat_ofNat']; omega
theorem dec_u32 {t : TypeId} (hu : P.underlying t = some (.int .u32)) (hc : P.cellsOf t = 1) : Dec enc P W t 1 (fun a : UInt32 => [u32V a]) := by
  refine ⟨hc, fun n cs x h => ?_⟩
  obtain ⟨m, rfl, _, hw⟩ := DataW.trod_int hu h
  refine ⟨UInt32.ofNat m.toNat, orel_one rfl ?_⟩
  simp only [VRel]
  congr 1
  simp [Lit.wf, IntKind.min, IntKind.max] at hw
  simp only [UInt32.toNat_ofNat']; omega
theorem dec_u64 {t : TypeId} (hu : P.underlying t = some (.int .u64)) (hc : P.cellsOf t = 1) : Dec enc P W t 1 (fun a : UInt64 => [u64V a]) := by
  refine ⟨hc, fun n cs x h => ?_⟩
  obtain ⟨m, rfl, _, hw⟩ := DataW.trod_int hu h
  refine ⟨UInt64.ofNat m.toNat, orel_one rfl ?_⟩
  simp only [VRel]
  congr 1
  simp [Lit.wf, IntKind.min, IntKind.max] at hw
  simp only [UInt64.toNat_ofNat']; omega
theorem dec_int {t : TypeId} (hu : P.underlying t = some (.int .i64)) (hc : P.cellsOf t = 1) : Dec enc P W t 1 (fun a : Int => [.int .i64 a]) := by
  refine ⟨hc, fun n cs x h => ?_⟩
  obtain ⟨m, rfl, _, hw⟩ := DataW.trod_int hu h
  exact ⟨m, orel_one rfl (by simp only [VRel])⟩
theorem take_one {α : Type} {A : List V} {cs : List Value} {o k n : Nat} {t : TypeId} {e : α → List V} {x : Option (DataW H × List MemPlace)} (hA : ORelL (fun b _ => b < W.heap.size) W Bd.none_ A (cs.take o)) (hd : Dec enc P W t k e)
    (h : DataW.trod enc P W 0 (fun _ => true) true n t ((cs.drop o).take (P.cellsOf t)) = x) (hx : x.isSome = true) : ∃ a : α, ORelL (fun b _ => b < W.heap.size) W Bd.none_ (A ++ e a) (cs.take (o + k)) := by
  obtain ⟨y, rfl⟩ := Option.isSome_iff_exists.1 hx
  obtain ⟨a, ha⟩ := hd.2 n _ _ h
  refine ⟨a, ?_⟩
  rw [hd.1] at ha
  rw [List.take_add]
  exact hA.append ha
theorem take_none {cs : List Value} : ORelL (fun b _ => b < W.heap.size) W Bd.none_ [] (cs.take 0) := by simp [ORelL]
theorem dec_two {α β : Type} {t : TypeId} {f0 f1 : Field} {k0 k1 : Nat} {e0 : α → List V} {e1 : β → List V} (hu : P.underlying t = some (.struct #[f0, f1])) (hc : P.cellsOf t = k0 + k1) (o0 : f0.offset = 0) (o1 : f1.offset = 0 + k0)
    (d0 : Dec enc P W f0.type k0 e0) (d1 : Dec enc P W f1.type k1 e1) : Dec enc P W t (k0 + k1) (fun x : α × β => e0 x.1 ++ e1 x.2) := by
  refine ⟨hc, fun n cs x h => ?_⟩
  obtain ⟨xs, n', rfl, _, hl, hxl, hf⟩ := DataW.trod_struct hu h
  have hs : ∀ i, i < 2 → (xs[i]?).isSome = true := fun i hi => by rw [List.getElem?_eq_getElem (by rw [hxl]; exact hi)]; rfl
  have g0 := hf 0 f0 rfl
  have g1 := hf 1 f1 rfl
  rw [o0] at g0; rw [o1] at g1
  obtain ⟨a, h0⟩ := take_one (take_none (W := W) (cs := cs)) d0 g0 (hs 0 (by omega))
  obtain ⟨b, h1⟩ := take_one h0 d1 g1 (hs 1 (by omega))
  rw [List.take_of_length_le (by omega)] at h1
  exact ⟨(a, b), by simpa using h1⟩
theorem Dec.map {α β : Type} {t : TypeId} {k : Nat} {e : α → List V} {e' : β → List V} (h : Dec enc P W t k e) (f : α → β) (he : ∀ a, e' (f a) = e a) : Dec enc P W t k e' :=
  ⟨h.1, fun n cs x hx => by obtain ⟨a, ha⟩ := h.2 n cs x hx; exact ⟨f a, by rw [he]; exact ha⟩⟩
end
end Go.Sim.Tape
end
section
namespace Go.Sim.Tape
open Go Go.Sim Go.RowKit Go.ChangeShapes Go.WideShapes Go.Deep
set_option linter.unusedVariables false
set_option linter.unusedSimpArgs false
section
variable {H : Type} (enc : TypeId × Value → H) (P : Program) (W : World)
def Light (t : TypeId) (d : DataW H) : Prop := ∀ y ∈ d.weights P t, y ≤ 140737488351232
def DecW {α : Type} (t : TypeId) (k : Nat) (e : α → List V) (fit : α → Prop) : Prop :=
  P.cellsOf t = k ∧ ∀ n cs x, DataW.trod enc P W 0 (fun _ => true) true n t cs = some x → ∃ a : α, ORelL (fun b _ => b < W.heap.size) W Bd.none_ (e a) cs ∧ (Light P t x.1 → fit a)
variable {enc P W}
theorem Dec.light {α : Type} {t : TypeId} {k : Nat} {e : α → List V} (h : Dec enc P W t k e) : DecW enc P W t k e (fun _ => True) :=
  ⟨h.1, fun n cs x hx => by obtain ⟨a, ha⟩ := h.2 n cs x hx; exact ⟨a, ha, fun _ => trivial⟩⟩
theorem weightsAll_mem {t : TypeId} {d : DataW H} {y : Nat} : ∀ {ds : List (DataW H)}, d ∈ ds → y ∈ d.weights P t → y ∈ DataW.weightsAll P t ds
  | [], h, _ => by simp at h
  | d0 :: r, h, hy => by
    simp only [DataW.weightsAll, List.mem_append]
    rcases List.mem_cons.1 h with rfl | h
    · exact .inl hy
    · exact .inr (weightsAll_mem h hy)
theorem list_relW {α : Type} [Inhabited α] (E : Enc α) {fit : α → Prop} {t e : TypeId} {n : Nat} {v : Value} {x : DataW H × List MemPlace} (ht : P.underlying t = some (.slice e)) (hce : P.cellsOf e = E.k)
    (hel : ∀ n cs x, DataW.trod enc P W 0 (fun _ => true) true n e cs = some x → ∃ a : α, ORelL (fun b _ => b < W.heap.size) W Bd.none_ (E.enc a) cs ∧ (Light P e x.1 → fit a))
    (hT : DataW.trod enc P W 0 (fun _ => true) true n t [v] = some x) :
    ∃ l : List α, one v = true ∧ VRel (fun b _ => b < W.heap.size) W Bd.none_ (lst E l) v ∧ (Light P t x.1 → l.length * P.bytesOf e ≤ 140737488351232 ∧ ∀ a ∈ l, fit a) := by
  rcases open_slice ht hT with ⟨h1, h2⟩ | ⟨a, len, cap, m, n', D, Pl, h1, _, h2, h3, h4, h5, h6⟩
  · simp only [List.cons.injEq, and_true] at h1
    subst h1
    exact ⟨[], rfl, by simp [VRel, lst], fun _ => by simp⟩
  · simp only [List.cons.injEq, and_true] at h1
    subst h1
    simp only [if_true] at h4
    subst h4
    subst h5
    have hk := E.pos
    have hplain : 0 < m → a.spot = none := by
      intro hm
      obtain ⟨cs', hc1, _⟩ := h6 0 hm
      obtain ⟨_, hl, hget⟩ := World.cells?_some hc1
      have h0 := hget 0 (by omega)
      have e0 : (a.add (0 * P.cellsOf e)).add 0 = a := by simp [Addr.add]
      rw [e0] at h0
      cases hc : cs'[0]? with
      | none => rw [List.getElem?_eq_none_iff] at hc; omega
      | some c =>
        rw [hc] at h0
        unfold World.cell? at h0
        split at h0
        · split at h0
          · cases h0
          · rename_i hs; simpa using hs
        · cases h0
    have ha : 0 < m → a = ⟨a.block, a.off, none⟩ := fun hm => by
      have := hplain hm
      cases a
      simp_all
    have hx : ∃ f : Nat → α, ∀ i, i < m → (∀ g u, (E.enc (f i))[g]? = some u → ∃ c, W.cell? ⟨a.block, a.off + i * E.k + g, none⟩ = some c ∧ one c = true ∧ VRel (fun b _ => b < W.heap.size) W Bd.none_ u c) ∧ (Light P e (D i) → fit (f i)) := by
      have hb : ∀ i, i < m → ∃ y : α, (∀ g u, (E.enc y)[g]? = some u → ∃ c, W.cell? ⟨a.block, a.off + i * E.k + g, none⟩ = some c ∧ one c = true ∧ VRel (fun b _ => b < W.heap.size) W Bd.none_ u c) ∧ (Light P e (D i) → fit y) := by
        intro i hi
        obtain ⟨cs', hc1, hc2⟩ := h6 i hi
        obtain ⟨y, hy, hfit⟩ := hel _ _ _ hc2
        obtain ⟨_, hl, hget⟩ := World.cells?_some hc1
        refine ⟨y, fun g u hg => ?_, hfit⟩
        obtain ⟨c, hcs, hone, hrel⟩ := hy.get hg
        refine ⟨c, ?_, hone, hrel⟩
        have hgl : g < P.cellsOf e := by
          have := (List.getElem?_eq_some_iff.1 hg).1
          rw [hce, ← E.len y]; exact this
        have := hget g hgl
        rw [ha (by omega), hce, add_none, add_none, hcs] at this
        exact this
      refine ⟨fun i => if h : i < m then (hb i h).choose else default, fun i hi => ?_⟩
      simp only [hi, dif_pos]
      exact (hb i hi).choose_spec
    obtain ⟨f, hf⟩ := hx
    refine ⟨(List.range len).map f, rfl, ?_, fun hlt => ?_⟩
    · have hlen : ((List.range len).map f).length = len := by simp
      simp only [lst, VRel, hlen]
      have hcell : ∀ g u, (cat E ((List.range len).map f))[g]? = some u → ∃ c, W.cell? ⟨a.block, a.off + g, none⟩ = some c ∧ one c = true ∧ VRel (fun b _ => b < W.heap.size) W Bd.none_ u c := by
        intro g u hg
        have hdm : g / E.k * E.k + g % E.k = g := by rw [Nat.mul_comm]; exact Nat.div_add_mod g E.k
        rw [← hdm, cat_get E _ _ _ (Nat.mod_lt _ hk)] at hg
        obtain ⟨y, hy, hg⟩ := Option.bind_eq_some_iff.1 hg
        have hj : g / E.k < len := by have := (List.getElem?_eq_some_iff.1 hy).1; simpa using this
        simp [List.getElem?_map, List.getElem?_range hj] at hy
        subst hy
        have := (hf (g / E.k) (by omega)).1 (g % E.k) u hg
        rw [show a.off + g / E.k * E.k + g % E.k = a.off + g by omega] at this
        exact this
      refine .inl ⟨a.block, a.off, m, a, rfl, h2, by simp, fun hm => ha hm, crel_of' (fun h _ => h) _ _ hcell⟩
    · unfold Light DataW.weights at hlt
      simp only [ht] at hlt
      refine ⟨?_, fun y hy => ?_⟩
      · have := hlt _ List.mem_cons_self
        simp only [List.length_map, List.length_range] at this ⊢
        exact Nat.le_trans (Nat.mul_le_mul_right _ (by omega)) this
      · obtain ⟨i, hi, rfl⟩ := List.mem_map.1 hy
        have hi := List.mem_range.1 hi
        refine (hf i (by omega)).2 fun z hz => hlt z ?_
        refine List.mem_cons_of_mem _ (List.mem_append.2 (.inl (weightsAll_mem (d := D i) ?_ hz)))
        exact List.mem_map.2 ⟨i, List.mem_range.2 hi, rfl⟩
theorem decW_list {α : Type} [Inhabited α] (E : Enc α) {fit : α → Prop} {t e : TypeId} (ht : P.underlying t = some (.slice e)) (hc : P.cellsOf t = 1) (he : DecW enc P W e E.k E.enc fit) :
    DecW enc P W t 1 (fun l : List α => [lst E l]) (fun l => l.length * P.bytesOf e ≤ 140737488351232 ∧ ∀ a ∈ l, fit a) := by
  refine ⟨hc, fun n cs x h => ?_⟩
  have hcs : ∃ v, cs = [v] := by
    rcases open_slice ht h with ⟨h1, _⟩ | ⟨a, len, cap, m, n', D, Pl, h1, _⟩
    · exact ⟨_, h1⟩
    · exact ⟨_, h1⟩
  obtain ⟨v, rfl⟩ := hcs
  obtain ⟨l, h1, h2, h3⟩ := list_relW E ht he.1 he.2 h
  exact ⟨l, orel_one h1 h2, h3⟩
theorem take_oneW {α : Type} {fit : α → Prop} {A : List V} {cs : List Value} {o k n : Nat} {t : TypeId} {e : α → List V} {x : Option (DataW H × List MemPlace)} (hA : ORelL (fun b _ => b < W.heap.size) W Bd.none_ A (cs.take o)) (hd : DecW enc P W t k e fit)
    (h : DataW.trod enc P W 0 (fun _ => true) true n t ((cs.drop o).take (P.cellsOf t)) = x) (hx : x.isSome = true) : ∃ (a : α) (y : DataW H × List MemPlace), x = some y ∧ ORelL (fun b _ => b < W.heap.size) W Bd.none_ (A ++ e a) (cs.take (o + k)) ∧ (Light P t y.1 → fit a) := by
  obtain ⟨y, rfl⟩ := Option.isSome_iff_exists.1 hx
  obtain ⟨a, ha, hf⟩ := hd.2 n _ _ h
  refine ⟨a, y, rfl, ?_, hf⟩
  rw [hd.1] at ha
  rw [List.take_add]
  exact hA.append ha
theorem light_each {fs : Array Field} {xs : List (DataW H × List MemPlace)} {t : TypeId} {q : List MemPlace} (hu : P.underlying t = some (.struct fs)) (h : Light P t (DataW.agg (xs.map (·.1)))) {i : Nat} {f : Field} {y : DataW H × List MemPlace} (hf : fs[i]? = some f) (hy : xs[i]? = some y) : Light P f.type y.1 := by
  intro z hz
  refine h z ?_
  unfold DataW.weights
  simp only [hu]
  exact weight_each (j := i) (by simp [hf]) (by simp [hy]) hz
theorem DecW.map {α β : Type} {t : TypeId} {k : Nat} {e : α → List V} {e' : β → List V} {fit : α → Prop} {fit' : β → Prop} (h : DecW enc P W t k e fit) (f : α → β) (he : ∀ a, e' (f a) = e a) (hf : ∀ a, fit a → fit' (f a)) : DecW enc P W t k e' fit' :=
  ⟨h.1, fun n cs x hx => by obtain ⟨a, ha, hl⟩ := h.2 n cs x hx; exact ⟨f a, by rw [he]; exact ha, fun h => hf _ (hl h)⟩⟩
theorem decW_two {α0 α1 : Type} {t : TypeId} {f0 f1 : Field} {k0 k1 : Nat} {e0 : α0 → List V} {p0 : α0 → Prop} {e1 : α1 → List V} {p1 : α1 → Prop} (hu : P.underlying t = some (.struct #[f0, f1])) (hc : P.cellsOf t = k0 + k1)
    (o0 : f0.offset = 0) (o1 : f1.offset = 0 + k0)
    (d0 : DecW enc P W f0.type k0 e0 p0) (d1 : DecW enc P W f1.type k1 e1 p1) : DecW enc P W t (k0 + k1) (fun x : α0 × α1 => e0 x.1 ++ e1 x.2) (fun x => p0 x.1 ∧ p1 x.2) := by
  refine ⟨hc, fun n cs x h => ?_⟩
  obtain ⟨xs, n', rfl, rfl, hl, hxl, hf⟩ := DataW.trod_struct hu h
  have hs : ∀ i, i < 2 → (xs[i]?).isSome = true := fun i hi => by rw [List.getElem?_eq_getElem (by rw [hxl]; exact hi)]; rfl
  have g0 := hf 0 f0 rfl
  rw [o0] at g0
  have g1 := hf 1 f1 rfl
  rw [o1] at g1
  obtain ⟨a0, y0, q0, h0, w0⟩ := take_oneW (take_none (W := W) (cs := cs)) d0 g0 (hs 0 (by omega))
  obtain ⟨a1, y1, q1, h1, w1⟩ := take_oneW h0 d1 g1 (hs 1 (by omega))
  rw [List.take_of_length_le (by omega)] at h1
  exact ⟨(a0, a1), by simpa using h1, fun hL => ⟨w0 (light_each (q := []) hu hL (i := 0) rfl q0), w1 (light_each (q := []) hu hL (i := 1) rfl q1)⟩⟩
theorem decW_three {α0 α1 α2 : Type} {t : TypeId} {f0 f1 f2 : Field} {k0 k1 k2 : Nat} {e0 : α0 → List V} {p0 : α0 → Prop} {e1 : α1 → List V} {p1 : α1 → Prop} {e2 : α2 → List V} {p2 : α2 → Prop} (hu : P.underlying t = some (.struct #[f0, f1, f2])) (hc : P.cellsOf t = k0 + k1 + k2)
    (o0 : f0.offset = 0) (o1 : f1.offset = 0 + k0) (o2 : f2.offset = 0 + k0 + k1)
    (d0 : DecW enc P W f0.type k0 e0 p0) (d1 : DecW enc P W f1.type k1 e1 p1) (d2 : DecW enc P W f2.type k2 e2 p2) : DecW enc P W t (k0 + k1 + k2) (fun x : α0 × α1 × α2 => e0 x.1 ++ e1 x.2.1 ++ e2 x.2.2) (fun x => p0 x.1 ∧ p1 x.2.1 ∧ p2 x.2.2) := by
  refine ⟨hc, fun n cs x h => ?_⟩
  obtain ⟨xs, n', rfl, rfl, hl, hxl, hf⟩ := DataW.trod_struct hu h
  have hs : ∀ i, i < 3 → (xs[i]?).isSome = true := fun i hi => by rw [List.getElem?_eq_getElem (by rw [hxl]; exact hi)]; rfl
  have g0 := hf 0 f0 rfl
  rw [o0] at g0
  have g1 := hf 1 f1 rfl
  rw [o1] at g1
  have g2 := hf 2 f2 rfl
  rw [o2] at g2
  obtain ⟨a0, y0, q0, h0, w0⟩ := take_oneW (take_none (W := W) (cs := cs)) d0 g0 (hs 0 (by omega))
  obtain ⟨a1, y1, q1, h1, w1⟩ := take_oneW h0 d1 g1 (hs 1 (by omega))
  obtain ⟨a2, y2, q2, h2, w2⟩ := take_oneW h1 d2 g2 (hs 2 (by omega))
  rw [List.take_of_length_le (by omega)] at h2
  exact ⟨(a0, a1, a2), by simpa using h2, fun hL => ⟨w0 (light_each (q := []) hu hL (i := 0) rfl q0), w1 (light_each (q := []) hu hL (i := 1) rfl q1), w2 (light_each (q := []) hu hL (i := 2) rfl q2)⟩⟩
theorem decW_four {α0 α1 α2 α3 : Type} {t : TypeId} {f0 f1 f2 f3 : Field} {k0 k1 k2 k3 : Nat} {e0 : α0 → List V} {p0 : α0 → Prop} {e1 : α1 → List V} {p1 : α1 → Prop} {e2 : α2 → List V} {p2 : α2 → Prop} {e3 : α3 → List V} {p3 : α3 → Prop} (hu : P.underlying t = some (.struct #[f0, f1, f2, f3])) (hc : P.cellsOf t = k0 + k1 + k2 + k3)
    (o0 : f0.offset = 0) (o1 : f1.offset = 0 + k0) (o2 : f2.offset = 0 + k0 + k1) (o3 : f3.offset = 0 + k0 + k1 + k2)
    (d0 : DecW enc P W f0.type k0 e0 p0) (d1 : DecW enc P W f1.type k1 e1 p1) (d2 : DecW enc P W f2.type k2 e2 p2) (d3 : DecW enc P W f3.type k3 e3 p3) : DecW enc P W t (k0 + k1 + k2 + k3) (fun x : α0 × α1 × α2 × α3 => e0 x.1 ++ e1 x.2.1 ++ e2 x.2.2.1 ++ e3 x.2.2.2) (fun x => p0 x.1 ∧ p1 x.2.1 ∧ p2 x.2.2.1 ∧ p3 x.2.2.2) := by
  refine ⟨hc, fun n cs x h => ?_⟩
  obtain ⟨xs, n', rfl, rfl, hl, hxl, hf⟩ := DataW.trod_struct hu h
  have hs : ∀ i, i < 4 → (xs[i]?).isSome = true := fun i hi => by rw [List.getElem?_eq_getElem (by rw [hxl]; exact hi)]; rfl
  have g0 := hf 0 f0 rfl
  rw [o0] at g0
  have g1 := hf 1 f1 rfl
  rw [o1] at g1
  have g2 := hf 2 f2 rfl
  rw [o2] at g2
  have g3 := hf 3 f3 rfl
  rw [o3] at g3
  obtain ⟨a0, y0, q0, h0, w0⟩ := take_oneW (take_none (W := W) (cs := cs)) d0 g0 (hs 0 (by omega))
  obtain ⟨a1, y1, q1, h1, w1⟩ := take_oneW h0 d1 g1 (hs 1 (by omega))
  obtain ⟨a2, y2, q2, h2, w2⟩ := take_oneW h1 d2 g2 (hs 2 (by omega))
  obtain ⟨a3, y3, q3, h3, w3⟩ := take_oneW h2 d3 g3 (hs 3 (by omega))
  rw [List.take_of_length_le (by omega)] at h3
  exact ⟨(a0, a1, a2, a3), by simpa using h3, fun hL => ⟨w0 (light_each (q := []) hu hL (i := 0) rfl q0), w1 (light_each (q := []) hu hL (i := 1) rfl q1), w2 (light_each (q := []) hu hL (i := 2) rfl q2), w3 (light_each (q := []) hu hL (i := 3) rfl q3)⟩⟩
theorem decW_six {α0 α1 α2 α3 α4 α5 : Type} {t : TypeId} {f0 f1 f2 f3 f4 f5 : Field} {k0 k1 k2 k3 k4 k5 : Nat} {e0 : α0 → List V} {p0 : α0 → Prop} {e1 : α1 → List V} {p1 : α1 → Prop} {e2 : α2 → List V} {p2 : α2 → Prop} {e3 : α3 → List V} {p3 : α3 → Prop} {e4 : α4 → List V} {p4 : α4 → Prop} {e5 : α5 → List V} {p5 : α5 → Prop} (hu : P.underlying t = some (.struct #[f0, f1, f2, f3, f4, f5])) (hc : P.cellsOf t = k0 + k1 + k2 + k3 + k4 + k5)
    (o0 : f0.offset = 0) (o1 : f1.offset = 0 + k0) (o2 : f2.offset = 0 + k0 + k1) (o3 : f3.offset = 0 + k0 + k1 + k2) (o4 : f4.offset = 0 + k0 + k1 + k2 + k3) (o5 : f5.offset = 0 + k0 + k1 + k2 + k3 + k4)
    (d0 : DecW enc P W f0.type k0 e0 p0) (d1 : DecW enc P W f1.type k1 e1 p1) (d2 : DecW enc P W f2.type k2 e2 p2) (d3 : DecW enc P W f3.type k3 e3 p3) (d4 : DecW enc P W f4.type k4 e4 p4) (d5 : DecW enc P W f5.type k5 e5 p5) : DecW enc P W t (k0 + k1 + k2 + k3 + k4 + k5) (fun x : α0 × α1 × α2 × α3 × α4 × α5 => e0 x.1 ++ e1 x.2.1 ++ e2 x.2.2.1 ++ e3 x.2.2.2.1 ++ e4 x.2.2.2.2.1 ++ e5 x.2.2.2.2.2) (fun x => p0 x.1 ∧ p1 x.2.1 ∧ p2 x.2.2.1 ∧ p3 x.2.2.2.1 ∧ p4 x.2.2.2.2.1 ∧ p5 x.2.2.2.2.2) := by
  refine ⟨hc, fun n cs x h => ?_⟩
  obtain ⟨xs, n', rfl, rfl, hl, hxl, hf⟩ := DataW.trod_struct hu h
  have hs : ∀ i, i < 6 → (xs[i]?).isSome = true := fun i hi => by rw [List.getElem?_eq_getElem (by rw [hxl]; exact hi)]; rfl
  have g0 := hf 0 f0 rfl
  rw [o0] at g0
  have g1 := hf 1 f1 rfl
  rw [o1] at g1
  have g2 := hf 2 f2 rfl
  rw [o2] at g2
  have g3 := hf 3 f3 rfl
  rw [o3] at g3
  have g4 := hf 4 f4 rfl
  rw [o4] at g4
  have g5 := hf 5 f5 rfl
  rw [o5] at g5
  obtain ⟨a0, y0, q0, h0, w0⟩ := take_oneW (take_none (W := W) (cs := cs)) d0 g0 (hs 0 (by omega))
  obtain ⟨a1, y1, q1, h1, w1⟩ := take_oneW h0 d1 g1 (hs 1 (by omega))
  obtain ⟨a2, y2, q2, h2, w2⟩ := take_oneW h1 d2 g2 (hs 2 (by omega))
  obtain ⟨a3, y3, q3, h3, w3⟩ := take_oneW h2 d3 g3 (hs 3 (by omega))
  obtain ⟨a4, y4, q4, h4, w4⟩ := take_oneW h3 d4 g4 (hs 4 (by omega))
  obtain ⟨a5, y5, q5, h5, w5⟩ := take_oneW h4 d5 g5 (hs 5 (by omega))
  rw [List.take_of_length_le (by omega)] at h5
  exact ⟨(a0, a1, a2, a3, a4, a5), by simpa using h5, fun hL => ⟨w0 (light_each (q := []) hu hL (i := 0) rfl q0), w1 (light_each (q := []) hu hL (i := 1) rfl q1), w2 (light_each (q := []) hu hL (i := 2) rfl q2), w3 (light_each (q := []) hu hL (i := 3) rfl q3), w4 (light_each (q := []) hu hL (i := 4) rfl q4), w5 (light_each (q := []) hu hL (i := 5) rfl q5)⟩⟩
theorem decW_eight {α0 α1 α2 α3 α4 α5 α6 α7 : Type} {t : TypeId} {f0 f1 f2 f3 f4 f5 f6 f7 : Field} {k0 k1 k2 k3 k4 k5 k6 k7 : Nat} {e0 : α0 → List V} {p0 : α0 → Prop} {e1 : α1 → List V} {p1 : α1 → Prop} {e2 : α2 → List V} {p2 : α2 → Prop} {e3 : α3 → List V} {p3 : α3 → Prop} {e4 : α4 → List V} {p4 : α4 → Prop} {e5 : α5 → List V} {p5 : α5 → Prop} {e6 : α6 → List V} {p6 : α6 → Prop} {e7 : α7 → List V} {p7 : α7 → Prop} (hu : P.underlying t = some (.struct #[f0, f1, f2, f3, f4, f5, f6, f7])) (hc : P.cellsOf t = k0 + k1 + k2 + k3 + k4 + k5 + k6 + k7)
    (o0 : f0.offset = 0) (o1 : f1.offset = 0 + k0) (o2 : f2.offset = 0 + k0 + k1) (o3 : f3.offset = 0 + k0 + k1 + k2) (o4 : f4.offset = 0 + k0 + k1 + k2 + k3) (o5 : f5.offset = 0 + k0 + k1 + k2 + k3 + k4) (o6 : f6.offset = 0 + k0 + k1 + k2 + k3 + k4 + k5) (o7 : f7.offset = 0 + k0 + k1 + k2 + k3 + k4 + k5 + k6)
    (d0 : DecW enc P W f0.type k0 e0 p0) (d1 : DecW enc P W f1.type k1 e1 p1) (d2 : DecW enc P W f2.type k2 e2 p2) (d3 : DecW enc P W f3.type k3 e3 p3) (d4 : DecW enc P W f4.type k4 e4 p4) (d5 : DecW enc P W f5.type k5 e5 p5) (d6 : DecW enc P W f6.type k6 e6 p6) (d7 : DecW enc P W f7.type k7 e7 p7) : DecW enc P W t (k0 + k1 + k2 + k3 + k4 + k5 + k6 + k7) (fun x : α0 × α1 × α2 × α3 × α4 × α5 × α6 × α7 => e0 x.1 ++ e1 x.2.1 ++ e2 x.2.2.1 ++ e3 x.2.2.2.1 ++ e4 x.2.2.2.2.1 ++ e5 x.2.2.2.2.2.1 ++ e6 x.2.2.2.2.2.2.1 ++ e7 x.2.2.2.2.2.2.2) (fun x => p0 x.1 ∧ p1 x.2.1 ∧ p2 x.2.2.1 ∧ p3 x.2.2.2.1 ∧ p4 x.2.2.2.2.1 ∧ p5 x.2.2.2.2.2.1 ∧ p6 x.2.2.2.2.2.2.1 ∧ p7 x.2.2.2.2.2.2.2) := by
  refine ⟨hc, fun n cs x h => ?_⟩
  obtain ⟨xs, n', rfl, rfl, hl, hxl, hf⟩ := DataW.trod_struct hu h
  have hs : ∀ i, i < 8 → (xs[i]?).isSome = true := fun i hi => by rw [List.getElem?_eq_getElem (by rw [hxl]; exact hi)]; rfl
  have g0 := hf 0 f0 rfl
  rw [o0] at g0
  have g1 := hf 1 f1 rfl
  rw [o1] at g1
  have g2 := hf 2 f2 rfl
  rw [o2] at g2
  have g3 := hf 3 f3 rfl
  rw [o3] at g3
  have g4 := hf 4 f4 rfl
  rw [o4] at g4
  have g5 := hf 5 f5 rfl
  rw [o5] at g5
  have g6 := hf 6 f6 rfl
  rw [o6] at g6
  have g7 := hf 7 f7 rfl
  rw [o7] at g7
  obtain ⟨a0, y0, q0, h0, w0⟩ := take_oneW (take_none (W := W) (cs := cs)) d0 g0 (hs 0 (by omega))
  obtain ⟨a1, y1, q1, h1, w1⟩ := take_oneW h0 d1 g1 (hs 1 (by omega))
  obtain ⟨a2, y2, q2, h2, w2⟩ := take_oneW h1 d2 g2 (hs 2 (by omega))
  obtain ⟨a3, y3, q3, h3, w3⟩ := take_oneW h2 d3 g3 (hs 3 (by omega))
  obtain ⟨a4, y4, q4, h4, w4⟩ := take_oneW h3 d4 g4 (hs 4 (by omega))
  obtain ⟨a5, y5, q5, h5, w5⟩ := take_oneW h4 d5 g5 (hs 5 (by omega))
  obtain ⟨a6, y6, q6, h6, w6⟩ := take_oneW h5 d6 g6 (hs 6 (by omega))
  obtain ⟨a7, y7, q7, h7, w7⟩ := take_oneW h6 d7 g7 (hs 7 (by omega))
  rw [List.take_of_length_le (by omega)] at h7
  exact ⟨(a0, a1, a2, a3, a4, a5, a6, a7), by simpa using h7, fun hL => ⟨w0 (light_each (q := []) hu hL (i := 0) rfl q0), w1 (light_each (q := []) hu hL (i := 1) rfl q1), w2 (light_each (q := []) hu hL (i := 2) rfl q2), w3 (light_each (q := []) hu hL (i := 3) rfl q3), w4 (light_each (q := []) hu hL (i := 4) rfl q4), w5 (light_each (q := []) hu hL (i := 5) rfl q5), w6 (light_each (q := []) hu hL (i := 6) rfl q6), w7 (light_each (q := []) hu hL (i := 7) rfl q7)⟩⟩
end
end Go.Sim.Tape
end
section
namespace Go.Sim.Tape
open Go Go.Sim
set_option linter.unusedVariables false
set_option linter.unusedSimpArgs false
structure FWr (x : Wr) : Prop where
  bytes : x.bytes.length ≤ 140737488351232
structure FRp (x : Rp) : Prop where
  writes : x.writes.length * 32 ≤ 140737488351232
  each : ∀ w ∈ x.writes, FWr w
structure FEv (x : Ev) : Prop where
  args : x.args.length * 4 ≤ 140737488351232
structure FRs (x : Rs) : Prop where
  events : x.events.length * 40 ≤ 140737488351232
  each : ∀ e ∈ x.events, FEv e
  ask : FEv x.ask
structure FTk (x : Tk) : Prop where
  args : x.args.length * 4 ≤ 140737488351232
  reps : x.reps.length * 32 ≤ 140737488351232
  each : ∀ r ∈ x.reps, FRp r
  res : FRs x.res
structure FTp (x : Tp) : Prop where
  grants : x.grants.length * 16 ≤ 140737488351232
  takes : x.takes.length * 160 ≤ 140737488351232
  each : ∀ k ∈ x.takes, FTk k
end Go.Sim.Tape
end
section
namespace Go.Sim.Tape
open Go Go.Sim
set_option linter.unusedVariables false
set_option linter.unusedSimpArgs false
@[simp] theorem eWr_k : eWr.k = 2 := rfl
@[simp] theorem eWr_enc (x : Wr) : eWr.enc x = [u32V x.at_, bs x.bytes] := rfl
@[simp] theorem fold_eWr (l : List Wr) : V.scon (cat eWr l) 0 l.length false = lst eWr l := rfl
@[simp] theorem eRp_k : eRp.k = 2 := rfl
@[simp] theorem eRp_enc (x : Rp) : eRp.enc x = [u32V x.val, lst eWr x.writes] := rfl
@[simp] theorem cut_eRp (l : List Rp) : cutCells (cat eRp l) 0 l.length 2 = cat eRp l := cut_all eRp rfl rfl
@[simp] theorem fold_eRp (l : List Rp) : V.scon (cat eRp l) 0 l.length false = lst eRp l := rfl
@[simp] theorem eEv_k : eEv.k = 4 := rfl
@[simp] theorem eEv_enc (x : Ev) : eEv.enc x = [u32V x.at_, u32V x.num, ws x.args, u32V x.val] := rfl
@[simp] theorem cut_eEv (l : List Ev) : cutCells (cat eEv l) 0 l.length 4 = cat eEv l := cut_all eEv rfl rfl
@[simp] theorem fold_eEv (l : List Ev) : V.scon (cat eEv l) 0 l.length false = lst eEv l := rfl
@[simp] theorem eRs_k : eRs.k = 11 := rfl
@[simp] theorem eRs_enc (x : Rs) : eRs.enc x = [u8V x.fin, u32V x.at_, u32V x.val, u8V x.fault, .int .i64 x.used, .int .i64 x.nrep, lst eEv x.events, u32V x.ask.at_, u32V x.ask.num, ws x.ask.args, u32V x.ask.val] := rfl
@[simp] theorem fold_eRs (l : List Rs) : V.scon (cat eRs l) 0 l.length false = lst eRs l := rfl
@[simp] theorem eTk_k : eTk.k = 16 := rfl
@[simp] theorem eTk_enc (x : Tk) : eTk.enc x = [u8V x.kind, u32V x.at_, ws x.args, .int .i64 x.fuel, lst eRp x.reps, u8V x.res.fin, u32V x.res.at_, u32V x.res.val, u8V x.res.fault, .int .i64 x.res.used, .int .i64 x.res.nrep, lst eEv x.res.events, u32V x.res.ask.at_, u32V x.res.ask.num, ws x.res.ask.args, u32V x.res.ask.val] := rfl
@[simp] theorem cut_eTk (l : List Tk) : cutCells (cat eTk l) 0 l.length 16 = cat eTk l := cut_all eTk rfl rfl
@[simp] theorem fold_eTk (l : List Tk) : V.scon (cat eTk l) 0 l.length false = lst eTk l := rfl
@[simp] theorem eGr_k : eGr.k = 2 := rfl
@[simp] theorem eGr_enc (x : Gr) : eGr.enc x = [u32V x.num, .int .i64 x.args] := rfl
@[simp] theorem plain_eGr (l : List Gr) : V.plainL (cat eGr l) = true := cat_plain eGr (fun _ => by simp [eGr]) l
@[simp] theorem take_eGr (l : List Gr) (n : Nat) : (cat eGr l).take (n * 2) = cat eGr (l.take n) := cat_take eGr l n
@[simp] theorem cut_eGr (l : List Gr) : cutCells (cat eGr l) 0 l.length 2 = cat eGr l := cut_all eGr rfl rfl
@[simp] theorem fold_eGr (l : List Gr) : V.scon (cat eGr l) 0 l.length false = lst eGr l := rfl
end Go.Sim.Tape
end
section
namespace Go.Sim.Tape
open Go Go.Sim
set_option linter.unusedVariables false
set_option linter.unusedSimpArgs false
def comm {α : Type} [DecidableEq α] : List α → List α → Nat
  | x :: a, y :: b => if x = y then comm a b + 1 else 0
  | _, _ => 0
theorem comm_at {α : Type} [DecidableEq α] : ∀ (n : Nat) {a b : List α}, a.take n = b.take n → n ≤ a.length → n ≤ b.length → (∀ (h1 : n < a.length) (h2 : n < b.length), a[n] ≠ b[n]) → comm a b = n
  | 0, [], b, _, _, _, _ => by cases b <;> rfl
  | 0, x :: a, [], _, _, _, _ => rfl
  | 0, x :: a, y :: b, _, _, _, h => by
    have := h (by simp) (by simp)
    simp only [List.getElem_cons_zero] at this
    show (if x = y then comm a b + 1 else 0) = 0
    rw [if_neg this]
  | n + 1, [], b, _, h, _, _ => by simp at h
  | n + 1, x :: a, [], _, _, h, _ => by simp at h
  | n + 1, x :: a, y :: b, ht, ha, hb, h => by
    simp only [List.take_succ_cons, List.cons.injEq] at ht
    simp only [List.length_cons] at ha hb
    have ih := comm_at n ht.2 (by omega) (by omega) fun h1 h2 => by
      have := h (by simp; omega) (by simp; omega)
      simpa using this
    show (if x = y then comm a b + 1 else 0) = n + 1
    rw [if_pos ht.1, ih]
def resF (a b : Rs) : Nat × Nat :=
  if ¬ (a.fin = b.fin ∧ a.at_ = b.at_) then (4, 0) else if ¬ (a.val = b.val ∧ a.fault = b.fault) then (5, 0) else if ¬ (a.used = b.used ∧ a.nrep = b.nrep) then (6, 0)
  else if a.events ≠ b.events then (7, comm a.events b.events) else if a.ask ≠ b.ask then (8, 0) else (0, 0)
theorem resF_same (a : Rs) : resF a a = (0, 0) := by simp [resF]
theorem resF_lt (a b : Rs) : (resF a b).1 < 9 := by
  unfold resF
  repeat' split
  all_goals simp
def callEq (x y : Tk) : Bool := decide (x.kind = y.kind ∧ x.at_ = y.at_ ∧ x.fuel = y.fuel ∧ x.args = y.args ∧ x.reps = y.reps)
theorem callEq_same (x : Tk) : callEq x x = true := by simp [callEq]
def cmpTakes : List Tk → List Tk → Nat → Nat × Nat × Nat
  | x :: a, y :: b, i => if callEq x y then (if (resF x.res y.res).1 = 0 then cmpTakes a b (i + 1) else ((resF x.res y.res).1, i, (resF x.res y.res).2)) else (2, i, 0)
  | [], [], _ => (0, 0, 0)
  | _, _, i => (9, i, 0)
def cmpF (a b : Tp) : Nat × Nat × Nat := if a.module = b.module ∧ a.grants = b.grants then cmpTakes a.takes b.takes 0 else (1, 0, 0)
theorem cmpTakes_same : ∀ (a : List Tk) (i : Nat), cmpTakes a a i = (0, 0, 0)
  | [], i => rfl
  | x :: a, i => by
    simp only [cmpTakes, callEq_same, resF_same, if_true]
    exact cmpTakes_same a (i + 1)
theorem cmpF_same (a : Tp) : cmpF a a = (0, 0, 0) := by simp [cmpF, cmpTakes_same]
theorem cmp_step {a b : List Tk} {n : Nat} (h1 : n < a.length) (h2 : n < b.length) : cmpTakes (a.drop n) (b.drop n) n =
    if callEq a[n] b[n] then (if (resF a[n].res b[n].res).1 = 0 then cmpTakes (a.drop (n + 1)) (b.drop (n + 1)) (n + 1) else ((resF a[n].res b[n].res).1, n, (resF a[n].res b[n].res).2)) else (2, n, 0) := by
  rw [List.drop_eq_getElem_cons h1, List.drop_eq_getElem_cons h2]
  rfl
theorem cmp_end {a b : List Tk} {n : Nat} (h : n = min a.length b.length) : cmpTakes (a.drop n) (b.drop n) n = if a.length = b.length then (0, 0, 0) else (9, n, 0) := by
  by_cases he : a.length = b.length
  · rw [if_pos he, List.drop_of_length_le (by omega), List.drop_of_length_le (by omega)]; rfl
  · rw [if_neg he]
    rcases Nat.lt_or_ge a.length b.length with hl | hl
    · rw [List.drop_of_length_le (by omega : a.length ≤ n), List.drop_eq_getElem_cons (by omega : n < b.length)]; rfl
    · rw [List.drop_of_length_le (by omega : b.length ≤ n), List.drop_eq_getElem_cons (by omega : n < a.length)]; rfl
end Go.Sim.Tape
end
section
namespace Go.Sim.Tape
open Go Go.Sim
set_option linter.unusedVariables false
set_option linter.unusedSimpArgs false
def writesL : List Wr → Nat → Nat
  | w :: r, n => if n < 4194304 then writesL r (n + w.bytes.length) else n
  | [], n => n
def repsL : List Rp → Nat → Nat
  | w :: r, n => if n < 4194304 then repsL r (writesL w.writes (n + w.writes.length)) else n
  | [], n => n
def evsL : List Ev → Nat → Nat
  | w :: r, n => if n < 4194304 then evsL r (n + w.args.length) else n
  | [], n => n
def takeN (k : Tk) (n : Nat) : Nat := n + 1 + k.args.length + k.reps.length + k.res.events.length + k.res.ask.args.length
def takesL : List Tk → Nat → Nat
  | k :: r, n => if n < 4194304 then takesL r (evsL k.res.events (repsL k.reps (takeN k n))) else n
  | [], n => n
def heavyF (t : Tp) : Bool := decide (4194304 ≤ takesL t.takes 0)
theorem writes_step {l : List Wr} {i n : Nat} (h : i < l.length) (hn : n < 4194304) : writesL (l.drop i) n = writesL (l.drop (i + 1)) (n + l[i].bytes.length) := by
  rw [List.drop_eq_getElem_cons h, writesL, if_pos hn]
theorem reps_step {l : List Rp} {i n : Nat} (h : i < l.length) (hn : n < 4194304) : repsL (l.drop i) n = repsL (l.drop (i + 1)) (writesL l[i].writes (n + l[i].writes.length)) := by
  rw [List.drop_eq_getElem_cons h, repsL, if_pos hn]
theorem evs_step {l : List Ev} {i n : Nat} (h : i < l.length) (hn : n < 4194304) : evsL (l.drop i) n = evsL (l.drop (i + 1)) (n + l[i].args.length) := by
  rw [List.drop_eq_getElem_cons h, evsL, if_pos hn]
theorem takes_step {l : List Tk} {i n : Nat} (h : i < l.length) (hn : n < 4194304) : takesL (l.drop i) n = takesL (l.drop (i + 1)) (evsL l[i].res.events (repsL l[i].reps (takeN l[i] n))) := by
  rw [List.drop_eq_getElem_cons h, takesL, if_pos hn]
theorem writes_end {l : List Wr} {i n : Nat} (h : ¬ (i < l.length ∧ n < 4194304)) : writesL (l.drop i) n = n := by
  by_cases hi : i < l.length
  · rw [List.drop_eq_getElem_cons hi, writesL, if_neg (fun hn => h ⟨hi, hn⟩)]
  · rw [List.drop_of_length_le (by omega)]; rfl
theorem reps_end {l : List Rp} {i n : Nat} (h : ¬ (i < l.length ∧ n < 4194304)) : repsL (l.drop i) n = n := by
  by_cases hi : i < l.length
  · rw [List.drop_eq_getElem_cons hi, repsL, if_neg (fun hn => h ⟨hi, hn⟩)]
  · rw [List.drop_of_length_le (by omega)]; rfl
theorem evs_end {l : List Ev} {i n : Nat} (h : ¬ (i < l.length ∧ n < 4194304)) : evsL (l.drop i) n = n := by
  by_cases hi : i < l.length
  · rw [List.drop_eq_getElem_cons hi, evsL, if_neg (fun hn => h ⟨hi, hn⟩)]
  · rw [List.drop_of_length_le (by omega)]; rfl
theorem takes_end {l : List Tk} {i n : Nat} (h : ¬ (i < l.length ∧ n < 4194304)) : takesL (l.drop i) n = n := by
  by_cases hi : i < l.length
  · rw [List.drop_eq_getElem_cons hi, takesL, if_neg (fun hn => h ⟨hi, hn⟩)]
  · rw [List.drop_of_length_le (by omega)]; rfl
end Go.Sim.Tape
end
section
namespace Go.Sim.Tape
open Go Go.Sim
set_option linter.unusedVariables false
set_option linter.unusedSimpArgs false
def grE (g : Gr) : V × V := (u32V g.num, .int .i64 g.args)
def grFind (gs : List Gr) (n : UInt32) : Option Gr := gs.find? fun g => decide (g.num = n)
theorem mapGet_gr (n : UInt32) : ∀ (gs : List Gr), mapGet .u32 (n.toNat : Int) (gs.map grE) = some ((grFind gs n).map fun g => .int .i64 g.args)
  | [] => rfl
  | g :: r => by
    show (if IntKind.u32 = IntKind.u32 then (if (n.toNat : Int) = (g.num.toNat : Int) then some (some (V.int .i64 g.args)) else mapGet .u32 (n.toNat : Int) (r.map grE)) else none) = _
    rw [if_pos rfl]
    by_cases h : g.num = n
    · subst h
      rw [if_pos rfl]; simp [grFind]
    · have h' : ¬ (n.toNat : Int) = (g.num.toNat : Int) := fun e => h (UInt32.toNat_inj.1 (by omega))
      rw [if_neg h', mapGet_gr n r]; simp [grFind, h]
theorem mapPut_gr (x : Gr) : ∀ (gs : List Gr), grFind gs x.num = none → mapPut .u32 (x.num.toNat : Int) (.int .i64 x.args) (gs.map grE) = some ((gs ++ [x]).map grE)
  | [], _ => rfl
  | g :: r, hn => by
    have h : ¬ g.num = x.num := fun h => by simp [grFind, h] at hn
    have hr : grFind r x.num = none := by simpa [grFind, h] using hn
    have h' : ¬ (x.num.toNat : Int) = (g.num.toNat : Int) := fun e => h (UInt32.toNat_inj.1 (by omega))
    show (if IntKind.u32 = IntKind.u32 then (if (x.num.toNat : Int) = (g.num.toNat : Int) then some ((V.int .u32 x.num.toNat, V.int .i64 x.args) :: r.map grE) else (mapPut .u32 (x.num.toNat : Int) (.int .i64 x.args) (r.map grE)).map ((V.int .u32 g.num.toNat, V.int .i64 g.args) :: ·)) else none) = _
    rw [if_pos rfl, if_neg h', mapPut_gr x r hr]
    rfl
def grOk (g : Gr) : Bool := decide (g.num.toNat ≤ 2147483647 ∧ 0 ≤ g.args ∧ g.args ≤ 15)
def newL (gs : List Gr) : List Gr → Bool
  | [] => true
  | x :: r => (grFind gs x.num).isNone && grOk x && newL (gs ++ [x]) r
def newF (gs : List Gr) : Bool := decide (gs.length ≤ 64) && newL [] gs
def nothF (e : Ev) : Bool := decide (e.at_ = 0 ∧ e.num = 0 ∧ e.args = [] ∧ e.val = 0)
def emptyF (r : Rs) : Bool := decide (r.fin = 0 ∧ r.at_ = 0 ∧ r.val = 0 ∧ r.fault = 0 ∧ r.used = 0 ∧ r.nrep = 0 ∧ r.events = []) && nothF r.ask
def grantedF (gs : List Gr) (e : Ev) : Bool := match grFind gs e.num with | some g => decide (g.args = e.args.length) | none => false
def fitsF (r : Rp) : Bool := decide (r.writes.length ≤ 16) && r.writes.all fun w => decide (w.bytes.length ≤ 256)
def eventsF (gs : List Gr) (reps : List Rp) : List Ev → Nat → Bool
  | [], _ => true
  | e :: r, i => grantedF gs e && (match reps[i]? with | some q => decide (e.val = q.val) | none => false) && eventsF gs reps r (i + 1)
def finF (r : Rs) : Bool := decide (r.fin.toNat ≤ 4 ∧ (r.fin.toNat = 1 ∨ r.val = 0))
def faultF (r : Rs) : Bool := if r.fin.toNat = 2 then decide (1 ≤ r.fault.toNat ∧ r.fault.toNat ≤ 8) else decide (r.fault = 0)
def usedF (t : Tk) : Bool := decide (0 ≤ t.res.used ∧ t.res.used ≤ t.fuel)
def countF (t : Tk) : Bool := decide (t.res.nrep = t.res.events.length ∧ t.res.nrep ≤ t.reps.length ∧ t.res.nrep ≤ t.res.used)
def askF (gs : List Gr) (t : Tk) : Bool := if t.res.fin.toNat = 4 then grantedF gs t.res.ask && decide (t.res.ask.val = 0 ∧ t.res.nrep = t.reps.length) else nothF t.res.ask
def toldF (gs : List Gr) (t : Tk) : Bool := finF t.res && usedF t && faultF t.res && countF t && eventsF gs t.reps t.res.events 0 && askF gs t
def takesF (gs : List Gr) (t : Tk) : Bool :=
  if t.kind.toNat = 1 then decide (t.args.length ≤ 15 ∧ t.fuel = 0 ∧ t.reps = []) && emptyF t.res
  else if t.kind.toNat = 2 then decide (t.at_ = 0 ∧ t.args = [] ∧ 0 ≤ t.fuel ∧ t.fuel ≤ 65536) && t.reps.all fitsF && toldF gs t
  else false
def risingL : List Gr → Bool
  | a :: b :: r => decide (a.num.toNat < b.num.toNat) && risingL (b :: r)
  | _ => true
def checkL (gs : List Gr) : List Tk → Nat → Nat → Int × Nat
  | [], _, _ => (0, 0)
  | k :: r, i, n => if takesF gs k then (if n + k.reps.length ≤ 1024 then checkL gs r (i + 1) (n + k.reps.length) else (i, 273)) else (i, 270)
def checkF (t : Tp) : Int × Nat :=
  if newF t.grants && risingL t.grants then (if t.takes.length ≤ 256 then checkL t.grants t.takes 0 0 else (256, 273)) else (-1, 270)
end Go.Sim.Tape
end
section
namespace Go.Sim.Tape
open Go Go.Sim
set_option linter.unusedVariables false
set_option linter.unusedSimpArgs false
theorem comm_symm {α : Type} [DecidableEq α] : ∀ (a b : List α), comm a b = comm b a
  | [], [] => rfl
  | [], _ :: _ => rfl
  | _ :: _, [] => rfl
  | x :: a, y :: b => by
    simp only [comm]
    by_cases h : x = y
    · rw [if_pos h, if_pos h.symm, comm_symm a b]
    · rw [if_neg h, if_neg (fun e => h e.symm)]
theorem resF_symm (a b : Rs) : resF a b = resF b a := by
  unfold resF
  rw [comm_symm a.events b.events]
  have e1 : (a.fin = b.fin ∧ a.at_ = b.at_) ↔ (b.fin = a.fin ∧ b.at_ = a.at_) := ⟨fun h => ⟨h.1.symm, h.2.symm⟩, fun h => ⟨h.1.symm, h.2.symm⟩⟩
  have e2 : (a.val = b.val ∧ a.fault = b.fault) ↔ (b.val = a.val ∧ b.fault = a.fault) := ⟨fun h => ⟨h.1.symm, h.2.symm⟩, fun h => ⟨h.1.symm, h.2.symm⟩⟩
  have e3 : (a.used = b.used ∧ a.nrep = b.nrep) ↔ (b.used = a.used ∧ b.nrep = a.nrep) := ⟨fun h => ⟨h.1.symm, h.2.symm⟩, fun h => ⟨h.1.symm, h.2.symm⟩⟩
  have e4 : (a.events ≠ b.events) ↔ (b.events ≠ a.events) := ne_comm
  have e5 : (a.ask ≠ b.ask) ↔ (b.ask ≠ a.ask) := ne_comm
  simp only [e1, e2, e3, e4, e5]
theorem callEq_symm (x y : Tk) : callEq x y = callEq y x := by
  unfold callEq
  congr 1
  exact propext ⟨fun ⟨a, b, c, d, e⟩ => ⟨a.symm, b.symm, c.symm, d.symm, e.symm⟩, fun ⟨a, b, c, d, e⟩ => ⟨a.symm, b.symm, c.symm, d.symm, e.symm⟩⟩
theorem cmpTakes_symm : ∀ (a b : List Tk) (i : Nat), cmpTakes a b i = cmpTakes b a i
  | [], [], _ => rfl
  | [], _ :: _, _ => rfl
  | _ :: _, [], _ => rfl
  | x :: a, y :: b, i => by
    simp only [cmpTakes]
    rw [callEq_symm x y, resF_symm x.res y.res, cmpTakes_symm a b (i + 1)]
theorem cmpF_symm (a b : Tp) : cmpF a b = cmpF b a := by
  unfold cmpF
  rw [cmpTakes_symm a.takes b.takes 0]
  have e1 : (a.module = b.module ∧ a.grants = b.grants) ↔ (b.module = a.module ∧ b.grants = a.grants) := ⟨fun h => ⟨h.1.symm, h.2.symm⟩, fun h => ⟨h.1.symm, h.2.symm⟩⟩
  simp only [e1]
theorem cmpTakes_take : ∀ (a : List Tk) (n i : Nat), n < a.length → cmpTakes a (a.take n) i = (9, i + n, 0)
  | x :: a, 0, i, _ => rfl
  | x :: a, n + 1, i, h => by
    simp only [List.take_succ_cons, cmpTakes, callEq_same, resF_same, if_true]
    rw [cmpTakes_take a n (i + 1) (by simpa using h)]
    congr 2; omega
theorem cmpF_take {a : Tp} {n : Nat} (h : n < a.takes.length) : cmpF a ⟨a.module, a.grants, a.takes.take n⟩ = (9, n, 0) := by
  simp [cmpF, cmpTakes_take _ _ _ h]
theorem cmpF_all {a : Tp} {n : Nat} (h : n = a.takes.length) : cmpF a ⟨a.module, a.grants, a.takes.take n⟩ = (0, 0, 0) := by
  subst h
  rw [List.take_length]
  exact cmpF_same a
end Go.Sim.Tape
end
