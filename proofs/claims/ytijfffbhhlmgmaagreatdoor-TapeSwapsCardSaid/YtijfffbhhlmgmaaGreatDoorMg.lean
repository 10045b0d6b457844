/-
  A machine of values for closed laws that the kernel runs well: all operations but calls.
  A machine of values for closed laws that the kernel runs well: calls, regions, code. Definitions.
  A machine of values for closed laws that the kernel runs well: the same functions, written so that little is copied when they are unfolded.
  A machine of values for closed laws that the kernel runs well: operations, regions and code, written so that little is copied when they are unfolded.
  The machine for closed laws that the kernel runs well does what the machine of values does: frames, results.
  The machine for closed laws that the kernel runs well does what the machine of values does: calls.
  The machine for closed laws that the kernel runs well does what the machine of values does: regions.
-/
import Derived.Test.YtijfffbhhlmgmaaGreatDoorMf
section
namespace Go.Sim
open Go
set_option linter.unusedVariables false
set_option linter.unusedSimpArgs false
variable {α β : Type}

noncomputable def rowNew (hp : U KB) (cnt : Nat) (cs : List V) : KO := ifb (okCells cs) (newK hp cnt (T.ofL cs) cs cs.length cs.length (.pref (nat_lit 0) cnt (nat_lit 0) (nat_lit 0))) .no
def bslT (P : Program) (t : TypeId) (len : Nat) : Option (Nat × List V) :=
  match P.underlying t with
  | some (.slice elem) => (sizeV P elem).bind fun k => (zeroV P elem).bind fun z => if len * k ≤ 2 ^ 20 ∧ z.cells.length = k ∧ 0 < k then some (k, rep z.cells len) else none
  | _ => none
noncomputable def bslK (E : Env) (e : KE) (hp : U KB) (cnt : Nat) (t : TypeId) (len : Nat) (parts : List (Nat × Operand)) : KO :=
  Option.rec .no (fun p => Prod.rec (fun k zs => Option.rec .no (fun cells => ifb (okCells cells) (newK hp cnt (T.ofL cells) cells cells.length k (.sref (nat_lit 0) cnt (nat_lit 0) len (nat_lit 0) (k, true))) .no)
    (fillV (fun i => some (i * k, k)) zs (partsV (evalK e) parts))) p) (bslT E.P t len)
def mkslT (P : Program) (t : TypeId) : Option (Nat × Nat × List V) :=
  match P.underlying t with
  | some (.slice elem) => (zeroV P elem).bind fun z => (bytesV P elem).bind fun by_ => (sizeV P elem).bind fun n => if z.cells.length = n then some (n, by_, z.cells) else none
  | _ => none
noncomputable def mkslK (P : Program) (hp : U KB) (cnt : Nat) (t : TypeId) (l c : V) : KO :=
  match l, c with
  | .int .i64 (.ofNat l), .int .i64 (.ofNat c) => Option.rec .no (fun p => Prod.rec (fun n p => Prod.rec (fun by_ zs =>
      ifb (Nat.ble l c) (ifb (Nat.ble (Nat.mul c by_) (nat_lit 70368744177664)) (ifb (Nat.ble c (nat_lit 70368744177664))
        (newK hp cnt (T.ofL (rep zs l)) (rep zs l) (Nat.mul l n) n (.sref (nat_lit 0) cnt (nat_lit 0) l (nat_lit 0) (n, Nat.beq l c))) .no) .no) .no) p) p) (mkslT P t)
  | _, _ => .no

def cvT (P : Program) (src dst : TypeId) : Option IntKind :=
  match P.underlying src, P.underlying dst with
  | some _, some (.int k) => some k
  | _, _ => none
def strT (P : Program) (src dst : TypeId) : Option Bool :=
  match P.underlying src, P.underlying dst with
  | some _, some .string => some true
  | some _, some (.slice e) => (match P.underlying e with | some (.int .u8) => some false | _ => none)
  | _, _ => none
def sameT (P : Program) (src dst : TypeId) : Bool :=
  match P.underlying src, P.underlying dst with
  | some (.slice _), some (.slice e) => (match P.underlying e with | some (.int .u8) => Nat.beq src dst | _ => false)
  | _, _ => false
noncomputable def bytesK (hp : U KB) (cnt : Nat) (x : V) : KO :=
  match x with
  | .sref d j off len ep q => rowK hp cnt d j ep .no fun _ _ _ _ _ => ifb (Nat.ble (nat_lit 1) len) (.ok x hp cnt) .no
  | _ => .no
def bytT (P : Program) (src dst : TypeId) : Bool :=
  match P.underlying src, P.underlying dst with
  | some (.slice e), some .string => (match P.underlying e with | some (.int .u8) => true | _ => false)
  | _, _ => false
noncomputable def convertK (P : Program) (hp : U KB) (cnt : Nat) (src dst : TypeId) (x : V) : KO :=
  match x with
  | .int _ n => Option.rec .no (fun k => .ok (convK k n) hp cnt) (cvT P src dst)
  | .str s => Option.rec .no (fun b => ifb b (.ok (.str s) hp cnt) (newK hp cnt (T.ofL (s.map u8)) (s.map u8) (s.map u8).length (nat_lit 1) (.sref (nat_lit 0) cnt (nat_lit 0) s.length (nat_lit 0) (nat_lit 1, false)))) (strT P src dst)
  | x => ifb (sameT P src dst) (bytesK hp cnt x) <| ifb (bytT P src dst) (cellsK hp cnt x (nat_lit 1) .no fun n cs => ifb (cs.all isByte) (.ok (.str (cs.map byteOf)) hp cnt) .no) .no

noncomputable def prefK (hp : U KB) (cnt : Nat) (x : V) (k n : Nat) (no : β) (f : List V → β) : β :=
  match x with
  | .nilslice => ifb (Nat.beq n (nat_lit 0)) (f []) no
  | .sref d j off len ep _ => rowK hp cnt d j ep no fun c m _ _ _ => ifb (Nat.ble n len) (ifb (Nat.ble (Nat.add off (Nat.mul n k)) m) (f (getsT c off (Nat.mul n k))) no) no
  | .str b => f ((b.take n).map u8)
  | _ => no
def sizT (P : Program) (t : TypeId) : Option Nat := match P.underlying t with | some (.slice elem) => sizeV P elem | _ => none
noncomputable def copyK (P : Program) (hp : U KB) (cnt : Nat) (t : TypeId) (dst src : V) : KO :=
  match dst with
  | .sref d j off dl ep _ => Option.rec .no (fun k => Option.rec .no (fun sl =>
      prefK hp cnt src k (minN sl dl) .no fun news =>
        ifb (Nat.beq (minN sl dl) (nat_lit 0)) (.ok (.int .i64 (Int.ofNat (nat_lit 0))) hp cnt)
        (rowK hp cnt d j ep .no fun c m esz fl pl => ifb (Nat.ble (Nat.add off (Nat.mul (minN sl dl) k)) m) (ifb (Nat.beq news.length (Nat.mul (minN sl dl) k)) (ifb (okCells news)
          (layR hp cnt j (T.puts news c off) m ep esz (fl && V.flatL news) (pl && V.plainL news) (.int .i64 (Int.ofNat (minN sl dl)))) .no) .no) .no)) (lenV src)) (sizT P t)
  | _ => .no
def clrT (P : Program) (t : TypeId) : Option (Nat × List V) :=
  match P.underlying t with
  | some (.slice elem) => (sizeV P elem).bind fun k => (zeroV P elem).bind fun z => if z.cells.length = k ∧ okCells z.cells ∧ V.plainL z.cells then some (k, z.cells) else none
  | _ => none
noncomputable def clearK (P : Program) (hp : U KB) (cnt : Nat) (t : TypeId) (x : V) : KO :=
  match x with
  | .sref d j off n ep _ => Option.rec .no (fun p => Prod.rec (fun k zs => ifb (Nat.beq n (nat_lit 0)) (.ok V.undef hp cnt)
      (rowK hp cnt d j ep .no fun c m esz fl pl => ifb (Nat.ble (Nat.add off (Nat.mul n k)) m) (layR hp cnt j (T.puts (rep zs n) c off) m ep esz fl pl V.undef) .no)) p) (clrT P t)
  | _ => .no
noncomputable def builtinK (P : Program) (hp : U KB) (cnt : Nat) (b : Builtin) (ts : List TypeId) (args : List V) : KO :=
  match b with
  | .append => (match ts, args with | t :: r, [s, x] => appendK P hp cnt t r.head? s x | _, _ => .no)
  | .copy => (match ts, args with | t :: _, [d, s] => copyK P hp cnt t d s | _, _ => .no)
  | .len => (match ts, args with | t :: _, [x] => ifb (V.np x) (ooK hp cnt (lenOp P t x)) .no | _, _ => .no)
  | .cap => (match ts, args with | t :: _, [x] => ooK hp cnt ((match P.underlying t with | some (.slice _) => capV x | _ => none).map fun (n : Nat) => (V.int .i64 (n : Int))) | _, _ => .no)
  | .clear => (match ts, args with | t :: _, [x] => clearK P hp cnt t x | _, _ => .no)
  | .min => (match args with | x :: r => ifb (npL args) (ooK hp cnt (foldV minV x r)) .no | _ => .no)
  | .max => (match args with | x :: r => ifb (npL args) (ooK hp cnt (foldV maxV x r)) .no | _ => .no)
  | _ => .no

noncomputable def hopK (E : Env) (e : KE) (hp : U KB) (cnt : Nat) (o : Op) : KO :=
  match o with
  | .move x => .ok (evalK e x) hp cnt
  | .assign x => .ok (evalK e x) hp cnt
  | .alloc elem => Option.rec .no (fun z => rowNew hp cnt (V.cells z)) (zeroV E.P elem)
  | .box _ x => rowNew hp cnt (evalK e x).cells
  | .buildSlice t len parts => bslK E e hp cnt t len parts.toList
  | .load t a => loadK E.P hp cnt t (evalK e a)
  | .store t a x => storeK E.P hp cnt t (evalK e a) (evalK e x)
  | .convert src dst x => convertK E.P hp cnt src dst (evalK e x)
  | .makeSlice t l c => mkslK E.P hp cnt t (evalK e l) (evalK e c)
  | .makeMap _ r => Option.rec (newB' hp cnt (.mp []) (.mref (nat_lit 0) cnt)) (fun _ => .no) r
  | .lookup t m ix ok => lookupK E.P hp cnt t (evalK e m) (evalK e ix) ok
  | .mapUpdate t m k x => mapPutK E.P hp cnt t (evalK e m) (evalK e k) (evalK e x)
  | .range t x => rangeMK E.P hp cnt t (evalK e x)
  | .next it isString => nextK' hp cnt (evalK e it) isString
  | .entry it => entryK hp cnt (evalK e it)
  | .call c => Call.rec (fun callee args argTypes => Callee.rec (fun _ => KO.no) (fun _ _ => KO.no) (fun b => builtinK E.P hp cnt b argTypes.toList (args.toList.map (evalK e))) callee) c
  | o => ooK hp cnt (vopK E e o)

section
variable {hp hp' : U KB} {cnt cnt' : Nat} {h : Heap} {v v' : V} {P : Program} {E : Env} {e : KE} {Tm : List V}
theorem flatL_rep {z : List V} (hz : V.flatL z = true) : ∀ (n : Nat), V.flatL (rep z n) = true := by
  intro n
  rw [rep_eq]
  induction n with
  | zero => rfl
  | succ n ih => rw [List.replicate_succ, List.flatten_cons]; exact flatL_append hz ih
theorem okCells_np {v : V} (h : okCells v.cells = true) : v ≠ .poison := by rintro rfl; cases h
theorem rowNew_ok (hh : KHR hp cnt h) {cs : List V} (hr : rowNew hp cnt cs = .ok v hp' cnt') : okCells cs = true ∧ v = .pref 0 cnt 0 0 ∧ h.top.length = cnt ∧ KHR hp' cnt' (newRow h cs cs.length).2 := by
  unfold rowNew at hr
  rw [ifb_eq] at hr
  split at hr
  case isFalse => cases hr
  rename_i hok
  obtain ⟨rfl, rfl, _, a4⟩ := hh.newRow (T.Is.ofL cs) hr
  exact ⟨hok, rfl, hh.top, a4⟩
theorem bslK_ok (hh : KHR hp cnt h) (hf : FR e Tm) {t : TypeId} {len : Nat} {parts : Array (Nat × Operand)} (hr : bslK E e hp cnt t len parts.toList = .ok v hp' cnt') :
    ∃ h', opV E (evalT Tm) h (.buildSlice t len parts) = some (v, h') ∧ KHR hp' cnt' h' := by
  unfold bslK at hr
  cases hb : bslT E.P t len with
  | none => rw [hb] at hr; cases hr
  | some p =>
    obtain ⟨k, zs⟩ := p
    rw [hb] at hr
    simp only at hr
    cases hfl : fillV (fun i => some (i * k, k)) zs (partsV (evalK e) parts.toList) with
    | none => rw [hfl] at hr; cases hr
    | some cells =>
      rw [hfl] at hr
      simp only [ifb_eq] at hr
      split at hr
      case isFalse => cases hr
      rename_i hok
      obtain ⟨rfl, rfl, a3, a4⟩ := hh.newRow (T.Is.ofL cells) hr
      unfold bslT at hb
      split at hb
      case h_2 => cases hb
      rename_i elem hu
      simp only [Option.bind_eq_some_iff] at hb
      obtain ⟨k', g1, z, g2, g3⟩ := hb
      split at g3
      case isFalse => cases g3
      rename_i hc
      simp only [Option.some.injEq, Prod.mk.injEq] at g3
      obtain ⟨rfl, rfl⟩ := g3
      refine ⟨_, ?_, a4⟩
      simp only [opV, hu, g1, g2, Option.bind_some]
      rw [if_pos hc, fillV_congr hf.eval _ _ hfl]
      simp only [Option.bind_some]
      rw [if_pos hok, hh.top]
theorem mkslK_ok (hh : KHR hp cnt h) {t : TypeId} {l c : V} (hr : mkslK P hp cnt t l c = .ok v hp' cnt') : ∃ h', makeSliceV P h t l c = some (v, h') ∧ KHR hp' cnt' h' ∧ l ≠ .poison ∧ c ≠ .poison := by
  unfold mkslK at hr
  split at hr
  case h_2 => cases hr
  rename_i l c
  cases hb : mkslT P t with
  | none => rw [hb] at hr; cases hr
  | some p =>
    obtain ⟨n, by_, zs⟩ := p
    rw [hb] at hr
    simp only [ifb_eq] at hr
    split at hr
    case isFalse => cases hr
    rename_i c1
    split at hr
    case isFalse => cases hr
    rename_i c2
    split at hr
    case isFalse => cases hr
    rename_i c3
    have d1 : l ≤ c := Nat.le_of_ble_eq_true c1
    have d2 : c * by_ ≤ 70368744177664 := Nat.le_of_ble_eq_true c2
    have d3 : c ≤ 70368744177664 := Nat.le_of_ble_eq_true c3
    unfold mkslT at hb
    split at hb
    case h_2 => cases hb
    rename_i elem hu
    simp only [Option.bind_eq_some_iff] at hb
    obtain ⟨z, g1, by1, g2, n1, g3, g4⟩ := hb
    split at g4
    case isFalse => cases g4
    rename_i hz
    simp only [Option.some.injEq, Prod.mk.injEq] at g4
    obtain ⟨rfl, rfl, rfl⟩ := g4
    have hr' : newK hp cnt (T.ofL (rep z.cells l)) (rep z.cells l) (rep z.cells l).length n1 (.sref 0 cnt 0 l 0 (n1, Nat.beq l c)) = .ok v hp' cnt' := by rw [rep_length, hz]; exact hr
    obtain ⟨rfl, rfl, a3, a4⟩ := hh.newRow (T.Is.ofL _) hr'
    refine ⟨_, ?_, a4, by simp, by simp⟩
    unfold makeSliceV
    simp only [hu, g1, g2, g3, Option.bind_some]
    rw [if_pos ⟨by simp, by show (l : Int) ≤ c; omega, by
      show (c : Int) * (by1 : Nat) ≤ 2 ^ 46
      exact_mod_cast d2, by show (c : Int) ≤ 2 ^ 46; exact_mod_cast d3, hz⟩]
    rw [hh.top]
    have : (Int.ofNat l == Int.ofNat c) = Nat.beq l c := by
      rw [beq_dec, Bool.eq_iff_iff]; simp; omega
    rw [this]
    rfl
theorem convertK_ok (hh : KHR hp cnt h) {src dst : TypeId} {x : V} (hr : convertK P hp cnt src dst x = .ok v hp' cnt') : ∃ h', convertV P h src dst x = some (v, h') ∧ KHR hp' cnt' h' ∧ x ≠ .poison := by
  unfold convertK at hr
  split at hr
  · rename_i k0 n
    cases hb : cvT P src dst with
    | none => rw [hb] at hr; cases hr
    | some k =>
      rw [hb] at hr
      injection hr with a1 a2 a3
      subst a1 a2 a3
      unfold cvT at hb
      split at hb
      · rename_i d k' u1 u2
        simp only [Option.some.injEq] at hb; subst hb
        refine ⟨h, ?_, hh, by simp⟩
        unfold convertV
        simp only [u1, u2, convK_eq]
      · cases hb
  · rename_i s
    cases hb : strT P src dst with
    | none => rw [hb] at hr; cases hr
    | some b =>
      rw [hb] at hr
      unfold strT at hb
      split at hb
      · rename_i d u1 u2
        simp only [Option.some.injEq] at hb; subst hb
        injection hr with a1 a2 a3
        subst a1 a2 a3
        refine ⟨h, ?_, hh, by simp⟩
        unfold convertV
        simp only [u1, u2]
      · rename_i d e u1 u2
        split at hb
        · rename_i u3
          simp only [Option.some.injEq] at hb; subst hb
          obtain ⟨rfl, rfl, a3, a4⟩ := hh.newRow (T.Is.ofL _) hr
          refine ⟨_, ?_, a4, by simp⟩
          unfold convertV
          simp only [u1, u2, u3, hh.top]
        · cases hb
      · cases hb
  · rename_i hx1 hx2
    rw [ifb_eq] at hr
    split at hr
    · rename_i hs
      unfold bytesK at hr
      split at hr
      case h_2 => cases hr
      rename_i d j off len ep q
      obtain ⟨rfl, c, cells, esz, fl, pl, f1, f2, f3, f4, ff⟩ := rowK_ok hh hr (by simp)
      rw [ifb_eq] at f4
      split at f4
      case isFalse => cases f4
      rename_i hl
      injection f4 with a1 a2 a3
      subst a1 a2 a3
      have hpos : 0 < len := Nat.le_of_ble_eq_true hl
      refine ⟨h, ?_, hh, by simp⟩
      unfold sameT at hs
      split at hs
      · rename_i e0 e u1 u2
        split at hs
        · rename_i u3
          obtain rfl := Nat.eq_of_beq_eq_true hs
          have hset : h.set 0 j (.row cells ep esz fl pl) = h := by
            obtain ⟨top, kl, rfl, _⟩ := hh
            simp only [Heap.get, List.getElem?_cons_zero, Option.bind_some] at f1
            simp only [Heap.set, List.getElem?_cons_zero, Option.getD_some, List.set_cons_zero]
            rw [List.cons.injEq]
            refine ⟨?_, rfl⟩
            apply List.ext_getElem?
            intro i
            rw [List.getElem?_set]
            split
            · rename_i hij; subst hij
              split
              · exact f1.symm
              · rename_i hlt; rw [List.getElem?_eq_none (by omega)] at f1; cases f1
            · rfl
          unfold convertV
          obtain rfl : e0 = e := by rw [u1] at u2; simpa using u2
          simp only [u1]
          rw [u3, f1]
          simp only [true_and]
          rw [if_pos hpos, hset]
        · cases hs
      · cases hs
    obtain ⟨c1, hr⟩ : bytT P src dst = true ∧ _ := by
      rw [ifb_eq] at hr
      split at hr
      · rename_i hc; exact ⟨hc, hr⟩
      · cases hr
    obtain ⟨n, cs, e1, e2, e3, e4, e5, e6⟩ := cellsK_ok hh hr (by simp)
    rw [ifb_eq] at e4
    split at e4
    case isFalse => cases e4
    rename_i hall
    injection e4 with a1 a2 a3
    subst a1 a2 a3
    refine ⟨h, ?_, hh, e5⟩
    unfold bytT at c1
    split at c1
    · rename_i el u1 u2
      split at c1
      · rename_i u3
        unfold convertV
        simp only [u1, u2]
        cases x <;> first
          | exact absurd rfl (e6 _)
          | (simp only [u3, e1, e2, Option.bind_some]; rw [if_pos hall])
      · cases c1
    · cases c1
theorem prefK_ok (hh : KHR hp cnt h) {x : V} {k n : Nat} {no r : β} {f : List V → β} (hr : prefK hp cnt x k n no f = r) (hno : no ≠ r) :
    ∃ cs, (match x with | .str b => some ((b.take n).map u8) | x => h.sliceCells x k n) = some cs ∧ f cs = r ∧ x ≠ .poison := by
  unfold prefK at hr
  split at hr
  · rw [ifb_eq] at hr
    split at hr
    · rename_i hn
      have hn := Nat.eq_of_beq_eq_true hn
      exact ⟨[], by simp [Heap.sliceCells, hn], hr, by simp⟩
    · exact absurd hr hno
  · rename_i d j off len ep q
    obtain ⟨rfl, c, cells, esz, fl, pl, e1, e2, e3, e4, _⟩ := rowK_ok hh hr hno
    rw [ifb_eq] at e4
    split at e4
    case isFalse => exact absurd e4 hno
    rename_i c1
    rw [ifb_eq] at e4
    split at e4
    case isFalse => exact absurd e4 hno
    rename_i c2
    have hle : off + n * k ≤ cells.length := Nat.le_of_ble_eq_true c2
    have hg := getsT_eq e2 (n * k) off hle
    refine ⟨_, ?_, e4, by simp⟩
    simp only [Heap.sliceCells, e1]
    rw [if_pos (by exact ⟨trivial, Nat.le_of_ble_eq_true c1, hle⟩), hg.2]
    cases fl <;> rfl
  · exact ⟨_, rfl, hr, by simp⟩
  · exact absurd hr hno
theorem copyK_ok (hh : KHR hp cnt h) {t : TypeId} {dst src : V} (hr : copyK P hp cnt t dst src = .ok v hp' cnt') : ∃ h', copyV P h t dst src = some (v, h') ∧ KHR hp' cnt' h' ∧ dst ≠ .poison ∧ src ≠ .poison := by
  unfold copyK at hr
  split at hr
  case h_2 => cases hr
  rename_i d j off dl ep q
  cases hk : sizT P t with
  | none => rw [hk] at hr; cases hr
  | some k =>
    rw [hk] at hr
    cases hl : lenV src with
    | none => rw [hl] at hr; cases hr
    | some sl =>
      rw [hl] at hr
      simp only [minN_eq] at hr
      obtain ⟨news, e1, e2, e3⟩ := prefK_ok hh hr (by simp)
      unfold sizT at hk
      split at hk
      case h_2 => cases hk
      rename_i elem hu
      have go : ∀ R, (if min sl dl = 0 then some (V.int .i64 0, h) else match h.get d j with
          | some (.row cells ep' esz flat plain) =>
            if ep = ep' ∧ off + (min sl dl) * k ≤ cells.length ∧ news.length = (min sl dl) * k ∧ okCells news ∧ esz < 4294967296 then
              (if d = 0 then some news else V.downL d news).bind fun news' =>
              some (V.int .i64 ((min sl dl : Nat) : Int), h.set d j (.row (cells.take off ++ news' ++ cells.drop (off + (min sl dl) * k)) ep esz (flat && V.flatL news') (plain && V.plainL news')))
            else none
          | _ => none) = some R → copyV P h t (.sref d j off dl ep q) src = some R := by
        intro R hR
        unfold copyV
        cases src with
        | str b =>
          simp only [Option.some.injEq] at e1; subst e1
          simp only [lenV, Option.some.injEq] at hl; subst hl
          simp only [hu, hk, lenV, Option.bind_some]
          exact hR
        | nilslice =>
          simp only [lenV, Option.some.injEq] at hl; subst hl
          simp only [hu, hk, lenV, Option.bind_some]
          rw [show h.sliceCells .nilslice k (min 0 dl) = some news from e1]
          exact hR
        | sref d2 j2 o2 l2 ep2 q2 =>
          simp only [lenV, Option.some.injEq] at hl; subst hl
          simp only [hu, hk, lenV, Option.bind_some]
          rw [show h.sliceCells (.sref d2 j2 o2 l2 ep2 q2) k (min l2 dl) = some news from e1]
          exact hR
        | scon c2 o2 l2 f2 =>
          simp only [lenV, Option.some.injEq] at hl; subst hl
          simp only [hu, hk, lenV, Option.bind_some]
          rw [show h.sliceCells (.scon c2 o2 l2 f2) k (min l2 dl) = some news from e1]
          exact hR
        | _ => cases hl
      rw [ifb_eq] at e2
      split at e2
      · rename_i c0
        have c0 := Nat.eq_of_beq_eq_true c0
        injection e2 with a1 a2 a3
        subst a1 a2 a3
        exact ⟨h, go _ (by rw [if_pos c0]; rfl), hh, by simp, e3⟩
      · rename_i c0
        obtain ⟨rfl, c, cells, esz, fl, pl, f1, f2, f3, f4, ff⟩ := rowK_ok hh e2 (by simp)
        rw [ifb_eq] at f4
        split at f4
        case isFalse => cases f4
        rename_i c1
        rw [ifb_eq] at f4
        split at f4
        case isFalse => cases f4
        rename_i c2
        rw [ifb_eq] at f4
        split at f4
        case isFalse => cases f4
        rename_i c3
        have d1 : off + min sl dl * k ≤ cells.length := Nat.le_of_ble_eq_true c1
        have d2 : news.length = min sl dl * k := Nat.eq_of_beq_eq_true c2
        have his := T.Is.store news f2 (off := off) (by omega)
        rw [storeN_cut news cells off (by omega), d2] at his
        obtain ⟨rfl, rfl, a3, aez⟩ := hh.layRow f3 his (len := cells.length) (by simp only [List.length_append, List.length_take, List.length_drop]; omega) (fun h => by
          simp only [Bool.and_eq_true] at h
          exact flatL_append (flatL_append (flatL_take _ (ff h.1)) h.2) (flatL_drop _ (ff h.1))) f4
        refine ⟨_, go _ (by
          rw [if_neg (by intro h0; rw [h0] at c0; exact c0 rfl), f1]
          show (if ep = ep ∧ _ then _ else _) = _
          rw [if_pos ⟨rfl, d1, d2, c3, aez⟩]
          rfl), a3, by simp, e3⟩
theorem clearK_ok (hh : KHR hp cnt h) {t : TypeId} {x : V} (hr : clearK P hp cnt t x = .ok v hp' cnt') : ∃ h', clearV P h t x = some (v, h') ∧ KHR hp' cnt' h' ∧ x ≠ .poison := by
  unfold clearK at hr
  split at hr
  case h_2 => cases hr
  rename_i d j off n ep q
  cases hk : clrT P t with
  | none => rw [hk] at hr; cases hr
  | some p =>
    obtain ⟨k, zs⟩ := p
    rw [hk] at hr
    simp only [ifb_eq] at hr
    unfold clrT at hk
    split at hk
    case h_2 => cases hk
    rename_i elem hu
    simp only [Option.bind_eq_some_iff] at hk
    obtain ⟨k1, g1, z, g2, g3⟩ := hk
    split at g3
    case isFalse => cases g3
    rename_i hz
    simp only [Option.some.injEq, Prod.mk.injEq] at g3
    obtain ⟨rfl, rfl⟩ := g3
    split at hr
    · rename_i c0
      have c0 := Nat.eq_of_beq_eq_true c0
      injection hr with a1 a2 a3
      subst a1 a2 a3
      refine ⟨h, ?_, hh, by simp⟩
      unfold clearV
      simp only [hu, g1, g2, lenV, Option.bind_some]
      rw [if_pos c0]
    · rename_i c0
      obtain ⟨rfl, c, cells, esz, fl, pl, f1, f2, f3, f4, ff⟩ := rowK_ok hh hr (by simp)
      split at f4
      case isFalse => cases f4
      rename_i c1
      have d1 : off + n * k1 ≤ cells.length := Nat.le_of_ble_eq_true c1
      have hl : (rep z.cells n).length = n * k1 := by rw [rep_length, hz.1]
      have his := T.Is.store (rep z.cells n) f2 (off := off) (by omega)
      rw [storeN_cut _ cells off (by omega), hl] at his
      obtain ⟨rfl, rfl, a3, aez⟩ := hh.layRow f3 his (len := cells.length) (by simp only [List.length_append, List.length_take, List.length_drop]; omega) (fun h => flatL_append (flatL_append (flatL_take _ (ff h)) (flatL_rep (plainL_flat hz.2.2) n)) (flatL_drop _ (ff h))) f4
      refine ⟨_, ?_, a3, by simp⟩
      unfold clearV
      simp only [hu, g1, g2, lenV, Option.bind_some]
      rw [if_neg (by intro h0; rw [h0] at c0; exact c0 rfl), f1]
      show (if ep = ep ∧ _ then _ else _) = _
      rw [if_pos ⟨rfl, d1, hz.1, hz.2.1, hz.2.2, aez⟩]
theorem builtinK_ok (hh : KHR hp cnt h) {b : Builtin} {ts : List TypeId} {args : List V} (hr : builtinK P hp cnt b ts args = .ok v hp' cnt') : ∃ h', builtinV P h b ts args = some (v, h') ∧ KHR hp' cnt' h' ∧ npL args = true := by
  unfold builtinK at hr
  have npt : ∀ {x : V}, x ≠ .poison → V.np x = true := fun {x} hx => by cases x <;> first | rfl | exact absurd rfl hx
  split at hr
  · split at hr
    · obtain ⟨h', a1, a2, a3, a4⟩ := appendK_ok hh hr
      exact ⟨h', a1, a2, by simp [npL, npt a3, npt a4]⟩
    · cases hr
  · split at hr
    · obtain ⟨h', a1, a2, a3, a4⟩ := copyK_ok hh hr
      exact ⟨h', a1, a2, by simp [npL, npt a3, npt a4]⟩
    · cases hr
  · split at hr
    · rw [ifb_eq] at hr
      split at hr
      case isFalse => cases hr
      rename_i hn
      obtain ⟨f1, rfl, rfl⟩ := ooK_ok hr
      exact ⟨h, by simp only [builtinV, f1, Option.map_some], hh, by simp [npL, hn]⟩
    · cases hr
  · split at hr
    · rename_i t _ x
      obtain ⟨f1, rfl, rfl⟩ := ooK_ok hr
      refine ⟨h, ?_, hh, ?_⟩
      · simp only [builtinV]
        simp only [Option.map_eq_some_iff] at f1 ⊢
        obtain ⟨n, g1, g2⟩ := f1
        exact ⟨n, g1, by rw [g2]⟩
      · simp only [npL, Bool.and_true]
        refine npt ?_
        rintro rfl
        simp only [Option.map_eq_some_iff] at f1
        obtain ⟨n, g1, g2⟩ := f1
        split at g1
        · cases g1
        · cases g1
    · cases hr
  · split at hr
    · obtain ⟨h', a1, a2, a3⟩ := clearK_ok hh hr
      exact ⟨h', a1, a2, by simp [npL, npt a3]⟩
    · cases hr
  · split at hr
    · rw [ifb_eq] at hr
      split at hr
      case isFalse => cases hr
      rename_i hn
      obtain ⟨f1, rfl, rfl⟩ := ooK_ok hr
      exact ⟨h, by simp only [builtinV, f1, Option.map_some], hh, hn⟩
    · cases hr
  · split at hr
    · rw [ifb_eq] at hr
      split at hr
      case isFalse => cases hr
      rename_i hn
      obtain ⟨f1, rfl, rfl⟩ := ooK_ok hr
      exact ⟨h, by simp only [builtinV, f1, Option.map_some], hh, hn⟩
    · cases hr
  · cases hr
theorem hopK_ok (hh : KHR hp cnt h) (hf : FR e Tm) {o : Op} (hr : hopK E e hp cnt o = .ok v hp' cnt') : ∃ v' h', opV E (evalT Tm) h o = some (v', h') ∧ (v = .poison ∨ v = v') ∧ KHR hp' cnt' h' := by
  unfold hopK at hr
  split at hr
  · rename_i x
    injection hr with a1 a2 a3
    subst a1 a2 a3
    exact ⟨_, h, rfl, hf.eval x, hh⟩
  · rename_i x
    injection hr with a1 a2 a3
    subst a1 a2 a3
    exact ⟨_, h, rfl, hf.eval x, hh⟩
  · rename_i elem
    cases hz : zeroV E.P elem with
    | none => rw [hz] at hr; cases hr
    | some z =>
      rw [hz] at hr
      obtain ⟨h1, rfl, h3, h4⟩ := rowNew_ok hh hr
      refine ⟨_, _, ?_, .inr rfl, h4⟩
      simp only [opV, hz, Option.bind_some]
      rw [if_pos h1, h3]
  · rename_i el x
    obtain ⟨h1, rfl, h3, h4⟩ := rowNew_ok hh hr
    have hx := hf.np (okCells_np h1)
    refine ⟨_, _, ?_, .inr rfl, h4⟩
    simp only [opV, ← hx]
    rw [if_pos h1, h3]
  · rename_i t len parts
    obtain ⟨h', h1, h2⟩ := bslK_ok hh hf hr
    exact ⟨_, h', h1, .inr rfl, h2⟩
  · rename_i t a
    obtain ⟨h1, rfl, rfl, h4⟩ := loadK_ok hh hr
    rw [hf.np h4] at h1
    exact ⟨_, h, by simp only [opV, h1, Option.map_some], .inr rfl, hh⟩
  · rename_i t a x
    obtain ⟨h', h1, rfl, h3, h4, h5⟩ := storeK_ok hh hr
    rw [hf.np h4, hf.np h5] at h1
    exact ⟨_, h', by simp only [opV, h1, Option.map_some], .inr rfl, h3⟩
  · rename_i src dst x
    obtain ⟨h', h1, h3, h4⟩ := convertK_ok hh hr
    rw [hf.np h4] at h1
    exact ⟨_, h', by simp only [opV, h1], .inr rfl, h3⟩
  · rename_i t l c
    obtain ⟨h', h1, h3, h4, h5⟩ := mkslK_ok hh hr
    rw [hf.np h4, hf.np h5] at h1
    exact ⟨_, h', by simp only [opV, h1], .inr rfl, h3⟩
  · rename_i t r
    cases r with
    | some _ => cases hr
    | none =>
      obtain ⟨rfl, rfl, h3⟩ := hh.newB rfl hr
      exact ⟨_, _, by simp only [opV, makeMapV, hh.top], .inr rfl, h3⟩
  · rename_i t m ix ok
    obtain ⟨h1, rfl, rfl, h4, h5⟩ := lookupK_ok hh hr
    rw [hf.np h4, hf.np h5] at h1
    exact ⟨_, h, by simp only [opV, h1, Option.map_some], .inr rfl, hh⟩
  · rename_i t m k x
    obtain ⟨h', h1, rfl, h3, h4, h5, h6⟩ := mapPutK_ok hh hr
    rw [hf.np h4, hf.np h5, hf.np h6] at h1
    exact ⟨_, h', by simp only [opV, h1, Option.map_some], .inr rfl, h3⟩
  · rename_i t x
    obtain ⟨h', h1, h3, h4⟩ := rangeMK_ok hh hr
    rw [hf.np h4] at h1
    exact ⟨_, h', by simp only [opV, h1], .inr rfl, h3⟩
  · rename_i it s
    obtain ⟨h', h1, h3, h4⟩ := nextK_ok hh hr
    rw [hf.np h4] at h1
    exact ⟨_, h', by simp only [opV, h1], .inr rfl, h3⟩
  · rename_i it
    obtain ⟨h1, rfl, rfl, h4⟩ := entryK_ok hh hr
    rw [hf.np h4] at h1
    exact ⟨_, h, by simp only [opV, h1, Option.map_some], .inr rfl, hh⟩
  · rename_i c
    obtain ⟨callee, args, argTypes⟩ := c
    cases callee with
    | value f => cases hr
    | invoke r n => cases hr
    | builtin b =>
      obtain ⟨h', h1, h2, h3⟩ := builtinK_ok hh hr
      rw [hf.npL h3] at h1
      exact ⟨_, h', by simp only [opV, h1], .inr rfl, h2⟩
  · obtain ⟨f1, rfl, rfl⟩ := ooK_ok hr
    obtain ⟨v', g1, g2⟩ := vopK_ok hf h f1
    exact ⟨v', h, g1, g2, hh⟩
end
end Go.Sim
end
section
namespace Go.Sim.Kr
open Go Go.Sim
set_option linter.unusedVariables false
set_option linter.unusedSimpArgs false
variable {α β : Type}

noncomputable def bitK (mask d : Nat) : Bool := Nat.beq (Nat.mod (Nat.shiftRight mask d) (nat_lit 2)) (nat_lit 1)
noncomputable def KE.joinE (i : Nat) (v : V) (t : KE) : KE := KE.rec (motive := fun _ => KE) (.cons i v .nil) (fun a b c _ => .cons i v (.cons a b c)) t
noncomputable def KE.upd (d : Nat) (v : V) (e : KE) : KE := KE.rec (motive := fun _ => KE) (.cons d v .nil) (fun i w r ih => Bool.rec (KE.joinE i w ih) (.cons i v r) (Nat.beq i d)) e
noncomputable def frameK (mask : Nat) (args : List V) : Nat → KE := List.rec (motive := fun _ => Nat → KE) (fun _ => .nil) (fun v _ ih i => Bool.rec (ih (Nat.succ i)) (.cons i v (ih (Nat.succ i))) (bitK mask i)) args
noncomputable def maskE (mask : Nat) (e : KE) : KE := KE.rec (motive := fun _ => KE) .nil (fun i v _ ih => Bool.rec ih (.cons i v ih) (bitK mask i)) e
noncomputable def endK (mask : Nat) (e : KE) (l : List Oper) : KE → KE :=
  List.rec (motive := fun _ => KE → KE) (fun e0 => e0) (fun o _ ih e0 => Option.rec (ih e0) (fun d => Bool.rec (ih e0) (ih (KE.upd d (KE.look d e) e0)) (bitK mask d)) o.dst) l

inductive KR where
  | no
  | ok (x : Exit) (e : KE) (hp : U KB) (cnt : Nat)
abbrev KRec := Code → Nat → KE → U KB → Nat → KR

structure KC where
  E : Env
  ord : Array Oper → List Nat
  mask : Nat → Nat
  kn : Nat → Option (List V → U KB → Nat → KO)

def fnT (P : Program) (f : Nat) : Option (Code × List ResultVar) := (P.funcs[f]?).bind fun fn => fn.body.map fun c => (c, fn.results.toList)
def ntT (P : Program) (f : Nat) : Nat := match P.funcs[f]? with | some fn => fn.ntmps | none => nat_lit 0
def methT (P : Program) (t : TypeId) (name : String) : Option (Nat × Option TypeId) :=
  (P.info? t).bind fun i => (i.methods.find? (·.name == name)).bind fun m =>
    if m.path.isEmpty then
      match m.func with
      | some (f, ptr) =>
        match P.underlying t, ptr with
        | some (.pointer _), true => some (f, none)
        | some (.pointer elem), false => some (f, some elem)
        | some _, false => some (f, none)
        | _, _ => none
      | none => none
    else none
def gdst (ops : Array Oper) (j : Nat) : Option Tmp := (ops[j]?).bind (·.dst)
def isInl : Sim.Mode → Bool | .inl => true | _ => false
def isPure : Sim.Mode → Bool | .pure => true | _ => false

mutual
def V.bare : V → Bool
  | .bool _ | .int _ _ | .float _ _ | .str _ | .nilptr | .nilfunc | .niliface => true
  | .func _ [] [] => true
  | .agg cs => V.bareL cs
  | _ => false
def V.bareL : List V → Bool
  | [] => true
  | v :: r => V.bare v && V.bareL r
end
def V.bareT : V → Bool
  | .tuple vs => V.bareL vs
  | v => V.bare v

noncomputable def resK (P : Program) (hp : U KB) (cnt : Nat) (e : KE) (l : List ResultVar) : Option (List V) :=
  List.rec (motive := fun _ => Option (List V)) (some []) (fun r _ ih => Option.rec none (fun l => ResultVar.rec
    (fun t => ifb (V.np (KE.look t e)) (some (KE.look t e :: l)) none)
    (fun a t => match nilCheckV (KE.look a e) with | some p => (match loadK P hp cnt t p with | .ok v _ _ => some (v :: l) | _ => none) | none => none) r) ih) l

section
variable (K : KC) (rec : KRec)
noncomputable def bodyK (f : Nat) (args : List V) (hp : U KB) (cnt : Nat) : KO :=
  ifb (K.E.fns f) (ifb (Nat.ble args.length (ntT K.E.P f)) (Option.rec .no (fun p => Prod.rec (fun c rs => KR.rec .no (fun x e hp cnt =>
    match x with
    | .normal => Option.rec .no (fun l => .ok (joinV l) hp cnt) (resK K.E.P hp cnt e rs)
    | .ret => Option.rec .no (fun l => .ok (joinV l) hp cnt) (resK K.E.P hp cnt e rs)
    | _ => .no) (rec c f (frameK (K.mask f) args (nat_lit 0)) hp cnt)) p) (fnT K.E.P f)) .no) .no
noncomputable def pureK (f : Nat) (args : List V) : Option V :=
  KO.rec none (fun v _ _ => ifb (V.bareT v) (some v) none) (bodyK K rec f args (U.new (.oth .dead)) (nat_lit 0))
noncomputable def callK (f : Nat) (args : List V) (hp : U KB) (cnt : Nat) : KO :=
  Option.rec (ifb (isInl (K.E.mode f)) (bodyK K rec f args hp cnt) (ifb (isPure (K.E.mode f)) (ifb (V.bareL args) (ooK hp cnt (pureK K rec f args)) .no) .no)) (fun G => G args hp cnt) (K.kn f)

noncomputable def lpK (hp : U KB) (cnt d j : Nat) (no : β) (k : Nat → Nat → KE → Bool → List Tmp → Code → Code → Bool → Option Code → β) : β :=
  ifb (Nat.beq d (nat_lit 0)) (ifb (Nat.ble (Nat.succ j) cnt) (KB.rec (motive := fun _ => β) (fun _ _ _ _ _ _ => no) (fun _ => no) k (U.get hp j)) no) no
noncomputable def setArgsK (mask : Nat) (e : KE) (ps : List Tmp) (args : List V) : KE :=
  match ps, args with
  | p :: ps, v :: vs => setArgsK mask (ifb (bitK mask p) (KE.upd p v e) (KE.upd p .poison e)) ps vs
  | _, _ => e
noncomputable def deadK (hp : U KB) (cnt k : Nat) : U KB := lpK hp cnt (nat_lit 0) k hp fun _ _ _ _ _ _ _ _ _ => U.set (.oth .dead) hp k
noncomputable def markK (hp : U KB) (cnt : Nat) : Bool := othK hp cnt (nat_lit 0) (nat_lit 0) false fun b => match b with | .it none a [] b => Nat.beq a (nat_lit 77) && Nat.beq b (nat_lit 77) | _ => false
def jumpK : Exit → Option (Option Code)
  | .normal => some none
  | .ret => some (some .ret)
  | .exit id => some (some (.exit id))
  | .goto l => some (some (.goto l))
  | _ => none
noncomputable def roundK (d j : Nat) (args : List V) (hp : U KB) (cnt : Nat) : KO :=
  lpK hp cnt d j .no fun fn n e x ps assign body ready pend =>
    ifb ready (Option.rec (ifb (Nat.beq args.length ps.length && Nat.beq (ntT K.E.P fn) n) (ifb (ps.all fun p => Nat.ble (Nat.succ p) n) (
      KR.rec .no (fun x1 e1 hp1 cnt1 => match x1 with
        | .normal => lpK hp1 cnt1 (nat_lit 0) j .no fun fn' n' e' x' ps' a' b' ready' pend' =>
            ifb ready' (Option.rec (
              KR.rec .no (fun x2 e2 hp2 cnt2 => Option.rec .no (fun p => lpK hp2 cnt2 (nat_lit 0) j .no fun fn2 n2 e3 x2' ps2 a2 b2 _ _ =>
                U.seq (U.set (.lp fn2 n2 e3 x2' ps2 a2 b2 p.isNone p) hp2 j) fun hp3 => ifb (markK hp3 cnt2) (U.seq (deadK hp3 cnt2 cnt) fun hp4 => .ok (.bool p.isNone) hp4 cnt2) .no) (jumpK x2))
                (rec body fn e1 (U.set (.lp fn' n' e' x' ps' a' b' false none) hp1 j) cnt1)) (fun _ => .no) pend') .no
        | _ => .no) (rec assign fn (setArgsK (K.mask fn) (maskE (K.mask fn) e) ps args) hp cnt)) .no) .no) (fun _ => .no) pend) .no

noncomputable def applyK (f : V) (args : List V) (hp : U KB) (cnt : Nat) : KO :=
  match f with
  | .func (.func g) first captured => callK K rec g (first ++ args ++ captured) hp cnt
  | .yield d j => roundK K rec d j args hp cnt
  | _ => .no
noncomputable def invokeK (recv : V) (name : String) (args : List V) (hp : U KB) (cnt : Nat) : KO :=
  match recv with
  | .iface t v => Option.rec .no (fun p => Prod.rec (fun f l => Option.rec (callK K rec f (v :: args) hp cnt) (fun elem => KO.rec .no (fun x _ _ => callK K rec f (x :: args) hp cnt) (loadK K.E.P hp cnt elem v)) l) p) (methT K.E.P t name)
  | _ => .no
noncomputable def operK (e : KE) (hp : U KB) (cnt : Nat) (o : Op) : KO :=
  match o with
  | .call c => Call.rec (fun callee args argTypes => Callee.rec (fun f => applyK K rec (evalK e f) (args.toList.map (evalK e)) hp cnt)
      (fun recv name => invokeK K rec (evalK e recv) name (args.toList.map (evalK e)) hp cnt) (fun b => builtinK K.E.P hp cnt b argTypes.toList (args.toList.map (evalK e))) callee) c
  | o => hopK K.E e hp cnt o

noncomputable def wantK (ops : Array Oper) (e : KE) (o : Oper) : Option Bool :=
  Option.rec (some true) (fun g => Option.rec none (fun t => match KE.look t e with | .bool b => some (b == g.2) | .poison => none | _ => some false) (gdst ops g.1)) o.guard
noncomputable def dstK (fn : Nat) (o : Oper) : Bool := Option.rec true (fun d => Nat.ble (Nat.succ d) (ntT K.E.P fn)) o.dst
noncomputable def opsK (ops : Array Oper) (fn : Nat) (l : List Oper) : KE → U KB → Nat → KR :=
  List.rec (motive := fun _ => KE → U KB → Nat → KR) (fun e hp cnt => .ok .normal e hp cnt) (fun o _ ih e hp cnt =>
    ifb (dstK K fn o) (Option.rec .no (fun w => Bool.rec (ih (putK e o.dst V.undef) hp cnt) (KO.rec .no (fun v hp cnt => ih (putK e o.dst v) hp cnt) (operK K rec e hp cnt o.op)) w) (wantK ops e o)) .no) l
inductive KH where
  | no
  | ok (hs : List (U KB × Nat)) (vs : List V) (e : KE) (hp : U KB) (cnt : Nat)
noncomputable def opsKH (ops : Array Oper) (fn : Nat) (l : List Oper) : KE → U KB → Nat → KH :=
  List.rec (motive := fun _ => KE → U KB → Nat → KH) (fun e hp cnt => .ok [(hp, cnt)] [] e hp cnt) (fun o _ ih e hp cnt =>
    ifb (dstK K fn o) (Option.rec .no (fun w => Bool.rec
      (KH.rec .no (fun hs vs e' hp' cnt' => .ok ((hp, cnt) :: hs) (V.undef :: vs) e' hp' cnt') (ih (putK e o.dst V.undef) hp cnt))
      (KO.rec .no (fun v hp1 cnt1 => KH.rec .no (fun hs vs e' hp' cnt' => .ok ((hp, cnt) :: hs) (v :: vs) e' hp' cnt') (ih (putK e o.dst v) hp1 cnt1)) (operK K rec e hp cnt o.op)) w) (wantK ops e o)) .no) l
def kindA (E : Env) (o : Op) : Kind :=
  match o with
  | .call { callee := .value (.func g), .. } => (match E.known g, E.mode g with | none, .pure => .r | none, .own => .a | _, _ => .e)
  | .call { callee := .value _, .. } => .e
  | o => kindOf E.P o
def isE (E : Env) (o : Op) : Bool :=
  match o with
  | .call { callee := .value (.func g), .. } => (match E.known g, E.mode g with | none, .pure => false | none, .own => false | _, _ => true)
  | .call { callee := .value _, .. } => false
  | o => kindOf E.P o == .e
def isLd : Op → Bool | .load .. => true | _ => false
def isCV : Op → Bool
  | .call { callee := .value _, .. } => true
  | _ => false
noncomputable def kindE (e : KE) (o : Op) : Bool :=
  match o with
  | .call { callee := .value f, .. } => (match evalK e f with
    | .func (.func g) _ _ => (match K.E.known g, K.E.mode g with | none, .pure => false | none, .own => false | _, _ => true)
    | .poison => false
    | _ => true)
  | _ => false
def isAl : Op → Bool | .alloc .. => true | _ => false
def kindNo : Kind → Nat
  | .n => nat_lit 0 | .r => nat_lit 1 | .a => nat_lit 2 | .e => nat_lit 3
noncomputable def confKF (x y : Nat) : Bool := ifb (Nat.beq x (nat_lit 3)) (Nat.ble (nat_lit 1) y) (ifb (Nat.beq y (nat_lit 3)) (Nat.ble (nat_lit 1) x) false)
noncomputable def maskL (l : List Nat) : Nat := List.rec (nat_lit 0) (fun t _ ih => Nat.lor (Nat.shiftLeft (nat_lit 1) t) ih) l
noncomputable def confF (d1 : Option Nat) (l1 : Nat) (d2 : Option Nat) (l2 : Nat) : Bool :=
  ifb (Option.rec false (fun d => ifb (bitK l2 d) true (Option.rec false (fun d' => Nat.beq d' d) d2)) d1) true (Option.rec false (fun d => bitK l1 d) d2)
noncomputable def pairT (E : Env) (ops : Array Oper) (i j : Nat) (o q : Oper) (lo lq : Nat) : Option (List (Nat × Nat × Nat)) :=
  ifb (confF q.dst lq o.dst lo) (ifb (reach ops 1 i j) (some []) (ifb (reach ops 8 i j) (some []) none))
    (ifb (confKF (kindNo (kindA E q.op)) (kindNo (kindA E o.op)))
      (ifb (reach ops 1 i j) (some []) (ifb (isLd o.op) (some [(i, j, 0)]) (ifb (isLd q.op) (some [(i, j, 1)]) (ifb (isAl q.op && isE E o.op) (some [(i, j, 2)]) (ifb (reach ops 8 i j) (some []) (ifb (isAl q.op && isCV o.op) (some [(i, j, 3)]) none))))))
      (some []))
noncomputable def catR {α : Type} (x y : Option (List α)) : Option (List α) := Option.rec none (fun a => Option.rec none (fun b => some (a ++ b)) y) x
noncomputable def rowT (E : Env) (ops : Array Oper) (i : Nat) (o : Oper) (lo : Nat) (l : List (Nat × Oper × Nat)) : Option (List (Nat × Nat × Nat)) :=
  List.rec (some []) (fun x _ ih => catR (pairT E ops i x.1 o x.2.1 lo x.2.2) ih) l
noncomputable def rowsT (E : Env) (ops : Array Oper) (l : List Oper) : Nat → List (Nat × Oper × Nat) → Option (List (Nat × Nat × Nat)) :=
  List.rec (motive := fun _ => Nat → List (Nat × Oper × Nat) → Option (List (Nat × Nat × Nat))) (fun _ _ => some []) (fun o _ ih i acc => catR (rowT E ops i o (maskL (o.looksAt ops)) acc) (ih (Nat.succ i) ((i, o, maskL (o.looksAt ops)) :: acc))) l
noncomputable def stabT (ops : Array Oper) (l : List Oper) : Nat → Bool := List.rec (motive := fun _ => Nat → Bool) (fun _ => true) (fun o _ ih i => ifb (stabC ops i o.op) (ih (Nat.succ i)) false) l
noncomputable def planT (E : Env) (ops : Array Oper) : Option (List (Nat × Nat × Nat)) := ifb (edgesOk ops) (ifb (stabT ops ops.toList (nat_lit 0)) (rowsT E ops ops.toList (nat_lit 0) []) none) none
def rngT (n i j : Nat) : List Nat := (List.range n).filter fun m => (Nat.ble i m && Nat.ble m (j + 1)) || (Nat.ble j m && Nat.ble m i)
noncomputable def loadAt (hs : List (U KB × Nat)) (m : Nat) (t : TypeId) (a : V) : Option V :=
  match hs[m]? with
  | some x => (match loadK K.E.P x.1 x.2 t a with | .ok v _ _ => some v | _ => none)
  | none => none
noncomputable def stillK (ops : Array Oper) (hs : List (U KB × Nat)) (e : KE) (i j : Nat) : Bool :=
  match ops[i]? with
  | some o => (match o.op with
    | .load t a => stabO ops i a && (match loadAt K hs i t (evalK e a) with
      | some v => (rngT (ops.size + 1) i j).all fun m => match loadAt K hs m t (evalK e a) with | some v' => V.same v' v | none => false
      | none => false)
    | _ => false)
  | none => false
noncomputable def nrB (J : Nat) (b : KB) : Bool := match b with
  | .row c len _ _ fl _ => fl || V.noRefL J (getsT c (nat_lit 0) len)
  | .oth b => Blk.noRef J b
  | .lp _ _ e x _ _ _ _ _ => x && KE.rec (motive := fun _ => Bool) true (fun _ v _ ih => ih && V.noRef J v) e
noncomputable def noRefK (J : Nat) (t : U KB) (n : Nat) : Bool := U.all (nrB J) t n
noncomputable def newTK (ops : Array Oper) (hs : List (U KB × Nat)) (vs : List V) (i m : Nat) : Bool :=
  match hs[m]?, hs[m + 1]?, hs[i]?, hs[i + 1]?, vs[i]? with
  | some a, some b, some c, some d, some v =>
    Nat.beq b.2 (a.2 + 1) && (rowK c.1 c.2 0 a.2 0 false fun c1 n1 z1 f1 p1 => rowK d.1 d.2 0 a.2 0 false fun c2 n2 z2 f2 p2 =>
      Nat.beq n1 n2 && Nat.beq z1 z2 && (f1 == f2) && (p1 == p2) && V.sameL (getsT c2 0 n2) (getsT c1 0 n1)) && noRefK a.2 d.1 d.2 && V.np v && V.noRef a.2 v
  | _, _, _, _, _ => false
noncomputable def lookK (ops : Array Oper) (hs : List (U KB × Nat)) (vs : List V) (e : KE) (x : Nat × Nat × Nat) : Bool :=
  match x with
  | (i, j, 0) => ifb (stillK K ops hs e i j) true (reach ops 8 i j)
  | (i, j, 1) => ifb (stillK K ops hs e j i) true (reach ops 8 i j)
  | (i, j, 2) => newTK ops hs vs i j
  | (i, j, _) => newTK ops hs vs i j && (match ops[i]? with | some o => kindE K e o.op | none => false)
noncomputable def drawK' (ops : Array Oper) (fn : Nat) (e : KE) (hp : U KB) (cnt : Nat) : KR :=
  Option.rec .no (fun pl => List.rec
    (KR.rec .no (fun _ e' hp' cnt' => .ok .normal (endK (K.mask fn) e' ops.toList e) hp' cnt') (opsK K rec ops fn ops.toList e hp cnt))
    (fun _ _ _ => KH.rec .no (fun hs vs e' hp' cnt' => ifb (pl.all (lookK K ops hs vs e')) (.ok .normal (endK (K.mask fn) e' ops.toList e) hp' cnt') .no) (opsKH K rec ops fn ops.toList e hp cnt)) pl) (planT K.E ops)

noncomputable def regionK (ops : Array Oper) (draw : Bool) (fn : Nat) (e : KE) (hp : U KB) (cnt : Nat) : KR :=
  Bool.rec (KR.rec .no (fun _ e' hp' cnt' => .ok .normal (endK (K.mask fn) e' ops.toList e) hp' cnt') (opsK K rec ops fn ops.toList e hp cnt))
    (List.rec (drawK' K rec ops fn e hp cnt) (fun _ _ _ => ifb (permOk (K.ord ops) ops.size) (drawK' K rec (permA (K.ord ops) ops) fn e hp cnt) .no) (K.ord ops)) draw
noncomputable def seqR (b : Code) (fn : Nat) (r : KR) : KR :=
  match r with
  | .ok .normal e hp cnt => rec b fn e hp cnt
  | r => r
noncomputable def blockR (id : Nat) (r : KR) : KR :=
  match r with
  | .ok (.exit i) e hp cnt => ifb (Nat.beq i id) (.ok .normal e hp cnt) (.ok (.exit i) e hp cnt)
  | r => r
noncomputable def noGoto (r : KR) : KR :=
  match r with
  | .ok (.goto _) _ _ _ => .no
  | r => r
noncomputable def scopeR (c : Code) (fn : Nat) (r : KR) : KR :=
  match r with
  | .ok (.goto l) e hp cnt => (match findLabel c l with | some rest => noGoto (rec rest fn e hp cnt) | none => .no)
  | r => r
def forgK : List Hint → Option (List Nat)
  | [] => some []
  | .forget i :: r => (forgK r).map (i :: ·)
  | _ :: _ => none
noncomputable def dropK (F : List Nat) (e : KE) : KE := KE.rec (motive := fun _ => KE) .nil (fun i v _ ih => Bool.rec (.cons i v ih) ih (F.any (Nat.beq i))) e
noncomputable def exactK (F : List Nat) (e : KE) (n : Nat) : Bool := (List.range n).all fun t => F.any (Nat.beq t) || V.np (KE.look t e)
noncomputable def rangeFK (f : Operand) (ps : List Tmp) (assign body : Code) (fn : Nat) (e0 : KE) (hp : U KB) (cnt : Nat) : KR :=
  Option.rec .no (fun F => (fun e => match evalK e f with
  | .func (.func g) first captured =>
    KO.rec .no (fun _ hp2 cnt2 => lpK hp2 cnt2 (nat_lit 0) cnt .no fun _ _ _ _ _ _ _ ready p =>
      ifb (ready || p.isSome) (ifb (markK hp2 cnt2) (U.seq (U.set (.oth .dead) hp2 cnt) fun hp3 => Option.rec (.ok .normal e hp3 cnt2) (fun c => rec c fn e hp3 cnt2) p) .no) .no)
      (callK K rec g (first ++ [V.yield (nat_lit 0) cnt] ++ captured) (U.set (.lp fn (ntT K.E.P fn) e (exactK F e (ntT K.E.P fn)) ps assign body true none) hp cnt) (Nat.succ cnt))
  | _ => .no) (dropK F e0)) (forgK (K.E.hint fn (((firstRegion assign).or (firstRegion body)).getD 0)))
noncomputable def stepK : KRec := fun c fn e hp cnt =>
  match c with
  | .skip => .ok .normal e hp cnt
  | .region _ ops draw => regionK K rec ops draw fn e hp cnt
  | .seq a b => seqR rec b fn (rec a fn e hp cnt)
  | .cond x a b => (match evalK e x with | .bool t => rec (ifb t a b) fn e hp cnt | _ => .no)
  | .block id c => blockR id (rec c fn e hp cnt)
  | .loop body => ifb (K.E.hint fn ((firstRegion body).getD 0)).isEmpty (seqR rec (.loop body) fn (rec body fn e hp cnt)) .no
  | .rangeFunc f ps assign body => rangeFK K rec f ps.toList assign body fn e hp cnt
  | .exit id => .ok (.exit id) e hp cnt
  | .scope c => scopeR rec c fn (rec c fn e hp cnt)
  | .label _ => .ok .normal e hp cnt
  | .goto l => .ok (.goto l) e hp cnt
  | .ret => .ok .ret e hp cnt
  | .refuse _ => .no
end
noncomputable def evK' (K : KC) (n : Nat) : KRec := Nat.rec (motive := fun _ => KRec) (fun _ _ _ _ _ => .no) (fun _ ih => stepK K ih) n

abbrev KD := List (Nat × List V)
inductive KQ where
  | no
  | ok (x : Exit) (e : KE) (hp : U KB) (cnt : Nat) (D : KD)
section
variable (K : KC) (rec : KRec)
noncomputable def deferK (e : KE) (c : Call) : Option (Nat × List V) :=
  match c.callee with
  | .value f => (match evalK e f with | .func (.func g) first captured => some (g, first ++ c.args.toList.map (evalK e) ++ captured) | _ => none)
  | _ => none
noncomputable def opsDK (ops : Array Oper) (fn : Nat) (l : List Oper) : KE → U KB → Nat → KD → KQ :=
  List.rec (motive := fun _ => KE → U KB → Nat → KD → KQ) (fun e hp cnt D => .ok .normal e hp cnt D) (fun o _ ih e hp cnt D =>
    ifb (dstK K fn o) (match wantK ops e o with
      | none => .no
      | some false => ih (putK e o.dst V.undef) hp cnt D
      | some true => match o.op with
        | .defer c => (match deferK e c with | some d => ih (putK e o.dst V.undef) hp cnt (d :: D) | none => .no)
        | op => KO.rec .no (fun v hp cnt => ih (putK e o.dst v) hp cnt D) (operK K rec e hp cnt op)) .no) l
noncomputable def evDK : Code → Nat → KE → U KB → Nat → KD → KQ
  | .seq a b, fn, e, hp, cnt, D => (match evDK a fn e hp cnt D with | .ok .normal e' hp' cnt' D' => evDK b fn e' hp' cnt' D' | r => r)
  | .region id ops false, fn, e, hp, cnt, D => (match opsDK K rec ops fn ops.toList e hp cnt D with | .ok _ e' hp' cnt' D' => .ok .normal (endK (K.mask fn) e' ops.toList e) hp' cnt' D' | .no => .no)
  | .cond x a b, fn, e, hp, cnt, D => (match evalK e x with | .bool true => evDK a fn e hp cnt D | .bool false => evDK b fn e hp cnt D | _ => .no)
  | c, fn, e, hp, cnt, D => (match rec c fn e hp cnt with | .ok x e' hp' cnt' => .ok x e' hp' cnt' D | .no => .no)
noncomputable def opsRK (ops : Array Oper) (fn : Nat) (l : List Oper) : KE → U KB → Nat → KR :=
  List.rec (motive := fun _ => KE → U KB → Nat → KR) (fun e hp cnt => .ok .normal e hp cnt) (fun o _ ih e hp cnt =>
    ifb (dstK K fn o) (match wantK ops e o with
      | none => .no
      | some false => ih (putK e o.dst V.undef) hp cnt
      | some true => if isRec o.op then ih (putK e o.dst .niliface) hp cnt else
        match kindOf K.E.P o.op with
        | .n => KO.rec .no (fun v _ _ => ih (putK e o.dst v) hp cnt) (hopK K.E e hp cnt o.op)
        | _ => .no) .no) l
noncomputable def evRK : Code → Nat → KE → U KB → Nat → KR
  | .seq a b, fn, e, hp, cnt => (match evRK a fn e hp cnt with | .ok .normal e' hp' cnt' => evRK b fn e' hp' cnt' | r => r)
  | .region id ops false, fn, e, hp, cnt => if ops.any (fun o => isRec o.op) then (match opsRK K ops fn ops.toList e hp cnt with | .ok _ e' hp' cnt' => .ok .normal (endK (K.mask fn) e' ops.toList e) hp' cnt' | .no => .no) else rec (.region id ops false) fn e hp cnt
  | .cond x a b, fn, e, hp, cnt => (match evalK e x with | .bool true => evRK a fn e hp cnt | .bool false => evRK b fn e hp cnt | _ => .no)
  | c, fn, e, hp, cnt => rec c fn e hp cnt
noncomputable def bodyRK (f : Nat) (args : List V) (hp : U KB) (cnt : Nat) : Option (U KB × Nat) :=
  ifb (K.E.fns f) (ifb (Nat.ble args.length (ntT K.E.P f)) (match fnT K.E.P f with
    | none => none
    | some (c, rs) => if noRange c then (match evRK K rec c f (frameK (K.mask f) args (nat_lit 0)) hp cnt with
        | .ok .normal e hp cnt => (match resK K.E.P hp cnt e rs with | some _ => some (hp, cnt) | none => none)
        | .ok .ret e hp cnt => (match resK K.E.P hp cnt e rs with | some _ => some (hp, cnt) | none => none)
        | _ => none) else none) none) none
noncomputable def leaveK (D : KD) : U KB → Nat → Option (U KB × Nat) :=
  List.rec (motive := fun _ => U KB → Nat → Option (U KB × Nat)) (fun hp cnt => some (hp, cnt)) (fun x _ ih hp cnt => ifb (markK hp cnt) (match bodyRK K rec x.1 x.2 hp cnt with | some (hp, cnt) => ih hp cnt | none => none) none) D
noncomputable def bodyDK (f : Nat) (args : List V) (hp : U KB) (cnt : Nat) : KO :=
  ifb (K.E.fns f) (ifb (Nat.ble args.length (ntT K.E.P f)) (match fnT K.E.P f with
    | none => .no
    | some (c, rs) => (match evDK K rec c f (frameK (K.mask f) args (nat_lit 0)) hp cnt [] with
        | .ok .normal e hp cnt D => (match leaveK K rec D hp cnt with | some (hp, cnt) => (match resK K.E.P hp cnt e rs with | some l => .ok (joinV l) hp cnt | none => .no) | none => .no)
        | .ok .ret e hp cnt D => (match leaveK K rec D hp cnt with | some (hp, cnt) => (match resK K.E.P hp cnt e rs with | some l => .ok (joinV l) hp cnt | none => .no) | none => .no)
        | _ => .no)) .no) .no
end
end Go.Sim.Kr
end
section
namespace Go.Sim.Kr
open Go Go.Sim
set_option linter.unusedVariables false
set_option linter.unusedSimpArgs false

noncomputable def cInt (v : V) : Option V → (IntKind → Int → Option V) → Option V :=
  V.rec (motive_1 := fun _ => Option V → (IntKind → Int → Option V) → Option V) (motive_2 := fun _ => PUnit)
    (fun _ z _ => z) (fun k n _ f => f k n) (fun _ _ z _ => z) (fun _ z _ => z) (fun z _ => z) (fun _ _ _ _ z _ => z) (fun _ _ _ z _ => z) (fun z _ => z) (fun _ _ _ _ _ _ z _ => z) (fun _ _ _ _ _ z _ => z)
    (fun _ _ _ _ _ z _ => z) (fun z _ => z) (fun _ _ _ z _ => z) (fun z _ => z) (fun _ _ z _ => z) (fun _ _ z _ => z) (fun _ _ z _ => z) (fun z _ => z) (fun _ _ z _ => z) (fun z _ => z) PUnit.unit (fun _ _ _ _ => PUnit.unit) v
noncomputable def cIntKO (v : V) : KO → (IntKind → Int → KO) → KO :=
  V.rec (motive_1 := fun _ => KO → (IntKind → Int → KO) → KO) (motive_2 := fun _ => PUnit)
    (fun _ z _ => z) (fun k n _ f => f k n) (fun _ _ z _ => z) (fun _ z _ => z) (fun z _ => z) (fun _ _ _ _ z _ => z) (fun _ _ _ z _ => z) (fun z _ => z) (fun _ _ _ _ _ _ z _ => z) (fun _ _ _ _ _ z _ => z)
    (fun _ _ _ _ _ z _ => z) (fun z _ => z) (fun _ _ _ z _ => z) (fun z _ => z) (fun _ _ z _ => z) (fun _ _ z _ => z) (fun _ _ z _ => z) (fun z _ => z) (fun _ _ z _ => z) (fun z _ => z) PUnit.unit (fun _ _ _ _ => PUnit.unit) v
noncomputable def cPrefKO (v : V) : KO → (Nat → Nat → Nat → Nat → KO) → KO :=
  V.rec (motive_1 := fun _ => KO → (Nat → Nat → Nat → Nat → KO) → KO) (motive_2 := fun _ => PUnit)
    (fun _ z _ => z) (fun _ _ z _ => z) (fun _ _ z _ => z) (fun _ z _ => z) (fun z _ => z) (fun a b c d _ f => f a b c d) (fun _ _ _ z _ => z) (fun z _ => z) (fun _ _ _ _ _ _ z _ => z) (fun _ _ _ _ _ z _ => z)
    (fun _ _ _ _ _ z _ => z) (fun z _ => z) (fun _ _ _ z _ => z) (fun z _ => z) (fun _ _ z _ => z) (fun _ _ z _ => z) (fun _ _ z _ => z) (fun z _ => z) (fun _ _ z _ => z) (fun z _ => z) PUnit.unit (fun _ _ _ _ => PUnit.unit) v
noncomputable def cPref (v : V) : Option V → (Nat → Nat → Nat → Nat → Option V) → Option V :=
  V.rec (motive_1 := fun _ => Option V → (Nat → Nat → Nat → Nat → Option V) → Option V) (motive_2 := fun _ => PUnit)
    (fun _ z _ => z) (fun _ _ z _ => z) (fun _ _ z _ => z) (fun _ z _ => z) (fun z _ => z) (fun a b c d _ f => f a b c d) (fun _ _ _ z _ => z) (fun z _ => z) (fun _ _ _ _ _ _ z _ => z) (fun _ _ _ _ _ z _ => z)
    (fun _ _ _ _ _ z _ => z) (fun z _ => z) (fun _ _ _ z _ => z) (fun z _ => z) (fun _ _ z _ => z) (fun _ _ z _ => z) (fun _ _ z _ => z) (fun z _ => z) (fun _ _ z _ => z) (fun z _ => z) PUnit.unit (fun _ _ _ _ => PUnit.unit) v
noncomputable def cAddr (v : V) : Option V → (Nat → Nat → Nat → Nat → Option V) → (Nat → Nat → Nat → Nat → Nat → Option V) → Option V :=
  V.rec (motive_1 := fun _ => Option V → (Nat → Nat → Nat → Nat → Option V) → (Nat → Nat → Nat → Nat → Nat → Option V) → Option V) (motive_2 := fun _ => PUnit)
    (fun _ z _ _ => z) (fun _ _ z _ _ => z) (fun _ _ z _ _ => z) (fun _ z _ _ => z) (fun z _ _ => z) (fun a b c d _ f _ => f a b c d) (fun _ _ _ z _ _ => z) (fun z _ _ => z) (fun a b c d e _ _ _ f => f a b c d e) (fun _ _ _ _ _ z _ _ => z)
    (fun _ _ _ _ _ z _ _ => z) (fun z _ _ => z) (fun _ _ _ z _ _ => z) (fun z _ _ => z) (fun _ _ z _ _ => z) (fun _ _ z _ _ => z) (fun _ _ z _ _ => z) (fun z _ _ => z) (fun _ _ z _ _ => z) (fun z _ _ => z) PUnit.unit (fun _ _ _ _ => PUnit.unit) v
noncomputable def cBool (v : V) : KR → (Bool → KR) → KR :=
  V.rec (motive_1 := fun _ => KR → (Bool → KR) → KR) (motive_2 := fun _ => PUnit)
    (fun b _ f => f b) (fun _ _ z _ => z) (fun _ _ z _ => z) (fun _ z _ => z) (fun z _ => z) (fun _ _ _ _ z _ => z) (fun _ _ _ z _ => z) (fun z _ => z) (fun _ _ _ _ _ _ z _ => z) (fun _ _ _ _ _ z _ => z)
    (fun _ _ _ _ _ z _ => z) (fun z _ => z) (fun _ _ _ z _ => z) (fun z _ => z) (fun _ _ z _ => z) (fun _ _ z _ => z) (fun _ _ z _ => z) (fun z _ => z) (fun _ _ z _ => z) (fun z _ => z) PUnit.unit (fun _ _ _ _ => PUnit.unit) v
noncomputable def cBoolO (v : V) : Option V → (Bool → Option V) → Option V :=
  V.rec (motive_1 := fun _ => Option V → (Bool → Option V) → Option V) (motive_2 := fun _ => PUnit)
    (fun b _ f => f b) (fun _ _ z _ => z) (fun _ _ z _ => z) (fun _ z _ => z) (fun z _ => z) (fun _ _ _ _ z _ => z) (fun _ _ _ z _ => z) (fun z _ => z) (fun _ _ _ _ _ _ z _ => z) (fun _ _ _ _ _ z _ => z)
    (fun _ _ _ _ _ z _ => z) (fun z _ => z) (fun _ _ _ z _ => z) (fun z _ => z) (fun _ _ z _ => z) (fun _ _ z _ => z) (fun _ _ z _ => z) (fun z _ => z) (fun _ _ z _ => z) (fun z _ => z) PUnit.unit (fun _ _ _ _ => PUnit.unit) v
noncomputable def cAgg (v : V) : KO → (List V → KO) → KO :=
  V.rec (motive_1 := fun _ => KO → (List V → KO) → KO) (motive_2 := fun _ => PUnit)
    (fun _ z _ => z) (fun _ _ z _ => z) (fun _ _ z _ => z) (fun _ z _ => z) (fun z _ => z) (fun _ _ _ _ z _ => z) (fun _ _ _ z _ => z) (fun z _ => z) (fun _ _ _ _ _ _ z _ => z) (fun _ _ _ _ _ z _ => z)
    (fun _ _ _ _ _ z _ => z) (fun z _ => z) (fun _ _ _ z _ => z) (fun z _ => z) (fun cs _ _ f => f cs) (fun _ _ z _ => z) (fun _ _ z _ => z) (fun z _ => z) (fun _ _ z _ => z) (fun z _ => z) PUnit.unit (fun _ _ _ _ => PUnit.unit) v
theorem cAgg_eq (v : V) (z : KO) (f : List V → KO) : cAgg v z f = match v with | .agg cs => f cs | _ => z := by cases v <;> rfl
noncomputable def cell1F (v : V) : Bool :=
  V.rec (motive_1 := fun _ => Bool) (motive_2 := fun _ => PUnit)
    (fun _ => true) (fun _ _ => true) (fun _ _ => true) (fun _ => true) true (fun _ _ _ _ => true) (fun _ _ _ => true) true (fun _ _ _ _ _ _ => true) (fun _ _ _ _ _ => true)
    (fun _ _ _ _ _ => true) true (fun _ _ _ => true) true (fun _ _ => false) (fun _ _ => false) (fun _ _ => true) true (fun _ _ => true) false PUnit.unit (fun _ _ _ _ => PUnit.unit) v
theorem cell1F_eq (v : V) : cell1F v = V.cell1 v := by cases v <;> rfl

noncomputable def evalF (x : Operand) (e : KE) : V := Operand.rec (motive := fun _ => KE → V) (fun t e => KE.look t e) (fun v _ => (ofValue v).getD .poison) (fun _ _ => .poison) (fun f _ => .func (.func f) [] []) x e
theorem evalF_eq (x : Operand) (e : KE) : evalF x e = evalK e x := by cases x <;> rfl
noncomputable def intC (x : Int) : Option V → (Nat → Option V) → Option V := Int.rec (motive := fun _ => Option V → (Nat → Option V) → Option V) (fun m _ f => f m) (fun _ z _ => z) x
noncomputable def natF (op : BinOp) : IntKind → Nat → Nat → Option V :=
  BinOp.rec (motive := fun _ => IntKind → Nat → Nat → Option V)
    (fun k m n => mkN k (Nat.add m n)) (fun k m n => ifb (Nat.ble n m) (mkN k (Nat.sub m n)) (intV .sub k (Int.ofNat m) (Int.ofNat n))) (fun k m n => mkN k (Nat.mul m n)) (fun k m n => intV .quo k (Int.ofNat m) (Int.ofNat n))
    (fun k m n => ifb (Nat.beq n (nat_lit 0)) none (nforce (Nat.mod m n) fun r => some (.int k (Int.ofNat r))))
    (fun k m n => ifb (Nat.ble (half k) m) (intV .and k (Int.ofNat m) (Int.ofNat n)) (ifb (Nat.ble (half k) n) (intV .and k (Int.ofNat m) (Int.ofNat n)) (nforce (Nat.land m n) fun r => some (.int k (Int.ofNat r)))))
    (fun k m n => intV .or k (Int.ofNat m) (Int.ofNat n)) (fun k m n => intV .xor k (Int.ofNat m) (Int.ofNat n)) (fun k m n => intV .shl k (Int.ofNat m) (Int.ofNat n)) (fun k m n => intV .shr k (Int.ofNat m) (Int.ofNat n)) (fun k m n => intV .andNot k (Int.ofNat m) (Int.ofNat n))
    (fun _ m n => some (.bool (Nat.beq m n))) (fun _ m n => some (.bool (ifb (Nat.beq m n) false true))) (fun _ m n => some (.bool (Nat.ble (Nat.succ m) n))) (fun _ m n => some (.bool (Nat.ble m n))) (fun _ m n => some (.bool (Nat.ble (Nat.succ n) m))) (fun _ m n => some (.bool (Nat.ble n m))) op
theorem natF_eq (op : BinOp) (k : IntKind) (m n : Nat) : natF op k m n = natK op k m n := by cases op <;> rfl
noncomputable def isSh (op : BinOp) : Bool := BinOp.rec (motive := fun _ => Bool) false false false false false false false false true true false false false false false false false op
noncomputable def intF (op : BinOp) (k : IntKind) (x y : Int) : Option V := intC x (intV op k x y) fun m => intC y (intV op k x y) fun n => natF op k m n
theorem intF_eq (op : BinOp) (k : IntKind) (x y : Int) : intF op k x y = intK op k x y := by
  cases x <;> cases y <;> first
    | exact natF_eq _ _ _ _
    | rfl
noncomputable def binF (E : Env) (op : BinOp) (t : TypeId) (x y : Operand) (a b : V) : Option V :=
  cInt a (binK E op t x y a b) fun k m => cInt b (binK E op t x y a b) fun k' n => Bool.rec (ifb (Nat.beq (kno k) (kno k')) (intF op k m n) none) (shiftK op k m n) (isSh op)
theorem binF_eq (E : Env) (op : BinOp) (t : TypeId) (x y : Operand) (a b : V) : binF E op t x y a b = binK E op t x y a b := by
  unfold binF
  cases a <;> first
    | rfl
    | skip
  rename_i k m
  cases b <;> first
    | rfl
    | skip
  rename_i k' n
  show @Bool.rec (fun _ => Option V) (ifb (Nat.beq (kno k) (kno k')) (intF op k m n) none) (shiftK op k m n) (isSh op) = _
  rw [intF_eq]
  cases op <;> rfl
noncomputable def fieldAddrF (P : Program) (t : TypeId) (x : V) (f : Nat) : Option V := cPref x none fun d j off ep => Option.rec none (fun o => some (.pref d j (Nat.add off o) ep)) (foffK P t f)
theorem fieldAddrF_eq (P : Program) (t : TypeId) (x : V) (f : Nat) : fieldAddrF P t x f = fieldAddrK P t x f := by cases x <;> rfl
noncomputable def idxA (p : Option (Option Nat × Nat)) (d j off ep n : Nat) : Option V := Option.rec none (fun p => Prod.rec (fun a k => Option.rec none (fun len => ifb (Nat.ble (Nat.succ n) len) (some (.pref d j (Nat.add off (Nat.mul n k)) ep)) none) a) p) p
noncomputable def idxS (p : Option (Option Nat × Nat)) (d j off len ep n : Nat) : Option V := Option.rec none (fun p => Prod.rec (fun a k => Option.rec (ifb (Nat.ble (Nat.succ n) len) (some (.pref d j (Nat.add off (Nat.mul n k)) ep)) none) (fun _ => none) a) p) p
noncomputable def indexAddrF (P : Program) (t : TypeId) (x i : V) : Option V :=
  cInt i none fun _ n => intC n none fun n => cAddr x none (fun d j off ep => idxA (idxK P t) d j off ep n) (fun d j off len ep => idxS (idxK P t) d j off len ep n)
theorem indexAddrF_eq (P : Program) (t : TypeId) (x i : V) : indexAddrF P t x i = indexAddrK P t x i := by
  cases i <;> first
    | rfl
    | skip
  rename_i k n
  cases n <;> cases x <;> rfl
noncomputable def nilCheckF (v : V) : Option V :=
  V.rec (motive_1 := fun _ => Option V) (motive_2 := fun _ => PUnit)
    (fun _ => none) (fun _ _ => none) (fun _ _ => none) (fun _ => none) none (fun a b c d => some (.pref a b c d)) (fun a b _ => some (.pcon a b)) none (fun _ _ _ _ _ _ => none) (fun _ _ _ _ _ => none)
    (fun f a b _ _ => nilCheckV (.func f a b)) none (fun t v _ => some (.iface t v)) none (fun _ _ => none) (fun _ _ => none) (fun _ _ => none) none (fun d j => some (.yield d j)) none PUnit.unit (fun _ _ _ _ => PUnit.unit) v
theorem nilCheckF_eq (v : V) : nilCheckF v = nilCheckV v := by cases v <;> rfl
noncomputable def ldF (hp : U KB) (cnt : Nat) (l : Option Nat) (off : Nat) (c : T V) (len : Nat) : KO := Option.rec
      (ifb (Nat.ble (Nat.succ off) len) (.ok (T.get .poison c off) hp cnt) .no)
      (fun n => ifb (Nat.ble (Nat.add off n) len) (.ok (.agg (getsT c off n)) hp cnt) .no) l
noncomputable def loadF (P : Program) (hp : U KB) (cnt : Nat) (t : TypeId) (a : V) : KO :=
  cPrefKO a .no fun d j off ep => Option.rec .no (fun l => rowK hp cnt d j ep .no fun c len _ _ _ => ldF hp cnt l off c len) (layK P t)
theorem loadF_eq (P : Program) (hp : U KB) (cnt : Nat) (t : TypeId) (a : V) : loadF P hp cnt t a = loadK P hp cnt t a := by cases a <;> rfl
noncomputable def stF (hp : U KB) (cnt j off ep n : Nat) (x : V) (c : T V) (len esz : Nat) (fl pl : Bool) : KO :=
  ifb (Nat.ble (Nat.add off n) len) (cAgg x (ifb (Nat.beq n (nat_lit 1)) (ifb (cell1F x) (layR hp cnt j (T.set x c off) len ep esz (fl && V.flatL [x]) (pl && V.plainL [x]) V.undef) .no) .no)
    fun vs => ifb (Nat.beq vs.length n) (ifb (okCells vs) (layR hp cnt j (T.puts vs c off) len ep esz (fl && V.flatL vs) (pl && V.plainL vs) V.undef) .no) .no) .no
noncomputable def storeF (P : Program) (hp : U KB) (cnt : Nat) (t : TypeId) (a x : V) : KO :=
  cPrefKO a .no fun d j off ep => Option.rec .no (fun n => rowK hp cnt d j ep .no fun c len esz fl pl => stF hp cnt j off ep n x c len esz fl pl) (sizeV P t)
theorem storeF_eq (P : Program) (hp : U KB) (cnt : Nat) (t : TypeId) (a x : V) : storeF P hp cnt t a x = storeK P hp cnt t a x := by
  have h : ∀ j off ep n c len esz fl pl, stF hp cnt j off ep n x c len esz fl pl = ifb (Nat.ble (Nat.add off n) len) (
      match x with
      | .agg vs => ifb (Nat.beq vs.length n) (ifb (okCells vs) (layR hp cnt j (T.puts vs c off) len ep esz (fl && V.flatL vs) (pl && V.plainL vs) V.undef) .no) .no
      | x => ifb (Nat.beq n (nat_lit 1)) (ifb (V.cell1 x) (layR hp cnt j (T.set x c off) len ep esz (fl && V.flatL [x]) (pl && V.plainL [x]) V.undef) .no) .no) .no := by
    intros
    unfold stF
    rw [cAgg_eq, cell1F_eq]
    cases x <;> rfl
  cases a <;> first
    | rfl
    | (simp only [storeF, storeK, cPrefKO, h]; cases x <;> rfl)
noncomputable def convF (P : Program) (hp : U KB) (cnt : Nat) (src dst : TypeId) (x : V) : KO := cIntKO x (convertK P hp cnt src dst x) fun _ n => Option.rec .no (fun k => .ok (convK k n) hp cnt) (cvT P src dst)
theorem convF_eq (P : Program) (hp : U KB) (cnt : Nat) (src dst : TypeId) (x : V) : convF P hp cnt src dst x = convertK P hp cnt src dst x := by cases x <;> rfl
noncomputable def pickF (c a b : V) : Option V := cBoolO c none fun t => some (ifb t a b)
end Go.Sim.Kr
end
section
namespace Go.Sim.Kr
open Go Go.Sim
set_option linter.unusedVariables false
set_option linter.unusedSimpArgs false

noncomputable def allocF (P : Program) (hp : U KB) (cnt : Nat) (elem : TypeId) : KO := Option.rec .no (fun z => rowNew hp cnt (V.cells z)) (zeroV P elem)
noncomputable def biF (b : Builtin) (P : Program) (hp : U KB) (cnt : Nat) (ts : List TypeId) (args : List V) : KO := builtinK P hp cnt b ts args
noncomputable def callF (c : Call) : KC → KRec → KE → U KB → Nat → KO :=
  Call.rec (motive := fun _ => KC → KRec → KE → U KB → Nat → KO) (fun callee args argTypes => Callee.rec (motive := fun _ => Array Operand → Array TypeId → KC → KRec → KE → U KB → Nat → KO)
    (fun f args _ K rec e hp cnt => applyK K rec (evalF f e) (args.toList.map (evalK e)) hp cnt)
    (fun recv name args _ K rec e hp cnt => invokeK K rec (evalF recv e) name (args.toList.map (evalK e)) hp cnt)
    (fun b args ts K rec e hp cnt => biF b K.E.P hp cnt ts.toList (args.toList.map (evalK e))) callee args argTypes) c
noncomputable def operF (o : Op) : KC → KRec → KE → U KB → Nat → KO :=
  Op.rec (motive := fun _ => KC → KRec → KE → U KB → Nat → KO)
    (fun x K rec e hp cnt => .ok (evalF x e) hp cnt) (fun x K rec e hp cnt => .ok (evalF x e) hp cnt)
    (fun c a b K rec e hp cnt => ooK hp cnt (pickF (evalF c e) (evalF a e) (evalF b e)))
    (fun elem K rec e hp cnt => allocF K.E.P hp cnt elem) (fun _ x K rec e hp cnt => rowNew hp cnt (evalF x e).cells)
    (fun t parts K rec e hp cnt => ooK hp cnt (buildF K.E.P e t parts.toList)) (fun t len parts K rec e hp cnt => bslK K.E e hp cnt t len parts.toList)
    (fun _ _ _ _ K rec e hp cnt => .no)
    (fun t a K rec e hp cnt => loadF K.E.P hp cnt t (evalF a e)) (fun t a x K rec e hp cnt => storeF K.E.P hp cnt t (evalF a e) (evalF x e))
    (fun _ K rec e hp cnt => .no) (fun _ K rec e hp cnt => .no)
    (fun x K rec e hp cnt => ooK hp cnt (nilCheckF (evalF x e)))
    (fun op t x y _ K rec e hp cnt => ooK hp cnt (binF K.E op t x y (evalF x e) (evalF y e)))
    (fun op t x K rec e hp cnt => ooK hp cnt (unV op (evalF x e)))
    (fun src dst x K rec e hp cnt => convF K.E.P hp cnt src dst (evalF x e))
    (fun _ _ K rec e hp cnt => .no)
    (fun t x K rec e hp cnt => hopK K.E e hp cnt (.makeInterface t x)) (fun fn a b K rec e hp cnt => hopK K.E e hp cnt (.makeFunc fn a b)) (fun t r K rec e hp cnt => hopK K.E e hp cnt (.makeMap t r)) (fun _ _ K rec e hp cnt => .no)
    (fun t l c K rec e hp cnt => hopK K.E e hp cnt (.makeSlice t l c)) (fun t x a b c K rec e hp cnt => hopK K.E e hp cnt (.slice t x a b c))
    (fun s x f K rec e hp cnt => ooK hp cnt (fieldAddrF K.E.P s (evalF x e) f)) (fun s x f K rec e hp cnt => hopK K.E e hp cnt (.field s x f))
    (fun t x i K rec e hp cnt => ooK hp cnt (indexAddrF K.E.P t (evalF x e) (evalF i e))) (fun t x i K rec e hp cnt => hopK K.E e hp cnt (.index t x i))
    (fun t m i ok K rec e hp cnt => hopK K.E e hp cnt (.lookup t m i ok)) (fun t m k x K rec e hp cnt => hopK K.E e hp cnt (.mapUpdate t m k x)) (fun _ _ _ K rec e hp cnt => .no) (fun _ _ _ _ K rec e hp cnt => .no)
    (fun t x K rec e hp cnt => hopK K.E e hp cnt (.range t x)) (fun x b K rec e hp cnt => hopK K.E e hp cnt (.next x b)) (fun x K rec e hp cnt => hopK K.E e hp cnt (.entry x))
    (fun x t a ok K rec e hp cnt => hopK K.E e hp cnt (.typeAssert x t a ok)) (fun t i K rec e hp cnt => hopK K.E e hp cnt (.extract t i))
    (fun c K rec e hp cnt => callF c K rec e hp cnt) (fun _ K rec e hp cnt => .no) (fun _ K rec e hp cnt => .no) (fun _ K rec e hp cnt => .no) (fun _ _ K rec e hp cnt => .no) (fun _ _ _ K rec e hp cnt => .no) (fun _ _ K rec e hp cnt => .no) o
theorem pickF_eq (c a b : V) : pickF c a b = match c with | .bool t => some (ifb t a b) | _ => none := by cases c <;> rfl
theorem operF_eq (o : Op) (K : KC) (rec : KRec) (e : KE) (hp : U KB) (cnt : Nat) : operF o K rec e hp cnt = operK K rec e hp cnt o := by
  cases o with
  | move x => show KO.ok (evalF x e) hp cnt = _; rw [evalF_eq]; rfl
  | assign x => show KO.ok (evalF x e) hp cnt = _; rw [evalF_eq]; rfl
  | pick c a b => show ooK hp cnt (pickF (evalF c e) (evalF a e) (evalF b e)) = _; rw [pickF_eq, evalF_eq, evalF_eq, evalF_eq]; rfl
  | box t x => show rowNew hp cnt (evalF x e).cells = _; rw [evalF_eq]; rfl
  | load t a => show loadF K.E.P hp cnt t (evalF a e) = _; rw [loadF_eq, evalF_eq]; rfl
  | store t a x => show storeF K.E.P hp cnt t (evalF a e) (evalF x e) = _; rw [storeF_eq, evalF_eq, evalF_eq]; rfl
  | nilCheck x => show ooK hp cnt (nilCheckF (evalF x e)) = _; rw [nilCheckF_eq, evalF_eq]; rfl
  | binOp op t x y yt => show ooK hp cnt (binF K.E op t x y (evalF x e) (evalF y e)) = _; rw [binF_eq, evalF_eq, evalF_eq]; rfl
  | unOp op t x => show ooK hp cnt (unV op (evalF x e)) = _; rw [evalF_eq]; rfl
  | convert s d x => show convF K.E.P hp cnt s d (evalF x e) = _; rw [convF_eq, evalF_eq]; rfl
  | fieldAddr s x f => show ooK hp cnt (fieldAddrF K.E.P s (evalF x e) f) = _; rw [fieldAddrF_eq, evalF_eq]; rfl
  | indexAddr t x i => show ooK hp cnt (indexAddrF K.E.P t (evalF x e) (evalF i e)) = _; rw [indexAddrF_eq, evalF_eq, evalF_eq]; rfl
  | call c =>
    obtain ⟨callee, args, ts⟩ := c
    cases callee with
    | value f => show applyK K rec (evalF f e) _ hp cnt = _; rw [evalF_eq]; rfl
    | invoke r n => show invokeK K rec (evalF r e) n _ hp cnt = _; rw [evalF_eq]; rfl
    | builtin b => rfl
  | _ => rfl

noncomputable def dstF (n : Nat) (d : Option Tmp) : Bool := Option.rec true (fun d => Nat.ble (Nat.succ d) n) d
noncomputable def opF (ops : Array Oper) (n : Nat) (K : KC) (rec : KRec) (dst : Option Tmp) (op : Op) (g : Option (Nat × Bool)) (ih : KE → U KB → Nat → KR) (e : KE) (hp : U KB) (cnt : Nat) : KR :=
  ifb (dstF n dst) (Option.rec (KO.rec .no (fun v hp cnt => ih (putK e dst v) hp cnt) (operF op K rec e hp cnt))
    (fun g => Option.rec .no (fun w => Bool.rec (ih (putK e dst V.undef) hp cnt) (KO.rec .no (fun v hp cnt => ih (putK e dst v) hp cnt) (operF op K rec e hp cnt)) w)
      (Option.rec none (fun t => match KE.look t e with | .bool b => some (b == g.2) | .poison => none | _ => some false) (gdst ops g.1))) g) .no
noncomputable def opsF (K : KC) (rec : KRec) (ops : Array Oper) (n : Nat) (l : List Oper) : KE → U KB → Nat → KR :=
  List.rec (motive := fun _ => KE → U KB → Nat → KR) (fun e hp cnt => .ok .normal e hp cnt) (fun o _ ih e hp cnt =>
    Oper.rec (motive := fun _ => KR) (fun dst op _ _ _ g => opF ops n K rec dst op g ih e hp cnt) o) l
theorem opsF_eq (K : KC) (rec : KRec) (ops : Array Oper) (fn : Nat) : ∀ (l : List Oper) (e : KE) (hp : U KB) (cnt : Nat), opsF K rec ops (ntT K.E.P fn) l e hp cnt = opsK K rec ops fn l e hp cnt
  | [], e, hp, cnt => rfl
  | o :: r, e, hp, cnt => by
    obtain ⟨dst, op, ty, pos, after, g⟩ := o
    have ih := opsF_eq K rec ops fn r
    have e1 : opsF K rec ops (ntT K.E.P fn) r = opsK K rec ops fn r := by funext a b c; exact ih a b c
    show opF ops (ntT K.E.P fn) K rec dst op g (opsF K rec ops (ntT K.E.P fn) r) e hp cnt = _
    rw [e1]
    unfold opF
    rw [operF_eq]
    cases g <;> rfl

noncomputable def exitN (x : Exit) : KR → KR → KR := Exit.rec (motive := fun _ => KR → KR → KR) (fun a _ => a) (fun _ _ b => b) (fun _ _ b => b) (fun _ b => b) (fun _ _ b => b) (fun _ b => b) x
noncomputable def seqF (rec : KRec) (b : Code) (fn : Nat) (r : KR) : KR := KR.rec .no (fun x e hp cnt => exitN x (rec b fn e hp cnt) (.ok x e hp cnt)) r
theorem seqF_eq (rec : KRec) (b : Code) (fn : Nat) (r : KR) : seqF rec b fn r = seqR rec b fn r := by
  cases r with
  | no => rfl
  | ok x e hp cnt => cases x <;> rfl
noncomputable def endF (mask : Nat) (e0 : KE) (ops : Array Oper) (r : KR) : KR := KR.rec .no (fun _ e' hp' cnt' => .ok .normal (endK mask e' ops.toList e0) hp' cnt') r
noncomputable def regionF (K : KC) (rec : KRec) (ops : Array Oper) (draw : Bool) (fn : Nat) (e : KE) (hp : U KB) (cnt : Nat) : KR :=
  Bool.rec (endF (K.mask fn) e ops (opsF K rec ops (ntT K.E.P fn) ops.toList e hp cnt))
    (List.rec (drawK' K rec ops fn e hp cnt) (fun _ _ _ => ifb (permOk (K.ord ops) ops.size) (drawK' K rec (permA (K.ord ops) ops) fn e hp cnt) .no) (K.ord ops)) draw
theorem regionF_eq (K : KC) (rec : KRec) (ops : Array Oper) (draw : Bool) (fn : Nat) (e : KE) (hp : U KB) (cnt : Nat) : regionF K rec ops draw fn e hp cnt = regionK K rec ops draw fn e hp cnt := by
  cases draw with
  | false =>
    show endF (K.mask fn) e ops (opsF K rec ops (ntT K.E.P fn) ops.toList e hp cnt) = _
    rw [opsF_eq]
    rfl
  | true => rfl
noncomputable def condF (v : V) (rec : KRec) (a b : Code) (fn : Nat) (e : KE) (hp : U KB) (cnt : Nat) : KR := cBool v .no fun t => rec (ifb t a b) fn e hp cnt
noncomputable def stepF (c : Code) : KC → KRec → Nat → KE → U KB → Nat → KR :=
  Code.rec (motive := fun _ => KC → KRec → Nat → KE → U KB → Nat → KR)
    (fun K rec fn e hp cnt => .ok .normal e hp cnt)
    (fun _ ops draw K rec fn e hp cnt => regionF K rec ops draw fn e hp cnt)
    (fun a b _ _ K rec fn e hp cnt => seqF rec b fn (rec a fn e hp cnt))
    (fun x a b _ _ K rec fn e hp cnt => condF (evalF x e) rec a b fn e hp cnt)
    (fun id c _ K rec fn e hp cnt => blockR id (rec c fn e hp cnt))
    (fun body _ K rec fn e hp cnt => ifb (K.E.hint fn ((firstRegion body).getD 0)).isEmpty (seqF rec (.loop body) fn (rec body fn e hp cnt)) .no)
    (fun f ps assign body _ _ K rec fn e hp cnt => rangeFK K rec f ps.toList assign body fn e hp cnt)
    (fun id K rec fn e hp cnt => .ok (.exit id) e hp cnt)
    (fun c _ K rec fn e hp cnt => scopeR rec c fn (rec c fn e hp cnt))
    (fun _ K rec fn e hp cnt => .ok .normal e hp cnt)
    (fun l K rec fn e hp cnt => .ok (.goto l) e hp cnt)
    (fun K rec fn e hp cnt => .ok .ret e hp cnt)
    (fun _ K rec fn e hp cnt => .no) c
theorem stepF_eq (K : KC) (rec : KRec) (c : Code) (fn : Nat) (e : KE) (hp : U KB) (cnt : Nat) : stepF c K rec fn e hp cnt = stepK K rec c fn e hp cnt := by
  cases c with
  | region id ops draw => exact regionF_eq K rec ops draw fn e hp cnt
  | seq a b => exact seqF_eq rec b fn _
  | loop body => show ifb _ (seqF rec (.loop body) fn (rec body fn e hp cnt)) _ = _; rw [seqF_eq]; rfl
  | cond x a b =>
    show condF (evalF x e) rec a b fn e hp cnt = _
    rw [evalF_eq]
    show cBool (evalK e x) .no (fun t => rec (ifb t a b) fn e hp cnt) = (match evalK e x with | .bool t => rec (ifb t a b) fn e hp cnt | _ => .no)
    generalize evalK e x = v
    cases v <;> rfl
  | _ => rfl
noncomputable def evF (K : KC) (n : Nat) : KRec := Nat.rec (motive := fun _ => KRec) (fun _ _ _ _ _ => .no) (fun _ ih c fn e hp cnt => stepF c K ih fn e hp cnt) n
theorem evF_eq (K : KC) : ∀ n, evF K n = evK' K n
  | 0 => rfl
  | n + 1 => by
    funext c fn e hp cnt
    show stepF c K (evF K n) fn e hp cnt = stepK K (evK' K n) c fn e hp cnt
    rw [stepF_eq, evF_eq K n]
noncomputable def normF (args : List V) : (List V → KO) → KO :=
  List.rec (motive := fun _ => (List V → KO) → KO) (fun f => f []) (fun v _ ih f => cIntKO v (ih fun r => f (v :: r)) fun k n => Int.rec (motive := fun _ => KO) (fun m => nforce m fun m => ih fun r => f (.int k (Int.ofNat m) :: r)) (fun _ => ih fun r => f (v :: r)) n) args
theorem normF_eq : ∀ (args : List V) (f : List V → KO), normF args f = f args
  | [], f => rfl
  | v :: r, f => by
    have ih := normF_eq r
    show cIntKO v (normF r fun r => f (v :: r)) (fun k n => Int.rec (motive := fun _ => KO) (fun m => nforce m fun m => normF r fun r => f (.int k (Int.ofNat m) :: r)) (fun _ => normF r fun r => f (v :: r)) n) = _
    cases v <;> first
      | (show normF r _ = _; rw [ih]; done)
      | skip
    rename_i k n
    cases n with
    | ofNat m => show nforce m (fun m => normF r fun r => f (.int k (Int.ofNat m) :: r)) = _; rw [nforce_eq, ih]
    | negSucc m => show normF r _ = _; rw [ih]
noncomputable def pureG (K : KC) (n f : Nat) (args : List V) (hp : U KB) (cnt : Nat) : KO := ifb (V.bareL args) (normF args fun a => ooK hp cnt (pureK K (evF K n) f a)) .no
noncomputable def withPF (K : KC) (n : Nat) (L : List Nat) (E : Env) : KC := { K with E := E, kn := fun g => if L.any (Nat.beq g) then some (pureG K n g) else K.kn g }
noncomputable def withF (K : KC) (n : Nat) (L : List Nat) (E : Env) : KC := { K with E := E, kn := fun g => if L.any (Nat.beq g) then some (bodyDK K (evF K n) g) else K.kn g }
noncomputable def trueF (K : KC) (n f : Nat) : Bool := KO.rec false (fun v _ _ => match v with | .bool b => b | _ => false) (callK K (evF K n) f [] (U.set (.oth (.it none 77 [] 77)) (U.new (.oth .dead)) 0) 1)
end Go.Sim.Kr
end
section
namespace Go.Sim.Kr
open Go Go.Sim
set_option linter.unusedVariables false
set_option linter.unusedSimpArgs false

def Msk (mask : Nat) (e : KE) : Prop := ∀ t, bitK mask t = false → KE.look t e = .poison
def VR (v v' : V) : Prop := v = .poison ∨ v = v'
def AR : List V → List V → Prop
  | [], [] => True
  | v :: r, v' :: r' => VR v v' ∧ AR r r'
  | _, _ => False
theorem AR.length : ∀ {a b : List V}, AR a b → a.length = b.length
  | [], [], _ => rfl
  | _ :: r, _ :: r', h => by simp only [List.length_cons]; rw [AR.length h.2]
  | [], _ :: _, h => h.elim
  | _ :: _, [], h => h.elim
theorem AR.append : ∀ {a b c d : List V}, AR a b → AR c d → AR (a ++ c) (b ++ d)
  | [], [], c, d, _, h => h
  | _ :: r, _ :: r', c, d, h, h' => ⟨h.1, AR.append h.2 h'⟩
  | [], _ :: _, _, _, h, _ => h.elim
  | _ :: _, [], _, _, h, _ => h.elim
theorem AR.refl : ∀ (a : List V), AR a a
  | [] => trivial
  | v :: r => ⟨.inr rfl, AR.refl r⟩
theorem AR.get : ∀ {a b : List V} {i : Nat} {v : V}, AR a b → a[i]? = some v → ∃ v', b[i]? = some v' ∧ VR v v'
  | [], [], i, v, _, h => by simp at h
  | x :: r, x' :: r', 0, v, h, hi => ⟨x', rfl, by simp only [List.getElem?_cons_zero, Option.some.injEq] at hi; subst hi; exact h.1⟩
  | x :: r, x' :: r', i + 1, v, h, hi => by
    simp only [List.getElem?_cons_succ] at hi ⊢
    exact AR.get h.2 hi
  | [], _ :: _, _, _, h, _ => h.elim
  | _ :: _, [], _, _, h, _ => h.elim
theorem AR.np : ∀ {a b : List V}, AR a b → npL a = true → a = b
  | [], [], _, _ => rfl
  | v :: r, v' :: r', h, hn => by
    simp only [npL, Bool.and_eq_true] at hn
    have h1 : v = v' := by
      rcases h.1 with h1 | h1
      · exact absurd h1 (np_ne hn.1)
      · exact h1
    rw [h1, AR.np h.2 hn.2]
  | [], _ :: _, h, _ => h.elim
  | _ :: _, [], h, _ => h.elim
mutual
theorem bare_np : ∀ (v : V), V.bare v = true → V.np v = true
  | v, h => by cases v <;> first | rfl | exact absurd h (by simp [V.bare])
end
theorem bareL_np : ∀ (l : List V), V.bareL l = true → npL l = true
  | [], _ => rfl
  | v :: r, h => by
    simp only [V.bareL, Bool.and_eq_true] at h
    simp only [npL, bare_np v h.1, bareL_np r h.2, Bool.and_self]

theorem KE.joinE_eq (i : Nat) (v : V) (t : KE) : KE.joinE i v t = .cons i v t := by cases t <;> rfl
theorem KE.look_upd (t d : Nat) (v : V) : ∀ (e : KE), KE.look t (KE.upd d v e) = if d = t then v else KE.look t e
  | .nil => by
    show KE.look t (.cons d v .nil) = _
    rw [KE.look_cons]
  | .cons i w r => by
    have ih := KE.look_upd t d v r
    show KE.look t (@Bool.rec (fun _ => KE) (KE.joinE i w (KE.upd d v r)) (.cons i v r) (Nat.beq i d)) = _
    rw [KE.joinE_eq, beq_dec]
    by_cases hid : i = d
    · subst hid
      rw [decide_eq_true rfl]
      show KE.look t (.cons i v r) = _
      rw [KE.look_cons, KE.look_cons]
      split <;> rfl
    · rw [decide_eq_false hid]
      show KE.look t (.cons i w (KE.upd d v r)) = _
      rw [KE.look_cons, KE.look_cons, ih]
      by_cases h1 : i = t
      · rw [if_pos h1, if_neg (fun h => hid (h1.trans h.symm)), if_pos h1]
      · rw [if_neg h1, if_neg h1]
theorem Msk.nil (mask : Nat) : Msk mask .nil := fun _ _ => rfl
theorem Msk.upd {mask : Nat} {e : KE} (h : Msk mask e) {d : Nat} (v : V) (hd : bitK mask d = true ∨ v = .poison) : Msk mask (KE.upd d v e) := fun t ht => by
  rw [KE.look_upd]
  split
  · rename_i hdt
    subst hdt
    rcases hd with hd | hd
    · rw [hd] at ht; cases ht
    · exact hd
  · exact h t ht
theorem frameK_cons (mask : Nat) (v : V) (r : List V) (i : Nat) : frameK mask (v :: r) i = if bitK mask i = true then .cons i v (frameK mask r (i + 1)) else frameK mask r (i + 1) := by
  show @Bool.rec (fun _ => KE) (frameK mask r (Nat.succ i)) (.cons i v (frameK mask r (Nat.succ i))) (bitK mask i) = _
  cases bitK mask i <;> rfl
theorem frameK_look (mask : Nat) : ∀ (args : List V) (i t : Nat), KE.look t (frameK mask args i) = .poison ∨ (bitK mask t = true ∧ i ≤ t ∧ args[t - i]? = some (KE.look t (frameK mask args i)))
  | [], i, t => .inl rfl
  | v :: r, i, t => by
    have ih := frameK_look mask r (i + 1) t
    have go : KE.look t (frameK mask r (i + 1)) = .poison ∨ (bitK mask t = true ∧ i ≤ t ∧ (v :: r)[t - i]? = some (KE.look t (frameK mask r (i + 1)))) := by
      rcases ih with ih | ⟨h1, h2, h3⟩
      · exact .inl ih
      · refine .inr ⟨h1, by omega, ?_⟩
        rw [show t - i = (t - (i + 1)) + 1 from by omega, List.getElem?_cons_succ]
        exact h3
    rw [frameK_cons]
    split
    · rename_i hb
      rw [KE.look_cons]
      split
      · rename_i hit
        subst hit
        exact .inr ⟨hb, Nat.le_refl _, by simp⟩
      · exact go
    · exact go
theorem frameK_ok {mask : Nat} {args args' : List V} (ha : AR args args') (n : Nat) (hn : args.length ≤ n) : FR (frameK mask args 0) (args' ++ List.replicate (n - args'.length) .poison) ∧ Msk mask (frameK mask args 0) ∧ n = (args' ++ List.replicate (n - args'.length) V.poison).length := by
  refine ⟨fun t => ?_, fun t ht => ?_, ?_⟩
  · rcases frameK_look mask args 0 t with h | ⟨_, _, h⟩
    · exact .inl h
    · rw [Nat.sub_zero] at h
      obtain ⟨v', h1, h2⟩ := ha.get h
      rcases h2 with h2 | h2
      · exact .inl h2
      · refine .inr ?_
        rw [List.getElem?_append_left (by
          rcases Nat.lt_or_ge t args'.length with hl | hl
          · exact hl
          · rw [List.getElem?_eq_none hl] at h1; cases h1), h1, h2]
  · rcases frameK_look mask args 0 t with h | ⟨h, _, _⟩
    · exact h
    · rw [ht] at h; cases h
  · have := ha.length
    rw [List.length_append, List.length_replicate]; omega

def dsts : List Oper → List Nat
  | [] => []
  | o :: r => (match o.dst with | some d => [d] | none => []) ++ dsts r
theorem endK_cons (mask : Nat) (e : KE) (o : Oper) (r : List Oper) (e0 : KE) : endK mask e (o :: r) e0 = match o.dst with
    | none => endK mask e r e0
    | some d => if bitK mask d = true then endK mask e r (KE.upd d (KE.look d e) e0) else endK mask e r e0 := by
  show (Option.rec (endK mask e r e0) (fun d => @Bool.rec (fun _ => KE) (endK mask e r e0) (endK mask e r (KE.upd d (KE.look d e) e0)) (bitK mask d)) o.dst : KE) = _
  cases o.dst with
  | none => rfl
  | some d => simp only; cases bitK mask d <;> rfl
theorem endK_look {mask : Nat} {e : KE} (t : Nat) : ∀ (l : List Oper) (e0 : KE), (bitK mask t = true ∧ t ∈ dsts l ∧ KE.look t (endK mask e l e0) = KE.look t e) ∨ ((bitK mask t = false ∨ t ∉ dsts l) ∧ KE.look t (endK mask e l e0) = KE.look t e0) ∨ KE.look t (endK mask e l e0) = KE.look t e ∧ bitK mask t = true ∧ t ∈ dsts l
  | [], e0 => .inr (.inl ⟨.inr (by simp [dsts]), rfl⟩)
  | o :: r, e0 => by
    rw [endK_cons]
    cases hd : o.dst with
    | none =>
      simp only [dsts, hd, List.nil_append]
      exact endK_look t r e0
    | some d =>
      simp only [dsts, hd]
      by_cases hb : bitK mask d = true
      · rw [if_pos hb]
        rcases endK_look (e := e) t r (KE.upd d (KE.look d e) e0) with ⟨h1, h2, h3⟩ | ⟨h1, h2⟩ | ⟨h1, h2, h3⟩
        · exact .inl ⟨h1, by simp [h2], h3⟩
        · rw [KE.look_upd] at h2
          split at h2
          · rename_i hdt
            subst hdt
            exact .inl ⟨hb, by simp, h2⟩
          · rename_i hdt
            refine .inr (.inl ⟨?_, h2⟩)
            rcases h1 with h1 | h1
            · exact .inl h1
            · exact .inr (by simp [h1]; exact fun h => hdt h.symm)
        · exact .inl ⟨h2, by simp [h3], h1⟩
      · rw [if_neg hb]
        rcases endK_look (e := e) t r e0 with ⟨h1, h2, h3⟩ | ⟨h1, h2⟩ | ⟨h1, h2, h3⟩
        · exact .inl ⟨h1, by simp [h2], h3⟩
        · refine .inr (.inl ⟨?_, h2⟩)
          by_cases hdt : t = d
          · subst hdt; exact .inl (by simpa using hb)
          · rcases h1 with h1 | h1
            · exact .inl h1
            · exact .inr (by simp [h1, hdt])
        · exact .inl ⟨h2, by simp [h3], h1⟩
theorem endK_ok {mask : Nat} {e e0 : KE} {T : List V} {l : List Oper} (hf : FR e T) (hm : Msk mask e0) (hs : ∀ t, t ∉ dsts l → KE.look t e = KE.look t e0) : FR (endK mask e l e0) T ∧ Msk mask (endK mask e l e0) := by
  constructor
  · intro t
    rcases endK_look (mask := mask) (e := e) t l e0 with ⟨_, _, h⟩ | ⟨h1, h2⟩ | ⟨h, _, _⟩
    · rw [h]; exact hf t
    · rw [h2]
      rcases h1 with h1 | h1
      · exact .inl (hm t h1)
      · rw [← hs t h1]; exact hf t
    · rw [h]; exact hf t
  · intro t ht
    rcases endK_look (mask := mask) (e := e) t l e0 with ⟨h1, _, _⟩ | ⟨_, h2⟩ | ⟨_, h2, _⟩
    · rw [ht] at h1; cases h1
    · rw [h2]; exact hm t ht
    · rw [ht] at h2; cases h2

section
variable {hp hp' : U KB} {cnt cnt' : Nat} {h : Heap} {P : Program} {e : KE} {s : St}
theorem resK_ok (hh : KHR hp cnt s.heap) (hf : FR e s.tmps) : ∀ (rs : List ResultVar) {l : List V}, resK P hp cnt e rs = some l → resultsV P s rs = some l
  | [], l, hr => hr
  | r :: rs, l, hr => by
    change (Option.rec none (fun l => ResultVar.rec (fun t => ifb (V.np (KE.look t e)) (some (KE.look t e :: l)) none) (fun a t => match nilCheckV (KE.look a e) with | some p => (match loadK P hp cnt t p with | .ok v _ _ => some (v :: l) | _ => none) | none => none) r) (resK P hp cnt e rs) : Option (List V)) = some l at hr
    cases h1 : resK P hp cnt e rs with
    | none => rw [h1] at hr; cases hr
    | some l' =>
      rw [h1] at hr
      have ih := resK_ok hh hf rs h1
      have look : ∀ t, KE.look t e ≠ .poison → s.tmps.getD t .poison = KE.look t e := fun t ht => by
        rcases hf t with h2 | h2
        · exact absurd h2 ht
        · rw [List.getD_eq_getElem?_getD, h2]; rfl
      cases r with
      | tmp t =>
        obtain ⟨h2, h3⟩ := ifb_some hr
        simp only [Option.some.injEq] at h3
        simp only [resultsV, ih, Option.bind_some, look t (np_ne h2), ← h3]
      | cell a t =>
        simp only at hr
        split at hr
        · rename_i p hp1
          split at hr
          · rename_i v _ _ hl
            simp only [Option.some.injEq] at hr
            obtain ⟨g1, _, _, g2⟩ := loadK_ok hh hl
            have hne : KE.look a e ≠ .poison := fun h0 => by rw [h0] at hp1; cases hp1
            simp only [resultsV, look a hne, hp1, g1, ih, Option.bind_some, ← hr]
          · cases hr
        · cases hr
end

structure SRK (K : KC) (fn : Nat) (e : KE) (hp : U KB) (cnt : Nat) (s : St) : Prop where
  fne : s.fn = fn
  fr : FR e s.tmps
  msk : Msk (K.mask fn) e
  n : ntT K.E.P fn = s.tmps.length
  heap : KHR hp cnt s.heap
def RS (K : KC) (rec : KRec) (rec' : Rec) : Prop := ∀ c fn e hp cnt s x e' hp' cnt', SRK K fn e hp cnt s → rec c fn e hp cnt = .ok x e' hp' cnt' → ∃ s', rec' c s = some (x, s') ∧ SRK K fn e' hp' cnt' s'
def KnS (G : List V → U KB → Nat → KO) (F : List V → Heap → Option (V × Heap)) : Prop :=
  ∀ args args' hp cnt h v hp' cnt', AR args args' → KHR hp cnt h → G args hp cnt = .ok v hp' cnt' → ∃ v' h', F args' h = some (v', h') ∧ VR v v' ∧ KHR hp' cnt' h'
structure KOk (K : KC) (C : Cl) : Prop where
  keep : ∀ f, C.keep f = true
  ord : ∀ ops, C.ord ops = K.ord ops
  kn : ∀ f G, K.kn f = some G → ∃ F, K.E.known f = some F ∧ KnS G F
  knn : ∀ f, K.kn f = none → K.E.known f = none
theorem fnT_ok {P : Program} {f : Nat} {c : Code} {rs : List ResultVar} (h : fnT P f = some (c, rs)) : ∃ fn, P.funcs[f]? = some fn ∧ fn.body = some c ∧ fn.results.toList = rs ∧ ntT P f = fn.ntmps := by
  unfold fnT at h
  simp only [Option.bind_eq_some_iff, Option.map_eq_some_iff, Prod.mk.injEq] at h
  obtain ⟨fn, h1, c', h2, rfl, rfl⟩ := h
  exact ⟨fn, h1, h2, rfl, by simp only [ntT, h1]⟩
section
variable {K : KC} {rec : KRec} {rec' : Rec} {C : Cl} {hp hp' : U KB} {cnt cnt' : Nat} {h : Heap} {v : V}
theorem bodyK_ok {f : Nat} (hS : RS K rec rec') : KnS (bodyK K rec f) (bodyV K.E rec' f) := by
  intro args args' hp cnt h v hp' cnt' ha hh hr
  unfold bodyK at hr
  rw [ifb_eq] at hr
  split at hr
  case isFalse => cases hr
  rename_i hfn
  rw [ifb_eq] at hr
  split at hr
  case isFalse => cases hr
  rename_i hlen
  have hlen : args.length ≤ ntT K.E.P f := Nat.le_of_ble_eq_true hlen
  cases hft : fnT K.E.P f with
  | none => rw [hft] at hr; cases hr
  | some p =>
    obtain ⟨c, rs⟩ := p
    rw [hft] at hr
    simp only at hr
    obtain ⟨fn, h1, h2, h3, h4⟩ := fnT_ok hft
    obtain ⟨f1, f2, f3⟩ := frameK_ok (mask := K.mask f) ha (ntT K.E.P f) hlen
    cases hrec : rec c f (frameK (K.mask f) args 0) hp cnt with
    | no => rw [hrec] at hr; cases hr
    | ok x e hp1 cnt1 =>
      rw [hrec] at hr
      obtain ⟨s', g1, g2⟩ := hS c f _ hp cnt ⟨f, args' ++ List.replicate (ntT K.E.P f - args'.length) .poison, h⟩ x e hp1 cnt1 ⟨rfl, f1, f2, f3, hh⟩ hrec
      have key : (Option.rec .no (fun l => .ok (joinV l) hp1 cnt1) (resK K.E.P hp1 cnt1 e rs) : KO) = .ok v hp' cnt' → (x = .normal ∨ x = .ret) → ∃ v' h', bodyV K.E rec' f args' h = some (v', h') ∧ VR v v' ∧ KHR hp' cnt' h' := by
        intro hk hx
        cases hres : resK K.E.P hp1 cnt1 e rs with
        | none => rw [hres] at hk; cases hk
        | some l =>
          rw [hres] at hk
          injection hk with a1 a2 a3
          subst a1 a2 a3
          have hR := resK_ok g2.heap g2.fr rs hres
          refine ⟨joinV l, s'.heap, ?_, .inr rfl, g2.heap⟩
          unfold bodyV
          rw [if_pos hfn, h1]
          simp only [h2]
          rw [← h4, g1]
          rcases hx with rfl | rfl <;> simp only [h3, hR, Option.map_some]
      cases x with
      | normal => exact key hr (.inl rfl)
      | ret => exact key hr (.inr rfl)
      | exit _ => cases hr
      | goto _ => cases hr
      | panic _ => cases hr
      | outgrown => cases hr
end
end Go.Sim.Kr
end
section
namespace Go.Sim.Kr
open Go Go.Sim
set_option linter.unusedVariables false
set_option linter.unusedSimpArgs false

mutual
theorem bare_flat : ∀ (v : V), V.bare v = true → V.flat v = true ∧ V.canon v = v ∧ ∀ top, V.freeze top v = some v
  | .bool _, _ | .int _ _, _ | .float _ _, _ | .str _, _ | .nilptr, _ | .nilfunc, _ | .niliface, _ => ⟨rfl, rfl, fun _ => rfl⟩
  | .func _ [] [], _ => ⟨rfl, rfl, fun _ => rfl⟩
  | .agg cs, h => by
    simp only [V.bare] at h
    obtain ⟨h1, h2, h3⟩ := bareL_flat cs h
    exact ⟨by simp only [V.flat, h1], by simp only [V.canon, h2], fun top => by simp only [V.freeze, h3 top, Option.bind_some]⟩
  | .pref _ _ _ _, h | .pcon _ _, h | .nilslice, h | .sref _ _ _ _ _ _, h | .scon _ _ _ _, h | .iface _ _, h | .tuple _, h | .mref _ _, h | .nilmap, h | .yield _ _, h | .poison, h => by simp [V.bare] at h
  | .func _ (_ :: _) _, h => by simp [V.bare] at h
  | .func _ [] (_ :: _), h => by simp [V.bare] at h
theorem bareL_flat : ∀ (l : List V), V.bareL l = true → V.flatL l = true ∧ V.canonL l = l ∧ ∀ top, V.freezeL top l = some l
  | [], _ => ⟨rfl, rfl, fun _ => rfl⟩
  | v :: r, h => by
    simp only [V.bareL, Bool.and_eq_true] at h
    obtain ⟨h1, h2, h3⟩ := bare_flat v h.1
    obtain ⟨g1, g2, g3⟩ := bareL_flat r h.2
    exact ⟨by simp only [V.flatL, h1, g1, Bool.and_self], by simp only [V.canonL, h2, g2], fun top => by simp only [V.freezeL, h3 top, g3 top, Option.bind_some]⟩
end
theorem bareT_out (v : V) (h : V.bareT v = true) (top : Heap) : (V.freeze top v).map V.canon = some v := by
  have key : V.bare v = true → (V.freeze top v).map V.canon = some v := fun h => by
    obtain ⟨_, h2, h3⟩ := bare_flat v h
    rw [h3 top, Option.map_some, h2]
  cases v with
  | tuple vs =>
    simp only [V.bareT] at h
    obtain ⟨_, h2, h3⟩ := bareL_flat vs h
    simp only [V.freeze, h3 top, Option.bind_some, Option.map_some, V.canon, h2]
  | _ => exact key h
theorem viewArgs_bare (h : Heap) : ∀ (l : List V), V.bareL l = true → viewArgs h l = some l
  | [], _ => rfl
  | v :: r, hb => by
    simp only [V.bareL, Bool.and_eq_true] at hb
    obtain ⟨h1, h2, _⟩ := bare_flat v hb.1
    simp only [viewArgs, h1, if_true, Option.bind_some, viewArgs_bare h r hb.2, h2]

section
variable {K : KC} {rec : KRec} {rec' : Rec} {C : Cl} {hp hp' : U KB} {cnt cnt' : Nat} {h : Heap} {v : V}
theorem KHR.nil : KHR (U.new (.oth .dead)) 0 [[]] := ⟨[], [], rfl, rfl, rfl, U.Is.nil _, fun j k hj => by simp at hj⟩
theorem pureK_ok {f : Nat} (hS : RS K rec rec') {args : List V} (hr : pureK K rec f args = some v) : pureV K.E rec' f false args = some v := by
  unfold pureK at hr
  cases hb : bodyK K rec f args (U.new (.oth .dead)) 0 with
  | no => rw [hb] at hr; cases hr
  | ok r hp1 cnt1 =>
    rw [hb] at hr
    obtain ⟨h1, h2⟩ := ifb_some hr
    simp only [Option.some.injEq] at h2; subst h2
    obtain ⟨v', h', g1, g2, g3⟩ := bodyK_ok hS args args _ _ [[]] _ _ _ (AR.refl args) KHR.nil hb
    have hv : r = v' := by
      rcases g2 with g2 | g2
      · subst g2; simp [V.bareT, V.bare] at h1
      · exact g2
    subst hv
    unfold pureV
    rw [g1]
    simp only [Option.bind_some, Bool.false_and]
    exact bareT_out r h1 _
theorem pureCall_ok {f : Nat} (hk : K.E.known f = none) (hm : K.E.mode f = .pure) (hS : RS K rec rec') {args : List V} (hb : V.bareL args = true) (hr : pureK K rec f args = some v) (h : Heap) : callV K.E rec' f args h = some (v, h) := by
  unfold callV
  rw [hk, hm]
  simp only [viewArgs_bare h args hb, Option.bind_some, (bareL_flat args hb).1, Bool.not_true]
  rw [pureK_ok hS hr]
  rfl
theorem callK_ok (hK : KOk K C) (hS : RS K rec rec') (f : Nat) : KnS (callK K rec f) (callV K.E rec' f) := by
  intro args args' hp cnt h v hp' cnt' ha hh hr
  unfold callK at hr
  cases hk : K.kn f with
  | some G =>
    rw [hk] at hr
    obtain ⟨F, g1, g2⟩ := hK.kn f G hk
    obtain ⟨v', h', e1, e2⟩ := g2 args args' hp cnt h v hp' cnt' ha hh hr
    refine ⟨v', h', ?_, e2⟩
    unfold callV
    rw [g1]
    exact e1
  | none =>
    rw [hk] at hr
    have hkn := hK.knn f hk
    simp only [ifb_eq] at hr
    split at hr
    · rename_i hm
      have hm : K.E.mode f = .inl := by
        revert hm
        cases K.E.mode f <;> simp [isInl]
      obtain ⟨v', h', e1, e2⟩ := bodyK_ok hS args args' hp cnt h v hp' cnt' ha hh hr
      refine ⟨v', h', ?_, e2⟩
      unfold callV
      rw [hkn, hm]
      exact e1
    · split at hr
      case isFalse => cases hr
      rename_i hm
      have hm : K.E.mode f = .pure := by
        revert hm
        cases K.E.mode f <;> simp [isPure]
      split at hr
      case isFalse => cases hr
      rename_i hb
      obtain rfl := ha.np (bareL_np args hb)
      obtain ⟨f1, rfl, rfl⟩ := ooK_ok hr
      exact ⟨v, h, pureCall_ok hkn hm hS hb f1 h, .inr rfl, hh⟩

theorem lpK_ok {β : Type} (hh : KHR hp cnt h) {d j : Nat} {z r : β} {k : Nat → Nat → KE → Bool → List Tmp → Code → Code → Bool → Option Code → β} (hr : lpK hp cnt d j z k = r) (hz : z ≠ r) :
    d = 0 ∧ j < cnt ∧ ∃ fn n e x ps a b rd pd tmps, h.get 0 j = some (.loop fn tmps ps a b rd pd) ∧ FR e tmps ∧ n = tmps.length ∧ (x = true → ∀ t v, tmps[t]? = some v → v = .poison ∨ v = KE.look t e) ∧ k fn n e x ps a b rd pd = r := by
  unfold lpK at hr
  rw [ifb_eq] at hr
  split at hr
  case isFalse => exact absurd hr hz
  rename_i h1
  obtain rfl := Nat.eq_of_beq_eq_true h1
  rw [ifb_eq] at hr
  split at hr
  case isFalse => exact absurd hr hz
  rename_i h2
  have hj : j < cnt := Nat.le_of_ble_eq_true h2
  refine ⟨rfl, hj, ?_⟩
  obtain ⟨b, e1, e2⟩ := hh.get hj
  cases h3 : U.get hp j with
  | row _ _ _ _ _ _ => rw [h3] at hr; exact absurd hr hz
  | oth _ => rw [h3] at hr; exact absurd hr hz
  | lp fn n e x ps a b' rd pd =>
    rw [h3] at hr e2
    obtain ⟨tmps, rfl, g1, g2, g3⟩ := e2
    exact ⟨fn, n, e, x, ps, a, b', rd, pd, tmps, e1, g1, g2, g3, hr⟩
theorem KHR.lp (hh : KHR hp cnt h) {j : Nat} (hj : j < cnt) {fn n : Nat} {e : KE} {x : Bool} {ps : List Tmp} {a b : Code} {rd : Bool} {pd : Option Code} {tmps : List V} (h1 : FR e tmps) (h2 : n = tmps.length)
    (h3 : x = true → ∀ t v, tmps[t]? = some v → v = .poison ∨ v = KE.look t e) : KHR (U.set (.lp fn n e x ps a b rd pd) hp j) cnt (h.set 0 j (.loop fn tmps ps a b rd pd)) := hh.set hj ⟨tmps, rfl, h1, h2, h3⟩
theorem setArgs_length : ∀ (ps : List Tmp) (vs tmps : List V), (setArgs tmps ps vs).length = tmps.length
  | [], vs, tmps => by unfold setArgs; rfl
  | p :: ps, [], tmps => by unfold setArgs; rfl
  | p :: ps, v :: vs, tmps => by
    unfold setArgs
    rw [setArgs_length ps vs]
    simp
theorem setArgsK_ok {mask : Nat} : ∀ (ps : List Tmp) {args args' : List V} {e : KE} {tmps : List V}, AR args args' → FR e tmps → Msk mask e → (∀ p ∈ ps, p < tmps.length) → FR (setArgsK mask e ps args) (setArgs tmps ps args') ∧ Msk mask (setArgsK mask e ps args)
  | [], args, args', e, tmps, ha, hf, hm, hp => by
    unfold setArgsK setArgs
    exact ⟨hf, hm⟩
  | p :: ps, [], [], e, tmps, ha, hf, hm, hp => by
    unfold setArgsK setArgs
    exact ⟨hf, hm⟩
  | p :: ps, v :: vs, v' :: vs', e, tmps, ha, hf, hm, hp => by
    unfold setArgsK setArgs
    have hlt := hp p (by simp)
    refine setArgsK_ok ps ha.2 ?_ ?_ (fun q hq => by rw [List.length_set]; exact hp q (by simp [hq]))
    · intro t
      have look : ∀ w : V, VR w v' → (KE.look t (KE.upd p w e) = .poison ∨ (tmps.set p v')[t]? = some (KE.look t (KE.upd p w e))) := fun w hw => by
        rw [KE.look_upd]
        by_cases hpt : p = t
        · subst hpt
          rw [if_pos rfl, List.getElem?_set_self hlt]
          rcases hw with hw | hw
          · exact .inl hw
          · exact .inr (by rw [hw])
        · rw [if_neg hpt, List.getElem?_set_ne hpt]
          exact hf t
      cases bitK mask p with
      | true => exact look v ha.1
      | false => exact look .poison (.inl rfl)
    · cases hb : bitK mask p with
      | true => exact hm.upd v (.inl hb)
      | false => exact hm.upd .poison (.inr rfl)
  | p :: ps, [], _ :: _, e, tmps, ha, hf, hm, hp => ha.elim
  | p :: ps, _ :: _, [], e, tmps, ha, hf, hm, hp => ha.elim
theorem markK_ok (hh : KHR hp cnt h) (hm : markK hp cnt = true) : h.keeps = true := by
  unfold markK at hm
  obtain ⟨_, _, b, e1, _, e3⟩ := othK_ok hh hm (by simp)
  obtain ⟨top, kl, rfl, _⟩ := hh
  split at e3
  · rename_i a b'
    simp only [Bool.and_eq_true] at e3
    obtain rfl := Nat.eq_of_beq_eq_true e3.1
    obtain rfl := Nat.eq_of_beq_eq_true e3.2
    cases top with
    | nil => simp [Heap.get] at e1
    | cons t r =>
      simp only [Heap.get, List.getElem?_cons_zero, Option.bind_some, Option.some.injEq] at e1
      subst e1
      rfl
  · cases e3
theorem deadK_ok (hh : KHR hp cnt h) (k : Nat) : KHR (deadK hp cnt k) cnt (h.deadAt k) := by
  unfold deadK lpK
  have out : ∀ b, h.get 0 k = b → (∀ fn t ps a c r pd, b ≠ some (.loop fn t ps a c r pd)) → h.deadAt k = h := by
    intro b hb hne
    unfold Heap.deadAt
    split
    · rename_i hg; rw [hg] at hb; exact absurd hb.symm (hne _ _ _ _ _ _ _)
    · rfl
  show KHR (ifb (Nat.beq 0 0) _ _) cnt _
  rw [show Nat.beq 0 0 = true from rfl, ifb_true, ifb_eq]
  split
  · rename_i h2
    have hj : k < cnt := Nat.le_of_ble_eq_true h2
    obtain ⟨b, e1, e2⟩ := hh.get hj
    cases h3 : U.get hp k with
    | row c len ep esz fl pl =>
      rw [h3] at e2
      obtain ⟨cells, rfl, _⟩ := e2
      rw [out _ e1 (by simp)]
      exact hh
    | oth b' =>
      rw [h3] at e2
      obtain ⟨rfl, hb⟩ := e2
      simp only
      rw [out _ e1 (fun fn t ps a c r pd he => by simp only [Option.some.injEq] at he; subst he; cases hb)]
      exact hh
    | lp fn n e x ps a b' rd pd =>
      rw [h3] at e2
      obtain ⟨tmps, rfl, _⟩ := e2
      simp only
      unfold Heap.deadAt
      rw [e1]
      exact hh.set hj ⟨rfl, rfl⟩
  · rename_i h2
    have : h.get 0 k = none := by
      obtain ⟨top, kl, rfl, h1, _⟩ := hh
      have : cnt ≤ k := by
        rcases Nat.lt_or_ge k cnt with hl | hl
        · exact absurd (Nat.ble_eq_true_of_le hl) h2
        · exact hl
      simp only [Heap.get, List.getElem?_cons_zero, Option.bind_some]
      exact List.getElem?_eq_none (by omega)
    rw [out _ this (by simp)]
    exact hh
theorem trim_keep {s : St} (hk : s.heap.keeps = true) (k : Nat) : s.trim k = { s with heap := if s.heap.top.length = k then s.heap else s.heap.deadAt k } := by
  unfold St.trim
  split
  · rfl
  · simp [hk]
theorem deadAt_len (hh : KHR hp cnt h) : h.deadAt h.top.length = h := by
  unfold Heap.deadAt
  split
  · rename_i hg
    obtain ⟨top, kl, rfl, h1, _⟩ := hh
    simp only [Heap.get, Heap.top, List.getElem?_cons_zero, Option.bind_some, Option.getD_some] at hg
    rw [List.getElem?_eq_none (Nat.le_refl _)] at hg
    cases hg
  · rfl
theorem maskE_look (mask t : Nat) : ∀ (e : KE), KE.look t (maskE mask e) = if bitK mask t = true then KE.look t e else .poison
  | .nil => by show V.poison = _; split <;> rfl
  | .cons i v r => by
    have ih := maskE_look mask t r
    show KE.look t (@Bool.rec (fun _ => KE) (maskE mask r) (.cons i v (maskE mask r)) (bitK mask i)) = _
    cases hb : bitK mask i with
    | true =>
      show KE.look t (.cons i v (maskE mask r)) = _
      rw [KE.look_cons, KE.look_cons, ih]
      by_cases hit : i = t
      · subst hit; rw [if_pos rfl, if_pos rfl, if_pos hb]
      · rw [if_neg hit, if_neg hit]
    | false =>
      show KE.look t (maskE mask r) = _
      rw [KE.look_cons, ih]
      by_cases hit : i = t
      · subst hit; rw [if_neg (by rw [hb]; simp), if_neg (by rw [hb]; simp)]
      · rw [if_neg hit]
theorem FR.maskE {e : KE} {T : List V} (hf : FR e T) (mask : Nat) : FR (Kr.maskE mask e) T ∧ Msk mask (Kr.maskE mask e) := by
  constructor
  · intro t
    rw [maskE_look]
    split
    · exact hf t
    · exact .inl rfl
  · intro t ht
    rw [maskE_look, if_neg (by rw [ht]; simp)]
theorem roundK_ok (hK : KOk K C) (hS : RS K rec rec') (d j : Nat) : KnS (roundK K rec d j) (roundV rec' d j) := by
  intro args args' hp cnt h v hp' cnt' ha hh hr
  unfold roundK at hr
  obtain ⟨rfl, hj, fn, n, e, x, ps, a, b, rd, pd, tmps, g1, g2, g3, gx, hr⟩ := lpK_ok hh hr (by simp)
  rw [ifb_eq] at hr
  split at hr
  case isFalse => cases hr
  rename_i hrd
  subst hrd
  cases pd with
  | some _ => cases hr
  | none =>
    simp only at hr
    rw [ifb_eq] at hr
    split at hr
    case isFalse => cases hr
    rename_i hc
    simp only [Bool.and_eq_true] at hc
    have hlen : args.length = ps.length := Nat.eq_of_beq_eq_true hc.1
    have hnt : ntT K.E.P fn = n := Nat.eq_of_beq_eq_true hc.2
    rw [ifb_eq] at hr
    split at hr
    case isFalse => cases hr
    rename_i hps
    have hps : ∀ p ∈ ps, p < tmps.length := fun p hp => by
      have h1 := List.all_eq_true.1 hps p hp
      rw [← g3]
      exact Nat.le_of_ble_eq_true h1
    obtain ⟨m1, m2⟩ := FR.maskE g2 (K.mask fn)
    obtain ⟨k1, k2⟩ := setArgsK_ok ps ha m1 m2 hps
    cases hra : rec a fn (setArgsK (K.mask fn) (Kr.maskE (K.mask fn) e) ps args) hp cnt with
    | no => rw [hra] at hr; cases hr
    | ok x1 e1 hp1 cnt1 =>
      rw [hra] at hr
      obtain ⟨s1, r1, r2⟩ := hS a fn _ hp cnt ⟨fn, setArgs tmps ps args', h⟩ x1 e1 hp1 cnt1 ⟨rfl, k1, k2, by rw [setArgs_length, hnt, g3], hh⟩ hra
      cases x1 with
      | normal =>
        simp only at hr
        obtain ⟨_, hj1, fn', n', e', x', ps', a', b', rd', pd', tmps', q1, q2, q3, qx, hr⟩ := lpK_ok r2.heap hr (by simp)
        rw [ifb_eq] at hr
        split at hr
        case isFalse => cases hr
        rename_i hrd'
        subst hrd'
        cases pd' with
        | some _ => cases hr
        | none =>
          simp only at hr
          cases hrb : rec b fn e1 (U.set (.lp fn' n' e' x' ps' a' b' false none) hp1 j) cnt1 with
          | no => rw [hrb] at hr; cases hr
          | ok x2 e2 hp2 cnt2 =>
            rw [hrb] at hr
            have hh1 := KHR.lp (rd := false) (pd := none) (a := a') (b := b') (fn := fn') (ps := ps') r2.heap hj1 q2 q3 qx
            obtain ⟨s2, t1, t2⟩ := hS b fn e1 _ cnt1 { s1 with heap := s1.heap.set 0 j (.loop fn' tmps' ps' a' b' false none) } x2 e2 hp2 cnt2 ⟨r2.fne, r2.fr, r2.msk, r2.n, hh1⟩ hrb
            simp only at hr
            cases hjp : jumpK x2 with
            | none => rw [hjp] at hr; cases hr
            | some p =>
              rw [hjp] at hr
              simp only at hr
              obtain ⟨_, hj2, fn2, n2, e3, x3, ps2, a2, b2, rd2, pd2, tmps2, u1, u2, u3, ux, hr⟩ := lpK_ok t2.heap hr (by simp)
              rw [U.seq_eq, ifb_eq] at hr
              split at hr
              case isFalse => cases hr
              rename_i hmk
              rw [U.seq_eq] at hr
              injection hr with y1 y2 y3
              subst y1 y2 y3
              have hh2 := KHR.lp (rd := p.isNone) (pd := p) (a := a2) (b := b2) (fn := fn2) (ps := ps2) t2.heap hj2 u2 u3 ux
              have hkp := markK_ok hh2 hmk
              have hlen' : args'.length = ps.length := by rw [← ha.length]; exact hlen
              refine ⟨.bool p.isNone, (s2.heap.set 0 j (.loop fn2 tmps2 ps2 a2 b2 p.isNone p)).deadAt cnt, ?_, .inr rfl, deadK_ok hh2 cnt⟩
              unfold roundV
              rw [g1]
              simp only [hlen', if_true, Option.bind_some, List.drop_zero, List.take_zero, List.nil_append]
              rw [r1]
              simp only [q1, t1]
              have hfin : ((St.mk s2.fn [] (s2.heap.set 0 j (.loop fn2 tmps2 ps2 a2 b2 p.isNone p))).trim h.top.length).heap = (s2.heap.set 0 j (.loop fn2 tmps2 ps2 a2 b2 p.isNone p)).deadAt cnt := by
                rw [trim_keep hkp, hh.top]
                show (if _ then _ else _) = _
                split
                · rename_i hl
                  rw [← hl]
                  exact (deadAt_len hh2).symm
                · rfl
              cases x2 <;> first
                | (cases hjp; done)
                | (simp only [jumpK, Option.some.injEq] at hjp; subst hjp; simp only [Option.bind_some, u1, hfin])
      | _ => cases hr
theorem applyK_ok (hK : KOk K C) (hS : RS K rec rec') {f f' : V} (hf : VR f f') : KnS (applyK K rec f) (applyV K.E rec' f') := by
  intro args args' hp cnt h v hp' cnt' ha hh hr
  unfold applyK at hr
  split at hr
  · rename_i g first captured
    have : f' = .func (.func g) first captured := by rcases hf with hf | hf; cases hf; exact hf.symm
    subst this
    exact callK_ok hK hS g _ _ hp cnt h v hp' cnt' (((AR.refl first).append ha).append (AR.refl captured)) hh hr
  · rename_i d j
    have : f' = .yield d j := by rcases hf with hf | hf; cases hf; exact hf.symm
    subst this
    exact roundK_ok hK hS d j args args' hp cnt h v hp' cnt' ha hh hr
  · cases hr
def methR (P : Program) (h : Heap) (f : Nat) (v : V) : Option TypeId → Option (FuncId × V)
  | none => some (f, v)
  | some elem => (nilCheckV v).bind fun p => (loadV P h elem p).map fun x => (f, x)
theorem methT_ok {P : Program} {t : TypeId} {name : String} {f : Nat} {l : Option TypeId} (hm : methT P t name = some (f, l)) (v : V) (h : Heap) :
    methodV P h (.iface t v) name = methR P h f v l := by
  unfold methT at hm
  simp only [Option.bind_eq_some_iff] at hm
  obtain ⟨i, h1, m, h2, h3⟩ := hm
  unfold methodV
  simp only [h1, h2, Option.bind_some]
  split at h3
  case isFalse => cases h3
  rename_i hp
  rw [if_pos hp]
  cases hmf : m.func with
  | none => rw [hmf] at h3; cases h3
  | some p =>
    obtain ⟨f0, ptr⟩ := p
    rw [hmf] at h3
    simp only at h3 ⊢
    cases hu : P.underlying t with
    | none => rw [hu] at h3; cases ptr <;> cases h3
    | some d =>
      rw [hu] at h3
      cases d <;> cases ptr <;> first
        | (cases h3; done)
        | (simp only [Option.some.injEq, Prod.mk.injEq] at h3; obtain ⟨rfl, rfl⟩ := h3; rfl)
theorem invokeK_ok (hK : KOk K C) (hS : RS K rec rec') {rv rv' : V} (hf : VR rv rv') (name : String) {args args' : List V} (ha : AR args args') (hh : KHR hp cnt h) (hr : invokeK K rec rv name args hp cnt = .ok v hp' cnt') :
    ∃ v' h', ((methodV K.E.P h rv' name).bind fun (f, r) => callV K.E rec' f (r :: args') h) = some (v', h') ∧ VR v v' ∧ KHR hp' cnt' h' := by
  unfold invokeK at hr
  split at hr
  case h_2 => cases hr
  rename_i t w
  have : rv' = .iface t w := by rcases hf with hf | hf; cases hf; exact hf.symm
  subst this
  cases hm : methT K.E.P t name with
  | none => rw [hm] at hr; cases hr
  | some p =>
    obtain ⟨f, l⟩ := p
    rw [hm] at hr
    rw [methT_ok hm]
    cases l with
    | none =>
      obtain ⟨v', h', e1, e2⟩ := callK_ok hK hS f (w :: args) (w :: args') hp cnt h v hp' cnt' ⟨.inr rfl, ha⟩ hh hr
      exact ⟨v', h', e1, e2⟩
    | some elem =>
      simp only at hr
      cases hl : loadK K.E.P hp cnt elem w with
      | no => rw [hl] at hr; cases hr
      | ok x hp1 cnt1 =>
        rw [hl] at hr
        obtain ⟨g1, _, _, g2⟩ := loadK_ok hh hl
        obtain ⟨v', h', e1, e2⟩ := callK_ok hK hS f (x :: args) (x :: args') hp cnt h v hp' cnt' ⟨.inr rfl, ha⟩ hh hr
        refine ⟨v', h', ?_, e2⟩
        have hnc : nilCheckV w = some w := by
          unfold loadK at hl
          split at hl
          · rfl
          · cases hl
        simp only [methR, hnc, g1, Option.bind_some, Option.map_some]
        exact e1
theorem evalL_AR {e : KE} {T : List V} (hf : FR e T) : ∀ (l : List Operand), AR (l.map (evalK e)) (l.map (evalT T))
  | [] => trivial
  | x :: r => ⟨hf.eval x, evalL_AR hf r⟩
theorem operK_ok (hK : KOk K C) (hS : RS K rec rec') {e : KE} {T : List V} (hf : FR e T) (hh : KHR hp cnt h) {o : Op} (hr : operK K rec e hp cnt o = .ok v hp' cnt') :
    ∃ v' h', operV K.E rec' T h o = some (v', h') ∧ VR v v' ∧ KHR hp' cnt' h' := by
  cases o with
  | call c =>
    obtain ⟨callee, args, ts⟩ := c
    cases callee with
    | value f =>
      exact applyK_ok hK hS (hf.eval f) _ _ hp cnt h v hp' cnt' (evalL_AR hf args.toList) hh hr
    | invoke r n =>
      exact invokeK_ok hK hS (hf.eval r) n (evalL_AR hf args.toList) hh hr
    | builtin b =>
      exact hopK_ok hh hf (o := .call ⟨.builtin b, args, ts⟩) hr
  | _ => (have hr' := hr; unfold operK at hr'; exact hopK_ok hh hf hr')
end
end Go.Sim.Kr
end
section
namespace Go.Sim.Kr
open Go Go.Sim
set_option linter.unusedVariables false
set_option linter.unusedSimpArgs false

section
variable {K : KC} {rec : KRec} {rec' : Rec} {C : Cl} {hp hp' : U KB} {cnt cnt' : Nat} {h : Heap} {v : V}
theorem wantK_ok {ops : Array Oper} {e : KE} {T : List V} (hf : FR e T) {o : Oper} {w : Bool} (hw : wantK ops e o = some w) : wantedV ops T o = some w := by
  unfold wantK at hw
  unfold wantedV
  cases hg : o.guard with
  | none => rw [hg] at hw; exact hw
  | some g =>
    obtain ⟨j, want⟩ := g
    rw [hg] at hw
    simp only at hw ⊢
    unfold gdst at hw
    cases hd : (ops[j]?).bind (·.dst) with
    | none => rw [hd] at hw; cases hw
    | some t =>
      rw [hd] at hw
      simp only [Option.bind_some] at hw ⊢
      rcases hf t with h1 | h1
      · rw [h1] at hw; cases hw
      · rw [h1]
        revert hw
        cases KE.look t e <;> intro hw <;> first | exact hw | cases hw
structure After (e e' : KE) (hp' : U KB) (cnt' : Nat) (l : List Oper) (s s' : St) : Prop where
  fr : FR e' s'.tmps
  len : s'.tmps.length = s.tmps.length
  fn : s'.fn = s.fn
  heap : KHR hp' cnt' s'.heap
  same : ∀ t, t ∉ dsts l → KE.look t e' = KE.look t e
theorem putT_length (T : List V) (d : Option Tmp) (v : V) : (putT T d v).length = T.length := by cases d <;> simp [putT]
theorem look_put {e : KE} {d : Option Tmp} {v : V} {t : Nat} (h : ∀ x, d = some x → x ≠ t) : KE.look t (putK e d v) = KE.look t e := by
  cases d with
  | none => rfl
  | some x => simp only [putK]; rw [KE.look_cons, if_neg (h x rfl)]
theorem dsts_cons {o : Oper} {r : List Oper} {t : Nat} (h : t ∉ dsts (o :: r)) : (∀ x, o.dst = some x → x ≠ t) ∧ t ∉ dsts r := by
  simp only [dsts, List.mem_append, not_or] at h
  refine ⟨fun x hx he => ?_, h.2⟩
  rw [hx] at h
  subst he
  exact h.1 (by simp)
theorem dst_lt {fn : Nat} {o : Oper} {n : Nat} (hd : dstK K fn o = true) (hn : ntT K.E.P fn = n) : ∀ d, o.dst = some d → d < n := by
  intro d ho
  unfold dstK at hd
  rw [ho] at hd
  rw [← hn]
  exact Nat.le_of_ble_eq_true hd
theorem opsK_cons (ops : Array Oper) (fn : Nat) (o : Oper) (r : List Oper) (e : KE) (hp : U KB) (cnt : Nat) : opsK K rec ops fn (o :: r) e hp cnt =
    ifb (dstK K fn o) (Option.rec .no (fun w => Bool.rec (opsK K rec ops fn r (putK e o.dst V.undef) hp cnt) (KO.rec .no (fun v hp cnt => opsK K rec ops fn r (putK e o.dst v) hp cnt) (operK K rec e hp cnt o.op)) w) (wantK ops e o)) .no := rfl
theorem opsK_ok (hK : KOk K C) (hS : RS K rec rec') {ops : Array Oper} {fn : Nat} : ∀ (l : List Oper) {e : KE} {hp : U KB} {cnt : Nat} {s : St} {x : Exit} {e' : KE} {hp' : U KB} {cnt' : Nat},
    FR e s.tmps → ntT K.E.P fn = s.tmps.length → KHR hp cnt s.heap → opsK K rec ops fn l e hp cnt = .ok x e' hp' cnt' → ∃ s', opsV K.E rec' ops l s = some s' ∧ After e e' hp' cnt' l s s'
  | [], e, hp, cnt, s, x, e', hp', cnt', hf, hn, hh, hr => by
    injection hr with a1 a2 a3 a4
    subst a1 a2 a3 a4
    exact ⟨s, rfl, hf, rfl, rfl, hh, fun _ _ => rfl⟩
  | o :: r, e, hp, cnt, s, x, e', hp', cnt', hf, hn, hh, hr => by
    rw [opsK_cons, ifb_eq] at hr
    split at hr
    case isFalse => cases hr
    rename_i hd
    cases hw : wantK ops e o with
    | none => rw [hw] at hr; cases hr
    | some w =>
      rw [hw] at hr
      have hw' := wantK_ok hf hw
      have step : ∀ v v' hp1 cnt1 h1, VR v v' → KHR hp1 cnt1 h1 → valV K.E rec' ops o s.tmps s.heap = some (v', h1) → opsK K rec ops fn r (putK e o.dst v) hp1 cnt1 = .ok x e' hp' cnt' →
          ∃ s', opsV K.E rec' ops (o :: r) s = some s' ∧ After e e' hp' cnt' (o :: r) s s' := by
        intro v v' hp1 cnt1 h1 hv hh1 hval hr1
        obtain ⟨s', g1, g2⟩ := opsK_ok hK hS r (s := { s with tmps := putT s.tmps o.dst v', heap := h1 }) (hf.put o.dst hv (dst_lt hd hn)) (by simp only [putT_length]; exact hn) hh1 hr1
        refine ⟨s', by rw [opsV_cons, hval]; exact g1, g2.fr, by rw [g2.len]; exact putT_length _ _ _, g2.fn, g2.heap, fun t ht => ?_⟩
        obtain ⟨h2, h3⟩ := dsts_cons ht
        rw [g2.same t h3, look_put h2]
      cases w with
      | false =>
        exact step V.undef V.undef hp cnt s.heap (.inr rfl) hh (by simp only [valV, hw', Option.bind_some]; rfl) hr
      | true =>
        simp only at hr
        cases ho : operK K rec e hp cnt o.op with
        | no => rw [ho] at hr; cases hr
        | ok v hp1 cnt1 =>
          rw [ho] at hr
          obtain ⟨v', h1, e1, e2, e3⟩ := operK_ok hK hS hf hh ho
          exact step v v' hp1 cnt1 h1 e2 e3 (by simp only [valV, hw', Option.bind_some, if_true]; exact e1) hr
def HL : List (U KB × Nat) → List Heap → Prop
  | [], [] => True
  | x :: r, h :: r' => KHR x.1 x.2 h ∧ HL r r'
  | _, _ => False
theorem HL.length : ∀ {a : List (U KB × Nat)} {b : List Heap}, HL a b → a.length = b.length
  | [], [], _ => rfl
  | _ :: r, _ :: r', h => by simp only [List.length_cons]; rw [HL.length h.2]
  | [], _ :: _, h => h.elim
  | _ :: _, [], h => h.elim
theorem HL.get : ∀ {a : List (U KB × Nat)} {b : List Heap} {i : Nat} {x : U KB × Nat}, HL a b → a[i]? = some x → KHR x.1 x.2 (b.getD i [])
  | [], [], i, x, _, h => by simp at h
  | y :: r, h :: r', 0, x, hl, hi => by simp only [List.getElem?_cons_zero, Option.some.injEq] at hi; subst hi; exact hl.1
  | y :: r, h :: r', i + 1, x, hl, hi => by
    simp only [List.getElem?_cons_succ] at hi
    have := HL.get hl.2 hi
    simpa using this
  | [], _ :: _, _, _, h, _ => h.elim
  | _ :: _, [], _, _, h, _ => h.elim
theorem opsKH_cons (ops : Array Oper) (fn : Nat) (o : Oper) (r : List Oper) (e : KE) (hp : U KB) (cnt : Nat) : opsKH K rec ops fn (o :: r) e hp cnt =
    ifb (dstK K fn o) (Option.rec .no (fun w => Bool.rec
      (KH.rec .no (fun hs vs e' hp' cnt' => .ok ((hp, cnt) :: hs) (V.undef :: vs) e' hp' cnt') (opsKH K rec ops fn r (putK e o.dst V.undef) hp cnt))
      (KO.rec .no (fun v hp1 cnt1 => KH.rec .no (fun hs vs e' hp' cnt' => .ok ((hp, cnt) :: hs) (v :: vs) e' hp' cnt') (opsKH K rec ops fn r (putK e o.dst v) hp1 cnt1)) (operK K rec e hp cnt o.op)) w) (wantK ops e o)) .no := rfl
theorem opsH_cons {ops : Array Oper} {o : Oper} {r : List Oper} {s : St} {x : V × Heap} (hv : valV K.E rec' ops o s.tmps s.heap = some x) {y : (List Heap × List V) × St} (hy : opsH K.E rec' ops r { s with tmps := putT s.tmps o.dst x.1, heap := x.2 } = some y) :
    opsH K.E rec' ops (o :: r) s = some ((s.heap :: y.1.1, x.1 :: y.1.2), y.2) := by
  simp only [opsH, hv, Option.bind_some, hy, Option.map_some]
theorem opsKH_ok (hK : KOk K C) (hS : RS K rec rec') {ops : Array Oper} {fn : Nat} : ∀ (l : List Oper) {e : KE} {hp : U KB} {cnt : Nat} {s : St} {hs : List (U KB × Nat)} {vs : List V} {e' : KE} {hp' : U KB} {cnt' : Nat},
    FR e s.tmps → ntT K.E.P fn = s.tmps.length → KHR hp cnt s.heap → opsKH K rec ops fn l e hp cnt = .ok hs vs e' hp' cnt' →
      ∃ s' hs' vs', opsH K.E rec' ops l s = some ((hs', vs'), s') ∧ HL hs hs' ∧ AR vs vs' ∧ hs.length = l.length + 1 ∧ vs.length = l.length ∧ After e e' hp' cnt' l s s'
  | [], e, hp, cnt, s, hs, vs, e', hp', cnt', hf, hn, hh, hr => by
    injection hr with a0 a1 a2 a3 a4
    subst a0 a1 a2 a3 a4
    exact ⟨s, [s.heap], [], rfl, ⟨hh, trivial⟩, trivial, rfl, rfl, hf, rfl, rfl, hh, fun _ _ => rfl⟩
  | o :: r, e, hp, cnt, s, hs, vs, e', hp', cnt', hf, hn, hh, hr => by
    rw [opsKH_cons, ifb_eq] at hr
    split at hr
    case isFalse => cases hr
    rename_i hd
    cases hw : wantK ops e o with
    | none => rw [hw] at hr; cases hr
    | some w =>
      rw [hw] at hr
      have hw' := wantK_ok hf hw
      have step : ∀ v v' hp1 cnt1 h1, VR v v' → KHR hp1 cnt1 h1 → valV K.E rec' ops o s.tmps s.heap = some (v', h1) →
          (KH.rec .no (fun hs vs e' hp' cnt' => .ok ((hp, cnt) :: hs) (v :: vs) e' hp' cnt') (opsKH K rec ops fn r (putK e o.dst v) hp1 cnt1) : KH) = .ok hs vs e' hp' cnt' →
          ∃ s' hs' vs', opsH K.E rec' ops (o :: r) s = some ((hs', vs'), s') ∧ HL hs hs' ∧ AR vs vs' ∧ hs.length = (o :: r).length + 1 ∧ vs.length = (o :: r).length ∧ After e e' hp' cnt' (o :: r) s s' := by
        intro v v' hp1 cnt1 h1 hv hh1 hval hr1
        cases ho : opsKH K rec ops fn r (putK e o.dst v) hp1 cnt1 with
        | no => rw [ho] at hr1; cases hr1
        | ok hs1 vs1 e1 hp2 cnt2 =>
          rw [ho] at hr1
          injection hr1 with a0 a1 a2 a3 a4
          subst a0 a1 a2 a3 a4
          obtain ⟨s', hs', vs', g1, g2, g3, g4, g5, g6⟩ := opsKH_ok hK hS r (s := { s with tmps := putT s.tmps o.dst v', heap := h1 }) (hf.put o.dst hv (dst_lt hd hn)) (by simp only [putT_length]; exact hn) hh1 ho
          refine ⟨s', s.heap :: hs', v' :: vs', opsH_cons hval g1, ⟨hh, g2⟩, ⟨hv, g3⟩, by simp [g4], by simp [g5], g6.fr, by rw [g6.len]; exact putT_length _ _ _, g6.fn, g6.heap, fun t ht => ?_⟩
          obtain ⟨h2, h3⟩ := dsts_cons ht
          rw [g6.same t h3, look_put h2]
      cases w with
      | false =>
        exact step V.undef V.undef hp cnt s.heap (.inr rfl) hh (by simp only [valV, hw', Option.bind_some]; rfl) hr
      | true =>
        simp only at hr
        cases ho : operK K rec e hp cnt o.op with
        | no => rw [ho] at hr; cases hr
        | ok v hp1 cnt1 =>
          rw [ho] at hr
          obtain ⟨v', h1, e1, e2, e3⟩ := operK_ok hK hS hf hh ho
          exact step v v' hp1 cnt1 h1 e2 e3 (by simp only [valV, hw', Option.bind_some, if_true]; exact e1) hr
theorem opsV_opsH {ops : Array Oper} : ∀ (l : List Oper) {s s' : St}, opsV K.E rec' ops l s = some s' → ∃ y, opsH K.E rec' ops l s = some (y, s')
  | [], s, s', h => ⟨([s.heap], []), by simp only [opsV, Option.some.injEq] at h; subst h; rfl⟩
  | o :: r, s, s', h => by
    rw [opsV_cons] at h
    simp only [Option.bind_eq_some_iff] at h
    obtain ⟨x, hx, h⟩ := h
    obtain ⟨y, hy⟩ := opsV_opsH r h
    exact ⟨_, opsH_cons hx hy⟩

theorem bitK_eq (m d : Nat) : bitK m d = m.testBit d := by
  unfold bitK
  rw [beq_dec, Nat.testBit_eq_decide_div_mod_eq]
  show decide ((m >>> d) % 2 = 1) = _
  rw [Nat.shiftRight_eq_div_pow]
theorem maskL_bit (d : Nat) : ∀ (l : List Nat), bitK (maskL l) d = l.contains d
  | [] => by rw [bitK_eq]; simp [maskL]
  | t :: r => by
    have ih := maskL_bit d r
    rw [bitK_eq] at ih ⊢
    show (Nat.lor (Nat.shiftLeft 1 t) (maskL r)).testBit d = _
    rw [show Nat.lor (Nat.shiftLeft 1 t) (maskL r) = (1 <<< t) ||| maskL r from rfl, Nat.testBit_or, ih, Nat.testBit_shiftLeft, List.contains_cons]
    congr 1
    by_cases hk : d = t
    · subst hk; simp
    · by_cases hlt : d ≥ t
      · obtain ⟨x, rfl⟩ : ∃ x, d = t + (x + 1) := ⟨d - t - 1, by omega⟩
        simp [Nat.testBit_succ]
      · simp [hk, hlt]
theorem confF_eq (ops : Array Oper) (x y : Oper) : confF x.dst (maskL (x.looksAt ops)) y.dst (maskL (y.looksAt ops)) = confS ops x y := by
  unfold confF confS
  rw [ifb_eq]
  cases hx : x.dst with
  | none =>
    simp only
    cases hy : y.dst with
    | none => simp
    | some d => simp [maskL_bit]
  | some d =>
    simp only [ifb_eq, maskL_bit]
    cases hy : y.dst with
    | none => simp
    | some d' => simp only [beq_dec, maskL_bit]; (by_cases h2 : d' = d; (subst h2; simp); (have h3 : (d' == d) = false := beq_eq_false_iff_ne.2 h2; by_cases h1 : (y.looksAt ops).contains d = true <;> simp [h1, h2, h3]))
theorem kindA_ok (E : Env) (T : List V) (o : Op) : kindT E T o = kindA E o ∨ kindA E o = .e := by
  cases o with
  | call c =>
    obtain ⟨callee, args, ts⟩ := c
    cases callee with
    | value f => cases f <;> first | exact .inl rfl | exact .inr rfl
    | invoke r n => exact .inl rfl
    | builtin b => exact .inl rfl
  | _ => exact .inl rfl
theorem isE_ok {E : Env} (T : List V) {o : Op} (h : isE E o = true) : kindT E T o = .e := by
  cases o with
  | call c =>
    obtain ⟨callee, args, ts⟩ := c
    cases callee with
    | value f =>
      cases f with
      | func g =>
        simp only [isE] at h
        simp only [kindT, evalT]
        revert h
        cases E.known g <;> cases E.mode g <;> simp
      | tmp t => cases h
      | const v => cases h
      | _ => cases h
    | invoke r n => simpa [isE, kindT] using h
    | builtin b => simpa [isE, kindT] using h
  | _ => simpa [isE, kindT] using h
theorem confKF_ok {E : Env} (T : List V) {x y : Op} (h : confKF (kindNo (kindA E x)) (kindNo (kindA E y)) = false) : confK (kindT E T x) (kindT E T y) = false := by
  have key : ∀ k1 k2 : Kind, confKF (kindNo k1) (kindNo k2) = confK k1 k2 := by intro k1 k2; cases k1 <;> cases k2 <;> rfl
  rw [key] at h
  rcases kindA_ok E T x with h1 | h1 <;> rcases kindA_ok E T y with h2 | h2
  · rw [h1, h2]; exact h
  · rw [h2] at h; revert h; rw [← h1]; cases kindT E T x <;> cases kindT E T y <;> simp [confK]
  · rw [h1] at h; revert h; rw [← h2]; cases kindT E T x <;> cases kindT E T y <;> simp [confK]
  · rw [h1, h2] at h; simp [confK] at h
theorem reach_succ {ops : Array Oper} : ∀ (f i j : Nat), reach ops f i j = true → reach ops (f + 1) i j = true
  | 0, i, j, h => by simp [reach] at h
  | f + 1, i, j, h => by
    unfold reach at h ⊢
    cases ho : ops[i]? with
    | none => rw [ho] at h; cases h
    | some o =>
      rw [ho] at h
      simp only [← Array.any_toList] at h ⊢
      simp only [List.any_eq_true, Bool.and_eq_true, Bool.or_eq_true] at h ⊢
      obtain ⟨e, he, h1, h2⟩ := h
      refine ⟨e, he, h1, ?_⟩
      rcases h2 with h2 | h2
      · exact .inl h2
      · exact .inr (reach_succ f _ _ h2)
theorem reach_8 {ops : Array Oper} {i j : Nat} (h : reach ops 1 i j = true) : reach ops 8 i j = true :=
  reach_succ 7 _ _ (reach_succ 6 _ _ (reach_succ 5 _ _ (reach_succ 4 _ _ (reach_succ 3 _ _ (reach_succ 2 _ _ (reach_succ 1 _ _ h))))))
def pairH (E : Env) (ops : Array Oper) (T : List V) (hs : List Heap) (vs : List V) (i j : Nat) (o q : Oper) : Bool :=
  (!confS ops q o && (!confK (kindT E T q.op) (kindT E T o.op) || (kindT E T o.op == .r && stillB E hs T ops i j o) || (kindT E T q.op == .r && stillB E hs T ops j i q) || (kindT E T o.op == .e && kindT E T q.op == .a && newB hs vs i j q))) || reach ops 8 i j
def dynH (E : Env) (ops : Array Oper) (T : List V) (hs : List Heap) (vs : List V) : Nat × Nat × Nat → Prop
  | (i, j, 0) => ∀ o, ops[i]? = some o → stillB E hs T ops i j o = true ∨ reach ops 8 i j = true
  | (i, j, 1) => ∀ q, ops[j]? = some q → stillB E hs T ops j i q = true ∨ reach ops 8 i j = true
  | (i, j, 2) => ∀ q, ops[j]? = some q → isAl q.op = true → newB hs vs i j q = true
  | (i, j, _) => (∀ q, ops[j]? = some q → isAl q.op = true → newB hs vs i j q = true) ∧ ∀ o, ops[i]? = some o → kindT E T o.op = .e
theorem isLd_kind {E : Env} {T : List V} {o : Op} (h : isLd o = true) : kindT E T o = .r := by cases o <;> first | rfl | cases h
theorem isAl_kind {E : Env} {T : List V} {o : Op} (h : isAl o = true) : kindT E T o = .a := by cases o <;> first | rfl | cases h
theorem pairT_ok {E : Env} {ops : Array Oper} {T : List V} {hs : List Heap} {vs : List V} {i j : Nat} {o q : Oper} (ho : ops[i]? = some o) (hq : ops[j]? = some q) {L : List (Nat × Nat × Nat)}
    (hp : pairT E ops i j o q (maskL (o.looksAt ops)) (maskL (q.looksAt ops)) = some L) (hd : ∀ x ∈ L, dynH E ops T hs vs x) : pairH E ops T hs vs i j o q = true := by
  unfold pairT at hp
  rw [confF_eq, ifb_eq] at hp
  unfold pairH
  have r1 : reach ops 1 i j = true → reach ops 8 i j = true := reach_8
  split at hp
  · rename_i hc
    rw [ifb_eq] at hp
    split at hp
    · rename_i h1; rw [r1 h1]; simp
    · rw [ifb_eq] at hp
      split at hp
      · rename_i h1; rw [h1]; simp
      · cases hp
  · rename_i hc
    have hc : confS ops q o = false := by simpa using hc
    rw [ifb_eq] at hp
    split at hp
    · rw [ifb_eq] at hp
      split at hp
      · rename_i h1; rw [r1 h1]; simp
      · rw [ifb_eq] at hp
        split at hp
        · rename_i hl
          simp only [Option.some.injEq] at hp; subst hp
          rcases hd _ (List.mem_singleton.2 rfl) o ho with this | this
          · simp [hc, isLd_kind (T := T) (E := E) hl, this]
          · rw [this]; simp
        · rw [ifb_eq] at hp
          split at hp
          · rename_i hl
            simp only [Option.some.injEq] at hp; subst hp
            rcases hd _ (List.mem_singleton.2 rfl) q hq with this | this
            · simp [hc, isLd_kind (T := T) (E := E) hl, this]
            · rw [this]; simp
          · rw [ifb_eq] at hp
            split at hp
            · rename_i hl
              simp only [Bool.and_eq_true] at hl
              simp only [Option.some.injEq] at hp; subst hp
              have := hd _ (List.mem_singleton.2 rfl) q hq hl.1
              simp [hc, isAl_kind (T := T) (E := E) hl.1, isE_ok T hl.2, this]
            · rw [ifb_eq] at hp
              split at hp
              · rename_i h1; rw [h1]; simp
              · rw [ifb_eq] at hp
                split at hp
                · rename_i hl
                  simp only [Bool.and_eq_true] at hl
                  simp only [Option.some.injEq] at hp; subst hp
                  have hd' := hd _ (List.mem_singleton.2 rfl)
                  have := hd'.1 q hq hl.1
                  simp [hc, isAl_kind (T := T) (E := E) hl.1, hd'.2 o ho, this]
                · cases hp
    · rename_i hk
      have hk : confKF (kindNo (kindA E q.op)) (kindNo (kindA E o.op)) = false := by simpa using hk
      simp [hc, confKF_ok T hk]
theorem catR_some {α : Type} {x y : Option (List α)} {L : List α} (h : catR x y = some L) : ∃ a b, x = some a ∧ y = some b ∧ L = a ++ b := by
  cases x with
  | none => cases h
  | some a =>
    cases y with
    | none => cases h
    | some b => exact ⟨a, b, rfl, rfl, by simpa [catR] using h.symm⟩
theorem rowT_ok {E : Env} {ops : Array Oper} {i : Nat} {o : Oper} {lo : Nat} : ∀ (l : List (Nat × Oper × Nat)) {L : List (Nat × Nat × Nat)}, rowT E ops i o lo l = some L → ∀ x ∈ l, ∃ L', pairT E ops i x.1 o x.2.1 lo x.2.2 = some L' ∧ ∀ y ∈ L', y ∈ L
  | [], L, h, x, hx => by simp at hx
  | z :: r, L, h, x, hx => by
    change catR (pairT E ops i z.1 o z.2.1 lo z.2.2) (rowT E ops i o lo r) = some L at h
    obtain ⟨a, b, h1, h2, rfl⟩ := catR_some h
    rcases List.mem_cons.1 hx with rfl | hx
    · exact ⟨a, h1, fun y hy => by simp [hy]⟩
    · obtain ⟨L', g1, g2⟩ := rowT_ok r h2 x hx
      exact ⟨L', g1, fun y hy => by simp [g2 y hy]⟩
theorem rowsT_ok {E : Env} {ops : Array Oper} : ∀ (l : List Oper) (i : Nat) (acc : List (Nat × Oper × Nat)) {L : List (Nat × Nat × Nat)}, rowsT E ops l i acc = some L →
    ∀ k o, l[k]? = some o → ∀ j q, ((j, q, maskL (q.looksAt ops)) ∈ acc ∨ ∃ k', k' < k ∧ l[k']? = some q ∧ j = i + k') → ∃ L', pairT E ops (i + k) j o q (maskL (o.looksAt ops)) (maskL (q.looksAt ops)) = some L' ∧ ∀ y ∈ L', y ∈ L
  | [], i, acc, L, h, k, o, hk => by simp at hk
  | z :: r, i, acc, L, h, k, o, hk => by
    intro j q hj
    change catR (rowT E ops i z (maskL (z.looksAt ops)) acc) (rowsT E ops r (i + 1) ((i, z, maskL (z.looksAt ops)) :: acc)) = some L at h
    obtain ⟨a, b, h1, h2, rfl⟩ := catR_some h
    cases k with
    | zero =>
      simp only [List.getElem?_cons_zero, Option.some.injEq] at hk; subst hk
      rcases hj with hj | ⟨k', hk', _⟩
      · obtain ⟨L', g1, g2⟩ := rowT_ok acc h1 _ hj
        exact ⟨L', g1, fun y hy => by simp [g2 y hy]⟩
      · omega
    | succ k =>
      simp only [List.getElem?_cons_succ] at hk
      have hj' : (j, q, maskL (q.looksAt ops)) ∈ (i, z, maskL (z.looksAt ops)) :: acc ∨ ∃ k', k' < k ∧ r[k']? = some q ∧ j = i + 1 + k' := by
        rcases hj with hj | ⟨k', hk', hq, rfl⟩
        · exact .inl (by simp [hj])
        · cases k' with
          | zero =>
            simp only [List.getElem?_cons_zero, Option.some.injEq] at hq; subst hq
            exact .inl (by simp)
          | succ k' =>
            simp only [List.getElem?_cons_succ] at hq
            exact .inr ⟨k', by omega, hq, by omega⟩
      obtain ⟨L', g1, g2⟩ := rowsT_ok r (i + 1) _ h2 k o hk j q hj'
      rw [show i + 1 + k = i + (k + 1) from by omega] at g1
      exact ⟨L', g1, fun y hy => by simp [g2 y hy]⟩
theorem stabT_ok {ops : Array Oper} : ∀ (l : List Oper) (i : Nat), stabT ops l i = true → ∀ k o, l[k]? = some o → stabC ops (i + k) o.op = true
  | [], i, h, k, o, hk => by simp at hk
  | z :: r, i, h, k, o, hk => by
    change ifb (stabC ops i z.op) (stabT ops r (i + 1)) false = true at h
    rw [ifb_eq] at h
    split at h
    case isFalse => cases h
    rename_i h1
    cases k with
    | zero => simp only [List.getElem?_cons_zero, Option.some.injEq] at hk; subst hk; exact h1
    | succ k =>
      simp only [List.getElem?_cons_succ] at hk
      have := stabT_ok r (i + 1) h k o hk
      rwa [show i + 1 + k = i + (k + 1) from by omega] at this
theorem planT_ok {E : Env} {ops : Array Oper} {T : List V} {hs : List Heap} {vs : List V} {L : List (Nat × Nat × Nat)} (hp : planT E ops = some L) (hd : ∀ x ∈ L, dynH E ops T hs vs x) : regOkH E ops T hs vs = true := by
  unfold planT at hp
  rw [ifb_eq] at hp
  split at hp
  case isFalse => cases hp
  rename_i h1
  rw [ifb_eq] at hp
  split at hp
  case isFalse => cases hp
  rename_i h2
  unfold regOkH
  rw [h1, Bool.true_and]
  simp only [List.all_eq_true, List.mem_range]
  intro i hi
  have ho : ops[i]? = some ops[i] := by simp [hi]
  have ho' : ops.toList[i]? = some ops[i] := by rw [Array.getElem?_toList]; exact ho
  rw [ho]
  simp only [Bool.and_eq_true, List.all_eq_true, List.mem_range]
  refine ⟨by have := stabT_ok ops.toList 0 h2 i _ ho'; rwa [Nat.zero_add] at this, fun j hj => ?_⟩
  have hq : ops[j]? = some (ops[j]'(by omega)) := by simp [Nat.lt_trans hj hi]
  have hq' : ops.toList[j]? = some (ops[j]'(by omega)) := by rw [Array.getElem?_toList]; exact hq
  rw [hq]
  obtain ⟨L', g1, g2⟩ := rowsT_ok ops.toList 0 [] hp i _ ho' j _ (.inr ⟨j, hj, hq', by omega⟩)
  rw [Nat.zero_add] at g1
  exact pairT_ok ho hq g1 fun x hx => hd x (g2 x hx)
end
end Go.Sim.Kr
end
