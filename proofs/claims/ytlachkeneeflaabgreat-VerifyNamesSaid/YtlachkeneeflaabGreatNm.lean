/-
  What is taken for known is what the functions answer.
-/
import Derived.Test.YtlachkeneeflaabGreatNj
import Derived.Test.YtlachkeneeflaabGreatNf0
import Derived.Test.YtlachkeneeflaabGreatNf1
import Derived.Test.YtlachkeneeflaabGreatNf2
import Derived.Test.YtlachkeneeflaabGreatNf3
import Derived.Test.YtlachkeneeflaabGreatNd0
import Derived.Test.YtlachkeneeflaabGreatNd1
import Derived.Test.YtlachkeneeflaabGreatNea
import Derived.Test.YtlachkeneeflaabGreatNsa
section
namespace Go.Proofs.YtlachkeneeflaabGreat
open Go Go.Sim
set_option maxRecDepth 1000000
set_option linter.unusedVariables false
set_option linter.unusedSimpArgs false

theorem fnOk2 : FnOk E2 (fun _ => true) := ⟨fnOk.good⟩
theorem eqOk2 : EqOk E2 := eqOk
theorem fnOk3 : FnOk E3 (fun _ => true) := ⟨fnOk.good⟩
theorem eqOk3 : EqOk E3 := eqOk
theorem infoT_len : infoT.length = 60 := rfl
theorem known_67 (args : List V) (h : Heap) (r : V) (h' : Heap) (hc : infoF args h = some (r, h')) : CallS Tryz.prog (fun _ => true) 67 args h r h' := by
  obtain ⟨n, rfl, hr⟩ : ∃ n : Nat, args = [.int .u8 (.ofNat n)] ∧ infoT[n]?.map (fun r => (r, h)) = some (r, h') := by
    unfold infoF at hc
    split at hc
    · exact ⟨_, rfl, hc⟩
    · cases hc
  obtain ⟨r', h1, h2⟩ := Option.map_eq_some_iff.1 hr
  simp only [Prod.mk.injEq] at h2
  obtain ⟨rfl, rfl⟩ := h2
  obtain ⟨hn, h1⟩ := List.getElem?_eq_some_iff.1 h1
  have hn' : n < 60 := by rw [← infoT_len]; exact hn
  have he : pureV E (ev E 400) 67 false [.int .u8 (.ofNat n)] = some r' := by
    have h3 := congrArg (fun l => l[n]?) info_eval
    simp only [List.getElem?_map, List.getElem?_range hn', Option.map_some, List.getElem?_eq_getElem hn, h1, Option.some.injEq] at h3
    exact h3
  have hcall : callV E (ev E 400) 67 [.int .u8 (.ofNat n)] h = some (r', h) := by
    rw [callV_pure rfl rfl, viewArgs_canon h _ (by rfl)]
    have hca : V.canonL [.int .u8 (.ofNat n)] = [.int .u8 (.ofNat n)] := by simp [V.canonL, V.canon]
    have hfl : V.flatL [.int .u8 (.ofNat n)] = true := by rfl
    rw [hca, hfl]
    simp only [Option.bind_some, Bool.not_true, he, Option.map_some]
  exact call_sound (ev_sound eqOk fnOk knownOk knownIn 400) fnOk knownOk hcall
theorem knownOk2 : KnownOk E2 (fun _ => true) := by
  intro f F hF
  change known2 f = some F at hF
  unfold known2 at hF
  by_cases h : Nat.beq f 67 = true
  · rw [if_pos h] at hF
    obtain rfl := Nat.eq_of_beq_eq_true h
    obtain rfl := Option.some.inj hF
    exact known_67
  · rw [if_neg h] at hF
    exact knownOk f F hF
theorem knownIn2 : KnownIn E2 := by
  intro f F hF
  change known2 f = some F at hF
  unfold known2 at hF
  by_cases h : Nat.beq f 67 = true
  · rw [if_pos h] at hF
    obtain rfl := Nat.eq_of_beq_eq_true h
    exact ⟨Tryz.f67, Tryz.f67.body.getD .skip, Tryz.func67, by kernel_rfl, by simp [Tryz.f67]⟩
  · rw [if_neg h] at hF
    exact knownIn f F hF
theorem find_can : findT.map (fun e => V.canonL e.1) = findT.map (fun e => e.1) := by kernel_rfl
theorem depth_can : depthT.map (fun e => V.canonL e.1) = depthT.map (fun e => e.1) := by kernel_rfl
theorem enc_can : encT.map (fun e => V.canonL e.1) = encT.map (fun e => e.1) := by kernel_rfl
theorem sum_can : sumT.map (fun e => V.canonL e.1) = sumT.map (fun e => e.1) := by kernel_rfl
theorem can_of {tbl : List (List V × V)} (h : tbl.map (fun e => V.canonL e.1) = tbl.map (fun e => e.1)) (k : Nat) : V.canonL (tbl.getD k ([], .poison)).1 = (tbl.getD k ([], .poison)).1 := by
  by_cases hk : k < tbl.length
  · have h2 := congrArg (fun l => l[k]?) h
    simp only [List.getElem?_map, List.getElem?_eq_getElem hk, Option.map_some, Option.some.injEq] at h2
    simpa [List.getD, List.getElem?_eq_getElem hk] using h2
  · rw [List.getD, List.getElem?_eq_none (by omega)]; rfl
theorem find_tbl : ∀ e ∈ findT, V.canonL e.1 = e.1 ∧ pureV E2 (ev E2 400) 17 false e.1 = some e.2 := by
  intro e he
  obtain ⟨k, hk, rfl⟩ := List.getElem_of_mem he
  have hl : findT.length = 4 := rfl
  have hg : findT[k] = findT.getD k ([], .poison) := by simp [List.getD, List.getElem?_eq_getElem hk]
  rw [hg]
  refine ⟨can_of find_can k, ?_⟩
  obtain rfl | rfl | rfl | rfl : k = 0 ∨ k = 1 ∨ k = 2 ∨ k = 3 := by omega
  · exact find_0
  · exact find_1
  · exact find_2
  · exact find_3
theorem depth_tbl : ∀ e ∈ depthT, V.canonL e.1 = e.1 ∧ pureV E2 (ev E2 400) 18 false e.1 = some e.2 := by
  intro e he
  obtain ⟨k, hk, rfl⟩ := List.getElem_of_mem he
  have hl : depthT.length = 2 := rfl
  have hg : depthT[k] = depthT.getD k ([], .poison) := by simp [List.getD, List.getElem?_eq_getElem hk]
  rw [hg]
  refine ⟨can_of depth_can k, ?_⟩
  obtain rfl | rfl : k = 0 ∨ k = 1 := by omega
  · exact depth_0
  · exact depth_1
theorem enc_tbl : ∀ e ∈ encT, V.canonL e.1 = e.1 ∧ pureV E2 (ev E2 400) 20 false e.1 = some e.2 := by
  intro e he
  obtain ⟨k, hk, rfl⟩ := List.getElem_of_mem he
  have hl : encT.length = 1 := rfl
  have hg : encT[k] = encT.getD k ([], .poison) := by simp [List.getD, List.getElem?_eq_getElem hk]
  rw [hg]
  refine ⟨can_of enc_can k, ?_⟩
  obtain rfl : k = 0 := by omega
  exact enc_0
theorem sum_tbl : ∀ e ∈ sumT, V.canonL e.1 = e.1 ∧ pureV E2 (ev E2 400) 21 false e.1 = some e.2 := by
  intro e he
  obtain ⟨k, hk, rfl⟩ := List.getElem_of_mem he
  have hl : sumT.length = 1 := rfl
  have hg : sumT[k] = sumT.getD k ([], .poison) := by simp [List.getD, List.getElem?_eq_getElem hk]
  rw [hg]
  refine ⟨can_of sum_can k, ?_⟩
  obtain rfl : k = 0 := by omega
  exact sum_0
theorem known3_cases {f : Nat} {F} (hF : known3 f = some F) : (f = 17 ∧ F = memoF findT) ∨ (f = 18 ∧ F = memoF depthT) ∨ (f = 20 ∧ F = memoF encT) ∨ (f = 21 ∧ F = memoF sumT) ∨ known2 f = some F := by
  unfold known3 at hF
  by_cases h : Nat.beq f 17 = true
  · rw [if_pos h] at hF
    exact .inl ⟨Nat.eq_of_beq_eq_true h, (Option.some.inj hF).symm⟩
  rw [if_neg h] at hF
  by_cases h : Nat.beq f 18 = true
  · rw [if_pos h] at hF
    exact .inr (.inl ⟨Nat.eq_of_beq_eq_true h, (Option.some.inj hF).symm⟩)
  rw [if_neg h] at hF
  by_cases h : Nat.beq f 20 = true
  · rw [if_pos h] at hF
    exact .inr (.inr (.inl ⟨Nat.eq_of_beq_eq_true h, (Option.some.inj hF).symm⟩))
  rw [if_neg h] at hF
  by_cases h : Nat.beq f 21 = true
  · rw [if_pos h] at hF
    exact .inr (.inr (.inr (.inl ⟨Nat.eq_of_beq_eq_true h, (Option.some.inj hF).symm⟩)))
  rw [if_neg h] at hF
  exact .inr (.inr (.inr (.inr hF)))
theorem knownOk3 : KnownOk E3 (fun _ => true) := by
  intro f F hF
  change known3 f = some F at hF
  rcases known3_cases hF with ⟨rfl, rfl⟩ | ⟨rfl, rfl⟩ | ⟨rfl, rfl⟩ | ⟨rfl, rfl⟩ | h
  · exact memo_ok eqOk2 fnOk2 knownOk2 knownIn2 rfl rfl findT find_tbl
  · exact memo_ok eqOk2 fnOk2 knownOk2 knownIn2 rfl rfl depthT depth_tbl
  · exact memo_ok eqOk2 fnOk2 knownOk2 knownIn2 rfl rfl encT enc_tbl
  · exact memo_ok eqOk2 fnOk2 knownOk2 knownIn2 rfl rfl sumT sum_tbl
  · exact knownOk2 f F h
theorem knownIn3 : KnownIn E3 := by
  intro f F hF
  change known3 f = some F at hF
  rcases known3_cases hF with ⟨rfl, rfl⟩ | ⟨rfl, rfl⟩ | ⟨rfl, rfl⟩ | ⟨rfl, rfl⟩ | h
  · exact ⟨Tryz.f17, Tryz.f17.body.getD .skip, Tryz.func17, by kernel_rfl, by simp [Tryz.f17]⟩
  · exact ⟨Tryz.f18, Tryz.f18.body.getD .skip, Tryz.func18, by kernel_rfl, by simp [Tryz.f18]⟩
  · exact ⟨Tryz.f20, Tryz.f20.body.getD .skip, Tryz.func20, by kernel_rfl, by simp [Tryz.f20]⟩
  · exact ⟨Tryz.f21, Tryz.f21.body.getD .skip, Tryz.func21, by kernel_rfl, by simp [Tryz.f21]⟩
  · exact knownIn2 f F h
end Go.Proofs.YtlachkeneeflaabGreat
end
