/- The reference's Check. -/
import Derived.Test.YtbejaccdpikfhaaClockK
namespace Go.Proofs.Ytbejaccdpikfhaa
open Go.RowKit

theorem badIdx_neg {xs : List Int} : ¬ 0 ≤ badIdx xs ↔ ∀ x ∈ xs, 0 ≤ x ∧ x ≤ 1000000000 := by
  unfold badIdx
  cases h : xs.findIdx? (fun x => !btw x 0 1000000000) with
  | none =>
    rw [List.findIdx?_eq_none_iff] at h
    simp only [btw, Bool.not_eq_false', Bool.and_eq_true, decide_eq_true_eq] at h
    exact ⟨fun _ => h, fun _ => by decide⟩
  | some i =>
    rw [List.findIdx?_eq_some_iff_getElem] at h
    obtain ⟨h1, h2, _⟩ := h
    constructor
    · intro h3; exact absurd (by simp) h3
    · intro h3
      have := h3 _ (List.getElem_mem h1)
      simp only [btw, Bool.not_eq_true', Bool.and_eq_false_iff, decide_eq_false_iff_not] at h2
      omega
structure Clk.Good (c : Clk) : Prop where
  len : 1 ≤ c.left.length ∧ c.left.length ≤ 4
  nums : 0 ≤ c.add ∧ c.add ≤ 10000000 ∧ 0 ≤ c.free ∧ c.free ≤ 10000000 ∧ 0 ≤ c.since ∧ c.since ≤ c.last ∧ c.last ≤ 1000000000000
  turns : -1 ≤ c.turn ∧ c.turn < c.left.length ∧ -1 ≤ c.fallen ∧ c.fallen < c.left.length ∧ ¬(0 ≤ c.turn ∧ 0 ≤ c.fallen) ∧ (c.turn < 0 → c.since = 0)
  all : ∀ x ∈ c.left, 0 ≤ x ∧ x ≤ 1000000000
  fell : 0 ≤ c.fallen → c.left[c.fallen.toNat]?.getD 0 = 0
theorem ok_iff (c : Clk) : c.ok = true ↔ c.Good := by
  simp only [Clk.ok, Clk.v1, Clk.v2, Clk.v3, Clk.v4, Bool.and_eq_true, btw_iff, Bool.not_eq_true', Bool.or_eq_true, decide_eq_true_eq, beq_iff_eq, Bool.and_eq_false_iff, decide_eq_false_iff_not, badIdx_neg]
  constructor
  · rintro ⟨⟨⟨⟨h1, h2⟩, h3⟩, h4⟩, ⟨h5, h6⟩, h7⟩
    exact ⟨by omega, by omega, by omega, h2, fun h => by rcases h7 with h7 | h7; omega; exact h7⟩
  · rintro ⟨h1, h2, h3, h4, h5⟩
    refine ⟨⟨⟨⟨by omega, h4⟩, by omega⟩, by omega⟩, ⟨by omega, by omega⟩, ?_⟩
    by_cases h : 0 ≤ c.fallen
    · exact .inr (h5 h)
    · exact .inl h
theorem check13 {c : Clk} (h : ¬ c.Good) : checkN c = 13 := by
  have : c.ok = false := by rw [← Bool.not_eq_true, ok_iff]; exact h
  simp [checkN, this]
theorem check0 {c : Clk} (h : c.Good) : checkN c = 0 := by simp [checkN, (ok_iff c).2 h]

end Go.Proofs.Ytbejaccdpikfhaa
