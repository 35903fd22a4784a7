/- The reference's Check: a clock whose time runs. -/
import Derived.Test.YtbejaccdpikfhaaClockL
namespace Go.Proofs.Ytbejaccdpikfhaa
open Go.RowKit

set_option maxRecDepth 100000 in
set_option maxHeartbeats 8000000 in
theorem rok1 (c : Clk) (A : Option Addr) (cap : Nat) (w : World) (h : Row w A c.left) (h1 : ¬ ((c.left.length : Int) < 1)) (h2 : ¬ ((4 : Int) < c.left.length)) (h3 : ¬ (c.add < 0)) (h4 : ¬ ((10000000 : Int) < c.add)) (h5 : ¬ (c.free < 0)) (h6 : ¬ ((10000000 : Int) < c.free)) (h7 : ¬ (c.since < 0)) (h8 : ¬ (c.last < c.since)) (h9 : ¬ ((1000000000000 : Int) < c.last)) (h10 : ¬ (c.turn < -1)) (h11 : ¬ ((c.left.length : Int) ≤ c.turn)) (h12 : ¬ (c.fallen < -1)) (h13 : ¬ ((c.left.length : Int) ≤ c.fallen)) (h14 : 0 ≤ c.turn) (h15 : ¬ 0 ≤ c.fallen) :
    Calls Try.prog 14 #[c.val A cap] w fun e w' => e = .returned (.int .i64 (checkN c)) ∧ Ext w w' := by
  have E1 := (Ext.rfl w).alloc (.cells (c.cells (.slice A c.left.length cap)) 24)
  have hl := h.1
  obtain ⟨b, off, rfl, hlt, hc⟩ := h.2 (by omega)
  have HC := Lib.hid hc
  have G := Lib.hid (show (∀ x ∈ c.left, 0 ≤ x ∧ x ≤ 1000000000) → (0 ≤ c.fallen → c.left[c.fallen.toNat]?.getD 0 = 0) → c.Good from fun p q => ⟨by omega, by omega, by refine ⟨by omega, by omega, by omega, by omega, by omega, ?_⟩; intro h; first | omega | simpa using h15, p, q⟩)
  have hf1 : c.fallen < (c.left.length : Int) := by omega
  clear hc h
  go_enter Try.func14, Try.ntmps14
  go_wp2
  all_goals (try (exfalso; simp_all [undef]; done))
  go_loop [4] (fun i => ∃ k : Nat, k ≤ c.left.length ∧ i = .int .i64 k ∧ Hid (∀ j, j < k → 0 ≤ c.left[j]?.getD 0 ∧ c.left[j]?.getD 0 ≤ 1000000000)) (fun i => c.left.length - (intOf i).toNat)
  case atStart => exact ⟨0, Nat.zero_le _, rfl, fun j hj => absurd hj (Nat.not_lt_zero _)⟩
  case round =>
    obtain ⟨k, hk, rfl, hno⟩ := hrel
    by_cases hkl : k < c.left.length
    · have hltz : (k : Int) < (c.left.length : Int) := by omega
      have hcell := HC.out k hkl
      generalize hy : c.left[k]?.getD 0 = y at hcell
      have HY := Lib.hid hy
      clear hy
      have bad : (y < 0 ∨ 1000000000 < y) → checkN c = 13 := fun h => check13 (fun g => by
        have := g.all _ (List.getElem_mem hkl)
        have e := HY.out
        rw [getD_of hkl] at e
        omega)
      have BAD := Lib.hid bad
      clear bad
      by_cases b1 : y < 0
      · go_wp2
        all_goals first | (go_ret; exact ⟨ret_int (BAD.out (.inl (by assumption))).symm, E1⟩) | (exfalso; simp_all [undef]; done)
      · by_cases b2 : 1000000000 < y
        · go_wp2
          all_goals first | (go_ret; exact ⟨ret_int (BAD.out (.inr (by assumption))).symm, E1⟩) | (exfalso; simp_all [undef]; done)
        · go_wp2
          go_round
          case rel =>
            refine ⟨k + 1, by omega, by go_num, fun j hj => ?_⟩
            by_cases e : j = k
            · subst e; rw [HY.out]; omega
            · exact hno.out j (by omega)
          case measure => simp [intOf]; omega
    · obtain rfl : k = c.left.length := by omega
      have hd : decide ((c.left.length : Int) < (c.left.length : Int)) = false := by simp
      have ALL := Lib.hid (show ∀ x ∈ c.left, 0 ≤ x ∧ x ≤ 1000000000 from fun x hx => by
        obtain ⟨j, hj, rfl⟩ := List.mem_iff_getElem.1 hx
        have := hno.out j hj
        rwa [getD_of hj] at this)
      go_wp2
      all_goals first | (go_ret; exact ⟨ret_int (check0 (G.out ALL.out (fun h => by omega))).symm, E1⟩) | (exfalso; simp_all [undef]; done)
end Go.Proofs.Ytbejaccdpikfhaa
