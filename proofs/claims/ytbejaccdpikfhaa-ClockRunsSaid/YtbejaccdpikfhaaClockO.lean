/- The reference's Start, New, used and Falls. -/
import Derived.Test.YtbejaccdpikfhaaClockN
namespace Go.Proofs.Ytbejaccdpikfhaa
open Go.RowKit

theorem refUsed_any (c : Clk) (A : Option Addr) (cap : Nat) (now : Int) (w : World) :
    Calls Try.prog 37 #[c.val A cap, .int .i64 now] w fun e w' => e = .returned (.int .i64 (usedN c now)) ∧ Ext w w' := by
  go_enter Try.func37, Try.ntmps37
  go_wp2
  go_ret
  exact ⟨rfl, (Ext.rfl _).alloc _⟩

theorem start_told {c : Clk} {p now t : Int} (ht : toldN c now = t) (h : (t != 0) = true) : startR c p now = (Clk.zero, t) := by
  have : firstN [toldN c now, readyN c false] = t := by rw [ht]; simp [firstN, List.find?, h]
  unfold startR; rw [this, if_pos h]
theorem start_ready {c : Clk} {p now r : Int} (ht : (toldN c now != 0) = false) (hr : readyN c false = r) (h : (r != 0) = true) : startR c p now = (Clk.zero, r) := by
  have : firstN [toldN c now, readyN c false] = r := by rw [hr]; simp [firstN, List.find?, h, ht]
  unfold startR; rw [this, if_pos h]
theorem start_ok {c : Clk} {p now : Int} (ht : (toldN c now != 0) = false) (h1 : ¬ 0 ≤ c.fallen) (h2 : ¬ 0 ≤ c.turn) : startR c p now = if btw p 0 (c.left.length - 1) = false then (Clk.zero, 2) else ({ c with turn := p, since := now, last := now }, 0) := by
  have hr : readyN c false = 0 := by unfold readyN; rw [if_neg h1, if_pos (by simp; omega)]
  have : firstN [toldN c now, readyN c false] = 0 := by rw [hr]; simp [firstN, List.find?, ht]
  unfold startR; rw [this, if_neg (by simp)]

set_option maxHeartbeats 4000000 in
theorem refStart_any (c : Clk) (A : Option Addr) (cap : Nat) (p now : Int) (w : World) (h : Row w A c.left) :
    Calls Try.prog 16 #[c.val A cap, .int .i64 p, .int .i64 now] w (RetClk w (startR c p now)) := by
  have E2 := ((Ext.rfl w).alloc (.cells (c.cells (.slice A c.left.length cap)) 24)).alloc (.cells (Clk.zero.cells (.slice none 0 0)) 24)
  have htold := refTold_any c A cap now _ (h.ext E2)
  have hl := h.1
  have HROW := Lib.hid h
  obtain ⟨t, ht0⟩ : ∃ t, toldN c now = t := ⟨_, rfl⟩
  rw [ht0] at htold
  have HT := Lib.hid ht0
  clear ht0 h
  cases ht : (t != 0)
  · have hT0 : (toldN c now != 0) = false := by rw [HT.out]; exact ht
    have HT0 := Lib.hid hT0
    clear hT0
    by_cases h1 : 0 ≤ c.fallen
    · have key := start_ready (p := p) HT0.out (show readyN c false = 17 by unfold readyN; rw [if_pos h1]) rfl
      have KEY := Lib.hid key
      clear key
      go_enter Try.func16, Try.ntmps16
      go_wp2_with (go_at_call 35; refine htold.mono ?_; rintro e w1 ⟨rfl, hb⟩; have y0 := (re2 hb).2.1; have y1 := (re2 hb).2.2; rw [(re2 hb).1])
      refine bodyPost_ret (v := .tuple #[.agg (Clk.zero.cells (.slice none 0 0)), .int .i64 17]) ?_ rfl ?_
      · simp [results, Try.results16, go_sem, y0, y1]
      · exact RetClk.of KEY.out ⟨_, rfl, OwnI.nil _ _, ((E2.tr hb).box (by omega) _ _).box (by omega) _ _⟩
    · by_cases h2 : 0 ≤ c.turn
      · have key := start_ready (p := p) HT0.out (show readyN c false = 13 by unfold readyN; rw [if_neg h1, if_neg (by simp; omega)]) rfl
        have KEY := Lib.hid key
        clear key
        go_enter Try.func16, Try.ntmps16
        go_wp2_with (go_at_call 35; refine htold.mono ?_; rintro e w1 ⟨rfl, hb⟩; have y0 := (re2 hb).2.1; have y1 := (re2 hb).2.2; rw [(re2 hb).1])
        refine bodyPost_ret (v := .tuple #[.agg (Clk.zero.cells (.slice none 0 0)), .int .i64 13]) ?_ rfl ?_
        · simp [results, Try.results16, go_sem, y0, y1]
        · exact RetClk.of KEY.out ⟨_, rfl, OwnI.nil _ _, ((E2.tr hb).box (by omega) _ _).box (by omega) _ _⟩
      · have key := start_ok (p := p) HT0.out h1 h2
        by_cases h3 : p < 0 ∨ (c.left.length : Int) ≤ p
        · rw [if_pos (by simp [btw]; omega)] at key
          have KEY := Lib.hid key
          clear key
          by_cases h4 : p < 0
          all_goals
            have h5 : p < 0 ∨ (c.left.length : Int) ≤ p := h3
            clear h3
            go_enter Try.func16, Try.ntmps16
            go_wp2_with (go_at_call 35; refine htold.mono ?_; rintro e w1 ⟨rfl, hb⟩; have y0 := (re2 hb).2.1; have y1 := (re2 hb).2.2; rw [(re2 hb).1])
            all_goals try (exfalso; omega)
            refine bodyPost_ret (v := .tuple #[.agg (Clk.zero.cells (.slice none 0 0)), .int .i64 2]) ?_ rfl ?_
            · simp [results, Try.results16, go_sem, y0, y1]
            · exact RetClk.of KEY.out ⟨_, rfl, OwnI.nil _ _, ((E2.tr hb).box (by omega) _ _).box (by omega) _ _⟩
        · rw [if_neg (by simp [btw]; omega)] at key
          have KEY := Lib.hid key
          clear key
          have h4 : ¬ p < 0 := by omega
          have h5 : ¬ (c.left.length : Int) ≤ p := by omega
          clear h3
          go_enter Try.func16, Try.ntmps16
          go_wp2_with (first
            | (go_at_call 35; refine htold.mono ?_; rintro e w1 ⟨rfl, hb⟩; have y0 := (re2 hb).2.1; have y1 := (re2 hb).2.2; have RE := Lib.hid (re2 hb).1; have e1 := E2.tr hb; rw [RE.out])
            | (go_at_call 33; rw [← RE.out]; refine (refOwn_any c A cap w1 (HROW.out.ext e1)).mono ?_; rintro e w2 ⟨v, rfl, ho, hb2⟩; obtain ⟨A1, c1, hv, _, _⟩ := ho.row hl; subst hv; have e2 := e1.tr hb2; rw [RE.out] at hb2; have RB := reb2 hb2 y0 y1 (by omega); have x0 := RB.2.1; have x1 := RB.2.2; rw [RB.1]; clear RB))
          refine bodyPost_ret (v := .tuple #[.agg (Clk.cells { c with turn := p, since := now, last := now } (.slice A1 c.left.length c1)), .int .i64 0]) ?_ rfl ?_
          · simp [results, Try.results16, go_sem, x0, x1]
          · exact RetClk.of KEY.out ⟨_, rfl, ((ho.box (by omega) _ _).box (by omega) _ _).lower (by omega), (e2.box (by omega) _ _).box (by omega) _ _⟩
  · have key := start_told (p := p) HT.out ht
    have KEY := Lib.hid key
    clear key
    go_enter Try.func16, Try.ntmps16
    go_wp2_with (go_at_call 35; refine htold.mono ?_; rintro e w1 ⟨rfl, hb⟩; have y0 := (re2 hb).2.1; have y1 := (re2 hb).2.2; rw [(re2 hb).1])
    refine bodyPost_ret (v := .tuple #[.agg (Clk.zero.cells (.slice none 0 0)), .int .i64 t]) ?_ rfl ?_
    · simp [results, Try.results16, go_sem, y0, y1]
    · exact RetClk.of KEY.out ⟨_, rfl, OwnI.nil _ _, ((E2.tr hb).box (by omega) _ _).box (by omega) _ _⟩
end Go.Proofs.Ytbejaccdpikfhaa
