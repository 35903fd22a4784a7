/- The reference's New and Falls. -/
import Derived.Test.YtbejaccdpikfhaaClockO
import Derived.Test.YtbejaccdpikfhaaClockG
namespace Go.Proofs.Ytbejaccdpikfhaa
open Go.RowKit

set_option maxHeartbeats 2000000 in
theorem refFalls_any (c : Clk) (A : Option Addr) (cap : Nat) (w : World) (h : Row w A c.left) :
    Calls Try.prog 22 #[c.val A cap] w (TwoInts w (fallsR c)) := by
  obtain ⟨W, hW⟩ : ∃ W, w.alloc (.cells (c.cells (.slice A c.left.length cap)) 24) = W := ⟨_, rfl⟩
  have E0 := (Ext.rfl w).alloc (.cells (c.cells (.slice A c.left.length cap)) 24)
  have b0 := new_at w (.cells (c.cells (.slice A c.left.length cap)) 24)
  rw [hW] at E0 b0
  obtain ⟨k1, f1⟩ := box_at b0
  have hch := refCheck_any c A cap W (h.ext E0)
  unfold checkN at hch
  cases e1 : c.ok
  · rw [e1] at hch
    have key : fallsR c = (0, 13) := by simp [fallsR, e1]
    go_enter Try.func22, Try.ntmps22
    go_wp2_with (go_at_call 14; refine hch.mono ?_; rintro e w1 ⟨rfl, hb⟩)
    go_ret2
    exact TwoInts.of key ⟨rfl, E0.tr hb⟩
  · rw [e1] at hch
    have hT := okTurn e1
    have E1 := Lib.hid e1
    clear e1
    by_cases h1 : 0 ≤ c.fallen
    · have hr : readyN c true = 17 := by unfold readyN; rw [if_pos h1]
      have key : fallsR c = (0, 17) := by simp [fallsR, E1.out, hr]
      have KEY := Lib.hid key
      clear key hr
      go_enter Try.func22, Try.ntmps22
      go_wp2_with (go_at_call 14; refine hch.mono ?_; rintro e w1 ⟨rfl, hb⟩; (obtain ⟨k1, f1⟩ := box_at (hb.bx b0)))
      go_ret2
      exact TwoInts.of KEY.out ⟨rfl, E0.tr hb⟩
    · by_cases h2 : c.turn < 0
      · have hr : readyN c true = 13 := by unfold readyN; rw [if_neg h1, if_neg (by simp; omega)]
        have key : fallsR c = (0, 13) := by simp [fallsR, E1.out, hr]
        have KEY := Lib.hid key
        clear key hr
        go_enter Try.func22, Try.ntmps22
        go_wp2_with (go_at_call 14; refine hch.mono ?_; rintro e w1 ⟨rfl, hb⟩; (obtain ⟨k1, f1⟩ := box_at (hb.bx b0)))
        go_ret2
        exact TwoInts.of KEY.out ⟨rfl, E0.tr hb⟩
      · have hr : (readyN c true != 0) = false := by unfold readyN; rw [if_neg h1, if_pos (by simp; omega)]; rfl
        have HR := Lib.hid hr
        clear hr
        obtain ⟨b, off, rfl, hlt, hc⟩ := h.2 (by omega)
        have hcj := hc c.turn.toNat (by omega)
        clear hc
        obtain ⟨x, hx0⟩ : ∃ x, c.left[c.turn.toNat]?.getD 0 = x := ⟨_, rfl⟩
        rw [hx0] at hcj
        have HX := Lib.hid hx0
        have ht1 : c.turn < (c.left.length : Int) := by omega
        have ht0 : 0 ≤ c.turn := by omega
        clear hT hx0
        by_cases h5 : 1000000000000 < wrap64 (wrap64 (wrap64 (c.since + c.free) + x) + 1)
        all_goals
          go_enter Try.func22, Try.ntmps22
          go_wp2_with (go_at_call 14; refine hch.mono ?_; rintro e w1 ⟨rfl, hb⟩; (obtain ⟨k1, f1⟩ := box_at (hb.bx b0)); have hcj2 := ((E0.tr hb).cell (p := ⟨b, off + c.turn.toNat, none⟩) hlt).trans hcj)
          go_quiet (fail)
          go_wp2
          go_ret2
        · have key : fallsR c = (0, 5) := by simp only [fallsR, E1.out, HR.out, HX.out]; rw [if_neg (by simp), if_neg (by simp), if_pos h5]
          exact TwoInts.of key ⟨rfl, (E0.tr hb).drewN _⟩
        · have key : fallsR c = (wrap64 (wrap64 (wrap64 (c.since + c.free) + x) + 1), 0) := by simp only [fallsR, E1.out, HR.out, HX.out]; rw [if_neg (by simp), if_neg (by simp), if_neg (by omega)]
          exact TwoInts.of key ⟨rfl, (E0.tr hb).drewN _⟩

set_option maxHeartbeats 1000000 in
theorem refNew_any (left : List Int) (A : Option Addr) (cap : Nat) (add free : Int) (w : World) (h : Row w A left) :
    Calls Try.prog 11 #[.slice A left.length cap, .int .i64 add, .int .i64 free] w (RetClk w (newR left add free)) := by
  have h1 := (Ext.rfl w).alloc (.cells #[.slice none 0 0, .int .i64 0, .int .i64 0, .int .i64 0, .int .i64 0, .int .i64 0, .int .i64 0] 24)
  have hl := h.1
  have hown := refOwn_any ⟨left, add, free, -1, 0, 0, -1⟩ A cap _ (h.ext h1)
  clear h
  have hval := fun (A1 : Option Addr) (c1 : Nat) (w1 : World) (hr : Row w1 A1 left) => refCheck_any ⟨left, add, free, -1, 0, 0, -1⟩ A1 c1 w1 hr
  unfold checkN at hval
  cases e1 : (⟨left, add, free, -1, 0, 0, -1⟩ : Clk).ok
  all_goals
    rw [e1] at hval
    have E1 := Lib.hid e1
    clear e1
    go_enter Try.func11, Try.ntmps11
    go_wp2_with (first | (go_at_call 33; refine hown.mono ?_; rintro e w1 ⟨v, rfl, ho, hb⟩; obtain ⟨A1, c1, hv, _, hr1⟩ := ho.row hl; subst hv; have y0 := (re1 hb).2; simp only [World.size_alloc] at ho; rw [(re1 hb).1]) | (go_at_call 14; refine (hval A1 c1 _ (hr1.ext ?_)).mono ?_; (have := re1 hb; rw [← this.1]; exact (Ext.rfl w1).alloc _); rintro e w2 ⟨rfl, hb2⟩; have q := hb2; rw [← (re1 hb).1] at q; have e2 := (h1.tr hb).tr (((Ext.rfl w1).alloc _).tr q); have o2 := OwnI.ext (OwnI.alloc ho _) q; clear q; have x0 := (reba hb2 y0).2.1; have x1 := (reba hb2 y0).2.2; have n0 : w.heap.size ≠ w1.heap.size := (by omega); have n1 : w1.heap.size ≠ w.heap.size := (by omega); rw [(reba hb2 y0).1]))
  · refine bodyPost_ret (v := .tuple #[.agg (Clk.zero.cells (.slice none 0 0)), .int .i64 2]) ?_ rfl ?_
    · simp [results, Try.results11, go_sem, x0, x1, n0, n1]
    · have key : newR left add free = (Clk.zero, 2) := by simp [newR, E1.out]
      refine RetClk.of key ⟨_, rfl, OwnI.nil _ _, ?_⟩
      exact (e2.box (Nat.le_refl _) _ _).box (by omega) _ _
  · refine bodyPost_ret (v := .tuple #[.agg (Clk.cells ⟨left, add, free, -1, 0, 0, -1⟩ (.slice A1 left.length c1)), .int .i64 0]) ?_ rfl ?_
    · simp [results, Try.results11, go_sem, x0, x1, n0, n1]
    · have key : newR left add free = (⟨left, add, free, -1, 0, 0, -1⟩, 0) := by simp [newR, E1.out]
      refine RetClk.of key ⟨_, rfl, ?_, ?_⟩
      · exact ((o2.box (by omega) _ _).boxNe (fun k hk => by have := (ho.lt k hk).2; omega) _ _).lower (by omega)
      · exact (e2.box (Nat.le_refl _) _ _).box (by omega) _ _
end Go.Proofs.Ytbejaccdpikfhaa
