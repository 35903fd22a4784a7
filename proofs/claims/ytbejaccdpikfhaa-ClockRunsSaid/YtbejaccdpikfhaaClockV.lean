/- The walk of ClockRuns. -/
import Derived.Test.YtbejaccdpikfhaaClockS
import Derived.Test.YtbejaccdpikfhaaClockU
namespace Go.Proofs.Ytbejaccdpikfhaa
open Go.RowKit

theorem fold_len (l : List Tk) : ∀ (c : Clk) (i : Nat), (foldR c l i).1.left.length ≤ c.left.length := by
  induction l with
  | nil => intro c i; exact Nat.le_refl _
  | cons t l ih =>
    intro c i
    unfold foldR
    split
    · simp
    · exact Nat.le_trans (ih _ _) (tick_len c t)
theorem run_len (c : Clk) (l : List Tk) : (runR c l).1.left.length ≤ c.left.length := by
  unfold runR
  split
  · simp
  · split
    · simp
    · exact fold_len l c 0

set_option maxHeartbeats 4000000 in
theorem ClockRuns_any (c : Clk) (A : Option Addr) (cap : Nat) (B : Option Addr) (capB : Nat) (l : List Tk) (w : World) (h : Row w A c.left) (hB : TRow w B l) :
    Calls Try.prog 4 #[c.val A cap, .slice B l.length capB] w fun e w' => e = .returned (.bool true) ∧ Ext w w' := by
  have E1 := (Ext.rfl w).alloc (.cells (c.cells (.slice A c.left.length cap)) 24)
  have hl := h.1
  have hlB := hB.1
  have haw := awake_any
  by_cases g1 : (20 : Int) < (c.left.length : Int)
  · go_enter Try.func4, Try.ntmps4
    go_wp2_with (go_at_call 9; refine (haw _).mono ?_; rintro e w1 ⟨rfl, hb⟩)
    all_goals (go_ret; exact ⟨rfl, E1.tr hb⟩)
  · by_cases g2 : (100 : Int) < (l.length : Int)
    · go_enter Try.func4, Try.ntmps4
      go_wp2_with (go_at_call 9; refine (haw _).mono ?_; rintro e w1 ⟨rfl, hb⟩)
      all_goals (go_ret; exact ⟨rfl, E1.tr hb⟩)
    · have hs : (foldR c l 0).1.left.length * 8 ≤ 140737488351232 := by have := fold_len l c 0; omega
      have hrl : (runR c l).1.left.length * 8 ≤ 140737488351232 := by have := run_len c l; omega
      have hrun := fun w1 (e : Ext w w1) => Run_any c A cap B capB l w1 (h.ext e) (hB.ext e) hs
      have href := fun w1 (e : Ext w w1) => refRun_any c A cap B capB l w1 (h.ext e) (hB.ext e)
      clear h hB hs
      obtain ⟨r, hr0⟩ : ∃ r, runR c l = r := ⟨_, rfl⟩
      rw [hr0] at hrun href hrl
      clear hr0
      go_enter Try.func4, Try.ntmps4
      go_wp2_with (first
        | (go_at_call 24; refine (hrun _ E1).mono ?_; rintro e w1 ⟨A1, c1, rfl, hc1, hr1, hb1, _⟩; have e1 := E1.tr hb1; have k0 := hb1.bx (new_at w _); have z1 : w.heap.size < w1.heap.size := Nat.lt_of_succ_le (by have := hb1.size; simpa using this); (obtain ⟨k0', f0⟩ := box_at k0))
        | (go_at_call 25; refine (href _ ((e1.alloc _).alloc _)).mono ?_; rintro e w2 ⟨A2, c2, rfl, hc2, hr2, hb2, _⟩; have e2 := ((e1.alloc _).alloc _).tr hb2; have k1 := hb2.bx (new_at2 w1 _ _).1; have k2 := hb2.bx (new_at2 w1 _ _).2; have z2 : w1.heap.size < w2.heap.size := (Array.getElem?_eq_some_iff.1 k1).1; have z3 : w1.heap.size + 1 < w2.heap.size := (Array.getElem?_eq_some_iff.1 k2).1; (obtain ⟨k1', f1⟩ := box_at k1); (obtain ⟨k2', f2⟩ := box_at k2))
        | (go_at_call 12; refine (alike_same r.1 A1 A2 c1 c2 _ (hr1.ext (((((Ext.rfl _).alloc _).alloc _).tr hb2).alloc _ |>.alloc _)) (hr2.ext (((Ext.rfl _).alloc _).alloc _))).mono ?_; rintro e w3 ⟨rfl, hb3⟩; have e3 := ((e2.alloc _).alloc _).tr hb3; have p1 := hb3.bx (new_at2 w2 _ _).2; have p2 := (((((Ext.rfl _).alloc _).alloc _).tr hb3).bx k2); (obtain ⟨p1', f1⟩ := box_at p1); (obtain ⟨p2', f2⟩ := box_at p2))
        | (go_at_call 9; refine (haw _).mono ?_; rintro e w4 ⟨rfl, hb4⟩))
      go_ret
      exact ⟨rfl, e3.tr hb4⟩
end Go.Proofs.Ytbejaccdpikfhaa
