/- ready, start, stop of package clock. -/
import Derived.Test.YtbejaccdpikfhaaClockB
import Derived.Deep.RegionWith
namespace Go.Proofs.Ytbejaccdpikfhaa
open Go.RowKit

def readyN (c : Clk) (runs : Bool) : Int := if 0 ≤ c.fallen then 17 else if runs = decide (0 ≤ c.turn) then 0 else 13
theorem tab0 (w : World) : (Instr.index 76 (.agg #[.func (.func 51) #[] #[], .func (.func 52) #[] #[]]) (.int .i64 0)).run Try.prog w = .ok (.func (.func 51) #[] #[]) w := by kernel_rfl
theorem tab1 (w : World) : (Instr.index 76 (.agg #[.func (.func 51) #[] #[], .func (.func 52) #[] #[]]) (.int .i64 1)).run Try.prog w = .ok (.func (.func 52) #[] #[]) w := by kernel_rfl
set_option maxHeartbeats 2000000 in
theorem ready_any (c : Clk) (A : Option Addr) (cap : Nat) (runs : Bool) (w : World) :
    Calls Try.prog 41 #[c.val A cap, .bool runs] w fun e w' => e = .returned (.int .i64 (readyN c runs)) ∧ Ext w w' := by
  have h1 := (Ext.rfl w).alloc (.cells (c.cells (.slice A c.left.length cap)) 57)
  unfold readyN
  by_cases e1 : 0 ≤ c.fallen
  · go_enter Try.func41, Try.ntmps41
    go_wp2
    go_ret
    exact ⟨ret_int (by simp [e1]), h1⟩
  · have i0 := tab0
    have i1 := tab1
    cases runs <;> by_cases e2 : 0 ≤ c.turn
    all_goals
      go_enter Try.func41, Try.ntmps41
      go_wp2_with fail
      go_region_with (first | (go_at_call 48; refine (table_any _).mono ?_; rintro e w1 ⟨rfl, hb⟩; (first | have k1 := hb.box1 | have k1 := hb.ud.box1); obtain ⟨k1, f1⟩ := box_at k1) | (go_at_call 49; refine (idx_any _ _).mono ?_; rintro e w' ⟨rfl, rfl⟩) | (go_at_call 51; refine (t1_any _ _).mono ?_; rintro e w' ⟨rfl, rfl⟩) | (go_at_call 52; refine (t2_any _ _).mono ?_; rintro e w' ⟨rfl, rfl⟩))
      all_goals (go_wp2; go_ret; exact ⟨ret_int (by simp [e1, e2]), by first | exact h1.tr hb.ud | exact h1.tr hb⟩)
end Go.Proofs.Ytbejaccdpikfhaa
