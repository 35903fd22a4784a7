/- The reference's Check: ways that end early (0). -/
import Derived.Test.YtbejaccdpikfhaaClockL
namespace Go.Proofs.Ytbejaccdpikfhaa
open Go.RowKit

set_option maxRecDepth 100000 in
set_option maxHeartbeats 8000000 in
theorem rc1 (c : Clk) (A : Option Addr) (cap : Nat) (w : World) (hl : c.left.length * 8 ≤ 140737488351232)  (h1 : ((c.left.length : Int) < 1)) :
    Calls Try.prog 14 #[c.val A cap] w fun e w' => e = .returned (.int .i64 13) ∧ Ext w w' := by
  have E1 := (Ext.rfl w).alloc (.cells (c.cells (.slice A c.left.length cap)) 24)
  go_enter Try.func14, Try.ntmps14
  go_wp2
  all_goals (first | (go_ret; exact ⟨rfl, E1⟩) | (exfalso; simp_all [undef]))
set_option maxRecDepth 100000 in
set_option maxHeartbeats 8000000 in
theorem rc2 (c : Clk) (A : Option Addr) (cap : Nat) (w : World) (hl : c.left.length * 8 ≤ 140737488351232) (h1 : ¬ ((c.left.length : Int) < 1)) (h2 : ((4 : Int) < c.left.length)) :
    Calls Try.prog 14 #[c.val A cap] w fun e w' => e = .returned (.int .i64 13) ∧ Ext w w' := by
  have E1 := (Ext.rfl w).alloc (.cells (c.cells (.slice A c.left.length cap)) 24)
  go_enter Try.func14, Try.ntmps14
  go_wp2
  all_goals (first | (go_ret; exact ⟨rfl, E1⟩) | (exfalso; simp_all [undef]))
set_option maxRecDepth 100000 in
set_option maxHeartbeats 8000000 in
theorem rc3 (c : Clk) (A : Option Addr) (cap : Nat) (w : World) (hl : c.left.length * 8 ≤ 140737488351232) (h1 : ¬ ((c.left.length : Int) < 1)) (h2 : ¬ ((4 : Int) < c.left.length)) (h3 : (c.add < 0)) :
    Calls Try.prog 14 #[c.val A cap] w fun e w' => e = .returned (.int .i64 13) ∧ Ext w w' := by
  have E1 := (Ext.rfl w).alloc (.cells (c.cells (.slice A c.left.length cap)) 24)
  go_enter Try.func14, Try.ntmps14
  go_wp2
  all_goals (first | (go_ret; exact ⟨rfl, E1⟩) | (exfalso; simp_all [undef]))
set_option maxRecDepth 100000 in
set_option maxHeartbeats 8000000 in
theorem rc4 (c : Clk) (A : Option Addr) (cap : Nat) (w : World) (hl : c.left.length * 8 ≤ 140737488351232) (h1 : ¬ ((c.left.length : Int) < 1)) (h2 : ¬ ((4 : Int) < c.left.length)) (h3 : ¬ (c.add < 0)) (h4 : ((10000000 : Int) < c.add)) :
    Calls Try.prog 14 #[c.val A cap] w fun e w' => e = .returned (.int .i64 13) ∧ Ext w w' := by
  have E1 := (Ext.rfl w).alloc (.cells (c.cells (.slice A c.left.length cap)) 24)
  go_enter Try.func14, Try.ntmps14
  go_wp2
  all_goals (first | (go_ret; exact ⟨rfl, E1⟩) | (exfalso; simp_all [undef]))
end Go.Proofs.Ytbejaccdpikfhaa
