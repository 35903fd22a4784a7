/- Falls and Look of package clock. -/
import Derived.Test.YtbejaccdpikfhaaClockF
namespace Go.Proofs.Ytbejaccdpikfhaa
open Go.RowKit

def fallsR (c : Clk) : Int × Int :=
  if c.ok = false then (0, 13) else if (readyN c true != 0) = true then (0, readyN c true)
  else let at_ := wrap64 (wrap64 (wrap64 (c.since + c.free) + c.left[c.turn.toNat]?.getD 0) + 1)
    if 1000000000000 < at_ then (0, 5) else (at_, 0)
def TwoInts (w : World) (r : Int × Int) (e : Ending) (w' : World) : Prop := e = .returned (.tuple #[.int .i64 r.1, .int .i64 r.2]) ∧ Ext w w'
theorem TwoInts.of {w w' : World} {r r' : Int × Int} {e : Ending} (h : r = r') (k : TwoInts w r' e w') : TwoInts w r e w' := by rw [h]; exact k
theorem ready0 {c : Clk} (h : (readyN c true != 0) = false) : 0 ≤ c.turn := by
  have h : readyN c true = 0 := by simpa using h
  unfold readyN at h
  split at h
  · omega
  · split at h
    · simp_all
    · omega

set_option maxHeartbeats 2000000 in
theorem Falls_any (c : Clk) (A : Option Addr) (cap : Nat) (w : World) (h : Row w A c.left) :
    Calls Try.prog 21 #[c.val A cap] w (TwoInts w (fallsR c)) := by
  obtain ⟨W, hW⟩ : ∃ W, w.alloc (.cells (c.cells (.slice A c.left.length cap)) 24) = W := ⟨_, rfl⟩
  have E0 := (Ext.rfl w).alloc (.cells (c.cells (.slice A c.left.length cap)) 24)
  have b0 := new_at w (.cells (c.cells (.slice A c.left.length cap)) 24)
  rw [hW] at E0 b0
  obtain ⟨k1, f1⟩ := box_at b0
  have hch := Check_any c A cap W (h.ext E0)
  unfold checkN at hch
  cases e1 : c.ok
  · rw [e1] at hch
    have key : fallsR c = (0, 13) := by simp [fallsR, e1]
    go_enter Try.func21, Try.ntmps21
    go_wp2_with (go_at_call 13; refine hch.mono ?_; rintro e w1 ⟨rfl, hb⟩)
    go_ret2
    exact TwoInts.of key ⟨rfl, E0.tr hb⟩
  · rw [e1] at hch
    obtain ⟨r, hr0⟩ : ∃ r, readyN c true = r := ⟨_, rfl⟩
    have hrd := fun w1 => ready_any c A cap true w1
    rw [hr0] at hrd
    have HR0 := Lib.hid hr0
    clear hr0
    cases hr : (r != 0)
    · have ht := ready0 (by rw [HR0.out]; exact hr)
      have hT := okTurn e1
      obtain ⟨b, off, rfl, hlt, hc⟩ := h.2 (by omega)
      have hcj := hc c.turn.toNat (by omega)
      clear hc
      obtain ⟨x, hx0⟩ : ∃ x, c.left[c.turn.toNat]?.getD 0 = x := ⟨_, rfl⟩
      rw [hx0] at hcj
      have HX := Lib.hid hx0
      have E1 := Lib.hid e1
      clear hx0 e1
      have ht1 : c.turn < (c.left.length : Int) := by omega
      clear hT
      by_cases h5 : 1000000000000 < wrap64 (wrap64 (wrap64 (c.since + c.free) + x) + 1)
      all_goals
        go_enter Try.func21, Try.ntmps21
        go_wp2_with (first | (go_at_call 13; refine hch.mono ?_; rintro e w1 ⟨rfl, hb⟩; (obtain ⟨k1, f1⟩ := box_at (hb.bx b0))) | (go_at_call 41; refine (hrd _).mono ?_; rintro e w2 ⟨rfl, hb2⟩; (have hb3 := hb.tr hb2); (obtain ⟨k1, f1⟩ := box_at (hb3.bx b0)); have hcj2 := ((E0.tr hb3).cell (p := ⟨b, off + c.turn.toNat, none⟩) hlt).trans hcj))
        go_quiet (fail)
        go_wp2
        go_ret2
      · have key : fallsR c = (0, 5) := by simp only [fallsR, E1.out, HR0.out, hr, HX.out]; rw [if_neg (by simp), if_neg (by simp), if_pos h5]
        exact TwoInts.of key ⟨rfl, (E0.tr hb3).drewN _⟩
      · have key : fallsR c = (wrap64 (wrap64 (wrap64 (c.since + c.free) + x) + 1), 0) := by simp only [fallsR, E1.out, HR0.out, hr, HX.out]; rw [if_neg (by simp), if_neg (by simp), if_neg (by omega)]
        exact TwoInts.of key ⟨rfl, (E0.tr hb3).drewN _⟩
    · have key : fallsR c = (0, r) := by simp [fallsR, e1, HR0.out, hr]
      go_enter Try.func21, Try.ntmps21
      go_wp2_with (first | (go_at_call 13; refine hch.mono ?_; rintro e w1 ⟨rfl, hb⟩; (obtain ⟨k1, f1⟩ := box_at (hb.bx b0))) | (go_at_call 41; refine (hrd _).mono ?_; rintro e w2 ⟨rfl, hb2⟩))
      go_ret2
      exact TwoInts.of key ⟨rfl, (E0.tr hb).tr hb2⟩
end Go.Proofs.Ytbejaccdpikfhaa
