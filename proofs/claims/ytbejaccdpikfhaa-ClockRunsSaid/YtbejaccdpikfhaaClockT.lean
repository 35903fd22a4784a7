/- The statements' helpers: Alike, alike, first, looks. -/
import Derived.Test.YtbejaccdpikfhaaClockQ
import Derived.Test.YtbejaccdpikfhaaClockH
namespace Go.Proofs.Ytbejaccdpikfhaa
open Go.RowKit

theorem Alike_same (A B : Option Addr) (ca cb : Nat) (xs : List Int) (w : World) (h : Row w A xs) (k : Row w B xs) :
    Calls Try.prog 23 #[.slice A xs.length ca, .slice B xs.length cb] w fun e w' => e = .returned (.bool true) ∧ Ext w w' := by
  have hl := h.1
  go_enter Try.func23, Try.ntmps23
  go_wp2
  go_loopw [5] (fun i wr => ∃ (k n : Nat), k ≤ xs.length ∧ i = .int .i64 k ∧ wr = w.drewN n) (fun i _ => xs.length - (intOf i).toNat)
  case atStart => exact ⟨0, 0, Nat.zero_le _, rfl, rfl⟩
  case round =>
    obtain ⟨j, n, hj, rfl, rfl⟩ := hrel
    by_cases hlt : j < xs.length
    · have hltz : (j : Int) < (xs.length : Int) := by omega
      obtain ⟨b, off, rfl, hb, hc⟩ := h.2 (by omega)
      obtain ⟨b', off', rfl, hb', hc'⟩ := k.2 (by omega)
      have q1 := hc j hlt
      have q2 := hc' j hlt
      clear hc hc'
      generalize xs[j]?.getD 0 = y at q1 q2
      go_wp2
      go_quiet (fail)
      go_wp2
      go_roundw
      case rel => exact ⟨j + 1, _, by omega, by go_num, rfl⟩
      case measure => simp [intOf]; omega
    · obtain rfl : j = xs.length := by omega
      have hd : decide ((xs.length : Int) < (xs.length : Int)) = false := by simp
      go_wp2
      go_ret
      exact ⟨rfl, (Ext.rfl _).drewN _⟩

set_option maxHeartbeats 2000000 in
theorem alike_same (c : Clk) (A B : Option Addr) (ca cb : Nat) (w : World) (h : Row w A c.left) (k : Row w B c.left) :
    Calls Try.prog 12 #[c.val A ca, c.val B cb] w fun e w' => e = .returned (.bool true) ∧ Ext w w' := by
  have E2 := ((Ext.rfl w).alloc (.cells (c.cells (.slice A c.left.length ca)) 24)).alloc (.cells (c.cells (.slice B c.left.length cb)) 24)
  have hal := fun w1 (e : Ext w w1) => Alike_same A B ca cb c.left w1 (h.ext e) (k.ext e)
  clear h k
  go_enter Try.func12, Try.ntmps12
  go_wp2_with (go_at_call 23; refine (hal _ E2).mono ?_; rintro e w1 ⟨rfl, hb⟩; (obtain ⟨k1, k2⟩ := hb.box2); (obtain ⟨k1, f1⟩ := box_at k1); (obtain ⟨k2, f2⟩ := box_at k2))
  go_ret
  exact ⟨rfl, E2.tr hb⟩

theorem newFirst : newR [1000, 2000] 100 50 = (⟨[1000, 2000], 100, 50, -1, 0, 0, -1⟩, 0) := by kernel_rfl
abbrev firstC : Clk := ⟨[1000, 2000], 100, 50, -1, 0, 0, -1⟩
set_option maxHeartbeats 1000000 in
theorem first_law (w : World) : Calls Try.prog 26 #[] w fun e w' => (∃ A c1, e = .returned (.agg (firstC.cells (.slice A 2 c1))) ∧ Row w' A [1000, 2000]) ∧ Ext w w' := by
  have E1 := (Ext.rfl w).alloc (.cells (Clk.zero.cells (.slice none 0 0)) 24)
  have hnew := refNew_any [1000, 2000] (some ⟨w.heap.size + 1, 0, none⟩) 2 100 50 ((w.alloc (.cells (Clk.zero.cells (.slice none 0 0)) 24)).alloc (.cells #[.int .i64 1000, .int .i64 2000] 3)) (by
    have := row_new (w.alloc (.cells (Clk.zero.cells (.slice none 0 0)) 24)) [1000, 2000] 3 (by simp)
    rwa [World.size_alloc] at this)
  rw [newFirst] at hnew
  go_enter Try.func26, Try.ntmps26
  go_wp2_with (go_at_call 11; refine hnew.mono ?_; rintro e w1 ⟨v, rfl, ho, hb⟩; obtain ⟨A1, c1, hv, _, hr1⟩ := ho.row (by simp); subst hv; have e1 := (E1.alloc _).tr hb; have re := re1 (((Ext.rfl _).alloc _).tr hb); have y0 := re.2; have n0 : w.heap.size ≠ w1.heap.size := (by omega); have n1 : w1.heap.size ≠ w.heap.size := (by omega); simp only [World.size_alloc] at ho; rw [re.1]; clear re)
  refine bodyPost_ret (v := .agg (firstC.cells (.slice A1 2 c1))) ?_ rfl ⟨⟨_, _, rfl, ?_⟩, ?_⟩
  · simp [results, Try.results26, go_sem, y0, n0, n1]
  · obtain ⟨A', c', e, _, hr⟩ := OwnI.row ((OwnI.box ho (b := w.heap.size) (by omega) _ _).alloc _) (by simp)
    cases e
    exact hr
  · exact (e1.box (by omega) _ _).alloc _

theorem looks_any (c : Clk) (A : Option Addr) (cap : Nat) (now a b f : Int) (w : World) (h : Row w A c.left) (hl : lookR c now = ([a, b], f, 0)) :
    Calls Try.prog 27 #[c.val A cap, .int .i64 now, .int .i64 a, .int .i64 b, .int .i64 f] w fun e w' => e = .returned (.bool true) ∧ Ext w w' := by
  have E1 := (Ext.rfl w).alloc (.cells (c.cells (.slice A c.left.length cap)) 24)
  have hlk := Look_any c A cap now _ (h.ext E1)
  rw [hl] at hlk
  clear hl h
  go_enter Try.func27, Try.ntmps27
  go_wp2_with (first | (go_at_call 19; refine hlk.mono ?_; rintro e w1 ⟨v, rfl, ho, hb⟩; obtain ⟨A1, c1, hv, _, hr1⟩ := ho.row (by simp); subst hv) | (go_at_call 23; refine (Alike_same A1 _ c1 _ [a, b] _ (hr1.ext ((Ext.rfl _).alloc _)) (row_new _ [a, b] _ (by simp))).mono ?_; rintro e w2 ⟨rfl, hb2⟩))
  go_ret
  exact ⟨rfl, ((E1.tr hb).alloc _).tr hb2⟩
end Go.Proofs.Ytbejaccdpikfhaa
