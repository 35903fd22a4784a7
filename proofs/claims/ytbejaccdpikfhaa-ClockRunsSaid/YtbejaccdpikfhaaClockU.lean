/- awake: the chapter's first examples. -/
import Derived.Test.YtbejaccdpikfhaaClockT
import Derived.Test.YtbejaccdpikfhaaClockG
namespace Go.Proofs.Ytbejaccdpikfhaa
open Go.RowKit

abbrev d0 : Clk := ⟨[1000, 2000], 100, 50, 0, 10, 10, -1⟩
theorem startD : startR firstC 0 10 = (d0, 0) := by kernel_rfl
theorem fallsD : fallsR d0 = (1061, 0) := by kernel_rfl
theorem lookD : lookR d0 61 = ([999, 2000], -1, 0) := by kernel_rfl

set_option maxHeartbeats 4000000 in
theorem awake_any (w : World) : Calls Try.prog 9 #[] w fun e w' => e = .returned (.bool true) ∧ Ext w w' := by
  have E1 := (Ext.rfl w).alloc (.cells #[.int .i64 1000, .int .i64 2000] 3)
  have hnew := New_any [1000, 2000] (some ⟨w.heap.size, 0, none⟩) 2 100 50 _ (row_new w [1000, 2000] 3 (by simp))
  rw [newFirst] at hnew
  have hstart := fun A1 c1 w1 (h : Row w1 A1 firstC.left) => Start_any firstC A1 c1 0 10 w1 h (by rw [startD]; simp)
  rw [startD] at hstart
  have hfalls := fun A1 c1 w1 (h : Row w1 A1 d0.left) => Falls_any d0 A1 c1 w1 h
  rw [fallsD] at hfalls
  go_enter Try.func9, Try.ntmps9
  go_upto_region 4 with (first
    | (go_at_call 10; refine hnew.mono ?_; rintro e w1 ⟨v, rfl, ho, hb⟩; obtain ⟨A1, c1, hv, _, hr1⟩ := ho.row (by simp); subst hv; have e1 := E1.tr hb)
    | (go_at_call 26; refine (first_law _).mono ?_; rintro e w2 ⟨⟨A2, c2, rfl, hr2⟩, hb2⟩; have bC2 := hb2.bx (new_at w1 _); have e2 := (e1.alloc _).tr hb2; have hr12 := hr1.ext (((Ext.rfl _).alloc _).tr hb2))
    | (go_at_call 15; refine (hstart A2 c2 _ hr2).mono ?_; rintro e w3 ⟨v, rfl, ho3, hb3⟩; obtain ⟨A3, c3, hv, _, hr3⟩ := ho3.row (by simp); subst hv; have bC3 := hb3.bx bC2; have e3 := e2.tr hb3; have hr13 := hr12.ext hb3)
    | (go_at_call 21; refine (hfalls A3 c3 _ (hr3.ext ((Ext.rfl _).alloc _))).mono ?_; rintro e w4 ⟨rfl, hb4⟩; have bD4 := hb4.bx (new_at w3 _); have bC4 := (((Ext.rfl _).alloc _).tr hb4).bx bC3; have e4 := (e3.alloc _).tr hb4; have hr14 := hr13.ext (((Ext.rfl _).alloc _).tr hb4); have hr34 := hr3.ext (((Ext.rfl _).alloc _).tr hb4); (obtain ⟨kC, fC⟩ := box_at bC4); (obtain ⟨kD, fD⟩ := box_at bD4)))
  go_cut [0] (fun s wx => s = .bool true ∧ Ext w4 wx)
  case first =>
    have mkS : ∀ w', Ext w4 w' → (Ext w4 w' ∧ (∀ i, w'.cell? ⟨w1.heap.size, i, none⟩ = (firstC.cells (.slice A1 2 c1))[i]?) ∧ (∀ i, w'.cell? ⟨w3.heap.size, i, none⟩ = (d0.cells (.slice A3 2 c3))[i]?)) := fun w' h => ⟨h, (box_at (h.bx bC4)).1, (box_at (h.bx bD4)).1⟩
    have MK := Lib.hid mkS
    clear mkS
    go_region_held3 (fun w' => Ext w4 w' ∧ (∀ i, w'.cell? ⟨w1.heap.size, i, none⟩ = (firstC.cells (.slice A1 2 c1))[i]?) ∧ (∀ i, w'.cell? ⟨w3.heap.size, i, none⟩ = (d0.cells (.slice A3 2 c3))[i]?)) (first | exact MK.out _ (Ext.rfl _).drew | exact MK.out _ hb10 | exact MK.out _ hb8 | exact MK.out _ hb6)
      (first
      | (go_at_call 26; refine (first_law _).mono ?_; rintro e w5 ⟨⟨A5, c5, rfl, hr5⟩, hb5⟩; (have hb6 : Ext w4 w5 := (by first | exact hb5.ud | exact Ext.tr (And.left (by assumption)) hb5)))
      | (go_at_call 12; refine (alike_same firstC A1 A5 c1 c5 _ (hr14.ext hb6) hr5).mono ?_; rintro e w6 ⟨rfl, hb7⟩; (have hb8 := hb6.tr hb7))
      | (go_at_call 27; refine (looks_any d0 A3 c3 61 999 2000 (-1) _ (hr34.ext hb8) lookD).mono ?_; rintro e w7 ⟨rfl, hb9⟩; (have hb10 := hb8.tr hb9)))
    all_goals (go_wp2_with fail; go_meet; exact ⟨rfl, hb10⟩)
  case rest =>
    obtain ⟨rfl, hb⟩ := hcut
    go_wp2
    go_ret
    exact ⟨rfl, e4.tr hb⟩
end Go.Proofs.Ytbejaccdpikfhaa
