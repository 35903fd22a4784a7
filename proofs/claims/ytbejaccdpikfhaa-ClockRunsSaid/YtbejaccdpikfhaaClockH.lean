/- Look of package clock. -/
import Derived.Test.YtbejaccdpikfhaaClockG
namespace Go.Proofs.Ytbejaccdpikfhaa
open Go.RowKit

def lookR (c : Clk) (now : Int) : List Int × Int × Int :=
  if (toldN c now != 0) = true then ([], 0, toldN c now)
  else if c.turn < 0 then (c.left, c.fallen, 0)
  else let x := wrap64 (c.left[c.turn.toNat]?.getD 0 - usedN c now)
    if x < 0 then (c.left.set c.turn.toNat 0, c.turn, 0) else (c.left.set c.turn.toNat x, c.fallen, 0)
def LookP (w : World) (r : List Int × Int × Int) (e : Ending) (w' : World) : Prop := ∃ v, e = .returned (.tuple #[v, .int .i64 r.2.1, .int .i64 r.2.2]) ∧ OwnI w' w.heap.size v r.1 ∧ Ext w w'
theorem LookP.of {w w' : World} {r r' : List Int × Int × Int} {e : Ending} (h : r = r') (k : LookP w r' e w') : LookP w r e w' := by rw [h]; exact k
def OwnSlot (W : World) (base : Nat) (xs : List Int) (s : Value) (wx : World) : Prop := OwnI wx base s xs ∧ Ext W wx

theorem OwnI.store2 {w : World} {base g cap : Nat} {xs : List Int} (h : OwnI w base (.slice (some ⟨g, 0, none⟩) xs.length cap) xs) (j : Nat) (x y : Int) : OwnI ((w.setCell ⟨g, j, none⟩ (.int .i64 x)).setCell ⟨g, j, none⟩ (.int .i64 y)) base (.slice (some ⟨g, 0, none⟩) xs.length cap) (xs.set j y) := by
  have h1 := h.store j x
  rw [show xs.length = (xs.set j x).length from List.length_set.symm] at h1
  have h2 := h1.store j y
  rwa [List.set_set, List.length_set] at h2
set_option maxHeartbeats 4000000 in
theorem Look_any (c : Clk) (A : Option Addr) (cap : Nat) (now : Int) (w : World) (h : Row w A c.left) :
    Calls Try.prog 19 #[c.val A cap, .int .i64 now] w (LookP w (lookR c now)) := by
  obtain ⟨W, hW⟩ : ∃ W, w.alloc (.cells (c.cells (.slice A c.left.length cap)) 24) = W := ⟨_, rfl⟩
  have E0 := (Ext.rfl w).alloc (.cells (c.cells (.slice A c.left.length cap)) 24)
  have b0 := new_at w (.cells (c.cells (.slice A c.left.length cap)) 24)
  rw [hW] at E0 b0
  have z0 : w.heap.size < W.heap.size := (Array.getElem?_eq_some_iff.1 b0).1
  obtain ⟨k1, f1⟩ := box_at b0
  have htold := told_any c A cap now W (h.ext E0)
  obtain ⟨r, hr0⟩ : ∃ r, toldN c now = r := ⟨_, rfl⟩
  rw [hr0] at htold
  have HR0 := Lib.hid hr0
  clear hr0
  cases hr : (r != 0)
  · have hr1 : toldN c now = 0 := by rw [HR0.out]; simpa using hr
    have hT := okTurn (told0 hr1).1
    clear hr1
    go_enter Try.func19, Try.ntmps19
    go_upto_region 4 with (go_at_call 38; refine htold.mono ?_; rintro e w1 ⟨rfl, hb⟩; (obtain ⟨k1, f1⟩ := box_at (hb.bx b0)))
    have b1 := hb.bx b0
    have hcl := fun w2 (hb2 : Ext w1 w2) => clone_any A cap c.left w2 (h.ext ((E0.tr hb).tr hb2))
    go_cut [4, 5] (fun s4 s5 wx => OwnSlot w1 w1.heap.size c.left s4 wx ∧ s5 = .int .i64 c.fallen)
    case first =>
      go_region_with (go_at_call 39; refine (hcl _ (Ext.rfl w1).drew).mono ?_; rintro e w2 ⟨v, rfl, ho, hb2⟩; (have hb3 := hb2.ud); (obtain ⟨k1, f1⟩ := box_at (hb3.bx b1)))
      all_goals (go_wp2_with fail; go_meet; exact ⟨⟨ho, hb3⟩, rfl⟩)
    case rest =>
      obtain ⟨⟨ho, hb3⟩, rfl⟩ := hcut
      have E3 := (E0.tr hb).tr hb3
      have b3 := hb3.bx b1
      clear k1 f1 hcl hW
      obtain ⟨g, c1, hv, hg, hgl, hcell, hfr⟩ := ho.pos (by omega)
      subst hv
      clear hcell hfr
      obtain ⟨k1, f1⟩ := box_at b3
      have z1 : w.heap.size < w1.heap.size := (Array.getElem?_eq_some_iff.1 b1).1
      by_cases ht : c.turn < 0
      · go_wp2
        go_ret3
        have key : lookR c now = (c.left, c.fallen, 0) := by simp only [lookR, HR0.out, hr]; rw [if_neg (by simp), if_pos ht]
        exact LookP.of key ⟨_, rfl, ho.lower (by omega), E3⟩
      · have ht0 : 0 ≤ c.turn := by omega
        have ht1 : c.turn < (c.left.length : Int) := by omega
        have hj : c.turn.toNat < c.left.length := by omega
        obtain ⟨x, hx0⟩ : ∃ x, c.left[c.turn.toNat]?.getD 0 = x := ⟨_, rfl⟩
        have hx1 : (c.left.map (Value.int .i64))[c.turn.toNat]? = some (.int .i64 x) := by rw [← hx0]; simp [List.getElem?_eq_getElem hj]
        have HX := Lib.hid hx0
        have HX1 := Lib.hid hx1
        clear hx0 hx1
        have hcg := (ho.cellAt c.turn.toNat (by omega)).trans HX1.out
        have hfg := ho.frozenAt c.turn.toNat
        obtain ⟨u, hu0⟩ : ∃ u, usedN c now = u := ⟨_, rfl⟩
        have hused := fun w2 => used_any c A cap now w2
        have hu1 : mx 0 (wrap64 (wrap64 (now - c.since) - c.free)) = u := hu0
        rw [hu1] at hused
        have HU := Lib.hid hu0
        clear hu0 hu1
        have n0 : g ≠ w.heap.size := by omega
        go_upto_region 7 with fail
        go_cut [] (fun wx => ∃ w2, Ext wc w2 ∧ wx = w2.setCell ⟨g, c.turn.toNat, none⟩ (.int .i64 (wrap64 (x - u))))
        case first =>
          go_region_with (go_at_call 40; refine (hused _).mono ?_; rintro e w2 ⟨rfl, hb4⟩; (have hb5 := hb4.ud); (obtain ⟨k1, f1⟩ := box_at (hb5.bx b3)); (have o5 := OwnI.ext ho hb5); (have hcg := (o5.cellAt c.turn.toNat (by omega)).trans HX1.out); (have hfg := o5.frozenAt c.turn.toNat))
          all_goals (go_wp2_with fail; go_meet; exact ⟨_, hb5, by rw [IntWalk.i64_left]⟩)
        case rest =>
          obtain ⟨w2, hb5, rfl⟩ := hcut
          have o5 := OwnI.ext ho hb5
          have b5 := hb5.bx b3
          have hcg := (o5.cellAt c.turn.toNat (by omega)).trans HX1.out
          have hfg := o5.frozenAt c.turn.toNat
          clear k1 f1
          obtain ⟨k1, f1⟩ := box_at b5
          by_cases hx5 : wrap64 (x - u) < 0
          · go_wp2
            go_region
            all_goals go_wp2
            all_goals
              go_ret3
              have key : lookR c now = (c.left.set c.turn.toNat 0, c.turn, 0) := by simp only [lookR, HR0.out, hr, HX.out, HU.out]; rw [if_neg (by simp), if_neg (by omega), if_pos hx5]
              refine LookP.of key ⟨_, rfl, ?_, ?_⟩
              · exact OwnI.ext ((o5.store2 _ _ _).lower (by omega)) (Ext.rfl _).drew
              · exact (Ext.set (p := ⟨g, c.turn.toNat, none⟩) (Ext.set (p := ⟨g, c.turn.toNat, none⟩) (E3.tr hb5) (by show _ ≤ g; omega) _) (by show _ ≤ g; omega) _).drew
          · go_wp2
            go_ret3
            have key : lookR c now = (c.left.set c.turn.toNat (wrap64 (x - u)), c.fallen, 0) := by simp only [lookR, HR0.out, hr, HX.out, HU.out]; rw [if_neg (by simp), if_neg (by omega), if_neg (by omega)]
            exact LookP.of key ⟨_, rfl, (o5.store _ _).lower (by omega), Ext.set (p := ⟨g, c.turn.toNat, none⟩) (E3.tr hb5) (by show _ ≤ g; omega) _⟩
  · have key : lookR c now = ([], 0, r) := by simp [lookR, HR0.out, hr]
    go_enter Try.func19, Try.ntmps19
    go_wp2_with (go_at_call 38; refine htold.mono ?_; rintro e w1 ⟨rfl, hb⟩)
    go_ret3
    exact LookP.of key ⟨_, rfl, OwnI.nil _ _, E0.tr hb⟩
end Go.Proofs.Ytbejaccdpikfhaa
