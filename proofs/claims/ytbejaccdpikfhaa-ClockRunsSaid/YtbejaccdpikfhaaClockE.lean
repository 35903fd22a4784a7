/- stop of package clock. -/
import Derived.Test.YtbejaccdpikfhaaClockD
namespace Go.Proofs.Ytbejaccdpikfhaa
open Go.RowKit

theorem absw {P : Program} {c : Code} {Q : Exit → Act → World → Prop} {a : Act} {W : World} (F : World → Prop) (h : F W) (k : ∀ W', F W' → Code.wp P c Q a W') : Code.wp P c Q a W := k W h

theorem first0 {a b : Int} (h : (firstN [a, b] != 0) = false) : a = 0 ∧ b = 0 := by
  unfold firstN at h
  by_cases e : a = 0
  · subst e
    by_cases e2 : b = 0
    · exact ⟨rfl, e2⟩
    · have : (b != 0) = true := by simpa using e2
      simp [List.find?, this, e2] at h
  · have : (a != 0) = true := by simpa using e
    simp [List.find?, this, e] at h
theorem told0 {c : Clk} {now : Int} (h : toldN c now = 0) : c.ok = true ∧ btw now 0 1000000000000 = true ∧ c.last ≤ now := by
  unfold toldN at h
  split at h
  · omega
  · split at h
    · omega
    · split at h
      · omega
      · refine ⟨by simp_all, by simp_all, by omega⟩
theorem okTurn {c : Clk} (h : c.ok = true) : -1 ≤ c.turn ∧ c.turn < c.left.length ∧ -1 ≤ c.fallen ∧ c.fallen < c.left.length ∧ 1 ≤ c.left.length ∧ c.left.length ≤ 4 := by
  simp only [Clk.ok, Clk.v1, Clk.v3, Bool.and_eq_true, btw_iff] at h
  omega

def usedN (c : Clk) (now : Int) : Int := mx 0 (wrap64 (wrap64 (now - c.since) - c.free))
def stopR (c : Clk) (now : Int) : Clk × Int :=
  if (firstN [toldN c now, readyN c true] != 0) = true then (Clk.zero, firstN [toldN c now, readyN c true])
  else
    let u := usedN c now
    let x := c.left[c.turn.toNat]?.getD 0
    if x < u then ({ c with left := c.left.set c.turn.toNat 0, fallen := c.turn, turn := -1, since := 0, last := now }, 0)
    else ({ c with left := c.left.set c.turn.toNat (mn (wrap64 (wrap64 (x - u) + c.add)) 1000000000), turn := -1, since := 0, last := now }, 0)

theorem OwnI.store {w : World} {base g cap : Nat} {xs : List Int} (h : OwnI w base (.slice (some ⟨g, 0, none⟩) xs.length cap) xs) (j : Nat) (x : Int) : OwnI (w.setCell ⟨g, j, none⟩ (.int .i64 x)) base (.slice (some ⟨g, 0, none⟩) xs.length cap) (xs.set j x) := by
  have := h.stored j (.int .i64 x)
  unfold OwnI
  rw [List.length_set, List.map_set]
  exact this.1
theorem OwnI.pos {w : World} {base : Nat} {v : Value} {xs : List Int} (h : OwnI w base v xs) (h0 : 0 < xs.length) : ∃ g cap, v = .slice (some ⟨g, 0, none⟩) xs.length cap ∧ base ≤ g ∧ g < w.heap.size ∧ (∀ j, j < xs.length → w.cell? ⟨g, j, none⟩ = some (.int .i64 (xs[j]?.getD 0))) ∧ ∀ j, w.frozen? ⟨g, j, none⟩ = false := by
  rcases h.2 with ⟨_, h1⟩ | ⟨g, cap, cur, rfl, hg, hh, h1, h2, h3, h4⟩
  · omega
  · exact ⟨g, cap, rfl, hg, (Array.getElem?_eq_some_iff.1 hh).1, fun j hj => by have := h.cellAt j (by omega); simpa [List.getElem?_eq_getElem hj] using this, fun j => h.frozenAt j⟩

set_option maxHeartbeats 4000000 in
theorem stop_any (c : Clk) (A : Option Addr) (cap : Nat) (now : Int) (w : World) (h : Row w A c.left) :
    Calls Try.prog 36 #[c.val A cap, .int .i64 now] w (RetClk w (stopR c now)) := by
  obtain ⟨W, hW⟩ : ∃ W, W2 w c (.slice A c.left.length cap) = W := ⟨_, rfl⟩
  have B := Boxes.mk2 w c (.slice A c.left.length cap)
  rw [hW] at B
  obtain ⟨k1, f1⟩ := box_at B.b1
  obtain ⟨k2, f2⟩ := box_at B.b2
  go_enter Try.func36, Try.ntmps36
  go_upto_region 1 with fail
  go_cut [6] (fun s8 wx => s8 = .int .i64 (firstN [toldN c now, readyN c true]) ∧ Ext W wx)
  case first =>
    go_region_with (first | (go_at_call 38; refine (told_any c A cap now _ ?_).mono ?_; (first | exact h.ext (B.ext.tr (Ext.rfl _).drew) | exact h.ext (B.ext.tr hR)); rintro e w1 ⟨rfl, hb⟩; have hT := Ext.tr (w := W) (by first | exact (Ext.rfl _).drew | exact hR) hb; (obtain ⟨k1, f1⟩ := box_at (B.go hT).b1)) | (go_at_call 41; refine (ready_any c A cap true _).mono ?_; rintro e w1 ⟨rfl, hb⟩; have hR := Ext.tr (w := W) (by first | exact (Ext.rfl _).drew | exact hT) hb; (obtain ⟨k1, f1⟩ := box_at (B.go hR).b1)) | (go_at_call 47; refine (first_any _ _ [toldN c now, readyN c true] _ (row_new _ _ _ (by simp))).mono ?_; rintro e w1 ⟨rfl, rfl⟩))
    all_goals (go_wp2_with fail; go_meet; exact ⟨rfl, by first | exact hR.alloc _ | exact hT.alloc _⟩)
  case rest =>
    obtain ⟨rfl, hb⟩ := hcut
    have B1 := B.go hb
    clear k1 k2 f1 f2 hb B hW
    have z1 := B1.lt
    have z0 : w.heap.size < wc.heap.size := by omega
    have B1' := B1
    rw [B1.re]
    obtain ⟨r, hr0⟩ : ∃ r, firstN [toldN c now, readyN c true] = r := ⟨_, rfl⟩
    have HR0 := Lib.hid hr0
    rw [hr0]
    clear hr0
    have hl := h.1
    cases hr : (r != 0)
    · have hown := own_any c A cap wc (h.ext B1.ext)
      rw [B1.re] at hown
      obtain ⟨ht0, hready⟩ := first0 (by rw [HR0.out]; exact hr)
      have hT := okTurn (told0 ht0).1
      have ht : 0 ≤ c.turn := by
        unfold readyN at hready
        split at hready
        · omega
        · split at hready
          · simp_all
          · omega
      clear hready
      go_upto_region 5 with (go_at_call 31; refine hown.mono ?_; rintro e w1 ⟨v, rfl, ho, hb⟩; obtain ⟨g, c1, hv, hg, hgl, hcell, hfr⟩ := ho.pos (by omega); subst hv; rw [← B1.re] at ho hb hg; have B2 := (B1.go hb); have y1 := B2.lt; have y0 : w.heap.size < w1.heap.size := (by omega); rw [B2.re])
      refine absw (fun W' => Boxes w W' c (.slice (some ⟨g, 0, none⟩) c.left.length c1) ∧ OwnI W' wc.heap.size (.slice (some ⟨g, 0, none⟩) c.left.length c1) c.left) ⟨⟨(B2.ext.box (by omega) _ _).box (by omega) _ _, ?_, ?_⟩, (ho.box z0 _ _).box z1 _ _⟩ ?_
      · rw [World.box_heap_other (by omega), World.box_heap_same y0]
      · rw [World.box_heap_same (by rw [World.box_size]; exact y1)]
      clear hcell hfr B2 y0 y1 ho hb hown hgl
      rintro W5 ⟨B5, o5⟩
      obtain ⟨k1, f1⟩ := box_at B5.b1
      have hg1 : c.turn < (c.left.length : Int) := by omega
      go_cut [7, 8] (fun s7 s8 wx => s7 = .pointer (some ⟨g, c.turn.toNat, none⟩) ∧ s8 = .int .i64 (usedN c now) ∧ Ext W5 wx)
      case first =>
        go_region_with (go_at_call 40; refine (used_any c (some ⟨g, 0, none⟩) c1 now _).mono ?_; rintro e w1 ⟨rfl, hb⟩; (have hU := Ext.ud hb); (obtain ⟨k1, f1⟩ := box_at (B5.go hU).b1))
        all_goals (go_wp2_with fail; go_meet; exact ⟨rfl, rfl, hU⟩)
      case rest =>
        obtain ⟨rfl, rfl, hb5⟩ := hcut
        have B6 := B5.go hb5
        have o6 := o5.ext hb5
        have hj : c.turn.toNat < c.left.length := by omega
        have hc := o6.cellAt c.turn.toNat (by omega)
        have hf := o6.frozenAt c.turn.toNat
        obtain ⟨x, hx0⟩ : ∃ x, c.left[c.turn.toNat]?.getD 0 = x := ⟨_, rfl⟩
        have hc1 : (c.left.map (Value.int .i64))[c.turn.toNat]? = some (.int .i64 x) := by rw [← hx0]; simp [List.getElem?_eq_getElem hj]
        rw [hc1] at hc
        have HX := Lib.hid hx0
        clear hx0 hc1 k1 f1 hb5 B5 o5
        have y1 := B6.lt
        have y0 : w.heap.size < _ := Nat.lt_of_succ_lt y1
        have n0 : g ≠ w.heap.size := by omega
        have n1 : g ≠ w.heap.size + 1 := by omega
        rw [B6.re]
        obtain ⟨u, hu0⟩ : ∃ u, usedN c now = u := ⟨_, rfl⟩
        have HU := Lib.hid hu0
        rw [hu0]
        clear hu0
        by_cases hxu : x < u
        · go_wp2
          go_region
          all_goals go_wp2
          all_goals
            have key : stopR c now = ({ c with left := c.left.set c.turn.toNat 0, fallen := c.turn, turn := -1, since := 0, last := now }, 0) := by simp only [stopR, HR0.out, hr, HU.out, HX.out]; rw [if_neg (by simp), if_pos hxu]
            refine bodyPost_ret (v := .tuple #[.agg (Clk.cells { c with left := c.left.set c.turn.toNat 0, fallen := c.turn, turn := -1, since := 0, last := now } (.slice (some ⟨g, 0, none⟩) c.left.length c1)), .int .i64 0]) ?_ rfl ?_
            · simp [results, Try.results36, go_sem, y0, y1]
            · exact RetClk.of key ⟨_, rfl, (OwnI.ext (((o6.store _ _).box z0 _ _).box z1 _ _) (Ext.rfl _).drew).lower (by omega), ((Ext.box (Ext.set (p := ⟨g, c.turn.toNat, none⟩) B6.ext (by show _ ≤ g; omega) _) (by omega) _ _).box (by omega) _ _).drew⟩
        · go_wp2
          go_region
          all_goals go_wp2
          all_goals
            have key : stopR c now = ({ c with left := c.left.set c.turn.toNat (mn (wrap64 (wrap64 (x - u) + c.add)) 1000000000), turn := -1, since := 0, last := now }, 0) := by simp only [stopR, HR0.out, hr, HU.out, HX.out]; rw [if_neg (by simp), if_neg (by omega)]
            refine bodyPost_ret (v := .tuple #[.agg (Clk.cells { c with left := c.left.set c.turn.toNat (mn (wrap64 (wrap64 (x - u) + c.add)) 1000000000), turn := -1, since := 0, last := now } (.slice (some ⟨g, 0, none⟩) c.left.length c1)), .int .i64 0]) ?_ rfl ?_
            · simp [results, Try.results36, go_sem, y0, y1]
            · exact RetClk.of key ⟨_, rfl, (OwnI.ext (((o6.store _ _).box z0 _ _).box z1 _ _) (Ext.rfl _).drew).lower (by omega), ((Ext.box (Ext.set (p := ⟨g, c.turn.toNat, none⟩) B6.ext (by show _ ≤ g; omega) _) (by omega) _ _).box (by omega) _ _).drew⟩
    · go_wp2
      have key : stopR c now = (Clk.zero, r) := by simp [stopR, HR0.out, hr]
      refine bodyPost_ret (v := .tuple #[.agg (Clk.zero.cells (.slice none 0 0)), .int .i64 r]) ?_ rfl ?_
      · simp [results, Try.results36, go_sem, z0, z1]
      · refine RetClk.of key ⟨_, rfl, OwnI.nil _ _, ?_⟩
        exact (B1.ext.box (by omega) _ _).box (by omega) _ _
end Go.Proofs.Ytbejaccdpikfhaa
