/- The reference's Stop. -/
import Derived.Test.YtbejaccdpikfhaaClockO
namespace Go.Proofs.Ytbejaccdpikfhaa
open Go.RowKit

theorem stop_told {c : Clk} {now t : Int} (ht : toldN c now = t) (h : (t != 0) = true) : stopR c now = (Clk.zero, t) := by
  have : firstN [toldN c now, readyN c true] = t := by rw [ht]; simp [firstN, List.find?, h]
  unfold stopR; rw [this, if_pos h]
theorem stop_ready {c : Clk} {now r : Int} (ht : (toldN c now != 0) = false) (hr : readyN c true = r) (h : (r != 0) = true) : stopR c now = (Clk.zero, r) := by
  have : firstN [toldN c now, readyN c true] = r := by rw [hr]; simp [firstN, List.find?, h, ht]
  unfold stopR; rw [this, if_pos h]
theorem stop_ok {c : Clk} {now : Int} (ht : (toldN c now != 0) = false) (h1 : ¬ 0 ≤ c.fallen) (h2 : 0 ≤ c.turn) : stopR c now =
    if c.left[c.turn.toNat]?.getD 0 < usedN c now then ({ c with left := c.left.set c.turn.toNat 0, fallen := c.turn, turn := -1, since := 0, last := now }, 0)
    else ({ c with left := c.left.set c.turn.toNat (mn (wrap64 (wrap64 (c.left[c.turn.toNat]?.getD 0 - usedN c now) + c.add)) 1000000000), turn := -1, since := 0, last := now }, 0) := by
  have hr : readyN c true = 0 := by unfold readyN; rw [if_neg h1, if_pos (by simp; omega)]
  have : firstN [toldN c now, readyN c true] = 0 := by rw [hr]; simp [firstN, List.find?, ht]
  unfold stopR; rw [this, if_neg (by simp)]

/-- The two boxes of the reference's functions. -/
structure RBox (w W : World) (c : Clk) (v : Value) : Prop where
  ext : Ext w W
  b1 : W.heap[w.heap.size]? = some (.cells (c.cells v) 24 (0, 0))
  b2 : W.heap[w.heap.size + 1]? = some (.cells (Clk.zero.cells (.slice none 0 0)) 24 (0, 0))
theorem RBox.go {w W W1 : World} {c : Clk} {v : Value} (h : RBox w W c v) (hb : Ext W W1) : RBox w W1 c v := ⟨h.ext.tr hb, hb.bx h.b1, hb.bx h.b2⟩
theorem RBox.lt {w W : World} {c : Clk} {v : Value} (h : RBox w W c v) : w.heap.size + 1 < W.heap.size := (Array.getElem?_eq_some_iff.1 h.b2).1
theorem RBox.re {w W : World} {c : Clk} {v : Value} (h : RBox w W c v) : W = (W.box w.heap.size (c.cells v) 24).box (w.heap.size + 1) (Clk.zero.cells (.slice none 0 0)) 24 := by
  rw [World.box_self h.b1, World.box_self h.b2]

set_option maxHeartbeats 4000000 in
theorem refStop_any (c : Clk) (A : Option Addr) (cap : Nat) (now : Int) (w : World) (h : Row w A c.left) :
    Calls Try.prog 18 #[c.val A cap, .int .i64 now] w (RetClk w (stopR c now)) := by
  have E2 := ((Ext.rfl w).alloc (.cells (c.cells (.slice A c.left.length cap)) 24)).alloc (.cells (Clk.zero.cells (.slice none 0 0)) 24)
  have htold := refTold_any c A cap now _ (h.ext E2)
  have hl := h.1
  have HROW := Lib.hid h
  obtain ⟨t, ht0⟩ : ∃ t, toldN c now = t := ⟨_, rfl⟩
  rw [ht0] at htold
  have HT := Lib.hid ht0
  clear ht0 h
  cases ht : (t != 0)
  · have hT0 : (toldN c now != 0) = false := by rw [HT.out]; exact ht
    have HT0 := Lib.hid hT0
    clear hT0
    by_cases h1 : 0 ≤ c.fallen
    · have key := stop_ready HT0.out (show readyN c true = 17 by unfold readyN; rw [if_pos h1]) rfl
      have KEY := Lib.hid key
      clear key
      go_enter Try.func18, Try.ntmps18
      go_wp2_with (go_at_call 35; refine htold.mono ?_; rintro e w1 ⟨rfl, hb⟩; have y0 := (re2 hb).2.1; have y1 := (re2 hb).2.2; rw [(re2 hb).1])
      refine bodyPost_ret (v := .tuple #[.agg (Clk.zero.cells (.slice none 0 0)), .int .i64 17]) ?_ rfl ?_
      · simp [results, Try.results18, go_sem, y0, y1]
      · exact RetClk.of KEY.out ⟨_, rfl, OwnI.nil _ _, ((E2.tr hb).box (by omega) _ _).box (by omega) _ _⟩
    · by_cases h2 : 0 ≤ c.turn
      · have key := stop_ok HT0.out h1 h2
        have hT := okTurn (told0 (by simpa using HT0.out)).1
        have KEY := Lib.hid key
        clear key
        have hj : c.turn.toNat < c.left.length := by omega
        have hg1 : c.turn < (c.left.length : Int) := by omega
        clear hT
        go_enter Try.func18, Try.ntmps18
        go_upto_region 9 with (first
          | (go_at_call 35; refine htold.mono ?_; rintro e w1 ⟨rfl, hb⟩; have y0 := (re2 hb).2.1; have y1 := (re2 hb).2.2; have RE := Lib.hid (re2 hb).1; have e1 := E2.tr hb; rw [RE.out])
          | (go_at_call 33; rw [← RE.out]; refine (refOwn_any c A cap w1 (HROW.out.ext e1)).mono ?_; rintro e w2 ⟨v, rfl, ho, hb2⟩; obtain ⟨g, c1, hv, hg, hgl, hcell, hfr⟩ := ho.pos (by omega); subst hv; have e2 := e1.tr hb2; rw [RE.out] at hb2; have RB := reb2 hb2 y0 y1 (by omega); have x0 := RB.2.1; have x1 := RB.2.2; rw [RB.1]; clear RB))
        refine absw (fun W' => RBox w W' c (.slice (some ⟨g, 0, none⟩) c.left.length c1) ∧ OwnI W' w1.heap.size (.slice (some ⟨g, 0, none⟩) c.left.length c1) c.left) ⟨⟨(e2.box (by omega) _ _).box (by omega) _ _, ?_, ?_⟩, (ho.box y0 _ _).box y1 _ _⟩ ?_
        · rw [World.box_heap_other (by omega), World.box_heap_same x0]
        · rw [World.box_heap_same (by rw [World.box_size]; exact x1)]
        clear hcell hfr x0 x1 ho hb2 hgl htold
        rintro W5 ⟨B5, o5⟩
        obtain ⟨k1, f1⟩ := box_at B5.b1
        go_cut [7, 8] (fun s7 s8 wx => s7 = .int .i64 c.turn ∧ s8 = .int .i64 (usedN c now) ∧ Ext W5 wx)
        case first =>
          go_region_with (go_at_call 37; refine (refUsed_any c (some ⟨g, 0, none⟩) c1 now _).mono ?_; rintro e w3 ⟨rfl, hb⟩; (have hU := Ext.ud hb); (obtain ⟨k1, f1⟩ := box_at (B5.go hU).b1))
          all_goals (go_wp2_with fail; go_meet; exact ⟨rfl, rfl, hU⟩)
        case rest =>
          obtain ⟨rfl, rfl, hb5⟩ := hcut
          have B6 := B5.go hb5
          have o6 := o5.ext hb5
          have hc := o6.cellAt c.turn.toNat (by omega)
          have hf := o6.frozenAt c.turn.toNat
          obtain ⟨x, hx0⟩ : ∃ x, c.left[c.turn.toNat]?.getD 0 = x := ⟨_, rfl⟩
          have hc1 : (c.left.map (Value.int .i64))[c.turn.toNat]? = some (.int .i64 x) := by rw [← hx0]; simp [List.getElem?_eq_getElem hj]
          rw [hc1] at hc
          have HX := Lib.hid hx0
          clear hx0 hc1 k1 f1 hb5 B5 o5
          have z1 := B6.lt
          have z0 : w.heap.size < _ := Nat.lt_of_succ_lt z1
          have n0 : g ≠ w.heap.size := by omega
          have n1 : g ≠ w.heap.size + 1 := by omega
          rw [B6.re]
          obtain ⟨u, hu0⟩ : ∃ u, usedN c now = u := ⟨_, rfl⟩
          have HU := Lib.hid hu0
          rw [hu0]
          clear hu0
          by_cases hxu : x < u
          · have key : stopR c now = ({ c with left := c.left.set c.turn.toNat 0, fallen := c.turn, turn := -1, since := 0, last := now }, 0) := by rw [KEY.out, HX.out, HU.out, if_pos hxu]
            have KEY2 := Lib.hid key
            clear key
            go_wp2
            refine bodyPost_ret (v := .tuple #[.agg (Clk.cells { c with left := c.left.set c.turn.toNat 0, fallen := c.turn, turn := -1, since := 0, last := now } (.slice (some ⟨g, 0, none⟩) c.left.length c1)), .int .i64 0]) ?_ rfl ?_
            · simp [results, Try.results18, go_sem, z0, z1]
            · exact RetClk.of KEY2.out ⟨_, rfl, (((o6.store _ _).box y0 _ _).box y1 _ _).lower (by omega), (Ext.box (Ext.set (p := ⟨g, c.turn.toNat, none⟩) B6.ext (by show _ ≤ g; omega) _) (by omega) _ _).box (by omega) _ _⟩
          · have key : stopR c now = ({ c with left := c.left.set c.turn.toNat (mn (wrap64 (wrap64 (x - u) + c.add)) 1000000000), turn := -1, since := 0, last := now }, 0) := by rw [KEY.out, HX.out, HU.out, if_neg hxu]
            have KEY2 := Lib.hid key
            clear key
            go_wp2
            go_region
            all_goals go_wp2
            all_goals
              refine bodyPost_ret (v := .tuple #[.agg (Clk.cells { c with left := c.left.set c.turn.toNat (mn (wrap64 (wrap64 (x - u) + c.add)) 1000000000), turn := -1, since := 0, last := now } (.slice (some ⟨g, 0, none⟩) c.left.length c1)), .int .i64 0]) ?_ rfl ?_
              · simp [results, Try.results18, go_sem, z0, z1]
              · exact RetClk.of KEY2.out ⟨_, rfl, (OwnI.ext (((o6.store _ _).box y0 _ _).box y1 _ _) (Ext.rfl _).drew).lower (by omega), ((Ext.box (Ext.set (p := ⟨g, c.turn.toNat, none⟩) B6.ext (by show _ ≤ g; omega) _) (by omega) _ _).box (by omega) _ _).drew⟩
      · have key := stop_ready HT0.out (show readyN c true = 13 by unfold readyN; rw [if_neg h1, if_neg (by simp; omega)]) rfl
        have KEY := Lib.hid key
        clear key
        go_enter Try.func18, Try.ntmps18
        go_wp2_with (go_at_call 35; refine htold.mono ?_; rintro e w1 ⟨rfl, hb⟩; have y0 := (re2 hb).2.1; have y1 := (re2 hb).2.2; rw [(re2 hb).1])
        refine bodyPost_ret (v := .tuple #[.agg (Clk.zero.cells (.slice none 0 0)), .int .i64 13]) ?_ rfl ?_
        · simp [results, Try.results18, go_sem, y0, y1]
        · exact RetClk.of KEY.out ⟨_, rfl, OwnI.nil _ _, ((E2.tr hb).box (by omega) _ _).box (by omega) _ _⟩
  · have key := stop_told HT.out ht
    have KEY := Lib.hid key
    clear key
    go_enter Try.func18, Try.ntmps18
    go_wp2_with (go_at_call 35; refine htold.mono ?_; rintro e w1 ⟨rfl, hb⟩; have y0 := (re2 hb).2.1; have y1 := (re2 hb).2.2; rw [(re2 hb).1])
    refine bodyPost_ret (v := .tuple #[.agg (Clk.zero.cells (.slice none 0 0)), .int .i64 t]) ?_ rfl ?_
    · simp [results, Try.results18, go_sem, y0, y1]
    · exact RetClk.of KEY.out ⟨_, rfl, OwnI.nil _ _, ((E2.tr hb).box (by omega) _ _).box (by omega) _ _⟩
end Go.Proofs.Ytbejaccdpikfhaa
