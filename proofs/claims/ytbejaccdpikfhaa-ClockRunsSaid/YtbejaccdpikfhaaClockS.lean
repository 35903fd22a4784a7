/- The reference's Run. -/
import Derived.Test.YtbejaccdpikfhaaClockP
import Derived.Test.YtbejaccdpikfhaaClockK
namespace Go.Proofs.Ytbejaccdpikfhaa
open Go.RowKit

/-- What the reference's Run keeps in memory. -/
structure RInv (w W : World) (c : Clk) (v : Value) : Prop where
  ext : Ext w W
  b0 : W.heap[w.heap.size]? = some (.cells (c.cells v) 24 (0, 0))
  b1 : W.heap[w.heap.size + 1]? = some (.cells (Clk.zero.cells (.slice none 0 0)) 24 (0, 0))
  b2 : W.heap[w.heap.size + 1 + 1]? = some (.cells #[.int .i64 0, .int .i64 0] 41 (0, 0))
theorem RInv.lt {w W : World} {c : Clk} {v : Value} (h : RInv w W c v) : w.heap.size + 1 + 1 < W.heap.size := (Array.getElem?_eq_some_iff.1 h.b2).1
theorem RInv.go {w W W1 : World} {c : Clk} {v : Value} (h : RInv w W c v) (hb : Ext W W1) : RInv w W1 c v := ⟨h.ext.tr hb, hb.bx h.b0, hb.bx h.b1, hb.bx h.b2⟩
theorem RInv.re {w W : World} {c : Clk} {v : Value} (h : RInv w W c v) : W = ((W.box w.heap.size (c.cells v) 24).box (w.heap.size + 1) (Clk.zero.cells (.slice none 0 0)) 24).box (w.heap.size + 1 + 1) #[.int .i64 0, .int .i64 0] 41 := by
  rw [World.box_self h.b0, World.box_self h.b1, World.box_self h.b2]
theorem RInv.box {w W : World} {c : Clk} {v : Value} (h : RInv w W c v) {g : Nat} (hg : w.heap.size + 1 + 1 < g) (cs : Array Value) (t : TypeId) : RInv w (W.box g cs t) c v :=
  ⟨h.ext.box (by omega) _ _, (World.box_heap_other (by omega) _ _).trans h.b0, (World.box_heap_other (by omega) _ _).trans h.b1, (World.box_heap_other (by omega) _ _).trans h.b2⟩
theorem RInv.set0 {w W : World} {c c' : Clk} {v v' : Value} (h : RInv w W c v) : RInv w (W.box w.heap.size (c'.cells v') 24) c' v' := by
  have := h.lt
  exact ⟨h.ext.box (Nat.le_refl _) _ _, World.box_heap_same (by omega) _ _, (World.box_heap_other (by omega) _ _).trans h.b1, (World.box_heap_other (by omega) _ _).trans h.b2⟩
def RRel (w : World) (c : Clk) (l : List Tk) (i : Value) (wr : World) : Prop :=
  ∃ (k : Nat) (ck : Clk) (A1 : Option Addr) (c1 : Nat), i = .int .i64 k ∧ k ≤ l.length ∧ RInv w wr ck (.slice A1 ck.left.length c1) ∧ ck.left.length ≤ c1 ∧ Row wr A1 ck.left ∧ (∀ g off, A1 = some ⟨g, off, none⟩ → w.heap.size + 1 + 1 < g) ∧ foldR c l 0 = foldR ck (l.drop k) k
/-- Beside it the clock of the turn, in a box of its own. -/
def RNext (w : World) (ck : Clk) (v : Value) (r : Clk × Int) (p e : Value) (wx : World) : Prop :=
  ∃ (A2 : Option Addr) (c2 g : Nat), p = .pointer (some ⟨g, 0, none⟩) ∧ e = .int .i64 r.2 ∧ RInv w wx ck v ∧ wx.heap[g]? = some (.cells (r.1.cells (.slice A2 r.1.left.length c2)) 24 (0, 0)) ∧ w.heap.size + 1 + 1 < g ∧ r.1.left.length ≤ c2 ∧ Row wx A2 r.1.left ∧ (∀ k off, A2 = some ⟨k, off, none⟩ → w.heap.size + 1 + 1 < k ∧ k ≠ g)

set_option maxHeartbeats 4000000 in
theorem refRun_any (c : Clk) (A : Option Addr) (cap : Nat) (B : Option Addr) (capB : Nat) (l : List Tk) (w : World) (h : Row w A c.left) (hB : TRow w B l) :
    Calls Try.prog 25 #[c.val A cap, .slice B l.length capB] w (FoldP (fun _ => True) w (runR c l)) := by
  have E3 := (((Ext.rfl w).alloc (.cells (c.cells (.slice A c.left.length cap)) 24)).alloc (.cells (Clk.zero.cells (.slice none 0 0)) 24)).alloc (.cells #[.int .i64 0, .int .i64 0] 41)
  have hch := refCheck_any c A cap _ (h.ext E3)
  have hl := h.1
  have hlB := hB.1
  unfold checkN at hch
  obtain ⟨m1, m2, m3, m4, m5, m6⟩ := ne3 w.heap.size
  have HROW := Lib.hid h
  have HTROW := Lib.hid hB
  clear h hB
  cases e1 : c.ok
  · rw [e1] at hch
    have key : runR c l = (Clk.zero, 13, 0) := by simp [runR, e1]
    go_enter Try.func25, Try.ntmps25
    go_wp2_with (go_at_call 14; refine hch.mono ?_; rintro e w1 ⟨rfl, hb⟩; have y0 := (re3 hb).2.1; have y1 := (re3 hb).2.2.1; have y2 := (re3 hb).2.2.2; rw [(re3 hb).1])
    refine bodyPost_ret (v := .tuple #[.agg (Clk.zero.cells (.slice none 0 0)), .agg #[.int .i64 13, .int .i64 0]]) ?_ rfl ?_
    · simp [results, Try.results25, go_sem, y0, y1, y2]
    · exact FoldP.of key ⟨none, 0, rfl, by simp, Row.nil _ _, (((E3.tr hb).box (by omega) _ _).box (by omega) _ _).box (by omega) _ _, fun _ _ _ => .inl trivial⟩
  · rw [e1] at hch
    have E1 := Lib.hid e1
    clear e1
    by_cases hn : (10000 : Int) < (l.length : Int)
    · have key : runR c l = (Clk.zero, 4, 10000) := by simp only [runR, E1.out]; rw [if_neg (by simp), if_pos hn]
      have KEY := Lib.hid key
      clear key
      go_enter Try.func25, Try.ntmps25
      go_wp2_with (go_at_call 14; refine hch.mono ?_; rintro e w1 ⟨rfl, hb⟩; have y0 := (re3 hb).2.1; have y1 := (re3 hb).2.2.1; have y2 := (re3 hb).2.2.2; rw [(re3 hb).1])
      refine bodyPost_ret (v := .tuple #[.agg (Clk.zero.cells (.slice none 0 0)), .agg #[.int .i64 4, .int .i64 10000]]) ?_ rfl ?_
      · simp [results, Try.results25, go_sem, y0, y1, y2]
      · exact FoldP.of KEY.out ⟨none, 0, rfl, by simp, Row.nil _ _, (((E3.tr hb).box (by omega) _ _).box (by omega) _ _).box (by omega) _ _, fun _ _ _ => .inl trivial⟩
    · have key : runR c l = foldR c l 0 := by simp only [runR, E1.out]; rw [if_neg (by simp), if_neg hn]
      have KEY := Lib.hid key
      clear key
      have hlen : l.length ≤ 10000 := by omega
      go_enter Try.func25, Try.ntmps25
      go_wp2_with (first
        | (go_at_call 14; refine hch.mono ?_; rintro e w1 ⟨rfl, hb⟩; have y0 := (re3 hb).2.1; have y1 := (re3 hb).2.2.1; have y2 := (re3 hb).2.2.2; have e1 := E3.tr hb; have RE := Lib.hid (re3 hb).1; rw [(re3 hb).1])
        | (go_at_call 33; rw [← RE.out]; refine (refOwn_any c A cap w1 (HROW.out.ext e1)).mono ?_; rintro e w2 ⟨v, rfl, ho, hb2⟩; obtain ⟨A1, c1, hv, hc1, hr1⟩ := ho.row hl; subst hv; have e2 := e1.tr hb2; rw [RE.out] at hb2; have RB := reb3 hb2 y0 y1 y2 m1 m3 m5; have x0 := RB.2.1; have x1 := RB.2.2.1; have x2 := RB.2.2.2; have RE2 := Lib.hid RB.1; clear RB; rw [RE2.out]))
      have hI : RInv w (((w2.box w.heap.size (c.cells (.slice A1 c.left.length c1)) 24).box (w.heap.size + 1) (Clk.zero.cells (.slice none 0 0)) 24).box (w.heap.size + 1 + 1) #[.int .i64 0, .int .i64 0] 41) c (.slice A1 c.left.length c1) :=
        ⟨((e2.box (by omega) _ _).box (by omega) _ _).box (by omega) _ _, by rw [World.box_heap_other (by omega), World.box_heap_other (by omega), World.box_heap_same x0], by rw [World.box_heap_other (by omega), World.box_heap_same (by simp only [World.box_size]; exact x1)], by rw [World.box_heap_same (by simp only [World.box_size]; exact x2)]⟩
      have hfr : ∀ g off, A1 = some ⟨g, off, none⟩ → w.heap.size + 1 + 1 < g := fun g off e => Nat.lt_of_lt_of_le y2 (ho.lt g (by simp [Value.ownBlock, e])).1
      have HI := Lib.hid hI
      have HFR := Lib.hid hfr
      clear hI hfr
      go_loopw [7] (fun i wr => RRel w c l i wr) (fun i _ => l.length - (intOf i).toNat)
      case atStart =>
        exact ⟨0, c, A1, c1, rfl, Nat.zero_le _, HI.out, hc1, ((hr1.box (fun g off e => by have := HFR.out g off e; omega) _ _).box (fun g off e => by have := HFR.out g off e; omega) _ _).box (fun g off e => by have := HFR.out g off e; omega) _ _, HFR.out, rfl⟩
      case round =>
        clear x0 x1 x2 y0 y1 y2
        obtain ⟨k, ck, A1, c1, rfl, hk, I, hc1, hrow, hfar, hpure⟩ := hrel
        have HP := Lib.hid hpure
        have HF := Lib.hid hfar
        clear hpure hfar
        have l2 := I.lt
        have l1 : w.heap.size + 1 < wr.heap.size := by omega
        have l0 : w.heap.size < wr.heap.size := by omega
        by_cases hkl : k < l.length
        · have hltz : (k : Int) < (l.length : Int) := by omega
          obtain ⟨b, off, rfl, hbl, hcells⟩ := HTROW.out.2 (by omega)
          obtain ⟨t, ht⟩ : ∃ t, l[k]? = some t := ⟨l[k], List.getElem?_eq_getElem hkl⟩
          obtain ⟨q0, q1, q2⟩ := hcells k t ht
          have Q2 := Lib.hid q2
          replace q0 := (I.ext.cell (p := ⟨b, _, none⟩) hbl).trans q0
          replace q1 := (I.ext.cell (p := ⟨b, _, none⟩) hbl).trans q1
          have hblr : b < wr.heap.size := by omega
          have HT := Lib.hid ht
          clear ht hcells q2
          have hs : (startR ck t.player t.from_).1.left.length * 8 ≤ 140737488351232 := by have := start_len ck t.player t.from_; have := hrow.1; omega
          have hs2 : (stopR (startR ck t.player t.from_).1 t.till).1.left.length * 8 ≤ 140737488351232 := by have := stop_len (startR ck t.player t.from_).1 t.till; omega
          have hfold : foldR c l 0 = if ((tickR ck t).2 != 0) = true then (Clk.zero, (tickR ck t).2, (k : Int)) else foldR (tickR ck t).1 (l.drop (k + 1)) (k + 1) := by
            obtain ⟨h1, h2⟩ := List.getElem?_eq_some_iff.1 HT.out
            rw [HP.out, List.drop_eq_getElem_cons h1, h2, foldR]
          have htick : tickR ck t = if ((startR ck t.player t.from_).2 != 0) = true then (Clk.zero, (startR ck t.player t.from_).2) else stopR (startR ck t.player t.from_).1 t.till := rfl
          obtain ⟨r, hr0⟩ : ∃ r, startR ck t.player t.from_ = r := ⟨_, rfl⟩
          have hst := fun w1 (h1 : Row w1 A1 ck.left) => refStart_any ck A1 c1 t.player t.from_ w1 h1
          rw [hr0] at hst hs hs2 htick
          obtain ⟨q, hq0⟩ : ∃ q, stopR r.1 t.till = q := ⟨_, rfl⟩
          have hsp := fun A1 c1 w1 (h1 : Row w1 A1 r.1.left) => refStop_any r.1 A1 c1 t.till w1 h1
          rw [hq0] at hsp hs2 htick
          rw [htick] at hfold
          have HFOLD := Lib.hid hfold
          clear hr0 hq0 hfold htick
          obtain ⟨k0, f0⟩ := box_at I.b0
          go_upto_region 10 with fail
          go_cut [8, 9] (fun s8 s9 wx => RNext w ck (.slice A1 ck.left.length c1) r s8 s9 wx)
          case first =>
            have mkS : ∀ w', Ext wr w' → ((∀ i, w'.cell? ⟨w.heap.size, i, none⟩ = (ck.cells (.slice A1 ck.left.length c1))[i]?) ∧ w'.cell? ⟨b, off + k * 3, none⟩ = some (.int .i64 t.player) ∧ w'.cell? ⟨b, off + k * 3 + 1, none⟩ = some (.int .i64 t.from_)) := fun w' h => ⟨(box_at (h.bx I.b0)).1, (h.cell (p := ⟨b, _, none⟩) hblr).trans q0, (h.cell (p := ⟨b, _, none⟩) hblr).trans q1⟩
            have MK := Lib.hid mkS
            clear mkS
            go_region_held3 (fun w' => (∀ i, w'.cell? ⟨w.heap.size, i, none⟩ = (ck.cells (.slice A1 ck.left.length c1))[i]?) ∧ w'.cell? ⟨b, off + k * 3, none⟩ = some (.int .i64 t.player) ∧ w'.cell? ⟨b, off + k * 3 + 1, none⟩ = some (.int .i64 t.from_)) (first | exact MK.out _ (Ext.rfl _).drew | exact MK.out _ ((Ext.rfl _).alloc _).drew | exact MK.out _ hb5.ud | exact MK.out _ (((Ext.rfl _).alloc _).tr hb5.ud) | exact MK.out _ (hb5.ud.alloc _) | exact MK.out _ ((((Ext.rfl _).alloc _).tr hb5.ud).alloc _) | exact MK.out _ (Ext.box (((Ext.rfl _).alloc _).tr hb5.ud) (Nat.le_refl _) _ _)) ((go_at_call 16; refine (hst _ ?_).mono ?_; (first | exact hrow.ext (Ext.rfl _).drew | exact hrow.ext ((Ext.rfl _).alloc _).drew); rintro e w5 ⟨v, rfl, ho5, hb5⟩; (obtain ⟨A2, c2, hv, hc2, hr2⟩ := ho5.row hs); subst hv; (first | (have y5 := (re1 hb5.ud).2; rw [(re1 hb5.ud).1]) | skip)))
            all_goals (go_wp2_with fail; go_meet)
            all_goals (first
              | exact ⟨A2, c2, w5.heap.size, rfl, rfl, (I.go hb5.ud).go ((Ext.rfl _).alloc _), new_at w5 _, by have := hb5.size; simp at this; omega, hc2, hr2.ext ((Ext.rfl _).alloc _), fun k' off e => by have := ho5.lt k' (by simp [Value.ownBlock, e]); simp at this; omega⟩
              | exact ⟨A2, c2, wr.heap.size, rfl, rfl, RInv.box (I.go (((Ext.rfl wr).alloc _).tr hb5.ud)) l2 _ _, World.box_heap_same y5 _ _, l2, hc2, hr2.box (fun k' off e => by have := ho5.lt k' (by simp [Value.ownBlock, e]); simp at this; omega) _ _, fun k' off e => by have := ho5.lt k' (by simp [Value.ownBlock, e]); simp at this; omega⟩)
          case rest =>
            clear k0 f0
            obtain ⟨A2, c2, g, rfl, rfl, J, bg, hg, hc2, hr2, hf2⟩ := hcut
            have HF2 := Lib.hid hf2
            clear hf2
            have j2 := J.lt
            have j1 : w.heap.size + 1 < wc.heap.size := by omega
            have j0 : w.heap.size < wc.heap.size := by omega
            have jg : g < wc.heap.size := (Array.getElem?_eq_some_iff.1 bg).1
            cases hr : (r.2 != 0)
            · have q2 := (J.ext.cell (p := ⟨b, _, none⟩) hbl).trans Q2.out
              have hblc : b < wc.heap.size := by omega
              obtain ⟨kg, fg⟩ := box_at bg
              go_upto_region 13 with fail
              have mkS : ∀ w', Ext wc w' → ((∀ i, w'.cell? ⟨g, i, none⟩ = (r.1.cells (.slice A2 r.1.left.length c2))[i]?) ∧ w'.cell? ⟨b, off + k * 3 + 2, none⟩ = some (.int .i64 t.till)) := fun w' h => ⟨(box_at (h.bx bg)).1, (h.cell (p := ⟨b, _, none⟩) hblc).trans q2⟩
              have MK := Lib.hid mkS
              clear mkS
              go_cut [9] (fun s9 wx => RNext w ck (.slice A1 ck.left.length c1) q (.pointer (some ⟨g, 0, none⟩)) s9 wx)
              case first =>
                go_region_with ((go_at_call 18; refine (hsp A2 c2 _ (hr2.ext (Ext.rfl _).drew)).mono ?_; rintro e w6 ⟨v, rfl, ho6, hb6⟩; (obtain ⟨A3, c3, hv, hc3, hr3⟩ := ho6.row hs2); subst hv; (have y6 : g < w6.heap.size := Nat.lt_of_lt_of_le jg hb6.ud.size); rw [← World.box_self (hb6.ud.bx bg)]))
                all_goals (go_wp2_with fail; go_meet)
                all_goals exact ⟨A3, c3, g, rfl, rfl, RInv.box (J.go hb6.ud) hg _ _, World.box_heap_same y6 _ _, hg, hc3, hr3.box (fun k' off e => by have := ho6.lt k' (by simp [Value.ownBlock, e]); simp at this; omega) _ _, fun k' off e => by have := ho6.lt k' (by simp [Value.ownBlock, e]); simp at this; omega⟩
              case rest =>
                obtain ⟨A3, c3, g', e3, rfl, J3, bg3, hg3, hc3, hr3, hf3⟩ := hcut
                cases e3
                have HF3 := Lib.hid hf3
                clear hf3 kg fg
                have i2 := J3.lt
                have i1 : w.heap.size + 1 < wc.heap.size := by omega
                have i0 : w.heap.size < wc.heap.size := by omega
                cases hq : (q.2 != 0)
                · have key : foldR c l 0 = foldR q.1 (l.drop (k + 1)) (k + 1) := by rw [HFOLD.out]; simp [hr, hq]
                  have KEY2 := Lib.hid key
                  clear key
                  obtain ⟨kg, fg⟩ := box_at bg3
                  have gn : g ≠ w.heap.size := by omega
                  rw [← World.box_self J3.b0]
                  go_wp2
                  go_roundw
                  case rel => exact ⟨k + 1, q.1, A3, c3, by go_num, by omega, J3.set0, hc3, hr3.box (fun k' off e => by have := (HF3.out k' off e).1; omega) _ _, fun k' off e => (HF3.out k' off e).1, KEY2.out⟩
                  case measure => simp [intOf]; omega
                · have j9 : True := trivial
                  have key : runR c l = (Clk.zero, q.2, (k : Int)) := by rw [KEY.out, HFOLD.out]; simp [hr, hq]
                  have KEY2 := Lib.hid key
                  clear key
                  rw [J3.re]
                  go_wp2
                  refine bodyPost_ret (v := .tuple #[.agg (Clk.zero.cells (.slice none 0 0)), .agg #[.int .i64 q.2, .int .i64 k]]) ?_ rfl ?_
                  · simp [results, Try.results25, go_sem, i0, i1, i2]
                  · exact FoldP.of KEY2.out ⟨none, 0, rfl, by simp, Row.nil _ _, ((J3.ext.box (by omega) _ _).box (by omega) _ _).box (by omega) _ _, fun _ _ _ => .inl trivial⟩
            · have j9 : True := trivial
              have key : runR c l = (Clk.zero, r.2, (k : Int)) := by rw [KEY.out, HFOLD.out]; simp [hr]
              have KEY2 := Lib.hid key
              clear key
              rw [J.re]
              go_wp2
              refine bodyPost_ret (v := .tuple #[.agg (Clk.zero.cells (.slice none 0 0)), .agg #[.int .i64 r.2, .int .i64 k]]) ?_ rfl ?_
              · simp [results, Try.results25, go_sem, j0, j1, j2]
              · exact FoldP.of KEY2.out ⟨none, 0, rfl, by simp, Row.nil _ _, ((J.ext.box (by omega) _ _).box (by omega) _ _).box (by omega) _ _, fun _ _ _ => .inl trivial⟩
        · obtain rfl : k = l.length := by omega
          have key : runR c l = (ck, 0, 0) := by rw [KEY.out, HP.out, List.drop_length, foldR]
          have KEY2 := Lib.hid key
          have hd : decide ((l.length : Int) < (l.length : Int)) = false := by simp
          clear key
          rw [I.re]
          go_wp2
          refine bodyPost_ret (v := .tuple #[.agg (ck.cells (.slice A1 ck.left.length c1)), .agg #[.int .i64 0, .int .i64 0]]) ?_ rfl ?_
          · simp [results, Try.results25, go_sem, l0, l1, l2]
          · refine FoldP.of KEY2.out ⟨A1, c1, rfl, hc1, ?_, ((I.ext.box (by omega) _ _).box (by omega) _ _).box (by omega) _ _, fun _ _ _ => .inl trivial⟩
            exact ((hrow.box (fun g off e => by have := HF.out g off e; omega) _ _).box (fun g off e => by have := HF.out g off e; omega) _ _).box (fun g off e => by have := HF.out g off e; omega) _ _
end Go.Proofs.Ytbejaccdpikfhaa
