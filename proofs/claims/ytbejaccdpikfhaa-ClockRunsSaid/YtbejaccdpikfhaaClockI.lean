/- One turn of Run. -/
import Derived.Test.YtbejaccdpikfhaaClockE
namespace Go.Proofs.Ytbejaccdpikfhaa
open Go.RowKit

structure Tk where
  player : Int
  from_ : Int
  till : Int
abbrev Tk.cells (t : Tk) : Array Value := #[.int .i64 t.player, .int .i64 t.from_, .int .i64 t.till]
def tickR (c : Clk) (t : Tk) : Clk × Int := if ((startR c t.player t.from_).2 != 0) = true then (Clk.zero, (startR c t.player t.from_).2) else stopR (startR c t.player t.from_).1 t.till
theorem start_len (c : Clk) (p now : Int) : (startR c p now).1.left.length ≤ c.left.length := by
  unfold startR; split
  · simp
  · split <;> simp
theorem stop_len (c : Clk) (now : Int) : (stopR c now).1.left.length ≤ c.left.length := by
  unfold stopR; split
  · simp
  · simp only; split <;> simp
theorem tick_len (c : Clk) (t : Tk) : (tickR c t).1.left.length ≤ c.left.length := by
  unfold tickR; split
  · simp
  · exact Nat.le_trans (stop_len _ _) (start_len _ _ _)

set_option maxHeartbeats 2000000 in
theorem tick_any (c : Clk) (A : Option Addr) (cap : Nat) (t : Tk) (w : World) (h : Row w A c.left) :
    Calls Try.prog 43 #[c.val A cap, .agg t.cells] w (RetClk w (tickR c t)) := by
  have E3 := (((Ext.rfl w).alloc (.cells (c.cells (.slice A c.left.length cap)) 57)).alloc (.cells t.cells 48)).alloc (.cells #[.slice none 0 0, .int .i64 0, .int .i64 0, .int .i64 0, .int .i64 0, .int .i64 0, .int .i64 0] 57)
  have hst := start_any c A cap t.player t.from_ _ (h.ext E3)
  have hs : (startR c t.player t.from_).1.left.length * 8 ≤ 140737488351232 := by have := start_len c t.player t.from_; have := h.1; omega
  clear h
  obtain ⟨m1, m2, m3, m4, m5, m6⟩ := ne3 w.heap.size
  obtain ⟨r, hr0⟩ : ∃ r, startR c t.player t.from_ = r := ⟨_, rfl⟩
  rw [hr0] at hst hs
  have HR0 := Lib.hid hr0
  clear hr0
  cases hr : (r.2 != 0)
  · have hs2 : (stopR r.1 t.till).1.left.length * 8 ≤ 140737488351232 := by have := stop_len r.1 t.till; omega
    obtain ⟨q, hq0⟩ : ∃ q, stopR r.1 t.till = q := ⟨_, rfl⟩
    have hsp := fun A1 c1 w1 (h1 : Row w1 A1 r.1.left) => stop_any r.1 A1 c1 t.till w1 h1
    rw [hq0] at hsp hs2
    have HQ0 := Lib.hid hq0
    clear hq0
    go_enter Try.func43, Try.ntmps43
    go_wp2_with (first | (go_at_call 34; refine hst.mono ?_; rintro e w1 ⟨v, rfl, ho, hb⟩; obtain ⟨A1, c1, hv, _, _⟩ := ho.row hs; subst hv; have y0 := (re3 hb).2.1; have y1 := (re3 hb).2.2.1; have y2 := (re3 hb).2.2.2; simp only [World.size_alloc] at ho; rw [(re3 hb).1]) | (go_at_call 36; refine (hsp A1 c1 _ ?_).mono ?_; (obtain ⟨A2, c2, e2, _, hrow⟩ := OwnI.row (OwnI.box (OwnI.box (OwnI.box ho (b := w.heap.size) (by omega) _ _) (b := w.heap.size + 1) (by omega) _ _) (b := w.heap.size + 1 + 1) (by omega) _ _) hs; cases e2; exact hrow); rintro e w2 ⟨v, rfl, ho2, hb2⟩; have e2 := ((((E3.tr hb).box (b := w.heap.size) (by omega) _ _).box (b := w.heap.size + 1) (by omega) _ _).box (b := w.heap.size + 1 + 1) (by omega) _ _).tr hb2; obtain ⟨A2, c2, hv, _, _⟩ := ho2.row hs2; subst hv; have RB := reb3 hb2 y0 y1 y2 (by omega) (by omega) (by omega); have x0 := RB.2.1; have x1 := RB.2.2.1; have x2 := RB.2.2.2; simp only [World.box_size] at ho2; rw [RB.1]; clear RB))
    have key : tickR c t = q := by simp [tickR, HR0.out, hr, HQ0.out]
    refine bodyPost_ret (v := .tuple #[.agg (q.1.cells (.slice A2 q.1.left.length c2)), .int .i64 q.2]) ?_ rfl ?_
    · simp [results, Try.results43, go_sem, x0, x1, x2]
    · exact RetClk.of key ⟨_, rfl, (((ho2.box (by omega) _ _).box (by omega) _ _).box (by omega) _ _).lower (by omega), ((e2.box (by omega) _ _).box (by omega) _ _).box (by omega) _ _⟩
  · have key : tickR c t = (Clk.zero, r.2) := by simp [tickR, HR0.out, hr]
    go_enter Try.func43, Try.ntmps43
    go_wp2_with (go_at_call 34; refine hst.mono ?_; rintro e w1 ⟨v, rfl, ho, hb⟩; obtain ⟨A1, c1, hv, _, _⟩ := ho.row hs; subst hv; have y0 := (re3 hb).2.1; have y1 := (re3 hb).2.2.1; have y2 := (re3 hb).2.2.2; rw [(re3 hb).1])
    refine bodyPost_ret (v := .tuple #[.agg (Clk.zero.cells (.slice none 0 0)), .int .i64 r.2]) ?_ rfl ?_
    · simp [results, Try.results43, go_sem, y0, y1, y2]
    · exact RetClk.of key ⟨_, rfl, OwnI.nil _ _, (((E3.tr hb).box (by omega) _ _).box (by omega) _ _).box (by omega) _ _⟩
end Go.Proofs.Ytbejaccdpikfhaa
