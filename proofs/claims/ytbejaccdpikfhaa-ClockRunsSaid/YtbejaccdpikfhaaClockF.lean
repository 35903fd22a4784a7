/- Check, New, Start, Stop of package clock. -/
import Derived.Test.YtbejaccdpikfhaaClockE
namespace Go.Proofs.Ytbejaccdpikfhaa
open Go.RowKit

def checkN (c : Clk) : Int := if c.ok then 0 else 13
theorem Check_any (c : Clk) (A : Option Addr) (cap : Nat) (w : World) (h : Row w A c.left) :
    Calls Try.prog 13 #[c.val A cap] w fun e w' => e = .returned (.int .i64 (checkN c)) ∧ Ext w w' := by
  have h1 := (Ext.rfl w).alloc (.cells (c.cells (.slice A c.left.length cap)) 24)
  have hcl := valid_any c A cap _ (h.ext h1)
  clear h
  unfold checkN
  cases e1 : c.ok
  all_goals
    rw [e1] at hcl
    go_enter Try.func13, Try.ntmps13
    go_wp2_with (go_at_call 32; refine hcl.mono ?_; rintro e w1 ⟨rfl, hb⟩)
    go_ret
    exact ⟨rfl, h1.tr hb⟩

set_option maxHeartbeats 1000000 in
theorem Start_any (c : Clk) (A : Option Addr) (cap : Nat) (p now : Int) (w : World) (h : Row w A c.left) (hs : (startR c p now).1.left.length * 8 ≤ 140737488351232) :
    Calls Try.prog 15 #[c.val A cap, .int .i64 p, .int .i64 now] w (RetClk w (startR c p now)) := by
  have h2 := ((Ext.rfl w).alloc (.cells (c.cells (.slice A c.left.length cap)) 24)).alloc (.cells #[.slice none 0 0, .int .i64 0, .int .i64 0, .int .i64 0, .int .i64 0, .int .i64 0, .int .i64 0] 24)
  have hcl := start_any c A cap p now _ (h.ext h2)
  clear h
  obtain ⟨r, hr⟩ : ∃ r, startR c p now = r := ⟨_, rfl⟩
  rw [hr] at hcl hs ⊢
  clear hr
  go_enter Try.func15, Try.ntmps15
  go_wp2_with (go_at_call 34; refine hcl.mono ?_; rintro e w1 ⟨v, rfl, ho, hb⟩; obtain ⟨A1, c1, hv, _, _⟩ := ho.row hs; subst hv; have y0 := (re2 hb).2.1; have y1 := (re2 hb).2.2; simp only [World.size_alloc] at ho; rw [(re2 hb).1])
  refine bodyPost_ret (v := .tuple #[.agg (r.1.cells (.slice A1 r.1.left.length c1)), .int .i64 r.2]) ?_ rfl ?_
  · simp [results, Try.results15, go_sem, y0, y1]
  · refine ⟨_, rfl, ?_, ?_⟩
    · exact OwnI.lower (base := w.heap.size + 1 + 1) (by repeat (first | (with_reducible exact ho) | (refine OwnI.alloc ?_ _) | (refine OwnI.box ?_ (by omega) _ _))) (by omega)
    · repeat (first | (with_reducible exact h2.tr hb) | (refine Ext.alloc ?_ _) | (refine Ext.box ?_ (by omega) _ _))
set_option maxHeartbeats 1000000 in
theorem Stop_any (c : Clk) (A : Option Addr) (cap : Nat) (now : Int) (w : World) (h : Row w A c.left) (hs : (stopR c now).1.left.length * 8 ≤ 140737488351232) :
    Calls Try.prog 17 #[c.val A cap, .int .i64 now] w (RetClk w (stopR c now)) := by
  have h2 := ((Ext.rfl w).alloc (.cells (c.cells (.slice A c.left.length cap)) 24)).alloc (.cells #[.slice none 0 0, .int .i64 0, .int .i64 0, .int .i64 0, .int .i64 0, .int .i64 0, .int .i64 0] 24)
  have hcl := stop_any c A cap now _ (h.ext h2)
  clear h
  obtain ⟨r, hr⟩ : ∃ r, stopR c now = r := ⟨_, rfl⟩
  rw [hr] at hcl hs ⊢
  clear hr
  go_enter Try.func17, Try.ntmps17
  go_wp2_with (go_at_call 36; refine hcl.mono ?_; rintro e w1 ⟨v, rfl, ho, hb⟩; obtain ⟨A1, c1, hv, _, _⟩ := ho.row hs; subst hv; have y0 := (re2 hb).2.1; have y1 := (re2 hb).2.2; simp only [World.size_alloc] at ho; rw [(re2 hb).1])
  refine bodyPost_ret (v := .tuple #[.agg (r.1.cells (.slice A1 r.1.left.length c1)), .int .i64 r.2]) ?_ rfl ?_
  · simp [results, Try.results17, go_sem, y0, y1]
  · refine ⟨_, rfl, ?_, ?_⟩
    · exact OwnI.lower (base := w.heap.size + 1 + 1) (by repeat (first | (with_reducible exact ho) | (refine OwnI.alloc ?_ _) | (refine OwnI.box ?_ (by omega) _ _))) (by omega)
    · repeat (first | (with_reducible exact h2.tr hb) | (refine Ext.alloc ?_ _) | (refine Ext.box ?_ (by omega) _ _))

def newR (left : List Int) (add free : Int) : Clk × Int :=
  let c : Clk := ⟨left, add, free, -1, 0, 0, -1⟩
  if c.ok then (c, 0) else (Clk.zero, 2)
set_option maxHeartbeats 1000000 in
theorem New_any (left : List Int) (A : Option Addr) (cap : Nat) (add free : Int) (w : World) (h : Row w A left) :
    Calls Try.prog 10 #[.slice A left.length cap, .int .i64 add, .int .i64 free] w (RetClk w (newR left add free)) := by
  have h1 := (Ext.rfl w).alloc (.cells #[.slice none 0 0, .int .i64 0, .int .i64 0, .int .i64 0, .int .i64 0, .int .i64 0, .int .i64 0] 24)
  have hl := h.1
  have hown := own_any ⟨left, add, free, -1, 0, 0, -1⟩ A cap _ (h.ext h1)
  clear h
  have hval := fun (A1 : Option Addr) (c1 : Nat) (w1 : World) (hr : Row w1 A1 left) => valid_any ⟨left, add, free, -1, 0, 0, -1⟩ A1 c1 w1 hr
  cases e1 : (⟨left, add, free, -1, 0, 0, -1⟩ : Clk).ok
  all_goals
    rw [e1] at hval
    have E1 := Lib.hid e1
    clear e1
    go_enter Try.func10, Try.ntmps10
    go_wp2_with (first | (go_at_call 31; refine hown.mono ?_; rintro e w1 ⟨v, rfl, ho, hb⟩; obtain ⟨A1, c1, hv, _, hr1⟩ := ho.row hl; subst hv; have y0 := (re1 hb).2; simp only [World.size_alloc] at ho; rw [(re1 hb).1]) | (go_at_call 32; refine (hval A1 c1 _ (hr1.ext ?_)).mono ?_; (have := re1 hb; rw [← this.1]; exact (Ext.rfl w1).alloc _); rintro e w2 ⟨rfl, hb2⟩; have q := hb2; rw [← (re1 hb).1] at q; have e2 := (h1.tr hb).tr (((Ext.rfl w1).alloc _).tr q); have o2 := OwnI.ext (OwnI.alloc ho _) q; clear q; have x0 := (reba hb2 y0).2.1; have x1 := (reba hb2 y0).2.2; have n0 : w.heap.size ≠ w1.heap.size := (by omega); have n1 : w1.heap.size ≠ w.heap.size := (by omega); rw [(reba hb2 y0).1]))
  · refine bodyPost_ret (v := .tuple #[.agg (Clk.zero.cells (.slice none 0 0)), .int .i64 2]) ?_ rfl ?_
    · simp [results, Try.results10, go_sem, x0, x1, n0, n1]
    · have key : newR left add free = (Clk.zero, 2) := by simp [newR, E1.out]
      refine RetClk.of key ⟨_, rfl, OwnI.nil _ _, ?_⟩
      exact (e2.box (Nat.le_refl _) _ _).box (by omega) _ _
  · refine bodyPost_ret (v := .tuple #[.agg (Clk.cells ⟨left, add, free, -1, 0, 0, -1⟩ (.slice A1 left.length c1)), .int .i64 0]) ?_ rfl ?_
    · simp [results, Try.results10, go_sem, x0, x1, n0, n1]
    · have key : newR left add free = (⟨left, add, free, -1, 0, 0, -1⟩, 0) := by simp [newR, E1.out]
      refine RetClk.of key ⟨_, rfl, ?_, ?_⟩
      · exact ((o2.box (by omega) _ _).boxNe (fun k hk => by have := (ho.lt k hk).2; omega) _ _).lower (by omega)
      · exact (e2.box (Nat.le_refl _) _ _).box (by omega) _ _
end Go.Proofs.Ytbejaccdpikfhaa
