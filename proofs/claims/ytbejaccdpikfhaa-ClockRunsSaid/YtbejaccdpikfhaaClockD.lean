/- first and start of package clock. -/
import Derived.Test.YtbejaccdpikfhaaClockC
import Derived.Test.YtbejaccdpikfhaaBox
import Derived.Deep.DeepCutAuto
namespace Go.Proofs.Ytbejaccdpikfhaa
open Go.RowKit

def firstN (xs : List Int) : Int := (xs.find? (fun x => x != 0)).getD 0
theorem find_hit (p : Int → Bool) (xs : List Int) (k : Nat) (h : k < xs.length) (hp : p (xs[k]?.getD 0) = true) (hb : ∀ j, j < k → p (xs[j]?.getD 0) = false) : xs.find? p = some (xs[k]?.getD 0) := by
  rw [getD_of h] at *
  rw [List.find?_eq_some_iff_getElem]
  refine ⟨hp, k, h, rfl, fun j hj => ?_⟩
  have := hb j hj
  rw [getD_of (by omega)] at this
  simp [this]
theorem find_miss (p : Int → Bool) (xs : List Int) (hb : ∀ j, j < xs.length → p (xs[j]?.getD 0) = false) : xs.find? p = none := by
  rw [List.find?_eq_none]
  intro x hx
  obtain ⟨j, hj, rfl⟩ := List.mem_iff_getElem.1 hx
  have := hb j hj
  rw [getD_of hj] at this
  simp [this]
theorem first_any (A : Option Addr) (c : Nat) (xs : List Int) (w : World) (h : Row w A xs) :
    Calls Try.prog 47 #[.slice A xs.length c] w fun e w' => e = .returned (.int .i64 (firstN xs)) ∧ w = w' := by
  obtain ⟨hl, hrow⟩ := h
  go_enter Try.func47, Try.ntmps47
  go_wp2
  go_loop [4, 7] (fun _ i => ∃ k : Nat, k ≤ xs.length ∧ i = .int .i64 k ∧ (Hid (∀ j, j < k → ((xs[j]?.getD 0) != 0) = false))) (fun _ i => xs.length - (intOf i).toNat)
  case atStart => exact ⟨0, Nat.zero_le _, rfl, fun j hj => absurd hj (Nat.not_lt_zero _)⟩
  case round =>
    obtain ⟨k, hk, rfl, hno⟩ := hrel
    by_cases hlt : k < xs.length
    · have hltz : (k : Int) < (xs.length : Int) := by omega
      obtain ⟨b, off, rfl, hb, hcell⟩ := hrow (by omega)
      have hc := hcell k hlt
      clear hcell
      generalize hy : xs[k]?.getD 0 = y at hc
      have HY := Lib.hid hy
      clear hy
      cases hq : (y != 0) with
      | true =>
        go_wp2
        go_ret
        exact ⟨ret_int (by rw [firstN, find_hit _ xs k hlt (by rw [HY.out]; exact hq) hno.out, HY.out]; rfl), rfl⟩
      | false =>
        have HQ := Lib.hid hq
        have hq2 : (y == 0) = true := by simpa using hq
        go_wp2
        go_round
        case rel =>
          refine ⟨k + 1, by omega, by go_num, fun j hj => ?_⟩
          by_cases e : j = k
          · subst e; rw [HY.out]; exact HQ.out
          · exact hno.out j (by omega)
        case measure => simp [intOf]; omega
    · obtain rfl : k = xs.length := by omega
      have hd : decide ((xs.length : Int) < (xs.length : Int)) = false := by simp
      go_wp2
      go_ret
      exact ⟨ret_int (by rw [firstN, find_miss _ xs hno.out]; rfl), rfl⟩

theorem row_new (w : World) (xs : List Int) (t : TypeId) (h : xs.length * 8 ≤ 140737488351232) : Row (w.alloc (.cells (xs.map (Value.int .i64)).toArray t)) (some ⟨w.heap.size, 0, none⟩) xs := by
  refine ⟨h, fun h0 => ⟨_, 0, rfl, by simp, fun j hj => ?_⟩⟩
  rw [(box_at (new_at w _)).1]
  simp [List.getElem?_eq_getElem hj]
abbrev Clk.zero : Clk := ⟨[], 0, 0, 0, 0, 0, 0⟩

abbrev W2 (w : World) (c : Clk) (v : Value) : World := (w.alloc (.cells (c.cells v) 57)).alloc (.cells #[.slice none 0 0, .int .i64 0, .int .i64 0, .int .i64 0, .int .i64 0, .int .i64 0, .int .i64 0] 57)
/-- The two boxes of a method that returns a clock: its receiver at b, its result at b + 1. -/
structure Boxes (w W : World) (c : Clk) (v : Value) : Prop where
  ext : Ext w W
  b1 : W.heap[w.heap.size]? = some (.cells (c.cells v) 57 (0, 0))
  b2 : W.heap[w.heap.size + 1]? = some (.cells (Clk.zero.cells (.slice none 0 0)) 57 (0, 0))
theorem Boxes.mk2 (w : World) (c : Clk) (v : Value) : Boxes w (W2 w c v) c v := ⟨((Ext.rfl w).alloc _).alloc _, (new_at2 w _ _).1, (new_at2 w _ _).2⟩
theorem Boxes.go {w W W1 : World} {c : Clk} {v : Value} (h : Boxes w W c v) (hb : Ext W W1) : Boxes w W1 c v :=
  ⟨h.ext.tr hb, (hb.block _ (Array.getElem?_eq_some_iff.1 h.b1).1).trans h.b1, (hb.block _ (Array.getElem?_eq_some_iff.1 h.b2).1).trans h.b2⟩
theorem Boxes.re {w W : World} {c : Clk} {v : Value} (h : Boxes w W c v) : W = (W.box w.heap.size (c.cells v) 57).box (w.heap.size + 1) (Clk.zero.cells (.slice none 0 0)) 57 := by
  rw [World.box_self h.b1, World.box_self h.b2]
theorem Boxes.lt {w W : World} {c : Clk} {v : Value} (h : Boxes w W c v) : w.heap.size + 1 < W.heap.size := (Array.getElem?_eq_some_iff.1 h.b2).1

def RetClk (w : World) (r : Clk × Int) (e : Ending) (w' : World) : Prop := ∃ v, e = .returned (.tuple #[.agg (r.1.cells v), .int .i64 r.2]) ∧ OwnI w' w.heap.size v r.1.left ∧ Ext w w'
theorem RetClk.of {w w' : World} {r r' : Clk × Int} {e : Ending} (h : r = r') (k : RetClk w r' e w') : RetClk w r e w' := by rw [h]; exact k
theorem RetClk.fail {w w' : World} {e : Ending} {n : Int} (h : e = .returned (.tuple #[.agg (Clk.zero.cells (.slice none 0 0)), .int .i64 n])) (hb : Ext w w') : RetClk w (Clk.zero, n) e w' := ⟨_, h, OwnI.nil _ _, hb⟩
def startR (c : Clk) (p now : Int) : Clk × Int :=
  if (firstN [toldN c now, readyN c false] != 0) = true then (Clk.zero, firstN [toldN c now, readyN c false])
  else if btw p 0 (c.left.length - 1) = false then (Clk.zero, 2) else ({ c with turn := p, since := now, last := now }, 0)

set_option maxHeartbeats 2000000 in
theorem start_any (c : Clk) (A : Option Addr) (cap : Nat) (p now : Int) (w : World) (h : Row w A c.left) :
    Calls Try.prog 34 #[c.val A cap, .int .i64 p, .int .i64 now] w (RetClk w (startR c p now)) := by
  obtain ⟨W, hW⟩ : ∃ W, W2 w c (.slice A c.left.length cap) = W := ⟨_, rfl⟩
  have B := Boxes.mk2 w c (.slice A c.left.length cap)
  rw [hW] at B
  obtain ⟨k1, f1⟩ := box_at B.b1
  obtain ⟨k2, f2⟩ := box_at B.b2
  go_enter Try.func34, Try.ntmps34
  go_upto_region 1 with fail
  go_cut [8] (fun s8 wx => s8 = .int .i64 (firstN [toldN c now, readyN c false]) ∧ Ext W wx)
  case first =>
    go_region_with (first | (go_at_call 38; refine (told_any c A cap now _ ?_).mono ?_; (first | exact h.ext (B.ext.tr (Ext.rfl _).drew) | exact h.ext (B.ext.tr hR)); rintro e w1 ⟨rfl, hb⟩; have hT := Ext.tr (w := W) (by first | exact (Ext.rfl _).drew | exact hR) hb; (obtain ⟨k1, f1⟩ := box_at (B.go hT).b1)) | (go_at_call 41; refine (ready_any c A cap false _).mono ?_; rintro e w1 ⟨rfl, hb⟩; have hR := Ext.tr (w := W) (by first | exact (Ext.rfl _).drew | exact hT) hb; (obtain ⟨k1, f1⟩ := box_at (B.go hR).b1)) | (go_at_call 47; refine (first_any _ _ [toldN c now, readyN c false] _ (row_new _ _ _ (by simp))).mono ?_; rintro e w1 ⟨rfl, rfl⟩))
    all_goals (go_wp2_with fail; go_meet; exact ⟨rfl, by first | exact hR.alloc _ | exact hT.alloc _⟩)
  case rest =>
    obtain ⟨rfl, hb⟩ := hcut
    have B1 := B.go hb
    clear k1 k2 f1 f2 hb B hW
    have z1 := B1.lt
    have z0 : w.heap.size < wc.heap.size := by omega
    rw [B1.re]
    obtain ⟨r, hr0⟩ : ∃ r, firstN [toldN c now, readyN c false] = r := ⟨_, rfl⟩
    have HR0 := Lib.hid hr0
    rw [hr0]
    clear hr0
    have hl := h.1
    cases hr : (r != 0)
    · cases hp : btw p 0 (c.left.length - 1)
      · go_wp2_with (go_at_call 45; refine (btw_any _ _ _ _).mono ?_; rintro e w' ⟨rfl, rfl⟩)
        have key : startR c p now = (Clk.zero, 2) := by simp [startR, HR0.out, hr, hp]
        refine bodyPost_ret (v := .tuple #[.agg (Clk.zero.cells (.slice none 0 0)), .int .i64 2]) ?_ rfl ?_
        · simp [results, Try.results34, go_sem, z0, z1]
        · refine RetClk.of key ⟨_, rfl, OwnI.nil _ _, ?_⟩
          exact (B1.ext.box (by omega) _ _).box (by omega) _ _
      · have hown := own_any c A cap wc (h.ext B1.ext)
        rw [B1.re] at hown
        go_wp2_with (first | (go_at_call 45; refine (btw_any _ _ _ _).mono ?_; rintro e w' ⟨rfl, rfl⟩) | (go_at_call 31; refine hown.mono ?_; rintro e w1 ⟨v, rfl, ho, hb⟩; obtain ⟨A1, c1, hv, _, _⟩ := ho.row hl; subst hv; rw [← B1.re] at ho hb; have B2 := (B1.go hb); have y1 := B2.lt; have y0 : w.heap.size < w1.heap.size := (by omega); rw [B2.re]))
        have key : startR c p now = ({ c with turn := p, since := now, last := now }, 0) := by simp [startR, HR0.out, hr, hp]
        refine bodyPost_ret (v := .tuple #[.agg (Clk.cells { c with turn := p, since := now, last := now } (.slice A1 c.left.length c1)), .int .i64 0]) ?_ rfl ?_
        · simp [results, Try.results34, go_sem, y0, y1]
        · exact RetClk.of key ⟨_, rfl, ((ho.box z0 _ _).box z1 _ _).lower (by omega), (B2.ext.box (by omega) _ _).box (by omega) _ _⟩
    · go_wp2
      have key : startR c p now = (Clk.zero, r) := by simp [startR, HR0.out, hr]
      refine bodyPost_ret (v := .tuple #[.agg (Clk.zero.cells (.slice none 0 0)), .int .i64 r]) ?_ rfl ?_
      · simp [results, Try.results34, go_sem, z0, z1]
      · refine RetClk.of key ⟨_, rfl, OwnI.nil _ _, ?_⟩
        exact (B1.ext.box (by omega) _ _).box (by omega) _ _
end Go.Proofs.Ytbejaccdpikfhaa
