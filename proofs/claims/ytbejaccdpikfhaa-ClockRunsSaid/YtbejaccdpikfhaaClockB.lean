/- The walks of package clock's methods: valid, told, ready, own, used. -/
import Derived.Test.YtbejaccdpikfhaaClockA
namespace Go.Proofs.Ytbejaccdpikfhaa
open Go.RowKit

structure Clk where
  left : List Int
  add : Int
  free : Int
  turn : Int
  since : Int
  last : Int
  fallen : Int

abbrev Clk.cells (c : Clk) (v : Value) : Array Value := #[v, .int .i64 c.add, .int .i64 c.free, .int .i64 c.turn, .int .i64 c.since, .int .i64 c.last, .int .i64 c.fallen]
abbrev Clk.val (c : Clk) (A : Option Addr) (cap : Nat) : Value := .agg (c.cells (.slice A c.left.length cap))

theorem used_any (c : Clk) (A : Option Addr) (cap : Nat) (now : Int) (w : World) :
    Calls Try.prog 40 #[c.val A cap, .int .i64 now] w fun e w' => e = .returned (.int .i64 (mx 0 (wrap64 (wrap64 (now - c.since) - c.free)))) ∧ Ext w w' := by
  go_enter Try.func40, Try.ntmps40
  go_wp2
  go_ret
  exact ⟨rfl, (Ext.rfl _).alloc _⟩

def CloneC (w : World) (c : Clk) (e : Ending) (w' : World) : Prop := ∃ v, e = .returned (.agg (c.cells v)) ∧ OwnI w' w.heap.size v c.left ∧ Ext w w'
theorem own_any (c : Clk) (A : Option Addr) (cap : Nat) (w : World) (h : Row w A c.left) :
    Calls Try.prog 31 #[c.val A cap] w (CloneC w c) := by
  have h2 := ((Ext.rfl w).alloc (.cells (c.cells (.slice A c.left.length cap)) 57)).alloc (.cells #[.slice none 0 0, .int .i64 0, .int .i64 0, .int .i64 0, .int .i64 0, .int .i64 0, .int .i64 0] 57)
  have hcl := clone_any A cap c.left _ (h.ext h2)
  have hl := h.1
  clear h
  go_enter Try.func31, Try.ntmps31
  go_wp2_with (go_at_call 39; refine hcl.mono ?_; rintro e w1 ⟨v, rfl, hown, hb⟩; obtain ⟨A1, c1, hv, _, hrow⟩ := hown.row hl; subst hv; simp only [World.size_alloc] at hown; obtain ⟨k1, k2⟩ := hb.box2; obtain ⟨k1, f1⟩ := box_at k1; obtain ⟨k2, f2⟩ := box_at k2)
  refine bodyPost_ret (v := .agg (c.cells (.slice A1 c.left.length c1))) ?_ rfl ⟨_, rfl, ?_, ?_⟩
  · simp [results, Try.results31, go_sem, k1, k2, f1, f2]
  · exact OwnI.lower (base := w.heap.size + 1 + 1) (by repeat (first | (with_reducible exact hown) | (refine OwnI.set ?_ (by simp <;> omega) _))) (by omega)
  · repeat (first | (with_reducible exact h2.tr hb) | (refine Ext.set ?_ (by simp <;> omega) _))

def Clk.v1 (c : Clk) : Bool := btw c.left.length 1 4 && !decide (0 ≤ badIdx c.left)
def Clk.v2 (c : Clk) : Bool := btw c.add 0 10000000 && btw c.free 0 10000000 && btw c.last 0 1000000000000 && btw c.since 0 c.last
def Clk.v3 (c : Clk) : Bool := btw c.turn (-1) (c.left.length - 1) && btw c.fallen (-1) (c.left.length - 1)
def Clk.v4 (c : Clk) : Bool := !(decide (0 ≤ c.turn) && decide (0 ≤ c.fallen)) && (decide (0 ≤ c.turn) || c.since == 0) && (!decide (0 ≤ c.fallen) || c.left[c.fallen.toNat]?.getD 0 == 0)
def Clk.ok (c : Clk) : Bool := c.v1 && c.v2 && c.v3 && c.v4

set_option maxHeartbeats 1000000 in
theorem valid_any (c : Clk) (A : Option Addr) (cap : Nat) (w : World) (h : Row w A c.left) :
    Calls Try.prog 32 #[c.val A cap] w fun e w' => e = .returned (.bool c.ok) ∧ Ext w w' := by
  have hl := h.1
  have hcon := fun cap (w1 : World) (hb : Ext w w1) => contains_any A cap c.left w1 (h.ext hb)
  have hb1 := (Ext.rfl w).alloc (.cells (c.cells (.slice A c.left.length cap)) 57)
  cases h1 : btw c.left.length 1 4
  case false =>
    go_enter Try.func32, Try.ntmps32
    go_wp2_with (first | (go_at_call 45; refine (btw_any _ _ _ _).mono ?_; rintro e w' ⟨rfl, rfl⟩) | (go_at_call 46; refine (hcon _ _ hb1).mono ?_; rintro e w' ⟨rfl, rfl⟩))
    go_ret
    exact ⟨ret_bool (by simp [Clk.ok, Clk.v1, Clk.v2, Clk.v3, h1]), hb1⟩
  cases h2 : decide (0 ≤ badIdx c.left)
  case true =>
    go_enter Try.func32, Try.ntmps32
    go_wp2_with (first | (go_at_call 45; refine (btw_any _ _ _ _).mono ?_; rintro e w' ⟨rfl, rfl⟩) | (go_at_call 46; refine (hcon _ _ hb1).mono ?_; rintro e w' ⟨rfl, rfl⟩))
    go_ret
    exact ⟨ret_bool (by simp [Clk.ok, Clk.v1, Clk.v2, Clk.v3, h1, h2]), hb1⟩
  cases h3 : btw c.add 0 10000000
  case false =>
    go_enter Try.func32, Try.ntmps32
    go_wp2_with (first | (go_at_call 45; refine (btw_any _ _ _ _).mono ?_; rintro e w' ⟨rfl, rfl⟩) | (go_at_call 46; refine (hcon _ _ hb1).mono ?_; rintro e w' ⟨rfl, rfl⟩))
    go_ret
    exact ⟨ret_bool (by simp [Clk.ok, Clk.v1, Clk.v2, Clk.v3, h1, h2, h3]), hb1⟩
  cases h4 : btw c.free 0 10000000
  case false =>
    go_enter Try.func32, Try.ntmps32
    go_wp2_with (first | (go_at_call 45; refine (btw_any _ _ _ _).mono ?_; rintro e w' ⟨rfl, rfl⟩) | (go_at_call 46; refine (hcon _ _ hb1).mono ?_; rintro e w' ⟨rfl, rfl⟩))
    go_ret
    exact ⟨ret_bool (by simp [Clk.ok, Clk.v1, Clk.v2, Clk.v3, h1, h2, h3, h4]), hb1⟩
  cases h5 : btw c.last 0 1000000000000
  case false =>
    go_enter Try.func32, Try.ntmps32
    go_wp2_with (first | (go_at_call 45; refine (btw_any _ _ _ _).mono ?_; rintro e w' ⟨rfl, rfl⟩) | (go_at_call 46; refine (hcon _ _ hb1).mono ?_; rintro e w' ⟨rfl, rfl⟩))
    go_ret
    exact ⟨ret_bool (by simp [Clk.ok, Clk.v1, Clk.v2, Clk.v3, h1, h2, h3, h4, h5]), hb1⟩
  cases h6 : btw c.since 0 c.last
  case false =>
    go_enter Try.func32, Try.ntmps32
    go_wp2_with (first | (go_at_call 45; refine (btw_any _ _ _ _).mono ?_; rintro e w' ⟨rfl, rfl⟩) | (go_at_call 46; refine (hcon _ _ hb1).mono ?_; rintro e w' ⟨rfl, rfl⟩))
    go_ret
    exact ⟨ret_bool (by simp [Clk.ok, Clk.v1, Clk.v2, Clk.v3, h1, h2, h3, h4, h5, h6]), hb1⟩
  cases h7 : btw c.turn (-1) (c.left.length - 1)
  case false =>
    go_enter Try.func32, Try.ntmps32
    go_wp2_with (first | (go_at_call 45; refine (btw_any _ _ _ _).mono ?_; rintro e w' ⟨rfl, rfl⟩) | (go_at_call 46; refine (hcon _ _ hb1).mono ?_; rintro e w' ⟨rfl, rfl⟩))
    go_ret
    exact ⟨ret_bool (by simp [Clk.ok, Clk.v1, Clk.v2, Clk.v3, h1, h2, h3, h4, h5, h6, h7]), hb1⟩
  cases h8 : btw c.fallen (-1) (c.left.length - 1)
  case false =>
    go_enter Try.func32, Try.ntmps32
    go_wp2_with (first | (go_at_call 45; refine (btw_any _ _ _ _).mono ?_; rintro e w' ⟨rfl, rfl⟩) | (go_at_call 46; refine (hcon _ _ hb1).mono ?_; rintro e w' ⟨rfl, rfl⟩))
    go_ret
    exact ⟨ret_bool (by simp [Clk.ok, Clk.v1, Clk.v2, Clk.v3, h1, h2, h3, h4, h5, h6, h7, h8]), hb1⟩
  have hf1 : c.fallen < c.left.length := by have := h8; simp only [btw, Bool.and_eq_true, decide_eq_true_eq] at this; omega
  have hf0 : 0 < c.left.length := by have := h1; simp only [btw, Bool.and_eq_true, decide_eq_true_eq] at this; omega
  obtain ⟨b, off, rfl, hlt, hc⟩ := h.2 hf0
  cases h10 : decide (0 ≤ c.fallen)
  case false =>
    clear hc
    cases h9 : decide (0 ≤ c.turn) <;> cases h11 : (c.since == 0)
    all_goals
      go_enter Try.func32, Try.ntmps32
      go_wp2_with (first | (go_at_call 45; refine (btw_any _ _ _ _).mono ?_; rintro e w' ⟨rfl, rfl⟩) | (go_at_call 46; refine (hcon _ _ hb1).mono ?_; rintro e w' ⟨rfl, rfl⟩))
      go_quiet (fail)
      go_wp2
      go_ret
      exact ⟨ret_bool (by simp [Clk.ok, Clk.v1, Clk.v2, Clk.v3, Clk.v4, h1, h2, h3, h4, h5, h6, h7, h8, h9, h10, h11]), Ext.drewN hb1 _⟩
  case true =>
    have hf2 : 0 ≤ c.fallen := by simpa using h10
    have hcf := hc c.fallen.toNat (by omega)
    clear hc
    generalize hy : c.left[c.fallen.toNat]?.getD 0 = y at hcf
    have HY := Lib.hid hy
    clear hy
    cases h9 : decide (0 ≤ c.turn) <;> cases h11 : (c.since == 0) <;> cases h12 : (y == 0)
    all_goals
      go_enter Try.func32, Try.ntmps32
      go_wp2_with (first | (go_at_call 45; refine (btw_any _ _ _ _).mono ?_; rintro e w' ⟨rfl, rfl⟩) | (go_at_call 46; refine (hcon _ _ hb1).mono ?_; rintro e w' ⟨rfl, rfl⟩))
      go_quiet (fail)
      go_wp2
      go_ret
      exact ⟨ret_bool (by simp only [Clk.ok, Clk.v1, Clk.v2, Clk.v3, Clk.v4, h1, h2, h3, h4, h5, h6, h7, h8, h9, h10, h11, h12, HY.out]; rfl), Ext.drewN hb1 _⟩

def toldN (c : Clk) (now : Int) : Int := if c.ok = false then 13 else if btw now 0 1000000000000 = false then 2 else if now < c.last then 9 else 0
theorem told_any (c : Clk) (A : Option Addr) (cap : Nat) (now : Int) (w : World) (h : Row w A c.left) :
    Calls Try.prog 38 #[c.val A cap, .int .i64 now] w fun e w' => e = .returned (.int .i64 (toldN c now)) ∧ Ext w w' := by
  have h1 := (Ext.rfl w).alloc (.cells (c.cells (.slice A c.left.length cap)) 57)
  have hcl := valid_any c A cap _ (h.ext h1)
  clear h
  unfold toldN
  cases e1 : c.ok <;> cases e2 : btw now 0 1000000000000 <;> by_cases e3 : now < c.last
  all_goals
    rw [e1] at hcl
    go_enter Try.func38, Try.ntmps38
    go_wp2_with (first | (go_at_call 32; refine hcl.mono ?_; rintro e w1 ⟨rfl, hb⟩; have k1 := hb.box1; obtain ⟨k1, f1⟩ := box_at k1) | (go_at_call 45; refine (btw_any _ _ _ _).mono ?_; rintro e w' ⟨rfl, rfl⟩))
    go_ret
    exact ⟨ret_int (by simp_all), h1.tr hb⟩
end Go.Proofs.Ytbejaccdpikfhaa
