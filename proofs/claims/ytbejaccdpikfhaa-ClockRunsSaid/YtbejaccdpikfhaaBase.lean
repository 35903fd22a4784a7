/- Small laws that all my walks over this seat's program use: endings, worlds that only grow, rows of numbers that are read or owned. No condition. -/
import Derived.Test.YtbejaccdpikfhaaProg
import Derived.WalkKit
import Derived.Lib.Hide
import Derived.Deep.QuietTactic
import Derived.BigQuiet
import Derived.WalkSpells
import Derived.Deep.LoopGhost
import Derived.StillTailTactics
import Derived.Deep.RegionHeld3
import Derived.Laws.EntriesVeiled
namespace Go.Proofs.Ytbejaccdpikfhaa
open Go.RowKit

theorem ret_int {k : IntKind} {a b : Int} (h : a = b) : Ending.returned (.int k a) = .returned (.int k b) := by rw [h]
theorem ret_bool {a b : Bool} (h : a = b) : Ending.returned (.bool a) = .returned (.bool b) := by rw [h]

/-- max and min of two ints, as the walk is to spell them. -/
def mx (x y : Int) : Int := if x < y then y else x
def mn (x y : Int) : Int := if y < x then y else x
theorem mx_eq (x y : Int) : mx x y = max x y := by unfold mx; omega
theorem mn_eq (x y : Int) : mn x y = min x y := by unfold mn; omega
theorem max2_int (k k' : IntKind) (x y : Int) : Builtin.max2 (.int k x) (.int k' y) = pure (.int k (mx x y)) := by simp only [Builtin.max2, gt_iff_lt, mx]
theorem min2_int (k k' : IntKind) (x y : Int) : Builtin.min2 (.int k x) (.int k' y) = pure (.int k (mn x y)) := by simp only [Builtin.min2, mn]
theorem max_two (ats : Array TypeId) (ty : TypeId) (a b : Value) : Builtin.max_ ats ty #[a, b] = (Builtin.max2 a b >>= fun s => pure s) := by simp only [Builtin.max_, List.foldlM_cons, List.foldlM_nil]
theorem min_two (ats : Array TypeId) (ty : TypeId) (a b : Value) : Builtin.min_ ats ty #[a, b] = (Builtin.min2 a b >>= fun s => pure s) := by simp only [Builtin.min_, List.foldlM_cons, List.foldlM_nil]
attribute [go_sem] max2_int min2_int max_two min_two

/-- The world has only grown: all that lay in w lies there still. -/
abbrev Ext (w w' : World) : Prop := Below w.heap.size w w'
theorem Ext.rfl (w : World) : Ext w w := Below.refl _ _
theorem Ext.drewN {w w1 : World} (h : Ext w w1) (n : Nat) : Ext w (w1.drewN n) := ⟨h.os, h.tape, h.output, h.size, h.block⟩
theorem Ext.drew {w w1 : World} (h : Ext w w1) : Ext w w1.drew := Below.drew h
theorem Ext.alloc {w w1 : World} (h : Ext w w1) (o : Obj) : Ext w (w1.alloc o) := Below.alloc h h.size o
theorem Ext.tr {w w1 w2 : World} (h : Ext w w1) (k : Ext w1 w2) : Ext w w2 := Below.trans h (k.mono h.size)
theorem Ext.set {w w1 : World} (h : Ext w w1) {p : Addr} (hp : w.heap.size ≤ p.block) (u : Value) : Ext w (w1.setCell p u) := Below.setCell h hp u
theorem Ext.lt {w w1 : World} (h : Ext w w1) {b : Nat} (hb : b < w.heap.size) : b < w1.heap.size := Nat.lt_of_lt_of_le hb h.size
theorem bcell {W w1 : World} (hb : Ext W w1) : (∀ b o, b < W.heap.size → w1.cell? ⟨b, o, none⟩ = W.cell? ⟨b, o, none⟩) ∧ (∀ b o, b < W.heap.size → w1.frozen? ⟨b, o, none⟩ = W.frozen? ⟨b, o, none⟩) :=
  ⟨fun b o h => hb.cell (p := ⟨b, o, none⟩) h, fun b o h => hb.frozen (p := ⟨b, o, none⟩) h⟩

/-- What a block of cells tells of each of its cells. -/
theorem box_at {w : World} {b : Nat} {cs : Array Value} {t : TypeId} (h : w.heap[b]? = some (.cells cs t (0, 0))) : (∀ i, w.cell? ⟨b, i, none⟩ = cs[i]?) ∧ (∀ i, w.frozen? ⟨b, i, none⟩ = false) :=
  ⟨fun i => by simp [World.cell?, h], fun i => by simp [World.frozen?, h]⟩
theorem new_at (w : World) (o : Obj) : (w.alloc o).heap[w.heap.size]? = some o := by
  show (w.heap.push o)[w.heap.size]? = _
  simp
theorem new_at2 (w : World) (o p : Obj) : ((w.alloc o).alloc p).heap[w.heap.size]? = some o ∧ ((w.alloc o).alloc p).heap[w.heap.size + 1]? = some p := by
  refine ⟨(Below.heap_alloc _ _ _ (by simp)).trans (new_at w o), ?_⟩
  have := new_at (w.alloc o) p
  rwa [World.size_alloc] at this
theorem Ext.box1 {w w1 : World} {cs : Array Value} {t : TypeId} (h : Ext (w.alloc (.cells cs t)) w1) : w1.heap[w.heap.size]? = some (.cells cs t (0, 0)) :=
  (h.block _ (by simp)).trans (new_at w _)
theorem Ext.box2 {w w1 : World} {cs cs' : Array Value} {t t' : TypeId} (h : Ext ((w.alloc (.cells cs t)).alloc (.cells cs' t')) w1) : w1.heap[w.heap.size]? = some (.cells cs t (0, 0)) ∧ w1.heap[w.heap.size + 1]? = some (.cells cs' t' (0, 0)) :=
  ⟨(h.block _ (by simp; omega)).trans (new_at2 w _ _).1, (h.block _ (by simp)).trans (new_at2 w _ _).2⟩

theorem Ext.ud {W w1 : World} (h : Ext W.drew w1) : Ext W w1 := ((Ext.rfl W).drew).tr h

/-- A row's address reads as the ints xs. -/
def Row (w : World) (A : Option Addr) (xs : List Int) : Prop :=
  xs.length * 8 ≤ 140737488351232 ∧ (0 < xs.length → ∃ b off, A = some ⟨b, off, none⟩ ∧ b < w.heap.size ∧ ∀ j : Nat, j < xs.length → w.cell? ⟨b, off + j, none⟩ = some (.int .i64 (xs[j]?.getD 0)))
theorem Row.ext {w w1 : World} {A : Option Addr} {xs : List Int} (h : Row w A xs) (hb : Ext w w1) : Row w1 A xs := ⟨h.1, fun h0 => by
  obtain ⟨b, off, e, hlt, hc⟩ := h.2 h0
  exact ⟨b, off, e, hb.lt hlt, fun j hj => (hb.cell (p := ⟨b, off + j, none⟩) hlt).trans (hc j hj)⟩⟩
theorem Row.nil (w : World) (A : Option Addr) : Row w A [] := ⟨by simp, fun h => absurd h (by simp)⟩
/-- v is a row of ints of the call's own (from block 'base' on). -/
def OwnI (w : World) (base : Nat) (v : Value) (xs : List Int) : Prop := w.ownsRow base 3 1 v xs.length (xs.map (Value.int .i64))
theorem OwnI.nil (w : World) (base : Nat) : OwnI w base (.slice none 0 0) [] := World.ownsRow_nil _ _ _ _
theorem OwnI.row {w : World} {base : Nat} {v : Value} {xs : List Int} (h : OwnI w base v xs) (hl : xs.length * 8 ≤ 140737488351232) : ∃ A c, v = .slice A xs.length c ∧ xs.length ≤ c ∧ Row w A xs := by
  rcases h.2 with ⟨rfl, h0⟩ | ⟨g, cap, cur, rfl, hg, hh, h1, h2, h3, h4⟩
  · have : xs = [] := List.length_eq_zero_iff.1 h0
    subst this
    exact ⟨none, 0, rfl, by simp, Row.nil _ _⟩
  · refine ⟨_, cap, rfl, h1, hl, fun h0 => ⟨g, 0, rfl, (Array.getElem?_eq_some_iff.1 hh).1, fun j hj => ?_⟩⟩
    have := h.cellAt j (by omega)
    simpa [List.getElem?_eq_getElem hj] using this
theorem OwnI.ext {w w1 : World} {base : Nat} {v : Value} {xs : List Int} (h : OwnI w base v xs) (hb : Ext w w1) : OwnI w1 base v xs :=
  World.ownsRow.kept (row := none) h ⟨hb.os, hb.tape, hb.output, hb.size, fun k hk _ => hb.block k hk⟩ (by cases v.ownBlock <;> simp)
theorem OwnI.lower {w : World} {base base' : Nat} {v : Value} {xs : List Int} (h : OwnI w base v xs) (hb : base' ≤ base) : OwnI w base' v xs := by
  refine ⟨h.1, ?_⟩
  rcases h.2 with h2 | ⟨g, cap, cur, h1, hg, r⟩
  · exact .inl h2
  · exact .inr ⟨g, cap, cur, h1, Nat.le_trans hb hg, r⟩
theorem OwnI.set {w : World} {base : Nat} {v : Value} {xs : List Int} (h : OwnI w base v xs) {p : Addr} (hp : p.block < base) (u : Value) : OwnI (w.setCell p u) base v xs := ownsRow_setCell_below h hp u
theorem getD_of {xs : List Int} {k : Nat} (h : k < xs.length) : xs[k]?.getD 0 = xs[k] := by simp [List.getElem?_eq_getElem h]
theorem infoInt : (Try.prog.info? 3).map (fun i => (i.zero, i.size, i.bytes)) = some (some (.int .i64 0), 1, 8) := by kernel_rfl
end Go.Proofs.Ytbejaccdpikfhaa
