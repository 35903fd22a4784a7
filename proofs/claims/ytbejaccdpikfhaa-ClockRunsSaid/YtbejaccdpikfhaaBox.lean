/- A world in which a block of cells is spelt out: 'w.box b cs t'. A store into it is a store into its literal; a store elsewhere goes inward. No condition but the block's place. -/
import Derived.Test.YtbejaccdpikfhaaBase
namespace Go
open Go.RowKit

/-- The world w, block b holding the cells cs of type t. -/
def World.box (w : World) (b : Nat) (cs : Array Value) (t : TypeId) : World := { w with heap := w.heap.setIfInBounds b (.cells cs t (0, 0)) }

theorem World.ext_heap {w w' : World} (h : w.heap = w'.heap) (h1 : w.tape = w'.tape) (h2 : w.drawn = w'.drawn) (h3 : w.os = w'.os) (h4 : w.output = w'.output) : w = w' := by
  cases w; cases w'; simp_all

@[go_sem] theorem World.box_size (w : World) (b : Nat) (cs : Array Value) (t : TypeId) : (w.box b cs t).heap.size = w.heap.size := by simp [World.box]
theorem World.box_heap_same {w : World} {b : Nat} (h : b < w.heap.size) (cs : Array Value) (t : TypeId) : (w.box b cs t).heap[b]? = some (.cells cs t (0, 0)) := by
  simp [World.box, Array.getElem?_setIfInBounds, h]
theorem World.box_heap_other {w : World} {b k : Nat} (h : k ≠ b) (cs : Array Value) (t : TypeId) : (w.box b cs t).heap[k]? = w.heap[k]? := by
  simp [World.box, Array.getElem?_setIfInBounds, Ne.symm h]
/-- What is spelt out is what was there. -/
theorem World.box_self {w : World} {b : Nat} {cs : Array Value} {t : TypeId} (h : w.heap[b]? = some (.cells cs t (0, 0))) : w.box b cs t = w := by
  refine World.ext_heap ?_ rfl rfl rfl rfl
  apply Array.ext_getElem?
  intro i
  simp only [World.box, Array.getElem?_setIfInBounds]
  split
  · next e => subst e; rw [h]; simp [(Array.getElem?_eq_some_iff.1 h).1]
  · rfl
@[go_sem] theorem World.box_cell_same (w : World) (b : Nat) (cs : Array Value) (t : TypeId) (i : Nat) (h : b < w.heap.size) : (w.box b cs t).cell? ⟨b, i, none⟩ = cs[i]? := by
  simp [World.cell?, World.box_heap_same h]
@[go_sem] theorem World.box_cell_other (w : World) (b k : Nat) (cs : Array Value) (t : TypeId) (i : Nat) (sp : Option Nat) (h : k ≠ b) : (w.box b cs t).cell? ⟨k, i, sp⟩ = w.cell? ⟨k, i, sp⟩ := by
  simp [World.cell?, World.box_heap_other h]
@[go_sem] theorem World.box_frozen_same (w : World) (b : Nat) (cs : Array Value) (t : TypeId) (i : Nat) (h : b < w.heap.size) : (w.box b cs t).frozen? ⟨b, i, none⟩ = false := by
  simp [World.frozen?, World.box_heap_same h]
@[go_sem] theorem World.box_frozen_other (w : World) (b k : Nat) (cs : Array Value) (t : TypeId) (i : Nat) (sp : Option Nat) (h : k ≠ b) : (w.box b cs t).frozen? ⟨k, i, sp⟩ = w.frozen? ⟨k, i, sp⟩ := by
  simp [World.frozen?, World.box_heap_other h]
@[go_sem] theorem World.box_set_same (w : World) (b : Nat) (cs : Array Value) (t : TypeId) (i : Nat) (u : Value) : (w.box b cs t).setCell ⟨b, i, none⟩ u = w.box b (cs.setIfInBounds i u) t := by
  refine World.ext_heap ?_ rfl rfl rfl rfl
  apply Array.ext_getElem?
  intro k
  simp only [World.setCell, World.box, Array.getElem?_modify, Array.getElem?_setIfInBounds, Array.size_setIfInBounds]
  by_cases e : b = k
  · subst e
    by_cases hb : b < w.heap.size <;> simp [hb]
  · simp [e]
@[go_sem] theorem World.box_set_other (w : World) (b k : Nat) (cs : Array Value) (t : TypeId) (i : Nat) (sp : Option Nat) (u : Value) (h : k ≠ b) : (w.box b cs t).setCell ⟨k, i, sp⟩ u = (w.setCell ⟨k, i, sp⟩ u).box b cs t := by
  refine World.ext_heap ?_ rfl rfl rfl rfl
  apply Array.ext_getElem?
  intro j
  simp only [World.setCell, World.box, Array.getElem?_modify, Array.getElem?_setIfInBounds, Array.size_modify]
  by_cases e : b = j
  · subst e
    simp [h]
  · simp [e]
@[go_sem] theorem World.box_drew (w : World) (b : Nat) (cs : Array Value) (t : TypeId) : w.drew.box b cs t = (w.box b cs t).drew := rfl
@[go_sem] theorem World.box_drewN (w : World) (b : Nat) (cs : Array Value) (t : TypeId) (n : Nat) : (w.drewN n).box b cs t = (w.box b cs t).drewN n := by
  induction n generalizing w with
  | zero => rfl
  | succ n ih => show ((w.drewN n).drew).box b cs t = ((w.box b cs t).drewN n).drew; rw [World.box_drew, ih]

end Go
namespace Go.Proofs.Ytbejaccdpikfhaa
open Go.RowKit
theorem Ext.box {w w1 : World} (h : Ext w w1) {b : Nat} (hb : w.heap.size ≤ b) (cs : Array Value) (t : TypeId) : Ext w (w1.box b cs t) :=
  ⟨h.os, h.tape, h.output, by rw [World.box_size]; exact h.size, fun k hk => (World.box_heap_other (by omega) cs t).trans (h.block k hk)⟩
theorem OwnI.box {w : World} {base : Nat} {v : Value} {xs : List Int} (h : OwnI w base v xs) {b : Nat} (hb : b < base) (cs : Array Value) (t : TypeId) : OwnI (w.box b cs t) base v xs := by
  refine ⟨h.1, ?_⟩
  rcases h.2 with h2 | ⟨g, cap, cur, h1, hg, hh, r⟩
  · exact .inl h2
  · exact .inr ⟨g, cap, cur, h1, hg, by rw [World.box_heap_other (by omega)]; exact hh, r⟩
theorem OwnI.boxNe {w : World} {base : Nat} {v : Value} {xs : List Int} (h : OwnI w base v xs) {b : Nat} (hb : ∀ k, v.ownBlock = some k → k ≠ b) (cs : Array Value) (t : TypeId) : OwnI (w.box b cs t) base v xs := by
  refine ⟨h.1, ?_⟩
  rcases h.2 with h2 | ⟨g, cap, cur, h1, hg, hh, r⟩
  · exact .inl h2
  · subst h1
    exact .inr ⟨g, cap, cur, rfl, hg, by rw [World.box_heap_other (hb g (by simp [Value.ownBlock]))]; exact hh, r⟩
theorem OwnI.lt {w : World} {base : Nat} {v : Value} {xs : List Int} (h : OwnI w base v xs) (k : Nat) (hk : v.ownBlock = some k) : base ≤ k ∧ k < w.heap.size := World.ownsRow.lt h k hk
theorem re1 {w w1 : World} {c1 : Array Value} {t1 : TypeId} (hb : Ext (w.alloc (.cells c1 t1)) w1) : w1 = w1.box w.heap.size c1 t1 ∧ w.heap.size < w1.heap.size := by
  have h := hb.box1
  exact ⟨(World.box_self h).symm, (Array.getElem?_eq_some_iff.1 h).1⟩
theorem re2 {w w1 : World} {c1 c2 : Array Value} {t1 t2 : TypeId} (hb : Ext ((w.alloc (.cells c1 t1)).alloc (.cells c2 t2)) w1) :
    w1 = (w1.box w.heap.size c1 t1).box (w.heap.size + 1) c2 t2 ∧ w.heap.size < w1.heap.size ∧ w.heap.size + 1 < w1.heap.size := by
  obtain ⟨h1, h2⟩ := hb.box2
  exact ⟨by rw [World.box_self h1, World.box_self h2], (Array.getElem?_eq_some_iff.1 h1).1, (Array.getElem?_eq_some_iff.1 h2).1⟩
theorem ne3 (n : Nat) : n ≠ n + 1 ∧ n + 1 ≠ n ∧ n ≠ n + 1 + 1 ∧ n + 1 + 1 ≠ n ∧ n + 1 ≠ n + 1 + 1 ∧ n + 1 + 1 ≠ n + 1 := by omega
theorem re3 {w w1 : World} {c1 c2 c3 : Array Value} {t1 t2 t3 : TypeId} (hb : Ext (((w.alloc (.cells c1 t1)).alloc (.cells c2 t2)).alloc (.cells c3 t3)) w1) :
    w1 = ((w1.box w.heap.size c1 t1).box (w.heap.size + 1) c2 t2).box (w.heap.size + 1 + 1) c3 t3 ∧ w.heap.size < w1.heap.size ∧ w.heap.size + 1 < w1.heap.size ∧ w.heap.size + 1 + 1 < w1.heap.size := by
  have h3 : w1.heap[w.heap.size + 1 + 1]? = some (.cells c3 t3 (0, 0)) := by
    have := hb.block (w.heap.size + 1 + 1) (by simp)
    have k := new_at ((w.alloc (.cells c1 t1)).alloc (.cells c2 t2)) (.cells c3 t3)
    rw [World.size_alloc, World.size_alloc] at k
    exact this.trans k
  obtain ⟨h1, h2⟩ := Ext.box2 (((Ext.rfl _).alloc (.cells c3 t3)).tr hb)
  exact ⟨by rw [World.box_self h1, World.box_self h2, World.box_self h3], (Array.getElem?_eq_some_iff.1 h1).1, (Array.getElem?_eq_some_iff.1 h2).1, (Array.getElem?_eq_some_iff.1 h3).1⟩
theorem reb2 {u w2 : World} {a b : Nat} {ca cb : Array Value} {ta tb : TypeId} (hb : Ext ((u.box a ca ta).box b cb tb) w2) (la : a < u.heap.size) (lb : b < u.heap.size) (ab : a ≠ b) :
    w2 = (w2.box a ca ta).box b cb tb ∧ a < w2.heap.size ∧ b < w2.heap.size := by
  have h2 : w2.heap[b]? = some (.cells cb tb (0, 0)) := (hb.block _ (by simp [World.box_size]; exact lb)).trans (World.box_heap_same (by rw [World.box_size]; exact lb) _ _)
  have h1 : w2.heap[a]? = some (.cells ca ta (0, 0)) := (hb.block _ (by simp [World.box_size]; exact la)).trans ((World.box_heap_other ab _ _).trans (World.box_heap_same la _ _))
  exact ⟨by rw [World.box_self h1, World.box_self h2], (Array.getElem?_eq_some_iff.1 h1).1, (Array.getElem?_eq_some_iff.1 h2).1⟩
theorem reb3 {u w2 : World} {a b c : Nat} {ca cb cc : Array Value} {ta tb tc : TypeId} (hb : Ext (((u.box a ca ta).box b cb tb).box c cc tc) w2) (la : a < u.heap.size) (lb : b < u.heap.size) (lc : c < u.heap.size) (ab : a ≠ b) (ac : a ≠ c) (bc : b ≠ c) :
    w2 = ((w2.box a ca ta).box b cb tb).box c cc tc ∧ a < w2.heap.size ∧ b < w2.heap.size ∧ c < w2.heap.size := by
  have h3 : w2.heap[c]? = some (.cells cc tc (0, 0)) := (hb.block _ (by simp [World.box_size]; exact lc)).trans (World.box_heap_same (by simp [World.box_size]; exact lc) _ _)
  have h2 : w2.heap[b]? = some (.cells cb tb (0, 0)) := (hb.block _ (by simp [World.box_size]; exact lb)).trans ((World.box_heap_other bc _ _).trans (World.box_heap_same (by rw [World.box_size]; exact lb) _ _))
  have h1 : w2.heap[a]? = some (.cells ca ta (0, 0)) := (hb.block _ (by simp [World.box_size]; exact la)).trans ((World.box_heap_other ac _ _).trans ((World.box_heap_other ab _ _).trans (World.box_heap_same la _ _)))
  exact ⟨by rw [World.box_self h1, World.box_self h2, World.box_self h3], (Array.getElem?_eq_some_iff.1 h1).1, (Array.getElem?_eq_some_iff.1 h2).1, (Array.getElem?_eq_some_iff.1 h3).1⟩
theorem reba {w1 w2 : World} {b0 : Nat} {c1 c2 : Array Value} {t1 t2 : TypeId} (hb : Ext ((w1.box b0 c1 t1).alloc (.cells c2 t2)) w2) (h : b0 < w1.heap.size) :
    w2 = (w2.box b0 c1 t1).box w1.heap.size c2 t2 ∧ b0 < w2.heap.size ∧ w1.heap.size < w2.heap.size := by
  have h2 : w2.heap[w1.heap.size]? = some (.cells c2 t2 (0, 0)) := (hb.block _ (by simp [World.box_size])).trans (by have := new_at (w1.box b0 c1 t1) (.cells c2 t2); rwa [World.box_size] at this)
  have h1 : w2.heap[b0]? = some (.cells c1 t1 (0, 0)) := (hb.block _ (by simp [World.box_size]; omega)).trans ((Below.heap_alloc _ _ _ (by rw [World.box_size]; exact h)).trans (World.box_heap_same h _ _))
  exact ⟨by rw [World.box_self h1, World.box_self h2], (Array.getElem?_eq_some_iff.1 h1).1, (Array.getElem?_eq_some_iff.1 h2).1⟩
theorem Ext.bx {W w1 : World} (hb : Ext W w1) {b : Nat} {o : Obj} (h : W.heap[b]? = some o) : w1.heap[b]? = some o := (hb.block _ (Array.getElem?_eq_some_iff.1 h).1).trans h
theorem OwnI.alloc {w : World} {base : Nat} {v : Value} {xs : List Int} (h : OwnI w base v xs) (o : Obj) : OwnI (w.alloc o) base v xs := World.ownsRow.alloc h o
end Go.Proofs.Ytbejaccdpikfhaa
