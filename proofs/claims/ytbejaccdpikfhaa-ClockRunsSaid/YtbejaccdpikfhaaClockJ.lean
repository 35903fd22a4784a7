/- fold and Run of package clock. -/
import Derived.Test.YtbejaccdpikfhaaClockI
import Derived.Test.YtbejaccdpikfhaaClockF
namespace Go.Proofs.Ytbejaccdpikfhaa
open Go.RowKit

/-- A row's address reads as turns of three cells each. -/
def TRow (w : World) (A : Option Addr) (l : List Tk) : Prop :=
  l.length * 24 ≤ 140737488351232 ∧ (0 < l.length → ∃ b off, A = some ⟨b, off, none⟩ ∧ b < w.heap.size ∧ ∀ (k : Nat) (t : Tk), l[k]? = some t → w.cell? ⟨b, off + k * 3, none⟩ = some (.int .i64 t.player) ∧ w.cell? ⟨b, off + k * 3 + 1, none⟩ = some (.int .i64 t.from_) ∧ w.cell? ⟨b, off + k * 3 + 2, none⟩ = some (.int .i64 t.till))
theorem TRow.ext {w w1 : World} {A : Option Addr} {l : List Tk} (h : TRow w A l) (hb : Ext w w1) : TRow w1 A l := ⟨h.1, fun h0 => by
  obtain ⟨b, off, e, hlt, hc⟩ := h.2 h0
  refine ⟨b, off, e, hb.lt hlt, fun k t hk => ?_⟩
  obtain ⟨c0, c1, c2⟩ := hc k t hk
  exact ⟨(hb.cell (p := ⟨b, _, none⟩) hlt).trans c0, (hb.cell (p := ⟨b, _, none⟩) hlt).trans c1, (hb.cell (p := ⟨b, _, none⟩) hlt).trans c2⟩⟩

def foldR : Clk → List Tk → Nat → Clk × Int × Int
  | c, [], _ => (c, 0, 0)
  | c, t :: l, i => if ((tickR c t).2 != 0) = true then (Clk.zero, (tickR c t).2, i) else foldR (tickR c t).1 l (i + 1)
/-- A clock and a fault, as they come back. -/
def FoldP (S : Nat → Prop) (w : World) (r : Clk × Int × Int) (e : Ending) (w' : World) : Prop :=
  ∃ A1 c1, e = .returned (.tuple #[.agg (r.1.cells (.slice A1 r.1.left.length c1)), .agg #[.int .i64 r.2.1, .int .i64 r.2.2]]) ∧ r.1.left.length ≤ c1 ∧ Row w' A1 r.1.left ∧ Ext w w' ∧ (∀ g off, A1 = some ⟨g, off, none⟩ → S g ∨ w.heap.size ≤ g)
theorem FoldP.of {S : Nat → Prop} {w w' : World} {r r' : Clk × Int × Int} {e : Ending} (h : r = r') (k : FoldP S w r' e w') : FoldP S w r e w' := by rw [h]; exact k

theorem Row.box {w : World} {A : Option Addr} {xs : List Int} (h : Row w A xs) {b : Nat} (hb : ∀ k off, A = some ⟨k, off, none⟩ → k ≠ b) (cs : Array Value) (t : TypeId) : Row (w.box b cs t) A xs := ⟨h.1, fun h0 => by
  obtain ⟨g, off, e, hlt, hc⟩ := h.2 h0
  exact ⟨g, off, e, by rw [World.box_size]; exact hlt, fun j hj => (World.box_cell_other _ _ _ _ _ _ _ (hb g off e)).trans (hc j hj)⟩⟩

/-- What fold keeps in memory: the clock that has been reached, its two results, the zero clock. -/
structure FInv (w W : World) (c : Clk) (v : Value) : Prop where
  ext : Ext w W
  b0 : W.heap[w.heap.size]? = some (.cells (c.cells v) 57 (0, 0))
  b1 : W.heap[w.heap.size + 1]? = some (.cells (Clk.zero.cells (.slice none 0 0)) 57 (0, 0))
  b2 : W.heap[w.heap.size + 1 + 1]? = some (.cells #[.int .i64 0, .int .i64 0] 41 (0, 0))
  b3 : W.heap[w.heap.size + 1 + 1 + 1]? = some (.cells (Clk.zero.cells (.slice none 0 0)) 57 (0, 0))
theorem FInv.lt {w W : World} {c : Clk} {v : Value} (h : FInv w W c v) : w.heap.size + 1 + 1 + 1 < W.heap.size := (Array.getElem?_eq_some_iff.1 h.b3).1
theorem FInv.go {w W W1 : World} {c : Clk} {v : Value} (h : FInv w W c v) (hb : Ext W W1) : FInv w W1 c v := ⟨h.ext.tr hb, hb.bx h.b0, hb.bx h.b1, hb.bx h.b2, hb.bx h.b3⟩
abbrev FW (n : Nat) (W : World) (c : Clk) (v : Value) : World := (((W.box n (c.cells v) 57).box (n + 1) (Clk.zero.cells (.slice none 0 0)) 57).box (n + 1 + 1) #[.int .i64 0, .int .i64 0] 41).box (n + 1 + 1 + 1) (Clk.zero.cells (.slice none 0 0)) 57
theorem FInv.re {w W : World} {c : Clk} {v : Value} (h : FInv w W c v) : W = (((W.box w.heap.size (c.cells v) 57).box (w.heap.size + 1) (Clk.zero.cells (.slice none 0 0)) 57).box (w.heap.size + 1 + 1) #[.int .i64 0, .int .i64 0] 41).box (w.heap.size + 1 + 1 + 1) (Clk.zero.cells (.slice none 0 0)) 57 := by
  rw [World.box_self h.b0, World.box_self h.b1, World.box_self h.b2, World.box_self h.b3]
theorem FInv.mk0 (w : World) (c : Clk) (v : Value) : FInv w ((((w.alloc (.cells (c.cells v) 57)).alloc (.cells (Clk.zero.cells (.slice none 0 0)) 57)).alloc (.cells #[.int .i64 0, .int .i64 0] 41)).alloc (.cells (Clk.zero.cells (.slice none 0 0)) 57)) c v := by
  have e2 := Ext.box2 (((Ext.rfl ((w.alloc (.cells (c.cells v) 57)).alloc (.cells (Clk.zero.cells (.slice none 0 0)) 57))).alloc (.cells #[.int .i64 0, .int .i64 0] 41)).alloc (.cells (Clk.zero.cells (.slice none 0 0)) 57))
  have e3 := new_at2 ((w.alloc (.cells (c.cells v) 57)).alloc (.cells (Clk.zero.cells (.slice none 0 0)) 57)) (.cells #[.int .i64 0, .int .i64 0] 41) (.cells (Clk.zero.cells (.slice none 0 0)) 57)
  simp only [World.size_alloc] at e3
  exact ⟨((((Ext.rfl w).alloc _).alloc _).alloc _).alloc _, e2.1, e2.2, e3.1, e3.2⟩
theorem FInv.step {w W : World} {c c' : Clk} {v v' : Value} (h : FInv w W c v) : FInv w (FW w.heap.size W c' v') c' v' := by
  have := h.lt
  refine ⟨(((h.ext.box (by omega) _ _).box (by omega) _ _).box (by omega) _ _).box (by omega) _ _, ?_, ?_, ?_, ?_⟩
  · rw [World.box_heap_other (by omega), World.box_heap_other (by omega), World.box_heap_other (by omega), World.box_heap_same (by omega)]
  · rw [World.box_heap_other (by omega), World.box_heap_other (by omega), World.box_heap_same (by simp only [World.box_size]; omega)]
  · rw [World.box_heap_other (by omega), World.box_heap_same (by simp only [World.box_size]; omega)]
  · rw [World.box_heap_same (by simp only [World.box_size]; omega)]
theorem ne4 (n : Nat) : n ≠ n + 1 + 1 + 1 ∧ n + 1 + 1 + 1 ≠ n ∧ n + 1 ≠ n + 1 + 1 + 1 ∧ n + 1 + 1 + 1 ≠ n + 1 ∧ n + 1 + 1 ≠ n + 1 + 1 + 1 ∧ n + 1 + 1 + 1 ≠ n + 1 + 1 := by omega

def FRel (S : Nat → Prop) (w : World) (c : Clk) (l : List Tk) (i : Value) (wr : World) : Prop :=
  ∃ (k : Nat) (ck : Clk) (A1 : Option Addr) (c1 : Nat), i = .int .i64 k ∧ k ≤ l.length ∧ FInv w wr ck (.slice A1 ck.left.length c1) ∧ ck.left.length ≤ c1 ∧ Row wr A1 ck.left ∧ (∀ g off, A1 = some ⟨g, off, none⟩ → (S g ∧ g < w.heap.size) ∨ w.heap.size + 1 + 1 + 1 < g) ∧ foldR c l 0 = foldR ck (l.drop k) k

set_option maxHeartbeats 4000000 in
theorem fold_any (S : Nat → Prop) (c : Clk) (A : Option Addr) (cap : Nat) (B : Option Addr) (capB : Nat) (l : List Tk) (w : World) (h : Row w A c.left) (hcap : c.left.length ≤ cap) (hA : ∀ g off, A = some ⟨g, off, none⟩ → S g ∧ g < w.heap.size) (hB : TRow w B l) :
    Calls Try.prog 42 #[c.val A cap, .slice B l.length capB, .func (.func 43) #[] #[]] w (FoldP S w (foldR c l 0)) := by
  obtain ⟨W, hW⟩ : ∃ W, ((((w.alloc (.cells (c.cells (.slice A c.left.length cap)) 57)).alloc (.cells (Clk.zero.cells (.slice none 0 0)) 57)).alloc (.cells #[.int .i64 0, .int .i64 0] 41)).alloc (.cells (Clk.zero.cells (.slice none 0 0)) 57)) = W := ⟨_, rfl⟩
  have I0 := FInv.mk0 w c (.slice A c.left.length cap)
  rw [hW] at I0
  have hlen : l.length ≤ 9223372036854775807 := by have := hB.1; omega
  go_enter Try.func42, Try.ntmps42
  go_wp2_with fail
  go_loopw [15] (fun i wr => FRel S w c l i wr) (fun i _ => l.length - (intOf i).toNat)
  case atStart => exact ⟨0, c, A, cap, rfl, Nat.zero_le _, I0, hcap, h.ext I0.ext, fun g off e => .inl (hA g off e), rfl⟩
  case round =>
    obtain ⟨k, ck, A1, c1, rfl, hk, I, hc1, hrow, hfar, hpure⟩ := hrel
    have HP := Lib.hid hpure
    have HF := Lib.hid hfar
    clear hpure hfar hW
    obtain ⟨m1, m2, m3, m4, m5, m6⟩ := ne3 w.heap.size
    obtain ⟨p1, p2, p3, p4, p5, p6⟩ := ne4 w.heap.size
    have l3 := I.lt
    have l2 : w.heap.size + 1 + 1 < wr.heap.size := by omega
    have l1 : w.heap.size + 1 < wr.heap.size := by omega
    have l0 : w.heap.size < wr.heap.size := by omega
    by_cases hkl : k < l.length
    · have hltz : (k : Int) < (l.length : Int) := by omega
      obtain ⟨b, off, rfl, hbl, hcells⟩ := hB.2 (by omega)
      obtain ⟨t, ht⟩ : ∃ t, l[k]? = some t := ⟨l[k], List.getElem?_eq_getElem hkl⟩
      obtain ⟨q0, q1, q2⟩ := hcells k t ht
      replace q0 := (I.ext.cell (p := ⟨b, _, none⟩) hbl).trans q0
      replace q1 := (I.ext.cell (p := ⟨b, _, none⟩) hbl).trans q1
      replace q2 := (I.ext.cell (p := ⟨b, _, none⟩) hbl).trans q2
      have HT := Lib.hid ht
      have n0 : b ≠ w.heap.size := by omega
      have n1 : b ≠ w.heap.size + 1 := by omega
      have n2 : b ≠ w.heap.size + 1 + 1 := by omega
      have n3 : b ≠ w.heap.size + 1 + 1 + 1 := by omega
      clear ht hcells
      have hs : (tickR ck t).1.left.length * 8 ≤ 140737488351232 := by have := tick_len ck t; have := hrow.1; omega
      obtain ⟨r, hr0⟩ : ∃ r, tickR ck t = r := ⟨_, rfl⟩
      have htk := fun w1 (h1 : Row w1 A1 ck.left) => tick_any ck A1 c1 t w1 h1
      rw [hr0] at htk hs
      have HR0 := Lib.hid hr0
      clear hr0
      rw [I.re]
      cases hr : (r.2 != 0)
      · go_wp2_with (go_at_call 43; refine (htk _ ?_).mono ?_; (rw [← I.re]; exact hrow.ext ((Ext.rfl _).alloc _)); rintro e w1 ⟨v, rfl, ho, hb⟩; rw [← I.re] at ho hb; obtain ⟨A2, c2, hv, hc2, hr2⟩ := ho.row hs; subst hv; have J := I.go (((Ext.rfl wr).alloc _).tr hb); have j3 := J.lt; have j2 : w.heap.size + 1 + 1 < w1.heap.size := (by omega); have j1 : w.heap.size + 1 < w1.heap.size := (by omega); have j0 : w.heap.size < w1.heap.size := (by omega); rw [J.re])
        have hg2 : ∀ g off, A2 = some ⟨g, off, none⟩ → w.heap.size + 1 + 1 + 1 < g := fun g off e => by have := (ho.lt g (by simp [Value.ownBlock, e])).1; simp only [World.size_alloc] at this; omega
        refine ⟨⟨k + 1, r.1, A2, c2, by go_num, by omega, (J.step).go ((Ext.rfl _).alloc _), hc2, ?_, fun g off e => .inr (hg2 g off e), ?_⟩, by simp [intOf]; omega⟩
        · exact ((((hr2.box (fun g off e => by have := hg2 g off e; omega) _ _).box (fun g off e => by have := hg2 g off e; omega) _ _).box (fun g off e => by have := hg2 g off e; omega) _ _).box (fun g off e => by have := hg2 g off e; omega) _ _).ext ((Ext.rfl _).alloc _)
        · have hd : l.drop k = t :: l.drop (k + 1) := by
            obtain ⟨h1, h2⟩ := List.getElem?_eq_some_iff.1 HT.out
            rw [List.drop_eq_getElem_cons h1, h2]
          rw [HP.out, hd, foldR, HR0.out, hr]
          rfl
      · have key : foldR c l 0 = (Clk.zero, r.2, (k : Int)) := by
          have hd : l.drop k = t :: l.drop (k + 1) := by
            obtain ⟨h1, h2⟩ := List.getElem?_eq_some_iff.1 HT.out
            rw [List.drop_eq_getElem_cons h1, h2]
          rw [HP.out, hd, foldR, HR0.out, hr]
          rfl
        have KEY := Lib.hid key
        clear key
        go_wp2_with (go_at_call 43; refine (htk _ ?_).mono ?_; (rw [← I.re]; exact hrow.ext ((Ext.rfl _).alloc _)); rintro e w1 ⟨v, rfl, ho, hb⟩; rw [← I.re] at ho hb; obtain ⟨A2, c2, hv, hc2, hr2⟩ := ho.row hs; subst hv; have J := I.go (((Ext.rfl wr).alloc _).tr hb); have j3 := J.lt; have j2 : w.heap.size + 1 + 1 < w1.heap.size := (by omega); have j1 : w.heap.size + 1 < w1.heap.size := (by omega); have j0 : w.heap.size < w1.heap.size := (by omega); rw [J.re])
        refine bodyPost_ret (v := .tuple #[.agg (Clk.zero.cells (.slice none 0 0)), .agg #[.int .i64 r.2, .int .i64 k]]) ?_ rfl ?_
        · simp [results, Try.results42, go_sem, j0, j1, j2, j3]
        · refine FoldP.of KEY.out ⟨none, 0, rfl, by simp, Row.nil _ _, ?_, fun g off e => by cases e⟩
          repeat (first | (with_reducible exact J.ext) | (refine Ext.alloc ?_ _) | (refine Ext.box ?_ (by omega) _ _))
    · obtain rfl : k = l.length := by omega
      have key : foldR c l 0 = (ck, 0, 0) := by rw [HP.out, List.drop_length, foldR]
      have KEY := Lib.hid key
      have hd : decide ((l.length : Int) < (l.length : Int)) = false := by simp
      clear key
      rw [I.re]
      go_wp2
      refine bodyPost_ret (v := .tuple #[.agg (ck.cells (.slice A1 ck.left.length c1)), .agg #[.int .i64 0, .int .i64 0]]) ?_ rfl ?_
      · simp [results, Try.results42, go_sem, l0, l1, l2, l3]
      · refine FoldP.of KEY.out ⟨A1, c1, rfl, hc1, ?_, ?_, fun g off e => by rcases HF.out g off e with h | h; exact .inl h.1; exact .inr (by omega)⟩
        · exact (((hrow.box (fun g off e => by have := HF.out g off e; omega) _ _).box (fun g off e => by have := HF.out g off e; omega) _ _).box (fun g off e => by have := HF.out g off e; omega) _ _).box (fun g off e => by have := HF.out g off e; omega) _ _
        · repeat (first | (with_reducible exact I.ext) | (refine Ext.alloc ?_ _) | (refine Ext.box ?_ (by omega) _ _))
end Go.Proofs.Ytbejaccdpikfhaa
