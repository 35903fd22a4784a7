/- The reference's Check, own, told, used. -/
import Derived.Test.YtbejaccdpikfhaaClockL0
import Derived.Test.YtbejaccdpikfhaaClockL1
import Derived.Test.YtbejaccdpikfhaaClockL2
import Derived.Test.YtbejaccdpikfhaaClockL3
import Derived.Test.YtbejaccdpikfhaaClockM1
import Derived.Test.YtbejaccdpikfhaaClockM2
import Derived.Deep.AppendSrc
namespace Go.Proofs.Ytbejaccdpikfhaa
open Go.RowKit

theorem refCheck_any (c : Clk) (A : Option Addr) (cap : Nat) (w : World) (h : Row w A c.left) :
    Calls Try.prog 14 #[c.val A cap] w fun e w' => e = .returned (.int .i64 (checkN c)) ∧ Ext w w' := by
  have hl := h.1
  have b13 : ¬ c.Good → (Calls Try.prog 14 #[c.val A cap] w fun e w' => e = .returned (.int .i64 13) ∧ Ext w w') → Calls Try.prog 14 #[c.val A cap] w fun e w' => e = .returned (.int .i64 (checkN c)) ∧ Ext w w' := fun g k => by rw [check13 g]; exact k
  by_cases h1 : ((c.left.length : Int) < 1)
  · exact b13 (fun g => by have := g.len; have := g.nums; have := g.turns; omega) (rc1 c A cap w hl h1)
  by_cases h2 : ((4 : Int) < c.left.length)
  · exact b13 (fun g => by have := g.len; have := g.nums; have := g.turns; omega) (rc2 c A cap w hl h1 h2)
  by_cases h3 : (c.add < 0)
  · exact b13 (fun g => by have := g.len; have := g.nums; have := g.turns; omega) (rc3 c A cap w hl h1 h2 h3)
  by_cases h4 : ((10000000 : Int) < c.add)
  · exact b13 (fun g => by have := g.len; have := g.nums; have := g.turns; omega) (rc4 c A cap w hl h1 h2 h3 h4)
  by_cases h5 : (c.free < 0)
  · exact b13 (fun g => by have := g.len; have := g.nums; have := g.turns; omega) (rc5 c A cap w hl h1 h2 h3 h4 h5)
  by_cases h6 : ((10000000 : Int) < c.free)
  · exact b13 (fun g => by have := g.len; have := g.nums; have := g.turns; omega) (rc6 c A cap w hl h1 h2 h3 h4 h5 h6)
  by_cases h7 : (c.since < 0)
  · exact b13 (fun g => by have := g.len; have := g.nums; have := g.turns; omega) (rc7 c A cap w hl h1 h2 h3 h4 h5 h6 h7)
  by_cases h8 : (c.last < c.since)
  · exact b13 (fun g => by have := g.len; have := g.nums; have := g.turns; omega) (rc8 c A cap w hl h1 h2 h3 h4 h5 h6 h7 h8)
  by_cases h9 : ((1000000000000 : Int) < c.last)
  · exact b13 (fun g => by have := g.len; have := g.nums; have := g.turns; omega) (rc9 c A cap w hl h1 h2 h3 h4 h5 h6 h7 h8 h9)
  by_cases h10 : (c.turn < -1)
  · exact b13 (fun g => by have := g.len; have := g.nums; have := g.turns; omega) (rc10 c A cap w hl h1 h2 h3 h4 h5 h6 h7 h8 h9 h10)
  by_cases h11 : ((c.left.length : Int) ≤ c.turn)
  · exact b13 (fun g => by have := g.len; have := g.nums; have := g.turns; omega) (rc11 c A cap w hl h1 h2 h3 h4 h5 h6 h7 h8 h9 h10 h11)
  by_cases h12 : (c.fallen < -1)
  · exact b13 (fun g => by have := g.len; have := g.nums; have := g.turns; omega) (rc12 c A cap w hl h1 h2 h3 h4 h5 h6 h7 h8 h9 h10 h11 h12)
  by_cases h13 : ((c.left.length : Int) ≤ c.fallen)
  · exact b13 (fun g => by have := g.len; have := g.nums; have := g.turns; omega) (rc13 c A cap w hl h1 h2 h3 h4 h5 h6 h7 h8 h9 h10 h11 h12 h13)
  by_cases h14 : 0 ≤ c.turn
  · by_cases h15 : 0 ≤ c.fallen
    · exact b13 (fun g => by have := g.turns; omega) (rc14 c A cap w hl h1 h2 h3 h4 h5 h6 h7 h8 h9 h10 h11 h12 h13 h14 h15)
    · exact rok1 c A cap w h h1 h2 h3 h4 h5 h6 h7 h8 h9 h10 h11 h12 h13 h14 h15
  · cases h15 : (c.since != 0)
    · exact rok2 c A cap w h h1 h2 h3 h4 h5 h6 h7 h8 h9 h10 h11 h12 h13 h14 h15
    · exact b13 (fun g => by have := g.turns.2.2.2.2.2 (by omega); rw [this] at h15; simp at h15) (rc15 c A cap w hl h1 h2 h3 h4 h5 h6 h7 h8 h9 h10 h11 h12 h13 h14 h15)

theorem row_cells {w : World} {a : Addr} {xs : List Int} (h : Row w (some a) xs) : ∀ j u, (xs.map (Value.int .i64))[j]? = some u → w.cell? (a.add j) = some u := by
  intro j u hu
  simp only [List.getElem?_map, Option.map_eq_some_iff] at hu
  obtain ⟨x, hx, rfl⟩ := hu
  have hj := (List.getElem?_eq_some_iff.1 hx).1
  obtain ⟨b, off, e, _, hc⟩ := h.2 (by omega)
  cases e
  have := hc j hj
  rw [hx] at this
  unfold Addr.add
  split
  · next h0 => subst h0; simpa using this
  · simpa using this

theorem app_nil (b n c c' : Nat) (ty : TypeId) (w : World) : (Builtin.append_ #[22, 22] ty #[.slice (some ⟨b, 0, none⟩) n c, .slice none 0 c']).run Try.prog w = if n ≤ c then .ok (.slice (some ⟨b, 0, none⟩) n c) w else (Builtin.append_ #[22, 22] ty #[.slice (some ⟨b, 0, none⟩) n c, .slice none 0 c']).run Try.prog w := by
  obtain ⟨i0, hi, hz0, hz1, hz2⟩ := info_parts infoInt
  split
  · next h =>
    have := run_append_room_src (P := Try.prog) w 22 22 ty 3 i0 Try.underlying22 hi b 0 n c (.slice none 0 c') 0 [] (Src.ofNil w Try.underlying22 c') (by omega) (by simp) (by simp)
    simpa [World.setCells] using this
  · rfl
theorem app_nil0 (b c' : Nat) (ty : TypeId) (w : World) : (Builtin.append_ #[22, 22] ty #[.slice (some ⟨b, 0, none⟩) 0 0, .slice none 0 c']).run Try.prog w = .ok (.slice (some ⟨b, 0, none⟩) 0 0) w := by
  rw [app_nil]; simp

theorem made2 (w : World) (o p : Obj) : OwnI (((w.alloc o).alloc p).alloc (.cells #[] 3)) (w.heap.size + 1 + 1) (.slice (some ⟨w.heap.size + 1 + 1, 0, none⟩) 0 0) [] := by
  have h := World.ownsRow_made (base := w.heap.size + 1 + 1) (e := 3) (size := 1) ((w.alloc o).alloc p) #[] 0 (by simp) (Nat.zero_le _) rfl
  simp only [World.size_alloc] at h
  exact h
set_option maxHeartbeats 1000000 in
theorem refOwn_any (c : Clk) (A : Option Addr) (cap : Nat) (w : World) (h : Row w A c.left) :
    Calls Try.prog 33 #[c.val A cap] w (CloneC w c) := by
  have h3 := (((Ext.rfl w).alloc (.cells (c.cells (.slice A c.left.length cap)) 24)).alloc (.cells (Clk.zero.cells (.slice none 0 0)) 24)).alloc (.cells #[] 3)
  have hl := h.1
  obtain ⟨i0, hi, hz0, hz1, hz2⟩ := info_parts infoInt
  have hmade := World.ownsRow_made (base := w.heap.size + 1 + 1) (e := 3) (size := 1) ((w.alloc (.cells (c.cells (.slice A c.left.length cap)) 24)).alloc (.cells (Clk.zero.cells (.slice none 0 0)) 24)) #[] 0 (by simp) (Nat.zero_le _) rfl
  simp only [World.size_alloc] at hmade
  cases A with
  | none =>
    have h0 : c.left = [] := by
      cases e : c.left with
      | nil => rfl
      | cons x r => obtain ⟨_, _, e2, _⟩ := h.2 (by rw [e]; simp); cases e2
    have hl0 : c.left.length = 0 := by rw [h0]; rfl
    have H0 := Lib.hid h0
    clear h0
    have happ := app_nil0 (w.heap.size + 1 + 1) cap
    go_enter Try.func33, Try.ntmps33
    go_wp2
    refine bodyPost_ret (v := .agg (c.cells (.slice (some ⟨w.heap.size + 1 + 1, 0, none⟩) 0 0))) ?_ rfl ⟨_, rfl, ?_, ?_⟩
    · simp [results, Try.results33, go_sem]
    · rw [H0.out]
      exact (made2 w _ _).lower (by omega)
    · exact (((Ext.rfl w).alloc _).alloc _).alloc _
  | some a =>
    have HN := Lib.hid (row_cells h)
    clear h
    go_enter Try.func33, Try.ntmps33
    go_wp2_with (at_builtin; refine wpList_append_own _ rfl _ _ 22 rfl (w.heap.size + 1 + 1) 3 i0 (.int .i64 0) 1 8 Try.underlying22 hi hz0 hz1 hz2 rfl (by decide) _ _ _ rfl hmade a c.left.length cap (c.left.map (Value.int .i64)) rfl ?qc1 ?qc2 ?qc3 ?qc4 ?qc5 ?qc6 ?_)
    case qc1 => simp
    case qc2 => exact fun j u hj => Lib.cell?_alloc_some _ (Lib.cell?_alloc_some _ (Lib.cell?_alloc_some _ (HN.out j u hj)))
    case qc3 => intro u hu; obtain ⟨x, _, rfl⟩ := List.mem_map.1 hu; rfl
    case qc4 => unfold maxLen; omega
    case qc5 => omega
    case qc6 => simp
    intro v' w1 hown hgrow hnil
    have b1 : w1.heap[w.heap.size]? = some (.cells (c.cells (.slice (some a) c.left.length cap)) 24 (0, 0)) := (hgrow.block _ (by simp; omega) (by simp [Value.ownBlock] <;> omega)).trans ((Below.heap_alloc _ _ _ (by simp; omega)).trans (new_at2 w _ _).1)
    have b2 : w1.heap[w.heap.size + 1]? = some (.cells (Clk.zero.cells (.slice none 0 0)) 24 (0, 0)) := (hgrow.block _ (by simp) (by simp [Value.ownBlock] <;> omega)).trans ((Below.heap_alloc _ _ _ (by simp)).trans (new_at2 w _ _).2)
    have z0 : w.heap.size < w1.heap.size := (Array.getElem?_eq_some_iff.1 b1).1
    have z1 : w.heap.size + 1 < w1.heap.size := (Array.getElem?_eq_some_iff.1 b2).1
    have E1 : Ext w w1 := h3.grown hgrow (by simp; omega) (by intro k hk; simp [Value.ownBlock] at hk; omega)
    have ho : OwnI w1 (w.heap.size + 1 + 1) v' c.left := by simpa [OwnI] using hown
    obtain ⟨A1, c1, hv, _, _⟩ := ho.row hl
    subst hv
    clear hown hgrow
    rw [show w1 = (w1.box w.heap.size (c.cells (.slice (some a) c.left.length cap)) 24).box (w.heap.size + 1) (Clk.zero.cells (.slice none 0 0)) 24 from by rw [World.box_self b1, World.box_self b2]]
    clear b1 b2
    go_wp2
    refine bodyPost_ret (v := .agg (c.cells (.slice A1 c.left.length c1))) ?_ rfl ⟨_, rfl, ?_, ?_⟩
    · simp [results, Try.results33, go_sem, z0, z1]
    · exact ((ho.box (by omega) _ _).box (by omega) _ _).lower (by omega)
    · exact (E1.box (by omega) _ _).box (by omega) _ _

theorem refTold_any (c : Clk) (A : Option Addr) (cap : Nat) (now : Int) (w : World) (h : Row w A c.left) :
    Calls Try.prog 35 #[c.val A cap, .int .i64 now] w fun e w' => e = .returned (.int .i64 (toldN c now)) ∧ Ext w w' := by
  have h1 := (Ext.rfl w).alloc (.cells (c.cells (.slice A c.left.length cap)) 24)
  have hcl := refCheck_any c A cap _ (h.ext h1)
  clear h
  unfold checkN at hcl
  have K : toldN c now = if c.ok = false then 13 else if now < 0 ∨ 1000000000000 < now then 2 else if now < c.last then 9 else 0 := by
    unfold toldN
    cases c.ok with
    | false => rfl
    | true =>
      simp only [Bool.true_eq_false, if_false]
      by_cases h : now < 0 ∨ 1000000000000 < now
      · rw [if_pos h, if_pos (by simp [btw]; omega)]
      · rw [if_neg h, if_neg (by simp [btw]; omega)]
  rw [K]
  clear K
  cases e1 : c.ok <;> by_cases e2 : now < 0 <;> by_cases e3 : 1000000000000 < now <;> by_cases e4 : now < c.last
  all_goals
    rw [e1] at hcl
    go_enter Try.func35, Try.ntmps35
    go_wp2_with (go_at_call 14; refine hcl.mono ?_; rintro e w1 ⟨rfl, hb⟩; have k1 := hb.box1; obtain ⟨k1, f1⟩ := box_at k1)
    all_goals (go_ret; exact ⟨ret_int (by simp_all), h1.tr hb⟩)
end Go.Proofs.Ytbejaccdpikfhaa
