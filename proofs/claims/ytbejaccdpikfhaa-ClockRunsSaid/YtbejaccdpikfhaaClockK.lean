/- Run of package clock. -/
import Derived.Test.YtbejaccdpikfhaaClockJ
namespace Go.Proofs.Ytbejaccdpikfhaa
open Go.RowKit

def runR (c : Clk) (l : List Tk) : Clk × Int × Int :=
  if c.ok = false then (Clk.zero, 13, 0) else if (10000 : Int) < l.length then (Clk.zero, 4, 10000) else foldR c l 0

set_option maxHeartbeats 4000000 in
theorem Run_any (c : Clk) (A : Option Addr) (cap : Nat) (B : Option Addr) (capB : Nat) (l : List Tk) (w : World) (h : Row w A c.left) (hB : TRow w B l) (hs : (foldR c l 0).1.left.length * 8 ≤ 140737488351232) :
    Calls Try.prog 24 #[c.val A cap, .slice B l.length capB] w (FoldP (fun _ => True) w (runR c l)) := by
  have E3 := (((Ext.rfl w).alloc (.cells (c.cells (.slice A c.left.length cap)) 24)).alloc (.cells (Clk.zero.cells (.slice none 0 0)) 24)).alloc (.cells #[.int .i64 0, .int .i64 0] 41)
  have hch := Check_any c A cap _ (h.ext E3)
  have hl := h.1
  have hlB := hB.1
  unfold checkN at hch
  obtain ⟨m1, m2, m3, m4, m5, m6⟩ := ne3 w.heap.size
  have HROW := Lib.hid h
  have HTROW := Lib.hid hB
  clear h hB
  cases e1 : c.ok
  · rw [e1] at hch
    have key : runR c l = (Clk.zero, 13, 0) := by simp [runR, e1]
    go_enter Try.func24, Try.ntmps24
    go_wp2_with (go_at_call 13; refine hch.mono ?_; rintro e w1 ⟨rfl, hb⟩; have y0 := (re3 hb).2.1; have y1 := (re3 hb).2.2.1; have y2 := (re3 hb).2.2.2; rw [(re3 hb).1])
    refine bodyPost_ret (v := .tuple #[.agg (Clk.zero.cells (.slice none 0 0)), .agg #[.int .i64 13, .int .i64 0]]) ?_ rfl ?_
    · simp [results, Try.results24, go_sem, y0, y1, y2]
    · exact FoldP.of key ⟨none, 0, rfl, by simp, Row.nil _ _, (((E3.tr hb).box (by omega) _ _).box (by omega) _ _).box (by omega) _ _, fun _ _ _ => .inl trivial⟩
  · rw [e1] at hch
    have E1 := Lib.hid e1
    clear e1
    by_cases hn : (10000 : Int) < (l.length : Int)
    · have key : runR c l = (Clk.zero, 4, 10000) := by simp only [runR, E1.out]; rw [if_neg (by simp), if_pos hn]
      have KEY := Lib.hid key
      clear key
      go_enter Try.func24, Try.ntmps24
      go_wp2_with (go_at_call 13; refine hch.mono ?_; rintro e w1 ⟨rfl, hb⟩; have y0 := (re3 hb).2.1; have y1 := (re3 hb).2.2.1; have y2 := (re3 hb).2.2.2; rw [(re3 hb).1])
      refine bodyPost_ret (v := .tuple #[.agg (Clk.zero.cells (.slice none 0 0)), .agg #[.int .i64 4, .int .i64 10000]]) ?_ rfl ?_
      · simp [results, Try.results24, go_sem, y0, y1, y2]
      · exact FoldP.of KEY.out ⟨none, 0, rfl, by simp, Row.nil _ _, (((E3.tr hb).box (by omega) _ _).box (by omega) _ _).box (by omega) _ _, fun _ _ _ => .inl trivial⟩
    · have key : runR c l = foldR c l 0 := by simp only [runR, E1.out]; rw [if_neg (by simp), if_neg hn]
      have KEY := Lib.hid key
      clear key
      obtain ⟨r, hr0⟩ : ∃ r, foldR c l 0 = r := ⟨_, rfl⟩
      have hfold := fun (n : Nat) (A : Option Addr) (cap : Nat) (w : World) (h : Row w A c.left) (hcap : c.left.length ≤ cap) (hA : ∀ g off, A = some ⟨g, off, none⟩ → n + 1 + 1 < g ∧ g < w.heap.size) (hB : TRow w B l) => fold_any (fun g => n + 1 + 1 < g) c A cap B capB l w h hcap hA hB
      rw [hr0] at hfold hs
      have HR0 := Lib.hid hr0
      clear hr0
      go_enter Try.func24, Try.ntmps24
      go_wp2_with (first
        | (go_at_call 13; refine hch.mono ?_; rintro e w1 ⟨rfl, hb⟩; have y0 := (re3 hb).2.1; have y1 := (re3 hb).2.2.1; have y2 := (re3 hb).2.2.2; have e1 := E3.tr hb; have RE := Lib.hid (re3 hb).1; rw [(re3 hb).1])
        | (go_at_call 31; rw [← RE.out]; refine (own_any c A cap w1 (HROW.out.ext e1)).mono ?_; rintro e w2 ⟨v, rfl, ho, hb2⟩; obtain ⟨A1, c1, hv, hc1, hr1⟩ := ho.row hl; subst hv; have e2 := e1.tr hb2; rw [RE.out] at hb2; have RB := reb3 hb2 y0 y1 y2 m1 m3 m5; have x0 := RB.2.1; have x1 := RB.2.2.1; have x2 := RB.2.2.2; have RE2 := Lib.hid RB.1; clear RB; rw [RE2.out])
        | (go_at_call 42; rw [← RE2.out]; refine (hfold w.heap.size A1 c1 w2 hr1 hc1 (fun g off e => ⟨Nat.lt_of_lt_of_le y2 (ho.lt g (by simp [Value.ownBlock, e])).1, (ho.lt g (by simp [Value.ownBlock, e])).2⟩) (HTROW.out.ext e2)).mono ?_; rintro e w3 ⟨A2, c2, rfl, hc2, hr2, hb3, hs3⟩; have HS3 := Lib.hid hs3; clear hs3; have e3 := e2.tr hb3; rw [RE2.out] at hb3; have RB := reb3 hb3 x0 x1 x2 m1 m3 m5; have u0 := RB.2.1; have u1 := RB.2.2.1; have u2 := RB.2.2.2; rw [RB.1]; clear RB))
      have z3 : w.heap.size ≠ w3.heap.size := by omega
      go_region
      all_goals go_wp2
      all_goals
        refine bodyPost_ret (v := .tuple #[.agg (r.1.cells (.slice A2 r.1.left.length c2)), .agg #[.int .i64 r.2.1, .int .i64 r.2.2]]) ?_ rfl ?_
        · simp [results, Try.results24, go_sem, u0, u1, u2]
        · refine FoldP.of (KEY.out.trans HR0.out) ⟨A2, c2, rfl, hc2, ?_, ?_, fun _ _ _ => .inl trivial⟩
          · have fr : ∀ g off, A2 = some ⟨g, off, none⟩ → w.heap.size + 1 + 1 < g := fun g off e => by rcases HS3.out g off e with h | h <;> omega
            exact Row.ext (((hr2.box (fun g off e => by have := fr g off e; omega) _ _).box (fun g off e => by have := fr g off e; omega) _ _).box (fun g off e => by have := fr g off e; omega) _ _) ((((Ext.rfl _).alloc _).alloc _).drew)
          · exact ((((((e3.box (by omega) _ _).box (by omega) _ _).box (by omega) _ _).alloc _).alloc _)).drew
end Go.Proofs.Ytbejaccdpikfhaa
