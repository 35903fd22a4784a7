/- The walks of package clock's inner functions. -/
import Derived.Test.YtbejaccdpikfhaaBase
namespace Go.Proofs.Ytbejaccdpikfhaa
open Go.RowKit

def btw (n lo hi : Int) : Bool := decide (lo ≤ n) && decide (n ≤ hi)
theorem btw_iff {n lo hi : Int} : btw n lo hi = true ↔ lo ≤ n ∧ n ≤ hi := by simp [btw]

theorem btw_any (n lo hi : Int) (w : World) :
    Calls Try.prog 45 #[.int .i64 n, .int .i64 lo, .int .i64 hi] w fun e w' => e = .returned (.bool (btw n lo hi)) ∧ w = w' := by
  unfold btw
  by_cases h1 : lo ≤ n
  · have hd : decide (lo ≤ n) = true := by simpa using h1
    go_enter Try.func45, Try.ntmps45
    go_wp2
    go_ret
    simp [h1]
  · have hd : decide (lo ≤ n) = false := by simpa using h1
    go_enter Try.func45, Try.ntmps45
    go_wp2
    go_ret
    simp [h1]

def CloneP (w : World) (xs : List Int) (e : Ending) (w' : World) : Prop := ∃ v, e = .returned v ∧ OwnI w' w.heap.size v xs ∧ Ext w w'

theorem clone_any (A : Option Addr) (c : Nat) (xs : List Int) (w : World) (h : Row w A xs) :
    Calls Try.prog 39 #[.slice A xs.length c] w (CloneP w xs) := by
  have hl := h.1
  obtain ⟨i0, hi, hz0, hz1, hz2⟩ := info_parts infoInt
  cases A with
  | none =>
    have h0 : xs = [] := by
      cases xs with
      | nil => rfl
      | cons x r => obtain ⟨_, _, e, _⟩ := h.2 (by simp); cases e
    subst h0
    have hn : ∀ (w : World) (a : Option Addr) (n c n' c' : Nat), (binOp .eql 22 (.slice a n c) (.slice none n' c')).run Try.prog w = .ok (.bool a.isNone) w := fun w a n c n' c' => Lib.run_eql_slice_nil w _ _ a n c n' c' Try.underlying22
    go_enter Try.func39, Try.ntmps39
    go_wp2
    go_ret
    exact ⟨_, rfl, OwnI.nil _ _, Ext.rfl _⟩
  | some a =>
    have hnews : ∀ j u, (xs.map (Value.int .i64))[j]? = some u → w.cell? (a.add j) = some u := by
      intro j u hu
      simp only [List.getElem?_map, Option.map_eq_some_iff] at hu
      obtain ⟨x, hx, rfl⟩ := hu
      have hj := (List.getElem?_eq_some_iff.1 hx).1
      obtain ⟨b, off, e, _, hc⟩ := h.2 (by omega)
      cases e
      have := hc j hj
      rw [hx] at this
      unfold Addr.add
      split
      · next h0 => subst h0; simpa using this
      · simpa using this
    have HN := Lib.hid hnews
    clear hnews h
    have hn : ∀ (w : World) (a : Option Addr) (n c n' c' : Nat), (binOp .eql 22 (.slice a n c) (.slice none n' c')).run Try.prog w = .ok (.bool a.isNone) w := fun w a n c n' c' => Lib.run_eql_slice_nil w _ _ a n c n' c' Try.underlying22
    go_enter Try.func39, Try.ntmps39
    go_wp2_with (at_builtin; refine wpList_append_own _ rfl _ _ 22 rfl w.heap.size 3 i0 (.int .i64 0) 1 8 Try.underlying22 hi hz0 hz1 hz2 rfl (by decide) _ _ _ rfl (World.ownsRow_made w #[] 0 (Nat.le_refl _) (Nat.zero_le _) rfl) a xs.length c (xs.map (Value.int .i64)) rfl ?qc1 ?qc2 ?qc3 ?qc4 ?qc5 ?qc6 ?_)
    case qc1 => simp
    case qc2 => exact fun j u hj => Lib.cell?_alloc_some _ (HN.out j u hj)
    case qc3 => intro u hu; obtain ⟨x, _, rfl⟩ := List.mem_map.1 hu; rfl
    case qc4 => unfold maxLen; omega
    case qc5 => omega
    case qc6 => simp
    intro v' w1 hown hgrow hnil
    go_wp2
    go_ret
    have hown' : OwnI w1 w.heap.size v' xs := by simpa [OwnI] using hown
    exact ⟨_, rfl, hown', ((Ext.rfl w).alloc _).grown hgrow (by simp) (by intro k hk; simp [Value.ownBlock] at hk; omega)⟩

theorem bad_any (n : Int) (w : World) :
    Calls Try.prog 44 #[.int .i64 n] w fun e w' => e = .returned (.bool (!btw n 0 1000000000)) ∧ w = w' := by
  go_enter Try.func44, Try.ntmps44
  go_wp2_with (go_at_call 45; refine (btw_any _ _ _ _).mono ?_; rintro e w' ⟨rfl, rfl⟩)
  go_ret
  simp

def badIdx (xs : List Int) : Int := match xs.findIdx? (fun x => !btw x 0 1000000000) with | some i => i | none => -1

theorem findIdx_hit (p : Int → Bool) (xs : List Int) (k : Nat) (h : k < xs.length) (hp : p (xs[k]?.getD 0) = true) (hb : ∀ j, j < k → p (xs[j]?.getD 0) = false) : xs.findIdx? p = some k := by
  rw [List.findIdx?_eq_some_iff_getElem]
  refine ⟨h, by simpa [getD_of h] using hp, fun j hj => ?_⟩
  have := hb j hj
  rw [getD_of (by omega)] at this
  simp [this]
theorem findIdx_miss (p : Int → Bool) (xs : List Int) (hb : ∀ j, j < xs.length → p (xs[j]?.getD 0) = false) : xs.findIdx? p = none := by
  rw [List.findIdx?_eq_none_iff]
  intro x hx
  obtain ⟨j, hj, rfl⟩ := List.mem_iff_getElem.1 hx
  have := hb j hj
  rwa [getD_of hj] at this

theorem index_any (A : Option Addr) (c : Nat) (xs : List Int) (w : World) (h : Row w A xs) :
    Calls Try.prog 50 #[.slice A xs.length c, .func (.func 44) #[] #[]] w fun e w' => e = .returned (.int .i64 (badIdx xs)) ∧ w = w' := by
  obtain ⟨hl, hrow⟩ := h
  go_enter Try.func50, Try.ntmps50
  go_wp2
  go_loop [5, 8] (fun _ i => ∃ k : Nat, k ≤ xs.length ∧ i = .int .i64 k ∧ (Hid (∀ j, j < k → (!btw (xs[j]?.getD 0) 0 1000000000) = false))) (fun _ i => xs.length - (intOf i).toNat)
  case atStart => exact ⟨0, Nat.zero_le _, rfl, fun j hj => absurd hj (Nat.not_lt_zero _)⟩
  case round =>
    obtain ⟨k, hk, rfl, hno⟩ := hrel
    by_cases hlt : k < xs.length
    · have hltz : (k : Int) < (xs.length : Int) := by omega
      obtain ⟨b, off, rfl, hb, hcell⟩ := hrow (by omega)
      have hc := hcell k hlt
      clear hcell
      generalize hy : xs[k]?.getD 0 = y at hc
      have HY := Lib.hid hy
      clear hy
      cases hq : (!btw y 0 1000000000) with
      | true =>
        have hcall := bad_any y
        rw [hq] at hcall
        have HQ := Lib.hid hq
        clear hq
        go_wp2_with (go_at_call 44; refine (hcall _).mono ?_; rintro e w' ⟨rfl, rfl⟩)
        go_ret
        exact ⟨ret_int (by rw [badIdx, findIdx_hit _ xs k hlt (by rw [HY.out]; exact HQ.out) hno.out]), rfl⟩
      | false =>
        have hcall := bad_any y
        rw [hq] at hcall
        have HQ := Lib.hid hq
        clear hq
        go_wp2_with (go_at_call 44; refine (hcall _).mono ?_; rintro e w' ⟨rfl, rfl⟩)
        go_round
        case rel =>
          refine ⟨k + 1, by omega, by go_num, fun j hj => ?_⟩
          by_cases e : j = k
          · subst e; rw [HY.out]; exact HQ.out
          · exact hno.out j (by omega)
        case measure => simp [intOf]; omega
    · obtain rfl : k = xs.length := by omega
      have hd : decide ((xs.length : Int) < (xs.length : Int)) = false := by simp
      go_wp2
      go_ret
      exact ⟨ret_int (by rw [badIdx, findIdx_miss _ xs hno.out]), rfl⟩

theorem contains_any (A : Option Addr) (c : Nat) (xs : List Int) (w : World) (h : Row w A xs) :
    Calls Try.prog 46 #[.slice A xs.length c, .func (.func 44) #[] #[]] w fun e w' => e = .returned (.bool (decide (0 ≤ badIdx xs))) ∧ w = w' := by
  have hcall := index_any A c xs w h
  go_enter Try.func46, Try.ntmps46
  go_wp2_with (go_at_call 50; refine hcall.mono ?_; rintro e w' ⟨rfl, rfl⟩)
  go_ret
  exact ⟨rfl, rfl⟩

theorem table_any (w : World) :
    Calls Try.prog 48 #[] w fun e w' => e = .returned (.agg #[.func (.func 51) #[] #[], .func (.func 52) #[] #[]]) ∧ Ext w w' := by
  go_enter Try.func48, Try.ntmps48
  go_wp2
  refine bodyPost_ret (v := .agg #[.func (.func 51) #[] #[], .func (.func 52) #[] #[]]) ?_ rfl ⟨rfl, ?_⟩
  · simp [results, Try.results48, go_sem]
  · repeat (first | (with_reducible exact (Ext.rfl w).alloc _) | (refine Ext.set ?_ (by simp <;> omega) _))
theorem t1_any (b : Bool) (w : World) :
    Calls Try.prog 51 #[.bool b] w fun e w' => e = .returned (.int .i64 (if b then 13 else 0)) ∧ w = w' := by
  cases b
  all_goals
    go_enter Try.func51, Try.ntmps51
    go_wp2
    go_ret
    exact ⟨rfl, rfl⟩
theorem t2_any (b : Bool) (w : World) :
    Calls Try.prog 52 #[.bool b] w fun e w' => e = .returned (.int .i64 (if b then 0 else 13)) ∧ w = w' := by
  cases b
  all_goals
    go_enter Try.func52, Try.ntmps52
    go_wp2
    go_ret
    exact ⟨rfl, rfl⟩
theorem idx_any (b : Bool) (w : World) :
    Calls Try.prog 49 #[.bool b] w fun e w' => e = .returned (.int .i64 (if b then 1 else 0)) ∧ w = w' := by
  cases b
  all_goals
    go_enter Try.func49, Try.ntmps49
    go_wp2
    go_ret
    exact ⟨rfl, rfl⟩
end Go.Proofs.Ytbejaccdpikfhaa
