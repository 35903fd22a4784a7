/- errors.As as a function that is known by its contract, in terms of values without addresses. -/
import Derived.Test.YtpagljdnkolhdaaGreatDoorAsWalk
import Derived.Test.YtpagljdnkolhdaaGreatDoorPv8
set_option linter.unusedSimpArgs false
set_option linter.unusedVariables false
namespace Go.Proofs.YtpagljdnkolhdaaGreatDoor
open Go.RowKit Go.Pv

/-- The package-level variable that errors.As reads. -/
def asFix : List (Nat × Nat × Value) := [(0, 0, .iface 198 (.agg #[.pointer (some ⟨1, 84, none⟩)]))]
noncomputable def asHook : Go.Pv.Callee := fun f args bor => match Nat.beq f 92 with
  | true => match args with
    | [.iface t (.agg [a, b]), .iface pt (.ref (.bor 0) 0 0)] => match bor with
      | [.cells [c, d]] => match Nat.beq t 135 && (Nat.beq pt 137 && (a.one (borG [.cells [c, d]]) && b.one (borG [.cells [c, d]]))) with
        | true => some (.ret (.v (.bool true)) [.cells [a, b]])
        | false => none
      | _ => none
    | [.v .nilIface, _] => some (.ret (.v (.bool false)) bor)
    | _ => none
  | false => none

theorem new_perm' {w : World} {E : Env} {G : Get} (g : Go.Pv.Good w E G) (arr : Array Value) (t : TypeId) {k : Key} (hk : (G k).2.boxy) :
    ∃ E', Evo w E G (w.alloc (.cells arr t)) E' G ∧ Go.Pv.Good (w.alloc (.cells arr t)) E' G ∧ E'.β k = E.β k := by
  obtain ⟨E', M, g', _⟩ := new_perm g arr t
  exact ⟨E', M, g', (M.keep k rfl hk).2.1⟩

theorem asHook_ok : CallOk Tryz.prog asFix asHook := by
  intro f args bor r h w E us g hfx rl
  unfold asHook at h
  split at h
  case h_2 => cases h
  rename_i hf
  have hf := Nat.eq_of_beq_eq_true hf
  subst hf
  split at h
  · rename_i t a b pt
    split at h
    case h_2 => cases h
    rename_i c d
    split at h
    case h_2 => cases h
    rename_i hc
    simp only [Bool.and_eq_true, Nat.beq_eq] at hc
    obtain ⟨rfl, rfl, ha, hb⟩ := hc
    cases h
    simp only [RelL, Rel] at rl
    obtain ⟨u0, us1, rfl, ⟨v0, rfl, xs, rfl, x, xs1, rfl, rx, y, xs2, rfl, ry, rfl⟩, u1, us2, rfl, ⟨v1, rfl, hv1⟩, rfl⟩ := rl
    have hk0 : borG [.cells [c, d]] (.bor 0) = (0, .cells [c, d]) := rfl
    rcases hv1 with hv1 | ⟨_, _, rfl⟩
    · rw [hk0] at hv1; exact absurd hv1 (Nat.not_lt_zero _)
    obtain ⟨vs, rest, ty, hh, rl, _, _, h1r⟩ := g.lies (k := .bor 0) (gn := 0) (cs := [c, d]) rfl
    have hl := rl.length
    have hg : w.cell? ⟨0, 0, none⟩ = _ := (hfx _ (List.mem_singleton.2 rfl)).2
    have ox := one_rel ha rx
    have oy := one_rel hb ry
    refine (as_hit x y (E.β (.bor 0)) _ ty w hg hh (by simp [hl]) ox oy).mono ?_
    rintro e w' ⟨rfl, rfl⟩
    have bx : (borG [.cells [c, d]] (.bor 0)).2.boxy := by rw [hk0]; trivial
    obtain ⟨E1, M1, g1, b1⟩ := new_perm' (k := .bor 0) g #[.pointer (some ⟨E.β (.bor 0), 0, none⟩)] 137 bx
    obtain ⟨E2, M2, g2, b2⟩ := new_perm' (k := .bor 0) g1 #[.pointer (some ⟨1, 137, none⟩), .pointer (some ⟨w.heap.size, 0, none⟩), .int .u64 150] 177 bx
    obtain ⟨E3, M3, g3, b3⟩ := new_perm' (k := .bor 0) g2 #[.pointer (some ⟨1, 137, none⟩), .pointer (some ⟨w.heap.size, 0, none⟩), .int .u64 150] 177 bx
    obtain ⟨E4, M4, g4, b4⟩ := new_perm' (k := .bor 0) g3 #[x, y] 135 bx
    have hβ : E4.β (.bor 0) = E.β (.bor 0) := by rw [b4, b3, b2, b1]
    have hlt : E.β (.bor 0) < w.heap.size := (Array.getElem?_eq_some_iff.1 hh).1
    have M := ((M1.trans M2).trans M3).trans M4
    have hh4 : ((((w.alloc (.cells #[.pointer (some ⟨E.β (.bor 0), 0, none⟩)] 137)).alloc (.cells #[.pointer (some ⟨1, 137, none⟩), .pointer (some ⟨w.heap.size, 0, none⟩), .int .u64 150] 177)).alloc (.cells #[.pointer (some ⟨1, 137, none⟩), .pointer (some ⟨w.heap.size, 0, none⟩), .int .u64 150] 177)).alloc (.cells #[x, y] 135)).heap[E4.β (.bor 0)]? = some (.cells (vs ++ rest).toArray ty (0, 0)) := by
      rw [hβ, Below.heap_alloc _ _ _ (by simp; omega), Below.heap_alloc _ _ _ (by simp; omega), Below.heap_alloc _ _ _ (by simp; omega), Below.heap_alloc _ _ _ hlt]
      exact hh
    have r4 : RelL _ E4 (borG [.cells [c, d]]) [a, b] [x, y] := RelL.mono M.toMono _ _ (relL_cons rx (relL_cons ry relL_nil))
    obtain ⟨M5, g5⟩ := set_block (vs' := [x, y] ++ rest) g4 (k := .bor 0) (gn := 0) (cs := [c, d]) (cs' := [a, b]) rfl hh4 ⟨[x, y], rest, rfl, r4⟩ (by
      intro v hv
      simp only [List.mem_append, List.mem_cons, List.not_mem_nil, or_false] at hv
      rcases hv with (rfl | rfl) | hv
      · exact ox
      · exact oy
      · exact h1r v hv) (by simp [hl]; omega)
    have e5 : (x :: y :: (vs ++ rest).toArray.toList.drop 2).toArray = ([x, y] ++ rest).toArray := by
      match vs, hl with
      | [v1, v2], _ => simp
    rw [hβ] at M5 g5
    rw [e5]
    refine ⟨_, E4, upd1 (borG [.cells [c, d]]) (.bor 0) (0, .cells [a, b]), rfl, ?_, M.trans M5, g5, by simp only [Rel]⟩
    intro i
    cases i with
    | zero => rfl
    | succ i => rw [upd1_ne _ _ (by simp), borG_bor]; simp
  · rename_i p
    cases h
    simp only [RelL, Rel] at rl
    obtain ⟨u0, us1, rfl, rfl, u1, us2, rfl, _, rfl⟩ := rl
    refine (as_nil u1 w).mono ?_
    rintro e w' ⟨rfl, rfl⟩
    exact ⟨_, E, borG bor, rfl, fun i => borG_bor _ _, Evo.rfl, g, by simp only [Rel]⟩
  · cases h
end Go.Proofs.YtpagljdnkolhdaaGreatDoor
