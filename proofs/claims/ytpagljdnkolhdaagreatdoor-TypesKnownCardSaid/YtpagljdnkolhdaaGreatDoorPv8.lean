/- How results leave a call: what it made and does not hand on is written no more; the rest gets the caller's names. -/
import Derived.Test.YtpagljdnkolhdaaGreatDoorPv7
import Derived.Recover
set_option linter.unusedSimpArgs false
set_option linter.unusedVariables false
namespace Go.Pv
open Go.RowKit

/-- What becomes of the variables that are not handed on. -/
def sealG (G : Get) (L : List Key) : Get
  | .loc s => if L.contains (.loc s) then G (.loc s) else ((G (.loc s)).1 + 1, .none)
  | .bor i => G (.bor i)
def cellsIn (w : World) (b : Nat) : Nat := match w.heap[b]? with
  | some (.cells arr _ _) => arr.size
  | _ => 1
open Classical in
noncomputable def sealE (w : World) (E : Env) (G : Get) (L : List Key) : Env :=
  ⟨E.β, fun b => if ∃ s, L.contains (.loc s) = false ∧ (G (.loc s)).2.boxy ∧ E.β (.loc s) = b then cellsIn w b else E.lim b⟩

section
variable {w : World} {E : Env} {G : Get} {L : List Key}
theorem seal_in {s : Nat} (h : L.contains (.loc s) = true) : sealG G L (.loc s) = G (.loc s) := by simp only [sealG, h, if_true]
theorem seal_out {s : Nat} (h : L.contains (.loc s) = false) : sealG G L (.loc s) = ((G (.loc s)).1 + 1, .none) := by simp only [sealG, h, Bool.false_eq_true, if_false]
theorem seal_live {k : Key} (h : (sealG G L k).2 ≠ .none) : sealG G L k = G k := by
  cases k with
  | bor i => rfl
  | loc s =>
    cases hc : L.contains (.loc s) with
    | true => exact seal_in hc
    | false => rw [seal_out hc] at h; exact absurd rfl h
theorem seal_gen {k : Key} (h : (G k).1 = (sealG G L k).1) : sealG G L k = G k := by
  cases k with
  | bor i => rfl
  | loc s =>
    cases hc : L.contains (.loc s) with
    | true => exact seal_in hc
    | false => rw [seal_out hc] at h; simp at h
/-- A block that is handed on keeps what is known of it. -/
theorem seal_lim (g : Good w E G) {k : Key} (h : (sealG G L k).2 ≠ .none) : (sealE w E G L).lim (E.β k) = E.lim (E.β k) := by
  have hk : (G k).2 ≠ .none := by rw [← seal_live h]; exact h
  unfold sealE
  simp only
  rw [if_neg]
  rintro ⟨s, hs, hb, e⟩
  have := g.inj (.loc s) k (Ent.ne_of_boxy hb) hk e
  subst this
  rw [seal_out hs] at h
  exact absurd rfl h
theorem seal_lim0 {b : Nat} (h : ∀ s, L.contains (.loc s) = false → (G (.loc s)).2.boxy → E.β (.loc s) ≠ b) : (sealE w E G L).lim b = E.lim b := by
  unfold sealE
  simp only
  rw [if_neg]
  rintro ⟨s, hs, hb, e⟩
  exact h s hs hb e
theorem seal_at {s : Nat} (hs : L.contains (.loc s) = false) (hb : (G (.loc s)).2.boxy) : (sealE w E G L).lim (E.β (.loc s)) = cellsIn w (E.β (.loc s)) := by
  unfold sealE
  simp only
  rw [if_pos ⟨s, hs, hb, rfl⟩]
theorem boxy_lim (g : Good w E G) {k : Key} (hb : (G k).2.boxy) : E.lim (E.β k) = 0 := by
  cases e : (G k).2 with
  | cells cs => obtain ⟨_, _, _, _, _, h⟩ := g.cells k cs e; exact h
  | map ks vs => obtain ⟨_, _, _, _, _, h⟩ := g.map k ks vs e; exact h
  | none => rw [e] at hb; exact hb.elim
  | top n el sz => rw [e] at hb; exact hb.elim
theorem seal_pos (g : Good w E G) {b o : Nat} (h : o < E.lim b) : (sealE w E G L).lim b = E.lim b := by
  refine seal_lim0 fun s _ hb e => ?_
  have := boxy_lim g hb
  rw [e] at this
  omega
theorem seal_mono (g : Good w E G) : Mono w E G w (sealE w E G L) (sealG G L) := by
  refine ⟨fun k => ?_, fun k h hb => ?_, fun b es c h hh => ⟨by rw [seal_pos g h]; exact h, hh⟩, fun b o u h hc => ⟨by rw [seal_pos g h]; exact h, hc⟩, fun k n e sz h ht => ?_⟩
  · cases k with
    | bor i => exact Nat.le_refl _
    | loc s =>
      cases hc : L.contains (.loc s) with
      | true => rw [seal_in hc]; exact Nat.le_refl _
      | false => rw [seal_out hc]; exact Nat.le_succ _
  · rw [seal_gen h]; exact ⟨Ent.alike_boxy hb, rfl, fun _ h => h⟩
  · have hs := seal_gen h
    refine ⟨n, by rw [hs]; exact ht, Nat.le_refl _, fun _ => ⟨rfl, seal_lim g (by rw [hs, ht]; simp), fun arr t hh => ⟨arr, hh, rfl⟩⟩⟩
theorem seal_good (g : Good w E G) : Good w (sealE w E G L) (sealG G L) := by
  have M := seal_mono (L := L) g
  refine ⟨?_, ?_, ?_, ?_⟩
  · intro k cs h
    have hne : (sealG G L k).2 ≠ .none := by rw [h]; simp
    rw [seal_live hne] at h
    obtain ⟨vs, t, hh, r, h1, hl⟩ := g.cells k cs h
    exact ⟨vs, t, hh, r.mono M, h1, by show (sealE w E G L).lim (E.β k) = 0; rw [seal_lim g hne, hl]⟩
  · intro k n e sz h
    have hne : (sealG G L k).2 ≠ .none := by rw [h]; simp
    rw [seal_live hne] at h
    exact g.line k n e sz h
  · intro k ks vs h
    have hne : (sealG G L k).2 ≠ .none := by rw [h]; simp
    rw [seal_live hne] at h
    obtain ⟨es, c, hh, hk, r, hl⟩ := g.map k ks vs h
    exact ⟨es, c, hh, hk, RelL.mono M _ _ r, by show (sealE w E G L).lim (E.β k) = 0; rw [seal_lim g hne, hl]⟩
  · intro k k' h h' e
    have h1 := seal_live h
    have h2 := seal_live h'
    rw [h1] at h
    rw [h2] at h'
    exact g.inj k k' h h' e

theorem relC_of : ∀ {cs : List PV} {vs : List Value} {b o : Nat}, RelL w E G cs vs → (∀ (j : Nat) (v : Value), vs[j]? = some v → o + j < E.lim b ∧ w.cell? ⟨b, o + j, none⟩ = some v ∧ v.oneCell' = true) → RelC w E G cs b o
  | [], _, _, _, _, _ => by simp only [RelC]
  | p :: ps, vs, b, o, r, h => by
    simp only [RelL] at r
    obtain ⟨x, xs, rfl, r1, r2⟩ := r
    simp only [RelC]
    obtain ⟨h1, h2, h3⟩ := h 0 x rfl
    refine ⟨⟨h1, x, h2, h3, r1⟩, relC_of r2 fun j v hv => ?_⟩
    have := h (j + 1) v (by simpa using hv)
    rwa [show o + (j + 1) = o + 1 + j by omega] at this
theorem relR_chunks {sz b : Nat} : ∀ (n : Nat) {cs : List PV} {vs : List Value} {o : Nat}, RelL w E G cs vs → n * sz ≤ cs.length → (∀ (j : Nat) (v : Value), vs[j]? = some v → o + j < E.lim b ∧ w.cell? ⟨b, o + j, none⟩ = some v ∧ v.oneCell' = true) → RelR w E G (chunks sz n cs) b o sz
  | 0, _, _, _, _, _, _ => by simp only [chunks, RelR]
  | n + 1, cs, vs, o, r, hle, h => by
    rw [Nat.add_mul, Nat.one_mul] at hle
    simp only [chunks]
    rw [RelR_cons]
    have rest : RelR w E G (chunks sz n (cs.drop sz)) b (o + sz) sz := by
      refine relR_chunks n (RelL.drop sz r) (by simp; omega) fun j v hv => ?_
      rw [List.getElem?_drop] at hv
      have := h (sz + j) v hv
      rwa [show o + (sz + j) = o + sz + j by omega] at this
    refine ⟨?_, rest⟩
    split
    · rename_i e1
      subst e1
      cases cs with
      | nil => simp at hle
      | cons p ps =>
        simp only [RelL] at r
        obtain ⟨x, xs, rfl, r1, _⟩ := r
        obtain ⟨h1, h2, h3⟩ := h 0 x rfl
        have hna : ∀ l, p ≠ .agg l := by
          rintro l rfl
          simp only [Rel] at r1
          obtain ⟨_, rfl, _⟩ := r1
          simp [Value.oneCell'] at h3
        have hf : p.flat = [p] := by cases p <;> first | rfl | exact absurd rfl (hna _)
        simp only [List.getD_cons_zero]
        rw [hf]
        exact ⟨rfl, by simp only [RelC]; exact ⟨⟨h1, x, h2, h3, r1⟩, trivial⟩⟩
    · simp only [PV.flat]
      refine ⟨by simp; omega, relC_of (RelL.take sz r) fun j v hv => ?_⟩
      rw [List.getElem?_take] at hv
      split at hv
      · exact h j v hv
      · cases hv

theorem mine_spec {k : Key} {g : Nat} (h : mine G L k g = true) : ∃ s, k = .loc s ∧ g = (G k).1 ∧ L.contains (.loc s) = false := by
  cases k with
  | bor i => simp [mine] at h
  | loc s =>
    simp only [mine, Bool.and_eq_true, beq_iff_eq, Bool.not_eq_true'] at h
    exact ⟨s, rfl, h.1, h.2⟩
theorem frz_not_agg {inner : PV → PV} {p : PV} (h : ∀ cs, p ≠ .agg cs) : ∀ cs, frzW inner G L p ≠ .agg cs := by
  intro cs
  cases p <;> simp only [frzW]
  case agg l => exact absurd rfl (h l)
  case sl k g off n sz => repeat' split
                          all_goals simp
  case mref k g => repeat' split
                   all_goals simp
  all_goals simp
theorem flat_not_agg {p : PV} (h : ∀ cs, p ≠ .agg cs) : p.flat = [p] := by cases p <;> first | rfl | exact absurd rfl (h _)
theorem frz_one {inner : PV → PV} (g : Good w E G) {p : PV} (hp : ∀ cs, p ≠ .agg cs) (key : ∀ u, Rel w E G p u → Rel w (sealE w E G L) (sealG G L) (frzW inner G L p) u) {b o sz : Nat} (h : p.flat.length = sz ∧ RelC w E G p.flat b o) :
    (frzW inner G L p).flat.length = sz ∧ RelC w (sealE w E G L) (sealG G L) (frzW inner G L p).flat b o := by
  rw [flat_not_agg hp] at h
  rw [flat_not_agg (frz_not_agg hp)]
  refine ⟨h.1, ?_⟩
  have h2 := h.2
  simp only [RelC] at h2 ⊢
  obtain ⟨⟨hl, u, hc, ho, hr⟩, _⟩ := h2
  obtain ⟨h3, h4⟩ := (seal_mono (L := L) g).cell b o u hl hc
  exact ⟨⟨h3, u, h4, ho, key u hr⟩, trivial⟩
theorem relL_inner {inner : PV → PV} (hin : ∀ p u, Rel w E G p u → Rel w (sealE w E G L) (sealG G L) (inner p) u) : ∀ {ps : List PV} {vs : List Value}, RelL w E G ps vs → RelL w (sealE w E G L) (sealG G L) (ps.map inner) vs
  | [], vs, h => by simp only [RelL, List.map_nil] at h ⊢; exact h
  | p :: ps, vs, h => by
    simp only [RelL, List.map_cons] at h ⊢
    obtain ⟨x, xs, rfl, h1, h2⟩ := h
    exact ⟨x, xs, rfl, hin _ _ h1, relL_inner hin h2⟩
mutual
theorem frz_rel {inner : PV → PV} (hin : ∀ p u, Rel w E G p u → Rel w (sealE w E G L) (sealG G L) (inner p) u) (g : Good w E G) : ∀ (p : PV) (u : Value), Rel w E G p u → Rel w (sealE w E G L) (sealG G L) (frzW inner G L p) u
  | .any, u, h => by simp only [frzW, Rel]
  | .v x, u, h => by simp only [frzW, Rel] at h ⊢; exact h
  | .agg cs, u, h => by simp only [frzW, Rel] at h ⊢; obtain ⟨vs, e, k⟩ := h; exact ⟨vs, e, frz_relL hin g cs vs k⟩
  | .tup cs, u, h => by simp only [frzW, Rel] at h ⊢; obtain ⟨vs, e, k⟩ := h; exact ⟨vs, e, frz_relL hin g cs vs k⟩
  | .ref k gn off, u, h => by
    rw [show frzW inner G L (.ref k gn off) = .ref k gn off from by simp only [frzW]]
    exact Rel.mono (seal_mono g) _ _ h
  | .eptr cs off, u, h => by
    simp only [frzW, Rel] at h ⊢
    obtain ⟨b, o, e, k⟩ := h
    exact ⟨b, o, e, frz_relC hin g cs b o k⟩
  | .vec tok es, u, h => by
    simp only [frzW, Rel] at h ⊢
    rcases h with ⟨rfl, rfl, hu⟩ | ⟨b, o, c, sz, e, hl, ht, k⟩
    · exact .inl ⟨rfl, rfl, hu⟩
    · refine .inr ⟨b, o, c, sz, by rw [frzL_length]; exact e, by rw [frzL_length]; exact hl, by rw [frzL_length]; exact TokOk.mono (seal_mono g) ht, frz_relR hin g es b o sz k⟩
  | .fn f as cs, u, h => by simp only [frzW, Rel] at h ⊢; obtain ⟨xs, ys, e, k1, k2⟩ := h; exact ⟨xs, ys, e, frz_relL hin g as xs k1, frz_relL hin g cs ys k2⟩
  | .iface t p, u, h => by simp only [frzW, Rel] at h ⊢; obtain ⟨x, e, k⟩ := h; exact ⟨x, e, frz_rel hin g p x k⟩
  | .sl k gn off n sz, u, h => by
    simp only [frzW]
    split
    · rename_i hm
      obtain ⟨s, rfl, hg, hL⟩ := mine_spec hm
      split
      · rename_i cs hc
        split
        · rename_i hle
          obtain ⟨eg, he⟩ := live_cells hc
          obtain ⟨c, hn, rfl⟩ := sl_rel (by rw [hc]; rfl) h
          obtain ⟨_, t, hh, ⟨vs, rest, rfl, r⟩, h1, _⟩ := g.cells _ cs he
          have hlies := (Lies.of_row hh).left'
          have hlim : (sealE w E G L).lim (E.β (.loc s)) = (vs ++ rest).length := by
            rw [seal_at hL (by rw [he]; trivial)]
            simp only [cellsIn, hh, List.size_toArray]
          simp only [Rel]
          refine .inr ⟨E.β (.loc s), off, c, sz, by rw [chunks_length], by rw [chunks_length]; exact hn, trivial, ?_⟩
          refine relR_chunks n (relL_inner hin (RelL.drop off r)) (by simp; omega) fun j v hv => ?_
          rw [List.getElem?_drop] at hv
          have hlt := (List.getElem?_eq_some_iff.1 hv).1
          refine ⟨by rw [hlim, List.length_append]; omega, ?_, h1 v (List.mem_append_left _ (List.mem_of_getElem? hv))⟩
          have := hlies (off + j) v hv
          rwa [Nat.zero_add] at this
        · simp only [Rel]
      · simp only [Rel]
    · exact Rel.mono (seal_mono g) _ _ h
  | .mref k gn, u, h => by
    simp only [frzW]
    split
    · rename_i hm
      obtain ⟨s, rfl, hg, hL⟩ := mine_spec hm
      split
      · rename_i m hc
        have hu := mref_rel hc h
        obtain ⟨eg, he⟩ := mapAt_live (ks := m.1) (vs := m.2) hc
        obtain ⟨es, c, hh, hk, r, _⟩ := g.map _ m.1 m.2 he
        simp only [Rel]
        refine ⟨_, es, c, hu, ?_, hh, hk, relL_inner hin r⟩
        rw [seal_at hL (by rw [he]; trivial)]
        simp [cellsIn, hh]
      · simp only [Rel]
    · exact Rel.mono (seal_mono g) _ _ h
  | .imap ks vs, u, h => by
    simp only [frzW, Rel] at h ⊢
    obtain ⟨r, es, c, hu, hl, hh, hk, hv⟩ := h
    obtain ⟨h1, h2⟩ := (seal_mono (L := L) g).mapk r es c hl hh
    exact ⟨r, es, c, hu, h1, h2, hk, frz_relL hin g vs _ hv⟩
theorem frz_relL {inner : PV → PV} (hin : ∀ p u, Rel w E G p u → Rel w (sealE w E G L) (sealG G L) (inner p) u) (g : Good w E G) : ∀ (ps : List PV) (vs : List Value), RelL w E G ps vs → RelL w (sealE w E G L) (sealG G L) (frzL inner G L ps) vs
  | [], vs, h => by simp only [frzL, RelL] at h ⊢; exact h
  | p :: ps, vs, h => by simp only [frzL, RelL] at h ⊢; obtain ⟨x, xs, e, k1, k2⟩ := h; exact ⟨x, xs, e, frz_rel hin g p x k1, frz_relL hin g ps xs k2⟩
theorem frz_relC {inner : PV → PV} (hin : ∀ p u, Rel w E G p u → Rel w (sealE w E G L) (sealG G L) (inner p) u) (g : Good w E G) : ∀ (ps : List PV) (b o : Nat), RelC w E G ps b o → RelC w (sealE w E G L) (sealG G L) (frzL inner G L ps) b o
  | [], _, _, _ => by simp only [frzL, RelC]
  | p :: ps, b, o, h => by
    simp only [frzL, RelC] at h ⊢
    obtain ⟨⟨hl, u, hc, ho, hr⟩, k⟩ := h
    obtain ⟨h1, h2⟩ := (seal_mono (L := L) g).cell b o u hl hc
    exact ⟨⟨h1, u, h2, ho, frz_rel hin g p u hr⟩, frz_relC hin g ps b (o + 1) k⟩
theorem frz_relR {inner : PV → PV} (hin : ∀ p u, Rel w E G p u → Rel w (sealE w E G L) (sealG G L) (inner p) u) (g : Good w E G) : ∀ (ps : List PV) (b o sz : Nat), RelR w E G ps b o sz → RelR w (sealE w E G L) (sealG G L) (frzL inner G L ps) b o sz
  | [], _, _, _, _ => by simp only [frzL, RelR]
  | .agg cs :: ps, b, o, sz, h => by
    simp only [frzL, frzW]
    rw [RelR_cons] at h ⊢
    exact ⟨⟨by simp only [PV.flat, frzL_length] at h ⊢; exact h.1.1, frz_relC hin g cs b o h.1.2⟩, frz_relR hin g ps b (o + sz) sz h.2⟩
  | .any :: ps, b, o, sz, h => by
    simp only [frzL]
    rw [RelR_cons] at h ⊢
    exact ⟨frz_one g (by intro cs e; cases e) (frz_rel hin g (.any)) h.1, frz_relR hin g ps b (o + sz) sz h.2⟩
  | .v x :: ps, b, o, sz, h => by
    simp only [frzL]
    rw [RelR_cons] at h ⊢
    exact ⟨frz_one g (by intro cs e; cases e) (frz_rel hin g (.v x)) h.1, frz_relR hin g ps b (o + sz) sz h.2⟩
  | .tup x :: ps, b, o, sz, h => by
    simp only [frzL]
    rw [RelR_cons] at h ⊢
    exact ⟨frz_one g (by intro cs e; cases e) (frz_rel hin g (.tup x)) h.1, frz_relR hin g ps b (o + sz) sz h.2⟩
  | .ref x y z :: ps, b, o, sz, h => by
    simp only [frzL]
    rw [RelR_cons] at h ⊢
    exact ⟨frz_one g (by intro cs e; cases e) (frz_rel hin g (.ref x y z)) h.1, frz_relR hin g ps b (o + sz) sz h.2⟩
  | .eptr x y :: ps, b, o, sz, h => by
    simp only [frzL]
    rw [RelR_cons] at h ⊢
    exact ⟨frz_one g (by intro cs e; cases e) (frz_rel hin g (.eptr x y)) h.1, frz_relR hin g ps b (o + sz) sz h.2⟩
  | .vec x y :: ps, b, o, sz, h => by
    simp only [frzL]
    rw [RelR_cons] at h ⊢
    exact ⟨frz_one g (by intro cs e; cases e) (frz_rel hin g (.vec x y)) h.1, frz_relR hin g ps b (o + sz) sz h.2⟩
  | .fn x y z :: ps, b, o, sz, h => by
    simp only [frzL]
    rw [RelR_cons] at h ⊢
    exact ⟨frz_one g (by intro cs e; cases e) (frz_rel hin g (.fn x y z)) h.1, frz_relR hin g ps b (o + sz) sz h.2⟩
  | .iface x y :: ps, b, o, sz, h => by
    simp only [frzL]
    rw [RelR_cons] at h ⊢
    exact ⟨frz_one g (by intro cs e; cases e) (frz_rel hin g (.iface x y)) h.1, frz_relR hin g ps b (o + sz) sz h.2⟩
  | .sl q1 q2 x y z :: ps, b, o, sz, h => by
    simp only [frzL]
    rw [RelR_cons] at h ⊢
    exact ⟨frz_one g (by intro cs e; cases e) (frz_rel hin g (.sl q1 q2 x y z)) h.1, frz_relR hin g ps b (o + sz) sz h.2⟩
  | .mref q1 q2 :: ps, b, o, sz, h => by
    simp only [frzL]
    rw [RelR_cons] at h ⊢
    exact ⟨frz_one g (by intro cs e; cases e) (frz_rel hin g (.mref q1 q2)) h.1, frz_relR hin g ps b (o + sz) sz h.2⟩
  | .imap x y :: ps, b, o, sz, h => by
    simp only [frzL]
    rw [RelR_cons] at h ⊢
    exact ⟨frz_one g (by intro cs e; cases e) (frz_rel hin g (.imap x y)) h.1, frz_relR hin g ps b (o + sz) sz h.2⟩
theorem frzL_length {inner : PV → PV} : ∀ (ps : List PV), (frzL inner G L ps).length = ps.length
  | [] => by simp only [frzL]
  | p :: ps => by simp only [frzL, List.length_cons, frzL_length ps]
end
theorem frz_ok (g : Good w E G) (p : PV) (u : Value) (h : Rel w E G p u) : Rel w (sealE w E G L) (sealG G L) (frz G L p) u :=
  frz_rel (frz_rel (frz_rel (frz_rel (fun p u h => Rel.mono (seal_mono g) p u h) g) g) g) g p u h
end
end Go.Pv
namespace Go.Pv
open Go.RowKit

theorem mem_locKeys {k : Key} : ∀ {ks : List Key}, k ∈ locKeys ks → k ∈ ks ∧ ∃ s, k = .loc s
  | [], h => by cases h
  | .loc s :: ks, h => by
    simp only [locKeys] at h
    rcases List.mem_cons.1 h with rfl | h
    · exact ⟨by simp, s, rfl⟩
    · obtain ⟨h1, h2⟩ := mem_locKeys h
      exact ⟨by simp [h1], h2⟩
  | .bor i :: ks, h => by
    simp only [locKeys] at h
    obtain ⟨h1, h2⟩ := mem_locKeys h
    exact ⟨by simp [h1], h2⟩
theorem locKeys_nodup : ∀ {ks : List Key}, ks.Nodup → (locKeys ks).Nodup
  | [], _ => by simp [locKeys]
  | .loc s :: ks, h => by
    simp only [locKeys]
    have h' := List.nodup_cons.1 h
    exact List.nodup_cons.2 ⟨fun hm => h'.1 (mem_locKeys hm).1, locKeys_nodup h'.2⟩
  | .bor i :: ks, h => by
    simp only [locKeys]
    exact locKeys_nodup (List.nodup_cons.1 h).2

section
variable {w w' : World} {E Es : Env} {bor : List Ent} {sto : Sto}
/-- What the i-th variable that is handed back was called. -/
def Was (sto : Sto) (L : List Key) (i : Nat) (k : Key) : Prop := (i < sto.bor.length ∧ k = .bor i) ∨ (sto.bor.length ≤ i ∧ L[i - sto.bor.length]? = some k)
theorem out_good (V : Evo w E (borG bor) w' Es sto.get) (g : Good w' Es sto.get) {L : List Key} (hn : L.Nodup) (hL : ∀ k ∈ L, ∃ s, k = .loc s) :
    ∃ E', Evo w E (borG bor) w' E' (borG (sto.bor.map (renEQ (out sto.get sto.bor.length L)) ++ L.map fun k => renEQ (out sto.get sto.bor.length L) (sto.get k).2)) ∧
      Good w' E' (borG (sto.bor.map (renEQ (out sto.get sto.bor.length L)) ++ L.map fun k => renEQ (out sto.get sto.bor.length L) (sto.get k).2)) ∧
      Compat (sealE w' Es sto.get L) (sealG sto.get L) E' (borG (sto.bor.map (renEQ (out sto.get sto.bor.length L)) ++ L.map fun k => renEQ (out sto.get sto.bor.length L) (sto.get k).2)) (out sto.get sto.bor.length L) := by
  generalize hm : out sto.get sto.bor.length L = m
  generalize hB : sto.bor.map (renEQ m) ++ L.map (fun k => renEQ m (sto.get k).2) = B
  let E' : Env := ⟨fun k => match k with | .bor i => if i < sto.bor.length then Es.β (.bor i) else Es.β (L.getD (i - sto.bor.length) default) | .loc _ => 0, (sealE w' Es sto.get L).lim⟩
  have wasB : ∀ {i k}, Was sto L i k → borG B (.bor i) = (0, renEQ m (sto.get k).2) ∧ E'.β (.bor i) = Es.β k ∧ sealG sto.get L k = sto.get k := by
    intro i k h
    rcases h with ⟨h, rfl⟩ | ⟨h, hk⟩
    · refine ⟨?_, by simp only [E', h, if_true], rfl⟩
      rw [borG_bor, ← hB, List.getElem?_append_left (by simpa using h)]
      simp [Sto.get, h]
    · refine ⟨?_, ?_, ?_⟩
      · rw [borG_bor, ← hB, List.getElem?_append_right (by simpa using h)]
        simp [hk]
      · have : ¬ i < sto.bor.length := by omega
        simp only [E', this, if_false, List.getD, hk, Option.getD_some]
      · obtain ⟨s, rfl⟩ := hL k (List.mem_of_getElem? hk)
        exact seal_in (by simpa using List.mem_of_getElem? hk)
  have live : ∀ q, (borG B q).2 ≠ .none → ∃ i k, q = .bor i ∧ Was sto L i k ∧ (sto.get k).2 ≠ .none := by
    intro q h
    cases q with
    | loc s => simp [borG_loc] at h
    | bor i =>
      have : ∃ k, Was sto L i k := by
        by_cases hi : i < sto.bor.length
        · exact ⟨_, .inl ⟨hi, rfl⟩⟩
        · cases e : L[i - sto.bor.length]? with
          | some k => exact ⟨k, .inr ⟨by omega, e⟩⟩
          | none =>
            exfalso
            rw [borG_bor, ← hB, List.getElem?_append_right (by simp; omega)] at h
            simp [e] at h
      obtain ⟨k, hw⟩ := this
      rw [(wasB hw).1] at h
      exact ⟨i, k, rfl, hw, (renE_none _ _).1 h⟩
  have inj : ∀ {i j k}, Was sto L i k → Was sto L j k → i = j := by
    intro i j k h1 h2
    rcases h1 with ⟨h1, rfl⟩ | ⟨h1, k1⟩
    · rcases h2 with ⟨_, e⟩ | ⟨_, k2⟩
      · exact Key.bor.inj e
      · obtain ⟨s, e⟩ := hL _ (List.mem_of_getElem? k2); cases e
    · rcases h2 with ⟨_, rfl⟩ | ⟨h2, k2⟩
      · obtain ⟨s, e⟩ := hL _ (List.mem_of_getElem? k1); cases e
      · have a1 := idx_of (n := 0) hn k1
        have a2 := idx_of (n := 0) hn k2
        rw [a1] at a2
        simp at a2
        omega
  have C : Compat (sealE w' Es sto.get L) (sealG sto.get L) E' (borG B) m := by
    refine ⟨rfl, fun k gn k' g' h => ?_⟩
    have key : ∃ i, k' = .bor i ∧ g' = 0 ∧ Was sto L i k ∧ gn = (sto.get k).1 := by
      rw [← hm] at h
      cases k with
      | bor i =>
        simp only [out] at h
        split at h
        · rename_i hc
          simp only [Option.some.injEq, Prod.mk.injEq] at h
          exact ⟨i, h.1.symm, h.2.symm, .inl ⟨hc.1, rfl⟩, hc.2⟩
        · cases h
      | loc s =>
        simp only [out] at h
        split at h
        · rename_i hc
          simp only [Option.map_eq_some_iff, Prod.mk.injEq] at h
          obtain ⟨j, hj, h1, h2⟩ := h
          have := (idx_some hj).2
          simp only [Nat.sub_zero] at this
          exact ⟨_, h1.symm, h2.symm, .inr ⟨by omega, by rw [show sto.bor.length + j - sto.bor.length = j by omega]; exact this⟩, hc⟩
        · cases h
    obtain ⟨i, rfl, rfl, hw, hg⟩ := key
    obtain ⟨h1, h2, h3⟩ := wasB hw
    rw [h1, h2, h3]
    exact ⟨by omega, fun _ => ⟨rfl, fun hb => ⟨renE_alike _ _ (Ent.ne_of_boxy hb), rfl⟩, fun n e sz ht => ⟨by rw [ht]; rfl, rfl⟩⟩⟩
  have gs := seal_good (L := L) g
  have limk : ∀ {i k}, Was sto L i k → (sto.get k).2 ≠ .none → (sealE w' Es sto.get L).lim (Es.β k) = Es.lim (Es.β k) := fun hw hk => seal_lim g (by rw [(wasB hw).2.2]; exact hk)
  have old : ∀ b, b < w.heap.size → (sealE w' Es sto.get L).lim b = Es.lim b := by
    intro b hb
    refine seal_lim0 fun s _ hbx e => ?_
    rcases V.fresh (.loc s) (Ent.ne_of_boxy hbx) with ⟨a, _⟩ | hs
    · exact (Ent.alike_ne a).1 rfl
    · omega
  have keyb : ∀ {i}, (borG bor (.bor i)).2.boxy ∨ (∃ n e sz, (borG bor (.bor i)).2 = .top n e sz) → (sto.get (.bor i)).2 ≠ .none → i < sto.bor.length := by
    intro i _ h
    by_cases hi : i < sto.bor.length
    · exact hi
    · exfalso
      apply h
      simp [Sto.get, List.getElem?_eq_none (Nat.le_of_not_lt hi)]
  refine ⟨E', { gen := ?_, keep := ?_, mapk := ?_, cell := ?_, top := ?_, os := V.os, tape := V.tape, output := V.output, size := V.size, fresh := ?_, kept := V.kept, limk := ?_ }, ⟨?_, ?_, ?_, ?_⟩, C⟩
  · intro k
    cases k <;> simp [borG_bor, borG_loc]
  · intro k _ hb
    cases k with
    | loc s => rw [borG_loc] at hb; exact hb.elim
    | bor i =>
      obtain ⟨h1, h2, h3⟩ := V.keep (.bor i) (by simp [borG_bor, Sto.get]) hb
      have hw : Was sto L i (.bor i) := .inl ⟨keyb (.inl hb) (Ent.alike_ne h1).2, rfl⟩
      obtain ⟨k1, k2, _⟩ := wasB hw
      rw [k1, k2]
      exact ⟨Ent.alike_trans h1 (renE_alike _ _ (Ent.alike_ne h1).2), h2, h3⟩
  · intro b es c h hh
    obtain ⟨h1, h2⟩ := V.mapk b es c h hh
    exact (seal_mono (L := L) g).mapk b es c h1 h2
  · intro b o u h hc
    obtain ⟨h1, h2⟩ := V.cell b o u h hc
    exact (seal_mono (L := L) g).cell b o u h1 h2
  · intro k n e sz _ ht
    cases k with
    | loc s => rw [borG_loc] at ht; cases ht
    | bor i =>
      obtain ⟨n', h1, h2, h3⟩ := V.top (.bor i) n e sz (by simp [borG_bor, Sto.get]) ht
      have hw : Was sto L i (.bor i) := .inl ⟨keyb (.inr ⟨n, e, sz, ht⟩) (by rw [h1]; simp), rfl⟩
      obtain ⟨k1, k2, _⟩ := wasB hw
      refine ⟨n', by rw [k1, h1]; rfl, h2, fun en => ?_⟩
      obtain ⟨a1, a2, a3⟩ := h3 en
      refine ⟨k2.trans a1, ?_, a3⟩
      rw [← a1]
      show (sealE w' Es sto.get L).lim (Es.β (.bor i)) = _
      rw [limk hw (by rw [h1]; simp), a1]
      exact a2
  · intro q hq
    obtain ⟨i, k, rfl, hw, hk⟩ := live q hq
    obtain ⟨k1, k2, _⟩ := wasB hw
    rw [k1, k2]
    rcases hw with ⟨hi, rfl⟩ | ⟨hi, hki⟩
    · rcases V.fresh (.bor i) hk with ⟨a, e⟩ | hs
      · exact .inl ⟨Ent.alike_trans a (renE_alike _ _ hk), e⟩
      · exact .inr hs
    · obtain ⟨s, rfl⟩ := hL k (List.mem_of_getElem? hki)
      rcases V.fresh (.loc s) hk with ⟨a, _⟩ | hs
      · exact absurd rfl (Ent.alike_ne a).1
      · exact .inr hs
  · intro b hb hnb
    show (sealE w' Es sto.get L).lim b = _
    rw [old b hb]
    exact V.limk b hb hnb
  · intro q cs h
    obtain ⟨i, k, rfl, hw, hk⟩ := live q (by rw [h]; simp)
    obtain ⟨k1, k2, k3⟩ := wasB hw
    rw [k1] at h
    obtain ⟨cs0, h0, rfl⟩ := renE_cells h
    obtain ⟨vs, t, hh, r, h1, hl⟩ := gs.cells k cs0 (by rw [k3]; exact h0)
    rw [k2]
    exact ⟨vs, t, hh, r.ren C, h1, hl⟩
  · intro q n e sz h
    obtain ⟨i, k, rfl, hw, hk⟩ := live q (by rw [h]; simp)
    obtain ⟨k1, k2, k3⟩ := wasB hw
    rw [k1] at h
    rw [k2]
    exact gs.line k n e sz (by rw [k3]; exact renE_top h)
  · intro q ks vs h
    obtain ⟨i, k, rfl, hw, hk⟩ := live q (by rw [h]; simp)
    obtain ⟨k1, k2, k3⟩ := wasB hw
    rw [k1] at h
    obtain ⟨vs0, h0, rfl⟩ := renE_map h
    obtain ⟨es, c, hh, hks, r, hl⟩ := gs.map k ks vs0 (by rw [k3]; exact h0)
    rw [k2]
    exact ⟨es, c, hh, hks, RelL.ren C _ _ r, hl⟩
  · intro q1 q2 h1 h2 e
    obtain ⟨i, k, rfl, hw, hk⟩ := live q1 h1
    obtain ⟨j, k', rfl, hw', hk'⟩ := live q2 h2
    rw [(wasB hw).2.1, (wasB hw').2.1] at e
    have := g.inj k k' hk hk' e
    subst this
    rw [inj hw hw']

theorem finish_ok {keep : Bool} {s : St} {p : PV} {u : Value} (V : Evo w E (borG bor) w' Es s.sto.get) (g : Good w' Es s.sto.get) (r : Rel w' Es s.sto.get p u) :
    ∃ E', Evo w E (borG bor) w' E' (borG (finish keep s p).2) ∧ Good w' E' (borG (finish keep s p).2) ∧ Rel w' E' (borG (finish keep s p).2) (finish keep s p).1 u := by
  unfold finish
  simp only
  generalize hR : reach s.sto.get 64 _ [] = R
  have hn : R.Nodup := by rw [← hR]; exact reach_nodup _ _ _ _ (by simp)
  obtain ⟨E', M, g', C⟩ := out_good V g (L := locKeys R) (locKeys_nodup hn) (fun k hk => (mem_locKeys hk).2)
  refine ⟨E', M, g', ?_⟩
  split
  · rename_i hp
    have := Rel.ren C p u (Rel.mono (seal_mono g) _ _ r)
    rwa [pure_ren p hp] at this
  · exact Rel.ren C _ _ (frz_ok g p u r)
end
end Go.Pv
namespace Go.Pv
open Go.RowKit

noncomputable def fillT : List PV → Tr → Nat → Tr
  | [], t, _ => t
  | p :: ps, t, i => fillT ps (t.set i p) (i + 1)
theorem fillK_eq {β : Type} : ∀ (ps : List PV) (t : Tr) (i : Nat) (k : Tr → β), Tr.fillK ps t i k = k (fillT ps t i)
  | [], _, _, _ => rfl
  | p :: ps, t, i, k => by
    show (forceW p fun p => t.setK i p fun t => Tr.fillK ps t (i + 1) k) = _
    rw [forceW_eq, Tr.setK_eq, fillK_eq ps]
    rfl
theorem fillT_has {d : Nat} : ∀ (ps : List PV) (t : Tr) (i : Nat), t.has d → (fillT ps t i).has d
  | [], _, _, h => h
  | p :: ps, t, i, h => fillT_has ps _ _ (Tr.has_set _ _ _ _ h)
theorem fillT_low {d : Nat} : ∀ (ps : List PV) (t : Tr) (i : Nat), d < i → (fillT ps t i).get d = t.get d
  | [], _, _, _ => rfl
  | p :: ps, t, i, h => by
    show (fillT ps (t.set i p) (i + 1)).get d = _
    rw [fillT_low ps _ _ (by omega), Tr.get_set_ne _ _ _ _ (by omega)]
theorem fillT_high {d : Nat} : ∀ (ps : List PV) (t : Tr) (i : Nat), i + ps.length ≤ d → (fillT ps t i).get d = t.get d
  | [], _, _, _ => rfl
  | p :: ps, t, i, h => by
    simp only [List.length_cons] at h
    show (fillT ps (t.set i p) (i + 1)).get d = _
    rw [fillT_high ps _ _ (by omega), Tr.get_set_ne _ _ _ _ (by omega)]
theorem fillT_at {n : Nat} : ∀ (ps : List PV) (t : Tr) (i j : Nat) (p : PV), (∀ d, d < n → t.has d) → i + ps.length ≤ n → ps[j]? = some p → (fillT ps t i).get (i + j) = p
  | [], _, _, _, _, _, _, h => by simp at h
  | q :: ps, t, i, 0, p, hh, hle, h => by
    simp only [List.getElem?_cons_zero, Option.some.injEq] at h
    subst h
    simp only [List.length_cons] at hle
    show (fillT ps (t.set i q) (i + 1)).get i = _
    rw [fillT_low ps _ _ (by omega), Tr.get_set _ _ _ (hh i (by omega))]
  | q :: ps, t, i, j + 1, p, hh, hle, h => by
    simp only [List.length_cons] at hle
    show (fillT ps (t.set i q) (i + 1)).get _ = _
    rw [show i + (j + 1) = i + 1 + j by omega]
    exact fillT_at ps _ _ j p (fun d hd => Tr.has_set _ _ _ _ (hh d hd)) (by omega) (by simpa using h)

section
variable {P : Program} {w : World} {E : Env} {G : Get}
def resSem (tmps : Array Value) : ResultVar → Sem Value
  | .tmp t => pure (tmps.getD t undef)
  | .cell x t => do loadVar t (← asAddr (tmps.getD x undef))
theorem result_run {a : Act} {s : St} (g : Good w E s.sto.get) (hf : ∀ t, Rel w E s.sto.get (s.fr.get t) (a.tmps.getD t undef)) {r : ResultVar} {p : PV} (h : resultP P s r = some p) :
    ∃ v, (resSem a.tmps r).run P w = .ok v w ∧ Rel w E s.sto.get p v := by
  cases r with
  | tmp t =>
    simp only [resultP, Option.some.injEq] at h
    subst h
    exact ⟨_, rfl, hf t⟩
  | cell x t =>
    simp only [resultP] at h
    split at h
    · rename_i k gn off e
      simp only [Option.bind_eq_bind, Option.bind_eq_some_iff] at h
      obtain ⟨cs, hc, hr⟩ := h
      have hx := hf x
      rw [e] at hx
      have hu := ref_rel hc hx
      obtain ⟨vs, _, t', hh, r, hl, _⟩ := g.lies hc
      obtain ⟨u, h1, h2⟩ := run_loadVar_lies (P := P) hr r hl
      rw [Nat.zero_add] at h1
      refine ⟨u, ?_, h2⟩
      simp only [resSem, hu, asAddr, Sem.run_bind, Sem.run_pure, Result.andThen_ok, h1]
    · cases h
theorem results_run {a : Act} {s : St} (g : Good w E s.sto.get) (hf : ∀ t, Rel w E s.sto.get (s.fr.get t) (a.tmps.getD t undef)) : ∀ (rs : List ResultVar) (ps : List PV), resultsP P s rs = some ps →
    ∃ vs, (rs.mapM (resSem a.tmps)).run P w = .ok vs w ∧ RelL w E s.sto.get ps vs
  | [], ps, h => by
    simp only [resultsP, Option.some.injEq] at h
    subst h
    exact ⟨[], rfl, relL_nil⟩
  | r :: rs, ps, h => by
    simp only [resultsP, Option.bind_eq_bind, Option.bind_eq_some_iff, pure, Option.some.injEq] at h
    obtain ⟨p, hp, qs, hq, rfl⟩ := h
    obtain ⟨v, h1, h2⟩ := result_run (P := P) g hf hp
    obtain ⟨vs, h3, h4⟩ := results_run g hf rs qs hq
    refine ⟨v :: vs, ?_, relL_cons h2 h4⟩
    simp only [List.mapM_cons, Sem.run_bind, h1, Result.andThen_ok, h3, Sem.run_pure]
theorem one_or_tup {ps : List PV} {vs : List Value} (h : RelL w E G ps vs) : Rel w E G (oneOrTup ps) (if h : vs.toArray.size = 1 then vs.toArray[0] else .tuple vs.toArray) := by
  have hl := h.length
  unfold oneOrTup
  split
  · rename_i p
    simp only [RelL] at h
    obtain ⟨x, xs, rfl, hx, rfl⟩ := h
    simpa using hx
  · rename_i hn
    have : ¬ vs.toArray.size = 1 := by
      simp only [List.size_toArray]
      intro e
      rw [e] at hl
      cases ps with
      | nil => simp at hl
      | cons p ps =>
        cases ps with
        | nil => exact hn p rfl
        | cons q qs => simp at hl
    rw [dif_neg this]
    simp only [Rel]
    exact ⟨vs, rfl, h⟩

/-- The first frame of a call. -/
theorem start_rel {args : List PV} {us : List Value} (r : RelL w E G args us) {n : Nat} (hle : args.length ≤ n) : ∀ t, Rel w E G ((fillT args (Tr.full (depthOf n)) 0).get t) ((us.toArray ++ Array.replicate (n - us.toArray.size) undef).getD t undef) := by
  intro t
  have hl := r.length
  by_cases ht : t < args.length
  · obtain ⟨p, hp⟩ : ∃ p, args[t]? = some p := ⟨_, List.getElem?_eq_getElem ht⟩
    have := fillT_at (n := n) args (Tr.full (depthOf n)) 0 t p (fun d hd => depth_has n d hd) (by omega) hp
    rw [Nat.zero_add] at this
    rw [this]
    obtain ⟨v, hv, rv⟩ := r.get hp
    have e : (us.toArray ++ Array.replicate (n - us.toArray.size) undef).getD t undef = v := by
      rw [Array.getD_eq_getD_getElem?, Array.getElem?_append_left (by simp; omega)]
      simp [hv]
    rw [e]
    exact rv
  · rw [fillT_high _ _ _ (by omega), Tr.full_get]
    have e : (us.toArray ++ Array.replicate (n - us.toArray.size) undef).getD t undef = undef := by
      rw [Array.getD_eq_getD_getElem?, Array.getElem?_append_right (by simp; omega), Array.getElem?_replicate]
      split <;> rfl
    rw [e]
    exact undef_rel

/-- Names may be taken anew: what they name stays. -/
theorem gens_up {w : World} {E : Env} {G G' : Get} (g : Good w E G) (h2 : ∀ k, (G' k).2 = (G k).2) (h1 : ∀ k, (G k).1 ≤ (G' k).1) : Evo w E G w E G' ∧ Good w E G' := by
  have M : Evo w E G w E G' := by
    refine { gen := h1, keep := ?_, mapk := fun _ _ _ h k => ⟨h, k⟩, cell := fun _ _ _ h k => ⟨h, k⟩, top := ?_, os := rfl, tape := rfl, output := rfl, size := Nat.le_refl _, fresh := ?_, kept := fun _ _ _ => rfl, limk := fun _ _ _ => rfl }
    · intro q _ h
      rw [h2]
      exact ⟨Ent.alike_boxy h, rfl, fun _ h => h⟩
    · intro q n el sz e ht
      rw [h2]
      exact ⟨n, ht, Nat.le_refl _, fun _ => ⟨rfl, rfl, fun arr t hh => ⟨arr, hh, rfl⟩⟩⟩
    · intro q hq
      rw [h2] at hq ⊢
      exact .inl ⟨Ent.alike_self hq, rfl⟩
  refine ⟨M, ⟨?_, ?_, ?_, ?_⟩⟩
  · intro q cs h
    rw [h2] at h
    obtain ⟨vs, t, hh, r, h1, hl⟩ := g.cells q cs h
    exact ⟨vs, t, hh, r.mono M.toMono, h1, hl⟩
  · intro q n el sz h
    rw [h2] at h
    exact g.line q n el sz h
  · intro q ks vs h
    rw [h2] at h
    obtain ⟨es, c, hh, hk, r, hl⟩ := g.map q ks vs h
    exact ⟨es, c, hh, hk, RelL.mono M.toMono _ _ r, hl⟩
  · intro q q' h h' e
    rw [h2] at h h'
    exact g.inj q q' h h' e
theorem start_open {w : World} {E : Env} {bor : List Ent} (g : Good w E (borG bor)) (m : Nat) : Evo w E (borG bor) w E (Sto.get ⟨bor, [(1000000000, m, .none)]⟩) ∧ Good w E (Sto.get ⟨bor, [(1000000000, m, .none)]⟩) := by
  refine gens_up g (fun k => ?_) (fun k => ?_)
  · cases k with
    | bor i => rfl
    | loc s => simp only [Sto.get, assoc, borG_loc]; split <;> rfl
  · cases k with
    | bor i => exact Nat.le_refl _
    | loc s => rw [borG_loc]; exact Nat.zero_le _

theorem retP_ok {keep : Bool} {fn : Func} {s' : St} {r : CallR} {ds : List Deferred} {fx : List (Nat × Nat × Value)} {bor : List Ent} (h : retP P keep fn s' = some r) {w' : World} {E' : Env} {a' : Act} (I' : Inv ds fx w E (borG bor) w' E' a' s') :
    ∃ v, (results fn a'.tmps).run P w' = .ok v w' ∧ CallPost w E bor r (.returned v) w' := by
  unfold retP at h
  simp only [Option.bind_eq_bind, Option.bind_eq_some_iff, Option.some.injEq] at h
  obtain ⟨ps, hps, hr⟩ := h
  subst hr
  obtain ⟨vs, h1, h2⟩ := results_run (P := P) I'.good I'.fr fn.results.toList ps hps
  obtain ⟨E2, M2, g2, r2⟩ := finish_ok (keep := keep) I'.evo I'.good (one_or_tup h2)
  refine ⟨_, ?_, ⟨_, E2, _, rfl, fun i => rfl, M2, g2, r2⟩⟩
  unfold results
  simp only [Array.mapM_eq_mapM_toList, Sem.run_bind, Sem.run_map]
  show ((((fn.results.toList.mapM (resSem a'.tmps)).run P w').andThen _).andThen _) = _
  rw [h1]
  rfl
theorem endP_ok {keep : Bool} {fn : Func} {ex : Ex} {s' : St} {r : CallR} {fx : List (Nat × Nat × Value)} {bor : List Ent} (h : endP P keep fn ex s' = some r) : Post [] fx w E (borG bor) (bodyPost P fn (CallPost w E bor r)) s' ex := by
  unfold endP at h
  split at h
  · intro w' E' a' I'
    exact ⟨I'.defers, retP_ok h I'⟩
  · intro w' E' a' I'
    exact ⟨I'.defers, retP_ok h I'⟩
  · rename_i p s'
    simp only [Option.some.injEq] at h
    subst h
    intro w' E' a' u I' rp
    obtain ⟨E2, M2, g2, r2⟩ := finish_ok (keep := false) I'.evo I'.good rp
    exact ⟨I'.defers, u, E2, _, rfl, fun i => rfl, M2, g2, r2⟩
  · cases h
theorem endP_okD {keep : Bool} {fn : Func} {ex : Ex} {s' : St} {r : CallR} {fx : List (Nat × Nat × Value)} {bor : List Ent} (h : endP P keep fn ex s' = some r) : Post [] fx w E (borG bor) (bodyPostD P fn (CallPost w E bor r)) s' ex := by
  unfold endP at h
  split at h
  · intro w' E' a' I'
    show Leaves P fn a'.tmps _ a'.defers .returning w'
    rw [I'.defers]
    exact retP_ok h I'
  · intro w' E' a' I'
    show Leaves P fn a'.tmps _ a'.defers .returning w'
    rw [I'.defers]
    exact retP_ok h I'
  · rename_i p s'
    simp only [Option.some.injEq] at h
    subst h
    intro w' E' a' u I' rp
    obtain ⟨E2, M2, g2, r2⟩ := finish_ok (keep := false) I'.evo I'.good rp
    show Leaves P fn a'.tmps _ a'.defers _ w'
    rw [I'.defers]
    exact ⟨u, E2, _, rfl, fun i => rfl, M2, g2, r2⟩
  · cases h
theorem start_inv {fx : List (Nat × Nat × Value)} {bor : List Ent} {args : List PV} {us : List Value} (g : Good w E (borG bor)) (hfx : Fix fx w E) (rl : RelL w E (borG bor) args us) {n : Nat} (hle : args.length ≤ n) (m : Nat) :
    Inv [] fx w E (borG bor) w E { tmps := us.toArray ++ Array.replicate (n - us.toArray.size) undef, defers := [] } ⟨n, fillT args (Tr.full (depthOf n)) 0, ⟨bor, [(1000000000, m, .none)]⟩⟩ := by
  obtain ⟨MS, gS⟩ := start_open g m
  refine ⟨gS, hfx, start_rel (RelL.mono MS.toMono _ _ rl) hle, ?_, fun t ht => fillT_has _ _ _ (depth_has _ _ ht), rfl, MS⟩
  have := rl.length
  simp; omega

/-- The mode of a call that leaves: with a panic or without. -/
def md : Option Value → Bool → FrameMode
  | none, _ => .returning
  | some x, b => .panicking [{ v := x, recovered := b }]
def MRel (w : World) (E : Env) (G : Get) : Option PV → Option Value → Prop
  | none, none => True
  | some p, some x => Rel w E G p x
  | _, _ => False
theorem evDef_ok {pol : Pol} {call : Callee} {fx : List (Nat × Nat × Value)} (hm : P.follows .mixedOrders = true) (HC : CallOk P fx call) {k : Nat} {mode : Option PV} {x : Option Value} {f : FuncId} {args : List PV} {bor : List Ent} {r : CallR}
    (h : evDef P pol call k mode f args bor = some r) {w : World} {E : Env} {us : List Value} (g : Good w E (borG bor)) (hfx : Fix fx w E) (rl : RelL w E (borG bor) args us) (hx : MRel w E (borG bor) mode x) :
    CallsD P f us.toArray (md x false) w fun e u' w' => u' = md x true ∧ CallPost w E bor r e w' := by
  unfold evDef at h
  simp only [Option.bind_eq_bind, Option.bind_eq_some_iff] at h
  obtain ⟨fn, hfn, body, hbody, ⟨d, rest⟩, hrec, h⟩ := h
  unfold goDef at h
  split at h
  case h_2 => cases h
  rename_i hle hd
  rw [Nat.ble_eq] at hle
  simp only [Nat.blt_eq] at hd
  rw [fillK_eq, Tr.setK_eq, forceL_eq] at h
  unfold recHead at hrec
  split at hrec
  case h_2 => cases hrec
  rename_i id ops rest'
  split at hrec
  case h_2 => cases hrec
  rename_i o hops
  split at hrec
  case h_2 => cases hrec
  rename_i c d' hop hg hdst
  split at hrec
  case h_2 => cases hrec
  rename_i hcal
  split at hrec
  case h_2 => cases hrec
  rename_i hargs
  simp only [Option.some.injEq, Prod.mk.injEq] at hrec
  obtain ⟨rfl, rfl⟩ := hrec
  have I0 := start_inv g hfx rl hle (pol.wr f)
  have hsz : us.toArray.size = args.length := by simpa using rl.length
  have key : ∀ (v : Value) (c₀ c₁ : Frame) (cs : List Frame), c₁ = { c₀ with mode := md x true } → Rel w E (borG bor) (mode.getD (.v .nilIface)) v →
      rest'.wpS P (bodyPostS P fn c₀ cs fun e u' w' => u' = md x true ∧ CallPost w E bor r e w') (({ tmps := us.toArray ++ Array.replicate (fn.ntmps - us.toArray.size) undef, defers := [] } : Act).put (some d') v) (c₁ :: cs) w := by
    intro v c₀ c₁ cs hc rv
    have I1 : Inv [] fx w E (borG bor) w E (({ tmps := us.toArray ++ Array.replicate (fn.ntmps - us.toArray.size) undef, defers := [] } : Act).put (some d') v) ⟨fn.ntmps, (fillT args (Tr.full (depthOf fn.ntmps)) 0).set d' (mode.getD (.v .nilIface)), ⟨bor, [(1000000000, pol.wr f, .none)]⟩⟩ := by
      obtain ⟨MS, gS⟩ := start_open g (pol.wr f)
      refine ⟨I0.good, I0.fix, put_rel (dst := some d') I0.fr I0.size I0.has (by simp [dstOk, Nat.blt_eq, hd]) (Rel.mono MS.toMono _ _ rv), by rw [put_size]; exact I0.size, fun t ht => Tr.has_set _ _ _ _ (I0.has t ht), by rw [put_defers'], I0.evo⟩
    refine wpS_of_wp ?_
    unfold endDef at h
    split at h
    · rename_i s' hev
      refine evC_sound HC (drawsP_ok hm HC) rest' I1 hev ?_
      intro w' E' a' I'
      obtain ⟨v', h1, h2⟩ := retP_ok h I'
      exact ⟨I'.defers, md x true, by rw [hc], v', h1, rfl, h2⟩
    · rename_i s' hev
      refine evC_sound HC (drawsP_ok hm HC) rest' I1 hev ?_
      intro w' E' a' I'
      obtain ⟨v', h1, h2⟩ := retP_ok h I'
      exact ⟨I'.defers, md x true, by rw [hc], v', h1, rfl, h2⟩
    · cases h
  refine callsD_of_wpS hfn hbody fun c₀ cs hu => ?_
  refine wpS_seq (wpS_region ?_)
  have hops' : ops = #[o] := by rw [← Array.toArray_toList (xs := ops), hops]
  subst hops'
  have hexec : ∀ a : Act, (execOp a.eval o).run P w = .ok .recover w := by
    intro a
    simp [execOp, hop, resolve, hcal, invoke, builtin, Array.eq_empty_of_size_eq_zero (show c.args.size = 0 by rw [← Array.length_toList, hargs]; rfl)]
  have hw : ∀ t, Region.wanted o (yielded #[o] t) = true := by intro t; simp [Region.wanted, hg]
  simp only [List.size_toArray, List.length_cons, List.length_nil, Nat.zero_add, List.range_succ, List.range_zero, List.nil_append, wpOpsS]
  simp only [List.getElem?_toArray, List.getElem?_cons_zero, hw, if_true, hexec]
  cases x with
  | none =>
    cases mode with
    | some p => exact hx.elim
    | none =>
      have hrd : recoverD (c₀ :: cs) = none := by simp [recoverD, hu, md]
      rw [hrd]
      simp only
      rw [hdst]
      exact key .nilIface c₀ c₀ cs (by cases c₀; simp only [md] at hu ⊢; rw [hu]) (by simp only [Option.getD_none, Rel])
  | some x =>
    cases mode with
    | none => exact hx.elim
    | some p =>
      have hrd : recoverD (c₀ :: cs) = some (x, { c₀ with mode := .panicking [{ v := x, recovered := true }] } :: cs) := by simp [recoverD, hu, md]
      rw [hrd]
      simp only
      rw [hdst]
      exact key x c₀ _ cs rfl (by rw [Option.getD_some]; exact hx)

theorem leave_ok {pol : Pol} {call : Callee} {fx : List (Nat × Nat × Value)} (hm : P.follows .mixedOrders = true) (HC : CallOk P fx call) {k : Nat} {keep : Bool} {fn : Func} {gf : FuncId} {args : List PV} {mode : Option PV} {s : St} {r : CallR}
    (h : leaveP P pol call k keep fn gf args mode s = some r) {bor : List Ent} {w3 : World} {E3 : Env} {a3 : Act} {cap dargs : Array Value} {D : Deferred} (hD : D = { target := .fn (.func gf) cap, args := dargs }) (I : Inv [D] fx w E (borG bor) w3 E3 a3 s) (he : enters P gf = true)
    (ra : RelL w3 E3 s.sto.get args (dargs ++ cap).toList) {x : Option Value} (hx : MRel w3 E3 s.sto.get mode x) (hp : ∀ p, mode = some p → pureP p = true) : Leaves P fn a3.tmps (CallPost w E bor r) [D] (md x false) w3 := by
  unfold leaveP at h
  split at h
  case h_2 => cases h
  rename_i p ws hcall
  split at h
  case h_2 => cases h
  rename_i hv
  rw [putsK_eq] at h
  subst hD
  refine leaves_cons (by cases x <;> simp [md]) (f := gf) (args := dargs ++ cap) ?_ ?_
  · simp only [invoke]
    exact enters_of he _
  · have hmain := callP_gen (call := evDef P pol call k mode) (fx := fx) (Cl := fun f us w R => CallsD P f us (md x false) w fun e u' w' => u' = md x true ∧ R e w') (fun h1 h2 => h1.mono fun e u' w' hh => ⟨hh.1, h2 e w' hh.2⟩)
      (X := fun w E G => MRel w E G mode x) (fun f args bor r h w E us g hf rl hx => evDef_ok hm HC h g hf rl hx)
      (fun E' G' m C => by
        cases mode with
        | none => cases x with
          | none => trivial
          | some x => exact hx.elim
        | some p => cases x with
          | none => exact hx.elim
          | some x =>
            have := Rel.ren C p x hx
            rwa [pure_ren p (hp p rfl)] at this) I.good I.fix ra hcall
      (R := fun e w' => match e with
        | .returned _ => Leaves P fn a3.tmps (CallPost w E bor r) [] .returning w'
        | _ => False)
      (fun p' ws' hr E' w' u M g' _ => by
        cases hr
        have hg : (s.sto.puts ws).get = updG s.sto.get ws := puts_get ws s.sto hv
        have I' : Inv [{ target := .fn (.func gf) cap, args := dargs }] fx w E (borG bor) w' E' a3 ⟨s.n, s.fr, s.sto.puts ws⟩ := by
          refine ⟨by rw [hg]; exact g', I.fix.mono M.toMono, fun t => ?_, I.size, I.has, I.defers, by rw [hg]; exact I.evo.trans M⟩
          rw [hg]
          exact Rel.mono M.toMono _ _ (I.fr t)
        exact retP_ok h I')
      (fun p' ws' hr => by cases hr)
    rw [Array.toArray_toList] at hmain
    refine hmain.mono ?_
    rintro e u' w' ⟨rfl, hR⟩
    cases e with
    | returned v =>
      have : settle (md x true) = .returning := by cases x <;> rfl
      simp only [this]
      exact hR
    | panicked ch => exact hR.elim
    | outgrown => exact hR.elim

theorem defer_ok {pol : Pol} {call : Callee} {fx : List (Nat × Nat × Value)} (hm : P.follows .mixedOrders = true) (HC : CallOk P fx call) {k : Nat} {keep : Bool} {fn : Func} {s : St} {t : Operand} {rest : Code} {r : CallR}
    (h : deferP P pol call k keep fn s t rest = some r) {bor : List Ent} {w1 : World} {E1 : Env} {a1 : Act} (I : Inv [] fx w E (borG bor) w1 E1 a1 s) :
    ∃ D, (∀ xs, (Deferred.ofValue (a1.eval t) #[]).run P xs = .ok D xs) ∧ rest.wp P (bodyPostD P fn (CallPost w E bor r)) { a1 with defers := D :: a1.defers } w1 := by
  unfold deferP at h
  split at h
  case h_2 => cases h
  rename_i gf first captured heval
  split at h
  case h_2 => cases h
  rename_i he
  have hr := eval_rel I.fr t
  rw [heval] at hr
  simp only [Rel] at hr
  obtain ⟨xs, ys, hfv, rx, ry⟩ := hr
  let D : Deferred := { target := .fn (.func gf) ys.toArray, args := xs.toArray }
  refine ⟨D, ?_, ?_⟩
  · intro W
    rw [hfv]
    simp [Deferred.ofValue, D]
  rw [I.defers]
  have I1 : Inv [D] fx w1 E1 s.sto.get w1 E1 { a1 with defers := [D] } s := ⟨I.good, I.fix, I.fr, I.size, I.has, rfl, Evo.rfl⟩
  have up : ∀ {w3 E3 a3 s'}, Inv [D] fx w1 E1 s.sto.get w3 E3 a3 s' → Inv [D] fx w E (borG bor) w3 E3 a3 s' := fun I3 => ⟨I3.good, I3.fix, I3.fr, I3.size, I3.has, I3.defers, I.evo.trans I3.evo⟩
  have ra : ∀ {w3 E3 G3}, Evo w1 E1 s.sto.get w3 E3 G3 → RelL w3 E3 G3 (first ++ captured) (xs.toArray ++ ys.toArray).toList := by
    intro w3 E3 G3 M
    simp only [List.append_toArray]
    exact (RelL.mono M.toMono _ _ rx).append (RelL.mono M.toMono _ _ ry)
  split at h
  · rename_i s' hev
    refine evC_sound HC (drawsP_ok hm HC) rest I1 hev ?_
    intro w3 E3 a3 I3
    show Leaves P fn a3.tmps _ a3.defers .returning w3
    rw [I3.defers]
    exact leave_ok (x := none) hm HC h rfl (up I3) he (ra I3.evo) trivial (fun p hp => by cases hp)
  · rename_i s' hev
    refine evC_sound HC (drawsP_ok hm HC) rest I1 hev ?_
    intro w3 E3 a3 I3
    show Leaves P fn a3.tmps _ a3.defers .returning w3
    rw [I3.defers]
    exact leave_ok (x := none) hm HC h rfl (up I3) he (ra I3.evo) trivial (fun p hp => by cases hp)
  · rename_i p s' hev
    split at h
    · rename_i hpure
      refine evC_sound HC (drawsP_ok hm HC) rest I1 hev ?_
      intro w3 E3 a3 u I3 rp
      show Leaves P fn a3.tmps _ a3.defers _ w3
      rw [I3.defers]
      exact leave_ok (x := some u) hm HC h rfl (up I3) he (ra I3.evo) rp (fun p' hp => by cases hp; exact hpure)
    · cases h
  · cases h

theorem evDf_ok {pol : Pol} {call : Callee} {fx : List (Nat × Nat × Value)} (hm : P.follows .mixedOrders = true) (HC : CallOk P fx call) {k : Nat} {keep : Bool} {fn : Func} {r : CallR} {bor : List Ent} : ∀ (c : Code) {w1 : World} {E1 : Env} {a1 : Act} {s : St}, Inv [] fx w E (borG bor) w1 E1 a1 s →
    evDf P call k (drawsP P call) (deferP P pol call k keep fn) (endP P keep fn) c s = some r → c.wp P (bodyPostD P fn (CallPost w E bor r)) a1 w1
  | .seq x y, w1, E1, a1, s, I, h => by
    unfold evDf at h
    refine wp_seq ?_
    split at h
    · rename_i ops before t hd
      unfold isDefer at hd
      split at hd
      case h_2 => cases hd
      rename_i id ops'
      split at hd
      case h_2 => cases hd
      rename_i o bef hrev
      split at hd
      case h_2 => cases hd
      rename_i c hop hg hdst
      split at hd
      case h_2 => cases hd
      rename_i t' hcal
      split at hd
      case h_2 => cases hd
      rename_i hargs
      simp only [Option.some.injEq, Prod.mk.injEq] at hd
      obtain ⟨rfl, rfl, rfl⟩ := hd
      have hops : ops'.toList = bef.reverse ++ [o] := by
        have := congrArg List.reverse hrev
        simpa using this
      refine wp_region_list ?_
      rw [hops]
      split at h
      · rename_i s' hev
        refine evOps_more HC _ I hev ?_ (fun hne => absurd rfl hne)
        rintro - w' E' a' I'
        obtain ⟨D, hD, hw⟩ := defer_ok hm HC h I'
        refine wpList_step fun K hK => ?_
        have hwant : Region.wanted o (yielded ops' a'.tmps) = true := by simp [Region.wanted, hg]
        rw [hwant]
        simp only [if_true]
        have hexec : (execOp a'.eval o).run P w' = .ok (.defer D) w' := by
          have : c.args.map a'.eval = #[] := by
            apply Array.toList_inj.1
            simp [hargs]
          simp [execOp, hop, resolve, hcal, this, hD]
        show o.upon P a' K _ ((execOp a'.eval o).run P w')
        rw [hexec, Oper.upon_defer, hdst]
        exact hK _ _ hw
      · rename_i ex s' hne hev
        refine evOps_more HC _ I hev (fun he => (hne he).elim) (fun _ => ?_)
        have hp := endP_okD (w := w) (E := E) (fx := fx) (bor := bor) h
        cases ex with
        | normal => exact (hne rfl).elim
        | exit id => cases h
        | ret => exact hp
        | panic p => exact hp
      · cases h
    · rename_i hd
      split at h
      · rename_i s' hev
        exact evC_sound HC (drawsP_ok hm HC) x I hev (fun w' E' a' I' => evDf_ok hm HC y I' h)
      · rename_i ex s' hne hev
        refine evC_sound HC (drawsP_ok hm HC) x I hev ?_
        have hp := endP_okD (w := w) (E := E) (fx := fx) (bor := bor) h
        cases ex with
        | normal => exact (hne rfl).elim
        | exit id => cases h
        | ret => exact hp
        | panic p => exact hp
      · cases h
  | .skip, _, _, _, _, _, h => by cases (show (none : Option CallR) = some r from h)
  | .label _, _, _, _, _, _, h => by cases (show (none : Option CallR) = some r from h)
  | .region _ _ _, _, _, _, _, _, h => by cases (show (none : Option CallR) = some r from h)
  | .cond _ _ _, _, _, _, _, _, h => by cases (show (none : Option CallR) = some r from h)
  | .block _ _, _, _, _, _, _, h => by cases (show (none : Option CallR) = some r from h)
  | .loop _, _, _, _, _, _, h => by cases (show (none : Option CallR) = some r from h)
  | .rangeFunc .., _, _, _, _, _, h => by cases (show (none : Option CallR) = some r from h)
  | .exit _, _, _, _, _, _, h => by cases (show (none : Option CallR) = some r from h)
  | .scope _, _, _, _, _, _, h => by cases (show (none : Option CallR) = some r from h)
  | .goto _, _, _, _, _, _, h => by cases (show (none : Option CallR) = some r from h)
  | .refuse _, _, _, _, _, _, h => by cases (show (none : Option CallR) = some r from h)
  | .ret, _, _, _, _, _, h => by cases (show (none : Option CallR) = some r from h)

theorem evF_ok {pol : Pol} {fx : List (Nat × Nat × Value)} (hm : P.follows .mixedOrders = true) (hh : CallOk P fx pol.hook) : ∀ k, CallOk P fx (evF P pol k)
  | 0 => by intro f args bor r h; simp [evF] at h
  | k + 1 => by
    have HC := evF_ok hm hh k
    intro f args bor r h w E us g hfx rl
    unfold evF at h
    split at h
    · rename_i r' hr'
      cases h
      exact hh f args bor _ hr' w E us g hfx rl
    simp only [Option.bind_eq_bind, Option.bind_eq_some_iff] at h
    obtain ⟨fn, hfn, body, hbody, h⟩ := h
    unfold goF at h
    split at h
    case h_2 => cases h
    rename_i hle
    rw [Nat.ble_eq] at hle
    rw [fillK_eq, forceL_eq] at h
    have I := start_inv g hfx rl hle (pol.wr f)
    split at h
    · refine calls_of_wp_defers hfn hbody ?_
      exact evDf_ok hm HC body I h
    · refine calls_of_wp hfn hbody ?_
      split at h
      · rename_i ex s' hev
        exact evC_sound HC (drawsP_ok hm HC) body I hev (endP_ok h)
      · cases h

/-- No function is known otherwise. -/
def noHook : Callee := fun _ _ _ => none
theorem noHook_ok {fx : List (Nat × Nat × Value)} : CallOk P fx noHook := by intro f args bor r h; cases h

/-- A call whose run is known, from no variables. -/
theorem calls_of_run {pol : Pol} {fx : List (Nat × Nat × Value)} (hm : P.follows .mixedOrders = true) (hh : CallOk P fx pol.hook) {k : Nat} {f : FuncId} {args : List PV} {p : PV} {bor : List Ent} (h : evF P pol k f args [] = some (.ret p bor)) {w : World} {lim : Nat → Nat} {us : List Value}
    (hfx : Fix fx w ⟨fun _ => 0, lim⟩) (rl : RelL w ⟨fun _ => 0, lim⟩ (borG []) args us) : Calls P f us.toArray w fun e w' => ∃ u E' G', e = .returned u ∧ Rel w' E' G' p u ∧ Good w' E' G' ∧ (∀ i, G' (.bor i) = (0, (bor[i]?).getD .none)) ∧ Below w.heap.size w w' ∧ (∀ b, b < w.heap.size → E'.lim b = lim b) := by
  have hnone : ∀ k, (borG [] k).2 = .none := by intro k; cases k <;> rfl
  have g : Good w ⟨fun _ => 0, lim⟩ (borG []) := ⟨fun k cs h => (by rw [hnone] at h; cases h), fun k n e sz h => (by rw [hnone] at h; cases h), fun k ks vs h => (by rw [hnone] at h; cases h), fun k k' h => absurd (hnone k) h⟩
  refine (evF_ok hm hh k f args [] _ h w _ us g hfx rl).mono ?_
  rintro e w' ⟨u, E', G', rfl, hG, V, g', r⟩
  exact ⟨u, E', G', rfl, r, g', hG, ⟨V.os, V.tape, V.output, V.size, fun b hb => V.kept b hb fun k hk => absurd (hnone k) hk⟩, fun b hb => V.limk b hb fun k hk => absurd (hnone k) hk⟩
end
end Go.Pv
