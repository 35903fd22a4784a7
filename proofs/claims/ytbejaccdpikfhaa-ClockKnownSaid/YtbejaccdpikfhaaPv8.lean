/- How results leave a call: what it made and does not hand on is written no more; the rest gets the caller's names. -/
import Derived.Test.YtbejaccdpikfhaaPv7
set_option linter.unusedSimpArgs false
set_option linter.unusedVariables false
namespace Go.Pv
open Go.RowKit

/-- What becomes of the variables that are not handed on. -/
def sealG (G : Get) (L : List Key) : Get
  | .loc s => if L.contains (.loc s) then G (.loc s) else ((G (.loc s)).1 + 1, .none)
  | .bor i => G (.bor i)
def cellsIn (w : World) (b : Nat) : Nat := match w.heap[b]? with
  | some (.cells arr _ _) => arr.size
  | _ => 1
open Classical in
noncomputable def sealE (w : World) (E : Env) (G : Get) (L : List Key) : Env :=
  ⟨E.β, fun b => if ∃ s, L.contains (.loc s) = false ∧ (G (.loc s)).2.boxy ∧ E.β (.loc s) = b then cellsIn w b else E.lim b⟩

section
variable {w : World} {E : Env} {G : Get} {L : List Key}
theorem seal_in {s : Nat} (h : L.contains (.loc s) = true) : sealG G L (.loc s) = G (.loc s) := by simp only [sealG, h, if_true]
theorem seal_out {s : Nat} (h : L.contains (.loc s) = false) : sealG G L (.loc s) = ((G (.loc s)).1 + 1, .none) := by simp only [sealG, h, Bool.false_eq_true, if_false]
theorem seal_live {k : Key} (h : (sealG G L k).2 ≠ .none) : sealG G L k = G k := by
  cases k with
  | bor i => rfl
  | loc s =>
    cases hc : L.contains (.loc s) with
    | true => exact seal_in hc
    | false => rw [seal_out hc] at h; exact absurd rfl h
theorem seal_gen {k : Key} (h : (G k).1 = (sealG G L k).1) : sealG G L k = G k := by
  cases k with
  | bor i => rfl
  | loc s =>
    cases hc : L.contains (.loc s) with
    | true => exact seal_in hc
    | false => rw [seal_out hc] at h; simp at h
/-- A block that is handed on keeps what is known of it. -/
theorem seal_lim (g : Good w E G) {k : Key} (h : (sealG G L k).2 ≠ .none) : (sealE w E G L).lim (E.β k) = E.lim (E.β k) := by
  have hk : (G k).2 ≠ .none := by rw [← seal_live h]; exact h
  unfold sealE
  simp only
  rw [if_neg]
  rintro ⟨s, hs, hb, e⟩
  have := g.inj (.loc s) k (Ent.ne_of_boxy hb) hk e
  subst this
  rw [seal_out hs] at h
  exact absurd rfl h
theorem seal_lim0 {b : Nat} (h : ∀ s, L.contains (.loc s) = false → (G (.loc s)).2.boxy → E.β (.loc s) ≠ b) : (sealE w E G L).lim b = E.lim b := by
  unfold sealE
  simp only
  rw [if_neg]
  rintro ⟨s, hs, hb, e⟩
  exact h s hs hb e
theorem seal_at {s : Nat} (hs : L.contains (.loc s) = false) (hb : (G (.loc s)).2.boxy) : (sealE w E G L).lim (E.β (.loc s)) = cellsIn w (E.β (.loc s)) := by
  unfold sealE
  simp only
  rw [if_pos ⟨s, hs, hb, rfl⟩]
theorem boxy_lim (g : Good w E G) {k : Key} (hb : (G k).2.boxy) : E.lim (E.β k) = 0 := by
  cases e : (G k).2 with
  | cells cs => obtain ⟨_, _, _, _, _, h⟩ := g.cells k cs e; exact h
  | map ks vs => obtain ⟨_, _, _, _, _, h⟩ := g.map k ks vs e; exact h
  | none => rw [e] at hb; exact hb.elim
  | top n el sz => rw [e] at hb; exact hb.elim
theorem seal_pos (g : Good w E G) {b o : Nat} (h : o < E.lim b) : (sealE w E G L).lim b = E.lim b := by
  refine seal_lim0 fun s _ hb e => ?_
  have := boxy_lim g hb
  rw [e] at this
  omega
theorem seal_mono (g : Good w E G) : Mono w E G w (sealE w E G L) (sealG G L) := by
  refine ⟨fun k => ?_, fun k h hb => ?_, fun b es c h hh => ⟨by rw [seal_pos g h]; exact h, hh⟩, fun b o u h hc => ⟨by rw [seal_pos g h]; exact h, hc⟩, fun k n e sz h ht => ?_⟩
  · cases k with
    | bor i => exact Nat.le_refl _
    | loc s =>
      cases hc : L.contains (.loc s) with
      | true => rw [seal_in hc]; exact Nat.le_refl _
      | false => rw [seal_out hc]; exact Nat.le_succ _
  · rw [seal_gen h]; exact ⟨Ent.alike_boxy hb, rfl, fun _ h => h⟩
  · have hs := seal_gen h
    refine ⟨n, by rw [hs]; exact ht, Nat.le_refl _, fun _ => ⟨rfl, seal_lim g (by rw [hs, ht]; simp), fun arr t hh => ⟨arr, hh, rfl⟩⟩⟩
theorem seal_good (g : Good w E G) : Good w (sealE w E G L) (sealG G L) := by
  have M := seal_mono (L := L) g
  refine ⟨?_, ?_, ?_, ?_⟩
  · intro k cs h
    have hne : (sealG G L k).2 ≠ .none := by rw [h]; simp
    rw [seal_live hne] at h
    obtain ⟨vs, t, hh, r, h1, hl⟩ := g.cells k cs h
    exact ⟨vs, t, hh, r.mono M, h1, by show (sealE w E G L).lim (E.β k) = 0; rw [seal_lim g hne, hl]⟩
  · intro k n e sz h
    have hne : (sealG G L k).2 ≠ .none := by rw [h]; simp
    rw [seal_live hne] at h
    exact g.line k n e sz h
  · intro k ks vs h
    have hne : (sealG G L k).2 ≠ .none := by rw [h]; simp
    rw [seal_live hne] at h
    obtain ⟨es, c, hh, hk, r, hl⟩ := g.map k ks vs h
    exact ⟨es, c, hh, hk, RelL.mono M _ _ r, by show (sealE w E G L).lim (E.β k) = 0; rw [seal_lim g hne, hl]⟩
  · intro k k' h h' e
    have h1 := seal_live h
    have h2 := seal_live h'
    rw [h1] at h
    rw [h2] at h'
    exact g.inj k k' h h' e

theorem relC_of : ∀ {cs : List PV} {vs : List Value} {b o : Nat}, RelL w E G cs vs → (∀ (j : Nat) (v : Value), vs[j]? = some v → o + j < E.lim b ∧ w.cell? ⟨b, o + j, none⟩ = some v ∧ v.oneCell' = true) → RelC w E G cs b o
  | [], _, _, _, _, _ => by simp only [RelC]
  | p :: ps, vs, b, o, r, h => by
    simp only [RelL] at r
    obtain ⟨x, xs, rfl, r1, r2⟩ := r
    simp only [RelC]
    obtain ⟨h1, h2, h3⟩ := h 0 x rfl
    refine ⟨⟨h1, x, h2, h3, r1⟩, relC_of r2 fun j v hv => ?_⟩
    have := h (j + 1) v (by simpa using hv)
    rwa [show o + (j + 1) = o + 1 + j by omega] at this
theorem relR_chunks {sz b : Nat} : ∀ (n : Nat) {cs : List PV} {vs : List Value} {o : Nat}, RelL w E G cs vs → n * sz ≤ cs.length → (∀ (j : Nat) (v : Value), vs[j]? = some v → o + j < E.lim b ∧ w.cell? ⟨b, o + j, none⟩ = some v ∧ v.oneCell' = true) → RelR w E G (chunks sz n cs) b o sz
  | 0, _, _, _, _, _, _ => by simp only [chunks, RelR]
  | n + 1, cs, vs, o, r, hle, h => by
    rw [Nat.add_mul, Nat.one_mul] at hle
    simp only [chunks]
    rw [RelR_cons]
    have rest : RelR w E G (chunks sz n (cs.drop sz)) b (o + sz) sz := by
      refine relR_chunks n (RelL.drop sz r) (by simp; omega) fun j v hv => ?_
      rw [List.getElem?_drop] at hv
      have := h (sz + j) v hv
      rwa [show o + (sz + j) = o + sz + j by omega] at this
    refine ⟨?_, rest⟩
    split
    · rename_i e1
      subst e1
      cases cs with
      | nil => simp at hle
      | cons p ps =>
        simp only [RelL] at r
        obtain ⟨x, xs, rfl, r1, _⟩ := r
        obtain ⟨h1, h2, h3⟩ := h 0 x rfl
        have hna : ∀ l, p ≠ .agg l := by
          rintro l rfl
          simp only [Rel] at r1
          obtain ⟨_, rfl, _⟩ := r1
          simp [Value.oneCell'] at h3
        have hf : p.flat = [p] := by cases p <;> first | rfl | exact absurd rfl (hna _)
        simp only [List.getD_cons_zero]
        rw [hf]
        exact ⟨rfl, by simp only [RelC]; exact ⟨⟨h1, x, h2, h3, r1⟩, trivial⟩⟩
    · simp only [PV.flat]
      refine ⟨by simp; omega, relC_of (RelL.take sz r) fun j v hv => ?_⟩
      rw [List.getElem?_take] at hv
      split at hv
      · exact h j v hv
      · cases hv

theorem mine_spec {k : Key} {g : Nat} (h : mine G L k g = true) : ∃ s, k = .loc s ∧ g = (G k).1 ∧ L.contains (.loc s) = false := by
  cases k with
  | bor i => simp [mine] at h
  | loc s =>
    simp only [mine, Bool.and_eq_true, beq_iff_eq, Bool.not_eq_true'] at h
    exact ⟨s, rfl, h.1, h.2⟩
theorem frz_not_agg {p : PV} (h : ∀ cs, p ≠ .agg cs) : ∀ cs, frz G L p ≠ .agg cs := by
  intro cs
  cases p <;> simp only [frz]
  case agg l => exact absurd rfl (h l)
  case sl k g off n sz => repeat' split
                          all_goals simp
  case mref k g => repeat' split
                   all_goals simp
  all_goals simp
theorem flat_not_agg {p : PV} (h : ∀ cs, p ≠ .agg cs) : p.flat = [p] := by cases p <;> first | rfl | exact absurd rfl (h _)
theorem frz_one (g : Good w E G) {p : PV} (hp : ∀ cs, p ≠ .agg cs) (key : ∀ u, Rel w E G p u → Rel w (sealE w E G L) (sealG G L) (frz G L p) u) {b o sz : Nat} (h : p.flat.length = sz ∧ RelC w E G p.flat b o) :
    (frz G L p).flat.length = sz ∧ RelC w (sealE w E G L) (sealG G L) (frz G L p).flat b o := by
  rw [flat_not_agg hp] at h
  rw [flat_not_agg (frz_not_agg hp)]
  refine ⟨h.1, ?_⟩
  have h2 := h.2
  simp only [RelC] at h2 ⊢
  obtain ⟨⟨hl, u, hc, ho, hr⟩, _⟩ := h2
  obtain ⟨h3, h4⟩ := (seal_mono (L := L) g).cell b o u hl hc
  exact ⟨⟨h3, u, h4, ho, key u hr⟩, trivial⟩
mutual
theorem frz_rel (g : Good w E G) : ∀ (p : PV) (u : Value), Rel w E G p u → Rel w (sealE w E G L) (sealG G L) (frz G L p) u
  | .any, u, h => by simp only [frz, Rel]
  | .v x, u, h => by simp only [frz, Rel] at h ⊢; exact h
  | .agg cs, u, h => by simp only [frz, Rel] at h ⊢; obtain ⟨vs, e, k⟩ := h; exact ⟨vs, e, frz_relL g cs vs k⟩
  | .tup cs, u, h => by simp only [frz, Rel] at h ⊢; obtain ⟨vs, e, k⟩ := h; exact ⟨vs, e, frz_relL g cs vs k⟩
  | .ref k gn off, u, h => by
    rw [show frz G L (.ref k gn off) = .ref k gn off from by simp only [frz]]
    exact Rel.mono (seal_mono g) _ _ h
  | .eptr cs off, u, h => by
    simp only [frz, Rel] at h ⊢
    obtain ⟨b, o, e, k⟩ := h
    exact ⟨b, o, e, frz_relC g cs b o k⟩
  | .vec tok es, u, h => by
    simp only [frz, Rel] at h ⊢
    rcases h with ⟨rfl, rfl, hu⟩ | ⟨b, o, c, sz, e, hl, ht, k⟩
    · exact .inl ⟨rfl, rfl, hu⟩
    · refine .inr ⟨b, o, c, sz, by rw [frzL_length]; exact e, by rw [frzL_length]; exact hl, by rw [frzL_length]; exact TokOk.mono (seal_mono g) ht, frz_relR g es b o sz k⟩
  | .fn f as cs, u, h => by simp only [frz, Rel] at h ⊢; obtain ⟨xs, ys, e, k1, k2⟩ := h; exact ⟨xs, ys, e, frz_relL g as xs k1, frz_relL g cs ys k2⟩
  | .iface t p, u, h => by simp only [frz, Rel] at h ⊢; obtain ⟨x, e, k⟩ := h; exact ⟨x, e, frz_rel g p x k⟩
  | .sl k gn off n sz, u, h => by
    simp only [frz]
    split
    · rename_i hm
      obtain ⟨s, rfl, hg, hL⟩ := mine_spec hm
      split
      · rename_i cs hc
        split
        · rename_i hle
          obtain ⟨eg, he⟩ := live_cells hc
          obtain ⟨c, hn, rfl⟩ := sl_rel (by rw [hc]; rfl) h
          obtain ⟨_, t, hh, ⟨vs, rest, rfl, r⟩, h1, _⟩ := g.cells _ cs he
          have hlies := (Lies.of_row hh).left'
          have hlim : (sealE w E G L).lim (E.β (.loc s)) = (vs ++ rest).length := by
            rw [seal_at hL (by rw [he]; trivial)]
            simp only [cellsIn, hh, List.size_toArray]
          simp only [Rel]
          refine .inr ⟨E.β (.loc s), off, c, sz, by rw [chunks_length], by rw [chunks_length]; exact hn, trivial, ?_⟩
          refine relR_chunks n (RelL.mono (seal_mono g) _ _ (RelL.drop off r)) (by simp; omega) fun j v hv => ?_
          rw [List.getElem?_drop] at hv
          have hlt := (List.getElem?_eq_some_iff.1 hv).1
          refine ⟨by rw [hlim, List.length_append]; omega, ?_, h1 v (List.mem_append_left _ (List.mem_of_getElem? hv))⟩
          have := hlies (off + j) v hv
          rwa [Nat.zero_add] at this
        · simp only [Rel]
      · simp only [Rel]
    · exact Rel.mono (seal_mono g) _ _ h
  | .mref k gn, u, h => by
    simp only [frz]
    split
    · rename_i hm
      obtain ⟨s, rfl, hg, hL⟩ := mine_spec hm
      split
      · rename_i m hc
        have hu := mref_rel hc h
        obtain ⟨eg, he⟩ := mapAt_live (ks := m.1) (vs := m.2) hc
        obtain ⟨es, c, hh, hk, r, _⟩ := g.map _ m.1 m.2 he
        simp only [Rel]
        refine ⟨_, es, c, hu, ?_, hh, hk, RelL.mono (seal_mono g) _ _ r⟩
        rw [seal_at hL (by rw [he]; trivial)]
        simp [cellsIn, hh]
      · simp only [Rel]
    · exact Rel.mono (seal_mono g) _ _ h
  | .imap ks vs, u, h => by
    simp only [frz, Rel] at h ⊢
    obtain ⟨r, es, c, hu, hl, hh, hk, hv⟩ := h
    obtain ⟨h1, h2⟩ := (seal_mono (L := L) g).mapk r es c hl hh
    exact ⟨r, es, c, hu, h1, h2, hk, frz_relL g vs _ hv⟩
theorem frz_relL (g : Good w E G) : ∀ (ps : List PV) (vs : List Value), RelL w E G ps vs → RelL w (sealE w E G L) (sealG G L) (frzL G L ps) vs
  | [], vs, h => by simp only [frzL, RelL] at h ⊢; exact h
  | p :: ps, vs, h => by simp only [frzL, RelL] at h ⊢; obtain ⟨x, xs, e, k1, k2⟩ := h; exact ⟨x, xs, e, frz_rel g p x k1, frz_relL g ps xs k2⟩
theorem frz_relC (g : Good w E G) : ∀ (ps : List PV) (b o : Nat), RelC w E G ps b o → RelC w (sealE w E G L) (sealG G L) (frzL G L ps) b o
  | [], _, _, _ => by simp only [frzL, RelC]
  | p :: ps, b, o, h => by
    simp only [frzL, RelC] at h ⊢
    obtain ⟨⟨hl, u, hc, ho, hr⟩, k⟩ := h
    obtain ⟨h1, h2⟩ := (seal_mono (L := L) g).cell b o u hl hc
    exact ⟨⟨h1, u, h2, ho, frz_rel g p u hr⟩, frz_relC g ps b (o + 1) k⟩
theorem frz_relR (g : Good w E G) : ∀ (ps : List PV) (b o sz : Nat), RelR w E G ps b o sz → RelR w (sealE w E G L) (sealG G L) (frzL G L ps) b o sz
  | [], _, _, _, _ => by simp only [frzL, RelR]
  | .agg cs :: ps, b, o, sz, h => by
    simp only [frzL, frz]
    rw [RelR_cons] at h ⊢
    exact ⟨⟨by simp only [PV.flat, frzL_length] at h ⊢; exact h.1.1, frz_relC g cs b o h.1.2⟩, frz_relR g ps b (o + sz) sz h.2⟩
  | .any :: ps, b, o, sz, h => by
    simp only [frzL]
    rw [RelR_cons] at h ⊢
    exact ⟨frz_one g (by intro cs e; cases e) (frz_rel g (.any)) h.1, frz_relR g ps b (o + sz) sz h.2⟩
  | .v x :: ps, b, o, sz, h => by
    simp only [frzL]
    rw [RelR_cons] at h ⊢
    exact ⟨frz_one g (by intro cs e; cases e) (frz_rel g (.v x)) h.1, frz_relR g ps b (o + sz) sz h.2⟩
  | .tup x :: ps, b, o, sz, h => by
    simp only [frzL]
    rw [RelR_cons] at h ⊢
    exact ⟨frz_one g (by intro cs e; cases e) (frz_rel g (.tup x)) h.1, frz_relR g ps b (o + sz) sz h.2⟩
  | .ref x y z :: ps, b, o, sz, h => by
    simp only [frzL]
    rw [RelR_cons] at h ⊢
    exact ⟨frz_one g (by intro cs e; cases e) (frz_rel g (.ref x y z)) h.1, frz_relR g ps b (o + sz) sz h.2⟩
  | .eptr x y :: ps, b, o, sz, h => by
    simp only [frzL]
    rw [RelR_cons] at h ⊢
    exact ⟨frz_one g (by intro cs e; cases e) (frz_rel g (.eptr x y)) h.1, frz_relR g ps b (o + sz) sz h.2⟩
  | .vec x y :: ps, b, o, sz, h => by
    simp only [frzL]
    rw [RelR_cons] at h ⊢
    exact ⟨frz_one g (by intro cs e; cases e) (frz_rel g (.vec x y)) h.1, frz_relR g ps b (o + sz) sz h.2⟩
  | .fn x y z :: ps, b, o, sz, h => by
    simp only [frzL]
    rw [RelR_cons] at h ⊢
    exact ⟨frz_one g (by intro cs e; cases e) (frz_rel g (.fn x y z)) h.1, frz_relR g ps b (o + sz) sz h.2⟩
  | .iface x y :: ps, b, o, sz, h => by
    simp only [frzL]
    rw [RelR_cons] at h ⊢
    exact ⟨frz_one g (by intro cs e; cases e) (frz_rel g (.iface x y)) h.1, frz_relR g ps b (o + sz) sz h.2⟩
  | .sl q1 q2 x y z :: ps, b, o, sz, h => by
    simp only [frzL]
    rw [RelR_cons] at h ⊢
    exact ⟨frz_one g (by intro cs e; cases e) (frz_rel g (.sl q1 q2 x y z)) h.1, frz_relR g ps b (o + sz) sz h.2⟩
  | .mref q1 q2 :: ps, b, o, sz, h => by
    simp only [frzL]
    rw [RelR_cons] at h ⊢
    exact ⟨frz_one g (by intro cs e; cases e) (frz_rel g (.mref q1 q2)) h.1, frz_relR g ps b (o + sz) sz h.2⟩
  | .imap x y :: ps, b, o, sz, h => by
    simp only [frzL]
    rw [RelR_cons] at h ⊢
    exact ⟨frz_one g (by intro cs e; cases e) (frz_rel g (.imap x y)) h.1, frz_relR g ps b (o + sz) sz h.2⟩
theorem frzL_length : ∀ (ps : List PV), (frzL G L ps).length = ps.length
  | [] => by simp only [frzL]
  | p :: ps => by simp only [frzL, List.length_cons, frzL_length ps]
end
end
end Go.Pv
namespace Go.Pv
open Go.RowKit

theorem mem_locKeys {k : Key} : ∀ {ks : List Key}, k ∈ locKeys ks → k ∈ ks ∧ ∃ s, k = .loc s
  | [], h => by cases h
  | .loc s :: ks, h => by
    simp only [locKeys] at h
    rcases List.mem_cons.1 h with rfl | h
    · exact ⟨by simp, s, rfl⟩
    · obtain ⟨h1, h2⟩ := mem_locKeys h
      exact ⟨by simp [h1], h2⟩
  | .bor i :: ks, h => by
    simp only [locKeys] at h
    obtain ⟨h1, h2⟩ := mem_locKeys h
    exact ⟨by simp [h1], h2⟩
theorem locKeys_nodup : ∀ {ks : List Key}, ks.Nodup → (locKeys ks).Nodup
  | [], _ => by simp [locKeys]
  | .loc s :: ks, h => by
    simp only [locKeys]
    have h' := List.nodup_cons.1 h
    exact List.nodup_cons.2 ⟨fun hm => h'.1 (mem_locKeys hm).1, locKeys_nodup h'.2⟩
  | .bor i :: ks, h => by
    simp only [locKeys]
    exact locKeys_nodup (List.nodup_cons.1 h).2

section
variable {w w' : World} {E Es : Env} {bor : List Ent} {sto : Sto}
/-- What the i-th variable that is handed back was called. -/
def Was (sto : Sto) (L : List Key) (i : Nat) (k : Key) : Prop := (i < sto.bor.length ∧ k = .bor i) ∨ (sto.bor.length ≤ i ∧ L[i - sto.bor.length]? = some k)
theorem out_good (V : Evo w E (borG bor) w' Es sto.get) (g : Good w' Es sto.get) {L : List Key} (hn : L.Nodup) (hL : ∀ k ∈ L, ∃ s, k = .loc s) :
    ∃ E', Evo w E (borG bor) w' E' (borG (sto.bor.map (renEQ (out sto.get sto.bor.length L)) ++ L.map fun k => renEQ (out sto.get sto.bor.length L) (sto.get k).2)) ∧
      Good w' E' (borG (sto.bor.map (renEQ (out sto.get sto.bor.length L)) ++ L.map fun k => renEQ (out sto.get sto.bor.length L) (sto.get k).2)) ∧
      Compat (sealE w' Es sto.get L) (sealG sto.get L) E' (borG (sto.bor.map (renEQ (out sto.get sto.bor.length L)) ++ L.map fun k => renEQ (out sto.get sto.bor.length L) (sto.get k).2)) (out sto.get sto.bor.length L) := by
  generalize hm : out sto.get sto.bor.length L = m
  generalize hB : sto.bor.map (renEQ m) ++ L.map (fun k => renEQ m (sto.get k).2) = B
  let E' : Env := ⟨fun k => match k with | .bor i => if i < sto.bor.length then Es.β (.bor i) else Es.β (L.getD (i - sto.bor.length) default) | .loc _ => 0, (sealE w' Es sto.get L).lim⟩
  have wasB : ∀ {i k}, Was sto L i k → borG B (.bor i) = (0, renEQ m (sto.get k).2) ∧ E'.β (.bor i) = Es.β k ∧ sealG sto.get L k = sto.get k := by
    intro i k h
    rcases h with ⟨h, rfl⟩ | ⟨h, hk⟩
    · refine ⟨?_, by simp only [E', h, if_true], rfl⟩
      rw [borG_bor, ← hB, List.getElem?_append_left (by simpa using h)]
      simp [Sto.get, h]
    · refine ⟨?_, ?_, ?_⟩
      · rw [borG_bor, ← hB, List.getElem?_append_right (by simpa using h)]
        simp [hk]
      · have : ¬ i < sto.bor.length := by omega
        simp only [E', this, if_false, List.getD, hk, Option.getD_some]
      · obtain ⟨s, rfl⟩ := hL k (List.mem_of_getElem? hk)
        exact seal_in (by simpa using List.mem_of_getElem? hk)
  have live : ∀ q, (borG B q).2 ≠ .none → ∃ i k, q = .bor i ∧ Was sto L i k ∧ (sto.get k).2 ≠ .none := by
    intro q h
    cases q with
    | loc s => simp [borG_loc] at h
    | bor i =>
      have : ∃ k, Was sto L i k := by
        by_cases hi : i < sto.bor.length
        · exact ⟨_, .inl ⟨hi, rfl⟩⟩
        · cases e : L[i - sto.bor.length]? with
          | some k => exact ⟨k, .inr ⟨by omega, e⟩⟩
          | none =>
            exfalso
            rw [borG_bor, ← hB, List.getElem?_append_right (by simp; omega)] at h
            simp [e] at h
      obtain ⟨k, hw⟩ := this
      rw [(wasB hw).1] at h
      exact ⟨i, k, rfl, hw, (renE_none _ _).1 h⟩
  have inj : ∀ {i j k}, Was sto L i k → Was sto L j k → i = j := by
    intro i j k h1 h2
    rcases h1 with ⟨h1, rfl⟩ | ⟨h1, k1⟩
    · rcases h2 with ⟨_, e⟩ | ⟨_, k2⟩
      · exact Key.bor.inj e
      · obtain ⟨s, e⟩ := hL _ (List.mem_of_getElem? k2); cases e
    · rcases h2 with ⟨_, rfl⟩ | ⟨h2, k2⟩
      · obtain ⟨s, e⟩ := hL _ (List.mem_of_getElem? k1); cases e
      · have a1 := idx_of (n := 0) hn k1
        have a2 := idx_of (n := 0) hn k2
        rw [a1] at a2
        simp at a2
        omega
  have C : Compat (sealE w' Es sto.get L) (sealG sto.get L) E' (borG B) m := by
    refine ⟨rfl, fun k gn k' g' h => ?_⟩
    have key : ∃ i, k' = .bor i ∧ g' = 0 ∧ Was sto L i k ∧ gn = (sto.get k).1 := by
      rw [← hm] at h
      cases k with
      | bor i =>
        simp only [out] at h
        split at h
        · rename_i hc
          simp only [Option.some.injEq, Prod.mk.injEq] at h
          exact ⟨i, h.1.symm, h.2.symm, .inl ⟨hc.1, rfl⟩, hc.2⟩
        · cases h
      | loc s =>
        simp only [out] at h
        split at h
        · rename_i hc
          simp only [Option.map_eq_some_iff, Prod.mk.injEq] at h
          obtain ⟨j, hj, h1, h2⟩ := h
          have := (idx_some hj).2
          simp only [Nat.sub_zero] at this
          exact ⟨_, h1.symm, h2.symm, .inr ⟨by omega, by rw [show sto.bor.length + j - sto.bor.length = j by omega]; exact this⟩, hc⟩
        · cases h
    obtain ⟨i, rfl, rfl, hw, hg⟩ := key
    obtain ⟨h1, h2, h3⟩ := wasB hw
    rw [h1, h2, h3]
    exact ⟨by omega, fun _ => ⟨rfl, fun hb => ⟨renE_alike _ _ (Ent.ne_of_boxy hb), rfl⟩, fun n e sz ht => ⟨by rw [ht]; rfl, rfl⟩⟩⟩
  have gs := seal_good (L := L) g
  have limk : ∀ {i k}, Was sto L i k → (sto.get k).2 ≠ .none → (sealE w' Es sto.get L).lim (Es.β k) = Es.lim (Es.β k) := fun hw hk => seal_lim g (by rw [(wasB hw).2.2]; exact hk)
  have old : ∀ b, b < w.heap.size → (sealE w' Es sto.get L).lim b = Es.lim b := by
    intro b hb
    refine seal_lim0 fun s _ hbx e => ?_
    rcases V.fresh (.loc s) (Ent.ne_of_boxy hbx) with ⟨a, _⟩ | hs
    · exact (Ent.alike_ne a).1 rfl
    · omega
  have keyb : ∀ {i}, (borG bor (.bor i)).2.boxy ∨ (∃ n e sz, (borG bor (.bor i)).2 = .top n e sz) → (sto.get (.bor i)).2 ≠ .none → i < sto.bor.length := by
    intro i _ h
    by_cases hi : i < sto.bor.length
    · exact hi
    · exfalso
      apply h
      simp [Sto.get, List.getElem?_eq_none (Nat.le_of_not_lt hi)]
  refine ⟨E', { gen := ?_, keep := ?_, mapk := ?_, cell := ?_, top := ?_, os := V.os, tape := V.tape, output := V.output, size := V.size, fresh := ?_, kept := V.kept, limk := ?_ }, ⟨?_, ?_, ?_, ?_⟩, C⟩
  · intro k
    cases k <;> simp [borG_bor, borG_loc]
  · intro k _ hb
    cases k with
    | loc s => rw [borG_loc] at hb; exact hb.elim
    | bor i =>
      obtain ⟨h1, h2, h3⟩ := V.keep (.bor i) (by simp [borG_bor, Sto.get]) hb
      have hw : Was sto L i (.bor i) := .inl ⟨keyb (.inl hb) (Ent.alike_ne h1).2, rfl⟩
      obtain ⟨k1, k2, _⟩ := wasB hw
      rw [k1, k2]
      exact ⟨Ent.alike_trans h1 (renE_alike _ _ (Ent.alike_ne h1).2), h2, h3⟩
  · intro b es c h hh
    obtain ⟨h1, h2⟩ := V.mapk b es c h hh
    exact (seal_mono (L := L) g).mapk b es c h1 h2
  · intro b o u h hc
    obtain ⟨h1, h2⟩ := V.cell b o u h hc
    exact (seal_mono (L := L) g).cell b o u h1 h2
  · intro k n e sz _ ht
    cases k with
    | loc s => rw [borG_loc] at ht; cases ht
    | bor i =>
      obtain ⟨n', h1, h2, h3⟩ := V.top (.bor i) n e sz (by simp [borG_bor, Sto.get]) ht
      have hw : Was sto L i (.bor i) := .inl ⟨keyb (.inr ⟨n, e, sz, ht⟩) (by rw [h1]; simp), rfl⟩
      obtain ⟨k1, k2, _⟩ := wasB hw
      refine ⟨n', by rw [k1, h1]; rfl, h2, fun en => ?_⟩
      obtain ⟨a1, a2, a3⟩ := h3 en
      refine ⟨k2.trans a1, ?_, a3⟩
      rw [← a1]
      show (sealE w' Es sto.get L).lim (Es.β (.bor i)) = _
      rw [limk hw (by rw [h1]; simp), a1]
      exact a2
  · intro q hq
    obtain ⟨i, k, rfl, hw, hk⟩ := live q hq
    obtain ⟨k1, k2, _⟩ := wasB hw
    rw [k1, k2]
    rcases hw with ⟨hi, rfl⟩ | ⟨hi, hki⟩
    · rcases V.fresh (.bor i) hk with ⟨a, e⟩ | hs
      · exact .inl ⟨Ent.alike_trans a (renE_alike _ _ hk), e⟩
      · exact .inr hs
    · obtain ⟨s, rfl⟩ := hL k (List.mem_of_getElem? hki)
      rcases V.fresh (.loc s) hk with ⟨a, _⟩ | hs
      · exact absurd rfl (Ent.alike_ne a).1
      · exact .inr hs
  · intro b hb hnb
    show (sealE w' Es sto.get L).lim b = _
    rw [old b hb]
    exact V.limk b hb hnb
  · intro q cs h
    obtain ⟨i, k, rfl, hw, hk⟩ := live q (by rw [h]; simp)
    obtain ⟨k1, k2, k3⟩ := wasB hw
    rw [k1] at h
    obtain ⟨cs0, h0, rfl⟩ := renE_cells h
    obtain ⟨vs, t, hh, r, h1, hl⟩ := gs.cells k cs0 (by rw [k3]; exact h0)
    rw [k2]
    exact ⟨vs, t, hh, r.ren C, h1, hl⟩
  · intro q n e sz h
    obtain ⟨i, k, rfl, hw, hk⟩ := live q (by rw [h]; simp)
    obtain ⟨k1, k2, k3⟩ := wasB hw
    rw [k1] at h
    rw [k2]
    exact gs.line k n e sz (by rw [k3]; exact renE_top h)
  · intro q ks vs h
    obtain ⟨i, k, rfl, hw, hk⟩ := live q (by rw [h]; simp)
    obtain ⟨k1, k2, k3⟩ := wasB hw
    rw [k1] at h
    obtain ⟨vs0, h0, rfl⟩ := renE_map h
    obtain ⟨es, c, hh, hks, r, hl⟩ := gs.map k ks vs0 (by rw [k3]; exact h0)
    rw [k2]
    exact ⟨es, c, hh, hks, RelL.ren C _ _ r, hl⟩
  · intro q1 q2 h1 h2 e
    obtain ⟨i, k, rfl, hw, hk⟩ := live q1 h1
    obtain ⟨j, k', rfl, hw', hk'⟩ := live q2 h2
    rw [(wasB hw).2.1, (wasB hw').2.1] at e
    have := g.inj k k' hk hk' e
    subst this
    rw [inj hw hw']

theorem finish_ok {keep : Bool} {s : St} {p : PV} {u : Value} (V : Evo w E (borG bor) w' Es s.sto.get) (g : Good w' Es s.sto.get) (r : Rel w' Es s.sto.get p u) :
    ∃ E', Evo w E (borG bor) w' E' (borG (finish keep s p).2) ∧ Good w' E' (borG (finish keep s p).2) ∧ Rel w' E' (borG (finish keep s p).2) (finish keep s p).1 u := by
  unfold finish
  simp only
  generalize hR : reach s.sto.get 64 _ [] = R
  have hn : R.Nodup := by rw [← hR]; exact reach_nodup _ _ _ _ (by simp)
  obtain ⟨E', M, g', C⟩ := out_good V g (L := locKeys R) (locKeys_nodup hn) (fun k hk => (mem_locKeys hk).2)
  refine ⟨E', M, g', ?_⟩
  split
  · rename_i hp
    have := Rel.ren C p u (Rel.mono (seal_mono g) _ _ r)
    rwa [pure_ren p hp] at this
  · exact Rel.ren C _ _ (frz_rel g p u r)
end
end Go.Pv
namespace Go.Pv
open Go.RowKit

noncomputable def fillT : List PV → Tr → Nat → Tr
  | [], t, _ => t
  | p :: ps, t, i => fillT ps (t.set i p) (i + 1)
theorem fillK_eq {β : Type} : ∀ (ps : List PV) (t : Tr) (i : Nat) (k : Tr → β), Tr.fillK ps t i k = k (fillT ps t i)
  | [], _, _, _ => rfl
  | p :: ps, t, i, k => by
    show (forceW p fun p => t.setK i p fun t => Tr.fillK ps t (i + 1) k) = _
    rw [forceW_eq, Tr.setK_eq, fillK_eq ps]
    rfl
theorem fillT_has {d : Nat} : ∀ (ps : List PV) (t : Tr) (i : Nat), t.has d → (fillT ps t i).has d
  | [], _, _, h => h
  | p :: ps, t, i, h => fillT_has ps _ _ (Tr.has_set _ _ _ _ h)
theorem fillT_low {d : Nat} : ∀ (ps : List PV) (t : Tr) (i : Nat), d < i → (fillT ps t i).get d = t.get d
  | [], _, _, _ => rfl
  | p :: ps, t, i, h => by
    show (fillT ps (t.set i p) (i + 1)).get d = _
    rw [fillT_low ps _ _ (by omega), Tr.get_set_ne _ _ _ _ (by omega)]
theorem fillT_high {d : Nat} : ∀ (ps : List PV) (t : Tr) (i : Nat), i + ps.length ≤ d → (fillT ps t i).get d = t.get d
  | [], _, _, _ => rfl
  | p :: ps, t, i, h => by
    simp only [List.length_cons] at h
    show (fillT ps (t.set i p) (i + 1)).get d = _
    rw [fillT_high ps _ _ (by omega), Tr.get_set_ne _ _ _ _ (by omega)]
theorem fillT_at {n : Nat} : ∀ (ps : List PV) (t : Tr) (i j : Nat) (p : PV), (∀ d, d < n → t.has d) → i + ps.length ≤ n → ps[j]? = some p → (fillT ps t i).get (i + j) = p
  | [], _, _, _, _, _, _, h => by simp at h
  | q :: ps, t, i, 0, p, hh, hle, h => by
    simp only [List.getElem?_cons_zero, Option.some.injEq] at h
    subst h
    simp only [List.length_cons] at hle
    show (fillT ps (t.set i q) (i + 1)).get i = _
    rw [fillT_low ps _ _ (by omega), Tr.get_set _ _ _ (hh i (by omega))]
  | q :: ps, t, i, j + 1, p, hh, hle, h => by
    simp only [List.length_cons] at hle
    show (fillT ps (t.set i q) (i + 1)).get _ = _
    rw [show i + (j + 1) = i + 1 + j by omega]
    exact fillT_at ps _ _ j p (fun d hd => Tr.has_set _ _ _ _ (hh d hd)) (by omega) (by simpa using h)

section
variable {P : Program} {w : World} {E : Env} {G : Get}
def resSem (tmps : Array Value) : ResultVar → Sem Value
  | .tmp t => pure (tmps.getD t undef)
  | .cell x t => do loadVar t (← asAddr (tmps.getD x undef))
theorem result_run {a : Act} {s : St} (g : Good w E s.sto.get) (hf : ∀ t, Rel w E s.sto.get (s.fr.get t) (a.tmps.getD t undef)) {r : ResultVar} {p : PV} (h : resultP P s r = some p) :
    ∃ v, (resSem a.tmps r).run P w = .ok v w ∧ Rel w E s.sto.get p v := by
  cases r with
  | tmp t =>
    simp only [resultP, Option.some.injEq] at h
    subst h
    exact ⟨_, rfl, hf t⟩
  | cell x t =>
    simp only [resultP] at h
    split at h
    · rename_i k gn off e
      simp only [Option.bind_eq_bind, Option.bind_eq_some_iff] at h
      obtain ⟨cs, hc, hr⟩ := h
      have hx := hf x
      rw [e] at hx
      have hu := ref_rel hc hx
      obtain ⟨vs, _, t', hh, r, hl, _⟩ := g.lies hc
      obtain ⟨u, h1, h2⟩ := run_loadVar_lies (P := P) hr r hl
      rw [Nat.zero_add] at h1
      refine ⟨u, ?_, h2⟩
      simp only [resSem, hu, asAddr, Sem.run_bind, Sem.run_pure, Result.andThen_ok, h1]
    · cases h
theorem results_run {a : Act} {s : St} (g : Good w E s.sto.get) (hf : ∀ t, Rel w E s.sto.get (s.fr.get t) (a.tmps.getD t undef)) : ∀ (rs : List ResultVar) (ps : List PV), resultsP P s rs = some ps →
    ∃ vs, (rs.mapM (resSem a.tmps)).run P w = .ok vs w ∧ RelL w E s.sto.get ps vs
  | [], ps, h => by
    simp only [resultsP, Option.some.injEq] at h
    subst h
    exact ⟨[], rfl, relL_nil⟩
  | r :: rs, ps, h => by
    simp only [resultsP, Option.bind_eq_bind, Option.bind_eq_some_iff, pure, Option.some.injEq] at h
    obtain ⟨p, hp, qs, hq, rfl⟩ := h
    obtain ⟨v, h1, h2⟩ := result_run (P := P) g hf hp
    obtain ⟨vs, h3, h4⟩ := results_run g hf rs qs hq
    refine ⟨v :: vs, ?_, relL_cons h2 h4⟩
    simp only [List.mapM_cons, Sem.run_bind, h1, Result.andThen_ok, h3, Sem.run_pure]
theorem one_or_tup {ps : List PV} {vs : List Value} (h : RelL w E G ps vs) : Rel w E G (oneOrTup ps) (if h : vs.toArray.size = 1 then vs.toArray[0] else .tuple vs.toArray) := by
  have hl := h.length
  unfold oneOrTup
  split
  · rename_i p
    simp only [RelL] at h
    obtain ⟨x, xs, rfl, hx, rfl⟩ := h
    simpa using hx
  · rename_i hn
    have : ¬ vs.toArray.size = 1 := by
      simp only [List.size_toArray]
      intro e
      rw [e] at hl
      cases ps with
      | nil => simp at hl
      | cons p ps =>
        cases ps with
        | nil => exact hn p rfl
        | cons q qs => simp at hl
    rw [dif_neg this]
    simp only [Rel]
    exact ⟨vs, rfl, h⟩

/-- The first frame of a call. -/
theorem start_rel {args : List PV} {us : List Value} (r : RelL w E G args us) {n : Nat} (hle : args.length ≤ n) : ∀ t, Rel w E G ((fillT args (Tr.full (depthOf n)) 0).get t) ((us.toArray ++ Array.replicate (n - us.toArray.size) undef).getD t undef) := by
  intro t
  have hl := r.length
  by_cases ht : t < args.length
  · obtain ⟨p, hp⟩ : ∃ p, args[t]? = some p := ⟨_, List.getElem?_eq_getElem ht⟩
    have := fillT_at (n := n) args (Tr.full (depthOf n)) 0 t p (fun d hd => depth_has n d hd) (by omega) hp
    rw [Nat.zero_add] at this
    rw [this]
    obtain ⟨v, hv, rv⟩ := r.get hp
    have e : (us.toArray ++ Array.replicate (n - us.toArray.size) undef).getD t undef = v := by
      rw [Array.getD_eq_getD_getElem?, Array.getElem?_append_left (by simp; omega)]
      simp [hv]
    rw [e]
    exact rv
  · rw [fillT_high _ _ _ (by omega), Tr.full_get]
    have e : (us.toArray ++ Array.replicate (n - us.toArray.size) undef).getD t undef = undef := by
      rw [Array.getD_eq_getD_getElem?, Array.getElem?_append_right (by simp; omega), Array.getElem?_replicate]
      split <;> rfl
    rw [e]
    exact undef_rel

/-- Names may be taken anew: what they name stays. -/
theorem gens_up {w : World} {E : Env} {G G' : Get} (g : Good w E G) (h2 : ∀ k, (G' k).2 = (G k).2) (h1 : ∀ k, (G k).1 ≤ (G' k).1) : Evo w E G w E G' ∧ Good w E G' := by
  have M : Evo w E G w E G' := by
    refine { gen := h1, keep := ?_, mapk := fun _ _ _ h k => ⟨h, k⟩, cell := fun _ _ _ h k => ⟨h, k⟩, top := ?_, os := rfl, tape := rfl, output := rfl, size := Nat.le_refl _, fresh := ?_, kept := fun _ _ _ => rfl, limk := fun _ _ _ => rfl }
    · intro q _ h
      rw [h2]
      exact ⟨Ent.alike_boxy h, rfl, fun _ h => h⟩
    · intro q n el sz e ht
      rw [h2]
      exact ⟨n, ht, Nat.le_refl _, fun _ => ⟨rfl, rfl, fun arr t hh => ⟨arr, hh, rfl⟩⟩⟩
    · intro q hq
      rw [h2] at hq ⊢
      exact .inl ⟨Ent.alike_self hq, rfl⟩
  refine ⟨M, ⟨?_, ?_, ?_, ?_⟩⟩
  · intro q cs h
    rw [h2] at h
    obtain ⟨vs, t, hh, r, h1, hl⟩ := g.cells q cs h
    exact ⟨vs, t, hh, r.mono M.toMono, h1, hl⟩
  · intro q n el sz h
    rw [h2] at h
    exact g.line q n el sz h
  · intro q ks vs h
    rw [h2] at h
    obtain ⟨es, c, hh, hk, r, hl⟩ := g.map q ks vs h
    exact ⟨es, c, hh, hk, RelL.mono M.toMono _ _ r, hl⟩
  · intro q q' h h' e
    rw [h2] at h h'
    exact g.inj q q' h h' e
theorem start_open {w : World} {E : Env} {bor : List Ent} (g : Good w E (borG bor)) (m : Nat) : Evo w E (borG bor) w E (Sto.get ⟨bor, [(1000000000, m, .none)]⟩) ∧ Good w E (Sto.get ⟨bor, [(1000000000, m, .none)]⟩) := by
  refine gens_up g (fun k => ?_) (fun k => ?_)
  · cases k with
    | bor i => rfl
    | loc s => simp only [Sto.get, assoc, borG_loc]; split <;> rfl
  · cases k with
    | bor i => exact Nat.le_refl _
    | loc s => rw [borG_loc]; exact Nat.zero_le _

theorem evF_ok {pol : Pol} {fx : List (Nat × Nat × Value)} (hm : P.follows .mixedOrders = true) (hh : CallOk P fx pol.hook) : ∀ k, CallOk P fx (evF P pol k)
  | 0 => by intro f args bor r h; simp [evF] at h
  | k + 1 => by
    have HC := evF_ok hm hh k
    intro f args bor r h w E us g hfx rl
    unfold evF at h
    split at h
    · rename_i r' hr'
      cases h
      exact hh f args bor _ hr' w E us g hfx rl
    simp only [Option.bind_eq_bind, Option.bind_eq_some_iff] at h
    obtain ⟨fn, hfn, body, hbody, h⟩ := h
    split at h
    case h_2 => cases h
    rename_i hle
    rw [Nat.ble_eq] at hle
    rw [fillK_eq, forceL_eq] at h
    refine calls_of_wp hfn hbody ?_
    have I : Inv [] fx w E (borG bor) w E { tmps := us.toArray ++ Array.replicate (fn.ntmps - us.toArray.size) undef, defers := [] } ⟨fn.ntmps, fillT args (Tr.full (depthOf fn.ntmps)) 0, ⟨bor, [(1000000000, pol.wr f, .none)]⟩⟩ := by
      obtain ⟨MS, gS⟩ := start_open g (pol.wr f)
      refine ⟨gS, hfx, start_rel (RelL.mono MS.toMono _ _ rl) hle, ?_, fun t ht => fillT_has _ _ _ (depth_has _ _ ht), rfl, MS⟩
      have := rl.length
      simp; omega
    have fin : ∀ s' ps, resultsP P s' fn.results.toList = some ps → r = .ret (finish (pol.keep f) s' (oneOrTup ps)).1 (finish (pol.keep f) s' (oneOrTup ps)).2 → ∀ w' E' a', Inv [] fx w E (borG bor) w' E' a' s' → a'.defers = [] ∧ ∃ v, (results fn a'.tmps).run P w' = .ok v w' ∧
        CallPost w E bor r (.returned v) w' := by
      intro s' ps hps hr w' E' a' I'
      subst hr
      obtain ⟨vs, h1, h2⟩ := results_run (P := P) I'.good I'.fr fn.results.toList ps hps
      obtain ⟨E2, M2, g2, r2⟩ := finish_ok (keep := pol.keep f) I'.evo I'.good (one_or_tup h2)
      refine ⟨I'.defers, _, ?_, ⟨_, E2, _, rfl, fun i => rfl, M2, g2, r2⟩⟩
      unfold results
      simp only [Array.mapM_eq_mapM_toList, Sem.run_bind, Sem.run_map]
      show ((((fn.results.toList.mapM (resSem a'.tmps)).run P w').andThen _).andThen _) = _
      rw [h1]
      rfl
    split at h
    · rename_i s' hev
      simp only [Option.bind_eq_some_iff, Option.some.injEq] at h
      obtain ⟨ps, hps, hr⟩ := h
      exact evC_sound HC (drawsP_ok hm HC) body I hev (fun w' E' a' I' => fin s' ps hps hr.symm w' E' a' I')
    · rename_i s' hev
      simp only [Option.bind_eq_some_iff, Option.some.injEq] at h
      obtain ⟨ps, hps, hr⟩ := h
      exact evC_sound HC (drawsP_ok hm HC) body I hev (fun w' E' a' I' => fin s' ps hps hr.symm w' E' a' I')
    · rename_i p s' hev
      simp only [Option.some.injEq] at h
      subst h
      refine evC_sound HC (drawsP_ok hm HC) body I hev ?_
      intro w' E' a' u g' ev hd rp
      obtain ⟨E2, M2, g2, r2⟩ := finish_ok (keep := false) ev g' rp
      exact ⟨hd, u, E2, _, rfl, fun i => rfl, M2, g2, r2⟩
    · cases h

/-- No function is known otherwise. -/
def noHook : Callee := fun _ _ _ => none
theorem noHook_ok {fx : List (Nat × Nat × Value)} : CallOk P fx noHook := by intro f args bor r h; cases h

/-- A call whose run is known, from no variables. -/
theorem calls_of_run {pol : Pol} {fx : List (Nat × Nat × Value)} (hm : P.follows .mixedOrders = true) (hh : CallOk P fx pol.hook) {k : Nat} {f : FuncId} {args : List PV} {p : PV} {bor : List Ent} (h : evF P pol k f args [] = some (.ret p bor)) {w : World} {lim : Nat → Nat} {us : List Value}
    (hfx : Fix fx w ⟨fun _ => 0, lim⟩) (rl : RelL w ⟨fun _ => 0, lim⟩ (borG []) args us) : Calls P f us.toArray w fun e w' => ∃ u E' G', e = .returned u ∧ Rel w' E' G' p u ∧ Good w' E' G' ∧ (∀ i, G' (.bor i) = (0, (bor[i]?).getD .none)) ∧ Below w.heap.size w w' ∧ (∀ b, b < w.heap.size → E'.lim b = lim b) := by
  have hnone : ∀ k, (borG [] k).2 = .none := by intro k; cases k <;> rfl
  have g : Good w ⟨fun _ => 0, lim⟩ (borG []) := ⟨fun k cs h => (by rw [hnone] at h; cases h), fun k n e sz h => (by rw [hnone] at h; cases h), fun k ks vs h => (by rw [hnone] at h; cases h), fun k k' h => absurd (hnone k) h⟩
  refine (evF_ok hm hh k f args [] _ h w _ us g hfx rl).mono ?_
  rintro e w' ⟨u, E', G', rfl, hG, V, g', r⟩
  exact ⟨u, E', G', rfl, r, g', hG, ⟨V.os, V.tape, V.output, V.size, fun b hb => V.kept b hb fun k hk => absurd (hnone k) hk⟩, fun b hb => V.limk b hb fun k hk => absurd (hnone k) hk⟩
end
end Go.Pv
