/- What a call does in the caller's names, out of what the callee does in its own. -/
import Derived.Test.YtpagljdnkolhdaaGreatDoorPv3
set_option linter.unusedSimpArgs false
set_option linter.unusedVariables false
namespace Go.Pv
open Go.RowKit

theorem idx_some {k : Key} : ∀ {ks : List Key} {n i : Nat}, idx? k ks n = some i → n ≤ i ∧ ks[i - n]? = some k
  | [], n, i, h => by simp [idx?] at h
  | k' :: ks, n, i, h => by
    simp only [idx?] at h
    split at h
    · rename_i e; cases h; subst e; simp
    · obtain ⟨h1, h2⟩ := idx_some h
      refine ⟨by omega, ?_⟩
      rw [show i - n = (i - (n + 1)) + 1 by omega]
      simpa using h2
theorem idx_none {k : Key} : ∀ {ks : List Key} {n : Nat}, idx? k ks n = none → k ∉ ks
  | [], n, h => by simp
  | k' :: ks, n, h => by
    simp only [idx?] at h
    split at h
    · cases h
    · rename_i e
      have := idx_none h
      simp [e, this]
theorem idx_of {k : Key} : ∀ {ks : List Key} {n i : Nat}, ks.Nodup → ks[i]? = some k → idx? k ks n = some (n + i)
  | [], n, i, _, h => by simp at h
  | k' :: ks, n, i, hn, h => by
    simp only [idx?]
    cases i with
    | zero => simp only [List.getElem?_cons_zero, Option.some.injEq] at h; subst h; simp
    | succ i =>
      simp only [List.getElem?_cons_succ] at h
      have hk : k ∈ ks := List.mem_of_getElem? h
      have hne : ¬ k = k' := by rintro rfl; exact (List.nodup_cons.1 hn).1 hk
      rw [if_neg hne, idx_of (List.nodup_cons.1 hn).2 h]
      congr 1; omega

theorem reach_nodup (G : Get) : ∀ (n : Nat) (todo : List (Key × Nat)) (acc : List Key), acc.Nodup → (reach G n todo acc).Nodup
  | 0, _, acc, h => by simpa [reach] using h
  | n + 1, [], acc, h => by simpa [reach] using h
  | n + 1, (k, g) :: todo, acc, h => by
    simp only [reach]
    split
    · exact reach_nodup G n _ _ h
    · rename_i hc
      have hk : k ∉ acc := by simpa using hc
      have hn : (acc ++ [k]).Nodup := by
        rw [List.nodup_append]
        exact ⟨h, by simp, by intro a ha b hb; simp at hb; subst hb; rintro rfl; exact hk ha⟩
      split
      · exact reach_nodup G n _ _ hn
      · exact reach_nodup G n _ _ hn
      · exact reach_nodup G n _ _ hn

def borG (bor : List Ent) : Get := (Sto.mk bor []).get
theorem borG_bor (bor : List Ent) (i : Nat) : borG bor (.bor i) = (0, (bor[i]?).getD .none) := rfl
theorem borG_loc (bor : List Ent) (s : Nat) : borG bor (.loc s) = (0, .none) := rfl

/-- What is known when a function has ended. -/
def CallPost (w : World) (E : Env) (bor : List Ent) : CallR → Ending → World → Prop
  | .ret p bor', e, w' => ∃ u E' G', e = .returned u ∧ (∀ i, G' (.bor i) = (0, (bor'[i]?).getD .none)) ∧ Evo w E (borG bor) w' E' G' ∧ Good w' E' G' ∧ Rel w' E' G' p u
  | .pan p bor', e, w' => ∃ u E' G', e = .panicked [{ v := u, recovered := false }] ∧ (∀ i, G' (.bor i) = (0, (bor'[i]?).getD .none)) ∧ Evo w E (borG bor) w' E' G' ∧ Good w' E' G' ∧ Rel w' E' G' p u
/-- Cells that hold what they hold for good. -/
def Fix (fx : List (Nat × Nat × Value)) (w : World) (E : Env) : Prop := ∀ x ∈ fx, x.2.1 < E.lim x.1 ∧ w.cell? ⟨x.1, x.2.1, none⟩ = some x.2.2
theorem Fix.mono {fx : List (Nat × Nat × Value)} {w w' : World} {E E' : Env} {G G' : Get} (h : Fix fx w E) (M : Mono w E G w' E' G') : Fix fx w' E' := fun x hx => M.cell _ _ _ (h x hx).1 (h x hx).2
/-- What a run of a function over values without addresses says of the program's own. -/
def CallOk (P : Program) (fx : List (Nat × Nat × Value)) (call : Callee) : Prop := ∀ f args bor r, call f args bor = some r → ∀ (w : World) (E : Env) (us : List Value), Good w E (borG bor) → Fix fx w E → RelL w E (borG bor) args us →
  Calls P f us.toArray w (CallPost w E bor r)

theorem updG_append (G : Get) (a b : List (Key × Nat × Ent)) : updG G (a ++ b) = updG (updG G a) b := by simp [updG]
theorem updG_cons (G : Get) (x : Key × Nat × Ent) (b : List (Key × Nat × Ent)) : updG G (x :: b) = updG (upd1 G x.1 x.2) b := rfl
theorem updG_out {k : Key} : ∀ (ws : List (Key × Nat × Ent)) (G : Get), k ∉ ws.map (·.1) → updG G ws k = G k
  | [], G, _ => rfl
  | x :: ws, G, h => by
    simp only [List.map_cons, List.mem_cons, not_or] at h
    rw [updG_cons, updG_out ws _ h.2, upd1_ne _ _ h.1]
theorem zipBack_keys (G : Get) (m : Key → Nat → Option (Key × Nat)) : ∀ (ks : List Key) (es : List Ent), es.length = ks.length → (zipBack G m ks es).map (·.1) = ks
  | [], [], _ => rfl
  | k :: ks, e :: es, h => by simp only [zipBack, List.map_cons]; rw [zipBack_keys G m ks es (by simpa using h)]
  | [], _ :: _, h => by simp at h
  | _ :: _, [], h => by simp at h
theorem zipBack_get (G : Get) (m : Key → Nat → Option (Key × Nat)) : ∀ (ks : List Key) (es : List Ent) (G0 : Get), es.length = ks.length → ks.Nodup → ∀ (i : Nat) (k : Key), ks[i]? = some k → updG G0 (zipBack G m ks es) k = ((G k).1, renEQ m ((es[i]?).getD .none))
  | [], _, _, _, _, i, k, h => by simp at h
  | _ :: _, [], _, h, _, _, _, _ => by simp at h
  | k' :: ks, e :: es, G0, hl, hn, i, k, h => by
    simp only [zipBack, updG_cons]
    have hn' := List.nodup_cons.1 hn
    cases i with
    | zero =>
      simp only [List.getElem?_cons_zero, Option.some.injEq] at h ⊢
      subst h
      rw [updG_out]
      · simp
      · rw [zipBack_keys _ _ _ _ (by simpa using hl)]; exact hn'.1
    | succ i =>
      simp only [List.getElem?_cons_succ] at h ⊢
      exact zipBack_get G m ks es _ (by simpa using hl) hn'.2 i k h

theorem renE_kind (m : Key → Nat → Option (Key × Nat)) (e f : Ent) : f.alike (renEQ m e) ↔ f.alike e := by
  rw [renEQ_eq]
  cases e <;> cases f <;> simp [renE, Ent.alike]
theorem renE_none (m : Key → Nat → Option (Key × Nat)) (e : Ent) : renEQ m e ≠ .none ↔ e ≠ .none := by rw [renEQ_eq]; cases e <;> simp [renE]
theorem renE_cells {m : Key → Nat → Option (Key × Nat)} {e : Ent} {cs : List PV} (h : renEQ m e = .cells cs) : ∃ cs0, e = .cells cs0 ∧ cs = renL m cs0 := by
  rw [renEQ_eq] at h
  cases e <;> simp [renE] at h
  exact ⟨_, rfl, h.symm⟩
theorem renE_map {m : Key → Nat → Option (Key × Nat)} {e : Ent} {ks : List Value} {vs : List PV} (h : renEQ m e = .map ks vs) : ∃ vs0, e = .map ks vs0 ∧ vs = renL m vs0 := by
  rw [renEQ_eq] at h
  cases e <;> simp [renE] at h
  exact ⟨_, by rw [h.1], h.2.symm⟩
theorem renE_top {m : Key → Nat → Option (Key × Nat)} {e : Ent} {n : Nat} {el : TypeId} {sz : Nat} (h : renEQ m e = .top n el sz) : e = .top n el sz := by
  rw [renEQ_eq] at h
  cases e <;> simp [renE] at h
  rw [h.1, h.2.1, h.2.2]
theorem renE_boxy (m : Key → Nat → Option (Key × Nat)) (e : Ent) : (renEQ m e).boxy ↔ e.boxy := by rw [renEQ_eq]; cases e <;> simp [renE, Ent.boxy]
theorem renE_alike (m : Key → Nat → Option (Key × Nat)) (e : Ent) (h : e ≠ .none) : e.alike (renEQ m e) := by rw [renE_kind]; exact Ent.alike_self h
theorem Ent.alike_symm {e f : Ent} (h : e.alike f) : f.alike e := by cases e <;> cases f <;> simp_all [Ent.alike]

/-- The callee's view of the variables that it is handed. -/
def downEnv (E : Env) (ks : List Key) : Env := ⟨fun k => match k with | .bor i => E.β (ks.getD i default) | .loc _ => 0, E.lim⟩
theorem down_good {w : World} {E : Env} {G : Get} (g : Good w E G) {ks : List Key} (hn : ks.Nodup) :
    Compat E G (downEnv E ks) (borG (ks.map fun k => renEQ (down G ks) (G k).2)) (down G ks) ∧ Good w (downEnv E ks) (borG (ks.map fun k => renEQ (down G ks) (G k).2)) := by
  have hget : ∀ (i : Nat) (k : Key), ks[i]? = some k → borG (ks.map fun k => renEQ (down G ks) (G k).2) (.bor i) = (0, renEQ (down G ks) (G k).2) := by
    intro i k h; rw [borG_bor]; simp [h]
  have hin : ∀ q, (borG (ks.map fun k => renEQ (down G ks) (G k).2) q).2 ≠ .none → ∃ i k, q = .bor i ∧ ks[i]? = some k ∧ (G k).2 ≠ .none := by
    intro q h
    cases q with
    | loc s => simp [borG_loc] at h
    | bor i =>
      cases e : ks[i]? with
      | none => rw [borG_bor] at h; simp [e] at h
      | some k =>
        rw [hget i k e] at h
        exact ⟨i, k, rfl, e, (renE_none _ _).1 h⟩
  have hd : ∀ (i : Nat) (k : Key), ks[i]? = some k → (downEnv E ks).β (.bor i) = E.β k := by intro i k h; simp [downEnv, List.getD, h]
  have C : Compat E G (downEnv E ks) (borG (ks.map fun k => renEQ (down G ks) (G k).2)) (down G ks) := by
    refine ⟨rfl, fun k gn k' g' h => ?_⟩
    unfold down at h
    split at h
    · rename_i eg
      simp only [Option.map_eq_some_iff, Prod.mk.injEq] at h
      obtain ⟨i, hi, rfl, rfl⟩ := h
      have hi' := (idx_some hi).2
      simp only [Nat.sub_zero] at hi'
      rw [hget i k hi', hd i k hi']
      exact ⟨by omega, fun _ => ⟨rfl, fun hb => ⟨renE_alike _ _ (by intro e; rw [e] at hb; exact hb), rfl⟩, fun n e sz ht => ⟨by rw [ht]; rfl, rfl⟩⟩⟩
    · cases h
  refine ⟨C, ⟨?_, ?_, ?_, ?_⟩⟩
  · intro q cs h
    obtain ⟨i, k, rfl, hi, _⟩ := hin q (by rw [h]; simp)
    rw [hget i k hi] at h
    obtain ⟨cs0, h0, rfl⟩ := renE_cells h
    obtain ⟨vs, t, hh, r, h1, hl⟩ := g.cells k cs0 h0
    rw [hd i k hi]
    exact ⟨vs, t, hh, r.ren C, h1, hl⟩
  · intro q n e sz h
    obtain ⟨i, k, rfl, hi, _⟩ := hin q (by rw [h]; simp)
    rw [hget i k hi] at h
    rw [hd i k hi]
    exact g.line k n e sz (renE_top h)
  · intro q kk vs h
    obtain ⟨i, k, rfl, hi, _⟩ := hin q (by rw [h]; simp)
    rw [hget i k hi] at h
    obtain ⟨vs0, h0, rfl⟩ := renE_map h
    obtain ⟨es, c, hh, hk, r, hl⟩ := g.map k kk vs0 h0
    rw [hd i k hi]
    exact ⟨es, c, hh, hk, RelL.ren C _ _ r, hl⟩
  · intro q1 q2 h1 h2 e
    obtain ⟨i, k, rfl, hi, n1⟩ := hin q1 h1
    obtain ⟨j, k', rfl, hj, n2⟩ := hin q2 h2
    rw [hd i k hi, hd j k' hj] at e
    have ek := g.inj k k' n1 n2 e
    subst ek
    have a1 := idx_of (n := 0) hn hi
    have a2 := idx_of (n := 0) hn hj
    rw [a1] at a2
    simp at a2
    rw [a2]

theorem Ent.alike_renEQ {m m' : Key → Nat → Option (Key × Nat)} {e f : Ent} (h : (renEQ m e).alike f) : e.alike (renEQ m' f) := by
  rw [renE_kind]
  rw [renEQ_eq] at h
  cases e <;> cases f <;> simp_all [renE, Ent.alike]

section
variable {w w' : World} {E : Env} {G : Get}
theorem up_good (g : Good w E G) {ks new : List Key} (hn : (ks ++ new).Nodup) (hnew : ∀ k ∈ new, (G k).2 = .none) {bor' : List Ent} (hl : bor'.length = (ks ++ new).length) {Ec : Env} {Gc : Get} (hb : ∀ i, Gc (.bor i) = (0, (bor'[i]?).getD .none))
    (V : Evo w (downEnv E ks) (borG (ks.map fun k => renEQ (down G ks) (G k).2)) w' Ec Gc) (gc : Good w' Ec Gc) :
    ∃ E', Evo w E G w' E' (updG G (zipBack G (up G (ks ++ new)) (ks ++ new) bor')) ∧ Good w' E' (updG G (zipBack G (up G (ks ++ new)) (ks ++ new) bor')) ∧ Compat Ec Gc E' (updG G (zipBack G (up G (ks ++ new)) (ks ++ new) bor')) (up G (ks ++ new)) := by
  generalize eks : ks ++ new = ks' at *
  generalize eG' : updG G (zipBack G (up G ks') ks' bor') = G'
  generalize eI : borG (ks.map fun k => renEQ (down G ks) (G k).2) = I at *
  let E' : Env := ⟨fun k => match idx? k ks' 0 with | some i => Ec.β (.bor i) | none => E.β k, Ec.lim⟩
  have hin : ∀ k i, idx? k ks' 0 = some i → ks'[i]? = some k := by
    intro k i h
    have := (idx_some h).2
    simpa only [Nat.sub_zero] using this
  have hG : ∀ k i, idx? k ks' 0 = some i → G' k = ((G k).1, renEQ (up G ks') ((bor'[i]?).getD .none)) := fun k i h => by
    rw [← eG']; exact zipBack_get G _ ks' bor' G hl hn i k (hin k i h)
  have hGn : ∀ k, idx? k ks' 0 = none → G' k = G k := fun k h => by rw [← eG']; exact updG_out _ _ (by rw [zipBack_keys _ _ _ _ hl]; exact idx_none h)
  have hE : ∀ k i, idx? k ks' 0 = some i → E'.β k = Ec.β (.bor i) := by intro k i h; simp only [E', h]
  have hEn : ∀ k, idx? k ks' 0 = none → E'.β k = E.β k := by intro k h; simp only [E', h]
  have split : ∀ (i : Nat) (k : Key), ks'[i]? = some k → ks[i]? = some k ∨ (ks.length ≤ i ∧ (G k).2 = .none) := by
    intro i k h
    rw [← eks, List.getElem?_append] at h
    by_cases hi : i < ks.length
    · rw [if_pos hi] at h; exact .inl h
    · rw [if_neg hi] at h
      exact .inr ⟨by omega, hnew k (List.mem_of_getElem? h)⟩
  have hg0 : ∀ (i : Nat) (k : Key), ks'[i]? = some k → I (.bor i) = (0, renEQ (down G ks) (G k).2) := by
    intro i k h
    rw [← eI, borG_bor]
    rcases split i k h with h | ⟨h, hk⟩
    · simp [h]
    · rw [hk]; simp [List.getElem?_eq_none h, renEQ]
  have hd : ∀ (i : Nat) (k : Key), ks'[i]? = some k → (G k).2 ≠ .none → (downEnv E ks).β (.bor i) = E.β k := by
    intro i k h hk
    rcases split i k h with h | ⟨_, hk'⟩
    · simp [downEnv, List.getD, h]
    · exact absurd hk' hk
  have hlive : ∀ q, (I q).2 ≠ .none → ∃ i k, q = .bor i ∧ ks'[i]? = some k ∧ (G k).2 ≠ .none := by
    intro q h
    cases q with
    | loc s => rw [← eI] at h; simp [borG_loc] at h
    | bor i =>
      cases e : ks[i]? with
      | none => rw [← eI, borG_bor] at h; simp [e] at h
      | some k =>
        have e' : ks'[i]? = some k := by
          have hi := (List.getElem?_eq_some_iff.1 e).1
          rw [← eks, List.getElem?_append_left hi]; exact e
        rw [hg0 i k e'] at h
        exact ⟨i, k, rfl, e', (renE_none _ _).1 h⟩
  -- a block that the callee was not handed
  have apart : ∀ b, (∀ (i : Nat) (k : Key), ks'[i]? = some k → (G k).2 ≠ .none → E.β k ≠ b) → ∀ q, (I q).2 ≠ .none → (downEnv E ks).β q ≠ b := by
    intro b h q hq
    obtain ⟨i, k, rfl, hi, hk⟩ := hlive q hq
    rw [hd i k hi hk]
    exact h i k hi hk
  have other : ∀ k, idx? k ks' 0 = none → (G k).2 ≠ .none → w'.heap[E.β k]? = w.heap[E.β k]? ∧ Ec.lim (E.β k) = E.lim (E.β k) := by
    intro k h hk
    have hb := g.lt k hk
    have ne : ∀ (i : Nat) (k' : Key), ks'[i]? = some k' → (G k').2 ≠ .none → E.β k' ≠ E.β k := by
      intro i k' hi hk' e
      have := g.inj k' k hk' hk e
      subst this
      exact idx_none h (List.mem_of_getElem? hi)
    exact ⟨V.kept _ hb (apart _ ne), V.limk _ hb (apart _ ne)⟩
  have M : Evo w E G w' E' G' := by
    refine { gen := ?_, keep := ?_, mapk := V.mapk, cell := V.cell, top := ?_, os := V.os, tape := V.tape, output := V.output, size := V.size, fresh := ?_, kept := ?_, limk := ?_ }
    · intro k
      cases e : idx? k ks' 0 with
      | none => rw [hGn k e]; exact Nat.le_refl _
      | some i => rw [hG k i e]; exact Nat.le_refl _
    · intro k _ hc
      cases e : idx? k ks' 0 with
      | none =>
        rw [hGn k e, hEn k e]
        exact ⟨Ent.alike_boxy hc, rfl, fun m ⟨arr, t, hh, hm⟩ => ⟨arr, t, by rw [(other k e (Ent.ne_of_boxy hc)).1]; exact hh, hm⟩⟩
      | some i =>
        have hi := hin k i e
        have hne := Ent.ne_of_boxy hc
        rw [hG k i e, hE k i e]
        obtain ⟨h1, h2, h3⟩ := V.keep (.bor i) (by rw [hg0 i k hi, hb i]) (by rw [hg0 i k hi]; exact (renE_boxy _ _).2 hc)
        rw [hg0 i k hi, hb i] at h1
        rw [hd i k hi hne] at h3
        exact ⟨Ent.alike_renEQ h1, h2.trans (hd i k hi hne), h3⟩
    · intro k n el sz _ hc
      cases e : idx? k ks' 0 with
      | none =>
        rw [hGn k e, hEn k e]
        obtain ⟨o1, o2⟩ := other k e (by rw [hc]; simp)
        exact ⟨n, hc, Nat.le_refl _, fun _ => ⟨rfl, o2, fun arr t hh => ⟨arr, by rw [o1]; exact hh, rfl⟩⟩⟩
      | some i =>
        have hi := hin k i e
        have hne : (G k).2 ≠ .none := by rw [hc]; simp
        rw [hG k i e, hE k i e]
        obtain ⟨n', h1, h2, h3⟩ := V.top (.bor i) n el sz (by rw [hg0 i k hi, hb i]) (by rw [hg0 i k hi, hc]; rfl)
        rw [hb i] at h1
        simp only at h1
        refine ⟨n', by rw [h1]; rfl, h2, fun en => ?_⟩
        have := h3 en
        rw [hd i k hi hne] at this
        exact this
    · intro k hk
      cases e : idx? k ks' 0 with
      | none => rw [hGn k e] at hk ⊢; rw [hEn k e]; exact .inl ⟨Ent.alike_self hk, rfl⟩
      | some i =>
        have hi := hin k i e
        rw [hG k i e] at hk ⊢
        rw [hE k i e]
        rcases V.fresh (.bor i) (by rw [hb i]; exact (renE_none _ _).1 hk) with ⟨a, e2⟩ | hs
        · rw [hg0 i k hi, hb i] at a
          refine .inl ⟨Ent.alike_renEQ a, e2.trans (hd i k hi ((renE_none _ _).1 (Ent.alike_ne a).1))⟩
        · exact .inr hs
    · intro b hb' hnb
      exact V.kept b hb' (apart b fun i k _ hk => hnb k hk)
    · intro b hb' hnb
      exact V.limk b hb' (apart b fun i k _ hk => hnb k hk)
  have C : Compat Ec Gc E' G' (up G ks') := by
    refine ⟨rfl, fun q gn k' g' h => ?_⟩
    cases q with
    | loc s => simp [up] at h
    | bor i =>
      simp only [up, Option.map_eq_some_iff, Prod.mk.injEq] at h
      obtain ⟨k, hi, rfl, rfl⟩ := h
      have e := idx_of (n := 0) hn hi
      rw [Nat.zero_add] at e
      rw [hb i, hG k i e, hE k i e]
      refine ⟨by simp, fun _ => ⟨rfl, fun hc => ⟨renE_alike _ _ (Ent.ne_of_boxy hc), rfl⟩, fun n el sz ht => ⟨by simp only at ht ⊢; rw [ht]; rfl, rfl⟩⟩⟩
  refine ⟨E', M, ⟨?_, ?_, ?_, ?_⟩, C⟩
  · intro k cs hc
    cases e : idx? k ks' 0 with
    | none =>
      rw [hGn k e] at hc
      obtain ⟨vs, t, hh, r, h1, hl0⟩ := g.cells k cs hc
      obtain ⟨o1, o2⟩ := other k e (by rw [hc]; simp)
      rw [hEn k e]
      exact ⟨vs, t, by rw [o1]; exact hh, r.mono M.toMono, h1, by show Ec.lim _ = 0; rw [o2, hl0]⟩
    | some i =>
      rw [hG k i e] at hc
      obtain ⟨cs0, h0, rfl⟩ := renE_cells hc
      obtain ⟨vs, t, hh, r, h1, hl0⟩ := gc.cells (.bor i) cs0 (by rw [hb i]; exact h0)
      rw [hE k i e]
      exact ⟨vs, t, hh, r.ren C, h1, hl0⟩
  · intro k n el sz hc
    cases e : idx? k ks' 0 with
    | none =>
      rw [hGn k e] at hc
      rw [hEn k e]
      exact Nat.lt_of_lt_of_le (g.line k n el sz hc) V.size
    | some i =>
      rw [hG k i e] at hc
      rw [hE k i e]
      exact gc.line (.bor i) n el sz (by rw [hb i]; exact renE_top hc)
  · intro k kk vs hc
    cases e : idx? k ks' 0 with
    | none =>
      rw [hGn k e] at hc
      obtain ⟨es, c, hh, hk, r, hl0⟩ := g.map k kk vs hc
      obtain ⟨o1, o2⟩ := other k e (by rw [hc]; simp)
      rw [hEn k e]
      exact ⟨es, c, by rw [o1]; exact hh, hk, RelL.mono M.toMono _ _ r, by show Ec.lim _ = 0; rw [o2, hl0]⟩
    | some i =>
      rw [hG k i e] at hc
      obtain ⟨vs0, h0, rfl⟩ := renE_map hc
      obtain ⟨es, c, hh, hk, r, hl0⟩ := gc.map (.bor i) kk vs0 (by rw [hb i]; exact h0)
      rw [hE k i e]
      exact ⟨es, c, hh, hk, RelL.ren C _ _ r, hl0⟩
  · intro k1 k2 h1 h2 e
    have mixed : ∀ k1 k2 i, idx? k1 ks' 0 = some i → idx? k2 ks' 0 = none → (G' k1).2 ≠ .none → (G' k2).2 ≠ .none → E'.β k1 = E'.β k2 → k1 = k2 := by
      intro k1 k2 i e1 e2 h1 h2 e
      have hi := hin k1 i e1
      rw [hGn k2 e2] at h2
      rw [hG k1 i e1] at h1
      rw [hE k1 i e1, hEn k2 e2] at e
      have h1' := (renE_none _ _).1 h1
      rcases V.fresh (.bor i) (by rw [hb i]; exact h1') with ⟨a, e3⟩ | hs
      · rw [hg0 i k1 hi] at a
        have hk1 := (renE_none _ _).1 (Ent.alike_ne a).1
        have e4 : Ec.β (.bor i) = E.β k1 := e3.trans (hd i k1 hi hk1)
        exact g.inj k1 k2 hk1 h2 (e4.symm.trans e)
      · have := g.lt k2 h2
        omega
    cases e1 : idx? k1 ks' 0 with
    | none =>
      cases e2 : idx? k2 ks' 0 with
      | none =>
        rw [hGn k1 e1] at h1
        rw [hGn k2 e2] at h2
        rw [hEn k1 e1, hEn k2 e2] at e
        exact g.inj k1 k2 h1 h2 e
      | some j => exact (mixed k2 k1 j e2 e1 h2 h1 e.symm).symm
    | some i =>
      cases e2 : idx? k2 ks' 0 with
      | none => exact mixed k1 k2 i e1 e2 h1 h2 e
      | some j =>
        rw [hG k1 i e1] at h1
        rw [hG k2 j e2] at h2
        rw [hE k1 i e1, hE k2 j e2] at e
        have := gc.inj (.bor i) (.bor j) (by rw [hb i]; exact (renE_none _ _).1 h1) (by rw [hb j]; exact (renE_none _ _).1 h2) e
        cases this
        have a1 := hin k1 i e1
        have a2 := hin k2 i e2
        rw [a1] at a2
        exact Option.some.inj a2

/-- Names that are taken anew: what they named before is forgotten. -/
def dropG (G : Get) (new : List Key) : Get := fun k => if new.contains k then ((G k).1 + 1, .none) else G k
theorem dropG_in (G : Get) {new : List Key} {k : Key} (h : k ∈ new) : dropG G new k = ((G k).1 + 1, .none) := by simp [dropG, h]
theorem dropG_out (G : Get) {new : List Key} {k : Key} (h : k ∉ new) : dropG G new k = G k := by simp [dropG, h]
theorem drop_evo (G : Get) (new : List Key) : Evo w E G w E (dropG G new) := by
  have key : ∀ k, (G k).1 = (dropG G new k).1 → dropG G new k = G k := by
    intro k h
    by_cases hk : k ∈ new
    · rw [dropG_in G hk] at h; simp at h
    · exact dropG_out G hk
  refine { gen := ?_, keep := ?_, mapk := fun _ _ _ h k => ⟨h, k⟩, cell := fun _ _ _ h k => ⟨h, k⟩, top := ?_, os := rfl, tape := rfl, output := rfl, size := Nat.le_refl _, fresh := ?_, kept := fun _ _ _ => rfl, limk := fun _ _ _ => rfl }
  · intro k
    by_cases hk : k ∈ new
    · rw [dropG_in G hk]; exact Nat.le_succ _
    · rw [dropG_out G hk]; exact Nat.le_refl _
  · intro k h hb; rw [key k h]; exact ⟨Ent.alike_boxy hb, rfl, fun _ h => h⟩
  · intro k n e sz h ht; rw [key k h]; exact ⟨n, ht, Nat.le_refl _, fun _ => ⟨rfl, rfl, fun arr t hh => ⟨arr, hh, rfl⟩⟩⟩
  · intro k hk
    by_cases hk' : k ∈ new
    · rw [dropG_in G hk'] at hk; exact absurd rfl hk
    · rw [dropG_out G hk'] at hk ⊢; exact .inl ⟨Ent.alike_self hk, rfl⟩
theorem drop_good (g : Good w E G) (new : List Key) : Good w E (dropG G new) := by
  have M := (drop_evo (w := w) (E := E) G new).toMono
  have key : ∀ k, (dropG G new k).2 ≠ .none → dropG G new k = G k := by
    intro k h
    by_cases hk : k ∈ new
    · rw [dropG_in G hk] at h; exact absurd rfl h
    · exact dropG_out G hk
  refine ⟨?_, ?_, ?_, ?_⟩
  · intro k cs h
    rw [key k (by rw [h]; simp)] at h
    obtain ⟨vs, t, hh, r, h1, hl⟩ := g.cells k cs h
    exact ⟨vs, t, hh, r.mono M, h1, hl⟩
  · intro k n e sz h
    rw [key k (by rw [h]; simp)] at h
    exact g.line k n e sz h
  · intro k ks vs h
    rw [key k (by rw [h]; simp)] at h
    obtain ⟨es, c, hh, hk, r, hl⟩ := g.map k ks vs h
    exact ⟨es, c, hh, hk, RelL.mono M _ _ r, hl⟩
  · intro k k' h h' e
    have h1 := key k h
    have h2 := key k' h'
    rw [h1] at h
    rw [h2] at h'
    exact g.inj k k' h h' e
theorem bump_gen (G : Get) (new : List Key) (k : Key) : (bump G new k).1 = (dropG G new k).1 := by
  unfold bump dropG
  split <;> rfl
theorem up_gen {G G' : Get} (h : ∀ k, (G k).1 = (G' k).1) (ks : List Key) : up G ks = up G' ks := by
  funext k g
  cases k with
  | loc s => rfl
  | bor i => simp only [up, h]
theorem zipBack_gen {G G' : Get} (h : ∀ k, (G k).1 = (G' k).1) (m : Key → Nat → Option (Key × Nat)) : ∀ (ks : List Key) (es : List Ent), zipBack G m ks es = zipBack G' m ks es
  | k :: ks, e :: es => by simp only [zipBack, h k, zipBack_gen h m ks es]
  | [], _ => by cases ‹List Ent› <;> rfl
  | _ :: _, [] => rfl
/-- What the call writes is the same, whether the names were dropped before or not. -/
theorem updG_zipBack {G G1 : Get} (m : Key → Nat → Option (Key × Nat)) {ks : List Key} {es : List Ent} (hl : es.length = ks.length) (h : ∀ k, k ∉ ks → G k = G1 k) (G0 : Get) (hn : ks.Nodup) :
    updG G (zipBack G0 m ks es) = updG G1 (zipBack G0 m ks es) := by
  funext k
  by_cases hk : k ∈ ks
  · obtain ⟨i, hi⟩ := List.mem_iff_getElem?.1 hk
    rw [zipBack_get G0 m ks es G hl hn i k hi, zipBack_get G0 m ks es G1 hl hn i k hi]
  · rw [updG_out _ _ (by rw [zipBack_keys _ _ _ _ hl]; exact hk), updG_out _ _ (by rw [zipBack_keys _ _ _ _ hl]; exact hk), h k hk]
theorem down_drop (G : Get) {ks new : List Key} (h : ∀ k ∈ new, k ∉ ks) : down (dropG G new) ks = down G ks := by
  funext k g
  by_cases hk : k ∈ new
  · have hi : idx? k ks 0 = none := by
      cases e : idx? k ks 0 with
      | none => rfl
      | some i => exact absurd (List.mem_of_getElem? (idx_some e).2) (h k hk)
    simp [down, hi]
  · simp only [down, dropG_out G hk]
end
end Go.Pv
namespace Go.Pv
open Go.RowKit

section
variable {P : Program} {o : Oper} {a : Act} {w : World} {E : Env} {G : Get} {ρ : Operand → PV}

theorem findNow_of {d : TypeDesc} {k : Value} : ∀ {es : List MapEntry} {i : Nat} {r : Option Nat}, findK d k (es.map (·.key)) i = some r →
    (r = none ∧ Instr.findNow d k es i = some none) ∨ ∃ j e, r = some j ∧ i ≤ j ∧ es[j - i]? = some e ∧ Instr.sameNow d k e.key = some true ∧ Instr.findNow d k es i = some (some (j, e.val))
  | [], i, r, h => by
    simp only [List.map_nil, findK, Option.some.injEq] at h
    exact .inl ⟨h.symm, rfl⟩
  | e :: es, i, r, h => by
    simp only [List.map_cons, findK] at h
    simp only [Instr.findNow]
    split at h
    · rename_i hs
      cases h
      rw [hs]
      exact .inr ⟨i, e, rfl, Nat.le_refl _, by simp, hs, rfl⟩
    · rename_i hs
      rw [hs]
      rcases findNow_of h with ⟨rfl, h1⟩ | ⟨j, e', rfl, hj, he, hk, h1⟩
      · exact .inl ⟨rfl, h1⟩
      · refine .inr ⟨j, e', rfl, by omega, ?_, hk, h1⟩
        rw [show j - i = (j - (i + 1)) + 1 by omega]
        simpa using he
    · cases h

def plainKey (d : TypeDesc) : Prop := (∃ i, d = .int i) ∨ d = .string ∨ d = .bool
theorem keyDesc_of {t : TypeId} {d : TypeDesc} (h : keyDesc P t = some d) : ∃ k e, P.underlying t = some (.map k e) ∧ P.underlying k = some d ∧ plainKey d := by
  unfold keyDesc at h
  split at h
  · rename_i k e hu
    refine ⟨k, e, hu, ?_⟩
    split at h <;> cases h
    · rename_i i hk; exact ⟨hk, .inl ⟨i, rfl⟩⟩
    · rename_i hk; exact ⟨hk, .inr (.inl rfl)⟩
    · rename_i hk; exact ⟨hk, .inr (.inr rfl)⟩
  · cases h
theorem run_checkPlain {k : TypeId} {d : TypeDesc} (hk : P.underlying k = some d) (hd : plainKey d) (b : Bool) (v : Value) : (Instr.checkKey b 10000 k v).run P w = .ok () w := by
  have h : ∀ n, (Instr.checkKey b (n + 1) k v).run P w = .ok () w := by
    intro n
    rcases hd with ⟨i, rfl⟩ | rfl | rfl <;> simp [Instr.checkKey, run_underlying hk]
  exact h 9999
theorem run_findPlain {k : TypeId} {d : TypeDesc} (hk : P.underlying k = some d) {v : Value} {es : List MapEntry} {r : Option (Nat × Value)} (h : Instr.findNow d v es 0 = some r) : (Instr.findKey k v es).run P w = .ok r w := by
  simp [Instr.findKey, run_underlying hk, h]
theorem sameBits_of {d : TypeDesc} {x y : Value} (h : Instr.sameNow d x y = some true) : Instr.sameBits 10000 y x = true := by
  have : ∀ n, Instr.sameBits n y x = true := by
    intro n
    unfold Instr.sameNow at h
    split at h
    · split at h
      · rename_i e
        subst e
        simp only [Option.some.injEq, beq_iff_eq] at h
        subst h
        cases n <;> simp [Instr.sameBits]
      · cases h
    · rename_i a b
      simp only [Option.some.injEq] at h
      have h' : (a.data == b.data) = true := h
      have e : a = b := by
        obtain ⟨x⟩ := a
        obtain ⟨y⟩ := b
        have : x = y := by simpa using h'
        rw [this]
      subst e
      cases n <;> simpa [Instr.sameBits] using h
    · simp only [Option.some.injEq, beq_iff_eq] at h
      subst h
      cases n <;> simp [Instr.sameBits]
    · cases h
  exact this _
theorem run_keyStays {d : TypeDesc} {x y : Value} (h : Instr.sameNow d x y = some true) : (Instr.keyThatStays y x).run P w = .ok x w := by
  simp [Instr.keyThatStays, sameBits_of h]

theorem mapElem_of {t e : TypeId} (h : mapElem P t = some e) : ∃ k, P.underlying t = some (.map k e) := by
  unfold mapElem at h
  split at h
  · rename_i hu; cases h; exact ⟨_, hu⟩
  · cases h

theorem did_makeMap (g : Good w E G) {t : TypeId} {r : Option Operand} (hop : o.op = .makeMap t r) {d : Tmp} (hr : ∀ x ∈ r, (∃ e, mapElem P t = some e) ∧ ∃ k n, a.eval x = .int k n) :
    Did P o a w E G (.mref (.loc d) ((G (.loc d)).1 + 1)) [(.loc d, (G (.loc d)).1 + 1, .map [] [])] := by
  obtain ⟨E', M, g', hb⟩ := new_obj g rfl rfl rfl rfl (.loc d) (.map #[] 0) (.map [] []) (fun _ _ _ h => by cases h) (fun _ h => by cases h) (fun ks vs h => by cases h; exact ⟨#[], 0, rfl, rfl, relL_nil⟩)
  refine ⟨_, .map (some w.heap.size), _, E', ?_, .inl rfl, M, g', ?_⟩
  · cases r with
    | none => simp [execOp, hop, Instr.makeMap]
    | some x =>
      obtain ⟨⟨e, he⟩, k, n, hx⟩ := hr x rfl
      obtain ⟨k', hu⟩ := mapElem_of he
      simp [execOp, hop, Instr.makeMap, run_underlying hu, hx, asInt, asIntOf]
  · simp only [Rel, updG_one, upd1_same]
    exact .inr ⟨trivial, ⟨[], [], rfl⟩, by rw [hb]⟩

theorem RelL.getv {ps : List PV} {vs : List Value} (h : RelL w E G ps vs) {i : Nat} {v : Value} (hv : vs[i]? = some v) : ∃ p, ps[i]? = some p ∧ Rel w E G p v := by
  induction ps generalizing vs i with
  | nil => simp only [RelL] at h; subst h; simp at hv
  | cons p ps ih =>
    simp only [RelL] at h
    obtain ⟨x, xs, rfl, h1, h2⟩ := h
    cases i with
    | zero => simp only [List.getElem?_cons_zero, Option.some.injEq] at hv ⊢; subst hv; exact ⟨p, rfl, h1⟩
    | succ i => simp only [List.getElem?_cons_succ] at hv ⊢; exact ih h2 hv
theorem RelL.set {ps : List PV} {vs : List Value} (h : RelL w E G ps vs) {p : PV} {v : Value} (hr : Rel w E G p v) (i : Nat) : RelL w E G (ps.set i p) (vs.set i v) := by
  induction ps generalizing vs i with
  | nil => simp only [RelL] at h; subst h; exact relL_nil
  | cons q ps ih =>
    simp only [RelL] at h
    obtain ⟨x, xs, rfl, h1, h2⟩ := h
    cases i with
    | zero => exact relL_cons hr h2
    | succ i => exact relL_cons h1 (ih h2 i)
theorem RelL.snoc {ps : List PV} {vs : List Value} (h : RelL w E G ps vs) {p : PV} {v : Value} (hr : Rel w E G p v) : RelL w E G (ps ++ [p]) (vs ++ [v]) := by
  induction ps generalizing vs with
  | nil => simp only [RelL] at h; subst h; exact relL_cons hr relL_nil
  | cons q ps ih =>
    simp only [RelL] at h
    obtain ⟨x, xs, rfl, h1, h2⟩ := h
    exact relL_cons h1 (ih h2)

theorem mapAt_cells {k : Key} {g : Nat} {ks : List Value} {vs : List PV} (h : mapAt G k g = some (ks, vs)) : g = (G k).1 ∧ (G k).2 = .map ks vs := mapAt_live h

theorem did_mapUpdate (g : Good w E G) {t : TypeId} {m k x : Operand} (hop : o.op = .mapUpdate t m k x ∨ o.op = .insert t m k x) {r : Key} {gn : Nat} {kv : Value} {ks : List Value} {vs : List PV} {d : TypeDesc}
    (hm : Rel w E G (.mref r gn) (a.eval m)) (hk : a.eval k = kv) (hx : Rel w E G (ρ x) (a.eval x)) (hmap : mapAt G r gn = some (ks, vs)) (hd : keyDesc P t = some d) {f : Option Nat} (hf : findK d kv ks 0 = some f) :
    Did P o a w E G undefP [(r, gn, match f with | some i => .map (ks.set i kv) (vs.set i (ρ x)) | none => .map (ks ++ [kv]) (vs ++ [ρ x]))] := by
  have hu := mref_rel hmap hm
  obtain ⟨eg, hc⟩ := mapAt_cells hmap
  obtain ⟨es, c, hh, hks, hvs, hl⟩ := g.map r ks vs hc
  obtain ⟨kt, et, hut, huk, hpl⟩ := keyDesc_of hd
  have hlt := (Array.getElem?_eq_some_iff.1 hh).1
  have run : ∀ ob, (Instr.mapUpdate t (.map (some (E.β r))) kv (a.eval x)).run P w = .ok () { w with heap := w.heap.setIfInBounds (E.β r) ob } → (execOp a.eval o).run P w = .ok .skip { w with heap := w.heap.setIfInBounds (E.β r) ob } := by
    intro ob h
    rcases hop with hop | hop <;> simp only [execOp, hop, hu, hk, Sem.run_bind, h, Result.andThen_ok, Sem.run_pure]
  have fin : ∀ (es' : Array MapEntry) (c' : Nat) (ks' : List Value) (vs' : List PV), (Instr.mapUpdate t (.map (some (E.β r))) kv (a.eval x)).run P w = .ok () { w with heap := w.heap.setIfInBounds (E.β r) (.map es' c') } →
      es'.toList.map (·.key) = ks' → RelL w E G vs' (es'.toList.map (·.val)) → Did P o a w E G undefP [(r, gn, .map ks' vs')] := by
    intro es' c' ks' vs' hrun h1 h2
    subst eg
    obtain ⟨M, g'⟩ := set_obj (w' := { w with heap := w.heap.setIfInBounds (E.β r) (.map es' c') }) g (k := r) (.map ks' vs') (by rw [hc]; trivial) (by rw [hc]; trivial)
      (fun b hb => by simp [Array.getElem?_setIfInBounds, Ne.symm hb]) (by simp) rfl rfl rfl (fun _ h => by cases h) (fun m ⟨arr, t', ha, _⟩ => by rw [hh] at ha; cases ha)
      (fun _ _ h => by cases h; exact ⟨es', c', by simp [hlt], h1, h2⟩)
    exact ⟨.skip, undef, _, E, run _ hrun, .inr ⟨rfl, rfl⟩, M, g', by simp only [undefP, Rel]; exact ⟨[], rfl, relL_nil⟩⟩
  rw [← hks] at hf
  rcases findNow_of hf with ⟨rfl, h1⟩ | ⟨j, e, rfl, _, he, hsame, h1⟩
  · refine fin (es.push { key := kv, val := a.eval x, born := c }) (c + 1) _ _ ?_ (by simp [hks]) (by simpa using RelL.snoc hvs hx)
    simp [Instr.mapUpdate, run_underlying hut, MapKept.run_getObj_map hh, run_checkPlain huk hpl, run_findPlain huk h1, MapKept.run_setObj_map _ hh]
  · simp only [Nat.sub_zero] at he
    have he' : es[j]? = some e := by simpa using he
    have hj : j < es.size := (Array.getElem?_eq_some_iff.1 he').1
    refine fin (es.modify j fun e => { e with key := kv, val := a.eval x }) c _ _ ?_ ?_ ?_
    · simp [Instr.mapUpdate, run_underlying hut, MapKept.run_getObj_map hh, run_checkPlain huk hpl, run_findPlain huk h1, he', run_keyStays hsame, MapKept.run_setObj_map _ hh]
    · rw [← hks]
      apply List.ext_getElem?
      intro i
      simp only [Array.toList_modify, List.getElem?_map, List.getElem?_modify, List.getElem?_set, List.length_map]
      by_cases e1 : j = i
      · subst e1; simp [he', hj]
      · simp [e1]
    · have : (es.modify j fun e => { e with key := kv, val := a.eval x }).toList.map (·.val) = (es.toList.map (·.val)).set j (a.eval x) := by
        apply List.ext_getElem?
        intro i
        simp only [Array.toList_modify, List.getElem?_map, List.getElem?_modify, List.getElem?_set, List.length_map]
        by_cases e1 : j = i
        · subst e1; simp [he', hj]
        · simp [e1]
      rw [this]
      exact RelL.set hvs hx j

theorem did_lookup (g : Good w E G) {t : TypeId} {m k : Operand} {ok : Bool} (hop : o.op = .lookup t m k ok) {mp : PV} {kv : Value} {ks : List Value} {vs : List PV} {d : TypeDesc} {e : TypeId} {z : Value} {zp : PV}
    (hm : Rel w E G mp (a.eval m)) (hk : a.eval k = kv) (hmap : mapOf G mp = some (ks, vs)) (hd : keyDesc P t = some d) (he : mapElem P t = some e) (hz : (P.info? e).bind (·.zero) = some z) (hzp : ofVal z = some zp)
    {f : Option Nat} (hf : findK d kv ks 0 = some f) {p : PV} {b : Bool} (hp : (f = none ∧ p = zp ∧ b = false) ∨ ∃ i, f = some i ∧ vs[i]? = some p ∧ b = true) :
    Did P o a w E G (if ok then .tup [p, .v (.bool b)] else p) [] := by
  obtain ⟨kt, et, hut, huk, hpl⟩ := keyDesc_of hd
  obtain ⟨_, hut'⟩ := mapElem_of he
  rw [hut] at hut'
  simp only [Option.some.injEq, TypeDesc.map.injEq] at hut'
  obtain ⟨_, rfl⟩ := hut'
  simp only [Option.bind_eq_some_iff] at hz
  obtain ⟨i, hi, hz⟩ := hz
  have fin : ∀ es : Array MapEntry, es.toList.map (·.key) = ks → RelL w E G vs (es.toList.map (·.val)) →
      (∀ v b, ((Instr.findNow d kv es.toList 0 = some none ∧ v = z ∧ b = false) ∨ ∃ j, Instr.findNow d kv es.toList 0 = some (some (j, v)) ∧ b = true) → (Instr.lookup t (a.eval m) kv ok).run P w = .ok (if ok then .tuple #[v, .bool b] else v) w) → Did P o a w E G (if ok then .tup [p, .v (.bool b)] else p) [] := by
    intro es h1 h2 hrun
    have : ∃ v, ((Instr.findNow d kv es.toList 0 = some none ∧ v = z ∧ b = false) ∨ ∃ j, Instr.findNow d kv es.toList 0 = some (some (j, v)) ∧ b = true) ∧ Rel w E G p v := by
      rw [← h1] at hf
      rcases findNow_of hf with ⟨rfl, hn⟩ | ⟨j, en, rfl, _, hen, _, hn⟩
      · rcases hp with ⟨_, rfl, hb⟩ | ⟨_, h, _⟩
        · exact ⟨z, .inl ⟨hn, rfl, hb⟩, ofVal_rel hzp⟩
        · cases h
      · rcases hp with ⟨h, _⟩ | ⟨_, h, hv, hb⟩
        · cases h
        · cases h
          have : (es.toList.map (·.val))[j]? = some en.val := by simp only [Nat.sub_zero] at hen; simp only [List.getElem?_map, hen, Option.map_some]
          obtain ⟨q, hq, r⟩ := h2.getv this
          rw [hv] at hq
          cases hq
          exact ⟨en.val, .inr ⟨j, hn, hb⟩, r⟩
    obtain ⟨v, hv, r⟩ := this
    refine Did.same g (u := if ok then .tuple #[v, .bool b] else v) ?_ ?_
    · simp only [execOp, hop, hk, Sem.run_bind, hrun v b hv, Result.andThen_ok, Sem.run_pure]
    · cases ok
      · exact r
      · simp only [if_true, Rel]
        exact ⟨[v, .bool b], rfl, relL_cons r (relL_cons (by simp only [Rel]) relL_nil)⟩
  have zr : (zeroValue et).run P w = .ok z w := by simp [zeroValue, typeInfo, hi, hz]
  unfold mapOf at hmap
  split at hmap
  · rename_i q gn
    have hu := mref_rel hmap hm
    obtain ⟨_, hc⟩ := mapAt_cells hmap
    obtain ⟨es, c, hh, hks, hvs, hl⟩ := g.map q ks vs hc
    refine fin es hks hvs fun v b hv => ?_
    rw [hu]
    rcases hv with ⟨hn, rfl, rfl⟩ | ⟨j, hn, rfl⟩
    · cases ok <;> simp [Instr.lookup, run_underlying hut, MapKept.run_getObj_map hh, run_checkPlain huk hpl, run_findPlain huk hn, zr]
    · cases ok <;> simp [Instr.lookup, run_underlying hut, MapKept.run_getObj_map hh, run_checkPlain huk hpl, run_findPlain huk hn]
  · cases hmap
    simp only [Rel] at hm
    obtain ⟨r, es, c, hu, _, hh, hks, hvs⟩ := hm
    refine fin es hks hvs fun v b hv => ?_
    rw [hu]
    rcases hv with ⟨hn, rfl, rfl⟩ | ⟨j, hn, rfl⟩
    · cases ok <;> simp [Instr.lookup, run_underlying hut, MapKept.run_getObj_map hh, run_checkPlain huk hpl, run_findPlain huk hn, zr]
    · cases ok <;> simp [Instr.lookup, run_underlying hut, MapKept.run_getObj_map hh, run_checkPlain huk hpl, run_findPlain huk hn]
  · cases hmap
    simp only [Rel] at hm
    refine fin #[] rfl relL_nil fun v b hv => ?_
    rw [hm]
    rcases hv with ⟨hn, rfl, rfl⟩ | ⟨j, hn, rfl⟩
    · have hn' : Instr.findNow d kv [] 0 = some none := rfl
      cases ok <;> simp [Instr.lookup, run_underlying hut, run_checkPlain huk hpl, run_findPlain huk hn', zr]
    · simp [Instr.findNow] at hn
  · cases hmap

theorem did_typeAssert_iface (g : Good w E G) {x : Operand} {xt asserted t : TypeId} {ok : Bool} (hop : o.op = .typeAssert x xt asserted ok) {want : Array (String × TypeId)} {p : PV} {i : TypeInfo} (hu : P.underlying asserted = some (.interface want))
    (hx : Rel w E G (.iface t p) (a.eval x)) (hi : P.info? t = some i) (hm : (Instr.missingMethod want i.methods).isNone = true) : Did P o a w E G (if ok then .tup [.iface t p, .v (.bool true)] else .iface t p) [] := by
  have hx' := hx
  simp only [Rel] at hx
  obtain ⟨v, hv, r⟩ := hx
  have hm' : Instr.missingMethod want i.methods = none := by simpa using hm
  have hrun : (Instr.typeAssert (a.eval x) xt asserted ok).run P w = .ok (if ok then .tuple #[.iface t v, .bool true] else .iface t v) w := by
    rw [hv]
    cases ok <;> simp [Instr.typeAssert, run_underlying hu, typeInfo, hi, hm']
  refine Did.same g (u := if ok then .tuple #[.iface t v, .bool true] else .iface t v) ?_ ?_
  · simp only [execOp, hop, Sem.run_bind, hrun, Result.andThen_ok, Sem.run_pure]
  · rw [hv] at hx'
    cases ok
    · exact hx'
    · simp only [if_true]
      rw [Rel]
      exact ⟨[.iface t v, .bool true], rfl, relL_cons hx' (relL_cons (by simp only [Rel]) relL_nil)⟩
theorem did_typeAssert (g : Good w E G) {x : Operand} {xt asserted t : TypeId} {ok : Bool} (hop : o.op = .typeAssert x xt asserted ok) {d : TypeDesc} {p zp q : PV} {z : Value} {b : Bool} (hu : P.underlying asserted = some d) (hd : ∀ want, d ≠ .interface want)
    (hx : Rel w E G (.iface t p) (a.eval x)) (hz : (P.info? asserted).bind (·.zero) = some z) (hzp : ofVal z = some zp) (hq : (t = asserted ∧ q = p ∧ b = true) ∨ (t ≠ asserted ∧ ok = true ∧ q = zp ∧ b = false)) :
    Did P o a w E G (if ok then .tup [q, .v (.bool b)] else q) [] := by
  simp only [Rel] at hx
  obtain ⟨v, hv, r⟩ := hx
  simp only [Option.bind_eq_some_iff] at hz
  obtain ⟨i, hi, hz⟩ := hz
  have zr : (zeroValue asserted).run P w = .ok z w := by simp [zeroValue, typeInfo, hi, hz]
  have key : ∃ u, (Instr.typeAssert (.iface t v) xt asserted ok).run P w = .ok (if ok then .tuple #[u, .bool b] else u) w ∧ Rel w E G q u := by
    rcases hq with ⟨rfl, rfl, rfl⟩ | ⟨ht, rfl, rfl, rfl⟩
    · refine ⟨v, ?_, r⟩
      cases ok <;> cases d <;> first | exact absurd rfl (hd _) | simp [Instr.typeAssert, run_underlying hu]
    · refine ⟨z, ?_, ofVal_rel hzp⟩
      cases d <;> first | exact absurd rfl (hd _) | simp [Instr.typeAssert, run_underlying hu, ht, zr]
  obtain ⟨u, hrun, r'⟩ := key
  refine Did.same g (u := if ok then .tuple #[u, .bool b] else u) ?_ ?_
  · simp only [execOp, hop, hv, Sem.run_bind, hrun, Result.andThen_ok, Sem.run_pure]
  · cases ok
    · exact r'
    · simp only [if_true]
      rw [Rel]
      exact ⟨[u, .bool b], rfl, relL_cons r' (relL_cons (by simp only [Rel]) relL_nil)⟩
end
end Go.Pv
