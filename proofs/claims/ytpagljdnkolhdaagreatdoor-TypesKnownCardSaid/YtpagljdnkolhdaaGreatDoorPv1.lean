/- What the operations on memory do, in terms of values without addresses. -/
import Derived.Test.YtpagljdnkolhdaaGreatDoorPv0
set_option linter.unusedSimpArgs false
set_option linter.unusedVariables false
namespace Go.Pv
open Go.RowKit

def upd1 (G : Get) (k : Key) (x : Nat × Ent) : Get := fun k' => if k' = k then x else G k'
def updG (G : Get) (ws : List (Key × Nat × Ent)) : Get := ws.foldl (fun G x => upd1 G x.1 x.2) G
@[simp] theorem updG_nil (G : Get) : updG G [] = G := rfl
@[simp] theorem updG_one (G : Get) (k : Key) (x : Nat × Ent) : updG G [(k, x)] = upd1 G k x := rfl
@[simp] theorem upd1_same (G : Get) (k : Key) (x : Nat × Ent) : upd1 G k x k = x := by simp [upd1]
theorem upd1_ne (G : Get) {k k' : Key} (x : Nat × Ent) (h : k' ≠ k) : upd1 G k x k' = G k' := by simp [upd1, h]

theorem Ent.ne_of_boxy {e : Ent} (h : e.boxy) : e ≠ .none := by cases e <;> simp_all [Ent.boxy]
theorem Good.lt {w : World} {E : Env} {G : Get} (g : Good w E G) : ∀ k, (G k).2 ≠ .none → E.β k < w.heap.size := by
  intro k h
  cases e : (G k).2 with
  | none => exact absurd e h
  | cells cs => obtain ⟨vs, t, hh, _⟩ := g.cells k cs e; exact (Array.getElem?_eq_some_iff.1 hh).1
  | map ks vs => obtain ⟨es, c, hh, _⟩ := g.map k ks vs e; exact (Array.getElem?_eq_some_iff.1 hh).1
  | top n el sz => exact g.line k n el sz e

/-- A new block, for a variable of the call's own. -/
theorem new_obj {w w0 : World} {E : Env} {G : Get} (g : Good w E G) (h0 : w0.heap = w.heap) (hos : w0.os = w.os) (htape : w0.tape = w.tape) (hout : w0.output = w.output) (k : Key) (ob : Obj) (ent : Ent) (htop : ∀ n e sz, ent ≠ .top n e sz)
    (hcells : ∀ cs, ent = .cells cs → ∃ vs t, ob = .cells (List.toArray vs) t (0, 0) ∧ RelP w E G cs vs ∧ ∀ v ∈ vs, v.oneCell' = true)
    (hmap : ∀ ks vs, ent = .map ks vs → ∃ es c, ob = .map es c ∧ es.toList.map (·.key) = ks ∧ RelL w E G vs (es.toList.map (·.val))) :
    ∃ E', Evo w E G (w0.alloc ob) E' (upd1 G k ((G k).1 + 1, ent)) ∧ Good (w0.alloc ob) E' (upd1 G k ((G k).1 + 1, ent)) ∧ E'.β k = w.heap.size := by
  let E' : Env := ⟨fun k' => if k' = k then w.heap.size else E.β k', fun b => if b = w.heap.size then 0 else E.lim b⟩
  have lt := g.lt
  have old : ∀ b, b < w.heap.size → (w0.alloc ob).heap[b]? = w.heap[b]? := fun b hb => by rw [← h0] at hb ⊢; exact Below.heap_alloc w0 _ _ hb
  have new : (w0.alloc ob).heap[w.heap.size]? = some ob := by
    show (w0.heap.push ob)[w.heap.size]? = _
    rw [h0]
    simp
  have M : Evo w E G (w0.alloc ob) E' (upd1 G k ((G k).1 + 1, ent)) := by
    refine { gen := ?_, keep := ?_, mapk := ?_, cell := ?_, top := ?_, os := hos, tape := htape, output := hout, size := by simp [h0], fresh := ?_, kept := ?_, limk := ?_ }
    · intro k'; by_cases e : k' = k
      · subst e; simp
      · simp [upd1_ne _ _ e]
    · intro k' e h
      by_cases ek : k' = k
      · subst ek; simp at e
      · rw [upd1_ne _ _ ek]
        refine ⟨Ent.alike_boxy h, by simp [E', ek], fun m ⟨arr, t, hh, hm⟩ => ⟨arr, t, ?_, hm⟩⟩
        rw [old _ (lt k' (Ent.ne_of_boxy h))]; exact hh
    · intro b es c hl hh
      have hb := (Array.getElem?_eq_some_iff.1 hh).1
      have : b ≠ w.heap.size := by omega
      exact ⟨by simp [E', this, hl], by rw [old b hb]; exact hh⟩
    · intro b o u ho hc
      have hb : b < w.heap.size := World.block_lt_of_cell? w ⟨b, o, none⟩ hc
      have : b ≠ w.heap.size := by omega
      refine ⟨by simp [E', this, ho], ?_⟩
      rw [World.cell?_of_block (w := w) (a := ⟨b, o, none⟩) (old b hb)]; exact hc
    · intro k' n el sz e h
      by_cases ek : k' = k
      · subst ek; simp at e
      · rw [upd1_ne _ _ ek]
        have hb := lt k' (by rw [h]; simp)
        have : E.β k' ≠ w.heap.size := by omega
        exact ⟨n, h, Nat.le_refl _, fun _ => ⟨by simp [E', ek], by simp [E', this], fun arr t' hh => ⟨arr, by rw [old _ hb]; exact hh, rfl⟩⟩⟩
    · intro k' h
      by_cases ek : k' = k
      · subst ek; exact .inr (by simp [E'])
      · rw [upd1_ne _ _ ek] at h ⊢; exact .inl ⟨Ent.alike_self h, by simp [E', ek]⟩
    · intro b hb _; exact old b hb
    · intro b hb _
      have : b ≠ w.heap.size := by omega
      simp [E', this]
  refine ⟨E', M, ⟨?_, ?_, ?_, ?_⟩, by simp [E']⟩
  · intro k' cs' h
    by_cases ek : k' = k
    · subst ek
      simp only [upd1_same] at h
      obtain ⟨vs, t, ho, r, h1⟩ := hcells cs' h
      refine ⟨vs, t, ?_, r.mono M.toMono, h1, by simp [E']⟩
      simp only [E', if_true]
      rw [new, ho]
    · rw [upd1_ne _ _ ek] at h
      obtain ⟨us, t', hh, hr, h1, hl⟩ := g.cells k' cs' h
      have hb := lt k' (by rw [h]; simp)
      have hne : E.β k' ≠ w.heap.size := by omega
      exact ⟨us, t', by simp only [E', ek, if_false]; rw [old _ hb]; exact hh, hr.mono M.toMono, h1, by simp [E', ek, hne, hl]⟩
  · intro k' n el sz h
    by_cases ek : k' = k
    · subst ek; simp only [upd1_same] at h; exact absurd h (htop _ _ _)
    · rw [upd1_ne _ _ ek] at h
      simp only [E', ek, if_false, World.size_alloc, h0]
      have := g.line k' n el sz h; omega
  · intro k' ks vs h
    by_cases ek : k' = k
    · subst ek
      simp only [upd1_same] at h
      obtain ⟨es, c, ho, hk, r⟩ := hmap ks vs h
      refine ⟨es, c, ?_, hk, RelL.mono M.toMono _ _ r, by simp [E']⟩
      simp only [E', if_true]
      rw [new, ho]
    · rw [upd1_ne _ _ ek] at h
      obtain ⟨es, c, hh, hk, hr, hl⟩ := g.map k' ks vs h
      have hb := lt k' (by rw [h]; simp)
      have hne : E.β k' ≠ w.heap.size := by omega
      exact ⟨es, c, by simp only [E', ek, if_false]; rw [old _ hb]; exact hh, hk, RelL.mono M.toMono _ _ hr, by simp [E', ek, hne, hl]⟩
  · intro k1 k2 h1 h2 e
    by_cases e1 : k1 = k <;> by_cases e2 : k2 = k
    · rw [e1, e2]
    · subst e1
      rw [upd1_ne _ _ e2] at h2
      have := lt k2 h2
      simp [E', e2] at e; omega
    · subst e2
      rw [upd1_ne _ _ e1] at h1
      have := lt k1 h1
      simp [E', e1] at e; omega
    · rw [upd1_ne _ _ e1] at h1
      rw [upd1_ne _ _ e2] at h2
      simp only [E', e1, e2, if_false] at e
      exact g.inj k1 k2 h1 h2 e
theorem new_block {w : World} {E : Env} {G : Get} (g : Good w E G) (k : Key) {cs : List PV} {vs : List Value} (t : TypeId) (r : RelP w E G cs vs) (h1 : ∀ v ∈ vs, v.oneCell' = true) :
    ∃ E', Evo w E G (w.alloc (.cells vs.toArray t)) E' (upd1 G k ((G k).1 + 1, .cells cs)) ∧ Good (w.alloc (.cells vs.toArray t)) E' (upd1 G k ((G k).1 + 1, .cells cs)) ∧ E'.β k = w.heap.size :=
  new_obj g rfl rfl rfl rfl k _ _ (fun _ _ _ h => by cases h) (fun cs' h => by cases h; exact ⟨vs, t, rfl, r, h1⟩) (fun _ _ h => by cases h)

theorem live_cells {G : Get} {k : Key} {g : Nat} {cs : List PV} (h : cellsAt G k g = some cs) : g = (G k).1 ∧ (G k).2 = .cells cs := by
  unfold cellsAt at h
  split at h
  · rename_i g' cs' e
    split at h
    · rename_i eg; cases h; rw [e]; exact ⟨eg, rfl⟩
    · cases h
  · cases h

/-- A variable's block is written. -/
theorem set_obj {w w' : World} {E : Env} {G : Get} (g : Good w E G) {k : Key} (ent : Ent) (hb : (G k).2.boxy) (ha : (G k).2.alike ent)
    (ho : ∀ b, b ≠ E.β k → w'.heap[b]? = w.heap[b]?) (hz : w'.heap.size = w.heap.size) (os : w'.os = w.os) (tape : w'.tape = w.tape) (out : w'.output = w.output)
    (hcells : ∀ cs, ent = .cells cs → ∃ vs t, w'.heap[E.β k]? = some (.cells (List.toArray vs) t (0, 0)) ∧ RelP w E G cs vs ∧ ∀ v ∈ vs, v.oneCell' = true)
    (hroom : ∀ m, Room w (E.β k) m → Room w' (E.β k) m)
    (hmap : ∀ ks vs, ent = .map ks vs → ∃ es c, w'.heap[E.β k]? = some (.map es c) ∧ es.toList.map (·.key) = ks ∧ RelL w E G vs (es.toList.map (·.val))) :
    Evo w E G w' E (upd1 G k ((G k).1, ent)) ∧ Good w' E (upd1 G k ((G k).1, ent)) := by
  have hne : (G k).2 ≠ .none := (Ent.alike_ne ha).1
  have hl0 : E.lim (E.β k) = 0 := by
    cases e : (G k).2 with
    | cells cs => obtain ⟨_, _, _, _, _, h⟩ := g.cells k cs e; exact h
    | map ks vs => obtain ⟨_, _, _, _, _, h⟩ := g.map k ks vs e; exact h
    | none => rw [e] at hb; exact hb.elim
    | top n el sz => rw [e] at hb; exact hb.elim
  have ne : ∀ k', (G k').2 ≠ .none → k' ≠ k → E.β k' ≠ E.β k := fun k' h ek e => ek (g.inj k' k h hne e)
  have M : Evo w E G w' E (upd1 G k ((G k).1, ent)) := by
    refine { gen := ?_, keep := ?_, mapk := ?_, cell := ?_, top := ?_, os := os, tape := tape, output := out, size := by rw [hz]; exact Nat.le_refl _, fresh := ?_, kept := ?_, limk := fun _ _ _ => rfl }
    · intro k'; by_cases e : k' = k
      · subst e; simp
      · simp [upd1_ne _ _ e]
    · intro k' e h
      by_cases ek : k' = k
      · subst ek; simp only [upd1_same]; exact ⟨ha, trivial, hroom⟩
      · rw [upd1_ne _ _ ek]
        refine ⟨Ent.alike_boxy h, rfl, fun m ⟨arr, t, hh, hm⟩ => ⟨arr, t, ?_, hm⟩⟩
        rw [ho _ (ne k' (Ent.ne_of_boxy h) ek)]; exact hh
    · intro b es c hl hh
      have hb : b ≠ E.β k := by rintro rfl; omega
      exact ⟨hl, by rw [ho b hb]; exact hh⟩
    · intro b o u ho' hcu
      refine ⟨ho', ?_⟩
      have hb : b ≠ E.β k := by rintro rfl; omega
      rw [World.cell?_of_block (w := w) (a := ⟨b, o, none⟩) (ho b hb)]; exact hcu
    · intro k' n el sz e h
      by_cases ek : k' = k
      · subst ek; rw [h] at hb; exact hb.elim
      · rw [upd1_ne _ _ ek]
        have hb := ne k' (by rw [h]; simp) ek
        exact ⟨n, h, Nat.le_refl _, fun _ => ⟨rfl, rfl, fun arr t' hh => ⟨arr, by rw [ho _ hb]; exact hh, rfl⟩⟩⟩
    · intro k' h
      by_cases ek : k' = k
      · subst ek; exact .inl ⟨by simp only [upd1_same]; exact ha, rfl⟩
      · rw [upd1_ne _ _ ek] at h ⊢; exact .inl ⟨Ent.alike_self h, rfl⟩
    · intro b hb hn; exact ho b fun e => hn k hne e.symm
  refine ⟨M, ⟨?_, ?_, ?_, ?_⟩⟩
  · intro k' c h
    by_cases ek : k' = k
    · subst ek
      simp only [upd1_same] at h
      obtain ⟨vs, t, hh, r, h1⟩ := hcells c h
      exact ⟨vs, t, hh, r.mono M.toMono, h1, hl0⟩
    · rw [upd1_ne _ _ ek] at h
      obtain ⟨us, t', hh', hr, h1, hl⟩ := g.cells k' c h
      have hb := ne k' (by rw [h]; simp) ek
      exact ⟨us, t', by rw [ho _ hb]; exact hh', hr.mono M.toMono, h1, hl⟩
  · intro k' n el sz h
    rw [hz]
    by_cases ek : k' = k
    · subst ek
      simp only [upd1_same] at h
      rw [h] at ha
      cases e : (G k').2 <;> rw [e] at ha hb <;> first | exact hb.elim | exact ha.elim
    · rw [upd1_ne _ _ ek] at h; exact g.line k' n el sz h
  · intro k' ks vs h
    by_cases ek : k' = k
    · subst ek
      simp only [upd1_same] at h
      obtain ⟨es, c, hh, hk, r⟩ := hmap ks vs h
      exact ⟨es, c, hh, hk, RelL.mono M.toMono _ _ r, hl0⟩
    · rw [upd1_ne _ _ ek] at h
      obtain ⟨es, c, hh', hk, hr, hl⟩ := g.map k' ks vs h
      have hb := ne k' (by rw [h]; simp) ek
      exact ⟨es, c, by rw [ho _ hb]; exact hh', hk, RelL.mono M.toMono _ _ hr, hl⟩
  · intro k1 k2 h1 h2 e
    have q : ∀ q, (upd1 G k ((G k).1, ent) q).2 ≠ .none → (G q).2 ≠ .none := by
      intro q h
      by_cases eq : q = k
      · subst eq; exact hne
      · rwa [upd1_ne _ _ eq] at h
    exact g.inj k1 k2 (q k1 h1) (q k2 h2) e

/-- A store into a variable. -/
theorem set_block {w : World} {E : Env} {G : Get} (g : Good w E G) {k : Key} {gn : Nat} {cs cs' : List PV} (hk : cellsAt G k gn = some cs) {vs vs' : List Value} {t : TypeId}
    (hh : w.heap[E.β k]? = some (.cells vs.toArray t (0, 0))) (r : RelP w E G cs' vs') (h1 : ∀ v ∈ vs', v.oneCell' = true) (hlen : vs'.length = vs.length) :
    Evo w E G (w.setRow (E.β k) vs'.toArray) E (upd1 G k (gn, .cells cs')) ∧ Good (w.setRow (E.β k) vs'.toArray) E (upd1 G k (gn, .cells cs')) := by
  obtain ⟨rfl, hc⟩ := live_cells hk
  have hs : (w.setRow (E.β k) vs'.toArray).heap[E.β k]? = some (.cells vs'.toArray t (0, 0)) := setRow_heap w (E.β k) vs.toArray vs'.toArray t (0, 0) hh
  exact set_obj g (.cells cs') (by rw [hc]; trivial) (by rw [hc]; trivial) (fun b hb => setRow_other w (E.β k) b _ hb) (by simp) rfl rfl rfl (fun cs h => by cases h; exact ⟨vs', t, hs, r, h1⟩)
    (fun m ⟨arr, t', ha, hm⟩ => by rw [hh] at ha; cases ha; exact ⟨_, t, hs, by simpa [hlen] using hm⟩) (fun _ _ h => by cases h)
/-- A name is taken anew for the same variable. -/
theorem regen {w : World} {E : Env} {G : Get} (g : Good w E G) (k : Key) (hb : (G k).2.boxy) : Evo w E G w E (upd1 G k ((G k).1 + 1, (G k).2)) ∧ Good w E (upd1 G k ((G k).1 + 1, (G k).2)) := by
  have q2 : ∀ q, (upd1 G k ((G k).1 + 1, (G k).2) q).2 = (G q).2 := by
    intro q
    by_cases e : q = k
    · subst e; simp
    · rw [upd1_ne _ _ e]
  have M : Evo w E G w E (upd1 G k ((G k).1 + 1, (G k).2)) := by
    refine { gen := ?_, keep := ?_, mapk := fun _ _ _ h k => ⟨h, k⟩, cell := fun _ _ _ h k => ⟨h, k⟩, top := ?_, os := rfl, tape := rfl, output := rfl, size := Nat.le_refl _, fresh := ?_, kept := fun _ _ _ => rfl, limk := fun _ _ _ => rfl }
    · intro q
      by_cases e : q = k
      · subst e; simp
      · rw [upd1_ne _ _ e]; exact Nat.le_refl _
    · intro q _ h
      rw [q2]
      exact ⟨Ent.alike_boxy h, rfl, fun _ h => h⟩
    · intro q n el sz e ht
      rw [q2]
      exact ⟨n, ht, Nat.le_refl _, fun _ => ⟨rfl, rfl, fun arr t hh => ⟨arr, hh, rfl⟩⟩⟩
    · intro q hq
      rw [q2] at hq ⊢
      exact .inl ⟨Ent.alike_self hq, rfl⟩
  refine ⟨M, ⟨?_, ?_, ?_, ?_⟩⟩
  · intro q cs h
    rw [q2] at h
    obtain ⟨vs, t, hh, r, h1, hl⟩ := g.cells q cs h
    exact ⟨vs, t, hh, r.mono M.toMono, h1, hl⟩
  · intro q n el sz h
    rw [q2] at h
    exact g.line q n el sz h
  · intro q ks vs h
    rw [q2] at h
    obtain ⟨es, c, hh, hk, r, hl⟩ := g.map q ks vs h
    exact ⟨es, c, hh, hk, RelL.mono M.toMono _ _ r, hl⟩
  · intro q q' h h' e
    rw [q2] at h h'
    exact g.inj q q' h h' e

section
variable {P : Program} {w : World} {E : Env} {G : Get}
theorem addr_add (b o n : Nat) : (⟨b, o, none⟩ : Addr).add n = ⟨b, o + n, none⟩ := by unfold Addr.add; split <;> simp_all

theorem run_sizeOf' {t : TypeId} {n : Nat} (h : szOf P t = some n) (w : World) : (sizeOf t).run P w = .ok n w := by
  unfold szOf at h
  simp only [Option.map_eq_some_iff] at h
  obtain ⟨i, hi, rfl⟩ := h
  simp [sizeOf, typeInfo, hi]
theorem run_isAgg' {t : TypeId} {b : Bool} (h : aggT P t = some b) (w : World) : (isAgg t).run P w = .ok b w := by
  unfold aggT at h
  simp only [Option.map_eq_some_iff] at h
  obtain ⟨d, hd, rfl⟩ := h
  unfold isAgg
  simp only [Sem.run_bind, run_underlying hd, Result.andThen_ok]
  cases d <;> rfl

/-- Cells that are there, from an offset of a block on. -/
def Lies (w : World) (b o : Nat) (vs : List Value) : Prop := ∀ j v, vs[j]? = some v → w.cell? ⟨b, o + j, none⟩ = some v
theorem Lies.of_row {b : Nat} {vs : List Value} {t : TypeId} (h : w.heap[b]? = some (.cells vs.toArray t (0, 0))) : Lies w b 0 vs := by
  intro j v hv
  simp [World.cell?, h, hv]
theorem RelC.lies : ∀ {cs : List PV} {b o : Nat}, RelC w E G cs b o → ∃ vs, RelL w E G cs vs ∧ Lies w b o vs
  | [], b, o, _ => ⟨[], relL_nil, fun j v h => by simp at h⟩
  | p :: ps, b, o, h => by
    simp only [RelC] at h
    obtain ⟨⟨_, u, hc, ho, hr⟩, k⟩ := h
    obtain ⟨vs, h1, h2⟩ := RelC.lies k
    refine ⟨u :: vs, relL_cons hr h1, fun j v hv => ?_⟩
    cases j with
    | zero => simp only [List.getElem?_cons_zero, Option.some.injEq] at hv; subst hv; exact hc
    | succ j => have := h2 j v (by simpa using hv); rwa [show o + 1 + j = o + (j + 1) by omega] at this

theorem run_loadVar_lies {t : TypeId} {cs : List PV} {off : Nat} {p : PV} (h : readP P t cs off = some p) {b o : Nat} {vs : List Value} (r : RelL w E G cs vs) (hl : Lies w b o vs) :
    ∃ u, (loadVar t ⟨b, o + off, none⟩).run P w = .ok u w ∧ Rel w E G p u := by
  unfold readP at h
  simp only [Option.bind_eq_bind, Option.bind_eq_some_iff] at h
  obtain ⟨ag, ha, h⟩ := h
  unfold loadVar
  simp only [Sem.run_bind, run_isAgg' ha, Result.andThen_ok]
  cases ag with
  | true =>
    simp only [if_true, Option.bind_eq_some_iff] at h ⊢
    obtain ⟨n, hn, h⟩ := h
    split at h
    · rename_i hle
      cases h
      have hlen : ((vs.drop off).take n).length = n := by have := r.length; simp; omega
      have hc : ∀ j v, ((vs.drop off).take n)[j]? = some v → w.cell? ((⟨b, o + off, none⟩ : Addr).add j) = some v := by
        intro j v hv
        rw [addr_add]
        have hv' : vs[off + j]? = some v := by
          rw [List.getElem?_take] at hv
          split at hv
          · simpa [List.getElem?_drop] using hv
          · cases hv
        have := hl _ _ hv'
        rwa [← Nat.add_assoc] at this
      have hload := run_loadCells_list (P := P) w ⟨b, o + off, none⟩ _ hc
      rw [hlen] at hload
      refine ⟨.agg ((vs.drop off).take n).toArray, ?_, ?_⟩
      · simp only [Sem.run_bind, run_sizeOf' hn, Result.andThen_ok, hload, Sem.run_pure]
      · simp only [Rel]; exact ⟨_, rfl, (r.drop off).take n⟩
    · cases h
  | false =>
    simp only [Bool.false_eq_true, if_false] at h ⊢
    obtain ⟨v, hv, hr⟩ := r.get h
    refine ⟨v, ?_, hr⟩
    simp only [run_load, hl _ _ hv]

theorem run_part' {t : TypeId} {cs : List PV} {off : Nat} {p : PV} (h : readP P t cs off = some p) {vs : List Value} (r : RelL w E G cs vs) :
    ∃ u, (part t vs.toArray off).run P w = .ok u w ∧ Rel w E G p u := by
  unfold readP at h
  simp only [Option.bind_eq_bind, Option.bind_eq_some_iff] at h
  obtain ⟨ag, ha, h⟩ := h
  unfold part
  simp only [Sem.run_bind, run_isAgg' ha, Result.andThen_ok]
  cases ag with
  | true =>
    simp only [if_true, Option.bind_eq_some_iff] at h ⊢
    obtain ⟨n, hn, h⟩ := h
    split at h
    · cases h
      refine ⟨.agg (vs.toArray.extract off (off + n)), by simp only [Sem.run_bind, run_sizeOf' hn, Result.andThen_ok]; rfl, ?_⟩
      simp only [Rel]
      exact ⟨(vs.drop off).take n, by simp [List.extract_eq_take_drop], (r.drop off).take n⟩
    · cases h
  | false =>
    simp only [Bool.false_eq_true, if_false] at h ⊢
    obtain ⟨v, hv, hr⟩ := r.get h
    refine ⟨v, ?_, hr⟩
    simp [hv]
end
end Go.Pv
namespace Go.Pv
open Go.RowKit

def Did (P : Program) (o : Oper) (a : Act) (w : World) (E : Env) (G : Get) (p : PV) (ws : List (Key × Nat × Ent)) : Prop :=
  ∃ n u w' E', (execOp a.eval o).run P w = .ok n w' ∧ (n = .value u ∨ (n = .skip ∧ u = undef)) ∧ Evo w E G w' E' (updG G ws) ∧ Good w' E' (updG G ws) ∧ Rel w' E' (updG G ws) p u

section
variable {P : Program} {o : Oper} {a : Act} {w : World} {E : Env} {G : Get} {ρ : Operand → PV}

theorem Did.same (g : Good w E G) {p : PV} {u : Value} (h : (execOp a.eval o).run P w = .ok (.value u) w) (r : Rel w E G p u) : Did P o a w E G p [] :=
  ⟨_, u, w, E, h, .inl rfl, Evo.rfl, g, r⟩

theorem plainOp_did (g : Good w E G) (hρ : ∀ x ∈ o.op.operands, Rel w E G (ρ x) (a.eval x)) {r : OpR} (h : plainOp P o ρ = some r) : ∃ p, r = .val p [] ∧ Did P o a w E G p [] := by
  unfold plainOp at h
  split at h
  · rename_i hall
    have hs : ∀ cs b, o.op ≠ .select cs b := by
      intro cs b e
      rw [e] at h
      simp at h
    have hev : execOp a.eval o = execOp (fun x => (toVal (ρ x)).getD undef) o := by
      refine execOp_congr o hs fun x hx => ?_
      have hx' := List.all_eq_true.1 hall x (Array.mem_toList_iff.2 hx)
      obtain ⟨y, hy⟩ := Option.isSome_iff_exists.1 hx'
      rw [hy]
      exact toVal_rel _ _ _ hy (hρ x hx)
    have : ∃ v, pureRun P (execOp (fun x => (toVal (ρ x)).getD undef) o) = some (.value v) ∧ ∃ p, ofVal v = some p ∧ r = .val p [] := by
      revert h
      split
      · exact fun h => by cases h
      · split
        · rename_i v hv
          intro h
          simp only [Option.map_eq_some_iff] at h
          obtain ⟨p, hp, rfl⟩ := h
          exact ⟨v, hv, p, hp, rfl⟩
        · exact fun h => by cases h
    obtain ⟨v, hv, p, hp, rfl⟩ := this
    exact ⟨p, rfl, Did.same g (by rw [hev]; exact pureRun_run hv w) (ofVal_rel hp)⟩
  · cases h

theorem natOf_rel {p : PV} {i : Nat} {u : Value} (h : natOfP p = some i) (r : Rel w E G p u) : ∃ k, u = .int k i := by
  unfold natOfP intOfP at h
  cases p <;> try (simp at h; done)
  rename_i x
  cases x <;> try (simp at h; done)
  rename_i k n
  simp only [Option.bind_some] at h
  split at h
  · cases h
    simp only [Rel] at r
    exact ⟨k, by rw [r, Int.toNat_of_nonneg ‹_›]⟩
  · cases h

theorem live_rel {p : PV} {u : Value} (h : liveP G p = true) (r : Rel w E G p u) : ∃ ad, u = .pointer (some ad) := by
  unfold liveP at h
  split at h
  · rename_i k g off
    obtain ⟨cs, hc⟩ := Option.isSome_iff_exists.1 h
    obtain ⟨eg, _⟩ := live_cells hc
    simp only [Rel] at r
    rcases r with r | ⟨_, _, rfl⟩
    · omega
    · exact ⟨_, rfl⟩
  · simp only [Rel] at r
    obtain ⟨b, o, rfl, _⟩ := r
    exact ⟨_, rfl⟩
  · cases h
theorem ref_rel {k : Key} {g off : Nat} {u : Value} {cs : List PV} (h : cellsAt G k g = some cs) (r : Rel w E G (.ref k g off) u) : u = .pointer (some ⟨E.β k, off, none⟩) := by
  obtain ⟨eg, _⟩ := live_cells h
  simp only [Rel] at r
  rcases r with r | ⟨_, _, rfl⟩
  · omega
  · rfl

theorem ofCell_one {x : Value} {p : PV} (h : ofCell x = some p) : p.one G = true := by
  unfold ofCell at h
  split at h
  · split at h
    · split at h
      · cases h; rfl
      · cases h
    · split at h
      · cases h; rfl
      · cases h
  · split at h
    · cases h; rfl
    · cases h
  · cases h; rfl
  · split at h
    · rename_i hp
      cases h
      simp only [PV.one]
      cases x <;> first | rfl | simp [plainV] at hp
    · cases h
theorem ofCells_one : ∀ {xs : List Value} {ps : List PV}, ofCells xs = some ps → ps.all (PV.one G) = true
  | [], ps, h => by simp only [ofCells, Option.some.injEq] at h; subst h; rfl
  | x :: xs, ps, h => by
    simp only [ofCells, Option.bind_eq_bind, Option.bind_eq_some_iff, pure, Option.some.injEq] at h
    obtain ⟨p, hp, qs, hq, rfl⟩ := h
    simp only [List.all_cons, ofCell_one hp, ofCells_one hq, Bool.and_self]
theorem ofVal_one {x : Value} {p : PV} {cs : List PV} (h : ofVal x = some p) (hc : p.cells? G = some cs) : cs.all (PV.one G) = true := by
  unfold ofVal at h
  split at h
  · simp only [Option.map_eq_some_iff] at h
    obtain ⟨ps, hp, rfl⟩ := h
    simp only [PV.cells?, Option.some.injEq] at hc
    subst hc
    exact ofCells_one hp
  · simp only [Option.map_eq_some_iff] at h
    obtain ⟨ps, hp, rfl⟩ := h
    simp [PV.cells?, PV.one] at hc
  · have h1 := ofCell_one (G := G) h
    unfold PV.cells? at hc
    split at hc
    · simp [PV.one] at h1
    · rw [if_pos h1] at hc
      cases hc
      simp [h1]

theorem did_alloc (g : Good w E G) {elem : TypeId} (hop : o.op = .alloc elem) {d : Tmp} {z : Value} {p : PV} {cs : List PV} (hz : (P.info? elem).bind (·.zero) = some z) (hp : ofVal z = some p)
    (hc : p.cells? G = some cs) : Did P o a w E G (.ref (.loc d) ((G (.loc d)).1 + 1) 0) [(.loc d, (G (.loc d)).1 + 1, .cells cs)] := by
  obtain ⟨E', M, g', hb⟩ := new_block g (.loc d) elem (.of (cells?_rel hc (ofVal_rel hp))) (all_one (w := w) (E := E) (cells?_rel hc (ofVal_rel hp)) (ofVal_one hp hc))
  simp only [Array.toArray_toList] at M g'
  simp only [Option.bind_eq_some_iff] at hz
  obtain ⟨i, hi, hz⟩ := hz
  refine ⟨_, .pointer (some ⟨w.heap.size, 0, none⟩), _, E', ?_, .inl rfl, M, g', ?_⟩
  · simp [execOp, hop, Instr.alloc, zeroValue, typeInfo, hi, hz, newVar, newRow]
  · simp only [Rel, updG_one, upd1_same]
    exact .inr ⟨trivial, ⟨cs, rfl⟩, by rw [hb]⟩
theorem did_box (g : Good w E G) {elem : TypeId} {x : Operand} (hop : o.op = .box elem x) (hx : Rel w E G (ρ x) (a.eval x)) {d : Tmp} {cs : List PV}
    (hc : (ρ x).cells? G = some cs) (h1 : cs.all (PV.one G) = true) : Did P o a w E G (.ref (.loc d) ((G (.loc d)).1 + 1) 0) [(.loc d, (G (.loc d)).1 + 1, .cells cs)] := by
  obtain ⟨E', M, g', hb⟩ := new_block g (.loc d) elem (.of (cells?_rel hc hx)) (all_one (cells?_rel hc hx) h1)
  simp only [Array.toArray_toList] at M g'
  refine ⟨_, .pointer (some ⟨w.heap.size, 0, none⟩), _, E', ?_, .inl rfl, M, g', ?_⟩
  · simp [execOp, hop, Instr.box, newVar, newRow]
  · simp only [Rel, updG_one, upd1_same]
    exact .inr ⟨trivial, ⟨cs, rfl⟩, by rw [hb]⟩

theorem Lies.left' {b o : Nat} {xs ys : List Value} (h : Lies w b o (xs ++ ys)) : Lies w b o xs := by
  intro j v hv
  have hj := (List.getElem?_eq_some_iff.1 hv).1
  exact h j v (by rw [List.getElem?_append_left hj]; exact hv)
theorem Good.lies (g : Good w E G) {k : Key} {gn : Nat} {cs : List PV} (h : cellsAt G k gn = some cs) : ∃ vs rest t, w.heap[E.β k]? = some (.cells (List.toArray (vs ++ rest)) t (0, 0)) ∧ RelL w E G cs vs ∧ Lies w (E.β k) 0 vs ∧ (∀ v ∈ vs, v.oneCell' = true) ∧ ∀ v ∈ rest, v.oneCell' = true := by
  obtain ⟨_, hc⟩ := live_cells h
  obtain ⟨_, t, hh, ⟨vs, rest, rfl, r⟩, h1, _⟩ := g.cells k cs hc
  exact ⟨vs, rest, t, hh, r, (Lies.of_row hh).left', fun v hv => h1 v (by simp [hv]), fun v hv => h1 v (by simp [hv])⟩

theorem did_load (g : Good w E G) {t : TypeId} {x : Operand} (hop : o.op = .load t x) (hx : Rel w E G (ρ x) (a.eval x)) {p : PV}
    (h : (match ρ x with
    | .ref k gn off => do let cs ← cellsAt G k gn; readP P t cs off
    | .eptr cs off => readP P t cs off
    | _ => none) = some p) : Did P o a w E G p [] := by
  split at h
  · rename_i k gn off e
    rw [e] at hx
    simp only [Option.bind_eq_bind, Option.bind_eq_some_iff] at h
    obtain ⟨cs, hc, h⟩ := h
    have hu := ref_rel hc hx
    obtain ⟨vs, rest, t', hh, r, hl, _⟩ := g.lies hc
    obtain ⟨u, hr, hu'⟩ := run_loadVar_lies h r hl
    refine Did.same g (u := u) ?_ hu'
    rw [Nat.zero_add] at hr
    simp [execOp, hop, Instr.loadAt, hu, Instr.sureAddr, hr]
  · rename_i cs off e
    rw [e] at hx
    simp only [Rel] at hx
    obtain ⟨b, o', hu, hc⟩ := hx
    obtain ⟨vs, r, hl⟩ := hc.lies
    obtain ⟨u, hr, hu'⟩ := run_loadVar_lies h r hl
    refine Did.same g (u := u) ?_ hu'
    simp [execOp, hop, Instr.loadAt, hu, Instr.sureAddr, hr]
  · cases h

theorem splice_rest {α : Type} (us rest xs : List α) (off : Nat) (h : off + xs.length ≤ us.length) : (us ++ rest).take off ++ xs ++ (us ++ rest).drop (off + xs.length) = (us.take off ++ xs ++ us.drop (off + xs.length)) ++ rest := by
  rw [List.take_append_of_le_length (by omega), List.drop_append_of_le_length (by omega)]
  simp
theorem did_store (g : Good w E G) {t : TypeId} {x y : Operand} (hop : o.op = .store t x y) (hx : Rel w E G (ρ x) (a.eval x)) (hy : Rel w E G (ρ y) (a.eval y)) {k : Key} {gn off n : Nat} {cs vs : List PV}
    (e : ρ x = .ref k gn off) (hc : cellsAt G k gn = some cs) (hv : (ρ y).cells? G = some vs) (hn : szOf P t = some n) (h1 : vs.length = n) (h2 : off + n ≤ cs.length) (h3 : vs.all (PV.one G) = true) :
    Did P o a w E G undefP [(k, gn, .cells (splice cs vs off))] := by
  rw [e] at hx
  have hu := ref_rel hc hx
  obtain ⟨us, rest, t', hh, r, hl, h1u, h1r⟩ := g.lies hc
  have rv := cells?_rel hv hy
  have h1' := all_one rv h3
  have len : (a.eval y).cells.toList.length = n := by rw [rv.length, h1]
  have hul : off + (a.eval y).cells.toList.length ≤ us.length := by have := r.length; omega
  have hst := run_storeCells_at P (E.β k) off t' (a.eval y).cells.toList 0 (us ++ rest).toArray w hh (by simp at len hul ⊢; omega) h1'
  have rs := r.splice rv off
  have hlen : (us.take off ++ (a.eval y).cells.toList ++ us.drop (off + (a.eval y).cells.toList.length)).length = us.length := by simp at hul ⊢; omega
  have hrow : ((us ++ rest).take off ++ (a.eval y).cells.toList ++ (us ++ rest).drop (off + (a.eval y).cells.toList.length)) = (us.take off ++ (a.eval y).cells.toList ++ us.drop (off + (a.eval y).cells.toList.length)) ++ rest := splice_rest us rest _ off hul
  obtain ⟨M, g'⟩ := set_block g hc hh ⟨_, rest, rfl, rs⟩ (by
    intro v hv
    simp only [List.mem_append] at hv
    rcases hv with ((hv | hv) | hv) | hv
    · exact h1u v (List.mem_of_mem_take hv)
    · exact h1' v hv
    · exact h1u v (List.mem_of_mem_drop hv)
    · exact h1r v hv) (by have := hlen; simp only [List.length_append] at this ⊢; omega)
  refine ⟨.skip, undef, _, E, ?_, .inr ⟨rfl, rfl⟩, M, g', ?_⟩
  · have hne : ¬ ((a.eval y).cells.size ≠ n) := by simpa using len
    simp only [execOp, hop, Instr.storeAt, hu, Instr.sureAddr, storeVar, Sem.run_bind, Sem.run_pure, Result.andThen_ok, run_sizeOf' hn, hne, if_false, Sem.run_ite]
    rw [hst]
    rw [← hrow]
    simp
  · simp only [undefP, Rel]
    exact ⟨[], rfl, relL_nil⟩
end
end Go.Pv
namespace Go.Pv
open Go.RowKit

theorem cells?_flat {p : PV} {cs : List PV} {G : Get} (h : p.cells? G = some cs) : p.flat = cs := by
  unfold PV.cells? at h
  split at h
  · cases h; rfl
  · rename_i hn
    split at h
    · cases h
      cases p <;> first | rfl | (exact absurd rfl (hn _))
    · cases h
theorem sizeOk_flat {e : PV} {es : List PV} {sz : Nat} (h : sizeOk (e :: es) sz = true) : e.flat.length = sz := by
  simp only [sizeOk, beq_iff_eq] at h
  rw [← h]
  cases e <;> rfl

section
variable {w : World} {E : Env} {G : Get}
theorem RelR_cons {p : PV} {ps : List PV} {b o sz : Nat} : RelR w E G (p :: ps) b o sz ↔ (p.flat.length = sz ∧ RelC w E G p.flat b o) ∧ RelR w E G ps b (o + sz) sz := by
  cases p <;> simp only [RelR, PV.flat, RelC, List.length_cons, List.length_nil, Nat.zero_add, and_true, eq_comm]

/-- The cells of a row of elements. -/
def RelV (w : World) (E : Env) (G : Get) (sz : Nat) : List PV → List Value → Prop
  | [], vs => vs = []
  | p :: ps, vs => ∃ xs ys, vs = xs ++ ys ∧ xs.length = sz ∧ RelL w E G p.flat xs ∧ RelV w E G sz ps ys

theorem RelC.lies2 : ∀ {cs : List PV} {b o : Nat}, RelC w E G cs b o → ∃ vs, RelL w E G cs vs ∧ Lies w b o vs ∧ (∀ v ∈ vs, v.oneCell' = true) ∧ ∀ j, j < vs.length → o + j < E.lim b
  | [], b, o, _ => ⟨[], relL_nil, fun j v h => by simp at h, by simp, by simp⟩
  | p :: ps, b, o, h => by
    simp only [RelC] at h
    obtain ⟨⟨hl, u, hc, h1, hr⟩, k⟩ := h
    obtain ⟨vs, k1, k2, k3, k4⟩ := RelC.lies2 k
    refine ⟨u :: vs, relL_cons hr k1, fun j v hv => ?_, ?_, ?_⟩
    · cases j with
      | zero => simp only [List.getElem?_cons_zero, Option.some.injEq] at hv; subst hv; exact hc
      | succ j => have := k2 j v (by simpa using hv); rwa [show o + 1 + j = o + (j + 1) by omega] at this
    · intro v hv
      rcases List.mem_cons.1 hv with rfl | hv
      · exact h1
      · exact k3 v hv
    · intro j hj
      cases j with
      | zero => exact hl
      | succ j => have := k4 j (by simpa using hj); omega
theorem RelC.of_lies : ∀ {cs : List PV} {vs : List Value} {b o : Nat}, RelL w E G cs vs → Lies w b o vs → (∀ v ∈ vs, v.oneCell' = true) → (∀ j, j < vs.length → o + j < E.lim b) → RelC w E G cs b o
  | [], vs, b, o, _, _, _, _ => by simp only [RelC]
  | p :: ps, vs, b, o, r, hl, h1, hm => by
    simp only [RelL] at r
    obtain ⟨x, xs, rfl, hx, hr⟩ := r
    simp only [RelC]
    refine ⟨⟨by simpa using hm 0 (by simp), x, by simpa using hl 0 x rfl, h1 x (by simp), hx⟩, RelC.of_lies hr (fun j v hv => ?_) (fun v hv => h1 v (by simp [hv])) (fun j hj => ?_)⟩
    · have := hl (j + 1) v (by simpa using hv); rwa [show o + (j + 1) = o + 1 + j by omega] at this
    · have := hm (j + 1) (by simp; omega); omega
theorem Lies.append {b o : Nat} {xs ys : List Value} (h : Lies w b o xs) (k : Lies w b (o + xs.length) ys) : Lies w b o (xs ++ ys) := by
  intro j v hv
  rw [List.getElem?_append] at hv
  split at hv
  · exact h j v hv
  · have := k _ _ hv
    rwa [show o + xs.length + (j - xs.length) = o + j by omega] at this
theorem Lies.left {b o : Nat} {xs ys : List Value} (h : Lies w b o (xs ++ ys)) : Lies w b o xs := by
  intro j v hv
  refine h j v ?_
  rw [List.getElem?_append_left (List.getElem?_eq_some_iff.1 hv).1]; exact hv
theorem Lies.right {b o : Nat} {xs ys : List Value} (h : Lies w b o (xs ++ ys)) : Lies w b (o + xs.length) ys := by
  intro j v hv
  have := h (xs.length + j) v (by rw [List.getElem?_append_right (by omega)]; simpa using hv)
  rwa [← Nat.add_assoc] at this
theorem RelR.lies : ∀ {es : List PV} {b o sz : Nat}, RelR w E G es b o sz → ∃ vs, RelV w E G sz es vs ∧ vs.length = es.length * sz ∧ Lies w b o vs ∧ (∀ v ∈ vs, v.oneCell' = true) ∧ ∀ j, j < vs.length → o + j < E.lim b
  | [], b, o, sz, _ => ⟨[], by simp only [RelV], by simp, fun j v h => by simp at h, by simp, by simp⟩
  | p :: ps, b, o, sz, h => by
    rw [RelR_cons] at h
    obtain ⟨⟨hs, hc⟩, k⟩ := h
    obtain ⟨xs, x1, x2, x3, x4⟩ := hc.lies2
    obtain ⟨ys, y0, y1, y2, y3, y4⟩ := RelR.lies k
    have hx : xs.length = sz := by rw [x1.length, hs]
    refine ⟨xs ++ ys, ?_, ?_, x2.append (by rw [hx]; exact y2), ?_, ?_⟩
    · simp only [RelV]; exact ⟨xs, ys, rfl, hx, x1, y0⟩
    · simp [hx, y1, Nat.add_mul, Nat.add_comm]
    · intro v hv
      rcases List.mem_append.1 hv with hv | hv
      · exact x3 v hv
      · exact y3 v hv
    · intro j hj
      by_cases h : j < xs.length
      · exact x4 j h
      · have := y4 (j - xs.length) (by simp at hj; omega); omega
theorem RelR.of_lies : ∀ {es : List PV} {vs : List Value} {b o sz : Nat}, RelV w E G sz es vs → Lies w b o vs → (∀ v ∈ vs, v.oneCell' = true) → (∀ j, j < vs.length → o + j < E.lim b) → RelR w E G es b o sz
  | [], vs, b, o, sz, _, _, _, _ => by simp only [RelR]
  | p :: ps, vs, b, o, sz, r, hl, h1, hm => by
    simp only [RelV] at r
    obtain ⟨xs, ys, rfl, hx, hr, hy⟩ := r
    rw [RelR_cons]
    refine ⟨⟨by rw [← hr.length, hx], RelC.of_lies hr hl.left (fun v hv => h1 v (by simp [hv])) (fun j hj => hm j (by simp; omega))⟩, ?_⟩
    subst hx
    refine RelR.of_lies hy hl.right (fun v hv => h1 v (by simp [hv])) (fun j hj => ?_)
    have := hm (xs.length + j) (by simp; omega); omega
theorem RelV.mono {w' : World} {E' : Env} {G' : Get} (M : Mono w E G w' E' G') {sz : Nat} : ∀ {es : List PV} {vs : List Value}, RelV w E G sz es vs → RelV w' E' G' sz es vs
  | [], vs, h => by simp only [RelV] at h ⊢; exact h
  | p :: ps, vs, h => by
    simp only [RelV] at h ⊢
    obtain ⟨xs, ys, e, hx, hr, hy⟩ := h
    exact ⟨xs, ys, e, hx, RelL.mono M _ _ hr, hy.mono M⟩
theorem RelV.append {sz : Nat} : ∀ {es fs : List PV} {vs us : List Value}, RelV w E G sz es vs → RelV w E G sz fs us → RelV w E G sz (es ++ fs) (vs ++ us)
  | [], fs, vs, us, h, k => by simp only [RelV] at h; subst h; simpa using k
  | p :: ps, fs, vs, us, h, k => by
    simp only [RelV] at h
    obtain ⟨xs, ys, rfl, hx, hr, hy⟩ := h
    simp only [List.cons_append, RelV]
    exact ⟨xs, ys ++ us, by simp, hx, hr, hy.append k⟩
theorem RelR.sz {e : PV} {es : List PV} {b o sz sz' : Nat} (h : RelR w E G (e :: es) b o sz) (k : sizeOk (e :: es) sz' = true) : sz' = sz := by
  rw [RelR_cons] at h
  rw [← h.1.1, sizeOk_flat k]
theorem RelR.to {es : List PV} {b o sz sz' : Nat} (h : RelR w E G es b o sz) (k : sizeOk es sz' = true) : RelR w E G es b o sz' := by
  cases es with
  | nil => simp only [RelR]
  | cons e es => rw [h.sz k]; exact h
theorem RelR.get : ∀ {es : List PV} {b o sz i : Nat} {e : PV}, RelR w E G es b o sz → es[i]? = some e → RelC w E G e.flat b (o + i * sz)
  | [], b, o, sz, i, e, _, h => by simp at h
  | p :: ps, b, o, sz, i, e, h, he => by
    rw [RelR_cons] at h
    cases i with
    | zero => simp only [List.getElem?_cons_zero, Option.some.injEq] at he; subst he; simpa using h.1.2
    | succ i =>
      have := RelR.get h.2 (by simpa using he)
      rwa [show o + sz + i * sz = o + (i + 1) * sz by rw [Nat.add_mul]; omega] at this
theorem RelR.drop : ∀ {es : List PV} {b o sz : Nat} (n : Nat), RelR w E G es b o sz → RelR w E G (es.drop n) b (o + n * sz) sz
  | es, b, o, sz, 0, h => by simpa using h
  | [], b, o, sz, n + 1, h => by simp [RelR]
  | p :: ps, b, o, sz, n + 1, h => by
    rw [RelR_cons] at h
    have := RelR.drop n h.2
    rw [show o + sz + n * sz = o + (n + 1) * sz by rw [Nat.add_mul]; omega] at this
    simpa using this
theorem RelR.take : ∀ {es : List PV} {b o sz : Nat} (n : Nat), RelR w E G es b o sz → RelR w E G (es.take n) b o sz
  | es, b, o, sz, 0, h => by simp [RelR]
  | [], b, o, sz, n + 1, h => by simp [RelR]
  | p :: ps, b, o, sz, n + 1, h => by
    rw [RelR_cons] at h
    simp only [List.take_succ_cons]
    rw [RelR_cons]
    exact ⟨h.1, RelR.take n h.2⟩
end

section
variable {P : Program} {o : Oper} {a : Act} {w : World} {E : Env} {G : Get} {ρ : Operand → PV}

theorem mapM_run {α β : Type} {P : Program} {f : α → Sem β} {q : α → Option β} (h : ∀ x y, q x = some y → ∀ w, (f x).run P w = .ok y w) :
    ∀ (l : List α) (ys : List β), l.mapM q = some ys → ∀ w, (l.mapM f).run P w = .ok ys w
  | [], ys, hl, w => by simp at hl; subst hl; rfl
  | x :: l, ys, hl, w => by
    simp only [List.mapM_cons, Option.bind_eq_bind, Option.bind_eq_some_iff, pure, Option.some.injEq] at hl
    obtain ⟨y, hy, zs, hz, rfl⟩ := hl
    simp only [List.mapM_cons, Sem.run_bind, h x y hy w, Result.andThen_ok, mapM_run h l zs hz w, Sem.run_pure]

theorem fold_set (off : Nat) : ∀ (vs : List Value) (j : Nat) (cells : Array Value), off + j + vs.length ≤ cells.size →
    ((vs.zipIdx j).foldl (fun cs (p : Value × Nat) => cs.setIfInBounds (off + p.2) p.1) cells) = (cells.toList.take (off + j) ++ vs ++ cells.toList.drop (off + j + vs.length)).toArray
  | [], j, cells, _ => by simp
  | v :: vs, j, cells, h => by
    simp only [List.zipIdx_cons, List.foldl_cons]
    rw [fold_set off vs (j + 1) _ (by simp at h ⊢; omega)]
    have e := list_seg_step cells.toList (off + j) v vs (by simp at h ⊢; omega)
    simp only [Array.toList_setIfInBounds]
    rw [show off + (j + 1) = off + j + 1 by omega, e]
    simp

theorem fillP_rel {place : Nat → Option (Nat × Nat)} : ∀ (parts : List (Nat × Operand)) (cs cs' : List PV) (vs : List Value), RelL w E G cs vs → (∀ x ∈ parts, Rel w E G (ρ x.2) (a.eval x.2)) →
    fillP G place cs (parts.map fun x => (x.1, ρ x.2)) = some cs' → ∃ vs', Instr.fill place vs.toArray (parts.map fun x => (x.1, a.eval x.2)) = some (List.toArray vs') ∧ RelL w E G cs' vs'
  | [], cs, cs', vs, r, _, h => by
    simp only [List.map_nil, fillP, Option.some.injEq] at h
    subst h
    exact ⟨vs, rfl, r⟩
  | x :: parts, cs, cs', vs, r, hp, h => by
    simp only [List.map_cons, fillP, Option.bind_eq_bind, Option.bind_eq_some_iff] at h
    obtain ⟨⟨off, size⟩, hpl, us, hus, h⟩ := h
    split at h
    · cases h
    · rename_i hc
      simp only [Bool.or_eq_true, decide_eq_true_eq, not_or, Decidable.not_not] at hc
      have hx := cells?_rel hus (hp x (by simp))
      have hl := hx.length
      have hlv := r.length
      obtain ⟨vs', h1, h2⟩ := fillP_rel parts _ cs' _ (r.splice hx off) (fun y hy => hp y (by simp [hy])) h
      refine ⟨vs', ?_, h2⟩
      simp only [List.map_cons, Instr.fill, hpl]
      rw [if_neg]
      · rw [← h1]
        congr 1
        rw [← Array.foldl_toList, Array.toList_zipIdx]
        have := fold_set off (a.eval x.2).cells.toList 0 vs.toArray (by simp at hl ⊢; omega)
        simpa using this
      · simp at hl ⊢
        omega

theorem did_build (g : Good w E G) {t : TypeId} {parts : Array (Nat × Operand)} (hop : o.op = .build t parts) (hρ : ∀ x ∈ parts.toList, Rel w E G (ρ x.2) (a.eval x.2)) {z : Value} {p : PV} {cs cs' : List PV}
    (hz : (P.info? t).bind (·.zero) = some z) (hp : ofVal z = some p) (hc : p.cells? G = some cs)
    (h : (∃ fields places, P.underlying t = some (.struct fields) ∧ (fields.toList.mapM fun f => (szOf P f.type).map fun s => (f.offset, s)) = some places ∧ fillP G (places[·]?) cs (parts.toList.map fun x => (x.1, ρ x.2)) = some cs') ∨
      (∃ n elem size, P.underlying t = some (.array n elem) ∧ szOf P elem = some size ∧ fillP G (fun i => some (i * size, size)) cs (parts.toList.map fun x => (x.1, ρ x.2)) = some cs')) :
    Did P o a w E G (.agg cs') [] := by
  have rz := cells?_rel (w := w) (E := E) hc (ofVal_rel hp)
  simp only [Option.bind_eq_some_iff] at hz
  obtain ⟨i, hi, hz⟩ := hz
  rcases h with ⟨fields, places, hu, hpl, hf⟩ | ⟨n, elem, size, hu, hs, hf⟩
  · obtain ⟨vs', h1, h2⟩ := fillP_rel (a := a) parts.toList cs cs' _ rz hρ hf
    have hm := mapM_run (P := P) (f := fun f : Field => do pure (f.offset, ← sizeOf f.type)) (q := fun f => (szOf P f.type).map fun s => (f.offset, s)) (by
      intro x y hy w
      simp only [Option.map_eq_some_iff] at hy
      obtain ⟨s, hs, rfl⟩ := hy
      simp [run_sizeOf' hs]) fields.toList places hpl w
    refine Did.same g (u := .agg vs'.toArray) ?_ (by simp only [Rel]; exact ⟨vs', rfl, h2⟩)
    simp only [Array.toArray_toList] at h1
    have hA : (fields.mapM fun f : Field => do pure (f.offset, ← sizeOf f.type)).run P w = .ok places.toArray w := by
      rw [Array.mapM_eq_mapM_toList]
      simp only [Sem.run_map, hm, Result.andThen_ok]
    simp only [execOp, hop, Instr.build, Sem.run_bind, zeroValue, typeInfo, run_program, hi, Result.andThen_ok, Sem.run_pure, hz, run_underlying hu, hA]
    simp only [Array.toList_map, List.getElem?_toArray]
    rw [show (fun x : Nat => places[x]?) = (places[·]?) from rfl, h1]
    rfl
  · obtain ⟨vs', h1, h2⟩ := fillP_rel (a := a) parts.toList cs cs' _ rz hρ hf
    refine Did.same g (u := .agg vs'.toArray) ?_ (by simp only [Rel]; exact ⟨vs', rfl, h2⟩)
    simp only [Array.toArray_toList] at h1
    simp only [execOp, hop, Instr.build, Sem.run_bind, zeroValue, typeInfo, run_program, hi, Result.andThen_ok, Sem.run_pure, hz, run_underlying hu, run_sizeOf' hs]
    simp only [Array.toList_map]
    rw [h1]
    rfl
end
end Go.Pv
