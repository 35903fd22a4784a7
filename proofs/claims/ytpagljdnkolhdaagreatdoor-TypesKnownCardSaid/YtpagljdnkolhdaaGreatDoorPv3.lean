/- append, in terms of values without addresses. -/
import Derived.Test.YtpagljdnkolhdaaGreatDoorPv2
set_option linter.unusedSimpArgs false
set_option linter.unusedVariables false
namespace Go.Pv
open Go.RowKit
section
variable {P : Program} {o : Oper} {a : Act} {w : World} {E : Env} {G : Get} {ρ : Operand → PV}

theorem relV_length {size : Nat} : ∀ {es : List PV} {vs : List Value}, RelV w E G size es vs → vs.length = es.length * size
  | [], vs, h => by simp only [RelV] at h; simp [h]
  | e :: es, vs, h => by
    simp only [RelV] at h
    obtain ⟨xs, ys, rfl, hx, _, hy⟩ := h
    simp [hx, relV_length hy, Nat.add_mul, Nat.add_comm]

/-- Behind an append the slice is a line's, and reads as both parts. -/
theorem line_rel {w' : World} {E' : Env} {G' : Get} {k : Key} {gn c size : Nat} {el : TypeId} {es : List PV} {vs : List Value} (hk : G' k = (gn, .top es.length el size)) (hb : ∃ arr, w'.heap[E'.β k]? = some (.cells arr el (0, 0)) ∧ arr.size = c * size ∧ ∀ (j : Nat) (v : Value), vs[j]? = some v → arr[j]? = some v)
    (hl : E'.lim (E'.β k) = es.length * size) (r : RelV w' E' G' size es vs) (h1 : ∀ v ∈ vs, v.oneCell' = true) (hc : es.length ≤ c) :
    Rel w' E' G' (.vec (.line k gn) es) (.slice (some ⟨E'.β k, 0, none⟩) es.length c) := by
  obtain ⟨arr, hh, hs, hv⟩ := hb
  simp only [Rel]
  refine .inr ⟨E'.β k, 0, c, size, rfl, hc, ?_, ?_⟩
  · simp only [TokOk]
    rw [hk]
    exact .inr ⟨rfl, es.length, el, rfl, Nat.le_refl _, fun _ => ⟨trivial, trivial, ⟨arr, hh, hs⟩, hl⟩⟩
  · refine RelR.of_lies r ?_ h1 ?_
    · intro j v hj
      simp only [Nat.zero_add, World.cell?, hh, Option.isSome_none, Bool.false_eq_true, if_false]
      exact hv j v hj
    · intro j hj
      rw [hl, ← relV_length r]; omega

theorem vecOf_rel {p : PV} {u : Value} {tok : Tok} {es : List PV} (h : vecOf p = some (tok, es)) (r : Rel w E G p u) :
    (u = .slice none 0 0 ∧ es = [] ∧ tok = .nil) ∨ (∃ b o' c sz, u = .slice (some ⟨b, o', none⟩) es.length c ∧ es.length ≤ c ∧ TokOk w E G tok es.length b o' c sz ∧ RelR w E G es b o' sz) := by
  unfold vecOf at h
  split at h
  · cases h
    simp only [Rel] at r
    rcases r with ⟨h1, h2, h3⟩ | r
    · exact .inl ⟨h3, h2, h1⟩
    · exact .inr r
  · cases h

theorem append_same {c : Call} {s x : Operand} (hop : o.op = .call c) (hb : c.callee = .builtin .append) (hc : c.args = #[s, x]) {t0 : TypeId} (h0 : c.argTypes[0]? = some t0) (h1 : c.argTypes[1]? = some t0) {v' : Value} {w' : World}
    (hr : (Builtin.append_ #[t0, t0] o.type #[a.eval s, a.eval x]).run P w = .ok v' w') : (execOp a.eval o).run P w = .ok (.value v') w' := by
  have : Builtin.append_ c.argTypes o.type #[a.eval s, a.eval x] = Builtin.append_ #[t0, t0] o.type #[a.eval s, a.eval x] := by
    have e0 : c.argTypes[0]? = (#[t0, t0] : Array TypeId)[0]? := h0
    have e1 : c.argTypes[1]? = (#[t0, t0] : Array TypeId)[1]? := h1
    unfold Builtin.append_
    rw [e0, e1]
  simp [execOp, hop, resolve, hb, invoke, builtin, hc, this, hr]

theorem append_none {t0 elem ty : TypeId} {info : TypeInfo} (hu : P.underlying t0 = some (.slice elem)) (hi : P.info? elem = some info) (A B : Option Addr) (n c cx : Nat) (hle : n ≤ c) :
    (Builtin.append_ #[t0, t0] ty #[.slice A n c, .slice B 0 cx]).run P w = .ok (.slice A n c) w := by
  have hnone : (Builtin.firstCells info.size 0 (.slice B 0 cx)).run P w = .ok #[] w := by
    cases B <;> simp [Builtin.firstCells, loadCells, loadCellsFrom]
  cases A <;> simp [Builtin.append_, run_underlying hu, sizeOf, typeInfo, hi, Builtin.lenOf, hnone, hle, storeCells]

theorem relV_chunks {sz : Nat} : ∀ (n : Nat) {cs : List PV} {vs : List Value}, RelL w E G cs vs → n * sz ≤ cs.length → (∀ v ∈ vs, v.oneCell' = true) → RelV w E G sz (chunks sz n cs) (vs.take (n * sz))
  | 0, _, _, _, _, _ => by simp [chunks, RelV]
  | n + 1, cs, vs, r, hle, h => by
    rw [Nat.add_mul, Nat.one_mul] at hle
    have hl := r.length
    simp only [chunks, RelV]
    refine ⟨vs.take sz, (vs.drop sz).take (n * sz), by rw [Nat.add_mul, Nat.one_mul, Nat.add_comm, List.take_add], by simp; omega, ?_, relV_chunks n (r.drop sz) (by simp; omega) (fun v hv => h v (List.mem_of_mem_drop hv))⟩
    split
    · rename_i e1
      subst e1
      cases cs with
      | nil => simp at hle
      | cons p ps =>
        simp only [RelL] at r
        obtain ⟨x, xs, rfl, r1, _⟩ := r
        have h3 := h x (by simp)
        have hna : ∀ l, p ≠ .agg l := by
          rintro l rfl
          simp only [Rel] at r1
          obtain ⟨_, rfl, _⟩ := r1
          simp [Value.oneCell'] at h3
        have hf : p.flat = [p] := by cases p <;> first | rfl | exact absurd rfl (hna _)
        simp only [List.getD_cons_zero]
        rw [hf]
        simpa using relL_cons r1 relL_nil
    · simp only [PV.flat]
      exact r.take sz
theorem relV_flat {size : Nat} : ∀ {es : List PV} {vs : List Value}, RelV w E G size es vs → RelL w E G (es.flatMap PV.flat) vs
  | [], vs, h => by simp only [RelV] at h; subst h; simpa using relL_nil
  | e :: es, vs, h => by
    simp only [RelV] at h
    obtain ⟨xs, ys, rfl, _, hx, hy⟩ := h
    simp only [List.flatMap_cons]
    exact RelL.append hx (relV_flat hy)
theorem chunks_length (sz : Nat) : ∀ (n : Nat) (cs : List PV), (chunks sz n cs).length = n
  | 0, _ => rfl
  | n + 1, cs => by simp [chunks, chunks_length sz n]
/-- What a slice's elements are, and where they lie. -/
theorem elems_src (g : Good w E G) {size : Nat} {p : PV} {u : Value} {ys : List PV} (h : elemsP G size p = some ys) (hk : sizeOk ys size = true) (r : Rel w E G p u) :
    (u = .slice none 0 0 ∧ ys = []) ∨ ∃ b o' cx news, u = .slice (some ⟨b, o', none⟩) ys.length cx ∧ RelV w E G size ys news ∧ news.length = ys.length * size ∧ Lies w b o' news ∧ ∀ v ∈ news, v.oneCell' = true := by
  unfold elemsP at h
  split at h
  · rename_i tok es
    cases h
    simp only [Rel] at r
    rcases r with ⟨_, h2, h3⟩ | ⟨b, o', c, sz, e, _, _, rr⟩
    · exact .inl ⟨h3, h2⟩
    · obtain ⟨news, rn, hln, hlies, hone, _⟩ := (rr.to hk).lies
      exact .inr ⟨b, o', c, news, e, rn, hln, hlies, hone⟩
  · rename_i k gn off n sz
    simp only [Option.bind_eq_some_iff] at h
    obtain ⟨cs, hc, h⟩ := h
    split at h
    · rename_i hcnd
      obtain ⟨rfl, hle⟩ := hcnd
      cases h
      obtain ⟨c, hn, rfl⟩ := sl_rel (by rw [hc]; rfl) r
      obtain ⟨us, rest, t, hh, rl, hlies, hone, _⟩ := g.lies hc
      have hl := rl.length
      refine .inr ⟨_, _, c, (us.drop off).take (n * sz), by rw [chunks_length], relV_chunks n (rl.drop off) (by simp; omega) (fun v hv => hone v (List.mem_of_mem_drop hv)), by simp [chunks_length]; omega, ?_, fun v hv => hone v (List.mem_of_mem_drop (List.mem_of_mem_take hv))⟩
      intro j v hv
      rw [List.getElem?_take] at hv
      split at hv
      · rw [List.getElem?_drop] at hv
        have := hlies (off + j) v hv
        rwa [Nat.zero_add] at this
      · cases hv
    · cases h
  · cases h
theorem upd1_upd1 (G : Get) (k : Key) (x y : Nat × Ent) : upd1 (upd1 G k x) k y = upd1 G k y := by
  funext q
  by_cases e : q = k
  · subst e; simp
  · rw [upd1_ne _ _ e, upd1_ne _ _ e, upd1_ne _ _ e]
theorem zeroCells_one {zs : Array Value} (h : zs.toList.all Value.oneCell' = true) (n : Nat) : ∀ v ∈ (Builtin.zeroCells zs n).toList, v.oneCell' = true := by
  intro v hv
  simp only [Builtin.zeroCells, Array.toList_map, List.mem_map, Array.toList_range, List.mem_range] at hv
  obtain ⟨i, hi, rfl⟩ := hv
  have hpos : 0 < zs.size := by
    rcases Nat.eq_zero_or_pos zs.size with e | e
    · rw [e] at hi; omega
    · exact e
  have hlt := Nat.mod_lt i hpos
  rw [getElem!_pos zs (i % zs.size) hlt]
  exact List.all_eq_true.1 h _ (by simp)
theorem append_room (t ty e : TypeId) (i : TypeInfo) (ht : P.underlying t = some (.slice e)) (hi : P.info? e = some i)
    (g sLen sCap : Nat) (cur : Array Value) {e' : TypeId} (hg : w.heap[g]? = some (.cells cur e' (0, 0)))
    (a : Addr) (m c : Nat) (news : List Value) (hl : news.length = m * i.size) (hnews : ∀ j u, news[j]? = some u → w.cell? (a.add j) = some u) (h1 : ∀ u ∈ news, u.oneCell' = true)
    (hroom : sLen + m ≤ sCap) (hfit : sLen * i.size + news.length ≤ cur.size) :
    (Builtin.append_ #[t, t] ty #[.slice (some ⟨g, 0, none⟩) sLen sCap, .slice (some a) m c]).run P w =
      .ok (.slice (some ⟨g, 0, none⟩) (sLen + m) sCap) (w.setRow g (cur.toList.take (sLen * i.size) ++ news ++ cur.toList.drop (sLen * i.size + news.length)).toArray) := by
  have hf := run_firstCells_some (P := P) w i.size m a m c news hl hnews
  have hst := run_storeCells_at P g (sLen * i.size) e' news 0 cur w hg (by simpa using hfit) h1
  simp only [Nat.add_zero] at hst
  simp [Builtin.append_, run_underlying ht, sizeOf, typeInfo, hi, Builtin.lenOf, hroom, hf, Addr.add_lit, hst]

theorem appendP_did (g : Good w E G) {c : Call} {s x : Operand} (hop : o.op = .call c) (hb : c.callee = .builtin .append) (hc : c.args.toList = [s, x]) (hs : Rel w E G (ρ s) (a.eval s)) (hx : Rel w E G (ρ x) (a.eval x)) {r : OpR}
    (h : appendP P G o.dst c.argTypes (ρ s) (ρ x) = some r) : ∃ p ws, r = .val p ws ∧ Did P o a w E G p ws := by
  have hcs : c.args = #[s, x] := by rw [← Array.toArray_toList (xs := c.args), hc]
  unfold appendP at h
  simp only [Option.bind_eq_bind, Option.bind_eq_some_iff] at h
  obtain ⟨t0, ht0, t1, ht1, elem, hse, info, hi, z, hz, ys, hys, h⟩ := h
  have hu : P.underlying t0 = some (.slice elem) := by
    unfold sliceElem at hse
    split at hse
    · cases hse; assumption
    · cases hse
  -- what a new block gives, that stays open
  have open' : ∀ (k : Key) (olds news : List Value) (es ys : List PV) (n old : Nat), t0 = t1 → RelL w E G es olds → (∀ v ∈ olds, v.oneCell' = true) → RelL w E G ys news → (∀ v ∈ news, v.oneCell' = true) →
      olds.length + news.length = n * info.size → z.cells.size = info.size → z.cells.toList.all Value.oneCell' = true →
      (Builtin.append_ #[t0, t0] o.type #[a.eval s, a.eval x]).run P w = .ok (.slice (some ⟨w.heap.size, 0, none⟩) n (grownCap w n old elem))
        (w.drew.alloc (.cells (olds.toArray ++ news.toArray ++ Builtin.zeroCells z.cells (grownCap w n old elem - n)) elem)) →
      Did P o a w E G (.sl k ((G k).1 + 1) 0 n info.size) [(k, (G k).1 + 1, .cells (es ++ ys))] := by
    intro k olds news es ys n old ht ro ho1 rn hn1 hlen hzs hzo hrun
    subst ht
    have hcap := grownCap_ge w n old elem
    obtain ⟨E', M, g', hβ⟩ := new_obj (w0 := w.drew) g rfl rfl rfl rfl k (.cells (olds.toArray ++ news.toArray ++ Builtin.zeroCells z.cells (grownCap w n old elem - n)) elem) (.cells (es ++ ys)) (fun _ _ _ h => by cases h)
      (fun cs' h => by
        cases h
        refine ⟨olds ++ news ++ (Builtin.zeroCells z.cells (grownCap w n old elem - n)).toList, elem, by simp, ⟨olds ++ news, _, rfl, ro.append rn⟩, ?_⟩
        intro v hv
        rcases List.mem_append.1 hv with hv | hv
        · rcases List.mem_append.1 hv with hv | hv
          · exact ho1 v hv
          · exact hn1 v hv
        · exact zeroCells_one hzo _ v hv) (fun _ _ h => by cases h)
    refine ⟨_, _, _, E', append_same hop hb hcs ht0 ht1 hrun, .inl rfl, M, g', ?_⟩
    simp only [updG_one, Rel, upd1_same]
    refine .inr ⟨trivial, ⟨_, rfl⟩, grownCap w n old elem, hcap, by rw [hβ], ?_⟩
    refine ⟨_, elem, by rw [hβ]; exact heap_alloc_new w.drew _, ?_⟩
    simp only [Array.size_append, List.size_toArray, size_zeroCells, hzs, hlen, Nat.zero_add]
    rw [← Nat.add_mul]
    exact Nat.mul_le_mul_right _ (by omega)
  split at h
  · -- a slice that is open
    rename_i i gn off n sz es0
    simp only [Option.bind_eq_some_iff] at h
    obtain ⟨cs, hcells, h⟩ := h
    split at h
    case isFalse => cases h
    rename_i hcond
    obtain ⟨rfl, rfl, rfl, hncs, hk2, hzs, hzo, hpos, hlong, hbytes⟩ := hcond
    rw [es0] at hs
    obtain ⟨cap, hcap, hsv, hroom⟩ := sl_room (by rw [hcells]; rfl) hs
    have hX := elems_src g hys hk2 hx
    cases ys with
    | nil =>
      simp only [Option.some.injEq] at h
      subst h
      rw [es0]
      refine ⟨_, _, rfl, Did.same g (u := a.eval s) ?_ hs⟩
      refine append_same hop hb hcs ht0 ht1 ?_
      rw [hsv]
      rcases hX with ⟨eX, _⟩ | ⟨b, o', cx, news, eX, _⟩ <;> rw [eX] <;> exact append_none hu hi _ _ _ _ _ hcap
    | cons y ys =>
      simp only [Option.some.injEq] at h
      subst h
      refine ⟨_, _, rfl, ?_⟩
      rcases hX with ⟨_, e0⟩ | ⟨b, o', cx, news, eX, rn, hln, hlies, hone⟩
      · cases e0
      have hnews : ∀ j v, news[j]? = some v → w.cell? ((⟨b, o', none⟩ : Addr).add j) = some v := fun j v hv => by rw [addr_add]; exact hlies j v hv
      have hm0 : 0 < (y :: ys).length := by simp
      have h63 : ((n + (y :: ys).length : Nat) : Int) ≤ 9223372036854775807 := by omega
      obtain ⟨us, rest, t', hh, rl, hl, h1u, h1r⟩ := g.lies hcells
      have hul : us.length = n * info.size := by rw [rl.length, hncs]
      obtain ⟨eg, he⟩ := live_cells hcells
      by_cases hrm : n + (y :: ys).length ≤ cap
      · obtain ⟨arr, t2, ha, hsz⟩ := hroom
        rw [hh] at ha
        cases ha
        have hfit : n * info.size + news.length ≤ (us ++ rest).toArray.size := by
          rw [hln, ← Nat.add_mul]
          exact Nat.le_trans (Nat.mul_le_mul_right _ hrm) (by simpa using hsz)
        have hrun := append_room (P := P) (w := w) t0 o.type elem info hu hi (E.β (.loc i)) n cap (us ++ rest).toArray hh ⟨b, o', none⟩ (y :: ys).length cx news hln hnews hone hrm hfit
        obtain ⟨M1, g1⟩ := regen g (.loc i) (by rw [he]; trivial)
        have hc1 : cellsAt (upd1 G (.loc i) ((G (.loc i)).1 + 1, (G (.loc i)).2)) (.loc i) (gn + 1) = some cs := by
          simp only [cellsAt, upd1_same, he]
          rw [if_pos (by omega)]
        have hrow : (us ++ rest).take (n * info.size) ++ news ++ (us ++ rest).drop (n * info.size + news.length) = (us ++ news) ++ rest.drop news.length := by
          rw [← hul, List.take_left, ← List.drop_drop, List.drop_left]
        have hfit' : us.length + news.length ≤ us.length + rest.length := by rw [hul]; simpa [hul] using hfit
        obtain ⟨M2, g2⟩ := set_block g1 hc1 hh (vs' := (us ++ news) ++ rest.drop news.length) (cs' := cs ++ (y :: ys).flatMap PV.flat) ⟨us ++ news, _, rfl, (RelL.mono M1.toMono _ _ rl).append (RelL.mono M1.toMono _ _ (relV_flat rn))⟩ (by
          intro v hv
          rcases List.mem_append.1 hv with hv | hv
          · rcases List.mem_append.1 hv with hv | hv
            · exact h1u v hv
            · exact hone v hv
          · exact h1r v (List.mem_of_mem_drop hv)) (by simp; omega)
        rw [upd1_upd1] at M2 g2
        refine ⟨_, .slice (some ⟨E.β (.loc i), 0, none⟩) (n + (y :: ys).length) cap, _, E, append_same hop hb hcs ht0 ht1 (by rw [hsv, eX]; exact hrun), .inl rfl, ?_, ?_, ?_⟩
        · rw [hrow]
          exact M1.trans M2
        · rw [hrow]
          exact g2
        · rw [hrow]
          simp only [updG_one, Rel, upd1_same]
          refine .inr ⟨trivial, ⟨_, rfl⟩, cap, hrm, rfl, ?_⟩
          exact ⟨_, t', setRow_heap w (E.β (.loc i)) _ _ t' (0, 0) hh, by simp at hsz ⊢; omega⟩
      · have holds : ∀ j v, us[j]? = some v → w.cell? ((⟨E.β (.loc i), 0, none⟩ : Addr).add j) = some v := fun j v hv => by rw [addr_add]; exact hl j v hv
        have hlt : cap < n + (y :: ys).length := by omega
        have hrun := run_append_grow (P := P) w t0 o.type elem info z hu hi hz ⟨E.β (.loc i), 0, none⟩ n cap us hul holds ⟨b, o', none⟩ (y :: ys).length cx news hln hnews hlt h63 (growslice_fits hlt hbytes)
        have := open' (.loc i) us news cs ((y :: ys).flatMap PV.flat) (n + (y :: ys).length) cap rfl rl h1u (relV_flat rn) hone (by rw [hul, hln, ← Nat.add_mul]) hzs hzo (by rw [hsv, eX]; exact hrun)
        rw [eg]
        exact this
  · simp only [Option.bind_eq_some_iff] at h
    obtain ⟨⟨tok, es⟩, hes, h⟩ := h
    split at h
    case isFalse => cases h
    rename_i hcond
    obtain ⟨rfl, hk1, hk2, hzs, hzo, hpos, hlong, hbytes⟩ := hcond
    simp only at hk1 hk2 hlong hbytes h
    have hX := elems_src g hys hk2 hx
    have hS := vecOf_rel hes hs
    cases ys with
    | nil =>
      simp only [Option.some.injEq] at h
      subst h
      refine ⟨_, _, rfl, Did.same g (u := a.eval s) ?_ hs⟩
      refine append_same hop hb hcs ht0 ht1 ?_
      rcases hX with ⟨eX, _⟩ | ⟨b, o', cx, news, eX, _⟩ <;> rcases hS with ⟨eS, _⟩ | ⟨b2, o2, c2, sz2, eS, hle, _⟩ <;> rw [eX, eS]
      · exact append_none hu hi _ _ _ _ _ (Nat.le_refl _)
      · exact append_none hu hi _ _ _ _ _ hle
      · exact append_none hu hi _ _ _ _ _ (Nat.le_refl _)
      · exact append_none hu hi _ _ _ _ _ hle
    | cons y ys =>
      rcases hX with ⟨_, e0⟩ | ⟨b, o', cx, news, eX, rn, hln, hlies, hone⟩
      · cases e0
      have hnews : ∀ j v, news[j]? = some v → w.cell? ((⟨b, o', none⟩ : Addr).add j) = some v := fun j v hv => by rw [addr_add]; exact hlies j v hv
      have hm0 : 0 < (y :: ys).length := by simp
      have h63 : ((es.length + (y :: ys).length : Nat) : Int) ≤ 9223372036854775807 := by omega
      simp only at h
      -- what a new block gives
      have fresh : ∀ (k : Key) (gn : Nat) (olds : List Value) (old : Nat), RelV w E G info.size es olds → (∀ v ∈ olds, v.oneCell' = true) → ((G k).1 < gn ∨ ((G k).1 = gn ∧ ∃ n0, (G k).2 = .top n0 elem info.size ∧ n0 < (es ++ y :: ys).length)) →
          (Builtin.append_ #[t0, t0] o.type #[a.eval s, a.eval x]).run P w = .ok (.slice (some ⟨w.heap.size, 0, none⟩) (es.length + (y :: ys).length) (grownCap w (es.length + (y :: ys).length) old elem))
            (w.drew.alloc (.cells (olds.toArray ++ news.toArray ++ Builtin.zeroCells z.cells (grownCap w (es.length + (y :: ys).length) old elem - (es.length + (y :: ys).length))) elem)) →
          Did P o a w E G (.vec (.line k gn) (es ++ y :: ys)) [(k, gn, .top (es ++ y :: ys).length elem info.size)] := by
        intro k gn olds old ro ho1 hgen hrun
        have hcap := grownCap_ge w (es.length + (y :: ys).length) old elem
        obtain ⟨E', M, g', hβ, hlim⟩ := line_new (w0 := w.drew) g rfl rfl rfl rfl k gn (es ++ y :: ys).length ((es ++ y :: ys).length * info.size) info.size (olds.toArray ++ news.toArray ++ Builtin.zeroCells z.cells (grownCap w (es.length + (y :: ys).length) old elem - (es.length + (y :: ys).length))) elem hgen
        refine ⟨_, _, _, E', append_same hop hb hcs ht0 ht1 hrun, .inl rfl, M, g', ?_⟩
        have hr := line_rel (w' := w.drew.alloc (.cells (olds.toArray ++ news.toArray ++ Builtin.zeroCells z.cells (grownCap w (es.length + (y :: ys).length) old elem - (es.length + (y :: ys).length))) elem))
          (E' := E') (G' := upd1 G k (gn, .top (es ++ y :: ys).length elem info.size)) (k := k) (gn := gn) (c := grownCap w (es.length + (y :: ys).length) old elem) (size := info.size) (el := elem) (es := es ++ y :: ys) (vs := olds ++ news)
          (upd1_same _ _ _) ⟨_, by rw [hβ]; exact heap_alloc_new w.drew _, ?_, ?_⟩ (by rw [hβ]; exact hlim) ((ro.append rn).mono M.toMono) ?_ (by rw [List.length_append]; exact hcap)
        · rw [hβ] at hr
          rw [show ∀ q, Value.slice (some ⟨w.heap.size, 0, none⟩) (es.length + (y :: ys).length) q = Value.slice (some ⟨w.heap.size, 0, none⟩) (es ++ y :: ys).length q from fun q => by rw [List.length_append]]
          exact hr
        · simp only [Array.size_append, List.size_toArray, size_zeroCells, hzs, relV_length ro, hln, ← Nat.add_mul]
          congr 1
          omega
        · intro j v hv
          rw [Array.getElem?_append_left (by have := (List.getElem?_eq_some_iff.1 hv).1; simpa using this)]
          rw [show olds.toArray ++ news.toArray = (olds ++ news).toArray by simp]
          simpa using hv
        · intro v hv
          rcases List.mem_append.1 hv with hv | hv
          · exact ho1 v hv
          · exact hone v hv
      rcases hS with ⟨eS, rfl, rfl⟩ | ⟨b2, o2, c2, sz2, eS, hle, htok, rS⟩
      · simp only [appendTo] at h
        split at h
        · rename_i d hd
          have hrun := run_append_nil (P := P) w t0 o.type elem info z hu hi hz ⟨b, o', none⟩ (y :: ys).length cx news hln hnews hm0 (by simpa using h63) (by simp only [List.length_nil, Nat.zero_add] at hbytes; omega)
          split at h
          · cases h
            refine ⟨_, _, rfl, ?_⟩
            have := open' (.loc d) [] news [] ((y :: ys).flatMap PV.flat) (y :: ys).length 0 rfl relL_nil (by simp) (relV_flat rn) hone (by simpa using hln) hzs hzo (by rw [eS, eX]; simpa using hrun)
            simpa using this
          cases h
          refine ⟨_, _, rfl, fresh _ _ [] 0 (by simp only [RelV]) (by simp) (.inl (by omega)) ?_⟩
          have := run_append_nil (P := P) w t0 o.type elem info z hu hi hz ⟨b, o', none⟩ (y :: ys).length cx news hln hnews hm0 (by simpa using h63) (by simp only [List.length_nil, Nat.zero_add] at hbytes; omega)
          rw [eS, eX]
          simpa using this
        · cases h
      · obtain ⟨olds, ro, hlo, hliesO, ho1, _⟩ := (rS.to hk1).lies
        have holds : ∀ j v, olds[j]? = some v → w.cell? ((⟨b2, o2, none⟩ : Addr).add j) = some v := fun j v hv => by rw [addr_add]; exact hliesO j v hv
        have grow : c2 < es.length + (y :: ys).length → (Builtin.append_ #[t0, t0] o.type #[a.eval s, a.eval x]).run P w = .ok (.slice (some ⟨w.heap.size, 0, none⟩) (es.length + (y :: ys).length) (grownCap w (es.length + (y :: ys).length) c2 elem))
            (w.drew.alloc (.cells (olds.toArray ++ news.toArray ++ Builtin.zeroCells z.cells (grownCap w (es.length + (y :: ys).length) c2 elem - (es.length + (y :: ys).length))) elem)) := by
          intro hlt
          rw [eS, eX]
          exact run_append_grow (P := P) w t0 o.type elem info z hu hi hz ⟨b2, o2, none⟩ es.length c2 olds hlo holds ⟨b, o', none⟩ (y :: ys).length cx news hln hnews hlt h63 (growslice_fits hlt hbytes)
        cases tok with
        | nil => exact htok.elim
        | no => simp [appendTo] at h
        | exact =>
          simp only [appendTo] at h
          simp only [TokOk] at htok
          split at h
          · rename_i d hd
            split at h
            · cases h
              refine ⟨_, _, rfl, ?_⟩
              have := open' (.loc d) olds news (es.flatMap PV.flat) ((y :: ys).flatMap PV.flat) (es ++ y :: ys).length c2 rfl (relV_flat ro) ho1 (relV_flat rn) hone (by rw [hlo, hln, ← Nat.add_mul, List.length_append]) hzs hzo (by rw [List.length_append]; exact grow (by omega))
              rw [List.flatMap_append]
              exact this
            cases h
            exact ⟨_, _, rfl, fresh _ _ olds c2 ro ho1 (.inl (by omega)) (grow (by omega))⟩
          · cases h
        | line k gn =>
          simp only [appendTo] at h
          split at h
          case h_2 => cases h
          rename_i g' n el s0 hk
          split at h
          case isFalse => cases h
          rename_i hcnd
          obtain ⟨rfl, rfl, eel, rfl⟩ := hcnd
          subst eel
          cases h
          refine ⟨_, _, rfl, ?_⟩
          simp only [TokOk, hk] at htok
          rcases htok with htok | ⟨_, m2, el2, e2, _, howns⟩
          · omega
          · cases e2
            obtain ⟨rfl, rfl, ⟨cur, hh, hsz⟩, hlim⟩ := howns rfl
            by_cases hroom : es.length + (y :: ys).length ≤ c2
            · have hfit : es.length * info.size + news.length ≤ cur.size := by
                rw [hln, hsz, ← Nat.add_mul]; exact Nat.mul_le_mul_right _ hroom
              have hrun := run_append_room (P := P) w t0 o.type _ info hu hi (E.β k) es.length c2 cur hh ⟨b, o', none⟩ (y :: ys).length cx news hln hnews hone hroom hfit
              have hcur : ∀ (j : Nat) (v : Value), olds[j]? = some v → cur[j]? = some v := by
                intro j v hv
                have := hliesO j v hv
                simpa [World.cell?, hh] using this
              obtain ⟨E', M, g', hβ, hl'⟩ := line_room g (by rw [hk]) hh (cur.toList.take (es.length * info.size) ++ news ++ cur.toList.drop (es.length * info.size + news.length)).toArray
                (by simp; omega) (by
                  intro j hj
                  rw [hlim] at hj
                  simp only [List.getElem?_toArray, List.append_assoc]
                  rw [List.getElem?_append_left (by simp; omega), List.getElem?_take, if_pos hj]
                  simp) ((es ++ y :: ys).length * info.size) (by rw [hlim]; exact Nat.mul_le_mul_right _ (by simp)) (n := (es ++ y :: ys).length) (by simp)
              have hg1 : (G k).1 = gn := by rw [hk]
              rw [hg1] at M g'
              refine ⟨_, _, _, E', append_same hop hb hcs ht0 ht1 (by rw [eS, eX]; exact hrun), .inl rfl, M, g', ?_⟩
              have hr := line_rel (w' := w.setRow (E.β k) (cur.toList.take (es.length * info.size) ++ news ++ cur.toList.drop (es.length * info.size + news.length)).toArray)
                (E' := E') (G' := upd1 G k (gn, .top (es ++ y :: ys).length el info.size)) (k := k) (gn := gn) (c := c2) (size := info.size) (el := el) (es := es ++ y :: ys) (vs := olds ++ news)
                (upd1_same _ _ _) ⟨_, by rw [hβ]; exact setRow_heap w (E.β k) cur _ el _ hh, ?_, ?_⟩ (by rw [hβ]; exact hl') ((ro.append rn).mono M.toMono) ?_ (by rw [List.length_append]; exact hroom)
              · rw [hβ] at hr
                rw [show ∀ q, Value.slice (some ⟨E.β k, 0, none⟩) (es.length + (y :: ys).length) q = Value.slice (some ⟨E.β k, 0, none⟩) (es ++ y :: ys).length q from fun q => by rw [List.length_append]]
                exact hr
              · rw [← hsz]; simp; omega
              · intro j v hv
                rw [List.getElem?_append] at hv
                simp only [List.getElem?_toArray, List.append_assoc]
                split at hv
                · rename_i hj
                  rw [List.getElem?_append_left (by simp; omega), List.getElem?_take, if_pos (by omega)]
                  simpa using hcur j v hv
                · rename_i hj
                  have hj2 := (List.getElem?_eq_some_iff.1 hv).1
                  rw [List.getElem?_append_right (by simp; omega)]
                  have e3 : j - (cur.toList.take (es.length * info.size)).length = j - olds.length := by simp; omega
                  rw [e3, List.getElem?_append_left hj2]
                  exact hv
              · intro v hv
                rcases List.mem_append.1 hv with hv | hv
                · exact ho1 v hv
                · exact hone v hv
            · exact fresh k gn olds c2 ro ho1 (.inr ⟨by rw [hk], es.length, by rw [hk], by simp⟩) (grow (by omega))
end
end Go.Pv
namespace Go.Pv
open Go.RowKit

structure Compat (E : Env) (G : Get) (E' : Env) (G' : Get) (m : Key → Nat → Option (Key × Nat)) : Prop where
  lim : E'.lim = E.lim
  live : ∀ k g k' g', m k g = some (k', g') → ¬ g < (G k).1 ∧ (g = (G k).1 → g' = (G' k').1 ∧ ((G k).2.boxy → (G k).2.alike (G' k').2 ∧ E'.β k' = E.β k) ∧
    (∀ n e sz, (G k).2 = .top n e sz → (G' k').2 = .top n e sz ∧ E'.β k' = E.β k))

def renTok (m : Key → Nat → Option (Key × Nat)) : Tok → Tok
  | .line k g => match m k g with
    | some (k', g') => .line k' g'
    | none => .no
  | t => t
theorem ren_vec (m : Key → Nat → Option (Key × Nat)) (tok : Tok) (es : List PV) : ren m (.vec tok es) = .vec (renTok m tok) (renL m es) := by
  simp only [ren]
  rfl
theorem renL_length (m : Key → Nat → Option (Key × Nat)) : ∀ ps : List PV, (renL m ps).length = ps.length
  | [] => rfl
  | p :: ps => by simp [renL, renL_length m ps]

theorem ren_flat {m : Key → Nat → Option (Key × Nat)} (p : PV) (h : ∀ cs, p ≠ .agg cs) : (ren m p).flat = [ren m p] := by
  cases p <;> simp only [ren, PV.flat]
  case agg cs => exact absurd rfl (h cs)
  case ref k g off => cases m k g <;> rfl
  case sl k g off n sz => cases m k g <;> rfl
  case mref k g => cases m k g <;> rfl
section
variable {w : World} {E E' : Env} {G G' : Get} {m : Key → Nat → Option (Key × Nat)}
theorem TokOk.ren (C : Compat E G E' G' m) {tok : Tok} {n b o c sz : Nat} (h : TokOk w E G tok n b o c sz) : TokOk w E' G' (renTok m tok) n b o c sz := by
  cases tok with
  | nil => exact h
  | no => trivial
  | exact => exact h
  | line k g =>
    unfold renTok
    simp only
    split
    · rename_i k' g' e
      obtain ⟨h1, h2⟩ := C.live k g k' g' e
      rcases h with h | ⟨eg, n', el, hn, hle, hx⟩
      · exact absurd h h1
      · obtain ⟨h3, _, h4⟩ := h2 eg
        obtain ⟨h5, h6⟩ := h4 n' el _ hn
        refine .inr ⟨h3, n', el, h5, hle, fun en => ?_⟩
        obtain ⟨rfl, ho, hh, hl⟩ := hx en
        exact ⟨h6.symm, ho, hh, by rw [C.lim]; exact hl⟩
    · trivial
mutual
theorem Rel.ren (C : Compat E G E' G' m) : ∀ (p : PV) (u : Value), Rel w E G p u → Rel w E' G' (Pv.ren m p) u
  | .any, _, _ => by simp only [Pv.ren, Rel]
  | .v x, u, h => by simp only [Pv.ren, Rel] at h ⊢; exact h
  | .agg cs, u, h => by simp only [Pv.ren, Rel] at h ⊢; obtain ⟨vs, e, k⟩ := h; exact ⟨vs, e, RelL.ren C cs vs k⟩
  | .tup cs, u, h => by simp only [Pv.ren, Rel] at h ⊢; obtain ⟨vs, e, k⟩ := h; exact ⟨vs, e, RelL.ren C cs vs k⟩
  | .ref k g off, u, h => by
    simp only [Pv.ren]
    split
    · rename_i k' g' e
      obtain ⟨h1, h2⟩ := C.live k g k' g' e
      simp only [Rel] at h ⊢
      rcases h with h | ⟨eg, ⟨cs, hc⟩, hu⟩
      · exact absurd h h1
      · obtain ⟨h3, h4, _⟩ := h2 eg
        obtain ⟨h5, h6⟩ := h4 (by rw [hc]; trivial)
        rw [hc] at h5
        exact .inr ⟨h3, Ent.alike_cells h5, by rw [h6]; exact hu⟩
    · simp only [Rel]
  | .eptr cs off, u, h => by simp only [Pv.ren, Rel] at h ⊢; obtain ⟨b, o, e, k⟩ := h; exact ⟨b, o, e, RelC.ren C cs b o k⟩
  | .vec tok es, u, h => by
    rw [ren_vec]
    simp only [Rel] at h ⊢
    rcases h with ⟨rfl, rfl, hu⟩ | ⟨b, o, c, sz, e, hl, ht, k⟩
    · exact .inl ⟨rfl, rfl, hu⟩
    · rw [renL_length]
      exact .inr ⟨b, o, c, sz, e, hl, ht.ren C, RelR.ren C es b o sz k⟩
  | .fn f as cs, u, h => by simp only [Pv.ren, Rel] at h ⊢; obtain ⟨xs, ys, e, k1, k2⟩ := h; exact ⟨xs, ys, e, RelL.ren C as xs k1, RelL.ren C cs ys k2⟩
  | .iface t p, u, h => by simp only [Pv.ren, Rel] at h ⊢; obtain ⟨x, e, k⟩ := h; exact ⟨x, e, Rel.ren C p x k⟩
  | .sl k g off n sz, u, h => by
    simp only [Pv.ren]
    split
    · rename_i k' g' e
      obtain ⟨h1, h2⟩ := C.live k g k' g' e
      simp only [Rel] at h ⊢
      rcases h with h | ⟨eg, ⟨cs, hc⟩, c, hn, hu⟩
      · exact absurd h h1
      · obtain ⟨h3, h4, _⟩ := h2 eg
        obtain ⟨h5, h6⟩ := h4 (by rw [hc]; trivial)
        rw [hc] at h5
        exact .inr ⟨h3, Ent.alike_cells h5, c, hn, by rw [h6]; exact hu⟩
    · simp only [Rel]
  | .mref k g, u, h => by
    simp only [Pv.ren]
    split
    · rename_i k' g' e
      obtain ⟨h1, h2⟩ := C.live k g k' g' e
      simp only [Rel] at h ⊢
      rcases h with h | ⟨eg, ⟨ks, vs, hc⟩, hu⟩
      · exact absurd h h1
      · obtain ⟨h3, h4, _⟩ := h2 eg
        obtain ⟨h5, h6⟩ := h4 (by rw [hc]; trivial)
        rw [hc] at h5
        exact .inr ⟨h3, Ent.alike_map h5, by rw [h6]; exact hu⟩
    · simp only [Rel]
  | .imap ks vs, u, h => by
    simp only [Pv.ren, Rel] at h ⊢
    obtain ⟨r, es, c, hu, hl, hh, hk, hv⟩ := h
    exact ⟨r, es, c, hu, by rw [C.lim]; exact hl, hh, hk, RelL.ren C vs _ hv⟩
theorem RelL.ren (C : Compat E G E' G' m) : ∀ (ps : List PV) (vs : List Value), RelL w E G ps vs → RelL w E' G' (renL m ps) vs
  | [], vs, h => by simp only [renL, RelL] at h ⊢; exact h
  | p :: ps, vs, h => by simp only [renL, RelL] at h ⊢; obtain ⟨x, xs, e, k1, k2⟩ := h; exact ⟨x, xs, e, Rel.ren C p x k1, RelL.ren C ps xs k2⟩
theorem RelC.ren (C : Compat E G E' G' m) : ∀ (ps : List PV) (b o : Nat), RelC w E G ps b o → RelC w E' G' (renL m ps) b o
  | [], _, _, _ => by simp only [renL, RelC]
  | p :: ps, b, o, h => by
    simp only [renL, RelC] at h ⊢
    obtain ⟨⟨hl, u, hc, ho, hr⟩, k⟩ := h
    exact ⟨⟨by rw [C.lim]; exact hl, u, hc, ho, Rel.ren C p u hr⟩, RelC.ren C ps b (o + 1) k⟩
theorem RelR.ren (C : Compat E G E' G' m) : ∀ (ps : List PV) (b o sz : Nat), RelR w E G ps b o sz → RelR w E' G' (renL m ps) b o sz
  | [], _, _, _, _ => by simp only [renL, RelR]
  | .agg cs :: ps, b, o, sz, h => by
    simp only [renL, Pv.ren, RelR] at h ⊢
    exact ⟨⟨by rw [renL_length]; exact h.1.1, RelC.ren C cs b o h.1.2⟩, RelR.ren C ps b (o + sz) sz h.2⟩
  | .any :: ps, b, o, sz, h => by
    simp only [renL]
    rw [RelR_cons]
    simp only [RelR] at h
    obtain ⟨⟨hs, hl, u, hc, ho, hr⟩, k⟩ := h
    have hr' := Rel.ren C .any u hr
    refine ⟨?_, RelR.ren C ps b (o + sz) sz k⟩
    rw [ren_flat _ (by intro cs e; cases e)]
    exact ⟨by simpa using hs.symm, by simp only [RelC]; exact ⟨⟨by rw [C.lim]; exact hl, u, hc, ho, hr'⟩, trivial⟩⟩
  | .v x :: ps, b, o, sz, h => by
    simp only [renL]
    rw [RelR_cons]
    simp only [RelR] at h
    obtain ⟨⟨hs, hl, u, hc, ho, hr⟩, k⟩ := h
    have hr' := Rel.ren C (.v x) u hr
    refine ⟨?_, RelR.ren C ps b (o + sz) sz k⟩
    rw [ren_flat _ (by intro cs e; cases e)]
    exact ⟨by simpa using hs.symm, by simp only [RelC]; exact ⟨⟨by rw [C.lim]; exact hl, u, hc, ho, hr'⟩, trivial⟩⟩
  | .tup x :: ps, b, o, sz, h => by
    simp only [renL]
    rw [RelR_cons]
    simp only [RelR] at h
    obtain ⟨⟨hs, hl, u, hc, ho, hr⟩, k⟩ := h
    have hr' := Rel.ren C (.tup x) u hr
    refine ⟨?_, RelR.ren C ps b (o + sz) sz k⟩
    rw [ren_flat _ (by intro cs e; cases e)]
    exact ⟨by simpa using hs.symm, by simp only [RelC]; exact ⟨⟨by rw [C.lim]; exact hl, u, hc, ho, hr'⟩, trivial⟩⟩
  | .ref x y z :: ps, b, o, sz, h => by
    simp only [renL]
    rw [RelR_cons]
    simp only [RelR] at h
    obtain ⟨⟨hs, hl, u, hc, ho, hr⟩, k⟩ := h
    have hr' := Rel.ren C (.ref x y z) u hr
    refine ⟨?_, RelR.ren C ps b (o + sz) sz k⟩
    rw [ren_flat _ (by intro cs e; cases e)]
    exact ⟨by simpa using hs.symm, by simp only [RelC]; exact ⟨⟨by rw [C.lim]; exact hl, u, hc, ho, hr'⟩, trivial⟩⟩
  | .eptr x y :: ps, b, o, sz, h => by
    simp only [renL]
    rw [RelR_cons]
    simp only [RelR] at h
    obtain ⟨⟨hs, hl, u, hc, ho, hr⟩, k⟩ := h
    have hr' := Rel.ren C (.eptr x y) u hr
    refine ⟨?_, RelR.ren C ps b (o + sz) sz k⟩
    rw [ren_flat _ (by intro cs e; cases e)]
    exact ⟨by simpa using hs.symm, by simp only [RelC]; exact ⟨⟨by rw [C.lim]; exact hl, u, hc, ho, hr'⟩, trivial⟩⟩
  | .vec x y :: ps, b, o, sz, h => by
    simp only [renL]
    rw [RelR_cons]
    simp only [RelR] at h
    obtain ⟨⟨hs, hl, u, hc, ho, hr⟩, k⟩ := h
    have hr' := Rel.ren C (.vec x y) u hr
    refine ⟨?_, RelR.ren C ps b (o + sz) sz k⟩
    rw [ren_flat _ (by intro cs e; cases e)]
    exact ⟨by simpa using hs.symm, by simp only [RelC]; exact ⟨⟨by rw [C.lim]; exact hl, u, hc, ho, hr'⟩, trivial⟩⟩
  | .fn x y z :: ps, b, o, sz, h => by
    simp only [renL]
    rw [RelR_cons]
    simp only [RelR] at h
    obtain ⟨⟨hs, hl, u, hc, ho, hr⟩, k⟩ := h
    have hr' := Rel.ren C (.fn x y z) u hr
    refine ⟨?_, RelR.ren C ps b (o + sz) sz k⟩
    rw [ren_flat _ (by intro cs e; cases e)]
    exact ⟨by simpa using hs.symm, by simp only [RelC]; exact ⟨⟨by rw [C.lim]; exact hl, u, hc, ho, hr'⟩, trivial⟩⟩
  | .iface x y :: ps, b, o, sz, h => by
    simp only [renL]
    rw [RelR_cons]
    simp only [RelR] at h
    obtain ⟨⟨hs, hl, u, hc, ho, hr⟩, k⟩ := h
    have hr' := Rel.ren C (.iface x y) u hr
    refine ⟨?_, RelR.ren C ps b (o + sz) sz k⟩
    rw [ren_flat _ (by intro cs e; cases e)]
    exact ⟨by simpa using hs.symm, by simp only [RelC]; exact ⟨⟨by rw [C.lim]; exact hl, u, hc, ho, hr'⟩, trivial⟩⟩
  | .sl q1 q2 x y z :: ps, b, o, sz, h => by
    simp only [renL]
    rw [RelR_cons]
    simp only [RelR] at h
    obtain ⟨⟨hs, hl, u, hc, ho, hr⟩, k⟩ := h
    have hr' := Rel.ren C (.sl q1 q2 x y z) u hr
    refine ⟨?_, RelR.ren C ps b (o + sz) sz k⟩
    rw [ren_flat _ (by intro cs e; cases e)]
    exact ⟨by simpa using hs.symm, by simp only [RelC]; exact ⟨⟨by rw [C.lim]; exact hl, u, hc, ho, hr'⟩, trivial⟩⟩
  | .mref q1 q2 :: ps, b, o, sz, h => by
    simp only [renL]
    rw [RelR_cons]
    simp only [RelR] at h
    obtain ⟨⟨hs, hl, u, hc, ho, hr⟩, k⟩ := h
    have hr' := Rel.ren C (.mref q1 q2) u hr
    refine ⟨?_, RelR.ren C ps b (o + sz) sz k⟩
    rw [ren_flat _ (by intro cs e; cases e)]
    exact ⟨by simpa using hs.symm, by simp only [RelC]; exact ⟨⟨by rw [C.lim]; exact hl, u, hc, ho, hr'⟩, trivial⟩⟩
  | .imap x y :: ps, b, o, sz, h => by
    simp only [renL]
    rw [RelR_cons]
    simp only [RelR] at h
    obtain ⟨⟨hs, hl, u, hc, ho, hr⟩, k⟩ := h
    have hr' := Rel.ren C (.imap x y) u hr
    refine ⟨?_, RelR.ren C ps b (o + sz) sz k⟩
    rw [ren_flat _ (by intro cs e; cases e)]
    exact ⟨by simpa using hs.symm, by simp only [RelC]; exact ⟨⟨by rw [C.lim]; exact hl, u, hc, ho, hr'⟩, trivial⟩⟩
end
theorem RelP.ren (C : Compat E G E' G' m) {cs : List PV} {vs : List Value} (h : RelP w E G cs vs) : RelP w E' G' (renL m cs) vs :=
  let ⟨us, rest, e, r⟩ := h; ⟨us, rest, e, RelL.ren C _ _ r⟩
end
end Go.Pv
namespace Go.Pv
section
variable {m : Key → Nat → Option (Key × Nat)}
mutual
theorem pure_ren : ∀ p : PV, pureP p = true → ren m p = p
  | .any, _ => rfl
  | .v x, _ => rfl
  | .agg cs, h => by
    rw [pureP_agg] at h
    simp only [ren, pure_renL cs h]
  | .tup cs, h => by
    have h : pureP (.agg cs) = true := h
    rw [pureP_agg] at h
    simp only [ren, pure_renL cs h]
  | .ref k g off, h => by cases h
  | .eptr cs off, h => by
    have h : pureP (.agg cs) = true := h
    rw [pureP_agg] at h
    simp only [ren, pure_renL cs h]
  | .vec .nil cs, h => by
    have h : pureP (.agg cs) = true := h
    rw [pureP_agg] at h
    simp only [ren, pure_renL cs h]
  | .vec .no cs, h => by
    have h : pureP (.agg cs) = true := h
    rw [pureP_agg] at h
    simp only [ren, pure_renL cs h]
  | .vec .exact cs, h => by
    have h : pureP (.agg cs) = true := h
    rw [pureP_agg] at h
    simp only [ren, pure_renL cs h]
  | .vec (.line k g) cs, h => by cases h
  | .fn f as cs, h => by
    have h : (match pureP (.agg as) with | true => pureP (.agg cs) | false => false) = true := h
    cases h1 : pureP (.agg as) with
    | false => rw [h1] at h; cases h
    | true =>
      rw [h1] at h
      have h : pureP (.agg cs) = true := h
      rw [pureP_agg] at h h1
      simp only [ren, pure_renL as h1, pure_renL cs h]
  | .iface t p, h => by
    have h : pureP p = true := h
    simp only [ren, pure_ren p h]
  | .sl k g off n sz, h => by cases h
  | .mref k g, h => by cases h
  | .imap ks vs, h => by
    have h : pureP (.agg vs) = true := h
    rw [pureP_agg] at h
    simp only [ren, pure_renL vs h]
theorem pure_renL : ∀ ps : List PV, ps.all pureP = true → renL m ps = ps
  | [], _ => rfl
  | p :: ps, h => by
    simp only [List.all_cons, Bool.and_eq_true] at h
    simp only [renL, pure_ren p h.1, pure_renL ps h.2]
end
theorem renQ_eq (p : PV) : renQ m p = ren m p := by
  unfold renQ
  split
  · rename_i h; exact (pure_ren p h).symm
  · rfl
theorem renQ_list (ps : List PV) : ps.map (renQ m) = renL m ps := by
  induction ps with
  | nil => rfl
  | cons p ps ih => simp only [List.map_cons, renL, renQ_eq, ih]
theorem renEQ_eq (e : Ent) : renEQ m e = renE m e := by
  cases e <;> simp only [renEQ, renE, renQ_list]
end
end Go.Pv
