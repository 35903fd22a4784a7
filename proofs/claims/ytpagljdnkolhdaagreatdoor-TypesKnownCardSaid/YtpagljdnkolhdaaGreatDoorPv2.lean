/- The operations on slices, fields and function values, in terms of values without addresses. -/
import Derived.Test.YtpagljdnkolhdaaGreatDoorPv1
set_option linter.unusedSimpArgs false
set_option linter.unusedVariables false
namespace Go.Pv
open Go.RowKit

section
variable {P : Program} {o : Oper} {a : Act} {w : World} {E : Env} {G : Get} {ρ : Operand → PV}

theorem did_nilCheck_fn (g : Good w E G) {x : Operand} (hop : o.op = .nilCheck x) {f : FuncId} {as cs : List PV} (hx : Rel w E G (.fn (.func f) as cs) (a.eval x)) : Did P o a w E G (.fn (.func f) as cs) [] := by
  refine Did.same g (u := a.eval x) ?_ hx
  simp only [Rel] at hx
  obtain ⟨xs, ys, hu, _⟩ := hx
  simp [execOp, hop, hu]
theorem did_nilCheck (g : Good w E G) {x : Operand} (hop : o.op = .nilCheck x) {p : PV} (hl : liveP G p = true) (hx : Rel w E G p (a.eval x)) : Did P o a w E G p [] := by
  refine Did.same g (u := a.eval x) ?_ hx
  obtain ⟨ad, hu⟩ := live_rel hl hx
  simp [execOp, hop, hu]

theorem equal_ptr {t e : TypeId} (hu : P.underlying t = some (.pointer e)) (ad : Addr) : (Op.equal t (.pointer (some ad)) (.pointer none)).run P w = .ok false w ∧ (Op.equal t (.pointer none) (.pointer (some ad))).run P w = .ok false w := by
  have h : ∀ d, (Op.equalIn (d + 1) t (.pointer (some ad)) (.pointer none)).run P w = .ok false w ∧ (Op.equalIn (d + 1) t (.pointer none) (.pointer (some ad))).run P w = .ok false w := by
    intro d; simp [Op.equalIn, run_underlying hu]
  exact h 9999
theorem equal_slice {t e : TypeId} (hu : P.underlying t = some (.slice e)) (ad : Addr) (n c n' c' : Nat) : (Op.equal t (.slice (some ad) n c) (.slice none n' c')).run P w = .ok false w := by
  have h : ∀ d, (Op.equalIn (d + 1) t (.slice (some ad) n c) (.slice none n' c')).run P w = .ok false w := by
    intro d; simp [Op.equalIn, run_underlying hu]
  exact h 9999
theorem equal_func {t : TypeId} {x y : Array TypeId} {z : Bool} (hu : P.underlying t = some (.func x y z)) (f : Fn) (as cs : Array Value) : (Op.equal t (.func f as cs) .nilFunc).run P w = .ok false w := by
  have h : ∀ d, (Op.equalIn (d + 1) t (.func f as cs) .nilFunc).run P w = .ok false w := by
    intro d; simp [Op.equalIn, run_underlying hu]
  exact h 9999
theorem equal_iface {t : TypeId} {x : Array (String × TypeId)} (hu : P.underlying t = some (.interface x)) (t' : TypeId) (v : Value) : (Op.equal t (.iface t' v) .nilIface).run P w = .ok false w := by
  have h : ∀ d, (Op.equalIn (d + 1) t (.iface t' v) .nilIface).run P w = .ok false w := by
    intro d; simp [Op.equalIn, run_underlying hu]
  exact h 9999
theorem eq_bin {t : TypeId} {u v : Value} (h : (Op.equal t u v).run P w = .ok false w) (e1 : binOp .eql t u v = (do pure (.bool (← Op.equal t u v)))) (e2 : binOp .neq t u v = (do pure (.bool (!(← Op.equal t u v))))) :
    (binOp .eql t u v).run P w = .ok (.bool false) w ∧ (binOp .neq t u v).run P w = .ok (.bool true) w := by
  rw [e1, e2]
  simp only [Sem.run_bind, h, Result.andThen_ok, Sem.run_pure]
  exact ⟨trivial, rfl⟩
theorem equal_map {t x y : TypeId} (hu : P.underlying t = some (.map x y)) (r : Nat) : (Op.equal t (.map (some r)) (.map none)).run P w = .ok false w := by
  have h : ∀ d, (Op.equalIn (d + 1) t (.map (some r)) (.map none)).run P w = .ok false w := by
    intro d; simp [Op.equalIn, run_underlying hu]
  exact h 9999
theorem nil_rel {u : Value} (h : Rel w E G (.vec .nil []) u) : u = .slice none 0 0 := by
  simp only [Rel] at h
  rcases h with ⟨_, _, h⟩ | ⟨_, _, _, _, _, _, ht, _⟩
  · exact h
  · exact ht.elim
theorem vec_rel {tok : Tok} {es : List PV} {u : Value} (ht : tok ≠ .nil) (h : Rel w E G (.vec tok es) u) : ∃ b o c sz, u = .slice (some ⟨b, o, none⟩) es.length c ∧ es.length ≤ c ∧ TokOk w E G tok es.length b o c sz ∧ RelR w E G es b o sz := by
  simp only [Rel] at h
  rcases h with ⟨h, _⟩ | h
  · exact absurd h ht
  · exact h
theorem sl_rel {k : Key} {g off n sz : Nat} {u : Value} (hl : (cellsAt G k g).isSome = true) (h : Rel w E G (.sl k g off n sz) u) : ∃ c, n ≤ c ∧ u = .slice (some ⟨E.β k, off, none⟩) n c := by
  obtain ⟨eg, _⟩ := cellsAt_live hl
  simp only [Rel] at h
  rcases h with h | ⟨_, _, h⟩
  · omega
  · obtain ⟨c, h1, h2, _⟩ := h; exact ⟨c, h1, h2⟩
theorem sl_room {k : Key} {g off n sz : Nat} {u : Value} (hl : (cellsAt G k g).isSome = true) (h : Rel w E G (.sl k g off n sz) u) : ∃ c, n ≤ c ∧ u = .slice (some ⟨E.β k, off, none⟩) n c ∧ Room w (E.β k) (off + c * sz) := by
  obtain ⟨eg, _⟩ := cellsAt_live hl
  simp only [Rel] at h
  rcases h with h | ⟨_, _, h⟩
  · omega
  · exact h
theorem mref_rel {k : Key} {g : Nat} {m : List Value × List PV} {u : Value} (hl : mapAt G k g = some m) (h : Rel w E G (.mref k g) u) : u = .map (some (E.β k)) := by
  obtain ⟨eg, _⟩ := mapAt_live (ks := m.1) (vs := m.2) hl
  simp only [Rel] at h
  rcases h with h | ⟨_, _, h⟩
  · omega
  · exact h
theorem nilCmp_rel {t : TypeId} {p q : PV} {u v : Value} (h : nilCmp P G t p q = true) (hp : Rel w E G p u) (hq : Rel w E G q v) (x y : Operand) :
    (eqGuard .eql t x y u v).run P w = .ok () w ∧ (eqGuard .neq t x y u v).run P w = .ok () w ∧ (binOp .eql t u v).run P w = .ok (.bool false) w ∧ (binOp .neq t u v).run P w = .ok (.bool true) w := by
  unfold nilCmp at h
  split at h
  · rename_i e hu
    obtain ⟨ad, rfl⟩ := live_rel h hp
    simp only [Rel] at hq
    subst hq
    exact ⟨rfl, rfl, eq_bin (equal_ptr hu ad).1 rfl rfl⟩
  · rename_i e hu _
    obtain ⟨ad, rfl⟩ := live_rel h hq
    simp only [Rel] at hp
    subst hp
    exact ⟨rfl, rfl, eq_bin (equal_ptr hu ad).2 rfl rfl⟩
  · rename_i e tok es hu
    obtain ⟨b, o', c', sz, rfl, _⟩ := vec_rel (by simpa using h) hp
    obtain rfl := nil_rel hq
    exact ⟨rfl, rfl, eq_bin (equal_slice hu _ _ _ _ _) rfl rfl⟩
  · rename_i e k g off n sz hu
    obtain ⟨c, _, rfl⟩ := sl_rel h hp
    obtain rfl := nil_rel hq
    exact ⟨rfl, rfl, eq_bin (equal_slice hu _ _ _ _ _) rfl rfl⟩
  · rename_i hu
    obtain ⟨m, hm⟩ := Option.isSome_iff_exists.1 h
    obtain rfl := mref_rel hm hp
    simp only [Rel] at hq
    subst hq
    exact ⟨rfl, rfl, eq_bin (equal_map hu _) rfl rfl⟩
  · rename_i hu
    simp only [Rel] at hp hq
    obtain ⟨r, es, c, rfl, _⟩ := hp
    subst hq
    exact ⟨rfl, rfl, eq_bin (equal_map hu _) rfl rfl⟩
  · rename_i hu
    simp only [Rel] at hp hq
    obtain ⟨xs, ys, rfl, _⟩ := hp
    subst hq
    exact ⟨rfl, rfl, eq_bin (equal_func hu _ _ _) rfl rfl⟩
  · rename_i hu
    simp only [Rel] at hp hq
    obtain ⟨xs, rfl, _⟩ := hp
    subst hq
    exact ⟨rfl, rfl, eq_bin (equal_iface hu _ _) rfl rfl⟩
  · cases h
theorem did_cmp (g : Good w E G) {t t' : TypeId} {x y : Operand} {b : Bool} (hop : o.op = .binOp (if b then .neq else .eql) t x y t') (hx : Rel w E G (ρ x) (a.eval x)) (hy : Rel w E G (ρ y) (a.eval y))
    (h : nilCmp P G t (ρ x) (ρ y) = true) : Did P o a w E G (.v (.bool b)) [] := by
  obtain ⟨h1, h2, h3, h4⟩ := nilCmp_rel h hx hy x y
  refine Did.same g (u := .bool b) ?_ (by simp only [Rel])
  cases b <;> simp [execOp, hop, h1, h2, h3, h4]

theorem did_makeInterface (g : Good w E G) {t : TypeId} {x : Operand} (hop : o.op = .makeInterface t x) (hx : Rel w E G (ρ x) (a.eval x)) (ht : P.concrete t = true) : Did P o a w E G (.iface t (ρ x)) [] := by
  refine Did.same g (u := .iface t (a.eval x)) ?_ (by simp only [Rel]; exact ⟨_, rfl, hx⟩)
  simp [execOp, hop, run_makeInterface w t _ ht]

theorem relL_map : ∀ (xs : List Operand), (∀ x ∈ xs, Rel w E G (ρ x) (a.eval x)) → RelL w E G (xs.map ρ) (xs.map a.eval)
  | [], _ => relL_nil
  | x :: xs, h => relL_cons (h x (by simp)) (relL_map xs fun y hy => h y (by simp [hy]))
theorem did_makeFunc (g : Good w E G) {fn : Fn} {first captured : Array Operand} (hop : o.op = .makeFunc fn first captured) (hx : ∀ x ∈ first.toList, Rel w E G (ρ x) (a.eval x)) (hy : ∀ x ∈ captured.toList, Rel w E G (ρ x) (a.eval x)) :
    Did P o a w E G (.fn fn (first.toList.map ρ) (captured.toList.map ρ)) [] := by
  refine Did.same g (u := .func fn (first.map a.eval) (captured.map a.eval)) ?_ ?_
  · simp [execOp, hop, Instr.makeFunc]
  · simp only [Rel]
    exact ⟨first.toList.map a.eval, captured.toList.map a.eval, by rw [← Array.toList_map, ← Array.toList_map], relL_map _ hx, relL_map _ hy⟩

theorem did_fieldAddr (g : Good w E G) {s : TypeId} {x : Operand} {f n : Nat} {fields : Array Field} {fd : Field} (hop : o.op = .fieldAddr s x f) (hx : Rel w E G (ρ x) (a.eval x))
    (hu : P.underlying s = some (.struct fields)) (hf : fields[f]? = some fd) (hn : szOf P fd.type = some n) (h0 : n ≠ 0) {p : PV}
    (h : (match ρ x with
    | .ref k gn off => if (cellsAt G k gn).isSome then some (PV.ref k gn (off + fd.offset)) else none
    | .eptr cs off => some (.eptr cs (off + fd.offset))
    | _ => none) = some p) : Did P o a w E G p [] := by
  have hfp : ∀ b of, (fieldPlace ⟨b, of, none⟩ fd).run P w = .ok ⟨b, of + fd.offset, none⟩ w := by
    intro b of
    simp [fieldPlace, run_sizeOf' hn, h0, addr_add]
  split at h
  · rename_i k gn off e
    rw [e] at hx
    split at h
    · rename_i hs
      cases h
      obtain ⟨cs, hc⟩ := Option.isSome_iff_exists.1 hs
      have hv := ref_rel hc hx
      obtain ⟨eg, hk⟩ := live_cells hc
      refine Did.same g (u := .pointer (some ⟨E.β k, off + fd.offset, none⟩)) ?_ ?_
      · simp [execOp, hop, Instr.fieldAt, run_underlying hu, hf, hv, Instr.sureAddr, hfp]
      · simp only [Rel]; exact .inr ⟨eg, ⟨cs, hk⟩, trivial⟩
    · cases h
  · rename_i cs off e
    rw [e] at hx
    cases h
    simp only [Rel] at hx
    obtain ⟨b, o', hv, hc⟩ := hx
    refine Did.same g (u := .pointer (some ⟨b, o' + off + fd.offset, none⟩)) ?_ ?_
    · simp [execOp, hop, Instr.fieldAt, run_underlying hu, hf, hv, Instr.sureAddr, hfp]
    · simp only [Rel]; exact ⟨b, o', by rw [Nat.add_assoc], hc⟩
  · cases h

theorem did_field (g : Good w E G) {t : TypeId} {x : Operand} {f : Nat} {cs : List PV} {fields : Array Field} {fd : Field} {p : PV} (hop : o.op = .field t x f) (hx : Rel w E G (.agg cs) (a.eval x))
    (hu : P.underlying t = some (.struct fields)) (hf : fields[f]? = some fd) (h : readP P fd.type cs fd.offset = some p) : Did P o a w E G p [] := by
  simp only [Rel] at hx
  obtain ⟨vs, hv, r⟩ := hx
  obtain ⟨u, h1, h2⟩ := run_part' h r
  refine Did.same g (u := u) ?_ h2
  simp [execOp, hop, Instr.field, run_underlying hu, hf, hv, asAgg, h1]

theorem did_extract (g : Good w E G) {x : Operand} {i : Nat} {ps : List PV} {p : PV} (hop : o.op = .extract x i) (hx : Rel w E G (.tup ps) (a.eval x)) (h : ps[i]? = some p) : Did P o a w E G p [] := by
  simp only [Rel] at hx
  obtain ⟨vs, hv, r⟩ := hx
  obtain ⟨u, h1, h2⟩ := r.get h
  refine Did.same g (u := u) ?_ h2
  simp [execOp, hop, Instr.extract, hv, h1]

theorem did_len (g : Good w E G) {c : Call} {x : Operand} {p : PV} {t : TypeId} {d : TypeDesc} {n : Nat} (hop : o.op = .call c) (hb : c.callee = .builtin .len) (hc : c.args.toList = [x]) (ht : c.argTypes[0]? = some t) (hu : P.underlying t = some d)
    (hx : Rel w E G p (a.eval x)) (h : (d = .string ∧ ∃ s, p = .v (.string s) ∧ n = s.data.toList.length) ∨ (∃ e, d = .slice e) ∧ ((∃ tok es, p = .vec tok es ∧ n = es.length) ∨ ∃ k gn off sz, p = .sl k gn off n sz ∧ (cellsAt G k gn).isSome = true) ∨
      (∃ k e, d = .map k e) ∧ ((∃ k gn m, p = .mref k gn ∧ mapAt G k gn = some m ∧ n = m.1.length) ∨ ∃ ks vs, p = .imap ks vs ∧ n = ks.length)) : Did P o a w E G (.v (.int .i64 n)) [] := by
  have hcs : c.args = #[x] := by rw [← Array.toArray_toList (xs := c.args), hc]
  have run : ∀ v, a.eval x = v → (Builtin.len_ c.argTypes o.type #[v]).run P w = .ok (.int .i64 n) w → (execOp a.eval o).run P w = .ok (.value (.int .i64 n)) w := by
    intro v hv hr
    simp [execOp, hop, resolve, hb, invoke, builtin, hcs, hv, hr]
  refine Did.same g (u := .int .i64 n) ?_ (by simp only [Rel])
  rcases h with ⟨rfl, s, rfl, rfl⟩ | ⟨⟨e, rfl⟩, h⟩ | ⟨⟨k, e, rfl⟩, h⟩
  · simp only [Rel] at hx
    refine run _ hx ?_
    simp only [Builtin.len_, ht, run_underlying hu, Sem.run_bind, Result.andThen_ok, Sem.run_pure, goInt, List.getElem?_toArray, List.getElem?_cons_zero]
    rfl
  · rcases h with ⟨tok, es, rfl, rfl⟩ | ⟨k, gn, off, sz, rfl, hl⟩
    · simp only [Rel] at hx
      rcases hx with ⟨_, rfl, hv⟩ | ⟨b, o', cp, sz, hv, _⟩
      · refine run _ hv ?_
        simp [Builtin.len_, ht, run_underlying hu, goInt]
      · refine run _ hv ?_
        simp [Builtin.len_, ht, run_underlying hu, goInt]
    · obtain ⟨cp, _, hv⟩ := sl_rel hl hx
      refine run _ hv ?_
      simp [Builtin.len_, ht, run_underlying hu, goInt]
  · rcases h with ⟨k, gn, m, rfl, hm, rfl⟩ | ⟨ks, vs, rfl, rfl⟩
    · have hv := mref_rel hm hx
      obtain ⟨eg, hmap⟩ := mapAt_live (ks := m.1) (vs := m.2) hm
      obtain ⟨es, cl, hh, hk, _⟩ := g.map k m.1 m.2 hmap
      refine run _ hv ?_
      have : es.size = m.1.length := by rw [← hk]; simp
      simp [Builtin.len_, ht, run_underlying hu, goInt, getObj, Sem.run, hh, this]
    · simp only [Rel] at hx
      obtain ⟨r, es, cl, hv, _, hh, hk, _⟩ := hx
      refine run _ hv ?_
      have : es.size = ks.length := by rw [← hk]; simp
      simp [Builtin.len_, ht, run_underlying hu, goInt, getObj, Sem.run, hh, this]

theorem did_indexAddr_slice (g : Good w E G) {t elem : TypeId} {x ix : Operand} {tok : Tok} {es : List PV} {i size : Nat} {e : PV} (hop : o.op = .indexAddr t x ix) (hx : Rel w E G (.vec tok es) (a.eval x)) {p : PV} (hp : Rel w E G p (a.eval ix)) (hi : natOfP p = some i)
    (hu : P.underlying t = some (.slice elem)) (hs : szOf P elem = some size) (he : es[i]? = some e) (hk : sizeOk es size = true) : Did P o a w E G (.eptr e.flat 0) [] := by
  obtain ⟨k, hik⟩ := natOf_rel hi hp
  have hlt : i < es.length := (List.getElem?_eq_some_iff.1 he).1
  simp only [Rel] at hx
  rcases hx with ⟨_, rfl, _⟩ | ⟨b, o', c, sz, hv, hlc, _, r⟩
  · simp at hlt
  have hr := (r.to hk).get he
  refine Did.same g (u := .pointer (some ⟨b, o' + i * size, none⟩)) ?_ ?_
  · have h1 : (0 : Int) ≤ (i : Int) ∧ (i : Int) < (es.length : Int) := by omega
    simp [execOp, hop, Instr.indexAt, hik, asIntOf, run_underlying hu, hv, hlt, run_sizeOf' hs, addr_add]
  · simp only [Rel]; exact ⟨b, o' + i * size, by simp, hr⟩

theorem did_indexAddr_sl (g : Good w E G) {t elem : TypeId} {x ix : Operand} {k : Key} {gn off n i size sz : Nat} (hop : o.op = .indexAddr t x ix) (hx : Rel w E G (.sl k gn off n sz) (a.eval x)) {p : PV} (hp : Rel w E G p (a.eval ix)) (hi : natOfP p = some i)
    (hu : P.underlying t = some (.slice elem)) (hs : szOf P elem = some size) (hlt : i < n) (hl : (cellsAt G k gn).isSome = true) : Did P o a w E G (.ref k gn (off + i * size)) [] := by
  obtain ⟨kk, hik⟩ := natOf_rel hi hp
  obtain ⟨c, hc, hv⟩ := sl_rel hl hx
  obtain ⟨eg, cs, hk⟩ := cellsAt_live hl
  refine Did.same g (u := .pointer (some ⟨E.β k, off + i * size, none⟩)) ?_ ?_
  · simp [execOp, hop, Instr.indexAt, hik, asIntOf, run_underlying hu, hv, hlt, run_sizeOf' hs, addr_add]
  · simp only [Rel]; exact .inr ⟨eg, ⟨cs, hk⟩, trivial⟩
theorem did_indexAddr_ref (g : Good w E G) {t elem : TypeId} {x ix : Operand} {k : Key} {gn off len i size : Nat} {cs : List PV} (hop : o.op = .indexAddr t x ix) (hx : Rel w E G (.ref k gn off) (a.eval x)) {p : PV} (hp : Rel w E G p (a.eval ix)) (hi : natOfP p = some i)
    (hu : P.underlying t = some (.array len elem)) (hs : szOf P elem = some size) (hlt : i < len) (hc : cellsAt G k gn = some cs) : Did P o a w E G (.ref k gn (off + i * size)) [] := by
  obtain ⟨kk, hik⟩ := natOf_rel hi hp
  have hv := ref_rel hc hx
  obtain ⟨eg, hk⟩ := live_cells hc
  refine Did.same g (u := .pointer (some ⟨E.β k, off + i * size, none⟩)) ?_ ?_
  · simp [execOp, hop, Instr.indexAt, hik, asIntOf, run_underlying hu, hv, Instr.sureAddr, hlt, run_sizeOf' hs, addr_add]
  · simp only [Rel]; exact .inr ⟨eg, ⟨cs, hk⟩, trivial⟩
theorem did_indexAddr_eptr (g : Good w E G) {t elem : TypeId} {x ix : Operand} {off len i size : Nat} {cs : List PV} (hop : o.op = .indexAddr t x ix) (hx : Rel w E G (.eptr cs off) (a.eval x)) {p : PV} (hp : Rel w E G p (a.eval ix)) (hi : natOfP p = some i)
    (hu : P.underlying t = some (.array len elem)) (hs : szOf P elem = some size) (hlt : i < len) : Did P o a w E G (.eptr cs (off + i * size)) [] := by
  obtain ⟨kk, hik⟩ := natOf_rel hi hp
  simp only [Rel] at hx
  obtain ⟨b, o', hv, hc⟩ := hx
  refine Did.same g (u := .pointer (some ⟨b, o' + off + i * size, none⟩)) ?_ ?_
  · simp [execOp, hop, Instr.indexAt, hik, asIntOf, run_underlying hu, hv, Instr.sureAddr, hlt, run_sizeOf' hs, addr_add]
  · simp only [Rel]; exact ⟨b, o', by rw [Nat.add_assoc], hc⟩
theorem did_index (g : Good w E G) {t elem : TypeId} {x ix : Operand} {len i size : Nat} {cs : List PV} {q : PV} (hop : o.op = .index t x ix) (hx : Rel w E G (.agg cs) (a.eval x)) {p : PV} (hp : Rel w E G p (a.eval ix)) (hi : natOfP p = some i)
    (hu : P.underlying t = some (.array len elem)) (hs : szOf P elem = some size) (hlt : i < len) (h : readP P elem cs (i * size) = some q) : Did P o a w E G q [] := by
  obtain ⟨kk, hik⟩ := natOf_rel hi hp
  simp only [Rel] at hx
  obtain ⟨vs, hv, r⟩ := hx
  obtain ⟨u, h1, h2⟩ := run_part' h r
  refine Did.same g (u := u) ?_ h2
  simp [execOp, hop, Instr.index, hik, asIntOf, run_underlying hu, hv, hlt, run_sizeOf' hs, h1]

theorem bound_run {d : Nat} {x : Option Operand} {n y : Nat} {code : BoundsCode} (h : boundP d (x.map ρ) = some n) (hx : ∀ z ∈ x, Rel w E G (ρ z) (a.eval z)) (hle : n ≤ y) :
    (match x.map a.eval with | some v => Instr.sliceBound v y code | none => pure d).run P w = .ok n w := by
  cases x with
  | none => simp only [Option.map_none, boundP, Option.some.injEq] at h; subst h; rfl
  | some z =>
    simp only [Option.map_some, boundP] at h
    obtain ⟨k, hk⟩ := natOf_rel h (hx z rfl)
    simp only [Option.map_some, hk, Instr.sliceBound, asIntOf, Sem.run_bind, Sem.run_pure, Result.andThen_ok]
    rw [if_pos (by omega)]
    simp

theorem did_slice (g : Good w E G) {t elem : TypeId} {x : Operand} {lo hi mx : Option Operand} {tok : Tok} {es : List PV} {size m h l : Nat} (htok : tok ≠ .nil) (hop : o.op = .slice t x lo hi mx) (hx : Rel w E G (.vec tok es) (a.eval x))
    (hlo : ∀ z ∈ lo, Rel w E G (ρ z) (a.eval z)) (hhi : ∀ z ∈ hi, Rel w E G (ρ z) (a.eval z)) (hmx : ∀ z ∈ mx, Rel w E G (ρ z) (a.eval z))
    (hu : P.underlying t = some (.slice elem)) (hs : szOf P elem = some size) (hm : boundP es.length (mx.map ρ) = some m) (hh : boundP es.length (hi.map ρ) = some h) (hl : boundP 0 (lo.map ρ) = some l)
    (hk : sizeOk es size = true) (h1 : l ≤ h) (h2 : h ≤ m) (h3 : m ≤ es.length) (h4 : mx.isNone = true ∨ hi.isSome = true) :
    Did P o a w E G (.vec (if mx.isSome ∧ h = m then .exact else .no) ((es.drop l).take (h - l))) [] := by
  obtain ⟨b, o', c, sz, hv, hlc, _, r⟩ := vec_rel htok hx
  have rr := ((r.to hk).drop l).take (h - l)
  have hlen : ((es.drop l).take (h - l)).length = h - l := by simp; omega
  have key : ∀ mc, (mx.isSome = true → mc = m) → (mx.isSome = false → mc = c) → h ≤ mc → (Instr.sliceBounds true es.length c (lo.map a.eval) (hi.map a.eval) (mx.map a.eval)).run P w = .ok (l, h, mc) w →
      Did P o a w E G (.vec (if mx.isSome ∧ h = m then .exact else .no) ((es.drop l).take (h - l))) [] := by
    intro mc e1 e2 hle hrun
    refine Did.same g (u := .slice (some (if mc = l then ⟨b, o', none⟩ else ⟨b, o' + l * size, none⟩)) (h - l) (mc - l)) ?_ ?_
    · simp only [execOp, hop, Instr.sliceAt, run_underlying hu, Sem.run_bind, Result.andThen_ok, Instr.slice, hv, hrun, run_sizeOf' hs, Sem.run_pure, Option.map_some, addr_add]
      congr 3
      split <;> rfl
    · simp only [Rel, hlen]
      refine .inr ⟨b, if mc = l then o' else o' + l * size, mc - l, size, by split <;> rfl, by omega, ?_, ?_⟩
      · by_cases hx : mx.isSome = true ∧ h = m
        · rw [if_pos hx]; simp only [TokOk]; rw [e1 hx.1, hx.2]
        · rw [if_neg hx]; simp only [TokOk]
      · split
        · rw [show h - l = 0 by omega]; simp [RelR]
        · exact rr
  cases mx with
  | none =>
    refine key c (by simp) (by simp) (by simp [boundP] at hm; omega) ?_
    simp only [Option.map_none, boundP, Option.some.injEq] at hm
    subst hm
    cases hi with
    | none =>
      simp only [Option.map_none, boundP, Option.some.injEq] at hh
      subst hh
      simp only [Instr.sliceBounds, Option.map_none, Sem.run_bind, Sem.run_pure, Result.andThen_ok, Option.isSome_none, Bool.false_eq_true, if_false]
      cases lo with
      | none =>
        simp only [Option.map_none, boundP, Option.some.injEq] at hl
        subst hl
        rfl
      | some z' =>
        obtain ⟨k', hz'⟩ := natOf_rel hl (hlo z' rfl)
        simp only [Option.map_some, hz', Instr.sliceBound, asIntOf, Sem.run_bind, Sem.run_pure, Result.andThen_ok]
        rw [if_pos (by omega)]
        simp
    | some z =>
      obtain ⟨k, hz⟩ := natOf_rel hh (hhi z rfl)
      simp only [Instr.sliceBounds, Option.map_none, Option.map_some, hz, Instr.sliceBound, asIntOf, Sem.run_bind, Sem.run_pure, Result.andThen_ok, Option.isSome_none, Bool.false_eq_true, if_false]
      rw [if_pos (by omega)]
      simp only [Sem.run_pure, Result.andThen_ok, Int.toNat_natCast]
      cases lo with
      | none =>
        simp only [Option.map_none, boundP, Option.some.injEq] at hl
        subst hl
        rfl
      | some z' =>
        obtain ⟨k', hz'⟩ := natOf_rel hl (hlo z' rfl)
        simp only [Option.map_some, hz', Instr.sliceBound, asIntOf, Sem.run_bind, Sem.run_pure, Result.andThen_ok]
        rw [if_pos (by omega)]
        simp
  | some zm =>
    refine key m (by simp) (by simp) h2 ?_
    cases hi with
    | none => simp at h4
    | some z =>
      obtain ⟨k, hz⟩ := natOf_rel hh (hhi z rfl)
      obtain ⟨km, hzm⟩ := natOf_rel hm (hmx zm rfl)
      simp only [Instr.sliceBounds, Option.map_some, hz, hzm, Instr.sliceBound, asIntOf, Sem.run_bind, Sem.run_pure, Result.andThen_ok, Option.isSome_some, if_true]
      rw [if_pos (by omega)]
      simp only [Sem.run_pure, Result.andThen_ok, Int.toNat_natCast]
      rw [if_pos (by omega)]
      simp only [Sem.run_pure, Result.andThen_ok, Int.toNat_natCast]
      cases lo with
      | none =>
        simp only [Option.map_none, boundP, Option.some.injEq] at hl
        subst hl
        rfl
      | some z' =>
        obtain ⟨k', hz'⟩ := natOf_rel hl (hlo z' rfl)
        simp only [Option.map_some, hz', Instr.sliceBound, asIntOf, Sem.run_bind, Sem.run_pure, Result.andThen_ok]
        rw [if_pos (by omega)]
        simp
theorem did_slice_sl (g : Good w E G) {t elem : TypeId} {x : Operand} {lo hi mx : Option Operand} {k : Key} {gn off n sz size h l : Nat} (hop : o.op = .slice t x lo hi mx) (hx : Rel w E G (.sl k gn off n sz) (a.eval x))
    (hlo : ∀ z ∈ lo, Rel w E G (ρ z) (a.eval z)) (hhi : ∀ z ∈ hi, Rel w E G (ρ z) (a.eval z)) (hu : P.underlying t = some (.slice elem)) (hs : szOf P elem = some size)
    (hh : boundP n (hi.map ρ) = some h) (hl : boundP 0 (lo.map ρ) = some l) (hm : mx.isNone = true) (hsz : size = sz) (h1 : l ≤ h) (h2 : h ≤ n) (hlive : (cellsAt G k gn).isSome = true) :
    Did P o a w E G (if l = h then .vec .no [] else .sl k gn (off + l * size) (h - l) sz) [] := by
  obtain ⟨c, hc, hv, hroom⟩ := sl_room hlive hx
  obtain ⟨eg, cs, hk⟩ := cellsAt_live hlive
  have hmx : mx = none := by cases mx <;> simp_all
  subst hmx
  have hrun : (Instr.sliceBounds true n c (lo.map a.eval) (hi.map a.eval) none).run P w = .ok (l, h, c) w := by
    cases hi with
    | none =>
      simp only [Option.map_none, boundP, Option.some.injEq] at hh
      subst hh
      simp only [Instr.sliceBounds, Option.map_none, Sem.run_bind, Sem.run_pure, Result.andThen_ok, Option.isSome_none, Bool.false_eq_true, if_false]
      cases lo with
      | none =>
        simp only [Option.map_none, boundP, Option.some.injEq] at hl
        subst hl
        rfl
      | some z' =>
        obtain ⟨k', hz'⟩ := natOf_rel hl (hlo z' rfl)
        simp only [Option.map_some, hz', Instr.sliceBound, asIntOf, Sem.run_bind, Sem.run_pure, Result.andThen_ok]
        rw [if_pos (by omega)]
        simp
    | some z =>
      obtain ⟨k2, hz⟩ := natOf_rel hh (hhi z rfl)
      simp only [Instr.sliceBounds, Option.map_some, hz, Instr.sliceBound, asIntOf, Sem.run_bind, Sem.run_pure, Result.andThen_ok, Option.isSome_none, Bool.false_eq_true, if_false]
      rw [if_pos (by omega)]
      simp only [Sem.run_pure, Result.andThen_ok, Int.toNat_natCast]
      cases lo with
      | none =>
        simp only [Option.map_none, boundP, Option.some.injEq] at hl
        subst hl
        rfl
      | some z' =>
        obtain ⟨k', hz'⟩ := natOf_rel hl (hlo z' rfl)
        simp only [Option.map_some, hz', Instr.sliceBound, asIntOf, Sem.run_bind, Sem.run_pure, Result.andThen_ok]
        rw [if_pos (by omega)]
        simp
  refine Did.same g (u := .slice (some (if c = l then ⟨E.β k, off, none⟩ else ⟨E.β k, off + l * size, none⟩)) (h - l) (c - l)) ?_ ?_
  · simp only [execOp, hop, Instr.sliceAt, run_underlying hu, Sem.run_bind, Result.andThen_ok, Instr.slice, hv, Option.map_none, hrun, run_sizeOf' hs, Sem.run_pure, Option.map_some, addr_add]
    congr 3
    split <;> rfl
  · by_cases e : l = h
    · rw [if_pos e]
      simp only [Rel, List.length_nil]
      have : h - l = 0 := by omega
      rw [this]
      refine .inr ⟨E.β k, if c = l then off else off + l * size, c - l, 0, by split <;> rfl, by omega, trivial, by simp [RelR]⟩
    · rw [if_neg e]
      have : ¬ c = l := by omega
      rw [if_neg this]
      simp only [Rel]
      refine .inr ⟨eg, ⟨cs, hk⟩, c - l, by omega, rfl, ?_⟩
      subst hsz
      have : off + l * size + (c - l) * size = off + c * size := by rw [Nat.add_assoc, ← Nat.add_mul]; congr 2; omega
      rw [this]; exact hroom
end
end Go.Pv
namespace Go.Pv
open Go.RowKit

/-- A new block that is never written again. -/
theorem new_perm {w : World} {E : Env} {G : Get} (g : Good w E G) (arr : Array Value) (t : TypeId) :
    ∃ E', Evo w E G (w.alloc (.cells arr t)) E' G ∧ Good (w.alloc (.cells arr t)) E' G ∧ E'.lim w.heap.size = arr.size := by
  let E' : Env := ⟨E.β, fun b => if b = w.heap.size then arr.size else E.lim b⟩
  have old : ∀ b, b < w.heap.size → (w.alloc (.cells arr t)).heap[b]? = w.heap[b]? := fun b hb => Below.heap_alloc _ _ _ hb
  have M : Evo w E G (w.alloc (.cells arr t)) E' G := by
    refine { gen := fun _ => Nat.le_refl _, keep := fun k _ h => ⟨Ent.alike_boxy h, rfl, fun m ⟨arr', t', hh, hm⟩ => ⟨arr', t', by rw [old _ (g.lt k (Ent.ne_of_boxy h))]; exact hh, hm⟩⟩, mapk := ?_, cell := ?_, top := ?_, os := rfl, tape := rfl, output := rfl, size := by simp, fresh := fun k h => .inl ⟨Ent.alike_self h, rfl⟩, kept := fun b hb _ => old b hb, limk := ?_ }
    · intro b es c hl hh
      have hb := (Array.getElem?_eq_some_iff.1 hh).1
      have : b ≠ w.heap.size := by omega
      exact ⟨by simp [E', this, hl], by rw [old b hb]; exact hh⟩
    · intro b o u ho hc
      have hb : b < w.heap.size := World.block_lt_of_cell? w ⟨b, o, none⟩ hc
      have : b ≠ w.heap.size := by omega
      refine ⟨by simp [E', this, ho], ?_⟩
      rw [World.cell?_alloc_lt w _ ⟨b, o, none⟩ hb]; exact hc
    · intro k n el sz _ h
      have hb := g.lt k (by rw [h]; simp)
      have : E.β k ≠ w.heap.size := by omega
      exact ⟨n, h, Nat.le_refl _, fun _ => ⟨rfl, by simp [E', this], fun arr t' hh => ⟨arr, by rw [old _ hb]; exact hh, rfl⟩⟩⟩
    · intro b hb _
      have : b ≠ w.heap.size := by omega
      simp [E', this]
  refine ⟨E', M, ⟨?_, ?_, ?_, g.inj⟩, by simp [E']⟩
  · intro k cs h
    obtain ⟨us, t', hh, hr, h1, hl⟩ := g.cells k cs h
    have hb := g.lt k (by rw [h]; simp)
    have hne : E.β k ≠ w.heap.size := by omega
    exact ⟨us, t', by rw [old _ hb]; exact hh, hr.mono M.toMono, h1, by simp [E', hne, hl]⟩
  · intro k n el sz h
    have := g.line k n el sz h
    simp only [World.size_alloc]
    show E.β k < _
    omega
  · intro k ks vs h
    obtain ⟨es, c, hh, hk, hr, hl⟩ := g.map k ks vs h
    have hb := g.lt k (by rw [h]; simp)
    have hne : E.β k ≠ w.heap.size := by omega
    exact ⟨es, c, by rw [old _ hb]; exact hh, hk, RelL.mono M.toMono _ _ hr, by simp [E', hne, hl]⟩

/-- A line lies in a new block from now on. -/
theorem line_new {w w0 : World} {E : Env} {G : Get} (g : Good w E G) (h0 : w0.heap = w.heap) (hos : w0.os = w.os) (htape : w0.tape = w.tape) (hout : w0.output = w.output) (k : Key) (gn n L sz : Nat) (arr : Array Value) (el : TypeId)
    (hgen : (G k).1 < gn ∨ ((G k).1 = gn ∧ ∃ n0, (G k).2 = .top n0 el sz ∧ n0 < n)) :
    ∃ E', Evo w E G (w0.alloc (.cells arr el)) E' (upd1 G k (gn, .top n el sz)) ∧ Good (w0.alloc (.cells arr el)) E' (upd1 G k (gn, .top n el sz)) ∧ E'.β k = w.heap.size ∧ E'.lim w.heap.size = L := by
  let E' : Env := ⟨fun k' => if k' = k then w.heap.size else E.β k', fun b => if b = w.heap.size then L else E.lim b⟩
  have old : ∀ b, b < w.heap.size → (w0.alloc (.cells arr el)).heap[b]? = w.heap[b]? := fun b hb => by rw [← h0] at hb ⊢; exact Below.heap_alloc w0 _ _ hb
  have lt := g.lt
  have M : Evo w E G (w0.alloc (.cells arr el)) E' (upd1 G k (gn, .top n el sz)) := by
    refine { gen := ?_, keep := ?_, mapk := ?_, cell := ?_, top := ?_, os := hos, tape := htape, output := hout, size := by simp [h0], fresh := ?_, kept := fun b hb _ => old b hb, limk := ?_ }
    · intro k'; by_cases e : k' = k
      · subst e; simp only [upd1_same]; omega
      · simp [upd1_ne _ _ e]
    · intro k' e h
      by_cases ek : k' = k
      · subst ek
        simp only [upd1_same] at e
        rcases hgen with hg | ⟨_, n0, h0, _⟩
        · omega
        · rw [h0] at h; exact h.elim
      · rw [upd1_ne _ _ ek]; exact ⟨Ent.alike_boxy h, by simp [E', ek], fun m ⟨arr', t', hh, hm⟩ => ⟨arr', t', by rw [old _ (lt k' (Ent.ne_of_boxy h))]; exact hh, hm⟩⟩
    · intro b es c hl hh
      have hb := (Array.getElem?_eq_some_iff.1 hh).1
      have : b ≠ w.heap.size := by omega
      exact ⟨by simp [E', this, hl], by rw [old b hb]; exact hh⟩
    · intro b o u ho hc
      have hb : b < w.heap.size := World.block_lt_of_cell? w ⟨b, o, none⟩ hc
      have : b ≠ w.heap.size := by omega
      refine ⟨by simp [E', this, ho], ?_⟩
      rw [World.cell?_of_block (w := w) (a := ⟨b, o, none⟩) (old b hb)]; exact hc
    · intro k' n' el' sz' e h
      by_cases ek : k' = k
      · subst ek
        simp only [upd1_same] at e ⊢
        rcases hgen with hg | ⟨_, n0, h0, hlt⟩
        · omega
        · rw [h] at h0
          cases h0
          exact ⟨n, rfl, by omega, fun e => by omega⟩
      · rw [upd1_ne _ _ ek]
        have hb := lt k' (by rw [h]; simp)
        have : E.β k' ≠ w.heap.size := by omega
        exact ⟨n', h, Nat.le_refl _, fun _ => ⟨by simp [E', ek], by simp [E', this], fun arr t' hh => ⟨arr, by rw [old _ hb]; exact hh, rfl⟩⟩⟩
    · intro k' h
      by_cases ek : k' = k
      · subst ek; exact .inr (by simp [E'])
      · rw [upd1_ne _ _ ek] at h ⊢; exact .inl ⟨Ent.alike_self h, by simp [E', ek]⟩
    · intro b hb _
      have : b ≠ w.heap.size := by omega
      simp [E', this]
  refine ⟨E', M, ⟨?_, ?_, ?_, ?_⟩, by simp [E'], by simp [E']⟩
  · intro k' cs' h
    by_cases ek : k' = k
    · subst ek; simp at h
    · rw [upd1_ne _ _ ek] at h
      obtain ⟨us, t', hh, hr, h1, hl⟩ := g.cells k' cs' h
      have hb := lt k' (by rw [h]; simp)
      have hne : E.β k' ≠ w.heap.size := by omega
      exact ⟨us, t', by simp only [E', ek, if_false]; rw [old _ hb]; exact hh, hr.mono M.toMono, h1, by simp [E', ek, hne, hl]⟩
  · intro k' n' el' sz' h
    by_cases ek : k' = k
    · subst ek; simp [E', h0]
    · rw [upd1_ne _ _ ek] at h
      simp only [E', ek, if_false, World.size_alloc, h0]
      have := g.line k' n' el' sz' h; omega
  · intro k' ks vs h
    by_cases ek : k' = k
    · subst ek; simp at h
    · rw [upd1_ne _ _ ek] at h
      obtain ⟨es, c, hh, hk, hr, hl⟩ := g.map k' ks vs h
      have hb := lt k' (by rw [h]; simp)
      have hne : E.β k' ≠ w.heap.size := by omega
      exact ⟨es, c, by simp only [E', ek, if_false]; rw [old _ hb]; exact hh, hk, RelL.mono M.toMono _ _ hr, by simp [E', ek, hne, hl]⟩
  · intro k1 k2 h1 h2 e
    by_cases e1 : k1 = k <;> by_cases e2 : k2 = k
    · rw [e1, e2]
    · subst e1
      rw [upd1_ne _ _ e2] at h2
      have := lt k2 h2
      simp [E', e2] at e; omega
    · subst e2
      rw [upd1_ne _ _ e1] at h1
      have := lt k1 h1
      simp [E', e1] at e; omega
    · rw [upd1_ne _ _ e1] at h1
      rw [upd1_ne _ _ e2] at h2
      simp only [E', e1, e2, if_false] at e
      exact g.inj k1 k2 h1 h2 e

/-- A line that has room grows in place. -/
theorem line_room {w : World} {E : Env} {G : Get} (g : Good w E G) {k : Key} {n0 n sz : Nat} {el : TypeId} (hk : (G k).2 = .top n0 el sz) {cur : Array Value} (hh : w.heap[E.β k]? = some (.cells cur el (0, 0))) (arr : Array Value) (hs : arr.size = cur.size)
    (hsame : ∀ j, j < E.lim (E.β k) → arr[j]? = cur[j]?) (L : Nat) (hL : E.lim (E.β k) ≤ L) (hn : n0 < n) :
    ∃ E', Evo w E G (w.setRow (E.β k) arr) E' (upd1 G k ((G k).1, .top n el sz)) ∧ Good (w.setRow (E.β k) arr) E' (upd1 G k ((G k).1, .top n el sz)) ∧ E'.β k = E.β k ∧ E'.lim (E.β k) = L := by
  let E' : Env := ⟨E.β, fun b => if b = E.β k then L else E.lim b⟩
  have hs' : (w.setRow (E.β k) arr).heap[E.β k]? = some (.cells arr el (0, 0)) := setRow_heap w (E.β k) cur arr el (0, 0) hh
  have ho : ∀ b, b ≠ E.β k → (w.setRow (E.β k) arr).heap[b]? = w.heap[b]? := fun b hb => setRow_other w (E.β k) b arr hb
  have hz : (w.setRow (E.β k) arr).heap.size = w.heap.size := by simp
  have ne : ∀ k', (G k').2 ≠ .none → k' ≠ k → E.β k' ≠ E.β k := fun k' h ek e => ek (g.inj k' k h (by rw [hk]; simp) e)
  have M : Evo w E G (w.setRow (E.β k) arr) E' (upd1 G k ((G k).1, .top n el sz)) := by
    refine { gen := ?_, keep := ?_, mapk := ?_, cell := ?_, top := ?_, os := rfl, tape := rfl, output := rfl, size := by rw [hz]; exact Nat.le_refl _, fresh := ?_, kept := ?_, limk := ?_ }
    · intro k'; by_cases e : k' = k
      · subst e; simp
      · simp [upd1_ne _ _ e]
    · intro k' e h
      by_cases ek : k' = k
      · subst ek; rw [hk] at h; exact h.elim
      · rw [upd1_ne _ _ ek]; exact ⟨Ent.alike_boxy h, rfl, fun m ⟨arr', t', hh', hm⟩ => ⟨arr', t', by rw [ho _ (ne k' (Ent.ne_of_boxy h) ek)]; exact hh', hm⟩⟩
    · intro b es c hl hm
      have hb : b ≠ E.β k := by rintro rfl; rw [hh] at hm; cases hm
      exact ⟨by simp [E', hb, hl], by rw [ho b hb]; exact hm⟩
    · intro b o u hlo hcu
      by_cases hb : b = E.β k
      · subst hb
        refine ⟨by simp [E']; omega, ?_⟩
        simp only [World.cell?, hs', hh, Option.isSome_none, Bool.false_eq_true, if_false] at hcu ⊢
        rw [hsame o hlo]; exact hcu
      · refine ⟨by simp [E', hb, hlo], ?_⟩
        rw [World.cell?_of_block (w := w) (a := ⟨b, o, none⟩) (ho b hb)]; exact hcu
    · intro k' n' el' sz' e h
      by_cases ek : k' = k
      · subst ek
        rw [hk] at h
        cases h
        simp only [upd1_same]
        exact ⟨n, rfl, by omega, fun e => by omega⟩
      · rw [upd1_ne _ _ ek]
        have hb := ne k' (by rw [h]; simp) ek
        exact ⟨n', h, Nat.le_refl _, fun _ => ⟨rfl, by simp [E', hb], fun arr t' hh => ⟨arr, by rw [ho _ hb]; exact hh, rfl⟩⟩⟩
    · intro k' h
      by_cases ek : k' = k
      · subst ek; exact .inl ⟨by rw [hk]; simp [Ent.alike], rfl⟩
      · rw [upd1_ne _ _ ek] at h ⊢; exact .inl ⟨Ent.alike_self h, rfl⟩
    · intro b hb hn; exact ho b fun e => hn k (by rw [hk]; simp) e.symm
    · intro b hb hn
      have : b ≠ E.β k := fun e => hn k (by rw [hk]; simp) e.symm
      simp [E', this]
  refine ⟨E', M, ⟨?_, ?_, ?_, ?_⟩, rfl, by simp [E']⟩
  · intro k' c h
    by_cases ek : k' = k
    · subst ek; simp at h
    · rw [upd1_ne _ _ ek] at h
      obtain ⟨us, t', hh', hr, h1, hl⟩ := g.cells k' c h
      have hb := ne k' (by rw [h]; simp) ek
      exact ⟨us, t', by show (w.setRow (E.β k) arr).heap[E.β k']? = _; rw [ho _ hb]; exact hh', hr.mono M.toMono, h1, by simp [E', hb, hl]⟩
  · intro k' n' el' sz' h
    rw [hz]
    show E.β k' < _
    by_cases ek : k' = k
    · subst ek; exact g.line _ n0 el sz hk
    · rw [upd1_ne _ _ ek] at h; exact g.line k' n' el' sz' h
  · intro k' ks vs h
    by_cases ek : k' = k
    · subst ek; simp at h
    · rw [upd1_ne _ _ ek] at h
      obtain ⟨es, c, hh', hk', hr, hl⟩ := g.map k' ks vs h
      have hb := ne k' (by rw [h]; simp) ek
      exact ⟨es, c, by show (w.setRow (E.β k) arr).heap[E.β k']? = _; rw [ho _ hb]; exact hh', hk', RelL.mono M.toMono _ _ hr, by simp [E', hb, hl]⟩
  · intro k1 k2 h1 h2 e
    have q : ∀ q, (upd1 G k ((G k).1, .top n el sz) q).2 ≠ .none → (G q).2 ≠ .none := by
      intro q h
      by_cases eq : q = k
      · subst eq; rw [hk]; simp
      · rwa [upd1_ne _ _ eq] at h
    exact g.inj k1 k2 (q k1 h1) (q k2 h2) e

section
variable {P : Program} {o : Oper} {a : Act} {w : World} {E : Env} {G : Get} {ρ : Operand → PV}

theorem fill_parts (size : Nat) : ∀ (parts : List (Nat × Value)) (k : Nat) (cells : List Value), parts.map (·.1) = List.range' k parts.length → (∀ x ∈ parts, x.2.cells.size = size) → (k + parts.length) * size ≤ cells.length →
    Instr.fill (fun i => some (i * size, size)) cells.toArray parts = some (cells.take (k * size) ++ (parts.map fun x => x.2.cells.toList).flatten ++ cells.drop ((k + parts.length) * size)).toArray
  | [], k, cells, _, _, _ => by simp [Instr.fill]
  | x :: parts, k, cells, hi, hs, hl => by
    simp only [List.map_cons, List.length_cons, List.range'_succ, List.cons.injEq] at hi
    obtain ⟨h0, hr⟩ := hi
    have hx := hs x (by simp)
    have hk : k * size + size ≤ cells.length := by
      refine Nat.le_trans ?_ hl
      rw [← Nat.succ_mul]
      exact Nat.mul_le_mul_right _ (by simp <;> omega)
    obtain ⟨i, v⟩ := x
    simp only at h0 hx
    subst h0
    simp only [Instr.fill, hx]
    rw [if_neg (by simp [hx] <;> omega)]
    have hf : (v.cells.zipIdx.foldl (fun cs (p : Value × Nat) => cs.setIfInBounds (i * size + p.2) p.1) cells.toArray) = (cells.take (i * size) ++ v.cells.toList ++ cells.drop (i * size + size)).toArray := by
      rw [← Array.foldl_toList, Array.toList_zipIdx]
      have := fold_set (i * size) v.cells.toList 0 cells.toArray (by simp [hx]; omega)
      simpa [hx] using this
    rw [hf]
    have hlen : (cells.take (i * size) ++ v.cells.toList ++ cells.drop (i * size + size)).length = cells.length := by
      simp [hx]; omega
    rw [fill_parts size parts (i + 1) _ hr (fun y hy => hs y (by simp [hy])) (by rw [hlen]; refine Nat.le_trans (Nat.le_of_eq ?_) hl; simp [Nat.add_assoc, Nat.add_comm 1])]
    congr 1
    have e1 : (i + 1) * size = i * size + size := Nat.succ_mul i size
    have ht : (cells.take (i * size) ++ v.cells.toList ++ cells.drop (i * size + size)).take ((i + 1) * size) = cells.take (i * size) ++ v.cells.toList := by
      rw [e1]
      have : (cells.take (i * size) ++ v.cells.toList).length = i * size + size := by simp [hx]; omega
      rw [← this]; exact List.take_left
    have hd : (cells.take (i * size) ++ v.cells.toList ++ cells.drop (i * size + size)).drop ((i + 1 + parts.length) * size) = cells.drop ((i + (parts.length + 1)) * size) := by
      have : (cells.take (i * size) ++ v.cells.toList).length = i * size + size := by simp [hx]; omega
      rw [List.drop_append, List.drop_eq_nil_of_le (by rw [this, ← e1]; exact Nat.mul_le_mul_right _ (by omega)), this, List.nil_append, List.drop_drop]
      congr 1
      have : i * size + size ≤ (i + 1 + parts.length) * size := by rw [← e1]; exact Nat.mul_le_mul_right _ (by omega)
      rw [show i + (parts.length + 1) = i + 1 + parts.length by omega]
      omega
    rw [ht, hd]
    simp

theorem relV_parts (size : Nat) : ∀ (xs : List Operand), (∀ x ∈ xs, Rel w E G (ρ x) (a.eval x)) → (∀ x ∈ xs, ∃ cs, (ρ x).cells? G = some cs ∧ cs.length = size ∧ cs.all (PV.one G) = true) →
    RelV w E G size (xs.map ρ) (xs.map fun x => (a.eval x).cells.toList).flatten ∧ (∀ x ∈ xs, (a.eval x).cells.size = size) ∧ (∀ v ∈ (xs.map fun x => (a.eval x).cells.toList).flatten, v.oneCell' = true)
  | [], _, _ => ⟨by simp [RelV], by simp, by simp⟩
  | x :: xs, h, k => by
    obtain ⟨h1, h2, h3⟩ := relV_parts size xs (fun y hy => h y (by simp [hy])) (fun y hy => k y (by simp [hy]))
    obtain ⟨cs, hc, hl, h1c⟩ := k x (by simp)
    have r := cells?_rel hc (h x (by simp))
    have hlen : (a.eval x).cells.size = size := by have := r.length; simp at this; omega
    refine ⟨?_, ?_, ?_⟩
    · simp only [List.map_cons, List.flatten_cons, RelV]
      exact ⟨_, _, rfl, by simpa using hlen, by rw [cells?_flat hc]; exact r, h1⟩
    · intro y hy
      rcases List.mem_cons.1 hy with rfl | hy
      · exact hlen
      · exact h2 y hy
    · intro v hv
      simp only [List.map_cons, List.flatten_cons, List.mem_append] at hv
      rcases hv with hv | hv
      · exact all_one r h1c v hv
      · exact h3 v hv

theorem did_buildSlice (g : Good w E G) {t elem : TypeId} {len size : Nat} {parts : Array (Nat × Operand)} {z : Value} (hop : o.op = .buildSlice t len parts) (hρ : ∀ x ∈ parts.toList, Rel w E G (ρ x.2) (a.eval x.2))
    (hu : P.underlying t = some (.slice elem)) (hs : szOf P elem = some size) (hz : (P.info? elem).bind (·.zero) = some z)
    (hi : parts.toList.map (·.1) = List.range len) (h0 : 0 < size) (hle : len * size ≤ 16777216) (hc : ∀ x ∈ parts.toList, ∃ cs, (ρ x.2).cells? G = some cs ∧ cs.length = size ∧ cs.all (PV.one G) = true) :
    Did P o a w E G (.vec .exact (parts.toList.map fun x => ρ x.2)) [] := by
  have hlen : parts.toList.length = len := by have := congrArg List.length hi; simpa using this
  obtain ⟨r1, r2, r3⟩ := relV_parts (w := w) (E := E) (a := a) size (parts.toList.map (·.2)) (by intro x hx; obtain ⟨y, hy, rfl⟩ := List.mem_map.1 hx; exact hρ y hy) (by intro x hx; obtain ⟨y, hy, rfl⟩ := List.mem_map.1 hx; exact hc y hy)
  simp only [List.map_map] at r1 r3
  have hfill : ∀ cells : List Value, cells.length = len * size → Instr.fill (fun i => some (i * size, size)) cells.toArray (parts.toList.map fun x => (x.1, a.eval x.2)) = some (List.toArray ((parts.toList.map fun x => (a.eval x.2).cells.toList).flatten)) := by
    intro cells hcl
    have := fill_parts size (parts.toList.map fun x => (x.1, a.eval x.2)) 0 cells (by simp [Function.comp_def, hlen]; rw [hi, List.range_eq_range']) (by intro x hx; obtain ⟨y, hy, rfl⟩ := List.mem_map.1 hx; exact r2 _ (List.mem_map.2 ⟨y, hy, rfl⟩)) (by simp [hlen, hcl])
    rw [this]
    simp only [Nat.zero_mul, List.take_zero, List.nil_append, List.length_map, hlen, Nat.zero_add]
    rw [← hcl, List.drop_length, List.append_nil, List.map_map]
    rfl
  have hflen : ((parts.toList.map fun x => (a.eval x.2).cells.toList).flatten).length = len * size := by
    have : ∀ (es : List PV) (vs : List Value), RelV w E G size es vs → vs.length = es.length * size := by
      intro es
      induction es with
      | nil => intro vs h; simp only [RelV] at h; simp [h]
      | cons e es ih =>
        intro vs h
        simp only [RelV] at h
        obtain ⟨xs, ys, rfl, hx, _, hy⟩ := h
        simp [hx, ih ys hy, Nat.add_mul, Nat.add_comm]
    have := this _ _ r1
    simpa [Function.comp_def, hlen] using this
  obtain ⟨E', M, g', hl'⟩ := new_perm g (List.toArray ((parts.toList.map fun x => (a.eval x.2).cells.toList).flatten)) elem
  simp only [Option.bind_eq_some_iff] at hz
  obtain ⟨i, hi', hz⟩ := hz
  have hz' : ∀ w, (zeroValue elem).run P w = .ok z w := fun w => by simp [zeroValue, typeInfo, hi', hz]
  refine ⟨_, .slice (some ⟨w.heap.size, 0, none⟩) len len, _, E', ?_, .inl rfl, M, g', ?_⟩
  · have hle' : ¬ (len * size > 2 ^ 24) := by omega
    simp only [execOp, hop, Instr.buildSlice, run_underlying hu, Sem.run_bind, Result.andThen_ok, run_sizeOf' hs, hle', if_false]
    by_cases e : len * size = 0
    · rw [if_pos e]
      simp only [Sem.run_bind, Sem.run_pure, Result.andThen_ok, Array.toList_map]
      have := hfill ((Array.range (len * size)).map ((#[] : Array Value)[· % (#[] : Array Value).size]!)).toList (by simp)
      simp only [Array.toArray_toList] at this
      rw [this]
      simp [newRow]
    · rw [if_neg e]
      simp only [Sem.run_bind, hz', Result.andThen_ok, Sem.run_pure, Array.toList_map]
      have := hfill ((Array.range (len * size)).map (z.cells[· % z.cells.size]!)).toList (by simp)
      simp only [Array.toArray_toList] at this
      rw [this]
      simp [newRow]
  · simp only [Rel, updG_nil]
    refine .inr ⟨w.heap.size, 0, len, size, by simp [hlen], by simp [hlen], by simp [TokOk, hlen], ?_⟩
    refine RelR.of_lies (RelV.mono M.toMono r1) ?_ r3 ?_
    · intro j v hv
      rw [Nat.zero_add, World.cell?_alloc_new]
      simpa [Function.comp_def] using hv
    · intro j hj
      rw [hl']
      simpa [Function.comp_def] using hj
end
end Go.Pv
