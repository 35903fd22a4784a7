/- Made slices, numbers, texts, and which function a call enters, in terms of values without addresses. -/
import Derived.Test.YtpagljdnkolhdaaGreatDoorPv4
import Derived.Laws.MakeOwn
set_option linter.unusedSimpArgs false
set_option linter.unusedVariables false
namespace Go.Pv
open Go.RowKit

section
variable {P : Program} {o : Oper} {a : Act} {w : World} {E : Env} {G : Get} {ρ : Operand → PV}

theorem sliceElem_of {t e : TypeId} (h : sliceElem P t = some e) : P.underlying t = some (.slice e) := by
  unfold sliceElem at h
  split at h
  · rename_i hu; cases h; exact hu
  · cases h

theorem relL_flatten {zc : List PV} {zs : List Value} (r : RelL w E G zc zs) : ∀ n, RelL w E G (List.replicate n zc).flatten (List.replicate n zs).flatten
  | 0 => by simpa using relL_nil
  | n + 1 => by simpa [List.replicate_succ] using r.append (relL_flatten r n)
theorem flatten_get {α : Type} (zs : List α) : ∀ (n i : Nat), i < n * zs.length → (List.replicate n zs).flatten[i]? = zs[i % zs.length]?
  | 0, i, h => by simp at h
  | n + 1, i, h => by
    simp only [List.replicate_succ, List.flatten_cons, List.getElem?_append]
    split
    · rename_i hi; rw [Nat.mod_eq_of_lt hi]
    · rename_i hi
      have hi : zs.length ≤ i := by omega
      rw [flatten_get zs n (i - zs.length) (by rw [Nat.add_mul, Nat.one_mul] at h; omega)]
      congr 1
      conv => rhs; rw [← Nat.sub_add_cancel hi, Nat.add_mod_right]
theorem madeCells_list (z : Array Value) (n : Nat) (hz : 0 < z.size) : (madeCells z (n * z.size)).toList = (List.replicate n z.toList).flatten := by
  apply List.ext_getElem?
  intro i
  by_cases hi : i < n * z.size
  · rw [flatten_get _ _ _ (by simpa using hi)]
    have hm : i % z.size < z.size := Nat.mod_lt _ hz
    simp [madeCells, hi, hm]
  · rw [List.getElem?_eq_none (by simp [madeCells]; omega), List.getElem?_eq_none (by simp; omega)]

theorem did_makeSlice (g : Good w E G) {t elem : TypeId} {l c : Operand} {d : Tmp} (hop : o.op = .makeSlice t l c) {n m : Nat} {info : TypeInfo} {z : Value} {p : PV} {zc : List PV} {kl kc : IntKind}
    (hl : a.eval l = .int kl n) (hc : a.eval c = .int kc m) (he : sliceElem P t = some elem) (hi : P.info? elem = some info) (hz : info.zero = some z) (hp : ofVal z = some p) (hzc : p.cells? G = some zc)
    (h1 : zc.length = info.size) (h2 : 0 < info.size) (h3 : zc.all (PV.one G) = true) (h4 : n ≤ m) (h5 : m ≤ 140737488355328) (h6 : m * info.bytes ≤ 140737488355328) :
    (n = m → Did P o a w E G (.sl (.loc d) ((G (.loc d)).1 + 1) 0 n info.size) [(.loc d, (G (.loc d)).1 + 1, .cells (List.replicate n zc).flatten)]) ∧
    (n = 0 → Did P o a w E G (.vec (.line (.loc d) ((G (.loc d)).1 + 1)) []) [(.loc d, (G (.loc d)).1 + 1, .top 0 elem info.size)]) := by
  have hu := sliceElem_of he
  have hb : (info.bytes : Int) * (m : Int) ≤ 281474976710656 := by
    have : ((m * info.bytes : Nat) : Int) ≤ 281474976710656 := by omega
    rw [Nat.mul_comm] at this
    rwa [Int.natCast_mul] at this
  have hrun := run_make (P := P) w t elem info z hu hi hz kl kc n m (by omega) (by omega) hb (by omega)
  simp only [Int.toNat_natCast] at hrun
  have rz := cells?_rel (w := w) (E := E) hzc (ofVal_rel hp)
  have hsz : z.cells.size = info.size := by have := rz.length; simp at this; omega
  have exec : (execOp a.eval o).run P w = .ok (.value (.slice (some ⟨w.heap.size, 0, none⟩) n m)) (w.alloc (.cells (madeCells z.cells (m * info.size)) elem)) := by
    simp only [execOp, hop, hl, hc, Sem.run_bind, hrun, Result.andThen_ok, Sem.run_pure]
  constructor
  · intro e
    subst e
    rw [← hsz] at exec
    have hml := madeCells_list z.cells n (by omega)
    obtain ⟨E', M, g', hβ⟩ := new_block g (.loc d) elem (.of (relL_flatten rz n)) (by
      intro v hv
      simp only [List.mem_flatten, List.mem_replicate] at hv
      obtain ⟨l, ⟨_, rfl⟩, hv⟩ := hv
      exact all_one rz h3 v hv)
    rw [← hml] at M g'
    simp only [Array.toArray_toList] at M g'
    refine ⟨_, _, _, E', exec, .inl rfl, M, g', ?_⟩
    simp only [Rel, updG_one, upd1_same]
    refine .inr ⟨trivial, ⟨_, rfl⟩, n, Nat.le_refl _, by rw [hβ], _, elem, by rw [hβ]; exact heap_alloc_new w _, ?_⟩
    simp [madeCells, hsz]
  · intro e
    subst e
    obtain ⟨E', M, g', hβ, hlim⟩ := line_new (w0 := w) g rfl rfl rfl rfl (.loc d) ((G (.loc d)).1 + 1) 0 0 info.size (madeCells z.cells (m * info.size)) elem (.inl (Nat.lt_succ_self _))
    refine ⟨_, _, _, E', exec, .inl rfl, M, g', ?_⟩
    simp only [Rel, updG_one, upd1_same]
    refine .inr ⟨w.heap.size, 0, m, info.size, rfl, Nat.zero_le _, ?_, by simp only [RelR]⟩
    refine .inr ⟨by simp, 0, elem, by simp, Nat.le_refl _, fun _ => ⟨hβ.symm, rfl, ⟨madeCells z.cells (m * info.size), ?_, by simp [madeCells]⟩, by rw [hlim]; simp⟩⟩
    show (w.heap.push _)[w.heap.size]? = _
    simp

theorem strEq_eq (a b : ByteArray) : strEq a b = (a.toList == b.toList) := by
  have h : ∀ x : ByteArray, x.toList = x.data.toList := fun x =>
    ByteArray.toList_eq x
  rw [strEq, h a, h b]

theorem run_eqGuard_plain (op : BinOp) (t : TypeId) (x y : Operand) (u v : Value) (h1 : u ≠ .nilIface) (h2 : ∀ cs, u ≠ .agg cs) : (eqGuard op t x y u v).run P w = .ok () w := by
  unfold eqGuard
  cases op <;> try rfl
  all_goals
    cases u <;> first | exact absurd rfl h1 | exact absurd rfl (h2 _) | rfl

theorem did_binFast (g : Good w E G) {op : BinOp} {t t' : TypeId} {x y : Operand} (hop : o.op = .binOp op t x y t') {p q : PV} (hx : Rel w E G p (a.eval x)) (hy : Rel w E G q (a.eval y)) {r : Value} (h : binFast op p q = some r) :
    Did P o a w E G (.v r) [] := by
  have key : ∀ u v, a.eval x = u → a.eval y = v → u ≠ .nilIface → (∀ cs, u ≠ .agg cs) → (binOp op t u v).run P w = .ok r w → Did P o a w E G (.v r) [] := by
    intro u v hu hv h1 h2 hr
    refine Did.same g (u := r) ?_ (by simp only [Rel])
    simp only [execOp, hop, hu, hv, Sem.run_bind, run_eqGuard_plain op t x y u v h1 h2, hr, Result.andThen_ok, Sem.run_pure]
  unfold binFast at h
  split at h
  · rename_i m n
    simp only [Rel] at hx hy
    refine key _ _ hx hy (by simp) (by simp) ?_
    split at h <;> cases h <;> simp [binOp, Op.intArith, Op.intCmp, IntKind.wrap_i64, RowKit.wrap64]
  · rename_i m n
    simp only [Rel] at hx hy
    refine key _ _ hx hy (by simp) (by simp) ?_
    split at h <;> cases h <;> simp [binOp, Op.intCmp]
  · rename_i m n
    simp only [Rel] at hx hy
    refine key _ _ hx hy (by simp) (by simp) ?_
    have hl : ∀ x : ByteArray, x.toList = x.data.toList := fun x => ByteArray.toList_eq x
    split at h
    · split at h
      · rename_i hle
        cases h
        have e : m ++ n = ⟨⟨m.data.toList ++ n.data.toList⟩⟩ := by
          apply ByteArray.ext
          simp [ByteArray.data_append]
        have hs : ¬ (((m.size + n.size : Nat) : Int) > IntKind.i64.max) := by
          have h1 : m.size = m.data.toList.length := rfl
          have h2 : n.size = n.data.toList.length := rfl
          have h3 : IntKind.i64.max = 9223372036854775807 := by rfl
          omega
        simp only [binOp, Op.stringOp, hs, if_false, Sem.run_pure, e]
      · cases h
    · cases h
      rw [strEq_eq]
      simp [binOp, Op.stringOp]
    · cases h
      rw [strEq_eq]
      simp [binOp, Op.stringOp]
    · cases h
  · cases h

theorem did_index_string (g : Good w E G) {t : TypeId} {x ix : Operand} {s : ByteArray} {i : Nat} {c : UInt8} (hop : o.op = .index t x ix) (hx : Rel w E G (.v (.string s)) (a.eval x)) {p : PV} (hp : Rel w E G p (a.eval ix)) (hi : natOfP p = some i)
    (hu : P.underlying t = some .string) (hc : s.data.toList[i]? = some c) : Did P o a w E G (.v (.int .u8 c.toNat)) [] := by
  obtain ⟨k, hk⟩ := natOf_rel hi hp
  simp only [Rel] at hx
  refine Did.same g (u := .int .u8 c.toNat) ?_ (by simp only [Rel])
  have hs : s[i]? = some c := by
    have : s.data[i]? = some c := by simpa using hc
    obtain ⟨hlt, he⟩ := Array.getElem?_eq_some_iff.1 this
    have hlt' : i < s.size := hlt
    rw [getElem?_pos s i hlt']
    exact congrArg some he
  simp [execOp, hop, hx, hk, Instr.index, asIntOf, run_underlying hu, hs]

theorem enters_of {f : FuncId} (h : enters P f = true) (args : Array Value) : (callFunc f args).run P w = .ok (.enter f args) w := by
  unfold enters at h
  split at h
  · rename_i fn hf
    simp only [Bool.and_eq_true, bne_iff_ne, ne_eq] at h
    obtain ⟨bd, hbd⟩ := Option.isSome_iff_exists.1 h.1
    simp [callFunc, hf, h.2, hbd]
  · cases h

theorem run_fnOf {c : Call} {f : Operand} (hop : o.op = .call c) (hb : c.callee = .value f) {p : PV} (hf : Rel w E G p (a.eval f)) {args : List PV} (hargs : RelL w E G args (c.args.toList.map a.eval)) {fid : FuncId} {as : List PV}
    (h : fnOf P p args = some (fid, as)) (he : enters P fid = true) : ∃ us, RelL w E G as us ∧ (execOp a.eval o).run P w = .ok (.enter fid us.toArray) w := by
  unfold fnOf at h
  split at h
  · rename_i f' first captured
    cases h
    simp only [Rel] at hf
    obtain ⟨xs, ys, hu, hx, hy⟩ := hf
    refine ⟨xs ++ c.args.toList.map a.eval ++ ys, (hx.append hargs).append hy, ?_⟩
    have := enters_of (w := w) he (xs.toArray ++ Array.map a.eval c.args ++ ys.toArray)
    simp only [execOp, hop, resolve, hb, hu, Deferred.ofValue, invoke, Sem.run_bind, Sem.run_pure, Result.andThen_ok, this]
    simp
  · rename_i t path f' ptr first captured
    simp only [Rel] at hf
    obtain ⟨xs, ys, hu, hx, _⟩ := hf
    split at h
    · rename_i hpath
      have hpath' : path.toList = [] := by simpa using Array.eq_empty_of_size_eq_zero hpath
      have hall := hx.append hargs
      have fin : ∀ p0 rest d, first ++ args = p0 :: rest → P.underlying t = some d → ((∃ e, d = .pointer e) ∧ ptr = true ∨ (∀ e, d ≠ .pointer e) ∧ ptr = false) → fid = f' → as = p0 :: rest →
          ∃ us, RelL w E G as us ∧ (execOp a.eval o).run P w = .ok (.enter fid us.toArray) w := by
        intro p0 rest d e hut hd hfid has
        subst hfid
        rw [e] at hall
        have hall' := hall
        simp only [RelL] at hall
        obtain ⟨u0, us, hus, _, _⟩ := hall
        rw [hus] at hall'
        refine ⟨u0 :: us, by rw [has]; exact hall', ?_⟩
        have hA : xs.toArray ++ Array.map a.eval c.args = (u0 :: us).toArray := by
          rw [← hus]; simp
        have := enters_of (w := w) he (u0 :: us).toArray
        have hrec : (receiverVia t u0 path ptr).run P w = .ok u0 w := by
          rcases hd with ⟨⟨e, rfl⟩, rfl⟩ | ⟨hd, rfl⟩
          · simp [receiverVia, hpath', follow, receiverAt, run_underlying hut, Place.get]
          · simp only [receiverVia, hpath', follow, Sem.run_bind, Sem.run_pure, Result.andThen_ok, receiverAt, run_underlying hut]
            cases d <;> first | exact absurd rfl (hd _) | simp [Place.get]
        simp only [execOp, hop, resolve, hb, hu, Deferred.ofValue, invoke, Sem.run_bind, Sem.run_pure, Result.andThen_ok, hA]
        simp [hrec, this]
      split at h
      · rename_i x rest e hfirst hut
        cases h
        exact fin x rest _ hfirst hut (.inl ⟨⟨_, rfl⟩, rfl⟩) rfl rfl
      · cases h
      · rename_i x rest d hnp hfirst hut
        cases h
        exact fin x rest _ hfirst hut (.inr ⟨fun e he => by subst he; exact hnp _ rfl, rfl⟩) rfl rfl
      · cases h
    · cases h
  · cases h

theorem run_methodOf {c : Call} {x : Operand} {name : String} (hop : o.op = .call c) (hb : c.callee = .invoke x name) {p : PV} (hx : Rel w E G p (a.eval x)) {fid : FuncId} {r : PV}
    (h : methodOf P p name = some (fid, r)) (he : enters P fid = true) : ∃ u, Rel w E G r u ∧ (execOp a.eval o).run P w = .ok (.enter fid (u :: c.args.toList.map a.eval).toArray) w := by
  unfold methodOf at h
  split at h
  · rename_i t q
    simp only [Rel] at hx
    obtain ⟨v, hu, r'⟩ := hx
    simp only [Option.bind_eq_bind, Option.bind_eq_some_iff] at h
    obtain ⟨i, hi, m, hm, ⟨f', ptr⟩, hf, h⟩ := h
    split at h
    · rename_i hpath
      have hpath' : m.path.toList = [] := by simpa using Array.eq_empty_of_size_eq_zero hpath
      have fin : ∀ d, P.underlying t = some d → ((∃ e, d = .pointer e) ∧ ptr = true ∨ (∀ e, d ≠ .pointer e) ∧ ptr = false) → fid = f' → r = q →
          ∃ u, Rel w E G r u ∧ (execOp a.eval o).run P w = .ok (.enter fid (u :: c.args.toList.map a.eval).toArray) w := by
        intro d hut hd h1 h2
        subst h1 h2
        refine ⟨v, r', ?_⟩
        have hrec : ∀ wr, (receiverAt t (.val v) ptr wr).run P w = .ok v w := by
          intro wr
          rcases hd with ⟨⟨e, rfl⟩, rfl⟩ | ⟨hd, rfl⟩
          · simp [receiverAt, run_underlying hut, Place.get]
          · simp only [Sem.run_bind, receiverAt, run_underlying hut, Result.andThen_ok]
            cases d <;> first | exact absurd rfl (hd _) | simp [Place.get]
        have hmeth : ∀ n, (method (n + 1) t v name).run P w = .ok (fid, v) w := by
          intro n
          simp [method, typeInfo, hi, hm, hpath', follow, hf, hrec]
        have hmeth' : (method (P.types.size + Made.depth) t v name).run P w = .ok (fid, v) w := hmeth (P.types.size + (Made.depth - 1))
        have := enters_of (w := w) he (#[v] ++ c.args.map a.eval)
        have hA : (v :: c.args.toList.map a.eval).toArray = #[v] ++ c.args.map a.eval := by
          apply Array.toList_inj.1
          simp
        rw [hA]
        have e0 : (#[Value.iface t v] ++ Array.map a.eval c.args)[0]? = some (.iface t v) := by
          rw [Array.getElem?_append]
          rfl
        have e1 : (#[Value.iface t v] ++ Array.map a.eval c.args).extract 1 (#[Value.iface t v] ++ Array.map a.eval c.args).size = Array.map a.eval c.args := by
          apply Array.ext_getElem?
          intro i
          simp only [Array.getElem?_extract, Array.getElem?_append, Nat.add_comm 1 i]
          by_cases hi : i < c.args.size
          · simp [hi]
          · simp [hi]
        simp only [execOp, hop, resolve, hb, invoke, Sem.run_bind, Sem.run_pure, Result.andThen_ok, hu, e0, e1, callMethod]
        simp [hmeth', this]
      split at h
      · rename_i e hut hptr
        cases h
        exact fin _ hut (.inl ⟨⟨_, rfl⟩, hptr⟩) rfl rfl
      · cases h
      · rename_i d hnp hut hptr
        cases h
        exact fin _ hut (.inr ⟨fun e he => by subst he; exact hnp _ rfl, hptr⟩) rfl rfl
      · cases h
    · cases h
  · cases h
end
end Go.Pv
namespace Go.Pv
open Go.RowKit
section
variable {P : Program} {o : Oper} {a : Act} {w : World} {E : Env} {G : Get} {ρ : Operand → PV}

theorem src_run (g : Good w E G) {size m n : Nat} {s : PV} {u : Value} {ps : List PV} (h : srcCells G size m s = some ps) (hn : lenP s = some n) (hm : m ≤ n) (hl : ps.length = m * size) (r : Rel w E G s u) :
    ∃ xs, (Builtin.lenOf u).run P w = .ok n w ∧ (Builtin.firstCells size m u).run P w = .ok (List.toArray xs) w ∧ RelL w E G ps xs ∧ ∀ v ∈ xs, v.oneCell' = true := by
  unfold srcCells at h
  split at h
  · rename_i es
    split at h
    · rename_i e0
      cases h
      simp only [Rel] at r
      simp only [lenP, Option.some.injEq] at hn
      rcases r with ⟨_, rfl, rfl⟩ | ⟨_, _, _, _, _, _, ht, _⟩
      · subst hn
        exact ⟨[], by simp [Builtin.lenOf], by simp [Builtin.firstCells], relL_nil, by simp⟩
      · exact ht.elim
    · cases h
  · rename_i tok es htok
    split at h
    · rename_i hk
      cases h
      simp only [lenP, Option.some.injEq] at hn
      subst hn
      obtain ⟨b, o', c, sz, rfl, hc, _, rr⟩ := vec_rel (by rintro rfl; exact htok rfl) r
      obtain ⟨xs, rv, hxl, hlies, hone, _⟩ := (RelR.take m (rr.to hk)).lies
      have hxl' : xs.length = m * size := by rw [hxl]; simp [Nat.min_eq_left hm]
      refine ⟨xs, by simp [Builtin.lenOf], run_firstCells_some w size m _ _ _ xs hxl' (fun j v hv => by rw [addr_add]; exact hlies j v hv), relV_flat rv, hone⟩
    · cases h
  · rename_i k gn off n' sz
    simp only [Option.map_eq_some_iff] at h
    obtain ⟨cs, hc, rfl⟩ := h
    simp only [lenP, Option.some.injEq] at hn
    subst hn
    obtain ⟨c, hcap, rfl⟩ := sl_rel (by rw [hc]; rfl) r
    obtain ⟨vs, _, t, hh, rl, hlies, hone, _⟩ := g.lies hc
    have rx : RelL w E G ((cs.drop off).take (m * size)) ((vs.drop off).take (m * size)) := RelL.take _ (RelL.drop _ rl)
    refine ⟨(vs.drop off).take (m * size), by simp [Builtin.lenOf], run_firstCells_some w size m _ _ _ _ (by rw [rx.length, hl]) (fun j v hv => ?_), rx, fun v hv => hone v (List.mem_of_mem_drop (List.mem_of_mem_take hv))⟩
    rw [addr_add]
    rw [List.getElem?_take] at hv
    split at hv
    · rw [List.getElem?_drop] at hv
      have := hlies (off + j) v hv
      rwa [Nat.zero_add] at this
    · cases hv
  · cases h

theorem copyP_did (g : Good w E G) {c : Call} {d s : Operand} (hop : o.op = .call c) (hb : c.callee = .builtin .copy) (hc : c.args.toList = [d, s]) (hd : Rel w E G (ρ d) (a.eval d)) (hs : Rel w E G (ρ s) (a.eval s)) {r : OpR}
    (h : copyP P G c.argTypes (ρ d) (ρ s) = some r) : ∃ p ws, r = .val p ws ∧ Did P o a w E G p ws := by
  have hcs : c.args = #[d, s] := by rw [← Array.toArray_toList (xs := c.args), hc]
  unfold copyP at h
  simp only [Option.bind_eq_bind, Option.bind_eq_some_iff] at h
  obtain ⟨t0, ht0, elem, hse, size, hsz, n, hn, h⟩ := h
  have hu := sliceElem_of hse
  have exec : ∀ u v (w' : World), a.eval d = u → (Builtin.copy_ c.argTypes o.type #[u, a.eval s]).run P w = .ok v w' → (execOp a.eval o).run P w = .ok (.value v) w' := by
    intro u v w' hu' hr
    subst hu'
    simp [execOp, hop, resolve, hb, invoke, builtin, hcs, hr]
  split at h
  · rename_i k gn off dn sz e
    simp only [Option.bind_eq_some_iff] at h
    obtain ⟨cs, hcells, ps, hps, h⟩ := h
    split at h
    · rename_i hcnd
      obtain ⟨h1, h2⟩ := hcnd
      cases h
      rw [e] at hd
      obtain ⟨cap, hcap, hdv⟩ := sl_rel (by rw [hcells]; rfl) hd
      obtain ⟨xs, hlen, hfirst, rx, hone⟩ := src_run (P := P) g hps hn (Nat.min_le_left _ _) h1 hs
      obtain ⟨us, rest, t', hh, r, hl, h1u, h1r⟩ := g.lies hcells
      have hxl := rx.length
      have hst := run_storeCells_at P (E.β k) off t' xs 0 (us ++ rest).toArray w hh (by have := r.length; simp; omega) hone
      have rs := r.splice rx off
      have hul : off + xs.length ≤ us.length := by have := r.length; omega
      have hlen2 : (us.take off ++ xs ++ us.drop (off + xs.length)).length = us.length := by simp; omega
      have hrow : ((us ++ rest).take off ++ xs ++ (us ++ rest).drop (off + xs.length)) = (us.take off ++ xs ++ us.drop (off + xs.length)) ++ rest := splice_rest us rest _ off hul
      obtain ⟨M, g'⟩ := set_block g hcells hh ⟨_, rest, rfl, rs⟩ (by
        intro v hv
        simp only [List.mem_append] at hv
        rcases hv with ((hv | hv) | hv) | hv
        · exact h1u v (List.mem_of_mem_take hv)
        · exact hone v hv
        · exact h1u v (List.mem_of_mem_drop hv)
        · exact h1r v hv) (by have := hlen2; simp only [List.length_append] at this ⊢; omega)
      refine ⟨_, _, rfl, .value (.int .i64 (min n dn : Nat)), .int .i64 (min n dn : Nat), _, E, ?_, .inl rfl, M, g', by simp only [Rel]⟩
      refine exec _ _ _ hdv ?_
      have hmin : Nat.min n dn = min n dn := rfl
      simp only [Builtin.copy_, ht0, Sem.run_bind, run_underlying hu, Result.andThen_ok, hlen, run_sizeOf' hsz, hmin, hfirst]
      simp only [List.getElem?_toArray, List.getElem?_cons_zero, List.getElem?_cons_succ, Sem.run_bind, run_underlying hu, Result.andThen_ok, hlen, run_sizeOf' hsz, hmin, hfirst]
      rw [hst, ← hrow]
      simp [goInt]
    · cases h
  · rename_i tok e
    simp only [Option.bind_eq_some_iff, Option.some.injEq] at h
    obtain ⟨ps, hps, rfl⟩ := h
    rw [e] at hd
    have hdv : ∃ A cap, a.eval d = .slice A 0 cap := by
      simp only [Rel] at hd
      rcases hd with ⟨_, _, hd⟩ | ⟨b, o', cap, sz, hd, _⟩
      · exact ⟨none, 0, hd⟩
      · exact ⟨some ⟨b, o', none⟩, cap, hd⟩
    obtain ⟨A, cap, hdv⟩ := hdv
    have hl0 : ps.length = 0 * size := by
      unfold srcCells at hps
      split at hps
      · simp only [if_true, Option.some.injEq] at hps; subst hps; simp
      · split at hps
        · cases hps; simp
        · cases hps
      · simp only [Option.map_eq_some_iff] at hps
        obtain ⟨cs, _, rfl⟩ := hps; simp
      · cases hps
    obtain ⟨xs, hlen, hfirst, rx, hone⟩ := src_run (P := P) g hps hn (Nat.zero_le _) hl0 hs
    have hx0 : xs = [] := by
      have := rx.length
      rw [hl0, Nat.zero_mul] at this
      exact List.length_eq_zero_iff.1 this
    subst hx0
    refine ⟨_, _, rfl, Did.same g (u := .int .i64 0) ?_ (by simp only [Rel])⟩
    refine exec _ _ _ hdv ?_
    have hmin : Nat.min n 0 = 0 := Nat.min_zero n
    cases A <;> simp [Builtin.copy_, ht0, run_underlying hu, hlen, run_sizeOf' hsz, hmin, hfirst, storeCells, goInt]
  · cases h
end
end Go.Pv
namespace Go.Pv
open Go.RowKit

theorem plainF_eq (P : Program) (o : Oper) (ρ : Operand → PV) : plainF P o ρ = plainOp P o ρ := by
  unfold plainF
  split
  · rename_i p ws h; rw [forceP_eq]; exact h.symm
  · rfl

section
variable {P : Program} {o : Oper} {a : Act} {w : World} {E : Env} {G : Get} {ρ : Operand → PV} {K : Act → World → Prop} {Q : Exit → Act → World → Prop} {call : Callee} {r : OpR} {fx : List (Nat × Nat × Value)}

def DoneR (P : Program) (o : Oper) (a : Act) (w : World) (E : Env) (G : Get) (r : OpR) : Prop := ∃ p ws, r = .val p ws ∧ Did P o a w E G p ws
theorem Did.done {p : PV} {ws : List (Key × Nat × Ent)} (h : Did P o a w E G p ws) : DoneR P o a w E G (.val p ws) := ⟨p, ws, rfl, h⟩

theorem plainF_did (g : Good w E G) (hρ : ∀ x, Rel w E G (ρ x) (a.eval x)) (h : plainF P o ρ = some r) : DoneR P o a w E G r := by
  rw [plainF_eq] at h
  obtain ⟨p, rfl, d⟩ := plainOp_did g (fun x _ => hρ x) h
  exact d.done

theorem opPick_did (g : Good w E G) (hρ : ∀ x, Rel w E G (ρ x) (a.eval x)) {c x y : Operand} (hop : o.op = .pick c x y) (h : opPick P call G o ρ c x y = some r) : DoneR P o a w E G r := by
  unfold opPick at h
  split at h
  · rename_i t e
    cases h
    have hc := hρ c
    rw [e] at hc
    simp only [Rel] at hc
    refine Did.done (Did.same g (u := if t then a.eval x else a.eval y) ?_ ?_)
    · cases t <;> simp [execOp, hop, hc, asBool]
    · cases t <;> simp [hρ]
  · cases h
theorem opAlloc_did (g : Good w E G) {elem : TypeId} (hop : o.op = .alloc elem) (h : opAlloc P call G o ρ elem = some r) : DoneR P o a w E G r := by
  unfold opAlloc at h
  simp only [Option.bind_eq_bind, Option.bind_eq_some_iff, Option.some.injEq] at h
  obtain ⟨z, ⟨i, hi, hz⟩, p, hp', cs, hc, d, hd, rfl⟩ := h
  exact (did_alloc g hop (by simp only [Option.bind_eq_some_iff]; exact ⟨i, hi, hz⟩) hp' hc).done
theorem opBox_did (g : Good w E G) (hρ : ∀ x, Rel w E G (ρ x) (a.eval x)) {t : TypeId} {x : Operand} (hop : o.op = .box t x) (h : opBox P call G o ρ x = some r) : DoneR P o a w E G r := by
  unfold opBox at h
  simp only [Option.bind_eq_bind, Option.bind_eq_some_iff] at h
  obtain ⟨cs, hc, d, hd, h⟩ := h
  split at h
  · rename_i h1
    cases h
    exact (did_box g hop (hρ x) hc h1).done
  · cases h
theorem opBuild_did (g : Good w E G) (hρ : ∀ x, Rel w E G (ρ x) (a.eval x)) {t : TypeId} {parts : Array (Nat × Operand)} (hop : o.op = .build t parts) (h : opBuild P call G o ρ t parts = some r) : DoneR P o a w E G r := by
  unfold opBuild at h
  simp only [Option.bind_eq_bind, Option.bind_eq_some_iff] at h
  obtain ⟨z, ⟨i, hi, hz⟩, p, hp', cs, hc, h⟩ := h
  have hz' : (P.info? t).bind (·.zero) = some z := by simp only [Option.bind_eq_some_iff]; exact ⟨i, hi, hz⟩
  split at h
  · rename_i fields hu
    simp only [Option.bind_eq_some_iff, Option.map_eq_some_iff] at h
    obtain ⟨places, hpl, c, hf, rfl⟩ := h
    exact (did_build g hop (fun x _ => hρ _) hz' hp' hc (.inl ⟨fields, places, hu, hpl, hf⟩)).done
  · rename_i n elem hu
    simp only [Option.bind_eq_some_iff, Option.map_eq_some_iff] at h
    obtain ⟨size, hs, c, hf, rfl⟩ := h
    exact (did_build g hop (fun x _ => hρ _) hz' hp' hc (.inr ⟨n, elem, size, hu, hs, hf⟩)).done
  · cases h
theorem opBuildSlice_did (g : Good w E G) (hρ : ∀ x, Rel w E G (ρ x) (a.eval x)) {t : TypeId} {len : Nat} {parts : Array (Nat × Operand)} (hop : o.op = .buildSlice t len parts) (h : opBuildSlice P call G o ρ t len parts = some r) : DoneR P o a w E G r := by
  unfold opBuildSlice at h
  simp only [Option.bind_eq_bind, Option.bind_eq_some_iff] at h
  obtain ⟨d0, hu, h⟩ := h
  cases d0 <;> try (cases h; done)
  rename_i elem
  simp only [Option.bind_eq_some_iff] at h
  obtain ⟨size, hs, z, ⟨i, hi, hz⟩, h⟩ := h
  split at h
  · rename_i hc
    obtain ⟨h1, h2, h3⟩ := hc
    split at h
    · rename_i hall
      cases h
      simp only [List.map_map] at hall h1 ⊢
      refine Did.done (did_buildSlice g hop (fun x _ => hρ _) hu hs (by simp only [Option.bind_eq_some_iff]; exact ⟨i, hi, hz⟩) h1 h2 h3 ?_)
      intro x hx
      have := List.all_eq_true.1 hall (ρ x.2) (List.mem_map.2 ⟨x, hx, rfl⟩)
      unfold elemOk at this
      split at this
      · rename_i c hc
        simp only [Bool.and_eq_true, beq_iff_eq] at this
        exact ⟨c, hc, this.1, this.2⟩
      · cases this
    · cases h
  · cases h
theorem opLoad_did (g : Good w E G) (hρ : ∀ x, Rel w E G (ρ x) (a.eval x)) {t : TypeId} {x : Operand} (hop : o.op = .load t x) (h : opLoad P call G o ρ t x = some r) : DoneR P o a w E G r := by
  unfold opLoad at h
  split at h
  · rename_i k gn off e
    simp only [Option.bind_eq_bind, Option.bind_eq_some_iff, forceP_eq, Option.some.injEq] at h
    obtain ⟨cs, hc, p, hr, rfl⟩ := h
    exact (did_load g hop (hρ x) (by rw [e]; simp only [Option.bind_eq_bind, Option.bind_eq_some_iff]; exact ⟨cs, hc, hr⟩)).done
  · rename_i cs off e
    simp only [Option.bind_eq_bind, Option.bind_eq_some_iff, forceP_eq, Option.some.injEq] at h
    obtain ⟨p, hr, rfl⟩ := h
    exact (did_load g hop (hρ x) (by rw [e]; exact hr)).done
  · cases h
theorem opStore_did (g : Good w E G) (hρ : ∀ x, Rel w E G (ρ x) (a.eval x)) {t : TypeId} {x y : Operand} (hop : o.op = .store t x y) (h : opStore P call G o ρ t x y = some r) : DoneR P o a w E G r := by
  unfold opStore at h
  split at h
  · rename_i k gn off e
    simp only [Option.bind_eq_bind, Option.bind_eq_some_iff] at h
    obtain ⟨cs, hc, vs, hv', n, hn, h⟩ := h
    split at h
    · rename_i hcnd
      cases h
      exact (did_store g hop (hρ x) (hρ y) e hc hv' hn hcnd.1 hcnd.2.1 hcnd.2.2).done
    · cases h
  · cases h
theorem opNilCheck_did (g : Good w E G) (hρ : ∀ x, Rel w E G (ρ x) (a.eval x)) {x : Operand} (hop : o.op = .nilCheck x) (h : opNilCheck P call G o ρ x = some r) : DoneR P o a w E G r := by
  unfold opNilCheck at h
  split at h
  · rename_i f as cs e
    cases h
    have := hρ x
    rw [e] at this
    exact (did_nilCheck_fn g hop this).done
  · split at h
    · rename_i hl
      cases h
      exact (did_nilCheck g hop hl (hρ x)).done
    · exact plainF_did g hρ h
theorem opBinOp_did (g : Good w E G) (hρ : ∀ x, Rel w E G (ρ x) (a.eval x)) {op : BinOp} {xt yt : TypeId} {x y : Operand} (hop : o.op = .binOp op xt x y yt) (h : opBinOp P call G o ρ op xt x y = some r) : DoneR P o a w E G r := by
  unfold opBinOp at h
  split at h
  · rename_i v hv
    rw [forceV_eq] at h
    cases h
    exact (did_binFast g hop (hρ x) (hρ y) hv).done
  · split at h
    · split at h
      · rename_i hn
        cases h
        exact (did_cmp (b := false) g hop (hρ x) (hρ y) hn).done
      · exact plainF_did g hρ h
    · split at h
      · rename_i hn
        cases h
        exact (did_cmp (b := true) g hop (hρ x) (hρ y) hn).done
      · exact plainF_did g hρ h
    · exact plainF_did g hρ h
theorem opMakeInterface_did (g : Good w E G) (hρ : ∀ x, Rel w E G (ρ x) (a.eval x)) {t : TypeId} {x : Operand} (hop : o.op = .makeInterface t x) (h : opMakeInterface P call G o ρ t x = some r) : DoneR P o a w E G r := by
  unfold opMakeInterface at h
  split at h
  · cases h
  · cases h
  · rename_i d hni hu
    cases h
    refine Did.done (did_makeInterface g hop (hρ x) ?_)
    unfold Program.concrete
    rw [hu]
    cases d <;> first | rfl | (exact absurd rfl (hni _))
theorem opSlice_did (g : Good w E G) (hρ : ∀ x, Rel w E G (ρ x) (a.eval x)) {t : TypeId} {x : Operand} {lo hi mx : Option Operand} (hop : o.op = .slice t x lo hi mx) (h : opSlice P call G o ρ t x lo hi mx = some r) : DoneR P o a w E G r := by
  unfold opSlice at h
  split at h
  · rename_i k gn off n sz e
    simp only [Option.bind_eq_bind, Option.bind_eq_some_iff] at h
    obtain ⟨elem, hu, size, hs, hh, hhh, l, hl, h⟩ := h
    split at h
    · rename_i hc
      cases h
      have := hρ x
      rw [e] at this
      exact (did_slice_sl g hop this (fun z _ => hρ z) (fun z _ => hρ z) (sliceElem_of hu) hs hhh hl hc.1 hc.2.1 hc.2.2.1 hc.2.2.2.1 hc.2.2.2.2).done
    · cases h
  · exact plainF_did g hρ h
  · rename_i tok es htok e
    simp only [Option.bind_eq_bind, Option.bind_eq_some_iff] at h
    obtain ⟨d0, hu, h⟩ := h
    cases d0 <;> try (cases h; done)
    rename_i elem
    simp only [Option.bind_eq_some_iff] at h
    obtain ⟨size, hs, m, hm, hh, hhh, l, hl, h⟩ := h
    split at h
    · rename_i hc
      cases h
      have := hρ x
      rw [e] at this
      exact (did_slice g (by rintro rfl; exact htok rfl) hop this (fun z _ => hρ z) (fun z _ => hρ z) (fun z _ => hρ z) hu hs hm hhh hl hc.1 hc.2.1 hc.2.2.1 hc.2.2.2.1 hc.2.2.2.2).done
    · cases h
  · exact plainF_did g hρ h
theorem opFieldAddr_did (g : Good w E G) (hρ : ∀ x, Rel w E G (ρ x) (a.eval x)) {s : TypeId} {x : Operand} {f : Nat} (hop : o.op = .fieldAddr s x f) (h : opFieldAddr P call G o ρ s x f = some r) : DoneR P o a w E G r := by
  unfold opFieldAddr at h
  simp only [Option.bind_eq_bind, Option.bind_eq_some_iff] at h
  obtain ⟨d0, hu, h⟩ := h
  cases d0 <;> try (cases h; done)
  rename_i fields
  simp only [Option.bind_eq_some_iff] at h
  obtain ⟨fd, hf, n, hn, h⟩ := h
  split at h
  · cases h
  · rename_i h0
    split at h
    · rename_i k gn off e
      split at h
      · rename_i hs
        cases h
        exact (did_fieldAddr g hop (hρ x) hu hf hn h0 (by rw [e]; simp only; rw [if_pos hs])).done
      · cases h
    · rename_i cs off e
      cases h
      exact (did_fieldAddr g hop (hρ x) hu hf hn h0 (by rw [e])).done
    · cases h
theorem opField_did (g : Good w E G) (hρ : ∀ x, Rel w E G (ρ x) (a.eval x)) {t : TypeId} {x : Operand} {f : Nat} (hop : o.op = .field t x f) (h : opField P call G o ρ t x f = some r) : DoneR P o a w E G r := by
  unfold opField at h
  split at h
  · rename_i cs e
    simp only [Option.bind_eq_bind, Option.bind_eq_some_iff] at h
    obtain ⟨d0, hu, h⟩ := h
    cases d0 <;> try (cases h; done)
    rename_i fields
    simp only [Option.bind_eq_some_iff, Option.map_eq_some_iff] at h
    obtain ⟨fd, hf, p, hr, rfl⟩ := h
    have := hρ x
    rw [e] at this
    exact (did_field g hop this hu hf hr).done
  · cases h
theorem opIndexAddr_did (g : Good w E G) (hρ : ∀ x, Rel w E G (ρ x) (a.eval x)) {t : TypeId} {x ix : Operand} (hop : o.op = .indexAddr t x ix) (h : opIndexAddr P call G o ρ t x ix = some r) : DoneR P o a w E G r := by
  unfold opIndexAddr at h
  simp only [Option.bind_eq_bind, Option.bind_eq_some_iff] at h
  obtain ⟨i, hi, h⟩ := h
  split at h
  · rename_i elem tok es hu e
    simp only [Option.bind_eq_some_iff] at h
    obtain ⟨size, hs, el, he, h⟩ := h
    split at h
    · rename_i hk
      cases h
      have := hρ x
      rw [e] at this
      exact (did_indexAddr_slice g hop this (hρ ix) hi hu hs he hk).done
    · cases h
  · rename_i elem k gn off n sz hu e
    simp only [Option.bind_eq_some_iff] at h
    obtain ⟨size, hs, h⟩ := h
    split at h
    · rename_i hc
      cases h
      have := hρ x
      rw [e] at this
      exact (did_indexAddr_sl g hop this (hρ ix) hi hu hs hc.1 hc.2).done
    · cases h
  · rename_i len elem k gn off hu e
    simp only [Option.bind_eq_some_iff] at h
    obtain ⟨size, hs, h⟩ := h
    split at h
    · rename_i hc
      cases h
      have := hρ x
      rw [e] at this
      obtain ⟨cs, hcs⟩ := Option.isSome_iff_exists.1 hc.2
      exact (did_indexAddr_ref g hop this (hρ ix) hi hu hs hc.1 hcs).done
    · cases h
  · rename_i len elem cs off hu e
    simp only [Option.bind_eq_some_iff] at h
    obtain ⟨size, hs, h⟩ := h
    split at h
    · rename_i hc
      cases h
      have := hρ x
      rw [e] at this
      exact (did_indexAddr_eptr g hop this (hρ ix) hi hu hs hc).done
    · cases h
  · cases h
theorem opIndex_did (g : Good w E G) (hρ : ∀ x, Rel w E G (ρ x) (a.eval x)) {t : TypeId} {x ix : Operand} (hop : o.op = .index t x ix) (h : opIndex P call G o ρ t x ix = some r) : DoneR P o a w E G r := by
  unfold opIndex at h
  split at h
  · rename_i len elem cs hu e
    simp only [Option.bind_eq_bind, Option.bind_eq_some_iff] at h
    obtain ⟨i, hi, size, hs, h⟩ := h
    split at h
    · rename_i hc
      simp only [Option.map_eq_some_iff] at h
      obtain ⟨p, hr, rfl⟩ := h
      have := hρ x
      rw [e] at this
      exact (did_index g hop this (hρ ix) hi hu hs hc hr).done
    · cases h
  · rename_i s hu e
    simp only [Option.bind_eq_bind, Option.bind_eq_some_iff, Option.some.injEq] at h
    obtain ⟨i, hi, c, hc, rfl⟩ := h
    have := hρ x
    rw [e] at this
    exact (did_index_string g hop this (hρ ix) hi hu hc).done
  · exact plainF_did g hρ h
theorem opExtract_did (g : Good w E G) (hρ : ∀ x, Rel w E G (ρ x) (a.eval x)) {x : Operand} {i : Nat} (hop : o.op = .extract x i) (h : opExtract P call G o ρ x i = some r) : DoneR P o a w E G r := by
  unfold opExtract at h
  split at h
  · rename_i ps e
    simp only [Option.map_eq_some_iff] at h
    obtain ⟨p, hr, rfl⟩ := h
    have := hρ x
    rw [e] at this
    exact (did_extract g hop this hr).done
  · cases h
theorem opMakeSlice_did (g : Good w E G) (hρ : ∀ x, Rel w E G (ρ x) (a.eval x)) {t : TypeId} {l c : Operand} (hop : o.op = .makeSlice t l c) (h : opMakeSlice P call G o ρ t l c = some r) : DoneR P o a w E G r := by
  unfold opMakeSlice at h
  simp only [Option.bind_eq_bind, Option.bind_eq_some_iff] at h
  obtain ⟨elem, he, info, hi, z, hz, p, hp, zc, hzc, n, hn, m, hm, d, hd, h⟩ := h
  obtain ⟨kl, hl⟩ := natOf_rel hn (hρ l)
  obtain ⟨kc, hc⟩ := natOf_rel hm (hρ c)
  split at h
  · rename_i hcnd
    obtain ⟨h1, h2⟩ := did_makeSlice g (d := d) hop hl hc he hi hz hp hzc hcnd.1 hcnd.2.1 hcnd.2.2.1 hcnd.2.2.2.1 hcnd.2.2.2.2.1 hcnd.2.2.2.2.2
    split at h
    · rename_i e
      cases h
      exact (h1 e).done
    · split at h
      · rename_i e
        cases h
        exact (h2 e).done
      · cases h
  · cases h
theorem intOf_rel {p : PV} {i : Int} {u : Value} (h : intOfP p = some i) (r : Rel w E G p u) : ∃ k, u = .int k i := by
  unfold intOfP at h
  split at h
  · cases h; simp only [Rel] at r; exact ⟨_, r⟩
  · cases h
theorem opMakeMap_did (g : Good w E G) (hρ : ∀ x, Rel w E G (ρ x) (a.eval x)) {t : TypeId} {res : Option Operand} (hop : o.op = .makeMap t res) (h : opMakeMap P call G o ρ t res = some r) : DoneR P o a w E G r := by
  unfold opMakeMap at h
  cases res with
  | none =>
    simp only [Option.bind_eq_bind, Option.bind_eq_some_iff, Option.some.injEq] at h
    obtain ⟨n, hn, d, hd, rfl⟩ := h
    exact Did.done (did_makeMap g hop fun x hx => by cases hx)
  | some x =>
    simp only [Option.bind_eq_bind, Option.bind_eq_some_iff, Option.some.injEq] at h
    obtain ⟨n, ⟨e, he, hn⟩, d, hd, rfl⟩ := h
    refine Did.done (did_makeMap g hop fun y hy => ?_)
    cases hy
    obtain ⟨k, hk⟩ := intOf_rel hn (hρ x)
    exact ⟨⟨e, he⟩, k, n, hk⟩
theorem opMapUpdate_did (g : Good w E G) (hρ : ∀ x, Rel w E G (ρ x) (a.eval x)) {t : TypeId} {m k x : Operand} (hop : o.op = .mapUpdate t m k x ∨ o.op = .insert t m k x) (h : opMapUpdate P call G o ρ t m k x = some r) : DoneR P o a w E G r := by
  unfold opMapUpdate at h
  split at h
  · rename_i q gn kv em ek
    simp only [Option.bind_eq_bind, Option.bind_eq_some_iff] at h
    obtain ⟨⟨ks, vs⟩, hmap, d, hd, h⟩ := h
    have hm := hρ m
    rw [em] at hm
    have hk := hρ k
    rw [ek] at hk
    simp only [Rel] at hk
    simp only at h
    split at h
    · rename_i i hf
      cases h
      exact (did_mapUpdate g hop hm hk (hρ x) hmap hd hf).done
    · rename_i hf
      split at h
      · cases h
        exact (did_mapUpdate g hop hm hk (hρ x) hmap hd hf).done
      · cases h
    · cases h
  · cases h
theorem opLookup_did (g : Good w E G) (hρ : ∀ x, Rel w E G (ρ x) (a.eval x)) {t : TypeId} {m k : Operand} {ok : Bool} (hop : o.op = .lookup t m k ok) (h : opLookup P call G o ρ t m k ok = some r) : DoneR P o a w E G r := by
  unfold opLookup at h
  split at h
  · rename_i kv ek
    simp only [Option.bind_eq_bind, Option.bind_eq_some_iff] at h
    obtain ⟨⟨ks, vs⟩, hmap, d, hd, e, he, z, ⟨i, hi, hz⟩, zp, hzp, h⟩ := h
    have hk := hρ k
    rw [ek] at hk
    simp only [Rel] at hk
    have hz' : (P.info? e).bind (·.zero) = some z := by simp only [Option.bind_eq_some_iff]; exact ⟨i, hi, hz⟩
    split at h
    · simp only at h
      split at h
      · rename_i j hf
        simp only [Option.bind_eq_some_iff, Option.some.injEq] at h
        obtain ⟨p, hp, rfl⟩ := h
        have := did_lookup g hop (hρ m) hk hmap hd he hz' hzp hf (p := p) (b := true) (.inr ⟨j, rfl, hp, rfl⟩)
        exact this.done
      · rename_i hf
        cases h
        exact (did_lookup g hop (hρ m) hk hmap hd he hz' hzp hf (p := zp) (b := false) (.inl ⟨rfl, rfl, rfl⟩)).done
      · cases h
    · cases h
  · cases h
theorem opTypeAssert_did (g : Good w E G) (hρ : ∀ x, Rel w E G (ρ x) (a.eval x)) {x : Operand} {xt asserted : TypeId} {ok : Bool} (hop : o.op = .typeAssert x xt asserted ok) (h : opTypeAssert P call G o ρ x asserted ok = some r) : DoneR P o a w E G r := by
  unfold opTypeAssert at h
  split at h
  · rename_i want t p hu e
    simp only [Option.bind_eq_bind, Option.bind_eq_some_iff] at h
    obtain ⟨i, hi, h⟩ := h
    have := hρ x
    rw [e] at this
    split at h
    · rename_i hm
      cases h
      exact (did_typeAssert_iface g hop hu this hi hm).done
    · cases h
  · exact plainF_did g hρ h
  · rename_i d t p hd hu e
    simp only [Option.bind_eq_bind, Option.bind_eq_some_iff] at h
    obtain ⟨z, ⟨i, hi, hz⟩, zp, hzp, h⟩ := h
    have := hρ x
    rw [e] at this
    have hz' : (P.info? asserted).bind (·.zero) = some z := by simp only [Option.bind_eq_some_iff]; exact ⟨i, hi, hz⟩
    have hd' : ∀ want, d ≠ .interface want := fun want e' => by subst e'; exact hd _ rfl
    split at h
    · rename_i et
      cases h
      exact (did_typeAssert g hop hu hd' this hz' hzp (q := p) (b := true) (.inl ⟨et, rfl, rfl⟩)).done
    · rename_i et
      split at h
      · rename_i hok
        cases h
        have := did_typeAssert g hop hu hd' this hz' hzp (q := zp) (b := false) (.inr ⟨et, hok, rfl, rfl⟩)
        rw [hok] at this
        exact this.done
      · cases h
  · exact plainF_did g hρ h

theorem Did.wp {p : PV} {ws : List (Key × Nat × Ent)} (h : Did P o a w E G p ws) (hv : ∀ E' w' u, Evo w E G w' E' (updG G ws) → Good w' E' (updG G ws) → Rel w' E' (updG G ws) p u → K (a.put o.dst u) w') : o.wp P a w K Q := by
  obtain ⟨n, u, w', E', hr, hn, M, g', r⟩ := h
  unfold Oper.wp
  rw [hr]
  rcases hn with rfl | ⟨rfl, rfl⟩
  · exact hv E' w' u M g' r
  · exact hv E' w' undef M g' r

theorem sameV_eq {x y : Value} (h : sameV x y = true) : x = y := by
  unfold sameV at h
  split at h <;> simp_all
  rename_i a b
  obtain ⟨⟨a⟩⟩ := a
  obtain ⟨⟨b⟩⟩ := b
  simp_all
theorem sameVs_eq : ∀ {l m : List Value}, sameVs l m = true → l = m
  | [], m, h => by cases m <;> simp [sameVs] at h; rfl
  | x :: xs, m, h => by
    cases m with
    | nil => simp [sameVs] at h
    | cons y ys =>
      simp [sameVs] at h
      rw [sameV_eq h.1, sameVs_eq h.2]
theorem sameF_eq {f g : Fn} (h : sameF f g = true) : f = g := by
  unfold sameF at h
  split at h
  · rw [Nat.eq_of_beq_eq_true h]
  · cases h
mutual
theorem sameP_eq : ∀ (p q : PV), sameP p q = true → p = q
  | .v x, q, h => by cases q <;> simp [sameP] at h; rw [sameV_eq h]
  | .agg l, q, h => by cases q <;> simp [sameP] at h; rw [sameL_eq _ _ h]
  | .tup l, q, h => by cases q <;> simp [sameP] at h; rw [sameL_eq _ _ h]
  | .ref k g o, q, h => by cases q <;> simp [sameP] at h; simp [h]
  | .eptr l o, q, h => by cases q <;> simp [sameP] at h; rw [sameL_eq _ _ h.2, h.1]
  | .vec t l, q, h => by cases q <;> simp [sameP] at h; rw [sameL_eq _ _ h.2, h.1]
  | .iface t p, q, h => by cases q <;> simp [sameP] at h; rw [sameP_eq _ _ h.2, h.1]
  | .sl k g o n z, q, h => by cases q <;> simp [sameP] at h; simp [h]
  | .mref k g, q, h => by cases q <;> simp [sameP] at h; simp [h]
  | .any, q, h => by cases q <;> simp [sameP] at h
  | .fn _ _ _, q, h => by cases q <;> simp [sameP] at h; rw [sameF_eq h.1, sameL_eq _ _ h.2.1, sameL_eq _ _ h.2.2]
  | .imap _ _, q, h => by cases q <;> simp [sameP] at h; rw [sameVs_eq h.1, sameL_eq _ _ h.2]
theorem sameL_eq : ∀ (l m : List PV), sameL l m = true → l = m
  | [], m, h => by cases m <;> simp [sameL] at h; rfl
  | p :: ps, m, h => by
    cases m with
    | nil => simp [sameL] at h
    | cons q qs =>
      simp [sameL] at h
      rw [sameP_eq _ _ h.1, sameL_eq _ _ h.2]
end
theorem sameE_eq {x y : Nat × Ent} (h : sameE x y = true) : x = y := by
  unfold sameE at h
  split at h
  · simp only [Bool.and_eq_true, Nat.beq_eq] at h
    rw [h.1, sameL_eq _ _ h.2]
  · simp only [Bool.and_eq_true, Nat.beq_eq] at h
    rw [h.1, sameVs_eq h.2.1, sameL_eq _ _ h.2.2]
  · simp only [Bool.and_eq_true, Nat.beq_eq] at h
    rw [h.1, h.2.1, h.2.2.1, h.2.2.2]
  · cases h
theorem upd1_self (G : Get) (k : Key) : upd1 G k (G k) = G := by
  funext q
  by_cases e : q = k
  · subst e; simp
  · rw [upd1_ne _ _ e]
theorem updG_same : ∀ (ws : List (Key × Nat × Ent)) (G : Get), (∀ x ∈ ws, G x.1 = x.2) → updG G ws = G
  | [], G, _ => rfl
  | x :: ws, G, h => by
    show updG (upd1 G x.1 x.2) ws = G
    rw [← h x (by simp), upd1_self]
    exact updG_same ws G fun y hy => h y (by simp [hy])
theorem updG_slim (G : Get) (ws : List (Key × Nat × Ent)) : updG G (slim G ws) = updG G ws := by
  unfold slim
  split
  · rename_i h
    rw [updG_same ws G fun x hx => sameE_eq (List.all_eq_true.1 h x hx)]
    rfl
  · rfl
theorem updG_slim2 (G : Get) (b : Bool) (ws : List (Key × Nat × Ent)) : updG G (match b with | true => slim G ws | false => ws) = updG G ws := by
  cases b
  · rfl
  · exact updG_slim G ws
theorem callP_gen {Cl : FuncId → Array Value → World → (Ending → World → Prop) → Prop} (hmono : ∀ {f us w R R'}, Cl f us w R → (∀ e w', R e w' → R' e w') → Cl f us w R') {X : World → Env → Get → Prop}
    (HC : ∀ f args bor r, call f args bor = some r → ∀ (w : World) (E : Env) (us : List Value), Good w E (borG bor) → Fix fx w E → RelL w E (borG bor) args us → X w E (borG bor) → Cl f us.toArray w (CallPost w E bor r))
    (hX : ∀ E' G' m, Compat E G E' G' m → X w E' G') (g : Good w E G) (hf : Fix fx w E) {dst : Option Tmp} {f : FuncId} {args : List PV} {us : List Value} (hr : RelL w E G args us) (h : callP call G dst f args = some r)
    {R : Ending → World → Prop} (hv : ∀ p ws, r = .val p ws → ∀ E' w' u, Evo w E G w' E' (updG G ws) → Good w' E' (updG G ws) → Rel w' E' (updG G ws) p u → R (.returned u) w')
    (hp : ∀ p ws, r = .pan p ws → ∀ E' w' u, Evo w E G w' E' (updG G ws) → Good w' E' (updG G ws) → Rel w' E' (updG G ws) p u → R (.panicked [{ v := u, recovered := false }]) w') : Cl f us.toArray w R := by
  unfold callP at h
  simp only at h
  have hn : (reach G 64 (args.flatMap refsQ) []).Nodup := reach_nodup G _ _ _ (by simp)
  generalize reach G 64 (args.flatMap refsQ) [] = ks at h hn
  obtain ⟨C, gd⟩ := down_good g hn
  rw [renQ_list] at h
  -- what the caller knows when the callee has ended
  have back : ∀ (bor : List Ent) (x : List Key × Get), (if bor.length = ks.length then some (ks, G) else
      match (generalizing := false) dst with
      | some d => if ks.length ≤ bor.length ∧ d < 1000 ∧ ((List.range (bor.length - ks.length)).map (newKey d)).all (fun k => !ks.contains k) then some (ks ++ (List.range (bor.length - ks.length)).map (newKey d), bump G ((List.range (bor.length - ks.length)).map (newKey d))) else none
      | none => none) = some x →
      ∀ w' u p Ec Gc, (∀ i, Gc (.bor i) = (0, (bor[i]?).getD .none)) → Evo w (downEnv E ks) (borG (ks.map fun k => renEQ (down G ks) (G k).2)) w' Ec Gc → Good w' Ec Gc → Rel w' Ec Gc p u →
      ∃ E', Evo w E G w' E' (updG G (zipBack x.2 (up x.2 x.1) x.1 bor)) ∧ Good w' E' (updG G (zipBack x.2 (up x.2 x.1) x.1 bor)) ∧ Rel w' E' (updG G (zipBack x.2 (up x.2 x.1) x.1 bor)) (renQ (up x.2 x.1) p) u := by
    intro bor x hx w' u p Ec Gc hb V gc rp
    rw [renQ_eq]
    split at hx
    · rename_i hl
      cases hx
      obtain ⟨E', M, g', C'⟩ := up_good g (new := []) (by simpa using hn) (by simp) (by simpa using hl) hb V gc
      simp only [List.append_nil] at M g' C'
      exact ⟨E', M, g', Rel.ren C' _ _ rp⟩
    · split at hx
      · rename_i d
        split at hx
        · rename_i hcnd
          cases hx
          obtain ⟨h1, _, h3⟩ := hcnd
          generalize hnew : (List.range (bor.length - ks.length)).map (newKey d) = new at h3 ⊢
          have hdis : ∀ k ∈ new, k ∉ ks := by
            intro k hk
            have := List.all_eq_true.1 h3 k hk
            simpa using this
          have hnn : new.Nodup := by
            rw [← hnew, List.nodup_iff_pairwise_ne, List.pairwise_map]
            refine (List.nodup_iff_pairwise_ne.1 List.nodup_range).imp fun hab e => hab ?_
            simp only [newKey, Key.loc.injEq] at e
            omega
          have hn' : (ks ++ new).Nodup := by
            rw [List.nodup_append]
            exact ⟨hn, hnn, fun a ha b hb e => hdis b hb (e ▸ ha)⟩
          have hl : bor.length = (ks ++ new).length := by rw [← hnew]; simp; omega
          have hsame : ∀ k ∈ ks, dropG G new k = G k := fun k hk => dropG_out G fun hk' => hdis k hk' hk
          have hinit : (ks.map fun k => renEQ (down (dropG G new) ks) (dropG G new k).2) = ks.map fun k => renEQ (down G ks) (G k).2 := by
            rw [down_drop G hdis]
            exact List.map_congr_left fun k hk => by rw [hsame k hk]
          obtain ⟨E', M, g', C'⟩ := up_good (drop_good g new) hn' (fun k hk => by rw [dropG_in G hk]) hl hb (by rw [hinit]; exact V) gc
          have hgen := bump_gen G new
          simp only
          rw [up_gen hgen, zipBack_gen hgen, updG_zipBack (G1 := dropG G new) _ hl (fun k hk => (dropG_out G fun hk' => hk (List.mem_append_right _ hk')).symm) _ hn']
          exact ⟨E', (drop_evo G new).trans M, g', Rel.ren C' _ _ rp⟩
        · cases hx
      · cases hx
  split at h
  · rename_i p bor hc
    simp only [Option.map_eq_some_iff] at h
    obtain ⟨x, hx, rfl⟩ := h
    refine hmono (HC f _ _ _ hc w _ us gd hf (RelL.ren C _ _ hr) (hX _ _ _ C)) ?_
    rintro e w' ⟨u, Ec, Gc, rfl, hb, V, gc, rp⟩
    obtain ⟨E', M, g', r'⟩ := back bor x hx w' u p Ec Gc hb V gc rp
    rw [← updG_slim2 G (Nat.beq bor.length ks.length)] at M g' r'
    exact hv _ _ rfl E' w' u M g' r'
  · rename_i p bor hc
    simp only [Option.map_eq_some_iff] at h
    obtain ⟨x, hx, rfl⟩ := h
    refine hmono (HC f _ _ _ hc w _ us gd hf (RelL.ren C _ _ hr) (hX _ _ _ C)) ?_
    rintro e w' ⟨u, Ec, Gc, rfl, hb, V, gc, rp⟩
    obtain ⟨E', M, g', r'⟩ := back bor x hx w' u p Ec Gc hb V gc rp
    rw [← updG_slim2 G (Nat.beq bor.length ks.length)] at M g' r'
    exact hp _ _ rfl E' w' u M g' r'
  · cases h

theorem callP_sound (HC : CallOk P fx call) (g : Good w E G) (hf : Fix fx w E) {dst : Option Tmp} {f : FuncId} {args : List PV} {us : List Value} (hr : RelL w E G args us) (h : callP call G dst f args = some r)
    {R : Ending → World → Prop} (hv : ∀ p ws, r = .val p ws → ∀ E' w' u, Evo w E G w' E' (updG G ws) → Good w' E' (updG G ws) → Rel w' E' (updG G ws) p u → R (.returned u) w')
    (hp : ∀ p ws, r = .pan p ws → ∀ E' w' u, Evo w E G w' E' (updG G ws) → Good w' E' (updG G ws) → Rel w' E' (updG G ws) p u → R (.panicked [{ v := u, recovered := false }]) w') : Calls P f us.toArray w R :=
  callP_gen (Cl := Calls P) (fun h k => h.mono k) (X := fun _ _ _ => True) (fun f args bor r h w E us g hf rl _ => HC f args bor r h w E us g hf rl) (fun _ _ _ _ => trivial) g hf hr h hv hp

theorem opCall_wp (HC : CallOk P fx call) (g : Good w E G) (hf : Fix fx w E) (hρ : ∀ x, Rel w E G (ρ x) (a.eval x)) {c : Call} (hop : o.op = .call c) (h : opCall P call G o ρ c = some r)
    (hv : ∀ p ws, r = .val p ws → ∀ E' w' u, Evo w E G w' E' (updG G ws) → Good w' E' (updG G ws) → Rel w' E' (updG G ws) p u → K (a.put o.dst u) w')
    (hp : ∀ p ws, r = .pan p ws → ∀ E' w' u, Evo w E G w' E' (updG G ws) → Good w' E' (updG G ws) → Rel w' E' (updG G ws) p u → Q (.panic [{ v := u, recovered := false }]) a w') : o.wp P a w K Q := by
  have done : DoneR P o a w E G r → o.wp P a w K Q := fun ⟨p, ws, e, d⟩ => d.wp (hv p ws e)
  unfold opCall at h
  split at h
  · rename_i hb
    split at h
    · rename_i s x hc
      obtain ⟨p, ws, e, d⟩ := appendP_did g hop hb hc (hρ s) (hρ x) h
      exact done ⟨p, ws, e, d⟩
    · cases h
  · rename_i hb
    split at h
    · rename_i d s hc
      obtain ⟨p, ws, e, d⟩ := copyP_did g hop hb hc (hρ d) (hρ s) h
      exact done ⟨p, ws, e, d⟩
    · cases h
  · rename_i hb
    split at h
    · rename_i q hc
      cases ha : c.args.toList with
      | nil => rw [ha] at hc; simp at hc
      | cons x rest =>
        rw [ha] at hc
        simp only [List.map_cons, List.cons.injEq, List.map_eq_nil_iff] at hc
        obtain ⟨e, rfl⟩ := hc
        have hx := hρ x
        rw [e] at hx
        split at h
        · rename_i s ht
          simp only [Option.bind_eq_some_iff] at ht
          obtain ⟨t, ht, hu⟩ := ht
          rw [forceN_eq] at h
          cases h
          exact done (did_len g hop hb ha ht hu hx (.inl ⟨rfl, _, rfl, rfl⟩)).done
        · rename_i el tok es ht
          simp only [Option.bind_eq_some_iff] at ht
          obtain ⟨t, ht, hu⟩ := ht
          rw [forceN_eq] at h
          cases h
          exact done (did_len g hop hb ha ht hu hx (.inr (.inl ⟨⟨_, rfl⟩, .inl ⟨_, _, rfl, rfl⟩⟩))).done
        · rename_i el k gn off n sz ht
          simp only [Option.bind_eq_some_iff] at ht
          obtain ⟨t, ht, hu⟩ := ht
          split at h
          · rename_i hl
            cases h
            exact done (did_len g hop hb ha ht hu hx (.inr (.inl ⟨⟨_, rfl⟩, .inr ⟨_, _, _, _, rfl, hl⟩⟩))).done
          · cases h
        · rename_i kt et k gn ht
          simp only [Option.bind_eq_some_iff] at ht
          obtain ⟨t, ht, hu⟩ := ht
          simp only [Option.map_eq_some_iff] at h
          obtain ⟨m, hm, rfl⟩ := h
          exact done (did_len g hop hb ha ht hu hx (.inr (.inr ⟨⟨_, _, rfl⟩, .inl ⟨_, _, m, rfl, hm, rfl⟩⟩))).done
        · rename_i kt et ks vs ht
          simp only [Option.bind_eq_some_iff] at ht
          obtain ⟨t, ht, hu⟩ := ht
          cases h
          exact done (did_len g hop hb ha ht hu hx (.inr (.inr ⟨⟨_, _, rfl⟩, .inr ⟨_, _, rfl, rfl⟩⟩))).done
        · exact done (plainF_did g hρ h)
    · exact done (plainF_did g hρ h)
  · rename_i hb
    split at h
    · rename_i t p hc
      cases h
      cases ha : c.args.toList with
      | nil => rw [ha] at hc; simp at hc
      | cons x rest =>
        rw [ha] at hc
        simp only [List.map_cons, List.cons.injEq, List.map_eq_nil_iff] at hc
        obtain ⟨e, rfl⟩ := hc
        have hx := hρ x
        rw [e] at hx
        simp only [Rel] at hx
        obtain ⟨v, hu, hv'⟩ := hx
        have hcs : c.args = #[x] := by rw [← Array.toArray_toList (xs := c.args), ha]
        have hrun : (execOp a.eval o).run P w = .halt (.panic (.iface t v)) w := by
          simp [execOp, hop, resolve, hb, invoke, builtin, hcs, hu, Instr.panic]
        unfold Oper.wp
        rw [hrun]
        exact hp _ _ rfl E w (.iface t v) Evo.rfl g (by simp only [Rel]; exact ⟨v, rfl, hv'⟩)
    · cases h
  · exact done (plainF_did g hρ h)
  · rename_i f hb
    split at h
    · rename_i fid args e
      split at h
      · rename_i hent
        obtain ⟨us, hus, hrun⟩ := run_fnOf hop hb (hρ f) (relL_map (a := a) c.args.toList fun x _ => hρ x) e hent
        unfold Oper.wp
        rw [hrun]
        refine callP_sound HC g hf hus h (R := _) (fun p ws er E' w' u M g' rp => ?_) (fun p ws er E' w' u M g' rp => ?_)
        · exact hv p ws er E' w' u M g' rp
        · exact hp p ws er E' w' u M g' rp
      · cases h
    · cases h
  · rename_i x name hb
    split at h
    · rename_i fid recv e
      split at h
      · rename_i hent
        obtain ⟨u, hu, hrun⟩ := run_methodOf hop hb (hρ x) e hent
        unfold Oper.wp
        rw [hrun]
        refine callP_sound HC g hf (relL_cons hu (relL_map (a := a) c.args.toList fun x _ => hρ x)) h (R := _) (fun p ws er E' w' u M g' rp => ?_) (fun p ws er E' w' u M g' rp => ?_)
        · exact hv p ws er E' w' u M g' rp
        · exact hp p ws er E' w' u M g' rp
      · cases h
    · cases h

theorem opEval_sound (HC : CallOk P fx call) (g : Good w E G) (hf : Fix fx w E) (hρ : ∀ x, Rel w E G (ρ x) (a.eval x)) (h : opEval P call G o ρ = some r)
    (hv : ∀ p ws, r = .val p ws → ∀ E' w' u, Evo w E G w' E' (updG G ws) → Good w' E' (updG G ws) → Rel w' E' (updG G ws) p u → K (a.put o.dst u) w')
    (hp : ∀ p ws, r = .pan p ws → ∀ E' w' u, Evo w E G w' E' (updG G ws) → Good w' E' (updG G ws) → Rel w' E' (updG G ws) p u → Q (.panic [{ v := u, recovered := false }]) a w') : o.wp P a w K Q := by
  have done : DoneR P o a w E G r → o.wp P a w K Q := fun ⟨p, ws, e, d⟩ => d.wp (hv p ws e)
  unfold opEval at h
  split at h
  case h_1 x hop =>
    cases h
    exact done (Did.same g (u := a.eval x) (by simp [execOp, hop]) (hρ x)).done
  case h_2 x hop =>
    cases h
    exact done (Did.same g (u := a.eval x) (by simp [execOp, hop]) (hρ x)).done
  case h_3 hop => exact done (opPick_did g hρ hop h)
  case h_4 hop => exact done (opAlloc_did g hop h)
  case h_5 hop => exact done (opBox_did g hρ hop h)
  case h_6 hop => exact done (opBuild_did g hρ hop h)
  case h_7 hop => exact done (opBuildSlice_did g hρ hop h)
  case h_8 hop => exact done (opLoad_did g hρ hop h)
  case h_9 hop => exact done (opStore_did g hρ hop h)
  case h_10 hop => exact done (opNilCheck_did g hρ hop h)
  case h_11 hop => exact done (opBinOp_did g hρ hop h)
  case h_12 hop => exact done (opMakeInterface_did g hρ hop h)
  case h_13 fn first captured hop =>
    unfold opMakeFunc at h
    cases h
    exact done (did_makeFunc g hop (fun x _ => hρ x) (fun x _ => hρ x)).done
  case h_14 hop => exact done (opSlice_did g hρ hop h)
  case h_15 hop => exact done (opFieldAddr_did g hρ hop h)
  case h_16 hop => exact done (opField_did g hρ hop h)
  case h_17 hop => exact done (opIndexAddr_did g hρ hop h)
  case h_18 hop => exact done (opIndex_did g hρ hop h)
  case h_19 hop => exact done (opExtract_did g hρ hop h)
  case h_20 hop => exact opCall_wp HC g hf hρ hop h hv hp
  case h_21 x hop =>
    unfold opPanic at h
    split at h
    · rename_i t p e
      cases h
      have hx := hρ x
      rw [e] at hx
      simp only [Rel] at hx
      obtain ⟨v, hu, hv'⟩ := hx
      have hrun : (execOp a.eval o).run P w = .halt (.panic (.iface t v)) w := by
        simp [execOp, hop, hu, Instr.panic]
      unfold Oper.wp
      rw [hrun]
      exact hp _ _ rfl E w (.iface t v) Evo.rfl g (by simp only [Rel]; exact ⟨v, rfl, hv'⟩)
    · cases h
  case h_22 hop => exact done (opMakeSlice_did g hρ hop h)
  case h_23 hop => exact done (opMakeMap_did g hρ hop h)
  case h_24 hop => exact done (opMapUpdate_did g hρ (.inl hop) h)
  case h_25 hop => exact done (opMapUpdate_did g hρ (.inr hop) h)
  case h_26 hop => exact done (opLookup_did g hρ hop h)
  case h_27 hop => exact done (opTypeAssert_did g hρ hop h)
  case h_28 => exact done (plainF_did g hρ h)
  case h_29 => exact done (plainF_did g hρ h)
  case h_30 => cases h
end
end Go.Pv
