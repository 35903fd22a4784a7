/- Statements whose order is open: what each gives, and that it may be moved. -/
import Derived.Test.YtpagljdnkolhdaaGreatDoorPv6
import Derived.Orders
set_option linter.unusedSimpArgs false
set_option linter.unusedVariables false
namespace Go.Pv
open Go.RowKit

def putF (f : Nat → PV) (dst : Option Tmp) (p : PV) : Nat → PV := match dst with
  | some d => fun t => if t = d then p else f t
  | none => f
theorem putTr_get {fr : Tr} {n : Nat} (hh : ∀ t, t < n → fr.has t) {dst : Option Tmp} (hd : dstOk n dst = true) (p : PV) : (putTr fr dst p).get = putF fr.get dst p := by
  cases dst with
  | none => rfl
  | some d =>
    simp only [dstOk, Nat.blt_eq] at hd
    funext t
    simp only [putTr, putF]
    split
    · rename_i e; subst e; exact Tr.get_set _ _ _ (hh t hd)
    · rename_i e; exact Tr.get_set_ne _ _ _ _ e
def appG (e : Eff) (x : FG) : FG := (putF x.1 e.dst e.p, updG x.2 e.ws)
def HasEff (P : Program) (call : Callee) (n : Nat) (ops : Array Oper) (o : Oper) (x : FG) (e : Eff) : Prop := opEff P call n ops o x = some (false, e) ∧ dstOk n e.dst = true

structure InvG (ds : List Deferred) (fx : List (Nat × Nat × Value)) (w0 : World) (E0 : Env) (G0 : Get) (n : Nat) (w : World) (E : Env) (a : Act) (x : FG) : Prop where
  good : Good w E x.2
  fix : Fix fx w E
  fr : ∀ t, Rel w E x.2 (x.1 t) (a.tmps.getD t undef)
  size : a.tmps.size = n
  defers : a.defers = ds
  evo : Evo w0 E0 G0 w E x.2

section
variable {P : Program} {call : Callee} {n : Nat} {ops : Array Oper} {o : Oper}
theorem putF_rel {w : World} {E : Env} {G : Get} {f : Nat → PV} {a : Act} {dst : Option Tmp} {p : PV} {v : Value} (h : ∀ t, Rel w E G (f t) (a.tmps.getD t undef)) (hs : a.tmps.size = n) (hd : dstOk n dst = true) (r : Rel w E G p v) :
    ∀ t, Rel w E G (putF f dst p t) ((a.put dst v).tmps.getD t undef) := by
  intro t
  cases dst with
  | none => exact h t
  | some d =>
    simp only [dstOk, Nat.blt_eq] at hd
    simp only [putF, Act.put]
    split
    · rename_i e
      subst e
      have : (a.tmps.setIfInBounds t v).getD t undef = v := by simp [Array.getD_eq_getD_getElem?, hs, hd]
      rw [this]
      exact r
    · rename_i e
      have : (a.tmps.setIfInBounds d v).getD t undef = a.tmps.getD t undef := by simp [Array.getD_eq_getD_getElem?, Array.getElem?_setIfInBounds, Ne.symm e]
      rw [this]
      exact h t
theorem hasEff_sound {fx : List (Nat × Nat × Value)} {ds : List Deferred} (HC : CallOk P fx call) {w0 : World} {E0 : Env} {G0 : Get} {w : World} {E : Env} {a : Act} {x : FG} (I : InvG ds fx w0 E0 G0 n w E a x) {e : Eff} (h : HasEff P call n ops o x e) {K : Act → World → Prop} {Q : Exit → Act → World → Prop}
    (hk : ∀ w' E' a', InvG ds fx w0 E0 G0 n w' E' a' (appG e x) → K a' w') : if Region.wanted o (yielded ops a.tmps) then o.wp P a w K Q else K (a.put o.dst undef) w := by
  obtain ⟨h, hd⟩ := h
  unfold opEff at h
  split at h
  · cases h
  · rename_i hb
    rw [wanted_rel I.fr I.size hb]
    cases h
    simp only [Bool.false_eq_true, if_false]
    exact hk w E _ ⟨I.good, I.fix, putF_rel I.fr I.size hd undef_rel, by rw [put_size]; exact I.size, by rw [put_defers']; exact I.defers, I.evo⟩
  · rename_i hb
    rw [wanted_rel I.fr I.size hb]
    simp only [if_true]
    split at h
    · cases h
    · rename_i p ws hr
      cases h
      refine opEval_sound HC I.good I.fix (eval_rel I.fr) hr ?_ ?_
      · intro p' ws' er E' w' u M g' rp
        cases er
        exact hk w' E' _ ⟨g', I.fix.mono M.toMono, putF_rel (fun t => Rel.mono M.toMono _ _ (I.fr t)) I.size hd rp, by rw [put_size]; exact I.size, by rw [put_defers']; exact I.defers, I.evo.trans M⟩
      · intro p' ws' er; cases er
    · cases h

theorem wantedP_congr {x y : FG} (h : ∀ d ∈ o.looksAt ops, x.1 d = y.1 d) : wantedP n ops x.1 o = wantedP n ops y.1 o := by
  unfold wantedP
  cases hg : o.guard with
  | none => rfl
  | some q =>
    obtain ⟨j, want⟩ := q
    simp only
    cases hd : (ops[j]?).bind (·.dst) with
    | none => rfl
    | some d =>
      simp only
      rw [h d (by simp only [Oper.looksAt, hg, hd, List.mem_append]; exact .inr (by simp))]
theorem evalP_congr {x y : FG} (h : ∀ d ∈ o.looksAt ops, x.1 d = y.1 d) : ∀ z ∈ o.op.operands, evalP x.1 z = evalP y.1 z := by
  intro z hz
  cases z with
  | tmp t =>
    have : t ∈ o.looksAt ops := by
      simp only [Oper.looksAt, List.mem_append, List.mem_filterMap]
      exact .inl ⟨.tmp t, Array.mem_toList_iff.2 hz, rfl⟩
    simp only [evalP, h t this]
  | _ => rfl
theorem hasEff_congr {x y : FG} {e : Eff} {wb : Bool} (hw : wantedP n ops x.1 o = some wb) (h : ∀ d ∈ o.looksAt ops, x.1 d = y.1 d) (hk : ∀ k ∈ (footP P x.2 o (evalP x.1) wb e).kr, x.2 k = y.2 k) (he : HasEff P call n ops o x e) : HasEff P call n ops o y e := by
  obtain ⟨he, hd⟩ := he
  refine ⟨?_, hd⟩
  unfold opEff at he ⊢
  rw [← wantedP_congr h, hw]
  rw [hw] at he
  cases wb with
  | false => exact he
  | true =>
    simp only at he ⊢
    split at he
    · cases he
    · rename_i p ws hr
      cases he
      have := opEval_congr (P := P) (call := call) (evalP_congr h) hr (fun k hk' => hk k (by simpa [footP, wsOf] using hk'))
      rw [this]
    · cases he
theorem hasPan_congr {x y : FG} {p : PV} {ws : List (Key × Nat × Ent)} {wb : Bool} (hw : wantedP n ops x.1 o = some wb) (h : ∀ d ∈ o.looksAt ops, x.1 d = y.1 d) (hk : ∀ k ∈ (footP P x.2 o (evalP x.1) wb ⟨none, p, ws⟩).kr, x.2 k = y.2 k) (he : opEff P call n ops o x = some (true, ⟨none, p, ws⟩)) : opEff P call n ops o y = some (true, ⟨none, p, ws⟩) := by
  unfold opEff at he ⊢
  rw [← wantedP_congr h, hw]
  rw [hw] at he
  cases wb with
  | false => cases he
  | true =>
    simp only at he ⊢
    split at he
    · cases he
    · cases he
    · rename_i p ws hr
      cases he
      have := opEval_congr (P := P) (call := call) (evalP_congr h) hr (fun k hk' => hk k (by simpa [footP, wsOf] using hk'))
      rw [this]
theorem hasPan_sound {fx : List (Nat × Nat × Value)} {ds : List Deferred} (HC : CallOk P fx call) {w0 : World} {E0 : Env} {G0 : Get} {w : World} {E : Env} {a : Act} {x : FG} (I : InvG ds fx w0 E0 G0 n w E a x) {p : PV} (h : opEff P call n ops o x = some (true, ⟨none, p, []⟩)) {K : Act → World → Prop} {Q : Exit → Act → World → Prop}
    (hq : ∀ w' E' u, InvG ds fx w0 E0 G0 n w' E' a x → Rel w' E' x.2 p u → Q (.panic [{ v := u, recovered := false }]) a w') : if Region.wanted o (yielded ops a.tmps) then o.wp P a w K Q else K (a.put o.dst undef) w := by
  unfold opEff at h
  split at h
  · cases h
  · cases h
  · rename_i hb
    rw [wanted_rel I.fr I.size hb]
    simp only [if_true]
    split at h
    · cases h
    · cases h
    · rename_i p ws hr
      cases h
      refine opEval_sound HC I.good I.fix (eval_rel I.fr) hr ?_ ?_
      · intro p' ws' er; cases er
      · intro p' ws' er E' w' u M g' rp
        cases er
        simp only [updG_nil] at M g' rp
        exact hq w' E' u ⟨g', I.fix.mono M.toMono, fun t => Rel.mono M.toMono _ _ (I.fr t), I.size, I.defers, I.evo.trans M⟩ rp
theorem hasEff_dst {x : FG} {e : Eff} (he : HasEff P call n ops o x e) : e.dst = o.dst := by
  obtain ⟨he, _⟩ := he
  unfold opEff at he
  split at he
  · cases he
  · cases he; rfl
  · split at he
    · cases he
    · cases he; rfl
    · cases he
end

/-- The effects of those operations that S picks, in the order of the text. -/
def applyS : (Nat → Bool) → List Eff → FG → FG
  | _, [], x => x
  | S, e :: es, x => applyS (fun k => S (k + 1)) es (if S 0 then appG e x else x)

theorem putF_same (f : Nat → PV) (t : Tmp) (p : PV) : putF f (some t) p t = p := by simp [putF]
theorem putF_other (f : Nat → PV) {d : Option Tmp} {t : Tmp} (h : d ≠ some t) (p : PV) : putF f d p t = f t := by
  cases d with
  | none => rfl
  | some d => simp only [putF]; rw [if_neg (fun e => h (by rw [e]))]
theorem updG_point {G G' : Get} {k : Key} : ∀ (ws : List (Key × Nat × Ent)), (k ∉ ws.map (·.1) → G k = G' k) → updG G ws k = updG G' ws k := by
  intro ws
  induction ws generalizing G G' with
  | nil => intro h; exact h (by simp)
  | cons x ws ih =>
    intro h
    rw [updG_cons, updG_cons]
    refine ih fun hn => ?_
    unfold upd1
    split
    · rfl
    · rename_i hne
      exact h (by simp only [List.map_cons, List.mem_cons, not_or]; exact ⟨hne, hn⟩)

theorem applyS_none : ∀ (es : List Eff) (S : Nat → Bool) (x : FG), (∀ j, S j = false) → applyS S es x = x
  | [], _, _, _ => rfl
  | e :: es, S, x, h => by
    simp only [applyS, h 0, Bool.false_eq_true, if_false]
    exact applyS_none es _ x fun j => h (j + 1)
theorem agree_slot {t : Tmp} : ∀ (es : List Eff) (S S' : Nat → Bool) (x y : FG), x.1 t = y.1 t → (∀ (j : Nat) (e : Eff), es[j]? = some e → e.dst = some t → S j = S' j) →
    (applyS S es x).1 t = (applyS S' es y).1 t
  | [], _, _, _, _, h, _ => h
  | e :: es, S, S', x, y, h, hS => by
    simp only [applyS]
    refine agree_slot es _ _ _ _ ?_ fun j e' he hd => hS (j + 1) e' (by simpa using he) hd
    by_cases hd : e.dst = some t
    · rw [hS 0 e rfl hd]
      split
      · simp only [appG, hd, putF_same]
      · exact h
    · have : ∀ (b : Bool) (z : FG), (if b = true then appG e z else z).1 t = z.1 t := by
        intro b z
        split
        · exact putF_other _ hd _
        · rfl
      rw [this, this, h]
theorem agree_key {k : Key} : ∀ (es : List Eff) (S S' : Nat → Bool) (x y : FG), x.2 k = y.2 k → (∀ (j : Nat) (e : Eff), es[j]? = some e → k ∈ e.ws.map (·.1) → S j = S' j) →
    (applyS S es x).2 k = (applyS S' es y).2 k
  | [], _, _, _, _, h, _ => h
  | e :: es, S, S', x, y, h, hS => by
    simp only [applyS]
    refine agree_key es _ _ _ _ ?_ fun j e' he hd => hS (j + 1) e' (by simpa using he) hd
    by_cases hd : k ∈ e.ws.map (·.1)
    · rw [hS 0 e rfl hd]
      split
      · exact updG_point _ fun hn => absurd hd hn
      · exact h
    · have : ∀ (b : Bool) (z : FG), (if b = true then appG e z else z).2 k = z.2 k := by
        intro b z
        split
        · exact updG_out _ _ hd
        · rfl
      rw [this, this, h]
theorem last_slot {t : Tmp} {e0 : Eff} (hd : e0.dst = some t) : ∀ (es : List Eff) (i0 : Nat) (S : Nat → Bool) (x : FG), es[i0]? = some e0 → S i0 = true → (∀ (j : Nat) (e : Eff), i0 < j → es[j]? = some e → e.dst = some t → S j = false) →
    (applyS S es x).1 t = e0.p
  | [], _, _, _, h, _, _ => by simp at h
  | e :: es, 0, S, x, h, hs, hn => by
    simp only [List.getElem?_cons_zero, Option.some.injEq] at h
    subst h
    simp only [applyS, hs, if_true]
    rw [agree_slot es _ (fun _ => false) _ (appG e x) rfl fun j e' he hd' => hn (j + 1) e' (by omega) (by simpa using he) hd', applyS_none _ _ _ fun _ => rfl]
    simp only [appG, hd, putF_same]
  | e :: es, i0 + 1, S, x, h, hs, hn => by
    simp only [applyS]
    exact last_slot hd es i0 _ _ (by simpa using h) hs fun j e' hj he hd' => hn (j + 1) e' (by omega) (by simpa using he) hd'
theorem last_key {k : Key} {e0 : Eff} (hd : k ∈ e0.ws.map (·.1)) (G : Get) : ∀ (es : List Eff) (i0 : Nat) (S : Nat → Bool) (x : FG), es[i0]? = some e0 → S i0 = true → (∀ (j : Nat) (e : Eff), i0 < j → es[j]? = some e → k ∈ e.ws.map (·.1) → S j = false) →
    (applyS S es x).2 k = updG G e0.ws k
  | [], _, _, _, h, _, _ => by simp at h
  | e :: es, 0, S, x, h, hs, hn => by
    simp only [List.getElem?_cons_zero, Option.some.injEq] at h
    subst h
    simp only [applyS, hs, if_true]
    rw [agree_key es _ (fun _ => false) _ (appG e x) rfl fun j e' he hd' => hn (j + 1) e' (by omega) (by simpa using he) hd', applyS_none _ _ _ fun _ => rfl]
    exact updG_point _ fun hn => absurd hd hn
  | e :: es, i0 + 1, S, x, h, hs, hn => by
    simp only [applyS]
    exact last_key hd G es i0 _ _ (by simpa using h) hs fun j e' hj he hd' => hn (j + 1) e' (by omega) (by simpa using he) hd'

/-- One more operation, carried out behind those of S. -/
theorem insert_eff {es : List Eff} {i0 : Nat} {e0 : Eff} {S S' : Nat → Bool} {x : FG} (h0 : es[i0]? = some e0) (hS0 : S i0 = false) (hS' : ∀ j, S' j = (S j || j == i0))
    (hsl : ∀ (j : Nat) (e : Eff), i0 < j → es[j]? = some e → S j = true → ∀ t, e0.dst = some t → e.dst ≠ some t) (hky : ∀ (j : Nat) (e : Eff), i0 < j → es[j]? = some e → S j = true → ∀ k ∈ e0.ws.map (·.1), k ∉ e.ws.map (·.1)) :
    applyS S' es x = appG e0 (applyS S es x) := by
  have later : ∀ j, i0 < j → S' j = S j := by
    intro j hj
    rw [hS' j]
    have : (j == i0) = false := by simp; omega
    rw [this, Bool.or_false]
  have h1 : (applyS S' es x).1 = (appG e0 (applyS S es x)).1 := by
    funext t
    by_cases hd : e0.dst = some t
    · rw [last_slot hd es i0 S' x h0 (by rw [hS']; simp) fun j e hj he hde => ?_]
      · simp only [appG, hd, putF_same]
      · rw [later j hj]
        cases hsj : S j with
        | false => rfl
        | true => exact absurd hde (hsl j e hj he hsj t hd)
    · rw [show (appG e0 (applyS S es x)).1 t = (applyS S es x).1 t from putF_other _ hd _]
      refine agree_slot es _ _ _ _ rfl fun j e he hde => ?_
      rw [hS' j]
      have : (j == i0) = false := by
        simp only [beq_eq_false_iff_ne, ne_eq]
        rintro rfl
        rw [h0] at he
        cases he
        exact hd hde
      rw [this, Bool.or_false]
  have h2 : (applyS S' es x).2 = (appG e0 (applyS S es x)).2 := by
    funext k
    by_cases hd : k ∈ e0.ws.map (·.1)
    · rw [last_key hd (applyS S es x).2 es i0 S' x h0 (by rw [hS']; simp) fun j e hj he hde => ?_]
      · rfl
      · rw [later j hj]
        cases hsj : S j with
        | false => rfl
        | true => exact absurd hde (hky j e hj he hsj k hd)
    · rw [show (appG e0 (applyS S es x)).2 k = (applyS S es x).2 k from updG_out _ _ hd]
      refine agree_key es _ _ _ _ rfl fun j e he hde => ?_
      rw [hS' j]
      have : (j == i0) = false := by
        simp only [beq_eq_false_iff_ne, ne_eq]
        rintro rfl
        rw [h0] at he
        cases he
        exact hd hde
      rw [this, Bool.or_false]
  exact Prod.ext h1 h2

section
variable {P : Program} {call : Callee} {ops : Array Oper}
/-- The run in the order of the text, operation by operation. -/
theorem foot_run : ∀ (l : List Oper) (s t : St) (fs : List FP), (∀ t, t < s.n → s.fr.has t) → evFoot P call ops l s = some (fs, t) → ∃ es : List Eff, es.length = l.length ∧ fs.length = l.length ∧ t.n = s.n ∧ (∀ d, d < t.n → t.fr.has d) ∧
    (t.fr.get, t.sto.get) = applyS (fun _ => true) es (s.fr.get, s.sto.get) ∧
    ∀ (j : Nat) (o : Oper), l[j]? = some o → ∃ e wb, es[j]? = some e ∧ wantedP s.n ops (applyS (fun i => decide (i < j)) es (s.fr.get, s.sto.get)).1 o = some wb ∧ HasEff P call s.n ops o (applyS (fun i => decide (i < j)) es (s.fr.get, s.sto.get)) e ∧
      fs[j]? = some (footP P (applyS (fun i => decide (i < j)) es (s.fr.get, s.sto.get)).2 o (evalP (applyS (fun i => decide (i < j)) es (s.fr.get, s.sto.get)).1) wb e)
  | [], s, t, fs, hh, h => by
    simp only [evFoot, Option.some.injEq, Prod.mk.injEq] at h
    obtain ⟨rfl, rfl⟩ := h
    exact ⟨[], rfl, rfl, rfl, hh, rfl, fun j o h => by simp at h⟩
  | o :: l, s, t, fs, hh, h => by
    simp only [evFoot, Option.bind_eq_bind, Option.bind_eq_some_iff] at h
    obtain ⟨wb, hw, ⟨pan, e⟩, he, h⟩ := h
    split at h
    case isFalse => cases h
    rename_i hc
    simp only [Bool.and_eq_true, Bool.not_eq_true'] at hc
    obtain ⟨⟨hpan, hv⟩, hd⟩ := hc
    subst hpan
    rw [putK_eq, putsK_eq] at h
    split at h
    case h_2 => cases h
    rename_i fs' t' hr
    simp only [Option.some.injEq, Prod.mk.injEq] at h
    obtain ⟨rfl, rfl⟩ := h
    have hs1 : ((putTr s.fr e.dst e.p).get, (s.sto.puts e.ws).get) = appG e (s.fr.get, s.sto.get) := by
      simp only [appG, putTr_get hh hd, puts_get e.ws s.sto hv]
    obtain ⟨es, h1, h2, hn, hh', h3, h4⟩ := foot_run l ⟨s.n, putTr s.fr e.dst e.p, s.sto.puts e.ws⟩ t' fs' (putTr_has hh _ _) hr
    simp only [hs1] at h3 h4
    refine ⟨e :: es, by simp [h1], by simp [h2], hn, hh', by simp only [applyS, if_true]; exact h3, ?_⟩
    intro j o' hj
    cases j with
    | zero =>
      simp only [List.getElem?_cons_zero, Option.some.injEq] at hj
      subst hj
      have : applyS (fun i => decide (i < 0)) (e :: es) (s.fr.get, s.sto.get) = (s.fr.get, s.sto.get) := applyS_none _ _ _ fun j => by simp
      rw [this]
      exact ⟨e, wb, rfl, hw, ⟨he, hd⟩, rfl⟩
    | succ j =>
      obtain ⟨e', wb', k1, k2, k3, k4⟩ := h4 j o' (by simpa using hj)
      have : applyS (fun i => decide (i < j + 1)) (e :: es) (s.fr.get, s.sto.get) = applyS (fun i => decide (i < j)) es (appG e (s.fr.get, s.sto.get)) := by
        simp only [applyS, Nat.zero_lt_succ, decide_true, if_true, Nat.add_lt_add_iff_right]
      rw [this]
      exact ⟨e', wb', by simpa using k1, k2, k3, by simpa using k4⟩

/-- Without a panic it is the run in the order of the text. -/
theorem footX_none : ∀ (l : List Oper) (as : List Nat) (i : Nat) (s t : St) (fs : List FP) (pan : Option (Nat × PV)), evFootX P call ops l as i pan s = some (fs, none, t) → pan = none ∧ evFoot P call ops l s = some (fs, t)
  | [], as, i, s, t, fs, pan, h => by
    simp only [evFootX, Option.some.injEq, Prod.mk.injEq] at h
    obtain ⟨rfl, rfl, rfl⟩ := h
    exact ⟨rfl, rfl⟩
  | o :: l, as, i, s, t, fs, pan, h => by
    unfold evFootX at h
    split at h
    · rename_i hd
      split at h
      · rename_i l' r hr
        simp only [Option.some.injEq, Prod.mk.injEq] at h
        obtain ⟨rfl, rfl⟩ := h
        obtain ⟨rfl, _⟩ := footX_none l _ _ _ _ _ _ hr
        simp at hd
      · cases h
    · split at h
      · cases h
      · rename_i w hw
        split at h
        · cases h
        · rename_i dst p ws he
          split at h
          · rename_i hv hdk
            rw [putK_eq, putsK_eq] at h
            split at h
            · rename_i l' r hr
              simp only [Option.some.injEq, Prod.mk.injEq] at h
              obtain ⟨rfl, rfl⟩ := h
              obtain ⟨rfl, h2⟩ := footX_none l _ _ _ _ _ _ hr
              refine ⟨rfl, ?_⟩
              simp only [evFoot, hw, he, hv, hdk, Option.bind_eq_bind, Option.bind_some, putK_eq, putsK_eq, h2]
              rfl
            · cases h
          · cases h
        · rename_i dst p ws he
          split at h
          · split at h
            · rename_i l' r hr
              simp only [Option.some.injEq, Prod.mk.injEq] at h
              obtain ⟨rfl, rfl⟩ := h
              obtain ⟨h1, _⟩ := footX_none l _ _ _ _ _ _ hr
              cases h1
            · cases h
          · cases h

/-- An effect that is none. -/
def noEff : Eff := ⟨none, .any, []⟩
theorem appG_noEff (x : FG) : appG noEff x = x := rfl
/-- A panic stays the one that it is. -/
theorem footX_keep : ∀ (l : List Oper) (as : List Nat) (i0 : Nat) (s t : St) (fs : List FP) (x y : Nat × PV), evFootX P call ops l as i0 (some x) s = some (fs, some y, t) → x = y
  | [], as, i0, s, t, fs, x, y, h => by
    simp only [evFootX, Option.some.injEq, Prod.mk.injEq] at h
    exact h.2.1
  | o :: l, as, i0, s, t, fs, x, y, h => by
    unfold evFootX at h
    split at h
    · split at h
      · rename_i l' r hr
        simp only [Option.some.injEq, Prod.mk.injEq] at h
        obtain ⟨rfl, rfl⟩ := h
        exact footX_keep l _ _ _ _ _ _ _ hr
      · cases h
    · split at h
      · cases h
      · split at h
        · cases h
        · split at h
          · rw [putK_eq, putsK_eq] at h
            split at h
            · rename_i l' r hr
              simp only [Option.some.injEq, Prod.mk.injEq] at h
              obtain ⟨rfl, rfl⟩ := h
              exact footX_keep l _ _ _ _ _ _ _ hr
            · cases h
          · cases h
        · split at h
          · contradiction
          · cases h
/-- A panic that comes has a number from here on. -/
theorem footX_later : ∀ (l : List Oper) (as : List Nat) (i0 : Nat) (s t : St) (fs : List FP) (i : Nat) (p : PV), evFootX P call ops l as i0 none s = some (fs, some (i, p), t) → i0 ≤ i
  | [], as, i0, s, t, fs, i, p, h => by
    simp only [evFootX, Option.some.injEq, Prod.mk.injEq] at h
    cases h.2.1
  | o :: l, as, i0, s, t, fs, i, p, h => by
    unfold evFootX at h
    split at h
    · rename_i hd; cases hd
    · split at h
      · cases h
      · split at h
        · cases h
        · split at h
          · rw [putK_eq, putsK_eq] at h
            split at h
            · rename_i l' r hr
              simp only [Option.some.injEq, Prod.mk.injEq] at h
              obtain ⟨rfl, rfl⟩ := h
              have := footX_later l _ _ _ _ _ _ _ hr
              omega
            · cases h
          · cases h
        · split at h
          · split at h
            · rename_i l' r hr
              simp only [Option.some.injEq, Prod.mk.injEq] at h
              obtain ⟨rfl, rfl⟩ := h
              have := footX_keep l _ _ _ _ _ _ _ hr
              cases this
              exact Nat.le_refl _
            · cases h
          · cases h
/-- What stands of the operation with the number j, if the one with the number i panics. -/
def Stands (P : Program) (call : Callee) (n : Nat) (ops : Array Oper) (i : Nat) (p : PV) (dead : Bool) (j : Nat) (o : Oper) (x : FG) (e : Eff) (f : FP) : Prop :=
  if j = i then e = noEff ∧ ∃ wb, wantedP n ops x.1 o = some wb ∧ opEff P call n ops o x = some (true, ⟨none, p, []⟩) ∧ f = footP P x.2 o (evalP x.1) wb ⟨none, p, []⟩
  else if dead then e = noEff ∧ f = ⟨[], []⟩
  else ∃ wb, wantedP n ops x.1 o = some wb ∧ HasEff P call n ops o x e ∧ f = footP P x.2 o (evalP x.1) wb e
theorem footX_run (i : Nat) (p : PV) : ∀ (l : List Oper) (as : List Nat) (i0 : Nat) (s t : St) (fs : List FP) (pan : Option (Nat × PV)), (∀ t, t < s.n → s.fr.has t) → as.length = l.length → evFootX P call ops l as i0 pan s = some (fs, some (i, p), t) → (pan = none ∧ i0 ≤ i) ∨ (pan = some (i, p) ∧ i < i0) →
    (pan = none → i < i0 + l.length) ∧ ∃ es : List Eff, es.length = l.length ∧ fs.length = l.length ∧ t.n = s.n ∧
    (t.fr.get, t.sto.get) = applyS (fun _ => true) es (s.fr.get, s.sto.get) ∧
    ∀ (j : Nat) (o : Oper), l[j]? = some o → ∃ e f, es[j]? = some e ∧ fs[j]? = some f ∧ Stands P call s.n ops i p (decide (i < i0 + j) && Nat.testBit (as.getD j 0) i) (i0 + j) o (applyS (fun q => decide (q < j)) es (s.fr.get, s.sto.get)) e f
  | [], as, i0, s, t, fs, pan, hh, hl, h, hp => by
    simp only [evFootX, Option.some.injEq, Prod.mk.injEq] at h
    obtain ⟨rfl, rfl, rfl⟩ := h
    exact ⟨fun h => (by cases h), [], rfl, rfl, rfl, rfl, fun j o h => by simp at h⟩
  | o :: l, as, i0, s, t, fs, pan, hh, hl, h, hp => by
    cases as with
    | nil => simp at hl
    | cons a as =>
    simp only [List.length_cons, Nat.add_right_cancel_iff] at hl
    unfold evFootX at h
    simp only [List.tail_cons, bitAt] at h
    -- what follows, put together
    have join : ∀ (e : Eff) (f : FP) (fs' : List FP) (s1 : St) (pan1 : Option (Nat × PV)), (∀ t, t < s1.n → s1.fr.has t) → s1.n = s.n → (s1.fr.get, s1.sto.get) = appG e (s.fr.get, s.sto.get) → fs = f :: fs' → evFootX P call ops l as (i0 + 1) pan1 s1 = some (fs', some (i, p), t) →
        (pan1 = none ∧ i0 + 1 ≤ i) ∨ (pan1 = some (i, p) ∧ i < i0 + 1) → Stands P call s.n ops i p (decide (i < i0) && Nat.testBit a i) i0 o (s.fr.get, s.sto.get) e f →
        (pan1 = none → i < i0 + (l.length + 1)) ∧ ∃ es : List Eff, es.length = (o :: l).length ∧ fs.length = (o :: l).length ∧ t.n = s.n ∧ (t.fr.get, t.sto.get) = applyS (fun _ => true) es (s.fr.get, s.sto.get) ∧
        ∀ (j : Nat) (o' : Oper), (o :: l)[j]? = some o' → ∃ e f, es[j]? = some e ∧ fs[j]? = some f ∧ Stands P call s.n ops i p (decide (i < i0 + j) && Nat.testBit ((a :: as).getD j 0) i) (i0 + j) o' (applyS (fun q => decide (q < j)) es (s.fr.get, s.sto.get)) e f := by
      intro e f fs' s1 pan1 hh1 hn1 hs1 hfs hr hp1 hst
      obtain ⟨hlt, es, h1, h2, hn, h3, h4⟩ := footX_run i p l as (i0 + 1) s1 t fs' pan1 hh1 hl hr hp1
      simp only [hs1] at h3 h4
      refine ⟨fun hpn => by have := hlt hpn; omega, e :: es, by simp [h1], by simp [hfs, h2], by omega, by simp only [applyS, if_true]; exact h3, ?_⟩
      intro j o' hj
      cases j with
      | zero =>
        simp only [List.getElem?_cons_zero, Option.some.injEq] at hj
        subst hj
        have : applyS (fun q => decide (q < 0)) (e :: es) (s.fr.get, s.sto.get) = (s.fr.get, s.sto.get) := applyS_none _ _ _ fun j => by simp
        rw [this]
        exact ⟨e, f, rfl, by simp [hfs], by simpa using hst⟩
      | succ j =>
        obtain ⟨e', f', k1, k2, k3⟩ := h4 j o' (by simpa using hj)
        have : applyS (fun q => decide (q < j + 1)) (e :: es) (s.fr.get, s.sto.get) = applyS (fun q => decide (q < j)) es (appG e (s.fr.get, s.sto.get)) := by
          simp only [applyS, Nat.zero_lt_succ, decide_true, if_true, Nat.add_lt_add_iff_right]
        rw [this]
        refine ⟨e', f', by simpa using k1, by simp [hfs, k2], ?_⟩
        rw [hn1] at k3
        simpa [Nat.add_assoc, Nat.add_comm 1 j, List.getD_cons_succ] using k3
    split at h
    · rename_i hd
      rcases hp with ⟨rfl, _⟩ | ⟨rfl, hi⟩
      · cases hd
      simp only at hd
      split at h
      · rename_i l' r hr
        simp only [Option.some.injEq, Prod.mk.injEq] at h
        obtain ⟨rfl, rfl⟩ := h
        have := join noEff ⟨[], []⟩ l' s (some (i, p)) hh rfl rfl rfl hr (.inr ⟨rfl, by omega⟩) (by
          unfold Stands
          rw [if_neg (by omega), if_pos (by simp [hd, hi])]
          exact ⟨rfl, rfl⟩)
        exact ⟨fun h => (by cases h), this.2⟩
      · cases h
    · rename_i hd
      have hdead : (decide (i < i0) && Nat.testBit a i) = false := by
        rcases hp with ⟨rfl, hi⟩ | ⟨rfl, hi⟩
        · simp; omega
        · simp only at hd; rw [hd]; simp
      split at h
      · cases h
      · rename_i w hw
        split at h
        · cases h
        · rename_i dst q ws he
          split at h
          · rename_i hv hdk
            rw [putK_eq, putsK_eq] at h
            split at h
            · rename_i l' r hr
              simp only [Option.some.injEq, Prod.mk.injEq] at h
              obtain ⟨rfl, rfl⟩ := h
              have hne : i ≠ i0 := by
                rintro rfl
                rcases hp with ⟨rfl, hi⟩ | ⟨_, hi⟩
                · -- the panic would come later
                  have := footX_later l as (i + 1) _ t l' i p hr
                  omega
                · omega
              have := join ⟨dst, q, ws⟩ _ l' ⟨s.n, putTr s.fr dst q, s.sto.puts ws⟩ pan (putTr_has hh _ _) rfl (by simp only [appG, putTr_get hh hdk, puts_get ws s.sto hv]) rfl hr (by rcases hp with ⟨h1, h2⟩ | ⟨h1, h2⟩ <;> first | exact .inl ⟨h1, by omega⟩ | exact .inr ⟨h1, by omega⟩) (by
                unfold Stands
                rw [if_neg (Ne.symm hne), hdead, if_neg (by simp)]
                exact ⟨w, hw, ⟨he, hdk⟩, rfl⟩)
              exact this
            · cases h
          · cases h
        · rename_i dst q ws he
          split at h
          · split at h
            · rename_i l' r hr
              simp only [Option.some.injEq, Prod.mk.injEq] at h
              obtain ⟨rfl, rfl⟩ := h
              obtain ⟨rfl, rfl⟩ := footX_keep l as (i0 + 1) _ t l' (i0, q) (i, p) hr
              have := join noEff _ l' s (some (i, p)) hh rfl rfl rfl hr (.inr ⟨rfl, by omega⟩) (by
                unfold Stands
                rw [if_pos rfl]
                exact ⟨rfl, w, hw, he, rfl⟩)
              exact ⟨fun _ => by simp, this.2⟩
            · cases h
          · cases h

theorem ancsGo_prefix : ∀ (os : List Oper) (acc : List Nat), ∃ r, ancsGo os acc = acc ++ r ∧ r.length = os.length
  | [], acc => ⟨[], by simp [ancsGo], rfl⟩
  | o :: os, acc => by
    obtain ⟨r, h1, h2⟩ := ancsGo_prefix os (acc ++ [ancOf acc o.after.toList])
    exact ⟨ancOf acc o.after.toList :: r, by simp only [ancsGo]; rw [h1]; simp, by simp [h2]⟩
theorem ancsGo_at : ∀ (os : List Oper) (acc : List Nat) (j : Nat) (o : Oper), os[j]? = some o → ∃ acc', acc'.length = acc.length + j ∧ (∃ r, ancsGo os acc = acc' ++ r) ∧ (ancsGo os acc)[acc.length + j]? = some (ancOf acc' o.after.toList)
  | [], _, _, _, h => by simp at h
  | o :: os, acc, 0, o', h => by
    simp only [List.getElem?_cons_zero, Option.some.injEq] at h
    subst h
    obtain ⟨r, h1, _⟩ := ancsGo_prefix os (acc ++ [ancOf acc o.after.toList])
    refine ⟨acc, rfl, ⟨ancOf acc o.after.toList :: r, by simp only [ancsGo]; rw [h1]; simp⟩, ?_⟩
    simp only [ancsGo]
    rw [h1]
    simp
  | o :: os, acc, j + 1, o', h => by
    obtain ⟨acc', h1, h2, h3⟩ := ancsGo_at os (acc ++ [ancOf acc o.after.toList]) j o' (by simpa using h)
    simp only [List.length_append, List.length_singleton] at h1 h3
    exact ⟨acc', by omega, by simpa only [ancsGo] using h2, by simp only [ancsGo]; rw [show acc.length + (j + 1) = acc.length + 1 + j by omega]; exact h3⟩
theorem bit_shift (a i : Nat) : Nat.testBit (Nat.shiftLeft 1 a) i = decide (a = i) := by
  show Nat.testBit (1 <<< a) i = _
  rw [Nat.shiftLeft_eq, Nat.one_mul, Nat.testBit_two_pow]
theorem bit_lor (a b i : Nat) : Nat.testBit (Nat.lor a b) i = (Nat.testBit a i || Nat.testBit b i) := Nat.testBit_or a b i
theorem bit_land (a b i : Nat) : Nat.testBit (Nat.land a b) i = (Nat.testBit a i && Nat.testBit b i) := Nat.testBit_and a b i
theorem ancOf_bit {acc : List Nat} {i : Nat} : ∀ {es : List Edge}, Nat.testBit (ancOf acc es) i = true → ∃ e ∈ es, Region.binds .any e = true ∧ (i = e.on ∨ Nat.testBit (acc.getD e.on 0) i = true)
  | [], h => by simp [ancOf] at h
  | e :: es, h => by
    simp only [ancOf] at h
    split at h
    · rename_i hb
      rw [bit_lor, bit_lor, bit_shift] at h
      simp only [Bool.or_eq_true, decide_eq_true_eq] at h
      rcases h with (h | h) | h
      · exact ⟨e, by simp, hb, .inl h.symm⟩
      · exact ⟨e, by simp, hb, .inr h⟩
      · obtain ⟨e', h1, h2⟩ := ancOf_bit h
        exact ⟨e', by simp [h1], h2⟩
    · obtain ⟨e', h1, h2⟩ := ancOf_bit h
      exact ⟨e', by simp [h1], h2⟩
theorem anc_spec {j : Nat} {o : Oper} (h : ops.toList[j]? = some o) (hb : ∀ e ∈ o.after.toList, Region.binds .any e = true → e.on < j) {i : Nat} (hi : Nat.testBit ((ancs ops).getD j 0) i = true) :
    ∃ e ∈ o.after.toList, Region.binds .any e = true ∧ (i = e.on ∨ Nat.testBit ((ancs ops).getD e.on 0) i = true) := by
  obtain ⟨acc', h1, ⟨r, h2⟩, h3⟩ := ancsGo_at ops.toList [] j o h
  simp only [List.length_nil, Nat.zero_add] at h1 h3
  unfold ancs at hi ⊢
  rw [List.getD_eq_getElem?_getD, h3, Option.getD_some] at hi
  obtain ⟨e, he, hbe, hi⟩ := ancOf_bit hi
  refine ⟨e, he, hbe, ?_⟩
  rcases hi with rfl | hi
  · exact .inl rfl
  · refine .inr ?_
    have hlt := hb e he hbe
    rw [h2, List.getD_eq_getElem?_getD, List.getElem?_append_left (by omega), ← List.getD_eq_getElem?_getD]
    exact hi

theorem mask_bit {t : Nat} : ∀ {l : List Nat}, t ∈ l → Nat.testBit (maskOf l) t = true
  | a :: l, h => by
    simp only [maskOf]
    rw [bit_lor, bit_shift]
    rcases List.mem_cons.1 h with rfl | h
    · simp
    · simp [mask_bit h]
theorem mask_apart {a b : List Nat} (h : Nat.beq (Nat.land (maskOf a) (maskOf b)) 0 = true) {t : Nat} (ha : t ∈ a) : t ∉ b := by
  intro hb
  have e : Nat.land (maskOf a) (maskOf b) = 0 := Nat.eq_of_beq_eq_true h
  have := bit_land (maskOf a) (maskOf b) t
  rw [e, mask_bit ha, mask_bit hb] at this
  simp at this
theorem oneSlots_at {b : Nat × Nat} {anc : Nat} : ∀ {l : List (Nat × Nat)} {i : Nat}, oneSlots b anc l i = true → ∀ (q : Nat) (a : Nat × Nat), l[q]? = some a → Nat.testBit anc (i + q) = true ∨ slotsApart a b = true
  | [], _, _, q, a, hq => by simp at hq
  | x :: l, i, h, q, a, hq => by
    simp only [oneSlots] at h
    split at h
    · rename_i ht
      cases q with
      | zero => exact .inl ht
      | succ q =>
        have := oneSlots_at h q a (by simpa using hq)
        rwa [show i + 1 + q = i + (q + 1) by omega] at this
    · split at h
      · rename_i hs
        cases q with
        | zero => simp only [List.getElem?_cons_zero, Option.some.injEq] at hq; subst hq; exact .inr hs
        | succ q =>
          have := oneSlots_at h q a (by simpa using hq)
          rwa [show i + 1 + q = i + (q + 1) by omega] at this
      · cases h
theorem slotsOk_at : ∀ {as : List Nat} {fs done : List (Nat × Nat)}, slotsOk as fs done = true → ∀ (j : Nat) (b : Nat × Nat), fs[j]? = some b → ∀ (q : Nat) (a : Nat × Nat), (done ++ fs)[q]? = some a → q < done.length + j → Nat.testBit (as.getD j 0) q = true ∨ slotsApart a b = true
  | _, [], _, _, j, b, hb, _, _, _, _ => by simp at hb
  | [], _ :: _, _, h, _, _, _, _, _, _, _ => by simp [slotsOk] at h
  | anc :: as, x :: fs, done, h, j, b, hb, q, a, ha, hq => by
    simp only [slotsOk] at h
    split at h
    case h_2 => cases h
    rename_i h1
    cases j with
    | zero =>
      simp only [List.getElem?_cons_zero, Option.some.injEq] at hb
      subst hb
      rw [List.getElem?_append_left (by omega)] at ha
      have := oneSlots_at h1 q a ha
      simpa using this
    | succ j =>
      have := slotsOk_at h j b (by simpa using hb) q a (by simpa using ha) (by simp; omega)
      simpa using this

theorem oneKeys_at {b : FP} {anc : Nat} : ∀ {l : List (Nat × FP)}, oneKeys b anc l = true → ∀ x ∈ l, Nat.testBit anc x.1 = true ∨ x.2.indep b = true
  | [], _, x, hx => by cases hx
  | (i, a) :: l, h, x, hx => by
    simp only [oneKeys] at h
    split at h
    · rename_i ht
      rcases List.mem_cons.1 hx with rfl | hx
      · exact .inl ht
      · exact oneKeys_at h x hx
    · split at h
      · rename_i hs
        rcases List.mem_cons.1 hx with rfl | hx
        · exact .inr hs
        · exact oneKeys_at h x hx
      · cases h
theorem apart_nil (a : List Key) : apartKeys a [] = true := by simp [apartKeys]
theorem nil_apart (a : List Key) : apartKeys [] a = true := rfl
theorem keysOk_at : ∀ {as : List Nat} {fs done : List FP} {ws rs : List (Nat × FP)}, (∀ (q : Nat) (a : FP), done[q]? = some a → (a.kr = [] ∧ a.kw = [] ∨ (q, a) ∈ rs) ∧ (a.kw = [] ∨ (q, a) ∈ ws)) → keysOk as fs done.length ws rs = true →
    ∀ (j : Nat) (b : FP), fs[j]? = some b → ∀ (q : Nat) (a : FP), (done ++ fs)[q]? = some a → q < done.length + j → Nat.testBit (as.getD j 0) q = true ∨ a.indep b = true
  | _, [], _, _, _, _, _, j, b, hb, _, _, _, _ => by simp at hb
  | [], _ :: _, _, _, _, _, h, _, _, _, _, _, _, _ => by simp [keysOk] at h
  | anc :: as, x :: fs, done, ws, rs, hinv, h, j, b, hb, q, a, ha, hq => by
    -- what is known of the pairs with x, and the run behind x
    have key : ∃ ws' rs', (∀ (q : Nat) (a : FP), done[q]? = some a → Nat.testBit anc q = true ∨ a.indep x = true) ∧ keysOk as fs (done.length + 1) ws' rs' = true ∧
        (∀ y ∈ rs, y ∈ rs') ∧ (∀ y ∈ ws, y ∈ ws') ∧ (x.kr = [] ∧ x.kw = [] ∨ (done.length, x) ∈ rs') ∧ (x.kw = [] ∨ (done.length, x) ∈ ws') := by
      simp only [keysOk] at h
      split at h
      · rename_i h1 h2
        refine ⟨ws, rs, fun q a _ => .inr ?_, h, fun _ h => h, fun _ h => h, .inl ⟨h1, h2⟩, .inl h2⟩
        unfold FP.indep
        rw [h1, h2, apart_nil, nil_apart]; rfl
      · rename_i h2 _
        split at h
        · rename_i h3
          refine ⟨ws, (done.length, x) :: rs, fun q a hqa => ?_, h, fun _ h => List.mem_cons_of_mem _ h, fun _ h => h, .inr (by simp), .inl h2⟩
          rcases (hinv q a hqa).2 with h4 | h4
          · refine .inr ?_
            unfold FP.indep
            rw [h2, h4, nil_apart, nil_apart]; rfl
          · exact oneKeys_at h3 _ h4
        · cases h
      · split at h
        · rename_i h3
          refine ⟨(done.length, x) :: ws, (done.length, x) :: rs, fun q a hqa => ?_, h, fun _ h => List.mem_cons_of_mem _ h, fun _ h => List.mem_cons_of_mem _ h, .inr (by simp), .inr (by simp)⟩
          rcases (hinv q a hqa).1 with ⟨h4, h5⟩ | h4
          · refine .inr ?_
            unfold FP.indep
            rw [h4, h5, apart_nil, nil_apart]; rfl
          · exact oneKeys_at h3 _ h4
        · cases h
    obtain ⟨ws', rs', k1, k2, k3, k4, k5, k6⟩ := key
    cases j with
    | zero =>
      simp only [List.getElem?_cons_zero, Option.some.injEq] at hb
      subst hb
      rw [List.getElem?_append_left (by omega)] at ha
      simpa using k1 q a ha
    | succ j =>
      have hinv' : ∀ (q : Nat) (a : FP), (done ++ [x])[q]? = some a → (a.kr = [] ∧ a.kw = [] ∨ (q, a) ∈ rs') ∧ (a.kw = [] ∨ (q, a) ∈ ws') := by
        intro q a hqa
        by_cases hlt : q < done.length
        · rw [List.getElem?_append_left hlt] at hqa
          obtain ⟨h5, h6⟩ := hinv q a hqa
          exact ⟨h5.imp id (k3 _), h6.imp id (k4 _)⟩
        · rw [List.getElem?_append_right (by omega)] at hqa
          have : q - done.length = 0 := by
            have := (List.getElem?_eq_some_iff.1 hqa).1
            simp at this; omega
          rw [this] at hqa
          simp only [List.getElem?_cons_zero, Option.some.injEq] at hqa
          subst hqa
          have : q = done.length := by omega
          subst this
          exact ⟨k5, k6⟩
      have := keysOk_at (done := done ++ [x]) hinv' (by simpa using k2) j b (by simpa using hb) q a (by simpa using ha) (by simp; omega)
      simpa using this
end
end Go.Pv
namespace Go.Pv
open Go.RowKit

theorem keys_apart {a b : List Key} (h : apartKeys a b = true) {k : Key} (ha : k ∈ a) : k ∉ b := by
  unfold apartKeys at h
  have := List.all_eq_true.1 h k ha
  simpa using this

section
variable {P : Program} {call : Callee} {ops : Array Oper} {w0 : World} {E0 : Env} {G0 : Get} {fx : List (Nat × Nat × Value)} {ds : List Deferred}

theorem zipIdx_all {α : Type} {f : α × Nat → Bool} {l : List α} (h : l.zipIdx.all f = true) {i : Nat} {x : α} (hx : l[i]? = some x) : f (x, i) = true :=
  List.all_eq_true.1 h (x, i) (by rw [List.mem_zipIdx_iff_getElem?]; exact hx)

/-- Two operations that may be exchanged. -/
structure Sep (ops : Array Oper) (o1 o2 : Oper) (f1 f2 : FP) : Prop where
  rw : ∀ t, o1.dst = some t → t ∉ o2.looksAt ops
  wr : ∀ t, o2.dst = some t → t ∉ o1.looksAt ops
  ww : ∀ t, o1.dst = some t → o2.dst ≠ some t
  k1 : ∀ k ∈ f1.kw, k ∉ f2.kr
  k2 : ∀ k ∈ f2.kw, k ∉ f1.kr
theorem Sep.symm {o1 o2 : Oper} {f1 f2 : FP} (h : Sep ops o1 o2 f1 f2) : Sep ops o2 o1 f2 f1 := ⟨h.wr, h.rw, fun t h1 h2 => h.ww t h2 h1, h.k2, h.k1⟩
theorem pair_sep {fs : List FP} (h1 : slotsOk (ancs ops) (ops.toList.map (slotsOf ops)) [] = true) (h2 : keysOk (ancs ops) fs 0 [] [] = true) {q j : Nat} {a b : Oper} {fa fb : FP}
    (ha : ops.toList[q]? = some a) (hb : ops.toList[j]? = some b) (hfa : fs[q]? = some fa) (hfb : fs[j]? = some fb) (hlt : q < j) : Nat.testBit ((ancs ops).getD j 0) q = true ∨ Sep ops a b fa fb := by
  have k1 := slotsOk_at h1 j (slotsOf ops b) (by simp [hb]) q (slotsOf ops a) (by simp [ha]) (by simpa using hlt)
  have k2 := keysOk_at (done := []) (fun q a h => by simp at h) h2 j fb hfb q fa (by simpa using hfa) (by simpa using hlt)
  rcases k1 with k1 | k1
  · exact .inl k1
  · rcases k2 with k2 | k2
    · exact .inl k2
    · refine .inr ?_
      simp only [slotsApart, slotsOf, Bool.and_eq_true] at k1
      simp only [FP.indep, Bool.and_eq_true] at k2
      refine ⟨fun t ht => ?_, fun t ht => ?_, fun t ht ht' => ?_, fun k hk => keys_apart k2.1 hk, fun k hk => keys_apart k2.2 hk⟩
      · exact mask_apart k1.1.1 (by simp [ht])
      · exact mask_apart k1.1.2 (by simp [ht])
      · exact mask_apart k1.2 (t := t) (by simp [ht]) (by simp [ht'])

/-- The count of what is not carried out yet. -/
def unl (n : Nat) (listed : Array Bool) : Nat := (List.range n).countP fun i => !listed.getD i true
theorem getD_set (l : Array Bool) (i j : Nat) (b : Bool) : (l.setIfInBounds i true).getD j b = if j = i ∧ i < l.size then true else l.getD j b := by
  simp only [Array.getD_eq_getD_getElem?, Array.getElem?_setIfInBounds]
  by_cases h : i = j
  · subst h
    by_cases h2 : i < l.size
    · simp [h2]
    · simp [h2]
  · rw [if_neg h, if_neg (fun e => h e.1.symm)]
theorem countP_lt {p q : Nat → Bool} : ∀ (l : List Nat) (i : Nat), i ∈ l → p i = true → q i = false → (∀ j, q j = true → p j = true) → l.countP q < l.countP p
  | [], i, h, _, _, _ => by cases h
  | x :: l, i, h, hp, hq, hs => by
    have hle : l.countP q ≤ l.countP p := List.countP_mono_left fun j _ h => hs j h
    simp only [List.countP_cons]
    rcases List.mem_cons.1 h with rfl | h
    · simp only [hp, hq, if_true, Bool.false_eq_true, if_false]; omega
    · have := countP_lt l i h hp hq hs
      cases hqx : q x with
      | false => simp only [Bool.false_eq_true, if_false]; omega
      | true => simp only [hs x hqx, if_true]; omega

theorem Evo.drew {w : World} {E : Env} {G : Get} {w' : World} {E' : Env} {G' : Get} (h : Evo w E G w' E' G') : Evo w E G { w' with drawn := w'.drawn + 1 } E' G' :=
  { gen := h.gen, keep := h.keep, mapk := h.mapk, cell := h.cell, top := h.top, os := h.os, tape := h.tape, output := h.output, size := h.size, fresh := h.fresh, kept := h.kept, limk := h.limk }
theorem Mono.drew {w : World} {E : Env} {G : Get} : Mono w E G { w with drawn := w.drawn + 1 } E G := (Evo.drew Evo.rfl).toMono
theorem Good.drew {w : World} {E : Env} {G : Get} (h : Good w E G) : Good { w with drawn := w.drawn + 1 } E G :=
  ⟨fun k cs hc => let ⟨vs, t, hh, r, h1, hl⟩ := h.cells k cs hc; ⟨vs, t, hh, r.mono Mono.drew, h1, hl⟩, h.line,
    fun k ks vs hc => let ⟨es, c, hh, hk, r, hl⟩ := h.map k ks vs hc; ⟨es, c, hh, hk, RelL.mono Mono.drew _ _ r, hl⟩, h.inj⟩

theorem Tr.set_no : ∀ (t : Tr) (i : Nat) (p : PV), ¬ t.has i → t.set i p = t
  | .leaf, _, _, _ => rfl
  | .node l x r, 0, p, h => absurd trivial h
  | .node l x r, i + 1, p, h => by
    rw [Tr.set_succ]
    simp only [Tr.has] at h
    split at h
    · rename_i h2; rw [if_pos h2, Tr.set_no l _ p h]
    · rename_i h2; rw [if_neg h2, Tr.set_no r _ p h]
theorem blank_cons (o : Oper) (l : List Oper) (fr : Tr) : blank (o :: l) fr = match o.dst with
    | some d => blank l (fr.set d .any)
    | none => blank l fr := by
  show (match o.dst with | some d => fr.setK d .any (blank l) | none => blank l fr) = _
  cases o.dst with
  | none => rfl
  | some d => simp only [Tr.setK_eq]
theorem blank_has {t : Nat} : ∀ (l : List Oper) (fr : Tr), fr.has t → (blank l fr).has t
  | [], _, h => h
  | o :: l, fr, h => by
    rw [blank_cons]
    split
    · exact blank_has l _ (Tr.has_set _ _ _ _ h)
    · exact blank_has l _ h
theorem blank_any {t : Nat} : ∀ (l : List Oper) (fr : Tr), fr.get t = .any → (blank l fr).get t = .any
  | [], _, h => h
  | o :: l, fr, h => by
    rw [blank_cons]
    split
    · rename_i d _
      refine blank_any l _ ?_
      by_cases e : t = d
      · subst e
        by_cases hh : fr.has t
        · exact Tr.get_set _ _ _ hh
        · rw [Tr.set_no _ _ _ hh]; exact h
      · rw [Tr.get_set_ne _ _ _ _ e]; exact h
    · exact blank_any l _ h
theorem blank_cases {t : Nat} : ∀ (l : List Oper) (fr : Tr), (blank l fr).get t = .any ∨ ((blank l fr).get t = fr.get t ∧ (fr.has t → ∀ o ∈ l, o.dst ≠ some t))
  | [], fr => .inr ⟨rfl, fun _ o h => by cases h⟩
  | o :: l, fr => by
    rw [blank_cons]
    split
    · rename_i d hd
      by_cases e : t = d
      · subst e
        by_cases hh : fr.has t
        · exact .inl (blank_any l _ (Tr.get_set _ _ _ hh))
        · rw [Tr.set_no _ _ _ hh]
          rcases blank_cases (t := t) l fr with h | ⟨h, _⟩
          · exact .inl h
          · exact .inr ⟨h, fun h => absurd h hh⟩
      · rcases blank_cases (t := t) l (fr.set d .any) with h | ⟨h, k⟩
        · exact .inl h
        · refine .inr ⟨by rw [h, Tr.get_set_ne _ _ _ _ e], fun hh o' ho' => ?_⟩
          rcases List.mem_cons.1 ho' with rfl | ho'
          · rw [hd]; intro e2; cases e2; exact e rfl
          · exact k (Tr.has_set _ _ _ _ hh) o' ho'
    · rename_i hd
      rcases blank_cases (t := t) l fr with h | ⟨h, k⟩
      · exact .inl h
      · refine .inr ⟨h, fun hh o' ho' => ?_⟩
        rcases List.mem_cons.1 ho' with rfl | ho'
        · rw [hd]; intro e2; cases e2
        · exact k hh o' ho'
theorem quietOk_at {anc : Nat} {all : List FP} : ∀ (fs : List FP) (j0 : Nat), quietOk anc all fs j0 = true → ∀ (j : Nat) (f : FP), fs[j]? = some f → ∀ k ∈ f.kw, Nat.testBit anc (j0 + j) = true ∨ (Key.own k = true ∧ ∀ (q : Nat) (c : FP), all[q]? = some c → k ∈ c.kw → q = j0 + j)
  | [], _, _, _, _, h, _, _ => by simp at h
  | b :: fs, j0, h, j, f, hj, k, hk => by
    unfold quietOk at h
    cases j with
    | zero =>
      simp only [List.getElem?_cons_zero, Option.some.injEq] at hj
      subst hj
      split at h
      · rename_i e; rw [e] at hk; cases hk
      · rename_i kw _ 
        split at h
        · rename_i hb; exact .inl hb
        · split at h
          · rename_i ha
            have := List.all_eq_true.1 ha k hk
            simp only [Bool.and_eq_true] at this
            refine .inr ⟨this.1, fun q c hc hkc => ?_⟩
            have h2 := zipIdx_all this.2 hc
            simp only [Bool.or_eq_true, Nat.beq_eq, Bool.not_eq_true'] at h2
            rcases h2 with h2 | h2
            · simpa using h2
            · have : c.kw.contains k = true := by simpa using hkc
              rw [this] at h2; cases h2
          · cases h
    | succ j =>
      have hrest : quietOk anc all fs (j0 + 1) = true := by
        split at h
        · exact h
        · split at h
          · exact h
          · split at h
            · exact h
            · cases h
      have := quietOk_at fs (j0 + 1) hrest j f (by simpa using hj) k hk
      rwa [show j0 + 1 + j = j0 + (j + 1) by omega] at this
theorem wiped_mem {anc : Nat} {k : Key} : ∀ (fs : List FP) (j0 : Nat), k ∈ wiped anc fs j0 ↔ ∃ j f, fs[j]? = some f ∧ k ∈ f.kw ∧ Nat.testBit anc (j0 + j) = false
  | [], j0 => by simp [wiped]
  | b :: fs, j0 => by
    have ih := wiped_mem (anc := anc) (k := k) fs (j0 + 1)
    have step : (∃ j f, (b :: fs)[j]? = some f ∧ k ∈ f.kw ∧ Nat.testBit anc (j0 + j) = false) ↔ (k ∈ b.kw ∧ Nat.testBit anc j0 = false) ∨ ∃ j f, fs[j]? = some f ∧ k ∈ f.kw ∧ Nat.testBit anc (j0 + 1 + j) = false := by
      constructor
      · rintro ⟨j, f, h1, h2, h3⟩
        cases j with
        | zero => simp only [List.getElem?_cons_zero, Option.some.injEq] at h1; subst h1; exact .inl ⟨h2, h3⟩
        | succ j => exact .inr ⟨j, f, by simpa using h1, h2, by rwa [show j0 + 1 + j = j0 + (j + 1) by omega]⟩
      · rintro (⟨h1, h2⟩ | ⟨j, f, h1, h2, h3⟩)
        · exact ⟨0, b, rfl, h1, h2⟩
        · exact ⟨j + 1, f, by simpa using h1, h2, by rwa [show j0 + (j + 1) = j0 + 1 + j by omega]⟩
    rw [step, ← ih]
    simp only [wiped]
    split
    · rename_i h; simp [h]
    · rename_i h; simp [h]
/-- Names that are forgotten. -/
theorem forget {w : World} {E : Env} {G G' : Get} (g : Good w E G) (h : ∀ k, G' k = G k ∨ ((G k).1 < (G' k).1 ∧ (G' k).2 = .none)) : Evo w E G w E G' ∧ Good w E G' := by
  have same : ∀ k, (G k).1 = (G' k).1 → G' k = G k := fun k e => by rcases h k with h | ⟨h, _⟩; exact h; omega
  have live : ∀ k, (G' k).2 ≠ .none → G' k = G k := fun k e => by rcases h k with h | ⟨_, h⟩; exact h; exact absurd h e
  have M : Evo w E G w E G' := by
    refine { gen := fun k => by rcases h k with h | ⟨h, _⟩; exact Nat.le_of_eq (by rw [h]); exact Nat.le_of_lt h, keep := ?_, mapk := fun _ _ _ h k => ⟨h, k⟩, cell := fun _ _ _ h k => ⟨h, k⟩, top := ?_, os := rfl, tape := rfl, output := rfl, size := Nat.le_refl _, fresh := ?_, kept := fun _ _ _ => rfl, limk := fun _ _ _ => rfl }
    · intro q e hb
      rw [same q e]
      exact ⟨Ent.alike_boxy hb, rfl, fun _ h => h⟩
    · intro q n el sz e ht
      rw [same q e]
      exact ⟨n, ht, Nat.le_refl _, fun _ => ⟨rfl, rfl, fun arr t hh => ⟨arr, hh, rfl⟩⟩⟩
    · intro q hq
      have e := live q hq
      rw [e] at hq ⊢
      exact .inl ⟨Ent.alike_self hq, rfl⟩
  refine ⟨M, ⟨?_, ?_, ?_, ?_⟩⟩
  · intro q cs hc
    rw [live q (by rw [hc]; simp)] at hc
    obtain ⟨vs, t, hh, r, h1, hl⟩ := g.cells q cs hc
    exact ⟨vs, t, hh, r.mono M.toMono, h1, hl⟩
  · intro q n el sz hc
    rw [live q (by rw [hc]; simp)] at hc
    exact g.line q n el sz hc
  · intro q ks vs hc
    rw [live q (by rw [hc]; simp)] at hc
    obtain ⟨es, c, hh, hk, r, hl⟩ := g.map q ks vs hc
    exact ⟨es, c, hh, hk, RelL.mono M.toMono _ _ r, hl⟩
  · intro q q' h1 h2 e
    rw [live q h1] at h1
    rw [live q' h2] at h2
    exact g.inj q q' h1 h2 e
theorem wipe_get (a b : Get) : ∀ (ks : List Key) (G : Get) (k : Key), updG G (wipe a b ks) k = if k ∈ ks then ((a k).1 + (b k).1 + 1, .none) else G k
  | [], G, k => by simp [wipe]
  | q :: ks, G, k => by
    show updG (upd1 G q _) (wipe a b ks) k = _
    rw [wipe_get a b ks]
    by_cases h : k ∈ ks
    · rw [if_pos h, if_pos (by simp [h])]
    · rw [if_neg h]
      by_cases e : k = q
      · subst e; simp
      · rw [upd1_ne _ _ e, if_neg (by simp [e, h])]

/-- A statement whose order is open and that panics. -/
theorem panic_ok (hm : P.follows .mixedOrders = true) (HC : CallOk P fx call) {s t : St} {fs : List FP} {ip : Nat} {p : PV} (hfoot : evFootX P call ops ops.toList (ancs ops) 0 none s = some (fs, some (ip, p), t)) (hreg : regionOk ops = true)
    (hkeys : keysOk (ancs ops) fs 0 [] [] = true) (hquiet : quietOk ((ancs ops).getD ip 0) fs fs 0 = true) {id : Nat} {w : World} {E : Env} {a : Act} {Q : Exit → Act → World → Prop} (I : Inv ds fx w0 E0 G0 w E a s)
    (hp : Post ds fx w0 E0 G0 Q ⟨s.n, blank ops.toList s.fr, t.sto.puts (wipe s.sto.get t.sto.get (wiped ((ancs ops).getD ip 0) fs 0))⟩ (.panic p)) : (Code.region id ops true).wp P Q a w := by
  unfold regionOk at hreg
  simp only [Bool.and_eq_true] at hreg
  obtain ⟨hback, hslots⟩ := hreg
  have hhas := I.has
  have hal : (ancs ops).length = ops.toList.length := by
    obtain ⟨r, h1, h2⟩ := ancsGo_prefix ops.toList []
    unfold ancs
    rw [h1]
    simpa using h2
  obtain ⟨hip, es, hel, hfl, hn, hfin, hrun⟩ := footX_run ip p ops.toList (ancs ops) 0 s t fs none hhas hal hfoot (.inl ⟨rfl, Nat.zero_le _⟩)
  have hip := hip rfl
  simp only [Nat.zero_add] at hip hrun
  have hbk : ∀ (j : Nat) (o : Oper), ops.toList[j]? = some o → ∀ e ∈ o.after.toList, Region.binds .any e = true → e.on < j := by
    intro j o hj e he hb
    have h1 := zipIdx_all hback hj
    have h2 := List.all_eq_true.1 h1 e he
    simpa [hb] using h2
  refine wp_region_any hm ?_
  -- the state behind the operations that are listed
  have key : ∀ (fuel : Nat) (listed : Array Bool) (a : Act) (w : World) (E : Env), listed.size = ops.size → (∀ j, listed.getD j false = true → ∀ i, Nat.testBit ((ancs ops).getD j 0) i = true → listed.getD i false = true) → listed.getD ip false = false → unl ops.size listed ≤ fuel →
      InvG ds fx w0 E0 G0 s.n w E a (applyS (fun j => listed.getD j false) es (s.fr.get, s.sto.get)) → wpAny P .any ops Q fuel listed a w := by
    have hdone : ∀ (listed : Array Bool), listed.size = ops.size → Region.ready .any ops listed = [] → ∀ j, j < ops.size → listed.getD j false = true := by
      intro listed hsz hr j
      induction j using Nat.strongRecOn with
      | _ j ih =>
        intro hj
        cases hl : listed.getD j false with
        | true => rfl
        | false =>
          exfalso
          have hmem : j ∈ Region.ready .any ops listed := by
            unfold Region.ready
            rw [List.mem_filter]
            refine ⟨List.mem_range.2 hj, ?_⟩
            have ho : ops[j]? = some ops[j] := Array.getElem?_eq_getElem hj
            have hjl : listed.getD j true = false := by
              simp only [Array.getD_eq_getD_getElem?] at hl ⊢
              rw [Array.getElem?_eq_getElem (by omega)] at hl ⊢
              exact hl
            rw [ho, hjl]
            simp only [Bool.not_false, Option.map_some, Option.getD_some, Bool.true_and]
            rw [← Array.all_toList, List.all_eq_true]
            intro e he
            cases hbe : Region.binds .any e with
            | false => rfl
            | true =>
              have hlt := hbk j ops[j] (by simp [hj]) e he hbe
              simp [ih e.on hlt (by omega)]
          rw [hr] at hmem
          cases hmem
    have hnever : ∀ (listed : Array Bool), listed.size = ops.size → Region.ready .any ops listed = [] → listed.getD ip false = false → False := by
      intro listed hsz hr hl
      have := hdone listed hsz hr ip (by simpa using hip)
      rw [hl] at this
      cases this
    intro fuel
    induction fuel with
    | zero =>
      intro listed a w E hsz hcl hlp hu IG
      have hr : Region.ready .any ops listed = [] := by
        cases hr : Region.ready .any ops listed with
        | nil => rfl
        | cons i r =>
          exfalso
          have hi : i ∈ Region.ready .any ops listed := by rw [hr]; simp
          unfold Region.ready at hi
          rw [List.mem_filter] at hi
          have hz : unl ops.size listed = 0 := by omega
          unfold unl at hz
          rw [List.countP_eq_zero] at hz
          have := hz i hi.1
          simp only [Bool.and_eq_true] at hi
          exact this hi.2.1
      exact (hnever listed hsz hr hlp).elim
    | succ fuel ih =>
      intro listed a w E hsz hcl hlp hu IG
      refine ⟨fun hr => (hnever listed hsz hr hlp).elim, fun i hi => ?_⟩
      unfold Region.ready at hi
      rw [List.mem_filter, List.mem_range] at hi
      obtain ⟨hi1, hi2⟩ := hi
      simp only [Bool.and_eq_true, Bool.not_eq_true'] at hi2
      obtain ⟨hi2, hi3⟩ := hi2
      have ho : ops[i]? = some ops[i] := Array.getElem?_eq_getElem hi1
      have hol : ops.toList[i]? = some ops[i] := by simp [hi1]
      rw [ho] at hi3
      simp only [Option.map_some, Option.getD_some] at hi3
      rw [← Array.all_toList, List.all_eq_true] at hi3
      have hiF : listed.getD i false = false := by
        simp only [Array.getD_eq_getD_getElem?] at hi2 ⊢
        rw [Array.getElem?_eq_getElem (by omega)] at hi2 ⊢
        exact hi2
      have hanc : ∀ q, Nat.testBit ((ancs ops).getD i 0) q = true → listed.getD q false = true := by
        intro q hq
        obtain ⟨e, he, hbe, hq⟩ := anc_spec hol (hbk i _ hol) hq
        have := hi3 e he
        simp only [hbe, Bool.not_true, Bool.false_or] at this
        rcases hq with rfl | hq
        · exact this
        · exact hcl _ this q hq
      obtain ⟨e, f, he, hf, hst⟩ := hrun i ops[i] hol
      generalize hx0 : applyS (fun j => decide (j < i)) es (s.fr.get, s.sto.get) = x0 at hst
      have hfj : ∀ (j : Nat) (e' : Eff), es[j]? = some e' → ∃ o' f', ops.toList[j]? = some o' ∧ fs[j]? = some f' ∧ (e' = noEff ∨ (e'.dst = o'.dst ∧ dstOk s.n e'.dst = true ∧ f'.kw = e'.ws.map (·.1))) := by
        intro j e' he'
        have hjl : j < ops.toList.length := by have := (List.getElem?_eq_some_iff.1 he').1; rwa [hel] at this
        obtain ⟨e2, f2, k1, k2, k3⟩ := hrun j _ (List.getElem?_eq_getElem hjl)
        rw [he'] at k1
        cases k1
        refine ⟨_, _, List.getElem?_eq_getElem hjl, k2, ?_⟩
        unfold Stands at k3
        split at k3
        · exact .inl k3.1
        · split at k3
          · exact .inl k3.1
          · obtain ⟨wb2, _, k4, rfl⟩ := k3
            exact .inr ⟨hasEff_dst k4, k4.2, rfl⟩
      -- which of the other operations touch what this one looks at
      have sel : ∀ (j : Nat) (o' : Oper) (f' : FP), ops.toList[j]? = some o' → fs[j]? = some f' → j ≠ i → ¬ Sep ops o' ops[i] f' f → listed.getD j false = decide (j < i) := by
        intro j o' f' ho' hf' hne hcon
        rcases Nat.lt_or_gt_of_ne hne with hlt | hgt
        · rcases pair_sep hslots hkeys ho' hol hf' hf hlt with h1 | h1
          · rw [hanc j h1]; simp [hlt]
          · exact absurd h1 hcon
        · rcases pair_sep hslots hkeys hol ho' hf hf' hgt with h1 | h1
          · cases hl : listed.getD j false with
            | true => have := hcl j hl i h1; rw [hiF] at this; cases this
            | false => simp; omega
          · exact absurd h1.symm hcon
      have hself : ∀ e', es[i]? = some e' → listed.getD i false = decide (i < i) := by intro e' _; rw [hiF]; simp
      -- what this operation looks at is as in the order of the text
      have slots : ∀ d ∈ ops[i].looksAt ops, x0.1 d = (applyS (fun j => listed.getD j false) es (s.fr.get, s.sto.get)).1 d := by
        intro d hd
        rw [← hx0]
        refine agree_slot es _ _ _ _ rfl fun j e' he' hde => ?_
        by_cases hji : j = i
        · subst hji; exact (hself e' he').symm
        · obtain ⟨o', f', k1, k2, k3⟩ := hfj j e' he'
          rcases k3 with rfl | ⟨k3, _, _⟩
          · cases hde
          · exact (sel j o' f' k1 k2 hji fun S => S.rw d (by rw [← k3]; exact hde) hd).symm
      have keys : ∀ k ∈ f.kr, x0.2 k = (applyS (fun j => listed.getD j false) es (s.fr.get, s.sto.get)).2 k := by
        intro k hk
        rw [← hx0]
        refine agree_key es _ _ _ _ rfl fun j e' he' hke => ?_
        by_cases hji : j = i
        · subst hji; exact (hself e' he').symm
        · obtain ⟨o', f', k1, k2, k3⟩ := hfj j e' he'
          rcases k3 with rfl | ⟨_, _, k4⟩
          · cases hke
          · exact (sel j o' f' k1 k2 hji fun S => S.k1 k (by rw [k4]; exact hke) hk).symm
      unfold wpOp
      rw [ho]
      simp only
      by_cases hii : i = ip
      · -- the one that panics
        subst hii
        unfold Stands at hst
        rw [if_pos rfl] at hst
        obtain ⟨rfl, wb, hw, hpan, rfl⟩ := hst
        have here := hasPan_congr hw slots keys hpan
        have := hasPan_sound HC IG here (K := wpAny P .any ops Q fuel (listed.setIfInBounds i true)) (Q := Q) (fun w' E' u IG' rp => by
          have hfin2 : t.sto.get = (applyS (fun _ => true) es (s.fr.get, s.sto.get)).2 := by rw [← hfin]
          have hvalid : validW t.sto (wipe s.sto.get t.sto.get (wiped ((ancs ops).getD i 0) fs 0)) = true := by
            unfold validW
            rw [List.all_eq_true]
            intro y hy
            simp only [wipe, List.mem_map] at hy
            obtain ⟨k, hk, rfl⟩ := hy
            obtain ⟨j, f', h1, h2, h3⟩ := (wiped_mem _ _).1 hk
            rcases quietOk_at fs 0 hquiet j f' h1 k h2 with h4 | ⟨h4, _⟩
            · rw [h3] at h4; cases h4
            · cases k with
              | bor _ => cases h4
              | loc _ => rfl
          have hget := puts_get _ t.sto hvalid
          have hsto : ∀ k, (t.sto.puts (wipe s.sto.get t.sto.get (wiped ((ancs ops).getD i 0) fs 0))).get k = (applyS (fun j => listed.getD j false) es (s.fr.get, s.sto.get)).2 k ∨
              (((applyS (fun j => listed.getD j false) es (s.fr.get, s.sto.get)).2 k).1 < ((t.sto.puts (wipe s.sto.get t.sto.get (wiped ((ancs ops).getD i 0) fs 0))).get k).1 ∧ ((t.sto.puts (wipe s.sto.get t.sto.get (wiped ((ancs ops).getD i 0) fs 0))).get k).2 = .none) := by
            intro k
            rw [hget, wipe_get]
            by_cases hk : k ∈ wiped ((ancs ops).getD i 0) fs 0
            · rw [if_pos hk]
              refine .inr ⟨?_, rfl⟩
              obtain ⟨j, f', h1, h2, h3⟩ := (wiped_mem _ _).1 hk
              have huniq : ∀ (q : Nat) (e' : Eff), es[q]? = some e' → k ∈ e'.ws.map (·.1) → q = j := by
                intro q e' he' hke
                obtain ⟨o', c, k1, k2, k3⟩ := hfj q e' he'
                rcases k3 with rfl | ⟨_, _, k4⟩
                · cases hke
                · rcases quietOk_at fs 0 hquiet j f' h1 k h2 with h4 | ⟨_, h4⟩
                  · rw [h3] at h4; cases h4
                  · have := h4 q c k2 (by rw [k4]; exact hke)
                    simpa using this
              show ((applyS (fun j => listed.getD j false) es (s.fr.get, s.sto.get)).2 k).1 < (s.sto.get k).1 + (t.sto.get k).1 + 1
              cases hl : listed.getD j false with
              | true =>
                have : (applyS (fun j => listed.getD j false) es (s.fr.get, s.sto.get)).2 k = t.sto.get k := by
                  rw [hfin2]
                  refine agree_key es _ _ _ _ rfl fun q e' he' hke => ?_
                  rw [huniq q e' he' hke, hl]
                rw [this]; omega
              | false =>
                have : (applyS (fun j => listed.getD j false) es (s.fr.get, s.sto.get)).2 k = s.sto.get k := by
                  rw [agree_key es _ (fun _ => false) _ (s.fr.get, s.sto.get) rfl fun q e' he' hke => ?_, applyS_none _ _ _ fun _ => rfl]
                  rw [huniq q e' he' hke, hl]
                rw [this]; omega
            · rw [if_neg hk]
              refine .inl ?_
              rw [hfin2]
              refine agree_key es _ _ _ _ rfl fun j e' he' hke => ?_
              obtain ⟨o', f', k1, k2, k3⟩ := hfj j e' he'
              rcases k3 with rfl | ⟨_, _, k4⟩
              · cases hke
              · have hkf : k ∈ f'.kw := by rw [k4]; exact hke
                cases hb : Nat.testBit ((ancs ops).getD i 0) j with
                | true => exact (hanc j hb).symm
                | false => exact absurd ((wiped_mem _ _).2 ⟨j, f', k2, hkf, by simpa using hb⟩) hk
          obtain ⟨MF, gF⟩ := forget IG'.good hsto
          have hslot : ∀ t', (∀ o ∈ ops.toList, s.fr.has t' → o.dst ≠ some t') → (applyS (fun j => listed.getD j false) es (s.fr.get, s.sto.get)).1 t' = s.fr.get t' := by
            intro t' hno
            rw [agree_slot es _ (fun _ => false) _ (s.fr.get, s.sto.get) rfl fun j e' he' hde => ?_, applyS_none _ _ _ fun _ => rfl]
            obtain ⟨o', f', k1, k2, k3⟩ := hfj j e' he'
            rcases k3 with rfl | ⟨k3, k5, _⟩
            · cases hde
            · rw [hde] at k5 k3
              exact absurd k3.symm (hno o' (List.mem_of_getElem? k1) (hhas t' (by simpa [dstOk, Nat.blt_eq] using k5)))
          refine hp w' E' a u ⟨gF, IG'.fix, fun t' => ?_, IG'.size, fun t' ht => blank_has _ _ (hhas t' ht), IG'.defers, IG'.evo.trans MF⟩ (Rel.mono MF.toMono _ _ rp)
          rcases blank_cases (t := t') ops.toList s.fr with h | ⟨h, hno⟩
          · rw [h]; simp only [Rel]
          · rw [h, ← hslot t' fun o ho hh => hno hh o ho]
            exact Rel.mono MF.toMono _ _ (IG'.fr t'))
        split
        · rename_i hwt; rw [if_pos hwt] at this; exact .inl this
        · rename_i hwt; rw [if_neg hwt] at this; exact this
      unfold Stands at hst
      rw [if_neg hii] at hst
      split at hst
      · -- what hangs on it is never reached
        rename_i hdead
        simp only [Bool.and_eq_true, decide_eq_true_eq] at hdead
        have := hanc ip hdead.2
        rw [hlp] at this
        cases this
      obtain ⟨wb, hw, hef, rfl⟩ := hst
      have hdst := hasEff_dst hef
      have here : HasEff P call s.n ops ops[i] (applyS (fun j => listed.getD j false) es (s.fr.get, s.sto.get)) e := hasEff_congr hw slots keys hef
      have hins : applyS (fun j => (listed.setIfInBounds i true).getD j false) es (s.fr.get, s.sto.get) = appG e (applyS (fun j => listed.getD j false) es (s.fr.get, s.sto.get)) := by
        refine insert_eff he hiF (fun j => ?_) (fun j e' hj he' hsj t ht hde => ?_) (fun j e' hj he' hsj k hk hke => ?_)
        · simp only [getD_set]
          by_cases hji : j = i
          · subst hji
            rw [if_pos ⟨rfl, by omega⟩]; simp
          · rw [if_neg (fun h => hji h.1)]
            have : (j == i) = false := by simpa using hji
            rw [this, Bool.or_false]
        · obtain ⟨o', f', k1, k2, k3⟩ := hfj j e' he'
          rcases k3 with rfl | ⟨k3, _, _⟩
          · cases hde
          · have := sel j o' f' k1 k2 (by omega) fun S => S.ww t (by rw [← k3]; exact hde) (by rw [← hdst]; exact ht)
            rw [hsj] at this
            simp at this; omega
        · obtain ⟨o', f', k1, k2, k3⟩ := hfj j e' he'
          rcases k3 with rfl | ⟨_, _, k4⟩
          · cases hke
          · have := sel j o' f' k1 k2 (by omega) fun S => S.k1 k (by rw [k4]; exact hke) (by simp only [footP, List.mem_append]; exact .inr hk)
            rw [hsj] at this
            simp at this; omega
      have := hasEff_sound HC IG here (K := wpAny P .any ops Q fuel (listed.setIfInBounds i true)) (Q := Q) (fun w' E' a' IG' => by
        refine ih _ a' w' E' (by simp [hsz]) ?_ (by rw [getD_set, if_neg (fun h => hii h.1.symm)]; exact hlp) ?_ (by rw [hins]; exact IG')
        · intro j hj q hq
          rw [getD_set] at hj ⊢
          by_cases hqi : q = i ∧ i < listed.size
          · rw [if_pos hqi]
          · rw [if_neg hqi]
            by_cases hji : j = i
            · subst hji; exact hanc q hq
            · rw [if_neg (fun h => hji h.1)] at hj
              exact hcl j hj q hq
        · refine Nat.le_of_lt_succ (Nat.lt_of_lt_of_le ?_ hu)
          refine countP_lt _ i (List.mem_range.2 hi1) (by rw [hi2]; rfl) (by rw [getD_set, if_pos ⟨rfl, by omega⟩]; rfl) fun j hj => ?_
          rw [getD_set] at hj
          split at hj
          · simp at hj
          · exact hj)
      split
      · rename_i hwt; rw [if_pos hwt] at this; exact .inl this
      · rename_i hwt; rw [if_neg hwt] at this; exact this
  refine key ops.size _ a _ E (by simp) ?_ (by simp only [Array.getD_eq_getD_getElem?, Array.getElem?_replicate]; split <;> rfl) ?_ ?_
  · intro j hj
    simp only [Array.getD_eq_getD_getElem?, Array.getElem?_replicate] at hj
    split at hj <;> simp at hj
  · unfold unl
    exact Nat.le_trans (List.countP_le_length) (by simp)
  · rw [applyS_none _ _ _ fun j => by simp only [Array.getD_eq_getD_getElem?, Array.getElem?_replicate]; split <;> rfl]
    exact ⟨I.good.drew, I.fix.mono (Mono.drew (G := s.sto.get)), fun t => Rel.mono Mono.drew _ _ (I.fr t), I.size, I.defers, I.evo.drew⟩

theorem drawsP_ok (hm : P.follows .mixedOrders = true) (HC : CallOk P fx call) : DrawsOk P ds fx w0 E0 G0 (drawsP P call) := by
  intro ops s ex s' h id w E a Q I hp
  unfold drawsP at h
  split at h
  · cases h
  case h_3 =>
    rename_i fs ip p t hfoot
    split at h
    case h_2 => cases h
    rename_i hreg hkeys hquiet
    rw [putsK_eq] at h
    simp only [Option.some.injEq, Prod.mk.injEq] at h
    obtain ⟨rfl, rfl⟩ := h
    exact panic_ok hm HC hfoot hreg hkeys hquiet I hp
  rename_i fs t hfoot
  split at h
  case h_2 => cases h
  rename_i hreg hkeys
  simp only [Option.some.injEq, Prod.mk.injEq] at h
  obtain ⟨rfl, rfl⟩ := h
  replace hfoot := (footX_none _ _ _ _ _ _ _ hfoot).2
  unfold regionOk at hreg
  simp only [Bool.and_eq_true] at hreg
  obtain ⟨hback, hslots⟩ := hreg
  have hhas := I.has
  obtain ⟨es, hel, hfl, hn, hthas, hfin, hrun⟩ := foot_run ops.toList s t fs hhas hfoot
  have hbk : ∀ (j : Nat) (o : Oper), ops.toList[j]? = some o → ∀ e ∈ o.after.toList, Region.binds .any e = true → e.on < j := by
    intro j o hj e he hb
    have h1 := zipIdx_all hback hj
    have h2 := List.all_eq_true.1 h1 e he
    simpa [hb] using h2
  refine wp_region_any hm ?_
  -- the state behind the operations that are listed
  have key : ∀ (fuel : Nat) (listed : Array Bool) (a : Act) (w : World) (E : Env), listed.size = ops.size → (∀ j, listed.getD j false = true → ∀ i, Nat.testBit ((ancs ops).getD j 0) i = true → listed.getD i false = true) → unl ops.size listed ≤ fuel →
      InvG ds fx w0 E0 G0 s.n w E a (applyS (fun j => listed.getD j false) es (s.fr.get, s.sto.get)) → wpAny P .any ops Q fuel listed a w := by
    have hdone : ∀ (listed : Array Bool), listed.size = ops.size → Region.ready .any ops listed = [] → ∀ j, j < ops.size → listed.getD j false = true := by
      intro listed hsz hr j
      induction j using Nat.strongRecOn with
      | _ j ih =>
        intro hj
        cases hl : listed.getD j false with
        | true => rfl
        | false =>
          exfalso
          have hmem : j ∈ Region.ready .any ops listed := by
            unfold Region.ready
            rw [List.mem_filter]
            refine ⟨List.mem_range.2 hj, ?_⟩
            have ho : ops[j]? = some ops[j] := Array.getElem?_eq_getElem hj
            have hjl : listed.getD j true = false := by
              simp only [Array.getD_eq_getD_getElem?] at hl ⊢
              rw [Array.getElem?_eq_getElem (by omega)] at hl ⊢
              exact hl
            rw [ho, hjl]
            simp only [Bool.not_false, Option.map_some, Option.getD_some, Bool.true_and]
            rw [← Array.all_toList, List.all_eq_true]
            intro e he
            cases hbe : Region.binds .any e with
            | false => rfl
            | true =>
              have hlt := hbk j ops[j] (by simp [hj]) e he hbe
              simp [ih e.on hlt (by omega)]
          rw [hr] at hmem
          cases hmem
    have hnormal : ∀ (listed : Array Bool) (a : Act) (w : World) (E : Env), listed.size = ops.size → InvG ds fx w0 E0 G0 s.n w E a (applyS (fun j => listed.getD j false) es (s.fr.get, s.sto.get)) → Region.ready .any ops listed = [] → Q .normal a w := by
      intro listed a w E hsz IG hr
      have hall := hdone listed hsz hr
      have hx : applyS (fun j => listed.getD j false) es (s.fr.get, s.sto.get) = (t.fr.get, t.sto.get) := by
        rw [hfin]
        refine Prod.ext (funext fun q => ?_) (funext fun q => ?_)
        · exact agree_slot es _ _ _ _ rfl fun j e he _ => hall j (by have := (List.getElem?_eq_some_iff.1 he).1; rw [hel] at this; simpa using this)
        · exact agree_key es _ _ _ _ rfl fun j e he _ => hall j (by have := (List.getElem?_eq_some_iff.1 he).1; rw [hel] at this; simpa using this)
      rw [hx] at IG
      exact hp w E a ⟨IG.good, IG.fix, IG.fr, by rw [hn]; exact IG.size, hthas, IG.defers, IG.evo⟩
    intro fuel
    induction fuel with
    | zero =>
      intro listed a w E hsz hcl hu IG
      have hr : Region.ready .any ops listed = [] := by
        cases hr : Region.ready .any ops listed with
        | nil => rfl
        | cons i r =>
          exfalso
          have hi : i ∈ Region.ready .any ops listed := by rw [hr]; simp
          unfold Region.ready at hi
          rw [List.mem_filter] at hi
          have hz : unl ops.size listed = 0 := by omega
          unfold unl at hz
          rw [List.countP_eq_zero] at hz
          have := hz i hi.1
          simp only [Bool.and_eq_true] at hi
          exact this hi.2.1
      exact ⟨hr, hnormal listed a w E hsz IG hr⟩
    | succ fuel ih =>
      intro listed a w E hsz hcl hu IG
      refine ⟨hnormal listed a w E hsz IG, fun i hi => ?_⟩
      unfold Region.ready at hi
      rw [List.mem_filter, List.mem_range] at hi
      obtain ⟨hi1, hi2⟩ := hi
      simp only [Bool.and_eq_true, Bool.not_eq_true'] at hi2
      obtain ⟨hi2, hi3⟩ := hi2
      have ho : ops[i]? = some ops[i] := Array.getElem?_eq_getElem hi1
      have hol : ops.toList[i]? = some ops[i] := by simp [hi1]
      rw [ho] at hi3
      simp only [Option.map_some, Option.getD_some] at hi3
      rw [← Array.all_toList, List.all_eq_true] at hi3
      have hiF : listed.getD i false = false := by
        simp only [Array.getD_eq_getD_getElem?] at hi2 ⊢
        rw [Array.getElem?_eq_getElem (by omega)] at hi2 ⊢
        exact hi2
      have hanc : ∀ q, Nat.testBit ((ancs ops).getD i 0) q = true → listed.getD q false = true := by
        intro q hq
        obtain ⟨e, he, hbe, hq⟩ := anc_spec hol (hbk i _ hol) hq
        have := hi3 e he
        simp only [hbe, Bool.not_true, Bool.false_or] at this
        rcases hq with rfl | hq
        · exact this
        · exact hcl _ this q hq
      obtain ⟨e, wb, he, hw, hef, hf⟩ := hrun i ops[i] hol
      generalize hx0 : applyS (fun j => decide (j < i)) es (s.fr.get, s.sto.get) = x0 at hw hef hf
      have hdst := hasEff_dst hef
      have hfj : ∀ (j : Nat) (e' : Eff), es[j]? = some e' → ∃ o' f', ops.toList[j]? = some o' ∧ fs[j]? = some f' ∧ e'.dst = o'.dst ∧ f'.kw = e'.ws.map (·.1) := by
        intro j e' he'
        have hjl : j < ops.toList.length := by have := (List.getElem?_eq_some_iff.1 he').1; rwa [hel] at this
        obtain ⟨e2, wb2, k1, k2, k3, k4⟩ := hrun j _ (List.getElem?_eq_getElem hjl)
        rw [he'] at k1
        cases k1
        exact ⟨_, _, List.getElem?_eq_getElem hjl, k4, hasEff_dst k3, rfl⟩
      -- which of the other operations touch what this one looks at
      have sel : ∀ (j : Nat) (o' : Oper) (f' : FP), ops.toList[j]? = some o' → fs[j]? = some f' → j ≠ i → ¬ Sep ops o' ops[i] f' (footP P x0.2 ops[i] (evalP x0.1) wb e) → listed.getD j false = decide (j < i) := by
        intro j o' f' ho' hf' hne hcon
        rcases Nat.lt_or_gt_of_ne hne with hlt | hgt
        · rcases pair_sep hslots hkeys ho' hol hf' hf hlt with h1 | h1
          · rw [hanc j h1]; simp [hlt]
          · exact absurd h1 hcon
        · rcases pair_sep hslots hkeys hol ho' hf hf' hgt with h1 | h1
          · cases hl : listed.getD j false with
            | true => have := hcl j hl i h1; rw [hiF] at this; cases this
            | false => simp; omega
          · exact absurd h1.symm hcon
      have hself : ∀ e', es[i]? = some e' → listed.getD i false = decide (i < i) := by intro e' _; rw [hiF]; simp
      -- the operation gives the same here as in the order of the text
      have here : HasEff P call s.n ops ops[i] (applyS (fun j => listed.getD j false) es (s.fr.get, s.sto.get)) e := by
        refine hasEff_congr hw (fun d hd => ?_) (fun k hk => ?_) hef
        · rw [← hx0]
          refine agree_slot es _ _ _ _ rfl fun j e' he' hde => ?_
          by_cases hji : j = i
          · subst hji; exact (hself e' he').symm
          · obtain ⟨o', f', k1, k2, k3, _⟩ := hfj j e' he'
            exact (sel j o' f' k1 k2 hji fun S => S.rw d (by rw [← k3]; exact hde) hd).symm
        · have hk' : (applyS (fun j => decide (j < i)) es (s.fr.get, s.sto.get)).2 k = (applyS (fun j => listed.getD j false) es (s.fr.get, s.sto.get)).2 k := by
            refine agree_key es _ _ _ _ rfl fun j e' he' hke => ?_
            by_cases hji : j = i
            · subst hji; exact (hself e' he').symm
            · obtain ⟨o', f', k1, k2, _, k4⟩ := hfj j e' he'
              exact (sel j o' f' k1 k2 hji fun S => S.k1 k (by rw [k4]; exact hke) hk).symm
          rw [hx0] at hk'
          exact hk'
      have hins : applyS (fun j => (listed.setIfInBounds i true).getD j false) es (s.fr.get, s.sto.get) = appG e (applyS (fun j => listed.getD j false) es (s.fr.get, s.sto.get)) := by
        refine insert_eff he hiF (fun j => ?_) (fun j e' hj he' hsj t ht hde => ?_) (fun j e' hj he' hsj k hk hke => ?_)
        · simp only [getD_set]
          by_cases hji : j = i
          · subst hji
            rw [if_pos ⟨rfl, by omega⟩]; simp
          · rw [if_neg (fun h => hji h.1)]
            have : (j == i) = false := by simpa using hji
            rw [this, Bool.or_false]
        · obtain ⟨o', f', k1, k2, k3, _⟩ := hfj j e' he'
          have := sel j o' f' k1 k2 (by omega) fun S => S.ww t (by rw [← k3]; exact hde) (by rw [← hdst]; exact ht)
          rw [hsj] at this
          simp at this; omega
        · obtain ⟨o', f', k1, k2, _, k4⟩ := hfj j e' he'
          have := sel j o' f' k1 k2 (by omega) fun S => S.k1 k (by rw [k4]; exact hke) (by simp only [footP, List.mem_append]; exact .inr hk)
          rw [hsj] at this
          simp at this; omega
      unfold wpOp
      rw [ho]
      simp only
      have := hasEff_sound HC IG here (K := wpAny P .any ops Q fuel (listed.setIfInBounds i true)) (Q := Q) (fun w' E' a' IG' => by
        refine ih _ a' w' E' (by simp [hsz]) ?_ ?_ (by rw [hins]; exact IG')
        · intro j hj q hq
          rw [getD_set] at hj ⊢
          by_cases hqi : q = i ∧ i < listed.size
          · rw [if_pos hqi]
          · rw [if_neg hqi]
            by_cases hji : j = i
            · subst hji; exact hanc q hq
            · rw [if_neg (fun h => hji h.1)] at hj
              exact hcl j hj q hq
        · refine Nat.le_of_lt_succ (Nat.lt_of_lt_of_le ?_ hu)
          refine countP_lt _ i (List.mem_range.2 hi1) (by rw [hi2]; rfl) (by rw [getD_set, if_pos ⟨rfl, by omega⟩]; rfl) fun j hj => ?_
          rw [getD_set] at hj
          split at hj
          · simp at hj
          · exact hj)
      split
      · rename_i hwt; rw [if_pos hwt] at this; exact .inl this
      · rename_i hwt; rw [if_neg hwt] at this; exact this
  refine key ops.size _ a _ E (by simp) ?_ ?_ ?_
  · intro j hj
    simp only [Array.getD_eq_getD_getElem?, Array.getElem?_replicate] at hj
    split at hj <;> simp at hj
  · unfold unl
    exact Nat.le_trans (List.countP_le_length) (by simp)
  · rw [applyS_none _ _ _ fun j => by simp only [Array.getD_eq_getD_getElem?, Array.getElem?_replicate]; split <;> rfl]
    exact ⟨I.good.drew, I.fix.mono (Mono.drew (G := s.sto.get)), fun t => Rel.mono Mono.drew _ _ (I.fr t), I.size, I.defers, I.evo.drew⟩
end
end Go.Pv
