/- Pieces of code, in terms of values without addresses. -/
import Derived.Test.YtpagljdnkolhdaaGreatDoorPv5
import Derived.LoopN
set_option linter.unusedSimpArgs false
set_option linter.unusedVariables false
namespace Go.Pv
open Go.RowKit

theorem assoc_put (s s' : Nat) (x : Nat × Ent) : ∀ l, assoc s' (assocPut s x l) = if s' = s then x else assoc s' l
  | [] => by simp [assocPut, assoc]
  | (t, y) :: l => by
    simp only [assocPut, Nat.beq_eq]
    split
    · rename_i e
      subst e
      simp only [assoc, Nat.beq_eq]
      split <;> rfl
    · rename_i e
      simp only [assoc, Nat.beq_eq]
      rw [assoc_put s s' x l]
      by_cases h : s' = t
      · subst h
        rw [if_pos rfl, if_neg (fun e2 => e e2.symm), if_pos rfl]
      · rw [if_neg h, if_neg h]
theorem put_get (S : Sto) (x : Key × Nat × Ent) (h : validW S [x] = true) : (S.put x).get = upd1 S.get x.1 x.2 := by
  obtain ⟨k, gn, e⟩ := x
  simp only [validW, List.all_cons, List.all_nil, Bool.and_true] at h
  funext k'
  cases k with
  | bor i =>
    simp only [Bool.and_eq_true, Nat.blt_eq, Nat.beq_eq] at h
    obtain ⟨h1, rfl⟩ := h
    cases k' with
    | bor j =>
      simp only [Sto.put, Sto.get, upd1, Key.bor.injEq, List.getElem?_set]
      by_cases e2 : j = i
      · subst e2; simp [h1]
      · rw [if_neg (fun h => e2 h.symm), if_neg e2]
    | loc s => simp [Sto.put, Sto.get, upd1]
  | loc s =>
    cases k' with
    | bor j => simp [Sto.put, Sto.get, upd1]
    | loc s' =>
      simp only [Sto.put, Sto.get, upd1, Key.loc.injEq, assoc_put]
theorem put_bor (S : Sto) (x : Key × Nat × Ent) : (S.put x).bor.length = S.bor.length := by
  obtain ⟨k, gn, e⟩ := x
  cases k <;> simp [Sto.put]
theorem puts_get : ∀ (ws : List (Key × Nat × Ent)) (S : Sto), validW S ws = true → (S.puts ws).get = updG S.get ws
  | [], S, _ => rfl
  | x :: ws, S, h => by
    have hx : validW S [x] = true := by simp only [validW, List.all_cons, Bool.and_eq_true] at h ⊢; exact ⟨h.1, by simp⟩
    have hw : validW (S.put x) ws = true := by
      simp only [validW, List.all_cons, Bool.and_eq_true, put_bor] at h ⊢; exact h.2
    show ((S.put x).puts ws).get = _
    rw [puts_get ws (S.put x) hw, put_get S x hx]
    rfl

theorem putsK_eq {β : Type} : ∀ (ws : List (Key × Nat × Ent)) (S : Sto) (k : Sto → β), Sto.putsK ws S k = k (S.puts ws)
  | [], S, k => rfl
  | (.bor i, g, e) :: ws, S, k => by
    show (forceE e fun e => forceL (S.bor.set i e) fun b => Sto.putsK ws ⟨b, S.loc⟩ k) = _
    rw [forceE_eq, forceL_eq, putsK_eq ws]
    rfl
  | (.loc s, g, e) :: ws, S, k => by
    show (forceN g fun g => forceE e fun e => forceL (assocPut s (g, e) S.loc) fun m => Sto.putsK ws ⟨S.bor, m⟩ k) = _
    rw [forceN_eq, forceE_eq, forceL_eq, putsK_eq ws]
    rfl
noncomputable def putTr (fr : Tr) (dst : Option Tmp) (p : PV) : Tr := match dst with
  | some d => fr.set d p
  | none => fr
theorem putK_eq {β : Type} (fr : Tr) (dst : Option Tmp) (p : PV) (k : Tr → β) : putK fr dst p k = k (putTr fr dst p) := by
  cases dst with
  | none => rfl
  | some d => simp only [putK, putTr, forceW_eq, Tr.setK_eq]
/-- The state behind an operation. -/
noncomputable def St.after (s : St) (e : Eff) : St := ⟨s.n, putTr s.fr e.dst e.p, s.sto.puts e.ws⟩
theorem opStep_inv {β : Type} {P : Program} {call : Callee} {ops : Array Oper} {o : Oper} {s : St} {k : Bool → PV → St → Option β} {r : β} (h : opStep P call ops o s k = some r) :
    ∃ pan e, opEff P call s.n ops o (s.fr.get, s.sto.get) = some (pan, e) ∧ validW s.sto e.ws = true ∧ dstOk s.n e.dst = true ∧ k pan e.p (s.after e) = some r := by
  unfold opStep at h
  split at h
  · cases h
  · rename_i pan dst p ws he
    split at h
    · rename_i h1 h2
      rw [putK_eq, putsK_eq] at h
      exact ⟨pan, ⟨dst, p, ws⟩, he, h1, h2, h⟩
    · cases h

structure Inv (ds : List Deferred) (fx : List (Nat × Nat × Value)) (w0 : World) (E0 : Env) (G0 : Get) (w : World) (E : Env) (a : Act) (s : St) : Prop where
  good : Good w E s.sto.get
  fix : Fix fx w E
  fr : ∀ t, Rel w E s.sto.get (s.fr.get t) (a.tmps.getD t undef)
  size : a.tmps.size = s.n
  has : ∀ t, t < s.n → s.fr.has t
  defers : a.defers = ds
  evo : Evo w0 E0 G0 w E s.sto.get

section
variable {P : Program} {w0 : World} {E0 : Env} {G0 : Get} {w : World} {E : Env} {a : Act} {s : St} {fx : List (Nat × Nat × Value)} {ds : List Deferred}

theorem putTr_has {fr : Tr} {n : Nat} (h : ∀ t, t < n → fr.has t) (dst : Option Tmp) (p : PV) : ∀ t, t < n → (putTr fr dst p).has t := by
  intro t ht
  cases dst with
  | none => exact h t ht
  | some d => exact Tr.has_set _ _ _ _ (h t ht)
theorem put_size (a : Act) (dst : Option Tmp) (v : Value) : (a.put dst v).tmps.size = a.tmps.size := by cases dst <;> simp [Act.put]
theorem put_rel {G : Get} {fr : Tr} {n : Nat} {dst : Option Tmp} {p : PV} {v : Value} (h : ∀ t, Rel w E G (fr.get t) (a.tmps.getD t undef)) (hs : a.tmps.size = n) (hh : ∀ t, t < n → fr.has t) (hd : dstOk n dst = true) (r : Rel w E G p v) :
    ∀ t, Rel w E G ((putTr fr dst p).get t) ((a.put dst v).tmps.getD t undef) := by
  intro t
  cases dst with
  | none => exact h t
  | some d =>
    simp only [dstOk, Nat.blt_eq] at hd
    simp only [putTr, Act.put]
    by_cases e : t = d
    · subst e
      rw [Tr.get_set _ _ _ (hh t hd)]
      have : (a.tmps.setIfInBounds t v).getD t undef = v := by simp [Array.getD_eq_getD_getElem?, hs, hd]
      rw [this]
      exact r
    · rw [Tr.get_set_ne _ _ _ _ e]
      have : (a.tmps.setIfInBounds d v).getD t undef = a.tmps.getD t undef := by simp [Array.getD_eq_getD_getElem?, Array.getElem?_setIfInBounds, Ne.symm e]
      rw [this]
      exact h t
theorem put_defers' (a : Act) (dst : Option Tmp) (v : Value) : (a.put dst v).defers = a.defers := by cases dst <;> rfl
theorem undef_rel {G : Get} : Rel w E G undefP undef := by simp only [undefP, Rel]; exact ⟨[], rfl, relL_nil⟩
theorem eval_rel {G : Get} {fr : Nat → PV} (h : ∀ t, Rel w E G (fr t) (a.tmps.getD t undef)) (x : Operand) : Rel w E G (evalP fr x) (a.eval x) := by
  cases x with
  | tmp t => exact h t
  | const v =>
    simp only [evalP, Act.eval]
    cases e : ofVal v with
    | none => simp only [Option.getD_none, Rel]
    | some p => exact ofVal_rel e
  | global g => simp only [evalP, Rel]
  | func f => simp only [evalP, Act.eval, Rel]; exact ⟨[], [], rfl, relL_nil, relL_nil⟩

theorem wanted_rel {G : Get} {n : Nat} {ops : Array Oper} {o : Oper} {fr : Nat → PV} {b : Bool} (h : ∀ t, Rel w E G (fr t) (a.tmps.getD t undef)) (hs : a.tmps.size = n) (hw : wantedP n ops fr o = some b) : Region.wanted o (yielded ops a.tmps) = b := by
  unfold wantedP at hw
  unfold Region.wanted
  split at hw
  · rename_i e; cases hw; rw [e]
  · rename_i j want e
    rw [e]
    simp only
    split at hw
    · cases hw
    · rename_i d hd
      unfold yielded
      rw [hd]
      simp only [Option.bind_some]
      split at hw
      · cases hw
      · rename_i hlt
        have hd' : d < a.tmps.size := by
          have : ¬ (n ≤ d) := fun hle => hlt (by rw [Nat.ble_eq]; exact hle)
          rw [hs]
          exact Nat.lt_of_not_le this
        have hg : a.tmps[d]? = some (a.tmps.getD d undef) := by
          rw [Array.getD_eq_getD_getElem?, Array.getElem?_eq_getElem hd']; rfl
        have r := h d
        rw [hg]
        split at hw
        · rename_i b' eb
          cases hw
          rw [eb] at r
          simp only [Rel] at r
          rw [r]
          simp
        · rename_i ps eb
          cases hw
          rw [eb] at r
          simp only [Rel] at r
          obtain ⟨vs, hv, _⟩ := r
          rw [hv]
          simp
        · cases hw

/-- What stands behind a piece of code. -/
def Post (ds : List Deferred) (fx : List (Nat × Nat × Value)) (w0 : World) (E0 : Env) (G0 : Get) (Q : Exit → Act → World → Prop) (s' : St) : Ex → Prop
  | .normal => ∀ w' E' a', Inv ds fx w0 E0 G0 w' E' a' s' → Q .normal a' w'
  | .exit id => ∀ w' E' a', Inv ds fx w0 E0 G0 w' E' a' s' → Q (.exit id) a' w'
  | .ret => ∀ w' E' a', Inv ds fx w0 E0 G0 w' E' a' s' → Q .ret a' w'
  | .panic p => ∀ w' E' a' u, Inv ds fx w0 E0 G0 w' E' a' s' → Rel w' E' s'.sto.get p u → Q (.panic [{ v := u, recovered := false }]) a' w'

/-- What stands behind one operation. -/
theorem opEff_sound {call : Callee} (HC : CallOk P fx call) {ops : Array Oper} {o : Oper} (I : Inv ds fx w0 E0 G0 w E a s) {pan : Bool} {e : Eff} (h : opEff P call s.n ops o (s.fr.get, s.sto.get) = some (pan, e)) (hw : validW s.sto e.ws = true) (hd : dstOk s.n e.dst = true) {K : Act → World → Prop} {Q : Exit → Act → World → Prop}
    (hk : pan = false → ∀ w' E' a', Inv ds fx w0 E0 G0 w' E' a' (s.after e) → K a' w')
    (hq : pan = true → ∀ w' E' a' u, Inv ds fx w0 E0 G0 w' E' a' (s.after e) → Rel w' E' (s.after e).sto.get e.p u → Q (.panic [{ v := u, recovered := false }]) a' w') :
    if Region.wanted o (yielded ops a.tmps) then o.wp P a w K Q else K (a.put o.dst undef) w := by
  have hg : (s.after e).sto.get = updG s.sto.get e.ws := puts_get e.ws s.sto hw
  unfold opEff at h
  split at h
  · cases h
  · rename_i hb
    rw [wanted_rel I.fr I.size hb]
    cases h
    simp only [Bool.false_eq_true, if_false]
    refine hk rfl w E _ ⟨I.good, I.fix, ?_, by rw [put_size]; exact I.size, putTr_has I.has _ _, by rw [put_defers']; exact I.defers, I.evo⟩
    exact put_rel I.fr I.size I.has hd undef_rel
  · rename_i hb
    rw [wanted_rel I.fr I.size hb]
    simp only [if_true]
    split at h
    · cases h
    · rename_i p ws hr
      cases h
      refine opEval_sound HC I.good I.fix (eval_rel I.fr) hr ?_ ?_
      · intro p' ws' er E' w' u M g' rp
        cases er
        refine hk rfl w' E' _ ⟨by rw [hg]; exact g', I.fix.mono M.toMono, ?_, by rw [put_size]; exact I.size, putTr_has I.has _ _, by rw [put_defers']; exact I.defers, by rw [hg]; exact I.evo.trans M⟩
        rw [hg]
        exact put_rel (fun t => Rel.mono M.toMono _ _ (I.fr t)) I.size I.has hd rp
      · intro p' ws' er; cases er
    · rename_i p ws hr
      cases h
      refine opEval_sound HC I.good I.fix (eval_rel I.fr) hr ?_ ?_
      · intro p' ws' er; cases er
      · intro p' ws' er E' w' u M g' rp
        cases er
        refine hq rfl w' E' a u ⟨by rw [hg]; exact g', I.fix.mono M.toMono, fun t => ?_, I.size, I.has, I.defers, by rw [hg]; exact I.evo.trans M⟩ (by rw [hg]; exact rp)
        rw [hg]
        exact Rel.mono M.toMono _ _ (I.fr t)

theorem evOps_sound {call : Callee} (HC : CallOk P fx call) {ops : Array Oper} {Q : Exit → Act → World → Prop} : ∀ (l : List Oper) {w : World} {E : Env} {a : Act} {s : St} {ex : Ex} {s' : St}, Inv ds fx w0 E0 G0 w E a s → evOps P call ops l s = some (ex, s') → Post ds fx w0 E0 G0 Q s' ex → wpList P ops Q l a w
  | [], w, E, a, s, ex, s', I, h, hp => by
    have h : some (Ex.normal, s) = some (ex, s') := h
    simp only [Option.some.injEq, Prod.mk.injEq] at h
    obtain ⟨rfl, rfl⟩ := h
    exact hp w E a I
  | o :: rest, w, E, a, s, ex, s', I, h, hp => by
    have h : (opStep P call ops o s fun pan p s' => match pan with
      | true => some (.panic p, s')
      | false => evOps P call ops rest s') = some (ex, s') := h
    obtain ⟨pan, e, he, h1, h2, h3⟩ := opStep_inv h
    refine wpList_step fun K hK => ?_
    refine opEff_sound HC I he h1 h2 ?_ ?_
    · rintro rfl w' E' a' I'
      exact hK _ _ (evOps_sound HC rest I' h3 hp)
    · rintro rfl w' E' a' u I' r
      simp only [Option.some.injEq, Prod.mk.injEq] at h3
      obtain ⟨rfl, rfl⟩ := h3
      exact hp w' E' a' u I' r
/-- The same, where more operations follow. -/
theorem evOps_more {call : Callee} (HC : CallOk P fx call) {ops : Array Oper} {Q : Exit → Act → World → Prop} {tail : List Oper} : ∀ (l : List Oper) {w : World} {E : Env} {a : Act} {s : St} {ex : Ex} {s' : St}, Inv ds fx w0 E0 G0 w E a s → evOps P call ops l s = some (ex, s') →
    (ex = .normal → ∀ w' E' a', Inv ds fx w0 E0 G0 w' E' a' s' → wpList P ops Q tail a' w') → (ex ≠ .normal → Post ds fx w0 E0 G0 Q s' ex) → wpList P ops Q (l ++ tail) a w
  | [], w, E, a, s, ex, s', I, h, hn, hp => by
    have h : some (Ex.normal, s) = some (ex, s') := h
    simp only [Option.some.injEq, Prod.mk.injEq] at h
    obtain ⟨rfl, rfl⟩ := h
    exact hn rfl w E a I
  | o :: rest, w, E, a, s, ex, s', I, h, hn, hp => by
    have h : (opStep P call ops o s fun pan p s' => match pan with
      | true => some (.panic p, s')
      | false => evOps P call ops rest s') = some (ex, s') := h
    obtain ⟨pan, e, he, h1, h2, h3⟩ := opStep_inv h
    refine wpList_step fun K hK => ?_
    refine opEff_sound HC I he h1 h2 ?_ ?_
    · rintro rfl w' E' a' I'
      exact hK _ _ (evOps_more HC rest I' h3 hn hp)
    · rintro rfl w' E' a' u I' r
      simp only [Option.some.injEq, Prod.mk.injEq] at h3
      obtain ⟨rfl, rfl⟩ := h3
      exact hp (by intro e; cases e) w' E' a' u I' r

def DrawsOk (P : Program) (ds : List Deferred) (fx : List (Nat × Nat × Value)) (w0 : World) (E0 : Env) (G0 : Get) (draws : Array Oper → St → Option (Ex × St)) : Prop := ∀ ops s ex s', draws ops s = some (ex, s') → ∀ (id : Nat) w E a Q, Inv ds fx w0 E0 G0 w E a s → Post ds fx w0 E0 G0 Q s' ex → (Code.region id ops true).wp P Q a w

theorem iter_succ (body : St → Option (Ex × St)) (n : Nat) (s : St) : iter body (n + 1) s = match body s with
    | some (.normal, s') => iter body n s'
    | r => r := rfl
theorem iter_sound {body : St → Option (Ex × St)} {c : Code} (hb : ∀ {Q : Exit → Act → World → Prop} {w : World} {E : Env} {a : Act} {s : St} {ex : Ex} {s' : St}, Inv ds fx w0 E0 G0 w E a s → body s = some (ex, s') → Post ds fx w0 E0 G0 Q s' ex → c.wp P Q a w) :
    ∀ (n : Nat) {Q : Exit → Act → World → Prop} {w : World} {E : Env} {a : Act} {s : St} {ex : Ex} {s' : St}, Inv ds fx w0 E0 G0 w E a s → iter body n s = some (ex, s') → Post ds fx w0 E0 G0 Q s' ex → Code.rounds P c Q n a w
  | 0, Q, w, E, a, s, ex, s', I, h, hp => by cases (show (none : Option (Ex × St)) = some (ex, s') from h)
  | n + 1, Q, w, E, a, s, ex, s', I, h, hp => by
    rw [iter_succ] at h
    rw [rounds_succ]
    split at h
    · rename_i s1 hs
      refine hb I hs ?_
      intro w' E' a' I'
      exact iter_sound hb n I' h hp
    · rename_i r hs
      refine hb I h ?_
      cases ex with
      | normal => exact absurd h (hs s')
      | exit id => exact hp
      | ret => exact hp
      | panic p => exact hp

section
variable (P : Program) (call : Callee) (fuel : Nat) (draws : Array Oper → St → Option (Ex × St)) (s : St)
theorem evC_seq (x y : Code) : evC P call fuel draws (.seq x y) s = match evC P call fuel draws x s with
    | some (.normal, s') => evC P call fuel draws y s'
    | r => r := rfl
theorem evC_region (id : Nat) (ops : Array Oper) (draw : Bool) : evC P call fuel draws (.region id ops draw) s = match draw with
    | true => draws ops s
    | false => evOps P call ops ops.toList s := rfl
theorem evC_cond (c : Operand) (x y : Code) : evC P call fuel draws (.cond c x y) s = match evalP s.fr.get c with
    | .v (.bool true) => evC P call fuel draws x s
    | .v (.bool false) => evC P call fuel draws y s
    | _ => none := rfl
theorem evC_block (id : Nat) (c : Code) : evC P call fuel draws (.block id c) s = match evC P call fuel draws c s with
    | some (.exit id', s') => match Nat.beq id' id with
      | true => some (.normal, s')
      | false => some (.exit id', s')
    | r => r := rfl
theorem evC_loop (c : Code) : evC P call fuel draws (.loop c) s = iter (evC P call fuel draws c) fuel s := rfl
theorem evC_scope (c : Code) : evC P call fuel draws (.scope c) s = evC P call fuel draws c s := rfl
end

theorem evC_sound {call : Callee} (HC : CallOk P fx call) {fuel : Nat} {draws : Array Oper → St → Option (Ex × St)} (HD : DrawsOk P ds fx w0 E0 G0 draws) : ∀ (c : Code) {Q : Exit → Act → World → Prop} {w : World} {E : Env} {a : Act} {s : St} {ex : Ex} {s' : St},
    Inv ds fx w0 E0 G0 w E a s → evC P call fuel draws c s = some (ex, s') → Post ds fx w0 E0 G0 Q s' ex → c.wp P Q a w
  | .skip, Q, w, E, a, s, ex, s', I, h, hp => by
    cases (show some (Ex.normal, s) = some (ex, s') from h)
    exact wp_skip (hp w E a I)
  | .label _, Q, w, E, a, s, ex, s', I, h, hp => by
    cases (show some (Ex.normal, s) = some (ex, s') from h)
    exact wp_label (hp w E a I)
  | .region id ops draw, Q, w, E, a, s, ex, s', I, h, hp => by
    rw [evC_region] at h
    cases draw with
    | true => exact HD ops s ex s' h id w E a Q I hp
    | false => exact wp_region_list (evOps_sound HC ops.toList I h hp)
  | .seq x y, Q, w, E, a, s, ex, s', I, h, hp => by
    rw [evC_seq] at h
    refine wp_seq ?_
    split at h
    · rename_i s1 hs
      exact evC_sound HC HD x I hs (fun w' E' a' I' => evC_sound HC HD y I' h hp)
    · rename_i r hs
      refine evC_sound HC HD x I h ?_
      cases ex with
      | normal => exact absurd h (hs s')
      | exit id => exact hp
      | ret => exact hp
      | panic p => exact hp
  | .cond c x y, Q, w, E, a, s, ex, s', I, h, hp => by
    rw [evC_cond] at h
    have hc := eval_rel I.fr c
    split at h
    · rename_i e
      rw [e] at hc
      simp only [Rel] at hc
      exact wp_cond_true hc (evC_sound HC HD x I h hp)
    · rename_i e
      rw [e] at hc
      simp only [Rel] at hc
      exact wp_cond_false hc (evC_sound HC HD y I h hp)
    · cases h
  | .block id c, Q, w, E, a, s, ex, s', I, h, hp => by
    rw [evC_block] at h
    refine wp_block ?_
    split at h
    · rename_i id' s1 hs
      split at h
      · rename_i e
        rw [Nat.beq_eq] at e
        simp only [Option.some.injEq, Prod.mk.injEq] at h
        obtain ⟨rfl, rfl⟩ := h
        refine evC_sound HC HD c I hs ?_
        intro w' E' a' I'
        simp only [Exit.inBlock, e, if_true]
        exact hp w' E' a' I'
      · rename_i e
        have e : ¬ id' = id := fun e' => by rw [← Nat.beq_eq] at e'; rw [e'] at e; cases e
        simp only [Option.some.injEq, Prod.mk.injEq] at h
        obtain ⟨rfl, rfl⟩ := h
        refine evC_sound HC HD c I hs ?_
        intro w' E' a' I'
        simp only [Exit.inBlock, e, if_false]
        exact hp w' E' a' I'
    · rename_i r hs
      refine evC_sound HC HD c I h ?_
      cases ex with
      | normal => exact hp
      | exit id' => exact absurd h (hs id' s')
      | ret => exact hp
      | panic p => exact hp
  | .loop c, Q, w, E, a, s, ex, s', I, h, hp => by
    rw [evC_loop] at h
    exact wp_loop_rounds fuel (iter_sound (fun I h hp => evC_sound HC HD c I h hp) fuel I h hp)
  | .scope c, Q, w, E, a, s, ex, s', I, h, hp => by
    rw [evC_scope] at h
    refine wp_scope_straight (evC_sound HC HD c I h ?_)
    cases ex <;> exact hp
  | .exit id, Q, w, E, a, s, ex, s', I, h, hp => by
    cases (show some (Ex.exit id, s) = some (ex, s') from h)
    exact wp_exit (hp w E a I)
  | .ret, Q, w, E, a, s, ex, s', I, h, hp => by
    cases (show some (Ex.ret, s) = some (ex, s') from h)
    exact wp_ret (hp w E a I)
  | .rangeFunc .., Q, w, E, a, s, ex, s', I, h, hp => by cases (show (none : Option (Ex × St)) = some (ex, s') from h)
  | .goto _, Q, w, E, a, s, ex, s', I, h, hp => by cases (show (none : Option (Ex × St)) = some (ex, s') from h)
  | .refuse _, Q, w, E, a, s, ex, s', I, h, hp => by cases (show (none : Option (Ex × St)) = some (ex, s') from h)
end
end Go.Pv
namespace Go.Pv
open Go.RowKit

section
variable {P : Program} {G G2 : Get} {call : Callee} {o : Oper} {ρ ρ2 : Operand → PV} {r : OpR}
theorem cellsAt_congr {k : Key} (h : G k = G2 k) (g : Nat) : cellsAt G k g = cellsAt G2 k g := by unfold cellsAt; rw [h]
theorem mapAt_congr {k : Key} (h : G k = G2 k) (g : Nat) : mapAt G k g = mapAt G2 k g := by unfold mapAt; rw [h]
theorem one_congr {p : PV} (h : ∀ k ∈ refKey p, G k = G2 k) : p.one G = p.one G2 := by
  cases p <;> try rfl
  case ref k g off => simp only [PV.one, cellsAt_congr (h k (by simp [refKey])) g]
  case sl k g off n sz => simp only [PV.one, cellsAt_congr (h k (by simp [refKey])) g]
  case mref k g => simp only [PV.one, mapAt_congr (h k (by simp [refKey])) g]
theorem cells?_congr {p : PV} (h : ∀ k ∈ cellKeys p, G k = G2 k) : p.cells? G = p.cells? G2 := by
  cases p <;> try rfl
  case ref k g off => simp only [PV.cells?, one_congr (G := G) (G2 := G2) (p := .ref k g off) (fun q hq => h q (by simpa [cellKeys] using hq))]
  case sl k g off n sz => simp only [PV.cells?, one_congr (G := G) (G2 := G2) (p := .sl k g off n sz) (fun q hq => h q (by simpa [cellKeys] using hq))]
  case mref k g => simp only [PV.cells?, one_congr (G := G) (G2 := G2) (p := .mref k g) (fun q hq => h q (by simpa [cellKeys] using hq))]
theorem all_one_congr {p : PV} (h : ∀ k ∈ cellKeys p, G k = G2 k) {cs : List PV} (hc : p.cells? G = some cs) : cs.all (PV.one G) = cs.all (PV.one G2) := by
  have hk : ∀ q ∈ cs, ∀ k ∈ refKey q, G k = G2 k := by
    intro q hq k hk
    refine h k ?_
    unfold PV.cells? at hc
    split at hc
    · cases hc; simp only [cellKeys, List.mem_flatMap]; exact ⟨q, hq, hk⟩
    · rename_i p hn
      split at hc
      · cases hc
        simp only [List.mem_singleton] at hq
        subst hq
        cases q <;> first | exact hk | exact absurd rfl (hn _)
      · cases hc
  clear hc
  induction cs with
  | nil => rfl
  | cons q cs ih =>
    simp only [List.all_cons]
    rw [one_congr (hk q (by simp)), ih fun q' hq' => hk q' (by simp [hq'])]
theorem fillP_congr {place : Nat → Option (Nat × Nat)} : ∀ (ps : List (Nat × PV)) (cs : List PV), (∀ x ∈ ps, ∀ k ∈ cellKeys x.2, G k = G2 k) → fillP G place cs ps = fillP G2 place cs ps
  | [], cs, _ => rfl
  | x :: ps, cs, h => by
    obtain ⟨i, v⟩ := x
    simp only [fillP]
    rw [cells?_congr (G := G) (G2 := G2) (fun k hk => h (i, v) (by simp) k hk)]
    have ih := fun cs => fillP_congr (place := place) ps cs fun x hx => h x (by simp [hx])
    simp only [ih]
theorem live_congr {p : PV} (h : ∀ k ∈ refKey p, G k = G2 k) : liveP G p = liveP G2 p := by
  cases p <;> try rfl
  rename_i k g off
  simp only [liveP, cellsAt_congr (h k (by simp [refKey])) g]
theorem nilCmp_congr {t : TypeId} {p q : PV} (h : ∀ k ∈ refKey p ++ refKey q, G k = G2 k) : nilCmp P G t p q = nilCmp P G2 t p q := by
  have hp := live_congr (G := G) (G2 := G2) (p := p) (fun k hk => h k (by simp [hk]))
  have hq := live_congr (G := G) (G2 := G2) (p := q) (fun k hk => h k (by simp [hk]))
  have hc : ∀ k g, k ∈ refKey p → cellsAt G k g = cellsAt G2 k g := fun k g hk => cellsAt_congr (h k (by simp [hk])) g
  have hm : ∀ k g, k ∈ refKey p → mapAt G k g = mapAt G2 k g := fun k g hk => mapAt_congr (h k (by simp [hk])) g
  unfold nilCmp
  split
  · exact hp
  · exact hq
  · rfl
  · rw [hc _ _ (by simp [refKey])]
  · rw [hm _ _ (by simp [refKey])]
  all_goals rfl

theorem reach_sub (G : Get) : ∀ (n : Nat) (todo : List (Key × Nat)) (acc : List Key), ∀ k ∈ acc, k ∈ reach G n todo acc
  | 0, _, acc, k, h => by simpa [reach] using h
  | n + 1, [], acc, k, h => by simpa [reach] using h
  | n + 1, (q, g) :: todo, acc, k, h => by
    simp only [reach]
    split
    · exact reach_sub G n _ _ k h
    · split <;> exact reach_sub G n _ _ k (by simp [h])
/-- What is looked for next, when a name has been looked up. -/
noncomputable def moreRefs (e : Ent) (todo : List (Key × Nat)) : List (Key × Nat) := match e with
  | .cells cs => cs.flatMap refsQ ++ (cs.flatMap toksQ ++ todo)
  | .map _ vs => vs.flatMap refsQ ++ (vs.flatMap toksQ ++ todo)
  | _ => todo
theorem reach_cons (G : Get) (n : Nat) (q : Key) (g : Nat) (todo : List (Key × Nat)) (acc : List Key) : reach G (n + 1) ((q, g) :: todo) acc = if acc.contains q then reach G n todo acc else reach G n (moreRefs (G q).2 todo) (acc ++ [q]) := by
  simp only [reach]
  split
  · rfl
  · cases (G q).2 <;> rfl
theorem reach_congr : ∀ (n : Nat) (todo : List (Key × Nat)) (acc : List Key), (∀ k ∈ reach G n todo acc, G k = G2 k) → reach G n todo acc = reach G2 n todo acc
  | 0, _, acc, h => by simp [reach]
  | n + 1, [], acc, h => by simp [reach]
  | n + 1, (q, g) :: todo, acc, h => by
    rw [reach_cons] at h ⊢
    rw [reach_cons]
    split
    · rename_i hc
      rw [if_pos hc] at h
      exact reach_congr n _ _ h
    · rename_i hc
      rw [if_neg hc] at h
      have hq : G q = G2 q := h q (reach_sub G n _ _ q (by simp))
      rw [← hq]
      exact reach_congr n _ _ h
theorem down_congr {ks : List Key} (h : ∀ k ∈ ks, G k = G2 k) : down G ks = down G2 ks := by
  funext k g
  unfold down
  cases e : idx? k ks 0 with
  | none => simp
  | some i =>
    have := (idx_some e).2
    rw [h k (List.mem_of_getElem? this)]
theorem up_congr {ks : List Key} (h : ∀ k ∈ ks, G k = G2 k) : up G ks = up G2 ks := by
  funext k g
  unfold up
  cases k with
  | loc s => rfl
  | bor i =>
    simp only
    cases e : ks[i]? with
    | none => rfl
    | some k => simp only [Option.map_some]; rw [h k (List.mem_of_getElem? e)]
theorem zipBack_congr {m : Key → Nat → Option (Key × Nat)} : ∀ (ks : List Key) (es : List Ent), (∀ k ∈ ks, G k = G2 k) → zipBack G m ks es = zipBack G2 m ks es
  | [], _, _ => by simp [zipBack]
  | _ :: _, [], _ => by simp [zipBack]
  | k :: ks, e :: es, h => by simp only [zipBack]; rw [h k (by simp), zipBack_congr ks es fun q hq => h q (by simp [hq])]
def wsOf : OpR → List Key
  | .val _ ws | .pan _ ws => ws.map (·.1)
theorem bump_congr {new : List Key} {k : Key} (h : G k = G2 k) : bump G new k = bump G2 new k := by unfold bump; rw [h]
theorem slim_congr {ws : List (Key × Nat × Ent)} (h : ∀ x ∈ ws, G x.1 = G2 x.1) : slim G ws = slim G2 ws := by
  have : (ws.all fun x => sameE (G x.1) x.2) = ws.all fun x => sameE (G2 x.1) x.2 := by
    induction ws with
    | nil => rfl
    | cons x ws ih => simp only [List.all_cons]; rw [h x (by simp), ih fun y hy => h y (by simp [hy])]
  unfold slim
  rw [this]
theorem callP_congr {dst : Option Tmp} {f : FuncId} {args : List PV} (h : callP call G dst f args = some r) (hk : ∀ k ∈ reach G 64 (args.flatMap refsQ) [] ++ wsOf r, G k = G2 k) : callP call G2 dst f args = some r := by
  have hr : ∀ k ∈ reach G 64 (args.flatMap refsQ) [], G k = G2 k := fun k h => hk k (List.mem_append_left _ h)
  unfold callP at h ⊢
  simp only at h ⊢
  rw [← reach_congr _ _ _ hr]
  generalize reach G 64 (args.flatMap refsQ) [] = ks at h hr ⊢
  have hm : ks.map (fun k => renEQ (down G ks) (G k).2) = ks.map (fun k => renEQ (down G2 ks) (G2 k).2) := by
    refine List.map_congr_left fun k hk => ?_
    rw [down_congr hr, hr k hk]
  rw [hm, down_congr hr] at h
  have hw : ∀ k ∈ wsOf r, G k = G2 k := fun k h => hk k (List.mem_append_right _ h)
  have fin : ∀ (mk : PV → List (Key × Nat × Ent) → OpR), (∀ p ws, wsOf (mk p ws) = ws.map (·.1)) → ∀ p bor,
      Option.map (fun x : List Key × Get => mk (renQ (up x.2 x.1) p) (match Nat.beq bor.length ks.length with | true => slim G (zipBack x.2 (up x.2 x.1) x.1 bor) | false => zipBack x.2 (up x.2 x.1) x.1 bor)) (if bor.length = ks.length then some (ks, G) else
        match (generalizing := false) dst with
        | some d => if ks.length ≤ bor.length ∧ d < 1000 ∧ ((List.range (bor.length - ks.length)).map (newKey d)).all (fun k => !ks.contains k) then some (ks ++ (List.range (bor.length - ks.length)).map (newKey d), bump G ((List.range (bor.length - ks.length)).map (newKey d))) else none
        | none => none) = some r →
      Option.map (fun x : List Key × Get => mk (renQ (up x.2 x.1) p) (match Nat.beq bor.length ks.length with | true => slim G2 (zipBack x.2 (up x.2 x.1) x.1 bor) | false => zipBack x.2 (up x.2 x.1) x.1 bor)) (if bor.length = ks.length then some (ks, G2) else
        match (generalizing := false) dst with
        | some d => if ks.length ≤ bor.length ∧ d < 1000 ∧ ((List.range (bor.length - ks.length)).map (newKey d)).all (fun k => !ks.contains k) then some (ks ++ (List.range (bor.length - ks.length)).map (newKey d), bump G2 ((List.range (bor.length - ks.length)).map (newKey d))) else none
        | none => none) = some r := by
    intro mk hmk p bor h
    by_cases hl : bor.length = ks.length
    · rw [if_pos hl] at h ⊢
      have hb : Nat.beq bor.length ks.length = true := by rw [hl]; exact Nat.beq_refl _
      simp only [Option.map_some, hb] at h ⊢
      rw [up_congr hr, zipBack_congr _ _ hr, slim_congr (G2 := G2) (fun x hx => hr _ (by
        have : x.1 ∈ (zipBack G2 (up G2 ks) ks bor).map (·.1) := List.mem_map_of_mem hx
        rwa [zipBack_keys _ _ _ _ hl] at this))] at h
      exact h
    · rw [if_neg hl] at h ⊢
      have hb : Nat.beq bor.length ks.length = false := by
        cases e : Nat.beq bor.length ks.length with
        | false => rfl
        | true => exact absurd (Nat.eq_of_beq_eq_true e) hl
      simp only [hb] at h ⊢
      cases dst with
      | none => cases h
      | some d =>
        simp only at h ⊢
        split at h
        · rename_i hc
          rw [if_pos hc]
          simp only [Option.map_some, Option.some.injEq] at h ⊢
          have hsame : ∀ k ∈ ks ++ (List.range (bor.length - ks.length)).map (newKey d), G k = G2 k := by
            intro k hk'
            refine hw k ?_
            rw [← h, hmk, zipBack_keys]
            · exact hk'
            · simp; omega
          have hb : ∀ k ∈ ks ++ (List.range (bor.length - ks.length)).map (newKey d), bump G ((List.range (bor.length - ks.length)).map (newKey d)) k = bump G2 ((List.range (bor.length - ks.length)).map (newKey d)) k := fun k hk' => bump_congr (hsame k hk')
          rw [← up_congr hb, ← zipBack_congr _ _ hb]
          exact h
        · cases h
  split at h
  · exact fin .val (fun _ _ => rfl) _ _ h
  · exact fin .pan (fun _ _ => rfl) _ _ h
  · cases h
theorem appendTo_congr {dst : Option Tmp} {elem : TypeId} {sz : Nat} {es ys : List PV} {tok : Tok} (h : appendTo G dst elem sz es ys tok = some r) (hk : ∀ k ∈ (match (generalizing := false) tok with | .line k _ => [k] | _ => []) ++ wsOf r, G k = G2 k) (ho : G openKey = G2 openKey) : appendTo G2 dst elem sz es ys tok = some r := by
  have other : (match (generalizing := false) dst with
    | some d => match Nat.testBit (G openKey).1 d with
      | true => some (OpR.val (.sl (.loc d) ((G (.loc d)).1 + 1) 0 (es ++ ys).length sz) [(.loc d, (G (.loc d)).1 + 1, .cells ((es ++ ys).flatMap PV.flat))])
      | false => some (OpR.val (.vec (.line (.loc d) ((G (.loc d)).1 + 1)) (es ++ ys)) [(.loc d, (G (.loc d)).1 + 1, .top (es ++ ys).length elem sz)])
    | none => none) = some r → (match (generalizing := false) dst with
    | some d => match Nat.testBit (G2 openKey).1 d with
      | true => some (OpR.val (.sl (.loc d) ((G2 (.loc d)).1 + 1) 0 (es ++ ys).length sz) [(.loc d, (G2 (.loc d)).1 + 1, .cells ((es ++ ys).flatMap PV.flat))])
      | false => some (OpR.val (.vec (.line (.loc d) ((G2 (.loc d)).1 + 1)) (es ++ ys)) [(.loc d, (G2 (.loc d)).1 + 1, .top (es ++ ys).length elem sz)])
    | none => none) = some r := by
    intro h
    cases dst with
    | none => cases h
    | some d =>
      simp only at h ⊢
      rw [← ho]
      split at h
      · simp only [Option.some.injEq] at h
        rw [← hk (.loc d) (by rw [← h]; simp [wsOf])]
        rw [h]
      · simp only [Option.some.injEq] at h
        rw [← hk (.loc d) (by rw [← h]; simp [wsOf])]
        rw [h]
  cases tok with
  | no => cases h
  | line k g => simp only [appendTo] at h ⊢; rw [← hk k (by simp)]; exact h
  | _ => exact other h
theorem elemsP_congr {size : Nat} {p : PV} (h : ∀ k ∈ refKey p, G k = G2 k) : elemsP G size p = elemsP G2 size p := by
  cases p <;> try rfl
  case sl k g off n sz => simp only [elemsP, cellsAt_congr (h k (by simp [refKey]))]
theorem appendP_congr {dst : Option Tmp} {ats : Array TypeId} {s x : PV} (h : appendP P G dst ats s x = some r) (hk : ∀ k ∈ (openKey :: (tokKey s ++ (refKey s ++ refKey x))) ++ wsOf r, G k = G2 k) : appendP P G2 dst ats s x = some r := by
  unfold appendP at h ⊢
  have hx : ∀ k ∈ refKey x, G k = G2 k := fun k h => hk k (by simp [h])
  have hs : ∀ k ∈ refKey s, G k = G2 k := fun k h => hk k (by simp [h])
  have ho : G openKey = G2 openKey := hk _ (by simp)
  simp only [← elemsP_congr hx]
  simp only [Option.bind_eq_bind, Option.bind_eq_some_iff] at h ⊢
  obtain ⟨t0, ht0, t1, ht1, elem, he, info, hi, z, hz, y, hy, h⟩ := h
  refine ⟨t0, ht0, t1, ht1, elem, he, info, hi, z, hz, y, hy, ?_⟩
  split at h
  · rename_i i g off n sz
    simp only [Option.bind_eq_some_iff] at h ⊢
    rw [← cellsAt_congr (hs (.loc i) (by simp [refKey]))]
    exact h
  · simp only [Option.bind_eq_some_iff] at h ⊢
    obtain ⟨e, hv, h⟩ := h
    refine ⟨e, hv, ?_⟩
    split at h
    · rename_i hc
      rw [if_pos hc]
      split at h
      · exact h
      · refine appendTo_congr h (fun k hk' => hk k ?_) ho
        simp only [List.mem_append, List.mem_cons] at hk' ⊢
        rcases hk' with hk' | hk'
        · refine .inl (.inr (.inl ?_))
          cases s with
          | vec tok es =>
            simp only [vecOf, Option.some.injEq] at hv
            cases hv
            cases tok <;> first | (simp at hk'; done) | simpa [tokKey] using hk'
          | _ => simp [vecOf] at hv
        · exact .inr hk'
    · cases h

theorem srcCells_congr {size m : Nat} {p : PV} (h : ∀ k ∈ refKey p, G k = G2 k) : srcCells G size m p = srcCells G2 size m p := by
  cases p <;> try rfl
  case sl k g off n sz => simp only [srcCells, cellsAt_congr (h k (by simp [refKey]))]
  case vec tok es => cases tok <;> rfl
theorem copyP_congr {ats : Array TypeId} {d s : PV} (hd : ∀ k ∈ refKey d, G k = G2 k) (hs : ∀ k ∈ refKey s, G k = G2 k) : copyP P G ats d s = copyP P G2 ats d s := by
  unfold copyP
  simp only [srcCells_congr hs]
  cases d <;> try rfl
  case sl k g off n sz => simp only [cellsAt_congr (hd k (by simp [refKey]))]
  case vec tok es => cases es <;> rfl

theorem plainOp_congr {o : Oper} {ρ ρ2 : Operand → PV} (h : ∀ x ∈ o.op.operands, ρ x = ρ2 x) : plainOp P o ρ = plainOp P o ρ2 := by
  unfold plainOp
  have h1 : (o.op.operands.toList.all fun x => (toVal (ρ x)).isSome) = (o.op.operands.toList.all fun x => (toVal (ρ2 x)).isSome) := by
    have : ∀ l : List Operand, (∀ x ∈ l, ρ x = ρ2 x) → (l.all fun x => (toVal (ρ x)).isSome) = (l.all fun x => (toVal (ρ2 x)).isSome) := by
      intro l
      induction l with
      | nil => intro _; rfl
      | cons y l ih => intro hl; simp only [List.all_cons]; rw [hl y (by simp), ih fun z hz => hl z (by simp [hz])]
    exact this _ fun x hx => h x (Array.mem_toList_iff.1 hx)
  rw [h1]
  cases hop : o.op with
  | select cs b => rfl
  | _ =>
    have h2 : execOp (fun x => (toVal (ρ x)).getD undef) o = execOp (fun x => (toVal (ρ2 x)).getD undef) o := execOp_congr o (by rw [hop]; intro _ _ e; cases e) (fun x hx => by rw [h x hx])
    rw [h2]

theorem all_eq {α : Type} {f g : α → Bool} : ∀ (l : List α), (∀ x ∈ l, f x = g x) → l.all f = l.all g
  | [], _ => rfl
  | x :: l, h => by simp only [List.all_cons]; rw [h x (by simp), all_eq l fun y hy => h y (by simp [hy])]
theorem ofCell_keys {x : Value} {p : PV} (h : ofCell x = some p) : refKey p = [] := by
  unfold ofCell at h
  repeat' split at h
  all_goals first | (cases h; rfl) | cases h
theorem ofCells_keys : ∀ {xs : List Value} {ps : List PV}, ofCells xs = some ps → ps.flatMap refKey = []
  | [], ps, h => by simp only [ofCells, Option.some.injEq] at h; subst h; rfl
  | x :: xs, ps, h => by
    simp only [ofCells, Option.bind_eq_bind, Option.bind_eq_some_iff, pure, Option.some.injEq] at h
    obtain ⟨p, hp, qs, hq, rfl⟩ := h
    simp only [List.flatMap_cons, ofCell_keys hp, ofCells_keys hq, List.append_nil]
theorem ofCell_not_agg {x : Value} {p : PV} (h : ofCell x = some p) : cellKeys p = [] := by
  unfold ofCell at h
  repeat' split at h
  all_goals first | (cases h; rfl) | cases h
theorem ofVal_keys {x : Value} {p : PV} (h : ofVal x = some p) : cellKeys p = [] := by
  unfold ofVal at h
  split at h
  · simp only [Option.map_eq_some_iff] at h
    obtain ⟨ps, hp, rfl⟩ := h
    exact ofCells_keys hp
  · simp only [Option.map_eq_some_iff] at h
    obtain ⟨ps, hp, rfl⟩ := h
    rfl
  · exact ofCell_not_agg h

theorem plainF_congr (h : ∀ x ∈ o.op.operands, ρ x = ρ2 x) : plainF P o ρ = plainF P o ρ2 := by
  rw [plainF_eq, plainF_eq, plainOp_congr h]

theorem map_ops (l : List Operand) (h : ∀ x ∈ l, ρ x = ρ2 x) : l.map ρ = l.map ρ2 := List.map_congr_left h

theorem opBuild_congr {t : TypeId} {parts : Array (Nat × Operand)} (hρ : ∀ x ∈ parts.toList, ρ x.2 = ρ2 x.2) (hG : ∀ k ∈ parts.toList.flatMap fun x => cellKeys (ρ x.2), G k = G2 k) : opBuild P call G o ρ t parts = opBuild P call G2 o ρ2 t parts := by
  unfold opBuild
  have hps : parts.toList.map (fun x => (x.1, ρ x.2)) = parts.toList.map (fun x => (x.1, ρ2 x.2)) := List.map_congr_left fun x hx => by rw [hρ x hx]
  have hf : ∀ place cs, fillP G place cs (parts.toList.map fun x => (x.1, ρ x.2)) = fillP G2 place cs (parts.toList.map fun x => (x.1, ρ2 x.2)) := by
    intro place cs
    rw [← hps]
    refine fillP_congr _ _ fun y hy k hk => hG k ?_
    obtain ⟨x, hx, rfl⟩ := List.mem_map.1 hy
    exact List.mem_flatMap.2 ⟨x, hx, hk⟩
  simp only [Option.bind_eq_bind, hf]
  refine Option.bind_congr fun z hz => Option.bind_congr fun p hp => ?_
  rw [cells?_congr (G := G) (G2 := G2) (fun k hk => by rw [ofVal_keys hp] at hk; cases hk)]
theorem opBuildSlice_congr {t : TypeId} {len : Nat} {parts : Array (Nat × Operand)} (hρ : ∀ x ∈ parts.toList, ρ x.2 = ρ2 x.2) (hG : ∀ k ∈ parts.toList.flatMap fun x => cellKeys (ρ x.2), G k = G2 k) : opBuildSlice P call G o ρ t len parts = opBuildSlice P call G2 o ρ2 t len parts := by
  unfold opBuildSlice
  have hps : parts.toList.map (fun x => (x.1, ρ x.2)) = parts.toList.map (fun x => (x.1, ρ2 x.2)) := List.map_congr_left fun x hx => by rw [hρ x hx]
  have hall : ∀ size : Nat, ((parts.toList.map (fun x => (x.1, ρ x.2))).map (·.2)).all (elemOk G size) = ((parts.toList.map (fun x => (x.1, ρ x.2))).map (·.2)).all (elemOk G2 size) := by
    intro size
    refine all_eq _ fun e he => ?_
    obtain ⟨y, hy, rfl⟩ := List.mem_map.1 he
    obtain ⟨x, hx, rfl⟩ := List.mem_map.1 hy
    have hk : ∀ k ∈ cellKeys (ρ x.2), G k = G2 k := fun k hk => hG k (List.mem_flatMap.2 ⟨x, hx, hk⟩)
    simp only [elemOk]
    cases hc : (ρ x.2).cells? G with
    | none => rw [← cells?_congr hk, hc]
    | some c => rw [← cells?_congr hk, hc]; simp only [all_one_congr hk hc]
  rw [← hps]
  simp only [hall]
theorem opAlloc_congr {elem : TypeId} (h : opAlloc P call G o ρ elem = some r) (hk : ∀ k ∈ wsOf r, G k = G2 k) : opAlloc P call G2 o ρ2 elem = some r := by
  unfold opAlloc at h ⊢
  simp only [Option.bind_eq_bind, Option.bind_eq_some_iff, Option.some.injEq] at h ⊢
  obtain ⟨z, hz, p, hp, cs, hc, d, hd, rfl⟩ := h
  refine ⟨z, hz, p, hp, cs, ?_, d, hd, ?_⟩
  · rw [← cells?_congr (G := G) (G2 := G2) (fun k hk => by rw [ofVal_keys hp] at hk; cases hk)]; exact hc
  · rw [← hk (.loc d) (by simp [wsOf])]
theorem opBox_congr {x : Operand} (hx : ρ x = ρ2 x) (h : opBox P call G o ρ x = some r) (hk : ∀ k ∈ cellKeys (ρ x) ++ wsOf r, G k = G2 k) : opBox P call G2 o ρ2 x = some r := by
  unfold opBox at h ⊢
  rw [← hx]
  simp only [Option.bind_eq_bind, Option.bind_eq_some_iff] at h ⊢
  obtain ⟨cs, hc, d, hd, h⟩ := h
  have hk1 : ∀ k ∈ cellKeys (ρ x), G k = G2 k := fun k h => hk k (List.mem_append_left _ h)
  refine ⟨cs, by rw [← cells?_congr hk1]; exact hc, d, hd, ?_⟩
  rw [← all_one_congr hk1 hc]
  split at h
  · rename_i h1
    cases h
    rw [if_pos h1, ← hk (.loc d) (by simp [wsOf])]
  · cases h
theorem opLoad_congr {t : TypeId} {x : Operand} (hx : ρ x = ρ2 x) (hk : ∀ k ∈ refKey (ρ x), G k = G2 k) : opLoad P call G o ρ t x = opLoad P call G2 o ρ2 t x := by
  unfold opLoad
  rw [← hx]
  cases e : ρ x with
  | ref k g off => simp only [cellsAt_congr (hk k (by rw [e]; simp [refKey]))]
  | _ => rfl
theorem opStore_congr {t : TypeId} {x y : Operand} (hx : ρ x = ρ2 x) (hy : ρ y = ρ2 y) (hk : ∀ k ∈ refKey (ρ x) ++ cellKeys (ρ y), G k = G2 k) : opStore P call G o ρ t x y = opStore P call G2 o ρ2 t x y := by
  unfold opStore
  rw [← hx, ← hy]
  cases e : ρ x with
  | ref k g off =>
    have hk' : ∀ q ∈ cellKeys (ρ y), G q = G2 q := fun q hq => hk q (by simp [hq])
    simp only [cellsAt_congr (hk k (by rw [e]; simp [refKey])), Option.bind_eq_bind]
    refine Option.bind_congr fun cs hc => ?_
    rw [← cells?_congr hk']
    refine Option.bind_congr fun vs hv => ?_
    rw [all_one_congr hk' hv]
  | _ => rfl
theorem opNilCheck_congr {x : Operand} (hx : ρ x = ρ2 x) (hp : plainF P o ρ = plainF P o ρ2) (hk : ∀ k ∈ refKey (ρ x), G k = G2 k) : opNilCheck P call G o ρ x = opNilCheck P call G2 o ρ2 x := by
  unfold opNilCheck
  rw [← hx, ← hp]
  have hl := live_congr hk
  cases e : ρ x with
  | fn f as cs => cases f <;> rfl
  | ref k g off => rw [e] at hl; simp only [hl]
  | _ => rfl
theorem opBinOp_congr {op : BinOp} {t : TypeId} {x y : Operand} (hx : ρ x = ρ2 x) (hy : ρ y = ρ2 y) (hp : plainF P o ρ = plainF P o ρ2) (hk : ∀ k ∈ refKey (ρ x) ++ refKey (ρ y), G k = G2 k) : opBinOp P call G o ρ op t x y = opBinOp P call G2 o ρ2 op t x y := by
  unfold opBinOp
  rw [← hx, ← hy, ← hp, nilCmp_congr hk]
theorem opSlice_congr {t : TypeId} {x : Operand} {lo hi mx : Option Operand} (hx : ρ x = ρ2 x) (h1 : lo.map ρ = lo.map ρ2) (h2 : hi.map ρ = hi.map ρ2) (h3 : mx.map ρ = mx.map ρ2) (hp : plainF P o ρ = plainF P o ρ2) (hk : ∀ k ∈ refKey (ρ x), G k = G2 k) :
    opSlice P call G o ρ t x lo hi mx = opSlice P call G2 o ρ2 t x lo hi mx := by
  unfold opSlice
  rw [← hx, ← h1, ← h2, ← h3, ← hp]
  cases e : ρ x with
  | sl k g off n sz => simp only [cellsAt_congr (hk k (by rw [e]; simp [refKey]))]
  | vec tok es => cases tok <;> rfl
  | _ => rfl
theorem opFieldAddr_congr {s : TypeId} {x : Operand} {f : Nat} (hx : ρ x = ρ2 x) (hk : ∀ k ∈ refKey (ρ x), G k = G2 k) : opFieldAddr P call G o ρ s x f = opFieldAddr P call G2 o ρ2 s x f := by
  unfold opFieldAddr
  rw [← hx]
  cases e : ρ x with
  | ref k g off => simp only [cellsAt_congr (hk k (by rw [e]; simp [refKey]))]
  | _ => rfl
theorem opIndexAddr_congr {t : TypeId} {x ix : Operand} (hx : ρ x = ρ2 x) (hi : ρ ix = ρ2 ix) (hk : ∀ k ∈ refKey (ρ x), G k = G2 k) : opIndexAddr P call G o ρ t x ix = opIndexAddr P call G2 o ρ2 t x ix := by
  unfold opIndexAddr
  rw [← hx, ← hi]
  simp only [Option.bind_eq_bind]
  refine Option.bind_congr fun i _ => ?_
  split
  · rfl
  · rename_i e
    rw [cellsAt_congr (hk _ (by rw [e]; simp [refKey]))]
  · rename_i e
    rw [cellsAt_congr (hk _ (by rw [e]; simp [refKey]))]
  · rfl
  · rfl
theorem opMakeSlice_congr {t : TypeId} {l c : Operand} (hl : ρ l = ρ2 l) (hc : ρ c = ρ2 c) (h : opMakeSlice P call G o ρ t l c = some r) (hk : ∀ k ∈ wsOf r, G k = G2 k) : opMakeSlice P call G2 o ρ2 t l c = some r := by
  unfold opMakeSlice at h ⊢
  simp only [Option.bind_eq_bind, Option.bind_eq_some_iff] at h ⊢
  obtain ⟨elem, he, info, hi, z, hz, p, hp, zc, hzc, n, hn, m, hm, d, hd, h⟩ := h
  have hk0 : ∀ k ∈ cellKeys p, G k = G2 k := fun k hk => by rw [ofVal_keys hp] at hk; cases hk
  refine ⟨elem, he, info, hi, z, hz, p, hp, zc, by rw [← cells?_congr hk0]; exact hzc, n, by rw [← hl]; exact hn, m, by rw [← hc]; exact hm, d, hd, ?_⟩
  rw [← all_one_congr hk0 hzc]
  split at h
  · rename_i hcnd
    rw [if_pos hcnd]
    split at h
    · rename_i e
      rw [if_pos e]
      cases h
      rw [← hk (.loc d) (by simp [wsOf])]
    · rename_i e
      rw [if_neg e]
      split at h
      · rename_i e2
        rw [if_pos e2]
        cases h
        rw [← hk (.loc d) (by simp [wsOf])]
      · cases h
  · cases h
theorem opMakeMap_congr {t : TypeId} {x : Option Operand} (hx : ∀ z ∈ x, ρ z = ρ2 z) (h : opMakeMap P call G o ρ t x = some r) (hk : ∀ k ∈ wsOf r, G k = G2 k) : opMakeMap P call G2 o ρ2 t x = some r := by
  unfold opMakeMap at h ⊢
  cases x with
  | none =>
    simp only [Option.bind_eq_bind, Option.bind_eq_some_iff, Option.some.injEq] at h ⊢
    obtain ⟨n, hn, d, hd, rfl⟩ := h
    exact ⟨n, hn, d, hd, by rw [← hk (.loc d) (by simp [wsOf])]⟩
  | some z =>
    simp only [Option.bind_eq_bind, Option.bind_eq_some_iff, Option.some.injEq] at h ⊢
    rw [← hx z rfl]
    obtain ⟨n, hn, d, hd, rfl⟩ := h
    exact ⟨n, hn, d, hd, by rw [← hk (.loc d) (by simp [wsOf])]⟩
theorem opMapUpdate_congr {t : TypeId} {m k x : Operand} (hm : ρ m = ρ2 m) (hkk : ρ k = ρ2 k) (hx : ρ x = ρ2 x) (hk : ∀ k ∈ refKey (ρ m), G k = G2 k) : opMapUpdate P call G o ρ t m k x = opMapUpdate P call G2 o ρ2 t m k x := by
  unfold opMapUpdate
  rw [← hm, ← hkk, ← hx]
  cases e : ρ m with
  | mref q g =>
    cases ρ k with
    | v kv => simp only [mapAt_congr (hk q (by rw [e]; simp [refKey]))]
    | _ => rfl
  | _ => rfl
theorem mapOf_congr {p : PV} (hk : ∀ k ∈ refKey p, G k = G2 k) : mapOf G p = mapOf G2 p := by
  cases p <;> try rfl
  case mref k g => simp only [mapOf]; rw [mapAt_congr (hk _ (by simp [refKey]))]
  case v x =>
    cases x <;> try rfl
    case map m => cases m <;> rfl
theorem opLookup_congr {t : TypeId} {m k : Operand} {ok : Bool} (hm : ρ m = ρ2 m) (hkk : ρ k = ρ2 k) (hk : ∀ k ∈ refKey (ρ m), G k = G2 k) : opLookup P call G o ρ t m k ok = opLookup P call G2 o ρ2 t m k ok := by
  unfold opLookup
  rw [← hm, ← hkk, mapOf_congr hk]

theorem opCall_congr {c : Call} (hop : o.op = .call c) (hρ : ∀ x ∈ o.op.operands, ρ x = ρ2 x) (hp : plainF P o ρ = plainF P o ρ2) (h : opCall P call G o ρ c = some r) (hk : ∀ k ∈ keysOf P G o ρ ++ wsOf r, G k = G2 k) : opCall P call G2 o ρ2 c = some r := by
  have hargs : c.args.toList.map ρ = c.args.toList.map ρ2 := List.map_congr_left fun x hx => hρ x (by rw [hop]; simp only [Op.operands, Call.operands, Array.mem_append]; exact .inr (by simpa using hx))
  unfold keysOf at hk
  unfold opCall at h ⊢
  cases hcal : c.callee with
  | builtin b =>
    simp only [hcal, hop] at hk h ⊢
    cases b <;> simp only at hk h ⊢
    case append =>
      cases ha : c.args.toList with
      | nil => rw [ha] at h; cases h
      | cons s l =>
        cases l with
        | nil => rw [ha] at h; cases h
        | cons x l =>
          cases l with
          | cons y l => rw [ha] at h; cases h
          | nil =>
            rw [ha] at hargs h hk
            simp only [List.map_cons, List.map_nil, List.cons.injEq, and_true] at hargs h hk ⊢
            rw [← hargs.1, ← hargs.2]
            exact appendP_congr h hk
    case copy =>
      cases ha : c.args.toList with
      | nil => rw [ha] at h; cases h
      | cons d l =>
        cases l with
        | nil => rw [ha] at h; cases h
        | cons s l =>
          cases l with
          | cons y l => rw [ha] at h; cases h
          | nil =>
            rw [ha] at hargs h hk
            simp only [List.map_cons, List.map_nil, List.cons.injEq, and_true] at hargs h hk ⊢
            rw [← hargs.1, ← hargs.2, ← copyP_congr (G := G) (G2 := G2) (P := P) (ats := c.argTypes) (d := ρ d) (s := ρ s) (fun k hk' => hk k (by simp; exact .inl hk')) (fun k hk' => hk k (by simp; exact .inr (.inl hk')))]
            exact h
    case len =>
      rw [← hargs, ← hp]
      split at h
      · rename_i x hx
        rw [hx] at hk
        have hk' : ∀ k ∈ refKey x, G k = G2 k := fun k h => hk k (by simp [h])
        split at h
        · exact h
        · exact h
        · rw [← cellsAt_congr (hk' _ (by simp [refKey]))]; exact h
        · rw [← mapAt_congr (hk' _ (by simp [refKey]))]; exact h
        · exact h
        · exact h
      · exact h
    case panic => rw [← hargs]; exact h
    all_goals (rw [← hp]; exact h)
  | invoke x m =>
    simp only [hcal, hop] at hk h ⊢
    have hx : ρ x = ρ2 x := hρ x (by rw [hop]; simp [Op.operands, Call.operands, hcal])
    rw [← hx, ← hargs]
    cases e : methodOf P (ρ x) m with
    | none => rw [e] at h; cases h
    | some fr =>
      obtain ⟨fid, recv⟩ := fr
      rw [e] at h hk
      simp only at h hk ⊢
      split at h
      · rename_i he
        rw [if_pos he]
        exact callP_congr h hk
      · cases h
  | value f =>
    simp only [hcal, hop] at hk h ⊢
    have hf : ρ f = ρ2 f := hρ f (by rw [hop]; simp [Op.operands, Call.operands, hcal])
    rw [← hf, ← hargs]
    cases e : fnOf P (ρ f) (c.args.toList.map ρ) with
    | none => rw [e] at h; cases h
    | some fa =>
      obtain ⟨fid, args⟩ := fa
      rw [e] at h hk
      simp only at h hk ⊢
      split at h
      · rename_i he
        rw [if_pos he]
        exact callP_congr h hk
      · cases h

theorem opEval_congr (hρ : ∀ x ∈ o.op.operands, ρ x = ρ2 x) (h : opEval P call G o ρ = some r) (hG : ∀ k ∈ keysOf P G o ρ ++ wsOf r, G k = G2 k) : opEval P call G2 o ρ2 = some r := by
  have hp := plainF_congr (P := P) hρ
  have hk1 : ∀ k ∈ keysOf P G o ρ, G k = G2 k := fun k h => hG k (List.mem_append_left _ h)
  have hk2 : ∀ k ∈ wsOf r, G k = G2 k := fun k h => hG k (List.mem_append_right _ h)
  unfold opEval at h ⊢
  cases hop : o.op <;> rw [hop] at hρ <;> simp only [hop] at h ⊢ <;> simp only [keysOf, hop] at hk1
  case move x => rw [← hρ x (by simp [Op.operands])]; exact h
  case assign x => rw [← hρ x (by simp [Op.operands])]; exact h
  case pick c x y =>
    unfold opPick at h ⊢
    rw [← hρ c (by simp [Op.operands]), ← hρ x (by simp [Op.operands]), ← hρ y (by simp [Op.operands])]; exact h
  case alloc elem => exact opAlloc_congr h hk2
  case box elem x =>
    refine opBox_congr (hρ x (by simp [Op.operands])) h fun k hk => ?_
    rcases List.mem_append.1 hk with hk | hk
    · exact hk1 k hk
    · exact hk2 k hk
  case build t parts => rw [← opBuild_congr (fun x hx => hρ x.2 (by simp only [Op.operands, List.mem_toArray, List.mem_map]; exact ⟨x, hx, rfl⟩)) hk1]; exact h
  case buildSlice t len parts => rw [← opBuildSlice_congr (fun x hx => hρ x.2 (by simp only [Op.operands, List.mem_toArray, List.mem_map]; exact ⟨x, hx, rfl⟩)) hk1]; exact h
  case load t x => rw [← opLoad_congr (hρ x (by simp [Op.operands])) hk1]; exact h
  case store t x y => rw [← opStore_congr (hρ x (by simp [Op.operands])) (hρ y (by simp [Op.operands])) hk1]; exact h
  case nilCheck x => rw [← opNilCheck_congr (hρ x (by simp [Op.operands])) hp hk1]; exact h
  case binOp op xt x y yt => rw [← opBinOp_congr (hρ x (by simp [Op.operands])) (hρ y (by simp [Op.operands])) hp hk1]; exact h
  case makeInterface t x =>
    unfold opMakeInterface at h ⊢
    rw [← hρ x (by simp [Op.operands])]; exact h
  case makeFunc fn first captured =>
    unfold opMakeFunc at h ⊢
    rw [← List.map_congr_left (l := first.toList) (f := ρ) (g := ρ2) fun x hx => hρ x (by simp [Op.operands]; exact .inl (by simpa using hx)),
      ← List.map_congr_left (l := captured.toList) (f := ρ) (g := ρ2) fun x hx => hρ x (by simp [Op.operands]; exact .inr (by simpa using hx))]
    exact h
  case slice t x lo hi mx =>
    have h1 : lo.map ρ = lo.map ρ2 := by cases lo with | none => rfl | some z => simp [hρ z (by simp [Op.operands])]
    have h2 : hi.map ρ = hi.map ρ2 := by cases hi with | none => rfl | some z => simp [hρ z (by simp [Op.operands])]
    have h3 : mx.map ρ = mx.map ρ2 := by cases mx with | none => rfl | some z => simp [hρ z (by simp [Op.operands])]
    rw [← opSlice_congr (hρ x (by simp [Op.operands])) h1 h2 h3 hp hk1]; exact h
  case fieldAddr s x f => rw [← opFieldAddr_congr (hρ x (by simp [Op.operands])) hk1]; exact h
  case field t x f =>
    unfold opField at h ⊢
    rw [← hρ x (by simp [Op.operands])]; exact h
  case indexAddr t x ix => rw [← opIndexAddr_congr (hρ x (by simp [Op.operands])) (hρ ix (by simp [Op.operands])) hk1]; exact h
  case index t x ix =>
    unfold opIndex at h ⊢
    rw [← hρ x (by simp [Op.operands]), ← hρ ix (by simp [Op.operands]), ← hp]; exact h
  case extract x i =>
    unfold opExtract at h ⊢
    rw [← hρ x (by simp [Op.operands])]; exact h
  case call c => exact opCall_congr hop (by rw [hop]; exact hρ) hp h hG
  case panic x =>
    unfold opPanic at h ⊢
    rw [← hρ x (by simp [Op.operands])]; exact h
  case makeSlice t l c => exact opMakeSlice_congr (hρ l (by simp [Op.operands])) (hρ c (by simp [Op.operands])) h hk2
  case makeMap t x => exact opMakeMap_congr (fun z hz => hρ z (by cases hz; simp [Op.operands])) h hk2
  case mapUpdate t m k x => rw [← opMapUpdate_congr (hρ m (by simp [Op.operands])) (hρ k (by simp [Op.operands])) (hρ x (by simp [Op.operands])) hk1]; exact h
  case insert t m k x => rw [← opMapUpdate_congr (hρ m (by simp [Op.operands])) (hρ k (by simp [Op.operands])) (hρ x (by simp [Op.operands])) hk1]; exact h
  case lookup t m k ok => rw [← opLookup_congr (hρ m (by simp [Op.operands])) (hρ k (by simp [Op.operands])) hk1]; exact h
  case typeAssert x xt asserted ok =>
    unfold opTypeAssert at h ⊢
    rw [← hρ x (by simp [Op.operands]), ← hp]; exact h
  case unOp => rw [← hp]; exact h
  case convert => rw [← hp]; exact h
  all_goals cases h
end
end Go.Pv
