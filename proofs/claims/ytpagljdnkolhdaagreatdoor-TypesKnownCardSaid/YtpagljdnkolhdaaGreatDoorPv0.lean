/- Values without addresses, what they mean in a world, and that this meaning stays while the world grows. No condition. -/
import Derived.WalkKit
import Derived.Laws.CopyRow
import Derived.Laws.AppendOwn
import Derived.Scope
set_option linter.unusedSimpArgs false
set_option linter.unusedVariables false
namespace Go.Pv
open Go.RowKit

/-- The name of a variable: one of the caller's that was handed over, or one of the call's own (by the slot that first names it). -/
inductive Key where
  | bor (k : Nat)
  | loc (s : Nat)
  deriving DecidableEq, Inhabited

/-- What is known of the room behind a slice's end. -/
inductive Tok where
  | nil
  | no
  | exact
  | line (k : Key) (g : Nat)
  deriving DecidableEq, Inhabited

inductive PV where
  | any
  | v (x : Value)
  | agg (cs : List PV)
  | tup (cs : List PV)
  | ref (k : Key) (g off : Nat)
  | eptr (cs : List PV) (off : Nat)
  | vec (tok : Tok) (es : List PV)
  | fn (f : Fn) (first captured : List PV)
  | iface (t : TypeId) (x : PV)
  | sl (k : Key) (g off n sz : Nat)
  | mref (k : Key) (g : Nat)
  | imap (ks : List Value) (vs : List PV)
  deriving Inhabited

inductive Ent where
  | none
  | cells (cs : List PV)
  | top (n : Nat) (e : TypeId) (sz : Nat)
  | map (ks : List Value) (vs : List PV)
  deriving Inhabited

def Ent.alike : Ent → Ent → Prop
  | .cells _, .cells _ => True
  | .top _ _ _, .top _ _ _ => True
  | .map _ _, .map _ _ => True
  | _, _ => False
def Ent.boxy : Ent → Prop
  | .cells _ | .map _ _ => True
  | _ => False

abbrev Get := Key → Nat × Ent

structure Env where
  β : Key → Nat
  lim : Nat → Nat

/-- The row that a line owns: its block is the slice's alone, up to its end. -/
def Owns (w : World) (E : Env) (b n c sz : Nat) (e : TypeId) : Prop := (∃ arr, w.heap[b]? = some (.cells arr e (0, 0)) ∧ arr.size = c * sz) ∧ E.lim b = n * sz

/-- The row of a block has at least so many cells. -/
def Room (w : World) (b m : Nat) : Prop := ∃ arr t, w.heap[b]? = some (.cells arr t (0, 0)) ∧ m ≤ arr.size

def TokOk (w : World) (E : Env) (G : Get) (tok : Tok) (n b o c sz : Nat) : Prop :=
  match tok with
  | .nil => False
  | .no => True
  | .exact => c = n
  | .line k g => g < (G k).1 ∨ (g = (G k).1 ∧ ∃ m e, (G k).2 = .top m e sz ∧ n ≤ m ∧ (n = m → b = E.β k ∧ o = 0 ∧ Owns w E b n c sz e))

section
variable (w : World) (E : Env) (G : Get)
mutual
def Rel : PV → Value → Prop
  | .any, _ => True
  | .v x, u => u = x
  | .agg cs, u => ∃ vs : List Value, u = .agg vs.toArray ∧ RelL cs vs
  | .tup cs, u => ∃ vs : List Value, u = .tuple vs.toArray ∧ RelL cs vs
  | .ref k g off, u => g < (G k).1 ∨ (g = (G k).1 ∧ (∃ cs, (G k).2 = .cells cs) ∧ u = .pointer (some ⟨E.β k, off, none⟩))
  | .eptr cs off, u => ∃ b o, u = .pointer (some ⟨b, o + off, none⟩) ∧ RelC cs b o
  | .vec tok es, u => (tok = .nil ∧ es = [] ∧ u = .slice none 0 0) ∨ ∃ b o c sz, u = .slice (some ⟨b, o, none⟩) es.length c ∧ es.length ≤ c ∧ TokOk w E G tok es.length b o c sz ∧ RelR es b o sz
  | .fn f as cs, u => ∃ xs ys : List Value, u = .func f xs.toArray ys.toArray ∧ RelL as xs ∧ RelL cs ys
  | .iface t p, u => ∃ x, u = .iface t x ∧ Rel p x
  | .sl k g off n sz, u => g < (G k).1 ∨ (g = (G k).1 ∧ (∃ cs, (G k).2 = .cells cs) ∧ ∃ c, n ≤ c ∧ u = .slice (some ⟨E.β k, off, none⟩) n c ∧ Room w (E.β k) (off + c * sz))
  | .mref k g, u => g < (G k).1 ∨ (g = (G k).1 ∧ (∃ ks vs, (G k).2 = .map ks vs) ∧ u = .map (some (E.β k)))
  | .imap ks vs, u => ∃ r es c, u = .map (some r) ∧ 0 < E.lim r ∧ w.heap[r]? = some (.map es c) ∧ es.toList.map (·.key) = ks ∧ RelL vs (es.toList.map (·.val))
def RelL : List PV → List Value → Prop
  | [], vs => vs = []
  | p :: ps, vs => ∃ x xs, vs = x :: xs ∧ Rel p x ∧ RelL ps xs
def RelC : List PV → Nat → Nat → Prop
  | [], _, _ => True
  | p :: ps, b, o => (o < E.lim b ∧ ∃ u, w.cell? ⟨b, o, none⟩ = some u ∧ u.oneCell' = true ∧ Rel p u) ∧ RelC ps b (o + 1)
def RelR : List PV → Nat → Nat → Nat → Prop
  | [], _, _, _ => True
  | p :: ps, b, o, sz => (match p with
      | .agg cs => cs.length = sz ∧ RelC cs b o
      | q => sz = 1 ∧ o < E.lim b ∧ ∃ u, w.cell? ⟨b, o, none⟩ = some u ∧ u.oneCell' = true ∧ Rel q u) ∧ RelR ps b (o + sz) sz
end
end

/-- The world has moved on, and nothing that a value without addresses means has been touched. -/
structure Mono (w : World) (E : Env) (G : Get) (w' : World) (E' : Env) (G' : Get) : Prop where
  gen : ∀ k, (G k).1 ≤ (G' k).1
  keep : ∀ k, (G k).1 = (G' k).1 → (G k).2.boxy → (G k).2.alike (G' k).2 ∧ E'.β k = E.β k ∧ ∀ m, Room w (E.β k) m → Room w' (E.β k) m
  mapk : ∀ b es c, 0 < E.lim b → w.heap[b]? = some (.map es c) → 0 < E'.lim b ∧ w'.heap[b]? = some (.map es c)
  cell : ∀ b o u, o < E.lim b → w.cell? ⟨b, o, none⟩ = some u → o < E'.lim b ∧ w'.cell? ⟨b, o, none⟩ = some u
  top : ∀ k n e sz, (G k).1 = (G' k).1 → (G k).2 = .top n e sz → ∃ n', (G' k).2 = .top n' e sz ∧ n ≤ n' ∧
    (n' = n → E'.β k = E.β k ∧ E'.lim (E.β k) = E.lim (E.β k) ∧ ∀ arr t, w.heap[E.β k]? = some (.cells arr t (0, 0)) → ∃ arr', w'.heap[E.β k]? = some (.cells arr' t (0, 0)) ∧ arr'.size = arr.size)

theorem Ent.alike_boxy {e : Ent} (h : e.boxy) : e.alike e := by cases e <;> simp_all [Ent.alike, Ent.boxy]
theorem Ent.alike_trans {e f g : Ent} (h : e.alike f) (k : f.alike g) : e.alike g := by cases e <;> cases f <;> cases g <;> simp_all [Ent.alike]
theorem Ent.boxy_of {e f : Ent} (h : e.alike f) (k : e.boxy) : f.boxy := by cases e <;> cases f <;> simp_all [Ent.alike, Ent.boxy]
theorem Ent.alike_cells {f : Ent} {cs : List PV} (h : (Ent.cells cs).alike f) : ∃ cs', f = .cells cs' := by cases f <;> simp_all [Ent.alike]
theorem Ent.alike_map {f : Ent} {ks : List Value} {vs : List PV} (h : (Ent.map ks vs).alike f) : ∃ ks' vs', f = .map ks' vs' := by cases f <;> simp_all [Ent.alike]

theorem Mono.rfl {w : World} {E : Env} {G : Get} : Mono w E G w E G :=
  ⟨fun _ => Nat.le_refl _, fun _ _ h => ⟨Ent.alike_boxy h, _root_.rfl, fun _ h => h⟩, fun _ _ _ h k => ⟨h, k⟩, fun _ _ _ h k => ⟨h, k⟩, fun _ n _ _ _ h => ⟨n, h, Nat.le_refl _, fun _ => ⟨_root_.rfl, _root_.rfl, fun arr _ h => ⟨arr, h, _root_.rfl⟩⟩⟩⟩

theorem Mono.trans {w w1 w2 : World} {E E1 E2 : Env} {G G1 G2 : Get} (h : Mono w E G w1 E1 G1) (k : Mono w1 E1 G1 w2 E2 G2) : Mono w E G w2 E2 G2 := by
  refine ⟨fun q => Nat.le_trans (h.gen q) (k.gen q), ?_, fun b es c hl hh => (let ⟨h1, h2⟩ := h.mapk b es c hl hh; k.mapk b es c h1 h2), ?_, ?_⟩
  · intro q e hq
    have e1 : (G q).1 = (G1 q).1 := by have := h.gen q; have := k.gen q; omega
    obtain ⟨h1, b1, r1⟩ := h.keep q e1 hq
    obtain ⟨h2, b2, r2⟩ := k.keep q (by omega) (Ent.boxy_of h1 hq)
    exact ⟨Ent.alike_trans h1 h2, b2.trans b1, fun m hm => by have := r2 m (by rw [b1]; exact r1 m hm); rwa [b1] at this⟩
  · intro b o u ho hc
    obtain ⟨h1, h2⟩ := h.cell b o u ho hc
    exact k.cell b o u h1 h2
  · intro q n el sz e hq
    have e1 : (G q).1 = (G1 q).1 := by have := h.gen q; have := k.gen q; omega
    obtain ⟨n1, h1, le1, f1⟩ := h.top q n el sz e1 hq
    obtain ⟨n2, h2, le2, f2⟩ := k.top q n1 el sz (by omega) h1
    refine ⟨n2, h2, by omega, fun en => ?_⟩
    obtain ⟨a1, l1, p1⟩ := f1 (by omega)
    obtain ⟨a2, l2, p2⟩ := f2 (by omega)
    rw [a1] at a2 l2 p2
    refine ⟨a2, l2.trans l1, fun arr t hh => ?_⟩
    obtain ⟨arr1, g1, s1⟩ := p1 arr t hh
    obtain ⟨arr2, g2, s2⟩ := p2 arr1 t g1
    exact ⟨arr2, g2, s2.trans s1⟩

section
variable {w w' : World} {E E' : Env} {G G' : Get}
theorem TokOk.mono (M : Mono w E G w' E' G') {tok : Tok} {n b o c sz : Nat} (h : TokOk w E G tok n b o c sz) : TokOk w' E' G' tok n b o c sz := by
  cases tok with
  | nil => exact h
  | no => trivial
  | exact => exact h
  | line k g =>
    have := M.gen k
    rcases h with h | ⟨e, m, el, hm, hle, hx⟩
    · exact .inl (Nat.lt_of_lt_of_le h this)
    · by_cases eg : (G k).1 = (G' k).1
      · obtain ⟨m', h1, h2, h3⟩ := M.top k m el sz eg hm
        refine .inr ⟨e.trans eg, m', el, h1, by omega, fun en => ?_⟩
        obtain ⟨rfl, ho, ⟨arr, hh, hs⟩, hl⟩ := hx (by omega)
        obtain ⟨b1, l1, p1⟩ := h3 (by omega)
        obtain ⟨arr', hh', hs'⟩ := p1 arr el hh
        exact ⟨b1.symm, ho, ⟨arr', hh', hs'.trans hs⟩, l1.trans hl⟩
      · exact .inl (by omega)
mutual
theorem Rel.mono (M : Mono w E G w' E' G') : ∀ (p : PV) (u : Value), Rel w E G p u → Rel w' E' G' p u
  | .any, _, _ => by simp only [Rel]
  | .v x, u, h => by simp only [Rel] at h ⊢; exact h
  | .agg cs, u, h => by simp only [Rel] at h ⊢; obtain ⟨vs, e, k⟩ := h; exact ⟨vs, e, RelL.mono M cs vs k⟩
  | .tup cs, u, h => by simp only [Rel] at h ⊢; obtain ⟨vs, e, k⟩ := h; exact ⟨vs, e, RelL.mono M cs vs k⟩
  | .ref k g off, u, h => by
    simp only [Rel] at h ⊢
    have := M.gen k
    rcases h with h | ⟨e, ⟨cs, hc⟩, hu⟩
    · exact .inl (by omega)
    · by_cases eg : (G k).1 = (G' k).1
      · obtain ⟨h1, h2, _⟩ := M.keep k eg (by rw [hc]; trivial)
        rw [hc] at h1
        exact .inr ⟨e.trans eg, Ent.alike_cells h1, by rw [h2]; exact hu⟩
      · exact .inl (by omega)
  | .eptr cs off, u, h => by simp only [Rel] at h ⊢; obtain ⟨b, o, e, k⟩ := h; exact ⟨b, o, e, RelC.mono M cs b o k⟩
  | .vec tok es, u, h => by
    simp only [Rel] at h ⊢
    rcases h with h | ⟨b, o, c, sz, e, hl, ht, k⟩
    · exact .inl h
    · exact .inr ⟨b, o, c, sz, e, hl, ht.mono M, RelR.mono M es b o sz k⟩
  | .fn f as cs, u, h => by simp only [Rel] at h ⊢; obtain ⟨xs, ys, e, k1, k2⟩ := h; exact ⟨xs, ys, e, RelL.mono M as xs k1, RelL.mono M cs ys k2⟩
  | .iface t p, u, h => by simp only [Rel] at h ⊢; obtain ⟨x, e, k⟩ := h; exact ⟨x, e, Rel.mono M p x k⟩
  | .sl k g off n sz, u, h => by
    simp only [Rel] at h ⊢
    have := M.gen k
    rcases h with h | ⟨e, ⟨cs, hc⟩, c, hn, hu, hr⟩
    · exact .inl (by omega)
    · by_cases eg : (G k).1 = (G' k).1
      · obtain ⟨h1, h2, h3⟩ := M.keep k eg (by rw [hc]; trivial)
        rw [hc] at h1
        exact .inr ⟨e.trans eg, Ent.alike_cells h1, c, hn, by rw [h2]; exact hu, by rw [h2]; exact h3 _ hr⟩
      · exact .inl (by omega)
  | .mref k g, u, h => by
    simp only [Rel] at h ⊢
    have := M.gen k
    rcases h with h | ⟨e, ⟨ks, vs, hc⟩, hu⟩
    · exact .inl (by omega)
    · by_cases eg : (G k).1 = (G' k).1
      · obtain ⟨h1, h2, _⟩ := M.keep k eg (by rw [hc]; trivial)
        rw [hc] at h1
        exact .inr ⟨e.trans eg, Ent.alike_map h1, by rw [h2]; exact hu⟩
      · exact .inl (by omega)
  | .imap ks vs, u, h => by
    simp only [Rel] at h ⊢
    obtain ⟨r, es, c, hu, hl, hh, hk, hv⟩ := h
    obtain ⟨h1, h2⟩ := M.mapk r es c hl hh
    exact ⟨r, es, c, hu, h1, h2, hk, RelL.mono M vs _ hv⟩
theorem RelL.mono (M : Mono w E G w' E' G') : ∀ (ps : List PV) (vs : List Value), RelL w E G ps vs → RelL w' E' G' ps vs
  | [], vs, h => by simp only [RelL] at h ⊢; exact h
  | p :: ps, vs, h => by simp only [RelL] at h ⊢; obtain ⟨x, xs, e, k1, k2⟩ := h; exact ⟨x, xs, e, Rel.mono M p x k1, RelL.mono M ps xs k2⟩
theorem RelC.mono (M : Mono w E G w' E' G') : ∀ (ps : List PV) (b o : Nat), RelC w E G ps b o → RelC w' E' G' ps b o
  | [], _, _, _ => by simp only [RelC]
  | p :: ps, b, o, h => by
    simp only [RelC] at h ⊢
    obtain ⟨⟨hl, u, hc, ho, hr⟩, k⟩ := h
    obtain ⟨h1, h2⟩ := M.cell b o u hl hc
    exact ⟨⟨h1, u, h2, ho, Rel.mono M p u hr⟩, RelC.mono M ps b (o + 1) k⟩
theorem RelR.mono (M : Mono w E G w' E' G') : ∀ (ps : List PV) (b o sz : Nat), RelR w E G ps b o sz → RelR w' E' G' ps b o sz
  | [], _, _, _, _ => by simp only [RelR]
  | .agg cs :: ps, b, o, sz, h => by
    simp only [RelR] at h ⊢
    exact ⟨⟨h.1.1, RelC.mono M cs b o h.1.2⟩, RelR.mono M ps b (o + sz) sz h.2⟩
  | .any :: ps, b, o, sz, h => by
    simp only [RelR] at h ⊢
    obtain ⟨⟨hs, hl, u, hc, ho, hr⟩, k⟩ := h
    obtain ⟨h1, h2⟩ := M.cell b o u hl hc
    exact ⟨⟨hs, h1, u, h2, ho, Rel.mono M .any u hr⟩, RelR.mono M ps b (o + sz) sz k⟩
  | .v x :: ps, b, o, sz, h => by
    simp only [RelR] at h ⊢
    obtain ⟨⟨hs, hl, u, hc, ho, hr⟩, k⟩ := h
    obtain ⟨h1, h2⟩ := M.cell b o u hl hc
    exact ⟨⟨hs, h1, u, h2, ho, Rel.mono M (.v x) u hr⟩, RelR.mono M ps b (o + sz) sz k⟩
  | .tup x :: ps, b, o, sz, h => by
    simp only [RelR] at h ⊢
    obtain ⟨⟨hs, hl, u, hc, ho, hr⟩, k⟩ := h
    obtain ⟨h1, h2⟩ := M.cell b o u hl hc
    exact ⟨⟨hs, h1, u, h2, ho, Rel.mono M (.tup x) u hr⟩, RelR.mono M ps b (o + sz) sz k⟩
  | .ref x y z :: ps, b, o, sz, h => by
    simp only [RelR] at h ⊢
    obtain ⟨⟨hs, hl, u, hc, ho, hr⟩, k⟩ := h
    obtain ⟨h1, h2⟩ := M.cell b o u hl hc
    exact ⟨⟨hs, h1, u, h2, ho, Rel.mono M (.ref x y z) u hr⟩, RelR.mono M ps b (o + sz) sz k⟩
  | .eptr x y :: ps, b, o, sz, h => by
    simp only [RelR] at h ⊢
    obtain ⟨⟨hs, hl, u, hc, ho, hr⟩, k⟩ := h
    obtain ⟨h1, h2⟩ := M.cell b o u hl hc
    exact ⟨⟨hs, h1, u, h2, ho, Rel.mono M (.eptr x y) u hr⟩, RelR.mono M ps b (o + sz) sz k⟩
  | .vec x y :: ps, b, o, sz, h => by
    simp only [RelR] at h ⊢
    obtain ⟨⟨hs, hl, u, hc, ho, hr⟩, k⟩ := h
    obtain ⟨h1, h2⟩ := M.cell b o u hl hc
    exact ⟨⟨hs, h1, u, h2, ho, Rel.mono M (.vec x y) u hr⟩, RelR.mono M ps b (o + sz) sz k⟩
  | .fn x y z :: ps, b, o, sz, h => by
    simp only [RelR] at h ⊢
    obtain ⟨⟨hs, hl, u, hc, ho, hr⟩, k⟩ := h
    obtain ⟨h1, h2⟩ := M.cell b o u hl hc
    exact ⟨⟨hs, h1, u, h2, ho, Rel.mono M (.fn x y z) u hr⟩, RelR.mono M ps b (o + sz) sz k⟩
  | .iface x y :: ps, b, o, sz, h => by
    simp only [RelR] at h ⊢
    obtain ⟨⟨hs, hl, u, hc, ho, hr⟩, k⟩ := h
    obtain ⟨h1, h2⟩ := M.cell b o u hl hc
    exact ⟨⟨hs, h1, u, h2, ho, Rel.mono M (.iface x y) u hr⟩, RelR.mono M ps b (o + sz) sz k⟩
  | .sl q1 q2 x y z :: ps, b, o, sz, h => by
    simp only [RelR] at h ⊢
    obtain ⟨⟨hs, hl, u, hc, ho, hr⟩, k⟩ := h
    obtain ⟨h1, h2⟩ := M.cell b o u hl hc
    exact ⟨⟨hs, h1, u, h2, ho, Rel.mono M (.sl q1 q2 x y z) u hr⟩, RelR.mono M ps b (o + sz) sz k⟩
  | .mref q1 q2 :: ps, b, o, sz, h => by
    simp only [RelR] at h ⊢
    obtain ⟨⟨hs, hl, u, hc, ho, hr⟩, k⟩ := h
    obtain ⟨h1, h2⟩ := M.cell b o u hl hc
    exact ⟨⟨hs, h1, u, h2, ho, Rel.mono M (.mref q1 q2) u hr⟩, RelR.mono M ps b (o + sz) sz k⟩
  | .imap x y :: ps, b, o, sz, h => by
    simp only [RelR] at h ⊢
    obtain ⟨⟨hs, hl, u, hc, ho, hr⟩, k⟩ := h
    obtain ⟨h1, h2⟩ := M.cell b o u hl hc
    exact ⟨⟨hs, h1, u, h2, ho, Rel.mono M (.imap x y) u hr⟩, RelR.mono M ps b (o + sz) sz k⟩
end
end
end Go.Pv
namespace Go.Pv

/-- What a computation gives that looks at no world. -/
def pureRun {α : Type} (P : Program) : Sem α → Option α
  | .pure a => some a
  | .program k => pureRun P (k P)
  | .mark _ k => pureRun P k
  | _ => none

def plainV : Value → Bool
  | .bool _ | .int _ _ | .float _ _ | .complex _ _ _ | .string _ | .pointer none | .map none | .chan none | .nilFunc | .nilIface => true
  | _ => false

def ofCell : Value → Option PV
  | .iface t x => match x with
    | .agg cs => if cs.toList.all plainV then some (.iface t (.agg (cs.toList.map .v))) else none
    | x => if plainV x then some (.iface t (.v x)) else none
  | .func f as cs => if as.size = 0 ∧ cs.size = 0 then some (.fn f [] []) else none
  | .slice none 0 0 => some (.vec .nil [])
  | x => if plainV x then some (.v x) else none
def ofCells : List Value → Option (List PV)
  | [] => some []
  | x :: xs => do let p ← ofCell x; let ps ← ofCells xs; pure (p :: ps)
def ofVal : Value → Option PV
  | .agg cs => (ofCells cs.toList).map .agg
  | .tuple cs => (ofCells cs.toList).map .tup
  | x => ofCell x

mutual
def toVal : PV → Option Value
  | .v x => some x
  | .agg cs => (toVals cs).map fun l => .agg l.toArray
  | .tup cs => (toVals cs).map fun l => .tuple l.toArray
  | .iface t p => (toVal p).map (.iface t)
  | .fn f as cs => do let xs ← toVals as; let ys ← toVals cs; pure (.func f xs.toArray ys.toArray)
  | .vec .nil [] => some (.slice none 0 0)
  | _ => none
def toVals : List PV → Option (List Value)
  | [] => some []
  | p :: ps => do let x ← toVal p; let xs ← toVals ps; pure (x :: xs)
end

def cellsAt (get : Get) (k : Key) (g : Nat) : Option (List PV) := match get k with
  | (g', .cells cs) => if g = g' then some cs else none
  | _ => none
def mapAt (get : Get) (k : Key) (g : Nat) : Option (List Value × List PV) := match get k with
  | (g', .map ks vs) => if g = g' then some (ks, vs) else none
  | _ => none
/-- A value of one cell. -/
def PV.one (get : Get) : PV → Bool
  | .any | .agg _ | .tup _ => false
  | .v x => x.oneCell'
  | .ref k g _ | .sl k g _ _ _ => (cellsAt get k g).isSome
  | .mref k g => (mapAt get k g).isSome
  | _ => true
/-- The cells of a value, if it is known what they are. -/
def PV.cells? (get : Get) : PV → Option (List PV)
  | .agg cs => some cs
  | p => if p.one get then some [p] else none
def PV.flat : PV → List PV
  | .agg cs => cs
  | p => [p]
def PV.ncells : PV → Nat
  | .agg cs => cs.length
  | _ => 1
def elemOk (get : Get) (size : Nat) (e : PV) : Bool := match e.cells? get with
  | some c => c.length == size && c.all (PV.one get)
  | none => false
def sizeOk (es : List PV) (sz : Nat) : Bool := match es with
  | [] => true
  | e :: _ => e.ncells == sz

inductive OpR where
  | val (p : PV) (ws : List (Key × Nat × Ent))
  | pan (p : PV) (ws : List (Key × Nat × Ent))
inductive CallR where
  | ret (p : PV) (bor : List Ent)
  | pan (p : PV) (bor : List Ent)
abbrev Callee := FuncId → List PV → List Ent → Option CallR

def szOf (P : Program) (t : TypeId) : Option Nat := (P.info? t).map (·.size)
def aggT (P : Program) (t : TypeId) : Option Bool := (P.underlying t).map fun
  | .struct _ | .array _ _ => true
  | _ => false

/-- A part of a row of cells, read as the type. -/
def readP (P : Program) (t : TypeId) (cs : List PV) (off : Nat) : Option PV := do
  if ← aggT P t then
    let n ← szOf P t
    if off + n ≤ cs.length then some (.agg ((cs.drop off).take n)) else none
  else cs[off]?
def splice (cs vs : List PV) (off : Nat) : List PV := cs.take off ++ vs ++ cs.drop (off + vs.length)
def fillP (get : Get) (place : Nat → Option (Nat × Nat)) (cells : List PV) : List (Nat × PV) → Option (List PV)
  | [] => some cells
  | (i, v) :: rest => do
    let (off, size) ← place i
    let vs ← v.cells? get
    if vs.length ≠ size || off + vs.length > cells.length then none else fillP get place (splice cells vs off) rest

def intOfP : PV → Option Int
  | .v (.int _ n) => some n
  | _ => none
def natOfP (p : PV) : Option Nat := (intOfP p).bind fun n => if 0 ≤ n then some n.toNat else none

def undefP : PV := .tup []

/-- Slots: a tree, so that a look is short. (The recursors are written out: the kernel goes through them fast.) -/
inductive Tr where
  | leaf
  | node (l : Tr) (x : PV) (r : Tr)
  deriving Inhabited
noncomputable def Tr.get (t : Tr) : Nat → PV :=
  Tr.rec (motive := fun _ => Nat → PV) (fun _ => undefP) (fun _ x _ gl gr i => Nat.rec (motive := fun _ => PV) x (fun i _ => Bool.rec (motive := fun _ => PV) (gr (Nat.div i 2)) (gl (Nat.div i 2)) (Nat.beq (Nat.mod i 2) 0)) i) t
noncomputable def Tr.set (t : Tr) : Nat → PV → Tr :=
  Tr.rec (motive := fun _ => Nat → PV → Tr) (fun _ _ => .leaf) (fun l x r sl sr i p => Nat.rec (motive := fun _ => Tr) (.node l p r) (fun i _ => Bool.rec (motive := fun _ => Tr) (.node l x (sr (Nat.div i 2) p)) (.node (sl (Nat.div i 2) p) x r) (Nat.beq (Nat.mod i 2) 0)) i) t
/-- 'set', laid open before one goes on. -/
noncomputable def Tr.setK {β : Type} (t : Tr) : Nat → PV → (Tr → β) → β :=
  Tr.rec (motive := fun _ => Nat → PV → (Tr → β) → β) (fun _ _ k => k .leaf) (fun l x r sl sr i p k => Nat.rec (motive := fun _ => β) (k (.node l p r))
    (fun i _ => Bool.rec (motive := fun _ => β) (sr (Nat.div i 2) p fun r' => k (.node l x r')) (sl (Nat.div i 2) p fun l' => k (.node l' x r)) (Nat.beq (Nat.mod i 2) 0)) i) t
/-- A tree of empty slots, of a depth. -/
def Tr.full : Nat → Tr
  | 0 => .leaf
  | n + 1 => .node (Tr.full n) undefP (Tr.full n)

noncomputable def forceN {β : Type} (n : Nat) (k : Nat → β) : β := Nat.rec (motive := fun _ => β) (k 0) (fun m _ => k (m + 1)) n
noncomputable def forceI {β : Type} (n : Int) (k : Int → β) : β := Int.rec (motive := fun _ => β) (fun m => forceN m fun m => k (.ofNat m)) (fun m => forceN m fun m => k (.negSucc m)) n
noncomputable def forceL {α β : Type} (l : List α) : (List α → β) → β := List.rec (motive := fun _ => (List α → β) → β) (fun k => k []) (fun x _ ih k => ih fun ys => k (x :: ys)) l
noncomputable def forceB {β : Type} (b : Bool) (k : Bool → β) : β := Bool.rec (motive := fun _ => β) (k false) (k true) b
noncomputable def forceV {β : Type} (x : Value) (k : Value → β) : β := match x with
  | .int i n => forceI n fun n => k (.int i n)
  | .bool b => forceB b fun b => k (.bool b)
  | .string ⟨⟨l⟩⟩ => forceL l fun l => k (.string ⟨⟨l⟩⟩)
  | y => k y
/-- A value whose outermost form is laid open. -/
noncomputable def forceW {β : Type} (p : PV) (k : PV → β) : β := match p with
  | .any => k .any
  | .v x => k (.v x)
  | .agg cs => k (.agg cs)
  | .tup cs => k (.tup cs)
  | .ref q g off => k (.ref q g off)
  | .eptr cs off => k (.eptr cs off)
  | .vec tok es => k (.vec tok es)
  | .fn f as cs => k (.fn f as cs)
  | .iface t p => k (.iface t p)
  | .sl q g off n sz => k (.sl q g off n sz)
  | .mref q g => k (.mref q g)
  | .imap ks vs => k (.imap ks vs)
/-- A value of a computation, laid open. -/
noncomputable def forceP {β : Type} (p : PV) (k : PV → β) : β := match p with
  | .v x => forceV x fun x => k (.v x)
  | .agg cs => forceL cs fun cs => k (.agg cs)
  | .tup cs => forceL cs fun cs => k (.tup cs)
  | .ref q g off => forceN g fun g => forceN off fun off => k (.ref q g off)
  | .vec tok es => forceL es fun es => k (.vec tok es)
  | p => k p
noncomputable def forceC {β : Type} (l : List PV) : (List PV → β) → β := List.rec (motive := fun _ => (List PV → β) → β) (fun k => k []) (fun x _ ih k => forceW x fun x => ih fun ys => k (x :: ys)) l
noncomputable def forceE {β : Type} (e : Ent) (k : Ent → β) : β := match e with
  | .cells cs => forceC cs fun cs => k (.cells cs)
  | .top n e s => forceN n fun n => k (.top n e s)
  | .map ks vs => forceL ks fun ks => forceC vs fun vs => k (.map ks vs)
  | .none => k .none


/-- An operation whose operands bear no structure is run as it is. -/
def plainOp (P : Program) (o : Oper) (ρ : Operand → PV) : Option OpR := do
  if o.op.operands.toList.all fun x => (toVal (ρ x)).isSome then
    match o.op with
    | .select _ _ => none
    | _ => match pureRun P (execOp (fun x => (toVal (ρ x)).getD undef) o) with
      | some (.value v) => (ofVal v).map fun p => .val p []
      | _ => none
  else none

def boundP (d : Nat) : Option PV → Option Nat
  | none => some d
  | some p => natOfP p

mutual
/-- Names of the variables that a value points to. -/
def refs : PV → List (Key × Nat)
  | .agg cs | .tup cs => refsL cs
  | .ref k g _ | .sl k g _ _ _ | .mref k g => [(k, g)]
  | .imap _ vs => refsL vs
  | .eptr cs _ => refsL cs
  | .vec _ es => refsL es
  | .fn _ as cs => refsL as ++ refsL cs
  | .iface _ p => refs p
  | _ => []
def refsL : List PV → List (Key × Nat)
  | [] => []
  | p :: ps => refs p ++ refsL ps
def toks : PV → List (Key × Nat)
  | .agg cs | .tup cs => toksL cs
  | .vec (.line k g) _ => [(k, g)]
  | .iface _ p => toks p
  | _ => []
def toksL : List PV → List (Key × Nat)
  | [] => []
  | p :: ps => toks p ++ toksL ps
end

mutual
/-- A value with the variables' names changed; what has no new name is not known any more. -/
def ren (m : Key → Nat → Option (Key × Nat)) : PV → PV
  | .agg cs => .agg (renL m cs)
  | .tup cs => .tup (renL m cs)
  | .ref k g off => match m k g with
    | some (k', g') => .ref k' g' off
    | none => .any
  | .eptr cs off => .eptr (renL m cs) off
  | .vec tok es => .vec (match tok with
    | .line k g => match m k g with
      | some (k', g') => .line k' g'
      | none => .no
    | t => t) (renL m es)
  | .fn f as cs => .fn f (renL m as) (renL m cs)
  | .iface t p => .iface t (ren m p)
  | .sl k g off n sz => match m k g with
    | some (k', g') => .sl k' g' off n sz
    | none => .any
  | .mref k g => match m k g with
    | some (k', g') => .mref k' g'
    | none => .any
  | .imap ks vs => .imap ks (renL m vs)
  | p => p
def renL (m : Key → Nat → Option (Key × Nat)) : List PV → List PV
  | [] => []
  | p :: ps => ren m p :: renL m ps
end
def renE (m : Key → Nat → Option (Key × Nat)) : Ent → Ent
  | .cells cs => .cells (renL m cs)
  | .map ks vs => .map ks (renL m vs)
  | e => e

/-- No variable is named in a value. (Such a value is handed on as it is.) -/
noncomputable def pureP (p : PV) : Bool :=
  PV.rec (motive_1 := fun _ => Bool) (motive_2 := fun _ => Bool) true (fun _ => true) (fun _ h => h) (fun _ h => h) (fun _ _ _ => false) (fun _ _ h => h)
    (fun tok _ h => match tok with
      | .line _ _ => false
      | _ => h) (fun _ _ _ h1 h2 => match h1 with
      | true => h2
      | false => false) (fun _ _ h => h) (fun _ _ _ _ _ => false) (fun _ _ => false) (fun _ _ h => h) true (fun _ _ h1 h2 => match h1 with
      | true => h2
      | false => false) p
noncomputable def renQ (m : Key → Nat → Option (Key × Nat)) (p : PV) : PV := match pureP p with
  | true => p
  | false => ren m p
noncomputable def refsQ (p : PV) : List (Key × Nat) := match pureP p with
  | true => []
  | false => refs p
noncomputable def toksQ (p : PV) : List (Key × Nat) := match pureP p with
  | true => []
  | false => toks p
noncomputable def renEQ (m : Key → Nat → Option (Key × Nat)) : Ent → Ent
  | .cells cs => .cells (cs.map (renQ m))
  | .map ks vs => .map ks (vs.map (renQ m))
  | e => e

/-- The keys that are asked for on the way from some names. -/
noncomputable def reach (get : Get) : Nat → List (Key × Nat) → List Key → List Key
  | 0, _, acc => acc
  | _, [], acc => acc
  | n + 1, (k, _) :: todo, acc =>
    if acc.contains k then reach get n todo acc else
    match (get k).2 with
    | .cells cs => reach get n (cs.flatMap refsQ ++ (cs.flatMap toksQ ++ todo)) (acc ++ [k])
    | .map _ vs => reach get n (vs.flatMap refsQ ++ (vs.flatMap toksQ ++ todo)) (acc ++ [k])
    | _ => reach get n todo (acc ++ [k])

def idx? (k : Key) : List Key → Nat → Option Nat
  | [], _ => none
  | k' :: ks, i => if k = k' then some i else idx? k ks (i + 1)
/-- From the caller's names to the callee's, and back. -/
def down (get : Get) (ks : List Key) (k : Key) (g : Nat) : Option (Key × Nat) :=
  if g = (get k).1 then (idx? k ks 0).map fun i => (.bor i, 0) else none
/-- The caller's name for the j-th variable that a callee leaves behind, by the slot of the call. -/
def newKey (d j : Nat) : Key := .loc (d + 1000 * (j + 1))
def up (get : Get) (ks : List Key) (k : Key) (_g : Nat) : Option (Key × Nat) := match k with
  | .bor i => (ks[i]?).map fun k => (k, (get k).1)
  | .loc _ => none
noncomputable def zipBack (get : Get) (m : Key → Nat → Option (Key × Nat)) : List Key → List Ent → List (Key × Nat × Ent)
  | k :: ks, e :: es => (k, (get k).1, renEQ m e) :: zipBack get m ks es
  | _, _ => []
/-- The variables that a callee leaves behind are new ones. -/
def bump (get : Get) (new : List Key) : Get := fun k => if new.contains k then ((get k).1 + 1, (get k).2) else get k

def sameV : Value → Value → Bool
  | .bool a, .bool b => a == b
  | .int i a, .int j b => (i == j) && (a == b)
  | .string a, .string b => a.data.toList == b.data.toList
  | .pointer none, .pointer none => true
  | .nilIface, .nilIface => true
  | .map none, .map none => true
  | .nilFunc, .nilFunc => true
  | _, _ => false
def sameVs : List Value → List Value → Bool
  | [], [] => true
  | x :: xs, y :: ys => sameV x y && sameVs xs ys
  | _, _ => false
def sameF : Fn → Fn → Bool
  | .func f, .func g => Nat.beq f g
  | _, _ => false
mutual
/-- Whether two values are the same (as far as a look tells). -/
def sameP : PV → PV → Bool
  | .v x, .v y => sameV x y
  | .agg l, .agg m => sameL l m
  | .tup l, .tup m => sameL l m
  | .ref k g o, .ref k' g' o' => k == k' && (Nat.beq g g' && Nat.beq o o')
  | .eptr l o, .eptr m o' => Nat.beq o o' && sameL l m
  | .vec t l, .vec t' m => t == t' && sameL l m
  | .iface t p, .iface t' q => Nat.beq t t' && sameP p q
  | .sl k g o n z, .sl k' g' o' n' z' => k == k' && (Nat.beq g g' && (Nat.beq o o' && (Nat.beq n n' && Nat.beq z z')))
  | .mref k g, .mref k' g' => k == k' && Nat.beq g g'
  | .fn f as cs, .fn f' as' cs' => sameF f f' && (sameL as as' && sameL cs cs')
  | .imap ks vs, .imap ks' vs' => sameVs ks ks' && sameL vs vs'
  | _, _ => false
def sameL : List PV → List PV → Bool
  | [], [] => true
  | p :: ps, q :: qs => sameP p q && sameL ps qs
  | _, _ => false
end
def sameE : Nat × Ent → Nat × Ent → Bool
  | (g, .cells l), (g', .cells m) => Nat.beq g g' && sameL l m
  | (g, .map ks vs), (g', .map ks' vs') => Nat.beq g g' && (sameVs ks ks' && sameL vs vs')
  | (g, .top n e z), (g', .top n' e' z') => Nat.beq g g' && (Nat.beq n n' && (Nat.beq e e' && Nat.beq z z'))
  | _, _ => false
/-- Writes that all change nothing are none. -/
def slim (get : Get) (ws : List (Key × Nat × Ent)) : List (Key × Nat × Ent) := match ws.all fun x => sameE (get x.1) x.2 with
  | true => []
  | false => ws
noncomputable def callP (call : Callee) (get : Get) (dst : Option Tmp) (f : FuncId) (args : List PV) : Option OpR :=
  let ks := reach get 64 (args.flatMap refsQ) []
  let dn := down get ks
  let back (bor : List Ent) : Option (List Key × Get) :=
    if bor.length = ks.length then some (ks, get) else
    match dst with
    | some d =>
      let new := (List.range (bor.length - ks.length)).map (newKey d)
      if ks.length ≤ bor.length ∧ d < 1000 ∧ new.all (fun k => !ks.contains k) then some (ks ++ new, bump get new) else none
    | none => none
  match call f (args.map (renQ dn)) (ks.map fun k => renEQ dn (get k).2) with
  | some (.ret p bor) => (back bor).map fun x => .val (renQ (up x.2 x.1) p) (match Nat.beq bor.length ks.length with | true => slim get (zipBack x.2 (up x.2 x.1) x.1 bor) | false => zipBack x.2 (up x.2 x.1) x.1 bor)
  | some (.pan p bor) => (back bor).map fun x => .pan (renQ (up x.2 x.1) p) (match Nat.beq bor.length ks.length with | true => slim get (zipBack x.2 (up x.2 x.1) x.1 bor) | false => zipBack x.2 (up x.2 x.1) x.1 bor)
  | none => none

def vecOf : PV → Option (Tok × List PV)
  | .vec tok es => some (tok, es)
  | _ => none
/-- The name under which a call bears which of its slots, when appended to, stay open to stores (as bits of a number). -/
def openKey : Key := .loc 1000000000
def appendTo (get : Get) (dst : Option Tmp) (elem : TypeId) (sz : Nat) (es ys : List PV) : Tok → Option OpR
  | .no => none
  | .line k g => match get k with
    | (g', .top n e s) => if g = g' ∧ n = es.length ∧ e = elem ∧ s = sz then some (.val (.vec (.line k g) (es ++ ys)) [(k, g, .top (es ++ ys).length elem sz)]) else none
    | _ => none
  | _ => match dst with
    | some d => match Nat.testBit (get openKey).1 d with
      | true => some (.val (.sl (.loc d) ((get (.loc d)).1 + 1) 0 (es ++ ys).length sz) [(.loc d, (get (.loc d)).1 + 1, .cells ((es ++ ys).flatMap PV.flat))])
      | false => some (.val (.vec (.line (.loc d) ((get (.loc d)).1 + 1)) (es ++ ys)) [(.loc d, (get (.loc d)).1 + 1, .top (es ++ ys).length elem sz)])
    | none => none
def sliceElem (P : Program) (t : TypeId) : Option TypeId := match P.underlying t with
  | some (.slice e) => some e
  | _ => none
def chunks (sz : Nat) : Nat → List PV → List PV
  | 0, _ => []
  | n + 1, cs => (if sz = 1 then cs.getD 0 .any else .agg (cs.take sz)) :: chunks sz n (cs.drop sz)
/-- The elements of a slice. -/
def elemsP (get : Get) (size : Nat) : PV → Option (List PV)
  | .vec _ es => some es
  | .sl k g off n sz => (cellsAt get k g).bind fun cs => if sz = size ∧ off + n * size ≤ cs.length then some (chunks size n (cs.drop off)) else none
  | _ => none
def appendP (P : Program) (get : Get) (dst : Option Tmp) (argTypes : Array TypeId) (s x : PV) : Option OpR := do
  let t0 ← argTypes[0]?
  let t1 ← argTypes[1]?
  let elem ← sliceElem P t0
  let info ← P.info? elem
  let z ← info.zero
  let ys ← elemsP get info.size x
  match s with
  | .sl (.loc i) g off n sz => do
    let cs ← cellsAt get (.loc i) g
    if t0 = t1 ∧ off = 0 ∧ sz = info.size ∧ n * sz = cs.length ∧ sizeOk ys info.size = true ∧ z.cells.size = info.size ∧ z.cells.toList.all Value.oneCell' = true ∧ 0 < info.size ∧ n + ys.length ≤ 140737488355328 ∧ (n + ys.length) * info.bytes ≤ 140737488355328 then
      match ys with
      | [] => some (.val s [])
      | _ => some (.val (.sl (.loc i) (g + 1) 0 (n + ys.length) sz) [(.loc i, g + 1, .cells (cs ++ ys.flatMap PV.flat))])
    else none
  | _ => do
    let e ← vecOf s
    if t0 = t1 ∧ sizeOk e.2 info.size = true ∧ sizeOk ys info.size = true ∧ z.cells.size = info.size ∧ z.cells.toList.all Value.oneCell' = true ∧ 0 < info.size ∧ e.2.length + ys.length ≤ 140737488355328 ∧ (e.2.length + ys.length) * info.bytes ≤ 140737488355328 then
      match ys with
      | [] => some (.val s [])
      | _ => appendTo get dst elem info.size e.2 ys e.1
    else none

/-- The first m elements' cells of what is copied. -/
def srcCells (get : Get) (size m : Nat) : PV → Option (List PV)
  | .vec .nil _ => if m = 0 then some [] else none
  | .vec _ es => if sizeOk es size then some ((es.take m).flatMap PV.flat) else none
  | .sl k g off _ _ => (cellsAt get k g).map fun cs => (cs.drop off).take (m * size)
  | _ => none
def lenP : PV → Option Nat
  | .vec _ es => some es.length
  | .sl _ _ _ n _ => some n
  | _ => none
def copyP (P : Program) (get : Get) (argTypes : Array TypeId) (d s : PV) : Option OpR := do
  let t0 ← argTypes[0]?
  let elem ← sliceElem P t0
  let size ← szOf P elem
  let n ← lenP s
  match d with
  | .sl k g off dn _ => do
    let cs ← cellsAt get k g
    let vs ← srcCells get size (min n dn) s
    if vs.length = min n dn * size ∧ off + vs.length ≤ cs.length then some (.val (.v (.int .i64 (min n dn : Nat))) [(k, g, .cells (splice cs vs off))]) else none
  | .vec _ [] => do
    let _ ← srcCells get size 0 s
    some (.val (.v (.int .i64 0)) [])
  | _ => none

def liveP (get : Get) : PV → Bool
  | .ref k g _ => (cellsAt get k g).isSome
  | .eptr _ _ => true
  | _ => false

/-- Whether a value that is not nil is compared with nil. -/
def nilCmp (P : Program) (get : Get) (t : TypeId) (x y : PV) : Bool := match P.underlying t, x, y with
  | some (.pointer _), p, .v (.pointer none) => liveP get p
  | some (.pointer _), .v (.pointer none), p => liveP get p
  | some (.slice _), .vec tok _, .vec .nil [] => tok != .nil
  | some (.slice _), .sl k g _ _ _, .vec .nil [] => (cellsAt get k g).isSome
  | some (.map _ _), .mref k g, .v (.map none) => (mapAt get k g).isSome
  | some (.map _ _), .imap _ _, .v (.map none) => true
  | some (.func _ _ _), .fn _ _ _, .v .nilFunc => true
  | some (.interface _), .iface _ _, .v .nilIface => true
  | _, _, _ => false

/-- The kind of a map's keys, if a look tells at once whether two are equal. -/
def keyDesc (P : Program) (t : TypeId) : Option TypeDesc := match P.underlying t with
  | some (.map k _) => match P.underlying k with
    | some (.int i) => some (.int i)
    | some .string => some .string
    | some .bool => some .bool
    | _ => none
  | _ => none
def mapElem (P : Program) (t : TypeId) : Option TypeId := match P.underlying t with
  | some (.map _ e) => some e
  | _ => none
def keyOk : TypeDesc → Value → Bool
  | .int _, .int _ _ | .string, .string _ | .bool, .bool _ => true
  | _, _ => false
def findK (d : TypeDesc) (k : Value) : List Value → Nat → Option (Option Nat)
  | [], _ => some none
  | x :: xs, i => match Instr.sameNow d k x with
    | some true => some (some i)
    | some false => findK d k xs (i + 1)
    | none => none
def mapOf (get : Get) : PV → Option (List Value × List PV)
  | .mref k g => mapAt get k g
  | .imap ks vs => some (ks, vs)
  | .v (.map none) => some ([], [])
  | _ => none
/-- What a function value calls, and with what. -/
def fnOf (P : Program) (f : PV) (args : List PV) : Option (FuncId × List PV) := match f with
  | .fn (.func g) first captured => some (g, first ++ args ++ captured)
  | .fn (.via t path g ptr) first _ =>
    if path.size = 0 then
      match first ++ args, P.underlying t, ptr with
      | x :: rest, some (.pointer _), true => some (g, x :: rest)
      | _, some (.pointer _), false => none
      | x :: rest, some _, false => some (g, x :: rest)
      | _, _, _ => none
    else none
  | _ => none
/-- The method of a value in an interface. -/
def methodOf (P : Program) (x : PV) (name : String) : Option (FuncId × PV) := match x with
  | .iface t p => do
    let i ← P.info? t
    let m ← i.methods.find? (·.name == name)
    let (g, ptr) ← m.func
    if m.path.size = 0 then
      match P.underlying t, ptr with
      | some (.pointer _), true => some (g, p)
      | some (.pointer _), false => none
      | some _, false => some (g, p)
      | _, _ => none
    else none
  | _ => none
def enters (P : Program) (g : FuncId) : Bool := match P.funcs[g]? with
  | some fn => fn.body.isSome && fn.name != "runtime.NumGoroutine"
  | none => false

def strEq (a b : ByteArray) : Bool := a.data.toList == b.data.toList
/-- Numbers and texts, straight. -/
def binFast (op : BinOp) (x y : PV) : Option Value := match x, y with
  | .v (.int .i64 a), .v (.int .i64 b) => match op with
    | .add => some (.int .i64 (RowKit.wrap64 (a + b)))
    | .sub => some (.int .i64 (RowKit.wrap64 (a - b)))
    | .mul => some (.int .i64 (RowKit.wrap64 (a * b)))
    | .eql => some (.bool (a == b))
    | .neq => some (.bool (a != b))
    | .lss => some (.bool (a < b))
    | .leq => some (.bool (a ≤ b))
    | .gtr => some (.bool (a > b))
    | .geq => some (.bool (a ≥ b))
    | _ => none
  | .v (.int .u8 a), .v (.int .u8 b) => match op with
    | .eql => some (.bool (a == b))
    | .neq => some (.bool (a != b))
    | .lss => some (.bool (a < b))
    | .leq => some (.bool (a ≤ b))
    | .gtr => some (.bool (a > b))
    | .geq => some (.bool (a ≥ b))
    | _ => none
  | .v (.string a), .v (.string b) => match op with
    | .add => if a.data.toList.length + b.data.toList.length ≤ 4611686018427387904 then some (.string ⟨⟨a.data.toList ++ b.data.toList⟩⟩) else none
    | .eql => some (.bool (strEq a b))
    | .neq => some (.bool (!strEq a b))
    | _ => none
  | _, _ => none

/-- 'plainOp', its value laid open. -/
noncomputable def plainF (P : Program) (o : Oper) (ρ : Operand → PV) : Option OpR := match plainOp P o ρ with
  | some (.val p ws) => forceP p fun p => some (.val p ws)
  | r => r
noncomputable def opPick (P : Program) (call : Callee) (get : Get) (o : Oper) (ρ : Operand → PV) (c a b : Operand) : Option OpR := match ρ c with
  | .v (.bool t) => some (.val (if t then ρ a else ρ b) [])
  | _ => none
noncomputable def opAlloc (P : Program) (call : Callee) (get : Get) (o : Oper) (ρ : Operand → PV) (elem : TypeId) : Option OpR := do
  let z ← (P.info? elem).bind (·.zero)
  let p ← ofVal z
  let cs ← p.cells? get
  let d ← o.dst
  let g := (get (.loc d)).1 + 1
  some (.val (.ref (.loc d) g 0) [(.loc d, g, .cells cs)])
noncomputable def opBox (P : Program) (call : Callee) (get : Get) (o : Oper) (ρ : Operand → PV) (x : Operand) : Option OpR := do
  let cs ← (ρ x).cells? get
  let d ← o.dst
  let g := (get (.loc d)).1 + 1
  if cs.all (PV.one get) then some (.val (.ref (.loc d) g 0) [(.loc d, g, .cells cs)]) else none
noncomputable def opBuild (P : Program) (call : Callee) (get : Get) (o : Oper) (ρ : Operand → PV) (t : TypeId) (parts : Array (Nat × Operand)) : Option OpR := do
  let z ← (P.info? t).bind (·.zero)
  let p ← ofVal z
  let cs ← p.cells? get
  let ps := parts.toList.map fun (i, x) => (i, ρ x)
  match P.underlying t with
  | some (.struct fields) => do
    let places ← fields.toList.mapM fun f => (szOf P f.type).map fun s => (f.offset, s)
    (fillP get (places[·]?) cs ps).map fun c => .val (.agg c) []
  | some (.array _ elem) => do
    let size ← szOf P elem
    (fillP get (fun i => some (i * size, size)) cs ps).map fun c => .val (.agg c) []
  | _ => none
noncomputable def opBuildSlice (P : Program) (call : Callee) (get : Get) (o : Oper) (ρ : Operand → PV) (t : TypeId) (len : Nat) (parts : Array (Nat × Operand)) : Option OpR := do
  let .slice elem ← P.underlying t | none
  let size ← szOf P elem
  let _ ← (P.info? elem).bind (·.zero)
  let ps := parts.toList.map fun (i, x) => (i, ρ x)
  if ps.map (·.1) = List.range len ∧ 0 < size ∧ len * size ≤ 16777216 then
    let es := ps.map (·.2)
    if es.all (elemOk get size) then some (.val (.vec .exact es) []) else none
  else none
noncomputable def opLoad (P : Program) (call : Callee) (get : Get) (o : Oper) (ρ : Operand → PV) (t : TypeId) (a : Operand) : Option OpR := match ρ a with
  | .ref k g off => do let cs ← cellsAt get k g; let p ← readP P t cs off; forceP p fun p => some (.val p [])
  | .eptr cs off => do let p ← readP P t cs off; forceP p fun p => some (.val p [])
  | _ => none
noncomputable def opStore (P : Program) (call : Callee) (get : Get) (o : Oper) (ρ : Operand → PV) (t : TypeId) (a x : Operand) : Option OpR := match ρ a with
  | .ref k g off => do
    let cs ← cellsAt get k g
    let vs ← (ρ x).cells? get
    let n ← szOf P t
    if vs.length = n ∧ off + n ≤ cs.length ∧ vs.all (PV.one get) then some (.val undefP [(k, g, .cells (splice cs vs off))]) else none
  | _ => none
noncomputable def opNilCheck (P : Program) (call : Callee) (get : Get) (o : Oper) (ρ : Operand → PV) (x : Operand) : Option OpR := match ρ x with
  | .fn (.func f) as cs => some (.val (.fn (.func f) as cs) [])
  | p => if liveP get p then some (.val p []) else (plainF P o ρ)
noncomputable def opBinOp (P : Program) (call : Callee) (get : Get) (o : Oper) (ρ : Operand → PV) (op : BinOp) (xt : TypeId) (x y : Operand) : Option OpR := match binFast op (ρ x) (ρ y) with
  | some r => forceV r fun r => some (.val (.v r) [])
  | none => match op with
    | .eql => if nilCmp P get xt (ρ x) (ρ y) then some (.val (.v (.bool false)) []) else (plainF P o ρ)
    | .neq => if nilCmp P get xt (ρ x) (ρ y) then some (.val (.v (.bool true)) []) else (plainF P o ρ)
    | _ => (plainF P o ρ)
noncomputable def opMakeInterface (P : Program) (call : Callee) (get : Get) (o : Oper) (ρ : Operand → PV) (t : TypeId) (x : Operand) : Option OpR := match P.underlying t with
  | some (.interface _) | none => none
  | some _ => some (.val (.iface t (ρ x)) [])
noncomputable def opMakeFunc (P : Program) (call : Callee) (get : Get) (o : Oper) (ρ : Operand → PV) (fn : Fn) (first captured : Array Operand) : Option OpR := some (.val (.fn fn (first.toList.map ρ) (captured.toList.map ρ)) [])
noncomputable def opSlice (P : Program) (call : Callee) (get : Get) (o : Oper) (ρ : Operand → PV) (t : TypeId) (x : Operand) (lo hi mx : Option Operand) : Option OpR := match ρ x with
  | .sl k g off n sz => do
    let elem ← sliceElem P t
    let size ← szOf P elem
    let h ← boundP n (hi.map ρ)
    let l ← boundP 0 (lo.map ρ)
    if mx.isNone ∧ size = sz ∧ l ≤ h ∧ h ≤ n ∧ (cellsAt get k g).isSome then
      some (.val (if l = h then .vec .no [] else .sl k g (off + l * size) (h - l) sz) [])
    else none
  | .vec .nil _ => (plainF P o ρ)
  | .vec _ es => do
    let .slice elem ← P.underlying t | none
    let size ← szOf P elem
    let m ← boundP es.length (mx.map ρ)
    let h ← boundP es.length (hi.map ρ)
    let l ← boundP 0 (lo.map ρ)
    if sizeOk es size ∧ l ≤ h ∧ h ≤ m ∧ m ≤ es.length ∧ (mx.isNone ∨ hi.isSome) then
      some (.val (.vec (if mx.isSome ∧ h = m then .exact else .no) ((es.drop l).take (h - l))) [])
    else none
  | _ => (plainF P o ρ)
noncomputable def opFieldAddr (P : Program) (call : Callee) (get : Get) (o : Oper) (ρ : Operand → PV) (s : TypeId) (x : Operand) (f : Nat) : Option OpR := do
  let .struct fields ← P.underlying s | none
  let fd ← fields[f]?
  let n ← szOf P fd.type
  if n = 0 then none else
  match ρ x with
  | .ref k g off => if (cellsAt get k g).isSome then some (.val (.ref k g (off + fd.offset)) []) else none
  | .eptr cs off => some (.val (.eptr cs (off + fd.offset)) [])
  | _ => none
noncomputable def opField (P : Program) (call : Callee) (get : Get) (o : Oper) (ρ : Operand → PV) (t : TypeId) (x : Operand) (f : Nat) : Option OpR := match ρ x with
  | .agg cs => do
    let .struct fields ← P.underlying t | none
    let fd ← fields[f]?
    (readP P fd.type cs fd.offset).map fun p => .val p []
  | _ => none
noncomputable def opIndexAddr (P : Program) (call : Callee) (get : Get) (o : Oper) (ρ : Operand → PV) (t : TypeId) (x ix : Operand) : Option OpR := do
  let i ← natOfP (ρ ix)
  match P.underlying t, ρ x with
  | some (.slice elem), .vec _ es => do
    let size ← szOf P elem
    let e ← es[i]?
    if sizeOk es size then some (.val (.eptr e.flat 0) []) else none
  | some (.slice elem), .sl k g off n _ => do
    let size ← szOf P elem
    if i < n ∧ (cellsAt get k g).isSome then some (.val (.ref k g (off + i * size)) []) else none
  | some (.array len elem), .ref k g off => do
    let size ← szOf P elem
    if i < len ∧ (cellsAt get k g).isSome then some (.val (.ref k g (off + i * size)) []) else none
  | some (.array len elem), .eptr cs off => do
    let size ← szOf P elem
    if i < len then some (.val (.eptr cs (off + i * size)) []) else none
  | _, _ => none
noncomputable def opIndex (P : Program) (call : Callee) (get : Get) (o : Oper) (ρ : Operand → PV) (t : TypeId) (x ix : Operand) : Option OpR := match P.underlying t, ρ x with
  | some (.array len elem), .agg cs => do
    let i ← natOfP (ρ ix)
    let size ← szOf P elem
    if i < len then (readP P elem cs (i * size)).map fun p => .val p [] else none
  | some .string, .v (.string s) => do
    let i ← natOfP (ρ ix)
    let c ← s.data.toList[i]?
    some (.val (.v (.int .u8 c.toNat)) [])
  | _, _ => (plainF P o ρ)
noncomputable def opExtract (P : Program) (call : Callee) (get : Get) (o : Oper) (ρ : Operand → PV) (x : Operand) (i : Nat) : Option OpR := match ρ x with
  | .tup ps => (ps[i]?).map fun p => .val p []
  | _ => none
noncomputable def opCall (P : Program) (call : Callee) (get : Get) (o : Oper) (ρ : Operand → PV) (c : Call) : Option OpR := match c.callee with
  | .builtin .append => match c.args.toList with
    | [s, x] => appendP P get o.dst c.argTypes (ρ s) (ρ x)
    | _ => none
  | .builtin .copy => match c.args.toList with
    | [d, s] => copyP P get c.argTypes (ρ d) (ρ s)
    | _ => none
  | .builtin .len => match c.args.toList.map ρ with
    | [x] => match (c.argTypes[0]?).bind P.underlying, x with
      | some .string, .v (.string s) => forceN s.data.toList.length fun n => some (.val (.v (.int .i64 n)) [])
      | some (.slice _), .vec _ es => forceN es.length fun n => some (.val (.v (.int .i64 n)) [])
      | some (.slice _), .sl k g _ n _ => if (cellsAt get k g).isSome then some (.val (.v (.int .i64 n)) []) else none
      | some (.map _ _), .mref k g => (mapAt get k g).map fun m => .val (.v (.int .i64 m.1.length)) []
      | some (.map _ _), .imap ks _ => some (.val (.v (.int .i64 ks.length)) [])
      | _, _ => (plainF P o ρ)
    | _ => (plainF P o ρ)
  | .builtin .panic => match c.args.toList.map ρ with
    | [.iface t p] => some (.pan (.iface t p) [])
    | _ => none
  | .builtin _ => (plainF P o ρ)
  | .value f => match fnOf P (ρ f) (c.args.toList.map ρ) with
    | some (g, args) => if enters P g then callP call get o.dst g args else none
    | none => none
  | .invoke x name => match methodOf P (ρ x) name with
    | some (g, recv) => if enters P g then callP call get o.dst g (recv :: c.args.toList.map ρ) else none
    | none => none
noncomputable def opPanic (P : Program) (call : Callee) (get : Get) (o : Oper) (ρ : Operand → PV) (x : Operand) : Option OpR := match ρ x with
  | .iface t p => some (.pan (.iface t p) [])
  | _ => none
noncomputable def opMakeSlice (P : Program) (call : Callee) (get : Get) (o : Oper) (ρ : Operand → PV) (t : TypeId) (l c : Operand) : Option OpR := do
  let elem ← sliceElem P t
  let info ← P.info? elem
  let z ← info.zero
  let p ← ofVal z
  let zc ← p.cells? get
  let n ← natOfP (ρ l)
  let m ← natOfP (ρ c)
  let d ← o.dst
  let g := (get (.loc d)).1 + 1
  if zc.length = info.size ∧ 0 < info.size ∧ zc.all (PV.one get) ∧ n ≤ m ∧ m ≤ 140737488355328 ∧ m * info.bytes ≤ 140737488355328 then
    if n = m then some (.val (.sl (.loc d) g 0 n info.size) [(.loc d, g, .cells (List.replicate n zc).flatten)])
    else if n = 0 then some (.val (.vec (.line (.loc d) g) []) [(.loc d, g, .top 0 elem info.size)])
    else none
  else none
noncomputable def opMakeMap (P : Program) (call : Callee) (get : Get) (o : Oper) (ρ : Operand → PV) (t : TypeId) (r : Option Operand) : Option OpR := do
  let _ ← match r with
    | none => some 0
    | some x => (mapElem P t).bind fun _ => intOfP (ρ x)
  let d ← o.dst
  let g := (get (.loc d)).1 + 1
  some (.val (.mref (.loc d) g) [(.loc d, g, .map [] [])])
noncomputable def opMapUpdate (P : Program) (call : Callee) (get : Get) (o : Oper) (ρ : Operand → PV) (t : TypeId) (m k x : Operand) : Option OpR := match ρ m, ρ k with
  | .mref r g, .v kv => do
    let (ks, vs) ← mapAt get r g
    let d ← keyDesc P t
    match findK d kv ks 0 with
    | some (some i) => some (.val undefP [(r, g, .map (ks.set i kv) (vs.set i (ρ x)))])
    | some none => if keyOk d kv then some (.val undefP [(r, g, .map (ks ++ [kv]) (vs ++ [ρ x]))]) else none
    | none => none
  | _, _ => none
noncomputable def opLookup (P : Program) (call : Callee) (get : Get) (o : Oper) (ρ : Operand → PV) (t : TypeId) (m k : Operand) (ok : Bool) : Option OpR := match ρ k with
  | .v kv => do
    let (ks, vs) ← mapOf get (ρ m)
    let d ← keyDesc P t
    let e ← mapElem P t
    let z ← (P.info? e).bind (·.zero)
    let zp ← ofVal z
    if keyOk d kv then
      match findK d kv ks 0 with
      | some (some i) => do let p ← vs[i]?; some (.val (if ok then .tup [p, .v (.bool true)] else p) [])
      | some none => some (.val (if ok then .tup [zp, .v (.bool false)] else zp) [])
      | none => none
    else none
  | _ => none
noncomputable def opTypeAssert (P : Program) (call : Callee) (get : Get) (o : Oper) (ρ : Operand → PV) (x : Operand) (asserted : TypeId) (ok : Bool) : Option OpR := match P.underlying asserted, ρ x with
  | some (.interface want), .iface t p => do
    let i ← P.info? t
    if (Instr.missingMethod want i.methods).isNone then some (.val (if ok then .tup [.iface t p, .v (.bool true)] else .iface t p) []) else none
  | some (.interface _), _ => (plainF P o ρ)
  | some _, .iface t p => do
    let z ← (P.info? asserted).bind (·.zero)
    let zp ← ofVal z
    if t = asserted then some (.val (if ok then .tup [p, .v (.bool true)] else p) [])
    else if ok then some (.val (.tup [zp, .v (.bool false)]) []) else none
  | _, _ => (plainF P o ρ)
noncomputable def opEval (P : Program) (call : Callee) (get : Get) (o : Oper) (ρ : Operand → PV) : Option OpR :=
  match o.op with
  | .move x | .assign x => some (.val (ρ x) [])
  | .pick c a b => opPick P call get o ρ c a b
  | .alloc elem => opAlloc P call get o ρ elem
  | .box _ x => opBox P call get o ρ x
  | .build t parts => opBuild P call get o ρ t parts
  | .buildSlice t len parts => opBuildSlice P call get o ρ t len parts
  | .load t a => opLoad P call get o ρ t a
  | .store t a x => opStore P call get o ρ t a x
  | .nilCheck x => opNilCheck P call get o ρ x
  | .binOp op xt x y _ => opBinOp P call get o ρ op xt x y
  | .makeInterface t x => opMakeInterface P call get o ρ t x
  | .makeFunc fn first captured => opMakeFunc P call get o ρ fn first captured
  | .slice t x lo hi mx => opSlice P call get o ρ t x lo hi mx
  | .fieldAddr s x f => opFieldAddr P call get o ρ s x f
  | .field t x f => opField P call get o ρ t x f
  | .indexAddr t x ix => opIndexAddr P call get o ρ t x ix
  | .index t x ix => opIndex P call get o ρ t x ix
  | .extract x i => opExtract P call get o ρ x i
  | .call c => opCall P call get o ρ c
  | .panic x => opPanic P call get o ρ x
  | .makeSlice t l c => opMakeSlice P call get o ρ t l c
  | .makeMap t r => opMakeMap P call get o ρ t r
  | .mapUpdate t m k x | .insert t m k x => opMapUpdate P call get o ρ t m k x
  | .lookup t m k ok => opLookup P call get o ρ t m k ok
  | .typeAssert x _ asserted ok => opTypeAssert P call get o ρ x asserted ok
  | .unOp .. | .convert .. => plainF P o ρ
  | _ => none

/-- The variables' store. -/
structure Sto where
  bor : List Ent
  loc : List (Nat × Nat × Ent)
def assoc (s : Nat) : List (Nat × Nat × Ent) → Nat × Ent
  | [] => (0, .none)
  | (s', x) :: l => if Nat.beq s s' then x else assoc s l
def assocPut (s : Nat) (x : Nat × Ent) : List (Nat × Nat × Ent) → List (Nat × Nat × Ent)
  | [] => [(s, x)]
  | (s', y) :: l => if Nat.beq s s' then (s', x) :: l else (s', y) :: assocPut s x l
def Sto.get (S : Sto) : Get
  | .bor k => (0, (S.bor[k]?).getD .none)
  | .loc s => assoc s S.loc
def Sto.put (S : Sto) : Key × Nat × Ent → Sto
  | (.bor k, _, e) => { S with bor := S.bor.set k e }
  | (.loc s, x) => { S with loc := assocPut s x S.loc }
def Sto.puts (S : Sto) (l : List (Key × Nat × Ent)) : Sto := l.foldl Sto.put S
/-- 'puts', laid open before one goes on. -/
noncomputable def Sto.putsK {β : Type} (l : List (Key × Nat × Ent)) : Sto → (Sto → β) → β :=
  List.rec (motive := fun _ => Sto → (Sto → β) → β) (fun S k => k S) (fun x _ ih S k => match x with
    | (.bor i, _, e) => forceE e fun e => forceL (S.bor.set i e) fun b => ih ⟨b, S.loc⟩ k
    | (.loc s, g, e) => forceN g fun g => forceE e fun e => forceL (assocPut s (g, e) S.loc) fun m => ih ⟨S.bor, m⟩ k) l

def evalP (fr : Nat → PV) : Operand → PV
  | .tmp t => fr t
  | .const v => (ofVal v).getD .any
  | .global _ => .any
  | .func f => .fn (.func f) [] []

structure St where
  n : Nat
  fr : Tr
  sto : Sto

/-- Whether an operation is carried out. -/
def wantedP (n : Nat) (ops : Array Oper) (fr : Nat → PV) (o : Oper) : Option Bool := match o.guard with
  | none => some true
  | some (j, want) => match (ops[j]?).bind (·.dst) with
    | none => none
    | some d => if Nat.ble n d then none else match fr d with
      | .v (.bool b) => some (b == want)
      | .tup _ => some false
      | _ => none

inductive Ex where
  | normal
  | exit (id : Nat)
  | ret
  | panic (p : PV)
  deriving Inhabited

/-- Writes go to variables that are there. -/
def validW (S : Sto) (ws : List (Key × Nat × Ent)) : Bool := ws.all fun x => match x.1 with
  | .bor i => Nat.blt i S.bor.length && Nat.beq x.2.1 0
  | .loc _ => true
/-- What one operation does: what lies in its slot, and which variables hold what. -/
structure Eff where
  dst : Option Tmp
  p : PV
  ws : List (Key × Nat × Ent)
abbrev FG := (Nat → PV) × Get
noncomputable def opEff (P : Program) (call : Callee) (n : Nat) (ops : Array Oper) (o : Oper) (x : FG) : Option (Bool × Eff) :=
  match wantedP n ops x.1 o with
  | none => none
  | some false => some (false, ⟨o.dst, undefP, []⟩)
  | some true => match opEval P call x.2 o (evalP x.1) with
    | none => none
    | some (.val p ws) => some (false, ⟨o.dst, p, ws⟩)
    | some (.pan p ws) => some (true, ⟨none, p, ws⟩)
noncomputable def putK {β : Type} (fr : Tr) (dst : Option Tmp) (p : PV) (k : Tr → β) : β := match dst with
  | some d => forceW p fun p => fr.setK d p k
  | none => k fr
def dstOk (n : Nat) : Option Tmp → Bool
  | some d => Nat.blt d n
  | none => true
noncomputable def opStep {β : Type} (P : Program) (call : Callee) (ops : Array Oper) (o : Oper) (s : St) (k : Bool → PV → St → Option β) : Option β :=
  match opEff P call s.n ops o (s.fr.get, s.sto.get) with
  | none => none
  | some (pan, ⟨dst, p, ws⟩) => match validW s.sto ws, dstOk s.n dst with
    | true, true => putK s.fr dst p fun fr => Sto.putsK ws s.sto fun sto => k pan p ⟨s.n, fr, sto⟩
    | _, _ => none
noncomputable def evOps (P : Program) (call : Callee) (ops : Array Oper) (l : List Oper) : St → Option (Ex × St) :=
  List.rec (motive := fun _ => St → Option (Ex × St)) (fun s => some (.normal, s)) (fun o _ ih s => opStep P call ops o s fun pan p s' => match pan with
    | true => some (.panic p, s')
    | false => ih s') l

noncomputable def iter (body : St → Option (Ex × St)) (n : Nat) : St → Option (Ex × St) :=
  Nat.rec (motive := fun _ => St → Option (Ex × St)) (fun _ => none) (fun _ ih s => match body s with
    | some (.normal, s') => ih s'
    | r => r) n

noncomputable def evC (P : Program) (call : Callee) (fuel : Nat) (draws : Array Oper → St → Option (Ex × St)) (c : Code) : St → Option (Ex × St) :=
  Code.rec (motive := fun _ => St → Option (Ex × St))
    (fun s => some (.normal, s))
    (fun _ ops draw s => match draw with
      | true => draws ops s
      | false => evOps P call ops ops.toList s)
    (fun _ _ ea eb s => match ea s with
      | some (.normal, s') => eb s'
      | r => r)
    (fun c _ _ ea eb s => match evalP s.fr.get c with
      | .v (.bool true) => ea s
      | .v (.bool false) => eb s
      | _ => none)
    (fun id _ eb s => match eb s with
      | some (.exit id', s') => match Nat.beq id' id with
        | true => some (.normal, s')
        | false => some (.exit id', s')
      | r => r)
    (fun _ eb s => iter eb fuel s)
    (fun _ _ _ _ _ _ _ => none)
    (fun id s => some (.exit id, s))
    (fun _ eb s => eb s)
    (fun _ s => some (.normal, s))
    (fun _ _ => none)
    (fun s => some (.ret, s))
    (fun _ _ => none) c

noncomputable def resultP (P : Program) (s : St) : ResultVar → Option PV
  | .tmp t => some (s.fr.get t)
  | .cell a t => match s.fr.get a with
    | .ref k g off => do let cs ← cellsAt s.sto.get k g; readP P t cs off
    | _ => none
noncomputable def resultsP (P : Program) (s : St) : List ResultVar → Option (List PV)
  | [] => some []
  | r :: rs => do let p ← resultP P s r; let ps ← resultsP P s rs; pure (p :: ps)
def oneOrTup : List PV → PV
  | [p] => p
  | ps => .tup ps
end Go.Pv
namespace Go.Pv

/-- The variables that an operation looks at, and those that it writes. -/
structure FP where
  kr : List Key
  kw : List Key
def maskOf : List Nat → Nat
  | [] => 0
  | t :: l => Nat.lor (Nat.shiftLeft 1 t) (maskOf l)

def refKey : PV → List Key
  | .ref k _ _ | .sl k _ _ _ _ | .mref k _ => [k]
  | _ => []
/-- The variables that a value's own cells point to. -/
def cellKeys : PV → List Key
  | .agg cs => cs.flatMap refKey
  | p => refKey p
def tokKey : PV → List Key
  | .vec (.line k _) _ => [k]
  | _ => []

/-- The variables that an operation looks at (besides those that it writes). -/
noncomputable def keysOf (P : Program) (get : Get) (o : Oper) (ρ : Operand → PV) : List Key :=
  match o.op with
  | .box _ x => cellKeys (ρ x)
  | .build _ parts | .buildSlice _ _ parts => parts.toList.flatMap fun x => cellKeys (ρ x.2)
  | .load _ a | .nilCheck a | .fieldAddr _ a _ | .indexAddr _ a _ | .slice _ a _ _ _ | .lookup _ a _ _ => refKey (ρ a)
  | .binOp _ _ x y _ => refKey (ρ x) ++ refKey (ρ y)
  | .store _ a x => refKey (ρ a) ++ cellKeys (ρ x)
  | .mapUpdate _ m _ _ | .insert _ m _ _ => refKey (ρ m)
  | .call c => match c.callee with
    | .builtin .append => match c.args.toList with
      | [s, x] => openKey :: (tokKey (ρ s) ++ (refKey (ρ s) ++ refKey (ρ x)))
      | _ => []
    | .builtin .len => (c.args.toList.map ρ).flatMap refKey
    | .builtin .copy => (c.args.toList.map ρ).flatMap refKey
    | .builtin _ => []
    | .value f => match fnOf P (ρ f) (c.args.toList.map ρ) with
      | some (_, args) => reach get 64 (args.flatMap refsQ) []
      | none => []
    | .invoke x name => match methodOf P (ρ x) name with
      | some (_, recv) => reach get 64 ((recv :: c.args.toList.map ρ).flatMap refsQ) []
      | none => []
  | _ => []

noncomputable def footP (P : Program) (get : Get) (o : Oper) (ρ : Operand → PV) (w : Bool) (e : Eff) : FP :=
  ⟨(match w with
    | true => keysOf P get o ρ
    | false => []) ++ e.ws.map (·.1), e.ws.map (·.1)⟩

def apartKeys (a b : List Key) : Bool := a.all fun k => !b.contains k
def FP.indep (a b : FP) : Bool := apartKeys a.kw b.kr && apartKeys b.kw a.kr

/-- In the order of the text, with what each operation looks at. -/
noncomputable def evFoot (P : Program) (call : Callee) (ops : Array Oper) : List Oper → St → Option (List FP × St)
  | [], s => some ([], s)
  | o :: rest, s => do
    let w ← wantedP s.n ops s.fr.get o
    let r ← opEff P call s.n ops o (s.fr.get, s.sto.get)
    if !r.1 && validW s.sto r.2.ws && dstOk s.n r.2.dst then
      putK s.fr r.2.dst r.2.p fun fr => Sto.putsK r.2.ws s.sto fun sto =>
        match evFoot P call ops rest ⟨s.n, fr, sto⟩ with
        | some (l, t) => some (footP P s.sto.get o (evalP s.fr.get) w r.2 :: l, t)
        | none => none
    else none

/-- For each operation those that are bound to come before it (as bits of a number). -/
def ancOf (acc : List Nat) : List Edge → Nat
  | [] => 0
  | e :: es => match Region.binds .any e with
    | true => Nat.lor (Nat.lor (Nat.shiftLeft 1 e.on) (acc.getD e.on 0)) (ancOf acc es)
    | false => ancOf acc es
def ancsGo : List Oper → List Nat → List Nat
  | [], acc => acc
  | o :: os, acc => ancsGo os (acc ++ [ancOf acc o.after.toList])
def ancs (ops : Array Oper) : List Nat := ancsGo ops.toList []
def backward (ops : Array Oper) : Bool :=
  ops.toList.zipIdx.all fun (o, i) => o.after.toList.all fun e => !Region.binds .any e || decide (e.on < i)
/-- The slots that an operation looks at and writes, as bits of a number. -/
def slotsOf (ops : Array Oper) (o : Oper) : Nat × Nat := (maskOf (o.looksAt ops), maskOf o.dst.toList)
def slotsApart (a b : Nat × Nat) : Bool := Nat.beq (Nat.land a.2 b.1) 0 && Nat.beq (Nat.land b.2 a.1) 0 && Nat.beq (Nat.land a.2 b.2) 0
def oneSlots (b : Nat × Nat) (anc : Nat) : List (Nat × Nat) → Nat → Bool
  | [], _ => true
  | a :: fs, i => match Nat.testBit anc i with
    | true => oneSlots b anc fs (i + 1)
    | false => match slotsApart a b with
      | true => oneSlots b anc fs (i + 1)
      | false => false
def slotsOk : List Nat → List (Nat × Nat) → List (Nat × Nat) → Bool
  | anc :: as, b :: fs, done => match oneSlots b anc done 0 with
    | true => slotsOk as fs (done ++ [b])
    | false => false
  | _, [], _ => true
  | [], _ :: _, _ => false
/-- What hangs on the text alone. -/
def regionOk (ops : Array Oper) : Bool := backward ops && slotsOk (ancs ops) (ops.toList.map (slotsOf ops)) []

def oneKeys (b : FP) (anc : Nat) : List (Nat × FP) → Bool
  | [] => true
  | (i, a) :: l => match Nat.testBit anc i with
    | true => oneKeys b anc l
    | false => match a.indep b with
      | true => oneKeys b anc l
      | false => false
/-- Each operation, with those before it in the text: those that write, and all. -/
def keysOk : List Nat → List FP → Nat → List (Nat × FP) → List (Nat × FP) → Bool
  | anc :: as, b :: fs, i, ws, rs => match b.kr, b.kw with
    | [], [] => keysOk as fs (i + 1) ws rs
    | _, [] => match oneKeys b anc ws with
      | true => keysOk as fs (i + 1) ws ((i, b) :: rs)
      | false => false
    | _, _ => match oneKeys b anc rs with
      | true => keysOk as fs (i + 1) ((i, b) :: ws) ((i, b) :: rs)
      | false => false
  | _, [], _, _, _ => true
  | [], _ :: _, _, _, _ => false

def bitAt (as : List Nat) (i : Nat) : Bool := match as with
  | a :: _ => Nat.testBit a i
  | [] => false
/-- The same, where one operation may panic: what hangs on it is left out. -/
noncomputable def evFootX (P : Program) (call : Callee) (ops : Array Oper) : List Oper → List Nat → Nat → Option (Nat × PV) → St → Option (List FP × Option (Nat × PV) × St)
  | [], _, _, pan, s => some ([], pan, s)
  | o :: rest, as, i, pan, s => match (match pan with | some x => bitAt as x.1 | none => false) with
    | true => match evFootX P call ops rest as.tail (i + 1) pan s with
      | some (l, r) => some (⟨[], []⟩ :: l, r)
      | none => none
    | false => match wantedP s.n ops s.fr.get o with
      | none => none
      | some w => match opEff P call s.n ops o (s.fr.get, s.sto.get) with
        | none => none
        | some (false, ⟨dst, p, ws⟩) => match validW s.sto ws, dstOk s.n dst with
          | true, true => putK s.fr dst p fun fr => Sto.putsK ws s.sto fun sto =>
            match evFootX P call ops rest as.tail (i + 1) pan ⟨s.n, fr, sto⟩ with
            | some (l, r) => some (footP P s.sto.get o (evalP s.fr.get) w ⟨dst, p, ws⟩ :: l, r)
            | none => none
          | _, _ => none
        | some (true, ⟨dst, p, ws⟩) => match pan, ws, dst with
          | none, [], none => match evFootX P call ops rest as.tail (i + 1) (some (i, p)) s with
            | some (l, r) => some (footP P s.sto.get o (evalP s.fr.get) w ⟨none, p, []⟩ :: l, r)
            | none => none
          | _, _, _ => none
def Key.own : Key → Bool
  | .loc _ => true
  | .bor _ => false
/-- What may be carried out, or not, before the panic writes new variables alone, each once. -/
def quietOk (anc : Nat) (all : List FP) : List FP → Nat → Bool
  | [], _ => true
  | b :: fs, j => match b.kw with
    | [] => quietOk anc all fs (j + 1)
    | kw => match Nat.testBit anc j with
      | true => quietOk anc all fs (j + 1)
      | false => match kw.all fun k => Key.own k && all.zipIdx.all fun x => Nat.beq x.2 j || !x.1.kw.contains k with
        | true => quietOk anc all fs (j + 1)
        | false => false
/-- These variables. -/
def wiped (anc : Nat) : List FP → Nat → List Key
  | [], _ => []
  | b :: fs, j => match Nat.testBit anc j with
    | true => wiped anc fs (j + 1)
    | false => b.kw ++ wiped anc fs (j + 1)
def wipe (a b : Get) (ks : List Key) : List (Key × Nat × Ent) := ks.map fun k => (k, (a k).1 + (b k).1 + 1, .none)
noncomputable def blank (ops : List Oper) : Tr → Tr :=
  List.rec (motive := fun _ => Tr → Tr) (fun fr => fr) (fun o _ ih fr => match o.dst with
    | some d => fr.setK d .any ih
    | none => ih fr) ops
noncomputable def drawsP (P : Program) (call : Callee) (ops : Array Oper) (s : St) : Option (Ex × St) :=
  match evFootX P call ops ops.toList (ancs ops) 0 none s with
  | none => none
  | some (fs, none, t) => match regionOk ops, keysOk (ancs ops) fs 0 [] [] with
    | true, true => some (.normal, t)
    | _, _ => none
  | some (fs, some (i, p), t) => match regionOk ops, keysOk (ancs ops) fs 0 [] [], quietOk ((ancs ops).getD i 0) fs fs 0 with
    | true, true, true => Sto.putsK (wipe s.sto.get t.sto.get (wiped ((ancs ops).getD i 0) fs 0)) t.sto fun sto => some (.panic p, ⟨s.n, blank ops.toList s.fr, sto⟩)
    | _, _, _ => none

mutual
/-- The variables that a value points to by itself. -/
def ptrs : PV → List (Key × Nat)
  | .agg cs | .tup cs => ptrsL cs
  | .ref k g _ => [(k, g)]
  | .eptr cs _ => ptrsL cs
  | .vec _ es => ptrsL es
  | .fn _ as cs => ptrsL as ++ ptrsL cs
  | .iface _ p => ptrs p
  | .imap _ vs => ptrsL vs
  | _ => []
def ptrsL : List PV → List (Key × Nat)
  | [] => []
  | p :: ps => ptrs p ++ ptrsL ps
end
/-- A variable of the call's own that it does not hand on. -/
def mine (get : Get) (L : List Key) (k : Key) (g : Nat) : Bool := match k with
  | .loc _ => g == (get k).1 && !L.contains k
  | .bor _ => false
mutual
/-- What a call made and nobody else can reach is written no more. (inner: what becomes of what lies in its variables.) -/
def frzW (inner : PV → PV) (get : Get) (L : List Key) : PV → PV
  | .agg cs => .agg (frzL inner get L cs)
  | .tup cs => .tup (frzL inner get L cs)
  | .eptr cs off => .eptr (frzL inner get L cs) off
  | .vec tok es => .vec tok (frzL inner get L es)
  | .fn f as cs => .fn f (frzL inner get L as) (frzL inner get L cs)
  | .iface t p => .iface t (frzW inner get L p)
  | .imap ks vs => .imap ks (frzL inner get L vs)
  | .sl k g off n sz => if mine get L k g then
      match cellsAt get k g with
      | some cs => if off + n * sz ≤ cs.length then .vec .no (chunks sz n ((cs.drop off).map inner)) else .any
      | none => .any
    else .sl k g off n sz
  | .mref k g => if mine get L k g then
      match mapAt get k g with
      | some m => .imap m.1 (m.2.map inner)
      | none => .any
    else .mref k g
  | p => p
def frzL (inner : PV → PV) (get : Get) (L : List Key) : List PV → List PV
  | [] => []
  | p :: ps => frzW inner get L p :: frzL inner get L ps
end
def frz (get : Get) (L : List Key) : PV → PV := frzW (frzW (frzW (frzW (fun p => p) get L) get L) get L) get L
noncomputable def entRefs : Ent → List (Key × Nat)
  | .cells cs => cs.flatMap refsQ ++ cs.flatMap toksQ
  | .map _ vs => vs.flatMap refsQ ++ vs.flatMap toksQ
  | _ => []
def locKeys : List Key → List Key
  | [] => []
  | .loc s :: ks => .loc s :: locKeys ks
  | .bor _ :: ks => locKeys ks
/-- From the callee's names to those that it hands back. -/
def out (get : Get) (n : Nat) (L : List Key) (k : Key) (g : Nat) : Option (Key × Nat) := match k with
  | .bor i => if i < n ∧ g = 0 then some (.bor i, 0) else none
  | .loc _ => if g = (get k).1 then (idx? k L 0).map fun j => (.bor (n + j), 0) else none

/-- keep: functions whose results stay writable; hook: functions whose meaning is known otherwise; wr: slots whose slices stay open to stores (bits); dfr: functions that defer one call. -/
structure Pol where
  keep : FuncId → Bool
  hook : Callee
  wr : FuncId → Nat := fun _ => 0
  dfr : FuncId → Bool := fun _ => false
noncomputable def finish (keep : Bool) (s : St) (p : PV) : PV × List Ent :=
  let get := s.sto.get
  let n := s.sto.bor.length
  let roots := (match pureP p with
    | true => []
    | false => if keep then refs p ++ toks p else ptrs p) ++ s.sto.bor.flatMap entRefs
  let L := locKeys (reach get 64 roots [])
  let m := out get n L
  (match pureP p with
    | true => p
    | false => ren m (frz get L p), s.sto.bor.map (renEQ m) ++ L.map fun k => renEQ m (get k).2)
def depthOf (n : Nat) : Nat := Nat.log2 n + 1
noncomputable def Tr.fillK {β : Type} (ps : List PV) : Tr → Nat → (Tr → β) → β :=
  List.rec (motive := fun _ => Tr → Nat → (Tr → β) → β) (fun t _ k => k t) (fun p _ ih t i k => forceW p fun p => t.setK i p fun t => ih t (i + 1) k) ps
/-- A function that looks first of all whether there is a panic: where that is laid, and what follows. -/
def recHead : Code → Option (Tmp × Code)
  | .seq (.region _ ops false) rest => match ops.toList with
    | [o] => match o.op, o.guard, o.dst with
      | .call c, none, some d => match c.callee with
        | .builtin .recover => match c.args.toList with
          | [] => some (d, rest)
          | _ => none
        | _ => none
      | _, _, _ => none
    | _ => none
  | _ => none
/-- A statement that defers a call of a function value without arguments: what comes before it, and the value. -/
def isDefer : Code → Option (Array Oper × List Oper × Operand)
  | .region _ ops false => match ops.toList.reverse with
    | o :: before => match o.op, o.guard, o.dst with
      | .defer c, none, none => match c.callee with
        | .value t => match c.args.toList with
          | [] => some (ops, before.reverse, t)
          | _ => none
        | _ => none
      | _, _, _ => none
    | _ => none
  | _ => none
noncomputable def evDf {β : Type} (P : Program) (call : Callee) (fuel : Nat) (draws : Array Oper → St → Option (Ex × St)) (kd : St → Operand → Code → Option β) (ke : Ex → St → Option β) : Code → St → Option β
  | .seq x y, s => match isDefer x with
    | some (ops, before, t) => match evOps P call ops before s with
      | some (.normal, s') => kd s' t y
      | some (ex, s') => ke ex s'
      | none => none
    | none => match evC P call fuel draws x s with
      | some (.normal, s') => evDf P call fuel draws kd ke y s'
      | some (ex, s') => ke ex s'
      | none => none
  | _, _ => none
noncomputable def retP (P : Program) (keep : Bool) (fn : Func) (s : St) : Option CallR := do
  let ps ← resultsP P s fn.results.toList
  let r := finish keep s (oneOrTup ps)
  some (.ret r.1 r.2)
noncomputable def endP (P : Program) (keep : Bool) (fn : Func) : Ex → St → Option CallR
  | .normal, s | .ret, s => retP P keep fn s
  | .panic p, s => let r := finish false s p
    some (.pan r.1 r.2)
  | _, _ => none
noncomputable def endDef (P : Program) (keep : Bool) (fn : Func) : Option (Ex × St) → Option CallR
  | some (.normal, s) => retP P keep fn s
  | some (.ret, s) => retP P keep fn s
  | _ => none
noncomputable def goDef (P : Program) (pol : Pol) (call : Callee) (k : Nat) (mode : Option PV) (f : FuncId) (args : List PV) (bor : List Ent) (fn : Func) (h : Tmp × Code) : Option CallR :=
  match Nat.ble args.length fn.ntmps, Nat.blt h.1 fn.ntmps with
  | true, true => Tr.fillK args (Tr.full (depthOf fn.ntmps)) 0 fun fr => fr.setK h.1 (mode.getD (.v .nilIface)) fun fr => forceL bor fun bor =>
      endDef P (pol.keep f) fn (evC P call k (drawsP P call) h.2 ⟨fn.ntmps, fr, ⟨bor, [(1000000000, pol.wr f, .none)]⟩⟩)
  | _, _ => none
/-- A deferred function, with the panic that there is. -/
noncomputable def evDef (P : Program) (pol : Pol) (call : Callee) (k : Nat) (mode : Option PV) : Callee := fun f args bor => do
  let fn ← P.funcs[f]?
  let body ← fn.body
  let h ← recHead body
  goDef P pol call k mode f args bor fn h
/-- What a call leaves when its one deferred call has run. -/
noncomputable def leaveP (P : Program) (pol : Pol) (call : Callee) (k : Nat) (keep : Bool) (fn : Func) (g : FuncId) (args : List PV) (mode : Option PV) (s : St) : Option CallR :=
  match callP (evDef P pol call k mode) s.sto.get none g args with
  | some (.val _ ws) => match validW s.sto ws with
    | true => Sto.putsK ws s.sto fun sto => retP P keep fn ⟨s.n, s.fr, sto⟩
    | false => none
  | _ => none
noncomputable def deferP (P : Program) (pol : Pol) (call : Callee) (k : Nat) (keep : Bool) (fn : Func) (s : St) (t : Operand) (rest : Code) : Option CallR :=
  match evalP s.fr.get t with
  | .fn (.func g) first captured => match enters P g with
    | true => match evC P call k (drawsP P call) rest s with
      | some (.normal, s') => leaveP P pol call k keep fn g (first ++ captured) none s'
      | some (.ret, s') => leaveP P pol call k keep fn g (first ++ captured) none s'
      | some (.panic p, s') => match pureP p with
        | true => leaveP P pol call k keep fn g (first ++ captured) (some p) s'
        | false => none
      | _ => none
    | false => none
  | _ => none
noncomputable def goF (P : Program) (pol : Pol) (call : Callee) (k : Nat) (f : FuncId) (args : List PV) (bor : List Ent) (fn : Func) (body : Code) : Option CallR :=
  match Nat.ble args.length fn.ntmps with
  | true => Tr.fillK args (Tr.full (depthOf fn.ntmps)) 0 fun fr => forceL bor fun bor =>
      match pol.dfr f with
      | true => evDf P call k (drawsP P call) (deferP P pol call k (pol.keep f) fn) (endP P (pol.keep f) fn) body ⟨fn.ntmps, fr, ⟨bor, [(1000000000, pol.wr f, .none)]⟩⟩
      | false => match evC P call k (drawsP P call) body ⟨fn.ntmps, fr, ⟨bor, [(1000000000, pol.wr f, .none)]⟩⟩ with
        | some (ex, s) => endP P (pol.keep f) fn ex s
        | none => none
  | false => none
noncomputable def evF (P : Program) (pol : Pol) : Nat → Callee
  | 0, _, _, _ => none
  | k + 1, f, args, bor => match pol.hook f args bor with
    | some r => some r
    | none => do
      let fn ← P.funcs[f]?
      let body ← fn.body
      goF P pol (evF P pol k) k f args bor fn body
end Go.Pv
namespace Go.Pv
theorem forceN_eq {β : Type} (n : Nat) (k : Nat → β) : forceN n k = k n := by cases n <;> rfl
theorem forceI_eq {β : Type} (n : Int) (k : Int → β) : forceI n k = k n := by
  cases n with
  | ofNat m => show forceN m (fun m => k (.ofNat m)) = _; rw [forceN_eq]
  | negSucc m => show forceN m (fun m => k (.negSucc m)) = _; rw [forceN_eq]
theorem forceL_eq {α β : Type} : ∀ (l : List α) (k : List α → β), forceL l k = k l
  | [], _ => rfl
  | x :: xs, k => forceL_eq xs fun ys => k (x :: ys)
theorem forceB_eq {β : Type} (b : Bool) (k : Bool → β) : forceB b k = k b := by cases b <;> rfl
theorem forceV_eq {β : Type} (x : Value) (k : Value → β) : forceV x k = k x := by
  cases x <;> try rfl
  · simp only [forceV, forceB_eq]
  · simp only [forceV, forceI_eq]
  · rename_i s; obtain ⟨⟨l⟩⟩ := s; simp only [forceV, forceL_eq]
theorem forceW_eq {β : Type} (p : PV) (k : PV → β) : forceW p k = k p := by cases p <;> rfl
theorem forceP_eq {β : Type} (p : PV) (k : PV → β) : forceP p k = k p := by
  cases p <;> try rfl
  · simp only [forceP, forceV_eq]
  · simp only [forceP, forceL_eq]
  · simp only [forceP, forceL_eq]
  · simp only [forceP, forceN_eq]
  · simp only [forceP, forceL_eq]
theorem forceC_eq {β : Type} : ∀ (l : List PV) (k : List PV → β), forceC l k = k l
  | [], _ => rfl
  | x :: xs, k => by
    show forceW x (fun x => forceC xs fun ys => k (x :: ys)) = _
    rw [forceW_eq, forceC_eq xs]
theorem forceE_eq {β : Type} (e : Ent) (k : Ent → β) : forceE e k = k e := by
  cases e with
  | none => rfl
  | cells cs => simp only [forceE, forceC_eq]
  | top n e s => simp only [forceE, forceN_eq]
  | map ks vs => simp only [forceE, forceL_eq, forceC_eq]

theorem Tr.get_leaf (i : Nat) : Tr.leaf.get i = undefP := rfl
theorem Tr.get_zero (l r : Tr) (x : PV) : (Tr.node l x r).get 0 = x := rfl
theorem Tr.get_succ (l r : Tr) (x : PV) (i : Nat) : (Tr.node l x r).get (i + 1) = if i % 2 = 0 then l.get (i / 2) else r.get (i / 2) := by
  show Bool.rec (motive := fun _ => PV) (r.get (i / 2)) (l.get (i / 2)) (Nat.beq (i % 2) 0) = _
  cases h : Nat.beq (i % 2) 0 with
  | true => rw [if_pos (Nat.eq_of_beq_eq_true h)]
  | false => rw [if_neg (fun e => by rw [e] at h; cases h)]
theorem Tr.set_succ (l r : Tr) (x : PV) (i : Nat) (p : PV) : (Tr.node l x r).set (i + 1) p = if i % 2 = 0 then .node (l.set (i / 2) p) x r else .node l x (r.set (i / 2) p) := by
  show Bool.rec (motive := fun _ => Tr) (.node l x (r.set (i / 2) p)) (.node (l.set (i / 2) p) x r) (Nat.beq (i % 2) 0) = _
  cases h : Nat.beq (i % 2) 0 with
  | true => rw [if_pos (Nat.eq_of_beq_eq_true h)]
  | false => rw [if_neg (fun e => by rw [e] at h; cases h)]
theorem Tr.setK_eq {β : Type} : ∀ (t : Tr) (i : Nat) (p : PV) (k : Tr → β), t.setK i p k = k (t.set i p)
  | .leaf, i, p, k => rfl
  | .node l x r, 0, p, k => rfl
  | .node l x r, i + 1, p, k => by
    show Bool.rec (motive := fun _ => β) (r.setK (i / 2) p fun r' => k (.node l x r')) (l.setK (i / 2) p fun l' => k (.node l' x r)) (Nat.beq (i % 2) 0) = k (Bool.rec (motive := fun _ => Tr) (.node l x (r.set (i / 2) p)) (.node (l.set (i / 2) p) x r) (Nat.beq (i % 2) 0))
    cases Nat.beq (i % 2) 0 with
    | true => exact Tr.setK_eq l _ _ _
    | false => exact Tr.setK_eq r _ _ _
/-- What is set is found; what is elsewhere is as it was. (Where the tree ends, nothing is set.) -/
theorem Tr.get_set_ne : ∀ (t : Tr) (i j : Nat) (p : PV), j ≠ i → (t.set i p).get j = t.get j
  | .leaf, i, j, p, _ => rfl
  | .node l x r, 0, j, p, h => by
    cases j with
    | zero => exact absurd rfl h
    | succ j => simp only [show (Tr.node l x r).set 0 p = .node l p r from rfl, Tr.get_succ]
  | .node l x r, i + 1, j, p, h => by
    rw [Tr.set_succ]
    cases j with
    | zero => split <;> rfl
    | succ j =>
      split
      · rename_i h2
        simp only [Tr.get_succ]
        split
        · rw [Tr.get_set_ne l _ _ p (by omega)]
        · rfl
      · rename_i h2
        simp only [Tr.get_succ]
        split
        · rfl
        · rw [Tr.get_set_ne r _ _ p (by omega)]
theorem Tr.full_get : ∀ (n i : Nat), (Tr.full n).get i = undefP
  | 0, _ => rfl
  | n + 1, 0 => rfl
  | n + 1, i + 1 => by
    show (Tr.node _ _ _).get (i + 1) = _
    rw [Tr.get_succ]; split <;> exact Tr.full_get n _
/-- All slots below n are there. -/
def Tr.has : Tr → Nat → Prop
  | .leaf, _ => False
  | .node _ _ _, 0 => True
  | .node l _ r, i + 1 => if i % 2 = 0 then l.has (i / 2) else r.has (i / 2)
theorem Tr.get_set : ∀ (t : Tr) (i : Nat) (p : PV), t.has i → (t.set i p).get i = p
  | .leaf, _, _, h => h.elim
  | .node l x r, 0, p, _ => rfl
  | .node l x r, i + 1, p, h => by
    rw [Tr.set_succ]
    simp only [Tr.has] at h
    split at h
    · rename_i h2
      rw [if_pos h2, Tr.get_succ, if_pos h2]; exact Tr.get_set l _ p h
    · rename_i h2
      rw [if_neg h2, Tr.get_succ, if_neg h2]; exact Tr.get_set r _ p h
theorem Tr.has_set : ∀ (t : Tr) (i j : Nat) (p : PV), t.has j → (t.set i p).has j
  | .leaf, _, _, _, h => h.elim
  | .node l x r, 0, j, p, h => by cases j <;> exact h
  | .node l x r, i + 1, j, p, h => by
    rw [Tr.set_succ]
    cases j with
    | zero => split <;> trivial
    | succ j =>
      simp only [Tr.has] at h
      split
      · simp only [Tr.has]
        split at h
        · rename_i h2; rw [if_pos h2]; exact Tr.has_set l _ _ p h
        · rename_i h2; rw [if_neg h2]; exact h
      · simp only [Tr.has]
        split at h
        · rename_i h2; rw [if_pos h2]; exact h
        · rename_i h2; rw [if_neg h2]; exact Tr.has_set r _ _ p h
theorem Tr.full_has : ∀ (d i : Nat), i + 1 < 2 ^ d → (Tr.full d).has i
  | 0, i, h => by simp at h
  | d + 1, 0, _ => trivial
  | d + 1, i + 1, h => by
    show (Tr.node _ _ _).has (i + 1)
    simp only [Tr.has]
    have : 2 ^ (d + 1) = 2 * 2 ^ d := by rw [Nat.pow_succ]; omega
    split <;> exact Tr.full_has d _ (by omega)
theorem depth_has (n i : Nat) (h : i < n) : (Tr.full (depthOf n)).has i := by
  refine Tr.full_has _ _ ?_
  unfold depthOf
  have := Nat.lt_log2_self (n := n)
  omega

theorem pureP_agg (cs : List PV) : pureP (.agg cs) = cs.all pureP := by
  show PV.rec_1 (motive_1 := fun _ => Bool) (motive_2 := fun _ => Bool) _ _ _ _ _ _ _ _ _ _ _ _ _ _ cs = _
  induction cs with
  | nil => rfl
  | cons p ps ih =>
    simp only [List.all_cons]
    rw [← ih]
    show (match pureP p with | true => _ | false => false) = _
    cases pureP p <;> rfl
end Go.Pv
namespace Go.Pv
open Go.RowKit

structure Evo (w : World) (E : Env) (G : Get) (w' : World) (E' : Env) (G' : Get) : Prop extends Mono w E G w' E' G' where
  os : w'.os = w.os
  tape : w'.tape = w.tape
  output : w'.output = w.output
  size : w.heap.size ≤ w'.heap.size
  fresh : ∀ k, (G' k).2 ≠ .none → ((G k).2.alike (G' k).2 ∧ E'.β k = E.β k) ∨ w.heap.size ≤ E'.β k
  kept : ∀ b, b < w.heap.size → (∀ k, (G k).2 ≠ .none → E.β k ≠ b) → w'.heap[b]? = w.heap[b]?
  limk : ∀ b, b < w.heap.size → (∀ k, (G k).2 ≠ .none → E.β k ≠ b) → E'.lim b = E.lim b

/-- The first cells of a row are known. -/
def RelP (w : World) (E : Env) (G : Get) (cs : List PV) (vs : List Value) : Prop := ∃ us rest, vs = us ++ rest ∧ RelL w E G cs us
theorem RelP.mono {w w' : World} {E E' : Env} {G G' : Get} (M : Mono w E G w' E' G') {cs : List PV} {vs : List Value} (h : RelP w E G cs vs) : RelP w' E' G' cs vs :=
  let ⟨us, rest, e, r⟩ := h; ⟨us, rest, e, RelL.mono M _ _ r⟩
theorem RelP.of {w : World} {E : Env} {G : Get} {cs : List PV} {vs : List Value} (h : RelL w E G cs vs) : RelP w E G cs vs := ⟨vs, [], by simp, h⟩
structure Good (w : World) (E : Env) (G : Get) : Prop where
  cells : ∀ k cs, (G k).2 = .cells cs → ∃ vs t, w.heap[E.β k]? = some (.cells (List.toArray vs) t (0, 0)) ∧ RelP w E G cs vs ∧ (∀ v ∈ vs, v.oneCell' = true) ∧ E.lim (E.β k) = 0
  line : ∀ k n e sz, (G k).2 = .top n e sz → E.β k < w.heap.size
  map : ∀ k ks vs, (G k).2 = .map ks vs → ∃ es c, w.heap[E.β k]? = some (.map es c) ∧ es.toList.map (·.key) = ks ∧ RelL w E G vs (es.toList.map (·.val)) ∧ E.lim (E.β k) = 0
  inj : ∀ k k', (G k).2 ≠ .none → (G k').2 ≠ .none → E.β k = E.β k' → k = k'

theorem Ent.alike_self {e : Ent} (h : e ≠ .none) : e.alike e := by cases e <;> simp_all [Ent.alike]
theorem Ent.alike_ne {e f : Ent} (h : e.alike f) : e ≠ .none ∧ f ≠ .none := by cases e <;> cases f <;> simp_all [Ent.alike]

theorem Evo.rfl {w : World} {E : Env} {G : Get} : Evo w E G w E G :=
  { Mono.rfl with os := _root_.rfl, tape := _root_.rfl, output := _root_.rfl, size := Nat.le_refl _, fresh := fun _ h => .inl ⟨Ent.alike_self h, _root_.rfl⟩, kept := fun _ _ _ => _root_.rfl, limk := fun _ _ _ => _root_.rfl }

theorem Evo.trans {w w1 w2 : World} {E E1 E2 : Env} {G G1 G2 : Get} (h : Evo w E G w1 E1 G1) (k : Evo w1 E1 G1 w2 E2 G2) : Evo w E G w2 E2 G2 := by
  have live : ∀ b, b < w.heap.size → ∀ q, (G1 q).2 ≠ .none → E1.β q = b → (G q).2.alike (G1 q).2 ∧ E.β q = b := by
    intro b hb q hq e
    rcases h.fresh q hq with ⟨a, e2⟩ | hs
    · exact ⟨a, e2.symm.trans e⟩
    · omega
  refine { Mono.trans h.toMono k.toMono with os := k.os.trans h.os, tape := k.tape.trans h.tape, output := k.output.trans h.output, size := Nat.le_trans h.size k.size, fresh := ?_, kept := ?_, limk := ?_ }
  · intro q hq
    rcases k.fresh q hq with ⟨a, e⟩ | hs
    · rcases h.fresh q (Ent.alike_ne a).1 with ⟨a1, e1⟩ | hs1
      · exact .inl ⟨Ent.alike_trans a1 a, e.trans e1⟩
      · exact .inr (by omega)
    · exact .inr (Nat.le_trans h.size hs)
  · intro b hb hn
    rw [k.kept b (Nat.lt_of_lt_of_le hb h.size) fun q hq e => hn q (Ent.alike_ne (live b hb q hq e).1).1 (live b hb q hq e).2, h.kept b hb hn]
  · intro b hb hn
    rw [k.limk b (Nat.lt_of_lt_of_le hb h.size) fun q hq e => hn q (Ent.alike_ne (live b hb q hq e).1).1 (live b hb q hq e).2, h.limk b hb hn]

theorem pureRun_run {α : Type} {P : Program} {s : Sem α} {a : α} (h : pureRun P s = some a) (w : World) : s.run P w = .ok a w := by
  induction s with
  | pure b => simp only [pureRun, Option.some.injEq] at h; subst h; rfl
  | program k ih => exact ih P h
  | mark m k ih => exact ih h
  | _ => simp [pureRun] at h

section
variable {w : World} {E : Env} {G : Get}
mutual
theorem toVal_rel : ∀ (p : PV) (x u : Value), toVal p = some x → Rel w E G p u → u = x
  | .any, x, u, h, _ => by simp [toVal] at h
  | .v y, x, u, h, r => by simp only [toVal, Option.some.injEq, Rel] at h r; rw [r, h]
  | .agg cs, x, u, h, r => by
    simp only [toVal, Option.map_eq_some_iff, Rel] at h r
    obtain ⟨l, hl, rfl⟩ := h
    obtain ⟨vs, rfl, hv⟩ := r
    rw [toVals_rel cs l vs hl hv]
  | .tup cs, x, u, h, r => by
    simp only [toVal, Option.map_eq_some_iff, Rel] at h r
    obtain ⟨l, hl, rfl⟩ := h
    obtain ⟨vs, rfl, hv⟩ := r
    rw [toVals_rel cs l vs hl hv]
  | .ref _ _ _, x, u, h, _ => by simp [toVal] at h
  | .eptr _ _, x, u, h, _ => by simp [toVal] at h
  | .vec .nil [], x, u, h, r => by
    simp only [toVal, Option.some.injEq, Rel] at h r
    subst h
    rcases r with ⟨_, _, hu⟩ | ⟨b, o, c, sz, _, _, ht, _⟩
    · exact hu
    · exact ht.elim
  | .vec .nil (_ :: _), x, u, h, _ => by simp [toVal] at h
  | .vec .no _, x, u, h, _ => by simp [toVal] at h
  | .vec .exact _, x, u, h, _ => by simp [toVal] at h
  | .vec (.line _ _) _, x, u, h, _ => by simp [toVal] at h
  | .sl _ _ _ _ _, x, u, h, _ => by simp [toVal] at h
  | .mref _ _, x, u, h, _ => by simp [toVal] at h
  | .imap _ _, x, u, h, _ => by simp [toVal] at h
  | .fn f as cs, x, u, h, r => by
    simp only [toVal, Option.bind_eq_bind, Option.bind_eq_some_iff, Rel, pure, Option.some.injEq] at h r
    obtain ⟨xs, hx, ys, hy, rfl⟩ := h
    obtain ⟨xs', ys', rfl, h1, h2⟩ := r
    rw [toVals_rel as xs xs' hx h1, toVals_rel cs ys ys' hy h2]
  | .iface t p, x, u, h, r => by
    simp only [toVal, Option.map_eq_some_iff, Rel] at h r
    obtain ⟨y, hy, rfl⟩ := h
    obtain ⟨z, rfl, hz⟩ := r
    rw [toVal_rel p y z hy hz]
theorem toVals_rel : ∀ (ps : List PV) (xs us : List Value), toVals ps = some xs → RelL w E G ps us → us = xs
  | [], xs, us, h, r => by simp only [toVals, Option.some.injEq, RelL] at h r; rw [r, h]
  | p :: ps, xs, us, h, r => by
    simp only [toVals, Option.bind_eq_bind, Option.bind_eq_some_iff, RelL, pure, Option.some.injEq] at h r
    obtain ⟨y, hy, ys, hys, rfl⟩ := h
    obtain ⟨u, us', rfl, h1, h2⟩ := r
    rw [toVal_rel p y u hy h1, toVals_rel ps ys us' hys h2]
end

theorem relL_nil : RelL w E G [] [] := by simp only [RelL]
theorem relL_cons {p : PV} {ps : List PV} {x : Value} {xs : List Value} (h : Rel w E G p x) (k : RelL w E G ps xs) : RelL w E G (p :: ps) (x :: xs) := by
  simp only [RelL]; exact ⟨x, xs, rfl, h, k⟩
theorem relL_v (xs : List Value) : RelL w E G (xs.map .v) xs := by
  induction xs with
  | nil => exact relL_nil
  | cons x xs ih => exact relL_cons (by simp only [Rel]) ih

theorem ofCell_rel {x : Value} {p : PV} (h : ofCell x = some p) : Rel w E G p x := by
  unfold ofCell at h
  split at h
  · rename_i t x
    split at h
    · rename_i cs
      split at h
      · cases h; simp only [Rel]; exact ⟨_, rfl, cs.toList, by simp, relL_v _⟩
      · cases h
    · split at h
      · cases h; simp only [Rel]; exact ⟨_, rfl, rfl⟩
      · cases h
  · rename_i f as cs
    split at h
    · rename_i hs
      cases h
      simp only [Rel]
      exact ⟨[], [], by rw [Array.eq_empty_of_size_eq_zero hs.1, Array.eq_empty_of_size_eq_zero hs.2], relL_nil, relL_nil⟩
    · cases h
  · cases h; simp only [Rel]; exact .inl ⟨trivial, trivial, trivial⟩
  · split at h
    · cases h; simp only [Rel]
    · cases h
theorem ofCells_rel : ∀ {xs : List Value} {ps : List PV}, ofCells xs = some ps → RelL w E G ps xs
  | [], ps, h => by simp only [ofCells, Option.some.injEq] at h; subst h; exact relL_nil
  | x :: xs, ps, h => by
    simp only [ofCells, Option.bind_eq_bind, Option.bind_eq_some_iff, pure, Option.some.injEq] at h
    obtain ⟨p, hp, qs, hq, rfl⟩ := h
    exact relL_cons (ofCell_rel hp) (ofCells_rel hq)
theorem ofVal_rel {x : Value} {p : PV} (h : ofVal x = some p) : Rel w E G p x := by
  unfold ofVal at h
  split at h
  · rename_i cs
    simp only [Option.map_eq_some_iff] at h
    obtain ⟨ps, hp, rfl⟩ := h
    simp only [Rel]; exact ⟨cs.toList, by simp, ofCells_rel hp⟩
  · rename_i cs
    simp only [Option.map_eq_some_iff] at h
    obtain ⟨ps, hp, rfl⟩ := h
    simp only [Rel]; exact ⟨cs.toList, by simp, ofCells_rel hp⟩
  · exact ofCell_rel h

theorem RelL.length : ∀ {ps : List PV} {vs : List Value}, RelL w E G ps vs → vs.length = ps.length
  | [], vs, h => by simp only [RelL] at h; subst h; rfl
  | p :: ps, vs, h => by
    simp only [RelL] at h
    obtain ⟨x, xs, rfl, _, k⟩ := h
    simp [RelL.length k]
theorem RelL.get : ∀ {ps : List PV} {vs : List Value}, RelL w E G ps vs → ∀ {i : Nat} {p : PV}, ps[i]? = some p → ∃ v, vs[i]? = some v ∧ Rel w E G p v
  | [], vs, h, i, p, e => by simp at e
  | q :: ps, vs, h, i, p, e => by
    simp only [RelL] at h
    obtain ⟨x, xs, rfl, hx, k⟩ := h
    cases i with
    | zero => simp only [List.getElem?_cons_zero, Option.some.injEq] at e; subst e; exact ⟨x, by simp, hx⟩
    | succ i => simp only [List.getElem?_cons_succ] at e ⊢; exact RelL.get k e
theorem relL_of_get {ps : List PV} {vs : List Value} (hl : vs.length = ps.length) (h : ∀ (i : Nat) (p : PV) (v : Value), ps[i]? = some p → vs[i]? = some v → Rel w E G p v) : RelL w E G ps vs := by
  induction ps generalizing vs with
  | nil => cases vs <;> simp_all [RelL]
  | cons p ps ih =>
    cases vs with
    | nil => simp at hl
    | cons v vs => exact relL_cons (h 0 p v rfl rfl) (ih (by simpa using hl) fun i p v e e' => h (i + 1) p v (by simpa using e) (by simpa using e'))
theorem RelL.append {ps qs : List PV} {vs us : List Value} (h : RelL w E G ps vs) (k : RelL w E G qs us) : RelL w E G (ps ++ qs) (vs ++ us) := by
  induction ps generalizing vs with
  | nil => simp only [RelL] at h; subst h; simpa using k
  | cons p ps ih =>
    simp only [RelL] at h
    obtain ⟨x, xs, rfl, hx, hk⟩ := h
    exact relL_cons hx (ih hk)
theorem RelL.drop : ∀ {ps : List PV} {vs : List Value} (n : Nat), RelL w E G ps vs → RelL w E G (ps.drop n) (vs.drop n)
  | ps, vs, 0, h => by simpa using h
  | [], vs, n + 1, h => by simp only [RelL] at h; subst h; simp [RelL]
  | p :: ps, vs, n + 1, h => by
    simp only [RelL] at h
    obtain ⟨x, xs, rfl, _, k⟩ := h
    simpa using RelL.drop n k
theorem RelL.take : ∀ {ps : List PV} {vs : List Value} (n : Nat), RelL w E G ps vs → RelL w E G (ps.take n) (vs.take n)
  | ps, vs, 0, h => by simp [RelL]
  | [], vs, n + 1, h => by simp only [RelL] at h; subst h; simp [RelL]
  | p :: ps, vs, n + 1, h => by
    simp only [RelL] at h
    obtain ⟨x, xs, rfl, hx, k⟩ := h
    simpa using relL_cons hx (RelL.take n k)
theorem RelL.splice {cs qs : List PV} {vs us : List Value} (h : RelL w E G cs vs) (k : RelL w E G qs us) (off : Nat) :
    RelL w E G (splice cs qs off) (vs.take off ++ us ++ vs.drop (off + us.length)) := by
  unfold Pv.splice
  rw [← k.length]
  exact ((h.take _).append k).append (h.drop _)

theorem cellsAt_live {k : Key} {g : Nat} (h : (cellsAt G k g).isSome = true) : g = (G k).1 ∧ ∃ cs, (G k).2 = .cells cs := by
  unfold cellsAt at h
  split at h
  · rename_i g' cs' e
    split at h
    · rename_i eg; rw [e]; exact ⟨eg, cs', rfl⟩
    · cases h
  · cases h
theorem mapAt_live {k : Key} {g : Nat} {ks : List Value} {vs : List PV} (h : mapAt G k g = some (ks, vs)) : g = (G k).1 ∧ (G k).2 = .map ks vs := by
  unfold mapAt at h
  split at h
  · rename_i g' cs' ds e
    split at h
    · rename_i eg; cases h; rw [e]; exact ⟨eg, rfl⟩
    · cases h
  · cases h
theorem one_rel {p : PV} {u : Value} (h : p.one G = true) (r : Rel w E G p u) : u.oneCell' = true := by
  cases p <;> simp only [PV.one, reduceCtorEq] at h
  case v x => simp only [Rel] at r; rw [r]; exact h
  case ref k g off =>
    simp only [Rel] at r
    obtain ⟨eg, _⟩ := cellsAt_live h
    rcases r with r | ⟨_, _, rfl⟩
    · omega
    · rfl
  case sl k g off n sz =>
    simp only [Rel] at r
    obtain ⟨eg, _⟩ := cellsAt_live h
    rcases r with r | ⟨_, _, c, _, rfl, _⟩
    · omega
    · rfl
  case mref k g =>
    simp only [Rel] at r
    obtain ⟨m, hm⟩ := Option.isSome_iff_exists.1 h
    obtain ⟨eg, _⟩ := mapAt_live (ks := m.1) (vs := m.2) hm
    rcases r with r | ⟨_, _, rfl⟩
    · omega
    · rfl
  case vec tok es =>
    simp only [Rel] at r
    rcases r with ⟨_, _, rfl⟩ | ⟨_, _, _, _, rfl, _⟩ <;> rfl
  all_goals
    simp only [Rel] at r
    first
      | (obtain ⟨_, _, rfl, _⟩ := r; rfl)
      | (obtain ⟨_, _, _, rfl, _⟩ := r; rfl)
      | (obtain ⟨_, rfl, _⟩ := r; rfl)
theorem cells_one {u : Value} (h : u.oneCell' = true) : u.cells = #[u] := by cases u <;> first | rfl | simp [Value.oneCell'] at h
/-- The cells of a value that is known. -/
theorem cells?_rel {p : PV} {cs : List PV} {u : Value} (h : p.cells? G = some cs) (r : Rel w E G p u) : RelL w E G cs u.cells.toList := by
  unfold PV.cells? at h
  split at h
  · rename_i qs
    cases h
    simp only [Rel] at r
    obtain ⟨vs, rfl, k⟩ := r
    simpa [Value.cells] using k
  · split at h
    · rename_i ho
      cases h
      rw [cells_one (one_rel ho r)]
      exact relL_cons r relL_nil
    · cases h
theorem all_one : ∀ {ps : List PV} {vs : List Value}, RelL w E G ps vs → ps.all (PV.one G) = true → ∀ v ∈ vs, v.oneCell' = true
  | [], vs, h, _ => by simp only [RelL] at h; subst h; simp
  | p :: ps, vs, h, k => by
    simp only [RelL] at h
    obtain ⟨x, xs, rfl, hx, hr⟩ := h
    simp only [List.all_cons, Bool.and_eq_true] at k
    intro v hv
    rcases List.mem_cons.1 hv with rfl | hv
    · exact one_rel k.1 hx
    · exact all_one hr k.2 v hv
end
end Go.Pv
