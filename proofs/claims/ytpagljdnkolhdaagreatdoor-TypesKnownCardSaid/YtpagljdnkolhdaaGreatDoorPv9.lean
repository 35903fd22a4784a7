/- Known calls, by a table; and one kind of known calls behind another. -/
import Derived.Test.YtpagljdnkolhdaaGreatDoorPv8
set_option linter.unusedSimpArgs false
set_option linter.unusedVariables false
namespace Go.Pv
open Go.RowKit

def orHook (a b : Callee) : Callee := fun f args bor => match a f args bor with
  | some r => some r
  | none => b f args bor
theorem or_ok {P : Program} {fx : List (Nat × Nat × Value)} {a b : Callee} (ha : CallOk P fx a) (hb : CallOk P fx b) : CallOk P fx (orHook a b) := by
  intro f args bor r h
  unfold orHook at h
  split at h
  · rename_i r' e
    cases h
    exact ha f args bor _ e
  · exact hb f args bor r h
/-- A call whose result is known. -/
structure Known where
  f : FuncId
  args : List PV
  r : CallR
def findT (f : FuncId) (args : List PV) : List Known → Option CallR
  | [] => none
  | x :: l => match Nat.beq x.f f with
    | true => match sameL x.args args with
      | true => some x.r
      | false => findT f args l
    | false => findT f args l
def tabHook (tab : List Known) : Callee := fun f args bor => match bor with
  | [] => findT f args tab
  | _ => none
/-- What a table says is so. -/
def KnownOk (P : Program) (fx : List (Nat × Nat × Value)) (x : Known) : Prop := ∃ pol k, CallOk P fx pol.hook ∧ evF P pol k x.f x.args [] = some x.r
theorem findT_mem {f : FuncId} {args : List PV} {r : CallR} : ∀ {tab : List Known}, findT f args tab = some r → ∃ x ∈ tab, x.f = f ∧ x.args = args ∧ x.r = r
  | [], h => by cases h
  | x :: l, h => by
    simp only [findT] at h
    split at h
    · rename_i h1
      split at h
      · rename_i h2
        cases h
        exact ⟨x, by simp, Nat.eq_of_beq_eq_true h1, sameL_eq _ _ h2, rfl⟩
      · obtain ⟨y, hy, e⟩ := findT_mem h
        exact ⟨y, by simp [hy], e⟩
    · obtain ⟨y, hy, e⟩ := findT_mem h
      exact ⟨y, by simp [hy], e⟩
theorem tab_ok {P : Program} {fx : List (Nat × Nat × Value)} (hm : P.follows .mixedOrders = true) {tab : List Known} (h : ∀ x ∈ tab, KnownOk P fx x) : CallOk P fx (tabHook tab) := by
  intro f args bor r hr
  unfold tabHook at hr
  split at hr
  · obtain ⟨x, hx, rfl, rfl, rfl⟩ := findT_mem hr
    obtain ⟨pol, k, h1, h2⟩ := h x hx
    exact evF_ok hm h1 k _ _ _ _ h2
  · cases hr
theorem all_nil {p : Known → Prop} : ∀ x ∈ ([] : List Known), p x := fun _ h => by cases h
theorem all_cons {p : Known → Prop} {x : Known} {l : List Known} (h : p x) (k : ∀ y ∈ l, p y) : ∀ y ∈ x :: l, p y := fun y hy => by
  rcases List.mem_cons.1 hy with rfl | hy
  · exact h
  · exact k y hy
theorem all_append {p : Known → Prop} {l m : List Known} (h : ∀ y ∈ l, p y) (k : ∀ y ∈ m, p y) : ∀ y ∈ l ++ m, p y := fun y hy => by
  rcases List.mem_append.1 hy with hy | hy
  · exact h y hy
  · exact k y hy
end Go.Pv
