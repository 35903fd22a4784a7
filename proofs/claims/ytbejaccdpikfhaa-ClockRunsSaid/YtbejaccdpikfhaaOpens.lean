/- What a handed-in clock and a handed-in list of ticks are to the walks: opened from what is read of them. No condition. -/
import Derived.Test.YtbejaccdpikfhaaClockJ
import Derived.ProofKit
import Derived.OpenShut
import Derived.ChangeOld
import Derived.Below
import Derived.SizedLaws
import Derived.Lib.SmallJoins
namespace Go.Proofs.Ytbejaccdpikfhaa
open Go.ChangeShapes Go.WideShapes Go.ChangeAt Go.RowKit Go.Deep

section
variable {H : Type} {enc : TypeId × Value → H} {P : Program} {w : World} {base : Nat} {spare : Nat → Bool} {held : Bool}
theorem array7 {α : Type} {cs : Array α} (h : cs.size = 7) : ∃ c0 c1 c2 c3 c4 c5 c6, cs = #[c0, c1, c2, c3, c4, c5, c6] := by
  obtain ⟨l⟩ := cs
  match l, h with
  | [c0, c1, c2, c3, c4, c5, c6], _ => exact ⟨c0, c1, c2, c3, c4, c5, c6, rfl⟩
theorem list7 {α : Type} {l : List α} (h : l.length = 7) : ∃ c0 c1 c2 c3 c4 c5 c6, l = [c0, c1, c2, c3, c4, c5, c6] := by
  match l, h with
  | [c0, c1, c2, c3, c4, c5, c6], _ => exact ⟨c0, c1, c2, c3, c4, c5, c6, rfl⟩
theorem open_agg7 {r : Reach} {b0 : Nat} {t : TypeId} {f0 f1 f2 f3 f4 f5 f6 : Field} {v : Value} {d : DataW H} {p : List MemPlace} (hs : P.underlying t = some (.struct #[f0, f1, f2, f3, f4, f5, f6])) (hone : oneCellFields P #[f0, f1, f2, f3, f4, f5, f6] = true) (hC : P.cellsOf t = 7)
    (hv : Value.okWide P w r b0 t v) (h : DataW.Trod enc P w base spare held t v d p) :
    ∃ (v0 v1 v2 v3 v4 v5 v6 : Value) (y0 y1 y2 y3 y4 y5 y6 : DataW H × List MemPlace) (n : Nat), v = .agg #[v0, v1, v2, v3, v4, v5, v6] ∧ d = .agg [y0.1, y1.1, y2.1, y3.1, y4.1, y5.1, y6.1] ∧
      DataW.trod enc P w base spare held n f0.type [v0] = some y0 ∧ DataW.trod enc P w base spare held n f1.type [v1] = some y1 ∧ DataW.trod enc P w base spare held n f2.type [v2] = some y2 ∧ DataW.trod enc P w base spare held n f3.type [v3] = some y3 ∧
      DataW.trod enc P w base spare held n f4.type [v4] = some y4 ∧ DataW.trod enc P w base spare held n f5.type [v5] = some y5 ∧ DataW.trod enc P w base spare held n f6.type [v6] = some y6 := by
  obtain ⟨cs, rfl, hsz⟩ := okWide_struct hs hv
  obtain ⟨c0, c1, c2, c3, c4, c5, c6, rfl⟩ := array7 (hsz.trans hC)
  obtain ⟨fuel, hf⟩ := h
  obtain ⟨xs, n, _, hx, _, hlen, hg⟩ := DataW.trod_struct hs hf
  obtain ⟨y0, y1, y2, y3, y4, y5, y6, rfl⟩ := list7 hlen
  have get : ∀ (i : Nat) (f : Field) (u : Value) (y : DataW H × List MemPlace), #[f0, f1, f2, f3, f4, f5, f6][i]? = some f → [y0, y1, y2, y3, y4, y5, y6][i]? = some y → (([c0, c1, c2, c3, c4, c5, c6].drop i).take 1) = [u] → DataW.trod enc P w base spare held n f.type [u] = some y := by
    intro i f u y h1 h2 h3
    obtain ⟨o, k⟩ := hone_of hone i f h1
    have := hg i f h1
    rw [o, k, h2] at this
    rw [← h3]
    exact this
  simp only [Prod.mk.injEq] at hx
  exact ⟨c0, c1, c2, c3, c4, c5, c6, y0, y1, y2, y3, y4, y5, y6, n, rfl, hx.1, get 0 f0 c0 y0 rfl rfl rfl, get 1 f1 c1 y1 rfl rfl rfl, get 2 f2 c2 y2 rfl rfl rfl, get 3 f3 c3 y3 rfl rfl rfl, get 4 f4 c4 y4 rfl rfl rfl, get 5 f5 c5 y5 rfl rfl rfl, get 6 f6 c6 y6 rfl rfl rfl⟩
end

instance : Inhabited Tk := ⟨⟨0, 0, 0⟩⟩
theorem reach_is : reachBytes = 140737488351232 := by decide
theorem cell_lt {w : World} {p : Addr} {v : Value} (h : w.cell? p = some v) : p.block < w.heap.size ∧ p.spot = none := by
  refine ⟨?_, World.cell?_spot h⟩
  rcases Nat.lt_or_ge p.block w.heap.size with h1 | h1
  · exact h1
  · simp [World.cell?, Array.getElem?_eq_none h1] at h

section
variable {H : Type} {enc : TypeId × Value → H} {w : World} {base : Nat} {spare : Nat → Bool} {held : Bool}
/-- A field that is a slice of ints, where its weight is in reach. -/
theorem open_row {t : TypeId} {fuel : Nat} {v : Value} {y : DataW H × List MemPlace} (ht : Try.prog.underlying t = some (.slice 3)) (h : DataW.trod enc Try.prog w base spare held fuel t [v] = some y)
    (hz : ∀ n ∈ y.1.weights Try.prog t, n ≤ reachBytes) : ∃ (xs : List Int) (A : Option Addr) (cap : Nat), v = .slice A xs.length cap ∧ Row w A xs := by
  rcases open_ints ht Try.underlying3 (by kernel_rfl) h with ⟨hcs, _⟩ | ⟨x, l, c, zs, hcs, _, hl, hm, hlen, hy, hcell, hwz⟩
  · simp at hcs
    subst hcs
    exact ⟨[], none, 0, rfl, Row.nil _ _⟩
  · simp at hcs
    subst hcs
    have hle : l ≤ zs.length := by rw [hlen]; split <;> omega
    have hbytes : Try.prog.bytesOf 3 = 8 := by kernel_rfl
    have := hz ((zs.take l).length * 8 + (zs.drop l).length * 8) (by rw [hy]; simp [DataW.weights, ht, hbytes, lits]; left; omega)
    refine ⟨zs.take l, some x, c, by simp [Nat.min_eq_left hle], by rw [reach_is] at this; omega, fun h0 => ?_⟩
    have h0' : 0 < zs.length := by simp at h0; omega
    obtain ⟨hlt, hsp⟩ := cell_lt (hcell 0 h0')
    obtain ⟨b, off, spot⟩ := x
    have hsp : spot = none := by simpa [Addr.add] using hsp
    subst hsp
    refine ⟨b, off, rfl, by simpa [Addr.add] using hlt, fun j hj => ?_⟩
    have hj' : j < l ∧ j < zs.length := by simp at hj; omega
    have := hcell j hj'.2
    rw [List.getElem?_take, if_pos hj'.1]
    cases j with
    | zero => simpa [Addr.add] using this
    | succ j => simpa [Addr.add] using this

theorem open_num {t : TypeId} {fuel : Nat} {v : Value} {y : DataW H × List MemPlace} (ht : Try.prog.underlying t = some (.int .i64)) (h : DataW.trod enc Try.prog w base spare held fuel t [v] = some y) : ∃ n, v = .int .i64 n := by
  obtain ⟨n, h1, _⟩ := DataW.trod_int ht h
  exact ⟨n, by simpa using h1⟩

theorem open_clock {b0 : Nat} {v : Value} {d : DataW H} {p : List MemPlace} (hv : Value.okWide Try.prog w .any b0 24 v) (h : DataW.Trod enc Try.prog w base spare held 24 v d p) (hz : ∀ n ∈ d.weights Try.prog 24, n ≤ reachBytes) :
    ∃ (c : Clk) (A : Option Addr) (cap : Nat), v = c.val A cap ∧ Row w A c.left := by
  obtain ⟨v0, v1, v2, v3, v4, v5, v6, y0, y1, y2, y3, y4, y5, y6, n, rfl, rfl, h0, h1, h2, h3, h4, h5, h6⟩ := open_agg7 Try.underlying24 (by kernel_rfl) (by kernel_rfl) hv h
  obtain ⟨n1, rfl⟩ := open_num Try.underlying3 h1
  obtain ⟨n2, rfl⟩ := open_num Try.underlying3 h2
  obtain ⟨n3, rfl⟩ := open_num Try.underlying3 h3
  obtain ⟨n4, rfl⟩ := open_num Try.underlying3 h4
  obtain ⟨n5, rfl⟩ := open_num Try.underlying3 h5
  obtain ⟨n6, rfl⟩ := open_num Try.underlying3 h6
  obtain ⟨xs, A, cap, rfl, hr⟩ := open_row Try.underlying22 h0 (fun m hm => hz m (by simp only [DataW.weights, Try.underlying24]; simp [DataW.weightsEach]; exact Or.inl hm))
  exact ⟨⟨xs, n1, n2, n3, n4, n5, n6⟩, A, cap, rfl, hr⟩

theorem tick_at {n : Nat} {b off k : Nat} {d : DataW H} {pl : List MemPlace} {cs : List Value} (h1 : w.cells? base ((⟨b, off, none⟩ : Addr).add (k * 3)) 3 = some cs) (h2 : DataW.trod enc Try.prog w base spare held n 48 cs = some (d, pl)) :
    ∃ t : Tk, w.cell? ⟨b, off + k * 3, none⟩ = some (.int .i64 t.player) ∧ w.cell? ⟨b, off + k * 3 + 1, none⟩ = some (.int .i64 t.from_) ∧ w.cell? ⟨b, off + k * 3 + 2, none⟩ = some (.int .i64 t.till) := by
  obtain ⟨_, hlen, hcell⟩ := World.cells?_some h1
  match cs, hlen with
  | [v0, v1, v2], _ =>
    obtain ⟨y0, y1, y2, m, _, _, g0, g1, g2⟩ := trod_struct3 Try.underlying48 h2
    obtain ⟨a, rfl⟩ := open_num (v := v0) Try.underlying3 g0
    obtain ⟨b', rfl⟩ := open_num (v := v1) Try.underlying3 g1
    obtain ⟨c, rfl⟩ := open_num (v := v2) Try.underlying3 g2
    have e0 := hcell 0 (by omega)
    have e1 := hcell 1 (by omega)
    have e2 := hcell 2 (by omega)
    rw [add_add] at e0 e1 e2
    have z : ∀ i, (⟨b, off, none⟩ : Addr).add i = ⟨b, off + i, none⟩ := by intro i; cases i <;> simp [Addr.add]
    rw [z] at e0 e1 e2
    exact ⟨⟨a, b', c⟩, by simpa using e0, by simpa [Nat.add_assoc] using e1, by simpa [Nat.add_assoc] using e2⟩

theorem open_ticks {b0 : Nat} {v : Value} {d : DataW H} {p : List MemPlace} (hv : Value.okWide Try.prog w .any b0 39 v) (h : DataW.Trod enc Try.prog w base spare held 39 v d p) (hz : ∀ n ∈ d.weights Try.prog 39, n ≤ reachBytes) :
    ∃ (l : List Tk) (A : Option Addr) (cap : Nat), v = .slice A l.length cap ∧ TRow w A l := by
  obtain ⟨a0, len, cap0, rfl⟩ := okWide_slice Try.underlying39 hv
  obtain ⟨fuel, hf⟩ := h
  rcases open_slice Try.underlying39 hf with ⟨hcs, _⟩ | ⟨x, l, c, m, n, D, Pl, hcs, _, hl, hm, hmm, hy, hcell⟩
  · simp [Value.cells] at hcs
    obtain ⟨rfl, rfl, rfl⟩ := hcs
    exact ⟨[], none, 0, rfl, by simp, fun h => absurd h (by simp)⟩
  · simp [Value.cells] at hcs
    obtain ⟨rfl, rfl, rfl⟩ := hcs
    have hle : len ≤ m := by rw [hmm]; split <;> omega
    have hbytes : Try.prog.bytesOf 48 = 24 := by kernel_rfl
    have hcells : Try.prog.cellsOf 48 = 3 := by kernel_rfl
    rw [hcells] at hcell
    simp only [Prod.mk.injEq] at hy
    have hb := hz (len * 24 + (m - len) * 24) (by rw [hy.1]; simp [DataW.weights, Try.underlying39, hbytes]; left; omega)
    rw [reach_is] at hb
    by_cases h0 : len = 0
    · subst h0
      exact ⟨[], some x, cap0, rfl, by simp, fun h => absurd h (by simp)⟩
    obtain ⟨cs0, hc0, _⟩ := hcell 0 (by omega)
    obtain ⟨_, _, hq⟩ := World.cells?_some hc0
    have hspot : x.spot = none := by
      have h5 := hq 0 (by omega)
      obtain ⟨_, hlen0, _⟩ := World.cells?_some hc0
      rw [List.getElem?_eq_getElem (by omega)] at h5
      have := World.cell?_spot h5
      simpa [Addr.add] using this
    obtain ⟨b, off, spot⟩ := x
    subst hspot
    obtain ⟨T, hT⟩ := choose_lt (α := Tk) (n := m) (p := fun i t => w.cell? ⟨b, off + i * 3, none⟩ = some (.int .i64 t.player) ∧ w.cell? ⟨b, off + i * 3 + 1, none⟩ = some (.int .i64 t.from_) ∧ w.cell? ⟨b, off + i * 3 + 2, none⟩ = some (.int .i64 t.till)) (fun i hi => by
      obtain ⟨cs', h1, h2⟩ := hcell i hi
      exact tick_at h1 h2)
    refine ⟨(List.range len).map T, some ⟨b, off, none⟩, cap0, by simp, by simp; omega, fun _ => ⟨b, off, rfl, (cell_lt (hT 0 (by omega)).1).1, fun k t hk => ?_⟩⟩
    have hk' : k < len ∧ T k = t := by
      simp [List.getElem?_map] at hk
      obtain ⟨a, h1, h2⟩ := hk
      obtain ⟨h3, h4⟩ := List.getElem?_eq_some_iff.1 h1
      simp at h3 h4
      subst h4
      exact ⟨h3, h2⟩
    obtain ⟨hk1, rfl⟩ := hk'
    exact hT k (by omega)
end
end Go.Proofs.Ytbejaccdpikfhaa
