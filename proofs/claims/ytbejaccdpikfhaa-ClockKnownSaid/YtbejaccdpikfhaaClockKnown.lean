/- The statement ClockKnown: the law, which takes no argument, returns true. No condition. -/
import Derived.Test.YtbejaccdpikfhaaRows
import Derived.Test.YtbejaccdpikfhaaChecked
import Derived.Test.YtbejaccdpikfhaaPv8
import Derived.KernelRfl
import Derived.HandedShaped
import Derived.JoinedOf
import Derived.OpenShut
import Derived.ChangeShapes
import Derived.ChangeVars
set_option linter.unusedSimpArgs false
set_option linter.unusedVariables false
namespace Go.Proofs.Ytbejaccdpikfhaa
open Go.ChangeShapes Go.WideShapes Go.RowKit Go.Pv

def knOpen : List FuncId := [39, 19, 36, 18, 20, 33]
def knKeep : List FuncId := [39, 31, 33]
noncomputable def knPol : Pol := { keep := fun f => knKeep.contains f, hook := noHook, wr := fun f => if knOpen.contains f then 1267650600228229401496703205375 else 0 }
theorem knRun : evF Try.prog knPol 60 5 [] [] = some (.ret (.v (.bool true)) []) := by kernel_rfl
theorem knob : ownKnob Try.prog.godebug = none := by kernel_rfl

set_option maxRecDepth 100000 in
theorem knLifted (os : Os) (started : os.Started) (H : Type) (enc : TypeId × Value → H) :
    ReturnsInHanded {} Try.checked os 5 .any (Rows.clockKnownSpec.pre6 enc Try.prog Try.f5 Rows.clockKnownRow.domain false) (Rows.clockKnownSpec.post enc Try.prog Try.f5 false true false false) := by
  refine returnsInHanded_of_change_sized (C := Try.checked) knob started (by kernel_rfl) Try.func5
    (ChangeSpec.witness6 (enc := enc) (C := Try.checked) false ⟨#[], #[], []⟩ 8 (by kernel_rfl) (by kernel_rfl) (by kernel_rfl) (by kernel_rfl)) ?_
  intro W base args ds gs before hval0 hW hcnd hsized _
  have hW' := hW
  obtain ⟨p, q, hA0, hV, rfl, hfz, hnd⟩ := hW
  have hA : DataW.TrodAll enc Try.prog W 0 (fun _ => true) true Try.f5.params.toList args.toList ds p := hA0
  rw [Try.params5] at hA
  obtain ⟨h1, rfl, rfl⟩ := trodAll_nil hA
  obtain rfl : args = #[] := by cases args; simp_all
  obtain ⟨rfl, rfl⟩ := trodVars_none hV
  have hrun := calls_of_run (P := Try.prog) (pol := knPol) (fx := []) rfl noHook_ok knRun (w := W) (lim := fun _ => 0) (us := []) (by intro x hx; cases hx) relL_nil
  refine hrun.mono fun e W' ⟨u, E', G', he, hr, _, _, bel, _⟩ => ?_
  subst he
  simp only [Rel] at hr
  subst hr
  exact ⟨_, rfl, _, _, _, [], _, [], hW', trodAll_mk1 (shut_bool Try.underlying4 _), trodAll_mk0, rfl, bel.frame _, fun h => by cases h⟩

theorem knOver : Rows.clockKnownRow.holds Try.pinned (OpenSpec.ofChange Rows.clockKnownSpec) :=
  OpenClaim.holds_of_wide 5 Try.f5 rfl rfl rfl rfl rfl rfl rfl ⟨rfl, rfl, rfl, rfl, rfl⟩ rfl rfl rfl rfl rfl (by kernel_rfl) Try.func5 (by kernel_rfl)
    (of_decide_eq_true (by kernel_rfl)) (by unfold Func.isWrapper; first | (rw [if_pos (by decide +kernel)]; kernel_rfl) | (rw [if_neg (by decide +kernel)]; exact ⟨rfl, rfl⟩))
    (fun os started H enc _ => knLifted os started H enc)

/-- The statement. -/
theorem clockKnown : Rows.ClockKnownSaid := knOver
#print axioms clockKnown
end Go.Proofs.Ytbejaccdpikfhaa
