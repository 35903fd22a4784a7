/- The run of EvalKnown, its calls known by tables. -/
import Derived.Test.YtpagljdnkolhdaaGreatDoorEvT
import Derived.KernelRfl
set_option linter.unusedSimpArgs false
set_option linter.unusedVariables false
namespace Go.Proofs.YtpagljdnkolhdaaGreatDoor
open Go.RowKit Go.Pv
noncomputable def evPol : Pol := { keep := fun _ => false, hook := orHook asHook (orHook (tabHook evTab) (tabHook exTab)), dfr := fun f => Nat.beq f 30 }
theorem evPol_ok : CallOk Tryz.prog asFix evPol.hook := or_ok asHook_ok (or_ok (tab_ok rfl evTab_ok) (tab_ok rfl exTab_ok))
theorem evalRun : evF Tryz.prog evPol 1000 9 [] [] = some (.ret (.v (.bool true)) []) := by kernel_rfl
end Go.Proofs.YtpagljdnkolhdaaGreatDoor
