/- The run of TypesKnown, its calls known by a table. -/
import Derived.Test.YtpagljdnkolhdaaGreatDoorTyT
import Derived.KernelRfl
set_option linter.unusedSimpArgs false
set_option linter.unusedVariables false
namespace Go.Proofs.YtpagljdnkolhdaaGreatDoor
open Go.RowKit Go.Pv
noncomputable def tyPol : Pol := { keep := fun _ => false, hook := orHook asHook (tabHook tyTab), dfr := fun f => Nat.beq f 30 }
theorem tyPol_ok : CallOk Tryz.prog asFix tyPol.hook := or_ok asHook_ok (tab_ok rfl tyTab_ok)
theorem typesRun : evF Tryz.prog tyPol 1000 3 [] [] = some (.ret (.v (.bool true)) []) := by kernel_rfl
end Go.Proofs.YtpagljdnkolhdaaGreatDoor
