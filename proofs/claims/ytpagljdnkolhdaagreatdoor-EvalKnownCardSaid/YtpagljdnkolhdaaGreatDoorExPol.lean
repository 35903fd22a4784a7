/- The policy with the table of texts that are read. -/
import Derived.Test.YtpagljdnkolhdaaGreatDoorExT
set_option linter.unusedSimpArgs false
set_option linter.unusedVariables false
namespace Go.Proofs.YtpagljdnkolhdaaGreatDoor
open Go.RowKit Go.Pv
noncomputable def exPol : Pol := { keep := fun _ => false, hook := orHook asHook (tabHook exTab), dfr := fun f => Nat.beq f 30 }
theorem exPol_ok : CallOk Tryz.prog asFix exPol.hook := or_ok asHook_ok (tab_ok rfl exTab_ok)
end Go.Proofs.YtpagljdnkolhdaaGreatDoor
