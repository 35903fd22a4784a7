/- How the closed laws are run: the policy, and that its hook is right. -/
import Derived.Test.YtpagljdnkolhdaaGreatDoorAsHook
import Derived.Test.YtpagljdnkolhdaaGreatDoorPv9
set_option linter.unusedSimpArgs false
set_option linter.unusedVariables false
namespace Go.Proofs.YtpagljdnkolhdaaGreatDoor
open Go.RowKit Go.Pv
noncomputable def knPol : Pol := { keep := fun _ => false, hook := asHook, dfr := fun f => Nat.beq f 30 }
end Go.Proofs.YtpagljdnkolhdaaGreatDoor
