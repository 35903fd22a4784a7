/- A table of known calls. Printed by gentab.py. No condition. -/
import Derived.Test.YtpagljdnkolhdaaGreatDoorEv0
import Derived.Test.YtpagljdnkolhdaaGreatDoorEv1
import Derived.Test.YtpagljdnkolhdaaGreatDoorEv2
import Derived.Test.YtpagljdnkolhdaaGreatDoorEv3
set_option linter.unusedSimpArgs false
set_option linter.unusedVariables false
set_option maxRecDepth 100000
namespace Go.Proofs.YtpagljdnkolhdaaGreatDoor
open Go.RowKit Go.Pv
def evTab : List Known := [eve0, eve1, eve2, eve3, eve4, eve5, eve6, eve7, eve8, eve9, eve10, eve11, eve12, eve13, eve14, eve15, eve16, eve17, eve18]
theorem evTab_ok : ∀ x ∈ evTab, KnownOk Tryz.prog asFix x := (all_cons evk0 (all_cons evk1 (all_cons evk2 (all_cons evk3 (all_cons evk4 (all_cons evk5 (all_cons evk6 (all_cons evk7 (all_cons evk8 (all_cons evk9 (all_cons evk10 (all_cons evk11 (all_cons evk12 (all_cons evk13 (all_cons evk14 (all_cons evk15 (all_cons evk16 (all_cons evk17 (all_cons evk18 all_nil)))))))))))))))))))
end Go.Proofs.YtpagljdnkolhdaaGreatDoor
