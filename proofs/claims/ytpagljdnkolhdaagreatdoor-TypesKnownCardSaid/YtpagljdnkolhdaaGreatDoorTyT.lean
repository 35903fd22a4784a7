/- A table of known calls. Printed by gentab.py. No condition. -/
import Derived.Test.YtpagljdnkolhdaaGreatDoorTy0
import Derived.Test.YtpagljdnkolhdaaGreatDoorTy1
import Derived.Test.YtpagljdnkolhdaaGreatDoorTy2
import Derived.Test.YtpagljdnkolhdaaGreatDoorTy3
import Derived.Test.YtpagljdnkolhdaaGreatDoorTy4
import Derived.Test.YtpagljdnkolhdaaGreatDoorTy5
import Derived.Test.YtpagljdnkolhdaaGreatDoorTy6
set_option linter.unusedSimpArgs false
set_option linter.unusedVariables false
set_option maxRecDepth 100000
namespace Go.Proofs.YtpagljdnkolhdaaGreatDoor
open Go.RowKit Go.Pv
def tyTab : List Known := [tye0, tye1, tye2, tye3, tye4, tye5, tye6, tye7, tye8, tye9, tye10, tye11, tye12, tye13, tye14, tye15, tye16, tye17, tye18, tye19, tye20, tye21, tye22, tye23, tye24, tye25, tye26]
theorem tyTab_ok : ∀ x ∈ tyTab, KnownOk Tryz.prog asFix x := (all_cons tyk0 (all_cons tyk1 (all_cons tyk2 (all_cons tyk3 (all_cons tyk4 (all_cons tyk5 (all_cons tyk6 (all_cons tyk7 (all_cons tyk8 (all_cons tyk9 (all_cons tyk10 (all_cons tyk11 (all_cons tyk12 (all_cons tyk13 (all_cons tyk14 (all_cons tyk15 (all_cons tyk16 (all_cons tyk17 (all_cons tyk18 (all_cons tyk19 (all_cons tyk20 (all_cons tyk21 (all_cons tyk22 (all_cons tyk23 (all_cons tyk24 (all_cons tyk25 (all_cons tyk26 all_nil)))))))))))))))))))))))))))
end Go.Proofs.YtpagljdnkolhdaaGreatDoor
