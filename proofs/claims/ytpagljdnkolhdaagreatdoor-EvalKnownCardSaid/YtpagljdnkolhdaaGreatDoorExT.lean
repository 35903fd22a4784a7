/- A table of known calls. Printed by gentab.py. No condition. -/
import Derived.Test.YtpagljdnkolhdaaGreatDoorEx0
import Derived.Test.YtpagljdnkolhdaaGreatDoorEx1
import Derived.Test.YtpagljdnkolhdaaGreatDoorEx2
import Derived.Test.YtpagljdnkolhdaaGreatDoorEx3
set_option linter.unusedSimpArgs false
set_option linter.unusedVariables false
set_option maxRecDepth 100000
namespace Go.Proofs.YtpagljdnkolhdaaGreatDoor
open Go.RowKit Go.Pv
def exTab : List Known := [exe0, exe1, exe2, exe3, exe4, exe5, exe6, exe7, exe8, exe9, exe10, exe11, exe12, exe13, exe14, exe15, exe16, exe17, exe18, exe19, exe20, exe21, exe22]
theorem exTab_ok : ∀ x ∈ exTab, KnownOk Tryz.prog asFix x := (all_cons exk0 (all_cons exk1 (all_cons exk2 (all_cons exk3 (all_cons exk4 (all_cons exk5 (all_cons exk6 (all_cons exk7 (all_cons exk8 (all_cons exk9 (all_cons exk10 (all_cons exk11 (all_cons exk12 (all_cons exk13 (all_cons exk14 (all_cons exk15 (all_cons exk16 (all_cons exk17 (all_cons exk18 (all_cons exk19 (all_cons exk20 (all_cons exk21 (all_cons exk22 all_nil)))))))))))))))))))))))
end Go.Proofs.YtpagljdnkolhdaaGreatDoor
