/- Known calls, run. Printed by gentab.py. No condition. -/
import Derived.Test.YtpagljdnkolhdaaGreatDoorExPol
import Derived.KernelRfl
set_option linter.unusedSimpArgs false
set_option linter.unusedVariables false
set_option maxRecDepth 100000
namespace Go.Proofs.YtpagljdnkolhdaaGreatDoor
open Go.RowKit Go.Pv
def eve3 : Known := ⟨36, [.v (.string ⟨⟨[120, 32, 37, 32, 121]⟩⟩), .v (.int .i64 1), .v (.int .i64 (-1)), .v (.int .i64 0)], .ret (.v (.bool true)) []⟩
theorem evk3 : KnownOk Tryz.prog asFix eve3 := ⟨exPol, 1000, exPol_ok, by kernel_rfl⟩
def eve7 : Known := ⟨36, [.v (.string ⟨⟨[122]⟩⟩), .v (.int .i64 0), .v (.int .i64 0), .v (.int .i64 7)], .ret (.v (.bool true)) []⟩
theorem evk7 : KnownOk Tryz.prog asFix eve7 := ⟨exPol, 1000, exPol_ok, by kernel_rfl⟩
def eve11 : Known := ⟨36, [.v (.string ⟨⟨[121, 32, 47, 32, 52]⟩⟩), .v (.int .i64 1), .v (.int .i64 (-1)), .v (.int .i64 0)], .ret (.v (.bool true)) []⟩
theorem evk11 : KnownOk Tryz.prog asFix eve11 := ⟨exPol, 1000, exPol_ok, by kernel_rfl⟩
def eve15 : Known := ⟨41, [.v (.string ⟨⟨[49, 32, 45, 32, 51]⟩⟩), .v (.string ⟨⟨[45, 32, 50]⟩⟩)], .ret (.v (.bool true)) []⟩
theorem evk15 : KnownOk Tryz.prog asFix eve15 := ⟨exPol, 1000, exPol_ok, by kernel_rfl⟩
end Go.Proofs.YtpagljdnkolhdaaGreatDoor
