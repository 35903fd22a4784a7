/- Known calls, run. Printed by gentab.py. No condition. -/
import Derived.Test.YtpagljdnkolhdaaGreatDoorExPol
import Derived.KernelRfl
set_option linter.unusedSimpArgs false
set_option linter.unusedVariables false
set_option maxRecDepth 100000
namespace Go.Proofs.YtpagljdnkolhdaaGreatDoor
open Go.RowKit Go.Pv
def eve1 : Known := ⟨36, [.v (.string ⟨⟨[120, 32, 37, 32, 51]⟩⟩), .v (.int .i64 1), .v (.int .i64 2), .v (.int .i64 0)], .ret (.v (.bool true)) []⟩
theorem evk1 : KnownOk Tryz.prog asFix eve1 := ⟨exPol, 1000, exPol_ok, by kernel_rfl⟩
def eve5 : Known := ⟨36, [.v (.string ⟨⟨[49, 32, 47, 32, 48, 32, 61, 61, 32, 49, 32, 111, 114, 32, 120, 32, 61, 61, 32, 53]⟩⟩), .v (.int .i64 0), .v (.int .i64 0), .v (.int .i64 6)], .ret (.v (.bool true)) []⟩
theorem evk5 : KnownOk Tryz.prog asFix eve5 := ⟨exPol, 1000, exPol_ok, by kernel_rfl⟩
def eve9 : Known := ⟨36, [.v (.string ⟨⟨[49, 48, 48, 48, 48, 48, 48, 48, 48, 48, 32, 42, 32, 49, 48, 48, 48]⟩⟩), .v (.int .i64 1), .v (.int .i64 1000000000000), .v (.int .i64 0)], .ret (.v (.bool true)) []⟩
theorem evk9 : KnownOk Tryz.prog asFix eve9 := ⟨exPol, 1000, exPol_ok, by kernel_rfl⟩
def eve13 : Known := ⟨41, [.v (.string ⟨⟨[50, 32, 42, 32, 51, 32, 43, 32, 120]⟩⟩), .v (.string ⟨⟨[54, 32, 43, 32, 120]⟩⟩)], .ret (.v (.bool true)) []⟩
theorem evk13 : KnownOk Tryz.prog asFix eve13 := ⟨exPol, 1000, exPol_ok, by kernel_rfl⟩
def eve17 : Known := ⟨41, [.v (.string ⟨⟨[105, 102, 40, 49, 32, 60, 32, 50, 44, 32, 51, 44, 32, 120, 41, 32, 43, 32, 52]⟩⟩), .v (.string ⟨⟨[55]⟩⟩)], .ret (.v (.bool true)) []⟩
theorem evk17 : KnownOk Tryz.prog asFix eve17 := ⟨exPol, 1000, exPol_ok, by kernel_rfl⟩
end Go.Proofs.YtpagljdnkolhdaaGreatDoor
