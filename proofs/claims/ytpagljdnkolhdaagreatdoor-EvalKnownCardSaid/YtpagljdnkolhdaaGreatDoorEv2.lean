/- Known calls, run. Printed by gentab.py. No condition. -/
import Derived.Test.YtpagljdnkolhdaaGreatDoorExPol
import Derived.KernelRfl
set_option linter.unusedSimpArgs false
set_option linter.unusedVariables false
set_option maxRecDepth 100000
namespace Go.Proofs.YtpagljdnkolhdaaGreatDoor
open Go.RowKit Go.Pv
def eve2 : Known := ⟨36, [.v (.string ⟨⟨[121, 32, 37, 32, 52]⟩⟩), .v (.int .i64 1), .v (.int .i64 2), .v (.int .i64 0)], .ret (.v (.bool true)) []⟩
theorem evk2 : KnownOk Tryz.prog asFix eve2 := ⟨exPol, 1000, exPol_ok, by kernel_rfl⟩
def eve6 : Known := ⟨36, [.v (.string ⟨⟨[105, 102, 40, 120, 32, 60, 32, 121, 44, 32, 49, 32, 47, 32, 48, 44, 32, 55, 41]⟩⟩), .v (.int .i64 1), .v (.int .i64 7), .v (.int .i64 0)], .ret (.v (.bool true)) []⟩
theorem evk6 : KnownOk Tryz.prog asFix eve6 := ⟨exPol, 1000, exPol_ok, by kernel_rfl⟩
def eve10 : Known := ⟨36, [.v (.string ⟨⟨[49, 48, 48, 48, 48, 48, 48, 48, 48, 48, 32, 42, 32, 49, 48, 48, 49]⟩⟩), .v (.int .i64 0), .v (.int .i64 0), .v (.int .i64 5)], .ret (.v (.bool true)) []⟩
theorem evk10 : KnownOk Tryz.prog asFix eve10 := ⟨exPol, 1000, exPol_ok, by kernel_rfl⟩
def eve14 : Known := ⟨41, [.v (.string ⟨⟨[105, 102, 40, 49, 32, 60, 32, 50, 44, 32, 120, 44, 32, 49, 32, 47, 32, 48, 41]⟩⟩), .v (.string ⟨⟨[120]⟩⟩)], .ret (.v (.bool true)) []⟩
theorem evk14 : KnownOk Tryz.prog asFix eve14 := ⟨exPol, 1000, exPol_ok, by kernel_rfl⟩
def eve18 : Known := ⟨41, [.v (.string ⟨⟨[105, 102, 40, 105, 102, 40, 49, 32, 60, 32, 50, 44, 32, 51, 44, 32, 120, 41, 32, 61, 61, 32, 51, 44, 32, 120, 44, 32, 53, 41]⟩⟩), .v (.string ⟨⟨[120]⟩⟩)], .ret (.v (.bool true)) []⟩
theorem evk18 : KnownOk Tryz.prog asFix eve18 := ⟨exPol, 1000, exPol_ok, by kernel_rfl⟩
end Go.Proofs.YtpagljdnkolhdaaGreatDoor
