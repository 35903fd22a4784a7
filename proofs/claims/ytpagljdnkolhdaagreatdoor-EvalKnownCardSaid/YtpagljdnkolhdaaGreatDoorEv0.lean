/- Known calls, run. Printed by gentab.py. No condition. -/
import Derived.Test.YtpagljdnkolhdaaGreatDoorExPol
import Derived.KernelRfl
set_option linter.unusedSimpArgs false
set_option linter.unusedVariables false
set_option maxRecDepth 100000
namespace Go.Proofs.YtpagljdnkolhdaaGreatDoor
open Go.RowKit Go.Pv
def eve0 : Known := ⟨36, [.v (.string ⟨⟨[120, 32, 47, 32, 50]⟩⟩), .v (.int .i64 1), .v (.int .i64 2), .v (.int .i64 0)], .ret (.v (.bool true)) []⟩
theorem evk0 : KnownOk Tryz.prog asFix eve0 := ⟨exPol, 1000, exPol_ok, by kernel_rfl⟩
def eve4 : Known := ⟨36, [.v (.string ⟨⟨[120, 32, 61, 61, 32, 53, 32, 111, 114, 32, 49, 32, 47, 32, 48, 32, 61, 61, 32, 49]⟩⟩), .v (.int .i64 2), .v (.int .i64 1), .v (.int .i64 0)], .ret (.v (.bool true)) []⟩
theorem evk4 : KnownOk Tryz.prog asFix eve4 := ⟨exPol, 1000, exPol_ok, by kernel_rfl⟩
def eve8 : Known := ⟨36, [.v (.string ⟨⟨[110, 111, 116, 32, 120]⟩⟩), .v (.int .i64 0), .v (.int .i64 0), .v (.int .i64 10)], .ret (.v (.bool true)) []⟩
theorem evk8 : KnownOk Tryz.prog asFix eve8 := ⟨exPol, 1000, exPol_ok, by kernel_rfl⟩
def eve12 : Known := ⟨36, [.v (.string ⟨⟨[120, 32, 60, 32, 121, 32, 111, 114, 32, 120, 32, 61, 61, 32, 53]⟩⟩), .v (.int .i64 2), .v (.int .i64 1), .v (.int .i64 0)], .ret (.v (.bool true)) []⟩
theorem evk12 : KnownOk Tryz.prog asFix eve12 := ⟨exPol, 1000, exPol_ok, by kernel_rfl⟩
def eve16 : Known := ⟨41, [.v (.string ⟨⟨[49, 32, 47, 32, 48]⟩⟩), .v (.string ⟨⟨[49, 32, 47, 32, 48]⟩⟩)], .ret (.v (.bool true)) []⟩
theorem evk16 : KnownOk Tryz.prog asFix eve16 := ⟨exPol, 1000, exPol_ok, by kernel_rfl⟩
end Go.Proofs.YtpagljdnkolhdaaGreatDoor
