/- Known calls, run. Printed by gentab.py. No condition. -/
import Derived.Test.YtpagljdnkolhdaaGreatDoorKnPol
import Derived.KernelRfl
set_option linter.unusedSimpArgs false
set_option linter.unusedVariables false
set_option maxRecDepth 100000
namespace Go.Proofs.YtpagljdnkolhdaaGreatDoor
open Go.RowKit Go.Pv
def exe3 : Known := ⟨37, [.v (.string ⟨⟨[120, 32, 37, 32, 121]⟩⟩)], .ret (.agg [.v (.int .i64 7), .v (.int .i64 0), .v (.string ⟨⟨[]⟩⟩), .vec .exact [.agg [.v (.int .i64 2), .v (.int .i64 0), .v (.string ⟨⟨[120]⟩⟩), .vec .nil [], .v (.int .i64 0)], .agg [.v (.int .i64 2), .v (.int .i64 0), .v (.string ⟨⟨[121]⟩⟩), .vec .nil [], .v (.int .i64 4)]], .v (.int .i64 2)]) []⟩
theorem exk3 : KnownOk Tryz.prog asFix exe3 := ⟨knPol, 1000, asHook_ok, by kernel_rfl⟩
def exe7 : Known := ⟨37, [.v (.string ⟨⟨[122]⟩⟩)], .ret (.agg [.v (.int .i64 2), .v (.int .i64 0), .v (.string ⟨⟨[122]⟩⟩), .vec .nil [], .v (.int .i64 0)]) []⟩
theorem exk7 : KnownOk Tryz.prog asFix exe7 := ⟨knPol, 1000, asHook_ok, by kernel_rfl⟩
def exe11 : Known := ⟨37, [.v (.string ⟨⟨[120]⟩⟩)], .ret (.agg [.v (.int .i64 2), .v (.int .i64 0), .v (.string ⟨⟨[120]⟩⟩), .vec .nil [], .v (.int .i64 0)]) []⟩
theorem exk11 : KnownOk Tryz.prog asFix exe11 := ⟨knPol, 1000, asHook_ok, by kernel_rfl⟩
def exe15 : Known := ⟨37, [.v (.string ⟨⟨[121, 32, 47, 32, 52]⟩⟩)], .ret (.agg [.v (.int .i64 6), .v (.int .i64 0), .v (.string ⟨⟨[]⟩⟩), .vec .exact [.agg [.v (.int .i64 2), .v (.int .i64 0), .v (.string ⟨⟨[121]⟩⟩), .vec .nil [], .v (.int .i64 0)], .agg [.v (.int .i64 1), .v (.int .i64 4), .v (.string ⟨⟨[]⟩⟩), .vec .nil [], .v (.int .i64 4)]], .v (.int .i64 2)]) []⟩
theorem exk15 : KnownOk Tryz.prog asFix exe15 := ⟨knPol, 1000, asHook_ok, by kernel_rfl⟩
def exe19 : Known := ⟨37, [.v (.string ⟨⟨[49, 32, 45, 32, 51]⟩⟩)], .ret (.agg [.v (.int .i64 9), .v (.int .i64 0), .v (.string ⟨⟨[]⟩⟩), .vec .exact [.agg [.v (.int .i64 1), .v (.int .i64 1), .v (.string ⟨⟨[]⟩⟩), .vec .nil [], .v (.int .i64 0)], .agg [.v (.int .i64 1), .v (.int .i64 3), .v (.string ⟨⟨[]⟩⟩), .vec .nil [], .v (.int .i64 4)]], .v (.int .i64 2)]) []⟩
theorem exk19 : KnownOk Tryz.prog asFix exe19 := ⟨knPol, 1000, asHook_ok, by kernel_rfl⟩
end Go.Proofs.YtpagljdnkolhdaaGreatDoor
