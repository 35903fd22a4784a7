/- Known calls, run. Printed by gentab.py. No condition. -/
import Derived.Test.YtpagljdnkolhdaaGreatDoorKnPol
import Derived.KernelRfl
set_option linter.unusedSimpArgs false
set_option linter.unusedVariables false
set_option maxRecDepth 100000
namespace Go.Proofs.YtpagljdnkolhdaaGreatDoor
open Go.RowKit Go.Pv
def exe0 : Known := ⟨37, [.v (.string ⟨⟨[120, 32, 47, 32, 50]⟩⟩)], .ret (.agg [.v (.int .i64 6), .v (.int .i64 0), .v (.string ⟨⟨[]⟩⟩), .vec .exact [.agg [.v (.int .i64 2), .v (.int .i64 0), .v (.string ⟨⟨[120]⟩⟩), .vec .nil [], .v (.int .i64 0)], .agg [.v (.int .i64 1), .v (.int .i64 2), .v (.string ⟨⟨[]⟩⟩), .vec .nil [], .v (.int .i64 4)]], .v (.int .i64 2)]) []⟩
theorem exk0 : KnownOk Tryz.prog asFix exe0 := ⟨knPol, 1000, asHook_ok, by kernel_rfl⟩
def exe4 : Known := ⟨37, [.v (.string ⟨⟨[120, 32, 61, 61, 32, 53, 32, 111, 114, 32, 49, 32, 47, 32, 48, 32, 61, 61, 32, 49]⟩⟩)], .ret (.agg [.v (.int .i64 17), .v (.int .i64 0), .v (.string ⟨⟨[]⟩⟩), .vec .exact [.agg [.v (.int .i64 10), .v (.int .i64 0), .v (.string ⟨⟨[]⟩⟩), .vec .exact [.agg [.v (.int .i64 2), .v (.int .i64 0), .v (.string ⟨⟨[120]⟩⟩), .vec .nil [], .v (.int .i64 0)], .agg [.v (.int .i64 1), .v (.int .i64 5), .v (.string ⟨⟨[]⟩⟩), .vec .nil [], .v (.int .i64 5)]], .v (.int .i64 2)], .agg [.v (.int .i64 10), .v (.int .i64 0), .v (.string ⟨⟨[]⟩⟩), .vec .exact [.agg [.v (.int .i64 6), .v (.int .i64 0), .v (.string ⟨⟨[]⟩⟩), .vec .exact [.agg [.v (.int .i64 1), .v (.int .i64 1), .v (.string ⟨⟨[]⟩⟩), .vec .nil [], .v (.int .i64 10)], .agg [.v (.int .i64 1), .v (.int .i64 0), .v (.string ⟨⟨[]⟩⟩), .vec .nil [], .v (.int .i64 14)]], .v (.int .i64 12)], .agg [.v (.int .i64 1), .v (.int .i64 1), .v (.string ⟨⟨[]⟩⟩), .vec .nil [], .v (.int .i64 19)]], .v (.int .i64 16)]], .v (.int .i64 7)]) []⟩
theorem exk4 : KnownOk Tryz.prog asFix exe4 := ⟨knPol, 1000, asHook_ok, by kernel_rfl⟩
def exe8 : Known := ⟨37, [.v (.string ⟨⟨[110, 111, 116, 32, 120]⟩⟩)], .ret (.agg [.v (.int .i64 4), .v (.int .i64 0), .v (.string ⟨⟨[]⟩⟩), .vec .exact [.agg [.v (.int .i64 2), .v (.int .i64 0), .v (.string ⟨⟨[120]⟩⟩), .vec .nil [], .v (.int .i64 4)]], .v (.int .i64 0)]) []⟩
theorem exk8 : KnownOk Tryz.prog asFix exe8 := ⟨knPol, 1000, asHook_ok, by kernel_rfl⟩
def exe12 : Known := ⟨37, [.v (.string ⟨⟨[120, 32, 60, 32, 121]⟩⟩)], .ret (.agg [.v (.int .i64 12), .v (.int .i64 0), .v (.string ⟨⟨[]⟩⟩), .vec .exact [.agg [.v (.int .i64 2), .v (.int .i64 0), .v (.string ⟨⟨[120]⟩⟩), .vec .nil [], .v (.int .i64 0)], .agg [.v (.int .i64 2), .v (.int .i64 0), .v (.string ⟨⟨[121]⟩⟩), .vec .nil [], .v (.int .i64 4)]], .v (.int .i64 2)]) []⟩
theorem exk12 : KnownOk Tryz.prog asFix exe12 := ⟨knPol, 1000, asHook_ok, by kernel_rfl⟩
def exe16 : Known := ⟨37, [.v (.string ⟨⟨[120, 32, 60, 32, 121, 32, 111, 114, 32, 120, 32, 61, 61, 32, 53]⟩⟩)], .ret (.agg [.v (.int .i64 17), .v (.int .i64 0), .v (.string ⟨⟨[]⟩⟩), .vec .exact [.agg [.v (.int .i64 12), .v (.int .i64 0), .v (.string ⟨⟨[]⟩⟩), .vec .exact [.agg [.v (.int .i64 2), .v (.int .i64 0), .v (.string ⟨⟨[120]⟩⟩), .vec .nil [], .v (.int .i64 0)], .agg [.v (.int .i64 2), .v (.int .i64 0), .v (.string ⟨⟨[121]⟩⟩), .vec .nil [], .v (.int .i64 4)]], .v (.int .i64 2)], .agg [.v (.int .i64 10), .v (.int .i64 0), .v (.string ⟨⟨[]⟩⟩), .vec .exact [.agg [.v (.int .i64 2), .v (.int .i64 0), .v (.string ⟨⟨[120]⟩⟩), .vec .nil [], .v (.int .i64 9)], .agg [.v (.int .i64 1), .v (.int .i64 5), .v (.string ⟨⟨[]⟩⟩), .vec .nil [], .v (.int .i64 14)]], .v (.int .i64 11)]], .v (.int .i64 6)]) []⟩
theorem exk16 : KnownOk Tryz.prog asFix exe16 := ⟨knPol, 1000, asHook_ok, by kernel_rfl⟩
def exe20 : Known := ⟨37, [.v (.string ⟨⟨[49, 32, 47, 32, 48]⟩⟩)], .ret (.agg [.v (.int .i64 6), .v (.int .i64 0), .v (.string ⟨⟨[]⟩⟩), .vec .exact [.agg [.v (.int .i64 1), .v (.int .i64 1), .v (.string ⟨⟨[]⟩⟩), .vec .nil [], .v (.int .i64 0)], .agg [.v (.int .i64 1), .v (.int .i64 0), .v (.string ⟨⟨[]⟩⟩), .vec .nil [], .v (.int .i64 4)]], .v (.int .i64 2)]) []⟩
theorem exk20 : KnownOk Tryz.prog asFix exe20 := ⟨knPol, 1000, asHook_ok, by kernel_rfl⟩
end Go.Proofs.YtpagljdnkolhdaaGreatDoor
