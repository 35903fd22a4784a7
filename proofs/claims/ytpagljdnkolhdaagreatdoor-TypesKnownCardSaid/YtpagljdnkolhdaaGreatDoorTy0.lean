/- Known calls, run. Printed by gentab.py. No condition. -/
import Derived.Test.YtpagljdnkolhdaaGreatDoorKnPol
import Derived.KernelRfl
set_option linter.unusedSimpArgs false
set_option linter.unusedVariables false
set_option maxRecDepth 100000
namespace Go.Proofs.YtpagljdnkolhdaaGreatDoor
open Go.RowKit Go.Pv
def tye0 : Known := ⟨12, [.v (.string ⟨⟨[105, 102, 40, 120, 32, 60, 32, 49, 44, 32, 50, 44, 32, 120, 41]⟩⟩), .v (.int .i64 1), .v (.int .i64 0), .v (.int .i64 0)], .ret (.v (.bool true)) []⟩
theorem tyk0 : KnownOk Tryz.prog asFix tye0 := ⟨knPol, 1000, asHook_ok, by kernel_rfl⟩
def tye7 : Known := ⟨14, [.v (.string ⟨⟨[103, 97, 109, 101, 32, 103, 59, 32, 112, 108, 97, 121, 101, 114, 115, 32, 50, 59, 32, 101, 110, 100, 32, 123, 32, 112, 97, 121, 32, 49, 59, 32, 125]⟩⟩)], .ret (.agg [.v (.string ⟨⟨[103]⟩⟩), .v (.int .i64 2), .vec .nil [], .vec .no [.agg [.v (.int .i64 3), .v (.string ⟨⟨[]⟩⟩), .v (.string ⟨⟨[]⟩⟩), .v (.int .i64 0), .v (.int .i64 0), .vec .nil [], .v (.bool false), .vec .nil [], .vec .nil [], .vec .nil [], .vec .exact [.agg [.v (.int .i64 1), .v (.int .i64 1), .v (.string ⟨⟨[]⟩⟩), .vec .nil [], .v (.int .i64 29)]], .v (.int .i64 19)]]]) []⟩
theorem tyk7 : KnownOk Tryz.prog asFix tye7 := ⟨knPol, 1000, asHook_ok, by kernel_rfl⟩
def tye14 : Known := ⟨13, [.agg [.v (.string ⟨⟨[103]⟩⟩), .v (.int .i64 1), .vec .nil [], .vec .no [.agg [.v (.int .i64 2), .v (.string ⟨⟨[]⟩⟩), .v (.string ⟨⟨[]⟩⟩), .v (.int .i64 0), .v (.int .i64 0), .vec .nil [], .v (.bool false), .vec .nil [], .vec .exact [.agg [.v (.int .i64 1), .v (.int .i64 0), .v (.string ⟨⟨[]⟩⟩), .vec .nil [], .v (.int .i64 24)]], .vec .no [.agg [.v (.string ⟨⟨[108]⟩⟩), .vec .nil [], .v (.bool false), .vec .nil [], .v (.string ⟨⟨[]⟩⟩), .v (.int .i64 28)], .agg [.v (.string ⟨⟨[108]⟩⟩), .vec .nil [], .v (.bool false), .vec .nil [], .v (.string ⟨⟨[]⟩⟩), .v (.int .i64 41)]], .vec .nil [], .v (.int .i64 19)], .agg [.v (.int .i64 3), .v (.string ⟨⟨[]⟩⟩), .v (.string ⟨⟨[]⟩⟩), .v (.int .i64 0), .v (.int .i64 0), .vec .nil [], .v (.bool false), .vec .nil [], .vec .nil [], .vec .nil [], .vec .exact [.agg [.v (.int .i64 1), .v (.int .i64 0), .v (.string ⟨⟨[]⟩⟩), .vec .nil [], .v (.int .i64 66)]], .v (.int .i64 56)]]]], .ret (.agg [.v (.int .i64 8), .v (.int .i64 41)]) []⟩
theorem tyk14 : KnownOk Tryz.prog asFix tye14 := ⟨knPol, 1000, asHook_ok, by kernel_rfl⟩
def tye21 : Known := ⟨14, [.v (.string ⟨⟨[103, 97, 109, 101, 32, 103, 59, 32, 112, 108, 97, 121, 101, 114, 115, 32, 52, 59, 32, 101, 110, 100, 32, 123, 32, 112, 97, 121, 32, 48, 44, 32, 48, 44, 32, 48, 44, 32, 48, 59, 32, 125]⟩⟩)], .ret (.agg [.v (.string ⟨⟨[103]⟩⟩), .v (.int .i64 4), .vec .nil [], .vec .no [.agg [.v (.int .i64 3), .v (.string ⟨⟨[]⟩⟩), .v (.string ⟨⟨[]⟩⟩), .v (.int .i64 0), .v (.int .i64 0), .vec .nil [], .v (.bool false), .vec .nil [], .vec .nil [], .vec .nil [], .vec .no [.agg [.v (.int .i64 1), .v (.int .i64 0), .v (.string ⟨⟨[]⟩⟩), .vec .nil [], .v (.int .i64 29)], .agg [.v (.int .i64 1), .v (.int .i64 0), .v (.string ⟨⟨[]⟩⟩), .vec .nil [], .v (.int .i64 32)], .agg [.v (.int .i64 1), .v (.int .i64 0), .v (.string ⟨⟨[]⟩⟩), .vec .nil [], .v (.int .i64 35)], .agg [.v (.int .i64 1), .v (.int .i64 0), .v (.string ⟨⟨[]⟩⟩), .vec .nil [], .v (.int .i64 38)]], .v (.int .i64 19)]]]) []⟩
theorem tyk21 : KnownOk Tryz.prog asFix tye21 := ⟨knPol, 1000, asHook_ok, by kernel_rfl⟩
end Go.Proofs.YtpagljdnkolhdaaGreatDoor
