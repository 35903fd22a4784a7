/- Known calls, run. Printed by gentab.py. No condition. -/
import Derived.Test.YtpagljdnkolhdaaGreatDoorKnPol
import Derived.KernelRfl
set_option linter.unusedSimpArgs false
set_option linter.unusedVariables false
set_option maxRecDepth 100000
namespace Go.Proofs.YtpagljdnkolhdaaGreatDoor
open Go.RowKit Go.Pv
def tye2 : Known := ⟨12, [.v (.string ⟨⟨[49, 32, 43, 32, 40, 120, 32, 60, 32, 50, 41]⟩⟩), .v (.int .i64 0), .v (.int .i64 10), .v (.int .i64 7)], .ret (.v (.bool true)) []⟩
theorem tyk2 : KnownOk Tryz.prog asFix tye2 := ⟨knPol, 1000, asHook_ok, by kernel_rfl⟩
def tye9 : Known := ⟨14, [.v (.string ⟨⟨[103, 97, 109, 101, 32, 103, 59, 32, 112, 108, 97, 121, 101, 114, 115, 32, 50, 59, 32, 101, 110, 100, 32, 123, 32, 112, 97, 121, 32, 49, 44, 32, 49, 32, 60, 32, 50, 59, 32, 125]⟩⟩)], .ret (.agg [.v (.string ⟨⟨[103]⟩⟩), .v (.int .i64 2), .vec .nil [], .vec .no [.agg [.v (.int .i64 3), .v (.string ⟨⟨[]⟩⟩), .v (.string ⟨⟨[]⟩⟩), .v (.int .i64 0), .v (.int .i64 0), .vec .nil [], .v (.bool false), .vec .nil [], .vec .nil [], .vec .nil [], .vec .no [.agg [.v (.int .i64 1), .v (.int .i64 1), .v (.string ⟨⟨[]⟩⟩), .vec .nil [], .v (.int .i64 29)], .agg [.v (.int .i64 12), .v (.int .i64 0), .v (.string ⟨⟨[]⟩⟩), .vec .exact [.agg [.v (.int .i64 1), .v (.int .i64 1), .v (.string ⟨⟨[]⟩⟩), .vec .nil [], .v (.int .i64 32)], .agg [.v (.int .i64 1), .v (.int .i64 2), .v (.string ⟨⟨[]⟩⟩), .vec .nil [], .v (.int .i64 36)]], .v (.int .i64 34)]], .v (.int .i64 19)]]]) []⟩
theorem tyk9 : KnownOk Tryz.prog asFix tye9 := ⟨knPol, 1000, asHook_ok, by kernel_rfl⟩
def tye16 : Known := ⟨13, [.agg [.v (.string ⟨⟨[103]⟩⟩), .v (.int .i64 1), .vec .nil [], .vec .no [.agg [.v (.int .i64 2), .v (.string ⟨⟨[]⟩⟩), .v (.string ⟨⟨[]⟩⟩), .v (.int .i64 0), .v (.int .i64 0), .vec .nil [], .v (.bool false), .vec .nil [], .vec .exact [.agg [.v (.int .i64 1), .v (.int .i64 0), .v (.string ⟨⟨[]⟩⟩), .vec .nil [], .v (.int .i64 24)]], .vec .exact [.agg [.v (.string ⟨⟨[108]⟩⟩), .vec .nil [], .v (.bool false), .vec .nil [], .v (.string ⟨⟨[]⟩⟩), .v (.int .i64 28)]], .vec .nil [], .v (.int .i64 19)]]]], .ret (.agg [.v (.int .i64 3), .v (.int .i64 19)]) []⟩
theorem tyk16 : KnownOk Tryz.prog asFix tye16 := ⟨knPol, 1000, asHook_ok, by kernel_rfl⟩
def tye23 : Known := ⟨12, [.v (.string ⟨⟨[49, 32, 43, 32, 120]⟩⟩), .v (.int .i64 1), .v (.int .i64 0), .v (.int .i64 0)], .ret (.v (.bool true)) []⟩
theorem tyk23 : KnownOk Tryz.prog asFix tye23 := ⟨knPol, 1000, asHook_ok, by kernel_rfl⟩
end Go.Proofs.YtpagljdnkolhdaaGreatDoor
