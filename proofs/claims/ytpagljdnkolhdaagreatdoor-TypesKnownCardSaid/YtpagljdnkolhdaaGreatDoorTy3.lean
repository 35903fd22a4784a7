/- Known calls, run. Printed by gentab.py. No condition. -/
import Derived.Test.YtpagljdnkolhdaaGreatDoorKnPol
import Derived.KernelRfl
set_option linter.unusedSimpArgs false
set_option linter.unusedVariables false
set_option maxRecDepth 100000
namespace Go.Proofs.YtpagljdnkolhdaaGreatDoor
open Go.RowKit Go.Pv
def tye3 : Known := ⟨12, [.v (.string ⟨⟨[105, 102, 40, 49, 44, 32, 50, 44, 32, 51, 41]⟩⟩), .v (.int .i64 0), .v (.int .i64 10), .v (.int .i64 3)], .ret (.v (.bool true)) []⟩
theorem tyk3 : KnownOk Tryz.prog asFix tye3 := ⟨knPol, 1000, asHook_ok, by kernel_rfl⟩
def tye10 : Known := ⟨13, [.agg [.v (.string ⟨⟨[103]⟩⟩), .v (.int .i64 2), .vec .nil [], .vec .no [.agg [.v (.int .i64 3), .v (.string ⟨⟨[]⟩⟩), .v (.string ⟨⟨[]⟩⟩), .v (.int .i64 0), .v (.int .i64 0), .vec .nil [], .v (.bool false), .vec .nil [], .vec .nil [], .vec .nil [], .vec .no [.agg [.v (.int .i64 1), .v (.int .i64 1), .v (.string ⟨⟨[]⟩⟩), .vec .nil [], .v (.int .i64 29)], .agg [.v (.int .i64 12), .v (.int .i64 0), .v (.string ⟨⟨[]⟩⟩), .vec .exact [.agg [.v (.int .i64 1), .v (.int .i64 1), .v (.string ⟨⟨[]⟩⟩), .vec .nil [], .v (.int .i64 32)], .agg [.v (.int .i64 1), .v (.int .i64 2), .v (.string ⟨⟨[]⟩⟩), .vec .nil [], .v (.int .i64 36)]], .v (.int .i64 34)]], .v (.int .i64 19)]]]], .ret (.agg [.v (.int .i64 10), .v (.int .i64 34)]) []⟩
theorem tyk10 : KnownOk Tryz.prog asFix tye10 := ⟨knPol, 1000, asHook_ok, by kernel_rfl⟩
def tye17 : Known := ⟨14, [.v (.string ⟨⟨[103, 97, 109, 101, 32, 103, 59, 32, 112, 108, 97, 121, 101, 114, 115, 32, 49, 59, 32, 118, 97, 114, 32, 120, 32, 61, 32, 48, 59, 32, 100, 101, 97, 108, 32, 120, 32, 105, 110, 32, 48, 32, 46, 46, 32, 53, 57, 59, 32, 101, 110, 100, 32, 123, 32, 112, 97, 121, 32, 48, 59, 32, 125]⟩⟩)], .ret (.agg [.v (.string ⟨⟨[103]⟩⟩), .v (.int .i64 1), .vec .no [.agg [.v (.string ⟨⟨[120]⟩⟩), .v (.int .i64 0), .v (.int .i64 23)]], .vec .no [.agg [.v (.int .i64 1), .v (.string ⟨⟨[]⟩⟩), .v (.string ⟨⟨[120]⟩⟩), .v (.int .i64 0), .v (.int .i64 59), .vec .nil [], .v (.bool false), .vec .nil [], .vec .nil [], .vec .nil [], .vec .nil [], .v (.int .i64 30)], .agg [.v (.int .i64 3), .v (.string ⟨⟨[]⟩⟩), .v (.string ⟨⟨[]⟩⟩), .v (.int .i64 0), .v (.int .i64 0), .vec .nil [], .v (.bool false), .vec .nil [], .vec .nil [], .vec .nil [], .vec .exact [.agg [.v (.int .i64 1), .v (.int .i64 0), .v (.string ⟨⟨[]⟩⟩), .vec .nil [], .v (.int .i64 59)]], .v (.int .i64 49)]]]) []⟩
theorem tyk17 : KnownOk Tryz.prog asFix tye17 := ⟨knPol, 1000, asHook_ok, by kernel_rfl⟩
def tye24 : Known := ⟨12, [.v (.string ⟨⟨[120, 32, 60, 32, 50, 32, 97, 110, 100, 32, 110, 111, 116, 32, 120, 32, 61, 61, 32, 49]⟩⟩), .v (.int .i64 2), .v (.int .i64 0), .v (.int .i64 0)], .ret (.v (.bool true)) []⟩
theorem tyk24 : KnownOk Tryz.prog asFix tye24 := ⟨knPol, 1000, asHook_ok, by kernel_rfl⟩
end Go.Proofs.YtpagljdnkolhdaaGreatDoor
