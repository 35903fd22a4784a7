/- Known calls, run. Printed by gentab.py. No condition. -/
import Derived.Test.YtpagljdnkolhdaaGreatDoorKnPol
import Derived.KernelRfl
set_option linter.unusedSimpArgs false
set_option linter.unusedVariables false
set_option maxRecDepth 100000
namespace Go.Proofs.YtpagljdnkolhdaaGreatDoor
open Go.RowKit Go.Pv
def tye1 : Known := ⟨12, [.v (.string ⟨⟨[121]⟩⟩), .v (.int .i64 0), .v (.int .i64 7), .v (.int .i64 0)], .ret (.v (.bool true)) []⟩
theorem tyk1 : KnownOk Tryz.prog asFix tye1 := ⟨knPol, 1000, asHook_ok, by kernel_rfl⟩
def tye8 : Known := ⟨13, [.agg [.v (.string ⟨⟨[103]⟩⟩), .v (.int .i64 2), .vec .nil [], .vec .no [.agg [.v (.int .i64 3), .v (.string ⟨⟨[]⟩⟩), .v (.string ⟨⟨[]⟩⟩), .v (.int .i64 0), .v (.int .i64 0), .vec .nil [], .v (.bool false), .vec .nil [], .vec .nil [], .vec .nil [], .vec .exact [.agg [.v (.int .i64 1), .v (.int .i64 1), .v (.string ⟨⟨[]⟩⟩), .vec .nil [], .v (.int .i64 29)]], .v (.int .i64 19)]]]], .ret (.agg [.v (.int .i64 3), .v (.int .i64 19)]) []⟩
theorem tyk8 : KnownOk Tryz.prog asFix tye8 := ⟨knPol, 1000, asHook_ok, by kernel_rfl⟩
def tye15 : Known := ⟨14, [.v (.string ⟨⟨[103, 97, 109, 101, 32, 103, 59, 32, 112, 108, 97, 121, 101, 114, 115, 32, 49, 59, 32, 116, 117, 114, 110, 32, 48, 32, 123, 32, 97, 99, 116, 105, 111, 110, 32, 108, 32, 123, 32, 125, 32, 125]⟩⟩)], .ret (.agg [.v (.string ⟨⟨[103]⟩⟩), .v (.int .i64 1), .vec .nil [], .vec .no [.agg [.v (.int .i64 2), .v (.string ⟨⟨[]⟩⟩), .v (.string ⟨⟨[]⟩⟩), .v (.int .i64 0), .v (.int .i64 0), .vec .nil [], .v (.bool false), .vec .nil [], .vec .exact [.agg [.v (.int .i64 1), .v (.int .i64 0), .v (.string ⟨⟨[]⟩⟩), .vec .nil [], .v (.int .i64 24)]], .vec .exact [.agg [.v (.string ⟨⟨[108]⟩⟩), .vec .nil [], .v (.bool false), .vec .nil [], .v (.string ⟨⟨[]⟩⟩), .v (.int .i64 28)]], .vec .nil [], .v (.int .i64 19)]]]) []⟩
theorem tyk15 : KnownOk Tryz.prog asFix tye15 := ⟨knPol, 1000, asHook_ok, by kernel_rfl⟩
def tye22 : Known := ⟨13, [.agg [.v (.string ⟨⟨[103]⟩⟩), .v (.int .i64 4), .vec .nil [], .vec .no [.agg [.v (.int .i64 3), .v (.string ⟨⟨[]⟩⟩), .v (.string ⟨⟨[]⟩⟩), .v (.int .i64 0), .v (.int .i64 0), .vec .nil [], .v (.bool false), .vec .nil [], .vec .nil [], .vec .nil [], .vec .no [.agg [.v (.int .i64 1), .v (.int .i64 0), .v (.string ⟨⟨[]⟩⟩), .vec .nil [], .v (.int .i64 29)], .agg [.v (.int .i64 1), .v (.int .i64 0), .v (.string ⟨⟨[]⟩⟩), .vec .nil [], .v (.int .i64 32)], .agg [.v (.int .i64 1), .v (.int .i64 0), .v (.string ⟨⟨[]⟩⟩), .vec .nil [], .v (.int .i64 35)], .agg [.v (.int .i64 1), .v (.int .i64 0), .v (.string ⟨⟨[]⟩⟩), .vec .nil [], .v (.int .i64 38)]], .v (.int .i64 19)]]]], .ret (.agg [.v (.int .i64 0), .v (.int .i64 0)]) []⟩
theorem tyk22 : KnownOk Tryz.prog asFix tye22 := ⟨knPol, 1000, asHook_ok, by kernel_rfl⟩
end Go.Proofs.YtpagljdnkolhdaaGreatDoor
