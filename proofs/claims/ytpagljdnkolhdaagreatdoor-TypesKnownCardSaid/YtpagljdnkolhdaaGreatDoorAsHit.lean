/- errors.As at the error that package types makes, at a target of its own type: turned from the kit's worked text on errors.As. UNDER WAY. -/
import Derived.Test.YtpagljdnkolhdaaGreatDoorProg
import Derived.KernelRfl
import Derived.WalkKit
import Derived.LaidEql
import Derived.Stop.Asserts
import Derived.RowKitTokens
set_option linter.unusedSimpArgs false
set_option linter.unusedVariables false
namespace Go.Proofs.YtpagljdnkolhdaaGreatDoor
open Go.RowKit Go.Extern.Stop Go.Stop Go.Extern
theorem As.valueOfT (t : Addr) (w : World) : (ReflectliteValue.unpack (.iface 137 (.pointer (some t)))).run Tryz.prog w
    = .ok (.agg #[.pointer (some ⟨1, 137, none⟩), .pointer (some ⟨w.heap.size, 0, none⟩), .int .u64 150]) (w.alloc (.cells #[.pointer (some t)] 137)) := by kernel_rfl
theorem As.typeT (a : Addr) (w : World) : (ReflectliteValue.methodAny (ReflectliteValue.valueError "reflectlite.Value.Type" 0) (fun t _ _ _ => ReflectliteType.toType t) #[.agg #[.pointer (some ⟨1, 137, none⟩), .pointer (some a), .int .u64 150]]).run Tryz.prog w
    = .ok (.iface 198 (.agg #[.pointer (some ⟨1, 137, none⟩)])) w := by kernel_rfl
theorem As.methodKind (h : Value) (w : World) : (Go.method 347 198 (.agg #[h]) "Kind").run Tryz.prog w = .ok (212, h) w := by kernel_rfl
theorem As.kindT (w : World) : ((ReflectliteType.abiMethod fun t => (fun a : Nat => Value.int IntKind.u8 (a : Int)) <$> Rtype.kind t) #[.pointer (some ⟨1, 137, none⟩)]).run Tryz.prog w = .ok (.int .u8 22) w := by kernel_rfl
theorem As.kindE (w : World) : ((ReflectliteType.abiMethod fun t => (fun a : Nat => Value.int IntKind.u8 (a : Int)) <$> Rtype.kind t) #[.pointer (some ⟨1, 135, none⟩)]).run Tryz.prog w = .ok (.int .u8 25) w := by kernel_rfl
theorem As.typeOfE (v : Value) (w : World) : (ReflectliteType.typeOf #[.iface 135 v]).run Tryz.prog w = .ok (.iface 198 (.agg #[.pointer (some ⟨1, 135, none⟩)])) w := by kernel_rfl
theorem As.assignableE (w : World) : (ReflectliteType.relation "AssignableTo" ReflectliteType.assignableTo #[.agg #[.pointer (some ⟨1, 135, none⟩)], .iface 198 (.agg #[.pointer (some ⟨1, 135, none⟩)])]).run Tryz.prog w = .ok (.bool true) w := by kernel_rfl
theorem As.valueOfE (x y : Value) (w : World) : (ReflectliteValue.unpack (.iface 135 (.agg #[x, y]))).run Tryz.prog w
    = .ok (.agg #[.pointer (some ⟨1, 135, none⟩), .pointer (some ⟨w.heap.size, 0, none⟩), .int .u64 153]) (w.alloc (.cells #[x, y] 135)) := by kernel_rfl
theorem As.elemOfT (w : World) : (Rtype.elem? 137).run Tryz.prog w = .ok (some 135) w := by kernel_rfl
theorem As.mkE (p : Addr) (w : World) : (ReflectliteValue.mk 135 p ReflectliteValue.flagAddr).run Tryz.prog w = .ok (.agg #[.pointer (some ⟨1, 135, none⟩), .pointer (some p), .int .u64 409]) w := by kernel_rfl
theorem As.methodElem (h : Value) (w : World) : (Go.method 347 198 (.agg #[h]) "Elem").run Tryz.prog w = .ok (223, .agg #[h]) w := by kernel_rfl
theorem As.methodImplements (h : Value) (w : World) : (Go.method 347 198 (.agg #[h]) "Implements").run Tryz.prog w = .ok (224, .agg #[h]) w := by kernel_rfl
theorem As.methodAssignableTo (h : Value) (w : World) : (Go.method 347 198 (.agg #[h]) "AssignableTo").run Tryz.prog w = .ok (221, .agg #[h]) w := by kernel_rfl
theorem As.elemT (w : World) : (ReflectliteType.method ReflectliteType.elem #[.agg #[.pointer (some ⟨1, 137, none⟩)]]).run Tryz.prog w = .ok (.iface 198 (.agg #[.pointer (some ⟨1, 135, none⟩)])) w := by kernel_rfl
theorem As.implementsE (w : World) : (ReflectliteType.relation "Implements" ReflectliteType.implements_ #[.agg #[.pointer (some ⟨1, 135, none⟩)], .iface 198 (.agg #[.pointer (some ⟨1, 84, none⟩)])]).run Tryz.prog w = .ok (.bool true) w := by kernel_rfl
theorem As.rlm (z : Sem Value) (f : TypeId → Addr → Nat → Nat → Sem Value) (v : Value) :
    ReflectliteValue.method z f #[v] = (do match ← ReflectliteValue.parts v with | none => z | some (t, a, fl) => f t a fl (fl % 32)) := rfl
theorem As.partsT (a : Addr) (w : World) : (ReflectliteValue.parts (.agg #[.pointer (some ⟨1, 137, none⟩), .pointer (some a), .int .u64 150])).run Tryz.prog w = .ok (some (137, a, 150)) w := by kernel_rfl
theorem As.isNilT (a p : Addr) (W : World) (ha : W.cell? a = some (.pointer (some p))) :
    (ReflectliteValue.method (ReflectliteValue.valueError "reflectlite.Value.IsNil" 0) ReflectliteValue.isNil #[.agg #[.pointer (some ⟨1, 137, none⟩), .pointer (some a), .int .u64 150]]).run Tryz.prog W = .ok (.bool false) W := by
  rw [As.rlm]
  simp only [Sem.run_bind, As.partsT, Result.andThen]
  simp [ReflectliteValue.isNil, loadVar, isAgg, underlying, Tryz.underlying137, ha, Result.andThen]
theorem As.elemV (a p : Addr) (W : World) (ha : W.cell? a = some (.pointer (some p))) :
    (ReflectliteValue.method (ReflectliteValue.valueError "reflectlite.Value.Elem" 0) ReflectliteValue.elem #[.agg #[.pointer (some ⟨1, 137, none⟩), .pointer (some a), .int .u64 150]]).run Tryz.prog W
      = .ok (.agg #[.pointer (some ⟨1, 135, none⟩), .pointer (some p), .int .u64 409]) W := by
  rw [As.rlm]
  simp only [Sem.run_bind, As.partsT, Result.andThen]
  simp [ReflectliteValue.elem, loadVar, isAgg, underlying, Tryz.underlying137, ha, Result.andThen, As.elemOfT, As.mkE]
theorem As.partsEa (a : Addr) (w : World) : (ReflectliteValue.parts (.agg #[.pointer (some ⟨1, 135, none⟩), .pointer (some a), .int .u64 409])).run Tryz.prog w = .ok (some (135, a, 409)) w := by kernel_rfl
theorem As.partsE (a : Addr) (w : World) : (ReflectliteValue.parts (.agg #[.pointer (some ⟨1, 135, none⟩), .pointer (some a), .int .u64 153])).run Tryz.prog w = .ok (some (135, a, 153)) w := by kernel_rfl
theorem As.directE (w : World) : (Rtype.directlyAssignable 135 135).run Tryz.prog w = .ok true w := by kernel_rfl
theorem As.rls (v x : Value) : ReflectliteValue.set #[v, x] = (do
    let (some (dst, a, fl), some (src, b, _)) := (← ReflectliteValue.parts v, ← ReflectliteValue.parts x)
      | unsupported (.noEntry "extern/(internal/reflectlite.Value).Set.zeroValue")
    if fl / ReflectliteValue.flagAddr % 2 == 0 then unsupported (.noEntry "extern/(internal/reflectlite.Value).Set.unaddressable")
    let val ← loadVar src b
    if ← Rtype.directlyAssignable dst src then storeVar dst a val
    else if ← Rtype.implements dst src then
      if (← Rtype.kind src) == 20 then
        match val with
        | .nilIface => unsupported (.noEntry "extern/reflectlite: a nil value of one interface type handed on as a value of another")
        | _ => storeVar dst a val
      else storeVar dst a (.iface src val)
    else panicString ("reflectlite.Set: value of type " ++ (← Rtype.spelt src) ++ " is not assignable to type " ++ (← Rtype.spelt dst))
    pure (.tuple #[])) := rfl
theorem As.loadE (b : Addr) (x y : Value) (W : World) (h0 : W.cell? b = some x) (h1 : W.cell? (b.add 1) = some y) : (loadVar 135 b).run Tryz.prog W = .ok (.agg #[x, y]) W := by
  have hs : (sizeOf 135).run Tryz.prog W = .ok 2 W := by kernel_rfl
  have ha : (isAgg 135).run Tryz.prog W = .ok true W := by kernel_rfl
  have h0' : W.cell? (b.add 0) = some x := by cases b; simpa [Addr.add] using h0
  simp [loadVar, Sem.run_bind, ha, hs, Result.andThen, loadCells, loadCellsFrom, h0, h0', h1]
theorem As.setE (tb : Nat) (b : Addr) (arr : Array Value) (ty : TypeId) (x y : Value) (W : World) (h0 : W.cell? b = some x) (h1 : W.cell? (b.add 1) = some y) (ht : W.heap[tb]? = some (.cells arr ty (0, 0))) (h2 : 2 ≤ arr.size) (ox : x.oneCell' = true) (oy : y.oneCell' = true) :
    (ReflectliteValue.set #[.agg #[.pointer (some ⟨1, 135, none⟩), .pointer (some ⟨tb, 0, none⟩), .int .u64 409], .agg #[.pointer (some ⟨1, 135, none⟩), .pointer (some b), .int .u64 153]]).run Tryz.prog W
      = .ok (.tuple #[]) (W.setRow tb (x :: y :: arr.toList.drop 2).toArray) := by
  have hst := run_storeCells_at Tryz.prog tb 0 ty [x, y] 0 arr W ht (by simpa using h2) (by simp [ox, oy])
  have hs : ∀ w, (sizeOf 135).run Tryz.prog w = .ok 2 w := fun w => by kernel_rfl
  rw [As.rls]
  simp only [Sem.run_bind, As.partsEa, As.partsE, Result.andThen_ok]
  simp [ReflectliteValue.flagAddr, As.loadE b x y W h0 h1, As.directE, storeVar, Value.cells, hs]
  simp at hst
  rw [hst]
  simp
end Go.Proofs.YtpagljdnkolhdaaGreatDoor
