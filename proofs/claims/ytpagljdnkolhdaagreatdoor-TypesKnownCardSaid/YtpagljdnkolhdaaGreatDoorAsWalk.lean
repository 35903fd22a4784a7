/- errors.As and errors.as at the error that package types makes, at a target of its own type: the target gets the error. UNDER WAY. -/
import Derived.Test.YtpagljdnkolhdaaGreatDoorAsHit
set_option linter.unusedSimpArgs false
set_option linter.unusedVariables false
namespace Go.Proofs.YtpagljdnkolhdaaGreatDoor
open Go.RowKit Go.Extern.Stop Go.Stop Go.Extern

abbrev As.V (a : Addr) : Value := .agg #[.pointer (some ⟨1, 137, none⟩), .pointer (some a), .int .u64 150]

/-- errors.As(nil, target). -/
theorem as_nil (t : Value) (w : World) : Calls Tryz.prog 92 #[.nilIface, t] w fun e w' => e = .returned (.bool false) ∧ w' = w := by
  go_enter Tryz.func92, Tryz.ntmps92
  go_wp2
  go_ret
  exact ⟨rfl, rfl⟩

set_option maxRecDepth 20000 in
set_option maxHeartbeats 4000000 in
theorem as_in (x y : Value) (tb : Nat) (a : Addr) (arr : Array Value) (ty : TypeId) (w : World) (ha : w.cell? a = some (.pointer (some ⟨tb, 0, none⟩))) (ht : w.heap[tb]? = some (.cells arr ty (0, 0))) (h2 : 2 ≤ arr.size) (ox : x.oneCell' = true) (oy : y.oneCell' = true) :
    Calls Tryz.prog 154 #[.iface 135 (.agg #[x, y]), .iface 137 (.pointer (some ⟨tb, 0, none⟩)), As.V a, .iface 198 (.agg #[.pointer (some ⟨1, 135, none⟩)])] w fun ev w' => ev = .returned (.bool true) ∧
      w' = ((w.alloc (.cells #[.pointer (some ⟨1, 137, none⟩), .pointer (some a), .int .u64 150] 177)).alloc (.cells #[x, y] 135)).setRow tb (x :: y :: arr.toList.drop 2).toArray := by
  have h10 := @run_callFunc_extern Tryz.prog 174 _ ReflectliteType.typeOf Tryz.func174 (by kernel_rfl) (by kernel_rfl) (by kernel_rfl) (by kernel_rfl)
  have h35 := @run_callFunc_extern Tryz.prog 221 _ (ReflectliteType.relation "AssignableTo" ReflectliteType.assignableTo) Tryz.func221 (by kernel_rfl) (by kernel_rfl) (by kernel_rfl) (by kernel_rfl)
  have h11 := @run_callFunc_extern Tryz.prog 175 _ (ReflectliteValue.method (ReflectliteValue.valueError "reflectlite.Value.Elem" 0) ReflectliteValue.elem) Tryz.func175 (by kernel_rfl) (by kernel_rfl) (by kernel_rfl) (by kernel_rfl)
  have h6 := @run_callFunc_extern Tryz.prog 151 _ (fun args => ReflectliteValue.unpack (args.getD 0 (.tuple #[]))) Tryz.func151 (by kernel_rfl) (by kernel_rfl) (by kernel_rfl) (by kernel_rfl)
  have h12 := @run_callFunc_extern Tryz.prog 176 _ ReflectliteValue.set Tryz.func176 (by kernel_rfl) (by kernel_rfl) (by kernel_rfl) (by kernel_rfl)
  have tO := As.typeOfE
  have mA := As.methodAssignableTo
  have aE := As.assignableE
  have vE := As.valueOfE x y
  have hab : a.block < w.heap.size := World.block_lt_of_cell? w a ha
  have htb : tb < w.heap.size := (Array.getElem?_eq_some_iff.1 ht).1
  have el := As.elemV a ⟨tb, 0, none⟩ (w.alloc (.cells #[.pointer (some ⟨1, 137, none⟩), .pointer (some a), .int .u64 150] 177)) (by rw [World.cell?_alloc_lt _ _ a hab]; exact ha)
  have st := As.setE tb ⟨w.heap.size + 1, 0, none⟩ arr ty x y ((w.alloc (.cells #[.pointer (some ⟨1, 137, none⟩), .pointer (some a), .int .u64 150] 177)).alloc (.cells #[x, y] 135))
    (by rw [World.cell?_alloc_at _ _ _ _ (by simp)]; rfl) (by rw [show (⟨w.heap.size + 1, 0, none⟩ : Addr).add 1 = ⟨w.heap.size + 1, 1, none⟩ from by simp [Addr.add], World.cell?_alloc_at _ _ _ _ (by simp)]; rfl) (by rw [Below.heap_alloc _ _ _ (by simp; omega), Below.heap_alloc _ _ _ htb]; exact ht) h2 ox oy
  go_enter Tryz.func154, Tryz.ntmps154
  go_wp2
  refine wp_loop_rounds 1 ?_
  rw [rounds_succ]
  go_wp2
  go_ret
  exact ⟨rfl, rfl⟩

set_option maxRecDepth 20000 in
set_option maxHeartbeats 4000000 in
theorem as_hit (x y : Value) (tb : Nat) (arr : Array Value) (ty : TypeId) (w : World) (hg : w.cell? ⟨0, 0, none⟩ = some (.iface 198 (.agg #[.pointer (some ⟨1, 84, none⟩)]))) (ht : w.heap[tb]? = some (.cells arr ty (0, 0))) (h2 : 2 ≤ arr.size) (ox : x.oneCell' = true) (oy : y.oneCell' = true) :
    Calls Tryz.prog 92 #[.iface 135 (.agg #[x, y]), .iface 137 (.pointer (some ⟨tb, 0, none⟩))] w fun ev w' => ev = .returned (.bool true) ∧
      w' = ((((w.alloc (.cells #[.pointer (some ⟨tb, 0, none⟩)] 137)).alloc (.cells #[.pointer (some ⟨1, 137, none⟩), .pointer (some ⟨w.heap.size, 0, none⟩), .int .u64 150] 177)).alloc (.cells #[.pointer (some ⟨1, 137, none⟩), .pointer (some ⟨w.heap.size, 0, none⟩), .int .u64 150] 177)).alloc (.cells #[x, y] 135)).setRow tb (x :: y :: arr.toList.drop 2).toArray := by
  have h6 := @run_callFunc_extern Tryz.prog 151 _ (fun args => ReflectliteValue.unpack (args.getD 0 (.tuple #[]))) Tryz.func151 (by kernel_rfl) (by kernel_rfl) (by kernel_rfl) (by kernel_rfl)
  have h7 := @run_callFunc_extern Tryz.prog 152 _ (ReflectliteValue.methodAny (ReflectliteValue.valueError "reflectlite.Value.Type" 0) (fun t _ _ _ => ReflectliteType.toType t)) Tryz.func152 (by kernel_rfl) (by kernel_rfl) (by kernel_rfl) (by kernel_rfl)
  have h8 := @run_callFunc_extern Tryz.prog 153 _ (ReflectliteValue.method (ReflectliteValue.valueError "reflectlite.Value.IsNil" 0) ReflectliteValue.isNil) Tryz.func153 (by kernel_rfl) (by kernel_rfl) (by kernel_rfl) (by kernel_rfl)
  have h27 := @run_callFunc_extern Tryz.prog 212 _ (ReflectliteType.abiMethod fun t => do pure (.int .u8 (← Rtype.kind t))) Tryz.func212 (by kernel_rfl) (by kernel_rfl) (by kernel_rfl) (by kernel_rfl)
  have h37 := @run_callFunc_extern Tryz.prog 223 _ (ReflectliteType.method ReflectliteType.elem) Tryz.func223 (by kernel_rfl) (by kernel_rfl) (by kernel_rfl) (by kernel_rfl)
  have h38 := @run_callFunc_extern Tryz.prog 224 _ (ReflectliteType.relation "Implements" ReflectliteType.implements_) Tryz.func224 (by kernel_rfl) (by kernel_rfl) (by kernel_rfl) (by kernel_rfl)
  have f6 := As.valueOfT
  have f7 := As.typeT
  have mK := As.methodKind
  have mE := As.methodElem
  have mI := As.methodImplements
  have kT := As.kindT
  have kE := As.kindE
  have eT := As.elemT
  have iE := As.implementsE
  have hlt : 0 < w.heap.size := World.block_lt_of_cell? w _ hg
  have htb : tb < w.heap.size := (Array.getElem?_eq_some_iff.1 ht).1
  have n8 := As.isNilT ⟨w.heap.size, 0, none⟩ ⟨tb, 0, none⟩ ((w.alloc (.cells #[.pointer (some ⟨tb, 0, none⟩)] 137)).alloc (.cells #[.pointer (some ⟨1, 137, none⟩), .pointer (some ⟨w.heap.size, 0, none⟩), .int .u64 150] 177)) (by simp)
  have hg2 : ((w.alloc (.cells #[.pointer (some ⟨tb, 0, none⟩)] 137)).alloc (.cells #[.pointer (some ⟨1, 137, none⟩), .pointer (some ⟨w.heap.size, 0, none⟩), .int .u64 150] 177)).cell? ⟨0, 0, none⟩ = some (.iface 198 (.agg #[.pointer (some ⟨1, 84, none⟩)])) := by
    rw [World.cell?_alloc_lt _ _ ⟨0, 0, none⟩ (by simp), World.cell?_alloc_lt _ _ ⟨0, 0, none⟩ hlt]; exact hg
  have c154 := as_in x y tb ⟨w.heap.size, 0, none⟩ arr ty ((w.alloc (.cells #[.pointer (some ⟨tb, 0, none⟩)] 137)).alloc (.cells #[.pointer (some ⟨1, 137, none⟩), .pointer (some ⟨w.heap.size, 0, none⟩), .int .u64 150] 177)) (by simp)
    (by rw [Below.heap_alloc _ _ _ (by simp; omega), Below.heap_alloc _ _ _ htb]; exact ht) h2 ox oy
  go_enter Tryz.func92, Tryz.ntmps92
  go_wp2_with (go_at_call 154; refine c154.mono ?_; rintro e w1 ⟨rfl, rfl⟩)
  go_ret
  exact ⟨rfl, rfl⟩
end Go.Proofs.YtpagljdnkolhdaaGreatDoor
