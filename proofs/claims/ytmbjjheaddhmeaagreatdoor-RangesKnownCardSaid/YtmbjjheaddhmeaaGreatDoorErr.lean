/- errors.Is of a Fault and a number: the numbers' equality. errors.As of a Fault at a target *api.Fault (after the worked example on errors.As at a concrete target). An error's number and its place: Num, Place, At, told. -/
import Derived.Test.YtmbjjheaddhmeaaGreatDoorMem
import Derived.Test.YtmbjjheaddhmeaaGreatDoorRows
import Derived.WalkKit
import Derived.LaidEql
import Derived.Stop.Asserts
import Derived.RowKitTokens
import Derived.Lib.IfaceEq
import Derived.Lib.Hide
import Derived.Test.YtmbjjheaddhmeaaGreatDoorCls
import Derived.Deep.LoopGhost
namespace Go.Proofs.YtmbjjheaddhmeaaGreatDoor
open Go.RowKit Go.Extern.Stop Go.Stop Go.Extern

theorem Tryz.isTypeOf (v : Value) (w : World) : (Extern.ReflectliteType.typeOf #[.iface 79 v]).run Tryz.prog w = .ok (.iface 285 (.agg #[.pointer (some ⟨7, 79, none⟩)])) w := by kernel_rfl
theorem Tryz.isComparable (w : World) : ((Extern.ReflectliteType.method fun t => do Rtype.noPackHeld "Comparable" t; (fun a => Value.bool a.comparable) <$> typeInfo t) #[.agg #[.pointer (some ⟨7, 79, none⟩)]]).run Tryz.prog w = .ok (.bool true) w := by kernel_rfl
theorem Tryz.isMethodComparable (v : Value) (w : World) : (Go.method 450 285 v "Comparable").run Tryz.prog w = .ok (220, v) w := by kernel_rfl
theorem Tryz.isErr : ∃ ms, Tryz.prog.underlying 27 = some (.interface ms) := ⟨_, Tryz.underlying27⟩
theorem Tryz.noIsF (v : Value) (xT : TypeId) (w : World) : (Instr.typeAssert (.iface 81 v) xT 297 true).run Tryz.prog w = .ok (.tuple #[.nilIface, .bool false]) w := run_typeAssert_lacksB Tryz.underlying297 (by kernel_rfl) (by kernel_rfl) v xT w
theorem Tryz.noIsE (v : Value) (xT : TypeId) (w : World) : (Instr.typeAssert (.iface 79 v) xT 297 true).run Tryz.prog w = .ok (.tuple #[.nilIface, .bool false]) w := run_typeAssert_lacksB Tryz.underlying297 (by kernel_rfl) (by kernel_rfl) v xT w
theorem Tryz.noUnwrapE (v : Value) (xT : TypeId) (w : World) : (Instr.typeAssert (.iface 79 v) xT 292 true).run Tryz.prog w = .ok (.tuple #[.nilIface, .bool false]) w := run_typeAssert_lacksB Tryz.underlying292 (by kernel_rfl) (by kernel_rfl) v xT w
theorem Tryz.noUnwrapsE (v : Value) (xT : TypeId) (w : World) : (Instr.typeAssert (.iface 79 v) xT 294 true).run Tryz.prog w = .ok (.tuple #[.nilIface, .bool false]) w := run_typeAssert_lacksB Tryz.underlying294 (by kernel_rfl) (by kernel_rfl) v xT w
theorem Tryz.hasUnwrapF (v : Value) (xT : TypeId) (w : World) : (Instr.typeAssert (.iface 81 v) xT 292 true).run Tryz.prog w = .ok (.tuple #[.iface 81 v, .bool true]) w := run_typeAssert_hasB Tryz.underlying292 (by kernel_rfl) v xT w
theorem Tryz.methodUnwrapF (v : Value) (w : World) : (Go.method 450 81 v "Unwrap").run Tryz.prog w = .ok (213, v) w := by kernel_rfl

set_option maxRecDepth 100000 in
set_option maxHeartbeats 4000000 in
/-- errors.Is(Fault, Errno). -/
theorem is_fault (no line k n : Int) (w : World) :
    Calls Tryz.prog 130 #[.iface 81 (.agg #[.int .i64 no, .int .i64 line, .int .i64 k]), .iface 79 (.int .i64 n)] w fun e w' => e = .returned (.bool (no == n)) ∧ w.alloc (.cells #[.int .i64 no, .int .i64 line, .int .i64 k] 81) = w' := by
  have h8 := @run_callFunc_extern Tryz.prog 154 _ Extern.ReflectliteType.typeOf Tryz.func154 (by kernel_rfl) (by kernel_rfl) (by kernel_rfl) (by kernel_rfl)
  have h32 := @run_callFunc_extern Tryz.prog 220 _ (Extern.ReflectliteType.method fun t => do Rtype.noPackHeld "Comparable" t; pure (.bool (← typeInfo t).comparable)) Tryz.func220 (by kernel_rfl) (by kernel_rfl) (by kernel_rfl) (by kernel_rfl)
  have tT := Tryz.isTypeOf
  have cT := Tryz.isComparable
  have mR := Tryz.isMethodComparable
  have nF := Tryz.noIsF
  have nE := Tryz.noIsE
  have uE := Tryz.noUnwrapE
  have vE := Tryz.noUnwrapsE
  have uF := Tryz.hasUnwrapF
  have mU := Tryz.methodUnwrapF
  have hty := run_eql_iface_types (P := Tryz.prog) 81 79 (.agg #[.int .i64 no, .int .i64 line, .int .i64 k]) (.int .i64 n) Tryz.underlying27 (by decide) w
  have heq := fun W => Lib.run_eql_iface_int (P := Tryz.prog) (k := .i64) W no n Tryz.underlying27 (by kernel_rfl) Tryz.underlying79
  cases hb : (no == n) with
  | true =>
    go_enter Tryz.func130, Tryz.ntmps130
    go_wp2
    refine wp_loop_rounds 2 ?_
    rw [rounds_succ]
    go_wp2
    rw [rounds_succ]
    go_wp2
    go_ret
    exact ⟨rfl, rfl⟩
  | false =>
    go_enter Tryz.func130, Tryz.ntmps130
    go_wp2
    refine wp_loop_rounds 2 ?_
    rw [rounds_succ]
    go_wp2
    rw [rounds_succ]
    go_wp2
    go_ret
    exact ⟨rfl, rfl⟩

end Go.Proofs.YtmbjjheaddhmeaaGreatDoor

namespace Go.Proofs.YtmbjjheaddhmeaaGreatDoor
open Go.RowKit Go.Extern.Stop Go.Stop Go.Extern

/-- errors.As(nil, target). -/
theorem as_nil (t : Value) (w : World) :
    Calls Tryz.prog 129 #[.nilIface, t] w fun e w' => e = .returned (.bool false) ∧ w' = w := by
  go_enter Tryz.func129, Tryz.ntmps129
  go_wp2
  go_ret
  exact ⟨rfl, rfl⟩

theorem Tryz.valueOfP (t : Addr) (w : World) : (ReflectliteValue.unpack (.iface 242 (.pointer (some t)))).run Tryz.prog w
    = .ok (.agg #[.pointer (some ⟨7, 242, none⟩), .pointer (some ⟨w.heap.size, 0, none⟩), .int .u64 150]) (w.alloc (.cells #[.pointer (some t)] 242)) := by kernel_rfl
theorem Tryz.typeP (a : Addr) (w : World) : (ReflectliteValue.methodAny (ReflectliteValue.valueError "reflectlite.Value.Type" 0) (fun t _ _ _ => ReflectliteType.toType t) #[.agg #[.pointer (some ⟨7, 242, none⟩), .pointer (some a), .int .u64 150]]).run Tryz.prog w
    = .ok (.iface 285 (.agg #[.pointer (some ⟨7, 242, none⟩)])) w := by kernel_rfl
theorem Tryz.asMethodKind (h : Value) (w : World) : (Go.method 450 285 (.agg #[h]) "Kind").run Tryz.prog w = .ok (208, h) w := by kernel_rfl
theorem Tryz.asKindP (w : World) : ((ReflectliteType.abiMethod fun t => (fun a : Nat => Value.int IntKind.u8 (a : Int)) <$> Rtype.kind t) #[.pointer (some ⟨7, 242, none⟩)]).run Tryz.prog w = .ok (.int .u8 22) w := by kernel_rfl
theorem Tryz.asKindF (w : World) : ((ReflectliteType.abiMethod fun t => (fun a : Nat => Value.int IntKind.u8 (a : Int)) <$> Rtype.kind t) #[.pointer (some ⟨7, 81, none⟩)]).run Tryz.prog w = .ok (.int .u8 25) w := by kernel_rfl

theorem rlm (z : Sem Value) (f : TypeId → Addr → Nat → Nat → Sem Value) (v : Value) :
    ReflectliteValue.method z f #[v] = (do match ← ReflectliteValue.parts v with | none => z | some (t, a, fl) => f t a fl (fl % 32)) := rfl
theorem Tryz.partsP (a : Addr) (w : World) : (ReflectliteValue.parts (.agg #[.pointer (some ⟨7, 242, none⟩), .pointer (some a), .int .u64 150])).run Tryz.prog w = .ok (some (242, a, 150)) w := by kernel_rfl
theorem Tryz.isNilP (a p : Addr) (W : World) (ha : W.cell? a = some (.pointer (some p))) :
    (ReflectliteValue.method (ReflectliteValue.valueError "reflectlite.Value.IsNil" 0) ReflectliteValue.isNil #[.agg #[.pointer (some ⟨7, 242, none⟩), .pointer (some a), .int .u64 150]]).run Tryz.prog W = .ok (.bool false) W := by
  rw [rlm]
  simp only [Sem.run_bind, Tryz.partsP, Result.andThen]
  simp [ReflectliteValue.isNil, loadVar, isAgg, underlying, Tryz.underlying242, ha, Result.andThen]
theorem Tryz.asMethodElem (h : Value) (w : World) : (Go.method 450 285 (.agg #[h]) "Elem").run Tryz.prog w = .ok (221, .agg #[h]) w := by kernel_rfl
theorem Tryz.asMethodImplements (h : Value) (w : World) : (Go.method 450 285 (.agg #[h]) "Implements").run Tryz.prog w = .ok (222, .agg #[h]) w := by kernel_rfl
theorem Tryz.asMethodAssignableTo (h : Value) (w : World) : (Go.method 450 285 (.agg #[h]) "AssignableTo").run Tryz.prog w = .ok (219, .agg #[h]) w := by kernel_rfl
theorem Tryz.asElem (w : World) : (ReflectliteType.method ReflectliteType.elem #[.agg #[.pointer (some ⟨7, 242, none⟩)]]).run Tryz.prog w = .ok (.iface 285 (.agg #[.pointer (some ⟨7, 81, none⟩)])) w := by kernel_rfl
theorem Tryz.asImplements (w : World) : (ReflectliteType.relation "Implements" ReflectliteType.implements_ #[.agg #[.pointer (some ⟨7, 81, none⟩)], .iface 285 (.agg #[.pointer (some ⟨7, 27, none⟩)])]).run Tryz.prog w = .ok (.bool true) w := by kernel_rfl
theorem Tryz.asTypeOf (v : Value) (w : World) : (ReflectliteType.typeOf #[.iface 81 v]).run Tryz.prog w = .ok (.iface 285 (.agg #[.pointer (some ⟨7, 81, none⟩)])) w := by kernel_rfl
theorem Tryz.asAssignable (w : World) : (ReflectliteType.relation "AssignableTo" ReflectliteType.assignableTo #[.agg #[.pointer (some ⟨7, 81, none⟩)], .iface 285 (.agg #[.pointer (some ⟨7, 81, none⟩)])]).run Tryz.prog w = .ok (.bool true) w := by kernel_rfl
theorem Tryz.valueOfF (x y z : Value) (w : World) : (ReflectliteValue.unpack (.iface 81 (.agg #[x, y, z]))).run Tryz.prog w
    = .ok (.agg #[.pointer (some ⟨7, 81, none⟩), .pointer (some ⟨w.heap.size, 0, none⟩), .int .u64 153]) (w.alloc (.cells #[x, y, z] 81)) := by kernel_rfl
theorem Tryz.elemOfP (w : World) : (Rtype.elem? 242).run Tryz.prog w = .ok (some 81) w := by kernel_rfl
theorem Tryz.mkF (p : Addr) (w : World) : (ReflectliteValue.mk 81 p ReflectliteValue.flagAddr).run Tryz.prog w = .ok (.agg #[.pointer (some ⟨7, 81, none⟩), .pointer (some p), .int .u64 409]) w := by kernel_rfl
theorem Tryz.elemVP (a p : Addr) (W : World) (ha : W.cell? a = some (.pointer (some p))) :
    (ReflectliteValue.method (ReflectliteValue.valueError "reflectlite.Value.Elem" 0) ReflectliteValue.elem #[.agg #[.pointer (some ⟨7, 242, none⟩), .pointer (some a), .int .u64 150]]).run Tryz.prog W
      = .ok (.agg #[.pointer (some ⟨7, 81, none⟩), .pointer (some p), .int .u64 409]) W := by
  rw [rlm]
  simp only [Sem.run_bind, Tryz.partsP, Result.andThen]
  simp [ReflectliteValue.elem, loadVar, isAgg, underlying, Tryz.underlying242, ha, Result.andThen, Tryz.elemOfP, Tryz.mkF]
theorem rls (v x : Value) : ReflectliteValue.set #[v, x] = (do
    let (some (dst, a, fl), some (src, b, _)) := (← ReflectliteValue.parts v, ← ReflectliteValue.parts x)
      | unsupported (.noEntry "extern/(internal/reflectlite.Value).Set.zeroValue")
    if fl / ReflectliteValue.flagAddr % 2 == 0 then unsupported (.noEntry "extern/(internal/reflectlite.Value).Set.unaddressable")
    let val ← loadVar src b
    if ← Rtype.directlyAssignable dst src then storeVar dst a val
    else if ← Rtype.implements dst src then
      if (← Rtype.kind src) == 20 then
        match val with
        | .nilIface => unsupported (.noEntry "extern/reflectlite: a nil value of one interface type handed on as a value of another")
        | _ => storeVar dst a val
      else storeVar dst a (.iface src val)
    else panicString ("reflectlite.Set: value of type " ++ (← Rtype.spelt src) ++ " is not assignable to type " ++ (← Rtype.spelt dst))
    pure (.tuple #[])) := rfl
theorem Tryz.partsFa (a : Addr) (w : World) : (ReflectliteValue.parts (.agg #[.pointer (some ⟨7, 81, none⟩), .pointer (some a), .int .u64 409])).run Tryz.prog w = .ok (some (81, a, 409)) w := by kernel_rfl
theorem Tryz.partsF (a : Addr) (w : World) : (ReflectliteValue.parts (.agg #[.pointer (some ⟨7, 81, none⟩), .pointer (some a), .int .u64 153])).run Tryz.prog w = .ok (some (81, a, 153)) w := by kernel_rfl
theorem Tryz.directF (w : World) : (Rtype.directlyAssignable 81 81).run Tryz.prog w = .ok true w := by kernel_rfl
theorem Tryz.sizeF (w : World) : (sizeOf 81).run Tryz.prog w = .ok 3 w := by kernel_rfl
theorem Tryz.aggF (w : World) : (isAgg 81).run Tryz.prog w = .ok true w := by kernel_rfl
/-- (Value).Set: the Fault variable gets what the Value's own variable holds. -/
theorem Tryz.setF (tb vb : Nat) (xi yi zi : Int) {x y z : Value} (x' y' z' : Value) (hx : x = .int .i64 xi) (hy : y = .int .i64 yi) (hz : z = .int .i64 zi) (W : World) (h0 : W.cell? ⟨vb, 0, none⟩ = some x) (h1 : W.cell? ⟨vb, 1, none⟩ = some y) (h2 : W.cell? ⟨vb, 2, none⟩ = some z)
    (t0 : W.cell? ⟨tb, 0, none⟩ = some x') (t1 : W.cell? ⟨tb, 1, none⟩ = some y') (t2 : W.cell? ⟨tb, 2, none⟩ = some z')
    (f0 : W.frozen? ⟨tb, 0, none⟩ = false) (f1 : W.frozen? ⟨tb, 1, none⟩ = false) (f2 : W.frozen? ⟨tb, 2, none⟩ = false) :
    (ReflectliteValue.set #[.agg #[.pointer (some ⟨7, 81, none⟩), .pointer (some ⟨tb, 0, none⟩), .int .u64 409], .agg #[.pointer (some ⟨7, 81, none⟩), .pointer (some ⟨vb, 0, none⟩), .int .u64 153]]).run Tryz.prog W
      = .ok (.tuple #[]) (((W.setCell ⟨tb, 0, none⟩ x).setCell ⟨tb, 1, none⟩ y).setCell ⟨tb, 2, none⟩ z) := by
  rw [rls]
  simp only [Sem.run_bind, Tryz.partsFa, Tryz.partsF, Result.andThen]
  simp [ReflectliteValue.flagAddr, loadVar, Tryz.aggF, Tryz.sizeF, loadCells, loadCellsFrom, add_lit, h0, h1, h2, Result.andThen, Tryz.directF, storeVar, Value.cells, storeCells]
  have g1 : (W.setCell ⟨tb, 0, none⟩ x).cell? ⟨tb, 1, none⟩ = some y' := (World.cell?_setCell_other W _ _ x (by simp)).trans t1
  have g2 : ((W.setCell ⟨tb, 0, none⟩ x).setCell ⟨tb, 1, none⟩ y).cell? ⟨tb, 2, none⟩ = some z' := (World.cell?_setCell_other _ _ _ y (by simp)).trans ((World.cell?_setCell_other W _ _ x (by simp)).trans t2)
  subst hx hy hz
  rw [run_store Tryz.prog W _ _ _ (by rfl)]
  simp only [t0, f0, Bool.false_eq_true, ↓reduceIte]
  rw [run_store Tryz.prog _ _ _ _ (by rfl)]
  simp only [g1, World.frozen?_setCell, f1, Bool.false_eq_true, ↓reduceIte]
  rw [run_store Tryz.prog _ _ _ _ (by rfl)]
  simp [g2, World.frozen?_setCell, f2]

set_option maxRecDepth 100000 in
set_option maxHeartbeats 4000000 in
/-- errors.As of a Fault: the variable gets it. -/
theorem as_hit (no line k : Int) (x' y' z' : Value) (tb : Nat) (w : World) (hg : w.cell? ⟨0, 0, none⟩ = some (.iface 285 (.agg #[.pointer (some ⟨7, 27, none⟩)])))
    (t0 : w.cell? ⟨tb, 0, none⟩ = some x') (t1 : w.cell? ⟨tb, 1, none⟩ = some y') (t2 : w.cell? ⟨tb, 2, none⟩ = some z')
    (f0 : w.frozen? ⟨tb, 0, none⟩ = false) (f1 : w.frozen? ⟨tb, 1, none⟩ = false) (f2 : w.frozen? ⟨tb, 2, none⟩ = false) :
    Calls Tryz.prog 129 #[.iface 81 (.agg #[.int .i64 no, .int .i64 line, .int .i64 k]), .iface 242 (.pointer (some ⟨tb, 0, none⟩))] w fun ev w' => ev = .returned (.bool true) ∧
      w' = (((((((w.alloc (.cells #[.pointer (some ⟨tb, 0, none⟩)] 242)).alloc (.cells #[.pointer (some ⟨7, 242, none⟩), .pointer (some ⟨w.heap.size, 0, none⟩), .int .u64 150] 264)).alloc (.cells #[.pointer (some ⟨7, 242, none⟩), .pointer (some ⟨w.heap.size, 0, none⟩), .int .u64 150] 264)).alloc (.cells #[.int .i64 no, .int .i64 line, .int .i64 k] 81)).setCell ⟨tb, 0, none⟩ (.int .i64 no)).setCell ⟨tb, 1, none⟩ (.int .i64 line)).setCell ⟨tb, 2, none⟩ (.int .i64 k)) := by
  have h6 := @run_callFunc_extern Tryz.prog 150 _ (fun args => ReflectliteValue.unpack (args.getD 0 (.tuple #[]))) Tryz.func150 (by kernel_rfl) (by kernel_rfl) (by kernel_rfl) (by kernel_rfl)
  have h7 := @run_callFunc_extern Tryz.prog 151 _ (ReflectliteValue.methodAny (ReflectliteValue.valueError "reflectlite.Value.Type" 0) (fun t _ _ _ => ReflectliteType.toType t)) Tryz.func151 (by kernel_rfl) (by kernel_rfl) (by kernel_rfl) (by kernel_rfl)
  have h8 := @run_callFunc_extern Tryz.prog 152 _ (ReflectliteValue.method (ReflectliteValue.valueError "reflectlite.Value.IsNil" 0) ReflectliteValue.isNil) Tryz.func152 (by kernel_rfl) (by kernel_rfl) (by kernel_rfl) (by kernel_rfl)
  have h27 := @run_callFunc_extern Tryz.prog 208 _ (ReflectliteType.abiMethod fun t => do pure (.int .u8 (← Rtype.kind t))) Tryz.func208 (by kernel_rfl) (by kernel_rfl) (by kernel_rfl) (by kernel_rfl)
  have h37 := @run_callFunc_extern Tryz.prog 221 _ (ReflectliteType.method ReflectliteType.elem) Tryz.func221 (by kernel_rfl) (by kernel_rfl) (by kernel_rfl) (by kernel_rfl)
  have h38 := @run_callFunc_extern Tryz.prog 222 _ (ReflectliteType.relation "Implements" ReflectliteType.implements_) Tryz.func222 (by kernel_rfl) (by kernel_rfl) (by kernel_rfl) (by kernel_rfl)
  have h10 := @run_callFunc_extern Tryz.prog 154 _ ReflectliteType.typeOf Tryz.func154 (by kernel_rfl) (by kernel_rfl) (by kernel_rfl) (by kernel_rfl)
  have h35 := @run_callFunc_extern Tryz.prog 219 _ (ReflectliteType.relation "AssignableTo" ReflectliteType.assignableTo) Tryz.func219 (by kernel_rfl) (by kernel_rfl) (by kernel_rfl) (by kernel_rfl)
  have h11 := @run_callFunc_extern Tryz.prog 169 _ (ReflectliteValue.method (ReflectliteValue.valueError "reflectlite.Value.Elem" 0) ReflectliteValue.elem) Tryz.func169 (by kernel_rfl) (by kernel_rfl) (by kernel_rfl) (by kernel_rfl)
  have h12 := @run_callFunc_extern Tryz.prog 170 _ ReflectliteValue.set Tryz.func170 (by kernel_rfl) (by kernel_rfl) (by kernel_rfl) (by kernel_rfl)
  have tO := Tryz.asTypeOf
  have mA := Tryz.asMethodAssignableTo
  have a25 := Tryz.asAssignable
  have v25 := Tryz.valueOfF
  have f6 := Tryz.valueOfP
  have f7 := Tryz.typeP
  have mK := Tryz.asMethodKind
  have mE := Tryz.asMethodElem
  have mI := Tryz.asMethodImplements
  have k27 := Tryz.asKindP
  have k25 := Tryz.asKindF
  have e27 := Tryz.asElem
  have i25 := Tryz.asImplements
  have hlt : 0 < w.heap.size := World.block_lt_of_cell? w _ hg
  have htl : tb < w.heap.size := World.block_lt_of_cell? w _ t0
  have z1 : (w.alloc (.cells #[.pointer (some ⟨tb, 0, none⟩)] 242)).heap.size = w.heap.size + 1 := by simp
  have z2 : ((w.alloc (.cells #[.pointer (some ⟨tb, 0, none⟩)] 242)).alloc (.cells #[.pointer (some ⟨7, 242, none⟩), .pointer (some ⟨w.heap.size, 0, none⟩), .int .u64 150] 264)).heap.size = w.heap.size + 1 + 1 := by simp
  have z3 : (((w.alloc (.cells #[.pointer (some ⟨tb, 0, none⟩)] 242)).alloc (.cells #[.pointer (some ⟨7, 242, none⟩), .pointer (some ⟨w.heap.size, 0, none⟩), .int .u64 150] 264)).alloc (.cells #[.pointer (some ⟨7, 242, none⟩), .pointer (some ⟨w.heap.size, 0, none⟩), .int .u64 150] 264)).heap.size = w.heap.size + 1 + 1 + 1 := by simp
  have o4 : ∀ o v, w.cell? ⟨tb, o, none⟩ = some v → ((((w.alloc (.cells #[.pointer (some ⟨tb, 0, none⟩)] 242)).alloc (.cells #[.pointer (some ⟨7, 242, none⟩), .pointer (some ⟨w.heap.size, 0, none⟩), .int .u64 150] 264)).alloc (.cells #[.pointer (some ⟨7, 242, none⟩), .pointer (some ⟨w.heap.size, 0, none⟩), .int .u64 150] 264)).alloc (.cells #[.int .i64 no, .int .i64 line, .int .i64 k] 81)).cell? ⟨tb, o, none⟩ = some v := fun o v h => by
    rw [World.cell?_alloc_lt _ _ ⟨tb, o, none⟩ (by simp; omega), World.cell?_alloc_lt _ _ ⟨tb, o, none⟩ (by simp; omega), World.cell?_alloc_lt _ _ ⟨tb, o, none⟩ (by simp; omega), World.cell?_alloc_lt _ _ ⟨tb, o, none⟩ htl]; exact h
  have p4 : ∀ o, w.frozen? ⟨tb, o, none⟩ = false → ((((w.alloc (.cells #[.pointer (some ⟨tb, 0, none⟩)] 242)).alloc (.cells #[.pointer (some ⟨7, 242, none⟩), .pointer (some ⟨w.heap.size, 0, none⟩), .int .u64 150] 264)).alloc (.cells #[.pointer (some ⟨7, 242, none⟩), .pointer (some ⟨w.heap.size, 0, none⟩), .int .u64 150] 264)).alloc (.cells #[.int .i64 no, .int .i64 line, .int .i64 k] 81)).frozen? ⟨tb, o, none⟩ = false := fun o h => by
    rw [World.frozen?_alloc_old _ _ ⟨tb, o, none⟩ (by simp; omega), World.frozen?_alloc_old _ _ ⟨tb, o, none⟩ (by simp; omega), World.frozen?_alloc_old _ _ ⟨tb, o, none⟩ (by simp; omega), World.frozen?_alloc_old _ _ ⟨tb, o, none⟩ (Nat.ne_of_lt htl)]; exact h
  have n8 := Tryz.isNilP ⟨w.heap.size, 0, none⟩ ⟨tb, 0, none⟩ ((w.alloc (.cells #[.pointer (some ⟨tb, 0, none⟩)] 242)).alloc (.cells #[.pointer (some ⟨7, 242, none⟩), .pointer (some ⟨w.heap.size, 0, none⟩), .int .u64 150] 264)) (by rw [World.cell?_alloc_lt _ _ ⟨w.heap.size, 0, none⟩ (by simp)]; simp)
  have hg2 : ((w.alloc (.cells #[.pointer (some ⟨tb, 0, none⟩)] 242)).alloc (.cells #[.pointer (some ⟨7, 242, none⟩), .pointer (some ⟨w.heap.size, 0, none⟩), .int .u64 150] 264)).cell? ⟨0, 0, none⟩ = some (.iface 285 (.agg #[.pointer (some ⟨7, 27, none⟩)])) := by
    rw [World.cell?_alloc_lt _ _ ⟨0, 0, none⟩ (by simp), World.cell?_alloc_lt _ _ ⟨0, 0, none⟩ hlt]; exact hg
  have el := Tryz.elemVP ⟨w.heap.size, 0, none⟩ ⟨tb, 0, none⟩ (((w.alloc (.cells #[.pointer (some ⟨tb, 0, none⟩)] 242)).alloc (.cells #[.pointer (some ⟨7, 242, none⟩), .pointer (some ⟨w.heap.size, 0, none⟩), .int .u64 150] 264)).alloc (.cells #[.pointer (some ⟨7, 242, none⟩), .pointer (some ⟨w.heap.size, 0, none⟩), .int .u64 150] 264)) (by rw [World.cell?_alloc_lt _ _ ⟨w.heap.size, 0, none⟩ (by simp; omega), World.cell?_alloc_lt _ _ ⟨w.heap.size, 0, none⟩ (by simp)]; simp)
  have st := Tryz.setF tb (w.heap.size + 1 + 1 + 1) no line k x' y' z' rfl rfl rfl ((((w.alloc (.cells #[.pointer (some ⟨tb, 0, none⟩)] 242)).alloc (.cells #[.pointer (some ⟨7, 242, none⟩), .pointer (some ⟨w.heap.size, 0, none⟩), .int .u64 150] 264)).alloc (.cells #[.pointer (some ⟨7, 242, none⟩), .pointer (some ⟨w.heap.size, 0, none⟩), .int .u64 150] 264)).alloc (.cells #[.int .i64 no, .int .i64 line, .int .i64 k] 81))
    (by rw [World.cell?_alloc_at _ _ _ _ (by simp)]; rfl) (by rw [World.cell?_alloc_at _ _ _ _ (by simp)]; rfl) (by rw [World.cell?_alloc_at _ _ _ _ (by simp)]; rfl)
    (o4 0 _ t0) (o4 1 _ t1) (o4 2 _ t2) (p4 0 f0) (p4 1 f1) (p4 2 f2)
  go_enter Tryz.func129, Tryz.ntmps129
  go_wp2
  refine wp_loop_rounds 1 ?_
  rw [rounds_succ]
  go_wp2
  go_ret
  exact ⟨rfl, rfl⟩
end Go.Proofs.YtmbjjheaddhmeaaGreatDoor

namespace Go.Proofs.YtmbjjheaddhmeaaGreatDoor
open Go.RowKit

theorem num_nil (w : World) : Calls Tryz.prog 86 #[.nilIface] w fun e w' => e = .returned (.int .i64 0) ∧ w' = w := by
  go_enter Tryz.func86, Tryz.ntmps86
  go_wp2
  go_ret
  exact ⟨rfl, rfl⟩

theorem is_fault' (no line k n : Int) (w : World) :
    Calls Tryz.prog 130 #[.iface 81 (.agg #[.int .i64 no, .int .i64 line, .int .i64 k]), .iface 79 (.int .i64 n)] w fun e w' => e = .returned (.bool (no == n)) ∧ Below w.heap.size w w' :=
  (is_fault no line k n w).mono fun _ _ ⟨he, hw⟩ => ⟨he, hw ▸ (Below.refl _ w).alloc (Nat.le_refl _) _⟩

set_option maxRecDepth 100000 in
set_option maxHeartbeats 4000000 in
/-- The number of a Fault. -/
theorem num_fault (no line k : Int) (w : World) (h1 : 1 ≤ no) (h2 : no ≤ 25) :
    Calls Tryz.prog 86 #[.iface 81 (.agg #[.int .i64 no, .int .i64 line, .int .i64 k])] w fun e w' => e = .returned (.int .i64 no) ∧ Below w.heap.size w w' := by
  have hne : (no == 0) = false := by simp; omega
  go_enter Tryz.func86, Tryz.ntmps86
  go_wp2
  go_loopg [3, 4] 25 (fun g f i wr => ∃ c : Nat, i = .int .i64 c ∧ 1 ≤ c ∧ c ≤ 26 ∧ 26 - c ≤ g ∧ f = .int .i64 (if no < c then no else 0) ∧ Below w.heap.size w wr)
  case atStart => exact ⟨1, rfl, by omega, by omega, by omega, by rw [if_neg (by omega)], Below.refl _ _⟩
  case round =>
    obtain ⟨c, rfl, hc1, hc2, hg, rfl, hb⟩ := hrel
    by_cases hc : c ≤ 25
    · have hcl : (c : Int) ≤ 25 := by omega
      have hs := hb.size
      by_cases hlt : no < (c : Int)
      · rw [if_pos hlt]
        have hq : (no == (c : Int)) = false := by simp; omega
        go_wp2_with (go_at_call 130; refine (is_fault' _ line k c _).mono ?_; rw [hq]; rintro e w1 ⟨rfl, hB1⟩)
        go_roundg (gk - 1)
        case measure => omega
        case rel => exact ⟨c + 1, by go_num, by omega, by omega, by omega, by rw [if_pos (by omega)], hb.trans (hB1.mono hs)⟩
      · rw [if_neg hlt]
        by_cases he : no = (c : Int)
        · subst he
          have hq : ((c : Int) == (c : Int)) = true := beq_self_eq_true _
          clear hlt hne
          go_wp2_with (go_at_call 130; refine (is_fault' _ line k c _).mono ?_; rw [hq]; rintro e w1 ⟨rfl, hB1⟩)
          go_roundg (gk - 1)
          case measure => omega
          case rel => exact ⟨c + 1, by go_num, by omega, by omega, by omega, by rw [if_pos (by omega)], hb.trans (hB1.mono hs)⟩
        · have hq : (no == (c : Int)) = false := by simp; omega
          go_wp2_with (go_at_call 130; refine (is_fault' _ line k c _).mono ?_; rw [hq]; rintro e w1 ⟨rfl, hB1⟩)
          go_roundg (gk - 1)
          case measure => omega
          case rel => exact ⟨c + 1, by go_num, by omega, by omega, by omega, by rw [if_neg (by omega)], hb.trans (hB1.mono hs)⟩
    · obtain rfl : c = 26 := by omega
      rw [if_pos (by omega)]
      have hs := hb.size
      go_wp2_with (go_at_call 130; refine (is_fault' _ line k 0 _).mono ?_; rw [hne]; rintro e w1 ⟨rfl, hB1⟩)
      go_ret
      exact ⟨rfl, hb.trans (hB1.mono hs)⟩

/-- The package errors' own variable: the type 'error'. -/
def ErrT (w : World) : Prop := w.cell? ⟨0, 0, none⟩ = some (.iface 285 (.agg #[.pointer (some ⟨7, 27, none⟩)]))
theorem ErrT.below {w w' : World} (hb : Below w.heap.size w w') (h : ErrT w) : ErrT w' := (hb.cell (p := ⟨0, 0, none⟩) (cell_lt h)).trans h

theorem as_fault (no line k : Int) (w : World) (hg : ErrT w) :
    Calls Tryz.prog 129 #[.iface 81 (.agg #[.int .i64 no, .int .i64 line, .int .i64 k]), .iface 242 (.pointer (some ⟨w.heap.size, 0, none⟩))] (w.alloc (.cells #[.int .i64 0, .int .i64 0, .int .i64 0] 81)) fun ev w' => ev = .returned (.bool true) ∧
      w'.cell? ⟨w.heap.size, 0, none⟩ = some (.int .i64 no) ∧ w'.cell? ⟨w.heap.size, 1, none⟩ = some (.int .i64 line) ∧ w'.cell? ⟨w.heap.size, 2, none⟩ = some (.int .i64 k) ∧ Below w.heap.size w w' := by
  have b1 := (Below.refl w.heap.size w).alloc (Nat.le_refl _) (.cells #[.int .i64 0, .int .i64 0, .int .i64 0] 81)
  refine (as_hit no line k _ _ _ w.heap.size (w.alloc (.cells #[.int .i64 0, .int .i64 0, .int .i64 0] 81)) (hg.below b1) (World.cell?_alloc_at _ _ _ _ rfl) (World.cell?_alloc_at _ _ _ _ rfl) (World.cell?_alloc_at _ _ _ _ rfl) (by simp) (by simp) (by simp)).mono ?_
  rintro ev w' ⟨rfl, rfl⟩
  generalize hX : ((((w.alloc (.cells #[.int .i64 0, .int .i64 0, .int .i64 0] 81)).alloc _).alloc _).alloc _).alloc _ = X
  have bX : Below w.heap.size w X := by
    rw [← hX]
    exact ((((b1.alloc (by simp) _).alloc (by simp; omega) _).alloc (by simp; omega) _).alloc (by simp; omega) _)
  have x0 : ∀ o, o < 3 → X.cell? ⟨w.heap.size, o, none⟩ = some (.int .i64 0) := fun o ho => by
    rw [← hX, World.cell?_alloc_lt _ _ ⟨w.heap.size, o, none⟩ (by simp; omega), World.cell?_alloc_lt _ _ ⟨w.heap.size, o, none⟩ (by simp; omega), World.cell?_alloc_lt _ _ ⟨w.heap.size, o, none⟩ (by simp; omega), World.cell?_alloc_lt _ _ ⟨w.heap.size, o, none⟩ (by simp)]
    have : o = 0 ∨ o = 1 ∨ o = 2 := by omega
    rcases this with rfl | rfl | rfl <;> exact World.cell?_alloc_at _ _ _ _ rfl
  clear hX
  have y1 := (World.cell?_setCell_other X ⟨w.heap.size, 0, none⟩ ⟨w.heap.size, 1, none⟩ (.int .i64 no) (by simp)).trans (x0 1 (by omega))
  have y2 := (World.cell?_setCell_other X ⟨w.heap.size, 0, none⟩ ⟨w.heap.size, 2, none⟩ (.int .i64 no) (by simp)).trans (x0 2 (by omega))
  have y0 := World.cell?_setCell_same X ⟨w.heap.size, 0, none⟩ (.int .i64 no) (x0 0 (by omega))
  have bY := bX.setCell (p := ⟨w.heap.size, 0, none⟩) (Nat.le_refl _) (.int .i64 no)
  generalize X.setCell ⟨w.heap.size, 0, none⟩ (.int .i64 no) = Y at *
  have z0 := (World.cell?_setCell_other Y ⟨w.heap.size, 1, none⟩ ⟨w.heap.size, 0, none⟩ (.int .i64 line) (by simp)).trans y0
  have z2 := (World.cell?_setCell_other Y ⟨w.heap.size, 1, none⟩ ⟨w.heap.size, 2, none⟩ (.int .i64 line) (by simp)).trans y2
  have z1 := World.cell?_setCell_same Y ⟨w.heap.size, 1, none⟩ (.int .i64 line) y1
  have bZ := bY.setCell (p := ⟨w.heap.size, 1, none⟩) (Nat.le_refl _) (.int .i64 line)
  generalize Y.setCell ⟨w.heap.size, 1, none⟩ (.int .i64 line) = Z at *
  exact ⟨rfl, (World.cell?_setCell_other Z ⟨w.heap.size, 2, none⟩ ⟨w.heap.size, 0, none⟩ (.int .i64 k) (by simp)).trans z0, (World.cell?_setCell_other Z ⟨w.heap.size, 2, none⟩ ⟨w.heap.size, 1, none⟩ (.int .i64 k) (by simp)).trans z1,
    World.cell?_setCell_same Z ⟨w.heap.size, 2, none⟩ (.int .i64 k) z2, bZ.setCell (p := ⟨w.heap.size, 2, none⟩) (Nat.le_refl _) (.int .i64 k)⟩

set_option maxRecDepth 100000 in
set_option maxHeartbeats 4000000 in
/-- The place that a Fault tells. -/
theorem place_fault (no line k : Int) (w : World) (h1 : 1 ≤ no) (h2 : no ≤ 25) (hg : ErrT w) :
    Calls Tryz.prog 85 #[.iface 81 (.agg #[.int .i64 no, .int .i64 line, .int .i64 k])] w fun e w' => e = .returned (.tuple #[.int .i64 line, .int .i64 k, .bool true]) ∧ Below w.heap.size w w' := by
  have HG := Lib.hid hg
  go_enter Tryz.func85, Tryz.ntmps85
  go_wp2_with (go_at_call 129; refine (as_fault no line k w HG.out).mono ?_; rintro e w1 ⟨rfl, c0, c1, c2, hB1⟩)
  refine wp_region_cls (AbW w1) (by kernel_rfl) (by kernel_rfl) (AbW.drew w1) ?_
  have hne := AbW.there w1
  have k0 := AbW.cell c0
  have k1 := AbW.cell c1
  have k2 := AbW.cell c2
  repeat (go_big_quiet_step ((first
    | (go_at_call 86; rename_i u; exact cls_call AbW.keep (num_fault no line k _ h1 h2)))))
  refine wpQuiet_nil ?_
  rintro _ ⟨u, rfl⟩
  have hu := Lib.hid u.ok
  go_wp2_with fail
  go_ret3
  exact ⟨rfl, hB1.trans (hu.out.mono hB1.size)⟩

set_option maxRecDepth 100000 in
set_option maxHeartbeats 4000000 in
theorem at_fault (no line k : Int) (w : World) (h1 : 1 ≤ no) (h2 : no ≤ 25) (hg : ErrT w) :
    Calls Tryz.prog 36 #[.iface 81 (.agg #[.int .i64 no, .int .i64 line, .int .i64 k]), .int .i64 no, .int .i64 line, .int .i64 k] w fun e w' => e = .returned (.bool true) ∧ Below w.heap.size w w' := by
  have HG := Lib.hid hg
  have hn0 : (no == 0) = false := by simp; omega
  go_enter Tryz.func36, Tryz.ntmps36
  go_wp2_with (first
    | (go_at_call 86; refine (num_fault no line k _ h1 h2).mono ?_; rintro e w2 ⟨rfl, hB2⟩)
    | (go_at_call 85; refine (place_fault no line k w h1 h2 HG.out).mono ?_; rintro e w1 ⟨rfl, hB1⟩))
  go_ret
  exact ⟨rfl, hB1.trans (hB2.mono hB1.size)⟩

theorem told_nil (k : Int) (w : World) : Calls Tryz.prog 11 #[.nilIface, .int .i64 0, .int .i64 k] w fun e w' => e = .returned (.bool true) ∧ Below w.heap.size w w' := by
  go_enter Tryz.func11, Tryz.ntmps11
  go_wp2
  go_ret
  exact ⟨rfl, Below.refl _ _⟩

theorem told_fault (no k : Int) (w : World) (h1 : 1 ≤ no) (h2 : no ≤ 25) (hg : ErrT w) :
    Calls Tryz.prog 11 #[.iface 81 (.agg #[.int .i64 no, .int .i64 0, .int .i64 k]), .int .i64 no, .int .i64 k] w fun e w' => e = .returned (.bool true) ∧ Below w.heap.size w w' := by
  have HG := Lib.hid hg
  have hn0 : (no == 0) = false := by simp; omega
  go_enter Tryz.func11, Tryz.ntmps11
  go_wp2_with (go_at_call 36; refine (at_fault no 0 k w h1 h2 HG.out).mono ?_; rintro e w1 ⟨rfl, hB1⟩)
  go_ret
  exact ⟨rfl, hB1⟩
end Go.Proofs.YtmbjjheaddhmeaaGreatDoor
