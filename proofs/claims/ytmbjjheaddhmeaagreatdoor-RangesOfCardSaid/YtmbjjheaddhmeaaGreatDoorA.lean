/- Contracts of the small functions of ranges. -/
import Derived.Test.YtmbjjheaddhmeaaGreatDoorRows
import Derived.WalkKit
import Derived.WalkSpells
import Derived.WalkLawsBesides
namespace Go.Proofs.YtmbjjheaddhmeaaGreatDoor
open Go.RowKit

def ptB (r : Int) : Bool := decide ((0 ≤ r ∧ r < 55296) ∨ (57344 ≤ r ∧ r ≤ 1114111) ∨ (1114240 ≤ r ∧ r ≤ 1114367))
def nextP (r : Int) : Int := if r = 55295 then 57344 else if r = 1114111 then 1114240 else r + 1
def lastP (r : Int) : Int := if r = 57344 then 55295 else if r = 1114240 then 1114111 else r - 1
def numP (r : Int) : Int := if 1114112 ≤ r then r - 2176 else if 57344 ≤ r then r - 2048 else r

theorem ret_b {a b : Bool} (h : a = b) : Ending.returned (.bool a) = .returned (.bool b) := by rw [h]
theorem ret_i {k : IntKind} {a b : Int} (h : a = b) : Ending.returned (.int k a) = .returned (.int k b) := by rw [h]

set_option maxHeartbeats 400000 in
theorem point_any (r : Int) (w : World) :
    Calls Tryz.prog 31 #[.int .i32 r] w fun e w' => e = .returned (.bool (ptB r)) ∧ w = w' := by
  go_enter Tryz.func31, Tryz.ntmps31
  go_wp2
  all_goals (go_ret; refine ⟨ret_b ?_, rfl⟩; rw [Bool.eq_iff_iff]; simp [ptB]; omega)

set_option maxHeartbeats 400000 in
theorem next_any (r : Int) (h0 : 0 ≤ r) (h1 : r ≤ 1114367) (w : World) :
    Calls Tryz.prog 74 #[.int .i32 r] w fun e w' => e = .returned (.int .i32 (nextP r)) ∧ w = w' := by
  go_enter Tryz.func74, Tryz.ntmps74
  go_wp2
  all_goals (go_ret; exact ⟨ret_i (by simp only [beq_iff_eq, beq_eq_false_iff_ne] at *; unfold nextP; (repeat' split) <;> omega), rfl⟩)

set_option maxHeartbeats 400000 in
theorem last_any (r : Int) (h0 : 0 ≤ r) (h1 : r ≤ 1114367) (w : World) :
    Calls Tryz.prog 73 #[.int .i32 r] w fun e w' => e = .returned (.int .i32 (lastP r)) ∧ w = w' := by
  go_enter Tryz.func73, Tryz.ntmps73
  go_wp2
  all_goals (go_ret; exact ⟨ret_i (by simp only [beq_iff_eq, beq_eq_false_iff_ne] at *; unfold lastP; (repeat' split) <;> omega), rfl⟩)

set_option maxHeartbeats 400000 in
theorem number_any (r : Int) (h0 : 0 ≤ r) (h1 : r ≤ 1114367) (w : World) :
    Calls Tryz.prog 92 #[.int .i32 r] w fun e w' => e = .returned (.int .i64 (numP r)) ∧ w = w' := by
  go_enter Tryz.func92, Tryz.ntmps92
  go_wp2
  all_goals (go_ret; exact ⟨ret_i (by unfold numP; (repeat' split) <;> omega), rfl⟩)

set_option maxHeartbeats 400000 in
theorem hasCmp_any (a b r : Int) (w : World) :
    Calls Tryz.prog 94 #[.agg #[.int .i32 a, .int .i32 b], .int .i32 r] w fun e w' => e = .returned (.int .i64 (wrap32 (a - r))) ∧ w.alloc (.cells #[.int .i32 a, .int .i32 b] 39) = w' := by
  go_enter Tryz.func94, Tryz.ntmps94
  go_wp2
  go_ret
  exact ⟨ret_i (by simp [wrap32, wrap64]; omega), rfl⟩

set_option maxHeartbeats 400000 in
theorem tidyCmp_any (a b c d : Int) (ha : 0 ≤ a) (ha' : a ≤ 1114367) (hc : 0 ≤ c) (hc' : c ≤ 1114367) (w : World) :
    Calls Tryz.prog 84 #[.agg #[.int .i32 a, .int .i32 b], .agg #[.int .i32 c, .int .i32 d]] w fun e w' => e = .returned (.int .i64 (a - c)) ∧ (w.alloc (.cells #[.int .i32 a, .int .i32 b] 39)).alloc (.cells #[.int .i32 c, .int .i32 d] 39) = w' := by
  go_enter Tryz.func84, Tryz.ntmps84
  go_wp2
  go_ret
  exact ⟨rfl, rfl⟩

theorem Tryz.fieldsSpan : (Tryz.prog.fieldsOf 39).toList = [{ name := "Lo", type := 21, offset := 0, embedded := false, tag := "", pkgPath := "", byteOffset := 0 }, { name := "Hi", type := 21, offset := 1, embedded := false, tag := "", pkgPath := "", byteOffset := 4 }] := by kernel_rfl
theorem eqIn_span (d : Nat) (w : World) (p q r s : Int) : (Op.equalIn (d + 2) 39 (.agg #[.int .i32 p, .int .i32 q]) (.agg #[.int .i32 r, .int .i32 s])).run Tryz.prog w = .ok (p == r && q == s) w := by
  rw [run_equalIn_struct _ _ _ _ _ (by kernel_rfl) (by kernel_rfl), Tryz.fieldsSpan]
  by_cases h1 : (p == r) = true <;> by_cases h2 : (q == s) = true <;> simp [Op.eqFields, go_sem, h1, h2, Tryz.underlying21, part, Tryz.sizeOf21, Tryz.isAgg21]
theorem neq_span (w : World) (p q r s : Int) : (binOp .neq 39 (.agg #[.int .i32 p, .int .i32 q]) (.agg #[.int .i32 r, .int .i32 s])).run Tryz.prog w = .ok (.bool (!(p == r && q == s))) w := by
  rw [run_neq_struct, eqIn_span 9998]; rfl
theorem neqG_span (w : World) (x y : Operand) (p q r s : Int) : (eqGuard .neq 39 x y (.agg #[.int .i32 p, .int .i32 q]) (.agg #[.int .i32 r, .int .i32 s])).run Tryz.prog w = .ok () w :=
  run_eqGuard_agg _ _ _ _ _ _ _ (by kernel_rfl)

end Go.Proofs.YtmbjjheaddhmeaaGreatDoor
