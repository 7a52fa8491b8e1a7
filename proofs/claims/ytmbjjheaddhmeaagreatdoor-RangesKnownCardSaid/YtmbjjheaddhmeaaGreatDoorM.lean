/- Contracts of the small functions of ranges. Memory words: a slice of spans, a set behind a pointer. -/
import Derived.Test.YtmbjjheaddhmeaaGreatDoorRows
import Derived.Test.YtmbjjheaddhmeaaGreatDoorMem
namespace Go.Proofs.YtmbjjheaddhmeaaGreatDoor
open Go.RowKit

def ptB (r : Int) : Bool := decide ((0 ≤ r ∧ r < 55296) ∨ (57344 ≤ r ∧ r ≤ 1114111) ∨ (1114240 ≤ r ∧ r ≤ 1114367))
def nextP (r : Int) : Int := if r = 55295 then 57344 else if r = 1114111 then 1114240 else r + 1
def lastP (r : Int) : Int := if r = 57344 then 55295 else if r = 1114240 then 1114111 else r - 1
def numP (r : Int) : Int := if 1114112 ≤ r then r - 2176 else if 57344 ≤ r then r - 2048 else r

set_option maxHeartbeats 400000 in
theorem point_any (r : Int) (w : World) :
    Calls Tryz.prog 31 #[.int .i32 r] w fun e w' => e = .returned (.bool (ptB r)) ∧ w = w' := by
  go_enter Tryz.func31, Tryz.ntmps31
  go_wp2
  all_goals (go_ret; refine ⟨ret_b ?_, rfl⟩; rw [Bool.eq_iff_iff]; simp [ptB]; omega)

set_option maxHeartbeats 400000 in
theorem next_any (r : Int) (h0 : 0 ≤ r) (h1 : r ≤ 1114367) (w : World) :
    Calls Tryz.prog 74 #[.int .i32 r] w fun e w' => e = .returned (.int .i32 (nextP r)) ∧ w = w' := by
  go_enter Tryz.func74, Tryz.ntmps74
  go_wp2
  all_goals (go_ret; exact ⟨ret_i (by simp only [beq_iff_eq, beq_eq_false_iff_ne] at *; unfold nextP; (repeat' split) <;> omega), rfl⟩)

set_option maxHeartbeats 400000 in
theorem last_any (r : Int) (h0 : 0 ≤ r) (h1 : r ≤ 1114367) (w : World) :
    Calls Tryz.prog 73 #[.int .i32 r] w fun e w' => e = .returned (.int .i32 (lastP r)) ∧ w = w' := by
  go_enter Tryz.func73, Tryz.ntmps73
  go_wp2
  all_goals (go_ret; exact ⟨ret_i (by simp only [beq_iff_eq, beq_eq_false_iff_ne] at *; unfold lastP; (repeat' split) <;> omega), rfl⟩)

set_option maxHeartbeats 400000 in
theorem number_any (r : Int) (h0 : 0 ≤ r) (h1 : r ≤ 1114367) (w : World) :
    Calls Tryz.prog 92 #[.int .i32 r] w fun e w' => e = .returned (.int .i64 (numP r)) ∧ w = w' := by
  go_enter Tryz.func92, Tryz.ntmps92
  go_wp2
  all_goals (go_ret; exact ⟨ret_i (by unfold numP; (repeat' split) <;> omega), rfl⟩)

set_option maxHeartbeats 400000 in
theorem hasCmp_any (a b r : Int) (w : World) :
    Calls Tryz.prog 94 #[.agg #[.int .i32 a, .int .i32 b], .int .i32 r] w fun e w' => e = .returned (.int .i64 (wrap32 (a - r))) ∧ w.alloc (.cells #[.int .i32 a, .int .i32 b] 39) = w' := by
  go_enter Tryz.func94, Tryz.ntmps94
  go_wp2
  go_ret
  exact ⟨ret_i (by simp [wrap32, wrap64]; omega), rfl⟩

set_option maxHeartbeats 400000 in
theorem tidyCmp_any (a b c d : Int) (ha : 0 ≤ a) (ha' : a ≤ 1114367) (hc : 0 ≤ c) (hc' : c ≤ 1114367) (w : World) :
    Calls Tryz.prog 84 #[.agg #[.int .i32 a, .int .i32 b], .agg #[.int .i32 c, .int .i32 d]] w fun e w' => e = .returned (.int .i64 (a - c)) ∧ (w.alloc (.cells #[.int .i32 a, .int .i32 b] 39)).alloc (.cells #[.int .i32 c, .int .i32 d] 39) = w' := by
  go_enter Tryz.func84, Tryz.ntmps84
  go_wp2
  go_ret
  exact ⟨rfl, rfl⟩

theorem Tryz.fieldsSpan : (Tryz.prog.fieldsOf 39).toList = [{ name := "Lo", type := 21, offset := 0, embedded := false, tag := "", pkgPath := "", byteOffset := 0 }, { name := "Hi", type := 21, offset := 1, embedded := false, tag := "", pkgPath := "", byteOffset := 4 }] := by kernel_rfl
theorem eqIn_span (d : Nat) (w : World) (p q r s : Int) : (Op.equalIn (d + 2) 39 (.agg #[.int .i32 p, .int .i32 q]) (.agg #[.int .i32 r, .int .i32 s])).run Tryz.prog w = .ok (p == r && q == s) w := by
  rw [run_equalIn_struct _ _ _ _ _ (by kernel_rfl) (by kernel_rfl), Tryz.fieldsSpan]
  by_cases h1 : (p == r) = true <;> by_cases h2 : (q == s) = true <;> simp [Op.eqFields, go_sem, h1, h2, Tryz.underlying21, part, Tryz.sizeOf21, Tryz.isAgg21]
theorem neq_span (w : World) (p q r s : Int) : (binOp .neq 39 (.agg #[.int .i32 p, .int .i32 q]) (.agg #[.int .i32 r, .int .i32 s])).run Tryz.prog w = .ok (.bool (!(p == r && q == s))) w := by
  rw [run_neq_struct, eqIn_span 9998]; rfl
theorem neqG_span (w : World) (x y : Operand) (p q r s : Int) : (eqGuard .neq 39 x y (.agg #[.int .i32 p, .int .i32 q]) (.agg #[.int .i32 r, .int .i32 s])).run Tryz.prog w = .ok () w :=
  run_eqGuard_agg _ _ _ _ _ _ _ (by kernel_rfl)

end Go.Proofs.YtmbjjheaddhmeaaGreatDoor

namespace Go.Proofs.YtmbjjheaddhmeaaGreatDoor
open Go.RowKit

/-- The value v is a slice that reads as the spans l. -/
def Spans (w : World) (v : Value) (l : List (Int × Int)) : Prop :=
  ∃ a cap, v = .slice a l.length cap ∧ (l = [] ∨ ∃ b off, a = some ⟨b, off, none⟩ ∧
    ∀ j, j < l.length → w.cell? ⟨b, off + j * 2, none⟩ = some (.int .i32 (l[j]?.getD (0, 0)).1) ∧ w.cell? ⟨b, off + j * 2 + 1, none⟩ = some (.int .i32 (l[j]?.getD (0, 0)).2))

/-- The pointer value p points to a set of the spans l. -/
def IsSet (w : World) (p : Value) (l : List (Int × Int)) : Prop :=
  ∃ b v, p = .pointer (some ⟨b, 0, none⟩) ∧ w.cell? ⟨b, 0, none⟩ = some v ∧ Spans w v l

theorem Spans.below {w w' : World} {v : Value} {l : List (Int × Int)} (hb : Below w.heap.size w w') (h : Spans w v l) : Spans w' v l := by
  obtain ⟨a, cap, rfl, h⟩ := h
  refine ⟨a, cap, rfl, ?_⟩
  rcases h with h | ⟨b, off, rfl, h⟩
  · exact .inl h
  · refine .inr ⟨b, off, rfl, fun j hj => ?_⟩
    obtain ⟨h1, h2⟩ := h j hj
    exact ⟨(hb.cell (p := ⟨b, off + j * 2, none⟩) (cell_lt h1)).trans h1, (hb.cell (p := ⟨b, off + j * 2 + 1, none⟩) (cell_lt h2)).trans h2⟩

theorem IsSet.below {w w' : World} {p : Value} {l : List (Int × Int)} (hb : Below w.heap.size w w') (h : IsSet w p l) : IsSet w' p l := by
  obtain ⟨b, v, rfl, hc, hs⟩ := h
  exact ⟨b, v, rfl, (hb.cell (p := ⟨b, 0, none⟩) (cell_lt hc)).trans hc, hs.below hb⟩

/-- The cells of a list of spans. -/
def flat (l : List (Int × Int)) : List Value := l.flatMap fun x => [.int .i32 x.1, .int .i32 x.2]
theorem flat_snoc (l : List (Int × Int)) (x : Int × Int) : flat (l ++ [x]) = flat l ++ [.int .i32 x.1, .int .i32 x.2] := by simp [flat]
theorem flat_length (l : List (Int × Int)) : (flat l).length = l.length * 2 := by
  induction l with
  | nil => rfl
  | cons x l ih => simp [flat] at *; omega
theorem flat_get (l : List (Int × Int)) (j : Nat) (h : j < l.length) : (flat l)[j * 2]? = some (.int .i32 (l[j]?.getD (0, 0)).1) ∧ (flat l)[j * 2 + 1]? = some (.int .i32 (l[j]?.getD (0, 0)).2) := by
  induction l generalizing j with
  | nil => simp at h
  | cons x l ih =>
    cases j with
    | zero => simp [flat]
    | succ j =>
      have := ih j (by simpa using h)
      simp only [flat, List.flatMap_cons] at *
      rw [show (j + 1) * 2 = j * 2 + 2 by omega, show j * 2 + 2 + 1 = (j * 2 + 1) + 2 by omega]
      simpa using this

/-- What the call owns reads as spans. -/
theorem Spans.of_owns {w : World} {base : Nat} {e : TypeId} {v : Value} {l : List (Int × Int)} (h : w.ownsRow base e 2 v l.length (flat l)) : Spans w v l := by
  obtain ⟨h0, h⟩ := h
  rcases h with ⟨rfl, h⟩ | ⟨g, cap, cur, rfl, hg, hh, h1, h2, h3, h4⟩
  · have : l = [] := List.eq_nil_of_length_eq_zero h
    subst this
    exact ⟨none, 0, rfl, .inl rfl⟩
  · refine ⟨some ⟨g, 0, none⟩, cap, rfl, .inr ⟨g, 0, rfl, fun j hj => ?_⟩⟩
    obtain ⟨g1, g2⟩ := flat_get l j hj
    rw [← h4] at g1 g2
    have e1 : j * 2 < l.length * 2 := by omega
    have e2 : j * 2 + 1 < l.length * 2 := by omega
    rw [List.getElem?_take, if_pos e1] at g1
    rw [List.getElem?_take, if_pos e2] at g2
    simp only [Array.getElem?_toList] at g1 g2
    exact ⟨by simp [World.cell?, hh, g1], by simp [World.cell?, hh, g2]⟩

end Go.Proofs.YtmbjjheaddhmeaaGreatDoor
