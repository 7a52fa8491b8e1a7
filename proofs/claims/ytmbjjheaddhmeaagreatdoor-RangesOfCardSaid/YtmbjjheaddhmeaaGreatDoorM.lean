/- Memory words: a slice of spans, a set behind a pointer. -/
import Derived.WalkKit
import Derived.WalkSpells
import Derived.WalkLawsBesides
namespace Go.Proofs.YtmbjjheaddhmeaaGreatDoor
open Go.RowKit

/-- The value v is a slice that reads as the spans l. -/
def Spans (w : World) (v : Value) (l : List (Int × Int)) : Prop :=
  ∃ a cap, v = .slice a l.length cap ∧ (l = [] ∨ ∃ b off, a = some ⟨b, off, none⟩ ∧
    ∀ j, j < l.length → w.cell? ⟨b, off + j * 2, none⟩ = some (.int .i32 (l[j]?.getD (0, 0)).1) ∧ w.cell? ⟨b, off + j * 2 + 1, none⟩ = some (.int .i32 (l[j]?.getD (0, 0)).2))

/-- The pointer value p points to a set of the spans l. -/
def IsSet (w : World) (p : Value) (l : List (Int × Int)) : Prop :=
  ∃ b v, p = .pointer (some ⟨b, 0, none⟩) ∧ w.cell? ⟨b, 0, none⟩ = some v ∧ Spans w v l

theorem cell_lt {w : World} {a : Addr} {v : Value} (h : w.cell? a = some v) : a.block < w.heap.size := World.block_lt_of_cell? w a h

theorem Spans.below {w w' : World} {v : Value} {l : List (Int × Int)} (hb : Below w.heap.size w w') (h : Spans w v l) : Spans w' v l := by
  obtain ⟨a, cap, rfl, h⟩ := h
  refine ⟨a, cap, rfl, ?_⟩
  rcases h with h | ⟨b, off, rfl, h⟩
  · exact .inl h
  · refine .inr ⟨b, off, rfl, fun j hj => ?_⟩
    obtain ⟨h1, h2⟩ := h j hj
    exact ⟨(hb.cell (p := ⟨b, off + j * 2, none⟩) (cell_lt h1)).trans h1, (hb.cell (p := ⟨b, off + j * 2 + 1, none⟩) (cell_lt h2)).trans h2⟩

theorem IsSet.below {w w' : World} {p : Value} {l : List (Int × Int)} (hb : Below w.heap.size w w') (h : IsSet w p l) : IsSet w' p l := by
  obtain ⟨b, v, rfl, hc, hs⟩ := h
  exact ⟨b, v, rfl, (hb.cell (p := ⟨b, 0, none⟩) (cell_lt hc)).trans hc, hs.below hb⟩

theorem ownsRow_below {w w' : World} {base : Nat} {e : TypeId} {size : Nat} {v : Value} {n : Nat} {xs : List Value} (hb : Below w.heap.size w w') (h : w.ownsRow base e size v n xs) : w'.ownsRow base e size v n xs := by
  obtain ⟨h0, h⟩ := h
  refine ⟨h0, ?_⟩
  rcases h with h | ⟨g, cap, cur, rfl, hg, hh, r⟩
  · exact .inl h
  · exact .inr ⟨g, cap, cur, rfl, hg, (hb.block g (Array.getElem?_eq_some_iff.1 hh).1).trans hh, r⟩

/-- The cells of a list of spans. -/
def flat (l : List (Int × Int)) : List Value := l.flatMap fun x => [.int .i32 x.1, .int .i32 x.2]
theorem flat_snoc (l : List (Int × Int)) (x : Int × Int) : flat (l ++ [x]) = flat l ++ [.int .i32 x.1, .int .i32 x.2] := by simp [flat]
theorem flat_length (l : List (Int × Int)) : (flat l).length = l.length * 2 := by
  induction l with
  | nil => rfl
  | cons x l ih => simp [flat] at *; omega
theorem flat_get (l : List (Int × Int)) (j : Nat) (h : j < l.length) : (flat l)[j * 2]? = some (.int .i32 (l[j]?.getD (0, 0)).1) ∧ (flat l)[j * 2 + 1]? = some (.int .i32 (l[j]?.getD (0, 0)).2) := by
  induction l generalizing j with
  | nil => simp at h
  | cons x l ih =>
    cases j with
    | zero => simp [flat]
    | succ j =>
      have := ih j (by simpa using h)
      simp only [flat, List.flatMap_cons] at *
      rw [show (j + 1) * 2 = j * 2 + 2 by omega, show j * 2 + 2 + 1 = (j * 2 + 1) + 2 by omega]
      simpa using this

theorem add_lit (b o j : Nat) : (⟨b, o, none⟩ : Addr).add j = ⟨b, o + j, none⟩ := by
  unfold Addr.add; split <;> simp_all

/-- What the call owns reads as spans. -/
theorem Spans.of_owns {w : World} {base : Nat} {e : TypeId} {v : Value} {l : List (Int × Int)} (h : w.ownsRow base e 2 v l.length (flat l)) : Spans w v l := by
  obtain ⟨h0, h⟩ := h
  rcases h with ⟨rfl, h⟩ | ⟨g, cap, cur, rfl, hg, hh, h1, h2, h3, h4⟩
  · have : l = [] := List.eq_nil_of_length_eq_zero h
    subst this
    exact ⟨none, 0, rfl, .inl rfl⟩
  · refine ⟨some ⟨g, 0, none⟩, cap, rfl, .inr ⟨g, 0, rfl, fun j hj => ?_⟩⟩
    obtain ⟨g1, g2⟩ := flat_get l j hj
    rw [← h4] at g1 g2
    have e1 : j * 2 < l.length * 2 := by omega
    have e2 : j * 2 + 1 < l.length * 2 := by omega
    rw [List.getElem?_take, if_pos e1] at g1
    rw [List.getElem?_take, if_pos e2] at g2
    simp only [Array.getElem?_toList] at g1 g2
    exact ⟨by simp [World.cell?, hh, g1], by simp [World.cell?, hh, g2]⟩

/-- A cell of one block is stored: the slice value of a field. -/
theorem push_done {B : Nat} {a w1 : World} {v nv : Value} {e n : Nat} {xs : List Value} (hb : Below B a w1) (e1 : w1.cell? ⟨B, 0, none⟩ = some v) (e2 : w1.frozen? ⟨B, 0, none⟩ = false) (hown : w1.ownsRow (B + 1) e 2 nv n xs) :
    (w1.setCell ⟨B, 0, none⟩ nv).cell? ⟨B, 0, none⟩ = some nv ∧ (w1.setCell ⟨B, 0, none⟩ nv).frozen? ⟨B, 0, none⟩ = false ∧ Hid ((w1.setCell ⟨B, 0, none⟩ nv).ownsRow (B + 1) e 2 nv n xs) ∧ Below B a (w1.setCell ⟨B, 0, none⟩ nv) :=
  ⟨World.cell?_setCell_same _ _ _ e1, by rw [World.frozen?_setCell]; exact e2, ownsRow_setCell_below hown (Nat.lt_succ_self _) nv, hb.setCell (Nat.le_refl _) nv⟩

theorem cell_set_other {w1 : World} {B g o : Nat} {u v : Value} (h : w1.cell? ⟨g, o, none⟩ = some u) (hne : g ≠ B) : (w1.setCell ⟨B, 0, none⟩ v).cell? ⟨g, o, none⟩ = some u :=
  (World.cell?_setCell_other _ _ _ _ (by intro e; cases e; exact hne rfl)).trans h

end Go.Proofs.YtmbjjheaddhmeaaGreatDoor
