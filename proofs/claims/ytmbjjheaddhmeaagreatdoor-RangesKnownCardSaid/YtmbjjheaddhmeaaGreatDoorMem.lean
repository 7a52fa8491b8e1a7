/- Memory words that all texts share. -/
import Derived.WalkKit
import Derived.WalkSpells
import Derived.WalkLawsBesides
import Derived.Lib.Hide
import Derived.Lib.Strings
import Derived.Laws.Strings2
import Derived.Laws.Strings3
import Derived.Laws.Concat
namespace Go.Proofs.YtmbjjheaddhmeaaGreatDoor
open Go.RowKit

theorem cell_lt {w : World} {a : Addr} {v : Value} (h : w.cell? a = some v) : a.block < w.heap.size := World.block_lt_of_cell? w a h

theorem ownsRow_below {w w' : World} {base : Nat} {e : TypeId} {size : Nat} {v : Value} {n : Nat} {xs : List Value} (hb : Below w.heap.size w w') (h : w.ownsRow base e size v n xs) : w'.ownsRow base e size v n xs := by
  obtain ⟨h0, h⟩ := h
  refine ⟨h0, ?_⟩
  rcases h with h | ⟨g, cap, cur, rfl, hg, hh, r⟩
  · exact .inl h
  · exact .inr ⟨g, cap, cur, rfl, hg, (hb.block g (Array.getElem?_eq_some_iff.1 hh).1).trans hh, r⟩

theorem add_lit (b o j : Nat) : (⟨b, o, none⟩ : Addr).add j = ⟨b, o + j, none⟩ := by
  unfold Addr.add; split <;> simp_all

theorem cell_set_other {w1 : World} {B g o : Nat} {u v : Value} (h : w1.cell? ⟨g, o, none⟩ = some u) (hne : g ≠ B) : (w1.setCell ⟨B, 0, none⟩ v).cell? ⟨g, o, none⟩ = some u :=
  (World.cell?_setCell_other _ _ _ _ (by intro e; cases e; exact hne rfl)).trans h

/-- A cell of one block is stored: the slice value of a field. -/
theorem push_done {B : Nat} {a w1 : World} {v nv : Value} {e n : Nat} {xs : List Value} (hb : Below B a w1) (e1 : w1.cell? ⟨B, 0, none⟩ = some v) (e2 : w1.frozen? ⟨B, 0, none⟩ = false) (hown : w1.ownsRow (B + 1) e 2 nv n xs) :
    (w1.setCell ⟨B, 0, none⟩ nv).cell? ⟨B, 0, none⟩ = some nv ∧ (w1.setCell ⟨B, 0, none⟩ nv).frozen? ⟨B, 0, none⟩ = false ∧ Hid ((w1.setCell ⟨B, 0, none⟩ nv).ownsRow (B + 1) e 2 nv n xs) ∧ Below B a (w1.setCell ⟨B, 0, none⟩ nv) :=
  ⟨World.cell?_setCell_same _ _ _ e1, by rw [World.frozen?_setCell]; exact e2, ownsRow_setCell_below hown (Nat.lt_succ_self _) nv, hb.setCell (Nat.le_refl _) nv⟩

theorem ret_b {a b : Bool} (h : a = b) : Ending.returned (.bool a) = .returned (.bool b) := by rw [h]
theorem ret_i {k : IntKind} {a b : Int} (h : a = b) : Ending.returned (.int k a) = .returned (.int k b) := by rw [h]

theorem below_snoc {w0 w w' : World} (h : Below w0.heap.size w0 w) (hb : Below w.heap.size w w') : Below w0.heap.size w0 w' := h.trans (hb.mono h.size)

/-- The value v is a slice of n elements, of size cells each; its cells are xs. -/
def Sl (w : World) (size : Nat) (v : Value) (n : Nat) (xs : List Value) : Prop :=
  xs.length = n * size ∧ ∃ a cap, v = .slice a n cap ∧ (n = 0 ∨ ∃ b off, a = some ⟨b, off, none⟩ ∧ ∀ j, j < n * size → w.cell? ⟨b, off + j, none⟩ = xs[j]?)
theorem Sl.below {w w' : World} {size n : Nat} {v : Value} {xs : List Value} (hb : Below w.heap.size w w') (h : Sl w size v n xs) : Sl w' size v n xs := by
  obtain ⟨h0, a, cap, rfl, h⟩ := h
  refine ⟨h0, a, cap, rfl, ?_⟩
  rcases h with h | ⟨b, off, rfl, h⟩
  · exact .inl h
  · refine .inr ⟨b, off, rfl, fun j hj => ?_⟩
    have h1 := h j hj
    have h2 : xs[j]? = some (xs[j]'(by omega)) := List.getElem?_eq_getElem _
    exact (hb.cell (p := ⟨b, off + j, none⟩) (cell_lt (h1.trans h2))).trans h1
theorem Sl.of_owns {w : World} {base : Nat} {e : TypeId} {size n : Nat} {v : Value} {xs : List Value} (h : w.ownsRow base e size v n xs) : Sl w size v n xs := by
  obtain ⟨h0, h⟩ := h
  refine ⟨h0, ?_⟩
  rcases h with ⟨rfl, rfl⟩ | ⟨g, cap, cur, rfl, hg, hh, h1, h2, h3, h4⟩
  · exact ⟨none, 0, rfl, .inl rfl⟩
  · refine ⟨some ⟨g, 0, none⟩, cap, rfl, .inr ⟨g, 0, rfl, fun j hj => ?_⟩⟩
    rw [← h4, List.getElem?_take, if_pos hj, Array.getElem?_toList]
    simp [World.cell?, hh]
theorem Sl.nil (w : World) (size : Nat) : Sl w size (.slice none 0 0) 0 [] := ⟨by simp, none, 0, rfl, .inl rfl⟩
theorem Sl.shape {w : World} {size n : Nat} {v : Value} {xs : List Value} (h : Sl w size v n xs) : ∃ a cap, v = .slice a n cap := by
  obtain ⟨_, a, cap, rfl, _⟩ := h
  exact ⟨a, cap, rfl⟩
/-- .. its cells, where it is not empty. -/
theorem Sl.cells {w : World} {size n : Nat} {a : Option Addr} {cap : Nat} {xs : List Value} (h : Sl w size (.slice a n cap) n xs) (hn : 0 < n) : ∃ b off, a = some ⟨b, off, none⟩ ∧ ∀ j, j < n * size → w.cell? ⟨b, off + j, none⟩ = xs[j]? := by
  obtain ⟨_, a', cap', e, h⟩ := h
  injection e with e1 e2 e3
  subst e1
  rcases h with h | h
  · omega
  · exact h
end Go.Proofs.YtmbjjheaddhmeaaGreatDoor
