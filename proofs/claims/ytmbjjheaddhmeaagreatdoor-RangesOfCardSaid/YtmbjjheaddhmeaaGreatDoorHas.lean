/- slices.BinarySearchFunc at spans with Has's closure; (*Set).Has. -/
import Derived.Test.YtmbjjheaddhmeaaGreatDoorA
import Derived.Test.YtmbjjheaddhmeaaGreatDoorM
import Derived.Deep.LoopGhost
import Derived.Deep.DeepCutAuto
import Derived.Lib.Hide
namespace Go.Proofs.YtmbjjheaddhmeaaGreatDoor
open Go.RowKit

def gt (l : List (Int × Int)) (i : Nat) : Int × Int := l[i]?.getD (0, 0)

/-- What the search finds. -/
def Found (l : List (Int × Int)) (r : Int) (i : Nat) : Prop := i ≤ l.length ∧ (0 < i → wrap32 ((gt l (i - 1)).1 - r) < 0) ∧ (i < l.length → 0 ≤ wrap32 ((gt l i).1 - r))

set_option maxRecDepth 100000 in
set_option maxHeartbeats 2000000 in
theorem bsearch_walk (l : List (Int × Int)) (w : World) (aa : Option Addr) (ca : Nat) (r : Int)
    (hA : l = [] ∨ ∃ b off, aa = some ⟨b, off, none⟩ ∧ ∀ j, j < l.length → w.cell? ⟨b, off + j * 2, none⟩ = some (.int .i32 (l[j]?.getD (0, 0)).1) ∧ w.cell? ⟨b, off + j * 2 + 1, none⟩ = some (.int .i32 (l[j]?.getD (0, 0)).2))
    (hl : l.length ≤ 1000000) :
    Calls Tryz.prog 93 #[.slice aa l.length ca, .int .i32 r, .func (.func 94) #[] #[]] w fun e w' => ∃ i : Nat, Found l r i ∧ e = .returned (.tuple #[.int .i64 i, .bool (decide (i < l.length) && decide (wrap32 ((gt l i).1 - r) = 0))]) ∧ Below w.heap.size w w' := by
  go_enter Tryz.func93, Tryz.ntmps93
  go_wp2
  go_loopg [9, 10] l.length (fun g i j wr => ∃ (i0 j0 : Nat), i = .int .i64 i0 ∧ j = .int .i64 j0 ∧ i0 ≤ j0 ∧ j0 ≤ l.length ∧ j0 - i0 ≤ g ∧ Hid (0 < i0 → wrap32 ((gt l (i0 - 1)).1 - r) < 0) ∧ Hid (j0 < l.length → 0 ≤ wrap32 ((gt l j0).1 - r)) ∧ Below w.heap.size w wr)
  case atStart => exact ⟨0, l.length, rfl, rfl, by omega, by omega, by omega, by simp [Hid], by simp [Hid], Below.refl _ _⟩
  case round =>
    obtain ⟨i, j, rfl, rfl, hij, hj, hg, HI, HJ, hb⟩ := hrel
    by_cases hlt : i < j
    · obtain ⟨k, hk⟩ : ∃ k : Nat, ((i : Int) + (j : Int)) / 2 = (k : Int) := ⟨(i + j) / 2, by omega⟩
      have k1 : i ≤ k := by omega
      have k2 : k < j := by omega
      rcases hA with h | ⟨ba, oa, rfl, hA⟩
      · subst h; simp at hj; omega
      obtain ⟨a1, a2⟩ := hA k (by omega)
      have hgt : gt l k = l[k]?.getD (0, 0) := rfl
      rw [← hgt] at a1 a2
      have a1' := (hb.cell (p := ⟨ba, oa + k * 2, none⟩) (cell_lt a1)).trans a1
      have a2' := (hb.cell (p := ⟨ba, oa + k * 2 + 1, none⟩) (cell_lt a2)).trans a2
      have HP : ∃ p q, gt l k = (p, q) := ⟨_, _, rfl⟩
      obtain ⟨p, q, hpq⟩ := HP
      rw [hpq] at a1' a2'
      dsimp only at a1' a2'
      have HPQ := Lib.hid hpq
      have hkl : (k : Int) < (l.length : Int) := by omega
      clear a1 a2 hgt hpq hA
      go_wp2_with (go_at_call 94; refine (hasCmp_any p q r _).mono ?_; rintro e w' ⟨rfl, rfl⟩)
      · have hneg : wrap32 (p - r) < 0 := by assumption
        go_roundg (gk - 1)
        case measure => omega
        case rel => exact ⟨k + 1, j, by go_num, rfl, by omega, by omega, by omega, fun _ => by rw [show k + 1 - 1 = k by omega, HPQ.out]; exact hneg, HJ.out, hb.trans ((Below.refl _ _).alloc (by have := hb.size; omega) _)⟩
      · have hneg : 0 ≤ wrap32 (p - r) := by assumption
        go_roundg (gk - 1)
        case measure => omega
        case rel => exact ⟨i, k, rfl, rfl, by omega, by omega, by omega, HI.out, fun _ => by rw [HPQ.out]; exact hneg, hb.trans ((Below.refl _ _).alloc (by have := hb.size; omega) _)⟩
    · obtain rfl : i = j := by omega
      have F : Hid (Found l r i) := ⟨hj, HI.out, HJ.out⟩
      by_cases hil : i < l.length
      · rcases hA with h | ⟨ba, oa, rfl, hA⟩
        · subst h; simp at hil
        obtain ⟨a1, a2⟩ := hA i hil
        have hgt : gt l i = l[i]?.getD (0, 0) := rfl
        rw [← hgt] at a1 a2
        have a1' := (hb.cell (p := ⟨ba, oa + i * 2, none⟩) (cell_lt a1)).trans a1
        have a2' := (hb.cell (p := ⟨ba, oa + i * 2 + 1, none⟩) (cell_lt a2)).trans a2
        have HP : ∃ p q, gt l i = (p, q) := ⟨_, _, rfl⟩
        obtain ⟨p, q, hpq⟩ := HP
        rw [hpq] at a1' a2'
        dsimp only at a1' a2'
        have HPQ := Lib.hid hpq
        have hkl : (i : Int) < (l.length : Int) := by omega
        clear a1 a2 hgt hpq hA
        go_wp2_with (go_at_call 94; refine (hasCmp_any p q r _).mono ?_; rintro e w' ⟨rfl, rfl⟩)
        go_ret2
        refine ⟨i, F.out, ?_, hb.trans ((Below.refl _ _).alloc hb.size _)⟩
        rw [HPQ.out]
        simp only [Array.getD_eq_getD_getElem?, hil, decide_true, Bool.true_and]
        rfl
      · go_wp2
        go_ret2
        refine ⟨i, F.out, ?_, hb⟩
        simp [hil]

theorem bsearch_any (v : Value) (l : List (Int × Int)) (w : World) (hv : Spans w v l) (r : Int) (hl : l.length ≤ 1000000) :
    Calls Tryz.prog 93 #[v, .int .i32 r, .func (.func 94) #[] #[]] w fun e w' => ∃ i : Nat, Found l r i ∧ e = .returned (.tuple #[.int .i64 i, .bool (decide (i < l.length) && decide (wrap32 ((gt l i).1 - r) = 0))]) ∧ Below w.heap.size w w' := by
  obtain ⟨a, c, rfl, hA⟩ := hv
  exact bsearch_walk l w a c r hA hl

/-- What Has answers. -/
def hasR (l : List (Int × Int)) (r : Int) (i : Nat) : Bool := (decide (i < l.length) && decide (wrap32 ((gt l i).1 - r) = 0)) || (ptB r && decide (0 < i) && decide (r ≤ (gt l (i - 1)).2))

set_option maxRecDepth 100000 in
set_option maxHeartbeats 2000000 in
theorem has_any (p : Value) (l : List (Int × Int)) (w : World) (hp : IsSet w p l) (r : Int) (hl : l.length ≤ 1000000) :
    Calls Tryz.prog 39 #[p, .int .i32 r] w fun e w' => (∃ i : Nat, Found l r i ∧ e = .returned (.bool (hasR l r i))) ∧ Below w.heap.size w w' := by
  obtain ⟨pb, v, rfl, hc, hv⟩ := hp
  have hbs := bsearch_any v l w hv r hl
  obtain ⟨aa, ca, rfl, hA⟩ := hv
  go_enter Tryz.func39, Tryz.ntmps39
  go_wp2_with fail
  refine hbs.mono ?_
  rintro e w1 ⟨i, hF, rfl, hb⟩
  have hc1 := (hb.cell (p := ⟨pb, 0, none⟩) (cell_lt hc)).trans hc
  generalize hB : (decide (i < l.length) && decide (wrap32 ((gt l i).1 - r) = 0)) = B
  have HB := Lib.hid hB
  have HF := Lib.hid hF
  have hil : i ≤ l.length := hF.1
  have hpt := point_any r
  clear hbs hF hB
  cases B with
  | true =>
    go_wp2
    go_ret
    exact ⟨⟨i, HF.out, ret_b (by rw [hasR, HB.out]; rfl)⟩, hb⟩
  | false =>
    cases hp : ptB r with
    | false =>
      rw [hp] at hpt
      have HP := Lib.hid hp
      clear hp
      go_wp2_with (go_at_call 31; refine (hpt _).mono ?_; rintro e w' ⟨rfl, rfl⟩)
      go_ret
      exact ⟨⟨i, HF.out, ret_b (by rw [hasR, HB.out, HP.out]; simp)⟩, hb⟩
    | true =>
      rw [hp] at hpt
      have HP := Lib.hid hp
      clear hp
      by_cases h0 : 0 < i
      · rcases hA with h | ⟨ba, oa, rfl, hA⟩
        · subst h; simp at hil; omega
        obtain ⟨k, rfl⟩ : ∃ k, i = k + 1 := ⟨i - 1, by omega⟩
        obtain ⟨a1, a2⟩ := hA k (by omega)
        have hgt : gt l k = l[k]?.getD (0, 0) := rfl
        rw [← hgt] at a1 a2
        have a2' := (hb.cell (p := ⟨ba, oa + k * 2 + 1, none⟩) (cell_lt a2)).trans a2
        have hkl : (k : Int) < (l.length : Int) := by omega
        obtain ⟨q, hq⟩ : ∃ q, (gt l k).2 = q := ⟨_, rfl⟩
        rw [hq] at a2'
        have HQ := Lib.hid hq
        clear a1 a2 hgt hA hq
        go_wp2_with (go_at_call 31; refine (hpt _).mono ?_; rintro e w' ⟨rfl, rfl⟩)
        go_ret
        exact ⟨⟨k + 1, HF.out, ret_b (by rw [hasR, HB.out, HP.out, show k + 1 - 1 = k by omega, HQ.out]; simp)⟩, hb⟩
      · obtain rfl : i = 0 := by omega
        go_wp2_with (go_at_call 31; refine (hpt _).mono ?_; rintro e w' ⟨rfl, rfl⟩)
        go_ret
        exact ⟨⟨0, HF.out, ret_b (by rw [hasR, HB.out, HP.out]; simp)⟩, hb⟩

end Go.Proofs.YtmbjjheaddhmeaaGreatDoor
