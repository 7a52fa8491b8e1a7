/- Of. -/
import Derived.Test.YtmbjjheaddhmeaaGreatDoorA
import Derived.Test.YtmbjjheaddhmeaaGreatDoorM
import Derived.Test.YtmbjjheaddhmeaaGreatDoorClone
import Derived.Test.YtmbjjheaddhmeaaGreatDoorTidy
import Derived.Deep.LoopGhost
namespace Go.Proofs.YtmbjjheaddhmeaaGreatDoor
open Go.RowKit

/-- Which error a span is: 0: none. -/
def ofNo (x : Int × Int) : Int := if ptB x.1 = false ∨ ptB x.2 = false then 8 else if x.2 < x.1 then 1 else 0
def gtS (l : List (Int × Int)) (i : Nat) : Int × Int := l[i]?.getD (0, 0)
theorem ptB_bd {r : Int} (h : ptB r = true) : 0 ≤ r ∧ r ≤ 1114367 := by simp [ptB] at h; omega
theorem ofNo_bd {l : List (Int × Int)} (h : ∀ j, j < l.length → ofNo (gtS l j) = 0) : Bd l := by
  intro x hx
  obtain ⟨i, hi, rfl⟩ := List.getElem_of_mem hx
  have := h i hi
  rw [show gtS l i = l[i] by simp [gtS, hi]] at this
  unfold ofNo at this
  split at this
  · cases this
  · rename_i h1
    simp at h1
    have := ptB_bd h1.1; have := ptB_bd h1.2; omega

def OfPost (l : List (Int × Int)) (w : World) (e : Ending) (w' : World) : Prop :=
  (∃ k, k < l.length ∧ (∀ j, j < k → ofNo (gtS l j) = 0) ∧ ofNo (gtS l k) ≠ 0 ∧ e = .returned (.tuple #[.pointer none, .iface 81 (.agg #[.int .i64 (ofNo (gtS l k)), .int .i64 0, .int .i64 k])]) ∧ Below w.heap.size w w') ∨
  ((∀ j, j < l.length → ofNo (gtS l j) = 0) ∧ ∃ p l', e = .returned (.tuple #[p, .nilIface]) ∧ l'.Perm l ∧ l'.Pairwise (fun a b : Int × Int => a.1 ≤ b.1) ∧ IsSet w' p (mergeF l') ∧ Below w.heap.size w w')

/-- The like, where the set's memory is new. -/
def OfPostO (l : List (Int × Int)) (w : World) (e : Ending) (w' : World) : Prop :=
  (∃ k, k < l.length ∧ (∀ j, j < k → ofNo (gtS l j) = 0) ∧ ofNo (gtS l k) ≠ 0 ∧ e = .returned (.tuple #[.pointer none, .iface 81 (.agg #[.int .i64 (ofNo (gtS l k)), .int .i64 0, .int .i64 k])]) ∧ Below w.heap.size w w') ∨
  ((∀ j, j < l.length → ofNo (gtS l j) = 0) ∧ ∃ p l', e = .returned (.tuple #[p, .nilIface]) ∧ l'.Perm l ∧ l'.Pairwise (fun a b : Int × Int => a.1 ≤ b.1) ∧ IsOwn w' w.heap.size p (mergeF l') ∧ Below w.heap.size w w')

set_option maxRecDepth 100000 in
set_option maxHeartbeats 2000000 in
theorem of_own (v : Value) (l : List (Int × Int)) (w : World) (hv : Spans w v l) (hl : l.length ≤ 1000000) :
    Calls Tryz.prog 8 #[v] w (OfPostO l w) := by
  have HV := Lib.hid hv
  obtain ⟨a, c, rfl, hA⟩ := hv
  go_enter Tryz.func8, Tryz.ntmps8
  go_wp2
  go_loopg [8] l.length (fun g i wr => ∃ (i0 : Nat), i = .int .i64 i0 ∧ i0 ≤ l.length ∧ l.length - i0 ≤ g ∧ Hid (∀ j, j < i0 → ofNo (gtS l j) = 0) ∧ Below w.heap.size w wr)
  case atStart => exact ⟨0, rfl, by omega, by omega, fun j hj => by omega, Below.refl _ _⟩
  case round =>
    obtain ⟨i, rfl, hi, hg, HO, hb⟩ := hrel
    by_cases hil : i < l.length
    · rcases hA with h | ⟨ba, oa, rfl, hA⟩
      · subst h; simp at hil
      obtain ⟨a1, a2⟩ := hA i hil
      have hgt : gtS l i = l[i]?.getD (0, 0) := rfl
      rw [← hgt] at a1 a2
      have a1' := (hb.cell (p := ⟨ba, oa + i * 2, none⟩) (cell_lt a1)).trans a1
      have a2' := (hb.cell (p := ⟨ba, oa + i * 2 + 1, none⟩) (cell_lt a2)).trans a2
      obtain ⟨p, q, hpq⟩ : ∃ p q, gtS l i = (p, q) := ⟨_, _, rfl⟩
      rw [hpq] at a1' a2'
      dsimp only at a1' a2'
      have HPQ := Lib.hid hpq
      have hil' : (i : Int) < (l.length : Int) := by omega
      clear a1 a2 hgt hpq hA
      have hp := point_any p
      have hq := point_any q
      have fin : ∀ n, ofNo (p, q) = n → n ≠ 0 → ∀ W, Below w.heap.size w W → OfPostO l w (.returned (.tuple #[.pointer none, .iface 81 (.agg #[.int .i64 n, .int .i64 0, .int .i64 i])])) W := fun n h1 h2 W hW =>
        .inl ⟨i, hil, HO.out, by rw [HPQ.out, h1]; exact h2, by rw [HPQ.out, h1], hW⟩
      have FIN := Lib.hid fin
      clear fin
      cases h1 : ptB p with
      | false =>
        rw [h1] at hp
        have e0 : ofNo (p, q) = 8 := by simp [ofNo, h1]
        have E0 := Lib.hid e0
        clear e0 h1 hq
        go_wp2_with (go_at_call 31; refine (hp _).mono ?_; rintro e w' ⟨rfl, rfl⟩)
        go_ret2
        exact FIN.out 8 E0.out (by omega) _ (hb.trans ((Below.refl _ _).alloc hb.size _))
      | true =>
        rw [h1] at hp
        have HP1 := Lib.hid h1
        clear h1
        cases h2 : ptB q with
        | false =>
          rw [h2] at hq
          have e0 : ofNo (p, q) = 8 := by simp [ofNo, h2]
          have E0 := Lib.hid e0
          clear e0 h2
          go_wp2_with fail
          refine (hp _).mono ?_
          rintro e w' ⟨rfl, rfl⟩
          go_wp2_with fail
          refine (hq _).mono ?_
          rintro e w' ⟨rfl, rfl⟩
          go_wp2
          go_ret2
          exact FIN.out 8 E0.out (by omega) _ (hb.trans ((Below.refl _ _).alloc hb.size _))
        | true =>
          rw [h2] at hq
          have HP2 := Lib.hid h2
          clear h2
          go_wp2_with fail
          refine (hp _).mono ?_
          rintro e w' ⟨rfl, rfl⟩
          go_wp2_with fail
          refine (hq _).mono ?_
          rintro e w' ⟨rfl, rfl⟩
          go_wp2
          · have hlt : q < p := by assumption
            go_ret2
            exact FIN.out 1 (by simp [ofNo, HP1.out, HP2.out, hlt]) (by omega) _ (hb.trans ((Below.refl _ _).alloc hb.size _))
          · have hlt : p ≤ q := by assumption
            go_roundg (gk - 1)
            case measure => omega
            case rel =>
              refine ⟨i + 1, by go_num, by omega, by omega, fun j hj => ?_, hb.trans ((Below.refl _ _).alloc hb.size _)⟩
              by_cases hji : j = i
              · subst hji; rw [HPQ.out]; simp [ofNo, HP1.out, HP2.out]; omega
              · exact HO.out j (by omega)
    · obtain rfl : i = l.length := by omega
      have HBD := Lib.hid (ofNo_bd HO.out)
      have hcl := clone_any _ l wr (HV.out.below hb) hl
      go_wp2_with fail
      refine hcl.mono ?_
      clear hcl
      rintro e w1 ⟨v1, rfl, hown, hb1⟩
      have htd := tidy_own v1 l wr.heap.size w1 HBD.out hown hb1.size hl
      clear hown
      go_wp2_with fail
      refine htd.mono ?_
      clear htd
      rintro e w2 ⟨p2, l2, rfl, hp2, hs2, hset, hb2⟩
      have HP2 := Lib.hid hp2
      have HS2 := Lib.hid hs2
      have HE2 := Lib.hid hset
      clear hp2 hs2 hset
      go_wp2
      go_ret2
      exact .inr ⟨HO.out, p2, l2, rfl, HP2.out, HS2.out, HE2.out.low hb.size, hb.trans ((hb1.trans hb2).mono hb.size)⟩

theorem of_any (v : Value) (l : List (Int × Int)) (w : World) (hv : Spans w v l) (hl : l.length ≤ 1000000) :
    Calls Tryz.prog 8 #[v] w (OfPost l w) :=
  (of_own v l w hv hl).mono fun _ _ h => h.imp id fun ⟨h1, p, l', h2, h3, h4, h5, h6⟩ => ⟨h1, p, l', h2, h3, h4, h5.isSet, h6⟩
end Go.Proofs.YtmbjjheaddhmeaaGreatDoor
