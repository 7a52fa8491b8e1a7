/- The document's sets: rows of points' numbers; Number, Point, says, has, Has. -/
import Derived.Test.YtmbjjheaddhmeaaGreatDoorRep
import Derived.Deep.LoopGhost
import Derived.Test.YtmbjjheaddhmeaaGreatDoorCls
namespace Go.Proofs.YtmbjjheaddhmeaaGreatDoor
open Go.RowKit

/-- The value v is a slice that reads as the rows l of numbers. -/
def Prs (w : World) (v : Value) (l : List (Int × Int)) : Prop :=
  ∃ a cap, v = .slice a l.length cap ∧ (l = [] ∨ ∃ b off, a = some ⟨b, off, none⟩ ∧
    ∀ j, j < l.length → w.cell? ⟨b, off + j * 2, none⟩ = some (.int .i64 (l[j]?.getD (0, 0)).1) ∧ w.cell? ⟨b, off + j * 2 + 1, none⟩ = some (.int .i64 (l[j]?.getD (0, 0)).2))
theorem Prs.below {w w' : World} {v : Value} {l : List (Int × Int)} (hb : Below w.heap.size w w') (h : Prs w v l) : Prs w' v l := by
  obtain ⟨a, cap, rfl, h⟩ := h
  refine ⟨a, cap, rfl, ?_⟩
  rcases h with h | ⟨b, off, rfl, h⟩
  · exact .inl h
  · refine .inr ⟨b, off, rfl, fun j hj => ?_⟩
    obtain ⟨h1, h2⟩ := h j hj
    exact ⟨(hb.cell (p := ⟨b, off + j * 2, none⟩) (cell_lt h1)).trans h1, (hb.cell (p := ⟨b, off + j * 2 + 1, none⟩) (cell_lt h2)).trans h2⟩
theorem Prs.nil (w : World) : Prs w (.slice none 0 0) [] := ⟨none, 0, rfl, .inl rfl⟩
theorem Prs.slice {w : World} {v : Value} {l : List (Int × Int)} (h : Prs w v l) : ∃ a c, v = .slice a l.length c := by
  obtain ⟨a, c, rfl, _⟩ := h; exact ⟨a, c, rfl⟩

/-- The k-th point. -/
def ptK (k : Int) : Int := if k < 55296 then k else if k < 1112064 then k + 2048 else k + 2176
theorem ptK_pt {k : Int} (h0 : 0 ≤ k) (h1 : k ≤ 1112191) : ptB (ptK k) = true ∧ numP (ptK k) = k := by
  unfold ptK
  refine ⟨?_, ?_⟩
  · unfold ptB; rw [decide_eq_true_eq]; (repeat' split) <;> omega
  · unfold numP; (repeat' split) <;> omega
theorem numP_bds {r : Int} (h : ptB r = true) : 0 ≤ numP r ∧ numP r ≤ 1112191 := by
  rcases numP_pt h with h | h | h <;> omega
theorem ptK_numP {r : Int} (h : ptB r = true) : ptK (numP r) = r := by
  rcases numP_pt h with h | h | h <;> (unfold ptK; (repeat' split) <;> omega)

set_option maxHeartbeats 400000 in
theorem rNumber_any (r : Int) (w : World) :
    Calls Tryz.prog 35 #[.int .i32 r] w fun e w' => e = .returned (.int .i64 (if ptB r then numP r else -1)) ∧ w = w' := by
  go_enter Tryz.func35, Tryz.ntmps35
  go_wp2
  all_goals (go_ret; refine ⟨ret_i ?_, rfl⟩; first | (have hz := numP_pt ‹ptB r = true›; omega) | (exact absurd (by unfold ptB; rw [decide_eq_true_eq]; omega) ‹¬ptB r = true›) | omega)

set_option maxHeartbeats 400000 in
theorem rPoint_any (k : Int) (h0 : 0 ≤ k) (h1 : k ≤ 1112191) (w : World) :
    Calls Tryz.prog 95 #[.int .i64 k] w fun e w' => e = .returned (.int .i32 (ptK k)) ∧ w = w' := by
  go_enter Tryz.func95, Tryz.ntmps95
  go_wp2
  all_goals (go_ret; exact ⟨ret_i (by unfold ptK; (repeat' split) <;> omega), rfl⟩)

def saysF (how : Int) (a b : Bool) : Bool := if how = 0 then a || b else if how = 1 then a && b else if how = 2 then a && !b else !a
theorem rsays_any (how : Int) (a b : Bool) (w : World) :
    Calls Tryz.prog 121 #[.int .i64 how, .bool a, .bool b] w fun e w' => e = .returned (.bool (saysF how a b)) ∧ w = w' := by
  cases a <;> cases b <;> (go_enter Tryz.func121, Tryz.ntmps121; go_wp2) <;> (go_ret; refine ⟨ret_b ?_, rfl⟩; simp only [beq_iff_eq, beq_eq_false_iff_ne] at *; unfold saysF; (repeat' split) <;> first | rfl | omega)

theorem memB_cons_step (L : List (Int × Int)) (k : Int) (i : Nat) (hi : i < L.length) (x : Int × Int) (hx : L[i]?.getD (0, 0) = x) :
    memB k (L.drop i) = ((decide (x.1 ≤ k) && decide (k ≤ x.2)) || memB k (L.drop (i + 1))) := by
  have : L.drop i = x :: L.drop (i + 1) := by rw [List.drop_eq_getElem_cons hi, ← hx]; simp [hi]
  rw [this, memB]

set_option maxRecDepth 100000 in
set_option maxHeartbeats 2000000 in
theorem rhas_any (v : Value) (L : List (Int × Int)) (k : Int) (w : World) (hv : Prs w v L) (hl : L.length ≤ 1000000) :
    Calls Tryz.prog 97 #[.agg #[v], .int .i64 k] w fun e w' => e = .returned (.bool (memB k L)) ∧ Below w.heap.size w w' := by
  obtain ⟨a, c, rfl, hA⟩ := hv
  have b0 := (Below.refl w.heap.size w).alloc (Nat.le_refl _) (.cells #[.slice a L.length c] 33)
  have c0 : (w.alloc (.cells #[.slice a L.length c] 33)).cell? ⟨w.heap.size, 0, none⟩ = some (.slice a L.length c) := by simp
  go_enter Tryz.func97, Tryz.ntmps97
  go_wp2
  go_loopg [5] L.length (fun g i wr => ∃ j : Nat, i = .int .i64 j ∧ j ≤ L.length ∧ L.length - j ≤ g ∧ Hid (memB k L = memB k (L.drop j)) ∧ wr = w.alloc (.cells #[.slice a L.length c] 33))
  case atStart => exact ⟨0, rfl, by omega, by omega, rfl, rfl⟩
  case round =>
    obtain ⟨j, rfl, hj, hg, HM, rfl⟩ := hrel
    by_cases hjl : j < L.length
    · rcases hA with h | ⟨ba, oa, rfl, hA⟩
      · subst h; simp at hjl
      obtain ⟨a1, a2⟩ := hA j hjl
      have HS := Lib.hid (memB_cons_step L k j hjl _ rfl)
      generalize L[j]?.getD (0, 0) = xa at *
      obtain ⟨p, q⟩ := xa
      dsimp only at a1 a2
      have a1' := (b0.cell (p := ⟨ba, oa + j * 2, none⟩) (cell_lt a1)).trans a1
      have a2' := (b0.cell (p := ⟨ba, oa + j * 2 + 1, none⟩) (cell_lt a2)).trans a2
      clear a1 a2 hA
      have hjl' : (j : Int) < (L.length : Int) := by omega
      go_wp2
      · have h1 : p ≤ k := by assumption
        have h2 : k ≤ q := by assumption
        go_ret
        exact ⟨ret_b (by rw [HM.out, HS.out, decide_eq_true h1, decide_eq_true h2]; rfl), b0⟩
      · have h1 : p ≤ k := by assumption
        have h2 : ¬ k ≤ q := by omega
        go_roundg (gk - 1)
        case measure => omega
        case rel => exact ⟨j + 1, by go_num, by omega, by omega, by have h3 := HM.out; rw [HS.out, decide_eq_false h2, Bool.and_false, Bool.false_or] at h3; exact h3, rfl⟩
      · have h1 : ¬ p ≤ k := by omega
        go_roundg (gk - 1)
        case measure => omega
        case rel => exact ⟨j + 1, by go_num, by omega, by omega, by have h3 := HM.out; rw [HS.out, decide_eq_false h1, Bool.false_and, Bool.false_or] at h3; exact h3, rfl⟩
    · obtain rfl : j = L.length := by omega
      go_wp2
      go_ret
      exact ⟨ret_b (by have := HM.out; simpa [memB] using this.symm), b0⟩

theorem memB_neg {L : List (Int × Int)} (hc : Can 0 L) {r : Int} (hr : ptB r = false) : memB (-1) L = false := hc.out (by omega)
theorem rHas_any (v : Value) (L : List (Int × Int)) (r : Int) (w : World) (hv : Prs w v L) (hl : L.length ≤ 1000000) :
    Calls Tryz.prog 44 #[.agg #[v], .int .i32 r] w fun e w' => e = .returned (.bool (ptB r && memB (numP r) L)) ∧ Below w.heap.size w w' := by
  have HV := Lib.hid hv
  obtain ⟨a, c, rfl, hA⟩ := hv
  clear hA
  have b0 := (Below.refl w.heap.size w).alloc (Nat.le_refl _) (.cells #[.slice a L.length c] 33)
  cases hp : ptB r with
  | true =>
    have hb := numP_bds hp
    have c0 : (w.alloc (.cells #[.slice a L.length c] 33)).cell? ⟨w.heap.size, 0, none⟩ = some (.slice a L.length c) := by simp
    go_enter Tryz.func44, Tryz.ntmps44
    go_wp2
    generalize (w.alloc (.cells #[.slice a L.length c] 33)) = W at *
    refine wp_region_cls (AbW W) (by kernel_rfl) (by kernel_rfl) (AbW.drew W) ?_
    have hne := AbW.there W
    have k0 := AbW.cell c0
    have HW := HV.out.below b0
    repeat (go_big_quiet_step ((first
      | (go_at_call 97; rename_i u; exact cls_call AbW.keep (rhas_any _ L (numP r) _ (HW.below u.ok) hl))
      | (go_at_call 35; rename_i u; exact cls_same ((rNumber_any r _).mono (by rw [hp]; rintro e w1 ⟨rfl, rfl⟩; exact ⟨rfl, rfl⟩))))))
    refine wpQuiet_nil ?_
    rintro _ ⟨u, rfl⟩
    have hu := Lib.hid u.ok
    go_wp2_with fail
    go_ret
    exact ⟨rfl, b0.trans (hu.out.mono b0.size)⟩
  | false =>
    have c0 : (w.alloc (.cells #[.slice a L.length c] 33)).cell? ⟨w.heap.size, 0, none⟩ = some (.slice a L.length c) := by simp
    go_enter Tryz.func44, Tryz.ntmps44
    go_wp2
    generalize (w.alloc (.cells #[.slice a L.length c] 33)) = W at *
    refine wp_region_cls (AbW W) (by kernel_rfl) (by kernel_rfl) (AbW.drew W) ?_
    have hne := AbW.there W
    have k0 := AbW.cell c0
    repeat (go_big_quiet_step ((first
      | (go_at_call 97; fail)
      | (go_at_call 35; rename_i u; exact cls_same ((rNumber_any r _).mono (by rw [hp]; rintro e w1 ⟨rfl, rfl⟩; exact ⟨rfl, rfl⟩)))
      | fail)))
    refine wpQuiet_nil ?_
    rintro _ ⟨u, rfl⟩
    have hu := Lib.hid u.ok
    go_wp2_with fail
    go_ret
    exact ⟨rfl, b0.trans (hu.out.mono b0.size)⟩
end Go.Proofs.YtmbjjheaddhmeaaGreatDoor
