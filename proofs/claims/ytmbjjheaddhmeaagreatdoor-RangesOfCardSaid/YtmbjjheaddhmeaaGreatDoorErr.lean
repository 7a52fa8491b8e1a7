/- An error's number and its place: Num, Place, At, told. -/
import Derived.Test.YtmbjjheaddhmeaaGreatDoorErrAs
import Derived.Test.YtmbjjheaddhmeaaGreatDoorCls
import Derived.Deep.LoopGhost
import Derived.Lib.Hide
namespace Go.Proofs.YtmbjjheaddhmeaaGreatDoor
open Go.RowKit

theorem num_nil (w : World) : Calls Tryz.prog 86 #[.nilIface] w fun e w' => e = .returned (.int .i64 0) ∧ w' = w := by
  go_enter Tryz.func86, Tryz.ntmps86
  go_wp2
  go_ret
  exact ⟨rfl, rfl⟩

theorem is_fault' (no line k n : Int) (w : World) :
    Calls Tryz.prog 130 #[.iface 81 (.agg #[.int .i64 no, .int .i64 line, .int .i64 k]), .iface 79 (.int .i64 n)] w fun e w' => e = .returned (.bool (no == n)) ∧ Below w.heap.size w w' :=
  (is_fault no line k n w).mono fun _ _ ⟨he, hw⟩ => ⟨he, hw ▸ (Below.refl _ w).alloc (Nat.le_refl _) _⟩

set_option maxRecDepth 100000 in
set_option maxHeartbeats 4000000 in
/-- The number of a Fault. -/
theorem num_fault (no line k : Int) (w : World) (h1 : 1 ≤ no) (h2 : no ≤ 25) :
    Calls Tryz.prog 86 #[.iface 81 (.agg #[.int .i64 no, .int .i64 line, .int .i64 k])] w fun e w' => e = .returned (.int .i64 no) ∧ Below w.heap.size w w' := by
  have hne : (no == 0) = false := by simp; omega
  go_enter Tryz.func86, Tryz.ntmps86
  go_wp2
  go_loopg [3, 4] 25 (fun g f i wr => ∃ c : Nat, i = .int .i64 c ∧ 1 ≤ c ∧ c ≤ 26 ∧ 26 - c ≤ g ∧ f = .int .i64 (if no < c then no else 0) ∧ Below w.heap.size w wr)
  case atStart => exact ⟨1, rfl, by omega, by omega, by omega, by rw [if_neg (by omega)], Below.refl _ _⟩
  case round =>
    obtain ⟨c, rfl, hc1, hc2, hg, rfl, hb⟩ := hrel
    by_cases hc : c ≤ 25
    · have hcl : (c : Int) ≤ 25 := by omega
      have hs := hb.size
      by_cases hlt : no < (c : Int)
      · rw [if_pos hlt]
        have hq : (no == (c : Int)) = false := by simp; omega
        go_wp2_with (go_at_call 130; refine (is_fault' _ line k c _).mono ?_; rw [hq]; rintro e w1 ⟨rfl, hB1⟩)
        go_roundg (gk - 1)
        case measure => omega
        case rel => exact ⟨c + 1, by go_num, by omega, by omega, by omega, by rw [if_pos (by omega)], hb.trans (hB1.mono hs)⟩
      · rw [if_neg hlt]
        by_cases he : no = (c : Int)
        · subst he
          have hq : ((c : Int) == (c : Int)) = true := beq_self_eq_true _
          clear hlt hne
          go_wp2_with (go_at_call 130; refine (is_fault' _ line k c _).mono ?_; rw [hq]; rintro e w1 ⟨rfl, hB1⟩)
          go_roundg (gk - 1)
          case measure => omega
          case rel => exact ⟨c + 1, by go_num, by omega, by omega, by omega, by rw [if_pos (by omega)], hb.trans (hB1.mono hs)⟩
        · have hq : (no == (c : Int)) = false := by simp; omega
          go_wp2_with (go_at_call 130; refine (is_fault' _ line k c _).mono ?_; rw [hq]; rintro e w1 ⟨rfl, hB1⟩)
          go_roundg (gk - 1)
          case measure => omega
          case rel => exact ⟨c + 1, by go_num, by omega, by omega, by omega, by rw [if_neg (by omega)], hb.trans (hB1.mono hs)⟩
    · obtain rfl : c = 26 := by omega
      rw [if_pos (by omega)]
      have hs := hb.size
      go_wp2_with (go_at_call 130; refine (is_fault' _ line k 0 _).mono ?_; rw [hne]; rintro e w1 ⟨rfl, hB1⟩)
      go_ret
      exact ⟨rfl, hb.trans (hB1.mono hs)⟩

/-- The package errors' own variable: the type 'error'. -/
def ErrT (w : World) : Prop := w.cell? ⟨0, 0, none⟩ = some (.iface 285 (.agg #[.pointer (some ⟨7, 27, none⟩)]))
theorem ErrT.below {w w' : World} (hb : Below w.heap.size w w') (h : ErrT w) : ErrT w' := (hb.cell (p := ⟨0, 0, none⟩) (cell_lt h)).trans h

theorem as_fault (no line k : Int) (w : World) (hg : ErrT w) :
    Calls Tryz.prog 129 #[.iface 81 (.agg #[.int .i64 no, .int .i64 line, .int .i64 k]), .iface 242 (.pointer (some ⟨w.heap.size, 0, none⟩))] (w.alloc (.cells #[.int .i64 0, .int .i64 0, .int .i64 0] 81)) fun ev w' => ev = .returned (.bool true) ∧
      w'.cell? ⟨w.heap.size, 0, none⟩ = some (.int .i64 no) ∧ w'.cell? ⟨w.heap.size, 1, none⟩ = some (.int .i64 line) ∧ w'.cell? ⟨w.heap.size, 2, none⟩ = some (.int .i64 k) ∧ Below w.heap.size w w' := by
  have b1 := (Below.refl w.heap.size w).alloc (Nat.le_refl _) (.cells #[.int .i64 0, .int .i64 0, .int .i64 0] 81)
  refine (as_hit no line k _ _ _ w.heap.size (w.alloc (.cells #[.int .i64 0, .int .i64 0, .int .i64 0] 81)) (hg.below b1) (World.cell?_alloc_at _ _ _ _ rfl) (World.cell?_alloc_at _ _ _ _ rfl) (World.cell?_alloc_at _ _ _ _ rfl) (by simp) (by simp) (by simp)).mono ?_
  rintro ev w' ⟨rfl, rfl⟩
  generalize hX : ((((w.alloc (.cells #[.int .i64 0, .int .i64 0, .int .i64 0] 81)).alloc _).alloc _).alloc _).alloc _ = X
  have bX : Below w.heap.size w X := by
    rw [← hX]
    exact ((((b1.alloc (by simp) _).alloc (by simp; omega) _).alloc (by simp; omega) _).alloc (by simp; omega) _)
  have x0 : ∀ o, o < 3 → X.cell? ⟨w.heap.size, o, none⟩ = some (.int .i64 0) := fun o ho => by
    rw [← hX, World.cell?_alloc_lt _ _ ⟨w.heap.size, o, none⟩ (by simp; omega), World.cell?_alloc_lt _ _ ⟨w.heap.size, o, none⟩ (by simp; omega), World.cell?_alloc_lt _ _ ⟨w.heap.size, o, none⟩ (by simp; omega), World.cell?_alloc_lt _ _ ⟨w.heap.size, o, none⟩ (by simp)]
    have : o = 0 ∨ o = 1 ∨ o = 2 := by omega
    rcases this with rfl | rfl | rfl <;> exact World.cell?_alloc_at _ _ _ _ rfl
  clear hX
  have y1 := (World.cell?_setCell_other X ⟨w.heap.size, 0, none⟩ ⟨w.heap.size, 1, none⟩ (.int .i64 no) (by simp)).trans (x0 1 (by omega))
  have y2 := (World.cell?_setCell_other X ⟨w.heap.size, 0, none⟩ ⟨w.heap.size, 2, none⟩ (.int .i64 no) (by simp)).trans (x0 2 (by omega))
  have y0 := World.cell?_setCell_same X ⟨w.heap.size, 0, none⟩ (.int .i64 no) (x0 0 (by omega))
  have bY := bX.setCell (p := ⟨w.heap.size, 0, none⟩) (Nat.le_refl _) (.int .i64 no)
  generalize X.setCell ⟨w.heap.size, 0, none⟩ (.int .i64 no) = Y at *
  have z0 := (World.cell?_setCell_other Y ⟨w.heap.size, 1, none⟩ ⟨w.heap.size, 0, none⟩ (.int .i64 line) (by simp)).trans y0
  have z2 := (World.cell?_setCell_other Y ⟨w.heap.size, 1, none⟩ ⟨w.heap.size, 2, none⟩ (.int .i64 line) (by simp)).trans y2
  have z1 := World.cell?_setCell_same Y ⟨w.heap.size, 1, none⟩ (.int .i64 line) y1
  have bZ := bY.setCell (p := ⟨w.heap.size, 1, none⟩) (Nat.le_refl _) (.int .i64 line)
  generalize Y.setCell ⟨w.heap.size, 1, none⟩ (.int .i64 line) = Z at *
  exact ⟨rfl, (World.cell?_setCell_other Z ⟨w.heap.size, 2, none⟩ ⟨w.heap.size, 0, none⟩ (.int .i64 k) (by simp)).trans z0, (World.cell?_setCell_other Z ⟨w.heap.size, 2, none⟩ ⟨w.heap.size, 1, none⟩ (.int .i64 k) (by simp)).trans z1,
    World.cell?_setCell_same Z ⟨w.heap.size, 2, none⟩ (.int .i64 k) z2, bZ.setCell (p := ⟨w.heap.size, 2, none⟩) (Nat.le_refl _) (.int .i64 k)⟩

set_option maxRecDepth 100000 in
set_option maxHeartbeats 4000000 in
/-- The place that a Fault tells. -/
theorem place_fault (no line k : Int) (w : World) (h1 : 1 ≤ no) (h2 : no ≤ 25) (hg : ErrT w) :
    Calls Tryz.prog 85 #[.iface 81 (.agg #[.int .i64 no, .int .i64 line, .int .i64 k])] w fun e w' => e = .returned (.tuple #[.int .i64 line, .int .i64 k, .bool true]) ∧ Below w.heap.size w w' := by
  have HG := Lib.hid hg
  go_enter Tryz.func85, Tryz.ntmps85
  go_wp2_with (go_at_call 129; refine (as_fault no line k w HG.out).mono ?_; rintro e w1 ⟨rfl, c0, c1, c2, hB1⟩)
  refine wp_region_cls (AbW w1) (by kernel_rfl) (by kernel_rfl) (AbW.drew w1) ?_
  have hne := AbW.there w1
  have k0 := AbW.cell c0
  have k1 := AbW.cell c1
  have k2 := AbW.cell c2
  repeat (go_big_quiet_step ((first
    | (go_at_call 86; rename_i u; exact cls_call AbW.keep (num_fault no line k _ h1 h2)))))
  refine wpQuiet_nil ?_
  rintro _ ⟨u, rfl⟩
  have hu := Lib.hid u.ok
  go_wp2_with fail
  go_ret3
  exact ⟨rfl, hB1.trans (hu.out.mono hB1.size)⟩

set_option maxRecDepth 100000 in
set_option maxHeartbeats 4000000 in
theorem at_fault (no line k : Int) (w : World) (h1 : 1 ≤ no) (h2 : no ≤ 25) (hg : ErrT w) :
    Calls Tryz.prog 36 #[.iface 81 (.agg #[.int .i64 no, .int .i64 line, .int .i64 k]), .int .i64 no, .int .i64 line, .int .i64 k] w fun e w' => e = .returned (.bool true) ∧ Below w.heap.size w w' := by
  have HG := Lib.hid hg
  have hn0 : (no == 0) = false := by simp; omega
  go_enter Tryz.func36, Tryz.ntmps36
  go_wp2_with (first
    | (go_at_call 86; refine (num_fault no line k _ h1 h2).mono ?_; rintro e w2 ⟨rfl, hB2⟩)
    | (go_at_call 85; refine (place_fault no line k w h1 h2 HG.out).mono ?_; rintro e w1 ⟨rfl, hB1⟩))
  go_ret
  exact ⟨rfl, hB1.trans (hB2.mono hB1.size)⟩

theorem told_nil (k : Int) (w : World) : Calls Tryz.prog 11 #[.nilIface, .int .i64 0, .int .i64 k] w fun e w' => e = .returned (.bool true) ∧ Below w.heap.size w w' := by
  go_enter Tryz.func11, Tryz.ntmps11
  go_wp2
  go_ret
  exact ⟨rfl, Below.refl _ _⟩

theorem told_fault (no k : Int) (w : World) (h1 : 1 ≤ no) (h2 : no ≤ 25) (hg : ErrT w) :
    Calls Tryz.prog 11 #[.iface 81 (.agg #[.int .i64 no, .int .i64 0, .int .i64 k]), .int .i64 no, .int .i64 k] w fun e w' => e = .returned (.bool true) ∧ Below w.heap.size w w' := by
  have HG := Lib.hid hg
  have hn0 : (no == 0) = false := by simp; omega
  go_enter Tryz.func11, Tryz.ntmps11
  go_wp2_with (go_at_call 36; refine (at_fault no 0 k w h1 h2 HG.out).mono ?_; rintro e w1 ⟨rfl, hB1⟩)
  go_ret
  exact ⟨rfl, hB1⟩
end Go.Proofs.YtmbjjheaddhmeaaGreatDoor
