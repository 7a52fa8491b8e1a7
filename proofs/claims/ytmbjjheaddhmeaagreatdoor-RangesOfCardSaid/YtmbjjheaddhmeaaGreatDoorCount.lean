/- (*Set).Count. -/
import Derived.Test.YtmbjjheaddhmeaaGreatDoorVals
import Derived.Test.YtmbjjheaddhmeaaGreatDoorNot
namespace Go.Proofs.YtmbjjheaddhmeaaGreatDoor
open Go.RowKit Go.Shelf
attribute [local go_sem] Oper.semAt_some

/-- A span whose ends lie among the points' numbers. -/
abbrev BSp : Type := { x : Int × Int // 0 ≤ x.1 ∧ x.1 ≤ 1114367 ∧ 0 ≤ x.2 ∧ x.2 ≤ 1114367 }
def bval (x : BSp) : Int × Int := x.1
theorem bsp_mk : ∀ l : List (Int × Int), Bd l → ∃ zs : List BSp, zs.map bval = l
  | [], _ => ⟨[], rfl⟩
  | x :: l, h => by
    obtain ⟨zs, hz⟩ := bsp_mk l (fun y hy => h y (List.mem_cons_of_mem _ hy))
    exact ⟨(⟨x, h x List.mem_cons_self⟩ : BSp) :: zs, by show x :: zs.map bval = _; rw [hz]⟩

def countF (l : List (Int × Int)) : Int := l.foldl (fun s x => s + (numP x.2 - numP x.1 + 1)) 0
theorem countF_snoc (l : List (Int × Int)) (x : Int × Int) : countF (l ++ [x]) = countF l + (numP x.2 - numP x.1 + 1) := by simp [countF]
theorem numP_bd {r : Int} (h : 0 ≤ r ∧ r ≤ 1114367) : -2000 ≤ numP r ∧ numP r ≤ 1114367 := by unfold numP; split <;> (try split) <;> omega
theorem countF_bd (zs : List BSp) : -2000000 * (zs.length : Int) ≤ countF (zs.map bval) ∧ countF (zs.map bval) ≤ 2000000 * (zs.length : Int) := by
  obtain ⟨m, hm⟩ : ∃ m, zs.length = m := ⟨_, rfl⟩
  induction m generalizing zs with
  | zero => obtain rfl := List.eq_nil_of_length_eq_zero hm; simp [countF]
  | succ m ih =>
    obtain ⟨ys, y, rfl⟩ : ∃ ys y, zs = ys ++ [y] := by
      rcases List.eq_nil_or_concat zs with rfl | ⟨ys, y, rfl⟩
      · simp at hm
      · exact ⟨ys, y, by simp⟩
    have := ih ys (by simpa using hm)
    obtain ⟨h1, h2, h3, h4⟩ := y.2
    have e1 := numP_bd ⟨h1, h2⟩
    have e2 := numP_bd ⟨h3, h4⟩
    rw [List.map_append, List.map_singleton, countF_snoc]
    simp only [bval, List.length_append, List.length_singleton, Int.natCast_add, Int.natCast_one] at *
    omega

set_option maxRecDepth 100000 in
set_option maxHeartbeats 4000000 in
theorem count_walk (pb : Nat) (v : Value) (zs : List BSp) (w : World) (hc : w.cell? ⟨pb, 0, none⟩ = some v) (hI : Spans w v (zs.map bval)) (hl : zs.length ≤ 1000000) :
    Calls Tryz.prog 38 #[.pointer (some ⟨pb, 0, none⟩)] w fun e w' => e = .returned (.int .i64 (countF (zs.map bval))) ∧ Below w.heap.size w w' := by
  have hvs : ∃ a n c, v = .slice a n c := by obtain ⟨a, c, rfl, _⟩ := hI; exact ⟨_, _, _, rfl⟩
  have HI := Lib.hid hI
  have y1 : pb < w.heap.size := cell_lt hc
  refine (callsIn_wide (n := 4)).1 ?_
  have hro : Fence.wide.round = none := rfl
  have f5 : Fence.wide.fn 88 := trivial
  have f6 : Fence.wide.fn 132 := trivial
  have f7 : Fence.wide.fn 157 := trivial
  have h1 : 1 ≤ 4 := by omega
  clear hI
  refine callsIn_of_wp_marks Tryz.func38 rfl trivial ?_ hro
  simp only [Tryz.ntmps38, List.size_toArray, List.length_cons, List.length_nil, Nat.reduceAdd, Nat.reduceSub, Array.replicate_succ, Array.replicate_zero, List.push_toArray, List.append_toArray, List.nil_append, List.cons_append]
  have hc' : (w.alloc (.cells #[.int .i64 0] 3)).cell? ⟨pb, 0, none⟩ = some v := ((Below.refl w.heap.size w).alloc (Nat.le_refl _) _).cell (p := ⟨pb, 0, none⟩) y1 |>.trans hc
  gi_wp2_with (gi_at_call 88; refine (rows_in Fence.wide (4 - 1) f5 f6 hro (by omega) pb v hvs _ hc').mono ?_; rintro e w' ⟨rfl, rfl⟩)
  have hB0 : Below w.heap.size w ((w.alloc (.cells #[.int .i64 0] 3)).alloc (.cells #[v] 22)) := ((Below.refl _ w).alloc (Nat.le_refl _) _).alloc (by simp) _
  have bN := Boxed.new (w.alloc (.cells #[.int .i64 0] 3)) 22 v
  rw [World.size_alloc] at bN
  have bS := (Boxed.new w 3 (.int .i64 0)).alloc (.cells #[v] 22)
  refine wpIn_rangeFunc_ownH hro h1 (gf := 157) (lb := #[.pointer (some ⟨w.heap.size + 1, 0, none⟩)]) rfl f7 (enters_of Tryz.func157 (by kernel_rfl) rfl)
    (values_stops bval Fence.wide (4 - 1) f7 hro (by omega) (w.heap.size + 1) w.heap.size v zs hl _ (by simp) (by simp; omega) bN.cell w (Nat.le_refl _) HI.out hB0) belowK_t (belowK_b (by simp; omega)) (Below.refl _ _) (fun _ => rfl)
    (fun pre W => (W.cell? ⟨w.heap.size, 0, none⟩ = some (.int .i64 (countF (pre.map bval))) ∧ W.frozen? ⟨w.heap.size, 0, none⟩ = false) ∧ Below w.heap.size w W)
    (fun _ _ _ => False)
    (OwnFrom.and (Own.from (fun s A B row hs hg hr => ⟨cell_kept hs.1 hg hr, (frozen_kept hs.1 hg hr).trans hs.2⟩) _) (ownFrom_below (Nat.le_refl _) (by simp; omega)))
    (fun _ _ _ _ _ hs _ _ => hs)
    ⟨⟨bS.cell, bS.frozen⟩, hB0⟩
    (fun x a' W => ∃ Bx : Nat, (w.heap.size < Bx ∧ Bx < W.heap.size) ∧ W.cell? ⟨Bx, 0, none⟩ = some (.int .i32 x.1.1) ∧ W.cell? ⟨Bx, 1, none⟩ = some (.int .i32 x.1.2) ∧
      a' = { tmps := #[.pointer (some ⟨pb, 0, none⟩), undef, .int .i64 0, .pointer (some ⟨w.heap.size, 0, none⟩), .pointer (some ⟨Bx, 0, none⟩), .pointer (some ⟨pb, 0, none⟩), .func (.func 157) #[] #[.pointer (some ⟨w.heap.size + 1, 0, none⟩)], .agg #[.int .i32 x.1.1, .int .i32 x.1.2], undef, undef, undef, undef, undef, undef, undef, undef, undef, undef, undef], defers := [] })
    (fun x a' s A B row hs hg hr => by
      obtain ⟨Bx, h1, h2, h3, h4⟩ := hs
      exact ⟨Bx, ⟨h1.1, Nat.lt_of_lt_of_le h1.2 hg.size⟩, cell_kept h2 hg (fun r e => (hr r e).2), cell_kept h3 hg (fun r e => (hr r e).2), h4⟩) ?assign ?body ?done ?stop
  case assign =>
    rintro l pre x W K ⟨⟨hc1, hf1⟩, hB⟩ hK
    have hsx : spV (bval x) = .agg #[.int .i32 x.1.1, .int .i32 x.1.2] := rfl
    gi_wp2
    have hsz := hB.size
    have hlt : w.heap.size < W.heap.size := cell_lt hc1
    have BA := (Below.refl W.heap.size W).alloc (Nat.le_refl _) (.cells #[.int .i32 x.1.1, .int .i32 x.1.2] 39)
    refine hK _ _ ((KeepsOthers.alloc _ _).from _) ((Below.refl _ W).alloc hB.size (.cells #[.int .i32 x.1.1, .int .i32 x.1.2] 39)) ⟨⟨(BA.cell (p := ⟨w.heap.size, 0, none⟩) hlt).trans hc1, (BA.frozen (p := ⟨w.heap.size, 0, none⟩) hlt).trans hf1⟩, hB.trans (BA.mono hsz)⟩ ⟨W.heap.size, ⟨hlt, by simp⟩, by simp, by simp, rfl⟩
  case body =>
    rintro l pre x a' W hl ⟨r, hr⟩ ⟨⟨hc1, hf1⟩, hB⟩ ⟨Bx, hBx, d1, d2, rfl⟩ hlt
    have hx := x.2
    have hcs := countF_bd pre
    have HCN := Lib.hid (countF_snoc (pre.map bval) (bval x))
    have hmix : Tryz.prog.follows Departure.mixedOrders = true := by kernel_rfl
    have e1 := numP_bd ⟨hx.2.2.1, hx.2.2.2⟩
    have e2 := numP_bd ⟨hx.1, hx.2.1⟩
    have e0 : (bval x) = x.1 := rfl
    rw [e0] at HCN
    clear e0
    generalize countF (pre.map bval) = C at *
    have q1 : IntKind.i64.wrap (numP x.1.2 - numP x.1.1) = numP x.1.2 - numP x.1.1 := IntWalk.i64_in _ (by omega)
    have q2 : IntKind.i64.wrap (numP x.1.2 - numP x.1.1 + 1) = numP x.1.2 - numP x.1.1 + 1 := IntWalk.i64_in _ (by omega)
    have q3 : IntKind.i64.wrap (C + (numP x.1.2 - numP x.1.1 + 1)) = C + (numP x.1.2 - numP x.1.1 + 1) := IntWalk.i64_in _ (by omega)
    have Q1 := Lib.hid q1
    have Q2 := Lib.hid q2
    have Q3 := Lib.hid q3
    clear q1 q2 q3
    gi_wp2
    gi_region_with_o ((refine ⟨trivial, ?_⟩; gi_at_call 92; refine (CallsIn.inRound l (callsIn_wide.2 (number_any _ (by omega) (by omega) _))).mono ?_; rintro e w' ⟨rfl, rfl⟩))
    all_goals gi_wp2
    all_goals
      rw [Q1.out, Q2.out, Q3.out]
      refine ⟨((KeepsOthers.setCell _ _ _).trans (KeepsOthers.drew _)).from _, ((Below.refl _ W).setCell (p := ⟨w.heap.size, 0, none⟩) (Nat.le_refl _) _).drew, ⟨?_, ?_⟩, (hB.setCell (p := ⟨w.heap.size, 0, none⟩) (Nat.le_refl _) _).drew⟩
      · rw [List.map_append, List.map_singleton, show bval x = x.1 from rfl, HCN.out]
        exact World.cell?_setCell_same _ _ _ hc1
      · exact (World.frozen?_setCell _ _ _ _).trans hf1
  case done =>
    rintro D ys W hD rfl ⟨⟨hc1, hf1⟩, hB⟩ hK
    gi_wp2
    refine ⟨by simp, .inl ⟨_, _, rfl, run_takeDeferred hK, ?_⟩⟩
    exact ⟨_, results_tmp rfl _ _ _, rfl, hB.trans (belowK_b (w := w) (Nat.le_refl _) W D _ _ (by simp at hD; omega) hK rfl rfl)⟩
  case stop =>
    rintro D c pre W _ _ h _
    exact h.elim

theorem count_any (p : Value) (l : List (Int × Int)) (w : World) (hp : IsSet w p l) (hb : Bd l) (hl : l.length ≤ 1000000) :
    Calls Tryz.prog 38 #[p] w fun e w' => e = .returned (.int .i64 (countF l)) ∧ Below w.heap.size w w' := by
  obtain ⟨b, v, rfl, hc, hs⟩ := hp
  obtain ⟨zs, rfl⟩ := bsp_mk l hb
  exact count_walk b v zs w hc hs (by simpa using hl)

end Go.Proofs.YtmbjjheaddhmeaaGreatDoor
