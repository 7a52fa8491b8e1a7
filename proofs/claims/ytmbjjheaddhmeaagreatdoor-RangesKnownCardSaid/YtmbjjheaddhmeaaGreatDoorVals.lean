/- slices.Values at spans, rows. -/
import Derived.RangeFuncNested
import Derived.RangeFuncBound
import Derived.RangeFuncCalls
import Derived.RangeFuncLeaves
import Derived.Shelf.Abstract
import Derived.Shelf.RegionOpen
import Derived.WalkKit
import Derived.OwnWalkIn
import Derived.TacticsInMore
import Derived.LoopNIn
import Derived.LoopIn
import Derived.Test.YtmbjjheaddhmeaaGreatDoorM
namespace Go.Proofs.YtmbjjheaddhmeaaGreatDoor
open Go.RowKit Go.Shelf
attribute [local go_sem] Oper.semAt_some

def spV (x : Int × Int) : Value := .agg #[.int .i32 x.1, .int .i32 x.2]

theorem take_snoc' {α : Type} (zs : List α) (k : Nat) (hk : k < zs.length) : zs.take (k + 1) = zs.take k ++ [zs[k]] := List.take_succ_eq_append_getElem hk
theorem map_at {α : Type} (val : α → Int × Int) (zs : List α) (k : Nat) (hk : k < zs.length) : (zs.map val)[k]?.getD (0, 0) = val zs[k] := by simp [hk]

set_option maxRecDepth 100000 in
set_option maxHeartbeats 2000000 in
theorem values1_in {α : Type} (val : α → Int × Int) (F : Fence) (n : Nat) (h7 : F.fn 157) (hro : F.round = none) (hn : 1 ≤ n) (l Bs n₀ b off cap : Nat) (zs : List α) (hreach : zs.length ≤ 1000000) (hb : b < n₀) (J Jx : List α → World → Prop)
    (hJA : ∀ pre W o, J pre W → J pre (W.alloc o))
    (hY : ∀ pre x W, J pre W → pre.length < zs.length → YieldAt F (n - 1) Tryz.prog l #[spV (val x)] W fun e W' =>
      (e = .returned (.bool true) ∧ J (pre ++ [x]) W' ∧ Below n₀ W W') ∨ (e = .returned (.bool false) ∧ Jx (pre ++ [x]) W'))
    (W : World) (hn₀ : n₀ ≤ W.heap.size) (hBs : W.cell? ⟨Bs, 0, none⟩ = some (.slice (some ⟨b, off, none⟩) zs.length cap))
    (hc : ∀ j, j < zs.length → W.cell? ⟨b, off + j * 2, none⟩ = some (.int .i32 ((zs.map val)[j]?.getD (0, 0)).1) ∧ W.cell? ⟨b, off + j * 2 + 1, none⟩ = some (.int .i32 ((zs.map val)[j]?.getD (0, 0)).2)) (h0 : J [] W) :
    CallsIn F n Tryz.prog 157 #[.func (.yield l) #[] #[], .pointer (some ⟨Bs, 0, none⟩)] W fun e W' => (∃ v, e = .returned v) ∧
      ((∃ ys, ys = zs ∧ J ys W') ∨ (∃ pre, pre <+: zs ∧ Jx pre W')) := by
  refine callsIn_of_wp Tryz.func157 rfl h7 ?_ hro
  simp only [Tryz.ntmps157, List.size_toArray, List.length_cons, List.length_nil, Nat.reduceAdd, Nat.reduceSub, Array.replicate_succ, Array.replicate_zero, List.push_toArray, List.append_toArray, List.nil_append, List.cons_append]
  gi_wp2
  gi_loopw [7] (fun i wr => ∃ k : Nat, k ≤ zs.length ∧ i = .int .i64 k ∧ J (zs.take k) wr ∧ Below n₀ W wr)
    (fun i _ => zs.length - (intOf i).toNat)
  case atStart => exact ⟨0, Nat.zero_le _, rfl, h0, Below.refl _ _⟩
  case round =>
    obtain ⟨k, hk, rfl, hJs, hnx⟩ := hrel
    have hbig : n₀ ≤ wr.heap.size := Nat.le_trans hn₀ hnx.size
    by_cases hlt : k < zs.length
    · obtain ⟨a1, a2⟩ := hc k hlt
      have hts := take_snoc' zs k hlt
      rw [map_at val zs k hlt] at a1 a2
      generalize zs[k] = x0 at *
      obtain ⟨p, q, hpq⟩ : ∃ p q, val x0 = (p, q) := ⟨_, _, rfl⟩
      rw [hpq] at a1 a2
      have a1' := (hnx.cell (p := ⟨b, off + k * 2, none⟩) hb).trans a1
      have a2' := (hnx.cell (p := ⟨b, off + k * 2 + 1, none⟩) hb).trans a2
      dsimp only at a1' a2'
      obtain ⟨fn, tmps, assign, body, hy, hR⟩ := hY _ x0 (wr.alloc (.cells #[.int .i32 p, .int .i32 q] 39)) (hJA _ _ _ hJs) (by rw [List.length_take]; omega)
      have hy' : (Instr.yield l #[.agg #[.int .i32 p, .int .i32 q]]).run Tryz.prog (wr.alloc (.cells #[.int .i32 p, .int .i32 q] 39)) = .ok (.round l fn tmps assign body) (wr.alloc (.cells #[.int .i32 p, .int .i32 q] 39)) := by rw [show (.agg #[.int .i32 p, .int .i32 q] : Value) = spV (val x0) by rw [hpq]; rfl]; exact hy
      have hlt' : (k : Int) < (zs.length : Int) := by omega
      have HTS : Hid (zs.take (k + 1) = zs.take k ++ [x0]) := hts
      clear hpq hy a1 a2 hts hc
      gi_wp2
      refine hR.mono ?_
      rintro e W3 (⟨rfl, hJ3, hk3⟩ | ⟨rfl, hJx3⟩)
      · gi_wp2
        go_roundw
        case rel => exact ⟨k + 1, by omega, by simp, by rw [HTS.out]; exact hJ3, hnx.trans (((Below.refl n₀ wr).alloc hbig _).trans hk3)⟩
        case measure => simp [intOf]; omega
      · gi_wp2
        refine bodyPost_ret (results_none rfl _ _ _) rfl ?_
        exact ⟨⟨_, rfl⟩, .inr ⟨_, by rw [← HTS.out]; exact List.take_prefix _ _, hJx3⟩⟩
    · obtain rfl : k = zs.length := by omega
      gi_wp2
      go_end0
      exact ⟨⟨_, rfl⟩, .inl ⟨_, List.take_length, hJs⟩⟩

set_option maxRecDepth 100000 in
set_option maxHeartbeats 1000000 in
theorem values1_nil_in {α : Type} (F : Fence) (n : Nat) (h7 : F.fn 157) (hro : F.round = none) (l Bs : Nat) (a : Option Addr) (c : Nat) (J : List α → World → Prop) (W : World) (hBs : W.cell? ⟨Bs, 0, none⟩ = some (.slice a 0 c)) (h0 : J [] W) :
    CallsIn F n Tryz.prog 157 #[.func (.yield l) #[] #[], .pointer (some ⟨Bs, 0, none⟩)] W fun e W' => (∃ v, e = .returned v) ∧ J [] W' := by
  refine callsIn_of_wp Tryz.func157 rfl h7 ?_ hro
  simp only [Tryz.ntmps157, List.size_toArray, List.length_cons, List.length_nil, Nat.reduceAdd, Nat.reduceSub, Array.replicate_succ, Array.replicate_zero, List.push_toArray, List.append_toArray, List.nil_append, List.cons_append]
  gi_wp2
  gi_loopw [7] (fun i wr => i = .int .i64 0 ∧ J [] wr) (fun _ _ => 0)
  case atStart => exact ⟨rfl, h0⟩
  case round =>
    obtain ⟨rfl, hJs⟩ := hrel
    gi_wp2
    go_end0
    exact ⟨⟨_, rfl⟩, hJs⟩

set_option maxHeartbeats 1000000 in
theorem values_in (F : Fence) (n : Nat) (h5 : F.fn 132) (hro : F.round = none) (v : Value) (hv : ∃ a n c, v = .slice a n c) (w : World) :
    CallsIn F n Tryz.prog 132 #[v] w fun e w' => e = .returned (.func (.func 157) #[] #[.pointer (some ⟨w.heap.size, 0, none⟩)]) ∧ w' = w.alloc (.cells #[v] 22) := by
  obtain ⟨a, len, cap, rfl⟩ := hv
  refine callsIn_of_wp Tryz.func132 rfl h5 ?_ hro
  simp only [Tryz.ntmps132, List.size_toArray, List.length_cons, List.length_nil, Nat.reduceAdd, Nat.reduceSub, Array.replicate_succ, Array.replicate_zero, List.push_toArray, List.append_toArray, List.nil_append, List.cons_append]
  gi_wp2
  go_ret
  exact ⟨rfl, rfl⟩

set_option maxHeartbeats 1000000 in
theorem rows_in (F : Fence) (n : Nat) (h5 : F.fn 88) (h6 : F.fn 132) (hro : F.round = none) (hn : 2 ≤ n) (b : Nat) (v : Value) (hv : ∃ a n c, v = .slice a n c) (w : World) (hc : w.cell? ⟨b, 0, none⟩ = some v) :
    CallsIn F n Tryz.prog 88 #[.pointer (some ⟨b, 0, none⟩)] w fun e w' => e = .returned (.func (.func 157) #[] #[.pointer (some ⟨w.heap.size, 0, none⟩)]) ∧ w' = w.alloc (.cells #[v] 22) := by
  have h1 : 1 ≤ n := by omega
  refine callsIn_of_wp Tryz.func88 rfl h5 ?_ hro
  simp only [Tryz.ntmps88, List.size_toArray, List.length_cons, List.length_nil, Nat.reduceAdd, Nat.reduceSub, Array.replicate_succ, Array.replicate_zero, List.push_toArray, List.append_toArray, List.nil_append, List.cons_append]
  gi_wp2_with (gi_at_call 132; refine (values_in F (n - 1) h6 hro v hv _).mono ?_; rintro e w' ⟨rfl, rfl⟩)
  go_ret
  exact ⟨rfl, rfl⟩

/-- The iterator over a slice's spans: all of them, in order; or a prefix, where a round says 'no more'. -/
theorem values_stops {α : Type} (val : α → Int × Int) (F : Fence) (n : Nat) (h7 : F.fn 157) (hro : F.round = none) (hn : 1 ≤ n) (Bs n₀ : Nat) (v : Value) (zs : List α) (hreach : zs.length ≤ 1000000) (w : World) (hBs : Bs < w.heap.size) (hn₀ : n₀ ≤ w.heap.size)
    (hc : w.cell? ⟨Bs, 0, none⟩ = some v) (w0 : World) (hw0 : w0.heap.size ≤ n₀) (hI : Spans w0 v (zs.map val)) (hb0 : Below w0.heap.size w0 w) :
    SeqStopsK F n Tryz.prog 157 #[.pointer (some ⟨Bs, 0, none⟩)] (fun x : α => #[spV (val x)]) (Below n₀) (fun ys => ys = zs) (fun pre => pre <+: zs) zs.length w := fun l J Jx W hW hJ _ hY h0 => by
  have hc' := (hW.cell (p := ⟨Bs, 0, none⟩) hBs).trans hc
  have hb1 : Below w0.heap.size w0 W := hb0.trans (hW.mono (Nat.le_trans hw0 hn₀))
  obtain ⟨a, c, rfl, hA⟩ := hI
  rcases hA with hz | ⟨b, off, rfl, hA⟩
  · obtain rfl : zs = [] := by simpa using hz
    exact (values1_nil_in F n h7 hro l Bs a c J W hc' h0).mono fun e W' ⟨he, hj⟩ => ⟨he, .inl ⟨_, rfl, hj⟩⟩
  · by_cases hz : zs.length = 0
    · obtain rfl : zs = [] := List.eq_nil_of_length_eq_zero hz
      exact (values1_nil_in F n h7 hro l Bs _ c J W hc' h0).mono fun e W' ⟨he, hj⟩ => ⟨he, .inl ⟨_, rfl, hj⟩⟩
    · have hbn : b < n₀ := Nat.lt_of_lt_of_le (cell_lt (hA 0 (by simp; omega)).1) hw0
      rw [List.length_map] at hc' hA
      exact values1_in val F n h7 hro hn l Bs n₀ b off c zs hreach hbn J Jx (fun pre X o h => hJ _ _ _ none h (World.grownBy_alloc X o none) (fun r e => by cases e)) hY W (Nat.le_trans hn₀ hW.size) hc'
        (fun j hj => ⟨(hb1.cell (p := ⟨b, off + j * 2, none⟩) (cell_lt (hA j hj).1)).trans (hA j hj).1, (hb1.cell (p := ⟨b, off + j * 2 + 1, none⟩) (cell_lt (hA j hj).2)).trans (hA j hj).2⟩) h0

end Go.Proofs.YtmbjjheaddhmeaaGreatDoor
