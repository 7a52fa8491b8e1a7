/- The spans of the document's sets, and their first points. -/
import Derived.Test.YtmbjjheaddhmeaaGreatDoorSameR
import Derived.Deep.RegionHeld3
import Derived.Deep.LoopGhost
import Derived.Deep.AppendLies
import Derived.BigRegion
namespace Go.Proofs.YtmbjjheaddhmeaaGreatDoor
open Go.RowKit

def ptS (L : List (Int × Int)) : List (Int × Int) := L.map fun x => (ptK x.1, ptK x.2)
theorem ptS_len (L : List (Int × Int)) : (ptS L).length = L.length := List.length_map ..
theorem ptS_get (L : List (Int × Int)) (k : Nat) (hk : k < L.length) : (ptS L)[k]?.getD (0, 0) = (ptK (L[k]?.getD (0, 0)).1, ptK (L[k]?.getD (0, 0)).2) := by simp [ptS, hk]
theorem ptS_nums {l : List (Int × Int)} (hp : ∀ x ∈ l, ptB x.1 = true ∧ ptB x.2 = true) : ptS (l.map nm) = l := by
  rw [ptS, List.map_map]
  conv => rhs; rw [← List.map_id l]
  refine List.map_congr_left fun x hx => ?_
  show (ptK (numP x.1), ptK (numP x.2)) = x
  rw [ptK_numP (hp x hx).1, ptK_numP (hp x hx).2]

set_option maxRecDepth 100000 in
set_option maxHeartbeats 4000000 in
theorem rSpans_any (v : Value) (L : List (Int × Int)) (w : World) (hv : Prs w v L) (hn : NumR L) (hl : L.length ≤ 1000000) :
    Calls Tryz.prog 41 #[.agg #[v]] w fun e w' => ∃ a c, e = .returned (.slice a L.length c) ∧ Spans w' (.slice a L.length c) (ptS L) ∧ Below w.heap.size w w' := by
  obtain ⟨i0, hi0, hz0, hz1, hz2⟩ := info_parts Tryz.infoSpanN
  obtain ⟨a, c, rfl, hA⟩ := hv
  have HN := Lib.hid hn
  clear hn
  have b0 := (Below.refl w.heap.size w).alloc (Nat.le_refl _) (.cells #[.slice a L.length c] 33)
  have c0 : (w.alloc (.cells #[.slice a L.length c] 33)).cell? ⟨w.heap.size, 0, none⟩ = some (.slice a L.length c) := by simp
  have h0 : (w.alloc (.cells #[.slice a L.length c] 33)).heap.size = w.heap.size + 1 := by simp
  go_enter Tryz.func41, Tryz.ntmps41
  go_wp2
  generalize w.alloc (.cells #[.slice a L.length c] 33) = W at *
  have hW : w.heap.size < W.heap.size := by omega
  go_loopg [3, 4] L.length (fun g s i wr => ∃ k : Nat, i = .int .i64 k ∧ k ≤ L.length ∧ L.length - k ≤ g ∧ Hid (wr.ownsRow W.heap.size 39 2 s k (flat ((ptS L).take k))) ∧ Below W.heap.size W wr)
  case atStart => exact ⟨0, rfl, by omega, by omega, World.ownsRow_nil _ _ _ _, Below.refl _ _⟩
  case round =>
    obtain ⟨k, rfl, hk, hg, hown, hb⟩ := hrel
    obtain ⟨av, cv, rfl⟩ := owns_slice hown.out
    have c1 := (hb.cell (p := ⟨w.heap.size, 0, none⟩) hW).trans c0
    by_cases hkl : k < L.length
    · rcases hA with h | ⟨ba, oa, rfl, hA⟩
      · subst h; simp at hkl
      obtain ⟨a1, a2⟩ := hA k hkl
      obtain ⟨n1, n2, n3, n4⟩ := HN.out.get k hkl
      have ht := flat_take_snoc (ptS L) k (by rw [ptS_len]; exact hkl)
      rw [ptS_get L k hkl] at ht
      generalize L[k]?.getD (0, 0) = x at *
      obtain ⟨p, q⟩ := x
      dsimp only at a1 a2 n1 n2 n3 n4 ht
      have HT := Lib.hid ht
      have q1 := Nat.lt_trans (cell_lt a1) hW
      have a1' := (hb.cell (p := ⟨ba, oa + k * 2, none⟩) q1).trans ((b0.cell (p := ⟨ba, oa + k * 2, none⟩) (cell_lt a1)).trans a1)
      have a2' := (hb.cell (p := ⟨ba, oa + k * 2 + 1, none⟩) q1).trans ((b0.cell (p := ⟨ba, oa + k * 2 + 1, none⟩) (cell_lt a2)).trans a2)
      have hp := fun X => (rPoint_any p n1 n2 X).mono (R' := fun e w' => e = .returned (.int .i32 (ptK p)) ∧ w' = X) (fun e w' h => ⟨h.1, h.2.symm⟩)
      have hq := fun X => (rPoint_any q n3 n4 X).mono (R' := fun e w' => e = .returned (.int .i32 (ptK q)) ∧ w' = X) (fun e w' h => ⟨h.1, h.2.symm⟩)
      generalize ptK p = rp at *
      generalize ptK q = rq at *
      clear hA a1 a2 ht
      have hkl' : (k : Int) < (L.length : Int) := by omega
      have hk0 : (0 : Int) ≤ (k : Int) := by omega
      have hvb := Lib.hid hown.out.lt
      have nB : k + 1 ≤ maxLen := by unfold maxLen; omega
      have nB' : (k + 1) * 8 ≤ 140737488355328 := by omega
      have hsz := hb.size
      have BX : Below W.heap.size wr ((wr.alloc (.cells #[.int .i32 rp, .int .i32 rq] 39)).drew) := ((Below.refl _ wr).alloc hsz _).drew
      go_wp2
      go_region_held3 (fun U : World => U.cell? ⟨w.heap.size, 0, none⟩ = some (.slice (some ⟨ba, oa, none⟩) L.length c) ∧ U.cell? ⟨ba, oa + k * 2, none⟩ = some (.int .i64 p) ∧ U.cell? ⟨ba, oa + k * 2 + 1, none⟩ = some (.int .i64 q))
        (first | (with_reducible exact ⟨e1, e2, e3⟩) | (with_reducible exact ⟨c1, a1', a2'⟩) | go_keep)
        (first
          | (go_at_call 95; with_reducible refine (hp _).mono ?_; rintro e w' ⟨rfl, rfl⟩)
          | (go_at_call 95; with_reducible refine (hq _).mono ?_; rintro e w' ⟨rfl, rfl⟩)
          | (refine step_append_lies _ ?_ (.tmp 12) (.tmp 28) 22 ?_ (W.heap.size) 39 i0 (.agg #[.int .i32 0, .int .i32 0]) 2 8 Tryz.underlying22 hi0 hz0 hz1 hz2 ?_ ?_ (.slice av k cv) (k) (flat ((ptS L).take k)) ?_ ?_ ⟨wr.heap.size, 0, none⟩ 1 1 [.int .i32 rp, .int .i32 rq] ?_ ?_ ?_ ?_ ?_ ?_ ?_ ?_ (wr.heap.size + 1) ?_ ?_; (· rfl); (· rfl); (· rfl); (· decide); (· rfl); (· exact (hown.out.alloc _).drew); (· rfl); (· rfl); (· exact World.news_of_block (cs := #[.int .i32 rp, .int .i32 rq]) (t := 39) (fr := (0, 0)) (heap_alloc_new wr _)); (· simp [Value.oneCell']); (· decide); (· exact nB); (· exact nB'); (· simp; omega); (· simp); intro g cap w1 hown1 hgrow hat hlt; have BY := BX.grown hgrow (by simp; omega) (fun k hk => (hvb.out k hk).1); have e1 := (BY.cell (p := ⟨w.heap.size, 0, none⟩) hW).trans c1; have e2 := (BY.cell (p := ⟨ba, oa + k * 2, none⟩) q1).trans a1'; have e3 := (BY.cell (p := ⟨ba, oa + k * 2 + 1, none⟩) q1).trans a2'))
      all_goals
        go_wp2
        go_roundg (gk - 1)
        case measure => omega
        case rel => exact ⟨k + 1, by go_num, by omega, by omega, by rw [HT.out]; exact hown1, hb.trans BY⟩
    · obtain rfl : k = L.length := by omega
      have ho := hown.out
      rw [List.take_of_length_le (by rw [ptS_len]; exact Nat.le_refl _), show L.length = (ptS L).length from (ptS_len L).symm] at ho
      have HO := Lib.hid (Spans.of_owns ho)
      rw [ptS_len] at HO
      clear ho hA
      go_wp2
      go_ret
      exact ⟨av, cv, rfl, HO.out, b0.trans (hb.mono b0.size)⟩
end Go.Proofs.YtmbjjheaddhmeaaGreatDoor
