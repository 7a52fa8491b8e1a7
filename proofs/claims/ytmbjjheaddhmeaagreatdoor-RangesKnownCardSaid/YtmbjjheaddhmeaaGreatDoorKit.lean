/- The document's lists that are lent, noted and kept apart: what lies in memory, the small walks. -/
import Derived.Test.YtmbjjheaddhmeaaGreatDoorRefFirst
import Derived.Test.YtmbjjheaddhmeaaGreatDoorDbOk
import Derived.Deep.LoopGhost
import Derived.Deep.AppendLies
import Derived.BigQuiet
import Derived.Deep.QuietTactic
import Derived.Laws.OwnMore
import Derived.Below
import Derived.Test.YtmbjjheaddhmeaaGreatDoorM
namespace Go.Proofs.YtmbjjheaddhmeaaGreatDoor
section
open Go.RowKit

/-- The j-th mark of the k-th list. -/
def mkS (k : Int) (j : Nat) : Int × Int := (-7 - k, -(j : Int) - 1)
def mks (k : Int) (a n : Nat) : List (Int × Int) := (List.range n).map fun j => mkS k (a + j)
theorem mks_len (k : Int) (a n : Nat) : (mks k a n).length = n := by simp [mks]
theorem mks_snoc (k : Int) (a n : Nat) : mks k a (n + 1) = mks k a n ++ [mkS k (a + n)] := by simp [mks, List.range_succ]
theorem mks_get (k : Int) (a n j : Nat) (h : j < n) : (mks k a n)[j]?.getD (0, 0) = mkS k (a + j) := by simp [mks, h]

set_option maxRecDepth 100000 in
set_option maxHeartbeats 1000000 in
theorem mark_any (k j : Int) (w : World) (h0 : 0 ≤ k) (h1 : k ≤ 1000) (h3 : -10000000 ≤ j) (h2 : j ≤ 10000000) :
    Calls Tryz.prog 82 #[.int .i64 k, .int .i64 j] w fun e w' => e = .returned (.agg #[.int .i32 (-7 - k), .int .i32 (-j - 1)]) ∧ Below w.heap.size w w' := by
  go_enter Tryz.func82, Tryz.ntmps82
  have bA := (Below.refl w.heap.size w).alloc (Nat.le_refl _) (.cells #[.int .i32 0, .int .i32 0] 39)
  go_wp2
  have q5 : (w.alloc (.cells #[.int .i32 (-7 - k), .int .i32 (-j - 1)] 39)).cell? ⟨w.heap.size, 0, none⟩ = some (.int .i32 (-7 - k)) := by simp [go_sem]
  have q6 : (w.alloc (.cells #[.int .i32 (-7 - k), .int .i32 (-j - 1)] 39)).cell? ⟨w.heap.size, 1, none⟩ = some (.int .i32 (-j - 1)) := by simp [go_sem]
  refine bodyPost_ret (v := .agg #[.int .i32 (-7 - k), .int .i32 (-j - 1)]) (by simp [results, Tryz.results82, go_sem, q5, q6]) rfl ?_
  exact ⟨rfl, (Below.refl w.heap.size w).alloc (Nat.le_refl _) _⟩

set_option maxRecDepth 100000 in
set_option maxHeartbeats 2000000 in
theorem full_any (v : Value) (l : List (Int × Int)) (w : World) (hv : Spans w v l) (hl : l.length ≤ 1000000) :
    Calls Tryz.prog 30 #[v] w fun e w' => ∃ v', e = .returned v' ∧ w'.ownsRow w.heap.size 39 2 v' (l.length + 16) (flat (l ++ mks 90 0 16)) ∧ Below w.heap.size w w' := by
  obtain ⟨i0, hi0, hz0, hz1, hz2⟩ := info_parts Tryz.infoSpanN
  obtain ⟨a, c, rfl, hA⟩ := hv
  go_enter Tryz.func30, Tryz.ntmps30
  go_wp2
  go_loopg [3, 4] l.length (fun g u i wr => ∃ k : Nat, i = .int .i64 k ∧ k ≤ l.length ∧ l.length - k ≤ g ∧ Hid (wr.ownsRow w.heap.size 39 2 u k (flat (l.take k))) ∧ Below w.heap.size w wr)
  case atStart => exact ⟨0, rfl, by omega, by omega, World.ownsRow_nil _ _ _ _, Below.refl _ _⟩
  case round =>
    obtain ⟨k, rfl, hk, hg, hown, hb⟩ := hrel
    obtain ⟨av, cv, rfl⟩ := owns_slice hown.out
    by_cases hkl : k < l.length
    · rcases hA with h | ⟨ba, oa, rfl, hA⟩
      · subst h; simp at hkl
      obtain ⟨a1, a2⟩ := hA k hkl
      have HT := Lib.hid (flat_take_snoc l k hkl)
      generalize l[k]?.getD (0, 0) = x at *
      obtain ⟨p, q⟩ := x
      dsimp only at a1 a2
      have a1' := (hb.cell (p := ⟨ba, oa + k * 2, none⟩) (cell_lt a1)).trans a1
      have a2' := (hb.cell (p := ⟨ba, oa + k * 2 + 1, none⟩) (cell_lt a2)).trans a2
      clear hA a1 a2
      have hkl' : (k : Int) < (l.length : Int) := by omega
      have hvb := Lib.hid hown.out.lt
      have nB : k + 1 ≤ maxLen := by unfold maxLen; omega
      have nB' : (k + 1) * 8 ≤ 140737488355328 := by omega
      have hsz := hb.size
      have BX : Below w.heap.size w (wr.alloc (.cells #[.int .i32 p, .int .i32 q] 39)) := hb.alloc hsz _
      go_wp2_with (at_builtin; refine wpList_append_lies _ ?_ (.tmp 12) (.tmp 17) 22 ?_ (w.heap.size) 39 i0 (.agg #[.int .i32 0, .int .i32 0]) 2 8 Tryz.underlying22 hi0 hz0 hz1 hz2 ?_ ?_ (.slice av k cv) (k) (flat (l.take k)) ?_ ?_ ⟨wr.heap.size, 0, none⟩ 1 1 [.int .i32 p, .int .i32 q] ?_ ?_ ?_ ?_ ?_ ?_ ?_ ?_ (wr.heap.size + 1) ?_ ?_; (· rfl); (· rfl); (· rfl); (· decide); (· rfl); (· exact hown.out.alloc _); (· rfl); (· rfl); (· exact World.news_of_block (cs := #[.int .i32 p, .int .i32 q]) (t := 39) (fr := (0, 0)) (heap_alloc_new _ _)); (· simp [Value.oneCell']); (· decide); (· exact nB); (· exact nB'); (· first | (simp; omega) | omega); (· first | (with_reducible rfl) | simp); intro g cap w1 hown1 hgrow hat hlt; have BY := BX.grown hgrow (by simp; omega) (fun k hk => (hvb.out k hk).1))
      go_roundg (gk - 1)
      case measure => omega
      case rel => exact ⟨k + 1, by go_num, by omega, by omega, by rw [HT.out]; exact hown1, BY⟩
    · obtain rfl : k = l.length := by omega
      have ho := hown.out
      rw [List.take_length] at ho
      have HO : Hid (wr.ownsRow w.heap.size 39 2 (.slice av l.length cv) (l.length + 0) (flat (l ++ mks 90 0 0))) := by
        show World.ownsRow _ _ _ _ _ _ _
        simpa [mks] using ho
      clear ho hA hown
      go_upto_if 3 with (fail)
      go_loopg [3, 5] (16 : Nat) (fun g u i wr => ∃ k : Nat, i = .int .i64 k ∧ k ≤ 16 ∧ 16 - k ≤ g ∧ Hid (wr.ownsRow w.heap.size 39 2 u (l.length + k) (flat (l ++ mks 90 0 k))) ∧ Below w.heap.size w wr)
      case atStart => exact ⟨0, rfl, by omega, by omega, HO, hb⟩
      case round =>
        clear HO hb hk hg
        obtain ⟨k, rfl, hk, hg, hown, hb⟩ := hrel
        obtain ⟨av, cv, rfl⟩ := owns_slice hown.out
        by_cases hkl : k < 16
        · have hkl' : (k : Int) < 16 := by omega
          have hm := fun W => mark_any 90 k W (by omega) (by omega) (by omega) (by omega)
          have HT : Hid (flat (l ++ mks 90 0 (k + 1)) = flat (l ++ mks 90 0 k) ++ [.int .i32 (-97), .int .i32 (-(k : Int) - 1)]) := by
            show _ = _
            rw [mks_snoc, ← List.append_assoc, flat_snoc, Nat.zero_add]; rfl
          have nB : l.length + k + 1 ≤ maxLen := by unfold maxLen; omega
          have nB' : (l.length + k + 1) * 8 ≤ 140737488355328 := by omega
          have hsz := hb.size
          go_wp2_with (first
            | (go_at_call 82; go_loud (with_reducible refine (hm _).mono ?_; rintro e w2 ⟨rfl, hB2⟩; have hb2 := below_snoc hb hB2; have hown2 := Lib.hid (ownsRow_below hB2 hown.out); have hvb := Lib.hid hown2.out.lt; have hsz2 := hb2.size; have BX : Below w.heap.size w (w2.alloc (.cells #[.int .i32 (-97), .int .i32 (-(k : Int) - 1)] 39)) := hb2.alloc hsz2 _))
            | (at_builtin; refine wpList_append_lies _ ?_ (.tmp 23) (.tmp 26) 22 ?_ (w.heap.size) 39 i0 (.agg #[.int .i32 0, .int .i32 0]) 2 8 Tryz.underlying22 hi0 hz0 hz1 hz2 ?_ ?_ (.slice av (l.length + k) cv) ((l.length + k)) (flat (l ++ mks 90 0 k)) ?_ ?_ ⟨w2.heap.size, 0, none⟩ 1 1 [.int .i32 (-97), .int .i32 (-(k : Int) - 1)] ?_ ?_ ?_ ?_ ?_ ?_ ?_ ?_ (w2.heap.size + 1) ?_ ?_; (· rfl); (· rfl); (· rfl); (· decide); (· rfl); (· exact hown2.out.alloc _); (· rfl); (· rfl); (· exact World.news_of_block (cs := #[.int .i32 (-97), .int .i32 (-(k : Int) - 1)]) (t := 39) (fr := (0, 0)) (heap_alloc_new _ _)); (· simp [Value.oneCell']); (· decide); (· exact nB); (· exact nB'); (· first | (simp; omega) | omega); (· first | (with_reducible rfl) | simp); intro g cap w1 hown1 hgrow hat hlt; have BY := BX.grown hgrow (by simp; omega) (fun k hk => (hvb.out k hk).1)))
          go_roundg (gk - 1)
          case measure => omega
          case rel => exact ⟨k + 1, by go_num, by omega, by omega, by rw [HT.out]; exact hown1, BY⟩
        · obtain rfl : k = 16 := by omega
          go_wp2
          go_ret
          exact ⟨_, rfl, hown.out, hb⟩

/-- A list that is lent: 16 marks stand behind it, in its room. -/
def Lent (w : World) (base : Nat) (g c : Nat) (l : List (Int × Int)) : Prop :=
  w.ownsRow base 39 2 (.slice (some ⟨g, 0, none⟩) (l.length + 16) c) (l.length + 16) (flat (l ++ mks 90 0 16)) ∧ l.length + 16 ≤ c
theorem Lent.full {w : World} {base g c : Nat} {l : List (Int × Int)} (h : Lent w base g c l) : Spans w (.slice (some ⟨g, 0, none⟩) (l.length + 16) c) (l ++ mks 90 0 16) := by
  have h1 := h.1
  rw [show l.length + 16 = (l ++ mks 90 0 16).length by rw [List.length_append, mks_len]] at h1 ⊢
  exact Spans.of_owns h1
theorem Lent.spans {w : World} {base g c : Nat} {l : List (Int × Int)} (h : Lent w base g c l) : Spans w (.slice (some ⟨g, 0, none⟩) l.length c) l := by
  obtain ⟨a, c', h1, h2⟩ := h.full
  injection h1 with e1 _ e3
  subst e1 e3
  refine ⟨_, _, rfl, .inr ?_⟩
  rcases h2 with h2 | ⟨b, o, hb, h2⟩
  · have := congrArg List.length h2
    rw [List.length_append, mks_len] at this; simp at this
  · refine ⟨b, o, hb, fun j hj => ?_⟩
    have := h2 j (by rw [List.length_append]; omega)
    rwa [List.getElem?_append_left hj] at this
set_option maxRecDepth 100000 in
set_option maxHeartbeats 1000000 in
theorem lent_any (v : Value) (l : List (Int × Int)) (w : World) (hv : Spans w v l) (hl : l.length ≤ 1000000) :
    Calls Tryz.prog 7 #[v] w fun e w' => ∃ g c, e = .returned (.slice (some ⟨g, 0, none⟩) l.length c) ∧ Lent w' w.heap.size g c l ∧ w.heap.size ≤ g ∧ Below w.heap.size w w' := by
  have hf := full_any v l w hv hl
  obtain ⟨a, c, rfl, -⟩ := hv
  go_enter Tryz.func7, Tryz.ntmps7
  go_wp2_with fail
  refine hf.mono ?_
  clear hf
  rintro e w1 ⟨v', rfl, ho, hB⟩
  have HO := Lib.hid ho
  rcases ho.2 with ⟨_, h0⟩ | ⟨g, cap, cur, rfl, hg, _, hn, hm, _, _⟩
  · omega
  · have h1 : (0 : Int) ≤ (l.length : Int) := by omega
    have h2 : (l.length : Int) ≤ (cap : Int) := by omega
    have h3 : l.length ≤ cap := by omega
    clear ho
    go_wp2
    go_ret
    exact ⟨g, cap, rfl, ⟨HO.out, hn⟩, hg, hB⟩

set_option maxRecDepth 100000 in
set_option maxHeartbeats 2000000 in
theorem keptFull_any (v1 v2 : Value) (l : List (Int × Int)) (w : World) (h1 : Spans w v1 (l ++ mks 90 0 16)) (h2 : Spans w v2 l) (hl : l.length ≤ 1000000) :
    Calls Tryz.prog 34 #[v1, v2] w fun e w' => e = .returned (.bool true) ∧ Below w.heap.size w w' := by
  obtain ⟨a1, c1, rfl, hA⟩ := h1
  obtain ⟨a2, c2, rfl, hB⟩ := h2
  have hlen : (l ++ mks 90 0 16).length = l.length + 16 := by rw [List.length_append, mks_len]
  rw [hlen] at hA ⊢
  have HLE := Lib.hid hlen
  clear hlen
  rcases hA with h | ⟨ba, oa, rfl, hA⟩
  · have := HLE.out; rw [h] at this; simp at this
  have HA := Lib.hid hA
  clear hA
  go_enter Tryz.func34, Tryz.ntmps34
  go_wp2
  go_loopg [5] (l.length + 16) (fun gk i wr => ∃ k : Nat, i = .int .i64 k ∧ k ≤ l.length + 16 ∧ l.length + 16 - k ≤ gk ∧ Below w.heap.size w wr)
  case atStart => exact ⟨0, rfl, by omega, by omega, Below.refl _ _⟩
  case round =>
    obtain ⟨k, rfl, hk, hg, hb⟩ := hrel
    by_cases hkl : k < l.length + 16
    · have hkl' : (k : Int) < (l.length : Int) + 16 := by omega
      obtain ⟨x1, x2⟩ := HA.out k hkl
      have hm := fun W => mark_any 90 ((k : Int) - (l.length : Int)) W (by omega) (by omega) (by omega) (by omega)
      by_cases hkn : k < l.length
      · have hkn' : (k : Int) < (l.length : Int) := by omega
        rcases hB with h | ⟨bb, ob, rfl, hB⟩
        · subst h; simp at hkn
        obtain ⟨y1, y2⟩ := hB k hkn
        rw [List.getElem?_append_left hkn] at x1 x2
        generalize l[k]?.getD (0, 0) = x at *
        obtain ⟨p, q⟩ := x
        dsimp only at x1 x2 y1 y2
        clear hB
        go_wp2_with ((go_at_call 82; with_reducible refine (hm _).mono ?_; rintro e w2 ⟨rfl, hB2⟩; have hb2 := below_snoc hb hB2; have z1 := (hb2.cell (p := ⟨ba, oa + k * 2, none⟩) (cell_lt x1)).trans x1; have z2 := (hb2.cell (p := ⟨ba, oa + k * 2 + 1, none⟩) (cell_lt x2)).trans x2; have z3 := (hb2.cell (p := ⟨bb, ob + k * 2, none⟩) (cell_lt y1)).trans y1; have z4 := (hb2.cell (p := ⟨bb, ob + k * 2 + 1, none⟩) (cell_lt y2)).trans y2; have q1 : ba < w2.heap.size := cell_lt z1; have q3 : bb < w2.heap.size := cell_lt z3; have q4 : ba < w2.heap.size + 1 := Nat.lt_succ_of_lt q1))
        go_quiet (fail)
        go_wp2
        go_roundg (gk - 1)
        case measure => omega
        case rel => exact ⟨k + 1, by go_num, by omega, by omega, below_drewN (hb2.alloc hb2.size _) _⟩
      · have hkn' : ¬ (k : Int) < (l.length : Int) := by omega
        have hx : (l ++ mks 90 0 16)[k]?.getD (0, 0) = (-97, -((k : Int) - (l.length : Int)) - 1) := by
          rw [List.getElem?_append_right (by omega), mks_get 90 0 16 (k - l.length) (by omega), Nat.zero_add]
          show ((-7 - 90 : Int), -((k - l.length : Nat) : Int) - 1) = _
          rw [show ((k - l.length : Nat) : Int) = (k : Int) - (l.length : Int) by omega]; rfl
        rw [hx] at x1 x2
        dsimp only at x1 x2
        clear hx hB
        go_wp2_with ((go_at_call 82; with_reducible refine (hm _).mono ?_; rintro e w2 ⟨rfl, hB2⟩; have hb2 := below_snoc hb hB2; have z1 := (hb2.cell (p := ⟨ba, oa + k * 2, none⟩) (cell_lt x1)).trans x1; have z2 := (hb2.cell (p := ⟨ba, oa + k * 2 + 1, none⟩) (cell_lt x2)).trans x2; have q1 : ba < w2.heap.size := cell_lt z1; have q4 : ba < w2.heap.size + 1 := Nat.lt_succ_of_lt q1))
        go_quiet (fail)
        go_wp2
        go_roundg (gk - 1)
        case measure => omega
        case rel => exact ⟨k + 1, by go_num, by omega, by omega, below_drewN (hb2.alloc hb2.size _) _⟩
    · obtain rfl : k = l.length + 16 := by omega
      go_wp2
      go_ret
      exact ⟨rfl, hb⟩

set_option maxRecDepth 100000 in
set_option maxHeartbeats 1000000 in
theorem kept_any {g c base : Nat} (v : Value) (l : List (Int × Int)) (w : World) (h1 : Lent w base g c l) (h2 : Spans w v l) (hl : l.length ≤ 1000000) :
    Calls Tryz.prog 9 #[.slice (some ⟨g, 0, none⟩) l.length c, v] w fun e w' => e = .returned (.bool true) ∧ Below w.heap.size w w' := by
  have hk := keptFull_any _ v l w h1.full h2 hl
  have hc := h1.2
  obtain ⟨a2, c2, rfl, -⟩ := h2
  have hq : (0 : Int) ≤ (l.length : Int) + 16 := by omega
  have hq2 : (l.length : Int) + 16 ≤ (c : Int) := by omega
  have hq3 : ((l.length : Int) + 16).toNat = l.length + 16 := by omega
  clear h1
  go_enter Tryz.func9, Tryz.ntmps9
  go_wp2_with fail
  refine hk.mono ?_
  rintro e w1 ⟨rfl, hB⟩
  go_wp2_with fail
  go_ret
  exact ⟨rfl, hB⟩
end

section
open Go.RowKit

/-- Rows of different kinds lie in different blocks. -/
theorem owns_types {w : World} {b1 b2 : Nat} {e1 e2 : TypeId} {s1 s2 : Nat} {v1 v2 : Value} {n1 n2 : Nat} {x1 x2 : List Value} (h1 : w.ownsRow b1 e1 s1 v1 n1 x1) (h2 : w.ownsRow b2 e2 s2 v2 n2 x2) (he : e1 ≠ e2) : v1.ownBlock = none ∨ v1.ownBlock ≠ v2.ownBlock := by
  rcases h1.2 with ⟨rfl, _⟩ | ⟨g, cap, cur, rfl, _, hh, _⟩
  · exact .inl rfl
  · refine .inr fun hb => ?_
    rcases h2.2 with ⟨rfl, _⟩ | ⟨g2, cap2, cur2, rfl, _, hh2, _⟩
    · cases hb
    · have hg : g = g2 := by injection hb
      subst hg
      rw [hh] at hh2
      injection hh2 with hh2
      injection hh2 with _ h _
      exact he h
/-- A book in which lists of spans alone are noted. -/
structure BookAt (w : World) (bk : Nat) (L : List Value) : Prop where
  six : ∃ v, w.cell? ⟨bk, 6, none⟩ = some v ∧ w.ownsRow (bk + 1) 22 1 v L.length L
  fz : w.frozen? ⟨bk, 6, none⟩ = false
  oth : ∀ i, i < 24 → i ≠ 6 → w.cell? ⟨bk, i, none⟩ = some (.slice none 0 0)
theorem BookAt.below {w w' : World} {bk : Nat} {L : List Value} (h : BookAt w bk L) (hb : Below w.heap.size w w') : BookAt w' bk L := by
  obtain ⟨v, h1, h2⟩ := h.six
  have hl : bk < w.heap.size := cell_lt h1
  exact ⟨⟨v, (hb.cell (p := ⟨bk, 6, none⟩) hl).trans h1, ownsRow_below hb h2⟩, (hb.frozen (p := ⟨bk, 6, none⟩) hl).trans h.fz, fun i h3 h4 => (hb.cell (p := ⟨bk, i, none⟩) hl).trans (h.oth i h3 h4)⟩
/-- What is kept where a book grows: the lists of spans behind it. -/
def KeptRows (bk : Nat) (w w' : World) : Prop := ∀ (u : Value) (n : Nat) (xs : List Value), w.ownsRow (bk + 1) 39 2 u n xs → w'.ownsRow (bk + 1) 39 2 u n xs
theorem Tryz.infoSpansL : (Tryz.prog.info? 22).map (fun i => (i.zero, i.size, i.bytes)) = some (some (.slice none 0 0), 1, 24) := by kernel_rfl

set_option maxRecDepth 100000 in
set_option maxHeartbeats 2000000 in
theorem bspans_any {bk : Nat} {L : List Value} (a : Option Addr) (n c : Nat) (w : World) (h : BookAt w bk L) (hl : L.length ≤ 1000) :
    Calls Tryz.prog 14 #[.pointer (some ⟨bk, 0, none⟩), .slice a n c] w fun e w' => e = .returned (.tuple #[]) ∧ BookAt w' bk (L ++ [.slice a n c]) ∧ KeptRows bk w w' ∧ Below bk w w' := by
  obtain ⟨i0, hi0, hz0, hz1, hz2⟩ := info_parts Tryz.infoSpansL
  obtain ⟨v, c6, hown⟩ := h.six
  have f6 := h.fz
  have HO := Lib.hid h.oth
  have HOWN := Lib.hid hown
  obtain ⟨av, cv, rfl⟩ := owns_slice hown
  have y6 : bk < w.heap.size := cell_lt c6
  have hvb := Lib.hid hown.lt
  have nB : L.length + 1 ≤ maxLen := by unfold maxLen; omega
  have nB' : (L.length + 1) * 24 ≤ 140737488355328 := by omega
  have BX : Below (bk + 1) w (w.alloc (.cells #[.slice a n c] 22)) := (Below.refl _ w).alloc y6 _
  clear hown h hl
  go_enter Tryz.func14, Tryz.ntmps14
  go_wp2_with (at_builtin; refine wpList_append_lies _ ?_ (.tmp 8) (.tmp 10) 47 ?_ (bk + 1) 22 i0 (.slice none 0 0) 1 24 Tryz.underlying47 hi0 hz0 hz1 hz2 ?_ ?_ (.slice av L.length cv) (L.length) (L) ?_ ?_ ⟨w.heap.size, 0, none⟩ 1 1 [.slice a n c] ?_ ?_ ?_ ?_ ?_ ?_ ?_ ?_ (w.heap.size + 1) ?_ ?_; (· rfl); (· rfl); (· rfl); (· decide); (· rfl); (· exact HOWN.out.alloc _); (· rfl); (· rfl); (· exact World.news_of_block (cs := #[.slice a n c]) (t := 22) (fr := (0, 0)) (heap_alloc_new _ _)); (· simp [Value.oneCell']); (· decide); (· exact nB); (· exact nB'); (· first | (simp; omega) | omega); (· first | (with_reducible rfl) | simp); intro g cap w1 hown1 hgrow hat hlt; have BY := BX.grown hgrow (by simp; omega) (fun k hk => (hvb.out k hk).1); have e1 := (BY.cell (p := ⟨bk, 6, none⟩) (Nat.lt_succ_self _)).trans c6; have e2 := (BY.frozen (p := ⟨bk, 6, none⟩) (Nat.lt_succ_self _)).trans f6)
  refine bodyPost_end (results_none rfl _ _ _) rfl ?_
  have hA := (World.ownsRow.alloc HOWN.out (.cells #[.slice a n c] 22))
  refine ⟨rfl, ⟨⟨_, World.cell?_setCell_same _ _ _ e1, ?_⟩, by rw [World.frozen?_setCell]; exact e2, fun i h1 h2 => ?_⟩, ?_, (BY.mono (Nat.le_succ bk)).setCell (p := ⟨bk, 6, none⟩) (Nat.le_refl _) _⟩
  · rw [List.length_append]; exact ownsRow_setCell_below hown1 (Nat.lt_succ_self _) _
  · refine (World.cell?_setCell_other _ _ _ _ (by intro e; injection e with _ e; exact h2 e.symm)).trans ?_
    exact (BY.cell (p := ⟨bk, i, none⟩) (Nat.lt_succ_self _)).trans (HO.out i h1 h2)
  · intro u m xs hu
    have h1 := (hu.alloc (.cells #[.slice a n c] 22)).kept hgrow (owns_types hu HOWN.out (by decide))
    exact ownsRow_setCell_below h1 (Nat.lt_succ_self _) _
end

section
open Go.RowKit

theorem flat_set (l : List (Int × Int)) (j : Nat) (p q : Int) : ((flat l).set (j * 2) (.int .i32 p)).set (j * 2 + 1) (.int .i32 q) = flat (l.set j (p, q)) := by
  induction l generalizing j with
  | nil => simp [flat]
  | cons x l ih =>
    cases j with
    | zero => simp [flat]
    | succ j =>
      have := ih j
      simp only [flat, List.flatMap_cons, List.set_cons_succ] at *
      rw [show (j + 1) * 2 = j * 2 + 1 + 1 by omega, show j * 2 + 1 + 1 + 1 = (j * 2 + 1) + 1 + 1 by omega]
      simpa using this
theorem cell_set_at {w1 : World} {B g o o2 : Nat} {u v : Value} (h : w1.cell? ⟨g, o, none⟩ = some u) (hne : g ≠ B) : (w1.setCell ⟨B, o2, none⟩ v).cell? ⟨g, o, none⟩ = some u :=
  (World.cell?_setCell_other _ _ _ _ (by intro e; cases e; exact hne rfl)).trans h
theorem cell_set_next {w1 : World} {g o : Nat} {u v : Value} (h : w1.cell? ⟨g, o + 1, none⟩ = some u) : (w1.setCell ⟨g, o, none⟩ v).cell? ⟨g, o + 1, none⟩ = some u :=
  (World.cell?_setCell_other _ _ _ _ (by intro e; have := congrArg Addr.off e; simp at this)).trans h
theorem below_drew1 {w w2 : World} (h : Below w.drew.heap.size w.drew w2) : Below w.heap.size w w2 := (Below.refl w.heap.size w).drew.trans h
theorem take_set_snoc (l : List (Int × Int)) (j : Nat) (x : Int × Int) (h : j < l.length) : (l.set j x).take (j + 1) = l.take j ++ [x] := by
  rw [List.take_add_one, List.take_set_of_le (Nat.le_refl j)]
  simp [h]
/-- m lists of spans, each in memory of its own. -/
def Many (w : World) (B m : Nat) (vs : Nat → Value) (X : Nat → List (Int × Int)) : Prop :=
  (∀ i, i < m → w.ownsRow B 39 2 (vs i) (X i).length (flat (X i))) ∧ ∀ i j, i < m → j < m → i ≠ j → (vs i).ownBlock = none ∨ (vs i).ownBlock ≠ (vs j).ownBlock
theorem Many.below {w w' : World} {B m : Nat} {vs : Nat → Value} {X : Nat → List (Int × Int)} (h : Many w B m vs X) (hb : Below w.heap.size w w') : Many w' B m vs X :=
  ⟨fun i hi => ownsRow_below hb (h.1 i hi), h.2⟩
def setX (X : Nat → List (Int × Int)) (i j : Nat) (x : Int × Int) : Nat → List (Int × Int) := fun t => if t = i then (X i).set j x else X t
theorem Many.store {w : World} {B m i j g c : Nat} {p q : Int} {vs : Nat → Value} {X : Nat → List (Int × Int)} (h : Many w B m vs X) (hi : i < m) (hv : vs i = .slice (some ⟨g, 0, none⟩) (X i).length c) :
    Many ((w.setCell ⟨g, j * 2, none⟩ (.int .i32 p)).setCell ⟨g, j * 2 + 1, none⟩ (.int .i32 q)) B m vs (setX X i j (p, q)) ∧ ∃ w1 : World, w.grownBy w1 (some g) ∧ w1.grownBy ((w.setCell ⟨g, j * 2, none⟩ (.int .i32 p)).setCell ⟨g, j * 2 + 1, none⟩ (.int .i32 q)) (some g) := by
  have h0 := h.1 i hi
  rw [hv] at h0
  obtain ⟨s1, g1⟩ := World.ownsRow.stored h0 (j * 2) (.int .i32 p)
  obtain ⟨s2, g2⟩ := World.ownsRow.stored s1 (j * 2 + 1) (.int .i32 q)
  refine ⟨⟨fun t ht => ?_, h.2⟩, _, g1, g2⟩
  unfold setX
  by_cases hti : t = i
  · subst hti
    rw [if_pos rfl, hv, ← flat_set, List.length_set]
    exact s2
  · rw [if_neg hti]
    have hne : (vs t).ownBlock = none ∨ (vs t).ownBlock ≠ some g := by
      have := h.2 t i ht hi hti
      rw [hv] at this
      exact this
    exact ((h.1 t ht).kept g1 hne).kept g2 hne
/-- A row of another kind is kept. -/
theorem Many.other {w w' : World} {B m i g c : Nat} {vs : Nat → Value} {X : Nat → List (Int × Int)} (h : Many w B m vs X) (hi : i < m) (hv : vs i = .slice (some ⟨g, 0, none⟩) (X i).length c) (hg : ∃ w1 : World, w.grownBy w1 (some g) ∧ w1.grownBy w' (some g))
    {b : Nat} {e : TypeId} {s n : Nat} {v : Value} {xs : List Value} (ho : w.ownsRow b e s v n xs) (he : e ≠ 39) : w'.ownsRow b e s v n xs := by
  obtain ⟨w1, g1, g2⟩ := hg
  have hne := owns_types ho (h.1 i hi) he
  rw [hv] at hne
  exact (ho.kept g1 hne).kept g2 hne

/-- A slice of the call's own reads as it did where its block is not changed. -/
theorem Spans.grown {w w' : World} {row : Option Nat} {v : Value} {l : List (Int × Int)} (h : Spans w v l) (hg : w.grownBy w' row) (hne : v.ownBlock = none ∨ v.ownBlock ≠ row) : Spans w' v l := by
  obtain ⟨a, c, rfl, h⟩ := h
  refine ⟨a, c, rfl, ?_⟩
  rcases h with h | ⟨b, o, rfl, h⟩
  · exact .inl h
  · have hb : some b ≠ row := by
      rcases hne with h | h
      · cases h
      · exact h
    refine .inr ⟨b, o, rfl, fun j hj => ?_⟩
    obtain ⟨h1, h2⟩ := h j hj
    exact ⟨hg.cell h1 hb, hg.cell h2 hb⟩
def upd {α : Type} (f : Nat → α) (k : Nat) (x : α) : Nat → α := fun t => if t = k then x else f t
theorem upd_same {α : Type} (f : Nat → α) (k : Nat) (x : α) : upd f k x k = x := if_pos rfl
theorem upd_other {α : Type} (f : Nat → α) (k : Nat) (x : α) (t : Nat) (h : t ≠ k) : upd f k x t = f t := if_neg h
/-- The lists vs, marked, and their twins cur, e marks longer. -/
structure Tw (w : World) (B m H0 : Nat) (vs cur : Nat → Value) (len e : Nat → Nat) : Prop where
  many : Many w B m cur (fun t => mks t 0 (len t + e t))
  sp : ∀ t, t < m → Spans w (vs t) (mks t 0 (len t))
  sh : ∀ t g, t < m → (vs t).ownBlock = some g → ∃ c, vs t = .slice (some ⟨g, 0, none⟩) (len t) c
  ap : ∀ t u, t < m → u < m → t ≠ u → (vs t).ownBlock = none ∨ (vs t).ownBlock ≠ (cur u).ownBlock
  lo : ∀ t b, t < m → (vs t).ownBlock = some b → b < H0
  hi : H0 ≤ w.heap.size
theorem Tw.below {w w' : World} {B m H0 : Nat} {vs cur : Nat → Value} {len e : Nat → Nat} (h : Tw w B m H0 vs cur len e) (hb : Below w.heap.size w w') : Tw w' B m H0 vs cur len e :=
  ⟨h.many.below hb, fun t ht => (h.sp t ht).below hb, h.sh, h.ap, h.lo, Nat.le_trans h.hi hb.size⟩
theorem Tw.start {w : World} {B m : Nat} {vs : Nat → Value} {len : Nat → Nat} {Y : Nat → List (Int × Int)} (h : Many w B m vs Y) (hY : ∀ t, t < m → Y t = mks t 0 (len t)) : Tw w B m w.heap.size vs vs len (fun _ => 0) := by
  have h1 : ∀ t, t < m → w.ownsRow B 39 2 (vs t) (mks t 0 (len t)).length (flat (mks t 0 (len t))) := fun t ht => by rw [← hY t ht]; exact h.1 t ht
  refine ⟨⟨h1, h.2⟩, fun t ht => Spans.of_owns (h1 t ht), fun t g ht hg => ?_, h.2, fun t b ht hb => ((h1 t ht).lt b hb).2, Nat.le_refl _⟩
  have h2 := h1 t ht
  rw [mks_len] at h2
  rcases h2.2 with ⟨h3, _⟩ | ⟨g', cap, cur, h3, _⟩
  · rw [h3] at hg; cases hg
  · rw [h3] at hg ⊢
    have : g' = g := by simpa [Value.ownBlock] using hg
    subst this
    exact ⟨cap, rfl⟩
theorem Tw.push {w w1 : World} {B m H0 k g n c : Nat} {vs cur : Nat → Value} {len e : Nat → Nat} (h : Tw w B m H0 vs cur len e) (hk : k < m) (hn : n = len k + e k + 1)
    (hown : w1.ownsRow B 39 2 (.slice (some ⟨g, 0, none⟩) n c) n (flat (mks k 0 n))) (hg : w.grownBy w1 (cur k).ownBlock) (ha : ((cur k).ownBlock = some g ∧ w.grownBy w1 (some g)) ∨ (g = w.heap.size ∧ w.grownBy w1 none)) :
    Tw w1 B m H0 vs (upd cur k (.slice (some ⟨g, 0, none⟩) n c)) len (upd e k (e k + 1)) := by
  subst hn
  have hlt : ∀ t b, t < m → (cur t).ownBlock = some b → b < w.heap.size := fun t b ht hb => ((h.many.1 t ht).lt b hb).2
  have hfar : ∀ t, t < m → t ≠ k → (cur t).ownBlock = none ∨ (cur t).ownBlock ≠ some g := fun t ht htk => by
    rcases ha with ⟨h1, _⟩ | ⟨h1, _⟩
    · rw [← h1]; exact h.many.2 t k ht hk htk
    · cases hb : (cur t).ownBlock with
      | none => exact .inl rfl
      | some b => have := hlt t b ht hb; exact .inr fun e => by injection e with e; omega
  have hvg : ∀ t, t < m → t ≠ k → (vs t).ownBlock = none ∨ (vs t).ownBlock ≠ some g := fun t ht htk => by
    rcases ha with ⟨h1, _⟩ | ⟨h1, _⟩
    · rw [← h1]; exact h.ap t k ht hk htk
    · cases hb : (vs t).ownBlock with
      | none => exact .inl rfl
      | some b => have := h.lo t b ht hb; have := h.hi; exact .inr fun e => by injection e with e; omega
  refine ⟨⟨fun t ht => ?_, fun t u ht hu htu => ?_⟩, fun t ht => ?_, h.sh, fun t u ht hu htu => ?_, h.lo, Nat.le_trans h.hi hg.size⟩
  · by_cases htk : t = k
    · subst htk
      dsimp only
      rw [upd_same, upd_same, mks_len, ← Nat.add_assoc]; exact hown
    · dsimp only
      rw [upd_other _ _ _ _ htk, upd_other _ _ _ _ htk]
      exact (h.many.1 t ht).kept hg (h.many.2 t k ht hk htk)
  · by_cases htk : t = k
    · subst htk
      rw [upd_same, upd_other _ _ _ _ (Ne.symm htu)]
      right
      rcases hfar u hu (Ne.symm htu) with h1 | h1
      · rw [h1]; exact fun e => by cases e
      · exact fun e => h1 e.symm
    · by_cases huk : u = k
      · subst huk
        rw [upd_same, upd_other _ _ _ _ htu]
        exact hfar t ht htu
      · rw [upd_other _ _ _ _ htk, upd_other _ _ _ _ huk]; exact h.many.2 t u ht hu htu
  · by_cases htk : t = k
    · subst htk
      rcases ha with ⟨h1, h2⟩ | ⟨_, h2⟩
      · by_cases hv : (vs t).ownBlock = some g
        · obtain ⟨c', hc'⟩ := h.sh t g ht hv
          rw [hc']
          have ho : w1.ownsRow B 39 2 (.slice (some ⟨g, 0, none⟩) (mks t 0 (len t + e t + 1)).length c) (mks t 0 (len t + e t + 1)).length (flat (mks t 0 (len t + e t + 1))) := by rw [mks_len]; exact hown
          obtain ⟨a', c'', h3, h4⟩ := Spans.of_owns ho
          injection h3 with h3 _ _
          subst h3
          refine ⟨_, c', by rw [mks_len], ?_⟩
          rcases h4 with h4 | ⟨b, o, hb, h4⟩
          · have := congrArg List.length h4
            rw [mks_len] at this; simp at this
          · refine .inr ⟨b, o, hb, fun j hj => ?_⟩
            rw [mks_len] at hj
            have h5 := h4 j (by rw [mks_len]; omega)
            rw [mks_get _ _ _ _ (by omega)] at h5
            rw [mks_get _ _ _ _ hj]
            exact h5
        · exact (h.sp t ht).grown h2 (.inr hv)
      · refine (h.sp t ht).grown h2 ?_
        cases (vs t).ownBlock with
        | none => exact .inl rfl
        | some b => exact .inr (by simp)
    · refine (h.sp t ht).grown hg (h.ap t k ht hk htk)
  · by_cases huk : u = k
    · subst huk
      rw [upd_same]; exact hvg t ht htu
    · rw [upd_other _ _ _ _ huk]; exact h.ap t u ht hu htu
/-- A row of another kind that lies behind grows. -/
theorem Tw.far {w w1 : World} {B m H0 : Nat} {vs cur : Nat → Value} {len e : Nat → Nat} (h : Tw w B m H0 vs cur len e) {et : TypeId} {s n : Nat} {v : Value} {xs : List Value} (ho : w.ownsRow H0 et s v n xs) (he : et ≠ 39) (hg : w.grownBy w1 v.ownBlock) : Tw w1 B m H0 vs cur len e :=
  ⟨⟨fun t ht => (h.many.1 t ht).kept hg (owns_types (h.many.1 t ht) ho (Ne.symm he)), h.many.2⟩, fun t ht => (h.sp t ht).grown hg (by
    cases hb : (vs t).ownBlock with
    | none => exact .inl rfl
    | some b => exact .inr fun e => by have := h.lo t b ht hb; have := (ho.lt b e.symm).1; omega), h.sh, h.ap, h.lo, Nat.le_trans h.hi hg.size⟩
theorem Tw.curSpans {w : World} {B m H0 : Nat} {vs cur : Nat → Value} {len e : Nat → Nat} (h : Tw w B m H0 vs cur len e) {t : Nat} (ht : t < m) : Spans w (cur t) (mks t 0 (len t + e t)) := Spans.of_owns (h.many.1 t ht)
theorem range_map_upd {α : Type} (f : Nat → α) (k : Nat) (x : α) : (List.range k).map (upd f k x) = (List.range k).map f :=
  List.map_congr_left fun t ht => upd_other _ _ _ _ (by have := List.mem_range.1 ht; omega)
theorem flat_mks_snoc (k : Int) (n : Nat) : flat (mks k 0 (n + 1)) = flat (mks k 0 n) ++ [.int .i32 (-7 - k), .int .i32 (-(n : Int) - 1)] := by
  rw [mks_snoc, flat_snoc, Nat.zero_add]; rfl
end

section
open Go Go.RowKit

section
variable {P : Program} (w : World)
theorem run_append_two (t ty : TypeId) (base : Nat) (e : TypeId) (i : TypeInfo) (z : Value) (size bytes : Nat) (ht : P.underlying t = some (.slice e)) (hi : P.info? e = some i) (hz : i.zero = some z)
    (hsize : i.size = size) (hby : i.bytes = bytes) (hzs : z.cells.size = size) (hsz : 0 < size)
    (v : Value) (n : Nat) (xs : List Value) (hown : w.ownsRow base e size v n xs)
    (ad : Addr) (m c : Nat) (news : List Value) (hl : news.length = m * size) (hnews : ∀ j u, news[j]? = some u → w.cell? (ad.add j) = some u) (h1 : ∀ u ∈ news, u.oneCell' = true)
    (hm : 0 < m) (h63 : n + m ≤ maxLen) (hbytes : (n + m) * bytes ≤ 140737488355328) (hbase : base ≤ w.heap.size) (H : Nat) (hH : w.heap.size = H) :
    ∃ g cap w', (Builtin.append_ #[t, t] ty #[v, .slice (some ad) m c]).run P w = .ok (.slice (some ⟨g, 0, none⟩) (n + m) cap) w' ∧
      w'.ownsRow base e size (.slice (some ⟨g, 0, none⟩) (n + m) cap) (n + m) (xs ++ news) ∧ ((v.ownBlock = some g ∧ w.grownBy w' (some g)) ∨ (g = H ∧ w.grownBy w' none)) ∧ g < w'.heap.size := by
  obtain ⟨v', w', hr, h2, h3, _, h5⟩ := run_append_own_at (P := P) w base t ty e i z size bytes ht hi hz hsize hby hzs hsz v n xs hown ad m c news hl hnews h1 h63 hbytes hbase
  obtain ⟨g, cap, rfl, _, hlt⟩ := h2.form (by omega)
  refine ⟨g, cap, w', hr, h2, ?_, hlt⟩
  have hfresh : (Value.slice (some ⟨g, 0, none⟩) (n + m) cap).ownBlock = some w.heap.size → g = H := fun h => by
    have : g = w.heap.size := by simpa [Value.ownBlock] using h
    rw [this, hH]
  rcases hown.2 with ⟨rfl, rfl⟩ | ⟨g0, cap0, cur, rfl, hbg, hg, hnc, hcm, hcs, htake⟩
  · right
    rcases h5 with h5 | h5
    · cases h5
    · exact ⟨hfresh h5, h3⟩
  · by_cases hroom : n + m ≤ cap0
    · left
      rcases h5 with h5 | h5
      · have : g = g0 := by simpa [Value.ownBlock] using h5
        subst this
        exact ⟨rfl, h3⟩
      · exfalso
        subst hsize
        have hfit : n * i.size + news.length ≤ cur.size := by rw [hl, hcs, ← Nat.add_mul]; exact Nat.mul_le_mul_right _ hroom
        have hr2 := run_append_room (P := P) w t ty e i ht hi g0 n cap0 cur hg ad m c news hl hnews h1 hroom hfit
        rw [hr2] at hr
        injection hr with hv _
        have hgg : g = g0 := by injection hv with hv _ _; injection hv with hv; injection hv with hv; exact hv.symm
        have : g = w.heap.size := by simpa [Value.ownBlock] using h5
        have hlt0 : g0 < w.heap.size := (hown.lt g0 rfl).2
        omega
    · right
      subst hsize
      subst hby
      have holds : ∀ j u, xs[j]? = some u → w.cell? ((⟨g0, 0, none⟩ : Addr).add j) = some u := hown.cells (g := g0) rfl
      have hr2 := run_append_grow (P := P) w t ty e i z ht hi hz ⟨g0, 0, none⟩ n cap0 xs hown.1 holds ad m c news hl hnews (by omega) (by simp only [maxLen] at h63; omega) (growslice_fits (by omega) hbytes)
      rw [hr2] at hr
      injection hr with hv hw
      have hgg : g = w.heap.size := by injection hv with hv _ _; injection hv with hv; injection hv with hv; exact hv.symm
      refine ⟨hgg.trans hH, ?_⟩
      rw [← hw]
      exact ⟨rfl, rfl, rfl, by simp, fun k hk _ => by first | exact heap_alloc_old w.drew _ k hk | exact heap_alloc_old w.drew _ hk⟩

theorem wpList_append_two {ops : Array Oper} {rest : List Oper} {o : Oper} {a : Act} {Q : Exit → Act → World → Prop} (hgd : o.guard = none) (s x : Operand) (t : TypeId)
    (ho : o.op = .call { callee := .builtin .append, args := #[s, x], argTypes := #[t, t] })
    (base : Nat) (e : TypeId) (i : TypeInfo) (z : Value) (size bytes : Nat) (ht : P.underlying t = some (.slice e)) (hi : P.info? e = some i) (hz : i.zero = some z)
    (hsize : i.size = size) (hby : i.bytes = bytes) (hzs : z.cells.size = size) (hsz : 0 < size)
    (v : Value) (n : Nat) (xs : List Value) (hs : a.eval s = v) (hown : w.ownsRow base e size v n xs)
    (ad : Addr) (m c : Nat) (news : List Value) (hx : a.eval x = .slice (some ad) m c) (hl : news.length = m * size) (hnews : ∀ j u, news[j]? = some u → w.cell? (ad.add j) = some u) (h1 : ∀ u ∈ news, u.oneCell' = true)
    (hm : 0 < m) (h63 : n + m ≤ maxLen) (hbytes : (n + m) * bytes ≤ 140737488355328) (hbase : base ≤ w.heap.size) (H : Nat) (hH : w.heap.size = H)
    (h : ∀ g cap w', w'.ownsRow base e size (.slice (some ⟨g, 0, none⟩) (n + m) cap) (n + m) (xs ++ news) → w.grownBy w' v.ownBlock → ((v.ownBlock = some g ∧ w.grownBy w' (some g)) ∨ (g = H ∧ w.grownBy w' none)) → g < w'.heap.size → wpList P ops Q rest (a.put o.dst (.slice (some ⟨g, 0, none⟩) (n + m) cap)) w') : wpList P ops Q (o :: rest) a w :=
  wpList_plain hgd fun _ hK => by
    obtain ⟨g, cap, w', hr, h2, h4, h5⟩ := run_append_two (P := P) w t o.type base e i z size bytes ht hi hz hsize hby hzs hsz v n xs hown ad m c news hl hnews h1 hm h63 hbytes hbase H hH
    have h3 : w.grownBy w' v.ownBlock := by
      rcases h4 with ⟨h6, h7⟩ | ⟨_, h7⟩
      · rw [h6]; exact h7
      · exact ⟨h7.os, h7.tape, h7.output, h7.size, fun k hk _ => h7.block k hk (by simp)⟩
    unfold Oper.wp execOp
    simp only [ho, resolve, invoke, builtin, Sem.run_bind, Sem.run_pure, Result.andThen_ok, List.map_toArray, List.map_cons, List.map_nil, hs, hx, hr]
    exact hK _ _ (h g cap w' h2 h3 h4 h5)
end
end

section
open Go.RowKit

set_option maxRecDepth 100000 in
set_option maxHeartbeats 1000000 in
theorem ApartBytes_nil (w : World) : Calls Tryz.prog 48 #[.slice none 0 0] w fun e w' => e = .returned (.bool true) ∧ w' = w := by
  go_enter Tryz.func48, Tryz.ntmps48
  go_wp2
  go_loopg [3] (0 : Nat) (fun gk i wr => i = .int .i64 0 ∧ wr = w)
  case atStart => exact ⟨rfl, rfl⟩
  case round =>
    obtain ⟨rfl, rfl⟩ := hrel
    go_wp2
    go_loopg [6] (0 : Nat) (fun gk i wx => i = .int .i64 0 ∧ wx = wr)
    case atStart => exact ⟨rfl, rfl⟩
    case round =>
      obtain ⟨rfl, rfl⟩ := hrel
      go_wp2
      go_loopg [9] (0 : Nat) (fun gk i wx => i = .int .i64 0 ∧ wx = wr)
      case atStart => exact ⟨rfl, rfl⟩
      case round =>
        obtain ⟨rfl, rfl⟩ := hrel
        go_wp2
        go_ret
        exact ⟨rfl, rfl⟩
set_option maxRecDepth 100000 in
set_option maxHeartbeats 1000000 in
theorem ApartTexts_nil (w : World) : Calls Tryz.prog 49 #[.slice none 0 0] w fun e w' => e = .returned (.bool true) ∧ w' = w := by
  go_enter Tryz.func49, Tryz.ntmps49
  go_wp2
  go_loopg [3] (0 : Nat) (fun gk i wr => i = .int .i64 0 ∧ wr = w)
  case atStart => exact ⟨rfl, rfl⟩
  case round =>
    obtain ⟨rfl, rfl⟩ := hrel
    go_wp2
    go_loopg [6] (0 : Nat) (fun gk i wx => i = .int .i64 0 ∧ wx = wr)
    case atStart => exact ⟨rfl, rfl⟩
    case round =>
      obtain ⟨rfl, rfl⟩ := hrel
      go_wp2
      go_loopg [9] (0 : Nat) (fun gk i wx => i = .int .i64 0 ∧ wx = wr)
      case atStart => exact ⟨rfl, rfl⟩
      case round =>
        obtain ⟨rfl, rfl⟩ := hrel
        go_wp2
        go_ret
        exact ⟨rfl, rfl⟩
set_option maxRecDepth 100000 in
set_option maxHeartbeats 1000000 in
theorem ApartInts_nil (w : World) : Calls Tryz.prog 50 #[.slice none 0 0] w fun e w' => e = .returned (.bool true) ∧ w' = w := by
  go_enter Tryz.func50, Tryz.ntmps50
  go_wp2
  go_loopg [3] (0 : Nat) (fun gk i wr => i = .int .i64 0 ∧ wr = w)
  case atStart => exact ⟨rfl, rfl⟩
  case round =>
    obtain ⟨rfl, rfl⟩ := hrel
    go_wp2
    go_loopg [6] (0 : Nat) (fun gk i wx => i = .int .i64 0 ∧ wx = wr)
    case atStart => exact ⟨rfl, rfl⟩
    case round =>
      obtain ⟨rfl, rfl⟩ := hrel
      go_wp2
      go_loopg [9] (0 : Nat) (fun gk i wx => i = .int .i64 0 ∧ wx = wr)
      case atStart => exact ⟨rfl, rfl⟩
      case round =>
        obtain ⟨rfl, rfl⟩ := hrel
        go_wp2
        go_ret
        exact ⟨rfl, rfl⟩
set_option maxRecDepth 100000 in
set_option maxHeartbeats 1000000 in
theorem ApartIds_nil (w : World) : Calls Tryz.prog 51 #[.slice none 0 0] w fun e w' => e = .returned (.bool true) ∧ w' = w := by
  go_enter Tryz.func51, Tryz.ntmps51
  go_wp2
  go_loopg [3] (0 : Nat) (fun gk i wr => i = .int .i64 0 ∧ wr = w)
  case atStart => exact ⟨rfl, rfl⟩
  case round =>
    obtain ⟨rfl, rfl⟩ := hrel
    go_wp2
    go_loopg [6] (0 : Nat) (fun gk i wx => i = .int .i64 0 ∧ wx = wr)
    case atStart => exact ⟨rfl, rfl⟩
    case round =>
      obtain ⟨rfl, rfl⟩ := hrel
      go_wp2
      go_loopg [9] (0 : Nat) (fun gk i wx => i = .int .i64 0 ∧ wx = wr)
      case atStart => exact ⟨rfl, rfl⟩
      case round =>
        obtain ⟨rfl, rfl⟩ := hrel
        go_wp2
        go_ret
        exact ⟨rfl, rfl⟩
set_option maxRecDepth 100000 in
set_option maxHeartbeats 1000000 in
theorem ApartRunes_nil (w : World) : Calls Tryz.prog 52 #[.slice none 0 0] w fun e w' => e = .returned (.bool true) ∧ w' = w := by
  go_enter Tryz.func52, Tryz.ntmps52
  go_wp2
  go_loopg [3] (0 : Nat) (fun gk i wr => i = .int .i64 0 ∧ wr = w)
  case atStart => exact ⟨rfl, rfl⟩
  case round =>
    obtain ⟨rfl, rfl⟩ := hrel
    go_wp2
    go_loopg [6] (0 : Nat) (fun gk i wx => i = .int .i64 0 ∧ wx = wr)
    case atStart => exact ⟨rfl, rfl⟩
    case round =>
      obtain ⟨rfl, rfl⟩ := hrel
      go_wp2
      go_loopg [9] (0 : Nat) (fun gk i wx => i = .int .i64 0 ∧ wx = wr)
      case atStart => exact ⟨rfl, rfl⟩
      case round =>
        obtain ⟨rfl, rfl⟩ := hrel
        go_wp2
        go_ret
        exact ⟨rfl, rfl⟩
set_option maxRecDepth 100000 in
set_option maxHeartbeats 1000000 in
theorem ApartNumbers_nil (w : World) : Calls Tryz.prog 53 #[.slice none 0 0] w fun e w' => e = .returned (.bool true) ∧ w' = w := by
  go_enter Tryz.func53, Tryz.ntmps53
  go_wp2
  go_loopg [3] (0 : Nat) (fun gk i wr => i = .int .i64 0 ∧ wr = w)
  case atStart => exact ⟨rfl, rfl⟩
  case round =>
    obtain ⟨rfl, rfl⟩ := hrel
    go_wp2
    go_loopg [6] (0 : Nat) (fun gk i wx => i = .int .i64 0 ∧ wx = wr)
    case atStart => exact ⟨rfl, rfl⟩
    case round =>
      obtain ⟨rfl, rfl⟩ := hrel
      go_wp2
      go_loopg [9] (0 : Nat) (fun gk i wx => i = .int .i64 0 ∧ wx = wr)
      case atStart => exact ⟨rfl, rfl⟩
      case round =>
        obtain ⟨rfl, rfl⟩ := hrel
        go_wp2
        go_ret
        exact ⟨rfl, rfl⟩
set_option maxRecDepth 100000 in
set_option maxHeartbeats 1000000 in
theorem ApartRanges_nil (w : World) : Calls Tryz.prog 55 #[.slice none 0 0] w fun e w' => e = .returned (.bool true) ∧ w' = w := by
  go_enter Tryz.func55, Tryz.ntmps55
  go_wp2
  go_loopg [3] (0 : Nat) (fun gk i wr => i = .int .i64 0 ∧ wr = w)
  case atStart => exact ⟨rfl, rfl⟩
  case round =>
    obtain ⟨rfl, rfl⟩ := hrel
    go_wp2
    go_loopg [6] (0 : Nat) (fun gk i wx => i = .int .i64 0 ∧ wx = wr)
    case atStart => exact ⟨rfl, rfl⟩
    case round =>
      obtain ⟨rfl, rfl⟩ := hrel
      go_wp2
      go_loopg [9] (0 : Nat) (fun gk i wx => i = .int .i64 0 ∧ wx = wr)
      case atStart => exact ⟨rfl, rfl⟩
      case round =>
        obtain ⟨rfl, rfl⟩ := hrel
        go_wp2
        go_ret
        exact ⟨rfl, rfl⟩
set_option maxRecDepth 100000 in
set_option maxHeartbeats 1000000 in
theorem ApartTokens_nil (w : World) : Calls Tryz.prog 56 #[.slice none 0 0] w fun e w' => e = .returned (.bool true) ∧ w' = w := by
  go_enter Tryz.func56, Tryz.ntmps56
  go_wp2
  go_loopg [3] (0 : Nat) (fun gk i wr => i = .int .i64 0 ∧ wr = w)
  case atStart => exact ⟨rfl, rfl⟩
  case round =>
    obtain ⟨rfl, rfl⟩ := hrel
    go_wp2
    go_loopg [6] (0 : Nat) (fun gk i wx => i = .int .i64 0 ∧ wx = wr)
    case atStart => exact ⟨rfl, rfl⟩
    case round =>
      obtain ⟨rfl, rfl⟩ := hrel
      go_wp2
      go_loopg [9] (0 : Nat) (fun gk i wx => i = .int .i64 0 ∧ wx = wr)
      case atStart => exact ⟨rfl, rfl⟩
      case round =>
        obtain ⟨rfl, rfl⟩ := hrel
        go_wp2
        go_ret
        exact ⟨rfl, rfl⟩
set_option maxRecDepth 100000 in
set_option maxHeartbeats 1000000 in
theorem ApartItems_nil (w : World) : Calls Tryz.prog 57 #[.slice none 0 0] w fun e w' => e = .returned (.bool true) ∧ w' = w := by
  go_enter Tryz.func57, Tryz.ntmps57
  go_wp2
  go_loopg [3] (0 : Nat) (fun gk i wr => i = .int .i64 0 ∧ wr = w)
  case atStart => exact ⟨rfl, rfl⟩
  case round =>
    obtain ⟨rfl, rfl⟩ := hrel
    go_wp2
    go_loopg [6] (0 : Nat) (fun gk i wx => i = .int .i64 0 ∧ wx = wr)
    case atStart => exact ⟨rfl, rfl⟩
    case round =>
      obtain ⟨rfl, rfl⟩ := hrel
      go_wp2
      go_loopg [9] (0 : Nat) (fun gk i wx => i = .int .i64 0 ∧ wx = wr)
      case atStart => exact ⟨rfl, rfl⟩
      case round =>
        obtain ⟨rfl, rfl⟩ := hrel
        go_wp2
        go_ret
        exact ⟨rfl, rfl⟩
set_option maxRecDepth 100000 in
set_option maxHeartbeats 1000000 in
theorem ApartSeats_nil (w : World) : Calls Tryz.prog 58 #[.slice none 0 0] w fun e w' => e = .returned (.bool true) ∧ w' = w := by
  go_enter Tryz.func58, Tryz.ntmps58
  go_wp2
  go_loopg [3] (0 : Nat) (fun gk i wr => i = .int .i64 0 ∧ wr = w)
  case atStart => exact ⟨rfl, rfl⟩
  case round =>
    obtain ⟨rfl, rfl⟩ := hrel
    go_wp2
    go_loopg [6] (0 : Nat) (fun gk i wx => i = .int .i64 0 ∧ wx = wr)
    case atStart => exact ⟨rfl, rfl⟩
    case round =>
      obtain ⟨rfl, rfl⟩ := hrel
      go_wp2
      go_loopg [9] (0 : Nat) (fun gk i wx => i = .int .i64 0 ∧ wx = wr)
      case atStart => exact ⟨rfl, rfl⟩
      case round =>
        obtain ⟨rfl, rfl⟩ := hrel
        go_wp2
        go_ret
        exact ⟨rfl, rfl⟩
set_option maxRecDepth 100000 in
set_option maxHeartbeats 1000000 in
theorem ApartWeights_nil (w : World) : Calls Tryz.prog 59 #[.slice none 0 0] w fun e w' => e = .returned (.bool true) ∧ w' = w := by
  go_enter Tryz.func59, Tryz.ntmps59
  go_wp2
  go_loopg [3] (0 : Nat) (fun gk i wr => i = .int .i64 0 ∧ wr = w)
  case atStart => exact ⟨rfl, rfl⟩
  case round =>
    obtain ⟨rfl, rfl⟩ := hrel
    go_wp2
    go_loopg [6] (0 : Nat) (fun gk i wx => i = .int .i64 0 ∧ wx = wr)
    case atStart => exact ⟨rfl, rfl⟩
    case round =>
      obtain ⟨rfl, rfl⟩ := hrel
      go_wp2
      go_loopg [9] (0 : Nat) (fun gk i wx => i = .int .i64 0 ∧ wx = wr)
      case atStart => exact ⟨rfl, rfl⟩
      case round =>
        obtain ⟨rfl, rfl⟩ := hrel
        go_wp2
        go_ret
        exact ⟨rfl, rfl⟩
set_option maxRecDepth 100000 in
set_option maxHeartbeats 1000000 in
theorem ApartElements_nil (w : World) : Calls Tryz.prog 60 #[.slice none 0 0] w fun e w' => e = .returned (.bool true) ∧ w' = w := by
  go_enter Tryz.func60, Tryz.ntmps60
  go_wp2
  go_loopg [3] (0 : Nat) (fun gk i wr => i = .int .i64 0 ∧ wr = w)
  case atStart => exact ⟨rfl, rfl⟩
  case round =>
    obtain ⟨rfl, rfl⟩ := hrel
    go_wp2
    go_loopg [6] (0 : Nat) (fun gk i wx => i = .int .i64 0 ∧ wx = wr)
    case atStart => exact ⟨rfl, rfl⟩
    case round =>
      obtain ⟨rfl, rfl⟩ := hrel
      go_wp2
      go_loopg [9] (0 : Nat) (fun gk i wx => i = .int .i64 0 ∧ wx = wr)
      case atStart => exact ⟨rfl, rfl⟩
      case round =>
        obtain ⟨rfl, rfl⟩ := hrel
        go_wp2
        go_ret
        exact ⟨rfl, rfl⟩
set_option maxRecDepth 100000 in
set_option maxHeartbeats 1000000 in
theorem ApartSpots_nil (w : World) : Calls Tryz.prog 61 #[.slice none 0 0] w fun e w' => e = .returned (.bool true) ∧ w' = w := by
  go_enter Tryz.func61, Tryz.ntmps61
  go_wp2
  go_loopg [3] (0 : Nat) (fun gk i wr => i = .int .i64 0 ∧ wr = w)
  case atStart => exact ⟨rfl, rfl⟩
  case round =>
    obtain ⟨rfl, rfl⟩ := hrel
    go_wp2
    go_loopg [6] (0 : Nat) (fun gk i wx => i = .int .i64 0 ∧ wx = wr)
    case atStart => exact ⟨rfl, rfl⟩
    case round =>
      obtain ⟨rfl, rfl⟩ := hrel
      go_wp2
      go_loopg [9] (0 : Nat) (fun gk i wx => i = .int .i64 0 ∧ wx = wr)
      case atStart => exact ⟨rfl, rfl⟩
      case round =>
        obtain ⟨rfl, rfl⟩ := hrel
        go_wp2
        go_ret
        exact ⟨rfl, rfl⟩
set_option maxRecDepth 100000 in
set_option maxHeartbeats 1000000 in
theorem ApartWords_nil (w : World) : Calls Tryz.prog 62 #[.slice none 0 0] w fun e w' => e = .returned (.bool true) ∧ w' = w := by
  go_enter Tryz.func62, Tryz.ntmps62
  go_wp2
  go_loopg [3] (0 : Nat) (fun gk i wr => i = .int .i64 0 ∧ wr = w)
  case atStart => exact ⟨rfl, rfl⟩
  case round =>
    obtain ⟨rfl, rfl⟩ := hrel
    go_wp2
    go_loopg [6] (0 : Nat) (fun gk i wx => i = .int .i64 0 ∧ wx = wr)
    case atStart => exact ⟨rfl, rfl⟩
    case round =>
      obtain ⟨rfl, rfl⟩ := hrel
      go_wp2
      go_loopg [9] (0 : Nat) (fun gk i wx => i = .int .i64 0 ∧ wx = wr)
      case atStart => exact ⟨rfl, rfl⟩
      case round =>
        obtain ⟨rfl, rfl⟩ := hrel
        go_wp2
        go_ret
        exact ⟨rfl, rfl⟩
set_option maxRecDepth 100000 in
set_option maxHeartbeats 1000000 in
theorem ApartPairs_nil (w : World) : Calls Tryz.prog 63 #[.slice none 0 0] w fun e w' => e = .returned (.bool true) ∧ w' = w := by
  go_enter Tryz.func63, Tryz.ntmps63
  go_wp2
  go_loopg [3] (0 : Nat) (fun gk i wr => i = .int .i64 0 ∧ wr = w)
  case atStart => exact ⟨rfl, rfl⟩
  case round =>
    obtain ⟨rfl, rfl⟩ := hrel
    go_wp2
    go_loopg [6] (0 : Nat) (fun gk i wx => i = .int .i64 0 ∧ wx = wr)
    case atStart => exact ⟨rfl, rfl⟩
    case round =>
      obtain ⟨rfl, rfl⟩ := hrel
      go_wp2
      go_loopg [9] (0 : Nat) (fun gk i wx => i = .int .i64 0 ∧ wx = wr)
      case atStart => exact ⟨rfl, rfl⟩
      case round =>
        obtain ⟨rfl, rfl⟩ := hrel
        go_wp2
        go_ret
        exact ⟨rfl, rfl⟩
set_option maxRecDepth 100000 in
set_option maxHeartbeats 1000000 in
theorem ApartEntries_nil (w : World) : Calls Tryz.prog 64 #[.slice none 0 0] w fun e w' => e = .returned (.bool true) ∧ w' = w := by
  go_enter Tryz.func64, Tryz.ntmps64
  go_wp2
  go_loopg [3] (0 : Nat) (fun gk i wr => i = .int .i64 0 ∧ wr = w)
  case atStart => exact ⟨rfl, rfl⟩
  case round =>
    obtain ⟨rfl, rfl⟩ := hrel
    go_wp2
    go_loopg [6] (0 : Nat) (fun gk i wx => i = .int .i64 0 ∧ wx = wr)
    case atStart => exact ⟨rfl, rfl⟩
    case round =>
      obtain ⟨rfl, rfl⟩ := hrel
      go_wp2
      go_loopg [9] (0 : Nat) (fun gk i wx => i = .int .i64 0 ∧ wx = wr)
      case atStart => exact ⟨rfl, rfl⟩
      case round =>
        obtain ⟨rfl, rfl⟩ := hrel
        go_wp2
        go_ret
        exact ⟨rfl, rfl⟩
set_option maxRecDepth 100000 in
set_option maxHeartbeats 1000000 in
theorem ApartDocs_nil (w : World) : Calls Tryz.prog 65 #[.slice none 0 0] w fun e w' => e = .returned (.bool true) ∧ w' = w := by
  go_enter Tryz.func65, Tryz.ntmps65
  go_wp2
  go_loopg [3] (0 : Nat) (fun gk i wr => i = .int .i64 0 ∧ wr = w)
  case atStart => exact ⟨rfl, rfl⟩
  case round =>
    obtain ⟨rfl, rfl⟩ := hrel
    go_wp2
    go_loopg [6] (0 : Nat) (fun gk i wx => i = .int .i64 0 ∧ wx = wr)
    case atStart => exact ⟨rfl, rfl⟩
    case round =>
      obtain ⟨rfl, rfl⟩ := hrel
      go_wp2
      go_loopg [9] (0 : Nat) (fun gk i wx => i = .int .i64 0 ∧ wx = wr)
      case atStart => exact ⟨rfl, rfl⟩
      case round =>
        obtain ⟨rfl, rfl⟩ := hrel
        go_wp2
        go_ret
        exact ⟨rfl, rfl⟩
set_option maxRecDepth 100000 in
set_option maxHeartbeats 1000000 in
theorem ApartInfos_nil (w : World) : Calls Tryz.prog 66 #[.slice none 0 0] w fun e w' => e = .returned (.bool true) ∧ w' = w := by
  go_enter Tryz.func66, Tryz.ntmps66
  go_wp2
  go_loopg [3] (0 : Nat) (fun gk i wr => i = .int .i64 0 ∧ wr = w)
  case atStart => exact ⟨rfl, rfl⟩
  case round =>
    obtain ⟨rfl, rfl⟩ := hrel
    go_wp2
    go_loopg [6] (0 : Nat) (fun gk i wx => i = .int .i64 0 ∧ wx = wr)
    case atStart => exact ⟨rfl, rfl⟩
    case round =>
      obtain ⟨rfl, rfl⟩ := hrel
      go_wp2
      go_loopg [9] (0 : Nat) (fun gk i wx => i = .int .i64 0 ∧ wx = wr)
      case atStart => exact ⟨rfl, rfl⟩
      case round =>
        obtain ⟨rfl, rfl⟩ := hrel
        go_wp2
        go_ret
        exact ⟨rfl, rfl⟩
set_option maxRecDepth 100000 in
set_option maxHeartbeats 1000000 in
theorem ApartHits_nil (w : World) : Calls Tryz.prog 67 #[.slice none 0 0] w fun e w' => e = .returned (.bool true) ∧ w' = w := by
  go_enter Tryz.func67, Tryz.ntmps67
  go_wp2
  go_loopg [3] (0 : Nat) (fun gk i wr => i = .int .i64 0 ∧ wr = w)
  case atStart => exact ⟨rfl, rfl⟩
  case round =>
    obtain ⟨rfl, rfl⟩ := hrel
    go_wp2
    go_loopg [6] (0 : Nat) (fun gk i wx => i = .int .i64 0 ∧ wx = wr)
    case atStart => exact ⟨rfl, rfl⟩
    case round =>
      obtain ⟨rfl, rfl⟩ := hrel
      go_wp2
      go_loopg [9] (0 : Nat) (fun gk i wx => i = .int .i64 0 ∧ wx = wr)
      case atStart => exact ⟨rfl, rfl⟩
      case round =>
        obtain ⟨rfl, rfl⟩ := hrel
        go_wp2
        go_ret
        exact ⟨rfl, rfl⟩
set_option maxRecDepth 100000 in
set_option maxHeartbeats 1000000 in
theorem ApartNears_nil (w : World) : Calls Tryz.prog 68 #[.slice none 0 0] w fun e w' => e = .returned (.bool true) ∧ w' = w := by
  go_enter Tryz.func68, Tryz.ntmps68
  go_wp2
  go_loopg [3] (0 : Nat) (fun gk i wr => i = .int .i64 0 ∧ wr = w)
  case atStart => exact ⟨rfl, rfl⟩
  case round =>
    obtain ⟨rfl, rfl⟩ := hrel
    go_wp2
    go_loopg [6] (0 : Nat) (fun gk i wx => i = .int .i64 0 ∧ wx = wr)
    case atStart => exact ⟨rfl, rfl⟩
    case round =>
      obtain ⟨rfl, rfl⟩ := hrel
      go_wp2
      go_loopg [9] (0 : Nat) (fun gk i wx => i = .int .i64 0 ∧ wx = wr)
      case atStart => exact ⟨rfl, rfl⟩
      case round =>
        obtain ⟨rfl, rfl⟩ := hrel
        go_wp2
        go_ret
        exact ⟨rfl, rfl⟩
set_option maxRecDepth 100000 in
set_option maxHeartbeats 1000000 in
theorem apartPosts_nil (w : World) : Calls Tryz.prog 69 #[.slice none 0 0] w fun e w' => e = .returned (.bool true) ∧ w' = w := by
  go_enter Tryz.func69, Tryz.ntmps69
  go_wp2
  go_loopg [3] (0 : Nat) (fun gk i wr => i = .int .i64 0 ∧ wr = w)
  case atStart => exact ⟨rfl, rfl⟩
  case round =>
    obtain ⟨rfl, rfl⟩ := hrel
    go_wp2
    go_loopg [6] (0 : Nat) (fun gk i wx => i = .int .i64 0 ∧ wx = wr)
    case atStart => exact ⟨rfl, rfl⟩
    case round =>
      obtain ⟨rfl, rfl⟩ := hrel
      go_wp2
      go_loopg [10] (0 : Nat) (fun gk i wx => i = .int .i64 0 ∧ wx = wr)
      case atStart => exact ⟨rfl, rfl⟩
      case round =>
        obtain ⟨rfl, rfl⟩ := hrel
        go_wp2
        go_ret
        exact ⟨rfl, rfl⟩
set_option maxRecDepth 100000 in
set_option maxHeartbeats 1000000 in
theorem apartTerms_nil (w : World) : Calls Tryz.prog 70 #[.slice none 0 0] w fun e w' => e = .returned (.bool true) ∧ w' = w := by
  go_enter Tryz.func70, Tryz.ntmps70
  go_wp2
  go_loopg [3] (0 : Nat) (fun gk i wr => i = .int .i64 0 ∧ wr = w)
  case atStart => exact ⟨rfl, rfl⟩
  case round =>
    obtain ⟨rfl, rfl⟩ := hrel
    go_wp2
    go_loopg [6] (0 : Nat) (fun gk i wx => i = .int .i64 0 ∧ wx = wr)
    case atStart => exact ⟨rfl, rfl⟩
    case round =>
      obtain ⟨rfl, rfl⟩ := hrel
      go_wp2
      go_loopg [10] (0 : Nat) (fun gk i wx => i = .int .i64 0 ∧ wx = wr)
      case atStart => exact ⟨rfl, rfl⟩
      case round =>
        obtain ⟨rfl, rfl⟩ := hrel
        go_wp2
        go_ret
        exact ⟨rfl, rfl⟩
set_option maxRecDepth 100000 in
set_option maxHeartbeats 1000000 in
theorem apartQueries_nil (w : World) : Calls Tryz.prog 71 #[.slice none 0 0] w fun e w' => e = .returned (.bool true) ∧ w' = w := by
  go_enter Tryz.func71, Tryz.ntmps71
  go_wp2
  go_loopg [3] (0 : Nat) (fun gk i wr => i = .int .i64 0 ∧ wr = w)
  case atStart => exact ⟨rfl, rfl⟩
  case round =>
    obtain ⟨rfl, rfl⟩ := hrel
    go_wp2
    go_loopg [6] (0 : Nat) (fun gk i wx => i = .int .i64 0 ∧ wx = wr)
    case atStart => exact ⟨rfl, rfl⟩
    case round =>
      obtain ⟨rfl, rfl⟩ := hrel
      go_wp2
      go_loopg [10] (0 : Nat) (fun gk i wx => i = .int .i64 0 ∧ wx = wr)
      case atStart => exact ⟨rfl, rfl⟩
      case round =>
        obtain ⟨rfl, rfl⟩ := hrel
        go_wp2
        go_ret
        exact ⟨rfl, rfl⟩

end
end Go.Proofs.YtmbjjheaddhmeaaGreatDoor
