/- SameRunes; CopySpans; the count of the document's sets. -/
import Derived.Test.YtmbjjheaddhmeaaGreatDoorRefA
import Derived.Deep.LoopGhost
import Derived.Deep.AppendLies
import Derived.Deep.QuietTactic
import Derived.BigQuiet
import Derived.Lib.Hide
namespace Go.Proofs.YtmbjjheaddhmeaaGreatDoor
open Go.RowKit

/-- The value v is a slice that reads as the runes l. -/
def Runes (w : World) (v : Value) (l : List Int) : Prop :=
  ∃ a cap, v = .slice a l.length cap ∧ (l = [] ∨ ∃ b off, a = some ⟨b, off, none⟩ ∧ ∀ j, j < l.length → w.cell? ⟨b, off + j, none⟩ = some (.int .i32 (l[j]?.getD 0)))
theorem Runes.below {w w' : World} {v : Value} {l : List Int} (hb : Below w.heap.size w w') (h : Runes w v l) : Runes w' v l := by
  obtain ⟨a, cap, rfl, h⟩ := h
  refine ⟨a, cap, rfl, ?_⟩
  rcases h with h | ⟨b, off, rfl, h⟩
  · exact .inl h
  · exact .inr ⟨b, off, rfl, fun j hj => (hb.cell (p := ⟨b, off + j, none⟩) (cell_lt (h j hj))).trans (h j hj)⟩
def I32 (x : Int) : Value := .int .i32 x
theorem Runes.of_owns {w : World} {base : Nat} {e : TypeId} {v : Value} {l : List Int} (h : w.ownsRow base e 1 v l.length (l.map I32)) : Runes w v l := by
  have h' := h
  obtain ⟨h0, h⟩ := h
  rcases h with ⟨rfl, h⟩ | ⟨g, cap, cur, rfl, hg, hh, h1, h2, h3, h4⟩
  · have : l = [] := List.eq_nil_of_length_eq_zero h
    subst this
    exact ⟨none, 0, rfl, .inl rfl⟩
  · refine ⟨some ⟨g, 0, none⟩, cap, rfl, .inr ⟨g, 0, rfl, fun j hj => ?_⟩⟩
    have e1 : (l.map I32)[j]? = some (I32 (l[j]?.getD 0)) := by simp [hj]
    rw [← h4, List.getElem?_take, if_pos (by omega)] at e1
    simp only [Array.getElem?_toList] at e1
    simp [World.cell?, hh, e1, I32]

set_option maxRecDepth 100000 in
set_option maxHeartbeats 2000000 in
theorem sameRunes_any (v u : Value) (l : List Int) (w : World) (hv : Runes w v l) (hu : Runes w u l) (hl : l.length ≤ 1000000) :
    Calls Tryz.prog 45 #[v, u] w fun e w' => e = .returned (.bool true) ∧ Below w.heap.size w w' := by
  obtain ⟨a, c, rfl, hA⟩ := hv
  obtain ⟨b, d, rfl, hB⟩ := hu
  go_enter Tryz.func45, Tryz.ntmps45
  go_wp2
  go_loopg [5] l.length (fun g i wr => ∃ k : Nat, i = .int .i64 k ∧ k ≤ l.length ∧ l.length - k ≤ g ∧ Below w.heap.size w wr)
  case atStart => exact ⟨0, rfl, by omega, by omega, Below.refl _ _⟩
  case round =>
    obtain ⟨k, rfl, hk, hg, hb⟩ := hrel
    by_cases hkl : k < l.length
    · rcases hA with h | ⟨ba, oa, rfl, hA⟩
      · subst h; simp at hkl
      rcases hB with h | ⟨bb, ob, rfl, hB⟩
      · subst h; simp at hkl
      have a1 := hA k hkl
      have b1 := hB k hkl
      generalize l[k]?.getD 0 = x at *
      have a1' := (hb.cell (p := ⟨ba, oa + k, none⟩) (cell_lt a1)).trans a1
      have b1' := (hb.cell (p := ⟨bb, ob + k, none⟩) (cell_lt b1)).trans b1
      clear hA hB a1 b1
      have hkl' : (k : Int) < (l.length : Int) := by omega
      have hx : (x != x) = false := by simp
      go_wp2
      go_quiet (fail)
      go_wp2
      go_roundg (gk - 1)
      case measure => omega
      case rel => exact ⟨k + 1, by go_num, by omega, by omega, below_drewN hb _⟩
    · obtain rfl : k = l.length := by omega
      clear hA hB
      go_wp2
      go_ret
      exact ⟨rfl, hb⟩

theorem flat_take_snoc (l : List (Int × Int)) (k : Nat) (hk : k < l.length) : flat (l.take (k + 1)) = flat (l.take k) ++ [.int .i32 (l[k]?.getD (0, 0)).1, .int .i32 (l[k]?.getD (0, 0)).2] := by
  rw [List.take_succ_eq_append_getElem hk, flat_snoc]; simp [hk]
theorem owns_slice {w : World} {base : Nat} {e : TypeId} {size : Nat} {v : Value} {n : Nat} {xs : List Value} (h : w.ownsRow base e size v n xs) : ∃ a c, v = .slice a n c := by
  rcases h.2 with ⟨rfl, hn⟩ | ⟨g, cap, cur, rfl, _⟩
  · exact ⟨none, 0, by rw [hn]⟩
  · exact ⟨_, _, rfl⟩

set_option maxRecDepth 100000 in
set_option maxHeartbeats 2000000 in
theorem copySpans_any (v : Value) (l : List (Int × Int)) (w : World) (hv : Spans w v l) (hl : l.length ≤ 1000000) :
    Calls Tryz.prog 17 #[v] w fun e w' => ∃ v', e = .returned v' ∧ w'.ownsRow w.heap.size 39 2 v' l.length (flat l) ∧ Below w.heap.size w w' := by
  obtain ⟨i0, hi0, hz0, hz1, hz2⟩ := info_parts Tryz.infoSpanN
  obtain ⟨a, c, rfl, hA⟩ := hv
  go_enter Tryz.func17, Tryz.ntmps17
  go_wp2
  go_loopg [3, 4] l.length (fun g u i wr => ∃ k : Nat, i = .int .i64 k ∧ k ≤ l.length ∧ l.length - k ≤ g ∧ Hid (wr.ownsRow w.heap.size 39 2 u k (flat (l.take k))) ∧ Below w.heap.size w wr)
  case atStart => exact ⟨0, rfl, by omega, by omega, World.ownsRow_nil _ _ _ _, Below.refl _ _⟩
  case round =>
    obtain ⟨k, rfl, hk, hg, hown, hb⟩ := hrel
    obtain ⟨av, cv, rfl⟩ := owns_slice hown.out
    by_cases hkl : k < l.length
    · rcases hA with h | ⟨ba, oa, rfl, hA⟩
      · subst h; simp at hkl
      obtain ⟨a1, a2⟩ := hA k hkl
      have HT := Lib.hid (flat_take_snoc l k hkl)
      generalize l[k]?.getD (0, 0) = x at *
      obtain ⟨p, q⟩ := x
      dsimp only at a1 a2
      have a1' := (hb.cell (p := ⟨ba, oa + k * 2, none⟩) (cell_lt a1)).trans a1
      have a2' := (hb.cell (p := ⟨ba, oa + k * 2 + 1, none⟩) (cell_lt a2)).trans a2
      clear hA a1 a2
      have hkl' : (k : Int) < (l.length : Int) := by omega
      have hvb := Lib.hid hown.out.lt
      have nB : k + 1 ≤ maxLen := by unfold maxLen; omega
      have nB' : (k + 1) * 8 ≤ 140737488355328 := by omega
      have hsz := hb.size
      have BX : Below w.heap.size w (wr.alloc (.cells #[.int .i32 p, .int .i32 q] 39)) := hb.alloc hsz _
      go_wp2_with (at_builtin; refine wpList_append_lies _ ?_ (.tmp 11) (.tmp 16) 22 ?_ (w.heap.size) 39 i0 (.agg #[.int .i32 0, .int .i32 0]) 2 8 Tryz.underlying22 hi0 hz0 hz1 hz2 ?_ ?_ (.slice av k cv) (k) (flat (l.take k)) ?_ ?_ ⟨wr.heap.size, 0, none⟩ 1 1 [.int .i32 p, .int .i32 q] ?_ ?_ ?_ ?_ ?_ ?_ ?_ ?_ (wr.heap.size + 1) ?_ ?_; (· rfl); (· rfl); (· rfl); (· decide); (· rfl); (· exact hown.out.alloc _); (· rfl); (· rfl); (· exact World.news_of_block (cs := #[.int .i32 p, .int .i32 q]) (t := 39) (fr := (0, 0)) (heap_alloc_new _ _)); (· simp [Value.oneCell']); (· decide); (· exact nB); (· exact nB'); (· simp; omega); (· simp); intro g cap w1 hown1 hgrow hat hlt; have BY := BX.grown hgrow (by simp; omega) (fun k hk => (hvb.out k hk).1))
      go_roundg (gk - 1)
      case measure => omega
      case rel => exact ⟨k + 1, by go_num, by omega, by omega, by rw [HT.out]; exact hown1, BY⟩
    · obtain rfl : k = l.length := by omega
      have ho := hown.out
      rw [List.take_length] at ho
      have HO := Lib.hid ho
      clear ho hA
      go_wp2
      go_ret
      exact ⟨_, rfl, HO.out, hb⟩

theorem countN_take (L : List (Int × Int)) (k : Nat) (hk : k < L.length) : countN (L.take (k + 1)) = countN (L.take k) + ((L[k]?.getD (0, 0)).2 - (L[k]?.getD (0, 0)).1 + 1) := by
  have h : ∀ (a : List (Int × Int)) (x : Int × Int), countN (a ++ [x]) = countN a + (x.2 - x.1 + 1) := by
    intro a x
    induction a with
    | nil => simp [countN]
    | cons y a ih => rw [List.cons_append, countN, ih, countN]; omega
  rw [List.take_succ_eq_append_getElem hk, h]; simp [hk]
/-- Rows of numbers among the points'. -/
def NumR (l : List (Int × Int)) : Prop := ∀ x ∈ l, 0 ≤ x.1 ∧ x.1 ≤ 1112191 ∧ 0 ≤ x.2 ∧ x.2 ≤ 1112191
theorem NumR.get {l : List (Int × Int)} (h : NumR l) (i : Nat) (hi : i < l.length) : 0 ≤ (l[i]?.getD (0, 0)).1 ∧ (l[i]?.getD (0, 0)).1 ≤ 1112191 ∧ 0 ≤ (l[i]?.getD (0, 0)).2 ∧ (l[i]?.getD (0, 0)).2 ≤ 1112191 := by
  have := h l[i] (List.getElem_mem hi)
  simpa [hi] using this
theorem countN_bd {L : List (Int × Int)} (h : NumR L) : -(1112192 * L.length) ≤ countN L ∧ countN L ≤ 1112192 * L.length := by
  induction L with
  | nil => simp [countN]
  | cons x L ih =>
    have h1 := ih (fun y hy => h y (by simp [hy]))
    have h2 := h x (by simp)
    rw [countN, List.length_cons]
    push_cast
    omega

set_option maxRecDepth 100000 in
set_option maxHeartbeats 2000000 in
theorem rCount_any (v : Value) (L : List (Int × Int)) (w : World) (hv : Prs w v L) (hn : NumR L) (hl : L.length ≤ 1000000) :
    Calls Tryz.prog 42 #[.agg #[v]] w fun e w' => e = .returned (.int .i64 (countN L)) ∧ Below w.heap.size w w' := by
  obtain ⟨a, c, rfl, hA⟩ := hv
  have HN := Lib.hid hn
  clear hn
  have b0 := (Below.refl w.heap.size w).alloc (Nat.le_refl _) (.cells #[.slice a L.length c] 33)
  have c0 : (w.alloc (.cells #[.slice a L.length c] 33)).cell? ⟨w.heap.size, 0, none⟩ = some (.slice a L.length c) := by simp
  have h0 : w.heap.size < (w.alloc (.cells #[.slice a L.length c] 33)).heap.size := by simp
  go_enter Tryz.func42, Tryz.ntmps42
  go_wp2
  generalize w.alloc (.cells #[.slice a L.length c] 33) = W at *
  go_loopg [3, 4] L.length (fun g s i wr => ∃ k : Nat, i = .int .i64 k ∧ k ≤ L.length ∧ L.length - k ≤ g ∧ s = .int .i64 (countN (L.take k)) ∧ Below W.heap.size W wr)
  case atStart => exact ⟨0, rfl, by omega, by omega, rfl, Below.refl _ _⟩
  case round =>
    obtain ⟨k, rfl, hk, hg, rfl, hb⟩ := hrel
    have c1 := (hb.cell (p := ⟨w.heap.size, 0, none⟩) h0).trans c0
    by_cases hkl : k < L.length
    · rcases hA with h | ⟨ba, oa, rfl, hA⟩
      · subst h; simp at hkl
      obtain ⟨a1, a2⟩ := hA k hkl
      obtain ⟨n1, n2, n3, n4⟩ := HN.out.get k hkl
      have HT := Lib.hid (countN_take L k hkl)
      have hcb := countN_bd (L := L.take k) (fun x hx => HN.out x (List.mem_of_mem_take hx))
      rw [List.length_take, Nat.min_eq_left hk] at hcb
      generalize L[k]?.getD (0, 0) = x at *
      generalize countN (L.take k) = C at *
      obtain ⟨p, q⟩ := x
      dsimp only at a1 a2 n1 n2 n3 n4
      have a1' := (hb.cell (p := ⟨ba, oa + k * 2, none⟩) (Nat.lt_of_lt_of_le (cell_lt a1) b0.size)).trans ((b0.cell (p := ⟨ba, oa + k * 2, none⟩) (cell_lt a1)).trans a1)
      have a2' := (hb.cell (p := ⟨ba, oa + k * 2 + 1, none⟩) (Nat.lt_of_lt_of_le (cell_lt a2) b0.size)).trans ((b0.cell (p := ⟨ba, oa + k * 2 + 1, none⟩) (cell_lt a2)).trans a2)
      clear hA a1 a2
      have hkl' : (k : Int) < (L.length : Int) := by omega
      obtain ⟨m, hm⟩ : ∃ m : Int, m = 1112192 * (k : Int) := ⟨_, rfl⟩
      have hm2 : m ≤ 1112192000000 := by omega
      rw [← hm] at hcb
      obtain ⟨hc1, hc2⟩ := hcb
      clear hm
      go_wp2
      go_quiet (fail)
      go_wp2
      go_roundg (gk - 1)
      case measure => omega
      case rel => exact ⟨k + 1, by go_num, by omega, by omega, by rw [HT.out]; exact congrArg (Value.int .i64) (by first | rfl | omega), below_drewN hb _⟩
    · obtain rfl : k = L.length := by omega
      clear hA
      go_wp2
      go_ret
      exact ⟨ret_i (by rw [List.take_length]), b0.trans (hb.mono b0.size)⟩
end Go.Proofs.YtmbjjheaddhmeaaGreatDoor
