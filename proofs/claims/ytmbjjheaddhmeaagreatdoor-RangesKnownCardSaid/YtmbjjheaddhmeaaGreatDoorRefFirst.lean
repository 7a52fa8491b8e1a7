/- The document's sets: rows of points' numbers; Number, Point, says, has, Has. SameRunes; CopySpans; the count of the document's sets. The spans of the document's sets, and their first points. The first points of the document's sets. -/
import Derived.Test.YtmbjjheaddhmeaaGreatDoorRep
import Derived.Deep.LoopGhost
import Derived.Test.YtmbjjheaddhmeaaGreatDoorCls
import Derived.Deep.AppendLies
import Derived.Deep.QuietTactic
import Derived.BigQuiet
import Derived.Lib.Hide
import Derived.Deep.RegionHeld3
import Derived.BigRegion
namespace Go.Proofs.YtmbjjheaddhmeaaGreatDoor
open Go.RowKit

/-- The value v is a slice that reads as the rows l of numbers. -/
def Prs (w : World) (v : Value) (l : List (Int × Int)) : Prop :=
  ∃ a cap, v = .slice a l.length cap ∧ (l = [] ∨ ∃ b off, a = some ⟨b, off, none⟩ ∧
    ∀ j, j < l.length → w.cell? ⟨b, off + j * 2, none⟩ = some (.int .i64 (l[j]?.getD (0, 0)).1) ∧ w.cell? ⟨b, off + j * 2 + 1, none⟩ = some (.int .i64 (l[j]?.getD (0, 0)).2))
theorem Prs.below {w w' : World} {v : Value} {l : List (Int × Int)} (hb : Below w.heap.size w w') (h : Prs w v l) : Prs w' v l := by
  obtain ⟨a, cap, rfl, h⟩ := h
  refine ⟨a, cap, rfl, ?_⟩
  rcases h with h | ⟨b, off, rfl, h⟩
  · exact .inl h
  · refine .inr ⟨b, off, rfl, fun j hj => ?_⟩
    obtain ⟨h1, h2⟩ := h j hj
    exact ⟨(hb.cell (p := ⟨b, off + j * 2, none⟩) (cell_lt h1)).trans h1, (hb.cell (p := ⟨b, off + j * 2 + 1, none⟩) (cell_lt h2)).trans h2⟩
theorem Prs.nil (w : World) : Prs w (.slice none 0 0) [] := ⟨none, 0, rfl, .inl rfl⟩
theorem Prs.slice {w : World} {v : Value} {l : List (Int × Int)} (h : Prs w v l) : ∃ a c, v = .slice a l.length c := by
  obtain ⟨a, c, rfl, _⟩ := h; exact ⟨a, c, rfl⟩

/-- The k-th point. -/
def ptK (k : Int) : Int := if k < 55296 then k else if k < 1112064 then k + 2048 else k + 2176
theorem ptK_pt {k : Int} (h0 : 0 ≤ k) (h1 : k ≤ 1112191) : ptB (ptK k) = true ∧ numP (ptK k) = k := by
  unfold ptK
  refine ⟨?_, ?_⟩
  · unfold ptB; rw [decide_eq_true_eq]; (repeat' split) <;> omega
  · unfold numP; (repeat' split) <;> omega
theorem numP_bds {r : Int} (h : ptB r = true) : 0 ≤ numP r ∧ numP r ≤ 1112191 := by
  rcases numP_pt h with h | h | h <;> omega
theorem ptK_numP {r : Int} (h : ptB r = true) : ptK (numP r) = r := by
  rcases numP_pt h with h | h | h <;> (unfold ptK; (repeat' split) <;> omega)

set_option maxHeartbeats 400000 in
theorem rNumber_any (r : Int) (w : World) :
    Calls Tryz.prog 35 #[.int .i32 r] w fun e w' => e = .returned (.int .i64 (if ptB r then numP r else -1)) ∧ w = w' := by
  go_enter Tryz.func35, Tryz.ntmps35
  go_wp2
  all_goals (go_ret; refine ⟨ret_i ?_, rfl⟩; first | (have hz := numP_pt ‹ptB r = true›; omega) | (exact absurd (by unfold ptB; rw [decide_eq_true_eq]; omega) ‹¬ptB r = true›) | omega)

set_option maxHeartbeats 400000 in
theorem rPoint_any (k : Int) (h0 : 0 ≤ k) (h1 : k ≤ 1112191) (w : World) :
    Calls Tryz.prog 95 #[.int .i64 k] w fun e w' => e = .returned (.int .i32 (ptK k)) ∧ w = w' := by
  go_enter Tryz.func95, Tryz.ntmps95
  go_wp2
  all_goals (go_ret; exact ⟨ret_i (by unfold ptK; (repeat' split) <;> omega), rfl⟩)

def saysF (how : Int) (a b : Bool) : Bool := if how = 0 then a || b else if how = 1 then a && b else if how = 2 then a && !b else !a
theorem rsays_any (how : Int) (a b : Bool) (w : World) :
    Calls Tryz.prog 121 #[.int .i64 how, .bool a, .bool b] w fun e w' => e = .returned (.bool (saysF how a b)) ∧ w = w' := by
  cases a <;> cases b <;> (go_enter Tryz.func121, Tryz.ntmps121; go_wp2) <;> (go_ret; refine ⟨ret_b ?_, rfl⟩; simp only [beq_iff_eq, beq_eq_false_iff_ne] at *; unfold saysF; (repeat' split) <;> first | rfl | omega)

theorem memB_cons_step (L : List (Int × Int)) (k : Int) (i : Nat) (hi : i < L.length) (x : Int × Int) (hx : L[i]?.getD (0, 0) = x) :
    memB k (L.drop i) = ((decide (x.1 ≤ k) && decide (k ≤ x.2)) || memB k (L.drop (i + 1))) := by
  have : L.drop i = x :: L.drop (i + 1) := by rw [List.drop_eq_getElem_cons hi, ← hx]; simp [hi]
  rw [this, memB]

set_option maxRecDepth 100000 in
set_option maxHeartbeats 2000000 in
theorem rhas_any (v : Value) (L : List (Int × Int)) (k : Int) (w : World) (hv : Prs w v L) (hl : L.length ≤ 1000000) :
    Calls Tryz.prog 97 #[.agg #[v], .int .i64 k] w fun e w' => e = .returned (.bool (memB k L)) ∧ Below w.heap.size w w' := by
  obtain ⟨a, c, rfl, hA⟩ := hv
  have b0 := (Below.refl w.heap.size w).alloc (Nat.le_refl _) (.cells #[.slice a L.length c] 33)
  have c0 : (w.alloc (.cells #[.slice a L.length c] 33)).cell? ⟨w.heap.size, 0, none⟩ = some (.slice a L.length c) := by simp
  go_enter Tryz.func97, Tryz.ntmps97
  go_wp2
  go_loopg [5] L.length (fun g i wr => ∃ j : Nat, i = .int .i64 j ∧ j ≤ L.length ∧ L.length - j ≤ g ∧ Hid (memB k L = memB k (L.drop j)) ∧ wr = w.alloc (.cells #[.slice a L.length c] 33))
  case atStart => exact ⟨0, rfl, by omega, by omega, rfl, rfl⟩
  case round =>
    obtain ⟨j, rfl, hj, hg, HM, rfl⟩ := hrel
    by_cases hjl : j < L.length
    · rcases hA with h | ⟨ba, oa, rfl, hA⟩
      · subst h; simp at hjl
      obtain ⟨a1, a2⟩ := hA j hjl
      have HS := Lib.hid (memB_cons_step L k j hjl _ rfl)
      generalize L[j]?.getD (0, 0) = xa at *
      obtain ⟨p, q⟩ := xa
      dsimp only at a1 a2
      have a1' := (b0.cell (p := ⟨ba, oa + j * 2, none⟩) (cell_lt a1)).trans a1
      have a2' := (b0.cell (p := ⟨ba, oa + j * 2 + 1, none⟩) (cell_lt a2)).trans a2
      clear a1 a2 hA
      have hjl' : (j : Int) < (L.length : Int) := by omega
      go_wp2
      · have h1 : p ≤ k := by assumption
        have h2 : k ≤ q := by assumption
        go_ret
        exact ⟨ret_b (by rw [HM.out, HS.out, decide_eq_true h1, decide_eq_true h2]; rfl), b0⟩
      · have h1 : p ≤ k := by assumption
        have h2 : ¬ k ≤ q := by omega
        go_roundg (gk - 1)
        case measure => omega
        case rel => exact ⟨j + 1, by go_num, by omega, by omega, by have h3 := HM.out; rw [HS.out, decide_eq_false h2, Bool.and_false, Bool.false_or] at h3; exact h3, rfl⟩
      · have h1 : ¬ p ≤ k := by omega
        go_roundg (gk - 1)
        case measure => omega
        case rel => exact ⟨j + 1, by go_num, by omega, by omega, by have h3 := HM.out; rw [HS.out, decide_eq_false h1, Bool.false_and, Bool.false_or] at h3; exact h3, rfl⟩
    · obtain rfl : j = L.length := by omega
      go_wp2
      go_ret
      exact ⟨ret_b (by have := HM.out; simpa [memB] using this.symm), b0⟩

theorem memB_neg {L : List (Int × Int)} (hc : Can 0 L) {r : Int} (hr : ptB r = false) : memB (-1) L = false := hc.out (by omega)
theorem rHas_any (v : Value) (L : List (Int × Int)) (r : Int) (w : World) (hv : Prs w v L) (hl : L.length ≤ 1000000) :
    Calls Tryz.prog 44 #[.agg #[v], .int .i32 r] w fun e w' => e = .returned (.bool (ptB r && memB (numP r) L)) ∧ Below w.heap.size w w' := by
  have HV := Lib.hid hv
  obtain ⟨a, c, rfl, hA⟩ := hv
  clear hA
  have b0 := (Below.refl w.heap.size w).alloc (Nat.le_refl _) (.cells #[.slice a L.length c] 33)
  cases hp : ptB r with
  | true =>
    have hb := numP_bds hp
    have c0 : (w.alloc (.cells #[.slice a L.length c] 33)).cell? ⟨w.heap.size, 0, none⟩ = some (.slice a L.length c) := by simp
    go_enter Tryz.func44, Tryz.ntmps44
    go_wp2
    generalize (w.alloc (.cells #[.slice a L.length c] 33)) = W at *
    refine wp_region_cls (AbW W) (by kernel_rfl) (by kernel_rfl) (AbW.drew W) ?_
    have hne := AbW.there W
    have k0 := AbW.cell c0
    have HW := HV.out.below b0
    repeat (go_big_quiet_step ((first
      | (go_at_call 97; rename_i u; exact cls_call AbW.keep (rhas_any _ L (numP r) _ (HW.below u.ok) hl))
      | (go_at_call 35; rename_i u; exact cls_same ((rNumber_any r _).mono (by rw [hp]; rintro e w1 ⟨rfl, rfl⟩; exact ⟨rfl, rfl⟩))))))
    refine wpQuiet_nil ?_
    rintro _ ⟨u, rfl⟩
    have hu := Lib.hid u.ok
    go_wp2_with fail
    go_ret
    exact ⟨rfl, b0.trans (hu.out.mono b0.size)⟩
  | false =>
    have c0 : (w.alloc (.cells #[.slice a L.length c] 33)).cell? ⟨w.heap.size, 0, none⟩ = some (.slice a L.length c) := by simp
    go_enter Tryz.func44, Tryz.ntmps44
    go_wp2
    generalize (w.alloc (.cells #[.slice a L.length c] 33)) = W at *
    refine wp_region_cls (AbW W) (by kernel_rfl) (by kernel_rfl) (AbW.drew W) ?_
    have hne := AbW.there W
    have k0 := AbW.cell c0
    repeat (go_big_quiet_step ((first
      | (go_at_call 97; fail)
      | (go_at_call 35; rename_i u; exact cls_same ((rNumber_any r _).mono (by rw [hp]; rintro e w1 ⟨rfl, rfl⟩; exact ⟨rfl, rfl⟩)))
      | fail)))
    refine wpQuiet_nil ?_
    rintro _ ⟨u, rfl⟩
    have hu := Lib.hid u.ok
    go_wp2_with fail
    go_ret
    exact ⟨rfl, b0.trans (hu.out.mono b0.size)⟩
end Go.Proofs.YtmbjjheaddhmeaaGreatDoor

namespace Go.Proofs.YtmbjjheaddhmeaaGreatDoor
open Go.RowKit

/-- The value v is a slice that reads as the runes l. -/
def Runes (w : World) (v : Value) (l : List Int) : Prop :=
  ∃ a cap, v = .slice a l.length cap ∧ (l = [] ∨ ∃ b off, a = some ⟨b, off, none⟩ ∧ ∀ j, j < l.length → w.cell? ⟨b, off + j, none⟩ = some (.int .i32 (l[j]?.getD 0)))
theorem Runes.below {w w' : World} {v : Value} {l : List Int} (hb : Below w.heap.size w w') (h : Runes w v l) : Runes w' v l := by
  obtain ⟨a, cap, rfl, h⟩ := h
  refine ⟨a, cap, rfl, ?_⟩
  rcases h with h | ⟨b, off, rfl, h⟩
  · exact .inl h
  · exact .inr ⟨b, off, rfl, fun j hj => (hb.cell (p := ⟨b, off + j, none⟩) (cell_lt (h j hj))).trans (h j hj)⟩
def I32 (x : Int) : Value := .int .i32 x
theorem Runes.of_owns {w : World} {base : Nat} {e : TypeId} {v : Value} {l : List Int} (h : w.ownsRow base e 1 v l.length (l.map I32)) : Runes w v l := by
  have h' := h
  obtain ⟨h0, h⟩ := h
  rcases h with ⟨rfl, h⟩ | ⟨g, cap, cur, rfl, hg, hh, h1, h2, h3, h4⟩
  · have : l = [] := List.eq_nil_of_length_eq_zero h
    subst this
    exact ⟨none, 0, rfl, .inl rfl⟩
  · refine ⟨some ⟨g, 0, none⟩, cap, rfl, .inr ⟨g, 0, rfl, fun j hj => ?_⟩⟩
    have e1 : (l.map I32)[j]? = some (I32 (l[j]?.getD 0)) := by simp [hj]
    rw [← h4, List.getElem?_take, if_pos (by omega)] at e1
    simp only [Array.getElem?_toList] at e1
    simp [World.cell?, hh, e1, I32]

set_option maxRecDepth 100000 in
set_option maxHeartbeats 2000000 in
theorem sameRunes_any (v u : Value) (l : List Int) (w : World) (hv : Runes w v l) (hu : Runes w u l) (hl : l.length ≤ 1000000) :
    Calls Tryz.prog 45 #[v, u] w fun e w' => e = .returned (.bool true) ∧ Below w.heap.size w w' := by
  obtain ⟨a, c, rfl, hA⟩ := hv
  obtain ⟨b, d, rfl, hB⟩ := hu
  go_enter Tryz.func45, Tryz.ntmps45
  go_wp2
  go_loopg [5] l.length (fun g i wr => ∃ k : Nat, i = .int .i64 k ∧ k ≤ l.length ∧ l.length - k ≤ g ∧ Below w.heap.size w wr)
  case atStart => exact ⟨0, rfl, by omega, by omega, Below.refl _ _⟩
  case round =>
    obtain ⟨k, rfl, hk, hg, hb⟩ := hrel
    by_cases hkl : k < l.length
    · rcases hA with h | ⟨ba, oa, rfl, hA⟩
      · subst h; simp at hkl
      rcases hB with h | ⟨bb, ob, rfl, hB⟩
      · subst h; simp at hkl
      have a1 := hA k hkl
      have b1 := hB k hkl
      generalize l[k]?.getD 0 = x at *
      have a1' := (hb.cell (p := ⟨ba, oa + k, none⟩) (cell_lt a1)).trans a1
      have b1' := (hb.cell (p := ⟨bb, ob + k, none⟩) (cell_lt b1)).trans b1
      clear hA hB a1 b1
      have hkl' : (k : Int) < (l.length : Int) := by omega
      have hx : (x != x) = false := by simp
      go_wp2
      go_quiet (fail)
      go_wp2
      go_roundg (gk - 1)
      case measure => omega
      case rel => exact ⟨k + 1, by go_num, by omega, by omega, below_drewN hb _⟩
    · obtain rfl : k = l.length := by omega
      clear hA hB
      go_wp2
      go_ret
      exact ⟨rfl, hb⟩

theorem flat_take_snoc (l : List (Int × Int)) (k : Nat) (hk : k < l.length) : flat (l.take (k + 1)) = flat (l.take k) ++ [.int .i32 (l[k]?.getD (0, 0)).1, .int .i32 (l[k]?.getD (0, 0)).2] := by
  rw [List.take_succ_eq_append_getElem hk, flat_snoc]; simp [hk]
theorem owns_slice {w : World} {base : Nat} {e : TypeId} {size : Nat} {v : Value} {n : Nat} {xs : List Value} (h : w.ownsRow base e size v n xs) : ∃ a c, v = .slice a n c := by
  rcases h.2 with ⟨rfl, hn⟩ | ⟨g, cap, cur, rfl, _⟩
  · exact ⟨none, 0, by rw [hn]⟩
  · exact ⟨_, _, rfl⟩

set_option maxRecDepth 100000 in
set_option maxHeartbeats 2000000 in
theorem copySpans_any (v : Value) (l : List (Int × Int)) (w : World) (hv : Spans w v l) (hl : l.length ≤ 1000000) :
    Calls Tryz.prog 17 #[v] w fun e w' => ∃ v', e = .returned v' ∧ w'.ownsRow w.heap.size 39 2 v' l.length (flat l) ∧ Below w.heap.size w w' := by
  obtain ⟨i0, hi0, hz0, hz1, hz2⟩ := info_parts Tryz.infoSpanN
  obtain ⟨a, c, rfl, hA⟩ := hv
  go_enter Tryz.func17, Tryz.ntmps17
  go_wp2
  go_loopg [3, 4] l.length (fun g u i wr => ∃ k : Nat, i = .int .i64 k ∧ k ≤ l.length ∧ l.length - k ≤ g ∧ Hid (wr.ownsRow w.heap.size 39 2 u k (flat (l.take k))) ∧ Below w.heap.size w wr)
  case atStart => exact ⟨0, rfl, by omega, by omega, World.ownsRow_nil _ _ _ _, Below.refl _ _⟩
  case round =>
    obtain ⟨k, rfl, hk, hg, hown, hb⟩ := hrel
    obtain ⟨av, cv, rfl⟩ := owns_slice hown.out
    by_cases hkl : k < l.length
    · rcases hA with h | ⟨ba, oa, rfl, hA⟩
      · subst h; simp at hkl
      obtain ⟨a1, a2⟩ := hA k hkl
      have HT := Lib.hid (flat_take_snoc l k hkl)
      generalize l[k]?.getD (0, 0) = x at *
      obtain ⟨p, q⟩ := x
      dsimp only at a1 a2
      have a1' := (hb.cell (p := ⟨ba, oa + k * 2, none⟩) (cell_lt a1)).trans a1
      have a2' := (hb.cell (p := ⟨ba, oa + k * 2 + 1, none⟩) (cell_lt a2)).trans a2
      clear hA a1 a2
      have hkl' : (k : Int) < (l.length : Int) := by omega
      have hvb := Lib.hid hown.out.lt
      have nB : k + 1 ≤ maxLen := by unfold maxLen; omega
      have nB' : (k + 1) * 8 ≤ 140737488355328 := by omega
      have hsz := hb.size
      have BX : Below w.heap.size w (wr.alloc (.cells #[.int .i32 p, .int .i32 q] 39)) := hb.alloc hsz _
      go_wp2_with (at_builtin; refine wpList_append_lies _ ?_ (.tmp 11) (.tmp 16) 22 ?_ (w.heap.size) 39 i0 (.agg #[.int .i32 0, .int .i32 0]) 2 8 Tryz.underlying22 hi0 hz0 hz1 hz2 ?_ ?_ (.slice av k cv) (k) (flat (l.take k)) ?_ ?_ ⟨wr.heap.size, 0, none⟩ 1 1 [.int .i32 p, .int .i32 q] ?_ ?_ ?_ ?_ ?_ ?_ ?_ ?_ (wr.heap.size + 1) ?_ ?_; (· rfl); (· rfl); (· rfl); (· decide); (· rfl); (· exact hown.out.alloc _); (· rfl); (· rfl); (· exact World.news_of_block (cs := #[.int .i32 p, .int .i32 q]) (t := 39) (fr := (0, 0)) (heap_alloc_new _ _)); (· simp [Value.oneCell']); (· decide); (· exact nB); (· exact nB'); (· first | (simp; omega) | omega); (· first | (with_reducible rfl) | simp); intro g cap w1 hown1 hgrow hat hlt; have BY := BX.grown hgrow (by simp; omega) (fun k hk => (hvb.out k hk).1))
      go_roundg (gk - 1)
      case measure => omega
      case rel => exact ⟨k + 1, by go_num, by omega, by omega, by rw [HT.out]; exact hown1, BY⟩
    · obtain rfl : k = l.length := by omega
      have ho := hown.out
      rw [List.take_length] at ho
      have HO := Lib.hid ho
      clear ho hA
      go_wp2
      go_ret
      exact ⟨_, rfl, HO.out, hb⟩

theorem countN_take (L : List (Int × Int)) (k : Nat) (hk : k < L.length) : countN (L.take (k + 1)) = countN (L.take k) + ((L[k]?.getD (0, 0)).2 - (L[k]?.getD (0, 0)).1 + 1) := by
  have h : ∀ (a : List (Int × Int)) (x : Int × Int), countN (a ++ [x]) = countN a + (x.2 - x.1 + 1) := by
    intro a x
    induction a with
    | nil => simp [countN]
    | cons y a ih => rw [List.cons_append, countN, ih, countN]; omega
  rw [List.take_succ_eq_append_getElem hk, h]; simp [hk]
/-- Rows of numbers among the points'. -/
def NumR (l : List (Int × Int)) : Prop := ∀ x ∈ l, 0 ≤ x.1 ∧ x.1 ≤ 1112191 ∧ 0 ≤ x.2 ∧ x.2 ≤ 1112191
theorem NumR.get {l : List (Int × Int)} (h : NumR l) (i : Nat) (hi : i < l.length) : 0 ≤ (l[i]?.getD (0, 0)).1 ∧ (l[i]?.getD (0, 0)).1 ≤ 1112191 ∧ 0 ≤ (l[i]?.getD (0, 0)).2 ∧ (l[i]?.getD (0, 0)).2 ≤ 1112191 := by
  have := h l[i] (List.getElem_mem hi)
  simpa [hi] using this
theorem countN_bd {L : List (Int × Int)} (h : NumR L) : -(1112192 * L.length) ≤ countN L ∧ countN L ≤ 1112192 * L.length := by
  induction L with
  | nil => simp [countN]
  | cons x L ih =>
    have h1 := ih (fun y hy => h y (by simp [hy]))
    have h2 := h x (by simp)
    rw [countN, List.length_cons]
    push_cast
    omega

set_option maxRecDepth 100000 in
set_option maxHeartbeats 2000000 in
theorem rCount_any (v : Value) (L : List (Int × Int)) (w : World) (hv : Prs w v L) (hn : NumR L) (hl : L.length ≤ 1000000) :
    Calls Tryz.prog 42 #[.agg #[v]] w fun e w' => e = .returned (.int .i64 (countN L)) ∧ Below w.heap.size w w' := by
  obtain ⟨a, c, rfl, hA⟩ := hv
  have HN := Lib.hid hn
  clear hn
  have b0 := (Below.refl w.heap.size w).alloc (Nat.le_refl _) (.cells #[.slice a L.length c] 33)
  have c0 : (w.alloc (.cells #[.slice a L.length c] 33)).cell? ⟨w.heap.size, 0, none⟩ = some (.slice a L.length c) := by simp
  have h0 : w.heap.size < (w.alloc (.cells #[.slice a L.length c] 33)).heap.size := by simp
  go_enter Tryz.func42, Tryz.ntmps42
  go_wp2
  generalize w.alloc (.cells #[.slice a L.length c] 33) = W at *
  go_loopg [3, 4] L.length (fun g s i wr => ∃ k : Nat, i = .int .i64 k ∧ k ≤ L.length ∧ L.length - k ≤ g ∧ s = .int .i64 (countN (L.take k)) ∧ Below W.heap.size W wr)
  case atStart => exact ⟨0, rfl, by omega, by omega, rfl, Below.refl _ _⟩
  case round =>
    obtain ⟨k, rfl, hk, hg, rfl, hb⟩ := hrel
    have c1 := (hb.cell (p := ⟨w.heap.size, 0, none⟩) h0).trans c0
    by_cases hkl : k < L.length
    · rcases hA with h | ⟨ba, oa, rfl, hA⟩
      · subst h; simp at hkl
      obtain ⟨a1, a2⟩ := hA k hkl
      obtain ⟨n1, n2, n3, n4⟩ := HN.out.get k hkl
      have HT := Lib.hid (countN_take L k hkl)
      have hcb := countN_bd (L := L.take k) (fun x hx => HN.out x (List.mem_of_mem_take hx))
      rw [List.length_take, Nat.min_eq_left hk] at hcb
      generalize L[k]?.getD (0, 0) = x at *
      generalize countN (L.take k) = C at *
      obtain ⟨p, q⟩ := x
      dsimp only at a1 a2 n1 n2 n3 n4
      have a1' := (hb.cell (p := ⟨ba, oa + k * 2, none⟩) (Nat.lt_of_lt_of_le (cell_lt a1) b0.size)).trans ((b0.cell (p := ⟨ba, oa + k * 2, none⟩) (cell_lt a1)).trans a1)
      have a2' := (hb.cell (p := ⟨ba, oa + k * 2 + 1, none⟩) (Nat.lt_of_lt_of_le (cell_lt a2) b0.size)).trans ((b0.cell (p := ⟨ba, oa + k * 2 + 1, none⟩) (cell_lt a2)).trans a2)
      clear hA a1 a2
      have hkl' : (k : Int) < (L.length : Int) := by omega
      obtain ⟨m, hm⟩ : ∃ m : Int, m = 1112192 * (k : Int) := ⟨_, rfl⟩
      have hm2 : m ≤ 1112192000000 := by omega
      rw [← hm] at hcb
      obtain ⟨hc1, hc2⟩ := hcb
      clear hm
      go_wp2
      go_quiet (fail)
      go_wp2
      go_roundg (gk - 1)
      case measure => omega
      case rel => exact ⟨k + 1, by go_num, by omega, by omega, by rw [HT.out]; exact congrArg (Value.int .i64) (by first | rfl | omega), below_drewN hb _⟩
    · obtain rfl : k = L.length := by omega
      clear hA
      go_wp2
      go_ret
      exact ⟨ret_i (by rw [List.take_length]), b0.trans (hb.mono b0.size)⟩
end Go.Proofs.YtmbjjheaddhmeaaGreatDoor

namespace Go.Proofs.YtmbjjheaddhmeaaGreatDoor
open Go.RowKit

def ptS (L : List (Int × Int)) : List (Int × Int) := L.map fun x => (ptK x.1, ptK x.2)
theorem ptS_len (L : List (Int × Int)) : (ptS L).length = L.length := List.length_map ..
theorem ptS_get (L : List (Int × Int)) (k : Nat) (hk : k < L.length) : (ptS L)[k]?.getD (0, 0) = (ptK (L[k]?.getD (0, 0)).1, ptK (L[k]?.getD (0, 0)).2) := by simp [ptS, hk]
theorem ptS_nums {l : List (Int × Int)} (hp : ∀ x ∈ l, ptB x.1 = true ∧ ptB x.2 = true) : ptS (l.map nm) = l := by
  rw [ptS, List.map_map]
  conv => rhs; rw [← List.map_id l]
  refine List.map_congr_left fun x hx => ?_
  show (ptK (numP x.1), ptK (numP x.2)) = x
  rw [ptK_numP (hp x hx).1, ptK_numP (hp x hx).2]

set_option maxRecDepth 100000 in
set_option maxHeartbeats 4000000 in
theorem rSpans_any (v : Value) (L : List (Int × Int)) (w : World) (hv : Prs w v L) (hn : NumR L) (hl : L.length ≤ 1000000) :
    Calls Tryz.prog 41 #[.agg #[v]] w fun e w' => ∃ a c, e = .returned (.slice a L.length c) ∧ Spans w' (.slice a L.length c) (ptS L) ∧ Below w.heap.size w w' := by
  obtain ⟨i0, hi0, hz0, hz1, hz2⟩ := info_parts Tryz.infoSpanN
  obtain ⟨a, c, rfl, hA⟩ := hv
  have HN := Lib.hid hn
  clear hn
  have b0 := (Below.refl w.heap.size w).alloc (Nat.le_refl _) (.cells #[.slice a L.length c] 33)
  have c0 : (w.alloc (.cells #[.slice a L.length c] 33)).cell? ⟨w.heap.size, 0, none⟩ = some (.slice a L.length c) := by simp
  have h0 : (w.alloc (.cells #[.slice a L.length c] 33)).heap.size = w.heap.size + 1 := by simp
  go_enter Tryz.func41, Tryz.ntmps41
  go_wp2
  generalize w.alloc (.cells #[.slice a L.length c] 33) = W at *
  have hW : w.heap.size < W.heap.size := by omega
  go_loopg [3, 4] L.length (fun g s i wr => ∃ k : Nat, i = .int .i64 k ∧ k ≤ L.length ∧ L.length - k ≤ g ∧ Hid (wr.ownsRow W.heap.size 39 2 s k (flat ((ptS L).take k))) ∧ Below W.heap.size W wr)
  case atStart => exact ⟨0, rfl, by omega, by omega, World.ownsRow_nil _ _ _ _, Below.refl _ _⟩
  case round =>
    obtain ⟨k, rfl, hk, hg, hown, hb⟩ := hrel
    obtain ⟨av, cv, rfl⟩ := owns_slice hown.out
    have c1 := (hb.cell (p := ⟨w.heap.size, 0, none⟩) hW).trans c0
    by_cases hkl : k < L.length
    · rcases hA with h | ⟨ba, oa, rfl, hA⟩
      · subst h; simp at hkl
      obtain ⟨a1, a2⟩ := hA k hkl
      obtain ⟨n1, n2, n3, n4⟩ := HN.out.get k hkl
      have ht := flat_take_snoc (ptS L) k (by rw [ptS_len]; exact hkl)
      rw [ptS_get L k hkl] at ht
      generalize L[k]?.getD (0, 0) = x at *
      obtain ⟨p, q⟩ := x
      dsimp only at a1 a2 n1 n2 n3 n4 ht
      have HT := Lib.hid ht
      have q1 := Nat.lt_trans (cell_lt a1) hW
      have a1' := (hb.cell (p := ⟨ba, oa + k * 2, none⟩) q1).trans ((b0.cell (p := ⟨ba, oa + k * 2, none⟩) (cell_lt a1)).trans a1)
      have a2' := (hb.cell (p := ⟨ba, oa + k * 2 + 1, none⟩) q1).trans ((b0.cell (p := ⟨ba, oa + k * 2 + 1, none⟩) (cell_lt a2)).trans a2)
      have hp := fun X => (rPoint_any p n1 n2 X).mono (R' := fun e w' => e = .returned (.int .i32 (ptK p)) ∧ w' = X) (fun e w' h => ⟨h.1, h.2.symm⟩)
      have hq := fun X => (rPoint_any q n3 n4 X).mono (R' := fun e w' => e = .returned (.int .i32 (ptK q)) ∧ w' = X) (fun e w' h => ⟨h.1, h.2.symm⟩)
      generalize ptK p = rp at *
      generalize ptK q = rq at *
      clear hA a1 a2 ht
      have hkl' : (k : Int) < (L.length : Int) := by omega
      have hk0 : (0 : Int) ≤ (k : Int) := by omega
      have hvb := Lib.hid hown.out.lt
      have nB : k + 1 ≤ maxLen := by unfold maxLen; omega
      have nB' : (k + 1) * 8 ≤ 140737488355328 := by omega
      have hsz := hb.size
      have BX : Below W.heap.size wr ((wr.alloc (.cells #[.int .i32 rp, .int .i32 rq] 39)).drew) := ((Below.refl _ wr).alloc hsz _).drew
      go_wp2
      go_region_held3 (fun U : World => U.cell? ⟨w.heap.size, 0, none⟩ = some (.slice (some ⟨ba, oa, none⟩) L.length c) ∧ U.cell? ⟨ba, oa + k * 2, none⟩ = some (.int .i64 p) ∧ U.cell? ⟨ba, oa + k * 2 + 1, none⟩ = some (.int .i64 q))
        (first | (with_reducible exact ⟨e1, e2, e3⟩) | (with_reducible exact ⟨c1, a1', a2'⟩) | go_keep)
        (first
          | (go_at_call 95; with_reducible refine (hp _).mono ?_; rintro e w' ⟨rfl, rfl⟩)
          | (go_at_call 95; with_reducible refine (hq _).mono ?_; rintro e w' ⟨rfl, rfl⟩)
          | (refine step_append_lies _ ?_ (.tmp 12) (.tmp 28) 22 ?_ (W.heap.size) 39 i0 (.agg #[.int .i32 0, .int .i32 0]) 2 8 Tryz.underlying22 hi0 hz0 hz1 hz2 ?_ ?_ (.slice av k cv) (k) (flat ((ptS L).take k)) ?_ ?_ ⟨wr.heap.size, 0, none⟩ 1 1 [.int .i32 rp, .int .i32 rq] ?_ ?_ ?_ ?_ ?_ ?_ ?_ ?_ (wr.heap.size + 1) ?_ ?_; (· rfl); (· rfl); (· rfl); (· decide); (· rfl); (· exact (hown.out.alloc _).drew); (· rfl); (· rfl); (· exact World.news_of_block (cs := #[.int .i32 rp, .int .i32 rq]) (t := 39) (fr := (0, 0)) (heap_alloc_new wr _)); (· simp [Value.oneCell']); (· decide); (· exact nB); (· exact nB'); (· first | (simp; omega) | omega); (· first | (with_reducible rfl) | simp); intro g cap w1 hown1 hgrow hat hlt; have BY := BX.grown hgrow (by simp; omega) (fun k hk => (hvb.out k hk).1); have e1 := (BY.cell (p := ⟨w.heap.size, 0, none⟩) hW).trans c1; have e2 := (BY.cell (p := ⟨ba, oa + k * 2, none⟩) q1).trans a1'; have e3 := (BY.cell (p := ⟨ba, oa + k * 2 + 1, none⟩) q1).trans a2'))
      all_goals
        go_wp2
        go_roundg (gk - 1)
        case measure => omega
        case rel => exact ⟨k + 1, by go_num, by omega, by omega, by rw [HT.out]; exact hown1, hb.trans BY⟩
    · obtain rfl : k = L.length := by omega
      have ho := hown.out
      rw [List.take_of_length_le (by rw [ptS_len]; exact Nat.le_refl _), show L.length = (ptS L).length from (ptS_len L).symm] at ho
      have HO := Lib.hid (Spans.of_owns ho)
      rw [ptS_len] at HO
      clear ho hA
      go_wp2
      go_ret
      exact ⟨av, cv, rfl, HO.out, b0.trans (hb.mono b0.size)⟩
end Go.Proofs.YtmbjjheaddhmeaaGreatDoor

namespace Go.Proofs.YtmbjjheaddhmeaaGreatDoor
open Go.RowKit

def runK : Nat → Int → List Int
  | 0, _ => []
  | g + 1, k => ptK k :: runK g (k + 1)
def allK (L : List (Int × Int)) : List Int := L.flatMap fun x => runK (x.2 + 1 - x.1).toNat x.1
theorem allK_drop (L : List (Int × Int)) (k : Nat) (hk : k < L.length) : allK (L.drop k) = runK ((L[k]?.getD (0, 0)).2 + 1 - (L[k]?.getD (0, 0)).1).toNat (L[k]?.getD (0, 0)).1 ++ allK (L.drop (k + 1)) := by
  have : L.drop k = L[k]?.getD (0, 0) :: L.drop (k + 1) := by rw [List.drop_eq_getElem_cons hk]; simp [hk]
  rw [this]; simp [allK]
theorem runK_step {j q : Int} (h : j ≤ q) : runK (q + 1 - j).toNat j = ptK j :: runK (q + 1 - (j + 1)).toNat (j + 1) := by
  obtain ⟨g, hg⟩ : ∃ g, (q + 1 - j).toNat = g + 1 := ⟨(q + 1 - j).toNat - 1, by omega⟩
  rw [hg, runK, show (q + 1 - (j + 1)).toNat = g by omega]
theorem runK_stop {j q : Int} (h : ¬ j ≤ q) : runK (q + 1 - j).toNat j = [] := by rw [show (q + 1 - j).toNat = 0 by omega]; rfl
theorem take_full {n : Nat} {a b : List Int} (h : a.length = n) : (a ++ b).take n = a := by subst h; simp
theorem Tryz.infoRune : (Tryz.prog.info? 21).map (fun i => (i.zero, i.size, i.bytes)) = some (some (.int .i32 0), 1, 4) := by kernel_rfl
theorem map_I32_snoc (l : List Int) (x : Int) : (l ++ [x]).map I32 = l.map I32 ++ [.int .i32 x] := by simp [I32]

set_option maxRecDepth 100000 in
set_option maxHeartbeats 4000000 in
theorem rFirst_any (v : Value) (L : List (Int × Int)) (n : Nat) (w : World) (hv : Prs w v L) (hn : NumR L) (hl : L.length ≤ 1000000) (hn1 : n ≤ 100000) :
    Calls Tryz.prog 47 #[.agg #[v], .int .i64 n] w fun e w' => ∃ a m c, e = .returned (.slice a m c) ∧ Runes w' (.slice a m c) ((allK L).take n) ∧ Below w.heap.size w w' := by
  obtain ⟨i0, hi0, hz0, hz1, hz2⟩ := info_parts Tryz.infoRune
  obtain ⟨a, c, rfl, hA⟩ := hv
  have HN := Lib.hid hn
  clear hn
  have b0 := (Below.refl w.heap.size w).alloc (Nat.le_refl _) (.cells #[.slice a L.length c] 33)
  have c0 : (w.alloc (.cells #[.slice a L.length c] 33)).cell? ⟨w.heap.size, 0, none⟩ = some (.slice a L.length c) := by simp
  have h0 : (w.alloc (.cells #[.slice a L.length c] 33)).heap.size = w.heap.size + 1 := by simp
  go_enter Tryz.func47, Tryz.ntmps47
  go_wp2
  generalize w.alloc (.cells #[.slice a L.length c] 33) = W at *
  have hW : w.heap.size < W.heap.size := by omega
  go_loopg [5, 6] L.length (fun g s i wr => ∃ (k : Nat) (out : List Int), i = .int .i64 k ∧ k ≤ L.length ∧ L.length - k ≤ g ∧ out.length ≤ n ∧ Hid ((out ++ allK (L.drop k)).take n = (allK L).take n) ∧ Hid (wr.ownsRow W.heap.size 21 1 s out.length (out.map I32)) ∧ Below W.heap.size W wr)
  case atStart => exact ⟨0, [], rfl, by omega, by omega, by simp, by simp [Hid], World.ownsRow_nil _ _ _ _, Below.refl _ _⟩
  case round =>
    obtain ⟨k, out, rfl, hk, hg, ho, HE, hown, hb⟩ := hrel
    have c1 := (hb.cell (p := ⟨w.heap.size, 0, none⟩) hW).trans c0
    by_cases hkl : k < L.length
    · rcases hA with h | ⟨ba, oa, rfl, hA⟩
      · subst h; simp at hkl
      obtain ⟨a1, a2⟩ := hA k hkl
      obtain ⟨n1, n2, n3, n4⟩ := HN.out.get k hkl
      have hE := HE.out
      rw [allK_drop L k hkl] at hE
      generalize L[k]?.getD (0, 0) = x at *
      obtain ⟨p, q⟩ := x
      dsimp only at a1 a2 n1 n2 n3 n4 hE
      have q1 := Nat.lt_trans (cell_lt a1) hW
      have r1 := (b0.cell (p := ⟨ba, oa + k * 2, none⟩) (cell_lt a1)).trans a1
      have r2 := (b0.cell (p := ⟨ba, oa + k * 2 + 1, none⟩) (cell_lt a2)).trans a2
      have a1' := (hb.cell (p := ⟨ba, oa + k * 2, none⟩) q1).trans r1
      have HE2 := Lib.hid hE
      clear hA a1 a2 hE HE r1
      have hkl' : (k : Int) < (L.length : Int) := by omega
      obtain ⟨G, rfl⟩ : ∃ G, G = gk := ⟨_, rfl⟩
      go_upto_if 3 with (fail)
      go_loopg [5, 7] (1112193 : Nat) (fun g2 s i wx => ∃ (j : Int) (o2 : List Int), i = .int .i64 j ∧ p ≤ j ∧ j ≤ 1112192 ∧ (1112193 - j).toNat ≤ g2 ∧ o2.length ≤ n ∧ Hid ((o2 ++ (runK (q + 1 - j).toNat j ++ allK (L.drop (k + 1)))).take n = (allK L).take n) ∧ Hid (wx.ownsRow W.heap.size 21 1 s o2.length (o2.map I32)) ∧ Below W.heap.size W wx)
      case atStart => exact ⟨p, out, rfl, by omega, by omega, by omega, ho, HE2, hown, hb⟩
      case round =>
        clear hown hb c1 a1' HE2 ho
        obtain ⟨j, o2, rfl, hj1, hj2, hg2, ho2, HE3, hown, hb⟩ := hrel
        obtain ⟨av, cv, rfl⟩ := owns_slice hown.out
        have c1 := (hb.cell (p := ⟨w.heap.size, 0, none⟩) hW).trans c0
        have a2' := (hb.cell (p := ⟨ba, oa + k * 2 + 1, none⟩) q1).trans r2
        by_cases hjq : j ≤ q
        · by_cases hon : o2.length < n
          · have hE4 := HE3.out
            rw [runK_step hjq, List.cons_append, show ∀ (x : Int) (t : List Int), o2 ++ x :: t = (o2 ++ [x]) ++ t by simp] at hE4
            have hp := fun X => (rPoint_any j (by omega) (by omega) X).mono (R' := fun e w' => e = .returned (.int .i32 (ptK j)) ∧ w' = X) (fun e w' h => ⟨h.1, h.2.symm⟩)
            generalize ptK j = r at *
            have HE4 := Lib.hid hE4
            have hon' : (o2.length : Int) < (n : Int) := by omega
            have hvb := Lib.hid hown.out.lt
            have nB : o2.length + 1 ≤ maxLen := by unfold maxLen; omega
            have nB' : (o2.length + 1) * 4 ≤ 140737488355328 := by omega
            have hsz := hb.size
            have BX : Below W.heap.size W (wr.alloc (.cells #[.int .i32 r] 21)) := hb.alloc hsz _
            clear hE4 HE3
            go_wp2_with (first
              | (go_at_call 95; with_reducible refine (hp _).mono ?_; rintro e w' ⟨rfl, hw'⟩; obtain rfl : wr = w' := hw'.symm)
              | (at_builtin; refine wpList_append_lies _ ?_ (.tmp 37) (.tmp 40) 23 ?_ (W.heap.size) 21 i0 (.int .i32 0) 1 4 Tryz.underlying23 hi0 hz0 hz1 hz2 ?_ ?_ (.slice av o2.length cv) (o2.length) (o2.map I32) ?_ ?_ ⟨wr.heap.size, 0, none⟩ 1 1 [.int .i32 r] ?_ ?_ ?_ ?_ ?_ ?_ ?_ ?_ (wr.heap.size + 1) ?_ ?_; (· rfl); (· rfl); (· rfl); (· decide); (· rfl); (· exact hown.out.alloc _); (· rfl); (· rfl); (· exact World.news_of_block (cs := #[.int .i32 r]) (t := 21) (fr := (0, 0)) (heap_alloc_new _ _)); (· simp [Value.oneCell']); (· decide); (· exact nB); (· exact nB'); (· first | (simp; omega) | omega); (· first | (with_reducible rfl) | simp); intro g cap w1 hown1 hgrow hat hlt; have BY := BX.grown hgrow (by simp; omega) (fun k hk => (hvb.out k hk).1)))
            go_roundg (gk - 1)
            case measure => omega
            case rel => exact ⟨j + 1, o2 ++ [r], by go_num, by omega, by omega, by omega, by simp; omega, HE4, by rw [map_I32_snoc, show (o2 ++ [r]).length = o2.length + 1 by simp]; exact hown1, BY⟩
          · have hon2 : ¬ (o2.length : Int) < (n : Int) := by omega
            have HE5 : Hid ((o2 ++ allK (L.drop (k + 1))).take n = (allK L).take n) := by
              have h1 := HE3.out
              rw [take_full (by omega)] at h1
              show _ = _
              rw [take_full (by omega)]; exact h1
            clear HE3
            go_wp2
            go_roundg (G - 1)
            case measure => omega
            case rel => exact ⟨k + 1, o2, by go_num, by omega, by omega, ho2, HE5, hown, hb⟩
        · have HE5 : Hid ((o2 ++ allK (L.drop (k + 1))).take n = (allK L).take n) := by
            have h1 := HE3.out
            rw [runK_stop hjq, List.nil_append] at h1
            exact h1
          clear HE3
          go_wp2
          go_roundg (G - 1)
          case measure => omega
          case rel => exact ⟨k + 1, o2, by go_num, by omega, by omega, ho2, HE5, hown, hb⟩
    · obtain rfl : k = L.length := by omega
      have hE := HE.out
      rw [List.drop_length, show allK ([] : List (Int × Int)) = [] from rfl, List.append_nil, List.take_of_length_le ho] at hE
      obtain ⟨av, cv, rfl⟩ := owns_slice hown.out
      have HO : Hid (Runes wr (.slice av out.length cv) ((allK L).take n)) := by
        have h := Runes.of_owns hown.out
        show Runes _ _ _
        rw [← hE]; exact h
      clear hA hE HE
      go_wp2
      go_ret
      exact ⟨av, _, cv, rfl, HO.out, b0.trans (hb.mono b0.size)⟩
end Go.Proofs.YtmbjjheaddhmeaaGreatDoor
