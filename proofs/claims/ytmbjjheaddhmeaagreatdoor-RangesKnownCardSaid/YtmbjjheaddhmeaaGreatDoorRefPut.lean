/- put: a number among rising ones, once. -/
import Derived.Test.YtmbjjheaddhmeaaGreatDoorRefFirst
import Derived.Deep.AppendLies
import Derived.Deep.Onto
import Derived.Lib.Hide
import Derived.Lib.SmallJoins
namespace Go.Proofs.YtmbjjheaddhmeaaGreatDoor
open Go.RowKit

def I64 (x : Int) : Value := .int .i64 x
/-- How many numbers lie below n, at the front. -/
def atF (n : Int) : List Int → Nat
  | [] => 0
  | x :: l => if x < n then atF n l + 1 else 0
def putF (n : Int) (l : List Int) : List Int := if l[atF n l]? = some n then l else l.take (atF n l) ++ n :: l.drop (atF n l)
theorem atF_le (n : Int) (l : List Int) : atF n l ≤ l.length := by
  induction l with
  | nil => simp [atF]
  | cons x l ih => rw [atF]; split <;> simp; omega
theorem atF_lt (n : Int) (l : List Int) : ∀ j, j ≤ atF n l → (h : j < l.length) → (l[j] < n → j + 1 ≤ atF n l) ∧ (¬ l[j] < n → j = atF n l) := by
  induction l with
  | nil => intro j _ h; simp at h
  | cons x l ih =>
    intro j hj h
    cases j with
    | zero =>
      rw [atF] at *
      refine ⟨fun h => ?_, fun h => ?_⟩
      · simp only [List.getElem_cons_zero] at h; rw [if_pos h]; omega
      · simp only [List.getElem_cons_zero] at h; rw [if_neg h]
    | succ j =>
      rw [atF] at *
      by_cases hx : x < n
      · rw [if_pos hx] at *
        have := ih j (by omega) (by simpa using h)
        refine ⟨fun h => ?_, fun h => ?_⟩
        · have := this.1 (by simpa using h); omega
        · have := this.2 (by simpa using h); omega
      · rw [if_neg hx] at hj; omega

/-- The row while its tail is moved: what lies behind j has been moved by one. -/
def shF (l : List Int) (j : Nat) : List Int := (l ++ [0]).take (j + 1) ++ l.drop j
theorem shF_end (l : List Int) : shF l l.length = l ++ [0] := by rw [shF, List.drop_length, List.append_nil]; exact List.take_of_length_le (by simp)
theorem shF_len (l : List Int) (j : Nat) (h : j ≤ l.length) : (shF l j).length = l.length + 1 := by simp [shF]; omega
theorem shF_at (l : List Int) (j : Nat) (h : j < l.length) : (shF l (j + 1))[j]? = l[j]? := by
  have h2 : j < ((l ++ [0]).take (j + 1 + 1)).length := by simp; omega
  rw [shF, List.getElem?_append_left h2, List.getElem?_take, if_pos (by omega), List.getElem?_append_left h]
theorem shF_step (l : List Int) (j : Nat) (h : j < l.length) : (shF l (j + 1)).set (j + 1) l[j] = shF l j := by
  have h2 : j + 1 < ((l ++ [0]).take (j + 1 + 1)).length := by simp; omega
  rw [shF, List.set_append_left _ _ h2, shF]
  have e1 : (l ++ [0]).take (j + 1 + 1) = (l ++ [0]).take (j + 1) ++ [(l ++ [0])[j + 1]'(by simp; omega)] := List.take_succ_eq_append_getElem (by simp; omega)
  rw [e1, List.set_append_right _ _ (by simp; omega), List.drop_eq_getElem_cons h]
  simp
  have : j - min j l.length = 0 := by omega
  rw [this, List.drop_eq_getElem_cons h]; rfl
theorem shF_put (l : List Int) (n : Int) (h : l[atF n l]? ≠ some n) : (shF l (atF n l)).set (atF n l) n = putF n l := by
  have ht := atF_le n l
  rw [putF, if_neg h, shF]
  generalize atF n l = t at *
  have e1 : (l ++ [0]).take (t + 1) = (l ++ [0]).take t ++ [(l ++ [0])[t]'(by simp; omega)] := List.take_succ_eq_append_getElem (by simp; omega)
  rw [e1, List.append_assoc, List.set_append_right _ _ (by simp; omega)]
  simp [List.take_append_of_le_length ht]
  have : t - min t l.length = 0 := by omega
  rw [this]; rfl
theorem putF_len (n : Int) (l : List Int) : (putF n l).length ≤ l.length + 1 := by
  have := atF_le n l
  unfold putF; split <;> simp; omega

theorem Tryz.infoInt : (Tryz.prog.info? 3).map (fun i => (i.zero, i.size, i.bytes)) = some (some (.int .i64 0), 1, 8) := by kernel_rfl
theorem map_set_I64 (l : List Int) (j : Nat) (x : Int) : (l.map I64).set j (I64 x) = (l.set j x).map I64 := by rw [List.map_set]
theorem map_get_I64 (l : List Int) (j : Nat) (x : Int) (h : l[j]? = some x) : (l.map I64)[j]? = some (I64 x) := by rw [List.getElem?_map, h]; rfl

set_option maxRecDepth 100000 in
set_option maxHeartbeats 4000000 in
theorem rput_walk (base g0 cap0 : Nat) (xs : List Int) (n : Int) (w : World) (h : w.ownsRow base 3 1 (.slice (some ⟨g0, 0, none⟩) xs.length cap0) xs.length (xs.map I64)) (h0 : 0 < xs.length) (hl : xs.length ≤ 5000000) :
    Calls Tryz.prog 120 #[.slice (some ⟨g0, 0, none⟩) xs.length cap0, .int .i64 n] w fun e w' => ∃ v', e = .returned v' ∧ w'.ownsRow base 3 1 v' (putF n xs).length ((putF n xs).map I64) ∧ Below base w w' := by
  obtain ⟨i0, hi0, hz0, hz1, hz2⟩ := info_parts Tryz.infoInt
  have hc : ∀ j x, xs[j]? = some x → w.cell? ⟨g0, j, none⟩ = some (.int .i64 x) := fun j x hx => by
    have := h.cells rfl j _ (map_get_I64 xs j x hx)
    rwa [add_lit, Nat.zero_add] at this
  have hb := h.lt g0 rfl
  have HC := Lib.hid hc
  clear hc
  have HO := Lib.hid h
  clear h
  have nB : xs.length + 1 ≤ maxLen := by unfold maxLen; omega
  have nB' : (xs.length + 1) * 8 ≤ 140737488355328 := by omega
  have bA := (Below.refl base w).alloc (by omega) (.cells #[.int .i64 0] 3)
  go_enter Tryz.func120, Tryz.ntmps120
  go_wp2
  go_loopg [5] xs.length (fun gk i wr => ∃ j : Nat, i = .int .i64 j ∧ j ≤ atF n xs ∧ xs.length - j ≤ gk ∧ wr = w)
  case atStart => exact ⟨0, rfl, by omega, by omega, rfl⟩
  case round =>
    obtain ⟨j, rfl, hj, hg, rfl⟩ := hrel
    have hle := atF_le n xs
    have hnl : xs.length ≠ 0 := by omega
    by_cases hjl : j < xs.length
    · have hjl' : (j : Int) < (xs.length : Int) := by omega
      have c1 := HC.out j _ (List.getElem?_eq_getElem hjl)
      obtain ⟨s1, s2⟩ := atF_lt n xs j hj hjl
      have hx : xs[j]? = some xs[j] := List.getElem?_eq_getElem hjl
      generalize xs[j] = x at *
      by_cases hlt : x < n
      · have hs := s1 hlt
        clear s1 s2
        go_wp2
        go_roundg (gk - 1)
        case measure => omega
        case rel => exact ⟨j + 1, by go_num, hs, by omega, rfl⟩
      · have hs := s2 hlt
        clear s1 s2
        by_cases heq : x = n
        · subst heq
          have hp : putF x xs = xs := by unfold putF; rw [if_pos (by rw [← hs]; exact hx)]
          clear hs
          go_wp2
          go_ret
          refine ⟨.slice (some ⟨g0, 0, none⟩) xs.length cap0, rfl, ?_, Below.refl _ _⟩
          first | exact HO.out | (rw [hp]; exact HO.out)
        · have hnx : xs[atF n xs]? ≠ some n := by rw [← hs, hx]; intro e; cases e; exact heq rfl
          have SH := Lib.hid (shF_put xs n hnx)
          rw [← hs] at SH
          clear hs hnx
          go_wp2_with (at_builtin; refine wpList_append_lies _ ?_ (.tmp 34) (.tmp 35) 157 ?_ (base) 3 i0 (.int .i64 0) 1 8 Tryz.underlying157 hi0 hz0 hz1 hz2 ?_ ?_ (.slice (some ⟨g0, 0, none⟩) xs.length cap0) (xs.length) (xs.map I64) ?_ ?_ ⟨wr.heap.size, 0, none⟩ 1 1 [.int .i64 0] ?_ ?_ ?_ ?_ ?_ ?_ ?_ ?_ (wr.heap.size + 1) ?_ ?_; (· rfl); (· rfl); (· rfl); (· decide); (· rfl); (· exact HO.out.alloc _); (· rfl); (· rfl); (· exact World.news_of_block (cs := #[.int .i64 0]) (t := 3) (fr := (0, 0)) (heap_alloc_new _ _)); (· simp [Value.oneCell']); (· decide); (· exact nB); (· exact nB'); (· first | (simp; omega) | omega); (· first | (with_reducible rfl) | simp); intro g cap w1 hown1 hgrow hat hlt; have BY := bA.grown hgrow (by simp; omega) (fun k hk => by cases hk; exact hb.1))
          have HN : Hid (w1.ownsRow base 3 1 (.slice (some ⟨g, 0, none⟩) (xs.length + 1) cap) (xs.length + 1) ((shF xs xs.length).map I64)) := by rw [shF_end, List.map_append]; exact hown1
          clear hown1 hgrow hat c1 hx HC bA HO
          go_loopg [6] xs.length (fun gk i wx => ∃ m : Nat, i = .int .i64 m ∧ j ≤ m ∧ m ≤ xs.length ∧ m - j ≤ gk ∧ Hid (wx.ownsRow base 3 1 (.slice (some ⟨g, 0, none⟩) (xs.length + 1) cap) (xs.length + 1) ((shF xs m).map I64)) ∧ Below base wr wx)
          case atStart => exact ⟨xs.length, rfl, by omega, by omega, by omega, HN, BY⟩
          case round =>
            obtain ⟨m, rfl, hm1, hm2, hg2, HM, hbx⟩ := hrel
            have hlen := shF_len xs m hm2
            by_cases hmj : j < m
            · obtain ⟨k, rfl⟩ : ∃ k, m = k + 1 := ⟨m - 1, by omega⟩
              have hk : k < xs.length := by omega
              have k1 := HM.out.cells rfl k _ (map_get_I64 _ k xs[k] ((shF_at xs k hk).trans (List.getElem?_eq_getElem hk)))
              have k2 := HM.out.cells rfl (k + 1) _ (map_get_I64 _ (k + 1) _ (List.getElem?_eq_getElem (by omega)))
              have k3 := HM.out.frozenAt (k + 1)
              rw [add_lit, Nat.zero_add] at k1 k2
              have ST := Lib.hid (HM.out.stored (k + 1) (I64 xs[k])).1
              rw [map_set_I64, shF_step xs k hk] at ST
              have hbl := HM.out.lt g rfl
              have BZ := hbx.setCell (p := ⟨g, k + 1, none⟩) hbl.1 (I64 xs[k])
              have hmj' : (j : Int) < (k : Int) + 1 := by omega
              have hk' : (k : Int) + 1 < (xs.length : Int) + 1 := by omega
              clear HM HN
              unfold I64 at *
              generalize xs[k] = x1 at *
              rw [show ((k + 1 : Nat) : Int) = (k : Int) + 1 by omega]
              go_wp2
              go_roundg (gk - 1)
              case measure => omega
              case rel => exact ⟨k, rfl, by omega, by omega, by omega, ST, BZ⟩
            · obtain rfl : m = j := by omega
              have k2 := HM.out.cells rfl m _ (map_get_I64 _ m _ (List.getElem?_eq_getElem (by omega)))
              have k3 := HM.out.frozenAt m
              rw [add_lit, Nat.zero_add] at k2
              have ST := Lib.hid (HM.out.stored m (I64 n)).1
              rw [map_set_I64, SH.out] at ST
              have hbl := HM.out.lt g rfl
              have BZ := hbx.setCell (p := ⟨g, m, none⟩) hbl.1 (I64 n)
              have hj' : (m : Int) < (xs.length : Int) + 1 := by omega
              have hln : (putF n xs).length = xs.length + 1 := by rw [← SH.out, List.length_set]; exact hlen
              clear HM HN SH
              unfold I64 at k2 ST BZ
              go_wp2
              go_ret
              refine ⟨.slice (some ⟨g, 0, none⟩) (xs.length + 1) cap, rfl, ?_, BZ⟩
              first | exact ST.out | (rw [hln]; exact ST.out)
    · have hs : j = atF n xs := by omega
      have hnx : xs[atF n xs]? ≠ some n := by rw [← hs, List.getElem?_eq_none (by omega)]; simp
      have hjl' : ¬ (j : Int) < (xs.length : Int) := by omega
      have SH := Lib.hid (shF_put xs n hnx)
      rw [← hs] at SH
      clear hs hnx
      go_wp2_with (at_builtin; refine wpList_append_lies _ ?_ (.tmp 34) (.tmp 35) 157 ?_ (base) 3 i0 (.int .i64 0) 1 8 Tryz.underlying157 hi0 hz0 hz1 hz2 ?_ ?_ (.slice (some ⟨g0, 0, none⟩) xs.length cap0) (xs.length) (xs.map I64) ?_ ?_ ⟨wr.heap.size, 0, none⟩ 1 1 [.int .i64 0] ?_ ?_ ?_ ?_ ?_ ?_ ?_ ?_ (wr.heap.size + 1) ?_ ?_; (· rfl); (· rfl); (· rfl); (· decide); (· rfl); (· exact HO.out.alloc _); (· rfl); (· rfl); (· exact World.news_of_block (cs := #[.int .i64 0]) (t := 3) (fr := (0, 0)) (heap_alloc_new _ _)); (· simp [Value.oneCell']); (· decide); (· exact nB); (· exact nB'); (· first | (simp; omega) | omega); (· first | (with_reducible rfl) | simp); intro g cap w1 hown1 hgrow hat hlt; have BY := bA.grown hgrow (by simp; omega) (fun k hk => by cases hk; exact hb.1))
      have HN : Hid (w1.ownsRow base 3 1 (.slice (some ⟨g, 0, none⟩) (xs.length + 1) cap) (xs.length + 1) ((shF xs xs.length).map I64)) := by rw [shF_end, List.map_append]; exact hown1
      clear hown1 hgrow hat HC bA HO
      go_loopg [6] xs.length (fun gk i wx => ∃ m : Nat, i = .int .i64 m ∧ j ≤ m ∧ m ≤ xs.length ∧ m - j ≤ gk ∧ Hid (wx.ownsRow base 3 1 (.slice (some ⟨g, 0, none⟩) (xs.length + 1) cap) (xs.length + 1) ((shF xs m).map I64)) ∧ Below base wr wx)
      case atStart => exact ⟨xs.length, rfl, by omega, by omega, by omega, HN, BY⟩
      case round =>
        obtain ⟨m, rfl, hm1, hm2, hg2, HM, hbx⟩ := hrel
        have hlen := shF_len xs m hm2
        by_cases hmj : j < m
        · exact absurd hmj (by omega)
        · obtain rfl : m = j := by omega
          have k2 := HM.out.cells rfl m _ (map_get_I64 _ m _ (List.getElem?_eq_getElem (by omega)))
          have k3 := HM.out.frozenAt m
          rw [add_lit, Nat.zero_add] at k2
          have ST := Lib.hid (HM.out.stored m (I64 n)).1
          rw [map_set_I64, SH.out] at ST
          have hbl := HM.out.lt g rfl
          have BZ := hbx.setCell (p := ⟨g, m, none⟩) hbl.1 (I64 n)
          have hj' : (m : Int) < (xs.length : Int) + 1 := by omega
          have hln : (putF n xs).length = xs.length + 1 := by rw [← SH.out, List.length_set]; exact hlen
          clear HM HN SH
          unfold I64 at k2 ST BZ
          go_wp2
          go_ret
          refine ⟨.slice (some ⟨g, 0, none⟩) (xs.length + 1) cap, rfl, ?_, BZ⟩
          first | exact ST.out | (rw [hln]; exact ST.out)

theorem rput_any (base : Nat) (v : Value) (xs : List Int) (n : Int) (w : World) (h : w.ownsRow base 3 1 v xs.length (xs.map I64)) (h0 : 0 < xs.length) (hl : xs.length ≤ 5000000) :
    Calls Tryz.prog 120 #[v, .int .i64 n] w fun e w' => ∃ v', e = .returned v' ∧ w'.ownsRow base 3 1 v' (putF n xs).length ((putF n xs).map I64) ∧ Below base w w' := by
  obtain ⟨g, cap, rfl, _⟩ := World.ownsRow.form h h0
  exact rput_walk base g cap xs n w h h0 hl
end Go.Proofs.YtmbjjheaddhmeaaGreatDoor
