/- The first points of the document's sets. -/
import Derived.Test.YtmbjjheaddhmeaaGreatDoorRefSpans
namespace Go.Proofs.YtmbjjheaddhmeaaGreatDoor
open Go.RowKit

def runK : Nat → Int → List Int
  | 0, _ => []
  | g + 1, k => ptK k :: runK g (k + 1)
def allK (L : List (Int × Int)) : List Int := L.flatMap fun x => runK (x.2 + 1 - x.1).toNat x.1
theorem allK_drop (L : List (Int × Int)) (k : Nat) (hk : k < L.length) : allK (L.drop k) = runK ((L[k]?.getD (0, 0)).2 + 1 - (L[k]?.getD (0, 0)).1).toNat (L[k]?.getD (0, 0)).1 ++ allK (L.drop (k + 1)) := by
  have : L.drop k = L[k]?.getD (0, 0) :: L.drop (k + 1) := by rw [List.drop_eq_getElem_cons hk]; simp [hk]
  rw [this]; simp [allK]
theorem runK_step {j q : Int} (h : j ≤ q) : runK (q + 1 - j).toNat j = ptK j :: runK (q + 1 - (j + 1)).toNat (j + 1) := by
  obtain ⟨g, hg⟩ : ∃ g, (q + 1 - j).toNat = g + 1 := ⟨(q + 1 - j).toNat - 1, by omega⟩
  rw [hg, runK, show (q + 1 - (j + 1)).toNat = g by omega]
theorem runK_stop {j q : Int} (h : ¬ j ≤ q) : runK (q + 1 - j).toNat j = [] := by rw [show (q + 1 - j).toNat = 0 by omega]; rfl
theorem take_full {n : Nat} {a b : List Int} (h : a.length = n) : (a ++ b).take n = a := by subst h; simp
theorem Tryz.infoRune : (Tryz.prog.info? 21).map (fun i => (i.zero, i.size, i.bytes)) = some (some (.int .i32 0), 1, 4) := by kernel_rfl
theorem map_I32_snoc (l : List Int) (x : Int) : (l ++ [x]).map I32 = l.map I32 ++ [.int .i32 x] := by simp [I32]

set_option maxRecDepth 100000 in
set_option maxHeartbeats 4000000 in
theorem rFirst_any (v : Value) (L : List (Int × Int)) (n : Nat) (w : World) (hv : Prs w v L) (hn : NumR L) (hl : L.length ≤ 1000000) (hn1 : n ≤ 100000) :
    Calls Tryz.prog 47 #[.agg #[v], .int .i64 n] w fun e w' => ∃ a m c, e = .returned (.slice a m c) ∧ Runes w' (.slice a m c) ((allK L).take n) ∧ Below w.heap.size w w' := by
  obtain ⟨i0, hi0, hz0, hz1, hz2⟩ := info_parts Tryz.infoRune
  obtain ⟨a, c, rfl, hA⟩ := hv
  have HN := Lib.hid hn
  clear hn
  have b0 := (Below.refl w.heap.size w).alloc (Nat.le_refl _) (.cells #[.slice a L.length c] 33)
  have c0 : (w.alloc (.cells #[.slice a L.length c] 33)).cell? ⟨w.heap.size, 0, none⟩ = some (.slice a L.length c) := by simp
  have h0 : (w.alloc (.cells #[.slice a L.length c] 33)).heap.size = w.heap.size + 1 := by simp
  go_enter Tryz.func47, Tryz.ntmps47
  go_wp2
  generalize w.alloc (.cells #[.slice a L.length c] 33) = W at *
  have hW : w.heap.size < W.heap.size := by omega
  go_loopg [5, 6] L.length (fun g s i wr => ∃ (k : Nat) (out : List Int), i = .int .i64 k ∧ k ≤ L.length ∧ L.length - k ≤ g ∧ out.length ≤ n ∧ Hid ((out ++ allK (L.drop k)).take n = (allK L).take n) ∧ Hid (wr.ownsRow W.heap.size 21 1 s out.length (out.map I32)) ∧ Below W.heap.size W wr)
  case atStart => exact ⟨0, [], rfl, by omega, by omega, by simp, by simp [Hid], World.ownsRow_nil _ _ _ _, Below.refl _ _⟩
  case round =>
    obtain ⟨k, out, rfl, hk, hg, ho, HE, hown, hb⟩ := hrel
    have c1 := (hb.cell (p := ⟨w.heap.size, 0, none⟩) hW).trans c0
    by_cases hkl : k < L.length
    · rcases hA with h | ⟨ba, oa, rfl, hA⟩
      · subst h; simp at hkl
      obtain ⟨a1, a2⟩ := hA k hkl
      obtain ⟨n1, n2, n3, n4⟩ := HN.out.get k hkl
      have hE := HE.out
      rw [allK_drop L k hkl] at hE
      generalize L[k]?.getD (0, 0) = x at *
      obtain ⟨p, q⟩ := x
      dsimp only at a1 a2 n1 n2 n3 n4 hE
      have q1 := Nat.lt_trans (cell_lt a1) hW
      have r1 := (b0.cell (p := ⟨ba, oa + k * 2, none⟩) (cell_lt a1)).trans a1
      have r2 := (b0.cell (p := ⟨ba, oa + k * 2 + 1, none⟩) (cell_lt a2)).trans a2
      have a1' := (hb.cell (p := ⟨ba, oa + k * 2, none⟩) q1).trans r1
      have HE2 := Lib.hid hE
      clear hA a1 a2 hE HE r1
      have hkl' : (k : Int) < (L.length : Int) := by omega
      obtain ⟨G, rfl⟩ : ∃ G, G = gk := ⟨_, rfl⟩
      go_upto_if 3 with (fail)
      go_loopg [5, 7] (1112193 : Nat) (fun g2 s i wx => ∃ (j : Int) (o2 : List Int), i = .int .i64 j ∧ p ≤ j ∧ j ≤ 1112192 ∧ (1112193 - j).toNat ≤ g2 ∧ o2.length ≤ n ∧ Hid ((o2 ++ (runK (q + 1 - j).toNat j ++ allK (L.drop (k + 1)))).take n = (allK L).take n) ∧ Hid (wx.ownsRow W.heap.size 21 1 s o2.length (o2.map I32)) ∧ Below W.heap.size W wx)
      case atStart => exact ⟨p, out, rfl, by omega, by omega, by omega, ho, HE2, hown, hb⟩
      case round =>
        clear hown hb c1 a1' HE2 ho
        obtain ⟨j, o2, rfl, hj1, hj2, hg2, ho2, HE3, hown, hb⟩ := hrel
        obtain ⟨av, cv, rfl⟩ := owns_slice hown.out
        have c1 := (hb.cell (p := ⟨w.heap.size, 0, none⟩) hW).trans c0
        have a2' := (hb.cell (p := ⟨ba, oa + k * 2 + 1, none⟩) q1).trans r2
        by_cases hjq : j ≤ q
        · by_cases hon : o2.length < n
          · have hE4 := HE3.out
            rw [runK_step hjq, List.cons_append, show ∀ (x : Int) (t : List Int), o2 ++ x :: t = (o2 ++ [x]) ++ t by simp] at hE4
            have hp := fun X => (rPoint_any j (by omega) (by omega) X).mono (R' := fun e w' => e = .returned (.int .i32 (ptK j)) ∧ w' = X) (fun e w' h => ⟨h.1, h.2.symm⟩)
            generalize ptK j = r at *
            have HE4 := Lib.hid hE4
            have hon' : (o2.length : Int) < (n : Int) := by omega
            have hvb := Lib.hid hown.out.lt
            have nB : o2.length + 1 ≤ maxLen := by unfold maxLen; omega
            have nB' : (o2.length + 1) * 4 ≤ 140737488355328 := by omega
            have hsz := hb.size
            have BX : Below W.heap.size W (wr.alloc (.cells #[.int .i32 r] 21)) := hb.alloc hsz _
            clear hE4 HE3
            go_wp2_with (first
              | (go_at_call 95; with_reducible refine (hp _).mono ?_; rintro e w' ⟨rfl, hw'⟩; obtain rfl : wr = w' := hw'.symm)
              | (at_builtin; refine wpList_append_lies _ ?_ (.tmp 37) (.tmp 40) 23 ?_ (W.heap.size) 21 i0 (.int .i32 0) 1 4 Tryz.underlying23 hi0 hz0 hz1 hz2 ?_ ?_ (.slice av o2.length cv) (o2.length) (o2.map I32) ?_ ?_ ⟨wr.heap.size, 0, none⟩ 1 1 [.int .i32 r] ?_ ?_ ?_ ?_ ?_ ?_ ?_ ?_ (wr.heap.size + 1) ?_ ?_; (· rfl); (· rfl); (· rfl); (· decide); (· rfl); (· exact hown.out.alloc _); (· rfl); (· rfl); (· exact World.news_of_block (cs := #[.int .i32 r]) (t := 21) (fr := (0, 0)) (heap_alloc_new _ _)); (· simp [Value.oneCell']); (· decide); (· exact nB); (· exact nB'); (· simp; omega); (· simp); intro g cap w1 hown1 hgrow hat hlt; have BY := BX.grown hgrow (by simp; omega) (fun k hk => (hvb.out k hk).1)))
            go_roundg (gk - 1)
            case measure => omega
            case rel => exact ⟨j + 1, o2 ++ [r], by go_num, by omega, by omega, by omega, by simp; omega, HE4, by rw [map_I32_snoc, show (o2 ++ [r]).length = o2.length + 1 by simp]; exact hown1, BY⟩
          · have hon2 : ¬ (o2.length : Int) < (n : Int) := by omega
            have HE5 : Hid ((o2 ++ allK (L.drop (k + 1))).take n = (allK L).take n) := by
              have h1 := HE3.out
              rw [take_full (by omega)] at h1
              show _ = _
              rw [take_full (by omega)]; exact h1
            clear HE3
            go_wp2
            go_roundg (G - 1)
            case measure => omega
            case rel => exact ⟨k + 1, o2, by go_num, by omega, by omega, ho2, HE5, hown, hb⟩
        · have HE5 : Hid ((o2 ++ allK (L.drop (k + 1))).take n = (allK L).take n) := by
            have h1 := HE3.out
            rw [runK_stop hjq, List.nil_append] at h1
            exact h1
          clear HE3
          go_wp2
          go_roundg (G - 1)
          case measure => omega
          case rel => exact ⟨k + 1, o2, by go_num, by omega, by omega, ho2, HE5, hown, hb⟩
    · obtain rfl : k = L.length := by omega
      have hE := HE.out
      rw [List.drop_length, show allK ([] : List (Int × Int)) = [] from rfl, List.append_nil, List.take_of_length_le ho] at hE
      obtain ⟨av, cv, rfl⟩ := owns_slice hown.out
      have HO : Hid (Runes wr (.slice av out.length cv) ((allK L).take n)) := by
        have h := Runes.of_owns hown.out
        show Runes _ _ _
        rw [← hE]; exact h
      clear hA hE HE
      go_wp2
      go_ret
      exact ⟨av, _, cv, rfl, HO.out, b0.trans (hb.mono b0.size)⟩
end Go.Proofs.YtmbjjheaddhmeaaGreatDoor
