/- SameSpans. -/
import Derived.Test.YtmbjjheaddhmeaaGreatDoorA
import Derived.Test.YtmbjjheaddhmeaaGreatDoorM
import Derived.Deep.LoopGhost
import Derived.Deep.QuietTactic
import Derived.BigQuiet
import Derived.Lib.Hide
namespace Go.Proofs.YtmbjjheaddhmeaaGreatDoor
open Go.RowKit

theorem same_at (l m : List (Int × Int)) (h : l.length = m.length) (hs : ∀ j, j < l.length → l[j]?.getD (0, 0) = m[j]?.getD (0, 0)) : l = m := by
  apply List.ext_getElem h
  intro i h1 h2
  have := hs i h1
  simpa [h1, h2] using this

set_option maxRecDepth 100000 in
set_option maxHeartbeats 2000000 in
theorem sameSpans_any (v u : Value) (l m : List (Int × Int)) (w : World) (hv : Spans w v l) (hu : Spans w u m) (hl : l.length ≤ 1000000) (hm : m.length ≤ 1000000) :
    Calls Tryz.prog 40 #[v, u] w fun e w' => e = .returned (.bool (decide (l = m))) ∧ Below w.heap.size w w' := by
  obtain ⟨a, c, rfl, hA⟩ := hv
  obtain ⟨b, d, rfl, hB⟩ := hu
  by_cases hlen : l.length = m.length
  · have HL := Lib.hid hlen
    have hb0 : ((l.length : Int) != (m.length : Int)) = false := by rw [hlen]; simp
    clear hlen
    go_enter Tryz.func40, Tryz.ntmps40
    go_wp2
    go_loopg [5] l.length (fun g i wr => ∃ k : Nat, i = .int .i64 k ∧ k ≤ l.length ∧ l.length - k ≤ g ∧ Hid (∀ j, j < k → l[j]?.getD (0, 0) = m[j]?.getD (0, 0)) ∧ Below w.heap.size w wr)
    case atStart => exact ⟨0, rfl, by omega, by omega, fun j hj => by omega, Below.refl _ _⟩
    case round =>
      obtain ⟨k, rfl, hk, hg, HS, hb⟩ := hrel
      by_cases hkl : k < l.length
      · have hkm : k < m.length := by have := HL.out; omega
        rcases hA with h | ⟨ba, oa, rfl, hA⟩
        · subst h; simp at hkl
        rcases hB with h | ⟨bb, ob, rfl, hB⟩
        · subst h; simp at hkm
        obtain ⟨a1, a2⟩ := hA k hkl
        obtain ⟨b1, b2⟩ := hB k hkm
        have HH : Hid ((l[k]?.getD (0, 0) = m[k]?.getD (0, 0)) → ∀ j, j < k + 1 → l[j]?.getD (0, 0) = m[j]?.getD (0, 0)) := fun e j hj => by
          by_cases h : j = k
          · subst h; exact e
          · exact HS.out j (by omega)
        have HN : Hid (l[k]?.getD (0, 0) ≠ m[k]?.getD (0, 0) → l ≠ m) := fun h e => by subst e; exact h rfl
        generalize l[k]?.getD (0, 0) = xa at *
        generalize m[k]?.getD (0, 0) = xb at *
        obtain ⟨p, q⟩ := xa
        obtain ⟨r, s⟩ := xb
        dsimp only at a1 a2 b1 b2
        have a1' := (hb.cell (p := ⟨ba, oa + k * 2, none⟩) (cell_lt a1)).trans a1
        have a2' := (hb.cell (p := ⟨ba, oa + k * 2 + 1, none⟩) (cell_lt a2)).trans a2
        have b1' := (hb.cell (p := ⟨bb, ob + k * 2, none⟩) (cell_lt b1)).trans b1
        have b2' := (hb.cell (p := ⟨bb, ob + k * 2 + 1, none⟩) (cell_lt b2)).trans b2
        clear hA hB HS a1 a2 b1 b2
        have hkl' : (k : Int) < (l.length : Int) := by omega
        have hkm' : (k : Int) < (m.length : Int) := by omega
        have F1 := neq_span
        have F2 := neqG_span
        go_wp2
        go_quiet (fail)
        go_wp2
        · have ht : p = r → ¬ q = s := by
            intro e1 e2
            subst e1 e2
            simp at *
          go_ret
          exact ⟨ret_b (by symm; rw [decide_eq_false_iff_not]; exact HN.out (by intro e; cases e; exact ht rfl rfl)), hb.trans (below_drewN (Below.refl _ _) _)⟩
        · have ht : p = r ∧ q = s := by simp at *; omega
          go_roundg (gk - 1)
          case measure => omega
          case rel => exact ⟨k + 1, by go_num, by omega, by omega, HH.out (by rw [ht.1, ht.2]), below_drewN hb _⟩
      · obtain rfl : k = l.length := by omega
        have e : l = m := same_at l m HL.out HS.out
        have E := Lib.hid e
        clear e HS HL hA hB
        go_wp2
        go_ret
        exact ⟨ret_b (by simp [E.out]), hb⟩
  · have HL := Lib.hid hlen
    have hb0 : ((l.length : Int) != (m.length : Int)) = true := by simp; omega
    clear hlen
    go_enter Tryz.func40, Tryz.ntmps40
    go_wp2
    go_ret
    exact ⟨ret_b (by symm; rw [decide_eq_false_iff_not]; intro e; exact HL.out (by rw [e])), Below.refl _ _⟩

end Go.Proofs.YtmbjjheaddhmeaaGreatDoor
