/- Print of the document's sets. -/
import Derived.Test.YtmbjjheaddhmeaaGreatDoorRefHex
import Derived.Test.YtmbjjheaddhmeaaGreatDoorRefSpans
import Derived.Deep.QuietTactic
namespace Go.Proofs.YtmbjjheaddhmeaaGreatDoor
open Go.RowKit

def PtsS (l : List (Int × Int)) : Prop := ∀ x ∈ l, ptB x.1 = true ∧ ptB x.2 = true
theorem ptS_pts {L : List (Int × Int)} (h : NumR L) : PtsS (ptS L) := fun x hx => by
  obtain ⟨y, hy, rfl⟩ := List.mem_map.1 hx
  obtain ⟨h1, h2, h3, h4⟩ := h y hy
  exact ⟨(ptK_pt h1 h2).1, (ptK_pt h3 h4).1⟩
theorem pr_snoc (l : List (Int × Int)) (k : Nat) (hk : k < l.length) : 91 :: (l.take (k + 1)).flatMap sp1 = (91 :: (l.take k).flatMap sp1) ++ sp1 (l[k]?.getD (0, 0)) := by
  rw [List.take_succ_eq_append_getElem hk, List.flatMap_append, List.flatMap_cons, List.flatMap_nil, List.append_nil]; simp [hk]

set_option maxRecDepth 100000 in
set_option maxHeartbeats 4000000 in
theorem rPrint_any (v : Value) (L : List (Int × Int)) (w : World) (hv : Prs w v L) (hn : NumR L) (hl : L.length ≤ 1000000) :
    Calls Tryz.prog 43 #[.agg #[v]] w fun e w' => e = .returned (.string ⟨(printF (ptS L)).toArray⟩) ∧ Below w.heap.size w w' := by
  have HV := Lib.hid hv
  obtain ⟨a, c, rfl, hA⟩ := hv
  clear hA
  have hP := ptS_pts hn
  have b0 := (Below.refl w.heap.size w).alloc (Nat.le_refl _) (.cells #[.slice a L.length c] 33)
  have c0 : (w.alloc (.cells #[.slice a L.length c] 33)).cell? ⟨w.heap.size, 0, none⟩ = some (.slice a L.length c) := by simp
  have hs := rSpans_any (.slice a L.length c) L (w.alloc (.cells #[.slice a L.length c] 33)) (HV.out.below b0) hn hl
  have hlen := ptS_len L
  clear HV hn
  generalize ptS L = l at *
  go_enter Tryz.func43, Tryz.ntmps43
  go_wp2_with (go_at_call 41; with_reducible refine hs.mono ?_; clear hs; rintro e w1 ⟨xa, xc, rfl, hS, hB1⟩)
  have b1 := b0.trans (hB1.mono b0.size)
  clear b0 c0 hB1
  obtain ⟨V, rfl⟩ : ∃ V : World, V = w1 := ⟨_, rfl⟩
  rw [← hlen] at hS ⊢
  have hln : l.length ≤ 1000000 := by omega
  have HP := Lib.hid hP
  clear hP hl hlen
  obtain ⟨xa', xc', hxe, hA⟩ := hS
  obtain ⟨rfl, -, rfl⟩ : xa = xa' ∧ l.length = l.length ∧ xc = xc' := by injection hxe with h1 h2 h3; exact ⟨h1, rfl, h3⟩
  clear hxe
  go_upto_if 3 with (fail)
  go_loopg [3, 5] l.length (fun gk s i wr => ∃ (k : Nat) (acc : List UInt8), i = .int .i64 k ∧ s = .string ⟨acc.toArray⟩ ∧ k ≤ l.length ∧ l.length - k ≤ gk ∧ Hid (acc = 91 :: (l.take k).flatMap sp1) ∧ acc.length ≤ 1 + 25 * k ∧ Below V.heap.size V wr)
  case atStart => exact ⟨0, [91], rfl, rfl, by omega, by omega, rfl, by simp, Below.refl _ _⟩
  case round =>
    obtain ⟨k, acc, rfl, rfl, hk, hg, HE, hac, hb⟩ := hrel
    by_cases hkl : k < l.length
    · rcases hA with h | ⟨ba, oa, rfl, hA⟩
      · subst h; simp at hkl
      obtain ⟨a1, a2⟩ := hA k hkl
      have hT := pr_snoc l k hkl
      have hpp : PtsS [l[k]?.getD (0, 0)] := fun x hx => by
        obtain rfl : x = l[k]?.getD (0, 0) := by simpa using hx
        rw [List.getElem?_eq_getElem hkl, Option.getD_some]; exact HP.out _ (List.getElem_mem hkl)
      generalize l[k]?.getD (0, 0) = x at *
      obtain ⟨p, q⟩ := x
      obtain ⟨p1, p2⟩ := hpp (p, q) (by simp)
      dsimp only at a1 a2 p1 p2
      have a1' := (hb.cell (p := ⟨ba, oa + k * 2, none⟩) (cell_lt a1)).trans a1
      have a2' := (hb.cell (p := ⟨ba, oa + k * 2 + 1, none⟩) (cell_lt a2)).trans a2
      have q2 := cell_lt a2
      have hp := fun W => rOne_any p p1 W
      have hq := fun W => rOne_any q p2 W
      have hsp : sp1 (p, q) = Go.Proofs.YtmbjjheaddhmeaaGreatDoor.wr p ++ if p = q then [] else 45 :: Go.Proofs.YtmbjjheaddhmeaaGreatDoor.wr q := rfl
      have l1 := wr_len p
      have l2 := wr_len q
      rw [hsp] at hT
      generalize Go.Proofs.YtmbjjheaddhmeaaGreatDoor.wr p = bp at *
      generalize Go.Proofs.YtmbjjheaddhmeaaGreatDoor.wr q = bq at *
      have hkl' : (k : Int) < (l.length : Int) := by omega
      clear hA a1 hpp hsp p1 p2
      by_cases hpq : p = q
      · subst hpq
        rw [if_pos rfl, List.append_nil, ← HE.out] at hT
        have HT := Lib.hid hT
        have hne : (p != p) = false := by simp
        clear hT HE
        go_wp2_with (go_at_call 96; with_reducible refine (hp _).mono ?_; rintro e w2 ⟨rfl, hB2⟩; have c1 := (hB2.cell (p := ⟨ba, oa + k * 2, none⟩) (Nat.lt_of_lt_of_le (Nat.lt_of_lt_of_le q2 (Nat.le_refl _)) hb.size)).trans a1'; have c2 := (hB2.cell (p := ⟨ba, oa + k * 2 + 1, none⟩) (Nat.lt_of_lt_of_le q2 hb.size)).trans a2')
        go_quiet (fail)
        go_wp2
        go_roundg (gk - 1)
        case measure => omega
        case rel => exact ⟨k + 1, acc ++ bp, by go_num, congrArg Value.string (ByteArray.mk_append_mk acc bp), by omega, by omega, HT.out.symm, by simp; omega, below_drewN (hb.trans (hB2.mono hb.size)) _⟩
      · rw [if_neg hpq] at hT
        have hT2 : 91 :: (l.take (k + 1)).flatMap sp1 = ((acc ++ bp) ++ [45]) ++ bq := by rw [hT, ← HE.out]; simp
        have HT := Lib.hid hT2
        have hne : (q != p) = true := by simp; exact fun h => hpq h.symm
        clear hT hT2 HE
        go_wp2_with (go_at_call 96; with_reducible refine (hp _).mono ?_; rintro e w2 ⟨rfl, hB2⟩; have c1 := (hB2.cell (p := ⟨ba, oa + k * 2, none⟩) (Nat.lt_of_lt_of_le (Nat.lt_of_lt_of_le q2 (Nat.le_refl _)) hb.size)).trans a1'; have c2 := (hB2.cell (p := ⟨ba, oa + k * 2 + 1, none⟩) (Nat.lt_of_lt_of_le q2 hb.size)).trans a2')
        go_quiet (fail)
        go_wp2_with (go_at_call 96; with_reducible refine (hq _).mono ?_; rintro e w3 ⟨rfl, hB3⟩)
        go_roundg (gk - 1)
        case measure => omega
        case rel =>
          refine ⟨k + 1, ((acc ++ bp) ++ [45]) ++ bq, by go_num, congrArg Value.string ?_, by omega, by omega, HT.out.symm, by simp; omega, (below_drewN (hb.trans (hB2.mono hb.size)) nq).trans (hB3.mono (below_drewN (hb.trans (hB2.mono hb.size)) nq).size)⟩
          rw [ByteArray.mk_append_mk acc bp, show (⟨#[45]⟩ : ByteArray) = ⟨[45].toArray⟩ from rfl, ByteArray.mk_append_mk, ByteArray.mk_append_mk]
    · obtain rfl : k = l.length := by omega
      have hE := HE.out
      rw [List.take_length] at hE
      have HE2 := Lib.hid hE
      clear hA hE HE
      go_wp2
      go_ret
      refine ⟨congrArg (fun s => Ending.returned (.string s)) ?_, b1.trans (hb.mono b1.size)⟩
      rw [HE2.out]
      exact ByteArray.mk_append_mk _ [93]
end Go.Proofs.YtmbjjheaddhmeaaGreatDoor
