/- same, some, works. works: the guard against a program that refuses everything. The table that formatBits reads, as a condition on the world; Below, chained. -/
import Derived.Test.YtmbjjheaddhmeaaGreatDoorRep
import Derived.BigRegion
import Derived.BigCall
import Derived.Deep.LoopGhost
import Derived.Deep.RegionLaw
namespace Go.Proofs.YtmbjjheaddhmeaaGreatDoor
open Go.RowKit

theorem Db.below {w w' : World} (hb : Below w.heap.size w w') (hd : Db w) (hg : 6 < w.heap.size) : Db w' ∧ 6 < w'.heap.size := ⟨(hb.cell (p := ⟨6, 15, none⟩) hg).trans hd, Nat.lt_of_lt_of_le hg hb.size⟩

set_option maxRecDepth 100000 in
set_option maxHeartbeats 2000000 in
theorem same_rep {p q : Value} {P Q : Int → Bool} {k j : Nat} {w : World} (hp : Rep w p P k) (hq : Rep w q Q j) (hk : k + j ≤ 90000) (h : ∀ r, P r = Q r) (hd : Db w) (hg : 6 < w.heap.size) :
    Calls Tryz.prog 126 #[p, q] w fun e w' => e = .returned (.bool true) ∧ Below w.heap.size w w' := by
  obtain ⟨b, rfl⟩ := hp.ptr
  obtain ⟨c, rfl⟩ := hq.ptr
  obtain ⟨l, h1, h2, h3, h4, h5⟩ := hp
  obtain ⟨m, k1, k2, k3, k4, k5⟩ := hq
  obtain rfl : l = m := nums_inj h2 k2 (uniq h3 k3 fun r a b => by rw [h5 r a b, k5 r a b, h r])
  have hll : l.length ≤ 1000000 := by omega
  have HB := Lib.hid h2.bd
  clear h2 k2 h3 k3 h5 k5 h4 k4
  go_enter Tryz.func126, Tryz.ntmps126
  go_wp2_with (first
    | (go_at_call 37; refine (print_any _ l w4 i5 HB.out hll d4.1 d4.2).mono ?_; rintro e w5 ⟨rfl, hB5⟩)
    | (go_at_call 37; refine (print_any _ l w3 (((h1.below hB1).below hB2).below hB3) HB.out hll d3.1 d3.2).mono ?_; rintro e w4 ⟨rfl, hB4⟩; have d4 := Db.below hB4 d3.1 d3.2; have i5 := (((k1.below hB1).below hB2).below hB3).below hB4)
    | (go_at_call 40; refine (sameSpans_any v1 v2 l l w2 ((Spans.of_owns ho1).below hB2) (Spans.of_owns ho2) hll hll).mono ?_; rintro e w3 ⟨rfl, hB3⟩; have d3 := Db.below hB3 d2.1 d2.2)
    | (go_at_call 15; refine (spans_any _ l w1 (k1.below hB1) hll).mono ?_; rintro e w2 ⟨v2, rfl, ho2, hB2⟩; have d2 := Db.below hB2 d1.1 d1.2)
    | (go_at_call 15; refine (spans_any _ l w h1 hll).mono ?_; rintro e w1 ⟨v1, rfl, ho1, hB1⟩; have d1 := Db.below hB1 hd hg))
  go_ret
  refine ⟨by simp, ?_⟩
  have s1 := hB1.size; have s2 := hB2.size; have s3 := hB3.size; have s4 := hB4.size
  exact hB1.trans ((hB2.mono s1).trans ((hB3.mono (by omega)).trans ((hB4.mono (by omega)).trans (hB5.mono (by omega)))))

theorem ofNo_zero {x : Int × Int} (h : ofNo x = 0) : (ptB x.1 = true ∧ ptB x.2 = true) ∧ x.1 ≤ x.2 := by
  unfold ofNo at h
  split at h
  · cases h
  · rename_i h1
    split at h
    · cases h
    · simp at h1; exact ⟨h1, by omega⟩
theorem of_ok {l : List (Int × Int)} (h : ∀ j, j < l.length → ofNo (gtS l j) = 0) : Pts l ∧ ∀ x ∈ l, x.1 ≤ x.2 := by
  have : ∀ x ∈ l, ofNo x = 0 := fun x hx => by
    obtain ⟨i, hi, rfl⟩ := List.getElem_of_mem hx
    have := h i hi
    rwa [show gtS l i = l[i] by simp [gtS, hi]] at this
  exact ⟨fun x hx => (ofNo_zero (this x hx)).1, fun x hx => (ofNo_zero (this x hx)).2⟩

theorem of_rep {v : Value} {l : List (Int × Int)} {w : World} (hv : Spans w v l) (hl : l.length ≤ 90000) :
    Calls Tryz.prog 8 #[v] w fun e w' => ((∃ n k, e = .returned (.tuple #[.pointer none, .iface 81 (.agg #[.int .i64 n, .int .i64 0, .int .i64 k])])) ∨ ∃ p, e = .returned (.tuple #[p, .nilIface]) ∧ Rep w' p (fun r => memB r (l.map nm)) l.length) ∧ Below w.heap.size w w' := by
  refine (of_any v l w hv (by omega)).mono ?_
  rintro e w' (⟨k, _, _, _, rfl, hB⟩ | ⟨h0, p, l', rfl, hp, hw, hs, hB⟩)
  · exact ⟨.inl ⟨_, _, rfl⟩, hB⟩
  · obtain ⟨h1, h2⟩ := of_ok h0
    exact ⟨.inr ⟨p, rfl, rep_merge hs (fun x hx => h1 x (hp.mem_iff.1 hx)) (fun x hx => h2 x (hp.mem_iff.1 hx)) hw (by rw [hp.length_eq]; omega) (fun r _ _ => memB_perm (hp.map nm) r)⟩, hB⟩

theorem one_span {w : World} {B : Nat} {p q : Int} (h0 : w.cell? ⟨B, 0, none⟩ = some (.int .i32 p)) (h1 : w.cell? ⟨B, 1, none⟩ = some (.int .i32 q)) (c : Nat) : Spans w (.slice (some ⟨B, 0, none⟩) 1 c) [(p, q)] := by
  refine ⟨_, c, rfl, .inr ⟨B, 0, rfl, fun j hj => ?_⟩⟩
  obtain rfl : j = 0 := by simpa using hj
  exact ⟨h0, h1⟩

set_option maxRecDepth 100000 in
set_option maxHeartbeats 2000000 in
theorem some_rep {v : Value} {l : List (Int × Int)} {w : World} (hv : Spans w v l) :
    Calls Tryz.prog 125 #[v] w fun e w' => ∃ p P, e = .returned p ∧ Rep w' p P 200 ∧ Below w.heap.size w w' := by
  obtain ⟨aa, ca, rfl, hA⟩ := hv
  have n0 : Spans w (.slice none 0 0) [] := ⟨none, 0, rfl, .inl rfl⟩
  go_enter Tryz.func125, Tryz.ntmps125
  go_wp2_with (go_at_call 8; refine (of_any _ [] w n0 (by simp)).mono ?_; rintro e w1 (⟨k, hk, _⟩ | ⟨_, p1, l1, rfl, hp1, hw1, hs1, hB1⟩); (· cases hk))
  have hR1 : Rep w1 p1 (fun _ => false) 0 := by
    obtain rfl : l1 = [] := List.Perm.eq_nil hp1
    exact rep_merge hs1 Pts.nil (fun x hx => by cases hx) hw1 (Nat.le_refl _) (fun _ _ _ => rfl)
  clear hp1 hw1 hs1
  go_loopg [3, 5] 200 (fun g s i wr => ∃ (i0 : Nat) (P : Int → Bool), i = .int .i64 i0 ∧ i0 ≤ 200 ∧ i0 ≤ l.length ∧ 200 - i0 ≤ g ∧ Rep wr s P i0 ∧ Below w.heap.size w wr)
  case atStart => exact ⟨0, _, rfl, by omega, by omega, by omega, hR1, hB1⟩
  case round =>
    obtain ⟨i, P, rfl, hi, hil, hg, hR, hb⟩ := hrel
    by_cases hlt : i < l.length ∧ i < 200
    · obtain ⟨hlt, h200⟩ := hlt
      rcases hA with h | ⟨ba, oa, rfl, hA⟩
      · subst h; simp at hlt
      obtain ⟨a1, a2⟩ := hA i hlt
      generalize l[i]?.getD (0, 0) = xa at *
      obtain ⟨p, q⟩ := xa
      have a1' := (hb.cell (p := ⟨ba, oa + i * 2, none⟩) (cell_lt a1)).trans a1
      have a2' := (hb.cell (p := ⟨ba, oa + i * 2 + 1, none⟩) (cell_lt a2)).trans a2
      dsimp only at a1' a2'
      clear a1 a2 hA
      have hlt' : (i : Int) < (l.length : Int) := by omega
      have h200' : (i : Int) < 200 := by omega
      obtain ⟨bs, rfl⟩ := hR.ptr
      have HR := Lib.hid hR
      clear hR
      have bA := (Below.refl wr.heap.size wr).alloc (Nat.le_refl _) (.cells #[.int .i32 p, .int .i32 q] 39)
      have hsz := hb.size
      have hone : Spans (wr.alloc (.cells #[.int .i32 p, .int .i32 q] 39)) (.slice (some ⟨wr.heap.size, 0, none⟩) 1 1) [(p, q)] := one_span (by simp) (by simp) 1
      go_wp2_with (first
        | (go_at_call 18; refine (join_rep ((HR.out.below bA).below hB2) hR2 (by simp; omega)).mono ?_; rintro e w3 ⟨p3, rfl, hR3, hB3⟩)
        | (go_at_call 8; refine (of_rep hone (by simp)).mono ?_; rintro e w2 ⟨⟨n, k, rfl⟩ | ⟨p2, rfl, hR2⟩, hB2⟩; rotate_left; obtain ⟨b2, rfl⟩ := hR2.ptr))
      · go_roundg (gk - 1)
        case measure => omega
        case rel => exact ⟨i + 1, _, by go_num, by omega, by omega, by omega, hR3, (hb.alloc hsz _).trans ((hB2.mono (Nat.le_trans hsz bA.size)).trans (hB3.mono (Nat.le_trans hsz (Nat.le_trans bA.size hB2.size))))⟩
      · go_roundg (gk - 1)
        case measure => omega
        case rel => exact ⟨i + 1, P, by go_num, by omega, by omega, by omega, ((HR.out.below bA).below hB2).weak (by omega), (hb.alloc hsz _).trans (hB2.mono (Nat.le_trans hsz bA.size))⟩
    · by_cases hil2 : i < l.length
      · obtain rfl : i = 200 := by omega
        have hil3 : (200 : Int) < (l.length : Int) := by omega
        go_wp2
        go_ret
        exact ⟨_, P, rfl, hR, hb⟩
      · obtain rfl : i = l.length := by omega
        go_wp2
        go_ret
        exact ⟨_, P, rfl, hR.weak hi, hb⟩

end Go.Proofs.YtmbjjheaddhmeaaGreatDoor

namespace Go.Proofs.YtmbjjheaddhmeaaGreatDoor
open Go.RowKit

theorem three_sorted {l : List (Int × Int)} (hp : l.Perm [(97, 55295), (57344, 57345), (1114367, 1114367)]) (hw : l.Pairwise (fun a b : Int × Int => a.1 ≤ b.1)) : l = [(97, 55295), (57344, 57345), (1114367, 1114367)] := by
  have hl := hp.length_eq
  match l, hl with
  | [x, y, z], _ =>
    have hx : x ∈ [((97 : Int), (55295 : Int)), (57344, 57345), (1114367, 1114367)] := hp.mem_iff.1 (by simp)
    have hy : y ∈ [((97 : Int), (55295 : Int)), (57344, 57345), (1114367, 1114367)] := hp.mem_iff.1 (by simp)
    have hz : z ∈ [((97 : Int), (55295 : Int)), (57344, 57345), (1114367, 1114367)] := hp.mem_iff.1 (by simp)
    simp only [List.mem_cons, List.not_mem_nil, or_false] at hx hy hz
    rcases hx with rfl | rfl | rfl <;> rcases hy with rfl | rfl | rfl <;> rcases hz with rfl | rfl | rfl <;>
      first | rfl | exact absurd hp (by decide) | (simp at hw)

def worksL : List (Int × Int) := [(97, 57345), (1114367, 1114367)]
theorem works_merge : mergeF [(97, 55295), (57344, 57345), (1114367, 1114367)] = worksL := by decide
theorem works_print : printF worksL = [91, 92, 117, 123, 54, 49, 125, 45, 92, 117, 123, 101, 48, 48, 49, 125, 92, 120, 102, 102, 93] := by decide +kernel
theorem works_count : countF worksL = 55202 := by decide
theorem works_pts : Pts worksL := by intro x hx; simp [worksL] at hx; rcases hx with rfl | rfl <;> decide
theorem works_can : Can 0 (worksL.map nm) := ⟨by decide, by decide, by decide, by decide, by decide, by decide, trivial⟩

def works3 : List (Int × Int) := [(97, 55295), (57344, 57345), (1114367, 1114367)]
theorem works_spans {w : World} {B : Nat} (h : w.heap[B]? = some (.cells #[.int .i32 97, .int .i32 55295, .int .i32 57344, .int .i32 57345, .int .i32 1114367, .int .i32 1114367] 39 (0, 0))) : Spans w (.slice (some ⟨B, 0, none⟩) 3 3) works3 := by
  refine ⟨_, 3, rfl, .inr ⟨B, 0, rfl, fun j hj => ?_⟩⟩
  have : j = 0 ∨ j = 1 ∨ j = 2 := by simp [works3] at hj; omega
  rcases this with rfl | rfl | rfl <;> exact ⟨by simp [World.cell?, h, works3], by simp [World.cell?, h, works3]⟩
theorem works_of {v : Value} {w : World} (hv : Spans w v works3) :
    Calls Tryz.prog 8 #[v] w fun e w' => ∃ b, e = .returned (.tuple #[.pointer (some ⟨b, 0, none⟩), .nilIface]) ∧ IsSet w' (.pointer (some ⟨b, 0, none⟩)) worksL ∧ Below w.heap.size w w' := by
  refine (of_any v works3 w hv (by decide)).mono ?_
  rintro e w' (⟨k, hk, _, hn, _⟩ | ⟨_, p, l', rfl, hp, hw, hs, hB⟩)
  · have : k = 0 ∨ k = 1 ∨ k = 2 := by simp [works3] at hk; omega
    rcases this with rfl | rfl | rfl <;> exact absurd (by decide) hn
  · rw [three_sorted hp hw, works_merge] at hs
    obtain ⟨b, _, rfl, hs⟩ := hs
    exact ⟨b, rfl, ⟨b, _, rfl, hs⟩, hB⟩
theorem works_rep {w : World} {p : Value} (h : IsSet w p worksL) : Rep w p (fun r => memB r (worksL.map nm)) 2 := ⟨worksL, h, works_pts, works_can, by decide, fun _ _ _ => rfl⟩

set_option maxRecDepth 100000 in
set_option maxHeartbeats 2000000 in
theorem works_any {w : World} (hd : Db w) (hg : 6 < w.heap.size) :
    Calls Tryz.prog 12 #[] w fun e w' => e = .returned (.bool true) ∧ Below w.heap.size w w' := by
  have H0 := works_spans (w := w.alloc (.cells #[.int .i32 97, .int .i32 55295, .int .i32 57344, .int .i32 57345, .int .i32 1114367, .int .i32 1114367] 39)) (heap_alloc_new _ _)
  have bA := (Below.refl w.heap.size w).alloc (Nat.le_refl _) (.cells #[.int .i32 97, .int .i32 55295, .int .i32 57344, .int .i32 57345, .int .i32 1114367, .int .i32 1114367] 39)
  have hsz := bA.size
  have d0 := Db.below bA hd hg
  have p1 : (ptB 98 && memB (numP 98) (worksL.map nm)) = true := by decide
  have p2 : (ptB 55296 && memB (numP 55296) (worksL.map nm)) = false := by decide
  have hW := works_print
  go_enter Tryz.func12, Tryz.ntmps12
  go_wp2_with (first
    | (go_at_call 39; refine (has_rep (r := 55296) (works_rep s4) (by decide) (by decide) (by decide)).mono ?_; rw [p2]; rintro e w5 ⟨rfl, hB5⟩)
    | (go_at_call 39; refine (has_rep (r := 98) (works_rep s3) (by decide) (by decide) (by decide)).mono ?_; rw [p1]; rintro e w4 ⟨rfl, hB4⟩; have s4 := s3.below hB4)
    | (go_at_call 38; refine (count_any _ worksL w2 s2 works_pts.bd (by decide)).mono ?_; rw [works_count]; rintro e w3 ⟨rfl, hB3⟩; have s3 := s2.below hB3)
    | (go_at_call 37; refine (print_any _ worksL w1 s1 works_pts.bd (by decide) (Db.below hB1 d0.1 d0.2).1 (Db.below hB1 d0.1 d0.2).2).mono ?_; rw [hW]; rintro e w2 ⟨rfl, hB2⟩; have s2 := s1.below hB2)
    | (go_at_call 8; refine (works_of H0).mono ?_; rintro e w1 ⟨b, rfl, s1, hB1⟩))
  go_ret
  have y1 := hB1.size; have y2 := hB2.size; have y3 := hB3.size; have y4 := hB4.size
  exact ⟨rfl, bA.trans ((hB1.mono hsz).trans ((hB2.mono (by omega)).trans ((hB3.mono (by omega)).trans ((hB4.mono (by omega)).trans (hB5.mono (by omega))))))⟩

end Go.Proofs.YtmbjjheaddhmeaaGreatDoor

namespace Go.Proofs.YtmbjjheaddhmeaaGreatDoor
open Go.RowKit
def DbOk (w : World) : Prop := Db w ∧ 6 < w.heap.size
theorem DbOk.below {w w' : World} (hb : Below w.heap.size w w') (h : DbOk w) : DbOk w' := Db.below hb h.1 h.2

/-- A set is returned. -/
def RetSet (w : World) (P : Int → Bool) (k : Nat) (e : Ending) (w' : World) : Prop := ∃ b, e = .returned (.pointer (some ⟨b, 0, none⟩)) ∧ Rep w' (.pointer (some ⟨b, 0, none⟩)) P k ∧ Below w.heap.size w w'
theorem retSet {w : World} {P : Int → Bool} {k : Nat} {e : Ending} {w' : World} (h : ∃ v, e = .returned v ∧ Rep w' v P k ∧ Below w.heap.size w w') : RetSet w P k e w' := by
  obtain ⟨v, rfl, hR, hB⟩ := h
  obtain ⟨b, rfl⟩ := hR.ptr
  exact ⟨b, rfl, hR, hB⟩
theorem join_ret {p q : Value} {P Q : Int → Bool} {k j : Nat} {w : World} (hp : Rep w p P k) (hq : Rep w q Q j) (hk : k + j ≤ 90000) : Calls Tryz.prog 18 #[p, q] w (RetSet w (fun r => P r || Q r) (k + j)) := (join_rep hp hq hk).mono fun _ _ => retSet
theorem both_ret {p q : Value} {P Q : Int → Bool} {k j : Nat} {w : World} (hp : Rep w p P k) (hq : Rep w q Q j) (hk : k + j ≤ 90000) : Calls Tryz.prog 20 #[p, q] w (RetSet w (fun r => P r && Q r) (k + j)) := (both_rep hp hq hk).mono fun _ _ => retSet
theorem less_ret {p q : Value} {P Q : Int → Bool} {k j : Nat} {w : World} (hp : Rep w p P k) (hq : Rep w q Q j) (hk : k + j ≤ 80000) : Calls Tryz.prog 22 #[p, q] w (RetSet w (fun r => P r && !Q r) (k + j + 1)) := (less_rep hp hq hk).mono fun _ _ => retSet
theorem not_ret {p : Value} {P : Int → Bool} {k : Nat} {w : World} (hp : Rep w p P k) (hk : k ≤ 90000) : Calls Tryz.prog 24 #[p] w (RetSet w (fun r => !P r) (k + 1)) := (not_rep hp hk).mono fun _ _ => retSet
end Go.Proofs.YtmbjjheaddhmeaaGreatDoor
