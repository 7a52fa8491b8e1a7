/- works: the guard against a program that refuses everything. -/
import Derived.Test.YtmbjjheaddhmeaaGreatDoorSome
namespace Go.Proofs.YtmbjjheaddhmeaaGreatDoor
open Go.RowKit

theorem three_sorted {l : List (Int × Int)} (hp : l.Perm [(97, 55295), (57344, 57345), (1114367, 1114367)]) (hw : l.Pairwise (fun a b : Int × Int => a.1 ≤ b.1)) : l = [(97, 55295), (57344, 57345), (1114367, 1114367)] := by
  have hl := hp.length_eq
  match l, hl with
  | [x, y, z], _ =>
    have hx : x ∈ [((97 : Int), (55295 : Int)), (57344, 57345), (1114367, 1114367)] := hp.mem_iff.1 (by simp)
    have hy : y ∈ [((97 : Int), (55295 : Int)), (57344, 57345), (1114367, 1114367)] := hp.mem_iff.1 (by simp)
    have hz : z ∈ [((97 : Int), (55295 : Int)), (57344, 57345), (1114367, 1114367)] := hp.mem_iff.1 (by simp)
    simp only [List.mem_cons, List.not_mem_nil, or_false] at hx hy hz
    rcases hx with rfl | rfl | rfl <;> rcases hy with rfl | rfl | rfl <;> rcases hz with rfl | rfl | rfl <;>
      first | rfl | exact absurd hp (by decide) | (simp at hw)

def worksL : List (Int × Int) := [(97, 57345), (1114367, 1114367)]
theorem works_merge : mergeF [(97, 55295), (57344, 57345), (1114367, 1114367)] = worksL := by decide
theorem works_print : printF worksL = [91, 92, 117, 123, 54, 49, 125, 45, 92, 117, 123, 101, 48, 48, 49, 125, 92, 120, 102, 102, 93] := by decide +kernel
theorem works_count : countF worksL = 55202 := by decide
theorem works_pts : Pts worksL := by intro x hx; simp [worksL] at hx; rcases hx with rfl | rfl <;> decide
theorem works_can : Can 0 (worksL.map nm) := ⟨by decide, by decide, by decide, by decide, by decide, by decide, trivial⟩

def works3 : List (Int × Int) := [(97, 55295), (57344, 57345), (1114367, 1114367)]
theorem works_spans {w : World} {B : Nat} (h : w.heap[B]? = some (.cells #[.int .i32 97, .int .i32 55295, .int .i32 57344, .int .i32 57345, .int .i32 1114367, .int .i32 1114367] 39 (0, 0))) : Spans w (.slice (some ⟨B, 0, none⟩) 3 3) works3 := by
  refine ⟨_, 3, rfl, .inr ⟨B, 0, rfl, fun j hj => ?_⟩⟩
  have : j = 0 ∨ j = 1 ∨ j = 2 := by simp [works3] at hj; omega
  rcases this with rfl | rfl | rfl <;> exact ⟨by simp [World.cell?, h, works3], by simp [World.cell?, h, works3]⟩
theorem works_of {v : Value} {w : World} (hv : Spans w v works3) :
    Calls Tryz.prog 8 #[v] w fun e w' => ∃ b, e = .returned (.tuple #[.pointer (some ⟨b, 0, none⟩), .nilIface]) ∧ IsSet w' (.pointer (some ⟨b, 0, none⟩)) worksL ∧ Below w.heap.size w w' := by
  refine (of_any v works3 w hv (by decide)).mono ?_
  rintro e w' (⟨k, hk, _, hn, _⟩ | ⟨_, p, l', rfl, hp, hw, hs, hB⟩)
  · have : k = 0 ∨ k = 1 ∨ k = 2 := by simp [works3] at hk; omega
    rcases this with rfl | rfl | rfl <;> exact absurd (by decide) hn
  · rw [three_sorted hp hw, works_merge] at hs
    obtain ⟨b, _, rfl, hs⟩ := hs
    exact ⟨b, rfl, ⟨b, _, rfl, hs⟩, hB⟩
theorem works_rep {w : World} {p : Value} (h : IsSet w p worksL) : Rep w p (fun r => memB r (worksL.map nm)) 2 := ⟨worksL, h, works_pts, works_can, by decide, fun _ _ _ => rfl⟩

set_option maxRecDepth 100000 in
set_option maxHeartbeats 2000000 in
theorem works_any {w : World} (hd : Db w) (hg : 6 < w.heap.size) :
    Calls Tryz.prog 12 #[] w fun e w' => e = .returned (.bool true) ∧ Below w.heap.size w w' := by
  have H0 := works_spans (w := w.alloc (.cells #[.int .i32 97, .int .i32 55295, .int .i32 57344, .int .i32 57345, .int .i32 1114367, .int .i32 1114367] 39)) (heap_alloc_new _ _)
  have bA := (Below.refl w.heap.size w).alloc (Nat.le_refl _) (.cells #[.int .i32 97, .int .i32 55295, .int .i32 57344, .int .i32 57345, .int .i32 1114367, .int .i32 1114367] 39)
  have hsz := bA.size
  have d0 := Db.below bA hd hg
  have p1 : (ptB 98 && memB (numP 98) (worksL.map nm)) = true := by decide
  have p2 : (ptB 55296 && memB (numP 55296) (worksL.map nm)) = false := by decide
  have hW := works_print
  go_enter Tryz.func12, Tryz.ntmps12
  go_wp2_with (first
    | (go_at_call 39; refine (has_rep (r := 55296) (works_rep s4) (by decide) (by decide) (by decide)).mono ?_; rw [p2]; rintro e w5 ⟨rfl, hB5⟩)
    | (go_at_call 39; refine (has_rep (r := 98) (works_rep s3) (by decide) (by decide) (by decide)).mono ?_; rw [p1]; rintro e w4 ⟨rfl, hB4⟩; have s4 := s3.below hB4)
    | (go_at_call 38; refine (count_any _ worksL w2 s2 works_pts.bd (by decide)).mono ?_; rw [works_count]; rintro e w3 ⟨rfl, hB3⟩; have s3 := s2.below hB3)
    | (go_at_call 37; refine (print_any _ worksL w1 s1 works_pts.bd (by decide) (Db.below hB1 d0.1 d0.2).1 (Db.below hB1 d0.1 d0.2).2).mono ?_; rw [hW]; rintro e w2 ⟨rfl, hB2⟩; have s2 := s1.below hB2)
    | (go_at_call 8; refine (works_of H0).mono ?_; rintro e w1 ⟨b, rfl, s1, hB1⟩))
  go_ret
  have y1 := hB1.size; have y2 := hB2.size; have y3 := hB3.size; have y4 := hB4.size
  exact ⟨rfl, bA.trans ((hB1.mono hsz).trans ((hB2.mono (by omega)).trans ((hB3.mono (by omega)).trans ((hB4.mono (by omega)).trans (hB5.mono (by omega))))))⟩

end Go.Proofs.YtmbjjheaddhmeaaGreatDoor
