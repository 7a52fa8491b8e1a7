/- The document's sets as predicates on the points' numbers; Join, Both, Less, Not. -/
import Derived.Test.YtmbjjheaddhmeaaGreatDoorRefMade
namespace Go.Proofs.YtmbjjheaddhmeaaGreatDoor
open Go.RowKit

theorem can_len {L : List (Int × Int)} : ∀ {f : Int}, 0 ≤ f → Can f L → L ≠ [] → f + 2 * ((L.length : Int) - 1) ≤ 1112191 := by
  induction L with
  | nil => intro f _ _ h; exact absurd rfl h
  | cons x L ih =>
    rintro f hf ⟨h1, h2, h3, h4⟩ _
    cases L with
    | nil => simp; omega
    | cons y L =>
      have := ih (f := x.2 + 2) (by omega) h4 (by simp)
      simp only [List.length_cons] at *
      push_cast at *
      omega
theorem can_len0 {L : List (Int × Int)} (h : Can 0 L) : L.length ≤ 600000 := by
  by_cases hn : L = []
  · subst hn; simp
  · have := can_len (Int.le_refl 0) h hn; omega
theorem can_num {L : List (Int × Int)} : ∀ {f : Int}, 0 ≤ f → Can f L → NumR L := by
  induction L with
  | nil => intro f _ _ x hx; cases hx
  | cons x L ih =>
    rintro f hf ⟨h1, h2, h3, h4⟩ y hy
    rcases List.mem_cons.1 hy with rfl | hy
    · omega
    · exact ih (by omega) h4 y hy

/-- The value v is a set of the document's, of the points whose numbers P tells. -/
def RRep (w : World) (v : Value) (P : Int → Bool) : Prop := ∃ u L, v = .agg #[u] ∧ Prs w u L ∧ Can 0 L ∧ ∀ r, 0 ≤ r → r ≤ 1112191 → memB r L = P r
theorem RRep.below {w w' : World} {v : Value} {P : Int → Bool} (hb : Below w.heap.size w w') (h : RRep w v P) : RRep w' v P := by
  obtain ⟨u, L, h0, h1, h2⟩ := h; exact ⟨u, L, h0, h1.below hb, h2⟩
theorem RRep.agg {w : World} {v : Value} {P : Int → Bool} (h : RRep w v P) : ∃ a n c, v = .agg #[.slice a n c] := by
  obtain ⟨u, L, rfl, ⟨a, c, rfl, _⟩, _⟩ := h; exact ⟨a, _, c, rfl⟩
theorem RRep.congr {w : World} {v : Value} {P Q : Int → Bool} (h : RRep w v P) (hq : ∀ r, 0 ≤ r → r ≤ 1112191 → P r = Q r) : RRep w v Q := by
  obtain ⟨u, L, h0, h1, h2, h3⟩ := h; exact ⟨u, L, h0, h1, h2, fun r a b => (h3 r a b).trans (hq r a b)⟩
theorem RRep.empty (w : World) : RRep w (.agg #[.slice none 0 0]) (fun _ => false) := ⟨_, [], rfl, Prs.nil _, trivial, fun _ _ _ => rfl⟩

/-- A set of the document's is returned. -/
def RetR (w : World) (P : Int → Bool) (e : Ending) (w' : World) : Prop := ∃ a n c, e = .returned (.agg #[.slice a n c]) ∧ RRep w' (.agg #[.slice a n c]) P ∧ Below w.heap.size w w'
theorem rmade_ret {va vb : Value} {P Q : Int → Bool} {how : Int} {w : World} (ha : RRep w va P) (hb : RRep w vb Q) :
    Calls Tryz.prog 72 #[va, vb, .int .i64 how] w (RetR w (fun r => saysF how (P r) (Q r))) := by
  obtain ⟨u, L, rfl, h1, h2, h3⟩ := ha
  obtain ⟨v, M, rfl, k1, k2, k3⟩ := hb
  refine (made_walk u v L M how w h1 k1 (can_num (Int.le_refl 0) h2) (can_num (Int.le_refl 0) k2) (can_len0 h2) (can_len0 k2)).mono ?_
  rintro e w' ⟨x, out, rfl, ho, ⟨hd1, _, hd3⟩, hB⟩
  have ho' := ho
  obtain ⟨a, c, rfl, _⟩ := ho'
  exact ⟨a, _, c, rfl, ⟨_, out, rfl, ho, hd1, fun r r0 r1 => by rw [hd3 r r0 (by omega)]; dsimp only; rw [h3 r r0 r1, k3 r r0 r1]⟩, hB⟩

/-- A store into a cell that holds a slice leaves the rows' cells alone. -/
theorem Prs.set {w : World} {v : Value} {l : List (Int × Int)} (h : Prs w v l) {B : Nat} {x : Option Addr} {n c : Nat} (hc : w.cell? ⟨B, 0, none⟩ = some (.slice x n c)) (u : Value) : Prs (w.setCell ⟨B, 0, none⟩ u) v l := by
  obtain ⟨a, cap, rfl, h⟩ := h
  refine ⟨a, cap, rfl, ?_⟩
  rcases h with h | ⟨b, off, rfl, h⟩
  · exact .inl h
  · refine .inr ⟨b, off, rfl, fun j hj => ?_⟩
    obtain ⟨h1, h2⟩ := h j hj
    refine ⟨(World.cell?_setCell_other _ _ _ _ ?_).trans h1, (World.cell?_setCell_other _ _ _ _ ?_).trans h2⟩
    · intro e; rw [← e, hc] at h1; cases h1
    · intro e; rw [← e, hc] at h2; cases h2
theorem RRep.set {w : World} {v : Value} {P : Int → Bool} (h : RRep w v P) {B : Nat} {x : Option Addr} {n c : Nat} (hc : w.cell? ⟨B, 0, none⟩ = some (.slice x n c)) (u : Value) : RRep (w.setCell ⟨B, 0, none⟩ u) v P := by
  obtain ⟨u', L, h0, h1, h2⟩ := h; exact ⟨u', L, h0, h1.set hc u, h2⟩

set_option maxHeartbeats 1000000 in
theorem rJoin_ret {va vb : Value} {P Q : Int → Bool} {w : World} (ha : RRep w va P) (hb : RRep w vb Q) :
    Calls Tryz.prog 19 #[va, vb] w (RetR w (fun r => or (P r) (Q r))) := by
  obtain ⟨a, n, c, rfl⟩ := ha.agg
  obtain ⟨b, m, d, rfl⟩ := hb.agg
  have bA := (((Below.refl w.heap.size w).alloc (Nat.le_refl _) (.cells #[.slice a n c] 33)).alloc (by simp) (.cells #[.slice b m d] 33)).alloc (by simp; omega) (.cells #[.slice none 0 0] 33)
  have x1 : (((w.alloc (.cells #[.slice a n c] 33)).alloc (.cells #[.slice b m d] 33)).alloc (.cells #[.slice none 0 0] 33)).cell? ⟨w.heap.size + 1 + 1, 0, none⟩ = some (.slice none 0 0) := by simp [go_sem]
  have x2 : (((w.alloc (.cells #[.slice a n c] 33)).alloc (.cells #[.slice b m d] 33)).alloc (.cells #[.slice none 0 0] 33)).frozen? ⟨w.heap.size + 1 + 1, 0, none⟩ = false := by simp [go_sem]
  have x3 : w.heap.size + 1 + 1 < (((w.alloc (.cells #[.slice a n c] 33)).alloc (.cells #[.slice b m d] 33)).alloc (.cells #[.slice none 0 0] 33)).heap.size := by simp
  have HA := Lib.hid (ha.below bA)
  have HB := Lib.hid (hb.below bA)
  clear ha hb
  go_enter Tryz.func19, Tryz.ntmps19
  go_wp2_with (go_at_call 72; refine (rmade_ret (how := 0) HA.out HB.out).mono ?_; rintro e w1 ⟨x, y, z, rfl, hR, hB1⟩; have q1 := (hB1.cell (p := ⟨w.heap.size + 1 + 1, 0, none⟩) x3).trans x1; have q2 := (hB1.frozen (p := ⟨w.heap.size + 1 + 1, 0, none⟩) x3).trans x2; have q3 := World.cell?_setCell_same w1 ⟨w.heap.size + 1 + 1, 0, none⟩ (.slice x y z) q1)
  refine bodyPost_ret (v := .agg #[.slice x y z]) (by simp [results, Tryz.results19, go_sem, q3]) rfl ?_
  exact ⟨x, y, z, rfl, (hR.congr (fun r _ _ => rfl)).set q1 _, (bA.trans (hB1.mono bA.size)).setCell (p := ⟨w.heap.size + 1 + 1, 0, none⟩) (by show w.heap.size ≤ w.heap.size + 1 + 1; omega) _⟩
set_option maxHeartbeats 1000000 in
theorem rBoth_ret {va vb : Value} {P Q : Int → Bool} {w : World} (ha : RRep w va P) (hb : RRep w vb Q) :
    Calls Tryz.prog 21 #[va, vb] w (RetR w (fun r => and (P r) (Q r))) := by
  obtain ⟨a, n, c, rfl⟩ := ha.agg
  obtain ⟨b, m, d, rfl⟩ := hb.agg
  have bA := (((Below.refl w.heap.size w).alloc (Nat.le_refl _) (.cells #[.slice a n c] 33)).alloc (by simp) (.cells #[.slice b m d] 33)).alloc (by simp; omega) (.cells #[.slice none 0 0] 33)
  have x1 : (((w.alloc (.cells #[.slice a n c] 33)).alloc (.cells #[.slice b m d] 33)).alloc (.cells #[.slice none 0 0] 33)).cell? ⟨w.heap.size + 1 + 1, 0, none⟩ = some (.slice none 0 0) := by simp [go_sem]
  have x2 : (((w.alloc (.cells #[.slice a n c] 33)).alloc (.cells #[.slice b m d] 33)).alloc (.cells #[.slice none 0 0] 33)).frozen? ⟨w.heap.size + 1 + 1, 0, none⟩ = false := by simp [go_sem]
  have x3 : w.heap.size + 1 + 1 < (((w.alloc (.cells #[.slice a n c] 33)).alloc (.cells #[.slice b m d] 33)).alloc (.cells #[.slice none 0 0] 33)).heap.size := by simp
  have HA := Lib.hid (ha.below bA)
  have HB := Lib.hid (hb.below bA)
  clear ha hb
  go_enter Tryz.func21, Tryz.ntmps21
  go_wp2_with (go_at_call 72; refine (rmade_ret (how := 1) HA.out HB.out).mono ?_; rintro e w1 ⟨x, y, z, rfl, hR, hB1⟩; have q1 := (hB1.cell (p := ⟨w.heap.size + 1 + 1, 0, none⟩) x3).trans x1; have q2 := (hB1.frozen (p := ⟨w.heap.size + 1 + 1, 0, none⟩) x3).trans x2; have q3 := World.cell?_setCell_same w1 ⟨w.heap.size + 1 + 1, 0, none⟩ (.slice x y z) q1)
  refine bodyPost_ret (v := .agg #[.slice x y z]) (by simp [results, Tryz.results21, go_sem, q3]) rfl ?_
  exact ⟨x, y, z, rfl, (hR.congr (fun r _ _ => rfl)).set q1 _, (bA.trans (hB1.mono bA.size)).setCell (p := ⟨w.heap.size + 1 + 1, 0, none⟩) (by show w.heap.size ≤ w.heap.size + 1 + 1; omega) _⟩
set_option maxHeartbeats 1000000 in
theorem rLess_ret {va vb : Value} {P Q : Int → Bool} {w : World} (ha : RRep w va P) (hb : RRep w vb Q) :
    Calls Tryz.prog 23 #[va, vb] w (RetR w (fun r => and (P r) (!Q r))) := by
  obtain ⟨a, n, c, rfl⟩ := ha.agg
  obtain ⟨b, m, d, rfl⟩ := hb.agg
  have bA := (((Below.refl w.heap.size w).alloc (Nat.le_refl _) (.cells #[.slice a n c] 33)).alloc (by simp) (.cells #[.slice b m d] 33)).alloc (by simp; omega) (.cells #[.slice none 0 0] 33)
  have x1 : (((w.alloc (.cells #[.slice a n c] 33)).alloc (.cells #[.slice b m d] 33)).alloc (.cells #[.slice none 0 0] 33)).cell? ⟨w.heap.size + 1 + 1, 0, none⟩ = some (.slice none 0 0) := by simp [go_sem]
  have x2 : (((w.alloc (.cells #[.slice a n c] 33)).alloc (.cells #[.slice b m d] 33)).alloc (.cells #[.slice none 0 0] 33)).frozen? ⟨w.heap.size + 1 + 1, 0, none⟩ = false := by simp [go_sem]
  have x3 : w.heap.size + 1 + 1 < (((w.alloc (.cells #[.slice a n c] 33)).alloc (.cells #[.slice b m d] 33)).alloc (.cells #[.slice none 0 0] 33)).heap.size := by simp
  have HA := Lib.hid (ha.below bA)
  have HB := Lib.hid (hb.below bA)
  clear ha hb
  go_enter Tryz.func23, Tryz.ntmps23
  go_wp2_with (go_at_call 72; refine (rmade_ret (how := 2) HA.out HB.out).mono ?_; rintro e w1 ⟨x, y, z, rfl, hR, hB1⟩; have q1 := (hB1.cell (p := ⟨w.heap.size + 1 + 1, 0, none⟩) x3).trans x1; have q2 := (hB1.frozen (p := ⟨w.heap.size + 1 + 1, 0, none⟩) x3).trans x2; have q3 := World.cell?_setCell_same w1 ⟨w.heap.size + 1 + 1, 0, none⟩ (.slice x y z) q1)
  refine bodyPost_ret (v := .agg #[.slice x y z]) (by simp [results, Tryz.results23, go_sem, q3]) rfl ?_
  exact ⟨x, y, z, rfl, (hR.congr (fun r _ _ => rfl)).set q1 _, (bA.trans (hB1.mono bA.size)).setCell (p := ⟨w.heap.size + 1 + 1, 0, none⟩) (by show w.heap.size ≤ w.heap.size + 1 + 1; omega) _⟩

set_option maxHeartbeats 1000000 in
theorem rNot_ret {va : Value} {P : Int → Bool} {w : World} (ha : RRep w va P) :
    Calls Tryz.prog 25 #[va] w (RetR w (fun r => !P r)) := by
  obtain ⟨a, n, c, rfl⟩ := ha.agg
  have bA := ((Below.refl w.heap.size w).alloc (Nat.le_refl _) (.cells #[.slice a n c] 33)).alloc (by simp) (.cells #[.slice none 0 0] 33)
  have x1 : ((w.alloc (.cells #[.slice a n c] 33)).alloc (.cells #[.slice none 0 0] 33)).cell? ⟨w.heap.size + 1, 0, none⟩ = some (.slice none 0 0) := by simp [go_sem]
  have x2 : ((w.alloc (.cells #[.slice a n c] 33)).alloc (.cells #[.slice none 0 0] 33)).frozen? ⟨w.heap.size + 1, 0, none⟩ = false := by simp [go_sem]
  have x3 : w.heap.size + 1 < ((w.alloc (.cells #[.slice a n c] 33)).alloc (.cells #[.slice none 0 0] 33)).heap.size := by simp
  have HA := Lib.hid (ha.below bA)
  clear ha
  go_enter Tryz.func25, Tryz.ntmps25
  go_wp2_with (go_at_call 72; refine (rmade_ret (how := 3) HA.out HA.out).mono ?_; rintro e w1 ⟨x, y, z, rfl, hR, hB1⟩; have q1 := (hB1.cell (p := ⟨w.heap.size + 1, 0, none⟩) x3).trans x1; have q2 := (hB1.frozen (p := ⟨w.heap.size + 1, 0, none⟩) x3).trans x2; have q3 := World.cell?_setCell_same w1 ⟨w.heap.size + 1, 0, none⟩ (.slice x y z) q1)
  refine bodyPost_ret (v := .agg #[.slice x y z]) (by simp [results, Tryz.results25, go_sem, q3]) rfl ?_
  exact ⟨x, y, z, rfl, (hR.congr (fun r _ _ => rfl)).set q1 _, (bA.trans (hB1.mono bA.size)).setCell (p := ⟨w.heap.size + 1, 0, none⟩) (by show w.heap.size ≤ w.heap.size + 1; omega) _⟩
end Go.Proofs.YtmbjjheaddhmeaaGreatDoor
