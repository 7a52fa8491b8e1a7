/- The document's sets as predicates on the points' numbers; Join, Both, Less, Not. hex, One: a point as the document prints it. Print of the document's sets. -/
import Derived.Test.YtmbjjheaddhmeaaGreatDoorRefMade
import Derived.Test.YtmbjjheaddhmeaaGreatDoorRefFirst
import Derived.Test.YtmbjjheaddhmeaaGreatDoorParseLaw
import Derived.Laws.Concat
import Derived.Laws.Strings2
import Derived.Deep.QuietTactic
namespace Go.Proofs.YtmbjjheaddhmeaaGreatDoor
open Go.RowKit

theorem can_len {L : List (Int × Int)} : ∀ {f : Int}, 0 ≤ f → Can f L → L ≠ [] → f + 2 * ((L.length : Int) - 1) ≤ 1112191 := by
  induction L with
  | nil => intro f _ _ h; exact absurd rfl h
  | cons x L ih =>
    rintro f hf ⟨h1, h2, h3, h4⟩ _
    cases L with
    | nil => simp; omega
    | cons y L =>
      have := ih (f := x.2 + 2) (by omega) h4 (by simp)
      simp only [List.length_cons] at *
      push_cast at *
      omega
theorem can_len0 {L : List (Int × Int)} (h : Can 0 L) : L.length ≤ 600000 := by
  by_cases hn : L = []
  · subst hn; simp
  · have := can_len (Int.le_refl 0) h hn; omega
theorem can_num {L : List (Int × Int)} : ∀ {f : Int}, 0 ≤ f → Can f L → NumR L := by
  induction L with
  | nil => intro f _ _ x hx; cases hx
  | cons x L ih =>
    rintro f hf ⟨h1, h2, h3, h4⟩ y hy
    rcases List.mem_cons.1 hy with rfl | hy
    · omega
    · exact ih (by omega) h4 y hy

/-- The value v is a set of the document's, of the points whose numbers P tells. -/
def RRep (w : World) (v : Value) (P : Int → Bool) : Prop := ∃ u L, v = .agg #[u] ∧ Prs w u L ∧ Can 0 L ∧ ∀ r, 0 ≤ r → r ≤ 1112191 → memB r L = P r
theorem RRep.below {w w' : World} {v : Value} {P : Int → Bool} (hb : Below w.heap.size w w') (h : RRep w v P) : RRep w' v P := by
  obtain ⟨u, L, h0, h1, h2⟩ := h; exact ⟨u, L, h0, h1.below hb, h2⟩
theorem RRep.agg {w : World} {v : Value} {P : Int → Bool} (h : RRep w v P) : ∃ a n c, v = .agg #[.slice a n c] := by
  obtain ⟨u, L, rfl, ⟨a, c, rfl, _⟩, _⟩ := h; exact ⟨a, _, c, rfl⟩
theorem RRep.congr {w : World} {v : Value} {P Q : Int → Bool} (h : RRep w v P) (hq : ∀ r, 0 ≤ r → r ≤ 1112191 → P r = Q r) : RRep w v Q := by
  obtain ⟨u, L, h0, h1, h2, h3⟩ := h; exact ⟨u, L, h0, h1, h2, fun r a b => (h3 r a b).trans (hq r a b)⟩
theorem RRep.empty (w : World) : RRep w (.agg #[.slice none 0 0]) (fun _ => false) := ⟨_, [], rfl, Prs.nil _, trivial, fun _ _ _ => rfl⟩

/-- A set of the document's is returned. -/
def RetR (w : World) (P : Int → Bool) (e : Ending) (w' : World) : Prop := ∃ a n c, e = .returned (.agg #[.slice a n c]) ∧ RRep w' (.agg #[.slice a n c]) P ∧ Below w.heap.size w w'
theorem rmade_ret {va vb : Value} {P Q : Int → Bool} {how : Int} {w : World} (ha : RRep w va P) (hb : RRep w vb Q) :
    Calls Tryz.prog 72 #[va, vb, .int .i64 how] w (RetR w (fun r => saysF how (P r) (Q r))) := by
  obtain ⟨u, L, rfl, h1, h2, h3⟩ := ha
  obtain ⟨v, M, rfl, k1, k2, k3⟩ := hb
  refine (made_walk u v L M how w h1 k1 (can_num (Int.le_refl 0) h2) (can_num (Int.le_refl 0) k2) (can_len0 h2) (can_len0 k2)).mono ?_
  rintro e w' ⟨x, out, rfl, ho, ⟨hd1, _, hd3⟩, hB⟩
  have ho' := ho
  obtain ⟨a, c, rfl, _⟩ := ho'
  exact ⟨a, _, c, rfl, ⟨_, out, rfl, ho, hd1, fun r r0 r1 => by rw [hd3 r r0 (by omega)]; dsimp only; rw [h3 r r0 r1, k3 r r0 r1]⟩, hB⟩

/-- A store into a cell that holds a slice leaves the rows' cells alone. -/
theorem Prs.set {w : World} {v : Value} {l : List (Int × Int)} (h : Prs w v l) {B : Nat} {x : Option Addr} {n c : Nat} (hc : w.cell? ⟨B, 0, none⟩ = some (.slice x n c)) (u : Value) : Prs (w.setCell ⟨B, 0, none⟩ u) v l := by
  obtain ⟨a, cap, rfl, h⟩ := h
  refine ⟨a, cap, rfl, ?_⟩
  rcases h with h | ⟨b, off, rfl, h⟩
  · exact .inl h
  · refine .inr ⟨b, off, rfl, fun j hj => ?_⟩
    obtain ⟨h1, h2⟩ := h j hj
    refine ⟨(World.cell?_setCell_other _ _ _ _ ?_).trans h1, (World.cell?_setCell_other _ _ _ _ ?_).trans h2⟩
    · intro e; rw [← e, hc] at h1; cases h1
    · intro e; rw [← e, hc] at h2; cases h2
theorem RRep.set {w : World} {v : Value} {P : Int → Bool} (h : RRep w v P) {B : Nat} {x : Option Addr} {n c : Nat} (hc : w.cell? ⟨B, 0, none⟩ = some (.slice x n c)) (u : Value) : RRep (w.setCell ⟨B, 0, none⟩ u) v P := by
  obtain ⟨u', L, h0, h1, h2⟩ := h; exact ⟨u', L, h0, h1.set hc u, h2⟩

set_option maxHeartbeats 1000000 in
theorem rJoin_ret {va vb : Value} {P Q : Int → Bool} {w : World} (ha : RRep w va P) (hb : RRep w vb Q) :
    Calls Tryz.prog 19 #[va, vb] w (RetR w (fun r => or (P r) (Q r))) := by
  obtain ⟨a, n, c, rfl⟩ := ha.agg
  obtain ⟨b, m, d, rfl⟩ := hb.agg
  have bA := (((Below.refl w.heap.size w).alloc (Nat.le_refl _) (.cells #[.slice a n c] 33)).alloc (by simp) (.cells #[.slice b m d] 33)).alloc (by simp; omega) (.cells #[.slice none 0 0] 33)
  have x1 : (((w.alloc (.cells #[.slice a n c] 33)).alloc (.cells #[.slice b m d] 33)).alloc (.cells #[.slice none 0 0] 33)).cell? ⟨w.heap.size + 1 + 1, 0, none⟩ = some (.slice none 0 0) := by simp [go_sem]
  have x2 : (((w.alloc (.cells #[.slice a n c] 33)).alloc (.cells #[.slice b m d] 33)).alloc (.cells #[.slice none 0 0] 33)).frozen? ⟨w.heap.size + 1 + 1, 0, none⟩ = false := by simp [go_sem]
  have x3 : w.heap.size + 1 + 1 < (((w.alloc (.cells #[.slice a n c] 33)).alloc (.cells #[.slice b m d] 33)).alloc (.cells #[.slice none 0 0] 33)).heap.size := by simp
  have HA := Lib.hid (ha.below bA)
  have HB := Lib.hid (hb.below bA)
  clear ha hb
  go_enter Tryz.func19, Tryz.ntmps19
  go_wp2_with (go_at_call 72; refine (rmade_ret (how := 0) HA.out HB.out).mono ?_; rintro e w1 ⟨x, y, z, rfl, hR, hB1⟩; have q1 := (hB1.cell (p := ⟨w.heap.size + 1 + 1, 0, none⟩) x3).trans x1; have q2 := (hB1.frozen (p := ⟨w.heap.size + 1 + 1, 0, none⟩) x3).trans x2; have q3 := World.cell?_setCell_same w1 ⟨w.heap.size + 1 + 1, 0, none⟩ (.slice x y z) q1)
  refine bodyPost_ret (v := .agg #[.slice x y z]) (by simp [results, Tryz.results19, go_sem, q3]) rfl ?_
  exact ⟨x, y, z, rfl, (hR.congr (fun r _ _ => rfl)).set q1 _, (bA.trans (hB1.mono bA.size)).setCell (p := ⟨w.heap.size + 1 + 1, 0, none⟩) (by show w.heap.size ≤ w.heap.size + 1 + 1; omega) _⟩
set_option maxHeartbeats 1000000 in
theorem rBoth_ret {va vb : Value} {P Q : Int → Bool} {w : World} (ha : RRep w va P) (hb : RRep w vb Q) :
    Calls Tryz.prog 21 #[va, vb] w (RetR w (fun r => and (P r) (Q r))) := by
  obtain ⟨a, n, c, rfl⟩ := ha.agg
  obtain ⟨b, m, d, rfl⟩ := hb.agg
  have bA := (((Below.refl w.heap.size w).alloc (Nat.le_refl _) (.cells #[.slice a n c] 33)).alloc (by simp) (.cells #[.slice b m d] 33)).alloc (by simp; omega) (.cells #[.slice none 0 0] 33)
  have x1 : (((w.alloc (.cells #[.slice a n c] 33)).alloc (.cells #[.slice b m d] 33)).alloc (.cells #[.slice none 0 0] 33)).cell? ⟨w.heap.size + 1 + 1, 0, none⟩ = some (.slice none 0 0) := by simp [go_sem]
  have x2 : (((w.alloc (.cells #[.slice a n c] 33)).alloc (.cells #[.slice b m d] 33)).alloc (.cells #[.slice none 0 0] 33)).frozen? ⟨w.heap.size + 1 + 1, 0, none⟩ = false := by simp [go_sem]
  have x3 : w.heap.size + 1 + 1 < (((w.alloc (.cells #[.slice a n c] 33)).alloc (.cells #[.slice b m d] 33)).alloc (.cells #[.slice none 0 0] 33)).heap.size := by simp
  have HA := Lib.hid (ha.below bA)
  have HB := Lib.hid (hb.below bA)
  clear ha hb
  go_enter Tryz.func21, Tryz.ntmps21
  go_wp2_with (go_at_call 72; refine (rmade_ret (how := 1) HA.out HB.out).mono ?_; rintro e w1 ⟨x, y, z, rfl, hR, hB1⟩; have q1 := (hB1.cell (p := ⟨w.heap.size + 1 + 1, 0, none⟩) x3).trans x1; have q2 := (hB1.frozen (p := ⟨w.heap.size + 1 + 1, 0, none⟩) x3).trans x2; have q3 := World.cell?_setCell_same w1 ⟨w.heap.size + 1 + 1, 0, none⟩ (.slice x y z) q1)
  refine bodyPost_ret (v := .agg #[.slice x y z]) (by simp [results, Tryz.results21, go_sem, q3]) rfl ?_
  exact ⟨x, y, z, rfl, (hR.congr (fun r _ _ => rfl)).set q1 _, (bA.trans (hB1.mono bA.size)).setCell (p := ⟨w.heap.size + 1 + 1, 0, none⟩) (by show w.heap.size ≤ w.heap.size + 1 + 1; omega) _⟩
set_option maxHeartbeats 1000000 in
theorem rLess_ret {va vb : Value} {P Q : Int → Bool} {w : World} (ha : RRep w va P) (hb : RRep w vb Q) :
    Calls Tryz.prog 23 #[va, vb] w (RetR w (fun r => and (P r) (!Q r))) := by
  obtain ⟨a, n, c, rfl⟩ := ha.agg
  obtain ⟨b, m, d, rfl⟩ := hb.agg
  have bA := (((Below.refl w.heap.size w).alloc (Nat.le_refl _) (.cells #[.slice a n c] 33)).alloc (by simp) (.cells #[.slice b m d] 33)).alloc (by simp; omega) (.cells #[.slice none 0 0] 33)
  have x1 : (((w.alloc (.cells #[.slice a n c] 33)).alloc (.cells #[.slice b m d] 33)).alloc (.cells #[.slice none 0 0] 33)).cell? ⟨w.heap.size + 1 + 1, 0, none⟩ = some (.slice none 0 0) := by simp [go_sem]
  have x2 : (((w.alloc (.cells #[.slice a n c] 33)).alloc (.cells #[.slice b m d] 33)).alloc (.cells #[.slice none 0 0] 33)).frozen? ⟨w.heap.size + 1 + 1, 0, none⟩ = false := by simp [go_sem]
  have x3 : w.heap.size + 1 + 1 < (((w.alloc (.cells #[.slice a n c] 33)).alloc (.cells #[.slice b m d] 33)).alloc (.cells #[.slice none 0 0] 33)).heap.size := by simp
  have HA := Lib.hid (ha.below bA)
  have HB := Lib.hid (hb.below bA)
  clear ha hb
  go_enter Tryz.func23, Tryz.ntmps23
  go_wp2_with (go_at_call 72; refine (rmade_ret (how := 2) HA.out HB.out).mono ?_; rintro e w1 ⟨x, y, z, rfl, hR, hB1⟩; have q1 := (hB1.cell (p := ⟨w.heap.size + 1 + 1, 0, none⟩) x3).trans x1; have q2 := (hB1.frozen (p := ⟨w.heap.size + 1 + 1, 0, none⟩) x3).trans x2; have q3 := World.cell?_setCell_same w1 ⟨w.heap.size + 1 + 1, 0, none⟩ (.slice x y z) q1)
  refine bodyPost_ret (v := .agg #[.slice x y z]) (by simp [results, Tryz.results23, go_sem, q3]) rfl ?_
  exact ⟨x, y, z, rfl, (hR.congr (fun r _ _ => rfl)).set q1 _, (bA.trans (hB1.mono bA.size)).setCell (p := ⟨w.heap.size + 1 + 1, 0, none⟩) (by show w.heap.size ≤ w.heap.size + 1 + 1; omega) _⟩

set_option maxHeartbeats 1000000 in
theorem rNot_ret {va : Value} {P : Int → Bool} {w : World} (ha : RRep w va P) :
    Calls Tryz.prog 25 #[va] w (RetR w (fun r => !P r)) := by
  obtain ⟨a, n, c, rfl⟩ := ha.agg
  have bA := ((Below.refl w.heap.size w).alloc (Nat.le_refl _) (.cells #[.slice a n c] 33)).alloc (by simp) (.cells #[.slice none 0 0] 33)
  have x1 : ((w.alloc (.cells #[.slice a n c] 33)).alloc (.cells #[.slice none 0 0] 33)).cell? ⟨w.heap.size + 1, 0, none⟩ = some (.slice none 0 0) := by simp [go_sem]
  have x2 : ((w.alloc (.cells #[.slice a n c] 33)).alloc (.cells #[.slice none 0 0] 33)).frozen? ⟨w.heap.size + 1, 0, none⟩ = false := by simp [go_sem]
  have x3 : w.heap.size + 1 < ((w.alloc (.cells #[.slice a n c] 33)).alloc (.cells #[.slice none 0 0] 33)).heap.size := by simp
  have HA := Lib.hid (ha.below bA)
  clear ha
  go_enter Tryz.func25, Tryz.ntmps25
  go_wp2_with (go_at_call 72; refine (rmade_ret (how := 3) HA.out HA.out).mono ?_; rintro e w1 ⟨x, y, z, rfl, hR, hB1⟩; have q1 := (hB1.cell (p := ⟨w.heap.size + 1, 0, none⟩) x3).trans x1; have q2 := (hB1.frozen (p := ⟨w.heap.size + 1, 0, none⟩) x3).trans x2; have q3 := World.cell?_setCell_same w1 ⟨w.heap.size + 1, 0, none⟩ (.slice x y z) q1)
  refine bodyPost_ret (v := .agg #[.slice x y z]) (by simp [results, Tryz.results25, go_sem, q3]) rfl ?_
  exact ⟨x, y, z, rfl, (hR.congr (fun r _ _ => rfl)).set q1 _, (bA.trans (hB1.mono bA.size)).setCell (p := ⟨w.heap.size + 1, 0, none⟩) (by show w.heap.size ≤ w.heap.size + 1; omega) _⟩
end Go.Proofs.YtmbjjheaddhmeaaGreatDoor

namespace Go.Proofs.YtmbjjheaddhmeaaGreatDoor
open Go.RowKit

def digs : ByteArray := ⟨#[48, 49, 50, 51, 52, 53, 54, 55, 56, 57, 97, 98, 99, 100, 101, 102]⟩
theorem digs_at (d : Nat) (h : d < 16) : digs.extract d (d + 1) = ⟨#[hexD d]⟩ := by
  have : ∀ d : Fin 16, digs.extract d.1 (d.1 + 1) = ⟨#[hexD d.1]⟩ := by decide +kernel
  exact this ⟨d, h⟩

set_option maxRecDepth 100000 in
set_option maxHeartbeats 2000000 in
theorem rhex_any (g : Nat) : ∀ (u : Nat) (w : World), g ≤ 100 → u < 16 ^ (g + 1) → u < 16777216 →
    Calls Tryz.prog 134 #[.int .i64 u] w fun e w' => e = .returned (.string ⟨(hexK g u).toArray⟩) ∧ Below w.heap.size w w' := by
  induction g with
  | zero =>
    intro u w hg hu hu2
    have hu' : u < 16 := by simpa using hu
    have hl : (u : Int) < 16 := by omega
    have hx := digs_at u hu'
    unfold digs at hx
    go_enter Tryz.func134, Tryz.ntmps134
    go_wp2
    go_ret
    refine ⟨?_, Below.refl _ _⟩
    rw [hexK]; rfl
  | succ g ih =>
    intro u w hg hu hu2
    by_cases hu' : u < 16
    · have hl : (u : Int) < 16 := by omega
      have hx := digs_at u hu'
      unfold digs at hx
      go_enter Tryz.func134, Tryz.ntmps134
      go_wp2
      go_ret
      refine ⟨?_, Below.refl _ _⟩
      rw [hexK, if_pos hu']; rfl
    · have hl : ¬ (u : Int) < 16 := by omega
      obtain ⟨d, hd⟩ : ∃ d, u % 16 = d := ⟨_, rfl⟩
      obtain ⟨e, he⟩ : ∃ e, u / 16 = e := ⟨_, rfl⟩
      have hd16 : d < 16 := by omega
      have hx := digs_at d hd16
      unfold digs at hx
      have hm : (u : Int) % 16 = (d : Int) := by omega
      have hq : (u : Int) / 16 = (e : Int) := by omega
      have hd1 : (d : Int) < 16 := by omega
      have hd2 : (0 : Int) ≤ (d : Int) := by omega
      have hes : e < 16 ^ (g + 1) := by rw [← he]; rw [Nat.pow_succ] at hu; omega
      have hr : ∀ W : ClsW (AbW w), Calls Tryz.prog 134 #[.int .i64 (e : Int)] W.val fun x w' => x = .returned (.string ⟨(hexK g e).toArray⟩) ∧ Below W.val.heap.size W.val w' := fun W => ih e W.val (by omega) hes (by omega)
      have hk : hexK (g + 1) u = hexK g e ++ [hexD d] := by rw [hexK, if_neg hu', hd, he]
      have hle := hexK_len g e
      rw [hk]
      clear ih hk hd he hes hu hu'
      go_enter Tryz.func134, Tryz.ntmps134
      go_wp2
      refine wp_region_cls (AbW w) (by kernel_rfl) (by kernel_rfl) (AbW.drew w) ?_
      have hne := AbW.there w
      repeat (go_big_quiet_step ((go_at_call 134; rename_i u; with_reducible exact cls_call AbW.keep (hr u))))
      refine wpQuiet_nil ?_
      rintro U ⟨⟨U', hU⟩, hUe⟩
      obtain rfl : U = U' := hUe
      replace hU : Below w.heap.size w U := hU
      go_wp2_with fail
      go_ret
      exact ⟨congrArg (fun s => Ending.returned (.string s)) (ByteArray.mk_append_mk (hexK g e) [hexD d]), hU⟩

set_option maxRecDepth 100000 in
set_option maxHeartbeats 1000000 in
theorem rOne_any (r : Int) (h : ptB r = true) (w : World) :
    Calls Tryz.prog 96 #[.int .i32 r] w fun e w' => e = .returned (.string ⟨(wr r).toArray⟩) ∧ Below w.heap.size w w' := by
  have hb := numP_pt h
  by_cases h1 : 1114240 ≤ r
  · obtain ⟨m, hm⟩ : ∃ m : Nat, r - 1114112 = m := ⟨(r - 1114112).toNat, by omega⟩
    have ew : wr r = [92, 120] ++ hexK 5 m := by unfold wr; rw [if_pos (by omega), hm]; rfl
    rw [ew]
    have hL := hexK_len 5 m
    have hc := rhex_any 5 m w (by omega) (by omega) (by omega)
    clear ew h
    go_enter Tryz.func96, Tryz.ntmps96
    go_wp2_with (go_at_call 134; with_reducible refine hc.mono ?_; rintro e w1 ⟨rfl, hB⟩)
    go_ret
    exact ⟨congrArg (fun s => Ending.returned (.string s)) (ByteArray.mk_append_mk [92, 120] (hexK 5 m)), hB⟩
  · obtain ⟨m, rfl⟩ : ∃ m : Nat, r = m := ⟨r.toNat, by omega⟩
    have ew : wr (m : Int) = [92, 117, 123] ++ hexK 5 m ++ [125] := by unfold wr; rw [if_neg (by omega)]; rfl
    rw [ew]
    have hL := hexK_len 5 m
    have hc := rhex_any 5 m w (by omega) (by omega) (by omega)
    clear ew h
    go_enter Tryz.func96, Tryz.ntmps96
    go_wp2_with (go_at_call 134; with_reducible refine hc.mono ?_; rintro e w1 ⟨rfl, hB⟩)
    go_ret
    refine ⟨congrArg (fun s => Ending.returned (.string s)) ?_, hB⟩
    exact (congrArg (fun s => s ++ (⟨#[125]⟩ : ByteArray)) (ByteArray.mk_append_mk [92, 117, 123] (hexK 5 m))).trans (ByteArray.mk_append_mk ([92, 117, 123] ++ hexK 5 m) [125])
end Go.Proofs.YtmbjjheaddhmeaaGreatDoor

namespace Go.Proofs.YtmbjjheaddhmeaaGreatDoor
open Go.RowKit

def PtsS (l : List (Int × Int)) : Prop := ∀ x ∈ l, ptB x.1 = true ∧ ptB x.2 = true
theorem ptS_pts {L : List (Int × Int)} (h : NumR L) : PtsS (ptS L) := fun x hx => by
  obtain ⟨y, hy, rfl⟩ := List.mem_map.1 hx
  obtain ⟨h1, h2, h3, h4⟩ := h y hy
  exact ⟨(ptK_pt h1 h2).1, (ptK_pt h3 h4).1⟩
theorem pr_snoc (l : List (Int × Int)) (k : Nat) (hk : k < l.length) : 91 :: (l.take (k + 1)).flatMap sp1 = (91 :: (l.take k).flatMap sp1) ++ sp1 (l[k]?.getD (0, 0)) := by
  rw [List.take_succ_eq_append_getElem hk, List.flatMap_append, List.flatMap_cons, List.flatMap_nil, List.append_nil]; simp [hk]

set_option maxRecDepth 100000 in
set_option maxHeartbeats 4000000 in
theorem rPrint_any (v : Value) (L : List (Int × Int)) (w : World) (hv : Prs w v L) (hn : NumR L) (hl : L.length ≤ 1000000) :
    Calls Tryz.prog 43 #[.agg #[v]] w fun e w' => e = .returned (.string ⟨(printF (ptS L)).toArray⟩) ∧ Below w.heap.size w w' := by
  have HV := Lib.hid hv
  obtain ⟨a, c, rfl, hA⟩ := hv
  clear hA
  have hP := ptS_pts hn
  have b0 := (Below.refl w.heap.size w).alloc (Nat.le_refl _) (.cells #[.slice a L.length c] 33)
  have c0 : (w.alloc (.cells #[.slice a L.length c] 33)).cell? ⟨w.heap.size, 0, none⟩ = some (.slice a L.length c) := by simp
  have hs := rSpans_any (.slice a L.length c) L (w.alloc (.cells #[.slice a L.length c] 33)) (HV.out.below b0) hn hl
  have hlen := ptS_len L
  clear HV hn
  generalize ptS L = l at *
  go_enter Tryz.func43, Tryz.ntmps43
  go_wp2_with (go_at_call 41; with_reducible refine hs.mono ?_; clear hs; rintro e w1 ⟨xa, xc, rfl, hS, hB1⟩)
  have b1 := b0.trans (hB1.mono b0.size)
  clear b0 c0 hB1
  obtain ⟨V, rfl⟩ : ∃ V : World, V = w1 := ⟨_, rfl⟩
  rw [← hlen] at hS ⊢
  have hln : l.length ≤ 1000000 := by omega
  have HP := Lib.hid hP
  clear hP hl hlen
  obtain ⟨xa', xc', hxe, hA⟩ := hS
  obtain ⟨rfl, -, rfl⟩ : xa = xa' ∧ l.length = l.length ∧ xc = xc' := by injection hxe with h1 h2 h3; exact ⟨h1, rfl, h3⟩
  clear hxe
  go_upto_if 3 with (fail)
  go_loopg [3, 5] l.length (fun gk s i wr => ∃ (k : Nat) (acc : List UInt8), i = .int .i64 k ∧ s = .string ⟨acc.toArray⟩ ∧ k ≤ l.length ∧ l.length - k ≤ gk ∧ Hid (acc = 91 :: (l.take k).flatMap sp1) ∧ acc.length ≤ 1 + 25 * k ∧ Below V.heap.size V wr)
  case atStart => exact ⟨0, [91], rfl, rfl, by omega, by omega, rfl, by simp, Below.refl _ _⟩
  case round =>
    obtain ⟨k, acc, rfl, rfl, hk, hg, HE, hac, hb⟩ := hrel
    by_cases hkl : k < l.length
    · rcases hA with h | ⟨ba, oa, rfl, hA⟩
      · subst h; simp at hkl
      obtain ⟨a1, a2⟩ := hA k hkl
      have hT := pr_snoc l k hkl
      have hpp : PtsS [l[k]?.getD (0, 0)] := fun x hx => by
        obtain rfl : x = l[k]?.getD (0, 0) := by simpa using hx
        rw [List.getElem?_eq_getElem hkl, Option.getD_some]; exact HP.out _ (List.getElem_mem hkl)
      generalize l[k]?.getD (0, 0) = x at *
      obtain ⟨p, q⟩ := x
      obtain ⟨p1, p2⟩ := hpp (p, q) (by simp)
      dsimp only at a1 a2 p1 p2
      have a1' := (hb.cell (p := ⟨ba, oa + k * 2, none⟩) (cell_lt a1)).trans a1
      have a2' := (hb.cell (p := ⟨ba, oa + k * 2 + 1, none⟩) (cell_lt a2)).trans a2
      have q2 := cell_lt a2
      have hp := fun W => rOne_any p p1 W
      have hq := fun W => rOne_any q p2 W
      have hsp : sp1 (p, q) = Go.Proofs.YtmbjjheaddhmeaaGreatDoor.wr p ++ if p = q then [] else 45 :: Go.Proofs.YtmbjjheaddhmeaaGreatDoor.wr q := rfl
      have l1 := wr_len p
      have l2 := wr_len q
      rw [hsp] at hT
      generalize Go.Proofs.YtmbjjheaddhmeaaGreatDoor.wr p = bp at *
      generalize Go.Proofs.YtmbjjheaddhmeaaGreatDoor.wr q = bq at *
      have hkl' : (k : Int) < (l.length : Int) := by omega
      clear hA a1 hpp hsp p1 p2
      by_cases hpq : p = q
      · subst hpq
        rw [if_pos rfl, List.append_nil, ← HE.out] at hT
        have HT := Lib.hid hT
        have hne : (p != p) = false := by simp
        clear hT HE
        go_wp2_with (go_at_call 96; with_reducible refine (hp _).mono ?_; rintro e w2 ⟨rfl, hB2⟩; have c1 := (hB2.cell (p := ⟨ba, oa + k * 2, none⟩) (Nat.lt_of_lt_of_le (Nat.lt_of_lt_of_le q2 (Nat.le_refl _)) hb.size)).trans a1'; have c2 := (hB2.cell (p := ⟨ba, oa + k * 2 + 1, none⟩) (Nat.lt_of_lt_of_le q2 hb.size)).trans a2')
        go_quiet (fail)
        go_wp2
        go_roundg (gk - 1)
        case measure => omega
        case rel => exact ⟨k + 1, acc ++ bp, by go_num, congrArg Value.string (ByteArray.mk_append_mk acc bp), by omega, by omega, HT.out.symm, by simp; omega, below_drewN (hb.trans (hB2.mono hb.size)) _⟩
      · rw [if_neg hpq] at hT
        have hT2 : 91 :: (l.take (k + 1)).flatMap sp1 = ((acc ++ bp) ++ [45]) ++ bq := by rw [hT, ← HE.out]; simp
        have HT := Lib.hid hT2
        have hne : (q != p) = true := by simp; exact fun h => hpq h.symm
        clear hT hT2 HE
        go_wp2_with (go_at_call 96; with_reducible refine (hp _).mono ?_; rintro e w2 ⟨rfl, hB2⟩; have c1 := (hB2.cell (p := ⟨ba, oa + k * 2, none⟩) (Nat.lt_of_lt_of_le (Nat.lt_of_lt_of_le q2 (Nat.le_refl _)) hb.size)).trans a1'; have c2 := (hB2.cell (p := ⟨ba, oa + k * 2 + 1, none⟩) (Nat.lt_of_lt_of_le q2 hb.size)).trans a2')
        go_quiet (fail)
        go_wp2_with (go_at_call 96; with_reducible refine (hq _).mono ?_; rintro e w3 ⟨rfl, hB3⟩)
        go_roundg (gk - 1)
        case measure => omega
        case rel =>
          refine ⟨k + 1, ((acc ++ bp) ++ [45]) ++ bq, by go_num, congrArg Value.string ?_, by omega, by omega, HT.out.symm, by simp; omega, (below_drewN (hb.trans (hB2.mono hb.size)) nq).trans (hB3.mono (below_drewN (hb.trans (hB2.mono hb.size)) nq).size)⟩
          rw [ByteArray.mk_append_mk acc bp, show (⟨#[45]⟩ : ByteArray) = ⟨[45].toArray⟩ from rfl, ByteArray.mk_append_mk, ByteArray.mk_append_mk]
    · obtain rfl : k = l.length := by omega
      have hE := HE.out
      rw [List.take_length] at hE
      have HE2 := Lib.hid hE
      clear hA hE HE
      go_wp2
      go_ret
      refine ⟨congrArg (fun s => Ending.returned (.string s)) ?_, b1.trans (hb.mono b1.size)⟩
      rw [HE2.out]
      exact ByteArray.mk_append_mk _ [93]
end Go.Proofs.YtmbjjheaddhmeaaGreatDoor
