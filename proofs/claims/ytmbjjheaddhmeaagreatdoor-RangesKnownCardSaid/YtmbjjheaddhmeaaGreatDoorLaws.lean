/- RangesLaws. -/
import Derived.Test.YtmbjjheaddhmeaaGreatDoorDbOk
namespace Go.Proofs.YtmbjjheaddhmeaaGreatDoor
open Go.RowKit

theorem Spans.of_below {w w' : World} {v : Value} {l : List (Int × Int)} (hb : Below w.heap.size w w') (h : Spans w v l) : Spans w' v l := h.below hb

theorem kd_facts : ∃ kd : (Int → Bool) → Int, (∀ P, kard P 1112192 = kd P) ∧ (∀ P, kd P + kd (fun r => !P r) = 1112192) ∧ (∀ P Q, kd (fun r => P r || Q r) + kd (fun r => P r && Q r) = kd P + kd Q) ∧ ∀ P, 0 ≤ kd P ∧ kd P ≤ 1112192 := by
  have h0 : ∀ (P : Int → Bool) (n : Nat), 0 ≤ kard P n ∧ kard P n ≤ n := by
    intro P n
    induction n with
    | zero => exact ⟨Int.le_refl _, Int.le_refl _⟩
    | succ n ih => rw [kard]; split <;> omega
  exact ⟨fun P => kard P 1112192, fun _ => rfl, fun P => kard_not P _, fun P Q => kard_or_and P Q _, fun P => h0 P _⟩

theorem same_ret {p q : Value} {P Q : Int → Bool} {k j : Nat} {w : World} (hp : Rep w p P k) (hq : Rep w q Q j) (hk : k + j ≤ 90000) (h : ∀ r, P r = Q r) (hd : DbOk w) : Calls Tryz.prog 126 #[p, q] w fun e w' => e = .returned (.bool true) ∧ Below w.heap.size w w' := same_rep hp hq hk h hd.1 hd.2
theorem has_ret {p : Value} {P : Int → Bool} {k : Nat} {w : World} {r : Int} {x y : Bool} (hp : Rep w p P k) (hk : k ≤ 90000) (h0 : -2147483648 ≤ r) (h1 : r ≤ 2147483647) (hy : ptB r = y) (hx : P (numP r) = x) : Calls Tryz.prog 39 #[p, .int .i32 r] w fun e w' => e = .returned (.bool (y && x)) ∧ Below w.heap.size w w' := by
  subst hy hx; exact has_rep hp hk h0 h1

set_option maxRecDepth 100000 in
set_option maxHeartbeats 8000000 in
theorem laws_loc0 {r : Int} (hloc : r < 0) {v1 v2 v3 : Value} {l m n : List (Int × Int)} {w : World} (h1 : Spans w v1 l) (h2 : Spans w v2 m) (h3 : Spans w v3 n) (hr0 : -2147483648 ≤ r) (hr1 : r ≤ 2147483647) (hd : DbOk w) :
    Calls Tryz.prog 80 #[v1, v2, v3, .int .i32 r] w fun e w' => e = .returned (.bool true) ∧ Below w.heap.size w w' := by
  obtain ⟨kd, hkd, hnot, hor, hkb⟩ := kd_facts
  have HK := Lib.hid hkd
  have HN := Lib.hid hnot
  have HO := Lib.hid hor
  have HB := Lib.hid hkb
  clear hkd hnot hor hkb
  obtain ⟨x1, x2, x3, hv1⟩ : ∃ a b c, v1 = .slice a b c := by obtain ⟨a, c, rfl, _⟩ := h1; exact ⟨_, _, _, rfl⟩
  obtain ⟨y1, y2, y3, hv2⟩ : ∃ a b c, v2 = .slice a b c := by obtain ⟨a, c, rfl, _⟩ := h2; exact ⟨_, _, _, rfl⟩
  obtain ⟨z1, z2, z3, hv3⟩ : ∃ a b c, v3 = .slice a b c := by obtain ⟨a, c, rfl, _⟩ := h3; exact ⟨_, _, _, rfl⟩
  subst hv1 hv2 hv3
  have EHP : Hid (ptB r = false) := by show ptB r = _; unfold ptB; simp; omega
  go_enter Tryz.func80, Tryz.ntmps80
  go_wp2_with (first
    | (go_at_call 18; refine (join_ret (P := ?_) (Q := ?_) (k := ?_) (j := ?_) ?_ ?_ ?_).mono ?_; rotate_left 4; (· (repeat (first | with_reducible assumption | (refine Rep.below (w := ?_) ?_ ?_; rotate_left; (· with_reducible assumption))))); (· (repeat (first | with_reducible assumption | (refine Rep.below (w := ?_) ?_ ?_; rotate_left; (· with_reducible assumption))))); (· omega); rintro e wn ⟨b, rfl, hR, hB⟩)
    | (go_at_call 20; refine (both_ret (P := ?_) (Q := ?_) (k := ?_) (j := ?_) ?_ ?_ ?_).mono ?_; rotate_left 4; (· (repeat (first | with_reducible assumption | (refine Rep.below (w := ?_) ?_ ?_; rotate_left; (· with_reducible assumption))))); (· (repeat (first | with_reducible assumption | (refine Rep.below (w := ?_) ?_ ?_; rotate_left; (· with_reducible assumption))))); (· omega); rintro e wn ⟨b, rfl, hR, hB⟩)
    | (go_at_call 22; refine (less_ret (P := ?_) (Q := ?_) (k := ?_) (j := ?_) ?_ ?_ ?_).mono ?_; rotate_left 4; (· (repeat (first | with_reducible assumption | (refine Rep.below (w := ?_) ?_ ?_; rotate_left; (· with_reducible assumption))))); (· (repeat (first | with_reducible assumption | (refine Rep.below (w := ?_) ?_ ?_; rotate_left; (· with_reducible assumption))))); (· omega); rintro e wn ⟨b, rfl, hR, hB⟩)
    | (go_at_call 126; refine (same_ret (P := ?_) (Q := ?_) (k := ?_) (j := ?_) ?_ ?_ ?_ ?_ ?_).mono ?_; rotate_left 4; (· (repeat (first | with_reducible assumption | (refine Rep.below (w := ?_) ?_ ?_; rotate_left; (· with_reducible assumption))))); (· (repeat (first | with_reducible assumption | (refine Rep.below (w := ?_) ?_ ?_; rotate_left; (· with_reducible assumption))))); (· omega); (· intro r; first | rfl | ((try dsimp only); cases A r <;> cases B r <;> cases C r <;> rfl)); (· (repeat (first | with_reducible assumption | (refine DbOk.below (w := ?_) ?_ ?_; rotate_left; (· with_reducible assumption))))); rintro e wn ⟨rfl, hB⟩)
    | (go_at_call 38; refine (count_rep (P := ?_) (k := ?_) ?_ ?_).mono ?_; rotate_left 2; (· (repeat (first | with_reducible assumption | (refine Rep.below (w := ?_) ?_ ?_; rotate_left; (· with_reducible assumption))))); (· omega); rw [HK.out]; rintro e wn ⟨rfl, hB⟩)
    | (go_at_call 39; refine (has_ret (P := ?_) (k := ?_) (x := ?_) (y := ?_) ?_ ?_ hr0 hr1 ?_ ?_).mono ?_; rotate_left 4; (· (repeat (first | with_reducible assumption | (refine Rep.below (w := ?_) ?_ ?_; rotate_left; (· with_reducible assumption))))); (· omega); (· exact EHP.out); (· first | exact eha | exact ehb | exact congrArg not eha | exact congr (congrArg and eha) ehb); rintro e wn ⟨rfl, hB⟩; (first | (have hcase : false = true := rfl; cases ha <;> cases hb) | skip))
    | (go_at_call 24; refine (not_ret (P := ?_) (k := ?_) ?_ ?_).mono ?_; rotate_left 2; (· (repeat (first | with_reducible assumption | (refine Rep.below (w := ?_) ?_ ?_; rotate_left; (· with_reducible assumption))))); (· omega); rintro e wn ⟨b, rfl, hR, hB⟩)
    | (go_at_call 12; have d5 : DbOk w3 := DbOk.below hB3 (DbOk.below hB2 (DbOk.below hB1 hd)); refine (works_any d5.1 d5.2).mono ?_; rintro e w4 ⟨rfl, hB4⟩; have q1 := HB.out A; have q2 := HB.out B; have q3 := HB.out (fun r => !A r); have q4 := HB.out (fun r => A r || B r); have q5 := HB.out (fun r => A r && B r); have q6 := HN.out A; have q7 := HO.out A B; obtain ⟨ha, eha⟩ : ∃ ha, A (numP r) = ha := ⟨_, rfl⟩; obtain ⟨hb, ehb⟩ : ∃ hb, B (numP r) = hb := ⟨_, rfl⟩)
    | (go_at_call 125; refine (some_rep ((h3.below hB1).below hB2)).mono ?_; rintro e w3 ⟨p3, C, rfl, hR3, hB3⟩; obtain ⟨b3, rfl⟩ := hR3.ptr)
    | (go_at_call 125; refine (some_rep (h2.below hB1)).mono ?_; rintro e w2 ⟨p2, B, rfl, hR2, hB2⟩; obtain ⟨b2, rfl⟩ := hR2.ptr)
    | (go_at_call 125; refine (some_rep h1).mono ?_; rintro e w1 ⟨p1, A, rfl, hR1, hB1⟩; obtain ⟨b1, rfl⟩ := hR1.ptr))
  all_goals
    go_ret
    refine ⟨(by first | rfl | exact ret_b (by simp; omega)), ?_⟩
    (repeat (first | with_reducible assumption | exact Below.refl _ _ | (refine below_snoc (w := ?_) ?_ ?_; rotate_right; (· with_reducible assumption))))
set_option maxRecDepth 100000 in
set_option maxHeartbeats 8000000 in
theorem laws_loc1 {r : Int} (hloc : 0 ≤ r ∧ r < 55296) {v1 v2 v3 : Value} {l m n : List (Int × Int)} {w : World} (h1 : Spans w v1 l) (h2 : Spans w v2 m) (h3 : Spans w v3 n) (hr0 : -2147483648 ≤ r) (hr1 : r ≤ 2147483647) (hd : DbOk w) :
    Calls Tryz.prog 80 #[v1, v2, v3, .int .i32 r] w fun e w' => e = .returned (.bool true) ∧ Below w.heap.size w w' := by
  obtain ⟨kd, hkd, hnot, hor, hkb⟩ := kd_facts
  have HK := Lib.hid hkd
  have HN := Lib.hid hnot
  have HO := Lib.hid hor
  have HB := Lib.hid hkb
  clear hkd hnot hor hkb
  obtain ⟨x1, x2, x3, hv1⟩ : ∃ a b c, v1 = .slice a b c := by obtain ⟨a, c, rfl, _⟩ := h1; exact ⟨_, _, _, rfl⟩
  obtain ⟨y1, y2, y3, hv2⟩ : ∃ a b c, v2 = .slice a b c := by obtain ⟨a, c, rfl, _⟩ := h2; exact ⟨_, _, _, rfl⟩
  obtain ⟨z1, z2, z3, hv3⟩ : ∃ a b c, v3 = .slice a b c := by obtain ⟨a, c, rfl, _⟩ := h3; exact ⟨_, _, _, rfl⟩
  subst hv1 hv2 hv3
  have EHP : Hid (ptB r = true) := by show ptB r = _; unfold ptB; simp; omega
  go_enter Tryz.func80, Tryz.ntmps80
  go_wp2_with (first
    | (go_at_call 18; refine (join_ret (P := ?_) (Q := ?_) (k := ?_) (j := ?_) ?_ ?_ ?_).mono ?_; rotate_left 4; (· (repeat (first | with_reducible assumption | (refine Rep.below (w := ?_) ?_ ?_; rotate_left; (· with_reducible assumption))))); (· (repeat (first | with_reducible assumption | (refine Rep.below (w := ?_) ?_ ?_; rotate_left; (· with_reducible assumption))))); (· omega); rintro e wn ⟨b, rfl, hR, hB⟩)
    | (go_at_call 20; refine (both_ret (P := ?_) (Q := ?_) (k := ?_) (j := ?_) ?_ ?_ ?_).mono ?_; rotate_left 4; (· (repeat (first | with_reducible assumption | (refine Rep.below (w := ?_) ?_ ?_; rotate_left; (· with_reducible assumption))))); (· (repeat (first | with_reducible assumption | (refine Rep.below (w := ?_) ?_ ?_; rotate_left; (· with_reducible assumption))))); (· omega); rintro e wn ⟨b, rfl, hR, hB⟩)
    | (go_at_call 22; refine (less_ret (P := ?_) (Q := ?_) (k := ?_) (j := ?_) ?_ ?_ ?_).mono ?_; rotate_left 4; (· (repeat (first | with_reducible assumption | (refine Rep.below (w := ?_) ?_ ?_; rotate_left; (· with_reducible assumption))))); (· (repeat (first | with_reducible assumption | (refine Rep.below (w := ?_) ?_ ?_; rotate_left; (· with_reducible assumption))))); (· omega); rintro e wn ⟨b, rfl, hR, hB⟩)
    | (go_at_call 126; refine (same_ret (P := ?_) (Q := ?_) (k := ?_) (j := ?_) ?_ ?_ ?_ ?_ ?_).mono ?_; rotate_left 4; (· (repeat (first | with_reducible assumption | (refine Rep.below (w := ?_) ?_ ?_; rotate_left; (· with_reducible assumption))))); (· (repeat (first | with_reducible assumption | (refine Rep.below (w := ?_) ?_ ?_; rotate_left; (· with_reducible assumption))))); (· omega); (· intro r; first | rfl | ((try dsimp only); cases A r <;> cases B r <;> cases C r <;> rfl)); (· (repeat (first | with_reducible assumption | (refine DbOk.below (w := ?_) ?_ ?_; rotate_left; (· with_reducible assumption))))); rintro e wn ⟨rfl, hB⟩)
    | (go_at_call 38; refine (count_rep (P := ?_) (k := ?_) ?_ ?_).mono ?_; rotate_left 2; (· (repeat (first | with_reducible assumption | (refine Rep.below (w := ?_) ?_ ?_; rotate_left; (· with_reducible assumption))))); (· omega); rw [HK.out]; rintro e wn ⟨rfl, hB⟩)
    | (go_at_call 39; refine (has_ret (P := ?_) (k := ?_) (x := ?_) (y := ?_) ?_ ?_ hr0 hr1 ?_ ?_).mono ?_; rotate_left 4; (· (repeat (first | with_reducible assumption | (refine Rep.below (w := ?_) ?_ ?_; rotate_left; (· with_reducible assumption))))); (· omega); (· exact EHP.out); (· first | exact eha | exact ehb | exact congrArg not eha | exact congr (congrArg and eha) ehb); rintro e wn ⟨rfl, hB⟩; (first | (have hcase : true = true := rfl; cases ha <;> cases hb) | skip))
    | (go_at_call 24; refine (not_ret (P := ?_) (k := ?_) ?_ ?_).mono ?_; rotate_left 2; (· (repeat (first | with_reducible assumption | (refine Rep.below (w := ?_) ?_ ?_; rotate_left; (· with_reducible assumption))))); (· omega); rintro e wn ⟨b, rfl, hR, hB⟩)
    | (go_at_call 12; have d5 : DbOk w3 := DbOk.below hB3 (DbOk.below hB2 (DbOk.below hB1 hd)); refine (works_any d5.1 d5.2).mono ?_; rintro e w4 ⟨rfl, hB4⟩; have q1 := HB.out A; have q2 := HB.out B; have q3 := HB.out (fun r => !A r); have q4 := HB.out (fun r => A r || B r); have q5 := HB.out (fun r => A r && B r); have q6 := HN.out A; have q7 := HO.out A B; obtain ⟨ha, eha⟩ : ∃ ha, A (numP r) = ha := ⟨_, rfl⟩; obtain ⟨hb, ehb⟩ : ∃ hb, B (numP r) = hb := ⟨_, rfl⟩)
    | (go_at_call 125; refine (some_rep ((h3.below hB1).below hB2)).mono ?_; rintro e w3 ⟨p3, C, rfl, hR3, hB3⟩; obtain ⟨b3, rfl⟩ := hR3.ptr)
    | (go_at_call 125; refine (some_rep (h2.below hB1)).mono ?_; rintro e w2 ⟨p2, B, rfl, hR2, hB2⟩; obtain ⟨b2, rfl⟩ := hR2.ptr)
    | (go_at_call 125; refine (some_rep h1).mono ?_; rintro e w1 ⟨p1, A, rfl, hR1, hB1⟩; obtain ⟨b1, rfl⟩ := hR1.ptr))
  all_goals
    go_ret
    refine ⟨(by first | rfl | exact ret_b (by simp; omega)), ?_⟩
    (repeat (first | with_reducible assumption | exact Below.refl _ _ | (refine below_snoc (w := ?_) ?_ ?_; rotate_right; (· with_reducible assumption))))
set_option maxRecDepth 100000 in
set_option maxHeartbeats 8000000 in
theorem laws_loc2 {r : Int} (hloc : 55296 ≤ r ∧ r < 57344) {v1 v2 v3 : Value} {l m n : List (Int × Int)} {w : World} (h1 : Spans w v1 l) (h2 : Spans w v2 m) (h3 : Spans w v3 n) (hr0 : -2147483648 ≤ r) (hr1 : r ≤ 2147483647) (hd : DbOk w) :
    Calls Tryz.prog 80 #[v1, v2, v3, .int .i32 r] w fun e w' => e = .returned (.bool true) ∧ Below w.heap.size w w' := by
  obtain ⟨kd, hkd, hnot, hor, hkb⟩ := kd_facts
  have HK := Lib.hid hkd
  have HN := Lib.hid hnot
  have HO := Lib.hid hor
  have HB := Lib.hid hkb
  clear hkd hnot hor hkb
  obtain ⟨x1, x2, x3, hv1⟩ : ∃ a b c, v1 = .slice a b c := by obtain ⟨a, c, rfl, _⟩ := h1; exact ⟨_, _, _, rfl⟩
  obtain ⟨y1, y2, y3, hv2⟩ : ∃ a b c, v2 = .slice a b c := by obtain ⟨a, c, rfl, _⟩ := h2; exact ⟨_, _, _, rfl⟩
  obtain ⟨z1, z2, z3, hv3⟩ : ∃ a b c, v3 = .slice a b c := by obtain ⟨a, c, rfl, _⟩ := h3; exact ⟨_, _, _, rfl⟩
  subst hv1 hv2 hv3
  have EHP : Hid (ptB r = false) := by show ptB r = _; unfold ptB; simp; omega
  go_enter Tryz.func80, Tryz.ntmps80
  go_wp2_with (first
    | (go_at_call 18; refine (join_ret (P := ?_) (Q := ?_) (k := ?_) (j := ?_) ?_ ?_ ?_).mono ?_; rotate_left 4; (· (repeat (first | with_reducible assumption | (refine Rep.below (w := ?_) ?_ ?_; rotate_left; (· with_reducible assumption))))); (· (repeat (first | with_reducible assumption | (refine Rep.below (w := ?_) ?_ ?_; rotate_left; (· with_reducible assumption))))); (· omega); rintro e wn ⟨b, rfl, hR, hB⟩)
    | (go_at_call 20; refine (both_ret (P := ?_) (Q := ?_) (k := ?_) (j := ?_) ?_ ?_ ?_).mono ?_; rotate_left 4; (· (repeat (first | with_reducible assumption | (refine Rep.below (w := ?_) ?_ ?_; rotate_left; (· with_reducible assumption))))); (· (repeat (first | with_reducible assumption | (refine Rep.below (w := ?_) ?_ ?_; rotate_left; (· with_reducible assumption))))); (· omega); rintro e wn ⟨b, rfl, hR, hB⟩)
    | (go_at_call 22; refine (less_ret (P := ?_) (Q := ?_) (k := ?_) (j := ?_) ?_ ?_ ?_).mono ?_; rotate_left 4; (· (repeat (first | with_reducible assumption | (refine Rep.below (w := ?_) ?_ ?_; rotate_left; (· with_reducible assumption))))); (· (repeat (first | with_reducible assumption | (refine Rep.below (w := ?_) ?_ ?_; rotate_left; (· with_reducible assumption))))); (· omega); rintro e wn ⟨b, rfl, hR, hB⟩)
    | (go_at_call 126; refine (same_ret (P := ?_) (Q := ?_) (k := ?_) (j := ?_) ?_ ?_ ?_ ?_ ?_).mono ?_; rotate_left 4; (· (repeat (first | with_reducible assumption | (refine Rep.below (w := ?_) ?_ ?_; rotate_left; (· with_reducible assumption))))); (· (repeat (first | with_reducible assumption | (refine Rep.below (w := ?_) ?_ ?_; rotate_left; (· with_reducible assumption))))); (· omega); (· intro r; first | rfl | ((try dsimp only); cases A r <;> cases B r <;> cases C r <;> rfl)); (· (repeat (first | with_reducible assumption | (refine DbOk.below (w := ?_) ?_ ?_; rotate_left; (· with_reducible assumption))))); rintro e wn ⟨rfl, hB⟩)
    | (go_at_call 38; refine (count_rep (P := ?_) (k := ?_) ?_ ?_).mono ?_; rotate_left 2; (· (repeat (first | with_reducible assumption | (refine Rep.below (w := ?_) ?_ ?_; rotate_left; (· with_reducible assumption))))); (· omega); rw [HK.out]; rintro e wn ⟨rfl, hB⟩)
    | (go_at_call 39; refine (has_ret (P := ?_) (k := ?_) (x := ?_) (y := ?_) ?_ ?_ hr0 hr1 ?_ ?_).mono ?_; rotate_left 4; (· (repeat (first | with_reducible assumption | (refine Rep.below (w := ?_) ?_ ?_; rotate_left; (· with_reducible assumption))))); (· omega); (· exact EHP.out); (· first | exact eha | exact ehb | exact congrArg not eha | exact congr (congrArg and eha) ehb); rintro e wn ⟨rfl, hB⟩; (first | (have hcase : false = true := rfl; cases ha <;> cases hb) | skip))
    | (go_at_call 24; refine (not_ret (P := ?_) (k := ?_) ?_ ?_).mono ?_; rotate_left 2; (· (repeat (first | with_reducible assumption | (refine Rep.below (w := ?_) ?_ ?_; rotate_left; (· with_reducible assumption))))); (· omega); rintro e wn ⟨b, rfl, hR, hB⟩)
    | (go_at_call 12; have d5 : DbOk w3 := DbOk.below hB3 (DbOk.below hB2 (DbOk.below hB1 hd)); refine (works_any d5.1 d5.2).mono ?_; rintro e w4 ⟨rfl, hB4⟩; have q1 := HB.out A; have q2 := HB.out B; have q3 := HB.out (fun r => !A r); have q4 := HB.out (fun r => A r || B r); have q5 := HB.out (fun r => A r && B r); have q6 := HN.out A; have q7 := HO.out A B; obtain ⟨ha, eha⟩ : ∃ ha, A (numP r) = ha := ⟨_, rfl⟩; obtain ⟨hb, ehb⟩ : ∃ hb, B (numP r) = hb := ⟨_, rfl⟩)
    | (go_at_call 125; refine (some_rep ((h3.below hB1).below hB2)).mono ?_; rintro e w3 ⟨p3, C, rfl, hR3, hB3⟩; obtain ⟨b3, rfl⟩ := hR3.ptr)
    | (go_at_call 125; refine (some_rep (h2.below hB1)).mono ?_; rintro e w2 ⟨p2, B, rfl, hR2, hB2⟩; obtain ⟨b2, rfl⟩ := hR2.ptr)
    | (go_at_call 125; refine (some_rep h1).mono ?_; rintro e w1 ⟨p1, A, rfl, hR1, hB1⟩; obtain ⟨b1, rfl⟩ := hR1.ptr))
  all_goals
    go_ret
    refine ⟨(by first | rfl | exact ret_b (by simp; omega)), ?_⟩
    (repeat (first | with_reducible assumption | exact Below.refl _ _ | (refine below_snoc (w := ?_) ?_ ?_; rotate_right; (· with_reducible assumption))))
set_option maxRecDepth 100000 in
set_option maxHeartbeats 8000000 in
theorem laws_loc3 {r : Int} (hloc : 57344 ≤ r ∧ r ≤ 1114111) {v1 v2 v3 : Value} {l m n : List (Int × Int)} {w : World} (h1 : Spans w v1 l) (h2 : Spans w v2 m) (h3 : Spans w v3 n) (hr0 : -2147483648 ≤ r) (hr1 : r ≤ 2147483647) (hd : DbOk w) :
    Calls Tryz.prog 80 #[v1, v2, v3, .int .i32 r] w fun e w' => e = .returned (.bool true) ∧ Below w.heap.size w w' := by
  obtain ⟨kd, hkd, hnot, hor, hkb⟩ := kd_facts
  have HK := Lib.hid hkd
  have HN := Lib.hid hnot
  have HO := Lib.hid hor
  have HB := Lib.hid hkb
  clear hkd hnot hor hkb
  obtain ⟨x1, x2, x3, hv1⟩ : ∃ a b c, v1 = .slice a b c := by obtain ⟨a, c, rfl, _⟩ := h1; exact ⟨_, _, _, rfl⟩
  obtain ⟨y1, y2, y3, hv2⟩ : ∃ a b c, v2 = .slice a b c := by obtain ⟨a, c, rfl, _⟩ := h2; exact ⟨_, _, _, rfl⟩
  obtain ⟨z1, z2, z3, hv3⟩ : ∃ a b c, v3 = .slice a b c := by obtain ⟨a, c, rfl, _⟩ := h3; exact ⟨_, _, _, rfl⟩
  subst hv1 hv2 hv3
  have EHP : Hid (ptB r = true) := by show ptB r = _; unfold ptB; simp; omega
  go_enter Tryz.func80, Tryz.ntmps80
  go_wp2_with (first
    | (go_at_call 18; refine (join_ret (P := ?_) (Q := ?_) (k := ?_) (j := ?_) ?_ ?_ ?_).mono ?_; rotate_left 4; (· (repeat (first | with_reducible assumption | (refine Rep.below (w := ?_) ?_ ?_; rotate_left; (· with_reducible assumption))))); (· (repeat (first | with_reducible assumption | (refine Rep.below (w := ?_) ?_ ?_; rotate_left; (· with_reducible assumption))))); (· omega); rintro e wn ⟨b, rfl, hR, hB⟩)
    | (go_at_call 20; refine (both_ret (P := ?_) (Q := ?_) (k := ?_) (j := ?_) ?_ ?_ ?_).mono ?_; rotate_left 4; (· (repeat (first | with_reducible assumption | (refine Rep.below (w := ?_) ?_ ?_; rotate_left; (· with_reducible assumption))))); (· (repeat (first | with_reducible assumption | (refine Rep.below (w := ?_) ?_ ?_; rotate_left; (· with_reducible assumption))))); (· omega); rintro e wn ⟨b, rfl, hR, hB⟩)
    | (go_at_call 22; refine (less_ret (P := ?_) (Q := ?_) (k := ?_) (j := ?_) ?_ ?_ ?_).mono ?_; rotate_left 4; (· (repeat (first | with_reducible assumption | (refine Rep.below (w := ?_) ?_ ?_; rotate_left; (· with_reducible assumption))))); (· (repeat (first | with_reducible assumption | (refine Rep.below (w := ?_) ?_ ?_; rotate_left; (· with_reducible assumption))))); (· omega); rintro e wn ⟨b, rfl, hR, hB⟩)
    | (go_at_call 126; refine (same_ret (P := ?_) (Q := ?_) (k := ?_) (j := ?_) ?_ ?_ ?_ ?_ ?_).mono ?_; rotate_left 4; (· (repeat (first | with_reducible assumption | (refine Rep.below (w := ?_) ?_ ?_; rotate_left; (· with_reducible assumption))))); (· (repeat (first | with_reducible assumption | (refine Rep.below (w := ?_) ?_ ?_; rotate_left; (· with_reducible assumption))))); (· omega); (· intro r; first | rfl | ((try dsimp only); cases A r <;> cases B r <;> cases C r <;> rfl)); (· (repeat (first | with_reducible assumption | (refine DbOk.below (w := ?_) ?_ ?_; rotate_left; (· with_reducible assumption))))); rintro e wn ⟨rfl, hB⟩)
    | (go_at_call 38; refine (count_rep (P := ?_) (k := ?_) ?_ ?_).mono ?_; rotate_left 2; (· (repeat (first | with_reducible assumption | (refine Rep.below (w := ?_) ?_ ?_; rotate_left; (· with_reducible assumption))))); (· omega); rw [HK.out]; rintro e wn ⟨rfl, hB⟩)
    | (go_at_call 39; refine (has_ret (P := ?_) (k := ?_) (x := ?_) (y := ?_) ?_ ?_ hr0 hr1 ?_ ?_).mono ?_; rotate_left 4; (· (repeat (first | with_reducible assumption | (refine Rep.below (w := ?_) ?_ ?_; rotate_left; (· with_reducible assumption))))); (· omega); (· exact EHP.out); (· first | exact eha | exact ehb | exact congrArg not eha | exact congr (congrArg and eha) ehb); rintro e wn ⟨rfl, hB⟩; (first | (have hcase : true = true := rfl; cases ha <;> cases hb) | skip))
    | (go_at_call 24; refine (not_ret (P := ?_) (k := ?_) ?_ ?_).mono ?_; rotate_left 2; (· (repeat (first | with_reducible assumption | (refine Rep.below (w := ?_) ?_ ?_; rotate_left; (· with_reducible assumption))))); (· omega); rintro e wn ⟨b, rfl, hR, hB⟩)
    | (go_at_call 12; have d5 : DbOk w3 := DbOk.below hB3 (DbOk.below hB2 (DbOk.below hB1 hd)); refine (works_any d5.1 d5.2).mono ?_; rintro e w4 ⟨rfl, hB4⟩; have q1 := HB.out A; have q2 := HB.out B; have q3 := HB.out (fun r => !A r); have q4 := HB.out (fun r => A r || B r); have q5 := HB.out (fun r => A r && B r); have q6 := HN.out A; have q7 := HO.out A B; obtain ⟨ha, eha⟩ : ∃ ha, A (numP r) = ha := ⟨_, rfl⟩; obtain ⟨hb, ehb⟩ : ∃ hb, B (numP r) = hb := ⟨_, rfl⟩)
    | (go_at_call 125; refine (some_rep ((h3.below hB1).below hB2)).mono ?_; rintro e w3 ⟨p3, C, rfl, hR3, hB3⟩; obtain ⟨b3, rfl⟩ := hR3.ptr)
    | (go_at_call 125; refine (some_rep (h2.below hB1)).mono ?_; rintro e w2 ⟨p2, B, rfl, hR2, hB2⟩; obtain ⟨b2, rfl⟩ := hR2.ptr)
    | (go_at_call 125; refine (some_rep h1).mono ?_; rintro e w1 ⟨p1, A, rfl, hR1, hB1⟩; obtain ⟨b1, rfl⟩ := hR1.ptr))
  all_goals
    go_ret
    refine ⟨(by first | rfl | exact ret_b (by simp; omega)), ?_⟩
    (repeat (first | with_reducible assumption | exact Below.refl _ _ | (refine below_snoc (w := ?_) ?_ ?_; rotate_right; (· with_reducible assumption))))
set_option maxRecDepth 100000 in
set_option maxHeartbeats 8000000 in
theorem laws_loc4 {r : Int} (hloc : 1114112 ≤ r ∧ r < 1114240) {v1 v2 v3 : Value} {l m n : List (Int × Int)} {w : World} (h1 : Spans w v1 l) (h2 : Spans w v2 m) (h3 : Spans w v3 n) (hr0 : -2147483648 ≤ r) (hr1 : r ≤ 2147483647) (hd : DbOk w) :
    Calls Tryz.prog 80 #[v1, v2, v3, .int .i32 r] w fun e w' => e = .returned (.bool true) ∧ Below w.heap.size w w' := by
  obtain ⟨kd, hkd, hnot, hor, hkb⟩ := kd_facts
  have HK := Lib.hid hkd
  have HN := Lib.hid hnot
  have HO := Lib.hid hor
  have HB := Lib.hid hkb
  clear hkd hnot hor hkb
  obtain ⟨x1, x2, x3, hv1⟩ : ∃ a b c, v1 = .slice a b c := by obtain ⟨a, c, rfl, _⟩ := h1; exact ⟨_, _, _, rfl⟩
  obtain ⟨y1, y2, y3, hv2⟩ : ∃ a b c, v2 = .slice a b c := by obtain ⟨a, c, rfl, _⟩ := h2; exact ⟨_, _, _, rfl⟩
  obtain ⟨z1, z2, z3, hv3⟩ : ∃ a b c, v3 = .slice a b c := by obtain ⟨a, c, rfl, _⟩ := h3; exact ⟨_, _, _, rfl⟩
  subst hv1 hv2 hv3
  have EHP : Hid (ptB r = false) := by show ptB r = _; unfold ptB; simp; omega
  go_enter Tryz.func80, Tryz.ntmps80
  go_wp2_with (first
    | (go_at_call 18; refine (join_ret (P := ?_) (Q := ?_) (k := ?_) (j := ?_) ?_ ?_ ?_).mono ?_; rotate_left 4; (· (repeat (first | with_reducible assumption | (refine Rep.below (w := ?_) ?_ ?_; rotate_left; (· with_reducible assumption))))); (· (repeat (first | with_reducible assumption | (refine Rep.below (w := ?_) ?_ ?_; rotate_left; (· with_reducible assumption))))); (· omega); rintro e wn ⟨b, rfl, hR, hB⟩)
    | (go_at_call 20; refine (both_ret (P := ?_) (Q := ?_) (k := ?_) (j := ?_) ?_ ?_ ?_).mono ?_; rotate_left 4; (· (repeat (first | with_reducible assumption | (refine Rep.below (w := ?_) ?_ ?_; rotate_left; (· with_reducible assumption))))); (· (repeat (first | with_reducible assumption | (refine Rep.below (w := ?_) ?_ ?_; rotate_left; (· with_reducible assumption))))); (· omega); rintro e wn ⟨b, rfl, hR, hB⟩)
    | (go_at_call 22; refine (less_ret (P := ?_) (Q := ?_) (k := ?_) (j := ?_) ?_ ?_ ?_).mono ?_; rotate_left 4; (· (repeat (first | with_reducible assumption | (refine Rep.below (w := ?_) ?_ ?_; rotate_left; (· with_reducible assumption))))); (· (repeat (first | with_reducible assumption | (refine Rep.below (w := ?_) ?_ ?_; rotate_left; (· with_reducible assumption))))); (· omega); rintro e wn ⟨b, rfl, hR, hB⟩)
    | (go_at_call 126; refine (same_ret (P := ?_) (Q := ?_) (k := ?_) (j := ?_) ?_ ?_ ?_ ?_ ?_).mono ?_; rotate_left 4; (· (repeat (first | with_reducible assumption | (refine Rep.below (w := ?_) ?_ ?_; rotate_left; (· with_reducible assumption))))); (· (repeat (first | with_reducible assumption | (refine Rep.below (w := ?_) ?_ ?_; rotate_left; (· with_reducible assumption))))); (· omega); (· intro r; first | rfl | ((try dsimp only); cases A r <;> cases B r <;> cases C r <;> rfl)); (· (repeat (first | with_reducible assumption | (refine DbOk.below (w := ?_) ?_ ?_; rotate_left; (· with_reducible assumption))))); rintro e wn ⟨rfl, hB⟩)
    | (go_at_call 38; refine (count_rep (P := ?_) (k := ?_) ?_ ?_).mono ?_; rotate_left 2; (· (repeat (first | with_reducible assumption | (refine Rep.below (w := ?_) ?_ ?_; rotate_left; (· with_reducible assumption))))); (· omega); rw [HK.out]; rintro e wn ⟨rfl, hB⟩)
    | (go_at_call 39; refine (has_ret (P := ?_) (k := ?_) (x := ?_) (y := ?_) ?_ ?_ hr0 hr1 ?_ ?_).mono ?_; rotate_left 4; (· (repeat (first | with_reducible assumption | (refine Rep.below (w := ?_) ?_ ?_; rotate_left; (· with_reducible assumption))))); (· omega); (· exact EHP.out); (· first | exact eha | exact ehb | exact congrArg not eha | exact congr (congrArg and eha) ehb); rintro e wn ⟨rfl, hB⟩; (first | (have hcase : false = true := rfl; cases ha <;> cases hb) | skip))
    | (go_at_call 24; refine (not_ret (P := ?_) (k := ?_) ?_ ?_).mono ?_; rotate_left 2; (· (repeat (first | with_reducible assumption | (refine Rep.below (w := ?_) ?_ ?_; rotate_left; (· with_reducible assumption))))); (· omega); rintro e wn ⟨b, rfl, hR, hB⟩)
    | (go_at_call 12; have d5 : DbOk w3 := DbOk.below hB3 (DbOk.below hB2 (DbOk.below hB1 hd)); refine (works_any d5.1 d5.2).mono ?_; rintro e w4 ⟨rfl, hB4⟩; have q1 := HB.out A; have q2 := HB.out B; have q3 := HB.out (fun r => !A r); have q4 := HB.out (fun r => A r || B r); have q5 := HB.out (fun r => A r && B r); have q6 := HN.out A; have q7 := HO.out A B; obtain ⟨ha, eha⟩ : ∃ ha, A (numP r) = ha := ⟨_, rfl⟩; obtain ⟨hb, ehb⟩ : ∃ hb, B (numP r) = hb := ⟨_, rfl⟩)
    | (go_at_call 125; refine (some_rep ((h3.below hB1).below hB2)).mono ?_; rintro e w3 ⟨p3, C, rfl, hR3, hB3⟩; obtain ⟨b3, rfl⟩ := hR3.ptr)
    | (go_at_call 125; refine (some_rep (h2.below hB1)).mono ?_; rintro e w2 ⟨p2, B, rfl, hR2, hB2⟩; obtain ⟨b2, rfl⟩ := hR2.ptr)
    | (go_at_call 125; refine (some_rep h1).mono ?_; rintro e w1 ⟨p1, A, rfl, hR1, hB1⟩; obtain ⟨b1, rfl⟩ := hR1.ptr))
  all_goals
    go_ret
    refine ⟨(by first | rfl | exact ret_b (by simp; omega)), ?_⟩
    (repeat (first | with_reducible assumption | exact Below.refl _ _ | (refine below_snoc (w := ?_) ?_ ?_; rotate_right; (· with_reducible assumption))))
set_option maxRecDepth 100000 in
set_option maxHeartbeats 8000000 in
theorem laws_loc5 {r : Int} (hloc : 1114240 ≤ r ∧ r ≤ 1114367) {v1 v2 v3 : Value} {l m n : List (Int × Int)} {w : World} (h1 : Spans w v1 l) (h2 : Spans w v2 m) (h3 : Spans w v3 n) (hr0 : -2147483648 ≤ r) (hr1 : r ≤ 2147483647) (hd : DbOk w) :
    Calls Tryz.prog 80 #[v1, v2, v3, .int .i32 r] w fun e w' => e = .returned (.bool true) ∧ Below w.heap.size w w' := by
  obtain ⟨kd, hkd, hnot, hor, hkb⟩ := kd_facts
  have HK := Lib.hid hkd
  have HN := Lib.hid hnot
  have HO := Lib.hid hor
  have HB := Lib.hid hkb
  clear hkd hnot hor hkb
  obtain ⟨x1, x2, x3, hv1⟩ : ∃ a b c, v1 = .slice a b c := by obtain ⟨a, c, rfl, _⟩ := h1; exact ⟨_, _, _, rfl⟩
  obtain ⟨y1, y2, y3, hv2⟩ : ∃ a b c, v2 = .slice a b c := by obtain ⟨a, c, rfl, _⟩ := h2; exact ⟨_, _, _, rfl⟩
  obtain ⟨z1, z2, z3, hv3⟩ : ∃ a b c, v3 = .slice a b c := by obtain ⟨a, c, rfl, _⟩ := h3; exact ⟨_, _, _, rfl⟩
  subst hv1 hv2 hv3
  have EHP : Hid (ptB r = true) := by show ptB r = _; unfold ptB; simp; omega
  go_enter Tryz.func80, Tryz.ntmps80
  go_wp2_with (first
    | (go_at_call 18; refine (join_ret (P := ?_) (Q := ?_) (k := ?_) (j := ?_) ?_ ?_ ?_).mono ?_; rotate_left 4; (· (repeat (first | with_reducible assumption | (refine Rep.below (w := ?_) ?_ ?_; rotate_left; (· with_reducible assumption))))); (· (repeat (first | with_reducible assumption | (refine Rep.below (w := ?_) ?_ ?_; rotate_left; (· with_reducible assumption))))); (· omega); rintro e wn ⟨b, rfl, hR, hB⟩)
    | (go_at_call 20; refine (both_ret (P := ?_) (Q := ?_) (k := ?_) (j := ?_) ?_ ?_ ?_).mono ?_; rotate_left 4; (· (repeat (first | with_reducible assumption | (refine Rep.below (w := ?_) ?_ ?_; rotate_left; (· with_reducible assumption))))); (· (repeat (first | with_reducible assumption | (refine Rep.below (w := ?_) ?_ ?_; rotate_left; (· with_reducible assumption))))); (· omega); rintro e wn ⟨b, rfl, hR, hB⟩)
    | (go_at_call 22; refine (less_ret (P := ?_) (Q := ?_) (k := ?_) (j := ?_) ?_ ?_ ?_).mono ?_; rotate_left 4; (· (repeat (first | with_reducible assumption | (refine Rep.below (w := ?_) ?_ ?_; rotate_left; (· with_reducible assumption))))); (· (repeat (first | with_reducible assumption | (refine Rep.below (w := ?_) ?_ ?_; rotate_left; (· with_reducible assumption))))); (· omega); rintro e wn ⟨b, rfl, hR, hB⟩)
    | (go_at_call 126; refine (same_ret (P := ?_) (Q := ?_) (k := ?_) (j := ?_) ?_ ?_ ?_ ?_ ?_).mono ?_; rotate_left 4; (· (repeat (first | with_reducible assumption | (refine Rep.below (w := ?_) ?_ ?_; rotate_left; (· with_reducible assumption))))); (· (repeat (first | with_reducible assumption | (refine Rep.below (w := ?_) ?_ ?_; rotate_left; (· with_reducible assumption))))); (· omega); (· intro r; first | rfl | ((try dsimp only); cases A r <;> cases B r <;> cases C r <;> rfl)); (· (repeat (first | with_reducible assumption | (refine DbOk.below (w := ?_) ?_ ?_; rotate_left; (· with_reducible assumption))))); rintro e wn ⟨rfl, hB⟩)
    | (go_at_call 38; refine (count_rep (P := ?_) (k := ?_) ?_ ?_).mono ?_; rotate_left 2; (· (repeat (first | with_reducible assumption | (refine Rep.below (w := ?_) ?_ ?_; rotate_left; (· with_reducible assumption))))); (· omega); rw [HK.out]; rintro e wn ⟨rfl, hB⟩)
    | (go_at_call 39; refine (has_ret (P := ?_) (k := ?_) (x := ?_) (y := ?_) ?_ ?_ hr0 hr1 ?_ ?_).mono ?_; rotate_left 4; (· (repeat (first | with_reducible assumption | (refine Rep.below (w := ?_) ?_ ?_; rotate_left; (· with_reducible assumption))))); (· omega); (· exact EHP.out); (· first | exact eha | exact ehb | exact congrArg not eha | exact congr (congrArg and eha) ehb); rintro e wn ⟨rfl, hB⟩; (first | (have hcase : true = true := rfl; cases ha <;> cases hb) | skip))
    | (go_at_call 24; refine (not_ret (P := ?_) (k := ?_) ?_ ?_).mono ?_; rotate_left 2; (· (repeat (first | with_reducible assumption | (refine Rep.below (w := ?_) ?_ ?_; rotate_left; (· with_reducible assumption))))); (· omega); rintro e wn ⟨b, rfl, hR, hB⟩)
    | (go_at_call 12; have d5 : DbOk w3 := DbOk.below hB3 (DbOk.below hB2 (DbOk.below hB1 hd)); refine (works_any d5.1 d5.2).mono ?_; rintro e w4 ⟨rfl, hB4⟩; have q1 := HB.out A; have q2 := HB.out B; have q3 := HB.out (fun r => !A r); have q4 := HB.out (fun r => A r || B r); have q5 := HB.out (fun r => A r && B r); have q6 := HN.out A; have q7 := HO.out A B; obtain ⟨ha, eha⟩ : ∃ ha, A (numP r) = ha := ⟨_, rfl⟩; obtain ⟨hb, ehb⟩ : ∃ hb, B (numP r) = hb := ⟨_, rfl⟩)
    | (go_at_call 125; refine (some_rep ((h3.below hB1).below hB2)).mono ?_; rintro e w3 ⟨p3, C, rfl, hR3, hB3⟩; obtain ⟨b3, rfl⟩ := hR3.ptr)
    | (go_at_call 125; refine (some_rep (h2.below hB1)).mono ?_; rintro e w2 ⟨p2, B, rfl, hR2, hB2⟩; obtain ⟨b2, rfl⟩ := hR2.ptr)
    | (go_at_call 125; refine (some_rep h1).mono ?_; rintro e w1 ⟨p1, A, rfl, hR1, hB1⟩; obtain ⟨b1, rfl⟩ := hR1.ptr))
  all_goals
    go_ret
    refine ⟨(by first | rfl | exact ret_b (by simp; omega)), ?_⟩
    (repeat (first | with_reducible assumption | exact Below.refl _ _ | (refine below_snoc (w := ?_) ?_ ?_; rotate_right; (· with_reducible assumption))))
set_option maxRecDepth 100000 in
set_option maxHeartbeats 8000000 in
theorem laws_loc6 {r : Int} (hloc : 1114367 < r) {v1 v2 v3 : Value} {l m n : List (Int × Int)} {w : World} (h1 : Spans w v1 l) (h2 : Spans w v2 m) (h3 : Spans w v3 n) (hr0 : -2147483648 ≤ r) (hr1 : r ≤ 2147483647) (hd : DbOk w) :
    Calls Tryz.prog 80 #[v1, v2, v3, .int .i32 r] w fun e w' => e = .returned (.bool true) ∧ Below w.heap.size w w' := by
  obtain ⟨kd, hkd, hnot, hor, hkb⟩ := kd_facts
  have HK := Lib.hid hkd
  have HN := Lib.hid hnot
  have HO := Lib.hid hor
  have HB := Lib.hid hkb
  clear hkd hnot hor hkb
  obtain ⟨x1, x2, x3, hv1⟩ : ∃ a b c, v1 = .slice a b c := by obtain ⟨a, c, rfl, _⟩ := h1; exact ⟨_, _, _, rfl⟩
  obtain ⟨y1, y2, y3, hv2⟩ : ∃ a b c, v2 = .slice a b c := by obtain ⟨a, c, rfl, _⟩ := h2; exact ⟨_, _, _, rfl⟩
  obtain ⟨z1, z2, z3, hv3⟩ : ∃ a b c, v3 = .slice a b c := by obtain ⟨a, c, rfl, _⟩ := h3; exact ⟨_, _, _, rfl⟩
  subst hv1 hv2 hv3
  have EHP : Hid (ptB r = false) := by show ptB r = _; unfold ptB; simp; omega
  go_enter Tryz.func80, Tryz.ntmps80
  go_wp2_with (first
    | (go_at_call 18; refine (join_ret (P := ?_) (Q := ?_) (k := ?_) (j := ?_) ?_ ?_ ?_).mono ?_; rotate_left 4; (· (repeat (first | with_reducible assumption | (refine Rep.below (w := ?_) ?_ ?_; rotate_left; (· with_reducible assumption))))); (· (repeat (first | with_reducible assumption | (refine Rep.below (w := ?_) ?_ ?_; rotate_left; (· with_reducible assumption))))); (· omega); rintro e wn ⟨b, rfl, hR, hB⟩)
    | (go_at_call 20; refine (both_ret (P := ?_) (Q := ?_) (k := ?_) (j := ?_) ?_ ?_ ?_).mono ?_; rotate_left 4; (· (repeat (first | with_reducible assumption | (refine Rep.below (w := ?_) ?_ ?_; rotate_left; (· with_reducible assumption))))); (· (repeat (first | with_reducible assumption | (refine Rep.below (w := ?_) ?_ ?_; rotate_left; (· with_reducible assumption))))); (· omega); rintro e wn ⟨b, rfl, hR, hB⟩)
    | (go_at_call 22; refine (less_ret (P := ?_) (Q := ?_) (k := ?_) (j := ?_) ?_ ?_ ?_).mono ?_; rotate_left 4; (· (repeat (first | with_reducible assumption | (refine Rep.below (w := ?_) ?_ ?_; rotate_left; (· with_reducible assumption))))); (· (repeat (first | with_reducible assumption | (refine Rep.below (w := ?_) ?_ ?_; rotate_left; (· with_reducible assumption))))); (· omega); rintro e wn ⟨b, rfl, hR, hB⟩)
    | (go_at_call 126; refine (same_ret (P := ?_) (Q := ?_) (k := ?_) (j := ?_) ?_ ?_ ?_ ?_ ?_).mono ?_; rotate_left 4; (· (repeat (first | with_reducible assumption | (refine Rep.below (w := ?_) ?_ ?_; rotate_left; (· with_reducible assumption))))); (· (repeat (first | with_reducible assumption | (refine Rep.below (w := ?_) ?_ ?_; rotate_left; (· with_reducible assumption))))); (· omega); (· intro r; first | rfl | ((try dsimp only); cases A r <;> cases B r <;> cases C r <;> rfl)); (· (repeat (first | with_reducible assumption | (refine DbOk.below (w := ?_) ?_ ?_; rotate_left; (· with_reducible assumption))))); rintro e wn ⟨rfl, hB⟩)
    | (go_at_call 38; refine (count_rep (P := ?_) (k := ?_) ?_ ?_).mono ?_; rotate_left 2; (· (repeat (first | with_reducible assumption | (refine Rep.below (w := ?_) ?_ ?_; rotate_left; (· with_reducible assumption))))); (· omega); rw [HK.out]; rintro e wn ⟨rfl, hB⟩)
    | (go_at_call 39; refine (has_ret (P := ?_) (k := ?_) (x := ?_) (y := ?_) ?_ ?_ hr0 hr1 ?_ ?_).mono ?_; rotate_left 4; (· (repeat (first | with_reducible assumption | (refine Rep.below (w := ?_) ?_ ?_; rotate_left; (· with_reducible assumption))))); (· omega); (· exact EHP.out); (· first | exact eha | exact ehb | exact congrArg not eha | exact congr (congrArg and eha) ehb); rintro e wn ⟨rfl, hB⟩; (first | (have hcase : false = true := rfl; cases ha <;> cases hb) | skip))
    | (go_at_call 24; refine (not_ret (P := ?_) (k := ?_) ?_ ?_).mono ?_; rotate_left 2; (· (repeat (first | with_reducible assumption | (refine Rep.below (w := ?_) ?_ ?_; rotate_left; (· with_reducible assumption))))); (· omega); rintro e wn ⟨b, rfl, hR, hB⟩)
    | (go_at_call 12; have d5 : DbOk w3 := DbOk.below hB3 (DbOk.below hB2 (DbOk.below hB1 hd)); refine (works_any d5.1 d5.2).mono ?_; rintro e w4 ⟨rfl, hB4⟩; have q1 := HB.out A; have q2 := HB.out B; have q3 := HB.out (fun r => !A r); have q4 := HB.out (fun r => A r || B r); have q5 := HB.out (fun r => A r && B r); have q6 := HN.out A; have q7 := HO.out A B; obtain ⟨ha, eha⟩ : ∃ ha, A (numP r) = ha := ⟨_, rfl⟩; obtain ⟨hb, ehb⟩ : ∃ hb, B (numP r) = hb := ⟨_, rfl⟩)
    | (go_at_call 125; refine (some_rep ((h3.below hB1).below hB2)).mono ?_; rintro e w3 ⟨p3, C, rfl, hR3, hB3⟩; obtain ⟨b3, rfl⟩ := hR3.ptr)
    | (go_at_call 125; refine (some_rep (h2.below hB1)).mono ?_; rintro e w2 ⟨p2, B, rfl, hR2, hB2⟩; obtain ⟨b2, rfl⟩ := hR2.ptr)
    | (go_at_call 125; refine (some_rep h1).mono ?_; rintro e w1 ⟨p1, A, rfl, hR1, hB1⟩; obtain ⟨b1, rfl⟩ := hR1.ptr))
  all_goals
    go_ret
    refine ⟨(by first | rfl | exact ret_b (by simp; omega)), ?_⟩
    (repeat (first | with_reducible assumption | exact Below.refl _ _ | (refine below_snoc (w := ?_) ?_ ?_; rotate_right; (· with_reducible assumption))))

theorem laws_any {v1 v2 v3 : Value} {l m n : List (Int × Int)} {r : Int} {w : World} (h1 : Spans w v1 l) (h2 : Spans w v2 m) (h3 : Spans w v3 n) (hr0 : -2147483648 ≤ r) (hr1 : r ≤ 2147483647) (hd : DbOk w) :
    Calls Tryz.prog 80 #[v1, v2, v3, .int .i32 r] w fun e w' => e = .returned (.bool true) ∧ Below w.heap.size w w' := by
  by_cases c0 : r < 0
  · exact laws_loc0 c0 h1 h2 h3 hr0 hr1 hd
  by_cases c1 : r < 55296
  · exact laws_loc1 ⟨by omega, c1⟩ h1 h2 h3 hr0 hr1 hd
  by_cases c2 : r < 57344
  · exact laws_loc2 ⟨by omega, c2⟩ h1 h2 h3 hr0 hr1 hd
  by_cases c3 : r ≤ 1114111
  · exact laws_loc3 ⟨by omega, c3⟩ h1 h2 h3 hr0 hr1 hd
  by_cases c4 : r < 1114240
  · exact laws_loc4 ⟨by omega, c4⟩ h1 h2 h3 hr0 hr1 hd
  by_cases c5 : r ≤ 1114367
  · exact laws_loc5 ⟨by omega, c5⟩ h1 h2 h3 hr0 hr1 hd
  exact laws_loc6 (by omega) h1 h2 h3 hr0 hr1 hd

end Go.Proofs.YtmbjjheaddhmeaaGreatDoor
