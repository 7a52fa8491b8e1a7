/- A set in memory, as a predicate on the points' numbers; the contracts in these words. -/
import Derived.Test.YtmbjjheaddhmeaaGreatDoorJoin
import Derived.Test.YtmbjjheaddhmeaaGreatDoorClone
import Derived.Test.YtmbjjheaddhmeaaGreatDoorPrint
namespace Go.Proofs.YtmbjjheaddhmeaaGreatDoor
open Go.RowKit

theorem can_append {a : List (Int × Int)} {x : Int × Int} {b : List (Int × Int)} : ∀ {f : Int}, Can f (a ++ x :: b) → f ≤ x.1 ∧ (∀ r, x.1 ≤ r → memB r a = false) ∧ Can x.1 (x :: b) := by
  induction a with
  | nil => rintro f ⟨h1, h2⟩; exact ⟨h1, fun r _ => rfl, Int.le_refl _, h2⟩
  | cons y a ih =>
    rintro f ⟨h1, h2, h3, h4⟩
    obtain ⟨i1, i2, i3⟩ := ih h4
    refine ⟨by omega, fun r hr => ?_, i3⟩
    rw [memB, i2 r hr]
    simp; omega

theorem wrap32_pt {a r : Int} (ha : 0 ≤ a ∧ a ≤ 1114367) (hr : 0 ≤ r ∧ r ≤ 1114367) : wrap32 (a - r) = a - r := by simp [wrap32]; omega
theorem wrap32_zero {a r : Int} (ha : 0 ≤ a ∧ a ≤ 1114367) (h0 : -2147483648 ≤ r) (h1 : r ≤ 2147483647) (h : wrap32 (a - r) = 0) : a = r := by simp [wrap32] at h; omega

theorem hasR_law {l : List (Int × Int)} (hp : Pts l) (hc : Can 0 (l.map nm)) (r : Int) (h0 : -2147483648 ≤ r) (h1 : r ≤ 2147483647) (i : Nat) (hf : Found l r i) : hasR l r i = (ptB r && memB (numP r) (l.map nm)) := by
  obtain ⟨hi, hlow, hhigh⟩ := hf
  have hg : ∀ k, k < l.length → ∃ x, gt l k = x ∧ x ∈ l ∧ l = l.take k ++ x :: l.drop (k + 1) := fun k hk => ⟨l[k], by simp [gt, hk], List.getElem_mem hk, by rw [← List.drop_eq_getElem_cons hk, List.take_append_drop]⟩
  unfold hasR
  cases hpr : ptB r with
  | false =>
    simp only [Bool.false_and, Bool.or_false, Bool.and_eq_false_iff, decide_eq_false_iff_not]
    by_cases hil : i < l.length
    · right
      obtain ⟨x, e, hx, _⟩ := hg i hil
      rw [e]
      intro hw
      have hxp := (hp x hx).1
      have := wrap32_zero (by have := numP_pt hxp; omega) h0 h1 hw
      rw [this, hpr] at hxp; cases hxp
    · exact .inl hil
  | true =>
    have hr := numP_pt hpr
    -- what lies from i on
    have hB : memB (numP r) ((l.drop i).map nm) = (decide (i < l.length) && decide (wrap32 ((gt l i).1 - r) = 0)) := by
      by_cases hil : i < l.length
      · obtain ⟨x, e, hx, hl⟩ := hg i hil
        have hxp := numP_pt (hp x hx).1
        have h3 := hhigh hil
        rw [e, wrap32_pt (by omega) (by omega)] at h3 ⊢
        have hd : l.drop i = x :: l.drop (i + 1) := by rw [List.drop_eq_getElem_cons hil]; simp only [gt, hil, List.getElem?_eq_getElem, Option.getD_some] at e; rw [e]
        rw [hl, List.map_append, List.map_cons] at hc
        obtain ⟨_, _, c1, c2, c3, c4⟩ := can_append hc
        rw [hd, List.map_cons, memB]
        have h2 : memB (numP r) ((l.drop (i + 1)).map nm) = memB (numP r) ((l.drop (i + 1)).map nm) := rfl
        rw [Bool.eq_iff_iff]
        have q := @Can.mem _ (numP r) _ c4
        have c2' : numP x.1 ≤ numP x.2 := c2
        have q' : memB (numP r) ((l.drop (i + 1)).map nm) = true → numP x.2 + 2 ≤ numP r := fun h => (q h).1
        simp only [Bool.or_eq_true, Bool.and_eq_true, decide_eq_true_eq]
        show (numP x.1 ≤ numP r ∧ numP r ≤ numP x.2) ∨ _ ↔ _
        constructor
        · rintro (h | h)
          · exact ⟨hil, by omega⟩
          · have := q' h; omega
        · rintro ⟨_, h⟩
          left; have : x.1 = r := by omega
          rw [this] at c2' ⊢; omega
      · rw [List.drop_of_length_le (by omega)]; simp [memB, hil]
    have hA : memB (numP r) ((l.take i).map nm) = (decide (0 < i) && decide (r ≤ (gt l (i - 1)).2)) := by
      cases i with
      | zero => simp [memB]
      | succ k =>
        obtain ⟨y, e, hy, hl⟩ := hg k (by omega)
        have hyp := numP_pt (hp y hy).1
        have hyq := numP_pt (hp y hy).2
        have h3 := hlow (by omega)
        rw [show k + 1 - 1 = k by omega] at h3 ⊢
        rw [e, wrap32_pt (by omega) (by omega)] at h3
        have ht : l.take (k + 1) = l.take k ++ [y] := by rw [List.take_succ_eq_append_getElem (by omega)]; simp only [gt, show k < l.length by omega, List.getElem?_eq_getElem, Option.getD_some] at e; rw [e]
        rw [hl, List.map_append, List.map_cons] at hc
        obtain ⟨_, c5, c1, c2, c3, c4⟩ := can_append hc
        have c2' : numP y.1 ≤ numP y.2 := c2
        rw [ht, List.map_append, memB_append, c5 (numP r) (by show numP y.1 ≤ _; omega), e]
        show (false || (((decide (numP y.1 ≤ numP r)) && decide (numP r ≤ numP y.2)) || false)) = _
        rw [Bool.eq_iff_iff]; simp; omega
    have hT : memB (numP r) (l.map nm) = (memB (numP r) ((l.take i).map nm) || memB (numP r) ((l.drop i).map nm)) := by
      rw [← memB_append, ← List.map_append, List.take_append_drop]
    rw [hT, hA, hB, Bool.true_and, Bool.true_and, Bool.or_comm]

theorem can_le {l : List (Int × Int)} : ∀ {f : Int}, Can f (l.map nm) → Pts l → ∀ x ∈ l, x.1 ≤ x.2 := by
  induction l with
  | nil => intro f _ _ x hx; cases hx
  | cons y l ih =>
    rintro f ⟨h1, h2, h3, h4⟩ hp x hx
    rcases List.mem_cons.1 hx with rfl | hx
    · have e1 := numP_pt (Pts.cons.1 hp).1.1; have e2 := numP_pt (Pts.cons.1 hp).1.2
      have h2' : numP x.1 ≤ numP x.2 := h2
      omega
    · exact ih h4 (Pts.cons.1 hp).2 x hx
theorem bothF_len (n : Nat) : ∀ (l m : List (Int × Int)), l.length + m.length ≤ n → (bothF l m).length ≤ l.length + m.length := by
  induction n with
  | zero => intro l m hn; obtain rfl := List.eq_nil_of_length_eq_zero (show l.length = 0 by omega); rw [bothF]; simp
  | succ n ih =>
    intro l m hn
    cases l with
    | nil => rw [bothF]; simp
    | cons a l =>
      cases m with
      | nil => rw [bothF]; simp
      | cons b m =>
        simp only [List.length_cons] at hn
        rw [bothF, List.length_append]
        have h1 : (if max a.1 b.1 ≤ min a.2 b.2 then [(max a.1 b.1, min a.2 b.2)] else []).length ≤ 1 := by split <;> simp
        have h2 := ih l (b :: m) (by simp; omega)
        have h3 := ih (a :: l) m (by simp; omega)
        simp only [List.length_cons] at *
        have h4 : (if a.2 < b.2 then bothF l (b :: m) else bothF (a :: l) m).length ≤ l.length + m.length + 1 := by split <;> omega
        omega

/-- The value v points to a set of the points whose numbers P tells; it has k spans at most. -/
def Rep (w : World) (v : Value) (P : Int → Bool) (k : Nat) : Prop :=
  ∃ l, IsSet w v l ∧ Pts l ∧ Can 0 (l.map nm) ∧ l.length ≤ k ∧ ∀ r, 0 ≤ r → r ≤ 1112191 → memB r (l.map nm) = P r
theorem Rep.below {w w' : World} {v : Value} {P : Int → Bool} {k : Nat} (hb : Below w.heap.size w w') (h : Rep w v P k) : Rep w' v P k := by
  obtain ⟨l, h1, h2⟩ := h; exact ⟨l, h1.below hb, h2⟩
theorem Rep.ptr {w : World} {v : Value} {P : Int → Bool} {k : Nat} (h : Rep w v P k) : ∃ b, v = .pointer (some ⟨b, 0, none⟩) := by
  obtain ⟨l, ⟨b, _, rfl, _⟩, _⟩ := h; exact ⟨b, rfl⟩
theorem Rep.weak {w : World} {v : Value} {P : Int → Bool} {k j : Nat} (h : Rep w v P k) (hj : k ≤ j) : Rep w v P j := by
  obtain ⟨l, h1, h2, h3, h4, h5⟩ := h; exact ⟨l, h1, h2, h3, Nat.le_trans h4 hj, h5⟩
theorem Rep.congr {w : World} {v : Value} {P Q : Int → Bool} {k : Nat} (h : Rep w v P k) (hq : ∀ r, 0 ≤ r → r ≤ 1112191 → P r = Q r) : Rep w v Q k := by
  obtain ⟨l, h1, h2, h3, h4, h5⟩ := h; exact ⟨l, h1, h2, h3, h4, fun r a b => (h5 r a b).trans (hq r a b)⟩

theorem rep_merge {w : World} {v : Value} {l : List (Int × Int)} {P : Int → Bool} {k : Nat} (hs : IsSet w v (mergeF l)) (hp : Pts l) (ho : ∀ x ∈ l, x.1 ≤ x.2) (hw : l.Pairwise (fun a b : Int × Int => a.1 ≤ b.1)) (hk : l.length ≤ k) (hP : ∀ r, 0 ≤ r → r ≤ 1112191 → memB r (l.map nm) = P r) : Rep w v P k := by
  obtain ⟨h1, h2, h3⟩ := mergeF_can hp ho hw
  exact ⟨_, hs, h2, h1, Nat.le_trans (merge_len l) hk, fun r a b => (h3 r).trans (hP r a b)⟩

theorem join_rep {p q : Value} {P Q : Int → Bool} {k j : Nat} {w : World} (hp : Rep w p P k) (hq : Rep w q Q j) (hk : k + j ≤ 90000) :
    Calls Tryz.prog 18 #[p, q] w fun e w' => ∃ v, e = .returned v ∧ Rep w' v (fun r => P r || Q r) (k + j) ∧ Below w.heap.size w w' := by
  obtain ⟨l, h1, h2, h3, h4, h5⟩ := hp
  obtain ⟨m, k1, k2, k3, k4, k5⟩ := hq
  refine (join_any p q l m w h1 k1 (by omega) h2.bd k2.bd).mono ?_
  rintro e w' ⟨v, l', rfl, hp, hw, hs, hB⟩
  refine ⟨v, rfl, rep_merge hs (fun x hx => (h2.append k2) x (hp.mem_iff.1 hx)) (fun x hx => ?_) hw (by rw [hp.length_eq, List.length_append]; omega) (fun r a b => ?_), hB⟩
  · rcases List.mem_append.1 (hp.mem_iff.1 hx) with h | h
    · exact can_le h3 h2 x h
    · exact can_le k3 k2 x h
  · rw [memB_perm (hp.map nm), List.map_append, memB_append, h5 r a b, k5 r a b]

theorem both_rep {p q : Value} {P Q : Int → Bool} {k j : Nat} {w : World} (hp : Rep w p P k) (hq : Rep w q Q j) (hk : k + j ≤ 90000) :
    Calls Tryz.prog 20 #[p, q] w fun e w' => ∃ v, e = .returned v ∧ Rep w' v (fun r => P r && Q r) (k + j) ∧ Below w.heap.size w w' := by
  obtain ⟨l, h1, h2, h3, h4, h5⟩ := hp
  obtain ⟨m, k1, k2, k3, k4, k5⟩ := hq
  refine (both_any p q l m w h1 k1 (by omega) (by omega)).mono ?_
  rintro e w' ⟨v, rfl, hs, hB⟩
  obtain ⟨b1, b2⟩ := bothF_nums _ (Nat.le_refl _) h2 k2
  obtain ⟨c1, c2⟩ := bothN_spec _ (Nat.le_refl _) h3 k3
  exact ⟨v, rfl, ⟨_, hs, b2, by rw [b1]; exact c1, Nat.le_trans (bothF_len _ l m (Nat.le_refl _)) (by omega), fun r a b => by rw [b1, c2, h5 r a b, k5 r a b]⟩, hB⟩

theorem not_rep {p : Value} {P : Int → Bool} {k : Nat} {w : World} (hp : Rep w p P k) (hk : k ≤ 90000) :
    Calls Tryz.prog 24 #[p] w fun e w' => ∃ v, e = .returned v ∧ Rep w' v (fun r => !P r) (k + 1) ∧ Below w.heap.size w w' := by
  obtain ⟨l, h1, h2, h3, h4, h5⟩ := hp
  refine (not_any p l w h1 (by omega) h2.bd).mono ?_
  rintro e w' ⟨v, rfl, hs, hB⟩
  obtain ⟨b1, b2⟩ := notF_nums h2 (f := 0) (.inl rfl) h3
  obtain ⟨c1, c2⟩ := notN_spec h3
  exact ⟨v, rfl, ⟨_, hs, b2, by rw [b1]; exact c1, Nat.le_trans (notF_len l 0) (by omega), fun r a b => by rw [b1]; show memB r (notN 0 _) = _; rw [c2, h5 r a b]; simp [a, b]⟩, hB⟩

theorem less_rep {p q : Value} {P Q : Int → Bool} {k j : Nat} {w : World} (hp : Rep w p P k) (hq : Rep w q Q j) (hk : k + j ≤ 80000) :
    Calls Tryz.prog 22 #[p, q] w fun e w' => ∃ v, e = .returned v ∧ Rep w' v (fun r => P r && !Q r) (k + j + 1) ∧ Below w.heap.size w w' := by
  obtain ⟨l, h1, h2, h3, h4, h5⟩ := hp
  obtain ⟨m, k1, k2, k3, k4, k5⟩ := hq
  refine (less_any p q l m w h1 k1 (by omega) (by omega) k2.bd).mono ?_
  rintro e w' ⟨v, rfl, hs, hB⟩
  obtain ⟨n1, n2⟩ := notF_nums k2 (f := 0) (.inl rfl) k3
  obtain ⟨d1, d2⟩ := notN_spec k3
  have n3 : Can 0 ((notF 0 m).map nm) := by rw [n1]; exact d1
  have n4 := notF_len m 0
  obtain ⟨b1, b2⟩ := bothF_nums _ (Nat.le_refl _) h2 n2
  obtain ⟨c1, c2⟩ := bothN_spec _ (Nat.le_refl _) h3 n3
  refine ⟨v, rfl, ⟨_, hs, b2, by rw [b1]; exact c1, Nat.le_trans (bothF_len _ l _ (Nat.le_refl _)) (by omega), fun r a b => ?_⟩, hB⟩
  rw [b1, c2, h5 r a b, n1]
  show (P r && memB r (notN 0 _)) = _
  rw [d2, k5 r a b]; simp [a, b]

theorem count_rep {p : Value} {P : Int → Bool} {k : Nat} {w : World} (hp : Rep w p P k) (hk : k ≤ 90000) :
    Calls Tryz.prog 38 #[p] w fun e w' => e = .returned (.int .i64 (kard P 1112192)) ∧ Below w.heap.size w w' := by
  obtain ⟨l, h1, h2, h3, h4, h5⟩ := hp
  refine (count_any p l w h1 h2.bd (by omega)).mono ?_
  rintro e w' ⟨rfl, hB⟩
  refine ⟨ret_i ?_, hB⟩
  rw [countF_nums, ← kard_can (Int.le_refl 0) h3]
  exact kard_congr _ fun r a b => h5 r (by omega) (by omega)

theorem has_rep {p : Value} {P : Int → Bool} {k : Nat} {w : World} {r : Int} (hp : Rep w p P k) (hk : k ≤ 90000) (h0 : -2147483648 ≤ r) (h1 : r ≤ 2147483647) :
    Calls Tryz.prog 39 #[p, .int .i32 r] w fun e w' => e = .returned (.bool (ptB r && P (numP r))) ∧ Below w.heap.size w w' := by
  obtain ⟨l, k1, k2, k3, k4, k5⟩ := hp
  refine (has_any p l w k1 r (by omega)).mono ?_
  rintro e w' ⟨⟨i, hf, rfl⟩, hB⟩
  refine ⟨ret_b ?_, hB⟩
  rw [hasR_law k2 k3 r h0 h1 i hf]
  cases hpr : ptB r with
  | false => rfl
  | true => have := numP_pt hpr; rw [k5 _ (by omega) (by omega)]

end Go.Proofs.YtmbjjheaddhmeaaGreatDoor
