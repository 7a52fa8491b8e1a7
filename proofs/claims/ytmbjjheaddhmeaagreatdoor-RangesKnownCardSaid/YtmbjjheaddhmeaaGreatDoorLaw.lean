/- The plain law of lists of spans of numbers. -/
import Derived.Test.YtmbjjheaddhmeaaGreatDoorAll
import Derived.Test.YtmbjjheaddhmeaaGreatDoorBoth
import Derived.Test.YtmbjjheaddhmeaaGreatDoorNot
import Derived.Test.YtmbjjheaddhmeaaGreatDoorTidy
namespace Go.Proofs.YtmbjjheaddhmeaaGreatDoor
open Go.RowKit

/-- Spans of numbers that rise, none touching the next, from f on. -/
def Can : Int → List (Int × Int) → Prop
  | _, [] => True
  | f, x :: l => f ≤ x.1 ∧ x.1 ≤ x.2 ∧ x.2 ≤ 1112191 ∧ Can (x.2 + 2) l
def memB (r : Int) : List (Int × Int) → Bool
  | [] => false
  | x :: l => (decide (x.1 ≤ r) && decide (r ≤ x.2)) || memB r l

theorem Can.mono {l : List (Int × Int)} {f g : Int} (h : Can f l) (hg : g ≤ f) : Can g l := by
  cases l with
  | nil => trivial
  | cons x l => exact ⟨by have := h.1; omega, h.2⟩
theorem Can.mem {l : List (Int × Int)} {r : Int} : ∀ {f : Int}, Can f l → memB r l = true → f ≤ r ∧ r ≤ 1112191 := by
  induction l with
  | nil => intro f _ h; cases h
  | cons x l ih =>
    rintro f ⟨h1, h2, h3, h4⟩ h
    rw [memB, Bool.or_eq_true] at h
    rcases h with h | h
    · simp at h; omega
    · have := ih h4 h; omega
theorem Can.out {l : List (Int × Int)} {r f : Int} (h : Can f l) (hr : r < f) : memB r l = false := by
  cases e : memB r l with
  | false => rfl
  | true => have := h.mem e; omega

theorem uniq {l : List (Int × Int)} : ∀ {f : Int} {m : List (Int × Int)}, Can f l → Can f m → (∀ r, f ≤ r → r ≤ 1112191 → memB r l = memB r m) → l = m := by
  induction l with
  | nil =>
    intro f m _ hm h
    cases m with
    | nil => rfl
    | cons y m =>
      obtain ⟨h1, h2, h3, h4⟩ := hm
      have := h y.1 h1 (by omega)
      simp [memB, h2] at this
  | cons x l ih =>
    intro f m hl hm h
    cases m with
    | nil =>
      obtain ⟨h1, h2, h3, h4⟩ := hl
      have := h x.1 h1 (by omega)
      simp [memB, h2] at this
    | cons y m =>
      obtain ⟨h1, h2, h3, h4⟩ := hl
      obtain ⟨k1, k2, k3, k4⟩ := hm
      have e1 : x.1 = y.1 := by
        rcases Int.lt_trichotomy x.1 y.1 with e | e | e
        · have := h x.1 h1 (by omega)
          rw [memB, memB, k4.out (show x.1 < y.2 + 2 by omega)] at this
          simp [h2, k2] at this; omega
        · exact e
        · have := h y.1 k1 (by omega)
          rw [memB, memB, h4.out (show y.1 < x.2 + 2 by omega)] at this
          simp [h2, k2] at this; omega
      have e2 : x.2 = y.2 := by
        rcases Int.lt_trichotomy x.2 y.2 with e | e | e
        · have := h (x.2 + 1) (by omega) (by omega)
          rw [memB, memB, h4.out (show x.2 + 1 < x.2 + 2 by omega)] at this
          rw [Bool.eq_iff_iff] at this; simp at this; omega
        · exact e
        · have := h (y.2 + 1) (by omega) (by omega)
          rw [memB, memB, k4.out (show y.2 + 1 < y.2 + 2 by omega)] at this
          rw [Bool.eq_iff_iff] at this; simp at this; omega
      have e3 : l = m := by
        refine ih h4 (by rw [e2]; exact k4) fun r hr hr' => ?_
        have := h r (by omega) hr'
        rw [memB, memB] at this
        have d1 : decide (r ≤ x.2) = false := by simp; omega
        have d2 : decide (r ≤ y.2) = false := by simp; omega
        simpa [d1, d2] using this
      rw [e3, show x = y from Prod.ext e1 e2]

theorem memB_append (r : Int) (l m : List (Int × Int)) : memB r (l ++ m) = (memB r l || memB r m) := by
  induction l with
  | nil => simp [memB]
  | cons x l ih => rw [List.cons_append, memB, memB, ih, Bool.or_assoc]

def notN (f : Int) : List (Int × Int) → List (Int × Int)
  | [] => if f ≤ 1112191 then [(f, 1112191)] else []
  | x :: l => (if f < x.1 then [(f, x.1 - 1)] else []) ++ notN (x.2 + 1) l
theorem notN_spec {l : List (Int × Int)} : ∀ {f : Int}, Can f l → Can f (notN f l) ∧ ∀ r, memB r (notN f l) = (decide (f ≤ r) && decide (r ≤ 1112191) && !memB r l) := by
  induction l with
  | nil =>
    intro f _
    rw [notN]
    split
    · refine ⟨⟨by simp, by assumption, by simp, trivial⟩, fun r => by simp [memB]⟩
    · refine ⟨trivial, fun r => ?_⟩
      by_cases h : f ≤ r <;> by_cases h' : r ≤ 1112191 <;> simp [memB, h, h'] <;> omega
  | cons x l ih =>
    rintro f ⟨h1, h2, h3, h4⟩
    obtain ⟨i1, i2⟩ := ih (h4.mono (show x.2 + 1 ≤ x.2 + 2 by omega))
    rw [notN]
    constructor
    · split
      · exact ⟨by simp, by simp; omega, by simp; omega, i1.mono (by simp; omega)⟩
      · exact i1.mono (by omega)
    · intro r
      rw [memB_append, i2, memB]
      cases hm : memB r l with
      | true =>
        have := h4.mem hm
        rw [Bool.eq_iff_iff]
        split <;> simp [memB] <;> omega
      | false =>
        rw [Bool.eq_iff_iff]
        split <;> simp [memB] <;> omega

def bothN : List (Int × Int) → List (Int × Int) → List (Int × Int)
  | [], _ => []
  | _ :: _, [] => []
  | a :: l, b :: m => (if max a.1 b.1 ≤ min a.2 b.2 then [(max a.1 b.1, min a.2 b.2)] else []) ++ (if a.2 < b.2 then bothN l (b :: m) else bothN (a :: l) m)
termination_by l m => l.length + m.length
theorem bothN_spec (n : Nat) : ∀ {l m : List (Int × Int)} {f g : Int}, l.length + m.length ≤ n → Can f l → Can g m → Can (max f g) (bothN l m) ∧ ∀ r, memB r (bothN l m) = (memB r l && memB r m) := by
  induction n with
  | zero =>
    intro l m f g hn _ _
    obtain rfl := List.eq_nil_of_length_eq_zero (show l.length = 0 by omega)
    rw [bothN]
    exact ⟨trivial, fun r => by simp [memB]⟩
  | succ n ih =>
    intro l m f g hn hl hm
    cases l with
    | nil => rw [bothN]; exact ⟨trivial, fun r => by simp [memB]⟩
    | cons a l =>
      cases m with
      | nil => rw [bothN]; exact ⟨trivial, fun r => by simp [memB]⟩
      | cons b m =>
        have hl' := hl
        have hm' := hm
        obtain ⟨h1, h2, h3, h4⟩ := hl
        obtain ⟨k1, k2, k3, k4⟩ := hm
        rw [bothN]
        simp only [List.length_cons] at hn
        by_cases hab : a.2 < b.2
        · rw [if_pos hab]
          obtain ⟨i1, i2⟩ := ih (l := l) (m := b :: m) (by simp; omega) h4 hm'
          constructor
          · split
            · exact ⟨by simp; omega, by assumption, by simp; omega, i1.mono (by simp; omega)⟩
            · exact i1.mono (by omega)
          · intro r
            rw [memB_append, i2]
            simp only [memB]
            have q1 := @Can.mem l r _ h4
            have q2 := @Can.mem m r _ k4
            rw [Bool.eq_iff_iff]
            cases e1 : memB r l <;> cases e2 : memB r m <;> simp only [e1, e2, true_implies, forall_const] at q1 q2 <;> split <;> simp [memB] <;> omega
        · rw [if_neg hab]
          obtain ⟨i1, i2⟩ := ih (l := a :: l) (m := m) (by simp; omega) hl' k4
          constructor
          · split
            · exact ⟨by simp; omega, by assumption, by simp; omega, i1.mono (by simp; omega)⟩
            · exact i1.mono (by omega)
          · intro r
            rw [memB_append, i2]
            simp only [memB]
            have q1 := @Can.mem l r _ h4
            have q2 := @Can.mem m r _ k4
            rw [Bool.eq_iff_iff]
            cases e1 : memB r l <;> cases e2 : memB r m <;> simp only [e1, e2, true_implies, forall_const] at q1 q2 <;> split <;> simp [memB] <;> omega

def mg (y : Int × Int) : List (Int × Int) → List (Int × Int)
  | [] => [y]
  | x :: l => if x.1 ≤ y.2 + 1 then mg (y.1, max y.2 x.2) l else y :: mg x l
theorem mg_spec {l : List (Int × Int)} : ∀ {y : Int × Int}, y.1 ≤ y.2 → y.2 ≤ 1112191 → (∀ x ∈ l, y.1 ≤ x.1 ∧ x.1 ≤ x.2 ∧ x.2 ≤ 1112191) → l.Pairwise (fun a b : Int × Int => a.1 ≤ b.1) → Can y.1 (mg y l) ∧ ∀ r, memB r (mg y l) = memB r (y :: l) := by
  induction l with
  | nil => intro y h1 h2 _ _; exact ⟨⟨Int.le_refl _, h1, h2, trivial⟩, fun r => rfl⟩
  | cons x l ih =>
    intro y h1 h2 h3 h4
    obtain ⟨a1, a2, a3⟩ := h3 x List.mem_cons_self
    have h5 := List.pairwise_cons.1 h4
    rw [mg]
    split
    · obtain ⟨i1, i2⟩ := ih (y := (y.1, max y.2 x.2)) (by simp; omega) (by simp; omega) (fun z hz => h3 z (List.mem_cons_of_mem _ hz)) h5.2
      refine ⟨i1, fun r => ?_⟩
      rw [i2, memB, memB, memB, ← Bool.or_assoc]
      congr 1
      rw [Bool.eq_iff_iff]; simp; omega
    · obtain ⟨i1, i2⟩ := ih (y := x) a2 a3 (fun z hz => ⟨h5.1 z hz, (h3 z (List.mem_cons_of_mem _ hz)).2⟩) h5.2
      exact ⟨⟨Int.le_refl _, h1, h2, i1.mono (by omega)⟩, fun r => by rw [memB, i2]; rfl⟩

/-- How many numbers below n have P. -/
def kard (P : Int → Bool) : Nat → Int
  | 0 => 0
  | n + 1 => kard P n + if P n then 1 else 0
theorem kard_congr {P Q : Int → Bool} (n : Nat) (h : ∀ r, 0 ≤ r → r < n → P r = Q r) : kard P n = kard Q n := by
  induction n with
  | zero => rfl
  | succ n ih => rw [kard, kard, ih (fun r h0 h1 => h r h0 (by omega)), h n (by omega) (by omega)]
theorem kard_or_and (P Q : Int → Bool) (n : Nat) : kard (fun r => P r || Q r) n + kard (fun r => P r && Q r) n = kard P n + kard Q n := by
  induction n with
  | zero => rfl
  | succ n ih => simp only [kard]; by_cases a : P n = true <;> by_cases b : Q n = true <;> simp [a, b] <;> omega
theorem kard_not (P : Int → Bool) (n : Nat) : kard P n + kard (fun r => !P r) n = n := by
  induction n with
  | zero => rfl
  | succ n ih => simp only [kard]; by_cases a : P n = true <;> simp [a] <;> omega
theorem kard_none (n : Nat) : kard (fun _ => false) n = 0 := by
  induction n with
  | zero => rfl
  | succ n ih => simp [kard, ih]
theorem kard_span (a b : Int) (h0 : 0 ≤ a) (h1 : a ≤ b) (n : Nat) : kard (fun r => decide (a ≤ r) && decide (r ≤ b)) n = max 0 (min (n : Int) (b + 1) - a) := by
  induction n with
  | zero => simp only [kard]; omega
  | succ n ih =>
    simp only [kard, ih]
    by_cases c : a ≤ (n : Int) <;> by_cases d : (n : Int) ≤ b <;> simp [c, d] <;> omega
def countN : List (Int × Int) → Int
  | [] => 0
  | x :: l => (x.2 - x.1 + 1) + countN l
theorem kard_can {l : List (Int × Int)} : ∀ {f : Int}, 0 ≤ f → Can f l → kard (fun r => memB r l) 1112192 = countN l := by
  induction l with
  | nil => intro f _ _; exact kard_none _
  | cons x l ih =>
    rintro f hf ⟨h1, h2, h3, h4⟩
    have e := kard_or_and (fun r => decide (x.1 ≤ r) && decide (r ≤ x.2)) (fun r => memB r l) 1112192
    have e2 : kard (fun r => (decide (x.1 ≤ r) && decide (r ≤ x.2)) && memB r l) 1112192 = 0 := by
      rw [← kard_none 1112192]
      refine kard_congr _ fun r _ _ => ?_
      have q1 := @Can.mem l r _ h4
      cases hm : memB r l with
      | false => simp
      | true => have := q1 hm; simp; omega
    rw [e2, kard_span x.1 x.2 (by omega) h2, ih (by omega) h4] at e
    rw [countN]
    have : kard (fun r => memB r (x :: l)) 1112192 = kard (fun r => (decide (x.1 ≤ r) && decide (r ≤ x.2)) || memB r l) 1112192 := rfl
    omega

end Go.Proofs.YtmbjjheaddhmeaaGreatDoor
