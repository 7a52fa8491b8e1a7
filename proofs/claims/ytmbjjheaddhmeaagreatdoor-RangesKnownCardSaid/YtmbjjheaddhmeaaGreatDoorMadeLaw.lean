/- The plain law of the document's way to put two sets together: edges, and what lies between them. -/
import Derived.Test.YtmbjjheaddhmeaaGreatDoorRefPut
import Derived.Test.YtmbjjheaddhmeaaGreatDoorParseLaw
namespace Go.Proofs.YtmbjjheaddhmeaaGreatDoor
open Go.RowKit

def Rise (l : List Int) : Prop := l.Pairwise (· < ·)
theorem putF_mem (n : Int) (l : List Int) (y : Int) : y ∈ putF n l ↔ y = n ∨ y ∈ l := by
  unfold putF
  split
  · rename_i h
    have : n ∈ l := List.mem_of_getElem? h
    constructor
    · exact .inr
    · rintro (rfl | h) <;> assumption
  · have e : y ∈ l ↔ y ∈ l.take (atF n l) ∨ y ∈ l.drop (atF n l) := by rw [← List.mem_append, List.take_append_drop]
    rw [e]; simp only [List.mem_append, List.mem_cons]
    constructor
    · rintro (h | h | h)
      · exact .inr (.inl h)
      · exact .inl h
      · exact .inr (.inr h)
    · rintro (h | h | h)
      · exact .inr (.inl h)
      · exact .inl h
      · exact .inr (.inr h)
theorem atF_take (n : Int) (l : List Int) : ∀ y ∈ l.take (atF n l), y < n := by
  induction l with
  | nil => intro y h; simp at h
  | cons x l ih =>
    intro y h
    rw [atF] at h
    split at h
    · rw [List.take_succ_cons, List.mem_cons] at h
      rcases h with rfl | h
      · assumption
      · exact ih y h
    · simp at h
theorem atF_drop (n : Int) (l : List Int) (hr : Rise l) : l[atF n l]? ≠ some n → ∀ y ∈ l.drop (atF n l), n < y := by
  induction l with
  | nil => intro _ y h; simp at h
  | cons x l ih =>
    intro hn y h
    obtain ⟨h1, h2⟩ := List.pairwise_cons.1 hr
    rw [atF] at h hn
    split at h
    · rename_i hx
      rw [if_pos hx] at hn
      exact ih h2 (by simpa using hn) y (by simpa using h)
    · rename_i hx
      rw [if_neg hx] at hn
      have hne : x ≠ n := by simpa using hn
      rw [List.drop_zero, List.mem_cons] at h
      rcases h with rfl | h
      · omega
      · have := h1 y h; omega
theorem putF_rise (n : Int) (l : List Int) (hr : Rise l) : Rise (putF n l) := by
  unfold putF
  split
  · exact hr
  · rename_i h
    have h1 := atF_take n l
    have h2 := atF_drop n l hr h
    unfold Rise at *
    rw [List.pairwise_append, List.pairwise_cons]
    have hr' := hr
    rw [← List.take_append_drop (atF n l) l, List.pairwise_append] at hr'
    obtain ⟨r1, r2, r3⟩ := hr'
    refine ⟨r1, ⟨h2, r2⟩, fun a ha b hb => ?_⟩
    rw [List.mem_cons] at hb
    rcases hb with rfl | hb
    · exact h1 a ha
    · exact r3 a ha b hb

/-- The edges of a set's rows are among these. -/
def Edged (es : List Int) (a : List (Int × Int)) : Prop := ∀ x ∈ a, x.1 ∈ es ∧ x.2 + 1 ∈ es
theorem edged_nil (es : List Int) : Edged es [] := fun x h => by cases h
theorem Edged.put {es : List Int} {a : List (Int × Int)} (h : Edged es a) (n : Int) : Edged (putF n es) a := fun x hx => ⟨(putF_mem n es _).2 (.inr (h x hx).1), (putF_mem n es _).2 (.inr (h x hx).2)⟩
theorem Edged.snoc {es : List Int} {a : List (Int × Int)} (h : Edged es a) (x : Int × Int) : Edged (putF (x.2 + 1) (putF x.1 es)) (a ++ [x]) := fun y hy => by
  rcases List.mem_append.1 hy with hy | hy
  · exact (h.put _).put _ y hy
  · obtain rfl : y = x := by simpa using hy
    exact ⟨(putF_mem _ _ _).2 (.inr ((putF_mem _ _ _).2 (.inl rfl))), (putF_mem _ _ _).2 (.inl rfl)⟩

/-- Edges rise from 0 to the last. -/
def EdgeL (es : List Int) : Prop := Rise es ∧ (0 : Int) ∈ es ∧ (1112192 : Int) ∈ es ∧ ∀ y ∈ es, 0 ≤ y ∧ y ≤ 1112192
theorem edgeL_start : EdgeL [0, 1112192] := by
  refine ⟨?_, by simp, by simp, ?_⟩
  · unfold Rise; simp
  · intro y hy; simp at hy; omega
theorem EdgeL.put {es : List Int} (h : EdgeL es) {n : Int} (h0 : 0 ≤ n) (h1 : n ≤ 1112192) : EdgeL (putF n es) :=
  ⟨putF_rise n es h.1, (putF_mem _ _ _).2 (.inr h.2.1), (putF_mem _ _ _).2 (.inr h.2.2.1), fun y hy => by
    rcases (putF_mem _ _ _).1 hy with rfl | hy
    · exact ⟨h0, h1⟩
    · exact h.2.2.2 y hy⟩
theorem rise_get {es : List Int} (h : Rise es) (i j : Nat) (hij : i < j) (hj : j < es.length) : es[i]'(by omega) < es[j] := List.pairwise_iff_getElem.1 h i j (by omega) hj hij
theorem rise_le {es : List Int} (h : Rise es) (i j : Nat) (hij : i ≤ j) (hj : j < es.length) : es[i]'(by omega) ≤ es[j] := by
  rcases Nat.lt_or_ge i j with h1 | h1
  · exact Int.le_of_lt (rise_get h i j h1 hj)
  · obtain rfl : i = j := by omega
    exact Int.le_refl _
theorem EdgeL.pos {es : List Int} (h : EdgeL es) : 0 < es.length := List.length_pos_of_mem h.2.1
theorem EdgeL.first {es : List Int} (h : EdgeL es) : es[0]'h.pos = 0 := by
  obtain ⟨i, hi, h0⟩ := List.getElem_of_mem h.2.1
  have := rise_le h.1 0 i (by omega) hi
  have := (h.2.2.2 _ (List.getElem_mem h.pos)).1
  omega
theorem EdgeL.last {es : List Int} (h : EdgeL es) : es[es.length - 1]'(by have := h.pos; omega) = 1112192 := by
  obtain ⟨i, hi, h0⟩ := List.getElem_of_mem h.2.2.1
  have := rise_le h.1 i (es.length - 1) (by omega) (by omega)
  have := (h.2.2.2 _ (List.getElem_mem (show es.length - 1 < es.length by omega))).2
  omega
/-- No edge between two that follow each other. -/
theorem rise_gap {es : List Int} (h : Rise es) (i : Nat) (hi : i + 1 < es.length) (y : Int) (hy : y ∈ es) : y ≤ es[i] ∨ es[i + 1] ≤ y := by
  obtain ⟨k, hk, rfl⟩ := List.getElem_of_mem hy
  rcases Nat.lt_or_ge i k with h1 | h1
  · exact .inr (rise_le h (i + 1) k (by omega) hk)
  · exact .inl (rise_le h k i h1 (by omega))
theorem flat_between {es : List Int} (h : Rise es) (i : Nat) (hi : i + 1 < es.length) (r : Int) (h1 : es[i] ≤ r) (h2 : r < es[i + 1]) (a : List (Int × Int)) : Edged es a → memB r a = memB es[i] a := by
  induction a with
  | nil => intro _; rfl
  | cons x a ih =>
    intro he
    have hx := he x (by simp)
    have g1 := rise_gap h i hi _ hx.1
    have g2 := rise_gap h i hi _ hx.2
    rw [memB, memB, ih (fun y hy => he y (by simp [hy]))]
    have e1 : decide (x.1 ≤ r) = decide (x.1 ≤ es[i]) := by rw [decide_eq_decide]; omega
    have e2 : decide (r ≤ x.2) = decide (es[i] ≤ x.2) := by rw [decide_eq_decide]; omega
    rw [e1, e2]

/-- What has been made up to e. -/
def Done (P : Int → Bool) (out : List (Int × Int)) (e : Int) : Prop := Can 0 out ∧ (∀ x ∈ out, x.2 + 1 ≤ e) ∧ ∀ r, 0 ≤ r → r < e → memB r out = P r
theorem Done.start (P : Int → Bool) : Done P [] 0 := ⟨trivial, by simp, fun r h0 h1 => by omega⟩
theorem memB_over {out : List (Int × Int)} {e r : Int} (h : ∀ x ∈ out, x.2 + 1 ≤ e) (hr : e ≤ r) : memB r out = false := by
  induction out with
  | nil => rfl
  | cons x l ih =>
    have := h x (by simp)
    rw [memB, ih (fun y hy => h y (by simp [hy])), decide_eq_false (show ¬ r ≤ x.2 by omega)]
    simp
theorem Done.skip {P : Int → Bool} {out : List (Int × Int)} {e f : Int} (h : Done P out e) (hef : e < f) (hP : ∀ r, e ≤ r → r < f → P r = false) : Done P out f :=
  ⟨h.1, fun x hx => by have := h.2.1 x hx; omega, fun r h0 h1 => by
    rcases Int.lt_or_le r e with h2 | h2
    · exact h.2.2 r h0 h2
    · rw [hP r h2 h1]; exact memB_over h.2.1 h2⟩
theorem Done.push {P : Int → Bool} {out : List (Int × Int)} {e f : Int} (h : Done P out e) (he : 0 ≤ e) (hef : e < f) (hf : f ≤ 1112192) (hP : ∀ r, e ≤ r → r < f → P r = true) (hl : ∀ y ∈ out.getLast?, y.2 + 1 ≠ e) : Done P (out ++ [(e, f - 1)]) f := by
  refine ⟨can_snoc h.1 he (by show e ≤ f - 1; omega) (by show f - 1 ≤ 1112191; omega) ?_, fun x hx => ?_, fun r h0 h1 => ?_⟩
  · intro y hy
    have h1 := h.2.1 y (List.mem_of_getLast? hy)
    have h2 := hl y hy
    show y.2 + 2 ≤ e
    omega
  · rcases List.mem_append.1 hx with hx | hx
    · have := h.2.1 x hx; omega
    · obtain rfl : x = (e, f - 1) := by simpa using hx
      show f - 1 + 1 ≤ f; omega
  · rw [memB_append]
    rcases Int.lt_or_le r e with h2 | h2
    · rw [h.2.2 r h0 h2, memB, memB, decide_eq_false (show ¬ e ≤ r by omega)]; simp
    · rw [hP r h2 h1, memB, decide_eq_true (show e ≤ r by omega), decide_eq_true (show r ≤ f - 1 by omega)]; simp
theorem Done.grow {P : Int → Bool} {out : List (Int × Int)} {p q e f : Int} (h : Done P (out ++ [(p, q)]) e) (hq : q + 1 = e) (hef : e < f) (hf : f ≤ 1112192) (hP : ∀ r, e ≤ r → r < f → P r = true) : Done P (out ++ [(p, f - 1)]) f := by
  obtain ⟨hc, hle, hm⟩ := h
  obtain ⟨c1, c2, c3⟩ := can_snoc_inv hc
  have hc0 := can_app_left hc
  have hp : 0 ≤ p := by
    have := hc.mem (r := p) (by rw [memB_append, memB]; simp; exact .inr (.inl c1))
    exact this.1
  refine ⟨can_snoc hc0 hp (by show p ≤ f - 1; have : p ≤ q := c1; omega) (by show f - 1 ≤ 1112191; omega) c3, fun x hx => ?_, fun r h0 h1 => ?_⟩
  · rcases List.mem_append.1 hx with hx | hx
    · have := hle x (List.mem_append_left _ hx); omega
    · obtain rfl : x = (p, f - 1) := by simpa using hx
      show f - 1 + 1 ≤ f; omega
  · have c1' : p ≤ q := c1
    rcases Int.lt_or_le r e with h2 | h2
    · rw [← hm r h0 h2, memB_append, memB_append, memB, memB, memB]
      have e1 : decide (r ≤ f - 1) = decide (r ≤ q) := by rw [decide_eq_decide]; omega
      rw [show ((p, f - 1) : Int × Int).2 = f - 1 from rfl, e1]; rfl
    · rw [hP r h2 h1, memB_append, memB, decide_eq_true (show p ≤ r by omega), decide_eq_true (show r ≤ f - 1 by omega)]; simp
end Go.Proofs.YtmbjjheaddhmeaaGreatDoor
