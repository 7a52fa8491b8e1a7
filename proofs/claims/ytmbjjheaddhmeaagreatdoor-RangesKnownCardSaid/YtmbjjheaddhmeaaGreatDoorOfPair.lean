/- Of, of the program and of the document, side by side. -/
import Derived.Test.YtmbjjheaddhmeaaGreatDoorRefOf
import Derived.Test.YtmbjjheaddhmeaaGreatDoorErr
import Derived.Test.YtmbjjheaddhmeaaGreatDoorDbOk
namespace Go.Proofs.YtmbjjheaddhmeaaGreatDoor
open Go.RowKit

theorem of_status (l : List (Int × Int)) : (∀ j, j < l.length → ofNo (gtS l j) = 0) ∨ ∃ k, k < l.length ∧ (∀ j, j < k → ofNo (gtS l j) = 0) ∧ ofNo (gtS l k) ≠ 0 := by
  have h : ∀ n, (∀ j, j < n → ofNo (gtS l j) = 0) ∨ ∃ k, k < n ∧ (∀ j, j < k → ofNo (gtS l j) = 0) ∧ ofNo (gtS l k) ≠ 0 := by
    intro n
    induction n with
    | zero => exact .inl fun j hj => by omega
    | succ n ih =>
      rcases ih with h | ⟨k, h1, h2, h3⟩
      · by_cases h0 : ofNo (gtS l n) = 0
        · exact .inl fun j hj => by
            rcases Nat.lt_or_ge j n with h' | h'
            · exact h j h'
            · obtain rfl : j = n := by omega
              exact h0
        · exact .inr ⟨n, by omega, h, h0⟩
      · exact .inr ⟨k, by omega, h2, h3⟩
  exact h l.length
theorem ofNo_rng (x : Int × Int) (h : ofNo x ≠ 0) : 1 ≤ ofNo x ∧ ofNo x ≤ 25 := by
  unfold ofNo at *
  split
  · omega
  · split
    · omega
    · rename_i h1 h2; rw [if_neg h1, if_neg h2] at h; exact absurd rfl h

theorem Spans.shape {w : World} {v : Value} {l : List (Int × Int)} (h : Spans w v l) : ∃ a c, v = .slice a l.length c := by
  obtain ⟨a, c, rfl, _⟩ := h; exact ⟨a, c, rfl⟩
theorem Runes.shape {w : World} {v : Value} {l : List Int} (h : Runes w v l) : ∃ a c, v = .slice a l.length c := by
  obtain ⟨a, c, rfl, _⟩ := h; exact ⟨a, c, rfl⟩
theorem spans_copy {v : Value} {l : List (Int × Int)} {w : World} (hv : Spans w v l) (hl : l.length ≤ 1000000) :
    Calls Tryz.prog 17 #[v] w fun e w' => ∃ a c, e = .returned (.slice a l.length c) ∧ Spans w' (.slice a l.length c) l ∧ Below w.heap.size w w' :=
  (copySpans_any v l w hv hl).mono (by
    rintro e w' ⟨v', rfl, ho, hB⟩
    have hs := Spans.of_owns ho
    obtain ⟨a, c, rfl⟩ := hs.shape
    exact ⟨a, c, rfl, hs, hB⟩)

/-- A set whose memory is new, by what it holds. -/
def RepO (w : World) (base : Nat) (v : Value) (P : Int → Bool) (k : Nat) : Prop :=
  ∃ l, IsOwn w base v l ∧ Pts l ∧ Can 0 (l.map nm) ∧ l.length ≤ k ∧ ∀ r, 0 ≤ r → r ≤ 1112191 → memB r (l.map nm) = P r
theorem RepO.rep {w : World} {base : Nat} {v : Value} {P : Int → Bool} {k : Nat} (h : RepO w base v P k) : Rep w v P k := by
  obtain ⟨l, h1, h2⟩ := h; exact ⟨l, h1.isSet, h2⟩
theorem RepO.below {w w' : World} {base : Nat} {v : Value} {P : Int → Bool} {k : Nat} (hb : Below w.heap.size w w') (h : RepO w base v P k) : RepO w' base v P k := by
  obtain ⟨l, ⟨b, u, h1, h2, h3, h4⟩, h5⟩ := h
  exact ⟨l, ⟨b, u, h1, h2, (hb.cell (p := ⟨b, 0, none⟩) (cell_lt h3)).trans h3, ownsRow_below hb h4⟩, h5⟩
/-- A write ahead of it. -/
theorem RepO.set {w : World} {base g o : Nat} {v : Value} {P : Int → Bool} {k : Nat} (h : RepO w base v P k) (hg : g < base) (x : Value) : RepO (w.setCell ⟨g, o, none⟩ x) base v P k := by
  obtain ⟨l, ⟨b, u, h1, h2, h3, h4⟩, h5⟩ := h
  exact ⟨l, ⟨b, u, h1, h2, (World.cell?_setCell_other _ _ _ _ (by intro e; have := congrArg Addr.block e; simp at this; omega)).trans h3, ownsRow_setCell_below h4 hg x⟩, h5⟩
theorem repO_merge {w : World} {base : Nat} {v : Value} {l : List (Int × Int)} {P : Int → Bool} {k : Nat} (hs : IsOwn w base v (mergeF l)) (hp : Pts l) (ho : ∀ x ∈ l, x.1 ≤ x.2) (hw : l.Pairwise (fun a b : Int × Int => a.1 ≤ b.1)) (hk : l.length ≤ k) (hP : ∀ r, 0 ≤ r → r ≤ 1112191 → memB r (l.map nm) = P r) : RepO w base v P k := by
  obtain ⟨h1, h2, h3⟩ := mergeF_can hp ho hw
  exact ⟨_, hs, h2, h1, Nat.le_trans (merge_len l) hk, fun r a b => (h3 r).trans (hP r a b)⟩

/-- What the two make of one list of spans. -/
structure OfP (l : List (Int × Int)) (no k : Int) (e : Value) : Prop where
  told : ∀ X, ErrT X → Calls Tryz.prog 11 #[e, .int .i64 no, .int .i64 k] X fun r w' => r = .returned (.bool true) ∧ Below X.heap.size X w'
  own : ∀ X v, Spans X v l → Calls Tryz.prog 8 #[v] X fun r w' => ∃ q, r = .returned (.tuple #[.pointer q, e]) ∧ Below X.heap.size X w' ∧ (no = 0 → RepO w' X.heap.size (.pointer q) (fun r => memB r (l.map nm)) l.length) ∧ (no ≠ 0 → q = none)
  two : ∀ X v, Spans X v l → Calls Tryz.prog 10 #[v] X fun r w' => ∃ a n c, r = .returned (.tuple #[.agg #[.slice a n c], .int .i64 no, .int .i64 k]) ∧ Below X.heap.size X w' ∧ (no = 0 → RRep w' (.agg #[.slice a n c]) (fun r => memB r (l.map nm)))
  kind : (∃ t u, e = .iface t u) ∨ e = .nilIface

theorem OfP.one {l : List (Int × Int)} {no k : Int} {e : Value} (h : OfP l no k e) : ∀ X v, Spans X v l → Calls Tryz.prog 8 #[v] X fun r w' => ∃ q, r = .returned (.tuple #[.pointer q, e]) ∧ Below X.heap.size X w' ∧ (no = 0 → Rep w' (.pointer q) (fun r => memB r (l.map nm)) l.length) ∧ (no ≠ 0 → q = none) :=
  fun X v hv => (h.own X v hv).mono fun _ _ ⟨q, h1, h2, h3, h4⟩ => ⟨q, h1, h2, fun h0 => (h3 h0).rep, h4⟩

theorem of_pair (l : List (Int × Int)) (hl : l.length ≤ 90000) : ∃ no k e, OfP l no k e ∧ (no = 0 → e = .nilIface ∧ (∀ j, j < l.length → ofNo (gtS l j) = 0)) ∧ (no ≠ 0 → ∃ t u, e = .iface t u) := by
  rcases of_status l with h | ⟨k, h1, h2, h3⟩
  · refine ⟨0, 0, .nilIface, ⟨fun X _ => told_nil 0 X, fun X v hv => ?_, fun X v hv => ?_, .inr rfl⟩, fun _ => ⟨rfl, h⟩, fun h => absurd rfl h⟩
    · refine (of_own v l X hv (by omega)).mono ?_
      rintro e w' (⟨k, hk, _, hn, _⟩ | ⟨h0, p, l', rfl, hp, hw, hs, hB⟩)
      · exact absurd (h k hk) hn
      · obtain ⟨g1, g2⟩ := of_ok h0
        have hr := repO_merge (k := l.length) (P := fun r => memB r (l.map nm)) hs (fun x hx => g1 x (hp.mem_iff.1 hx)) (fun x hx => g2 x (hp.mem_iff.1 hx)) hw (by rw [hp.length_eq]; omega) (fun r _ _ => memB_perm (hp.map nm) r)
        obtain ⟨b, rfl⟩ := hr.rep.ptr
        exact ⟨_, rfl, hB, fun _ => hr, fun h => absurd rfl h⟩
    · refine (rOf_any v l X hv (by omega)).mono ?_
      rintro e w' ⟨⟨k, hk, _, hn, _⟩ | ⟨_, a, n, c, rfl, hR⟩, hB⟩
      · exact absurd (h k hk) hn
      · exact ⟨a, n, c, rfl, hB, fun _ => hR⟩
  · obtain ⟨g1, g2⟩ := ofNo_rng _ h3
    refine ⟨ofNo (gtS l k), k, .iface 81 (.agg #[.int .i64 (ofNo (gtS l k)), .int .i64 0, .int .i64 k]), ⟨fun X hX => told_fault _ _ X g1 g2 hX, fun X v hv => ?_, fun X v hv => ?_, .inl ⟨_, _, rfl⟩⟩, fun h => absurd h h3, fun _ => ⟨_, _, rfl⟩⟩
    · refine (of_own v l X hv (by omega)).mono ?_
      rintro e w' (⟨k', hk, hp, hn, rfl, hB⟩ | ⟨h0, p, l', rfl, hp, hw, hs, hB⟩)
      · have : k' = k := by
          rcases Nat.lt_trichotomy k' k with h | h | h
          · exact absurd (h2 k' h) hn
          · exact h
          · exact absurd (hp k h) h3
        subst this
        exact ⟨_, rfl, hB, fun h => absurd h h3, fun _ => rfl⟩
      · exact absurd (h0 k h1) h3
    · refine (rOf_any v l X hv (by omega)).mono ?_
      rintro e w' ⟨⟨k', hk, hp, hn, rfl⟩ | ⟨h0, _⟩, hB⟩
      · have : k' = k := by
          rcases Nat.lt_trichotomy k' k with h | h | h
          · exact absurd (h2 k' h) hn
          · exact h
          · exact absurd (hp k h) h3
        subst this
        exact ⟨_, _, _, rfl, hB, fun h => absurd h h3⟩
      · exact absurd (h0 k h1) h3
end Go.Proofs.YtmbjjheaddhmeaaGreatDoor
