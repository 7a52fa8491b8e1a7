/- The plain law of the document's read; value, read: the document's reading of a written point. -/
import Derived.Test.YtmbjjheaddhmeaaGreatDoorHex
import Derived.Test.YtmbjjheaddhmeaaGreatDoorRefPrint
import Derived.Test.YtmbjjheaddhmeaaGreatDoorCls
import Derived.Deep.LoopGhost
import Derived.Deep.QuietTactic
import Derived.BigQuiet
import Derived.Laws.Strings2
namespace Go.Proofs.YtmbjjheaddhmeaaGreatDoor
section
open Go.RowKit

/-- A digit's value; -1: it is none. -/
def dvF (c : UInt8) : Int := if 48 ≤ c.toNat ∧ c.toNat ≤ 57 then (c.toNat : Int) - 48 else if 97 ≤ c.toNat ∧ c.toNat ≤ 102 then (c.toNat : Int) - 87 else -1
theorem dvF_bd (c : UInt8) : -1 ≤ dvF c ∧ dvF c ≤ 15 := by
  unfold dvF; split
  · omega
  · split <;> omega
theorem dvF_hexD (d : Nat) (h : d < 16) : dvF (hexD d) = d := by
  have : ∀ d : Fin 16, dvF (hexD d.1) = (d.1 : Int) := by decide
  exact this ⟨d, h⟩
theorem hexD_dvF (c : UInt8) (h : 0 ≤ dvF c) : hexD (dvF c).toNat = c := by
  unfold dvF at h ⊢
  split
  · rename_i h1
    apply UInt8.toNat_inj.1
    rw [show ((c.toNat : Int) - 48).toNat = c.toNat - 48 by omega]
    unfold hexD
    rw [if_pos (by omega), UInt8.toNat_ofNat']
    omega
  · rename_i h1
    rw [if_neg h1] at h
    split
    · rename_i h2
      apply UInt8.toNat_inj.1
      rw [show ((c.toNat : Int) - 87).toNat = c.toNat - 87 by omega]
      unfold hexD
      rw [if_neg (by omega), UInt8.toNat_ofNat']
      omega
    · rename_i h2; rw [if_neg h2] at h; omega

def sumF (l : List UInt8) (acc : Int) : Int := l.foldl (fun s c => 16 * s + dvF c) acc
theorem sumF_snoc (l : List UInt8) (c : UInt8) (acc : Int) : sumF (l ++ [c]) acc = 16 * sumF l acc + dvF c := by simp [sumF]
theorem hexK_dv (g : Nat) : ∀ u, u < 16 ^ (g + 1) → (∀ c ∈ hexK g u, 0 ≤ dvF c) ∧ sumF (hexK g u) 0 = u := by
  induction g with
  | zero =>
    intro u h
    have hu : u < 16 := by simpa using h
    rw [hexK]
    refine ⟨fun c hc => ?_, ?_⟩
    · obtain rfl : c = hexD u := by simpa using hc
      rw [dvF_hexD u hu]; omega
    · show 16 * 0 + dvF (hexD u) = u
      rw [dvF_hexD u hu]; omega
  | succ g ih =>
    intro u h
    rw [hexK]
    split
    · rename_i hu
      refine ⟨fun c hc => ?_, ?_⟩
      · obtain rfl : c = hexD u := by simpa using hc
        rw [dvF_hexD u hu]; omega
      · show 16 * 0 + dvF (hexD u) = u
        rw [dvF_hexD u hu]; omega
    · obtain ⟨i1, i2⟩ := ih (u / 16) (by rw [Nat.pow_succ] at h; omega)
      have hm : u % 16 < 16 := by omega
      refine ⟨fun c hc => ?_, ?_⟩
      · rcases List.mem_append.1 hc with hc | hc
        · exact i1 c hc
        · obtain rfl : c = hexD (u % 16) := by simpa using hc
          rw [dvF_hexD _ hm]; omega
      · rw [sumF_snoc, i2, dvF_hexD _ hm]; omega
theorem sumF_bd (l : List UInt8) (h : ∀ c ∈ l, 0 ≤ dvF c) : ∀ acc, 0 ≤ acc → 0 ≤ sumF l acc ∧ sumF l acc < (acc + 1) * 16 ^ l.length := by
  induction l with
  | nil => intro acc ha; simp [sumF]; omega
  | cons c l ih =>
    intro acc ha
    have h1 := h c (by simp)
    have h2 := (dvF_bd c).2
    have := ih (fun x hx => h x (by simp [hx])) (16 * acc + dvF c) (by omega)
    refine ⟨this.1, ?_⟩
    have h3 : sumF (c :: l) acc = sumF l (16 * acc + dvF c) := rfl
    rw [h3, List.length_cons, Int.pow_succ]
    have h4 : (16 * acc + dvF c + 1) * 16 ^ l.length ≤ ((acc + 1) * 16) * 16 ^ l.length := Int.mul_le_mul_of_nonneg_right (by omega) (Int.pow_nonneg (by omega))
    have h5 : (acc + 1) * (16 ^ l.length * 16) = ((acc + 1) * 16) * 16 ^ l.length := by rw [Int.mul_assoc, Int.mul_comm (16 ^ l.length) 16]
    omega

/-- The two forms of a written point. -/
theorem wr_hi {r : Int} (h : ptB r = true) (hx : 1114111 < r) : ∃ m : Nat, r = (m : Int) + 1114112 ∧ 128 ≤ m ∧ m < 256 ∧ wr r = [92, 120, hexD (m / 16), hexD (m % 16)] := by
  simp only [ptB, decide_eq_true_eq] at h
  obtain ⟨m, hm⟩ : ∃ m : Nat, r = (m : Int) + 1114112 := ⟨(r - 1114112).toNat, by omega⟩
  refine ⟨m, hm, by omega, by omega, ?_⟩
  unfold wr
  rw [if_pos hx, show (r - 1114112).toNat = m by omega, hexK_two m (by omega) (by omega)]; rfl
theorem wr_lo {r : Int} (h : ptB r = true) (hx : ¬ 1114111 < r) : ∃ m : Nat, r = m ∧ m ≤ 1114111 ∧ wr r = [92, 117, 123] ++ hexK 5 m ++ [125] := by
  simp only [ptB, decide_eq_true_eq] at h
  refine ⟨r.toNat, by omega, by omega, ?_⟩
  unfold wr
  rw [if_neg hx]

/-- What the document's read has passed over: no written point ends ahead of the place e, nor at it with fewer digits. -/
def RdJ (l : List UInt8) (e n : Nat) : Prop := ∀ r, rdF l = some r → e ≤ (wr r).length ∧ ((wr r).length = e → if 1114111 < r then n ≤ 2 else n + 4 ≤ e)
theorem RdJ.start (l : List UInt8) : RdJ l 1 1 := fun r h => by
  obtain ⟨h1, h2⟩ := rdF_spec h
  obtain ⟨_, a2, _⟩ := rd_comp h1 h2
  exact ⟨by omega, fun h => by omega⟩
theorem RdJ.zero (l : List UInt8) : RdJ l 0 9 := fun r h => by
  obtain ⟨h1, h2⟩ := rdF_spec h
  obtain ⟨_, a2, _⟩ := rd_comp h1 h2
  exact ⟨by omega, fun h => by omega⟩
theorem RdJ.next {l : List UInt8} {e : Nat} (h : RdJ l e 9) : RdJ l (e + 1) 1 := fun r hr => by
  obtain ⟨h1, h2⟩ := h r hr
  obtain ⟨k1, k2⟩ := rdF_spec hr
  obtain ⟨_, a2, a3, _⟩ := rd_comp k1 k2
  have hne : (wr r).length ≠ e := fun h => by
    have := h2 h
    split at this <;> omega
  refine ⟨by omega, fun h => ?_⟩
  split
  · omega
  · rename_i hx
    obtain ⟨m, rfl, hm, hw⟩ := wr_lo k1 hx
    have h9 : 1 ≤ (hexK 5 m).length := List.length_pos_iff.2 (hexK_ne 5 m)
    have hlen : (wr (m : Int)).length = (hexK 5 m).length + 4 := by rw [hw]; simp
    omega
theorem RdJ.none {l : List UInt8} {e : Nat} (h : RdJ l e 9) (he : e = 10 ∨ l.length ≤ e) : rdF l = Option.none := by
  cases hr : rdF l with
  | none => rfl
  | some r =>
    obtain ⟨h1, h2⟩ := h.next r hr
    obtain ⟨k1, k2⟩ := rdF_spec hr
    obtain ⟨_, a2, a3, a4, _⟩ := rd_comp k1 k2
    omega

/-- What is asked at a place e and a number n of digits: is it a point of two digits behind a sign x, is it one in braces? -/
def CA (l : List UInt8) (e n : Nat) : Prop := e = 4 ∧ n = 2 ∧ l.take 2 = [92, 120]
def CB (l : List UInt8) (e n : Nat) : Prop := e = n + 4 ∧ l.take 3 = [92, 117, 123] ∧ l[e - 1]? = some 125 ∧ n ≤ 6
theorem RdJ.step {l : List UInt8} {e n : Nat} (h : RdJ l e n) (ha : ¬ CA l e n) (hb : ¬ CB l e n) : RdJ l e (n + 1) := fun r hr => by
  obtain ⟨h1, h2⟩ := h r hr
  obtain ⟨k1, k2⟩ := rdF_spec hr
  refine ⟨h1, fun hl => ?_⟩
  have h3 := h2 hl
  obtain ⟨t, ht⟩ := k2
  split
  · rename_i hx
    rw [if_pos hx] at h3
    obtain ⟨m, hm, _, _, hw⟩ := wr_hi k1 hx
    rw [hw] at hl ht
    have : e = 4 := by simpa using hl.symm
    have hn : n ≠ 2 := fun hn => ha ⟨this, hn, by rw [← ht]; rfl⟩
    omega
  · rename_i hx
    rw [if_neg hx] at h3
    obtain ⟨m, rfl, hm, hw⟩ := wr_lo k1 hx
    have h6 := hexK_len 5 m
    rw [hw] at hl ht
    have hel : e = (hexK 5 m).length + 4 := by simp at hl; omega
    have hn : n + 4 ≠ e := fun hn => by
      refine hb ⟨hn.symm, by rw [← ht]; simp, ?_, by omega⟩
      have e1 : e - 1 = ([92, 117, 123] ++ hexK 5 m).length := by rw [List.length_append, hel]; simp; omega
      rw [← ht, e1, List.append_assoc, List.append_assoc, ← List.append_assoc, List.getElem?_append_right (Nat.le_refl _), Nat.sub_self]
      rfl
    omega

/-- Two digits behind a sign x. -/
theorem rd_two {l t : List UInt8} {a b : UInt8} (hl : l = 92 :: 120 :: a :: b :: t) :
    (8 ≤ dvF a ∧ 0 ≤ dvF b → rdF l = some (1114112 + 16 * dvF a + dvF b) ∧ (wr (1114112 + 16 * dvF a + dvF b)).length = 4 ∧ ptB (1114112 + 16 * dvF a + dvF b) = true) ∧ (¬ (8 ≤ dvF a ∧ 0 ≤ dvF b) → rdF l = none) := by
  constructor
  · rintro ⟨h1, h2⟩
    have b1 := (dvF_bd a).2; have b2 := (dvF_bd b).2
    have hp : ptB (1114112 + 16 * dvF a + dvF b) = true := by simp only [ptB, decide_eq_true_eq]; omega
    obtain ⟨m, hm, _, _, hw⟩ := wr_hi hp (by omega)
    have e1 : m / 16 = (dvF a).toNat := by omega
    have e2 : m % 16 = (dvF b).toNat := by omega
    rw [e1, e2, hexD_dvF a (by omega), hexD_dvF b h2] at hw
    exact ⟨rdF_some hp ⟨t, by rw [hw, hl]; rfl⟩, by rw [hw]; rfl, hp⟩
  · intro h
    refine rdF_none fun r hr hp => h ?_
    obtain ⟨t', ht⟩ := hp
    by_cases hx : 1114111 < r
    · obtain ⟨m, hm, g1, g2, hw⟩ := wr_hi hr hx
      rw [hw, hl] at ht
      simp only [List.cons_append, List.cons.injEq, List.nil_append, true_and] at ht
      obtain ⟨rfl, rfl, _⟩ := ht
      rw [dvF_hexD _ (by omega), dvF_hexD _ (by omega)]
      omega
    · obtain ⟨m, rfl, hm, hw⟩ := wr_lo hr hx
      rw [hw, hl] at ht
      simp at ht

/-- Digits in braces. -/
theorem rd_brace {l t D : List UInt8} (hl : l = [92, 117, 123] ++ D ++ 125 :: t) (h6 : D.length ≤ 6) (hJ : ∀ r, rdF l = some r → D.length + 4 ≤ (wr r).length) :
    (∀ r, rdF l = some r → (∀ c ∈ D, 0 ≤ dvF c) ∧ r = sumF D 0 ∧ sumF D 0 ≤ 1114111 ∧ wr r = [92, 117, 123] ++ D ++ [125]) ∧
    ((∀ c ∈ D, 0 ≤ dvF c) → ptB (sumF D 0) = true → wr (sumF D 0) = [92, 117, 123] ++ D ++ [125] → rdF l = some (sumF D 0)) := by
  constructor
  · intro r hr
    have hlen := hJ r hr
    obtain ⟨hp, t', ht⟩ := rdF_spec hr
    by_cases hx : 1114111 < r
    · obtain ⟨m, hm, g1, g2, hw⟩ := wr_hi hp hx
      rw [hw, hl] at ht
      simp at ht
    · obtain ⟨m, rfl, hm, hw⟩ := wr_lo hp hx
      obtain ⟨d1, d2⟩ := hexK_dv 5 m (by omega)
      have h7 := hexK_len 5 m
      have hw0 := hw
      rw [hw] at ht hlen
      have hD : D.length ≤ (hexK 5 m).length := by simp at hlen; omega
      have e : hexK 5 m ++ 125 :: t' = D ++ 125 :: t := by
        rw [hl] at ht
        simpa using ht
      have hDp : D = (hexK 5 m).take D.length := by
        have := congrArg (List.take D.length) e
        rw [List.take_append_of_le_length hD] at this
        simpa using this.symm
      have hEq : D.length = (hexK 5 m).length := by
        rcases Nat.lt_or_ge D.length (hexK 5 m).length with h | h
        · exfalso
          have h8 : (hexK 5 m ++ 125 :: t')[D.length]? = (D ++ 125 :: t)[D.length]? := by rw [e]
          rw [List.getElem?_append_left h, List.getElem?_append_right (Nat.le_refl _), Nat.sub_self] at h8
          have hmem : (125 : UInt8) ∈ hexK 5 m := List.mem_of_getElem? h8
          have := d1 _ hmem
          exact absurd this (by decide)
        · omega
      have hDH : D = hexK 5 m := by rw [hDp, hEq, List.take_length]
      rw [hDH]
      exact ⟨d1, d2.symm, by rw [d2]; omega, hw0⟩
  · intro hd hp hw
    exact rdF_some hp ⟨t, by rw [hw, hl]; simp⟩
end

section
open Go.RowKit

theorem digs_get (k : Nat) (h : k < 16) : digs[k]'(by show k < 16; exact h) = hexD k := by
  have : ∀ d : Fin 16, digs[d.1]'(by show d.1 < 16; exact d.2) = hexD d.1 := by decide +kernel
  exact this ⟨k, h⟩

set_option maxRecDepth 100000 in
set_option maxHeartbeats 1000000 in
theorem rvalue_any (b : UInt8) (w : World) :
    Calls Tryz.prog 124 #[.int .u8 b.toNat] w fun e w' => e = .returned (.int .i64 (dvF b)) ∧ w' = w := by
  go_enter Tryz.func124, Tryz.ntmps124
  go_wp2
  go_loopg [3] (16 : Nat) (fun gk i wr => ∃ k : Nat, i = .int .i64 k ∧ k ≤ 16 ∧ 16 - k ≤ gk ∧ Hid (∀ j, j < k → hexD j ≠ b) ∧ wr = w)
  case atStart => exact ⟨0, rfl, by omega, by omega, fun j hj => by omega, rfl⟩
  case round =>
    obtain ⟨k, rfl, hk, hg, HN, rfl⟩ := hrel
    by_cases hk1 : k < 16
    · have hx := digs_get k hk1
      unfold digs at hx
      have hk2 : (k : Int) < 16 := by omega
      have hk3 : (0 : Int) ≤ (k : Int) := by omega
      by_cases hb : hexD k = b
      · have hd : dvF b = k := by rw [← hb]; exact dvF_hexD k hk1
        have hq : (((hexD k).toNat : Int) == (b.toNat : Int)) = true := by rw [hb]; simp
        have HD := Lib.hid hd
        generalize hexD k = c at hx hq
        clear hd hb
        go_wp2
        go_ret
        exact ⟨ret_i HD.out.symm, rfl⟩
      · have hq : (((hexD k).toNat : Int) == (b.toNat : Int)) = false := by
          rw [beq_eq_false_iff_ne]; intro h; exact hb (UInt8.toNat_inj.1 (by omega))
        have HB := Lib.hid hb
        have HC := Lib.hid (rfl : hexD k = hexD k)
        generalize hexD k = c at hx hq
        clear hb HC
        go_wp2
        go_roundg (gk - 1)
        case measure => omega
        case rel =>
          refine ⟨k + 1, by go_num, by omega, by omega, fun j hj => ?_, rfl⟩
          rcases Nat.lt_or_ge j k with h | h
          · exact HN.out j h
          · obtain rfl : j = k := by omega
            exact HB.out
    · obtain rfl : k = 16 := by omega
      have hd : dvF b = -1 := by
        have h1 := dvF_bd b
        rcases Int.lt_or_le (dvF b) 0 with h | h
        · omega
        · exact absurd (hexD_dvF b h) (HN.out _ (by omega))
      have HD := Lib.hid hd
      clear hd
      go_wp2
      go_ret
      exact ⟨ret_i HD.out.symm, rfl⟩

theorem ext_take (s : ByteArray) (k j : Nat) : (s.extract k (k + j)).toList = (s.data.toList.drop k).take j := by
  rw [ByteArray.toList_eq, Lib.extract_data, Nat.add_sub_cancel_left]
theorem ext_bytes (s : ByteArray) (k j : Nat) : s.extract k (k + j) = ⟨((s.data.toList.drop k).take j).toArray⟩ := by
  rw [← ext_take, ByteArray.toList_eq]
theorem drop_byte {s : ByteArray} {k j : Nat} {c : UInt8} (h : (s.data.toList.drop k)[j]? = some c) : k + j < s.size ∧ ∀ hk : k + j < s.size, s[k + j]'hk = c := by
  rw [List.getElem?_drop] at h
  obtain ⟨h1, h2⟩ := List.getElem?_eq_some_iff.1 h
  have : k + j < s.size := by rw [Lib.size_eq]; exact h1
  refine ⟨this, fun hk => ?_⟩
  rw [← h2]
  rfl

theorem drop_at {s : ByteArray} {k e E : Nat} {c : UInt8} (h : (s.data.toList.drop k)[e]? = some c) (he : E = k + e) : ∃ h : E < s.size, s[E]'h = c := by
  subst he
  obtain ⟨h1, h2⟩ := drop_byte h
  exact ⟨h1, h2 h1⟩
theorem brace_split {l : List UInt8} {n e : Nat} (he : e = n + 4) (h3 : l.take 3 = [92, 117, 123]) (hc : l[e - 1]? = some 125) : ∃ D t, l = [92, 117, 123] ++ D ++ 125 :: t ∧ D.length = n := by
  obtain ⟨h1, h2⟩ := List.getElem?_eq_some_iff.1 hc
  refine ⟨(l.drop 3).take n, l.drop (n + 4), ?_, by rw [List.length_take, List.length_drop]; omega⟩
  have e1 : l = l.take 3 ++ l.drop 3 := (List.take_append_drop 3 l).symm
  have e2 : l.drop 3 = (l.drop 3).take n ++ (l.drop 3).drop n := (List.take_append_drop n _).symm
  have e3 : (l.drop 3).drop n = 125 :: l.drop (n + 4) := by
    rw [List.drop_drop, List.drop_eq_getElem_cons (by omega), show 3 + n + 1 = n + 4 by omega]
    have : 3 + n = e - 1 := by omega
    simp only [this, h2]
  rw [← e3, List.append_assoc, ← e2, ← h3]
  exact e1

def RrQ (l : List UInt8) (k : Nat) (e : Ending) : Prop :=
  ∃ a b : Int, e = .returned (.tuple #[.int .i64 a, .int .i64 b]) ∧ ((∃ r, rdF l = some r ∧ a = numP r ∧ b = k + ((wr r).length : Int)) ∨ (rdF l = none ∧ a = -1))

set_option maxRecDepth 100000 in
set_option maxHeartbeats 8000000 in
theorem rread_any (s : ByteArray) (k : Nat) (w : World) (hs : s.size ≤ 1000000) (hk : k ≤ s.size) :
    Calls Tryz.prog 77 #[.string s, .int .i64 k] w fun e w' => RrQ (s.data.toList.drop k) k e ∧ Below w.heap.size w w' := by
  obtain ⟨l, hl⟩ : ∃ l, s.data.toList.drop k = l := ⟨_, rfl⟩
  have hll : l.length = s.size - k := by rw [← hl, List.length_drop, ← Lib.size_eq]
  have HL := Lib.hid hl
  have HLL := Lib.hid hll
  rw [hl]
  clear hl hll
  go_enter Tryz.func77, Tryz.ntmps77
  go_wp2
  go_loopg [6] (10 : Nat) (fun gk i wr => ∃ (e E : Nat), i = .int .i64 E ∧ e ≤ 10 ∧ E ≤ s.size ∧ 10 - e ≤ gk ∧ Hid (E = k + e) ∧ Hid (RdJ l e 9) ∧ Below w.heap.size w wr)
  case atStart => exact ⟨0, k, rfl, by omega, by omega, by omega, rfl, RdJ.zero l, Below.refl _ _⟩
  case round =>
    obtain ⟨e, E, rfl, he, hE, hg, HE, HJ, hb⟩ := hrel
    have hEk := HE.out
    by_cases hc : e < 10 ∧ E < s.size
    · obtain ⟨hc1, hc2⟩ := hc
      have g1 : (E : Int) < (s.size : Int) := by omega
      have g2 : (E : Int) < (k : Int) + 10 := by omega
      have HJ2 := Lib.hid HJ.out.next
      obtain ⟨G, rfl⟩ : ∃ G, G = gk := ⟨_, rfl⟩
      clear hEk HJ
      go_upto_if 3 with (fail)
      go_loopg [7] (9 : Nat) (fun gx i wx => ∃ n : Nat, i = .int .i64 n ∧ 1 ≤ n ∧ n ≤ 9 ∧ 9 - n ≤ gx ∧ Hid (RdJ l (e + 1) n) ∧ Below w.heap.size w wx)
      case atStart => exact ⟨1, rfl, by omega, by omega, by omega, HJ2, hb⟩
      case round =>
        clear HJ2 hb
        obtain ⟨n, rfl, hn1, hn2, hgx, HJ, hb⟩ := hrel
        by_cases hn9 : n < 9
        · have g3 : (n : Int) < 9 := by omega
          have hk0 : (0 : Int) ≤ (k : Int) := by omega
          have hk2 : ((k : Int) + 2).toNat = k + 2 := by omega
          have hk3 : ((k : Int) + 3).toNat = k + 3 := by omega
          have hEt : ((E : Int) + 1).toNat = E + 1 := by omega
          by_cases hA : CA l (e + 1) n
          · obtain ⟨a1, rfl, a3⟩ := hA
            obtain rfl : e = 3 := by omega
            obtain ⟨a, b, t, hlt⟩ : ∃ a b t, l = 92 :: 120 :: a :: b :: t := by
              have h4 : 4 ≤ l.length := by have := HLL.out; have := HE.out; omega
              match l, h4, a3 with
              | [x, y, z, u], _, h => simp at h; exact ⟨z, u, [], by rw [h.1, h.2]⟩
              | x :: y :: z :: u :: v, _, h => simp at h; exact ⟨z, u, v, by rw [h.1, h.2]⟩
            have ha := drop_byte (s := s) (k := k) (j := 2) (c := a) (by rw [HL.out, hlt]; rfl)
            have hbb := drop_byte (s := s) (k := k) (j := 3) (c := b) (by rw [HL.out, hlt]; rfl)
            have hE4 : (E : Int) + 1 - (k : Int) = 4 := by have := HE.out; omega
            have hx : ((s.extract k (k + 2)).toList == [92, 120]) = true := by rw [ext_take, HL.out, a3]; rfl
            obtain ⟨sz1, sa⟩ := ha
            obtain ⟨sz2, sb⟩ := hbb
            have hsa := sa sz1
            have hsb := sb sz2
            have hz2 : (k : Int) + 2 < (s.size : Int) := by omega
            have hz3 : (k : Int) + 3 < (s.size : Int) := by omega
            have hz4 : (k : Int) + 2 ≤ (s.size : Int) := by omega
            obtain ⟨T1, T2⟩ := rd_two hlt
            have hva := fun W => rvalue_any a W
            have hvb := fun W => rvalue_any b W
            clear sa sb a3
            have hb1 := dvF_bd a
            have hb2 := dvF_bd b
            by_cases hgood : 8 ≤ dvF a ∧ 0 ≤ dvF b
            · obtain ⟨t1, t2, t3⟩ := T1 hgood
              obtain ⟨q1, q2⟩ := hgood
              have hn := fun W => (rNumber_any (1114112 + 16 * dvF a + dvF b) W).mono (R' := fun e w' => e = .returned (.int .i64 (numP (1114112 + 16 * dvF a + dvF b))) ∧ w' = W) (fun e w' h => ⟨by rw [h.1, if_pos t3], h.2.symm⟩)
              have HR : Hid (RrQ l k (.returned (.tuple #[.int .i64 (numP (1114112 + 16 * dvF a + dvF b)), .int .i64 ((E : Int) + 1)]))) := ⟨_, _, rfl, .inl ⟨_, t1, rfl, by rw [t2]; have := HE.out; omega⟩⟩
              clear T1 T2 t1 t2 t3 HJ
              generalize dvF a = da at *
              generalize dvF b = db at *
              go_wp2
              go_quiet ((first | (go_at_call 124; with_reducible exact Calls.quiet_of_same (hva _)) | (go_at_call 124; with_reducible exact Calls.quiet_of_same (hvb _))))
              go_wp2_with (go_at_call 35; with_reducible refine (hn _).mono ?_; rintro e w' ⟨rfl, rfl⟩)
              go_ret2
              exact ⟨HR.out, below_drewN hb _⟩
            · have HJ2 : Hid (RdJ l 4 3) := fun r hr => by rw [T2 hgood] at hr; cases hr
              have hg2 : ¬ 8 ≤ dvF a ∨ (8 ≤ dvF a ∧ ¬ 0 ≤ dvF b) := by omega
              clear T1 T2 HJ hgood
              generalize dvF a = da at *
              generalize dvF b = db at *
              rcases hg2 with q1 | ⟨q1, q2⟩
              · go_wp2
                go_quiet ((first | (go_at_call 124; with_reducible exact Calls.quiet_of_same (hva _)) | (go_at_call 124; with_reducible exact Calls.quiet_of_same (hvb _))))
                go_wp2
                go_roundg (gk - 1)
                case measure => omega
                case rel => exact ⟨3, by go_num, by omega, by omega, by omega, HJ2, below_drewN hb _⟩
              · go_wp2
                go_quiet ((first | (go_at_call 124; with_reducible exact Calls.quiet_of_same (hva _)) | (go_at_call 124; with_reducible exact Calls.quiet_of_same (hvb _))))
                go_wp2
                go_roundg (gk - 1)
                case measure => omega
                case rel => exact ⟨3, by go_num, by omega, by omega, by omega, HJ2, below_drewN hb _⟩
          · have hA3 : ¬ (E : Int) + 1 - (k : Int) = 4 ∨ ((E : Int) + 1 - (k : Int) = 4 ∧ ((s.extract k (k + 2)).toList == [92, 120]) = false) ∨ ((E : Int) + 1 - (k : Int) = 4 ∧ ((s.extract k (k + 2)).toList == [92, 120]) = true ∧ ¬ (n : Int) = 2) := by
              by_cases q1 : (E : Int) + 1 - (k : Int) = 4
              · refine .inr ?_
                cases q2 : (s.extract k (k + 2)).toList == [92, 120] with
                | false => exact .inl ⟨q1, rfl⟩
                | true =>
                  refine .inr ⟨q1, rfl, fun q3 => hA ⟨by have := HE.out; omega, by omega, ?_⟩⟩
                  rw [ext_take, HL.out] at q2
                  exact eq_of_beq q2
              · exact .inl q1
            have hz4 : (E : Int) + 1 - (k : Int) = 4 → (k : Int) + 2 ≤ (s.size : Int) := by omega
            go_upto_region 7 with (fail)
            go_cut [44] from 25 to 135 (fun s44 wx => s44 = .bool false ∧ wx = wr)
            case first =>
              rcases hA3 with q1 | ⟨q1, q2⟩ | ⟨q1, q2, q3⟩
              · go_wp2
                go_meet
                exact ⟨rfl, rfl⟩
              · have hz := hz4 q1
                go_wp2
                go_meet
                exact ⟨rfl, rfl⟩
              · have hz := hz4 q1
                have q4 : ((n : Int) == 2) = false := by simpa using q3
                go_wp2
                go_meet
                exact ⟨rfl, rfl⟩
            case rest =>
              obtain ⟨rfl, rfl⟩ := hcut
              clear hA3
              by_cases hB : CB l (e + 1) n
              · obtain ⟨a1, a2, a3, a4⟩ := hB
                obtain ⟨D, t, hlt, hDn⟩ : ∃ D t, l = [92, 117, 123] ++ D ++ 125 :: t ∧ D.length = n := brace_split (by omega) a2 a3
                have hJ' : ∀ r, rdF l = some r → D.length + 4 ≤ (Go.Proofs.YtmbjjheaddhmeaaGreatDoor.wr r).length := fun r hr => by have := (HJ.out r hr).1; omega
                obtain ⟨R1, R2⟩ := rd_brace hlt (by omega) hJ'
                have hby : ∀ j (h : j < D.length), k + 3 + j < s.size ∧ ∀ hk : k + 3 + j < s.size, s[k + 3 + j]'hk = D[j] := fun j h => by
                  have := drop_byte (s := s) (k := k) (j := 3 + j) (c := D[j]) (by rw [HL.out, hlt, List.append_assoc, List.getElem?_append_right (by simp), List.getElem?_append_left (by simp; omega)]; simp [List.getElem?_eq_getElem h])
                  rw [← Nat.add_assoc] at this; exact this
                have hE4 : (s.data.toList.drop k)[e]? = some 125 := by rw [HL.out]; exact a3
                obtain ⟨sE, hse⟩ := drop_at (E := E) hE4 HE.out
                have q1 : (E : Int) + 1 - (k : Int) = (n : Int) + 4 := by have := HE.out; omega
                have q2 : ((s.extract k (k + 3)).toList == [92, 117, 123]) = true := by rw [ext_take, HL.out, a2]; rfl
                have q3 : (k : Int) + 3 ≤ (s.size : Int) := by omega
                have q5 : (n : Int) ≤ 6 := by omega
                have A1 := Lib.hid a1
                have HJ3 := Lib.hid hJ'
                have HBY := Lib.hid hby
                have HR1 := Lib.hid R1
                have HR2 := Lib.hid R2
                have HDn := Lib.hid hDn
                have HLT := Lib.hid hlt
                obtain ⟨W, rfl⟩ : ∃ W : World, W = wc := ⟨_, rfl⟩
                clear hE4 a1 a2 a3 hJ' hby R1 R2 hlt hDn
                go_upto_if 3 with (fail)
                go_loopg [10, 11] (E : Nat) (fun gy x i wx => ∃ (j J : Nat) (v : Int), x = .int .i64 v ∧ i = .int .i64 J ∧ Hid (J = k + 3 + j) ∧ J ≤ E ∧ E - J ≤ gy ∧ 0 ≤ v ∧ v ≤ 16777215 ∧ Hid (v = sumF (D.take j) 0 ∧ ∀ c ∈ D.take j, 0 ≤ dvF c) ∧ wx = W)
                case atStart => exact ⟨0, k + 3, 0, rfl, by go_num, rfl, by have := A1.out; have := HE.out; omega, by omega, by omega, by omega, ⟨rfl, fun c hc => by simp at hc⟩, rfl⟩
                case round =>
                  obtain ⟨j, J, v, rfl, rfl, HJJ, hJE, hgy, hv0, hv1, HV, rfl⟩ := hrel
                  by_cases hj : J < E
                  · have hjD : j < D.length := by have := HJJ.out; have := A1.out; have := HE.out; have := HDn.out; omega
                    obtain ⟨sJ, hsJ⟩ : ∃ h : J < s.size, s[J]'h = D[j]'hjD := by
                      have hJ := HJJ.out
                      subst hJ
                      exact ⟨(HBY.out j hjD).1, (HBY.out j hjD).2 _⟩
                    have hT : D.take (j + 1) = D.take j ++ [D[j]] := by rw [List.take_add_one, List.getElem?_eq_getElem hjD]; rfl
                    have hS : sumF (D.take (j + 1)) 0 = 16 * v + dvF D[j] := by rw [hT, sumF_snoc, ← HV.out.1]
                    have hS2 : 0 ≤ dvF D[j] → (∀ c ∈ D.take (j + 1), 0 ≤ dvF c) ∧ 16 * v + dvF D[j] ≤ 16777215 := fun h0 => by
                      have h1 : ∀ c ∈ D.take (j + 1), 0 ≤ dvF c := fun c hc => by
                        rw [hT] at hc
                        rcases List.mem_append.1 hc with hc | hc
                        · exact HV.out.2 c hc
                        · obtain rfl : c = D[j] := by simpa using hc
                          exact h0
                      refine ⟨h1, ?_⟩
                      have h2 := (sumF_bd _ h1 0 (by omega)).2
                      rw [hS] at h2
                      have h3 : (16 : Int) ^ (D.take (j + 1)).length ≤ 16 ^ 6 := by
                        have := Nat.pow_le_pow_right (n := 16) (by omega) (show (D.take (j + 1)).length ≤ 6 by rw [List.length_take]; have := HDn.out; omega)
                        exact_mod_cast this
                      omega
                    have hS3 : ¬ 0 ≤ dvF D[j] → rdF l = none := fun h0 => by
                      cases hr : rdF l with
                      | none => rfl
                      | some r => exact absurd ((HR1.out r hr).1 _ (List.getElem_mem hjD)) h0
                    have hb1 := dvF_bd D[j]
                    have hva := fun W => rvalue_any D[j] W
                    have HS := Lib.hid hS
                    have hj2 : (J : Int) < (E : Int) := by omega
                    have hj3 : (J : Int) < (s.size : Int) := by omega
                    clear hT hS
                    generalize D[j] = c at *
                    by_cases h0 : 0 ≤ dvF c
                    · obtain ⟨t1, t2⟩ := hS2 h0
                      have HT := Lib.hid t1
                      clear hS2 hS3 t1
                      generalize dvF c = d at *
                      go_wp2_with (go_at_call 124; with_reducible refine (hva _).mono ?_; rintro e w' ⟨rfl, rfl⟩)
                      go_roundg (gk - 1)
                      case measure => omega
                      case rel => exact ⟨j + 1, J + 1, _, rfl, by go_num, by show J + 1 = k + 3 + (j + 1); have := HJJ.out; omega, by omega, by omega, by omega, t2, ⟨HS.out.symm, HT.out⟩, rfl⟩
                    · have HN := Lib.hid (hS3 h0)
                      clear hS2 hS3
                      generalize dvF c = d at *
                      go_wp2_with (go_at_call 124; with_reducible refine (hva _).mono ?_; rintro e w' ⟨rfl, rfl⟩)
                      go_ret2
                      exact ⟨⟨-1, 0, rfl, .inr ⟨HN.out, rfl⟩⟩, hb⟩
                  · obtain rfl : J = E := by omega
                    have hjn : j = D.length := by have := HJJ.out; have := A1.out; have := HE.out; have := HDn.out; omega
                    obtain ⟨hv, hd⟩ := HV.out
                    rw [hjn, List.take_length] at hv hd
                    have HV2 := Lib.hid hv
                    have HD2 := Lib.hid hd
                    clear hv hd hjn HV
                    have hj5 : (J : Int) + 1 ≤ (s.size : Int) := by omega
                    have hj6 : (k : Int) ≤ (J : Int) + 1 := by omega
                    by_cases h1 : 1114111 < v
                    · have hN : Hid (rdF l = none) := by
                        show _ = _
                        cases hr : rdF l with
                        | none => rfl
                        | some r => have := (HR1.out r hr).2.2.1; have := HV2.out; omega
                      have hd1 : decide (1114111 < v) = true := by simpa using h1
                      go_wp2
                      go_quiet (fail)
                      go_wp2
                      go_ret2
                      exact ⟨⟨-1, 0, rfl, .inr ⟨hN.out, rfl⟩⟩, below_drewN hb _⟩
                    · have hd1 : decide (1114111 < v) = false := by simpa using h1
                      cases hp : ptB v with
                      | false =>
                        have hN : Hid (rdF l = none) := by
                          show _ = _
                          cases hr : rdF l with
                          | none => rfl
                          | some r => have h2 := (HR1.out r hr).2.1; have h3 := (rdF_spec hr).1; rw [h2, ← HV2.out, hp] at h3; cases h3
                        have hn := fun W => (rNumber_any v W).mono (R' := fun e w' => e = .returned (.int .i64 (-1)) ∧ w' = W) (fun e w' h => ⟨by rw [h.1, hp]; rfl, h.2.symm⟩)
                        go_wp2
                        go_quiet ((go_at_call 35; with_reducible exact Calls.quiet_of_same (hn _)))
                        go_wp2
                        go_ret2
                        exact ⟨⟨-1, 0, rfl, .inr ⟨hN.out, rfl⟩⟩, below_drewN hb _⟩
                      | true =>
                        have hnp := numP_pt hp
                        have hn := fun W => (rNumber_any v W).mono (R' := fun e w' => e = .returned (.int .i64 (numP v)) ∧ w' = W) (fun e w' h => ⟨by rw [h.1, hp]; rfl, h.2.symm⟩)
                        have ho := fun W => rOne_any v hp W
                        obtain ⟨Y, hY⟩ : ∃ Y, Y = [92, 117, 123] ++ D ++ [125] := ⟨_, rfl⟩
                        have hEX : (⟨(Go.Proofs.YtmbjjheaddhmeaaGreatDoor.wr v).toArray⟩ : ByteArray).toList = Go.Proofs.YtmbjjheaddhmeaaGreatDoor.wr v := by rw [ByteArray.toList_eq]
                        have hEY : (s.extract k (J + 1)).toList = Y := by
                          have e1 : J + 1 = k + (n + 4) := by have := HE.out; have := A1.out; omega
                          rw [e1, ext_take, HL.out, HLT.out, hY, show [92, 117, 123] ++ D ++ 125 :: t = ([92, 117, 123] ++ D ++ [125]) ++ t by simp]
                          exact List.take_left' (by simp [HDn.out])
                        have hGood : Go.Proofs.YtmbjjheaddhmeaaGreatDoor.wr v = Y → RrQ l k (.returned (.tuple #[.int .i64 (numP v), .int .i64 ((J : Int) + 1)])) := fun h => by
                          have h1 : rdF l = some v := by rw [HV2.out]; exact HR2.out HD2.out (by rw [← HV2.out]; exact hp) (by rw [← HV2.out, h, hY])
                          refine ⟨_, _, rfl, .inl ⟨v, h1, rfl, ?_⟩⟩
                          rw [h, hY]
                          have := HE.out; have := A1.out; have := HDn.out
                          simp
                          omega
                        have hBad : Go.Proofs.YtmbjjheaddhmeaaGreatDoor.wr v ≠ Y → rdF l = none := fun h => by
                          cases hr : rdF l with
                          | none => rfl
                          | some r =>
                            obtain ⟨_, h3, _, h4⟩ := HR1.out r hr
                            rw [← HV2.out] at h3
                            rw [h3, ← hY] at h4
                            exact absurd h4 h
                        have hn0 : 0 ≤ numP v := by omega
                        have hn1' : decide (numP v < 0) = false := by simpa using hn0
                        clear hY
                        generalize Go.Proofs.YtmbjjheaddhmeaaGreatDoor.wr v = bs at *
                        generalize numP v = m at *
                        clear hnp
                        by_cases hbY : bs = Y
                        · have HG := Lib.hid (hGood hbY)
                          have hq : (bs == Y) = true := by rw [hbY]; simp
                          clear hGood hBad hbY
                          go_wp2
                          refine wp_region_cls (AbW wr) (by kernel_rfl) (by kernel_rfl) (AbW.drew wr) ?_
                          have hne := AbW.there wr
                          repeat (go_big_quiet_step ((first
                            | (go_at_call 35; rename_i u; exact cls_same (hn _))
                            | (go_at_call 96; rename_i u; exact cls_call AbW.keep (ho _)))))
                          refine wpQuiet_nil ?_
                          rintro _ ⟨u, rfl⟩
                          have hu : Hid (Below w.heap.size w u.val) := hb.trans (Below.mono u.ok (Below.size hb))
                          go_wp2_with (go_at_call 35; with_reducible refine (hn _).mono ?_; rintro e w' ⟨rfl, rfl⟩)
                          go_ret2
                          exact ⟨HG.out, hu.out⟩
                        · have HN := Lib.hid (hBad hbY)
                          have hq : (bs == Y) = false := by simpa using hbY
                          clear hGood hBad hbY
                          go_wp2
                          refine wp_region_cls (AbW wr) (by kernel_rfl) (by kernel_rfl) (AbW.drew wr) ?_
                          have hne := AbW.there wr
                          repeat (go_big_quiet_step ((first
                            | (go_at_call 35; rename_i u; exact cls_same (hn _))
                            | (go_at_call 96; rename_i u; exact cls_call AbW.keep (ho _)))))
                          refine wpQuiet_nil ?_
                          rintro _ ⟨u, rfl⟩
                          have hu : Hid (Below w.heap.size w u.val) := hb.trans (Below.mono u.ok (Below.size hb))
                          go_wp2
                          go_ret2
                          exact ⟨⟨-1, 0, rfl, .inr ⟨HN.out, rfl⟩⟩, hu.out⟩
              · have hB4 : ¬ (E : Int) + 1 - (k : Int) = (n : Int) + 4 ∨ ((E : Int) + 1 - (k : Int) = (n : Int) + 4 ∧ ((s.extract k (k + 3)).toList == [92, 117, 123]) = false) ∨ ((E : Int) + 1 - (k : Int) = (n : Int) + 4 ∧ ((s.extract k (k + 3)).toList == [92, 117, 123]) = true ∧ ((s[E]'hc2).toNat : Int) ≠ 125) ∨ ((E : Int) + 1 - (k : Int) = (n : Int) + 4 ∧ ((s.extract k (k + 3)).toList == [92, 117, 123]) = true ∧ s[E]'hc2 = 125 ∧ 6 < (n : Int)) := by
                  by_cases q1 : (E : Int) + 1 - (k : Int) = (n : Int) + 4
                  · refine .inr ?_
                    cases q2 : (s.extract k (k + 3)).toList == [92, 117, 123] with
                    | false => exact .inl ⟨q1, rfl⟩
                    | true =>
                      refine .inr ?_
                      by_cases q3 : s[E]'hc2 = 125
                      · refine .inr ⟨q1, rfl, q3, ?_⟩
                        refine Int.not_le.1 fun q4 => hB ⟨by have := HE.out; omega, ?_, ?_, by omega⟩
                        · rw [ext_take, HL.out] at q2
                          exact eq_of_beq q2
                        · rw [← HL.out, List.getElem?_drop, show k + (e + 1 - 1) = E by have := HE.out; omega]
                          exact List.getElem?_eq_some_iff.2 ⟨by rw [← Lib.size_eq]; exact hc2, q3⟩
                      · exact .inl ⟨q1, rfl, fun h => q3 (UInt8.toNat_inj.1 (by show _ = 125; omega))⟩
                  · exact .inl q1
                have hz3 : (E : Int) + 1 - (k : Int) = (n : Int) + 4 → (k : Int) + 3 ≤ (s.size : Int) := by omega
                have HJ4 := Lib.hid (HJ.out.step hA hB)
                clear hA hB HJ
                go_upto_region 11 with (fail)
                go_cut [93] from 25 to 135 (fun s93 wx => s93 = .bool true ∧ wx = wc)
                case first =>
                  rcases hB4 with q1 | ⟨q1, q2⟩ | ⟨q1, q2, q3⟩ | ⟨q1, q2, q3, q4⟩
                  · go_wp2
                    go_meet
                    exact ⟨rfl, rfl⟩
                  · have hz := hz3 q1
                    go_wp2
                    go_meet
                    exact ⟨rfl, rfl⟩
                  · have hz := hz3 q1
                    have q5 : (((s[E]'hc2).toNat : Int) != 125) = true := by simpa using q3
                    go_wp2
                    go_meet
                    exact ⟨rfl, rfl⟩
                  · have hz := hz3 q1
                    go_wp2
                    go_meet
                    exact ⟨rfl, rfl⟩
                case rest =>
                  obtain ⟨rfl, rfl⟩ := hcut
                  clear hB4
                  go_wp2
                  go_roundg (gk - 1)
                  case measure => omega
                  case rel => exact ⟨n + 1, by go_num, by omega, by omega, by omega, HJ4, hb⟩
        · obtain rfl : n = 9 := by omega
          go_wp2
          go_roundg (G - 1)
          case measure => omega
          case rel => exact ⟨e + 1, E + 1, by go_num, by omega, by omega, by omega, by show E + 1 = k + (e + 1); have := HE.out; omega, HJ, hb⟩
    · have hn := HJ.out.none (by have := HLL.out; omega)
      have HN := Lib.hid hn
      clear hn HJ
      have g1 : ¬ ((E : Int) < (s.size : Int) ∧ (E : Int) < (k : Int) + 10) := by omega
      by_cases g2 : E < s.size
      · have g3 : (E : Int) < (s.size : Int) := by omega
        have g4 : ¬ (E : Int) < (k : Int) + 10 := by omega
        clear hEk
        go_wp2
        go_ret2
        exact ⟨⟨-1, 0, rfl, .inr ⟨HN.out, rfl⟩⟩, hb⟩
      · have g3 : ¬ (E : Int) < (s.size : Int) := by omega
        clear hEk
        go_wp2
        go_ret2
        exact ⟨⟨-1, 0, rfl, .inr ⟨HN.out, rfl⟩⟩, hb⟩
end
end Go.Proofs.YtmbjjheaddhmeaaGreatDoor
