/- The plain law of reading a written point: what stands at the head of a text. -/
import Derived.Test.YtmbjjheaddhmeaaGreatDoorFmt
import Derived.Test.YtmbjjheaddhmeaaGreatDoorPu
import Derived.Lib.Bytealg
namespace Go.Proofs.YtmbjjheaddhmeaaGreatDoor
open Go.RowKit

theorem hexP_append (l m : List UInt8) : ∀ acc, hexP acc (l ++ m) = match hexP acc l with | .ok n => hexP n m | e => e := by
  induction l with
  | nil => intro acc; rfl
  | cons c l ih =>
    intro acc
    rw [List.cons_append, hexP, hexP]
    split
    · split
      · exact ih _
      · rfl
    · rfl
theorem hexD_nat (d : Nat) (h : d < 16) : (hexD d).toNat = (if d < 10 then 48 + d else 87 + d) ∧ dgt (hexD d).toNat = d := by
  have : ∀ p : Fin 16, (hexD p.val).toNat = (if p.val < 10 then 48 + p.val else 87 + p.val) ∧ dgt (hexD p.val).toNat = p.val := by decide +kernel
  exact this ⟨d, h⟩
theorem hexP_hexK (g : Nat) : ∀ u, u < 16 ^ (g + 1) → u ≤ 4294967295 → hexP 0 (hexK g u) = .ok u := by
  induction g with
  | zero =>
    intro u h _
    have h' : u < 16 := by simpa using h
    rw [hexK, hexP, (hexD_nat u h').2, if_pos h', if_pos (by omega), hexP]; simp
  | succ g ih =>
    intro u h h2
    rw [hexK]
    split
    · rename_i h'
      rw [hexP, (hexD_nat u h').2, if_pos h', if_pos (by omega), hexP]; simp
    · rename_i h'
      have hd : u / 16 < 16 ^ (g + 1) := by
        have : u < 16 ^ (g + 1) * 16 := h
        exact Nat.div_lt_of_lt_mul (by omega)
      rw [hexP_append, ih (u / 16) hd (by omega)]
      show hexP (u / 16) [hexD (u % 16)] = _
      rw [hexP, (hexD_nat (u % 16) (by omega)).2, if_pos (by omega), if_pos (by omega), hexP]
      congr 1; omega
theorem hexK_chars (g : Nat) : ∀ u, u < 16 ^ (g + 1) → ∀ c ∈ hexK g u, ∃ d, d < 16 ∧ c = hexD d := by
  induction g with
  | zero =>
    intro u h c hc
    rw [hexK, List.mem_singleton] at hc
    exact ⟨u, by simpa using h, hc⟩
  | succ g ih =>
    intro u h c hc
    rw [hexK] at hc
    split at hc
    · rw [List.mem_singleton] at hc; exact ⟨u, by assumption, hc⟩
    · rcases List.mem_append.1 hc with hc | hc
      · have hd : u / 16 < 16 ^ (g + 1) := by
          have : u < 16 ^ (g + 1) * 16 := h
          exact Nat.div_lt_of_lt_mul (by omega)
        exact ih _ hd c hc
      · rw [List.mem_singleton] at hc; exact ⟨u % 16, by omega, hc⟩
theorem hexD_ne (d : Nat) (h : d < 16) : hexD d ≠ 125 ∧ hexD d ≠ 123 := by
  have : ∀ p : Fin 16, hexD p.val ≠ 125 ∧ hexD p.val ≠ 123 := by decide +kernel
  exact this ⟨d, h⟩
theorem hexK_ne (g u : Nat) : hexK g u ≠ [] := by
  cases g with
  | zero => simp [hexK]
  | succ g => rw [hexK]; split <;> simp
theorem hexK_len6 (g : Nat) : ∀ u k, u < 16 ^ (k + 1) → k ≤ g → (hexK g u).length ≤ k + 1 := by
  induction g with
  | zero => intro u k _ _; simp [hexK]
  | succ g ih =>
    intro u k h hk
    rw [hexK]
    split
    · simp
    · cases k with
      | zero => simp at h; omega
      | succ k =>
        have hd : u / 16 < 16 ^ (k + 1) := by
          have : u < 16 ^ (k + 1) * 16 := h
          exact Nat.div_lt_of_lt_mul (by omega)
        have := ih (u / 16) k hd (by omega)
        simp; omega
theorem hexK_two (m : Nat) (h0 : 16 ≤ m) (h : m < 256) : hexK 5 m = [hexD (m / 16), hexD (m % 16)] := by
  rw [hexK, if_neg (by omega), hexK, if_pos (by omega)]; rfl

theorem indexByte_append (c : UInt8) (l m : List UInt8) (h : ∀ x ∈ l, x ≠ c) (hm : Lib.indexByte m c = 0) : Lib.indexByte (l ++ m) c = l.length := by
  induction l with
  | nil => simpa using hm
  | cons x l ih =>
    have hx := h x List.mem_cons_self
    have := ih (fun y hy => h y (List.mem_cons_of_mem _ hy))
    rw [List.cons_append, Lib.indexByte, this]
    simp only [beq_iff_eq, hx, if_false]
    rw [if_neg (by simp)]
    simp
theorem indexByte_lt (l : List UInt8) (c : UInt8) : -1 ≤ Lib.indexByte l c ∧ Lib.indexByte l c < l.length := by
  induction l with
  | nil => simp [Lib.indexByte]
  | cons x l ih =>
    rw [Lib.indexByte]
    split
    · simp
    · split
      · simp; omega
      · simp; omega

/-- Where a written point would end; its digits. -/
def rdEnd (l : List UInt8) : Int := if Lib.hasPrefix l [92, 117, 123] then Lib.indexByte l 125 + 1 else 4
def rdDig (l : List UInt8) (n : Nat) : List UInt8 := Lib.trimSuffix (Lib.trimPrefix ((l.take n).drop 2) [123]) [125]

theorem hasPrefix_append (a b : List UInt8) : Lib.hasPrefix (a ++ b) a = true := by
  simp [Lib.hasPrefix]

/-- A text that begins with a written point. -/
theorem rd_comp {r : Int} {l : List UInt8} (hr : ptB r = true) (hp : wr r <+: l) :
    rdEnd l = ((wr r).length : Int) ∧ 4 ≤ (wr r).length ∧ (wr r).length ≤ 10 ∧ (wr r).length ≤ l.length ∧ rdDig l (wr r).length ≠ [] ∧
    ∃ m : Nat, hexP 0 (rdDig l (wr r).length) = .ok m ∧ m ≤ 1114111 ∧ r = (m : Int) + (if l[1]?.getD 0 = 120 then 1114112 else 0) := by
  obtain ⟨t, rfl⟩ := hp
  simp only [ptB, decide_eq_true_eq] at hr
  have htk : ∀ a b : List UInt8, (a ++ b).take a.length = a := fun a b => by simp
  by_cases hx : r > 1114111
  · obtain ⟨m, hm⟩ : ∃ m : Nat, r = (m : Int) + 1114112 := ⟨(r - 1114112).toNat, by omega⟩
    have e : wr r = [92, 120] ++ hexK 5 m := by unfold wr; rw [if_pos hx, show (r - 1114112).toNat = m by omega]
    have e2 := hexK_two m (by omega) (by omega)
    have q1 := hexD_ne (m / 16) (by omega); have q2 := hexD_ne (m % 16) (by omega)
    have hK := hexP_hexK 5 m (by omega) (by omega)
    rw [e, e2]
    rw [e2] at hK
    have hd : rdDig ([92, 120] ++ [hexD (m / 16), hexD (m % 16)] ++ t) ([92, 120] ++ [hexD (m / 16), hexD (m % 16)] : List UInt8).length = [hexD (m / 16), hexD (m % 16)] := by
      unfold rdDig
      rw [htk]
      have h1 : Lib.hasPrefix [hexD (m / 16), hexD (m % 16)] [123] = false := by simp [Lib.hasPrefix, List.isPrefixOf, q1.2.symm]
      have h2 : Lib.hasSuffix [hexD (m / 16), hexD (m % 16)] [125] = false := by simp [Lib.hasSuffix, List.isSuffixOf, List.isPrefixOf, q2.1.symm]
      show Lib.trimSuffix (Lib.trimPrefix [hexD (m / 16), hexD (m % 16)] [123]) [125] = _
      unfold Lib.trimPrefix; rw [h1]; simp only [Bool.false_eq_true, if_false]
      unfold Lib.trimSuffix; rw [h2]; simp
    refine ⟨?_, by simp, by simp, by simp, by rw [hd]; simp, m, by rw [hd]; exact hK, by omega, ?_⟩
    · unfold rdEnd; rw [if_neg (by simp [Lib.hasPrefix, List.isPrefixOf])]; rfl
    · rw [hm]; simp
  · obtain ⟨m, hm⟩ : ∃ m : Nat, r = (m : Int) := ⟨r.toNat, by omega⟩
    have e : wr r = [92, 117, 123] ++ hexK 5 m ++ [125] := by unfold wr; rw [if_neg hx, show r.toNat = m by omega]
    have hK := hexP_hexK 5 m (by omega) (by omega)
    have hne := hexK_ne 5 m
    have hl := hexK_len6 5 m 5 (by omega) (by omega)
    have hc := hexK_chars 5 m (by omega)
    have hl1 : 1 ≤ (hexK 5 m).length := List.length_pos_iff.2 hne
    rw [e]
    generalize hexK 5 m = ds at *
    have hd : rdDig ([92, 117, 123] ++ ds ++ [125] ++ t) ([92, 117, 123] ++ ds ++ [125] : List UInt8).length = ds := by
      unfold rdDig
      rw [htk]
      show Lib.trimSuffix (Lib.trimPrefix (123 :: (ds ++ [125])) [123]) [125] = _
      unfold Lib.trimPrefix
      rw [show Lib.hasPrefix (123 :: (ds ++ [125])) [123] = true by simp [Lib.hasPrefix]]
      simp only [if_true]
      show Lib.trimSuffix (ds ++ [125]) [125] = _
      unfold Lib.trimSuffix
      rw [show Lib.hasSuffix (ds ++ [125]) [125] = true by simp [Lib.hasSuffix, List.isSuffixOf]]
      simp
    refine ⟨?_, by simp, by simp; omega, by simp, by rw [hd]; exact hne, m, by rw [hd]; exact hK, by omega, by rw [hm]; simp⟩
    unfold rdEnd
    rw [if_pos (by simp [Lib.hasPrefix]), List.append_assoc, indexByte_append 125 ([92, 117, 123] ++ ds) ([125] ++ t) ?_ (by simp [Lib.indexByte])]
    · simp
    · intro x hx
      rcases List.mem_append.1 hx with h | h
      · simp at h; rcases h with rfl | rfl | rfl <;> decide
      · obtain ⟨d, hd, rfl⟩ := hc x h
        exact (hexD_ne d hd).1

theorem rd_uniq {r r' : Int} {l : List UInt8} (hr : ptB r = true) (hp : wr r <+: l) (hr' : ptB r' = true) (hp' : wr r' <+: l) : r = r' := by
  obtain ⟨a1, _, _, _, _, m, a2, _, a3⟩ := rd_comp hr hp
  obtain ⟨b1, _, _, _, _, k, b2, _, b3⟩ := rd_comp hr' hp'
  have : (wr r).length = (wr r').length := by omega
  rw [← this, a2] at b2
  injection b2 with h
  rw [a3, b3, h]

/-- The point that is written at the head of a text. -/
noncomputable def rdF (l : List UInt8) : Option Int := by
  classical exact if h : ∃ r, ptB r = true ∧ wr r <+: l then some (Classical.choose h) else none
theorem rdF_some {r : Int} {l : List UInt8} (hr : ptB r = true) (hp : wr r <+: l) : rdF l = some r := by
  have h : ∃ r, ptB r = true ∧ wr r <+: l := ⟨r, hr, hp⟩
  unfold rdF
  rw [dif_pos h]
  exact congrArg some (rd_uniq (Classical.choose_spec h).1 (Classical.choose_spec h).2 hr hp)
theorem rdF_spec {r : Int} {l : List UInt8} (h : rdF l = some r) : ptB r = true ∧ wr r <+: l := by
  unfold rdF at h
  split at h
  · rename_i h'
    obtain rfl := Option.some.inj h
    exact Classical.choose_spec h'
  · cases h
theorem rdF_none {l : List UInt8} (h : ∀ r, ptB r = true → ¬ wr r <+: l) : rdF l = none := by
  cases e : rdF l with
  | none => rfl
  | some r => exact absurd (rdF_spec e).2 (h r (rdF_spec e).1)

end Go.Proofs.YtmbjjheaddhmeaaGreatDoor
