/- The plain law of reading a set's text. -/
import Derived.Test.YtmbjjheaddhmeaaGreatDoorHex
import Derived.Test.YtmbjjheaddhmeaaGreatDoorJoin
import Derived.Test.YtmbjjheaddhmeaaGreatDoorPrint
namespace Go.Proofs.YtmbjjheaddhmeaaGreatDoor
open Go.RowKit

inductive SpR where
  | esc (d : Nat)
  | form
  | ok (lo hi : Int) (n : Nat)
/-- What span answers of a text (the places counted from its head on). -/
noncomputable def spanF (l : List UInt8) : SpR :=
  match rdF l with
  | none => .esc 0
  | some lo => match l.drop (wr lo).length with
    | [] => .ok lo lo (wr lo).length
    | c :: t => if c = 45 then (match rdF t with
        | none => .esc ((wr lo).length + 1)
        | some hi => if hi ≤ lo then .form else .ok lo hi ((wr lo).length + 1 + (wr hi).length))
      else .ok lo lo (wr lo).length
inductive PR where
  | err (no at_ : Nat)
  | ok (l : List (Int × Int))
def touchF (out : List (Int × Int)) (lo : Int) : Bool :=
  match out.getLast? with
  | none => false
  | some y => decide (lo ≤ nextP y.2)
noncomputable def parseG : Nat → List UInt8 → List (Int × Int) → Nat → PR
  | 0, _, _, _ => .err 0 0
  | _ + 1, [], _, k => .err 25 k
  | g + 1, c :: t, out, k => if c = 93 then (if t = [] then .ok out else .err 3 (k + 1)) else
    match spanF (c :: t) with
    | .esc d => .err 9 (k + d)
    | .form => .err 4 k
    | .ok lo hi n => if touchF out lo then .err 4 k else parseG g ((c :: t).drop n) (out ++ [(lo, hi)]) (k + n)
noncomputable def parseF (l : List UInt8) : PR := if Lib.hasPrefix l [91] then parseG l.length (l.drop 1) [] 1 else .err 25 0

theorem wr_pos (r : Int) : 1 ≤ (wr r).length := by unfold wr; split <;> simp
theorem wr_head (r : Int) : ∃ t, wr r = 92 :: t := by unfold wr; split <;> exact ⟨_, rfl⟩

theorem can_last {l : List (Int × Int)} : ∀ {f : Int}, Can f l → ∀ y, l.getLast? = some y → f ≤ y.2 := by
  induction l with
  | nil => intro f _ y h; cases h
  | cons z l ih =>
    rintro f ⟨a1, a2, a3, a4⟩ y hy
    cases l with
    | nil => simp at hy; subst hy; omega
    | cons w l => have := ih a4 y (by simpa using hy); omega
theorem can_app_left {l m : List (Int × Int)} : ∀ {f : Int}, Can f (l ++ m) → Can f l := by
  induction l with
  | nil => intro f _; trivial
  | cons z l ih => rintro f ⟨a1, a2, a3, a4⟩; exact ⟨a1, a2, a3, ih a4⟩
theorem can_snoc_inv {l : List (Int × Int)} {x : Int × Int} : ∀ {f : Int}, Can f (l ++ [x]) → x.1 ≤ x.2 ∧ x.2 ≤ 1112191 ∧ ∀ y ∈ l.getLast?, y.2 + 2 ≤ x.1 := by
  induction l with
  | nil => rintro f ⟨h1, h2, h3, _⟩; exact ⟨h2, h3, fun y hy => by cases hy⟩
  | cons z l ih =>
    rintro f ⟨a1, a2, a3, a4⟩
    obtain ⟨i1, i2, i3⟩ := ih a4
    refine ⟨i1, i2, fun y hy => ?_⟩
    cases l with
    | nil => simp at hy; subst hy; exact a4.1
    | cons w l => exact i3 y (by simpa using hy)
theorem can_snoc {l : List (Int × Int)} {x : Int × Int} : ∀ {f : Int}, Can f l → f ≤ x.1 → x.1 ≤ x.2 → x.2 ≤ 1112191 → (∀ y ∈ l.getLast?, y.2 + 2 ≤ x.1) → Can f (l ++ [x]) := by
  induction l with
  | nil => intro f _ h1 h2 h3 _; exact ⟨h1, h2, h3, trivial⟩
  | cons z l ih =>
    rintro f ⟨a1, a2, a3, a4⟩ h1 h2 h3 h4
    refine ⟨a1, a2, a3, ?_⟩
    cases l with
    | nil => exact ⟨h4 z (by simp), h2, h3, trivial⟩
    | cons w l =>
      have h5 := h4
      refine ih a4 ?_ h2 h3 (fun y hy => h4 y (by simpa using hy))
      obtain ⟨y, hy⟩ : ∃ y, (w :: l).getLast? = some y := ⟨_, List.getLast?_eq_some_getLast (by simp)⟩
      have h6 := h4 y (by simpa using hy)
      have h7 := can_last a4 y hy
      omega
theorem touch_snoc (o : List (Int × Int)) (y : Int × Int) (lo : Int) : touchF (o ++ [y]) lo = decide (lo ≤ nextP y.2) := by simp [touchF]

theorem spanF_ok {l : List UInt8} {lo hi : Int} {n : Nat} (h : spanF l = .ok lo hi n) : ptB lo = true ∧ ptB hi = true ∧ lo ≤ hi ∧ 1 ≤ n ∧ n ≤ l.length ∧ l = sp1 (lo, hi) ++ l.drop n ∧ n = (sp1 (lo, hi)).length := by
  unfold spanF at h
  cases e : rdF l with
  | none => rw [e] at h; cases h
  | some r =>
    rw [e] at h
    dsimp only at h
    obtain ⟨h1, t, ht⟩ := rdF_spec e
    have hp := wr_pos r
    have hd : l.drop (wr r).length = t := by rw [← ht]; simp
    rw [hd] at h
    have single : (lo = r ∧ hi = r ∧ n = (wr r).length) → ptB lo = true ∧ ptB hi = true ∧ lo ≤ hi ∧ 1 ≤ n ∧ n ≤ l.length ∧ l = sp1 (lo, hi) ++ l.drop n ∧ n = (sp1 (lo, hi)).length := by
      rintro ⟨rfl, rfl, rfl⟩
      rw [sp1_eq rfl]
      exact ⟨h1, h1, by omega, hp, by rw [← ht]; simp, by rw [hd]; exact ht.symm, rfl⟩
    cases t with
    | nil => injection h with a b c; exact single ⟨a.symm, b.symm, c.symm⟩
    | cons c t =>
      dsimp only at h
      split at h
      · rename_i hc
        subst hc
        cases e2 : rdF t with
        | none => rw [e2] at h; cases h
        | some s =>
          rw [e2] at h
          dsimp only at h
          obtain ⟨k1, t2, ht2⟩ := rdF_spec e2
          split at h
          · cases h
          · rename_i hlt
            injection h with a b c
            subst a b c
            rw [sp1_ne (by show r ≠ s; omega)]
            have hl : l = (wr r ++ 45 :: wr s) ++ t2 := by rw [← ht, ← ht2]; simp
            have hln : (wr r).length + 1 + (wr s).length = (wr r ++ 45 :: wr s).length := by simp; omega
            refine ⟨h1, k1, by omega, by omega, ?_, ?_, hln⟩
            · rw [hl, hln]; simp
            · rw [hln]; rw [hl]; simp
      · injection h with a b c; exact single ⟨a.symm, b.symm, c.symm⟩

theorem spanF_sp1 {x : Int × Int} (h1 : ptB x.1 = true) (h2 : ptB x.2 = true) (h3 : x.1 ≤ x.2) (t : List UInt8) (ht : ∀ c r, t = c :: r → c ≠ 45) : spanF (sp1 x ++ t) = .ok x.1 x.2 (sp1 x).length := by
  obtain ⟨lo, hi⟩ := x
  dsimp only at *
  by_cases e : lo = hi
  · subst e
    rw [sp1_eq rfl]
    dsimp only
    unfold spanF
    rw [rdF_some h1 ⟨t, rfl⟩]
    dsimp only
    rw [List.drop_left]
    cases t with
    | nil => rfl
    | cons c r => dsimp only; rw [if_neg (ht c r rfl)]
  · rw [sp1_ne e]
    unfold spanF
    rw [rdF_some h1 ⟨45 :: wr hi ++ t, by simp⟩]
    dsimp only
    rw [show wr lo ++ 45 :: wr hi ++ t = wr lo ++ (45 :: (wr hi ++ t)) by simp, List.drop_left]
    dsimp only
    rw [if_pos rfl, rdF_some h2 ⟨t, rfl⟩]
    dsimp only
    rw [if_neg (by omega)]
    congr 1
    simp; omega

/-- What was read is what was written; its spans rise, none touching the next. -/
theorem parseG_ok (g : Nat) : ∀ {l : List UInt8} {out r : List (Int × Int)} {k : Nat}, parseG g l out k = .ok r → Pts out → Can 0 (out.map nm) →
    ∃ m, r = out ++ m ∧ l = m.flatMap sp1 ++ [93] ∧ Pts r ∧ Can 0 (r.map nm) := by
  induction g with
  | zero => intro l out r k h; cases h
  | succ g ih =>
    intro l out r k h hp hc
    cases l with
    | nil => cases h
    | cons c t =>
      rw [parseG] at h
      split at h
      · rename_i hc'
        subst hc'
        split at h
        · rename_i ht
          subst ht
          injection h with h
          subst h
          exact ⟨[], by simp, by simp, hp, hc⟩
        · cases h
      · cases e : spanF (c :: t) with
        | esc d => rw [e] at h; cases h
        | form => rw [e] at h; cases h
        | ok lo hi n =>
          rw [e] at h
          dsimp only at h
          obtain ⟨p1, p2, p3, p4, p5, p6, p7⟩ := spanF_ok e
          split at h
          · cases h
          · rename_i htc
            have hp' : Pts (out ++ [(lo, hi)]) := hp.append (Pts.cons.2 ⟨⟨p1, p2⟩, Pts.nil⟩)
            have q1 := numP_pt p1; have q2 := numP_pt p2
            have hc' : Can 0 ((out ++ [(lo, hi)]).map nm) := by
              rw [List.map_append]
              refine can_snoc hc (by show 0 ≤ numP lo; omega) (by show numP lo ≤ numP hi; omega) (by show numP hi ≤ 1112191; omega) ?_
              intro y hy
              rcases List.eq_nil_or_concat out with rfl | ⟨o, z, rfl⟩
              · simp at hy
              · rw [List.concat_eq_append] at hp htc hy
                rw [touch_snoc] at htc
                simp at hy
                subst hy
                have hz := (hp z (by simp)).2
                obtain ⟨n1, n2⟩ := nextP_pt hz
                have q3 := numP_ptE n1
                simp only [decide_eq_true_eq] at htc
                show numP z.2 + 2 ≤ numP lo
                omega
            obtain ⟨m, rfl, hl, i3, i4⟩ := ih h hp' hc'
            refine ⟨(lo, hi) :: m, by simp, ?_, i3, i4⟩
            rw [p6, hl]; simp

theorem parseF_ok {l : List UInt8} {r : List (Int × Int)} (h : parseF l = .ok r) : l = printF r ∧ Pts r ∧ Can 0 (r.map nm) := by
  unfold parseF at h
  split at h
  · rename_i h1
    obtain ⟨m, rfl, hl, h3, h4⟩ := parseG_ok _ h Pts.nil trivial
    refine ⟨?_, h3, h4⟩
    have h5 : [91] <+: l := by simpa [Lib.hasPrefix] using h1
    obtain ⟨t, rfl⟩ := h5
    simp at hl
    subst hl
    simp [printF]
  · cases h

theorem parseG_comp (m : List (Int × Int)) : ∀ (g : Nat) (out : List (Int × Int)) (k : Nat), Pts m → Pts out → Can 0 ((out ++ m).map nm) → (m.flatMap sp1 ++ [93]).length ≤ g → parseG g (m.flatMap sp1 ++ [93]) out k = .ok (out ++ m) := by
  induction m with
  | nil =>
    intro g out k _ _ _ hg
    cases g with
    | zero => simp at hg
    | succ g => simp [parseG]
  | cons x m ih =>
    intro g out k hp ho hc hg
    cases g with
    | zero => simp at hg
    | succ g =>
      obtain ⟨⟨p1, p2⟩, hp'⟩ := Pts.cons.1 hp
      have hcx : Can 0 ((out ++ [x] ++ m).map nm) := by rw [List.append_assoc]; exact hc
      have hca := can_app_left (l := (out ++ [x]).map nm) (m := m.map nm) (by rw [← List.map_append]; exact hcx)
      rw [List.map_append] at hca
      obtain ⟨c1, c2, c3⟩ := can_snoc_inv hca
      have q1 := numP_pt p1; have q2 := numP_pt p2
      have c1' : numP x.1 ≤ numP x.2 := c1
      have hle : x.1 ≤ x.2 := by omega
      obtain ⟨t, ht⟩ : ∃ t, wr x.1 = 92 :: t := wr_head _
      have e0 : ((x :: m).flatMap sp1 ++ [93]) = sp1 x ++ (m.flatMap sp1 ++ [93]) := by simp
      have hsp := spanF_sp1 p1 p2 hle (m.flatMap sp1 ++ [93]) (by
        intro c r hcr
        cases m with
        | nil => simp at hcr; rw [← hcr.1]; decide
        | cons y m =>
          obtain ⟨u, hu⟩ := wr_head y.1
          have : sp1 y = 92 :: (sp1 y).tail := by unfold sp1; rw [hu]; rfl
          rw [List.flatMap_cons, this] at hcr
          simp at hcr
          rw [← hcr.1]; decide)
      have hh : sp1 x = 92 :: (sp1 x).tail := by unfold sp1; rw [ht]; rfl
      have hg' : (m.flatMap sp1 ++ [93]).length ≤ g := by
        have h1 : 1 ≤ (sp1 x).length := by rw [hh]; simp
        rw [e0, List.length_append] at hg
        omega
      rw [e0]
      rw [show sp1 x ++ (m.flatMap sp1 ++ [93]) = 92 :: ((sp1 x).tail ++ (m.flatMap sp1 ++ [93])) by rw [← List.cons_append, ← hh]] at hsp ⊢
      rw [parseG, if_neg (by decide), hsp]
      dsimp only
      have htc : touchF out x.1 = false := by
        rcases List.eq_nil_or_concat out with rfl | ⟨o, z, rfl⟩
        · rfl
        · rw [List.concat_eq_append] at ho c3 ⊢
          rw [touch_snoc]
          have hz := (ho z (by simp)).2
          obtain ⟨n1, n2⟩ := nextP_pt hz
          have q3 := numP_ptE n1
          have := c3 (nm z) (by simp)
          have : numP z.2 + 2 ≤ numP x.1 := this
          simp only [decide_eq_false_iff_not]
          omega
      rw [htc, if_neg (by decide)]
      have hdr : (92 :: ((sp1 x).tail ++ (m.flatMap sp1 ++ [93]))).drop (sp1 x).length = m.flatMap sp1 ++ [93] := by
        rw [← List.cons_append, ← hh, List.drop_left]
      rw [hdr, ih g (out ++ [x]) (k + (sp1 x).length) hp' (ho.append (Pts.cons.2 ⟨⟨p1, p2⟩, Pts.nil⟩)) hcx hg']
      simp

theorem parseF_print {m : List (Int × Int)} (hp : Pts m) (hc : Can 0 (m.map nm)) : parseF (printF m) = .ok m := by
  unfold parseF
  rw [if_pos (by simp [Lib.hasPrefix, printF])]
  have := parseG_comp m (printF m).length [] 1 hp Pts.nil hc (by simp [printF])
  simpa [printF] using this

theorem parseG_len (g : Nat) : ∀ {l : List UInt8} {out r : List (Int × Int)} {k : Nat}, parseG g l out k = .ok r → r.length + 1 ≤ out.length + l.length := by
  induction g with
  | zero => intro l out r k h; cases h
  | succ g ih =>
    intro l out r k h
    cases l with
    | nil => cases h
    | cons c t =>
      rw [parseG] at h
      split at h
      · split at h
        · injection h with h; subst h; simp
        · cases h
      · cases e : spanF (c :: t) with
        | esc d => rw [e] at h; cases h
        | form => rw [e] at h; cases h
        | ok lo hi n =>
          rw [e] at h
          dsimp only at h
          obtain ⟨p1, p2, p3, p4, p5, p6, p7⟩ := spanF_ok e
          split at h
          · cases h
          · have := ih h
            simp at this p5 ⊢
            omega

end Go.Proofs.YtmbjjheaddhmeaaGreatDoor
