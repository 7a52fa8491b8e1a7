/- The document's Parse; RangesReads: the walk. -/
import Derived.Test.YtmbjjheaddhmeaaGreatDoorRefRead
import Derived.Test.YtmbjjheaddhmeaaGreatDoorRefPrint
import Derived.Test.YtmbjjheaddhmeaaGreatDoorParse
import Derived.Deep.DeepCutAuto
import Derived.Deep.CutRange
import Derived.Deep.LoopGhost
import Derived.Deep.AppendLies
import Derived.Test.YtmbjjheaddhmeaaGreatDoorIs
import Derived.Test.YtmbjjheaddhmeaaGreatDoorErr
import Derived.Test.YtmbjjheaddhmeaaGreatDoorForms
namespace Go.Proofs.YtmbjjheaddhmeaaGreatDoor
section
open Go.RowKit

def RpQ (l : List UInt8) (w w' : World) (e : Ending) : Prop :=
  ((∃ no k : Nat, parseF l = .err no k ∧ e = .returned (.tuple #[.agg #[.slice none 0 0], .int .i64 no, .int .i64 k])) ∨
    ∃ r a c, parseF l = .ok r ∧ e = .returned (.tuple #[.agg #[.slice a r.length c], .int .i64 0, .int .i64 0]) ∧ Prs w' (.slice a r.length c) (r.map nm)) ∧ Below w.heap.size w w'
theorem rpQ_err {l : List UInt8} {w w' : World} {e : Ending} (no k : Nat) (h : parseF l = .err no k) (he : e = .returned (.tuple #[.agg #[.slice none 0 0], .int .i64 no, .int .i64 k])) (hB : Below w.heap.size w w') : RpQ l w w' e := ⟨.inl ⟨no, k, h, he⟩, hB⟩

/-- What has been read at a place. -/
theorem span_read {l : List UInt8} {lo : Int} (h : rdF l = some lo) :
    ((∀ c t, l.drop (wr lo).length = c :: t → c ≠ 45) → spanF l = .ok lo lo (wr lo).length) ∧
    (∀ t, l.drop (wr lo).length = 45 :: t → spanF l = match rdF t with
      | none => .esc ((wr lo).length + 1)
      | some hi => if hi ≤ lo then .form else .ok lo hi ((wr lo).length + 1 + (wr hi).length)) := by
  unfold spanF
  rw [h]
  dsimp only
  constructor
  · intro h2
    cases hd : l.drop (wr lo).length with
    | nil => rfl
    | cons c t => dsimp only; rw [if_neg (h2 c t hd)]
  · intro t ht
    rw [ht]
    dsimp only
    rw [if_pos rfl]
    cases rdF t <;> rfl
theorem num_le {p q : Int} (hp : ptB p = true) (hq : ptB q = true) : numP q ≤ numP p ↔ q ≤ p := by
  have h1 := numP_pt hp; have h2 := numP_pt hq; omega
theorem num_touch {p u : Int} (hp : ptB p = true) (hu : ptB u = true) : numP p ≤ numP u + 1 ↔ p ≤ nextP u := by
  have h1 := numP_pt hp
  obtain ⟨h2, h3⟩ := nextP_pt hu
  have h4 := numP_ptE h2
  omega
theorem parseG_err (g : Nat) : ∀ {l : List UInt8} {out : List (Int × Int)} {k no j : Nat}, parseG g l out k = .err no j → l.length < g → 1 ≤ no ∧ no ≤ 25 := by
  induction g with
  | zero => intro l out k no j _ h; omega
  | succ g ih =>
    intro l out k no j h hl
    cases l with
    | nil => rw [parseG] at h; injection h with h1; omega
    | cons c t =>
      rw [parseG] at h
      split at h
      · split at h
        · cases h
        · injection h with h1; omega
      · cases hs : spanF (c :: t) with
        | esc d => rw [hs] at h; injection h with h1; omega
        | form => rw [hs] at h; injection h with h1; omega
        | ok lo hi n =>
          rw [hs] at h
          dsimp only at h
          split at h
          · injection h with h1; omega
          · obtain ⟨_, _, _, p4, p5, _⟩ := spanF_ok hs
            exact ih h (by rw [List.length_drop]; simp only [List.length_cons] at *; omega)
theorem parseF_err {l : List UInt8} {no j : Nat} (h : parseF l = .err no j) : 1 ≤ no ∧ no ≤ 25 := by
  unfold parseF at h
  split at h
  · rename_i hb
    refine parseG_err _ h ?_
    rw [List.length_drop]
    cases l with
    | nil => cases hb
    | cons c t => simp
  · injection h with h1; omega
theorem rread_none {s : ByteArray} {k : Nat} (w : World) (hs : s.size ≤ 1000000) (hk : k ≤ s.size) (h : rdF (s.data.toList.drop k) = none) :
    Calls Tryz.prog 77 #[.string s, .int .i64 k] w fun e w' => (∃ b : Int, e = .returned (.tuple #[.int .i64 (-1), .int .i64 b])) ∧ Below w.heap.size w w' :=
  (rread_any s k w hs hk).mono fun e w' ⟨⟨a, b, he, hq⟩, hB⟩ => by
    refine ⟨⟨b, ?_⟩, hB⟩
    rcases hq with ⟨r, hr, _, _⟩ | ⟨_, rfl⟩
    · rw [h] at hr; cases hr
    · exact he
theorem rread_some {s : ByteArray} {k : Nat} {lo : Int} (w : World) (hs : s.size ≤ 1000000) (hk : k ≤ s.size) (h : rdF (s.data.toList.drop k) = some lo) :
    Calls Tryz.prog 77 #[.string s, .int .i64 k] w fun e w' => e = .returned (.tuple #[.int .i64 (numP lo), .int .i64 ((k + (Go.Proofs.YtmbjjheaddhmeaaGreatDoor.wr lo).length : Nat) : Int)]) ∧ Below w.heap.size w w' :=
  (rread_any s k w hs hk).mono fun e w' ⟨⟨a, b, he, hq⟩, hB⟩ => by
    refine ⟨?_, hB⟩
    rcases hq with ⟨r, hr, rfl, rfl⟩ | ⟨hr, _⟩
    · rw [h] at hr; injection hr with hr; subst hr; rw [he]; simp
    · rw [h] at hr; cases hr
theorem rd_fits {s : ByteArray} {k : Nat} {lo : Int} (hk : k ≤ s.size) (h : rdF (s.data.toList.drop k) = some lo) : ptB lo = true ∧ 1 ≤ (Go.Proofs.YtmbjjheaddhmeaaGreatDoor.wr lo).length ∧ k + (Go.Proofs.YtmbjjheaddhmeaaGreatDoor.wr lo).length ≤ s.size := by
  obtain ⟨h1, t, ht⟩ := rdF_spec h
  have := congrArg List.length ht
  rw [List.length_append, List.length_drop, ← Lib.size_eq] at this
  exact ⟨h1, wr_pos lo, by omega⟩
/-- What may stand at a place where a point has been read. -/
theorem span_shape {s : ByteArray} {k : Nat} {lo : Int} (hk : k ≤ s.size) (h : rdF (s.data.toList.drop k) = some lo) :
    (∃ h : k + (Go.Proofs.YtmbjjheaddhmeaaGreatDoor.wr lo).length < s.size, s[k + (Go.Proofs.YtmbjjheaddhmeaaGreatDoor.wr lo).length]'h = 45 ∧ rdF (s.data.toList.drop (k + (Go.Proofs.YtmbjjheaddhmeaaGreatDoor.wr lo).length + 1)) = none ∧ spanF (s.data.toList.drop k) = .esc ((Go.Proofs.YtmbjjheaddhmeaaGreatDoor.wr lo).length + 1)) ∨
    ∃ (hi : Int) (n : Nat) (rb : Bool), ptB hi = true ∧ 1 ≤ n ∧ k + n ≤ s.size ∧ spanF (s.data.toList.drop k) = (if rb = true ∧ hi ≤ lo then .form else .ok lo hi n) ∧
      ((rb = false ∧ hi = lo ∧ n = (Go.Proofs.YtmbjjheaddhmeaaGreatDoor.wr lo).length ∧ (k + (Go.Proofs.YtmbjjheaddhmeaaGreatDoor.wr lo).length = s.size ∨ ∃ h : k + (Go.Proofs.YtmbjjheaddhmeaaGreatDoor.wr lo).length < s.size, s[k + (Go.Proofs.YtmbjjheaddhmeaaGreatDoor.wr lo).length]'h ≠ 45)) ∨
       (rb = true ∧ n = (Go.Proofs.YtmbjjheaddhmeaaGreatDoor.wr lo).length + 1 + (Go.Proofs.YtmbjjheaddhmeaaGreatDoor.wr hi).length ∧ (∃ h : k + (Go.Proofs.YtmbjjheaddhmeaaGreatDoor.wr lo).length < s.size, s[k + (Go.Proofs.YtmbjjheaddhmeaaGreatDoor.wr lo).length]'h = 45) ∧ rdF (s.data.toList.drop (k + (Go.Proofs.YtmbjjheaddhmeaaGreatDoor.wr lo).length + 1)) = some hi)) := by
  obtain ⟨h1, h2, h3⟩ := rd_fits hk h
  obtain ⟨S1, S2⟩ := span_read h
  rw [List.drop_drop] at S1 S2
  generalize (Go.Proofs.YtmbjjheaddhmeaaGreatDoor.wr lo).length = m at *
  cases hd : s.data.toList.drop (k + m) with
  | nil =>
    refine .inr ⟨lo, m, false, h1, h2, h3, ?_, .inl ⟨rfl, rfl, rfl, .inl ?_⟩⟩
    · rw [if_neg (by simp)]; exact S1 fun c t hc => by rw [hd] at hc; cases hc
    · have := congrArg List.length hd
      rw [List.length_drop, ← Lib.size_eq, List.length_nil] at this
      omega
  | cons c t =>
    obtain ⟨b1, b2⟩ := byte_of hd
    have ht : t = s.data.toList.drop (k + m + 1) := by rw [← List.drop_drop, hd]; rfl
    by_cases hc : c = 45
    · subst hc
      have S3 := S2 t hd
      rw [ht] at S3
      cases hr : rdF (s.data.toList.drop (k + m + 1)) with
      | none => rw [hr] at S3; exact .inl ⟨b1, b2 b1, rfl, S3⟩
      | some hi =>
        rw [hr] at S3
        dsimp only at S3
        obtain ⟨q1, q2, q3⟩ := rd_fits (by omega) hr
        refine .inr ⟨hi, m + 1 + (Go.Proofs.YtmbjjheaddhmeaaGreatDoor.wr hi).length, true, q1, by omega, by omega, ?_, .inr ⟨rfl, rfl, ⟨b1, b2 b1⟩, rfl⟩⟩
        rw [S3]
        by_cases hle : hi ≤ lo
        · rw [if_pos hle, if_pos ⟨rfl, hle⟩]
        · rw [if_neg hle, if_neg (fun h => hle h.2)]
    · refine .inr ⟨lo, m, false, h1, h2, h3, ?_, .inl ⟨rfl, rfl, rfl, .inr ⟨b1, by rw [b2 b1]; exact hc⟩⟩⟩
      rw [if_neg (by simp)]
      exact S1 fun c' t' hc' => by rw [hd] at hc'; injection hc' with e1 e2; rw [← e1]; exact hc

set_option maxRecDepth 100000 in
set_option maxHeartbeats 8000000 in
theorem rParse_any (s : ByteArray) (w : World) (hs : s.size ≤ 100000) :
    Calls Tryz.prog 27 #[.string s] w fun e w' => RpQ s.data.toList w w' e := by
  obtain ⟨i0, hi0, hz0, hz1, hz2⟩ := info_parts Tryz.infoPair
  have b0 := (Below.refl w.heap.size w).alloc (Nat.le_refl _) (.cells #[.slice none 0 0] 33)
  have x1 : (w.alloc (.cells #[.slice none 0 0] 33)).cell? ⟨w.heap.size, 0, none⟩ = some (.slice none 0 0) := by simp [go_sem]
  have q0 : ((w.alloc (.cells #[.slice none 0 0] 33)).setCell ⟨w.heap.size, 0, none⟩ (.slice none 0 0)).cell? ⟨w.heap.size, 0, none⟩ = some (.slice none 0 0) := World.cell?_setCell_same _ _ _ x1
  cases hb : Lib.hasPrefix s.data.toList [91] with
  | false =>
    have hF : Hid (parseF s.data.toList = .err 25 0) := Lib.hid (by unfold parseF; rw [hb, if_neg (by decide)])
    cases hl : s.data.toList with
    | nil =>
      have HL := Lib.hid hl
      have he : s = ⟨#[]⟩ := by
        cases s with
        | mk d => congr 1; exact Array.toList_eq_nil_iff.1 hl
      subst he
      clear hb hl
      go_enter Tryz.func27, Tryz.ntmps27
      go_wp2
      refine bodyPost_ret (v := .tuple #[.agg #[.slice none 0 0], .int .i64 25, .int .i64 0]) (by simp [results, Tryz.results27, go_sem, x1]) rfl ?_
      exact rpQ_err 25 0 hF.out rfl b0
    | cons c t =>
      have HL := Lib.hid hl
      have h91 : c ≠ 91 := fun h => by rw [hl, h] at hb; simp [Lib.hasPrefix] at hb
      have hb0 : s.data.toList.drop 0 = c :: t := hl
      obtain ⟨hlt, hcc⟩ := byte_of hb0
      have hci := hcc hlt
      have hne : (s.toList == []) = false := by rw [ByteArray.toList_eq, hl]; rfl
      have hcn : ((c.toNat : Int) != 91) = true := by
        rw [bne_iff_ne]; intro h; exact h91 (UInt8.toNat_inj.1 (by show _ = 91; omega))
      clear hb hcc hb0 hl
      go_enter Tryz.func27, Tryz.ntmps27
      go_wp2
      refine bodyPost_ret (v := .tuple #[.agg #[.slice none 0 0], .int .i64 25, .int .i64 0]) (by simp [results, Tryz.results27, go_sem, x1]) rfl ?_
      rw [← HL.out]
      exact rpQ_err 25 0 hF.out rfl b0
  | true =>
    have h0 : 1 ≤ s.size := by
      rw [Lib.size_eq]
      cases hh : s.data.toList with
      | nil => rw [hh] at hb; cases hb
      | cons c t => simp
    have hF : Hid (parseF s.data.toList = parseG s.size (s.data.toList.drop 1) [] 1) := Lib.hid (by unfold parseF; rw [hb, if_pos rfl, Lib.size_eq])
    have hci : s[0]'(by omega) = 91 := by
      cases hh : s.data.toList with
      | nil => rw [hh] at hb; cases hb
      | cons c t =>
        obtain ⟨hlt, hcc⟩ := byte_of (k := 0) (show s.data.toList.drop 0 = c :: t from hh)
        rw [hh] at hb
        have hc : c = 91 := by
          simp [Lib.hasPrefix] at hb
          first | exact hb | exact hb.symm
        rw [hcc hlt, hc]
    have hne : (s.toList == []) = false := by
      rw [ByteArray.toList_eq]
      cases hh : s.data.toList with
      | nil => rw [hh] at hb; cases hb
      | cons c t => rfl
    have f1 : (w.alloc (.cells #[.slice none 0 0] 33)).frozen? ⟨w.heap.size, 0, none⟩ = false := by simp [go_sem]
    have hVs : (w.alloc (.cells #[.slice none 0 0] 33)).heap.size = w.heap.size + 1 := by simp
    clear hb q0
    go_enter Tryz.func27, Tryz.ntmps27
    go_upto_region 3 with (fail)
    generalize (w.alloc (.cells #[.slice none 0 0] 33)) = V at *
    obtain ⟨B, hB⟩ : ∃ B, B = w.heap.size + 1 := ⟨_, rfl⟩
    rw [← hB] at hVs
    have hB1 : w.heap.size < B := by omega
    have HB := Lib.hid hB
    clear hB hne
    go_wp2
    go_loopg [6] s.size (fun g i wr => ∃ (k : Nat) (v : Value) (out : List (Int × Int)), i = .int .i64 k ∧ 1 ≤ k ∧ k ≤ s.size ∧ s.size - k + 1 ≤ g ∧ out.length ≤ k ∧ Hid (parseF s.data.toList = parseG g (s.data.toList.drop k) out k) ∧ Hid (Pts out) ∧
      wr.cell? ⟨B, 0, none⟩ = some v ∧ wr.frozen? ⟨B, 0, none⟩ = false ∧ Hid (wr.ownsRow (B + 1) 84 2 v out.length (flatP (out.map nm))) ∧ Below B V wr)
    case atStart => exact ⟨1, .slice none 0 0, [], rfl, by omega, by omega, by omega, by simp, hF.out, Pts.nil, by rw [← hVs]; simp [go_sem], by rw [← hVs]; simp [go_sem], World.ownsRow_nil _ _ _ _, (Below.refl _ _).alloc (by omega) _⟩
    case round =>
      obtain ⟨k, v, out, rfl, hk1, hk, hg, ho, HF, HP, hc, hf, hown, hb⟩ := hrel
      clear hF hci
      obtain ⟨av, cv, rfl⟩ := owns_slice hown.out
      have y6 : B < wr.heap.size := cell_lt hc
      have y7 : w.heap.size < wr.heap.size := by omega
      have y1 := (hb.cell (p := ⟨w.heap.size, 0, none⟩) hB1).trans x1
      have y2 := (hb.frozen (p := ⟨w.heap.size, 0, none⟩) hB1).trans f1
      have hbw := b0.trans (hb.mono (Nat.le_of_lt hB1))
      obtain ⟨g', rfl⟩ : ∃ g', gk = g' + 1 := ⟨gk - 1, by omega⟩
      by_cases hks : k = s.size
      · have hE : Hid (parseF s.data.toList = .err 25 k) := Lib.hid (by rw [HF.out, List.drop_of_length_le (by rw [← Lib.size_eq]; omega), parseG_nil])
        have hq : ((k : Int) == (s.size : Int)) = true := by rw [beq_iff_eq]; omega
        clear hks HF
        go_wp2
        have q5 := World.cell?_setCell_same wr ⟨w.heap.size, 0, none⟩ (.slice none 0 0) y1
        refine bodyPost_ret (v := .tuple #[.agg #[.slice none 0 0], .int .i64 25, .int .i64 k]) (by simp [results, Tryz.results27, go_sem, q5]) rfl ?_
        exact rpQ_err 25 k hE.out rfl (hbw.setCell (p := ⟨w.heap.size, 0, none⟩) (Nat.le_refl _) _)
      · have hlt : k < s.size := by omega
        have hlt' : (k : Int) < (s.size : Int) := by omega
        have hq : ((k : Int) == (s.size : Int)) = false := by rw [beq_eq_false_iff_ne]; omega
        obtain ⟨c, t, hct⟩ : ∃ c t, s.data.toList.drop k = c :: t := by
          rw [Lib.size_eq] at hlt
          exact ⟨_, _, List.drop_eq_getElem_cons hlt⟩
        obtain ⟨_, hcc⟩ := byte_of hct
        have hci := hcc hlt
        have htl : t.length = s.size - (k + 1) := by
          have := congrArg List.length hct
          rw [List.length_drop, ← Lib.size_eq, List.length_cons] at this
          omega
        clear hks hcc
        by_cases h93 : c = 93
        · subst h93
          have HE : Hid (parseF s.data.toList = if t = [] then .ok out else .err 3 (k + 1)) := Lib.hid (by rw [HF.out, hct, parseG_end])
          clear HF hct
          by_cases ht : t = []
          · subst ht
            have HE2 := Lib.hid (HE.out.trans (if_pos rfl))
            have hle : ¬ (k : Int) + 1 < (s.size : Int) := by simp at htl; omega
            clear HE htl
            go_wp2
            have q5 := World.cell?_setCell_same wr ⟨w.heap.size, 0, none⟩ (.slice av out.length cv) y1
            refine bodyPost_ret (v := .tuple #[.agg #[.slice av out.length cv], .int .i64 0, .int .i64 0]) (by simp [results, Tryz.results27, go_sem, q5]) rfl ?_
            have ho1 : (wr.setCell ⟨w.heap.size, 0, none⟩ (.slice av out.length cv)).ownsRow (B + 1) 84 2 (.slice av (out.map nm).length cv) (out.map nm).length (flatP (out.map nm)) := by
              rw [List.length_map]; exact ownsRow_setCell_below hown.out (by show w.heap.size < B + 1; omega) _
            refine ⟨.inr ⟨out, av, cv, HE2.out, rfl, ?_⟩, hbw.setCell (p := ⟨w.heap.size, 0, none⟩) (Nat.le_refl _) _⟩
            have := Prs.of_owns ho1
            rwa [List.length_map] at this
          · have HE2 := Lib.hid (HE.out.trans (if_neg ht))
            have hle : (k : Int) + 1 < (s.size : Int) := by
              have := List.length_pos_iff.2 ht
              omega
            clear HE htl ht
            go_wp2
            have q5 := World.cell?_setCell_same wr ⟨w.heap.size, 0, none⟩ (.slice none 0 0) y1
            refine bodyPost_ret (v := .tuple #[.agg #[.slice none 0 0], .int .i64 3, .int .i64 ((k + 1 : Nat) : Int)]) (by simp [results, Tryz.results27, go_sem, q5]) rfl ?_
            exact rpQ_err 3 (k + 1) HE2.out rfl (hbw.setCell (p := ⟨w.heap.size, 0, none⟩) (Nat.le_refl _) _)
        · have HS := parseG_span g' out k (c :: t) (by simp) (fun c' t' h => by injection h with h1 h2; rw [← h1]; exact h93)
          rw [← hct] at HS
          have HN := Lib.hid (HF.out.trans HS)
          have hcn : ((c.toNat : Int) == 93) = false := by
            rw [beq_eq_false_iff_ne]; intro h; exact h93 (UInt8.toNat_inj.1 (by show _ = 93; omega))
          clear HS HF htl hct h93
          have hs1 : s.size ≤ 1000000 := by omega
          cases hrd : rdF (s.data.toList.drop k) with
          | none =>
            have HE : Hid (parseF s.data.toList = .err 9 k) := Lib.hid (by rw [HN.out, show spanF (s.data.toList.drop k) = .esc 0 by unfold spanF; rw [hrd]]; rfl)
            have hr := fun W => rread_none W hs1 hk hrd
            clear HN hrd
            go_wp2_with (go_at_call 77; with_reducible refine (hr _).mono ?_; rintro e w2 ⟨⟨b, rfl⟩, hB2⟩; have z1 := (hB2.cell (p := ⟨w.heap.size, 0, none⟩) y7).trans y1; have z2 := (hB2.frozen (p := ⟨w.heap.size, 0, none⟩) y7).trans y2)
            have q5 := World.cell?_setCell_same w2 ⟨w.heap.size, 0, none⟩ (.slice none 0 0) z1
            refine bodyPost_ret (v := .tuple #[.agg #[.slice none 0 0], .int .i64 9, .int .i64 k]) (by simp [results, Tryz.results27, go_sem, q5]) rfl ?_
            exact rpQ_err 9 k HE.out rfl ((hbw.trans (hB2.mono (Nat.le_of_lt y7))).setCell (p := ⟨w.heap.size, 0, none⟩) (Nat.le_refl _) _)
          | some lo =>
            obtain ⟨p1, p2, p3⟩ := rd_fits hk hrd
            have hsh := span_shape hk hrd
            have hr := fun W => rread_some W hs1 hk hrd
            clear hrd
            generalize (Go.Proofs.YtmbjjheaddhmeaaGreatDoor.wr lo).length = m at *
            have hkm : ((k + m : Nat) : Int) = (k : Int) + (m : Int) := by omega
            rw [hkm] at hr
            have hkm2 : ((k : Int) + (m : Int)).toNat = k + m := by omega
            have b1 := numP_pt p1
            rcases hsh with ⟨h1, h2, h3, h4⟩ | ⟨hi, n, rb, h1, h2, h3, h4, h5⟩
            · have HE : Hid (parseF s.data.toList = .err 9 (k + m + 1)) := Lib.hid (by rw [HN.out, h4]; rfl)
              have hr2 := fun W => rread_none W hs1 (by omega) h3
              have e1 : ((k + m + 1 : Nat) : Int) = (k : Int) + (m : Int) + 1 := by omega
              rw [e1] at hr2
              have hlt2 : (k : Int) + (m : Int) < (s.size : Int) := by omega
              have hx0 : 0 ≤ numP lo := by omega
              clear HN h3 h4 hkm
              generalize numP lo = x at *
              clear b1
              go_wp2_with (first | (go_at_call 77; with_reducible refine (hr _).mono ?_; rintro e w2 ⟨rfl, hB2⟩; have z1 := (hB2.cell (p := ⟨w.heap.size, 0, none⟩) y7).trans y1; have z2 := (hB2.frozen (p := ⟨w.heap.size, 0, none⟩) y7).trans y2; have z3 := Nat.lt_of_lt_of_le y7 hB2.size) | (go_at_call 77; with_reducible refine (hr2 _).mono ?_; rintro e w3 ⟨⟨b, rfl⟩, hB3⟩; have v1 := (hB3.cell (p := ⟨w.heap.size, 0, none⟩) z3).trans z1; have v2 := (hB3.frozen (p := ⟨w.heap.size, 0, none⟩) z3).trans z2))
              have q5 := World.cell?_setCell_same w3 ⟨w.heap.size, 0, none⟩ (.slice none 0 0) v1
              refine bodyPost_ret (v := .tuple #[.agg #[.slice none 0 0], .int .i64 9, .int .i64 ((k + m + 1 : Nat) : Int)]) (by simp [results, Tryz.results27, go_sem, q5]) rfl ?_
              exact rpQ_err 9 (k + m + 1) HE.out rfl (((hbw.trans (hB2.mono (Nat.le_of_lt y7))).trans (hB3.mono (Nat.le_of_lt z3))).setCell (p := ⟨w.heap.size, 0, none⟩) (Nat.le_refl _) _)
            · have HSP := Lib.hid h4
              have hH := numP_pt h1
              have hl1 : numP hi ≤ numP lo ↔ hi ≤ lo := num_le p1 h1
              clear h4
              go_upto_region 15 with ((go_at_call 77; with_reducible refine (hr _).mono ?_; rintro e w2 ⟨rfl, hB2⟩))
              have c2 := (hB2.cell (p := ⟨B, 0, none⟩) y6).trans hc
              have f2 := (hB2.frozen (p := ⟨B, 0, none⟩) y6).trans hf
              have z1 := (hB2.cell (p := ⟨w.heap.size, 0, none⟩) y7).trans y1
              have z2 := (hB2.frozen (p := ⟨w.heap.size, 0, none⟩) y7).trans y2
              have hown2 := Lib.hid (ownsRow_below hB2 hown.out)
              have hb2 := hb.trans (hB2.mono (Nat.le_of_lt y6))
              have y8 : B < w2.heap.size := Nat.lt_of_lt_of_le y6 hB2.size
              have y9 : w.heap.size < w2.heap.size := by omega
              have hx0 : 0 ≤ numP lo := by omega
              have HL1 := Lib.hid hl1
              have HB0 := Lib.hid b1
              have HH := Lib.hid hH
              clear hc hf y1 y2 hown hb hB2 hr hl1 hkm hbw y6 y7 b1 hH
              go_cut [10] from 21 to 109 (fun s10 wx => s10 = .bool rb ∧ wx = w2)
              case first =>
                rcases h5 with ⟨rfl, _, _, q1 | ⟨q1, q2⟩⟩ | ⟨rfl, _, ⟨q1, q2⟩, _⟩
                · have q3 : ¬ (k : Int) + (m : Int) < (s.size : Int) := by omega
                  go_wp2
                  go_meet
                  exact ⟨rfl, rfl⟩
                · have q3 : (k : Int) + (m : Int) < (s.size : Int) := by omega
                  have q4 : (((s[k + m]'q1).toNat : Int) == 45) = false := by
                    rw [beq_eq_false_iff_ne]; intro h; exact q2 (UInt8.toNat_inj.1 (by show _ = 45; omega))
                  clear q2
                  go_wp2
                  go_meet
                  exact ⟨rfl, rfl⟩
                · have q3 : (k : Int) + (m : Int) < (s.size : Int) := by omega
                  go_wp2
                  go_meet
                  exact ⟨rfl, rfl⟩
              case rest =>
                obtain ⟨rfl, rfl⟩ := hcut
                obtain ⟨W, rfl⟩ : ∃ W : World, W = wc := ⟨_, rfl⟩
                obtain ⟨L, hL⟩ : ∃ L, out.length = L := ⟨_, rfl⟩
                rw [hL] at c2 hown2 ho
                have HL := Lib.hid hL
                clear hL
                go_upto_if 61 with (fail)
                go_cut [8, 9, 11] from 21 to 109 (fun s8 s9 s11 wx => s8 = .int .i64 ((k + n : Nat) : Int) ∧ s9 = .int .i64 (numP hi) ∧ Below W.heap.size W wx)
                case first =>
                  rcases h5 with ⟨rfl, rfl, rfl, _⟩ | ⟨rfl, rfl, ⟨q1, q2⟩, q3⟩
                  · go_wp2
                    go_meet
                    exact ⟨by simp, rfl, Below.refl _ _⟩
                  · have hr2 := fun W => rread_some W hs1 (by omega) q3
                    have e1 : ((k + m + 1 : Nat) : Int) = (k : Int) + (m : Int) + 1 := by omega
                    rw [e1] at hr2
                    have hy0 : 0 ≤ numP hi := by have := HH.out; omega
                    clear q2 q3
                    generalize numP hi = y at *
                    go_wp2_with ((go_at_call 77; with_reducible refine (hr2 _).mono ?_; rintro e w3 ⟨rfl, hB3⟩))
                    go_meet
                    exact ⟨congrArg (Value.int .i64) (by omega), rfl, hB3⟩
                case rest =>
                  obtain ⟨rfl, rfl, hB3⟩ := hcut
                  obtain ⟨X, rfl⟩ : ∃ X : World, X = wc := ⟨_, rfl⟩
                  have c3 := (hB3.cell (p := ⟨B, 0, none⟩) y8).trans c2
                  have f3 := (hB3.frozen (p := ⟨B, 0, none⟩) y8).trans f2
                  have z3 := (hB3.cell (p := ⟨w.heap.size, 0, none⟩) y9).trans z1
                  have z4 := (hB3.frozen (p := ⟨w.heap.size, 0, none⟩) y9).trans z2
                  have hown3 := Lib.hid (ownsRow_below hB3 hown2.out)
                  have hb3 := hb2.trans (hB3.mono (Nat.le_of_lt y8))
                  have y5 : B < X.heap.size := Nat.lt_of_lt_of_le y8 hB3.size
                  obtain ⟨bad, hbad⟩ : ∃ bad : Bool, bad = (decide (rb = true ∧ hi ≤ lo) || touchF out lo) := ⟨_, rfl⟩
                  have HBAD := Lib.hid hbad
                  have hE : parseF s.data.toList = if bad = true then .err 4 k else parseG g' (s.data.toList.drop (k + n)) (out ++ [(lo, hi)]) (k + n) := by
                    rw [HN.out, HSP.out, hbad]
                    by_cases hf : rb = true ∧ hi ≤ lo
                    · rw [if_pos hf, if_pos (by simp [hf])]
                    · rw [if_neg hf]
                      dsimp only
                      rw [List.drop_drop]
                      by_cases ht : touchF out lo = true
                      · rw [if_pos ht, if_pos (by simp [ht])]
                      · rw [if_neg ht, if_neg (by simp [ht]; simpa using hf)]
                  have HE := Lib.hid hE
                  clear hE hbad HN HSP h5 c2 f2 z1 z2 hown2 hb2 y8 y9 hB3
                  go_upto_region 22 with (fail)
                  go_cut [98] from 21 to 109 (fun s98 wx => s98 = .bool bad ∧ wx = X)
                  case first =>
                    have HX : ∀ q : Bool, q = (decide (rb = true ∧ hi ≤ lo) || touchF out lo) → Value.bool q = Value.bool bad := fun q h => by rw [HBAD.out, h]
                    have HX2 := Lib.hid HX
                    clear HX HE HBAD
                    rcases List.eq_nil_or_concat out with rfl | ⟨ini, ⟨r, u⟩, rfl⟩
                    · obtain rfl : L = 0 := HL.out.symm
                      by_cases hf : rb = true ∧ hi ≤ lo
                      · obtain ⟨rfl, hle⟩ := hf
                        have hle2 := HL1.out.2 hle
                        go_wp2
                        go_meet
                        exact ⟨HX2.out _ (by simp [hle]), rfl⟩
                      · cases rb with
                        | false =>
                          go_wp2
                          go_meet
                          exact ⟨HX2.out _ (by simp [touchF]), rfl⟩
                        | true =>
                          have hle : ¬ hi ≤ lo := fun h => hf ⟨rfl, h⟩
                          have hle2 : ¬ numP hi ≤ numP lo := fun h => hle (HL1.out.1 h)
                          have HLE := Lib.hid hle
                          clear hf hle
                          go_wp2
                          go_meet
                          exact ⟨HX2.out _ (by have h2 := HLE.out; simp [touchF, h2]), rfl⟩
                    · rw [List.concat_eq_append] at *
                      obtain rfl : L = ini.length + 1 := by have := HL.out; simp at this; exact this.symm
                      obtain ⟨g0, cap0, hse, hg0, hg0'⟩ := World.ownsRow.form hown3.out (by omega)
                      obtain ⟨rfl, -, rfl⟩ : av = some ⟨g0, 0, none⟩ ∧ True ∧ cv = cap0 := by injection hse with h1 h2 h3; exact ⟨h1, trivial, h3⟩
                      have e5 := flatP_get ((ini ++ [(r, u)]).map nm) ini.length (by simp)
                      have c6 := World.ownsRow.cellAt hown3.out (ini.length * 2 + 1) (by omega)
                      rw [e5.2] at c6
                      have e6 : (((ini ++ [(r, u)]).map nm)[ini.length]?.getD (0, 0)).2 = numP u := by simp [nm]
                      rw [e6] at c6
                      have hu : ptB u = true := (HP.out (r, u) (by simp)).2
                      have hub := numP_pt hu
                      have htc := num_touch p1 hu
                      have hts : Hid (touchF (ini ++ [(r, u)]) lo = decide (lo ≤ nextP u)) := touch_snoc ini (r, u) lo
                      have HTC := Lib.hid htc
                      have hw0 : IntKind.i64.wrap (ini.length : Int) = (ini.length : Int) := IntWalk.i64_in _ (by omega)
                      have hw1 : (ini.length : Int) < (ini.length : Int) + 1 := by omega
                      have hw2 : (0 : Int) ≤ (ini.length : Int) := by omega
                      have hw4 : (0 : Int) < (ini.length : Int) + 1 := by omega
                      have hw3 : IntKind.i64.wrap (numP u + 1) = numP u + 1 := IntWalk.i64_in _ (by omega)
                      clear e5 e6 hse htc hub
                      by_cases hf : rb = true ∧ hi ≤ lo
                      · obtain ⟨rfl, hle⟩ := hf
                        have hle2 := HL1.out.2 hle
                        go_wp2
                        go_meet
                        exact ⟨HX2.out _ (by simp [hle]), rfl⟩
                      · by_cases ht : numP lo ≤ numP u + 1
                        · have HT : Hid (lo ≤ nextP u) := HTC.out.1 ht
                          cases rb with
                          | false =>
                            clear hf
                            go_wp2
                            go_meet
                            exact ⟨HX2.out _ (by rw [hts.out]; have h1 := HT.out; simp [h1]), rfl⟩
                          | true =>
                            have hle : ¬ hi ≤ lo := fun h => hf ⟨rfl, h⟩
                            have hle2 : ¬ numP hi ≤ numP lo := fun h => hle (HL1.out.1 h)
                            clear hf hle
                            go_wp2
                            go_meet
                            exact ⟨HX2.out _ (by rw [hts.out]; have h1 := HT.out; simp [h1]), rfl⟩
                        · have HT : Hid (¬ lo ≤ nextP u) := fun h => ht (HTC.out.2 h)
                          cases rb with
                          | false =>
                            clear hf
                            go_wp2
                            go_meet
                            exact ⟨HX2.out _ (by rw [hts.out]; have h1 := HT.out; simp [h1]), rfl⟩
                          | true =>
                            have hle : ¬ hi ≤ lo := fun h => hf ⟨rfl, h⟩
                            have hle2 : ¬ numP hi ≤ numP lo := fun h => hle (HL1.out.1 h)
                            have HLE := Lib.hid hle
                            clear hf hle
                            go_wp2
                            go_meet
                            exact ⟨HX2.out _ (by rw [hts.out]; have h1 := HT.out; have h2 := HLE.out; simp [h1, h2]), rfl⟩
                  case rest =>
                    obtain ⟨rfl, rfl⟩ := hcut
                    clear HBAD
                    cases bad with
                    | true =>
                      have HE2 := Lib.hid (HE.out.trans (if_pos rfl))
                      clear HE
                      go_wp2
                      have q5 := World.cell?_setCell_same wc ⟨w.heap.size, 0, none⟩ (.slice none 0 0) z3
                      refine bodyPost_ret (v := .tuple #[.agg #[.slice none 0 0], .int .i64 4, .int .i64 k]) (by simp [results, Tryz.results27, go_sem, q5]) rfl ?_
                      exact rpQ_err 4 k HE2.out rfl ((b0.trans (hb3.mono (Nat.le_of_lt hB1))).setCell (p := ⟨w.heap.size, 0, none⟩) (Nat.le_refl _) _)
                    | false =>
                      have HE2 := Lib.hid (HE.out.trans (if_neg (by decide)))
                      have HP2 : Hid (Pts (out ++ [(lo, hi)])) := HP.out.append (Pts.cons.2 ⟨⟨p1, h1⟩, Pts.nil⟩)
                      have HF2 : Hid (flatP ((out ++ [(lo, hi)]).map nm) = flatP (out.map nm) ++ [.int .i64 (numP lo), .int .i64 (numP hi)]) := by
                        show _ = _
                        rw [List.map_append, List.map_singleton, flatP_snoc]; rfl
                      have hvb := Lib.hid hown3.out.lt
                      have nB : L + 1 ≤ maxLen := by unfold maxLen; omega
                      have nB' : (L + 1) * 16 ≤ 140737488355328 := by omega
                      clear HE p1 h1 hx0 HH HB0 HL1
                      generalize numP lo = x at *
                      generalize numP hi = y at *
                      have BX : Below (B + 1) wc (wc.alloc (.cells #[.int .i64 x, .int .i64 y] 84)) := (Below.refl _ wc).alloc y5 _
                      go_wp2_with (at_builtin; refine wpList_append_lies _ ?_ (.tmp 102) (.tmp 106) 31 ?_ (B + 1) 84 i0 (.agg #[.int .i64 0, .int .i64 0]) 2 16 Tryz.underlying31 hi0 hz0 hz1 hz2 ?_ ?_ (.slice av L cv) (L) (flatP (out.map nm)) ?_ ?_ ⟨wc.heap.size, 0, none⟩ 1 1 [.int .i64 x, .int .i64 y] ?_ ?_ ?_ ?_ ?_ ?_ ?_ ?_ (wc.heap.size + 1) ?_ ?_; (· rfl); (· rfl); (· rfl); (· decide); (· rfl); (· exact hown3.out.alloc _); (· rfl); (· rfl); (· exact World.news_of_block (cs := #[.int .i64 x, .int .i64 y]) (t := 84) (fr := (0, 0)) (heap_alloc_new _ _)); (· simp [Value.oneCell']); (· decide); (· exact nB); (· exact nB'); (· first | (simp; omega) | omega); (· first | (with_reducible rfl) | simp); intro g cap w1 hown1 hgrow hat hlt; have BY := BX.grown hgrow (by simp; omega) (fun k hk => (hvb.out k hk).1); have e1 := (BY.cell (p := ⟨B, 0, none⟩) (Nat.lt_succ_self _)).trans c3; have e2 := (BY.frozen (p := ⟨B, 0, none⟩) (Nat.lt_succ_self _)).trans f3)
                      obtain ⟨d1, d2, d3, d4⟩ := push_done (hb3.trans (BY.mono (by omega))) e1 e2 hown1
                      go_roundg g'
                      case measure => omega
                      case rel => exact ⟨k + n, _, out ++ [(lo, hi)], rfl, by omega, by omega, by omega, by simp; have := HL.out; omega, HE2, HP2, d1, d2, by rw [HF2.out, show (out ++ [(lo, hi)]).length = L + 1 by simp; exact HL.out]; exact d3, d4⟩
end

section
open Go.RowKit

set_option maxRecDepth 100000 in
set_option maxHeartbeats 4000000 in
theorem rangesReads_any (s : ByteArray) (w : World) (h : RdOk w) (he : ErrT w) :
    Calls Tryz.prog 5 #[.string s] w fun e w' => e = .returned (.bool true) ∧ Below w.heap.size w w' := by
  by_cases hs : s.size ≤ 16384
  · have g1 : ¬ (16384 : Int) < (s.size : Int) := by omega
    have hs1 : s.size ≤ 100000 := by omega
    cases hF : parseF s.data.toList with
    | err no k =>
      obtain ⟨n1, n2⟩ := parseF_err hF
      have hn1 : (1 : Int) ≤ (no : Int) := by omega
      have hn2 : (no : Int) ≤ 25 := by omega
      have hP : Calls Tryz.prog 26 #[.string s] w fun e w' => e = .returned (.tuple #[.pointer none, .iface 81 (.agg #[.int .i64 no, .int .i64 0, .int .i64 k])]) ∧ Below w.heap.size w w' :=
        (parse_any s w hs1 h).mono (by
          rintro e w' ⟨⟨no', k', h1, rfl⟩ | ⟨r, b, h1, _⟩, hB⟩
          · rw [hF] at h1; injection h1 with e1 e2; subst e1 e2; exact ⟨rfl, hB⟩
          · rw [hF] at h1; cases h1)
      have hR : ∀ W : World, Calls Tryz.prog 27 #[.string s] W fun e w' => e = .returned (.tuple #[.agg #[.slice none 0 0], .int .i64 no, .int .i64 k]) ∧ Below W.heap.size W w' := fun W =>
        (rParse_any s W hs1).mono (by
          rintro e w' ⟨⟨no', k', h1, rfl⟩ | ⟨r, a, c, h1, _⟩, hB⟩
          · rw [hF] at h1; injection h1 with e1 e2; subst e1 e2; exact ⟨rfl, hB⟩
          · rw [hF] at h1; cases h1)
      have HD := Lib.hid h
      have HE := Lib.hid he
      have hn0 : ((no : Int) != 0) = true := by simp; omega
      clear hF h he hs
      go_enter Tryz.func5, Tryz.ntmps5
      go_wp2_with fail
      refine hP.mono ?_
      rintro e w1 ⟨rfl, B1⟩
      go_wp2_with fail
      refine (hR w1).mono ?_
      rintro e w2 ⟨rfl, B2⟩
      have B12 := below_snoc B1 B2
      go_wp2_with fail
      have A2 := (Below.refl w2.heap.size w2).alloc (Nat.le_refl _) (.cells #[.slice none 0 0] 33)
      generalize (w2.alloc (.cells #[.slice none 0 0] 33)) = W2 at *
      have B12' := below_snoc B12 A2
      refine (told_fault no k W2 hn1 hn2 (HE.out.below B12')).mono ?_
      rintro e w3 ⟨rfl, B3⟩
      have B13 := below_snoc B12' B3
      have hd3 := HD.out.below B13
      go_wp2_with fail
      refine (works_any hd3.1 hd3.2.1).mono ?_
      rintro e w4 ⟨rfl, B4⟩
      go_wp2_with fail
      go_ret
      exact ⟨rfl, below_snoc B13 B4⟩
    | ok r =>
      obtain ⟨-, hp, hc⟩ := parseF_ok hF
      have hlen := parseF_len hF
      rw [← Lib.size_eq] at hlen
      have hP : Calls Tryz.prog 26 #[.string s] w fun e w' => (∃ b, e = .returned (.tuple #[.pointer (some ⟨b, 0, none⟩), .nilIface]) ∧ Rep w' (.pointer (some ⟨b, 0, none⟩)) (fun x => memB x (r.map nm)) 16384) ∧ Below w.heap.size w w' :=
        (parse_any s w hs1 h).mono (by
          rintro e w' ⟨⟨no', k', h1, rfl⟩ | ⟨r', b, h1, rfl, hS⟩, hB⟩
          · rw [hF] at h1; cases h1
          · rw [hF] at h1; injection h1 with e1; subst e1; exact ⟨⟨b, rfl, r, hS, hp, hc, by omega, fun _ _ _ => rfl⟩, hB⟩)
      have hR : ∀ W : World, Calls Tryz.prog 27 #[.string s] W fun e w' => (∃ a n c, e = .returned (.tuple #[.agg #[.slice a n c], .int .i64 0, .int .i64 0]) ∧ RRep w' (.agg #[.slice a n c]) (fun x => memB x (r.map nm))) ∧ Below W.heap.size W w' := fun W =>
        (rParse_any s W hs1).mono (by
          rintro e w' ⟨⟨no', k', h1, rfl⟩ | ⟨r', a, c, h1, rfl, hS⟩, hB⟩
          · rw [hF] at h1; cases h1
          · rw [hF] at h1; injection h1 with e1; subst e1; exact ⟨⟨a, _, c, rfl, _, _, rfl, hS, hc, fun _ _ _ => rfl⟩, hB⟩)
      have HD := Lib.hid h
      generalize (fun x => memB x (r.map nm)) = P at *
      clear hF h he hs hp hc hlen
      go_enter Tryz.func5, Tryz.ntmps5
      go_wp2_with fail
      refine hP.mono ?_
      rintro e w1 ⟨⟨b, rfl, hS⟩, B1⟩
      go_wp2_with fail
      refine (hR w1).mono ?_
      rintro e w2 ⟨⟨a, n, c, rfl, hT⟩, B2⟩
      have B12 := below_snoc B1 B2
      go_wp2_with fail
      have A2 := (Below.refl w2.heap.size w2).alloc (Nat.le_refl _) (.cells #[.slice a n c] 33)
      have c2 : (w2.alloc (.cells #[.slice a n c] 33)).cell? ⟨w2.heap.size, 0, none⟩ = some (.slice a n c) := by simp
      generalize (w2.alloc (.cells #[.slice a n c] 33)) = W2 at *
      have B12' := below_snoc B12 A2
      refine (told_nil 0 W2).mono ?_
      rintro e w3 ⟨rfl, B3⟩
      have B13 := below_snoc B12' B3
      have hd3 := HD.out.below B13
      go_wp2_with fail
      refine (works_any hd3.1 hd3.2.1).mono ?_
      rintro e w4 ⟨rfl, B4⟩
      have B14 := below_snoc B13 B4
      have c4 := (B4.cell (p := ⟨w2.heap.size, 0, none⟩) (cell_lt ((B3.cell (p := ⟨w2.heap.size, 0, none⟩) (cell_lt c2)).trans c2))).trans ((B3.cell (p := ⟨w2.heap.size, 0, none⟩) (cell_lt c2)).trans c2)
      have hS4 := hS.below (below_snoc B2 (below_snoc A2 (below_snoc B3 B4)))
      have hT4 := hT.below (below_snoc A2 (below_snoc B3 B4))
      have hd4 := HD.out.below B14
      go_wp2_with fail
      refine (is_rep (asks := []) hS4 hT4 (by omega) ⟨none, 0, rfl, .inl rfl⟩ (fun x hx => by cases hx) ⟨hd4.1, hd4.2.1⟩).mono ?_
      rintro e w5 ⟨rfl, B5⟩
      go_wp2_with fail
      go_ret
      exact ⟨rfl, below_snoc B14 B5⟩
  · have g1 : (16384 : Int) < (s.size : Int) := by omega
    clear h he hs
    go_enter Tryz.func5, Tryz.ntmps5
    go_wp2
    go_ret
    exact ⟨rfl, Below.refl _ _⟩
end
end Go.Proofs.YtmbjjheaddhmeaaGreatDoor
