/- ranges.read: the point that is written at the head of a text. -/
import Derived.Test.YtmbjjheaddhmeaaGreatDoorHex
import Derived.Test.YtmbjjheaddhmeaaGreatDoorJoin
import Derived.Test.YtmbjjheaddhmeaaGreatDoorSh
import Derived.Deep.QuietTactic
import Derived.BigQuiet
import Derived.Deep.RegionWith
import Derived.Deep.DeepCutAuto
namespace Go.Proofs.YtmbjjheaddhmeaaGreatDoor
open Go.RowKit Go.Shelf

/-- What read answers. -/
def RdQ (l : List UInt8) (w w' : World) (e : Ending) : Prop :=
  ∃ (r n : Int) (ok : Bool), e = .returned (.tuple #[.int .i32 r, .int .i64 n, .bool ok]) ∧ ((ok = true ∧ rdF l = some r ∧ n = ((wr r).length : Int)) ∨ (ok = false ∧ rdF l = none)) ∧ Below w.heap.size w w'
theorem rdQ_out {l : List UInt8} {w w' : World} {e : Ending} (he : e = .returned (.tuple #[.int .i32 0, .int .i64 0, .bool false])) (hn : rdF l = none) (hB : Below w.heap.size w w') : RdQ l w w' e := ⟨0, 0, false, he, .inr ⟨rfl, hn⟩, hB⟩

theorem cut_list (s : ByteArray) (a b : Nat) : (s.extract a b).data.toList = (s.data.toList.take b).drop a := by
  rw [Lib.extract_data, List.drop_take]

set_option maxRecDepth 100000 in
set_option maxHeartbeats 4000000 in
theorem read_no (s : ByteArray) (w : World) (hs : s.size ≤ 1000000) (h : rdEnd s.data.toList < 4 ∨ 10 < rdEnd s.data.toList ∨ (s.size : Int) < rdEnd s.data.toList) :
    Calls Tryz.prog 123 #[.string s] w fun e w' => RdQ s.data.toList w w' e := by
  have hn : rdF s.data.toList = none := rdF_none fun r hr hp => by
    obtain ⟨a1, a2, a3, a4, _⟩ := rd_comp hr hp
    rw [← Lib.size_eq] at a4
    omega
  have HN := Lib.hid hn
  clear hn
  have hP := fun W => Tryz.strings_HasPrefix s ⟨#[92, 117, 123]⟩ W
  have hI := fun W => Tryz.strings_IndexByte s 125 W
  have hx := indexByte_lt s.data.toList 125
  unfold rdEnd at h
  dsimp only at hP
  change ∀ W, Calls _ _ _ W fun e w' => e = Ending.returned (.int .i64 (Lib.indexByte s.data.toList 125)) ∧ w' = W at hI
  rw [← Lib.size_eq] at hx
  cases hb : Lib.hasPrefix s.data.toList [92, 117, 123] with
  | true =>
    rw [hb] at h hP
    rw [if_pos rfl] at h
    generalize Lib.indexByte s.data.toList 125 = x at *
    clear hb
    have h' : x + 1 < 4 ∨ (4 ≤ x + 1 ∧ 10 < x + 1) ∨ (4 ≤ x + 1 ∧ x + 1 ≤ 10 ∧ (s.size : Int) < x + 1) := by omega
    rcases h' with h | ⟨h, h'⟩ | ⟨h, h', h''⟩
    all_goals
      go_enter Tryz.func123, Tryz.ntmps123
      go_wp2_with (first
        | (go_at_call 75; refine (hP _).mono ?_; rintro e w' ⟨rfl, rfl⟩)
        | (go_at_call 136; refine (hI _).mono ?_; rintro e w' ⟨rfl, rfl⟩))
      go_ret3
      exact rdQ_out rfl HN.out (Below.refl _ _)
  | false =>
    rw [hb] at h hP
    rw [if_neg (by decide)] at h
    have h' : (s.size : Int) < 4 := by omega
    clear hI hx
    go_enter Tryz.func123, Tryz.ntmps123
    go_wp2_with (go_at_call 75; refine (hP _).mono ?_; rintro e w' ⟨rfl, rfl⟩)
    go_ret3
    exact rdQ_out rfl HN.out (Below.refl _ _)

theorem below_drewN' {B : Nat} {a w : World} (h : Below B a w) (n : Nat) : Below B a (w.drewN n) := h.trans ⟨rfl, rfl, rfl, Nat.le_refl _, fun _ _ => rfl⟩

/-- The value that read makes of the digits. -/
def rdVal (x : Bool) (n : Int) : Int := if x then wrap32 (wrap32 n + 1114112) else wrap32 n
theorem rdVal_in {x : Bool} {m : Nat} (h : m ≤ 1114111) : rdVal x m = (m : Int) + (if x = true then 1114112 else 0) := by
  unfold rdVal wrap32; split <;> omega

theorem rd_bad {l : List UInt8} {k n : Nat} {x : Bool} {R : Int} (hE : rdEnd l = k) (hx : x = decide (l[1]?.getD 0 = 120)) (hn : hexP 0 (rdDig l k) = .ok n) (hR : rdVal x n = R) (hp : ptB R = false) : rdF l = none :=
  rdF_none fun r hr hpre => by
    obtain ⟨a1, _, _, _, _, m, a2, a3, a4⟩ := rd_comp hr hpre
    have : (wr r).length = k := by omega
    rw [this, hn] at a2
    injection a2 with a2
    subst a2
    have e := rdVal_in (x := x) a3
    rw [hR] at e
    have : R = r := by rw [e, a4, hx]; simp
    rw [this, hr] at hp
    cases hp
theorem rd_err {l : List UInt8} {k : Nat} (hE : rdEnd l = k) (hn : rdDig l k = [] ∨ ∀ n, hexP 0 (rdDig l k) ≠ .ok n) : rdF l = none :=
  rdF_none fun r hr hpre => by
    obtain ⟨a1, _, _, _, a5, m, a2, a3, a4⟩ := rd_comp hr hpre
    have : (wr r).length = k := by omega
    rw [this] at a2 a5
    rcases hn with h | h
    · exact a5 h
    · exact h m a2
theorem rd_good {l : List UInt8} {k n : Nat} {x : Bool} {R : Int} (hE : rdEnd l = k) (hk : k ≤ l.length) (hx : x = decide (l[1]?.getD 0 = 120)) (hn : hexP 0 (rdDig l k) = .ok n) (hR : rdVal x n = R) (hp : ptB R = true) :
    ((wr R == l.take k) = true ∧ rdF l = some R ∧ (k : Int) = ((wr R).length : Int)) ∨ ((wr R == l.take k) = false ∧ rdF l = none) := by
  cases e : wr R == l.take k with
  | true =>
    have h := eq_of_beq e
    refine .inl ⟨rfl, rdF_some hp ?_, ?_⟩
    · rw [h]; exact List.take_prefix _ _
    · rw [h]; simp; omega
  | false =>
    refine .inr ⟨rfl, rdF_none fun r hr hpre => ?_⟩
    obtain ⟨a1, _, _, _, _, m, a2, a3, a4⟩ := rd_comp hr hpre
    have hl : (wr r).length = k := by omega
    rw [hl, hn] at a2
    injection a2 with a2
    subst a2
    have e' := rdVal_in (x := x) a3
    rw [hR] at e'
    have : R = r := by rw [e', a4, hx]; simp
    subst this
    rw [beq_eq_false_iff_ne] at e
    exact e (by rw [← hl]; exact (List.prefix_iff_eq_take.1 hpre))

theorem at_one {s : ByteArray} {b : Bool} (h1 : 1 < s.size) (h : ((s[1].toNat : Int) == 120) = b) : b = decide (s.data.toList[1]?.getD 0 = 120) := by
  rw [← h]
  have e : s.data.toList[1]?.getD 0 = s[1] := by
    rw [List.getElem?_eq_getElem (by rw [← Lib.size_eq]; exact h1)]; rfl
  rw [e, Bool.eq_iff_iff]
  simp only [beq_iff_eq, decide_eq_true_eq]
  constructor
  · intro h; exact UInt8.toNat_inj.1 (by show _ = 120; omega)
  · intro h; rw [h]; rfl

theorem trimP_len (l p : List UInt8) : (Lib.trimPrefix l p).length ≤ l.length := by unfold Lib.trimPrefix; split <;> simp
theorem trimS_len (l p : List UInt8) : (Lib.trimSuffix l p).length ≤ l.length := by unfold Lib.trimSuffix; split <;> simp
theorem take_extract (s : ByteArray) (k : Nat) : (s.extract 0 k).toList = s.data.toList.take k := by rw [Lib.extract_toList]; simp


set_option maxRecDepth 100000 in
set_option maxHeartbeats 8000000 in
theorem read_yes_true (s : ByteArray) (k : Nat) (w : World) (hs : s.size ≤ 1000000) (hE : rdEnd s.data.toList = k) (h4 : 4 ≤ k) (h10 : k ≤ 10) (hk : k ≤ s.size) (hd : Db w) (hg : 6 < w.heap.size) (h1 : ErrVar w 3) (h2 : ErrVar w 4) (hb : Lib.hasPrefix s.data.toList [92, 117, 123] = true) :
    Calls Tryz.prog 123 #[.string s] w fun e w' => RdQ s.data.toList w w' e := by
  have hP := fun W => Tryz.strings_HasPrefix s ⟨#[92, 117, 123]⟩ W
  have hI := fun W => Tryz.strings_IndexByte s 125 W
  have HG := Lib.hid (⟨hd, hg, h1, h2⟩ : Db w ∧ 6 < w.heap.size ∧ ErrVar w 3 ∧ ErrVar w 4)
  have HE := Lib.hid hE
  have hT := fun W => Tryz.strings_TrimPrefix (s.extract 2 k) ⟨#[123]⟩ W
  unfold rdEnd at hE
  dsimp only at hP hT
  change ∀ W, Calls _ _ _ W fun e w' => e = Ending.returned (.int .i64 (Lib.indexByte s.data.toList 125)) ∧ w' = W at hI
  rw [cut_list] at hT
  have l1 : ((s.data.toList.take k).drop 2).length ≤ 10 := by rw [List.length_drop, List.length_take]; omega
  have l2 := trimP_len ((s.data.toList.take k).drop 2) [123]
  generalize hT1 : Lib.trimPrefix ((s.data.toList.take k).drop 2) [123] = T1 at hT l2
  have hTS : T1.length ≤ 10 := by omega
  have hU := fun W => Tryz.strings_TrimSuffix ⟨T1.toArray⟩ ⟨#[125]⟩ W (by simp [ByteArray.size]; omega)
  dsimp only at hU
  have l3 := trimS_len T1 [125]
  generalize hT2 : Lib.trimSuffix T1 [125] = T2 at hU l3
  have hTS2 : T2.length ≤ 10 := by omega
  have hdig : rdDig s.data.toList k = T2 := by unfold rdDig; rw [hT1, hT2]
  have HD := Lib.hid hdig
  have HK : Hid (k ≤ s.data.toList.length) := Lib.hid (by rw [← Lib.size_eq]; exact hk)
  clear hdig hT1 hT2 hd hg h1 h2 l1 l2 l3
  rw [hb] at hE hP
  simp only [if_true, if_false, Bool.false_eq_true] at hE
  generalize Lib.indexByte s.data.toList 125 = x at *
  obtain rfl : x = (k : Int) - 1 := by omega
  clear hb hE
  go_enter Tryz.func123, Tryz.ntmps123
  go_wp2_with (first
        | (go_at_call 75; refine (hP _).mono ?_; rintro e w' ⟨rfl, rfl⟩)
        | (go_at_call 136; refine (hI _).mono ?_; rintro e w' ⟨rfl, rfl⟩)
        | (go_at_call 137; refine (hT _).mono ?_; rintro e w' ⟨rfl, rfl⟩)
        | (go_at_call 139; refine (hU _).mono ?_; rintro e w' ⟨rfl, rfl⟩)
        | (go_at_call 138; refine (pu_any ⟨T2.toArray⟩ _ (by simp [ByteArray.size]; omega) HG.out.2.2.1 HG.out.2.2.2).mono ?_; rintro e w1 ⟨⟨n, hn, hne, rfl⟩ | ⟨hno, n, p, hn, rfl⟩, hB⟩))
  · have HX : Hid (true = decide (s.data.toList[1]?.getD 0 = 120)) := Lib.hid (at_one (by omega) (by assumption))
    have hR0 : ∃ R, rdVal true n = R := ⟨_, rfl⟩
    obtain ⟨R, hR⟩ := hR0
    have HR := Lib.hid hR
    unfold rdVal at hR
    rw [if_pos rfl] at hR
    rw [hR]
    clear hR
    have HN := Lib.hid hn
    have hpt := fun W => (point_any R W).mono (R' := fun e w' => e = .returned (.bool (ptB R)) ∧ w' = W) (fun e w' h => ⟨h.1, h.2.symm⟩)
    generalize hPB : ptB R = pb at *
    have HPB := Lib.hid hPB
    clear hPB hn
    cases pb with
    | false =>
      go_quiet ((go_at_call 31; exact Calls.quiet_of_same (hpt _)))
      go_wp2
      go_ret3
      exact ⟨R, k, false, rfl, .inr ⟨rfl, rd_bad HE.out HX.out (by rw [HD.out]; exact HN.out) HR.out HPB.out⟩, below_drewN' hB nq⟩
    | true =>
      have D1 : Db w1.drew := (hB.cell (p := ⟨6, 15, none⟩) HG.out.2.1).trans HG.out.1
      have G1 : 6 < w1.drew.heap.size := Nat.lt_of_lt_of_le HG.out.2.1 hB.size
      have hB0 : 0 ≤ R ∧ R ≤ 1114367 := by have := numP_pt HPB.out; omega
      go_region_with (first
        | (go_at_call 31; refine (hpt _).mono ?_; rintro e w' ⟨rfl, rfl⟩)
        | (go_at_call 90; refine (written_any R hB0.1 hB0.2 w1.drew D1 G1).mono ?_; rintro e w2 ⟨rfl, hB2⟩))
      all_goals go_wp2
      all_goals go_ret3
      all_goals
        refine ⟨R, k, _, rfl, ?_, hB.trans (Below.trans (Below.refl _ _).drew (hB2.mono hB.size))⟩
        have := rd_good HE.out HK.out HX.out (by rw [HD.out]; exact HN.out) HR.out HPB.out
        rw [← take_extract] at this
        exact this
  · have HX : Hid (false = decide (s.data.toList[1]?.getD 0 = 120)) := Lib.hid (at_one (by omega) (by assumption))
    have hR0 : ∃ R, rdVal false n = R := ⟨_, rfl⟩
    obtain ⟨R, hR⟩ := hR0
    have HR := Lib.hid hR
    unfold rdVal at hR
    rw [if_neg (by decide)] at hR
    rw [hR]
    clear hR
    have HN := Lib.hid hn
    have hpt := fun W => (point_any R W).mono (R' := fun e w' => e = .returned (.bool (ptB R)) ∧ w' = W) (fun e w' h => ⟨h.1, h.2.symm⟩)
    generalize hPB : ptB R = pb at *
    have HPB := Lib.hid hPB
    clear hPB hn
    cases pb with
    | false =>
      go_quiet ((go_at_call 31; exact Calls.quiet_of_same (hpt _)))
      go_wp2
      go_ret3
      exact ⟨R, k, false, rfl, .inr ⟨rfl, rd_bad HE.out HX.out (by rw [HD.out]; exact HN.out) HR.out HPB.out⟩, below_drewN' hB nq⟩
    | true =>
      have D1 : Db w1.drew := (hB.cell (p := ⟨6, 15, none⟩) HG.out.2.1).trans HG.out.1
      have G1 : 6 < w1.drew.heap.size := Nat.lt_of_lt_of_le HG.out.2.1 hB.size
      have hB0 : 0 ≤ R ∧ R ≤ 1114367 := by have := numP_pt HPB.out; omega
      go_region_with (first
        | (go_at_call 31; refine (hpt _).mono ?_; rintro e w' ⟨rfl, rfl⟩)
        | (go_at_call 90; refine (written_any R hB0.1 hB0.2 w1.drew D1 G1).mono ?_; rintro e w2 ⟨rfl, hB2⟩))
      all_goals go_wp2
      all_goals go_ret3
      all_goals
        refine ⟨R, k, _, rfl, ?_, hB.trans (Below.trans (Below.refl _ _).drew (hB2.mono hB.size))⟩
        have := rd_good HE.out HK.out HX.out (by rw [HD.out]; exact HN.out) HR.out HPB.out
        rw [← take_extract] at this
        exact this
  all_goals
    have HO := Lib.hid hno
    clear hno
    go_quiet (fail)
    go_wp2
    go_ret3
    exact ⟨_, _, false, rfl, .inr ⟨rfl, rd_err HE.out (by rw [HD.out]; exact HO.out)⟩, below_drewN' hB nq⟩

set_option maxRecDepth 100000 in
set_option maxHeartbeats 8000000 in
theorem read_yes_false (s : ByteArray) (k : Nat) (w : World) (hs : s.size ≤ 1000000) (hE : rdEnd s.data.toList = k) (h4 : 4 ≤ k) (h10 : k ≤ 10) (hk : k ≤ s.size) (hd : Db w) (hg : 6 < w.heap.size) (h1 : ErrVar w 3) (h2 : ErrVar w 4) (hb : Lib.hasPrefix s.data.toList [92, 117, 123] = false) :
    Calls Tryz.prog 123 #[.string s] w fun e w' => RdQ s.data.toList w w' e := by
  have hP := fun W => Tryz.strings_HasPrefix s ⟨#[92, 117, 123]⟩ W
  have hI := fun W => Tryz.strings_IndexByte s 125 W
  have HG := Lib.hid (⟨hd, hg, h1, h2⟩ : Db w ∧ 6 < w.heap.size ∧ ErrVar w 3 ∧ ErrVar w 4)
  have HE := Lib.hid hE
  have hT := fun W => Tryz.strings_TrimPrefix (s.extract 2 k) ⟨#[123]⟩ W
  unfold rdEnd at hE
  dsimp only at hP hT
  change ∀ W, Calls _ _ _ W fun e w' => e = Ending.returned (.int .i64 (Lib.indexByte s.data.toList 125)) ∧ w' = W at hI
  rw [cut_list] at hT
  have l1 : ((s.data.toList.take k).drop 2).length ≤ 10 := by rw [List.length_drop, List.length_take]; omega
  have l2 := trimP_len ((s.data.toList.take k).drop 2) [123]
  generalize hT1 : Lib.trimPrefix ((s.data.toList.take k).drop 2) [123] = T1 at hT l2
  have hTS : T1.length ≤ 10 := by omega
  have hU := fun W => Tryz.strings_TrimSuffix ⟨T1.toArray⟩ ⟨#[125]⟩ W (by simp [ByteArray.size]; omega)
  dsimp only at hU
  have l3 := trimS_len T1 [125]
  generalize hT2 : Lib.trimSuffix T1 [125] = T2 at hU l3
  have hTS2 : T2.length ≤ 10 := by omega
  have hdig : rdDig s.data.toList k = T2 := by unfold rdDig; rw [hT1, hT2]
  have HD := Lib.hid hdig
  have HK : Hid (k ≤ s.data.toList.length) := Lib.hid (by rw [← Lib.size_eq]; exact hk)
  clear hdig hT1 hT2 hd hg h1 h2 l1 l2 l3
  rw [hb] at hE hP
  simp only [if_true, if_false, Bool.false_eq_true] at hE
  generalize Lib.indexByte s.data.toList 125 = x at *
  obtain rfl : k = 4 := by omega
  clear hb hE
  go_enter Tryz.func123, Tryz.ntmps123
  go_wp2_with (first
        | (go_at_call 75; refine (hP _).mono ?_; rintro e w' ⟨rfl, rfl⟩)
        | (go_at_call 136; refine (hI _).mono ?_; rintro e w' ⟨rfl, rfl⟩)
        | (go_at_call 137; refine (hT _).mono ?_; rintro e w' ⟨rfl, rfl⟩)
        | (go_at_call 139; refine (hU _).mono ?_; rintro e w' ⟨rfl, rfl⟩)
        | (go_at_call 138; refine (pu_any ⟨T2.toArray⟩ _ (by simp [ByteArray.size]; omega) HG.out.2.2.1 HG.out.2.2.2).mono ?_; rintro e w1 ⟨⟨n, hn, hne, rfl⟩ | ⟨hno, n, p, hn, rfl⟩, hB⟩))
  · have HX : Hid (true = decide (s.data.toList[1]?.getD 0 = 120)) := Lib.hid (at_one (by omega) (by assumption))
    have hR0 : ∃ R, rdVal true n = R := ⟨_, rfl⟩
    obtain ⟨R, hR⟩ := hR0
    have HR := Lib.hid hR
    unfold rdVal at hR
    rw [if_pos rfl] at hR
    rw [hR]
    clear hR
    have HN := Lib.hid hn
    have hpt := fun W => (point_any R W).mono (R' := fun e w' => e = .returned (.bool (ptB R)) ∧ w' = W) (fun e w' h => ⟨h.1, h.2.symm⟩)
    generalize hPB : ptB R = pb at *
    have HPB := Lib.hid hPB
    clear hPB hn
    cases pb with
    | false =>
      go_quiet ((go_at_call 31; exact Calls.quiet_of_same (hpt _)))
      go_wp2
      go_ret3
      exact ⟨R, 4, false, rfl, .inr ⟨rfl, rd_bad HE.out HX.out (by rw [HD.out]; exact HN.out) HR.out HPB.out⟩, below_drewN' hB nq⟩
    | true =>
      have D1 : Db w1.drew := (hB.cell (p := ⟨6, 15, none⟩) HG.out.2.1).trans HG.out.1
      have G1 : 6 < w1.drew.heap.size := Nat.lt_of_lt_of_le HG.out.2.1 hB.size
      have hB0 : 0 ≤ R ∧ R ≤ 1114367 := by have := numP_pt HPB.out; omega
      go_region_with (first
        | (go_at_call 31; refine (hpt _).mono ?_; rintro e w' ⟨rfl, rfl⟩)
        | (go_at_call 90; refine (written_any R hB0.1 hB0.2 w1.drew D1 G1).mono ?_; rintro e w2 ⟨rfl, hB2⟩))
      all_goals go_wp2
      all_goals go_ret3
      all_goals
        refine ⟨R, 4, _, rfl, ?_, hB.trans (Below.trans (Below.refl _ _).drew (hB2.mono hB.size))⟩
        have := rd_good HE.out HK.out HX.out (by rw [HD.out]; exact HN.out) HR.out HPB.out
        rw [← take_extract] at this
        exact this
  · have HX : Hid (false = decide (s.data.toList[1]?.getD 0 = 120)) := Lib.hid (at_one (by omega) (by assumption))
    have hR0 : ∃ R, rdVal false n = R := ⟨_, rfl⟩
    obtain ⟨R, hR⟩ := hR0
    have HR := Lib.hid hR
    unfold rdVal at hR
    rw [if_neg (by decide)] at hR
    rw [hR]
    clear hR
    have HN := Lib.hid hn
    have hpt := fun W => (point_any R W).mono (R' := fun e w' => e = .returned (.bool (ptB R)) ∧ w' = W) (fun e w' h => ⟨h.1, h.2.symm⟩)
    generalize hPB : ptB R = pb at *
    have HPB := Lib.hid hPB
    clear hPB hn
    cases pb with
    | false =>
      go_quiet ((go_at_call 31; exact Calls.quiet_of_same (hpt _)))
      go_wp2
      go_ret3
      exact ⟨R, 4, false, rfl, .inr ⟨rfl, rd_bad HE.out HX.out (by rw [HD.out]; exact HN.out) HR.out HPB.out⟩, below_drewN' hB nq⟩
    | true =>
      have D1 : Db w1.drew := (hB.cell (p := ⟨6, 15, none⟩) HG.out.2.1).trans HG.out.1
      have G1 : 6 < w1.drew.heap.size := Nat.lt_of_lt_of_le HG.out.2.1 hB.size
      have hB0 : 0 ≤ R ∧ R ≤ 1114367 := by have := numP_pt HPB.out; omega
      go_region_with (first
        | (go_at_call 31; refine (hpt _).mono ?_; rintro e w' ⟨rfl, rfl⟩)
        | (go_at_call 90; refine (written_any R hB0.1 hB0.2 w1.drew D1 G1).mono ?_; rintro e w2 ⟨rfl, hB2⟩))
      all_goals go_wp2
      all_goals go_ret3
      all_goals
        refine ⟨R, 4, _, rfl, ?_, hB.trans (Below.trans (Below.refl _ _).drew (hB2.mono hB.size))⟩
        have := rd_good HE.out HK.out HX.out (by rw [HD.out]; exact HN.out) HR.out HPB.out
        rw [← take_extract] at this
        exact this
  all_goals
    have HO := Lib.hid hno
    clear hno
    go_quiet (fail)
    go_wp2
    go_ret3
    exact ⟨_, _, false, rfl, .inr ⟨rfl, rd_err HE.out (by rw [HD.out]; exact HO.out)⟩, below_drewN' hB nq⟩


theorem read_any (s : ByteArray) (w : World) (hs : s.size ≤ 1000000) (hd : Db w) (hg : 6 < w.heap.size) (h1 : ErrVar w 3) (h2 : ErrVar w 4) :
    Calls Tryz.prog 123 #[.string s] w fun e w' => RdQ s.data.toList w w' e := by
  by_cases h : rdEnd s.data.toList < 4 ∨ 10 < rdEnd s.data.toList ∨ (s.size : Int) < rdEnd s.data.toList
  · exact read_no s w hs h
  · obtain ⟨k, hk⟩ : ∃ k : Nat, rdEnd s.data.toList = k := ⟨(rdEnd s.data.toList).toNat, by omega⟩
    cases hb : Lib.hasPrefix s.data.toList [92, 117, 123] with
    | true => exact read_yes_true s k w hs hk (by omega) (by omega) (by omega) hd hg h1 h2 hb
    | false => exact read_yes_false s k w hs hk (by omega) (by omega) (by omega) hd hg h1 h2 hb

end Go.Proofs.YtmbjjheaddhmeaaGreatDoor
