/- strconv.FormatInt at base 16, of numbers below 2^24. -/
import Derived.Test.YtmbjjheaddhmeaaGreatDoorM
import Derived.BigRegion
import Derived.BigCall
import Derived.Deep.LoopGhost
import Derived.Deep.DeepCutAuto
import Derived.Deep.RegionLaw
import Derived.Lib.Hide
import Derived.Laws.BytesArg
import Derived.Laws.Bits64b
namespace Go.Proofs.YtmbjjheaddhmeaaGreatDoor
open Go.RowKit

def hexD (d : Nat) : UInt8 := UInt8.ofNat (if d < 10 then 48 + d else 87 + d)
def hexK : Nat → Nat → List UInt8
  | 0, u => [hexD u]
  | k + 1, u => if u < 16 then [hexD u] else hexK k (u / 16) ++ [hexD (u % 16)]
def Db (w : World) : Prop := w.cell? ⟨6, 15, none⟩ = some (.int .u8 4)

set_option maxHeartbeats 400000 in
theorem isPow16 (w : World) : Calls Tryz.prog 186 #[.int .i64 16] w fun e w' => e = .returned (.bool true) ∧ w = w' := by
  go_enter Tryz.func186, Tryz.ntmps186
  go_wp2
  go_ret
  exact ⟨by kernel_rfl, rfl⟩

set_option maxHeartbeats 400000 in
theorem tz64_16 (w : World) (hd : Db w) : Calls Tryz.prog 192 #[.int .u64 16] w fun e w' => e = .returned (.int .i64 4) ∧ w = w' := by
  have q1 : bits BinOp.and IntKind.u64 16 (IntKind.u64.wrap (-16)) = 16 := by kernel_rfl
  unfold Db at hd
  go_enter Tryz.func192, Tryz.ntmps192
  go_wp2
  go_ret
  exact ⟨rfl, rfl⟩

set_option maxHeartbeats 400000 in
theorem tz_16 (w : World) (hd : Db w) : Calls Tryz.prog 187 #[.int .u64 16] w fun e w' => e = .returned (.int .i64 4) ∧ w = w' := by
  go_enter Tryz.func187, Tryz.ntmps187
  go_wp2_with (go_at_call 192; refine (tz64_16 _ hd).mono ?_; rintro e w' ⟨rfl, rfl⟩)
  go_ret
  exact ⟨rfl, rfl⟩

def digits36 : ByteArray := ⟨#[48, 49, 50, 51, 52, 53, 54, 55, 56, 57, 97, 98, 99, 100, 101, 102, 103, 104, 105, 106, 107, 108, 109, 110, 111, 112, 113, 114, 115, 116, 117, 118, 119, 120, 121, 122]⟩
theorem hexD_dig (d : Nat) (h : d < 16) (h' : d < digits36.size) : digits36[d] = hexD d := by
  have : ∀ p : Fin 16, digits36.data[p.val]! = hexD p.val := by decide +kernel
  have := this ⟨d, h⟩
  rw [← this]
  exact (getElem!_pos digits36.data d h').symm
theorem hexK_small (g u : Nat) (h : u < 16) : hexK g u = [hexD u] := by
  cases g with
  | zero => rfl
  | succ g => rw [hexK, if_pos h]
theorem and15 (u : Nat) (h : u < 16777216) : bits BinOp.and IntKind.u64 u 15 = ((u % 16 : Nat) : Int) := by
  have h1 := bits_and_u64_nat u 15 (by omega) (by omega)
  rw [show (15 : Nat) = 2 ^ 4 - 1 from rfl, Nat.and_two_pow_sub_one_eq_mod] at h1
  exact h1

/-- The row of 65 bytes: it may be written, and from place i on lie the digits. -/
def Digs (w : World) (B i : Nat) (ds : List UInt8) : Prop := i + ds.length = 65 ∧ (∀ j, j < 65 → (∃ v, w.cell? ⟨B, j, none⟩ = some v) ∧ w.frozen? ⟨B, j, none⟩ = false) ∧
  ∀ j, j < ds.length → w.cell? ⟨B, i + j, none⟩ = some (.int .u8 ((ds[j]?.getD 0).toNat : Int))
theorem Digs.put {w : World} {B i : Nat} {ds : List UInt8} (h : Digs w B (i + 1) ds) (d : UInt8) : Digs (w.setCell ⟨B, i, none⟩ (.int .u8 (d.toNat : Int))) B i (d :: ds) := by
  obtain ⟨h1, h2, h3⟩ := h
  refine ⟨by simp; omega, fun j hj => ⟨?_, by rw [World.frozen?_setCell]; exact (h2 j hj).2⟩, fun j hj => ?_⟩
  · obtain ⟨v, hv⟩ := (h2 j hj).1
    by_cases e : j = i
    · subst e; exact ⟨_, World.cell?_setCell_same _ _ _ hv⟩
    · exact ⟨v, (World.cell?_setCell_other _ _ _ _ (by intro h; cases h; exact e rfl)).trans hv⟩
  · cases j with
    | zero =>
      obtain ⟨v, hv⟩ := (h2 i (by omega)).1
      exact World.cell?_setCell_same _ _ _ hv
    | succ j =>
      have := h3 j (by simpa using hj)
      refine (World.cell?_setCell_other _ _ _ _ (by intro h; have := congrArg Addr.off h; simp at this)).trans ?_
      rw [show i + (j + 1) = i + 1 + j by omega]
      simpa using this

set_option maxRecDepth 100000 in
set_option maxHeartbeats 2000000 in
theorem formatBits16 (u0 : Nat) (hu : u0 < 16777216) (w : World) (hd : Db w) (hg : 6 < w.heap.size) :
    Calls Tryz.prog 174 #[.slice none 0 0, .int .u64 u0, .int .i64 16, .bool false, .bool false] w fun e w' => e = .returned (.tuple #[.slice none 0 0, .string ⟨(hexK 5 u0).toArray⟩]) ∧ Below w.heap.size w w' := by
  have hal : Tryz.prog.arrayLen 314 = 65 := by kernel_rfl
  go_enter Tryz.func174, Tryz.ntmps174
  go_wp2_with (first | (go_at_call 186; refine (isPow16 _).mono ?_; rintro e w' ⟨rfl, rfl⟩) | (go_at_call 187; refine (tz_16 _ (((Below.refl _ w).alloc (Nat.le_refl _) _).cell (p := ⟨6, 15, none⟩) hg |>.trans hd)).mono ?_; rintro e w' ⟨rfl, rfl⟩))
  go_loopg [1, 13] 5 (fun g u i wr => ∃ (u1 k : Nat) (ds : List UInt8), u = .int .u64 u1 ∧ i = .int .i64 (k + 1 : Nat) ∧ u1 < 16 ^ (g + 1) ∧ k = 59 + g ∧ Hid (hexK g u1 ++ ds = hexK 5 u0) ∧ Hid (Digs wr w.heap.size (k + 1) ds) ∧ Below w.heap.size w wr ∧ g ≤ 5)
  case atStart =>
    have hz : Tryz.zeroCells314.size = 65 := by kernel_rfl
    refine ⟨u0, 64, [], rfl, rfl, by simpa using hu, rfl, by simp [Hid], ⟨rfl, fun j hj => ⟨?_, ?_⟩, fun j hj => by simp at hj⟩, (Below.refl _ _).alloc (Nat.le_refl _) _, by omega⟩
    · refine ⟨Tryz.zeroCells314[j], ?_⟩
      show (match (w.heap.push _)[w.heap.size]? with | some (Obj.cells c _ _) => c[j]? | _ => none) = _
      simp [hz, hj]; rfl
    · simp
  case round =>
    obtain ⟨u1, k, ds, rfl, rfl, hlt, hk, HE, HD, hb, hgk⟩ := hrel
    subst hk
    have hu1 : u1 < 16777216 := Nat.lt_of_lt_of_le hlt (Nat.le_trans (Nat.pow_le_pow_right (by decide) (Nat.succ_le_succ hgk)) (by decide))
    obtain ⟨v1, hv1⟩ := (HD.out.2.1 (59 + gk) (by omega)).1
    have hf1 := (HD.out.2.1 (59 + gk) (by omega)).2
    have hA := and15 u1 hu1
    by_cases h16 : 16 ≤ u1
    · obtain ⟨g, rfl⟩ : ∃ g, gk = g + 1 := by
        cases gk with
        | zero => simp at hlt; omega
        | succ g => exact ⟨g, rfl⟩
      have HI := Lib.hid (hexD_dig (u1 % 16) (by omega))
      have HL : Hid (u1 / 16 < 16 ^ (g + 1)) := by
        have : u1 < 16 ^ (g + 1) * 16 := hlt
        exact Nat.div_lt_of_lt_mul (by omega)
      clear hlt
      have hb2 := hb.setCell (p := ⟨w.heap.size, 59 + (g + 1), none⟩) (Nat.le_refl _) (.int .u8 ((hexD (u1 % 16)).toNat : Int))
      have hb3 := HD.out.put (hexD (u1 % 16))
      go_wp2
      go_roundg g
      case measure => omega
      case rel =>
        refine ⟨u1 / 16, 59 + g, hexD (u1 % 16) :: ds, by go_num, by go_num, HL.out, rfl, ?_, ?_, ?_, by omega⟩
        · have := HE.out
          rw [hexK, if_neg (by omega)] at this
          rw [← this]; simp [Hid]
        · have e36 : u1 % 16 < digits36.size := Nat.lt_of_lt_of_le (Nat.mod_lt _ (by decide)) (by decide)
          have := HI.out e36
          show Digs (wr.setCell _ (.int .u8 ((digits36[u1 % 16]'e36).toNat : Int))) _ _ _
          rw [this]
          exact hb3
        · have e36 : u1 % 16 < digits36.size := Nat.lt_of_lt_of_le (Nat.mod_lt _ (by decide)) (by decide)
          have := HI.out e36
          show Below _ _ (wr.setCell _ (.int .u8 ((digits36[u1 % 16]'e36).toNat : Int)))
          rw [this]
          exact hb2
    · have h16' : u1 < 16 := by omega
      have HI := Lib.hid (hexD_dig u1 h16')
      have hE := HE.out
      rw [hexK_small _ _ h16'] at hE
      have HE2 := Lib.hid hE
      have hb2 := hb.setCell (p := ⟨w.heap.size, 59 + gk, none⟩) (Nat.le_refl _) (.int .u8 ((hexD u1).toNat : Int))
      have hb3 := HD.out.put (hexD u1)
      have HB3 := Lib.hid hb3
      have hl6 : [hexD u1] ++ ds = hexD u1 :: ds := rfl
      have hlen : (hexD u1 :: ds).length = 6 - gk := by have := HD.out.1; simp; omega
      have hsl : ∀ W, (Instr.sliceAt 314 (.pointer (some ⟨w.heap.size, 0, none⟩)) (some (.int .i64 (59 + (gk : Int)))) none none).run Tryz.prog W = .ok (.slice (some ⟨w.heap.size, 59 + gk, none⟩) (6 - gk) (6 - gk)) W := fun W => by
        rw [run_sliceAt_array_l W 314 ⟨w.heap.size, 0, none⟩ (by kernel_rfl) .i64 (59 + (gk : Int)) (by omega) (by rw [hal]; omega), hal]
        have e1 : (59 + (gk : Int)).toNat = 59 + gk := by omega
        have e3 : 65 - (59 + gk) = 6 - gk := by omega
        have e4 : ¬ 65 = 59 + gk := by omega
        simp [e1, e3, e4, slicedAt, add_lit, go_sem, Tryz.sizeOf5]
      have hcv : (convert 130 9 (.slice (some ⟨w.heap.size, 59 + gk, none⟩) (6 - gk) (6 - gk))).run Tryz.prog (wr.setCell ⟨w.heap.size, 59 + gk, none⟩ (.int .u8 ((hexD u1).toNat : Int))) = .ok (.string ⟨(hexK 5 u0).toArray⟩) (wr.setCell ⟨w.heap.size, 59 + gk, none⟩ (.int .u8 ((hexD u1).toNat : Int))) := by
        rw [run_convert_bytes_arg _ 130 5 (by kernel_rfl) (by kernel_rfl) w.heap.size (59 + gk) (6 - gk) (6 - gk) ((hexD u1 :: ds).map fun x => (x.toNat : Int)) (by simpa using hlen) (fun i hi => by
          rw [hb3.2.2 i (by omega), List.getD_eq_getElem?_getD, List.getElem?_map]
          have : i < (hexD u1 :: ds).length := by omega
          rw [List.getElem?_eq_getElem this]; rfl) 9 (by kernel_rfl)]
        congr 2
        apply ByteArray.ext
        apply Array.toList_inj.1
        rw [strOfNums_data, List.map_map, ← hE, hl6]
        show _ = hexD u1 :: ds
        conv => rhs; rw [← List.map_id (hexD u1 :: ds)]
        apply List.map_congr_left
        intro x _
        simp
      have hx : ∀ h', (⟨#[48, 49, 50, 51, 52, 53, 54, 55, 56, 57, 97, 98, 99, 100, 101, 102, 103, 104, 105, 106, 107, 108, 109, 110, 111, 112, 113, 114, 115, 116, 117, 118, 119, 120, 121, 122]⟩ : ByteArray)[u1]'h' = hexD u1 := hexD_dig u1 h16'
      clear hlt hE hA hb3 HB3 HI
      go_wp2
      go_ret2
      exact ⟨rfl, hb2⟩

set_option maxHeartbeats 1000000 in
theorem iFormatInt16 (u0 : Nat) (hu : u0 < 16777216) (w : World) (hd : Db w) (hg : 6 < w.heap.size) :
    Calls Tryz.prog 158 #[.int .i64 u0, .int .i64 16] w fun e w' => e = .returned (.string ⟨(hexK 5 u0).toArray⟩) ∧ Below w.heap.size w w' := by
  have hw : IntKind.u64.wrap (u0 : Int) = u0 := by rw [IntKind.wrap_u64]; omega
  go_enter Tryz.func158, Tryz.ntmps158
  go_wp2_with (go_at_call 174; refine (formatBits16 u0 hu _ hd hg).mono ?_; rintro e w' ⟨rfl, hB⟩)
  go_ret
  exact ⟨rfl, hB⟩

set_option maxHeartbeats 1000000 in
theorem FormatInt16 (u0 : Nat) (hu : u0 < 16777216) (w : World) (hd : Db w) (hg : 6 < w.heap.size) :
    Calls Tryz.prog 133 #[.int .i64 u0, .int .i64 16] w fun e w' => e = .returned (.string ⟨(hexK 5 u0).toArray⟩) ∧ Below w.heap.size w w' := by
  go_enter Tryz.func133, Tryz.ntmps133
  go_wp2_with (go_at_call 158; refine (iFormatInt16 u0 hu _ hd hg).mono ?_; rintro e w' ⟨rfl, hB⟩)
  go_ret
  exact ⟨rfl, hB⟩

theorem hexK_len (g u : Nat) : (hexK g u).length ≤ g + 1 := by
  induction g generalizing u with
  | zero => simp [hexK]
  | succ g ih =>
    rw [hexK]
    split
    · simp
    · have := ih (u / 16)
      simp; omega
/-- A point as Print writes it. -/
def wr (r : Int) : List UInt8 := if r > 1114111 then [92, 120] ++ hexK 5 (r - 1114112).toNat else [92, 117, 123] ++ hexK 5 r.toNat ++ [125]

set_option maxRecDepth 100000 in
set_option maxHeartbeats 1000000 in
theorem written_any (r : Int) (h0 : 0 ≤ r) (h1 : r ≤ 1114367) (w : World) (hd : Db w) (hg : 6 < w.heap.size) :
    Calls Tryz.prog 90 #[.int .i32 r] w fun e w' => e = .returned (.string ⟨(wr r).toArray⟩) ∧ Below w.heap.size w w' := by
  by_cases hb : 1114111 < r
  · obtain ⟨m, hm⟩ : ∃ m : Nat, r - 1114112 = m := ⟨(r - 1114112).toNat, by omega⟩
    have ew : wr r = [92, 120] ++ hexK 5 m := by unfold wr; rw [if_pos hb, hm]; rfl
    rw [ew]
    have hL := hexK_len 5 m
    go_enter Tryz.func90, Tryz.ntmps90
    go_wp2_with (go_at_call 133; refine (FormatInt16 m (by omega) _ hd hg).mono ?_; rintro e w' ⟨rfl, hB⟩)
    go_ret
    exact ⟨rfl, hB⟩
  · obtain ⟨m, hm⟩ : ∃ m : Nat, r = m := ⟨r.toNat, by omega⟩
    have ew : wr r = [92, 117, 123] ++ hexK 5 m ++ [125] := by unfold wr; rw [if_neg (by omega), hm]; rfl
    rw [ew]
    have hL := hexK_len 5 m
    go_enter Tryz.func90, Tryz.ntmps90
    go_wp2_with (go_at_call 133; refine (FormatInt16 m (by omega) _ hd hg).mono ?_; rintro e w' ⟨rfl, hB⟩)
    go_ret
    refine ⟨?_, hB⟩
    congr 2

end Go.Proofs.YtmbjjheaddhmeaaGreatDoor
