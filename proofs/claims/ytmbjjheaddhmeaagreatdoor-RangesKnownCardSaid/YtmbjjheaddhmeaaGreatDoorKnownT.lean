/- The texts of RangesKnown: all are read and printed as they should be. -/
import Derived.Test.YtmbjjheaddhmeaaGreatDoorReadsW
import Derived.Test.YtmbjjheaddhmeaaGreatDoorCls
import Derived.Test.YtmbjjheaddhmeaaGreatDoorDbOk
import Derived.Deep.LoopGhost
import Derived.Below
import Derived.Lib.Hide
import Derived.Deep.DeepCutAuto
import Derived.Deep.RegionHeld3
import Derived.StillTactics
namespace Go.Proofs.YtmbjjheaddhmeaaGreatDoor
open Go.RowKit

/-- What the statements on texts ask of memory. -/
structure KnOk (X : World) : Prop where
  rd : RdOk X
  er : ErrT X
theorem KnOk.below {X Y : World} (h : KnOk X) (hb : Below X.heap.size X Y) : KnOk Y := ⟨h.rd.below hb, h.er.below hb⟩
theorem KnOk.from {w X : World} (h : KnOk w) (hb : Below w.heap.size w X) : KnOk X := ⟨h.rd.below hb, ErrT.below hb h.er⟩

def texts26 : Array Value := #[.string { data := #[] }, .string { data := #[91] }, .string { data := #[93] }, .string { data := #[91, 93] }, .string { data := #[91, 93, 120] }, .string { data := #[91, 97, 93] }, .string { data := #[91, 92, 117, 123, 100, 56, 48, 48, 125, 93] }, .string { data := #[91, 92, 117, 123, 48, 54, 49, 125, 93] }, .string { data := #[91, 92, 117, 123, 54, 49, 125, 45, 93] }, .string { data := #[91, 92, 117, 123, 54, 50, 125, 45, 92, 117, 123, 54, 49, 125, 93] }, .string { data := #[91, 92, 117, 123, 54, 49, 125, 45, 92, 117, 123, 54, 49, 125, 93] }, .string { data := #[91, 92, 117, 123, 54, 49, 125, 92, 117, 123, 54, 50, 125, 93] }, .string { data := #[91, 92, 117, 123, 54, 49, 125, 92, 117, 123, 54, 51, 125, 92, 120, 70, 70, 93] }, .string { data := #[91, 92, 120, 55, 102, 93] }, .string { data := #[91, 92, 120, 56, 48, 93] }, .string { data := #[91, 92, 117, 123, 49, 49, 48, 48, 56, 48, 125, 93] }, .string { data := #[91, 92, 117, 123, 125, 93] }, .string { data := #[91, 92, 117, 123, 48, 48, 48, 48, 48, 48, 49, 125, 93] }, .string { data := #[91, 92, 117, 123, 48, 125, 93] }, .string { data := #[91, 92, 117, 123, 48, 48, 125, 93] }, .string { data := #[91, 92, 117, 123, 49, 48, 102, 102, 102, 102, 125, 92, 120, 56, 48, 93] }, .string { data := #[91, 92, 117, 123, 100, 55, 102, 102, 125, 92, 117, 123, 101, 48, 48, 48, 125, 93] }, .string { data := #[91, 92, 117, 123, 100, 55, 102, 101, 125, 45, 92, 117, 123, 101, 48, 48, 48, 125, 92, 120, 56, 49, 45, 92, 120, 102, 102, 93] }, .string { data := #[91, 92, 117, 123, 49, 48, 70, 70, 70, 70, 125, 93] }, .string { data := #[91, 92, 117, 123, 102, 102, 102, 102, 102, 102, 102, 102, 125, 93] }, .string { data := #[91, 92, 117, 123, 49, 48, 48, 48, 48, 48, 48, 54, 49, 125, 93] }]
def bytes18 : Array Value := #[.int .u8 0, .int .u8 91, .int .u8 93, .int .u8 45, .int .u8 92, .int .u8 117, .int .u8 120, .int .u8 123, .int .u8 125, .int .u8 48, .int .u8 57, .int .u8 97, .int .u8 102, .int .u8 103, .int .u8 65, .int .u8 47, .int .u8 58, .int .u8 255]
theorem texts26_at (k : Nat) (h : k < 26) : ∃ s, texts26[k]? = some (.string s) := by
  rcases k with _ | _ | _ | _ | _ | _ | _ | _ | _ | _ | _ | _ | _ | _ | _ | _ | _ | _ | _ | _ | _ | _ | _ | _ | _ | _ | k
  all_goals first | exact ⟨_, rfl⟩ | omega
theorem bytes18_at (k : Nat) (h : k < 18) : ∃ c : Int, 0 ≤ c ∧ c < 256 ∧ bytes18[k]? = some (.int .u8 c) := by
  rcases k with _ | _ | _ | _ | _ | _ | _ | _ | _ | _ | _ | _ | _ | _ | _ | _ | _ | _ | k
  all_goals first | omega | (refine ⟨_, ?_, ?_, rfl⟩ <;> decide)
theorem texts26_cell (w : World) (k : Nat) (h : k < 26) : ∃ s, (w.alloc (.cells texts26 9)).cell? ⟨w.heap.size, k, none⟩ = some (.string s) := by
  obtain ⟨s, hs⟩ := texts26_at k h
  exact ⟨s, by have e := heap_alloc_new w (.cells texts26 9); simp only [World.cell?, e]; exact hs⟩
theorem bytes18_cell (w : World) (k : Nat) (h : k < 18) : ∃ c : Int, 0 ≤ c ∧ c < 256 ∧ (w.alloc (.cells bytes18 5)).cell? ⟨w.heap.size, k, none⟩ = some (.int .u8 c) := by
  obtain ⟨c, hc, hd, hs⟩ := bytes18_at k h
  exact ⟨c, hc, hd, by have e := heap_alloc_new w (.cells bytes18 5); simp only [World.cell?, e]; exact hs⟩

set_option maxRecDepth 100000 in
set_option maxHeartbeats 4000000 in
theorem texts_any (w : World) (h : RdOk w) (he : ErrT w) :
    Calls Tryz.prog 29 #[] w fun e w' => e = .returned (.bool true) ∧ Below w.heap.size w w' := by
  have H : Hid (KnOk w) := Lib.hid ⟨h, he⟩
  clear h he
  go_enter Tryz.func29, Tryz.ntmps29
  go_wp2_with fail
  have BW := (Below.refl w.heap.size w).alloc (Nat.le_refl _) (.cells texts26 9)
  have CW := Lib.hid (texts26_cell w)
  change Code.wp _ _ _ _ (w.alloc (.cells texts26 9))
  generalize hW : w.alloc (.cells texts26 9) = W at *
  clear hW
  go_loopg [10] 26 (fun gk i wr => ∃ k : Nat, i = .int .i64 k ∧ k ≤ 26 ∧ 26 - k ≤ gk ∧ Below W.heap.size W wr)
  case atStart => exact ⟨0, rfl, by omega, by omega, Below.refl _ _⟩
  case round =>
    obtain ⟨k, rfl, hk, hg, BX⟩ := hrel
    by_cases hlt : k < 26
    · have hlt' : (k : Int) < 26 := by omega
      have hk0 : (0 : Int) ≤ (k : Int) := Int.natCast_nonneg _
      obtain ⟨s, cs⟩ := CW.out k hlt
      have cs2 := (BX.cell (p := ⟨w.heap.size, k, none⟩) (cell_lt cs)).trans cs
      have HX := Lib.hid (H.out.from (below_snoc BW BX))
      have HG := Lib.hid BX
      clear cs BX
      go_wp2_with (first
        | (go_at_call 81; refine (forms_any _ _ (HX.out.below B1).rd).mono ?_; rintro e w2 ⟨rfl, B2⟩)
        | (go_at_call 5; refine (rangesReads_any _ _ HX.out.rd HX.out.er).mono ?_; rintro e w1 ⟨rfl, B1⟩))
      go_roundg (gk - 1)
      case measure => omega
      case rel => exact ⟨k + 1, by go_num, by omega, by omega, below_snoc HG.out (below_snoc B1 B2)⟩
    · obtain rfl : k = 26 := by omega
      clear hk hg hlt
      have B0 := below_snoc BW BX
      clear BX CW
      go_wp2_with fail
      generalize hS : ({ data := #[91, 92, 117, 123, 54, 49, 125, 45, 92, 117, 123, 55, 97, 125, 92, 117, 123, 102, 102, 125, 92, 120, 56, 48, 45, 92, 120, 102, 102, 93] } : ByteArray) = S
      have hSs : S.size = 30 := by rw [← hS]; rfl
      clear hS
      have HB0 := Lib.hid B0
      clear B0 BW
      obtain ⟨w1, rfl⟩ : ∃ w1, w1 = wr := ⟨_, rfl⟩
      have hSl : (S.size : Int) ≤ 1000 := by omega
      go_loopg [4] S.size (fun gk i wr => ∃ k : Nat, i = .int .i64 k ∧ k ≤ S.size ∧ S.size - k ≤ gk ∧ Below w.heap.size w wr)
      case atStart => exact ⟨0, rfl, by omega, by omega, HB0.out⟩
      case round =>
        obtain ⟨k, rfl, hk, hg, BX⟩ := hrel
        clear HB0
        obtain ⟨wx, rfl⟩ : ∃ wx, wx = wr := ⟨_, rfl⟩
        obtain ⟨gx, rfl⟩ : ∃ gx, gx = gk := ⟨_, rfl⟩
        by_cases hlt : k < S.size
        · have hlt' : (k : Int) < (S.size : Int) := by omega
          have hk0 : (0 : Int) ≤ (k : Int) := Int.natCast_nonneg _
          have hkl : (k : Int) ≤ (S.size : Int) := by omega
          have hk1 : (0 : Int) ≤ (k : Int) + 1 := by omega
          have hk2 : (k : Int) + 1 ≤ (S.size : Int) := by omega
          have hk3 : ((k : Int) + 1).toNat = k + 1 := by omega
          have hk4 : IntKind.i64.wrap ((k : Int) + 1) = (k : Int) + 1 := IntWalk.i64_in _ (by omega)
          have HX := Lib.hid (H.out.from BX)
          have HG := Lib.hid BX
          clear BX
          go_wp2_with fail
          go_upto_region 11 with (fail)
          go_cut [52] from 29 to 52 (fun s wy => s = .bool false ∧ Below wx.heap.size wx wy)
          case first =>
            have hne := AbW.there wx
            refine wp_region_cls (AbW wx) (by kernel_rfl) (by kernel_rfl) (AbW.drew wx) ?_
            repeat (go_big_quiet_step ((go_at_call 5; rename_i u; exact cls_call AbW.keep (rangesReads_any _ _ (HX.out.from u.ok).rd (HX.out.from u.ok).er))))
            refine wpQuiet_nil ?_
            rintro _ ⟨u, rfl⟩
            have hu := Lib.hid u.ok
            go_wp2_with fail
            go_meet
            exact ⟨rfl, hu.out⟩
          case rest =>
            obtain ⟨rfl, B1⟩ := hcut
            have HX1 := Lib.hid (HG.out.trans (B1.mono HG.out.size))
            clear HX HG
            obtain ⟨w1, rfl⟩ : ∃ w1, w1 = wc := ⟨_, rfl⟩
            go_wp2_with fail
            have B2 := (Below.refl w1.heap.size w1).alloc (Nat.le_refl _) (.cells bytes18 5)
            have CW2 := Lib.hid (bytes18_cell w1)
            change Code.wp _ _ _ _ (w1.alloc (.cells bytes18 5))
            generalize w1.alloc (.cells bytes18 5) = W2 at *
            have HB2 := Lib.hid (below_snoc HX1.out B2)
            clear B1 B2 HX1
            go_loopg [55] 18 (fun gk i wr => ∃ j : Nat, i = .int .i64 j ∧ j ≤ 18 ∧ 18 - j ≤ gk ∧ Below W2.heap.size W2 wr)
            case atStart => exact ⟨0, rfl, by omega, by omega, Below.refl _ _⟩
            case round =>
              obtain ⟨j, rfl, hj, hgj, BJ⟩ := hrel
              have BY := below_snoc HB2.out BJ
              have HX := Lib.hid (H.out.from BY)
              have HG := Lib.hid BY
              by_cases hjt : j < 18
              · have hjt' : (j : Int) < 18 := by omega
                have hj0 : (0 : Int) ≤ (j : Int) := Int.natCast_nonneg _
                obtain ⟨c, c0, c1, cs⟩ := CW2.out j hjt
                have cs2 := (BJ.cell (p := ⟨w1.heap.size, j, none⟩) (cell_lt cs)).trans cs
                have HJ := Lib.hid BJ
                clear BJ BY cs
                have hcv : ∃ b : ByteArray, b.size ≤ 8 ∧ (convert 130 9 (.slice (some ⟨wr.heap.size, 0, none⟩) 1 1)).run Tryz.prog (wr.alloc (.cells #[.int .u8 c] 5)) = .ok (.string b) (wr.alloc (.cells #[.int .u8 c] 5)) := by
                  refine ⟨strOfNums [c], ?_, run_convert_bytes_arg _ 130 5 (by kernel_rfl) (by kernel_rfl) wr.heap.size 0 1 1 [c] rfl (fun i hi => by (obtain rfl : i = 0 := by omega); simp) 9 (by kernel_rfl)⟩
                  show (strOfNums [c]).data.size ≤ 8
                  rw [← Array.length_toList, strOfNums_data]; simp
                obtain ⟨b, hb, hcv⟩ := hcv
                have hb' : (b.size : Int) ≤ 8 := by omega
                have BA := (Below.refl wr.heap.size wr).alloc (Nat.le_refl _) (.cells #[.int .u8 c] 5)
                go_wp2_with fail
                generalize wr.alloc (.cells #[.int .u8 c] 5) = W3 at *
                have HX3 := Lib.hid (H.out.from (below_snoc HG.out BA))
                go_upto_region 17 with (fail)
                go_cut [100] from 62 to 100 (fun s wy => s = .bool false ∧ Below W3.heap.size W3 wy)
                case first =>
                  have hne := AbW.there W3
                  refine wp_region_cls (AbW W3) (by kernel_rfl) (by kernel_rfl) (AbW.drew W3) ?_
                  repeat (go_big_quiet_step ((first
                    | (go_at_call 5; rename_i u; exact cls_call AbW.keep (rangesReads_any _ _ (HX3.out.from u.ok).rd (HX3.out.from u.ok).er))
                    | (go_at_call 81; rename_i u; exact cls_call AbW.keep (forms_any _ _ (HX3.out.from u.ok).rd)))))
                  refine wpQuiet_nil ?_
                  rintro _ ⟨u, rfl⟩
                  have hu := Lib.hid u.ok
                  go_wp2_with fail
                  go_meet
                  exact ⟨rfl, hu.out⟩
                case rest =>
                  obtain ⟨rfl, B4⟩ := hcut
                  have HB4 := Lib.hid (below_snoc HJ.out (below_snoc BA B4))
                  clear B4 BA
                  go_wp2_with fail
                  go_roundg (gk - 1)
                  case measure => omega
                  case rel => exact ⟨j + 1, by go_num, by omega, by omega, HB4.out⟩
              · obtain rfl : j = 18 := by omega
                clear BJ BY HX
                go_wp2_with fail
                go_roundg (gx - 1)
                case measure => omega
                case rel => exact ⟨k + 1, by go_num, by omega, by omega, HG.out⟩
        · obtain rfl : k = S.size := by omega
          have HX := Lib.hid (H.out.from BX)
          have HG := Lib.hid BX
          clear BX
          go_wp2_with (go_at_call 12; refine (works_any HX.out.rd.1 HX.out.rd.2.1).mono ?_; rintro e w2 ⟨rfl, B2⟩)
          go_ret
          exact ⟨rfl, below_snoc HG.out B2⟩
end Go.Proofs.YtmbjjheaddhmeaaGreatDoor
