/- hex, One: a point as the document prints it. -/
import Derived.Test.YtmbjjheaddhmeaaGreatDoorSameR
import Derived.Test.YtmbjjheaddhmeaaGreatDoorParseLaw
import Derived.Laws.Concat
import Derived.Laws.Strings2
namespace Go.Proofs.YtmbjjheaddhmeaaGreatDoor
open Go.RowKit

def digs : ByteArray := ⟨#[48, 49, 50, 51, 52, 53, 54, 55, 56, 57, 97, 98, 99, 100, 101, 102]⟩
theorem digs_at (d : Nat) (h : d < 16) : digs.extract d (d + 1) = ⟨#[hexD d]⟩ := by
  have : ∀ d : Fin 16, digs.extract d.1 (d.1 + 1) = ⟨#[hexD d.1]⟩ := by decide +kernel
  exact this ⟨d, h⟩

set_option maxRecDepth 100000 in
set_option maxHeartbeats 2000000 in
theorem rhex_any (g : Nat) : ∀ (u : Nat) (w : World), g ≤ 100 → u < 16 ^ (g + 1) → u < 16777216 →
    Calls Tryz.prog 134 #[.int .i64 u] w fun e w' => e = .returned (.string ⟨(hexK g u).toArray⟩) ∧ Below w.heap.size w w' := by
  induction g with
  | zero =>
    intro u w hg hu hu2
    have hu' : u < 16 := by simpa using hu
    have hl : (u : Int) < 16 := by omega
    have hx := digs_at u hu'
    unfold digs at hx
    go_enter Tryz.func134, Tryz.ntmps134
    go_wp2
    go_ret
    refine ⟨?_, Below.refl _ _⟩
    rw [hexK]; rfl
  | succ g ih =>
    intro u w hg hu hu2
    by_cases hu' : u < 16
    · have hl : (u : Int) < 16 := by omega
      have hx := digs_at u hu'
      unfold digs at hx
      go_enter Tryz.func134, Tryz.ntmps134
      go_wp2
      go_ret
      refine ⟨?_, Below.refl _ _⟩
      rw [hexK, if_pos hu']; rfl
    · have hl : ¬ (u : Int) < 16 := by omega
      obtain ⟨d, hd⟩ : ∃ d, u % 16 = d := ⟨_, rfl⟩
      obtain ⟨e, he⟩ : ∃ e, u / 16 = e := ⟨_, rfl⟩
      have hd16 : d < 16 := by omega
      have hx := digs_at d hd16
      unfold digs at hx
      have hm : (u : Int) % 16 = (d : Int) := by omega
      have hq : (u : Int) / 16 = (e : Int) := by omega
      have hd1 : (d : Int) < 16 := by omega
      have hd2 : (0 : Int) ≤ (d : Int) := by omega
      have hes : e < 16 ^ (g + 1) := by rw [← he]; rw [Nat.pow_succ] at hu; omega
      have hr : ∀ W : ClsW (AbW w), Calls Tryz.prog 134 #[.int .i64 (e : Int)] W.val fun x w' => x = .returned (.string ⟨(hexK g e).toArray⟩) ∧ Below W.val.heap.size W.val w' := fun W => ih e W.val (by omega) hes (by omega)
      have hk : hexK (g + 1) u = hexK g e ++ [hexD d] := by rw [hexK, if_neg hu', hd, he]
      have hle := hexK_len g e
      rw [hk]
      clear ih hk hd he hes hu hu'
      go_enter Tryz.func134, Tryz.ntmps134
      go_wp2
      refine wp_region_cls (AbW w) (by kernel_rfl) (by kernel_rfl) (AbW.drew w) ?_
      have hne := AbW.there w
      repeat (go_big_quiet_step ((go_at_call 134; rename_i u; with_reducible exact cls_call AbW.keep (hr u))))
      refine wpQuiet_nil ?_
      rintro U ⟨⟨U', hU⟩, hUe⟩
      obtain rfl : U = U' := hUe
      replace hU : Below w.heap.size w U := hU
      go_wp2_with fail
      go_ret
      exact ⟨congrArg (fun s => Ending.returned (.string s)) (ByteArray.mk_append_mk (hexK g e) [hexD d]), hU⟩

set_option maxRecDepth 100000 in
set_option maxHeartbeats 1000000 in
theorem rOne_any (r : Int) (h : ptB r = true) (w : World) :
    Calls Tryz.prog 96 #[.int .i32 r] w fun e w' => e = .returned (.string ⟨(wr r).toArray⟩) ∧ Below w.heap.size w w' := by
  have hb := numP_pt h
  by_cases h1 : 1114240 ≤ r
  · obtain ⟨m, hm⟩ : ∃ m : Nat, r - 1114112 = m := ⟨(r - 1114112).toNat, by omega⟩
    have ew : wr r = [92, 120] ++ hexK 5 m := by unfold wr; rw [if_pos (by omega), hm]; rfl
    rw [ew]
    have hL := hexK_len 5 m
    have hc := rhex_any 5 m w (by omega) (by omega) (by omega)
    clear ew h
    go_enter Tryz.func96, Tryz.ntmps96
    go_wp2_with (go_at_call 134; with_reducible refine hc.mono ?_; rintro e w1 ⟨rfl, hB⟩)
    go_ret
    exact ⟨congrArg (fun s => Ending.returned (.string s)) (ByteArray.mk_append_mk [92, 120] (hexK 5 m)), hB⟩
  · obtain ⟨m, rfl⟩ : ∃ m : Nat, r = m := ⟨r.toNat, by omega⟩
    have ew : wr (m : Int) = [92, 117, 123] ++ hexK 5 m ++ [125] := by unfold wr; rw [if_neg (by omega)]; rfl
    rw [ew]
    have hL := hexK_len 5 m
    have hc := rhex_any 5 m w (by omega) (by omega) (by omega)
    clear ew h
    go_enter Tryz.func96, Tryz.ntmps96
    go_wp2_with (go_at_call 134; with_reducible refine hc.mono ?_; rintro e w1 ⟨rfl, hB⟩)
    go_ret
    refine ⟨congrArg (fun s => Ending.returned (.string s)) ?_, hB⟩
    exact (congrArg (fun s => s ++ (⟨#[125]⟩ : ByteArray)) (ByteArray.mk_append_mk [92, 117, 123] (hexK 5 m))).trans (ByteArray.mk_append_mk ([92, 117, 123] ++ hexK 5 m) [125])
end Go.Proofs.YtmbjjheaddhmeaaGreatDoor
