/- slices.BinarySearchFunc at spans with Has's closure; (*Set).Has. (*Set).Both. -/
import Derived.Test.YtmbjjheaddhmeaaGreatDoorM
import Derived.Deep.LoopGhost
import Derived.Deep.DeepCutAuto
import Derived.Lib.Hide
import Derived.BigRegion
import Derived.Deep.AppendLies
import Derived.Deep.RegionLaw
namespace Go.Proofs.YtmbjjheaddhmeaaGreatDoor
open Go.RowKit

def gt (l : List (Int × Int)) (i : Nat) : Int × Int := l[i]?.getD (0, 0)

/-- What the search finds. -/
def Found (l : List (Int × Int)) (r : Int) (i : Nat) : Prop := i ≤ l.length ∧ (0 < i → wrap32 ((gt l (i - 1)).1 - r) < 0) ∧ (i < l.length → 0 ≤ wrap32 ((gt l i).1 - r))

set_option maxRecDepth 100000 in
set_option maxHeartbeats 2000000 in
theorem bsearch_walk (l : List (Int × Int)) (w : World) (aa : Option Addr) (ca : Nat) (r : Int)
    (hA : l = [] ∨ ∃ b off, aa = some ⟨b, off, none⟩ ∧ ∀ j, j < l.length → w.cell? ⟨b, off + j * 2, none⟩ = some (.int .i32 (l[j]?.getD (0, 0)).1) ∧ w.cell? ⟨b, off + j * 2 + 1, none⟩ = some (.int .i32 (l[j]?.getD (0, 0)).2))
    (hl : l.length ≤ 1000000) :
    Calls Tryz.prog 93 #[.slice aa l.length ca, .int .i32 r, .func (.func 94) #[] #[]] w fun e w' => ∃ i : Nat, Found l r i ∧ e = .returned (.tuple #[.int .i64 i, .bool (decide (i < l.length) && decide (wrap32 ((gt l i).1 - r) = 0))]) ∧ Below w.heap.size w w' := by
  go_enter Tryz.func93, Tryz.ntmps93
  go_wp2
  go_loopg [9, 10] l.length (fun g i j wr => ∃ (i0 j0 : Nat), i = .int .i64 i0 ∧ j = .int .i64 j0 ∧ i0 ≤ j0 ∧ j0 ≤ l.length ∧ j0 - i0 ≤ g ∧ Hid (0 < i0 → wrap32 ((gt l (i0 - 1)).1 - r) < 0) ∧ Hid (j0 < l.length → 0 ≤ wrap32 ((gt l j0).1 - r)) ∧ Below w.heap.size w wr)
  case atStart => exact ⟨0, l.length, rfl, rfl, by omega, by omega, by omega, by simp [Hid], by simp [Hid], Below.refl _ _⟩
  case round =>
    obtain ⟨i, j, rfl, rfl, hij, hj, hg, HI, HJ, hb⟩ := hrel
    by_cases hlt : i < j
    · obtain ⟨k, hk⟩ : ∃ k : Nat, ((i : Int) + (j : Int)) / 2 = (k : Int) := ⟨(i + j) / 2, by omega⟩
      have k1 : i ≤ k := by omega
      have k2 : k < j := by omega
      rcases hA with h | ⟨ba, oa, rfl, hA⟩
      · subst h; simp at hj; omega
      obtain ⟨a1, a2⟩ := hA k (by omega)
      have hgt : gt l k = l[k]?.getD (0, 0) := rfl
      rw [← hgt] at a1 a2
      have a1' := (hb.cell (p := ⟨ba, oa + k * 2, none⟩) (cell_lt a1)).trans a1
      have a2' := (hb.cell (p := ⟨ba, oa + k * 2 + 1, none⟩) (cell_lt a2)).trans a2
      have HP : ∃ p q, gt l k = (p, q) := ⟨_, _, rfl⟩
      obtain ⟨p, q, hpq⟩ := HP
      rw [hpq] at a1' a2'
      dsimp only at a1' a2'
      have HPQ := Lib.hid hpq
      have hkl : (k : Int) < (l.length : Int) := by omega
      clear a1 a2 hgt hpq hA
      go_wp2_with (go_at_call 94; refine (hasCmp_any p q r _).mono ?_; rintro e w' ⟨rfl, rfl⟩)
      · have hneg : wrap32 (p - r) < 0 := by assumption
        go_roundg (gk - 1)
        case measure => omega
        case rel => exact ⟨k + 1, j, by go_num, rfl, by omega, by omega, by omega, fun _ => by rw [show k + 1 - 1 = k by omega, HPQ.out]; exact hneg, HJ.out, hb.trans ((Below.refl _ _).alloc (by have := hb.size; omega) _)⟩
      · have hneg : 0 ≤ wrap32 (p - r) := by assumption
        go_roundg (gk - 1)
        case measure => omega
        case rel => exact ⟨i, k, rfl, rfl, by omega, by omega, by omega, HI.out, fun _ => by rw [HPQ.out]; exact hneg, hb.trans ((Below.refl _ _).alloc (by have := hb.size; omega) _)⟩
    · obtain rfl : i = j := by omega
      have F : Hid (Found l r i) := ⟨hj, HI.out, HJ.out⟩
      by_cases hil : i < l.length
      · rcases hA with h | ⟨ba, oa, rfl, hA⟩
        · subst h; simp at hil
        obtain ⟨a1, a2⟩ := hA i hil
        have hgt : gt l i = l[i]?.getD (0, 0) := rfl
        rw [← hgt] at a1 a2
        have a1' := (hb.cell (p := ⟨ba, oa + i * 2, none⟩) (cell_lt a1)).trans a1
        have a2' := (hb.cell (p := ⟨ba, oa + i * 2 + 1, none⟩) (cell_lt a2)).trans a2
        have HP : ∃ p q, gt l i = (p, q) := ⟨_, _, rfl⟩
        obtain ⟨p, q, hpq⟩ := HP
        rw [hpq] at a1' a2'
        dsimp only at a1' a2'
        have HPQ := Lib.hid hpq
        have hkl : (i : Int) < (l.length : Int) := by omega
        clear a1 a2 hgt hpq hA
        go_wp2_with (go_at_call 94; refine (hasCmp_any p q r _).mono ?_; rintro e w' ⟨rfl, rfl⟩)
        go_ret2
        refine ⟨i, F.out, ?_, hb.trans ((Below.refl _ _).alloc hb.size _)⟩
        rw [HPQ.out]
        simp only [Array.getD_eq_getD_getElem?, hil, decide_true, Bool.true_and]
        rfl
      · go_wp2
        go_ret2
        refine ⟨i, F.out, ?_, hb⟩
        simp [hil]

theorem bsearch_any (v : Value) (l : List (Int × Int)) (w : World) (hv : Spans w v l) (r : Int) (hl : l.length ≤ 1000000) :
    Calls Tryz.prog 93 #[v, .int .i32 r, .func (.func 94) #[] #[]] w fun e w' => ∃ i : Nat, Found l r i ∧ e = .returned (.tuple #[.int .i64 i, .bool (decide (i < l.length) && decide (wrap32 ((gt l i).1 - r) = 0))]) ∧ Below w.heap.size w w' := by
  obtain ⟨a, c, rfl, hA⟩ := hv
  exact bsearch_walk l w a c r hA hl

/-- What Has answers. -/
def hasR (l : List (Int × Int)) (r : Int) (i : Nat) : Bool := (decide (i < l.length) && decide (wrap32 ((gt l i).1 - r) = 0)) || (ptB r && decide (0 < i) && decide (r ≤ (gt l (i - 1)).2))

set_option maxRecDepth 100000 in
set_option maxHeartbeats 2000000 in
theorem has_any (p : Value) (l : List (Int × Int)) (w : World) (hp : IsSet w p l) (r : Int) (hl : l.length ≤ 1000000) :
    Calls Tryz.prog 39 #[p, .int .i32 r] w fun e w' => (∃ i : Nat, Found l r i ∧ e = .returned (.bool (hasR l r i))) ∧ Below w.heap.size w w' := by
  obtain ⟨pb, v, rfl, hc, hv⟩ := hp
  have hbs := bsearch_any v l w hv r hl
  obtain ⟨aa, ca, rfl, hA⟩ := hv
  go_enter Tryz.func39, Tryz.ntmps39
  go_wp2_with fail
  refine hbs.mono ?_
  rintro e w1 ⟨i, hF, rfl, hb⟩
  have hc1 := (hb.cell (p := ⟨pb, 0, none⟩) (cell_lt hc)).trans hc
  generalize hB : (decide (i < l.length) && decide (wrap32 ((gt l i).1 - r) = 0)) = B
  have HB := Lib.hid hB
  have HF := Lib.hid hF
  have hil : i ≤ l.length := hF.1
  have hpt := point_any r
  clear hbs hF hB
  cases B with
  | true =>
    go_wp2
    go_ret
    exact ⟨⟨i, HF.out, ret_b (by rw [hasR, HB.out]; rfl)⟩, hb⟩
  | false =>
    cases hp : ptB r with
    | false =>
      rw [hp] at hpt
      have HP := Lib.hid hp
      clear hp
      go_wp2_with (go_at_call 31; refine (hpt _).mono ?_; rintro e w' ⟨rfl, rfl⟩)
      go_ret
      exact ⟨⟨i, HF.out, ret_b (by rw [hasR, HB.out, HP.out]; simp)⟩, hb⟩
    | true =>
      rw [hp] at hpt
      have HP := Lib.hid hp
      clear hp
      by_cases h0 : 0 < i
      · rcases hA with h | ⟨ba, oa, rfl, hA⟩
        · subst h; simp at hil; omega
        obtain ⟨k, rfl⟩ : ∃ k, i = k + 1 := ⟨i - 1, by omega⟩
        obtain ⟨a1, a2⟩ := hA k (by omega)
        have hgt : gt l k = l[k]?.getD (0, 0) := rfl
        rw [← hgt] at a1 a2
        have a2' := (hb.cell (p := ⟨ba, oa + k * 2 + 1, none⟩) (cell_lt a2)).trans a2
        have hkl : (k : Int) < (l.length : Int) := by omega
        obtain ⟨q, hq⟩ : ∃ q, (gt l k).2 = q := ⟨_, rfl⟩
        rw [hq] at a2'
        have HQ := Lib.hid hq
        clear a1 a2 hgt hA hq
        go_wp2_with (go_at_call 31; refine (hpt _).mono ?_; rintro e w' ⟨rfl, rfl⟩)
        go_ret
        exact ⟨⟨k + 1, HF.out, ret_b (by rw [hasR, HB.out, HP.out, show k + 1 - 1 = k by omega, HQ.out]; simp)⟩, hb⟩
      · obtain rfl : i = 0 := by omega
        go_wp2_with (go_at_call 31; refine (hpt _).mono ?_; rintro e w' ⟨rfl, rfl⟩)
        go_ret
        exact ⟨⟨0, HF.out, ret_b (by rw [hasR, HB.out, HP.out]; simp)⟩, hb⟩

end Go.Proofs.YtmbjjheaddhmeaaGreatDoor

namespace Go.Proofs.YtmbjjheaddhmeaaGreatDoor
open Go.RowKit

def bothF : List (Int × Int) → List (Int × Int) → List (Int × Int)
  | [], _ => []
  | _ :: _, [] => []
  | a :: l, b :: m => (if max a.1 b.1 ≤ min a.2 b.2 then [(max a.1 b.1, min a.2 b.2)] else []) ++ (if a.2 < b.2 then bothF l (b :: m) else bothF (a :: l) m)
termination_by l m => l.length + m.length

theorem drop_cons_getD {α : Type} (l : List α) (i : Nat) (d : α) (h : i < l.length) : l.drop i = l[i]?.getD d :: l.drop (i + 1) := by
  rw [List.drop_eq_getElem_cons h]; simp [h]

theorem bothF_step (l m : List (Int × Int)) (i k : Nat) (hi : i < l.length) (hk : k < m.length) (a b : Int × Int) (ha : l[i]?.getD (0, 0) = a) (hb : m[k]?.getD (0, 0) = b) :
    bothF (l.drop i) (m.drop k) = (if max a.1 b.1 ≤ min a.2 b.2 then [(max a.1 b.1, min a.2 b.2)] else []) ++ (if a.2 < b.2 then bothF (l.drop (i + 1)) (m.drop k) else bothF (l.drop i) (m.drop (k + 1))) := by
  rw [drop_cons_getD l i (0, 0) hi, drop_cons_getD m k (0, 0) hk, bothF, ha, hb]

theorem Tryz.infoSpan : (Tryz.prog.info? 39).map (fun i => (i.zero, i.size, i.bytes)) = some (some (.agg #[.int .i32 0, .int .i32 0]), 2, 8) := by kernel_rfl

set_option maxRecDepth 100000 in
set_option maxHeartbeats 2000000 in
theorem both_walk (pa pb : Nat) (l m : List (Int × Int)) (w : World) (aa ab : Option Addr) (ca cb : Nat)
    (h1 : w.cell? ⟨pa, 0, none⟩ = some (.slice aa l.length ca)) (h2 : w.cell? ⟨pb, 0, none⟩ = some (.slice ab m.length cb)) 
    (hA : l = [] ∨ ∃ b off, aa = some ⟨b, off, none⟩ ∧ ∀ j, j < l.length → w.cell? ⟨b, off + j * 2, none⟩ = some (.int .i32 (l[j]?.getD (0, 0)).1) ∧ w.cell? ⟨b, off + j * 2 + 1, none⟩ = some (.int .i32 (l[j]?.getD (0, 0)).2))
    (hB : m = [] ∨ ∃ b off, ab = some ⟨b, off, none⟩ ∧ ∀ j, j < m.length → w.cell? ⟨b, off + j * 2, none⟩ = some (.int .i32 (m[j]?.getD (0, 0)).1) ∧ w.cell? ⟨b, off + j * 2 + 1, none⟩ = some (.int .i32 (m[j]?.getD (0, 0)).2))
    (hl : l.length ≤ 100000) (hm : m.length ≤ 100000) :
    Calls Tryz.prog 20 #[.pointer (some ⟨pa, 0, none⟩), .pointer (some ⟨pb, 0, none⟩)] w fun e w' => ∃ v, e = .returned v ∧ IsSet w' v (bothF l m) ∧ Below w.heap.size w w' := by
  obtain ⟨i0, hi0, hz0, hz1, hz2⟩ := info_parts Tryz.infoSpan
  go_enter Tryz.func20, Tryz.ntmps20
  go_wp2
  go_loopg [6, 7] (l.length + m.length) (fun g i k wr => ∃ (i0 k0 : Nat) (v : Value) (out : List (Int × Int)), i = .int .i64 i0 ∧ k = .int .i64 k0 ∧ i0 ≤ l.length ∧ k0 ≤ m.length ∧ l.length + m.length - i0 - k0 ≤ g ∧ out.length ≤ i0 + k0 ∧ Hid (out ++ bothF (l.drop i0) (m.drop k0) = bothF l m) ∧
      wr.cell? ⟨w.heap.size, 0, none⟩ = some v ∧ wr.frozen? ⟨w.heap.size, 0, none⟩ = false ∧ Hid (wr.ownsRow (w.heap.size + 1) 39 2 v out.length (flat out)) ∧ Below w.heap.size w wr)
  case atStart => exact ⟨0, 0, .slice none 0 0, [], rfl, rfl, by omega, by omega, by omega, by simp, by simp [Hid], by simp, by simp, World.ownsRow_nil _ _ _ _, (Below.refl _ _).alloc (Nat.le_refl _) _⟩
  case round =>
    obtain ⟨i, k, v, out, rfl, rfl, hi, hk, hg, ho, HO, hc, hf, hown, hb⟩ := hrel
    have h1' := (hb.cell (p := ⟨pa, 0, none⟩) (cell_lt h1)).trans h1
    have h2' := (hb.cell (p := ⟨pb, 0, none⟩) (cell_lt h2)).trans h2
    by_cases hil : i < l.length
    · by_cases hkm : k < m.length
      · rcases hA with h | ⟨ba, oa, rfl, hA⟩
        · subst h; simp at hil
        rcases hB with h | ⟨bb, ob, rfl, hB⟩
        · subst h; simp at hkm
        obtain ⟨a1, a2⟩ := hA i hil
        obtain ⟨b1, b2⟩ := hB k hkm
        have hst := bothF_step l m i k hil hkm _ _ rfl rfl
        generalize l[i]?.getD (0, 0) = xa at *
        generalize m[k]?.getD (0, 0) = xb at *
        obtain ⟨p, q⟩ := xa
        obtain ⟨r, s⟩ := xb
        dsimp only at hst
        obtain ⟨M, hM⟩ : ∃ M, (if p < r then r else p) = M := ⟨_, rfl⟩
        obtain ⟨N, hN⟩ : ∃ N, (if s < q then s else q) = N := ⟨_, rfl⟩
        rw [show max p r = M by rw [← hM]; split <;> omega, show min q s = N by rw [← hN]; split <;> omega] at hst
        have HST := Lib.hid hst
        have a1' := (hb.cell (p := ⟨ba, oa + i * 2, none⟩) (cell_lt a1)).trans a1
        have a2' := (hb.cell (p := ⟨ba, oa + i * 2 + 1, none⟩) (cell_lt a2)).trans a2
        have b1' := (hb.cell (p := ⟨bb, ob + k * 2, none⟩) (cell_lt b1)).trans b1
        have b2' := (hb.cell (p := ⟨bb, ob + k * 2 + 1, none⟩) (cell_lt b2)).trans b2
        dsimp only at a1' a2' b1' b2'
        have z1 : pa < wr.heap.size := cell_lt h1'
        have z2 : pb < wr.heap.size := cell_lt h2'
        have z3 : ba < wr.heap.size := cell_lt a1'
        have z4 : bb < wr.heap.size := cell_lt b1'
        have z1' : pa < wr.heap.size + 1 := by omega
        have z2' : pb < wr.heap.size + 1 := by omega
        have z3' : ba < wr.heap.size + 1 := by omega
        have z4' : bb < wr.heap.size + 1 := by omega
        clear a1 a2 b1 b2 h1 h2 hA hB hst
        have hil' : (i : Int) < (l.length : Int) := by omega
        have hkm' : (k : Int) < (m.length : Int) := by omega
        go_wp2
        go_cut [8, 9] (fun s8 s9 wx => ∃ g8 g9 : Nat, s8 = .pointer (some ⟨g8, 0, none⟩) ∧ s9 = .pointer (some ⟨g9, 0, none⟩) ∧ wx.cell? ⟨g8, 0, none⟩ = some (.int .i32 p) ∧ wx.cell? ⟨g8, 1, none⟩ = some (.int .i32 q) ∧ wx.cell? ⟨g9, 0, none⟩ = some (.int .i32 r) ∧ wx.cell? ⟨g9, 1, none⟩ = some (.int .i32 s) ∧ g8 < wx.heap.size ∧ g9 < wx.heap.size ∧ wr.heap.size ≤ g8 ∧ wr.heap.size ≤ g9 ∧ Below wr.heap.size wr wx)
        case first =>
          -- {
          go_region
          all_goals (go_wp2_with fail; go_meet)
          all_goals exact ⟨_, _, rfl, rfl, by simp [go_sem], by simp [go_sem], by simp [go_sem], by simp [go_sem], by simp <;> omega, by simp <;> omega, by omega, by omega, (((Below.refl _ _).alloc (Nat.le_refl _) _).alloc (by simp) _).drew⟩
          -- }
        case rest =>
          obtain ⟨g8, g9, rfl, rfl, c1, c2, c3, c4, y1, y2, y3, y4, hx⟩ := hcut
          have hcx := (hx.cell (p := ⟨w.heap.size, 0, none⟩) (cell_lt hc)).trans hc
          have hfx := (hx.frozen (p := ⟨w.heap.size, 0, none⟩) (cell_lt hc)).trans hf
          have hnx := Lib.hid (ownsRow_below hx hown.out)
          have y5 : w.heap.size < wc.heap.size := cell_lt hcx
          have y5' : w.heap.size < wc.heap.size + 1 := by omega
          have hvb := Lib.hid hown.out.lt
          have y6 : w.heap.size < wr.heap.size := cell_lt hc
          clear hown h1' h2' a1' a2' b1' b2' hc hf
          go_upto_if 58 with (fail)
          go_cut [5] (fun s5 wx => ∃ (v' : Value) (out' : List (Int × Int)), s5 = .pointer (some ⟨w.heap.size, 0, none⟩) ∧ wx.cell? ⟨w.heap.size, 0, none⟩ = some v' ∧ wx.frozen? ⟨w.heap.size, 0, none⟩ = false ∧ Hid (wx.ownsRow (w.heap.size + 1) 39 2 v' out'.length (flat out')) ∧ Below w.heap.size w wx ∧
            Hid (out' = out ++ (if M ≤ N then [(M, N)] else [])) ∧ out'.length ≤ out.length + 1 ∧ wx.cell? ⟨g8, 1, none⟩ = some (.int .i32 q) ∧ wx.cell? ⟨g9, 1, none⟩ = some (.int .i32 s))
          case first =>
            go_wp2
            · have nB : out.length + 1 ≤ maxLen := by unfold maxLen; omega
              have nB' : (out.length + 1) * 8 ≤ 140737488355328 := by omega
              have nC : w.heap.size + 1 ≤ wc.heap.size := y5
              have BX : Below (w.heap.size + 1) wc ((wc.alloc (.cells #[.int .i32 M, .int .i32 N] 39)).alloc (.cells #[.int .i32 M, .int .i32 N] 39)).drew := (((Below.refl _ wc).alloc nC _).alloc (by simp; omega) _).drew
              have BXw : Below wc.heap.size wc ((wc.alloc (.cells #[.int .i32 M, .int .i32 N] 39)).alloc (.cells #[.int .i32 M, .int .i32 N] 39)).drew := (((Below.refl _ wc).alloc (Nat.le_refl _) _).alloc (by simp) _).drew
              go_region_law ((refine step_append_lies _ ?_ (.tmp 63) (.tmp 65) 22 ?_ (w.heap.size + 1) 39 i0 (.agg #[.int .i32 0, .int .i32 0]) 2 8 Tryz.underlying22 hi0 hz0 hz1 hz2 ?_ ?_ v out.length (flat out) ?_ ?_ ⟨wc.heap.size + 1, 0, none⟩ 1 1 [.int .i32 M, .int .i32 N] ?_ ?_ ?_ ?_ ?_ ?_ ?_ ?_ (wc.heap.size + 2) ?_ ?_; (· rfl); (· rfl); (· rfl); (· decide); (· rfl); (· exact ownsRow_below ((((Below.refl _ _).alloc (Nat.le_refl _) _).alloc (by simp) _).drew) hnx.out); (· rfl); (· rfl); (· refine World.news_of_block (cs := #[.int .i32 M, .int .i32 N]) (t := 39) (fr := (0, 0)) ?_; rw [← World.size_alloc wc (.cells #[.int .i32 M, .int .i32 N] 39)]; exact heap_alloc_new _ _); (· simp [Value.oneCell']); (· decide); (· exact nB); (· exact nB'); (· simp; omega); (· simp); intro g cap w1 hown1 hgrow hat hlt; have BY := BX.grown hgrow (by simp; omega) (fun k hk => (hvb.out k hk).1); have e1 := (BY.cell (p := ⟨w.heap.size, 0, none⟩) (Nat.lt_succ_self _)).trans hcx; have e2 := (BY.frozen (p := ⟨w.heap.size, 0, none⟩) (Nat.lt_succ_self _)).trans hfx))
              all_goals (go_wp2_with fail; go_meet)
              all_goals
                obtain ⟨f1, f2, f3, f4⟩ := push_done (hb.trans ((hx.mono (by omega)).trans (BY.mono (by omega)))) e1 e2 hown1
                have k8 := (hgrow.cell_far ⟨g8, 1, none⟩ (by simp; omega) (fun h => by have := (hvb.out _ h.symm).2; simp at this; omega)).trans ((BXw.cell (p := ⟨g8, 1, none⟩) y1).trans c2)
                have k9 := (hgrow.cell_far ⟨g9, 1, none⟩ (by simp; omega) (fun h => by have := (hvb.out _ h.symm).2; simp at this; omega)).trans ((BXw.cell (p := ⟨g9, 1, none⟩) y2).trans c4)
                exact ⟨_, out ++ [(M, N)], rfl, f1, f2, by rw [flat_snoc, List.length_append]; exact f3, f4, by rw [if_pos ‹M ≤ N›]; rfl, by simp, cell_set_other k8 (by omega), cell_set_other k9 (by omega)⟩
            · go_wp2_with fail
              go_meet
              have BA := (Below.refl wc.heap.size wc).alloc (Nat.le_refl _) (.cells #[.int .i32 M, .int .i32 N] 39)
              exact ⟨v, out, rfl, (BA.cell (p := ⟨w.heap.size, 0, none⟩) y5).trans hcx, (BA.frozen (p := ⟨w.heap.size, 0, none⟩) y5).trans hfx, (hnx.out.alloc _), hb.trans ((hx.mono (by omega)).trans ((Below.refl _ _).alloc (by omega) _)), by rw [if_neg (by omega)]; simp [Hid], by omega, (BA.cell (p := ⟨g8, 1, none⟩) y1).trans c2, (BA.cell (p := ⟨g9, 1, none⟩) y2).trans c4⟩
          case rest =>
            obtain ⟨v', out', rfl, d1, d2, d3, d4, D5, d6, d7, d8⟩ := hcut
            go_wp2
            · have hlt : q < s := by assumption
              go_roundg (gk - 1)
              case measure => omega
              case rel => exact ⟨i + 1, k, v', out', by go_num, rfl, by omega, by omega, by omega, by omega, by have h1 := HO.out; have h2 := D5.out; have h3 := HST.out; rw [if_pos hlt] at h3; rw [h3] at h1; rw [h2, List.append_assoc]; exact h1, d1, d2, d3, d4⟩
            · have hlt : s ≤ q := by assumption
              go_roundg (gk - 1)
              case measure => omega
              case rel => exact ⟨i, k + 1, v', out', rfl, by go_num, by omega, by omega, by omega, by omega, by have h1 := HO.out; have h2 := D5.out; have h3 := HST.out; rw [if_neg (show ¬ q < s by omega)] at h3; rw [h3] at h1; rw [h2, List.append_assoc]; exact h1, d1, d2, d3, d4⟩
      · obtain rfl : k = m.length := by omega
        have hO := HO.out
        rw [List.drop_length] at hO
        rw [show bothF (List.drop i l) [] = [] by cases List.drop i l <;> simp [bothF], List.append_nil] at hO
        subst hO
        have hN := hown.out
        clear h1 h2 hA hB HO
        go_wp2
        go_ret
        exact ⟨_, rfl, ⟨_, v, rfl, hc, Spans.of_owns hN⟩, hb⟩
    · obtain rfl : i = l.length := by omega
      have hO := HO.out
      rw [List.drop_length] at hO
      rw [show bothF [] (List.drop k m) = [] by simp [bothF], List.append_nil] at hO
      subst hO
      have hN := hown.out
      clear h1 h2 hA hB HO
      go_wp2
      go_ret
      exact ⟨_, rfl, ⟨_, v, rfl, hc, Spans.of_owns hN⟩, hb⟩

theorem both_any (p q : Value) (l m : List (Int × Int)) (w : World) (hp : IsSet w p l) (hq : IsSet w q m) (hl : l.length ≤ 100000) (hm : m.length ≤ 100000) :
    Calls Tryz.prog 20 #[p, q] w fun e w' => ∃ v, e = .returned v ∧ IsSet w' v (bothF l m) ∧ Below w.heap.size w w' := by
  obtain ⟨pa, va, rfl, h1, a, ca, rfl, hA⟩ := hp
  obtain ⟨pb, vb, rfl, h2, b, cb, rfl, hB⟩ := hq
  exact both_walk pa pb l m w a b ca cb h1 h2 hA hB hl hm

end Go.Proofs.YtmbjjheaddhmeaaGreatDoor
