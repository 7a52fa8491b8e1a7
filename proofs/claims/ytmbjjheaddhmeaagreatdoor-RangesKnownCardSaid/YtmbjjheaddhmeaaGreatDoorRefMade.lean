/- made: the walk. -/
import Derived.Test.YtmbjjheaddhmeaaGreatDoorMadeLaw
import Derived.Test.YtmbjjheaddhmeaaGreatDoorRefFirst
import Derived.BigRegion
import Derived.BigCall
import Derived.Deep.DeepCutAuto
import Derived.Deep.RegionLaw
import Derived.Laws.OwnMore
import Derived.Deep.RegionHeld3
import Derived.Test.YtmbjjheaddhmeaaGreatDoorFlow
namespace Go.Proofs.YtmbjjheaddhmeaaGreatDoor
open Go.RowKit

theorem take_snoc2 (l : List (Int × Int)) (k : Nat) (hk : k < l.length) : l.take (k + 1) = l.take k ++ [l[k]?.getD (0, 0)] := by
  rw [List.take_succ_eq_append_getElem hk]; simp [hk]
theorem Edged.all {es : List Int} {a : List (Int × Int)} (h : Edged es (a.take a.length)) : Edged es a := by rwa [List.take_length] at h

def flatP (l : List (Int × Int)) : List Value := l.flatMap fun x => [.int .i64 x.1, .int .i64 x.2]
theorem flatP_snoc (l : List (Int × Int)) (x : Int × Int) : flatP (l ++ [x]) = flatP l ++ [.int .i64 x.1, .int .i64 x.2] := by simp [flatP]
theorem flatP_length (l : List (Int × Int)) : (flatP l).length = l.length * 2 := by
  induction l with
  | nil => rfl
  | cons x l ih => simp [flatP] at *; omega
theorem flatP_get (l : List (Int × Int)) (j : Nat) (h : j < l.length) : (flatP l)[j * 2]? = some (.int .i64 (l[j]?.getD (0, 0)).1) ∧ (flatP l)[j * 2 + 1]? = some (.int .i64 (l[j]?.getD (0, 0)).2) := by
  induction l generalizing j with
  | nil => simp at h
  | cons x l ih =>
    cases j with
    | zero => simp [flatP]
    | succ j =>
      have := ih j (by simpa using h)
      simp only [flatP, List.flatMap_cons] at *
      rw [show (j + 1) * 2 = j * 2 + 2 by omega, show j * 2 + 2 + 1 = (j * 2 + 1) + 2 by omega]
      simpa using this
theorem flatP_set_last (l : List (Int × Int)) (p q r : Int) : (flatP (l ++ [(p, q)])).set (l.length * 2 + 1) (.int .i64 r) = flatP (l ++ [(p, r)]) := by
  rw [flatP_snoc, flatP_snoc, List.set_append_right _ _ (by rw [flatP_length]; omega), flatP_length, show l.length * 2 + 1 - l.length * 2 = 1 by omega]
  rfl
theorem Prs.of_owns {w : World} {base : Nat} {e : TypeId} {v : Value} {l : List (Int × Int)} (h : w.ownsRow base e 2 v l.length (flatP l)) : Prs w v l := by
  obtain ⟨h0, h⟩ := h
  rcases h with ⟨rfl, h⟩ | ⟨g, cap, cur, rfl, hg, hh, h1, h2, h3, h4⟩
  · have : l = [] := List.eq_nil_of_length_eq_zero h
    subst this
    exact Prs.nil _
  · refine ⟨some ⟨g, 0, none⟩, cap, rfl, .inr ⟨g, 0, rfl, fun j hj => ?_⟩⟩
    obtain ⟨g1, g2⟩ := flatP_get l j hj
    rw [← h4] at g1 g2
    have e1 : j * 2 < l.length * 2 := by omega
    have e2 : j * 2 + 1 < l.length * 2 := by omega
    rw [List.getElem?_take, if_pos e1] at g1
    rw [List.getElem?_take, if_pos e2] at g2
    simp only [Array.getElem?_toList] at g1 g2
    exact ⟨by simp [World.cell?, hh, g1], by simp [World.cell?, hh, g2]⟩
theorem Tryz.infoPair : (Tryz.prog.info? 84).map (fun i => (i.zero, i.size, i.bytes)) = some (some (.agg #[.int .i64 0, .int .i64 0]), 2, 16) := by kernel_rfl
/-- What lies at an edge's place. -/
theorem edge_cells {W : World} {base ge ce : Nat} {es : List Int} (h : W.ownsRow base 3 1 (.slice (some ⟨ge, 0, none⟩) es.length ce) es.length (es.map I64)) (k : Nat) (hk : k < es.length) : W.cell? ⟨ge, k, none⟩ = some (.int .i64 es[k]) := by
  have := h.cells rfl k _ (map_get_I64 es k es[k] (List.getElem?_eq_getElem hk))
  rwa [add_lit, Nat.zero_add] at this

set_option maxRecDepth 100000 in
set_option maxHeartbeats 4000000 in
theorem made_walk (va vb : Value) (a b : List (Int × Int)) (how : Int) (w : World) (ha : Prs w va a) (hb : Prs w vb b) (na : NumR a) (nb : NumR b) (la : a.length ≤ 600000) (lb : b.length ≤ 600000) :
    Calls Tryz.prog 72 #[.agg #[va], .agg #[vb], .int .i64 how] w fun e w' => ∃ v out, e = .returned (.agg #[v]) ∧ Prs w' v out ∧ Done (fun r => saysF how (memB r a) (memB r b)) out 1112192 ∧ Below w.heap.size w w' := by
  obtain ⟨i0, hi0, hz0, hz1, hz2⟩ := info_parts Tryz.infoPair
  have HPA := Lib.hid ha
  have HPB := Lib.hid hb
  obtain ⟨aa, ca, rfl, hA⟩ := ha
  obtain ⟨ab, cb, rfl, hB⟩ := hb
  have HNA := Lib.hid na
  have HNB := Lib.hid nb
  clear na nb
  go_enter Tryz.func72, Tryz.ntmps72
  go_wp2
  have x0 : Below w.heap.size w (((w.alloc (.cells #[.slice aa a.length ca] 33)).alloc (.cells #[.slice ab b.length cb] 33)).alloc (.cells #[.slice none 0 0] 33)) := ((Below.refl _ w).alloc (Nat.le_refl _) _ |>.alloc (by simp) _).alloc (by simp; omega) _
  have x1 : (((w.alloc (.cells #[.slice aa a.length ca] 33)).alloc (.cells #[.slice ab b.length cb] 33)).alloc (.cells #[.slice none 0 0] 33)).cell? ⟨w.heap.size, 0, none⟩ = some (.slice aa a.length ca) := by simp [go_sem]
  have x2 : (((w.alloc (.cells #[.slice aa a.length ca] 33)).alloc (.cells #[.slice ab b.length cb] 33)).alloc (.cells #[.slice none 0 0] 33)).cell? ⟨w.heap.size + 1, 0, none⟩ = some (.slice ab b.length cb) := by simp [go_sem]
  have x3 : (((w.alloc (.cells #[.slice aa a.length ca] 33)).alloc (.cells #[.slice ab b.length cb] 33)).alloc (.cells #[.slice none 0 0] 33)).cell? ⟨w.heap.size + 1 + 1, 0, none⟩ = some (.slice none 0 0) := by simp [go_sem]
  have x5 : (((w.alloc (.cells #[.slice aa a.length ca] 33)).alloc (.cells #[.slice ab b.length cb] 33)).alloc (.cells #[.slice none 0 0] 33)).frozen? ⟨w.heap.size + 1 + 1, 0, none⟩ = false := by simp [go_sem]
  have x4 : (((w.alloc (.cells #[.slice aa a.length ca] 33)).alloc (.cells #[.slice ab b.length cb] 33)).alloc (.cells #[.slice none 0 0] 33)).heap.size = w.heap.size + 1 + 1 + 1 := by simp
  generalize (((w.alloc (.cells #[.slice aa a.length ca] 33)).alloc (.cells #[.slice ab b.length cb] 33)).alloc (.cells #[.slice none 0 0] 33)) = W3 at *
  have o0 : (W3.alloc (.cells #[.int .i64 0, .int .i64 1112192] 3)).ownsRow (w.heap.size + 1 + 1 + 1) 3 1 (.slice (some ⟨w.heap.size + 1 + 1 + 1, 0, none⟩) 2 2) 2 (([0, 1112192] : List Int).map I64) := by
    have := World.ownsRow_lit (base := w.heap.size + 1 + 1 + 1) (e := 3) (size := 1) W3 #[.int .i64 0, .int .i64 1112192] 2 (by omega) (by decide) (by decide)
    rw [x4] at this
    exact this
  go_loopg [7, 8] a.length (fun gk ve i wr => ∃ (k : Nat) (es : List Int), i = .int .i64 k ∧ k ≤ a.length ∧ a.length - k ≤ gk ∧ es.length ≤ 2 + 2 * k ∧ Hid (EdgeL es) ∧ Hid (Edged es (a.take k)) ∧ Hid (wr.ownsRow (w.heap.size + 1 + 1 + 1) 3 1 ve es.length (es.map I64)) ∧ Below (w.heap.size + 1 + 1 + 1) W3 wr)
  case atStart => exact ⟨0, [0, 1112192], rfl, by omega, by omega, by simp, edgeL_start, edged_nil _, o0, (Below.refl _ _).alloc (by omega) _⟩
  case round =>
    obtain ⟨k, es, rfl, hk, hg, hel, HE, HD, hown, hb⟩ := hrel
    have hpos := HE.out.pos
    obtain ⟨ge, ce, rfl, hge⟩ := World.ownsRow.form hown.out hpos
    have y1 := (hb.cell (p := ⟨w.heap.size, 0, none⟩) (by show w.heap.size < _; omega)).trans x1
    have y2 := (hb.cell (p := ⟨w.heap.size + 1, 0, none⟩) (by show w.heap.size + 1 < _; omega)).trans x2
    have y3 := (hb.cell (p := ⟨w.heap.size + 1 + 1, 0, none⟩) (by show w.heap.size + 1 + 1 < _; omega)).trans x3
    have hbw := x0.trans (hb.mono (show w.heap.size ≤ w.heap.size + 1 + 1 + 1 by omega))
    by_cases hkl : k < a.length
    · rcases hA with h | ⟨ba, oa, rfl, hA⟩
      · subst h; simp at hkl
      obtain ⟨a1, a2⟩ := hA k hkl
      obtain ⟨n1, n2, n3, n4⟩ := HNA.out.get k hkl
      have HT := Lib.hid (take_snoc2 a k hkl)
      generalize a[k]?.getD (0, 0) = xa at *
      obtain ⟨p, q⟩ := xa
      dsimp only at a1 a2 n1 n2 n3 n4
      have b1 := cell_lt a1
      have a1' := (hbw.cell (p := ⟨ba, oa + k * 2, none⟩) (cell_lt a1)).trans a1
      have a2' := (hbw.cell (p := ⟨ba, oa + k * 2 + 1, none⟩) (cell_lt a2)).trans a2
      clear a1 a2 hA hB x0 x1 x2 x3 o0 hbw
      have hkl' : (k : Int) < (a.length : Int) := by omega
      have hes : es.length ≤ 5000000 := by omega
      have e2l : ∀ n m, (putF n (putF m es)).length ≤ es.length + 2 := fun n m => by have := putF_len n (putF m es); have := putF_len m es; omega
      have hes1 : (putF p es).length ≤ 5000000 := by have := putF_len p es; omega
      have hpos1 : 0 < (putF p es).length := (HE.out.put n1 (by omega)).pos
      have hq2 : q + 1 ≤ 1112192 := by omega
      have hq3 : IntKind.i64.wrap (q + 1) = q + 1 := IntWalk.i64_in _ (by omega)
      go_upto_if 3 with (fail)
      have u1 : w.heap.size < w.heap.size + 1 + 1 + 1 := by omega
      have u2 : ba < w.heap.size + 1 + 1 + 1 := by omega
      have c1 : wr.drew.cell? ⟨w.heap.size, 0, none⟩ = some (.slice (some ⟨ba, oa, none⟩) a.length ca) := y1
      have c0 : wr.drew.cell? ⟨ba, oa + k * 2, none⟩ = some (.int .i64 p) := a1'
      have c2 : wr.drew.cell? ⟨ba, oa + k * 2 + 1, none⟩ = some (.int .i64 q) := a2'
      have HO := Lib.hid (show wr.drew.ownsRow (w.heap.size + 1 + 1 + 1) 3 1 (.slice (some ⟨ge, 0, none⟩) es.length ce) es.length (es.map I64) from hown.out)
      go_region_held3 (fun W : World => W.cell? ⟨w.heap.size, 0, none⟩ = some (.slice (some ⟨ba, oa, none⟩) a.length ca) ∧ W.cell? ⟨ba, oa + k * 2, none⟩ = some (.int .i64 p) ∧ W.cell? ⟨ba, oa + k * 2 + 1, none⟩ = some (.int .i64 q)) (first | (with_reducible exact ⟨z1, z2, z3⟩) | (with_reducible exact ⟨c1, c0, c2⟩) | (with_reducible exact ⟨y1, a1', a2'⟩)) (first
        | (go_at_call 120; refine (rput_any (w.heap.size + 1 + 1 + 1) _ (putF p es) (q + 1) w1 hown1 hpos1 hes1).mono ?_; rintro e w2 ⟨v2, rfl, hown2, hB2⟩; have z1 := (hB2.cell (p := ⟨w.heap.size, 0, none⟩) u1).trans z1; have z2 := (hB2.cell (p := ⟨ba, oa + k * 2, none⟩) u2).trans z2; have z3 := (hB2.cell (p := ⟨ba, oa + k * 2 + 1, none⟩) u2).trans z3)
        | (go_at_call 120; refine (rput_any (w.heap.size + 1 + 1 + 1) _ es p _ HO.out hpos hes).mono ?_; rintro e w1 ⟨v1, rfl, hown1, hB1⟩; have z1 := (hB1.cell (p := ⟨w.heap.size, 0, none⟩) u1).trans c1; have z2 := (hB1.cell (p := ⟨ba, oa + k * 2, none⟩) u2).trans a1'; have z3 := (hB1.cell (p := ⟨ba, oa + k * 2 + 1, none⟩) u2).trans c2))
      all_goals
        go_wp2
        go_roundg (gk - 1)
        case measure => omega
        case rel =>
          refine ⟨k + 1, _, by go_num, by omega, by omega, Nat.le_trans (e2l (q + 1) p) (by omega), (HE.out.put n1 (by omega)).put (by omega) hq2, ?_, hown2, (hb.drew.trans (hB1.trans hB2))⟩
          rw [HT.out]; exact HD.out.snoc (p, q)
    · obtain rfl : k = a.length := by omega
      have HD2 := Lib.hid HD.out.all
      clear HD hA
      have HO1 := Lib.hid hown.out
      clear hown
      go_upto_if 3 with (fail)
      go_loopg [7, 9] b.length (fun gk ve i wr => ∃ (k : Nat) (es : List Int), i = .int .i64 k ∧ k ≤ b.length ∧ b.length - k ≤ gk ∧ es.length ≤ 2 + 2 * a.length + 2 * k ∧ Hid (EdgeL es) ∧ Hid (Edged es a) ∧ Hid (Edged es (b.take k)) ∧ Hid (wr.ownsRow (w.heap.size + 1 + 1 + 1) 3 1 ve es.length (es.map I64)) ∧ Below (w.heap.size + 1 + 1 + 1) W3 wr)
      case atStart => exact ⟨0, es, rfl, by omega, by omega, by omega, HE, HD2, edged_nil _, HO1, hb⟩
      case round =>
        clear hb hel hg hk HE HD2 HO1 y1 y2 y3 hbw hge hpos
        obtain ⟨k, es, rfl, hk, hg, hel, HE, HDa, HD, hown, hb⟩ := hrel
        have hpos := HE.out.pos
        obtain ⟨ge, ce, rfl, hge⟩ := World.ownsRow.form hown.out hpos
        have y1 := (hb.cell (p := ⟨w.heap.size, 0, none⟩) (by show w.heap.size < _; omega)).trans x1
        have y2 := (hb.cell (p := ⟨w.heap.size + 1, 0, none⟩) (by show w.heap.size + 1 < _; omega)).trans x2
        have y3 := (hb.cell (p := ⟨w.heap.size + 1 + 1, 0, none⟩) (by show w.heap.size + 1 + 1 < _; omega)).trans x3
        have y4 := (hb.frozen (p := ⟨w.heap.size + 1 + 1, 0, none⟩) (by show w.heap.size + 1 + 1 < _; omega)).trans x5
        have hbw := x0.trans (hb.mono (show w.heap.size ≤ w.heap.size + 1 + 1 + 1 by omega))
        by_cases hkl : k < b.length
        · rcases hB with h | ⟨bb, ob, rfl, hB⟩
          · subst h; simp at hkl
          obtain ⟨a1, a2⟩ := hB k hkl
          obtain ⟨n1, n2, n3, n4⟩ := HNB.out.get k hkl
          have HT := Lib.hid (take_snoc2 b k hkl)
          generalize b[k]?.getD (0, 0) = xa at *
          obtain ⟨p, q⟩ := xa
          dsimp only at a1 a2 n1 n2 n3 n4
          have b1 := cell_lt a1
          have a1' := (hbw.cell (p := ⟨bb, ob + k * 2, none⟩) (cell_lt a1)).trans a1
          have a2' := (hbw.cell (p := ⟨bb, ob + k * 2 + 1, none⟩) (cell_lt a2)).trans a2
          clear a1 a2 hB x0 x1 x2 x3 o0 hbw
          have hkl' : (k : Int) < (b.length : Int) := by omega
          have hes : es.length ≤ 5000000 := by omega
          have e2l : ∀ n m, (putF n (putF m es)).length ≤ es.length + 2 := fun n m => by have := putF_len n (putF m es); have := putF_len m es; omega
          have hes1 : (putF p es).length ≤ 5000000 := by have := putF_len p es; omega
          have hpos1 : 0 < (putF p es).length := (HE.out.put n1 (by omega)).pos
          have hq2 : q + 1 ≤ 1112192 := by omega
          have hq3 : IntKind.i64.wrap (q + 1) = q + 1 := IntWalk.i64_in _ (by omega)
          go_upto_if 3 with (fail)
          have u1 : w.heap.size + 1 < w.heap.size + 1 + 1 + 1 := by omega
          have u2 : bb < w.heap.size + 1 + 1 + 1 := by omega
          have c1 : wr.drew.cell? ⟨w.heap.size + 1, 0, none⟩ = some (.slice (some ⟨bb, ob, none⟩) b.length cb) := y2
          have c0 : wr.drew.cell? ⟨bb, ob + k * 2, none⟩ = some (.int .i64 p) := a1'
          have c2 : wr.drew.cell? ⟨bb, ob + k * 2 + 1, none⟩ = some (.int .i64 q) := a2'
          have HO := Lib.hid (show wr.drew.ownsRow (w.heap.size + 1 + 1 + 1) 3 1 (.slice (some ⟨ge, 0, none⟩) es.length ce) es.length (es.map I64) from hown.out)
          go_region_held3 (fun W : World => W.cell? ⟨w.heap.size + 1, 0, none⟩ = some (.slice (some ⟨bb, ob, none⟩) b.length cb) ∧ W.cell? ⟨bb, ob + k * 2, none⟩ = some (.int .i64 p) ∧ W.cell? ⟨bb, ob + k * 2 + 1, none⟩ = some (.int .i64 q)) (first | (with_reducible exact ⟨z1, z2, z3⟩) | (with_reducible exact ⟨c1, c0, c2⟩) | (with_reducible exact ⟨y2, a1', a2'⟩)) (first
            | (go_at_call 120; refine (rput_any (w.heap.size + 1 + 1 + 1) _ (putF p es) (q + 1) w1 hown1 hpos1 hes1).mono ?_; rintro e w2 ⟨v2, rfl, hown2, hB2⟩; have z1 := (hB2.cell (p := ⟨w.heap.size + 1, 0, none⟩) u1).trans z1; have z2 := (hB2.cell (p := ⟨bb, ob + k * 2, none⟩) u2).trans z2; have z3 := (hB2.cell (p := ⟨bb, ob + k * 2 + 1, none⟩) u2).trans z3)
            | (go_at_call 120; refine (rput_any (w.heap.size + 1 + 1 + 1) _ es p _ HO.out hpos hes).mono ?_; rintro e w1 ⟨v1, rfl, hown1, hB1⟩; have z1 := (hB1.cell (p := ⟨w.heap.size + 1, 0, none⟩) u1).trans c1; have z2 := (hB1.cell (p := ⟨bb, ob + k * 2, none⟩) u2).trans a1'; have z3 := (hB1.cell (p := ⟨bb, ob + k * 2 + 1, none⟩) u2).trans c2))
          all_goals
            go_wp2
            go_roundg (gk - 1)
            case measure => omega
            case rel =>
              refine ⟨k + 1, _, by go_num, by omega, by omega, Nat.le_trans (e2l (q + 1) p) (by omega), (HE.out.put n1 (by omega)).put (by omega) hq2, (HDa.out.put p).put (q + 1), ?_, hown2, (hb.drew.trans (hB1.trans hB2))⟩
              rw [HT.out]; exact HD.out.snoc (p, q)
        · obtain rfl : k = b.length := by omega
          have HDb := Lib.hid HD.out.all
          clear HD hB
          have hes : es.length ≤ 5000000 := by omega
          have hc := fun k hk => edge_cells hown.out k hk
          have HC := Lib.hid hc
          have hge3 := hge.2
          clear hc hown x0 x1 x2 x3 o0 hel hg hk hge
          obtain ⟨V, rfl⟩ : ∃ V : World, V = wr := ⟨_, rfl⟩
          have HHB := Lib.hid hb
          have h3V : w.heap.size + 1 + 1 < V.heap.size := cell_lt y3
          clear hb
          go_upto_if 3 with (fail)
          go_loopg [11] es.length (fun gk i wr => ∃ (k : Nat) (out : List (Int × Int)) (v : Value), i = .int .i64 k ∧ k < es.length ∧ es.length - k ≤ gk ∧ out.length ≤ k ∧ Hid (Done (fun r => saysF how (memB r a) (memB r b)) out (es[k]?.getD 0)) ∧
            wr.cell? ⟨V.heap.size, 0, none⟩ = some v ∧ wr.frozen? ⟨V.heap.size, 0, none⟩ = false ∧ Hid (wr.ownsRow (V.heap.size + 1) 84 2 v out.length (flatP out)) ∧ Below V.heap.size V wr)
          case atStart => exact ⟨0, [], .slice none 0 0, rfl, hpos, by omega, by simp, (by show Done _ [] _; rw [List.getElem?_eq_getElem hpos, Option.getD_some, HE.out.first]; exact Done.start _), by simp, by simp, World.ownsRow_nil _ _ _ _, (Below.refl _ _).alloc (Nat.le_refl _) _⟩
          case round =>
            obtain ⟨k, out, v, rfl, hk, hg, ho, HDn, hc, hf, hown, hb⟩ := hrel
            have y6 : V.heap.size < wr.heap.size := cell_lt hc
            have z1 := (hb.cell (p := ⟨w.heap.size, 0, none⟩) (by show w.heap.size < _; omega)).trans y1
            have z2 := (hb.cell (p := ⟨w.heap.size + 1, 0, none⟩) (by show w.heap.size + 1 < _; omega)).trans y2
            have hbV := hbw.trans (hb.mono hbw.size)
            by_cases hk1 : k + 1 < es.length
            · have g1 := (hb.cell (p := ⟨ge, k, none⟩) hge3).trans (HC.out k hk)
              have g2 := (hb.cell (p := ⟨ge, k + 1, none⟩) hge3).trans (HC.out (k + 1) hk1)
              have hef := rise_get HE.out.1 k (k + 1) (by omega) hk1
              have he0 := (HE.out.2.2.2 _ (List.getElem_mem hk)).1
              have hf0 := (HE.out.2.2.2 _ (List.getElem_mem hk1)).2
              have hfa : ∀ r, es[k] ≤ r → r < es[k + 1] → memB r a = memB es[k] a := fun r h1 h2 => flat_between HE.out.1 k hk1 r h1 h2 a HDa.out
              have hfb : ∀ r, es[k] ≤ r → r < es[k + 1] → memB r b = memB es[k] b := fun r h1 h2 => flat_between HE.out.1 k hk1 r h1 h2 b HDb.out
              have hD1 := HDn.out
              rw [List.getElem?_eq_getElem hk, Option.getD_some] at hD1
              have hn1 : es[k + 1]?.getD 0 = es[k + 1] := by simp [hk1]
              generalize es[k] = e at *
              generalize es[k + 1] = f at *
              have HFA := Lib.hid hfa
              have HFB := Lib.hid hfb
              have HDD := Lib.hid hD1
              have HN1 := Lib.hid hn1
              clear hfa hfb hD1 hn1 HDn
              have hk1' : (k : Int) + 1 < (es.length : Int) := by omega
              have hw0 : IntKind.i64.wrap ((k : Int) + 1) = (k : Int) + 1 := IntWalk.i64_in _ (by omega)
              have hpa := HPA.out.below hbV
              have hpb := HPB.out.below hbV
              have hra : ∀ u : ClsW (AbW wr), Calls Tryz.prog 97 #[.agg #[.slice aa a.length ca], .int .i64 e] u.val fun x w' => x = .returned (.bool (memB e a)) ∧ Below u.val.heap.size u.val w' := fun u => rhas_any _ a e _ (hpa.below u.ok) (by omega)
              have hrb : ∀ u : ClsW (AbW wr), Calls Tryz.prog 97 #[.agg #[.slice ab b.length cb], .int .i64 e] u.val fun x w' => x = .returned (.bool (memB e b)) ∧ Below u.val.heap.size u.val w' := fun u => rhas_any _ b e _ (hpb.below u.ok) (by omega)
              obtain ⟨ma, hma⟩ : ∃ ma, memB e a = ma := ⟨_, rfl⟩
              obtain ⟨mb, hmb⟩ : ∃ mb, memB e b = mb := ⟨_, rfl⟩
              obtain ⟨s, hs⟩ : ∃ s, saysF how ma mb = s := ⟨_, rfl⟩
              have HP : Hid (∀ r, e ≤ r → r < f → saysF how (memB r a) (memB r b) = s) := fun r h1 h2 => by rw [HFA.out r h1 h2, HFB.out r h1 h2, hma, hmb, hs]
              rw [hma] at hra
              rw [hmb] at hrb
              have hsy : ∀ u : ClsW (AbW wr), Calls Tryz.prog 121 #[.int .i64 how, .bool ma, .bool mb] u.val fun x w' => x = .returned (.bool s) ∧ w' = u.val := fun u => (rsays_any how ma mb _).mono (by rw [hs]; rintro x w1 ⟨rfl, rfl⟩; exact ⟨rfl, rfl⟩)
              clear hma hmb hs hpa hpb HFA HFB
              go_wp2
              refine wp_region_cls (AbW wr) (by kernel_rfl) (by kernel_rfl) (AbW.drew wr) ?_
              have hne := AbW.there wr
              have k1 := AbW.cell z1
              have k2 := AbW.cell z2
              have k3 := AbW.cell g1
              repeat (go_big_quiet_step ((first
                | (go_at_call 97; rename_i u; with_reducible exact cls_call AbW.keep (hra u))
                | (go_at_call 97; rename_i u; with_reducible exact cls_call AbW.keep (hrb u))
                | (go_at_call 121; rename_i u; with_reducible exact cls_same (hsy u)))))
              refine wpQuiet_nil ?_
              rintro U ⟨⟨U', hU⟩, hUe⟩
              obtain rfl : U = U' := hUe
              replace hU : Below wr.heap.size wr U := hU
              clear hra hrb hsy hne k1 k2 k3
              have c1 := (hU.cell (p := ⟨V.heap.size, 0, none⟩) y6).trans hc
              have f1 := (hU.frozen (p := ⟨V.heap.size, 0, none⟩) y6).trans hf
              have e1 := (hU.cell (p := ⟨ge, k, none⟩) (Nat.lt_trans hge3 y6)).trans g1
              have e2 := (hU.cell (p := ⟨ge, k + 1, none⟩) (Nat.lt_trans hge3 y6)).trans g2
              have hown2 := Lib.hid (ownsRow_below hU hown.out)
              have hbU := hb.trans (hU.mono hb.size)
              clear z1 z2 g1 g2 hc hf hown hb
              have y7 : V.heap.size < U.heap.size := cell_lt c1
              cases s with
              | false =>
                have HX := Lib.hid (HDD.out.skip hef HP.out)
                go_wp2
                go_roundg (gk - 1)
                case measure => omega
                case rel => exact ⟨k + 1, out, v, by go_num, hk1, by omega, by omega, by show Done _ _ _; rw [HN1.out]; exact HX.out, c1, f1, hown2, hbU⟩
              | true =>
                rcases List.eq_nil_or_concat out with rfl | ⟨ini, ⟨p, q⟩, rfl⟩
                · obtain ⟨av, cv, rfl⟩ := owns_slice hown2.out
                  have HX := Lib.hid (HDD.out.push he0 hef hf0 HP.out (by simp))
                  go_wp2
                  go_quiet (fail)
                  go_wp2
                  obtain ⟨X0, hX⟩ : ∃ X0, U.drewN nq = X0 := ⟨_, rfl⟩
                  have BU : Below U.heap.size U X0 := by rw [← hX]; exact below_drewN (Below.refl _ _) _
                  rw [hX]
                  clear hX
                  have c1 := (BU.cell (p := ⟨V.heap.size, 0, none⟩) y7).trans c1
                  have f1 := (BU.frozen (p := ⟨V.heap.size, 0, none⟩) y7).trans f1
                  have e1 := (BU.cell (p := ⟨ge, k, none⟩) (Nat.lt_trans hge3 y7)).trans e1
                  have e2 := (BU.cell (p := ⟨ge, k + 1, none⟩) (Nat.lt_trans hge3 y7)).trans e2
                  have hown3 := Lib.hid (ownsRow_below BU hown2.out)
                  have hbX := hbU.trans (BU.mono hbU.size)
                  have y8 : V.heap.size < X0.heap.size := cell_lt c1
                  have hvb := Lib.hid hown3.out.lt
                  have nB : ([] : List (Int × Int)).length + 1 ≤ maxLen := by unfold maxLen; first | omega | simp
                  have nB' : (([] : List (Int × Int)).length + 1) * 16 ≤ 140737488355328 := by first | omega | simp
                  have hwf : IntKind.i64.wrap (f - 1) = f - 1 := IntWalk.i64_in _ (by omega)
                  have hk2 : (0 : Int) ≤ (k : Int) + 1 := by omega
                  have hk3 : (k : Int) < (es.length : Int) := by omega
                  have hgeV : ge ≠ V.heap.size := by omega
                  have hk4 : (k : Int) + 1 < (es.length : Int) := hk1'
                  refine wp_region_flow_tail 14 3 [.fix (.pointer (some ⟨V.heap.size, 0, none⟩)), .fix (.slice av ([] : List (Int × Int)).length cv), .fix (.slice (some ⟨ge, 0, none⟩) es.length ce), .fix (.int .i64 k), .fix (.pointer (some ⟨ge, k, none⟩)), .fix (.int .i64 e), .fix (.slice (some ⟨ge, 0, none⟩) es.length ce), .fix (.int .i64 k), .fix (.int .i64 ((k : Int) + 1)), .fix (.pointer (some ⟨ge, k + 1, none⟩)), .fix (.int .i64 f), .fix (.int .i64 (f - 1)), .fix (.agg #[.int .i64 e, .int .i64 (f - 1)]), .rel (fun v Z => ∃ B, v = .slice (some ⟨B, 0, none⟩) 1 1 ∧ Z.heap[B]? = some (.cells #[.int .i64 e, .int .i64 (f - 1)] 84 (0, 0)))] (fun Y => Below X0.heap.size X0 Y) (fun X Y => Below X.heap.size X Y) (by kernel_rfl) (by kernel_rfl) (by kernel_rfl) rfl rfl ((Below.refl _ X0).drew) (fun Y Z h1 h2 => h1.trans (h2.mono h1.size)) (fun X => Below.refl _ X) ?_ ?_ ?_
                  · refine ⟨?_, trivial⟩
                    · exact fun v Z Z' ⟨B, h1, h2⟩ hb => ⟨B, h1, (hb.block B (Array.getElem?_eq_some_iff.1 h2).1).trans h2⟩
                  · refine flowObl_cons ?_ (flowObl_cons ?_ (flowObl_cons ?_ (flowObl_cons ?_ (flowObl_cons ?_ (flowObl_cons ?_ (flowObl_cons ?_ (flowObl_cons ?_ (flowObl_cons ?_ (flowObl_cons ?_ (flowObl_cons ?_ (flowObl_cons ?_ (flowObl_cons ?_ (flowObl_cons ?_ (flowObl_nil))))))))))))))
                    · intro a X hC hS
                      have h10 := see_old hS 10 (by kernel_rfl) (by kernel_rfl) rfl
                      refine flow_run (wanted_none rfl) fun K hK => ?_
                      clear hS
                      simp [go_sem, BigFrame.eval_const, h10]
                      exact hK _ _ rfl (Below.refl _ _)
                    · intro a X hC hS
                      have h114 := see_fix hS 114 0 (by kernel_rfl) (by kernel_rfl) rfl
                      refine flow_run (wanted_none rfl) fun K hK => ?_
                      clear hS
                      have hc := (hC.cell (p := ⟨V.heap.size, 0, none⟩) y8).trans c1
                      simp [go_sem, BigFrame.eval_const, h114, hc]
                      exact hK _ _ rfl (Below.refl _ _)
                    · intro a X hC hS
                      have h7 := see_old hS 7 (by kernel_rfl) (by kernel_rfl) rfl
                      refine flow_run (wanted_none rfl) fun K hK => ?_
                      clear hS
                      simp [go_sem, BigFrame.eval_const, h7]
                      exact hK _ _ rfl (Below.refl _ _)
                    · intro a X hC hS
                      have h11 := see_old hS 11 (by kernel_rfl) (by kernel_rfl) rfl
                      refine flow_run (wanted_none rfl) fun K hK => ?_
                      clear hS
                      simp [go_sem, BigFrame.eval_const, h11]
                      exact hK _ _ rfl (Below.refl _ _)
                    · intro a X hC hS
                      have h116 := see_fix hS 116 2 (by kernel_rfl) (by kernel_rfl) rfl
                      have h117 := see_fix hS 117 3 (by kernel_rfl) (by kernel_rfl) rfl
                      refine flow_run (wanted_none rfl) fun K hK => ?_
                      clear hS
                      simp [go_sem, BigFrame.eval_const, h116, h117, hk3]
                      exact hK _ _ rfl (Below.refl _ _)
                    · intro a X hC hS
                      have h118 := see_fix hS 118 4 (by kernel_rfl) (by kernel_rfl) rfl
                      refine flow_run (wanted_none rfl) fun K hK => ?_
                      clear hS
                      have hc := (hC.cell (p := ⟨ge, k, none⟩) (Nat.lt_trans hge3 y8)).trans e1
                      simp [go_sem, BigFrame.eval_const, h118, hc]
                      exact hK _ _ rfl (Below.refl _ _)
                    · intro a X hC hS
                      have h7 := see_old hS 7 (by kernel_rfl) (by kernel_rfl) rfl
                      refine flow_run (wanted_none rfl) fun K hK => ?_
                      clear hS
                      simp [go_sem, BigFrame.eval_const, h7]
                      exact hK _ _ rfl (Below.refl _ _)
                    · intro a X hC hS
                      have h11 := see_old hS 11 (by kernel_rfl) (by kernel_rfl) rfl
                      refine flow_run (wanted_none rfl) fun K hK => ?_
                      clear hS
                      simp [go_sem, BigFrame.eval_const, h11]
                      exact hK _ _ rfl (Below.refl _ _)
                    · intro a X hC hS
                      have h121 := see_fix hS 121 7 (by kernel_rfl) (by kernel_rfl) rfl
                      refine flow_run (wanted_none rfl) fun K hK => ?_
                      clear hS
                      simp [go_sem, BigFrame.eval_const, h121, hw0]
                      exact hK _ _ rfl (Below.refl _ _)
                    · intro a X hC hS
                      have h120 := see_fix hS 120 6 (by kernel_rfl) (by kernel_rfl) rfl
                      have h122 := see_fix hS 122 8 (by kernel_rfl) (by kernel_rfl) rfl
                      refine flow_run (wanted_none rfl) fun K hK => ?_
                      clear hS
                      simp [go_sem, BigFrame.eval_const, h120, h122, hk1', hk2, hk4]
                      exact hK _ _ rfl (Below.refl _ _)
                    · intro a X hC hS
                      have h123 := see_fix hS 123 9 (by kernel_rfl) (by kernel_rfl) rfl
                      refine flow_run (wanted_none rfl) fun K hK => ?_
                      clear hS
                      have hc := (hC.cell (p := ⟨ge, k + 1, none⟩) (Nat.lt_trans hge3 y8)).trans e2
                      simp [go_sem, BigFrame.eval_const, h123, hc]
                      exact hK _ _ rfl (Below.refl _ _)
                    · intro a X hC hS
                      have h124 := see_fix hS 124 10 (by kernel_rfl) (by kernel_rfl) rfl
                      refine flow_run (wanted_none rfl) fun K hK => ?_
                      clear hS
                      simp [go_sem, BigFrame.eval_const, h124, hwf]
                      exact hK _ _ rfl (Below.refl _ _)
                    · intro a X hC hS
                      have h119 := see_fix hS 119 5 (by kernel_rfl) (by kernel_rfl) rfl
                      have h125 := see_fix hS 125 11 (by kernel_rfl) (by kernel_rfl) rfl
                      refine flow_run (wanted_none rfl) fun K hK => ?_
                      clear hS
                      simp [go_sem, BigFrame.eval_const, h119, h125]
                      exact hK _ _ rfl (Below.refl _ _)
                    · intro a X hC hS
                      have h126 := see_fix hS 126 12 (by kernel_rfl) (by kernel_rfl) rfl
                      refine flow_run (wanted_none rfl) fun K hK => ?_
                      clear hS
                      simp [go_sem, BigFrame.eval_const, h126]
                      exact hK _ _ ⟨X.heap.size, rfl, heap_alloc_new _ _⟩ ((Below.refl _ _).alloc (Nat.le_refl _) _)
                  · intro v127 Y hY hF
                    simp only [Act.put, List.setIfInBounds_toArray, List.set_cons_zero, List.set_cons_succ]
                    have c1Y := (hY.cell (p := ⟨V.heap.size, 0, none⟩) y8).trans c1
                    have f1Y := (hY.frozen (p := ⟨V.heap.size, 0, none⟩) y8).trans f1
                    have hownY := Lib.hid (ownsRow_below hY hown3.out)
                    have yY : V.heap.size < Y.heap.size := cell_lt c1Y
                    have hvY := Lib.hid hownY.out.lt
                    have hbY := hbX.trans (hY.mono hbX.size)
                    obtain ⟨B, rfl, hB7⟩ := hF.2
                    have BX : Below (V.heap.size + 1) Y Y := Below.refl _ _
                    clear hF hvb hown3 c1 f1 e1 e2
                    refine wpAny_ready (rs := [14]) (by kernel_rfl) (by simp) ?_
                    refine AllReady.cons rfl (fun K hK => ?_) AllReady.nil
                    refine step_append_lies _ ?_ (.tmp 115) (.tmp 127) 31 ?_ (V.heap.size + 1) 84 i0 (.agg #[.int .i64 0, .int .i64 0]) 2 16 Tryz.underlying31 hi0 hz0 hz1 hz2 ?_ ?_ (.slice av ([] : List (Int × Int)).length cv) (([] : List (Int × Int)).length) (flatP ([] : List (Int × Int))) ?_ ?_ ⟨B, 0, none⟩ 1 1 [.int .i64 e, .int .i64 (f - 1)] ?_ ?_ ?_ ?_ ?_ ?_ ?_ ?_ (Y.heap.size) ?_ ?_; (· rfl); (· rfl); (· rfl); (· decide); (· rfl); (· exact hownY.out); (· rfl); (· rfl); (· exact World.news_of_block (cs := #[.int .i64 e, .int .i64 (f - 1)]) (t := 84) (fr := (0, 0)) hB7); (· simp [Value.oneCell']); (· decide); (· exact nB); (· exact nB'); (· first | (simp; omega) | omega); (· first | (with_reducible rfl) | simp); intro g cap w1 hown1 hgrow hat hlt
                    have BY := BX.grown hgrow (by omega) (fun k hk => (hvY.out k hk).1)
                    have q1 := (BY.cell (p := ⟨V.heap.size, 0, none⟩) (Nat.lt_succ_self _)).trans c1Y
                    have q2 := (BY.frozen (p := ⟨V.heap.size, 0, none⟩) (Nat.lt_succ_self _)).trans f1Y
                    try go_simp
                    refine hK _ _ ?_
                    clear hK K
                    refine wpAny_ready (rs := [15]) (by kernel_rfl) (by simp) ?_
                    refine AllReady.cons rfl (fun K hK => ?_) AllReady.nil
                    go_simp
                    refine hK _ _ ?_
                    clear hK K
                    refine wpAny_ready (rs := [16]) (by kernel_rfl) (by simp) ?_
                    refine AllReady.cons rfl (fun K hK => ?_) AllReady.nil
                    go_simp
                    refine hK _ _ ?_
                    clear hK K
                    refine wpAny_done (by kernel_rfl) ?_ _
                    go_wp2
                    obtain ⟨d1, d2, d3, d4⟩ := push_done (hbY.trans (BY.mono (by omega))) q1 q2 hown1
                    go_roundg (gk - 1)
                    case measure => omega
                    case rel => exact ⟨k + 1, ([] : List (Int × Int)) ++ [(e, f - 1)], _, by go_num, hk1, by omega, by (try simp); (try omega), by show Done _ _ _; rw [HN1.out]; exact HX.out, d1, d2, by rw [flatP_snoc, show (([] : List (Int × Int)) ++ [(e, f - 1)]).length = ([] : List (Int × Int)).length + 1 by simp]; exact d3, d4⟩
                · rw [List.concat_eq_append] at ho HDD hown2
                  rw [show (ini ++ [(p, q)]).length = ini.length + 1 by simp] at ho hown2
                  obtain ⟨g0, cap0, rfl, hg0, hg0'⟩ := World.ownsRow.form hown2.out (by simp)
                  have e5 := flatP_get (ini ++ [(p, q)]) ini.length (by simp)
                  have c5 := World.ownsRow.cellAt hown2.out (ini.length * 2) (by omega)
                  have c6 := World.ownsRow.cellAt hown2.out (ini.length * 2 + 1) (by omega)
                  rw [e5.1] at c5
                  rw [e5.2] at c6
                  simp only [List.getElem?_concat_length, Option.getD_some] at c5 c6
                  have c7 := World.ownsRow.frozenAt hown2.out (ini.length * 2 + 1)
                  have hne : g0 ≠ V.heap.size := by omega
                  have hk0 : ini.length + 1 ≤ 5000000 := by omega
                  have hw0' : IntKind.i64.wrap (ini.length : Int) = (ini.length : Int) := IntWalk.i64_in _ (by omega)
                  have hw1 : (ini.length : Int) < (ini.length : Int) + 1 := by omega
                  have hw2 : (0 : Int) ≤ (ini.length : Int) := by omega
                  have hqe := HDD.out.2.1 (p, q) (by simp)
                  have hcq := HDD.out.1
                  dsimp only at hqe
                  have hq0 : 0 ≤ q ∧ q ≤ 1112191 := hcq.mem (r := q) (by rw [memB_append, memB]; simp; exact .inr (.inl (can_snoc_inv hcq).1))
                  have hwq : IntKind.i64.wrap (q + 1) = q + 1 := IntWalk.i64_in _ (by omega)
                  have hwf : IntKind.i64.wrap (f - 1) = f - 1 := IntWalk.i64_in _ (by omega)
                  clear e5 hcq
                  by_cases hqe1 : q + 1 = e
                  · have HX := Lib.hid (HDD.out.grow hqe1 hef hf0 HP.out)
                    have hbe : (q + 1 == e) = true := by rw [beq_iff_eq]; exact hqe1
                    clear hqe1
                    go_wp2
                    go_quiet (fail)
                    go_wp2
                    obtain ⟨X, hX⟩ : ∃ X, U.drewN nq = X := ⟨_, rfl⟩
                    have BU : Below U.heap.size U X := by rw [← hX]; exact below_drewN (Below.refl _ _) _
                    rw [hX]
                    clear hX
                    have c1 := (BU.cell (p := ⟨V.heap.size, 0, none⟩) y7).trans c1
                    have f1 := (BU.frozen (p := ⟨V.heap.size, 0, none⟩) y7).trans f1
                    have e2 := (BU.cell (p := ⟨ge, k + 1, none⟩) (Nat.lt_trans hge3 y7)).trans e2
                    have c6 := (BU.cell (p := ⟨g0, ini.length * 2 + 1, none⟩) hg0').trans c6
                    have c7 := (BU.frozen (p := ⟨g0, ini.length * 2 + 1, none⟩) hg0').trans c7
                    have hown3 := Lib.hid (ownsRow_below BU hown2.out)
                    have hbX := hbU.trans (BU.mono hbU.size)
                    have hk2 : (0 : Int) ≤ (k : Int) + 1 := by omega
                    have qa : ∀ x, ((X.setCell ⟨g0, ini.length * 2 + 1, none⟩ x).drew).cell? ⟨V.heap.size, 0, none⟩ = some (.slice (some ⟨g0, 0, none⟩) (ini.length + 1) cap0) := fun x => (World.cell?_setCell_other X _ _ _ (by intro h; injection h with h1 h2; exact hne h1)).trans c1
                    have qb : ∀ x, ((X.setCell ⟨g0, ini.length * 2 + 1, none⟩ x).drew).cell? ⟨ge, k + 1, none⟩ = some (.int .i64 f) := fun x => (World.cell?_setCell_other X _ _ _ (by intro h; injection h with h1 h2; omega)).trans e2
                    clear e1 c5 hown2 BU
                    go_region_held3 (fun W : World => W.cell? ⟨V.heap.size, 0, none⟩ = some (.slice (some ⟨g0, 0, none⟩) (ini.length + 1) cap0) ∧ W.cell? ⟨ge, k + 1, none⟩ = some (.int .i64 f)) (first | (with_reducible exact ⟨qa _, qb _⟩) | (with_reducible exact ⟨c1, e2⟩) | go_keep) (fail)
                    all_goals
                      go_wp2
                      have f3 := (World.ownsRow.stored hown3.out (ini.length * 2 + 1) (.int .i64 (f - 1))).1.drew
                      rw [flatP_set_last] at f3
                      go_roundg (gk - 1)
                      case measure => omega
                      case rel => exact ⟨k + 1, ini ++ [(p, f - 1)], _, by go_num, hk1, by omega, by (try simp); (try omega), by show Done _ _ _; rw [HN1.out]; exact HX.out, qa _, (World.frozen?_setCell X _ _ _).trans f1, by rw [show (ini ++ [(p, f - 1)]).length = ini.length + 1 by simp]; exact f3, (hbX.setCell (p := ⟨g0, ini.length * 2 + 1, none⟩) (by show V.heap.size ≤ g0; omega) _).drew⟩
                  · have HX := Lib.hid (HDD.out.push he0 hef hf0 HP.out (by simp; exact hqe1))
                    have hbe : (q + 1 == e) = false := by rw [beq_eq_false_iff_ne]; exact hqe1
                    clear hqe1
                    go_wp2
                    go_quiet (fail)
                    go_wp2
                    obtain ⟨X0, hX⟩ : ∃ X0, U.drewN nq = X0 := ⟨_, rfl⟩
                    have BU : Below U.heap.size U X0 := by rw [← hX]; exact below_drewN (Below.refl _ _) _
                    rw [hX]
                    clear hX
                    have c1 := (BU.cell (p := ⟨V.heap.size, 0, none⟩) y7).trans c1
                    have f1 := (BU.frozen (p := ⟨V.heap.size, 0, none⟩) y7).trans f1
                    have e1 := (BU.cell (p := ⟨ge, k, none⟩) (Nat.lt_trans hge3 y7)).trans e1
                    have e2 := (BU.cell (p := ⟨ge, k + 1, none⟩) (Nat.lt_trans hge3 y7)).trans e2
                    have hown3 := Lib.hid (ownsRow_below BU hown2.out)
                    have hbX := hbU.trans (BU.mono hbU.size)
                    have y8 : V.heap.size < X0.heap.size := cell_lt c1
                    have hvb := Lib.hid hown3.out.lt
                    have nB : ini.length + 1 + 1 ≤ maxLen := by unfold maxLen; first | omega | simp
                    have nB' : (ini.length + 1 + 1) * 16 ≤ 140737488355328 := by first | omega | simp
                    have hwf : IntKind.i64.wrap (f - 1) = f - 1 := IntWalk.i64_in _ (by omega)
                    have hk2 : (0 : Int) ≤ (k : Int) + 1 := by omega
                    have hk3 : (k : Int) < (es.length : Int) := by omega
                    have hgeV : ge ≠ V.heap.size := by omega
                    have hk4 : (k : Int) + 1 < (es.length : Int) := hk1'
                    refine wp_region_flow_tail 14 3 [.fix (.pointer (some ⟨V.heap.size, 0, none⟩)), .fix (.slice (some ⟨g0, 0, none⟩) (ini.length + 1) cap0), .fix (.slice (some ⟨ge, 0, none⟩) es.length ce), .fix (.int .i64 k), .fix (.pointer (some ⟨ge, k, none⟩)), .fix (.int .i64 e), .fix (.slice (some ⟨ge, 0, none⟩) es.length ce), .fix (.int .i64 k), .fix (.int .i64 ((k : Int) + 1)), .fix (.pointer (some ⟨ge, k + 1, none⟩)), .fix (.int .i64 f), .fix (.int .i64 (f - 1)), .fix (.agg #[.int .i64 e, .int .i64 (f - 1)]), .rel (fun v Z => ∃ B, v = .slice (some ⟨B, 0, none⟩) 1 1 ∧ Z.heap[B]? = some (.cells #[.int .i64 e, .int .i64 (f - 1)] 84 (0, 0)))] (fun Y => Below X0.heap.size X0 Y) (fun X Y => Below X.heap.size X Y) (by kernel_rfl) (by kernel_rfl) (by kernel_rfl) rfl rfl ((Below.refl _ X0).drew) (fun Y Z h1 h2 => h1.trans (h2.mono h1.size)) (fun X => Below.refl _ X) ?_ ?_ ?_
                    · refine ⟨?_, trivial⟩
                      · exact fun v Z Z' ⟨B, h1, h2⟩ hb => ⟨B, h1, (hb.block B (Array.getElem?_eq_some_iff.1 h2).1).trans h2⟩
                    · refine flowObl_cons ?_ (flowObl_cons ?_ (flowObl_cons ?_ (flowObl_cons ?_ (flowObl_cons ?_ (flowObl_cons ?_ (flowObl_cons ?_ (flowObl_cons ?_ (flowObl_cons ?_ (flowObl_cons ?_ (flowObl_cons ?_ (flowObl_cons ?_ (flowObl_cons ?_ (flowObl_cons ?_ (flowObl_nil))))))))))))))
                      · intro a X hC hS
                        have h10 := see_old hS 10 (by kernel_rfl) (by kernel_rfl) rfl
                        refine flow_run (wanted_none rfl) fun K hK => ?_
                        clear hS
                        simp [go_sem, BigFrame.eval_const, h10]
                        exact hK _ _ rfl (Below.refl _ _)
                      · intro a X hC hS
                        have h114 := see_fix hS 114 0 (by kernel_rfl) (by kernel_rfl) rfl
                        refine flow_run (wanted_none rfl) fun K hK => ?_
                        clear hS
                        have hc := (hC.cell (p := ⟨V.heap.size, 0, none⟩) y8).trans c1
                        simp [go_sem, BigFrame.eval_const, h114, hc]
                        exact hK _ _ rfl (Below.refl _ _)
                      · intro a X hC hS
                        have h7 := see_old hS 7 (by kernel_rfl) (by kernel_rfl) rfl
                        refine flow_run (wanted_none rfl) fun K hK => ?_
                        clear hS
                        simp [go_sem, BigFrame.eval_const, h7]
                        exact hK _ _ rfl (Below.refl _ _)
                      · intro a X hC hS
                        have h11 := see_old hS 11 (by kernel_rfl) (by kernel_rfl) rfl
                        refine flow_run (wanted_none rfl) fun K hK => ?_
                        clear hS
                        simp [go_sem, BigFrame.eval_const, h11]
                        exact hK _ _ rfl (Below.refl _ _)
                      · intro a X hC hS
                        have h116 := see_fix hS 116 2 (by kernel_rfl) (by kernel_rfl) rfl
                        have h117 := see_fix hS 117 3 (by kernel_rfl) (by kernel_rfl) rfl
                        refine flow_run (wanted_none rfl) fun K hK => ?_
                        clear hS
                        simp [go_sem, BigFrame.eval_const, h116, h117, hk3]
                        exact hK _ _ rfl (Below.refl _ _)
                      · intro a X hC hS
                        have h118 := see_fix hS 118 4 (by kernel_rfl) (by kernel_rfl) rfl
                        refine flow_run (wanted_none rfl) fun K hK => ?_
                        clear hS
                        have hc := (hC.cell (p := ⟨ge, k, none⟩) (Nat.lt_trans hge3 y8)).trans e1
                        simp [go_sem, BigFrame.eval_const, h118, hc]
                        exact hK _ _ rfl (Below.refl _ _)
                      · intro a X hC hS
                        have h7 := see_old hS 7 (by kernel_rfl) (by kernel_rfl) rfl
                        refine flow_run (wanted_none rfl) fun K hK => ?_
                        clear hS
                        simp [go_sem, BigFrame.eval_const, h7]
                        exact hK _ _ rfl (Below.refl _ _)
                      · intro a X hC hS
                        have h11 := see_old hS 11 (by kernel_rfl) (by kernel_rfl) rfl
                        refine flow_run (wanted_none rfl) fun K hK => ?_
                        clear hS
                        simp [go_sem, BigFrame.eval_const, h11]
                        exact hK _ _ rfl (Below.refl _ _)
                      · intro a X hC hS
                        have h121 := see_fix hS 121 7 (by kernel_rfl) (by kernel_rfl) rfl
                        refine flow_run (wanted_none rfl) fun K hK => ?_
                        clear hS
                        simp [go_sem, BigFrame.eval_const, h121, hw0]
                        exact hK _ _ rfl (Below.refl _ _)
                      · intro a X hC hS
                        have h120 := see_fix hS 120 6 (by kernel_rfl) (by kernel_rfl) rfl
                        have h122 := see_fix hS 122 8 (by kernel_rfl) (by kernel_rfl) rfl
                        refine flow_run (wanted_none rfl) fun K hK => ?_
                        clear hS
                        simp [go_sem, BigFrame.eval_const, h120, h122, hk1', hk2, hk4]
                        exact hK _ _ rfl (Below.refl _ _)
                      · intro a X hC hS
                        have h123 := see_fix hS 123 9 (by kernel_rfl) (by kernel_rfl) rfl
                        refine flow_run (wanted_none rfl) fun K hK => ?_
                        clear hS
                        have hc := (hC.cell (p := ⟨ge, k + 1, none⟩) (Nat.lt_trans hge3 y8)).trans e2
                        simp [go_sem, BigFrame.eval_const, h123, hc]
                        exact hK _ _ rfl (Below.refl _ _)
                      · intro a X hC hS
                        have h124 := see_fix hS 124 10 (by kernel_rfl) (by kernel_rfl) rfl
                        refine flow_run (wanted_none rfl) fun K hK => ?_
                        clear hS
                        simp [go_sem, BigFrame.eval_const, h124, hwf]
                        exact hK _ _ rfl (Below.refl _ _)
                      · intro a X hC hS
                        have h119 := see_fix hS 119 5 (by kernel_rfl) (by kernel_rfl) rfl
                        have h125 := see_fix hS 125 11 (by kernel_rfl) (by kernel_rfl) rfl
                        refine flow_run (wanted_none rfl) fun K hK => ?_
                        clear hS
                        simp [go_sem, BigFrame.eval_const, h119, h125]
                        exact hK _ _ rfl (Below.refl _ _)
                      · intro a X hC hS
                        have h126 := see_fix hS 126 12 (by kernel_rfl) (by kernel_rfl) rfl
                        refine flow_run (wanted_none rfl) fun K hK => ?_
                        clear hS
                        simp [go_sem, BigFrame.eval_const, h126]
                        exact hK _ _ ⟨X.heap.size, rfl, heap_alloc_new _ _⟩ ((Below.refl _ _).alloc (Nat.le_refl _) _)
                    · intro v127 Y hY hF
                      simp only [Act.put, List.setIfInBounds_toArray, List.set_cons_zero, List.set_cons_succ]
                      have c1Y := (hY.cell (p := ⟨V.heap.size, 0, none⟩) y8).trans c1
                      have f1Y := (hY.frozen (p := ⟨V.heap.size, 0, none⟩) y8).trans f1
                      have hownY := Lib.hid (ownsRow_below hY hown3.out)
                      have yY : V.heap.size < Y.heap.size := cell_lt c1Y
                      have hvY := Lib.hid hownY.out.lt
                      have hbY := hbX.trans (hY.mono hbX.size)
                      obtain ⟨B, rfl, hB7⟩ := hF.2
                      have BX : Below (V.heap.size + 1) Y Y := Below.refl _ _
                      clear hF hvb hown3 c1 f1 e1 e2
                      refine wpAny_ready (rs := [14]) (by kernel_rfl) (by simp) ?_
                      refine AllReady.cons rfl (fun K hK => ?_) AllReady.nil
                      refine step_append_lies _ ?_ (.tmp 115) (.tmp 127) 31 ?_ (V.heap.size + 1) 84 i0 (.agg #[.int .i64 0, .int .i64 0]) 2 16 Tryz.underlying31 hi0 hz0 hz1 hz2 ?_ ?_ (.slice (some ⟨g0, 0, none⟩) (ini.length + 1) cap0) (ini.length + 1) (flatP (ini ++ [(p, q)])) ?_ ?_ ⟨B, 0, none⟩ 1 1 [.int .i64 e, .int .i64 (f - 1)] ?_ ?_ ?_ ?_ ?_ ?_ ?_ ?_ (Y.heap.size) ?_ ?_; (· rfl); (· rfl); (· rfl); (· decide); (· rfl); (· exact hownY.out); (· rfl); (· rfl); (· exact World.news_of_block (cs := #[.int .i64 e, .int .i64 (f - 1)]) (t := 84) (fr := (0, 0)) hB7); (· simp [Value.oneCell']); (· decide); (· exact nB); (· exact nB'); (· first | (simp; omega) | omega); (· first | (with_reducible rfl) | simp); intro g cap w1 hown1 hgrow hat hlt
                      have BY := BX.grown hgrow (by omega) (fun k hk => (hvY.out k hk).1)
                      have q1 := (BY.cell (p := ⟨V.heap.size, 0, none⟩) (Nat.lt_succ_self _)).trans c1Y
                      have q2 := (BY.frozen (p := ⟨V.heap.size, 0, none⟩) (Nat.lt_succ_self _)).trans f1Y
                      try go_simp
                      refine hK _ _ ?_
                      clear hK K
                      refine wpAny_ready (rs := [15]) (by kernel_rfl) (by simp) ?_
                      refine AllReady.cons rfl (fun K hK => ?_) AllReady.nil
                      go_simp
                      refine hK _ _ ?_
                      clear hK K
                      refine wpAny_ready (rs := [16]) (by kernel_rfl) (by simp) ?_
                      refine AllReady.cons rfl (fun K hK => ?_) AllReady.nil
                      go_simp
                      refine hK _ _ ?_
                      clear hK K
                      refine wpAny_done (by kernel_rfl) ?_ _
                      go_wp2
                      obtain ⟨d1, d2, d3, d4⟩ := push_done (hbY.trans (BY.mono (by omega))) q1 q2 hown1
                      go_roundg (gk - 1)
                      case measure => omega
                      case rel => exact ⟨k + 1, (ini ++ [(p, q)]) ++ [(e, f - 1)], _, by go_num, hk1, by omega, by (try simp); (try omega), by show Done _ _ _; rw [HN1.out]; exact HX.out, d1, d2, by rw [flatP_snoc, show ((ini ++ [(p, q)]) ++ [(e, f - 1)]).length = ini.length + 1 + 1 by simp]; exact d3, d4⟩
            · obtain ⟨n, hn⟩ : ∃ n, es.length = n + 1 := ⟨es.length - 1, by omega⟩
              obtain rfl : k = n := by omega
              have hl := HE.out.last
              have hlk : es[k]?.getD 0 = 1112192 := by rw [← hl]; simp [hn]
              have hX := HDn.out
              rw [hlk] at hX
              have HX := Lib.hid hX
              have q3 := (hb.cell (p := ⟨w.heap.size + 1 + 1, 0, none⟩) h3V).trans y3
              have q4 := (hb.frozen (p := ⟨w.heap.size + 1 + 1, 0, none⟩) h3V).trans y4
              have HZ := Lib.hid (hbV.setCell (p := ⟨w.heap.size + 1 + 1, 0, none⟩) (by show w.heap.size ≤ w.heap.size + 1 + 1; omega) v)
              have HY := Lib.hid (Prs.of_owns (ownsRow_setCell_below hown.out (a := ⟨w.heap.size + 1 + 1, 0, none⟩) (by show w.heap.size + 1 + 1 < V.heap.size + 1; omega) v))
              have q5 := World.cell?_setCell_same wr ⟨w.heap.size + 1 + 1, 0, none⟩ v q3
              have hlt2 : (es.length : Int) ≤ (k : Int) + 1 := by omega
              obtain ⟨av, cv, rfl⟩ := owns_slice hown.out
              clear hX hlk hl hn HDn HDa HDb hown HPA HPB HNA HNB HC
              go_wp2
              refine bodyPost_ret (v := .agg #[.slice av out.length cv]) (by simp [results, Tryz.results72, go_sem, q5]) rfl ?_
              exact ⟨_, out, rfl, HY.out, HX.out, HZ.out⟩
end Go.Proofs.YtmbjjheaddhmeaaGreatDoor
