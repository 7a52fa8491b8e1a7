/- tidy. -/
import Derived.Test.YtmbjjheaddhmeaaGreatDoorM
import Derived.Test.YtmbjjheaddhmeaaGreatDoorSort
import Derived.BigRegion
import Derived.BigQuiet
import Derived.Deep.QuietTactic
import Derived.Deep.LoopGhost
import Derived.Deep.DeepCutAuto
import Derived.Deep.AppendLies
import Derived.Deep.RegionLaw
import Derived.Lib.Hide
namespace Go.Proofs.YtmbjjheaddhmeaaGreatDoor
open Go.RowKit

def mstep (out : List (Int × Int)) (x : Int × Int) : List (Int × Int) :=
  match out.getLast? with
  | some y => if x.1 ≤ nextP y.2 then out.dropLast ++ [(y.1, max y.2 x.2)] else out ++ [x]
  | none => out ++ [x]
def mergeF (l : List (Int × Int)) : List (Int × Int) := l.foldl mstep []

theorem mstep_nil (x : Int × Int) : mstep [] x = [x] := rfl
theorem mstep_snoc (out : List (Int × Int)) (y x : Int × Int) : mstep (out ++ [y]) x = if x.1 ≤ nextP y.2 then out ++ [(y.1, max y.2 x.2)] else out ++ [y] ++ [x] := by
  unfold mstep; simp
theorem take_step (l : List (Int × Int)) (i : Nat) (hi : i < l.length) : mergeF (l.take (i + 1)) = mstep (mergeF (l.take i)) (l[i]?.getD (0, 0)) := by
  unfold mergeF
  rw [List.take_succ_eq_append_getElem hi, List.foldl_append]
  simp [hi]
theorem merge_len (l : List (Int × Int)) : (mergeF l).length ≤ l.length := by
  unfold mergeF
  rw [show l.length = ([] : List (Int × Int)).length + l.length by simp]
  generalize ([] : List (Int × Int)) = o
  induction l generalizing o with
  | nil => simp
  | cons x l ih =>
    refine Nat.le_trans (ih (mstep o x)) ?_
    have : (mstep o x).length ≤ o.length + 1 := by
      rcases List.eq_nil_or_concat o with rfl | ⟨o', y, rfl⟩
      · simp [mstep_nil]
      · rw [List.concat_eq_append, mstep_snoc]; split <;> simp
    simp; omega

theorem flat_set_last (ini : List (Int × Int)) (r s M : Int) : (flat (ini ++ [(r, s)])).set (ini.length * 2 + 1) (.int .i32 M) = flat (ini ++ [(r, M)]) := by
  rw [flat_snoc, flat_snoc, List.set_append_right _ _ (by rw [flat_length]; omega), flat_length]
  congr 1
  rw [show ini.length * 2 + 1 - ini.length * 2 = 1 by omega]
  rfl

theorem Tryz.infoSpanT : (Tryz.prog.info? 39).map (fun i => (i.zero, i.size, i.bytes)) = some (some (.agg #[.int .i32 0, .int .i32 0]), 2, 8) := by kernel_rfl

/-- The ends stay among the points' numbers. -/
theorem mstep_bd {out : List (Int × Int)} {x : Int × Int} (h : Bd out) (hx : 0 ≤ x.1 ∧ x.1 ≤ 1114367 ∧ 0 ≤ x.2 ∧ x.2 ≤ 1114367) : Bd (mstep out x) := by
  rcases List.eq_nil_or_concat out with rfl | ⟨o', y, rfl⟩
  · rw [mstep_nil]; intro z hz; simp at hz; subst hz; exact hx
  · rw [List.concat_eq_append] at h ⊢
    have hy := h y (by simp)
    rw [mstep_snoc]
    split
    · intro z hz
      simp only [List.mem_append, List.mem_singleton] at hz
      rcases hz with hz | rfl
      · exact h z (by simp [hz])
      · dsimp only; omega
    · intro z hz
      simp only [List.mem_append, List.mem_singleton] at hz
      rcases hz with (hz | rfl) | rfl
      · exact h z (by simp [hz])
      · exact hy
      · exact hx
theorem mergeF_bd (l : List (Int × Int)) (h : Bd l) : Bd (mergeF l) := by
  unfold mergeF
  have : Bd ([] : List (Int × Int)) := by intro z hz; simp at hz
  revert this
  generalize ([] : List (Int × Int)) = o
  intro ho
  induction l generalizing o with
  | nil => exact ho
  | cons x l ih => exact ih (fun y hy => h y (by simp [hy])) _ (mstep_bd ho (h x (by simp)))

/-- A set whose memory has been made behind a place. -/
def IsOwn (w : World) (base : Nat) (p : Value) (l : List (Int × Int)) : Prop :=
  ∃ b v, p = .pointer (some ⟨b, 0, none⟩) ∧ base ≤ b ∧ w.cell? ⟨b, 0, none⟩ = some v ∧ w.ownsRow base 39 2 v l.length (flat l)
theorem IsOwn.isSet {w : World} {base : Nat} {p : Value} {l : List (Int × Int)} (h : IsOwn w base p l) : IsSet w p l := by
  obtain ⟨b, v, h1, _, h3, h4⟩ := h; exact ⟨b, v, h1, h3, Spans.of_owns h4⟩
theorem ownsRow_low {w : World} {base b2 : Nat} {e : TypeId} {size : Nat} {v : Value} {n : Nat} {xs : List Value} (h : w.ownsRow base e size v n xs) (hb : b2 ≤ base) : w.ownsRow b2 e size v n xs :=
  ⟨h.1, h.2.imp id fun ⟨g, cap, cur, h1, h2, h3⟩ => ⟨g, cap, cur, h1, Nat.le_trans hb h2, h3⟩⟩
theorem IsOwn.low {w : World} {base b2 : Nat} {p : Value} {l : List (Int × Int)} (h : IsOwn w base p l) (hb : b2 ≤ base) : IsOwn w b2 p l := by
  obtain ⟨b, v, h1, h2, h3, h4⟩ := h; exact ⟨b, v, h1, Nat.le_trans hb h2, h3, ownsRow_low h4 hb⟩

set_option maxRecDepth 100000 in
set_option maxHeartbeats 4000000 in
theorem tidy_own (v : Value) (l : List (Int × Int)) (base : Nat) (w : World) (hbd : Bd l) (hown : w.ownsRow base 39 2 v l.length (flat l)) (hbase : base ≤ w.heap.size) (hl : l.length ≤ 1000000) :
    Calls Tryz.prog 32 #[v] w fun e w' => ∃ p l', e = .returned p ∧ l'.Perm l ∧ l'.Pairwise (fun a b : Int × Int => a.1 ≤ b.1) ∧ IsOwn w' base p (mergeF l') ∧ Below base w w' := by
  obtain ⟨i0, hi0, hz0, hz1, hz2⟩ := info_parts Tryz.infoSpanT
  have hsort := sort_any v l base w hbd hown hbase hl
  obtain ⟨a, c, rfl⟩ : ∃ a c, v = .slice a l.length c := by
    rcases hown.2 with ⟨rfl, h⟩ | ⟨g, cap, cur, rfl, _⟩
    · exact ⟨_, _, by rw [h]⟩
    · exact ⟨_, _, rfl⟩
  go_enter Tryz.func32, Tryz.ntmps32
  go_wp2_with fail
  refine hsort.mono ?_
  clear hsort hown
  rintro e ws ⟨rfl, l', hp, hs, hown, hb1⟩
  have hlen : l'.length = l.length := hp.length_eq
  have hbd' : Hid (Bd l') := fun x hx => hbd x (hp.subset hx)
  have hSp : Hid (Spans ws (.slice a l.length c) l') := by
    rw [← hlen]; rw [← hlen] at hown; exact Spans.of_owns hown
  have HL := Lib.hid hlen
  have HP := Lib.hid hp
  have HS := Lib.hid hs
  clear hlen hp hs hown hbd
  go_wp2
  go_loopg [13] l.length (fun g i wr => ∃ (i0 : Nat) (v : Value), i = .int .i64 i0 ∧ i0 ≤ l.length ∧ l.length - i0 ≤ g ∧
      wr.cell? ⟨ws.heap.size, 0, none⟩ = some v ∧ wr.frozen? ⟨ws.heap.size, 0, none⟩ = false ∧ Hid (wr.ownsRow (ws.heap.size + 1) 39 2 v (mergeF (l'.take i0)).length (flat (mergeF (l'.take i0)))) ∧ Below ws.heap.size ws wr)
  case atStart => exact ⟨0, .slice none 0 0, rfl, by omega, by omega, by simp, by simp, World.ownsRow_nil _ _ _ _, (Below.refl _ _).alloc (Nat.le_refl _) _⟩
  case round =>
    obtain ⟨i, v, rfl, hi, hg, hc, hf, hown, hb⟩ := hrel
    have y6 : ws.heap.size < wr.heap.size := cell_lt hc
    have y6' : ws.heap.size < wr.heap.size + 1 := by omega
    by_cases hil : i < l.length
    · have hil2 : i < l'.length := by rw [HL.out]; exact hil
      have hmb : Bd (mergeF (l'.take i)) := mergeF_bd _ (fun x hx => hbd'.out x (List.mem_of_mem_take hx))
      have hml : (mergeF (l'.take i)).length ≤ i := Nat.le_trans (merge_len _) (List.length_take_le _ _)
      have HST : Hid (mergeF (l'.take (i + 1)) = mstep (mergeF (l'.take i)) (l'[i]?.getD (0, 0))) := take_step l' i hil2
      obtain ⟨a0, c0, hac, hA⟩ := hSp.out
      rw [HL.out] at hac
      cases hac
      rcases hA with h | ⟨ba, oa, rfl, hA⟩
      · subst h; simp at hil2
      obtain ⟨a1, a2⟩ := hA i hil2
      obtain ⟨b1, b2, b3, b4⟩ := hbd'.out.get i hil2
      generalize l'[i]?.getD (0, 0) = xa at *
      obtain ⟨p, q⟩ := xa
      have a1' := (hb.cell (p := ⟨ba, oa + i * 2, none⟩) (cell_lt a1)).trans a1
      have a2' := (hb.cell (p := ⟨ba, oa + i * 2 + 1, none⟩) (cell_lt a2)).trans a2
      dsimp only at a1' a2' b1 b2 b3 b4
      have hil' : (i : Int) < (l.length : Int) := by omega
      clear a1 a2 hA hil2
      generalize mergeF (l'.take i) = out at *
      rcases List.eq_nil_or_concat out with rfl | ⟨ini, ⟨r, s⟩, rfl⟩
      · -- nothing yet
        obtain ⟨av, cv, rfl⟩ : ∃ av cv, v = .slice av 0 cv := by
          rcases hown.out.2 with ⟨rfl, h⟩ | ⟨g, cap, cur, rfl, _⟩
          · exact ⟨_, _, rfl⟩
          · exact ⟨_, _, rfl⟩
        have hvb := Lib.hid hown.out.lt
        go_wp2
        go_quiet (fail)
        go_wp2
        have nB : ([] : List (Int × Int)).length + 1 ≤ maxLen := by unfold maxLen; simp
        have nB' : (([] : List (Int × Int)).length + 1) * 8 ≤ 140737488355328 := by simp
        have nC : ws.heap.size + 1 ≤ wr.heap.size := y6
        have BX : Below (ws.heap.size + 1) wr (((wr.alloc (.cells #[.int .i32 p, .int .i32 q] 39)).alloc (.cells #[.int .i32 p, .int .i32 q] 39)).drewN nq).drew := (below_drewN (((Below.refl _ wr).alloc nC _).alloc (by simp; omega) _) nq).drew
        have BXw : Below wr.heap.size wr (((wr.alloc (.cells #[.int .i32 p, .int .i32 q] 39)).alloc (.cells #[.int .i32 p, .int .i32 q] 39)).drewN nq).drew := (below_drewN (((Below.refl _ wr).alloc (Nat.le_refl _) _).alloc (by simp) _) nq).drew
        go_region_law ((refine step_append_lies _ ?_ (.tmp 63) (.tmp 65) 22 ?_ (ws.heap.size + 1) 39 i0 (.agg #[.int .i32 0, .int .i32 0]) 2 8 Tryz.underlying22 hi0 hz0 hz1 hz2 ?_ ?_ (.slice av 0 cv) (([] : List (Int × Int)).length) (flat ([] : List (Int × Int))) ?_ ?_ ⟨wr.heap.size + 1, 0, none⟩ 1 1 [.int .i32 p, .int .i32 q] ?_ ?_ ?_ ?_ ?_ ?_ ?_ ?_ (wr.heap.size + 2) ?_ ?_; (· rfl); (· rfl); (· rfl); (· decide); (· rfl); (· exact ownsRow_below BXw hown.out); (· rfl); (· rfl); (· refine World.news_of_block (cs := #[.int .i32 p, .int .i32 q]) (t := 39) (fr := (0, 0)) ?_; rw [← World.size_alloc wr (.cells #[.int .i32 p, .int .i32 q] 39)]; exact heap_alloc_new (wr.alloc _) _); (· simp [Value.oneCell']); (· decide); (· exact nB); (· exact nB'); (· first | (simp; omega) | omega); (· first | (with_reducible rfl) | simp); intro g cap w1 hown1 hgrow hat hlt; have BY := BX.grown hgrow (by simp; omega) (fun k hk => (hvb.out k hk).1); have e1 := (BY.cell (p := ⟨ws.heap.size, 0, none⟩) (Nat.lt_succ_self _)).trans hc; have e2 := (BY.frozen (p := ⟨ws.heap.size, 0, none⟩) (Nat.lt_succ_self _)).trans hf))
        all_goals
          go_wp2
          obtain ⟨f1, f2, f3, f4⟩ := push_done (hb.trans (BY.mono (by omega))) e1 e2 hown1
          go_roundg (gk - 1)
          case measure => omega
          case rel => exact ⟨i + 1, _, by go_num, by omega, by omega, f1, f2, by rw [HST.out, mstep_nil]; exact f3, f4⟩
      · rw [List.concat_eq_append] at hmb hml hown HST
        have hs4 := hmb (r, s) (by simp)
        rw [show (ini ++ [(r, s)]).length = ini.length + 1 by simp] at hown hml
        obtain ⟨g0, cap0, rfl, hg0, hg0'⟩ := World.ownsRow.form hown.out (by simp)
        have hvb := Lib.hid hown.out.lt
        have e5 := flat_get (ini ++ [(r, s)]) ini.length (by simp)
        have c5 := World.ownsRow.cellAt hown.out (ini.length * 2) (by omega)
        have c6 := World.ownsRow.cellAt hown.out (ini.length * 2 + 1) (by omega)
        rw [e5.1] at c5
        rw [e5.2] at c6
        have c7 := World.ownsRow.frozenAt hown.out (ini.length * 2 + 1)
        simp only [List.getElem?_concat_length, Option.getD_some] at c5 c6
        have hnx := fun W => (next_any s (by omega) (by omega) W).mono (R' := fun e w' => e = .returned (.int .i32 (nextP s)) ∧ w' = W) (fun e w' h => ⟨h.1, h.2.symm⟩)
        have MS0 := Lib.hid (mstep_snoc ini (r, s) (p, q))
        generalize hNS : nextP s = NS at hnx
        have HNS := Lib.hid hNS
        have z7 : g0 < wr.heap.size + 1 := by omega
        have hne : g0 ≠ ws.heap.size := by omega
        have hk0 : ini.length + 1 ≤ 1000000 := by omega
        have hw0 : IntKind.i64.wrap (ini.length : Int) = (ini.length : Int) := IntWalk.i64_in _ (by omega)
        have hw1 : (ini.length : Int) < (ini.length : Int) + 1 := by omega
        have hw2 : (0 : Int) ≤ (ini.length : Int) := by omega
        clear e5 hNS hs4 hmb
        by_cases hle : p ≤ NS
        · go_wp2
          go_quiet ((go_at_call 74; exact Calls.quiet_of_same (hnx _)))
          go_wp2
          have c5' : (wr.alloc (.cells #[.int .i32 p, .int .i32 q] 39)).cell? ⟨g0, ini.length * 2, none⟩ = some (.int .i32 r) := by rw [World.cell?_alloc_lt _ _ _ hg0']; exact c5
          obtain ⟨M, hM⟩ : ∃ M, (if s < q then q else s) = M := ⟨_, rfl⟩
          go_region
          all_goals go_wp2
          go_roundg (gk - 1)
          case measure => omega
          case rel =>
            have BW : Below wr.heap.size wr ((wr.alloc (.cells #[.int .i32 p, .int .i32 q] 39)).drewN (nq + 1)) := below_drewN ((Below.refl _ wr).alloc (Nat.le_refl _) _) _
            have f3 := (World.ownsRow.stored (ownsRow_below BW hown.out) (ini.length * 2 + 1) (.int .i32 (max s q))).1
            rw [flat_set_last] at f3
            refine ⟨i + 1, .slice (some ⟨g0, 0, none⟩) (ini.length + 1) cap0, by go_num, by omega, by omega, ?_, ?_, ?_, ?_⟩
            · exact (World.cell?_setCell_other _ _ _ _ (by intro e; injection e with e1 e2; exact hne e1)).trans ((BW.cell (p := ⟨ws.heap.size, 0, none⟩) y6).trans hc)
            · rw [World.frozen?_setCell]; exact (BW.frozen (p := ⟨ws.heap.size, 0, none⟩) y6).trans hf
            · have e9 := MS0.out
              rw [HNS.out, if_pos hle] at e9
              rw [HST.out, e9, show (ini ++ [(r, max s q)]).length = ini.length + 1 by simp]
              exact f3
            · exact (hb.trans (BW.mono (by omega))).setCell (by show ws.heap.size ≤ g0; omega) _
        · have MS : Hid (mstep (ini ++ [(r, s)]) (p, q) = (ini ++ [(r, s)]) ++ [(p, q)]) := by have := MS0.out; dsimp only at this; rw [HNS.out, if_neg hle] at this; exact this
          go_wp2
          go_quiet ((go_at_call 74; exact Calls.quiet_of_same (hnx _)))
          go_wp2
          have nB : ini.length + 1 + 1 ≤ maxLen := by unfold maxLen; omega
          have nB' : (ini.length + 1 + 1) * 8 ≤ 140737488355328 := by omega
          have nC : ws.heap.size + 1 ≤ wr.heap.size := y6
          have BX : Below (ws.heap.size + 1) wr (((wr.alloc (.cells #[.int .i32 p, .int .i32 q] 39)).alloc (.cells #[.int .i32 p, .int .i32 q] 39)).drewN nq).drew := (below_drewN (((Below.refl _ wr).alloc nC _).alloc (by simp; omega) _) nq).drew
          have BXw : Below wr.heap.size wr (((wr.alloc (.cells #[.int .i32 p, .int .i32 q] 39)).alloc (.cells #[.int .i32 p, .int .i32 q] 39)).drewN nq).drew := (below_drewN (((Below.refl _ wr).alloc (Nat.le_refl _) _).alloc (by simp) _) nq).drew
          go_region_law ((refine step_append_lies _ ?_ (.tmp 63) (.tmp 65) 22 ?_ (ws.heap.size + 1) 39 i0 (.agg #[.int .i32 0, .int .i32 0]) 2 8 Tryz.underlying22 hi0 hz0 hz1 hz2 ?_ ?_ (.slice (some ⟨g0, 0, none⟩) (ini.length + 1) cap0) (ini.length + 1) (flat (ini ++ [(r, s)])) ?_ ?_ ⟨wr.heap.size + 1, 0, none⟩ 1 1 [.int .i32 p, .int .i32 q] ?_ ?_ ?_ ?_ ?_ ?_ ?_ ?_ (wr.heap.size + 2) ?_ ?_; (· rfl); (· rfl); (· rfl); (· decide); (· rfl); (· exact ownsRow_below BXw hown.out); (· rfl); (· rfl); (· refine World.news_of_block (cs := #[.int .i32 p, .int .i32 q]) (t := 39) (fr := (0, 0)) ?_; rw [← World.size_alloc wr (.cells #[.int .i32 p, .int .i32 q] 39)]; exact heap_alloc_new (wr.alloc _) _); (· simp [Value.oneCell']); (· decide); (· exact nB); (· exact nB'); (· first | (simp; omega) | omega); (· first | (with_reducible rfl) | simp); intro g cap w1 hown1 hgrow hat hlt; have BY := BX.grown hgrow (by simp; omega) (fun k hk => (hvb.out k hk).1); have e1 := (BY.cell (p := ⟨ws.heap.size, 0, none⟩) (Nat.lt_succ_self _)).trans hc; have e2 := (BY.frozen (p := ⟨ws.heap.size, 0, none⟩) (Nat.lt_succ_self _)).trans hf))
          all_goals
            go_wp2
            obtain ⟨f1, f2, f3, f4⟩ := push_done (hb.trans (BY.mono (by omega))) e1 e2 hown1
            go_roundg (gk - 1)
            case measure => omega
            case rel => exact ⟨i + 1, _, by go_num, by omega, by omega, f1, f2, by rw [HST.out, MS.out, flat_snoc, show (ini ++ [(r, s)] ++ [(p, q)]).length = ini.length + 1 + 1 by simp]; exact f3, f4⟩
    · obtain rfl : i = l.length := by omega
      have e1 : mergeF (l'.take l.length) = mergeF l' := by rw [← HL.out, List.take_length]
      have hN := hown.out
      rw [e1] at hN
      have HN := Lib.hid hN
      clear hN e1 hown
      go_wp2
      go_ret
      exact ⟨_, l', rfl, HP.out, HS.out, ⟨_, v, rfl, Nat.le_trans hbase hb1.size, hc, ownsRow_low HN.out (Nat.le_succ_of_le (Nat.le_trans hbase hb1.size))⟩, hb1.trans (hb.mono (Nat.le_trans hbase hb1.size))⟩

theorem tidy_any (v : Value) (l : List (Int × Int)) (base : Nat) (w : World) (hbd : Bd l) (hown : w.ownsRow base 39 2 v l.length (flat l)) (hbase : base ≤ w.heap.size) (hl : l.length ≤ 1000000) :
    Calls Tryz.prog 32 #[v] w fun e w' => ∃ p l', e = .returned p ∧ l'.Perm l ∧ l'.Pairwise (fun a b : Int × Int => a.1 ≤ b.1) ∧ IsSet w' p (mergeF l') ∧ Below base w w' :=
  (tidy_own v l base w hbd hown hbase hl).mono fun _ _ ⟨p, l', h1, h2, h3, h4, h5⟩ => ⟨p, l', h1, h2, h3, h4.isSet, h5⟩
end Go.Proofs.YtmbjjheaddhmeaaGreatDoor
