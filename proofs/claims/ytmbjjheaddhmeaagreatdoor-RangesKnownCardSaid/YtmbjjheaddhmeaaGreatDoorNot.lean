/- (*Set).Not. -/
import Derived.Test.YtmbjjheaddhmeaaGreatDoorM
import Derived.BigRegion
import Derived.Deep.LoopGhost
import Derived.Deep.DeepCutAuto
import Derived.Deep.AppendLies
import Derived.Deep.RegionLaw
import Derived.Lib.Hide
namespace Go.Proofs.YtmbjjheaddhmeaaGreatDoor
open Go.RowKit

def notF (f : Int) : List (Int × Int) → List (Int × Int)
  | [] => if f ≤ 1114367 then [(f, 1114367)] else []
  | x :: l => (if f < x.1 then [(f, lastP x.1)] else []) ++ notF (nextP x.2) l

theorem notF_step (l : List (Int × Int)) (i : Nat) (hi : i < l.length) (a : Int × Int) (ha : l[i]?.getD (0, 0) = a) (f : Int) :
    notF f (l.drop i) = (if f < a.1 then [(f, lastP a.1)] else []) ++ notF (nextP a.2) (l.drop (i + 1)) := by
  have : l.drop i = a :: l.drop (i + 1) := by rw [List.drop_eq_getElem_cons hi, ← ha]; simp [hi]
  rw [this, notF]

theorem Tryz.infoSpanN : (Tryz.prog.info? 39).map (fun i => (i.zero, i.size, i.bytes)) = some (some (.agg #[.int .i32 0, .int .i32 0]), 2, 8) := by kernel_rfl

/-- The spans' ends lie among the points' numbers. -/
def Bd (l : List (Int × Int)) : Prop := ∀ x ∈ l, 0 ≤ x.1 ∧ x.1 ≤ 1114367 ∧ 0 ≤ x.2 ∧ x.2 ≤ 1114367
theorem Bd.get {l : List (Int × Int)} (h : Bd l) (i : Nat) (hi : i < l.length) : 0 ≤ (l[i]?.getD (0, 0)).1 ∧ (l[i]?.getD (0, 0)).1 ≤ 1114367 ∧ 0 ≤ (l[i]?.getD (0, 0)).2 ∧ (l[i]?.getD (0, 0)).2 ≤ 1114367 := by
  have := h l[i] (List.getElem_mem hi)
  simpa [hi] using this

set_option maxRecDepth 100000 in
set_option maxHeartbeats 2000000 in
theorem not_walk (pa : Nat) (l : List (Int × Int)) (w : World) (aa : Option Addr) (ca : Nat)
    (h1 : w.cell? ⟨pa, 0, none⟩ = some (.slice aa l.length ca))
    (hA : l = [] ∨ ∃ b off, aa = some ⟨b, off, none⟩ ∧ ∀ j, j < l.length → w.cell? ⟨b, off + j * 2, none⟩ = some (.int .i32 (l[j]?.getD (0, 0)).1) ∧ w.cell? ⟨b, off + j * 2 + 1, none⟩ = some (.int .i32 (l[j]?.getD (0, 0)).2))
    (hl : l.length ≤ 100000) (hbd : Bd l) :
    Calls Tryz.prog 24 #[.pointer (some ⟨pa, 0, none⟩)] w fun e w' => ∃ v, e = .returned v ∧ IsSet w' v (notF 0 l) ∧ Below w.heap.size w w' := by
  obtain ⟨i0, hi0, hz0, hz1, hz2⟩ := info_parts Tryz.infoSpanN
  have z0 : pa < w.heap.size := cell_lt h1
  have HBD := Lib.hid hbd
  clear hbd
  go_enter Tryz.func24, Tryz.ntmps24
  go_wp2
  go_loopg [4, 14] l.length (fun g f i wr => ∃ (f0 : Int) (i0 : Nat) (v : Value) (out : List (Int × Int)), f = .int .i32 f0 ∧ i = .int .i64 i0 ∧ i0 ≤ l.length ∧ l.length - i0 ≤ g ∧ out.length ≤ i0 ∧ Hid (out ++ notF f0 (l.drop i0) = notF 0 l) ∧
      wr.cell? ⟨w.heap.size, 0, none⟩ = some v ∧ wr.frozen? ⟨w.heap.size, 0, none⟩ = false ∧ Hid (wr.ownsRow (w.heap.size + 1) 39 2 v out.length (flat out)) ∧ Below w.heap.size w wr)
  case atStart => exact ⟨0, 0, .slice none 0 0, [], rfl, rfl, by omega, by omega, by simp, by simp [Hid], by simp, by simp, World.ownsRow_nil _ _ _ _, (Below.refl _ _).alloc (Nat.le_refl _) _⟩
  case round =>
    obtain ⟨f, i, v, out, rfl, rfl, hi, hg, ho, HO, hc, hf, hown, hb⟩ := hrel
    have hvb := Lib.hid hown.out.lt
    have y6 : w.heap.size < wr.heap.size := cell_lt hc
    have y6' : w.heap.size < wr.heap.size + 1 := by omega
    by_cases hil : i < l.length
    · rcases hA with h | ⟨ba, oa, rfl, hA⟩
      · subst h; simp at hil
      obtain ⟨a1, a2⟩ := hA i hil
      have hst := fun f => notF_step l i hil _ rfl f
      obtain ⟨b1, b2, b3, b4⟩ := HBD.out.get i hil
      generalize l[i]?.getD (0, 0) = xa at *
      obtain ⟨p, q⟩ := xa
      have HST := Lib.hid hst
      have a1' := (hb.cell (p := ⟨ba, oa + i * 2, none⟩) (cell_lt a1)).trans a1
      have a2' := (hb.cell (p := ⟨ba, oa + i * 2 + 1, none⟩) (cell_lt a2)).trans a2
      dsimp only at a1' a2' b1 b2 b3 b4
      clear a1 a2 h1 hA hst
      have hil' : (i : Int) < (l.length : Int) := by omega
      go_upto_if 21 with (fail)
      go_cut [3, 6] (fun s3 s6 wx => ∃ (v' : Value) (out' : List (Int × Int)), s3 = .pointer (some ⟨w.heap.size, 0, none⟩) ∧ s6 = .pointer (some ⟨wr.heap.size, 0, none⟩) ∧ wx.cell? ⟨w.heap.size, 0, none⟩ = some v' ∧ wx.frozen? ⟨w.heap.size, 0, none⟩ = false ∧ Hid (wx.ownsRow (w.heap.size + 1) 39 2 v' out'.length (flat out')) ∧ Below w.heap.size w wx ∧
            Hid (out' = out ++ (if f < p then [(f, lastP p)] else [])) ∧ out'.length ≤ out.length + 1 ∧ wx.cell? ⟨wr.heap.size, 1, none⟩ = some (.int .i32 q))
      case first =>
        go_wp2
        · have nB : out.length + 1 ≤ maxLen := by unfold maxLen; omega
          have nB' : (out.length + 1) * 8 ≤ 140737488355328 := by omega
          have nC : w.heap.size + 1 ≤ wr.heap.size := y6
          have BX : Below (w.heap.size + 1) wr ((wr.alloc (.cells #[.int .i32 p, .int .i32 q] 39)).alloc (.cells #[.int .i32 f, .int .i32 (lastP p)] 39)).drew := (((Below.refl _ wr).alloc nC _).alloc (by simp; omega) _).drew
          go_region_law ((first | (refine step_append_lies _ ?_ (.tmp 26) (.tmp 32) 22 ?_ (w.heap.size + 1) 39 i0 (.agg #[.int .i32 0, .int .i32 0]) 2 8 Tryz.underlying22 hi0 hz0 hz1 hz2 ?_ ?_ (v) (out.length) (flat out) ?_ ?_ ⟨wr.heap.size + 1, 0, none⟩ 1 1 [.int .i32 f, .int .i32 (lastP p)] ?_ ?_ ?_ ?_ ?_ ?_ ?_ ?_ (wr.heap.size + 2) ?_ ?_; (· rfl); (· rfl); (· rfl); (· decide); (· rfl); (· exact ((hown.out.alloc _).alloc _).drew); (· rfl); (· rfl); (· refine World.news_of_block (cs := #[.int .i32 f, .int .i32 (lastP p)]) (t := 39) (fr := (0, 0)) ?_; rw [← World.size_alloc wr (.cells #[.int .i32 p, .int .i32 q] 39)]; exact heap_alloc_new _ _); (· simp [Value.oneCell']); (· decide); (· exact nB); (· exact nB'); (· first | (simp; omega) | omega); (· first | (with_reducible rfl) | simp); intro g cap w1 hown1 hgrow hat hlt; have BY := BX.grown hgrow (by simp; omega) (fun k hk => (hvb.out k hk).1); have e1 := (BY.cell (p := ⟨w.heap.size, 0, none⟩) (Nat.lt_succ_self _)).trans hc; have e2 := (BY.frozen (p := ⟨w.heap.size, 0, none⟩) (Nat.lt_succ_self _)).trans hf) | (go_simp; go_at_call 73; refine (last_any p (by omega) (by omega) _).mono ?_; rintro e w' ⟨rfl, rfl⟩)))
          all_goals (go_wp2_with fail; go_meet)
          all_goals
            obtain ⟨f1, f2, f3, f4⟩ := push_done (hb.trans (BY.mono (by omega))) e1 e2 hown1
            have k8 := (hgrow.cell_far ⟨wr.heap.size, 1, none⟩ (by simp; omega) (fun h => by have := (hvb.out _ h.symm).2; simp at this)).trans (show _ = some (.int .i32 q) by simp [go_sem])
            exact ⟨_, out ++ [(f, lastP p)], rfl, rfl, f1, f2, by rw [flat_snoc, List.length_append]; exact f3, f4, by rw [if_pos ‹f < p›]; rfl, by simp, cell_set_other k8 (by omega)⟩
        · go_wp2_with fail
          go_meet
          have BA := (Below.refl wr.heap.size wr).alloc (Nat.le_refl _) (.cells #[.int .i32 p, .int .i32 q] 39)
          exact ⟨v, out, rfl, rfl, (BA.cell (p := ⟨w.heap.size, 0, none⟩) y6).trans hc, (BA.frozen (p := ⟨w.heap.size, 0, none⟩) y6).trans hf, (hown.out.alloc _), hb.trans ((Below.refl _ _).alloc (by omega) _), by rw [if_neg (by omega)]; simp [Hid], by omega, by simp⟩
      case rest =>
        obtain ⟨v', out', rfl, rfl, d1, d2, d3, d4, D5, d6, d7⟩ := hcut
        go_wp2_with (go_at_call 74; refine (next_any _ (by omega) (by omega) _).mono ?_; rintro e w' ⟨rfl, rfl⟩)
        go_roundg (gk - 1)
        case measure => omega
        case rel => exact ⟨nextP q, i + 1, v', out', rfl, by go_num, by omega, by omega, by omega, by have h1 := HO.out; have h2 := D5.out; have h3 := HST.out f; rw [h3] at h1; rw [h2, List.append_assoc]; exact h1, d1, d2, d3, d4⟩
    · obtain rfl : i = l.length := by omega
      have hO := Lib.hid HO.out
      have nB : out.length + 1 ≤ maxLen := by unfold maxLen; omega
      have nB' : (out.length + 1) * 8 ≤ 140737488355328 := by omega
      have nC : w.heap.size + 1 ≤ wr.heap.size := y6
      have BX : Below (w.heap.size + 1) wr (wr.alloc (.cells #[.int .i32 f, .int .i32 1114367] 39)) := (Below.refl _ wr).alloc nC _
      go_wp2_with (at_builtin; refine wpList_append_lies _ ?_ (.tmp 46) (.tmp 49) 22 ?_ (w.heap.size + 1) 39 i0 (.agg #[.int .i32 0, .int .i32 0]) 2 8 Tryz.underlying22 hi0 hz0 hz1 hz2 ?_ ?_ (v) (out.length) (flat out) ?_ ?_ ⟨wr.heap.size, 0, none⟩ 1 1 [.int .i32 f, .int .i32 1114367] ?_ ?_ ?_ ?_ ?_ ?_ ?_ ?_ (wr.heap.size + 1) ?_ ?_; (· rfl); (· rfl); (· rfl); (· decide); (· rfl); (· exact hown.out.alloc _); (· rfl); (· rfl); (· exact World.news_of_block (cs := #[.int .i32 f, .int .i32 1114367]) (t := 39) (fr := (0, 0)) (heap_alloc_new _ _)); (· simp [Value.oneCell']); (· decide); (· exact nB); (· exact nB'); (· first | (simp; omega) | omega); (· first | (with_reducible rfl) | simp); intro g cap w1 hown1 hgrow hat hlt; have BY := BX.grown hgrow (by simp; omega) (fun k hk => (hvb.out k hk).1); have e1 := (BY.cell (p := ⟨w.heap.size, 0, none⟩) (Nat.lt_succ_self _)).trans hc; have e2 := (BY.frozen (p := ⟨w.heap.size, 0, none⟩) (Nat.lt_succ_self _)).trans hf)
      · have hle : f ≤ 1114367 := by assumption
        obtain ⟨f1, f2, f3, f4⟩ := push_done (hb.trans (BY.mono (by omega))) e1 e2 hown1
        have e3 := hO.out
        rw [List.drop_length, notF, if_pos hle] at e3
        go_ret
        refine ⟨_, rfl, ⟨_, _, rfl, f1, Spans.of_owns (base := w.heap.size + 1) (e := 39) (l := notF 0 l) ?_⟩, f4⟩
        rw [← e3, flat_snoc, List.length_append]
        exact f3
      · have hle : ¬ f ≤ 1114367 := by omega
        have e3 := hO.out
        rw [List.drop_length, notF, if_neg hle, List.append_nil] at e3
        subst e3
        go_ret
        exact ⟨_, rfl, ⟨_, v, rfl, hc, Spans.of_owns hown.out⟩, hb⟩

theorem not_any (p : Value) (l : List (Int × Int)) (w : World) (hp : IsSet w p l) (hl : l.length ≤ 100000) (hbd : Bd l) :
    Calls Tryz.prog 24 #[p] w fun e w' => ∃ v, e = .returned v ∧ IsSet w' v (notF 0 l) ∧ Below w.heap.size w w' := by
  obtain ⟨pa, va, rfl, h1, a, ca, rfl, hA⟩ := hp
  exact not_walk pa l w a ca h1 hA hl hbd

end Go.Proofs.YtmbjjheaddhmeaaGreatDoor
