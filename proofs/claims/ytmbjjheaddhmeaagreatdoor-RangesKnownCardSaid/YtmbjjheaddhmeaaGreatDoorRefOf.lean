/- The document's Of. -/
import Derived.Test.YtmbjjheaddhmeaaGreatDoorRefPrint
import Derived.Test.YtmbjjheaddhmeaaGreatDoorDbOk
import Derived.Deep.LoopGhost
namespace Go.Proofs.YtmbjjheaddhmeaaGreatDoor
open Go.RowKit

def ROfPost (l : List (Int × Int)) (w : World) (e : Ending) (w' : World) : Prop :=
  ((∃ k, k < l.length ∧ (∀ j, j < k → ofNo (gtS l j) = 0) ∧ ofNo (gtS l k) ≠ 0 ∧ e = .returned (.tuple #[.agg #[.slice none 0 0], .int .i64 (ofNo (gtS l k)), .int .i64 k])) ∨
  ((∀ j, j < l.length → ofNo (gtS l j) = 0) ∧ ∃ a n c, e = .returned (.tuple #[.agg #[.slice a n c], .int .i64 0, .int .i64 0]) ∧ RRep w' (.agg #[.slice a n c]) (fun r => memB r (l.map nm)))) ∧ Below w.heap.size w w'

theorem one_row {w : World} {B : Nat} {p q : Int} (h0 : w.cell? ⟨B, 0, none⟩ = some (.int .i64 p)) (h1 : w.cell? ⟨B, 1, none⟩ = some (.int .i64 q)) (c : Nat) : Prs w (.slice (some ⟨B, 0, none⟩) 1 c) [(p, q)] := by
  refine ⟨_, c, rfl, .inr ⟨B, 0, rfl, fun j hj => ?_⟩⟩
  obtain rfl : j = 0 := by simpa using hj
  exact ⟨h0, h1⟩
theorem cell_set_far {w1 : World} {B : Nat} {u v : Value} (h : w1.cell? ⟨B, 0, none⟩ = some u) : (w1.setCell ⟨B + 1, 0, none⟩ v).cell? ⟨B, 0, none⟩ = some u :=
  (World.cell?_setCell_other _ _ _ _ (by intro e; injection e with e _; omega)).trans h
theorem take_num (l : List (Int × Int)) (k : Nat) (hk : k < l.length) (r : Int) : memB r ((l.take (k + 1)).map nm) = or (memB r ((l.take k).map nm)) (memB r [nm (gtS l k)]) := by
  rw [List.take_succ_eq_append_getElem hk, List.map_append, memB_append, List.map_singleton, show l[k] = gtS l k by simp [gtS, hk]]

set_option maxRecDepth 100000 in
set_option maxHeartbeats 4000000 in
theorem rOf_any (v : Value) (l : List (Int × Int)) (w : World) (hv : Spans w v l) (hl : l.length ≤ 1000000) :
    Calls Tryz.prog 10 #[v] w (ROfPost l w) := by
  obtain ⟨a, c, rfl, hA⟩ := hv
  have b0 := ((Below.refl w.heap.size w).alloc (Nat.le_refl _) (.cells #[.slice none 0 0] 33)).alloc (by simp) (.cells #[.slice none 0 0] 33)
  have x1 : ((w.alloc (.cells #[.slice none 0 0] 33)).alloc (.cells #[.slice none 0 0] 33)).cell? ⟨w.heap.size, 0, none⟩ = some (.slice none 0 0) := by simp [go_sem]
  have x2 : ((w.alloc (.cells #[.slice none 0 0] 33)).alloc (.cells #[.slice none 0 0] 33)).cell? ⟨w.heap.size + 1, 0, none⟩ = some (.slice none 0 0) := by simp [go_sem]
  have x3 : ((w.alloc (.cells #[.slice none 0 0] 33)).alloc (.cells #[.slice none 0 0] 33)).frozen? ⟨w.heap.size, 0, none⟩ = false := by simp [go_sem]
  have x4 : ((w.alloc (.cells #[.slice none 0 0] 33)).alloc (.cells #[.slice none 0 0] 33)).frozen? ⟨w.heap.size + 1, 0, none⟩ = false := by simp [go_sem]
  go_enter Tryz.func10, Tryz.ntmps10
  go_wp2
  go_loopg [6] l.length (fun gk i wr => ∃ (k : Nat) (xa : Option Addr) (n xc : Nat), i = .int .i64 k ∧ k ≤ l.length ∧ l.length - k ≤ gk ∧ Hid (∀ j, j < k → ofNo (gtS l j) = 0) ∧ Hid (RRep wr (.agg #[.slice xa n xc]) (fun r => memB r ((l.take k).map nm))) ∧
      wr.cell? ⟨w.heap.size, 0, none⟩ = some (.slice none 0 0) ∧ wr.frozen? ⟨w.heap.size, 0, none⟩ = false ∧ wr.cell? ⟨w.heap.size + 1, 0, none⟩ = some (.slice xa n xc) ∧ wr.frozen? ⟨w.heap.size + 1, 0, none⟩ = false ∧ Below w.heap.size w wr)
  case atStart => exact ⟨0, none, 0, 0, rfl, by omega, by omega, fun j hj => by omega, RRep.empty _, x1, x3, x2, x4, b0⟩
  case round =>
    obtain ⟨k, xa, n, xc, rfl, hk, hg, HO, HR, hc, hf, hc2, hf2, hb⟩ := hrel
    clear x1 x2 x3 x4 b0
    have y6 : w.heap.size + 1 < wr.heap.size := cell_lt hc2
    have BD : Below wr.heap.size wr wr.drew := (Below.refl _ wr).drew
    by_cases hkl : k < l.length
    · rcases hA with h | ⟨ba, oa, rfl, hA⟩
      · subst h; simp at hkl
      obtain ⟨a1, a2⟩ := hA k hkl
      have hgt : gtS l k = l[k]?.getD (0, 0) := rfl
      rw [← hgt] at a1 a2
      have a1' := (hb.cell (p := ⟨ba, oa + k * 2, none⟩) (cell_lt a1)).trans a1
      have a2' := (hb.cell (p := ⟨ba, oa + k * 2 + 1, none⟩) (cell_lt a2)).trans a2
      obtain ⟨p, q, hpq⟩ : ∃ p q, gtS l k = (p, q) := ⟨_, _, rfl⟩
      rw [hpq] at a1' a2'
      dsimp only at a1' a2'
      have HPQ := Lib.hid hpq
      have HT := Lib.hid (take_num l k hkl)
      have hkl' : (k : Int) < (l.length : Int) := by omega
      clear a1 a2 hgt hpq hA
      have hp := fun W => (rNumber_any p W).mono (R' := fun e w' => e = .returned (.int .i64 (if ptB p then numP p else -1)) ∧ w' = W) (fun e w' h => ⟨h.1, h.2.symm⟩)
      have hq := fun W => (rNumber_any q W).mono (R' := fun e w' => e = .returned (.int .i64 (if ptB q then numP q else -1)) ∧ w' = W) (fun e w' h => ⟨h.1, h.2.symm⟩)
      have fin : ∀ m, ofNo (p, q) = m → m ≠ 0 → ∀ W, Below w.heap.size w W → ROfPost l w (.returned (.tuple #[.agg #[.slice none 0 0], .int .i64 m, .int .i64 k])) W := fun m h1 h2 W hW =>
        ⟨.inl ⟨k, hkl, HO.out, by rw [HPQ.out, h1]; exact h2, by rw [HPQ.out, h1]⟩, hW⟩
      have FIN := Lib.hid fin
      clear fin
      obtain ⟨mp, hnp⟩ : ∃ mp, (if ptB p then numP p else -1) = mp := ⟨_, rfl⟩
      obtain ⟨mq, hnq⟩ : ∃ mq, (if ptB q then numP q else -1) = mq := ⟨_, rfl⟩
      rw [hnp] at hp
      rw [hnq] at hq
      by_cases hbad : mp < 0 ∨ mq < 0
      · have E0 : Hid (ofNo (p, q) = 8) := by
          show ofNo (p, q) = 8
          unfold ofNo
          rw [if_pos]
          dsimp only
          rcases hbad with h | h
          · left; cases e : ptB p with
            | false => rfl
            | true => rw [e, if_pos rfl] at hnp; have := numP_bds e; omega
          · right; cases e : ptB q with
            | false => rfl
            | true => rw [e, if_pos rfl] at hnq; have := numP_bds e; omega
        have q5 : ∀ W : World, W.cell? ⟨w.heap.size, 0, none⟩ = some (.slice none 0 0) → (W.setCell ⟨w.heap.size, 0, none⟩ (.slice none 0 0)).cell? ⟨w.heap.size, 0, none⟩ = some (.slice none 0 0) := fun W h => World.cell?_setCell_same _ _ _ h
        clear hnp hnq HR HT
        by_cases h1 : mp < 0
        · clear hbad
          go_wp2
          go_quiet ((first | (go_at_call 35; with_reducible exact Calls.quiet_of_same (hp _)) | (go_at_call 35; with_reducible exact Calls.quiet_of_same (hq _))))
          go_wp2
          have BN := below_drewN (Below.refl wr.heap.size wr) nq
          have q5 := World.cell?_setCell_same (wr.drewN nq) ⟨w.heap.size, 0, none⟩ (.slice none 0 0) ((BN.cell (p := ⟨w.heap.size, 0, none⟩) (Nat.lt_of_succ_lt y6)).trans hc)
          refine bodyPost_ret (v := .tuple #[.agg #[.slice none 0 0], .int .i64 8, .int .i64 k]) (by simp [results, Tryz.results10, go_sem, q5]) rfl ?_
          exact FIN.out 8 E0.out (by omega) _ ((below_drewN hb nq).setCell (p := ⟨w.heap.size, 0, none⟩) (Nat.le_refl _) _)
        · have h2 : mq < 0 := by omega
          clear hbad
          go_wp2
          go_quiet ((first | (go_at_call 35; with_reducible exact Calls.quiet_of_same (hp _)) | (go_at_call 35; with_reducible exact Calls.quiet_of_same (hq _))))
          go_wp2
          have BN := below_drewN (Below.refl wr.heap.size wr) nq
          have q5 := World.cell?_setCell_same (wr.drewN nq) ⟨w.heap.size, 0, none⟩ (.slice none 0 0) ((BN.cell (p := ⟨w.heap.size, 0, none⟩) (Nat.lt_of_succ_lt y6)).trans hc)
          refine bodyPost_ret (v := .tuple #[.agg #[.slice none 0 0], .int .i64 8, .int .i64 k]) (by simp [results, Tryz.results10, go_sem, q5]) rfl ?_
          exact FIN.out 8 E0.out (by omega) _ ((below_drewN hb nq).setCell (p := ⟨w.heap.size, 0, none⟩) (Nat.le_refl _) _)
      · have hpp : ptB p = true := by
          cases e : ptB p with
          | true => rfl
          | false => rw [e, if_neg (by decide)] at hnp; omega
        have hqq : ptB q = true := by
          cases e : ptB q with
          | true => rfl
          | false => rw [e, if_neg (by decide)] at hnq; omega
        rw [hpp, if_pos rfl] at hnp
        rw [hqq, if_pos rfl] at hnq
        have hpb := numP_pt hpp
        have hqb := numP_pt hqq
        rw [hnp] at hpb
        rw [hnq] at hqb
        have h1 : ¬ mp < 0 := by omega
        have h2 : ¬ mq < 0 := by omega
        have hpb' : 0 ≤ mp ∧ mp ≤ 1112191 := by omega
        have hqb' : 0 ≤ mq ∧ mq ≤ 1112191 := by omega
        have hlt : mq < mp ↔ q < p := by omega
        clear hpb hqb hbad
        by_cases h3 : mq < mp
        · have E0 : Hid (ofNo (p, q) = 1) := by
            show ofNo (p, q) = 1
            unfold ofNo
            rw [if_neg (by simp [hpp, hqq]), if_pos (hlt.1 h3)]
          clear hnp hnq hpp hqq hlt HR HT
          go_wp2
          go_quiet ((first | (go_at_call 35; with_reducible exact Calls.quiet_of_same (hp _)) | (go_at_call 35; with_reducible exact Calls.quiet_of_same (hq _))))
          go_wp2
          have BN := below_drewN (Below.refl wr.heap.size wr) nq
          have q5 := World.cell?_setCell_same (wr.drewN nq) ⟨w.heap.size, 0, none⟩ (.slice none 0 0) ((BN.cell (p := ⟨w.heap.size, 0, none⟩) (Nat.lt_of_succ_lt y6)).trans hc)
          refine bodyPost_ret (v := .tuple #[.agg #[.slice none 0 0], .int .i64 1, .int .i64 k]) (by simp [results, Tryz.results10, go_sem, q5]) rfl ?_
          exact FIN.out 1 E0.out (by omega) _ ((below_drewN hb nq).setCell (p := ⟨w.heap.size, 0, none⟩) (Nat.le_refl _) _)
        · have E0 : Hid (ofNo (p, q) = 0) := by
            show ofNo (p, q) = 0
            unfold ofNo
            rw [if_neg (by simp [hpp, hqq]), if_neg (fun h => h3 (hlt.2 h))]
          have HN : Hid (nm (p, q) = (mp, mq)) := by show (numP p, numP q) = (mp, mq); rw [hnp, hnq]
          have hcan : Hid (Can 0 [(mp, mq)]) := ⟨hpb'.1, by show mp ≤ mq; omega, hqb'.2, trivial⟩
          clear hnp hnq hpp hqq hlt
          go_wp2
          go_quiet ((first | (go_at_call 35; with_reducible exact Calls.quiet_of_same (hp _)) | (go_at_call 35; with_reducible exact Calls.quiet_of_same (hq _))))
          obtain ⟨X, hX⟩ : ∃ X, wr.drewN nq = X := ⟨_, rfl⟩
          have BN := below_drewN (Below.refl wr.heap.size wr) nq
          rw [hX] at BN ⊢
          clear hX
          have c1 := (BN.cell (p := ⟨w.heap.size, 0, none⟩) (Nat.lt_of_succ_lt y6)).trans hc
          have c2 := (BN.cell (p := ⟨w.heap.size + 1, 0, none⟩) y6).trans hc2
          have f1 := (BN.frozen (p := ⟨w.heap.size, 0, none⟩) (Nat.lt_of_succ_lt y6)).trans hf
          have f2 := (BN.frozen (p := ⟨w.heap.size + 1, 0, none⟩) y6).trans hf2
          have BA := (Below.refl X.heap.size X).alloc (Nat.le_refl _) (.cells #[.int .i64 mp, .int .i64 mq] 84)
          have HR1 := Lib.hid ((HR.out.below BN).below BA)
          have HR2 : Hid (RRep (X.alloc (.cells #[.int .i64 mp, .int .i64 mq] 84)) (.agg #[.slice (some ⟨X.heap.size, 0, none⟩) 1 1]) (fun r => memB r [(mp, mq)])) := ⟨_, _, rfl, one_row (by simp) (by simp) 1, hcan.out, fun _ _ _ => rfl⟩
          have y7 := Nat.lt_of_lt_of_le y6 BN.size
          have hbX := hb.trans ((BN.trans (BA.mono BN.size)).mono hb.size)
          go_wp2_with (go_at_call 19; refine (rJoin_ret HR1.out HR2.out).mono ?_; rintro e w1 ⟨xb, n2, x2, rfl, hR, hB1⟩; have d1 := (hB1.cell (p := ⟨w.heap.size, 0, none⟩) (Nat.lt_of_lt_of_le (Nat.lt_of_succ_lt y7) BA.size)).trans ((BA.cell (p := ⟨w.heap.size, 0, none⟩) (Nat.lt_of_succ_lt y7)).trans c1); have d2 := (hB1.cell (p := ⟨w.heap.size + 1, 0, none⟩) (Nat.lt_of_lt_of_le y7 BA.size)).trans ((BA.cell (p := ⟨w.heap.size + 1, 0, none⟩) y7).trans c2); have g1 := (hB1.frozen (p := ⟨w.heap.size, 0, none⟩) (Nat.lt_of_lt_of_le (Nat.lt_of_succ_lt y7) BA.size)).trans ((BA.frozen (p := ⟨w.heap.size, 0, none⟩) (Nat.lt_of_succ_lt y7)).trans f1); have g2 := (hB1.frozen (p := ⟨w.heap.size + 1, 0, none⟩) (Nat.lt_of_lt_of_le y7 BA.size)).trans ((BA.frozen (p := ⟨w.heap.size + 1, 0, none⟩) y7).trans f2))
          go_roundg (gk - 1)
          case measure => omega
          case rel =>
            refine ⟨k + 1, xb, n2, x2, by go_num, by omega, by omega, fun j hj => ?_, ?_, cell_set_far d1, (World.frozen?_setCell _ _ _ _).trans g1, World.cell?_setCell_same _ _ _ d2, (World.frozen?_setCell _ _ _ _).trans g2, (hbX.trans (hB1.mono hbX.size)).setCell (p := ⟨w.heap.size + 1, 0, none⟩) (by show w.heap.size ≤ w.heap.size + 1; omega) _⟩
            · by_cases hji : j = k
              · subst hji; rw [HPQ.out]; exact E0.out
              · exact HO.out j (by omega)
            · refine (hR.congr fun r _ _ => ?_).set d2 _
              rw [HT.out, HPQ.out, HN.out]
    · obtain rfl : k = l.length := by omega
      have hR := HR.out
      rw [List.take_length] at hR
      have HR2 := Lib.hid (hR.set hc (.slice xa n xc))
      have q5 := World.cell?_setCell_same wr ⟨w.heap.size, 0, none⟩ (.slice xa n xc) hc
      clear hR HR hA
      go_wp2
      refine bodyPost_ret (v := .tuple #[.agg #[.slice xa n xc], .int .i64 0, .int .i64 0]) (by simp [results, Tryz.results10, go_sem, q5]) rfl ?_
      exact ⟨.inr ⟨HO.out, xa, n, xc, rfl, HR2.out⟩, hb.setCell (p := ⟨w.heap.size, 0, none⟩) (Nat.le_refl _) _⟩
end Go.Proofs.YtmbjjheaddhmeaaGreatDoor
