/- ranges.span: one span, and where it ends. -/
import Derived.Test.YtmbjjheaddhmeaaGreatDoorRead
import Derived.Test.YtmbjjheaddhmeaaGreatDoorParseLaw
import Derived.Lib.IndexBytes
namespace Go.Proofs.YtmbjjheaddhmeaaGreatDoor
open Go.RowKit Go.Shelf

def faultV (no line at_ : Int) : Value := .iface 81 (.agg #[.int .i64 no, .int .i64 line, .int .i64 at_])
def spT (k : Nat) : SpR → Value
  | .esc d => .tuple #[.agg #[.int .i32 0, .int .i32 0], .int .i64 0, .iface 81 (.agg #[.int .i64 9, .int .i64 0, .int .i64 ((k + d : Nat) : Int)])]
  | .form => .tuple #[.agg #[.int .i32 0, .int .i32 0], .int .i64 0, .iface 81 (.agg #[.int .i64 4, .int .i64 0, .int .i64 (k : Int)])]
  | .ok lo hi n => .tuple #[.agg #[.int .i32 lo, .int .i32 hi], .int .i64 ((k + n : Nat) : Int), .nilIface]

/-- What the reading of a point needs of the memory. -/
def RdOk (w : World) : Prop := Db w ∧ 6 < w.heap.size ∧ ErrVar w 3 ∧ ErrVar w 4
theorem RdOk.below {w w' : World} (h : RdOk w) (hb : Below w.heap.size w w') : RdOk w' :=
  ⟨(hb.cell (p := ⟨6, 15, none⟩) h.2.1).trans h.1, Nat.lt_of_lt_of_le h.2.1 hb.size, h.2.2.1.below hb, h.2.2.2.below hb⟩

theorem read_ok (s : ByteArray) (l : List UInt8) (w : World) (hl : s.data.toList = l) (hs : s.size ≤ 1000000) (h : RdOk w) :
    Calls Tryz.prog 123 #[.string s] w fun e w' => ((∃ r : Int, rdF l = some r ∧ e = .returned (.tuple #[.int .i32 r, .int .i64 ((wr r).length : Int), .bool true])) ∨ (rdF l = none ∧ ∃ r n : Int, e = .returned (.tuple #[.int .i32 r, .int .i64 n, .bool false]))) ∧ Below w.heap.size w w' := by
  subst hl
  refine (read_any s w hs h.1 h.2.1 h.2.2.1 h.2.2.2).mono ?_
  rintro e w' ⟨r, n, ok, rfl, ⟨rfl, h1, rfl⟩ | ⟨rfl, h1⟩, hB⟩
  · exact ⟨.inl ⟨r, h1, rfl⟩, hB⟩
  · exact ⟨.inr ⟨h1, r, n, rfl⟩, hB⟩

theorem ret_t {a b : Value} (h : a = b) : Ending.returned a = .returned b := by rw [h]

theorem span_block {w w1 : World} {o : Obj} (hB : Below (w.alloc o).heap.size (w.alloc o) w1) : w1.heap[w.heap.size]? = some o ∧ w.heap.size < w1.heap.size :=
  ⟨(hB.block w.heap.size (by simp)).trans (heap_alloc_new w o), Nat.lt_of_lt_of_le (by simp) hB.size⟩
theorem span_cells {w1 : World} {b : Nat} (h : w1.heap[b]? = some (.cells #[.int .i32 0, .int .i32 0] 39 (0, 0))) :
    w1.cell? ⟨b, 0, none⟩ = some (.int .i32 0) ∧ w1.cell? ⟨b, 1, none⟩ = some (.int .i32 0) ∧ w1.frozen? ⟨b, 0, none⟩ = false ∧ w1.frozen? ⟨b, 1, none⟩ = false := by
  simp [World.cell?, World.frozen?, h]

theorem byte_of {s : ByteArray} {k : Nat} {c : UInt8} {t : List UInt8} (h : s.data.toList.drop k = c :: t) : k < s.size ∧ ∀ hk : k < s.size, s[k]'hk = c := by
  have hk : k < s.size := by
    rw [Lib.size_eq]
    by_cases hh : k < s.data.toList.length
    · exact hh
    · rw [List.drop_of_length_le (by omega)] at h; cases h
  refine ⟨hk, fun hk => ?_⟩
  have h2 := congrArg List.head? h
  rw [List.head?_drop, List.head?_cons, List.getElem?_eq_getElem (by rw [← Lib.size_eq]; exact hk)] at h2
  exact Option.some.inj h2

noncomputable def spanG (lo : Int) (m : Nat) : List UInt8 → SpR
  | [] => .ok lo lo m
  | c :: t => if c = 45 then (match rdF t with
      | none => .esc (m + 1)
      | some hi => if hi ≤ lo then .form else .ok lo hi (m + 1 + (wr hi).length))
    else .ok lo lo m
theorem spanF_some {l : List UInt8} {lo : Int} (h : rdF l = some lo) : spanF l = spanG lo (wr lo).length (l.drop (wr lo).length) := by
  unfold spanF; rw [h]; dsimp only; cases l.drop (wr lo).length <;> rfl

set_option maxRecDepth 100000 in
set_option maxHeartbeats 4000000 in
theorem span_any (s : ByteArray) (k : Nat) (w : World) (hs : s.size ≤ 1000000) (hk : k ≤ s.size) (h : RdOk w) :
    Calls Tryz.prog 76 #[.string s, .int .i64 (k : Int)] w fun e w' => e = .returned (spT k (spanF (s.data.toList.drop k))) ∧ Below w.heap.size w w' := by
  have bA := (Below.refl w.heap.size w).alloc (Nat.le_refl _) (.cells #[.int .i32 0, .int .i32 0] 39)
  have h1 := h.below bA
  have e1 := Lib.extract_to_end s k
  have z1 : (s.extract k s.size).size ≤ 1000000 := by rw [Lib.size_eq, e1, List.length_drop, ← Lib.size_eq]; omega
  have hR := read_ok (s.extract k s.size) (s.data.toList.drop k) (w.alloc (.cells #[.int .i32 0, .int .i32 0] 39)) e1 z1 h1
  have HE := Lib.hid (rfl : s.data.toList.drop k = s.data.toList.drop k)
  obtain ⟨l, hl⟩ : ∃ l, l = s.data.toList.drop k := ⟨_, rfl⟩
  rw [← hl] at hR ⊢
  have HL := Lib.hid hl
  have H1 := Lib.hid h1
  clear hl h e1 HE h1
  go_enter Tryz.func76, Tryz.ntmps76
  go_wp2_with fail
  refine hR.mono ?_
  clear hR
  rintro e w1 ⟨⟨lo, hlo, rfl⟩ | ⟨hno, r, n, rfl⟩, hB1⟩
  all_goals
    obtain ⟨g0, g1⟩ := span_block hB1
    obtain ⟨c0, c1, f0, f1⟩ := span_cells g0
    have BW : Below w.heap.size w w1 := bA.trans (hB1.mono (by simp))
  · obtain ⟨hp1, t, ht⟩ := rdF_spec hlo
    have hlen : (wr lo).length + t.length = s.size - k := by rw [← List.length_append, ht, HL.out, List.length_drop, Lib.size_eq]
    have hdr : s.data.toList.drop (k + (wr lo).length) = t := by rw [← List.drop_drop, ← HL.out, ← ht, List.drop_left]
    have hdl : l.drop (wr lo).length = t := by rw [← ht, List.drop_left]
    have hsF := spanF_some hlo
    rw [hdl] at hsF
    clear ht hdl hlo
    generalize (wr lo).length = m at *
    have hkm : k + m ≤ s.size := by omega
    cases t with
    | nil =>
      have HF := Lib.hid hsF
      have hq : ((k : Int) + (m : Int) == (s.size : Int)) = true := by rw [beq_iff_eq]; simp at hlen; omega
      clear hsF hlen hdr
      go_wp2
      refine bodyPost_ret (v := .tuple #[.agg #[.int .i32 lo, .int .i32 lo], .int .i64 ((k + m : Nat) : Int), .nilIface]) ?_ rfl ⟨?_, ?_⟩
      · simp [results, Tryz.results76, go_sem, c0, c1]
      · rw [HF.out]; rfl
      · exact (BW.setCell (Nat.le_refl _) _).setCell (Nat.le_refl _) _
    | cons c t =>
      obtain ⟨hlt, hcc⟩ := byte_of hdr
      have hci := hcc hlt
      have hlt' : (k : Int) + (m : Int) < (s.size : Int) := by omega
      have hq : ((k : Int) + (m : Int) == (s.size : Int)) = false := by rw [beq_eq_false_iff_ne]; omega
      have hln : t.length = s.size - (k + m + 1) := by simp at hlen; omega
      have hdt : s.data.toList.drop (k + m + 1) = t := by rw [← List.drop_drop, hdr]; rfl
      have HDT := Lib.hid hdt
      clear hcc hlen hdr hdt
      by_cases h45 : c = 45
      · subst h45
        have HF : Hid (spanF l = match rdF t with
          | none => .esc (m + 1)
          | some hi => if hi ≤ lo then .form else .ok lo hi (m + 1 + (wr hi).length)) := Lib.hid (by rw [hsF, spanG, if_pos rfl])
        have R1 : RdOk w1 := H1.out.below hB1
        have e2 := Lib.extract_to_end s (k + m + 1)
        rw [HDT.out] at e2
        have z2 : (s.extract (k + m + 1) s.size).size ≤ 1000000 := by rw [Lib.size_eq, e2]; omega
        have hR := read_ok (s.extract (k + m + 1) s.size) t w1 e2 z2 R1
        clear hsF R1 e2 z2
        go_wp2_with (go_at_call 123; refine hR.mono ?_; clear hR; rintro e w2 ⟨hh, hB2⟩; have g2 := (hB2.block w.heap.size g1).trans g0; obtain ⟨c2, c3, f2, f3⟩ := span_cells g2; rcases hh with ⟨hi, hhi, rfl⟩ | ⟨hno, r, n, rfl⟩; have hwl := wr_len hi)
        · have hle : hi ≤ lo := by assumption
          refine bodyPost_ret (v := .tuple #[.agg #[.int .i32 0, .int .i32 0], .int .i64 0, .iface 81 (.agg #[.int .i64 4, .int .i64 0, .int .i64 (k : Int)])]) ?_ rfl ⟨?_, ?_⟩
          · simp [results, Tryz.results76, go_sem, c2, c3]
          · rw [HF.out, hhi]; dsimp only; rw [if_pos hle]; rfl
          · exact ((BW.trans (hB2.mono (Nat.le_of_lt g1))).setCell (Nat.le_refl _) _).setCell (Nat.le_refl _) _
        · have hle : ¬ hi ≤ lo := by omega
          refine bodyPost_ret (v := .tuple #[.agg #[.int .i32 lo, .int .i32 hi], .int .i64 ((k + (m + 1 + (wr hi).length) : Nat) : Int), .nilIface]) ?_ rfl ⟨?_, ?_⟩
          · simp [results, Tryz.results76, go_sem, c2, c3]
            omega
          · rw [HF.out, hhi]; dsimp only; rw [if_neg hle]; rfl
          · exact ((BW.trans (hB2.mono (Nat.le_of_lt g1))).setCell (Nat.le_refl _) _).setCell (Nat.le_refl _) _
        · refine bodyPost_ret (v := .tuple #[.agg #[.int .i32 0, .int .i32 0], .int .i64 0, .iface 81 (.agg #[.int .i64 9, .int .i64 0, .int .i64 ((k + (m + 1) : Nat) : Int)])]) ?_ rfl ⟨?_, ?_⟩
          · simp [results, Tryz.results76, go_sem, c2, c3]
            omega
          · rw [HF.out, hno]; rfl
          · exact ((BW.trans (hB2.mono (Nat.le_of_lt g1))).setCell (Nat.le_refl _) _).setCell (Nat.le_refl _) _
      · have HF : Hid (spanF l = .ok lo lo m) := Lib.hid (by rw [hsF, spanG, if_neg h45])
        have hcn : ((c.toNat : Int) != 45) = true := by
          rw [bne_iff_ne]; intro h; exact h45 (UInt8.toNat_inj.1 (by show _ = 45; omega))
        clear hsF h45
        go_wp2
        refine bodyPost_ret (v := .tuple #[.agg #[.int .i32 lo, .int .i32 lo], .int .i64 ((k + m : Nat) : Int), .nilIface]) ?_ rfl ⟨?_, ?_⟩
        · simp [results, Tryz.results76, go_sem, c0, c1]
        · rw [HF.out]; rfl
        · exact (BW.setCell (Nat.le_refl _) _).setCell (Nat.le_refl _) _
  · have hF : spanF l = .esc 0 := by unfold spanF; rw [hno]
    have HF := Lib.hid hF
    clear hF hno
    go_wp2
    refine bodyPost_ret (v := .tuple #[.agg #[.int .i32 0, .int .i32 0], .int .i64 0, .iface 81 (.agg #[.int .i64 9, .int .i64 0, .int .i64 (k : Int)])]) ?_ rfl ⟨?_, ?_⟩
    · simp [results, Tryz.results76, go_sem, c0, c1]
    · rw [HF.out]; rfl
    · exact (BW.setCell (Nat.le_refl _) _).setCell (Nat.le_refl _) _

end Go.Proofs.YtmbjjheaddhmeaaGreatDoor
