/- strconv.ParseUint at base 16 and 32 bits, of every string. The plain law of reading a written point: what stands at the head of a text. -/
import Derived.Test.YtmbjjheaddhmeaaGreatDoorM
import Derived.Shelf.RegionOpenPlain
import Derived.RegionTactic
import Derived.Deep.RegionWith
import Derived.BigRegion
import Derived.BigCall
import Derived.BigGuard
import Derived.Lib.Hide
import Derived.Lib.Strings
import Derived.Lib.Walk
import Derived.Lib.ConvBytes
import Derived.Lib.BufferWrite
import Derived.Lib.UnsafeStr
import Derived.Lib.AtoiAllMem
import Derived.Lib.AtoiErrMem
import Derived.Lib.IfaceEq
import Derived.Laws.MakeOwn
import Derived.Laws.Strings3
import Derived.Laws.Closers25
import Derived.Laws.Closers25b
import Derived.Test.YtmbjjheaddhmeaaGreatDoorFmt
import Derived.Lib.Bytealg
namespace Go.Proofs.YtmbjjheaddhmeaaGreatDoor
open Go.RowKit

inductive HexR where
  | ok (n : Nat)
  | syn
  | rng

def lowF (c : Nat) : Nat := if c % 64 < 32 then c + 32 else c
def dgt (c : Nat) : Nat := if 48 ≤ c ∧ c ≤ 57 then c - 48 else if 97 ≤ lowF c ∧ lowF c ≤ 122 then lowF c - 87 else 99
def hexP : Nat → List UInt8 → HexR
  | acc, [] => .ok acc
  | acc, c :: l => if dgt c.toNat < 16 then (if acc * 16 + dgt c.toNat ≤ 4294967295 then hexP (acc * 16 + dgt c.toNat) l else .rng) else .syn
def hexT : HexR → Value
  | .ok n => .tuple #[.int .u64 n, .nilIface]
  | .syn => .tuple #[.int .u64 0, .iface 304 (.int .i64 2)]
  | .rng => .tuple #[.int .u64 4294967295, .iface 304 (.int .i64 1)]

theorem low_bits : ∀ c : Fin 256, bits .or .u8 (c.val : Int) 32 = ((lowF c.val : Nat) : Int) := by decide +kernel
theorem lowF_lt : ∀ c : Fin 256, lowF c.val < 256 := by decide +kernel

set_option maxHeartbeats 400000 in
theorem lower_any (c : Nat) (h : c < 256) (w : World) :
    Calls Tryz.prog 176 #[.int .u8 (c : Int)] w fun e w' => e = .returned (.int .u8 ((lowF c : Nat) : Int)) ∧ w = w' := by
  have hb := Lib.hid (low_bits ⟨c, h⟩)
  go_enter Tryz.func176, Tryz.ntmps176
  go_wp2
  go_ret
  exact ⟨ret_i hb.out, rfl⟩

set_option maxHeartbeats 8000000 in
set_option maxRecDepth 100000 in
theorem puI_any (t : ByteArray) (hne : t.size ≠ 0) (hmax : t.size ≤ 1000000) (w : World) :
    Calls Tryz.prog 161 #[.string t, .int .i64 16, .int .i64 32] w fun e w' => e = .returned (hexT (hexP 0 t.data.toList)) ∧ Below w.heap.size w w' := by
  have hemp : t.toList.isEmpty = false := by
    rw [← decide_eq_emptyBytes]
    exact decide_eq_false (fun h => hne (by rw [h]; rfl))
  have hcv := Lib.run_convert_string_bytes (P := Tryz.prog) w 9 130 5 t (u := .string) (by kernel_rfl) (by kernel_rfl) (by kernel_rfl)
  have hB : ∀ j, j < t.size → (Lib.bytesWorld w 5 t).cell? ⟨w.heap.size, j, none⟩ = some (.int .u8 (t.data.toList.getD j 0).toNat) := fun j hj => Lib.bytesWorld_cell w 5 t j hj
  have hBel : Below w.heap.size w (Lib.bytesWorld w 5 t) := Lib.bytesWorld_below w 5 t
  obtain ⟨W1, hW1⟩ : ∃ W1, W1 = Lib.bytesWorld w 5 t := ⟨_, rfl⟩
  rw [← hW1] at hcv hB hBel
  clear hW1
  obtain ⟨bs, hL⟩ : ∃ bs, bs = t.data.toList := ⟨_, rfl⟩
  have hLn : bs.length = t.size := by rw [hL, Lib.size_eq]
  rw [← hL] at hB ⊢
  clear hL
  have hmv : IntKind.u64.wrap (IntKind.u64.wrap 4294967296 - 1) = 4294967295 := by
    rw [IntKind.wrap_u64, IntKind.wrap_u64]
    decide
  go_enter Tryz.func161, Tryz.ntmps161
  go_wp2
  go_loop [12, 13, 101] (fun vu vn vi => ∃ (k acc : Nat) (a : Int), vu = .bool false ∧ vn = .int .u64 a ∧ vi = .int .i64 k ∧ k ≤ t.size ∧ Hid (a = (acc : Int) ∧ acc < 4294967296 ∧ hexP 0 bs = hexP acc (bs.drop k)))
    (fun _ _ vi => t.size - (intOf vi).toNat)
  case atStart => exact ⟨0, 0, 0, rfl, rfl, rfl, by omega, rfl, by omega, rfl⟩
  case round =>
    obtain ⟨k, acc, a, rfl, rfl, rfl, hk, hh⟩ := hrel
    obtain ⟨ha, hacc, hdec⟩ := hh.out
    clear hh
    have a0 : 0 ≤ a := by omega
    have a1 : a < 4294967296 := by omega
    by_cases hkn : k < t.size
    · have hc := hB k hkn
      have hdrop : bs.drop k = bs[k]'(by omega) :: bs.drop (k + 1) := List.drop_eq_getElem_cons (by omega)
      have hget : bs.getD k 0 = bs[k]'(by omega) := by simp [List.getD, List.getElem?_eq_getElem (show k < bs.length by omega)]
      rw [hdrop] at hdec
      rw [hget] at hc
      generalize bs[k]'(by omega) = c at hc hdec
      have hc256 : c.toNat < 256 := c.toNat_lt
      have hlo := lowF_lt ⟨c.toNat, hc256⟩
      have eok : dgt c.toNat < 16 → acc * 16 + dgt c.toNat ≤ 4294967295 → hexP acc (c :: bs.drop (k + 1)) = hexP (acc * 16 + dgt c.toNat) (bs.drop (k + 1)) := fun h1 h2 => by rw [hexP, if_pos h1, if_pos h2]
      have erng : dgt c.toNat < 16 → ¬ acc * 16 + dgt c.toNat ≤ 4294967295 → hexP acc (c :: bs.drop (k + 1)) = .rng := fun h1 h2 => by rw [hexP, if_pos h1, if_neg h2]
      have esyn : ¬ dgt c.toNat < 16 → hexP acc (c :: bs.drop (k + 1)) = .syn := fun h1 => by rw [hexP, if_neg h1]
      dsimp only at hlo
      clear hB hdrop hget
      generalize c.toNat = cn at *
      have hd1 : 48 ≤ cn ∧ cn ≤ 57 → dgt cn = cn - 48 := fun h => by unfold dgt; rw [if_pos h]
      have hd2 : ¬ (48 ≤ cn ∧ cn ≤ 57) → 97 ≤ lowF cn ∧ lowF cn ≤ 122 → dgt cn = lowF cn - 87 := fun h h' => by unfold dgt; rw [if_neg h, if_pos h']
      have hd3 : ¬ (48 ≤ cn ∧ cn ≤ 57) → ¬ (97 ≤ lowF cn ∧ lowF cn ≤ 122) → dgt cn = 99 := fun h h' => by unfold dgt; rw [if_neg h, if_neg h']
      have h95 : cn = 95 → lowF cn = 127 := fun h => by subst h; rfl
      have hG : ∀ d : Nat, dgt cn = d → d < 16 → acc * 16 + d ≤ 4294967295 → Hid (a * 16 + ((d : Nat) : Int) = ((acc * 16 + d : Nat) : Int) ∧ acc * 16 + d < 4294967296 ∧ hexP 0 bs = hexP (acc * 16 + d) (bs.drop (k + 1))) := by
        rintro d rfl h1 h2
        exact Lib.hid ⟨by omega, by omega, hdec.trans (eok h1 h2)⟩
      by_cases hdig : 48 ≤ cn ∧ cn ≤ 57
      · have hde := hd1 hdig
        rw [hde] at eok erng esyn
        obtain ⟨hd0, hd9⟩ := hdig
        by_cases hov : acc * 16 + (cn - 48) ≤ 4294967295
        · have HN := hG (cn - 48) hde (by omega) hov
          have hov2 : a * 16 + ((cn : Int) - 48) ≤ 4294967295 := by omega
          clear hG hde eok erng esyn hd1 hd2 hd3 h95 hdec ha hacc hov hlo
          go_wp2
          refine ⟨⟨k + 1, acc * 16 + (cn - 48), a * 16 + ((cn : Int) - 48), rfl, (by first | rfl | (congr 1; omega)), (by first | rfl | (congr 1; omega)), by omega, ?_⟩, by simp [intOf]; omega⟩
          rw [show (cn : Int) - 48 = ((cn - 48 : Nat) : Int) by omega]; exact HN
        · have HE := Lib.hid (hdec.trans (erng (by omega) hov))
          have hov2 : 4294967295 < a * 16 + ((cn : Int) - 48) := by omega
          clear hG hde eok erng esyn hd1 hd2 hd3 h95 hdec ha hacc hov hlo
          go_wp2
          go_ret2
          exact ⟨by rw [HE.out]; rfl, hBel⟩
      · by_cases hlt : 97 ≤ lowF cn ∧ lowF cn ≤ 122
        · have hde := hd2 hdig hlt
          obtain ⟨l0, l1⟩ := hlt
          rw [hde] at eok erng esyn
          have hcl : cn < 48 ∨ 57 < cn := by omega
          have hn95 : ((cn : Int) == 95) = false := by
            rw [beq_eq_false_iff_ne]; intro h; have := h95 (by omega); omega
          by_cases h16 : lowF cn < 103
          · by_cases hov : acc * 16 + (lowF cn - 87) ≤ 4294967295
            · have HN := hG (lowF cn - 87) hde (by omega) hov
              have hov2 : a * 16 + (((lowF cn : Nat) : Int) - 97 + 10) ≤ 4294967295 := by omega
              have hlow := fun W => lower_any cn hc256 W
              clear hG hde eok erng esyn hd1 hd2 hd3 h95 hdec ha hacc hov hdig
              generalize lowF cn = lc at *
              rcases hcl with hcl | hcl
              all_goals
                go_wp2_with (go_at_call 176; refine (hlow _).mono ?_; rintro e w' ⟨rfl, rfl⟩)
                refine ⟨⟨k + 1, acc * 16 + (lc - 87), a * 16 + ((lc : Int) - 97 + 10), rfl, (by first | rfl | (congr 1; omega)), (by first | rfl | (congr 1; omega)), by omega, ?_⟩, by simp [intOf]; omega⟩
                rw [show (lc : Int) - 97 + 10 = ((lc - 87 : Nat) : Int) by omega]; exact HN
            · have HE := Lib.hid (hdec.trans (erng (by omega) hov))
              have hov2 : 4294967295 < a * 16 + (((lowF cn : Nat) : Int) - 97 + 10) := by omega
              have hlow := fun W => lower_any cn hc256 W
              clear hG hde eok erng esyn hd1 hd2 hd3 h95 hdec ha hacc hov hdig
              generalize lowF cn = lc at *
              rcases hcl with hcl | hcl
              all_goals
                go_wp2_with (go_at_call 176; refine (hlow _).mono ?_; rintro e w' ⟨rfl, rfl⟩)
                go_ret2
                exact ⟨by rw [HE.out]; rfl, hBel⟩
          · have HE := Lib.hid (hdec.trans (esyn (by omega)))
            have hlow := fun W => lower_any cn hc256 W
            clear hG hde eok erng esyn hd1 hd2 hd3 h95 hdec ha hacc hdig
            generalize lowF cn = lc at *
            have h16' : 103 ≤ lc := by omega
            clear h16
            rcases hcl with hcl | hcl
            all_goals
              go_wp2_with (go_at_call 176; refine (hlow _).mono ?_; rintro e w' ⟨rfl, rfl⟩)
              go_ret2
              exact ⟨by rw [HE.out]; rfl, hBel⟩
        · have hde := hd3 hdig hlt
          rw [hde] at eok erng esyn
          have HE := Lib.hid (hdec.trans (esyn (by omega)))
          by_cases h5 : cn = 95
          · subst h5
            have hlow : ∀ W, Calls Tryz.prog 176 #[.int .u8 95] W fun e w' => e = .returned (.int .u8 127) ∧ W = w' := fun W => lower_any 95 (by decide) W
            clear hG hde eok erng esyn hd1 hd2 hd3 h95 hdec ha hacc hdig hlt hlo hc256
            go_wp2_with (go_at_call 176; refine (hlow _).mono ?_; rintro e w' ⟨rfl, rfl⟩)
            go_ret2
            exact ⟨by rw [HE.out]; rfl, hBel⟩
          have hn95 : ((cn : Int) == 95) = false := by
            rw [beq_eq_false_iff_ne]; intro h; exact h5 (by omega)
          have hlow := fun W => lower_any cn hc256 W
          have hcl : cn < 48 ∨ 57 < cn := by omega
          have hll : lowF cn < 97 ∨ 122 < lowF cn := by omega
          clear hG hde eok erng esyn hd1 hd2 hd3 h95 hdec ha hacc hdig hlt h5
          generalize lowF cn = lc at *
          rcases hcl with hcl | hcl <;> rcases hll with hll | hll
          all_goals
            go_wp2_with (go_at_call 176; refine (hlow _).mono ?_; rintro e w' ⟨rfl, rfl⟩)
            go_ret2
            exact ⟨by rw [HE.out]; rfl, hBel⟩
    · have hkk : k = t.size := by omega
      subst hkk
      have hF : hexP acc (bs.drop t.size) = .ok acc := by rw [List.drop_eq_nil_of_le (by omega)]; rfl
      rw [hF] at hdec
      subst ha
      clear hacc hF a0 a1
      go_wp2
      go_ret2
      exact ⟨rfl, hBel⟩

theorem Tryz.infoU8 : (Tryz.prog.info? 5).map (fun i => (i.zero, i.size, i.bytes)) = some (some (.int .u8 0), 1, 1) := by kernel_rfl

set_option maxHeartbeats 4000000 in
set_option maxRecDepth 100000 in
theorem sClone_any (s : ByteArray) (w : World) (hlim : s.size ≤ 1000000) :
    Calls Tryz.prog 188 #[.string s] w fun e w' => e = .returned (.string s) ∧ Below w.heap.size w w' := by
  by_cases h0 : s.size = 0
  · have hs : s = ⟨#[]⟩ := by
      apply ByteArray.ext
      exact Array.eq_empty_of_size_eq_zero h0
    subst hs
    go_enter Tryz.func188, Tryz.ntmps188
    go_wp2
    go_ret
    exact ⟨rfl, Below.refl _ _⟩
  · obtain ⟨i0, hi, hz0, hz1, hz2⟩ := info_parts Tryz.infoU8
    have hinfo : (Tryz.prog.info? 5).map (·.size) = some 1 := by rw [hi]; simp [hz1]
    have hco : Tryz.prog.cellsOf 5 = 1 := by simp [Program.cellsOf, hi, hz1]
    have tb : Tryz.prog.underlying 130 = some (.slice 5) := by kernel_rfl
    have tp : Tryz.prog.underlying 246 = some (.pointer 5) := by kernel_rfl
    obtain ⟨M, hM⟩ : ∃ M, M = madeCells (Value.int .u8 0).cells (((s.size : Nat) : Int).toNat * i0.size) := ⟨_, rfl⟩
    have hMs : M.size = s.size := by rw [hM, size_madeCells, hz1]; simp
    have hmk : ∀ W : World, (Instr.makeSlice 130 (.int .i64 (s.size : Int)) (.int .i64 (s.size : Int))).run Tryz.prog W = .ok (.slice (some ⟨W.heap.size, 0, none⟩) s.size s.size) (W.alloc (.cells M 5)) := fun W => by
      have h := run_make (P := Tryz.prog) W 130 5 i0 (.int .u8 0) tb hi hz0 .i64 .i64 (s.size : Int) (s.size : Int) (by omega) (by omega) (by rw [hz2]; omega) (by omega)
      rw [← hM] at h
      simpa using h
    clear hM
    have hcp := Lib.run_copy_row_string (P := Tryz.prog) (w.alloc (.cells M 5)) 130 9 3 5 w.heap.size 0 s.size s.size s M 5 tb hinfo (heap_alloc_new w _) (Nat.le_refl _) (by omega)
    obtain ⟨Y, hY⟩ : ∃ Y, Y = (M.toList.take 0 ++ Lib.byteCells s.data.toList ++ M.toList.drop (0 + s.size)).toArray := ⟨_, rfl⟩
    rw [← hY] at hcp
    have hYl : Y.toList = Lib.byteCells s.data.toList := by
      rw [hY, List.toList_toArray, List.take_zero, List.nil_append, List.drop_of_length_le (by rw [Array.length_toList]; omega), List.append_nil]
    have hYs : Y.size = s.size := by rw [← Array.length_toList, hYl, Lib.byteCells_length, ← Lib.size_eq]
    have hgY : ((w.alloc (.cells M 5)).setRow w.heap.size Y).heap[w.heap.size]? = some (.cells Y 5 (0, 0)) := setRow_heap _ _ M _ 5 (0, 0) (heap_alloc_new w _)
    have hne : s.data.toList ≠ [] := fun e => h0 (by rw [Lib.size_eq, e]; rfl)
    have hUS := Lib.run_unsafeString_row (P := Tryz.prog) ((w.alloc (.cells M 5)).setRow w.heap.size Y) 246 3 9 5 tp hco w.heap.size Y.size (by unfold World.shape?; rw [hgY]) s.data.toList hne (by rw [← Lib.size_eq]; omega) (by rw [← Lib.size_eq]; omega)
      (fun j x hx => Lib.cells_of_row hgY Y.size j _ (by rw [List.take_of_length_le (by rw [Array.length_toList]; exact Nat.le_refl _), hYl]; simp [Lib.byteCells, hx]))
    rw [← Lib.size_eq] at hUS
    clear hY
    go_enter Tryz.func188, Tryz.ntmps188
    go_wp2
    go_ret
    have hb1 : Below w.heap.size w (w.alloc (.cells M 5)) := (Below.refl _ w).alloc (Nat.le_refl _) _
    have hb2 : Below w.heap.size (w.alloc (.cells M 5)) ((w.alloc (.cells M 5)).setRow w.heap.size Y) := ⟨rfl, rfl, rfl, by simp, fun k hk => setRow_other _ _ _ _ (by omega)⟩
    exact ⟨rfl, Lib.below_freeze (hb1.trans hb2) (p := ⟨w.heap.size, 0, none⟩) (Nat.le_refl _) _⟩

/-- A variable that holds an error, or nil. -/
def ErrVar (w : World) (g : Nat) : Prop := ∃ ev : Value, w.cell? ⟨g, 0, none⟩ = some ev ∧ (ev = .nilIface ∨ ∃ te pe, ev = .iface te pe)
theorem ErrVar.below {w w' : World} {g : Nat} (h : ErrVar w g) (hb : Below w.heap.size w w') : ErrVar w' g := by
  obtain ⟨ev, h1, h2⟩ := h; exact ⟨ev, (hb.cell (p := ⟨g, 0, none⟩) (cell_lt h1)).trans h1, h2⟩


set_option maxHeartbeats 6400000 in
set_option maxRecDepth 100000 in
theorem syn_any (fn s : ByteArray) (w : World) (hlim : s.size ≤ 1000000) (hG : ErrVar w 3) :
    Calls Tryz.prog 178 #[.string fn, .string s] w fun e w' => ∃ N, e = .returned (.pointer (some ⟨N, 0, none⟩)) ∧ Below w.heap.size w w' := by
  obtain ⟨ev, hv, hev⟩ := hG
  rcases hev with rfl | ⟨te, pe, rfl⟩
  all_goals (
    have hG : 3 < w.heap.size := cell_lt hv
    have hvd : w.drew.cell? ⟨3, 0, none⟩ = some _ := hv
    go_enter Tryz.func178, Tryz.ntmps178
    go_wp2
    go_region_with (
        go_at_call 188
        refine (sClone_any s _ hlim).mono ?_
        rintro e w2 ⟨rfl, hbel⟩
        have hv2 : w2.cell? ⟨3, 0, none⟩ = some _ := (hbel.cell (show (⟨3, 0, none⟩ : Addr).block < w.drew.heap.size from hG)).trans hvd)
    all_goals (
      go_wp2
      go_ret
      have hs2 : w.heap.size ≤ w2.heap.size := hbel.size
      exact ⟨_, rfl, ((Below.drew (Below.refl _ w)).trans hbel).alloc hs2 _⟩))

set_option maxHeartbeats 6400000 in
set_option maxRecDepth 100000 in
theorem rng_any (fn s : ByteArray) (w : World) (hlim : s.size ≤ 1000000) (hG : ErrVar w 4) :
    Calls Tryz.prog 179 #[.string fn, .string s] w fun e w' => ∃ N, e = .returned (.pointer (some ⟨N, 0, none⟩)) ∧ Below w.heap.size w w' := by
  obtain ⟨ev, hv, hev⟩ := hG
  rcases hev with rfl | ⟨te, pe, rfl⟩
  all_goals (
    have hG : 4 < w.heap.size := cell_lt hv
    have hvd : w.drew.cell? ⟨4, 0, none⟩ = some _ := hv
    go_enter Tryz.func179, Tryz.ntmps179
    go_wp2
    go_region_with (
        go_at_call 188
        refine (sClone_any s _ hlim).mono ?_
        rintro e w2 ⟨rfl, hbel⟩
        have hv2 : w2.cell? ⟨4, 0, none⟩ = some _ := (hbel.cell (show (⟨4, 0, none⟩ : Addr).block < w.drew.heap.size from hG)).trans hvd)
    all_goals (
      go_wp2
      go_ret
      have hs2 : w.heap.size ≤ w2.heap.size := hbel.size
      exact ⟨_, rfl, ((Below.drew (Below.refl _ w)).trans hbel).alloc hs2 _⟩))

theorem run_eql_serr (a b : Int) (W : World) : (binOp .eql 27 (.iface 304 (.int .i64 a)) (.iface 304 (.int .i64 b))).run Tryz.prog W = .ok (.bool (a == b)) W :=
  Lib.run_eql_iface_int W a b Tryz.underlying27 (by kernel_rfl) Tryz.underlying304

set_option maxHeartbeats 4000000 in
set_option maxRecDepth 100000 in
theorem toError_any (fn s : ByteArray) (k : Int) (hk : k = 1 ∨ k = 2) (w : World) (hlim : s.size ≤ 1000000) (h1 : ErrVar w 3) (h2 : ErrVar w 4) :
    Calls Tryz.prog 162 #[.string fn, .string s, .int .i64 16, .int .i64 32, .iface 304 (.int .i64 k)] w fun e w' => ∃ N, e = .returned (.iface 306 (.pointer (some ⟨N, 0, none⟩))) ∧ Below w.heap.size w w' := by
  have he := run_eql_serr
  rcases hk with rfl | rfl
  all_goals
    go_enter Tryz.func162, Tryz.ntmps162
    go_wp2_with (first
      | (go_at_call 178; refine (syn_any fn s _ hlim ?_).mono ?_; (· exact h1); rintro e w2 ⟨N, rfl, h3⟩)
      | (go_at_call 179; refine (rng_any fn s _ hlim ?_).mono ?_; (· exact h2); rintro e w2 ⟨N, rfl, h3⟩))
    go_ret
    exact ⟨N, rfl, h3⟩

/-- What ParseUint answers at base 16 and 32 bits. -/
def PuPost (l : List UInt8) (e : Ending) : Prop :=
  (∃ n, hexP 0 l = .ok n ∧ l ≠ [] ∧ e = .returned (.tuple #[.int .u64 n, .nilIface])) ∨
  ((l = [] ∨ ∀ n, hexP 0 l ≠ .ok n) ∧ ∃ n p, (n = 0 ∨ n = 4294967295) ∧ e = .returned (.tuple #[.int .u64 n, .iface 306 p]))

set_option maxHeartbeats 4000000 in
set_option maxRecDepth 100000 in
theorem puI_empty (w : World) :
    Calls Tryz.prog 161 #[.string ⟨#[]⟩, .int .i64 16, .int .i64 32] w fun e w' => e = .returned (hexT .syn) ∧ Below w.heap.size w w' := by
  go_enter Tryz.func161, Tryz.ntmps161
  go_wp2
  go_ret2
  exact ⟨rfl, Below.refl _ _⟩
theorem puI_all (s : ByteArray) (w : World) (hlim : s.size ≤ 1000000) :
    Calls Tryz.prog 161 #[.string s, .int .i64 16, .int .i64 32] w fun e w' => e = .returned (hexT (if s.data.toList = [] then .syn else hexP 0 s.data.toList)) ∧ Below w.heap.size w w' := by
  by_cases h : s.size = 0
  · have hs : s = ⟨#[]⟩ := by
      apply ByteArray.ext
      exact Array.eq_empty_of_size_eq_zero h
    subst hs
    exact puI_empty w
  · rw [if_neg (fun e => h (by rw [Lib.size_eq, e]; rfl))]
    exact puI_any s h hlim w

def PuQ (l : List UInt8) (w w' : World) (e : Ending) : Prop := PuPost l e ∧ Below w.heap.size w w'

set_option maxHeartbeats 4000000 in
set_option maxRecDepth 100000 in
theorem pu_any (s : ByteArray) (w : World) (hlim : s.size ≤ 1000000) (h1 : ErrVar w 3) (h2 : ErrVar w 4) :
    Calls Tryz.prog 138 #[.string s, .int .i64 16, .int .i64 32] w fun e w' => PuQ s.data.toList w w' e := by
  have H1 := Lib.hid h1
  have H2 := Lib.hid h2
  clear h1 h2
  have hI := puI_all s w hlim
  obtain ⟨r, hr⟩ : ∃ r, r = (if s.data.toList = [] then HexR.syn else hexP 0 s.data.toList) := ⟨_, rfl⟩
  rw [← hr] at hI
  have HR := Lib.hid hr
  clear hr
  cases r with
  | ok n =>
    go_enter Tryz.func138, Tryz.ntmps138
    go_wp2_with (go_at_call 161; refine hI.mono ?_; unfold hexT; rintro e w1 ⟨rfl, hB⟩)
    go_ret2
    have := HR.out
    by_cases h0 : s.data.toList = []
    · rw [if_pos h0] at this; cases this
    · rw [if_neg h0] at this
      exact ⟨.inl ⟨n, this.symm, h0, rfl⟩, hB⟩
  | syn =>
    go_enter Tryz.func138, Tryz.ntmps138
    go_wp2_with (first
      | (go_at_call 161; refine hI.mono ?_; unfold hexT; rintro e w1 ⟨rfl, hB⟩)
      | (go_at_call 162; refine (toError_any _ s 2 (.inr rfl) w1 hlim (H1.out.below hB) (H2.out.below hB)).mono ?_; rintro e w2 ⟨N, rfl, hB2⟩))
    go_ret2
    refine ⟨.inr ⟨?_, 0, _, .inl rfl, rfl⟩, hB.trans (hB2.mono hB.size)⟩
    have := HR.out
    by_cases h0 : s.data.toList = []
    · exact .inl h0
    · rw [if_neg h0] at this
      exact .inr (by rw [← this]; intro n h; cases h)
  | rng =>
    go_enter Tryz.func138, Tryz.ntmps138
    go_wp2_with (first
      | (go_at_call 161; refine hI.mono ?_; unfold hexT; rintro e w1 ⟨rfl, hB⟩)
      | (go_at_call 162; refine (toError_any _ s 1 (.inl rfl) w1 hlim (H1.out.below hB) (H2.out.below hB)).mono ?_; rintro e w2 ⟨N, rfl, hB2⟩))
    go_ret2
    refine ⟨.inr ⟨?_, 4294967295, _, .inr rfl, rfl⟩, hB.trans (hB2.mono hB.size)⟩
    have := HR.out
    by_cases h0 : s.data.toList = []
    · exact .inl h0
    · rw [if_neg h0] at this
      exact .inr (by rw [← this]; intro n h; cases h)

end Go.Proofs.YtmbjjheaddhmeaaGreatDoor

namespace Go.Proofs.YtmbjjheaddhmeaaGreatDoor
open Go.RowKit

theorem hexP_append (l m : List UInt8) : ∀ acc, hexP acc (l ++ m) = match hexP acc l with | .ok n => hexP n m | e => e := by
  induction l with
  | nil => intro acc; rfl
  | cons c l ih =>
    intro acc
    rw [List.cons_append, hexP, hexP]
    split
    · split
      · exact ih _
      · rfl
    · rfl
theorem hexD_nat (d : Nat) (h : d < 16) : (hexD d).toNat = (if d < 10 then 48 + d else 87 + d) ∧ dgt (hexD d).toNat = d := by
  have : ∀ p : Fin 16, (hexD p.val).toNat = (if p.val < 10 then 48 + p.val else 87 + p.val) ∧ dgt (hexD p.val).toNat = p.val := by decide +kernel
  exact this ⟨d, h⟩
theorem hexP_hexK (g : Nat) : ∀ u, u < 16 ^ (g + 1) → u ≤ 4294967295 → hexP 0 (hexK g u) = .ok u := by
  induction g with
  | zero =>
    intro u h _
    have h' : u < 16 := by simpa using h
    rw [hexK, hexP, (hexD_nat u h').2, if_pos h', if_pos (by omega), hexP]; simp
  | succ g ih =>
    intro u h h2
    rw [hexK]
    split
    · rename_i h'
      rw [hexP, (hexD_nat u h').2, if_pos h', if_pos (by omega), hexP]; simp
    · rename_i h'
      have hd : u / 16 < 16 ^ (g + 1) := by
        have : u < 16 ^ (g + 1) * 16 := h
        exact Nat.div_lt_of_lt_mul (by omega)
      rw [hexP_append, ih (u / 16) hd (by omega)]
      show hexP (u / 16) [hexD (u % 16)] = _
      rw [hexP, (hexD_nat (u % 16) (by omega)).2, if_pos (by omega), if_pos (by omega), hexP]
      congr 1; omega
theorem hexK_chars (g : Nat) : ∀ u, u < 16 ^ (g + 1) → ∀ c ∈ hexK g u, ∃ d, d < 16 ∧ c = hexD d := by
  induction g with
  | zero =>
    intro u h c hc
    rw [hexK, List.mem_singleton] at hc
    exact ⟨u, by simpa using h, hc⟩
  | succ g ih =>
    intro u h c hc
    rw [hexK] at hc
    split at hc
    · rw [List.mem_singleton] at hc; exact ⟨u, by assumption, hc⟩
    · rcases List.mem_append.1 hc with hc | hc
      · have hd : u / 16 < 16 ^ (g + 1) := by
          have : u < 16 ^ (g + 1) * 16 := h
          exact Nat.div_lt_of_lt_mul (by omega)
        exact ih _ hd c hc
      · rw [List.mem_singleton] at hc; exact ⟨u % 16, by omega, hc⟩
theorem hexD_ne (d : Nat) (h : d < 16) : hexD d ≠ 125 ∧ hexD d ≠ 123 := by
  have : ∀ p : Fin 16, hexD p.val ≠ 125 ∧ hexD p.val ≠ 123 := by decide +kernel
  exact this ⟨d, h⟩
theorem hexK_ne (g u : Nat) : hexK g u ≠ [] := by
  cases g with
  | zero => simp [hexK]
  | succ g => rw [hexK]; split <;> simp
theorem hexK_len6 (g : Nat) : ∀ u k, u < 16 ^ (k + 1) → k ≤ g → (hexK g u).length ≤ k + 1 := by
  induction g with
  | zero => intro u k _ _; simp [hexK]
  | succ g ih =>
    intro u k h hk
    rw [hexK]
    split
    · simp
    · cases k with
      | zero => simp at h; omega
      | succ k =>
        have hd : u / 16 < 16 ^ (k + 1) := by
          have : u < 16 ^ (k + 1) * 16 := h
          exact Nat.div_lt_of_lt_mul (by omega)
        have := ih (u / 16) k hd (by omega)
        simp; omega
theorem hexK_two (m : Nat) (h0 : 16 ≤ m) (h : m < 256) : hexK 5 m = [hexD (m / 16), hexD (m % 16)] := by
  rw [hexK, if_neg (by omega), hexK, if_pos (by omega)]; rfl

theorem indexByte_append (c : UInt8) (l m : List UInt8) (h : ∀ x ∈ l, x ≠ c) (hm : Lib.indexByte m c = 0) : Lib.indexByte (l ++ m) c = l.length := by
  induction l with
  | nil => simpa using hm
  | cons x l ih =>
    have hx := h x List.mem_cons_self
    have := ih (fun y hy => h y (List.mem_cons_of_mem _ hy))
    rw [List.cons_append, Lib.indexByte, this]
    simp only [beq_iff_eq, hx, if_false]
    rw [if_neg (by simp)]
    simp
theorem indexByte_lt (l : List UInt8) (c : UInt8) : -1 ≤ Lib.indexByte l c ∧ Lib.indexByte l c < l.length := by
  induction l with
  | nil => simp [Lib.indexByte]
  | cons x l ih =>
    rw [Lib.indexByte]
    split
    · simp
    · split
      · simp; omega
      · simp; omega

/-- Where a written point would end; its digits. -/
def rdEnd (l : List UInt8) : Int := if Lib.hasPrefix l [92, 117, 123] then Lib.indexByte l 125 + 1 else 4
def rdDig (l : List UInt8) (n : Nat) : List UInt8 := Lib.trimSuffix (Lib.trimPrefix ((l.take n).drop 2) [123]) [125]

theorem hasPrefix_append (a b : List UInt8) : Lib.hasPrefix (a ++ b) a = true := by
  simp [Lib.hasPrefix]

/-- A text that begins with a written point. -/
theorem rd_comp {r : Int} {l : List UInt8} (hr : ptB r = true) (hp : wr r <+: l) :
    rdEnd l = ((wr r).length : Int) ∧ 4 ≤ (wr r).length ∧ (wr r).length ≤ 10 ∧ (wr r).length ≤ l.length ∧ rdDig l (wr r).length ≠ [] ∧
    ∃ m : Nat, hexP 0 (rdDig l (wr r).length) = .ok m ∧ m ≤ 1114111 ∧ r = (m : Int) + (if l[1]?.getD 0 = 120 then 1114112 else 0) := by
  obtain ⟨t, rfl⟩ := hp
  simp only [ptB, decide_eq_true_eq] at hr
  have htk : ∀ a b : List UInt8, (a ++ b).take a.length = a := fun a b => by simp
  by_cases hx : r > 1114111
  · obtain ⟨m, hm⟩ : ∃ m : Nat, r = (m : Int) + 1114112 := ⟨(r - 1114112).toNat, by omega⟩
    have e : wr r = [92, 120] ++ hexK 5 m := by unfold wr; rw [if_pos hx, show (r - 1114112).toNat = m by omega]
    have e2 := hexK_two m (by omega) (by omega)
    have q1 := hexD_ne (m / 16) (by omega); have q2 := hexD_ne (m % 16) (by omega)
    have hK := hexP_hexK 5 m (by omega) (by omega)
    rw [e, e2]
    rw [e2] at hK
    have hd : rdDig ([92, 120] ++ [hexD (m / 16), hexD (m % 16)] ++ t) ([92, 120] ++ [hexD (m / 16), hexD (m % 16)] : List UInt8).length = [hexD (m / 16), hexD (m % 16)] := by
      unfold rdDig
      rw [htk]
      have h1 : Lib.hasPrefix [hexD (m / 16), hexD (m % 16)] [123] = false := by simp [Lib.hasPrefix, List.isPrefixOf, q1.2.symm]
      have h2 : Lib.hasSuffix [hexD (m / 16), hexD (m % 16)] [125] = false := by simp [Lib.hasSuffix, List.isSuffixOf, List.isPrefixOf, q2.1.symm]
      show Lib.trimSuffix (Lib.trimPrefix [hexD (m / 16), hexD (m % 16)] [123]) [125] = _
      unfold Lib.trimPrefix; rw [h1]; simp only [Bool.false_eq_true, if_false]
      unfold Lib.trimSuffix; rw [h2]; simp
    refine ⟨?_, by simp, by simp, by simp, by rw [hd]; simp, m, by rw [hd]; exact hK, by omega, ?_⟩
    · unfold rdEnd; rw [if_neg (by simp [Lib.hasPrefix, List.isPrefixOf])]; rfl
    · rw [hm]; simp
  · obtain ⟨m, hm⟩ : ∃ m : Nat, r = (m : Int) := ⟨r.toNat, by omega⟩
    have e : wr r = [92, 117, 123] ++ hexK 5 m ++ [125] := by unfold wr; rw [if_neg hx, show r.toNat = m by omega]
    have hK := hexP_hexK 5 m (by omega) (by omega)
    have hne := hexK_ne 5 m
    have hl := hexK_len6 5 m 5 (by omega) (by omega)
    have hc := hexK_chars 5 m (by omega)
    have hl1 : 1 ≤ (hexK 5 m).length := List.length_pos_iff.2 hne
    rw [e]
    generalize hexK 5 m = ds at *
    have hd : rdDig ([92, 117, 123] ++ ds ++ [125] ++ t) ([92, 117, 123] ++ ds ++ [125] : List UInt8).length = ds := by
      unfold rdDig
      rw [htk]
      show Lib.trimSuffix (Lib.trimPrefix (123 :: (ds ++ [125])) [123]) [125] = _
      unfold Lib.trimPrefix
      rw [show Lib.hasPrefix (123 :: (ds ++ [125])) [123] = true by simp [Lib.hasPrefix]]
      simp only [if_true]
      show Lib.trimSuffix (ds ++ [125]) [125] = _
      unfold Lib.trimSuffix
      rw [show Lib.hasSuffix (ds ++ [125]) [125] = true by simp [Lib.hasSuffix, List.isSuffixOf]]
      simp
    refine ⟨?_, by simp, by simp; omega, by simp, by rw [hd]; exact hne, m, by rw [hd]; exact hK, by omega, by rw [hm]; simp⟩
    unfold rdEnd
    rw [if_pos (by simp [Lib.hasPrefix]), List.append_assoc, indexByte_append 125 ([92, 117, 123] ++ ds) ([125] ++ t) ?_ (by simp [Lib.indexByte])]
    · simp
    · intro x hx
      rcases List.mem_append.1 hx with h | h
      · simp at h; rcases h with rfl | rfl | rfl <;> decide
      · obtain ⟨d, hd, rfl⟩ := hc x h
        exact (hexD_ne d hd).1

theorem rd_uniq {r r' : Int} {l : List UInt8} (hr : ptB r = true) (hp : wr r <+: l) (hr' : ptB r' = true) (hp' : wr r' <+: l) : r = r' := by
  obtain ⟨a1, _, _, _, _, m, a2, _, a3⟩ := rd_comp hr hp
  obtain ⟨b1, _, _, _, _, k, b2, _, b3⟩ := rd_comp hr' hp'
  have : (wr r).length = (wr r').length := by omega
  rw [← this, a2] at b2
  injection b2 with h
  rw [a3, b3, h]

/-- The point that is written at the head of a text. -/
noncomputable def rdF (l : List UInt8) : Option Int := by
  classical exact if h : ∃ r, ptB r = true ∧ wr r <+: l then some (Classical.choose h) else none
theorem rdF_some {r : Int} {l : List UInt8} (hr : ptB r = true) (hp : wr r <+: l) : rdF l = some r := by
  have h : ∃ r, ptB r = true ∧ wr r <+: l := ⟨r, hr, hp⟩
  unfold rdF
  rw [dif_pos h]
  exact congrArg some (rd_uniq (Classical.choose_spec h).1 (Classical.choose_spec h).2 hr hp)
theorem rdF_spec {r : Int} {l : List UInt8} (h : rdF l = some r) : ptB r = true ∧ wr r <+: l := by
  unfold rdF at h
  split at h
  · rename_i h'
    obtain rfl := Option.some.inj h
    exact Classical.choose_spec h'
  · cases h
theorem rdF_none {l : List UInt8} (h : ∀ r, ptB r = true → ¬ wr r <+: l) : rdF l = none := by
  cases e : rdF l with
  | none => rfl
  | some r => exact absurd (rdF_spec e).2 (h r (rdF_spec e).1)

end Go.Proofs.YtmbjjheaddhmeaaGreatDoor
