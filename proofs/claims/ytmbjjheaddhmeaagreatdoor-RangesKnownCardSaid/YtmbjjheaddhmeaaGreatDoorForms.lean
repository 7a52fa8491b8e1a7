/- RangesForms: the walk. -/
import Derived.Test.YtmbjjheaddhmeaaGreatDoorParse
import Derived.Test.YtmbjjheaddhmeaaGreatDoorDbOk
namespace Go.Proofs.YtmbjjheaddhmeaaGreatDoor
open Go.RowKit Go.Shelf

theorem string_of {s : ByteArray} {l : List UInt8} (h : s.data.toList = l) : (⟨l.toArray⟩ : ByteArray) = s := by
  apply ByteArray.ext; rw [← h]
theorem parseF_len {l : List UInt8} {r : List (Int × Int)} (h : parseF l = .ok r) : r.length ≤ l.length := by
  unfold parseF at h
  split at h
  · have := parseG_len _ h; simp at this; omega
  · cases h

set_option maxRecDepth 100000 in
set_option maxHeartbeats 2000000 in
theorem forms_any (s : ByteArray) (w : World) (h : RdOk w) :
    Calls Tryz.prog 81 #[.string s] w fun e w' => e = .returned (.bool true) ∧ Below w.heap.size w w' := by
  by_cases hs : 16384 < s.size
  · have hs' : (16384 : Int) < (s.size : Int) := by omega
    go_enter Tryz.func81, Tryz.ntmps81
    go_wp2
    go_ret
    exact ⟨rfl, Below.refl _ _⟩
  · have hs' : (s.size : Int) ≤ 16384 := by omega
    have hsn : s.size ≤ 16384 := by omega
    have H := Lib.hid h
    have hpa := parse_any s w (by omega) h
    clear h hs
    go_enter Tryz.func81, Tryz.ntmps81
    go_wp2_with (first
      | (go_at_call 26; refine hpa.mono ?_; clear hpa; rintro e w1 ⟨⟨no, k, _, rfl⟩ | ⟨r, b, hr, rfl, hset⟩, hB1⟩)
      | (go_at_call 12; refine (works_any (w := w1) (H.out.below hB1).1 (H.out.below hB1).2.1).mono ?_; rintro e w3 ⟨rfl, hB3⟩))
    · go_ret
      exact ⟨rfl, hB1.trans (hB3.mono hB1.size)⟩
    · obtain ⟨q1, q2, q3⟩ := parseF_ok hr
      have ql := parseF_len hr
      have qs := string_of q1
      have hp := print_any _ r w1 hset q2.bd (by rw [← Lib.size_eq] at ql; omega) (H.out.below hB1).1 (H.out.below hB1).2.1
      rw [qs] at hp
      clear hr q1 q2 q3 ql qs hset
      go_wp2_with (first
        | (go_at_call 37; refine hp.mono ?_; clear hp; rintro e w2 ⟨rfl, hB2⟩)
        | (go_at_call 12; refine (works_any (w := w2) ((H.out.below hB1).below hB2).1 ((H.out.below hB1).below hB2).2.1).mono ?_; rintro e w3 ⟨rfl, hB3⟩))
      go_ret
      exact ⟨rfl, hB1.trans ((hB2.mono hB1.size).trans (hB3.mono (Nat.le_trans hB1.size hB2.size)))⟩

end Go.Proofs.YtmbjjheaddhmeaaGreatDoor
