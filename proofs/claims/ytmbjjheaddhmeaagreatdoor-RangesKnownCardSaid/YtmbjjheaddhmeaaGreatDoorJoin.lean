/- Of. Spans of points, and the spans of their numbers. Of, Join, Less. SameSpans. -/
import Derived.Test.YtmbjjheaddhmeaaGreatDoorM
import Derived.Test.YtmbjjheaddhmeaaGreatDoorClone
import Derived.Test.YtmbjjheaddhmeaaGreatDoorTidy
import Derived.Deep.LoopGhost
import Derived.Test.YtmbjjheaddhmeaaGreatDoorLaw
import Derived.Test.YtmbjjheaddhmeaaGreatDoorBoth
import Derived.Test.YtmbjjheaddhmeaaGreatDoorNot
import Derived.Laws.AppendOwnNone
import Derived.Deep.QuietTactic
import Derived.BigQuiet
import Derived.Lib.Hide
namespace Go.Proofs.YtmbjjheaddhmeaaGreatDoor
open Go.RowKit

/-- Which error a span is: 0: none. -/
def ofNo (x : Int × Int) : Int := if ptB x.1 = false ∨ ptB x.2 = false then 8 else if x.2 < x.1 then 1 else 0
def gtS (l : List (Int × Int)) (i : Nat) : Int × Int := l[i]?.getD (0, 0)
theorem ptB_bd {r : Int} (h : ptB r = true) : 0 ≤ r ∧ r ≤ 1114367 := by simp [ptB] at h; omega
theorem ofNo_bd {l : List (Int × Int)} (h : ∀ j, j < l.length → ofNo (gtS l j) = 0) : Bd l := by
  intro x hx
  obtain ⟨i, hi, rfl⟩ := List.getElem_of_mem hx
  have := h i hi
  rw [show gtS l i = l[i] by simp [gtS, hi]] at this
  unfold ofNo at this
  split at this
  · cases this
  · rename_i h1
    simp at h1
    have := ptB_bd h1.1; have := ptB_bd h1.2; omega

def OfPost (l : List (Int × Int)) (w : World) (e : Ending) (w' : World) : Prop :=
  (∃ k, k < l.length ∧ (∀ j, j < k → ofNo (gtS l j) = 0) ∧ ofNo (gtS l k) ≠ 0 ∧ e = .returned (.tuple #[.pointer none, .iface 81 (.agg #[.int .i64 (ofNo (gtS l k)), .int .i64 0, .int .i64 k])]) ∧ Below w.heap.size w w') ∨
  ((∀ j, j < l.length → ofNo (gtS l j) = 0) ∧ ∃ p l', e = .returned (.tuple #[p, .nilIface]) ∧ l'.Perm l ∧ l'.Pairwise (fun a b : Int × Int => a.1 ≤ b.1) ∧ IsSet w' p (mergeF l') ∧ Below w.heap.size w w')

/-- The like, where the set's memory is new. -/
def OfPostO (l : List (Int × Int)) (w : World) (e : Ending) (w' : World) : Prop :=
  (∃ k, k < l.length ∧ (∀ j, j < k → ofNo (gtS l j) = 0) ∧ ofNo (gtS l k) ≠ 0 ∧ e = .returned (.tuple #[.pointer none, .iface 81 (.agg #[.int .i64 (ofNo (gtS l k)), .int .i64 0, .int .i64 k])]) ∧ Below w.heap.size w w') ∨
  ((∀ j, j < l.length → ofNo (gtS l j) = 0) ∧ ∃ p l', e = .returned (.tuple #[p, .nilIface]) ∧ l'.Perm l ∧ l'.Pairwise (fun a b : Int × Int => a.1 ≤ b.1) ∧ IsOwn w' w.heap.size p (mergeF l') ∧ Below w.heap.size w w')

set_option maxRecDepth 100000 in
set_option maxHeartbeats 2000000 in
theorem of_own (v : Value) (l : List (Int × Int)) (w : World) (hv : Spans w v l) (hl : l.length ≤ 1000000) :
    Calls Tryz.prog 8 #[v] w (OfPostO l w) := by
  have HV := Lib.hid hv
  obtain ⟨a, c, rfl, hA⟩ := hv
  go_enter Tryz.func8, Tryz.ntmps8
  go_wp2
  go_loopg [8] l.length (fun g i wr => ∃ (i0 : Nat), i = .int .i64 i0 ∧ i0 ≤ l.length ∧ l.length - i0 ≤ g ∧ Hid (∀ j, j < i0 → ofNo (gtS l j) = 0) ∧ Below w.heap.size w wr)
  case atStart => exact ⟨0, rfl, by omega, by omega, fun j hj => by omega, Below.refl _ _⟩
  case round =>
    obtain ⟨i, rfl, hi, hg, HO, hb⟩ := hrel
    by_cases hil : i < l.length
    · rcases hA with h | ⟨ba, oa, rfl, hA⟩
      · subst h; simp at hil
      obtain ⟨a1, a2⟩ := hA i hil
      have hgt : gtS l i = l[i]?.getD (0, 0) := rfl
      rw [← hgt] at a1 a2
      have a1' := (hb.cell (p := ⟨ba, oa + i * 2, none⟩) (cell_lt a1)).trans a1
      have a2' := (hb.cell (p := ⟨ba, oa + i * 2 + 1, none⟩) (cell_lt a2)).trans a2
      obtain ⟨p, q, hpq⟩ : ∃ p q, gtS l i = (p, q) := ⟨_, _, rfl⟩
      rw [hpq] at a1' a2'
      dsimp only at a1' a2'
      have HPQ := Lib.hid hpq
      have hil' : (i : Int) < (l.length : Int) := by omega
      clear a1 a2 hgt hpq hA
      have hp := point_any p
      have hq := point_any q
      have fin : ∀ n, ofNo (p, q) = n → n ≠ 0 → ∀ W, Below w.heap.size w W → OfPostO l w (.returned (.tuple #[.pointer none, .iface 81 (.agg #[.int .i64 n, .int .i64 0, .int .i64 i])])) W := fun n h1 h2 W hW =>
        .inl ⟨i, hil, HO.out, by rw [HPQ.out, h1]; exact h2, by rw [HPQ.out, h1], hW⟩
      have FIN := Lib.hid fin
      clear fin
      cases h1 : ptB p with
      | false =>
        rw [h1] at hp
        have e0 : ofNo (p, q) = 8 := by simp [ofNo, h1]
        have E0 := Lib.hid e0
        clear e0 h1 hq
        go_wp2_with (go_at_call 31; refine (hp _).mono ?_; rintro e w' ⟨rfl, rfl⟩)
        go_ret2
        exact FIN.out 8 E0.out (by omega) _ (hb.trans ((Below.refl _ _).alloc hb.size _))
      | true =>
        rw [h1] at hp
        have HP1 := Lib.hid h1
        clear h1
        cases h2 : ptB q with
        | false =>
          rw [h2] at hq
          have e0 : ofNo (p, q) = 8 := by simp [ofNo, h2]
          have E0 := Lib.hid e0
          clear e0 h2
          go_wp2_with fail
          refine (hp _).mono ?_
          rintro e w' ⟨rfl, rfl⟩
          go_wp2_with fail
          refine (hq _).mono ?_
          rintro e w' ⟨rfl, rfl⟩
          go_wp2
          go_ret2
          exact FIN.out 8 E0.out (by omega) _ (hb.trans ((Below.refl _ _).alloc hb.size _))
        | true =>
          rw [h2] at hq
          have HP2 := Lib.hid h2
          clear h2
          go_wp2_with fail
          refine (hp _).mono ?_
          rintro e w' ⟨rfl, rfl⟩
          go_wp2_with fail
          refine (hq _).mono ?_
          rintro e w' ⟨rfl, rfl⟩
          go_wp2
          · have hlt : q < p := by assumption
            go_ret2
            exact FIN.out 1 (by simp [ofNo, HP1.out, HP2.out, hlt]) (by omega) _ (hb.trans ((Below.refl _ _).alloc hb.size _))
          · have hlt : p ≤ q := by assumption
            go_roundg (gk - 1)
            case measure => omega
            case rel =>
              refine ⟨i + 1, by go_num, by omega, by omega, fun j hj => ?_, hb.trans ((Below.refl _ _).alloc hb.size _)⟩
              by_cases hji : j = i
              · subst hji; rw [HPQ.out]; simp [ofNo, HP1.out, HP2.out]; omega
              · exact HO.out j (by omega)
    · obtain rfl : i = l.length := by omega
      have HBD := Lib.hid (ofNo_bd HO.out)
      have hcl := clone_any _ l wr (HV.out.below hb) hl
      go_wp2_with fail
      refine hcl.mono ?_
      clear hcl
      rintro e w1 ⟨v1, rfl, hown, hb1⟩
      have htd := tidy_own v1 l wr.heap.size w1 HBD.out hown hb1.size hl
      clear hown
      go_wp2_with fail
      refine htd.mono ?_
      clear htd
      rintro e w2 ⟨p2, l2, rfl, hp2, hs2, hset, hb2⟩
      have HP2 := Lib.hid hp2
      have HS2 := Lib.hid hs2
      have HE2 := Lib.hid hset
      clear hp2 hs2 hset
      go_wp2
      go_ret2
      exact .inr ⟨HO.out, p2, l2, rfl, HP2.out, HS2.out, HE2.out.low hb.size, hb.trans ((hb1.trans hb2).mono hb.size)⟩

theorem of_any (v : Value) (l : List (Int × Int)) (w : World) (hv : Spans w v l) (hl : l.length ≤ 1000000) :
    Calls Tryz.prog 8 #[v] w (OfPost l w) :=
  (of_own v l w hv hl).mono fun _ _ h => h.imp id fun ⟨h1, p, l', h2, h3, h4, h5, h6⟩ => ⟨h1, p, l', h2, h3, h4, h5.isSet, h6⟩
end Go.Proofs.YtmbjjheaddhmeaaGreatDoor

namespace Go.Proofs.YtmbjjheaddhmeaaGreatDoor
open Go.RowKit

theorem numP_pt {r : Int} (h : ptB r = true) : (0 ≤ r ∧ r < 55296 ∧ numP r = r) ∨ (57344 ≤ r ∧ r ≤ 1114111 ∧ numP r = r - 2048) ∨ (1114240 ≤ r ∧ r ≤ 1114367 ∧ numP r = r - 2176) := by
  simp only [ptB, decide_eq_true_eq] at h
  unfold numP
  rcases h with h | h | h
  · left; rw [if_neg (by omega), if_neg (by omega)]; omega
  · right; left; rw [if_neg (by omega), if_pos (by omega)]; omega
  · right; right; rw [if_pos (by omega)]; omega
theorem numP_end : numP 1114368 = 1112192 := rfl
/-- A point, or the end behind the last one. -/
def PtE (r : Int) : Prop := ptB r = true ∨ r = 1114368
theorem numP_ptE {r : Int} (h : PtE r) : (0 ≤ r ∧ r < 55296 ∧ numP r = r) ∨ (57344 ≤ r ∧ r ≤ 1114111 ∧ numP r = r - 2048) ∨ (1114240 ≤ r ∧ r ≤ 1114368 ∧ numP r = r - 2176) := by
  rcases h with h | rfl
  · have := numP_pt h; omega
  · right; right; exact ⟨by omega, by omega, rfl⟩
theorem nextP_pt {r : Int} (h : ptB r = true) : PtE (nextP r) ∧ numP (nextP r) = numP r + 1 := by
  have h1 := numP_pt h
  have h2 : PtE (nextP r) := by
    unfold PtE nextP
    simp only [ptB, decide_eq_true_eq] at *
    split
    · left; omega
    · split
      · left; omega
      · omega
  have h3 := numP_ptE h2
  refine ⟨h2, ?_⟩
  have h4 : nextP r = if r = 55295 then 57344 else if r = 1114111 then 1114240 else r + 1 := rfl
  split at h4
  · omega
  · split at h4 <;> omega
theorem lastP_pt {r : Int} (h : ptB r = true) (h0 : 0 < r) : ptB (lastP r) = true ∧ numP (lastP r) = numP r - 1 := by
  have h1 := numP_pt h
  have h2 : ptB (lastP r) = true := by
    unfold lastP
    simp only [ptB, decide_eq_true_eq] at *
    split
    · left; omega
    · split <;> omega
  have h3 := numP_pt h2
  refine ⟨h2, ?_⟩
  have h4 : lastP r = if r = 57344 then 55295 else if r = 1114240 then 1114111 else r - 1 := rfl
  split at h4
  · omega
  · split at h4 <;> omega
theorem ptB_max {a b : Int} (ha : ptB a = true) (hb : ptB b = true) : ptB (max a b) = true ∧ numP (max a b) = max (numP a) (numP b) := by
  have h1 := numP_pt ha; have h2 := numP_pt hb
  by_cases h : a ≤ b
  · rw [Int.max_eq_right h]; exact ⟨hb, by omega⟩
  · rw [Int.max_eq_left (by omega)]; exact ⟨ha, by omega⟩
theorem ptB_min {a b : Int} (ha : ptB a = true) (hb : ptB b = true) : ptB (min a b) = true ∧ numP (min a b) = min (numP a) (numP b) := by
  have h1 := numP_pt ha; have h2 := numP_pt hb
  by_cases h : a ≤ b
  · rw [Int.min_eq_left h]; exact ⟨ha, by omega⟩
  · rw [Int.min_eq_right (by omega)]; exact ⟨hb, by omega⟩

def nm (x : Int × Int) : Int × Int := (numP x.1, numP x.2)
def Pts (l : List (Int × Int)) : Prop := ∀ x ∈ l, ptB x.1 = true ∧ ptB x.2 = true
theorem Pts.bd {l : List (Int × Int)} (h : Pts l) : Bd l := fun x hx => by
  have h1 := numP_pt (h x hx).1; have h2 := numP_pt (h x hx).2; omega
theorem Pts.nil : Pts [] := fun x h => by cases h
theorem Pts.cons {x : Int × Int} {l : List (Int × Int)} : Pts (x :: l) ↔ (ptB x.1 = true ∧ ptB x.2 = true) ∧ Pts l := by simp [Pts]
theorem Pts.append {l m : List (Int × Int)} (h : Pts l) (k : Pts m) : Pts (l ++ m) := fun x hx => (List.mem_append.1 hx).elim (h x) (k x)
theorem nm_inj {x y : Int × Int} (hx : ptB x.1 = true ∧ ptB x.2 = true) (hy : ptB y.1 = true ∧ ptB y.2 = true) (h : nm x = nm y) : x = y := by
  have e1 : numP x.1 = numP y.1 := congrArg Prod.fst h
  have e2 : numP x.2 = numP y.2 := congrArg Prod.snd h
  have h1 := numP_pt hx.1; have h2 := numP_pt hx.2; have h3 := numP_pt hy.1; have h4 := numP_pt hy.2
  exact Prod.ext (by omega) (by omega)
theorem nums_inj {l : List (Int × Int)} : ∀ {m : List (Int × Int)}, Pts l → Pts m → l.map nm = m.map nm → l = m := by
  induction l with
  | nil => intro m _ _ h; exact (List.map_eq_nil_iff.1 h.symm).symm
  | cons x l ih =>
    intro m hl hm h
    cases m with
    | nil => cases h
    | cons y m =>
      rw [List.map_cons, List.map_cons] at h
      injection h with h1 h2
      rw [nm_inj (Pts.cons.1 hl).1 (Pts.cons.1 hm).1 h1, ih (Pts.cons.1 hl).2 (Pts.cons.1 hm).2 h2]

theorem notF_nums {l : List (Int × Int)} : ∀ {f : Int}, Pts l → PtE f → Can (numP f) (l.map nm) → (notF f l).map nm = notN (numP f) (l.map nm) ∧ Pts (notF f l) := by
  induction l with
  | nil =>
    intro f _ hf _
    have h1 := numP_ptE hf
    rw [notF, List.map_nil, notN]
    by_cases h : f ≤ 1114367
    · rw [if_pos h, if_pos (by omega)]
      refine ⟨rfl, Pts.cons.2 ⟨⟨?_, rfl⟩, Pts.nil⟩⟩
      rcases hf with hf | rfl
      · exact hf
      · omega
    · rw [if_neg h, if_neg (by omega)]; exact ⟨rfl, Pts.nil⟩
  | cons x l ih =>
    intro f hl hf hc
    obtain ⟨⟨p1, p2⟩, hl'⟩ := Pts.cons.1 hl
    rw [List.map_cons] at hc
    obtain ⟨h1, h2, h3, h4⟩ := hc
    obtain ⟨n1, n2⟩ := nextP_pt p2
    obtain ⟨i1, i2⟩ := ih hl' n1 (h4.mono (by show numP (nextP x.2) ≤ numP x.2 + 2; omega))
    have e1 := numP_ptE hf; have e2 := numP_pt p1
    rw [notF, List.map_append, i1, List.map_cons, notN, n2]
    show _ = (if numP f < numP x.1 then [(numP f, numP x.1 - 1)] else []) ++ notN (numP x.2 + 1) (l.map nm) ∧ _
    by_cases h : f < x.1
    · have := lastP_pt p1 (by omega)
      have hf' : ptB f = true := hf.elim id (fun e => by omega)
      rw [if_pos h, if_pos (by omega)]
      exact ⟨by simp [nm, this.2], Pts.append (Pts.cons.2 ⟨⟨hf', this.1⟩, Pts.nil⟩) i2⟩
    · rw [if_neg h, if_neg (by omega)]
      exact ⟨by simp, i2⟩

theorem bothF_nums (n : Nat) : ∀ {l m : List (Int × Int)}, l.length + m.length ≤ n → Pts l → Pts m → (bothF l m).map nm = bothN (l.map nm) (m.map nm) ∧ Pts (bothF l m) := by
  induction n with
  | zero =>
    intro l m hn _ _
    obtain rfl := List.eq_nil_of_length_eq_zero (show l.length = 0 by omega)
    rw [bothF, List.map_nil, bothN]; exact ⟨rfl, Pts.nil⟩
  | succ n ih =>
    intro l m hn hl hm
    cases l with
    | nil => rw [bothF, List.map_nil, bothN]; exact ⟨rfl, Pts.nil⟩
    | cons a l =>
      cases m with
      | nil => rw [bothF, List.map_nil, List.map_cons, bothN]; exact ⟨rfl, Pts.nil⟩
      | cons b m =>
        obtain ⟨⟨p1, p2⟩, hl'⟩ := Pts.cons.1 hl
        obtain ⟨⟨q1, q2⟩, hm'⟩ := Pts.cons.1 hm
        simp only [List.length_cons] at hn
        have e1 := numP_pt p2; have e2 := numP_pt q2
        obtain ⟨x1, x2⟩ := ptB_max p1 q1
        obtain ⟨y1, y2⟩ := ptB_min p2 q2
        have e3 := numP_pt x1; have e4 := numP_pt y1
        rw [bothF, List.map_append, List.map_cons, List.map_cons, bothN]
        have hd : List.map nm (if max a.1 b.1 ≤ min a.2 b.2 then [(max a.1 b.1, min a.2 b.2)] else []) = (if max (nm a).1 (nm b).1 ≤ min (nm a).2 (nm b).2 then [(max (nm a).1 (nm b).1, min (nm a).2 (nm b).2)] else []) ∧ Pts (if max a.1 b.1 ≤ min a.2 b.2 then [(max a.1 b.1, min a.2 b.2)] else []) := by
          show _ = (if max (numP a.1) (numP b.1) ≤ min (numP a.2) (numP b.2) then [(max (numP a.1) (numP b.1), min (numP a.2) (numP b.2))] else []) ∧ _
          rw [← x2, ← y2]
          by_cases h : max a.1 b.1 ≤ min a.2 b.2
          · rw [if_pos h, if_pos (by omega)]; exact ⟨rfl, Pts.cons.2 ⟨⟨x1, y1⟩, Pts.nil⟩⟩
          · rw [if_neg h, if_neg (by omega)]; exact ⟨rfl, Pts.nil⟩
        rw [hd.1]
        have hc : (a.2 < b.2) ↔ ((nm a).2 < (nm b).2) := by show _ ↔ numP a.2 < numP b.2; omega
        by_cases h : a.2 < b.2
        · rw [if_pos h, if_pos (hc.1 h)]
          obtain ⟨i1, i2⟩ := ih (l := l) (m := b :: m) (by simp; omega) hl' hm
          rw [i1]; exact ⟨rfl, hd.2.append i2⟩
        · rw [if_neg h, if_neg (fun e => h (hc.2 e))]
          obtain ⟨i1, i2⟩ := ih (l := a :: l) (m := m) (by simp; omega) hl hm'
          rw [i1]; exact ⟨rfl, hd.2.append i2⟩

theorem foldl_mg (l : List (Int × Int)) : ∀ (out : List (Int × Int)) (y : Int × Int), Pts (out ++ [y]) → Pts l → (l.foldl mstep (out ++ [y])).map nm = out.map nm ++ mg (nm y) (l.map nm) ∧ Pts (l.foldl mstep (out ++ [y])) := by
  induction l with
  | nil => intro out y hp _; exact ⟨by simp [mg], hp⟩
  | cons x l ih =>
    intro out y hp hl
    obtain ⟨⟨p1, p2⟩, hl'⟩ := Pts.cons.1 hl
    have hy := hp y (by simp)
    have ho : Pts out := fun z hz => hp z (by simp [hz])
    obtain ⟨n1, n2⟩ := nextP_pt hy.2
    have e1 := numP_ptE n1; have e2 := numP_pt p1
    rw [List.foldl_cons, mstep_snoc, List.map_cons, mg]
    have hc : (x.1 ≤ nextP y.2) ↔ (nm x).1 ≤ (nm y).2 + 1 := by show _ ↔ numP x.1 ≤ numP y.2 + 1; omega
    by_cases h : x.1 ≤ nextP y.2
    · rw [if_pos h, if_pos (hc.1 h)]
      obtain ⟨m1, m2⟩ := ptB_max hy.2 p2
      obtain ⟨i1, i2⟩ := ih out (y.1, max y.2 x.2) (ho.append (Pts.cons.2 ⟨⟨hy.1, m1⟩, Pts.nil⟩)) hl'
      rw [i1]
      refine ⟨?_, i2⟩
      show _ ++ mg (numP y.1, numP (max y.2 x.2)) _ = _ ++ mg ((nm y).1, max (numP y.2) (numP x.2)) _
      rw [m2]; rfl
    · rw [if_neg h, if_neg (fun e => h (hc.2 e))]
      obtain ⟨i1, i2⟩ := ih (out ++ [y]) x (hp.append (Pts.cons.2 ⟨⟨p1, p2⟩, Pts.nil⟩)) hl'
      rw [i1]
      exact ⟨by simp, i2⟩
theorem mergeF_nums (x : Int × Int) (l : List (Int × Int)) (hp : Pts (x :: l)) : (mergeF (x :: l)).map nm = mg (nm x) (l.map nm) ∧ Pts (mergeF (x :: l)) := by
  obtain ⟨i1, i2⟩ := foldl_mg l [] x (Pts.cons.2 ⟨(Pts.cons.1 hp).1, Pts.nil⟩) (Pts.cons.1 hp).2
  exact ⟨i1, i2⟩
theorem mergeF_can {l : List (Int × Int)} (hp : Pts l) (ho : ∀ x ∈ l, x.1 ≤ x.2) (hs : l.Pairwise (fun a b : Int × Int => a.1 ≤ b.1)) : Can 0 ((mergeF l).map nm) ∧ Pts (mergeF l) ∧ ∀ r, memB r ((mergeF l).map nm) = memB r (l.map nm) := by
  cases l with
  | nil => exact ⟨trivial, Pts.nil, fun r => rfl⟩
  | cons x l =>
    obtain ⟨i1, i2⟩ := mergeF_nums x l hp
    obtain ⟨p1, p2⟩ := (Pts.cons.1 hp).1
    have e1 := numP_pt p1; have e2 := numP_pt p2
    have e3 := ho x List.mem_cons_self
    have hs' := List.pairwise_cons.1 hs
    obtain ⟨j1, j2⟩ := mg_spec (l := l.map nm) (y := nm x) (by show numP x.1 ≤ numP x.2; omega) (by show numP x.2 ≤ 1112191; omega)
      (fun z hz => by
        obtain ⟨w, hw, rfl⟩ := List.mem_map.1 hz
        have f1 := numP_pt ((Pts.cons.1 hp).2 w hw).1; have f2 := numP_pt ((Pts.cons.1 hp).2 w hw).2
        have f3 := ho w (List.mem_cons_of_mem _ hw)
        have f4 := hs'.1 w hw
        show numP x.1 ≤ numP w.1 ∧ numP w.1 ≤ numP w.2 ∧ numP w.2 ≤ 1112191
        omega)
      (by
        rw [List.pairwise_map]
        refine List.Pairwise.imp_of_mem (fun {a b} ha hb hab => ?_) hs'.2
        have f1 := numP_pt ((Pts.cons.1 hp).2 a ha).1; have f2 := numP_pt ((Pts.cons.1 hp).2 b hb).1
        show numP a.1 ≤ numP b.1
        omega)
    rw [i1]
    exact ⟨j1.mono (by show 0 ≤ numP x.1; omega), i2, j2⟩
theorem memB_perm {l m : List (Int × Int)} (h : l.Perm m) (r : Int) : memB r l = memB r m := by
  induction h with
  | nil => rfl
  | cons x _ ih => rw [memB, memB, ih]
  | swap x y l => simp only [memB]; rw [← Bool.or_assoc, ← Bool.or_assoc, Bool.or_comm (decide (y.1 ≤ r) && decide (r ≤ y.2))]
  | trans _ _ ih1 ih2 => rw [ih1, ih2]
theorem countF_nums (l : List (Int × Int)) : countF l = countN (l.map nm) := by
  have h : ∀ (l : List (Int × Int)) (s : Int), l.foldl (fun s x => s + (numP x.2 - numP x.1 + 1)) s = s + countN (l.map nm) := by
    intro l
    induction l with
    | nil => intro s; simp [countN]
    | cons x l ih => intro s; rw [List.foldl_cons, ih, List.map_cons, countN]; show _ = s + ((numP x.2 - numP x.1 + 1) + _); omega
  rw [countF, h]; omega

end Go.Proofs.YtmbjjheaddhmeaaGreatDoor

namespace Go.Proofs.YtmbjjheaddhmeaaGreatDoor
open Go.RowKit

theorem flat_append (l m : List (Int × Int)) : flat (l ++ m) = flat l ++ flat m := by simp [flat]
theorem Bd.append {l m : List (Int × Int)} (h1 : Bd l) (h2 : Bd m) : Bd (l ++ m) := fun x hx => (List.mem_append.1 hx).elim (h1 x) (h2 x)

theorem run_append_own_none_c {P : Program} {w : World} (base : Nat) (t ty e : TypeId) (i : TypeInfo) (size : Nat) (ht : P.underlying t = some (.slice e)) (hi : P.info? e = some i)
    (v : Value) (n : Nat) (xs : List Value) (hown : w.ownsRow base e size v n xs) (c : Nat) :
    (Builtin.append_ #[t, t] ty #[v, .slice none 0 c]).run P w = .ok v w := by
  rcases hown.2 with ⟨rfl, rfl⟩ | ⟨g, cap, cur, rfl, _, _, hnc, _⟩
  · simp [Builtin.append_, run_underlying ht, sizeOf, typeInfo, hi, Builtin.lenOf, Builtin.firstCells]
  · simp [Builtin.append_, run_underlying ht, sizeOf, typeInfo, hi, Builtin.lenOf, Builtin.firstCells, hnc, storeCells]

/-- 'append(v, u...)', spans onto what the call owns, as a step of a region that draws its order. -/
theorem step_append_spans {ops : Array Oper} {o : Oper} {a : Act} {w : World} {K : Act → World → Prop} {Q : Exit → Act → World → Prop} {E : Prop} (hgd : o.guard = none) (s x : Operand)
    (ho : o.op = .call { callee := .builtin .append, args := #[s, x], argTypes := #[22, 22] }) (base : Nat) (v : Value) (l m : List (Int × Int)) (hs : a.eval s = v) (hown : w.ownsRow base 39 2 v l.length (flat l))
    (u : Value) (hx : a.eval x = u) (hu : Spans w u m) (hlm : l.length + m.length ≤ 1000000) (hbase : base ≤ w.heap.size)
    (h : ∀ v' w', w'.ownsRow base 39 2 v' (l ++ m).length (flat (l ++ m)) → w.grownBy w' v.ownBlock → K (a.put o.dst v') w') :
    if Region.wanted o (yielded ops a.tmps) = true then Oper.wp Tryz.prog o a w K Q else E := by
  obtain ⟨i0, hi0, hz0, hz1, hz2⟩ := info_parts Tryz.infoSpanC
  have hw : Region.wanted o (yielded ops a.tmps) = true := by simp [Region.wanted, hgd]
  rw [if_pos hw]
  obtain ⟨ad, c, rfl, hA⟩ := hu
  cases ad with
  | none =>
    obtain rfl : m = [] := by rcases hA with h | ⟨b, off, h, _⟩; · exact h
                              · cases h
    have hrun := run_append_own_none_c (P := Tryz.prog) (w := w) base 22 o.type 39 i0 2 Tryz.underlying22 hi0 v l.length (flat l) hown c
    unfold Oper.wp
    simp [execOp, ho, resolve, invoke, builtin, hs, hx, hrun, Result.andThen]
    exact h v w (by simpa using hown) ⟨rfl, rfl, rfl, Nat.le_refl _, fun _ _ _ => rfl⟩
  | some ad =>
    have hc : ∀ j u, (flat m)[j]? = some u → w.cell? (ad.add j) = some u := by
      rcases hA with h | ⟨b, off, h, hA⟩
      · subst h; intro j u h; simp [flat] at h
      · cases h
        intro j u hu
        rw [add_lit]
        exact flat_cells hA j u hu
    obtain ⟨v', w', hrun, r1, r2, _⟩ := run_append_own (P := Tryz.prog) w base 22 o.type 39 i0 (.agg #[.int .i32 0, .int .i32 0]) 2 8 Tryz.underlying22 hi0 hz0 hz1 hz2 rfl (by decide) v l.length (flat l) hown ad m.length c (flat m) (flat_length m) hc (flat_one m) (by unfold maxLen; omega) (by omega) hbase
    unfold Oper.wp
    simp [execOp, ho, resolve, invoke, builtin, hs, hx, hrun, Result.andThen]
    exact h v' w' (by rw [List.length_append, flat_append]; exact r1) r2

set_option maxRecDepth 100000 in
set_option maxHeartbeats 2000000 in
theorem join_any (p q : Value) (l m : List (Int × Int)) (w : World) (hp : IsSet w p l) (hq : IsSet w q m) (hl : l.length + m.length ≤ 1000000) (hbl : Bd l) (hbm : Bd m) :
    Calls Tryz.prog 18 #[p, q] w fun e w' => ∃ p l', e = .returned p ∧ l'.Perm (l ++ m) ∧ l'.Pairwise (fun a b : Int × Int => a.1 ≤ b.1) ∧ IsSet w' p (mergeF l') ∧ Below w.heap.size w w' := by
  obtain ⟨pa, va, rfl, h1, hA⟩ := hp
  obtain ⟨pb, vb, rfl, h2, hB⟩ := hq
  have HA := Lib.hid hA
  have HB := Lib.hid hB
  have HBD := Lib.hid (Bd.append hbl hbm)
  have y1 : pa < w.heap.size := cell_lt h1
  have y2 : pb < w.heap.size := cell_lt h2
  clear hA hB hbl hbm
  go_enter Tryz.func18, Tryz.ntmps18
  go_wp2
  go_region_law ((first
    | (go_simp; go_at_call 33; refine (clone_any va l _ (HA.out.below (Below.refl _ _).drew) (by omega)).mono ?_; rintro e w1 ⟨v1, rfl, hown, hb1⟩; have hb1 : Below w.heap.size w w1 := ((Below.refl _ w).drew).trans hb1; have hown1 : Hid (w1.ownsRow w.heap.size 39 2 v1 l.length (flat l)) := hown; have HB1 := Lib.hid (HB.out.below hb1); have h2' := (hb1.cell (p := ⟨pb, 0, none⟩) y2).trans h2; have hbase1 : w.heap.size ≤ w1.heap.size := hb1.size; clear hown)
    | (go_simp; go_at_call 32; refine (tidy_any _ _ w.heap.size _ HBD.out hown2'.out hbase2 (by simp; omega)).mono ?_; rintro e w3 ⟨p3, l3, rfl, hp3, hs3, hset3, hb3⟩; have Hp3 := Lib.hid hp3; have Hs3 := Lib.hid hs3; have Hset3 := Lib.hid hset3; clear hp3 hs3 hset3)
    | (refine step_append_spans ?_ (.tmp 9) (.tmp 13) ?_ w.heap.size v1 l m ?_ ?_ vb ?_ ?_ hl ?_ ?_; (· rfl); (· rfl); (· rfl); (· exact hown1.out); (· rfl); (· exact HB1.out); (· exact hbase1); intro v2 w2 hown2 hgrow; have hown2' := Lib.hid hown2; have hb2 := hb1.grown hgrow hbase1 (fun k hk => (hown1.out.lt k hk).1); have hbase2 : w.heap.size ≤ w2.heap.size := Nat.le_trans hbase1 hgrow.size; clear hown2)))
  all_goals (go_wp2_with fail)
  all_goals (go_ret; exact ⟨p3, l3, rfl, Hp3.out, Hs3.out, Hset3.out, hb2.trans hb3⟩)

theorem notF_bd (l : List (Int × Int)) (hl : Bd l) : ∀ f : Int, 0 ≤ f → Bd (notF f l) := by
  induction l with
  | nil =>
    intro f hf x hx
    rw [notF] at hx
    split at hx
    · simp at hx; subst hx; dsimp only; omega
    · simp at hx
  | cons y l ih =>
    intro f hf x hx
    rw [notF] at hx
    have hy := hl y (by simp)
    rcases List.mem_append.1 hx with hx | hx
    · split at hx
      · simp at hx; subst hx
        dsimp only
        unfold lastP
        split
        · omega
        · split <;> omega
      · simp at hx
    · refine ih (fun z hz => hl z (by simp [hz])) _ ?_ x hx
      unfold nextP
      split
      · omega
      · split <;> omega
theorem notF_len (l : List (Int × Int)) : ∀ f : Int, (notF f l).length ≤ l.length + 1 := by
  induction l with
  | nil => intro f; rw [notF]; split <;> simp
  | cons y l ih => intro f; rw [notF]; have := ih (nextP y.2); split <;> simp <;> omega

set_option maxRecDepth 100000 in
set_option maxHeartbeats 1000000 in
theorem less_any (p q : Value) (l m : List (Int × Int)) (w : World) (hp : IsSet w p l) (hq : IsSet w q m) (hl : l.length ≤ 99000) (hm : m.length ≤ 99000) (hbm : Bd m) :
    Calls Tryz.prog 22 #[p, q] w fun e w' => ∃ v, e = .returned v ∧ IsSet w' v (bothF l (notF 0 m)) ∧ Below w.heap.size w w' := by
  have hn := not_any q m w hq (by omega) hbm
  have HP := Lib.hid hp
  have hlen := notF_len m 0
  clear hq hp
  go_enter Tryz.func22, Tryz.ntmps22
  go_wp2_with fail
  refine hn.mono ?_
  rintro e w1 ⟨v1, rfl, hs, hb1⟩
  have h2 := both_any p v1 l (notF 0 m) w1 (HP.out.below hb1) hs (by omega) (by omega)
  clear hn hs
  go_wp2_with fail
  refine h2.mono ?_
  rintro e w2 ⟨v2, rfl, hs, hb2⟩
  have HS := Lib.hid hs
  clear h2 hs
  go_wp2
  go_ret
  exact ⟨v2, rfl, HS.out, hb1.trans (hb2.mono hb1.size)⟩

end Go.Proofs.YtmbjjheaddhmeaaGreatDoor

namespace Go.Proofs.YtmbjjheaddhmeaaGreatDoor
open Go.RowKit

theorem same_at (l m : List (Int × Int)) (h : l.length = m.length) (hs : ∀ j, j < l.length → l[j]?.getD (0, 0) = m[j]?.getD (0, 0)) : l = m := by
  apply List.ext_getElem h
  intro i h1 h2
  have := hs i h1
  simpa [h1, h2] using this

set_option maxRecDepth 100000 in
set_option maxHeartbeats 2000000 in
theorem sameSpans_any (v u : Value) (l m : List (Int × Int)) (w : World) (hv : Spans w v l) (hu : Spans w u m) (hl : l.length ≤ 1000000) (hm : m.length ≤ 1000000) :
    Calls Tryz.prog 40 #[v, u] w fun e w' => e = .returned (.bool (decide (l = m))) ∧ Below w.heap.size w w' := by
  obtain ⟨a, c, rfl, hA⟩ := hv
  obtain ⟨b, d, rfl, hB⟩ := hu
  by_cases hlen : l.length = m.length
  · have HL := Lib.hid hlen
    have hb0 : ((l.length : Int) != (m.length : Int)) = false := by rw [hlen]; simp
    clear hlen
    go_enter Tryz.func40, Tryz.ntmps40
    go_wp2
    go_loopg [5] l.length (fun g i wr => ∃ k : Nat, i = .int .i64 k ∧ k ≤ l.length ∧ l.length - k ≤ g ∧ Hid (∀ j, j < k → l[j]?.getD (0, 0) = m[j]?.getD (0, 0)) ∧ Below w.heap.size w wr)
    case atStart => exact ⟨0, rfl, by omega, by omega, fun j hj => by omega, Below.refl _ _⟩
    case round =>
      obtain ⟨k, rfl, hk, hg, HS, hb⟩ := hrel
      by_cases hkl : k < l.length
      · have hkm : k < m.length := by have := HL.out; omega
        rcases hA with h | ⟨ba, oa, rfl, hA⟩
        · subst h; simp at hkl
        rcases hB with h | ⟨bb, ob, rfl, hB⟩
        · subst h; simp at hkm
        obtain ⟨a1, a2⟩ := hA k hkl
        obtain ⟨b1, b2⟩ := hB k hkm
        have HH : Hid ((l[k]?.getD (0, 0) = m[k]?.getD (0, 0)) → ∀ j, j < k + 1 → l[j]?.getD (0, 0) = m[j]?.getD (0, 0)) := fun e j hj => by
          by_cases h : j = k
          · subst h; exact e
          · exact HS.out j (by omega)
        have HN : Hid (l[k]?.getD (0, 0) ≠ m[k]?.getD (0, 0) → l ≠ m) := fun h e => by subst e; exact h rfl
        generalize l[k]?.getD (0, 0) = xa at *
        generalize m[k]?.getD (0, 0) = xb at *
        obtain ⟨p, q⟩ := xa
        obtain ⟨r, s⟩ := xb
        dsimp only at a1 a2 b1 b2
        have a1' := (hb.cell (p := ⟨ba, oa + k * 2, none⟩) (cell_lt a1)).trans a1
        have a2' := (hb.cell (p := ⟨ba, oa + k * 2 + 1, none⟩) (cell_lt a2)).trans a2
        have b1' := (hb.cell (p := ⟨bb, ob + k * 2, none⟩) (cell_lt b1)).trans b1
        have b2' := (hb.cell (p := ⟨bb, ob + k * 2 + 1, none⟩) (cell_lt b2)).trans b2
        clear hA hB HS a1 a2 b1 b2
        have hkl' : (k : Int) < (l.length : Int) := by omega
        have hkm' : (k : Int) < (m.length : Int) := by omega
        have F1 := neq_span
        have F2 := neqG_span
        go_wp2
        go_quiet (fail)
        go_wp2
        · have ht : p = r → ¬ q = s := by
            intro e1 e2
            subst e1 e2
            simp at *
          go_ret
          exact ⟨ret_b (by symm; rw [decide_eq_false_iff_not]; exact HN.out (by intro e; cases e; exact ht rfl rfl)), hb.trans (below_drewN (Below.refl _ _) _)⟩
        · have ht : p = r ∧ q = s := by simp at *; omega
          go_roundg (gk - 1)
          case measure => omega
          case rel => exact ⟨k + 1, by go_num, by omega, by omega, HH.out (by rw [ht.1, ht.2]), below_drewN hb _⟩
      · obtain rfl : k = l.length := by omega
        have e : l = m := same_at l m HL.out HS.out
        have E := Lib.hid e
        clear e HS HL hA hB
        go_wp2
        go_ret
        exact ⟨ret_b (by simp [E.out]), hb⟩
  · have HL := Lib.hid hlen
    have hb0 : ((l.length : Int) != (m.length : Int)) = true := by simp; omega
    clear hlen
    go_enter Tryz.func40, Tryz.ntmps40
    go_wp2
    go_ret
    exact ⟨ret_b (by symm; rw [decide_eq_false_iff_not]; intro e; exact HL.out (by rw [e])), Below.refl _ _⟩

end Go.Proofs.YtmbjjheaddhmeaaGreatDoor
