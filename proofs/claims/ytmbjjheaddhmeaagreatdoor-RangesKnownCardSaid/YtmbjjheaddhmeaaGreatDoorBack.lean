/- RangesBack: the walk. -/
import Derived.Test.YtmbjjheaddhmeaaGreatDoorAll
import Derived.Test.YtmbjjheaddhmeaaGreatDoorForms
import Derived.BigQuiet
import Derived.Deep.QuietTactic
namespace Go.Proofs.YtmbjjheaddhmeaaGreatDoor
open Go.RowKit Go.Shelf
attribute [local go_sem] Oper.semAt_some

theorem runL_count {lo hi : Int} (n : Nat) : ∀ {lo : Int}, PtE lo → ptB hi = true → numP lo ≤ numP hi + 1 → numP hi + 1 - numP lo = n → (runL (lo, hi)).length = n := by
  induction n with
  | zero =>
    intro lo hl hh hle he
    have h1 := numP_ptE hl; have h2 := numP_pt hh
    rw [runL_stop (by omega)]; rfl
  | succ n ih =>
    intro lo hl hh hle he
    have h1 := numP_ptE hl; have h2 := numP_pt hh
    have hlo : ptB lo = true := hl.elim id (fun e => by subst e; have := numP_end; omega)
    obtain ⟨n1, n2⟩ := nextP_pt hlo
    rw [runL_step (by omega), List.length_cons, ih n1 hh (by omega) (by omega)]
theorem allF_count {l : List (Int × Int)} : ∀ {f : Int}, Pts l → Can f (l.map nm) → countF l = ((allF l).length : Int) := by
  induction l with
  | nil => intro f _ _; simp [countF, allF]
  | cons x l ih =>
    intro f hp hc
    obtain ⟨⟨p1, p2⟩, hp'⟩ := Pts.cons.1 hp
    obtain ⟨c1, c2, c3, c4⟩ := hc
    have c2' : numP x.1 ≤ numP x.2 := c2
    have h1 := numP_pt p1; have h2 := numP_pt p2
    have hr := runL_count (lo := 0) (hi := x.2) (numP x.2 + 1 - numP x.1).toNat (.inl p1) p2 (by omega) (by omega)
    have hi := ih hp' c4
    rw [countF_nums] at hi ⊢
    have e : allF (x :: l) = runL x ++ allF l := by simp [allF]
    rw [List.map_cons, countN, hi, e, List.length_append]
    show (numP x.2 - numP x.1 + 1) + _ = (((runL (x.1, x.2)).length + (allF l).length : Nat) : Int)
    rw [hr]
    push_cast
    omega
theorem runL_in (hi : Int) (n : Nat) : ∀ {lo r : Int}, PtE lo → ptB hi = true → numP hi + 1 - numP lo = n → r ∈ runL (lo, hi) → ptB r = true ∧ numP lo ≤ numP r ∧ numP r ≤ numP hi := by
  induction n with
  | zero =>
    intro lo r hl hh he hr
    have h1 := numP_ptE hl; have h2 := numP_pt hh
    rw [runL_stop (by omega)] at hr; cases hr
  | succ n ih =>
    intro lo r hl hh he hr
    have h1 := numP_ptE hl; have h2 := numP_pt hh
    have hlo : ptB lo = true := hl.elim id (fun e => by subst e; have := numP_end; omega)
    obtain ⟨n1, n2⟩ := nextP_pt hlo
    rw [runL_step (by omega), List.mem_cons] at hr
    rcases hr with rfl | hr
    · exact ⟨hlo, by omega, by omega⟩
    · have := ih n1 hh (by omega) hr
      exact ⟨this.1, by omega, this.2.2⟩
theorem memB_of {l : List (Int × Int)} {x : Int × Int} {r : Int} (hx : x ∈ l) (h1 : x.1 ≤ r) (h2 : r ≤ x.2) : memB r l = true := by
  induction l with
  | nil => cases hx
  | cons y l ih =>
    rw [memB, Bool.or_eq_true]
    rcases List.mem_cons.1 hx with rfl | hx
    · left; simp [h1, h2]
    · exact .inr (ih hx)
theorem allF_mem {l : List (Int × Int)} (hp : Pts l) (hc : ∀ x ∈ l, x.1 ≤ x.2) {r : Int} (hr : r ∈ allF l) : ptB r = true ∧ memB (numP r) (l.map nm) = true := by
  obtain ⟨x, hx, hr⟩ := List.mem_flatMap.1 hr
  obtain ⟨p1, p2⟩ := hp x hx
  have h0 := hc x hx
  have h1 := numP_pt p1; have h2 := numP_pt p2
  have := runL_in x.2 (numP x.2 + 1 - numP x.1).toNat (.inl p1) p2 (by omega) hr
  exact ⟨this.1, memB_of (List.mem_map_of_mem hx) this.2.1 this.2.2⟩

/-- A span of a set of points, by its place. -/
theorem can_at {l : List (Int × Int)} (hp : Pts l) (hc : Can 0 (l.map nm)) (i : Nat) (hi : i < l.length) :
    ptB (l[i]?.getD (0, 0)).1 = true ∧ ptB (l[i]?.getD (0, 0)).2 = true ∧ (l[i]?.getD (0, 0)).1 ≤ (l[i]?.getD (0, 0)).2 ∧ memB (numP (l[i]?.getD (0, 0)).1) (l.map nm) = true ∧ memB (numP (l[i]?.getD (0, 0)).2) (l.map nm) = true ∧
    (0 < i → (l[i - 1]?.getD (0, 0)).2 + 1 < (l[i]?.getD (0, 0)).1) := by
  have e : l[i]?.getD (0, 0) = l[i] := by simp [hi]
  have hm : l[i] ∈ l := List.getElem_mem hi
  obtain ⟨p1, p2⟩ := hp _ hm
  have h0 := can_le hc hp _ hm
  have h1 := numP_pt p1; have h2 := numP_pt p2
  rw [e]
  refine ⟨p1, p2, h0, memB_of (List.mem_map_of_mem hm) (Int.le_refl _) (by show numP _ ≤ numP _; omega), memB_of (List.mem_map_of_mem hm) (by show numP _ ≤ numP _; omega) (Int.le_refl _), fun h => ?_⟩
  have hi' : i - 1 < l.length := by omega
  have e' : l[i - 1]?.getD (0, 0) = l[i - 1] := by simp [hi']
  rw [e']
  have hq := (hp _ (List.getElem_mem hi')).2
  have hs : l.map nm = (l.take i).map nm ++ nm l[i] :: (l.drop (i + 1)).map nm := by
    rw [← List.map_cons, ← List.drop_eq_getElem_cons hi, ← List.map_append, List.take_append_drop]
  have hs2 : l.take i = l.take (i - 1) ++ [l[i - 1]] := by
    have := List.take_succ_eq_append_getElem hi'
    rwa [show i - 1 + 1 = i by omega] at this
  rw [hs, hs2, List.map_append, List.map_singleton, List.append_assoc] at hc
  obtain ⟨_, _, c1, c2, c3, c4⟩ := can_append hc
  obtain ⟨c5, _⟩ := c4
  have h3 := numP_pt hq
  have c5' : numP l[i - 1].2 + 2 ≤ numP l[i].1 := c5
  omega

theorem of_rep_can {v : Value} {l : List (Int × Int)} {w : World} (hv : Spans w v l) (hl : l.length ≤ 90000) (hp : Pts l) (hc : Can 0 (l.map nm)) :
    Calls Tryz.prog 8 #[v] w fun e w' => ∃ b, e = .returned (.tuple #[.pointer (some ⟨b, 0, none⟩), .nilIface]) ∧ Rep w' (.pointer (some ⟨b, 0, none⟩)) (fun r => memB r (l.map nm)) l.length ∧ Below w.heap.size w w' := by
  refine (of_any v l w hv (by omega)).mono ?_
  rintro e w' (⟨k, hk, _, hn, _⟩ | ⟨h0, p, l', rfl, hpm, hw, hs, hB⟩)
  · refine absurd ?_ hn
    have hm : gtS l k = l[k] := by simp [gtS, hk]
    have hmem : l[k] ∈ l := List.getElem_mem hk
    rw [hm]
    unfold ofNo
    rw [if_neg (by simp [(hp _ hmem).1, (hp _ hmem).2]), if_neg (by have := can_le hc hp _ hmem; omega)]
  · have hr := rep_merge (k := l.length) (P := fun r => memB r (l.map nm)) hs (fun x hx => hp x (hpm.mem_iff.1 hx)) (fun x hx => can_le hc hp x (hpm.mem_iff.1 hx)) hw (by rw [hpm.length_eq]; omega) (fun r _ _ => memB_perm (hpm.map nm) r)
    obtain ⟨b, rfl⟩ := hr.ptr
    exact ⟨b, rfl, hr, hB⟩

end Go.Proofs.YtmbjjheaddhmeaaGreatDoor
