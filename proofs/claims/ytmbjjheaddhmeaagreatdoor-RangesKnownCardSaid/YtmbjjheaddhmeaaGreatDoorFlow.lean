/- A region that draws its order, whose operations read or call, and whose calls make memory and hand back values that hang on the world: what is said of each operation's slot is said ahead, once; then each operation is shown by itself. -/
import Derived.BigQuiet
import Derived.Below
namespace Go.Proofs.YtmbjjheaddhmeaaGreatDoor
open Go Go.RowKit

/-- What is said of an operation's slot: its very value, or a relation to the world that growth keeps. -/
inductive FSp where
  | fix (v : Value)
  | rel (R : Value → World → Prop)
def FSp.holds : FSp → Value → World → Prop
  | .fix u, v, _ => v = u
  | .rel R, v, X => R v X

/-- The operation that writes slot d and stands ahead of o. -/
def wrOf (md : Region.Mode) (ops : Array Oper) (o : Oper) (d : Tmp) : Option Nat :=
  (List.range ops.size).find? fun j => ((ops[j]?).bind (·.dst) == some d) && o.after.any (fun e => Region.binds md e && e.on == j)
def sees (md : Region.Mode) (ops : Array Oper) (spec : List FSp) (a0 : Act) (o : Oper) (a : Act) (X : World) (d : Tmp) : Prop :=
  match wrOf md ops o d with
  | some j => match spec[j]? with
    | some s => s.holds (a.eval (.tmp d)) X
    | none => True
  | none => a.tmps[d]? = a0.tmps[d]?

def ancF (md : Region.Mode) (ops : Array Oper) : Nat → Nat → List Nat
  | 0, _ => []
  | f + 1, k => match ops[k]? with
    | none => []
    | some o => (o.after.toList.filter (fun e => Region.binds md e)).flatMap fun e => e.on :: ancF md ops f e.on
def bindsOn (md : Region.Mode) (o : Oper) (j : Nat) : Bool := o.after.any fun e => Region.binds md e && e.on == j

/-- What the law asks of the region's text. -/
def flowB (md : Region.Mode) (ops : Array Oper) (m sz : Nat) : Bool :=
  (List.range ops.size).all fun i => match ops[i]? with
    | none => false
    | some oi =>
      oi.after.all (fun e => !Region.binds md e || decide (e.on < i)) &&
      (if i < m then
        (match oi.dst with | some d => decide (d < sz) | none => true) &&
        (List.range m).all fun j => i == j || (match ops[j]? with
          | none => false
          | some oj => (match oj.dst with
            | none => true
            | some d => oi.dst != some d && (!(oi.looksAt ops).contains d || bindsOn md oi j || bindsOn md oj i)))
      else (List.range m).all fun j => (ancF md ops ops.size i).contains j)

section
variable {P : Program} {ops : Array Oper} {md : Region.Mode} {Q : Exit → Act → World → Prop}

structure FInv (md : Region.Mode) (ops : Array Oper) (spec : List FSp) (a0 : Act) (C : World → Prop) (m : Nat) (listed : Array Bool) (a : Act) (X : World) : Prop where
  cls : C X
  defers : a.defers = a0.defers
  size : a.tmps.size = a0.tmps.size
  lsize : listed.size = ops.size
  low : ∀ j, m ≤ j → listed.getD j false = false
  down : ∀ (j : Nat) o, ops[j]? = some o → listed.getD j false = true → ∀ e ∈ o.after, Region.binds md e = true → listed.getD e.on false = true
  val : ∀ (j : Nat) o s, ops[j]? = some o → spec[j]? = some s → listed.getD j false = true → ∀ d, o.dst = some d → s.holds (a.eval (.tmp d)) X
  rest : ∀ d : Nat, (∀ (j : Nat) o, ops[j]? = some o → listed.getD j false = true → o.dst ≠ some d) → a.tmps[d]? = a0.tmps[d]?

theorem getD_set (l : Array Bool) (i j : Nat) (hi : i < l.size) : (l.setIfInBounds i true).getD j false = (if i = j then true else l.getD j false) := by
  by_cases h : i = j
  · subst h; simp [hi]
  · rw [if_neg h]; simp [Array.getElem?_setIfInBounds_ne h]

theorem bindsOn_spec {o : Oper} {j : Nat} : bindsOn md o j = true ↔ ∃ e ∈ o.after, Region.binds md e = true ∧ e.on = j := by
  unfold bindsOn
  rw [Array.any_eq_true']
  simp

theorem FInv.anc {spec : List FSp} {a0 : Act} {C : World → Prop} {m : Nat} {listed : Array Bool} {a : Act} {X : World} (h : FInv md ops spec a0 C m listed a X) :
    ∀ (f k : Nat) (o : Oper), ops[k]? = some o → (∀ e ∈ o.after, Region.binds md e = true → listed.getD e.on false = true) → ∀ j ∈ ancF md ops f k, listed.getD j false = true := by
  intro f
  induction f with
  | zero => intro k o _ _ j hj; cases hj
  | succ f ih =>
    intro k o ho hl j hj
    rw [ancF, ho] at hj
    simp only [List.mem_flatMap, List.mem_filter, Array.mem_toList_iff, List.mem_cons] at hj
    obtain ⟨e, ⟨he, hb⟩, hj⟩ := hj
    rcases hj with rfl | hj
    · exact hl e he hb
    · have he1 := hl e he hb
      have hlt : e.on < ops.size := by
        rw [← h.lsize]
        by_cases hh : e.on < listed.size
        · exact hh
        · simp [Array.getElem?_eq_none (Nat.le_of_not_lt hh)] at he1
      exact ih e.on ops[e.on] (Array.getElem?_eq_getElem hlt) (h.down e.on _ (Array.getElem?_eq_getElem hlt) he1) j hj

/-- One operation carried out, or passed over. -/
def flowStep (P : Program) (ops : Array Oper) (o : Oper) (s : FSp) (G : World → World → Prop) (a : Act) (X : World) : Prop :=
  if Region.wanted o (yielded ops a.tmps) = true then Oper.wp P o a X (fun a' X' => ∃ v, a' = a.put o.dst v ∧ s.holds v X' ∧ G X X') (fun _ _ _ => False) else s.holds undef X

theorem eval_tmp (a : Act) (d : Nat) : a.eval (.tmp d) = a.tmps.getD d undef := rfl

theorem oper_wp_Q {o : Oper} {a : Act} {w : World} {K : Act → World → Prop} (h : o.wp P a w K (fun _ _ _ => False)) : o.wp P a w K Q := by
  unfold Oper.wp at *
  generalize (execOp a.eval o).run P w = r at *
  cases r with
  | ok n w' =>
    cases n <;> simp only [Oper.upon] at h ⊢ <;> first | exact h | (refine Calls.mono h fun e w'' he => ?_; cases e <;> first | exact he | exact he.elim | (obtain ⟨_, _, h⟩ := he; exact h.elim))
  | halt x w' => cases x <;> simp only [Oper.upon] at h ⊢

theorem wpAny_flow {a0 : Act} {spec : List FSp} {C : World → Prop} {G : World → World → Prop} {m : Nat} (hB : flowB md ops m a0.tmps.size = true) (hm : m ≤ ops.size) (hlen : spec.length = m)
    (hC : ∀ X Y, C X → G X Y → C Y) (hG : ∀ X, G X X) (hR : ∀ R, FSp.rel R ∈ spec → ∀ v X Y, R v X → G X Y → R v Y)
    (hop : ∀ (i : Nat) o s, ops[i]? = some o → spec[i]? = some s → ∀ a X, C X → (∀ d ∈ o.looksAt ops, sees md ops spec a0 o a X d) → flowStep P ops o s G a X)
    (hK : ∀ listed a X, FInv md ops spec a0 C m listed a X → (∀ j, j < m → listed.getD j false = true) → wpAny P md ops Q (ops.size - m) listed a X) :
    ∀ (u : Nat) (listed : Array Bool) (a : Act) (X : World), ((List.range m).filter fun j => !listed.getD j false).length = u → FInv md ops spec a0 C m listed a X → wpAny P md ops Q (u + (ops.size - m)) listed a X := by
  have hB' : ∀ (i : Nat) oi, ops[i]? = some oi → (∀ e ∈ oi.after, Region.binds md e = true → e.on < i) ∧ (i < m → (∀ d, oi.dst = some d → d < a0.tmps.size) ∧ ∀ (j : Nat) oj, j < m → i ≠ j → ops[j]? = some oj → ∀ d, oj.dst = some d → oi.dst ≠ some d ∧ (d ∈ oi.looksAt ops → bindsOn md oi j = true ∨ bindsOn md oj i = true)) ∧ (m ≤ i → ∀ j, j < m → j ∈ ancF md ops ops.size i) := by
    intro i oi hi
    have hlt : i < ops.size := (Array.getElem?_eq_some_iff.1 hi).1
    have h := List.all_eq_true.1 hB i (List.mem_range.2 hlt)
    rw [hi] at h
    simp only [Bool.and_eq_true] at h
    obtain ⟨h1, h2⟩ := h
    refine ⟨fun e he hb => ?_, fun him => ?_, fun him j hj => ?_⟩
    · have := Array.all_eq_true_iff_forall_mem.1 h1 e he
      rw [hb] at this
      simpa using this
    · rw [if_pos him, Bool.and_eq_true] at h2
      obtain ⟨h2, h3⟩ := h2
      refine ⟨fun d hd => ?_, fun j oj hj hne hoj d hd => ?_⟩
      · rw [hd] at h2; simpa using h2
      · have := List.all_eq_true.1 h3 j (List.mem_range.2 hj)
        rw [hoj] at this
        simp only [Bool.or_eq_true, beq_iff_eq, hne, false_or, hd, Bool.and_eq_true] at this
        obtain ⟨t1, t2⟩ := this
        refine ⟨by simpa using t1, fun hd' => ?_⟩
        rcases t2 with (t2 | t2) | t2
        · have : (oi.looksAt ops).contains d = true := List.contains_iff_mem.2 hd'
          rw [this] at t2; cases t2
        · exact .inl t2
        · exact .inr t2
    · rw [if_neg (by omega)] at h2
      exact List.contains_iff_mem.1 (List.all_eq_true.1 h2 j (List.mem_range.2 hj))
  have unl : ∀ (listed : Array Bool) u, ((List.range m).filter fun j => !listed.getD j false).length = u → u = 0 → ∀ j, j < m → listed.getD j false = true := by
    intro listed u hu h0 j hj
    subst h0
    have := List.eq_nil_of_length_eq_zero hu
    rw [List.filter_eq_nil_iff] at this
    simpa using this j (List.mem_range.2 hj)
  intro u
  induction u with
  | zero => intro listed a X hu hI; rw [Nat.zero_add]; exact hK listed a X hI (unl listed 0 hu rfl)
  | succ u ih =>
    intro listed a X hu hI
    have hex : ∃ j, j < m ∧ listed.getD j false = false := by
      have : ((List.range m).filter fun j => !listed.getD j false) ≠ [] := by intro h; rw [h] at hu; cases hu
      obtain ⟨j, hj⟩ := List.exists_mem_of_ne_nil _ this
      rw [List.mem_filter, List.mem_range] at hj
      exact ⟨j, hj.1, by simpa using hj.2⟩
    have hleast : ∃ j, j < m ∧ listed.getD j false = false ∧ ∀ k, k < j → listed.getD k false = true := by
      obtain ⟨j, hj, hl⟩ := hex
      induction j using Nat.strongRecOn with
      | ind j ihj =>
        by_cases h : ∃ k, k < j ∧ listed.getD k false = false
        · obtain ⟨k, hk, hkl⟩ := h
          exact ihj k hk (by omega) hkl
        · refine ⟨j, hj, hl, fun k hk => ?_⟩
          cases e : listed.getD k false with
          | true => rfl
          | false => exact absurd ⟨k, hk, e⟩ h
    have gd : ∀ j, j < ops.size → listed.getD j true = listed.getD j false := fun j hj => by
      have : j < listed.size := by rw [hI.lsize]; exact hj
      simp [this]
    rw [Nat.succ_add]
    refine ⟨fun h0 => ?_, fun i hi => ?_⟩
    · exfalso
      obtain ⟨j, hj, hl, hk⟩ := hleast
      have hjs : j < ops.size := by omega
      have : j ∈ Region.ready md ops listed := by
        rw [mem_ready]
        refine ⟨by rw [gd j hjs]; exact hl, ops[j], Array.getElem?_eq_getElem hjs, fun e he hb => ?_⟩
        exact hk e.on ((hB' j _ (Array.getElem?_eq_getElem hjs)).1 e he hb)
      rw [h0] at this; cases this
    · obtain ⟨hun, o, ho, hall⟩ := mem_ready.1 hi
      have his : i < ops.size := (Array.getElem?_eq_some_iff.1 ho).1
      rw [gd i his] at hun
      obtain ⟨g1, g2, g3⟩ := hB' i o ho
      have him : i < m := by
        by_cases h : i < m
        · exact h
        · exfalso
          obtain ⟨j, hj, hl⟩ := hex
          have := hI.anc ops.size i o ho hall j (g3 (by omega) j hj)
          rw [hl] at this; cases this
      obtain ⟨g4, g5⟩ := g2 him
      have hsp : i < spec.length := by omega
      have hstep := hop i o spec[i] ho (List.getElem?_eq_getElem hsp) a X hI.cls (fun d hd => by
        unfold sees
        cases hw : wrOf md ops o d with
        | some j =>
          have h1 := List.find?_some hw
          have h2 := List.mem_of_find?_eq_some hw
          rw [List.mem_range] at h2
          simp only [Bool.and_eq_true, beq_iff_eq] at h1
          obtain ⟨h3, h4⟩ := h1
          obtain ⟨e, he, hb, hej⟩ := bindsOn_spec.1 h4
          have hlj := hall e he hb
          rw [hej] at hlj
          dsimp only
          cases hs : spec[j]? with
          | none => trivial
          | some s =>
            rw [Array.getElem?_eq_getElem h2] at h3
            exact hI.val j _ s (Array.getElem?_eq_getElem h2) hs hlj d h3
        | none =>
          dsimp only
          refine hI.rest d fun j oj hj hlj hd' => ?_
          have hjm : j < m := by
            by_cases h : j < m
            · exact h
            · have := hI.low j (by omega); rw [this] at hlj; cases hlj
          have hne : i ≠ j := by rintro rfl; rw [hun] at hlj; cases hlj
          rcases (g5 j oj hjm hne hj d hd').2 hd with hb | hb
          · have hjs : j < ops.size := (Array.getElem?_eq_some_iff.1 hj).1
            have := List.find?_eq_none.1 hw j (List.mem_range.2 hjs)
            rw [hj] at this
            simp only [Option.bind_some, hd', beq_self_eq_true, Bool.true_and] at this
            exact this hb
          · obtain ⟨e, he, hbe, hei⟩ := bindsOn_spec.1 hb
            have := hI.down j oj hj hlj e he hbe
            rw [hei, hun] at this; cases this)
      have hils : i < listed.size := by rw [hI.lsize]; exact his
      have next : ∀ v X', (spec[i]).holds v X' → G X X' → wpAny P md ops Q (u + (ops.size - m)) (listed.setIfInBounds i true) (a.put o.dst v) X' := by
        intro v X' hv hg
        refine ih _ _ _ ?_ ?_
        · -- one less is unlisted
          have key : ∀ (n : Nat), i < n → ((List.range n).filter fun j => !(listed.setIfInBounds i true).getD j false).length + 1 = ((List.range n).filter fun j => !listed.getD j false).length := by
            intro n
            induction n with
            | zero => intro h; omega
            | succ n ihn =>
              intro h
              rw [List.range_succ, List.filter_append, List.filter_append, List.length_append, List.length_append]
              by_cases hin : i = n
              · subst hin
                have e1 : ((List.range i).filter fun j => !(listed.setIfInBounds i true).getD j false) = (List.range i).filter fun j => !listed.getD j false := by
                  refine List.filter_congr fun j hj => ?_
                  rw [List.mem_range] at hj
                  rw [getD_set _ _ _ hils, if_neg (by omega)]
                rw [e1]
                simp only [List.filter_cons, List.filter_nil]
                rw [getD_set _ _ _ hils, if_pos rfl, hun]
                simp
              · have := ihn (by omega)
                have e2 : (listed.setIfInBounds i true).getD n false = listed.getD n false := by rw [getD_set _ _ _ hils, if_neg hin]
                simp only [List.filter_cons, List.filter_nil]
                rw [e2]
                omega
          have := key m him
          omega
        · refine ⟨hC _ _ hI.cls hg, ?_, ?_, by rw [Array.size_setIfInBounds]; exact hI.lsize, fun j hj => ?_, fun j oj hj hlj e he hb => ?_, fun j oj s hj hs hlj d hd => ?_, fun d hd => ?_⟩
          · rw [← hI.defers]; cases o.dst <;> rfl
          · rw [← hI.size]; cases o.dst with
            | none => rfl
            | some d => exact Array.size_setIfInBounds
          · rw [getD_set _ _ _ hils, if_neg (by omega)]; exact hI.low j hj
          · rw [getD_set _ _ _ hils] at hlj ⊢
            split
            · rfl
            · split at hlj
              · rename_i h2; subst h2
                rw [ho] at hj; cases hj
                exact hall e he hb
              · exact hI.down j oj hj hlj e he hb
          · rw [getD_set _ _ _ hils] at hlj
            split at hlj
            · rename_i h2; subst h2
              rw [ho] at hj; cases hj
              rw [List.getElem?_eq_getElem hsp] at hs; cases hs
              have : (a.put o.dst v).eval (.tmp d) = v := by
                rw [hd, eval_tmp]
                have : d < a.tmps.size := by rw [hI.size]; exact g4 d hd
                simp [Act.put, this]
              rw [this]; exact hv
            · rename_i h2
              have hjm : j < m := by
                by_cases h : j < m
                · exact h
                · have := hI.low j (by omega); rw [this] at hlj; cases hlj
              have hne := (g5 j oj hjm h2 hj d hd).1
              have : (a.put o.dst v).eval (.tmp d) = a.eval (.tmp d) := Act.eval_put (fun d' hd' e => hne (by cases e; exact hd'))
              rw [this]
              have hh := hI.val j oj s hj hs hlj d hd
              cases s with
              | fix w => exact hh
              | rel R => exact hR R (List.mem_of_getElem? hs) _ _ _ hh hg
          · have h1 : o.dst ≠ some d := hd i o ho (by rw [getD_set _ _ _ hils, if_pos rfl])
            have h2 := hI.rest d (fun j oj hj hlj => hd j oj hj (by rw [getD_set _ _ _ hils]; split <;> first | rfl | exact hlj))
            rw [← h2]
            cases hod : o.dst with
            | none => rfl
            | some d' =>
              have : d' ≠ d := fun e => h1 (by rw [hod, e])
              simp [Act.put, Array.getElem?_setIfInBounds_ne this]
      unfold wpOp
      rw [ho]
      dsimp only
      unfold flowStep at hstep
      split
      · rename_i hw
        rw [if_pos hw] at hstep
        refine .inl (oper_wp_Q (Oper.wp_mono (fun a' X' h => ?_) hstep))
        obtain ⟨v, rfl, hv, hg⟩ := h
        exact next v X' hv hg
      · rename_i hw
        rw [if_neg hw] at hstep
        exact next undef X hstep (hG X)

/-- The frame behind it. -/
def flowFin (C : World → Prop) (K : Act → World → Prop) : List Oper → List FSp → Act → (World → Prop) → Prop
  | o :: l, .fix u :: ss, a, F => flowFin C K l ss (a.put o.dst u) F
  | o :: l, .rel R :: ss, a, F => ∀ v, flowFin C K l ss (a.put o.dst v) (fun X => F X ∧ R v X)
  | _, _, a, F => ∀ X, C X → F X → K a X

theorem act_ext {a b : Act} (h1 : a.defers = b.defers) (h2 : a.tmps.size = b.tmps.size) (h3 : ∀ d : Nat, a.tmps[d]? = b.tmps[d]?) : a = b := by
  obtain ⟨ta, da⟩ := a
  obtain ⟨tb, db⟩ := b
  dsimp only at *
  subst h1
  congr 1
  exact Array.ext_getElem? h3

theorem flowFin_at {C : World → Prop} {K : Act → World → Prop} {a : Act} {X : World} (hX : C X) : ∀ (l : List Oper) (ss : List FSp) (b : Act) (F : World → Prop), flowFin C K l ss b F → F X → l.length = ss.length → b.defers = a.defers → b.tmps.size = a.tmps.size →
    (∀ (j : Nat) o s, l[j]? = some o → ss[j]? = some s → (∀ d, o.dst = some d → s.holds (a.eval (.tmp d)) X) ∧ (o.dst = none → s.holds undef X)) → (∀ d : Nat, (∀ (j : Nat) o, l[j]? = some o → o.dst ≠ some d) → b.tmps[d]? = a.tmps[d]?) → K a X := by
  intro l
  induction l with
  | nil =>
    intro ss b F h hF hl h1 h2 _ h4
    have : b = a := act_ext h1 h2 fun d => h4 d (fun j o ho => by simp at ho)
    subst this
    cases ss with
    | nil => exact h X hX hF
    | cons _ _ => cases hl
  | cons o l ih =>
    intro ss b F h hF hl h1 h2 h3 h4
    cases ss with
    | nil => cases hl
    | cons s ss =>
      have h30 := h3 0 o s rfl rfl
      have key : ∀ (F' : World → Prop) (v : Value), (∀ d, o.dst = some d → v = a.eval (.tmp d)) → flowFin C K l ss (b.put o.dst v) F' → F' X → K a X := by
        intro F' v hv hf hF'
        refine ih ss (b.put o.dst v) F' hf hF' (by simpa using hl) ?_ ?_ (fun j o' s' hj hs => h3 (j + 1) o' s' (by simpa using hj) (by simpa using hs)) ?_
        · rw [← h1]; cases o.dst <;> rfl
        · rw [← h2]; cases o.dst with
          | none => rfl
          | some d => exact Array.size_setIfInBounds
        · intro d hd
          cases hod : o.dst with
          | none =>
            refine h4 d fun j o' hj => ?_
            cases j with
            | zero => simp at hj; subst hj; rw [hod]; simp
            | succ j => exact hd j o' (by simpa using hj)
          | some d' =>
            have hv' := hv d' hod
            by_cases hdd : d' = d
            · subst hdd
              show (b.tmps.setIfInBounds d' v)[d']? = a.tmps[d']?
              by_cases hlt : d' < b.tmps.size
              · rw [Array.getElem?_setIfInBounds_self_of_lt hlt]
                rw [hv', eval_tmp]
                have : d' < a.tmps.size := Nat.lt_of_lt_of_eq hlt h2
                simp [this]
              · rw [Array.getElem?_eq_none (by simpa using hlt), Array.getElem?_eq_none (by rw [← h2]; simpa using hlt)]
            · show (b.tmps.setIfInBounds d' v)[d]? = a.tmps[d]?
              rw [Array.getElem?_setIfInBounds_ne hdd]
              refine h4 d fun j o' hj => ?_
              cases j with
              | zero => simp at hj; subst hj; rw [hod]; intro e; cases e; exact hdd rfl
              | succ j => exact hd j o' (by simpa using hj)
      cases s with
      | fix u =>
        rw [flowFin] at h
        exact key F u (fun d hd => (h30.1 d hd).symm) h hF
      | rel R =>
        rw [flowFin] at h
        cases hod : o.dst with
        | none =>
          exact key _ undef (fun d hd => by rw [hod] at hd; cases hd) (h undef) ⟨hF, h30.2 hod⟩
        | some d =>
          refine key _ (a.eval (.tmp d)) (fun d' hd' => by rw [hod] at hd'; cases hd'; rfl) (h _) ⟨hF, h30.1 d hod⟩

/-- No operation without a slot but one whose value is fixed. -/
def dstB (ops : List Oper) : Bool := ops.all fun o => o.dst.isSome

/-- The obligations, one by one. -/
def flowObl (P : Program) (md : Region.Mode) (ops : Array Oper) (spec : List FSp) (a0 : Act) (C : World → Prop) (G : World → World → Prop) : List Oper → List FSp → Prop
  | o :: l, s :: ss => (∀ a X, C X → (∀ d ∈ o.looksAt ops, sees md ops spec a0 o a X d) → flowStep P ops o s G a X) ∧ flowObl P md ops spec a0 C G l ss
  | _, _ => True
theorem flowObl_at {spec : List FSp} {a0 : Act} {C : World → Prop} {G : World → World → Prop} : ∀ (l : List Oper) (ss : List FSp), flowObl P md ops spec a0 C G l ss → ∀ (i : Nat) o s, l[i]? = some o → ss[i]? = some s → ∀ a X, C X → (∀ d ∈ o.looksAt ops, sees md ops spec a0 o a X d) → flowStep P ops o s G a X := by
  intro l
  induction l with
  | nil => intro ss _ i o s h; simp at h
  | cons o l ih =>
    intro ss h i o' s' ho hs
    cases ss with
    | nil => simp at hs
    | cons s ss =>
      rw [flowObl] at h
      cases i with
      | zero => simp at ho hs; subst ho hs; exact h.1
      | succ i => exact ih ss h.2 i o' s' (by simpa using ho) (by simpa using hs)

/-- What the relations keep. -/
def flowKeep (G : World → World → Prop) : List FSp → Prop
  | [] => True
  | .fix _ :: ss => flowKeep G ss
  | .rel R :: ss => (∀ v X Y, R v X → G X Y → R v Y) ∧ flowKeep G ss
theorem flowKeep_at {G : World → World → Prop} : ∀ (ss : List FSp), flowKeep G ss → ∀ R, FSp.rel R ∈ ss → ∀ v X Y, R v X → G X Y → R v Y := by
  intro ss
  induction ss with
  | nil => intro _ R h; cases h
  | cons s ss ih =>
    intro h R hR
    cases s with
    | fix u => rw [flowKeep] at h; rcases List.mem_cons.1 hR with e | hR; · cases e
               · exact ih h R hR
    | rel R' =>
      rw [flowKeep] at h
      rcases List.mem_cons.1 hR with e | hR
      · cases e; exact h.1
      · exact ih h.2 R hR

/-- A whole region. -/
theorem wp_region_flow {id : Nat} {a0 : Act} {w : World} {l : List Oper} (spec : List FSp) (C : World → Prop) (G : World → World → Prop) (hmx : P.follows .mixedOrders = true) (hB : flowB .any l.toArray l.length a0.tmps.size = true) (hD : dstB l = true) (hlen : spec.length = l.length)
    (h0 : C w.drew) (hC : ∀ X Y, C X → G X Y → C Y) (hG : ∀ X, G X X) (hR : flowKeep G spec) (hO : flowObl P .any l.toArray spec a0 C G l spec)
    (hF : flowFin C (fun a X => Q .normal a X) l spec a0 (fun _ => True)) : (Code.region id l.toArray true).wp P Q a0 w := by
  refine wp_region_any hmx ?_
  have hsz : l.toArray.size = l.length := by simp
  have h := wpAny_flow (P := P) (Q := Q) (md := .any) (ops := l.toArray) (a0 := a0) (spec := spec) (C := C) (G := G) (m := l.length) hB (by simp) hlen hC hG (flowKeep_at spec hR) (fun i o s ho hs => flowObl_at l spec hO i o s (by simpa using ho) hs) ?_
    l.length (Array.replicate l.toArray.size false) a0 w.drew ?_ ?_
  · have e : l.toArray.size = l.length + (l.toArray.size - l.length) := by simp
    rw [e] ; rw [e] at h
    simpa using h
  · intro listed a X hI hall
    have hz : l.toArray.size - l.length = 0 := by simp
    rw [hz]
    refine ⟨?_, ?_⟩
    · cases hr : Region.ready .any l.toArray listed with
      | nil => rfl
      | cons i t =>
        have hi : i ∈ Region.ready .any l.toArray listed := by rw [hr]; simp
        obtain ⟨hun, o, ho, _⟩ := mem_ready.1 hi
        have his : i < l.length := by have := (Array.getElem?_eq_some_iff.1 ho).1; simpa using this
        have h1 := hall i his
        have h2 : i < listed.size := by rw [hI.lsize]; simpa using his
        simp [h2] at hun h1
        rw [hun] at h1; cases h1
    · refine flowFin_at (K := fun a X => Q .normal a X) hI.cls l spec a0 _ hF trivial hlen.symm hI.defers.symm hI.size.symm (fun j o s hj hs => ⟨fun d hd => ?_, fun hd => ?_⟩) (fun d hd => ?_)
      · exact hI.val j o s (by simpa using hj) hs (hall j (by simpa using (List.getElem?_eq_some_iff.1 hj).1)) d hd
      · have := List.all_eq_true.1 hD o (List.mem_of_getElem? hj)
        rw [hd] at this; cases this
      · exact (hI.rest d fun j o hj _ => hd j o (by simpa using hj)).symm
  · have : ((List.range l.length).filter fun j => !(Array.replicate l.toArray.size false).getD j false) = List.range l.length := by
      rw [List.filter_eq_self]
      intro j hj
      rw [List.mem_range] at hj
      simp [hj]
    rw [this, List.length_range]
  · refine ⟨h0, rfl, rfl, by simp, fun j _ => ?_, fun j o _ h => ?_, fun j o s _ _ h => ?_, fun d _ => rfl⟩
    · by_cases h : j < l.length <;> simp [h]
    · exfalso; by_cases h' : j < l.length <;> simp [h'] at h
    · exfalso; by_cases h' : j < l.length <;> simp [h'] at h

/-- The first m operations of a region; the others stand behind them all, and are carried out one by one. -/
theorem wp_region_flow_tail {id : Nat} {a0 : Act} {w : World} {l : List Oper} (m t : Nat) (spec : List FSp) (C : World → Prop) (G : World → World → Prop) (hmx : P.follows .mixedOrders = true) (hB : flowB .any l.toArray m a0.tmps.size = true) (hD : dstB (l.take m) = true) (hlen : spec.length = m) (ht : l.length = m + t)
    (h0 : C w.drew) (hC : ∀ X Y, C X → G X Y → C Y) (hG : ∀ X, G X X) (hR : flowKeep G spec) (hO : flowObl P .any l.toArray spec a0 C G (l.take m) spec)
    (hF : flowFin C (fun a X => wpAny P .any l.toArray Q t (List.replicate m true ++ List.replicate t false).toArray a X) (l.take m) spec a0 (fun _ => True)) : (Code.region id l.toArray true).wp P Q a0 w := by
  refine wp_region_any hmx ?_
  have hsz : l.toArray.size = l.length := by simp
  have htk : ∀ (j : Nat) o, j < m → (l[j]? = some o ↔ (l.take m)[j]? = some o) := fun j o hj => by rw [List.getElem?_take, if_pos hj]
  have hlm : (l.take m).length = m := by rw [List.length_take]; omega
  have h := wpAny_flow (P := P) (Q := Q) (md := .any) (ops := l.toArray) (a0 := a0) (spec := spec) (C := C) (G := G) (m := m) hB (by rw [hsz]; omega) hlen hC hG (flowKeep_at spec hR)
    (fun i o s ho hs => flowObl_at (l.take m) spec hO i o s ((htk i o (by have := (List.getElem?_eq_some_iff.1 hs).1; omega)).1 (by simpa using ho)) hs) ?_ m (Array.replicate l.toArray.size false) a0 w.drew ?_ ?_
  · have e : m + (l.toArray.size - m) = l.toArray.size := by rw [hsz]; omega
    rw [e] at h
    exact h
  · intro listed a X hI hall
    have hz : l.toArray.size - m = t := by rw [hsz]; omega
    have hls : listed = (List.replicate m true ++ List.replicate t false).toArray := by
      apply Array.ext
      · rw [hI.lsize, hsz, ht]; simp
      · intro j h1 h2
        by_cases hj : j < m
        · have h3 : listed[j] = true := by have := hall j hj; simpa [h1] using this
          have h4 : (List.replicate m true ++ List.replicate t false)[j]'(by simpa using h2) = true := by rw [List.getElem_append_left (by simpa using hj), List.getElem_replicate]
          exact h3.trans h4.symm
        · have h3 : listed[j] = false := by have := hI.low j (by omega); simpa [h1] using this
          have h4 : (List.replicate m true ++ List.replicate t false)[j]'(by simpa using h2) = false := by rw [List.getElem_append_right (by simpa using hj), List.getElem_replicate]
          exact h3.trans h4.symm
    rw [hz, hls]
    refine flowFin_at (K := fun a X => wpAny P .any l.toArray Q t (List.replicate m true ++ List.replicate t false).toArray a X) hI.cls (l.take m) spec a0 _ hF trivial (by rw [hlm, hlen]) hI.defers.symm hI.size.symm (fun j o s hj hs => ⟨fun d hd => ?_, fun hd => ?_⟩) (fun d hd => ?_)
    · have hjm : j < m := by have := (List.getElem?_eq_some_iff.1 hs).1; omega
      exact hI.val j o s (by simpa using (htk j o hjm).2 hj) hs (hall j hjm) d hd
    · have := List.all_eq_true.1 hD o (List.mem_of_getElem? hj)
      rw [hd] at this; cases this
    · refine (hI.rest d fun j o hj hlj => ?_).symm
      have hjm : j < m := by
        by_cases h : j < m
        · exact h
        · have := hI.low j (by omega); rw [this] at hlj; cases hlj
      exact hd j o ((htk j o hjm).1 (by simpa using hj))
  · have : ((List.range m).filter fun j => !(Array.replicate l.toArray.size false).getD j false) = List.range m := by
      rw [List.filter_eq_self]
      intro j hj
      rw [List.mem_range] at hj
      have : j < l.length := by omega
      simp [this]
    rw [this, List.length_range]
  · refine ⟨h0, rfl, rfl, by simp, fun j _ => ?_, fun j o _ h => ?_, fun j o s _ _ h => ?_, fun d _ => rfl⟩
    · by_cases h : j < l.length <;> simp [h]
    · exfalso; by_cases h' : j < l.length <;> simp [h'] at h
    · exfalso; by_cases h' : j < l.length <;> simp [h'] at h

theorem see_fix {spec : List FSp} {a0 : Act} {o : Oper} {a : Act} {X : World} (hS : ∀ d ∈ o.looksAt ops, sees md ops spec a0 o a X d) (d j : Nat) {u : Value} (hm : (o.looksAt ops).contains d = true) (hw : wrOf md ops o d = some j) (hs : spec[j]? = some (.fix u)) : a.tmps[d]?.getD undef = u := by
  rw [← Array.getD_eq_getD_getElem?]
  show a.eval (.tmp d) = u
  have h := hS d (List.contains_iff_mem.1 hm)
  unfold sees at h
  rw [hw] at h
  dsimp only at h
  rw [hs] at h
  exact h
theorem see_rel {spec : List FSp} {a0 : Act} {o : Oper} {a : Act} {X : World} (hS : ∀ d ∈ o.looksAt ops, sees md ops spec a0 o a X d) (d j : Nat) {R : Value → World → Prop} (hm : (o.looksAt ops).contains d = true) (hw : wrOf md ops o d = some j) (hs : spec[j]? = some (.rel R)) : R (a.tmps[d]?.getD undef) X := by
  rw [← Array.getD_eq_getD_getElem?]
  show R (a.eval (.tmp d)) X
  have h := hS d (List.contains_iff_mem.1 hm)
  unfold sees at h
  rw [hw] at h
  dsimp only at h
  rw [hs] at h
  exact h
theorem see_old {spec : List FSp} {a0 : Act} {o : Oper} {a : Act} {X : World} (hS : ∀ d ∈ o.looksAt ops, sees md ops spec a0 o a X d) (d : Nat) {u : Value} (hm : (o.looksAt ops).contains d = true) (hw : wrOf md ops o d = none) (h0 : a0.tmps[d]? = some u) : a.tmps[d]?.getD undef = u := by
  have h := hS d (List.contains_iff_mem.1 hm)
  unfold sees at h
  rw [hw] at h
  dsimp only at h
  rw [h, h0]; rfl
theorem flow_run {o : Oper} {s : FSp} {G : World → World → Prop} {a : Act} {X : World} (hw : Region.wanted o (yielded ops a.tmps) = true) (h : ∀ K : Act → World → Prop, (∀ v X', s.holds v X' → G X X' → K (a.put o.dst v) X') → Oper.wp P o a X K (fun _ _ _ => False)) : flowStep P ops o s G a X := by
  unfold flowStep
  rw [if_pos hw]
  exact h _ fun v X' h1 h2 => ⟨v, rfl, h1, h2⟩
theorem flow_skip {o : Oper} {s : FSp} {G : World → World → Prop} {a : Act} {X : World} (hw : Region.wanted o (yielded ops a.tmps) = false) (h : s.holds undef X) : flowStep P ops o s G a X := by
  unfold flowStep
  rw [if_neg (by rw [hw]; exact Bool.false_ne_true)]
  exact h
theorem wanted_none {o : Oper} {a : Act} (h : o.guard = none) : Region.wanted o (yielded ops a.tmps) = true := by unfold Region.wanted; rw [h]
theorem wanted_guard {o : Oper} {a : Act} {g : Nat} {want b : Bool} {d : Nat} (hg : o.guard = some (g, want)) (hd : (ops[g]?).bind (·.dst) = some d) (hv : a.tmps[d]?.getD undef = .bool b) : Region.wanted o (yielded ops a.tmps) = (b == want) := by
  unfold Region.wanted
  rw [hg]
  dsimp only
  have : yielded ops a.tmps g = some b := by
    unfold yielded
    rw [hd]
    simp only [Option.bind_some]
    cases e : a.tmps[d]? with
    | none => rw [e] at hv; cases hv
    | some x => rw [e] at hv; simp only [Option.getD_some] at hv; rw [hv]
  rw [this]
  cases b <;> cases want <;> rfl
theorem flowObl_cons {spec : List FSp} {a0 : Act} {C : World → Prop} {G : World → World → Prop} {o : Oper} {l : List Oper} {s : FSp} {ss : List FSp} (h : ∀ a X, C X → (∀ d ∈ o.looksAt ops, sees md ops spec a0 o a X d) → flowStep P ops o s G a X) (hs : flowObl P md ops spec a0 C G l ss) : flowObl P md ops spec a0 C G (o :: l) (s :: ss) := ⟨h, hs⟩
theorem flowObl_nil {spec : List FSp} {a0 : Act} {C : World → Prop} {G : World → World → Prop} : flowObl P md ops spec a0 C G [] [] := trivial
end
end Go.Proofs.YtmbjjheaddhmeaaGreatDoor
