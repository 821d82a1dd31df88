/- The engine, sixth part: a region that draws its order. Each operation is shown once, whatever came up before it. -/
import Derived.Test.YtpdgfekimnmdnaaShort
import Derived.OrdersIn
set_option linter.unusedVariables false
set_option linter.unusedSimpArgs false
namespace Go.Proofs.Ytpdgfekimnmdnaa
open Go.RowKit

/-- What is known of an operation's value. -/
inductive Spec where
  | known (x : Value)
  | fact (f : Value → World → Prop)
def Spec.holds (s : Option Spec) (v : Value) (w : World) : Prop := match s with
  | some (.known x) => v = x
  | some (.fact f) => f v w
  | none => True

def deps (o : Oper) : List Nat := (o.after.toList.filter (Region.binds .any)).map (·.on)
def slotsOf (ops : List Oper) (o : Oper) : List Tmp := Oper.looksAt ops.toArray o

/-- The value that an operand's slot holds when operation o comes up. -/
def valOf (ops : List Oper) (specs : List Spec) (ρ0 : Env) (V : Nat → Value) (t : Tmp) : List Nat → Value
  | [] => ρ0.get t
  | j :: r => match ops[j]? with
    | some oj => match oj.dst with
      | some d => cond (Nat.beq d t) (match specs[j]? with
        | some (.known x) => x
        | _ => V j) (valOf ops specs ρ0 V t r)
      | none => valOf ops specs ρ0 V t r
    | none => valOf ops specs ρ0 V t r
def lookL (ops : List Oper) (specs : List Spec) (ρ0 : Env) (V : Nat → Value) (o : Oper) : List (Nat × Value) :=
  (slotsOf ops o).map fun t => (t, valOf ops specs ρ0 V t (deps o))

/-- Each slot that an operation looks at is written by what it waits for, or by what waits for it, or by none. -/
def opOk (ops : List Oper) (i : Nat) (o : Oper) : Bool :=
  (deps o).all (fun e => Nat.blt e i) && (slotsOf ops o).all fun t => (List.range ops.length).all fun j => match ops[j]? with
    | some oj => match oj.dst with
      | some d => !(Nat.beq d t) || Nat.beq j i || (deps o).contains j || (deps oj).contains i
      | none => true
    | none => true
def distinctD (ops : List Oper) : Bool := (List.range ops.length).all fun i => (List.range ops.length).all fun j => Nat.beq i j || match ops[i]?, ops[j]? with
  | some a, some b => match a.dst, b.dst with
    | some x, some y => !(Nat.beq x y)
    | _, _ => true
  | _, _ => true
def regOk (ops : List Oper) : Bool := ((List.range ops.length).all fun i => match ops[i]? with | some o => opOk ops i o | none => false) && distinctD ops

def upB (b : Nat → Bool) (i : Nat) : Nat → Bool := fun j => cond (Nat.beq j i) true (b j)

section
variable {P : Program} {r : Option Nat} {N : Nat} {Q : Post} {ρ : Env} {w : World} {ops : List Oper} {specs : List Spec}

/-- One operation's step. -/
def StepD (P : Program) (r : Option Nat) (N : Nat) (Q : Post) (ops : List Oper) (specs : List Spec) (M : List Nat) (Wd : (Nat → Bool) → World → Prop) (ρ0 : Env) (w0 : World) (i : Nat) (o : Oper) : Prop :=
  ∀ (b : Nat → Bool) (V : Nat → Value) (ρ : Env) (w : World), Keep M w0 w → b i = false → (∀ j, (deps o).contains j = true → b j = true) → (∀ j oj, ops[j]? = some oj → (deps oj).contains i = true → b j = false) → Wd b w →
    (∀ j, b j = true → Spec.holds specs[j]? (V j) w) →
    EL P r N ops (thenP (fun ρ' w' => ∃ v, ρ' = (ρ.ups (lookL ops specs ρ0 V o)).upo o.dst v ∧ Spec.holds specs[i]? v w' ∧ Keep M w w' ∧ Wd (upB b i) w') Q) [o] (ρ.ups (lookL ops specs ρ0 V o)) w
def StepsD (P : Program) (r : Option Nat) (N : Nat) (Q : Post) (ops : List Oper) (specs : List Spec) (M : List Nat) (Wd : (Nat → Bool) → World → Prop) (ρ0 : Env) (w0 : World) : Nat → List Oper → Prop
  | _, [] => True
  | i, o :: l => StepD P r N Q ops specs M Wd ρ0 w0 i o ∧ StepsD P r N Q ops specs M Wd ρ0 w0 (i + 1) l

theorem stepsD_at {M : List Nat} {Wd : (Nat → Bool) → World → Prop} {ρ0 : Env} {w0 : World} : ∀ (l : List Oper) (k : Nat), StepsD P r N Q ops specs M Wd ρ0 w0 k l → ∀ i o, l[i]? = some o → StepD P r N Q ops specs M Wd ρ0 w0 (k + i) o := by
  intro l
  induction l with
  | nil => intro k _ i o h; cases h
  | cons x l ih =>
    intro k h i o hi
    cases i with
    | zero => injection hi with hi; subst hi; exact h.1
    | succ i => have := ih (k + 1) h.2 i o hi; rwa [Nat.add_assoc, Nat.add_comm 1 i] at this

theorem Oper.wpIn_monoQ {F : Fence} {n : Nat} {o : Oper} {a : Act} {w : World} {K : Act → World → Prop} {Q1 Q2 : Exit → Act → World → Prop} (h : ∀ e a w, e ≠ .normal → Q1 e a w → Q2 e a w) (hh : o.wpIn F n P a w K Q1) : o.wpIn F n P a w K Q2 := by
  unfold Oper.wpIn at *
  refine ⟨hh.1, ?_⟩
  have hh := hh.2
  generalize (o.semAt F.round a.eval).run P w = r at *
  have hl : LetsOut Q1 → LetsOut Q2 := fun ⟨a, w, hq⟩ => ⟨a, w, h _ _ _ (by simp) hq⟩
  cases r with
  | ok x w' =>
    cases x <;> simp only [Oper.uponIn] at hh ⊢ <;>
      first
        | exact hh
        | exact ⟨hh.1, CallsIn.mono hh.2 (fun e w'' he => by cases e <;> first | exact he | exact h _ _ _ (by simp) he | exact hl he)⟩
        | exact ⟨hh.1, RoundIn.mono hh.2 (fun e w'' he => by cases e <;> first | exact he | exact h _ _ _ (by simp) he | exact hl he)⟩
  | halt x w' => cases x <;> simp only [Oper.uponIn] at hh ⊢ <;> first | exact hh | exact h _ _ _ (by simp) hh

/-- The slots, some operations being done. -/
structure Cons (ops : List Oper) (ρ0 : Env) (b : Nat → Bool) (V : Nat → Value) (ρ : Env) : Prop where
  ds : ρ.ds = ρ0.ds
  on : ∀ j o d, ops[j]? = some o → o.dst = some d → b j = true → ρ.get d = V j
  off : ∀ t, (∀ j o, ops[j]? = some o → o.dst = some t → b j = false) → ρ.get t = ρ0.get t

theorem valOf_eq {ρ0 ρ : Env} {b : Nat → Bool} {V : Nat → Value} {w : World} (hc : Cons ops ρ0 b V ρ) (hV : ∀ j, b j = true → Spec.holds specs[j]? (V j) w) (t : Tmp) : ∀ (l : List Nat), (∀ j ∈ l, b j = true) →
    (∀ j o, ops[j]? = some o → o.dst = some t → j ∈ l ∨ b j = false) → valOf ops specs ρ0 V t l = ρ.get t := by
  intro l
  induction l with
  | nil => intro _ h; exact (hc.off t fun j o h1 h2 => (h j o h1 h2).resolve_left (by simp)).symm
  | cons j l ih =>
    intro hb h
    have skip : (∀ o, ops[j]? = some o → o.dst ≠ some t) → valOf ops specs ρ0 V t l = ρ.get t := fun hne => ih (fun k hk => hb k (List.mem_cons_of_mem _ hk)) fun k o h1 h2 => by
      rcases h k o h1 h2 with h3 | h3
      · rcases List.mem_cons.1 h3 with rfl | h4
        · exact absurd h2 (hne o h1)
        · exact .inl h4
      · exact .inr h3
    simp only [valOf]
    cases hj : ops[j]? with
    | none => exact skip (fun o h => by rw [hj] at h; cases h)
    | some oj =>
      simp only
      cases hd : oj.dst with
      | none => exact skip (fun o h => by rw [hj] at h; injection h with h; subst h; rw [hd]; simp)
      | some d =>
        simp only
        cases hq : Nat.beq d t with
        | false => exact skip (fun o h => by
            rw [hj] at h
            injection h with h
            subst h
            rw [hd]
            intro e
            injection e with e
            subst e
            rw [Nat.beq_refl] at hq
            cases hq)
        | true =>
          obtain rfl : d = t := Nat.eq_of_beq_eq_true hq
          have hbj := hb j (List.mem_cons_self)
          rw [hc.on j oj d hj hd hbj]
          have hv := hV j hbj
          simp only [cond_true]
          cases hs : specs[j]? with
          | none => rfl
          | some s =>
            cases s with
            | known x => rw [hs] at hv; exact hv.symm
            | fact f => rfl

theorem ready_mem {l : List Oper} {listed : Array Bool} {i : Nat} (h : i ∈ Region.ready .any l.toArray listed) : i < l.length ∧ listed.getD i true = false ∧ ∃ o, l[i]? = some o ∧ ∀ j, (deps o).contains j = true → listed.getD j false = true := by
  unfold Region.ready at h
  simp only [List.mem_filter, List.mem_range, List.size_toArray, Bool.and_eq_true, Bool.not_eq_true'] at h
  obtain ⟨h1, h2, h3⟩ := h
  refine ⟨h1, h2, ?_⟩
  rw [List.getElem?_toArray] at h3
  cases ho : l[i]? with
  | none => rw [ho] at h3; simp at h3
  | some o =>
    rw [ho] at h3
    refine ⟨o, rfl, fun j hj => ?_⟩
    simp only [Option.map_some, Option.getD_some] at h3
    rw [← Array.all_toList] at h3
    simp only [deps, List.contains_iff_mem, List.mem_map, List.mem_filter] at hj
    obtain ⟨e, ⟨he1, he2⟩, rfl⟩ := hj
    have := List.all_eq_true.1 h3 e he1
    rw [he2] at this
    simpa using this
theorem ready_nil {l : List Oper} {listed : Array Bool} (hsz : listed.size = l.length) (hk : ∀ i o, l[i]? = some o → ∀ j, (deps o).contains j = true → j < i) (h : Region.ready .any l.toArray listed = []) : ∀ i, i < l.length → listed.getD i false = true := by
  intro i
  induction i using Nat.strongRecOn with
  | _ i ih =>
    intro hi
    cases hq : listed.getD i false with
    | true => rfl
    | false =>
      exfalso
      have hmem : i ∈ Region.ready .any l.toArray listed := by
        unfold Region.ready
        simp only [List.mem_filter, List.mem_range, List.size_toArray, Bool.and_eq_true, Bool.not_eq_true']
        have hlt : i < listed.size := by omega
        refine ⟨hi, ?_, ?_⟩
        · rw [Array.getD_eq_getD_getElem?, Array.getElem?_eq_getElem hlt] at hq ⊢
          simpa using hq
        · rw [List.getElem?_toArray, List.getElem?_eq_getElem hi]
          simp only [Option.map_some, Option.getD_some]
          rw [← Array.all_toList]
          refine List.all_eq_true.2 fun e he => ?_
          cases hb : Region.binds .any e with
          | false => rfl
          | true =>
            have hd : (deps l[i]).contains e.on = true := by
              simp only [deps, List.contains_iff_mem, List.mem_map, List.mem_filter]
              exact ⟨e, ⟨he, hb⟩, rfl⟩
            have hlt2 := hk i l[i] (List.getElem?_eq_getElem hi) e.on hd
            rw [ih e.on hlt2 (by omega)]
            rfl
      rw [h] at hmem
      cases hmem

theorem upB_self (b : Nat → Bool) (i : Nat) : upB b i i = true := by simp [upB]
theorem upB_ne (b : Nat → Bool) {i j : Nat} (h : j ≠ i) : upB b i j = b j := by simp [upB, beq_f h]

theorem count_set {n : Nat} {listed : Array Bool} {i : Nat} (hsz : listed.size = n) (hi : i < n) (hq : listed.getD i true = false) :
    ((List.range n).filter fun j => !(listed.setIfInBounds i true).getD j true).length + 1 = ((List.range n).filter fun j => !listed.getD j true).length := by
  have hx : ∀ (l : List Nat), l.Nodup → i ∈ l → (l.filter fun j => !(listed.setIfInBounds i true).getD j true).length + 1 = (l.filter fun j => !listed.getD j true).length := by
    intro l
    induction l with
    | nil => intro _ h; cases h
    | cons x l ih =>
      intro hnd hm
      have hnd' := List.nodup_cons.1 hnd
      by_cases hxi : x = i
      · subst hxi
        have hsame : (l.filter fun j => !(listed.setIfInBounds x true).getD j true) = l.filter fun j => !listed.getD j true := by
          apply List.filter_congr
          intro j hj
          have hne : x ≠ j := fun e => hnd'.1 (e ▸ hj)
          simp [Array.getD_eq_getD_getElem?, Array.getElem?_setIfInBounds, hne]
        have h1 : (listed.setIfInBounds x true).getD x true = true := by
          simp [Array.getD_eq_getD_getElem?, Array.getElem?_setIfInBounds, hsz, hi]
        rw [List.filter_cons, List.filter_cons, h1, hq, hsame]
        simp
      · have hm' : i ∈ l := by
          rcases List.mem_cons.1 hm with h | h
          · exact absurd h.symm hxi
          · exact h
        have hne : i ≠ x := fun e => hxi e.symm
        have h1 : (listed.setIfInBounds i true).getD x true = listed.getD x true := by
          simp [Array.getD_eq_getD_getElem?, Array.getElem?_setIfInBounds, hne]
        have := ih hnd'.2 hm'
        rw [List.filter_cons, List.filter_cons, h1]
        split
        · simp only [List.length_cons]; omega
        · exact this
  exact hx _ List.nodup_range (List.mem_range.2 hi)

theorem regOk_at (h : regOk ops = true) {i : Nat} {o : Oper} (ho : ops[i]? = some o) :
    (∀ j, (deps o).contains j = true → j < i) ∧ (∀ t ∈ slotsOf ops o, ∀ j oj, ops[j]? = some oj → oj.dst = some t → j = i ∨ (deps o).contains j = true ∨ (deps oj).contains i = true) := by
  simp only [regOk, Bool.and_eq_true] at h
  have hi : i < ops.length := (List.getElem?_eq_some_iff.1 ho).1
  have h1 := List.all_eq_true.1 h.1 i (List.mem_range.2 hi)
  rw [ho] at h1
  simp only [opOk, Bool.and_eq_true] at h1
  refine ⟨fun j hj => ?_, fun t ht j oj hj hd => ?_⟩
  · exact lt_blt (List.all_eq_true.1 h1.1 j (by simpa [List.contains_iff_mem] using hj))
  · have h2 := List.all_eq_true.1 h1.2 t ht
    have h3 := List.all_eq_true.1 h2 j (List.mem_range.2 (List.getElem?_eq_some_iff.1 hj).1)
    rw [hj] at h3
    simp only [hd, Bool.or_eq_true, Bool.not_eq_true'] at h3
    rcases h3 with ((h3 | h3) | h3) | h3
    · rw [Nat.beq_refl] at h3; cases h3
    · exact .inl (Nat.eq_of_beq_eq_true h3)
    · exact .inr (.inl h3)
    · exact .inr (.inr h3)
theorem regOk_dist (h : regOk ops = true) {i j : Nat} {a b : Oper} (ha : ops[i]? = some a) (hb : ops[j]? = some b) {d : Nat} (hd : a.dst = some d) (hd' : b.dst = some d) : i = j := by
  simp only [regOk, Bool.and_eq_true, distinctD] at h
  have h1 := List.all_eq_true.1 h.2 i (List.mem_range.2 (List.getElem?_eq_some_iff.1 ha).1)
  have h2 := List.all_eq_true.1 h1 j (List.mem_range.2 (List.getElem?_eq_some_iff.1 hb).1)
  rw [ha, hb] at h2
  simp only [hd, hd', Nat.beq_refl, Bool.not_true, Bool.or_false] at h2
  exact Nat.eq_of_beq_eq_true h2

/-- The slots at the end. -/
def endL (specs : List Spec) (V : Nat → Value) : Nat → List Oper → List (Nat × Value)
  | _, [] => []
  | i, o :: l => match o.dst with
    | some d => (d, match specs[i]? with
      | some (.known x) => x
      | _ => V i) :: endL specs V (i + 1) l
    | none => endL specs V (i + 1) l

theorem cons_step {ρ0 : Env} {b : Nat → Bool} {V : Nat → Value} (hok : regOk ops = true) (hc : Cons ops ρ0 b V ρ) {i : Nat} {o : Oper} (ho : ops[i]? = some o) (v : Value) :
    Cons ops ρ0 (upB b i) (fun j => cond (Nat.beq j i) v (V j)) (ρ.upo o.dst v) := by
  refine ⟨?_, fun j oj d hj hd hb => ?_, fun t ht => ?_⟩
  · cases o.dst <;> exact hc.ds
  · by_cases e : j = i
    · subst e
      rw [ho] at hj
      injection hj with hj
      subst hj
      rw [hd]
      simp [Env.upo, Env.up]
    · have hbj : b j = true := by rwa [upB_ne b e] at hb
      have h1 := hc.on j oj d hj hd hbj
      rw [beq_f e]
      simp only [cond_false]
      cases hdo : o.dst with
      | none => exact h1
      | some d' =>
        have hne : d ≠ d' := fun q => e (by subst q; exact regOk_dist hok hj ho hd hdo)
        simp only [Env.upo, Env.up, beq_f hne, cond_false]
        exact h1
  · have h1 : ∀ j oj, ops[j]? = some oj → oj.dst = some t → b j = false := fun j oj hj hd => by
      have := ht j oj hj hd
      by_cases e : j = i
      · subst e; rw [upB_self] at this; cases this
      · rwa [upB_ne b e] at this
    have h2 := hc.off t h1
    cases hdo : o.dst with
    | none => exact h2
    | some d' =>
      have hne : t ≠ d' := fun q => by
        subst q
        have := ht i o ho hdo
        rw [upB_self] at this
        cases this
      simp only [Env.upo, Env.up, beq_f hne, cond_false]
      exact h2

theorem Mt_of {ρ : Env} : ∀ (l : List (Nat × Value)), (∀ p ∈ l, ρ.get p.1 = p.2) → Mt ρ l
  | [], _ => trivial
  | p :: l, h => ⟨h p List.mem_cons_self, Mt_of l fun q hq => h q (List.mem_cons_of_mem _ hq)⟩

theorem ups_get {ρ' : Env} : ∀ (L : List (Nat × Value)), (∀ p ∈ L, ρ'.get p.1 = p.2) → ∀ t, (ρ.ups L).get t = if t ∈ L.map (·.1) then ρ'.get t else ρ.get t := by
  intro L
  induction L with
  | nil => intro _ t; rfl
  | cons p L ih =>
    intro h t
    have ih' := ih (fun q hq => h q (List.mem_cons_of_mem _ hq)) t
    show cond (Nat.beq t p.1) p.2 ((ρ.ups L).get t) = _
    cases hq : Nat.beq t p.1 with
    | true =>
      obtain rfl : t = p.1 := Nat.eq_of_beq_eq_true hq
      simp [h p List.mem_cons_self]
    | false =>
      have hne : t ≠ p.1 := fun e => by subst e; rw [Nat.beq_refl] at hq; cases hq
      rw [cond_false, ih']
      have hiff : t ∈ (p :: L).map (·.1) ↔ t ∈ L.map (·.1) := ⟨fun h => (List.mem_cons.1 h).resolve_left hne, fun h => List.mem_cons_of_mem _ h⟩
      by_cases h2 : t ∈ L.map (·.1)
      · rw [if_pos h2, if_pos (hiff.2 h2)]
      · rw [if_neg h2, if_neg (fun h => h2 (hiff.1 h))]
theorem endL_mem (V : Nat → Value) : ∀ (l : List Oper) (k : Nat) (p : Nat × Value), p ∈ endL specs V k l → ∃ j o, l[j]? = some o ∧ o.dst = some p.1 ∧ p.2 = (match specs[k + j]? with | some (.known x) => x | _ => V (k + j)) := by
  intro l
  induction l with
  | nil => intro k p h; cases h
  | cons o l ih =>
    intro k p h
    simp only [endL] at h
    cases hd : o.dst with
    | none =>
      rw [hd] at h
      obtain ⟨j, o', h1, h2, h3⟩ := ih (k + 1) p h
      exact ⟨j + 1, o', h1, h2, by rw [h3, Nat.add_assoc, Nat.add_comm 1 j]⟩
    | some d =>
      rw [hd] at h
      rcases List.mem_cons.1 h with h | h
      · subst h
        exact ⟨0, o, rfl, hd, rfl⟩
      · obtain ⟨j, o', h1, h2, h3⟩ := ih (k + 1) p h
        exact ⟨j + 1, o', h1, h2, by rw [h3, Nat.add_assoc, Nat.add_comm 1 j]⟩
theorem endL_key (V : Nat → Value) : ∀ (l : List Oper) (k j : Nat) (o : Oper) (d : Nat), l[j]? = some o → o.dst = some d → d ∈ (endL specs V k l).map (·.1) := by
  intro l
  induction l with
  | nil => intro k j o d h; cases h
  | cons x l ih =>
    intro k j o d h hd
    simp only [endL]
    cases j with
    | zero =>
      injection h with h
      subst h
      rw [hd]
      exact List.mem_cons_self
    | succ j =>
      have := ih (k + 1) j o d h hd
      cases x.dst with
      | none => exact this
      | some d' => simp only [List.map_cons]; exact List.mem_cons_of_mem _ this

/-- A region that draws its order. -/
theorem ew_draw {id : Nat} {l : List Oper} (hm : P.follows .mixedOrders = true) (specs : List Spec) (M : List Nat) (Wd : (Nat → Bool) → World → Prop) (hok : regOk l = true)
    (hst : ∀ (j : Nat) (v : Value) (w w' : World), Keep M w w' → Spec.holds specs[j]? v w → Spec.holds specs[j]? v w') (h0 : Wd (fun _ => false) w.drew)
    (steps : StepsD P r N Q l specs M Wd ρ w 0 l)
    (hend : ∀ (b : Nat → Bool) (V : Nat → Value) (w' : World), (∀ j, j < l.length → b j = true) → Keep M w w' → Wd b w' → (∀ j, j < l.length → Spec.holds specs[j]? (V j) w') → Q .normal (ρ.ups (endL specs V 0 l)) w') :
    EW P r N (.region id l.toArray true) Q ρ w := by
  have fin : ∀ (listed : Array Bool) (a : Act) (ρ' : Env) (w' : World) (V : Nat → Value), (∀ i, i < l.length → listed.getD i false = true) → Rep N a ρ' → Cons l ρ (fun j => listed.getD j false) V ρ' → Wd (fun j => listed.getD j false) w' →
      (∀ j, listed.getD j false = true → Spec.holds specs[j]? (V j) w') → Keep M w w' → ∃ ρ', Rep N a ρ' ∧ Q .normal ρ' w' := by
    intro listed a ρ' w' V hall ha hc hW hV hk
    refine ⟨ρ', ha, ?_⟩
    have e : ρ' = ρ.ups (endL specs V 0 l) := by
      have hmem : ∀ p ∈ endL specs V 0 l, ρ'.get p.1 = p.2 := by
        intro p hp
        obtain ⟨j, o, h1, h2, h3⟩ := endL_mem V l 0 p hp
        rw [Nat.zero_add] at h3
        have hj := hall j (List.getElem?_eq_some_iff.1 h1).1
        have h4 := hc.on j o p.1 h1 h2 hj
        have h5 := hV j hj
        rw [h4, h3]
        cases hs : specs[j]? with
        | none => rfl
        | some s =>
          cases s with
          | known x => rw [hs] at h5; exact h5
          | fact f => rfl
      have hget := ups_get (ρ := ρ) (ρ' := ρ') _ hmem
      have hg : ρ'.get = (ρ.ups (endL specs V 0 l)).get := by
        funext t
        rw [hget t]
        by_cases ht : t ∈ (endL specs V 0 l).map (·.1)
        · rw [if_pos ht]
        · rw [if_neg ht]
          refine hc.off t fun j o h1 h2 => ?_
          exact absurd (endL_key V l 0 j o t h1 h2) ht
      have hd : ρ'.ds = (ρ.ups (endL specs V 0 l)).ds := by
        rw [hc.ds]
        generalize endL specs V 0 l = L
        induction L with
        | nil => rfl
        | cons p L ih => exact ih
      cases ρ' with
      | mk g ds =>
        cases hq : ρ.ups (endL specs V 0 l) with
        | mk g' ds' =>
          rw [hq] at hg hd
          simp only at hg hd
          rw [hg, hd]
    rw [e]
    exact hend _ V w' hall hk hW (fun j hj => hV j (hall j hj))
  have key : ∀ (fuel : Nat) (listed : Array Bool) (a : Act) (ρ' : Env) (w' : World) (V : Nat → Value), listed.size = l.length → ((List.range l.length).filter fun j => !listed.getD j true).length ≤ fuel → Rep N a ρ' →
      Cons l ρ (fun j => listed.getD j false) V ρ' → (∀ j oj, l[j]? = some oj → listed.getD j false = true → ∀ k, (deps oj).contains k = true → listed.getD k false = true) → Wd (fun j => listed.getD j false) w' →
      (∀ j, listed.getD j false = true → Spec.holds specs[j]? (V j) w') → Keep M w w' →
      wpAnyIn (Fw r) 0 P .any l.toArray (fun e a' w' => ∃ ρ', Rep N a' ρ' ∧ Q e ρ' w') fuel listed a w' := by
    intro fuel
    induction fuel with
    | zero =>
      intro listed a ρ' w' V hsz hcnt ha hc hcl hW hV hk
      have hall : ∀ i, i < l.length → listed.getD i false = true := by
        intro i hi
        have hlt : i < listed.size := by omega
        cases hq : listed.getD i true with
        | true =>
          rw [Array.getD_eq_getD_getElem?, Array.getElem?_eq_getElem hlt] at hq ⊢
          simpa using hq
        | false =>
          exfalso
          have : i ∈ ((List.range l.length).filter fun j => !listed.getD j true) := by
            rw [List.mem_filter]
            exact ⟨List.mem_range.2 hi, by rw [hq]; rfl⟩
          have := List.length_pos_of_mem this
          omega
      have hr : Region.ready .any l.toArray listed = [] := by
        cases hq : Region.ready .any l.toArray listed with
        | nil => rfl
        | cons i rs =>
          exfalso
          have hm := ready_mem (l := l) (listed := listed) (i := i) (by rw [hq]; exact List.mem_cons_self)
          have h1 := hall i hm.1
          have hlt : i < listed.size := by omega
          have h2 := hm.2.1
          rw [Array.getD_eq_getD_getElem?, Array.getElem?_eq_getElem hlt] at h1 h2
          simp only [Option.getD_some] at h1 h2
          rw [h1] at h2
          cases h2
      exact ⟨hr, fin listed a ρ' w' V hall ha hc hW hV hk⟩
    | succ fuel ih =>
      intro listed a ρ' w' V hsz hcnt ha hc hcl hW hV hk
      refine ⟨fun hr => fin listed a ρ' w' V (ready_nil hsz (fun i o ho => (regOk_at hok ho).1) hr) ha hc hW hV hk, fun i hi => ?_⟩
      obtain ⟨hil, hiu, o, ho, hdep⟩ := ready_mem hi
      have hbi : listed.getD i false = false := by
        have hlt : i < listed.size := by omega
        rw [Array.getD_eq_getD_getElem?, Array.getElem?_eq_getElem hlt] at hiu ⊢
        simpa using hiu
      have hundone : ∀ j oj, l[j]? = some oj → (deps oj).contains i = true → listed.getD j false = false := fun j oj hj hc' => by
        cases hq : listed.getD j false with
        | false => rfl
        | true => have := hcl j oj hj hq i hc'; rw [hbi] at this; cases this
      have hstep := stepsD_at l 0 steps i o ho
      rw [Nat.zero_add] at hstep
      have hlook : Mt ρ' (lookL l specs ρ V o) := by
        refine Mt_of _ fun p hp => ?_
        simp only [lookL, List.mem_map] at hp
        obtain ⟨t, ht, rfl⟩ := hp
        refine (valOf_eq hc hV t (deps o) (fun j hj => hdep j (by simpa [List.contains_iff_mem] using hj)) fun j oj hj hd => ?_).symm
        rcases (regOk_at hok ho).2 t ht j oj hj hd with h1 | h1 | h1
        · subst h1; exact .inr hbi
        · exact .inl (by simpa [List.contains_iff_mem] using h1)
        · exact .inr (hundone j oj hj h1)
      have hEL := (hstep (fun j => listed.getD j false) V ρ' w' hk hbi hdep hundone hW hV)
      rw [ups_id hlook] at hEL
      have hout := hEL.out a ha
      have hb' : (fun j => (listed.setIfInBounds i true).getD j false) = upB (fun j => listed.getD j false) i := by
        funext j
        have hlt : i < listed.size := by omega
        by_cases e : j = i
        · subst e
          rw [upB_self]
          simp [Array.getD_eq_getD_getElem?, Array.getElem?_setIfInBounds, hlt]
        · rw [upB_ne _ e]
          have hne : i ≠ j := fun q => e q.symm
          simp [Array.getD_eq_getD_getElem?, Array.getElem?_setIfInBounds, hne]
      have next : ∀ (a2 : Act) (ρ2 : Env) (w2 : World), Rep N a2 ρ2 → (∃ v, ρ2 = ρ'.upo o.dst v ∧ Spec.holds specs[i]? v w2 ∧ Keep M w' w2 ∧ Wd (upB (fun j => listed.getD j false) i) w2) →
          wpAnyIn (Fw r) 0 P .any l.toArray (fun e a' w' => ∃ ρ', Rep N a' ρ' ∧ Q e ρ' w') fuel (listed.setIfInBounds i true) a2 w2 := by
        rintro a2 ρ2 w2 ha2 ⟨v, rfl, hs, hk2, hW2⟩
        refine ih (listed.setIfInBounds i true) a2 _ w2 (fun j => cond (Nat.beq j i) v (V j)) (by simpa using hsz) (by have := count_set hsz hil hiu; omega) ha2 (by rw [hb']; exact cons_step hok hc ho v) ?_ (by rw [hb']; exact hW2) ?_ (hk.trans hk2 (fun b hb _ => hb))
        · intro j oj hj hbj k hk'
          have hbj' : upB (fun j => listed.getD j false) i j = true := by rw [← hb']; exact hbj
          have goal' : upB (fun j => listed.getD j false) i k = true := by
            by_cases e : j = i
            · subst e
              rw [ho] at hj
              injection hj with hj
              subst hj
              have := hdep k hk'
              by_cases e2 : k = j
              · subst e2; exact upB_self _ _
              · rw [upB_ne _ e2]; exact this
            · rw [upB_ne _ e] at hbj'
              have := hcl j oj hj hbj' k hk'
              by_cases e2 : k = i
              · subst e2; exact upB_self _ _
              · rw [upB_ne _ e2]; exact this
          rw [← hb'] at goal'
          exact goal'
        · intro j hbj
          have hbj' : upB (fun j => listed.getD j false) i j = true := by rw [← hb']; exact hbj
          by_cases e : j = i
          · subst e
            simp only [Nat.beq_refl, cond_true]
            exact hs
          · rw [upB_ne _ e] at hbj'
            rw [beq_f e]
            exact hst j _ _ _ hk2 (hV j hbj')
      unfold wpOpIn
      rw [List.getElem?_toArray, ho]
      simp only
      unfold wpListIn at hout
      split
      · rename_i hwt
        rw [if_pos hwt] at hout
        refine Oper.wpIn_mono (K := fun a2 w2 => ∃ ρ2, Rep N a2 ρ2 ∧ ∃ v, ρ2 = ρ'.upo o.dst v ∧ Spec.holds specs[i]? v w2 ∧ Keep M w' w2 ∧ Wd (upB (fun j => listed.getD j false) i) w2) (fun a2 w2 ⟨ρ2, h1, h2⟩ => next a2 ρ2 w2 h1 h2) ?_
        refine Oper.wpIn_monoQ (fun e a2 w2 hne hq => ?_) hout
        obtain ⟨ρ2, h1, h2⟩ := hq
        cases e with
        | normal => exact absurd rfl hne
        | _ => exact ⟨ρ2, h1, h2⟩
      · rename_i hwt
        rw [if_neg hwt] at hout
        obtain ⟨h1, ρ2, h2, h3⟩ := hout
        exact ⟨h1, next _ ρ2 w' h2 h3⟩
  refine ⟨fun a ha => ?_⟩
  refine wpIn_region_any hm ?_
  have hrep : ∀ j, (Array.replicate l.length false).getD j false = false := fun j => by
    rw [Array.getD_eq_getD_getElem?, Array.getElem?_replicate]
    split <;> rfl
  have e : (fun j => (Array.replicate l.length false).getD j false) = fun _ => false := funext hrep
  have := key l.length (Array.replicate l.length false) a ρ w.drew (fun _ => undef) (by simp) (by
      refine Nat.le_trans (List.length_filter_le _ _) (by simp)) ha (by rw [e]; exact ⟨rfl, fun _ _ _ _ _ h => (by cases h), fun _ _ => rfl⟩)
    (fun j oj _ h => by rw [hrep] at h; cases h) (by rw [e]; exact h0) (fun j h => by rw [hrep] at h; cases h) ((Keep.drew w).any)
  simpa using this

/-- A step that is pure, its value known ahead. -/
theorem pureD {M : List Nat} {Wd : (Nat → Bool) → World → Prop} {ρ0 : Env} {w0 : World} {i : Nat} {o : Oper} {x : Value} (hs : specs[i]? = some (.known x))
    (hp : ∀ (V : Nat → Value) (ρ : Env), runPure P N ops 1 [o] (ρ.ups (lookL ops specs ρ0 V o)) = ([], (ρ.ups (lookL ops specs ρ0 V o)).upo o.dst x)) (hW : ∀ b w, Wd b w → Wd (upB b i) w) : StepD P r N Q ops specs M Wd ρ0 w0 i o :=
  fun b V ρ w hk hb hd hu hWd hV => el_pure 1 (hp V ρ) (el_nil ⟨x, rfl, by rw [hs]; rfl, Keep.refl _ _, hW b w hWd⟩)

def Spec.isK : Spec → Bool
  | .known _ => true
  | .fact _ => false
theorem stable_of {M : List Nat} : ∀ (specs : List Spec), (∀ f, Spec.fact f ∈ specs → ∀ (v : Value) (w w' : World), Keep M w w' → f v w → f v w') → ∀ (j : Nat) (v : Value) (w w' : World), Keep M w w' → Spec.holds specs[j]? v w → Spec.holds specs[j]? v w' := by
  intro specs h j v w w' hk hv
  cases hs : specs[j]? with
  | none => exact trivial
  | some s =>
    rw [hs] at hv
    cases s with
    | known x => exact hv
    | fact f => exact h f (List.mem_of_getElem? hs) v w w' hk hv
theorem stable_known {M : List Nat} (specs : List Spec) (h : specs.all Spec.isK = true) : ∀ (j : Nat) (v : Value) (w w' : World), Keep M w w' → Spec.holds specs[j]? v w → Spec.holds specs[j]? v w' :=
  stable_of specs fun f hf => by
    have := List.all_eq_true.1 h _ hf
    cases this
end
end Go.Proofs.Ytpdgfekimnmdnaa
