/- The engine: a region that draws its order, with an invariant of the memory and of the values. -/
import Derived.Test.YtpdgfekimnmdnaaDraw
set_option linter.unusedVariables false
set_option linter.unusedSimpArgs false
namespace Go.Proofs.Ytpdgfekimnmdnaa
open Go.RowKit

def upV (V : Nat → Value) (i : Nat) (v : Value) : Nat → Value := fun j => cond (Nat.beq j i) v (V j)
section
variable {P : Program} {r : Option Nat} {N : Nat} {Q : Post} {ρ : Env} {w : World} {ops : List Oper} {specs : List Spec}
/-- One operation's step. -/
def StepG (P : Program) (r : Option Nat) (N : Nat) (Q : Post) (ops : List Oper) (specs : List Spec) (G : (Nat → Bool) → (Nat → Value) → World → Prop) (ρ0 : Env) (i : Nat) (o : Oper) : Prop :=
  ∀ (b : Nat → Bool) (V : Nat → Value) (ρ : Env) (w : World), b i = false → (∀ j, (deps o).contains j = true → b j = true) → (∀ j oj, ops[j]? = some oj → (deps oj).contains i = true → b j = false) → G b V w →
    (∀ j, b j = true → Spec.holds specs[j]? (V j) w) →
    EL P r N ops (thenP (fun ρ' w' => ∃ v, ρ' = (ρ.ups (lookL ops specs ρ0 V o)).upo o.dst v ∧ Spec.holds specs[i]? v w' ∧ G (upB b i) (upV V i v) w') Q) [o] (ρ.ups (lookL ops specs ρ0 V o)) w
def StepsG (P : Program) (r : Option Nat) (N : Nat) (Q : Post) (ops : List Oper) (specs : List Spec) (G : (Nat → Bool) → (Nat → Value) → World → Prop) (ρ0 : Env) : Nat → List Oper → Prop
  | _, [] => True
  | i, o :: l => StepG P r N Q ops specs G ρ0 i o ∧ StepsG P r N Q ops specs G ρ0 (i + 1) l
theorem stepsG_at {G : (Nat → Bool) → (Nat → Value) → World → Prop} {ρ0 : Env} : ∀ (l : List Oper) (k : Nat), StepsG P r N Q ops specs G ρ0 k l → ∀ i o, l[i]? = some o → StepG P r N Q ops specs G ρ0 (k + i) o := by
  intro l
  induction l with
  | nil => intro k _ i o h; cases h
  | cons x l ih =>
    intro k h i o hi
    cases i with
    | zero => injection hi with hi; subst hi; exact h.1
    | succ i => have := ih (k + 1) h.2 i o hi; rwa [Nat.add_assoc, Nat.add_comm 1 i] at this

/-- A region that draws its order. -/
theorem ew_drawg {id : Nat} {l : List Oper} (hm : P.follows .mixedOrders = true) (specs : List Spec) (G : (Nat → Bool) → (Nat → Value) → World → Prop) (hok : regOk l = true)
    (hst : ∀ (j : Nat) (v : Value) (w w' : World), Spec.holds specs[j]? v w → Spec.holds specs[j]? v w') (h0 : G (fun _ => false) (fun _ => undef) w.drew)
    (steps : StepsG P r N Q l specs G ρ 0 l)
    (hend : ∀ (b : Nat → Bool) (V : Nat → Value) (w' : World), (∀ j, j < l.length → b j = true) → G b V w' → (∀ j, j < l.length → Spec.holds specs[j]? (V j) w') → Q .normal (ρ.ups (endL specs V 0 l)) w') :
    EW P r N (.region id l.toArray true) Q ρ w := by
  have fin : ∀ (listed : Array Bool) (a : Act) (ρ' : Env) (w' : World) (V : Nat → Value), (∀ i, i < l.length → listed.getD i false = true) → Rep N a ρ' → Cons l ρ (fun j => listed.getD j false) V ρ' → G (fun j => listed.getD j false) V w' →
      (∀ j, listed.getD j false = true → Spec.holds specs[j]? (V j) w') → ∃ ρ', Rep N a ρ' ∧ Q .normal ρ' w' := by
    intro listed a ρ' w' V hall ha hc hW hV
    refine ⟨ρ', ha, ?_⟩
    have e : ρ' = ρ.ups (endL specs V 0 l) := by
      have hmem : ∀ p ∈ endL specs V 0 l, ρ'.get p.1 = p.2 := by
        intro p hp
        obtain ⟨j, o, h1, h2, h3⟩ := endL_mem V l 0 p hp
        rw [Nat.zero_add] at h3
        have hj := hall j (List.getElem?_eq_some_iff.1 h1).1
        have h4 := hc.on j o p.1 h1 h2 hj
        have h5 := hV j hj
        rw [h4, h3]
        cases hs : specs[j]? with
        | none => rfl
        | some s =>
          cases s with
          | known x => rw [hs] at h5; exact h5
          | fact f => rfl
      have hget := ups_get (ρ := ρ) (ρ' := ρ') _ hmem
      have hg : ρ'.get = (ρ.ups (endL specs V 0 l)).get := by
        funext t
        rw [hget t]
        by_cases ht : t ∈ (endL specs V 0 l).map (·.1)
        · rw [if_pos ht]
        · rw [if_neg ht]
          refine hc.off t fun j o h1 h2 => ?_
          exact absurd (endL_key V l 0 j o t h1 h2) ht
      have hd : ρ'.ds = (ρ.ups (endL specs V 0 l)).ds := by
        rw [hc.ds]
        generalize endL specs V 0 l = L
        induction L with
        | nil => rfl
        | cons p L ih => exact ih
      cases ρ' with
      | mk g ds =>
        cases hq : ρ.ups (endL specs V 0 l) with
        | mk g' ds' =>
          rw [hq] at hg hd
          simp only at hg hd
          rw [hg, hd]
    rw [e]
    exact hend _ V w' hall hW (fun j hj => hV j (hall j hj))
  have key : ∀ (fuel : Nat) (listed : Array Bool) (a : Act) (ρ' : Env) (w' : World) (V : Nat → Value), listed.size = l.length → ((List.range l.length).filter fun j => !listed.getD j true).length ≤ fuel → Rep N a ρ' →
      Cons l ρ (fun j => listed.getD j false) V ρ' → (∀ j oj, l[j]? = some oj → listed.getD j false = true → ∀ k, (deps oj).contains k = true → listed.getD k false = true) → G (fun j => listed.getD j false) V w' →
      (∀ j, listed.getD j false = true → Spec.holds specs[j]? (V j) w') →
      wpAnyIn (Fw r) 0 P .any l.toArray (fun e a' w' => ∃ ρ', Rep N a' ρ' ∧ Q e ρ' w') fuel listed a w' := by
    intro fuel
    induction fuel with
    | zero =>
      intro listed a ρ' w' V hsz hcnt ha hc hcl hW hV
      have hall : ∀ i, i < l.length → listed.getD i false = true := by
        intro i hi
        have hlt : i < listed.size := by omega
        cases hq : listed.getD i true with
        | true =>
          rw [Array.getD_eq_getD_getElem?, Array.getElem?_eq_getElem hlt] at hq ⊢
          simpa using hq
        | false =>
          exfalso
          have : i ∈ ((List.range l.length).filter fun j => !listed.getD j true) := by
            rw [List.mem_filter]
            exact ⟨List.mem_range.2 hi, by rw [hq]; rfl⟩
          have := List.length_pos_of_mem this
          omega
      have hr : Region.ready .any l.toArray listed = [] := by
        cases hq : Region.ready .any l.toArray listed with
        | nil => rfl
        | cons i rs =>
          exfalso
          have hm := ready_mem (l := l) (listed := listed) (i := i) (by rw [hq]; exact List.mem_cons_self)
          have h1 := hall i hm.1
          have hlt : i < listed.size := by omega
          have h2 := hm.2.1
          rw [Array.getD_eq_getD_getElem?, Array.getElem?_eq_getElem hlt] at h1 h2
          simp only [Option.getD_some] at h1 h2
          rw [h1] at h2
          cases h2
      exact ⟨hr, fin listed a ρ' w' V hall ha hc hW hV⟩
    | succ fuel ih =>
      intro listed a ρ' w' V hsz hcnt ha hc hcl hW hV
      refine ⟨fun hr => fin listed a ρ' w' V (ready_nil hsz (fun i o ho => (regOk_at hok ho).1) hr) ha hc hW hV, fun i hi => ?_⟩
      obtain ⟨hil, hiu, o, ho, hdep⟩ := ready_mem hi
      have hbi : listed.getD i false = false := by
        have hlt : i < listed.size := by omega
        rw [Array.getD_eq_getD_getElem?, Array.getElem?_eq_getElem hlt] at hiu ⊢
        simpa using hiu
      have hundone : ∀ j oj, l[j]? = some oj → (deps oj).contains i = true → listed.getD j false = false := fun j oj hj hc' => by
        cases hq : listed.getD j false with
        | false => rfl
        | true => have := hcl j oj hj hq i hc'; rw [hbi] at this; cases this
      have hstep := stepsG_at l 0 steps i o ho
      rw [Nat.zero_add] at hstep
      have hlook : Mt ρ' (lookL l specs ρ V o) := by
        refine Mt_of _ fun p hp => ?_
        simp only [lookL, List.mem_map] at hp
        obtain ⟨t, ht, rfl⟩ := hp
        refine (valOf_eq hc hV t (deps o) (fun j hj => hdep j (by simpa [List.contains_iff_mem] using hj)) fun j oj hj hd => ?_).symm
        rcases (regOk_at hok ho).2 t ht j oj hj hd with h1 | h1 | h1
        · subst h1; exact .inr hbi
        · exact .inl (by simpa [List.contains_iff_mem] using h1)
        · exact .inr (hundone j oj hj h1)
      have hEL := (hstep (fun j => listed.getD j false) V ρ' w' hbi hdep hundone hW hV)
      rw [ups_id hlook] at hEL
      have hout := hEL.out a ha
      have hb' : (fun j => (listed.setIfInBounds i true).getD j false) = upB (fun j => listed.getD j false) i := by
        funext j
        have hlt : i < listed.size := by omega
        by_cases e : j = i
        · subst e
          rw [upB_self]
          simp [Array.getD_eq_getD_getElem?, Array.getElem?_setIfInBounds, hlt]
        · rw [upB_ne _ e]
          have hne : i ≠ j := fun q => e q.symm
          simp [Array.getD_eq_getD_getElem?, Array.getElem?_setIfInBounds, hne]
      have next : ∀ (a2 : Act) (ρ2 : Env) (w2 : World), Rep N a2 ρ2 → (∃ v, ρ2 = ρ'.upo o.dst v ∧ Spec.holds specs[i]? v w2 ∧ G (upB (fun j => listed.getD j false) i) (upV V i v) w2) →
          wpAnyIn (Fw r) 0 P .any l.toArray (fun e a' w' => ∃ ρ', Rep N a' ρ' ∧ Q e ρ' w') fuel (listed.setIfInBounds i true) a2 w2 := by
        rintro a2 ρ2 w2 ha2 ⟨v, rfl, hs, hW2⟩
        refine ih (listed.setIfInBounds i true) a2 _ w2 (upV V i v) (by simpa using hsz) (by have := count_set hsz hil hiu; omega) ha2 (by rw [hb']; exact cons_step hok hc ho v) ?_ (by rw [hb']; exact hW2) ?_
        · intro j oj hj hbj k hk'
          have hbj' : upB (fun j => listed.getD j false) i j = true := by rw [← hb']; exact hbj
          have goal' : upB (fun j => listed.getD j false) i k = true := by
            by_cases e : j = i
            · subst e
              rw [ho] at hj
              injection hj with hj
              subst hj
              have := hdep k hk'
              by_cases e2 : k = j
              · subst e2; exact upB_self _ _
              · rw [upB_ne _ e2]; exact this
            · rw [upB_ne _ e] at hbj'
              have := hcl j oj hj hbj' k hk'
              by_cases e2 : k = i
              · subst e2; exact upB_self _ _
              · rw [upB_ne _ e2]; exact this
          rw [← hb'] at goal'
          exact goal'
        · intro j hbj
          have hbj' : upB (fun j => listed.getD j false) i j = true := by rw [← hb']; exact hbj
          by_cases e : j = i
          · subst e
            simp only [upV, Nat.beq_refl, cond_true]
            exact hs
          · rw [upB_ne _ e] at hbj'
            simp only [upV]
            rw [beq_f e]
            exact hst j _ _ _ (hV j hbj')
      unfold wpOpIn
      rw [List.getElem?_toArray, ho]
      simp only
      unfold wpListIn at hout
      split
      · rename_i hwt
        rw [if_pos hwt] at hout
        refine Oper.wpIn_mono (K := fun a2 w2 => ∃ ρ2, Rep N a2 ρ2 ∧ ∃ v, ρ2 = ρ'.upo o.dst v ∧ Spec.holds specs[i]? v w2 ∧ G (upB (fun j => listed.getD j false) i) (upV V i v) w2) (fun a2 w2 ⟨ρ2, h1, h2⟩ => next a2 ρ2 w2 h1 h2) ?_
        refine Oper.wpIn_monoQ (fun e a2 w2 hne hq => ?_) hout
        obtain ⟨ρ2, h1, h2⟩ := hq
        cases e with
        | normal => exact absurd rfl hne
        | _ => exact ⟨ρ2, h1, h2⟩
      · rename_i hwt
        rw [if_neg hwt] at hout
        obtain ⟨h1, ρ2, h2, h3⟩ := hout
        exact ⟨h1, next _ ρ2 w' h2 h3⟩
  refine ⟨fun a ha => ?_⟩
  refine wpIn_region_any hm ?_
  have hrep : ∀ j, (Array.replicate l.length false).getD j false = false := fun j => by
    rw [Array.getD_eq_getD_getElem?, Array.getElem?_replicate]
    split <;> rfl
  have e : (fun j => (Array.replicate l.length false).getD j false) = fun _ => false := funext hrep
  have := key l.length (Array.replicate l.length false) a ρ w.drew (fun _ => undef) (by simp) (by
      refine Nat.le_trans (List.length_filter_le _ _) (by simp)) ha (by rw [e]; exact ⟨rfl, fun _ _ _ _ _ h => (by cases h), fun _ _ => rfl⟩)
    (fun j oj _ h => by rw [hrep] at h; cases h) (by rw [e]; exact h0) (fun j h => by rw [hrep] at h; cases h)
  simpa using this

/-- A step that is pure, its value known ahead. -/
theorem pureG {G : (Nat → Bool) → (Nat → Value) → World → Prop} {ρ0 : Env} {i : Nat} {o : Oper} {x : Value} (hs : specs[i]? = some (.known x))
    (hp : ∀ (V : Nat → Value) (ρ : Env), runPure P N ops 1 [o] (ρ.ups (lookL ops specs ρ0 V o)) = ([], (ρ.ups (lookL ops specs ρ0 V o)).upo o.dst x)) (hG : ∀ b V w, G b V w → G (upB b i) (upV V i x) w) : StepG P r N Q ops specs G ρ0 i o :=
  fun b V ρ w hb hd hu hGw hV => el_pure 1 (hp V ρ) (el_nil ⟨x, rfl, by rw [hs]; rfl, hG b V w hGw⟩)
/-- Facts that ask for nothing. -/
abbrev Spec.any : Spec := .fact fun _ _ => True
theorem stable_any (specs : List Spec) (h : ∀ s ∈ specs, s.isK = true ∨ s = .any) : ∀ (j : Nat) (v : Value) (w w' : World), Spec.holds specs[j]? v w → Spec.holds specs[j]? v w' := by
  intro j v w w' hv
  cases hs : specs[j]? with
  | none => exact trivial
  | some s =>
    rw [hs] at hv
    rcases h s (List.mem_of_getElem? hs) with h1 | h1
    · cases s with
      | known x => exact hv
      | fact f => cases h1
    · subst h1
      exact trivial
end
end Go.Proofs.Ytpdgfekimnmdnaa
