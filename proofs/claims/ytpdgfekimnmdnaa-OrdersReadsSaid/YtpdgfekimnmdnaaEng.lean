/- An engine of this work's own: a function's code is walked over an environment of slots (a function of the slot's number) and a world.
   Plain definitions and theorems over the model; nothing of a program is named here. -/
import Derived.Below
import Derived.Laws.AppendOwn
import Derived.Laws.OwnMore
import Derived.Laws.MakeOwn
import Derived.TacticsIn
import Derived.RangeFuncCalls
import Derived.KernelRfl
import Derived.IntWalk
set_option linter.unusedVariables false
set_option linter.unusedSimpArgs false
namespace Go.Proofs.Ytpdgfekimnmdnaa
open Go.RowKit

/-! ### 1. Environments -/
structure Env where
  get : Nat → Value
  ds : List Deferred

def Env.up (ρ : Env) (t : Nat) (v : Value) : Env := ⟨fun s => cond (Nat.beq s t) v (ρ.get s), ρ.ds⟩
def Env.upo (ρ : Env) (d : Option Tmp) (v : Value) : Env := match d with | some t => ρ.up t v | none => ρ
def Env.ups (ρ : Env) : List (Nat × Value) → Env
  | [] => ρ
  | (t, v) :: l => (ρ.ups l).up t v
def Env.args (l : List Value) : Env := ⟨fun t => l.getD t undef, []⟩

theorem blt_t {t N : Nat} (h : t < N) : Nat.blt t N = true := Nat.ble_eq_true_of_le h
theorem blt_f {t N : Nat} (h : ¬ t < N) : Nat.blt t N = false := by
  cases hb : Nat.blt t N with
  | true => exact absurd (Nat.le_of_ble_eq_true hb) h
  | false => rfl
theorem lt_blt {t N : Nat} (h : Nat.blt t N = true) : t < N := Nat.le_of_ble_eq_true h
theorem beq_f {s t : Nat} (h : ¬ s = t) : Nat.beq s t = false := by
  cases hq : Nat.beq s t with
  | true => exact absurd (Nat.eq_of_beq_eq_true hq) h
  | false => rfl

/-- An operand's value. -/
def ev (N : Nat) (ρ : Env) : Operand → Value
  | .tmp t => cond (Nat.blt t N) (ρ.get t) undef
  | .const v => v
  | .global g => .pointer (some ⟨g, 0, none⟩)
  | .func f => .func (.func f) #[] #[]

structure Rep (N : Nat) (a : Act) (ρ : Env) : Prop where
  defers : a.defers = ρ.ds
  size : a.tmps.size = N
  at_ : ∀ t, t < N → a.tmps.getD t undef = ρ.get t

theorem Rep.eval {N : Nat} {a : Act} {ρ : Env} (h : Rep N a ρ) (x : Operand) : a.eval x = ev N ρ x := by
  cases x with
  | tmp t =>
    simp only [Act.eval, ev]
    by_cases ht : t < N
    · rw [h.at_ t ht, blt_t ht]; rfl
    · rw [blt_f ht]
      have hs := h.size
      simp only [cond_false]
      rw [Array.getD_eq_getD_getElem?, Array.getElem?_eq_none (by rw [hs]; exact Nat.le_of_not_lt ht)]; rfl
  | const v => rfl
  | global g => rfl
  | func f => rfl
theorem Rep.eval_fun {N : Nat} {a : Act} {ρ : Env} (h : Rep N a ρ) : a.eval = ev N ρ := funext h.eval

theorem Rep.put {N : Nat} {a : Act} {ρ : Env} (h : Rep N a ρ) (d : Option Tmp) (v : Value) : Rep N (a.put d v) (ρ.upo d v) := by
  cases d with
  | none => exact h
  | some t =>
    refine ⟨h.defers, by simp [Act.put, h.size], fun s hs => ?_⟩
    simp only [Act.put, Env.upo, Env.up]
    by_cases e : s = t
    · subst e
      have hsz : s < a.tmps.size := by rw [h.size]; exact hs
      simp [Array.getD_eq_getD_getElem?, Array.getElem?_setIfInBounds, hsz]
    · have hb : Nat.beq s t = false := by
        cases hq : Nat.beq s t with
        | true => exact absurd (Nat.eq_of_beq_eq_true hq) e
        | false => rfl
      rw [hb]
      simp only [cond_false]
      rw [← h.at_ s hs]
      have hne : t ≠ s := fun q => e q.symm
      simp [Array.getD_eq_getD_getElem?, Array.getElem?_setIfInBounds, hne]

theorem rep_get?  {N : Nat} {a : Act} {ρ : Env} (h : Rep N a ρ) (t : Nat) (ht : t < N) : a.tmps[t]? = some (ρ.get t) := by
  have := h.at_ t ht
  have hs : t < a.tmps.size := by rw [h.size]; exact ht
  rw [Array.getD_eq_getD_getElem?, Array.getElem?_eq_getElem hs] at this
  rw [Array.getElem?_eq_getElem hs]
  simpa using this

/-! ### 2. The fence: none, but for the round of a range over a function -/
def Fw (r : Option Nat) : Fence := { fn := fun _ => True, depth := none, alive := false, round := r }

abbrev Post := Exit → Env → World → Prop

/-- Code, walked over an environment. -/
structure EW (P : Program) (r : Option Nat) (N : Nat) (c : Code) (Q : Post) (ρ : Env) (w : World) : Prop where
  out : ∀ a, Rep N a ρ → c.wpIn (Fw r) 0 P (fun e a' w' => ∃ ρ', Rep N a' ρ' ∧ Q e ρ' w') a w

/-- A list of operations, walked over an environment; 'ops' is the whole region (for the guards). -/
structure EL (P : Program) (r : Option Nat) (N : Nat) (ops : List Oper) (Q : Post) (l : List Oper) (ρ : Env) (w : World) : Prop where
  out : ∀ a, Rep N a ρ → wpListIn (Fw r) 0 P ops.toArray (fun e a' w' => ∃ ρ', Rep N a' ρ' ∧ Q e ρ' w') l a w

abbrev thenP (K : Env → World → Prop) (Q : Post) : Post := fun e ρ w => match e with
  | .normal => K ρ w
  | e => Q e ρ w
abbrev blockP (id : Nat) (Q : Post) : Post := fun e ρ w => match e with
  | .exit i => cond (Nat.beq i id) (Q .normal ρ w) (Q (.exit i) ρ w)
  | e => Q e ρ w

section
variable {P : Program} {r : Option Nat} {N : Nat} {Q : Post} {ρ : Env} {w : World}

theorem EW.mono {c : Code} {Q' : Post} (h : EW P r N c Q ρ w) (hq : ∀ e ρ w, Q e ρ w → Q' e ρ w) : EW P r N c Q' ρ w :=
  ⟨fun a ha => wpIn_mono (h.out a ha) fun e a' w' ⟨ρ', h1, h2⟩ => ⟨ρ', h1, hq _ _ _ h2⟩⟩

theorem ew_seq {x y : Code} (h : EW P r N x (thenP (EW P r N y Q) Q) ρ w) : EW P r N (x.seq y) Q ρ w :=
  ⟨fun a ha => wpIn_seq (wpIn_mono (h.out a ha) fun e a' w' ⟨ρ', h1, h2⟩ => by
    cases e with
    | normal => exact h2.out _ h1
    | _ => exact ⟨ρ', h1, h2⟩)⟩
theorem ew_skip (h : Q .normal ρ w) : EW P r N .skip Q ρ w := ⟨fun a ha => wpIn_skip ⟨ρ, ha, h⟩⟩
theorem ew_exit {id : Nat} (h : Q (.exit id) ρ w) : EW P r N (.exit id) Q ρ w := ⟨fun a ha => wpIn_exit ⟨ρ, ha, h⟩⟩
theorem ew_goto {l : Nat} (h : Q (.goto l) ρ w) : EW P r N (.goto l) Q ρ w := ⟨fun a ha => wpIn_goto ⟨ρ, ha, h⟩⟩
theorem ew_ret (h : Q .ret ρ w) : EW P r N .ret Q ρ w := ⟨fun a ha => wpIn_ret ⟨ρ, ha, h⟩⟩
theorem ew_label {l : Nat} (h : Q .normal ρ w) : EW P r N (.label l) Q ρ w := ⟨fun a ha => wpIn_label ⟨ρ, ha, h⟩⟩
theorem ew_block {id : Nat} {c : Code} (h : EW P r N c (blockP id Q) ρ w) : EW P r N (.block id c) Q ρ w :=
  ⟨fun a ha => wpIn_block (wpIn_mono (h.out a ha) fun e a' w' ⟨ρ', h1, h2⟩ => by
    cases e with
    | exit i =>
      simp only [blockP] at h2
      simp only [Exit.inBlock]
      by_cases e : i = id
      · subst e
        simp only [Nat.beq_refl, cond_true] at h2
        simp only [if_true]; exact ⟨ρ', h1, h2⟩
      · have hb : Nat.beq i id = false := by
          cases hq : Nat.beq i id with
          | true => exact absurd (Nat.eq_of_beq_eq_true hq) e
          | false => rfl
        rw [hb] at h2
        simp only [e, if_false]; exact ⟨ρ', h1, h2⟩
    | _ => exact ⟨ρ', h1, h2⟩)⟩
theorem ew_cond {c : Operand} {x y : Code} {b : Bool} (hc : ev N ρ c = .bool b) (ht : b = true → EW P r N x Q ρ w) (hf : b = false → EW P r N y Q ρ w) :
    EW P r N (.cond c x y) Q ρ w :=
  ⟨fun a ha => wpIn_cond_split (by rw [ha.eval]; exact hc) (fun h => (ht h).out a ha) (fun h => (hf h).out a ha)⟩
theorem ew_cond_t {c : Operand} {x y : Code} {b : Bool} (hc : ev N ρ c = .bool b) (hb : b = true) (ht : EW P r N x Q ρ w) : EW P r N (.cond c x y) Q ρ w :=
  ew_cond hc (fun _ => ht) (fun h => by rw [hb] at h; cases h)
theorem ew_cond_f {c : Operand} {x y : Code} {b : Bool} (hc : ev N ρ c = .bool b) (hb : b = false) (hf : EW P r N y Q ρ w) : EW P r N (.cond c x y) Q ρ w :=
  ew_cond hc (fun h => by rw [hb] at h; cases h) (fun _ => hf)

/-- What the slots hold. -/
def Mt (ρ : Env) : List (Nat × Value) → Prop
  | [] => True
  | (t, v) :: l => ρ.get t = v ∧ Mt ρ l
theorem up_id {ρ : Env} {t : Nat} {v : Value} (h : ρ.get t = v) : ρ.up t v = ρ := by
  cases ρ with
  | mk g ds =>
    simp only [Env.up] at *
    congr 1
    funext s
    cases hq : Nat.beq s t with
    | true => rw [Nat.eq_of_beq_eq_true hq, ← h]; rfl
    | false => rfl
theorem ups_id {ρ : Env} : ∀ {l : List (Nat × Value)}, Mt ρ l → ρ.ups l = ρ
  | [], _ => rfl
  | (t, v) :: l, h => by
    simp only [Env.ups]
    rw [ups_id h.2]
    exact up_id h.1

theorem least_of {p : Nat → Prop} : ∀ n, p n → ∃ m, p m ∧ ∀ k, p k → m ≤ k := by
  intro n
  induction n using Nat.strongRecOn with
  | _ n ih =>
    intro hn
    by_cases h : ∃ m, m < n ∧ p m
    · obtain ⟨m, hm, hp⟩ := h
      exact ih m hm hp
    · exact ⟨n, hn, fun k hk => Nat.le_of_not_lt fun hlt => h ⟨k, hlt, hk⟩⟩
open Classical in
noncomputable def leastN (p : Nat → Prop) : Nat := if h : ∃ m, p m ∧ ∀ k, p k → m ≤ k then h.choose else 0
theorem leastN_spec {p : Nat → Prop} {n : Nat} (hn : p n) : p (leastN p) ∧ ∀ k, p k → leastN p ≤ k := by
  have h : ∃ m, p m ∧ ∀ k, p k → m ≤ k := least_of n hn
  unfold leastN
  rw [dif_pos h]
  exact h.choose_spec

theorem wpIn_loop_ghost {β : Type} {F : Fence} {n : Nat} {c : Code} {Q' : Exit → Act → World → Prop} {a : Act} {w : World} (I : β → Act → World → Prop) (μ : β → Nat) (b0 : β) (h0 : I b0 a w)
    (round : ∀ x a w, I x a w → c.wpIn F n P (Exit.then (fun a' w' => ∃ x', I x' a' w' ∧ μ x' < μ x) Q') a w) : (Code.loop c).wpIn F n P Q' a w := by
  refine wpIn_loop (fun a w => ∃ x, I x a w) (fun a w => leastN fun k => ∃ x, I x a w ∧ μ x = k) ⟨b0, h0⟩ ?_
  rintro a w ⟨x1, hx1⟩
  obtain ⟨⟨x, hx, hk⟩, hmin⟩ := leastN_spec (p := fun k => ∃ x, I x a w ∧ μ x = k) ⟨x1, hx1, rfl⟩
  refine wpIn_mono (round x a w hx) fun e a' w' hq => ?_
  cases e with
  | normal =>
    obtain ⟨x', hx', hlt⟩ := hq
    refine ⟨⟨x', hx'⟩, ?_⟩
    have h2 := (leastN_spec (p := fun k => ∃ x, I x a' w' ∧ μ x = k) ⟨x', hx', rfl⟩).2 _ ⟨x', hx', rfl⟩
    omega
  | _ => exact hq

/-- A loop: at each round's head the slots hold 'S x' and the world is as 'I x' says; the rounds lower 'μ'. -/
theorem ew_loop {α : Type} {c : Code} (S : α → List (Nat × Value)) (I : α → World → Prop) (μ : α → Nat) (x0 : α) (h0 : Mt ρ (S x0)) (hI : I x0 w)
    (round : ∀ (x : α) (ρ' : Env) (w : World), ρ'.ds = ρ.ds → I x w → EW P r N c (thenP (fun ρ' w' => ρ'.ds = ρ.ds ∧ ∃ x', Mt ρ' (S x') ∧ I x' w' ∧ μ x' < μ x) Q) (ρ'.ups (S x)) w) :
    EW P r N (.loop c) Q ρ w := by
  refine ⟨fun a ha => ?_⟩
  refine wpIn_loop_ghost (fun (x : α) a w => ∃ ρ' : Env, ρ'.ds = ρ.ds ∧ Mt ρ' (S x) ∧ I x w ∧ Rep N a ρ') μ x0 ⟨ρ, rfl, h0, hI, ha⟩ ?_
  rintro x a w ⟨ρ', hd, hm, hi, ha⟩
  have h := (round x ρ' w hd hi).out a (by rw [ups_id hm]; exact ha)
  refine wpIn_mono h fun e a' w' ⟨ρ2, h1, h2⟩ => ?_
  cases e with
  | normal => obtain ⟨hd2, x', hm2, hi2, hlt⟩ := h2; exact ⟨x', ⟨ρ2, hd2, hm2, hi2, h1⟩, hlt⟩
  | _ => exact ⟨ρ2, h1, h2⟩

/-! ### 3. Regions -/
theorem ew_region {id : Nat} {l : List Oper} (h : EL P r N l Q l ρ w) : EW P r N (.region id l.toArray false) Q ρ w :=
  ⟨fun a ha => wpIn_region_lit (h.out a ha)⟩

/-- Is the operation wanted? -/
def yieldE (ops : List Oper) (N : Nat) (ρ : Env) (j : Nat) : Option Bool :=
  match ops[j]? with
  | some o => match o.dst with
    | some d => match ev N ρ (.tmp d) with
      | .bool b => some b
      | _ => none
    | none => none
  | none => none
def wantedE (ops : List Oper) (N : Nat) (ρ : Env) (o : Oper) : Bool :=
  match o.guard with
  | none => true
  | some (j, b) => match yieldE ops N ρ j with
    | some true => b
    | some false => !b
    | none => false

theorem yielded_of {ops : List Oper} {a : Act} (h : Rep N a ρ) (j : Nat) : yielded ops.toArray a.tmps j = yieldE ops N ρ j := by
  unfold yielded yieldE
  cases hj : ops[j]? with
  | none => simp [hj]
  | some o =>
    cases hd : o.dst with
    | none => simp [hj, hd]
    | some d =>
      simp only [List.getElem?_toArray, hj, Option.bind_some, hd]
      by_cases ht : d < N
      · rw [rep_get? h d ht]
        simp only [ev, blt_t ht, cond_true]
        cases ρ.get d <;> rfl
      · simp only [ev, blt_f ht, cond_false]
        have hs := h.size
        rw [Array.getElem?_eq_none (by rw [hs]; exact Nat.le_of_not_lt ht)]
        rfl
theorem wanted_of {ops : List Oper} {a : Act} (h : Rep N a ρ) (o : Oper) : Region.wanted o (yielded ops.toArray a.tmps) = wantedE ops N ρ o := by
  unfold Region.wanted wantedE
  cases hg : o.guard with
  | none => rfl
  | some g =>
    obtain ⟨j, b⟩ := g
    simp only
    rw [yielded_of h]
    cases yieldE ops N ρ j with
    | none => cases b <;> rfl
    | some x => cases x <;> cases b <;> rfl

variable {ops : List Oper} {l : List Oper} {o : Oper}

theorem el_nil (h : Q .normal ρ w) : EL P r N ops Q [] ρ w := ⟨fun a ha => ⟨ρ, ha, h⟩⟩

theorem el_skip (hw : wantedE ops N ρ o = false) (h : EL P r N ops Q l (ρ.upo o.dst undef) w) : EL P r N ops Q (o :: l) ρ w :=
  ⟨fun a ha => by
    unfold wpListIn
    rw [wanted_of ha, hw]
    exact ⟨fun _ _ => trivial, h.out _ (ha.put _ _)⟩⟩

/-- One operation, by what its run comes to. -/
theorem el_run {v : Value} {w' : World} (hw : wantedE ops N ρ o = true) (hr : ∀ ro, (o.semAt ro (ev N ρ)).run P w = .ok (.value v) w') (h : EL P r N ops Q l (ρ.upo o.dst v) w') : EL P r N ops Q (o :: l) ρ w :=
  ⟨fun a ha => by
    unfold wpListIn
    rw [wanted_of ha, hw]
    simp only [if_true]
    refine ⟨fun _ _ => trivial, ?_⟩
    rw [ha.eval_fun, hr]
    exact h.out _ (ha.put _ _)⟩
theorem el_runs {w' : World} (hw : wantedE ops N ρ o = true) (hr : ∀ ro, (o.semAt ro (ev N ρ)).run P w = .ok .skip w') (h : EL P r N ops Q l (ρ.upo o.dst undef) w') : EL P r N ops Q (o :: l) ρ w :=
  ⟨fun a ha => by
    unfold wpListIn
    rw [wanted_of ha, hw]
    simp only [if_true]
    refine ⟨fun _ _ => trivial, ?_⟩
    rw [ha.eval_fun, hr]
    exact h.out _ (ha.put _ _)⟩

/-- What a call comes to: it returns, and R. -/
def Fn (P : Program) (f : FuncId) (args : List Value) (w : World) (R : Value → World → Prop) : Prop :=
  Calls P f args.toArray w fun e w' => ∃ v, e = .returned v ∧ R v w'
theorem Fn.mono {f : FuncId} {args : List Value} {R R' : Value → World → Prop} (h : Fn P f args w R) (hr : ∀ v w', R v w' → R' v w') : Fn P f args w R' :=
  Calls.mono h fun _ _ ⟨v, he, hv⟩ => ⟨v, he, hr _ _ hv⟩

theorem callsIn_of_fn {f : FuncId} {args : List Value} {R : Value → World → Prop} (h : Fn P f args w R) : CallsIn (Fw r) 0 P f args.toArray w fun e w' => ∃ v, e = .returned v ∧ R v w' :=
  ⟨trivial, fun cs _ =>
    let ⟨e, w', fr, hR, hs, x⟩ := h cs
    ⟨e, w', fr, hR, by
      obtain ⟨v, rfl, _⟩ := hR
      exact (StepsIn.of_steps hs).mono fun m _ => (by
        intro g _
        exact ⟨fun h => by simp [Fw] at h, Or.inl trivial, fun _ _ => trivial, fun _ h => by simp [Fw] at h⟩), x⟩⟩

theorem el_enter {f : FuncId} {args : List Value} {w1 : World} {R : Value → World → Prop} (hw : wantedE ops N ρ o = true) (hr : ∀ ro, (o.semAt ro (ev N ρ)).run P w = .ok (.enter f args.toArray) w1)
    (hf : Fn P f args w1 R) (h : ∀ v w', R v w' → EL P r N ops Q l (ρ.upo o.dst v) w') : EL P r N ops Q (o :: l) ρ w :=
  ⟨fun a ha => by
    unfold wpListIn
    rw [wanted_of ha, hw]
    simp only [if_true]
    refine ⟨fun _ _ => trivial, ?_⟩
    rw [ha.eval_fun, hr]
    refine ⟨fun h => by simp [Fw] at h, ?_⟩
    refine (callsIn_of_fn (r := r) hf).mono fun e w' ⟨v, he, hv⟩ => ?_
    subst he
    exact (h v w' hv).out _ (ha.put _ _)⟩

/-! ### 4. A function -/
def retP (P : Program) (fn : Func) (R : Value → World → Prop) : Post := fun e ρ w => match e with
  | .normal | .ret => ρ.ds = [] ∧ ∃ v, (∀ a : Act, Rep fn.ntmps a ρ → (results fn a.tmps).run P w = .ok v w) ∧ R v w
  | _ => False

theorem args_rep {n : Nat} (args : List Value) (h : args.length ≤ n) : Rep n { tmps := args.toArray ++ Array.replicate (n - args.toArray.size) undef, defers := [] } (Env.args args) := by
  refine ⟨rfl, by simp; omega, fun t ht => ?_⟩
  simp only [Env.args, Array.getD_eq_getD_getElem?, Array.getElem?_append, List.size_toArray, List.getElem?_toArray, List.getD_eq_getElem?_getD]
  by_cases h1 : t < args.length
  · simp [h1]
  · rw [if_neg h1, List.getElem?_eq_none (by omega)]
    simp only [Array.getElem?_replicate]
    split <;> rfl

theorem fn_enter {f : FuncId} {fn : Func} {c : Code} {args : List Value} {R : Value → World → Prop} (hf : P.funcs[f]? = some fn) (hb : fn.body = some c) (hn : Nat.ble args.length fn.ntmps = true)
    (h : EW P none fn.ntmps c (retP P fn R) (Env.args args) w) : Fn P f args w R := by
  have hle : args.length ≤ fn.ntmps := Nat.le_of_ble_eq_true hn
  refine callsIn_wide (n := 0) |>.1 (callsIn_of_wp (F := Fence.wide) hf hb trivial ?_ rfl)
  refine wpIn_mono (h.out _ (args_rep args hle)) fun e a w ⟨ρ', h1, h2⟩ => ?_
  cases e with
  | normal => obtain ⟨hd, v, hv, hR⟩ := h2; exact ⟨h1.defers.trans hd, v, hv a h1, v, rfl, hR⟩
  | ret => obtain ⟨hd, v, hv, hR⟩ := h2; exact ⟨h1.defers.trans hd, v, hv a h1, v, rfl, hR⟩
  | _ => exact h2.elim

theorem ret_1 {fn : Func} {R : Value → World → Prop} {t : Nat} (v : Value) (hr : fn.results = #[.tmp t]) (ht : Nat.blt t fn.ntmps = true) (hd : ρ.ds = []) (hv : ρ.get t = v) (h : R v w) : retP P fn R .ret ρ w := by
  subst hv
  refine ⟨hd, _, fun a ha => ?_, h⟩
  rw [results_tmp hr, ha.at_ t (lt_blt ht)]
theorem ret_2 {fn : Func} {R : Value → World → Prop} {t u : Nat} (v v' : Value) (hr : fn.results = #[.tmp t, .tmp u]) (ht : Nat.blt t fn.ntmps = true) (hu : Nat.blt u fn.ntmps = true) (hd : ρ.ds = [])
    (hv : ρ.get t = v) (hv' : ρ.get u = v') (h : R (.tuple #[v, v']) w) : retP P fn R .ret ρ w := by
  subst hv
  subst hv'
  refine ⟨hd, _, fun a ha => ?_, h⟩
  rw [results_tmp2 hr, ha.at_ t (lt_blt ht), ha.at_ u (lt_blt hu)]
theorem ret_3 {fn : Func} {R : Value → World → Prop} {t u x : Nat} (v v' v'' : Value) (hr : fn.results = #[.tmp t, .tmp u, .tmp x]) (ht : Nat.blt t fn.ntmps = true) (hu : Nat.blt u fn.ntmps = true) (hx : Nat.blt x fn.ntmps = true) (hd : ρ.ds = [])
    (hv : ρ.get t = v) (hv' : ρ.get u = v') (hv'' : ρ.get x = v'') (h : R (.tuple #[v, v', v'']) w) : retP P fn R .ret ρ w := by
  subst hv
  subst hv'
  subst hv''
  refine ⟨hd, _, fun a ha => ?_, h⟩
  have h1 := ha.at_ t (lt_blt ht)
  have h2 := ha.at_ u (lt_blt hu)
  have h3 := ha.at_ x (lt_blt hx)
  rw [Array.getD_eq_getD_getElem?] at h1 h2 h3
  simp only [results, hr]
  simp [h1, h2, h3]

/-- A result, out of its slot or its cell. -/
def ResV (P : Program) (N : Nat) (ρ : Env) (w : World) : ResultVar → Value → Prop
  | .tmp t, v => Nat.blt t N = true ∧ ρ.get t = v
  | .cell a T, v => ∃ ad, Nat.blt a N = true ∧ ρ.get a = .pointer (some ad) ∧ (loadVar T ad).run P w = .ok v w
def ResOk (P : Program) (N : Nat) (ρ : Env) (w : World) : List ResultVar → List Value → Prop
  | [], [] => True
  | r :: rs, v :: vs => ResV P N ρ w r v ∧ ResOk P N ρ w rs vs
  | _, _ => False
def outV : List Value → Value
  | [v] => v
  | vs => .tuple vs.toArray
def resOne (tmps : Array Value) : ResultVar → Sem Value
  | .tmp t => pure (tmps.getD t undef)
  | .cell x t => do loadVar t (← asAddr (tmps.getD x undef))
theorem results_one (fn : Func) (tmps : Array Value) : results fn tmps = (do
    let vs ← fn.results.mapM (resOne tmps)
    pure (if h : vs.size = 1 then vs[0] else .tuple vs)) := by
  unfold results
  congr 1
theorem run_resOk {N : Nat} {a : Act} (ha : Rep N a ρ) : ∀ (rs : List ResultVar) (vs : List Value), ResOk P N ρ w rs vs → (rs.mapM (resOne a.tmps)).run P w = Result.ok vs w := by
  intro rs
  induction rs with
  | nil => intro vs h; cases vs with
    | nil => rfl
    | cons v vs => exact h.elim
  | cons r rs ih =>
    intro vs h
    cases vs with
    | nil => exact h.elim
    | cons v vs =>
      obtain ⟨h1, h2⟩ := h
      have e := ih vs h2
      rw [List.mapM_cons]
      have e1 : (resOne a.tmps r).run P w = .ok v w := by
        cases r with
        | tmp t =>
          obtain ⟨ht, hv⟩ := h1
          simp only [resOne, Sem.run_pure, ha.at_ t (lt_blt ht), hv]
        | cell x t =>
          obtain ⟨ad, hx, hv, hl⟩ := h1
          simp only [resOne, Sem.run_bind, ha.at_ x (lt_blt hx), hv, asAddr, Sem.run_pure, Result.andThen_ok, hl]
      simp only [Sem.run_bind, e1, e, Result.andThen_ok, Sem.run_pure]
theorem ret_l {fn : Func} {R : Value → World → Prop} {rs : List ResultVar} (vs : List Value) (hr : fn.results = rs.toArray) (hd : ρ.ds = []) (hv : ResOk P fn.ntmps ρ w rs vs) (h : R (outV vs) w) : retP P fn R .ret ρ w := by
  refine ⟨hd, _, fun a ha => ?_, h⟩
  have e := run_resOk ha rs vs hv
  rw [results_one, hr, Array.mapM_eq_mapM_toList]
  simp only [Sem.run_bind]
  have e2 : ((List.toArray <$> (List.mapM (resOne a.tmps) rs.toArray.toList) : Sem (Array Value))).run P w = Result.ok vs.toArray w := by
    have : rs.toArray.toList = rs := by simp
    rw [this]
    simp [e]
  rw [e2]
  simp only [Result.andThen_ok, Sem.run_pure]
  congr 1
  match vs with
  | [] => rfl
  | [v] => rfl
  | v :: v' :: vs => simp [outV]
end
end Go.Proofs.Ytpdgfekimnmdnaa
