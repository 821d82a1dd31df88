/- The engine: structs held against each other. -/
import Derived.Test.YtpdgfekimnmdnaaOrdB
import Derived.Laws.StructEq
set_option linter.unusedVariables false
set_option linter.unusedSimpArgs false
namespace Go.Proofs.Ytpdgfekimnmdnaa
open Go.RowKit
set_option maxRecDepth 20000

section
variable {P : Program} {r : Option Nat} {N : Nat} {Q : Post} {ρ : Env} {w : World} {ops l : List Oper} {o : Oper}

def eqFs (P : Program) (E : TypeId → Value → Value → Option Bool) (xs ys : List Value) : List Field → Option Bool
  | [] => some true
  | f :: fs => match (f.name == "_"), P.underlying f.type with
    | false, some T => match partV (some T) (P.cellsOf f.type) xs f.offset, partV (some T) (P.cellsOf f.type) ys f.offset with
      | some a, some b => match E f.type a b, eqFs P E xs ys fs with
        | some r, some s => some (r && s)
        | _, _ => none
      | _, _ => none
    | _, _ => none
def eqS (P : Program) : Nat → TypeId → Value → Value → Option Bool
  | 0, _, _, _ => none
  | n + 1, t, x, y => match P.underlying t, x, y with
    | some .bool, .bool a, .bool b => some (a == b)
    | some (.int _), .int k a, .int k' b => if k = k' then some (a == b) else none
    | some (.struct fs), .agg xs, .agg ys => cond (P.stoodInHeld t) none (eqFs P (eqS P n) xs.toList ys.toList fs.toList)
    | _, _, _ => none

theorem run_eqFs (d : Nat) (E : TypeId → Value → Value → Option Bool) (hE : ∀ t x y b, E t x y = some b → (Op.equalIn d t x y).run P w = .ok b w) (xs ys : Array Value) : ∀ (fs : List Field) (b : Bool), eqFs P E xs.toList ys.toList fs = some b → (Op.eqFields d xs ys fs).run P w = .ok b w := by
  intro fs
  induction fs with
  | nil => intro b h; simp only [eqFs, Option.some.injEq] at h; subst h; rfl
  | cons f fs ih =>
    intro b h
    unfold eqFs at h
    split at h
    · rename_i T hn hT
      split at h
      · rename_i a c ha hc
        split at h
        · rename_i r s hr hs
          injection h with h
          subst h
          have hne : f.name ≠ "_" := by
            intro e
            rw [e] at hn
            simp at hn
          unfold Op.eqFields
          rw [if_pos hne]
          simp only [Sem.run_bind, run_part hT ha, run_part hT hc, Result.andThen_ok, hE _ _ _ _ hr]
          cases r with
          | false => simp
          | true => simpa using ih s hs
        · cases h
      · cases h
    · cases h
theorem run_eqS : ∀ (n : Nat) (t : TypeId) (x y : Value) (b : Bool) (d : Nat), eqS P n t x y = some b → (Op.equalIn (d + n) t x y).run P w = .ok b w := by
  intro n
  induction n with
  | zero => intro t x y b d h; cases h
  | succ n ih =>
    intro t x y b d h
    unfold eqS at h
    split at h
    · rename_i a c hT
      injection h with h
      subst h
      exact run_equalIn_bool' w (d + n) t a c hT
    · rename_i k0 k a k' c hT
      split at h
      · rename_i hk
        subst hk
        injection h with h
        subst h
        exact run_equalIn_int w (d + n) t k k0 a c hT
      · cases h
    · rename_i fs xs ys hT
      cases hp : P.stoodInHeld t with
      | true => rw [hp] at h; cases h
      | false =>
        rw [hp] at h
        have hf : P.fieldsOf t = fs := by unfold Program.fieldsOf; rw [hT]
        rw [show d + (n + 1) = (d + n) + 1 from rfl, run_equalIn_agg w (d + n) t xs ys (by rw [hf]; exact hT) hp, hf]
        exact run_eqFs (d + n) (eqS P n) (fun t x y b h => ih t x y b d h) xs ys fs.toList b h
    · cases h

/-- Slots whose values are known in another form. -/
theorem ew_mt {y : Code} (L : List (Nat × Value)) (hm : Mt ρ L) (k : EW P r N y Q (ρ.ups L) w) : EW P r N y Q ρ w := by
  rw [ups_id hm] at k
  exact k
/-- == of two structs. -/
theorem el_eqs {t ty : TypeId} {x y : Operand} {xs ys : Array Value} (e : Bool) {b : Bool} (ho : o.op = .binOp .eql t x y ty) (hw : wantedE ops N ρ o = true) (hx : ev N ρ x = .agg xs) (hy : ev N ρ y = .agg ys)
    (hm : P.eqGuardType P.depth t = false) (hq : eqS P 5 t (.agg xs) (.agg ys) = some b) (hb : b = e) (h : EL P r N ops Q l (ρ.upo o.dst (.bool e)) w) : EL P r N ops Q (o :: l) ρ w := by
  subst hb
  refine el_run hw (fun ro => ?_) h
  rw [Oper.semAt_eq _ _ _ (by simp [ho])]
  unfold execOp
  simp only [ho]
  refine run_builtin_v _ ?_
  rw [hx, hy, Sem.run_bind, run_eqGuard_agg w .eql t x y xs ys hm]
  simp only [Result.andThen_ok]
  rw [run_eql_struct w t xs ys, show (10000 : Nat) = 9995 + 5 from rfl, run_eqS 5 t _ _ b 9995 hq]
  rfl
end

theorem told_guard : Try.prog.eqGuardType Try.prog.depth 43 = false := by kernel_rfl
def eqTol (n k e t v : Int) (b : Bool) (n' k' e' t' v' : Int) (b' : Bool) : Bool := (n == n' && ((k == k' && (e == e' && (t == t' && (v == v' && true)))) && (b == b' && true)))
theorem eqTol_iff {n k e t v : Int} {b : Bool} {n' k' e' t' v' : Int} {b' : Bool} : eqTol n k e t v b n' k' e' t' v' b' = true ↔ n = n' ∧ k = k' ∧ e = e' ∧ t = t' ∧ v = v' ∧ b = b' := by
  simp [eqTol, and_assoc]
theorem told_held : Try.prog.stoodInHeld 43 = false := by kernel_rfl
theorem rep_held : Try.prog.stoodInHeld 36 = false := by kernel_rfl
theorem told_eqS (n k e t v : Int) (b : Bool) (n' k' e' t' v' : Int) (b' : Bool) : eqS Try.prog 5 43 (.agg #[.int .i64 n, .int .i64 k, .int .i64 e, .int .i64 t, .int .i64 v, .bool b]) (.agg #[.int .i64 n', .int .i64 k', .int .i64 e', .int .i64 t', .int .i64 v', .bool b']) = some (eqTol n k e t v b n' k' e' t' v' b') := by
  kernel_rfl
end Go.Proofs.Ytpdgfekimnmdnaa
