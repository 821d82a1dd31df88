/- Orders: which messages may be, by both hands. -/
import Derived.Test.YtpdgfekimnmdnaaWireY
import Derived.Test.YtpdgfekimnmdnaaWireV

set_option linter.unusedVariables false
set_option linter.unusedSimpArgs false
namespace Go.Proofs.Ytpdgfekimnmdnaa
open Go.RowKit
set_option maxRecDepth 20000

theorem in_okind (n l m : Int) (w : World) : Fn Try.prog 54 [.int .i64 n, .int .i64 l, .int .i64 m] w fun r w' => r = .bool (decide (l ≤ n ∧ n ≤ m)) ∧ w = w' := by
  refine fn_enter Try.func54 rfl rfl ?_
  refine es rfl ?_
  refine spn 3 rfl ?_
  by_cases h : l ≤ n
  · refine el_as (v' := .bool true) (bool_eq (decide_eq_true h)) ?_
    refine ep rfl ?_
    refine ew_ret (ret_1 (.bool (decide (n ≤ m))) rfl rfl rfl rfl ⟨bool_eq ?_, rfl⟩)
    simp [h]
  · refine el_as (v' := .bool false) (bool_eq (decide_eq_false h)) ?_
    refine ep rfl ?_
    refine ew_ret (ret_1 (.bool false) rfl rfl rfl rfl ⟨bool_eq ?_, rfl⟩)
    simp [h]
theorem in_i64 (n l m : Int) (w : World) : Fn Try.prog 55 [.int .i64 n, .int .i64 l, .int .i64 m] w fun r w' => r = .bool (decide (l ≤ n ∧ n ≤ m)) ∧ w = w' := by
  refine fn_enter Try.func55 rfl rfl ?_
  refine es rfl ?_
  refine spn 3 rfl ?_
  by_cases h : l ≤ n
  · refine el_as (v' := .bool true) (bool_eq (decide_eq_true h)) ?_
    refine ep rfl ?_
    refine ew_ret (ret_1 (.bool (decide (n ≤ m))) rfl rfl rfl rfl ⟨bool_eq ?_, rfl⟩)
    simp [h]
  · refine el_as (v' := .bool false) (bool_eq (decide_eq_false h)) ?_
    refine ep rfl ?_
    refine ew_ret (ret_1 (.bool false) rfl rfl rfl rfl ⟨bool_eq ?_, rfl⟩)
    simp [h]
theorem in_int (n l m : Int) (w : World) : Fn Try.prog 60 [.int .i64 n, .int .i64 l, .int .i64 m] w fun r w' => r = .bool (decide (l ≤ n ∧ n ≤ m)) ∧ w = w' := by
  refine fn_enter Try.func60 rfl rfl ?_
  refine es rfl ?_
  refine spn 3 rfl ?_
  by_cases h : l ≤ n
  · refine el_as (v' := .bool true) (bool_eq (decide_eq_true h)) ?_
    refine ep rfl ?_
    refine ew_ret (ret_1 (.bool (decide (n ≤ m))) rfl rfl rfl rfl ⟨bool_eq ?_, rfl⟩)
    simp [h]
  · refine el_as (v' := .bool false) (bool_eq (decide_eq_false h)) ?_
    refine ep rfl ?_
    refine ew_ret (ret_1 (.bool false) rfl rfl rfl rfl ⟨bool_eq ?_, rfl⟩)
    simp [h]
theorem in_rkind (n l m : Int) (w : World) : Fn Try.prog 61 [.int .i64 n, .int .i64 l, .int .i64 m] w fun r w' => r = .bool (decide (l ≤ n ∧ n ≤ m)) ∧ w = w' := by
  refine fn_enter Try.func61 rfl rfl ?_
  refine es rfl ?_
  refine spn 3 rfl ?_
  by_cases h : l ≤ n
  · refine el_as (v' := .bool true) (bool_eq (decide_eq_true h)) ?_
    refine ep rfl ?_
    refine ew_ret (ret_1 (.bool (decide (n ≤ m))) rfl rfl rfl rfl ⟨bool_eq ?_, rfl⟩)
    simp [h]
  · refine el_as (v' := .bool false) (bool_eq (decide_eq_false h)) ?_
    refine ep rfl ?_
    refine ew_ret (ret_1 (.bool false) rfl rfl rfl rfl ⟨bool_eq ?_, rfl⟩)
    simp [h]

/-- Which orders may be; n: the length of the bundle. -/
def ordOk (k e t v : Int) (n : Nat) : Prop := 1 ≤ k ∧ k ≤ 3 ∧ 1 ≤ e ∧ e ≤ 2147483647 ∧ 0 ≤ t ∧ t ≤ 2147483647 ∧ 0 ≤ v ∧ v ≤ 2147483647 ∧ (k = 2 → v ≠ 0 ∧ n = 0) ∧ (k ≠ 2 → v = 0)
instance (k e t v : Int) (n : Nat) : Decidable (ordOk k e t v n) := by unfold ordOk; infer_instance
def ordE (k e t v : Int) (n : Nat) : Int := if ordOk k e t v n then (if n > 80000 then 3 else 0) else 2
theorem ordE_bad {k e t v : Int} {n : Nat} (h : ¬ ordOk k e t v n) : ordE k e t v n = 2 := by unfold ordE; rw [if_neg h]
theorem ordE_long {k e t v : Int} {n : Nat} (h : ordOk k e t v n) (h2 : n > 80000) : ordE k e t v n = 3 := by unfold ordE; rw [if_pos h, if_pos h2]
theorem ordE_ok {k e t v : Int} {n : Nat} (h : ordOk k e t v n) (h2 : ¬ n > 80000) : ordE k e t v n = 0 := by unfold ordE; rw [if_pos h, if_neg h2]
/-- Which reports may be. -/
def tolOk (node k e t v : Int) : Prop := 0 ≤ node ∧ node ≤ 63 ∧ 1 ≤ k ∧ k ≤ 4 ∧ 1 ≤ e ∧ e ≤ 2147483647 ∧ 0 ≤ t ∧ t ≤ 2147483647 ∧ 0 ≤ v ∧ v ≤ 2147483647
instance (node k e t v : Int) : Decidable (tolOk node k e t v) := by unfold tolOk; infer_instance
def tolE (node k e t v : Int) : Int := if tolOk node k e t v then 0 else 2

theorem order_ok (k e t v : Int) (ad : Option Addr) (n cap : Nat) (hn : n ≤ 9223372036854775807) (w : World) :
    Fn Try.prog 30 [.agg #[.int .i64 k, .int .i64 e, .int .i64 t, .int .i64 v, .slice ad n cap]] w fun r w' => r = .int .i64 (ordE k e t v n) ∧ Keep [] w w' := by
  refine fn_enter Try.func30 rfl rfl ?_
  refine sp rfl ?_
  refine el_box #[.int .i64 k, .int .i64 e, .int .i64 t, .int .i64 v, .slice ad n cap] rfl rfl rfl rfl ?_
  intro bb w1 e1 e1' k1 hb
  refine ep rfl ?_
  refine sp rfl ?_
  refine el_loadb rfl rfl rfl rfl rfl hb rfl ?_
  obtain ⟨bk, hbk⟩ : ∃ b, (k == 2) = b := ⟨_, rfl⟩
  refine ppn 1 rfl ?_
  refine el_as (v' := .bool bk) (bool_eq hbk) ?_
  refine ep rfl ?_
  refine ew_seq (ew_block ?_)
  refine ew_seq ?_
  refine sp rfl ?_
  refine el_loadb rfl rfl rfl rfl rfl hb rfl ?_
  refine el_call rfl rfl rfl rfl rfl rfl (in_okind k 1 3 w1) ?_
  rintro _ _ ⟨rfl, rfl⟩
  by_cases h1 : ¬ (1 ≤ k ∧ k ≤ 3)
  · rw [decide_eq_false h1]
    refine ep rfl ?_
    refine ew_cond_t rfl rfl ?_
    refine ew_skip ?_
    refine ew_cond_t rfl rfl ?_
    refine es rfl ?_
    exact ew_ret (ret_1 (.int .i64 2) rfl rfl rfl rfl ⟨int_eq (ordE_bad (by unfold ordOk; omega)).symm, k1⟩)
  have h1 := Decidable.not_not.1 h1
  rw [decide_eq_true h1]
  refine ep rfl ?_
  refine ew_cond_f rfl rfl ?_
  refine sp rfl ?_
  refine el_loadb rfl rfl rfl rfl rfl hb rfl ?_
  refine el_call rfl rfl rfl rfl rfl rfl (in_i64 e 1 2147483647 w1) ?_
  rintro _ _ ⟨rfl, rfl⟩
  by_cases h2 : ¬ (1 ≤ e ∧ e ≤ 2147483647)
  · rw [decide_eq_false h2]
    refine ep rfl ?_
    refine ew_cond_t rfl rfl ?_
    refine ew_skip ?_
    refine ew_cond_t rfl rfl ?_
    refine es rfl ?_
    exact ew_ret (ret_1 (.int .i64 2) rfl rfl rfl rfl ⟨int_eq (ordE_bad (by unfold ordOk; omega)).symm, k1⟩)
  have h2 := Decidable.not_not.1 h2
  rw [decide_eq_true h2]
  refine ep rfl ?_
  refine ew_cond_f rfl rfl ?_
  refine sp rfl ?_
  refine el_loadb rfl rfl rfl rfl rfl hb rfl ?_
  refine el_call rfl rfl rfl rfl rfl rfl (in_i64 t 0 2147483647 w1) ?_
  rintro _ _ ⟨rfl, rfl⟩
  by_cases h3 : ¬ (0 ≤ t ∧ t ≤ 2147483647)
  · rw [decide_eq_false h3]
    refine ep rfl ?_
    refine ew_cond_t rfl rfl ?_
    refine ew_skip ?_
    refine ew_cond_t rfl rfl ?_
    refine es rfl ?_
    exact ew_ret (ret_1 (.int .i64 2) rfl rfl rfl rfl ⟨int_eq (ordE_bad (by unfold ordOk; omega)).symm, k1⟩)
  have h3 := Decidable.not_not.1 h3
  rw [decide_eq_true h3]
  refine ep rfl ?_
  refine ew_cond_f rfl rfl ?_
  refine gp rfl ?_
  refine el_loadb rfl rfl rfl rfl rfl hb rfl ?_
  refine el_call rfl rfl rfl rfl rfl rfl (in_i64 v 0 2147483647 w1) ?_
  rintro _ _ ⟨rfl, rfl⟩
  by_cases h4 : ¬ (0 ≤ v ∧ v ≤ 2147483647)
  · rw [decide_eq_false h4]
    refine ep rfl ?_
    refine ew_cond_t rfl rfl ?_
    refine es rfl ?_
    exact ew_ret (ret_1 (.int .i64 2) rfl rfl rfl rfl ⟨int_eq (ordE_bad (by unfold ordOk; omega)).symm, k1⟩)
  have h4 := Decidable.not_not.1 h4
  rw [decide_eq_true h4]
  refine ep rfl ?_
  refine ew_cond_f rfl rfl ?_
  refine ew_seq ?_
  refine sp rfl ?_
  refine el_loadb rfl rfl rfl rfl rfl hb rfl ?_
  obtain ⟨bv, hbv⟩ : ∃ b, (v != 0) = b := ⟨_, rfl⟩
  refine ppn 1 rfl ?_
  refine el_as (v' := .bool bv) (bool_eq hbv) ?_
  have hkk : bk = true ↔ k = 2 := by rw [← hbk]; simp
  have hvv : bv = true ↔ v ≠ 0 := by rw [← hbv]; simp
  by_cases hne : bk ≠ bv
  · refine ppn 1 rfl ?_
    refine el_as (v' := .bool true) (bool_eq (by cases bk <;> cases bv <;> simp at hne ⊢)) ?_
    refine ep rfl ?_
    refine ew_cond_t rfl rfl ?_
    have hbad : ¬ ordOk k e t v n := by
      unfold ordOk
      cases bk <;> cases bv <;> simp at hne hkk hvv <;> omega
    refine ew_skip ?_
    refine ew_cond_t rfl rfl ?_
    refine es rfl ?_
    exact ew_ret (ret_1 (.int .i64 2) rfl rfl rfl rfl ⟨int_eq (ordE_bad hbad).symm, k1⟩)
  have hne := Decidable.not_not.1 hne
  subst hne
  refine ppn 1 rfl ?_
  refine el_as (v' := .bool false) (bool_eq (by cases bk <;> rfl)) ?_
  refine ep rfl ?_
  refine ew_cond_f rfl rfl ?_
  cases bk with
  | false =>
    have hk : k ≠ 2 := fun h => by have := hkk.2 h; cases this
    have hv : v = 0 := Decidable.not_not.1 fun h => by have := hvv.2 h; cases this
    refine gp rfl ?_
    refine ep rfl ?_
    refine ew_cond_f rfl rfl ?_
    refine sp rfl ?_
    refine el_loadb rfl rfl rfl rfl rfl hb rfl ?_
    refine ep rfl ?_
    by_cases hl : n > 80000
    · refine ew_cond_t rfl (decide_eq_true (by omega)) ?_
      refine es rfl ?_
      exact ew_ret (ret_1 (.int .i64 3) rfl rfl rfl rfl ⟨int_eq (ordE_long (by unfold ordOk; omega) hl).symm, k1⟩)
    · refine ew_cond_f rfl (decide_eq_false (by omega)) ?_
      refine ew_skip ?_
      refine es rfl ?_
      exact ew_ret (ret_1 (.int .i64 0) rfl rfl rfl rfl ⟨int_eq (ordE_ok (by unfold ordOk; omega) hl).symm, k1⟩)
  | true =>
    have hk : k = 2 := hkk.1 rfl
    have hv : v ≠ 0 := hvv.1 rfl
    refine gp rfl ?_
    refine el_loadb rfl rfl rfl rfl rfl hb rfl ?_
    refine ep rfl ?_
    by_cases hn0 : n = 0
    · refine ew_cond_f rfl (decide_eq_false (by omega)) ?_
      refine sp rfl ?_
      refine el_loadb rfl rfl rfl rfl rfl hb rfl ?_
      refine ep rfl ?_
      refine ew_cond_f rfl (decide_eq_false (by omega)) ?_
      refine ew_skip ?_
      refine es rfl ?_
      exact ew_ret (ret_1 (.int .i64 0) rfl rfl rfl rfl ⟨int_eq (ordE_ok (by unfold ordOk; omega) (by omega)).symm, k1⟩)
    · refine ew_cond_t rfl (decide_eq_true (by omega)) ?_
      refine es rfl ?_
      exact ew_ret (ret_1 (.int .i64 2) rfl rfl rfl rfl ⟨int_eq (ordE_bad (by unfold ordOk; omega)).symm, k1⟩)

theorem isTold_ok (k e t v : Int) (u : Value) (node rk re rt rv : Int) (well : Bool) (w : World) :
    Fn Try.prog 52 [.agg #[.int .i64 k, .int .i64 e, .int .i64 t, .int .i64 v, u, .int .i64 node, .int .i64 rk, .int .i64 re, .int .i64 rt, .int .i64 rv, .bool well]] w fun r w' => r = .bool (rk != 0) ∧ Keep [] w w' := by
  refine fn_enter Try.func52 rfl rfl ?_
  refine sp rfl ?_
  refine el_box #[.int .i64 k, .int .i64 e, .int .i64 t, .int .i64 v, u, .int .i64 node, .int .i64 rk, .int .i64 re, .int .i64 rt, .int .i64 rv, .bool well] rfl rfl rfl rfl ?_
  intro bb w1 e1 e1' k1 hb
  refine ep rfl ?_
  refine sp rfl ?_
  refine el_loadb rfl rfl rfl rfl rfl hb rfl ?_
  refine ep rfl ?_
  exact ew_ret (ret_1 (.bool (rk != 0)) rfl rfl rfl rfl ⟨rfl, k1⟩)

theorem tolE_bad {node k e t v : Int} (h : ¬ tolOk node k e t v) : tolE node k e t v = 2 := by unfold tolE; rw [if_neg h]
theorem tolE_ok {node k e t v : Int} (h : tolOk node k e t v) : tolE node k e t v = 0 := by unfold tolE; rw [if_pos h]
theorem told_ok (node rk re rt rv : Int) (well : Bool) (w : World) :
    Fn Try.prog 42 [.agg #[.int .i64 node, .int .i64 rk, .int .i64 re, .int .i64 rt, .int .i64 rv, .bool well]] w fun r w' => r = .int .i64 (tolE node rk re rt rv) ∧ Keep [] w w' := by
  refine fn_enter Try.func42 rfl rfl ?_
  refine sp rfl ?_
  refine el_box #[.int .i64 node, .int .i64 rk, .int .i64 re, .int .i64 rt, .int .i64 rv, .bool well] rfl rfl rfl rfl ?_
  intro bb w1 e1 e1' k1 hb1
  refine ep rfl ?_
  refine sp rfl ?_
  refine el_loada (vs := [.int .i64 rk, .int .i64 re, .int .i64 rt, .int .i64 rv]) rfl rfl rfl rfl rfl rfl hb1 rfl ?_
  refine el_alloc (z := .agg #[.int .i64 0, .int .i64 0, .int .i64 0, .int .i64 0]) #[.int .i64 0, .int .i64 0, .int .i64 0, .int .i64 0] rfl rfl rfl rfl ?_
  intro rb w2 e2 e2' k2 hr2
  refine el_store #[.int .i64 rk, .int .i64 re, .int .i64 rt, .int .i64 rv] rfl rfl rfl rfl rfl rfl rfl rfl hr2 rfl rfl ?_
  intro w3 k3 hs3 hr3
  have hb3 := k3.blk (k2.blk hb1 (by simp)) (by simp; omega)
  have k02 : Keep [] w w3 := (k1.trans0 k2).trans k3 (by simp; omega)
  refine ep rfl ?_
  refine ew_seq (sp rfl ?_)
  refine el_loadb rfl rfl rfl rfl rfl hb3 rfl ?_
  refine el_call rfl rfl rfl rfl rfl rfl (in_int node 0 63 w3) ?_
  rintro _ _ ⟨rfl, rfl⟩
  by_cases hs : ¬ (0 ≤ node ∧ node ≤ 63)
  · rw [decide_eq_false hs]
    refine ep rfl ?_
    refine ew_cond_f rfl rfl ?_
    refine ew_skip ?_
    refine es rfl ?_
    exact ew_ret (ret_1 (.int .i64 2) rfl rfl rfl rfl ⟨int_eq (tolE_bad (by unfold tolOk; omega)).symm, k02⟩)
  have hs := Decidable.not_not.1 hs
  rw [decide_eq_true hs]
  refine pp rfl ?_
  refine el_loadb rfl rfl rfl rfl rfl hr3 rfl ?_
  refine el_call rfl rfl rfl rfl rfl rfl (in_rkind rk 1 4 w3) ?_
  rintro _ _ ⟨rfl, rfl⟩
  by_cases hs : ¬ (1 ≤ rk ∧ rk ≤ 4)
  · rw [decide_eq_false hs]
    refine ep rfl ?_
    refine ew_cond_f rfl rfl ?_
    refine ew_skip ?_
    refine es rfl ?_
    exact ew_ret (ret_1 (.int .i64 2) rfl rfl rfl rfl ⟨int_eq (tolE_bad (by unfold tolOk; omega)).symm, k02⟩)
  have hs := Decidable.not_not.1 hs
  rw [decide_eq_true hs]
  refine pp rfl ?_
  refine el_loadb rfl rfl rfl rfl rfl hr3 rfl ?_
  refine el_call rfl rfl rfl rfl rfl rfl (in_i64 re 1 2147483647 w3) ?_
  rintro _ _ ⟨rfl, rfl⟩
  by_cases hs : ¬ (1 ≤ re ∧ re ≤ 2147483647)
  · rw [decide_eq_false hs]
    refine ep rfl ?_
    refine ew_cond_f rfl rfl ?_
    refine ew_skip ?_
    refine es rfl ?_
    exact ew_ret (ret_1 (.int .i64 2) rfl rfl rfl rfl ⟨int_eq (tolE_bad (by unfold tolOk; omega)).symm, k02⟩)
  have hs := Decidable.not_not.1 hs
  rw [decide_eq_true hs]
  refine pp rfl ?_
  refine el_loadb rfl rfl rfl rfl rfl hr3 rfl ?_
  refine el_call rfl rfl rfl rfl rfl rfl (in_i64 rt 0 2147483647 w3) ?_
  rintro _ _ ⟨rfl, rfl⟩
  by_cases hs : ¬ (0 ≤ rt ∧ rt ≤ 2147483647)
  · rw [decide_eq_false hs]
    refine ep rfl ?_
    refine ew_cond_f rfl rfl ?_
    refine ew_skip ?_
    refine es rfl ?_
    exact ew_ret (ret_1 (.int .i64 2) rfl rfl rfl rfl ⟨int_eq (tolE_bad (by unfold tolOk; omega)).symm, k02⟩)
  have hs := Decidable.not_not.1 hs
  rw [decide_eq_true hs]
  refine pp rfl ?_
  refine el_loadb rfl rfl rfl rfl rfl hr3 rfl ?_
  refine el_call rfl rfl rfl rfl rfl rfl (in_i64 rv 0 2147483647 w3) ?_
  rintro _ _ ⟨rfl, rfl⟩
  by_cases hs : ¬ (0 ≤ rv ∧ rv ≤ 2147483647)
  · rw [decide_eq_false hs]
    refine ep rfl ?_
    refine ew_cond_f rfl rfl ?_
    refine ew_skip ?_
    refine es rfl ?_
    exact ew_ret (ret_1 (.int .i64 2) rfl rfl rfl rfl ⟨int_eq (tolE_bad (by unfold tolOk; omega)).symm, k02⟩)
  have hs := Decidable.not_not.1 hs
  rw [decide_eq_true hs]
  refine ep rfl ?_
  refine ew_cond_t rfl rfl ?_
  refine es rfl ?_
  exact ew_ret (ret_1 (.int .i64 0) rfl rfl rfl rfl ⟨int_eq (tolE_ok (by unfold tolOk; omega)).symm, k02⟩)
end Go.Proofs.Ytpdgfekimnmdnaa
