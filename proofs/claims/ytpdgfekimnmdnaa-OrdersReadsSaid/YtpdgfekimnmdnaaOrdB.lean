/- Orders: which messages may be, by the second hand; a bare order; which are the same. -/
import Derived.Test.YtpdgfekimnmdnaaOrdA
import Derived.Laws.StructEq
set_option linter.unusedVariables false
set_option linter.unusedSimpArgs false
namespace Go.Proofs.Ytpdgfekimnmdnaa
open Go.RowKit
set_option maxRecDepth 20000

theorem RightTold_ok (node rk re rt rv : Int) (well : Bool) (w : World) :
    Fn Try.prog 19 [.agg #[.int .i64 node, .int .i64 rk, .int .i64 re, .int .i64 rt, .int .i64 rv, .bool well]] w fun r w' => r = .bool (decide (tolOk node rk re rt rv)) ∧ Keep [] w w' := by
  refine fn_enter Try.func19 rfl rfl ?_
  refine sp rfl ?_
  refine el_box #[.int .i64 node, .int .i64 rk, .int .i64 re, .int .i64 rt, .int .i64 rv, .bool well] rfl rfl rfl rfl ?_
  intro bb w1 e1 e1' k1 hb
  refine ep rfl ?_
  refine sp rfl ?_
  refine el_loadb rfl rfl rfl rfl rfl hb rfl ?_
  refine ep rfl ?_
  refine sp rfl ?_
  refine el_loadb rfl rfl rfl rfl rfl hb rfl ?_
  refine ppn 1 rfl ?_
  by_cases hs : ¬ 0 ≤ node
  · refine el_as (v' := .bool false) (bool_eq (decide_eq_false (by omega))) ?_
    refine ep rfl ?_
    exact ew_ret (ret_1 (.bool false) rfl rfl rfl rfl ⟨bool_eq (decide_eq_false (by unfold tolOk; omega)).symm, k1⟩)
  have hs := Decidable.not_not.1 hs
  refine el_as (v' := .bool true) (bool_eq (decide_eq_true (by omega))) ?_
  refine pp rfl ?_
  refine el_loadb rfl rfl rfl rfl rfl hb rfl ?_
  refine ppn 1 rfl ?_
  by_cases hs : ¬ node ≤ 63
  · refine el_as (v' := .bool false) (bool_eq (decide_eq_false (by omega))) ?_
    refine ep rfl ?_
    exact ew_ret (ret_1 (.bool false) rfl rfl rfl rfl ⟨bool_eq (decide_eq_false (by unfold tolOk; omega)).symm, k1⟩)
  have hs := Decidable.not_not.1 hs
  refine el_as (v' := .bool true) (bool_eq (decide_eq_true (by omega))) ?_
  refine ppn 4 rfl ?_
  by_cases hs : ¬ 1 ≤ rk
  · refine el_as (v' := .bool false) (bool_eq (decide_eq_false (by omega))) ?_
    refine ep rfl ?_
    exact ew_ret (ret_1 (.bool false) rfl rfl rfl rfl ⟨bool_eq (decide_eq_false (by unfold tolOk; omega)).symm, k1⟩)
  have hs := Decidable.not_not.1 hs
  refine el_as (v' := .bool true) (bool_eq (decide_eq_true (by omega))) ?_
  refine ppn 4 rfl ?_
  by_cases hs : ¬ rk ≤ 4
  · refine el_as (v' := .bool false) (bool_eq (decide_eq_false (by omega))) ?_
    refine ep rfl ?_
    exact ew_ret (ret_1 (.bool false) rfl rfl rfl rfl ⟨bool_eq (decide_eq_false (by unfold tolOk; omega)).symm, k1⟩)
  have hs := Decidable.not_not.1 hs
  refine el_as (v' := .bool true) (bool_eq (decide_eq_true (by omega))) ?_
  refine pp rfl ?_
  refine el_loadb rfl rfl rfl rfl rfl hb rfl ?_
  refine ppn 1 rfl ?_
  by_cases hs : ¬ 1 ≤ re
  · refine el_as (v' := .bool false) (bool_eq (decide_eq_false (by omega))) ?_
    refine ep rfl ?_
    exact ew_ret (ret_1 (.bool false) rfl rfl rfl rfl ⟨bool_eq (decide_eq_false (by unfold tolOk; omega)).symm, k1⟩)
  have hs := Decidable.not_not.1 hs
  refine el_as (v' := .bool true) (bool_eq (decide_eq_true (by omega))) ?_
  refine pp rfl ?_
  refine el_loadb rfl rfl rfl rfl rfl hb rfl ?_
  refine ppn 1 rfl ?_
  by_cases hs : ¬ re ≤ 2147483647
  · refine el_as (v' := .bool false) (bool_eq (decide_eq_false (by omega))) ?_
    refine ep rfl ?_
    exact ew_ret (ret_1 (.bool false) rfl rfl rfl rfl ⟨bool_eq (decide_eq_false (by unfold tolOk; omega)).symm, k1⟩)
  have hs := Decidable.not_not.1 hs
  refine el_as (v' := .bool true) (bool_eq (decide_eq_true (by omega))) ?_
  refine pp rfl ?_
  refine el_loadb rfl rfl rfl rfl rfl hb rfl ?_
  refine ppn 1 rfl ?_
  by_cases hs : ¬ 0 ≤ rt
  · refine el_as (v' := .bool false) (bool_eq (decide_eq_false (by omega))) ?_
    refine ep rfl ?_
    exact ew_ret (ret_1 (.bool false) rfl rfl rfl rfl ⟨bool_eq (decide_eq_false (by unfold tolOk; omega)).symm, k1⟩)
  have hs := Decidable.not_not.1 hs
  refine el_as (v' := .bool true) (bool_eq (decide_eq_true (by omega))) ?_
  refine pp rfl ?_
  refine el_loadb rfl rfl rfl rfl rfl hb rfl ?_
  refine ppn 1 rfl ?_
  by_cases hs : ¬ rt ≤ 2147483647
  · refine el_as (v' := .bool false) (bool_eq (decide_eq_false (by omega))) ?_
    refine ep rfl ?_
    exact ew_ret (ret_1 (.bool false) rfl rfl rfl rfl ⟨bool_eq (decide_eq_false (by unfold tolOk; omega)).symm, k1⟩)
  have hs := Decidable.not_not.1 hs
  refine el_as (v' := .bool true) (bool_eq (decide_eq_true (by omega))) ?_
  refine pp rfl ?_
  refine el_loadb rfl rfl rfl rfl rfl hb rfl ?_
  refine ppn 1 rfl ?_
  by_cases hs : ¬ 0 ≤ rv
  · refine el_as (v' := .bool false) (bool_eq (decide_eq_false (by omega))) ?_
    refine ep rfl ?_
    exact ew_ret (ret_1 (.bool false) rfl rfl rfl rfl ⟨bool_eq (decide_eq_false (by unfold tolOk; omega)).symm, k1⟩)
  have hs := Decidable.not_not.1 hs
  refine el_as (v' := .bool true) (bool_eq (decide_eq_true (by omega))) ?_
  refine pp rfl ?_
  refine el_loadb rfl rfl rfl rfl rfl hb rfl ?_
  refine ppn 1 rfl ?_
  by_cases hs : ¬ rv ≤ 2147483647
  · refine el_as (v' := .bool false) (bool_eq (decide_eq_false (by omega))) ?_
    refine ep rfl ?_
    exact ew_ret (ret_1 (.bool false) rfl rfl rfl rfl ⟨bool_eq (decide_eq_false (by unfold tolOk; omega)).symm, k1⟩)
  have hs := Decidable.not_not.1 hs
  refine el_as (v' := .bool true) (bool_eq (decide_eq_true (by omega))) ?_
  refine ep rfl ?_
  exact ew_ret (ret_1 (.bool true) rfl rfl rfl rfl ⟨bool_eq (decide_eq_true (by unfold tolOk; omega)).symm, k1⟩)

/-- Is an order bare? -/
def isBare (k e t v : Int) (n : Nat) : Prop := k = 0 ∧ e = 0 ∧ t = 0 ∧ v = 0 ∧ n = 0
instance (k e t v : Int) (n : Nat) : Decidable (isBare k e t v n) := by unfold isBare; infer_instance
theorem bare_ok (k e t v : Int) (ad : Option Addr) (n cap : Nat) (w : World) :
    Fn Try.prog 38 [.agg #[.int .i64 k, .int .i64 e, .int .i64 t, .int .i64 v, .slice ad n cap]] w fun r w' => r = .bool (decide (isBare k e t v n)) ∧ Keep [] w w' := by
  refine fn_enter Try.func38 rfl rfl ?_
  refine sp rfl ?_
  refine el_box #[.int .i64 k, .int .i64 e, .int .i64 t, .int .i64 v, .slice ad n cap] rfl rfl rfl rfl ?_
  intro bb w1 e1 e1' k1 hb
  refine ep rfl ?_
  refine sp rfl ?_
  refine el_loadb rfl rfl rfl rfl rfl hb rfl ?_
  by_cases hs : ¬ k = 0
  · refine el_eqi (a := k) (b := 0) (k := .i64) false (by simpa using hs) rfl rfl rfl rfl ?_
    refine ep rfl ?_
    exact ew_ret (ret_1 (.bool false) rfl rfl rfl rfl ⟨bool_eq (decide_eq_false (by unfold isBare; omega)).symm, k1⟩)
  have hs := Decidable.not_not.1 hs
  refine el_eqi (a := k) (b := 0) (k := .i64) true (by simpa using hs) rfl rfl rfl rfl ?_
  refine pp rfl ?_
  refine el_loadb rfl rfl rfl rfl rfl hb rfl ?_
  by_cases hs : ¬ e = 0
  · refine el_eqi (a := e) (b := 0) (k := .i64) false (by simpa using hs) rfl rfl rfl rfl ?_
    refine ep rfl ?_
    exact ew_ret (ret_1 (.bool false) rfl rfl rfl rfl ⟨bool_eq (decide_eq_false (by unfold isBare; omega)).symm, k1⟩)
  have hs := Decidable.not_not.1 hs
  refine el_eqi (a := e) (b := 0) (k := .i64) true (by simpa using hs) rfl rfl rfl rfl ?_
  refine pp rfl ?_
  refine el_loadb rfl rfl rfl rfl rfl hb rfl ?_
  by_cases hs : ¬ t = 0
  · refine el_eqi (a := t) (b := 0) (k := .i64) false (by simpa using hs) rfl rfl rfl rfl ?_
    refine ep rfl ?_
    exact ew_ret (ret_1 (.bool false) rfl rfl rfl rfl ⟨bool_eq (decide_eq_false (by unfold isBare; omega)).symm, k1⟩)
  have hs := Decidable.not_not.1 hs
  refine el_eqi (a := t) (b := 0) (k := .i64) true (by simpa using hs) rfl rfl rfl rfl ?_
  refine pp rfl ?_
  refine el_loadb rfl rfl rfl rfl rfl hb rfl ?_
  by_cases hs : ¬ v = 0
  · refine el_eqi (a := v) (b := 0) (k := .i64) false (by simpa using hs) rfl rfl rfl rfl ?_
    refine ep rfl ?_
    exact ew_ret (ret_1 (.bool false) rfl rfl rfl rfl ⟨bool_eq (decide_eq_false (by unfold isBare; omega)).symm, k1⟩)
  have hs := Decidable.not_not.1 hs
  refine el_eqi (a := v) (b := 0) (k := .i64) true (by simpa using hs) rfl rfl rfl rfl ?_
  refine pp rfl ?_
  refine el_loadb rfl rfl rfl rfl rfl hb rfl ?_
  refine ep rfl ?_
  refine ew_ret (ret_1 (.bool ((n : Int) == 0)) rfl rfl rfl rfl ⟨bool_eq ?_, k1⟩)
  by_cases hn : n = 0
  · rw [decide_eq_true (by unfold isBare; omega)]
    simp [hn]
  · rw [decide_eq_false (by unfold isBare; omega)]
    simpa using hn

theorem CheckOrder_ok (k e t v : Int) (ad : Option Addr) (n cap : Nat) (hn : n ≤ 9223372036854775807) (w : World) :
    Fn Try.prog 12 [.agg #[.int .i64 k, .int .i64 e, .int .i64 t, .int .i64 v, .slice ad n cap]] w fun r w' => r = .int .i64 (ordE k e t v n) ∧ Keep [] w w' := by
  obtain ⟨bk, hbk⟩ : ∃ b, (k == 2) = b := ⟨_, rfl⟩
  have hkk : bk = true ↔ k = 2 := by rw [← hbk]; simp
  obtain ⟨bv, hbv⟩ : ∃ b, (v != 0) = b := ⟨_, rfl⟩
  have hvv : bv = true ↔ v ≠ 0 := by rw [← hbv]; simp
  refine fn_enter Try.func12 rfl rfl ?_
  refine sp rfl ?_
  refine el_box #[.int .i64 k, .int .i64 e, .int .i64 t, .int .i64 v, .slice ad n cap] rfl rfl rfl rfl ?_
  intro bb w1 e1 e1' k1 hb
  refine ep rfl ?_
  refine sp rfl ?_
  refine el_loadb rfl rfl rfl rfl rfl hb rfl ?_
  refine ep rfl ?_
  refine ew_seq (spn 2 rfl ?_)
  by_cases hs : k < 1
  · refine el_as (v' := .bool true) (bool_eq (decide_eq_true (by omega))) ?_
    refine ep rfl ?_
    refine ew_cond_t rfl rfl ?_
    refine es rfl ?_
    exact ew_ret (ret_1 (.int .i64 2) rfl rfl rfl rfl ⟨int_eq (ordE_bad (by unfold ordOk; omega)).symm, k1⟩)
  refine el_as (v' := .bool false) (bool_eq (decide_eq_false (by omega))) ?_
  refine ppn 3 rfl ?_
  by_cases hs : k > 3
  · refine el_as (v' := .bool true) (bool_eq (decide_eq_true (by omega))) ?_
    refine ep rfl ?_
    refine ew_cond_t rfl rfl ?_
    refine es rfl ?_
    exact ew_ret (ret_1 (.int .i64 2) rfl rfl rfl rfl ⟨int_eq (ordE_bad (by unfold ordOk; omega)).symm, k1⟩)
  refine el_as (v' := .bool false) (bool_eq (decide_eq_false (by omega))) ?_
  refine pp rfl ?_
  refine el_loadb rfl rfl rfl rfl rfl hb rfl ?_
  refine ppn 1 rfl ?_
  by_cases hs : e < 1
  · refine el_as (v' := .bool true) (bool_eq (decide_eq_true (by omega))) ?_
    refine ep rfl ?_
    refine ew_cond_t rfl rfl ?_
    refine es rfl ?_
    exact ew_ret (ret_1 (.int .i64 2) rfl rfl rfl rfl ⟨int_eq (ordE_bad (by unfold ordOk; omega)).symm, k1⟩)
  refine el_as (v' := .bool false) (bool_eq (decide_eq_false (by omega))) ?_
  refine pp rfl ?_
  refine el_loadb rfl rfl rfl rfl rfl hb rfl ?_
  refine ppn 1 rfl ?_
  by_cases hs : e > 2147483647
  · refine el_as (v' := .bool true) (bool_eq (decide_eq_true (by omega))) ?_
    refine ep rfl ?_
    refine ew_cond_t rfl rfl ?_
    refine es rfl ?_
    exact ew_ret (ret_1 (.int .i64 2) rfl rfl rfl rfl ⟨int_eq (ordE_bad (by unfold ordOk; omega)).symm, k1⟩)
  refine el_as (v' := .bool false) (bool_eq (decide_eq_false (by omega))) ?_
  refine pp rfl ?_
  refine el_loadb rfl rfl rfl rfl rfl hb rfl ?_
  refine ppn 1 rfl ?_
  by_cases hs : t < 0
  · refine el_as (v' := .bool true) (bool_eq (decide_eq_true (by omega))) ?_
    refine ep rfl ?_
    refine ew_cond_t rfl rfl ?_
    refine es rfl ?_
    exact ew_ret (ret_1 (.int .i64 2) rfl rfl rfl rfl ⟨int_eq (ordE_bad (by unfold ordOk; omega)).symm, k1⟩)
  refine el_as (v' := .bool false) (bool_eq (decide_eq_false (by omega))) ?_
  refine pp rfl ?_
  refine el_loadb rfl rfl rfl rfl rfl hb rfl ?_
  refine ppn 1 rfl ?_
  by_cases hs : t > 2147483647
  · refine el_as (v' := .bool true) (bool_eq (decide_eq_true (by omega))) ?_
    refine ep rfl ?_
    refine ew_cond_t rfl rfl ?_
    refine es rfl ?_
    exact ew_ret (ret_1 (.int .i64 2) rfl rfl rfl rfl ⟨int_eq (ordE_bad (by unfold ordOk; omega)).symm, k1⟩)
  refine el_as (v' := .bool false) (bool_eq (decide_eq_false (by omega))) ?_
  refine pp rfl ?_
  refine el_loadb rfl rfl rfl rfl rfl hb rfl ?_
  refine ppn 1 rfl ?_
  by_cases hs : v < 0
  · refine el_as (v' := .bool true) (bool_eq (decide_eq_true (by omega))) ?_
    refine ep rfl ?_
    refine ew_cond_t rfl rfl ?_
    refine es rfl ?_
    exact ew_ret (ret_1 (.int .i64 2) rfl rfl rfl rfl ⟨int_eq (ordE_bad (by unfold ordOk; omega)).symm, k1⟩)
  refine el_as (v' := .bool false) (bool_eq (decide_eq_false (by omega))) ?_
  refine pp rfl ?_
  refine el_loadb rfl rfl rfl rfl rfl hb rfl ?_
  refine ppn 1 rfl ?_
  by_cases hs : v > 2147483647
  · refine el_as (v' := .bool true) (bool_eq (decide_eq_true (by omega))) ?_
    refine ep rfl ?_
    refine ew_cond_t rfl rfl ?_
    refine es rfl ?_
    exact ew_ret (ret_1 (.int .i64 2) rfl rfl rfl rfl ⟨int_eq (ordE_bad (by unfold ordOk; omega)).symm, k1⟩)
  refine el_as (v' := .bool false) (bool_eq (decide_eq_false (by omega))) ?_
  refine ppn 4 rfl ?_
  refine el_as (v' := .bool bk) (bool_eq hbk) ?_
  refine ppn 1 rfl ?_
  refine el_loadb rfl rfl rfl rfl rfl hb rfl ?_
  refine ppn 1 rfl ?_
  refine el_as (v' := .bool bv) (bool_eq hbv) ?_
  refine ppn 1 rfl ?_
  by_cases hne : bk ≠ bv
  · refine el_as (v' := .bool true) (bool_eq (by cases bk <;> cases bv <;> simp at hne ⊢)) ?_
    refine ep rfl ?_
    refine ew_cond_t rfl rfl ?_
    refine es rfl ?_
    refine ew_ret (ret_1 (.int .i64 2) rfl rfl rfl rfl ⟨int_eq (ordE_bad ?_).symm, k1⟩)
    unfold ordOk
    cases bk <;> cases bv <;> simp at hne hkk hvv <;> omega
  have hne := Decidable.not_not.1 hne
  subst hne
  refine el_as (v' := .bool false) (bool_eq (by cases bk <;> rfl)) ?_
  refine ppn 4 rfl ?_
  refine el_as (v' := .bool bk) (bool_eq hbk) ?_
  cases bk with
  | false =>
    have hk : k ≠ 2 := fun h => by have := hkk.2 h; cases this
    have hv : v = 0 := Decidable.not_not.1 fun h => by have := hvv.2 h; cases this
    refine ep rfl ?_
    refine ew_cond_f rfl rfl ?_
    refine ew_skip ?_
    refine ew_seq (sp rfl ?_)
    refine el_loadb rfl rfl rfl rfl rfl hb rfl ?_
    refine ep rfl ?_
    by_cases hl : n > 80000
    · refine ew_cond_t rfl (decide_eq_true (by omega)) ?_
      refine es rfl ?_
      exact ew_ret (ret_1 (.int .i64 3) rfl rfl rfl rfl ⟨int_eq (ordE_long (by unfold ordOk; omega) hl).symm, k1⟩)
    · refine ew_cond_f rfl (decide_eq_false (by omega)) ?_
      refine ew_skip ?_
      refine es rfl ?_
      exact ew_ret (ret_1 (.int .i64 0) rfl rfl rfl rfl ⟨int_eq (ordE_ok (by unfold ordOk; omega) hl).symm, k1⟩)
  | true =>
    have hk : k = 2 := hkk.1 rfl
    have hv : v ≠ 0 := hvv.1 rfl
    refine pp rfl ?_
    refine el_loadb rfl rfl rfl rfl rfl hb rfl ?_
    refine ep rfl ?_
    by_cases hn0 : n = 0
    · refine ew_cond_f rfl (decide_eq_false (by omega)) ?_
      refine ew_skip ?_
      refine ew_seq (sp rfl ?_)
      refine el_loadb rfl rfl rfl rfl rfl hb rfl ?_
      refine ep rfl ?_
      refine ew_cond_f rfl (decide_eq_false (by omega)) ?_
      refine ew_skip ?_
      refine es rfl ?_
      exact ew_ret (ret_1 (.int .i64 0) rfl rfl rfl rfl ⟨int_eq (ordE_ok (by unfold ordOk; omega) (by omega)).symm, k1⟩)
    · refine ew_cond_t rfl (decide_eq_true (by omega)) ?_
      refine es rfl ?_
      exact ew_ret (ret_1 (.int .i64 2) rfl rfl rfl rfl ⟨int_eq (ordE_bad (by unfold ordOk; omega)).symm, k1⟩)

/-- A message as data. -/
structure WorD where
  (k e t v : Int)
  bundle : List UInt8
  (node rk re rt rv : Int)
  well : Bool
/-- Why a message may not be. -/
def WorD.E (x : WorD) : Int :=
  if x.rk ≠ 0 then (if isBare x.k x.e x.t x.v x.bundle.length ∧ tolOk x.node x.rk x.re x.rt x.rv then 0 else 2)
  else if x.node = 0 ∧ x.re = 0 ∧ x.rt = 0 ∧ x.rv = 0 ∧ x.well = false then ordE x.k x.e x.t x.v x.bundle.length else 2
def WorD.V (x : WorD) (u : Value) : Value := .agg #[.int .i64 x.k, .int .i64 x.e, .int .i64 x.t, .int .i64 x.v, u, .int .i64 x.node, .int .i64 x.rk, .int .i64 x.re, .int .i64 x.rt, .int .i64 x.rv, .bool x.well]

theorem Check_ok (x : WorD) (ad : Option Addr) (cap : Nat) (hn : x.bundle.length ≤ 9223372036854775807) (w : World) :
    Fn Try.prog 28 [x.V (.slice ad x.bundle.length cap)] w fun r w' => r = .int .i64 x.E ∧ Keep [] w w' := by
  obtain ⟨k, e, t, v, bu, node, rk, re, rt, rv, well⟩ := x
  dsimp only at hn
  obtain ⟨n, hnn⟩ : ∃ n, bu.length = n := ⟨_, rfl⟩
  refine fn_enter Try.func28 rfl rfl ?_
  refine sp rfl ?_
  refine el_box #[.int .i64 k, .int .i64 e, .int .i64 t, .int .i64 v, .slice ad bu.length cap, .int .i64 node, .int .i64 rk, .int .i64 re, .int .i64 rt, .int .i64 rv, .bool well] rfl rfl rfl rfl ?_
  intro bb w1 e1 e1' k1 hb
  refine ep rfl ?_
  refine ew_seq (sp rfl ?_)
  refine el_loada (vs := [.int .i64 k, .int .i64 e, .int .i64 t, .int .i64 v, .slice ad bu.length cap, .int .i64 node, .int .i64 rk, .int .i64 re, .int .i64 rt, .int .i64 rv, .bool well]) rfl rfl rfl rfl rfl rfl hb rfl ?_
  refine el_call rfl rfl rfl rfl rfl rfl (isTold_ok k e t v (.slice ad bu.length cap) node rk re rt rv well w1) ?_
  rintro _ w2 ⟨rfl, k2⟩
  have hb := k2.blk hb (by simp)
  have k1 := k1.trans0 k2
  refine ep rfl ?_
  by_cases hrk : rk ≠ 0
  · refine ew_cond_t rfl (by simpa using hrk) ?_
    refine ew_seq (sp rfl ?_)
    refine el_loadb rfl rfl rfl rfl rfl hb rfl ?_
    by_cases hs : ¬ k = 0
    · refine el_neqi (a := k) (b := 0) (k := .i64) true (by simpa using hs) rfl rfl rfl rfl ?_
      refine ep rfl ?_
      refine ew_cond_t rfl rfl ?_
      refine es rfl ?_
      refine ew_ret (ret_1 (.int .i64 2) rfl rfl rfl rfl ⟨int_eq ?_, k1⟩)
      unfold WorD.E
      dsimp only
      rw [if_pos hrk, if_neg (by unfold isBare; omega)]
    have hs := Decidable.not_not.1 hs
    refine el_neqi (a := k) (b := 0) (k := .i64) false (by simpa using hs) rfl rfl rfl rfl ?_
    refine pp rfl ?_
    refine el_loadb rfl rfl rfl rfl rfl hb rfl ?_
    by_cases hs : ¬ e = 0
    · refine el_neqi (a := e) (b := 0) (k := .i64) true (by simpa using hs) rfl rfl rfl rfl ?_
      refine ep rfl ?_
      refine ew_cond_t rfl rfl ?_
      refine es rfl ?_
      refine ew_ret (ret_1 (.int .i64 2) rfl rfl rfl rfl ⟨int_eq ?_, k1⟩)
      unfold WorD.E
      dsimp only
      rw [if_pos hrk, if_neg (by unfold isBare; omega)]
    have hs := Decidable.not_not.1 hs
    refine el_neqi (a := e) (b := 0) (k := .i64) false (by simpa using hs) rfl rfl rfl rfl ?_
    refine pp rfl ?_
    refine el_loadb rfl rfl rfl rfl rfl hb rfl ?_
    by_cases hs : ¬ t = 0
    · refine el_neqi (a := t) (b := 0) (k := .i64) true (by simpa using hs) rfl rfl rfl rfl ?_
      refine ep rfl ?_
      refine ew_cond_t rfl rfl ?_
      refine es rfl ?_
      refine ew_ret (ret_1 (.int .i64 2) rfl rfl rfl rfl ⟨int_eq ?_, k1⟩)
      unfold WorD.E
      dsimp only
      rw [if_pos hrk, if_neg (by unfold isBare; omega)]
    have hs := Decidable.not_not.1 hs
    refine el_neqi (a := t) (b := 0) (k := .i64) false (by simpa using hs) rfl rfl rfl rfl ?_
    refine pp rfl ?_
    refine el_loadb rfl rfl rfl rfl rfl hb rfl ?_
    by_cases hs : ¬ v = 0
    · refine el_neqi (a := v) (b := 0) (k := .i64) true (by simpa using hs) rfl rfl rfl rfl ?_
      refine ep rfl ?_
      refine ew_cond_t rfl rfl ?_
      refine es rfl ?_
      refine ew_ret (ret_1 (.int .i64 2) rfl rfl rfl rfl ⟨int_eq ?_, k1⟩)
      unfold WorD.E
      dsimp only
      rw [if_pos hrk, if_neg (by unfold isBare; omega)]
    have hs := Decidable.not_not.1 hs
    refine el_neqi (a := v) (b := 0) (k := .i64) false (by simpa using hs) rfl rfl rfl rfl ?_
    refine pp rfl ?_
    refine el_loadb rfl rfl rfl rfl rfl hb rfl ?_
    refine ppn 2 rfl ?_
    by_cases hs : bu.length > 0
    · refine el_as (v' := .bool true) (bool_eq (decide_eq_true (by omega))) ?_
      refine ep rfl ?_
      refine ew_cond_t rfl rfl ?_
      refine es rfl ?_
      refine ew_ret (ret_1 (.int .i64 2) rfl rfl rfl rfl ⟨int_eq ?_, k1⟩)
      unfold WorD.E
      dsimp only
      rw [if_pos hrk, if_neg (by unfold isBare; omega)]
    refine el_as (v' := .bool false) (bool_eq (decide_eq_false (by omega))) ?_
    refine pp rfl ?_
    refine el_loada (vs := [.int .i64 node, .int .i64 rk, .int .i64 re, .int .i64 rt, .int .i64 rv, .bool well]) rfl rfl rfl rfl rfl rfl hb rfl ?_
    refine el_call rfl rfl rfl rfl rfl rfl (RightTold_ok node rk re rt rv well w2) ?_
    rintro _ w3 ⟨rfl, k3⟩
    have k1 := k1.trans0 k3
    by_cases hto : tolOk node rk re rt rv
    · rw [decide_eq_true hto]
      refine ep rfl ?_
      refine ew_cond_f rfl rfl ?_
      refine ew_skip ?_
      refine es rfl ?_
      refine ew_ret (ret_1 (.int .i64 0) rfl rfl rfl rfl ⟨int_eq ?_, k1⟩)
      unfold WorD.E
      dsimp only
      rw [if_pos hrk, if_pos ⟨by unfold isBare; omega, hto⟩]
    · rw [decide_eq_false hto]
      refine ep rfl ?_
      refine ew_cond_t rfl rfl ?_
      refine es rfl ?_
      refine ew_ret (ret_1 (.int .i64 2) rfl rfl rfl rfl ⟨int_eq ?_, k1⟩)
      unfold WorD.E
      dsimp only
      rw [if_pos hrk, if_neg (fun h => hto h.2)]
  refine ew_cond_f rfl (by simpa using hrk) ?_
  refine ew_skip ?_
  refine ew_seq (sp rfl ?_)
  refine el_loadb rfl rfl rfl rfl rfl hb rfl ?_
  by_cases hs : ¬ node = 0
  · refine el_neqi (a := node) (b := 0) (k := .i64) true (by simpa using hs) rfl rfl rfl rfl ?_
    refine ep rfl ?_
    refine ew_cond_t rfl rfl ?_
    refine es rfl ?_
    refine ew_ret (ret_1 (.int .i64 2) rfl rfl rfl rfl ⟨int_eq ?_, k1⟩)
    unfold WorD.E
    dsimp only
    rw [if_neg hrk, if_neg (by omega)]
  have hs := Decidable.not_not.1 hs
  refine el_neqi (a := node) (b := 0) (k := .i64) false (by simpa using hs) rfl rfl rfl rfl ?_
  refine pp rfl ?_
  refine el_loadb rfl rfl rfl rfl rfl hb rfl ?_
  by_cases hs : ¬ re = 0
  · refine el_neqi (a := re) (b := 0) (k := .i64) true (by simpa using hs) rfl rfl rfl rfl ?_
    refine ep rfl ?_
    refine ew_cond_t rfl rfl ?_
    refine es rfl ?_
    refine ew_ret (ret_1 (.int .i64 2) rfl rfl rfl rfl ⟨int_eq ?_, k1⟩)
    unfold WorD.E
    dsimp only
    rw [if_neg hrk, if_neg (by omega)]
  have hs := Decidable.not_not.1 hs
  refine el_neqi (a := re) (b := 0) (k := .i64) false (by simpa using hs) rfl rfl rfl rfl ?_
  refine pp rfl ?_
  refine el_loadb rfl rfl rfl rfl rfl hb rfl ?_
  by_cases hs : ¬ rt = 0
  · refine el_neqi (a := rt) (b := 0) (k := .i64) true (by simpa using hs) rfl rfl rfl rfl ?_
    refine ep rfl ?_
    refine ew_cond_t rfl rfl ?_
    refine es rfl ?_
    refine ew_ret (ret_1 (.int .i64 2) rfl rfl rfl rfl ⟨int_eq ?_, k1⟩)
    unfold WorD.E
    dsimp only
    rw [if_neg hrk, if_neg (by omega)]
  have hs := Decidable.not_not.1 hs
  refine el_neqi (a := rt) (b := 0) (k := .i64) false (by simpa using hs) rfl rfl rfl rfl ?_
  refine pp rfl ?_
  refine el_loadb rfl rfl rfl rfl rfl hb rfl ?_
  by_cases hs : ¬ rv = 0
  · refine el_neqi (a := rv) (b := 0) (k := .i64) true (by simpa using hs) rfl rfl rfl rfl ?_
    refine ep rfl ?_
    refine ew_cond_t rfl rfl ?_
    refine es rfl ?_
    refine ew_ret (ret_1 (.int .i64 2) rfl rfl rfl rfl ⟨int_eq ?_, k1⟩)
    unfold WorD.E
    dsimp only
    rw [if_neg hrk, if_neg (by omega)]
  have hs := Decidable.not_not.1 hs
  refine el_neqi (a := rv) (b := 0) (k := .i64) false (by simpa using hs) rfl rfl rfl rfl ?_
  refine pp rfl ?_
  refine el_loadb rfl rfl rfl rfl rfl hb rfl ?_
  cases well with
  | true =>
    refine ep rfl ?_
    refine ew_cond_t rfl rfl ?_
    refine es rfl ?_
    refine ew_ret (ret_1 (.int .i64 2) rfl rfl rfl rfl ⟨int_eq ?_, k1⟩)
    unfold WorD.E
    dsimp only
    rw [if_neg hrk, if_neg (by simp)]
  | false =>
    refine ep rfl ?_
    refine ew_cond_f rfl rfl ?_
    refine ew_skip ?_
    refine sp rfl ?_
    refine el_loada (vs := [.int .i64 k, .int .i64 e, .int .i64 t, .int .i64 v, .slice ad bu.length cap]) rfl rfl rfl rfl rfl rfl hb rfl ?_
    refine el_call rfl rfl rfl rfl rfl rfl (CheckOrder_ok k e t v ad bu.length cap hn w2) ?_
    rintro _ w3 ⟨rfl, k3⟩
    refine ep rfl ?_
    refine ew_ret (ret_1 (.int .i64 (ordE k e t v bu.length)) rfl rfl rfl rfl ⟨int_eq ?_, k1.trans0 k3⟩)
    unfold WorD.E
    dsimp only
    rw [if_neg hrk, if_pos (by simp; omega)]
end Go.Proofs.Ytpdgfekimnmdnaa
