/- Orders: the law of reports: OrdersReports answers true. -/
import Derived.Test.YtpdgfekimnmdnaaPlainW
set_option linter.unusedVariables false
set_option linter.unusedSimpArgs false
namespace Go.Proofs.Ytpdgfekimnmdnaa
open Go.RowKit
set_option maxRecDepth 20000

set_option maxHeartbeats 4000000 in
theorem OrdersReports_ok (n k e t v : Int) (well : Bool) (w : World) : Fn Try.prog 4 [.agg (tolL n k e t v well).toArray] w fun r w' => r = .bool true ∧ Keep [] w w' := by
  obtain ⟨R, hR⟩ : ∃ R, reportB n k e t v well = R := ⟨_, rfl⟩
  refine fn_enter Try.func4 rfl rfl ?_
  refine sp rfl ?_
  refine el_box (tolL n k e t v well).toArray rfl rfl rfl rfl ?_
  intro ab w1 e1 e1' kw h1
  refine ep rfl ?_
  refine sp rfl ?_
  refine el_loadb rfl rfl rfl rfl rfl h1 rfl ?_
  refine pp rfl ?_
  refine el_loada (vs := [.int .i64 k, .int .i64 e, .int .i64 t, .int .i64 v]) rfl rfl rfl rfl rfl rfl h1 rfl ?_
  refine pp rfl ?_
  refine el_loadb rfl rfl rfl rfl rfl h1 rfl ?_
  refine el_call rfl rfl rfl rfl rfl rfl (Report_ok n k e t v well w1) ?_
  rintro _ w2 ⟨y, rfl, hy, kk⟩
  rw [hR] at hy
  obtain ⟨ady, capy, rfl, hcy⟩ := own_slice hy
  have h1 := kk.blk h1 (by simp)
  have kw := kw.trans0 kk
  refine ep rfl ?_
  refine ew_seq (sp rfl ?_)
  refine el_loada (vs := tolL n k e t v well) rfl rfl rfl rfl rfl rfl h1 rfl ?_
  refine el_call rfl rfl rfl rfl rfl rfl (RightTold_ok n k e t v well w2) ?_
  rintro _ w3 ⟨rfl, kk⟩
  have h1 := kk.blk h1 (by simp)
  have hy := own_keep hy kk (by simp)
  have kw := kw.trans0 kk
  by_cases ht : tolOk n k e t v
  · have hE : tolE n k e t v = 0 := by
      unfold tolE
      rw [if_pos ht]
    rw [decide_eq_true ht]
    rw [hE] at hy ⊢
    rw [if_pos rfl] at hy ⊢
    have hB : readW R = some ⟨0, 0, 0, 0, [], n, k, e, t, v, well⟩ := by
      have hk0 : k ≠ 0 := by
        have := ht.2.2.1
        omega
      have h2 := readW_B (x := ⟨0, 0, 0, 0, [], n, k, e, t, v, well⟩) (E_told.2 hE)
      have h3 : (WorD.mk 0 0 0 0 [] n k e t v well).B = R := by
        unfold WorD.B
        rw [if_pos hk0]
        exact hR
      rw [h3] at h2
      exact h2
    have hk0 : k ≠ 0 := by
      have := ht.2.2.1
      omega
    have hT : readTR R = (⟨0, 0, 0, 0, [], n, k, e, t, v, well⟩, 0) := by
      unfold readTR
      rw [hB]
      exact if_pos hk0
    have hO : readOR R = (zeroW, 271) := by
      unfold readOR
      rw [hB]
      exact if_pos hk0
    have hRl : R.length ≤ 70368744177664 := by
      have := reportB_len (b := well) ht
      rw [hR] at this
      omega
    refine ep rfl ?_
    refine ew_cond_f rfl rfl ?_
    refine ew_skip ?_
    refine sp rfl ?_
    refine el_call rfl rfl rfl rfl rfl rfl (ReadReport_ok _ R w3 (Rd.of_own hy) hRl) ?_
    intro rv w4 hq
    rw [hT] at hq
    obtain ⟨rfl, kk⟩ := hq
    have h1 := kk.blk h1 (by simp)
    have hy := own_keep hy kk (by simp)
    have kw := kw.trans0 kk
    refine pp rfl ?_
    refine el_alloc (z := repZ) #[.int .i64 0, .int .i64 0, .int .i64 0, .int .i64 0] rfl rfl rfl rfl ?_
    intro b6 w5 hb6 hb6' kk h6
    have hw6 : w.heap.size ≤ b6 := by have := kw.size; omega
    have hab6 : ab < b6 := by have := Blk.lt h1; omega
    have h1 := kk.blk h1 (by simp)
    have hy := own_keep hy kk (by simp)
    have kw := kw.trans0 kk
    refine pp rfl ?_
    refine el_store (b := b6) (off := 0) #[.int .i64 k, .int .i64 e, .int .i64 t, .int .i64 v] rfl rfl rfl rfl rfl rfl rfl rfl h6 rfl rfl ?_
    intro w6 kk hs h6'
    have h1 := kk.blk h1 (by simp; omega)
    have hy := own_keep hy kk (own_ne hy h6 (by decide))
    have kw := kw.trans kk (by simp; omega)
    refine ep rfl ?_
    refine sp rfl ?_
    refine el_call rfl rfl rfl rfl rfl rfl (ReadOrder_ok _ R w6 (Rd.of_own hy) hRl) ?_
    intro rv w7 hq
    rw [hO] at hq
    obtain ⟨u, rfl, hu, kk⟩ := hq
    obtain ⟨adu, capu, rfl, hcu⟩ := own_slice hu
    have h1 := kk.blk h1 (by simp)
    have h6' := kk.blk h6' (by simp)
    have hy := own_keep hy kk (by simp)
    have kw := kw.trans0 kk
    refine pp rfl ?_
    refine el_alloc (z := ordZ) (ordL 0 0 0 0 (.slice none 0 0)).toArray rfl rfl rfl rfl ?_
    intro b9 w8 hb9 hb9' kk h9
    have hw9 : w.heap.size ≤ b9 := by have := kw.size; omega
    have hb69 : b6 < b9 := by have := Blk.lt h6'; omega
    have h1 := kk.blk h1 (by simp)
    have h6' := kk.blk h6' (by simp)
    have hy := own_keep hy kk (by simp)
    have kw := kw.trans0 kk
    refine el_store (b := b9) (off := 0) (ordL 0 0 0 0 (.slice adu 0 capu)).toArray rfl rfl rfl rfl rfl rfl rfl rfl h9 rfl rfl ?_
    intro w9 kk hs h9'
    have h1 := kk.blk h1 (by simp; omega)
    have h6' := kk.blk h6' (by simp; omega)
    have hy := own_keep hy kk (own_ne hy h9 (by decide))
    have kw := kw.trans kk (by simp; omega)
    refine ep rfl ?_
    refine ew_seq ?_
    let T : Value := .bool true
    let S : Value := .string (strOf R)
    let X : Value := .agg (tolL n k e t v well).toArray
    let I0 : Value := .int .i64 0
    let I1 : Value := .int .i64 271
    refine ew_draw follows [.known (.slice ady R.length capy), .known S, .known X, .fact (fun v w => OwnB 5 w 0 v R), .known S, .known T, .known T, .known I0, .known I0, .known I0, .known I0, .known I0, .known T, .known T, .known T, .known I1, .known I1, .known T, .known T, .known T,
        .known X, .known (.int .i64 n), .known (.agg #[.int .i64 k, .int .i64 e, .int .i64 t, .int .i64 v]), .known (.bool well), .known X, .known T, .known T, .known T, .known T, .known T, .known T] []
      (fun b w => Blk w ab 43 (tolL n k e t v well).toArray ∧ Blk w b6 36 #[.int .i64 k, .int .i64 e, .int .i64 t, .int .i64 v] ∧ RdB w (.slice ady R.length capy) R) rfl (stable_of _ (fun f hf v w w' hk hfv => by
          simp at hf
          subst hf
          exact own_keep hfv hk (by simp))) ⟨h1, h6', Rd.of_own hy⟩ ?_ ?_
    refine ⟨pureD rfl (fun _ _ => rfl) (fun _ _ h => h), ?_⟩
    refine ⟨fun b V ρ w hk hbi hd hu hWd hV => el_str rfl rfl rfl rfl rfl rfl hWd.2.2 (el_nil ⟨_, rfl, rfl, Keep.refl _ _, hWd⟩), ?_⟩
    refine ⟨fun b V ρ w hk hbi hd hu hWd hV => el_loada (vs := tolL n k e t v well) rfl rfl rfl rfl rfl rfl hWd.1 rfl (el_nil ⟨_, rfl, rfl, Keep.refl _ _, hWd⟩), ?_⟩
    refine ⟨fun b V ρ w hk hbi hd hu hWd hV => el_call rfl rfl rfl rfl rfl rfl (refTold_ok n k e t v well w ht) (by rintro u w' ⟨ho, kk⟩; rw [hR] at ho; exact el_nil ⟨_, rfl, own_lower ho (Nat.zero_le _), kk, kk.blk hWd.1 (by simp), kk.blk hWd.2.1 (by simp), hWd.2.2.keep0 kk⟩), ?_⟩
    refine ⟨fun b V ρ w hk hbi hd hu hWd hV => el_str rfl rfl rfl rfl rfl rfl (Rd.of_own (hV 3 (hd 3 rfl))) (el_nil ⟨_, rfl, rfl, Keep.refl _ _, hWd⟩), ?_⟩
    refine ⟨fun b V ρ w hk hbi hd hu hWd hV => el_streq true (by simp) rfl rfl rfl rfl (el_nil ⟨_, rfl, rfl, Keep.refl _ _, hWd⟩), ?_⟩
    refine ⟨pureD rfl (fun _ _ => rfl) (fun _ _ h => h), ?_⟩
    refine ⟨pureD rfl (fun _ _ => rfl) (fun _ _ h => h), ?_⟩
    refine ⟨fun b V ρ w hk hbi hd hu hWd hV => el_call rfl rfl rfl rfl rfl rfl (num_ok _ w) (by rintro _ _ ⟨rfl, rfl⟩; exact el_nil ⟨_, rfl, rfl, Keep.refl _ _, hWd⟩), ?_⟩
    refine ⟨pureD rfl (fun _ _ => rfl) (fun _ _ h => h), ?_⟩
    refine ⟨fun b V ρ w hk hbi hd hu hWd hV => el_call rfl rfl rfl rfl rfl rfl (num_ok _ w) (by rintro _ _ ⟨rfl, rfl⟩; exact el_nil ⟨_, rfl, rfl, Keep.refl _ _, hWd⟩), ?_⟩
    refine ⟨pureD rfl (fun _ _ => rfl) (fun _ _ h => h), ?_⟩
    refine ⟨pureD rfl (fun _ _ => rfl) (fun _ _ h => h), ?_⟩
    refine ⟨pureD rfl (fun _ _ => rfl) (fun _ _ h => h), ?_⟩
    refine ⟨pureD rfl (fun _ _ => rfl) (fun _ _ h => h), ?_⟩
    refine ⟨pureD rfl (fun _ _ => rfl) (fun _ _ h => h), ?_⟩
    refine ⟨fun b V ρ w hk hbi hd hu hWd hV => el_call rfl rfl rfl rfl rfl rfl (num_ok _ w) (by rintro _ _ ⟨rfl, rfl⟩; exact el_nil ⟨_, rfl, rfl, Keep.refl _ _, hWd⟩), ?_⟩
    refine ⟨fun b V ρ w hk hbi hd hu hWd hV => el_eqi true (by simp) rfl rfl rfl rfl (el_nil ⟨_, rfl, rfl, Keep.refl _ _, hWd⟩), ?_⟩
    refine ⟨pureD rfl (fun _ _ => rfl) (fun _ _ h => h), ?_⟩
    refine ⟨pureD rfl (fun _ _ => rfl) (fun _ _ h => h), ?_⟩
    refine ⟨fun b V ρ w hk hbi hd hu hWd hV => el_loada (vs := tolL n k e t v well) rfl rfl rfl rfl rfl rfl hWd.1 rfl (el_nil ⟨_, rfl, rfl, Keep.refl _ _, hWd⟩), ?_⟩
    refine ⟨pureD rfl (fun _ _ => rfl) (fun _ _ h => h), ?_⟩
    refine ⟨fun b V ρ w hk hbi hd hu hWd hV => el_loada (vs := [.int .i64 k, .int .i64 e, .int .i64 t, .int .i64 v]) rfl rfl rfl rfl rfl rfl hWd.2.1 rfl (el_nil ⟨_, rfl, rfl, Keep.refl _ _, hWd⟩), ?_⟩
    refine ⟨pureD rfl (fun _ _ => rfl) (fun _ _ h => h), ?_⟩
    refine ⟨fun b V ρ w hk hbi hd hu hWd hV => el_build (z := .agg #[.int .i64 0, .int .i64 0, .int .i64 0, .int .i64 0, .int .i64 0, .bool false]) (vs := tolL n k e t v well) rfl rfl rfl rfl rfl rfl (el_nil ⟨_, rfl, rfl, Keep.refl _ _, hWd⟩), ?_⟩
    refine ⟨fun b V ρ w hk hbi hd hu hWd hV => el_eqs true rfl rfl rfl rfl told_guard (told_eqS _ _ _ _ _ _ _ _ _ _ _ _) (eqTol_iff.2 ⟨rfl, rfl, rfl, rfl, rfl, rfl⟩) (el_nil ⟨_, rfl, rfl, Keep.refl _ _, hWd⟩), ?_⟩
    refine ⟨pureD rfl (fun _ _ => rfl) (fun _ _ h => h), ?_⟩
    refine ⟨pureD rfl (fun _ _ => rfl) (fun _ _ h => h), ?_⟩
    refine ⟨fun b V ρ w hk hbi hd hu hWd hV => el_call rfl rfl rfl rfl rfl rfl (works_ok w) (by rintro _ W ⟨rfl, kk⟩; exact el_nil ⟨_, rfl, rfl, kk, kk.blk hWd.1 (by simp), kk.blk hWd.2.1 (by simp), hWd.2.2.keep0 kk⟩), ?_⟩
    refine ⟨pureD rfl (fun _ _ => rfl) (fun _ _ h => h), ?_⟩
    refine ⟨pureD rfl (fun _ _ => rfl) (fun _ _ h => h), ?_⟩
    trivial
    intro b V w7 hall k7 hWd hV
    exact ew_ret (ret_1 T rfl rfl rfl rfl ⟨rfl, kw.trans0 k7⟩)
  · have hE : tolE n k e t v = 2 := by
      unfold tolE
      rw [if_neg ht]
    rw [decide_eq_false ht]
    rw [hE] at hy ⊢
    rw [if_neg (by decide)] at hy ⊢
    refine ep rfl ?_
    refine ew_cond_t rfl rfl ?_
    refine sp rfl ?_
    refine el_call rfl rfl rfl rfl rfl rfl (num_ok _ _) ?_
    rintro _ _ ⟨rfl, rfl⟩
    refine pp rfl ?_
    refine el_call rfl rfl rfl rfl rfl rfl (works_ok _) ?_
    rintro _ w4 ⟨rfl, kk⟩
    refine ep rfl ?_
    exact ew_ret (ret_1 (.bool true) rfl rfl rfl rfl ⟨rfl, kw.trans0 kk⟩)
end Go.Proofs.Ytpdgfekimnmdnaa
