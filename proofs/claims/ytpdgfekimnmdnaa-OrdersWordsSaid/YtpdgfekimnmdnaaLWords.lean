/- Orders: the law of words: OrdersWords answers true. -/
import Derived.Test.YtpdgfekimnmdnaaPlainW
set_option linter.unusedVariables false
set_option linter.unusedSimpArgs false
namespace Go.Proofs.Ytpdgfekimnmdnaa
open Go.RowKit
set_option maxRecDepth 20000

abbrev WorD.L (x : WorD) (u : Value) : List Value := wordL x.k x.e x.t x.v u x.node x.rk x.re x.rt x.rv x.well
set_option maxHeartbeats 4000000 in
theorem OrdersWords_ok (x : WorD) (u : Value) (w : World) (hu : RdB w u x.bundle) (hl : x.bundle.length ≤ maxLen) : Fn Try.prog 8 [x.V u] w fun r w' => r = .bool true ∧ Keep [] w w' := by
  obtain ⟨ad, cap, rfl, hc⟩ := hu.slice
  have hlx : x.bundle.length ≤ 9223372036854775807 := by unfold maxLen at hl; omega
  refine fn_enter Try.func8 rfl rfl ?_
  refine sp rfl ?_
  refine el_box (x.L (.slice ad x.bundle.length cap)).toArray rfl rfl rfl rfl ?_
  intro ab w1 e1 e1' kw h1
  have hu1 := hu.keep0 kw
  refine ep rfl ?_
  refine ew_seq (sp rfl ?_)
  refine el_loadb rfl rfl rfl rfl rfl h1 rfl ?_
  refine ppn 2 rfl ?_
  by_cases hb : x.bundle.length > 200
  · refine el_as (v' := .bool true) (bool_eq (decide_eq_true (by omega))) ?_
    refine ep rfl ?_
    refine ew_cond_t rfl rfl ?_
    refine sp rfl ?_
    refine el_call rfl rfl rfl rfl rfl rfl (works_ok w1) ?_
    rintro _ w3 ⟨rfl, k⟩
    refine ep rfl ?_
    exact ew_ret (ret_1 (.bool true) rfl rfl rfl rfl ⟨rfl, kw.trans0 k⟩)
  refine el_as (v' := .bool false) (bool_eq (decide_eq_false (by omega))) ?_
  refine ep rfl ?_
  refine ew_cond_f rfl rfl ?_
  refine ew_skip ?_
  refine sp rfl ?_
  refine el_loada (vs := x.L (.slice ad x.bundle.length cap)) rfl rfl rfl rfl rfl rfl h1 rfl ?_
  refine el_call rfl rfl rfl rfl rfl rfl (Raw_ok x _ w1 hu1 hl) ?_
  rintro _ w2 ⟨y, rfl, hy, kk⟩
  obtain ⟨ady, capy, rfl, hcy⟩ := own_slice hy
  have h1 := kk.blk h1 (by simp)
  have kw := kw.trans0 kk
  have hu2 := hu1.keep0 kk
  refine ep rfl ?_
  refine ew_seq ?_
  refine sp rfl ?_
  refine el_loada (vs := x.L (.slice ad x.bundle.length cap)) rfl rfl rfl rfl rfl rfl h1 rfl ?_
  refine el_call rfl rfl rfl rfl rfl rfl (Check_ok x ad cap hlx w2) ?_
  rintro _ w3 ⟨rfl, kk⟩
  have h1 := kk.blk h1 (by simp)
  have hy := own_keep hy kk (by simp)
  have kw := kw.trans0 kk
  have hu3 := hu2.keep0 kk
  refine ep rfl ?_
  refine spn 1 rfl ?_
  by_cases hE : x.E = 0
  · rw [hE]
    rw [hE] at hy
    rw [if_pos rfl] at hy ⊢
    have hB := readW_B hE
    have hBl := WorD.B_len hE
    refine el_neqi (a := 0) (b := 0) (k := .i64) false rfl rfl rfl rfl rfl ?_
    refine ep rfl ?_
    refine ew_cond_f rfl rfl ?_
    refine ew_skip ?_
    refine sp rfl ?_
    refine el_call rfl rfl rfl rfl rfl rfl (Read_ok _ x.B w3 (Rd.of_own hy) (by omega)) ?_
    intro rv w4 hq
    unfold ReadQ at hq
    rw [readR_some hB] at hq
    obtain ⟨u', rfl, hu', kk⟩ := hq
    dsimp only at hu'
    obtain ⟨adu, capu, rfl, hcu⟩ := own_slice hu'
    have h1 := kk.blk h1 (by simp)
    have hy := own_keep hy kk (by simp)
    have kw := kw.trans0 kk
    have hu4 := hu3.keep0 kk
    refine pp rfl ?_
    refine el_alloc (z := wordZ) zeroA rfl rfl rfl rfl ?_
    intro b6 w5 hb6 hb6' kk h6
    have hw6 : w.heap.size ≤ b6 := by have := kw.size; omega
    have hab6 : ab < b6 := by have := Blk.lt h1; omega
    have h1 := kk.blk h1 (by simp)
    have hy := own_keep hy kk (by simp)
    have hu' := own_keep hu' kk (by simp)
    have kw := kw.trans0 kk
    refine el_store (b := b6) (off := 0) (x.L (.slice adu x.bundle.length capu)).toArray rfl rfl rfl rfl rfl rfl rfl rfl h6 rfl rfl ?_
    intro w6 kk hs h6'
    have h1 := kk.blk h1 (by simp; omega)
    have hy := own_keep hy kk (own_ne hy h6 (by decide))
    have hu' := own_keep hu' kk (own_ne hu' h6 (by decide))
    have kw := kw.trans kk (by simp; omega)
    have hu6 := hu.keep0 kw
    refine ep rfl ?_
    refine ew_seq ?_
    let T : Value := .bool true
    let S : Value := .string (strOf x.B)
    let X : Value := .agg (x.L (.slice ad x.bundle.length cap)).toArray
    let X' : Value := .agg (x.L (.slice adu x.bundle.length capu)).toArray
    let I0 : Value := .int .i64 0
    refine ew_draw follows [.known (.slice ady x.B.length capy), .known S, .known X, .fact (fun v w => OwnB 5 w 0 v x.B), .known S, .known T, .known T, .known I0, .known I0, .known I0, .known I0, .known I0, .known T, .known T, .known T, .known X', .known X, .known T, .known T, .known T, .known T, .known T, .known T] []
      (fun b w => Blk w ab 48 (x.L (.slice ad x.bundle.length cap)).toArray ∧ Blk w b6 48 (x.L (.slice adu x.bundle.length capu)).toArray ∧ RdB w (.slice ady x.B.length capy) x.B ∧ RdB w (.slice ad x.bundle.length cap) x.bundle ∧ RdB w (.slice adu x.bundle.length capu) x.bundle) rfl (stable_of _ (fun f hf v w w' hk hfv => by
          simp at hf
          subst hf
          exact own_keep hfv hk (by simp))) ⟨h1, h6', Rd.of_own hy, hu6, Rd.of_own hu'⟩ ?_ ?_
    refine ⟨pureD rfl (fun _ _ => rfl) (fun _ _ h => h), ?_⟩
    refine ⟨fun b V ρ w hk hbi hd hu hWd hV => el_str rfl rfl rfl rfl rfl rfl hWd.2.2.1 (el_nil ⟨_, rfl, rfl, Keep.refl _ _, hWd⟩), ?_⟩
    refine ⟨fun b V ρ w hk hbi hd hu hWd hV => el_loada (vs := x.L (.slice ad x.bundle.length cap)) rfl rfl rfl rfl rfl rfl hWd.1 rfl (el_nil ⟨_, rfl, rfl, Keep.refl _ _, hWd⟩), ?_⟩
    refine ⟨fun b V ρ w hk hbi hd hu hWd hV => el_call rfl rfl rfl rfl rfl rfl (refRaw_ok x _ w hWd.2.2.2.1 hE) (by rintro u w' ⟨ho, kk⟩; exact el_nil ⟨_, rfl, own_lower ho (Nat.zero_le _), kk, kk.blk hWd.1 (by simp), kk.blk hWd.2.1 (by simp), hWd.2.2.1.keep0 kk, hWd.2.2.2.1.keep0 kk, hWd.2.2.2.2.keep0 kk⟩), ?_⟩
    refine ⟨fun b V ρ w hk hbi hd hu hWd hV => el_str rfl rfl rfl rfl rfl rfl (Rd.of_own (hV 3 (hd 3 rfl))) (el_nil ⟨_, rfl, rfl, Keep.refl _ _, hWd⟩), ?_⟩
    refine ⟨fun b V ρ w hk hbi hd hu hWd hV => el_streq true (by simp) rfl rfl rfl rfl (el_nil ⟨_, rfl, rfl, Keep.refl _ _, hWd⟩), ?_⟩
    refine ⟨pureD rfl (fun _ _ => rfl) (fun _ _ h => h), ?_⟩
    refine ⟨pureD rfl (fun _ _ => rfl) (fun _ _ h => h), ?_⟩
    refine ⟨fun b V ρ w hk hbi hd hu hWd hV => el_call rfl rfl rfl rfl rfl rfl (num_ok _ w) (by rintro _ _ ⟨rfl, rfl⟩; exact el_nil ⟨_, rfl, rfl, Keep.refl _ _, hWd⟩), ?_⟩
    refine ⟨pureD rfl (fun _ _ => rfl) (fun _ _ h => h), ?_⟩
    refine ⟨fun b V ρ w hk hbi hd hu hWd hV => el_call rfl rfl rfl rfl rfl rfl (num_ok _ w) (by rintro _ _ ⟨rfl, rfl⟩; exact el_nil ⟨_, rfl, rfl, Keep.refl _ _, hWd⟩), ?_⟩
    refine ⟨pureD rfl (fun _ _ => rfl) (fun _ _ h => h), ?_⟩
    refine ⟨pureD rfl (fun _ _ => rfl) (fun _ _ h => h), ?_⟩
    refine ⟨pureD rfl (fun _ _ => rfl) (fun _ _ h => h), ?_⟩
    refine ⟨pureD rfl (fun _ _ => rfl) (fun _ _ h => h), ?_⟩
    refine ⟨fun b V ρ w hk hbi hd hu hWd hV => el_loada (vs := x.L (.slice adu x.bundle.length capu)) rfl rfl rfl rfl rfl rfl hWd.2.1 rfl (el_nil ⟨_, rfl, rfl, Keep.refl _ _, hWd⟩), ?_⟩
    refine ⟨fun b V ρ w hk hbi hd hu hWd hV => el_loada (vs := x.L (.slice ad x.bundle.length cap)) rfl rfl rfl rfl rfl rfl hWd.1 rfl (el_nil ⟨_, rfl, rfl, Keep.refl _ _, hWd⟩), ?_⟩
    refine ⟨fun b V ρ w hk hbi hd hu hWd hV => el_call rfl rfl rfl rfl rfl rfl (Same_ok x x _ _ w hWd.2.2.2.2 hWd.2.2.2.1 hl) (by rintro _ w' ⟨rfl, kk⟩; rw [(WorD.same_iff x x).2 rfl]; exact el_nil ⟨_, rfl, rfl, kk, kk.blk hWd.1 (by simp), kk.blk hWd.2.1 (by simp), hWd.2.2.1.keep0 kk, hWd.2.2.2.1.keep0 kk, hWd.2.2.2.2.keep0 kk⟩), ?_⟩
    refine ⟨pureD rfl (fun _ _ => rfl) (fun _ _ h => h), ?_⟩
    refine ⟨pureD rfl (fun _ _ => rfl) (fun _ _ h => h), ?_⟩
    refine ⟨fun b V ρ w hk hbi hd hu hWd hV => el_call rfl rfl rfl rfl rfl rfl (works_ok w) (by rintro _ W ⟨rfl, kk⟩; exact el_nil ⟨_, rfl, rfl, kk, kk.blk hWd.1 (by simp), kk.blk hWd.2.1 (by simp), hWd.2.2.1.keep0 kk, hWd.2.2.2.1.keep0 kk, hWd.2.2.2.2.keep0 kk⟩), ?_⟩
    refine ⟨pureD rfl (fun _ _ => rfl) (fun _ _ h => h), ?_⟩
    refine ⟨pureD rfl (fun _ _ => rfl) (fun _ _ h => h), ?_⟩
    trivial
    intro b V w7 hall k7 hWd hV
    exact ew_ret (ret_1 T rfl rfl rfl rfl ⟨rfl, kw.trans0 k7⟩)
  · rw [if_neg hE] at hy ⊢
    refine el_neqi (a := x.E) (b := 0) (k := .i64) true (by simpa using hE) rfl rfl rfl rfl ?_
    refine ep rfl ?_
    refine ew_cond_t rfl rfl ?_
    refine sp rfl ?_
    refine el_call rfl rfl rfl rfl rfl rfl (num_ok _ _) ?_
    rintro _ _ ⟨rfl, rfl⟩
    refine ppn 1 rfl ?_
    refine el_eqi (a := x.E) (b := x.E) (k := .i64) true (by simp) rfl rfl rfl rfl ?_
    refine pp rfl ?_
    refine el_call rfl rfl rfl rfl rfl rfl (works_ok _) ?_
    rintro _ w4 ⟨rfl, kk⟩
    refine ep rfl ?_
    exact ew_ret (ret_1 (.bool true) rfl rfl rfl rfl ⟨rfl, kw.trans0 kk⟩)
end Go.Proofs.Ytpdgfekimnmdnaa
