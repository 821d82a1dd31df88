/- Orders: the law of bytes and words: OrdersBack answers true. -/
import Derived.Test.YtpdgfekimnmdnaaPlainW
set_option linter.unusedVariables false
set_option linter.unusedSimpArgs false
namespace Go.Proofs.Ytpdgfekimnmdnaa
open Go.RowKit
set_option maxRecDepth 20000

abbrev wordC (x : WorD) (u : Value) : List Value := wordL x.k x.e x.t x.v u x.node x.rk x.re x.rt x.rv x.well
theorem B_same {x y : WorD} (hx : x.E = 0) (hy : y.E = 0) : (x.B == y.B) = x.same y := by
  cases hs : x.same y with
  | true =>
    have := (WorD.same_iff x y).1 hs
    subst this
    simp
  | false =>
    simp
    intro h
    have h1 := readW_B hx
    rw [h, readW_B hy] at h1
    injection h1 with h1
    have := (WorD.same_iff x y).2 h1.symm
    rw [hs] at this
    cases this
theorem bundle_len {x : WorD} (h : x.E = 0) : x.bundle.length ≤ 80000 := by
  rcases WorD.E_parts h with ⟨_, hb, _⟩ | ⟨_, _, _, _, _, _, ho⟩
  · have := hb.2.2.2.2
    omega
  · exact (ordE_zero ho).2
theorem E_range (x : WorD) : 0 ≤ x.E ∧ x.E ≤ 3 := by
  unfold WorD.E ordE
  split
  · split <;> omega
  · split
    · split
      · split <;> omega
      · omega
    · omega
set_option maxHeartbeats 4000000 in
theorem OrdersBack_ok (x : WorD) (u : Value) (y : WorD) (u' : Value) (v : Value) (bs : List UInt8) (w : World) (hu : RdB w u x.bundle) (hl : x.bundle.length ≤ maxLen) (hu' : RdB w u' y.bundle) (hl' : y.bundle.length ≤ maxLen) (hv : RdB w v bs) (hlv : bs.length ≤ maxLen) :
    Fn Try.prog 9 [x.V u, y.V u', v] w fun r w' => r = .bool true ∧ Keep [] w w' := by
  obtain ⟨ad, cap, rfl, hc⟩ := hu.slice
  obtain ⟨ad', cap', rfl, hc'⟩ := hu'.slice
  obtain ⟨adv, capv, rfl, hcv⟩ := hv.slice
  have hlx : x.bundle.length ≤ 9223372036854775807 := by unfold maxLen at hl; omega
  have hly : y.bundle.length ≤ 9223372036854775807 := by unfold maxLen at hl'; omega
  have hlb : bs.length ≤ 9223372036854775807 := by unfold maxLen at hlv; omega
  refine fn_enter Try.func9 rfl rfl ?_
  refine sp rfl ?_
  refine el_box (wordC x (.slice ad x.bundle.length cap)).toArray rfl rfl rfl rfl ?_
  intro ab w1 e1 e1' k1 h3
  refine el_box (wordC y (.slice ad' y.bundle.length cap')).toArray rfl rfl rfl rfl ?_
  intro bb w2 e2 e2' k2 h4
  have h3 := k2.blk h3 (by simp)
  have kw := k1.trans0 k2
  have hux := hu.keep0 kw
  have huy := hu'.keep0 kw
  refine ep rfl ?_
  refine ew_seq (sp rfl ?_)
  refine el_loadb rfl rfl rfl rfl rfl h3 rfl ?_
  refine ppn 2 rfl ?_
  by_cases b1 : x.bundle.length > 200
  · refine el_as (v' := .bool true) (bool_eq (decide_eq_true (by omega))) ?_
    refine ep rfl ?_
    refine ew_cond_t rfl rfl ?_
    refine sp rfl ?_
    refine el_call rfl rfl rfl rfl rfl rfl (works_ok w2) ?_
    rintro _ w3 ⟨rfl, k⟩
    refine ep rfl ?_
    exact ew_ret (ret_1 (.bool true) rfl rfl rfl rfl ⟨rfl, kw.trans0 k⟩)
  refine el_as (v' := .bool false) (bool_eq (decide_eq_false (by omega))) ?_
  refine pp rfl ?_
  refine el_loadb rfl rfl rfl rfl rfl h4 rfl ?_
  refine ppn 2 rfl ?_
  by_cases b2 : y.bundle.length > 200
  · refine el_as (v' := .bool true) (bool_eq (decide_eq_true (by omega))) ?_
    refine ep rfl ?_
    refine ew_cond_t rfl rfl ?_
    refine sp rfl ?_
    refine el_call rfl rfl rfl rfl rfl rfl (works_ok w2) ?_
    rintro _ w3 ⟨rfl, k⟩
    refine ep rfl ?_
    exact ew_ret (ret_1 (.bool true) rfl rfl rfl rfl ⟨rfl, kw.trans0 k⟩)
  refine el_as (v' := .bool false) (bool_eq (decide_eq_false (by omega))) ?_
  refine ppn 5 rfl ?_
  by_cases b3 : bs.length > 500
  · refine el_as (v' := .bool true) (bool_eq (decide_eq_true (by omega))) ?_
    refine ep rfl ?_
    refine ew_cond_t rfl rfl ?_
    refine sp rfl ?_
    refine el_call rfl rfl rfl rfl rfl rfl (works_ok w2) ?_
    rintro _ w3 ⟨rfl, k⟩
    refine ep rfl ?_
    exact ew_ret (ret_1 (.bool true) rfl rfl rfl rfl ⟨rfl, kw.trans0 k⟩)
  refine el_as (v' := .bool false) (bool_eq (decide_eq_false (by omega))) ?_
  refine ep rfl ?_
  refine ew_cond_f rfl rfl ?_
  refine ew_skip ?_
  refine sp rfl ?_
  refine el_loada (vs := wordC x (.slice ad x.bundle.length cap)) rfl rfl rfl rfl rfl rfl h3 rfl ?_
  refine el_call rfl rfl rfl rfl rfl rfl (Raw_ok x _ w2 hux hl) ?_
  rintro _ w3 ⟨y7, rfl, hy7, kk⟩
  obtain ⟨base7, hb7⟩ : ∃ b, w2.heap.size = b := ⟨_, rfl⟩
  rw [hb7] at hy7
  obtain ⟨ad7, cap7, rfl, hc7⟩ := own_slice hy7
  have h3 := kk.blk h3 (by simp)
  have h4 := kk.blk h4 (by simp)
  have kw := kw.trans0 kk
  have hux := hux.keep0 kk
  have huy := huy.keep0 kk
  refine ep rfl ?_
  refine sp rfl ?_
  refine el_loada (vs := wordC y (.slice ad' y.bundle.length cap')) rfl rfl rfl rfl rfl rfl h4 rfl ?_
  refine el_call rfl rfl rfl rfl rfl rfl (Raw_ok y _ w3 huy hl') ?_
  rintro _ w4 ⟨y9, rfl, hy9, kk⟩
  obtain ⟨base9, hb9⟩ : ∃ b, w3.heap.size = b := ⟨_, rfl⟩
  rw [hb9] at hy9
  obtain ⟨ad9, cap9, rfl, hc9⟩ := own_slice hy9
  have h3 := kk.blk h3 (by simp)
  have h4 := kk.blk h4 (by simp)
  have hy7 := own_keep hy7 kk (by simp)
  have kw := kw.trans0 kk
  have hux := hux.keep0 kk
  have huy := huy.keep0 kk
  refine ep rfl ?_
  have rx := E_range x
  have ry := E_range y
  refine ew_join (α := Unit) (fun _ => [(2, .slice adv bs.length capv), (3, .pointer (some ⟨ab, 0, none⟩)), (7, .slice ad7 (if x.E = 0 then x.B else []).length cap7), (8, .int .i64 x.E)]) (fun _ W => Keep [] w W ∧ Blk W ab 48 (wordC x (.slice ad x.bundle.length cap)).toArray ∧ OwnB 5 W base7 (.slice ad7 (if x.E = 0 then x.B else []).length cap7) (if x.E = 0 then x.B else [])) ?_ ?_
  · refine ew_seq ?_
    by_cases hE2 : x.E = 0 ∧ y.E = 0
    · obtain ⟨hEx, hEy⟩ := hE2
      have hBB := B_same hEx hEy
      rw [hEx] at hy7 ⊢
      rw [hEy] at hy9 ⊢
      rw [if_pos rfl] at hy7 hy9 ⊢
      rw [if_pos rfl]
      cases hs : x.same y with
      | true =>
        rw [hs] at hBB
        let X : Value := .agg (wordC x (.slice ad x.bundle.length cap)).toArray
        let Y : Value := .agg (wordC y (.slice ad' y.bundle.length cap')).toArray
        let S : Value := .bool true
        let T : Value := .bool true
        let F : Value := .bool false
        let I0 : Value := .int .i64 0
        refine ew_draw follows [.known I0, .known I0, .known I0, .known I0, .known I0, .known T, .known T, .known X, .known Y, .known S, .known (.slice ad7 x.B.length cap7), .known (.string (strOf x.B)), .known (.slice ad9 y.B.length cap9), .known (.string (strOf y.B)), .known S, .known F, .known F] []
          (fun b w => Blk w ab 48 (wordC x (.slice ad x.bundle.length cap)).toArray ∧ Blk w bb 48 (wordC y (.slice ad' y.bundle.length cap')).toArray ∧ RdB w (.slice ad x.bundle.length cap) x.bundle ∧ RdB w (.slice ad' y.bundle.length cap') y.bundle ∧ OwnB 5 w base7 (.slice ad7 x.B.length cap7) x.B ∧ OwnB 5 w base9 (.slice ad9 y.B.length cap9) y.B) rfl (stable_known _ rfl) ⟨h3, h4, hux, huy, hy7, hy9⟩ ?_ ?_
        refine ⟨pureD rfl (fun _ _ => rfl) (fun _ _ h => h), ?_⟩
        refine ⟨fun b V ρ w hk hbi hd hu hWd hV => el_call rfl rfl rfl rfl rfl rfl (num_ok _ w) (by rintro _ _ ⟨rfl, rfl⟩; exact el_nil ⟨_, rfl, rfl, Keep.refl _ _, hWd⟩), ?_⟩
        refine ⟨pureD rfl (fun _ _ => rfl) (fun _ _ h => h), ?_⟩
        refine ⟨fun b V ρ w hk hbi hd hu hWd hV => el_call rfl rfl rfl rfl rfl rfl (num_ok _ w) (by rintro _ _ ⟨rfl, rfl⟩; exact el_nil ⟨_, rfl, rfl, Keep.refl _ _, hWd⟩), ?_⟩
        refine ⟨pureD rfl (fun _ _ => rfl) (fun _ _ h => h), ?_⟩
        refine ⟨pureD rfl (fun _ _ => rfl) (fun _ _ h => h), ?_⟩
        refine ⟨pureD rfl (fun _ _ => rfl) (fun _ _ h => h), ?_⟩
        refine ⟨fun b V ρ w hk hbi hd hu hWd hV => el_loada (vs := wordC x (.slice ad x.bundle.length cap)) rfl rfl rfl rfl rfl rfl hWd.1 rfl (el_nil ⟨_, rfl, rfl, Keep.refl _ _, hWd⟩), ?_⟩
        refine ⟨fun b V ρ w hk hbi hd hu hWd hV => el_loada (vs := wordC y (.slice ad' y.bundle.length cap')) rfl rfl rfl rfl rfl rfl hWd.2.1 rfl (el_nil ⟨_, rfl, rfl, Keep.refl _ _, hWd⟩), ?_⟩
        refine ⟨fun b V ρ w hk hbi hd hu hWd hV => el_call rfl rfl rfl rfl rfl rfl (Same_ok x y _ _ w hWd.2.2.1 hWd.2.2.2.1 hl) (by rintro _ w' ⟨rfl, kk⟩; rw [hs]; exact el_nil ⟨_, rfl, rfl, kk, kk.blk hWd.1 (by simp), kk.blk hWd.2.1 (by simp), hWd.2.2.1.keep0 kk, hWd.2.2.2.1.keep0 kk, own_keep hWd.2.2.2.2.1 kk (by simp), own_keep hWd.2.2.2.2.2 kk (by simp)⟩), ?_⟩
        refine ⟨pureD rfl (fun _ _ => rfl) (fun _ _ h => h), ?_⟩
        refine ⟨fun b V ρ w hk hbi hd hu hWd hV => el_str rfl rfl rfl rfl rfl rfl (Rd.of_own hWd.2.2.2.2.1) (el_nil ⟨_, rfl, rfl, Keep.refl _ _, hWd⟩), ?_⟩
        refine ⟨pureD rfl (fun _ _ => rfl) (fun _ _ h => h), ?_⟩
        refine ⟨fun b V ρ w hk hbi hd hu hWd hV => el_str rfl rfl rfl rfl rfl rfl (Rd.of_own hWd.2.2.2.2.2) (el_nil ⟨_, rfl, rfl, Keep.refl _ _, hWd⟩), ?_⟩
        refine ⟨fun b V ρ w hk hbi hd hu hWd hV => el_streq true hBB rfl rfl rfl rfl (el_nil ⟨_, rfl, rfl, Keep.refl _ _, hWd⟩), ?_⟩
        refine ⟨pureD rfl (fun _ _ => rfl) (fun _ _ h => h), ?_⟩
        refine ⟨pureD rfl (fun _ _ => rfl) (fun _ _ h => h), ?_⟩
        trivial
        intro b V w7 hall k7 hWd hV
        refine ew_cond_f rfl rfl ?_
        refine ew_skip ?_
        refine ⟨rfl, (), ⟨rfl, rfl, rfl, rfl, trivial⟩, kw.trans0 k7, hWd.1, ?_⟩
        exact hWd.2.2.2.2.1
      | false =>
        rw [hs] at hBB
        let X : Value := .agg (wordC x (.slice ad x.bundle.length cap)).toArray
        let Y : Value := .agg (wordC y (.slice ad' y.bundle.length cap')).toArray
        let S : Value := .bool false
        let T : Value := .bool true
        let F : Value := .bool false
        let I0 : Value := .int .i64 0
        refine ew_draw follows [.known I0, .known I0, .known I0, .known I0, .known I0, .known T, .known T, .known X, .known Y, .known S, .known (.slice ad7 x.B.length cap7), .known (.string (strOf x.B)), .known (.slice ad9 y.B.length cap9), .known (.string (strOf y.B)), .known S, .known F, .known F] []
          (fun b w => Blk w ab 48 (wordC x (.slice ad x.bundle.length cap)).toArray ∧ Blk w bb 48 (wordC y (.slice ad' y.bundle.length cap')).toArray ∧ RdB w (.slice ad x.bundle.length cap) x.bundle ∧ RdB w (.slice ad' y.bundle.length cap') y.bundle ∧ OwnB 5 w base7 (.slice ad7 x.B.length cap7) x.B ∧ OwnB 5 w base9 (.slice ad9 y.B.length cap9) y.B) rfl (stable_known _ rfl) ⟨h3, h4, hux, huy, hy7, hy9⟩ ?_ ?_
        refine ⟨pureD rfl (fun _ _ => rfl) (fun _ _ h => h), ?_⟩
        refine ⟨fun b V ρ w hk hbi hd hu hWd hV => el_call rfl rfl rfl rfl rfl rfl (num_ok _ w) (by rintro _ _ ⟨rfl, rfl⟩; exact el_nil ⟨_, rfl, rfl, Keep.refl _ _, hWd⟩), ?_⟩
        refine ⟨pureD rfl (fun _ _ => rfl) (fun _ _ h => h), ?_⟩
        refine ⟨fun b V ρ w hk hbi hd hu hWd hV => el_call rfl rfl rfl rfl rfl rfl (num_ok _ w) (by rintro _ _ ⟨rfl, rfl⟩; exact el_nil ⟨_, rfl, rfl, Keep.refl _ _, hWd⟩), ?_⟩
        refine ⟨pureD rfl (fun _ _ => rfl) (fun _ _ h => h), ?_⟩
        refine ⟨pureD rfl (fun _ _ => rfl) (fun _ _ h => h), ?_⟩
        refine ⟨pureD rfl (fun _ _ => rfl) (fun _ _ h => h), ?_⟩
        refine ⟨fun b V ρ w hk hbi hd hu hWd hV => el_loada (vs := wordC x (.slice ad x.bundle.length cap)) rfl rfl rfl rfl rfl rfl hWd.1 rfl (el_nil ⟨_, rfl, rfl, Keep.refl _ _, hWd⟩), ?_⟩
        refine ⟨fun b V ρ w hk hbi hd hu hWd hV => el_loada (vs := wordC y (.slice ad' y.bundle.length cap')) rfl rfl rfl rfl rfl rfl hWd.2.1 rfl (el_nil ⟨_, rfl, rfl, Keep.refl _ _, hWd⟩), ?_⟩
        refine ⟨fun b V ρ w hk hbi hd hu hWd hV => el_call rfl rfl rfl rfl rfl rfl (Same_ok x y _ _ w hWd.2.2.1 hWd.2.2.2.1 hl) (by rintro _ w' ⟨rfl, kk⟩; rw [hs]; exact el_nil ⟨_, rfl, rfl, kk, kk.blk hWd.1 (by simp), kk.blk hWd.2.1 (by simp), hWd.2.2.1.keep0 kk, hWd.2.2.2.1.keep0 kk, own_keep hWd.2.2.2.2.1 kk (by simp), own_keep hWd.2.2.2.2.2 kk (by simp)⟩), ?_⟩
        refine ⟨pureD rfl (fun _ _ => rfl) (fun _ _ h => h), ?_⟩
        refine ⟨fun b V ρ w hk hbi hd hu hWd hV => el_str rfl rfl rfl rfl rfl rfl (Rd.of_own hWd.2.2.2.2.1) (el_nil ⟨_, rfl, rfl, Keep.refl _ _, hWd⟩), ?_⟩
        refine ⟨pureD rfl (fun _ _ => rfl) (fun _ _ h => h), ?_⟩
        refine ⟨fun b V ρ w hk hbi hd hu hWd hV => el_str rfl rfl rfl rfl rfl rfl (Rd.of_own hWd.2.2.2.2.2) (el_nil ⟨_, rfl, rfl, Keep.refl _ _, hWd⟩), ?_⟩
        refine ⟨fun b V ρ w hk hbi hd hu hWd hV => el_streq false hBB rfl rfl rfl rfl (el_nil ⟨_, rfl, rfl, Keep.refl _ _, hWd⟩), ?_⟩
        refine ⟨pureD rfl (fun _ _ => rfl) (fun _ _ h => h), ?_⟩
        refine ⟨pureD rfl (fun _ _ => rfl) (fun _ _ h => h), ?_⟩
        trivial
        intro b V w7 hall k7 hWd hV
        refine ew_cond_f rfl rfl ?_
        refine ew_skip ?_
        refine ⟨rfl, (), ⟨rfl, rfl, rfl, rfl, trivial⟩, kw.trans0 k7, hWd.1, ?_⟩
        exact hWd.2.2.2.2.1
    · let F : Value := .bool false
      let A : Value := .int .i64 x.E
      let B : Value := .int .i64 y.E
      let S : Value := .int .i64 (IntKind.wrap .i64 (x.E + y.E))
      have hS : ((IntKind.wrap .i64 (x.E + y.E)) == 0) = false := by
        rw [wrap_i64 (by omega) (by omega)]
        simp
        omega
      refine ew_draw follows [.known A, .known A, .known B, .known B, .known S, .known F, .known F, .known undef, .known undef, .known undef, .known undef, .known undef, .known undef, .known undef, .known undef, .known undef, .known F] []
        (fun b w => Blk w ab 48 (wordC x (.slice ad x.bundle.length cap)).toArray ∧ OwnB 5 w base7 (.slice ad7 (if x.E = 0 then x.B else []).length cap7) (if x.E = 0 then x.B else [])) rfl (stable_known _ rfl) ⟨h3, hy7⟩ ?_ ?_
      refine ⟨pureD rfl (fun _ _ => rfl) (fun _ _ h => h), ?_⟩
      refine ⟨fun b V ρ w hk hbi hd hu hWd hV => el_call rfl rfl rfl rfl rfl rfl (num_ok _ w) (by rintro _ _ ⟨rfl, rfl⟩; exact el_nil ⟨_, rfl, rfl, Keep.refl _ _, hWd⟩), ?_⟩
      refine ⟨pureD rfl (fun _ _ => rfl) (fun _ _ h => h), ?_⟩
      refine ⟨fun b V ρ w hk hbi hd hu hWd hV => el_call rfl rfl rfl rfl rfl rfl (num_ok _ w) (by rintro _ _ ⟨rfl, rfl⟩; exact el_nil ⟨_, rfl, rfl, Keep.refl _ _, hWd⟩), ?_⟩
      refine ⟨pureD rfl (fun _ _ => rfl) (fun _ _ h => h), ?_⟩
      refine ⟨fun b V ρ w hk hbi hd hu hWd hV => el_eqi false hS rfl rfl rfl rfl (el_nil ⟨_, rfl, rfl, Keep.refl _ _, hWd⟩), ?_⟩
      refine ⟨pureD rfl (fun _ _ => rfl) (fun _ _ h => h), ?_⟩
      refine ⟨pureD rfl (fun _ _ => rfl) (fun _ _ h => h), ?_⟩
      refine ⟨pureD rfl (fun _ _ => rfl) (fun _ _ h => h), ?_⟩
      refine ⟨pureD rfl (fun _ _ => rfl) (fun _ _ h => h), ?_⟩
      refine ⟨pureD rfl (fun _ _ => rfl) (fun _ _ h => h), ?_⟩
      refine ⟨pureD rfl (fun _ _ => rfl) (fun _ _ h => h), ?_⟩
      refine ⟨pureD rfl (fun _ _ => rfl) (fun _ _ h => h), ?_⟩
      refine ⟨pureD rfl (fun _ _ => rfl) (fun _ _ h => h), ?_⟩
      refine ⟨pureD rfl (fun _ _ => rfl) (fun _ _ h => h), ?_⟩
      refine ⟨pureD rfl (fun _ _ => rfl) (fun _ _ h => h), ?_⟩
      refine ⟨pureD rfl (fun _ _ => rfl) (fun _ _ h => h), ?_⟩
      trivial
      intro b V w7 hall k7 hWd hV
      refine ew_cond_f rfl rfl ?_
      refine ew_skip ?_
      exact ⟨rfl, (), ⟨rfl, rfl, rfl, rfl, trivial⟩, kw.trans0 k7, hWd.1, hWd.2⟩
  · rintro ⟨⟩ ρ1 w5 hds1 ⟨kw, h3, hy7⟩
    refine ew_join (α := Unit) (fun _ => [(2, .slice adv bs.length capv)]) (fun _ W => Keep [] w W) ?_ ?_
    · refine sp rfl ?_
      refine el_call rfl rfl rfl rfl rfl rfl (num_ok _ _) ?_
      rintro _ _ ⟨rfl, rfl⟩
      by_cases hE : x.E = 0
      · rw [hE]
        rw [if_pos hE] at hy7
        rw [if_pos rfl]
        have hB := readW_B hE
        have hBl := WorD.B_len hE
        have hux := hu.keep0 kw
        refine el_eqi (a := 0) (b := 0) (k := .i64) true rfl rfl rfl rfl rfl ?_
        refine ep rfl ?_
        refine ew_cond_t rfl rfl ?_
        refine sp rfl ?_
        refine el_call rfl rfl rfl rfl rfl rfl (Read_ok _ x.B _ (Rd.of_own hy7) (by omega)) ?_
        intro rv w6 hq
        unfold ReadQ at hq
        rw [readR_some hB] at hq
        obtain ⟨u1, rfl, hu1, kk⟩ := hq
        dsimp only at hu1
        obtain ⟨adu, capu, rfl, hcu⟩ := own_slice hu1
        have h3 := kk.blk h3 (by simp)
        have hy7 := own_keep hy7 kk (by simp)
        have kw := kw.trans0 kk
        refine pp rfl ?_
        refine el_alloc (z := wordZ) zeroA rfl rfl rfl rfl ?_
        intro b11 w7 hb11 hb11' kk h11
        have hw11 : w.heap.size ≤ b11 := by have := kw.size; omega
        have hab11 : ab < b11 := by have := Blk.lt h3; omega
        have h3 := kk.blk h3 (by simp)
        have hy7 := own_keep hy7 kk (by simp)
        have hu1 := own_keep hu1 kk (by simp)
        have kw := kw.trans0 kk
        refine el_store (b := b11) (off := 0) (wordC x (.slice adu x.bundle.length capu)).toArray rfl rfl rfl rfl rfl rfl rfl rfl h11 rfl rfl ?_
        intro w8 kk hs h11'
        have h3 := kk.blk h3 (by simp; omega)
        have hy7 := own_keep hy7 kk (own_ne hy7 h11 (by decide))
        have hu1 := own_keep hu1 kk (own_ne hu1 h11 (by decide))
        have kw := kw.trans kk (by simp; omega)
        refine ep rfl ?_
        obtain ⟨⟨z, ez⟩, hro⟩ : ∃ s, readOR x.B = s := ⟨_, rfl⟩
        obtain ⟨⟨zt, et⟩, hrt⟩ : ∃ s, readTR x.B = s := ⟨_, rfl⟩
        have hone : (ez == 0) = !(et == 0) := by
          unfold readOR at hro
          unfold readTR at hrt
          rw [hB] at hro hrt
          dsimp only at hro hrt
          by_cases hrk : x.rk ≠ 0
          · rw [if_pos hrk] at hro hrt
            injection hro with _ g1
            injection hrt with _ g2
            subst g1
            subst g2
            rfl
          · rw [if_neg hrk] at hro hrt
            injection hro with _ g1
            injection hrt with _ g2
            subst g1
            subst g2
            rfl
        refine sp rfl ?_
        refine el_call rfl rfl rfl rfl rfl rfl (ReadOrder_ok _ x.B w8 (Rd.of_own hy7) (by omega)) ?_
        intro rv w9 hq
        rw [hro] at hq
        obtain ⟨u2, rfl, hu2, kk⟩ := hq
        dsimp only at hu2
        obtain ⟨ad2, cap2, rfl, hc2⟩ := own_slice hu2
        have h3 := kk.blk h3 (by simp)
        have h11' := kk.blk h11' (by simp)
        have hy7 := own_keep hy7 kk (by simp)
        have hu1 := own_keep hu1 kk (by simp)
        have kw := kw.trans0 kk
        refine pp rfl ?_
        refine el_alloc (z := ordZ) (ordL 0 0 0 0 (.slice none 0 0)).toArray rfl rfl rfl rfl ?_
        intro b13 w10 hb13 hb13' kk h13
        have hw13 : w.heap.size ≤ b13 := by have := kw.size; omega
        have hab13 : ab < b13 := by have := Blk.lt h3; omega
        have hb1113 : b11 < b13 := by have := Blk.lt h11'; omega
        have h3 := kk.blk h3 (by simp)
        have h11' := kk.blk h11' (by simp)
        have hy7 := own_keep hy7 kk (by simp)
        have hu1 := own_keep hu1 kk (by simp)
        have kw := kw.trans0 kk
        refine el_store (b := b13) (off := 0) (ordL z.k z.e z.t z.v (.slice ad2 z.bundle.length cap2)).toArray rfl rfl rfl rfl rfl rfl rfl rfl h13 rfl rfl ?_
        intro w11 kk hs h13'
        have h3 := kk.blk h3 (by simp; omega)
        have h11' := kk.blk h11' (by simp; omega)
        have hy7 := own_keep hy7 kk (own_ne hy7 h13 (by decide))
        have hu1 := own_keep hu1 kk (own_ne hu1 h13 (by decide))
        have kw := kw.trans kk (by simp; omega)
        refine ep rfl ?_
        refine sp rfl ?_
        refine el_call rfl rfl rfl rfl rfl rfl (ReadReport_ok _ x.B w11 (Rd.of_own hy7) (by omega)) ?_
        intro rv w12 hq
        rw [hrt] at hq
        obtain ⟨rfl, kk⟩ := hq
        have h3 := kk.blk h3 (by simp)
        have h11' := kk.blk h11' (by simp)
        have hu1 := own_keep hu1 kk (by simp)
        have kw := kw.trans0 kk
        refine pp rfl ?_
        refine el_alloc (z := repZ) #[.int .i64 0, .int .i64 0, .int .i64 0, .int .i64 0] rfl rfl rfl rfl ?_
        intro b16 w13 hb16 hb16' kk h16
        have hw16 : w.heap.size ≤ b16 := by have := kw.size; omega
        have hab16 : ab < b16 := by have := Blk.lt h3; omega
        have hb1116 : b11 < b16 := by have := Blk.lt h11'; omega
        have h3 := kk.blk h3 (by simp)
        have h11' := kk.blk h11' (by simp)
        have hu1 := own_keep hu1 kk (by simp)
        have kw := kw.trans0 kk
        refine pp rfl ?_
        refine el_store (b := b16) (off := 0) #[.int .i64 zt.rk, .int .i64 zt.re, .int .i64 zt.rt, .int .i64 zt.rv] rfl rfl rfl rfl rfl rfl rfl rfl h16 rfl rfl ?_
        intro w14 kk hs h16'
        have h3 := kk.blk h3 (by simp; omega)
        have h11' := kk.blk h11' (by simp; omega)
        have hu1 := own_keep hu1 kk (own_ne hu1 h16 (by decide))
        have kw := kw.trans kk (by simp; omega)
        have hux := hu.keep0 kw
        refine ep rfl ?_
        refine sp rfl ?_
        refine el_call rfl rfl rfl rfl rfl rfl (num_ok _ _) ?_
        rintro _ _ ⟨rfl, rfl⟩
        refine el_neqi (a := 0) (b := 0) (k := .i64) false rfl rfl rfl rfl rfl ?_
        refine pp rfl ?_
        refine el_loada (vs := wordC x (.slice adu x.bundle.length capu)) rfl rfl rfl rfl rfl rfl h11' rfl ?_
        refine el_loada (vs := wordC x (.slice ad x.bundle.length cap)) rfl rfl rfl rfl rfl rfl h3 rfl ?_
        refine el_call rfl rfl rfl rfl rfl rfl (Same_ok x x _ _ _ (Rd.of_own hu1) hux hl) ?_
        rintro _ w15 ⟨rfl, kk⟩
        have kw := kw.trans0 kk
        rw [(WorD.same_iff x x).2 rfl]
        refine pp rfl ?_
        refine el_call rfl rfl rfl rfl rfl rfl (num_ok _ _) ?_
        rintro _ _ ⟨rfl, rfl⟩
        refine el_eqi (a := ez) (b := 0) (k := .i64) (!(et == 0)) hone rfl rfl rfl rfl ?_
        refine pp rfl ?_
        refine el_call rfl rfl rfl rfl rfl rfl (num_ok _ _) ?_
        rintro _ _ ⟨rfl, rfl⟩
        obtain ⟨q, hq⟩ : ∃ q, (et == 0) = q := ⟨_, rfl⟩
        rw [hq]
        refine el_eqi (a := et) (b := 0) (k := .i64) q hq rfl rfl rfl rfl ?_
        cases q
        · refine ep rfl ?_
          refine ew_cond_f rfl rfl ?_
          refine ew_skip ?_
          exact ⟨rfl, (), ⟨rfl, trivial⟩, kw⟩
        · refine ep rfl ?_
          refine ew_cond_f rfl rfl ?_
          refine ew_skip ?_
          exact ⟨rfl, (), ⟨rfl, trivial⟩, kw⟩
      · refine el_eqi (a := x.E) (b := 0) (k := .i64) false (by simpa using hE) rfl rfl rfl rfl ?_
        refine ep rfl ?_
        refine ew_cond_f rfl rfl ?_
        refine ew_skip ?_
        exact ⟨rfl, (), ⟨rfl, trivial⟩, kw⟩
    · rintro ⟨⟩ ρ2 w6 hds2 kw
      have hvv := hv.keep0 kw
      have hds : ρ2.ds = [] := hds2.trans (hds1.trans rfl)
      refine sp rfl ?_
      refine el_call rfl rfl rfl rfl rfl rfl (Read_ok _ bs w6 hvv (by omega)) ?_
      rintro _ w7 ⟨u1, rfl, hu1, kk⟩
      obtain ⟨⟨z, e⟩, hze⟩ : ∃ s, readR bs = s := ⟨_, rfl⟩
      rw [hze] at hu1 ⊢
      dsimp only at hu1
      obtain ⟨adu, capu, rfl, hcu⟩ := own_slice hu1
      have kw := kw.trans0 kk
      refine pp rfl ?_
      refine el_alloc (z := wordZ) zeroA rfl rfl rfl rfl ?_
      intro b19 w8 hb19 hb19' kk h19
      have hw19 : w.heap.size ≤ b19 := by have := kw.size; omega
      have hu1 := own_keep hu1 kk (by simp)
      have kw := kw.trans0 kk
      refine el_store (b := b19) (off := 0) (wordC z (.slice adu z.bundle.length capu)).toArray rfl rfl rfl rfl rfl rfl rfl rfl h19 rfl rfl ?_
      intro w9 kk hs h19'
      have hu1 := own_keep hu1 kk (own_ne hu1 h19 (by decide))
      have kw := kw.trans kk (by simp; omega)
      refine ep rfl ?_
      refine ew_seq (sp rfl ?_)
      refine el_call rfl rfl rfl rfl rfl rfl (num_ok _ _) ?_
      rintro _ _ ⟨rfl, rfl⟩
      by_cases he : e = 0
      · have hrw := readR_zero hze he
        subst he
        have hzE := readW_E hrw
        have hzB := readW_back hrw
        refine el_neqi (a := 0) (b := 0) (k := .i64) false rfl rfl rfl rfl rfl ?_
        refine ep rfl ?_
        refine ew_cond_f rfl rfl ?_
        refine ew_skip ?_
        refine sp rfl ?_
        refine el_loada (vs := wordC z (.slice adu z.bundle.length capu)) rfl rfl rfl rfl rfl rfl h19' rfl ?_
        refine el_call rfl rfl rfl rfl rfl rfl (Raw_ok z _ w9 (Rd.of_own hu1) (by
          have := bundle_len hzE
          unfold maxLen
          omega)) ?_
        rintro _ w10 ⟨y21, rfl, hy21, kk⟩
        rw [hzE] at hy21 ⊢
        rw [if_pos rfl, hzB] at hy21
        have kw := kw.trans0 kk
        have hvv := hv.keep0 kw
        refine ep rfl ?_
        refine sp rfl ?_
        refine el_call rfl rfl rfl rfl rfl rfl (num_ok _ _) ?_
        rintro _ _ ⟨rfl, rfl⟩
        refine pp rfl ?_
        refine el_str rfl rfl rfl rfl rfl rfl (Rd.of_own hy21) ?_
        refine pp rfl ?_
        refine el_str rfl rfl rfl rfl rfl rfl hvv ?_
        refine el_streq true (by simp) rfl rfl rfl rfl ?_
        refine pp rfl ?_
        refine el_call rfl rfl rfl rfl rfl rfl (works_ok _) ?_
        rintro _ w11 ⟨rfl, kk⟩
        refine ep rfl ?_
        exact ew_ret (ret_1 (.bool true) rfl rfl hds rfl ⟨rfl, kw.trans0 kk⟩)
      · obtain ⟨hrw, rfl, rfl⟩ := readR_not hze he
        refine el_neqi (a := 270) (b := 0) (k := .i64) true rfl rfl rfl rfl rfl ?_
        refine ep rfl ?_
        refine ew_cond_t rfl rfl ?_
        refine sp rfl ?_
        refine el_call rfl rfl rfl rfl rfl rfl (num_ok _ _) ?_
        rintro _ _ ⟨rfl, rfl⟩
        refine pp rfl ?_
        refine el_call rfl rfl rfl rfl rfl rfl (works_ok _) ?_
        rintro _ w11 ⟨rfl, kk⟩
        refine ep rfl ?_
        exact ew_ret (ret_1 (.bool true) rfl rfl hds rfl ⟨rfl, kw.trans0 kk⟩)
end Go.Proofs.Ytpdgfekimnmdnaa
