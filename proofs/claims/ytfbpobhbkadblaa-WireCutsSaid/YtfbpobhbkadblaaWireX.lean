/- The second hand's reader: signed numbers, the end. -/
import Derived.Test.YtfbpobhbkadblaaWireR
set_option linter.unusedVariables false
set_option linter.unusedSimpArgs false
namespace Go.Proofs.Ytfbpobhbkadblaa
open Go.RowKit
set_option maxRecDepth 20000

theorem rdStep_err {α : Type} {z : α} {all : List UInt8} {at_ : Nat} {flaw : Int} {fine : Bool} {res : List UInt8 → α × Int × Nat} (h : (rdStep z all at_ flaw fine res).2.1 ≠ 0) : (rdStep z all at_ flaw fine res).1 = z := by
  unfold rdStep at h ⊢
  split
  · rfl
  · rename_i h1
    rw [if_neg h1] at h
    split
    · rfl
    · rename_i h2
      rw [if_neg h2] at h
      split
      · rename_i h3
        rw [if_pos h3] at h
        exact absurd rfl h
      · rfl

theorem refend_ok (ad : Option Addr) (cap : Nat) (all : List UInt8) (at_ : Nat) (flaw : Int) (w : World) (hat : at_ ≤ all.length) :
    Fn Try.prog 35 [rdr (.slice ad all.length cap) at_ flaw] w fun r w' => r = .int .i64 (if flaw ≠ 0 then flaw else if at_ < all.length then 122 else 0) ∧ Keep [] w w' := by
  refine fn_enter Try.func35 rfl rfl ?_
  refine sp rfl ?_
  refine el_box #[.slice ad all.length cap, .int .i64 (at_ : Int), .int .i64 flaw] rfl rfl rfl rfl ?_
  intro bb w1 e1 e1' k1 hb1
  refine ep rfl ?_
  refine ew_seq (sp rfl ?_)
  refine el_loadb rfl rfl rfl rfl rfl hb1 rfl ?_
  refine ep rfl ?_
  by_cases hfl : flaw = 0
  · subst hfl
    refine ew_cond_f rfl rfl ?_
    refine ew_skip ?_
    refine ew_seq (sp rfl ?_)
    refine el_loadb rfl rfl rfl rfl rfl hb1 rfl ?_
    refine pp rfl ?_
    refine el_loadb rfl rfl rfl rfl rfl hb1 rfl ?_
    refine ep rfl ?_
    by_cases hle : at_ < all.length
    · refine ew_cond_t rfl (decide_eq_true (by omega)) ?_
      refine es rfl ?_
      exact ew_ret (ret_1 (.int .i64 122) rfl rfl rfl rfl ⟨by simp [hle], k1⟩)
    · refine ew_cond_f rfl (decide_eq_false (by omega)) ?_
      refine ew_skip ?_
      refine es rfl ?_
      exact ew_ret (ret_1 (.int .i64 0) rfl rfl rfl rfl ⟨by simp [hle], k1⟩)
  · refine ew_cond_t rfl (by simp [hfl]) ?_
    refine sp rfl ?_
    refine el_loadb rfl rfl rfl rfl rfl hb1 rfl ?_
    refine ep rfl ?_
    exact ew_ret (ret_1 (.int .i64 flaw) rfl rfl rfl rfl ⟨by simp [hfl], k1⟩)

theorem refrs_ok (v : Value) (all : List UInt8) (at_ : Nat) (flaw : Int) (w : World) (hv : RdB w v all) (hal : all.length ≤ 70368744177664) (hat : at_ ≤ all.length) :
    Fn Try.prog 51 [rdr v at_ flaw] w fun r w' =>
      r = Rtn v (.int .i64 (unz (rdStep 0 all at_ flaw true fun l => numR l 9223372036854775807).1)) (rdStep 0 all at_ flaw true fun l => numR l 9223372036854775807).2.1 (rdStep 0 all at_ flaw true fun l => numR l 9223372036854775807).2.2.1 (rdStep 0 all at_ flaw true fun l => numR l 9223372036854775807).2.2.2 ∧ Keep [] w w' := by
  obtain ⟨ad, cap, rfl, hcap⟩ := hv.slice
  refine fn_enter Try.func51 rfl rfl ?_
  refine sp rfl ?_
  refine el_box #[.slice ad all.length cap, .int .i64 (at_ : Int), .int .i64 flaw] rfl rfl rfl rfl ?_
  intro bb w1 e1 e1' k1 hb1
  refine el_alloc (z := zr) #[.slice none 0 0, .int .i64 0, .int .i64 0] rfl rfl rfl rfl ?_
  intro cb w2 e2 e2' k2 hc2
  refine ep rfl ?_
  have hb2 := k2.blk hb1 (by simp)
  have k02 : Keep [] w w2 := k1.trans0 k2
  refine sp rfl ?_
  refine el_loada (vs := [.slice ad all.length cap, .int .i64 (at_ : Int), .int .i64 flaw]) rfl rfl rfl rfl rfl rfl hb2 rfl ?_
  refine el_call rfl rfl rfl rfl rfl rfl (refrn_ok (.slice ad all.length cap) all at_ flaw 9223372036854775807 w2 (hv.keep0 k02) hal hat) ?_
  have hde : decide ((9223372036854775807 : Int) ≥ 0) = true := by decide
  have hok := @rd_ok Int 0 all at_ flaw true (fun l => numR l 9223372036854775807)
  have herr := @rdStep_err Int 0 all at_ flaw true (fun l => numR l 9223372036854775807)
  obtain ⟨⟨n, e, a', f'⟩, hN⟩ : ∃ N, (rdStep 0 all at_ flaw true fun l => numR l 9223372036854775807) = N := ⟨_, rfl⟩
  intro rv w3 h3
  rw [hde, hN] at h3
  rw [hN] at hok herr ⊢
  obtain ⟨rfl, k3⟩ := h3
  dsimp only at hok herr ⊢
  refine pp rfl ?_
  refine el_alloc (z := zr) #[.slice none 0 0, .int .i64 0, .int .i64 0] rfl rfl rfl rfl ?_
  intro ob w4 e4 e4' k4 ho4
  refine el_store #[.slice ad all.length cap, .int .i64 (a' : Int), .int .i64 f'] rfl rfl rfl rfl rfl rfl rfl rfl ho4 rfl rfl ?_
  intro w5 k5 hs5 ho5
  have hs3 := k3.size
  have k25 : Keep [] w2 w5 := (k3.trans0 k4).trans k5 (by simp; omega)
  have k05 : Keep [] w w5 := k02.trans0 k25
  have hc5 := k25.blk hc2 (by simp)
  refine ep rfl ?_
  refine ew_seq (es rfl ?_)
  by_cases he : e = 0
  · subst he
    obtain ⟨_, _, hr0, hNe⟩ := hok rfl
    injection hNe with hn1 _
    have hnn := numR_nonneg (all.drop at_) 9223372036854775807
    rw [← hn1] at hnn
    obtain ⟨hnlt, _⟩ := hnn.2 hr0
    have hn0 := hnn.1
    have hq : IntKind.wrap .i64 (n.tdiv 2) = n / 2 := by rw [Int.tdiv_eq_ediv_of_nonneg hn0, wrap_i64 (by omega) (by omega)]
    have hz := unz_eq n hn0 hnlt
    unfold unzig at hz
    refine ew_cond_f rfl rfl ?_
    refine ew_skip ?_
    refine ew_seq (spn 3 rfl ?_)
    by_cases hodd : n % 2 = 1
    · rw [if_neg (by omega)] at hz
      refine el_as (v' := .bool true) (bool_eq (by rw [Int.tmod_eq_emod_of_nonneg hn0, hodd]; rfl)) ?_
      refine ep rfl ?_
      refine ew_cond_t rfl rfl ?_
      refine sp rfl ?_
      refine el_loada (vs := [.slice ad all.length cap, .int .i64 (a' : Int), .int .i64 f']) rfl rfl rfl rfl rfl rfl ho5 rfl ?_
      refine ppn 4 rfl ?_
      refine el_as (v' := .int .i64 (unz n)) (int_eq (by rw [hq, hz, wrap_i64 (n := 0 - n / 2) (by omega) (by omega), wrap_i64 (by omega) (by omega)]; omega)) ?_
      refine pp rfl ?_
      refine el_store #[.slice ad all.length cap, .int .i64 (a' : Int), .int .i64 f'] rfl rfl rfl rfl rfl rfl rfl rfl hc5 rfl rfl ?_
      intro w6 k6 hs6 hc6
      refine ep rfl ?_
      exact ew_ret (ret_l [rdr (.slice ad all.length cap) a' f', .int .i64 (unz n), .int .i64 0] rfl rfl ⟨⟨_, rfl, rfl, run_loadVarA rfl rfl rfl hc6⟩, ⟨rfl, rfl⟩, ⟨rfl, rfl⟩, trivial⟩ ⟨rfl, k05.trans k6 (by simp; omega)⟩)
    · rw [if_pos (by omega)] at hz
      refine el_as (v' := .bool false) (bool_eq (by rw [Int.tmod_eq_emod_of_nonneg hn0]; simp; omega)) ?_
      refine ep rfl ?_
      refine ew_cond_f rfl rfl ?_
      refine ew_skip ?_
      refine sp rfl ?_
      refine el_loada (vs := [.slice ad all.length cap, .int .i64 (a' : Int), .int .i64 f']) rfl rfl rfl rfl rfl rfl ho5 rfl ?_
      refine ppn 2 rfl ?_
      refine el_as (v' := .int .i64 (unz n)) (int_eq (by rw [hq, hz])) ?_
      refine el_store #[.slice ad all.length cap, .int .i64 (a' : Int), .int .i64 f'] rfl rfl rfl rfl rfl rfl rfl rfl hc5 rfl rfl ?_
      intro w6 k6 hs6 hc6
      refine ep rfl ?_
      exact ew_ret (ret_l [rdr (.slice ad all.length cap) a' f', .int .i64 (unz n), .int .i64 0] rfl rfl ⟨⟨_, rfl, rfl, run_loadVarA rfl rfl rfl hc6⟩, ⟨rfl, rfl⟩, ⟨rfl, rfl⟩, trivial⟩ ⟨rfl, k05.trans k6 (by simp; omega)⟩)
  · have hn := herr he
    subst hn
    have hz0 : unz 0 = 0 := by decide +kernel
    rw [hz0]
    refine ew_cond_t rfl (by simp [he]) ?_
    refine sp rfl ?_
    refine el_loada (vs := [.slice ad all.length cap, .int .i64 (a' : Int), .int .i64 f']) rfl rfl rfl rfl rfl rfl ho5 rfl ?_
    refine pp rfl ?_
    refine el_store #[.slice ad all.length cap, .int .i64 (a' : Int), .int .i64 f'] rfl rfl rfl rfl rfl rfl rfl rfl hc5 rfl rfl ?_
    intro w6 k6 hs6 hc6
    refine ep rfl ?_
    exact ew_ret (ret_l [rdr (.slice ad all.length cap) a' f', .int .i64 0, .int .i64 e] rfl rfl ⟨⟨_, rfl, rfl, run_loadVarA rfl rfl rfl hc6⟩, ⟨rfl, rfl⟩, ⟨rfl, rfl⟩, trivial⟩ ⟨rfl, k05.trans k6 (by simp; omega)⟩)
end Go.Proofs.Ytfbpobhbkadblaa
