/- The second hand's reader. -/
import Derived.Test.YtpdgfekimnmdnaaWireN
set_option linter.unusedVariables false
set_option linter.unusedSimpArgs false
namespace Go.Proofs.Ytpdgfekimnmdnaa
open Go.RowKit
set_option maxRecDepth 20000

def takeR (all : List UInt8) (at_ : Nat) : Int × Int × Int :=
  if (scan 0 0 (all.drop at_)).1 ≠ 0 then (0, 0, (scan 0 0 (all.drop at_)).1) else ((scan 0 0 (all.drop at_)).2.1, (at_ + (scan 0 0 (all.drop at_)).2.2 : Nat), 0)

theorem take_ok (v : Value) (all : List UInt8) (at_ : Nat) (w : World) (hv : RdB w v all) (hal : all.length ≤ 70368744177664) (hat : at_ ≤ all.length) :
    Fn Try.prog 87 [v, .int .i64 (at_ : Int)] w fun r w' => r = .tuple #[.int .i64 (takeR all at_).1, .int .i64 (takeR all at_).2.1, .int .i64 (takeR all at_).2.2] ∧ w = w' := by
  obtain ⟨ad, cap, rfl, hcap⟩ := hv.slice
  refine fn_enter Try.func87 rfl rfl ?_
  refine es rfl ?_
  refine es rfl ?_
  refine ew_seq (es rfl ?_)
  refine ew_block ?_
  refine ew_loop (α := Nat × Nat) (fun x => [(0, .slice ad all.length cap), (1, .int .i64 (at_ : Int)), (7, .int .i64 (x.2 : Int)), (8, .int .i64 ((128 ^ x.1 : Nat) : Int)), (9, .int .i64 ((at_ + x.1 : Nat) : Int))])
    (fun x w' => x.1 ≤ 8 ∧ at_ + x.1 ≤ all.length ∧ x.2 < 128 ^ x.1 ∧ scan 0 0 (all.drop at_) = scan x.1 x.2 (all.drop (at_ + x.1)) ∧ w = w') (fun x => 9 - x.1)
    (0, 0) ⟨rfl, rfl, rfl, rfl, rfl, trivial⟩ ⟨Nat.zero_le _, hat, Nat.one_pos, rfl, rfl⟩ ?_
  rintro ⟨i, acc⟩ ρ w1 hd ⟨hi8, hil, hacc, hscan, rfl⟩
  dsimp only at hi8 hil hacc hscan
  refine ew_seq (es rfl ?_)
  refine ew_cond rfl (fun hb => ?_) (fun hb => ?_)
  · have hlt : at_ + i < all.length := by have : ((at_ + i : Nat) : Int) < all.length := of_decide_eq_true hb; omega
    obtain ⟨c, r2, hr1⟩ : ∃ c r2, all.drop (at_ + i) = c :: r2 := ⟨_, _, List.drop_eq_getElem_cons hlt⟩
    have hr2 : all.drop (at_ + (i + 1)) = r2 := by
      have : all.drop (at_ + i + 1) = r2 := by rw [← List.drop_drop, hr1]; rfl
      exact this
    have hce : all[at_ + i]? = some c := by
      have := congrArg (fun l => l[0]?) hr1
      simpa using this
    obtain ⟨a, cap', he, hcell⟩ := Rd.at_ hv (at_ + i) (byteV c) (by simp [bytesV, hce])
    injection he with he1 he2 he3
    subst he1
    have hp8 := pow_le8 hi8
    refine ew_skip ?_
    refine ew_seq (ew_block ?_)
    refine ew_seq (ew_cut [(0, .slice (some a) all.length cap), (1, .int .i64 (at_ : Int)), (7, .int .i64 (acc : Int)), (8, .int .i64 ((128 ^ i : Nat) : Int)), (9, .int .i64 ((at_ + i : Nat) : Int)), (27, .bool (decide (i = 8 ∧ 128 ≤ c.toNat)))] (fun w' => w = w') ?_ ?_)
    · refine ew_region ?_
      refine el_pure 4 rfl ?_
      have hw8 : IntKind.wrap .i64 ((at_ : Int) + 8) = (at_ : Int) + 8 := wrap_i64 (by omega) (by omega)
      by_cases h8 : i = 8
      · subst h8
        refine el_as (v' := .bool true) (bool_eq (by rw [hw8]; simp)) ?_
        refine pp rfl ?_
        refine el_index (e := 5) (j := at_ + 8) (p := at_ + 8) rfl rfl rfl rfl rfl rfl hlt (Nat.mul_one _) rfl ?_
        refine el_load rfl rfl rfl rfl rfl hcell ?_
        refine ep rfl ?_
        exact ⟨rfl, ⟨rfl, rfl, rfl, rfl, rfl, bool_eq (by by_cases h : 128 ≤ c.toNat <;> simp [h] <;> omega), trivial⟩, rfl⟩
      · refine el_as (v' := .bool false) (bool_eq (by rw [hw8]; simp; omega)) ?_
        refine ep rfl ?_
        exact ⟨rfl, ⟨rfl, rfl, rfl, rfl, rfl, bool_eq (by simp [h8]), trivial⟩, rfl⟩
    rintro ρ2 _ hd2 rfl
    by_cases hbad : i = 8 ∧ 128 ≤ c.toNat
    · refine ew_cond_t rfl (decide_eq_true hbad) ?_
      refine es rfl ?_
      have hs : scan 0 0 (all.drop at_) = (121, 0, 0) := by rw [hscan, hr1, scan, if_pos (.inl hbad)]
      exact ew_ret (ret_3 (.int .i64 0) (.int .i64 0) (.int .i64 121) rfl rfl rfl rfl (by exact hd2.trans hd) rfl rfl rfl ⟨by simp [takeR, hs], rfl⟩)
    refine ew_cond_f rfl (decide_eq_false hbad) ?_
    refine ew_skip ?_
    refine sp rfl ?_
    refine el_index (e := 5) (j := at_ + i) (p := at_ + i) rfl rfl rfl rfl rfl rfl hlt (Nat.mul_one _) rfl ?_
    refine el_load rfl rfl rfl rfl rfl hcell ?_
    refine ppn 5 rfl ?_
    have hstep : IntKind.wrap .i64 ((acc : Int) + IntKind.wrap .i64 (IntKind.wrap .i64 (((c.toNat : Nat) : Int).tmod 128) * ((128 ^ i : Nat) : Int))) = ((acc + c.toNat % 128 * 128 ^ i : Nat) : Int) := by
      have hm : c.toNat % 128 ≤ 127 := by omega
      have hmul : c.toNat % 128 * 128 ^ i ≤ 127 * 72057594037927936 := Nat.mul_le_mul hm hp8
      have e1 : ((c.toNat : Nat) : Int).tmod 128 = ((c.toNat % 128 : Nat) : Int) := by rw [Int.tmod_eq_emod_of_nonneg (by omega)]; omega
      rw [e1, wrap_i64 (n := ((c.toNat % 128 : Nat) : Int)) (by omega) (by omega), ← Int.natCast_mul, wrap_i64 (n := ((c.toNat % 128 * 128 ^ i : Nat) : Int)) (by omega) (by omega), wrap_i64 (by omega) (by omega)]
      omega
    refine el_as (v' := .int .i64 ((acc + c.toNat % 128 * 128 ^ i : Nat) : Int)) (int_eq hstep) ?_
    refine ep rfl ?_
    refine ew_seq (sp rfl ?_)
    refine el_index (e := 5) (j := at_ + i) (p := at_ + i) rfl rfl rfl rfl rfl rfl hlt (Nat.mul_one _) rfl ?_
    refine el_load rfl rfl rfl rfl rfl hcell ?_
    refine ep rfl ?_
    by_cases hc : c.toNat < 128
    · refine ew_cond_t rfl (decide_eq_true (by omega)) ?_
      refine ew_seq ?_
      refine ew_cut [(7, .int .i64 ((acc + c.toNat % 128 * 128 ^ i : Nat) : Int)), (9, .int .i64 ((at_ + i : Nat) : Int)), (52, .bool (decide (0 < i ∧ c.toNat = 0)))] (fun w' => w = w') ?_ ?_
      · refine ew_region ?_
        refine el_pure 3 rfl ?_
        by_cases h0 : 0 < i
        · refine el_as (v' := .bool true) (bool_eq (decide_eq_true (by omega))) ?_
          refine pp rfl ?_
          refine el_index (e := 5) (j := at_ + i) (p := at_ + i) rfl rfl rfl rfl rfl rfl hlt (Nat.mul_one _) rfl ?_
          refine el_load rfl rfl rfl rfl rfl hcell ?_
          refine ep rfl ?_
          exact ⟨rfl, ⟨rfl, rfl, bool_eq (by by_cases h : c.toNat = 0 <;> simp [h, h0]), trivial⟩, rfl⟩
        · refine el_as (v' := .bool false) (bool_eq (decide_eq_false (by omega))) ?_
          refine ep rfl ?_
          exact ⟨rfl, ⟨rfl, rfl, bool_eq (by simp [h0]), trivial⟩, rfl⟩
      rintro ρ3 _ hd3 rfl
      by_cases hz : 0 < i ∧ c.toNat = 0
      · refine ew_cond_t rfl (decide_eq_true hz) ?_
        refine es rfl ?_
        have hs : scan 0 0 (all.drop at_) = (121, 0, 0) := by rw [hscan, hr1, scan, if_pos (.inr hz)]
        exact ew_ret (ret_3 (.int .i64 0) (.int .i64 0) (.int .i64 121) rfl rfl rfl rfl (by exact hd3.trans (hd2.trans hd)) rfl rfl rfl ⟨by simp [takeR, hs], rfl⟩)
      · refine ew_cond_f rfl (decide_eq_false hz) ?_
        refine ew_skip ?_
        refine spn 3 rfl ?_
        refine el_as (v' := .int .i64 ((at_ + (i + 1) : Nat) : Int)) (int_eq (by rw [wrap_i64 (by omega) (by omega)]; omega)) ?_
        refine ep rfl ?_
        have hs : scan 0 0 (all.drop at_) = (0, acc + c.toNat % 128 * 128 ^ i, i + 1) := by rw [hscan, hr1, scan, if_neg (by omega), if_pos hc]
        exact ew_ret (ret_3 (.int .i64 ((acc + c.toNat % 128 * 128 ^ i : Nat) : Int)) (.int .i64 ((at_ + (i + 1) : Nat) : Int)) (.int .i64 0) rfl rfl rfl rfl (by exact hd3.trans (hd2.trans hd)) rfl rfl rfl ⟨by simp [takeR, hs], rfl⟩)
    · have hi7 : i + 1 ≤ 8 := by omega
      refine ew_cond_f rfl (decide_eq_false (by omega)) ?_
      refine ew_skip ?_
      have hp1 := pow_le8 hi7
      have hpow : IntKind.wrap .i64 (((128 ^ i : Nat) : Int) * 128) = ((128 ^ (i + 1) : Nat) : Int) := by
        have e : (128 : Nat) ^ (i + 1) = 128 ^ i * 128 := Nat.pow_succ ..
        rw [e] at hp1 ⊢
        rw [wrap_i64 (by omega) (by omega)]
        omega
      refine gp rfl ?_
      refine el_nil ?_
      refine eg rfl ?_
      refine ⟨by exact hd2.trans hd, (i + 1, acc + c.toNat % 128 * 128 ^ i), ⟨rfl, rfl, rfl, int_eq hpow, int_eq (by rw [wrap_i64 (by omega) (by omega)]; dsimp only; omega), trivial⟩, ⟨hi7, by show at_ + (i + 1) ≤ _; omega, acc_step c hacc, ?_, rfl⟩, by show 9 - (i + 1) < 9 - i; omega⟩
      rw [hscan, hr1, scan, if_neg (by omega), if_neg hc, hr2]
  · have hge : ¬ at_ + i < all.length := by have : ¬ (((at_ + i : Nat) : Int) < all.length) := of_decide_eq_false hb; omega
    refine ew_exit ?_
    refine es rfl ?_
    have hs : scan 0 0 (all.drop at_) = (120, 0, 0) := by rw [hscan, List.drop_eq_nil_of_le (by omega)]; rfl
    exact ew_ret (ret_3 (.int .i64 0) (.int .i64 0) (.int .i64 120) rfl rfl rfl rfl (by exact hd) rfl rfl rfl ⟨by simp [takeR, hs], rfl⟩)
end Go.Proofs.Ytpdgfekimnmdnaa
