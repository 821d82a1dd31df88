/- The second hand's reader: signed numbers, the end. -/
import Derived.Test.YtpdgfekimnmdnaaWireR
set_option linter.unusedVariables false
set_option linter.unusedSimpArgs false
namespace Go.Proofs.Ytpdgfekimnmdnaa
open Go.RowKit
set_option maxRecDepth 20000

theorem rdStep_err {α : Type} {z : α} {all : List UInt8} {at_ : Nat} {flaw : Int} {fine : Bool} {res : List UInt8 → α × Int × Nat} (h : (rdStep z all at_ flaw fine res).2.1 ≠ 0) : (rdStep z all at_ flaw fine res).1 = z := by
  unfold rdStep at h ⊢
  split
  · rfl
  · rename_i h1
    rw [if_neg h1] at h
    split
    · rfl
    · rename_i h2
      rw [if_neg h2] at h
      split
      · rename_i h3
        rw [if_pos h3] at h
        exact absurd rfl h
      · rfl

theorem refend_ok (ad : Option Addr) (cap : Nat) (all : List UInt8) (at_ : Nat) (flaw : Int) (w : World) (hat : at_ ≤ all.length) :
    Fn Try.prog 51 [rdr (.slice ad all.length cap) at_ flaw] w fun r w' => r = .int .i64 (if flaw ≠ 0 then flaw else if at_ < all.length then 122 else 0) ∧ Keep [] w w' := by
  refine fn_enter Try.func51 rfl rfl ?_
  refine sp rfl ?_
  refine el_box #[.slice ad all.length cap, .int .i64 (at_ : Int), .int .i64 flaw] rfl rfl rfl rfl ?_
  intro bb w1 e1 e1' k1 hb1
  refine ep rfl ?_
  refine ew_seq (sp rfl ?_)
  refine el_loadb rfl rfl rfl rfl rfl hb1 rfl ?_
  refine ep rfl ?_
  by_cases hfl : flaw = 0
  · subst hfl
    refine ew_cond_f rfl rfl ?_
    refine ew_skip ?_
    refine ew_seq (sp rfl ?_)
    refine el_loadb rfl rfl rfl rfl rfl hb1 rfl ?_
    refine pp rfl ?_
    refine el_loadb rfl rfl rfl rfl rfl hb1 rfl ?_
    refine ep rfl ?_
    by_cases hle : at_ < all.length
    · refine ew_cond_t rfl (decide_eq_true (by omega)) ?_
      refine es rfl ?_
      exact ew_ret (ret_1 (.int .i64 122) rfl rfl rfl rfl ⟨by simp [hle], k1⟩)
    · refine ew_cond_f rfl (decide_eq_false (by omega)) ?_
      refine ew_skip ?_
      refine es rfl ?_
      exact ew_ret (ret_1 (.int .i64 0) rfl rfl rfl rfl ⟨by simp [hle], k1⟩)
  · refine ew_cond_t rfl (by simp [hfl]) ?_
    refine sp rfl ?_
    refine el_loadb rfl rfl rfl rfl rfl hb1 rfl ?_
    refine ep rfl ?_
    exact ew_ret (ret_1 (.int .i64 flaw) rfl rfl rfl rfl ⟨by simp [hfl], k1⟩)

end Go.Proofs.Ytpdgfekimnmdnaa
