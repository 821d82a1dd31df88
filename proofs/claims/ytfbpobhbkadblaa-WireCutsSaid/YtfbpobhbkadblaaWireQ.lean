/- The law of numbers. -/
import Derived.Test.YtfbpobhbkadblaaWireP
set_option linter.unusedVariables false
set_option linter.unusedSimpArgs false
namespace Go.Proofs.Ytfbpobhbkadblaa
open Go.RowKit
set_option maxRecDepth 20000

theorem rdStep_at {α : Type} (z : α) (all : List UInt8) (at_ : Nat) (flaw : Int) (fine : Bool) (res : List UInt8 → α × Int × Nat) (h : at_ ≤ all.length) (hr : (res (all.drop at_)).2.1 = 0 → (res (all.drop at_)).2.2 ≤ (all.drop at_).length) : (rdStep z all at_ flaw fine res).2.2.1 ≤ all.length := by
  unfold rdStep
  split
  · exact h
  · split
    · exact h
    · split
      · rename_i h1
        have := hr h1
        simp at this
        show at_ + _ ≤ _
        omega
      · exact h

theorem WireNumbers_ok (n m : Int) (v : Value) (bs : List UInt8) (w : World) (hnn : -9223372036854775808 ≤ n ∧ n ≤ 9223372036854775807) (hmm : -9223372036854775808 ≤ m ∧ m ≤ 9223372036854775807) (hv : RdB w v bs) (hl : bs.length ≤ maxLen) : Fn Try.prog 3 [.int .i64 n, .int .i64 m, v] w fun r w' => r = .bool true ∧ Keep [] w w' := by
  have hn := hnn.2
  obtain ⟨ad, cap, rfl, hc⟩ := hv.slice
  refine fn_enter Try.func3 rfl rfl ?_
  refine es rfl ?_
  refine ew_seq (es rfl ?_)
  refine ew_cond rfl (fun hb => ?_) (fun hb => ?_)
  · refine sp rfl ?_
    refine el_call rfl rfl rfl rfl rfl rfl (works_ok w) ?_
    rintro _ w1 ⟨rfl, k⟩
    refine ep rfl ?_
    exact ew_ret (ret_1 (.bool true) rfl rfl rfl rfl ⟨rfl, k⟩)
  have hb' : ¬ ((bs.length : Int) > 100) := of_decide_eq_false hb
  refine ew_skip ?_
  refine sp rfl ?_
  refine el_call rfl rfl rfl rfl rfl rfl (new_ok w) ?_
  rintro rv w1 ⟨g, rfl, hg, hW1, k1⟩
  have hgl1 := hW1.lt
  refine ep rfl ?_
  refine sp rfl ?_
  refine el_call rfl rfl rfl rfl rfl rfl (wnumber_ok (some g) [] n hn w1 hW1) ?_
  by_cases hn0 : n < 0
  · have hsg : decide (n ≥ 0) = false := decide_eq_false (by omega)
    intro rv w2 h
    rw [hsg] at h
    obtain ⟨rfl, hW2, k2⟩ := layr_to [] 2 rfl rfl h
    refine ep rfl ?_
    refine ew_seq (es rfl ?_)
    refine ew_cond_t rfl (decide_eq_true hn0) ?_
    refine sp rfl ?_
    refine el_call rfl rfl rfl rfl rfl rfl (num_ok _ w2) ?_
    rintro _ _ ⟨rfl, rfl⟩
    refine pp rfl ?_
    refine el_call rfl rfl rfl rfl rfl rfl (wall_ok (some g) [] w2 hW2) ?_
    rintro u w3 ⟨ho3, k3⟩
    have ho3' : OwnB 5 w3 w2.heap.size u [] := ho3
    obtain ⟨ad2, cap2, rfl, _⟩ := own_slice ho3'
    refine pp rfl ?_
    refine el_call rfl rfl rfl rfl rfl rfl (works_ok w3) ?_
    rintro _ w4 ⟨rfl, k4⟩
    refine ep rfl ?_
    have k02 : Keep [] w w2 := k1.trans k2 (by simp; omega)
    exact ew_ret (ret_1 (.bool true) rfl rfl rfl rfl ⟨rfl, (k02.trans0 k3).trans0 k4⟩)
  · have hsg : decide (n ≥ 0) = true := decide_eq_true (by omega)
    obtain ⟨a, rfl⟩ := Int.eq_ofNat_of_zero_le (show 0 ≤ n by omega)
    have hlen : (numB a).length ≤ 10 := numB_len10 (by omega)
    intro rv w2 h
    rw [hsg, Int.toNat_natCast] at h
    obtain ⟨rfl, hW2, k2⟩ := layr_to (numB a) 0 (by simp [layB, sumL]; omega) (by simp [layE, sumL]; omega) h
    refine ep rfl ?_
    refine ew_seq (es rfl ?_)
    refine ew_cond_f rfl (decide_eq_false hn0) ?_
    refine ew_skip ?_
    refine sp rfl ?_
    refine el_call rfl rfl rfl rfl rfl rfl (wall_ok (some g) (numB a) w2 hW2) ?_
    rintro u w3 ⟨ho3, k3⟩
    have ho3' : OwnB 5 w3 w2.heap.size u (numB a) := ho3
    refine pp rfl ?_
    have k03 : Keep [] w w3 := (k1.trans (k2.trans k3 (by simp)) (by simp; omega))
    refine el_append (v := u) (base := w2.heap.size) (z := .int .u8 0) (size := 1) (bytes := 1) (n := (numB a).length) (m := bs.length) (xs := bytesV (numB a)) (ys := bytesV bs) rfl rfl rfl info_u8 rfl rfl rfl rfl ho3' (hv.keep0 k03) (by simp [bytesV_length]) (bytesV_one _) (by unfold maxLen; omega) (by omega) (by have := k3.size; omega) ?_
    intro v' w4 ho4 hg4 hfr
    have ho4' : OwnB 5 w4 w2.heap.size v' (numB a ++ bs) := by
      show World.ownsRow _ _ _ _ _ _ _
      rw [bytesV_append, List.length_append]
      exact ho4
    have k24 : Keep [] w2 w4 := k3.app ho3' (Nat.le_refl _) hg4
    have k04 : Keep [] w w4 := (k1.trans (k2.trans k24 (by simp)) (by simp; omega))
    obtain ⟨ad4, cap4, rfl, hcap4⟩ := own_slice ho4'
    have hr4 := Rd.of_own ho4'
    refine ep rfl ?_
    refine sp rfl ?_
    refine el_call rfl rfl rfl rfl rfl rfl (read_ok _ (numB a ++ bs) w4 hr4 (by simp; omega)) ?_
    rintro rv w5 ⟨g2, rfl, hg2, hR5, k5⟩
    refine ep rfl ?_
    refine sp rfl ?_
    refine el_call rfl rfl rfl rfl rfl rfl (rnumber_ok g2 _ 0 0 m w5 hR5) ?_
    obtain ⟨⟨x, e, at', f'⟩, hS⟩ : ∃ S, (rdStep 0 (numB a ++ bs) 0 0 (decide (m ≥ 0)) fun l => numR l m) = S := ⟨_, rfl⟩
    intro rv w6 h6
    rw [hS] at h6
    obtain ⟨rfl, hR6, k6⟩ := h6
    have k06 : Keep [] w w6 := (k04.trans0 k5).trans k6 (by have := k04.size; simp; omega)
    have k46 : Keep [] w4 w6 := k5.trans k6 (by simp; omega)
    refine ep rfl ?_
    refine sp rfl ?_
    refine el_build (z := zr) (vs := [.slice ad4 (numB a ++ bs).length cap4, .int .i64 0, .int .i64 0]) rfl rfl rfl rfl rfl rfl ?_
    refine pp rfl ?_
    refine el_call rfl rfl rfl rfl rfl rfl (refrn_ok (.slice ad4 (numB a ++ bs).length cap4) (numB a ++ bs) 0 0 m w6 (hr4.keep0 k46) (by simp; omega) (Nat.zero_le _)) ?_
    intro rv w7 h7
    rw [hS] at h7
    obtain ⟨rfl, k7⟩ := h7
    refine pp rfl ?_
    refine el_alloc (z := zr) #[.slice none 0 0, .int .i64 0, .int .i64 0] rfl rfl rfl rfl ?_
    intro cb w8 e8 e8' k8 hc8
    refine el_store #[.slice ad4 (numB a ++ bs).length cap4, .int .i64 (at' : Int), .int .i64 f'] rfl rfl rfl rfl rfl rfl rfl rfl hc8 rfl rfl ?_
    intro w9 k9 hs9 hc9
    refine ep rfl ?_
    have k69 : Keep [] w6 w9 := (k7.trans0 k8).trans k9 (by have := k7.size; simp; omega)
    have k09 : Keep [] w w9 := k06.trans0 k69
    have hr9 := hr4.keep0 (k46.trans0 k69)
    refine ew_seq ?_
    let S : Value := .string (strOf (numB a))
    let T : Value := .bool true
    let V4 : Value := .slice ad4 (numB a ++ bs).length cap4
    let L : Value := .int .i64 (IntKind.wrap .i64 (((numB a ++ bs).length : Int) - (bs.length : Int)))
    have hL : IntKind.wrap .i64 (((numB a ++ bs).length : Int) - (bs.length : Int)) = ((numB a).length : Int) := by
      rw [List.length_append, wrap_i64 (by omega) (by omega)]
      omega
    have hll : (numB a ++ bs).length = (numB a).length + bs.length := List.length_append
    have hr10 : RdB w9 (.slice ad4 (numB a).length cap4) (numB a) := by
      have := hr9.take (m := (numB a).length) (by omega)
      have e1 : (bytesV (numB a ++ bs)).take (numB a).length = bytesV (numB a) := by simp [bytesV]
      rw [e1] at this
      exact this
    refine ew_draw follows [.known (.int .i64 0), .known (.int .i64 0), .known T, .known T, .known V4, .known V4, .known (.int .i64 ((numB a ++ bs).length : Int)), .known (.slice ad bs.length cap), .known (.int .i64 (bs.length : Int)), .known L, .known (.slice ad4 (numB a).length cap4), .known S,
      .known (.int .i64 (a : Int)), .fact (fun v w => OwnB 5 w 0 v (numB a)), .known S, .known T, .known T, .known T, .known (.int .i64 x), .known (.int .i64 x), .known T, .known T, .known T, .known (.int .i64 e), .known (.int .i64 e), .known (.int .i64 e), .known T, .known T, .known T, .known T, .known T, .known T] []
      (fun b w => True) rfl (stable_of _ (fun f hf v w w' hk hfv => by
        simp at hf
        subst hf
        exact own_keep hfv hk (by simp))) trivial ?_ ?_
    · skip
      refine ⟨pureD rfl (fun _ _ => rfl) (fun _ _ h => h), ?_⟩
      refine ⟨fun b V ρ w hk hbi hd hu hWd hV => el_call rfl rfl rfl rfl rfl rfl (num_ok _ w) (by rintro _ _ ⟨rfl, rfl⟩; exact el_nil ⟨_, rfl, rfl, Keep.refl _ _, trivial⟩), ?_⟩
      refine ⟨pureD rfl (fun _ _ => rfl) (fun _ _ h => h), ?_⟩
      refine ⟨pureD rfl (fun _ _ => rfl) (fun _ _ h => h), ?_⟩
      refine ⟨pureD rfl (fun _ _ => rfl) (fun _ _ h => h), ?_⟩
      refine ⟨pureD rfl (fun _ _ => rfl) (fun _ _ h => h), ?_⟩
      refine ⟨pureD rfl (fun _ _ => rfl) (fun _ _ h => h), ?_⟩
      refine ⟨pureD rfl (fun _ _ => rfl) (fun _ _ h => h), ?_⟩
      refine ⟨pureD rfl (fun _ _ => rfl) (fun _ _ h => h), ?_⟩
      refine ⟨pureD rfl (fun _ _ => rfl) (fun _ _ h => h), ?_⟩
      refine ⟨fun b V ρ w hk hbi hd hu hWd hV => el_slice_to (e := 5) (m := (numB a).length) rfl rfl rfl rfl rfl rfl hL (by omega) (el_nil ⟨_, rfl, rfl, Keep.refl _ _, trivial⟩), ?_⟩
      refine ⟨fun b V ρ w hk hbi hd hu hWd hV => el_str rfl rfl rfl rfl rfl rfl (Rd.keep0 hr10 hk) (el_nil ⟨_, rfl, rfl, Keep.refl _ _, trivial⟩), ?_⟩
      refine ⟨pureD rfl (fun _ _ => rfl) (fun _ _ h => h), ?_⟩
      refine ⟨fun b V ρ w hk hbi hd hu hWd hV => el_call rfl rfl rfl rfl rfl rfl (refnum_nat a (by omega) w) (by rintro u w' ⟨ho, k⟩; exact el_nil ⟨_, rfl, own_lower ho (Nat.zero_le _), k, trivial⟩), ?_⟩
      refine ⟨fun b V ρ w hk hbi hd hu hWd hV => el_str rfl rfl rfl rfl rfl rfl (Rd.of_own (hV 13 (hd 13 rfl))) (el_nil ⟨_, rfl, rfl, Keep.refl _ _, trivial⟩), ?_⟩
      refine ⟨fun b V ρ w hk hbi hd hu hWd hV => el_streq true (by simp) rfl rfl rfl rfl (el_nil ⟨_, rfl, rfl, Keep.refl _ _, trivial⟩), ?_⟩
      refine ⟨pureD rfl (fun _ _ => rfl) (fun _ _ h => h), ?_⟩
      refine ⟨pureD rfl (fun _ _ => rfl) (fun _ _ h => h), ?_⟩
      refine ⟨pureD rfl (fun _ _ => rfl) (fun _ _ h => h), ?_⟩
      refine ⟨pureD rfl (fun _ _ => rfl) (fun _ _ h => h), ?_⟩
      refine ⟨fun b V ρ w hk hbi hd hu hWd hV => el_eqi true (by simp) rfl rfl rfl rfl (el_nil ⟨_, rfl, rfl, Keep.refl _ _, trivial⟩), ?_⟩
      refine ⟨pureD rfl (fun _ _ => rfl) (fun _ _ h => h), ?_⟩
      refine ⟨pureD rfl (fun _ _ => rfl) (fun _ _ h => h), ?_⟩
      refine ⟨pureD rfl (fun _ _ => rfl) (fun _ _ h => h), ?_⟩
      refine ⟨fun b V ρ w hk hbi hd hu hWd hV => el_call rfl rfl rfl rfl rfl rfl (num_ok _ w) (by rintro _ _ ⟨rfl, rfl⟩; exact el_nil ⟨_, rfl, rfl, Keep.refl _ _, trivial⟩), ?_⟩
      refine ⟨pureD rfl (fun _ _ => rfl) (fun _ _ h => h), ?_⟩
      refine ⟨fun b V ρ w hk hbi hd hu hWd hV => el_eqi true (by simp) rfl rfl rfl rfl (el_nil ⟨_, rfl, rfl, Keep.refl _ _, trivial⟩), ?_⟩
      refine ⟨pureD rfl (fun _ _ => rfl) (fun _ _ h => h), ?_⟩
      refine ⟨pureD rfl (fun _ _ => rfl) (fun _ _ h => h), ?_⟩
      refine ⟨fun b V ρ w hk hbi hd hu hWd hV => el_call rfl rfl rfl rfl rfl rfl (works_ok w) (by rintro _ _ ⟨rfl, k⟩; exact el_nil ⟨_, rfl, rfl, k, trivial⟩), ?_⟩
      refine ⟨pureD rfl (fun _ _ => rfl) (fun _ _ h => h), ?_⟩
      refine ⟨pureD rfl (fun _ _ => rfl) (fun _ _ h => h), ?_⟩
      trivial
    · intro b V w10 hall k10 hWd hV
      exact ew_ret (ret_1 T rfl rfl rfl rfl ⟨rfl, k09.trans0 k10⟩)
end Go.Proofs.Ytfbpobhbkadblaa
