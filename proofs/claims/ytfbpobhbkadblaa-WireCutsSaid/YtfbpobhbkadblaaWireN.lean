/- The law of signed numbers. -/
import Derived.Test.YtfbpobhbkadblaaWireL
set_option linter.unusedVariables false
set_option linter.unusedSimpArgs false
namespace Go.Proofs.Ytfbpobhbkadblaa
open Go.RowKit
set_option maxRecDepth 20000

theorem rd_signed (n : Int) (h0 : -4611686018427387904 ≤ n) (h1 : n < 4611686018427387904) (r : List UInt8) :
    (rdStep 0 (numB (zig n) ++ r) 0 0 true fun l => numR l 9223372036854775807) = ((zig n : Int), 0, (numB (zig n)).length, 0) := by
  have hz : zig n < 9223372036854775808 := by unfold zig; split <;> omega
  have hs := scan_numB (zig n) r hz
  have hn := numR_ok (g := 9223372036854775807) hs (by omega)
  simp [rdStep, hn]

theorem WireSigned_ok (n : Int) (v : Value) (bs : List UInt8) (w : World) (hv : RdB w v bs) (hl : bs.length ≤ maxLen) : Fn Try.prog 4 [.int .i64 n, v] w fun r w' => r = .bool true ∧ Keep [] w w' := by
  obtain ⟨ad, cap, rfl, hc⟩ := hv.slice
  refine fn_enter Try.func4 rfl rfl ?_
  refine es rfl ?_
  refine ew_seq (es rfl ?_)
  refine ew_cond rfl (fun hb => ?_) (fun hb => ?_)
  · refine sp rfl ?_
    refine el_call rfl rfl rfl rfl rfl rfl (works_ok w) ?_
    rintro _ w1 ⟨rfl, k⟩
    refine ep rfl ?_
    exact ew_ret (ret_1 (.bool true) rfl rfl rfl rfl ⟨rfl, k⟩)
  have hb' : ¬ ((bs.length : Int) > 100) := of_decide_eq_false hb
  refine ew_skip ?_
  refine sp rfl ?_
  refine el_call rfl rfl rfl rfl rfl rfl (new_ok w) ?_
  rintro rv w1 ⟨g, rfl, hg, hW1, k1⟩
  have hgl1 := hW1.lt
  refine ep rfl ?_
  refine sp rfl ?_
  refine el_call rfl rfl rfl rfl rfl rfl (wsigned_ok (some g) [] n w1 hW1) ?_
  by_cases hin : -4611686018427387904 ≤ n ∧ n < 4611686018427387904
  · obtain ⟨hn0, hn1⟩ := hin
    have hzz := zigU_zig n hn0 hn1
    have hz : zig n < 9223372036854775808 := by unfold zig; split <;> omega
    have hlen : (numB (zig n)).length ≤ 10 := numB_len10 (by omega)
    have hsg : inSign n = true := by simp [inSign, hn0, hn1]
    intro rv w2 h
    rw [hsg, hzz] at h
    obtain ⟨rfl, hW2, k2⟩ := layr_to (numB (zig n)) 0 (by simp [layB, sumL]; omega) (by simp [layE, sumL]; omega) h
    refine ep rfl ?_
    refine ew_seq (sp rfl ?_)
    refine el_call rfl rfl rfl rfl rfl rfl (insign_ok n w2) ?_
    rintro _ _ ⟨rfl, rfl⟩
    rw [hsg]
    refine ep rfl ?_
    refine ew_cond_f rfl rfl ?_
    refine ew_skip ?_
    refine sp rfl ?_
    refine el_call rfl rfl rfl rfl rfl rfl (wall_ok (some g) (numB (zig n)) w2 hW2) ?_
    rintro u w3 ⟨ho3, k3⟩
    have ho3' : OwnB 5 w3 w2.heap.size u (numB (zig n)) := ho3
    refine pp rfl ?_
    have k03 : Keep [] w w3 := (k1.trans (k2.trans k3 (by simp)) (by simp; omega))
    refine el_append (v := u) (base := w2.heap.size) (z := .int .u8 0) (size := 1) (bytes := 1) (n := (numB (zig n)).length) (m := bs.length) (xs := bytesV (numB (zig n))) (ys := bytesV bs) rfl rfl rfl info_u8 rfl rfl rfl rfl ho3' (hv.keep0 k03) (by simp [bytesV_length]) (bytesV_one _) (by unfold maxLen; omega) (by omega) (by have := k3.size; omega) ?_
    · intro v' w4 ho4 hg4 hfr
      have ho4' : OwnB 5 w4 w2.heap.size v' (numB (zig n) ++ bs) := by
        show World.ownsRow _ _ _ _ _ _ _
        rw [bytesV_append, List.length_append]
        exact ho4
      have k24 : Keep [] w2 w4 := k3.app ho3' (Nat.le_refl _) hg4
      have k04 : Keep [] w w4 := (k1.trans (k2.trans k24 (by simp)) (by simp; omega))
      have hW4 : IsW w4 g (numB (zig n)) := IsW.keep0 hW2 k24
      refine pp rfl ?_
      refine el_call rfl rfl rfl rfl rfl rfl (read_ok v' (numB (zig n) ++ bs) w4 (Rd.of_own ho4') (by simp; omega)) ?_
      rintro rv w5 ⟨g2, rfl, hg2, hR5, k5⟩
      refine pp rfl ?_
      refine el_call rfl rfl rfl rfl rfl rfl (rsigned_ok g2 _ 0 0 w5 hR5) ?_
      intro rv w6 h
      rw [rd_signed n hn0 hn1 bs] at h
      dsimp only at h
      rw [unz_eq _ (by omega) (by omega), unzig_zig] at h
      obtain ⟨rfl, hR6, k6⟩ := h
      refine ep rfl ?_
      have k06 : Keep [] w w6 := (k04.trans0 k5).trans k6 (by have := k04.size; simp; omega)
      have hW6 : IsW w6 g (numB (zig n)) := (IsW.keep0 hW4 k5).keep k6 (by have := k24.size; have := hW2.lt; simp; omega) (NoE.one hR5.blk (by decide))
      refine ew_seq ?_
      let S : Value := .string (strOf (numB (zig n)))
      let T : Value := .bool true
      refine ew_draw follows [.known (.int .i64 0), .known (.int .i64 0), .known (.int .i64 0), .known (.int .i64 0), .known (.int .i64 0), .known T, .known T, .known (.pointer (some ⟨g, 0, none⟩)),
        .fact (fun v w => OwnB 5 w 0 v (numB (zig n))), .known S, .known (.int .i64 n), .fact (fun v w => OwnB 5 w 0 v (numB (zig n))), .known S, .known T, .known T, .known T, .known (.int .i64 n), .known (.int .i64 n), .known T, .known T, .known T, .known T, .known T, .known T] []
        (fun b w => True) rfl (stable_of _ (fun f hf v w w' hk hfv => by
          simp at hf
          subst hf
          exact own_keep hfv hk (by simp))) trivial ?_ ?_
      · skip
        refine ⟨pureD rfl (fun _ _ => rfl) (fun _ _ h => h), ?_⟩
        refine ⟨fun b V ρ w hk hbi hd hu hWd hV => el_call rfl rfl rfl rfl rfl rfl (num_ok _ w) (by rintro _ _ ⟨rfl, rfl⟩; exact el_nil ⟨_, rfl, rfl, Keep.refl _ _, trivial⟩), ?_⟩
        refine ⟨pureD rfl (fun _ _ => rfl) (fun _ _ h => h), ?_⟩
        refine ⟨fun b V ρ w hk hbi hd hu hWd hV => el_call rfl rfl rfl rfl rfl rfl (num_ok _ w) (by rintro _ _ ⟨rfl, rfl⟩; exact el_nil ⟨_, rfl, rfl, Keep.refl _ _, trivial⟩), ?_⟩
        refine ⟨pureD rfl (fun _ _ => rfl) (fun _ _ h => h), ?_⟩
        refine ⟨pureD rfl (fun _ _ => rfl) (fun _ _ h => h), ?_⟩
        refine ⟨pureD rfl (fun _ _ => rfl) (fun _ _ h => h), ?_⟩
        refine ⟨pureD rfl (fun _ _ => rfl) (fun _ _ h => h), ?_⟩
        refine ⟨fun b V ρ w hk hbi hd hu hWd hV => el_call rfl rfl rfl rfl rfl rfl (wall_ok (some g) (numB (zig n)) w (IsW.keep0 hW6 hk)) (by rintro u w' ⟨ho, k⟩; exact el_nil ⟨_, rfl, own_lower ho (Nat.zero_le _), k, trivial⟩), ?_⟩
        refine ⟨fun b V ρ w hk hbi hd hu hWd hV => el_str rfl rfl rfl rfl rfl rfl (Rd.of_own (hV 8 (hd 8 rfl))) (el_nil ⟨_, rfl, rfl, Keep.refl _ _, trivial⟩), ?_⟩
        refine ⟨pureD rfl (fun _ _ => rfl) (fun _ _ h => h), ?_⟩
        refine ⟨fun b V ρ w hk hbi hd hu hWd hV => el_call rfl rfl rfl rfl rfl rfl (refsigned_ok n hn0 hn1 w) (by rintro u w' ⟨ho, k⟩; exact el_nil ⟨_, rfl, own_lower ho (Nat.zero_le _), k, trivial⟩), ?_⟩
        refine ⟨fun b V ρ w hk hbi hd hu hWd hV => el_str rfl rfl rfl rfl rfl rfl (Rd.of_own (hV 11 (hd 11 rfl))) (el_nil ⟨_, rfl, rfl, Keep.refl _ _, trivial⟩), ?_⟩
        refine ⟨fun b V ρ w hk hbi hd hu hWd hV => el_streq true (by simp) rfl rfl rfl rfl (el_nil ⟨_, rfl, rfl, Keep.refl _ _, trivial⟩), ?_⟩
        refine ⟨pureD rfl (fun _ _ => rfl) (fun _ _ h => h), ?_⟩
        refine ⟨pureD rfl (fun _ _ => rfl) (fun _ _ h => h), ?_⟩
        refine ⟨pureD rfl (fun _ _ => rfl) (fun _ _ h => h), ?_⟩
        refine ⟨pureD rfl (fun _ _ => rfl) (fun _ _ h => h), ?_⟩
        refine ⟨fun b V ρ w hk hbi hd hu hWd hV => el_eqi true (by simp) rfl rfl rfl rfl (el_nil ⟨_, rfl, rfl, Keep.refl _ _, trivial⟩), ?_⟩
        refine ⟨pureD rfl (fun _ _ => rfl) (fun _ _ h => h), ?_⟩
        refine ⟨pureD rfl (fun _ _ => rfl) (fun _ _ h => h), ?_⟩
        refine ⟨fun b V ρ w hk hbi hd hu hWd hV => el_call rfl rfl rfl rfl rfl rfl (works_ok w) (by rintro _ _ ⟨rfl, k⟩; exact el_nil ⟨_, rfl, rfl, k, trivial⟩), ?_⟩
        refine ⟨pureD rfl (fun _ _ => rfl) (fun _ _ h => h), ?_⟩
        refine ⟨pureD rfl (fun _ _ => rfl) (fun _ _ h => h), ?_⟩
        trivial
      · intro b V w7 hall k7 hWd hV
        exact ew_ret (ret_1 T rfl rfl rfl rfl ⟨rfl, k06.trans0 k7⟩)
  · have hsg : inSign n = false := by
      simp [inSign]
      omega
    intro rv w2 h
    rw [hsg] at h
    obtain ⟨rfl, hW2, k2⟩ := layr_to [] 2 rfl rfl h
    refine ep rfl ?_
    refine ew_seq (sp rfl ?_)
    refine el_call rfl rfl rfl rfl rfl rfl (insign_ok n w2) ?_
    rintro _ _ ⟨rfl, rfl⟩
    rw [hsg]
    refine ep rfl ?_
    refine ew_cond_t rfl rfl ?_
    refine sp rfl ?_
    refine el_call rfl rfl rfl rfl rfl rfl (num_ok _ w2) ?_
    rintro _ _ ⟨rfl, rfl⟩
    refine pp rfl ?_
    refine el_call rfl rfl rfl rfl rfl rfl (wall_ok (some g) [] w2 hW2) ?_
    rintro u w3 ⟨ho3, k3⟩
    have ho3' : OwnB 5 w3 w2.heap.size u [] := ho3
    obtain ⟨ad2, cap2, rfl, _⟩ := own_slice ho3'
    refine pp rfl ?_
    refine el_call rfl rfl rfl rfl rfl rfl (works_ok w3) ?_
    rintro _ w4 ⟨rfl, k4⟩
    refine ep rfl ?_
    have k02 : Keep [] w w2 := k1.trans k2 (by simp; omega)
    exact ew_ret (ret_1 (.bool true) rfl rfl rfl rfl ⟨rfl, (k02.trans0 k3).trans0 k4⟩)
end Go.Proofs.Ytfbpobhbkadblaa
