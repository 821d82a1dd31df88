/- The second hand's numbers. -/
import Derived.Test.YtpdgfekimnmdnaaWireJ
set_option linter.unusedVariables false
set_option linter.unusedSimpArgs false
namespace Go.Proofs.Ytpdgfekimnmdnaa
open Go.RowKit
set_option maxRecDepth 20000

theorem byte_add (n : Nat) : IntKind.wrap .u8 (IntKind.wrap .u8 ((n : Int).tmod 128) + 128) = ((UInt8.ofNat (n % 128 + 128)).toNat : Int) := by
  rw [wrap_u8, wrap_u8, Int.tmod_eq_emod_of_nonneg (by omega), UInt8.toNat_ofNat']
  omega
theorem quo128 (n : Nat) (h : n < 9223372036854775808) : IntKind.wrap .i64 ((n : Int).tdiv 128) = ((n / 128 : Nat) : Int) := by
  rw [Int.tdiv_eq_ediv_of_nonneg (by omega), wrap_i64 (by omega) (by omega)]
  omega

theorem refnum_nat (n0 : Nat) (hn0 : n0 < 9223372036854775808) (w : World) : Fn Try.prog 40 [.int .i64 n0] w fun v w' => OwnB 5 w' w.heap.size v (numB n0) ∧ Keep [] w w' := by
  refine fn_enter Try.func40 rfl rfl ?_
  refine es rfl ?_
  refine es rfl ?_
  refine ew_seq (ew_block ?_)
  refine ew_loop (α := Nat × Value × List UInt8) (fun x => [(0, .int .i64 (x.1 : Int)), (3, x.2.1)])
    (fun x w' => x.1 < 9223372036854775808 ∧ numB n0 = x.2.2 ++ numB x.1 ∧ OwnB 5 w' w.heap.size x.2.1 x.2.2 ∧ Keep [] w w') (fun x => x.1)
    (n0, .slice none 0 0, []) ⟨rfl, rfl, trivial⟩ ⟨hn0, rfl, World.ownsRow_nil _ _ _ _, Keep.refl _ _⟩ ?_
  rintro ⟨n, v, done⟩ ρ w1 hd ⟨hn, hnum, hown, hk⟩
  dsimp only at hn hnum hown hk
  have hlen : (numB n0).length ≤ 10 := numB_len10 (by omega)
  have hlen2 : done.length + (numB n).length ≤ 10 := by rw [hnum] at hlen; simpa using hlen
  have hlen3 : 0 < (numB n).length := List.length_pos_iff.2 (numB_ne n)
  refine ew_seq (es rfl ?_)
  refine ew_cond rfl (fun hb => ?_) (fun hb => ?_)
  · have hge : 128 ≤ (n : Int) := of_decide_eq_true hb
    refine ew_skip ?_
    refine ew_block ?_
    refine ew_seq (gp rfl ?_)
    refine el_bslice (z := .int .u8 0) (bytes := 1) (vs := bytesV [UInt8.ofNat (n % 128 + 128)]) rfl rfl rfl info_u8 rfl rfl (congrArg (fun z => some [Value.int .u8 z]) (byte_add n)) ?_
    intro b w2 hb1 hb2 hk2 hblk
    refine el_append (v := v) (base := w.heap.size) (z := .int .u8 0) (size := 1) (bytes := 1) (n := done.length) (m := 1) (xs := bytesV done) (ys := bytesV [UInt8.ofNat (n % 128 + 128)]) rfl rfl rfl info_u8 rfl rfl rfl rfl (own_keep hown hk2 (by simp)) (Rd.of_blk hblk) rfl (bytesV_one _) (by unfold maxLen; omega) (by omega) (by have := hk.size; have := hk2.size; omega) ?_
    · intro v' w3 hown' hg hfr
      refine ep rfl ?_
      refine eg rfl ?_
      refine ⟨hd, (n / 128, v', done ++ [UInt8.ofNat (n % 128 + 128)]), ⟨int_eq (quo128 n hn), rfl, trivial⟩, ⟨by omega, ?_, ?_, ?_⟩, ?_⟩
      · rw [hnum, numB_ge (by omega)]; simp
      · have : bytesV (done ++ [UInt8.ofNat (n % 128 + 128)]) = bytesV done ++ bytesV [UInt8.ofNat (n % 128 + 128)] := bytesV_append _ _
        show World.ownsRow _ _ _ _ _ _ _
        rw [this]
        simpa using hown'
      · exact (hk.trans0 hk2).app (own_keep hown hk2 (by simp)) (Nat.le_refl _) hg
      · omega
  · have hlt : ¬ (128 ≤ (n : Int)) := of_decide_eq_false hb
    refine ew_exit ?_
    refine sp rfl ?_
    refine el_bslice (z := .int .u8 0) (bytes := 1) (vs := bytesV [UInt8.ofNat n]) rfl rfl rfl info_u8 rfl rfl (congrArg (fun z => some [Value.int .u8 z]) (byte_of n)) ?_
    intro b w2 hb1 hb2 hk2 hblk
    refine el_append (v := v) (base := w.heap.size) (z := .int .u8 0) (size := 1) (bytes := 1) (n := done.length) (m := 1) (xs := bytesV done) (ys := bytesV [UInt8.ofNat n]) rfl rfl rfl info_u8 rfl rfl rfl rfl (own_keep hown hk2 (by simp)) (Rd.of_blk hblk) rfl (bytesV_one _) (by unfold maxLen; omega) (by omega) (by have := hk.size; have := hk2.size; omega) ?_
    · intro v' w3 hown' hg hfr
      refine ep rfl ?_
      refine ew_ret (ret_1 v' rfl rfl (by exact hd) rfl ?_)
      refine ⟨?_, ?_⟩
      · rw [hnum, numB_lt (by omega)]
        have : bytesV (done ++ [UInt8.ofNat n]) = bytesV done ++ bytesV [UInt8.ofNat n] := bytesV_append _ _
        show World.ownsRow _ _ _ _ _ _ _
        rw [this]
        simpa using hown'
      · exact (hk.trans0 hk2).app (own_keep hown hk2 (by simp)) (Nat.le_refl _) hg

theorem refnum_ok (n : Int) (h0 : 0 ≤ n) (h1 : n < 9223372036854775808) (w : World) : Fn Try.prog 40 [.int .i64 n] w fun v w' => OwnB 5 w' w.heap.size v (numB n.toNat) ∧ Keep [] w w' := by
  have := refnum_nat n.toNat (by omega) w
  rwa [Int.toNat_of_nonneg h0] at this

/-- Taking off what was laid. -/
theorem scan_num : ∀ (n i acc : Nat) (r : List UInt8), i ≤ 8 → n * 128 ^ i < 9223372036854775808 → (i = 0 ∨ n ≠ 0) → scan i acc (numB n ++ r) = (0, acc + n * 128 ^ i, i + (numB n).length) := by
  intro n
  induction n using Nat.strongRecOn with
  | ind n ih =>
    intro i acc r hi hn h0
    by_cases hlt : n < 128
    · rw [numB_lt hlt]
      have hc : (UInt8.ofNat n).toNat = n := by rw [UInt8.toNat_ofNat']; omega
      show scan i acc (UInt8.ofNat n :: r) = _
      unfold scan
      rw [if_neg (by rw [hc]; omega), if_pos (by rw [hc]; omega), hc]
      have : n % 128 = n := Nat.mod_eq_of_lt hlt
      rw [this]
      rfl
    · rw [numB_ge hlt]
      have hc : (UInt8.ofNat (n % 128 + 128)).toNat = n % 128 + 128 := by rw [UInt8.toNat_ofNat']; omega
      show scan i acc (UInt8.ofNat (n % 128 + 128) :: (numB (n / 128) ++ r)) = _
      unfold scan
      have hi7 : i ≠ 8 := by
        intro e
        subst e
        have e8 : (128 : Nat) ^ 8 = 72057594037927936 := by decide
        rw [e8] at hn
        omega
      rw [if_neg (by rw [hc]; omega), if_neg (by rw [hc]; omega), hc]
      have hp : (128 : Nat) ^ (i + 1) = 128 ^ i * 128 := Nat.pow_succ ..
      have hmul : n / 128 * 128 ^ (i + 1) ≤ n * 128 ^ i := by
        rw [hp, Nat.mul_comm (128 ^ i) 128, ← Nat.mul_assoc]
        exact Nat.mul_le_mul_right _ (Nat.div_mul_le_self n 128)
      rw [ih (n / 128) (by omega) (i + 1) _ r (by omega) (by omega) (.inr (by omega))]
      have e1 : (n % 128 + 128) % 128 = n % 128 := by omega
      rw [e1]
      have e2 : acc + n % 128 * 128 ^ i + n / 128 * 128 ^ (i + 1) = acc + n * 128 ^ i := by
        rw [hp, Nat.mul_comm (128 ^ i) 128, ← Nat.mul_assoc, Nat.add_assoc, ← Nat.add_mul]
        have : n % 128 + n / 128 * 128 = n := by omega
        rw [this]
      rw [e2]
      simp
      omega
theorem scan_numB (n : Nat) (r : List UInt8) (hn : n < 9223372036854775808) : scan 0 0 (numB n ++ r) = (0, n, (numB n).length) := by
  have := scan_num n 0 0 r (by omega) (by omega) (.inl rfl)
  simpa using this
end Go.Proofs.Ytpdgfekimnmdnaa
