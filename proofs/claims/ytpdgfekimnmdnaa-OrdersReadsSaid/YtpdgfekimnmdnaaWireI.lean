/- Signed numbers, and the chapter's first row. -/
import Derived.Test.YtpdgfekimnmdnaaWireH
set_option linter.unusedVariables false
set_option linter.unusedSimpArgs false
namespace Go.Proofs.Ytpdgfekimnmdnaa
open Go.RowKit
set_option maxRecDepth 20000

/-- What a signed number's number is. -/
def zig (n : Int) : Nat := if n < 0 then (-2 * n - 1).toNat else (2 * n).toNat
/-- A number's signed number. -/
def unzig (m : Int) : Int := if m % 2 = 0 then m / 2 else -(m / 2) - 1
def unz (m : Int) : Int := ibits .xor .i64 (m.fdiv (2 ^ min (Int.toNat 1) 64)) (IntKind.wrap .i64 (0 - ibits .and .i64 m 1))

theorem unzig_zig (n : Int) : unzig (zig n : Int) = n := by
  unfold unzig zig
  split <;> split <;> omega

theorem bv_ofInt_nat (n : Nat) (h : n < 18446744073709551616) : (BitVec.ofInt 64 (n : Int)).toNat = n := by
  rw [BitVec.ofInt_natCast, BitVec.toNat_ofNat]
  exact Nat.mod_eq_of_lt h
theorem ibits_xor0 {k : IntKind} {x : Int} (hk : k.bits = 64) (h0 : 0 ≤ x) (h1 : x < 18446744073709551616) : ibits .xor k x 0 = k.wrap x := by
  obtain ⟨n, rfl⟩ := Int.eq_ofNat_of_zero_le h0
  unfold ibits
  have : ∀ b, b = 64 → (BitVec.ofInt b (n : Int) ^^^ BitVec.ofInt b 0).toNat = n := by
    rintro _ rfl
    rw [BitVec.toNat_xor, bv_ofInt_nat n (by omega)]
    simp
  show k.wrap (((BitVec.ofInt k.bits (n : Int) ^^^ BitVec.ofInt k.bits 0).toNat : Nat) : Int) = _
  rw [this _ hk]
theorem ibits_xor1 {k : IntKind} {x y : Int} (hk : k.bits = 64) (h0 : 0 ≤ x) (h1 : x < 18446744073709551616) (hy : y = -1 ∨ y = 18446744073709551615) : ibits .xor k x y = k.wrap (18446744073709551615 - x) := by
  obtain ⟨n, rfl⟩ := Int.eq_ofNat_of_zero_le h0
  unfold ibits
  have hones : BitVec.ofInt 64 y = BitVec.allOnes 64 := by rcases hy with rfl | rfl <;> rfl
  have : ∀ b, b = 64 → (BitVec.ofInt b (n : Int) ^^^ BitVec.ofInt b y).toNat = 18446744073709551615 - n := by
    rintro _ rfl
    rw [hones, BitVec.xor_allOnes, BitVec.toNat_not, bv_ofInt_nat n (by omega)]
  show k.wrap (((BitVec.ofInt k.bits (n : Int) ^^^ BitVec.ofInt k.bits y).toNat : Nat) : Int) = _
  rw [this _ hk]
  congr 1
  omega
theorem ibits_and1 (m : Nat) (h : m < 9223372036854775808) : ibits .and .i64 (m : Int) 1 = ((m % 2 : Nat) : Int) := by
  unfold ibits
  have : (BitVec.ofInt 64 (m : Int) &&& BitVec.ofInt 64 1).toNat = m % 2 := by
    rw [BitVec.toNat_and, bv_ofInt_nat m (by omega)]
    have : (BitVec.ofInt 64 1).toNat = 1 := rfl
    rw [this, Nat.and_one_is_mod]
  show IntKind.wrap .i64 (((BitVec.ofInt 64 (m : Int) &&& BitVec.ofInt 64 1).toNat : Nat) : Int) = _
  rw [this]
  exact wrap_i64 (by omega) (by omega)
theorem unz_eq (m : Int) (h0 : 0 ≤ m) (h1 : m < 9223372036854775808) : unz m = unzig m := by
  obtain ⟨n, rfl⟩ := Int.eq_ofNat_of_zero_le h0
  unfold unz unzig
  rw [ibits_and1 n (by omega)]
  have e1 : ((n : Int).fdiv (2 ^ min (Int.toNat 1) 64)) = ((n / 2 : Nat) : Int) := by
    have : (2 : Int) ^ min (Int.toNat 1) 64 = 2 := by decide
    rw [this, Int.fdiv_eq_ediv_of_nonneg _ (by omega)]
    omega
  rw [e1]
  rcases Nat.mod_two_eq_zero_or_one n with h | h
  · rw [h]
    have : IntKind.wrap .i64 (0 - ((0 : Nat) : Int)) = 0 := rfl
    rw [this, ibits_xor0 rfl (by omega) (by omega), wrap_i64 (by omega) (by omega)]
    split <;> omega
  · rw [h]
    have : IntKind.wrap .i64 (0 - ((1 : Nat) : Int)) = -1 := rfl
    rw [this, ibits_xor1 rfl (by omega) (by omega) (.inl rfl)]
    have e2 : (18446744073709551615 - ((n / 2 : Nat) : Int)) = (-((n / 2 : Nat) : Int) - 1) + 18446744073709551616 := by omega
    rw [e2]
    have e3 : ∀ x : Int, IntKind.wrap .i64 (x + 18446744073709551616) = IntKind.wrap .i64 x := by
      intro x
      unfold IntKind.wrap
      simp [IntKind.bits, IntKind.signed]
    rw [e3, wrap_i64 (by omega) (by omega)]
    split <;> omega
theorem zigU_zig (n : Int) (h0 : -4611686018427387904 ≤ n) (h1 : n < 4611686018427387904) : zigU n = zig n := by
  unfold zigU zig
  have e0 : n * 2 ^ min (Int.toNat 1) 64 = n * 2 := by rfl
  rw [e0, wrap_i64 (by omega) (by omega), wrap_u64, wrap_u64]
  have e1 : (2 : Int) ^ min (Int.toNat 63) 64 = 9223372036854775808 := by decide
  rw [e1, Int.fdiv_eq_ediv_of_nonneg _ (by omega)]
  by_cases hn : n < 0
  · have : n / 9223372036854775808 = -1 := by omega
    rw [this]
    have e2 : (-1 : Int) % 18446744073709551616 = 18446744073709551615 := by decide
    rw [e2, ibits_xor1 rfl (by omega) (by omega) (.inr rfl), wrap_u64, if_pos hn]
    omega
  · have : n / 9223372036854775808 = 0 := by omega
    rw [this]
    have e2 : (0 : Int) % 18446744073709551616 = 0 := by decide
    rw [e2, ibits_xor0 rfl (by omega) (by omega), wrap_u64, if_neg hn]
    omega

theorem num_ok (n : Int) (w : World) : Fn Try.prog 13 [.int .i64 n] w fun r w' => r = .int .i64 n ∧ w = w' := by
  refine fn_enter Try.func13 rfl rfl ?_
  refine es rfl ?_
  refine es rfl ?_
  exact ew_ret (ret_1 _ rfl rfl rfl rfl ⟨rfl, rfl⟩)

end Go.Proofs.Ytpdgfekimnmdnaa
