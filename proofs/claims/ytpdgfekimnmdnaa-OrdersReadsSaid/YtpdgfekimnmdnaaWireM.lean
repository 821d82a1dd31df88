/- Plain laws of the bytes of numbers: no program here. -/
import Derived.Test.YtpdgfekimnmdnaaShort
set_option linter.unusedVariables false
set_option linter.unusedSimpArgs false
namespace Go.Proofs.Ytpdgfekimnmdnaa

/-- A number's bytes. -/
def numB (n : Nat) : List UInt8 := if n < 128 then [UInt8.ofNat n] else UInt8.ofNat (n % 128 + 128) :: numB (n / 128)
termination_by n
theorem numB_lt {n : Nat} (h : n < 128) : numB n = [UInt8.ofNat n] := by rw [numB, if_pos h]
theorem numB_ge {n : Nat} (h : ¬ n < 128) : numB n = UInt8.ofNat (n % 128 + 128) :: numB (n / 128) := by rw [numB, if_neg h]
theorem numB_ne (n : Nat) : numB n ≠ [] := by
  rw [numB]
  split <;> simp
theorem numB_len : ∀ (k n : Nat), n < 128 ^ (k + 1) → (numB n).length ≤ k + 1 := by
  intro k
  induction k with
  | zero => intro n h; rw [numB_lt (by simpa using h)]; simp
  | succ k ih =>
    intro n h
    by_cases h1 : n < 128
    · rw [numB_lt h1]; simp
    · rw [numB_ge h1]
      have := ih (n / 128) (by rw [Nat.div_lt_iff_lt_mul (by omega)]; rw [Nat.pow_succ] at h; omega)
      simp; omega
theorem numB_len10 {n : Nat} (h : n < 18446744073709551616) : (numB n).length ≤ 10 := numB_len 9 n (by have : (128 : Nat) ^ 10 = 1180591620717411303424 := by decide
                                                                                                       omega)

theorem byte_or (n : Nat) : ibits .or .u8 (IntKind.wrap .u8 (n : Int)) 128 = ((UInt8.ofNat (n % 128 + 128)).toNat : Int) := by
  rw [wrap_u8]
  have key : ∀ m : Fin 256, ibits .or .u8 (m.val : Int) 128 = (((m.val % 128 + 128 : Nat)) : Int) := by decide +kernel
  have h1 : ((n : Int) % 256) = ((n % 256 : Nat) : Int) := by omega
  rw [h1, key ⟨n % 256, Nat.mod_lt _ (by omega)⟩]
  have h2 : n % 256 % 128 = n % 128 := by omega
  simp only [h2, UInt8.toNat_ofNat']
  have : n % 128 + 128 < 256 := by omega
  rw [Nat.mod_eq_of_lt this]
theorem byte_of (n : Nat) : IntKind.wrap .u8 (n : Int) = ((UInt8.ofNat n).toNat : Int) := by
  rw [wrap_u8, UInt8.toNat_ofNat']
  omega
theorem shr7 (n : Nat) : ((n : Int).fdiv (2 ^ min (Int.toNat 7) 64)) = ((n / 128 : Nat) : Int) := by
  have : (2 : Int) ^ min (Int.toNat 7) 64 = 128 := by decide
  rw [this, Int.fdiv_eq_ediv_of_nonneg _ (by omega)]
  omega

/-! ### Taking a number off -/
/-- (error, number, bytes used) of a number whose bytes i and on are l, the ones ahead being worth acc. -/
def scan : Nat → Nat → List UInt8 → Int × Nat × Nat
  | _, _, [] => (120, 0, 0)
  | i, acc, c :: r => if (i = 8 ∧ 128 ≤ c.toNat) ∨ (0 < i ∧ c.toNat = 0) then (121, 0, 0) else if c.toNat < 128 then (0, acc + c.toNat % 128 * 128 ^ i, i + 1) else scan (i + 1) (acc + c.toNat % 128 * 128 ^ i) r
/-- What is told: (number, error, bytes used). -/
def numR (l : List UInt8) (greatest : Int) : Int × Int × Nat :=
  let s := scan 0 0 l
  if s.1 ≠ 0 then (0, s.1, 0) else if greatest < (s.2.1 : Int) then (0, 3, 0) else (s.2.1, 0, s.2.2)

theorem ibits_or_nat (x y : Nat) (hx : x < 9223372036854775808) (hy : y < 9223372036854775808) : ibits .or .i64 (x : Int) (y : Int) = ((x ||| y : Nat) : Int) := by
  have h : x ||| y < 9223372036854775808 := Nat.or_lt_two_pow (n := 63) hx hy
  have e : (BitVec.ofInt 64 (x : Int) ||| BitVec.ofInt 64 (y : Int)).toNat = x ||| y := by
    rw [BitVec.ofInt_natCast, BitVec.ofInt_natCast]
    simp only [BitVec.toNat_or, BitVec.toNat_ofNat]
    rw [Nat.mod_eq_of_lt (by omega), Nat.mod_eq_of_lt (by omega)]
  have e2 : ibits .or .i64 (x : Int) (y : Int) = IntKind.wrap .i64 (((BitVec.ofInt 64 (x : Int) ||| BitVec.ofInt 64 (y : Int)).toNat : Nat) : Int) := rfl
  rw [e2, e]
  exact wrap_i64 (by omega) (by omega)
theorem ibits_and127 (c : UInt8) : ibits .and .u8 (c.toNat : Int) 127 = ((c.toNat % 128 : Nat) : Int) := by
  have key : ∀ m : Fin 256, ibits .and .u8 (m.val : Int) 127 = ((m.val % 128 : Nat) : Int) := by decide +kernel
  exact key ⟨c.toNat, c.toNat_lt⟩
theorem pow_le8 {i : Nat} (h : i ≤ 8) : 128 ^ i ≤ 72057594037927936 := by
  have : 128 ^ i ≤ 128 ^ 8 := Nat.pow_le_pow_right (by omega) h
  have e : (128 : Nat) ^ 8 = 72057594037927936 := by decide
  omega
theorem pow_min {i : Nat} (h : i ≤ 8) : (2 : Int) ^ min ((7 * (i : Int)).toNat) 64 = ((128 ^ i : Nat) : Int) := by
  have e : min ((7 * (i : Int)).toNat) 64 = 7 * i := by omega
  rw [e, Int.natCast_pow, Int.pow_mul]
  rfl
theorem or_step {i acc : Nat} (c : UInt8) (hi : i ≤ 8) (ha : acc < 128 ^ i) :
    ibits .or .i64 (acc : Int) (IntKind.wrap .i64 (((c.toNat % 128 : Nat) : Int) * 2 ^ min ((7 * (i : Int)).toNat) 64)) = ((acc + c.toNat % 128 * 128 ^ i : Nat) : Int) := by
  have hp := pow_le8 hi
  have hm : c.toNat % 128 ≤ 127 := by omega
  have hmul : c.toNat % 128 * 128 ^ i ≤ 127 * 72057594037927936 := Nat.mul_le_mul hm hp
  rw [pow_min hi, ← Int.natCast_mul, wrap_i64 (by omega) (by omega), ibits_or_nat _ _ (by omega) (by omega)]
  have e : (128 : Nat) ^ i = 2 ^ (7 * i) := by rw [Nat.pow_mul]
  have h2 := Nat.two_pow_add_eq_or_of_lt (i := 7 * i) (b := acc) (by rw [← e]; exact ha) (c.toNat % 128)
  rw [← e] at h2
  rw [Nat.or_comm, Nat.mul_comm, ← h2]
  congr 1
  rw [Nat.add_comm, Nat.mul_comm]
theorem acc_step {i acc : Nat} (c : UInt8) (ha : acc < 128 ^ i) : acc + c.toNat % 128 * 128 ^ i < 128 ^ (i + 1) := by
  have hm : c.toNat % 128 + 1 ≤ 128 := by omega
  have := Nat.mul_le_mul_right (128 ^ i) hm
  rw [Nat.add_mul, Nat.one_mul] at this
  rw [Nat.pow_succ, Nat.mul_comm (128 ^ i)]
  omega
theorem scan_used : ∀ (l : List UInt8) (i acc : Nat), acc < 128 ^ i → i ≤ 8 → (scan i acc l).1 = 0 → (scan i acc l).2.1 < 9223372036854775808 ∧ (scan i acc l).2.2 ≤ i + l.length ∧ i < (scan i acc l).2.2 ∧ (scan i acc l).2.2 ≤ 9 := by
  intro l
  induction l with
  | nil => intro i acc _ _ h; simp [scan] at h
  | cons c l ih =>
    intro i acc ha hi h
    unfold scan at h ⊢
    split at h
    · simp at h
    · rename_i hbad
      rw [if_neg hbad]
      have h1 := acc_step c ha
      have h2 : 128 ^ (i + 1) ≤ 9223372036854775808 := by
        have : 128 ^ (i + 1) ≤ 128 ^ 9 := Nat.pow_le_pow_right (by omega) (by omega)
        have e : (128 : Nat) ^ 9 = 9223372036854775808 := by decide
        omega
      by_cases hc : c.toNat < 128
      · rw [if_pos hc] at h ⊢
        refine ⟨by show acc + _ < _; omega, by simp, by simp, by simp; omega⟩
      · rw [if_neg hc] at h ⊢
        have hi' : i + 1 ≤ 8 := by
          have : ¬ (i = 8) := fun e => hbad (.inl ⟨e, by omega⟩)
          omega
        have := ih (i + 1) _ h1 hi' h
        simp only [List.length_cons]
        omega

theorem numR_err {l : List UInt8} {g e : Int} {n k : Nat} (h : scan 0 0 l = (e, n, k)) (he : e ≠ 0) : numR l g = (0, e, 0) := by simp [numR, h, he]
theorem numR_hi {l : List UInt8} {g : Int} {n k : Nat} (h : scan 0 0 l = (0, n, k)) (hg : g < (n : Int)) : numR l g = (0, 3, 0) := by simp [numR, h, hg]
theorem numR_ok {l : List UInt8} {g : Int} {n k : Nat} (h : scan 0 0 l = (0, n, k)) (hg : ¬ g < (n : Int)) : numR l g = ((n : Int), 0, k) := by simp [numR, h, hg]
end Go.Proofs.Ytpdgfekimnmdnaa
