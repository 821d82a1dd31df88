/- What is taken off is what would be laid: plain laws. -/
import Derived.Test.YtpdgfekimnmdnaaSame
set_option linter.unusedVariables false
set_option linter.unusedSimpArgs false
namespace Go.Proofs.Ytpdgfekimnmdnaa
open Go.RowKit

theorem scan_back : ∀ (l : List UInt8) (i acc N k : Nat), i ≤ 8 → scan i acc l = (0, N, k) → ∃ m, N = acc + m * 128 ^ i ∧ l.take (k - i) = numB m ∧ i < k ∧ (i = 0 ∨ m ≠ 0) := by
  intro l
  induction l with
  | nil => intro i acc N k _ h; simp [scan] at h
  | cons c r ih =>
    intro i acc N k hi h
    unfold scan at h
    by_cases hbad : (i = 8 ∧ 128 ≤ c.toNat) ∨ (0 < i ∧ c.toNat = 0)
    · rw [if_pos hbad] at h
      simp at h
    · rw [if_neg hbad] at h
      by_cases hc : c.toNat < 128
      · rw [if_pos hc] at h
        simp only [Prod.mk.injEq, true_and] at h
        obtain ⟨h1, h2⟩ := h
        have hm : c.toNat % 128 = c.toNat := Nat.mod_eq_of_lt hc
        refine ⟨c.toNat, by rw [← h1, hm], ?_, by omega, by omega⟩
        have hk : k - i = 1 := by omega
        rw [hk, numB_lt hc]
        simp
      · rw [if_neg hc] at h
        obtain ⟨m, h1, h2, h3, h4⟩ := ih (i + 1) _ N k (by omega) h
        have hm : m ≠ 0 := by omega
        refine ⟨c.toNat % 128 + 128 * m, ?_, ?_, by omega, .inr (by omega)⟩
        · have hp : (128 : Nat) ^ (i + 1) = 128 ^ i * 128 := Nat.pow_succ ..
          rw [h1, hp, Nat.add_mul, Nat.add_assoc]
          congr 2
          rw [Nat.mul_comm (128 ^ i) 128, ← Nat.mul_assoc, Nat.mul_comm m 128]
        · have hk : k - i = (k - (i + 1)) + 1 := by omega
          rw [hk, List.take_succ_cons, h2, numB_ge (n := c.toNat % 128 + 128 * m) (by omega)]
          have e1 : (c.toNat % 128 + 128 * m) % 128 = c.toNat % 128 := by omega
          have e2 : (c.toNat % 128 + 128 * m) / 128 = m := by omega
          rw [e1, e2]
          congr 1
          have := c.toNat_lt
          have e3 : c.toNat % 128 + 128 = c.toNat := by omega
          rw [e3]
          exact (UInt8.ofNat_toNat (x := c)).symm
theorem scan_back0 (l : List UInt8) (N k : Nat) (h : scan 0 0 l = (0, N, k)) : l.take k = numB N := by
  obtain ⟨m, h1, h2, _⟩ := scan_back l 0 0 N k (by omega) h
  simp at h1 h2
  rw [h1]
  exact h2
theorem numR_back {l : List UInt8} {g : Int} (h : (numR l g).2.1 = 0) : ∃ N : Nat, (numR l g).1 = (N : Int) ∧ N < 9223372036854775808 ∧ (numR l g).2.2 ≤ l.length ∧ l.take (numR l g).2.2 = numB N := by
  obtain ⟨e, N, k, hs⟩ : ∃ e N k, scan 0 0 l = (e, N, k) := ⟨_, _, _, rfl⟩
  by_cases he : e = 0
  · subst he
    by_cases hg : g < (N : Int)
    · rw [numR_hi hs hg] at h
      simp at h
    · rw [numR_ok hs hg]
      have hu := scan_used l 0 0 (by simp) (by omega) (by rw [hs])
      rw [hs] at hu
      simp at hu
      exact ⟨N, rfl, hu.1, hu.2.1, scan_back0 l N k hs⟩
  · rw [numR_err hs he] at h
    exact absurd h he
theorem rd_fail {α : Type} {z : α} {all : List UInt8} {p : Nat} {flaw : Int} {fine : Bool} {res : List UInt8 → α × Int × Nat} (h : (rdStep z all p flaw fine res).2.1 ≠ 0) : (rdStep z all p flaw fine res).2.2.1 = p := by
  unfold rdStep at h ⊢
  split
  · rfl
  · split
    · rfl
    · split
      · rename_i h1 h2 h3
        rw [if_neg h1, if_neg h2, if_pos h3] at h
        exact absurd rfl h
      · rfl
theorem take_on (all : List UInt8) (p k : Nat) (L : List UInt8) (h : (all.drop p).take k = L) : all.take p ++ L = all.take (p + k) := by
  rw [List.take_add, h]
theorem back_num {all : List UInt8} {p : Nat} {flaw g : Int} {fine : Bool} (hp : p ≤ all.length) (h : (rdStep 0 all p flaw fine fun l => numR l g).2.1 = 0) :
    ∃ (N a : Nat), (rdStep 0 all p flaw fine fun l => numR l g) = ((N : Int), 0, a, 0) ∧ N < 9223372036854775808 ∧ a ≤ all.length ∧ all.take p ++ numB N = all.take a := by
  obtain ⟨rfl, rfl, h3, h4⟩ := rd_ok h
  obtain ⟨N, h5, h6, h7, h8⟩ := numR_back h3
  rw [h4]
  refine ⟨N, p + (numR (all.drop p) g).2.2, by rw [h5], h6, ?_, take_on _ _ _ _ h8⟩
  rw [List.length_drop] at h7
  omega
theorem back_bytes {all : List UInt8} {p : Nat} {flaw g : Int} {fine : Bool} (hp : p ≤ all.length) (h : (rdStep [] all p flaw fine fun l => bytesR l g).2.1 = 0) :
    ∃ (bs : List UInt8) (a : Nat), (rdStep [] all p flaw fine fun l => bytesR l g) = (bs, 0, a, 0) ∧ a ≤ all.length ∧ all.take p ++ (numB bs.length ++ bs) = all.take a := by
  obtain ⟨rfl, rfl, h3, h4⟩ := rd_ok h
  obtain ⟨l, hl⟩ : ∃ l, all.drop p = l := ⟨_, rfl⟩
  have hll : l.length = all.length - p := by rw [← hl, List.length_drop]
  rw [hl] at h3 h4
  rw [h4]
  unfold bytesR at h3 ⊢
  by_cases hn : (numR l g).2.1 ≠ 0
  · rw [if_pos hn] at h3
    exact absurd h3 hn
  · rw [if_neg hn] at h3 ⊢
    by_cases hs : (l.length - (numR l g).2.2 : Nat) < (numR l g).1.toNat
    · rw [if_pos hs] at h3
      simp at h3
    · rw [if_neg hs]
      obtain ⟨N, h5, h6, h7, h8⟩ := numR_back (Decidable.not_not.1 hn)
      have hN : (numR l g).1.toNat = N := by rw [h5]; rfl
      rw [hN] at hs ⊢
      refine ⟨_, _, rfl, by dsimp only; omega, ?_⟩
      have hlen : ((l.drop (numR l g).2.2).take N).length = N := by simp; omega
      rw [hlen]
      refine take_on _ _ _ _ ?_
      rw [hl, List.take_add, h8]
theorem back_raw {all : List UInt8} {p n : Nat} {flaw : Int} {fine : Bool} (hp : p ≤ all.length) (h : (rdStep [] all p flaw fine fun l => rawR l n).2.1 = 0) :
    ∃ (bs : List UInt8) (a : Nat), (rdStep [] all p flaw fine fun l => rawR l n) = (bs, 0, a, 0) ∧ a ≤ all.length ∧ all.take p ++ bs = all.take a := by
  obtain ⟨rfl, rfl, h3, h4⟩ := rd_ok h
  obtain ⟨l, hl⟩ : ∃ l, all.drop p = l := ⟨_, rfl⟩
  have hll : l.length = all.length - p := by rw [← hl, List.length_drop]
  rw [hl] at h3 h4
  rw [h4]
  unfold rawR at h3 ⊢
  by_cases hs : l.length < n
  · rw [if_pos hs] at h3
    simp at h3
  · rw [if_neg hs]
    refine ⟨_, _, rfl, by dsimp only; omega, ?_⟩
    refine take_on _ _ _ _ ?_
    rw [hl]
theorem back_truth {all : List UInt8} {p : Nat} {flaw : Int} {fine : Bool} (hp : p ≤ all.length) (h : (rdStep false all p flaw fine truthR).2.1 = 0) :
    ∃ (b : Bool) (a : Nat), (rdStep false all p flaw fine truthR) = (b, 0, a, 0) ∧ a ≤ all.length ∧ all.take p ++ [if b then 1 else 0] = all.take a := by
  obtain ⟨rfl, rfl, h3, h4⟩ := rd_ok h
  obtain ⟨l, hl⟩ : ∃ l, all.drop p = l := ⟨_, rfl⟩
  have hll : l.length = all.length - p := by rw [← hl, List.length_drop]
  rw [hl] at h3 h4
  rw [h4]
  cases l with
  | nil => simp [truthR] at h3
  | cons c r =>
    by_cases hc : 1 < c.toNat
    · simp [truthR, hc] at h3
    · simp only [truthR, hc, if_false]
      simp at hll
      refine ⟨_, _, rfl, by omega, ?_⟩
      refine take_on _ _ _ _ ?_
      rw [hl]
      have h01 : c = 0 ∨ c = 1 := by
        rcases (show c.toNat = 0 ∨ c.toNat = 1 by omega) with h | h
        · exact .inl (UInt8.toNat_inj.1 h)
        · exact .inr (UInt8.toNat_inj.1 h)
      rcases h01 with rfl | rfl <;> rfl
theorem zig_unzig (N : Nat) : zig (unzig (N : Int)) = N := by
  unfold zig unzig
  split <;> split <;> omega
theorem inSign_unzig (N : Nat) (h : N < 9223372036854775808) : inSign (unzig (N : Int)) = true := by
  unfold inSign unzig
  simp
  split <;> omega
end Go.Proofs.Ytpdgfekimnmdnaa
