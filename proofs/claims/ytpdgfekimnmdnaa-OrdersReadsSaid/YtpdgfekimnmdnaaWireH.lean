/- The wire's reader, fifth part: its methods. -/
import Derived.Test.YtpdgfekimnmdnaaWireG
set_option linter.unusedVariables false
set_option linter.unusedSimpArgs false
namespace Go.Proofs.Ytpdgfekimnmdnaa
open Go.RowKit
set_option maxRecDepth 20000

/-- One call at a reader: the answer, the error, the place and the flaw behind it. -/
def rdStep {α : Type} (z : α) (all : List UInt8) (at_ : Nat) (flaw : Int) (fine : Bool) (res : List UInt8 → α × Int × Nat) : α × Int × Nat × Int :=
  if flaw ≠ 0 then (z, flaw, at_, flaw) else if fine = false then (z, 2, at_, 2) else
  if (res (all.drop at_)).2.1 = 0 then ((res (all.drop at_)).1, 0, at_ + (res (all.drop at_)).2.2, 0) else (z, (res (all.drop at_)).2.1, at_, (res (all.drop at_)).2.1)

theorem numR_zero (l : List UInt8) (g : Int) (h : (numR l g).2.1 ≠ 0) : (numR l g).1 = 0 := by
  have := (tale_number g).zero (rest := l) (B := 0) (w := default) ⟨rfl, rfl, rfl⟩ h
  have := this.1
  injection this with _ h2
  exact h2.symm
theorem truthR_zero (l : List UInt8) (h : (truthR l).2.1 ≠ 0) : (truthR l).1 = false := by
  have := tale_truth.zero (rest := l) (B := 0) (w := default) ⟨rfl, rfl, rfl⟩ h
  have := this.1
  injection this with h2
  exact h2.symm
theorem bytesR_zero (most : Int) (l : List UInt8) (h : (bytesR l most).2.1 ≠ 0) : (bytesR l most).1 = [] := by
  unfold bytesR at h ⊢
  split
  · rfl
  · rename_i h1
    rw [if_neg h1] at h
    split
    · rfl
    · rename_i h2
      rw [if_neg h2] at h
      exact absurd rfl h
theorem rawR_zero (n : Nat) (l : List UInt8) (h : (rawR l n).2.1 ≠ 0) : (rawR l n).1 = [] := by
  unfold rawR at h ⊢
  split
  · rfl
  · rename_i h1
    rw [if_neg h1] at h
    exact absurd rfl h

theorem took_plain {α : Type} {g : Nat} {all : List UInt8} {at_ : Nat} {flaw : Int} {fine : Bool} {Φ : List UInt8 → Nat → Value → Int → Nat → World → Prop} {zv : Value} {w w' : World} {r : Value} {z : α} {res : List UInt8 → α × Int × Nat} (G : Nat → World → Value → α → Prop)
    (hz : ∀ B w, G B w zv z) (hΦ : ∀ {rest B x e k w}, Φ rest B x e k w → e = (res rest).2.1 ∧ k = (res rest).2.2 ∧ G B w x (if e = 0 then (res rest).1 else z)) (h : Took g all at_ flaw fine Φ zv w r w') :
    ∃ x B, r = .tuple #[x, .int .i64 (rdStep z all at_ flaw fine res).2.1] ∧ w.heap.size ≤ B ∧ G B w' x (rdStep z all at_ flaw fine res).1 ∧ IsR w' g all (rdStep z all at_ flaw fine res).2.2.1 (rdStep z all at_ flaw fine res).2.2.2 ∧ Keep [g] w w' := by
  rcases h with ⟨h1, rfl, hR, k⟩ | ⟨h1, h2, rfl, hR, k⟩ | ⟨h1, h2, x, e, k, B, rfl, hB, hP, hR1, hR2, hk⟩
  · simp only [rdStep, if_pos h1]
    exact ⟨_, _, rfl, Nat.le_refl _, hz _ _, hR, k⟩
  · simp only [rdStep, h1, h2]
    exact ⟨_, _, rfl, Nat.le_refl _, hz _ _, hR, k⟩
  · obtain ⟨rfl, rfl, hG⟩ := hΦ hP
    by_cases he : (res (all.drop at_)).2.1 = 0
    · rw [if_pos he] at hG
      simp only [rdStep, h1, h2, he]
      rw [he] at hR2
      exact ⟨_, _, rfl, hB, hG, hR2 rfl, hk⟩
    · rw [if_neg he] at hG
      simp only [rdStep, h1, h2, he]
      exact ⟨_, _, rfl, hB, hG, hR1 he, hk⟩

theorem rnumber_ok (g : Nat) (all : List UInt8) (at_ : Nat) (flaw n : Int) (w : World) (hR : IsR w g all at_ flaw) :
    Fn Try.prog 45 [.pointer (some ⟨g, 0, none⟩), .int .i64 n] w fun r w' => r = .tuple #[.int .i64 (rdStep 0 all at_ flaw (decide (n ≥ 0)) fun l => numR l n).1, .int .i64 (rdStep 0 all at_ flaw (decide (n ≥ 0)) fun l => numR l n).2.1] ∧
      IsR w' g all (rdStep 0 all at_ flaw (decide (n ≥ 0)) fun l => numR l n).2.2.1 (rdStep 0 all at_ flaw (decide (n ≥ 0)) fun l => numR l n).2.2.2 ∧ Keep [g] w w' := by
  refine fn_enter Try.func45 rfl rfl ?_
  refine es rfl ?_
  refine sp rfl ?_
  refine el_call rfl rfl rfl rfl rfl rfl (taken_number g all at_ flaw (decide (n ≥ 0)) w hR (fun _ => how_number n) (tale_number n) rfl rfl rfl rfl) ?_
  intro rv w1 h
  obtain ⟨x, B, rfl, hB, rfl, hR1, hk⟩ := took_plain (z := (0 : Int)) (res := fun l => numR l n) (fun _ _ x y => x = .int .i64 y) (fun _ _ => rfl) (fun {rest B x e k w} h => by
    obtain ⟨rfl, rfl, rfl⟩ := h
    refine ⟨rfl, rfl, int_eq ?_⟩
    split
    · rfl
    · rename_i h; exact numR_zero _ _ h) h
  refine ep rfl ?_
  exact ew_ret (ret_2 _ _ rfl rfl rfl rfl rfl rfl ⟨rfl, hR1, hk⟩)

theorem how_rawI (n : Int) (h : decide (n ≥ 0) = true) : HowOk 91 (.int .i64 n) (ΦB fun l => rawR l n.toNat) := by
  have h1 := of_decide_eq_true h
  have h2 := how_raw n.toNat
  rwa [Int.toNat_of_nonneg (by omega)] at h2

theorem rbytes_ok (g : Nat) (all : List UInt8) (at_ : Nat) (flaw n : Int) (w : World) (hR : IsR w g all at_ flaw) :
    Fn Try.prog 73 [.pointer (some ⟨g, 0, none⟩), .int .i64 n] w fun r w' => ∃ x B, r = .tuple #[x, .int .i64 (rdStep [] all at_ flaw (decide (n ≥ 0)) (fun l => bytesR l n)).2.1] ∧ w.heap.size ≤ B ∧ OwnB 5 w' B x (rdStep [] all at_ flaw (decide (n ≥ 0)) (fun l => bytesR l n)).1 ∧
      IsR w' g all (rdStep [] all at_ flaw (decide (n ≥ 0)) (fun l => bytesR l n)).2.2.1 (rdStep [] all at_ flaw (decide (n ≥ 0)) (fun l => bytesR l n)).2.2.2 ∧ Keep [g] w w' := by
  refine fn_enter Try.func73 rfl rfl ?_
  refine es rfl ?_
  refine sp rfl ?_
  refine el_call rfl rfl rfl rfl rfl rfl (taken_bytes (Φ := ΦB (fun l => bytesR l n)) g all at_ flaw (decide (n ≥ 0)) w hR (fun _ => how_long n) (tale_bytes fun l => bytesR_zero n _) rfl rfl rfl rfl) ?_
  intro rv w1 h
  obtain ⟨x, B, rfl, hB, ho, hR1, hk⟩ := took_plain (z := ([] : List UInt8)) (res := (fun l => bytesR l n)) (fun B w x y => ∃ b, B ≤ b ∧ OwnB 5 w b x y) (fun _ _ => ⟨_, Nat.le_refl _, World.ownsRow_nil _ _ _ _⟩) (fun {rest B x e k w} h => by
    obtain ⟨h1, rfl, rfl⟩ := h
    refine ⟨rfl, rfl, ?_⟩
    split
    · exact h1
    · rename_i h
      rw [show ([] : List UInt8) = ((fun l => bytesR l n) rest).1 from (bytesR_zero n _ h).symm]
      exact h1) h
  obtain ⟨b, hb, ho⟩ := ho
  refine ep rfl ?_
  exact ew_ret (ret_2 _ _ rfl rfl rfl rfl rfl rfl ⟨x, b, rfl, Nat.le_trans hB hb, ho, hR1, hk⟩)

theorem rtruth_ok (g : Nat) (all : List UInt8) (at_ : Nat) (flaw : Int) (w : World) (hR : IsR w g all at_ flaw) :
    Fn Try.prog 84 [.pointer (some ⟨g, 0, none⟩)] w fun r w' => r = .tuple #[.bool (rdStep false all at_ flaw true truthR).1, .int .i64 (rdStep false all at_ flaw true truthR).2.1] ∧
      IsR w' g all (rdStep false all at_ flaw true truthR).2.2.1 (rdStep false all at_ flaw true truthR).2.2.2 ∧ Keep [g] w w' := by
  refine fn_enter Try.func84 rfl rfl ?_
  refine es rfl ?_
  refine sp rfl ?_
  refine el_call rfl rfl rfl rfl rfl rfl (taken_truth g all at_ flaw true w hR (fun _ => how_truth) tale_truth rfl rfl rfl rfl) ?_
  intro rv w1 h
  obtain ⟨x, B, rfl, hB, rfl, hR1, hk⟩ := took_plain (z := false) (res := truthR) (fun _ _ x y => x = .bool y) (fun _ _ => rfl) (fun {rest B x e k w} h => by
    obtain ⟨rfl, rfl, rfl⟩ := h
    refine ⟨rfl, rfl, bool_eq ?_⟩
    split
    · rfl
    · rename_i h; exact truthR_zero _ h) h
  refine ep rfl ?_
  exact ew_ret (ret_2 _ _ rfl rfl rfl rfl rfl rfl ⟨rfl, hR1, hk⟩)

theorem rend_ok (g : Nat) (all : List UInt8) (at_ : Nat) (flaw : Int) (w : World) (hR : IsR w g all at_ flaw) :
    Fn Try.prog 47 [.pointer (some ⟨g, 0, none⟩)] w fun r w' => r = .int .i64 (if flaw ≠ 0 then flaw else if at_ < all.length then 122 else 0) ∧ w = w' := by
  obtain ⟨hal, hat, v, hg, hr, htv⟩ := hR
  obtain ⟨ad, cap, rfl, hcv⟩ := hr.slice
  refine fn_enter Try.func47 rfl rfl ?_
  refine es rfl ?_
  refine ew_seq (ew_block ?_)
  refine sp rfl ?_
  refine el_loadb rfl rfl rfl rfl rfl hg rfl ?_
  refine ep rfl ?_
  refine ew_cond_f rfl rfl ?_
  refine sp rfl ?_
  refine el_loadb rfl rfl rfl rfl rfl hg rfl ?_
  refine ep rfl ?_
  by_cases hfl : flaw = 0
  · subst hfl
    refine ew_cond_f rfl rfl ?_
    refine sp rfl ?_
    refine el_loadb rfl rfl rfl rfl rfl hg rfl ?_
    refine ep rfl ?_
    by_cases hle : at_ < all.length
    · refine ew_cond_t rfl (decide_eq_true (by simp; omega)) ?_
      refine es rfl ?_
      exact ew_ret (ret_1 (.int .i64 122) rfl rfl rfl rfl ⟨by simp [hle], rfl⟩)
    · refine ew_cond_f rfl (decide_eq_false (by simp; omega)) ?_
      refine ew_skip ?_
      refine es rfl ?_
      exact ew_ret (ret_1 (.int .i64 0) rfl rfl rfl rfl ⟨by simp [hle], rfl⟩)
  · refine ew_cond_t rfl (by simp [hfl]) ?_
    refine sp rfl ?_
    refine el_loadb rfl rfl rfl rfl rfl hg rfl ?_
    refine ep rfl ?_
    exact ew_ret (ret_1 (.int .i64 flaw) rfl rfl rfl rfl ⟨by simp [hfl], rfl⟩)
end Go.Proofs.Ytpdgfekimnmdnaa
