/- The wire's reader, second part: 'long', 'truth', 'try', 'taken'. -/
import Derived.Test.YtpdgfekimnmdnaaWireD
set_option linter.unusedVariables false
set_option linter.unusedSimpArgs false
namespace Go.Proofs.Ytpdgfekimnmdnaa
open Go.RowKit
set_option maxRecDepth 20000

def bytesR (rest : List UInt8) (most : Int) : List UInt8 × Int × Nat :=
  if (numR rest most).2.1 ≠ 0 then ([], (numR rest most).2.1, 0)
  else if (rest.length - (numR rest most).2.2 : Nat) < (numR rest most).1.toNat then ([], 120, 0)
  else ((rest.drop (numR rest most).2.2).take (numR rest most).1.toNat, 0, (numR rest most).2.2 + (numR rest most).1.toNat)
def rawR (rest : List UInt8) (n : Nat) : List UInt8 × Int × Nat := if rest.length < n then ([], 120, 0) else (rest.take n, 0, n)
def truthR (rest : List UInt8) : Bool × Int × Nat := match rest with
  | [] => (false, 120, 0)
  | c :: _ => if 1 < c.toNat then (false, 121, 0) else (c.toNat == 1, 0, 1)

theorem numR_nonneg (l : List UInt8) (g : Int) : 0 ≤ (numR l g).1 ∧ ((numR l g).2.1 = 0 → (numR l g).1 < 9223372036854775808 ∧ (numR l g).2.2 ≤ l.length) := by
  obtain ⟨e, n, k, hs⟩ : ∃ e n k, scan 0 0 l = (e, n, k) := ⟨_, _, _, rfl⟩
  by_cases he : e = 0
  · subst he
    have hb := scan_used l 0 0 (by simp) (by omega) (by rw [hs])
    rw [hs] at hb
    dsimp only at hb
    by_cases hg : g < (n : Int)
    · rw [numR_hi hs hg]; simp
    · rw [numR_ok hs hg]; simp; omega
  · rw [numR_err hs he]; simp

def LeftS (lb : Nat) (v : Value) (rest : List UInt8) (at_ : Int) (e : Int) (k : Nat) (w' : World) : Prop :=
  (e ≠ 0 → SomeL w' lb) ∧ (e = 0 → k ≤ rest.length ∧ ∃ v', IsL w' lb v' (rest.drop k) (at_ + k) ∧ ∀ b, v'.ownBlock = some b → v.ownBlock = some b)

/-- What a method of 'left' does that is handed over: Φ tells its answer. -/
def HowOk (fh : FuncId) (av : Value) (Φ : List UInt8 → Nat → Value → Int → Nat → World → Prop) : Prop :=
  ∀ (lb : Nat) (v : Value) (rest : List UInt8) (at_ : Int) (w : World), IsL w lb v rest at_ → (∀ b, v.ownBlock = some b → b ≠ lb) → rest.length ≤ 70368744177664 → (0 ≤ at_ ∧ at_ + rest.length ≤ 70368744177664) →
    Fn Try.prog fh [.pointer (some ⟨lb, 0, none⟩), av] w fun r w' => ∃ x e k, r = .tuple #[x, .int .i64 e] ∧ Φ rest w.heap.size x e k w' ∧ LeftS lb v rest at_ e k w' ∧ Keep [lb] w w'

def ΦN (g : Int) (rest : List UInt8) (B : Nat) (x : Value) (e : Int) (k : Nat) (w : World) : Prop := x = .int .i64 (numR rest g).1 ∧ e = (numR rest g).2.1 ∧ k = (numR rest g).2.2
def ΦB (res : List UInt8 → List UInt8 × Int × Nat) (rest : List UInt8) (B : Nat) (x : Value) (e : Int) (k : Nat) (w : World) : Prop := (∃ b, B ≤ b ∧ OwnB 5 w b x (res rest).1) ∧ e = (res rest).2.1 ∧ k = (res rest).2.2
def ΦT (rest : List UInt8) (B : Nat) (x : Value) (e : Int) (k : Nat) (w : World) : Prop := x = .bool (truthR rest).1 ∧ e = (truthR rest).2.1 ∧ k = (truthR rest).2.2

theorem how_number (g : Int) : HowOk 63 (.int .i64 g) (ΦN g) := fun lb v rest at_ w hL hne hl hat =>
  (lnumber_ok lb v rest at_ g w hL hne hl hat).mono fun r w' ⟨h1, h2⟩ => ⟨_, _, _, h1, ⟨rfl, rfl, rfl⟩, h2.2, h2.1⟩

theorem how_raw (n : Nat) : HowOk 91 (.int .i64 (n : Int)) (ΦB (fun rest => rawR rest n)) := fun lb v rest at_ w hL hne hl hat =>
  (raw_ok lb v rest at_ n w hL hne hl ⟨hat.1, by omega⟩).mono fun r w' h => by
    rcases h with ⟨hlt, rfl, rfl⟩ | ⟨hge, u, v', rfl, ho, hL', hv', hk⟩
    · exact ⟨_, _, 0, rfl, ⟨⟨_, Nat.le_refl _, by simp only [rawR, hlt, if_true]; exact World.ownsRow_nil _ _ _ _⟩, by simp [rawR, hlt], by simp [rawR, hlt]⟩, ⟨fun _ => hL.some, fun h => by cases h⟩, Keep.refl _ _⟩
    · have hnl : ¬ rest.length < n := by omega
      exact ⟨_, _, n, rfl, ⟨⟨_, Nat.le_refl _, by simp only [rawR, hnl, if_false]; exact ho⟩, by simp [rawR, hnl], by simp [rawR, hnl]⟩, ⟨fun h => absurd rfl h, fun _ => ⟨hge, v', hL', hv'⟩⟩, hk⟩

theorem how_long (most : Int) : HowOk 93 (.int .i64 most) (ΦB (fun rest => bytesR rest most)) := fun lb v rest at_ w hL hne hl hat => by
  have hn0 := numR_nonneg rest most
  refine fn_enter Try.func93 rfl rfl ?_
  refine es rfl ?_
  refine sp rfl ?_
  refine el_call rfl rfl rfl rfl rfl rfl (lnumber_ok lb v rest at_ most w hL hne hl hat) ?_
  rintro rv w1 ⟨rfl, hk1, hs1, ho1⟩
  refine ep rfl ?_
  refine ew_seq (es rfl ?_)
  by_cases he : (numR rest most).2.1 = 0
  · obtain ⟨hkl, v', hL1, hv1⟩ := ho1 he
    obtain ⟨hnb, _⟩ := hn0.2 he
    have hnat : (numR rest most).1 = ((numR rest most).1.toNat : Int) := by omega
    refine ew_cond_f rfl (by simp [he]) ?_
    refine ew_skip ?_
    refine spn 2 rfl ?_
    refine el_as (v' := .int .i64 ((numR rest most).1.toNat : Int)) (int_eq hnat) ?_
    refine el_call rfl rfl rfl rfl rfl rfl (raw_ok lb v' (rest.drop (numR rest most).2.2) _ (numR rest most).1.toNat w1 hL1 (fun b hb => hne b (hv1 b hb)) (by simp; omega) ⟨by omega, by omega⟩) ?_
    intro rv w2 h
    rcases h with ⟨hlt, rfl, rfl⟩ | ⟨hge, u, v2, rfl, ho2, hL2, hv2, hk2⟩
    · refine ep rfl ?_
      refine ew_ret (ret_2 (.slice none 0 0) (.int .i64 120) rfl rfl rfl rfl rfl rfl ?_)
      have hlt' : (rest.length - (numR rest most).2.2 : Nat) < (numR rest most).1.toNat := by simpa using hlt
      exact ⟨_, _, 0, rfl, ⟨⟨_, Nat.le_refl _, by simp only [bytesR, he, hlt']; exact World.ownsRow_nil _ _ _ _⟩, by simp [bytesR, he, hlt'], by simp [bytesR, he, hlt']⟩, ⟨fun _ => hL1.some, fun h => by cases h⟩, hk1⟩
    · refine ep rfl ?_
      refine ew_ret (ret_2 u (.int .i64 0) rfl rfl rfl rfl rfl rfl ?_)
      have hge' : ¬ (rest.length - (numR rest most).2.2 : Nat) < (numR rest most).1.toNat := by simp at hge; omega
      refine ⟨_, _, (numR rest most).2.2 + (numR rest most).1.toNat, rfl, ⟨⟨_, hk1.size, by simp only [bytesR, he, hge']; exact ho2⟩, by simp [bytesR, he, hge'], by simp [bytesR, he, hge']⟩, ⟨fun h => absurd rfl h, fun _ => ⟨by omega, v2, ?_, fun b hb => hv1 b (hv2 b hb)⟩⟩, hk1.trans hk2 (fun b hb _ => hb)⟩
      rw [List.drop_drop] at hL2
      have e : at_ + (numR rest most).2.2 + ((numR rest most).1.toNat : Int) = at_ + (((numR rest most).2.2 + (numR rest most).1.toNat : Nat) : Int) := by omega
      rw [e] at hL2
      exact hL2
  · refine ew_cond_t rfl (by simp [he]) ?_
    refine es rfl ?_
    refine ew_ret (ret_2 (.slice none 0 0) (.int .i64 (numR rest most).2.1) rfl rfl rfl rfl rfl rfl ?_)
    exact ⟨_, _, 0, rfl, ⟨⟨_, Nat.le_refl _, by simp only [bytesR]; rw [if_pos he]; exact World.ownsRow_nil _ _ _ _⟩, by simp [bytesR, he], by simp [bytesR, he]⟩, ⟨fun _ => hs1 he, fun h => absurd h he⟩, hk1⟩

theorem how_truth : HowOk 95 (.int .u8 1) ΦT := fun lb v rest at_ w hL hne hl hat => by
  refine fn_enter Try.func95 rfl rfl ?_
  refine es rfl ?_
  refine sp rfl ?_
  refine el_call rfl rfl rfl rfl rfl rfl (raw_ok lb v rest at_ 1 w hL hne hl ⟨hat.1, by omega⟩) ?_
  intro rv w1 h
  rcases h with ⟨hlt, rfl, rfl⟩ | ⟨hge, u, v2, rfl, ho2, hL2, hv2, hk2⟩
  · have hr0 : rest = [] := List.eq_nil_of_length_eq_zero (by omega)
    subst hr0
    refine ep rfl ?_
    refine ew_seq (ew_block ?_)
    refine es rfl ?_
    refine ew_cond_t rfl rfl ?_
    refine es rfl ?_
    refine ew_ret (ret_2 (.bool false) (.int .i64 120) rfl rfl rfl rfl rfl rfl ?_)
    exact ⟨_, _, 0, rfl, ⟨rfl, rfl, rfl⟩, ⟨fun _ => hL.some, fun h => by cases h⟩, Keep.refl _ _⟩
  · obtain ⟨c, r2, rfl⟩ : ∃ c r2, rest = c :: r2 := by
      cases rest with
      | nil => simp at hge
      | cons c r2 => exact ⟨c, r2, rfl⟩
    obtain ⟨a, cap, rfl, hcell⟩ := one_at (c := c) ho2
    refine ep rfl ?_
    refine ew_seq (ew_block ?_)
    refine es rfl ?_
    refine ew_cond_f rfl rfl ?_
    refine sp rfl ?_
    refine el_index (e := 5) (j := 0) (p := 0) rfl rfl rfl rfl rfl rfl (by omega) rfl rfl ?_
    refine el_load rfl rfl rfl rfl rfl hcell ?_
    refine ep rfl ?_
    by_cases hc : 1 < c.toNat
    · refine ew_cond_t rfl (decide_eq_true (by omega)) ?_
      refine es rfl ?_
      refine ew_ret (ret_2 (.bool false) (.int .i64 121) rfl rfl rfl rfl rfl rfl ?_)
      exact ⟨_, _, 0, rfl, ⟨by simp [truthR, hc], by simp [truthR, hc], by simp [truthR, hc]⟩, ⟨fun _ => hL2.some, fun h => by cases h⟩, hk2⟩
    · refine ew_cond_f rfl (decide_eq_false (by omega)) ?_
      refine ew_skip ?_
      refine sp rfl ?_
      refine el_index (e := 5) (j := 0) (p := 0) rfl rfl rfl rfl rfl rfl (by omega) rfl rfl ?_
      refine el_load rfl rfl rfl rfl rfl hcell ?_
      refine ep rfl ?_
      refine ew_ret (ret_2 (.bool ((c.toNat : Int) == 1)) (.int .i64 0) rfl rfl rfl rfl rfl rfl ?_)
      refine ⟨_, _, 1, rfl, ⟨?_, by simp [truthR, hc], by simp [truthR, hc]⟩, ⟨fun h => absurd rfl h, fun _ => ⟨hge, v2, hL2, hv2⟩⟩, hk2⟩
      simp only [truthR, hc, if_false]
      refine bool_eq ?_
      have hle : c.toNat = 0 ∨ c.toNat = 1 := by omega
      rcases hle with h | h <;> simp [h]
end Go.Proofs.Ytpdgfekimnmdnaa
