/- What was laid is taken off again. -/
import Derived.Test.YtfbpobhbkadblaaWireV
import Derived.Test.YtfbpobhbkadblaaWireY
set_option linter.unusedVariables false
set_option linter.unusedSimpArgs false
namespace Go.Proofs.Ytfbpobhbkadblaa
open Go.RowKit
set_option maxRecDepth 20000

theorem rd_num_laid (n : Nat) (hn : n < 9223372036854775808) (g : Int) (hg : (n : Int) ≤ g) (all r : List UInt8) (p : Nat) (h : all.drop p = numB n ++ r) : (rdStep 0 all p 0 true fun l => numR l g) = ((n : Int), 0, p + (numB n).length, 0) := by
  have hs := scan_numB n r hn
  have hq := numR_ok (g := g) hs (by omega)
  rw [rdStep_go, h, hq]
  rfl
theorem rd_bytes_laid (bs : List UInt8) (hn : bs.length < 9223372036854775808) (all r : List UInt8) (p : Nat) (h : all.drop p = numB bs.length ++ bs ++ r) : (rdStep [] all p 0 true fun l => bytesR l (bs.length : Int)) = (bs, 0, p + (numB bs.length ++ bs).length, 0) := by
  have hs := scan_numB bs.length (bs ++ r) hn
  have hq := numR_ok (g := (bs.length : Int)) hs (by omega)
  rw [← List.append_assoc] at hq
  have hB : bytesR (numB bs.length ++ bs ++ r) (bs.length : Int) = (bs, 0, (numB bs.length).length + bs.length) := by
    unfold bytesR
    rw [hq]
    simp
  rw [rdStep_go, h, hB]
  simp
theorem rd_truth_laid (b : Bool) (all r : List UInt8) (p : Nat) (h : all.drop p = (if b then 1 else 0) :: r) : (rdStep false all p 0 true truthR) = (b, 0, p + 1, 0) := by
  rw [rdStep_go, h]
  cases b <;> rfl

theorem same_ok (g : Nat) (all : List UInt8) (p : Nat) (x : AddD) (u : Value) (w : World) (hR : IsR w g all p 0) (hu : RdB w u x.bytes) (hug : x.bytes ≠ [] → ∀ b, u.ownBlock = some b → b ≠ g) (hx : x.err = 0) (hw : 0 ≤ x.what ∧ x.what ≤ 4) (hnn : x.n ≤ 9223372036854775807) (hbl : x.bytes.length ≤ 4000) (r : List UInt8) (h : all.drop p = x.laid ++ r) :
    Fn Try.prog 36 [.pointer (some ⟨g, 0, none⟩), .agg #[.int .i64 x.what, .int .i64 x.n, u]] w fun rv w' => rv = .bool true ∧ IsR w' g all (p + x.laid.length) 0 ∧ Keep [g] w w' := by
  obtain ⟨what, n, bs⟩ := x
  dsimp only at hu hw hnn hbl ⊢
  obtain ⟨ad, cap, rfl, hcap⟩ := hu.slice
  have hgl := hR.lt
  refine fn_enter Try.func36 rfl rfl ?_
  refine sp rfl ?_
  refine el_box #[.int .i64 what, .int .i64 n, .slice ad bs.length cap] rfl rfl rfl rfl ?_
  intro bb w1 e1 e1' k1 hb1
  have hR1 := hR.keep0 k1
  have hu1 := hu.keep0 k1
  refine ep rfl ?_
  refine ew_seq ?_
  refine sp rfl ?_
  refine el_loadb rfl rfl rfl rfl rfl hb1 rfl ?_
  refine ep rfl ?_
  refine ew_block ?_
  refine es rfl ?_
  by_cases h0 : what = 0
  · subst h0
    have hn0 : ¬ n < 0 := by
      intro hn
      simp [AddD.err, hn] at hx
    have hl : (AddD.mk 0 n bs).laid = numB n.toNat := by simp [AddD.laid, hn0]
    rw [hl] at h ⊢
    have hS := rd_num_laid n.toNat (by omega) n (by omega) all r p h
    have hde : decide (n ≥ 0) = true := decide_eq_true (by omega)
    refine ew_cond_t rfl rfl ?_
    refine sp rfl ?_
    refine el_loadb rfl rfl rfl rfl rfl hb1 rfl ?_
    refine el_call rfl rfl rfl rfl rfl rfl (rnumber_ok g all p 0 n w1 hR1) ?_
    intro rv w2 h2
    rw [hde, hS] at h2
    obtain ⟨rfl, hR2, k2⟩ := h2
    dsimp only at hR2
    have hb2 := k2.blk hb1 (by simp; omega)
    refine ep rfl ?_
    refine sp rfl ?_
    refine el_loadb rfl rfl rfl rfl rfl hb2 rfl ?_
    refine el_eqi (a := ((n.toNat : Nat) : Int)) (b := n) (k := .i64) true (by simp; omega) rfl rfl rfl rfl ?_
    refine pp rfl ?_
    refine el_call rfl rfl rfl rfl rfl rfl (num_ok _ w2) ?_
    rintro _ _ ⟨rfl, rfl⟩
    refine ep rfl ?_
    exact ew_ret (ret_1 (.bool true) rfl rfl rfl rfl ⟨rfl, hR2, k1.any.trans k2 (by simp)⟩)
  refine ew_cond_f rfl (by simp [h0]) ?_
  refine es rfl ?_
  by_cases h1 : what = 1
  · subst h1
    have hsg : inSign n = true := by
      cases hq : inSign n with
      | true => rfl
      | false => simp [AddD.err, hq] at hx
    have hs2 := hsg
    simp [inSign] at hs2
    obtain ⟨hs3, hs4⟩ := hs2
    have hz : zig n < 9223372036854775808 := by unfold zig; split <;> omega
    have hl : (AddD.mk 1 n bs).laid = numB (zig n) := by simp [AddD.laid, hsg]
    rw [hl] at h ⊢
    have hS := rd_num_laid (zig n) hz 9223372036854775807 (by omega) all r p h
    refine ew_cond_t rfl rfl ?_
    refine sp rfl ?_
    refine el_call rfl rfl rfl rfl rfl rfl (rsigned_ok g all p 0 w1 hR1) ?_
    intro rv w2 h2
    rw [hS] at h2
    dsimp only at h2
    rw [unz_eq _ (by omega) (by omega), unzig_zig] at h2
    obtain ⟨rfl, hR2, k2⟩ := h2
    have hb2 := k2.blk hb1 (by simp; omega)
    refine ep rfl ?_
    refine sp rfl ?_
    refine el_loadb rfl rfl rfl rfl rfl hb2 rfl ?_
    refine el_eqi (a := n) (b := n) (k := .i64) true (by simp) rfl rfl rfl rfl ?_
    refine pp rfl ?_
    refine el_call rfl rfl rfl rfl rfl rfl (num_ok _ w2) ?_
    rintro _ _ ⟨rfl, rfl⟩
    refine ep rfl ?_
    exact ew_ret (ret_1 (.bool true) rfl rfl rfl rfl ⟨rfl, hR2, k1.any.trans k2 (by simp)⟩)
  refine ew_cond_f rfl (by simp [h1]) ?_
  refine es rfl ?_
  have hug' : bs ≠ [] → ∀ b, (Value.slice ad bs.length cap).ownBlock = some b → b ∉ [g] := fun h b hb => by simpa using hug h b hb
  have hde : decide ((bs.length : Int) ≥ 0) = true := decide_eq_true (by omega)
  by_cases h2 : what = 2
  · subst h2
    have hl : (AddD.mk 2 n bs).laid = numB bs.length ++ bs := by simp [AddD.laid]
    rw [hl] at h ⊢
    have hS := rd_bytes_laid bs (by omega) all r p h
    refine ew_cond_t rfl rfl ?_
    refine sp rfl ?_
    refine el_loadb rfl rfl rfl rfl rfl hb1 rfl ?_
    refine pp rfl ?_
    refine el_call rfl rfl rfl rfl rfl rfl (rbytes_ok g all p 0 (bs.length : Int) w1 hR1) ?_
    intro rv w2 h2
    rw [hde, hS] at h2
    obtain ⟨xv, B, rfl, hB, ho2, hR2, k2⟩ := h2
    dsimp only at ho2 hR2
    have hb2 := k2.blk hb1 (by simp; omega)
    refine ep rfl ?_
    refine sp rfl ?_
    refine el_str rfl rfl rfl rfl rfl rfl (Rd.of_own ho2) ?_
    refine pp rfl ?_
    refine el_loadb rfl rfl rfl rfl rfl hb2 rfl ?_
    refine el_str rfl rfl rfl rfl rfl rfl (hu1.keepx k2 hug') ?_
    refine el_streq (a := bs) (b := bs) true (by simp) rfl rfl rfl rfl ?_
    refine pp rfl ?_
    refine el_call rfl rfl rfl rfl rfl rfl (num_ok _ w2) ?_
    rintro _ _ ⟨rfl, rfl⟩
    refine ep rfl ?_
    exact ew_ret (ret_1 (.bool true) rfl rfl rfl rfl ⟨rfl, hR2, k1.any.trans k2 (by simp)⟩)
  refine ew_cond_f rfl (by simp [h2]) ?_
  refine es rfl ?_
  by_cases h3 : what = 3
  · subst h3
    have hl : (AddD.mk 3 n bs).laid = numB bs.length ++ bs := by simp [AddD.laid]
    rw [hl] at h ⊢
    have hS := rd_bytes_laid bs (by omega) all r p h
    refine ew_cond_t rfl rfl ?_
    refine sp rfl ?_
    refine el_loadb rfl rfl rfl rfl rfl hb1 rfl ?_
    refine pp rfl ?_
    refine el_call rfl rfl rfl rfl rfl rfl (rtext_ok g all p 0 (bs.length : Int) w1 hR1) ?_
    intro rv w2 h2
    rw [hde, hS] at h2
    obtain ⟨rfl, hR2, k2⟩ := h2
    dsimp only at hR2
    have hb2 := k2.blk hb1 (by simp; omega)
    refine ep rfl ?_
    refine sp rfl ?_
    refine el_loadb rfl rfl rfl rfl rfl hb2 rfl ?_
    refine el_str rfl rfl rfl rfl rfl rfl (hu1.keepx k2 hug') ?_
    refine el_streq (a := bs) (b := bs) true (by simp) rfl rfl rfl rfl ?_
    refine pp rfl ?_
    refine el_call rfl rfl rfl rfl rfl rfl (num_ok _ w2) ?_
    rintro _ _ ⟨rfl, rfl⟩
    refine ep rfl ?_
    exact ew_ret (ret_1 (.bool true) rfl rfl rfl rfl ⟨rfl, hR2, k1.any.trans k2 (by simp)⟩)
  refine ew_cond_f rfl (by simp [h3]) ?_
  refine ew_skip ?_
  obtain rfl : what = 4 := by omega
  by_cases hn0 : n = 0
  · skip
    have hl : (AddD.mk 4 n bs).laid = [0] := by simp [AddD.laid, hn0]
    rw [hl] at h ⊢
    have hS := rd_truth_laid false all r p h
    refine sp rfl ?_
    refine el_call rfl rfl rfl rfl rfl rfl (rtruth_ok g all p 0 w1 hR1) ?_
    intro rv w2 h2
    rw [hS] at h2
    obtain ⟨rfl, hR2, k2⟩ := h2
    dsimp only at hR2
    have hb2 := k2.blk hb1 (by simp; omega)
    refine ep rfl ?_
    refine sp rfl ?_
    refine el_loadb rfl rfl rfl rfl rfl hb2 rfl ?_
    refine el_neqi (a := n) (b := 0) (k := .i64) false (by simp [hn0]) rfl rfl rfl rfl ?_
    refine pp rfl ?_
    refine el_call rfl rfl rfl rfl rfl rfl (num_ok _ w2) ?_
    rintro _ _ ⟨rfl, rfl⟩
    refine ep rfl ?_
    exact ew_ret (ret_1 (.bool true) rfl rfl rfl rfl ⟨rfl, hR2, k1.any.trans k2 (by simp)⟩)
  · skip
    have hl : (AddD.mk 4 n bs).laid = [1] := by simp [AddD.laid, hn0]
    rw [hl] at h ⊢
    have hS := rd_truth_laid true all r p h
    refine sp rfl ?_
    refine el_call rfl rfl rfl rfl rfl rfl (rtruth_ok g all p 0 w1 hR1) ?_
    intro rv w2 h2
    rw [hS] at h2
    obtain ⟨rfl, hR2, k2⟩ := h2
    dsimp only at hR2
    have hb2 := k2.blk hb1 (by simp; omega)
    refine ep rfl ?_
    refine sp rfl ?_
    refine el_loadb rfl rfl rfl rfl rfl hb2 rfl ?_
    refine el_neqi (a := n) (b := 0) (k := .i64) true (by simp [hn0]) rfl rfl rfl rfl ?_
    refine pp rfl ?_
    refine el_call rfl rfl rfl rfl rfl rfl (num_ok _ w2) ?_
    rintro _ _ ⟨rfl, rfl⟩
    refine ep rfl ?_
    exact ew_ret (ret_1 (.bool true) rfl rfl rfl rfl ⟨rfl, hR2, k1.any.trans k2 (by simp)⟩)
end Go.Proofs.Ytfbpobhbkadblaa
