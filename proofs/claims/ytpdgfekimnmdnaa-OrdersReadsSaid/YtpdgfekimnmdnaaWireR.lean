/- The second hand's reader: bytes. -/
import Derived.Test.YtpdgfekimnmdnaaWireQ
set_option linter.unusedVariables false
set_option linter.unusedSimpArgs false
namespace Go.Proofs.Ytpdgfekimnmdnaa
open Go.RowKit
set_option maxRecDepth 20000

theorem rd_ok {α : Type} {z : α} {all : List UInt8} {at_ : Nat} {flaw : Int} {fine : Bool} {res : List UInt8 → α × Int × Nat} (h : (rdStep z all at_ flaw fine res).2.1 = 0) :
    flaw = 0 ∧ fine = true ∧ (res (all.drop at_)).2.1 = 0 ∧ rdStep z all at_ flaw fine res = ((res (all.drop at_)).1, 0, at_ + (res (all.drop at_)).2.2, 0) := by
  unfold rdStep at h ⊢
  by_cases h1 : flaw = 0
  · by_cases h2 : fine = false
    · simp [h1, h2] at h
    · by_cases h3 : (res (all.drop at_)).2.1 = 0
      · simp [h1, h2, h3]
      · simp [h1, h2, h3] at h
  · simp [h1] at h
theorem rdStep_go {α : Type} (z : α) (all : List UInt8) (at_ : Nat) (res : List UInt8 → α × Int × Nat) : rdStep z all at_ 0 true res = if (res (all.drop at_)).2.1 = 0 then ((res (all.drop at_)).1, 0, at_ + (res (all.drop at_)).2.2, 0) else (z, (res (all.drop at_)).2.1, at_, (res (all.drop at_)).2.1) := by
  unfold rdStep
  rw [if_neg (by simp), if_neg (by simp)]
theorem rd_bytes_err {all : List UInt8} {at_ : Nat} {flaw : Int} {fine : Bool} {g : Int} (h : (rdStep (0 : Int) all at_ flaw fine fun l => numR l g).2.1 ≠ 0) :
    (rdStep [] all at_ flaw fine fun l => bytesR l g) = ([], (rdStep (0 : Int) all at_ flaw fine fun l => numR l g).2.1, (rdStep (0 : Int) all at_ flaw fine fun l => numR l g).2.2.1, (rdStep (0 : Int) all at_ flaw fine fun l => numR l g).2.2.2) := by
  unfold rdStep at h ⊢
  by_cases h1 : flaw = 0
  · by_cases h2 : fine = false
    · simp [h1, h2]
    · by_cases h3 : (numR (all.drop at_) g).2.1 = 0
      · simp [h1, h2, h3] at h
      · simp [h1, h2, h3, bytesR]
  · simp [h1]

theorem refrb_ok (v : Value) (all : List UInt8) (at_ : Nat) (flaw g : Int) (w : World) (hv : RdB w v all) (hal : all.length ≤ 70368744177664) (hat : at_ ≤ all.length) :
    Fn Try.prog 49 [rdr v at_ flaw, .int .i64 g] w fun r w' => ∃ u,
      r = Rtn v u (rdStep [] all at_ flaw (decide (g ≥ 0)) fun l => bytesR l g).2.1 (rdStep [] all at_ flaw (decide (g ≥ 0)) fun l => bytesR l g).2.2.1 (rdStep [] all at_ flaw (decide (g ≥ 0)) fun l => bytesR l g).2.2.2 ∧ RdB w' u (rdStep [] all at_ flaw (decide (g ≥ 0)) fun l => bytesR l g).1 ∧ Keep [] w w' ∧ ∀ b, u.ownBlock = some b → v.ownBlock = some b := by
  obtain ⟨ad, cap, rfl, hcap⟩ := hv.slice
  refine fn_enter Try.func49 rfl rfl ?_
  refine sp rfl ?_
  refine el_box #[.slice ad all.length cap, .int .i64 (at_ : Int), .int .i64 flaw] rfl rfl rfl rfl ?_
  intro bb w1 e1 e1' k1 hb1
  refine el_alloc (z := zr) #[.slice none 0 0, .int .i64 0, .int .i64 0] rfl rfl rfl rfl ?_
  intro cb w2 e2 e2' k2 hc2
  refine ep rfl ?_
  have hb2 := k2.blk hb1 (by simp)
  have k02 : Keep [] w w2 := k1.trans0 k2
  refine sp rfl ?_
  refine el_loada (vs := [.slice ad all.length cap, .int .i64 (at_ : Int), .int .i64 flaw]) rfl rfl rfl rfl rfl rfl hb2 rfl ?_
  refine pp rfl ?_
  refine el_call rfl rfl rfl rfl rfl rfl (refrn_ok (.slice ad all.length cap) all at_ flaw g w2 (hv.keep0 k02) hal hat) ?_
  have hok := @rd_ok Int 0 all at_ flaw (decide (g ≥ 0)) (fun l => numR l g)
  have herr := @rd_bytes_err all at_ flaw (decide (g ≥ 0)) g
  obtain ⟨⟨n, e, a', f'⟩, hN⟩ : ∃ N, (rdStep 0 all at_ flaw (decide (g ≥ 0)) fun l => numR l g) = N := ⟨_, rfl⟩
  intro rv w3 h3
  rw [hN] at h3 hok herr
  obtain ⟨rfl, k3⟩ := h3
  dsimp only at hok herr
  refine pp rfl ?_
  refine el_alloc (z := zr) #[.slice none 0 0, .int .i64 0, .int .i64 0] rfl rfl rfl rfl ?_
  intro ob w4 e4 e4' k4 ho4
  refine el_store #[.slice ad all.length cap, .int .i64 (a' : Int), .int .i64 f'] rfl rfl rfl rfl rfl rfl rfl rfl ho4 rfl rfl ?_
  intro w5 k5 hs5 ho5
  have hs3 := k3.size
  have k25 : Keep [] w2 w5 := (k3.trans0 k4).trans k5 (by simp; omega)
  have k05 : Keep [] w w5 := k02.trans0 k25
  have hb5 := k25.blk hb2 (by simp)
  have hc5 := k25.blk hc2 (by simp)
  refine ep rfl ?_
  refine ew_seq (es rfl ?_)
  by_cases he : e = 0
  · subst he
    obtain ⟨hf0, hfine, hr0, hNe⟩ := hok rfl
    subst hf0
    rw [hfine]
    injection hNe with hn1 hNe
    injection hNe with _ hNe
    injection hNe with ha1 hf1
    subst hf1
    have hnn := numR_nonneg (all.drop at_) g
    rw [← hn1] at hnn
    obtain ⟨hnlt, hkl⟩ := hnn.2 hr0
    have hn0 := hnn.1
    obtain ⟨k, hk⟩ : ∃ k, (numR (all.drop at_) g).2.2 = k := ⟨_, rfl⟩
    rw [hk] at ha1 hkl
    subst ha1
    have hdl : (all.drop at_).length = all.length - at_ := List.length_drop
    refine ew_cond_f rfl rfl ?_
    refine ew_skip ?_
    refine ew_seq ?_
    refine sp rfl ?_
    refine el_loadb rfl rfl rfl rfl rfl ho5 rfl ?_
    refine pp rfl ?_
    refine el_loadb rfl rfl rfl rfl rfl ho5 rfl ?_
    refine ep rfl ?_
    have hwr : IntKind.wrap .i64 ((all.length : Int) - ((at_ + k : Nat) : Int)) = (all.length : Int) - ((at_ + k : Nat) : Int) := wrap_i64 (by omega) (by omega)
    have hnat : n = (n.toNat : Int) := by omega
    by_cases hbig : n > (all.length : Int) - ((at_ + k : Nat) : Int)
    · have hS : (rdStep [] all at_ 0 true fun l => bytesR l g) = ([], 120, at_, 120) := by
        have hlt : ((all.drop at_).length - (numR (all.drop at_) g).2.2 : Nat) < (numR (all.drop at_) g).1.toNat := by rw [hk, ← hn1, hdl]; omega
        have hB : bytesR (all.drop at_) g = ([], 120, 0) := by
          unfold bytesR
          rw [if_neg (by simp [hr0]), if_pos hlt]
        rw [rdStep_go, hB]
        rfl
      refine ew_cond_t rfl (decide_eq_true (by rw [hwr]; exact hbig)) ?_
      refine sp rfl ?_
      refine el_loada (vs := [.slice ad all.length cap, .int .i64 (at_ : Int), .int .i64 0]) rfl rfl rfl rfl rfl rfl hb5 rfl ?_
      refine el_call rfl rfl rfl rfl rfl rfl (fails_ok ad all.length cap at_ 0 120 w5) ?_
      rintro _ w6 ⟨rfl, k6⟩
      have hc6 := k6.blk hc5 (by simp)
      refine el_store #[.slice ad all.length cap, .int .i64 (at_ : Int), .int .i64 120] rfl rfl rfl rfl rfl rfl rfl rfl hc6 rfl rfl ?_
      intro w7 k7 hs7 hc7
      refine ep rfl ?_
      refine ew_ret (ret_l [rdr (.slice ad all.length cap) at_ 120, .slice none 0 0, .int .i64 120] rfl rfl ⟨⟨_, rfl, rfl, run_loadVarA rfl rfl rfl hc7⟩, ⟨rfl, rfl⟩, ⟨rfl, rfl⟩, trivial⟩ ?_)
      rw [hS]
      exact ⟨.slice none 0 0, rfl, ⟨_, _, rfl, Nat.le_refl _, fun j u hj => by simp [bytesV] at hj⟩, (k05.trans0 k6).trans k7 (by simp; omega), fun b hb => by simp [Value.ownBlock] at hb⟩
    · have hS : (rdStep [] all at_ 0 true fun l => bytesR l g) = ((all.drop (at_ + k)).take n.toNat, 0, at_ + k + n.toNat, 0) := by
        have hlt : ¬ ((all.drop at_).length - (numR (all.drop at_) g).2.2 : Nat) < (numR (all.drop at_) g).1.toNat := by rw [hk, ← hn1, hdl]; omega
        have hB : bytesR (all.drop at_) g = (((all.drop at_).drop k).take n.toNat, 0, k + n.toNat) := by
          unfold bytesR
          rw [if_neg (by simp [hr0]), if_neg hlt, hk, ← hn1]
        rw [rdStep_go, hB, List.drop_drop]
        simp
        omega
      refine ew_cond_f rfl (decide_eq_false (by rw [hwr]; exact hbig)) ?_
      refine ew_skip ?_
      refine sp rfl ?_
      refine el_loadb rfl rfl rfl rfl rfl ho5 rfl ?_
      refine pp rfl ?_
      refine el_loadb rfl rfl rfl rfl rfl ho5 rfl ?_
      refine pp rfl ?_
      refine el_loadb rfl rfl rfl rfl rfl ho5 rfl ?_
      refine pp rfl ?_
      have hadd : IntKind.wrap .i64 (((at_ + k : Nat) : Int) + n) = ((at_ + k + n.toNat : Nat) : Int) := by
        rw [wrap_i64 (by omega) (by omega)]
        omega
      refine el_slice_in (e := 5) (m := at_ + k) (m2 := at_ + k + n.toNat) rfl rfl rfl rfl rfl rfl rfl rfl hadd (by omega) (by omega) ?_
      refine ep rfl ?_
      refine sp rfl ?_
      refine el_loadb rfl rfl rfl rfl rfl ho5 rfl ?_
      refine ppn 2 rfl ?_
      refine el_as (v' := .int .i64 ((at_ + k + n.toNat : Nat) : Int)) (int_eq hadd) ?_
      refine pp rfl ?_
      refine el_store #[.slice ad all.length cap, .int .i64 ((at_ + k + n.toNat : Nat) : Int), .int .i64 0] rfl rfl rfl rfl rfl rfl rfl rfl ho5 rfl rfl ?_
      intro w6 k6 hs6 ho6
      have hc6 := k6.blk hc5 (by simp; omega)
      refine ep rfl ?_
      refine sp rfl ?_
      refine el_loada (vs := [.slice ad all.length cap, .int .i64 ((at_ + k + n.toNat : Nat) : Int), .int .i64 0]) rfl rfl rfl rfl rfl rfl ho6 rfl ?_
      refine pp rfl ?_
      refine el_store #[.slice ad all.length cap, .int .i64 ((at_ + k + n.toNat : Nat) : Int), .int .i64 0] rfl rfl rfl rfl rfl rfl rfl rfl hc6 rfl rfl ?_
      intro w7 k7 hs7 hc7
      refine ep rfl ?_
      have k07 : Keep [] w w7 := (k05.trans k6 (by simp; omega)).trans k7 (by simp; omega)
      refine ew_ret (ret_l [rdr (.slice ad all.length cap) (at_ + k + n.toNat) 0, .slice (if cap = at_ + k then ad else ad.map fun b => b.add ((at_ + k) * 1)) (at_ + k + n.toNat - (at_ + k)) (cap - (at_ + k)), .int .i64 0] rfl rfl ⟨⟨_, rfl, rfl, run_loadVarA rfl rfl rfl hc7⟩, ⟨rfl, rfl⟩, ⟨rfl, rfl⟩, trivial⟩ ?_)
      rw [hS]
      refine ⟨_, rfl, ?_, k07, fun b hb => by
        cases ad with
        | none => simp [Value.ownBlock] at hb
        | some a =>
          by_cases hcn : cap = at_ + k
          · simpa [hcn, Value.ownBlock] using hb
          · simpa [hcn, Value.ownBlock, add_block] using hb⟩
      have h1 := (hv.keep0 k07).drop (m := at_ + k) (by omega) (bytesV_length _)
      have h2 := h1.take (m := n.toNat) (by omega)
      have e3 : ((bytesV all).drop (at_ + k)).take n.toNat = bytesV ((all.drop (at_ + k)).take n.toNat) := by simp [bytesV]
      have e4 : at_ + k + n.toNat - (at_ + k) = n.toNat := by omega
      have e5 : ((all.drop (at_ + k)).take n.toNat).length = n.toNat := by simp; omega
      rw [e3] at h2
      show Rd _ _ _ _
      rw [e4, e5]
      exact h2
  · refine ew_cond_t rfl (by simp [he]) ?_
    refine sp rfl ?_
    refine el_loada (vs := [.slice ad all.length cap, .int .i64 (a' : Int), .int .i64 f']) rfl rfl rfl rfl rfl rfl ho5 rfl ?_
    refine pp rfl ?_
    refine el_store #[.slice ad all.length cap, .int .i64 (a' : Int), .int .i64 f'] rfl rfl rfl rfl rfl rfl rfl rfl hc5 rfl rfl ?_
    intro w6 k6 hs6 hc6
    refine ep rfl ?_
    refine ew_ret (ret_l [rdr (.slice ad all.length cap) a' f', .slice none 0 0, .int .i64 e] rfl rfl ⟨⟨_, rfl, rfl, run_loadVarA rfl rfl rfl hc6⟩, ⟨rfl, rfl⟩, ⟨rfl, rfl⟩, trivial⟩ ?_)
    rw [herr he]
    exact ⟨.slice none 0 0, rfl, ⟨_, _, rfl, Nat.le_refl _, fun j u hj => by simp [bytesV] at hj⟩, k05.trans k6 (by simp; omega), fun b hb => by simp [Value.ownBlock] at hb⟩
end Go.Proofs.Ytpdgfekimnmdnaa
