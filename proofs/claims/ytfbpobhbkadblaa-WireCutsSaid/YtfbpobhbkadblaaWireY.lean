/- The second hand's reader: a truth, raw bytes. -/
import Derived.Test.YtfbpobhbkadblaaWireX
set_option linter.unusedVariables false
set_option linter.unusedSimpArgs false
namespace Go.Proofs.Ytfbpobhbkadblaa
open Go.RowKit
set_option maxRecDepth 20000

theorem refrt_ok (v : Value) (all : List UInt8) (at_ : Nat) (flaw : Int) (w : World) (hv : RdB w v all) (hal : all.length ≤ 70368744177664) (hat : at_ ≤ all.length) :
    Fn Try.prog 52 [rdr v at_ flaw] w fun r w' =>
      r = Rtn v (.bool (rdStep false all at_ flaw true truthR).1) (rdStep false all at_ flaw true truthR).2.1 (rdStep false all at_ flaw true truthR).2.2.1 (rdStep false all at_ flaw true truthR).2.2.2 ∧ Keep [] w w' := by
  have hv0 := hv
  obtain ⟨ad, cap, rfl, hcap⟩ := hv.slice
  refine fn_enter Try.func52 rfl rfl ?_
  refine sp rfl ?_
  refine el_box #[.slice ad all.length cap, .int .i64 (at_ : Int), .int .i64 flaw] rfl rfl rfl rfl ?_
  intro bb w1 e1 e1' k1 hb1
  refine el_alloc (z := zr) #[.slice none 0 0, .int .i64 0, .int .i64 0] rfl rfl rfl rfl ?_
  intro cb w2 e2 e2' k2 hc2
  refine ep rfl ?_
  have hb2 := k2.blk hb1 (by simp)
  have k02 : Keep [] w w2 := k1.trans0 k2
  refine ew_seq ?_
  refine sp rfl ?_
  refine el_loadb rfl rfl rfl rfl rfl hb2 rfl ?_
  refine ep rfl ?_
  by_cases hfl : flaw = 0
  · subst hfl
    rw [rdStep_go]
    refine ew_cond_f rfl rfl ?_
    refine ew_skip ?_
    refine ew_seq (sp rfl ?_)
    refine el_loadb rfl rfl rfl rfl rfl hb2 rfl ?_
    refine pp rfl ?_
    refine el_loadb rfl rfl rfl rfl rfl hb2 rfl ?_
    refine ep rfl ?_
    by_cases hge : all.length ≤ at_
    · have hd : all.drop at_ = [] := List.drop_eq_nil_of_le hge
      refine ew_cond_t rfl (decide_eq_true (by omega)) ?_
      refine sp rfl ?_
      refine el_loada (vs := [.slice ad all.length cap, .int .i64 (at_ : Int), .int .i64 0]) rfl rfl rfl rfl rfl rfl hb2 rfl ?_
      refine el_call rfl rfl rfl rfl rfl rfl (fails_ok ad all.length cap at_ 0 120 w2) ?_
      rintro _ w3 ⟨rfl, k3⟩
      have hc3 := k3.blk hc2 (by simp)
      refine el_store #[.slice ad all.length cap, .int .i64 (at_ : Int), .int .i64 120] rfl rfl rfl rfl rfl rfl rfl rfl hc3 rfl rfl ?_
      intro w4 k4 hs4 hc4
      refine ep rfl ?_
      refine ew_ret (ret_l [rdr (.slice ad all.length cap) at_ 120, .bool false, .int .i64 120] rfl rfl ⟨⟨_, rfl, rfl, run_loadVarA rfl rfl rfl hc4⟩, ⟨rfl, rfl⟩, ⟨rfl, rfl⟩, trivial⟩ ⟨?_, ((k02.trans0 k3).trans k4 (by simp; omega))⟩)
      rw [hd]
      rfl
    · have hlt : at_ < all.length := by omega
      obtain ⟨c, r2, hr1⟩ : ∃ c r2, all.drop at_ = c :: r2 := ⟨_, _, List.drop_eq_getElem_cons hlt⟩
      have hce : all[at_]? = some c := by
        have := congrArg (fun l => l[0]?) hr1
        simpa using this
      obtain ⟨a, cap', he, hcell⟩ := Rd.at_ (hv.keep0 k02) at_ (byteV c) (by simp [bytesV, hce])
      injection he with he1 he2 he3
      subst he1
      rw [hr1]
      refine ew_cond_f rfl (decide_eq_false (by omega)) ?_
      refine ew_skip ?_
      refine sp rfl ?_
      refine el_loadb rfl rfl rfl rfl rfl hb2 rfl ?_
      refine pp rfl ?_
      refine el_loadb rfl rfl rfl rfl rfl hb2 rfl ?_
      refine el_index (e := 5) (j := at_) (p := at_) rfl rfl rfl rfl rfl rfl hlt (Nat.mul_one _) rfl ?_
      refine el_load rfl rfl rfl rfl rfl hcell ?_
      refine ep rfl ?_
      refine ew_seq (es rfl ?_)
      by_cases hc : 1 < c.toNat
      · refine ew_cond_t rfl (decide_eq_true (by omega)) ?_
        refine sp rfl ?_
        refine el_loada (vs := [.slice (some a) all.length cap, .int .i64 (at_ : Int), .int .i64 0]) rfl rfl rfl rfl rfl rfl hb2 rfl ?_
        refine el_call rfl rfl rfl rfl rfl rfl (fails_ok (some a) all.length cap at_ 0 121 w2) ?_
        rintro _ w3 ⟨rfl, k3⟩
        have hc3 := k3.blk hc2 (by simp)
        refine el_store #[.slice (some a) all.length cap, .int .i64 (at_ : Int), .int .i64 121] rfl rfl rfl rfl rfl rfl rfl rfl hc3 rfl rfl ?_
        intro w4 k4 hs4 hc4
        refine ep rfl ?_
        refine ew_ret (ret_l [rdr (.slice (some a) all.length cap) at_ 121, .bool false, .int .i64 121] rfl rfl ⟨⟨_, rfl, rfl, run_loadVarA rfl rfl rfl hc4⟩, ⟨rfl, rfl⟩, ⟨rfl, rfl⟩, trivial⟩ ⟨?_, ((k02.trans0 k3).trans k4 (by simp; omega))⟩)
        simp [truthR, hc]
        rfl
      · refine ew_cond_f rfl (decide_eq_false (by omega)) ?_
        refine ew_skip ?_
        refine sp rfl ?_
        refine el_loadb rfl rfl rfl rfl rfl hb2 rfl ?_
        refine ppn 1 rfl ?_
        refine el_as (v' := .int .i64 ((at_ + 1 : Nat) : Int)) (int_eq (by rw [wrap_i64 (by omega) (by omega)]; omega)) ?_
        refine pp rfl ?_
        refine el_store #[.slice (some a) all.length cap, .int .i64 ((at_ + 1 : Nat) : Int), .int .i64 0] rfl rfl rfl rfl rfl rfl rfl rfl hb2 rfl rfl ?_
        intro w3 k3 hs3 hb3
        have hc3 := k3.blk hc2 (by simp; omega)
        refine ep rfl ?_
        refine sp rfl ?_
        refine el_loada (vs := [.slice (some a) all.length cap, .int .i64 ((at_ + 1 : Nat) : Int), .int .i64 0]) rfl rfl rfl rfl rfl rfl hb3 rfl ?_
        refine ppn 2 rfl ?_
        refine el_as (v' := .bool (c.toNat == 1)) (bool_eq (show ((c.toNat : Int) == 1) = (c.toNat == 1) from by
          have hle : c.toNat = 0 ∨ c.toNat = 1 := by omega
          rcases hle with h | h <;> rw [h] <;> rfl)) ?_
        refine el_store #[.slice (some a) all.length cap, .int .i64 ((at_ + 1 : Nat) : Int), .int .i64 0] rfl rfl rfl rfl rfl rfl rfl rfl hc3 rfl rfl ?_
        intro w4 k4 hs4 hc4
        refine ep rfl ?_
        refine ew_ret (ret_l [rdr (.slice (some a) all.length cap) (at_ + 1) 0, .bool (c.toNat == 1), .int .i64 0] rfl rfl ⟨⟨_, rfl, rfl, run_loadVarA rfl rfl rfl hc4⟩, ⟨rfl, rfl⟩, ⟨rfl, rfl⟩, trivial⟩ ⟨?_, ((k02.trans k3 (by simp; omega)).trans k4 (by simp; omega))⟩)
        simp [truthR, hc]
        rfl
  · refine ew_cond_t rfl (by simp [hfl]) ?_
    refine ew_seq ?_
    refine ew_draw follows [.known (rdr (.slice ad all.length cap) at_ flaw), .known (.pointer (some ⟨bb, 2, none⟩)), .known (.int .i64 flaw), .known undef, .known (.bool false), .known (.int .i64 flaw)] [cb]
      (fun b w => Blk w bb 35 #[.slice ad all.length cap, .int .i64 (at_ : Int), .int .i64 flaw] ∧ Blk w cb 35 #[cond (b 3) (.slice ad all.length cap) (.slice none 0 0), cond (b 3) (.int .i64 (at_ : Int)) (.int .i64 0), cond (b 3) (.int .i64 flaw) (.int .i64 0)]) rfl (stable_known _ rfl) ⟨hb2, hc2⟩ ?_ ?_
    · refine ⟨fun b V ρ w hk hbi hd hu hWd hV => el_loada (vs := [.slice ad all.length cap, .int .i64 (at_ : Int), .int .i64 flaw]) rfl rfl rfl rfl rfl rfl hWd.1 rfl (el_nil ⟨_, rfl, rfl, Keep.refl _ _, hWd⟩), ?_⟩
      refine ⟨pureD rfl (fun _ _ => rfl) (fun _ _ h => h), ?_⟩
      refine ⟨fun b V ρ w hk hbi hd hu hWd hV => el_loadb rfl rfl rfl rfl rfl hWd.1 rfl (el_nil ⟨_, rfl, rfl, Keep.refl _ _, hWd⟩), ?_⟩
      refine ⟨fun b V ρ w hk hbi hd hu hWd hV => el_store #[.slice ad all.length cap, .int .i64 (at_ : Int), .int .i64 flaw] rfl rfl rfl rfl rfl rfl rfl rfl hWd.2 rfl rfl fun w2 k2 hs2 hb2 => el_nil ⟨_, rfl, rfl, k2, k2.blk hWd.1 (by simp; omega), hb2⟩, ?_⟩
      refine ⟨pureD rfl (fun _ _ => rfl) (fun _ _ h => h), ?_⟩
      refine ⟨pureD rfl (fun _ _ => rfl) (fun _ _ h => h), ?_⟩
      trivial
    · intro b V w3 hall k3 hWd hV
      have hB := hWd.2
      rw [hall 3 (by decide)] at hB
      refine ew_ret (ret_l [rdr (.slice ad all.length cap) at_ flaw, .bool false, .int .i64 flaw] rfl rfl ⟨⟨_, rfl, rfl, run_loadVarA rfl rfl rfl hB⟩, ⟨rfl, rfl⟩, ⟨rfl, rfl⟩, trivial⟩ ⟨?_, k02.trans k3 (by simp; omega)⟩)
      simp [rdStep, hfl]
      rfl

theorem refrr_ok (v : Value) (all : List UInt8) (at_ : Nat) (flaw n : Int) (w : World) (hv : RdB w v all) (hal : all.length ≤ 70368744177664) (hat : at_ ≤ all.length) :
    Fn Try.prog 53 [rdr v at_ flaw, .int .i64 n] w fun r w' => ∃ u,
      r = Rtn v u (rdStep [] all at_ flaw (decide (n ≥ 0)) fun l => rawR l n.toNat).2.1 (rdStep [] all at_ flaw (decide (n ≥ 0)) fun l => rawR l n.toNat).2.2.1 (rdStep [] all at_ flaw (decide (n ≥ 0)) fun l => rawR l n.toNat).2.2.2 ∧ RdB w' u (rdStep [] all at_ flaw (decide (n ≥ 0)) fun l => rawR l n.toNat).1 ∧ Keep [] w w' ∧ ∀ b, u.ownBlock = some b → v.ownBlock = some b := by
  obtain ⟨ad, cap, rfl, hcap⟩ := hv.slice
  refine fn_enter Try.func53 rfl rfl ?_
  refine sp rfl ?_
  refine el_box #[.slice ad all.length cap, .int .i64 (at_ : Int), .int .i64 flaw] rfl rfl rfl rfl ?_
  intro bb w1 e1 e1' k1 hb1
  refine el_alloc (z := zr) #[.slice none 0 0, .int .i64 0, .int .i64 0] rfl rfl rfl rfl ?_
  intro cb w2 e2 e2' k2 hc2
  refine ep rfl ?_
  have hb2 := k2.blk hb1 (by simp)
  have k02 : Keep [] w w2 := k1.trans0 k2
  refine ew_seq ?_
  refine sp rfl ?_
  refine el_loadb rfl rfl rfl rfl rfl hb2 rfl ?_
  refine ep rfl ?_
  by_cases hfl : flaw = 0
  · subst hfl
    refine ew_cond_f rfl rfl ?_
    refine ew_skip ?_
    refine ew_seq (es rfl ?_)
    by_cases hn : n < 0
    · have hd : decide (n ≥ 0) = false := decide_eq_false (by omega)
      have hS : (rdStep [] all at_ 0 (decide (n ≥ 0)) fun l => rawR l n.toNat) = ([], 2, at_, 2) := by rw [hd]; simp [rdStep]
      refine ew_cond_t rfl (decide_eq_true hn) ?_
      refine sp rfl ?_
      refine el_loada (vs := [.slice ad all.length cap, .int .i64 (at_ : Int), .int .i64 0]) rfl rfl rfl rfl rfl rfl hb2 rfl ?_
      refine el_call rfl rfl rfl rfl rfl rfl (fails_ok ad all.length cap at_ 0 2 w2) ?_
      rintro _ w3 ⟨rfl, k3⟩
      have hc3 := k3.blk hc2 (by simp)
      refine el_store #[.slice ad all.length cap, .int .i64 (at_ : Int), .int .i64 2] rfl rfl rfl rfl rfl rfl rfl rfl hc3 rfl rfl ?_
      intro w4 k4 hs4 hc4
      refine ep rfl ?_
      refine ew_ret (ret_l [rdr (.slice ad all.length cap) at_ 2, .slice none 0 0, .int .i64 2] rfl rfl ⟨⟨_, rfl, rfl, run_loadVarA rfl rfl rfl hc4⟩, ⟨rfl, rfl⟩, ⟨rfl, rfl⟩, trivial⟩ ?_)
      rw [hS]
      exact ⟨.slice none 0 0, rfl, ⟨_, _, rfl, Nat.le_refl _, fun j u hj => by simp [bytesV] at hj⟩, (k02.trans0 k3).trans k4 (by simp; omega), fun b hb => by simp [Value.ownBlock] at hb⟩
    · have hd : decide (n ≥ 0) = true := decide_eq_true (by omega)
      rw [hd]
      have hdl : (all.drop at_).length = all.length - at_ := List.length_drop
      have hwr : IntKind.wrap .i64 ((all.length : Int) - (at_ : Int)) = (all.length : Int) - (at_ : Int) := wrap_i64 (by omega) (by omega)
      refine ew_cond_f rfl (decide_eq_false hn) ?_
      refine ew_skip ?_
      refine ew_seq (sp rfl ?_)
      refine el_loadb rfl rfl rfl rfl rfl hb2 rfl ?_
      refine pp rfl ?_
      refine el_loadb rfl rfl rfl rfl rfl hb2 rfl ?_
      refine ep rfl ?_
      by_cases hbig : n > (all.length : Int) - (at_ : Int)
      · have hS : (rdStep [] all at_ 0 true fun l => rawR l n.toNat) = ([], 120, at_, 120) := by
          have hB : rawR (all.drop at_) n.toNat = ([], 120, 0) := by
            unfold rawR
            rw [if_pos (by rw [hdl]; omega)]
          rw [rdStep_go, hB]
          rfl
        refine ew_cond_t rfl (decide_eq_true (by rw [hwr]; exact hbig)) ?_
        refine sp rfl ?_
        refine el_loada (vs := [.slice ad all.length cap, .int .i64 (at_ : Int), .int .i64 0]) rfl rfl rfl rfl rfl rfl hb2 rfl ?_
        refine el_call rfl rfl rfl rfl rfl rfl (fails_ok ad all.length cap at_ 0 120 w2) ?_
        rintro _ w3 ⟨rfl, k3⟩
        have hc3 := k3.blk hc2 (by simp)
        refine el_store #[.slice ad all.length cap, .int .i64 (at_ : Int), .int .i64 120] rfl rfl rfl rfl rfl rfl rfl rfl hc3 rfl rfl ?_
        intro w4 k4 hs4 hc4
        refine ep rfl ?_
        refine ew_ret (ret_l [rdr (.slice ad all.length cap) at_ 120, .slice none 0 0, .int .i64 120] rfl rfl ⟨⟨_, rfl, rfl, run_loadVarA rfl rfl rfl hc4⟩, ⟨rfl, rfl⟩, ⟨rfl, rfl⟩, trivial⟩ ?_)
        rw [hS]
        exact ⟨.slice none 0 0, rfl, ⟨_, _, rfl, Nat.le_refl _, fun j u hj => by simp [bytesV] at hj⟩, (k02.trans0 k3).trans k4 (by simp; omega), fun b hb => by simp [Value.ownBlock] at hb⟩
      · have hS : (rdStep [] all at_ 0 true fun l => rawR l n.toNat) = ((all.drop at_).take n.toNat, 0, at_ + n.toNat, 0) := by
          have hB : rawR (all.drop at_) n.toNat = ((all.drop at_).take n.toNat, 0, n.toNat) := by
            unfold rawR
            rw [if_neg (by rw [hdl]; omega)]
          rw [rdStep_go, hB]
          rfl
        refine ew_cond_f rfl (decide_eq_false (by rw [hwr]; exact hbig)) ?_
        refine ew_skip ?_
        refine sp rfl ?_
        refine el_loadb rfl rfl rfl rfl rfl hb2 rfl ?_
        refine pp rfl ?_
        refine el_loadb rfl rfl rfl rfl rfl hb2 rfl ?_
        refine pp rfl ?_
        refine el_loadb rfl rfl rfl rfl rfl hb2 rfl ?_
        refine pp rfl ?_
        have hadd : IntKind.wrap .i64 ((at_ : Int) + n) = ((at_ + n.toNat : Nat) : Int) := by
          rw [wrap_i64 (by omega) (by omega)]
          omega
        refine el_slice_in (e := 5) (m := at_) (m2 := at_ + n.toNat) rfl rfl rfl rfl rfl rfl rfl rfl hadd (by omega) (by omega) ?_
        refine ep rfl ?_
        refine sp rfl ?_
        refine el_loadb rfl rfl rfl rfl rfl hb2 rfl ?_
        refine ppn 2 rfl ?_
        refine el_as (v' := .int .i64 ((at_ + n.toNat : Nat) : Int)) (int_eq hadd) ?_
        refine pp rfl ?_
        refine el_store #[.slice ad all.length cap, .int .i64 ((at_ + n.toNat : Nat) : Int), .int .i64 0] rfl rfl rfl rfl rfl rfl rfl rfl hb2 rfl rfl ?_
        intro w3 k3 hs3 hb3
        have hc3 := k3.blk hc2 (by simp; omega)
        refine ep rfl ?_
        refine sp rfl ?_
        refine el_loada (vs := [.slice ad all.length cap, .int .i64 ((at_ + n.toNat : Nat) : Int), .int .i64 0]) rfl rfl rfl rfl rfl rfl hb3 rfl ?_
        refine pp rfl ?_
        refine el_store #[.slice ad all.length cap, .int .i64 ((at_ + n.toNat : Nat) : Int), .int .i64 0] rfl rfl rfl rfl rfl rfl rfl rfl hc3 rfl rfl ?_
        intro w4 k4 hs4 hc4
        refine ep rfl ?_
        have k04 : Keep [] w w4 := (k02.trans k3 (by simp; omega)).trans k4 (by simp; omega)
        refine ew_ret (ret_l [rdr (.slice ad all.length cap) (at_ + n.toNat) 0, .slice (if cap = at_ then ad else ad.map fun b => b.add (at_ * 1)) (at_ + n.toNat - at_) (cap - at_), .int .i64 0] rfl rfl ⟨⟨_, rfl, rfl, run_loadVarA rfl rfl rfl hc4⟩, ⟨rfl, rfl⟩, ⟨rfl, rfl⟩, trivial⟩ ?_)
        rw [hS]
        refine ⟨_, rfl, ?_, k04, fun b hb => by
          cases ad with
          | none => simp [Value.ownBlock] at hb
          | some a =>
            by_cases hcn : cap = at_
            · simpa [hcn, Value.ownBlock] using hb
            · simpa [hcn, Value.ownBlock, add_block] using hb⟩
        have h1 := (hv.keep0 k04).drop (m := at_) (by omega) (bytesV_length _)
        have h2 := h1.take (m := n.toNat) (by omega)
        have e3 : ((bytesV all).drop at_).take n.toNat = bytesV ((all.drop at_).take n.toNat) := by simp [bytesV]
        have e4 : at_ + n.toNat - at_ = n.toNat := by omega
        have e5 : ((all.drop at_).take n.toNat).length = n.toNat := by simp; omega
        rw [e3] at h2
        show Rd _ _ _ _
        rw [e4, e5]
        exact h2
  · refine ew_cond_t rfl (by simp [hfl]) ?_
    refine ew_seq ?_
    refine ew_draw follows [.known (rdr (.slice ad all.length cap) at_ flaw), .known (.pointer (some ⟨bb, 2, none⟩)), .known (.int .i64 flaw), .known undef, .known (.slice none 0 0), .known (.int .i64 flaw)] [cb]
      (fun b w => Blk w bb 35 #[.slice ad all.length cap, .int .i64 (at_ : Int), .int .i64 flaw] ∧ Blk w cb 35 #[cond (b 3) (.slice ad all.length cap) (.slice none 0 0), cond (b 3) (.int .i64 (at_ : Int)) (.int .i64 0), cond (b 3) (.int .i64 flaw) (.int .i64 0)]) rfl (stable_known _ rfl) ⟨hb2, hc2⟩ ?_ ?_
    · refine ⟨fun b V ρ w hk hbi hd hu hWd hV => el_loada (vs := [.slice ad all.length cap, .int .i64 (at_ : Int), .int .i64 flaw]) rfl rfl rfl rfl rfl rfl hWd.1 rfl (el_nil ⟨_, rfl, rfl, Keep.refl _ _, hWd⟩), ?_⟩
      refine ⟨pureD rfl (fun _ _ => rfl) (fun _ _ h => h), ?_⟩
      refine ⟨fun b V ρ w hk hbi hd hu hWd hV => el_loadb rfl rfl rfl rfl rfl hWd.1 rfl (el_nil ⟨_, rfl, rfl, Keep.refl _ _, hWd⟩), ?_⟩
      refine ⟨fun b V ρ w hk hbi hd hu hWd hV => el_store #[.slice ad all.length cap, .int .i64 (at_ : Int), .int .i64 flaw] rfl rfl rfl rfl rfl rfl rfl rfl hWd.2 rfl rfl fun w2 k2 hs2 hb2 => el_nil ⟨_, rfl, rfl, k2, k2.blk hWd.1 (by simp; omega), hb2⟩, ?_⟩
      refine ⟨pureD rfl (fun _ _ => rfl) (fun _ _ h => h), ?_⟩
      refine ⟨pureD rfl (fun _ _ => rfl) (fun _ _ h => h), ?_⟩
      trivial
    · intro b V w3 hall k3 hWd hV
      have hB := hWd.2
      rw [hall 3 (by decide)] at hB
      have hS : (rdStep [] all at_ flaw (decide (n ≥ 0)) fun l => rawR l n.toNat) = ([], flaw, at_, flaw) := by simp [rdStep, hfl]
      refine ew_ret (ret_l [rdr (.slice ad all.length cap) at_ flaw, .slice none 0 0, .int .i64 flaw] rfl rfl ⟨⟨_, rfl, rfl, run_loadVarA rfl rfl rfl hB⟩, ⟨rfl, rfl⟩, ⟨rfl, rfl⟩, trivial⟩ ?_)
      rw [hS]
      exact ⟨.slice none 0 0, rfl, ⟨_, _, rfl, Nat.le_refl _, fun j u hj => by simp [bytesV] at hj⟩, k02.trans k3 (by simp; omega), fun b hb => by simp [Value.ownBlock] at hb⟩
end Go.Proofs.Ytfbpobhbkadblaa
