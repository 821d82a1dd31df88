/- The second hand's reader: a truth, raw bytes. -/
import Derived.Test.YtpdgfekimnmdnaaWireX
set_option linter.unusedVariables false
set_option linter.unusedSimpArgs false
namespace Go.Proofs.Ytpdgfekimnmdnaa
open Go.RowKit
set_option maxRecDepth 20000

theorem refrt_ok (v : Value) (all : List UInt8) (at_ : Nat) (flaw : Int) (w : World) (hv : RdB w v all) (hal : all.length ≤ 70368744177664) (hat : at_ ≤ all.length) :
    Fn Try.prog 50 [rdr v at_ flaw] w fun r w' =>
      r = Rtn v (.bool (rdStep false all at_ flaw true truthR).1) (rdStep false all at_ flaw true truthR).2.1 (rdStep false all at_ flaw true truthR).2.2.1 (rdStep false all at_ flaw true truthR).2.2.2 ∧ Keep [] w w' := by
  have hv0 := hv
  obtain ⟨ad, cap, rfl, hcap⟩ := hv.slice
  refine fn_enter Try.func50 rfl rfl ?_
  refine sp rfl ?_
  refine el_box #[.slice ad all.length cap, .int .i64 (at_ : Int), .int .i64 flaw] rfl rfl rfl rfl ?_
  intro bb w1 e1 e1' k1 hb1
  refine el_alloc (z := zr) #[.slice none 0 0, .int .i64 0, .int .i64 0] rfl rfl rfl rfl ?_
  intro cb w2 e2 e2' k2 hc2
  refine ep rfl ?_
  have hb2 := k2.blk hb1 (by simp)
  have k02 : Keep [] w w2 := k1.trans0 k2
  refine ew_seq ?_
  refine sp rfl ?_
  refine el_loadb rfl rfl rfl rfl rfl hb2 rfl ?_
  refine ep rfl ?_
  by_cases hfl : flaw = 0
  · subst hfl
    rw [rdStep_go]
    refine ew_cond_f rfl rfl ?_
    refine ew_skip ?_
    refine ew_seq (sp rfl ?_)
    refine el_loadb rfl rfl rfl rfl rfl hb2 rfl ?_
    refine pp rfl ?_
    refine el_loadb rfl rfl rfl rfl rfl hb2 rfl ?_
    refine ep rfl ?_
    by_cases hge : all.length ≤ at_
    · have hd : all.drop at_ = [] := List.drop_eq_nil_of_le hge
      refine ew_cond_t rfl (decide_eq_true (by omega)) ?_
      refine sp rfl ?_
      refine el_loada (vs := [.slice ad all.length cap, .int .i64 (at_ : Int), .int .i64 0]) rfl rfl rfl rfl rfl rfl hb2 rfl ?_
      refine el_call rfl rfl rfl rfl rfl rfl (fails_ok ad all.length cap at_ 0 120 w2) ?_
      rintro _ w3 ⟨rfl, k3⟩
      have hc3 := k3.blk hc2 (by simp)
      refine el_store #[.slice ad all.length cap, .int .i64 (at_ : Int), .int .i64 120] rfl rfl rfl rfl rfl rfl rfl rfl hc3 rfl rfl ?_
      intro w4 k4 hs4 hc4
      refine ep rfl ?_
      refine ew_ret (ret_l [rdr (.slice ad all.length cap) at_ 120, .bool false, .int .i64 120] rfl rfl ⟨⟨_, rfl, rfl, run_loadVarA rfl rfl rfl hc4⟩, ⟨rfl, rfl⟩, ⟨rfl, rfl⟩, trivial⟩ ⟨?_, ((k02.trans0 k3).trans k4 (by simp; omega))⟩)
      rw [hd]
      rfl
    · have hlt : at_ < all.length := by omega
      obtain ⟨c, r2, hr1⟩ : ∃ c r2, all.drop at_ = c :: r2 := ⟨_, _, List.drop_eq_getElem_cons hlt⟩
      have hce : all[at_]? = some c := by
        have := congrArg (fun l => l[0]?) hr1
        simpa using this
      obtain ⟨a, cap', he, hcell⟩ := Rd.at_ (hv.keep0 k02) at_ (byteV c) (by simp [bytesV, hce])
      injection he with he1 he2 he3
      subst he1
      rw [hr1]
      refine ew_cond_f rfl (decide_eq_false (by omega)) ?_
      refine ew_skip ?_
      refine sp rfl ?_
      refine el_loadb rfl rfl rfl rfl rfl hb2 rfl ?_
      refine pp rfl ?_
      refine el_loadb rfl rfl rfl rfl rfl hb2 rfl ?_
      refine el_index (e := 5) (j := at_) (p := at_) rfl rfl rfl rfl rfl rfl hlt (Nat.mul_one _) rfl ?_
      refine el_load rfl rfl rfl rfl rfl hcell ?_
      refine ep rfl ?_
      refine ew_seq (es rfl ?_)
      by_cases hc : 1 < c.toNat
      · refine ew_cond_t rfl (decide_eq_true (by omega)) ?_
        refine sp rfl ?_
        refine el_loada (vs := [.slice (some a) all.length cap, .int .i64 (at_ : Int), .int .i64 0]) rfl rfl rfl rfl rfl rfl hb2 rfl ?_
        refine el_call rfl rfl rfl rfl rfl rfl (fails_ok (some a) all.length cap at_ 0 121 w2) ?_
        rintro _ w3 ⟨rfl, k3⟩
        have hc3 := k3.blk hc2 (by simp)
        refine el_store #[.slice (some a) all.length cap, .int .i64 (at_ : Int), .int .i64 121] rfl rfl rfl rfl rfl rfl rfl rfl hc3 rfl rfl ?_
        intro w4 k4 hs4 hc4
        refine ep rfl ?_
        refine ew_ret (ret_l [rdr (.slice (some a) all.length cap) at_ 121, .bool false, .int .i64 121] rfl rfl ⟨⟨_, rfl, rfl, run_loadVarA rfl rfl rfl hc4⟩, ⟨rfl, rfl⟩, ⟨rfl, rfl⟩, trivial⟩ ⟨?_, ((k02.trans0 k3).trans k4 (by simp; omega))⟩)
        simp [truthR, hc]
        rfl
      · refine ew_cond_f rfl (decide_eq_false (by omega)) ?_
        refine ew_skip ?_
        refine sp rfl ?_
        refine el_loadb rfl rfl rfl rfl rfl hb2 rfl ?_
        refine ppn 1 rfl ?_
        refine el_as (v' := .int .i64 ((at_ + 1 : Nat) : Int)) (int_eq (by rw [wrap_i64 (by omega) (by omega)]; omega)) ?_
        refine pp rfl ?_
        refine el_store #[.slice (some a) all.length cap, .int .i64 ((at_ + 1 : Nat) : Int), .int .i64 0] rfl rfl rfl rfl rfl rfl rfl rfl hb2 rfl rfl ?_
        intro w3 k3 hs3 hb3
        have hc3 := k3.blk hc2 (by simp; omega)
        refine ep rfl ?_
        refine sp rfl ?_
        refine el_loada (vs := [.slice (some a) all.length cap, .int .i64 ((at_ + 1 : Nat) : Int), .int .i64 0]) rfl rfl rfl rfl rfl rfl hb3 rfl ?_
        refine ppn 2 rfl ?_
        refine el_as (v' := .bool (c.toNat == 1)) (bool_eq (show ((c.toNat : Int) == 1) = (c.toNat == 1) from by
          have hle : c.toNat = 0 ∨ c.toNat = 1 := by omega
          rcases hle with h | h <;> rw [h] <;> rfl)) ?_
        refine el_store #[.slice (some a) all.length cap, .int .i64 ((at_ + 1 : Nat) : Int), .int .i64 0] rfl rfl rfl rfl rfl rfl rfl rfl hc3 rfl rfl ?_
        intro w4 k4 hs4 hc4
        refine ep rfl ?_
        refine ew_ret (ret_l [rdr (.slice (some a) all.length cap) (at_ + 1) 0, .bool (c.toNat == 1), .int .i64 0] rfl rfl ⟨⟨_, rfl, rfl, run_loadVarA rfl rfl rfl hc4⟩, ⟨rfl, rfl⟩, ⟨rfl, rfl⟩, trivial⟩ ⟨?_, ((k02.trans k3 (by simp; omega)).trans k4 (by simp; omega))⟩)
        simp [truthR, hc]
        rfl
  · refine ew_cond_t rfl (by simp [hfl]) ?_
    refine ew_seq ?_
    refine ew_draw follows [.known (rdr (.slice ad all.length cap) at_ flaw), .known (.pointer (some ⟨bb, 2, none⟩)), .known (.int .i64 flaw), .known undef, .known (.bool false), .known (.int .i64 flaw)] [cb]
      (fun b w => Blk w bb 92 #[.slice ad all.length cap, .int .i64 (at_ : Int), .int .i64 flaw] ∧ Blk w cb 92 #[cond (b 3) (.slice ad all.length cap) (.slice none 0 0), cond (b 3) (.int .i64 (at_ : Int)) (.int .i64 0), cond (b 3) (.int .i64 flaw) (.int .i64 0)]) rfl (stable_known _ rfl) ⟨hb2, hc2⟩ ?_ ?_
    · refine ⟨fun b V ρ w hk hbi hd hu hWd hV => el_loada (vs := [.slice ad all.length cap, .int .i64 (at_ : Int), .int .i64 flaw]) rfl rfl rfl rfl rfl rfl hWd.1 rfl (el_nil ⟨_, rfl, rfl, Keep.refl _ _, hWd⟩), ?_⟩
      refine ⟨pureD rfl (fun _ _ => rfl) (fun _ _ h => h), ?_⟩
      refine ⟨fun b V ρ w hk hbi hd hu hWd hV => el_loadb rfl rfl rfl rfl rfl hWd.1 rfl (el_nil ⟨_, rfl, rfl, Keep.refl _ _, hWd⟩), ?_⟩
      refine ⟨fun b V ρ w hk hbi hd hu hWd hV => el_store #[.slice ad all.length cap, .int .i64 (at_ : Int), .int .i64 flaw] rfl rfl rfl rfl rfl rfl rfl rfl hWd.2 rfl rfl fun w2 k2 hs2 hb2 => el_nil ⟨_, rfl, rfl, k2, k2.blk hWd.1 (by simp; omega), hb2⟩, ?_⟩
      refine ⟨pureD rfl (fun _ _ => rfl) (fun _ _ h => h), ?_⟩
      refine ⟨pureD rfl (fun _ _ => rfl) (fun _ _ h => h), ?_⟩
      trivial
    · intro b V w3 hall k3 hWd hV
      have hB := hWd.2
      rw [hall 3 (by decide)] at hB
      refine ew_ret (ret_l [rdr (.slice ad all.length cap) at_ flaw, .bool false, .int .i64 flaw] rfl rfl ⟨⟨_, rfl, rfl, run_loadVarA rfl rfl rfl hB⟩, ⟨rfl, rfl⟩, ⟨rfl, rfl⟩, trivial⟩ ⟨?_, k02.trans k3 (by simp; omega)⟩)
      simp [rdStep, hfl]
      rfl

end Go.Proofs.Ytpdgfekimnmdnaa
