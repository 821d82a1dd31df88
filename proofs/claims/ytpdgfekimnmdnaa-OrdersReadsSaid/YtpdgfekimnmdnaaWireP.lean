/- The second hand's reader: its calls. -/
import Derived.Test.YtpdgfekimnmdnaaWireO
set_option linter.unusedVariables false
set_option linter.unusedSimpArgs false
namespace Go.Proofs.Ytpdgfekimnmdnaa
open Go.RowKit
set_option maxRecDepth 20000

theorem run_loadVarA {P : Program} {w : World} {t : TypeId} {b : Nat} {vs : List Value} {T : TypeDesc} {B : TypeId} {fr : Nat × Nat} (hT : P.underlying t = some T) (hg : aggT (some T) = true) (hn : P.cellsOf t = vs.length) (hb : w.heap[b]? = some (.cells vs.toArray B fr)) :
    (loadVar t ⟨b, 0, none⟩).run P w = .ok (.agg vs.toArray) w := by
  obtain ⟨i, hi⟩ := info_of_under hT
  have hs : i.size = vs.length := by rw [← hn]; simp [Program.cellsOf, hi]
  have hl := run_loadCells_list (P := P) w ⟨b, 0, none⟩ vs (fun j v hj => by rw [add_lit, Nat.zero_add, Blk.cell hb]; simpa using hj)
  simp [loadVar, run_isAgg hT, hg, sizeOf, typeInfo, hi, hs, hl]

/-- The struct of the second hand's reader. -/
def rdr (v : Value) (at_ : Nat) (flaw : Int) : Value := .agg #[v, .int .i64 (at_ : Int), .int .i64 flaw]
abbrev zr : Value := .agg #[.slice none 0 0, .int .i64 0, .int .i64 0]

theorem fails_ok (ad : Option Addr) (n cap : Nat) (at_ : Nat) (flaw e : Int) (w : World) :
    Fn Try.prog 86 [rdr (.slice ad n cap) at_ flaw, .int .i64 e] w fun r w' => r = rdr (.slice ad n cap) at_ e ∧ Keep [] w w' := by
  refine fn_enter Try.func86 rfl rfl ?_
  refine sp rfl ?_
  refine el_box #[.slice ad n cap, .int .i64 (at_ : Int), .int .i64 flaw] rfl rfl rfl rfl ?_
  intro b1 w1 e1 e1' k1 hb1
  refine el_alloc (z := zr) #[.slice none 0 0, .int .i64 0, .int .i64 0] rfl rfl rfl rfl ?_
  intro b2 w2 e2 e2' k2 hb2
  refine ep rfl ?_
  have hb12 := k2.blk hb1 (by simp)
  refine sp rfl ?_
  refine el_store #[.slice ad n cap, .int .i64 (at_ : Int), .int .i64 e] rfl rfl rfl rfl rfl rfl rfl rfl hb12 rfl rfl ?_
  intro w3 k3 hs3 hb13
  have hb23 := k3.blk hb2 (by simp; omega)
  refine ep rfl ?_
  refine sp rfl ?_
  refine el_loada (vs := [.slice ad n cap, .int .i64 (at_ : Int), .int .i64 e]) rfl rfl rfl rfl rfl rfl hb13 rfl ?_
  refine el_store #[.slice ad n cap, .int .i64 (at_ : Int), .int .i64 e] rfl rfl rfl rfl rfl rfl rfl rfl hb23 rfl rfl ?_
  intro w4 k4 hs4 hb24
  refine ep rfl ?_
  have k02 : Keep [] w w2 := k1.trans0 k2
  have k04 : Keep [] w w4 := (k02.trans k3 (by simp; omega)).trans k4 (by simp; omega)
  exact ew_ret (ret_l [rdr (.slice ad n cap) at_ e] rfl rfl ⟨⟨_, rfl, rfl, run_loadVarA rfl rfl rfl hb24⟩, trivial⟩ ⟨rfl, k04⟩)

/-- What a call of the second hand's reader comes to. -/
def Rtn (v : Value) (x : Value) (e : Int) (a : Nat) (f : Int) : Value := .tuple #[rdr v a f, x, .int .i64 e]

theorem refrn_ok (v : Value) (all : List UInt8) (at_ : Nat) (flaw g : Int) (w : World) (hv : RdB w v all) (hal : all.length ≤ 70368744177664) (hat : at_ ≤ all.length) :
    Fn Try.prog 48 [rdr v at_ flaw, .int .i64 g] w fun r w' =>
      r = Rtn v (.int .i64 (rdStep 0 all at_ flaw (decide (g ≥ 0)) fun l => numR l g).1) (rdStep 0 all at_ flaw (decide (g ≥ 0)) fun l => numR l g).2.1 (rdStep 0 all at_ flaw (decide (g ≥ 0)) fun l => numR l g).2.2.1 (rdStep 0 all at_ flaw (decide (g ≥ 0)) fun l => numR l g).2.2.2 ∧ Keep [] w w' := by
  obtain ⟨ad, cap, rfl, hcap⟩ := hv.slice
  refine fn_enter Try.func48 rfl rfl ?_
  refine sp rfl ?_
  refine el_box #[.slice ad all.length cap, .int .i64 (at_ : Int), .int .i64 flaw] rfl rfl rfl rfl ?_
  intro bb w1 e1 e1' k1 hb1
  refine el_alloc (z := zr) #[.slice none 0 0, .int .i64 0, .int .i64 0] rfl rfl rfl rfl ?_
  intro cb w2 e2 e2' k2 hc2
  refine ep rfl ?_
  have hb2 := k2.blk hb1 (by simp)
  have k02 : Keep [] w w2 := k1.trans0 k2
  refine ew_seq ?_
  refine sp rfl ?_
  refine el_loadb rfl rfl rfl rfl rfl hb2 rfl ?_
  refine ep rfl ?_
  by_cases hfl : flaw = 0
  · subst hfl
    refine ew_cond_f rfl rfl ?_
    refine ew_skip ?_
    refine ew_seq (es rfl ?_)
    by_cases hg : g < 0
    · refine ew_cond_t rfl (decide_eq_true hg) ?_
      refine sp rfl ?_
      refine el_loada (vs := [.slice ad all.length cap, .int .i64 (at_ : Int), .int .i64 0]) rfl rfl rfl rfl rfl rfl hb2 rfl ?_
      refine el_call rfl rfl rfl rfl rfl rfl (fails_ok ad all.length cap at_ 0 2 w2) ?_
      rintro _ w3 ⟨rfl, k3⟩
      have hc3 := k3.blk hc2 (by simp)
      refine el_store #[.slice ad all.length cap, .int .i64 (at_ : Int), .int .i64 2] rfl rfl rfl rfl rfl rfl rfl rfl hc3 rfl rfl ?_
      intro w4 k4 hs4 hc4
      refine ep rfl ?_
      have hd : decide (g ≥ 0) = false := decide_eq_false (by omega)
      refine ew_ret (ret_l [rdr (.slice ad all.length cap) at_ 2, .int .i64 0, .int .i64 2] rfl rfl ⟨⟨_, rfl, rfl, run_loadVarA rfl rfl rfl hc4⟩, ⟨rfl, rfl⟩, ⟨rfl, rfl⟩, trivial⟩ ⟨?_, ((k02.trans0 k3).trans k4 (by simp; omega))⟩)
      simp [hd, rdStep]
      rfl
    · have hd : decide (g ≥ 0) = true := decide_eq_true (by omega)
      rw [hd]
      refine ew_cond_f rfl (decide_eq_false hg) ?_
      refine ew_skip ?_
      refine sp rfl ?_
      refine el_loadb rfl rfl rfl rfl rfl hb2 rfl ?_
      refine pp rfl ?_
      refine el_loadb rfl rfl rfl rfl rfl hb2 rfl ?_
      refine el_call rfl rfl rfl rfl rfl rfl (take_ok _ all at_ w2 (hv.keep0 k02) hal hat) ?_
      obtain ⟨e, n, k, hs⟩ : ∃ e n k, scan 0 0 (all.drop at_) = (e, n, k) := ⟨_, _, _, rfl⟩
      rintro _ _ ⟨h, rfl⟩
      by_cases he : e = 0
      · subst he
        have ht : takeR all at_ = ((n : Int), ((at_ + k : Nat) : Int), 0) := by simp [takeR, hs]
        rw [ht] at h
        subst h
        refine ep rfl ?_
        refine ew_seq (es rfl ?_)
        by_cases hng : g < (n : Int)
        · have hn := numR_hi hs hng
          refine ew_cond_t rfl (decide_eq_true hng) ?_
          refine eg rfl ?_
          refine ew_seq (es rfl ?_)
          refine ew_cond_t rfl rfl ?_
          refine sp rfl ?_
          refine el_loada (vs := [.slice ad all.length cap, .int .i64 (at_ : Int), .int .i64 0]) rfl rfl rfl rfl rfl rfl hb2 rfl ?_
          refine pp rfl ?_
          refine el_call rfl rfl rfl rfl rfl rfl (fails_ok ad all.length cap at_ 0 3 w2) ?_
          rintro _ w3 ⟨rfl, k3⟩
          have hc3 := k3.blk hc2 (by simp)
          refine pp rfl ?_
          refine el_store #[.slice ad all.length cap, .int .i64 (at_ : Int), .int .i64 3] rfl rfl rfl rfl rfl rfl rfl rfl hc3 rfl rfl ?_
          intro w4 k4 hs4 hc4
          refine ep rfl ?_
          refine ew_ret (ret_l [rdr (.slice ad all.length cap) at_ 3, .int .i64 0, .int .i64 3] rfl rfl ⟨⟨_, rfl, rfl, run_loadVarA rfl rfl rfl hc4⟩, ⟨rfl, rfl⟩, ⟨rfl, rfl⟩, trivial⟩ ⟨?_, ((k02.trans0 k3).trans k4 (by simp; omega))⟩)
          simp [rdStep, hn]
          rfl
        · have hn := numR_ok hs hng
          refine ew_cond_f rfl (decide_eq_false hng) ?_
          refine ew_skip ?_
          refine ew_seq (es rfl ?_)
          refine ew_cond_f rfl rfl ?_
          refine ew_skip ?_
          refine sp rfl ?_
          refine el_store #[.slice ad all.length cap, .int .i64 ((at_ + k : Nat) : Int), .int .i64 0] rfl rfl rfl rfl rfl rfl rfl rfl hb2 rfl rfl ?_
          intro w3 k3 hs3 hb3
          have hc3 := k3.blk hc2 (by simp; omega)
          refine ep rfl ?_
          refine sp rfl ?_
          refine el_loada (vs := [.slice ad all.length cap, .int .i64 ((at_ + k : Nat) : Int), .int .i64 0]) rfl rfl rfl rfl rfl rfl hb3 rfl ?_
          refine pp rfl ?_
          refine el_store #[.slice ad all.length cap, .int .i64 ((at_ + k : Nat) : Int), .int .i64 0] rfl rfl rfl rfl rfl rfl rfl rfl hc3 rfl rfl ?_
          intro w4 k4 hs4 hc4
          refine ep rfl ?_
          refine ew_ret (ret_l [rdr (.slice ad all.length cap) (at_ + k) 0, .int .i64 (n : Int), .int .i64 0] rfl rfl ⟨⟨_, rfl, rfl, run_loadVarA rfl rfl rfl hc4⟩, ⟨rfl, rfl⟩, ⟨rfl, rfl⟩, trivial⟩ ⟨?_, ((k02.trans k3 (by simp; omega)).trans k4 (by simp; omega))⟩)
          simp [rdStep, hn]
          rfl
      · have ht : takeR all at_ = (0, 0, e) := by simp [takeR, hs, he]
        have hn := numR_err (g := g) hs he
        rw [ht] at h
        subst h
        refine ep rfl ?_
        refine ew_seq (spn 2 rfl ?_)
        refine el_as (v' := .bool false) (bool_eq (by simp [he])) ?_
        refine ep rfl ?_
        refine ew_cond_f rfl rfl ?_
        refine ew_skip ?_
        refine ew_seq (es rfl ?_)
        refine ew_cond_t rfl (by simp [he]) ?_
        refine sp rfl ?_
        refine el_loada (vs := [.slice ad all.length cap, .int .i64 (at_ : Int), .int .i64 0]) rfl rfl rfl rfl rfl rfl hb2 rfl ?_
        refine pp rfl ?_
        refine el_call rfl rfl rfl rfl rfl rfl (fails_ok ad all.length cap at_ 0 e w2) ?_
        rintro _ w3 ⟨rfl, k3⟩
        have hc3 := k3.blk hc2 (by simp)
        refine pp rfl ?_
        refine el_store #[.slice ad all.length cap, .int .i64 (at_ : Int), .int .i64 e] rfl rfl rfl rfl rfl rfl rfl rfl hc3 rfl rfl ?_
        intro w4 k4 hs4 hc4
        refine ep rfl ?_
        refine ew_ret (ret_l [rdr (.slice ad all.length cap) at_ e, .int .i64 0, .int .i64 e] rfl rfl ⟨⟨_, rfl, rfl, run_loadVarA rfl rfl rfl hc4⟩, ⟨rfl, rfl⟩, ⟨rfl, rfl⟩, trivial⟩ ⟨?_, ((k02.trans0 k3).trans k4 (by simp; omega))⟩)
        simp [rdStep, hn, he]
        rfl
  · refine ew_cond_t rfl (by simp [hfl]) ?_
    refine ew_seq ?_
    refine ew_draw follows [.known (rdr (.slice ad all.length cap) at_ flaw), .known (.pointer (some ⟨bb, 2, none⟩)), .known (.int .i64 flaw), .known undef, .known (.int .i64 0), .known (.int .i64 flaw)] [cb]
      (fun b w => Blk w bb 92 #[.slice ad all.length cap, .int .i64 (at_ : Int), .int .i64 flaw] ∧ Blk w cb 92 #[cond (b 3) (.slice ad all.length cap) (.slice none 0 0), cond (b 3) (.int .i64 (at_ : Int)) (.int .i64 0), cond (b 3) (.int .i64 flaw) (.int .i64 0)]) rfl (stable_known _ rfl) ⟨hb2, hc2⟩ ?_ ?_
    · refine ⟨fun b V ρ w hk hbi hd hu hWd hV => el_loada (vs := [.slice ad all.length cap, .int .i64 (at_ : Int), .int .i64 flaw]) rfl rfl rfl rfl rfl rfl hWd.1 rfl (el_nil ⟨_, rfl, rfl, Keep.refl _ _, hWd⟩), ?_⟩
      refine ⟨pureD rfl (fun _ _ => rfl) (fun _ _ h => h), ?_⟩
      refine ⟨fun b V ρ w hk hbi hd hu hWd hV => el_loadb rfl rfl rfl rfl rfl hWd.1 rfl (el_nil ⟨_, rfl, rfl, Keep.refl _ _, hWd⟩), ?_⟩
      refine ⟨fun b V ρ w hk hbi hd hu hWd hV => el_store #[.slice ad all.length cap, .int .i64 (at_ : Int), .int .i64 flaw] rfl rfl rfl rfl rfl rfl rfl rfl hWd.2 rfl rfl fun w2 k2 hs2 hb2 => el_nil ⟨_, rfl, rfl, k2, k2.blk hWd.1 (by simp; omega), hb2⟩, ?_⟩
      refine ⟨pureD rfl (fun _ _ => rfl) (fun _ _ h => h), ?_⟩
      refine ⟨pureD rfl (fun _ _ => rfl) (fun _ _ h => h), ?_⟩
      trivial
    · intro b V w3 hall k3 hWd hV
      have hB := hWd.2
      rw [hall 3 (by decide)] at hB
      refine ew_ret (ret_l [rdr (.slice ad all.length cap) at_ flaw, .int .i64 0, .int .i64 flaw] rfl rfl ⟨⟨_, rfl, rfl, run_loadVarA rfl rfl rfl hB⟩, ⟨rfl, rfl⟩, ⟨rfl, rfl⟩, trivial⟩ ⟨?_, k02.trans k3 (by simp; omega)⟩)
      simp [rdStep, hfl]
      rfl
end Go.Proofs.Ytpdgfekimnmdnaa
