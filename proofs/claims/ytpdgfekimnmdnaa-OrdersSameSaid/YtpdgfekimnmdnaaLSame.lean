/- Orders: the law of likeness: OrdersSame answers true. -/
import Derived.Test.YtpdgfekimnmdnaaWorks
set_option linter.unusedVariables false
set_option linter.unusedSimpArgs false
namespace Go.Proofs.Ytpdgfekimnmdnaa
open Go.RowKit
set_option maxRecDepth 20000

set_option maxHeartbeats 4000000 in
theorem OrdersSame_ok (x : WorD) (u : Value) (y : WorD) (u' : Value) (w : World) (hu : RdB w u x.bundle) (hl : x.bundle.length ≤ maxLen) (hu' : RdB w u' y.bundle) (hl' : y.bundle.length ≤ maxLen) :
    Fn Try.prog 7 [x.V u, y.V u'] w fun r w' => r = .bool true ∧ Keep [] w w' := by
  obtain ⟨k, e, t, v, bu, node, rk, re, rt, rv, well⟩ := x
  obtain ⟨k', e', t', v', bu', node', rk', re', rt', rv', well'⟩ := y
  dsimp only at hu hu' hl hl'
  obtain ⟨ad, cap, rfl, hc⟩ := hu.slice
  obtain ⟨ad', cap', rfl, hc'⟩ := hu'.slice
  have hlx : bu.length ≤ 9223372036854775807 := by unfold maxLen at hl; omega
  have hly : bu'.length ≤ 9223372036854775807 := by unfold maxLen at hl'; omega
  refine fn_enter Try.func7 rfl rfl ?_
  refine sp rfl ?_
  refine el_box (wordL k e t v (.slice ad bu.length cap) node rk re rt rv well).toArray rfl rfl rfl rfl ?_
  intro ab w1 e1 e1' k1 ha
  refine el_box (wordL k' e' t' v' (.slice ad' bu'.length cap') node' rk' re' rt' rv' well').toArray rfl rfl rfl rfl ?_
  intro bb w2 e2 e2' k2 hb
  have ha := k2.blk ha (by simp)
  have k02 := k1.trans0 k2
  have hu2 := hu.keep0 k02
  have hu2' := hu'.keep0 k02
  refine ep rfl ?_
  refine ew_seq (sp rfl ?_)
  refine el_loadb rfl rfl rfl rfl rfl ha rfl ?_
  refine ppn 2 rfl ?_
  by_cases h1 : bu.length > 200
  · refine el_as (v' := .bool true) (bool_eq (decide_eq_true (by omega))) ?_
    refine ep rfl ?_
    refine ew_cond_t rfl rfl ?_
    refine sp rfl ?_
    refine el_call rfl rfl rfl rfl rfl rfl (works_ok w2) ?_
    rintro _ w3 ⟨rfl, k⟩
    refine ep rfl ?_
    exact ew_ret (ret_1 (.bool true) rfl rfl rfl rfl ⟨rfl, k02.trans0 k⟩)
  refine el_as (v' := .bool false) (bool_eq (decide_eq_false (by omega))) ?_
  refine pp rfl ?_
  refine el_loadb rfl rfl rfl rfl rfl hb rfl ?_
  refine ppn 2 rfl ?_
  by_cases h2 : bu'.length > 200
  · refine el_as (v' := .bool true) (bool_eq (decide_eq_true (by omega))) ?_
    refine ep rfl ?_
    refine ew_cond_t rfl rfl ?_
    refine sp rfl ?_
    refine el_call rfl rfl rfl rfl rfl rfl (works_ok w2) ?_
    rintro _ w3 ⟨rfl, k⟩
    refine ep rfl ?_
    exact ew_ret (ret_1 (.bool true) rfl rfl rfl rfl ⟨rfl, k02.trans0 k⟩)
  refine el_as (v' := .bool false) (bool_eq (decide_eq_false (by omega))) ?_
  refine ep rfl ?_
  refine ew_cond_f rfl rfl ?_
  refine ew_skip ?_
  refine ew_seq ?_
  cases hs : WorD.same ⟨k, e, t, v, bu, node, rk, re, rt, rv, well⟩ ⟨k', e', t', v', bu', node', rk', re', rt', rv', well'⟩ with
  | true =>
    let T : Value := .bool true
    let S : Value := .bool true
    let X : Value := .agg (wordL k e t v (.slice ad bu.length cap) node rk re rt rv well).toArray
    let Y : Value := .agg (wordL k' e' t' v' (.slice ad' bu'.length cap') node' rk' re' rt' rv' well').toArray
    refine ew_draw follows [.known X, .known Y, .known S, .known X, .known Y, .known S, .known T, .known T, .known X, .known X, .known T, .known T, .known T, .known T, .known T, .known T] []
      (fun b w => Blk w ab 48 (wordL k e t v (.slice ad bu.length cap) node rk re rt rv well).toArray ∧ Blk w bb 48 (wordL k' e' t' v' (.slice ad' bu'.length cap') node' rk' re' rt' rv' well').toArray) rfl (stable_known _ rfl) ⟨ha, hb⟩ ?_ ?_
    refine ⟨fun b V ρ w hk hbi hd hu hWd hV => el_loada (vs := wordL k e t v (.slice ad bu.length cap) node rk re rt rv well) rfl rfl rfl rfl rfl rfl hWd.1 rfl (el_nil ⟨_, rfl, rfl, Keep.refl _ _, hWd⟩), ?_⟩
    refine ⟨fun b V ρ w hk hbi hd hu hWd hV => el_loada (vs := wordL k' e' t' v' (.slice ad' bu'.length cap') node' rk' re' rt' rv' well') rfl rfl rfl rfl rfl rfl hWd.2 rfl (el_nil ⟨_, rfl, rfl, Keep.refl _ _, hWd⟩), ?_⟩
    refine ⟨fun b V ρ w hk hbi hd hu hWd hV => el_call rfl rfl rfl rfl rfl rfl (Same_ok ⟨k, e, t, v, bu, node, rk, re, rt, rv, well⟩ ⟨k', e', t', v', bu', node', rk', re', rt', rv', well'⟩ _ _ w (hu2.keep0 hk) (hu2'.keep0 hk) hl) (by
      rintro _ W ⟨rfl, kk⟩
      rw [hs]
      exact el_nil ⟨_, rfl, rfl, kk, kk.blk hWd.1 (by simp), kk.blk hWd.2 (by simp)⟩), ?_⟩
    refine ⟨fun b V ρ w hk hbi hd hu hWd hV => el_loada (vs := wordL k e t v (.slice ad bu.length cap) node rk re rt rv well) rfl rfl rfl rfl rfl rfl hWd.1 rfl (el_nil ⟨_, rfl, rfl, Keep.refl _ _, hWd⟩), ?_⟩
    refine ⟨fun b V ρ w hk hbi hd hu hWd hV => el_loada (vs := wordL k' e' t' v' (.slice ad' bu'.length cap') node' rk' re' rt' rv' well') rfl rfl rfl rfl rfl rfl hWd.2 rfl (el_nil ⟨_, rfl, rfl, Keep.refl _ _, hWd⟩), ?_⟩
    refine ⟨fun b V ρ w hk hbi hd hu hWd hV => el_call rfl rfl rfl rfl rfl rfl (refSame_ok ⟨k, e, t, v, bu, node, rk, re, rt, rv, well⟩ ⟨k', e', t', v', bu', node', rk', re', rt', rv', well'⟩ _ _ w (hu2.keep0 hk) (hu2'.keep0 hk)) (by
      rintro _ W ⟨rfl, kk⟩
      rw [hs]
      exact el_nil ⟨_, rfl, rfl, kk, kk.blk hWd.1 (by simp), kk.blk hWd.2 (by simp)⟩), ?_⟩
    refine ⟨pureD rfl (fun _ _ => rfl) (fun _ _ h => h), ?_⟩
    refine ⟨pureD rfl (fun _ _ => rfl) (fun _ _ h => h), ?_⟩
    refine ⟨fun b V ρ w hk hbi hd hu hWd hV => el_loada (vs := wordL k e t v (.slice ad bu.length cap) node rk re rt rv well) rfl rfl rfl rfl rfl rfl hWd.1 rfl (el_nil ⟨_, rfl, rfl, Keep.refl _ _, hWd⟩), ?_⟩
    refine ⟨fun b V ρ w hk hbi hd hu hWd hV => el_loada (vs := wordL k e t v (.slice ad bu.length cap) node rk re rt rv well) rfl rfl rfl rfl rfl rfl hWd.1 rfl (el_nil ⟨_, rfl, rfl, Keep.refl _ _, hWd⟩), ?_⟩
    refine ⟨fun b V ρ w hk hbi hd hu hWd hV => el_call rfl rfl rfl rfl rfl rfl (Same_ok ⟨k, e, t, v, bu, node, rk, re, rt, rv, well⟩ ⟨k, e, t, v, bu, node, rk, re, rt, rv, well⟩ _ _ w (hu2.keep0 hk) (hu2.keep0 hk) hl) (by
      rintro _ W ⟨rfl, kk⟩
      rw [(WorD.same_iff _ _).2 rfl]
      exact el_nil ⟨_, rfl, rfl, kk, kk.blk hWd.1 (by simp), kk.blk hWd.2 (by simp)⟩), ?_⟩
    refine ⟨pureD rfl (fun _ _ => rfl) (fun _ _ h => h), ?_⟩
    refine ⟨pureD rfl (fun _ _ => rfl) (fun _ _ h => h), ?_⟩
    refine ⟨fun b V ρ w hk hbi hd hu hWd hV => el_call rfl rfl rfl rfl rfl rfl (works_ok w) (by rintro _ W ⟨rfl, kk⟩; exact el_nil ⟨_, rfl, rfl, kk, kk.blk hWd.1 (by simp), kk.blk hWd.2 (by simp)⟩), ?_⟩
    refine ⟨pureD rfl (fun _ _ => rfl) (fun _ _ h => h), ?_⟩
    refine ⟨pureD rfl (fun _ _ => rfl) (fun _ _ h => h), ?_⟩
    trivial
    intro b V w7 hall k7 hWd hV
    exact ew_ret (ret_1 T rfl rfl rfl rfl ⟨rfl, k02.trans0 k7⟩)
  | false =>
    let T : Value := .bool true
    let S : Value := .bool false
    let X : Value := .agg (wordL k e t v (.slice ad bu.length cap) node rk re rt rv well).toArray
    let Y : Value := .agg (wordL k' e' t' v' (.slice ad' bu'.length cap') node' rk' re' rt' rv' well').toArray
    refine ew_draw follows [.known X, .known Y, .known S, .known X, .known Y, .known S, .known T, .known T, .known X, .known X, .known T, .known T, .known T, .known T, .known T, .known T] []
      (fun b w => Blk w ab 48 (wordL k e t v (.slice ad bu.length cap) node rk re rt rv well).toArray ∧ Blk w bb 48 (wordL k' e' t' v' (.slice ad' bu'.length cap') node' rk' re' rt' rv' well').toArray) rfl (stable_known _ rfl) ⟨ha, hb⟩ ?_ ?_
    refine ⟨fun b V ρ w hk hbi hd hu hWd hV => el_loada (vs := wordL k e t v (.slice ad bu.length cap) node rk re rt rv well) rfl rfl rfl rfl rfl rfl hWd.1 rfl (el_nil ⟨_, rfl, rfl, Keep.refl _ _, hWd⟩), ?_⟩
    refine ⟨fun b V ρ w hk hbi hd hu hWd hV => el_loada (vs := wordL k' e' t' v' (.slice ad' bu'.length cap') node' rk' re' rt' rv' well') rfl rfl rfl rfl rfl rfl hWd.2 rfl (el_nil ⟨_, rfl, rfl, Keep.refl _ _, hWd⟩), ?_⟩
    refine ⟨fun b V ρ w hk hbi hd hu hWd hV => el_call rfl rfl rfl rfl rfl rfl (Same_ok ⟨k, e, t, v, bu, node, rk, re, rt, rv, well⟩ ⟨k', e', t', v', bu', node', rk', re', rt', rv', well'⟩ _ _ w (hu2.keep0 hk) (hu2'.keep0 hk) hl) (by
      rintro _ W ⟨rfl, kk⟩
      rw [hs]
      exact el_nil ⟨_, rfl, rfl, kk, kk.blk hWd.1 (by simp), kk.blk hWd.2 (by simp)⟩), ?_⟩
    refine ⟨fun b V ρ w hk hbi hd hu hWd hV => el_loada (vs := wordL k e t v (.slice ad bu.length cap) node rk re rt rv well) rfl rfl rfl rfl rfl rfl hWd.1 rfl (el_nil ⟨_, rfl, rfl, Keep.refl _ _, hWd⟩), ?_⟩
    refine ⟨fun b V ρ w hk hbi hd hu hWd hV => el_loada (vs := wordL k' e' t' v' (.slice ad' bu'.length cap') node' rk' re' rt' rv' well') rfl rfl rfl rfl rfl rfl hWd.2 rfl (el_nil ⟨_, rfl, rfl, Keep.refl _ _, hWd⟩), ?_⟩
    refine ⟨fun b V ρ w hk hbi hd hu hWd hV => el_call rfl rfl rfl rfl rfl rfl (refSame_ok ⟨k, e, t, v, bu, node, rk, re, rt, rv, well⟩ ⟨k', e', t', v', bu', node', rk', re', rt', rv', well'⟩ _ _ w (hu2.keep0 hk) (hu2'.keep0 hk)) (by
      rintro _ W ⟨rfl, kk⟩
      rw [hs]
      exact el_nil ⟨_, rfl, rfl, kk, kk.blk hWd.1 (by simp), kk.blk hWd.2 (by simp)⟩), ?_⟩
    refine ⟨pureD rfl (fun _ _ => rfl) (fun _ _ h => h), ?_⟩
    refine ⟨pureD rfl (fun _ _ => rfl) (fun _ _ h => h), ?_⟩
    refine ⟨fun b V ρ w hk hbi hd hu hWd hV => el_loada (vs := wordL k e t v (.slice ad bu.length cap) node rk re rt rv well) rfl rfl rfl rfl rfl rfl hWd.1 rfl (el_nil ⟨_, rfl, rfl, Keep.refl _ _, hWd⟩), ?_⟩
    refine ⟨fun b V ρ w hk hbi hd hu hWd hV => el_loada (vs := wordL k e t v (.slice ad bu.length cap) node rk re rt rv well) rfl rfl rfl rfl rfl rfl hWd.1 rfl (el_nil ⟨_, rfl, rfl, Keep.refl _ _, hWd⟩), ?_⟩
    refine ⟨fun b V ρ w hk hbi hd hu hWd hV => el_call rfl rfl rfl rfl rfl rfl (Same_ok ⟨k, e, t, v, bu, node, rk, re, rt, rv, well⟩ ⟨k, e, t, v, bu, node, rk, re, rt, rv, well⟩ _ _ w (hu2.keep0 hk) (hu2.keep0 hk) hl) (by
      rintro _ W ⟨rfl, kk⟩
      rw [(WorD.same_iff _ _).2 rfl]
      exact el_nil ⟨_, rfl, rfl, kk, kk.blk hWd.1 (by simp), kk.blk hWd.2 (by simp)⟩), ?_⟩
    refine ⟨pureD rfl (fun _ _ => rfl) (fun _ _ h => h), ?_⟩
    refine ⟨pureD rfl (fun _ _ => rfl) (fun _ _ h => h), ?_⟩
    refine ⟨fun b V ρ w hk hbi hd hu hWd hV => el_call rfl rfl rfl rfl rfl rfl (works_ok w) (by rintro _ W ⟨rfl, kk⟩; exact el_nil ⟨_, rfl, rfl, kk, kk.blk hWd.1 (by simp), kk.blk hWd.2 (by simp)⟩), ?_⟩
    refine ⟨pureD rfl (fun _ _ => rfl) (fun _ _ h => h), ?_⟩
    refine ⟨pureD rfl (fun _ _ => rfl) (fun _ _ h => h), ?_⟩
    trivial
    intro b V w7 hall k7 hWd hV
    exact ew_ret (ret_1 T rfl rfl rfl rfl ⟨rfl, k02.trans0 k7⟩)
end Go.Proofs.Ytpdgfekimnmdnaa
