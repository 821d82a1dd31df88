/- Orders: which messages are the same, by both hands. -/
import Derived.Test.YtpdgfekimnmdnaaOrdC
import Derived.Test.YtpdgfekimnmdnaaDrawG
set_option linter.unusedVariables false
set_option linter.unusedSimpArgs false
namespace Go.Proofs.Ytpdgfekimnmdnaa
open Go.RowKit
set_option maxRecDepth 20000

def sameO (k e t v : Int) (b : List UInt8) (k' e' t' v' : Int) (b' : List UInt8) : Prop := k = k' ∧ e = e' ∧ t = t' ∧ v = v' ∧ b = b'
instance (k e t v : Int) (b : List UInt8) (k' e' t' v' : Int) (b' : List UInt8) : Decidable (sameO k e t v b k' e' t' v' b') := by unfold sameO; infer_instance

theorem SameOrder_ok (k e t v : Int) (u : Value) (b : List UInt8) (k' e' t' v' : Int) (u' : Value) (b' : List UInt8) (w : World) (hu : RdB w u b) (hu' : RdB w u' b') :
    Fn Try.prog 17 [.agg #[.int .i64 k, .int .i64 e, .int .i64 t, .int .i64 v, u], .agg #[.int .i64 k', .int .i64 e', .int .i64 t', .int .i64 v', u']] w fun r w' => r = .bool (decide (sameO k e t v b k' e' t' v' b')) ∧ Keep [] w w' := by
  obtain ⟨ad, cap, rfl, hc⟩ := hu.slice
  obtain ⟨ad', cap', rfl, hc'⟩ := hu'.slice
  refine fn_enter Try.func17 rfl rfl ?_
  refine sp rfl ?_
  refine el_box #[.int .i64 k, .int .i64 e, .int .i64 t, .int .i64 v, .slice ad b.length cap] rfl rfl rfl rfl ?_
  intro ab w1 e1 e1' k1 ha
  refine el_box #[.int .i64 k', .int .i64 e', .int .i64 t', .int .i64 v', .slice ad' b'.length cap'] rfl rfl rfl rfl ?_
  intro bb w2 e2 e2' k2 hb
  have ha := k2.blk ha (by simp)
  have k02 := k1.trans0 k2
  refine ep rfl ?_
  refine sp rfl ?_
  refine el_loadb rfl rfl rfl rfl rfl ha rfl ?_
  refine pp rfl ?_
  refine el_loadb rfl rfl rfl rfl rfl hb rfl ?_
  by_cases hs : ¬ k = k'
  · refine el_eqi (a := k) (b := k') (k := .i64) false (by simpa using hs) rfl rfl rfl rfl ?_
    refine ep rfl ?_
    exact ew_ret (ret_1 (.bool false) rfl rfl rfl rfl ⟨bool_eq (decide_eq_false (by unfold sameO; exact fun h => by simp [h] at hs)).symm, k02⟩)
  have hs := Decidable.not_not.1 hs
  refine el_eqi (a := k) (b := k') (k := .i64) true (by simpa using hs) rfl rfl rfl rfl ?_
  refine pp rfl ?_
  subst hs
  refine el_loadb rfl rfl rfl rfl rfl ha rfl ?_
  refine pp rfl ?_
  refine el_loadb rfl rfl rfl rfl rfl hb rfl ?_
  by_cases hs : ¬ e = e'
  · refine el_eqi (a := e) (b := e') (k := .i64) false (by simpa using hs) rfl rfl rfl rfl ?_
    refine ep rfl ?_
    exact ew_ret (ret_1 (.bool false) rfl rfl rfl rfl ⟨bool_eq (decide_eq_false (by unfold sameO; exact fun h => by simp [h] at hs)).symm, k02⟩)
  have hs := Decidable.not_not.1 hs
  refine el_eqi (a := e) (b := e') (k := .i64) true (by simpa using hs) rfl rfl rfl rfl ?_
  refine pp rfl ?_
  subst hs
  refine el_loadb rfl rfl rfl rfl rfl ha rfl ?_
  refine pp rfl ?_
  refine el_loadb rfl rfl rfl rfl rfl hb rfl ?_
  by_cases hs : ¬ t = t'
  · refine el_eqi (a := t) (b := t') (k := .i64) false (by simpa using hs) rfl rfl rfl rfl ?_
    refine ep rfl ?_
    exact ew_ret (ret_1 (.bool false) rfl rfl rfl rfl ⟨bool_eq (decide_eq_false (by unfold sameO; exact fun h => by simp [h] at hs)).symm, k02⟩)
  have hs := Decidable.not_not.1 hs
  refine el_eqi (a := t) (b := t') (k := .i64) true (by simpa using hs) rfl rfl rfl rfl ?_
  refine pp rfl ?_
  subst hs
  refine el_loadb rfl rfl rfl rfl rfl ha rfl ?_
  refine pp rfl ?_
  refine el_loadb rfl rfl rfl rfl rfl hb rfl ?_
  by_cases hs : ¬ v = v'
  · refine el_eqi (a := v) (b := v') (k := .i64) false (by simpa using hs) rfl rfl rfl rfl ?_
    refine ep rfl ?_
    exact ew_ret (ret_1 (.bool false) rfl rfl rfl rfl ⟨bool_eq (decide_eq_false (by unfold sameO; exact fun h => by simp [h] at hs)).symm, k02⟩)
  have hs := Decidable.not_not.1 hs
  refine el_eqi (a := v) (b := v') (k := .i64) true (by simpa using hs) rfl rfl rfl rfl ?_
  refine pp rfl ?_
  subst hs
  refine el_loadb rfl rfl rfl rfl rfl ha rfl ?_
  refine el_str rfl rfl rfl rfl rfl rfl (hu.keep0 k02) ?_
  refine pp rfl ?_
  refine el_loadb rfl rfl rfl rfl rfl hb rfl ?_
  refine el_str rfl rfl rfl rfl rfl rfl (hu'.keep0 k02) ?_
  refine el_streq (a := b) (b := b') (b == b') rfl rfl rfl rfl rfl ?_
  refine ep rfl ?_
  refine ew_ret (ret_1 (.bool (b == b')) rfl rfl rfl rfl ⟨bool_eq ?_, k02⟩)
  by_cases hs : b = b'
  · rw [decide_eq_true (by unfold sameO; simp [hs])]
    simpa using hs
  · rw [decide_eq_false (by unfold sameO; simp [hs])]
    simpa using hs

def WorD.tol (x y : WorD) : Bool := eqTol x.node x.rk x.re x.rt x.rv x.well y.node y.rk y.re y.rt y.rv y.well
def WorD.same (x y : WorD) : Bool := x.tol y && decide (sameO x.k x.e x.t x.v x.bundle y.k y.e y.t y.v y.bundle)
theorem WorD.same_iff (x y : WorD) : x.same y = true ↔ x = y := by
  obtain ⟨k, e, t, v, bu, node, rk, re, rt, rv, well⟩ := x
  obtain ⟨k', e', t', v', bu', node', rk', re', rt', rv', well'⟩ := y
  unfold WorD.same WorD.tol
  rw [Bool.and_eq_true, eqTol_iff, decide_eq_true_iff]
  unfold sameO
  simp only [WorD.mk.injEq]
  constructor
  · rintro ⟨⟨h1, h2, h3, h4, h5, h6⟩, h7, h8, h9, h10, h11⟩
    exact ⟨h7, h8, h9, h10, h11, h1, h2, h3, h4, h5, h6⟩
  · rintro ⟨h7, h8, h9, h10, h11, h1, h2, h3, h4, h5, h6⟩
    exact ⟨⟨h1, h2, h3, h4, h5, h6⟩, h7, h8, h9, h10, h11⟩

theorem refSame_ok (x y : WorD) (u u' : Value) (w : World) (hu : RdB w u x.bundle) (hu' : RdB w u' y.bundle) :
    Fn Try.prog 25 [x.V u, y.V u'] w fun r w' => r = .bool (x.same y) ∧ Keep [] w w' := by
  obtain ⟨k, e, t, v, bu, node, rk, re, rt, rv, well⟩ := x
  obtain ⟨k', e', t', v', bu', node', rk', re', rt', rv', well'⟩ := y
  dsimp only at hu hu'
  obtain ⟨ad, cap, rfl, hc⟩ := hu.slice
  obtain ⟨ad', cap', rfl, hc'⟩ := hu'.slice
  refine fn_enter Try.func25 rfl rfl ?_
  refine sp rfl ?_
  refine el_box #[.int .i64 k, .int .i64 e, .int .i64 t, .int .i64 v, .slice ad bu.length cap, .int .i64 node, .int .i64 rk, .int .i64 re, .int .i64 rt, .int .i64 rv, .bool well] rfl rfl rfl rfl ?_
  intro ab w1 e1 e1' k1 ha
  refine el_box #[.int .i64 k', .int .i64 e', .int .i64 t', .int .i64 v', .slice ad' bu'.length cap', .int .i64 node', .int .i64 rk', .int .i64 re', .int .i64 rt', .int .i64 rv', .bool well'] rfl rfl rfl rfl ?_
  intro bb w2 e2 e2' k2 hb
  have ha := k2.blk ha (by simp)
  have k02 := k1.trans0 k2
  have hu2 := hu.keep0 k02
  have hu2' := hu'.keep0 k02
  refine ep rfl ?_
  refine sp rfl ?_
  refine el_loada (vs := [.int .i64 node, .int .i64 rk, .int .i64 re, .int .i64 rt, .int .i64 rv, .bool well]) rfl rfl rfl rfl rfl rfl ha rfl ?_
  refine pp rfl ?_
  refine el_loada (vs := [.int .i64 node', .int .i64 rk', .int .i64 re', .int .i64 rt', .int .i64 rv', .bool well']) rfl rfl rfl rfl rfl rfl hb rfl ?_
  cases ht : eqTol node rk re rt rv well node' rk' re' rt' rv' well' with
  | false =>
    refine el_eqs false rfl rfl rfl rfl told_guard (told_eqS _ _ _ _ _ _ _ _ _ _ _ _) ht ?_
    refine ep rfl ?_
    refine ew_ret (ret_1 (.bool false) rfl rfl rfl rfl ⟨bool_eq ?_, k02⟩)
    simp [WorD.same, WorD.tol, ht]
  | true =>
    refine el_eqs true rfl rfl rfl rfl told_guard (told_eqS _ _ _ _ _ _ _ _ _ _ _ _) ht ?_
    refine pp rfl ?_
    refine el_loada (vs := [.int .i64 k, .int .i64 e, .int .i64 t, .int .i64 v, .slice ad bu.length cap]) rfl rfl rfl rfl rfl rfl ha rfl ?_
    refine pp rfl ?_
    refine el_loada (vs := [.int .i64 k', .int .i64 e', .int .i64 t', .int .i64 v', .slice ad' bu'.length cap']) rfl rfl rfl rfl rfl rfl hb rfl ?_
    refine el_call rfl rfl rfl rfl rfl rfl (SameOrder_ok k e t v _ bu k' e' t' v' _ bu' w2 hu2 hu2') ?_
    rintro _ w3 ⟨rfl, k3⟩
    refine ep rfl ?_
    refine ew_ret (ret_1 (.bool (decide (sameO k e t v bu k' e' t' v' bu'))) rfl rfl rfl rfl ⟨bool_eq ?_, k02.trans0 k3⟩)
    simp [WorD.same, WorD.tol, ht]

theorem Equal_ok (u u' : Value) (b b' : List UInt8) (w : World) (hu : RdB w u b) (hu' : RdB w u' b') (hl : b.length ≤ maxLen) :
    Fn Try.prog 53 [u, u'] w fun r w' => r = .bool (decide (b = b')) ∧ Keep [] w w' := by
  obtain ⟨ad, cap, rfl, hc⟩ := hu.slice
  obtain ⟨ad', cap', rfl, hc'⟩ := hu'.slice
  have hl' : b.length ≤ 9223372036854775807 := by unfold maxLen at hl; omega
  refine fn_enter Try.func53 rfl rfl ?_
  refine es rfl ?_
  refine ew_seq (es rfl ?_)
  by_cases hlen : b.length = b'.length
  · refine ew_cond_f rfl (by simp [hlen]) ?_
    refine ew_skip ?_
    refine ew_seq (es rfl ?_)
    refine ew_block ?_
    refine ew_loop (α := Nat) (fun i => [(0, .slice ad b.length cap), (1, .slice ad' b'.length cap'), (12, .int .i64 (b.length : Int)), (13, .int .i64 (i : Int))])
      (fun i w' => i ≤ b.length ∧ b.take i = b'.take i ∧ Keep [] w w') (fun i => b.length - i) 0 ⟨rfl, rfl, rfl, rfl, trivial⟩ ⟨Nat.zero_le _, rfl, Keep.refl _ _⟩ ?_
    rintro i ρ w1 hd ⟨hi, htk, k1⟩
    refine es rfl ?_
    refine ew_seq ?_
    by_cases hlt : i < b.length
    · refine ew_cond_t rfl (decide_eq_true (by omega)) ?_
      refine ew_skip ?_
      have hlt' : i < b'.length := by omega
      obtain ⟨c, hce⟩ : ∃ c, b[i]? = some c := ⟨_, List.getElem?_eq_getElem hlt⟩
      obtain ⟨c', hce'⟩ : ∃ c, b'[i]? = some c := ⟨_, List.getElem?_eq_getElem hlt'⟩
      obtain ⟨a, cp, he, hcell⟩ := Rd.at_ (hu.keep0 k1) i (byteV c) (by simp [bytesV, hce])
      injection he with he1 he2 he3
      subst he1
      obtain ⟨a', cp', he', hcell'⟩ := Rd.at_ (hu'.keep0 k1) i (byteV c') (by simp [bytesV, hce'])
      injection he' with he1' he2' he3'
      subst he1'
      refine ew_seq (ew_block ?_)
      refine es rfl ?_
      refine ew_seq ?_
      let A : Value := .slice (some a) b.length cap
      let B : Value := .slice (some a') b'.length cap'
      let I : Value := .int .i64 (i : Int)
      refine ew_draw follows [.known A, .known I, .known (.pointer (some (a.add i))), .known (byteV c), .known B, .known I, .known (.pointer (some (a'.add i))), .known (byteV c'), .known (.bool (!(decide (c = c'))))] []
        (fun b w => True) rfl (stable_known _ rfl) trivial ?_ ?_
      refine ⟨pureD rfl (fun _ _ => rfl) (fun _ _ h => h), ?_⟩
      refine ⟨pureD rfl (fun _ _ => rfl) (fun _ _ h => h), ?_⟩
      refine ⟨fun b V ρ w hk hbi hd hu hWd hV => el_index (e := 5) (j := i) (p := i) rfl rfl rfl rfl rfl rfl hlt (Nat.mul_one _) rfl (el_nil ⟨_, rfl, rfl, Keep.refl _ _, trivial⟩), ?_⟩
      refine ⟨fun b V ρ w hk hbi hd hu hWd hV => el_load rfl rfl rfl rfl rfl (cell_keep0 hcell hk) (el_nil ⟨_, rfl, rfl, Keep.refl _ _, trivial⟩), ?_⟩
      refine ⟨pureD rfl (fun _ _ => rfl) (fun _ _ h => h), ?_⟩
      refine ⟨pureD rfl (fun _ _ => rfl) (fun _ _ h => h), ?_⟩
      refine ⟨fun b V ρ w hk hbi hd hu hWd hV => el_index (e := 5) (j := i) (p := i) rfl rfl rfl rfl rfl rfl hlt' (Nat.mul_one _) rfl (el_nil ⟨_, rfl, rfl, Keep.refl _ _, trivial⟩), ?_⟩
      refine ⟨fun b V ρ w hk hbi hd hu hWd hV => el_load rfl rfl rfl rfl rfl (cell_keep0 hcell' hk) (el_nil ⟨_, rfl, rfl, Keep.refl _ _, trivial⟩), ?_⟩
      refine ⟨fun b V ρ w hk hbi hd hu hWd hV => pp rfl (el_as (v' := .bool (!(decide (c = c')))) (bool_eq (by
        by_cases h : c = c'
        · simp [h]
        · have : ¬ c.toNat = c'.toNat := fun e => h (UInt8.toNat_inj.1 e)
          simp [h]
          omega)) (el_nil ⟨_, rfl, rfl, Keep.refl _ _, trivial⟩)), ?_⟩
      trivial
      intro b1 V w2 hall k2 _ hV
      by_cases hcc : c = c'
      · refine ew_cond_f rfl (by simp [hcc]) ?_
        refine ew_skip ?_
        refine eg rfl ?_
        refine ⟨by exact hd, i + 1, ⟨rfl, rfl, rfl, int_eq (by rw [wrap_i64 (by omega) (by omega)]; omega), trivial⟩, ⟨hlt, ?_, k1.trans0 k2⟩, by omega⟩
        rw [List.take_add_one, List.take_add_one, htk, hce, hce', hcc]
      · refine ew_cond_t rfl (by simp [hcc]) ?_
        refine es rfl ?_
        refine ew_ret (ret_1 (.bool false) rfl rfl (by exact hd) rfl ⟨bool_eq (decide_eq_false ?_).symm, k1.trans0 k2⟩)
        intro h
        rw [h, hce'] at hce
        injection hce with h2
        exact hcc h2.symm
    · refine ew_cond_f rfl (decide_eq_false (by omega)) ?_
      refine ew_exit ?_
      refine es rfl ?_
      refine ew_ret (ret_1 (.bool true) rfl rfl (by exact hd) rfl ⟨bool_eq (decide_eq_true ?_).symm, k1⟩)
      rw [List.take_of_length_le (by omega), List.take_of_length_le (by omega)] at htk
      exact htk
  · refine ew_cond_t rfl (by simp; omega) ?_
    refine es rfl ?_
    exact ew_ret (ret_1 (.bool false) rfl rfl rfl rfl ⟨bool_eq (decide_eq_false (fun h => hlen (by rw [h]))).symm, Keep.refl _ _⟩)

/-- Two copies of orders, as they are made. -/
def CopyG (A B : Array Value) (w0 : World) (b : Nat → Bool) (V : Nat → Value) (w : World) : Prop :=
  Keep [] w0 w ∧ (b 4 = true → ∃ p, V 4 = .pointer (some ⟨p, 0, none⟩) ∧ w0.heap.size ≤ p ∧ Blk w p 25 (cond (b 6) A #[.int .i64 0, .int .i64 0, .int .i64 0, .int .i64 0, .slice none 0 0])) ∧
  (b 5 = true → ∃ q, V 5 = .pointer (some ⟨q, 0, none⟩) ∧ w0.heap.size ≤ q ∧ Blk w q 25 (cond (b 7) B #[.int .i64 0, .int .i64 0, .int .i64 0, .int .i64 0, .slice none 0 0])) ∧
  (b 4 = true → b 5 = true → V 4 ≠ V 5)
theorem Same_ok (x y : WorD) (u u' : Value) (w : World) (hu : RdB w u x.bundle) (hu' : RdB w u' y.bundle) (hl : x.bundle.length ≤ maxLen) :
    Fn Try.prog 26 [x.V u, y.V u'] w fun r w' => r = .bool (x.same y) ∧ Keep [] w w' := by
  obtain ⟨k, e, t, v, bu, node, rk, re, rt, rv, well⟩ := x
  obtain ⟨k', e', t', v', bu', node', rk', re', rt', rv', well'⟩ := y
  dsimp only at hu hu' hl
  obtain ⟨ad, cap, rfl, hc⟩ := hu.slice
  obtain ⟨ad', cap', rfl, hc'⟩ := hu'.slice
  refine fn_enter Try.func26 rfl rfl ?_
  refine sp rfl ?_
  refine el_box #[.int .i64 k, .int .i64 e, .int .i64 t, .int .i64 v, .slice ad bu.length cap, .int .i64 node, .int .i64 rk, .int .i64 re, .int .i64 rt, .int .i64 rv, .bool well] rfl rfl rfl rfl ?_
  intro ab w1 e1 e1' k1 ha
  refine el_box #[.int .i64 k', .int .i64 e', .int .i64 t', .int .i64 v', .slice ad' bu'.length cap', .int .i64 node', .int .i64 rk', .int .i64 re', .int .i64 rt', .int .i64 rv', .bool well'] rfl rfl rfl rfl ?_
  intro bb w2 e2 e2' k2 hb
  have ha := k2.blk ha (by simp)
  have k02 := k1.trans0 k2
  have hu2 := hu.keep0 k02
  have hu2' := hu'.keep0 k02
  refine ep rfl ?_
  refine ew_seq ?_
  let oz : Value := .agg #[.int .i64 0, .int .i64 0, .int .i64 0, .int .i64 0, .slice none 0 0]
  let A : Array Value := #[.int .i64 k, .int .i64 e, .int .i64 t, .int .i64 v, .slice ad bu.length cap]
  let B : Array Value := #[.int .i64 k', .int .i64 e', .int .i64 t', .int .i64 v', .slice ad' bu'.length cap']
  refine ew_drawg follows [.known (.pointer (some ⟨ab, 0, none⟩)), .known (.agg A), .known (.pointer (some ⟨bb, 0, none⟩)), .known (.agg B), .any, .any, .known undef, .known undef]
    (CopyG A B w2) rfl (stable_any _ (by simp [Spec.isK])) ⟨Keep.drew w2, (fun h => by cases h), (fun h => by cases h), (fun h => by cases h)⟩ ?_ ?_
  refine ⟨pureG rfl (fun _ _ => rfl) (fun _ _ _ h => h), ?_⟩
  refine ⟨fun b V ρ w hbi hd hu hG hV => el_loada (vs := [.int .i64 k, .int .i64 e, .int .i64 t, .int .i64 v, .slice ad bu.length cap]) rfl rfl rfl rfl rfl rfl (hG.1.blk ha (by simp)) rfl (el_nil ⟨_, rfl, rfl, hG⟩), ?_⟩
  refine ⟨pureG rfl (fun _ _ => rfl) (fun _ _ _ h => h), ?_⟩
  refine ⟨fun b V ρ w hbi hd hu hG hV => el_loada (vs := [.int .i64 k', .int .i64 e', .int .i64 t', .int .i64 v', .slice ad' bu'.length cap']) rfl rfl rfl rfl rfl rfl (hG.1.blk hb (by simp)) rfl (el_nil ⟨_, rfl, rfl, hG⟩), ?_⟩
  refine ⟨?_, ?_⟩
  · intro b V ρ w hbi hd hu hG hV
    obtain ⟨g1, g2, g3, g4⟩ := hG
    have h6 : b 6 = false := hu 6 _ rfl rfl
    refine el_alloc (z := oz) #[.int .i64 0, .int .i64 0, .int .i64 0, .int .i64 0, .slice none 0 0] rfl rfl rfl rfl ?_
    intro p w' ep1 ep2 kp hp
    refine el_nil ⟨_, rfl, trivial, g1.trans0 kp, (fun _ => ⟨p, rfl, by have := g1.size; omega, ?_⟩), (fun h => ?_), (fun _ h => ?_)⟩
    · show Blk w' p _ (cond (b 6) A _)
      rw [h6]
      exact hp
    · obtain ⟨q, q1, q2, q3⟩ := g3 h
      exact ⟨q, q1, q2, kp.blk q3 (by simp)⟩
    · obtain ⟨q, q1, q2, q3⟩ := g3 h
      show Value.pointer (some ⟨p, 0, none⟩) ≠ V 5
      rw [q1]
      have := Blk.lt q3
      intro hh
      injection hh with hh
      injection hh with hh
      injection hh with hh
      omega
  refine ⟨?_, ?_⟩
  · intro b V ρ w hbi hd hu hG hV
    obtain ⟨g1, g2, g3, g4⟩ := hG
    have h7 : b 7 = false := hu 7 _ rfl rfl
    refine el_alloc (z := oz) #[.int .i64 0, .int .i64 0, .int .i64 0, .int .i64 0, .slice none 0 0] rfl rfl rfl rfl ?_
    intro p w' ep1 ep2 kp hp
    refine el_nil ⟨_, rfl, trivial, g1.trans0 kp, (fun h => ?_), (fun _ => ⟨p, rfl, by have := g1.size; omega, ?_⟩), (fun h _ => ?_)⟩
    · obtain ⟨q, q1, q2, q3⟩ := g2 h
      exact ⟨q, q1, q2, kp.blk q3 (by simp)⟩
    · show Blk w' p _ (cond (b 7) B _)
      rw [h7]
      exact hp
    · obtain ⟨q, q1, q2, q3⟩ := g2 h
      show V 4 ≠ Value.pointer (some ⟨p, 0, none⟩)
      rw [q1]
      have := Blk.lt q3
      intro hh
      injection hh with hh
      injection hh with hh
      injection hh with hh
      omega
  refine ⟨?_, ?_⟩
  · intro b V ρ w hbi hd hu hG hV
    obtain ⟨g1, g2, g3, g4⟩ := hG
    have h4 : b 4 = true := hd 4 rfl
    obtain ⟨p, p1, p2, p3⟩ := g2 h4
    rw [hbi] at p3
    refine el_store A rfl rfl (show V 4 = _ from p1) rfl rfl rfl rfl rfl p3 rfl rfl ?_
    intro w' kp hsp hp
    refine el_nil ⟨_, rfl, rfl, g1.trans kp (by simp; omega), (fun _ => ⟨p, p1, p2, hp⟩), (fun h => ?_), g4⟩
    obtain ⟨q, q1, q2, q3⟩ := g3 h
    have hne := g4 h4 h
    rw [p1, q1] at hne
    exact ⟨q, q1, q2, kp.blk q3 (by simp; intro e; exact hne (by rw [e]))⟩
  refine ⟨?_, ?_⟩
  · intro b V ρ w hbi hd hu hG hV
    obtain ⟨g1, g2, g3, g4⟩ := hG
    have h5 : b 5 = true := hd 5 rfl
    obtain ⟨p, p1, p2, p3⟩ := g3 h5
    rw [hbi] at p3
    refine el_store B rfl rfl (show V 5 = _ from p1) rfl rfl rfl rfl rfl p3 rfl rfl ?_
    intro w' kp hsp hp
    refine el_nil ⟨_, rfl, rfl, g1.trans kp (by simp; omega), (fun h => ?_), (fun _ => ⟨p, p1, p2, hp⟩), g4⟩
    obtain ⟨q, q1, q2, q3⟩ := g2 h
    have hne := g4 h h5
    rw [p1, q1] at hne
    exact ⟨q, q1, q2, kp.blk q3 (by simp; intro e; exact hne (by rw [e]))⟩
  trivial
  intro b V w3 hall hG hV
  obtain ⟨k23, g2, g3, _⟩ := hG
  obtain ⟨p, p1, p2, hp⟩ := g2 (hall 4 (by decide))
  obtain ⟨q, q1, q2, hq⟩ := g3 (hall 5 (by decide))
  rw [hall 6 (by decide)] at hp
  rw [hall 7 (by decide)] at hq
  have hp : Blk w3 p 25 #[.int .i64 k, .int .i64 e, .int .i64 t, .int .i64 v, .slice ad bu.length cap] := hp
  have hq : Blk w3 q 25 #[.int .i64 k', .int .i64 e', .int .i64 t', .int .i64 v', .slice ad' bu'.length cap'] := hq
  have ha3 := k23.blk ha (by simp)
  have hb3 := k23.blk hb (by simp)
  have k03 := k02.trans0 k23
  have hu3 := hu2.keep0 k23
  have hu3' := hu2'.keep0 k23
  refine ew_mt [(2, .pointer (some ⟨ab, 0, none⟩)), (3, .pointer (some ⟨bb, 0, none⟩)), (5, .pointer (some ⟨p, 0, none⟩)), (6, .pointer (some ⟨q, 0, none⟩))] ⟨rfl, rfl, p1, q1, trivial⟩ ?_
  refine sp rfl ?_
  refine el_loada (vs := [.int .i64 node, .int .i64 rk, .int .i64 re, .int .i64 rt, .int .i64 rv, .bool well]) rfl rfl rfl rfl rfl rfl ha3 rfl ?_
  refine pp rfl ?_
  refine el_loada (vs := [.int .i64 node', .int .i64 rk', .int .i64 re', .int .i64 rt', .int .i64 rv', .bool well']) rfl rfl rfl rfl rfl rfl hb3 rfl ?_
  cases ht : eqTol node rk re rt rv well node' rk' re' rt' rv' well' with
  | false =>
    refine el_eqs false rfl rfl rfl rfl told_guard (told_eqS _ _ _ _ _ _ _ _ _ _ _ _) ht ?_
    refine ep rfl ?_
    refine ew_ret (ret_1 (.bool false) rfl rfl rfl rfl ⟨bool_eq ?_, k03⟩)
    simp [WorD.same, WorD.tol, ht]
  | true =>
    have hfalse : ¬ sameO k e t v bu k' e' t' v' bu' → false = WorD.same ⟨k, e, t, v, bu, node, rk, re, rt, rv, well⟩ ⟨k', e', t', v', bu', node', rk', re', rt', rv', well'⟩ := fun h => by
      simp only [WorD.same, decide_eq_false h, Bool.and_false]
    refine el_eqs true rfl rfl rfl rfl told_guard (told_eqS _ _ _ _ _ _ _ _ _ _ _ _) ht ?_
    refine pp rfl ?_
    refine el_loadb rfl rfl rfl rfl rfl hp rfl ?_
    refine pp rfl ?_
    refine el_loadb rfl rfl rfl rfl rfl hq rfl ?_
    by_cases hs : ¬ k = k'
    · refine el_eqi (a := k) (b := k') (k := .i64) false (by simpa using hs) rfl rfl rfl rfl ?_
      refine ep rfl ?_
      exact ew_ret (ret_1 (.bool false) rfl rfl rfl rfl ⟨bool_eq (hfalse (by unfold sameO; exact fun h => by simp [h] at hs)), k03⟩)
    have hs := Decidable.not_not.1 hs
    refine el_eqi (a := k) (b := k') (k := .i64) true (by simpa using hs) rfl rfl rfl rfl ?_
    refine pp rfl ?_
    subst hs
    refine el_loadb rfl rfl rfl rfl rfl hp rfl ?_
    refine pp rfl ?_
    refine el_loadb rfl rfl rfl rfl rfl hq rfl ?_
    by_cases hs : ¬ e = e'
    · refine el_eqi (a := e) (b := e') (k := .i64) false (by simpa using hs) rfl rfl rfl rfl ?_
      refine ep rfl ?_
      exact ew_ret (ret_1 (.bool false) rfl rfl rfl rfl ⟨bool_eq (hfalse (by unfold sameO; exact fun h => by simp [h] at hs)), k03⟩)
    have hs := Decidable.not_not.1 hs
    refine el_eqi (a := e) (b := e') (k := .i64) true (by simpa using hs) rfl rfl rfl rfl ?_
    refine pp rfl ?_
    subst hs
    refine el_loadb rfl rfl rfl rfl rfl hp rfl ?_
    refine pp rfl ?_
    refine el_loadb rfl rfl rfl rfl rfl hq rfl ?_
    by_cases hs : ¬ t = t'
    · refine el_eqi (a := t) (b := t') (k := .i64) false (by simpa using hs) rfl rfl rfl rfl ?_
      refine ep rfl ?_
      exact ew_ret (ret_1 (.bool false) rfl rfl rfl rfl ⟨bool_eq (hfalse (by unfold sameO; exact fun h => by simp [h] at hs)), k03⟩)
    have hs := Decidable.not_not.1 hs
    refine el_eqi (a := t) (b := t') (k := .i64) true (by simpa using hs) rfl rfl rfl rfl ?_
    refine pp rfl ?_
    subst hs
    refine el_loadb rfl rfl rfl rfl rfl hp rfl ?_
    refine pp rfl ?_
    refine el_loadb rfl rfl rfl rfl rfl hq rfl ?_
    by_cases hs : ¬ v = v'
    · refine el_eqi (a := v) (b := v') (k := .i64) false (by simpa using hs) rfl rfl rfl rfl ?_
      refine ep rfl ?_
      exact ew_ret (ret_1 (.bool false) rfl rfl rfl rfl ⟨bool_eq (hfalse (by unfold sameO; exact fun h => by simp [h] at hs)), k03⟩)
    have hs := Decidable.not_not.1 hs
    refine el_eqi (a := v) (b := v') (k := .i64) true (by simpa using hs) rfl rfl rfl rfl ?_
    refine pp rfl ?_
    subst hs
    refine el_loadb rfl rfl rfl rfl rfl hp rfl ?_
    refine pp rfl ?_
    refine el_loadb rfl rfl rfl rfl rfl hq rfl ?_
    refine el_call rfl rfl rfl rfl rfl rfl (Equal_ok _ _ bu bu' w3 hu3 hu3' hl) ?_
    rintro _ w4 ⟨rfl, k4⟩
    refine ep rfl ?_
    refine ew_ret (ret_1 (.bool (decide (bu = bu'))) rfl rfl rfl rfl ⟨bool_eq ?_, k03.trans0 k4⟩)
    by_cases hs : bu = bu'
    · rw [decide_eq_true hs]
      simp [WorD.same, WorD.tol, ht, sameO, hs]
    · rw [decide_eq_false hs]
      exact hfalse (by unfold sameO; exact fun h => by simp [h] at hs)
end Go.Proofs.Ytpdgfekimnmdnaa
