/- Orders: a report's bytes, a message's bytes, by the first hand. -/
import Derived.Test.YtpdgfekimnmdnaaOrdE
set_option linter.unusedVariables false
set_option linter.unusedSimpArgs false
namespace Go.Proofs.Ytpdgfekimnmdnaa
open Go.RowKit
set_option maxRecDepth 20000

/-- A report's bytes. -/
def reportB (node k e t v : Int) (well : Bool) : List UInt8 := numsB [2, node, k, e, t, v] ++ [if well then 1 else 0]
theorem Report_ok (node k e t v : Int) (well : Bool) (w : World) :
    Fn Try.prog 18 [.int .i64 node, .agg #[.int .i64 k, .int .i64 e, .int .i64 t, .int .i64 v], .bool well] w fun r w' => ∃ y, r = .tuple #[y, .int .i64 (tolE node k e t v)] ∧ OwnB 5 w' w.heap.size y (if tolE node k e t v = 0 then reportB node k e t v well else []) ∧ Keep [] w w' := by
  refine fn_enter Try.func18 rfl rfl ?_
  refine sp rfl ?_
  refine el_box #[.int .i64 k, .int .i64 e, .int .i64 t, .int .i64 v] rfl rfl rfl rfl ?_
  intro rb w1 e1 e1' k1 hr
  refine ep rfl ?_
  refine ew_seq ?_
  refine sp rfl ?_
  refine el_loada (vs := [.int .i64 k, .int .i64 e, .int .i64 t, .int .i64 v]) rfl rfl rfl rfl rfl rfl hr rfl ?_
  refine pp rfl ?_
  refine el_build (z := .agg #[.int .i64 0, .int .i64 0, .int .i64 0, .int .i64 0, .int .i64 0, .bool false]) (vs := [.int .i64 node, .int .i64 k, .int .i64 e, .int .i64 t, .int .i64 v, .bool well]) rfl rfl rfl rfl rfl rfl ?_
  refine el_call rfl rfl rfl rfl rfl rfl (told_ok node k e t v well w1) ?_
  rintro _ w3 ⟨rfl, k2⟩
  have k03 := k1.trans0 k2
  have hr3 := k2.blk hr (by simp)
  refine ep rfl ?_
  by_cases hE : tolE node k e t v = 0
  · have h1 : tolOk node k e t v := Decidable.not_not.1 fun h => by
      rw [tolE_bad h] at hE
      cases hE
    unfold tolOk at h1
    have hns : ∀ n ∈ [2, node, k, e, t, v], (0 : Int) ≤ n ∧ n ≤ 9223372036854775807 := by
      intro n hn
      simp at hn
      rcases hn with rfl | rfl | rfl | rfl | rfl | rfl <;> omega
    rw [hE]
    refine es rfl ?_
    refine ew_cond_f rfl rfl ?_
    refine ew_skip ?_
    refine ew_seq ?_
    refine ew_drawg follows [.any, .known (.int .i64 node), .known (.pointer (some ⟨rb, 0, none⟩)), .known (.int .i64 k), .known (.pointer (some ⟨rb, 1, none⟩)), .known (.int .i64 e), .known (.pointer (some ⟨rb, 2, none⟩)), .known (.int .i64 t), .known (.pointer (some ⟨rb, 3, none⟩)), .known (.int .i64 v), .any, .any, .any]
      (LaidG 11 10 12 [2, node, k, e, t, v] w3) rfl (stable_any _ (by simp [Spec.isK])) ⟨Keep.drew w3, (fun h => by cases h), (fun h => by cases h), (fun h => by cases h), (fun h => by cases h)⟩ ?_ ?_
    refine ⟨?_, ?_⟩
    · intro b V ρ w hbi hd hu hG hV
      have hJ : b 11 = false := hu 11 _ rfl rfl
      obtain ⟨h1, h2, h3, h4, h5⟩ := hG
      refine el_call rfl rfl rfl rfl rfl rfl (new_ok w) ?_
      rintro _ w' ⟨g, rfl, hg, hW', k'⟩
      have hG' := LaidG.keep0 (show LaidG _ _ _ _ w3 b V w from ⟨h1, h2, h3, h4, h5⟩) k'
      exact el_nil ⟨_, rfl, trivial, hG'.1, (fun _ _ => ⟨g, rfl, by have := h1.size; omega, hW'⟩), hG'.2.2.1, (fun h => by
        have h' : b 11 = true := h
        rw [hJ] at h'
        cases h'), hG'.2.2.2.2⟩
    refine ⟨pureG rfl (fun _ _ => rfl) (fun _ _ _ h => h), ?_⟩
    refine ⟨pureG rfl (fun _ _ => rfl) (fun _ _ _ h => h), ?_⟩
    refine ⟨fun b V ρ w hbi hd hu hG hV => el_loadb rfl rfl rfl rfl rfl (hG.1.blk hr3 (by simp)) rfl (el_nil ⟨_, rfl, rfl, hG⟩), ?_⟩
    refine ⟨pureG rfl (fun _ _ => rfl) (fun _ _ _ h => h), ?_⟩
    refine ⟨fun b V ρ w hbi hd hu hG hV => el_loadb rfl rfl rfl rfl rfl (hG.1.blk hr3 (by simp)) rfl (el_nil ⟨_, rfl, rfl, hG⟩), ?_⟩
    refine ⟨pureG rfl (fun _ _ => rfl) (fun _ _ _ h => h), ?_⟩
    refine ⟨fun b V ρ w hbi hd hu hG hV => el_loadb rfl rfl rfl rfl rfl (hG.1.blk hr3 (by simp)) rfl (el_nil ⟨_, rfl, rfl, hG⟩), ?_⟩
    refine ⟨pureG rfl (fun _ _ => rfl) (fun _ _ _ h => h), ?_⟩
    refine ⟨fun b V ρ w hbi hd hu hG hV => el_loadb rfl rfl rfl rfl rfl (hG.1.blk hr3 (by simp)) rfl (el_nil ⟨_, rfl, rfl, hG⟩), ?_⟩
    refine ⟨?_, ?_⟩
    · intro b V ρ w hbi hd hu hG hV
      have hJ : b 11 = false := hu 11 _ rfl rfl
      refine el_bslice (z := .int .i64 0) (bytes := 8) (vs := [.int .i64 2, .int .i64 node, .int .i64 k, .int .i64 e, .int .i64 t, .int .i64 v]) rfl rfl rfl info_i64 rfl rfl rfl ?_
      intro p w' ep1 ep2 kp hp
      have hG' := LaidG.keep0 hG kp
      exact el_nil ⟨_, rfl, trivial, hG'.1, hG'.2.1, (fun _ _ => ⟨p, rfl, hp⟩), (fun h => by
        have h' : b 11 = true := h
        rw [hJ] at h'
        cases h'), hG'.2.2.2.2⟩
    refine ⟨?_, ?_⟩
    · intro b V ρ w hbi hd hu hG hV
      have hT : b 12 = false := hu 12 _ rfl rfl
      obtain ⟨h1, h2, h3, h4, h5⟩ := hG
      obtain ⟨g, a1, a2, a3⟩ := h2 (hd 0 rfl) hbi
      obtain ⟨p, c1, c2⟩ := h3 (hd 10 rfl) hbi
      have hpg : p ≠ g := Blk.ne c2 a3.blkW.choose_spec (by decide)
      have hspec := laid_ok g [] (V 10) [2, node, k, e, t, v] w a3 (by rw [c1]; exact Rd.of_blk1 _ c2) (by rw [c1]; intro b hb; injection hb with hb; subst hb; exact hpg) hns (by simp) (by simp)
      rw [← a1] at hspec
      refine el_call rfl rfl rfl rfl rfl rfl hspec ?_
      rintro _ w' ⟨rfl, hW', k'⟩
      exact el_nil ⟨_, rfl, trivial, h1.trans k' (by simp; omega), (fun _ h => by cases h), (fun _ h => by cases h), (fun _ => ⟨g, a1, a2, hW'⟩), (fun h => by
        have h' : b 12 = true := h
        rw [hT] at h'
        cases h')⟩
    refine ⟨fun b V ρ w hbi hd hu hG hV => el_pure 1 rfl (el_nil ⟨V 11, rfl, trivial, hG.1, hG.2.1, hG.2.2.1, hG.2.2.2.1, fun _ => ⟨hd 11 rfl, rfl⟩⟩), ?_⟩
    trivial
    intro b V w4 hall hG hV
    obtain ⟨k34, _, _, h4, h5⟩ := hG
    obtain ⟨_, h9⟩ := h5 (hall 12 (by decide))
    obtain ⟨g, a1, a2, hW4⟩ := h4 (hall 11 (by decide))
    have k04 := k03.trans0 k34
    have hgw : w.heap.size ≤ g := by have := k03.size; omega
    have hnl := numsB_len [2, node, k, e, t, v] hns
    refine ew_mt [(2, .bool well), (9, .pointer (some ⟨g, 0, none⟩))] ⟨rfl, h9.trans a1, trivial⟩ ?_
    refine sp rfl ?_
    refine el_call rfl rfl rfl rfl rfl rfl (wtruth_ok (some g) (numsB [2, node, k, e, t, v]) well w4 hW4) ?_
    intro rv w5 h5
    obtain ⟨q1, q2⟩ := lay_fit (cur := numsB [2, node, k, e, t, v]) (parts := [[if well then 1 else 0]]) (out := reportB node k e t v well) (by simp [reportB]) (by unfold reportB; rw [List.length_append]; simp at hnl ⊢; omega)
    obtain ⟨rfl, hW5, k5⟩ := layr_to _ 0 q1 q2 h5
    refine ep rfl ?_
    have k05 : Keep [] w w5 := k04.trans k5 (by simp; omega)
    refine sp rfl ?_
    refine el_call rfl rfl rfl rfl rfl rfl (wall_ok (some g) (reportB node k e t v well) w5 hW5) ?_
    rintro y w6 ⟨hy6, k56⟩
    refine ep rfl ?_
    refine ew_ret (ret_2 y (.int .i64 0) rfl rfl rfl rfl rfl rfl ⟨y, rfl, ?_, k05.trans0 k56⟩)
    rw [if_pos rfl]
    exact own_lower hy6 k05.size
  · refine es rfl ?_
    refine ew_cond_t rfl (by simpa using hE) ?_
    refine es rfl ?_
    refine ew_ret (ret_2 (.slice none 0 0) (.int .i64 (tolE node k e t v)) rfl rfl rfl rfl rfl rfl ⟨_, rfl, ?_, k03⟩)
    rw [if_neg hE]
    exact World.ownsRow_nil _ _ _ _

/-- A message's bytes. -/
def WorD.B (x : WorD) : List UInt8 := if x.rk ≠ 0 then reportB x.node x.rk x.re x.rt x.rv x.well else orderB x.k x.e x.t x.v x.bundle
theorem Raw_ok (x : WorD) (u : Value) (w : World) (hu : RdB w u x.bundle) (hl : x.bundle.length ≤ maxLen) :
    Fn Try.prog 27 [x.V u] w fun r w' => ∃ y, r = .tuple #[y, .int .i64 x.E] ∧ OwnB 5 w' w.heap.size y (if x.E = 0 then x.B else []) ∧ Keep [] w w' := by
  obtain ⟨k, e, t, v, bu, node, rk, re, rt, rv, well⟩ := x
  dsimp only at hu hl
  obtain ⟨ad, cap, rfl, hcap⟩ := hu.slice
  refine fn_enter Try.func27 rfl rfl ?_
  refine sp rfl ?_
  refine el_box #[.int .i64 k, .int .i64 e, .int .i64 t, .int .i64 v, .slice ad bu.length cap, .int .i64 node, .int .i64 rk, .int .i64 re, .int .i64 rt, .int .i64 rv, .bool well] rfl rfl rfl rfl ?_
  intro bb w1 e1 e1' k1 hb
  refine ep rfl ?_
  refine ew_seq (ew_block ?_)
  refine sp rfl ?_
  refine el_loada (vs := [.int .i64 node, .int .i64 rk, .int .i64 re, .int .i64 rt, .int .i64 rv, .bool well]) rfl rfl rfl rfl rfl rfl hb rfl ?_
  refine el_build (z := .agg #[.int .i64 0, .int .i64 0, .int .i64 0, .int .i64 0, .int .i64 0, .bool false]) (vs := [.int .i64 0, .int .i64 0, .int .i64 0, .int .i64 0, .int .i64 0, .bool false]) rfl rfl rfl rfl rfl rfl ?_
  cases hz : eqTol node rk re rt rv well 0 0 0 0 0 false with
  | true =>
    obtain ⟨rfl, rfl, rfl, rfl, rfl, rfl⟩ := eqTol_iff.1 hz
    refine el_eqs true rfl rfl rfl rfl told_guard (told_eqS _ _ _ _ _ _ _ _ _ _ _ _) hz ?_
    refine ep rfl ?_
    refine ew_cond_t rfl rfl ?_
    refine sp rfl ?_
    refine el_loada (vs := [.int .i64 k, .int .i64 e, .int .i64 t, .int .i64 v, .slice ad bu.length cap]) rfl rfl rfl rfl rfl rfl hb rfl ?_
    refine el_call rfl rfl rfl rfl rfl rfl (Order_ok k e t v _ bu w1 (hu.keep0 k1) hl) ?_
    rintro _ w2 ⟨y, rfl, hy, k2⟩
    refine ep rfl ?_
    have hE : (WorD.mk k e t v bu 0 0 0 0 0 false).E = ordE k e t v bu.length := by simp [WorD.E]
    have hB : (WorD.mk k e t v bu 0 0 0 0 0 false).B = orderB k e t v bu := by simp [WorD.B]
    refine ew_ret (ret_2 y (.int .i64 (ordE k e t v bu.length)) rfl rfl rfl rfl rfl rfl ⟨y, by rw [hE], ?_, k1.trans0 k2⟩)
    rw [hE, hB]
    exact own_lower hy k1.size
  | false =>
    have hz' : ¬ (node = 0 ∧ rk = 0 ∧ re = 0 ∧ rt = 0 ∧ rv = 0 ∧ well = false) := fun h => by
      rw [eqTol_iff.2 h] at hz
      cases hz
    refine el_eqs false rfl rfl rfl rfl told_guard (told_eqS _ _ _ _ _ _ _ _ _ _ _ _) hz ?_
    refine ep rfl ?_
    refine ew_cond_f rfl rfl ?_
    refine sp rfl ?_
    refine el_loadb rfl rfl rfl rfl rfl hb rfl ?_
    by_cases hrk : rk = 0
    · subst hrk
      refine el_eqi (a := 0) (b := 0) (k := .i64) true rfl rfl rfl rfl rfl ?_
      refine ep rfl ?_
      refine ew_cond_t rfl rfl ?_
      refine es rfl ?_
      have hE : (WorD.mk k e t v bu node 0 re rt rv well).E = 2 := by
        simp only [WorD.E]
        rw [if_neg (by simp), if_neg (fun h => hz' ⟨h.1, rfl, h.2⟩)]
      refine ew_ret (ret_2 (.slice none 0 0) (.int .i64 2) rfl rfl rfl rfl rfl rfl ⟨_, by rw [hE], ?_, k1⟩)
      rw [hE]
      exact World.ownsRow_nil _ _ _ _
    · refine el_eqi (a := rk) (b := 0) (k := .i64) false (by simpa using hrk) rfl rfl rfl rfl ?_
      refine pp rfl ?_
      refine el_loada (vs := [.int .i64 k, .int .i64 e, .int .i64 t, .int .i64 v, .slice ad bu.length cap]) rfl rfl rfl rfl rfl rfl hb rfl ?_
      refine el_call rfl rfl rfl rfl rfl rfl (bare_ok k e t v ad bu.length cap w1) ?_
      rintro _ w2 ⟨rfl, k2⟩
      have hb2 := k2.blk hb (by simp)
      by_cases hba : isBare k e t v bu.length
      · rw [decide_eq_true hba]
        refine ep rfl ?_
        refine ew_cond_f rfl rfl ?_
        refine ew_skip ?_
        refine sp rfl ?_
        refine el_loadb rfl rfl rfl rfl rfl hb2 rfl ?_
        refine pp rfl ?_
        refine el_loada (vs := [.int .i64 rk, .int .i64 re, .int .i64 rt, .int .i64 rv]) rfl rfl rfl rfl rfl rfl hb2 rfl ?_
        refine pp rfl ?_
        refine el_loadb rfl rfl rfl rfl rfl hb2 rfl ?_
        refine el_call rfl rfl rfl rfl rfl rfl (Report_ok node rk re rt rv well w2) ?_
        rintro _ w3 ⟨y, rfl, hy, k3⟩
        refine ep rfl ?_
        have hE : (WorD.mk k e t v bu node rk re rt rv well).E = tolE node rk re rt rv := by
          simp only [WorD.E, tolE]
          rw [if_pos hrk]
          by_cases ht : tolOk node rk re rt rv
          · rw [if_pos ⟨hba, ht⟩, if_pos ht]
          · rw [if_neg (fun h => ht h.2), if_neg ht]
        have hB : (WorD.mk k e t v bu node rk re rt rv well).B = reportB node rk re rt rv well := by simp [WorD.B, hrk]
        refine ew_ret (ret_2 y (.int .i64 (tolE node rk re rt rv)) rfl rfl rfl rfl rfl rfl ⟨y, by rw [hE], ?_, (k1.trans0 k2).trans0 k3⟩)
        rw [hE, hB]
        exact own_lower hy (k1.trans0 k2).size
      · rw [decide_eq_false hba]
        refine ep rfl ?_
        refine ew_cond_t rfl rfl ?_
        refine es rfl ?_
        have hE : (WorD.mk k e t v bu node rk re rt rv well).E = 2 := by
          simp only [WorD.E]
          rw [if_pos hrk, if_neg (fun h => hba h.1)]
        refine ew_ret (ret_2 (.slice none 0 0) (.int .i64 2) rfl rfl rfl rfl rfl rfl ⟨_, by rw [hE], ?_, k1.trans0 k2⟩)
        rw [hE]
        exact World.ownsRow_nil _ _ _ _
end Go.Proofs.Ytpdgfekimnmdnaa
