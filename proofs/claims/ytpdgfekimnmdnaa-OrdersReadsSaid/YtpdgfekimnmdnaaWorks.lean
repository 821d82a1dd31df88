/- Orders: reading an order, a report; reading by the second hand; works. -/
import Derived.Test.YtpdgfekimnmdnaaReadD
import Derived.Test.YtpdgfekimnmdnaaOrdG
import Derived.Test.YtpdgfekimnmdnaaOrdF
/- Orders: reading an order, a report, by the first hand. -/
set_option linter.unusedVariables false
set_option linter.unusedSimpArgs false
namespace Go.Proofs.Ytpdgfekimnmdnaa
open Go.RowKit
set_option maxRecDepth 20000

def readOR (all : List UInt8) : WorD × Int := match readW all with
  | some x => if x.rk ≠ 0 then (zeroW, 271) else (x, 0)
  | none => (zeroW, 270)
def readTR (all : List UInt8) : WorD × Int := match readW all with
  | some x => if x.rk ≠ 0 then (x, 0) else (zeroW, 271)
  | none => (zeroW, 270)
theorem fin_E {all : List UInt8} {o : Option (WorD × Nat)} {x : WorD} (h : fin all o = some x) : x.E = 0 := by
  unfold fin at h
  cases o with
  | none => cases h
  | some q =>
    simp only [Option.bind_some] at h
    split at h
    · rename_i hq
      injection h with h
      subst h
      exact hq.2
    · cases h
theorem readW_E {all : List UInt8} {x : WorD} (h : readW all = some x) : x.E = 0 := by
  unfold readW at h
  cases hs : stepN all 2 0 with
  | none => rw [hs] at h; cases h
  | some p =>
    rw [hs] at h
    simp only [Option.bind_some] at h
    split at h
    · exact fin_E h
    · split at h
      · exact fin_E h
      · cases h
theorem bare_iff {x : WorD} (h : x.E = 0) : isBare x.k x.e x.t x.v x.bundle.length ↔ x.rk ≠ 0 := by
  rcases WorD.E_parts h with ⟨h1, h2, _⟩ | ⟨h1, _, _, _, _, _, h2⟩
  · exact ⟨fun _ => h1, fun _ => h2⟩
  · constructor
    · intro hb
      exfalso
      have hok : ordOk x.k x.e x.t x.v x.bundle.length := Decidable.not_not.1 fun hn => by
        rw [ordE_bad hn] at h2
        cases h2
      unfold isBare at hb
      unfold ordOk at hok
      omega
    · intro hr
      exact absurd h1 hr

theorem suchO_ok (x : WorD) (ad : Option Addr) (cap : Nat) (w : World) : Fn Try.prog 37 [x.V (.slice ad x.bundle.length cap)] w fun r w' => r = .bool (!(decide (isBare x.k x.e x.t x.v x.bundle.length))) ∧ Keep [] w w' := by
  obtain ⟨k, e, t, v, bu, node, rk, re, rt, rv, well⟩ := x
  refine fn_enter Try.func37 rfl rfl ?_
  refine sp rfl ?_
  refine el_box #[.int .i64 k, .int .i64 e, .int .i64 t, .int .i64 v, .slice ad bu.length cap, .int .i64 node, .int .i64 rk, .int .i64 re, .int .i64 rt, .int .i64 rv, .bool well] rfl rfl rfl rfl ?_
  intro bb w1 e1 e1' k1 hb
  refine ep rfl ?_
  refine sp rfl ?_
  refine el_loada (vs := [.int .i64 k, .int .i64 e, .int .i64 t, .int .i64 v, .slice ad bu.length cap]) rfl rfl rfl rfl rfl rfl hb rfl ?_
  refine el_call rfl rfl rfl rfl rfl rfl (bare_ok k e t v ad bu.length cap w1) ?_
  rintro _ w2 ⟨rfl, k2⟩
  refine ep rfl ?_
  exact ew_ret (ret_1 _ rfl rfl rfl rfl ⟨rfl, k1.trans0 k2⟩)
theorem suchT_ok (x : WorD) (ad : Option Addr) (cap : Nat) (w : World) : Fn Try.prog 39 [x.V (.slice ad x.bundle.length cap)] w fun r w' => r = .bool (decide (isBare x.k x.e x.t x.v x.bundle.length)) ∧ Keep [] w w' := by
  obtain ⟨k, e, t, v, bu, node, rk, re, rt, rv, well⟩ := x
  refine fn_enter Try.func39 rfl rfl ?_
  refine sp rfl ?_
  refine el_box #[.int .i64 k, .int .i64 e, .int .i64 t, .int .i64 v, .slice ad bu.length cap, .int .i64 node, .int .i64 rk, .int .i64 re, .int .i64 rt, .int .i64 rv, .bool well] rfl rfl rfl rfl ?_
  intro bb w1 e1 e1' k1 hb
  refine ep rfl ?_
  refine sp rfl ?_
  refine el_loada (vs := [.int .i64 k, .int .i64 e, .int .i64 t, .int .i64 v, .slice ad bu.length cap]) rfl rfl rfl rfl rfl rfl hb rfl ?_
  refine el_call rfl rfl rfl rfl rfl rfl (bare_ok k e t v ad bu.length cap w1) ?_
  rintro _ w2 ⟨rfl, k2⟩
  refine ep rfl ?_
  exact ew_ret (ret_1 _ rfl rfl rfl rfl ⟨rfl, k1.trans0 k2⟩)

theorem oneO_ok (v : Value) (all : List UInt8) (w0 : World) (hv : RdB w0 v all) (hal : all.length ≤ 70368744177664) : Fn Try.prog 36 [v, .func (.func 37) #[] #[]] w0 fun r w' => ∃ u, r = .tuple #[(readOR all).1.V u, .int .i64 (readOR all).2] ∧ OwnB 5 w' w0.heap.size u (readOR all).1.bundle ∧ Keep [] w0 w' := by
  obtain ⟨ad, cap, rfl, hcap⟩ := hv.slice
  refine fn_enter Try.func36 rfl rfl ?_
  refine sp rfl ?_
  refine el_alloc (z := wordZ) zeroA rfl rfl rfl rfl ?_
  intro zb w1 z1 z1' k1 hz1
  refine ep rfl ?_
  refine sp rfl ?_
  refine el_call rfl rfl rfl rfl rfl rfl (Read_ok _ all w1 (hv.keep0 k1) hal) ?_
  rintro _ w2 ⟨u, rfl, hu2, k2⟩
  obtain ⟨⟨x, e⟩, hxe⟩ : ∃ s, readR all = s := ⟨_, rfl⟩
  rw [hxe] at hu2
  rw [hxe]
  dsimp only at hu2
  obtain ⟨adu, capu, rfl, hcu⟩ := own_slice hu2
  have hz2 := k2.blk hz1 (by simp)
  have k02 := k1.trans0 k2
  refine pp rfl ?_
  refine el_alloc (z := wordZ) zeroA rfl rfl rfl rfl ?_
  intro wb w3 z3 z3' k3 hw3
  refine el_store (wordL x.k x.e x.t x.v (.slice adu x.bundle.length capu) x.node x.rk x.re x.rt x.rv x.well).toArray rfl rfl rfl rfl rfl rfl rfl rfl hw3 rfl rfl ?_
  intro w4 k4 hs4 hw4
  have k24 : Keep [] w2 w4 := k3.trans k4 (by simp; omega)
  have hz4 := k24.blk hz2 (by simp)
  have hu4 := own_keep hu2 k24 (by simp)
  have k04 := k02.trans0 k24
  refine ep rfl ?_
  refine ew_seq (spn 1 rfl ?_)
  by_cases he : e = 0
  · have hrw : readW all = some x := by
      unfold readR at hxe
      cases hq : readW all with
      | none =>
        rw [hq] at hxe
        injection hxe with h1 h2
        subst h2
        cases he
      | some y =>
        rw [hq] at hxe
        injection hxe with h1 h2
        rw [h1]
    have hb := bare_iff (readW_E hrw)
    subst he
    refine el_eqi (a := 0) (b := 0) (k := .i64) true rfl rfl rfl rfl rfl ?_
    refine pp rfl ?_
    refine el_loada (vs := wordL x.k x.e x.t x.v (.slice adu x.bundle.length capu) x.node x.rk x.re x.rt x.rv x.well) rfl rfl rfl rfl rfl rfl hw4 rfl ?_
    refine el_callv (first := []) (captured := []) rfl rfl rfl Try.func37 rfl rfl rfl (suchO_ok x adu capu w4) ?_
    rintro _ w5 ⟨rfl, k5⟩
    have hz5 := k5.blk hz4 (by simp)
    have hw5 := k5.blk hw4 (by simp)
    have hu5 := own_keep hu4 k5 (by simp)
    have k05 := k04.trans0 k5
    by_cases hrk : x.rk ≠ 0
    · rw [decide_eq_true (hb.2 hrk)]
      refine ep rfl ?_
      refine ew_cond_t rfl rfl ?_
      refine sp rfl ?_
      refine el_build (z := wordZ) (vs := wordL 0 0 0 0 (.slice none 0 0) 0 0 0 0 0 false) rfl rfl rfl rfl rfl rfl ?_
      refine el_store zeroA rfl rfl rfl rfl rfl rfl rfl rfl hz5 rfl rfl ?_
      intro w6 k6 hs6 hz6
      refine ep rfl ?_
      have hrd : readOR all = (zeroW, 271) := by
        unfold readOR
        rw [hrw]
        simp [hrk]
      rw [hrd]
      exact ew_ret (ret_l [.agg zeroA, .int .i64 271] rfl rfl ⟨⟨_, rfl, rfl, run_loadVarA rfl rfl rfl hz6⟩, ⟨rfl, rfl⟩, trivial⟩ ⟨.slice none 0 0, rfl, World.ownsRow_nil _ _ _ _, k05.trans k6 (by simp; omega)⟩)
    · rw [decide_eq_false (fun h => hrk (hb.1 h))]
      refine ep rfl ?_
      refine ew_cond_f rfl rfl ?_
      refine ew_skip ?_
      refine sp rfl ?_
      refine el_loada (vs := wordL x.k x.e x.t x.v (.slice adu x.bundle.length capu) x.node x.rk x.re x.rt x.rv x.well) rfl rfl rfl rfl rfl rfl hw5 rfl ?_
      refine pp rfl ?_
      refine el_store (wordL x.k x.e x.t x.v (.slice adu x.bundle.length capu) x.node x.rk x.re x.rt x.rv x.well).toArray rfl rfl rfl rfl rfl rfl rfl rfl hz5 rfl rfl ?_
      intro w6 k6 hs6 hz6
      refine ep rfl ?_
      have hrd : readOR all = (x, 0) := by
        unfold readOR
        rw [hrw]
        simp [hrk]
      rw [hrd]
      exact ew_ret (ret_l [.agg (wordL x.k x.e x.t x.v (.slice adu x.bundle.length capu) x.node x.rk x.re x.rt x.rv x.well).toArray, .int .i64 0] rfl rfl ⟨⟨_, rfl, rfl, run_loadVarA rfl rfl rfl hz6⟩, ⟨rfl, rfl⟩, trivial⟩ ⟨.slice adu x.bundle.length capu, rfl, own_lower (own_keep hu5 k6 (own_ne hu5 hz5 (by decide))) k1.size, k05.trans k6 (by simp; omega)⟩)
  · have hrd : readR all = readOR all ∧ x = zeroW := by
      unfold readR at hxe ⊢
      unfold readOR
      cases hq : readW all with
      | none =>
        rw [hq] at hxe
        injection hxe with h1 h2
        exact ⟨rfl, h1.symm⟩
      | some y =>
        rw [hq] at hxe
        injection hxe with h1 h2
        exact absurd h2.symm he
    rw [hxe] at hrd
    obtain ⟨hrd, rfl⟩ := hrd
    rw [← hrd]
    refine el_eqi (a := e) (b := 0) (k := .i64) false (by simpa using he) rfl rfl rfl rfl ?_
    refine ep rfl ?_
    refine ew_cond_f rfl rfl ?_
    refine ew_skip ?_
    refine sp rfl ?_
    refine el_loada (vs := wordL 0 0 0 0 (.slice adu 0 capu) 0 0 0 0 0 false) rfl rfl rfl rfl rfl rfl hw4 rfl ?_
    refine pp rfl ?_
    refine el_store (wordL 0 0 0 0 (.slice adu 0 capu) 0 0 0 0 0 false).toArray rfl rfl rfl rfl rfl rfl rfl rfl hz4 rfl rfl ?_
    intro w5 k5 hs5 hz5
    refine ep rfl ?_
    have k05 : Keep [] w0 w5 := k04.trans k5 (by simp; omega)
    exact ew_ret (ret_l [.agg (wordL 0 0 0 0 (.slice adu 0 capu) 0 0 0 0 0 false).toArray, .int .i64 e] rfl rfl ⟨⟨_, rfl, rfl, run_loadVarA rfl rfl rfl hz5⟩, ⟨rfl, rfl⟩, trivial⟩ ⟨.slice adu 0 capu, rfl, own_lower (own_keep hu4 k5 (own_ne hu4 hz4 (by decide))) k1.size, k05⟩)
theorem oneT_ok (v : Value) (all : List UInt8) (w0 : World) (hv : RdB w0 v all) (hal : all.length ≤ 70368744177664) : Fn Try.prog 36 [v, .func (.func 39) #[] #[]] w0 fun r w' => ∃ u, r = .tuple #[(readTR all).1.V u, .int .i64 (readTR all).2] ∧ OwnB 5 w' w0.heap.size u (readTR all).1.bundle ∧ Keep [] w0 w' := by
  obtain ⟨ad, cap, rfl, hcap⟩ := hv.slice
  refine fn_enter Try.func36 rfl rfl ?_
  refine sp rfl ?_
  refine el_alloc (z := wordZ) zeroA rfl rfl rfl rfl ?_
  intro zb w1 z1 z1' k1 hz1
  refine ep rfl ?_
  refine sp rfl ?_
  refine el_call rfl rfl rfl rfl rfl rfl (Read_ok _ all w1 (hv.keep0 k1) hal) ?_
  rintro _ w2 ⟨u, rfl, hu2, k2⟩
  obtain ⟨⟨x, e⟩, hxe⟩ : ∃ s, readR all = s := ⟨_, rfl⟩
  rw [hxe] at hu2
  rw [hxe]
  dsimp only at hu2
  obtain ⟨adu, capu, rfl, hcu⟩ := own_slice hu2
  have hz2 := k2.blk hz1 (by simp)
  have k02 := k1.trans0 k2
  refine pp rfl ?_
  refine el_alloc (z := wordZ) zeroA rfl rfl rfl rfl ?_
  intro wb w3 z3 z3' k3 hw3
  refine el_store (wordL x.k x.e x.t x.v (.slice adu x.bundle.length capu) x.node x.rk x.re x.rt x.rv x.well).toArray rfl rfl rfl rfl rfl rfl rfl rfl hw3 rfl rfl ?_
  intro w4 k4 hs4 hw4
  have k24 : Keep [] w2 w4 := k3.trans k4 (by simp; omega)
  have hz4 := k24.blk hz2 (by simp)
  have hu4 := own_keep hu2 k24 (by simp)
  have k04 := k02.trans0 k24
  refine ep rfl ?_
  refine ew_seq (spn 1 rfl ?_)
  by_cases he : e = 0
  · have hrw : readW all = some x := by
      unfold readR at hxe
      cases hq : readW all with
      | none =>
        rw [hq] at hxe
        injection hxe with h1 h2
        subst h2
        cases he
      | some y =>
        rw [hq] at hxe
        injection hxe with h1 h2
        rw [h1]
    have hb := bare_iff (readW_E hrw)
    subst he
    refine el_eqi (a := 0) (b := 0) (k := .i64) true rfl rfl rfl rfl rfl ?_
    refine pp rfl ?_
    refine el_loada (vs := wordL x.k x.e x.t x.v (.slice adu x.bundle.length capu) x.node x.rk x.re x.rt x.rv x.well) rfl rfl rfl rfl rfl rfl hw4 rfl ?_
    refine el_callv (first := []) (captured := []) rfl rfl rfl Try.func39 rfl rfl rfl (suchT_ok x adu capu w4) ?_
    rintro _ w5 ⟨rfl, k5⟩
    have hz5 := k5.blk hz4 (by simp)
    have hw5 := k5.blk hw4 (by simp)
    have hu5 := own_keep hu4 k5 (by simp)
    have k05 := k04.trans0 k5
    by_cases hrk : x.rk ≠ 0
    · rw [decide_eq_true (hb.2 hrk)]
      refine ep rfl ?_
      refine ew_cond_f rfl rfl ?_
      refine ew_skip ?_
      refine sp rfl ?_
      refine el_loada (vs := wordL x.k x.e x.t x.v (.slice adu x.bundle.length capu) x.node x.rk x.re x.rt x.rv x.well) rfl rfl rfl rfl rfl rfl hw5 rfl ?_
      refine pp rfl ?_
      refine el_store (wordL x.k x.e x.t x.v (.slice adu x.bundle.length capu) x.node x.rk x.re x.rt x.rv x.well).toArray rfl rfl rfl rfl rfl rfl rfl rfl hz5 rfl rfl ?_
      intro w6 k6 hs6 hz6
      refine ep rfl ?_
      have hrd : readTR all = (x, 0) := by
        unfold readTR
        rw [hrw]
        simp [hrk]
      rw [hrd]
      exact ew_ret (ret_l [.agg (wordL x.k x.e x.t x.v (.slice adu x.bundle.length capu) x.node x.rk x.re x.rt x.rv x.well).toArray, .int .i64 0] rfl rfl ⟨⟨_, rfl, rfl, run_loadVarA rfl rfl rfl hz6⟩, ⟨rfl, rfl⟩, trivial⟩ ⟨.slice adu x.bundle.length capu, rfl, own_lower (own_keep hu5 k6 (own_ne hu5 hz5 (by decide))) k1.size, k05.trans k6 (by simp; omega)⟩)
    · rw [decide_eq_false (fun h => hrk (hb.1 h))]
      refine ep rfl ?_
      refine ew_cond_t rfl rfl ?_
      refine sp rfl ?_
      refine el_build (z := wordZ) (vs := wordL 0 0 0 0 (.slice none 0 0) 0 0 0 0 0 false) rfl rfl rfl rfl rfl rfl ?_
      refine el_store zeroA rfl rfl rfl rfl rfl rfl rfl rfl hz5 rfl rfl ?_
      intro w6 k6 hs6 hz6
      refine ep rfl ?_
      have hrd : readTR all = (zeroW, 271) := by
        unfold readTR
        rw [hrw]
        simp [hrk]
      rw [hrd]
      exact ew_ret (ret_l [.agg zeroA, .int .i64 271] rfl rfl ⟨⟨_, rfl, rfl, run_loadVarA rfl rfl rfl hz6⟩, ⟨rfl, rfl⟩, trivial⟩ ⟨.slice none 0 0, rfl, World.ownsRow_nil _ _ _ _, k05.trans k6 (by simp; omega)⟩)
  · have hrd : readR all = readTR all ∧ x = zeroW := by
      unfold readR at hxe ⊢
      unfold readTR
      cases hq : readW all with
      | none =>
        rw [hq] at hxe
        injection hxe with h1 h2
        exact ⟨rfl, h1.symm⟩
      | some y =>
        rw [hq] at hxe
        injection hxe with h1 h2
        exact absurd h2.symm he
    rw [hxe] at hrd
    obtain ⟨hrd, rfl⟩ := hrd
    rw [← hrd]
    refine el_eqi (a := e) (b := 0) (k := .i64) false (by simpa using he) rfl rfl rfl rfl ?_
    refine ep rfl ?_
    refine ew_cond_f rfl rfl ?_
    refine ew_skip ?_
    refine sp rfl ?_
    refine el_loada (vs := wordL 0 0 0 0 (.slice adu 0 capu) 0 0 0 0 0 false) rfl rfl rfl rfl rfl rfl hw4 rfl ?_
    refine pp rfl ?_
    refine el_store (wordL 0 0 0 0 (.slice adu 0 capu) 0 0 0 0 0 false).toArray rfl rfl rfl rfl rfl rfl rfl rfl hz4 rfl rfl ?_
    intro w5 k5 hs5 hz5
    refine ep rfl ?_
    have k05 : Keep [] w0 w5 := k04.trans k5 (by simp; omega)
    exact ew_ret (ret_l [.agg (wordL 0 0 0 0 (.slice adu 0 capu) 0 0 0 0 0 false).toArray, .int .i64 e] rfl rfl ⟨⟨_, rfl, rfl, run_loadVarA rfl rfl rfl hz5⟩, ⟨rfl, rfl⟩, trivial⟩ ⟨.slice adu 0 capu, rfl, own_lower (own_keep hu4 k5 (own_ne hu4 hz4 (by decide))) k1.size, k05⟩)

theorem ReadOrder_ok (v : Value) (all : List UInt8) (w0 : World) (hv : RdB w0 v all) (hal : all.length ≤ 70368744177664) : Fn Try.prog 14 [v] w0 fun r w' => ∃ u, r = .tuple #[.agg #[.int .i64 (readOR all).1.k, .int .i64 (readOR all).1.e, .int .i64 (readOR all).1.t, .int .i64 (readOR all).1.v, u], .int .i64 (readOR all).2] ∧ OwnB 5 w' w0.heap.size u (readOR all).1.bundle ∧ Keep [] w0 w' := by
  refine fn_enter Try.func14 rfl rfl ?_
  refine sp rfl ?_
  refine el_alloc (z := .agg #[.int .i64 0, .int .i64 0, .int .i64 0, .int .i64 0, .slice none 0 0]) #[.int .i64 0, .int .i64 0, .int .i64 0, .int .i64 0, .slice none 0 0] rfl rfl rfl rfl ?_
  intro zb w1 z1 z1' k1 hz1
  refine ep rfl ?_
  refine sp rfl ?_
  refine el_call rfl rfl rfl rfl rfl rfl (oneO_ok v all w1 (hv.keep0 k1) hal) ?_
  rintro _ w2 ⟨u, rfl, hu2, k2⟩
  obtain ⟨⟨x, e⟩, hxe⟩ : ∃ s, readOR all = s := ⟨_, rfl⟩
  rw [hxe] at hu2 ⊢
  dsimp only at hu2
  obtain ⟨adu, capu, rfl, hcu⟩ := own_slice hu2
  have hz2 := k2.blk hz1 (by simp)
  have k02 := k1.trans0 k2
  refine pp rfl ?_
  refine el_alloc (z := wordZ) zeroA rfl rfl rfl rfl ?_
  intro wb w3 z3 z3' k3 hw3
  refine el_store (wordL x.k x.e x.t x.v (.slice adu x.bundle.length capu) x.node x.rk x.re x.rt x.rv x.well).toArray rfl rfl rfl rfl rfl rfl rfl rfl hw3 rfl rfl ?_
  intro w4 k4 hs4 hw4
  have k24 : Keep [] w2 w4 := k3.trans k4 (by simp; omega)
  have hz4 := k24.blk hz2 (by simp)
  have hu4 := own_keep hu2 k24 (by simp)
  have k04 := k02.trans0 k24
  refine ep rfl ?_
  refine sp rfl ?_
  refine el_loada (vs := [.int .i64 x.k, .int .i64 x.e, .int .i64 x.t, .int .i64 x.v, .slice adu x.bundle.length capu]) rfl rfl rfl rfl rfl rfl hw4 rfl ?_
  refine pp rfl ?_
  refine el_store #[.int .i64 x.k, .int .i64 x.e, .int .i64 x.t, .int .i64 x.v, .slice adu x.bundle.length capu] rfl rfl rfl rfl rfl rfl rfl rfl hz4 rfl rfl ?_
  intro w5 k5 hs5 hz5
  refine ep rfl ?_
  exact ew_ret (ret_l [.agg #[.int .i64 x.k, .int .i64 x.e, .int .i64 x.t, .int .i64 x.v, .slice adu x.bundle.length capu], .int .i64 e] rfl rfl ⟨⟨_, rfl, rfl, run_loadVarA rfl rfl rfl hz5⟩, ⟨rfl, rfl⟩, trivial⟩ ⟨.slice adu x.bundle.length capu, rfl, own_lower (own_keep hu4 k5 (own_ne hu4 hz4 (by decide))) k1.size, k04.trans k5 (by simp; omega)⟩)

theorem ReadReport_ok (v : Value) (all : List UInt8) (w0 : World) (hv : RdB w0 v all) (hal : all.length ≤ 70368744177664) : Fn Try.prog 15 [v] w0 fun r w' => r = .tuple #[.int .i64 (readTR all).1.node, .agg #[.int .i64 (readTR all).1.rk, .int .i64 (readTR all).1.re, .int .i64 (readTR all).1.rt, .int .i64 (readTR all).1.rv], .bool (readTR all).1.well, .int .i64 (readTR all).2] ∧ Keep [] w0 w' := by
  refine fn_enter Try.func15 rfl rfl ?_
  refine sp rfl ?_
  refine el_alloc (z := .agg #[.int .i64 0, .int .i64 0, .int .i64 0, .int .i64 0]) #[.int .i64 0, .int .i64 0, .int .i64 0, .int .i64 0] rfl rfl rfl rfl ?_
  intro zb w1 z1 z1' k1 hz1
  refine ep rfl ?_
  refine sp rfl ?_
  refine el_call rfl rfl rfl rfl rfl rfl (oneT_ok v all w1 (hv.keep0 k1) hal) ?_
  rintro _ w2 ⟨u, rfl, hu2, k2⟩
  obtain ⟨⟨x, e⟩, hxe⟩ : ∃ s, readTR all = s := ⟨_, rfl⟩
  rw [hxe] at hu2 ⊢
  dsimp only at hu2
  obtain ⟨adu, capu, rfl, hcu⟩ := own_slice hu2
  have hz2 := k2.blk hz1 (by simp)
  have k02 := k1.trans0 k2
  refine pp rfl ?_
  refine el_alloc (z := wordZ) zeroA rfl rfl rfl rfl ?_
  intro wb w3 z3 z3' k3 hw3
  refine pp rfl ?_
  refine el_store (wordL x.k x.e x.t x.v (.slice adu x.bundle.length capu) x.node x.rk x.re x.rt x.rv x.well).toArray rfl rfl rfl rfl rfl rfl rfl rfl hw3 rfl rfl ?_
  intro w4 k4 hs4 hw4
  have k24 : Keep [] w2 w4 := k3.trans k4 (by simp; omega)
  have hz4 := k24.blk hz2 (by simp)
  have k04 := k02.trans0 k24
  have hne : wb ≠ zb := by have := Blk.lt hz2; omega
  refine ep rfl ?_
  refine ew_seq ?_
  let W5 : Value := .pointer (some ⟨wb, 5, none⟩)
  let W6 : Value := .pointer (some ⟨wb, 6, none⟩)
  refine ew_draw follows [.known W5, .known W5, .known (.int .i64 x.node), .known W5, .known W6, .known (.agg #[.int .i64 x.rk, .int .i64 x.re, .int .i64 x.rt, .int .i64 x.rv]), .known W5, .known (.pointer (some ⟨wb, 10, none⟩)), .known (.bool x.well), .known (.int .i64 e), .known (.int .i64 x.node), .known undef, .known (.bool x.well), .known (.int .i64 e)] [zb]
    (fun b w => Blk w wb 48 (wordL x.k x.e x.t x.v (.slice adu x.bundle.length capu) x.node x.rk x.re x.rt x.rv x.well).toArray ∧ Blk w zb 36 #[cond (b 11) (.int .i64 x.rk) (.int .i64 0), cond (b 11) (.int .i64 x.re) (.int .i64 0), cond (b 11) (.int .i64 x.rt) (.int .i64 0), cond (b 11) (.int .i64 x.rv) (.int .i64 0)]) rfl (stable_known _ rfl) ⟨hw4, hz4⟩ ?_ ?_
  refine ⟨pureD rfl (fun _ _ => rfl) (fun _ _ h => h), ?_⟩
  refine ⟨pureD rfl (fun _ _ => rfl) (fun _ _ h => h), ?_⟩
  refine ⟨fun b V ρ w hk hbi hd hu hWd hV => el_loadb rfl rfl rfl rfl rfl hWd.1 rfl (el_nil ⟨_, rfl, rfl, Keep.refl _ _, hWd⟩), ?_⟩
  refine ⟨pureD rfl (fun _ _ => rfl) (fun _ _ h => h), ?_⟩
  refine ⟨pureD rfl (fun _ _ => rfl) (fun _ _ h => h), ?_⟩
  refine ⟨fun b V ρ w hk hbi hd hu hWd hV => el_loada (vs := [.int .i64 x.rk, .int .i64 x.re, .int .i64 x.rt, .int .i64 x.rv]) rfl rfl rfl rfl rfl rfl hWd.1 rfl (el_nil ⟨_, rfl, rfl, Keep.refl _ _, hWd⟩), ?_⟩
  refine ⟨pureD rfl (fun _ _ => rfl) (fun _ _ h => h), ?_⟩
  refine ⟨pureD rfl (fun _ _ => rfl) (fun _ _ h => h), ?_⟩
  refine ⟨fun b V ρ w hk hbi hd hu hWd hV => el_loadb rfl rfl rfl rfl rfl hWd.1 rfl (el_nil ⟨_, rfl, rfl, Keep.refl _ _, hWd⟩), ?_⟩
  refine ⟨pureD rfl (fun _ _ => rfl) (fun _ _ h => h), ?_⟩
  refine ⟨pureD rfl (fun _ _ => rfl) (fun _ _ h => h), ?_⟩
  refine ⟨fun b V ρ w hk hbi hd hu hWd hV => el_store #[.int .i64 x.rk, .int .i64 x.re, .int .i64 x.rt, .int .i64 x.rv] rfl rfl rfl rfl rfl rfl rfl rfl hWd.2 rfl rfl fun w2 k2 hs2 hb2 => el_nil ⟨_, rfl, rfl, k2, k2.blk hWd.1 (by simp; omega), hb2⟩, ?_⟩
  refine ⟨pureD rfl (fun _ _ => rfl) (fun _ _ h => h), ?_⟩
  refine ⟨pureD rfl (fun _ _ => rfl) (fun _ _ h => h), ?_⟩
  trivial
  intro b V w8 hall k8 hWd hV
  have hB := hWd.2
  rw [hall 11 (by decide)] at hB
  exact ew_ret (ret_l [.int .i64 x.node, .agg #[.int .i64 x.rk, .int .i64 x.re, .int .i64 x.rt, .int .i64 x.rv], .bool x.well, .int .i64 e] rfl rfl ⟨⟨rfl, rfl⟩, ⟨_, rfl, rfl, run_loadVarA rfl rfl rfl hB⟩, ⟨rfl, rfl⟩, ⟨rfl, rfl⟩, trivial⟩ ⟨rfl, k04.trans k8 (by simp; omega)⟩)
end Go.Proofs.Ytpdgfekimnmdnaa
/- Orders: reading a message, by the second hand. -/
set_option linter.unusedVariables false
set_option linter.unusedSimpArgs false
namespace Go.Proofs.Ytpdgfekimnmdnaa
open Go.RowKit
set_option maxRecDepth 20000

theorem rdN_at {all : List UInt8} {a : Nat} {f g : Int} {x e : Int} {a' : Nat} {f' : Int} (h : rdN all a f g = (x, e, a', f')) (ha : a ≤ all.length) : a' ≤ all.length := by
  have := rdStep_at (0 : Int) all a f true (fun l => numR l g) ha (fun h => ((numR_nonneg _ _).2 h).2)
  rw [show rdStep (0 : Int) all a f true (fun l => numR l g) = (x, e, a', f') from h] at this
  exact this
theorem rdN_flaw {all : List UInt8} {a : Nat} {f g : Int} (hf : f ≠ 0) : rdN all a f g = (0, f, a, f) := by simp [rdN, rdStep, hf]
theorem rdY_flaw {all : List UInt8} {a : Nat} {f g : Int} (hf : f ≠ 0) : rdY all a f g = ([], f, a, f) := by simp [rdY, rdStep, hf]
theorem rdT_flaw {all : List UInt8} {a : Nat} {f : Int} (hf : f ≠ 0) : rdT all a f = (false, f, a, f) := by simp [rdT, rdStep, hf]
theorem rdN_ef {all : List UInt8} {a : Nat} {g : Int} {x e : Int} {a' : Nat} {f' : Int} (h : rdN all a 0 g = (x, e, a', f')) : e = f' := by
  unfold rdN rdStep at h
  simp at h
  split at h
  · simp only [Prod.mk.injEq] at h
    rw [← h.2.1, ← h.2.2.2]
  · simp only [Prod.mk.injEq] at h
    rw [← h.2.1, ← h.2.2.2]
theorem rdY_ef {all : List UInt8} {a : Nat} {g : Int} {x : List UInt8} {e : Int} {a' : Nat} {f' : Int} (h : rdY all a 0 g = (x, e, a', f')) : e = f' := by
  unfold rdY rdStep at h
  simp at h
  split at h
  · simp only [Prod.mk.injEq] at h
    rw [← h.2.1, ← h.2.2.2]
  · simp only [Prod.mk.injEq] at h
    rw [← h.2.1, ← h.2.2.2]
theorem rdT_ef {all : List UInt8} {a : Nat} {x : Bool} {e : Int} {a' : Nat} {f' : Int} (h : rdT all a 0 = (x, e, a', f')) : e = f' := by
  unfold rdT rdStep at h
  simp at h
  split at h
  · simp only [Prod.mk.injEq] at h
    rw [← h.2.1, ← h.2.2.2]
  · simp only [Prod.mk.injEq] at h
    rw [← h.2.1, ← h.2.2.2]
/-- A step with what was told of the steps ahead: it goes on, or all fails. -/
theorem stick {all : List UInt8} {a : Nat} {f g : Int} {x e : Int} {a' : Nat} {f' : Int} (h : rdN all a f g = (x, e, a', f')) : (f = 0 ∧ f' = 0 ∧ stepN all g a = some (x, a')) ∨ (f = 0 ∧ f' ≠ 0 ∧ stepN all g a = none) ∨ (f ≠ 0 ∧ f' ≠ 0) := by
  by_cases hf : f = 0
  · subst hf
    have hef := rdN_ef h
    by_cases hf' : f' = 0
    · subst hf'
      subst hef
      exact .inl ⟨rfl, rfl, stepN_ok h⟩
    · exact .inr (.inl ⟨rfl, hf', stepN_err h (by rw [hef]; exact hf')⟩)
  · rw [rdN_flaw hf] at h
    simp only [Prod.mk.injEq] at h
    exact .inr (.inr ⟨hf, by rw [← h.2.2.2]; exact hf⟩)
theorem stickY {all : List UInt8} {a : Nat} {f g : Int} {x : List UInt8} {e : Int} {a' : Nat} {f' : Int} (h : rdY all a f g = (x, e, a', f')) : (f = 0 ∧ f' = 0 ∧ stepY all g a = some (x, a')) ∨ (f = 0 ∧ f' ≠ 0 ∧ stepY all g a = none) ∨ (f ≠ 0 ∧ f' ≠ 0) := by
  by_cases hf : f = 0
  · subst hf
    have hef := rdY_ef h
    by_cases hf' : f' = 0
    · subst hf'
      subst hef
      exact .inl ⟨rfl, rfl, stepY_ok h⟩
    · exact .inr (.inl ⟨rfl, hf', stepY_err h (by rw [hef]; exact hf')⟩)
  · rw [rdY_flaw hf] at h
    simp only [Prod.mk.injEq] at h
    exact .inr (.inr ⟨hf, by rw [← h.2.2.2]; exact hf⟩)
theorem stickT {all : List UInt8} {a : Nat} {f : Int} {x : Bool} {e : Int} {a' : Nat} {f' : Int} (h : rdT all a f = (x, e, a', f')) : (f = 0 ∧ f' = 0 ∧ stepT all a = some (x, a')) ∨ (f = 0 ∧ f' ≠ 0 ∧ stepT all a = none) ∨ (f ≠ 0 ∧ f' ≠ 0) := by
  by_cases hf : f = 0
  · subst hf
    have hef := rdT_ef h
    by_cases hf' : f' = 0
    · subst hf'
      subst hef
      exact .inl ⟨rfl, rfl, stepT_ok h⟩
    · exact .inr (.inl ⟨rfl, hf', stepT_err h (by rw [hef]; exact hf')⟩)
  · rw [rdT_flaw hf] at h
    simp only [Prod.mk.injEq] at h
    exact .inr (.inr ⟨hf, by rw [← h.2.2.2]; exact hf⟩)
theorem sticky_o {all : List UInt8} {k e1 f1 ep e2 f2 tu e3 f3 vv e4 f4 : Int} {bb : List UInt8} {a0 a1 a2 a3 a4 : Nat}
    (h1 : rdN all a0 0 3 = (k, e1, a1, f1)) (h2 : rdN all a1 f1 2147483647 = (ep, e2, a2, f2)) (h3 : rdN all a2 f2 2147483647 = (tu, e3, a3, f3))
    (h4 : (k = 2 ∧ bb = [] ∧ rdN all a3 f3 2147483647 = (vv, e4, a4, f4)) ∨ (k ≠ 2 ∧ vv = 0 ∧ rdY all a3 f3 80000 = (bb, e4, a4, f4))) :
    (f4 = 0 → readO all a0 = some (⟨k, ep, tu, vv, bb, 0, 0, 0, 0, 0, false⟩, a4)) ∧ (f4 ≠ 0 → readO all a0 = none) := by
  have last : (f3 = 0 ∧ f4 = 0 ∧ ((k = 2 ∧ bb = [] ∧ stepN all 2147483647 a3 = some (vv, a4)) ∨ (k ≠ 2 ∧ vv = 0 ∧ stepY all 80000 a3 = some (bb, a4)))) ∨ (f3 = 0 ∧ f4 ≠ 0 ∧ ((k = 2 ∧ stepN all 2147483647 a3 = none) ∨ (k ≠ 2 ∧ stepY all 80000 a3 = none))) ∨ (f3 ≠ 0 ∧ f4 ≠ 0) := by
    rcases h4 with ⟨hk, hb, h4⟩ | ⟨hk, hv, h4⟩
    · rcases stick h4 with ⟨q1, q2, q3⟩ | ⟨q1, q2, q3⟩ | q
      · exact .inl ⟨q1, q2, .inl ⟨hk, hb, q3⟩⟩
      · exact .inr (.inl ⟨q1, q2, .inl ⟨hk, q3⟩⟩)
      · exact .inr (.inr q)
    · rcases stickY h4 with ⟨q1, q2, q3⟩ | ⟨q1, q2, q3⟩ | q
      · exact .inl ⟨q1, q2, .inr ⟨hk, hv, q3⟩⟩
      · exact .inr (.inl ⟨q1, q2, .inr ⟨hk, q3⟩⟩)
      · exact .inr (.inr q)
  unfold readO
  rcases stick h1 with ⟨_, p1, s1⟩ | ⟨_, p1, s1⟩ | ⟨p0, _⟩
  · rw [s1]
    simp only [Option.bind_some]
    rcases stick h2 with ⟨_, p2, s2⟩ | ⟨_, p2, s2⟩ | ⟨p2, _⟩
    · rw [s2]
      simp only [Option.bind_some]
      rcases stick h3 with ⟨_, p3, s3⟩ | ⟨_, p3, s3⟩ | ⟨p3, _⟩
      · rw [s3]
        simp only [Option.bind_some]
        rcases last with ⟨_, p4, hl⟩ | ⟨_, p4, hl⟩ | ⟨p4, _⟩
        · refine ⟨fun _ => ?_, fun h => absurd p4 h⟩
          rcases hl with ⟨hk, rfl, s4⟩ | ⟨hk, rfl, s4⟩
          · rw [if_pos hk, s4]; rfl
          · rw [if_neg hk, s4]; rfl
        · refine ⟨fun h => absurd h p4, fun _ => ?_⟩
          rcases hl with ⟨hk, s4⟩ | ⟨hk, s4⟩
          · rw [if_pos hk, s4]; rfl
          · rw [if_neg hk, s4]; rfl
        · exact absurd p3 p4
      · have : f4 ≠ 0 := by
          rcases last with ⟨q, _⟩ | ⟨q, _⟩ | ⟨_, q⟩
          · exact absurd q p3
          · exact absurd q p3
          · exact q
        rw [s3]
        exact ⟨fun h => absurd h this, fun _ => rfl⟩
      · exact absurd p2 p3
    · have h3f : f3 ≠ 0 := by
        rcases stick h3 with ⟨q, _⟩ | ⟨q, _⟩ | ⟨_, q⟩
        · exact absurd q p2
        · exact absurd q p2
        · exact q
      have : f4 ≠ 0 := by
        rcases last with ⟨q, _⟩ | ⟨q, _⟩ | ⟨_, q⟩
        · exact absurd q h3f
        · exact absurd q h3f
        · exact q
      rw [s2]
      exact ⟨fun h => absurd h this, fun _ => rfl⟩
    · exact absurd p1 p2
  · have h2f : f2 ≠ 0 := by
      rcases stick h2 with ⟨q, _⟩ | ⟨q, _⟩ | ⟨_, q⟩
      · exact absurd q p1
      · exact absurd q p1
      · exact q
    have h3f : f3 ≠ 0 := by
      rcases stick h3 with ⟨q, _⟩ | ⟨q, _⟩ | ⟨_, q⟩
      · exact absurd q h2f
      · exact absurd q h2f
      · exact q
    have : f4 ≠ 0 := by
      rcases last with ⟨q, _⟩ | ⟨q, _⟩ | ⟨_, q⟩
      · exact absurd q h3f
      · exact absurd q h3f
      · exact q
    rw [s1]
    exact ⟨fun h => absurd h this, fun _ => rfl⟩
  · exact absurd rfl p0
theorem stick_on {all : List UInt8} {a : Nat} {f g : Int} {x e : Int} {a' : Nat} {f' : Int} (h : rdN all a f g = (x, e, a', f')) (hf : f ≠ 0) : f' ≠ 0 := by
  rcases stick h with ⟨q, _⟩ | ⟨q, _⟩ | ⟨_, q⟩
  · exact absurd q hf
  · exact absurd q hf
  · exact q
theorem stickT_on {all : List UInt8} {a : Nat} {f : Int} {x : Bool} {e : Int} {a' : Nat} {f' : Int} (h : rdT all a f = (x, e, a', f')) (hf : f ≠ 0) : f' ≠ 0 := by
  rcases stickT h with ⟨q, _⟩ | ⟨q, _⟩ | ⟨_, q⟩
  · exact absurd q hf
  · exact absurd q hf
  · exact q
theorem sticky_t {all : List UInt8} {n1 e1 f1 n2 e2 f2 n3 e3 f3 n4 e4 f4 n5 e5 f5 e6 f6 : Int} {we : Bool} {a0 a1 a2 a3 a4 a5 a6 : Nat}
    (h1 : rdN all a0 0 63 = (n1, e1, a1, f1)) (h2 : rdN all a1 f1 4 = (n2, e2, a2, f2)) (h3 : rdN all a2 f2 2147483647 = (n3, e3, a3, f3)) (h4 : rdN all a3 f3 2147483647 = (n4, e4, a4, f4)) (h5 : rdN all a4 f4 2147483647 = (n5, e5, a5, f5)) (h6 : rdT all a5 f5 = (we, e6, a6, f6)) :
    (f6 = 0 → readT all a0 = some (⟨0, 0, 0, 0, [], n1, n2, n3, n4, n5, we⟩, a6)) ∧ (f6 ≠ 0 → readT all a0 = none) := by
  unfold readT
  rcases stick h1 with ⟨_, p1, s1⟩ | ⟨_, p1, s1⟩ | ⟨p0, _⟩
  · rw [s1]
    simp only [Option.bind_some]
    rcases stick h2 with ⟨_, p2, s2⟩ | ⟨_, p2, s2⟩ | ⟨p2, _⟩
    · rw [s2]
      simp only [Option.bind_some]
      rcases stick h3 with ⟨_, p3, s3⟩ | ⟨_, p3, s3⟩ | ⟨p3, _⟩
      · rw [s3]
        simp only [Option.bind_some]
        rcases stick h4 with ⟨_, p4, s4⟩ | ⟨_, p4, s4⟩ | ⟨p4, _⟩
        · rw [s4]
          simp only [Option.bind_some]
          rcases stick h5 with ⟨_, p5, s5⟩ | ⟨_, p5, s5⟩ | ⟨p5, _⟩
          · rw [s5]
            simp only [Option.bind_some]
            rcases stickT h6 with ⟨_, p6, s6⟩ | ⟨_, p6, s6⟩ | ⟨p6, _⟩
            · rw [s6]
              exact ⟨fun _ => rfl, fun h => absurd p6 h⟩
            · rw [s6]
              exact ⟨fun h => absurd h p6, fun _ => rfl⟩
            · exact absurd p5 p6
          · rw [s5]
            exact ⟨fun h => absurd h (stickT_on h6 p5), fun _ => rfl⟩
          · exact absurd p4 p5
        · rw [s4]
          exact ⟨fun h => absurd h (stickT_on h6 (stick_on h5 p4)), fun _ => rfl⟩
        · exact absurd p3 p4
      · rw [s3]
        exact ⟨fun h => absurd h (stickT_on h6 (stick_on h5 (stick_on h4 p3))), fun _ => rfl⟩
      · exact absurd p2 p3
    · rw [s2]
      exact ⟨fun h => absurd h (stickT_on h6 (stick_on h5 (stick_on h4 (stick_on h3 p2)))), fun _ => rfl⟩
    · exact absurd p1 p2
  · rw [s1]
    exact ⟨fun h => absurd h (stickT_on h6 (stick_on h5 (stick_on h4 (stick_on h3 (stick_on h2 p1))))), fun _ => rfl⟩
  · exact absurd rfl p0
end Go.Proofs.Ytpdgfekimnmdnaa
/- Orders: reading a message, by the second hand: the walk. -/
set_option linter.unusedVariables false
set_option linter.unusedSimpArgs false
namespace Go.Proofs.Ytpdgfekimnmdnaa
open Go.RowKit
set_option maxRecDepth 20000

theorem ew_join {P : Program} {r : Option Nat} {N : Nat} {Q : Post} {ρ : Env} {w : World} {α : Type} {x y : Code} (S : α → List (Nat × Value)) (I : α → World → Prop)
    (hx : EW P r N x (thenP (fun ρ' w' => ρ'.ds = ρ.ds ∧ ∃ z, Mt ρ' (S z) ∧ I z w') Q) ρ w)
    (hy : ∀ (z : α) (ρ' : Env) (w' : World), ρ'.ds = ρ.ds → I z w' → EW P r N y Q (ρ'.ups (S z)) w') : EW P r N (x.seq y) Q ρ w :=
  ew_seq (EW.mono hx fun e ρ' w' h => by
    cases e with
    | normal =>
      obtain ⟨hd, z, hm, hi⟩ := h
      have := hy z ρ' w' hd hi
      rw [ups_id hm] at this
      exact this
    | _ => exact h)

theorem refn_at {v : Value} {all : List UInt8} {a : Nat} {f g : Int} {w : World} {x e : Int} {a' : Nat} {f' : Int} (h : rdN all a f g = (x, e, a', f')) (hg : decide (g ≥ 0) = true) (hv : RdB w v all) (hal : all.length ≤ 70368744177664) (hat : a ≤ all.length) :
    Fn Try.prog 48 [rdr v a f, .int .i64 g] w fun r w' => r = Rtn v (.int .i64 x) e a' f' ∧ Keep [] w w' := by
  have hs := refrn_ok v all a f g w hv hal hat
  rw [hg] at hs
  have e1 : (rdStep (0 : Int) all a f true fun l => numR l g) = (x, e, a', f') := h
  rw [e1] at hs
  exact hs
theorem refb_at {v : Value} {all : List UInt8} {a : Nat} {f g : Int} {w : World} {x : List UInt8} {e : Int} {a' : Nat} {f' : Int} (h : rdY all a f g = (x, e, a', f')) (hg : decide (g ≥ 0) = true) (hv : RdB w v all) (hal : all.length ≤ 70368744177664) (hat : a ≤ all.length) :
    Fn Try.prog 49 [rdr v a f, .int .i64 g] w fun r w' => ∃ u, r = Rtn v u e a' f' ∧ RdB w' u x ∧ Keep [] w w' ∧ ∀ b, u.ownBlock = some b → v.ownBlock = some b := by
  have hs := refrb_ok v all a f g w hv hal hat
  rw [hg] at hs
  have e1 : (rdStep ([] : List UInt8) all a f true fun l => bytesR l g) = (x, e, a', f') := h
  rw [e1] at hs
  exact hs
theorem reft_at {v : Value} {all : List UInt8} {a : Nat} {f : Int} {w : World} {x : Bool} {e : Int} {a' : Nat} {f' : Int} (h : rdT all a f = (x, e, a', f')) (hv : RdB w v all) (hal : all.length ≤ 70368744177664) (hat : a ≤ all.length) :
    Fn Try.prog 50 [rdr v a f] w fun r w' => r = Rtn v (.bool x) e a' f' ∧ Keep [] w w' := by
  have hs := refrt_ok v all a f w hv hal hat
  have e1 : (rdStep false all a f true truthR) = (x, e, a', f') := h
  rw [e1] at hs
  exact hs
theorem bytesR_len (l : List UInt8) (g : Int) (h : (bytesR l g).2.1 = 0) : (bytesR l g).2.2 ≤ l.length := by
  unfold bytesR at h ⊢
  by_cases h1 : (numR l g).2.1 ≠ 0
  · rw [if_pos h1] at h
    exact absurd h h1
  · rw [if_neg h1] at h ⊢
    by_cases h2 : (l.length - (numR l g).2.2 : Nat) < (numR l g).1.toNat
    · rw [if_pos h2] at h
      cases h
    · rw [if_neg h2]
      have := ((numR_nonneg l g).2 (by simpa using h1)).2
      dsimp only
      omega
theorem truthR_len (l : List UInt8) (h : (truthR l).2.1 = 0) : (truthR l).2.2 ≤ l.length := by
  cases l with
  | nil => exact Nat.le_refl _
  | cons c r =>
    unfold truthR at h ⊢
    dsimp only at h ⊢
    by_cases h1 : 1 < c.toNat
    · rw [if_pos h1] at h
      cases h
    · rw [if_neg h1]
      simp
theorem rdY_at {all : List UInt8} {a : Nat} {f g : Int} {x : List UInt8} {e : Int} {a' : Nat} {f' : Int} (h : rdY all a f g = (x, e, a', f')) (ha : a ≤ all.length) : a' ≤ all.length := by
  have := rdStep_at ([] : List UInt8) all a f true (fun l => bytesR l g) ha (fun h => bytesR_len _ _ h)
  rw [show rdStep ([] : List UInt8) all a f true (fun l => bytesR l g) = (x, e, a', f') from h] at this
  exact this
theorem rdT_at {all : List UInt8} {a : Nat} {f : Int} {x : Bool} {e : Int} {a' : Nat} {f' : Int} (h : rdT all a f = (x, e, a', f')) (ha : a ≤ all.length) : a' ≤ all.length := by
  have := rdStep_at false all a f true truthR ha (fun h => truthR_len _ h)
  rw [show rdStep false all a f true truthR = (x, e, a', f') from h] at this
  exact this

def RefQ (v : Value) (RD : List UInt8 → WorD × Int) (all : List UInt8) (w0 : World) (r : Value) (w' : World) : Prop := ∃ u, r = .tuple #[(RD all).1.V u, .int .i64 (RD all).2] ∧ RdB w' u (RD all).1.bundle ∧ ((RD all).1.bundle ≠ [] → ∀ b, u.ownBlock = some b → v.ownBlock = some b ∧ b < w0.heap.size) ∧ Keep [] w0 w'
structure RefM (all : List UInt8) (w0 : World) (zb b4 b7 : Nat) (ad : Option Addr) (cap : Nat) (z : Option Addr × Nat × WorD × Nat × Int) (W : World) : Prop where
  kw : Keep [] w0 W
  hz : Blk W zb 48 zeroA
  h4 : Blk W b4 92 #[.slice ad all.length cap, .int .i64 (z.2.2.2.1 : Int), .int .i64 z.2.2.2.2]
  h7 : Blk W b7 48 (wordL z.2.2.1.k z.2.2.1.e z.2.2.1.t z.2.2.1.v (.slice z.1 z.2.2.1.bundle.length z.2.1) z.2.2.1.node z.2.2.1.rk z.2.2.1.re z.2.2.1.rt z.2.2.1.rv z.2.2.1.well).toArray
  hu : RdB W (.slice z.1 z.2.2.1.bundle.length z.2.1) z.2.2.1.bundle
  hul : z.2.2.1.bundle ≠ [] → ∀ b, (Value.slice z.1 z.2.2.1.bundle.length z.2.1).ownBlock = some b → (Value.slice ad all.length cap).ownBlock = some b ∧ b < w0.heap.size
  hbn : z.2.2.1.bundle.length ≤ 9223372036854775807
  hat : z.2.2.2.1 ≤ all.length
  hgood : z.2.2.2.2 = 0 → z.2.2.2.1 = all.length → z.2.2.1.E = 0 → readW all = some z.2.2.1
  hbad : ¬ (z.2.2.2.2 = 0 ∧ z.2.2.2.1 = all.length ∧ z.2.2.1.E = 0) → readW all = none
set_option maxHeartbeats 40000000 in
theorem refRead_ok (v : Value) (all : List UInt8) (w0 : World) (hv0 : RdB w0 v all) (hal : all.length ≤ 70368744177664) : Fn Try.prog 22 [v] w0 (RefQ v readR all w0) := by
  obtain ⟨⟨n, e0, a0, f0⟩, hS0⟩ : ∃ s, rdN all 0 0 2 = s := ⟨_, rfl⟩
  have ha0 := rdN_at hS0 (Nat.zero_le _)
  obtain ⟨ad, cap, rfl, hcap⟩ := hv0.slice
  refine fn_enter Try.func22 rfl rfl ?_
  refine sp rfl ?_
  refine el_alloc (z := wordZ) zeroA rfl rfl rfl rfl ?_
  intro zb w1 z1 z1' kw hz
  have hzb : w0.heap.size ≤ zb := by omega
  refine ep rfl ?_
  refine sp rfl ?_
  refine el_build (z := zr) (vs := [.slice ad all.length cap, .int .i64 0, .int .i64 0]) rfl rfl rfl rfl rfl rfl ?_
  refine el_alloc (z := zr) #[.slice none 0 0, .int .i64 0, .int .i64 0] rfl rfl rfl rfl ?_
  intro b4 w2 z2 z2' kk h4
  have hb4 : zb < b4 := by omega
  have hz := kk.blk hz (by simp)
  have kw := kw.trans0 kk
  refine el_store (b := b4) (off := 0) #[.slice ad all.length cap, .int .i64 0, .int .i64 0] rfl rfl rfl rfl rfl rfl rfl rfl h4 rfl rfl ?_
  intro w3 kk hs3 h4
  have hz := kk.blk hz (by simp; omega)
  have kw := kw.trans kk (by simp; omega)
  refine ep rfl ?_
  refine sp rfl ?_
  refine el_loada (vs := [.slice ad all.length cap, .int .i64 ((0 : Nat) : Int), .int .i64 0]) rfl rfl rfl rfl rfl rfl h4 rfl ?_
  refine el_call rfl rfl rfl rfl rfl rfl (refn_at hS0 rfl (hv0.keep0 kw) hal (Nat.zero_le _)) ?_
  rintro _ w4 ⟨rfl, kk⟩
  have hz := kk.blk hz (by simp)
  have h4 := kk.blk h4 (by simp)
  have kw := kw.trans0 kk
  refine pp rfl ?_
  refine el_store (b := b4) (off := 0) #[.slice ad all.length cap, .int .i64 (a0 : Int), .int .i64 f0] rfl rfl rfl rfl rfl rfl rfl rfl h4 rfl rfl ?_
  intro w5 kk hs5 h4
  have hz := kk.blk hz (by simp; omega)
  have kw := kw.trans kk (by simp; omega)
  refine ep rfl ?_
  refine sp rfl ?_
  refine el_build (z := wordZ) (vs := wordL 0 0 0 0 (.slice none 0 0) 0 0 0 0 0 false) rfl rfl rfl rfl rfl rfl ?_
  refine el_alloc (z := wordZ) zeroA rfl rfl rfl rfl ?_
  intro b7 w6 z6 z6' kk h7
  have hb7 : b4 < b7 := by have := Blk.lt h4; omega
  have hz := kk.blk hz (by simp)
  have h4 := kk.blk h4 (by simp)
  have kw := kw.trans0 kk
  refine el_store (b := b7) (off := 0) zeroA rfl rfl rfl rfl rfl rfl rfl rfl h7 rfl rfl ?_
  intro W kk hs7 h7
  have hz := kk.blk hz (by simp; omega)
  have kw := kw.trans kk (by simp; omega)
  have h4 := kk.blk h4 (by simp; omega)
  refine ep rfl ?_
  clear hs3 hs5 hs7 z1 z1' z2 z2' z6 z6'
  refine ew_join (α := Option Addr × Nat × WorD × Nat × Int) (fun _ => [(2, .pointer (some ⟨zb, 0, none⟩)), (4, .pointer (some ⟨b4, 0, none⟩)), (7, .pointer (some ⟨b7, 0, none⟩))]) (RefM all w0 zb b4 b7 ad cap) ?_ ?_
  · refine es rfl ?_
    refine ew_block ?_
    by_cases hn1 : n = 1
    · subst hn1
      have he0 : e0 = 0 := by
        by_cases q : e0 = 0
        · exact q
        · have := rdN_err hS0 q
          omega
      subst he0
      have hf0 := rdN_zero hS0
      subst hf0
      obtain ⟨⟨k, e1, a1, f1⟩, h1⟩ : ∃ s, rdN all a0 0 3 = s := ⟨_, rfl⟩
      obtain ⟨⟨ep_, e2, a2, f2⟩, h2⟩ : ∃ s, rdN all a1 f1 2147483647 = s := ⟨_, rfl⟩
      obtain ⟨⟨tu, e3, a3, f3⟩, h3⟩ : ∃ s, rdN all a2 f2 2147483647 = s := ⟨_, rfl⟩
      have hat1 := rdN_at h1 ha0
      have hat2 := rdN_at h2 hat1
      have hat3 := rdN_at h3 hat2
      have hrw := readW_1 hS0
      refine es rfl ?_
      refine ew_cond_t rfl rfl ?_
      refine sp rfl ?_
      refine el_loada (vs := [.slice ad all.length cap, .int .i64 (a0 : Int), .int .i64 0]) rfl rfl rfl rfl rfl rfl h4 rfl ?_
      refine el_call rfl rfl rfl rfl rfl rfl (refn_at h1 rfl (hv0.keep0 kw) hal ha0) ?_
      rintro _ Wc ⟨rfl, kk⟩
      have hz := kk.blk hz (by simp)
      have h4 := kk.blk h4 (by simp)
      have h7 := kk.blk h7 (by simp)
      have kw := kw.trans0 kk
      refine pp rfl ?_
      refine el_alloc (z := zr) #[.slice none 0 0, .int .i64 0, .int .i64 0] rfl rfl rfl rfl ?_
      intro b8 W8 hb8 hb8' kk h8
      have hb78 : b7 < b8 := by have := Blk.lt h7; omega
      have hz := kk.blk hz (by simp)
      have h4 := kk.blk h4 (by simp)
      have h7 := kk.blk h7 (by simp)
      have kw := kw.trans0 kk
      refine el_store (b := b8) (off := 0) #[.slice ad all.length cap, .int .i64 (a1 : Int), .int .i64 f1] rfl rfl rfl rfl rfl rfl rfl rfl h8 rfl rfl ?_
      intro W kk hs h8
      have hz := kk.blk hz (by simp; omega)
      have kw := kw.trans kk (by simp; omega)
      have h4 := kk.blk h4 (by simp; omega)
      have h7 := kk.blk h7 (by simp; omega)
      refine ep rfl ?_
      refine sp rfl ?_
      refine el_loada (vs := [.slice ad all.length cap, .int .i64 (a1 : Int), .int .i64 f1]) rfl rfl rfl rfl rfl rfl h8 rfl ?_
      refine el_call rfl rfl rfl rfl rfl rfl (refn_at h2 rfl (hv0.keep0 kw) hal hat1) ?_
      rintro _ Wc ⟨rfl, kk⟩
      have hz := kk.blk hz (by simp)
      have h4 := kk.blk h4 (by simp)
      have h7 := kk.blk h7 (by simp)
      have kw := kw.trans0 kk
      have h8 := kk.blk h8 (by simp)
      refine pp rfl ?_
      refine el_store (b := b8) (off := 0) #[.slice ad all.length cap, .int .i64 (a2 : Int), .int .i64 f2] rfl rfl rfl rfl rfl rfl rfl rfl h8 rfl rfl ?_
      intro W kk hs h8
      have hz := kk.blk hz (by simp; omega)
      have kw := kw.trans kk (by simp; omega)
      have h4 := kk.blk h4 (by simp; omega)
      have h7 := kk.blk h7 (by simp; omega)
      refine ep rfl ?_
      refine sp rfl ?_
      refine el_loada (vs := [.slice ad all.length cap, .int .i64 (a2 : Int), .int .i64 f2]) rfl rfl rfl rfl rfl rfl h8 rfl ?_
      refine el_call rfl rfl rfl rfl rfl rfl (refn_at h3 rfl (hv0.keep0 kw) hal hat2) ?_
      rintro _ Wc ⟨rfl, kk⟩
      have hz := kk.blk hz (by simp)
      have h4 := kk.blk h4 (by simp)
      have h7 := kk.blk h7 (by simp)
      have kw := kw.trans0 kk
      have h8 := kk.blk h8 (by simp)
      refine pp rfl ?_
      refine el_store (b := b8) (off := 0) #[.slice ad all.length cap, .int .i64 (a3 : Int), .int .i64 f3] rfl rfl rfl rfl rfl rfl rfl rfl h8 rfl rfl ?_
      intro W kk hs h8
      have hz := kk.blk hz (by simp; omega)
      have kw := kw.trans kk (by simp; omega)
      have h4 := kk.blk h4 (by simp; omega)
      have h7 := kk.blk h7 (by simp; omega)
      refine ep rfl ?_
      refine sp rfl ?_
      refine el_store (b := b7) (off := 0) (wordL k 0 0 0 (.slice none 0 0) 0 0 0 0 0 false).toArray rfl rfl rfl rfl rfl rfl rfl rfl h7 rfl rfl ?_
      intro W1 kk hs h7
      have hz := kk.blk hz (by simp; omega)
      have kw := kw.trans kk (by simp; omega)
      have h4 := kk.blk h4 (by simp; omega)
      have h8 := kk.blk h8 (by simp; omega)
      refine pp rfl ?_
      refine el_store (b := b7) (off := 1) (wordL k ep_ 0 0 (.slice none 0 0) 0 0 0 0 0 false).toArray rfl rfl rfl rfl rfl rfl rfl rfl h7 rfl rfl ?_
      intro W1 kk hs h7
      have hz := kk.blk hz (by simp; omega)
      have kw := kw.trans kk (by simp; omega)
      have h4 := kk.blk h4 (by simp; omega)
      have h8 := kk.blk h8 (by simp; omega)
      refine pp rfl ?_
      refine el_store (b := b7) (off := 2) (wordL k ep_ tu 0 (.slice none 0 0) 0 0 0 0 0 false).toArray rfl rfl rfl rfl rfl rfl rfl rfl h7 rfl rfl ?_
      intro W1 kk hs h7
      have hz := kk.blk hz (by simp; omega)
      have kw := kw.trans kk (by simp; omega)
      have h4 := kk.blk h4 (by simp; omega)
      have h8 := kk.blk h8 (by simp; omega)
      refine ep rfl ?_
      refine ew_seq ?_
      refine es rfl ?_
      by_cases hk : k = 2
      · subst hk
        obtain ⟨⟨vv, e4, a4, f4⟩, hL⟩ : ∃ s, rdN all a3 f3 2147483647 = s := ⟨_, rfl⟩
        have hat4 := rdN_at hL hat3
        have hst := sticky_o (bb := []) h1 h2 h3 (.inl ⟨rfl, rfl, hL⟩)
        have hgood : f4 = 0 → a4 = all.length → ((⟨2, ep_, tu, vv, [], 0, 0, 0, 0, 0, false⟩ : WorD)).E = 0 → readW all = some (⟨2, ep_, tu, vv, [], 0, 0, 0, 0, 0, false⟩ : WorD) := fun q1 q2 q3 => by
          rw [hrw, hst.1 q1]
          simp only [fin, Option.bind_some]
          rw [if_pos ⟨q2, q3⟩]
        have hbad : ¬ (f4 = 0 ∧ a4 = all.length ∧ ((⟨2, ep_, tu, vv, [], 0, 0, 0, 0, 0, false⟩ : WorD)).E = 0) → readW all = none := fun q => by
          rw [hrw]
          by_cases q1 : f4 = 0
          · rw [hst.1 q1]
            simp only [fin, Option.bind_some]
            rw [if_neg (fun h => q ⟨q1, h⟩)]
          · rw [hst.2 q1]
            rfl
        refine ew_cond_t rfl rfl ?_
        refine gp rfl ?_
        refine el_loada (vs := [.slice ad all.length cap, .int .i64 (a3 : Int), .int .i64 f3]) rfl rfl rfl rfl rfl rfl h8 rfl ?_
        refine el_call rfl rfl rfl rfl rfl rfl (refn_at hL rfl (hv0.keep0 kw) hal hat3) ?_
        rintro _ Wc ⟨rfl, kk⟩
        have hz := kk.blk hz (by simp)
        have h4 := kk.blk h4 (by simp)
        have h7 := kk.blk h7 (by simp)
        have kw := kw.trans0 kk
        have h8 := kk.blk h8 (by simp)
        refine pp rfl ?_
        refine el_store (b := b8) (off := 0) #[.slice ad all.length cap, .int .i64 (a4 : Int), .int .i64 f4] rfl rfl rfl rfl rfl rfl rfl rfl h8 rfl rfl ?_
        intro W kk hs h8
        have hz := kk.blk hz (by simp; omega)
        have kw := kw.trans kk (by simp; omega)
        have h4 := kk.blk h4 (by simp; omega)
        have h7 := kk.blk h7 (by simp; omega)
        refine pp rfl ?_
        refine el_store (b := b7) (off := 3) (wordL 2 ep_ tu vv (.slice none 0 0) 0 0 0 0 0 false).toArray rfl rfl rfl rfl rfl rfl rfl rfl h7 rfl rfl ?_
        intro W1 kk hs h7
        have hz := kk.blk hz (by simp; omega)
        have kw := kw.trans kk (by simp; omega)
        have h4 := kk.blk h4 (by simp; omega)
        have h8 := kk.blk h8 (by simp; omega)
        refine ep rfl ?_
        refine gp rfl ?_
        refine el_loada (vs := [.slice ad all.length cap, .int .i64 (a4 : Int), .int .i64 f4]) rfl rfl rfl rfl rfl rfl h8 rfl ?_
        refine el_store (b := b4) (off := 0) #[.slice ad all.length cap, .int .i64 (a4 : Int), .int .i64 f4] rfl rfl rfl rfl rfl rfl rfl rfl h4 rfl rfl ?_
        intro W5 kk hs h4
        have hz := kk.blk hz (by simp; omega)
        have kw := kw.trans kk (by simp; omega)
        have h7 := kk.blk h7 (by simp; omega)
        refine ep rfl ?_
        exact ⟨rfl, (none, 0, ⟨2, ep_, tu, vv, [], 0, 0, 0, 0, 0, false⟩, a4, f4), ⟨rfl, rfl, rfl, trivial⟩, ⟨kw, hz, h4, h7, RdB.nil _, fun h => absurd rfl h, by show 0 ≤ _; omega, hat4, hgood, hbad⟩⟩
      · obtain ⟨⟨bb, e4, a4, f4⟩, hL⟩ : ∃ s, rdY all a3 f3 80000 = s := ⟨_, rfl⟩
        have hat4 := rdY_at hL hat3
        have hbl := rdY_len hL
        have hst := sticky_o (vv := 0) h1 h2 h3 (.inr ⟨hk, rfl, hL⟩)
        have hgood : f4 = 0 → a4 = all.length → ((⟨k, ep_, tu, 0, bb, 0, 0, 0, 0, 0, false⟩ : WorD)).E = 0 → readW all = some (⟨k, ep_, tu, 0, bb, 0, 0, 0, 0, 0, false⟩ : WorD) := fun q1 q2 q3 => by
          rw [hrw, hst.1 q1]
          simp only [fin, Option.bind_some]
          rw [if_pos ⟨q2, q3⟩]
        have hbad : ¬ (f4 = 0 ∧ a4 = all.length ∧ ((⟨k, ep_, tu, 0, bb, 0, 0, 0, 0, 0, false⟩ : WorD)).E = 0) → readW all = none := fun q => by
          rw [hrw]
          by_cases q1 : f4 = 0
          · rw [hst.1 q1]
            simp only [fin, Option.bind_some]
            rw [if_neg (fun h => q ⟨q1, h⟩)]
          · rw [hst.2 q1]
            rfl
        refine ew_cond_f rfl (decide_eq_false hk) ?_
        refine gp rfl ?_
        refine el_loada (vs := [.slice ad all.length cap, .int .i64 (a3 : Int), .int .i64 f3]) rfl rfl rfl rfl rfl rfl h8 rfl ?_
        refine el_call rfl rfl rfl rfl rfl rfl (refb_at hL rfl (hv0.keep0 kw) hal hat3) ?_
        rintro _ Wc ⟨u, rfl, hu, kk, how⟩
        obtain ⟨adu, capu, rfl, hcapu⟩ := hu.slice
        have hz := kk.blk hz (by simp)
        have h4 := kk.blk h4 (by simp)
        have h7 := kk.blk h7 (by simp)
        have kw := kw.trans0 kk
        have h8 := kk.blk h8 (by simp)
        have hul : bb ≠ [] → ∀ b, (Value.slice adu bb.length capu).ownBlock = some b → (Value.slice ad all.length cap).ownBlock = some b ∧ b < w0.heap.size := fun hne b hb => ⟨how b hb, hv0.lt (fun h => hne (by rw [h] at hbl; simpa using hbl)) (how b hb)⟩
        have kk0 := kw
        refine pp rfl ?_
        refine el_store (b := b8) (off := 0) #[.slice ad all.length cap, .int .i64 (a4 : Int), .int .i64 f4] rfl rfl rfl rfl rfl rfl rfl rfl h8 rfl rfl ?_
        intro W kk hs h8
        have hz := kk.blk hz (by simp; omega)
        have kw := kw.trans kk (by simp; omega)
        have h4 := kk.blk h4 (by simp; omega)
        have h7 := kk.blk h7 (by simp; omega)
        have hu := hu.keepx kk (fun hne b hb => by have := (hul hne b hb).2; simp; omega)
        refine pp rfl ?_
        refine el_store (b := b7) (off := 4) (wordL k ep_ tu 0 (.slice adu bb.length capu) 0 0 0 0 0 false).toArray rfl rfl rfl rfl rfl rfl rfl rfl h7 rfl rfl ?_
        intro W1 kk hs h7
        have hz := kk.blk hz (by simp; omega)
        have kw := kw.trans kk (by simp; omega)
        have h4 := kk.blk h4 (by simp; omega)
        have h8 := kk.blk h8 (by simp; omega)
        have hu := hu.keepx kk (fun hne b hb => by have := (hul hne b hb).2; simp; omega)
        refine ep rfl ?_
        refine gp rfl ?_
        refine el_loada (vs := [.slice ad all.length cap, .int .i64 (a4 : Int), .int .i64 f4]) rfl rfl rfl rfl rfl rfl h8 rfl ?_
        refine el_store (b := b4) (off := 0) #[.slice ad all.length cap, .int .i64 (a4 : Int), .int .i64 f4] rfl rfl rfl rfl rfl rfl rfl rfl h4 rfl rfl ?_
        intro W5 kk hs h4
        have hz := kk.blk hz (by simp; omega)
        have kw := kw.trans kk (by simp; omega)
        have h7 := kk.blk h7 (by simp; omega)
        refine ep rfl ?_
        have hu := hu.keepx kk (fun hne b hb => by have := (hul hne b hb).2; simp; omega)
        exact ⟨rfl, (adu, capu, ⟨k, ep_, tu, 0, bb, 0, 0, 0, 0, 0, false⟩, a4, f4), ⟨rfl, rfl, rfl, trivial⟩, ⟨kw, hz, h4, h7, hu, hul, by show bb.length ≤ _; omega, hat4, hgood, hbad⟩⟩
    · by_cases hn2 : n = 2
      · subst hn2
        have he0 : e0 = 0 := by
          by_cases q : e0 = 0
          · exact q
          · have := rdN_err hS0 q
            omega
        subst he0
        have hf0 := rdN_zero hS0
        subst hf0
        obtain ⟨⟨n1, e1, a1, f1⟩, h1⟩ : ∃ s, rdN all a0 0 63 = s := ⟨_, rfl⟩
        obtain ⟨⟨n2, e2, a2, f2⟩, h2⟩ : ∃ s, rdN all a1 f1 4 = s := ⟨_, rfl⟩
        obtain ⟨⟨n3, e3, a3, f3⟩, h3⟩ : ∃ s, rdN all a2 f2 2147483647 = s := ⟨_, rfl⟩
        obtain ⟨⟨n4, e4, a4, f4⟩, h4'⟩ : ∃ s, rdN all a3 f3 2147483647 = s := ⟨_, rfl⟩
        obtain ⟨⟨n5, e5, a5, f5⟩, h5⟩ : ∃ s, rdN all a4 f4 2147483647 = s := ⟨_, rfl⟩
        obtain ⟨⟨we, e6, a6, f6⟩, h6⟩ : ∃ s, rdT all a5 f5 = s := ⟨_, rfl⟩
        have hat1 := rdN_at h1 ha0
        have hat2 := rdN_at h2 hat1
        have hat3 := rdN_at h3 hat2
        have hat4 := rdN_at h4' hat3
        have hat5 := rdN_at h5 hat4
        have hat6 := rdT_at h6 hat5
        have hrw := readW_2 hS0
        have hst := sticky_t h1 h2 h3 h4' h5 h6
        have hgood : f6 = 0 → a6 = all.length → ((⟨0, 0, 0, 0, [], n1, n2, n3, n4, n5, we⟩ : WorD)).E = 0 → readW all = some (⟨0, 0, 0, 0, [], n1, n2, n3, n4, n5, we⟩ : WorD) := fun q1 q2 q3 => by
          rw [hrw, hst.1 q1]
          simp only [fin, Option.bind_some]
          rw [if_pos ⟨q2, q3⟩]
        have hbad : ¬ (f6 = 0 ∧ a6 = all.length ∧ ((⟨0, 0, 0, 0, [], n1, n2, n3, n4, n5, we⟩ : WorD)).E = 0) → readW all = none := fun q => by
          rw [hrw]
          by_cases q1 : f6 = 0
          · rw [hst.1 q1]
            simp only [fin, Option.bind_some]
            rw [if_neg (fun h => q ⟨q1, h⟩)]
          · rw [hst.2 q1]
            rfl
        refine es rfl ?_
        refine ew_cond_f rfl rfl ?_
        refine es rfl ?_
        refine ew_cond_t rfl rfl ?_
        refine sp rfl ?_
        refine el_loada (vs := [.slice ad all.length cap, .int .i64 (a0 : Int), .int .i64 0]) rfl rfl rfl rfl rfl rfl h4 rfl ?_
        refine el_call rfl rfl rfl rfl rfl rfl (refn_at h1 rfl (hv0.keep0 kw) hal ha0) ?_
        rintro _ Wc ⟨rfl, kk⟩
        have hz := kk.blk hz (by simp)
        have h4 := kk.blk h4 (by simp)
        have h7 := kk.blk h7 (by simp)
        have kw := kw.trans0 kk
        refine pp rfl ?_
        refine el_alloc (z := zr) #[.slice none 0 0, .int .i64 0, .int .i64 0] rfl rfl rfl rfl ?_
        intro b8 W8 hb8 hb8' kk h8
        have hb78 : b7 < b8 := by have := Blk.lt h7; omega
        have hz := kk.blk hz (by simp)
        have h4 := kk.blk h4 (by simp)
        have h7 := kk.blk h7 (by simp)
        have kw := kw.trans0 kk
        refine el_store (b := b8) (off := 0) #[.slice ad all.length cap, .int .i64 (a1 : Int), .int .i64 f1] rfl rfl rfl rfl rfl rfl rfl rfl h8 rfl rfl ?_
        intro W kk hs h8
        have hz := kk.blk hz (by simp; omega)
        have kw := kw.trans kk (by simp; omega)
        have h4 := kk.blk h4 (by simp; omega)
        have h7 := kk.blk h7 (by simp; omega)
        refine ep rfl ?_
        refine sp rfl ?_
        refine el_loada (vs := [.slice ad all.length cap, .int .i64 (a1 : Int), .int .i64 f1]) rfl rfl rfl rfl rfl rfl h8 rfl ?_
        refine el_call rfl rfl rfl rfl rfl rfl (refn_at h2 rfl (hv0.keep0 kw) hal hat1) ?_
        rintro _ Wc ⟨rfl, kk⟩
        have hz := kk.blk hz (by simp)
        have h4 := kk.blk h4 (by simp)
        have h7 := kk.blk h7 (by simp)
        have kw := kw.trans0 kk
        have h8 := kk.blk h8 (by simp)
        refine pp rfl ?_
        refine el_store (b := b8) (off := 0) #[.slice ad all.length cap, .int .i64 (a2 : Int), .int .i64 f2] rfl rfl rfl rfl rfl rfl rfl rfl h8 rfl rfl ?_
        intro W kk hs h8
        have hz := kk.blk hz (by simp; omega)
        have kw := kw.trans kk (by simp; omega)
        have h4 := kk.blk h4 (by simp; omega)
        have h7 := kk.blk h7 (by simp; omega)
        refine ep rfl ?_
        refine sp rfl ?_
        refine el_loada (vs := [.slice ad all.length cap, .int .i64 (a2 : Int), .int .i64 f2]) rfl rfl rfl rfl rfl rfl h8 rfl ?_
        refine el_call rfl rfl rfl rfl rfl rfl (refn_at h3 rfl (hv0.keep0 kw) hal hat2) ?_
        rintro _ Wc ⟨rfl, kk⟩
        have hz := kk.blk hz (by simp)
        have h4 := kk.blk h4 (by simp)
        have h7 := kk.blk h7 (by simp)
        have kw := kw.trans0 kk
        have h8 := kk.blk h8 (by simp)
        refine pp rfl ?_
        refine el_store (b := b8) (off := 0) #[.slice ad all.length cap, .int .i64 (a3 : Int), .int .i64 f3] rfl rfl rfl rfl rfl rfl rfl rfl h8 rfl rfl ?_
        intro W kk hs h8
        have hz := kk.blk hz (by simp; omega)
        have kw := kw.trans kk (by simp; omega)
        have h4 := kk.blk h4 (by simp; omega)
        have h7 := kk.blk h7 (by simp; omega)
        refine ep rfl ?_
        refine sp rfl ?_
        refine el_loada (vs := [.slice ad all.length cap, .int .i64 (a3 : Int), .int .i64 f3]) rfl rfl rfl rfl rfl rfl h8 rfl ?_
        refine el_call rfl rfl rfl rfl rfl rfl (refn_at h4' rfl (hv0.keep0 kw) hal hat3) ?_
        rintro _ Wc ⟨rfl, kk⟩
        have hz := kk.blk hz (by simp)
        have h4 := kk.blk h4 (by simp)
        have h7 := kk.blk h7 (by simp)
        have kw := kw.trans0 kk
        have h8 := kk.blk h8 (by simp)
        refine pp rfl ?_
        refine el_store (b := b8) (off := 0) #[.slice ad all.length cap, .int .i64 (a4 : Int), .int .i64 f4] rfl rfl rfl rfl rfl rfl rfl rfl h8 rfl rfl ?_
        intro W kk hs h8
        have hz := kk.blk hz (by simp; omega)
        have kw := kw.trans kk (by simp; omega)
        have h4 := kk.blk h4 (by simp; omega)
        have h7 := kk.blk h7 (by simp; omega)
        refine ep rfl ?_
        refine sp rfl ?_
        refine el_loada (vs := [.slice ad all.length cap, .int .i64 (a4 : Int), .int .i64 f4]) rfl rfl rfl rfl rfl rfl h8 rfl ?_
        refine el_call rfl rfl rfl rfl rfl rfl (refn_at h5 rfl (hv0.keep0 kw) hal hat4) ?_
        rintro _ Wc ⟨rfl, kk⟩
        have hz := kk.blk hz (by simp)
        have h4 := kk.blk h4 (by simp)
        have h7 := kk.blk h7 (by simp)
        have kw := kw.trans0 kk
        have h8 := kk.blk h8 (by simp)
        refine pp rfl ?_
        refine el_store (b := b8) (off := 0) #[.slice ad all.length cap, .int .i64 (a5 : Int), .int .i64 f5] rfl rfl rfl rfl rfl rfl rfl rfl h8 rfl rfl ?_
        intro W kk hs h8
        have hz := kk.blk hz (by simp; omega)
        have kw := kw.trans kk (by simp; omega)
        have h4 := kk.blk h4 (by simp; omega)
        have h7 := kk.blk h7 (by simp; omega)
        refine ep rfl ?_
        refine sp rfl ?_
        refine el_loada (vs := [.slice ad all.length cap, .int .i64 (a5 : Int), .int .i64 f5]) rfl rfl rfl rfl rfl rfl h8 rfl ?_
        refine el_call rfl rfl rfl rfl rfl rfl (reft_at h6 (hv0.keep0 kw) hal hat5) ?_
        rintro _ Wc ⟨rfl, kk⟩
        have hz := kk.blk hz (by simp)
        have h4 := kk.blk h4 (by simp)
        have h7 := kk.blk h7 (by simp)
        have kw := kw.trans0 kk
        have h8 := kk.blk h8 (by simp)
        refine pp rfl ?_
        refine el_store (b := b8) (off := 0) #[.slice ad all.length cap, .int .i64 (a6 : Int), .int .i64 f6] rfl rfl rfl rfl rfl rfl rfl rfl h8 rfl rfl ?_
        intro W kk hs h8
        have hz := kk.blk hz (by simp; omega)
        have kw := kw.trans kk (by simp; omega)
        have h4 := kk.blk h4 (by simp; omega)
        have h7 := kk.blk h7 (by simp; omega)
        refine ep rfl ?_
        refine sp rfl ?_
        refine el_build (z := .agg #[.int .i64 0, .int .i64 0, .int .i64 0, .int .i64 0]) (vs := [.int .i64 n2, .int .i64 n3, .int .i64 n4, .int .i64 n5]) rfl rfl rfl rfl rfl rfl ?_
        refine pp rfl ?_
        refine el_build (z := .agg #[.int .i64 0, .int .i64 0, .int .i64 0, .int .i64 0, .int .i64 0, .bool false]) (vs := [.int .i64 n1, .int .i64 n2, .int .i64 n3, .int .i64 n4, .int .i64 n5, .bool we]) rfl rfl rfl rfl rfl rfl ?_
        refine pp rfl ?_
        refine el_store (b := b7) (off := 5) (wordL 0 0 0 0 (.slice none 0 0) n1 n2 n3 n4 n5 we).toArray rfl rfl rfl rfl rfl rfl rfl rfl h7 rfl rfl ?_
        intro W1 kk hs h7
        have hz := kk.blk hz (by simp; omega)
        have kw := kw.trans kk (by simp; omega)
        have h4 := kk.blk h4 (by simp; omega)
        have h8 := kk.blk h8 (by simp; omega)
        refine ep rfl ?_
        refine gp rfl ?_
        refine el_loada (vs := [.slice ad all.length cap, .int .i64 (a6 : Int), .int .i64 f6]) rfl rfl rfl rfl rfl rfl h8 rfl ?_
        refine el_store (b := b4) (off := 0) #[.slice ad all.length cap, .int .i64 (a6 : Int), .int .i64 f6] rfl rfl rfl rfl rfl rfl rfl rfl h4 rfl rfl ?_
        intro W5 kk hs h4
        have hz := kk.blk hz (by simp; omega)
        have kw := kw.trans kk (by simp; omega)
        have h7 := kk.blk h7 (by simp; omega)
        refine ep rfl ?_
        exact ⟨rfl, (none, 0, ⟨0, 0, 0, 0, [], n1, n2, n3, n4, n5, we⟩, a6, f6), ⟨rfl, rfl, rfl, trivial⟩, ⟨kw, hz, h4, h7, RdB.nil _, fun h => absurd rfl h, by show 0 ≤ _; omega, hat6, hgood, hbad⟩⟩
      · refine es rfl ?_
        refine ew_cond_f rfl (decide_eq_false hn1) ?_
        refine es rfl ?_
        refine ew_cond_f rfl (decide_eq_false hn2) ?_
        refine ew_skip ?_
        exact ⟨rfl, (none, 0, zeroW, a0, f0), ⟨rfl, rfl, rfl, trivial⟩, ⟨kw, hz, h4, h7, RdB.nil _, fun h => absurd rfl h, by show 0 ≤ _; omega, ha0, fun _ _ h => absurd (show zeroW.E = 0 from h) (by decide), fun _ => readW_0 hS0 hn1 hn2⟩⟩
  · rintro ⟨adu, capu, X, af, ff⟩ ρ' W hds ⟨kw, hz, h4, h7, hu, hul, hbn, hat, hgood, hbad⟩
    dsimp only at h4 h7 hu hul hbn hat hgood hbad
    refine ew_seq (sp rfl ?_)
    refine el_loada (vs := [.slice ad all.length cap, .int .i64 (af : Int), .int .i64 ff]) rfl rfl rfl rfl rfl rfl h4 rfl ?_
    refine el_call rfl rfl rfl rfl rfl rfl (refend_ok ad cap all af ff _ hat) ?_
    rintro _ We ⟨rfl, kk⟩
    have hz := kk.blk hz (by simp)
    have h4 := kk.blk h4 (by simp)
    have h7 := kk.blk h7 (by simp)
    have kw := kw.trans0 kk
    have hu := hu.keep0 kk
    by_cases hE0 : (if ff ≠ 0 then ff else if af < all.length then 122 else 0) = 0
    · have hff : ff = 0 := Decidable.not_not.1 fun h => by
        rw [if_pos h] at hE0
        exact h hE0
      have haf : af = all.length := by
        rw [if_neg (by simpa using hff)] at hE0
        by_cases hlt : af < all.length
        · rw [if_pos hlt] at hE0
          cases hE0
        · omega
      rw [hE0]
      refine el_neqi (a := 0) (b := 0) (k := .i64) false rfl rfl rfl rfl rfl ?_
      refine pp rfl ?_
      refine el_loada (vs := wordL X.k X.e X.t X.v (.slice adu X.bundle.length capu) X.node X.rk X.re X.rt X.rv X.well) rfl rfl rfl rfl rfl rfl h7 rfl ?_
      refine el_call rfl rfl rfl rfl rfl rfl (Check_ok X adu capu hbn _) ?_
      rintro _ Wf ⟨rfl, kk⟩
      have hz := kk.blk hz (by simp)
      have h4 := kk.blk h4 (by simp)
      have h7 := kk.blk h7 (by simp)
      have kw := kw.trans0 kk
      have hu := hu.keep0 kk
      by_cases hXE : X.E = 0
      · rw [hXE]
        refine el_neqi (a := 0) (b := 0) (k := .i64) false rfl rfl rfl rfl rfl ?_
        refine ep rfl ?_
        refine ew_cond_f rfl rfl ?_
        refine ew_skip ?_
        refine sp rfl ?_
        refine el_loada (vs := wordL X.k X.e X.t X.v (.slice adu X.bundle.length capu) X.node X.rk X.re X.rt X.rv X.well) rfl rfl rfl rfl rfl rfl h7 rfl ?_
        refine el_store (b := zb) (off := 0) (wordL X.k X.e X.t X.v (.slice adu X.bundle.length capu) X.node X.rk X.re X.rt X.rv X.well).toArray rfl rfl rfl rfl rfl rfl rfl rfl hz rfl rfl ?_
        intro W9 k9 hs9 hz9
        refine ep rfl ?_
        have hrs : readR all = (X, 0) := readR_some (hgood hff haf hXE)
        refine ew_ret (ret_l [.agg (wordL X.k X.e X.t X.v (.slice adu X.bundle.length capu) X.node X.rk X.re X.rt X.rv X.well).toArray, .int .i64 0] rfl (hds.trans rfl) ⟨⟨_, rfl, rfl, run_loadVarA rfl rfl rfl hz9⟩, ⟨rfl, rfl⟩, trivial⟩ ?_)
        exact ⟨_, by rw [hrs]; rfl, by rw [hrs]; exact hu.keepx k9 (fun hne b hb => by have := (hul hne b hb).2; simp; omega), (by rw [hrs]; exact hul), kw.trans k9 (by simp; omega)⟩
      · refine el_neqi (a := X.E) (b := 0) (k := .i64) true (by simpa using hXE) rfl rfl rfl rfl ?_
        refine ep rfl ?_
        refine ew_cond_t rfl rfl ?_
        refine sp rfl ?_
        refine el_build (z := wordZ) (vs := wordL 0 0 0 0 (.slice none 0 0) 0 0 0 0 0 false) rfl rfl rfl rfl rfl rfl ?_
        refine el_store (b := zb) (off := 0) zeroA rfl rfl rfl rfl rfl rfl rfl rfl hz rfl rfl ?_
        intro W9 k9 hs9 hz9
        refine ep rfl ?_
        refine ew_ret (ret_l [.agg zeroA, .int .i64 270] rfl (hds.trans rfl) ⟨⟨_, rfl, rfl, run_loadVarA rfl rfl rfl hz9⟩, ⟨rfl, rfl⟩, trivial⟩ ?_)
        exact ⟨.slice none 0 0, by rw [readR_none (hbad fun h => hXE h.2.2)]; rfl, by rw [readR_none (hbad fun h => hXE h.2.2)]; exact RdB.nil _, (by rw [readR_none (hbad fun h => hXE h.2.2)]; exact fun h => absurd rfl h), kw.trans k9 (by simp; omega)⟩
    · refine el_neqi (b := 0) (k := .i64) true (by simpa using hE0) rfl rfl rfl rfl ?_
      have hnb : ¬ (ff = 0 ∧ af = all.length ∧ X.E = 0) := fun h => hE0 (by
        obtain ⟨g1, g2, _⟩ := h
        rw [if_neg (by simpa using g1), if_neg (by omega)])
      refine ep rfl ?_
      refine ew_cond_t rfl rfl ?_
      refine sp rfl ?_
      refine el_build (z := wordZ) (vs := wordL 0 0 0 0 (.slice none 0 0) 0 0 0 0 0 false) rfl rfl rfl rfl rfl rfl ?_
      refine el_store (b := zb) (off := 0) zeroA rfl rfl rfl rfl rfl rfl rfl rfl hz rfl rfl ?_
      intro W9 k9 hs9 hz9
      refine ep rfl ?_
      refine ew_ret (ret_l [.agg zeroA, .int .i64 270] rfl (hds.trans rfl) ⟨⟨_, rfl, rfl, run_loadVarA rfl rfl rfl hz9⟩, ⟨rfl, rfl⟩, trivial⟩ ?_)
      exact ⟨.slice none 0 0, by rw [readR_none (hbad hnb)]; rfl, by rw [readR_none (hbad hnb)]; exact RdB.nil _, (by rw [readR_none (hbad hnb)]; exact fun h => absurd rfl h), kw.trans k9 (by simp; omega)⟩
end Go.Proofs.Ytpdgfekimnmdnaa
/- Orders: reading an order, a report, by the second hand. -/
set_option linter.unusedVariables false
set_option linter.unusedSimpArgs false
namespace Go.Proofs.Ytpdgfekimnmdnaa
open Go.RowKit
set_option maxRecDepth 20000

abbrev ordL (k e t v : Int) (u : Value) : List Value := [.int .i64 k, .int .i64 e, .int .i64 t, .int .i64 v, u]
abbrev tolL (node rk re rt rv : Int) (well : Bool) : List Value := [.int .i64 node, .int .i64 rk, .int .i64 re, .int .i64 rt, .int .i64 rv, .bool well]
theorem readR_zero {all : List UInt8} {x : WorD} {e : Int} (h : readR all = (x, e)) (he : e = 0) : readW all = some x := by
  unfold readR at h
  cases hq : readW all with
  | none =>
    rw [hq] at h
    injection h with h1 h2
    subst h2
    cases he
  | some y =>
    rw [hq] at h
    injection h with h1 h2
    rw [h1]
theorem readR_not {all : List UInt8} {x : WorD} {e : Int} (h : readR all = (x, e)) (he : e ≠ 0) : readW all = none ∧ x = zeroW ∧ e = 270 := by
  unfold readR at h
  cases hq : readW all with
  | none =>
    rw [hq] at h
    injection h with h1 h2
    exact ⟨rfl, h1.symm, h2.symm⟩
  | some y =>
    rw [hq] at h
    injection h with h1 h2
    exact absurd h2.symm he
set_option maxHeartbeats 4000000 in
theorem refReadOrder_ok (v : Value) (all : List UInt8) (w0 : World) (hv : RdB w0 v all) (hal : all.length ≤ 70368744177664) : Fn Try.prog 23 [v] w0 fun r w' => ∃ u, r = .tuple #[.agg (ordL (readOR all).1.k (readOR all).1.e (readOR all).1.t (readOR all).1.v u).toArray, .int .i64 (readOR all).2] ∧ RdB w' u (readOR all).1.bundle ∧ Keep [] w0 w' := by
  obtain ⟨ad, cap, rfl, hcap⟩ := hv.slice
  refine fn_enter Try.func23 rfl rfl ?_
  refine sp rfl ?_
  refine el_alloc (z := .agg #[.int .i64 0, .int .i64 0, .int .i64 0, .int .i64 0, .slice none 0 0]) #[.int .i64 0, .int .i64 0, .int .i64 0, .int .i64 0, .slice none 0 0] rfl rfl rfl rfl ?_
  intro zb w1 z1 z1' k1 hz1
  refine ep rfl ?_
  refine sp rfl ?_
  refine el_call rfl rfl rfl rfl rfl rfl (refRead_ok _ all w1 (hv.keep0 k1) hal) ?_
  rintro _ w2 ⟨u, rfl, hu2, hul2, k2⟩
  obtain ⟨⟨x, e⟩, hxe⟩ : ∃ s, readR all = s := ⟨_, rfl⟩
  rw [hxe] at hu2 hul2
  rw [hxe]
  dsimp only at hu2 hul2
  obtain ⟨adu, capu, rfl, hcu⟩ := hu2.slice
  have hul : x.bundle ≠ [] → ∀ b, (Value.slice adu x.bundle.length capu).ownBlock = some b → (Value.slice ad all.length cap).ownBlock = some b ∧ b < w0.heap.size := fun hne b hb => by
    refine ⟨(hul2 hne b hb).1, hv.lt (fun h => ?_) (hul2 hne b hb).1⟩
    subst h
    unfold readR at hxe
    rw [show readW [] = none from rfl] at hxe
    injection hxe with h1 h2
    subst h1
    exact hne rfl
  have hz2 := k2.blk hz1 (by simp)
  have kw := k1.trans0 k2
  have kq : ∀ b, b < w0.heap.size → b ∉ [zb] := fun b hb => by simp; omega
  refine pp rfl ?_
  refine el_alloc (z := wordZ) zeroA rfl rfl rfl rfl ?_
  intro wb w3 z3 z3' k3 hw3
  have hne : zb < wb := by have := Blk.lt hz2; omega
  refine el_store (b := wb) (off := 0) (wordL x.k x.e x.t x.v (.slice adu x.bundle.length capu) x.node x.rk x.re x.rt x.rv x.well).toArray rfl rfl rfl rfl rfl rfl rfl rfl hw3 rfl rfl ?_
  intro w4 k4 hs4 hw4
  have k24 : Keep [] w2 w4 := k3.trans k4 (by simp; omega)
  have hz4 := k24.blk hz2 (by simp)
  have hu4 := hu2.keep0 k24
  have kw := kw.trans0 k24
  refine ep rfl ?_
  refine ew_seq (spn 1 rfl ?_)
  by_cases he : e = 0
  · have hrw := readR_zero hxe he
    subst he
    refine el_eqi (a := 0) (b := 0) (k := .i64) true rfl rfl rfl rfl rfl ?_
    refine pp rfl ?_
    refine el_loada (vs := wordL x.k x.e x.t x.v (.slice adu x.bundle.length capu) x.node x.rk x.re x.rt x.rv x.well) rfl rfl rfl rfl rfl rfl hw4 rfl ?_
    refine el_call rfl rfl rfl rfl rfl rfl (isTold_ok x.k x.e x.t x.v (.slice adu x.bundle.length capu) x.node x.rk x.re x.rt x.rv x.well w4) ?_
    rintro _ w5 ⟨rfl, k5⟩
    have hz := k5.blk hz4 (by simp)
    have hw := k5.blk hw4 (by simp)
    have hu := hu4.keep0 k5
    have kw := kw.trans0 k5
    by_cases hrk : x.rk ≠ 0
    · rw [show (x.rk != 0) = true by simpa using hrk]
      refine ep rfl ?_
      refine ew_cond_t rfl rfl ?_
      have hrd : readOR all = (zeroW, 271) := by
        unfold readOR
        rw [hrw]
        simp [hrk]
      rw [hrd]
      refine sp rfl ?_
      refine el_build (z := (.agg #[.int .i64 0, .int .i64 0, .int .i64 0, .int .i64 0, .slice none 0 0])) (vs := (ordL 0 0 0 0 (.slice none 0 0))) rfl rfl rfl rfl rfl rfl ?_
      refine el_store (b := zb) (off := 0) ((ordL 0 0 0 0 (.slice none 0 0))).toArray rfl rfl rfl rfl rfl rfl rfl rfl hz rfl rfl ?_
      intro w6 k6 hs6 hz6
      have kw := kw.trans k6 (by simp; omega)
      refine ep rfl ?_
      exact ew_ret (ret_l [.agg ((ordL 0 0 0 0 (.slice none 0 0))).toArray, .int .i64 271] rfl rfl ⟨⟨_, rfl, rfl, run_loadVarA rfl rfl rfl hz6⟩, ⟨rfl, rfl⟩, trivial⟩ ⟨.slice none 0 0, rfl, RdB.nil _, kw⟩)
    · rw [show (x.rk != 0) = false by simpa using hrk]
      refine ep rfl ?_
      refine ew_cond_f rfl rfl ?_
      refine ew_skip ?_
      have hrd : readOR all = (x, 0) := by
        unfold readOR
        rw [hrw]
        simp [hrk]
      rw [hrd]
      refine sp rfl ?_
      refine el_loada (vs := (ordL x.k x.e x.t x.v (.slice adu x.bundle.length capu))) rfl rfl rfl rfl rfl rfl hw rfl ?_
      refine pp rfl ?_
      refine el_store (b := zb) (off := 0) ((ordL x.k x.e x.t x.v (.slice adu x.bundle.length capu))).toArray rfl rfl rfl rfl rfl rfl rfl rfl hz rfl rfl ?_
      intro w6 k6 hs6 hz6
      have kw := kw.trans k6 (by simp; omega)
      refine ep rfl ?_
      exact ew_ret (ret_l [.agg ((ordL x.k x.e x.t x.v (.slice adu x.bundle.length capu))).toArray, .int .i64 0] rfl rfl ⟨⟨_, rfl, rfl, run_loadVarA rfl rfl rfl hz6⟩, ⟨rfl, rfl⟩, trivial⟩ ⟨.slice adu x.bundle.length capu, rfl, hu.keepx k6 (fun hne b hb => kq b (hul hne b hb).2), kw⟩)
  · obtain ⟨hrw, rfl, rfl⟩ := readR_not hxe he
    have hrd : readOR all = (zeroW, 270) := by
      unfold readOR
      rw [hrw]
    have hz := hz4
    have hw := hw4
    have hu := hu4
    refine el_eqi (a := 270) (b := 0) (k := .i64) false rfl rfl rfl rfl rfl ?_
    refine ep rfl ?_
    refine ew_cond_f rfl rfl ?_
    refine ew_skip ?_
    rw [hrd]
    refine sp rfl ?_
    refine el_loada (vs := (ordL 0 0 0 0 (.slice adu 0 capu))) rfl rfl rfl rfl rfl rfl hw rfl ?_
    refine pp rfl ?_
    refine el_store (b := zb) (off := 0) ((ordL 0 0 0 0 (.slice adu 0 capu))).toArray rfl rfl rfl rfl rfl rfl rfl rfl hz rfl rfl ?_
    intro w6 k6 hs6 hz6
    have kw := kw.trans k6 (by simp; omega)
    refine ep rfl ?_
    exact ew_ret (ret_l [.agg ((ordL 0 0 0 0 (.slice adu 0 capu))).toArray, .int .i64 270] rfl rfl ⟨⟨_, rfl, rfl, run_loadVarA rfl rfl rfl hz6⟩, ⟨rfl, rfl⟩, trivial⟩ ⟨.slice adu 0 capu, rfl, hu.keepx k6 (fun hne b hb => absurd rfl hne), kw⟩)
set_option maxHeartbeats 4000000 in
theorem refReadReport_ok (v : Value) (all : List UInt8) (w0 : World) (hv : RdB w0 v all) (hal : all.length ≤ 70368744177664) : Fn Try.prog 24 [v] w0 fun r w' => r = .tuple #[.agg (tolL (readTR all).1.node (readTR all).1.rk (readTR all).1.re (readTR all).1.rt (readTR all).1.rv (readTR all).1.well).toArray, .int .i64 (readTR all).2] ∧ Keep [] w0 w' := by
  obtain ⟨ad, cap, rfl, hcap⟩ := hv.slice
  refine fn_enter Try.func24 rfl rfl ?_
  refine sp rfl ?_
  refine el_alloc (z := .agg #[.int .i64 0, .int .i64 0, .int .i64 0, .int .i64 0, .int .i64 0, .bool false]) #[.int .i64 0, .int .i64 0, .int .i64 0, .int .i64 0, .int .i64 0, .bool false] rfl rfl rfl rfl ?_
  intro zb w1 z1 z1' k1 hz1
  refine ep rfl ?_
  refine sp rfl ?_
  refine el_call rfl rfl rfl rfl rfl rfl (refRead_ok _ all w1 (hv.keep0 k1) hal) ?_
  rintro _ w2 ⟨u, rfl, hu2, hul2, k2⟩
  obtain ⟨⟨x, e⟩, hxe⟩ : ∃ s, readR all = s := ⟨_, rfl⟩
  rw [hxe] at hu2 hul2
  rw [hxe]
  dsimp only at hu2 hul2
  obtain ⟨adu, capu, rfl, hcu⟩ := hu2.slice
  have hul : x.bundle ≠ [] → ∀ b, (Value.slice adu x.bundle.length capu).ownBlock = some b → (Value.slice ad all.length cap).ownBlock = some b ∧ b < w0.heap.size := fun hne b hb => by
    refine ⟨(hul2 hne b hb).1, hv.lt (fun h => ?_) (hul2 hne b hb).1⟩
    subst h
    unfold readR at hxe
    rw [show readW [] = none from rfl] at hxe
    injection hxe with h1 h2
    subst h1
    exact hne rfl
  have hz2 := k2.blk hz1 (by simp)
  have kw := k1.trans0 k2
  have kq : ∀ b, b < w0.heap.size → b ∉ [zb] := fun b hb => by simp; omega
  refine pp rfl ?_
  refine el_alloc (z := wordZ) zeroA rfl rfl rfl rfl ?_
  intro wb w3 z3 z3' k3 hw3
  have hne : zb < wb := by have := Blk.lt hz2; omega
  refine el_store (b := wb) (off := 0) (wordL x.k x.e x.t x.v (.slice adu x.bundle.length capu) x.node x.rk x.re x.rt x.rv x.well).toArray rfl rfl rfl rfl rfl rfl rfl rfl hw3 rfl rfl ?_
  intro w4 k4 hs4 hw4
  have k24 : Keep [] w2 w4 := k3.trans k4 (by simp; omega)
  have hz4 := k24.blk hz2 (by simp)
  have hu4 := hu2.keep0 k24
  have kw := kw.trans0 k24
  refine ep rfl ?_
  refine ew_seq (spn 1 rfl ?_)
  by_cases he : e = 0
  · have hrw := readR_zero hxe he
    subst he
    refine el_eqi (a := 0) (b := 0) (k := .i64) true rfl rfl rfl rfl rfl ?_
    refine pp rfl ?_
    refine el_loada (vs := wordL x.k x.e x.t x.v (.slice adu x.bundle.length capu) x.node x.rk x.re x.rt x.rv x.well) rfl rfl rfl rfl rfl rfl hw4 rfl ?_
    refine el_call rfl rfl rfl rfl rfl rfl (isTold_ok x.k x.e x.t x.v (.slice adu x.bundle.length capu) x.node x.rk x.re x.rt x.rv x.well w4) ?_
    rintro _ w5 ⟨rfl, k5⟩
    have hz := k5.blk hz4 (by simp)
    have hw := k5.blk hw4 (by simp)
    have hu := hu4.keep0 k5
    have kw := kw.trans0 k5
    by_cases hrk : x.rk ≠ 0
    · rw [show (x.rk != 0) = true by simpa using hrk]
      refine ep rfl ?_
      refine ew_cond_f rfl rfl ?_
      refine ew_skip ?_
      have hrd : readTR all = (x, 0) := by
        unfold readTR
        rw [hrw]
        simp [hrk]
      rw [hrd]
      refine sp rfl ?_
      refine el_loada (vs := (tolL x.node x.rk x.re x.rt x.rv x.well)) rfl rfl rfl rfl rfl rfl hw rfl ?_
      refine pp rfl ?_
      refine el_store (b := zb) (off := 0) ((tolL x.node x.rk x.re x.rt x.rv x.well)).toArray rfl rfl rfl rfl rfl rfl rfl rfl hz rfl rfl ?_
      intro w6 k6 hs6 hz6
      have kw := kw.trans k6 (by simp; omega)
      refine ep rfl ?_
      exact ew_ret (ret_l [.agg ((tolL x.node x.rk x.re x.rt x.rv x.well)).toArray, .int .i64 0] rfl rfl ⟨⟨_, rfl, rfl, run_loadVarA rfl rfl rfl hz6⟩, ⟨rfl, rfl⟩, trivial⟩ ⟨rfl, kw⟩)
    · rw [show (x.rk != 0) = false by simpa using hrk]
      refine ep rfl ?_
      refine ew_cond_t rfl rfl ?_
      have hrd : readTR all = (zeroW, 271) := by
        unfold readTR
        rw [hrw]
        simp [hrk]
      rw [hrd]
      refine sp rfl ?_
      refine el_build (z := (.agg #[.int .i64 0, .int .i64 0, .int .i64 0, .int .i64 0, .int .i64 0, .bool false])) (vs := (tolL 0 0 0 0 0 false)) rfl rfl rfl rfl rfl rfl ?_
      refine el_store (b := zb) (off := 0) ((tolL 0 0 0 0 0 false)).toArray rfl rfl rfl rfl rfl rfl rfl rfl hz rfl rfl ?_
      intro w6 k6 hs6 hz6
      have kw := kw.trans k6 (by simp; omega)
      refine ep rfl ?_
      exact ew_ret (ret_l [.agg ((tolL 0 0 0 0 0 false)).toArray, .int .i64 271] rfl rfl ⟨⟨_, rfl, rfl, run_loadVarA rfl rfl rfl hz6⟩, ⟨rfl, rfl⟩, trivial⟩ ⟨rfl, kw⟩)
  · obtain ⟨hrw, rfl, rfl⟩ := readR_not hxe he
    have hrd : readTR all = (zeroW, 270) := by
      unfold readTR
      rw [hrw]
    have hz := hz4
    have hw := hw4
    have hu := hu4
    refine el_eqi (a := 270) (b := 0) (k := .i64) false rfl rfl rfl rfl rfl ?_
    refine ep rfl ?_
    refine ew_cond_f rfl rfl ?_
    refine ew_skip ?_
    rw [hrd]
    refine sp rfl ?_
    refine el_loada (vs := (tolL 0 0 0 0 0 false)) rfl rfl rfl rfl rfl rfl hw rfl ?_
    refine pp rfl ?_
    refine el_store (b := zb) (off := 0) ((tolL 0 0 0 0 0 false)).toArray rfl rfl rfl rfl rfl rfl rfl rfl hz rfl rfl ?_
    intro w6 k6 hs6 hz6
    have kw := kw.trans k6 (by simp; omega)
    refine ep rfl ?_
    exact ew_ret (ret_l [.agg ((tolL 0 0 0 0 0 false)).toArray, .int .i64 270] rfl rfl ⟨⟨_, rfl, rfl, run_loadVarA rfl rfl rfl hz6⟩, ⟨rfl, rfl⟩, trivial⟩ ⟨rfl, kw⟩)
end Go.Proofs.Ytpdgfekimnmdnaa
/- Orders: 'works', the laws' own trial: it answers true. -/
set_option linter.unusedVariables false
set_option linter.unusedSimpArgs false
namespace Go.Proofs.Ytpdgfekimnmdnaa
open Go.RowKit
set_option maxRecDepth 20000

theorem numB1 : numB 1 = [1] := numB_lt (by decide)
theorem works_o : (if ordE 2 300 1 2 0 = 0 then orderB 2 300 1 2 [] else []) = [1, 2, 172, 2, 1, 2] := by
  rw [if_pos (by decide)]
  unfold orderB numsB
  rw [if_pos rfl]
  show (([numB 1, numB 2, numB 300, numB 1] : List (List UInt8)).flatten ++ numB 2) = _
  rw [numB1, numB2, numB300]
  rfl
theorem works_t : (if tolE 3 3 1 5 0 = 0 then reportB 3 3 1 5 0 true else []) = [2, 3, 3, 1, 5, 0, 1] := by
  rw [if_pos (by decide)]
  unfold reportB numsB
  show (([numB 2, numB 3, numB 3, numB 1, numB 5, numB 0] : List (List UInt8)).flatten ++ [1]) = _
  rw [numB1, numB2, numB3, numB_lt (show 5 < 128 by decide), numB_lt (show 0 < 128 by decide)]
  rfl
theorem works_w : readW [2, 3, 3, 1, 5, 0, 1] = some ⟨0, 0, 0, 0, [], 3, 3, 1, 5, 0, true⟩ := by kernel_rfl
theorem works_no : readW [1, 5, 1, 0, 0] = none := by kernel_rfl
theorem works_ro : readOR [2, 3, 3, 1, 5, 0, 1] = (zeroW, 271) := by
  unfold readOR
  rw [works_w]
  rfl
theorem works_rt : readTR [2, 3, 3, 1, 5, 0, 1] = (⟨0, 0, 0, 0, [], 3, 3, 1, 5, 0, true⟩, 0) := by
  unfold readTR
  rw [works_w]
  rfl
abbrev ordZ : Value := .agg #[.int .i64 0, .int .i64 0, .int .i64 0, .int .i64 0, .slice none 0 0]
abbrev repZ : Value := .agg #[.int .i64 0, .int .i64 0, .int .i64 0, .int .i64 0]
set_option maxHeartbeats 4000000 in
theorem works_ok (w : World) : Fn Try.prog 10 [] w fun r w' => r = .bool true ∧ Keep [] w w' := by
  refine fn_enter Try.func10 rfl rfl ?_
  refine es rfl ?_
  refine sp rfl ?_
  refine el_build (z := ordZ) (vs := ordL 2 300 1 2 (.slice none 0 0)) rfl rfl rfl rfl rfl rfl ?_
  refine el_call rfl rfl rfl rfl rfl rfl (Order_ok 2 300 1 2 (.slice none 0 0) [] w (RdB.nil _) (by decide)) ?_
  rintro _ w1 ⟨y1, rfl, ho1, kw⟩
  rw [show ordE 2 300 1 2 ([] : List UInt8).length = 0 by decide]
  have ho1 : OwnB 5 w1 w.heap.size y1 [1, 2, 172, 2, 1, 2] := by
    rw [← works_o]
    exact ho1
  refine ep rfl ?_
  refine sp rfl ?_
  refine el_build (z := repZ) (vs := [.int .i64 3, .int .i64 1, .int .i64 5, .int .i64 0]) rfl rfl rfl rfl rfl rfl ?_
  refine el_call rfl rfl rfl rfl rfl rfl (Report_ok 3 3 1 5 0 true w1) ?_
  rintro _ w2 ⟨y3, rfl, ho3, kk⟩
  rw [show tolE 3 3 1 5 0 = 0 by decide]
  have ho3 : OwnB 5 w2 w1.heap.size y3 [2, 3, 3, 1, 5, 0, 1] := by
    rw [← works_t]
    exact ho3
  have ho1 := own_keep ho1 kk (by simp)
  have kw := kw.trans0 kk
  refine ep rfl ?_
  refine sp rfl ?_
  refine el_call rfl rfl rfl rfl rfl rfl (ReadOrder_ok y3 [2, 3, 3, 1, 5, 0, 1] w2 (Rd.of_own ho3) (by decide)) ?_
  intro rv w3 hq
  rw [works_ro] at hq
  obtain ⟨u, rfl, hu, kk⟩ := hq
  obtain ⟨adu, capu, rfl, hcu⟩ := own_slice hu
  have ho1 := own_keep ho1 kk (by simp)
  have ho3 := own_keep ho3 kk (by simp)
  have kw := kw.trans0 kk
  refine pp rfl ?_
  refine el_alloc (z := ordZ) (ordL 0 0 0 0 (.slice none 0 0)).toArray rfl rfl rfl rfl ?_
  intro b5 w4 hb5 hb5' kk h5
  have hw5 : w.heap.size ≤ b5 := by have := kw.size; omega
  have ho1 := own_keep ho1 kk (by simp)
  have ho3 := own_keep ho3 kk (by simp)
  have kw := kw.trans0 kk
  refine el_store (b := b5) (off := 0) (ordL 0 0 0 0 (.slice adu 0 capu)).toArray rfl rfl rfl rfl rfl rfl rfl rfl h5 rfl rfl ?_
  intro w5 kk hs h5'
  have ho1 := own_keep ho1 kk (own_ne ho1 h5 (by decide))
  have ho3 := own_keep ho3 kk (own_ne ho3 h5 (by decide))
  have kw := kw.trans kk (by simp; omega)
  refine ep rfl ?_
  refine sp rfl ?_
  refine el_bslice (vs := bytesV [1, 5, 1, 0, 0]) rfl rfl rfl rfl rfl rfl rfl ?_
  intro bs w6 hbs hbs' kk hB
  have ho1 := own_keep ho1 kk (by simp)
  have ho3 := own_keep ho3 kk (by simp)
  have kw := kw.trans0 kk
  refine el_call rfl rfl rfl rfl rfl rfl (Read_ok _ [1, 5, 1, 0, 0] w6 (Rd.of_own (own_of_blk hB (Nat.zero_le _) (by decide))) (by decide)) ?_
  intro rv w7 hq
  unfold ReadQ at hq
  rw [readR_none works_no] at hq
  obtain ⟨u, rfl, hu, kk⟩ := hq
  obtain ⟨adu, capu, rfl, hcu⟩ := own_slice hu
  have ho1 := own_keep ho1 kk (by simp)
  have ho3 := own_keep ho3 kk (by simp)
  have kw := kw.trans0 kk
  refine pp rfl ?_
  refine el_alloc (z := wordZ) zeroA rfl rfl rfl rfl ?_
  intro b7 w8 hb7 hb7' kk h7
  have hw7 : w.heap.size ≤ b7 := by have := kw.size; omega
  have ho1 := own_keep ho1 kk (by simp)
  have ho3 := own_keep ho3 kk (by simp)
  have kw := kw.trans0 kk
  refine el_store (b := b7) (off := 0) (wordL 0 0 0 0 (.slice adu 0 capu) 0 0 0 0 0 false).toArray rfl rfl rfl rfl rfl rfl rfl rfl h7 rfl rfl ?_
  intro w9 kk hs h7'
  have ho1 := own_keep ho1 kk (own_ne ho1 h7 (by decide))
  have ho3 := own_keep ho3 kk (own_ne ho3 h7 (by decide))
  have kw := kw.trans kk (by simp; omega)
  refine ep rfl ?_
  refine sp rfl ?_
  refine el_call rfl rfl rfl rfl rfl rfl (Read_ok (.slice none 0 0) [] w9 (RdB.nil _) (by decide)) ?_
  intro rv w10 hq
  unfold ReadQ at hq
  rw [readR_none (show readW [] = none from rfl)] at hq
  obtain ⟨u, rfl, hu, kk⟩ := hq
  obtain ⟨adu, capu, rfl, hcu⟩ := own_slice hu
  have ho1 := own_keep ho1 kk (by simp)
  have ho3 := own_keep ho3 kk (by simp)
  have kw := kw.trans0 kk
  refine pp rfl ?_
  refine el_alloc (z := wordZ) zeroA rfl rfl rfl rfl ?_
  intro b9 w11 hb9 hb9' kk h9
  have hw9 : w.heap.size ≤ b9 := by have := kw.size; omega
  have ho1 := own_keep ho1 kk (by simp)
  have ho3 := own_keep ho3 kk (by simp)
  have kw := kw.trans0 kk
  refine el_store (b := b9) (off := 0) (wordL 0 0 0 0 (.slice adu 0 capu) 0 0 0 0 0 false).toArray rfl rfl rfl rfl rfl rfl rfl rfl h9 rfl rfl ?_
  intro w12 kk hs h9'
  have ho1 := own_keep ho1 kk (own_ne ho1 h9 (by decide))
  have ho3 := own_keep ho3 kk (own_ne ho3 h9 (by decide))
  have kw := kw.trans kk (by simp; omega)
  refine ep rfl ?_
  refine sp rfl ?_
  refine el_call rfl rfl rfl rfl rfl rfl (ReadReport_ok y3 [2, 3, 3, 1, 5, 0, 1] w12 (Rd.of_own ho3) (by decide)) ?_
  intro rv w13 hq
  rw [works_rt] at hq
  obtain ⟨rfl, kk⟩ := hq
  have ho1 := own_keep ho1 kk (by simp)
  have ho3 := own_keep ho3 kk (by simp)
  have kw := kw.trans0 kk
  refine pp rfl ?_
  refine el_alloc (z := repZ) #[.int .i64 0, .int .i64 0, .int .i64 0, .int .i64 0] rfl rfl rfl rfl ?_
  intro b12 w14 hb12 hb12' kk h12
  have hw12 : w.heap.size ≤ b12 := by have := kw.size; omega
  have ho1 := own_keep ho1 kk (by simp)
  have ho3 := own_keep ho3 kk (by simp)
  have kw := kw.trans0 kk
  refine pp rfl ?_
  refine el_store (b := b12) (off := 0) #[.int .i64 3, .int .i64 1, .int .i64 5, .int .i64 0] rfl rfl rfl rfl rfl rfl rfl rfl h12 rfl rfl ?_
  intro w15 kk hs h12'
  have ho1 := own_keep ho1 kk (own_ne ho1 h12 (by decide))
  have ho3 := own_keep ho3 kk (own_ne ho3 h12 (by decide))
  have kw := kw.trans kk (by simp; omega)
  refine ep rfl ?_
  refine sp rfl ?_
  refine el_call rfl rfl rfl rfl rfl rfl (num_ok 0 _) ?_
  rintro _ _ ⟨rfl, rfl⟩
  refine pp rfl ?_
  refine el_call rfl rfl rfl rfl rfl rfl (num_ok 0 _) ?_
  rintro _ _ ⟨rfl, rfl⟩
  refine pp rfl ?_
  refine el_call rfl rfl rfl rfl rfl rfl (num_ok 0 _) ?_
  rintro _ _ ⟨rfl, rfl⟩
  refine pp rfl ?_
  refine el_str rfl rfl rfl rfl rfl rfl (Rd.of_own ho1) ?_
  refine str_eq [1, 2, 172, 2, 1, 2] [1, 2, 172, 2, 1, 2] rfl rfl rfl rfl ?_
  refine pp rfl ?_
  refine el_str rfl rfl rfl rfl rfl rfl (Rd.of_own ho3) ?_
  refine str_eq [2, 3, 3, 1, 5, 0, 1] [2, 3, 3, 1, 5, 0, 1] rfl rfl rfl rfl ?_
  refine pp rfl ?_
  refine el_call rfl rfl rfl rfl rfl rfl (num_ok 271 _) ?_
  rintro _ _ ⟨rfl, rfl⟩
  refine pp rfl ?_
  refine el_call rfl rfl rfl rfl rfl rfl (num_ok 270 _) ?_
  rintro _ _ ⟨rfl, rfl⟩
  refine pp rfl ?_
  refine el_call rfl rfl rfl rfl rfl rfl (num_ok 270 _) ?_
  rintro _ _ ⟨rfl, rfl⟩
  refine pp rfl ?_
  refine el_loadb rfl rfl rfl rfl rfl h12' rfl ?_
  refine ep rfl ?_
  exact ew_ret (ret_1 (.bool true) rfl rfl rfl rfl ⟨rfl, kw⟩)
end Go.Proofs.Ytpdgfekimnmdnaa
