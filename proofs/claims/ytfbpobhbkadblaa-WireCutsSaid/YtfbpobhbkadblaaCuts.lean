/- The law: what is taken of bytes that are cut off. -/
import Derived.Test.YtfbpobhbkadblaaTook
import Derived.Test.YtfbpobhbkadblaaBack
set_option linter.unusedVariables false
set_option linter.unusedSimpArgs false
namespace Go.Proofs.Ytfbpobhbkadblaa
open Go.RowKit
set_option maxRecDepth 20000

/-- The cells of calls that take. -/
def cellsT (ts : List (Int × Int)) : List Value := ts.flatMap fun p => [.int .i64 p.1, .int .i64 p.2]
theorem cellsT_app (ts : List (Int × Int)) (x : Int × Int) : cellsT (ts ++ [x]) = cellsT ts ++ [.int .i64 x.1, .int .i64 x.2] := by simp [cellsT]
theorem cellsT_at : ∀ (ts : List (Int × Int)) (i : Nat) (x : Int × Int), ts[i]? = some x → ∀ k y, [Value.int .i64 x.1, .int .i64 x.2][k]? = some y → (cellsT ts)[i * 2 + k]? = some y := by
  intro ts
  induction ts with
  | nil => intro i x h; simp at h
  | cons d ts ih =>
    intro i x h k y hk
    have hk3 : k < 2 := by simpa using (List.getElem?_eq_some_iff.1 hk).1
    cases i with
    | zero =>
      simp at h
      subst h
      show ([Value.int .i64 d.1, .int .i64 d.2] ++ cellsT ts)[0 * 2 + k]? = some y
      rw [List.getElem?_append_left (by simp; omega)]
      simpa using hk
    | succ i =>
      have h' : ts[i]? = some x := by simpa using h
      have := ih i x h' k y hk
      show ([Value.int .i64 d.1, .int .i64 d.2] ++ cellsT ts)[(i + 1) * 2 + k]? = some y
      rw [List.getElem?_append_right (by simp; omega)]
      have e : (i + 1) * 2 + k - [Value.int .i64 d.1, .int .i64 d.2].length = i * 2 + k := by simp; omega
      rw [e]
      exact this
theorem info_take : (Try.prog.info? 63).map (fun i => (i.zero, i.size, i.bytes)) = some (some (.agg #[.int .i64 0, .int .i64 0]), 2, 16) := by kernel_rfl
def takeZ : Value := .agg #[.int .i64 0, .int .i64 0]

/-- What holds while a call is made by both. -/
def CutG (gr : Nat) (all : List UInt8) (v : Value) (a' : Nat) (f' : Int) (w0 : World) (b : Nat → Bool) (V : Nat → Value) (w : World) : Prop :=
  Keep [gr] w0 w ∧ (b 6 = false → Keep [] w0 w) ∧ (b 6 = true → IsR w gr all a' f') ∧
  (b 10 = true → ∃ nb, V 10 = .pointer (some ⟨nb, 0, none⟩) ∧ w0.heap.size ≤ nb ∧ (b 11 = false → Blk w nb 35 #[.slice none 0 0, .int .i64 0, .int .i64 0]) ∧ (b 11 = true → Blk w nb 35 #[v, .int .i64 (a' : Int), .int .i64 f']))

set_option maxHeartbeats 8000000 in
theorem WireCuts_ok (v : Value) (xs : List AddD) (cut : Int) (w0 : World) (hv : RdA w0 v xs) (hcut : -9223372036854775808 ≤ cut ∧ cut ≤ 9223372036854775807) :
    Fn Try.prog 8 [v, .int .i64 cut] w0 fun r w' => r = .bool true ∧ Keep [] w0 w' := by
  have hvA := hv
  obtain ⟨ad, cap, rfl, hcap, hml, hx⟩ := hv
  refine fn_enter Try.func8 rfl rfl ?_
  refine es rfl ?_
  refine ew_seq ?_
  refine sp rfl ?_
  refine el_call rfl rfl rfl rfl rfl rfl (few_ok _ xs w0 hvA) ?_
  rintro rv _ ⟨hr, rfl⟩
  by_cases hfew : ¬ fewN xs ≤ 4000
  · rw [decide_eq_false hfew] at hr
    subst hr
    refine ep rfl ?_
    refine ew_cond_t rfl rfl ?_
    refine sp rfl ?_
    refine el_call rfl rfl rfl rfl rfl rfl (works_ok _) ?_
    rintro _ w1 ⟨rfl, k⟩
    refine ep rfl ?_
    exact ew_ret (ret_1 (.bool true) rfl rfl rfl rfl ⟨rfl, k⟩)
  have hfew : fewN xs ≤ 4000 := Decidable.not_not.1 hfew
  rw [decide_eq_true hfew] at hr
  subst hr
  refine ep rfl ?_
  refine ew_cond_f rfl rfl ?_
  refine ew_skip ?_
  have hlen : xs.length ≤ 4000 := by
    have : ∀ l : List AddD, l.length ≤ fewN l := by
      intro l
      induction l with
      | nil => simp [fewN]
      | cons a l ih => simp [fewN] at ih ⊢; omega
    have := this xs
    omega
  refine sp rfl ?_
  refine el_call rfl rfl rfl rfl rfl rfl (new_ok w0) ?_
  rintro rv w1 ⟨g, rfl, hg, hW1, k1⟩
  refine ep rfl ?_
  refine es rfl ?_
  refine ew_seq (es rfl ?_)
  refine ew_block ?_
  let A0 : Value := .slice ad xs.length cap
  let C0 : Value := .int .i64 cut
  let G0 : Value := .pointer (some ⟨g, 0, none⟩)
  refine ew_loop (α := Nat × Value × List (Int × Int)) (fun x => [(0, A0), (1, C0), (5, G0), (6, x.2.1), (7, .int .i64 (x.1 : Int))])
    (fun x w' => x.1 ≤ xs.length ∧ x.2.2.length ≤ x.1 ∧ w'.ownsRow w0.heap.size 63 2 x.2.1 x.2.2.length (cellsT x.2.2) ∧ (∃ cur, IsW w' g cur ∧ cur.length ≤ 2 * fewN (xs.take x.1)) ∧ Keep [] w0 w') (fun x => xs.length - x.1)
    (0, .slice none 0 0, []) ⟨rfl, rfl, rfl, rfl, rfl, trivial⟩ ⟨Nat.zero_le _, Nat.le_refl _, World.ownsRow_nil _ _ _ _, ⟨[], hW1, by simp⟩, k1⟩ ?_
  rintro ⟨i, tv, ts⟩ ρ w2 hd ⟨hi, hti, hD2, ⟨cur, hW2, hcl⟩, k02⟩
  dsimp only at hi hti hD2 hW2 hcl k02
  refine ew_seq (es rfl ?_)
  by_cases hlt : i < xs.length
  · refine ew_cond_t rfl (decide_eq_true (by omega)) ?_
    refine ew_skip ?_
    obtain ⟨x, hxi⟩ : ∃ x, xs[i]? = some x := ⟨_, List.getElem?_eq_getElem hlt⟩
    obtain ⟨b1, b2, a, u, rfl, c2, c3, c4, c5⟩ := hx i x hxi
    obtain ⟨ad2, cap2, rfl, hc2⟩ := c5.slice
    have hmem := fewN_mem hxi
    have htk := fewN_take hxi
    have hgl2 := hW2.lt
    refine ew_seq (ew_block ?_)
    refine sp rfl ?_
    refine el_index (e := 46) (j := i) (p := i * 3) rfl rfl rfl rfl rfl rfl hlt rfl rfl ?_
    refine el_loadc (vs := [.int .i64 x.what, .int .i64 x.n, .slice ad2 x.bytes.length cap2]) rfl rfl rfl rfl rfl rfl (three_cells (cell_keep0 c2 k02) (cell_keep0 c3 k02) (cell_keep0 c4 k02)) ?_
    refine el_call rfl rfl rfl rfl rfl rfl (lay_ok2 g cur x (.slice ad2 x.bytes.length cap2) w2 hW2 b1 (c5.keep0 k02) (fun hne b hb => by have := c5.lt hne hb; omega) (by have := fewN_le xs i; omega)) ?_
    rintro _ w3 ⟨u', rfl, hou, hW3, k3, hbf⟩
    have hll : x.laid.length ≤ 2 * (30 + min x.bytes.length 4001) := laid_len x b1 (by omega)
    have hD3 := own_keep hD2 k3 (own_ne hD2 hW2.blkW.choose_spec (by decide))
    have k03 : Keep [] w0 w3 := k02.trans k3 (by simp; omega)
    have hcl3 : (cur ++ x.laid).length ≤ 2 * fewN (xs.take (i + 1)) := by rw [List.length_append]; omega
    refine ep rfl ?_
    refine ew_seq (sp rfl ?_)
    refine el_call rfl rfl rfl rfl rfl rfl (num_ok _ w3) ?_
    rintro _ _ ⟨rfl, rfl⟩
    by_cases he : x.err = 0
    · rw [he]
      refine el_neqi (a := 0) (b := 0) (k := .i64) false rfl rfl rfl rfl rfl ?_
      refine ep rfl ?_
      refine ew_cond_f rfl rfl ?_
      refine ew_skip ?_
      refine sp rfl ?_
      refine el_index (e := 46) (j := i) (p := i * 3) rfl rfl rfl rfl rfl rfl hlt rfl rfl ?_
      refine pp rfl ?_
      refine el_load rfl rfl rfl rfl rfl (cell_keep0 c2 k03) ?_
      refine el_build (z := takeZ) (vs := [.int .i64 x.what, .int .i64 4611686018427387904]) rfl rfl rfl rfl rfl rfl ?_
      refine el_alloc (z := takeZ) #[.int .i64 0, .int .i64 0] rfl rfl rfl rfl ?_
      intro tb w4 e4 e4' k4 ht4
      refine el_store #[.int .i64 x.what, .int .i64 4611686018427387904] rfl rfl rfl rfl rfl rfl rfl rfl ht4 rfl rfl ?_
      intro w5 k5 hs5 ht5
      refine ep rfl ?_
      have k35 : Keep [] w3 w5 := k4.trans k5 (by simp; omega)
      refine ew_cut [(0, A0), (1, C0), (5, G0), (6, tv), (7, .int .i64 (i : Int)), (11, .pointer (some ⟨tb, 0, none⟩))] (fun w' => ∃ n', Blk w' tb 63 #[.int .i64 x.what, .int .i64 n'] ∧ Keep [] w3 w') ?_ ?_
      · refine sp rfl ?_
        refine el_loadb rfl rfl rfl rfl rfl ht5 rfl ?_
        refine ep rfl ?_
        by_cases h0 : x.what = 0
        · refine ew_cond_t rfl (by simp [h0]) ?_
          refine gp rfl ?_
          refine el_store #[.int .i64 x.what, .int .i64 9223372036854775807] rfl rfl rfl rfl rfl rfl rfl rfl ht5 rfl rfl ?_
          intro w6 k6 hs6 ht6
          refine ep rfl ?_
          exact ⟨rfl, ⟨rfl, rfl, rfl, rfl, rfl, rfl, trivial⟩, _, ht6, k35.trans k6 (by simp; omega)⟩
        · refine ew_cond_f rfl (by simp [h0]) ?_
          refine ew_skip ?_
          exact ⟨rfl, ⟨rfl, rfl, rfl, rfl, rfl, rfl, trivial⟩, _, ht5, k35⟩
      intro ρ6 w6 hd6 ⟨n', ht6, k36⟩
      refine ew_cut [(0, A0), (1, C0), (5, G0), (6, tv), (7, .int .i64 (i : Int)), (11, .pointer (some ⟨tb, 0, none⟩))] (fun w' => ∃ t', Blk w' tb 63 #[.int .i64 (Prod.fst t'), .int .i64 (Prod.snd t')] ∧ Keep [] w3 w') ?_ ?_
      · refine sp rfl ?_
        refine el_loadb rfl rfl rfl rfl rfl ht6 rfl ?_
        refine ppn 1 rfl ?_
        by_cases hw0 : x.what < 0
        · refine el_as (v' := .bool true) (bool_eq (decide_eq_true (by omega))) ?_
          refine ep rfl ?_
          refine ew_cond_t rfl rfl ?_
          refine gp rfl ?_
          refine el_index (e := 46) (j := i) (p := i * 3) rfl rfl rfl rfl rfl rfl hlt rfl rfl ?_
          refine pp rfl ?_
          refine el_load rfl rfl rfl rfl rfl (cell_keep0 c4 (k03.trans0 k36)) ?_
          refine pp rfl ?_
          refine el_build (z := takeZ) (vs := [.int .i64 5, .int .i64 (IntKind.wrap .i64 (2 * (x.bytes.length : Int)))]) rfl rfl rfl rfl rfl rfl ?_
          refine el_store #[.int .i64 5, .int .i64 (IntKind.wrap .i64 (2 * (x.bytes.length : Int)))] rfl rfl rfl rfl rfl rfl rfl rfl ht6 rfl rfl ?_
          intro w7 k7 hs7 ht7
          refine ep rfl ?_
          exact ⟨rfl, ⟨rfl, rfl, rfl, rfl, rfl, rfl, trivial⟩, (5, _), ht7, k36.trans k7 (by simp; omega)⟩
        refine el_as (v' := .bool false) (bool_eq (decide_eq_false (by omega))) ?_
        refine pp rfl ?_
        refine el_loadb rfl rfl rfl rfl rfl ht6 rfl ?_
        refine ppn 1 rfl ?_
        by_cases hw4 : x.what > 4
        · refine el_as (v' := .bool true) (bool_eq (decide_eq_true (by omega))) ?_
          refine ep rfl ?_
          refine ew_cond_t rfl rfl ?_
          refine gp rfl ?_
          refine el_index (e := 46) (j := i) (p := i * 3) rfl rfl rfl rfl rfl rfl hlt rfl rfl ?_
          refine pp rfl ?_
          refine el_load rfl rfl rfl rfl rfl (cell_keep0 c4 (k03.trans0 k36)) ?_
          refine pp rfl ?_
          refine el_build (z := takeZ) (vs := [.int .i64 5, .int .i64 (IntKind.wrap .i64 (2 * (x.bytes.length : Int)))]) rfl rfl rfl rfl rfl rfl ?_
          refine el_store #[.int .i64 5, .int .i64 (IntKind.wrap .i64 (2 * (x.bytes.length : Int)))] rfl rfl rfl rfl rfl rfl rfl rfl ht6 rfl rfl ?_
          intro w7 k7 hs7 ht7
          refine ep rfl ?_
          exact ⟨rfl, ⟨rfl, rfl, rfl, rfl, rfl, rfl, trivial⟩, (5, _), ht7, k36.trans k7 (by simp; omega)⟩
        refine el_as (v' := .bool false) (bool_eq (decide_eq_false (by omega))) ?_
        refine ep rfl ?_
        refine ew_cond_f rfl rfl ?_
        refine ew_skip ?_
        exact ⟨rfl, ⟨rfl, rfl, rfl, rfl, rfl, rfl, trivial⟩, (x.what, n'), ht6, k36⟩
      intro ρ7 w7 hd7 ⟨⟨t1, t2⟩, ht7, k37⟩
      dsimp only at ht7
      have hW7 := hW3.keep0 k37
      have hD7 := own_keep hD3 k37 (by simp)
      have k07 := k03.trans0 k37
      refine gp rfl ?_
      refine el_loada (vs := [.int .i64 t1, .int .i64 t2]) rfl rfl rfl rfl rfl rfl ht7 rfl ?_
      refine el_bsliceN (z := takeZ) (size := 2) (bytes := 16) (vs := [.int .i64 t1, .int .i64 t2]) rfl rfl rfl info_take rfl rfl rfl ?_
      intro sb w8 e8 e8' k8 hsb
      have hW8 := hW7.keep0 k8
      have hD8 := own_keep hD7 k8 (by simp)
      have k08 := k07.trans0 k8
      refine el_append (v := tv) (base := w0.heap.size) (z := takeZ) (size := 2) (bytes := 16) (n := ts.length) (m := 1) (xs := cellsT ts) (ys := [.int .i64 t1, .int .i64 t2]) rfl rfl rfl info_take rfl rfl rfl rfl hD8 (Rd.of_blk1 1 hsb) rfl (by intro u hu; simp at hu; rcases hu with rfl | rfl <;> rfl) (by unfold maxLen; omega) (by omega) k08.size ?_
      intro tv' w9 hD9' hg9 hfr9
      have hD9 : w9.ownsRow w0.heap.size 63 2 tv' (ts ++ [(t1, t2)]).length (cellsT (ts ++ [(t1, t2)])) := by
        rw [cellsT_app, List.length_append]
        exact hD9'
      have k89 : Keep tv.ownBlock.toList w8 w9 := Keep.of_grown hg9 (fun b hb _ => by simp [hb])
      have hgd : g ∉ tv.ownBlock.toList := fun h => own_ne hD8 hW8.blkW.choose_spec (by decide) g (by simpa using h) (by simp)
      have hE : NoE 5 w8 tv.ownBlock.toList := fun b hb c fr hc => by
        obtain ⟨c', hc'⟩ := own_typed hD8 (by simpa using hb)
        exact Blk.ne hc hc' (by decide) rfl
      have hW9 := hW8.keep k89 hgd hE
      have k09 : Keep [] w0 w9 := k08.trans k89 (fun b hb hlt' => by have := hD8.lt b (by simpa using hb); omega)
      refine ep rfl ?_
      refine eg rfl ?_
      exact ⟨hd7.trans (hd6.trans (by exact hd)), (i + 1, tv', ts ++ [(t1, t2)]), ⟨rfl, rfl, rfl, rfl, int_eq (by rw [wrap_i64 (by omega) (by omega)]; omega), trivial⟩, ⟨hlt, by simp; omega, hD9, ⟨_, hW9, hcl3⟩, k09⟩, by dsimp only; omega⟩
    · refine el_neqi (a := x.err) (b := 0) (k := .i64) true (by simpa using he) rfl rfl rfl rfl ?_
      refine ep rfl ?_
      refine ew_cond_t rfl rfl ?_
      refine ew_exit ?_
      refine eg rfl ?_
      exact ⟨by exact hd, (i + 1, tv, ts), ⟨rfl, rfl, rfl, rfl, int_eq (by rw [wrap_i64 (by omega) (by omega)]; omega), trivial⟩, ⟨hlt, by dsimp only; omega, hD3, ⟨_, hW3, hcl3⟩, k03⟩, by dsimp only; omega⟩
  · obtain rfl : i = xs.length := by omega
    rw [List.take_length] at hcl
    refine ew_cond_f rfl (decide_eq_false (by omega)) ?_
    refine ew_exit ?_
    refine sp rfl ?_
    refine el_call rfl rfl rfl rfl rfl rfl (wall_ok (some g) cur w2 hW2) ?_
    rintro y w3 ⟨hy3', k3⟩
    have hy3 : OwnB 5 w3 w2.heap.size y cur := hy3'
    obtain ⟨ady, capy, rfl, hcy⟩ := own_slice hy3
    have hD3 := own_keep hD2 k3 (by simp)
    have k03 := k02.trans0 k3
    refine ep rfl ?_
    refine ew_seq (spn 3 rfl ?_)
    by_cases hc0 : cut < 0
    · refine el_as (v' := .bool true) (bool_eq (decide_eq_true (by omega))) ?_
      refine ep rfl ?_
      refine ew_cond_t rfl rfl ?_
      refine sp rfl ?_
      refine el_call rfl rfl rfl rfl rfl rfl (works_ok _) ?_
      rintro _ w1 ⟨rfl, k⟩
      refine ep rfl ?_
      exact ew_ret (ret_1 (.bool true) rfl rfl (by exact hd) rfl ⟨rfl, k03.trans0 k⟩)
    refine el_as (v' := .bool false) (bool_eq (decide_eq_false (by omega))) ?_
    refine ppn 5 rfl ?_
    by_cases hcl2 : cut > (cur.length : Int)
    · refine el_as (v' := .bool true) (bool_eq (decide_eq_true (by omega))) ?_
      refine ep rfl ?_
      refine ew_cond_t rfl rfl ?_
      refine sp rfl ?_
      refine el_call rfl rfl rfl rfl rfl rfl (works_ok _) ?_
      rintro _ w1 ⟨rfl, k⟩
      refine ep rfl ?_
      exact ew_ret (ret_1 (.bool true) rfl rfl (by exact hd) rfl ⟨rfl, k03.trans0 k⟩)
    refine el_as (v' := .bool false) (bool_eq (decide_eq_false (by omega))) ?_
    refine ep rfl ?_
    refine ew_cond_f rfl rfl ?_
    refine ew_skip ?_
    obtain ⟨c, hc⟩ : ∃ c : Nat, cut = (c : Int) := ⟨cut.toNat, by omega⟩
    subst hc
    have hcc : c ≤ cur.length := by omega
    obtain ⟨all, hall⟩ : ∃ all, cur.take c = all := ⟨_, rfl⟩
    have hal : all.length = c := by rw [← hall, List.length_take]; omega
    have hb3 : RdB w3 (.slice ady all.length capy) all := by
      have ht := (Rd.of_own hy3).take (m := c) (by omega)
      have e1 : (bytesV cur).take c = bytesV all := by rw [← hall]; simp [bytesV]
      show Rd _ _ _ _
      rw [hal, ← e1]
      exact ht
    have hbl : ∀ b, (Value.slice ady all.length capy).ownBlock = some b → b < w3.heap.size := fun b hb => (hy3.lt b (by cases ady with
      | none => cases hb
      | some q => exact hb)).2
    refine sp rfl ?_
    refine el_slice_to (e := 5) (m := all.length) rfl rfl rfl rfl rfl rfl (by rw [hal]) (by omega) ?_
    refine el_call rfl rfl rfl rfl rfl rfl (read_ok (.slice ady all.length capy) all w3 hb3 (by omega)) ?_
    rintro rv w4 ⟨gr, rfl, hgr, hR4, k4⟩
    have hb4 : RdB w4 (.slice ady all.length capy) all := Rd.keep0 hb3 k4
    have hD4 := own_keep hD3 k4 (by simp)
    have k04 := k03.trans0 k4
    refine ep rfl ?_
    refine sp rfl ?_
    refine el_slice_to (e := 5) (m := all.length) rfl rfl rfl rfl rfl rfl (by rw [hal]) (by omega) ?_
    refine el_build (z := zr) (vs := [.slice ady all.length capy, .int .i64 0, .int .i64 0]) rfl rfl rfl rfl rfl rfl ?_
    refine el_alloc (z := zr) #[.slice none 0 0, .int .i64 0, .int .i64 0] rfl rfl rfl rfl ?_
    intro wb w5 e5 e5' k5 hw5
    refine el_store #[.slice ady all.length capy, .int .i64 0, .int .i64 0] rfl rfl rfl rfl rfl rfl rfl rfl hw5 rfl rfl ?_
    intro w6 k6 hs6 hw6
    have k46 : Keep [] w4 w6 := k5.trans k6 (by simp; omega)
    have hgrl := hR4.lt
    refine ep rfl ?_
    refine ew_seq (es rfl ?_)
    refine ew_block ?_
    let R0 : Value := .pointer (some ⟨gr, 0, none⟩)
    let W0 : Value := .pointer (some ⟨wb, 0, none⟩)
    let B0 : Value := .slice ady all.length capy
    refine ew_loop (α := Nat × Nat × Int) (fun x => [(6, tv), (13, R0), (14, W0), (15, .int .i64 (x.1 : Int))])
      (fun x w' => x.1 ≤ ts.length ∧ w'.ownsRow w0.heap.size 63 2 tv ts.length (cellsT ts) ∧ IsR w' gr all x.2.1 x.2.2 ∧ Blk w' wb 35 #[B0, .int .i64 (x.2.1 : Int), .int .i64 x.2.2] ∧ RdB w' B0 all ∧ w4.heap.size ≤ w'.heap.size ∧ Keep [] w0 w') (fun x => ts.length - x.1)
      (0, 0, 0) ⟨rfl, rfl, rfl, rfl, trivial⟩ ⟨Nat.zero_le _, own_keep hD4 k46 (by simp), hR4.keep0 k46, hw6, hb4.keep0 k46, k46.size, k04.trans0 k46⟩ ?_
    rintro ⟨j, a, f⟩ ρ2 w7 hd2 ⟨hj, hD7, hR7, hw7, hb7, hsz7, k07⟩
    dsimp only at hj hD7 hR7 hw7 hb7 hsz7 k07
    have hd2' : ρ2.ds = [] := hd2.trans (by exact hd)
    obtain ⟨adt, capt, rfl, hct⟩ := own_slice hD7
    have hwgr : wb ≠ gr := hR7.ne hw7 (by decide)
    have hgr0 : w0.heap.size ≤ gr := by have := k03.size; omega
    have hwb0 : w0.heap.size ≤ wb := by have := k04.size; omega
    have hbv : ∀ b, B0.ownBlock = some b → b < w4.heap.size ∧ b ≠ gr := fun b hb => by
      have := hbl b hb
      have := k4.size
      omega
    let T : Value := .bool true
    refine ew_seq (es rfl ?_)
    by_cases hlt7 : j < ts.length
    · refine ew_cond_t rfl (decide_eq_true (by omega)) ?_
      refine ew_skip ?_
      obtain ⟨⟨t1, t2⟩, htj⟩ : ∃ x, ts[j]? = some x := ⟨_, List.getElem?_eq_getElem hlt7⟩
      obtain ⟨gd, rfl⟩ : ∃ gd, adt = some ⟨gd, 0, none⟩ := by
        rcases hD7.2 with ⟨e1, e2⟩ | ⟨gb, capY, cs, e1, _⟩
        · omega
        · injection e1 with e1
          exact ⟨gb, e1⟩
      have hcellsW : ∀ w, Keep [gr] w7 w → ∀ k y, [Value.int .i64 t1, .int .i64 t2][k]? = some y → w.cell? (((⟨gd, 0, none⟩ : Addr).add (j * 2)).add k) = some y := fun w kw k y hk => by
        have hDw := own_keep hD7 kw (own_ne hD7 hR7.blk (by decide))
        rw [add_lit, add_lit]
        have := hDw.cells (g := gd) rfl (j * 2 + k) y (cellsT_at ts j _ htj k y hk)
        rwa [add_lit, ← Nat.add_assoc] at this
      obtain ⟨⟨a', f'⟩, hS⟩ : ∃ s, tkS t1 t2 all a f = s := ⟨_, rfl⟩
      have hspec : ∀ w, IsR w gr all a f → RdB w B0 all → (∀ b, B0.ownBlock = some b → b < w.heap.size ∧ b ≠ gr) → Fn Try.prog 33 [R0, rdr B0 a f, .agg #[.int .i64 t1, .int .i64 t2]] w fun r w' => r = .tuple #[rdr B0 a' f', .bool true] ∧ IsR w' gr all a' f' ∧ Keep [gr] w w' := fun w h1 h2 h3 => by
        have := took_ok gr B0 all a f t1 t2 w h1 h2 h3
        rw [hS] at this
        exact this
      have hgrl7 := hR7.lt
      have hwbl7 := Blk.lt hw7
      refine ew_seq (ew_block ?_)
      refine ew_seq ?_
      let TV : Value := .slice (some ⟨gd, 0, none⟩) ts.length capt
      let PR : Value := .pointer (some ((⟨gd, 0, none⟩ : Addr).add (j * 2)))
      refine ew_drawg follows [.known R0, .known (rdr B0 a f), .known TV, .known (.int .i64 (j : Int)), .known PR, .known (.agg #[.int .i64 t1, .int .i64 t2]), .known (.tuple #[rdr B0 a' f', .bool true]), .known (.tuple #[rdr B0 a' f', .bool true]), .known (rdr B0 a' f'), .known T, .any, .known undef, .known T]
        (CutG gr all B0 a' f' w7) rfl (stable_any _ (by simp [Spec.isK])) ⟨Keep.any (Keep.drew w7), fun _ => Keep.drew w7, (fun h => by cases h), (fun h => by cases h)⟩ ?_ ?_
      refine ⟨pureG rfl (fun _ _ => rfl) (fun _ _ _ h => h), ?_⟩
      refine ⟨fun b V ρ w hbi hd hu hG hV => el_loada (vs := [B0, .int .i64 (a : Int), .int .i64 f]) rfl rfl rfl rfl rfl rfl (hG.1.blk hw7 (by simpa using hwgr)) rfl (el_nil ⟨_, rfl, rfl, hG⟩), ?_⟩
      refine ⟨pureG rfl (fun _ _ => rfl) (fun _ _ _ h => h), ?_⟩
      refine ⟨pureG rfl (fun _ _ => rfl) (fun _ _ _ h => h), ?_⟩
      refine ⟨fun b V ρ w hbi hd hu hG hV => el_index (e := 63) (j := j) (p := j * 2) rfl rfl rfl rfl rfl rfl hlt7 rfl rfl (el_nil ⟨_, rfl, rfl, hG⟩), ?_⟩
      refine ⟨fun b V ρ w hbi hd hu hG hV => el_loadc (vs := [.int .i64 t1, .int .i64 t2]) rfl rfl rfl rfl rfl rfl (hcellsW w hG.1) (el_nil ⟨_, rfl, rfl, hG⟩), ?_⟩
      refine ⟨?_, ?_⟩
      · intro b V ρ w hbi hd hu hG hV
        have k7 := hG.2.1 hbi
        refine el_call rfl rfl rfl rfl rfl rfl (hspec w (hR7.keep0 k7) (hb7.keep0 k7) (fun b hb => by have := hbv b hb; have := k7.size; omega)) ?_
        rintro _ w' ⟨rfl, hR', k'⟩
        refine el_nil ⟨_, rfl, rfl, k7.any.trans k' (by simp), (fun h => by cases h), (fun _ => hR'), fun h10 => ?_⟩
        obtain ⟨nb, q1, q2, q3, q4⟩ := hG.2.2.2 h10
        exact ⟨nb, q1, q2, fun h => k'.blk (q3 h) (by simp; omega), fun h => k'.blk (q4 h) (by simp; omega)⟩
      refine ⟨pureG rfl (fun _ _ => rfl) (fun _ _ _ h => h), ?_⟩
      refine ⟨pureG rfl (fun _ _ => rfl) (fun _ _ _ h => h), ?_⟩
      refine ⟨pureG rfl (fun _ _ => rfl) (fun _ _ _ h => h), ?_⟩
      refine ⟨?_, ?_⟩
      · intro b V ρ w hbi hd hu hG hV
        have h11 : b 11 = false := hu 11 _ rfl rfl
        refine el_alloc (z := zr) #[.slice none 0 0, .int .i64 0, .int .i64 0] rfl rfl rfl rfl ?_
        intro nb w' e e' k' hnb
        refine el_nil ⟨_, rfl, trivial, hG.1.trans0 k', (fun h => (hG.2.1 h).trans0 k'), (fun h => (hG.2.2.1 h).keep0 k'), fun _ => ⟨nb, rfl, by have := hG.1.size; omega, fun _ => hnb, fun h => ?_⟩⟩
        have h' : b 11 = true := h
        rw [h11] at h'
        cases h'
      refine ⟨?_, ?_⟩
      · intro b V ρ w hbi hd hu hG hV
        obtain ⟨nb, q1, q2, q3, q4⟩ := hG.2.2.2 (hd 10 rfl)
        have hnb := q3 hbi
        have hngr : nb ≠ gr := by omega
        refine el_store #[B0, .int .i64 (a' : Int), .int .i64 f'] rfl rfl (show V 10 = _ from q1) rfl rfl rfl rfl rfl hnb rfl rfl ?_
        intro w' k' hs' hnb'
        exact el_nil ⟨_, rfl, rfl, hG.1.trans k' (by simp; omega), (fun h => (hG.2.1 h).trans k' (by simp; omega)), (fun h => (hG.2.2.1 h).keep k' (by simp; omega) (NoE.one hnb (by decide))), fun _ => ⟨nb, q1, q2, (fun h => by cases h), fun _ => hnb'⟩⟩
      refine ⟨pureG rfl (fun _ _ => rfl) (fun _ _ _ h => h), ?_⟩
      trivial
      intro b V w8 hall8 hG hV
      obtain ⟨k78, _, hR8', h10⟩ := hG
      have hR8 := hR8' (hall8 6 (by decide))
      obtain ⟨nb, q1, q2, _, q4⟩ := h10 (hall8 10 (by decide))
      have hn8 := q4 (hall8 11 (by decide))
      have hw8 := k78.blk hw7 (by simpa using hwgr)
      have hD8 := own_keep hD7 k78 (own_ne hD7 hR7.blk (by decide))
      have hb8 := hb7.keep k78 (fun b hb => by have := hbv b hb; simp; omega)
      have k08 : Keep [] w0 w8 := k07.trans k78 (by simp; omega)
      refine sp rfl ?_
      refine el_loada (vs := [B0, .int .i64 (a' : Int), .int .i64 f']) rfl rfl (show V 10 = _ from q1) rfl rfl rfl hn8 rfl ?_
      refine el_store #[B0, .int .i64 (a' : Int), .int .i64 f'] rfl rfl rfl rfl rfl rfl rfl rfl hw8 rfl rfl ?_
      intro w9 k9 hs9 hw9
      refine ep rfl ?_
      refine es rfl ?_
      refine ew_cond_f rfl rfl ?_
      refine ew_skip ?_
      refine eg rfl ?_
      have hDw := own_ne hD8 hw8 (by decide)
      exact ⟨by exact hd2, (j + 1, a', f'), ⟨rfl, rfl, rfl, int_eq (by rw [wrap_i64 (by omega) (by omega)]; omega), trivial⟩, ⟨hlt7, own_keep hD8 k9 hDw, hR8.keep k9 (by simpa using fun h => hwgr h.symm) (NoE.one hw8 (by decide)), hw9, hb8.keep k9 (fun b hb => by have := hbv b hb; simp; omega), by have := k78.size; omega, k08.trans k9 (by simp; omega)⟩, by dsimp only; omega⟩
    · refine ew_cond_f rfl (decide_eq_false (by omega)) ?_
      refine ew_exit ?_
      obtain ⟨e, he⟩ : ∃ e : Int, (if f ≠ 0 then f else if a < all.length then 122 else 0) = e := ⟨_, rfl⟩
      let E : Value := .int .i64 e
      refine ew_seq ?_
      refine ew_draw follows [.known R0, .known E, .known E, .known (rdr B0 a f), .known E, .known T, .known T, .known T, .known T, .known T] []
        (fun b w => True) rfl (stable_known _ rfl) trivial ?_ ?_
      refine ⟨pureD rfl (fun _ _ => rfl) (fun _ _ h => h), ?_⟩
      refine ⟨fun b V ρ w hk hbi hd hu hWd hV => el_call rfl rfl rfl rfl rfl rfl (rend_ok gr all a f w (hR7.keep0 hk)) (by rw [he]; rintro _ _ ⟨rfl, rfl⟩; exact el_nil ⟨_, rfl, rfl, Keep.refl _ _, hWd⟩), ?_⟩
      refine ⟨fun b V ρ w hk hbi hd hu hWd hV => el_call rfl rfl rfl rfl rfl rfl (num_ok _ w) (by rintro _ _ ⟨rfl, rfl⟩; exact el_nil ⟨_, rfl, rfl, Keep.refl _ _, hWd⟩), ?_⟩
      refine ⟨fun b V ρ w hk hbi hd hu hWd hV => el_loada (vs := [B0, .int .i64 (a : Int), .int .i64 f]) rfl rfl rfl rfl rfl rfl (hk.blk hw7 (by simp)) rfl (el_nil ⟨_, rfl, rfl, Keep.refl _ _, hWd⟩), ?_⟩
      refine ⟨fun b V ρ w hk hbi hd hu hWd hV => el_call rfl rfl rfl rfl rfl rfl (refend_ok ady capy all a f w hR7.2.1) (by rw [he]; rintro _ w' ⟨rfl, k⟩; exact el_nil ⟨_, rfl, rfl, k, trivial⟩), ?_⟩
      refine ⟨fun b V ρ w hk hbi hd hu hWd hV => el_eqi true (by simp) rfl rfl rfl rfl (el_nil ⟨_, rfl, rfl, Keep.refl _ _, hWd⟩), ?_⟩
      refine ⟨pureD rfl (fun _ _ => rfl) (fun _ _ h => h), ?_⟩
      refine ⟨fun b V ρ w hk hbi hd hu hWd hV => el_call rfl rfl rfl rfl rfl rfl (works_ok w) (by rintro _ _ ⟨rfl, k⟩; exact el_nil ⟨_, rfl, rfl, k, trivial⟩), ?_⟩
      refine ⟨pureD rfl (fun _ _ => rfl) (fun _ _ h => h), ?_⟩
      refine ⟨pureD rfl (fun _ _ => rfl) (fun _ _ h => h), ?_⟩
      trivial
      intro b V w8 hall8 k8 hWd hV
      exact ew_ret (ret_1 T rfl rfl (by exact hd2') rfl ⟨rfl, k07.trans0 k8⟩)
end Go.Proofs.Ytfbpobhbkadblaa
