/- The law: what was written is read by the same calls; what is read is written as the same bytes. -/
import Derived.Test.YtfbpobhbkadblaaAgain
import Derived.Test.YtfbpobhbkadblaaApp4
set_option linter.unusedVariables false
set_option linter.unusedSimpArgs false
namespace Go.Proofs.Ytfbpobhbkadblaa
open Go.RowKit
set_option maxRecDepth 20000

/-- The cells of calls. -/
def cellsD (ds : List (AddD × Value)) : List Value := ds.flatMap fun p => [.int .i64 p.1.what, .int .i64 p.1.n, p.2]
theorem cellsD_len (ds : List (AddD × Value)) : (cellsD ds).length = ds.length * 3 := by
  induction ds with
  | nil => rfl
  | cons d ds ih => simp [cellsD] at ih ⊢; omega
theorem cellsD_app (ds : List (AddD × Value)) (x : AddD) (u : Value) : cellsD (ds ++ [(x, u)]) = cellsD ds ++ [.int .i64 x.what, .int .i64 x.n, u] := by simp [cellsD]
theorem cellsD_at : ∀ (ds : List (AddD × Value)) (i : Nat) (x : AddD) (u : Value), ds[i]? = some (x, u) → ∀ k y, [Value.int .i64 x.what, .int .i64 x.n, u][k]? = some y → (cellsD ds)[i * 3 + k]? = some y := by
  intro ds
  induction ds with
  | nil => intro i x u h; simp at h
  | cons d ds ih =>
    intro i x u h k y hk
    have hk3 : k < 3 := by simpa using (List.getElem?_eq_some_iff.1 hk).1
    cases i with
    | zero =>
      simp at h
      subst h
      show ([Value.int .i64 x.what, .int .i64 x.n, u] ++ cellsD ds)[0 * 3 + k]? = some y
      rw [List.getElem?_append_left (by simp; omega)]
      simpa using hk
    | succ i =>
      have h' : ds[i]? = some (x, u) := by simpa using h
      have := ih i x u h' k y hk
      show ([Value.int .i64 d.1.what, .int .i64 d.1.n, d.2] ++ cellsD ds)[(i + 1) * 3 + k]? = some y
      rw [List.getElem?_append_right (by simp; omega)]
      have e : (i + 1) * 3 + k - [Value.int .i64 d.1.what, .int .i64 d.1.n, d.2].length = i * 3 + k := by simp; omega
      rw [e]
      exact this
theorem info_add : (Try.prog.info? 46).map (fun i => (i.zero, i.size, i.bytes)) = some (some (.agg #[.int .i64 0, .int .i64 0, .slice none 0 0]), 3, 40) := by kernel_rfl
def addZ : Value := .agg #[.int .i64 0, .int .i64 0, .slice none 0 0]
theorem laid_err {x : AddD} (h : x.err ≠ 0) : x.laid = [] := by
  unfold AddD.err at h
  unfold AddD.laid
  by_cases h0 : x.what = 0
  · rw [if_pos h0] at h ⊢
    by_cases h1 : x.n < 0
    · rw [if_pos h1]
    · rw [if_neg h1] at h
      exact absurd rfl h
  · rw [if_neg h0] at h ⊢
    by_cases h1 : x.what = 1
    · rw [if_pos h1] at h ⊢
      cases hs : inSign x.n with
      | true => rw [hs] at h; exact absurd rfl h
      | false => rfl
    · rw [if_neg h1] at h
      exact absurd rfl h
def firsts (ds : List (AddD × Value)) : List AddD := ds.map (·.1)
theorem laidAll_app (xs : List AddD) (x : AddD) : laidAll (xs ++ [x]) = laidAll xs ++ x.laid := by simp [laidAll]
theorem laidAll_split (xs : List AddD) (i : Nat) : laidAll xs = laidAll (xs.take i) ++ laidAll (xs.drop i) := by
  unfold laidAll
  rw [← List.flatten_append, ← List.map_append, List.take_append_drop]
/-- What is kept is as what was laid. -/
def GoodD (w0 : World) (ds : List (AddD × Value)) : Prop := ∀ p ∈ ds, p.1.err = 0 ∧ 0 ≤ p.1.what ∧ p.1.what ≤ 4 ∧ p.1.n ≤ 9223372036854775807 ∧ p.1.bytes.length ≤ 4000 ∧ RdB w0 p.2 p.1.bytes
theorem three_cells {w : World} {a : Addr} {u v z : Value} (h0 : w.cell? (a.add 0) = some u) (h1 : w.cell? (a.add 1) = some v) (h2 : w.cell? (a.add 2) = some z) : ∀ j x, [u, v, z][j]? = some x → w.cell? (a.add j) = some x := fun j x hj => by
  match j, hj with
  | 0, hj => injection hj with hj; subst hj; exact h0
  | 1, hj => injection hj with hj; subst hj; exact h1
  | 2, hj => injection hj with hj; subst hj; exact h2

set_option maxHeartbeats 4000000 in
theorem WireBack_ok (v : Value) (xs : List AddD) (vb : Value) (bs : List UInt8) (vt : Value) (ts : List (Int × Int)) (w0 : World) (hv : RdA w0 v xs) (hvb : RdB w0 vb bs) (hbl : bs.length ≤ maxLen) (hvt : RdT w0 vt ts) :
    Fn Try.prog 9 [v, vb, vt] w0 fun r w' => r = .bool true ∧ Keep [] w0 w' := by
  have hvA := hv
  obtain ⟨ad, cap, rfl, hcap, hml, hx⟩ := hv
  obtain ⟨adb, capb, rfl, hcapb⟩ := hvb.slice
  have hvtA := hvt
  obtain ⟨adt, capt, rfl, hcapt, hmt, _⟩ := hvt
  have hmt' : ts.length ≤ 9223372036854775807 := by unfold maxLen at hmt; omega
  have hbl' : bs.length ≤ 9223372036854775807 := by unfold maxLen at hbl; omega
  refine fn_enter Try.func9 rfl rfl ?_
  refine es rfl ?_
  refine ew_seq ?_
  refine sp rfl ?_
  refine el_call rfl rfl rfl rfl rfl rfl (few_ok _ xs w0 hvA) ?_
  rintro rv _ ⟨hr, rfl⟩
  by_cases hfew : ¬ fewN xs ≤ 4000
  · rw [decide_eq_false hfew] at hr
    subst hr
    refine ep rfl ?_
    refine ew_cond_t rfl rfl ?_
    refine sp rfl ?_
    refine el_call rfl rfl rfl rfl rfl rfl (works_ok w0) ?_
    rintro _ w1 ⟨rfl, k⟩
    refine ep rfl ?_
    exact ew_ret (ret_1 (.bool true) rfl rfl rfl rfl ⟨rfl, k⟩)
  have hfew : fewN xs ≤ 4000 := Decidable.not_not.1 hfew
  rw [decide_eq_true hfew] at hr
  subst hr
  refine ppn 5 rfl ?_
  by_cases hb2 : bs.length > 2000
  · refine el_as (v' := .bool true) (bool_eq (decide_eq_true (by omega))) ?_
    refine ep rfl ?_
    refine ew_cond_t rfl rfl ?_
    refine sp rfl ?_
    refine el_call rfl rfl rfl rfl rfl rfl (works_ok w0) ?_
    rintro _ w1 ⟨rfl, k⟩
    refine ep rfl ?_
    exact ew_ret (ret_1 (.bool true) rfl rfl rfl rfl ⟨rfl, k⟩)
  refine el_as (v' := .bool false) (bool_eq (decide_eq_false (by omega))) ?_
  refine ppn 5 rfl ?_
  by_cases ht2 : ts.length > 60
  · refine el_as (v' := .bool true) (bool_eq (decide_eq_true (by omega))) ?_
    refine ep rfl ?_
    refine ew_cond_t rfl rfl ?_
    refine sp rfl ?_
    refine el_call rfl rfl rfl rfl rfl rfl (works_ok w0) ?_
    rintro _ w1 ⟨rfl, k⟩
    refine ep rfl ?_
    exact ew_ret (ret_1 (.bool true) rfl rfl rfl rfl ⟨rfl, k⟩)
  refine el_as (v' := .bool false) (bool_eq (decide_eq_false (by omega))) ?_
  refine ep rfl ?_
  refine ew_cond_f rfl rfl ?_
  refine ew_skip ?_
  have hlen : xs.length ≤ 4000 := by
    have : ∀ l : List AddD, l.length ≤ fewN l := by
      intro l
      induction l with
      | nil => simp [fewN]
      | cons a l ih => simp [fewN] at ih ⊢; omega
    have := this xs
    omega
  refine sp rfl ?_
  refine el_call rfl rfl rfl rfl rfl rfl (new_ok w0) ?_
  rintro rv w1 ⟨g, rfl, hg, hW1, k1⟩
  refine ep rfl ?_
  refine es rfl ?_
  refine ew_seq (es rfl ?_)
  refine ew_block ?_
  refine ew_loop (α := Nat × Value × List (AddD × Value)) (fun x => [(0, .slice ad xs.length cap), (1, .slice adb bs.length capb), (2, .slice adt ts.length capt), (7, .pointer (some ⟨g, 0, none⟩)), (8, x.2.1), (9, .int .i64 (x.1 : Int))])
    (fun x w' => x.1 ≤ xs.length ∧ x.2.2.length ≤ x.1 ∧ w'.ownsRow w0.heap.size 46 3 x.2.1 x.2.2.length (cellsD x.2.2) ∧ IsW w' g (laidAll (firsts x.2.2)) ∧ (laidAll (firsts x.2.2)).length ≤ 2 * fewN (xs.take x.1) ∧ GoodD w0 x.2.2 ∧ Keep [] w0 w') (fun x => xs.length - x.1)
    (0, .slice none 0 0, []) ⟨rfl, rfl, rfl, rfl, rfl, rfl, trivial⟩ ⟨Nat.zero_le _, Nat.le_refl _, World.ownsRow_nil _ _ _ _, hW1, by simp [firsts, laidAll], (fun p hp => by cases hp), k1⟩ ?_
  rintro ⟨i, dv, ds⟩ ρ w2 hd ⟨hi, hdi, hD2, hW2, hcl, hgood, k02⟩
  dsimp only at hi hdi hD2 hW2 hcl hgood k02
  refine ew_seq (es rfl ?_)
  by_cases hlt : i < xs.length
  · refine ew_cond_t rfl (decide_eq_true (by omega)) ?_
    refine ew_skip ?_
    obtain ⟨x, hxi⟩ : ∃ x, xs[i]? = some x := ⟨_, List.getElem?_eq_getElem hlt⟩
    obtain ⟨b1, b2, a, u, rfl, c2, c3, c4, c5⟩ := hx i x hxi
    obtain ⟨ad2, cap2, rfl, hc2⟩ := c5.slice
    have hmem := fewN_mem hxi
    have htk := fewN_take hxi
    have hfl := fewN_le xs (i + 1)
    have hgl2 := hW2.lt
    refine ew_seq (ew_block ?_)
    refine ew_seq (sp rfl ?_)
    refine el_index (e := 46) (j := i) (p := i * 3) rfl rfl rfl rfl rfl rfl hlt rfl rfl ?_
    refine pp rfl ?_
    refine el_load rfl rfl rfl rfl rfl (cell_keep0 c2 k02) ?_
    refine ppn 1 rfl ?_
    by_cases hw0 : x.what < 0
    · refine el_as (v' := .bool true) (bool_eq (decide_eq_true (by omega))) ?_
      refine ep rfl ?_
      refine ew_cond_t rfl rfl ?_
      refine ew_exit ?_
      refine eg rfl ?_
      exact ⟨by exact hd, (i + 1, dv, ds), ⟨rfl, rfl, rfl, rfl, rfl, int_eq (by rw [wrap_i64 (by omega) (by omega)]; omega), trivial⟩, ⟨hlt, by dsimp only; omega, hD2, hW2, by dsimp only; omega, hgood, k02⟩, by dsimp only; omega⟩
    refine el_as (v' := .bool false) (bool_eq (decide_eq_false (by omega))) ?_
    refine pp rfl ?_
    refine el_index (e := 46) (j := i) (p := i * 3) rfl rfl rfl rfl rfl rfl hlt rfl rfl ?_
    refine pp rfl ?_
    refine el_load rfl rfl rfl rfl rfl (cell_keep0 c2 k02) ?_
    refine ppn 1 rfl ?_
    by_cases hw4 : x.what > 4
    · refine el_as (v' := .bool true) (bool_eq (decide_eq_true (by omega))) ?_
      refine ep rfl ?_
      refine ew_cond_t rfl rfl ?_
      refine ew_exit ?_
      refine eg rfl ?_
      exact ⟨by exact hd, (i + 1, dv, ds), ⟨rfl, rfl, rfl, rfl, rfl, int_eq (by rw [wrap_i64 (by omega) (by omega)]; omega), trivial⟩, ⟨hlt, by dsimp only; omega, hD2, hW2, by dsimp only; omega, hgood, k02⟩, by dsimp only; omega⟩
    refine el_as (v' := .bool false) (bool_eq (decide_eq_false (by omega))) ?_
    refine ep rfl ?_
    refine ew_cond_f rfl rfl ?_
    refine ew_skip ?_
    refine sp rfl ?_
    refine el_index (e := 46) (j := i) (p := i * 3) rfl rfl rfl rfl rfl rfl hlt rfl rfl ?_
    refine el_loadc (vs := [.int .i64 x.what, .int .i64 x.n, .slice ad2 x.bytes.length cap2]) rfl rfl rfl rfl rfl rfl (three_cells (cell_keep0 c2 k02) (cell_keep0 c3 k02) (cell_keep0 c4 k02)) ?_
    refine el_call rfl rfl rfl rfl rfl rfl (lay_ok2 g (laidAll (firsts ds)) x (.slice ad2 x.bytes.length cap2) w2 hW2 b1 (c5.keep0 k02) (fun hne b hb => by have := c5.lt hne hb; omega) (by omega)) ?_
    rintro _ w3 ⟨u', rfl, hou, hW3, k3, hbf⟩
    have hll : x.laid.length ≤ 2 * (30 + min x.bytes.length 4001) := laid_len x b1 (by omega)
    have hD3 := own_keep hD2 k3 (own_ne hD2 hW2.blkW.choose_spec (by decide))
    have k03 : Keep [] w0 w3 := k02.trans k3 (by simp; omega)
    refine ep rfl ?_
    refine sp rfl ?_
    refine el_call rfl rfl rfl rfl rfl rfl (num_ok _ w3) ?_
    rintro _ _ ⟨rfl, rfl⟩
    by_cases he : x.err = 0
    · rw [he]
      refine el_eqi (a := 0) (b := 0) (k := .i64) true rfl rfl rfl rfl rfl ?_
      refine ep rfl ?_
      refine ew_cond_t rfl rfl ?_
      refine gp rfl ?_
      refine el_index (e := 46) (j := i) (p := i * 3) rfl rfl rfl rfl rfl rfl hlt rfl rfl ?_
      refine el_loadc (vs := [.int .i64 x.what, .int .i64 x.n, .slice ad2 x.bytes.length cap2]) rfl rfl rfl rfl rfl rfl (three_cells (cell_keep0 c2 k03) (cell_keep0 c3 k03) (cell_keep0 c4 k03)) ?_
      refine el_bsliceN (z := addZ) (size := 3) (bytes := 40) (vs := [.int .i64 x.what, .int .i64 x.n, .slice ad2 x.bytes.length cap2]) rfl rfl rfl info_add rfl rfl rfl ?_
      intro sb w4 e4 e4' k4 hsb
      have hW4 := hW3.keep0 k4
      have hD4 := own_keep hD3 k4 (by simp)
      have k04 := k03.trans0 k4
      refine el_append (v := dv) (base := w0.heap.size) (z := addZ) (size := 3) (bytes := 40) (n := ds.length) (m := 1) (xs := cellsD ds) (ys := [.int .i64 x.what, .int .i64 x.n, .slice ad2 x.bytes.length cap2]) rfl rfl rfl info_add rfl rfl rfl rfl hD4 (Rd.of_blk1 1 hsb) rfl (by intro u hu; simp at hu; rcases hu with rfl | rfl | rfl <;> rfl) (by unfold maxLen; omega) (by omega) k04.size ?_
      intro dv' w5 hD5' hg5 hfr5
      have hD5 : w5.ownsRow w0.heap.size 46 3 dv' (ds ++ [(x, Value.slice ad2 x.bytes.length cap2)]).length (cellsD (ds ++ [(x, Value.slice ad2 x.bytes.length cap2)])) := by
        rw [cellsD_app, List.length_append]
        exact hD5'
      have k45 : Keep dv.ownBlock.toList w4 w5 := Keep.of_grown hg5 (fun b hb _ => by simp [hb])
      have hgd : g ∉ dv.ownBlock.toList := fun h => own_ne hD4 hW4.blkW.choose_spec (by decide) g (by simpa using h) (by simp)
      have hE : NoE 5 w4 dv.ownBlock.toList := fun b hb c fr hc => by
        obtain ⟨c', hc'⟩ := own_typed hD4 (by simpa using hb)
        exact Blk.ne hc hc' (by decide) rfl
      have hW5 := hW4.keep k45 hgd hE
      have k05 : Keep [] w0 w5 := k04.trans k45 (fun b hb hlt' => by have := hD4.lt b (by simpa using hb); omega)
      refine ep rfl ?_
      refine eg rfl ?_
      refine ⟨by exact hd, (i + 1, dv', ds ++ [(x, .slice ad2 x.bytes.length cap2)]), ⟨rfl, rfl, rfl, rfl, rfl, int_eq (by rw [wrap_i64 (by omega) (by omega)]; omega), trivial⟩, ⟨hlt, by simp; omega, hD5, ?_, ?_, ?_, k05⟩, by dsimp only; omega⟩
      · show IsW w5 g (laidAll (firsts (ds ++ [_])))
        rw [firsts, List.map_append, List.map_cons, List.map_nil, laidAll_app]
        exact hW5
      · show (laidAll (firsts (ds ++ [_]))).length ≤ _
        rw [firsts, List.map_append, List.map_cons, List.map_nil, laidAll_app, List.length_append]
        dsimp only
        unfold firsts at hcl
        omega
      · intro q hq
        rcases List.mem_append.1 hq with hq | hq
        · exact hgood q hq
        · simp at hq
          subst hq
          exact ⟨he, by dsimp only; omega, by dsimp only; omega, b1, by dsimp only; omega, c5⟩
    · refine el_eqi (a := x.err) (b := 0) (k := .i64) false (by simpa using he) rfl rfl rfl rfl ?_
      refine ep rfl ?_
      refine ew_cond_f rfl rfl ?_
      refine ew_skip ?_
      refine eg rfl ?_
      rw [laid_err he, List.append_nil] at hW3
      exact ⟨by exact hd, (i + 1, dv, ds), ⟨rfl, rfl, rfl, rfl, rfl, int_eq (by rw [wrap_i64 (by omega) (by omega)]; omega), trivial⟩, ⟨hlt, by dsimp only; omega, hD3, hW3, by dsimp only; omega, hgood, k03⟩, by dsimp only; omega⟩
  · obtain rfl : i = xs.length := by omega
    rw [List.take_length] at hcl
    refine ew_cond_f rfl (decide_eq_false (by omega)) ?_
    refine ew_exit ?_
    have hdl : ds.length ≤ 4000 := by omega
    obtain ⟨all, hall0⟩ : ∃ all, laidAll (firsts ds) = all := ⟨_, rfl⟩
    rw [hall0] at hW2 hcl
    refine sp rfl ?_
    refine el_call rfl rfl rfl rfl rfl rfl (wall_ok (some g) all w2 hW2) ?_
    rintro y w3 ⟨hy3', k3⟩
    have hy3 : OwnB 5 w3 w2.heap.size y all := hy3'
    refine el_call rfl rfl rfl rfl rfl rfl (read_ok y all w3 (Rd.of_own hy3) (by omega)) ?_
    rintro rv w4 ⟨gr, rfl, hgr, hR4, k4⟩
    have hD4 := own_keep (own_keep hD2 k3 (by simp)) k4 (by simp)
    have k04 := (k02.trans0 k3).trans0 k4
    have hgr0 : w0.heap.size ≤ gr := by have := k02.size; have := k3.size; omega
    refine ep rfl ?_
    refine ew_seq (es rfl ?_)
    refine ew_block ?_
    refine ew_loop (α := Nat) (fun x => [(1, .slice adb bs.length capb), (2, .slice adt ts.length capt), (8, dv), (13, .pointer (some ⟨gr, 0, none⟩)), (14, .int .i64 (x : Int))])
      (fun x w' => x ≤ ds.length ∧ w'.ownsRow w0.heap.size 46 3 dv ds.length (cellsD ds) ∧ IsR w' gr all (laidAll ((firsts ds).take x)).length 0 ∧ Keep [] w0 w') (fun x => ds.length - x)
      0 ⟨rfl, rfl, rfl, rfl, rfl, trivial⟩ ⟨Nat.zero_le _, hD4, hR4, k04⟩ ?_
    rintro i ρ2 w5 hd2 ⟨hi5, hD5, hR5, k05⟩
    have hd2' : ρ2.ds = [] := hd2.trans (by exact hd)
    obtain ⟨add, capd, rfl, hcd⟩ := own_slice hD5
    refine ew_seq (es rfl ?_)
    by_cases hlt5 : i < ds.length
    · refine ew_cond_t rfl (decide_eq_true (by omega)) ?_
      refine ew_skip ?_
      obtain ⟨⟨x, u⟩, hxi⟩ : ∃ x, ds[i]? = some x := ⟨_, List.getElem?_eq_getElem hlt5⟩
      obtain ⟨q1, q2, q3, q4, q5, q6⟩ := hgood (x, u) (List.mem_of_getElem? hxi)
      dsimp only at q1 q2 q3 q4 q5 q6
      obtain ⟨adu, capu, rfl, hcu⟩ := q6.slice
      have hxf : (firsts ds)[i]? = some x := by simp [firsts, hxi]
      have htk := laidAll_take hxf
      obtain ⟨gd, rfl⟩ : ∃ gd, add = some ⟨gd, 0, none⟩ := by
        rcases hD5.2 with ⟨e1, e2⟩ | ⟨gb, capY, cs, e1, _⟩
        · omega
        · injection e1 with e1
          exact ⟨gb, e1⟩
      have hcells := hD5.cells (g := gd) rfl
      have hc3 : ∀ k y, [Value.int .i64 x.what, .int .i64 x.n, .slice adu x.bytes.length capu][k]? = some y → w5.cell? (((⟨gd, 0, none⟩ : Addr).add (i * 3)).add k) = some y := fun k y hk => by
        rw [add_lit, add_lit]
        have := hcells (i * 3 + k) y (cellsD_at ds i x _ hxi k y hk)
        rwa [add_lit, ← Nat.add_assoc] at this
      refine ew_seq (ew_block ?_)
      refine sp rfl ?_
      refine el_index (e := 46) (j := i) (p := i * 3) rfl rfl rfl rfl rfl rfl hlt5 rfl rfl ?_
      refine el_loadc (vs := [.int .i64 x.what, .int .i64 x.n, .slice adu x.bytes.length capu]) rfl rfl rfl rfl rfl rfl hc3 ?_
      have hdrop : all.drop (laidAll ((firsts ds).take i)).length = x.laid ++ laidAll ((firsts ds).drop (i + 1)) := by
        have e2 : all = laidAll ((firsts ds).take (i + 1)) ++ laidAll ((firsts ds).drop (i + 1)) := by
          rw [← hall0]
          exact laidAll_split _ _
        rw [e2, htk, List.append_assoc, List.drop_left]
      refine el_call rfl rfl rfl rfl rfl rfl (same_ok gr all _ x (.slice adu x.bytes.length capu) w5 hR5 (q6.keep0 k05) (fun hne b hb => by have := q6.lt hne hb; omega) q1 ⟨q2, q3⟩ q4 q5 _ hdrop) ?_
      rintro _ w6 ⟨rfl, hR6, k6⟩
      rw [← List.length_append, ← htk] at hR6
      refine ep rfl ?_
      refine ew_cond_f rfl rfl ?_
      refine ew_skip ?_
      refine eg rfl ?_
      exact ⟨by exact hd2, i + 1, ⟨rfl, rfl, rfl, rfl, int_eq (by rw [wrap_i64 (by omega) (by omega)]; omega), trivial⟩, ⟨hlt5, own_keep hD5 k6 (own_ne hD5 hR5.blk (by decide)), hR6, k05.trans k6 (by simp; omega)⟩, by omega⟩
    · obtain rfl : i = ds.length := by omega
      refine ew_cond_f rfl (decide_eq_false (by omega)) ?_
      refine ew_exit ?_
      have hfl : (firsts ds).length = ds.length := by simp [firsts]
      rw [← hfl, List.take_length, hall0] at hR5
      refine sp rfl ?_
      refine el_call rfl rfl rfl rfl rfl rfl (rend_ok gr all all.length 0 w5 hR5) ?_
      rintro _ _ ⟨rfl, rfl⟩
      have e0 : (if (0 : Int) ≠ 0 then (0 : Int) else if all.length < all.length then 122 else 0) = 0 := by simp
      rw [e0]
      refine el_call rfl rfl rfl rfl rfl rfl (num_ok _ w5) ?_
      rintro _ _ ⟨rfl, rfl⟩
      refine el_eqi (a := 0) (b := 0) (k := .i64) true rfl rfl rfl rfl rfl ?_
      refine pp rfl ?_
      refine el_call rfl rfl rfl rfl rfl rfl (again_ok _ bs _ ts w5 (hvb.keep0 k05) (by omega) (hvtA.keep0 k05) (by omega)) ?_
      rintro _ w6 ⟨rfl, k6⟩
      refine pp rfl ?_
      refine el_call rfl rfl rfl rfl rfl rfl (works_ok w6) ?_
      rintro _ w7 ⟨rfl, k7⟩
      refine ep rfl ?_
      exact ew_ret (ret_1 (.bool true) rfl rfl hd2' rfl ⟨rfl, (k05.trans0 k6).trans0 k7⟩)
end Go.Proofs.Ytfbpobhbkadblaa
