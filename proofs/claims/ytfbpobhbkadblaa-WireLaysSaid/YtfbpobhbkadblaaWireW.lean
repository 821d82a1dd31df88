/- The law of what a writer lays. -/
import Derived.Test.YtfbpobhbkadblaaWireV
set_option linter.unusedVariables false
set_option linter.unusedSimpArgs false
namespace Go.Proofs.Ytfbpobhbkadblaa
open Go.RowKit
set_option maxRecDepth 20000

/-- What holds while a call's arguments are read and the call is made. -/
def CallG (g : Nat) (cur : List UInt8) (x : AddD) (w3 : World) (b : Nat → Bool) (V : Nat → Value) (w : World) : Prop :=
  Keep [g] w3 w ∧ (b 13 = false → Keep [] w3 w) ∧
  (b 13 = true → ∃ u, V 13 = .tuple #[.int .i64 x.err, u, .int .i64 x.err] ∧ OwnB 5 w w3.heap.size u x.laid ∧ IsW w g (cur ++ x.laid) ∧ BufOk g w3 w) ∧
  (b 14 = true → b 13 = true ∧ V 14 = V 13) ∧ (b 16 = true → b 13 = true ∧ ∃ u, V 13 = .tuple #[.int .i64 x.err, u, .int .i64 x.err] ∧ V 16 = u) ∧ (b 19 = true → V 19 = V 16)

set_option maxHeartbeats 2000000 in
theorem WireLays_ok (v : Value) (xs : List AddD) (w0 : World) (hv : RdA w0 v xs) : Fn Try.prog 5 [v] w0 fun r w' => r = .bool true ∧ Keep [] w0 w' := by
  have hvA := hv
  obtain ⟨ad, cap, rfl, hcap, hml, hx⟩ := hv
  refine fn_enter Try.func5 rfl rfl ?_
  refine es rfl ?_
  refine ew_seq ?_
  refine sp rfl ?_
  refine el_call rfl rfl rfl rfl rfl rfl (few_ok _ xs w0 hvA) ?_
  rintro rv _ ⟨hr, rfl⟩
  by_cases hfew : ¬ fewN xs ≤ 4000
  · rw [decide_eq_false hfew] at hr
    subst hr
    refine ep rfl ?_
    refine ew_cond_t rfl rfl ?_
    refine sp rfl ?_
    refine el_call rfl rfl rfl rfl rfl rfl (works_ok w0) ?_
    rintro _ w1 ⟨rfl, k⟩
    refine ep rfl ?_
    exact ew_ret (ret_1 (.bool true) rfl rfl rfl rfl ⟨rfl, k⟩)
  have hfew : fewN xs ≤ 4000 := Decidable.not_not.1 hfew
  rw [decide_eq_true hfew] at hr
  subst hr
  have hlen : xs.length ≤ 4000 := by
    have : ∀ l : List AddD, l.length ≤ fewN l := by
      intro l
      induction l with
      | nil => simp [fewN]
      | cons a l ih => simp [fewN] at ih ⊢; omega
    have := this xs
    omega
  refine ep rfl ?_
  refine ew_cond_f rfl rfl ?_
  refine ew_skip ?_
  refine sp rfl ?_
  refine el_call rfl rfl rfl rfl rfl rfl (new_ok w0) ?_
  rintro rv w1 ⟨g, rfl, hg, hW1, k1⟩
  refine ep rfl ?_
  refine es rfl ?_
  refine ew_seq (es rfl ?_)
  refine ew_block ?_
  refine ew_loop (α := Nat × Value) (fun x => [(0, .slice ad xs.length cap), (3, .pointer (some ⟨g, 0, none⟩)), (4, x.2), (5, .int .i64 (x.1 : Int))])
    (fun x w' => x.1 ≤ xs.length ∧ IsW w' g (laidAll (xs.take x.1)) ∧ OwnB 5 w' w0.heap.size x.2 (laidAll (xs.take x.1)) ∧ (∀ b, x.2.ownBlock = some b → bufOf w' g ≠ some b) ∧ Keep [] w0 w') (fun x => xs.length - x.1)
    (0, .slice none 0 0) ⟨rfl, rfl, rfl, rfl, trivial⟩ ⟨Nat.zero_le _, hW1, World.ownsRow_nil _ _ _ _, (fun b hb => by cases hb), k1⟩ ?_
  rintro ⟨i, want⟩ ρ w2 hd ⟨hi, hW2, hwn2, hsep2, k2⟩
  dsimp only at hi hW2 hwn2 hsep2 k2
  refine ew_seq (es rfl ?_)
  by_cases hlt : i < xs.length
  · refine ew_cond_t rfl (decide_eq_true (by omega)) ?_
    refine ew_skip ?_
    obtain ⟨x, hxi⟩ : ∃ x, xs[i]? = some x := ⟨_, List.getElem?_eq_getElem hlt⟩
    obtain ⟨b1, b2, a, u0, rfl, c2, c3, c4, c5⟩ := hx i x hxi
    obtain ⟨ad2, cap2, rfl, hc2⟩ := c5.slice
    have hmem := fewN_mem hxi
    have hcur := laidAll_len xs (fun j x h => (hx j x h).1) hfew i hi
    obtain ⟨cur, hcurE⟩ : ∃ cur, laidAll (xs.take i) = cur := ⟨_, rfl⟩
    rw [hcurE] at hW2 hwn2 hcur
    have hgl2 := hW2.lt
    have hal : a.block < w0.heap.size := by have := cell_lt c2; simpa [add_block] using this
    refine ew_seq (ew_block ?_)
    refine sp rfl ?_
    refine el_bslice (z := .int .u8 0) (bytes := 1) (vs := []) rfl rfl rfl info_u8 rfl rfl rfl ?_
    intro p w3 hp hp' k3 hblk3
    have own3 : w3.ownsRow w2.heap.size 5 1 (.slice (some ⟨p, 0, none⟩) 0 0) 0 [] := ⟨rfl, .inr ⟨p, 0, #[], rfl, by omega, hblk3, Nat.le_refl _, Nat.zero_le _, rfl, rfl⟩⟩
    refine pp rfl ?_
    refine el_index (e := 46) (j := i) (p := i * 3) rfl rfl rfl rfl rfl rfl hlt rfl rfl ?_
    refine pp rfl ?_
    refine el_load rfl rfl rfl rfl rfl (cell_keep0 c4 (k2.trans0 k3)) ?_
    refine el_append (v := .slice (some ⟨p, 0, none⟩) 0 0) (base := w2.heap.size) (z := .int .u8 0) (size := 1) (bytes := 1) (n := 0) (m := x.bytes.length) (xs := []) (ys := bytesV x.bytes) rfl rfl rfl info_u8 rfl rfl rfl rfl own3 (c5.keep0 (k2.trans0 k3)) (by simp [bytesV_length]) (bytesV_one _) (by unfold maxLen; omega) (by omega) (by omega) ?_
    intro m w4 ho4 hg4 _
    have hom : OwnB 5 w4 w2.heap.size m x.bytes := by simpa using ho4
    obtain ⟨adm, capm, rfl, hcm⟩ := own_slice hom
    have k24 : Keep [] w2 w4 := k3.app own3 (Nat.le_refl _) hg4
    have k04 := k2.trans0 k24
    have hW4 := IsW.keep0 hW2 k24
    refine ep rfl ?_
    have hgw : w0.heap.size ≤ g := by omega
    have hag : a.block ≠ g := by omega
    refine ew_seq ?_
    refine ew_drawg follows [.known (.pointer (some ⟨g, 0, none⟩)), .known (.slice (some a) xs.length cap), .known (.int .i64 (i : Int)), .known (.pointer (some (a.add (i * 3)))), .known (.pointer (some ((a.add (i * 3)).add 0))), .known (.int .i64 x.what),
      .known (.slice (some a) xs.length cap), .known (.int .i64 (i : Int)), .known (.pointer (some (a.add (i * 3)))), .known (.pointer (some ((a.add (i * 3)).add 1))), .known (.int .i64 x.n), .known (.slice adm x.bytes.length capm), .known (.agg #[.int .i64 x.what, .int .i64 x.n, .slice adm x.bytes.length capm]), .any, .any, .known (.int .i64 x.err), .any, .known (.int .i64 x.err), .known (.int .i64 x.err), .any, .known (.int .i64 x.err)]
      (CallG g cur x w4) rfl (stable_any _ (by simp [Spec.isK])) ⟨Keep.any (Keep.drew w4), fun _ => Keep.drew w4, (fun h => by cases h), (fun h => by cases h), (fun h => by cases h), (fun h => by cases h)⟩ ?_ ?_
    refine ⟨pureG rfl (fun _ _ => rfl) (fun _ _ _ h => h), ?_⟩
    refine ⟨pureG rfl (fun _ _ => rfl) (fun _ _ _ h => h), ?_⟩
    refine ⟨pureG rfl (fun _ _ => rfl) (fun _ _ _ h => h), ?_⟩
    refine ⟨fun b V ρ w hbi hd hu hG hV => el_index (e := 46) (j := i) (p := i * 3) rfl rfl rfl rfl rfl rfl hlt rfl rfl (el_nil ⟨_, rfl, rfl, hG⟩), ?_⟩
    refine ⟨pureG rfl (fun _ _ => rfl) (fun _ _ _ h => h), ?_⟩
    refine ⟨fun b V ρ w hbi hd hu hG hV => el_load rfl rfl rfl rfl rfl (cell_keep (cell_keep0 c2 k04) hG.1 (by simp [add_block]; omega)) (el_nil ⟨_, rfl, rfl, hG⟩), ?_⟩
    refine ⟨pureG rfl (fun _ _ => rfl) (fun _ _ _ h => h), ?_⟩
    refine ⟨pureG rfl (fun _ _ => rfl) (fun _ _ _ h => h), ?_⟩
    refine ⟨fun b V ρ w hbi hd hu hG hV => el_index (e := 46) (j := i) (p := i * 3) rfl rfl rfl rfl rfl rfl hlt rfl rfl (el_nil ⟨_, rfl, rfl, hG⟩), ?_⟩
    refine ⟨pureG rfl (fun _ _ => rfl) (fun _ _ _ h => h), ?_⟩
    refine ⟨fun b V ρ w hbi hd hu hG hV => el_load rfl rfl rfl rfl rfl (cell_keep (cell_keep0 c3 k04) hG.1 (by simp [add_block]; omega)) (el_nil ⟨_, rfl, rfl, hG⟩), ?_⟩
    refine ⟨pureG rfl (fun _ _ => rfl) (fun _ _ _ h => h), ?_⟩
    refine ⟨fun b V ρ w hbi hd hu hG hV => el_build (z := .agg #[.int .i64 0, .int .i64 0, .slice none 0 0]) (vs := [.int .i64 x.what, .int .i64 x.n, .slice adm x.bytes.length capm]) rfl rfl rfl rfl rfl rfl (el_nil ⟨_, rfl, rfl, hG⟩), ?_⟩
    refine ⟨?_, ?_⟩
    · intro b V ρ w hbi hd hu hG hV
      have k4 := hG.2.1 hbi
      refine el_call rfl rfl rfl rfl rfl rfl (lay_ok2 g cur x (.slice adm x.bytes.length capm) w (IsW.keep0 hW4 k4) b1 (Rd.keep0 (Rd.of_own hom) k4) (fun b hb => by have := hom.lt b hb; omega) (by omega)) ?_
      rintro r w' ⟨u, rfl, hou, hW', k', hbf⟩
      refine el_nil ⟨_, rfl, trivial, k4.any.trans k' (by simp), (fun h => by cases h), (fun _ => ⟨u, rfl, own_lower hou k4.size, hW', BufOk.trans (BufOk.keep (BufOk.refl g w4) k4 hW4.lt (by simp)) hbf k4.size⟩), (fun h => ?_), (fun h => ?_), hG.2.2.2.2.2⟩
      · have := (hG.2.2.2.1 h).1
        rw [hbi] at this
        cases this
      · have := (hG.2.2.2.2.1 h).1
        rw [hbi] at this
        cases this
    refine ⟨fun b V ρ w hbi hd hu hG hV => el_pure 1 rfl (el_nil ⟨V 13, rfl, trivial, hG.1, hG.2.1, hG.2.2.1, fun _ => ⟨hd 13 rfl, rfl⟩, hG.2.2.2.2⟩), ?_⟩
    refine ⟨?_, ?_⟩
    · intro b V ρ w hbi hd hu hG hV
      obtain ⟨h13, h14⟩ := hG.2.2.2.1 (hd 14 rfl)
      obtain ⟨u, hu13, _⟩ := hG.2.2.1 h13
      exact el_ext rfl rfl (show V 14 = _ from h14.trans hu13) rfl (el_nil ⟨_, rfl, rfl, hG⟩)
    refine ⟨?_, ?_⟩
    · intro b V ρ w hbi hd hu hG hV
      obtain ⟨h13, h14⟩ := hG.2.2.2.1 (hd 14 rfl)
      obtain ⟨u, hu13, _⟩ := hG.2.2.1 h13
      have h19 : b 19 = false := hu 19 _ rfl rfl
      exact el_ext rfl rfl (show V 14 = _ from h14.trans hu13) rfl (el_nil ⟨u, rfl, trivial, hG.1, hG.2.1, hG.2.2.1, hG.2.2.2.1, (fun _ => ⟨h13, u, hu13, rfl⟩), fun h => by
        have h' : b 19 = true := h
        rw [h19] at h'
        cases h'⟩)
    refine ⟨?_, ?_⟩
    · intro b V ρ w hbi hd hu hG hV
      obtain ⟨h13, h14⟩ := hG.2.2.2.1 (hd 14 rfl)
      obtain ⟨u, hu13, _⟩ := hG.2.2.1 h13
      exact el_ext rfl rfl (show V 14 = _ from h14.trans hu13) rfl (el_nil ⟨_, rfl, rfl, hG⟩)
    refine ⟨pureG rfl (fun _ _ => rfl) (fun _ _ _ h => h), ?_⟩
    refine ⟨fun b V ρ w hbi hd hu hG hV => el_pure 1 rfl (el_nil ⟨V 16, rfl, trivial, hG.1, hG.2.1, hG.2.2.1, hG.2.2.2.1, hG.2.2.2.2.1, fun _ => rfl⟩), ?_⟩
    refine ⟨pureG rfl (fun _ _ => rfl) (fun _ _ _ h => h), ?_⟩
    trivial
    intro b V w5 hall hG hV
    obtain ⟨k45, _, h13, _, h16, h19⟩ := hG
    obtain ⟨_, u, hu13, hu16⟩ := h16 (hall 16 (by decide))
    obtain ⟨u', hu', hou, hW5, hbf⟩ := h13 (hall 13 (by decide))
    have huu : u' = u := by
      rw [hu13] at hu'
      simp at hu'
      exact hu'.symm
    subst huu
    have hV19 : V 19 = u' := (h19 (hall 19 (by decide))).trans hu16
    rw [← hV19] at hou
    have k05 : Keep [] w0 w5 := k04.trans k45 (by simp; omega)
    have hom5 := own_keep hom k45 (fun b hb => by have := hom.lt b hb; simp; omega)
    obtain ⟨adV, capV, hVs, hcV⟩ := own_slice hou
    refine ew_seq (ew_seq ?_)
    let F : Value := .bool false
    let E : Value := .int .i64 x.err
    let B : Value := .string (strOf x.bytes)
    refine ew_draw follows [.known E, .known E, .known E, .known F, .known F, .known (.slice adm x.bytes.length capm), .known B, .known (.slice (some a) xs.length cap), .known (.int .i64 (i : Int)), .known (.pointer (some (a.add (i * 3)))), .known (.pointer (some ((a.add (i * 3)).add 2))), .known (.slice ad2 x.bytes.length cap2), .known B, .known F, .known F] []
      (fun b w => True) rfl (stable_known _ rfl) trivial ?_ ?_
    refine ⟨pureD rfl (fun _ _ => rfl) (fun _ _ h => h), ?_⟩
    refine ⟨fun b V ρ w hk hbi hd hu hWd hV => el_call rfl rfl rfl rfl rfl rfl (num_ok _ w) (by rintro _ _ ⟨rfl, rfl⟩; exact el_nil ⟨_, rfl, rfl, Keep.refl _ _, trivial⟩), ?_⟩
    refine ⟨pureD rfl (fun _ _ => rfl) (fun _ _ h => h), ?_⟩
    refine ⟨fun b V ρ w hk hbi hd hu hWd hV => el_neqi false (by simp) rfl rfl rfl rfl (el_nil ⟨_, rfl, rfl, Keep.refl _ _, trivial⟩), ?_⟩
    refine ⟨pureD rfl (fun _ _ => rfl) (fun _ _ h => h), ?_⟩
    refine ⟨pureD rfl (fun _ _ => rfl) (fun _ _ h => h), ?_⟩
    refine ⟨fun b V ρ w hk hbi hd hu hWd hV => el_str rfl rfl rfl rfl rfl rfl ((Rd.of_own hom5).keep0 hk) (el_nil ⟨_, rfl, rfl, Keep.refl _ _, trivial⟩), ?_⟩
    refine ⟨pureD rfl (fun _ _ => rfl) (fun _ _ h => h), ?_⟩
    refine ⟨pureD rfl (fun _ _ => rfl) (fun _ _ h => h), ?_⟩
    refine ⟨fun b V ρ w hk hbi hd hu hWd hV => el_index (e := 46) (j := i) (p := i * 3) rfl rfl rfl rfl rfl rfl hlt rfl rfl (el_nil ⟨_, rfl, rfl, Keep.refl _ _, trivial⟩), ?_⟩
    refine ⟨pureD rfl (fun _ _ => rfl) (fun _ _ h => h), ?_⟩
    refine ⟨fun b V ρ w hk hbi hd hu hWd hV => el_load rfl rfl rfl rfl rfl (cell_keep0 c4 (k05.trans0 hk)) (el_nil ⟨_, rfl, rfl, Keep.refl _ _, trivial⟩), ?_⟩
    refine ⟨fun b V ρ w hk hbi hd hu hWd hV => el_str rfl rfl rfl rfl rfl rfl (c5.keep0 (k05.trans0 hk)) (el_nil ⟨_, rfl, rfl, Keep.refl _ _, trivial⟩), ?_⟩
    refine ⟨fun b V ρ w hk hbi hd hu hWd hV => el_strneq false (by simp) rfl rfl rfl rfl (el_nil ⟨_, rfl, rfl, Keep.refl _ _, trivial⟩), ?_⟩
    refine ⟨pureD rfl (fun _ _ => rfl) (fun _ _ h => h), ?_⟩
    trivial
    intro b' V' w6 hall' k56 _ hV'
    refine ew_cond_f rfl rfl ?_
    refine ew_skip ?_
    have k06 := k05.trans0 k56
    have hW6 := IsW.keep0 hW5 k56
    have hou6 := own_keep hou k56 (by simp)
    obtain ⟨wv, hgb4, _, _⟩ := hW4.buf
    have hwn4 := own_keep hwn2 k24 (by simp)
    have hwn6 := own_keep (own_keep hwn4 k45 (own_ne hwn4 hgb4 (by decide))) k56 (by simp)
    have hwl : ∀ b, want.ownBlock = some b → b < w2.heap.size := fun b hb => by
      obtain ⟨c, hc⟩ := own_typed hwn2 hb
      exact Blk.lt hc
    have hbuf6 : ∀ b, want.ownBlock = some b → bufOf w6 g ≠ some b := fun b hb hb6 => by
      rw [bufOf_keep k56 (IsW.lt hW5) (by simp)] at hb6
      have hl := hwl b hb
      rcases hbf with h | h
      · rw [h, bufOf_keep k24 hgl2 (by simp)] at hb6
        exact hsep2 b hb hb6
      · have := h b hb6
        have := k24.size
        omega
    have hll : x.laid.length ≤ 2 * (30 + min x.bytes.length 4001) := laid_len x b1 (by omega)
    refine sp rfl ?_
    have hsz06 := k06.size
    refine el_append (v := want) (base := w0.heap.size) (z := .int .u8 0) (size := 1) (bytes := 1) (n := cur.length) (m := x.laid.length) (xs := bytesV cur) (ys := bytesV x.laid) rfl rfl rfl info_u8 rfl rfl rfl rfl hwn6 (Rd.of_own hou6) (by simp [bytesV_length]) (bytesV_one _) (by unfold maxLen; omega) (by omega) hsz06 ?_
    intro want' w7 hown7 hg7 hfr7
    have hw7 : OwnB 5 w7 w0.heap.size want' (cur ++ x.laid) := by
      show World.ownsRow _ _ _ _ _ _ _
      rw [bytesV_append, List.length_append]
      exact hown7
    have k67 : Keep want.ownBlock.toList w6 w7 := Keep.of_grown hg7 (fun b hb _ => by simp [hb])
    have hgw6 : g ∉ want.ownBlock.toList := fun h => own_ne hwn4 hgb4 (by decide) g (by simpa using h) (by simp)
    have hW7 : IsW w7 g (cur ++ x.laid) := IsW.keepb hW6 k67 hgw6 (fun b hb hin => hbuf6 b (by simpa using hin) hb)
    have k07 : Keep [] w0 w7 := k06.trans k67 (fun b hb hlt' => by have := hwn6.lt b (by simpa using hb); omega)
    have hsep7 : ∀ b, want'.ownBlock = some b → bufOf w7 g ≠ some b := fun b hb hb7 => by
      rw [bufOf_keep k67 (IsW.lt hW6) hgw6] at hb7
      rcases hfr7 with h | h
      · exact hbuf6 b (h.symm.trans hb) hb7
      · have := IsW.buf_lt hW6 hb7
        rw [h] at hb
        injection hb with hb
        omega
    refine ep rfl ?_
    refine sp rfl ?_
    refine el_call rfl rfl rfl rfl rfl rfl (wall_ok (some g) (cur ++ x.laid) w7 hW7) ?_
    rintro y w8 ⟨hy8', k78⟩
    have hy8 : OwnB 5 w8 w7.heap.size y (cur ++ x.laid) := hy8'
    have hw8 := own_keep hw7 k78 (by simp)
    refine ep rfl ?_
    refine ew_seq ?_
    refine sp rfl ?_
    refine el_str rfl rfl rfl rfl rfl rfl (Rd.of_own hy8) ?_
    refine pp rfl ?_
    refine el_str rfl rfl rfl rfl rfl rfl (Rd.of_own hw8) ?_
    refine el_strneq (a := cur ++ x.laid) (b := cur ++ x.laid) false (by simp) rfl rfl rfl rfl ?_
    refine ep rfl ?_
    refine ew_cond_f rfl rfl ?_
    refine ew_skip ?_
    refine es rfl ?_
    obtain ⟨n, hn⟩ : ∃ n, (cur ++ x.laid).length = n := ⟨_, rfl⟩
    have hnle : n ≤ 16000 := by rw [← hn, List.length_append]; omega
    have hyc : 0 < n → ∃ gb cs, y.ownBlock = some gb ∧ w7.heap.size ≤ gb ∧ (∃ cap', y = .slice (some ⟨gb, 0, none⟩) n cap') ∧ Blk w8 gb 5 cs ∧ ∀ j, j < n → ∃ c, cs[j]? = some (.int .u8 c) := by
      intro hpos
      rcases hy8.2 with ⟨e1, e2⟩ | ⟨gb, capY, cs, e1, e2, e3, e4, e5, e6, e7⟩
      · exfalso
        rw [hn] at e2
        omega
      · rw [hn] at e1 e4 e7
        refine ⟨gb, cs, by rw [e1]; rfl, e2, ⟨capY, e1⟩, e3, fun j hj => ?_⟩
        have h1 : (cs.toList.take (n * 1))[j]? = (bytesV (cur ++ x.laid))[j]? := by rw [e7]
        rw [List.getElem?_take, if_pos (by omega)] at h1
        have hj2 : j < (cur ++ x.laid).length := by omega
        refine ⟨((cur ++ x.laid)[j].toNat : Int), ?_⟩
        rw [← Array.getElem?_toList, h1]
        rw [bytesV, List.getElem?_map, List.getElem?_eq_getElem hj2]
        rfl
    obtain ⟨ady, capy, hys, hcy⟩ := own_slice hy8
    rw [hn] at hys hcy
    refine ew_block ?_
    refine ew_loop (α := Nat) (fun k => [(0, .slice (some a) xs.length cap), (3, .pointer (some ⟨g, 0, none⟩)), (4, want'), (5, .int .i64 (i : Int)), (10, .slice ady n capy), (11, .int .i64 (k : Int))])
      (fun k w' => k ≤ n ∧ Keep y.ownBlock.toList w8 w' ∧ (0 < n → ∃ gb cs, y.ownBlock = some gb ∧ ady = some ⟨gb, 0, none⟩ ∧ Blk w' gb 5 cs ∧ ∀ j, j < n → ∃ c, cs[j]? = some (.int .u8 c))) (fun k => n - k)
      0 ⟨rfl, rfl, rfl, rfl, by rw [← hys]; rfl, rfl, trivial⟩ ⟨Nat.zero_le _, Keep.refl _ _, fun hpos => by
        obtain ⟨gb, cs, a1, a2, ⟨cap', a3⟩, a4, a5⟩ := hyc hpos
        rw [hys] at a3
        injection a3 with a6
        exact ⟨gb, cs, a1, a6, a4, a5⟩⟩ ?_
    rintro k ρ9 w9 hd9 ⟨hk, k89, hcs9⟩
    refine ew_seq (es rfl ?_)
    by_cases hkn : k < n
    · refine ew_cond_t rfl (decide_eq_true (by omega)) ?_
      refine ew_skip ?_
      obtain ⟨gb, cs, a1, rfl, a4, a5⟩ := hcs9 (by omega)
      obtain ⟨c, hc⟩ := a5 k hkn
      have hks : k < cs.size := (Array.getElem?_eq_some_iff.1 hc).1
      have hce : w9.cell? ((⟨gb, 0, none⟩ : Addr).add k) = some (.int .u8 c) := by
        rw [add_lit, Blk.cell a4, Nat.zero_add]
        exact hc
      refine ew_seq (ew_block ?_)
      refine gp rfl ?_
      refine el_index (e := 5) (j := k) (p := k) rfl rfl rfl rfl rfl rfl hkn (Nat.mul_one _) rfl ?_
      refine el_load rfl rfl rfl rfl rfl hce ?_
      refine pp rfl ?_
      refine el_index (e := 5) (j := k) (p := k) rfl rfl rfl rfl rfl rfl hkn (Nat.mul_one _) rfl ?_
      refine el_store (off := 0 + k) (vs := [.int .u8 (IntKind.wrap .u8 (c + 1))]) (setL cs (0 + k) [.int .u8 (IntKind.wrap .u8 (c + 1))]) rfl rfl (congrArg (fun z => Value.pointer (some z)) (add_lit gb 0 k)) rfl rfl rfl rfl rfl a4 (Nat.ble_eq_true_of_le (by simp; omega)) rfl ?_
      intro w10 k910 hs10 hb10
      refine ep rfl ?_
      refine eg rfl ?_
      refine ⟨by exact hd9, k + 1, ⟨rfl, rfl, rfl, rfl, rfl, int_eq (by rw [wrap_i64 (by omega) (by omega)]; omega), trivial⟩, ⟨hkn, k89.trans k910 (fun b hb _ => by simp at hb; simp [a1, hb]), fun _ => ⟨gb, _, a1, rfl, hb10, fun j hj => ?_⟩⟩, by omega⟩
      rw [Nat.zero_add, setL_get hks]
      by_cases e : j = k
      · exact ⟨_, by rw [if_pos e]⟩
      · rw [if_neg e]
        exact a5 j hj
    · refine ew_cond_f rfl (decide_eq_false (by omega)) ?_
      refine ew_exit ?_
      refine eg rfl ?_
      have hyb : ∀ b ∈ y.ownBlock.toList, w7.heap.size ≤ b := fun b hb => (hy8.lt b (by simpa using hb)).1
      have k79 : Keep [] w7 w9 := k78.trans k89 (fun b hb hlt' => by have := hyb b hb; omega)
      have hW9 := IsW.keep0 hW7 k79
      refine ⟨by exact hd9.trans hd, (i + 1, want'), ⟨rfl, rfl, rfl, int_eq (by rw [wrap_i64 (by omega) (by omega)]; dsimp only; omega), trivial⟩, ⟨hlt, ?_, ?_, ?_, k07.trans0 k79⟩, by dsimp only; omega⟩
      · show IsW w9 g (laidAll (xs.take (i + 1)))
        rw [laidAll_take hxi, hcurE]
        exact hW9
      · show OwnB 5 w9 w0.heap.size want' (laidAll (xs.take (i + 1)))
        rw [laidAll_take hxi, hcurE]
        exact own_keep hw7 k79 (by simp)
      · intro b hb
        rw [bufOf_keep k79 (IsW.lt hW7) (by simp)]
        exact hsep7 b hb
  · obtain rfl : i = xs.length := by omega
    rw [List.take_length] at hW2 hwn2
    refine ew_cond_f rfl (decide_eq_false (by omega)) ?_
    refine ew_exit ?_
    refine es rfl ?_
    obtain ⟨all, hall0⟩ : ∃ all, laidAll xs = all := ⟨_, rfl⟩
    rw [hall0] at hW2 hwn2
    refine ew_seq ?_
    let S : Value := .string (strOf all)
    let T : Value := .bool true
    let Z : Value := .pointer none
    let O : Value := .int .i64 1
    refine ew_draw follows [.known (.pointer (some ⟨g, 0, none⟩)), .fact (fun v w => OwnB 5 w 0 v all), .known S, .known want, .known S, .known T, .known T,
      .known Z, .known O, .known O, .known T, .known T, .known T, .known Z, .known O, .known O, .known T, .known T, .known T, .known Z, .known O, .known O, .known T, .known T, .known T, .known Z, .known O, .known O, .known T, .known T, .known T,
      .known Z, .known O, .known O, .known T, .known T, .known T, .known Z, .known O, .known O, .known T, .known T, .known T, .known Z, .fact (fun v w => ∃ ad cap, v = .slice ad 0 cap), .known (.int .i64 0), .known T, .known T, .known T, .known T, .known T, .known T] []
      (fun b w => True) rfl (stable_of _ (fun f hf v w w' hk hfv => by
        simp at hf
        rcases hf with rfl | rfl
        · exact own_keep hfv hk (by simp)
        · exact hfv)) trivial ?_ ?_
    refine ⟨pureD rfl (fun _ _ => rfl) (fun _ _ h => h), ?_⟩
    refine ⟨fun b V ρ w hk hbi hd hu hWd hV => el_call rfl rfl rfl rfl rfl rfl (wall_ok (some g) all w (IsW.keep0 hW2 hk)) (by rintro u w' ⟨ho, k⟩; exact el_nil ⟨_, rfl, own_lower ho (Nat.zero_le _), k, trivial⟩), ?_⟩
    refine ⟨fun b V ρ w hk hbi hd hu hWd hV => el_str rfl rfl rfl rfl rfl rfl (Rd.of_own (hV 1 (hd 1 rfl))) (el_nil ⟨_, rfl, rfl, Keep.refl _ _, trivial⟩), ?_⟩
    refine ⟨pureD rfl (fun _ _ => rfl) (fun _ _ h => h), ?_⟩
    refine ⟨fun b V ρ w hk hbi hd hu hWd hV => el_str rfl rfl rfl rfl rfl rfl ((Rd.of_own hwn2).keep0 hk) (el_nil ⟨_, rfl, rfl, Keep.refl _ _, trivial⟩), ?_⟩
    refine ⟨fun b V ρ w hk hbi hd hu hWd hV => el_streq true (by simp) rfl rfl rfl rfl (el_nil ⟨_, rfl, rfl, Keep.refl _ _, trivial⟩), ?_⟩
    refine ⟨pureD rfl (fun _ _ => rfl) (fun _ _ h => h), ?_⟩
    refine ⟨pureD rfl (fun _ _ => rfl) (fun _ _ h => h), ?_⟩
    refine ⟨fun b V ρ w hk hbi hd hu hWd hV => el_call rfl rfl rfl rfl rfl rfl (wnumber_ok none [] 1 (by decide) w trivial) (by rintro _ w' ⟨rfl, k⟩; exact el_nil ⟨_, rfl, rfl, k, trivial⟩), ?_⟩
    refine ⟨fun b V ρ w hk hbi hd hu hWd hV => el_call rfl rfl rfl rfl rfl rfl (num_ok _ w) (by rintro _ _ ⟨rfl, rfl⟩; exact el_nil ⟨_, rfl, rfl, Keep.refl _ _, trivial⟩), ?_⟩
    refine ⟨pureD rfl (fun _ _ => rfl) (fun _ _ h => h), ?_⟩
    refine ⟨pureD rfl (fun _ _ => rfl) (fun _ _ h => h), ?_⟩
    refine ⟨pureD rfl (fun _ _ => rfl) (fun _ _ h => h), ?_⟩
    refine ⟨pureD rfl (fun _ _ => rfl) (fun _ _ h => h), ?_⟩
    refine ⟨fun b V ρ w hk hbi hd hu hWd hV => el_call rfl rfl rfl rfl rfl rfl (wsigned_ok none [] 1 w trivial) (by rintro _ w' ⟨rfl, k⟩; exact el_nil ⟨_, rfl, rfl, k, trivial⟩), ?_⟩
    refine ⟨fun b V ρ w hk hbi hd hu hWd hV => el_call rfl rfl rfl rfl rfl rfl (num_ok _ w) (by rintro _ _ ⟨rfl, rfl⟩; exact el_nil ⟨_, rfl, rfl, Keep.refl _ _, trivial⟩), ?_⟩
    refine ⟨pureD rfl (fun _ _ => rfl) (fun _ _ h => h), ?_⟩
    refine ⟨pureD rfl (fun _ _ => rfl) (fun _ _ h => h), ?_⟩
    refine ⟨pureD rfl (fun _ _ => rfl) (fun _ _ h => h), ?_⟩
    refine ⟨pureD rfl (fun _ _ => rfl) (fun _ _ h => h), ?_⟩
    refine ⟨fun b V ρ w hk hbi hd hu hWd hV => el_call rfl rfl rfl rfl rfl rfl (wbytes_ok none [] (.slice none 0 0) [] w trivial (RdB.nil w) (by simp)) (by rintro _ w' ⟨rfl, k⟩; exact el_nil ⟨_, rfl, rfl, k, trivial⟩), ?_⟩
    refine ⟨fun b V ρ w hk hbi hd hu hWd hV => el_call rfl rfl rfl rfl rfl rfl (num_ok _ w) (by rintro _ _ ⟨rfl, rfl⟩; exact el_nil ⟨_, rfl, rfl, Keep.refl _ _, trivial⟩), ?_⟩
    refine ⟨pureD rfl (fun _ _ => rfl) (fun _ _ h => h), ?_⟩
    refine ⟨pureD rfl (fun _ _ => rfl) (fun _ _ h => h), ?_⟩
    refine ⟨pureD rfl (fun _ _ => rfl) (fun _ _ h => h), ?_⟩
    refine ⟨pureD rfl (fun _ _ => rfl) (fun _ _ h => h), ?_⟩
    refine ⟨fun b V ρ w hk hbi hd hu hWd hV => el_call rfl rfl rfl rfl rfl rfl (wtext_ok none [] [] w trivial (by simp)) (by rintro _ w' ⟨rfl, k⟩; exact el_nil ⟨_, rfl, rfl, k, trivial⟩), ?_⟩
    refine ⟨fun b V ρ w hk hbi hd hu hWd hV => el_call rfl rfl rfl rfl rfl rfl (num_ok _ w) (by rintro _ _ ⟨rfl, rfl⟩; exact el_nil ⟨_, rfl, rfl, Keep.refl _ _, trivial⟩), ?_⟩
    refine ⟨pureD rfl (fun _ _ => rfl) (fun _ _ h => h), ?_⟩
    refine ⟨pureD rfl (fun _ _ => rfl) (fun _ _ h => h), ?_⟩
    refine ⟨pureD rfl (fun _ _ => rfl) (fun _ _ h => h), ?_⟩
    refine ⟨pureD rfl (fun _ _ => rfl) (fun _ _ h => h), ?_⟩
    refine ⟨fun b V ρ w hk hbi hd hu hWd hV => el_call rfl rfl rfl rfl rfl rfl (wtruth_ok none [] true w trivial) (by rintro _ w' ⟨rfl, k⟩; exact el_nil ⟨_, rfl, rfl, k, trivial⟩), ?_⟩
    refine ⟨fun b V ρ w hk hbi hd hu hWd hV => el_call rfl rfl rfl rfl rfl rfl (num_ok _ w) (by rintro _ _ ⟨rfl, rfl⟩; exact el_nil ⟨_, rfl, rfl, Keep.refl _ _, trivial⟩), ?_⟩
    refine ⟨pureD rfl (fun _ _ => rfl) (fun _ _ h => h), ?_⟩
    refine ⟨pureD rfl (fun _ _ => rfl) (fun _ _ h => h), ?_⟩
    refine ⟨pureD rfl (fun _ _ => rfl) (fun _ _ h => h), ?_⟩
    refine ⟨pureD rfl (fun _ _ => rfl) (fun _ _ h => h), ?_⟩
    refine ⟨fun b V ρ w hk hbi hd hu hWd hV => el_call rfl rfl rfl rfl rfl rfl (wraw_ok none [] (.slice none 0 0) [] w trivial ⟨[], ⟨none, 0, rfl, Nat.le_refl _, fun j u hj => by simp at hj⟩, rfl, fun j u hj => by simp at hj⟩ (by simp [sumL]) (by simp)) (by rintro _ w' ⟨rfl, k⟩; exact el_nil ⟨_, rfl, rfl, k, trivial⟩), ?_⟩
    refine ⟨fun b V ρ w hk hbi hd hu hWd hV => el_call rfl rfl rfl rfl rfl rfl (num_ok _ w) (by rintro _ _ ⟨rfl, rfl⟩; exact el_nil ⟨_, rfl, rfl, Keep.refl _ _, trivial⟩), ?_⟩
    refine ⟨pureD rfl (fun _ _ => rfl) (fun _ _ h => h), ?_⟩
    refine ⟨pureD rfl (fun _ _ => rfl) (fun _ _ h => h), ?_⟩
    refine ⟨pureD rfl (fun _ _ => rfl) (fun _ _ h => h), ?_⟩
    refine ⟨pureD rfl (fun _ _ => rfl) (fun _ _ h => h), ?_⟩
    refine ⟨fun b V ρ w hk hbi hd hu hWd hV => el_call rfl rfl rfl rfl rfl rfl (wall_ok none [] w trivial) (by rintro u w' ⟨ho, k⟩; exact el_nil ⟨_, rfl, (by obtain ⟨ad, cap, h, _⟩ := own_slice ho; exact ⟨ad, cap, h⟩), k, trivial⟩), ?_⟩
    refine ⟨?_, ?_⟩
    · intro b V ρ w hk hbi hd hu hWd hV
      obtain ⟨ad, cap, h⟩ := hV 44 (hd 44 rfl)
      exact el_len (n := 0) rfl rfl rfl (show V 44 = _ from h) (el_nil ⟨_, rfl, rfl, Keep.refl _ _, trivial⟩)
    refine ⟨pureD rfl (fun _ _ => rfl) (fun _ _ h => h), ?_⟩
    refine ⟨pureD rfl (fun _ _ => rfl) (fun _ _ h => h), ?_⟩
    refine ⟨pureD rfl (fun _ _ => rfl) (fun _ _ h => h), ?_⟩
    refine ⟨fun b V ρ w hk hbi hd hu hWd hV => el_call rfl rfl rfl rfl rfl rfl (works_ok w) (by rintro _ _ ⟨rfl, k⟩; exact el_nil ⟨_, rfl, rfl, k, trivial⟩), ?_⟩
    refine ⟨pureD rfl (fun _ _ => rfl) (fun _ _ h => h), ?_⟩
    refine ⟨pureD rfl (fun _ _ => rfl) (fun _ _ h => h), ?_⟩
    trivial
    intro b V w9 hall k9 hWd hV
    exact ew_ret (ret_1 T rfl rfl (by exact hd) rfl ⟨rfl, k2.trans0 k9⟩)
end Go.Proofs.Ytfbpobhbkadblaa
