/- Orders: a message's bytes, by the first hand. -/
import Derived.Test.YtpdgfekimnmdnaaOrdD
import Derived.Test.YtpdgfekimnmdnaaApp4
set_option linter.unusedVariables false
set_option linter.unusedSimpArgs false
namespace Go.Proofs.Ytpdgfekimnmdnaa
open Go.RowKit
set_option maxRecDepth 20000

theorem lay_fit {cur : List UInt8} {parts : List (List UInt8)} {out : List UInt8} (h : cur ++ parts.flatten = out) (hl : out.length ≤ 1048576) : layB true cur parts = out ∧ layE true cur.length (sumL parts) = 0 := by
  have hs : cur.length + sumL parts = out.length := by rw [← h, List.length_append, sumL_flatten]
  constructor
  · unfold layB
    rw [if_neg (by simp), if_neg (by omega), h]
  · unfold layE
    rw [if_neg (by simp), if_neg (by omega)]
theorem IsW.blkW {w : World} {g : Nat} {bs : List UInt8} (h : IsW w g bs) : ∃ v, Blk w g 105 #[v, .bool true] := by
  obtain ⟨_, v, hb, _⟩ := h
  exact ⟨v, hb⟩

/-- Numbers' bytes. -/
def numsB (ns : List Int) : List UInt8 := (ns.map fun n => numB n.toNat).flatten
theorem numsB_take {ns : List Int} {i : Nat} {n : Int} (h : ns[i]? = some n) : numsB (ns.take (i + 1)) = numsB (ns.take i) ++ numB n.toNat := by
  unfold numsB
  rw [List.take_add_one, h]
  simp
theorem numsB_len : ∀ (ns : List Int), (∀ n ∈ ns, 0 ≤ n ∧ n ≤ 9223372036854775807) → (numsB ns).length ≤ 10 * ns.length := by
  intro ns
  induction ns with
  | nil => intro _; simp [numsB]
  | cons n ns ih =>
    intro h
    have h1 := ih (fun m hm => h m (List.mem_cons_of_mem _ hm))
    have h2 := numB_len10 (n := n.toNat) (by have := (h n List.mem_cons_self).2; omega)
    simp [numsB] at h1 ⊢
    omega

theorem laid_ok (g : Nat) (cur : List UInt8) (lv : Value) (ns : List Int) (w : World) (hW : IsW w g cur) (hl : Rd w lv ns.length (ns.map (Value.int .i64))) (hlg : ∀ b, lv.ownBlock = some b → b ≠ g) (hn : ∀ n ∈ ns, 0 ≤ n ∧ n ≤ 9223372036854775807) (h10 : ns.length ≤ 10) (hc : cur.length ≤ 1000) :
    Fn Try.prog 31 [.pointer (some ⟨g, 0, none⟩), lv] w fun r w' => r = .pointer (some ⟨g, 0, none⟩) ∧ IsW w' g (cur ++ numsB ns) ∧ Keep [g] w w' := by
  obtain ⟨ad, cap, rfl, hcap⟩ := hl.slice
  refine fn_enter Try.func31 rfl rfl ?_
  refine es rfl ?_
  refine ew_seq (es rfl ?_)
  refine ew_block ?_
  refine ew_loop (α := Nat) (fun i => [(0, .pointer (some ⟨g, 0, none⟩)), (7, .slice ad ns.length cap), (8, .int .i64 (ns.length : Int)), (9, .int .i64 (i : Int))])
    (fun i w' => i ≤ ns.length ∧ IsW w' g (cur ++ numsB (ns.take i)) ∧ Keep [g] w w') (fun i => ns.length - i) 0 ⟨rfl, rfl, rfl, rfl, trivial⟩ ⟨Nat.zero_le _, by simpa [numsB] using hW, Keep.refl _ _⟩ ?_
  rintro i ρ w1 hd ⟨hi, hW1, k1⟩
  refine es rfl ?_
  refine ew_seq ?_
  by_cases hlt : i < ns.length
  · refine ew_cond_t rfl (decide_eq_true (by omega)) ?_
    refine ew_skip ?_
    obtain ⟨n, hni⟩ : ∃ n, ns[i]? = some n := ⟨_, List.getElem?_eq_getElem hlt⟩
    obtain ⟨hn0, hn1⟩ := hn n (List.mem_of_getElem? hni)
    obtain ⟨a, cp, he, hcell⟩ := Rd.at_ (hl.keep k1 (fun b hb => by simpa using hlg b hb)) i (.int .i64 n) (by simp [hni])
    injection he with he1 he2 he3
    subst he1
    refine ew_seq (ew_block ?_)
    refine sp rfl ?_
    refine el_index (e := 2) (j := i) (p := i) rfl rfl rfl rfl rfl rfl hlt (Nat.mul_one _) rfl ?_
    refine el_load rfl rfl rfl rfl rfl hcell ?_
    refine ep rfl ?_
    refine gp rfl ?_
    refine el_call rfl rfl rfl rfl rfl rfl (wnumber_ok (some g) (cur ++ numsB (ns.take i)) n hn1 w1 hW1) ?_
    intro rv w2 h2
    rw [show decide (n ≥ 0) = true from decide_eq_true (by omega)] at h2
    have htk := numsB_take hni
    have hlen1 := numsB_len (ns.take i) (fun m hm => hn m (List.mem_of_mem_take hm))
    have hlen2 := numB_len10 (n := n.toNat) (by omega)
    rw [List.length_take] at hlen1
    obtain ⟨q1, q2⟩ := lay_fit (cur := cur ++ numsB (ns.take i)) (parts := [numB n.toNat]) (out := cur ++ numsB (ns.take (i + 1))) (by rw [htk]; simp) (by rw [htk]; simp; omega)
    obtain ⟨rfl, hW2, k2⟩ := layr_to _ 0 q1 q2 h2
    refine ep rfl ?_
    refine eg rfl ?_
    exact ⟨by exact hd, i + 1, ⟨rfl, rfl, rfl, int_eq (by rw [wrap_i64 (by omega) (by omega)]; omega), trivial⟩, ⟨hlt, hW2, k1.trans k2 (by simp)⟩, by omega⟩
  · obtain rfl : i = ns.length := by omega
    rw [List.take_length] at hW1
    refine ew_cond_f rfl (decide_eq_false (by omega)) ?_
    refine ew_exit ?_
    refine es rfl ?_
    exact ew_ret (ret_1 (.pointer (some ⟨g, 0, none⟩)) rfl rfl (by exact hd) rfl ⟨rfl, hW1, k1⟩)

/-- An order's bytes. -/
def orderB (k e t v : Int) (b : List UInt8) : List UInt8 := numsB [1, k, e, t] ++ if k = 2 then numB v.toNat else numB b.length ++ b
theorem info_i64 : (Try.prog.info? 2).map (fun i => (i.zero, i.size, i.bytes)) = some (some (.int .i64 0), 1, 8) := by kernel_rfl

/-- What holds while a writer is made and numbers are laid. J: the call of 'laid'; L: the literal; T: the assignment. -/
def LaidG (J L T : Nat) (ns : List Int) (w0 : World) (b : Nat → Bool) (V : Nat → Value) (w : World) : Prop :=
  Keep [] w0 w ∧ (b 0 = true → b J = false → ∃ g, V 0 = .pointer (some ⟨g, 0, none⟩) ∧ w0.heap.size ≤ g ∧ IsW w g []) ∧
  (b L = true → b J = false → ∃ p, V L = .slice (some ⟨p, 0, none⟩) ns.length ns.length ∧ Blk w p 2 (ns.map (Value.int .i64)).toArray) ∧
  (b J = true → ∃ g, V J = .pointer (some ⟨g, 0, none⟩) ∧ w0.heap.size ≤ g ∧ IsW w g (numsB ns)) ∧ (b T = true → b J = true ∧ V T = V J)
theorem LaidG.keep0 {J L T : Nat} {ns : List Int} {w0 w w' : World} {b : Nat → Bool} {V : Nat → Value} (h : LaidG J L T ns w0 b V w) (k : Keep [] w w') : LaidG J L T ns w0 b V w' := by
  obtain ⟨h1, h2, h3, h4, h5⟩ := h
  refine ⟨h1.trans0 k, fun x y => ?_, fun x y => ?_, fun x => ?_, h5⟩
  · obtain ⟨g, a1, a2, a3⟩ := h2 x y
    exact ⟨g, a1, a2, a3.keep0 k⟩
  · obtain ⟨p, a1, a2⟩ := h3 x y
    exact ⟨p, a1, k.blk a2 (by simp)⟩
  · obtain ⟨g, a1, a2, a3⟩ := h4 x
    exact ⟨g, a1, a2, a3.keep0 k⟩

theorem Order_ok (k e t v : Int) (u : Value) (bu : List UInt8) (w : World) (hu : RdB w u bu) (hl : bu.length ≤ maxLen) :
    Fn Try.prog 11 [.agg #[.int .i64 k, .int .i64 e, .int .i64 t, .int .i64 v, u]] w fun r w' => ∃ y, r = .tuple #[y, .int .i64 (ordE k e t v bu.length)] ∧ OwnB 5 w' w.heap.size y (if ordE k e t v bu.length = 0 then orderB k e t v bu else []) ∧ Keep [] w w' := by
  obtain ⟨ad, cap, rfl, hcap⟩ := hu.slice
  have hl' : bu.length ≤ 9223372036854775807 := by unfold maxLen at hl; omega
  refine fn_enter Try.func11 rfl rfl ?_
  refine sp rfl ?_
  refine el_box #[.int .i64 k, .int .i64 e, .int .i64 t, .int .i64 v, .slice ad bu.length cap] rfl rfl rfl rfl ?_
  intro bb w1 e1 e1' k1 hb
  refine ep rfl ?_
  refine ew_seq ?_
  refine sp rfl ?_
  refine el_loada (vs := [.int .i64 k, .int .i64 e, .int .i64 t, .int .i64 v, .slice ad bu.length cap]) rfl rfl rfl rfl rfl rfl hb rfl ?_
  refine el_call rfl rfl rfl rfl rfl rfl (order_ok k e t v ad bu.length cap hl' w1) ?_
  rintro _ w3 ⟨rfl, k2⟩
  have k03 := k1.trans0 k2
  have hb3 := k2.blk hb (by simp)
  refine ep rfl ?_
  by_cases hE : ordE k e t v bu.length = 0
  · have hok : ordOk k e t v bu.length ∧ ¬ bu.length > 80000 := by
      by_cases h1 : ordOk k e t v bu.length
      · by_cases h2 : bu.length > 80000
        · rw [ordE_long h1 h2] at hE; cases hE
        · exact ⟨h1, h2⟩
      · rw [ordE_bad h1] at hE; cases hE
    obtain ⟨h1, h2⟩ := hok
    unfold ordOk at h1
    have hns : ∀ n ∈ [1, k, e, t], (0 : Int) ≤ n ∧ n ≤ 9223372036854775807 := by
      intro n hn
      simp at hn
      rcases hn with rfl | rfl | rfl | rfl <;> omega
    rw [hE]
    refine es rfl ?_
    refine ew_cond_f rfl rfl ?_
    refine ew_skip ?_
    refine ew_seq ?_
    refine ew_drawg follows [.any, .known (.pointer (some ⟨bb, 0, none⟩)), .known (.int .i64 k), .known (.pointer (some ⟨bb, 1, none⟩)), .known (.int .i64 e), .known (.pointer (some ⟨bb, 2, none⟩)), .known (.int .i64 t), .any, .any, .any]
      (LaidG 8 7 9 [1, k, e, t] w3) rfl (stable_any _ (by simp [Spec.isK])) ⟨Keep.drew w3, (fun h => by cases h), (fun h => by cases h), (fun h => by cases h), (fun h => by cases h)⟩ ?_ ?_
    refine ⟨?_, ?_⟩
    · intro b V ρ w hbi hd hu hG hV
      have hJ : b 8 = false := hu 8 _ rfl rfl
      obtain ⟨h1, h2, h3, h4, h5⟩ := hG
      refine el_call rfl rfl rfl rfl rfl rfl (new_ok w) ?_
      rintro _ w' ⟨g, rfl, hg, hW', k'⟩
      have hG' := LaidG.keep0 (show LaidG _ _ _ _ w3 b V w from ⟨h1, h2, h3, h4, h5⟩) k'
      exact el_nil ⟨_, rfl, trivial, hG'.1, (fun _ _ => ⟨g, rfl, by have := h1.size; omega, hW'⟩), hG'.2.2.1, (fun h => by
        have h' : b 8 = true := h
        rw [hJ] at h'
        cases h'), hG'.2.2.2.2⟩
    refine ⟨pureG rfl (fun _ _ => rfl) (fun _ _ _ h => h), ?_⟩
    refine ⟨fun b V ρ w hbi hd hu hG hV => el_loadb rfl rfl rfl rfl rfl (hG.1.blk hb3 (by simp)) rfl (el_nil ⟨_, rfl, rfl, hG⟩), ?_⟩
    refine ⟨pureG rfl (fun _ _ => rfl) (fun _ _ _ h => h), ?_⟩
    refine ⟨fun b V ρ w hbi hd hu hG hV => el_loadb rfl rfl rfl rfl rfl (hG.1.blk hb3 (by simp)) rfl (el_nil ⟨_, rfl, rfl, hG⟩), ?_⟩
    refine ⟨pureG rfl (fun _ _ => rfl) (fun _ _ _ h => h), ?_⟩
    refine ⟨fun b V ρ w hbi hd hu hG hV => el_loadb rfl rfl rfl rfl rfl (hG.1.blk hb3 (by simp)) rfl (el_nil ⟨_, rfl, rfl, hG⟩), ?_⟩
    refine ⟨?_, ?_⟩
    · intro b V ρ w hbi hd hu hG hV
      have hJ : b 8 = false := hu 8 _ rfl rfl
      refine el_bslice (z := .int .i64 0) (bytes := 8) (vs := [.int .i64 1, .int .i64 k, .int .i64 e, .int .i64 t]) rfl rfl rfl info_i64 rfl rfl rfl ?_
      intro p w' ep1 ep2 kp hp
      have hG' := LaidG.keep0 hG kp
      exact el_nil ⟨_, rfl, trivial, hG'.1, hG'.2.1, (fun _ _ => ⟨p, rfl, hp⟩), (fun h => by
        have h' : b 8 = true := h
        rw [hJ] at h'
        cases h'), hG'.2.2.2.2⟩
    refine ⟨?_, ?_⟩
    · intro b V ρ w hbi hd hu hG hV
      have hT : b 9 = false := hu 9 _ rfl rfl
      obtain ⟨h1, h2, h3, h4, h5⟩ := hG
      obtain ⟨g, a1, a2, a3⟩ := h2 (hd 0 rfl) hbi
      obtain ⟨p, c1, c2⟩ := h3 (hd 7 rfl) hbi
      have hpg : p ≠ g := Blk.ne c2 a3.blkW.choose_spec (by decide)
      have hspec := laid_ok g [] (V 7) [1, k, e, t] w a3 (by rw [c1]; exact Rd.of_blk1 _ c2) (by rw [c1]; intro b hb; injection hb with hb; subst hb; exact hpg) hns (by simp) (by simp)
      rw [← a1] at hspec
      refine el_call rfl rfl rfl rfl rfl rfl hspec ?_
      rintro _ w' ⟨rfl, hW', k'⟩
      exact el_nil ⟨_, rfl, trivial, h1.trans k' (by simp; omega), (fun _ h => by cases h), (fun _ h => by cases h), (fun _ => ⟨g, a1, a2, hW'⟩), (fun h => by
        have h' : b 9 = true := h
        rw [hT] at h'
        cases h')⟩
    refine ⟨fun b V ρ w hbi hd hu hG hV => el_pure 1 rfl (el_nil ⟨V 8, rfl, trivial, hG.1, hG.2.1, hG.2.2.1, hG.2.2.2.1, fun _ => ⟨hd 8 rfl, rfl⟩⟩), ?_⟩
    trivial
    intro b V w4 hall hG hV
    obtain ⟨k34, _, _, h4, h5⟩ := hG
    obtain ⟨_, h9⟩ := h5 (hall 9 (by decide))
    obtain ⟨g, a1, a2, hW4⟩ := h4 (hall 8 (by decide))
    have hb4 := k34.blk hb3 (by simp)
    have k04 := k03.trans0 k34
    have hgw : w.heap.size ≤ g := by have := k03.size; omega
    have hnl := numsB_len [1, k, e, t] hns
    refine ew_mt [(1, .pointer (some ⟨bb, 0, none⟩)), (5, .pointer (some ⟨g, 0, none⟩))] ⟨rfl, h9.trans a1, trivial⟩ ?_
    refine ew_cut [(5, .pointer (some ⟨g, 0, none⟩))] (fun w' => IsW w' g (orderB k e t v bu) ∧ Keep [g] w4 w') ?_ ?_
    · refine sp rfl ?_
      refine el_loadb rfl rfl rfl rfl rfl hb4 rfl ?_
      refine ep rfl ?_
      by_cases hk : k = 2
      · refine ew_cond_t rfl (by simp [hk]) ?_
        refine gp rfl ?_
        refine el_loadb rfl rfl rfl rfl rfl hb4 rfl ?_
        refine el_call rfl rfl rfl rfl rfl rfl (wnumber_ok (some g) (numsB [1, k, e, t]) v (by omega) w4 hW4) ?_
        intro rv w5 h5
        rw [show decide (v ≥ 0) = true from decide_eq_true (by omega)] at h5
        have hlen := numB_len10 (n := v.toNat) (by omega)
        obtain ⟨q1, q2⟩ := lay_fit (cur := numsB [1, k, e, t]) (parts := [numB v.toNat]) (out := orderB k e t v bu) (by simp [orderB, hk]) (by unfold orderB; rw [if_pos hk, List.length_append]; simp at hnl; omega)
        obtain ⟨rfl, hW5, k5⟩ := layr_to _ 0 q1 q2 h5
        refine ep rfl ?_
        exact ⟨rfl, ⟨rfl, trivial⟩, hW5, k5⟩
      · refine ew_cond_f rfl (by simp [hk]) ?_
        refine gp rfl ?_
        refine el_loadb rfl rfl rfl rfl rfl hb4 rfl ?_
        refine el_call rfl rfl rfl rfl rfl rfl (wbytes_ok (some g) (numsB [1, k, e, t]) (.slice ad bu.length cap) bu w4 hW4 (hu.keep0 k04) (by omega)) ?_
        intro rv w5 h5
        have hlen := numB_len10 (n := bu.length) (by omega)
        obtain ⟨q1, q2⟩ := lay_fit (cur := numsB [1, k, e, t]) (parts := [numB bu.length, bu]) (out := orderB k e t v bu) (by simp [orderB, hk]) (by unfold orderB; rw [if_neg hk, List.length_append, List.length_append]; simp at hnl; omega)
        obtain ⟨rfl, hW5, k5⟩ := layr_to _ 0 q1 q2 h5
        refine ep rfl ?_
        exact ⟨rfl, ⟨rfl, trivial⟩, hW5, k5⟩
    intro ρ5 w5 hd5 ⟨hW5, k45⟩
    have k05 : Keep [] w w5 := k04.trans k45 (by simp; omega)
    refine sp rfl ?_
    refine el_call rfl rfl rfl rfl rfl rfl (wall_ok (some g) (orderB k e t v bu) w5 hW5) ?_
    rintro y w6 ⟨hy6, k56⟩
    refine ep rfl ?_
    refine ew_ret (ret_2 y (.int .i64 0) rfl rfl rfl (hd5.trans rfl) rfl rfl ⟨y, rfl, ?_, k05.trans0 k56⟩)
    rw [if_pos rfl]
    exact own_lower hy6 k05.size
  · refine es rfl ?_
    refine ew_cond_t rfl (by simpa using hE) ?_
    refine es rfl ?_
    refine ew_ret (ret_2 (.slice none 0 0) (.int .i64 (ordE k e t v bu.length)) rfl rfl rfl rfl rfl rfl ⟨_, rfl, ?_, k03⟩)
    rw [if_neg hE]
    exact World.ownsRow_nil _ _ _ _
end Go.Proofs.Ytpdgfekimnmdnaa
