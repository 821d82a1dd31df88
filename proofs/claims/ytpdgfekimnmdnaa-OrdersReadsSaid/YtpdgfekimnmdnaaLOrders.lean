/- Orders: the law of orders: OrdersOrders answers true. -/
import Derived.Test.YtpdgfekimnmdnaaPlainW
set_option linter.unusedVariables false
set_option linter.unusedSimpArgs false
namespace Go.Proofs.Ytpdgfekimnmdnaa
open Go.RowKit
set_option maxRecDepth 20000

/-- What holds while a copy of the bytes, with one byte more, is made. -/
def CloneG (w0 : World) (ab b3 : Nat) (k e t v : Int) (u : Value) (bu : List UInt8) (b : Nat → Bool) (V : Nat → Value) (w : World) : Prop :=
  Keep [] w0 w ∧ Blk w ab 25 (ordL k e t v u).toArray ∧ Blk w b3 25 (ordL k e t v (cond (b 11) (V 9) u)).toArray ∧
  (b 0 = true → b 3 = false → ∃ p, w0.heap.size ≤ p ∧ V 0 = .slice (some ⟨p, 0, none⟩) 0 0 ∧ Blk w p 5 #[]) ∧
  (b 3 = true → b 5 = false → OwnB 5 w w0.heap.size (V 3) bu) ∧
  (b 4 = true → b 5 = false → ∃ p, w0.heap.size ≤ p ∧ V 4 = .slice (some ⟨p, 0, none⟩) 1 1 ∧ Blk w p 5 (bytesV [77]).toArray) ∧
  (b 5 = true → OwnB 5 w w0.heap.size (V 5) (bu ++ [77])) ∧
  (b 9 = true → b 5 = true ∧ ∃ ad cap, V 5 = .slice ad (bu ++ [77]).length cap ∧ V 9 = .slice ad bu.length cap)
theorem CloneG.keep0 {w0 : World} {ab b3 : Nat} {k e t v : Int} {u : Value} {bu : List UInt8} {b : Nat → Bool} {V : Nat → Value} {w w' : World} (h : CloneG w0 ab b3 k e t v u bu b V w) (kk : Keep [] w w') : CloneG w0 ab b3 k e t v u bu b V w' := by
  obtain ⟨h1, h2, h3, h4, h5, h6, h7, h8⟩ := h
  refine ⟨h1.trans0 kk, kk.blk h2 (by simp), kk.blk h3 (by simp), fun x y => ?_, fun x y => own_keep (h5 x y) kk (by simp), fun x y => ?_, fun x => own_keep (h7 x) kk (by simp), h8⟩
  · obtain ⟨p, g1, g2, g3⟩ := h4 x y
    exact ⟨p, g1, g2, kk.blk g3 (by simp)⟩
  · obtain ⟨p, g1, g2, g3⟩ := h6 x y
    exact ⟨p, g1, g2, kk.blk g3 (by simp)⟩
theorem last_cell {w : World} {g cap : Nat} {bu : List UInt8} (h : RdB w (.slice (some ⟨g, 0, none⟩) (bu ++ [77]).length cap) (bu ++ [77])) : w.cell? (Addr.add ⟨g, 0, none⟩ (bu.length * 1)) = some (.int .u8 77) := by
  obtain ⟨ad, cap', he, hc, hr⟩ := h
  obtain ⟨a, ha, h2⟩ := hr bu.length (byteV 77) (by simp [bytesV])
  injection he with e1 _ _
  rw [ha] at e1
  injection e1 with e1
  subst e1
  rw [Nat.mul_one]
  exact h2
theorem same_self (k e t v : Int) (b : List UInt8) : decide (sameO k e t v b k e t v b) = true := decide_eq_true (by unfold sameO; simp)
set_option maxHeartbeats 8000000 in
theorem OrdersOrders_ok (k e t v : Int) (u : Value) (bu : List UInt8) (w : World) (hu : RdB w u bu) (hl : bu.length ≤ maxLen) : Fn Try.prog 3 [.agg (ordL k e t v u).toArray] w fun r w' => r = .bool true ∧ Keep [] w w' := by
  obtain ⟨ad, cap, rfl, hc⟩ := hu.slice
  have hlx : bu.length ≤ 9223372036854775807 := by unfold maxLen at hl; omega
  have hu0 := hu
  refine fn_enter Try.func3 rfl rfl ?_
  refine sp rfl ?_
  refine el_box (ordL k e t v (.slice ad bu.length cap)).toArray rfl rfl rfl rfl ?_
  intro ab w1 e1 e1' kw h1
  have hab : w.heap.size ≤ ab := by omega
  refine ep rfl ?_
  refine ew_seq (sp rfl ?_)
  refine el_loadb rfl rfl rfl rfl rfl h1 rfl ?_
  refine ppn 2 rfl ?_
  by_cases hb : bu.length > 200
  · refine el_as (v' := .bool true) (bool_eq (decide_eq_true (by omega))) ?_
    refine ep rfl ?_
    refine ew_cond_t rfl rfl ?_
    refine sp rfl ?_
    refine el_call rfl rfl rfl rfl rfl rfl (works_ok w1) ?_
    rintro _ w3 ⟨rfl, k⟩
    refine ep rfl ?_
    exact ew_ret (ret_1 (.bool true) rfl rfl rfl rfl ⟨rfl, kw.trans0 k⟩)
  refine el_as (v' := .bool false) (bool_eq (decide_eq_false (by omega))) ?_
  refine ep rfl ?_
  refine ew_cond_f rfl rfl ?_
  refine ew_skip ?_
  refine sp rfl ?_
  refine el_loada (vs := ordL k e t v (.slice ad bu.length cap)) rfl rfl rfl rfl rfl rfl h1 rfl ?_
  refine el_alloc (z := ordZ) (ordL 0 0 0 0 (.slice none 0 0)).toArray rfl rfl rfl rfl ?_
  intro b3 w2 hb3 hb3' kk h3
  have hw3 : w.heap.size ≤ b3 := by have := kw.size; omega
  have hab3 : ab < b3 := by have := Blk.lt h1; omega
  have h1 := kk.blk h1 (by simp)
  have kw := kw.trans0 kk
  refine el_store (b := b3) (off := 0) (ordL k e t v (.slice ad bu.length cap)).toArray rfl rfl rfl rfl rfl rfl rfl rfl h3 rfl rfl ?_
  intro w3 kk hs h3
  have h1 := kk.blk h1 (by simp; omega)
  have kw := kw.trans kk (by simp; omega)
  refine ep rfl ?_
  refine ew_seq ?_
  refine ew_drawg follows [.any, .known (.pointer (some ⟨ab, 4, none⟩)), .known (.slice ad bu.length cap), .any, .any, .any, .known (.pointer (some ⟨ab, 4, none⟩)), .known (.slice ad bu.length cap), .known (.int .i64 (bu.length : Int)), .any, .known (.pointer (some ⟨b3, 4, none⟩)), .any]
    (CloneG w ab b3 k e t v (.slice ad bu.length cap) bu) rfl (stable_any _ (by simp [Spec.isK])) ?_ ?_ ?_
  · have kd := Keep.drew w3
    exact ⟨kw.trans0 kd, kd.blk h1 (by simp), kd.blk h3 (by simp), (fun h => by cases h), (fun h => by cases h), (fun h => by cases h), (fun h => by cases h), (fun h => by cases h)⟩
  · skip
    refine ⟨fun b V ρ w' hbi hd hu hG hV => el_bslice (z := .int .u8 0) (bytes := 1) (vs := []) rfl rfl rfl info_u8 rfl rfl rfl (fun p w'' hp hp' kk hblk => el_nil ⟨_, rfl, trivial, by
      have hsz := hG.1.size
      obtain ⟨g1, g2, g3, g4, g5, g6, g7, g8⟩ := CloneG.keep0 hG kk
      exact ⟨g1, g2, g3, fun _ _ => ⟨p, by omega, rfl, hblk⟩, g5, g6, g7, g8⟩⟩), ?_⟩
    refine ⟨pureG rfl (fun _ _ => rfl) (fun _ _ _ h => h), ?_⟩
    refine ⟨fun b V ρ w hbi hd hu hG hV => el_loadb rfl rfl rfl rfl rfl hG.2.1 rfl (el_nil ⟨_, rfl, rfl, hG⟩), ?_⟩
    refine ⟨?_, ?_⟩
    · intro b V ρ w' hbi hd hu hG hV
      have h5f : b 5 = false := hu 5 _ rfl rfl
      obtain ⟨g1, g2, g3, g4, g5, g6, g7, g8⟩ := hG
      obtain ⟨p, hp, hv0, hp0⟩ := g4 (hd 0 rfl) hbi
      have own0 : World.ownsRow w' w.heap.size 5 1 (V 0) 0 [] := by
        rw [hv0]
        exact ⟨rfl, .inr ⟨p, 0, #[], rfl, hp, hp0, Nat.le_refl _, Nat.zero_le _, rfl, rfl⟩⟩
      have hub := hu0.keep0 g1
      refine el_append (v := V 0) (base := w.heap.size) (z := .int .u8 0) (size := 1) (bytes := 1) (n := 0) (m := bu.length) (xs := []) (ys := bytesV bu) rfl rfl rfl info_u8 rfl rfl rfl rfl own0 hub (by simp [bytesV_length]) (bytesV_one _) (by unfold maxLen; omega) (by omega) g1.size ?_
      intro v' w'' ho hgr _
      have ho' : OwnB 5 w'' w.heap.size v' bu := by simpa using ho
      have kk : Keep [p] w' w'' := Keep.of_grown hgr (fun b hb _ => by rw [hv0] at hb; simp [Value.ownBlock] at hb; simp [hb])
      have n1 : ab ≠ p := Blk.ne g2 hp0 (by decide)
      have n3 : b3 ≠ p := Blk.ne g3 hp0 (by decide)
      refine el_nil ⟨_, rfl, trivial, g1.trans kk (by simp; omega), kk.blk g2 (by simpa using n1), kk.blk g3 (by simpa using n3), (fun _ h => by cases h), (fun _ _ => ho'), (fun x y => ?_), (fun h => ?_), (fun h => ?_)⟩
      · obtain ⟨p4, q1, q2, q3⟩ := g6 x y
        have n4 : p4 ≠ p := by
          rintro rfl
          have ee := q3.symm.trans hp0
          simp [bytesV] at ee
        exact ⟨p4, q1, q2, kk.blk q3 (by simpa using n4)⟩
      · have h' : b 5 = true := h
        rw [h5f] at h'
        cases h'
      · have h' : b 5 = true := (g8 h).1
        rw [h5f] at h'
        cases h'
    refine ⟨fun b V ρ w' hbi hd hu hG hV => el_bslice (z := .int .u8 0) (bytes := 1) (vs := bytesV [77]) rfl rfl rfl info_u8 rfl rfl rfl (fun p w'' hp hp' kk hblk => el_nil ⟨_, rfl, trivial, by
      have hsz := hG.1.size
      obtain ⟨g1, g2, g3, g4, g5, g6, g7, g8⟩ := CloneG.keep0 hG kk
      exact ⟨g1, g2, g3, g4, g5, fun _ _ => ⟨p, by omega, rfl, hblk⟩, g7, g8⟩⟩), ?_⟩
    refine ⟨?_, ?_⟩
    · intro b V ρ w' hbi hd hu hG hV
      have h9f : b 9 = false := hu 9 _ rfl rfl
      have hd3 := hd 3 rfl
      obtain ⟨g1, g2, g3, g4, g5, g6, g7, g8⟩ := hG
      have own3 := g5 (hd 3 rfl) hbi
      obtain ⟨p, hp, hv4, hp4⟩ := g6 (hd 4 rfl) hbi
      have hr4 : Rd w' (V 4) 1 (bytesV [77]) := by
        rw [hv4]
        exact Rd.of_own (own_of_blk (bs := [77]) hp4 hp (by unfold maxLen; simp))
      refine el_append (v := V 3) (base := w.heap.size) (z := .int .u8 0) (size := 1) (bytes := 1) (n := bu.length) (m := 1) (xs := bytesV bu) (ys := bytesV [77]) rfl rfl rfl info_u8 rfl rfl rfl rfl own3 hr4 (by simp [bytesV_length]) (bytesV_one _) (by unfold maxLen; omega) (by omega) g1.size ?_
      intro v' w'' ho hgr _
      have ho' : OwnB 5 w'' w.heap.size v' (bu ++ [77]) := by
        show World.ownsRow _ _ _ _ _ _ _
        rw [bytesV_append, List.length_append]
        exact ho
      have kk : Keep (V 3).ownBlock.toList w' w'' := Keep.of_grown hgr (fun b hb _ => by simp [hb])
      refine el_nil ⟨_, rfl, trivial, g1.trans kk (fun b hb hlt => by have := own3.lt b (by simpa using hb); omega), kk.blk g2 (fun hin => own_ne own3 g2 (by decide) ab (by simpa using hin) (by simp)), kk.blk g3 (fun hin => own_ne own3 g3 (by decide) b3 (by simpa using hin) (by simp)), (fun _ h => ?_), (fun _ h => by cases h), (fun _ h => by cases h), (fun _ => ho'), (fun h => ?_)⟩
      · have h' : b 3 = false := h
        rw [hd3] at h'
        cases h'
      · have h' : b 9 = true := h
        rw [h9f] at h'
        cases h'
    refine ⟨pureG rfl (fun _ _ => rfl) (fun _ _ _ h => h), ?_⟩
    refine ⟨fun b V ρ w hbi hd hu hG hV => el_loadb rfl rfl rfl rfl rfl hG.2.1 rfl (el_nil ⟨_, rfl, rfl, hG⟩), ?_⟩
    refine ⟨pureG rfl (fun _ _ => rfl) (fun _ _ _ h => h), ?_⟩
    refine ⟨?_, ?_⟩
    · intro b V ρ w' hbi hd hu hG hV
      obtain ⟨g1, g2, g3, g4, g5, g6, g7, g8⟩ := hG
      have own5 := g7 (hd 5 rfl)
      obtain ⟨ad5, cap5, hv5, hc5⟩ := own_slice own5
      have h11f : b 11 = false := hu 11 _ rfl rfl
      refine el_slice_to (e := 5) (m := bu.length) rfl rfl hv5 rfl rfl rfl rfl (by simp at hc5; omega) ?_
      refine el_nil ⟨_, rfl, trivial, g1, g2, ?_, g4, g5, g6, g7, fun _ => ⟨hd 5 rfl, ad5, cap5, hv5, rfl⟩⟩
      rw [h11f] at g3
      show Blk w' b3 _ (ordL k e t v (cond (b 11) _ _)).toArray
      rw [h11f]
      exact g3
    refine ⟨pureG rfl (fun _ _ => rfl) (fun _ _ _ h => h), ?_⟩
    refine ⟨?_, ?_⟩
    · intro b V ρ w' hbi hd hu hG hV
      have hd3 := hd 3 rfl
      have hd5 := hd 5 rfl
      obtain ⟨g1, g2, g3, g4, g5, g6, g7, g8⟩ := hG
      obtain ⟨_, ad5, cap5, hv5, hv9⟩ := g8 (hd 9 rfl)
      rw [hbi] at g3
      have own5 := g7 hd5
      refine el_store (b := b3) (off := 4) (v := .slice ad5 bu.length cap5) (ordL k e t v (.slice ad5 bu.length cap5)).toArray rfl rfl rfl hv9 rfl rfl rfl rfl g3 rfl rfl ?_
      intro w'' kk hs hb
      refine el_nil ⟨_, rfl, trivial, g1.trans kk (by simp; omega), kk.blk g2 (by simp; omega), ?_, (fun _ h => ?_), (fun _ h => ?_), (fun _ h => ?_), (fun _ => own_keep own5 kk (own_ne own5 g3 (by decide))), g8⟩
      · show Blk w'' b3 _ (ordL k e t v (V 9)).toArray
        rw [hv9]
        exact hb
      · have h' : b 3 = false := h
        rw [hd3] at h'
        cases h'
      · have h' : b 5 = false := h
        rw [hd5] at h'
        cases h'
      · have h' : b 5 = false := h
        rw [hd5] at h'
        cases h'
    trivial
  · intro b V w4 hall hG hV
    obtain ⟨kw, h1, h3, _, _, _, g7, g8⟩ := hG
    have own5 := g7 (hall 5 (by decide))
    obtain ⟨_, ad5, cap5, hv5, hv9⟩ := g8 (hall 9 (by decide))
    rw [hall 11 (by decide)] at h3
    have h3 : Blk w4 b3 25 (ordL k e t v (V 9)).toArray := h3
    rw [hv9] at h3
    rw [hv5] at own5
    obtain ⟨g, hg⟩ : ∃ g, ad5 = some ⟨g, 0, none⟩ := by
      rcases own5.2 with ⟨hx, hn⟩ | ⟨g, cap6, cur, hx, _⟩
      · simp at hn
      · injection hx with hx _ _
        exact ⟨g, hx⟩
    subst hg
    have hrow : RdB w4 (.slice (some ⟨g, 0, none⟩) (bu ++ [77]).length cap5) (bu ++ [77]) := Rd.of_own own5
    have hcap5 : bu.length + 1 ≤ cap5 := by
      obtain ⟨_, _, he, hc5⟩ := own_slice own5
      injection he with _ _ he
      subst he
      simpa using hc5
    have hu5 : RdB w4 (.slice (some ⟨g, 0, none⟩) bu.length cap5) bu := by
      have := Rd.take hrow (show bu.length ≤ cap5 by omega)
      have ee : (bytesV (bu ++ [77])).take bu.length = bytesV bu := by simp [bytesV]
      rw [ee] at this
      exact this
    obtain ⟨B, hB⟩ : ∃ B, orderB k e t v bu = B := ⟨_, rfl⟩
    refine sp rfl ?_
    refine el_loada (vs := ordL k e t v (.slice (some ⟨g, 0, none⟩) bu.length cap5)) rfl rfl rfl rfl rfl rfl h3 rfl ?_
    refine el_call rfl rfl rfl rfl rfl rfl (Order_ok k e t v _ bu w4 hu5 hl) ?_
    rintro _ w5 ⟨y, rfl, hy, kk⟩
    rw [hB] at hy
    obtain ⟨ady, capy, rfl, hcy⟩ := own_slice hy
    have h1 := kk.blk h1 (by simp)
    have h3 := kk.blk h3 (by simp)
    have own5 := own_keep own5 kk (by simp)
    have kw := kw.trans0 kk
    refine ep rfl ?_
    refine ew_seq ?_
    refine sp rfl ?_
    refine el_loada (vs := ordL k e t v (.slice ad bu.length cap)) rfl rfl rfl rfl rfl rfl h1 rfl ?_
    refine el_call rfl rfl rfl rfl rfl rfl (CheckOrder_ok k e t v ad bu.length cap hlx w5) ?_
    rintro _ w6 ⟨rfl, kk⟩
    have h1 := kk.blk h1 (by simp)
    have h3 := kk.blk h3 (by simp)
    have own5 := own_keep own5 kk (by simp)
    have hy := own_keep hy kk (by simp)
    have kw := kw.trans0 kk
    refine ep rfl ?_
    refine spn 1 rfl ?_
    by_cases hE : ordE k e t v bu.length = 0
    · rw [hE]
      rw [hE] at hy
      rw [if_pos rfl] at hy ⊢
      obtain ⟨hok, hbl⟩ := ordE_zero hE
      have hBl : B.length ≤ 80050 := by
        rw [← hB]
        exact orderB_len hok hbl
      have hW : readW B = some ⟨k, e, t, v, bu, 0, 0, 0, 0, 0, false⟩ := by
        have h2 := readW_B (x := ⟨k, e, t, v, bu, 0, 0, 0, 0, 0, false⟩) (by rw [E_order]; exact hE)
        have hx : (WorD.mk k e t v bu 0 0 0 0 0 false).B = B := by
          rw [← hB]
          simp [WorD.B]
        rw [hx] at h2
        exact h2
      have hO : readOR B = (⟨k, e, t, v, bu, 0, 0, 0, 0, 0, false⟩, 0) := by
        unfold readOR
        rw [hW]
        rfl
      have hT : readTR B = (zeroW, 271) := by
        unfold readTR
        rw [hW]
        rfl
      refine el_neqi (a := 0) (b := 0) (k := .i64) false rfl rfl rfl rfl rfl ?_
      refine ep rfl ?_
      refine ew_cond_f rfl rfl ?_
      refine ew_skip ?_
      refine sp rfl ?_
      refine el_call rfl rfl rfl rfl rfl rfl (ReadOrder_ok _ B w6 (Rd.of_own hy) (by omega)) ?_
      intro rv w7 hq
      rw [hO] at hq
      obtain ⟨u7, rfl, hu7, kk⟩ := hq
      dsimp only at hu7
      obtain ⟨ad7, cap7, rfl, hc7⟩ := own_slice hu7
      have h1 := kk.blk h1 (by simp)
      have h3 := kk.blk h3 (by simp)
      have own5 := own_keep own5 kk (by simp)
      have hy := own_keep hy kk (by simp)
      have kw := kw.trans0 kk
      refine pp rfl ?_
      refine el_alloc (z := ordZ) (ordL 0 0 0 0 (.slice none 0 0)).toArray rfl rfl rfl rfl ?_
      intro b7 w8 hb7 hb7' kk h7
      have hw7 : w.heap.size ≤ b7 := by have := kw.size; omega
      have hb37 : b3 < b7 := by have := Blk.lt h3; omega
      have h1 := kk.blk h1 (by simp)
      have h3 := kk.blk h3 (by simp)
      have own5 := own_keep own5 kk (by simp)
      have hy := own_keep hy kk (by simp)
      have hu7 := own_keep hu7 kk (by simp)
      have kw := kw.trans0 kk
      refine el_store (b := b7) (off := 0) (ordL k e t v (.slice ad7 bu.length cap7)).toArray rfl rfl rfl rfl rfl rfl rfl rfl h7 rfl rfl ?_
      intro w9 kk hs h7'
      have h1 := kk.blk h1 (by simp; omega)
      have h3 := kk.blk h3 (by simp; omega)
      have own5 := own_keep own5 kk (own_ne own5 h7 (by decide))
      have hy := own_keep hy kk (own_ne hy h7 (by decide))
      have hu7 := own_keep hu7 kk (own_ne hu7 h7 (by decide))
      have kw := kw.trans kk (by simp; omega)
      refine ep rfl ?_
      refine sp rfl ?_
      refine el_call rfl rfl rfl rfl rfl rfl (ReadReport_ok _ B w9 (Rd.of_own hy) (by omega)) ?_
      intro rv w10 hq
      rw [hT] at hq
      obtain ⟨rfl, kk⟩ := hq
      have h1 := kk.blk h1 (by simp)
      have h3 := kk.blk h3 (by simp)
      have h7' := kk.blk h7' (by simp)
      have own5 := own_keep own5 kk (by simp)
      have hy := own_keep hy kk (by simp)
      have hu7 := own_keep hu7 kk (by simp)
      have kw := kw.trans0 kk
      refine pp rfl ?_
      refine el_alloc (z := repZ) #[.int .i64 0, .int .i64 0, .int .i64 0, .int .i64 0] rfl rfl rfl rfl ?_
      intro b10 w11 hb10 hb10' kk h10
      have hw10 : w.heap.size ≤ b10 := by have := kw.size; omega
      have hb710 : b7 < b10 := by have := Blk.lt h7'; omega
      have h1 := kk.blk h1 (by simp)
      have h3 := kk.blk h3 (by simp)
      have h7' := kk.blk h7' (by simp)
      have own5 := own_keep own5 kk (by simp)
      have hy := own_keep hy kk (by simp)
      have hu7 := own_keep hu7 kk (by simp)
      have kw := kw.trans0 kk
      refine pp rfl ?_
      refine el_store (b := b10) (off := 0) #[.int .i64 0, .int .i64 0, .int .i64 0, .int .i64 0] rfl rfl rfl rfl rfl rfl rfl rfl h10 rfl rfl ?_
      intro w12 kk hs h10'
      have h1 := kk.blk h1 (by simp; omega)
      have h3 := kk.blk h3 (by simp; omega)
      have h7' := kk.blk h7' (by simp; omega)
      have own5 := own_keep own5 kk (own_ne own5 h10 (by decide))
      have hy := own_keep hy kk (own_ne hy h10 (by decide))
      have hu7 := own_keep hu7 kk (own_ne hu7 h10 (by decide))
      have kw := kw.trans kk (by simp; omega)
      have hu := hu0.keep0 kw
      have hrow : RdB w12 (.slice (some ⟨g, 0, none⟩) (bu ++ [77]).length cap5) (bu ++ [77]) := Rd.of_own own5
      have hu5 : RdB w12 (.slice (some ⟨g, 0, none⟩) bu.length cap5) bu := by
        have := Rd.take hrow (show bu.length ≤ cap5 by omega)
        have ee : (bytesV (bu ++ [77])).take bu.length = bytesV bu := by simp [bytesV]
        rw [ee] at this
        exact this
      refine ep rfl ?_
      refine ew_seq ?_
      let T : Value := .bool true
      let S : Value := .string (strOf B)
      let U : Value := .slice ad bu.length cap
      let V9 : Value := .slice (some ⟨g, 0, none⟩) bu.length cap5
      let X : Value := .agg (ordL k e t v U).toArray
      let X3 : Value := .agg (ordL k e t v V9).toArray
      let X7 : Value := .agg (ordL k e t v (.slice ad7 bu.length cap7)).toArray
      let I0 : Value := .int .i64 0
      let I1 : Value := .int .i64 271
      let LEN : Value := .int .i64 (bu.length : Int)
      let LEN1 : Value := .int .i64 ((bu.length : Int) + 1)
      let PA : Value := .pointer (some ⟨ab, 4, none⟩)
      refine ew_draw follows [.known (.slice ady B.length capy), .known S, .known X, .fact (fun v w => OwnB 5 w 0 v B), .known S, .known T, .known T, .known I0, .known I0, .known I0, .known I0, .known I0, .known T, .known T, .known T, .known I1, .known I1, .known T, .known T, .known T,
          .known X3, .known X, .known T, .known T, .known T, .known (.pointer (some ⟨b3, 4, none⟩)), .known V9, .known PA, .known U, .known LEN, .known LEN1, .known (.slice (some ⟨g, 0, none⟩) (bu.length + 1) cap5), .known PA, .known U, .known LEN, .known (.pointer (some (Addr.add ⟨g, 0, none⟩ (bu.length * 1)))), .known (.int .u8 77), .known T, .known T, .known T, .known X7, .known X, .known T, .known T, .known T, .known T, .known T, .known T] []
        (fun b w => Blk w ab 25 (ordL k e t v (.slice ad bu.length cap)).toArray ∧ Blk w b3 25 (ordL k e t v (.slice (some ⟨g, 0, none⟩) bu.length cap5)).toArray ∧ Blk w b7 25 (ordL k e t v (.slice ad7 bu.length cap7)).toArray ∧ RdB w (.slice ady B.length capy) B ∧ RdB w (.slice ad bu.length cap) bu ∧ RdB w (.slice (some ⟨g, 0, none⟩) (List.length (bu ++ [(77 : UInt8)])) cap5) (bu ++ [77]) ∧ RdB w (.slice (some ⟨g, 0, none⟩) bu.length cap5) bu ∧ RdB w (.slice ad7 bu.length cap7) bu) rfl (stable_of _ (fun f hf v w w' hk hfv => by
            simp at hf
            subst hf
            exact own_keep hfv hk (by simp))) ⟨h1, h3, h7', Rd.of_own hy, hu, hrow, hu5, Rd.of_own hu7⟩ ?_ ?_
      refine ⟨pureD rfl (fun _ _ => rfl) (fun _ _ h => h), ?_⟩
      refine ⟨fun b V ρ w hk hbi hd hu hWd hV => el_str rfl rfl rfl rfl rfl rfl hWd.2.2.2.1 (el_nil ⟨_, rfl, rfl, Keep.refl _ _, hWd⟩), ?_⟩
      refine ⟨fun b V ρ w hk hbi hd hu hWd hV => el_loada (vs := ordL k e t v (.slice ad bu.length cap)) rfl rfl rfl rfl rfl rfl hWd.1 rfl (el_nil ⟨_, rfl, rfl, Keep.refl _ _, hWd⟩), ?_⟩
      refine ⟨fun b V ρ w hk hbi hd hu hWd hV => el_call rfl rfl rfl rfl rfl rfl (refOrder_ok k e t v _ bu w hWd.2.2.2.2.1 hE) (by
        rintro u w' ⟨ho, kk⟩
        rw [hB] at ho
        exact el_nil ⟨_, rfl, own_lower ho (Nat.zero_le _), kk, kk.blk hWd.1 (by simp), kk.blk hWd.2.1 (by simp), kk.blk hWd.2.2.1 (by simp), hWd.2.2.2.1.keep0 kk, hWd.2.2.2.2.1.keep0 kk, hWd.2.2.2.2.2.1.keep0 kk, hWd.2.2.2.2.2.2.1.keep0 kk, hWd.2.2.2.2.2.2.2.keep0 kk⟩), ?_⟩
      refine ⟨fun b V ρ w hk hbi hd hu hWd hV => el_str rfl rfl rfl rfl rfl rfl (Rd.of_own (hV 3 (hd 3 rfl))) (el_nil ⟨_, rfl, rfl, Keep.refl _ _, hWd⟩), ?_⟩
      refine ⟨fun b V ρ w hk hbi hd hu hWd hV => el_streq true (by simp) rfl rfl rfl rfl (el_nil ⟨_, rfl, rfl, Keep.refl _ _, hWd⟩), ?_⟩
      refine ⟨pureD rfl (fun _ _ => rfl) (fun _ _ h => h), ?_⟩
      refine ⟨pureD rfl (fun _ _ => rfl) (fun _ _ h => h), ?_⟩
      refine ⟨fun b V ρ w hk hbi hd hu hWd hV => el_call rfl rfl rfl rfl rfl rfl (num_ok _ w) (by rintro _ _ ⟨rfl, rfl⟩; exact el_nil ⟨_, rfl, rfl, Keep.refl _ _, hWd⟩), ?_⟩
      refine ⟨pureD rfl (fun _ _ => rfl) (fun _ _ h => h), ?_⟩
      refine ⟨fun b V ρ w hk hbi hd hu hWd hV => el_call rfl rfl rfl rfl rfl rfl (num_ok _ w) (by rintro _ _ ⟨rfl, rfl⟩; exact el_nil ⟨_, rfl, rfl, Keep.refl _ _, hWd⟩), ?_⟩
      refine ⟨pureD rfl (fun _ _ => rfl) (fun _ _ h => h), ?_⟩
      refine ⟨pureD rfl (fun _ _ => rfl) (fun _ _ h => h), ?_⟩
      refine ⟨pureD rfl (fun _ _ => rfl) (fun _ _ h => h), ?_⟩
      refine ⟨pureD rfl (fun _ _ => rfl) (fun _ _ h => h), ?_⟩
      refine ⟨pureD rfl (fun _ _ => rfl) (fun _ _ h => h), ?_⟩
      refine ⟨fun b V ρ w hk hbi hd hu hWd hV => el_call rfl rfl rfl rfl rfl rfl (num_ok _ w) (by rintro _ _ ⟨rfl, rfl⟩; exact el_nil ⟨_, rfl, rfl, Keep.refl _ _, hWd⟩), ?_⟩
      refine ⟨fun b V ρ w hk hbi hd hu hWd hV => el_eqi true (by simp) rfl rfl rfl rfl (el_nil ⟨_, rfl, rfl, Keep.refl _ _, hWd⟩), ?_⟩
      refine ⟨pureD rfl (fun _ _ => rfl) (fun _ _ h => h), ?_⟩
      refine ⟨pureD rfl (fun _ _ => rfl) (fun _ _ h => h), ?_⟩
      refine ⟨fun b V ρ w hk hbi hd hu hWd hV => el_loada (vs := ordL k e t v (.slice (some ⟨g, 0, none⟩) bu.length cap5)) rfl rfl rfl rfl rfl rfl hWd.2.1 rfl (el_nil ⟨_, rfl, rfl, Keep.refl _ _, hWd⟩), ?_⟩
      refine ⟨fun b V ρ w hk hbi hd hu hWd hV => el_loada (vs := ordL k e t v (.slice ad bu.length cap)) rfl rfl rfl rfl rfl rfl hWd.1 rfl (el_nil ⟨_, rfl, rfl, Keep.refl _ _, hWd⟩), ?_⟩
      refine ⟨fun b V ρ w hk hbi hd hu hWd hV => el_call rfl rfl rfl rfl rfl rfl (SameOrder_ok k e t v _ bu k e t v _ bu w hWd.2.2.2.2.2.2.1 hWd.2.2.2.2.1) (by
        rintro _ W ⟨rfl, kk⟩
        rw [same_self]
        exact el_nil ⟨_, rfl, rfl, kk, kk.blk hWd.1 (by simp), kk.blk hWd.2.1 (by simp), kk.blk hWd.2.2.1 (by simp), hWd.2.2.2.1.keep0 kk, hWd.2.2.2.2.1.keep0 kk, hWd.2.2.2.2.2.1.keep0 kk, hWd.2.2.2.2.2.2.1.keep0 kk, hWd.2.2.2.2.2.2.2.keep0 kk⟩), ?_⟩
      refine ⟨pureD rfl (fun _ _ => rfl) (fun _ _ h => h), ?_⟩
      refine ⟨pureD rfl (fun _ _ => rfl) (fun _ _ h => h), ?_⟩
      refine ⟨pureD rfl (fun _ _ => rfl) (fun _ _ h => h), ?_⟩
      refine ⟨fun b V ρ w hk hbi hd hu hWd hV => el_loadb rfl rfl rfl rfl rfl hWd.2.1 rfl (el_nil ⟨_, rfl, rfl, Keep.refl _ _, hWd⟩), ?_⟩
      refine ⟨pureD rfl (fun _ _ => rfl) (fun _ _ h => h), ?_⟩
      refine ⟨fun b V ρ w hk hbi hd hu hWd hV => el_loadb rfl rfl rfl rfl rfl hWd.1 rfl (el_nil ⟨_, rfl, rfl, Keep.refl _ _, hWd⟩), ?_⟩
      refine ⟨pureD rfl (fun _ _ => rfl) (fun _ _ h => h), ?_⟩
      refine ⟨fun b V ρ w hk hbi hd hu hWd hV => ppn 1 rfl (el_as (v' := LEN1) (int_eq (wrap_i64 (by omega) (by omega))) (el_nil ⟨_, rfl, rfl, Keep.refl _ _, hWd⟩)), ?_⟩
      refine ⟨fun b V ρ w hk hbi hd hu hWd hV => el_slice_to (e := 5) (m := bu.length + 1) rfl rfl rfl rfl rfl rfl rfl (by omega) (el_nil ⟨_, rfl, rfl, Keep.refl _ _, hWd⟩), ?_⟩
      refine ⟨pureD rfl (fun _ _ => rfl) (fun _ _ h => h), ?_⟩
      refine ⟨fun b V ρ w hk hbi hd hu hWd hV => el_loadb rfl rfl rfl rfl rfl hWd.1 rfl (el_nil ⟨_, rfl, rfl, Keep.refl _ _, hWd⟩), ?_⟩
      refine ⟨pureD rfl (fun _ _ => rfl) (fun _ _ h => h), ?_⟩
      refine ⟨fun b V ρ w hk hbi hd hu hWd hV => el_index (e := 5) (j := bu.length) (p := bu.length * 1) rfl rfl rfl rfl rfl rfl (by omega) rfl rfl (el_nil ⟨_, rfl, rfl, Keep.refl _ _, hWd⟩), ?_⟩
      refine ⟨fun b V ρ w hk hbi hd hu hWd hV => el_load rfl rfl rfl rfl rfl (last_cell hWd.2.2.2.2.2.1) (el_nil ⟨_, rfl, rfl, Keep.refl _ _, hWd⟩), ?_⟩
      refine ⟨pureD rfl (fun _ _ => rfl) (fun _ _ h => h), ?_⟩
      refine ⟨pureD rfl (fun _ _ => rfl) (fun _ _ h => h), ?_⟩
      refine ⟨pureD rfl (fun _ _ => rfl) (fun _ _ h => h), ?_⟩
      refine ⟨fun b V ρ w hk hbi hd hu hWd hV => el_loada (vs := ordL k e t v (.slice ad7 bu.length cap7)) rfl rfl rfl rfl rfl rfl hWd.2.2.1 rfl (el_nil ⟨_, rfl, rfl, Keep.refl _ _, hWd⟩), ?_⟩
      refine ⟨fun b V ρ w hk hbi hd hu hWd hV => el_loada (vs := ordL k e t v (.slice ad bu.length cap)) rfl rfl rfl rfl rfl rfl hWd.1 rfl (el_nil ⟨_, rfl, rfl, Keep.refl _ _, hWd⟩), ?_⟩
      refine ⟨fun b V ρ w hk hbi hd hu hWd hV => el_call rfl rfl rfl rfl rfl rfl (SameOrder_ok k e t v _ bu k e t v _ bu w hWd.2.2.2.2.2.2.2 hWd.2.2.2.2.1) (by
        rintro _ W ⟨rfl, kk⟩
        rw [same_self]
        exact el_nil ⟨_, rfl, rfl, kk, kk.blk hWd.1 (by simp), kk.blk hWd.2.1 (by simp), kk.blk hWd.2.2.1 (by simp), hWd.2.2.2.1.keep0 kk, hWd.2.2.2.2.1.keep0 kk, hWd.2.2.2.2.2.1.keep0 kk, hWd.2.2.2.2.2.2.1.keep0 kk, hWd.2.2.2.2.2.2.2.keep0 kk⟩), ?_⟩
      refine ⟨pureD rfl (fun _ _ => rfl) (fun _ _ h => h), ?_⟩
      refine ⟨pureD rfl (fun _ _ => rfl) (fun _ _ h => h), ?_⟩
      refine ⟨fun b V ρ w hk hbi hd hu hWd hV => el_call rfl rfl rfl rfl rfl rfl (works_ok w) (by
        rintro _ W ⟨rfl, kk⟩
        skip
        exact el_nil ⟨_, rfl, rfl, kk, kk.blk hWd.1 (by simp), kk.blk hWd.2.1 (by simp), kk.blk hWd.2.2.1 (by simp), hWd.2.2.2.1.keep0 kk, hWd.2.2.2.2.1.keep0 kk, hWd.2.2.2.2.2.1.keep0 kk, hWd.2.2.2.2.2.2.1.keep0 kk, hWd.2.2.2.2.2.2.2.keep0 kk⟩), ?_⟩
      refine ⟨pureD rfl (fun _ _ => rfl) (fun _ _ h => h), ?_⟩
      refine ⟨pureD rfl (fun _ _ => rfl) (fun _ _ h => h), ?_⟩
      trivial
      intro b V w13 hall k7 hWd hV
      exact ew_ret (ret_1 T rfl rfl rfl rfl ⟨rfl, kw.trans0 k7⟩)
    · rw [if_neg hE] at hy ⊢
      refine el_neqi (a := ordE k e t v bu.length) (b := 0) (k := .i64) true (by simpa using hE) rfl rfl rfl rfl ?_
      refine ep rfl ?_
      refine ew_cond_t rfl rfl ?_
      refine sp rfl ?_
      refine el_call rfl rfl rfl rfl rfl rfl (num_ok _ _) ?_
      rintro _ _ ⟨rfl, rfl⟩
      refine ppn 1 rfl ?_
      refine el_eqi (a := ordE k e t v bu.length) (b := ordE k e t v bu.length) (k := .i64) true (by simp) rfl rfl rfl rfl ?_
      refine pp rfl ?_
      refine el_call rfl rfl rfl rfl rfl rfl (works_ok _) ?_
      rintro _ w11 ⟨rfl, kk⟩
      refine ep rfl ?_
      exact ew_ret (ret_1 (.bool true) rfl rfl rfl rfl ⟨rfl, kw.trans0 kk⟩)
end Go.Proofs.Ytpdgfekimnmdnaa
