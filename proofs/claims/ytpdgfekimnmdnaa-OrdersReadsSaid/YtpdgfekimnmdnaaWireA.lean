/- The wire's writer: what its functions come to. -/
import Derived.Test.YtpdgfekimnmdnaaWireM
import Derived.Test.YtpdgfekimnmdnaaProg
set_option linter.unusedVariables false
set_option linter.unusedSimpArgs false
namespace Go.Proofs.Ytpdgfekimnmdnaa
open Go.RowKit
set_option maxRecDepth 20000

theorem info_u8 : (Try.prog.info? 5).map (fun i => (i.zero, i.size, i.bytes)) = some (some (.int .u8 0), 1, 1) := by kernel_rfl

theorem number_i64 (n0 : Nat) (hn0 : n0 < 9223372036854775808) (w : World) : Fn Try.prog 57 [.int .i64 n0] w fun v w' => OwnB 5 w' w.heap.size v (numB n0) ∧ Keep [] w w' := by
  refine fn_enter Try.func57 rfl rfl ?_
  refine es rfl ?_
  refine ew_seq (ew_block ?_)
  refine ew_loop (α := Nat × Value × List UInt8) (fun x => [(0, .int .i64 (x.1 : Int)), (2, x.2.1)])
    (fun x w' => x.1 < 9223372036854775808 ∧ numB n0 = x.2.2 ++ numB x.1 ∧ OwnB 5 w' w.heap.size x.2.1 x.2.2 ∧ Keep [] w w') (fun x => x.1)
    (n0, .slice none 0 0, []) ⟨rfl, rfl, trivial⟩ ⟨hn0, rfl, World.ownsRow_nil _ _ _ _, Keep.refl _ _⟩ ?_
  rintro ⟨n, v, done⟩ ρ w1 hd ⟨hn, hnum, hown, hk⟩
  dsimp only at hn hnum hown hk
  have hlen : (numB n0).length ≤ 10 := numB_len10 (by omega)
  have hlen2 : done.length + (numB n).length ≤ 10 := by rw [hnum] at hlen; simpa using hlen
  have hlen3 : 0 < (numB n).length := List.length_pos_iff.2 (numB_ne n)
  refine ew_seq (es rfl ?_)
  refine ew_cond rfl (fun hb => ?_) (fun hb => ?_)
  · have hge : 128 ≤ (n : Int) := of_decide_eq_true hb
    refine ew_skip ?_
    refine ew_seq (ew_block ?_)
    refine gp rfl ?_
    refine el_bslice (z := .int .u8 0) (bytes := 1) (vs := bytesV [UInt8.ofNat (n % 128 + 128)]) rfl rfl rfl info_u8 rfl rfl (congrArg (fun z => some [Value.int .u8 z]) (byte_or n)) ?_
    intro b w2 hb1 hb2 hk2 hblk
    refine el_append (v := v) (base := w.heap.size) (z := .int .u8 0) (size := 1) (bytes := 1) (n := done.length) (m := 1) (xs := bytesV done) (ys := bytesV [UInt8.ofNat (n % 128 + 128)]) rfl rfl rfl info_u8 rfl rfl rfl rfl (own_keep hown hk2 (by simp)) (Rd.of_blk hblk) rfl (bytesV_one _) (by unfold maxLen; omega) (by omega) (by have := hk.size; have := hk2.size; omega) ?_
    · intro v' w3 hown' hg hfr
      refine ep rfl ?_
      refine eg rfl ?_
      have e7 := shr7 n
      refine ⟨hd, (n / 128, v', done ++ [UInt8.ofNat (n % 128 + 128)]), ⟨int_eq (shr7 n), rfl, trivial⟩, ⟨by omega, ?_, ?_, ?_⟩, ?_⟩
      · rw [hnum, numB_ge (by omega)]; simp
      · have : bytesV (done ++ [UInt8.ofNat (n % 128 + 128)]) = bytesV done ++ bytesV [UInt8.ofNat (n % 128 + 128)] := bytesV_append _ _
        show World.ownsRow _ _ _ _ _ _ _
        rw [this]
        simpa using hown'
      · exact (hk.trans0 hk2).app (own_keep hown hk2 (by simp)) (Nat.le_refl _) hg
      · omega
  · have hlt : ¬ (128 ≤ (n : Int)) := of_decide_eq_false hb
    refine ew_exit ?_
    refine sp rfl ?_
    refine el_bslice (z := .int .u8 0) (bytes := 1) (vs := bytesV [UInt8.ofNat n]) rfl rfl rfl info_u8 rfl rfl (congrArg (fun z => some [Value.int .u8 z]) (byte_of n)) ?_
    intro b w2 hb1 hb2 hk2 hblk
    refine el_append (v := v) (base := w.heap.size) (z := .int .u8 0) (size := 1) (bytes := 1) (n := done.length) (m := 1) (xs := bytesV done) (ys := bytesV [UInt8.ofNat n]) rfl rfl rfl info_u8 rfl rfl rfl rfl (own_keep hown hk2 (by simp)) (Rd.of_blk hblk) rfl (bytesV_one _) (by unfold maxLen; omega) (by omega) (by have := hk.size; have := hk2.size; omega) ?_
    · intro v' w3 hown' hg hfr
      refine ep rfl ?_
      refine ew_ret (ret_1 v' rfl rfl (by exact hd) rfl ?_)
      refine ⟨?_, ?_⟩
      · rw [hnum, numB_lt (by omega)]
        have : bytesV (done ++ [UInt8.ofNat n]) = bytesV done ++ bytesV [UInt8.ofNat n] := bytesV_append _ _
        show World.ownsRow _ _ _ _ _ _ _
        rw [this]
        simpa using hown'
      · exact (hk.trans0 hk2).app (own_keep hown hk2 (by simp)) (Nat.le_refl _) hg
theorem number_int (n0 : Nat) (hn0 : n0 < 9223372036854775808) (w : World) : Fn Try.prog 58 [.int .i64 n0] w fun v w' => OwnB 5 w' w.heap.size v (numB n0) ∧ Keep [] w w' := by
  refine fn_enter Try.func58 rfl rfl ?_
  refine es rfl ?_
  refine ew_seq (ew_block ?_)
  refine ew_loop (α := Nat × Value × List UInt8) (fun x => [(0, .int .i64 (x.1 : Int)), (2, x.2.1)])
    (fun x w' => x.1 < 9223372036854775808 ∧ numB n0 = x.2.2 ++ numB x.1 ∧ OwnB 5 w' w.heap.size x.2.1 x.2.2 ∧ Keep [] w w') (fun x => x.1)
    (n0, .slice none 0 0, []) ⟨rfl, rfl, trivial⟩ ⟨hn0, rfl, World.ownsRow_nil _ _ _ _, Keep.refl _ _⟩ ?_
  rintro ⟨n, v, done⟩ ρ w1 hd ⟨hn, hnum, hown, hk⟩
  dsimp only at hn hnum hown hk
  have hlen : (numB n0).length ≤ 10 := numB_len10 (by omega)
  have hlen2 : done.length + (numB n).length ≤ 10 := by rw [hnum] at hlen; simpa using hlen
  have hlen3 : 0 < (numB n).length := List.length_pos_iff.2 (numB_ne n)
  refine ew_seq (es rfl ?_)
  refine ew_cond rfl (fun hb => ?_) (fun hb => ?_)
  · have hge : 128 ≤ (n : Int) := of_decide_eq_true hb
    refine ew_skip ?_
    refine ew_seq (ew_block ?_)
    refine gp rfl ?_
    refine el_bslice (z := .int .u8 0) (bytes := 1) (vs := bytesV [UInt8.ofNat (n % 128 + 128)]) rfl rfl rfl info_u8 rfl rfl (congrArg (fun z => some [Value.int .u8 z]) (byte_or n)) ?_
    intro b w2 hb1 hb2 hk2 hblk
    refine el_append (v := v) (base := w.heap.size) (z := .int .u8 0) (size := 1) (bytes := 1) (n := done.length) (m := 1) (xs := bytesV done) (ys := bytesV [UInt8.ofNat (n % 128 + 128)]) rfl rfl rfl info_u8 rfl rfl rfl rfl (own_keep hown hk2 (by simp)) (Rd.of_blk hblk) rfl (bytesV_one _) (by unfold maxLen; omega) (by omega) (by have := hk.size; have := hk2.size; omega) ?_
    · intro v' w3 hown' hg hfr
      refine ep rfl ?_
      refine eg rfl ?_
      have e7 := shr7 n
      refine ⟨hd, (n / 128, v', done ++ [UInt8.ofNat (n % 128 + 128)]), ⟨int_eq (shr7 n), rfl, trivial⟩, ⟨by omega, ?_, ?_, ?_⟩, ?_⟩
      · rw [hnum, numB_ge (by omega)]; simp
      · have : bytesV (done ++ [UInt8.ofNat (n % 128 + 128)]) = bytesV done ++ bytesV [UInt8.ofNat (n % 128 + 128)] := bytesV_append _ _
        show World.ownsRow _ _ _ _ _ _ _
        rw [this]
        simpa using hown'
      · exact (hk.trans0 hk2).app (own_keep hown hk2 (by simp)) (Nat.le_refl _) hg
      · omega
  · have hlt : ¬ (128 ≤ (n : Int)) := of_decide_eq_false hb
    refine ew_exit ?_
    refine sp rfl ?_
    refine el_bslice (z := .int .u8 0) (bytes := 1) (vs := bytesV [UInt8.ofNat n]) rfl rfl rfl info_u8 rfl rfl (congrArg (fun z => some [Value.int .u8 z]) (byte_of n)) ?_
    intro b w2 hb1 hb2 hk2 hblk
    refine el_append (v := v) (base := w.heap.size) (z := .int .u8 0) (size := 1) (bytes := 1) (n := done.length) (m := 1) (xs := bytesV done) (ys := bytesV [UInt8.ofNat n]) rfl rfl rfl info_u8 rfl rfl rfl rfl (own_keep hown hk2 (by simp)) (Rd.of_blk hblk) rfl (bytesV_one _) (by unfold maxLen; omega) (by omega) (by have := hk.size; have := hk2.size; omega) ?_
    · intro v' w3 hown' hg hfr
      refine ep rfl ?_
      refine ew_ret (ret_1 v' rfl rfl (by exact hd) rfl ?_)
      refine ⟨?_, ?_⟩
      · rw [hnum, numB_lt (by omega)]
        have : bytesV (done ++ [UInt8.ofNat n]) = bytesV done ++ bytesV [UInt8.ofNat n] := bytesV_append _ _
        show World.ownsRow _ _ _ _ _ _ _
        rw [this]
        simpa using hown'
      · exact (hk.trans0 hk2).app (own_keep hown hk2 (by simp)) (Nat.le_refl _) hg

theorem clone_ok (v : Value) (bs : List UInt8) (w : World) (hv : RdB w v bs) (hl : bs.length ≤ 70368744177664) :
    Fn Try.prog 59 [v] w fun v' w' => OwnB 5 w' w.heap.size v' bs ∧ Keep [] w w' := by
  obtain ⟨ad, cap, rfl, hc⟩ := hv.slice
  refine fn_enter Try.func59 rfl rfl ?_
  refine es rfl ?_
  cases ad with
  | none =>
    refine ew_seq (es rfl ?_)
    refine ew_cond_t rfl rfl ?_
    refine es rfl ?_
    refine ew_ret (ret_1 (.slice none 0 0) rfl rfl rfl rfl ?_)
    have : bytesV bs = [] := hv.of_nil
    have h0 : bs = [] := by simpa [bytesV] using this
    subst h0
    exact ⟨World.ownsRow_nil _ _ _ _, Keep.refl _ _⟩
  | some a =>
    refine ew_seq (es rfl ?_)
    refine ew_cond_f rfl rfl ?_
    refine ew_skip ?_
    refine sp rfl ?_
    refine el_bslice (z := .int .u8 0) (bytes := 1) (vs := []) rfl rfl rfl info_u8 rfl rfl rfl ?_
    intro b w2 hb1 hb2 hk2 hblk
    refine pp rfl ?_
    have hown : w2.ownsRow w.heap.size 5 1 (.slice (some ⟨b, 0, none⟩) 0 0) 0 [] := ⟨rfl, .inr ⟨b, 0, #[], rfl, by omega, hblk, Nat.le_refl _, Nat.zero_le _, rfl, rfl⟩⟩
    refine el_append (v := .slice (some ⟨b, 0, none⟩) 0 0) (base := w.heap.size) (z := .int .u8 0) (size := 1) (bytes := 1) (n := 0) (m := bs.length) (xs := []) (ys := bytesV bs) rfl rfl rfl info_u8 rfl rfl rfl rfl hown (hv.keep0 hk2) (by simp [bytesV_length]) (bytesV_one _) (by unfold maxLen; omega) (by omega) (by omega) ?_
    intro v' w3 hown' hg hfr
    refine ep rfl ?_
    refine ew_ret (ret_1 v' rfl rfl rfl rfl ?_)
    exact ⟨by simpa using hown', hk2.app hown (Nat.le_refl _) hg⟩

theorem grow_ok (n : Nat) (w : World) (hn : n ≤ 70368744177664) :
    Fn Try.prog 96 [.slice none 0 0, .int .i64 n] w fun v' w' => OwnB 5 w' w.heap.size v' [] ∧ Keep [] w w' := by
  refine fn_enter Try.func96 rfl rfl ?_
  refine es rfl ?_
  refine ew_seq (es rfl ?_)
  refine ew_cond_f rfl (by simp) ?_
  refine ew_skip ?_
  refine ew_seq (es rfl ?_)
  refine ew_as (v' := .int .i64 n) (int_eq (by
    have e1 : IntKind.wrap .i64 (((0 : Nat) : Int) - ((0 : Nat) : Int)) = 0 := by decide
    rw [e1, Int.sub_zero]; exact wrap_i64 (by omega) (by omega))) ?_
  refine es rfl ?_
  by_cases h0 : n = 0
  · subst h0
    refine ew_cond_f rfl rfl ?_
    refine ew_skip ?_
    refine es rfl ?_
    exact ew_ret (ret_1 (.slice none 0 0) rfl rfl rfl rfl ⟨World.ownsRow_nil _ _ _ _, Keep.refl _ _⟩)
  · refine ew_cond_t rfl (decide_eq_true (by omega)) ?_
    refine gp rfl ?_
    refine el_slice_to (e := 5) (m := 0) rfl rfl rfl rfl rfl rfl rfl (by omega) ?_
    refine pp rfl ?_
    refine el_append_zeros (n := n) (z := .int .u8 0) (size := 1) (bytes := 1) rfl rfl rfl rfl info_u8 rfl rfl rfl rfl rfl (by omega) (by unfold maxLen; omega) (by omega) ?_
    intro b cap cur w' hb hk hblk hsz hc hm
    refine pp rfl ?_
    refine el_slice_to (e := 5) (m := 0) rfl rfl rfl rfl rfl rfl rfl (by omega) ?_
    refine ep rfl ?_
    refine es rfl ?_
    refine ew_ret (ret_1 (.slice (some ⟨b, 0, none⟩) 0 cap) rfl rfl rfl rfl ⟨⟨rfl, .inr ⟨b, cap, cur, rfl, by omega, hblk, Nat.zero_le _, hm, hsz, rfl⟩⟩, hk⟩)

theorem info_bs : (Try.prog.info? 23).map (fun i => (i.zero, i.size, i.bytes)) = some (some (.slice none 0 0), 1, 24) := by kernel_rfl

/-- v is a slice of slices of bytes, which read as bss. -/
def RdBB (w : World) (v : Value) (bss : List (List UInt8)) : Prop := ∃ vs : List Value, Rd w v bss.length vs ∧ vs.length = bss.length ∧ ∀ (j : Nat) (bs : List UInt8), bss[j]? = some bs → ∃ u : Value, vs[j]? = some u ∧ RdB w u bs

def sumL (bss : List (List UInt8)) : Nat := (bss.map List.length).sum
theorem sumL_take {bss : List (List UInt8)} {j : Nat} {bs : List UInt8} (h : bss[j]? = some bs) : sumL (bss.take (j + 1)) = sumL (bss.take j) + bs.length := by
  unfold sumL
  rw [List.take_add_one, h]
  simp
theorem sumL_le (bss : List (List UInt8)) (j : Nat) : sumL (bss.take j) ≤ sumL bss := by
  unfold sumL
  conv => rhs; rw [← List.take_append_drop j bss, List.map_append, List.sum_append]
  omega
theorem sumL_flatten (bss : List (List UInt8)) : bss.flatten.length = sumL bss := by simp [sumL]
theorem flat_take {bss : List (List UInt8)} {j : Nat} {bs : List UInt8} (h : bss[j]? = some bs) : (bss.take (j + 1)).flatten = (bss.take j).flatten ++ bs := by
  rw [List.take_add_one, h]
  simp

theorem concat_ok (v : Value) (bss : List (List UInt8)) (w : World) (hv : RdBB w v bss) (hl : sumL bss ≤ 70368744177664) (hn : bss.length ≤ 9223372036854775807) :
    Fn Try.prog 88 [v] w fun v' w' => OwnB 5 w' w.heap.size v' bss.flatten ∧ Keep [] w w' := by
  obtain ⟨vs, hr, hvl, he⟩ := hv
  obtain ⟨ad, cap, rfl, hc⟩ := hr.slice
  refine fn_enter Try.func88 rfl rfl ?_
  refine es rfl ?_
  refine es rfl ?_
  refine ew_seq (es rfl ?_)
  refine ew_block ?_
  refine ew_loop (α := Nat) (fun j => [(0, .slice ad bss.length cap), (3, .int .i64 (sumL (bss.take j) : Int)), (9, .slice ad bss.length cap), (10, .int .i64 (bss.length : Int)), (11, .int .i64 (j : Int))])
    (fun j w' => j ≤ bss.length ∧ w' = w) (fun j => bss.length - j) 0 ⟨rfl, rfl, rfl, rfl, rfl, trivial⟩ ⟨Nat.zero_le _, rfl⟩ ?_
  rintro j ρ w1 hd ⟨hj, rfl⟩
  refine es rfl ?_
  have hsum := sumL_le bss j
  by_cases hlt : j < bss.length
  · refine ew_seq (ew_cond_t rfl (decide_eq_true (by omega)) ?_)
    refine ew_skip ?_
    refine ew_seq (ew_block ?_)
    obtain ⟨bs, hbs⟩ : ∃ bs, bss[j]? = some bs := ⟨_, List.getElem?_eq_getElem hlt⟩
    obtain ⟨u, hu, hru⟩ := he j bs hbs
    obtain ⟨a, cap', hq, hcell⟩ := hr.at_ j u hu
    injection hq with e1 e2 e3
    subst e1
    subst e3
    have hst := sumL_take hbs
    have hle := sumL_le bss (j + 1)
    refine sp rfl ?_
    refine el_index (e := 23) (j := j) (p := j) rfl rfl rfl rfl rfl rfl hlt (Nat.mul_one j) rfl ?_
    refine el_load rfl rfl rfl rfl rfl hcell ?_
    obtain ⟨ad2, cap2, rfl, hc2⟩ := hru.slice
    refine ep rfl ?_
    refine es rfl ?_
    refine ew_as (v' := .int .i64 (sumL (bss.take (j + 1)) : Int)) (int_eq (by rw [hst, wrap_i64 (by omega) (by omega)]; omega)) ?_
    refine es rfl ?_
    refine ew_cond_f rfl (decide_eq_false (by omega)) ?_
    refine ew_skip ?_
    refine eg rfl ?_
    exact ⟨hd, j + 1, ⟨rfl, rfl, rfl, rfl, int_eq (by rw [wrap_i64 (by omega) (by omega)]; omega), trivial⟩, ⟨by omega, rfl⟩, by omega⟩
  · obtain rfl : j = bss.length := by omega
    rw [List.take_length]
    refine ew_seq (ew_cond_f rfl (decide_eq_false (by omega)) ?_)
    refine ew_exit ?_
    refine sp rfl ?_
    refine el_call rfl rfl rfl rfl rfl rfl (grow_ok (sumL bss) w1 hl) ?_
    rintro v' w2 ⟨hown, hk⟩
    refine ep rfl ?_
    refine ew_seq (es rfl (ew_block ?_))
    refine ew_loop (α := Nat × Value) (fun x => [(6, x.2), (25, .slice ad bss.length cap), (26, .int .i64 (bss.length : Int)), (27, .int .i64 (x.1 : Int))])
      (fun x w' => x.1 ≤ bss.length ∧ OwnB 5 w' w1.heap.size x.2 (bss.take x.1).flatten ∧ Keep [] w1 w') (fun x => bss.length - x.1) (0, v') ⟨rfl, rfl, rfl, rfl, trivial⟩ ⟨Nat.zero_le _, hown, hk⟩ ?_
    rintro ⟨j, v2⟩ ρ w3 hd2 ⟨hj, hown2, hk2⟩
    dsimp only at hj hown2 hk2
    refine es rfl ?_
    by_cases hlt : j < bss.length
    · refine ew_seq (ew_cond_t rfl (decide_eq_true (by omega)) ?_)
      refine ew_skip ?_
      refine ew_seq (ew_block ?_)
      obtain ⟨bs, hbs⟩ : ∃ bs, bss[j]? = some bs := ⟨_, List.getElem?_eq_getElem hlt⟩
      obtain ⟨u, hu, hru⟩ := he j bs hbs
      have hst := sumL_take hbs
      have hle := sumL_le bss (j + 1)
      have hle2 := sumL_flatten (bss.take j)
      obtain ⟨a, cap', hq, hcell⟩ := (hr.keep0 hk2).at_ j u hu
      injection hq with e1 e2 e3
      subst e1
      subst e3
      refine sp rfl ?_
      refine el_index (e := 23) (j := j) (p := j) rfl rfl rfl rfl rfl rfl hlt (Nat.mul_one j) rfl ?_
      refine el_load rfl rfl rfl rfl rfl hcell ?_
      refine ep rfl ?_
      refine gp rfl ?_
      refine el_append (v := v2) (base := w1.heap.size) (z := .int .u8 0) (size := 1) (bytes := 1) (n := (bss.take j).flatten.length) (m := bs.length) (xs := bytesV (bss.take j).flatten) (ys := bytesV bs) rfl rfl rfl info_u8 rfl rfl rfl rfl hown2 (hru.keep0 hk2) (by simp [bytesV_length]) (bytesV_one _) (by unfold maxLen; omega) (by omega) hk2.size ?_
      intro v4 w4 hown4 hg hfr
      refine ep rfl ?_
      refine eg rfl ?_
      refine ⟨hd2, (j + 1, v4), ⟨rfl, rfl, rfl, int_eq (by rw [wrap_i64 (by omega) (by omega)]; omega), trivial⟩, ⟨by omega, ?_, hk2.app hown2 (Nat.le_refl _) hg⟩, by show bss.length - (j + 1) < bss.length - j; omega⟩
      show World.ownsRow _ _ _ _ _ _ _
      rw [flat_take hbs, bytesV_append, List.length_append]
      exact hown4
    · obtain rfl : j = bss.length := by omega
      rw [List.take_length] at hown2
      refine ew_seq (ew_cond_f rfl (decide_eq_false (by omega)) ?_)
      refine ew_exit ?_
      refine es rfl ?_
      refine ew_ret (ret_1 v2 rfl rfl (by exact hd2.trans hd) rfl ⟨hown2, hk2⟩)
end Go.Proofs.Ytpdgfekimnmdnaa
