/- Orders: the law of readings: OrdersReads answers true. -/
import Derived.Test.YtpdgfekimnmdnaaLOrders
set_option linter.unusedVariables false
set_option linter.unusedSimpArgs false
namespace Go.Proofs.Ytpdgfekimnmdnaa
open Go.RowKit
set_option maxRecDepth 20000

abbrev cellsW (x : WorD) (u : Value) : List Value := wordL x.k x.e x.t x.v u x.node x.rk x.re x.rt x.rv x.well
theorem row_cells {W : World} {base g cap : Nat} {bs : List UInt8} (h : OwnB 5 W base (.slice (some ⟨g, 0, none⟩) (bs ++ [77]).length cap) (bs ++ [77])) : ∃ cs, Blk W g 5 cs ∧ ∀ j, j < bs.length → ∃ c, cs[j]? = some (.int .u8 c) := by
  rcases h.2 with ⟨hx, hn⟩ | ⟨gb, cap7, cur, e1, e2, e3, e4, e5, e6, e7⟩
  · simp at hn
  · injection e1 with e1 _ _
    injection e1 with e1
    injection e1 with e1
    subst e1
    refine ⟨cur, e3, fun j hj => ?_⟩
    have hjl : j < (bs ++ [77]).length := by simp; omega
    have h1 : (cur.toList.take ((bs ++ [77]).length * 1))[j]? = (bytesV (bs ++ [77]))[j]? := by rw [e7]
    rw [List.getElem?_take, if_pos (by omega)] at h1
    refine ⟨((bs ++ [77])[j].toNat : Int), ?_⟩
    rw [← Array.getElem?_toList, h1]
    rw [bytesV, List.getElem?_map, List.getElem?_eq_getElem hjl]
    rfl
set_option maxHeartbeats 8000000 in
theorem OrdersReads_ok (v : Value) (bs : List UInt8) (w : World) (hv : RdB w v bs) (hl : bs.length ≤ maxLen) : Fn Try.prog 5 [v] w fun r w' => r = .bool true ∧ Keep [] w w' := by
  obtain ⟨⟨x, e⟩, hR⟩ : ∃ s, readR bs = s := ⟨_, rfl⟩
  obtain ⟨⟨z, ez⟩, hO⟩ : ∃ s, readOR bs = s := ⟨_, rfl⟩
  obtain ⟨⟨zt, et⟩, hT⟩ : ∃ s, readTR bs = s := ⟨_, rfl⟩
  obtain ⟨ad, cap, rfl, hc⟩ := hv.slice
  have hlx : bs.length ≤ 9223372036854775807 := by unfold maxLen at hl; omega
  refine fn_enter Try.func5 rfl rfl ?_
  refine es rfl ?_
  refine ew_seq (spn 3 rfl ?_)
  by_cases hb : bs.length > 500
  · refine el_as (v' := .bool true) (bool_eq (decide_eq_true (by omega))) ?_
    refine ep rfl ?_
    refine ew_cond_t rfl rfl ?_
    refine sp rfl ?_
    refine el_call rfl rfl rfl rfl rfl rfl (works_ok w) ?_
    rintro _ w3 ⟨rfl, k⟩
    refine ep rfl ?_
    exact ew_ret (ret_1 (.bool true) rfl rfl rfl rfl ⟨rfl, k⟩)
  refine el_as (v' := .bool false) (bool_eq (decide_eq_false (by omega))) ?_
  refine ep rfl ?_
  refine ew_cond_f rfl rfl ?_
  refine ew_skip ?_
  refine sp rfl ?_
  refine el_bslice (z := .int .u8 0) (bytes := 1) (vs := []) rfl rfl rfl info_u8 rfl rfl rfl ?_
  intro p0 w1 hp0 hp0' kw hB0
  have hp0w : w.heap.size ≤ p0 := by omega
  have own0 : World.ownsRow w1 w.heap.size 5 1 (.slice (some ⟨p0, 0, none⟩) 0 0) 0 [] := ⟨rfl, .inr ⟨p0, 0, #[], rfl, hp0w, hB0, Nat.le_refl _, Nat.zero_le _, rfl, rfl⟩⟩
  refine pp rfl ?_
  refine el_append (v := .slice (some ⟨p0, 0, none⟩) 0 0) (base := w.heap.size) (z := .int .u8 0) (size := 1) (bytes := 1) (n := 0) (m := bs.length) (xs := []) (ys := bytesV bs) rfl rfl rfl info_u8 rfl rfl rfl rfl own0 (hv.keep0 kw) (by simp [bytesV_length]) (bytesV_one _) (by unfold maxLen; omega) (by omega) kw.size ?_
  intro v1 w2 ho1 hgr1 _
  have ho1 : OwnB 5 w2 w.heap.size v1 bs := by simpa using ho1
  have kk : Keep [p0] w1 w2 := Keep.of_grown hgr1 (fun b hb _ => by simp [Value.ownBlock] at hb; simp [hb])
  have kw := kw.trans kk (by simp; omega)
  refine el_bslice (z := .int .u8 0) (bytes := 1) (vs := bytesV [77]) rfl rfl rfl info_u8 rfl rfl rfl ?_
  intro p4 w3 hp4 hp4' kk hB4
  have hp4w : w.heap.size ≤ p4 := by have := kw.size; omega
  have ho1 := own_keep ho1 kk (by simp)
  have kw := kw.trans0 kk
  have hr4 : Rd w3 (.slice (some ⟨p4, 0, none⟩) 1 1) 1 (bytesV [77]) := Rd.of_own (own_of_blk (bs := [77]) hB4 hp4w (by unfold maxLen; simp))
  refine el_append (v := v1) (base := w.heap.size) (z := .int .u8 0) (size := 1) (bytes := 1) (n := bs.length) (m := 1) (xs := bytesV bs) (ys := bytesV [77]) rfl rfl rfl info_u8 rfl rfl rfl rfl ho1 hr4 (by simp [bytesV_length]) (bytesV_one _) (by unfold maxLen; omega) (by omega) kw.size ?_
  intro v5 w4 ho5 hgr5 _
  have own5 : OwnB 5 w4 w.heap.size v5 (bs ++ [77]) := by
    show World.ownsRow _ _ _ _ _ _ _
    rw [bytesV_append, List.length_append]
    exact ho5
  have kk : Keep v1.ownBlock.toList w3 w4 := Keep.of_grown hgr5 (fun b hb _ => by simp [hb])
  have kw := kw.trans kk (fun b hb hlt => by have := ho1.lt b (by simpa using hb); omega)
  obtain ⟨ad5, cap5, rfl, hc5⟩ := own_slice own5
  obtain ⟨g, hg⟩ : ∃ g, ad5 = some ⟨g, 0, none⟩ := by
    rcases own5.2 with ⟨hx, hn⟩ | ⟨g, cap6, cur, hx, _⟩
    · simp at hn
    · injection hx with hx _ _
      exact ⟨g, hx⟩
  subst hg
  have hcap5 : bs.length + 1 ≤ cap5 := by simpa using hc5
  have hgw := own5.lt g rfl
  refine pp rfl ?_
  refine el_slice_to (e := 5) (m := bs.length) rfl rfl rfl rfl rfl rfl rfl (by omega) ?_
  refine ep rfl ?_
  have cut : ∀ {W : World}, OwnB 5 W w.heap.size (.slice (some ⟨g, 0, none⟩) (bs ++ [77]).length cap5) (bs ++ [77]) → RdB W (.slice (some ⟨g, 0, none⟩) bs.length cap5) bs := fun h => by
    have := Rd.take (Rd.of_own h) (show bs.length ≤ cap5 by omega)
    have ee : (bytesV (bs ++ [77])).take bs.length = bytesV bs := by simp [bytesV]
    rw [ee] at this
    exact this
  refine sp rfl ?_
  refine el_call rfl rfl rfl rfl rfl rfl (Read_ok _ bs w4 (cut own5) (by omega)) ?_
  intro rv w5 hq
  unfold ReadQ at hq
  rw [hR] at hq
  obtain ⟨u4, rfl, hu4, kk⟩ := hq
  obtain ⟨base4, hbase4⟩ : ∃ b, w4.heap.size = b := ⟨_, rfl⟩
  rw [hbase4] at hu4
  dsimp only at hu4
  obtain ⟨ad4, cap4, rfl, hc4⟩ := own_slice hu4
  have own5 := own_keep own5 kk (by simp)
  have kw := kw.trans0 kk
  refine pp rfl ?_
  refine el_alloc (z := wordZ) zeroA rfl rfl rfl rfl ?_
  intro b4 w6 hb4 hb4' kk h4
  have hwb4 : w.heap.size ≤ b4 := by have := kw.size; omega
  have hgb4 : g < b4 := by have := own5.lt g rfl; omega
  have hu4 := own_keep hu4 kk (by simp)
  have own5 := own_keep own5 kk (by simp)
  have kw := kw.trans0 kk
  refine el_store (b := b4) (off := 0) (cellsW x (.slice ad4 x.bundle.length cap4)).toArray rfl rfl rfl rfl rfl rfl rfl rfl h4 rfl rfl ?_
  intro w7 kk hs h4'
  have hu4 := own_keep hu4 kk (own_ne hu4 h4 (by decide))
  have own5 := own_keep own5 kk (own_ne own5 h4 (by decide))
  have kw := kw.trans kk (by simp; omega)
  refine ep rfl ?_
  refine sp rfl ?_
  refine el_call rfl rfl rfl rfl rfl rfl (ReadOrder_ok _ bs w7 (cut own5) (by omega)) ?_
  intro rv w8 hq
  rw [hO] at hq
  obtain ⟨u6, rfl, hu6, kk⟩ := hq
  obtain ⟨base6, hbase6⟩ : ∃ b, w7.heap.size = b := ⟨_, rfl⟩
  rw [hbase6] at hu6
  dsimp only at hu6
  obtain ⟨ad6, cap6, rfl, hc6⟩ := own_slice hu6
  have h4' := kk.blk h4' (by simp)
  have hu4 := own_keep hu4 kk (by simp)
  have own5 := own_keep own5 kk (by simp)
  have kw := kw.trans0 kk
  have hgb6 : g < base6 := by omega
  refine pp rfl ?_
  refine el_alloc (z := ordZ) (ordL 0 0 0 0 (.slice none 0 0)).toArray rfl rfl rfl rfl ?_
  intro b6 w9 hb6 hb6' kk h6
  have hwb6 : w.heap.size ≤ b6 := by have := kw.size; omega
  have hb46 : b4 < b6 := by have := Blk.lt h4'; omega
  have h4' := kk.blk h4' (by simp)
  have hu4 := own_keep hu4 kk (by simp)
  have hu6 := own_keep hu6 kk (by simp)
  have own5 := own_keep own5 kk (by simp)
  have kw := kw.trans0 kk
  refine el_store (b := b6) (off := 0) (ordL z.k z.e z.t z.v (.slice ad6 z.bundle.length cap6)).toArray rfl rfl rfl rfl rfl rfl rfl rfl h6 rfl rfl ?_
  intro w10 kk hs h6'
  have h4' := kk.blk h4' (by simp; omega)
  have hu4 := own_keep hu4 kk (own_ne hu4 h6 (by decide))
  have hu6 := own_keep hu6 kk (own_ne hu6 h6 (by decide))
  have own5 := own_keep own5 kk (own_ne own5 h6 (by decide))
  have kw := kw.trans kk (by simp; omega)
  refine ep rfl ?_
  refine sp rfl ?_
  refine el_call rfl rfl rfl rfl rfl rfl (ReadReport_ok _ bs w10 (cut own5) (by omega)) ?_
  intro rv w11 hq
  rw [hT] at hq
  obtain ⟨rfl, kk⟩ := hq
  have h4' := kk.blk h4' (by simp)
  have h6' := kk.blk h6' (by simp)
  have hu4 := own_keep hu4 kk (by simp)
  have hu6 := own_keep hu6 kk (by simp)
  have own5 := own_keep own5 kk (by simp)
  have kw := kw.trans0 kk
  refine pp rfl ?_
  refine el_alloc (z := repZ) #[.int .i64 0, .int .i64 0, .int .i64 0, .int .i64 0] rfl rfl rfl rfl ?_
  intro b9 w12 hb9 hb9' kk h9
  have hwb9 : w.heap.size ≤ b9 := by have := kw.size; omega
  have hb69 : b6 < b9 := by have := Blk.lt h6'; omega
  have h4' := kk.blk h4' (by simp)
  have h6' := kk.blk h6' (by simp)
  have hu4 := own_keep hu4 kk (by simp)
  have hu6 := own_keep hu6 kk (by simp)
  have own5 := own_keep own5 kk (by simp)
  have kw := kw.trans0 kk
  refine pp rfl ?_
  refine el_store (b := b9) (off := 0) #[.int .i64 zt.rk, .int .i64 zt.re, .int .i64 zt.rt, .int .i64 zt.rv] rfl rfl rfl rfl rfl rfl rfl rfl h9 rfl rfl ?_
  intro w13 kk hs h9'
  have h4' := kk.blk h4' (by simp; omega)
  have h6' := kk.blk h6' (by simp; omega)
  have hu4 := own_keep hu4 kk (own_ne hu4 h9 (by decide))
  have hu6 := own_keep hu6 kk (own_ne hu6 h9 (by decide))
  have own5 := own_keep own5 kk (own_ne own5 h9 (by decide))
  have kw := kw.trans kk (by simp; omega)
  refine ep rfl ?_
  refine sp rfl ?_
  refine el_str rfl rfl rfl rfl rfl rfl (cut own5) ?_
  refine pp rfl ?_
  refine el_str rfl rfl rfl rfl rfl rfl (hv.keep0 kw) ?_
  refine el_streq true (by simp) rfl rfl rfl rfl ?_
  refine ppn 5 rfl ?_
  refine el_as (v' := .int .i64 ((bs.length : Int) + 1)) (int_eq (wrap_i64 (by omega) (by omega))) ?_
  refine el_slice_to (e := 5) (m := bs.length + 1) rfl rfl rfl rfl rfl rfl rfl (by omega) ?_
  refine pp rfl ?_
  refine el_index (e := 5) (j := bs.length) (p := bs.length * 1) rfl rfl rfl rfl rfl rfl (by omega) rfl rfl ?_
  refine el_load rfl rfl rfl rfl rfl (last_cell (Rd.of_own own5)) ?_
  refine ep rfl ?_
  refine ew_seq ?_
  refine es rfl ?_
  refine ew_block ?_
  refine ew_loop (α := Nat) (fun k => [(0, .slice ad bs.length cap), (3, .slice (some ⟨g, 0, none⟩) bs.length cap5), (4, .pointer (some ⟨b4, 0, none⟩)), (5, .int .i64 e), (6, .pointer (some ⟨b6, 0, none⟩)), (7, .int .i64 ez), (8, .int .i64 zt.node), (9, .pointer (some ⟨b9, 0, none⟩)), (10, .bool zt.well), (11, .int .i64 et), (12, .bool true), (13, .int .i64 (k : Int))])
    (fun k w' => k ≤ bs.length ∧ Keep [g] w13 w' ∧ ∃ cs, Blk w' g 5 cs ∧ ∀ j, j < bs.length → ∃ c, cs[j]? = some (.int .u8 c)) (fun k => bs.length - k)
    0 ⟨rfl, rfl, rfl, rfl, rfl, rfl, rfl, rfl, rfl, rfl, rfl, rfl, trivial⟩ ⟨Nat.zero_le _, Keep.refl _ _, row_cells own5⟩ ?_
  rintro k ρ9 w14 hd9 ⟨hk, kl, cs1, a4, a5⟩
  refine ew_seq (es rfl ?_)
  by_cases hkn : k < bs.length
  · refine ew_cond_t rfl (decide_eq_true (by omega)) ?_
    refine ew_skip ?_
    have hq := a5 k hkn
    obtain ⟨c, hc⟩ := hq
    have hks : k < cs1.size := (Array.getElem?_eq_some_iff.1 hc).1
    have hce : w14.cell? ((⟨g, 0, none⟩ : Addr).add k) = some (.int .u8 c) := by
      rw [add_lit, Blk.cell a4, Nat.zero_add]
      exact hc
    refine ew_seq (ew_block ?_)
    refine gp rfl ?_
    refine el_index (e := 5) (j := k) (p := k) rfl rfl rfl rfl rfl rfl hkn (Nat.mul_one _) rfl ?_
    refine el_load rfl rfl rfl rfl rfl hce ?_
    refine pp rfl ?_
    refine el_index (e := 5) (j := k) (p := k) rfl rfl rfl rfl rfl rfl hkn (Nat.mul_one _) rfl ?_
    refine el_store (off := 0 + k) (vs := [.int .u8 (IntKind.wrap .u8 (c + 1))]) (setL cs1 (0 + k) [.int .u8 (IntKind.wrap .u8 (c + 1))]) rfl rfl (congrArg (fun z => Value.pointer (some z)) (add_lit g 0 k)) rfl rfl rfl rfl rfl a4 (Nat.ble_eq_true_of_le (by simp; omega)) rfl ?_
    intro w15 kk hs15 hb15
    refine ep rfl ?_
    refine eg rfl ?_
    refine ⟨by exact hd9, k + 1, ⟨rfl, rfl, rfl, rfl, rfl, rfl, rfl, rfl, rfl, rfl, rfl, int_eq (by rw [wrap_i64 (by omega) (by omega)]; omega), trivial⟩, ⟨hkn, kl.trans kk (by simp), _, hb15, fun j hj => ?_⟩, by omega⟩
    rw [Nat.zero_add, setL_get hks]
    by_cases e : j = k
    · exact ⟨_, by rw [if_pos e]⟩
    · rw [if_neg e]
      exact a5 j hj
  · refine ew_cond_f rfl (decide_eq_false (by omega)) ?_
    refine ew_exit ?_
    have hds := hd9
    have kk := kl
    have h4' := kk.blk h4' (by simp; omega)
    have h6' := kk.blk h6' (by simp; omega)
    have h9' := kk.blk h9' (by simp; omega)
    have hu4 := own_keep hu4 kk (fun b hb => by have := (hu4.lt b hb).1; simp; omega)
    have hu6 := own_keep hu6 kk (fun b hb => by have := (hu6.lt b hb).1; simp; omega)
    have kw := kw.trans kk (by simp; omega)
    have hv14 := hv.keep0 kw
    refine sp rfl ?_
    refine el_call rfl rfl rfl rfl rfl rfl (refRead_ok _ bs w14 hv14 (by omega)) ?_
    rintro _ w15 ⟨u14, rfl, hu14, _, kk⟩
    rw [hR] at hu14 ⊢
    dsimp only at hu14
    have hq := hu14.slice
    obtain ⟨ad14, cap14, rfl, hc14⟩ := hq
    have h4' := kk.blk h4' (by simp)
    have h6' := kk.blk h6' (by simp)
    have h9' := kk.blk h9' (by simp)
    have hu4 := own_keep hu4 kk (by simp)
    have hu6 := own_keep hu6 kk (by simp)
    have kw := kw.trans0 kk
    refine pp rfl ?_
    refine el_alloc (z := wordZ) zeroA rfl rfl rfl rfl ?_
    intro b14 w16 hb14 hb14' kk h14
    have hwb14 : w.heap.size ≤ b14 := by have := kw.size; omega
    have hlt14 : ∀ {b}, x.bundle ≠ [] → (Value.slice ad14 x.bundle.length cap14).ownBlock = some b → b < b14 := fun hne hb => by have := RdB.lt hu14 hne hb; omega
    have hb914 : b9 < b14 := by have := Blk.lt h9'; omega
    have h4' := kk.blk h4' (by simp)
    have h6' := kk.blk h6' (by simp)
    have h9' := kk.blk h9' (by simp)
    have hu4 := own_keep hu4 kk (by simp)
    have hu6 := own_keep hu6 kk (by simp)
    have hu14 := hu14.keep0 kk
    have kw := kw.trans0 kk
    refine el_store (b := b14) (off := 0) (cellsW x (.slice ad14 x.bundle.length cap14)).toArray rfl rfl rfl rfl rfl rfl rfl rfl h14 rfl rfl ?_
    intro w17 kk hs h14'
    have h4' := kk.blk h4' (by simp; omega)
    have h6' := kk.blk h6' (by simp; omega)
    have h9' := kk.blk h9' (by simp; omega)
    have hu4 := own_keep hu4 kk (own_ne hu4 h14 (by decide))
    have hu6 := own_keep hu6 kk (own_ne hu6 h14 (by decide))
    have hu14 : RdB w17 (.slice ad14 x.bundle.length cap14) x.bundle := Rd.keepx hu14 kk (fun hne b hb => by have := hlt14 hne hb; simp; omega)
    have kw := kw.trans kk (by simp; omega)
    have hv17 := hv.keep0 kw
    refine ep rfl ?_
    refine sp rfl ?_
    refine el_call rfl rfl rfl rfl rfl rfl (refReadOrder_ok _ bs w17 hv17 (by omega)) ?_
    rintro _ w18 ⟨u16, rfl, hu16, kk⟩
    rw [hO] at hu16 ⊢
    dsimp only at hu16
    have hq := hu16.slice
    obtain ⟨ad16, cap16, rfl, hc16⟩ := hq
    have h4' := kk.blk h4' (by simp)
    have h6' := kk.blk h6' (by simp)
    have h9' := kk.blk h9' (by simp)
    have h14' := kk.blk h14' (by simp)
    have hu4 := own_keep hu4 kk (by simp)
    have hu6 := own_keep hu6 kk (by simp)
    have hu14 := hu14.keep0 kk
    have kw := kw.trans0 kk
    refine pp rfl ?_
    refine el_alloc (z := ordZ) (ordL 0 0 0 0 (.slice none 0 0)).toArray rfl rfl rfl rfl ?_
    intro b16 w19 hb16 hb16' kk h16
    have hwb16 : w.heap.size ≤ b16 := by have := kw.size; omega
    have hb1416 : b14 < b16 := by have := Blk.lt h14'; omega
    have hlt16 : ∀ {b}, z.bundle ≠ [] → (Value.slice ad16 z.bundle.length cap16).ownBlock = some b → b < b16 := fun hne hb => by have := RdB.lt hu16 hne hb; omega
    have h4' := kk.blk h4' (by simp)
    have h6' := kk.blk h6' (by simp)
    have h9' := kk.blk h9' (by simp)
    have h14' := kk.blk h14' (by simp)
    have hu4 := own_keep hu4 kk (by simp)
    have hu6 := own_keep hu6 kk (by simp)
    have hu14 := hu14.keep0 kk
    have hu16 := hu16.keep0 kk
    have kw := kw.trans0 kk
    refine el_store (b := b16) (off := 0) (ordL z.k z.e z.t z.v (.slice ad16 z.bundle.length cap16)).toArray rfl rfl rfl rfl rfl rfl rfl rfl h16 rfl rfl ?_
    intro w20 kk hs h16'
    have h4' := kk.blk h4' (by simp; omega)
    have h6' := kk.blk h6' (by simp; omega)
    have h9' := kk.blk h9' (by simp; omega)
    have h14' := kk.blk h14' (by simp; omega)
    have hu4 := own_keep hu4 kk (own_ne hu4 h16 (by decide))
    have hu6 := own_keep hu6 kk (own_ne hu6 h16 (by decide))
    have hu14 : RdB w20 (.slice ad14 x.bundle.length cap14) x.bundle := Rd.keepx hu14 kk (fun hne b hb => by have := hlt14 hne hb; simp; omega)
    have hu16 : RdB w20 (.slice ad16 z.bundle.length cap16) z.bundle := Rd.keepx hu16 kk (fun hne b hb => by have := hlt16 hne hb; simp; omega)
    have kw := kw.trans kk (by simp; omega)
    have hv20 := hv.keep0 kw
    refine ep rfl ?_
    refine sp rfl ?_
    refine el_call rfl rfl rfl rfl rfl rfl (refReadReport_ok _ bs w20 hv20 (by omega)) ?_
    rintro _ w21 ⟨rfl, kk⟩
    rw [hT]
    have h4' := kk.blk h4' (by simp)
    have h6' := kk.blk h6' (by simp)
    have h9' := kk.blk h9' (by simp)
    have h14' := kk.blk h14' (by simp)
    have h16' := kk.blk h16' (by simp)
    have hu4 := own_keep hu4 kk (by simp)
    have hu6 := own_keep hu6 kk (by simp)
    have hu14 := hu14.keep0 kk
    have hu16 := hu16.keep0 kk
    have kw := kw.trans0 kk
    refine pp rfl ?_
    refine el_alloc (z := .agg #[.int .i64 0, .int .i64 0, .int .i64 0, .int .i64 0, .int .i64 0, .bool false]) (tolL 0 0 0 0 0 false).toArray rfl rfl rfl rfl ?_
    intro b18 w22 hb18 hb18' kk h18
    have hwb18 : w.heap.size ≤ b18 := by have := kw.size; omega
    have hb1618 : b16 < b18 := by have := Blk.lt h16'; omega
    have h4' := kk.blk h4' (by simp)
    have h6' := kk.blk h6' (by simp)
    have h9' := kk.blk h9' (by simp)
    have h14' := kk.blk h14' (by simp)
    have h16' := kk.blk h16' (by simp)
    have hu4 := own_keep hu4 kk (by simp)
    have hu6 := own_keep hu6 kk (by simp)
    have hu14 := hu14.keep0 kk
    have hu16 := hu16.keep0 kk
    have kw := kw.trans0 kk
    refine el_store (b := b18) (off := 0) (tolL zt.node zt.rk zt.re zt.rt zt.rv zt.well).toArray rfl rfl rfl rfl rfl rfl rfl rfl h18 rfl rfl ?_
    intro w23 kk hs h18'
    have h4' := kk.blk h4' (by simp; omega)
    have h6' := kk.blk h6' (by simp; omega)
    have h9' := kk.blk h9' (by simp; omega)
    have h14' := kk.blk h14' (by simp; omega)
    have h16' := kk.blk h16' (by simp; omega)
    have hu4 := own_keep hu4 kk (own_ne hu4 h18 (by decide))
    have hu6 := own_keep hu6 kk (own_ne hu6 h18 (by decide))
    have hu14 : RdB w23 (.slice ad14 x.bundle.length cap14) x.bundle := Rd.keepx hu14 kk (fun hne b hb => by have := hlt14 hne hb; simp; omega)
    have hu16 : RdB w23 (.slice ad16 z.bundle.length cap16) z.bundle := Rd.keepx hu16 kk (fun hne b hb => by have := hlt16 hne hb; simp; omega)
    have kw := kw.trans kk (by simp; omega)
    have hr4 : RdB w23 (.slice ad4 x.bundle.length cap4) x.bundle := Rd.of_own hu4
    have hr6 : RdB w23 (.slice ad6 z.bundle.length cap6) z.bundle := Rd.of_own hu6
    refine ep rfl ?_
    refine sp rfl ?_
    refine el_loada (vs := cellsW x (.slice ad4 x.bundle.length cap4)) rfl rfl rfl rfl rfl rfl h4' rfl ?_
    refine el_loada (vs := cellsW x (.slice ad14 x.bundle.length cap14)) rfl rfl rfl rfl rfl rfl h14' rfl ?_
    refine el_call rfl rfl rfl rfl rfl rfl (refSame_ok x x _ _ _ hr4 hu14) ?_
    rintro _ w24 ⟨rfl, kk⟩
    rw [(WorD.same_iff x x).2 rfl]
    have h6' := kk.blk h6' (by simp)
    have h9' := kk.blk h9' (by simp)
    have h16' := kk.blk h16' (by simp)
    have h18' := kk.blk h18' (by simp)
    have hr6 := hr6.keep0 kk
    have hu16 := hu16.keep0 kk
    have kw := kw.trans0 kk
    refine pp rfl ?_
    refine el_call rfl rfl rfl rfl rfl rfl (num_ok _ _) ?_
    rintro _ _ ⟨rfl, rfl⟩
    refine ppn 1 rfl ?_
    refine el_eqi (a := e) (b := e) (k := .i64) true (by simp) rfl rfl rfl rfl ?_
    refine pp rfl ?_
    refine el_loada (vs := ordL z.k z.e z.t z.v (.slice ad6 z.bundle.length cap6)) rfl rfl rfl rfl rfl rfl h6' rfl ?_
    refine el_loada (vs := ordL z.k z.e z.t z.v (.slice ad16 z.bundle.length cap16)) rfl rfl rfl rfl rfl rfl h16' rfl ?_
    refine el_call rfl rfl rfl rfl rfl rfl (SameOrder_ok z.k z.e z.t z.v _ z.bundle z.k z.e z.t z.v _ z.bundle _ hr6 hu16) ?_
    rintro _ w25 ⟨rfl, kk⟩
    rw [same_self]
    have h9' := kk.blk h9' (by simp)
    have h18' := kk.blk h18' (by simp)
    have kw := kw.trans0 kk
    refine pp rfl ?_
    refine el_call rfl rfl rfl rfl rfl rfl (num_ok _ _) ?_
    rintro _ _ ⟨rfl, rfl⟩
    refine ppn 1 rfl ?_
    refine el_eqi (a := ez) (b := ez) (k := .i64) true (by simp) rfl rfl rfl rfl ?_
    refine pp rfl ?_
    refine el_loada (vs := tolL zt.node zt.rk zt.re zt.rt zt.rv zt.well) rfl rfl rfl rfl rfl rfl h18' rfl ?_
    refine pp rfl ?_
    refine el_loada (vs := [.int .i64 zt.rk, .int .i64 zt.re, .int .i64 zt.rt, .int .i64 zt.rv]) rfl rfl rfl rfl rfl rfl h9' rfl ?_
    refine pp rfl ?_
    refine el_build (z := .agg #[.int .i64 0, .int .i64 0, .int .i64 0, .int .i64 0, .int .i64 0, .bool false]) (vs := tolL zt.node zt.rk zt.re zt.rt zt.rv zt.well) rfl rfl rfl rfl rfl rfl ?_
    refine el_eqs true rfl rfl rfl rfl told_guard (told_eqS _ _ _ _ _ _ _ _ _ _ _ _) (eqTol_iff.2 ⟨rfl, rfl, rfl, rfl, rfl, rfl⟩) ?_
    refine pp rfl ?_
    refine el_call rfl rfl rfl rfl rfl rfl (num_ok _ _) ?_
    rintro _ _ ⟨rfl, rfl⟩
    refine ppn 1 rfl ?_
    refine el_eqi (a := et) (b := et) (k := .i64) true (by simp) rfl rfl rfl rfl ?_
    refine pp rfl ?_
    refine el_call rfl rfl rfl rfl rfl rfl (works_ok _) ?_
    rintro _ w26 ⟨rfl, kk⟩
    refine ep rfl ?_
    exact ew_ret (ret_1 (.bool true) rfl rfl (hds.trans rfl) rfl ⟨rfl, kw.trans0 kk⟩)
end Go.Proofs.Ytpdgfekimnmdnaa
