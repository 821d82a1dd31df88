/- Orders: the law of great orders: OrdersLong answers true. -/
import Derived.Test.YtpdgfekimnmdnaaPlainW
set_option linter.unusedVariables false
set_option linter.unusedSimpArgs false
namespace Go.Proofs.Ytpdgfekimnmdnaa
open Go.RowKit
set_option maxRecDepth 20000

theorem made_bytes (n : Nat) : (madeCells (Value.int .u8 0).cells (n * 1)).toList = bytesV (List.replicate n 0) := by
  have h := toList_madeCells_one (Value.int .u8 0) n
  rw [Nat.mul_one]
  show (madeCells #[Value.int .u8 0] n).toList = _
  rw [h]
  simp [bytesV, byteV]
theorem numB_long : numB 80001 = [129, 241, 4] := by
  rw [numB_ge (by decide), numB_ge (by decide), numB_lt (by decide)]
  rfl
theorem numB0 : numB 0 = [0] := numB_lt (by decide)
theorem read_long (Z : List UInt8) : readW ([1, 1, 1, 0, 129, 241, 4] ++ Z) = none := by
  obtain ⟨all, hall⟩ : ∃ all, [1, 1, 1, 0, 129, 241, 4] ++ Z = all := ⟨_, rfl⟩
  have h0 : all.drop 0 = numB (1 : Int).toNat ++ (numB (1 : Int).toNat ++ (numB (1 : Int).toNat ++ (numB (0 : Int).toNat ++ (numB 80001 ++ Z)))) := by
    show all = numB 1 ++ (numB 1 ++ (numB 1 ++ (numB 0 ++ (numB 80001 ++ Z))))
    rw [← hall, numB1, numB0, numB_long]
    rfl
  have d1 := drop_on h0
  have d2 := drop_on d1
  have d3 := drop_on d2
  have d4 := drop_on d3
  rw [hall]
  unfold readW
  rw [stepN_laid (by omega) (by omega) (by omega) h0]
  simp only [Option.bind_some]
  unfold readO
  rw [stepN_laid (by omega) (by omega) (by omega) d1]
  simp only [Option.bind_some]
  rw [stepN_laid (by omega) (by omega) (by omega) d2]
  simp only [Option.bind_some]
  rw [stepN_laid (by omega) (by omega) (by omega) d3]
  simp only [Option.bind_some]
  obtain ⟨a, ha⟩ : ∃ a, 0 + (numB (1 : Int).toNat).length + (numB (1 : Int).toNat).length + (numB (1 : Int).toNat).length + (numB (0 : Int).toNat).length = a := ⟨_, rfl⟩
  rw [ha] at d4 ⊢
  have hb : bytesR (numB 80001 ++ Z) 80000 = ([], 3, 0) := by
    unfold bytesR
    rw [numR_hi (scan_numB 80001 Z (by omega)) (by omega)]
    rfl
  have hy : rdY all a 0 80000 = ([], 3, a, 3) := by
    unfold rdY
    rw [rdStep_go, d4, hb]
    rfl
  have hs := stepY_err hy (by omega)
  rw [if_neg (show ¬ (1 : Int) = 2 by omega), hs]
  rfl
set_option maxHeartbeats 4000000 in
theorem OrdersLong_ok (w : World) : Fn Try.prog 6 [] w fun r w' => r = .bool true ∧ Keep [] w w' := by
  obtain ⟨n, hn⟩ : ∃ n : Nat, n = 80001 := ⟨_, rfl⟩
  obtain ⟨m, hm⟩ : ∃ m : Nat, m = 80000 := ⟨_, rfl⟩
  obtain ⟨Z, hZ, hZn⟩ : ∃ Z : List UInt8, (madeCells (Value.int .u8 0).cells (n * 1)).toList = bytesV Z ∧ Z.length = n := ⟨List.replicate n 0, made_bytes n, List.length_replicate⟩
  obtain ⟨Z8, hZ8⟩ : ∃ Z8, Z.take m = Z8 := ⟨_, rfl⟩
  have hZ8n : Z8.length = m := by rw [← hZ8, List.length_take]; omega
  have hE2 : ordE 1 1 0 0 Z8.length = 0 := ordE_ok (by unfold ordOk; omega) (by omega)
  have hE4 : ordE 1 1 0 0 Z.length = 3 := ordE_long (by unfold ordOk; omega) (by omega)
  have hE6 : ordE 2 1 0 1 Z.length = 2 := ordE_bad (by unfold ordOk; omega)
  have hXE : (WorD.mk 1 1 0 0 Z8 0 0 0 0 0 false).E = 0 := by rw [E_order]; exact hE2
  have hrd : readOR (orderB 1 1 0 0 Z8) = (⟨1, 1, 0, 0, Z8, 0, 0, 0, 0, 0, false⟩, 0) := by
    have h2 := readW_B hXE
    have h3 : (WorD.mk 1 1 0 0 Z8 0 0 0 0 0 false).B = orderB 1 1 0 0 Z8 := by simp [WorD.B]
    rw [h3] at h2
    unfold readOR
    rw [h2]
    rfl
  have hBl : (orderB 1 1 0 0 Z8).length ≤ 80050 := orderB_len (by unfold ordOk; omega) (by omega)
  obtain ⟨B2, hB2⟩ : ∃ B2, orderB 1 1 0 0 Z8 = B2 := ⟨_, rfl⟩
  rw [hB2] at hrd hBl
  have hno := read_long Z
  refine fn_enter Try.func6 rfl rfl ?_
  refine es rfl ?_
  refine sp rfl ?_
  refine el_make (base := 0) (z := .int .u8 0) (n := n) (size := 1) (bytes := 1) rfl rfl rfl info_u8 rfl rfl (by rw [hn]; rfl) (by rw [hn]; rfl) (by omega) (by unfold maxLen; omega) ?_
  intro w1 ho1 kw
  rw [hZ] at ho1
  obtain ⟨b1, hb1⟩ : ∃ b, w.heap.size = b := ⟨_, rfl⟩
  rw [hb1] at ho1 ⊢
  have hz : RdB w1 (.slice (some ⟨b1, 0, none⟩) n n) Z := by
    have := Rd.of_own ho1
    show Rd _ _ Z.length _
    rw [hZn]
    exact this
  have hz8 : RdB w1 (.slice (some ⟨b1, 0, none⟩) m n) Z8 := by
    have := Rd.take (Rd.of_own ho1) (show m ≤ n by omega)
    show Rd _ _ Z8.length _
    rw [hZ8n, ← hZ8]
    have e : bytesV (Z.take m) = (bytesV Z).take m := by simp [bytesV, List.map_take]
    rw [e]
    exact this
  refine ep rfl ?_
  refine sp rfl ?_
  refine el_slice_to (e := 5) (m := m) rfl rfl rfl rfl rfl rfl (by rw [hm]; rfl) (by omega) ?_
  refine el_build (z := ordZ) (vs := ordL 1 1 0 0 (.slice (some ⟨b1, 0, none⟩) m n)) rfl rfl rfl rfl rfl rfl ?_
  refine el_call rfl rfl rfl rfl rfl rfl (Order_ok 1 1 0 0 _ Z8 w1 hz8 (by unfold maxLen; omega)) ?_
  rintro _ w2 ⟨y2, rfl, hy2, kk⟩
  rw [hE2] at hy2 ⊢
  rw [if_pos rfl, hB2] at hy2
  have hz := hz.keep0 kk
  have kw := kw.trans0 kk
  refine ep rfl ?_
  refine sp rfl ?_
  refine el_build (z := ordZ) (vs := ordL 1 1 0 0 (.slice (some ⟨b1, 0, none⟩) n n)) rfl rfl rfl rfl rfl rfl ?_
  refine el_call rfl rfl rfl rfl rfl rfl (Order_ok 1 1 0 0 _ Z w2 hz (by unfold maxLen; omega)) ?_
  rintro _ w3 ⟨y4, rfl, hy4, kk⟩
  rw [hE4]
  have hz := hz.keep0 kk
  have hy2 := own_keep hy2 kk (by simp)
  have kw := kw.trans0 kk
  refine ep rfl ?_
  refine sp rfl ?_
  refine el_build (z := ordZ) (vs := ordL 2 1 0 1 (.slice (some ⟨b1, 0, none⟩) n n)) rfl rfl rfl rfl rfl rfl ?_
  refine el_call rfl rfl rfl rfl rfl rfl (Order_ok 2 1 0 1 _ Z w3 hz (by unfold maxLen; omega)) ?_
  rintro _ w4 ⟨y6, rfl, hy6, kk⟩
  rw [hE6]
  have hz := hz.keep0 kk
  have hy2 := own_keep hy2 kk (by simp)
  have kw := kw.trans0 kk
  refine ep rfl ?_
  refine sp rfl ?_
  refine el_call rfl rfl rfl rfl rfl rfl (ReadOrder_ok y2 B2 w4 (Rd.of_own hy2) (by omega)) ?_
  intro rv w5 hq
  rw [hrd] at hq
  obtain ⟨u, rfl, hu, kk⟩ := hq
  dsimp only at hu
  obtain ⟨adu, capu, rfl, hcu⟩ := own_slice hu
  have hz := hz.keep0 kk
  have kw := kw.trans0 kk
  refine pp rfl ?_
  refine el_alloc (z := ordZ) (ordL 0 0 0 0 (.slice none 0 0)).toArray rfl rfl rfl rfl ?_
  intro b8 w6 hb8 hb8' kk h8
  have hw8 : w.heap.size ≤ b8 := by have := kw.size; omega
  have hb18 : b1 < b8 := by
    have hne : Z ≠ [] := fun h => by
      rw [h] at hZn
      simp at hZn
      omega
    have := RdB.lt (w := w5) (bs := Z) hz hne (b := b1) rfl
    omega
  have hz := hz.keep0 kk
  have kw := kw.trans0 kk
  refine el_store (b := b8) (off := 0) (ordL 1 1 0 0 (.slice adu Z8.length capu)).toArray rfl rfl rfl rfl rfl rfl rfl rfl h8 rfl rfl ?_
  intro w7 kk hs h8'
  have kw := kw.trans kk (by simp; omega)
  have hz := hz.keepx kk (fun hne b hb => by
    have e1 : b = b1 := by simpa [Value.ownBlock] using hb.symm
    simp
    omega)
  refine ep rfl ?_
  refine sp rfl ?_
  refine el_bslice (vs := bytesV [1, 1, 1, 0, 129, 241, 4]) rfl rfl rfl rfl rfl rfl rfl ?_
  intro bs w8 hbs hbs' kk hB
  have hz := hz.keep0 kk
  have h8' := kk.blk h8' (by simp)
  have kw := kw.trans0 kk
  have hbw : w.heap.size ≤ bs := by
    have := kw.size
    have := Blk.lt h8'
    omega
  refine pp rfl ?_
  refine el_appB (v := .slice (some ⟨bs, 0, none⟩) 7 7) (xs := [1, 1, 1, 0, 129, 241, 4]) (ys := Z) (we := w) (bb := b8) rfl rfl rfl rfl rfl rfl kw h8' (by decide) (own_of_blk hB hbw (by decide)) hz (by simp; omega) ?_
  intro v10 w9 hv10 kw h8'
  refine ep rfl ?_
  refine sp rfl ?_
  refine el_call rfl rfl rfl rfl rfl rfl (Read_ok v10 ([1, 1, 1, 0, 129, 241, 4] ++ Z) w9 (Rd.of_own hv10) (by simp; omega)) ?_
  intro rv w10 hq
  unfold ReadQ at hq
  rw [readR_none hno] at hq
  obtain ⟨u2, rfl, hu2, kk⟩ := hq
  obtain ⟨ad2, cap2, rfl, hc2⟩ := own_slice hu2
  have h8' := kk.blk h8' (by simp)
  have kw := kw.trans0 kk
  refine pp rfl ?_
  refine el_alloc (z := wordZ) zeroA rfl rfl rfl rfl ?_
  intro b11 w11 hb11 hb11' kk h11
  have hw11 : w.heap.size ≤ b11 := by have := kw.size; omega
  have hb811 : b8 < b11 := by have := Blk.lt h8'; omega
  have h8' := kk.blk h8' (by simp)
  have kw := kw.trans0 kk
  refine el_store (b := b11) (off := 0) (wordL 0 0 0 0 (.slice ad2 0 cap2) 0 0 0 0 0 false).toArray rfl rfl rfl rfl rfl rfl rfl rfl h11 rfl rfl ?_
  intro w12 kk hs h11'
  have h8' := kk.blk h8' (by simp; omega)
  have kw := kw.trans kk (by simp; omega)
  refine ep rfl ?_
  refine sp rfl ?_
  refine el_call rfl rfl rfl rfl rfl rfl (num_ok _ _) ?_
  rintro _ _ ⟨rfl, rfl⟩
  refine pp rfl ?_
  refine el_call rfl rfl rfl rfl rfl rfl (num_ok _ _) ?_
  rintro _ _ ⟨rfl, rfl⟩
  refine pp rfl ?_
  refine el_call rfl rfl rfl rfl rfl rfl (num_ok _ _) ?_
  rintro _ _ ⟨rfl, rfl⟩
  refine pp rfl ?_
  refine el_call rfl rfl rfl rfl rfl rfl (num_ok _ _) ?_
  rintro _ _ ⟨rfl, rfl⟩
  refine pp rfl ?_
  refine el_loadb rfl rfl rfl rfl rfl h8' rfl ?_
  refine ppn 1 rfl ?_
  refine el_eqi (a := (Z8.length : Int)) (b := 80000) (k := .i64) true (by
    have e : (Z8.length : Int) = 80000 := by omega
    rw [e]
    exact beq_self_eq_true _) rfl rfl rfl rfl ?_
  refine pp rfl ?_
  refine el_call rfl rfl rfl rfl rfl rfl (num_ok _ _) ?_
  rintro _ _ ⟨rfl, rfl⟩
  refine pp rfl ?_
  refine el_call rfl rfl rfl rfl rfl rfl (works_ok _) ?_
  rintro _ w13 ⟨rfl, kk⟩
  refine ep rfl ?_
  exact ew_ret (ret_1 (.bool true) rfl rfl rfl rfl ⟨rfl, kw.trans0 kk⟩)
end Go.Proofs.Ytpdgfekimnmdnaa
