/- The law of long bytes. -/
import Derived.Test.YtfbpobhbkadblaaWireJ
set_option linter.unusedVariables false
set_option linter.unusedSimpArgs false
namespace Go.Proofs.Ytfbpobhbkadblaa
open Go.RowKit
set_option maxRecDepth 20000

theorem made_bytes (n : Nat) : (madeCells (Value.int .u8 0).cells (n * 1)).toList = bytesV (List.replicate n 0) := by
  have h := toList_madeCells_one (Value.int .u8 0) n
  rw [Nat.mul_one]
  show (madeCells #[Value.int .u8 0] n).toList = _
  rw [h]
  simp [bytesV, byteV]

theorem WireLong_ok (w : World) : Fn Try.prog 6 [] w fun r w' => r = .bool true ∧ Keep [] w w' := by
  refine fn_enter Try.func6 rfl rfl ?_
  refine es rfl ?_
  refine sp rfl ?_
  refine el_call rfl rfl rfl rfl rfl rfl (new_ok w) ?_
  rintro rv w1 ⟨g, rfl, hg, hW1, k1⟩
  have hgl1 := hW1.lt
  refine ep rfl ?_
  refine sp rfl ?_
  obtain ⟨n, hn⟩ : ∃ n : Nat, n = 1048575 := ⟨_, rfl⟩
  refine el_make (base := 0) (z := .int .u8 0) (n := n) (size := 1) (bytes := 1) rfl rfl rfl info_u8 rfl rfl (by rw [hn]; rfl) (by rw [hn]; rfl) (by omega) (by unfold maxLen; omega) ?_
  intro w2 ho2 k2
  obtain ⟨Z, hZ, hZn⟩ : ∃ Z : List UInt8, (madeCells (Value.int .u8 0).cells (n * 1)).toList = bytesV Z ∧ Z.length = n := ⟨List.replicate n 0, made_bytes n, List.length_replicate⟩
  rw [hZ] at ho2
  have hr2 : RdB w2 (.slice (some ⟨w1.heap.size, 0, none⟩) n n) Z := by
    have := Rd.of_own ho2
    show Rd _ _ Z.length _
    rw [hZn]
    exact this
  have hZl : Z.length = 1048575 := hZn.trans hn
  refine el_bslice (z := .slice none 0 0) (bytes := 24) (vs := [.slice (some ⟨w1.heap.size, 0, none⟩) n n]) rfl rfl rfl info_bs rfl rfl rfl ?_
  intro b3 w3 hb3 hb3' k3 hblk3
  have k13 := k2.trans0 k3
  refine el_call rfl rfl rfl rfl rfl rfl (wraw_ok (some g) [] _ [Z] w3 (hW1.keep0 k13) (RdBB.of_blk hblk3 rfl (one_of (a := Z) (hr2.keep0 k3))) (by simp [sumL, hZl]) (by simp)) ?_
  intro rv w4 h
  obtain ⟨rfl, hW4, k4⟩ := layr_to Z 0 (by simp [layB, sumL, hZl]) (by simp [layE, sumL, hZl]) h
  refine ep rfl ?_
  refine sp rfl ?_
  refine el_make (base := 0) (z := .int .u8 0) (n := 2) (size := 1) (bytes := 1) rfl rfl rfl info_u8 rfl rfl rfl rfl (by omega) (by unfold maxLen; omega) ?_
  intro w5 ho5 k5
  rw [made_bytes 2] at ho5
  have hr5 : RdB w5 (.slice (some ⟨w4.heap.size, 0, none⟩) 2 2) (List.replicate 2 0) := Rd.of_own ho5
  refine el_bslice (z := .slice none 0 0) (bytes := 24) (vs := [.slice (some ⟨w4.heap.size, 0, none⟩) 2 2]) rfl rfl rfl info_bs rfl rfl rfl ?_
  intro b6 w6 hb6 hb6' k6 hblk6
  have k46 := k5.trans0 k6
  refine el_call rfl rfl rfl rfl rfl rfl (wraw_ok (some g) Z _ [List.replicate 2 0] w6 (IsW.keep0 hW4 k46) (RdBB.of_blk hblk6 rfl (one_of (a := List.replicate 2 0) (hr5.keep0 k6))) (by simp [sumL]) (by simp)) ?_
  intro rv w7 h
  obtain ⟨rfl, hW7, k7⟩ := layr_to Z 3 (by simp [layB, sumL, hZl]) (by simp [layE, sumL, hZl]) h
  refine pp rfl ?_
  refine el_call rfl rfl rfl rfl rfl rfl (wtruth_ok (some g) Z true w7 hW7) ?_
  intro rv w8 h
  obtain ⟨rfl, hW8, k8⟩ := layr_to (Z ++ [1]) 0 (by simp [layB, sumL, hZl]) (by simp [layE, sumL, hZl]) h
  refine pp rfl ?_
  refine el_call rfl rfl rfl rfl rfl rfl (wnumber_ok (some g) (Z ++ [1]) 0 (by decide) w8 hW8) ?_
  intro rv w9 h
  have hn0 : numB 0 = [0] := numB_lt (by decide)
  obtain ⟨rfl, hW9, k9⟩ := layr_to (Z ++ [1]) 3 (by show layB true _ [numB 0] = _; rw [hn0]; simp [layB, sumL, hZl]) (by show layE true _ (sumL [numB 0]) = _; rw [hn0]; simp [layE, sumL, hZl]) h
  refine ep rfl ?_
  refine sp rfl ?_
  refine el_call rfl rfl rfl rfl rfl rfl (num_ok _ w9) ?_
  rintro _ _ ⟨rfl, rfl⟩
  refine pp rfl ?_
  refine el_call rfl rfl rfl rfl rfl rfl (num_ok _ w9) ?_
  rintro _ _ ⟨rfl, rfl⟩
  refine pp rfl ?_
  refine el_call rfl rfl rfl rfl rfl rfl (num_ok _ w9) ?_
  rintro _ _ ⟨rfl, rfl⟩
  refine pp rfl ?_
  refine el_call rfl rfl rfl rfl rfl rfl (num_ok _ w9) ?_
  rintro _ _ ⟨rfl, rfl⟩
  refine pp rfl ?_
  refine el_call rfl rfl rfl rfl rfl rfl (wall_ok (some g) (Z ++ [1]) w9 hW9) ?_
  rintro u w10 ⟨ho10, k10⟩
  have ho11 : OwnB 5 w10 w9.heap.size u (Z ++ [1]) := ho10
  have hsl := own_slice ho11
  obtain ⟨ad, hsl⟩ := hsl
  obtain ⟨cap, hsl⟩ := hsl
  obtain ⟨hu, hsl⟩ := hsl
  subst hu
  have hlen : (Z ++ [1]).length = 1048576 := by simp [hZl]
  refine ppn 1 rfl ?_
  refine el_eqi (a := ((Z ++ [1]).length : Int)) (b := 1048576) (k := .i64) true (by rw [hlen]; decide +kernel) rfl rfl rfl rfl ?_
  refine pp rfl ?_
  refine el_call rfl rfl rfl rfl rfl rfl (works_ok w10) ?_
  rintro _ w11 ⟨rfl, k11⟩
  refine ep rfl ?_
  have q1 : Keep [g] w1 w4 := k13.any.trans k4 (by simp)
  have q2 : Keep [g] w1 w6 := q1.trans k46 (by simp)
  have q3 : Keep [g] w1 w7 := q2.trans k7 (by simp)
  have q4 : Keep [g] w1 w8 := q3.trans k8 (by simp)
  have kg : Keep [g] w1 w9 := q4.trans k9 (by simp)
  have kw : Keep [] w w9 := k1.trans kg (by simp; omega)
  exact ew_ret (ret_1 (.bool true) rfl rfl rfl rfl ⟨rfl, (kw.trans0 k10).trans0 k11⟩)
end Go.Proofs.Ytfbpobhbkadblaa
