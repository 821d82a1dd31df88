/- The law of bytes and texts. -/
import Derived.Test.YtfbpobhbkadblaaWireR
set_option linter.unusedVariables false
set_option linter.unusedSimpArgs false
namespace Go.Proofs.Ytfbpobhbkadblaa
open Go.RowKit
set_option maxRecDepth 20000

set_option maxHeartbeats 2000000 in
theorem WireTexts_ok (v : Value) (bs : List UInt8) (m : Int) (v2 : Value) (cs : List UInt8) (w : World) (hv : RdB w v bs) (hl : bs.length ≤ maxLen) (hmm : -9223372036854775808 ≤ m ∧ m ≤ 9223372036854775807) (hv2 : RdB w v2 cs) (hl2 : cs.length ≤ maxLen) :
    Fn Try.prog 7 [v, .int .i64 m, v2] w fun r w' => r = .bool true ∧ Keep [] w w' := by
  obtain ⟨ad, cap, rfl, hc⟩ := hv.slice
  obtain ⟨ad2, cap2, rfl, hc2⟩ := hv2.slice
  refine fn_enter Try.func7 rfl rfl ?_
  refine es rfl ?_
  refine ew_seq (spn 3 rfl ?_)
  by_cases h300 : (bs.length : Int) > 300
  · refine el_as (v' := .bool true) (bool_eq (decide_eq_true h300)) ?_
    refine ep rfl ?_
    refine ew_cond_t rfl rfl ?_
    refine sp rfl ?_
    refine el_call rfl rfl rfl rfl rfl rfl (works_ok w) ?_
    rintro _ w1 ⟨rfl, k⟩
    refine ep rfl ?_
    exact ew_ret (ret_1 (.bool true) rfl rfl rfl rfl ⟨rfl, k⟩)
  refine el_as (v' := .bool false) (bool_eq (decide_eq_false h300)) ?_
  refine ep rfl ?_
  refine ew_cond rfl (fun hb => ?_) (fun hb => ?_)
  · refine sp rfl ?_
    refine el_call rfl rfl rfl rfl rfl rfl (works_ok w) ?_
    rintro _ w1 ⟨rfl, k⟩
    refine ep rfl ?_
    exact ew_ret (ret_1 (.bool true) rfl rfl rfl rfl ⟨rfl, k⟩)
  have hb' : ¬ ((cs.length : Int) > 50) := of_decide_eq_false hb
  refine ew_skip ?_
  refine sp rfl ?_
  refine el_call rfl rfl rfl rfl rfl rfl (new_ok w) ?_
  rintro rv w1 ⟨g, rfl, hg, hW1, k1⟩
  have hgl1 := hW1.lt
  have hlen : (numB bs.length).length ≤ 10 := numB_len10 (by omega)
  refine ep rfl ?_
  refine sp rfl ?_
  refine el_call rfl rfl rfl rfl rfl rfl (wbytes_ok (some g) [] _ bs w1 hW1 (hv.keep0 k1) (by omega)) ?_
  intro rv w2 h
  obtain ⟨rfl, hW2, k2⟩ := layr_to (numB bs.length ++ bs) 0 (by simp [layB, sumL]; omega) (by simp [layE, sumL]; omega) h
  refine ep rfl ?_
  refine sp rfl ?_
  refine el_call rfl rfl rfl rfl rfl rfl (wall_ok (some g) (numB bs.length ++ bs) w2 hW2) ?_
  rintro u w3 ⟨ho3, k3⟩
  have hA : (numB bs.length ++ bs).length = (numB bs.length).length + bs.length := List.length_append
  have ho3' : OwnB 5 w3 w2.heap.size u (numB bs.length ++ bs) := ho3
  refine pp rfl ?_
  have k02 : Keep [] w w2 := k1.trans k2 (by simp; omega)
  have k03 : Keep [] w w3 := k02.trans0 k3
  refine el_append (v := u) (base := w2.heap.size) (z := .int .u8 0) (size := 1) (bytes := 1) (n := (numB bs.length ++ bs).length) (m := cs.length) (xs := bytesV (numB bs.length ++ bs)) (ys := bytesV cs) rfl rfl rfl info_u8 rfl rfl rfl rfl ho3' (hv2.keep0 k03) (by simp [bytesV_length]) (bytesV_one _) (by unfold maxLen; omega) (by omega) (by have := k3.size; omega) ?_
  intro v' w4 ho4 hg4 hfr
  obtain ⟨all, hall⟩ : ∃ all, numB bs.length ++ bs ++ cs = all := ⟨_, rfl⟩
  have hall2 : all.length = (numB bs.length ++ bs).length + cs.length := by rw [← hall]; exact List.length_append
  have ho4' : OwnB 5 w4 w2.heap.size v' all := by
    show World.ownsRow _ _ _ _ _ _ _
    rw [hall2, ← hall, bytesV_append]
    exact ho4
  have k24 : Keep [] w2 w4 := k3.app ho3' (Nat.le_refl _) hg4
  have k04 : Keep [] w w4 := k02.trans0 k24
  obtain ⟨ad4, cap4, rfl, hcap4⟩ := own_slice ho4'
  have hr4 := Rd.of_own ho4'
  refine ep rfl ?_
  refine sp rfl ?_
  refine el_build (z := zr) (vs := [.slice ad4 all.length cap4, .int .i64 0, .int .i64 0]) rfl rfl rfl rfl rfl rfl ?_
  refine el_alloc (z := zr) #[.slice none 0 0, .int .i64 0, .int .i64 0] rfl rfl rfl rfl ?_
  intro rb w5 e5 e5' k5 hrb5
  refine el_store #[.slice ad4 all.length cap4, .int .i64 0, .int .i64 0] rfl rfl rfl rfl rfl rfl rfl rfl hrb5 rfl rfl ?_
  intro w6 k6 hs6 hrb6
  have k46 : Keep [] w4 w6 := k5.trans k6 (by simp; omega)
  refine ep rfl ?_
  refine sp rfl ?_
  refine el_call rfl rfl rfl rfl rfl rfl (read_ok _ all w6 (hr4.keep0 k46) (by omega)) ?_
  rintro rv w7 ⟨g2, rfl, hg2, hR7, k7⟩
  refine pp rfl ?_
  refine el_call rfl rfl rfl rfl rfl rfl (read_ok _ all w7 (hr4.keep0 (k46.trans0 k7)) (by omega)) ?_
  rintro rv w8 ⟨g3, rfl, hg3, hQ8, k8⟩
  have hR8 := hR7.keep0 k8
  have k48 : Keep [] w4 w8 := (k46.trans0 k7).trans0 k8
  have hrb8 := k8.blk (k7.blk hrb6 (by simp)) (by simp)
  refine ep rfl ?_
  refine sp rfl ?_
  refine el_loada (vs := [.slice ad4 all.length cap4, .int .i64 0, .int .i64 0]) rfl rfl rfl rfl rfl rfl hrb8 rfl ?_
  refine pp rfl ?_
  refine el_call rfl rfl rfl rfl rfl rfl (refrb_ok (.slice ad4 all.length cap4) all 0 0 m w8 (hr4.keep0 k48) (by omega) (Nat.zero_le _)) ?_
  obtain ⟨⟨x, e, at', f'⟩, hS⟩ : ∃ S, (rdStep [] all 0 0 (decide (m ≥ 0)) fun l => bytesR l m) = S := ⟨_, rfl⟩
  intro rv w9 h9
  rw [hS] at h9
  obtain ⟨ru, rfl, hru9, k9, hrub⟩ := h9
  dsimp only at hru9
  refine pp rfl ?_
  refine el_alloc (z := zr) #[.slice none 0 0, .int .i64 0, .int .i64 0] rfl rfl rfl rfl ?_
  intro cb w10 e10 e10' k10 hc10
  refine el_store #[.slice ad4 all.length cap4, .int .i64 (at' : Int), .int .i64 f'] rfl rfl rfl rfl rfl rfl rfl rfl hc10 rfl rfl ?_
  intro w11 k11 hs11 hc11
  have k911 : Keep [] w9 w11 := k10.trans k11 (by simp; omega)
  have k811 : Keep [] w8 w11 := k9.trans0 k911
  have hru11 := hru9.keep0 k911
  refine ep rfl ?_
  refine sp rfl ?_
  have hl8 := hR8.lt
  have hl8' := hQ8.lt
  have hsz8 := k811.size
  have hR7l := hR7.lt
  refine el_call rfl rfl rfl rfl rfl rfl (rbytes_ok g2 all 0 0 m w11 (hR8.keep0 k811)) ?_
  intro rv w12 h12
  rw [hS] at h12
  obtain ⟨xv, B, rfl, hB, hx12, hR12, k12⟩ := h12
  dsimp only at hx12 hR12
  refine ep rfl ?_
  refine sp rfl ?_
  have hQ11 := hQ8.keep0 k811
  have hQ12 : IsR w12 g3 all 0 0 := hQ11.keep k12 (by simp; omega) (NoE.one (hR8.keep0 k811).blk (by decide))
  refine el_call rfl rfl rfl rfl rfl rfl (rtext_ok g3 all 0 0 m w12 hQ12) ?_
  intro rv w13 h13
  rw [hS] at h13
  obtain ⟨rfl, hQ13, k13⟩ := h13
  dsimp only at hQ13
  refine ep rfl ?_
  have hR13 : IsR w13 g2 all at' f' := hR12.keep k13 (by simp; omega) (NoE.one hQ12.blk (by decide))
  have hx13 := own_keep hx12 k13 (own_ne hx12 hQ12.blk (by decide))
  have hru13 : RdB w13 ru x := by
    refine (hru11.keep k12 ?_).keep k13 ?_
    · intro b hb
      exact own_ne (own_keep ho4' (k48.trans0 k811) (by simp)) (hR8.keep0 k811).blk (by decide) b (hrub b hb)
    · intro b hb
      have h4 := own_keep ho4' (k48.trans0 k811) (by simp)
      exact own_ne (own_keep h4 k12 (own_ne h4 (hR8.keep0 k811).blk (by decide))) hQ12.blk (by decide) b (hrub b hb)
  have hs9 := k9.size
  have hc12 := k12.blk hc11 (by simp; omega)
  have hc13 := k13.blk hc12 (by simp; omega)
  have k013 : Keep [] w w13 := by
    have q1 : Keep [] w w8 := k04.trans0 k48
    have q2 : Keep [] w w11 := q1.trans0 k811
    have hq6 := (k04.trans0 k46).size
    have hq7 := ((k04.trans0 k46).trans0 k7).size
    exact (q2.trans k12 (by simp; omega)).trans k13 (by simp; omega)
  refine ew_seq ?_
  let S : Value := .string (strOf x)
  let T : Value := .bool true
  let E : Value := .int .i64 e
  let A : Value := .int .i64 (at' : Int)
  refine ew_draw follows [.known (.int .i64 0), .known (.int .i64 0), .known T, .known T, .known xv, .known S, .known ru, .known S, .known T, .known T, .known T, .known S, .known ru, .known S, .known T, .known T, .known T,
    .known E, .known E, .known E, .known T, .known T, .known T, .known E, .known E, .known E, .known T, .known T, .known T, .known (.pointer (some ⟨g2, 0, none⟩)), .known A, .known (.pointer (some ⟨cb, 1, none⟩)), .known A, .known T, .known T, .known T,
    .known (.pointer (some ⟨g3, 0, none⟩)), .known A, .known (.pointer (some ⟨cb, 1, none⟩)), .known A, .known T, .known T, .known T, .known T, .known T, .known T] []
    (fun b w => True) rfl (stable_known _ rfl) trivial ?_ ?_
  · skip
    refine ⟨pureD rfl (fun _ _ => rfl) (fun _ _ h => h), ?_⟩
    refine ⟨fun b V ρ w hk hbi hd hu hWd hV => el_call rfl rfl rfl rfl rfl rfl (num_ok _ w) (by rintro _ _ ⟨rfl, rfl⟩; exact el_nil ⟨_, rfl, rfl, Keep.refl _ _, trivial⟩), ?_⟩
    refine ⟨pureD rfl (fun _ _ => rfl) (fun _ _ h => h), ?_⟩
    refine ⟨pureD rfl (fun _ _ => rfl) (fun _ _ h => h), ?_⟩
    refine ⟨pureD rfl (fun _ _ => rfl) (fun _ _ h => h), ?_⟩
    refine ⟨fun b V ρ w hk hbi hd hu hWd hV => el_str rfl rfl rfl rfl rfl rfl ((Rd.of_own hx13).keep0 hk) (el_nil ⟨_, rfl, rfl, Keep.refl _ _, trivial⟩), ?_⟩
    refine ⟨pureD rfl (fun _ _ => rfl) (fun _ _ h => h), ?_⟩
    refine ⟨fun b V ρ w hk hbi hd hu hWd hV => el_str rfl rfl rfl rfl rfl rfl (Rd.keep0 hru13 hk) (el_nil ⟨_, rfl, rfl, Keep.refl _ _, trivial⟩), ?_⟩
    refine ⟨fun b V ρ w hk hbi hd hu hWd hV => el_streq true (by simp) rfl rfl rfl rfl (el_nil ⟨_, rfl, rfl, Keep.refl _ _, trivial⟩), ?_⟩
    refine ⟨pureD rfl (fun _ _ => rfl) (fun _ _ h => h), ?_⟩
    refine ⟨pureD rfl (fun _ _ => rfl) (fun _ _ h => h), ?_⟩
    refine ⟨pureD rfl (fun _ _ => rfl) (fun _ _ h => h), ?_⟩
    refine ⟨pureD rfl (fun _ _ => rfl) (fun _ _ h => h), ?_⟩
    refine ⟨fun b V ρ w hk hbi hd hu hWd hV => el_str rfl rfl rfl rfl rfl rfl (Rd.keep0 hru13 hk) (el_nil ⟨_, rfl, rfl, Keep.refl _ _, trivial⟩), ?_⟩
    refine ⟨fun b V ρ w hk hbi hd hu hWd hV => el_streq true (by simp) rfl rfl rfl rfl (el_nil ⟨_, rfl, rfl, Keep.refl _ _, trivial⟩), ?_⟩
    refine ⟨pureD rfl (fun _ _ => rfl) (fun _ _ h => h), ?_⟩
    refine ⟨pureD rfl (fun _ _ => rfl) (fun _ _ h => h), ?_⟩
    refine ⟨pureD rfl (fun _ _ => rfl) (fun _ _ h => h), ?_⟩
    refine ⟨fun b V ρ w hk hbi hd hu hWd hV => el_call rfl rfl rfl rfl rfl rfl (num_ok _ w) (by rintro _ _ ⟨rfl, rfl⟩; exact el_nil ⟨_, rfl, rfl, Keep.refl _ _, trivial⟩), ?_⟩
    refine ⟨pureD rfl (fun _ _ => rfl) (fun _ _ h => h), ?_⟩
    refine ⟨fun b V ρ w hk hbi hd hu hWd hV => el_eqi true (by simp) rfl rfl rfl rfl (el_nil ⟨_, rfl, rfl, Keep.refl _ _, trivial⟩), ?_⟩
    refine ⟨pureD rfl (fun _ _ => rfl) (fun _ _ h => h), ?_⟩
    refine ⟨pureD rfl (fun _ _ => rfl) (fun _ _ h => h), ?_⟩
    refine ⟨pureD rfl (fun _ _ => rfl) (fun _ _ h => h), ?_⟩
    refine ⟨fun b V ρ w hk hbi hd hu hWd hV => el_call rfl rfl rfl rfl rfl rfl (num_ok _ w) (by rintro _ _ ⟨rfl, rfl⟩; exact el_nil ⟨_, rfl, rfl, Keep.refl _ _, trivial⟩), ?_⟩
    refine ⟨pureD rfl (fun _ _ => rfl) (fun _ _ h => h), ?_⟩
    refine ⟨fun b V ρ w hk hbi hd hu hWd hV => el_eqi true (by simp) rfl rfl rfl rfl (el_nil ⟨_, rfl, rfl, Keep.refl _ _, trivial⟩), ?_⟩
    refine ⟨pureD rfl (fun _ _ => rfl) (fun _ _ h => h), ?_⟩
    refine ⟨pureD rfl (fun _ _ => rfl) (fun _ _ h => h), ?_⟩
    refine ⟨pureD rfl (fun _ _ => rfl) (fun _ _ h => h), ?_⟩
    refine ⟨fun b V ρ w hk hbi hd hu hWd hV => el_call rfl rfl rfl rfl rfl rfl (rat_ok g2 all at' f' w (hR13.keep0 hk)) (by rintro _ _ ⟨rfl, rfl⟩; exact el_nil ⟨_, rfl, rfl, Keep.refl _ _, trivial⟩), ?_⟩
    refine ⟨pureD rfl (fun _ _ => rfl) (fun _ _ h => h), ?_⟩
    refine ⟨fun b V ρ w hk hbi hd hu hWd hV => el_loadb rfl rfl rfl rfl rfl (hk.blk hc13 (by simp)) rfl (el_nil ⟨_, rfl, rfl, Keep.refl _ _, trivial⟩), ?_⟩
    refine ⟨fun b V ρ w hk hbi hd hu hWd hV => el_eqi true (by simp) rfl rfl rfl rfl (el_nil ⟨_, rfl, rfl, Keep.refl _ _, trivial⟩), ?_⟩
    refine ⟨pureD rfl (fun _ _ => rfl) (fun _ _ h => h), ?_⟩
    refine ⟨pureD rfl (fun _ _ => rfl) (fun _ _ h => h), ?_⟩
    refine ⟨pureD rfl (fun _ _ => rfl) (fun _ _ h => h), ?_⟩
    refine ⟨fun b V ρ w hk hbi hd hu hWd hV => el_call rfl rfl rfl rfl rfl rfl (rat_ok g3 all at' f' w (hQ13.keep0 hk)) (by rintro _ _ ⟨rfl, rfl⟩; exact el_nil ⟨_, rfl, rfl, Keep.refl _ _, trivial⟩), ?_⟩
    refine ⟨pureD rfl (fun _ _ => rfl) (fun _ _ h => h), ?_⟩
    refine ⟨fun b V ρ w hk hbi hd hu hWd hV => el_loadb rfl rfl rfl rfl rfl (hk.blk hc13 (by simp)) rfl (el_nil ⟨_, rfl, rfl, Keep.refl _ _, trivial⟩), ?_⟩
    refine ⟨fun b V ρ w hk hbi hd hu hWd hV => el_eqi true (by simp) rfl rfl rfl rfl (el_nil ⟨_, rfl, rfl, Keep.refl _ _, trivial⟩), ?_⟩
    refine ⟨pureD rfl (fun _ _ => rfl) (fun _ _ h => h), ?_⟩
    refine ⟨pureD rfl (fun _ _ => rfl) (fun _ _ h => h), ?_⟩
    refine ⟨fun b V ρ w hk hbi hd hu hWd hV => el_call rfl rfl rfl rfl rfl rfl (works_ok w) (by rintro _ _ ⟨rfl, k⟩; exact el_nil ⟨_, rfl, rfl, k, trivial⟩), ?_⟩
    refine ⟨pureD rfl (fun _ _ => rfl) (fun _ _ h => h), ?_⟩
    refine ⟨pureD rfl (fun _ _ => rfl) (fun _ _ h => h), ?_⟩
    trivial
  · intro b V w14 hall k14 hWd hV
    exact ew_ret (ret_1 T rfl rfl rfl rfl ⟨rfl, k013.trans0 k14⟩)
end Go.Proofs.Ytfbpobhbkadblaa
