/- A call of a reader by both hands: they tell the same. -/
import Derived.Test.YtfbpobhbkadblaaSame
set_option linter.unusedVariables false
set_option linter.unusedSimpArgs false
namespace Go.Proofs.Ytfbpobhbkadblaa
open Go.RowKit
set_option maxRecDepth 20000

/-- Where a call leaves the reader: its place and its flaw. -/
def tkS (what n : Int) (all : List UInt8) (at_ : Nat) (flaw : Int) : Nat × Int :=
  if what = 0 then (rdStep 0 all at_ flaw (decide (n ≥ 0)) fun l => numR l n).2.2
  else if what = 1 then (rdStep 0 all at_ flaw true fun l => numR l 9223372036854775807).2.2
  else if what = 2 then (rdStep [] all at_ flaw (decide (n ≥ 0)) fun l => bytesR l n).2.2
  else if what = 3 then (rdStep [] all at_ flaw (decide (n ≥ 0)) fun l => bytesR l n).2.2
  else if what = 4 then (rdStep false all at_ flaw true truthR).2.2
  else if what = 5 then (rdStep [] all at_ flaw (decide (n ≥ 0)) fun l => rawR l n.toNat).2.2
  else (at_, flaw)

theorem rd_len {all : List UInt8} {at_ : Nat} {flaw : Int} {fine : Bool} {res : List UInt8 → List UInt8 × Int × Nat} (h : ∀ l, (res l).1.length ≤ l.length) : (rdStep [] all at_ flaw fine res).1.length ≤ all.length := by
  have h1 := h (all.drop at_)
  rw [List.length_drop] at h1
  unfold rdStep
  split
  · simp
  · split
    · simp
    · split
      · dsimp only; omega
      · simp
theorem bytes_len (all : List UInt8) (at_ : Nat) (flaw : Int) (fine : Bool) (n : Int) : (rdStep [] all at_ flaw fine fun l => bytesR l n).1.length ≤ all.length := rd_len fun l => by
  unfold bytesR
  split
  · simp
  · split
    · simp
    · simp only [List.length_take, List.length_drop]; omega
theorem raw_len (all : List UInt8) (at_ : Nat) (flaw : Int) (fine : Bool) (n : Nat) : (rdStep [] all at_ flaw fine fun l => rawR l n).1.length ≤ all.length := rd_len fun l => by
  unfold rawR
  split
  · simp
  · simp only [List.length_take]; omega

set_option maxHeartbeats 8000000 in
theorem took_ok (gr : Nat) (v : Value) (all : List UInt8) (at_ : Nat) (flaw what n : Int) (w : World) (hR : IsR w gr all at_ flaw) (hv : RdB w v all) (hvl : ∀ b, v.ownBlock = some b → b < w.heap.size ∧ b ≠ gr) :
    Fn Try.prog 33 [.pointer (some ⟨gr, 0, none⟩), rdr v at_ flaw, .agg #[.int .i64 what, .int .i64 n]] w fun r w' =>
      r = .tuple #[rdr v (tkS what n all at_ flaw).1 (tkS what n all at_ flaw).2, .bool true] ∧ IsR w' gr all (tkS what n all at_ flaw).1 (tkS what n all at_ flaw).2 ∧ Keep [gr] w w' := by
  obtain ⟨ad, cap, rfl, hcap⟩ := hv.slice
  have hal := hR.1
  have hat := hR.2.1
  refine fn_enter Try.func33 rfl rfl ?_
  refine sp rfl ?_
  refine el_box #[.slice ad all.length cap, .int .i64 (at_ : Int), .int .i64 flaw] rfl rfl rfl rfl ?_
  intro bb w1 e1 e1' k1 hb1
  refine el_box #[.int .i64 what, .int .i64 n] rfl rfl rfl rfl ?_
  intro tb w2 e2 e2' k2 ht2
  refine el_alloc (z := zr) #[.slice none 0 0, .int .i64 0, .int .i64 0] rfl rfl rfl rfl ?_
  intro cb w3 e3 e3' k3 hc3
  have hb3 := k3.blk (k2.blk hb1 (by simp)) (by simp)
  have ht3 := k3.blk ht2 (by simp)
  have k03 : Keep [] w w3 := (k1.trans0 k2).trans0 k3
  have hR3 := hR.keep0 k03
  have hv3 := hv.keep0 k03
  have hcgr0 : cb ≠ gr := hR3.ne hc3 (by decide)
  clear hb1 ht2
  let T : Value := .bool true
  let R : Value := .pointer (some ⟨gr, 0, none⟩)
  refine ep rfl ?_
  refine ew_seq ?_
  refine sp rfl ?_
  refine el_loadb rfl rfl rfl rfl rfl ht3 rfl ?_
  refine ep rfl ?_
  refine ew_block ?_
  refine es rfl ?_
  by_cases h0 : what = 0
  · subst h0
    obtain ⟨⟨x, e, a, f⟩, hS⟩ : ∃ x, (rdStep 0 all at_ flaw (decide (n ≥ 0)) fun l => numR l n) = x := ⟨_, rfl⟩
    have hT : tkS 0 n all at_ flaw = (a, f) := by simp [tkS, hS]
    let E : Value := .int .i64 e
    let A : Value := .int .i64 (a : Int)
    have hspec := refrn_ok (.slice ad all.length cap) all at_ flaw n w3 hv3 hal hat
    rw [hS] at hspec
    refine ew_cond_t rfl rfl ?_
    refine sp rfl ?_
    refine el_loada (vs := [.slice ad all.length cap, .int .i64 (at_ : Int), .int .i64 flaw]) rfl rfl rfl rfl rfl rfl hb3 rfl ?_
    refine pp rfl ?_
    refine el_loadb rfl rfl rfl rfl rfl ht3 rfl ?_
    refine el_call rfl rfl rfl rfl rfl rfl hspec ?_
    rintro _ w4 ⟨rfl, k4⟩
    refine pp rfl ?_
    refine el_alloc (z := zr) #[.slice none 0 0, .int .i64 0, .int .i64 0] rfl rfl rfl rfl ?_
    intro nb w5 e5 e5' k5 hn5
    refine el_store #[.slice ad all.length cap, .int .i64 (a : Int), .int .i64 f] rfl rfl rfl rfl rfl rfl rfl rfl hn5 rfl rfl ?_
    intro w6 k6 hs6 hn6
    have k36 : Keep [] w3 w6 := (k4.trans0 k5).trans k6 (by have := k4.size; simp; omega)
    have hnc : cb < nb := by have := Blk.lt hc3; have := k4.size; omega
    have hngr : nb ≠ gr := by have := hR3.lt; have := k4.size; omega
    have hcgr : cb ≠ gr := hR3.ne hc3 (by decide)
    have hR6 := hR3.keep0 k36
    have ht6 := k36.blk ht3 (by simp)
    have hc6 := k36.blk hc3 (by simp)
    refine ep rfl ?_
    refine sp rfl ?_
    refine el_loadb rfl rfl rfl rfl rfl ht6 rfl ?_
    refine el_call rfl rfl rfl rfl rfl rfl (rnumber_ok gr all at_ flaw n w6 hR6) ?_
    intro rv w7 h7
    rw [hS] at h7
    obtain ⟨rfl, hR7, k7⟩ := h7
    dsimp only at hR7
    have hn7 := k7.blk hn6 (by simp; omega)
    have hc7 := k7.blk hc6 (by simp; omega)
    have k07 : Keep [gr] w w7 := (k03.trans0 k36).any.trans k7 (by simp)
    refine ep rfl ?_
    refine ew_seq ?_
    refine ew_draw follows [.known (rdr (.slice ad all.length cap) a f), .known (.int .i64 x), .known (.int .i64 x), .known T, .known T, .known E, .known E, .known E, .known T, .known T, .known T, .known R, .known A, .known (.pointer (some ⟨nb, 1, none⟩)), .known A, .known T, .known T, .known undef, .known T] [cb]
      (fun b w => Blk w nb 35 #[.slice ad all.length cap, .int .i64 (a : Int), .int .i64 f] ∧ Blk w cb 35 #[cond (b 17) (.slice ad all.length cap) (.slice none 0 0), cond (b 17) (.int .i64 (a : Int)) (.int .i64 0), cond (b 17) (.int .i64 f) (.int .i64 0)]) rfl (stable_known _ rfl) ⟨hn7, hc7⟩ ?_ ?_
    refine ⟨fun b V ρ w hk hbi hd hu hWd hV => el_loada (vs := [.slice ad all.length cap, .int .i64 (a : Int), .int .i64 f]) rfl rfl rfl rfl rfl rfl hWd.1 rfl (el_nil ⟨_, rfl, rfl, Keep.refl _ _, hWd⟩), ?_⟩
    refine ⟨pureD rfl (fun _ _ => rfl) (fun _ _ h => h), ?_⟩
    refine ⟨pureD rfl (fun _ _ => rfl) (fun _ _ h => h), ?_⟩
    refine ⟨fun b V ρ w hk hbi hd hu hWd hV => el_eqi true (by simp) rfl rfl rfl rfl (el_nil ⟨_, rfl, rfl, Keep.refl _ _, hWd⟩), ?_⟩
    refine ⟨pureD rfl (fun _ _ => rfl) (fun _ _ h => h), ?_⟩
    refine ⟨pureD rfl (fun _ _ => rfl) (fun _ _ h => h), ?_⟩
    refine ⟨fun b V ρ w hk hbi hd hu hWd hV => el_call rfl rfl rfl rfl rfl rfl (num_ok _ w) (by rintro _ _ ⟨rfl, rfl⟩; exact el_nil ⟨_, rfl, rfl, Keep.refl _ _, hWd⟩), ?_⟩
    refine ⟨pureD rfl (fun _ _ => rfl) (fun _ _ h => h), ?_⟩
    refine ⟨fun b V ρ w hk hbi hd hu hWd hV => el_eqi true (by simp) rfl rfl rfl rfl (el_nil ⟨_, rfl, rfl, Keep.refl _ _, hWd⟩), ?_⟩
    refine ⟨pureD rfl (fun _ _ => rfl) (fun _ _ h => h), ?_⟩
    refine ⟨pureD rfl (fun _ _ => rfl) (fun _ _ h => h), ?_⟩
    refine ⟨pureD rfl (fun _ _ => rfl) (fun _ _ h => h), ?_⟩
    refine ⟨fun b V ρ w hk hbi hd hu hWd hV => el_call rfl rfl rfl rfl rfl rfl (rat_ok gr all a f w (hR7.keep hk (by simp; omega) (NoE.one hc7 (by decide)))) (by rintro _ _ ⟨rfl, rfl⟩; exact el_nil ⟨_, rfl, rfl, Keep.refl _ _, hWd⟩), ?_⟩
    refine ⟨pureD rfl (fun _ _ => rfl) (fun _ _ h => h), ?_⟩
    refine ⟨fun b V ρ w hk hbi hd hu hWd hV => el_loadb rfl rfl rfl rfl rfl hWd.1 rfl (el_nil ⟨_, rfl, rfl, Keep.refl _ _, hWd⟩), ?_⟩
    refine ⟨fun b V ρ w hk hbi hd hu hWd hV => el_eqi true (by simp) rfl rfl rfl rfl (el_nil ⟨_, rfl, rfl, Keep.refl _ _, hWd⟩), ?_⟩
    refine ⟨pureD rfl (fun _ _ => rfl) (fun _ _ h => h), ?_⟩
    refine ⟨fun b V ρ w hk hbi hd hu hWd hV => el_store #[.slice ad all.length cap, .int .i64 (a : Int), .int .i64 f] rfl rfl rfl rfl rfl rfl rfl rfl hWd.2 rfl rfl fun w2 k2 hs2 hb2 => el_nil ⟨_, rfl, rfl, k2, k2.blk hWd.1 (by simp; omega), hb2⟩, ?_⟩
    refine ⟨pureD rfl (fun _ _ => rfl) (fun _ _ h => h), ?_⟩
    trivial
    intro b V w8 hall k8 hWd hV
    have hB := hWd.2
    rw [hall 17 (by decide)] at hB
    refine ew_ret (ret_l [rdr (.slice ad all.length cap) a f, .bool true] rfl rfl ⟨⟨_, rfl, rfl, run_loadVarA rfl rfl rfl hB⟩, ⟨rfl, rfl⟩, trivial⟩ ?_)
    rw [hT]
    exact ⟨rfl, hR7.keep k8 (by simp; omega) (NoE.one hc7 (by decide)), k07.trans k8 (by simp; omega)⟩
  refine ew_cond_f rfl (by simp [h0]) ?_
  refine es rfl ?_
  by_cases h1 : what = 1
  · subst h1
    obtain ⟨⟨x, e, a, f⟩, hS⟩ : ∃ x, (rdStep 0 all at_ flaw true fun l => numR l 9223372036854775807) = x := ⟨_, rfl⟩
    have hT : tkS 1 n all at_ flaw = (a, f) := by simp [tkS, hS]
    let E : Value := .int .i64 e
    let A : Value := .int .i64 (a : Int)
    have hspec := refrs_ok (.slice ad all.length cap) all at_ flaw w3 hv3 hal hat
    rw [hS] at hspec
    refine ew_cond_t rfl rfl ?_
    refine sp rfl ?_
    refine el_loada (vs := [.slice ad all.length cap, .int .i64 (at_ : Int), .int .i64 flaw]) rfl rfl rfl rfl rfl rfl hb3 rfl ?_
    refine el_call rfl rfl rfl rfl rfl rfl hspec ?_
    rintro _ w4 ⟨rfl, k4⟩
    refine pp rfl ?_
    refine el_alloc (z := zr) #[.slice none 0 0, .int .i64 0, .int .i64 0] rfl rfl rfl rfl ?_
    intro nb w5 e5 e5' k5 hn5
    refine el_store #[.slice ad all.length cap, .int .i64 (a : Int), .int .i64 f] rfl rfl rfl rfl rfl rfl rfl rfl hn5 rfl rfl ?_
    intro w6 k6 hs6 hn6
    have k36 : Keep [] w3 w6 := (k4.trans0 k5).trans k6 (by have := k4.size; simp; omega)
    have hnc : cb < nb := by have := Blk.lt hc3; have := k4.size; omega
    have hngr : nb ≠ gr := by have := hR3.lt; have := k4.size; omega
    have hcgr : cb ≠ gr := hR3.ne hc3 (by decide)
    have hR6 := hR3.keep0 k36
    have ht6 := k36.blk ht3 (by simp)
    have hc6 := k36.blk hc3 (by simp)
    refine ep rfl ?_
    refine sp rfl ?_
    refine el_call rfl rfl rfl rfl rfl rfl (rsigned_ok gr all at_ flaw w6 hR6) ?_
    intro rv w7 h7
    rw [hS] at h7
    obtain ⟨rfl, hR7, k7⟩ := h7
    dsimp only at hR7
    have hn7 := k7.blk hn6 (by simp; omega)
    have hc7 := k7.blk hc6 (by simp; omega)
    have k07 : Keep [gr] w w7 := (k03.trans0 k36).any.trans k7 (by simp)
    refine ep rfl ?_
    refine ew_seq ?_
    refine ew_draw follows [.known (rdr (.slice ad all.length cap) a f), .known (.int .i64 (unz x)), .known (.int .i64 (unz x)), .known T, .known T, .known E, .known E, .known E, .known T, .known T, .known T, .known R, .known A, .known (.pointer (some ⟨nb, 1, none⟩)), .known A, .known T, .known T, .known undef, .known T] [cb]
      (fun b w => Blk w nb 35 #[.slice ad all.length cap, .int .i64 (a : Int), .int .i64 f] ∧ Blk w cb 35 #[cond (b 17) (.slice ad all.length cap) (.slice none 0 0), cond (b 17) (.int .i64 (a : Int)) (.int .i64 0), cond (b 17) (.int .i64 f) (.int .i64 0)]) rfl (stable_known _ rfl) ⟨hn7, hc7⟩ ?_ ?_
    refine ⟨fun b V ρ w hk hbi hd hu hWd hV => el_loada (vs := [.slice ad all.length cap, .int .i64 (a : Int), .int .i64 f]) rfl rfl rfl rfl rfl rfl hWd.1 rfl (el_nil ⟨_, rfl, rfl, Keep.refl _ _, hWd⟩), ?_⟩
    refine ⟨pureD rfl (fun _ _ => rfl) (fun _ _ h => h), ?_⟩
    refine ⟨pureD rfl (fun _ _ => rfl) (fun _ _ h => h), ?_⟩
    refine ⟨fun b V ρ w hk hbi hd hu hWd hV => el_eqi true (by simp) rfl rfl rfl rfl (el_nil ⟨_, rfl, rfl, Keep.refl _ _, hWd⟩), ?_⟩
    refine ⟨pureD rfl (fun _ _ => rfl) (fun _ _ h => h), ?_⟩
    refine ⟨pureD rfl (fun _ _ => rfl) (fun _ _ h => h), ?_⟩
    refine ⟨fun b V ρ w hk hbi hd hu hWd hV => el_call rfl rfl rfl rfl rfl rfl (num_ok _ w) (by rintro _ _ ⟨rfl, rfl⟩; exact el_nil ⟨_, rfl, rfl, Keep.refl _ _, hWd⟩), ?_⟩
    refine ⟨pureD rfl (fun _ _ => rfl) (fun _ _ h => h), ?_⟩
    refine ⟨fun b V ρ w hk hbi hd hu hWd hV => el_eqi true (by simp) rfl rfl rfl rfl (el_nil ⟨_, rfl, rfl, Keep.refl _ _, hWd⟩), ?_⟩
    refine ⟨pureD rfl (fun _ _ => rfl) (fun _ _ h => h), ?_⟩
    refine ⟨pureD rfl (fun _ _ => rfl) (fun _ _ h => h), ?_⟩
    refine ⟨pureD rfl (fun _ _ => rfl) (fun _ _ h => h), ?_⟩
    refine ⟨fun b V ρ w hk hbi hd hu hWd hV => el_call rfl rfl rfl rfl rfl rfl (rat_ok gr all a f w (hR7.keep hk (by simp; omega) (NoE.one hc7 (by decide)))) (by rintro _ _ ⟨rfl, rfl⟩; exact el_nil ⟨_, rfl, rfl, Keep.refl _ _, hWd⟩), ?_⟩
    refine ⟨pureD rfl (fun _ _ => rfl) (fun _ _ h => h), ?_⟩
    refine ⟨fun b V ρ w hk hbi hd hu hWd hV => el_loadb rfl rfl rfl rfl rfl hWd.1 rfl (el_nil ⟨_, rfl, rfl, Keep.refl _ _, hWd⟩), ?_⟩
    refine ⟨fun b V ρ w hk hbi hd hu hWd hV => el_eqi true (by simp) rfl rfl rfl rfl (el_nil ⟨_, rfl, rfl, Keep.refl _ _, hWd⟩), ?_⟩
    refine ⟨pureD rfl (fun _ _ => rfl) (fun _ _ h => h), ?_⟩
    refine ⟨fun b V ρ w hk hbi hd hu hWd hV => el_store #[.slice ad all.length cap, .int .i64 (a : Int), .int .i64 f] rfl rfl rfl rfl rfl rfl rfl rfl hWd.2 rfl rfl fun w2 k2 hs2 hb2 => el_nil ⟨_, rfl, rfl, k2, k2.blk hWd.1 (by simp; omega), hb2⟩, ?_⟩
    refine ⟨pureD rfl (fun _ _ => rfl) (fun _ _ h => h), ?_⟩
    trivial
    intro b V w8 hall k8 hWd hV
    have hB := hWd.2
    rw [hall 17 (by decide)] at hB
    refine ew_ret (ret_l [rdr (.slice ad all.length cap) a f, .bool true] rfl rfl ⟨⟨_, rfl, rfl, run_loadVarA rfl rfl rfl hB⟩, ⟨rfl, rfl⟩, trivial⟩ ?_)
    rw [hT]
    exact ⟨rfl, hR7.keep k8 (by simp; omega) (NoE.one hc7 (by decide)), k07.trans k8 (by simp; omega)⟩
  refine ew_cond_f rfl (by simp [h1]) ?_
  refine es rfl ?_
  by_cases h2 : what = 2
  · subst h2
    obtain ⟨⟨x, e, a, f⟩, hS⟩ : ∃ x, (rdStep [] all at_ flaw (decide (n ≥ 0)) fun l => bytesR l n) = x := ⟨_, rfl⟩
    have hT : tkS 2 n all at_ flaw = (a, f) := by simp [tkS, hS]
    have hxl : x.length ≤ all.length := by
      have := bytes_len all at_ flaw (decide (n ≥ 0)) n
      rw [hS] at this
      exact this
    let E : Value := .int .i64 e
    let A : Value := .int .i64 (a : Int)
    let S : Value := .string (strOf x)
    have hspec := refrb_ok (.slice ad all.length cap) all at_ flaw n w3 hv3 hal hat
    rw [hS] at hspec
    refine ew_cond_t rfl rfl ?_
    refine sp rfl ?_
    refine el_loada (vs := [.slice ad all.length cap, .int .i64 (at_ : Int), .int .i64 flaw]) rfl rfl rfl rfl rfl rfl hb3 rfl ?_
    refine pp rfl ?_
    refine el_loadb rfl rfl rfl rfl rfl ht3 rfl ?_
    refine el_call rfl rfl rfl rfl rfl rfl hspec ?_
    rintro _ w4 ⟨u, rfl, hu4, k4, huv⟩
    obtain ⟨adu, capu, rfl, hcu⟩ := hu4.slice
    have hul : ∀ b, (Value.slice adu x.length capu).ownBlock = some b → b < w.heap.size ∧ b ≠ gr := fun b hb => hvl b (huv b hb)
    refine pp rfl ?_
    refine el_alloc (z := zr) #[.slice none 0 0, .int .i64 0, .int .i64 0] rfl rfl rfl rfl ?_
    intro nb w5 e5 e5' k5 hn5
    refine el_store #[.slice ad all.length cap, .int .i64 (a : Int), .int .i64 f] rfl rfl rfl rfl rfl rfl rfl rfl hn5 rfl rfl ?_
    intro w6 k6 hs6 hn6
    have k36 : Keep [] w3 w6 := (k4.trans0 k5).trans k6 (by have := k4.size; simp; omega)
    have hnc : cb < nb := by have := Blk.lt hc3; have := k4.size; omega
    have hngr : nb ≠ gr := by have := hR3.lt; have := k4.size; omega
    have hcgr : cb ≠ gr := hR3.ne hc3 (by decide)
    have hR6 := hR3.keep0 k36
    have ht6 := k36.blk ht3 (by simp)
    have hc6 := k36.blk hc3 (by simp)
    refine ep rfl ?_
    refine sp rfl ?_
    refine el_loadb rfl rfl rfl rfl rfl ht6 rfl ?_
    refine el_call rfl rfl rfl rfl rfl rfl (rbytes_ok gr all at_ flaw n w6 hR6) ?_
    intro rv w7 h7
    rw [hS] at h7
    obtain ⟨xv, B, rfl, hB, hown7, hR7, k7⟩ := h7
    dsimp only at hR7 hown7
    obtain ⟨adx, capx, rfl, hcx⟩ := own_slice hown7
    have k46 : Keep [] w4 w6 := k5.trans k6 (by simp; omega)
    have hu7 : RdB w7 (.slice adu x.length capu) x := (Rd.keep0 hu4 k46).keep k7 (fun b hb => by have := hul b hb; simp; omega)
    have hn7 := k7.blk hn6 (by simp; omega)
    have hc7 := k7.blk hc6 (by simp; omega)
    have k07 : Keep [gr] w w7 := (k03.trans0 k36).any.trans k7 (by simp)
    refine ep rfl ?_
    refine ew_seq ?_
    refine ew_draw follows [.known (.slice adu x.length capu), .known S, .known (.slice adx x.length capx), .known S, .known T, .known T, .known E, .known E, .known E, .known T, .known T, .known T, .known R, .known A, .known (.pointer (some ⟨nb, 1, none⟩)), .known A, .known T, .known T, .known T] []
      (fun b w => Blk w nb 35 #[.slice ad all.length cap, .int .i64 (a : Int), .int .i64 f] ∧ True) rfl (stable_known _ rfl) ⟨hn7, trivial⟩ ?_ ?_
    refine ⟨pureD rfl (fun _ _ => rfl) (fun _ _ h => h), ?_⟩
    refine ⟨fun b V ρ w hk hbi hd hu hWd hV => el_str rfl rfl rfl rfl rfl rfl (hu7.keep0 hk) (el_nil ⟨_, rfl, rfl, Keep.refl _ _, hWd⟩), ?_⟩
    refine ⟨pureD rfl (fun _ _ => rfl) (fun _ _ h => h), ?_⟩
    refine ⟨fun b V ρ w hk hbi hd hu hWd hV => el_str rfl rfl rfl rfl rfl rfl ((Rd.of_own hown7).keep0 hk) (el_nil ⟨_, rfl, rfl, Keep.refl _ _, hWd⟩), ?_⟩
    refine ⟨fun b V ρ w hk hbi hd hu hWd hV => el_streq true (by simp) rfl rfl rfl rfl (el_nil ⟨_, rfl, rfl, Keep.refl _ _, hWd⟩), ?_⟩
    refine ⟨pureD rfl (fun _ _ => rfl) (fun _ _ h => h), ?_⟩
    refine ⟨pureD rfl (fun _ _ => rfl) (fun _ _ h => h), ?_⟩
    refine ⟨fun b V ρ w hk hbi hd hu hWd hV => el_call rfl rfl rfl rfl rfl rfl (num_ok _ w) (by rintro _ _ ⟨rfl, rfl⟩; exact el_nil ⟨_, rfl, rfl, Keep.refl _ _, hWd⟩), ?_⟩
    refine ⟨pureD rfl (fun _ _ => rfl) (fun _ _ h => h), ?_⟩
    refine ⟨fun b V ρ w hk hbi hd hu hWd hV => el_eqi true (by simp) rfl rfl rfl rfl (el_nil ⟨_, rfl, rfl, Keep.refl _ _, hWd⟩), ?_⟩
    refine ⟨pureD rfl (fun _ _ => rfl) (fun _ _ h => h), ?_⟩
    refine ⟨pureD rfl (fun _ _ => rfl) (fun _ _ h => h), ?_⟩
    refine ⟨pureD rfl (fun _ _ => rfl) (fun _ _ h => h), ?_⟩
    refine ⟨fun b V ρ w hk hbi hd hu hWd hV => el_call rfl rfl rfl rfl rfl rfl (rat_ok gr all a f w (hR7.keep0 hk)) (by rintro _ _ ⟨rfl, rfl⟩; exact el_nil ⟨_, rfl, rfl, Keep.refl _ _, hWd⟩), ?_⟩
    refine ⟨pureD rfl (fun _ _ => rfl) (fun _ _ h => h), ?_⟩
    refine ⟨fun b V ρ w hk hbi hd hu hWd hV => el_loadb rfl rfl rfl rfl rfl hWd.1 rfl (el_nil ⟨_, rfl, rfl, Keep.refl _ _, hWd⟩), ?_⟩
    refine ⟨fun b V ρ w hk hbi hd hu hWd hV => el_eqi true (by simp) rfl rfl rfl rfl (el_nil ⟨_, rfl, rfl, Keep.refl _ _, hWd⟩), ?_⟩
    refine ⟨pureD rfl (fun _ _ => rfl) (fun _ _ h => h), ?_⟩
    refine ⟨pureD rfl (fun _ _ => rfl) (fun _ _ h => h), ?_⟩
    trivial
    intro b' V' w8 hall k8 _ hV
    have hR8 := hR7.keep0 k8
    have hown8 := own_keep hown7 k8 (by simp)
    have hn8 := k8.blk hn7 (by simp)
    have hc8 := k8.blk hc7 (by simp)
    have k08 := k07.trans0 k8
    have hyb : ∀ b, (Value.slice adx x.length capx).ownBlock = some b → w6.heap.size ≤ b := fun b hb => by have := hown7.lt b hb; omega
    obtain ⟨n8, hn8e⟩ : ∃ n8, x.length = n8 := ⟨_, rfl⟩
    have hn8l : n8 ≤ 70368744177664 := by rw [← hn8e]; omega
    have hyc : 0 < n8 → ∃ gb cs, adx = some ⟨gb, 0, none⟩ ∧ Blk w8 gb 5 cs ∧ ∀ j, j < n8 → ∃ c, cs[j]? = some (.int .u8 c) := by
      intro hpos
      rcases hown8.2 with ⟨e1, e2⟩ | ⟨gb, capY, cs, e1, e2, e3, e4, e5, e6, e7⟩
      · exfalso
        rw [hn8e] at e2
        omega
      · injection e1 with e1
        refine ⟨gb, cs, e1, e3, fun j hj => ?_⟩
        have h1 : (cs.toList.take (x.length * 1))[j]? = (bytesV x)[j]? := by rw [e7]
        rw [List.getElem?_take, if_pos (by omega)] at h1
        have hj2 : j < x.length := by omega
        refine ⟨(x[j].toNat : Int), ?_⟩
        rw [← Array.getElem?_toList, h1]
        rw [bytesV, List.getElem?_map, List.getElem?_eq_getElem hj2]
        rfl
    refine ew_seq (es rfl ?_)
    refine ew_block ?_
    refine ew_loop (α := Nat) (fun k => [(6, .pointer (some ⟨cb, 0, none⟩)), (18, .pointer (some ⟨nb, 0, none⟩)), (23 + 0, T), (21 + 0, .slice adx x.length capx), (24 + 0, .int .i64 (k : Int))])
      (fun k w' => k ≤ n8 ∧ Keep (Value.slice adx x.length capx).ownBlock.toList w8 w' ∧ (0 < n8 → ∃ gb cs, adx = some ⟨gb, 0, none⟩ ∧ Blk w' gb 5 cs ∧ ∀ j, j < n8 → ∃ c, cs[j]? = some (.int .u8 c))) (fun k => n8 - k)
      0 ⟨rfl, rfl, rfl, rfl, rfl, trivial⟩ ⟨Nat.zero_le _, Keep.refl _ _, hyc⟩ ?_
    rintro k ρ9 w9 hd9 ⟨hk, k89, hcs9⟩
    refine ew_seq (es rfl ?_)
    by_cases hkn : k < n8
    · refine ew_cond_t rfl (decide_eq_true (by omega)) ?_
      refine ew_skip ?_
      obtain ⟨gb, cs, rfl, a4, a5⟩ := hcs9 (by omega)
      obtain ⟨c, hc⟩ := a5 k hkn
      have hks : k < cs.size := (Array.getElem?_eq_some_iff.1 hc).1
      have hce : w9.cell? ((⟨gb, 0, none⟩ : Addr).add k) = some (.int .u8 c) := by
        rw [add_lit, Blk.cell a4, Nat.zero_add]
        exact hc
      refine ew_seq (ew_block ?_)
      refine gp rfl ?_
      refine el_index (e := 5) (j := k) (p := k) rfl rfl rfl rfl rfl rfl (by omega) (Nat.mul_one _) rfl ?_
      refine el_load rfl rfl rfl rfl rfl hce ?_
      refine pp rfl ?_
      refine el_index (e := 5) (j := k) (p := k) rfl rfl rfl rfl rfl rfl (by omega) (Nat.mul_one _) rfl ?_
      refine el_store (off := 0 + k) (vs := [.int .u8 (IntKind.wrap .u8 (c + 1))]) (setL cs (0 + k) [.int .u8 (IntKind.wrap .u8 (c + 1))]) rfl rfl (congrArg (fun z => Value.pointer (some z)) (add_lit gb 0 k)) rfl rfl rfl rfl rfl a4 (Nat.ble_eq_true_of_le (by simp; omega)) rfl ?_
      intro w10 k910 hs10 hb10
      refine ep rfl ?_
      refine eg rfl ?_
      refine ⟨by exact hd9, k + 1, ⟨rfl, rfl, rfl, rfl, int_eq (by rw [wrap_i64 (by omega) (by omega)]; omega), trivial⟩, ⟨hkn, k89.trans k910 (fun b hb _ => by simp at hb; simp [Value.ownBlock, hb]), fun _ => ⟨gb, _, rfl, hb10, fun j hj => ?_⟩⟩, by omega⟩
      rw [Nat.zero_add, setL_get hks]
      by_cases e : j = k
      · exact ⟨_, by rw [if_pos e]⟩
      · rw [if_neg e]
        exact a5 j hj
    · refine ew_cond_f rfl (decide_eq_false (by omega)) ?_
      refine ew_exit ?_
      have hyb2 : ∀ b ∈ (Value.slice adx x.length capx).ownBlock.toList, w6.heap.size ≤ b := fun b hb => hyb b (by simpa using hb)
      have hnb6 := Blk.lt hn6
      have hcb6 := Blk.lt hc6
      have hgr6 := hR6.lt
      have hn9 := k89.blk hn8 (fun h => by have := hyb2 _ h; omega)
      have hc9 := k89.blk hc8 (fun h => by have := hyb2 _ h; omega)
      have hR9 := hR8.keepb k89 (fun b hb => by have := hyb2 b hb; omega)
      have k09 : Keep [gr] w w9 := k08.trans k89 (fun b hb hlt => by have := hyb2 b hb; have := (k03.trans0 k36).size; omega)
      refine sp rfl ?_
      refine el_loada (vs := [.slice ad all.length cap, .int .i64 (a : Int), .int .i64 f]) rfl rfl rfl rfl rfl rfl hn9 rfl ?_
      refine pp rfl ?_
      refine el_store #[.slice ad all.length cap, .int .i64 (a : Int), .int .i64 f] rfl rfl rfl rfl rfl rfl rfl rfl hc9 rfl rfl ?_
      intro w10 k10 hs10 hc10
      refine ep rfl ?_
      refine ew_ret (ret_l [rdr (.slice ad all.length cap) a f, .bool true] rfl (by exact hd9) ⟨⟨_, rfl, rfl, run_loadVarA rfl rfl rfl hc10⟩, ⟨rfl, rfl⟩, trivial⟩ ?_)
      rw [hT]
      exact ⟨rfl, hR9.keep k10 (by simp; omega) (NoE.one hc9 (by decide)), k09.trans k10 (by simp; omega)⟩
  refine ew_cond_f rfl (by simp [h2]) ?_
  refine es rfl ?_
  by_cases h3 : what = 3
  · subst h3
    obtain ⟨⟨x, e, a, f⟩, hS⟩ : ∃ x, (rdStep [] all at_ flaw (decide (n ≥ 0)) fun l => bytesR l n) = x := ⟨_, rfl⟩
    have hT : tkS 3 n all at_ flaw = (a, f) := by simp [tkS, hS]
    let E : Value := .int .i64 e
    let A : Value := .int .i64 (a : Int)
    let S : Value := .string (strOf x)
    have hspec := refrb_ok (.slice ad all.length cap) all at_ flaw n w3 hv3 hal hat
    rw [hS] at hspec
    refine ew_cond_t rfl rfl ?_
    refine sp rfl ?_
    refine el_loada (vs := [.slice ad all.length cap, .int .i64 (at_ : Int), .int .i64 flaw]) rfl rfl rfl rfl rfl rfl hb3 rfl ?_
    refine pp rfl ?_
    refine el_loadb rfl rfl rfl rfl rfl ht3 rfl ?_
    refine el_call rfl rfl rfl rfl rfl rfl hspec ?_
    rintro _ w4 ⟨u, rfl, hu4, k4, huv⟩
    obtain ⟨adu, capu, rfl, hcu⟩ := hu4.slice
    have hul : ∀ b, (Value.slice adu x.length capu).ownBlock = some b → b < w.heap.size ∧ b ≠ gr := fun b hb => hvl b (huv b hb)
    refine pp rfl ?_
    refine el_alloc (z := zr) #[.slice none 0 0, .int .i64 0, .int .i64 0] rfl rfl rfl rfl ?_
    intro nb w5 e5 e5' k5 hn5
    refine el_store #[.slice ad all.length cap, .int .i64 (a : Int), .int .i64 f] rfl rfl rfl rfl rfl rfl rfl rfl hn5 rfl rfl ?_
    intro w6 k6 hs6 hn6
    have k36 : Keep [] w3 w6 := (k4.trans0 k5).trans k6 (by have := k4.size; simp; omega)
    have hnc : cb < nb := by have := Blk.lt hc3; have := k4.size; omega
    have hngr : nb ≠ gr := by have := hR3.lt; have := k4.size; omega
    have hcgr : cb ≠ gr := hR3.ne hc3 (by decide)
    have hR6 := hR3.keep0 k36
    have ht6 := k36.blk ht3 (by simp)
    have hc6 := k36.blk hc3 (by simp)
    refine ep rfl ?_
    refine sp rfl ?_
    refine el_loadb rfl rfl rfl rfl rfl ht6 rfl ?_
    refine el_call rfl rfl rfl rfl rfl rfl (rtext_ok gr all at_ flaw n w6 hR6) ?_
    intro rv w7 h7
    rw [hS] at h7
    obtain ⟨rfl, hR7, k7⟩ := h7
    dsimp only at hR7
    have k46 : Keep [] w4 w6 := k5.trans k6 (by simp; omega)
    have hu7 : RdB w7 (.slice adu x.length capu) x := (Rd.keep0 hu4 k46).keep k7 (fun b hb => by have := hul b hb; simp; omega)
    have hwc : w.heap.size ≤ cb := by omega
    have hn7 := k7.blk hn6 (by simp; omega)
    have hc7 := k7.blk hc6 (by simp; omega)
    have k07 : Keep [gr] w w7 := (k03.trans0 k36).any.trans k7 (by simp)
    refine ep rfl ?_
    refine ew_seq ?_
    refine ew_draw follows [.known (rdr (.slice ad all.length cap) a f), .known (.slice adu x.length capu), .known S, .known S, .known T, .known T, .known E, .known E, .known E, .known T, .known T, .known T, .known R, .known A, .known (.pointer (some ⟨nb, 1, none⟩)), .known A, .known T, .known T, .known undef, .known T] [cb]
      (fun b w => Blk w nb 35 #[.slice ad all.length cap, .int .i64 (a : Int), .int .i64 f] ∧ Blk w cb 35 #[cond (b 18) (.slice ad all.length cap) (.slice none 0 0), cond (b 18) (.int .i64 (a : Int)) (.int .i64 0), cond (b 18) (.int .i64 f) (.int .i64 0)]) rfl (stable_known _ rfl) ⟨hn7, hc7⟩ ?_ ?_
    refine ⟨fun b V ρ w hk hbi hd hu hWd hV => el_loada (vs := [.slice ad all.length cap, .int .i64 (a : Int), .int .i64 f]) rfl rfl rfl rfl rfl rfl hWd.1 rfl (el_nil ⟨_, rfl, rfl, Keep.refl _ _, hWd⟩), ?_⟩
    refine ⟨pureD rfl (fun _ _ => rfl) (fun _ _ h => h), ?_⟩
    refine ⟨fun b V ρ w hk hbi hd hu hWd hV => el_str rfl rfl rfl rfl rfl rfl (hu7.keep hk (fun b hb => by have := hul b hb; simp; omega)) (el_nil ⟨_, rfl, rfl, Keep.refl _ _, hWd⟩), ?_⟩
    refine ⟨pureD rfl (fun _ _ => rfl) (fun _ _ h => h), ?_⟩
    refine ⟨fun b V ρ w hk hbi hd hu hWd hV => el_streq true (by simp) rfl rfl rfl rfl (el_nil ⟨_, rfl, rfl, Keep.refl _ _, hWd⟩), ?_⟩
    refine ⟨pureD rfl (fun _ _ => rfl) (fun _ _ h => h), ?_⟩
    refine ⟨pureD rfl (fun _ _ => rfl) (fun _ _ h => h), ?_⟩
    refine ⟨fun b V ρ w hk hbi hd hu hWd hV => el_call rfl rfl rfl rfl rfl rfl (num_ok _ w) (by rintro _ _ ⟨rfl, rfl⟩; exact el_nil ⟨_, rfl, rfl, Keep.refl _ _, hWd⟩), ?_⟩
    refine ⟨pureD rfl (fun _ _ => rfl) (fun _ _ h => h), ?_⟩
    refine ⟨fun b V ρ w hk hbi hd hu hWd hV => el_eqi true (by simp) rfl rfl rfl rfl (el_nil ⟨_, rfl, rfl, Keep.refl _ _, hWd⟩), ?_⟩
    refine ⟨pureD rfl (fun _ _ => rfl) (fun _ _ h => h), ?_⟩
    refine ⟨pureD rfl (fun _ _ => rfl) (fun _ _ h => h), ?_⟩
    refine ⟨pureD rfl (fun _ _ => rfl) (fun _ _ h => h), ?_⟩
    refine ⟨fun b V ρ w hk hbi hd hu hWd hV => el_call rfl rfl rfl rfl rfl rfl (rat_ok gr all a f w (hR7.keep hk (by simp; omega) (NoE.one hc7 (by decide)))) (by rintro _ _ ⟨rfl, rfl⟩; exact el_nil ⟨_, rfl, rfl, Keep.refl _ _, hWd⟩), ?_⟩
    refine ⟨pureD rfl (fun _ _ => rfl) (fun _ _ h => h), ?_⟩
    refine ⟨fun b V ρ w hk hbi hd hu hWd hV => el_loadb rfl rfl rfl rfl rfl hWd.1 rfl (el_nil ⟨_, rfl, rfl, Keep.refl _ _, hWd⟩), ?_⟩
    refine ⟨fun b V ρ w hk hbi hd hu hWd hV => el_eqi true (by simp) rfl rfl rfl rfl (el_nil ⟨_, rfl, rfl, Keep.refl _ _, hWd⟩), ?_⟩
    refine ⟨pureD rfl (fun _ _ => rfl) (fun _ _ h => h), ?_⟩
    refine ⟨fun b V ρ w hk hbi hd hu hWd hV => el_store #[.slice ad all.length cap, .int .i64 (a : Int), .int .i64 f] rfl rfl rfl rfl rfl rfl rfl rfl hWd.2 rfl rfl fun w2 k2 hs2 hb2 => el_nil ⟨_, rfl, rfl, k2, k2.blk hWd.1 (by simp; omega), hb2⟩, ?_⟩
    refine ⟨pureD rfl (fun _ _ => rfl) (fun _ _ h => h), ?_⟩
    trivial
    intro b V w8 hall k8 hWd hV
    have hB := hWd.2
    rw [hall 18 (by decide)] at hB
    refine ew_ret (ret_l [rdr (.slice ad all.length cap) a f, .bool true] rfl rfl ⟨⟨_, rfl, rfl, run_loadVarA rfl rfl rfl hB⟩, ⟨rfl, rfl⟩, trivial⟩ ?_)
    rw [hT]
    exact ⟨rfl, hR7.keep k8 (by simp; omega) (NoE.one hc7 (by decide)), k07.trans k8 (by simp; omega)⟩
  refine ew_cond_f rfl (by simp [h3]) ?_
  refine es rfl ?_
  by_cases h4 : what = 4
  · subst h4
    obtain ⟨⟨x, e, a, f⟩, hS⟩ : ∃ x, (rdStep false all at_ flaw true truthR) = x := ⟨_, rfl⟩
    have hT : tkS 4 n all at_ flaw = (a, f) := by simp [tkS, hS]
    let E : Value := .int .i64 e
    let A : Value := .int .i64 (a : Int)
    have hspec := refrt_ok (.slice ad all.length cap) all at_ flaw w3 hv3 hal hat
    rw [hS] at hspec
    refine ew_cond_t rfl rfl ?_
    refine sp rfl ?_
    refine el_loada (vs := [.slice ad all.length cap, .int .i64 (at_ : Int), .int .i64 flaw]) rfl rfl rfl rfl rfl rfl hb3 rfl ?_
    refine el_call rfl rfl rfl rfl rfl rfl hspec ?_
    rintro _ w4 ⟨rfl, k4⟩
    refine pp rfl ?_
    refine el_alloc (z := zr) #[.slice none 0 0, .int .i64 0, .int .i64 0] rfl rfl rfl rfl ?_
    intro nb w5 e5 e5' k5 hn5
    refine el_store #[.slice ad all.length cap, .int .i64 (a : Int), .int .i64 f] rfl rfl rfl rfl rfl rfl rfl rfl hn5 rfl rfl ?_
    intro w6 k6 hs6 hn6
    have k36 : Keep [] w3 w6 := (k4.trans0 k5).trans k6 (by have := k4.size; simp; omega)
    have hnc : cb < nb := by have := Blk.lt hc3; have := k4.size; omega
    have hngr : nb ≠ gr := by have := hR3.lt; have := k4.size; omega
    have hcgr : cb ≠ gr := hR3.ne hc3 (by decide)
    have hR6 := hR3.keep0 k36
    have ht6 := k36.blk ht3 (by simp)
    have hc6 := k36.blk hc3 (by simp)
    refine ep rfl ?_
    refine sp rfl ?_
    refine el_call rfl rfl rfl rfl rfl rfl (rtruth_ok gr all at_ flaw w6 hR6) ?_
    intro rv w7 h7
    rw [hS] at h7
    obtain ⟨rfl, hR7, k7⟩ := h7
    dsimp only at hR7
    have hn7 := k7.blk hn6 (by simp; omega)
    have hc7 := k7.blk hc6 (by simp; omega)
    have k07 : Keep [gr] w w7 := (k03.trans0 k36).any.trans k7 (by simp)
    refine ep rfl ?_
    refine ew_seq ?_
    refine ew_draw follows [.known (rdr (.slice ad all.length cap) a f), .known (.bool x), .known (.bool x), .known T, .known T, .known E, .known E, .known E, .known T, .known T, .known T, .known R, .known A, .known (.pointer (some ⟨nb, 1, none⟩)), .known A, .known T, .known T, .known undef, .known T] [cb]
      (fun b w => Blk w nb 35 #[.slice ad all.length cap, .int .i64 (a : Int), .int .i64 f] ∧ Blk w cb 35 #[cond (b 17) (.slice ad all.length cap) (.slice none 0 0), cond (b 17) (.int .i64 (a : Int)) (.int .i64 0), cond (b 17) (.int .i64 f) (.int .i64 0)]) rfl (stable_known _ rfl) ⟨hn7, hc7⟩ ?_ ?_
    refine ⟨fun b V ρ w hk hbi hd hu hWd hV => el_loada (vs := [.slice ad all.length cap, .int .i64 (a : Int), .int .i64 f]) rfl rfl rfl rfl rfl rfl hWd.1 rfl (el_nil ⟨_, rfl, rfl, Keep.refl _ _, hWd⟩), ?_⟩
    refine ⟨pureD rfl (fun _ _ => rfl) (fun _ _ h => h), ?_⟩
    refine ⟨pureD rfl (fun _ _ => rfl) (fun _ _ h => h), ?_⟩
    refine ⟨fun b V ρ w hk hbi hd hu hWd hV => pp rfl (el_as (v' := T) (bool_eq (by simp)) (el_nil ⟨_, rfl, rfl, Keep.refl _ _, hWd⟩)), ?_⟩
    refine ⟨pureD rfl (fun _ _ => rfl) (fun _ _ h => h), ?_⟩
    refine ⟨pureD rfl (fun _ _ => rfl) (fun _ _ h => h), ?_⟩
    refine ⟨fun b V ρ w hk hbi hd hu hWd hV => el_call rfl rfl rfl rfl rfl rfl (num_ok _ w) (by rintro _ _ ⟨rfl, rfl⟩; exact el_nil ⟨_, rfl, rfl, Keep.refl _ _, hWd⟩), ?_⟩
    refine ⟨pureD rfl (fun _ _ => rfl) (fun _ _ h => h), ?_⟩
    refine ⟨fun b V ρ w hk hbi hd hu hWd hV => el_eqi true (by simp) rfl rfl rfl rfl (el_nil ⟨_, rfl, rfl, Keep.refl _ _, hWd⟩), ?_⟩
    refine ⟨pureD rfl (fun _ _ => rfl) (fun _ _ h => h), ?_⟩
    refine ⟨pureD rfl (fun _ _ => rfl) (fun _ _ h => h), ?_⟩
    refine ⟨pureD rfl (fun _ _ => rfl) (fun _ _ h => h), ?_⟩
    refine ⟨fun b V ρ w hk hbi hd hu hWd hV => el_call rfl rfl rfl rfl rfl rfl (rat_ok gr all a f w (hR7.keep hk (by simp; omega) (NoE.one hc7 (by decide)))) (by rintro _ _ ⟨rfl, rfl⟩; exact el_nil ⟨_, rfl, rfl, Keep.refl _ _, hWd⟩), ?_⟩
    refine ⟨pureD rfl (fun _ _ => rfl) (fun _ _ h => h), ?_⟩
    refine ⟨fun b V ρ w hk hbi hd hu hWd hV => el_loadb rfl rfl rfl rfl rfl hWd.1 rfl (el_nil ⟨_, rfl, rfl, Keep.refl _ _, hWd⟩), ?_⟩
    refine ⟨fun b V ρ w hk hbi hd hu hWd hV => el_eqi true (by simp) rfl rfl rfl rfl (el_nil ⟨_, rfl, rfl, Keep.refl _ _, hWd⟩), ?_⟩
    refine ⟨pureD rfl (fun _ _ => rfl) (fun _ _ h => h), ?_⟩
    refine ⟨fun b V ρ w hk hbi hd hu hWd hV => el_store #[.slice ad all.length cap, .int .i64 (a : Int), .int .i64 f] rfl rfl rfl rfl rfl rfl rfl rfl hWd.2 rfl rfl fun w2 k2 hs2 hb2 => el_nil ⟨_, rfl, rfl, k2, k2.blk hWd.1 (by simp; omega), hb2⟩, ?_⟩
    refine ⟨pureD rfl (fun _ _ => rfl) (fun _ _ h => h), ?_⟩
    trivial
    intro b V w8 hall k8 hWd hV
    have hB := hWd.2
    rw [hall 17 (by decide)] at hB
    refine ew_ret (ret_l [rdr (.slice ad all.length cap) a f, .bool true] rfl rfl ⟨⟨_, rfl, rfl, run_loadVarA rfl rfl rfl hB⟩, ⟨rfl, rfl⟩, trivial⟩ ?_)
    rw [hT]
    exact ⟨rfl, hR7.keep k8 (by simp; omega) (NoE.one hc7 (by decide)), k07.trans k8 (by simp; omega)⟩
  refine ew_cond_f rfl (by simp [h4]) ?_
  refine es rfl ?_
  by_cases h5 : what = 5
  · subst h5
    obtain ⟨⟨x, e, a, f⟩, hS⟩ : ∃ x, (rdStep [] all at_ flaw (decide (n ≥ 0)) fun l => rawR l n.toNat) = x := ⟨_, rfl⟩
    have hT : tkS 5 n all at_ flaw = (a, f) := by simp [tkS, hS]
    have hxl : x.length ≤ all.length := by
      have := raw_len all at_ flaw (decide (n ≥ 0)) n.toNat
      rw [hS] at this
      exact this
    let E : Value := .int .i64 e
    let A : Value := .int .i64 (a : Int)
    let S : Value := .string (strOf x)
    have hspec := refrr_ok (.slice ad all.length cap) all at_ flaw n w3 hv3 hal hat
    rw [hS] at hspec
    refine ew_cond_t rfl rfl ?_
    refine sp rfl ?_
    refine el_loada (vs := [.slice ad all.length cap, .int .i64 (at_ : Int), .int .i64 flaw]) rfl rfl rfl rfl rfl rfl hb3 rfl ?_
    refine pp rfl ?_
    refine el_loadb rfl rfl rfl rfl rfl ht3 rfl ?_
    refine el_call rfl rfl rfl rfl rfl rfl hspec ?_
    rintro _ w4 ⟨u, rfl, hu4, k4, huv⟩
    obtain ⟨adu, capu, rfl, hcu⟩ := hu4.slice
    have hul : ∀ b, (Value.slice adu x.length capu).ownBlock = some b → b < w.heap.size ∧ b ≠ gr := fun b hb => hvl b (huv b hb)
    refine pp rfl ?_
    refine el_alloc (z := zr) #[.slice none 0 0, .int .i64 0, .int .i64 0] rfl rfl rfl rfl ?_
    intro nb w5 e5 e5' k5 hn5
    refine el_store #[.slice ad all.length cap, .int .i64 (a : Int), .int .i64 f] rfl rfl rfl rfl rfl rfl rfl rfl hn5 rfl rfl ?_
    intro w6 k6 hs6 hn6
    have k36 : Keep [] w3 w6 := (k4.trans0 k5).trans k6 (by have := k4.size; simp; omega)
    have hnc : cb < nb := by have := Blk.lt hc3; have := k4.size; omega
    have hngr : nb ≠ gr := by have := hR3.lt; have := k4.size; omega
    have hcgr : cb ≠ gr := hR3.ne hc3 (by decide)
    have hR6 := hR3.keep0 k36
    have ht6 := k36.blk ht3 (by simp)
    have hc6 := k36.blk hc3 (by simp)
    refine ep rfl ?_
    refine sp rfl ?_
    refine el_loadb rfl rfl rfl rfl rfl ht6 rfl ?_
    refine el_call rfl rfl rfl rfl rfl rfl (rraw_ok gr all at_ flaw n w6 hR6) ?_
    intro rv w7 h7
    rw [hS] at h7
    obtain ⟨xv, B, rfl, hB, hown7, hR7, k7⟩ := h7
    dsimp only at hR7 hown7
    obtain ⟨adx, capx, rfl, hcx⟩ := own_slice hown7
    have k46 : Keep [] w4 w6 := k5.trans k6 (by simp; omega)
    have hu7 : RdB w7 (.slice adu x.length capu) x := (Rd.keep0 hu4 k46).keep k7 (fun b hb => by have := hul b hb; simp; omega)
    have hn7 := k7.blk hn6 (by simp; omega)
    have hc7 := k7.blk hc6 (by simp; omega)
    have k07 : Keep [gr] w w7 := (k03.trans0 k36).any.trans k7 (by simp)
    refine ep rfl ?_
    refine ew_seq ?_
    refine ew_draw follows [.known (.slice adu x.length capu), .known S, .known (.slice adx x.length capx), .known S, .known T, .known T, .known E, .known E, .known E, .known T, .known T, .known T, .known R, .known A, .known (.pointer (some ⟨nb, 1, none⟩)), .known A, .known T, .known T, .known T] []
      (fun b w => Blk w nb 35 #[.slice ad all.length cap, .int .i64 (a : Int), .int .i64 f] ∧ True) rfl (stable_known _ rfl) ⟨hn7, trivial⟩ ?_ ?_
    refine ⟨pureD rfl (fun _ _ => rfl) (fun _ _ h => h), ?_⟩
    refine ⟨fun b V ρ w hk hbi hd hu hWd hV => el_str rfl rfl rfl rfl rfl rfl (hu7.keep0 hk) (el_nil ⟨_, rfl, rfl, Keep.refl _ _, hWd⟩), ?_⟩
    refine ⟨pureD rfl (fun _ _ => rfl) (fun _ _ h => h), ?_⟩
    refine ⟨fun b V ρ w hk hbi hd hu hWd hV => el_str rfl rfl rfl rfl rfl rfl ((Rd.of_own hown7).keep0 hk) (el_nil ⟨_, rfl, rfl, Keep.refl _ _, hWd⟩), ?_⟩
    refine ⟨fun b V ρ w hk hbi hd hu hWd hV => el_streq true (by simp) rfl rfl rfl rfl (el_nil ⟨_, rfl, rfl, Keep.refl _ _, hWd⟩), ?_⟩
    refine ⟨pureD rfl (fun _ _ => rfl) (fun _ _ h => h), ?_⟩
    refine ⟨pureD rfl (fun _ _ => rfl) (fun _ _ h => h), ?_⟩
    refine ⟨fun b V ρ w hk hbi hd hu hWd hV => el_call rfl rfl rfl rfl rfl rfl (num_ok _ w) (by rintro _ _ ⟨rfl, rfl⟩; exact el_nil ⟨_, rfl, rfl, Keep.refl _ _, hWd⟩), ?_⟩
    refine ⟨pureD rfl (fun _ _ => rfl) (fun _ _ h => h), ?_⟩
    refine ⟨fun b V ρ w hk hbi hd hu hWd hV => el_eqi true (by simp) rfl rfl rfl rfl (el_nil ⟨_, rfl, rfl, Keep.refl _ _, hWd⟩), ?_⟩
    refine ⟨pureD rfl (fun _ _ => rfl) (fun _ _ h => h), ?_⟩
    refine ⟨pureD rfl (fun _ _ => rfl) (fun _ _ h => h), ?_⟩
    refine ⟨pureD rfl (fun _ _ => rfl) (fun _ _ h => h), ?_⟩
    refine ⟨fun b V ρ w hk hbi hd hu hWd hV => el_call rfl rfl rfl rfl rfl rfl (rat_ok gr all a f w (hR7.keep0 hk)) (by rintro _ _ ⟨rfl, rfl⟩; exact el_nil ⟨_, rfl, rfl, Keep.refl _ _, hWd⟩), ?_⟩
    refine ⟨pureD rfl (fun _ _ => rfl) (fun _ _ h => h), ?_⟩
    refine ⟨fun b V ρ w hk hbi hd hu hWd hV => el_loadb rfl rfl rfl rfl rfl hWd.1 rfl (el_nil ⟨_, rfl, rfl, Keep.refl _ _, hWd⟩), ?_⟩
    refine ⟨fun b V ρ w hk hbi hd hu hWd hV => el_eqi true (by simp) rfl rfl rfl rfl (el_nil ⟨_, rfl, rfl, Keep.refl _ _, hWd⟩), ?_⟩
    refine ⟨pureD rfl (fun _ _ => rfl) (fun _ _ h => h), ?_⟩
    refine ⟨pureD rfl (fun _ _ => rfl) (fun _ _ h => h), ?_⟩
    trivial
    intro b' V' w8 hall k8 _ hV
    have hR8 := hR7.keep0 k8
    have hown8 := own_keep hown7 k8 (by simp)
    have hn8 := k8.blk hn7 (by simp)
    have hc8 := k8.blk hc7 (by simp)
    have k08 := k07.trans0 k8
    have hyb : ∀ b, (Value.slice adx x.length capx).ownBlock = some b → w6.heap.size ≤ b := fun b hb => by have := hown7.lt b hb; omega
    obtain ⟨n8, hn8e⟩ : ∃ n8, x.length = n8 := ⟨_, rfl⟩
    have hn8l : n8 ≤ 70368744177664 := by rw [← hn8e]; omega
    have hyc : 0 < n8 → ∃ gb cs, adx = some ⟨gb, 0, none⟩ ∧ Blk w8 gb 5 cs ∧ ∀ j, j < n8 → ∃ c, cs[j]? = some (.int .u8 c) := by
      intro hpos
      rcases hown8.2 with ⟨e1, e2⟩ | ⟨gb, capY, cs, e1, e2, e3, e4, e5, e6, e7⟩
      · exfalso
        rw [hn8e] at e2
        omega
      · injection e1 with e1
        refine ⟨gb, cs, e1, e3, fun j hj => ?_⟩
        have h1 : (cs.toList.take (x.length * 1))[j]? = (bytesV x)[j]? := by rw [e7]
        rw [List.getElem?_take, if_pos (by omega)] at h1
        have hj2 : j < x.length := by omega
        refine ⟨(x[j].toNat : Int), ?_⟩
        rw [← Array.getElem?_toList, h1]
        rw [bytesV, List.getElem?_map, List.getElem?_eq_getElem hj2]
        rfl
    refine ew_seq (es rfl ?_)
    refine ew_block ?_
    refine ew_loop (α := Nat) (fun k => [(6, .pointer (some ⟨cb, 0, none⟩)), (35, .pointer (some ⟨nb, 0, none⟩)), (23 + 17, T), (21 + 17, .slice adx x.length capx), (24 + 17, .int .i64 (k : Int))])
      (fun k w' => k ≤ n8 ∧ Keep (Value.slice adx x.length capx).ownBlock.toList w8 w' ∧ (0 < n8 → ∃ gb cs, adx = some ⟨gb, 0, none⟩ ∧ Blk w' gb 5 cs ∧ ∀ j, j < n8 → ∃ c, cs[j]? = some (.int .u8 c))) (fun k => n8 - k)
      0 ⟨rfl, rfl, rfl, rfl, rfl, trivial⟩ ⟨Nat.zero_le _, Keep.refl _ _, hyc⟩ ?_
    rintro k ρ9 w9 hd9 ⟨hk, k89, hcs9⟩
    refine ew_seq (es rfl ?_)
    by_cases hkn : k < n8
    · refine ew_cond_t rfl (decide_eq_true (by omega)) ?_
      refine ew_skip ?_
      obtain ⟨gb, cs, rfl, a4, a5⟩ := hcs9 (by omega)
      obtain ⟨c, hc⟩ := a5 k hkn
      have hks : k < cs.size := (Array.getElem?_eq_some_iff.1 hc).1
      have hce : w9.cell? ((⟨gb, 0, none⟩ : Addr).add k) = some (.int .u8 c) := by
        rw [add_lit, Blk.cell a4, Nat.zero_add]
        exact hc
      refine ew_seq (ew_block ?_)
      refine gp rfl ?_
      refine el_index (e := 5) (j := k) (p := k) rfl rfl rfl rfl rfl rfl (by omega) (Nat.mul_one _) rfl ?_
      refine el_load rfl rfl rfl rfl rfl hce ?_
      refine pp rfl ?_
      refine el_index (e := 5) (j := k) (p := k) rfl rfl rfl rfl rfl rfl (by omega) (Nat.mul_one _) rfl ?_
      refine el_store (off := 0 + k) (vs := [.int .u8 (IntKind.wrap .u8 (c + 1))]) (setL cs (0 + k) [.int .u8 (IntKind.wrap .u8 (c + 1))]) rfl rfl (congrArg (fun z => Value.pointer (some z)) (add_lit gb 0 k)) rfl rfl rfl rfl rfl a4 (Nat.ble_eq_true_of_le (by simp; omega)) rfl ?_
      intro w10 k910 hs10 hb10
      refine ep rfl ?_
      refine eg rfl ?_
      refine ⟨by exact hd9, k + 1, ⟨rfl, rfl, rfl, rfl, int_eq (by rw [wrap_i64 (by omega) (by omega)]; omega), trivial⟩, ⟨hkn, k89.trans k910 (fun b hb _ => by simp at hb; simp [Value.ownBlock, hb]), fun _ => ⟨gb, _, rfl, hb10, fun j hj => ?_⟩⟩, by omega⟩
      rw [Nat.zero_add, setL_get hks]
      by_cases e : j = k
      · exact ⟨_, by rw [if_pos e]⟩
      · rw [if_neg e]
        exact a5 j hj
    · refine ew_cond_f rfl (decide_eq_false (by omega)) ?_
      refine ew_exit ?_
      have hyb2 : ∀ b ∈ (Value.slice adx x.length capx).ownBlock.toList, w6.heap.size ≤ b := fun b hb => hyb b (by simpa using hb)
      have hnb6 := Blk.lt hn6
      have hcb6 := Blk.lt hc6
      have hgr6 := hR6.lt
      have hn9 := k89.blk hn8 (fun h => by have := hyb2 _ h; omega)
      have hc9 := k89.blk hc8 (fun h => by have := hyb2 _ h; omega)
      have hR9 := hR8.keepb k89 (fun b hb => by have := hyb2 b hb; omega)
      have k09 : Keep [gr] w w9 := k08.trans k89 (fun b hb hlt => by have := hyb2 b hb; have := (k03.trans0 k36).size; omega)
      refine sp rfl ?_
      refine el_loada (vs := [.slice ad all.length cap, .int .i64 (a : Int), .int .i64 f]) rfl rfl rfl rfl rfl rfl hn9 rfl ?_
      refine pp rfl ?_
      refine el_store #[.slice ad all.length cap, .int .i64 (a : Int), .int .i64 f] rfl rfl rfl rfl rfl rfl rfl rfl hc9 rfl rfl ?_
      intro w10 k10 hs10 hc10
      refine ep rfl ?_
      refine ew_ret (ret_l [rdr (.slice ad all.length cap) a f, .bool true] rfl (by exact hd9) ⟨⟨_, rfl, rfl, run_loadVarA rfl rfl rfl hc10⟩, ⟨rfl, rfl⟩, trivial⟩ ?_)
      rw [hT]
      exact ⟨rfl, hR9.keep k10 (by simp; omega) (NoE.one hc9 (by decide)), k09.trans k10 (by simp; omega)⟩
  refine ew_cond_f rfl (by simp [h5]) ?_
  refine ew_skip ?_
  have hT : tkS what n all at_ flaw = (at_, flaw) := by simp [tkS, h0, h1, h2, h3, h4, h5]
  obtain ⟨a, ha⟩ : ∃ a, at_ = a := ⟨_, rfl⟩
  obtain ⟨f, hf⟩ : ∃ f, flaw = f := ⟨_, rfl⟩
  subst ha
  subst hf
  obtain ⟨e, he⟩ : ∃ e : Int, (if flaw ≠ 0 then flaw else if at_ < all.length then 122 else 0) = e := ⟨_, rfl⟩
  let E : Value := .int .i64 e
  let A : Value := .int .i64 (at_ : Int)
  have hbc : bb < cb := by omega
  refine ew_seq ?_
  refine ew_draw follows [.known (rdr (.slice ad all.length cap) at_ flaw), .known R, .known E, .known E, .known (rdr (.slice ad all.length cap) at_ flaw), .known E, .known T, .known T, .known R, .known A, .known (.pointer (some ⟨bb, 1, none⟩)), .known A, .known T, .known T, .known undef, .known T] [cb]
    (fun b w => Blk w bb 35 #[.slice ad all.length cap, .int .i64 (at_ : Int), .int .i64 flaw] ∧ Blk w cb 35 #[cond (b 14) (.slice ad all.length cap) (.slice none 0 0), cond (b 14) (.int .i64 (at_ : Int)) (.int .i64 0), cond (b 14) (.int .i64 flaw) (.int .i64 0)]) rfl (stable_known _ rfl) ⟨hb3, hc3⟩ ?_ ?_
  refine ⟨fun b V ρ w hk hbi hd hu hWd hV => el_loada (vs := [.slice ad all.length cap, .int .i64 (at_ : Int), .int .i64 flaw]) rfl rfl rfl rfl rfl rfl hWd.1 rfl (el_nil ⟨_, rfl, rfl, Keep.refl _ _, hWd⟩), ?_⟩
  refine ⟨pureD rfl (fun _ _ => rfl) (fun _ _ h => h), ?_⟩
  refine ⟨fun b V ρ w hk hbi hd hu hWd hV => el_call rfl rfl rfl rfl rfl rfl (rend_ok gr all at_ flaw w (hR3.keep hk (by simp; omega) (NoE.one hc3 (by decide)))) (by rw [he]; rintro _ _ ⟨rfl, rfl⟩; exact el_nil ⟨_, rfl, rfl, Keep.refl _ _, hWd⟩), ?_⟩
  refine ⟨fun b V ρ w hk hbi hd hu hWd hV => el_call rfl rfl rfl rfl rfl rfl (num_ok _ w) (by rintro _ _ ⟨rfl, rfl⟩; exact el_nil ⟨_, rfl, rfl, Keep.refl _ _, hWd⟩), ?_⟩
  refine ⟨fun b V ρ w hk hbi hd hu hWd hV => el_loada (vs := [.slice ad all.length cap, .int .i64 (at_ : Int), .int .i64 flaw]) rfl rfl rfl rfl rfl rfl hWd.1 rfl (el_nil ⟨_, rfl, rfl, Keep.refl _ _, hWd⟩), ?_⟩
  refine ⟨fun b V ρ w hk hbi hd hu hWd hV => el_call rfl rfl rfl rfl rfl rfl (refend_ok ad cap all at_ flaw w hat) (by rw [he]; rintro _ w' ⟨rfl, k⟩; exact el_nil ⟨_, rfl, rfl, k.any, k.blk hWd.1 (by simp), k.blk hWd.2 (by simp)⟩), ?_⟩
  refine ⟨fun b V ρ w hk hbi hd hu hWd hV => el_eqi true (by simp) rfl rfl rfl rfl (el_nil ⟨_, rfl, rfl, Keep.refl _ _, hWd⟩), ?_⟩
  refine ⟨pureD rfl (fun _ _ => rfl) (fun _ _ h => h), ?_⟩
  refine ⟨pureD rfl (fun _ _ => rfl) (fun _ _ h => h), ?_⟩
  refine ⟨fun b V ρ w hk hbi hd hu hWd hV => el_call rfl rfl rfl rfl rfl rfl (rat_ok gr all at_ flaw w (hR3.keep hk (by simp; omega) (NoE.one hc3 (by decide)))) (by rintro _ _ ⟨rfl, rfl⟩; exact el_nil ⟨_, rfl, rfl, Keep.refl _ _, hWd⟩), ?_⟩
  refine ⟨pureD rfl (fun _ _ => rfl) (fun _ _ h => h), ?_⟩
  refine ⟨fun b V ρ w hk hbi hd hu hWd hV => el_loadb rfl rfl rfl rfl rfl hWd.1 rfl (el_nil ⟨_, rfl, rfl, Keep.refl _ _, hWd⟩), ?_⟩
  refine ⟨fun b V ρ w hk hbi hd hu hWd hV => el_eqi true (by simp) rfl rfl rfl rfl (el_nil ⟨_, rfl, rfl, Keep.refl _ _, hWd⟩), ?_⟩
  refine ⟨pureD rfl (fun _ _ => rfl) (fun _ _ h => h), ?_⟩
  refine ⟨fun b V ρ w hk hbi hd hu hWd hV => el_store #[.slice ad all.length cap, .int .i64 (at_ : Int), .int .i64 flaw] rfl rfl rfl rfl rfl rfl rfl rfl hWd.2 rfl rfl fun w2 k2 hs2 hb2 => el_nil ⟨_, rfl, rfl, k2, k2.blk hWd.1 (by simp; omega), hb2⟩, ?_⟩
  refine ⟨pureD rfl (fun _ _ => rfl) (fun _ _ h => h), ?_⟩
  trivial
  intro b V w8 hall k8 hWd hV
  have hB := hWd.2
  rw [hall 14 (by decide)] at hB
  refine ew_ret (ret_l [rdr (.slice ad all.length cap) at_ flaw, .bool true] rfl rfl ⟨⟨_, rfl, rfl, run_loadVarA rfl rfl rfl hB⟩, ⟨rfl, rfl⟩, trivial⟩ ?_)
  rw [hT]
  exact ⟨rfl, hR3.keep k8 (by simp; omega) (NoE.one hc3 (by decide)), k03.any.trans k8 (by simp; omega)⟩
end Go.Proofs.Ytfbpobhbkadblaa
