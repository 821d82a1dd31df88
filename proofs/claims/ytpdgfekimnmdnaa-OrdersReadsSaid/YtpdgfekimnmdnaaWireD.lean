/- The wire's reader: what is left of its bytes. -/
import Derived.Test.YtpdgfekimnmdnaaWireC
import Derived.Test.YtpdgfekimnmdnaaDraw
set_option linter.unusedVariables false
set_option linter.unusedSimpArgs false
namespace Go.Proofs.Ytpdgfekimnmdnaa
open Go.RowKit
set_option maxRecDepth 20000

theorem follows : Try.prog.follows .mixedOrders = true := by kernel_rfl

/-- Block b is bytes that are left, and where they begin. -/
def IsL (w : World) (b : Nat) (v : Value) (rest : List UInt8) (at_ : Int) : Prop := Blk w b 111 #[v, .int .i64 at_] ∧ RdB w v rest

theorem raw_ok (lb : Nat) (v : Value) (rest : List UInt8) (at_ : Int) (n : Nat) (w : World) (hL : IsL w lb v rest at_) (hne : ∀ b, v.ownBlock = some b → b ≠ lb) (hl : rest.length ≤ 70368744177664) (hat : 0 ≤ at_ ∧ at_ ≤ 70368744177664) :
    Fn Try.prog 91 [.pointer (some ⟨lb, 0, none⟩), .int .i64 n] w fun r w' =>
      (rest.length < n ∧ r = .tuple #[.slice none 0 0, .int .i64 120] ∧ w' = w) ∨
      (n ≤ rest.length ∧ ∃ u v', r = .tuple #[u, .int .i64 0] ∧ OwnB 5 w' w.heap.size u (rest.take n) ∧ IsL w' lb v' (rest.drop n) (at_ + n) ∧ (∀ b, v'.ownBlock = some b → v.ownBlock = some b) ∧ Keep [lb] w w') := by
  obtain ⟨hb, hr⟩ := hL
  obtain ⟨ad, cap, rfl, hc⟩ := hr.slice
  refine fn_enter Try.func91 rfl rfl ?_
  refine es rfl ?_
  refine ew_seq (sp rfl ?_)
  refine el_loadb rfl rfl rfl rfl rfl hb rfl ?_
  refine ep rfl ?_
  by_cases hlt : rest.length < n
  · refine ew_cond_t rfl (decide_eq_true (by omega)) ?_
    refine es rfl ?_
    exact ew_ret (ret_2 (.slice none 0 0) (.int .i64 120) rfl rfl rfl rfl rfl rfl (.inl ⟨hlt, rfl, rfl⟩))
  · have hle : n ≤ rest.length := by omega
    refine ew_cond_f rfl (decide_eq_false (by omega)) ?_
    refine ew_skip ?_
    refine sp rfl ?_
    refine el_loadb rfl rfl rfl rfl rfl hb rfl ?_
    refine pp rfl ?_
    refine el_slice_to (e := 5) (m := n) rfl rfl rfl rfl rfl rfl rfl (by omega) ?_
    have hrt : RdB w (.slice ad n cap) (rest.take n) := by
      have := hr.take (m := n) (by omega)
      have e1 : (bytesV rest).take n = bytesV (rest.take n) := by simp [bytesV]
      have e2 : (rest.take n).length = n := by simp; omega
      show Rd _ _ _ _
      rw [e2, ← e1]
      exact this
    refine el_call rfl rfl rfl rfl rfl rfl (clone_ok _ (rest.take n) w hrt (by simp; omega)) ?_
    rintro u w1 ⟨ho1, k1⟩
    refine ep rfl ?_
    have hb1 := k1.blk hb (by simp)
    let v2 : Value := .slice (if cap = n then ad else ad.map fun b => b.add (n * 1)) (rest.length - n) (cap - n)
    let p0 : Value := .pointer (some ⟨lb, 0, none⟩)
    let p1 : Value := .pointer (some ⟨lb, 1, none⟩)
    refine ew_seq ?_
    refine ew_draw follows [.known p0, .known p0, .known p0, .known p0, .known p0, .known (.slice ad rest.length cap), .known (.int .i64 n), .known v2, .known p0, .known p0, .known p1, .known (.int .i64 at_), .known (.int .i64 n), .known (.int .i64 (IntKind.wrap .i64 (at_ + n))),
      .known p0, .known p0, .known undef, .known p0, .known p1, .known undef] [lb]
      (fun b w => Blk w lb 111 #[cond (b 16) v2 (.slice ad rest.length cap), .int .i64 (cond (b 19) (IntKind.wrap .i64 (at_ + n)) at_)]) rfl (stable_known _ rfl) hb1 ?_ ?_
    · skip
      refine ⟨pureD rfl (fun _ _ => rfl) (fun _ _ h => h), ?_⟩
      refine ⟨pureD rfl (fun _ _ => rfl) (fun _ _ h => h), ?_⟩
      refine ⟨pureD rfl (fun _ _ => rfl) (fun _ _ h => h), ?_⟩
      refine ⟨pureD rfl (fun _ _ => rfl) (fun _ _ h => h), ?_⟩
      refine ⟨pureD rfl (fun _ _ => rfl) (fun _ _ h => h), ?_⟩
      refine ⟨fun b V ρ w hk hbi hd hu hWd hV => ?_, ?_⟩
      · have h16 : b 16 = false := hu 16 _ rfl rfl
        have hW2 := hWd
        dsimp only at hW2
        rw [h16] at hW2
        exact el_loadb rfl rfl rfl rfl rfl hW2 rfl (el_nil ⟨_, rfl, rfl, Keep.refl _ _, hWd⟩)
      refine ⟨pureD rfl (fun _ _ => rfl) (fun _ _ h => h), ?_⟩
      refine ⟨fun b V ρ w hk hbi hd hu hWd hV => ?_, ?_⟩
      · exact el_slice_from (e := 5) (m := n) rfl rfl rfl rfl rfl rfl rfl hle (el_nil ⟨_, rfl, rfl, Keep.refl _ _, hWd⟩)
      refine ⟨pureD rfl (fun _ _ => rfl) (fun _ _ h => h), ?_⟩
      refine ⟨pureD rfl (fun _ _ => rfl) (fun _ _ h => h), ?_⟩
      refine ⟨pureD rfl (fun _ _ => rfl) (fun _ _ h => h), ?_⟩
      refine ⟨fun b V ρ w hk hbi hd hu hWd hV => ?_, ?_⟩
      · have h19 : b 19 = false := hu 19 _ rfl rfl
        have hW2 := hWd
        dsimp only at hW2
        rw [h19] at hW2
        exact el_loadb rfl rfl rfl rfl rfl hW2 rfl (el_nil ⟨_, rfl, rfl, Keep.refl _ _, hWd⟩)
      refine ⟨pureD rfl (fun _ _ => rfl) (fun _ _ h => h), ?_⟩
      refine ⟨pureD rfl (fun _ _ => rfl) (fun _ _ h => h), ?_⟩
      refine ⟨pureD rfl (fun _ _ => rfl) (fun _ _ h => h), ?_⟩
      refine ⟨pureD rfl (fun _ _ => rfl) (fun _ _ h => h), ?_⟩
      refine ⟨fun b V ρ w hk hbi hd hu hWd hV => ?_, ?_⟩
      · exact el_store #[v2, .int .i64 (cond (b 19) (IntKind.wrap .i64 (at_ + n)) at_)] rfl rfl rfl rfl rfl rfl rfl rfl hWd rfl rfl fun w2 k2 hs2 hb2 => el_nil ⟨_, rfl, rfl, k2, hb2⟩
      refine ⟨pureD rfl (fun _ _ => rfl) (fun _ _ h => h), ?_⟩
      refine ⟨pureD rfl (fun _ _ => rfl) (fun _ _ h => h), ?_⟩
      refine ⟨fun b V ρ w hk hbi hd hu hWd hV => ?_, ?_⟩
      · exact el_store #[cond (b 16) v2 (.slice ad rest.length cap), .int .i64 (IntKind.wrap .i64 (at_ + n))] rfl rfl rfl rfl rfl rfl rfl rfl hWd rfl rfl fun w2 k2 hs2 hb2 => el_nil ⟨_, rfl, rfl, k2, hb2⟩
      trivial
    · intro b V w3 hall k3 hWd hV
      have hB := hWd
      rw [hall 16 (by decide), hall 19 (by decide)] at hB
      simp only [cond_true, wrap_i64 (n := at_ + n) (by omega) (by omega)] at hB
      refine es rfl ?_
      refine ew_ret (ret_2 u (.int .i64 0) rfl rfl rfl rfl rfl rfl (.inr ⟨hle, u, v2, rfl, ?_, ⟨hB, ?_⟩, ?_, (k1.any).trans k3 (fun b hb _ => hb)⟩))
      · exact own_keep ho1 k3 (fun x hx => by have := ho1.lt x hx; have := Blk.lt hb; simp; omega)
      · have h1 := (hr.keep0 k1).drop (m := n) (by omega) (bytesV_length _)
        have e1 : (bytesV rest).drop n = bytesV (rest.drop n) := by simp [bytesV]
        have e2 : (rest.drop n).length = rest.length - n := by simp
        show Rd _ _ _ _
        rw [e2, ← e1]
        refine h1.keep k3 fun x hx => ?_
        have : ad.map (·.block) = some x := by
          cases ad with
          | none => simp [Value.ownBlock] at hx
          | some a =>
            by_cases hcn : cap = n
            · simp [hcn, Value.ownBlock] at hx; simp [hx]
            · simp [hcn, Value.ownBlock, add_block] at hx; simp [hx]
        cases ad with
        | none => cases this
        | some a =>
          have h3 := hne a.block rfl
          simp at this
          simp; omega
      · intro x hx
        cases ad with
        | none => simp [v2, Value.ownBlock] at hx
        | some a =>
          by_cases hcn : cap = n
          · simpa [v2, hcn, Value.ownBlock] using hx
          · simpa [v2, hcn, Value.ownBlock, add_block] using hx

/-- Some state of what is left: nobody asks which. -/
def SomeL (w : World) (b : Nat) : Prop := ∃ v a, Blk w b 111 #[v, .int .i64 a]
theorem IsL.some {w : World} {b : Nat} {v : Value} {rest : List UInt8} {a : Int} (h : IsL w b v rest a) : SomeL w b := ⟨_, _, h.1⟩

/-- What a taking call of 'left' comes to: an error; or so many bytes are used up. -/
def LeftR (lb : Nat) (v : Value) (rest : List UInt8) (at_ : Int) (e : Int) (k : Nat) (w : World) (w' : World) : Prop :=
  Keep [lb] w w' ∧ (e ≠ 0 → SomeL w' lb) ∧ (e = 0 → k ≤ rest.length ∧ ∃ v', IsL w' lb v' (rest.drop k) (at_ + k) ∧ ∀ b, v'.ownBlock = some b → v.ownBlock = some b)

theorem one_at {w : World} {base : Nat} {u : Value} {c : UInt8} (h : OwnB 5 w base u [c]) : ∃ a cap, u = .slice (some a) 1 cap ∧ w.cell? (a.add 0) = some (byteV c) := by
  obtain ⟨a, cap, h1, h2⟩ := (Rd.of_own h).at_ 0 (byteV c) rfl
  exact ⟨a, cap, h1, h2⟩

theorem lnumber_ok (lb : Nat) (v : Value) (rest : List UInt8) (at_ : Int) (g : Int) (w : World) (hL : IsL w lb v rest at_) (hne : ∀ b, v.ownBlock = some b → b ≠ lb) (hl : rest.length ≤ 70368744177664) (hat : 0 ≤ at_ ∧ at_ + rest.length ≤ 70368744177664) :
    Fn Try.prog 63 [.pointer (some ⟨lb, 0, none⟩), .int .i64 g] w fun r w' =>
      r = .tuple #[.int .i64 (numR rest g).1, .int .i64 (numR rest g).2.1] ∧ LeftR lb v rest at_ (numR rest g).2.1 (numR rest g).2.2 w w' := by
  refine fn_enter Try.func63 rfl rfl ?_
  refine es rfl ?_
  refine ew_seq (es rfl (ew_block ?_))
  refine ew_loop (α := Nat × Nat × Value) (fun x => [(0, .pointer (some ⟨lb, 0, none⟩)), (1, .int .i64 g), (4, .int .i64 (x.2.1 : Int)), (6, .int .i64 (x.1 : Int))])
    (fun x w' => x.1 ≤ 8 ∧ x.1 ≤ rest.length ∧ x.2.1 < 128 ^ x.1 ∧ scan 0 0 rest = scan x.1 x.2.1 (rest.drop x.1) ∧ IsL w' lb x.2.2 (rest.drop x.1) (at_ + (x.1 : Nat)) ∧ (∀ b, x.2.2.ownBlock = some b → v.ownBlock = some b) ∧ Keep [lb] w w') (fun x => 9 - x.1)
    (0, 0, v) ⟨rfl, rfl, rfl, rfl, trivial⟩ ⟨Nat.zero_le _, Nat.zero_le _, Nat.one_pos, rfl, (by show IsL w lb v rest (at_ + ((0 : Nat) : Int)); rw [Int.natCast_zero, Int.add_zero]; exact hL), fun b h => h, Keep.refl _ _⟩ ?_
  rintro ⟨i, acc, vi⟩ ρ w1 hd ⟨hi8, hil, hacc, hscan, hLi, hvi, hk⟩
  dsimp only at hi8 hil hacc hscan hLi hvi hk
  refine ew_seq (ew_block ?_)
  refine sp rfl ?_
  refine el_call rfl rfl rfl rfl rfl rfl (raw_ok lb vi (rest.drop i) (at_ + (i : Nat)) 1 w1 hLi (fun b hb => hne b (hvi b hb)) (by simp; omega) ⟨by omega, by omega⟩) ?_
  rintro rv w2 (⟨hlt, rfl, rfl⟩ | ⟨hge, u, v2, rfl, ho2, hL2, hv2, hk2⟩)
  · -- the bytes end ahead
    have hr0 : rest.drop i = [] := List.eq_nil_of_length_eq_zero (by omega)
    refine ep rfl ?_
    refine ew_seq (es rfl ?_)
    refine ew_cond_t rfl rfl ?_
    refine es rfl ?_
    have hs : scan 0 0 rest = (120, 0, 0) := by rw [hscan, hr0]; rfl
    have hn : numR rest g = (0, 120, 0) := numR_err hs (by decide)
    refine ew_ret (ret_2 (.int .i64 0) (.int .i64 120) rfl rfl rfl (by exact hd) rfl rfl ?_)
    rw [hn]
    exact ⟨rfl, hk, fun _ => hLi.some, fun h => by cases h⟩
  · obtain ⟨c, r2, hr1⟩ : ∃ c r2, rest.drop i = c :: r2 := by
      cases hq : rest.drop i with
      | nil => rw [hq] at hge; simp at hge
      | cons c r2 => exact ⟨c, r2, rfl⟩
    have hr2 : rest.drop (i + 1) = r2 := by rw [← List.drop_drop, hr1]; rfl
    have htake : (rest.drop i).take 1 = [c] := by rw [hr1]; rfl
    rw [htake] at ho2
    have hlen : i + 1 ≤ rest.length := by
      have := congrArg List.length hr1
      simp at this
      omega
    have hL2' : IsL w2 lb v2 r2 (at_ + ((i + 1 : Nat) : Int)) := by
      have e1 : (rest.drop i).drop 1 = r2 := by rw [hr1]; rfl
      rw [e1] at hL2
      have e2 : at_ + (i : Nat) + ((1 : Nat) : Int) = at_ + ((i + 1 : Nat) : Int) := by omega
      rw [e2] at hL2
      exact hL2
    have hk12 := hk.trans hk2 (fun b hb _ => hb)
    obtain ⟨a, cap, rfl, hcell⟩ := one_at ho2
    refine ep rfl ?_
    refine ew_seq (es rfl ?_)
    refine ew_cond_f rfl rfl ?_
    refine ew_skip ?_
    refine sp rfl ?_
    refine el_index (e := 5) (j := 0) (p := 0) rfl rfl rfl rfl rfl rfl (by omega) rfl rfl ?_
    refine el_load rfl rfl rfl rfl rfl hcell ?_
    refine ep rfl ?_
    refine ew_seq ?_
    refine ew_cut [(0, .pointer (some ⟨lb, 0, none⟩)), (1, .int .i64 g), (4, .int .i64 (acc : Int)), (6, .int .i64 (i : Int)), (9, byteV c), (36, .bool (decide ((i = 8 ∧ 128 ≤ c.toNat) ∨ (0 < i ∧ c.toNat = 0))))] (fun w' => w' = w2) ?_ ?_
    · refine ew_region ?_
      refine el_pure 3 rfl ?_
      have hb0 : ((c.toNat : Int) == 0) = decide (c.toNat = 0) := by
        by_cases h : c.toNat = 0
        · simp [h]
        · simp [h]
      by_cases h8 : i = 8
      · subst h8
        refine el_pure 4 rfl ?_
        by_cases hc : 128 ≤ c.toNat
        · refine el_as (v' := .bool true) (bool_eq (decide_eq_true (by omega))) ?_
          refine ep rfl ?_
          exact ⟨rfl, ⟨rfl, rfl, rfl, rfl, rfl, bool_eq (by simp [hc]), trivial⟩, rfl⟩
        · refine el_as (v' := .bool false) (bool_eq (decide_eq_false (by omega))) ?_
          refine el_pure 3 rfl ?_
          refine ep rfl ?_
          exact ⟨rfl, ⟨rfl, rfl, rfl, rfl, rfl, bool_eq (by rw [hb0]; simp [hc]), trivial⟩, rfl⟩
      · refine el_as (v' := .bool false) (bool_eq (by simp; omega)) ?_
        refine el_pure 4 rfl ?_
        refine el_pure 3 rfl ?_
        by_cases h0 : 0 < i
        · refine el_as (v' := .bool true) (bool_eq (decide_eq_true (by omega))) ?_
          refine ep rfl ?_
          exact ⟨rfl, ⟨rfl, rfl, rfl, rfl, rfl, bool_eq (by rw [hb0]; simp [h8, h0]), trivial⟩, rfl⟩
        · refine el_as (v' := .bool false) (bool_eq (decide_eq_false (by omega))) ?_
          refine ep rfl ?_
          exact ⟨rfl, ⟨rfl, rfl, rfl, rfl, rfl, bool_eq (by simp [h8, h0]), trivial⟩, rfl⟩
    · rintro ρ2 w2' hd2 rfl
      by_cases hbad : (i = 8 ∧ 128 ≤ c.toNat) ∨ (0 < i ∧ c.toNat = 0)
      · have hs : scan 0 0 rest = (121, 0, 0) := by rw [hscan, hr1, scan, if_pos hbad]
        have hn : numR rest g = (0, 121, 0) := numR_err hs (by decide)
        refine ew_cond_t rfl (decide_eq_true hbad) ?_
        refine es rfl ?_
        refine ew_ret (ret_2 (.int .i64 0) (.int .i64 121) rfl rfl rfl (by exact hd2.trans hd) rfl rfl ?_)
        rw [hn]
        exact ⟨rfl, hk12, fun _ => hL2'.some, fun h => by cases h⟩
      · refine ew_cond_f rfl (decide_eq_false hbad) ?_
        refine ew_skip ?_
        have hacc2 := acc_step c hacc
        have hmul : IntKind.wrap .i64 (7 * (i : Int)) = 7 * (i : Int) := wrap_i64 (by omega) (by omega)
        have hsh : ¬ (7 * (i : Int) < 0) := by omega
        refine spn 4 rfl ?_
        refine el_as (int_eq (show IntKind.wrap .i64 (ibits .and .u8 (c.toNat : Int) 127) = ((c.toNat % 128 : Nat) : Int) by rw [ibits_and127, wrap_i64 (by omega) (by omega)])) ?_
        refine el_pure 2 rfl ?_
        refine el_as (int_eq hmul) ?_
        refine el_shl (k := .i64) (a := ((c.toNat % 128 : Nat) : Int)) (b := 7 * (i : Int)) rfl rfl rfl rfl (by omega) ?_
        refine el_pure 1 rfl ?_
        refine el_as (int_eq (or_step c hi8 hacc)) ?_
        refine ep rfl ?_
        refine es rfl ?_
        by_cases hc : c.toNat < 128
        · -- the last byte
          have hs : scan 0 0 rest = (0, acc + c.toNat % 128 * 128 ^ i, i + 1) := by rw [hscan, hr1, scan, if_neg hbad, if_pos hc]
          have hbd := scan_used rest 0 0 (by simp) (by omega) (by rw [hs])
          rw [hs] at hbd
          refine ew_cond_t rfl (decide_eq_true (by omega)) ?_
          refine ew_exit ?_
          refine ew_seq (es rfl ?_)
          by_cases hg : g < ((acc + c.toNat % 128 * 128 ^ i : Nat) : Int)
          · have hn : numR rest g = (0, 3, 0) := numR_hi hs hg
            refine ew_cond_t rfl (decide_eq_true (by omega)) ?_
            refine es rfl ?_
            refine ew_ret (ret_2 (.int .i64 0) (.int .i64 3) rfl rfl rfl (by exact hd2.trans hd) rfl rfl ?_)
            rw [hn]
            exact ⟨rfl, hk12, fun _ => hL2'.some, fun h => by cases h⟩
          · have hn : numR rest g = (((acc + c.toNat % 128 * 128 ^ i : Nat) : Int), 0, i + 1) := numR_ok hs hg
            refine ew_cond_f rfl (decide_eq_false (by omega)) ?_
            refine ew_skip ?_
            refine es rfl ?_
            refine ew_ret (ret_2 (.int .i64 ((acc + c.toNat % 128 * 128 ^ i : Nat) : Int)) (.int .i64 0) rfl rfl rfl (by exact hd2.trans hd) rfl rfl ?_)
            rw [hn]
            exact ⟨rfl, hk12, fun h => absurd rfl h, fun _ => ⟨hlen, v2, by rw [hr2]; exact hL2', fun b hb => hvi b (hv2 b hb)⟩⟩
        · have hi9 : i ≠ 8 := fun e => hbad (.inl ⟨e, by omega⟩)
          refine ew_cond_f rfl (decide_eq_false (by omega)) ?_
          refine ew_skip ?_
          refine eg rfl ?_
          refine ⟨by exact hd2.trans hd, (i + 1, acc + c.toNat % 128 * 128 ^ i, v2), ⟨rfl, rfl, rfl, int_eq (by rw [wrap_i64 (by omega) (by omega)]; omega), trivial⟩, ⟨by omega, hlen, hacc2, ?_, ?_, fun b hb => hvi b (hv2 b hb), hk12⟩, by show 9 - (i + 1) < 9 - i; omega⟩
          · rw [hscan, hr1, hr2]
            conv => lhs; rw [scan, if_neg hbad, if_neg hc]
          · rw [hr2]; exact hL2'
end Go.Proofs.Ytpdgfekimnmdnaa
