/- What a laying call of the law lays. -/
import Derived.Test.YtfbpobhbkadblaaWireR
import Derived.Test.YtfbpobhbkadblaaDrawG
import Derived.Test.YtfbpobhbkadblaaApp2
set_option linter.unusedVariables false
set_option linter.unusedSimpArgs false
namespace Go.Proofs.Ytfbpobhbkadblaa
open Go.RowKit
set_option maxRecDepth 20000

theorem Rd.keepx {M : List Nat} {w w' : World} {v : Value} {bs : List UInt8} (h : RdB w v bs) (k : Keep M w w') (hM : bs ≠ [] → ∀ b, v.ownBlock = some b → b ∉ M) : RdB w' v bs := by
  by_cases hb : bs = []
  · subst hb
    obtain ⟨ad, cap, rfl, hc, _⟩ := h
    exact ⟨ad, cap, rfl, hc, fun j u hj => by simp [bytesV] at hj⟩
  · exact h.keep k (hM hb)
theorem refbytes_ok (v : Value) (bs : List UInt8) (w : World) (hv : RdB w v bs) (hl : bs.length ≤ 70368744177664) : Fn Try.prog 47 [v] w fun u w' => OwnB 5 w' w.heap.size u (numB bs.length ++ bs) ∧ Keep [] w w' := by
  obtain ⟨ad, cap, rfl, hc⟩ := hv.slice
  have hlen : (numB bs.length).length ≤ 10 := numB_len10 (by omega)
  refine fn_enter Try.func47 rfl rfl ?_
  refine es rfl ?_
  refine sp rfl ?_
  refine el_call rfl rfl rfl rfl rfl rfl (refnum_nat bs.length (by omega) w) ?_
  rintro u w1 ⟨ho1, k1⟩
  refine pp rfl ?_
  refine el_append (v := u) (base := w.heap.size) (z := .int .u8 0) (size := 1) (bytes := 1) (n := (numB bs.length).length) (m := bs.length) (xs := bytesV (numB bs.length)) (ys := bytesV bs) rfl rfl rfl info_u8 rfl rfl rfl rfl ho1 (hv.keep0 k1) (by simp [bytesV_length]) (bytesV_one _) (by unfold maxLen; omega) (by omega) k1.size ?_
  intro v' w4 ho4 hg4 hfr
  refine ep rfl ?_
  refine ew_ret (ret_1 v' rfl rfl rfl rfl ⟨?_, k1.app ho1 (Nat.le_refl _) hg4⟩)
  show World.ownsRow _ _ _ _ _ _ _
  rw [bytesV_append, List.length_append]
  exact ho4

/-- A call that lays, as data: which, a number, bytes. -/
structure AddD where
  what : Int
  n : Int
  bytes : List UInt8
/-- The bytes that it lays. -/
def AddD.laid (x : AddD) : List UInt8 :=
  if x.what = 0 then (if x.n < 0 then [] else numB x.n.toNat)
  else if x.what = 1 then (if inSign x.n = true then numB (zig x.n) else [])
  else if x.what = 2 then numB x.bytes.length ++ x.bytes
  else if x.what = 3 then numB x.bytes.length ++ x.bytes
  else if x.what = 4 then (if x.n = 0 then [0] else [1])
  else x.bytes ++ x.bytes
/-- The error that it tells. -/
def AddD.err (x : AddD) : Int :=
  if x.what = 0 then (if x.n < 0 then 2 else 0) else if x.what = 1 then (if inSign x.n = true then 0 else 2) else 0

def LayL (g : Nat) (cur : List UInt8) (x : AddD) (w : World) (r : Value) (w' : World) : Prop :=
  ∃ u, r = .tuple #[.int .i64 x.err, u, .int .i64 x.err] ∧ OwnB 5 w' w.heap.size u x.laid ∧ IsW w' g (cur ++ x.laid) ∧ Keep [g] w w' ∧ BufOk g w w'


theorem three_of {w : World} {u1 u2 u3 : Value} {a b c : List UInt8} (h1 : RdB w u1 a) (h2 : RdB w u2 b) (h3 : RdB w u3 c) : ∀ (j : Nat) (bs : List UInt8), [a, b, c][j]? = some bs → ∃ x : Value, [u1, u2, u3][j]? = some x ∧ RdB w x bs := fun j x hj => by
  match j, hj with
  | 0, hj => injection hj with hj; subst hj; exact ⟨u1, rfl, h1⟩
  | 1, hj => injection hj with hj; subst hj; exact ⟨u2, rfl, h2⟩
  | 2, hj => injection hj with hj; subst hj; exact ⟨u3, rfl, h3⟩
theorem RdB.nil (w : World) : RdB w (.slice none 0 0) [] := ⟨none, 0, rfl, Nat.le_refl _, fun j u hj => by simp [bytesV] at hj⟩
theorem RdB.lt {w : World} {v : Value} {bs : List UInt8} (h : RdB w v bs) (hne : bs ≠ []) {b : Nat} (hb : v.ownBlock = some b) : b < w.heap.size := by
  obtain ⟨ad, cap, rfl, hc, hr⟩ := h
  cases bs with
  | nil => exact absurd rfl hne
  | cons c r =>
    obtain ⟨a, rfl, ha⟩ := hr 0 (byteV c) rfl
    have e : a.block = b := by simpa [Value.ownBlock] using hb
    subst e
    have hca := ha
    simp only [World.cell?, add_block] at hca
    cases hq : w.heap[a.block]? with
    | none => rw [hq] at hca; simp at hca
    | some o => exact (Array.getElem?_eq_some_iff.1 hq).1

/-- What holds while the last case is worked out. -/
def RawG (g bb : Nat) (cur bs : List UInt8) (m : Value) (what n : Int) (w0 : World) (b : Nat → Bool) (V : Nat → Value) (w : World) : Prop :=
  (Keep [g] w0 w ∧ BufOk g w0 w) ∧ IsW w g (cond (b 6) (cur ++ (bs ++ bs)) cur) ∧ (Blk w bb 46 #[.int .i64 what, .int .i64 n, m] ∧ RdB w m bs) ∧
  (b 5 = true → b 6 = false → ∃ p, V 5 = .slice (some ⟨p, 0, none⟩) 3 3 ∧ Blk w p 22 #[m, .slice none 0 0, m]) ∧
  (b 7 = true → b 10 = false → ∃ p, w0.heap.size ≤ p ∧ V 7 = .slice (some ⟨p, 0, none⟩) 0 0 ∧ Blk w p 5 #[]) ∧
  (b 10 = true → b 6 = true ∧ (b 13 = false → OwnB 5 w w0.heap.size (V 10) bs ∧ (bs = [] ∨ ∃ wc, IsW wc g (cur ++ (bs ++ bs)) ∧ Keep [] wc w ∧ w0.heap.size ≤ wc.heap.size ∧ bb < wc.heap.size ∧ (V 10).ownBlock = some wc.heap.size))) ∧
  (b 13 = true → OwnB 5 w w0.heap.size (V 13) (bs ++ bs)) ∧ (b 15 = true → OwnB 5 w w0.heap.size (V 15) (bs ++ bs))
theorem RawG.keep0 {g bb : Nat} {cur bs : List UInt8} {m : Value} {what n : Int} {w0 : World} {b : Nat → Bool} {V : Nat → Value} {w w' : World} (h : RawG g bb cur bs m what n w0 b V w) (k : Keep [] w w') : RawG g bb cur bs m what n w0 b V w' := by
  obtain ⟨h1, h2, ⟨h3, h3'⟩, h4, h5, h6, h7, h8⟩ := h
  refine ⟨⟨h1.1.trans k (by simp), BufOk.keep h1.2 k (IsW.lt h2) (by simp)⟩, IsW.keep0 h2 k, ⟨k.blk h3 (by simp), Rd.keep0 h3' k⟩, fun x y => ?_, fun x y => ?_, fun x => ?_, fun x => own_keep (h7 x) k (by simp), fun x => own_keep (h8 x) k (by simp)⟩
  · obtain ⟨p, hp, hb⟩ := h4 x y
    exact ⟨p, hp, k.blk hb (by simp)⟩
  · obtain ⟨p, hp, hv, hb⟩ := h5 x y
    exact ⟨p, hp, hv, k.blk hb (by simp)⟩
  · obtain ⟨h61, h62⟩ := h6 x
    refine ⟨h61, fun y => ?_⟩
    obtain ⟨ho, hs⟩ := h62 y
    refine ⟨own_keep ho k (by simp), hs.imp id fun ⟨wc, a1, a2, a3⟩ => ⟨wc, a1, a2.trans0 k, a3⟩⟩

set_option maxHeartbeats 2000000 in
theorem lay_ok2 (g : Nat) (cur : List UInt8) (x : AddD) (v : Value) (w0 : World) (hW : IsW w0 g cur) (hn : x.n ≤ 9223372036854775807) (hv : RdB w0 v x.bytes) (hvg : x.bytes ≠ [] → ∀ b, v.ownBlock = some b → b ≠ g) (hfit : cur.length + 2 * x.bytes.length + 30 ≤ 1048576) :
    Fn Try.prog 24 [.pointer (some ⟨g, 0, none⟩), .agg #[.int .i64 x.what, .int .i64 x.n, v]] w0 (LayL g cur x w0) := by
  obtain ⟨what, n, bs⟩ := x
  dsimp only at hn hv hfit ⊢
  obtain ⟨ad, cap, rfl, hc⟩ := hv.slice
  have hgl := hW.lt
  refine fn_enter Try.func24 rfl rfl ?_
  refine sp rfl ?_
  refine el_box #[.int .i64 what, .int .i64 n, .slice ad bs.length cap] rfl rfl rfl rfl ?_
  intro bb w1 e1 e1' k1 hb1
  have hW1 := IsW.keep0 hW k1
  have hv1 := Rd.keep0 hv k1
  have hb01 : BufOk g w0 w1 := BufOk.keep (BufOk.refl g w0) k1 hgl (by simp)
  refine ep rfl ?_
  refine ew_seq ?_
  refine sp rfl ?_
  refine el_loadb rfl rfl rfl rfl rfl hb1 rfl ?_
  refine ep rfl ?_
  refine ew_block ?_
  refine es rfl ?_
  by_cases h0 : what = 0
  · subst h0
    refine ew_cond_t rfl rfl ?_
    refine ew_seq ?_
    refine sp rfl ?_
    refine el_loadb rfl rfl rfl rfl rfl hb1 rfl ?_
    refine ep rfl ?_
    by_cases hn0 : n < 0
    · refine ew_cond_t rfl (decide_eq_true hn0) ?_
      refine sp rfl ?_
      refine el_loadb rfl rfl rfl rfl rfl hb1 rfl ?_
      refine el_call rfl rfl rfl rfl rfl rfl (wnumber_ok (some g) cur n hn w1 hW1) ?_
      have hsg : decide (n ≥ 0) = false := decide_eq_false (by omega)
      intro rv w2 h
      rw [hsg] at h
      obtain ⟨rfl, hW2, k2⟩ := layr_to cur 2 rfl rfl h
      refine ep rfl ?_
      refine ew_ret (ret_3 (.int .i64 2) (.slice none 0 0) (.int .i64 2) rfl rfl rfl rfl rfl rfl rfl rfl ⟨.slice none 0 0, ?_, ?_, ?_, k1.any.trans k2 (by simp), BufOk.trans hb01 (layr_buf h) k1.size⟩)
      · simp [AddD.err, hn0]
      · simp only [AddD.laid, hn0, if_true]
        exact World.ownsRow_nil _ _ _ _
      · simp only [AddD.laid, hn0, if_true, List.append_nil]
        exact hW2
    refine ew_cond_f rfl (decide_eq_false hn0) ?_
    refine ew_skip ?_
    have hsg : decide (n ≥ 0) = true := decide_eq_true (by omega)
    have hlen : (numB n.toNat).length ≤ 10 := numB_len10 (by omega)
    refine ew_seq ?_
    refine ew_draw follows [.known (.pointer (some ⟨g, 0, none⟩)), .known (.pointer (some ⟨bb, 1, none⟩)), .known (.int .i64 n), .known (.int .i64 0), .known (.pointer (some ⟨bb, 1, none⟩)), .known (.int .i64 n), .fact (fun v w => OwnB 5 w w0.heap.size v (numB n.toNat)), .known (.int .i64 0), .fact (fun v w => OwnB 5 w w0.heap.size v (numB n.toNat)), .known (.int .i64 0)] [g]
      (fun b w => IsW w g (cond (b 3) (cur ++ (numB n.toNat)) cur) ∧ Blk w bb 46 #[.int .i64 0, .int .i64 n, .slice ad bs.length cap] ∧ RdB w (.slice ad bs.length cap) bs ∧ BufOk g w0 w) rfl (stable_of _ (fun f hf v w w' hk hfv => by
        simp at hf
        subst hf
        exact own_keep hfv hk (fun b hb => by have := hfv.lt b hb; simp; omega))) ⟨IsW.keep0 hW1 (Keep.drew _), hb1, Rd.keep0 hv1 (Keep.drew _), BufOk.keep hb01 (Keep.drew _) (IsW.lt hW1) (by simp)⟩ ?_ ?_
    refine ⟨pureD rfl (fun _ _ => rfl) (fun _ _ h => h), ?_⟩
    refine ⟨pureD rfl (fun _ _ => rfl) (fun _ _ h => h), ?_⟩
    refine ⟨fun b V ρ w hk hbi hd hu hWd hV => el_loadb rfl rfl rfl rfl rfl hWd.2.1 rfl (el_nil ⟨_, rfl, rfl, Keep.refl _ _, hWd⟩), ?_⟩
    refine ⟨fun b V ρ w hk hbi hd hu hWd hV => el_call rfl rfl rfl rfl rfl rfl (wnumber_ok (some g) cur n hn w (by have h1 := hWd.1; rw [hbi] at h1; exact h1)) (by
      intro rv w' h
      rw [hsg] at h
      obtain ⟨rfl, hW2, k2⟩ := layr_to (cur ++ numB n.toNat) 0 (by simp [layB, sumL]; omega) (by simp [layE, sumL]; omega) h
      exact el_nil ⟨_, rfl, rfl, k2, hW2, k2.blk hWd.2.1 (by simp; omega), hWd.2.2.1.keepx k2 (fun h b hb => by simpa using hvg h b hb), BufOk.trans hWd.2.2.2 (layr_buf h) (Nat.le_trans k1.size hk.size)⟩), ?_⟩
    refine ⟨pureD rfl (fun _ _ => rfl) (fun _ _ h => h), ?_⟩
    refine ⟨fun b V ρ w hk hbi hd hu hWd hV => el_loadb rfl rfl rfl rfl rfl hWd.2.1 rfl (el_nil ⟨_, rfl, rfl, Keep.refl _ _, hWd⟩), ?_⟩
    refine ⟨fun b V ρ w hk hbi hd hu hWd hV => el_call rfl rfl rfl rfl rfl rfl (refnum_ok n (by omega) (by omega) w) (by
      rintro u w' ⟨ho, k⟩
      exact el_nil ⟨_, rfl, own_lower ho (by have := hk.size; omega), k.any, IsW.keep0 hWd.1 k, k.blk hWd.2.1 (by simp), Rd.keep0 hWd.2.2.1 k, BufOk.keep hWd.2.2.2 k (IsW.lt hWd.1) (by simp)⟩), ?_⟩
    refine ⟨pureD rfl (fun _ _ => rfl) (fun _ _ h => h), ?_⟩
    refine ⟨fun b V ρ w hk hbi hd hu hWd hV => el_pure 1 rfl (el_nil ⟨V 6, rfl, hV 6 (hd 6 rfl), Keep.refl _ _, hWd⟩), ?_⟩
    refine ⟨pureD rfl (fun _ _ => rfl) (fun _ _ h => h), ?_⟩
    trivial
    intro b V w2 hall k2 hWd hV
    have hB := hWd.1
    rw [hall 3 (by decide)] at hB
    refine ew_ret (ret_3 (.int .i64 0) (V 8) (.int .i64 0) rfl rfl rfl rfl rfl rfl rfl rfl ⟨V 8, ?_, ?_, ?_, k1.any.trans k2 (by simp), hWd.2.2.2⟩)
    · simp [AddD.err, hn0]
    · have h8 := hV 8 (by decide)
      simp only [AddD.laid, hn0, if_true, if_false]
      exact h8
    · simp only [AddD.laid, hn0, if_true, if_false]
      exact hB
  refine ew_cond_f rfl (by simp [h0]) ?_
  refine es rfl ?_
  by_cases h1 : what = 1
  · subst h1
    refine ew_cond_t rfl rfl ?_
    refine ew_seq ?_
    refine sp rfl ?_
    refine el_loadb rfl rfl rfl rfl rfl hb1 rfl ?_
    refine pp rfl ?_
    refine el_call rfl rfl rfl rfl rfl rfl (insign_ok n w1) ?_
    rintro _ _ ⟨rfl, rfl⟩
    by_cases hin : inSign n = false
    · have hsg := hin
      rw [hsg]
      refine ep rfl ?_
      refine ew_cond_t rfl rfl ?_
      refine sp rfl ?_
      refine el_loadb rfl rfl rfl rfl rfl hb1 rfl ?_
      refine el_call rfl rfl rfl rfl rfl rfl (wsigned_ok (some g) cur n w1 hW1) ?_
      intro rv w2 h
      rw [hsg] at h
      obtain ⟨rfl, hW2, k2⟩ := layr_to cur 2 rfl rfl h
      refine ep rfl ?_
      refine ew_ret (ret_3 (.int .i64 2) (.slice none 0 0) (.int .i64 2) rfl rfl rfl rfl rfl rfl rfl rfl ⟨.slice none 0 0, ?_, ?_, ?_, k1.any.trans k2 (by simp), BufOk.trans hb01 (layr_buf h) k1.size⟩)
      · simp [AddD.err, hsg]
      · simp only [AddD.laid, hsg]
        exact World.ownsRow_nil _ _ _ _
      · have e : cur ++ (AddD.mk 1 n bs).laid = cur := by simp [AddD.laid, hsg]
        rw [e]
        exact hW2
    have hsg : inSign n = true := by simpa using hin
    have hs2 := hsg
    simp [inSign] at hs2
    obtain ⟨hs3, hs4⟩ := hs2
    rw [hsg]
    refine ep rfl ?_
    refine ew_cond_f rfl rfl ?_
    refine ew_skip ?_
    have hzz := zigU_zig n hs3 hs4
    have hz : zig n < 9223372036854775808 := by unfold zig; split <;> omega
    have hlen : (numB (zig n)).length ≤ 10 := numB_len10 (by omega)
    refine ew_seq ?_
    refine ew_draw follows [.known (.pointer (some ⟨g, 0, none⟩)), .known (.pointer (some ⟨bb, 1, none⟩)), .known (.int .i64 n), .known (.int .i64 0), .known (.pointer (some ⟨bb, 1, none⟩)), .known (.int .i64 n), .fact (fun v w => OwnB 5 w w0.heap.size v (numB (zig n))), .known (.int .i64 0), .fact (fun v w => OwnB 5 w w0.heap.size v (numB (zig n))), .known (.int .i64 0)] [g]
      (fun b w => IsW w g (cond (b 3) (cur ++ (numB (zig n))) cur) ∧ Blk w bb 46 #[.int .i64 1, .int .i64 n, .slice ad bs.length cap] ∧ RdB w (.slice ad bs.length cap) bs ∧ BufOk g w0 w) rfl (stable_of _ (fun f hf v w w' hk hfv => by
        simp at hf
        subst hf
        exact own_keep hfv hk (fun b hb => by have := hfv.lt b hb; simp; omega))) ⟨IsW.keep0 hW1 (Keep.drew _), hb1, Rd.keep0 hv1 (Keep.drew _), BufOk.keep hb01 (Keep.drew _) (IsW.lt hW1) (by simp)⟩ ?_ ?_
    refine ⟨pureD rfl (fun _ _ => rfl) (fun _ _ h => h), ?_⟩
    refine ⟨pureD rfl (fun _ _ => rfl) (fun _ _ h => h), ?_⟩
    refine ⟨fun b V ρ w hk hbi hd hu hWd hV => el_loadb rfl rfl rfl rfl rfl hWd.2.1 rfl (el_nil ⟨_, rfl, rfl, Keep.refl _ _, hWd⟩), ?_⟩
    refine ⟨fun b V ρ w hk hbi hd hu hWd hV => el_call rfl rfl rfl rfl rfl rfl (wsigned_ok (some g) cur n w (by have h1 := hWd.1; rw [hbi] at h1; exact h1)) (by
      intro rv w' h
      rw [hsg, hzz] at h
      obtain ⟨rfl, hW2, k2⟩ := layr_to (cur ++ numB (zig n)) 0 (by simp [layB, sumL]; omega) (by simp [layE, sumL]; omega) h
      exact el_nil ⟨_, rfl, rfl, k2, hW2, k2.blk hWd.2.1 (by simp; omega), hWd.2.2.1.keepx k2 (fun h b hb => by simpa using hvg h b hb), BufOk.trans hWd.2.2.2 (layr_buf h) (Nat.le_trans k1.size hk.size)⟩), ?_⟩
    refine ⟨pureD rfl (fun _ _ => rfl) (fun _ _ h => h), ?_⟩
    refine ⟨fun b V ρ w hk hbi hd hu hWd hV => el_loadb rfl rfl rfl rfl rfl hWd.2.1 rfl (el_nil ⟨_, rfl, rfl, Keep.refl _ _, hWd⟩), ?_⟩
    refine ⟨fun b V ρ w hk hbi hd hu hWd hV => el_call rfl rfl rfl rfl rfl rfl (refsigned_ok n hs3 hs4 w) (by
      rintro u w' ⟨ho, k⟩
      exact el_nil ⟨_, rfl, own_lower ho (by have := hk.size; omega), k.any, IsW.keep0 hWd.1 k, k.blk hWd.2.1 (by simp), Rd.keep0 hWd.2.2.1 k, BufOk.keep hWd.2.2.2 k (IsW.lt hWd.1) (by simp)⟩), ?_⟩
    refine ⟨pureD rfl (fun _ _ => rfl) (fun _ _ h => h), ?_⟩
    refine ⟨fun b V ρ w hk hbi hd hu hWd hV => el_pure 1 rfl (el_nil ⟨V 6, rfl, hV 6 (hd 6 rfl), Keep.refl _ _, hWd⟩), ?_⟩
    refine ⟨pureD rfl (fun _ _ => rfl) (fun _ _ h => h), ?_⟩
    trivial
    intro b V w2 hall k2 hWd hV
    have hB := hWd.1
    rw [hall 3 (by decide)] at hB
    refine ew_ret (ret_3 (.int .i64 0) (V 8) (.int .i64 0) rfl rfl rfl rfl rfl rfl rfl rfl ⟨V 8, ?_, ?_, ?_, k1.any.trans k2 (by simp), hWd.2.2.2⟩)
    · simp [AddD.err, hsg]
    · have h8 : OwnB 5 w2 w0.heap.size (V 8) (numB (zig n)) := hV 8 (by decide)
      have e : (AddD.mk 1 n bs).laid = numB (zig n) := by simp [AddD.laid, hsg]
      rw [e]
      exact h8
    · have e : (AddD.mk 1 n bs).laid = numB (zig n) := by simp [AddD.laid, hsg]
      rw [e]
      exact hB
  refine ew_cond_f rfl (by simp [h1]) ?_
  refine es rfl ?_
  by_cases h2 : what = 2
  · subst h2
    refine ew_cond_t rfl rfl ?_
    have hlen : (numB bs.length).length ≤ 10 := numB_len10 (by omega)
    refine ew_seq ?_
    refine ew_draw follows [.known (.pointer (some ⟨g, 0, none⟩)), .known (.pointer (some ⟨bb, 2, none⟩)), .known (.slice ad bs.length cap), .known (.int .i64 0), .known (.pointer (some ⟨bb, 2, none⟩)), .known (.slice ad bs.length cap), .fact (fun v w => OwnB 5 w w0.heap.size v (numB bs.length ++ bs)), .known (.int .i64 0), .fact (fun v w => OwnB 5 w w0.heap.size v (numB bs.length ++ bs)), .known (.int .i64 0)] [g]
      (fun b w => IsW w g (cond (b 3) (cur ++ (numB bs.length ++ bs)) cur) ∧ Blk w bb 46 #[.int .i64 2, .int .i64 n, .slice ad bs.length cap] ∧ RdB w (.slice ad bs.length cap) bs ∧ BufOk g w0 w) rfl (stable_of _ (fun f hf v w w' hk hfv => by
        simp at hf
        subst hf
        exact own_keep hfv hk (fun b hb => by have := hfv.lt b hb; simp; omega))) ⟨IsW.keep0 hW1 (Keep.drew _), hb1, Rd.keep0 hv1 (Keep.drew _), BufOk.keep hb01 (Keep.drew _) (IsW.lt hW1) (by simp)⟩ ?_ ?_
    refine ⟨pureD rfl (fun _ _ => rfl) (fun _ _ h => h), ?_⟩
    refine ⟨pureD rfl (fun _ _ => rfl) (fun _ _ h => h), ?_⟩
    refine ⟨fun b V ρ w hk hbi hd hu hWd hV => el_loadb rfl rfl rfl rfl rfl hWd.2.1 rfl (el_nil ⟨_, rfl, rfl, Keep.refl _ _, hWd⟩), ?_⟩
    refine ⟨fun b V ρ w hk hbi hd hu hWd hV => el_call rfl rfl rfl rfl rfl rfl (wbytes_ok (some g) cur _ bs w (by have h1 := hWd.1; rw [hbi] at h1; exact h1) hWd.2.2.1 (by omega)) (by
      intro rv w' h
      obtain ⟨rfl, hW2, k2⟩ := layr_to (cur ++ (numB bs.length ++ bs)) 0 (by simp [layB, sumL]; omega) (by simp [layE, sumL]; omega) h
      exact el_nil ⟨_, rfl, rfl, k2, hW2, k2.blk hWd.2.1 (by simp; omega), hWd.2.2.1.keepx k2 (fun h b hb => by simpa using hvg h b hb), BufOk.trans hWd.2.2.2 (layr_buf h) (Nat.le_trans k1.size hk.size)⟩), ?_⟩
    refine ⟨pureD rfl (fun _ _ => rfl) (fun _ _ h => h), ?_⟩
    refine ⟨fun b V ρ w hk hbi hd hu hWd hV => el_loadb rfl rfl rfl rfl rfl hWd.2.1 rfl (el_nil ⟨_, rfl, rfl, Keep.refl _ _, hWd⟩), ?_⟩
    refine ⟨fun b V ρ w hk hbi hd hu hWd hV => el_call rfl rfl rfl rfl rfl rfl (refbytes_ok _ bs w hWd.2.2.1 (by omega)) (by
      rintro u w' ⟨ho, k⟩
      exact el_nil ⟨_, rfl, own_lower ho (by have := hk.size; omega), k.any, IsW.keep0 hWd.1 k, k.blk hWd.2.1 (by simp), Rd.keep0 hWd.2.2.1 k, BufOk.keep hWd.2.2.2 k (IsW.lt hWd.1) (by simp)⟩), ?_⟩
    refine ⟨pureD rfl (fun _ _ => rfl) (fun _ _ h => h), ?_⟩
    refine ⟨fun b V ρ w hk hbi hd hu hWd hV => el_pure 1 rfl (el_nil ⟨V 6, rfl, hV 6 (hd 6 rfl), Keep.refl _ _, hWd⟩), ?_⟩
    refine ⟨pureD rfl (fun _ _ => rfl) (fun _ _ h => h), ?_⟩
    trivial
    intro b V w2 hall k2 hWd hV
    have hB := hWd.1
    rw [hall 3 (by decide)] at hB
    refine ew_ret (ret_3 (.int .i64 0) (V 8) (.int .i64 0) rfl rfl rfl rfl rfl rfl rfl rfl ⟨V 8, ?_, ?_, ?_, k1.any.trans k2 (by simp), hWd.2.2.2⟩)
    · simp [AddD.err]
    · have h8 : OwnB 5 w2 w0.heap.size (V 8) (numB bs.length ++ bs) := hV 8 (by decide)
      have e : (AddD.mk 2 n bs).laid = numB bs.length ++ bs := by simp [AddD.laid]
      rw [e]
      exact h8
    · have e : (AddD.mk 2 n bs).laid = numB bs.length ++ bs := by simp [AddD.laid]
      rw [e]
      exact hB
  refine ew_cond_f rfl (by simp [h2]) ?_
  refine es rfl ?_
  by_cases h3 : what = 3
  · subst h3
    refine ew_cond_t rfl rfl ?_
    have hlen : (numB bs.length).length ≤ 10 := numB_len10 (by omega)
    refine ew_seq ?_
    refine ew_draw follows [.known (.pointer (some ⟨g, 0, none⟩)), .known (.pointer (some ⟨bb, 2, none⟩)), .known (.slice ad bs.length cap), .known (.string (strOf bs)), .known (.int .i64 0), .known (.pointer (some ⟨bb, 2, none⟩)), .known (.slice ad bs.length cap), .fact (fun v w => OwnB 5 w w0.heap.size v (numB bs.length ++ bs)), .known (.int .i64 0), .fact (fun v w => OwnB 5 w w0.heap.size v (numB bs.length ++ bs)), .known (.int .i64 0)] [g]
      (fun b w => IsW w g (cond (b 4) (cur ++ (numB bs.length ++ bs)) cur) ∧ Blk w bb 46 #[.int .i64 3, .int .i64 n, .slice ad bs.length cap] ∧ RdB w (.slice ad bs.length cap) bs ∧ BufOk g w0 w) rfl (stable_of _ (fun f hf v w w' hk hfv => by
        simp at hf
        subst hf
        exact own_keep hfv hk (fun b hb => by have := hfv.lt b hb; simp; omega))) ⟨IsW.keep0 hW1 (Keep.drew _), hb1, Rd.keep0 hv1 (Keep.drew _), BufOk.keep hb01 (Keep.drew _) (IsW.lt hW1) (by simp)⟩ ?_ ?_
    refine ⟨pureD rfl (fun _ _ => rfl) (fun _ _ h => h), ?_⟩
    refine ⟨pureD rfl (fun _ _ => rfl) (fun _ _ h => h), ?_⟩
    refine ⟨fun b V ρ w hk hbi hd hu hWd hV => el_loadb rfl rfl rfl rfl rfl hWd.2.1 rfl (el_nil ⟨_, rfl, rfl, Keep.refl _ _, hWd⟩), ?_⟩
    refine ⟨fun b V ρ w hk hbi hd hu hWd hV => el_str rfl rfl rfl rfl rfl rfl hWd.2.2.1 (el_nil ⟨_, rfl, rfl, Keep.refl _ _, hWd⟩), ?_⟩
    refine ⟨fun b V ρ w hk hbi hd hu hWd hV => el_call rfl rfl rfl rfl rfl rfl (wtext_ok (some g) cur bs w (by have h1 := hWd.1; rw [hbi] at h1; exact h1) (by omega)) (by
      intro rv w' h
      obtain ⟨rfl, hW2, k2⟩ := layr_to (cur ++ (numB bs.length ++ bs)) 0 (by simp [layB, sumL]; omega) (by simp [layE, sumL]; omega) h
      exact el_nil ⟨_, rfl, rfl, k2, hW2, k2.blk hWd.2.1 (by simp; omega), hWd.2.2.1.keepx k2 (fun h b hb => by simpa using hvg h b hb), BufOk.trans hWd.2.2.2 (layr_buf h) (Nat.le_trans k1.size hk.size)⟩), ?_⟩
    refine ⟨pureD rfl (fun _ _ => rfl) (fun _ _ h => h), ?_⟩
    refine ⟨fun b V ρ w hk hbi hd hu hWd hV => el_loadb rfl rfl rfl rfl rfl hWd.2.1 rfl (el_nil ⟨_, rfl, rfl, Keep.refl _ _, hWd⟩), ?_⟩
    refine ⟨fun b V ρ w hk hbi hd hu hWd hV => el_call rfl rfl rfl rfl rfl rfl (refbytes_ok _ bs w hWd.2.2.1 (by omega)) (by
      rintro u w' ⟨ho, k⟩
      exact el_nil ⟨_, rfl, own_lower ho (by have := hk.size; omega), k.any, IsW.keep0 hWd.1 k, k.blk hWd.2.1 (by simp), Rd.keep0 hWd.2.2.1 k, BufOk.keep hWd.2.2.2 k (IsW.lt hWd.1) (by simp)⟩), ?_⟩
    refine ⟨pureD rfl (fun _ _ => rfl) (fun _ _ h => h), ?_⟩
    refine ⟨fun b V ρ w hk hbi hd hu hWd hV => el_pure 1 rfl (el_nil ⟨V 7, rfl, hV 7 (hd 7 rfl), Keep.refl _ _, hWd⟩), ?_⟩
    refine ⟨pureD rfl (fun _ _ => rfl) (fun _ _ h => h), ?_⟩
    trivial
    intro b V w2 hall k2 hWd hV
    have hB := hWd.1
    rw [hall 4 (by decide)] at hB
    have e : (AddD.mk 3 n bs).laid = numB bs.length ++ bs := by simp [AddD.laid]
    refine ew_ret (ret_3 (.int .i64 0) (V 9) (.int .i64 0) rfl rfl rfl rfl rfl rfl rfl rfl ⟨V 9, ?_, ?_, ?_, k1.any.trans k2 (by simp), hWd.2.2.2⟩)
    · simp [AddD.err]
    · have h8 : OwnB 5 w2 w0.heap.size (V 9) (numB bs.length ++ bs) := hV 9 (by decide)
      rw [e]
      exact h8
    · rw [e]
      exact hB
  refine ew_cond_f rfl (by simp [h3]) ?_
  refine es rfl ?_
  by_cases h4 : what = 4
  · subst h4
    refine ew_cond_t rfl rfl ?_
    refine ew_seq ?_
    refine sp rfl ?_
    refine el_loadb rfl rfl rfl rfl rfl hb1 rfl ?_
    refine ep rfl ?_
    by_cases hn0 : n = 0
    · subst hn0
      refine ew_cond_f rfl rfl ?_
      refine ew_skip ?_
      refine sp rfl ?_
      refine el_call rfl rfl rfl rfl rfl rfl (wtruth_ok (some g) cur false w1 hW1) ?_
      intro rv w2 h
      obtain ⟨rfl, hW2, k2⟩ := layr_to (cur ++ [0]) 0 (by simp [layB, sumL]; omega) (by simp [layE, sumL]; omega) h
      refine el_bslice (z := .int .u8 0) (bytes := 1) (vs := bytesV [0]) rfl rfl rfl info_u8 rfl rfl rfl ?_
      intro b3 w3 hb3 hb3' k3 hblk3
      refine ep rfl ?_
      have hs2 := k2.size
      refine ew_ret (ret_3 (.int .i64 0) (.slice (some ⟨b3, 0, none⟩) 1 1) (.int .i64 0) rfl rfl rfl rfl rfl rfl rfl rfl ⟨.slice (some ⟨b3, 0, none⟩) 1 1, ?_, ?_, ?_, (k1.any.trans k2 (by simp)).trans k3 (by simp), BufOk.keep (BufOk.trans hb01 (layr_buf h) k1.size) k3 (IsW.lt hW2) (by simp)⟩)
      · simp [AddD.err]
      · exact ⟨rfl, .inr ⟨b3, 1, _, rfl, by omega, hblk3, Nat.le_refl _, by unfold maxLen; omega, rfl, rfl⟩⟩
      · exact IsW.keep0 hW2 k3
    · refine ew_cond_t rfl (by simp [hn0]) ?_
      refine sp rfl ?_
      refine el_call rfl rfl rfl rfl rfl rfl (wtruth_ok (some g) cur true w1 hW1) ?_
      intro rv w2 h
      obtain ⟨rfl, hW2, k2⟩ := layr_to (cur ++ [1]) 0 (by simp [layB, sumL]; omega) (by simp [layE, sumL]; omega) h
      refine el_bslice (z := .int .u8 0) (bytes := 1) (vs := bytesV [1]) rfl rfl rfl info_u8 rfl rfl rfl ?_
      intro b3 w3 hb3 hb3' k3 hblk3
      refine ep rfl ?_
      have hs2 := k2.size
      have e : (AddD.mk 4 n bs).laid = [1] := by simp [AddD.laid, hn0]
      refine ew_ret (ret_3 (.int .i64 0) (.slice (some ⟨b3, 0, none⟩) 1 1) (.int .i64 0) rfl rfl rfl rfl rfl rfl rfl rfl ⟨.slice (some ⟨b3, 0, none⟩) 1 1, ?_, ?_, ?_, (k1.any.trans k2 (by simp)).trans k3 (by simp), BufOk.keep (BufOk.trans hb01 (layr_buf h) k1.size) k3 (IsW.lt hW2) (by simp)⟩)
      · simp [AddD.err]
      · rw [e]
        exact ⟨rfl, .inr ⟨b3, 1, _, rfl, by omega, hblk3, Nat.le_refl _, by unfold maxLen; omega, rfl, rfl⟩⟩
      · rw [e]
        exact IsW.keep0 hW2 k3
  refine ew_cond_f rfl (by simp [h4]) ?_
  refine ew_skip ?_
  refine ew_seq ?_
  have hel : (AddD.mk what n bs).laid = bs ++ bs := by simp [AddD.laid, h0, h1, h2, h3, h4]
  have hee : (AddD.mk what n bs).err = 0 := by simp [AddD.err, h0, h1]
  have hbl : bb < w1.heap.size := Blk.lt hb1
  · refine ew_drawg follows [.known (.pointer (some ⟨g, 0, none⟩)), .known (.pointer (some ⟨bb, 2, none⟩)), .known (.slice ad bs.length cap), .known (.pointer (some ⟨bb, 2, none⟩)), .known (.slice ad bs.length cap), .any, .known (.int .i64 0), .any, .known (.pointer (some ⟨bb, 2, none⟩)), .known (.slice ad bs.length cap), .any,
      .known (.pointer (some ⟨bb, 2, none⟩)), .known (.slice ad bs.length cap), .any, .known (.int .i64 0), .any, .known (.int .i64 0)] (RawG g bb cur bs (.slice ad bs.length cap) what n w0) rfl (stable_any _ (by simp [Spec.isK])) ?_ ?_ ?_
    · have kd := Keep.drew w1
      exact ⟨⟨(k1.trans0 kd).any, BufOk.keep hb01 kd (IsW.lt hW1) (by simp)⟩, IsW.keep0 hW1 kd, ⟨kd.blk hb1 (by simp), Rd.keep0 hv1 kd⟩, (fun h => by cases h), (fun h => by cases h), (fun h => by cases h), (fun h => by cases h), (fun h => by cases h)⟩
    refine ⟨pureG rfl (fun _ _ => rfl) (fun _ _ _ h => h), ?_⟩
    refine ⟨pureG rfl (fun _ _ => rfl) (fun _ _ _ h => h), ?_⟩
    refine ⟨fun b V ρ w hbi hd hu hG hV => el_loadb rfl rfl rfl rfl rfl hG.2.2.1.1 rfl (el_nil ⟨_, rfl, rfl, hG⟩), ?_⟩
    refine ⟨pureG rfl (fun _ _ => rfl) (fun _ _ _ h => h), ?_⟩
    refine ⟨fun b V ρ w hbi hd hu hG hV => el_loadb rfl rfl rfl rfl rfl hG.2.2.1.1 rfl (el_nil ⟨_, rfl, rfl, hG⟩), ?_⟩
    refine ⟨fun b V ρ w hbi hd hu hG hV => el_bslice (z := .slice none 0 0) (bytes := 24) (vs := [.slice ad bs.length cap, .slice none 0 0, .slice ad bs.length cap]) rfl rfl rfl info_bs rfl rfl rfl (fun p w' hp hp' k hblk => el_nil ⟨_, rfl, trivial, by
      have h := RawG.keep0 hG k
      exact ⟨h.1, h.2.1, h.2.2.1, fun _ _ => ⟨p, rfl, hblk⟩, h.2.2.2.2⟩⟩), ?_⟩
    refine ⟨?_, ?_⟩
    · intro b V ρ w hbi hd hu hG hV
      obtain ⟨g1, g2, ⟨g3, g3'⟩, g4, g5, g6, g7, g8⟩ := hG
      obtain ⟨p, hp, hpb⟩ := g4 (hd 5 rfl) hbi
      rw [hbi] at g2
      refine el_call rfl rfl rfl rfl rfl rfl (wraw_ok (some g) cur (V 5) [bs, [], bs] w g2 (by rw [hp]; exact RdBB.of_blk hpb rfl (three_of g3' (RdB.nil w) g3')) (by simp [sumL]; omega) (by simp)) ?_
      intro rv w' h
      obtain ⟨rfl, hW2, k2⟩ := layr_to (cur ++ (bs ++ bs)) 0 (by simp [layB, sumL]; omega) (by simp [layE, sumL]; omega) h
      have h10 : b 10 = false := hu 10 _ rfl rfl
      refine el_nil ⟨_, rfl, rfl, ⟨g1.1.trans k2 (by simp), BufOk.trans g1.2 (layr_buf h) g1.1.size⟩, hW2, ⟨k2.blk g3 (by simp; omega), g3'.keepx k2 (fun h b hb => by simpa using hvg h b hb)⟩, (fun _ h => by cases h), (fun x y => ?_), (fun x => ?_), (fun x => own_keep (g7 x) k2 (fun b hb => by have := (g7 x).lt b hb; simp; omega)), (fun x => own_keep (g8 x) k2 (fun b hb => by have := (g8 x).lt b hb; simp; omega))⟩
      · obtain ⟨q, hq, hv7, hb7⟩ := g5 x y
        exact ⟨q, hq, hv7, k2.blk hb7 (by simp; omega)⟩
      · have h10' : b 10 = true := x
        rw [h10] at h10'
        cases h10'
    refine ⟨fun b V ρ w hbi hd hu hG hV => el_bslice (z := .int .u8 0) (bytes := 1) (vs := []) rfl rfl rfl info_u8 rfl rfl rfl (fun p w' hp hp' k hblk => el_nil ⟨_, rfl, trivial, by
      have h := RawG.keep0 hG k
      have hs := hG.1.1.size
      exact ⟨h.1, h.2.1, h.2.2.1, h.2.2.2.1, fun _ _ => ⟨p, by omega, rfl, hblk⟩, h.2.2.2.2.2⟩⟩), ?_⟩
    refine ⟨pureG rfl (fun _ _ => rfl) (fun _ _ _ h => h), ?_⟩
    refine ⟨fun b V ρ w hbi hd hu hG hV => el_loadb rfl rfl rfl rfl rfl hG.2.2.1.1 rfl (el_nil ⟨_, rfl, rfl, hG⟩), ?_⟩
    refine ⟨?_, ?_⟩
    · intro b V ρ w hbi hd hu hG hV
      obtain ⟨p, hp, hv7, hb7⟩ := hG.2.2.2.2.1 (hd 7 rfl) hbi
      have h6 : b 6 = true := hd 6 rfl
      have hs := hG.1.1.size
      have own7 : w.ownsRow w0.heap.size 5 1 (V 7) 0 [] := by
        rw [hv7]
        exact ⟨rfl, .inr ⟨p, 0, #[], rfl, hp, hb7, Nat.le_refl _, Nat.zero_le _, rfl, rfl⟩⟩
      refine el_append3 (v := V 7) (base := w0.heap.size) (z := .int .u8 0) (size := 1) (bytes := 1) (n := 0) (m := bs.length) (xs := []) (ys := bytesV bs) rfl rfl rfl info_u8 rfl rfl rfl rfl own7 hG.2.2.1.2 (by simp [bytesV_length]) (bytesV_one _) (by unfold maxLen; omega) (by omega) hs ?_
      intro v' w' ho hgr hc
      have ho' : OwnB 5 w' w0.heap.size v' bs := by simpa using ho
      have hW6 := hG.2.1
      rw [h6] at hW6
      have hbw : bb < w.heap.size := Blk.lt hG.2.2.1.1
      have fin : Keep [] w w' ∧ (bs = [] ∨ ∃ wc, IsW wc g (cur ++ (bs ++ bs)) ∧ Keep [] wc w' ∧ w0.heap.size ≤ wc.heap.size ∧ bb < wc.heap.size ∧ v'.ownBlock = some wc.heap.size) := by
        rcases hc with ⟨e, k⟩ | ⟨e, ⟨hm, k⟩ | ⟨ad3, cap3, e3, hm, hle⟩⟩
        · exact ⟨k, .inr ⟨w, hW6, k, hs, hbw, e⟩⟩
        · exact ⟨k, .inl (List.eq_nil_of_length_eq_zero hm)⟩
        · rw [hv7] at e3
          injection e3 with _ _ e4
          omega
      have h := RawG.keep0 hG fin.1
      exact el_nil ⟨_, rfl, trivial, h.1, h.2.1, h.2.2.1, h.2.2.2.1, (fun _ h => by cases h), (fun _ => ⟨h6, fun _ => ⟨ho', fin.2⟩⟩), h.2.2.2.2.2.2⟩
    refine ⟨pureG rfl (fun _ _ => rfl) (fun _ _ _ h => h), ?_⟩
    refine ⟨fun b V ρ w hbi hd hu hG hV => el_loadb rfl rfl rfl rfl rfl hG.2.2.1.1 rfl (el_nil ⟨_, rfl, rfl, hG⟩), ?_⟩
    refine ⟨?_, ?_⟩
    · intro b V ρ w hbi hd hu hG hV
      have h10 : b 10 = true := hd 10 rfl
      have hs := hG.1.1.size
      obtain ⟨h6, h62⟩ := hG.2.2.2.2.2.1 h10
      obtain ⟨ho10, hsep⟩ := h62 hbi
      have h15 : b 15 = false := hu 15 _ rfl rfl
      refine el_append3 (v := V 10) (base := w0.heap.size) (z := .int .u8 0) (size := 1) (bytes := 1) (n := bs.length) (m := bs.length) (xs := bytesV bs) (ys := bytesV bs) rfl rfl rfl info_u8 rfl rfl rfl rfl ho10 hG.2.2.1.2 (by simp [bytesV_length]) (bytesV_one _) (by unfold maxLen; omega) (by omega) hs ?_
      intro v' w' ho hgr hc
      have ho' : OwnB 5 w' w0.heap.size v' (bs ++ bs) := by
        show World.ownsRow _ _ _ _ _ _ _
        rw [bytesV_append, List.length_append]
        exact ho
      have easy : Keep [] w w' → RawG g bb cur bs (.slice ad bs.length cap) what n w0 (upB b 13) (upV V 13 v') w' := fun k => by
        have h := RawG.keep0 hG k
        exact ⟨h.1, h.2.1, h.2.2.1, h.2.2.2.1, h.2.2.2.2.1, fun _ => ⟨h6, fun h => by cases h⟩, fun _ => ho', h.2.2.2.2.2.2.2⟩
      rcases hc with ⟨e, k⟩ | ⟨e, ⟨hm, k⟩ | ⟨ad3, cap3, e3, hm, hle⟩⟩
      · exact el_nil ⟨_, rfl, trivial, easy k⟩
      · exact el_nil ⟨_, rfl, trivial, easy k⟩
      · have hbne : bs ≠ [] := by
          rintro rfl
          simp at hm
        obtain ⟨wc, a1, a2, a3, a4, a5⟩ := hsep.resolve_left hbne
        have kx : Keep [wc.heap.size] w w' := Keep.of_grown hgr (fun b hb _ => by rw [a5] at hb; injection hb with hb; simp [hb])
        have k0 : Keep [] wc w' := a2.trans kx (by simp)
        refine el_nil ⟨_, rfl, trivial, ⟨hG.1.1.trans kx (by simp; omega), BufOk.keep hG.1.2 kx (IsW.lt hG.2.1) (by have := IsW.lt a1; simp; omega)⟩, ?_, ⟨kx.blk hG.2.2.1.1 (by simp; omega), hG.2.2.1.2.keep kx ?_⟩, ?_, ?_, (fun _ => ⟨h6, fun h => by cases h⟩), (fun _ => ho'), ?_⟩
        · show IsW w' g (cond (b 6) (cur ++ (bs ++ bs)) cur)
          rw [h6]
          exact IsW.keep0 a1 k0
        · intro x hx
          have := RdB.lt hv hbne hx
          simp
          omega
        · intro _ h
          have h' : b 6 = false := h
          rw [h6] at h'
          cases h'
        · intro _ h
          have h' : b 10 = false := h
          rw [h10] at h'
          cases h'
        · intro h
          have h' : b 15 = true := h
          rw [h15] at h'
          cases h'
    refine ⟨pureG rfl (fun _ _ => rfl) (fun _ _ _ h => h), ?_⟩
    refine ⟨fun b V ρ w hbi hd hu hG hV => el_pure 1 rfl (el_nil ⟨V 13, rfl, trivial, hG.1, hG.2.1, hG.2.2.1, hG.2.2.2.1, hG.2.2.2.2.1, hG.2.2.2.2.2.1, hG.2.2.2.2.2.2.1, fun _ => hG.2.2.2.2.2.2.1 (hd 13 rfl)⟩), ?_⟩
    refine ⟨pureG rfl (fun _ _ => rfl) (fun _ _ _ h => h), ?_⟩
    trivial
    intro b V w2 hall hG hV
    have hB := hG.2.1
    rw [hall 6 (by decide)] at hB
    refine ew_ret (ret_3 (.int .i64 0) (V 15) (.int .i64 0) rfl rfl rfl rfl rfl rfl rfl rfl ⟨V 15, ?_, ?_, ?_, hG.1.1, hG.1.2⟩)
    · rw [hee]
    · rw [hel]
      exact hG.2.2.2.2.2.2.2 (hall 15 (by decide))
    · rw [hel]
      exact hB
end Go.Proofs.Ytfbpobhbkadblaa
