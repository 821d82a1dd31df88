/- The wire's writer, third part: the calls. -/
import Derived.Test.YtpdgfekimnmdnaaWireB
set_option linter.unusedVariables false
set_option linter.unusedSimpArgs false
namespace Go.Proofs.Ytpdgfekimnmdnaa
open Go.RowKit
set_option maxRecDepth 20000

/-- A literal slice of slices of bytes. -/
theorem RdBB.of_blk {w : World} {b : Nat} {T : TypeId} {vs : List Value} {bss : List (List UInt8)} {fr : Nat × Nat} (h : w.heap[b]? = some (.cells vs.toArray T fr)) (hl : vs.length = bss.length) (he : ∀ (j : Nat) (bs : List UInt8), bss[j]? = some bs → ∃ u : Value, vs[j]? = some u ∧ RdB w u bs) :
    RdBB w (.slice (some ⟨b, 0, none⟩) bss.length bss.length) bss := by
  refine ⟨vs, ?_, hl, he⟩
  rw [← hl]
  exact Rd.of_blk h
theorem two_of {w : World} {u v : Value} {a b : List UInt8} (hu : RdB w u a) (hv : RdB w v b) : ∀ (j : Nat) (bs : List UInt8), [a, b][j]? = some bs → ∃ x : Value, [u, v][j]? = some x ∧ RdB w x bs := fun j x hj => by
  match j, hj with
  | 0, hj => injection hj with hj; subst hj; exact ⟨u, rfl, hu⟩
  | 1, hj => injection hj with hj; subst hj; exact ⟨v, rfl, hv⟩
theorem one_of {w : World} {u : Value} {a : List UInt8} (hu : RdB w u a) : ∀ (j : Nat) (bs : List UInt8), [a][j]? = some bs → ∃ x : Value, [u][j]? = some x ∧ RdB w x bs := fun j x hj => by
  match j, hj with
  | 0, hj => injection hj with hj; subst hj; exact ⟨u, rfl, hu⟩

/-- What a laying call comes to, of a writer at p (nil, or a block). -/
def LayR (p : Option Nat) (bs : List UInt8) (fine : Bool) (parts : List (List UInt8)) (w : World) (r : Value) (w' : World) : Prop :=
  match p with
  | none => r = .int .i64 1 ∧ Keep [] w w'
  | some g => r = .int .i64 (layE fine bs.length (sumL parts)) ∧ IsW w' g (layB fine bs parts) ∧ Keep [g] w w' ∧ BufOk g w w'
def IsWo (w : World) (p : Option Nat) (bs : List UInt8) : Prop := match p with
  | none => True
  | some g => IsW w g bs
def ptrO (p : Option Nat) : Value := .pointer (p.map fun g => ⟨g, 0, none⟩)
theorem IsWo.keep0 {w w' : World} {p : Option Nat} {bs : List UInt8} (h : IsWo w p bs) (k : Keep [] w w') : IsWo w' p bs := by
  cases p with
  | none => trivial
  | some g => exact IsW.keep0 h k

theorem lay_any (p : Option Nat) (bs : List UInt8) (fine : Bool) (lv : Value) (parts : List (List UInt8)) (w0 w : World) (k : Keep [] w0 w) (hW0 : IsWo w0 p bs) (hl : RdBB w lv parts) (hs : sumL parts ≤ 35184372088832) (hp : parts.length ≤ 1099511627776) :
    Fn Try.prog 56 [ptrO p, .bool fine, lv] w (LayR p bs fine parts w0) := by
  have hW : IsWo w p bs := hW0.keep0 k
  cases p with
  | none => exact (lay_nil fine lv w).mono fun r w' ⟨h1, h2⟩ => ⟨h1, h2 ▸ k⟩
  | some g =>
    have hg0 : g < w0.heap.size := IsW.lt hW0
    exact (lay_ok g bs fine lv parts w hW hl hs hp).mono fun r w' ⟨h1, h2, h3, h4⟩ => ⟨h1, h2, (k.any).trans h3 (fun b hb _ => hb), BufOk.trans (BufOk.keep (BufOk.refl g w0) k hg0 (by simp)) h4 k.size⟩

theorem max0 (n : Int) : (if (0 : Int) > n then 0 else n) = ((n.toNat : Nat) : Int) := by split <;> omega

theorem wnumber_ok (p : Option Nat) (bs : List UInt8) (n : Int) (hn : n ≤ 9223372036854775807) (w : World) (hW : IsWo w p bs) :
    Fn Try.prog 33 [ptrO p, .int .i64 n] w (LayR p bs (decide (n ≥ 0)) [numB n.toNat] w) := by
  have hlen : (numB n.toNat).length ≤ 10 := numB_len10 (by omega)
  refine fn_enter Try.func33 rfl rfl ?_
  refine es rfl ?_
  refine sp rfl ?_
  refine el_max rfl rfl rfl rfl ?_
  refine el_as (int_eq (max0 n)) ?_
  refine el_call rfl rfl rfl rfl rfl rfl (number_i64 n.toNat (by omega) w) ?_
  rintro v1 w1 ⟨ho1, k1⟩
  refine el_bslice (z := .slice none 0 0) (bytes := 24) (vs := [v1]) rfl rfl rfl info_bs rfl rfl (by obtain ⟨ad, cap, rfl, _⟩ := own_slice ho1; rfl) ?_
  intro b w2 hb1 hb2 k2 hblk
  refine el_call rfl rfl rfl rfl rfl rfl (lay_any p bs (decide (n ≥ 0)) _ [numB n.toNat] w w2 (k1.trans0 k2) hW (RdBB.of_blk hblk rfl (one_of ((Rd.of_own ho1).keep0 k2))) (by simp [sumL]; omega) (by simp)) ?_
  intro r w3 hr
  refine ep rfl ?_
  exact ew_ret (ret_1 r rfl rfl rfl rfl hr)

theorem wbytes_ok (p : Option Nat) (bs : List UInt8) (v : Value) (b : List UInt8) (w : World) (hW : IsWo w p bs) (hv : RdB w v b) (hl : b.length ≤ 17592186044416) :
    Fn Try.prog 34 [ptrO p, v] w (LayR p bs true [numB b.length, b] w) := by
  have hlen : (numB b.length).length ≤ 10 := numB_len10 (by omega)
  obtain ⟨ad, cap, rfl, hc⟩ := hv.slice
  refine fn_enter Try.func34 rfl rfl ?_
  refine es rfl ?_
  refine sp rfl ?_
  refine el_call rfl rfl rfl rfl rfl rfl (number_int b.length (by omega) w) ?_
  rintro v1 w1 ⟨ho1, k1⟩
  refine pp rfl ?_
  refine el_bslice (z := .slice none 0 0) (bytes := 24) (vs := [v1, .slice ad b.length cap]) rfl rfl rfl info_bs rfl rfl (by obtain ⟨ad, cap, rfl, _⟩ := own_slice ho1; rfl) ?_
  intro b2 w2 hb1 hb2 k2 hblk
  refine el_call rfl rfl rfl rfl rfl rfl (lay_any p bs true _ [numB b.length, b] w w2 (k1.trans0 k2) hW (RdBB.of_blk hblk rfl (two_of ((Rd.of_own ho1).keep0 k2) (hv.keep0 (k1.trans0 k2)))) (by simp [sumL]; omega) (by simp)) ?_
  intro r w3 hr
  refine ep rfl ?_
  exact ew_ret (ret_1 r rfl rfl rfl rfl hr)

theorem LayR.from {p : Option Nat} {bs : List UInt8} {fine : Bool} {parts : List (List UInt8)} {w0 w : World} {r : Value} {w' : World} (h : LayR p bs fine parts w r w') (hW0 : IsWo w0 p bs) (k : Keep [] w0 w) : LayR p bs fine parts w0 r w' := by
  cases p with
  | none => exact ⟨h.1, k.trans0 h.2⟩
  | some g =>
    have hg0 : g < w0.heap.size := IsW.lt hW0
    exact ⟨h.1, h.2.1, (k.any).trans h.2.2.1 (fun b hb _ => hb), BufOk.trans (BufOk.keep (BufOk.refl g w0) k hg0 (by simp)) h.2.2.2 k.size⟩

theorem wtruth_ok (p : Option Nat) (bs : List UInt8) (is : Bool) (w : World) (hW : IsWo w p bs) :
    Fn Try.prog 43 [ptrO p, .bool is] w (LayR p bs true [[if is then 1 else 0]] w) := by
  refine fn_enter Try.func43 rfl rfl ?_
  refine es rfl ?_
  refine ew_seq (es rfl ?_)
  cases is with
  | true =>
    refine ew_cond_t rfl rfl ?_
    refine sp rfl ?_
    refine el_bslice (z := .int .u8 0) (bytes := 1) (vs := bytesV [1]) rfl rfl rfl info_u8 rfl rfl rfl ?_
    intro b1 w1 hb1 hb2 k1 hblk1
    refine el_bslice (z := .slice none 0 0) (bytes := 24) (vs := [.slice (some ⟨b1, 0, none⟩) 1 1]) rfl rfl rfl info_bs rfl rfl rfl ?_
    intro b2 w2 hb3 hb4 k2 hblk
    refine el_call rfl rfl rfl rfl rfl rfl (lay_any p bs true _ [[1]] w w2 (k1.trans0 k2) hW (RdBB.of_blk hblk rfl (one_of (a := [1]) ((Rd.of_blk hblk1).keep0 k2))) (by simp [sumL]) (by simp)) ?_
    intro r w3 hr
    refine ep rfl ?_
    exact ew_ret (ret_1 r rfl rfl rfl rfl hr)
  | false =>
    refine ew_cond_f rfl rfl ?_
    refine ew_skip ?_
    refine sp rfl ?_
    refine el_bslice (z := .int .u8 0) (bytes := 1) (vs := bytesV [0]) rfl rfl rfl info_u8 rfl rfl rfl ?_
    intro b1 w1 hb1 hb2 k1 hblk1
    refine el_bslice (z := .slice none 0 0) (bytes := 24) (vs := [.slice (some ⟨b1, 0, none⟩) 1 1]) rfl rfl rfl info_bs rfl rfl rfl ?_
    intro b2 w2 hb3 hb4 k2 hblk
    refine el_call rfl rfl rfl rfl rfl rfl (lay_any p bs true _ [[0]] w w2 (k1.trans0 k2) hW (RdBB.of_blk hblk rfl (one_of (a := [0]) ((Rd.of_blk hblk1).keep0 k2))) (by simp [sumL]) (by simp)) ?_
    intro r w3 hr
    refine ep rfl ?_
    exact ew_ret (ret_1 r rfl rfl rfl rfl hr)

/-- A signed number, as the writer reckons it. -/
def zigU (n : Int) : Nat := (ibits .xor .u64 (IntKind.wrap .u64 (IntKind.wrap .i64 (n * 2 ^ min (Int.toNat 1) 64))) (IntKind.wrap .u64 (n.fdiv (2 ^ min (Int.toNat 63) 64)))).toNat
theorem zigU_eq (n : Int) : ibits .xor .u64 (IntKind.wrap .u64 (IntKind.wrap .i64 (n * 2 ^ min (Int.toNat 1) 64))) (IntKind.wrap .u64 (n.fdiv (2 ^ min (Int.toNat 63) 64))) = (zigU n : Int) ∧ zigU n < 18446744073709551616 := by
  have h : ∀ x y, 0 ≤ ibits .xor .u64 x y ∧ ibits .xor .u64 x y < 18446744073709551616 := fun x y => by
    simp only [ibits, wrap_u64]
    omega
  obtain ⟨h1, h2⟩ := h (IntKind.wrap .u64 (IntKind.wrap .i64 (n * 2 ^ min (Int.toNat 1) 64))) (IntKind.wrap .u64 (n.fdiv (2 ^ min (Int.toNat 63) 64)))
  unfold zigU
  omega

def inSign (n : Int) : Bool := decide (-4611686018427387904 ≤ n) && decide (n < 4611686018427387904)
theorem wall_ok (p : Option Nat) (bs : List UInt8) (w : World) (hW : IsWo w p bs) :
    Fn Try.prog 35 [ptrO p] w fun v w' => OwnB 5 w' w.heap.size v (match p with | none => [] | some _ => bs) ∧ Keep [] w w' := by
  refine fn_enter Try.func35 rfl rfl ?_
  refine es rfl ?_
  cases p with
  | none =>
    refine ew_seq (es rfl ?_)
    refine ew_cond_t rfl rfl ?_
    refine es rfl ?_
    exact ew_ret (ret_1 (.slice none 0 0) rfl rfl rfl rfl ⟨World.ownsRow_nil _ _ _ _, Keep.refl _ _⟩)
  | some g =>
    obtain ⟨hl, v, hg, hown⟩ := hW
    refine ew_seq (es rfl ?_)
    refine ew_cond_f rfl rfl ?_
    refine ew_skip ?_
    refine sp rfl ?_
    refine el_loadb rfl rfl rfl rfl rfl hg rfl ?_
    refine el_call rfl rfl rfl rfl rfl rfl (clone_ok v bs w (Rd.of_own hown) (by omega)) ?_
    rintro v2 w2 ⟨h2, k2⟩
    refine ep rfl ?_
    exact ew_ret (ret_1 v2 rfl rfl rfl rfl ⟨h2, k2⟩)
end Go.Proofs.Ytpdgfekimnmdnaa
