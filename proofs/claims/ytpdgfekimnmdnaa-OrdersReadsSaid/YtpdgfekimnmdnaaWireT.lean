/- What a laying call of the law lays. -/
import Derived.Test.YtpdgfekimnmdnaaWireR
import Derived.Test.YtpdgfekimnmdnaaDrawG
import Derived.Test.YtpdgfekimnmdnaaApp2
set_option linter.unusedVariables false
set_option linter.unusedSimpArgs false
namespace Go.Proofs.Ytpdgfekimnmdnaa
open Go.RowKit
set_option maxRecDepth 20000

theorem Rd.keepx {M : List Nat} {w w' : World} {v : Value} {bs : List UInt8} (h : RdB w v bs) (k : Keep M w w') (hM : bs ≠ [] → ∀ b, v.ownBlock = some b → b ∉ M) : RdB w' v bs := by
  by_cases hb : bs = []
  · subst hb
    obtain ⟨ad, cap, rfl, hc, _⟩ := h
    exact ⟨ad, cap, rfl, hc, fun j u hj => by simp [bytesV] at hj⟩
  · exact h.keep k (hM hb)
theorem refbytes_ok (v : Value) (bs : List UInt8) (w : World) (hv : RdB w v bs) (hl : bs.length ≤ 70368744177664) : Fn Try.prog 41 [v] w fun u w' => OwnB 5 w' w.heap.size u (numB bs.length ++ bs) ∧ Keep [] w w' := by
  obtain ⟨ad, cap, rfl, hc⟩ := hv.slice
  have hlen : (numB bs.length).length ≤ 10 := numB_len10 (by omega)
  refine fn_enter Try.func41 rfl rfl ?_
  refine es rfl ?_
  refine sp rfl ?_
  refine el_call rfl rfl rfl rfl rfl rfl (refnum_nat bs.length (by omega) w) ?_
  rintro u w1 ⟨ho1, k1⟩
  refine pp rfl ?_
  refine el_append (v := u) (base := w.heap.size) (z := .int .u8 0) (size := 1) (bytes := 1) (n := (numB bs.length).length) (m := bs.length) (xs := bytesV (numB bs.length)) (ys := bytesV bs) rfl rfl rfl info_u8 rfl rfl rfl rfl ho1 (hv.keep0 k1) (by simp [bytesV_length]) (bytesV_one _) (by unfold maxLen; omega) (by omega) k1.size ?_
  intro v' w4 ho4 hg4 hfr
  refine ep rfl ?_
  refine ew_ret (ret_1 v' rfl rfl rfl rfl ⟨?_, k1.app ho1 (Nat.le_refl _) hg4⟩)
  show World.ownsRow _ _ _ _ _ _ _
  rw [bytesV_append, List.length_append]
  exact ho4

/-- A call that lays, as data: which, a number, bytes. -/
structure AddD where
  what : Int
  n : Int
  bytes : List UInt8
/-- The bytes that it lays. -/
def AddD.laid (x : AddD) : List UInt8 :=
  if x.what = 0 then (if x.n < 0 then [] else numB x.n.toNat)
  else if x.what = 1 then (if inSign x.n = true then numB (zig x.n) else [])
  else if x.what = 2 then numB x.bytes.length ++ x.bytes
  else if x.what = 3 then numB x.bytes.length ++ x.bytes
  else if x.what = 4 then (if x.n = 0 then [0] else [1])
  else x.bytes ++ x.bytes
/-- The error that it tells. -/
def AddD.err (x : AddD) : Int :=
  if x.what = 0 then (if x.n < 0 then 2 else 0) else if x.what = 1 then (if inSign x.n = true then 0 else 2) else 0

def LayL (g : Nat) (cur : List UInt8) (x : AddD) (w : World) (r : Value) (w' : World) : Prop :=
  ∃ u, r = .tuple #[.int .i64 x.err, u, .int .i64 x.err] ∧ OwnB 5 w' w.heap.size u x.laid ∧ IsW w' g (cur ++ x.laid) ∧ Keep [g] w w' ∧ BufOk g w w'


theorem three_of {w : World} {u1 u2 u3 : Value} {a b c : List UInt8} (h1 : RdB w u1 a) (h2 : RdB w u2 b) (h3 : RdB w u3 c) : ∀ (j : Nat) (bs : List UInt8), [a, b, c][j]? = some bs → ∃ x : Value, [u1, u2, u3][j]? = some x ∧ RdB w x bs := fun j x hj => by
  match j, hj with
  | 0, hj => injection hj with hj; subst hj; exact ⟨u1, rfl, h1⟩
  | 1, hj => injection hj with hj; subst hj; exact ⟨u2, rfl, h2⟩
  | 2, hj => injection hj with hj; subst hj; exact ⟨u3, rfl, h3⟩
theorem RdB.nil (w : World) : RdB w (.slice none 0 0) [] := ⟨none, 0, rfl, Nat.le_refl _, fun j u hj => by simp [bytesV] at hj⟩
theorem RdB.lt {w : World} {v : Value} {bs : List UInt8} (h : RdB w v bs) (hne : bs ≠ []) {b : Nat} (hb : v.ownBlock = some b) : b < w.heap.size := by
  obtain ⟨ad, cap, rfl, hc, hr⟩ := h
  cases bs with
  | nil => exact absurd rfl hne
  | cons c r =>
    obtain ⟨a, rfl, ha⟩ := hr 0 (byteV c) rfl
    have e : a.block = b := by simpa [Value.ownBlock] using hb
    subst e
    have hca := ha
    simp only [World.cell?, add_block] at hca
    cases hq : w.heap[a.block]? with
    | none => rw [hq] at hca; simp at hca
    | some o => exact (Array.getElem?_eq_some_iff.1 hq).1

end Go.Proofs.Ytpdgfekimnmdnaa
