/- Reading the arguments of a row. -/
import Derived.Test.YtpdgfekimnmdnaaRows
import Derived.Test.YtpdgfekimnmdnaaShort
import Derived.ProofKit
set_option linter.unusedVariables false
set_option linter.unusedSimpArgs false
namespace Go.Proofs.Ytpdgfekimnmdnaa
open Go.ChangeShapes Go.WideShapes Go.ChangeAt Go.RowKit

theorem own : ownKnob Try.prog.godebug = none := by kernel_rfl
theorem laidOut : laidOutB Try.prog = true := by kernel_rfl

theorem bytes_of_ints : ∀ zs : List Int, (∀ n ∈ zs, (Lit.int .u8 n).wf = true) → ∃ bs : List UInt8, zs.map (Value.int .u8) = bytesV bs ∧ bs.length = zs.length := by
  intro zs
  induction zs with
  | nil => intro _; exact ⟨[], rfl, rfl⟩
  | cons z zs ih =>
    intro h
    obtain ⟨bs, h1, h2⟩ := ih fun n hn => h n (by simp [hn])
    have hz : 0 ≤ z ∧ z ≤ 255 := by
      have h5 := h z (by simp)
      have e1 : IntKind.u8.min = 0 := rfl
      have e2 : IntKind.u8.max = 255 := rfl
      simpa [Lit.wf, e1, e2] using h5
    refine ⟨UInt8.ofNat z.toNat :: bs, ?_, by simp [h2]⟩
    have e3 : (UInt8.ofNat z.toNat).toNat = z.toNat := by
      rw [UInt8.toNat_ofNat']
      omega
    have e4 : ((UInt8.ofNat z.toNat).toNat : Int) = z := by rw [e3]; omega
    simp only [List.map_cons, h1, bytesV, byteV, List.map_cons, e4]

theorem open_bytes {H : Type} {enc : TypeId × Value → H} {P : Program} {W : World} {spare : Nat → Bool} {held : Bool} {t e : TypeId} {r : Reach} {b0 base : Nat} {v : Value} {d : DataW H} {ps : List MemPlace} (ht : P.underlying t = some (.slice e)) (he : P.underlying e = some (.int .u8)) (hc : P.cellsOf e = 1)
    (hok : Value.okWide P W r b0 t v) (h : DataW.Trod enc P W base spare held t v d ps) : ∃ bs : List UInt8, RdB W v bs ∧ bs.length ≤ maxLen := by
  obtain ⟨a0, len, cap, rfl⟩ := okWide_slice ht hok
  obtain ⟨fuel, hf⟩ := h
  rcases open_ints ht he hc hf with ⟨hcs, _⟩ | ⟨a, len', cap', zs, hcs, _, hl, hm, hz, _, hcell, hwz⟩
  · simp [Value.cells] at hcs
    obtain ⟨rfl, rfl, rfl⟩ := hcs
    exact ⟨[], ⟨_, _, rfl, Nat.le_refl _, fun j u hj => by simp [bytesV] at hj⟩, by unfold maxLen; simp⟩
  · simp [Value.cells] at hcs
    obtain ⟨rfl, rfl, rfl⟩ := hcs
    obtain ⟨bs, h1, h2⟩ := bytes_of_ints (zs.take len) fun n hn => hwz n (List.mem_of_mem_take hn)
    have hzl : len ≤ zs.length := by rw [hz]; split <;> omega
    have hbl : bs.length = len := by rw [h2, List.length_take]; omega
    refine ⟨bs, ⟨_, _, by rw [hbl], by omega, fun j u hj => ⟨a, rfl, ?_⟩⟩, by omega⟩
    rw [← h1] at hj
    have hjl : j < len := by
      have := (List.getElem?_eq_some_iff.1 hj).1
      simp at this
      omega
    rw [hcell j (by omega)]
    simp only [List.getElem?_map, List.getElem?_take, hjl, if_true] at hj
    rw [List.getD_eq_getElem?_getD]
    cases hzj : zs[j]? with
    | none => rw [hzj] at hj; simp at hj
    | some z => rw [hzj] at hj; simp at hj; simp [hj]

theorem wf_i64 {n : Int} (h : (Lit.int .i64 n).wf = true) : -9223372036854775808 ≤ n ∧ n ≤ 9223372036854775807 := by
  have e1 : IntKind.i64.min = -9223372036854775808 := rfl
  have e2 : IntKind.i64.max = 9223372036854775807 := rfl
  simpa [Lit.wf, e1, e2] using h

theorem below_of {P : Program} {f : FuncId} {args : List Value} {w : World} (h : Fn P f args w fun r w' => r = .bool true ∧ Keep [] w w') : Calls P f args.toArray w fun e w' => e = .returned (.bool true) ∧ Below w.heap.size w w' :=
  Calls.mono h fun e w' ⟨v, he, hv, hk⟩ => ⟨by rw [he, hv], hk.below⟩
end Go.Proofs.Ytpdgfekimnmdnaa
