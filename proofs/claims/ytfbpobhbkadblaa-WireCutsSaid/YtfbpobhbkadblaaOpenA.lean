/- Reading a slice of calls that lay. -/
import Derived.Test.YtfbpobhbkadblaaWireV
import Derived.Test.YtfbpobhbkadblaaOpen
import Derived.Deep.SlicePairs
set_option linter.unusedVariables false
set_option linter.unusedSimpArgs false
namespace Go.Proofs.Ytfbpobhbkadblaa
open Go.ChangeShapes Go.WideShapes Go.ChangeAt Go.RowKit Go.Deep
set_option maxRecDepth 20000

theorem open_bytes_raw {H : Type} {enc : TypeId × Value → H} {P : Program} {W : World} {spare : Nat → Bool} {held : Bool} {t e : TypeId} {base fuel : Nat} {v : Value} {x : DataW H × List MemPlace} (ht : P.underlying t = some (.slice e)) (he : P.underlying e = some (.int .u8)) (hc : P.cellsOf e = 1)
    (hf : DataW.trod enc P W base spare held fuel t [v] = some x) : ∃ bs : List UInt8, RdB W v bs ∧ bs.length ≤ maxLen := by
  rcases open_ints ht he hc hf with ⟨hcs, _⟩ | ⟨a, len', cap', zs, hcs, _, hl, hm, hz, _, hcell, hwz⟩
  · injection hcs with hcs _
    subst hcs
    exact ⟨[], ⟨_, _, rfl, Nat.le_refl _, fun j u hj => by simp [bytesV] at hj⟩, by unfold maxLen; simp⟩
  · injection hcs with hcs _
    subst hcs
    obtain ⟨bs, h1, h2⟩ := bytes_of_ints (zs.take len') fun n hn => hwz n (List.mem_of_mem_take hn)
    have hzl : len' ≤ zs.length := by rw [hz]; split <;> omega
    have hbl : bs.length = len' := by rw [h2, List.length_take]; omega
    refine ⟨bs, ⟨_, _, by rw [hbl], by omega, fun j u hj => ⟨a, rfl, ?_⟩⟩, by omega⟩
    rw [← h1] at hj
    have hjl : j < len' := by
      have := (List.getElem?_eq_some_iff.1 hj).1
      simp at this
      omega
    rw [hcell j (by omega)]
    simp only [List.getElem?_map, List.getElem?_take, hjl, if_true] at hj
    rw [List.getD_eq_getElem?_getD]
    cases hzj : zs[j]? with
    | none => rw [hzj] at hj; simp at hj
    | some z => rw [hzj] at hj; simp at hj; simp [hj]

instance : Inhabited AddD := ⟨⟨0, 0, []⟩⟩
theorem open_adds {H : Type} {enc : TypeId × Value → H} {W : World} {spare : Nat → Bool} {held : Bool} {r : Reach} {b0 base : Nat} {v : Value} {d : DataW H} {ps : List MemPlace}
    (hok : Value.okWide Try.prog W r b0 43 v) (h : DataW.Trod enc Try.prog W base spare held 43 v d ps) : ∃ xs : List AddD, RdA W v xs := by
  obtain ⟨a0, len0, cap0, rfl⟩ := okWide_slice Try.underlying43 hok
  obtain ⟨fuel, hf⟩ := h
  rcases open_slice Try.underlying43 hf with ⟨hcs, _⟩ | ⟨a, len, cap, m, n, D, Pl, hcs, hb, hl, hm, hmm, _, hx⟩
  · simp [Value.cells] at hcs
    obtain ⟨rfl, rfl, rfl⟩ := hcs
    exact ⟨[], none, 0, rfl, Nat.le_refl _, by simp, fun j x hj => by simp at hj⟩
  · simp [Value.cells] at hcs
    obtain ⟨rfl, rfl, rfl⟩ := hcs
    have hlm : len0 ≤ m := by rw [hmm]; split <;> omega
    have ce : Try.prog.cellsOf 46 = 3 := by kernel_rfl
    have each : ∀ i, i < m → ∃ x : AddD, x.n ≤ 9223372036854775807 ∧ x.bytes.length ≤ maxLen ∧
        ∃ a' u, some a = some a' ∧ W.cell? ((a'.add (i * 3)).add 0) = some (.int .i64 x.what) ∧ W.cell? ((a'.add (i * 3)).add 1) = some (.int .i64 x.n) ∧ W.cell? ((a'.add (i * 3)).add 2) = some u ∧ RdB W u x.bytes := by
      intro i hi
      obtain ⟨cs', h1, h2⟩ := hx i hi
      rw [ce] at h1
      obtain ⟨_, hlen, hcell⟩ := World.cells?_some h1
      obtain ⟨xs, k, hk, hxy, _, hxl, hf⟩ := DataW.trod_struct Try.underlying46 h2
      match xs, hxl, cs', hlen with
      | [y0, y1, y2], _, [v0, v1, v2], _ =>
        have g0 := hf 0 _ rfl
        have g1 := hf 1 _ rfl
        have g2 := hf 2 _ rfl
        have q0 : DataW.trod enc Try.prog W base spare held k 3 [v0] = some y0 := g0
        have q1 : DataW.trod enc Try.prog W base spare held k 2 [v1] = some y1 := g1
        have q2 : DataW.trod enc Try.prog W base spare held k 22 [v2] = some y2 := g2
        have e0 := hcell 0 (by omega)
        have e1 := hcell 1 (by omega)
        have e2 := hcell 2 (by omega)
        obtain ⟨z0, hz0, _, w0⟩ := DataW.trod_int Try.underlying3 q0
        obtain ⟨z1, hz1, _, w1⟩ := DataW.trod_int Try.underlying2 q1
        injection hz0 with hz0 _
        injection hz1 with hz1 _
        subst hz0
        subst hz1
        obtain ⟨bs, hr, hbl⟩ := open_bytes_raw Try.underlying22 Try.underlying5 (by kernel_rfl) q2
        exact ⟨⟨z0, z1, bs⟩, (wf_i64 w1).2, hbl, a, v2, rfl, by simpa using e0, by simpa using e1, by simpa using e2, hr⟩
    obtain ⟨f, hf'⟩ := Go.Deep.choose_lt each
    refine ⟨(List.range len0).map f, some a, cap0, by simp, by simpa using hl, by simp; omega, fun j x hj => ?_⟩
    have hjl : j < len0 := by
      have := (List.getElem?_eq_some_iff.1 hj).1
      simpa using this
    have hxe : x = f j := by
      rw [List.getElem?_map, List.getElem?_range hjl] at hj
      simpa using hj.symm
    subst hxe
    exact hf' j (by omega)
end Go.Proofs.Ytfbpobhbkadblaa
