/- Reading a slice of calls that take. -/
import Derived.Test.YtfbpobhbkadblaaAgain
import Derived.Test.YtfbpobhbkadblaaOpenA
set_option linter.unusedVariables false
set_option linter.unusedSimpArgs false
namespace Go.Proofs.Ytfbpobhbkadblaa
open Go.ChangeShapes Go.WideShapes Go.ChangeAt Go.RowKit Go.Deep
set_option maxRecDepth 20000

theorem open_takes {H : Type} {enc : TypeId × Value → H} {W : World} {spare : Nat → Bool} {held : Bool} {r : Reach} {b0 base : Nat} {v : Value} {d : DataW H} {ps : List MemPlace}
    (hok : Value.okWide Try.prog W r b0 61 v) (h : DataW.Trod enc Try.prog W base spare held 61 v d ps) : ∃ xs : List (Int × Int), RdT W v xs := by
  obtain ⟨a0, len0, cap0, rfl⟩ := okWide_slice Try.underlying61 hok
  obtain ⟨fuel, hf⟩ := h
  rcases open_slice Try.underlying61 hf with ⟨hcs, _⟩ | ⟨a, len, cap, m, n, D, Pl, hcs, hb, hl, hm, hmm, _, hx⟩
  · simp [Value.cells] at hcs
    obtain ⟨rfl, rfl, rfl⟩ := hcs
    exact ⟨[], none, 0, rfl, Nat.le_refl _, by simp, fun j x hj => by simp at hj⟩
  · simp [Value.cells] at hcs
    obtain ⟨rfl, rfl, rfl⟩ := hcs
    have hlm : len0 ≤ m := by rw [hmm]; split <;> omega
    have ce : Try.prog.cellsOf 63 = 2 := by kernel_rfl
    have each : ∀ i, i < m → ∃ x : Int × Int, ∃ a', some a = some a' ∧ W.cell? ((a'.add (i * 2)).add 0) = some (.int .i64 x.1) ∧ W.cell? ((a'.add (i * 2)).add 1) = some (.int .i64 x.2) := by
      intro i hi
      obtain ⟨cs', h1, h2⟩ := hx i hi
      rw [ce] at h1
      obtain ⟨_, hlen, hcell⟩ := World.cells?_some h1
      obtain ⟨xs, k, hk, hxy, _, hxl, hf⟩ := DataW.trod_struct Try.underlying63 h2
      match xs, hxl, cs', hlen with
      | [y0, y1], _, [v0, v1], _ =>
        have g0 := hf 0 _ rfl
        have g1 := hf 1 _ rfl
        have q0 : DataW.trod enc Try.prog W base spare held k 3 [v0] = some y0 := g0
        have q1 : DataW.trod enc Try.prog W base spare held k 2 [v1] = some y1 := g1
        have e0 := hcell 0 (by omega)
        have e1 := hcell 1 (by omega)
        obtain ⟨z0, hz0, _, w0⟩ := DataW.trod_int Try.underlying3 q0
        obtain ⟨z1, hz1, _, w1⟩ := DataW.trod_int Try.underlying2 q1
        injection hz0 with hz0 _
        injection hz1 with hz1 _
        subst hz0
        subst hz1
        exact ⟨(z0, z1), a, rfl, by simpa using e0, by simpa using e1⟩
    obtain ⟨f, hf'⟩ := Go.Deep.choose_lt each
    refine ⟨(List.range len0).map f, some a, cap0, by simp, by simpa using hl, by simp; omega, fun j x hj => ?_⟩
    have hjl : j < len0 := by
      have := (List.getElem?_eq_some_iff.1 hj).1
      simpa using this
    have hxe : x = f j := by
      rw [List.getElem?_map, List.getElem?_range hjl] at hj
      simpa using hj.symm
    subst hxe
    exact hf' j (by omega)
end Go.Proofs.Ytfbpobhbkadblaa
