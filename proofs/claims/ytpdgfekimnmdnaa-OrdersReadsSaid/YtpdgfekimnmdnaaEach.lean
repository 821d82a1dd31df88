/- Orders: the parts of a message, one behind the other: the iterator, and the range over it. -/
import Derived.Test.YtpdgfekimnmdnaaRange
set_option linter.unusedVariables false
set_option linter.unusedSimpArgs false
namespace Go.Proofs.Ytpdgfekimnmdnaa
open Go.RowKit
set_option maxRecDepth 20000

/-- The closures of parts. -/
def closV (fns : List (FuncId × List Value)) : List Value := fns.map fun p => .func (.func p.1) #[] p.2.toArray
/-- Where the parts lie. -/
def PartsAt (W : World) (sb fb n : Nat) (fns : List (FuncId × List Value)) : Prop :=
  Blk W sb 117 #[.slice (some ⟨fb, 0, none⟩) n n] ∧ Blk W fb 90 (closV fns).toArray
def Callable (P : Program) (f : FuncId) : Prop := ∃ fn c, P.funcs[f]? = some fn ∧ fn.body = some c ∧ (fn.name == "runtime.NumGoroutine") = false

theorem results_nil {P : Program} {fn : Func} (h : fn.results = #[]) (tmps : Array Value) (w : World) : (results fn tmps).run P w = .ok (.tuple #[]) w := by
  rw [results_one, h]
  simp
theorem each_ok (l sb fb n : Nat) (fns : List (FuncId × List Value)) (hn : fns.length = n) (hn1 : n ≤ 100) (J : Nat → World → Prop) (Stp : World → Prop) (W : World) (hmem : ∀ j W, J j W → PartsAt W sb fb n fns)
    (hround : ∀ j f caps W, fns[j]? = some (f, caps) → J j W → Callable Try.prog f ∧ Fn Try.prog f caps W fun v W' => YieldAt (Fw none) 0 Try.prog l #[v] W' fun e W'' => ∃ b, e = .returned b ∧ ((b = .bool true ∧ J (j + 1) W'') ∨ (b = .bool false ∧ Stp W'')))
    (h0 : J 0 W) : Fn Try.prog 65 [.func (.yield l) #[] #[], .pointer (some ⟨sb, 0, none⟩)] W fun v W' => J n W' ∨ Stp W' := by
  refine fn_enter Try.func65 rfl rfl ?_
  have hm0 := hmem 0 W h0
  refine sp rfl ?_
  refine el_loadb rfl rfl rfl rfl rfl hm0.1 rfl ?_
  refine ep rfl ?_
  refine ew_block ?_
  refine ew_loop (α := Nat) (fun j => [(0, .func (.yield l) #[] #[]), (5, .slice (some ⟨fb, 0, none⟩) n n), (6, .int .i64 (n : Int)), (7, .int .i64 (j : Int))])
    (fun j W' => j ≤ n ∧ J j W') (fun j => n - j) 0 ⟨rfl, rfl, rfl, rfl, trivial⟩ ⟨Nat.zero_le _, h0⟩ ?_
  rintro j ρ W1 hd ⟨hj, hJ⟩
  refine es rfl ?_
  refine ew_seq ?_
  by_cases hlt : j < n
  · refine ew_cond_t rfl (decide_eq_true (by omega)) ?_
    refine ew_skip ?_
    obtain ⟨⟨f, caps⟩, hfj⟩ : ∃ x, fns[j]? = some x := ⟨_, List.getElem?_eq_getElem (by omega)⟩
    obtain ⟨⟨fn, c, hf, hb, hname⟩, hcall⟩ := hround j f caps W1 hfj hJ
    have hm1 := hmem j W1 hJ
    have hcell : W1.cell? ((⟨fb, 0, none⟩ : Addr).add j) = some (.func (.func f) #[] caps.toArray) := by
      rw [add_lit, Blk.cell hm1.2]
      simp [closV, hfj]
    refine ew_seq (ew_block ?_)
    refine sp rfl ?_
    refine el_index (e := 90) (j := j) (p := j) rfl rfl rfl rfl rfl rfl hlt (Nat.mul_one _) rfl ?_
    refine el_load rfl rfl rfl rfl rfl hcell ?_
    refine ep rfl ?_
    refine sp rfl ?_
    refine el_callv (first := []) (captured := caps) rfl rfl rfl hf hb hname rfl hcall ?_
    intro v W2 hY
    refine el_yield rfl rfl rfl rfl hY ?_
    intro b W3 hb3
    rcases hb3 with ⟨rfl, hJ3⟩ | ⟨rfl, hS3⟩
    · refine ep rfl ?_
      refine ew_cond_f rfl rfl ?_
      refine ew_skip ?_
      refine eg rfl ?_
      exact ⟨by exact hd, j + 1, ⟨rfl, rfl, rfl, int_eq (by rw [wrap_i64 (by omega) (by omega)]; omega), trivial⟩, ⟨hlt, hJ3⟩, by omega⟩
    · refine ep rfl ?_
      refine ew_cond_t rfl rfl ?_
      exact ew_ret (ret_l [] rfl (by exact hd) trivial (.inr hS3))
  · obtain rfl : j = n := by omega
    refine ew_cond_f rfl (decide_eq_false (by omega)) ?_
    refine ew_exit ?_
    exact ⟨by exact hd, .tuple #[], fun a ha => results_nil rfl a.tmps W1, .inl hJ⟩
end Go.Proofs.Ytpdgfekimnmdnaa
