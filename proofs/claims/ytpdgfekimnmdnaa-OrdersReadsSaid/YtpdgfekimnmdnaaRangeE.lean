/- Orders: the range over a message's parts. -/
import Derived.Test.YtpdgfekimnmdnaaEach
import Derived.RangeFuncOwn
set_option linter.unusedVariables false
set_option linter.unusedSimpArgs false
namespace Go.Proofs.Ytpdgfekimnmdnaa
open Go.RowKit
set_option maxRecDepth 20000

/-- What speaks of cells alone, and of old blocks: new blocks, and turns of new blocks that hold no cells, leave it. -/
def Stab (B : Nat) (I : World → Prop) : Prop := ∀ (W W' : World) (M : List Nat), I W → Keep M W W' → (∀ b ∈ M, B ≤ b ∧ ∃ o, W.heap[b]? = some o ∧ o.isCells = false) → I W'
theorem Stab.put {B : Nat} {I : World → Prop} (h : Stab B I) {W : World} {b : Nat} {o : Obj} (o' : Obj) (hI : I W) (hb : B ≤ b) (ho : W.heap[b]? = some o) (hc : o.isCells = false) : I (W.putObj b o') :=
  h W _ [b] hI (Keep.putObj W b o') (fun k hk => by simp at hk; subst hk; exact ⟨hb, o, ho, hc⟩)
theorem Stab.keep0 {B : Nat} {I : World → Prop} (h : Stab B I) {W W' : World} (hI : I W) (k : Keep [] W W') : I W' := h W W' [] hI k (fun _ h => by cases h)
theorem others_of {M : List Nat} {W W' : World} (k : Keep M W W') (hM : ∀ b ∈ M, ∃ cs T fr, W.heap[b]? = some (.cells cs T fr)) : KeepsOthers W W' :=
  ⟨k.size, fun i o hi ho => (k.block i (Array.getElem?_eq_some_iff.1 hi).1 (fun hin => by
    obtain ⟨cs, T, fr, hc⟩ := hM i hin
    rw [hi] at hc
    injection hc with hc
    subst hc
    cases ho)).trans hi⟩

/-- The slots of a round. -/
def Env.round (ρ : Env) (p : Nat) (v : Value) : Env := ⟨(ρ.up p v).get, []⟩
theorem rep_round {N : Nat} {a : Act} {ρ : Env} (ha : Rep N a ρ) (p : Nat) (v : Value) : Rep N { tmps := a.tmps.setIfInBounds p v, defers := [] } (ρ.round p v) := by
  have h := ha.put (some p) v
  exact ⟨rfl, by simpa [Act.put] using h.size, fun t ht => h.at_ t ht⟩

theorem ew_rangeEach {N : Nat} {Q : Post} {ρ : Env} {w : World} {g : Operand} {p : Tmp} {assign body : Code} {id sb fb n : Nat} {fns : List (FuncId × List Value)} (hg : ev N ρ g = .func (.func 65) #[] #[.pointer (some ⟨sb, 0, none⟩)]) (hds : ρ.ds = [])
    (hn : fns.length = n) (hn1 : n ≤ 100) (I : Nat → World → Prop) (PI AI : Nat → Value → World → Prop) (St : World → Prop)
    (stI : ∀ j, Stab w.heap.size (I j)) (stP : ∀ j v, Stab w.heap.size (PI j v)) (stA : ∀ j v, Stab w.heap.size (AI j v)) (stS : Stab w.heap.size St)
    (hmem : ∀ j W, I j W → PartsAt W sb fb n fns) (h0 : I 0 w)
    (hpart : ∀ j f caps W, fns[j]? = some (f, caps) → I j W → Callable Try.prog f ∧ Fn Try.prog f caps W fun v W' => PI j v W' ∧ KeepsOthers W W')
    (hassign : ∀ l j v W, j < n → PI j v W → EW Try.prog (some l) N assign (fun ex ρ1 W1 => ex = .normal ∧ ρ1 = ρ.round p v ∧ AI j v W1 ∧ KeepsOthers W W1) (ρ.round p v) W)
    (hbody : ∀ l j v W, j < n → AI j v W → EW Try.prog (some l) N body (fun ex ρ1 W1 => KeepsOthers W W1 ∧ ((ex = .normal ∧ I (j + 1) W1) ∨ (ex = .exit id ∧ St W1))) (ρ.round p v) W)
    (hdone : ∀ D W, I n W → W.heap[D]? = some (.deferred (some [])) → w.heap.size ≤ D → Q .normal ⟨ρ.get, [mark D]⟩ W)
    (hstop : ∀ D W, St W → W.heap[D]? = some (.deferred (some [])) → w.heap.size ≤ D → Q (.exit id) ⟨ρ.get, [mark D]⟩ W) :
    EW Try.prog none N (.rangeFunc g #[p] assign body) Q ρ w := by
  refine ⟨fun a ha => ?_⟩
  refine wpIn_rangeFunc ?_
  intro fn hfn
  obtain ⟨rec, hrec⟩ : ∃ rec : LoopState → Option Code → Loop, rec = fun st pe => { state := st, pending := pe, fn, tmps := a.tmps, params := #[p], assign, body, defers := w.heap.size } := ⟨_, rfl⟩
  obtain ⟨W1, hW1⟩ : ∃ W1, (w.alloc (.deferred (some []))).alloc (.loop (rec .ready none)) = W1 := ⟨_, rfl⟩
  have hL1 : W1.heap[w.heap.size + 1]? = some (.loop (rec .ready none)) := by
    rw [← hW1]; have := World.alloc_heap_new (w.alloc (.deferred (some []))) (.loop (rec .ready none)); rwa [World.size_alloc] at this
  have hK1 : W1.heap[w.heap.size]? = some (.deferred (some [])) := by
    rw [← hW1]; exact (Below.heap_alloc _ _ _ (by simp)).trans (World.alloc_heap_new w _)
  have k1 : Keep [] w W1 := by rw [← hW1]; exact (Keep.alloc _ _).trans0 (Keep.alloc _ _)
  have hI1 : I 0 W1 := (stI 0).keep0 h0 k1
  refine ⟨w.heap.size + 1, [mark w.heap.size], W1, { target := .fn (.func 65) #[.pointer (some ⟨sb, 0, none⟩)], args := #[.func (.yield (w.heap.size + 1)) #[] #[]] }, W1, 65,
    #[.func (.yield (w.heap.size + 1)) #[] #[], .pointer (some ⟨sb, 0, none⟩)], W1, ?_, ?_, ?_, ?_, fun h => by simp [Fw] at h, ?_⟩
  · rw [← hW1, hrec]; exact run_enterLoop_outer _ _ _ _ _
  · have hga : a.eval g = .func (.func 65) #[] #[.pointer (some ⟨sb, 0, none⟩)] := by rw [ha.eval]; exact hg
    simp only [resolve, hga]
    simp [go_sem]
  · intro f' _; trivial
  · simp only [invoke]
    exact run_callFunc Try.func65 rfl rfl
  · let J : Nat → World → Prop := fun j W => I j W ∧ W.heap[w.heap.size + 1]? = some (.loop (rec .ready none)) ∧ W.heap[w.heap.size]? = some (.deferred (some []))
    let Sp : World → Prop := fun W => St W ∧ W.heap[w.heap.size + 1]? = some (.loop (rec .done (some (.exit id)))) ∧ W.heap[w.heap.size]? = some (.deferred (some []))
    have heach := each_ok (w.heap.size + 1) sb fb n fns hn hn1 J Sp W1 (fun j W hJ => hmem j W hJ.1) ?_ ⟨hI1, hL1, hK1⟩
    · have hc : CallsIn (Fw none) (0 - 1) Try.prog 65 #[.func (.yield (w.heap.size + 1)) #[] #[], .pointer (some ⟨sb, 0, none⟩)] W1 (fun e W => (∃ v, e = .returned v) ∧ (J n W ∨ Sp W)) :=
        (callsIn_wide (n := 0 - 1)).2 (Calls.mono heach fun e W ⟨v, he, h⟩ => ⟨⟨v, he⟩, h⟩)
      refine hc.mono ?_
      · rintro e W ⟨⟨v, rfl⟩, h⟩
        rcases h with ⟨hI, hl, hD⟩ | ⟨hS, hl, hD⟩
        · refine ⟨none, _, ?_, ⟨⟨ρ.get, [mark w.heap.size]⟩, ?_, hdone w.heap.size _ ((stI n).put (.loop { rec .ready none with state := .exhausted }) hI (by omega) hl rfl) ((World.putObj_heap_other (by omega)).trans hD) (Nat.le_refl _)⟩⟩
          · have := run_endLoop (P := Try.prog) hl (by rw [hrec]; simp)
            rw [hrec] at this ⊢
            exact this
          · exact ⟨by show [mark w.heap.size] ++ a.defers = _; rw [ha.defers, hds]; rfl, ha.size, ha.at_⟩
        · refine ⟨some (.exit id), W.putObj (w.heap.size + 1) (.loop { rec .done (some (.exit id)) with state := .exhausted }), ?_, ?_⟩
          · have := run_endLoop (P := Try.prog) hl (by rw [hrec]; simp)
            rw [hrec] at this ⊢
            exact this
          · refine wpIn_exit ⟨⟨ρ.get, [mark w.heap.size]⟩, ?_, hstop w.heap.size _ (stS.put (.loop { rec .done (some (.exit id)) with state := .exhausted }) hS (by omega) hl rfl) ((World.putObj_heap_other (by omega)).trans hD) (Nat.le_refl _)⟩
            exact ⟨by show [mark w.heap.size] ++ a.defers = _; rw [ha.defers, hds]; rfl, ha.size, ha.at_⟩
    · rintro j f caps W hfj ⟨hI, hl, hD⟩
      have hjn : j < n := by have := (List.getElem?_eq_some_iff.1 hfj).1; omega
      obtain ⟨hc, hf⟩ := hpart j f caps W hfj hI
      refine ⟨hc, hf.mono ?_⟩
      rintro v W2 ⟨hP, kO⟩
      have hl2 := kO.same _ _ hl rfl
      have hD2 := kO.same _ _ hD rfl
      have hlt : w.heap.size + 1 < W2.heap.size := (Array.getElem?_eq_some_iff.1 hl2).1
      have hy := run_yield (P := Try.prog) (args := #[v]) hl2 (by simp [hrec])
      rw [hrec] at hy
      have hzip : ((#[p] : Array Tmp).zip #[v]).foldl (fun tmps (t, a) => tmps.setIfInBounds t a) a.tmps = a.tmps.setIfInBounds p v := by simp
      refine ⟨fn, a.tmps.setIfInBounds p v, assign, body, by rw [← hzip]; exact hy, roundIn_of_wpIn hfn ?_⟩
      have hrep := rep_round ha p v
      have hA := (hassign (w.heap.size + 1) j v W2 hjn hP).out _ hrep
      refine wpIn_mono hA ?_
      rintro ex a1 W3 ⟨ρ1, ha1, rfl, rfl, hA3, kO3⟩
      have hl3 := kO3.same _ _ hl2 rfl
      have hD3 := kO3.same _ _ hD2 rfl
      have hlt3 : w.heap.size + 1 < W3.heap.size := (Array.getElem?_eq_some_iff.1 hl3).1
      refine ⟨_, run_beginRound hl3 (by simp [hrec]), ?_⟩
      have hl4 : (W3.putObj (w.heap.size + 1) (.loop { rec .ready none with state := .busy })).heap[w.heap.size + 1]? = some (.loop { rec .ready none with state := .busy }) := World.putObj_heap_same hlt3
      have hD4 : (W3.putObj (w.heap.size + 1) (.loop { rec .ready none with state := .busy })).heap[w.heap.size]? = some (.deferred (some [])) := (World.putObj_heap_other (by omega)).trans hD3
      have hA4 := (stA j v).put (.loop { rec .ready none with state := .busy }) hA3 (by omega) hl3 rfl
      have hB := (hbody (w.heap.size + 1) j v _ hjn hA4).out _ ha1
      refine wpIn_mono hB ?_
      rintro ex a5 W5 ⟨ρ5, ha5, kO5, hex⟩
      have hl5 := kO5.same _ _ hl4 rfl
      have hD5 := kO5.same _ _ hD4 rfl
      have hlt5 : w.heap.size + 1 < W5.heap.size := (Array.getElem?_eq_some_iff.1 hl5).1
      rcases hex with ⟨rfl, hI5⟩ | ⟨rfl, hS5⟩
      · refine ⟨_, _, run_endRound none hl5, .bool true, rfl, .inl ⟨rfl, ?_, ?_, (World.putObj_heap_other (by omega)).trans hD5⟩⟩
        · exact (stI (j + 1)).put _ hI5 (by omega) hl5 rfl
        · rw [hrec]
          exact World.putObj_heap_same hlt5
      · refine ⟨_, _, run_endRound (some (.exit id)) hl5, .bool false, rfl, .inr ⟨rfl, ?_, ?_, (World.putObj_heap_other (by omega)).trans hD5⟩⟩
        · exact stS.put _ hS5 (by omega) hl5 rfl
        · rw [hrec]
          exact World.putObj_heap_same hlt5
end Go.Proofs.Ytpdgfekimnmdnaa
