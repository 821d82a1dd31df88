/- The wire's reader, third part: 'try', 'taken', and the calls. -/
import Derived.Test.YtpdgfekimnmdnaaWireE
set_option linter.unusedVariables false
set_option linter.unusedSimpArgs false
namespace Go.Proofs.Ytpdgfekimnmdnaa
open Go.RowKit
set_option maxRecDepth 20000

/-- Block g is a reader that was made, of the bytes 'all', at a place, with a flaw. -/
def IsR (w : World) (g : Nat) (all : List UInt8) (at_ : Nat) (flaw : Int) : Prop :=
  all.length ≤ 70368744177664 ∧ at_ ≤ all.length ∧ ∃ v, Blk w g 113 #[v, .int .i64 (at_ : Int), .int .i64 flaw, .bool true] ∧ RdB w v (all.drop at_) ∧ (∀ b, v.ownBlock = some b → ∃ c, Blk w b 5 c) ∧ ∀ b, v.ownBlock = some b → b < g

theorem IsR.keep {w w' : World} {g : Nat} {all : List UInt8} {a : Nat} {flaw : Int} {M : List Nat} (h : IsR w g all a flaw) (k : Keep M w w') (hg : g ∉ M) (hM : NoE 5 w M) : IsR w' g all a flaw := by
  obtain ⟨h1, h2, v, hb, hr, ht, hlg⟩ := h
  have hn : ∀ b, v.ownBlock = some b → b ∉ M := fun b hb hin => by
    obtain ⟨c, hc⟩ := ht b hb
    exact hM b hin c _ hc
  exact ⟨h1, h2, v, k.blk hb hg, hr.keep k hn, fun b hb => by
    obtain ⟨c, hc⟩ := ht b hb
    exact ⟨c, k.blk hc (hn b hb)⟩, hlg⟩
/-- Nothing at its block or below it is touched. -/
theorem IsR.keepb {w w' : World} {g : Nat} {all : List UInt8} {a : Nat} {flaw : Int} {M : List Nat} (h : IsR w g all a flaw) (k : Keep M w w') (hM : ∀ b ∈ M, g < b) : IsR w' g all a flaw := by
  obtain ⟨h1, h2, v, hb, hr, ht, hlg⟩ := h
  have hn : ∀ b, v.ownBlock = some b → b ∉ M := fun b hb hin => by
    have := hM b hin
    have := hlg b hb
    omega
  exact ⟨h1, h2, v, k.blk hb (fun h => by have := hM g h; omega), hr.keep k hn, fun b hb => by
    obtain ⟨c, hc⟩ := ht b hb
    exact ⟨c, k.blk hc (hn b hb)⟩, hlg⟩
theorem IsR.keep0 {w w' : World} {g : Nat} {all : List UInt8} {a : Nat} {flaw : Int} (h : IsR w g all a flaw) (k : Keep [] w w') : IsR w' g all a flaw := h.keep k (by simp) (NoE.nil _ _)
theorem IsR.lt {w : World} {g : Nat} {all : List UInt8} {a : Nat} {flaw : Int} (h : IsR w g all a flaw) : g < w.heap.size := by
  obtain ⟨h1, h2, v, hb, _⟩ := h
  exact Blk.lt hb
theorem IsR.blk {w : World} {g : Nat} {all : List UInt8} {a : Nat} {flaw : Int} (h : IsR w g all a flaw) : Blk w g 113 #[h.2.2.choose, .int .i64 (a : Int), .int .i64 flaw, .bool true] := h.2.2.choose_spec.1
theorem IsR.ne {w : World} {g : Nat} {all : List UInt8} {a : Nat} {flaw : Int} (h : IsR w g all a flaw) {b : Nat} {T : TypeId} {c : Array Value} {fr : Nat × Nat} (hb : w.heap[b]? = some (.cells c T fr)) (hT : T ≠ 113) : b ≠ g := by
  obtain ⟨h1, h2, v, hg, _⟩ := h
  exact Blk.ne hb hg hT

theorem read_ok (v : Value) (bs : List UInt8) (w : World) (hv : RdB w v bs) (hl : bs.length ≤ 70368744177664) :
    Fn Try.prog 44 [v] w fun r w' => ∃ g, r = .pointer (some ⟨g, 0, none⟩) ∧ w.heap.size ≤ g ∧ IsR w' g bs 0 0 ∧ Keep [] w w' := by
  refine fn_enter Try.func44 rfl rfl ?_
  refine es rfl ?_
  refine sp rfl ?_
  refine el_call rfl rfl rfl rfl rfl rfl (clone_ok v bs w hv hl) ?_
  rintro u w1 ⟨ho, k1⟩
  obtain ⟨ad, cap, rfl, hc⟩ := own_slice ho
  refine el_build (z := .agg #[.slice none 0 0, .int .i64 0]) (vs := [.slice ad bs.length cap, .int .i64 0]) rfl rfl rfl rfl rfl rfl ?_
  refine el_build (z := .agg #[.slice none 0 0, .int .i64 0, .int .i64 0, .bool false]) (vs := [.slice ad bs.length cap, .int .i64 0, .int .i64 0, .bool true]) rfl rfl rfl rfl rfl rfl ?_
  refine el_box #[.slice ad bs.length cap, .int .i64 0, .int .i64 0, .bool true] rfl rfl rfl rfl ?_
  intro b w2 hb hb2 k2 hblk
  refine ep rfl ?_
  refine ew_ret (ret_1 (.pointer (some ⟨b, 0, none⟩)) rfl rfl rfl rfl ⟨b, rfl, by have := k1.size; omega, ⟨hl, Nat.zero_le _, _, hblk, (Rd.of_own ho).keep0 k2, fun x hx => ?_, fun x hx => ?_⟩, k1.trans0 k2⟩)
  · obtain ⟨c, hc⟩ := own_typed ho hx
    exact ⟨c, k2.blk hc (by simp)⟩
  · have := ho.lt x hx
    omega

/-- 'try': what is handed over is called at a copy of what is left. -/
theorem try_ok (g : Nat) (all : List UInt8) (at_ : Nat) (flaw : Int) (fine : Bool) (f : FuncId) (fn : Func) (c : Code) (caps : List Value) (M : List Nat) (J : Int → Nat → World → Prop) (w : World) (hR : IsR w g all at_ flaw) (hM : ∀ b ∈ M, b < w.heap.size ∧ b ≠ g) (hME : NoE 5 w M)
    (hf : Try.prog.funcs[f]? = some fn) (hb : fn.body = some c) (hnm : (fn.name == "runtime.NumGoroutine") = false)
    (hJ : ∀ e k w1 w2, Keep [g] w1 w2 → J e k w1 → J e k w2)
    (HC : fine = true → ∀ (lb : Nat) (v : Value) (w1 : World), Keep [] w w1 → w.heap.size ≤ lb → IsL w1 lb v (all.drop at_) (at_ : Int) → (∀ b, v.ownBlock = some b → b ≠ lb) → (∀ b, v.ownBlock = some b → ∃ c, Blk w1 b 5 c) →
      Fn Try.prog f ([] ++ [.pointer (some ⟨lb, 0, none⟩)] ++ caps) w1 fun r w2 => ∃ e k, r = .int .i64 e ∧ J e k w2 ∧ LeftS lb v (all.drop at_) (at_ : Int) e k w2 ∧ Keep (lb :: M) w1 w2) :
    Fn Try.prog 89 [.pointer (some ⟨g, 0, none⟩), .bool fine, .func (.func f) #[] caps.toArray] w fun r w' =>
      (flaw ≠ 0 ∧ r = .int .i64 flaw ∧ w' = w) ∨
      (flaw = 0 ∧ fine = false ∧ r = .int .i64 2 ∧ IsR w' g all at_ 2 ∧ Keep [g] w w') ∨
      (flaw = 0 ∧ fine = true ∧ ∃ e k, r = .int .i64 e ∧ J e k w' ∧ Keep (g :: M) w w' ∧ (e ≠ 0 → IsR w' g all at_ e) ∧ (e = 0 → IsR w' g all (at_ + k) 0)) := by
  have hR0 := hR
  obtain ⟨hal, hat, v, hg, hr, htv, hvg⟩ := hR
  have hgl := Blk.lt hg
  obtain ⟨ad, cap, rfl, hcv⟩ := hr.slice
  refine fn_enter Try.func89 rfl rfl ?_
  refine es rfl ?_
  refine ew_seq (ew_block ?_)
  refine sp rfl ?_
  refine el_loadb rfl rfl rfl rfl rfl hg rfl ?_
  refine ep rfl ?_
  refine ew_cond_f rfl rfl ?_
  refine sp rfl ?_
  refine el_loadb rfl rfl rfl rfl rfl hg rfl ?_
  refine ep rfl ?_
  by_cases hfl : flaw = 0
  · subst hfl
    refine ew_cond_f rfl rfl ?_
    refine es rfl ?_
    cases fine with
    | false =>
      refine ew_cond_t rfl rfl ?_
      refine gp rfl ?_
      refine el_store #[.slice ad (all.drop at_).length cap, .int .i64 (at_ : Int), .int .i64 2, .bool true] rfl rfl rfl rfl rfl rfl rfl rfl hg rfl rfl ?_
      intro w1 k1 hs1 hb1
      refine ep rfl ?_
      refine sp rfl ?_
      refine el_loadb rfl rfl rfl rfl rfl hb1 rfl ?_
      refine ep rfl ?_
      refine ew_ret (ret_1 (.int .i64 2) rfl rfl rfl rfl (.inr (.inl ⟨rfl, rfl, rfl, ⟨hal, hat, _, hb1, hr.keep k1 ?_, ?_, hvg⟩, k1⟩)))
      · intro b hb
        obtain ⟨c', hc'⟩ := htv b hb
        have := Blk.ne hg hc' (by decide)
        simp; omega
      · intro b hb
        obtain ⟨c', hc'⟩ := htv b hb
        exact ⟨c', k1.blk hc' (by have := Blk.ne hg hc' (by decide); simp; omega)⟩
    | true =>
      refine ew_cond_f rfl rfl ?_
      refine sp rfl ?_
      refine el_loada (vs := [.slice ad (all.drop at_).length cap, .int .i64 (at_ : Int)]) rfl rfl rfl rfl rfl rfl hg rfl ?_
      refine el_alloc (z := .agg #[.slice none 0 0, .int .i64 0]) #[.slice none 0 0, .int .i64 0] rfl rfl rfl rfl ?_
      intro lb w1 hl1 hl2 k1 hlb
      refine el_store #[.slice ad (all.drop at_).length cap, .int .i64 (at_ : Int)] rfl rfl rfl rfl rfl rfl rfl rfl hlb rfl rfl ?_
      intro w2 k2 hs2 hlb2
      have k02 : Keep [] w w2 := k1.trans k2 (fun b hb hlt => by simp at hb; omega)
      refine ep rfl ?_
      refine sp rfl ?_
      have hvlb : ∀ b, (Value.slice ad (all.drop at_).length cap).ownBlock = some b → b ≠ lb := fun b hb => by
        obtain ⟨c', hc'⟩ := htv b hb
        have := Blk.lt hc'
        omega
      refine el_callv (first := []) (captured := caps) rfl rfl rfl hf hb hnm rfl (HC rfl lb _ w2 k02 (by omega) ⟨hlb2, hr.keep0 k02⟩ hvlb (fun b hb => by
        obtain ⟨c', hc'⟩ := htv b hb
        exact ⟨c', k02.blk hc' (by simp)⟩)) ?_
      rintro rv w3 ⟨e, k, rfl, hJ3, ⟨hse, hs0⟩, k3⟩
      have hgM : g ∉ lb :: M := by
        intro hin
        rcases List.mem_cons.1 hin with h | h
        · omega
        · exact (hM g h).2 rfl
      have hg3 := k3.blk (k02.blk hg (by simp)) hgM
      refine pp rfl ?_
      refine el_store #[.slice ad (all.drop at_).length cap, .int .i64 (at_ : Int), .int .i64 e, .bool true] rfl rfl rfl rfl rfl rfl rfl rfl hg3 rfl rfl ?_
      intro w4 k4 hs4 hg4
      refine ep rfl ?_
      refine sp rfl ?_
      refine el_loadb rfl rfl rfl rfl rfl hg4 rfl ?_
      refine ep rfl ?_
      have k03 : Keep M w w3 := (k02.any (M := M)).trans k3 (fun b hb hlt => by
        rcases List.mem_cons.1 hb with h | h
        · omega
        · exact h)
      have k04 : Keep (g :: M) w w4 := (k03.mono (fun b hb => List.mem_cons_of_mem _ hb)).trans k4 (fun b hb _ => by simp at hb; simp [hb])
      have hvM : ∀ b, (Value.slice ad (all.drop at_).length cap).ownBlock = some b → b ∉ g :: M := fun b hb hin => by
        obtain ⟨c', hc'⟩ := htv b hb
        rcases List.mem_cons.1 hin with h | h
        · subst h
          exact Blk.ne hg hc' (by decide) rfl
        · exact hME b h c' _ hc'
      by_cases he : e = 0
      · subst he
        obtain ⟨hkl, v', ⟨hlb3, hrv'⟩, hv'⟩ := hs0 rfl
        obtain ⟨ad', cap', rfl, hcv'⟩ := hrv'.slice
        refine ew_cond_t rfl rfl ?_
        refine gp rfl ?_
        have hlb4 := k4.blk hlb3 (by simp; omega)
        refine el_loada (vs := [.slice ad' ((all.drop at_).drop k).length cap', .int .i64 ((at_ : Int) + k)]) rfl rfl rfl rfl rfl rfl hlb4 rfl ?_
        refine pp rfl ?_
        refine el_store #[.slice ad' ((all.drop at_).drop k).length cap', .int .i64 ((at_ : Int) + k), .int .i64 0, .bool true] rfl rfl rfl rfl rfl rfl rfl rfl hg4 rfl rfl ?_
        intro w5 k5 hs5 hg5
        refine ep rfl ?_
        refine sp rfl ?_
        refine el_loadb rfl rfl rfl rfl rfl hg5 rfl ?_
        refine ep rfl ?_
        have k05 : Keep (g :: M) w w5 := k04.trans k5 (fun b hb _ => by simp at hb; simp [hb])
        have hv'M : ∀ b, (Value.slice ad' ((all.drop at_).drop k).length cap').ownBlock = some b → b ∉ g :: M := fun b hb => hvM b (hv' b hb)
        refine ew_ret (ret_1 (.int .i64 0) rfl rfl rfl rfl (.inr (.inr ⟨rfl, rfl, 0, k, rfl, hJ _ _ _ _ k5 (hJ _ _ _ _ k4 hJ3), k05, fun h => absurd rfl h, fun _ => ⟨hal, ?_, .slice ad' ((all.drop at_).drop k).length cap', ?_, ?_, ?_, fun b hb => hvg b (hv' b hb)⟩⟩)))
        · simp at hkl; omega
        · exact hg5
        · rw [← List.drop_drop]
          have h1 := hrv'.keep k4 (fun b hb => by have := hv'M b hb; simp at this ⊢; exact this.1)
          exact h1.keep k5 (fun b hb => by have := hv'M b hb; simp at this ⊢; exact this.1)
        · intro b hb
          obtain ⟨c', hc'⟩ := htv b (hv' b hb)
          exact ⟨c', k05.blk hc' (hv'M b hb)⟩
      · refine ew_cond_f rfl (by simp [he]) ?_
        refine ew_skip ?_
        refine sp rfl ?_
        refine el_loadb rfl rfl rfl rfl rfl hg4 rfl ?_
        refine ep rfl ?_
        refine ew_ret (ret_1 (.int .i64 e) rfl rfl rfl rfl (.inr (.inr ⟨rfl, rfl, e, k, rfl, hJ _ _ _ _ k4 hJ3, k04, fun _ => ⟨hal, hat, .slice ad (all.drop at_).length cap, hg4, hr.keep k04 hvM, ?_, hvg⟩, fun h => absurd h he⟩)))
        intro b hb
        obtain ⟨c', hc'⟩ := htv b hb
        exact ⟨c', k04.blk hc' (hvM b hb)⟩
  · refine ew_cond_t rfl (by simp [hfl]) ?_
    refine ew_skip ?_
    refine sp rfl ?_
    refine el_loadb rfl rfl rfl rfl rfl hg rfl ?_
    refine ep rfl ?_
    exact ew_ret (ret_1 (.int .i64 flaw) rfl rfl rfl rfl (.inl ⟨hfl, rfl, rfl⟩))

theorem try_nil (fine : Bool) (fv : Value) (w : World) : Fn Try.prog 89 [.pointer none, .bool fine, fv] w fun r w' => r = .int .i64 1 ∧ w' = w := by
  refine fn_enter Try.func89 rfl rfl ?_
  refine es rfl ?_
  refine ew_seq (ew_block ?_)
  refine es rfl ?_
  refine ew_cond_t rfl rfl ?_
  refine es rfl ?_
  exact ew_ret (ret_1 (.int .i64 1) rfl rfl rfl rfl ⟨rfl, rfl⟩)
end Go.Proofs.Ytpdgfekimnmdnaa
