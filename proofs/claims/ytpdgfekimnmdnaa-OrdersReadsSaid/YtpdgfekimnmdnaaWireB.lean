/- The wire's writer, second part: 'lay', and the calls that lay. -/
import Derived.Test.YtpdgfekimnmdnaaWireA
set_option linter.unusedVariables false
set_option linter.unusedSimpArgs false
namespace Go.Proofs.Ytpdgfekimnmdnaa
open Go.RowKit
set_option maxRecDepth 20000

/-- Block g is a writer that was made, of the bytes bs. -/
def IsW (w : World) (g : Nat) (bs : List UInt8) : Prop := bs.length ≤ 1048576 ∧ ∃ v, Blk w g 105 #[v, .bool true] ∧ OwnB 5 w 0 v bs

theorem own_typed {w : World} {base : Nat} {e : TypeId} {size : Nat} {v : Value} {n : Nat} {xs : List Value} (h : w.ownsRow base e size v n xs) {b : Nat} (hb : v.ownBlock = some b) : ∃ c, Blk w b e c := by
  rcases h.2 with ⟨rfl, _⟩ | ⟨g, cap, cur, rfl, _, hg, _⟩
  · cases hb
  · injection hb with hb
    subst hb
    exact ⟨cur, hg⟩
theorem own_ne {w : World} {base : Nat} {e : TypeId} {size : Nat} {v : Value} {n : Nat} {xs : List Value} (h : w.ownsRow base e size v n xs) {g : Nat} {T : TypeId} {c : Array Value} {fr : Nat × Nat} (hg : w.heap[g]? = some (.cells c T fr)) (hT : T ≠ e) : ∀ b, v.ownBlock = some b → b ∉ [g] := by
  intro b hb
  obtain ⟨c', hc⟩ := own_typed h hb
  have := Blk.ne hg hc hT
  simp; omega
/-- None of the blocks of M holds elements of type E. -/
def NoE (E : TypeId) (w : World) (M : List Nat) : Prop := ∀ b ∈ M, ∀ c fr, w.heap[b]? ≠ some (.cells c E fr)
theorem NoE.nil (E : TypeId) (w : World) : NoE E w [] := fun _ h => by cases h
theorem NoE.one {E T : TypeId} {w : World} {g : Nat} {c : Array Value} {fr : Nat × Nat} (h : w.heap[g]? = some (.cells c T fr)) (hT : T ≠ E) : NoE E w [g] := by
  intro b hb c' fr' hc
  simp only [List.mem_singleton] at hb
  subst hb
  exact Blk.ne h hc hT rfl
theorem own_keepE {w w' : World} {base : Nat} {e : TypeId} {size : Nat} {v : Value} {n : Nat} {xs : List Value} {M : List Nat} (h : w.ownsRow base e size v n xs) (k : Keep M w w') (hM : NoE e w M) : w'.ownsRow base e size v n xs :=
  own_keep h k fun b hb hin => by
    obtain ⟨c, hc⟩ := own_typed h hb
    exact hM b hin c _ hc

theorem IsW.keep {w w' : World} {g : Nat} {bs : List UInt8} {M : List Nat} (h : IsW w g bs) (k : Keep M w w') (hg : g ∉ M) (hM : NoE 5 w M) : IsW w' g bs := by
  obtain ⟨hl, v, hb, ho⟩ := h
  exact ⟨hl, v, k.blk hb hg, own_keepE ho k hM⟩
theorem IsW.keep0 {w w' : World} {g : Nat} {bs : List UInt8} (h : IsW w g bs) (k : Keep [] w w') : IsW w' g bs := h.keep k (by simp) (NoE.nil _ _)
theorem IsW.lt {w : World} {g : Nat} {bs : List UInt8} (h : IsW w g bs) : g < w.heap.size := by
  obtain ⟨hl, v, hb, ho⟩ := h
  exact Blk.lt hb

/-- The block that a writer keeps its bytes in. -/
def bufOf (w : World) (g : Nat) : Option Nat := match w.heap[g]? with
  | some (.cells cs _ _) => (cs[0]?).bind Value.ownBlock
  | _ => none
/-- It is the one that it was, or a new one. -/
def BufOk (g : Nat) (w w' : World) : Prop := bufOf w' g = bufOf w g ∨ ∀ x, bufOf w' g = some x → w.heap.size ≤ x
theorem BufOk.refl (g : Nat) (w : World) : BufOk g w w := .inl rfl
theorem bufOf_keep {M : List Nat} {w w' : World} {g : Nat} (k : Keep M w w') (hg : g < w.heap.size) (hM : g ∉ M) : bufOf w' g = bufOf w g := by
  unfold bufOf
  rw [k.block g hg hM]
theorem BufOk.trans {g : Nat} {w0 w1 w2 : World} (h : BufOk g w0 w1) (k : BufOk g w1 w2) (hs : w0.heap.size ≤ w1.heap.size) : BufOk g w0 w2 := by
  rcases k with k | k
  · rcases h with h | h
    · exact .inl (k.trans h)
    · exact .inr fun x hx => h x (by rw [← k]; exact hx)
  · exact .inr fun x hx => Nat.le_trans hs (k x hx)
theorem BufOk.keep {M : List Nat} {g : Nat} {w0 w w' : World} (h : BufOk g w0 w) (k : Keep M w w') (hg : g < w.heap.size) (hM : g ∉ M) : BufOk g w0 w' := by
  unfold BufOk
  rw [bufOf_keep k hg hM]
  exact h

theorem new_ok (w : World) : Fn Try.prog 32 [] w fun r w' => ∃ g, r = .pointer (some ⟨g, 0, none⟩) ∧ w.heap.size = g ∧ IsW w' g [] ∧ Keep [] w w' := by
  refine fn_enter Try.func32 rfl rfl ?_
  refine es rfl ?_
  refine sp rfl ?_
  refine el_build (z := .agg #[.slice none 0 0, .bool false]) (vs := [.slice none 0 0, .bool true]) rfl rfl rfl rfl rfl rfl ?_
  refine el_box #[.slice none 0 0, .bool true] rfl rfl rfl rfl ?_
  intro b w' hb hb2 hk hblk
  refine ep rfl ?_
  exact ew_ret (ret_1 (.pointer (some ⟨b, 0, none⟩)) rfl rfl rfl rfl ⟨b, rfl, hb, ⟨by simp, _, hblk, World.ownsRow_nil _ _ _ _⟩, hk⟩)

def layE (fine : Bool) (n m : Nat) : Int := if fine = false then 2 else if n + m > 1048576 then 3 else 0
def layB (fine : Bool) (bs : List UInt8) (parts : List (List UInt8)) : List UInt8 := if fine = false then bs else if bs.length + sumL parts > 1048576 then bs else bs ++ parts.flatten

theorem RdBB.keep0 {w w' : World} {v : Value} {bss : List (List UInt8)} (h : RdBB w v bss) (k : Keep [] w w') : RdBB w' v bss := by
  obtain ⟨vs, h1, h2, h3⟩ := h
  exact ⟨vs, h1.keep0 k, h2, fun j bs hj => by
    obtain ⟨u, hu, hr⟩ := h3 j bs hj
    exact ⟨u, hu, hr.keep0 k⟩⟩
theorem RdBB.one {w : World} {vs : List Value} {bss : List (List UInt8)} (h2 : vs.length = bss.length) (h3 : ∀ (j : Nat) (bs : List UInt8), bss[j]? = some bs → ∃ u : Value, vs[j]? = some u ∧ RdB w u bs) : ∀ u ∈ vs, u.oneCell' = true := by
  intro u hu
  obtain ⟨j, hj⟩ := List.getElem?_of_mem hu
  have hlt : j < vs.length := (List.getElem?_eq_some_iff.1 hj).1
  obtain ⟨u', hu', hr⟩ := h3 j bss[j] (List.getElem?_eq_getElem (by omega))
  rw [hj] at hu'
  injection hu' with hu'
  subst hu'
  obtain ⟨ad, cap, rfl, _⟩ := hr.slice
  rfl

theorem lay_ok (g : Nat) (bs : List UInt8) (fine : Bool) (lv : Value) (parts : List (List UInt8)) (w : World) (hW : IsW w g bs) (hl : RdBB w lv parts) (hs : sumL parts ≤ 35184372088832) (hp : parts.length ≤ 1099511627776) :
    Fn Try.prog 56 [.pointer (some ⟨g, 0, none⟩), .bool fine, lv] w fun r w' => r = .int .i64 (layE fine bs.length (sumL parts)) ∧ IsW w' g (layB fine bs parts) ∧ Keep [g] w w' ∧ BufOk g w w' := by
  have hW0 := hW
  obtain ⟨hbl, v, hg, hown⟩ := hW
  obtain ⟨ad, cap, rfl, hcv⟩ := own_slice hown
  have hgl := Blk.lt hg
  obtain ⟨vs, hr, hvl, he⟩ := hl
  obtain ⟨ad1, cap1, rfl, hc1⟩ := hr.slice
  refine fn_enter Try.func56 rfl rfl ?_
  refine es rfl ?_
  refine ew_seq (sp rfl ?_)
  refine el_loadb rfl rfl rfl rfl rfl hg rfl ?_
  refine ep rfl ?_
  refine ew_cond_f rfl rfl ?_
  refine ew_skip ?_
  refine ew_seq (es rfl ?_)
  cases fine with
  | false =>
    refine ew_cond_t rfl rfl ?_
    refine es rfl ?_
    exact ew_ret (ret_1 (.int .i64 2) rfl rfl rfl rfl ⟨rfl, hW0, Keep.refl _ _, BufOk.refl _ _⟩)
  | true =>
    refine ew_cond_f rfl rfl ?_
    refine ew_skip ?_
    refine sp rfl ?_
    refine el_loadb rfl rfl rfl rfl rfl hg rfl ?_
    refine ep rfl ?_
    refine ew_seq (es rfl (ew_block ?_))
    refine ew_loop (α := Nat) (fun j => [(0, .pointer (some ⟨g, 0, none⟩)), (2, .slice ad1 parts.length cap1), (7, .int .i64 ((bs.length + sumL (parts.take j) : Nat) : Int)), (26, .slice ad1 parts.length cap1), (27, .int .i64 (parts.length : Int)), (28, .int .i64 (j : Int))])
      (fun j w' => j ≤ parts.length ∧ w' = w) (fun j => parts.length - j) 0 ⟨rfl, rfl, int_eq (by simp [sumL]), rfl, rfl, rfl, trivial⟩ ⟨Nat.zero_le _, rfl⟩ ?_
    rintro j ρ w1 hd ⟨hj, rfl⟩
    refine es rfl ?_
    have hsum := sumL_le parts j
    by_cases hlt : j < parts.length
    · refine ew_seq (ew_cond_t rfl (decide_eq_true (by omega)) ?_)
      refine ew_skip ?_
      refine ew_seq (ew_block ?_)
      obtain ⟨p, hbs⟩ : ∃ bs, parts[j]? = some bs := ⟨_, List.getElem?_eq_getElem hlt⟩
      obtain ⟨u, hu, hru⟩ := he j p hbs
      obtain ⟨a, cap', hq, hcell⟩ := hr.at_ j u hu
      injection hq with e1 e2 e3
      subst e1
      subst e3
      have hst := sumL_take hbs
      have hle := sumL_le parts (j + 1)
      refine sp rfl ?_
      refine el_index (e := 23) (j := j) (p := j) rfl rfl rfl rfl rfl rfl hlt (Nat.mul_one j) rfl ?_
      refine el_load rfl rfl rfl rfl rfl hcell ?_
      obtain ⟨ad2, cap2, rfl, hc2⟩ := hru.slice
      refine ep rfl ?_
      refine eg rfl ?_
      refine eg rfl ?_
      exact ⟨hd, j + 1, ⟨rfl, rfl, int_eq (by rw [hst, wrap_i64 (by omega) (by omega)]; omega), rfl, rfl, int_eq (by rw [wrap_i64 (by omega) (by omega)]; omega), trivial⟩, ⟨by omega, rfl⟩, by omega⟩
    · obtain rfl : j = parts.length := by omega
      rw [List.take_length]
      refine ew_seq (ew_cond_f rfl (decide_eq_false (by omega)) ?_)
      refine ew_exit ?_
      refine ew_seq (es rfl ?_)
      by_cases hbig : bs.length + sumL parts > 1048576
      · refine ew_cond_t rfl (decide_eq_true (by omega)) ?_
        refine es rfl ?_
        exact ew_ret (ret_1 (.int .i64 3) rfl rfl (by exact hd) rfl ⟨by simp [layE, hbig], by simpa [layB, hbig] using hW0, Keep.refl _ _, BufOk.refl _ _⟩)
      · refine ew_cond_f rfl (decide_eq_false (by omega)) ?_
        refine ew_skip ?_
        refine sp rfl ?_
        refine el_loadb rfl rfl rfl rfl rfl hg rfl ?_
        refine el_bslice (z := .slice none 0 0) (bytes := 24) (vs := [.slice ad bs.length cap]) rfl rfl rfl info_bs rfl rfl rfl ?_
        intro b w2 hb1 hb2 hk2 hblk
        refine pp rfl ?_
        have hown1 : w2.ownsRow w1.heap.size 23 1 (.slice (some ⟨b, 0, none⟩) 1 1) 1 [.slice ad bs.length cap] := ⟨rfl, .inr ⟨b, 1, _, rfl, by omega, hblk, Nat.le_refl _, by unfold maxLen; omega, rfl, rfl⟩⟩
        refine el_append (v := .slice (some ⟨b, 0, none⟩) 1 1) (base := w1.heap.size) (z := .slice none 0 0) (size := 1) (bytes := 24) (n := 1) (m := parts.length) (xs := [.slice ad bs.length cap]) (ys := vs) rfl rfl rfl info_bs rfl rfl rfl rfl hown1 (hr.keep0 hk2) (by omega) (RdBB.one hvl he) (by unfold maxLen; omega) (by omega) (by omega) ?_
        intro v3 w3 hown3 hg3 hfr3
        have k3 : Keep [] w1 w3 := hk2.app hown1 (Nat.le_refl _) hg3
        have hrd3 : RdBB w3 v3 (bs :: parts) := ⟨_, by have := Rd.of_own hown3; simpa [Nat.add_comm] using this, by simp [hvl], fun j x hj => by
          cases j with
          | zero => injection hj with hj; subst hj; exact ⟨_, rfl, (Rd.of_own hown).keep0 k3⟩
          | succ j =>
            obtain ⟨u, hu, hru⟩ := he j x hj
            exact ⟨u, hu, hru.keep0 k3⟩⟩
        refine el_call rfl rfl rfl rfl rfl rfl (concat_ok v3 (bs :: parts) w3 hrd3 (by simp [sumL] at hs hbig ⊢; omega) (by simp; omega)) ?_
        rintro v4 w4 ⟨hown4, k4⟩
        have k14 := k3.trans0 k4
        obtain ⟨ad4, cap4, rfl, hc4⟩ := own_slice hown4
        refine pp rfl ?_
        refine el_store #[.slice ad4 (bs :: parts).flatten.length cap4, .bool true] rfl rfl rfl rfl rfl rfl rfl rfl (k14.blk hg (by simp)) rfl rfl ?_
        intro w5 k5 hs5 hblk5
        refine ep rfl ?_
        refine es rfl ?_
        refine ew_ret (ret_1 (.int .i64 0) rfl rfl (by exact hd) rfl ⟨by simp [layE, hbig], ⟨?_, _, hblk5, ?_⟩, (k14.any).trans k5 (fun b hb _ => hb), .inr fun x hx => ?_⟩)
        · simp only [layB]; simp [hbig]; rw [← sumL_flatten] at hbig; simp at hbig; omega
        · have : layB true bs parts = (bs :: parts).flatten := by simp [layB, hbig]
          rw [this]
          exact own_keep (own_lower hown4 (Nat.zero_le _)) k5 (fun b hb => by have := hown4.lt b hb; have := k3.size; simp; omega)
        · unfold bufOf at hx
          rw [hblk5] at hx
          have h4 := hown4.lt x (by simpa using hx)
          have := k3.size
          omega

theorem lay_nil (fine : Bool) (lv : Value) (w : World) : Fn Try.prog 56 [.pointer none, .bool fine, lv] w fun r w' => r = .int .i64 1 ∧ w' = w := by
  refine fn_enter Try.func56 rfl rfl ?_
  refine es rfl ?_
  refine ew_seq (es rfl ?_)
  refine ew_cond_t rfl rfl ?_
  refine es rfl ?_
  exact ew_ret (ret_1 (.int .i64 1) rfl rfl rfl rfl ⟨rfl, rfl⟩)
end Go.Proofs.Ytpdgfekimnmdnaa
