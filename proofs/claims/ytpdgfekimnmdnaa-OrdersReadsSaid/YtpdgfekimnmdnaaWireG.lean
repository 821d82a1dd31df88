/- The wire's reader, fourth part: 'taken', and the reader's methods. -/
import Derived.Test.YtpdgfekimnmdnaaWireF
set_option linter.unusedVariables false
set_option linter.unusedSimpArgs false
namespace Go.Proofs.Ytpdgfekimnmdnaa
open Go.RowKit
set_option maxRecDepth 20000

/-- What an answer's tale must obey. -/
structure Tale (Φ : List UInt8 → Nat → Value → Int → Nat → World → Prop) (z : Value) : Prop where
  one : ∀ {rest B x e k w}, Φ rest B x e k w → x.cells.toList = [x] ∧ [x].all Value.oneCell' = true
  zero : ∀ {rest B x e k w}, Φ rest B x e k w → e ≠ 0 → Φ rest B z e k w
  keep : ∀ {rest B x e k w w' M}, Φ rest B x e k w → Keep M w w' → (∀ b ∈ M, b < B) → Φ rest B x e k w'

theorem tale_number (g : Int) : Tale (ΦN g) (.int .i64 0) where
  one := fun h => by obtain ⟨rfl, _⟩ := h; exact ⟨rfl, rfl⟩
  zero := fun {rest B x e k w} h he => by
    obtain ⟨rfl, rfl, rfl⟩ := h
    refine ⟨?_, rfl, rfl⟩
    refine int_eq ?_
    unfold numR at he ⊢
    dsimp only at he ⊢
    split
    · rfl
    · rename_i h1
      rw [if_neg h1] at he
      split
      · rfl
      · rename_i h2
        rw [if_neg h2] at he
        exact absurd rfl he
  keep := fun h _ _ => h
theorem tale_bytes {res : List UInt8 → List UInt8 × Int × Nat} (hz : ∀ l, (res l).2.1 ≠ 0 → (res l).1 = []) : Tale (ΦB res) (.slice none 0 0) where
  one := fun h => by
    obtain ⟨⟨b, hb, ho⟩, _⟩ := h
    obtain ⟨ad, cap, rfl, _⟩ := own_slice ho
    exact ⟨rfl, rfl⟩
  zero := fun {rest B x e k w} h he => by
    obtain ⟨_, rfl, rfl⟩ := h
    exact ⟨⟨B, Nat.le_refl _, by rw [hz _ he]; exact World.ownsRow_nil _ _ _ _⟩, rfl, rfl⟩
  keep := fun {rest B x e k w w' M} h hk hM => by
    obtain ⟨⟨b, hb, ho⟩, h2⟩ := h
    refine ⟨⟨b, hb, own_keep ho hk fun b' hb' hin => ?_⟩, h2⟩
    have h3 := hM b' hin
    obtain ⟨ad, cap, rfl, _⟩ := own_slice ho
    have h4 := ho.lt b' hb'
    omega
theorem tale_truth : Tale ΦT (.bool false) where
  one := fun h => by obtain ⟨rfl, _⟩ := h; exact ⟨rfl, rfl⟩
  zero := fun {rest B x e k w} h he => by
    obtain ⟨rfl, rfl, rfl⟩ := h
    refine ⟨?_, rfl, rfl⟩
    refine bool_eq ?_
    cases rest with
    | nil => rfl
    | cons c r =>
      simp only [truthR] at he ⊢
      split
      · rfl
      · rename_i h1
        rw [if_neg h1] at he
        exact absurd rfl he
  keep := fun h _ _ => h


theorem run_loadVar {P : Program} {w : World} {t : TypeId} {b : Nat} {v : Value} {T : TypeDesc} {B : TypeId} {fr : Nat × Nat} (hT : P.underlying t = some T) (hg : aggT (some T) = false) (hb : w.heap[b]? = some (.cells #[v] B fr)) : (loadVar t ⟨b, 0, none⟩).run P w = .ok v w := by
  have hc : w.cell? ⟨b, 0, none⟩ = some v := (Blk.cell hb 0).trans rfl
  simp [loadVar, run_isAgg hT, hg, hc]

def Took (g : Nat) (all : List UInt8) (at_ : Nat) (flaw : Int) (fine : Bool) (Φ : List UInt8 → Nat → Value → Int → Nat → World → Prop) (z : Value) (w : World) (r : Value) (w' : World) : Prop :=
  (flaw ≠ 0 ∧ r = .tuple #[z, .int .i64 flaw] ∧ IsR w' g all at_ flaw ∧ Keep [g] w w') ∨
  (flaw = 0 ∧ fine = false ∧ r = .tuple #[z, .int .i64 2] ∧ IsR w' g all at_ 2 ∧ Keep [g] w w') ∨
  (flaw = 0 ∧ fine = true ∧ ∃ x e k B, r = .tuple #[x, .int .i64 e] ∧ w.heap.size ≤ B ∧ Φ (all.drop at_) B x e k w' ∧ (e ≠ 0 → IsR w' g all at_ e) ∧ (e = 0 → IsR w' g all (at_ + k) 0) ∧ Keep [g] w w')

theorem clo_number {fh : FuncId} {fn : Func} {c : Code} {av : Value} {Φ : List UInt8 → Nat → Value → Int → Nat → World → Prop} (hH : HowOk fh av Φ) (hT : Tale Φ (.int .i64 0)) (hf : Try.prog.funcs[fh]? = some fn) (hb : fn.body = some c) (hnm : (fn.name == "runtime.NumGoroutine") = false)
    (hb_ ab ob : Nat) (HT : TypeId) (w0 w : World) (hk0 : Keep [] w0 w) (h1 : Blk w0 hb_ HT #[.func (.func fh) #[] #[]]) (h2 : Blk w0 ab 2 #[av]) (h3 : Blk w0 ob 2 #[(.int .i64 0)])
    (lb : Nat) (v : Value) (rest : List UInt8) (at_ : Int) (hlb : w0.heap.size ≤ lb) (hL : IsL w lb v rest at_) (hne : ∀ b, v.ownBlock = some b → b ≠ lb) (hl : rest.length ≤ 70368744177664) (hat : 0 ≤ at_ ∧ at_ + rest.length ≤ 70368744177664) (hvo : ∀ b, v.ownBlock = some b → b ≠ ob) :
    Fn Try.prog 90 ([] ++ [.pointer (some ⟨lb, 0, none⟩)] ++ [.pointer (some ⟨hb_, 0, none⟩), .pointer (some ⟨ab, 0, none⟩), .pointer (some ⟨ob, 0, none⟩)]) w fun r w2 =>
      ∃ e k, r = .int .i64 e ∧ (∃ x B, Blk w2 ob 2 #[x] ∧ w0.heap.size ≤ B ∧ Φ rest B x e k w2) ∧ LeftS lb v rest at_ e k w2 ∧ Keep (lb :: [ob]) w w2 := by
  have g1 := hk0.blk h1 (by simp)
  have g2 := hk0.blk h2 (by simp)
  have g3 := hk0.blk h3 (by simp)
  have l1 := Blk.lt h1
  have l2 := Blk.lt h2
  have l3 := Blk.lt h3
  refine fn_enter Try.func90 rfl rfl ?_
  refine es rfl ?_
  refine es rfl ?_
  refine ew_seq ?_
  refine sp rfl ?_
  refine el_loadb rfl rfl rfl rfl rfl g1 rfl ?_
  refine pp rfl ?_
  refine el_loadb rfl rfl rfl rfl rfl g2 rfl ?_
  refine el_callv (first := []) (captured := []) rfl rfl rfl hf hb hnm rfl (hH lb v rest at_ w hL hne hl hat) ?_
  rintro rv w1 ⟨x, e, k, rfl, hΦ, hS, k1⟩
  refine ep rfl ?_
  refine es rfl ?_
  have hk01 := hk0.size
  have g31 := k1.blk g3 (by simp; omega)
  by_cases he : e = 0
  · subst he
    refine ew_cond_t rfl rfl ?_
    refine gp rfl ?_
    obtain ⟨o1, o2⟩ := hT.one hΦ
    refine el_store #[x] rfl rfl rfl rfl o1 rfl rfl o2 g31 rfl rfl ?_
    intro w2 k2 hs2 g32
    refine ep rfl ?_
    refine es rfl ?_
    refine ew_ret (ret_1 (.int .i64 0) rfl rfl rfl rfl ⟨0, k, rfl, ⟨x, w.heap.size, g32, hk01, hT.keep hΦ k2 (by simp; omega)⟩, ⟨fun h => absurd rfl h, fun _ => ?_⟩, ?_⟩)
    · obtain ⟨hkl, v', ⟨hb', hr'⟩, hv'⟩ := hS.2 rfl
      exact ⟨hkl, v', ⟨k2.blk hb' (by simp; omega), hr'.keep k2 (fun b hb2 => by have := hvo b (hv' b hb2); simp; exact this)⟩, hv'⟩
    · exact (k1.mono (by simp)).trans k2 (fun b hb2 _ => by simp at hb2; simp [hb2])
  · refine ew_cond_f rfl (by simp [he]) ?_
    refine ew_skip ?_
    refine es rfl ?_
    exact ew_ret (ret_1 (.int .i64 e) rfl rfl rfl rfl ⟨e, k, rfl, ⟨(.int .i64 0), w.heap.size, g31, hk01, hT.zero hΦ he⟩, hS, k1.mono (by simp)⟩)
theorem clo_bytes {fh : FuncId} {fn : Func} {c : Code} {av : Value} {Φ : List UInt8 → Nat → Value → Int → Nat → World → Prop} (hH : HowOk fh av Φ) (hT : Tale Φ (.slice none 0 0)) (hf : Try.prog.funcs[fh]? = some fn) (hb : fn.body = some c) (hnm : (fn.name == "runtime.NumGoroutine") = false)
    (hb_ ab ob : Nat) (HT : TypeId) (w0 w : World) (hk0 : Keep [] w0 w) (h1 : Blk w0 hb_ HT #[.func (.func fh) #[] #[]]) (h2 : Blk w0 ab 3 #[av]) (h3 : Blk w0 ob 23 #[(.slice none 0 0)])
    (lb : Nat) (v : Value) (rest : List UInt8) (at_ : Int) (hlb : w0.heap.size ≤ lb) (hL : IsL w lb v rest at_) (hne : ∀ b, v.ownBlock = some b → b ≠ lb) (hl : rest.length ≤ 70368744177664) (hat : 0 ≤ at_ ∧ at_ + rest.length ≤ 70368744177664) (hvo : ∀ b, v.ownBlock = some b → b ≠ ob) :
    Fn Try.prog 97 ([] ++ [.pointer (some ⟨lb, 0, none⟩)] ++ [.pointer (some ⟨hb_, 0, none⟩), .pointer (some ⟨ab, 0, none⟩), .pointer (some ⟨ob, 0, none⟩)]) w fun r w2 =>
      ∃ e k, r = .int .i64 e ∧ (∃ x B, Blk w2 ob 23 #[x] ∧ w0.heap.size ≤ B ∧ Φ rest B x e k w2) ∧ LeftS lb v rest at_ e k w2 ∧ Keep (lb :: [ob]) w w2 := by
  have g1 := hk0.blk h1 (by simp)
  have g2 := hk0.blk h2 (by simp)
  have g3 := hk0.blk h3 (by simp)
  have l1 := Blk.lt h1
  have l2 := Blk.lt h2
  have l3 := Blk.lt h3
  refine fn_enter Try.func97 rfl rfl ?_
  refine es rfl ?_
  refine es rfl ?_
  refine ew_seq ?_
  refine sp rfl ?_
  refine el_loadb rfl rfl rfl rfl rfl g1 rfl ?_
  refine pp rfl ?_
  refine el_loadb rfl rfl rfl rfl rfl g2 rfl ?_
  refine el_callv (first := []) (captured := []) rfl rfl rfl hf hb hnm rfl (hH lb v rest at_ w hL hne hl hat) ?_
  rintro rv w1 ⟨x, e, k, rfl, hΦ, hS, k1⟩
  refine ep rfl ?_
  refine es rfl ?_
  have hk01 := hk0.size
  have g31 := k1.blk g3 (by simp; omega)
  by_cases he : e = 0
  · subst he
    refine ew_cond_t rfl rfl ?_
    refine gp rfl ?_
    obtain ⟨o1, o2⟩ := hT.one hΦ
    refine el_store #[x] rfl rfl rfl rfl o1 rfl rfl o2 g31 rfl rfl ?_
    intro w2 k2 hs2 g32
    refine ep rfl ?_
    refine es rfl ?_
    refine ew_ret (ret_1 (.int .i64 0) rfl rfl rfl rfl ⟨0, k, rfl, ⟨x, w.heap.size, g32, hk01, hT.keep hΦ k2 (by simp; omega)⟩, ⟨fun h => absurd rfl h, fun _ => ?_⟩, ?_⟩)
    · obtain ⟨hkl, v', ⟨hb', hr'⟩, hv'⟩ := hS.2 rfl
      exact ⟨hkl, v', ⟨k2.blk hb' (by simp; omega), hr'.keep k2 (fun b hb2 => by have := hvo b (hv' b hb2); simp; exact this)⟩, hv'⟩
    · exact (k1.mono (by simp)).trans k2 (fun b hb2 _ => by simp at hb2; simp [hb2])
  · refine ew_cond_f rfl (by simp [he]) ?_
    refine ew_skip ?_
    refine es rfl ?_
    exact ew_ret (ret_1 (.int .i64 e) rfl rfl rfl rfl ⟨e, k, rfl, ⟨(.slice none 0 0), w.heap.size, g31, hk01, hT.zero hΦ he⟩, hS, k1.mono (by simp)⟩)
theorem clo_truth {fh : FuncId} {fn : Func} {c : Code} {av : Value} {Φ : List UInt8 → Nat → Value → Int → Nat → World → Prop} (hH : HowOk fh av Φ) (hT : Tale Φ (.bool false)) (hf : Try.prog.funcs[fh]? = some fn) (hb : fn.body = some c) (hnm : (fn.name == "runtime.NumGoroutine") = false)
    (hb_ ab ob : Nat) (HT : TypeId) (w0 w : World) (hk0 : Keep [] w0 w) (h1 : Blk w0 hb_ HT #[.func (.func fh) #[] #[]]) (h2 : Blk w0 ab 5 #[av]) (h3 : Blk w0 ob 4 #[(.bool false)])
    (lb : Nat) (v : Value) (rest : List UInt8) (at_ : Int) (hlb : w0.heap.size ≤ lb) (hL : IsL w lb v rest at_) (hne : ∀ b, v.ownBlock = some b → b ≠ lb) (hl : rest.length ≤ 70368744177664) (hat : 0 ≤ at_ ∧ at_ + rest.length ≤ 70368744177664) (hvo : ∀ b, v.ownBlock = some b → b ≠ ob) :
    Fn Try.prog 98 ([] ++ [.pointer (some ⟨lb, 0, none⟩)] ++ [.pointer (some ⟨hb_, 0, none⟩), .pointer (some ⟨ab, 0, none⟩), .pointer (some ⟨ob, 0, none⟩)]) w fun r w2 =>
      ∃ e k, r = .int .i64 e ∧ (∃ x B, Blk w2 ob 4 #[x] ∧ w0.heap.size ≤ B ∧ Φ rest B x e k w2) ∧ LeftS lb v rest at_ e k w2 ∧ Keep (lb :: [ob]) w w2 := by
  have g1 := hk0.blk h1 (by simp)
  have g2 := hk0.blk h2 (by simp)
  have g3 := hk0.blk h3 (by simp)
  have l1 := Blk.lt h1
  have l2 := Blk.lt h2
  have l3 := Blk.lt h3
  refine fn_enter Try.func98 rfl rfl ?_
  refine es rfl ?_
  refine es rfl ?_
  refine ew_seq ?_
  refine sp rfl ?_
  refine el_loadb rfl rfl rfl rfl rfl g1 rfl ?_
  refine pp rfl ?_
  refine el_loadb rfl rfl rfl rfl rfl g2 rfl ?_
  refine el_callv (first := []) (captured := []) rfl rfl rfl hf hb hnm rfl (hH lb v rest at_ w hL hne hl hat) ?_
  rintro rv w1 ⟨x, e, k, rfl, hΦ, hS, k1⟩
  refine ep rfl ?_
  refine es rfl ?_
  have hk01 := hk0.size
  have g31 := k1.blk g3 (by simp; omega)
  by_cases he : e = 0
  · subst he
    refine ew_cond_t rfl rfl ?_
    refine gp rfl ?_
    obtain ⟨o1, o2⟩ := hT.one hΦ
    refine el_store #[x] rfl rfl rfl rfl o1 rfl rfl o2 g31 rfl rfl ?_
    intro w2 k2 hs2 g32
    refine ep rfl ?_
    refine es rfl ?_
    refine ew_ret (ret_1 (.int .i64 0) rfl rfl rfl rfl ⟨0, k, rfl, ⟨x, w.heap.size, g32, hk01, hT.keep hΦ k2 (by simp; omega)⟩, ⟨fun h => absurd rfl h, fun _ => ?_⟩, ?_⟩)
    · obtain ⟨hkl, v', ⟨hb', hr'⟩, hv'⟩ := hS.2 rfl
      exact ⟨hkl, v', ⟨k2.blk hb' (by simp; omega), hr'.keep k2 (fun b hb2 => by have := hvo b (hv' b hb2); simp; exact this)⟩, hv'⟩
    · exact (k1.mono (by simp)).trans k2 (fun b hb2 _ => by simp at hb2; simp [hb2])
  · refine ew_cond_f rfl (by simp [he]) ?_
    refine ew_skip ?_
    refine es rfl ?_
    exact ew_ret (ret_1 (.int .i64 e) rfl rfl rfl rfl ⟨e, k, rfl, ⟨(.bool false), w.heap.size, g31, hk01, hT.zero hΦ he⟩, hS, k1.mono (by simp)⟩)
theorem taken_number {fh : FuncId} {fn : Func} {c : Code} {av : Value} {Φ : List UInt8 → Nat → Value → Int → Nat → World → Prop} (g : Nat) (all : List UInt8) (at_ : Nat) (flaw : Int) (fine : Bool) (w : World) (hR : IsR w g all at_ flaw) (hH : fine = true → HowOk fh av Φ) (hT : Tale Φ (.int .i64 0))
    (hf : Try.prog.funcs[fh]? = some fn) (hb : fn.body = some c) (hnm : (fn.name == "runtime.NumGoroutine") = false) (hav : av.cells = #[av]) :
    Fn Try.prog 62 [.pointer (some ⟨g, 0, none⟩), .bool fine, .func (.func fh) #[] #[], av] w (Took g all at_ flaw fine Φ (.int .i64 0) w) := by
  refine fn_enter Try.func62 rfl rfl ?_
  refine sp rfl ?_
  refine el_box #[.func (.func fh) #[] #[]] rfl rfl rfl rfl ?_
  intro b1 w1 e1 e1' k1 hb1
  refine el_box #[av] rfl rfl rfl hav ?_
  intro b2 w2 e2 e2' k2 hb2
  refine el_alloc (z := (.int .i64 0)) #[(.int .i64 0)] rfl rfl rfl rfl ?_
  intro b3 w3 e3 e3' k3 hb3
  refine ep rfl ?_
  have hb1' := k3.blk (k2.blk hb1 (by simp)) (by simp)
  have hb2' := k3.blk hb2 (by simp)
  have k03 : Keep [] w w3 := (k1.trans0 k2).trans0 k3
  have hR3 := hR.keep0 k03
  have hgl := hR.lt
  refine sp rfl ?_
  refine el_call rfl rfl rfl rfl rfl rfl (try_ok g all at_ flaw fine 90 _ _ [.pointer (some ⟨b1, 0, none⟩), .pointer (some ⟨b2, 0, none⟩), .pointer (some ⟨b3, 0, none⟩)] [b3] (fun e k w' => ∃ x B, Blk w' b3 2 #[x] ∧ w3.heap.size ≤ B ∧ Φ (all.drop at_) B x e k w') w3 hR3 (by simp; omega) (NoE.one hb3 (by decide)) rfl rfl rfl ?_ ?_) ?_
  · rintro e k wa wb kab ⟨x, B, h1, h2, h3⟩
    exact ⟨x, B, kab.blk h1 (by simp; omega), h2, hT.keep h3 kab (by simp; omega)⟩
  · intro hfine lb v wa ka hlb hL hne htv
    obtain ⟨hal, hat, _⟩ := hR
    refine clo_number (hH hfine) hT hf hb hnm b1 b2 b3 _ w3 wa ka hb1' hb2' hb3 lb v (all.drop at_) at_ hlb hL hne (by simp; omega) ⟨by omega, by simp; omega⟩ ?_
    intro b hvb hbo
    obtain ⟨cc, hcc⟩ := htv b hvb
    exact Blk.ne (ka.blk hb3 (by simp)) hcc (by decide) hbo.symm
  · intro rv w4 h
    rcases h with ⟨h1, rfl, rfl⟩ | ⟨h1, h2, rfl, hR4, k4⟩ | ⟨h1, h2, e, k, rfl, ⟨x, B, hx, hB, hΦ⟩, k4, hR4, hR5⟩
    · refine ep rfl ?_
      refine sp rfl ?_
      refine el_loadb rfl rfl rfl rfl rfl hb3 rfl ?_
      refine pp rfl ?_
      refine el_store #[(.int .i64 0)] rfl rfl rfl rfl rfl rfl rfl rfl hb3 rfl rfl ?_
      intro w5 k5 hs5 hb5
      refine ep rfl ?_
      have k05 : Keep [] w w5 := k03.trans k5 (by simp; omega)
      exact ew_ret (ret_l [(.int .i64 0), .int .i64 flaw] rfl rfl ⟨⟨_, rfl, rfl, run_loadVar rfl rfl hb5⟩, ⟨rfl, rfl⟩, trivial⟩ (.inl ⟨h1, rfl, hR.keep0 k05, k05.any⟩))
    · subst h1
      have hb4 := k4.blk hb3 (by simp; omega)
      refine ep rfl ?_
      refine sp rfl ?_
      refine el_loadb rfl rfl rfl rfl rfl hb4 rfl ?_
      refine pp rfl ?_
      refine el_store #[(.int .i64 0)] rfl rfl rfl rfl rfl rfl rfl rfl hb4 rfl rfl ?_
      intro w5 k5 hs5 hb5
      refine ep rfl ?_
      have k05 : Keep [g] w w5 := (k03.any.trans k4 (by simp)).trans k5 (by simp; omega)
      exact ew_ret (ret_l [(.int .i64 0), .int .i64 2] rfl rfl ⟨⟨_, rfl, rfl, run_loadVar rfl rfl hb5⟩, ⟨rfl, rfl⟩, trivial⟩ (.inr (.inl ⟨rfl, h2, rfl, hR4.keep k5 (by simp; omega) (NoE.one hb4 (by decide)), k05⟩)))
    · subst h1
      obtain ⟨o1, o2⟩ := hT.one hΦ
      refine ep rfl ?_
      refine sp rfl ?_
      refine el_loadb rfl rfl rfl rfl rfl hx rfl ?_
      refine pp rfl ?_
      refine el_store #[x] rfl rfl rfl rfl o1 rfl rfl o2 hx rfl rfl ?_
      intro w5 k5 hs5 hb5
      refine ep rfl ?_
      have k05 : Keep [g] w w5 := (k03.any.trans k4 (fun b hb hlt => by simp at hb; rcases hb with hb | hb <;> simp <;> omega)).trans k5 (by simp; omega)
      have hk := k03.size
      exact ew_ret (ret_l [x, .int .i64 e] rfl rfl ⟨⟨_, rfl, rfl, run_loadVar rfl rfl hb5⟩, ⟨rfl, rfl⟩, trivial⟩ (.inr (.inr ⟨rfl, h2, x, e, k, B, rfl, by omega, hT.keep hΦ k5 (by simp; omega), fun he => (hR4 he).keep k5 (by simp; omega) (NoE.one hx (by decide)), fun he => (hR5 he).keep k5 (by simp; omega) (NoE.one hx (by decide)), k05⟩)))
theorem taken_bytes {fh : FuncId} {fn : Func} {c : Code} {av : Value} {Φ : List UInt8 → Nat → Value → Int → Nat → World → Prop} (g : Nat) (all : List UInt8) (at_ : Nat) (flaw : Int) (fine : Bool) (w : World) (hR : IsR w g all at_ flaw) (hH : fine = true → HowOk fh av Φ) (hT : Tale Φ (.slice none 0 0))
    (hf : Try.prog.funcs[fh]? = some fn) (hb : fn.body = some c) (hnm : (fn.name == "runtime.NumGoroutine") = false) (hav : av.cells = #[av]) :
    Fn Try.prog 92 [.pointer (some ⟨g, 0, none⟩), .bool fine, .func (.func fh) #[] #[], av] w (Took g all at_ flaw fine Φ (.slice none 0 0) w) := by
  refine fn_enter Try.func92 rfl rfl ?_
  refine sp rfl ?_
  refine el_box #[.func (.func fh) #[] #[]] rfl rfl rfl rfl ?_
  intro b1 w1 e1 e1' k1 hb1
  refine el_box #[av] rfl rfl rfl hav ?_
  intro b2 w2 e2 e2' k2 hb2
  refine el_alloc (z := (.slice none 0 0)) #[(.slice none 0 0)] rfl rfl rfl rfl ?_
  intro b3 w3 e3 e3' k3 hb3
  refine ep rfl ?_
  have hb1' := k3.blk (k2.blk hb1 (by simp)) (by simp)
  have hb2' := k3.blk hb2 (by simp)
  have k03 : Keep [] w w3 := (k1.trans0 k2).trans0 k3
  have hR3 := hR.keep0 k03
  have hgl := hR.lt
  refine sp rfl ?_
  refine el_call rfl rfl rfl rfl rfl rfl (try_ok g all at_ flaw fine 97 _ _ [.pointer (some ⟨b1, 0, none⟩), .pointer (some ⟨b2, 0, none⟩), .pointer (some ⟨b3, 0, none⟩)] [b3] (fun e k w' => ∃ x B, Blk w' b3 23 #[x] ∧ w3.heap.size ≤ B ∧ Φ (all.drop at_) B x e k w') w3 hR3 (by simp; omega) (NoE.one hb3 (by decide)) rfl rfl rfl ?_ ?_) ?_
  · rintro e k wa wb kab ⟨x, B, h1, h2, h3⟩
    exact ⟨x, B, kab.blk h1 (by simp; omega), h2, hT.keep h3 kab (by simp; omega)⟩
  · intro hfine lb v wa ka hlb hL hne htv
    obtain ⟨hal, hat, _⟩ := hR
    refine clo_bytes (hH hfine) hT hf hb hnm b1 b2 b3 _ w3 wa ka hb1' hb2' hb3 lb v (all.drop at_) at_ hlb hL hne (by simp; omega) ⟨by omega, by simp; omega⟩ ?_
    intro b hvb hbo
    obtain ⟨cc, hcc⟩ := htv b hvb
    exact Blk.ne (ka.blk hb3 (by simp)) hcc (by decide) hbo.symm
  · intro rv w4 h
    rcases h with ⟨h1, rfl, rfl⟩ | ⟨h1, h2, rfl, hR4, k4⟩ | ⟨h1, h2, e, k, rfl, ⟨x, B, hx, hB, hΦ⟩, k4, hR4, hR5⟩
    · refine ep rfl ?_
      refine sp rfl ?_
      refine el_loadb rfl rfl rfl rfl rfl hb3 rfl ?_
      refine pp rfl ?_
      refine el_store #[(.slice none 0 0)] rfl rfl rfl rfl rfl rfl rfl rfl hb3 rfl rfl ?_
      intro w5 k5 hs5 hb5
      refine ep rfl ?_
      have k05 : Keep [] w w5 := k03.trans k5 (by simp; omega)
      exact ew_ret (ret_l [(.slice none 0 0), .int .i64 flaw] rfl rfl ⟨⟨_, rfl, rfl, run_loadVar rfl rfl hb5⟩, ⟨rfl, rfl⟩, trivial⟩ (.inl ⟨h1, rfl, hR.keep0 k05, k05.any⟩))
    · subst h1
      have hb4 := k4.blk hb3 (by simp; omega)
      refine ep rfl ?_
      refine sp rfl ?_
      refine el_loadb rfl rfl rfl rfl rfl hb4 rfl ?_
      refine pp rfl ?_
      refine el_store #[(.slice none 0 0)] rfl rfl rfl rfl rfl rfl rfl rfl hb4 rfl rfl ?_
      intro w5 k5 hs5 hb5
      refine ep rfl ?_
      have k05 : Keep [g] w w5 := (k03.any.trans k4 (by simp)).trans k5 (by simp; omega)
      exact ew_ret (ret_l [(.slice none 0 0), .int .i64 2] rfl rfl ⟨⟨_, rfl, rfl, run_loadVar rfl rfl hb5⟩, ⟨rfl, rfl⟩, trivial⟩ (.inr (.inl ⟨rfl, h2, rfl, hR4.keep k5 (by simp; omega) (NoE.one hb4 (by decide)), k05⟩)))
    · subst h1
      obtain ⟨o1, o2⟩ := hT.one hΦ
      refine ep rfl ?_
      refine sp rfl ?_
      refine el_loadb rfl rfl rfl rfl rfl hx rfl ?_
      refine pp rfl ?_
      refine el_store #[x] rfl rfl rfl rfl o1 rfl rfl o2 hx rfl rfl ?_
      intro w5 k5 hs5 hb5
      refine ep rfl ?_
      have k05 : Keep [g] w w5 := (k03.any.trans k4 (fun b hb hlt => by simp at hb; rcases hb with hb | hb <;> simp <;> omega)).trans k5 (by simp; omega)
      have hk := k03.size
      exact ew_ret (ret_l [x, .int .i64 e] rfl rfl ⟨⟨_, rfl, rfl, run_loadVar rfl rfl hb5⟩, ⟨rfl, rfl⟩, trivial⟩ (.inr (.inr ⟨rfl, h2, x, e, k, B, rfl, by omega, hT.keep hΦ k5 (by simp; omega), fun he => (hR4 he).keep k5 (by simp; omega) (NoE.one hx (by decide)), fun he => (hR5 he).keep k5 (by simp; omega) (NoE.one hx (by decide)), k05⟩)))
theorem taken_truth {fh : FuncId} {fn : Func} {c : Code} {av : Value} {Φ : List UInt8 → Nat → Value → Int → Nat → World → Prop} (g : Nat) (all : List UInt8) (at_ : Nat) (flaw : Int) (fine : Bool) (w : World) (hR : IsR w g all at_ flaw) (hH : fine = true → HowOk fh av Φ) (hT : Tale Φ (.bool false))
    (hf : Try.prog.funcs[fh]? = some fn) (hb : fn.body = some c) (hnm : (fn.name == "runtime.NumGoroutine") = false) (hav : av.cells = #[av]) :
    Fn Try.prog 94 [.pointer (some ⟨g, 0, none⟩), .bool fine, .func (.func fh) #[] #[], av] w (Took g all at_ flaw fine Φ (.bool false) w) := by
  refine fn_enter Try.func94 rfl rfl ?_
  refine sp rfl ?_
  refine el_box #[.func (.func fh) #[] #[]] rfl rfl rfl rfl ?_
  intro b1 w1 e1 e1' k1 hb1
  refine el_box #[av] rfl rfl rfl hav ?_
  intro b2 w2 e2 e2' k2 hb2
  refine el_alloc (z := (.bool false)) #[(.bool false)] rfl rfl rfl rfl ?_
  intro b3 w3 e3 e3' k3 hb3
  refine ep rfl ?_
  have hb1' := k3.blk (k2.blk hb1 (by simp)) (by simp)
  have hb2' := k3.blk hb2 (by simp)
  have k03 : Keep [] w w3 := (k1.trans0 k2).trans0 k3
  have hR3 := hR.keep0 k03
  have hgl := hR.lt
  refine sp rfl ?_
  refine el_call rfl rfl rfl rfl rfl rfl (try_ok g all at_ flaw fine 98 _ _ [.pointer (some ⟨b1, 0, none⟩), .pointer (some ⟨b2, 0, none⟩), .pointer (some ⟨b3, 0, none⟩)] [b3] (fun e k w' => ∃ x B, Blk w' b3 4 #[x] ∧ w3.heap.size ≤ B ∧ Φ (all.drop at_) B x e k w') w3 hR3 (by simp; omega) (NoE.one hb3 (by decide)) rfl rfl rfl ?_ ?_) ?_
  · rintro e k wa wb kab ⟨x, B, h1, h2, h3⟩
    exact ⟨x, B, kab.blk h1 (by simp; omega), h2, hT.keep h3 kab (by simp; omega)⟩
  · intro hfine lb v wa ka hlb hL hne htv
    obtain ⟨hal, hat, _⟩ := hR
    refine clo_truth (hH hfine) hT hf hb hnm b1 b2 b3 _ w3 wa ka hb1' hb2' hb3 lb v (all.drop at_) at_ hlb hL hne (by simp; omega) ⟨by omega, by simp; omega⟩ ?_
    intro b hvb hbo
    obtain ⟨cc, hcc⟩ := htv b hvb
    exact Blk.ne (ka.blk hb3 (by simp)) hcc (by decide) hbo.symm
  · intro rv w4 h
    rcases h with ⟨h1, rfl, rfl⟩ | ⟨h1, h2, rfl, hR4, k4⟩ | ⟨h1, h2, e, k, rfl, ⟨x, B, hx, hB, hΦ⟩, k4, hR4, hR5⟩
    · refine ep rfl ?_
      refine sp rfl ?_
      refine el_loadb rfl rfl rfl rfl rfl hb3 rfl ?_
      refine pp rfl ?_
      refine el_store #[(.bool false)] rfl rfl rfl rfl rfl rfl rfl rfl hb3 rfl rfl ?_
      intro w5 k5 hs5 hb5
      refine ep rfl ?_
      have k05 : Keep [] w w5 := k03.trans k5 (by simp; omega)
      exact ew_ret (ret_l [(.bool false), .int .i64 flaw] rfl rfl ⟨⟨_, rfl, rfl, run_loadVar rfl rfl hb5⟩, ⟨rfl, rfl⟩, trivial⟩ (.inl ⟨h1, rfl, hR.keep0 k05, k05.any⟩))
    · subst h1
      have hb4 := k4.blk hb3 (by simp; omega)
      refine ep rfl ?_
      refine sp rfl ?_
      refine el_loadb rfl rfl rfl rfl rfl hb4 rfl ?_
      refine pp rfl ?_
      refine el_store #[(.bool false)] rfl rfl rfl rfl rfl rfl rfl rfl hb4 rfl rfl ?_
      intro w5 k5 hs5 hb5
      refine ep rfl ?_
      have k05 : Keep [g] w w5 := (k03.any.trans k4 (by simp)).trans k5 (by simp; omega)
      exact ew_ret (ret_l [(.bool false), .int .i64 2] rfl rfl ⟨⟨_, rfl, rfl, run_loadVar rfl rfl hb5⟩, ⟨rfl, rfl⟩, trivial⟩ (.inr (.inl ⟨rfl, h2, rfl, hR4.keep k5 (by simp; omega) (NoE.one hb4 (by decide)), k05⟩)))
    · subst h1
      obtain ⟨o1, o2⟩ := hT.one hΦ
      refine ep rfl ?_
      refine sp rfl ?_
      refine el_loadb rfl rfl rfl rfl rfl hx rfl ?_
      refine pp rfl ?_
      refine el_store #[x] rfl rfl rfl rfl o1 rfl rfl o2 hx rfl rfl ?_
      intro w5 k5 hs5 hb5
      refine ep rfl ?_
      have k05 : Keep [g] w w5 := (k03.any.trans k4 (fun b hb hlt => by simp at hb; rcases hb with hb | hb <;> simp <;> omega)).trans k5 (by simp; omega)
      have hk := k03.size
      exact ew_ret (ret_l [x, .int .i64 e] rfl rfl ⟨⟨_, rfl, rfl, run_loadVar rfl rfl hb5⟩, ⟨rfl, rfl⟩, trivial⟩ (.inr (.inr ⟨rfl, h2, x, e, k, B, rfl, by omega, hT.keep hΦ k5 (by simp; omega), fun he => (hR4 he).keep k5 (by simp; omega) (NoE.one hx (by decide)), fun he => (hR5 he).keep k5 (by simp; omega) (NoE.one hx (by decide)), k05⟩)))
end Go.Proofs.Ytpdgfekimnmdnaa
