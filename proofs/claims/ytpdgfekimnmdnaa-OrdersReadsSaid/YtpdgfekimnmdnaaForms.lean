/- Orders: the readers' forms. -/
import Derived.Test.YtpdgfekimnmdnaaRangeE
import Derived.Test.YtpdgfekimnmdnaaDrawG
/- Orders: the parts of a message: each takes its number off. -/
set_option linter.unusedVariables false
set_option linter.unusedSimpArgs false
namespace Go.Proofs.Ytpdgfekimnmdnaa
open Go.RowKit
set_option maxRecDepth 20000

def rdN (all : List UInt8) (a : Nat) (f g : Int) : Int × Int × Nat × Int := rdStep 0 all a f true fun l => numR l g
def rdY (all : List UInt8) (a : Nat) (f g : Int) : List UInt8 × Int × Nat × Int := rdStep [] all a f true fun l => bytesR l g
def rdT (all : List UInt8) (a : Nat) (f : Int) : Bool × Int × Nat × Int := rdStep false all a f true truthR

theorem onum_okind (gr b off : Nat) (T : TypeId) (cs : Array Value) (all : List UInt8) (a : Nat) (f g : Int) (w : World) (hR : IsR w gr all a f) (hg : decide (g ≥ 0) = true) (hb : Blk w b T cs) (hT : T ≠ 113) (hT2 : T ≠ 5) (hoff : off < cs.size) :
    Fn Try.prog 68 [.pointer (some ⟨gr, 0, none⟩), .pointer (some ⟨b, off, none⟩), .int .i64 g] w fun r w' => r = .int .i64 (rdN all a f g).2.1 ∧ IsR w' gr all (rdN all a f g).2.2.1 (rdN all a f g).2.2.2 ∧ Blk w' b T (setL cs off [.int .i64 (rdN all a f g).1]) ∧ Keep [gr, b] w w' := by
  have hne : b ≠ gr := hR.ne hb hT
  refine fn_enter Try.func68 rfl rfl ?_
  refine es rfl ?_
  refine sp rfl ?_
  refine el_call rfl rfl rfl rfl rfl rfl (rnumber_ok gr all a f g w hR) ?_
  intro rv w1 h1
  rw [hg] at h1
  obtain ⟨rfl, hR1, k1⟩ := h1
  have hb1 := k1.blk hb (by simpa using hne)
  refine ep rfl ?_
  refine sp rfl ?_
  refine el_store (off := off) (vs := [.int .i64 (rdN all a f g).1]) (setL cs off [.int .i64 (rdN all a f g).1]) rfl rfl rfl rfl rfl rfl rfl rfl hb1 (Nat.ble_eq_true_of_le (by simp; omega)) rfl ?_
  intro w2 k2 hs2 hb2
  refine ep rfl ?_
  refine es rfl ?_
  exact ew_ret (ret_1 (.int .i64 (rdN all a f g).2.1) rfl rfl rfl rfl ⟨rfl, hR1.keep k2 (by simpa using fun h => hne h.symm) (NoE.one hb1 hT2), hb2, (k1.mono (by simp)).trans k2 (by simp)⟩)
theorem onum_i64 (gr b off : Nat) (T : TypeId) (cs : Array Value) (all : List UInt8) (a : Nat) (f g : Int) (w : World) (hR : IsR w gr all a f) (hg : decide (g ≥ 0) = true) (hb : Blk w b T cs) (hT : T ≠ 113) (hT2 : T ≠ 5) (hoff : off < cs.size) :
    Fn Try.prog 70 [.pointer (some ⟨gr, 0, none⟩), .pointer (some ⟨b, off, none⟩), .int .i64 g] w fun r w' => r = .int .i64 (rdN all a f g).2.1 ∧ IsR w' gr all (rdN all a f g).2.2.1 (rdN all a f g).2.2.2 ∧ Blk w' b T (setL cs off [.int .i64 (rdN all a f g).1]) ∧ Keep [gr, b] w w' := by
  have hne : b ≠ gr := hR.ne hb hT
  refine fn_enter Try.func70 rfl rfl ?_
  refine es rfl ?_
  refine sp rfl ?_
  refine el_call rfl rfl rfl rfl rfl rfl (rnumber_ok gr all a f g w hR) ?_
  intro rv w1 h1
  rw [hg] at h1
  obtain ⟨rfl, hR1, k1⟩ := h1
  have hb1 := k1.blk hb (by simpa using hne)
  refine ep rfl ?_
  refine sp rfl ?_
  refine el_store (off := off) (vs := [.int .i64 (rdN all a f g).1]) (setL cs off [.int .i64 (rdN all a f g).1]) rfl rfl rfl rfl rfl rfl rfl rfl hb1 (Nat.ble_eq_true_of_le (by simp; omega)) rfl ?_
  intro w2 k2 hs2 hb2
  refine ep rfl ?_
  refine es rfl ?_
  exact ew_ret (ret_1 (.int .i64 (rdN all a f g).2.1) rfl rfl rfl rfl ⟨rfl, hR1.keep k2 (by simpa using fun h => hne h.symm) (NoE.one hb1 hT2), hb2, (k1.mono (by simp)).trans k2 (by simp)⟩)
theorem onum_int (gr b off : Nat) (T : TypeId) (cs : Array Value) (all : List UInt8) (a : Nat) (f g : Int) (w : World) (hR : IsR w gr all a f) (hg : decide (g ≥ 0) = true) (hb : Blk w b T cs) (hT : T ≠ 113) (hT2 : T ≠ 5) (hoff : off < cs.size) :
    Fn Try.prog 77 [.pointer (some ⟨gr, 0, none⟩), .pointer (some ⟨b, off, none⟩), .int .i64 g] w fun r w' => r = .int .i64 (rdN all a f g).2.1 ∧ IsR w' gr all (rdN all a f g).2.2.1 (rdN all a f g).2.2.2 ∧ Blk w' b T (setL cs off [.int .i64 (rdN all a f g).1]) ∧ Keep [gr, b] w w' := by
  have hne : b ≠ gr := hR.ne hb hT
  refine fn_enter Try.func77 rfl rfl ?_
  refine es rfl ?_
  refine sp rfl ?_
  refine el_call rfl rfl rfl rfl rfl rfl (rnumber_ok gr all a f g w hR) ?_
  intro rv w1 h1
  rw [hg] at h1
  obtain ⟨rfl, hR1, k1⟩ := h1
  have hb1 := k1.blk hb (by simpa using hne)
  refine ep rfl ?_
  refine sp rfl ?_
  refine el_store (off := off) (vs := [.int .i64 (rdN all a f g).1]) (setL cs off [.int .i64 (rdN all a f g).1]) rfl rfl rfl rfl rfl rfl rfl rfl hb1 (Nat.ble_eq_true_of_le (by simp; omega)) rfl ?_
  intro w2 k2 hs2 hb2
  refine ep rfl ?_
  refine es rfl ?_
  exact ew_ret (ret_1 (.int .i64 (rdN all a f g).2.1) rfl rfl rfl rfl ⟨rfl, hR1.keep k2 (by simpa using fun h => hne h.symm) (NoE.one hb1 hT2), hb2, (k1.mono (by simp)).trans k2 (by simp)⟩)
theorem onum_rkind (gr b off : Nat) (T : TypeId) (cs : Array Value) (all : List UInt8) (a : Nat) (f g : Int) (w : World) (hR : IsR w gr all a f) (hg : decide (g ≥ 0) = true) (hb : Blk w b T cs) (hT : T ≠ 113) (hT2 : T ≠ 5) (hoff : off < cs.size) :
    Fn Try.prog 79 [.pointer (some ⟨gr, 0, none⟩), .pointer (some ⟨b, off, none⟩), .int .i64 g] w fun r w' => r = .int .i64 (rdN all a f g).2.1 ∧ IsR w' gr all (rdN all a f g).2.2.1 (rdN all a f g).2.2.2 ∧ Blk w' b T (setL cs off [.int .i64 (rdN all a f g).1]) ∧ Keep [gr, b] w w' := by
  have hne : b ≠ gr := hR.ne hb hT
  refine fn_enter Try.func79 rfl rfl ?_
  refine es rfl ?_
  refine sp rfl ?_
  refine el_call rfl rfl rfl rfl rfl rfl (rnumber_ok gr all a f g w hR) ?_
  intro rv w1 h1
  rw [hg] at h1
  obtain ⟨rfl, hR1, k1⟩ := h1
  have hb1 := k1.blk hb (by simpa using hne)
  refine ep rfl ?_
  refine sp rfl ?_
  refine el_store (off := off) (vs := [.int .i64 (rdN all a f g).1]) (setL cs off [.int .i64 (rdN all a f g).1]) rfl rfl rfl rfl rfl rfl rfl rfl hb1 (Nat.ble_eq_true_of_le (by simp; omega)) rfl ?_
  intro w2 k2 hs2 hb2
  refine ep rfl ?_
  refine es rfl ?_
  exact ew_ret (ret_1 (.int .i64 (rdN all a f g).2.1) rfl rfl rfl rfl ⟨rfl, hR1.keep k2 (by simpa using fun h => hne h.symm) (NoE.one hb1 hT2), hb2, (k1.mono (by simp)).trans k2 (by simp)⟩)

/-- What the parts look at: the reader's pointer, the pointer into the message, the message. -/
def Caps (rb ob gr wb off : Nat) (OT : TypeId) (cs : Array Value) (w : World) : Prop :=
  Blk w rb 76 #[.pointer (some ⟨gr, 0, none⟩)] ∧ Blk w ob OT #[.pointer (some ⟨wb, off, none⟩)] ∧ Blk w wb 48 cs

theorem part_o1 (rb ob gr wb : Nat) (cs : Array Value) (hcs : cs.size = 11) (all : List UInt8) (a : Nat) (w : World) (hC : Caps rb ob gr wb 0 120 cs w) (hR : IsR w gr all a 0) :
    Fn Try.prog 67 [.pointer (some ⟨rb, 0, none⟩), .pointer (some ⟨ob, 0, none⟩)] w fun r w' => r = .int .i64 (rdN all a 0 3).2.1 ∧ IsR w' gr all (rdN all a 0 3).2.2.1 (rdN all a 0 3).2.2.2 ∧ Blk w' wb 48 (setL cs 0 [.int .i64 (rdN all a 0 3).1]) ∧ Keep [gr, wb] w w' := by
  obtain ⟨hrb, hob, hwb⟩ := hC
  have h1 : rb ≠ gr := hR.ne hrb (by decide)
  have h2 : ob ≠ gr := hR.ne hob (by decide)
  have h3 : rb ≠ wb := Blk.ne hrb hwb (by decide)
  have h4 : ob ≠ wb := Blk.ne hob hwb (by decide)
  obtain ⟨⟨x, e, a', f'⟩, hS⟩ : ∃ s, rdN all a 0 3 = s := ⟨_, rfl⟩
  have hspec := fun (w : World) (hR : IsR w gr all a 0) (hb : Blk w wb 48 cs) => onum_okind gr wb 0 48 cs all a 0 3 w hR rfl hb (by decide) (by decide) (by omega)
  rw [hS] at hspec
  rw [hS]
  dsimp only at hspec ⊢
  let E : Value := .int .i64 e
  refine fn_enter Try.func67 rfl rfl ?_
  refine es rfl ?_
  refine ew_seq ?_
  refine ew_draw follows [.known (.pointer (some ⟨gr, 0, none⟩)), .known (.pointer (some ⟨wb, 0, none⟩)), .known (.pointer (some ⟨wb, 0, none⟩)), .known (.pointer (some ⟨wb, 0, none⟩)), .known E, .known E] [gr, wb]
    (fun b w => (Blk w rb 76 #[.pointer (some ⟨gr, 0, none⟩)] ∧ Blk w ob 120 #[.pointer (some ⟨wb, 0, none⟩)]) ∧ ((b 4 = false → IsR w gr all a 0 ∧ Blk w wb 48 cs) ∧ (b 4 = true → IsR w gr all a' f' ∧ Blk w wb 48 (setL cs 0 [.int .i64 x])))) rfl (stable_known _ rfl) ⟨⟨hrb, hob⟩, fun _ => ⟨hR.keep0 (Keep.drew w), hwb⟩, fun h => by cases h⟩ ?_ ?_
  refine ⟨fun b V ρ w hk hbi hd hu hWd hV => el_loadb rfl rfl rfl rfl rfl hWd.1.1 rfl (el_nil ⟨_, rfl, rfl, Keep.refl _ _, hWd⟩), ?_⟩
  refine ⟨fun b V ρ w hk hbi hd hu hWd hV => el_loadb rfl rfl rfl rfl rfl hWd.1.2 rfl (el_nil ⟨_, rfl, rfl, Keep.refl _ _, hWd⟩), ?_⟩
  refine ⟨pureD rfl (fun _ _ => rfl) (fun _ _ h => h), ?_⟩
  refine ⟨pureD rfl (fun _ _ => rfl) (fun _ _ h => h), ?_⟩
  refine ⟨fun b V ρ w hk hbi hd hu hWd hV => el_call rfl rfl rfl rfl rfl rfl (hspec w (hWd.2.1 hbi).1 (hWd.2.1 hbi).2) (by
    rintro _ w' ⟨rfl, hR', hb', k'⟩
    exact el_nil ⟨_, rfl, rfl, k', ⟨k'.blk hWd.1.1 (by simp; omega), k'.blk hWd.1.2 (by simp; omega)⟩, (fun h => by cases h), fun _ => ⟨hR', hb'⟩⟩), ?_⟩
  refine ⟨pureD rfl (fun _ _ => rfl) (fun _ _ h => h), ?_⟩
  trivial
  intro b V w3 hall k3 hWd hV
  obtain ⟨hR3, hb3⟩ := hWd.2.2 (hall 4 (by decide))
  exact ew_ret (ret_1 E rfl rfl rfl rfl ⟨rfl, hR3, hb3, k3⟩)
theorem part_o2 (rb ob gr wb : Nat) (cs : Array Value) (hcs : cs.size = 11) (all : List UInt8) (a : Nat) (w : World) (hC : Caps rb ob gr wb 0 120 cs w) (hR : IsR w gr all a 0) :
    Fn Try.prog 69 [.pointer (some ⟨rb, 0, none⟩), .pointer (some ⟨ob, 0, none⟩)] w fun r w' => r = .int .i64 (rdN all a 0 2147483647).2.1 ∧ IsR w' gr all (rdN all a 0 2147483647).2.2.1 (rdN all a 0 2147483647).2.2.2 ∧ Blk w' wb 48 (setL cs 1 [.int .i64 (rdN all a 0 2147483647).1]) ∧ Keep [gr, wb] w w' := by
  obtain ⟨hrb, hob, hwb⟩ := hC
  have h1 : rb ≠ gr := hR.ne hrb (by decide)
  have h2 : ob ≠ gr := hR.ne hob (by decide)
  have h3 : rb ≠ wb := Blk.ne hrb hwb (by decide)
  have h4 : ob ≠ wb := Blk.ne hob hwb (by decide)
  obtain ⟨⟨x, e, a', f'⟩, hS⟩ : ∃ s, rdN all a 0 2147483647 = s := ⟨_, rfl⟩
  have hspec := fun (w : World) (hR : IsR w gr all a 0) (hb : Blk w wb 48 cs) => onum_i64 gr wb 1 48 cs all a 0 2147483647 w hR rfl hb (by decide) (by decide) (by omega)
  rw [hS] at hspec
  rw [hS]
  dsimp only at hspec ⊢
  let E : Value := .int .i64 e
  refine fn_enter Try.func69 rfl rfl ?_
  refine es rfl ?_
  refine ew_seq ?_
  refine ew_draw follows [.known (.pointer (some ⟨gr, 0, none⟩)), .known (.pointer (some ⟨wb, 0, none⟩)), .known (.pointer (some ⟨wb, 0, none⟩)), .known (.pointer (some ⟨wb, 1, none⟩)), .known E, .known E] [gr, wb]
    (fun b w => (Blk w rb 76 #[.pointer (some ⟨gr, 0, none⟩)] ∧ Blk w ob 120 #[.pointer (some ⟨wb, 0, none⟩)]) ∧ ((b 4 = false → IsR w gr all a 0 ∧ Blk w wb 48 cs) ∧ (b 4 = true → IsR w gr all a' f' ∧ Blk w wb 48 (setL cs 1 [.int .i64 x])))) rfl (stable_known _ rfl) ⟨⟨hrb, hob⟩, fun _ => ⟨hR.keep0 (Keep.drew w), hwb⟩, fun h => by cases h⟩ ?_ ?_
  refine ⟨fun b V ρ w hk hbi hd hu hWd hV => el_loadb rfl rfl rfl rfl rfl hWd.1.1 rfl (el_nil ⟨_, rfl, rfl, Keep.refl _ _, hWd⟩), ?_⟩
  refine ⟨fun b V ρ w hk hbi hd hu hWd hV => el_loadb rfl rfl rfl rfl rfl hWd.1.2 rfl (el_nil ⟨_, rfl, rfl, Keep.refl _ _, hWd⟩), ?_⟩
  refine ⟨pureD rfl (fun _ _ => rfl) (fun _ _ h => h), ?_⟩
  refine ⟨pureD rfl (fun _ _ => rfl) (fun _ _ h => h), ?_⟩
  refine ⟨fun b V ρ w hk hbi hd hu hWd hV => el_call rfl rfl rfl rfl rfl rfl (hspec w (hWd.2.1 hbi).1 (hWd.2.1 hbi).2) (by
    rintro _ w' ⟨rfl, hR', hb', k'⟩
    exact el_nil ⟨_, rfl, rfl, k', ⟨k'.blk hWd.1.1 (by simp; omega), k'.blk hWd.1.2 (by simp; omega)⟩, (fun h => by cases h), fun _ => ⟨hR', hb'⟩⟩), ?_⟩
  refine ⟨pureD rfl (fun _ _ => rfl) (fun _ _ h => h), ?_⟩
  trivial
  intro b V w3 hall k3 hWd hV
  obtain ⟨hR3, hb3⟩ := hWd.2.2 (hall 4 (by decide))
  exact ew_ret (ret_1 E rfl rfl rfl rfl ⟨rfl, hR3, hb3, k3⟩)
theorem part_o3 (rb ob gr wb : Nat) (cs : Array Value) (hcs : cs.size = 11) (all : List UInt8) (a : Nat) (w : World) (hC : Caps rb ob gr wb 0 120 cs w) (hR : IsR w gr all a 0) :
    Fn Try.prog 71 [.pointer (some ⟨rb, 0, none⟩), .pointer (some ⟨ob, 0, none⟩)] w fun r w' => r = .int .i64 (rdN all a 0 2147483647).2.1 ∧ IsR w' gr all (rdN all a 0 2147483647).2.2.1 (rdN all a 0 2147483647).2.2.2 ∧ Blk w' wb 48 (setL cs 2 [.int .i64 (rdN all a 0 2147483647).1]) ∧ Keep [gr, wb] w w' := by
  obtain ⟨hrb, hob, hwb⟩ := hC
  have h1 : rb ≠ gr := hR.ne hrb (by decide)
  have h2 : ob ≠ gr := hR.ne hob (by decide)
  have h3 : rb ≠ wb := Blk.ne hrb hwb (by decide)
  have h4 : ob ≠ wb := Blk.ne hob hwb (by decide)
  obtain ⟨⟨x, e, a', f'⟩, hS⟩ : ∃ s, rdN all a 0 2147483647 = s := ⟨_, rfl⟩
  have hspec := fun (w : World) (hR : IsR w gr all a 0) (hb : Blk w wb 48 cs) => onum_i64 gr wb 2 48 cs all a 0 2147483647 w hR rfl hb (by decide) (by decide) (by omega)
  rw [hS] at hspec
  rw [hS]
  dsimp only at hspec ⊢
  let E : Value := .int .i64 e
  refine fn_enter Try.func71 rfl rfl ?_
  refine es rfl ?_
  refine ew_seq ?_
  refine ew_draw follows [.known (.pointer (some ⟨gr, 0, none⟩)), .known (.pointer (some ⟨wb, 0, none⟩)), .known (.pointer (some ⟨wb, 0, none⟩)), .known (.pointer (some ⟨wb, 2, none⟩)), .known E, .known E] [gr, wb]
    (fun b w => (Blk w rb 76 #[.pointer (some ⟨gr, 0, none⟩)] ∧ Blk w ob 120 #[.pointer (some ⟨wb, 0, none⟩)]) ∧ ((b 4 = false → IsR w gr all a 0 ∧ Blk w wb 48 cs) ∧ (b 4 = true → IsR w gr all a' f' ∧ Blk w wb 48 (setL cs 2 [.int .i64 x])))) rfl (stable_known _ rfl) ⟨⟨hrb, hob⟩, fun _ => ⟨hR.keep0 (Keep.drew w), hwb⟩, fun h => by cases h⟩ ?_ ?_
  refine ⟨fun b V ρ w hk hbi hd hu hWd hV => el_loadb rfl rfl rfl rfl rfl hWd.1.1 rfl (el_nil ⟨_, rfl, rfl, Keep.refl _ _, hWd⟩), ?_⟩
  refine ⟨fun b V ρ w hk hbi hd hu hWd hV => el_loadb rfl rfl rfl rfl rfl hWd.1.2 rfl (el_nil ⟨_, rfl, rfl, Keep.refl _ _, hWd⟩), ?_⟩
  refine ⟨pureD rfl (fun _ _ => rfl) (fun _ _ h => h), ?_⟩
  refine ⟨pureD rfl (fun _ _ => rfl) (fun _ _ h => h), ?_⟩
  refine ⟨fun b V ρ w hk hbi hd hu hWd hV => el_call rfl rfl rfl rfl rfl rfl (hspec w (hWd.2.1 hbi).1 (hWd.2.1 hbi).2) (by
    rintro _ w' ⟨rfl, hR', hb', k'⟩
    exact el_nil ⟨_, rfl, rfl, k', ⟨k'.blk hWd.1.1 (by simp; omega), k'.blk hWd.1.2 (by simp; omega)⟩, (fun h => by cases h), fun _ => ⟨hR', hb'⟩⟩), ?_⟩
  refine ⟨pureD rfl (fun _ _ => rfl) (fun _ _ h => h), ?_⟩
  trivial
  intro b V w3 hall k3 hWd hV
  obtain ⟨hR3, hb3⟩ := hWd.2.2 (hall 4 (by decide))
  exact ew_ret (ret_1 E rfl rfl rfl rfl ⟨rfl, hR3, hb3, k3⟩)
theorem part_t1 (rb ob gr wb : Nat) (cs : Array Value) (hcs : cs.size = 11) (all : List UInt8) (a : Nat) (w : World) (hC : Caps rb ob gr wb 5 126 cs w) (hR : IsR w gr all a 0) :
    Fn Try.prog 76 [.pointer (some ⟨rb, 0, none⟩), .pointer (some ⟨ob, 0, none⟩)] w fun r w' => r = .int .i64 (rdN all a 0 63).2.1 ∧ IsR w' gr all (rdN all a 0 63).2.2.1 (rdN all a 0 63).2.2.2 ∧ Blk w' wb 48 (setL cs 5 [.int .i64 (rdN all a 0 63).1]) ∧ Keep [gr, wb] w w' := by
  obtain ⟨hrb, hob, hwb⟩ := hC
  have h1 : rb ≠ gr := hR.ne hrb (by decide)
  have h2 : ob ≠ gr := hR.ne hob (by decide)
  have h3 : rb ≠ wb := Blk.ne hrb hwb (by decide)
  have h4 : ob ≠ wb := Blk.ne hob hwb (by decide)
  obtain ⟨⟨x, e, a', f'⟩, hS⟩ : ∃ s, rdN all a 0 63 = s := ⟨_, rfl⟩
  have hspec := fun (w : World) (hR : IsR w gr all a 0) (hb : Blk w wb 48 cs) => onum_int gr wb 5 48 cs all a 0 63 w hR rfl hb (by decide) (by decide) (by omega)
  rw [hS] at hspec
  rw [hS]
  dsimp only at hspec ⊢
  let E : Value := .int .i64 e
  refine fn_enter Try.func76 rfl rfl ?_
  refine es rfl ?_
  refine ew_seq ?_
  refine ew_draw follows [.known (.pointer (some ⟨gr, 0, none⟩)), .known (.pointer (some ⟨wb, 5, none⟩)), .known (.pointer (some ⟨wb, 5, none⟩)), .known (.pointer (some ⟨wb, 5, none⟩)), .known E, .known E] [gr, wb]
    (fun b w => (Blk w rb 76 #[.pointer (some ⟨gr, 0, none⟩)] ∧ Blk w ob 126 #[.pointer (some ⟨wb, 5, none⟩)]) ∧ ((b 4 = false → IsR w gr all a 0 ∧ Blk w wb 48 cs) ∧ (b 4 = true → IsR w gr all a' f' ∧ Blk w wb 48 (setL cs 5 [.int .i64 x])))) rfl (stable_known _ rfl) ⟨⟨hrb, hob⟩, fun _ => ⟨hR.keep0 (Keep.drew w), hwb⟩, fun h => by cases h⟩ ?_ ?_
  refine ⟨fun b V ρ w hk hbi hd hu hWd hV => el_loadb rfl rfl rfl rfl rfl hWd.1.1 rfl (el_nil ⟨_, rfl, rfl, Keep.refl _ _, hWd⟩), ?_⟩
  refine ⟨fun b V ρ w hk hbi hd hu hWd hV => el_loadb rfl rfl rfl rfl rfl hWd.1.2 rfl (el_nil ⟨_, rfl, rfl, Keep.refl _ _, hWd⟩), ?_⟩
  refine ⟨pureD rfl (fun _ _ => rfl) (fun _ _ h => h), ?_⟩
  refine ⟨pureD rfl (fun _ _ => rfl) (fun _ _ h => h), ?_⟩
  refine ⟨fun b V ρ w hk hbi hd hu hWd hV => el_call rfl rfl rfl rfl rfl rfl (hspec w (hWd.2.1 hbi).1 (hWd.2.1 hbi).2) (by
    rintro _ w' ⟨rfl, hR', hb', k'⟩
    exact el_nil ⟨_, rfl, rfl, k', ⟨k'.blk hWd.1.1 (by simp; omega), k'.blk hWd.1.2 (by simp; omega)⟩, (fun h => by cases h), fun _ => ⟨hR', hb'⟩⟩), ?_⟩
  refine ⟨pureD rfl (fun _ _ => rfl) (fun _ _ h => h), ?_⟩
  trivial
  intro b V w3 hall k3 hWd hV
  obtain ⟨hR3, hb3⟩ := hWd.2.2 (hall 4 (by decide))
  exact ew_ret (ret_1 E rfl rfl rfl rfl ⟨rfl, hR3, hb3, k3⟩)
theorem part_t2 (rb ob gr wb : Nat) (cs : Array Value) (hcs : cs.size = 11) (all : List UInt8) (a : Nat) (w : World) (hC : Caps rb ob gr wb 5 126 cs w) (hR : IsR w gr all a 0) :
    Fn Try.prog 78 [.pointer (some ⟨rb, 0, none⟩), .pointer (some ⟨ob, 0, none⟩)] w fun r w' => r = .int .i64 (rdN all a 0 4).2.1 ∧ IsR w' gr all (rdN all a 0 4).2.2.1 (rdN all a 0 4).2.2.2 ∧ Blk w' wb 48 (setL cs 6 [.int .i64 (rdN all a 0 4).1]) ∧ Keep [gr, wb] w w' := by
  obtain ⟨hrb, hob, hwb⟩ := hC
  have h1 : rb ≠ gr := hR.ne hrb (by decide)
  have h2 : ob ≠ gr := hR.ne hob (by decide)
  have h3 : rb ≠ wb := Blk.ne hrb hwb (by decide)
  have h4 : ob ≠ wb := Blk.ne hob hwb (by decide)
  obtain ⟨⟨x, e, a', f'⟩, hS⟩ : ∃ s, rdN all a 0 4 = s := ⟨_, rfl⟩
  have hspec := fun (w : World) (hR : IsR w gr all a 0) (hb : Blk w wb 48 cs) => onum_rkind gr wb 6 48 cs all a 0 4 w hR rfl hb (by decide) (by decide) (by omega)
  rw [hS] at hspec
  rw [hS]
  dsimp only at hspec ⊢
  let E : Value := .int .i64 e
  refine fn_enter Try.func78 rfl rfl ?_
  refine es rfl ?_
  refine ew_seq ?_
  refine ew_draw follows [.known (.pointer (some ⟨gr, 0, none⟩)), .known (.pointer (some ⟨wb, 5, none⟩)), .known (.pointer (some ⟨wb, 5, none⟩)), .known (.pointer (some ⟨wb, 6, none⟩)), .known (.pointer (some ⟨wb, 6, none⟩)), .known E, .known E] [gr, wb]
    (fun b w => (Blk w rb 76 #[.pointer (some ⟨gr, 0, none⟩)] ∧ Blk w ob 126 #[.pointer (some ⟨wb, 5, none⟩)]) ∧ ((b 5 = false → IsR w gr all a 0 ∧ Blk w wb 48 cs) ∧ (b 5 = true → IsR w gr all a' f' ∧ Blk w wb 48 (setL cs 6 [.int .i64 x])))) rfl (stable_known _ rfl) ⟨⟨hrb, hob⟩, fun _ => ⟨hR.keep0 (Keep.drew w), hwb⟩, fun h => by cases h⟩ ?_ ?_
  refine ⟨fun b V ρ w hk hbi hd hu hWd hV => el_loadb rfl rfl rfl rfl rfl hWd.1.1 rfl (el_nil ⟨_, rfl, rfl, Keep.refl _ _, hWd⟩), ?_⟩
  refine ⟨fun b V ρ w hk hbi hd hu hWd hV => el_loadb rfl rfl rfl rfl rfl hWd.1.2 rfl (el_nil ⟨_, rfl, rfl, Keep.refl _ _, hWd⟩), ?_⟩
  refine ⟨pureD rfl (fun _ _ => rfl) (fun _ _ h => h), ?_⟩
  refine ⟨pureD rfl (fun _ _ => rfl) (fun _ _ h => h), ?_⟩
  refine ⟨pureD rfl (fun _ _ => rfl) (fun _ _ h => h), ?_⟩
  refine ⟨fun b V ρ w hk hbi hd hu hWd hV => el_call rfl rfl rfl rfl rfl rfl (hspec w (hWd.2.1 hbi).1 (hWd.2.1 hbi).2) (by
    rintro _ w' ⟨rfl, hR', hb', k'⟩
    exact el_nil ⟨_, rfl, rfl, k', ⟨k'.blk hWd.1.1 (by simp; omega), k'.blk hWd.1.2 (by simp; omega)⟩, (fun h => by cases h), fun _ => ⟨hR', hb'⟩⟩), ?_⟩
  refine ⟨pureD rfl (fun _ _ => rfl) (fun _ _ h => h), ?_⟩
  trivial
  intro b V w3 hall k3 hWd hV
  obtain ⟨hR3, hb3⟩ := hWd.2.2 (hall 5 (by decide))
  exact ew_ret (ret_1 E rfl rfl rfl rfl ⟨rfl, hR3, hb3, k3⟩)
theorem part_t3 (rb ob gr wb : Nat) (cs : Array Value) (hcs : cs.size = 11) (all : List UInt8) (a : Nat) (w : World) (hC : Caps rb ob gr wb 5 126 cs w) (hR : IsR w gr all a 0) :
    Fn Try.prog 80 [.pointer (some ⟨rb, 0, none⟩), .pointer (some ⟨ob, 0, none⟩)] w fun r w' => r = .int .i64 (rdN all a 0 2147483647).2.1 ∧ IsR w' gr all (rdN all a 0 2147483647).2.2.1 (rdN all a 0 2147483647).2.2.2 ∧ Blk w' wb 48 (setL cs 7 [.int .i64 (rdN all a 0 2147483647).1]) ∧ Keep [gr, wb] w w' := by
  obtain ⟨hrb, hob, hwb⟩ := hC
  have h1 : rb ≠ gr := hR.ne hrb (by decide)
  have h2 : ob ≠ gr := hR.ne hob (by decide)
  have h3 : rb ≠ wb := Blk.ne hrb hwb (by decide)
  have h4 : ob ≠ wb := Blk.ne hob hwb (by decide)
  obtain ⟨⟨x, e, a', f'⟩, hS⟩ : ∃ s, rdN all a 0 2147483647 = s := ⟨_, rfl⟩
  have hspec := fun (w : World) (hR : IsR w gr all a 0) (hb : Blk w wb 48 cs) => onum_i64 gr wb 7 48 cs all a 0 2147483647 w hR rfl hb (by decide) (by decide) (by omega)
  rw [hS] at hspec
  rw [hS]
  dsimp only at hspec ⊢
  let E : Value := .int .i64 e
  refine fn_enter Try.func80 rfl rfl ?_
  refine es rfl ?_
  refine ew_seq ?_
  refine ew_draw follows [.known (.pointer (some ⟨gr, 0, none⟩)), .known (.pointer (some ⟨wb, 5, none⟩)), .known (.pointer (some ⟨wb, 5, none⟩)), .known (.pointer (some ⟨wb, 6, none⟩)), .known (.pointer (some ⟨wb, 7, none⟩)), .known E, .known E] [gr, wb]
    (fun b w => (Blk w rb 76 #[.pointer (some ⟨gr, 0, none⟩)] ∧ Blk w ob 126 #[.pointer (some ⟨wb, 5, none⟩)]) ∧ ((b 5 = false → IsR w gr all a 0 ∧ Blk w wb 48 cs) ∧ (b 5 = true → IsR w gr all a' f' ∧ Blk w wb 48 (setL cs 7 [.int .i64 x])))) rfl (stable_known _ rfl) ⟨⟨hrb, hob⟩, fun _ => ⟨hR.keep0 (Keep.drew w), hwb⟩, fun h => by cases h⟩ ?_ ?_
  refine ⟨fun b V ρ w hk hbi hd hu hWd hV => el_loadb rfl rfl rfl rfl rfl hWd.1.1 rfl (el_nil ⟨_, rfl, rfl, Keep.refl _ _, hWd⟩), ?_⟩
  refine ⟨fun b V ρ w hk hbi hd hu hWd hV => el_loadb rfl rfl rfl rfl rfl hWd.1.2 rfl (el_nil ⟨_, rfl, rfl, Keep.refl _ _, hWd⟩), ?_⟩
  refine ⟨pureD rfl (fun _ _ => rfl) (fun _ _ h => h), ?_⟩
  refine ⟨pureD rfl (fun _ _ => rfl) (fun _ _ h => h), ?_⟩
  refine ⟨pureD rfl (fun _ _ => rfl) (fun _ _ h => h), ?_⟩
  refine ⟨fun b V ρ w hk hbi hd hu hWd hV => el_call rfl rfl rfl rfl rfl rfl (hspec w (hWd.2.1 hbi).1 (hWd.2.1 hbi).2) (by
    rintro _ w' ⟨rfl, hR', hb', k'⟩
    exact el_nil ⟨_, rfl, rfl, k', ⟨k'.blk hWd.1.1 (by simp; omega), k'.blk hWd.1.2 (by simp; omega)⟩, (fun h => by cases h), fun _ => ⟨hR', hb'⟩⟩), ?_⟩
  refine ⟨pureD rfl (fun _ _ => rfl) (fun _ _ h => h), ?_⟩
  trivial
  intro b V w3 hall k3 hWd hV
  obtain ⟨hR3, hb3⟩ := hWd.2.2 (hall 5 (by decide))
  exact ew_ret (ret_1 E rfl rfl rfl rfl ⟨rfl, hR3, hb3, k3⟩)
theorem part_t4 (rb ob gr wb : Nat) (cs : Array Value) (hcs : cs.size = 11) (all : List UInt8) (a : Nat) (w : World) (hC : Caps rb ob gr wb 5 126 cs w) (hR : IsR w gr all a 0) :
    Fn Try.prog 81 [.pointer (some ⟨rb, 0, none⟩), .pointer (some ⟨ob, 0, none⟩)] w fun r w' => r = .int .i64 (rdN all a 0 2147483647).2.1 ∧ IsR w' gr all (rdN all a 0 2147483647).2.2.1 (rdN all a 0 2147483647).2.2.2 ∧ Blk w' wb 48 (setL cs 8 [.int .i64 (rdN all a 0 2147483647).1]) ∧ Keep [gr, wb] w w' := by
  obtain ⟨hrb, hob, hwb⟩ := hC
  have h1 : rb ≠ gr := hR.ne hrb (by decide)
  have h2 : ob ≠ gr := hR.ne hob (by decide)
  have h3 : rb ≠ wb := Blk.ne hrb hwb (by decide)
  have h4 : ob ≠ wb := Blk.ne hob hwb (by decide)
  obtain ⟨⟨x, e, a', f'⟩, hS⟩ : ∃ s, rdN all a 0 2147483647 = s := ⟨_, rfl⟩
  have hspec := fun (w : World) (hR : IsR w gr all a 0) (hb : Blk w wb 48 cs) => onum_i64 gr wb 8 48 cs all a 0 2147483647 w hR rfl hb (by decide) (by decide) (by omega)
  rw [hS] at hspec
  rw [hS]
  dsimp only at hspec ⊢
  let E : Value := .int .i64 e
  refine fn_enter Try.func81 rfl rfl ?_
  refine es rfl ?_
  refine ew_seq ?_
  refine ew_draw follows [.known (.pointer (some ⟨gr, 0, none⟩)), .known (.pointer (some ⟨wb, 5, none⟩)), .known (.pointer (some ⟨wb, 5, none⟩)), .known (.pointer (some ⟨wb, 6, none⟩)), .known (.pointer (some ⟨wb, 8, none⟩)), .known E, .known E] [gr, wb]
    (fun b w => (Blk w rb 76 #[.pointer (some ⟨gr, 0, none⟩)] ∧ Blk w ob 126 #[.pointer (some ⟨wb, 5, none⟩)]) ∧ ((b 5 = false → IsR w gr all a 0 ∧ Blk w wb 48 cs) ∧ (b 5 = true → IsR w gr all a' f' ∧ Blk w wb 48 (setL cs 8 [.int .i64 x])))) rfl (stable_known _ rfl) ⟨⟨hrb, hob⟩, fun _ => ⟨hR.keep0 (Keep.drew w), hwb⟩, fun h => by cases h⟩ ?_ ?_
  refine ⟨fun b V ρ w hk hbi hd hu hWd hV => el_loadb rfl rfl rfl rfl rfl hWd.1.1 rfl (el_nil ⟨_, rfl, rfl, Keep.refl _ _, hWd⟩), ?_⟩
  refine ⟨fun b V ρ w hk hbi hd hu hWd hV => el_loadb rfl rfl rfl rfl rfl hWd.1.2 rfl (el_nil ⟨_, rfl, rfl, Keep.refl _ _, hWd⟩), ?_⟩
  refine ⟨pureD rfl (fun _ _ => rfl) (fun _ _ h => h), ?_⟩
  refine ⟨pureD rfl (fun _ _ => rfl) (fun _ _ h => h), ?_⟩
  refine ⟨pureD rfl (fun _ _ => rfl) (fun _ _ h => h), ?_⟩
  refine ⟨fun b V ρ w hk hbi hd hu hWd hV => el_call rfl rfl rfl rfl rfl rfl (hspec w (hWd.2.1 hbi).1 (hWd.2.1 hbi).2) (by
    rintro _ w' ⟨rfl, hR', hb', k'⟩
    exact el_nil ⟨_, rfl, rfl, k', ⟨k'.blk hWd.1.1 (by simp; omega), k'.blk hWd.1.2 (by simp; omega)⟩, (fun h => by cases h), fun _ => ⟨hR', hb'⟩⟩), ?_⟩
  refine ⟨pureD rfl (fun _ _ => rfl) (fun _ _ h => h), ?_⟩
  trivial
  intro b V w3 hall k3 hWd hV
  obtain ⟨hR3, hb3⟩ := hWd.2.2 (hall 5 (by decide))
  exact ew_ret (ret_1 E rfl rfl rfl rfl ⟨rfl, hR3, hb3, k3⟩)
theorem part_t5 (rb ob gr wb : Nat) (cs : Array Value) (hcs : cs.size = 11) (all : List UInt8) (a : Nat) (w : World) (hC : Caps rb ob gr wb 5 126 cs w) (hR : IsR w gr all a 0) :
    Fn Try.prog 82 [.pointer (some ⟨rb, 0, none⟩), .pointer (some ⟨ob, 0, none⟩)] w fun r w' => r = .int .i64 (rdN all a 0 2147483647).2.1 ∧ IsR w' gr all (rdN all a 0 2147483647).2.2.1 (rdN all a 0 2147483647).2.2.2 ∧ Blk w' wb 48 (setL cs 9 [.int .i64 (rdN all a 0 2147483647).1]) ∧ Keep [gr, wb] w w' := by
  obtain ⟨hrb, hob, hwb⟩ := hC
  have h1 : rb ≠ gr := hR.ne hrb (by decide)
  have h2 : ob ≠ gr := hR.ne hob (by decide)
  have h3 : rb ≠ wb := Blk.ne hrb hwb (by decide)
  have h4 : ob ≠ wb := Blk.ne hob hwb (by decide)
  obtain ⟨⟨x, e, a', f'⟩, hS⟩ : ∃ s, rdN all a 0 2147483647 = s := ⟨_, rfl⟩
  have hspec := fun (w : World) (hR : IsR w gr all a 0) (hb : Blk w wb 48 cs) => onum_i64 gr wb 9 48 cs all a 0 2147483647 w hR rfl hb (by decide) (by decide) (by omega)
  rw [hS] at hspec
  rw [hS]
  dsimp only at hspec ⊢
  let E : Value := .int .i64 e
  refine fn_enter Try.func82 rfl rfl ?_
  refine es rfl ?_
  refine ew_seq ?_
  refine ew_draw follows [.known (.pointer (some ⟨gr, 0, none⟩)), .known (.pointer (some ⟨wb, 5, none⟩)), .known (.pointer (some ⟨wb, 5, none⟩)), .known (.pointer (some ⟨wb, 6, none⟩)), .known (.pointer (some ⟨wb, 9, none⟩)), .known E, .known E] [gr, wb]
    (fun b w => (Blk w rb 76 #[.pointer (some ⟨gr, 0, none⟩)] ∧ Blk w ob 126 #[.pointer (some ⟨wb, 5, none⟩)]) ∧ ((b 5 = false → IsR w gr all a 0 ∧ Blk w wb 48 cs) ∧ (b 5 = true → IsR w gr all a' f' ∧ Blk w wb 48 (setL cs 9 [.int .i64 x])))) rfl (stable_known _ rfl) ⟨⟨hrb, hob⟩, fun _ => ⟨hR.keep0 (Keep.drew w), hwb⟩, fun h => by cases h⟩ ?_ ?_
  refine ⟨fun b V ρ w hk hbi hd hu hWd hV => el_loadb rfl rfl rfl rfl rfl hWd.1.1 rfl (el_nil ⟨_, rfl, rfl, Keep.refl _ _, hWd⟩), ?_⟩
  refine ⟨fun b V ρ w hk hbi hd hu hWd hV => el_loadb rfl rfl rfl rfl rfl hWd.1.2 rfl (el_nil ⟨_, rfl, rfl, Keep.refl _ _, hWd⟩), ?_⟩
  refine ⟨pureD rfl (fun _ _ => rfl) (fun _ _ h => h), ?_⟩
  refine ⟨pureD rfl (fun _ _ => rfl) (fun _ _ h => h), ?_⟩
  refine ⟨pureD rfl (fun _ _ => rfl) (fun _ _ h => h), ?_⟩
  refine ⟨fun b V ρ w hk hbi hd hu hWd hV => el_call rfl rfl rfl rfl rfl rfl (hspec w (hWd.2.1 hbi).1 (hWd.2.1 hbi).2) (by
    rintro _ w' ⟨rfl, hR', hb', k'⟩
    exact el_nil ⟨_, rfl, rfl, k', ⟨k'.blk hWd.1.1 (by simp; omega), k'.blk hWd.1.2 (by simp; omega)⟩, (fun h => by cases h), fun _ => ⟨hR', hb'⟩⟩), ?_⟩
  refine ⟨pureD rfl (fun _ _ => rfl) (fun _ _ h => h), ?_⟩
  trivial
  intro b V w3 hall k3 hWd hV
  obtain ⟨hR3, hb3⟩ := hWd.2.2 (hall 5 (by decide))
  exact ew_ret (ret_1 E rfl rfl rfl rfl ⟨rfl, hR3, hb3, k3⟩)
end Go.Proofs.Ytpdgfekimnmdnaa
/- Orders: the last parts: a version or a bundle; a truth. -/
set_option linter.unusedVariables false
set_option linter.unusedSimpArgs false
namespace Go.Proofs.Ytpdgfekimnmdnaa
open Go.RowKit
set_option maxRecDepth 20000

theorem part_o4a (rb ob gr wb : Nat) (cs : Array Value) (hcs : cs.size = 11) (hk0 : cs[0]? = some (.int .i64 2)) (all : List UInt8) (a : Nat) (w : World) (hC : Caps rb ob gr wb 0 120 cs w) (hR : IsR w gr all a 0) :
    Fn Try.prog 72 [.pointer (some ⟨ob, 0, none⟩), .pointer (some ⟨rb, 0, none⟩)] w fun r w' => r = .int .i64 (rdN all a 0 2147483647).2.1 ∧ IsR w' gr all (rdN all a 0 2147483647).2.2.1 (rdN all a 0 2147483647).2.2.2 ∧ Blk w' wb 48 (setL cs 3 [.int .i64 (rdN all a 0 2147483647).1]) ∧ Keep [gr, wb] w w' := by
  obtain ⟨hrb, hob, hwb⟩ := hC
  have h1 : rb ≠ gr := hR.ne hrb (by decide)
  have h2 : ob ≠ gr := hR.ne hob (by decide)
  have h3 : rb ≠ wb := Blk.ne hrb hwb (by decide)
  have h4 : ob ≠ wb := Blk.ne hob hwb (by decide)
  obtain ⟨⟨x, e, a', f'⟩, hS⟩ : ∃ s, rdN all a 0 2147483647 = s := ⟨_, rfl⟩
  have hspec := fun (w : World) (hR : IsR w gr all a 0) (hb : Blk w wb 48 cs) => onum_i64 gr wb 3 48 cs all a 0 2147483647 w hR rfl hb (by decide) (by decide) (by omega)
  rw [hS] at hspec
  rw [hS]
  dsimp only at hspec ⊢
  let E : Value := .int .i64 e
  refine fn_enter Try.func72 rfl rfl ?_
  refine es rfl ?_
  refine ew_seq (sp rfl ?_)
  refine el_loadb rfl rfl rfl rfl rfl hob rfl ?_
  refine pp rfl ?_
  refine el_loadb rfl rfl rfl rfl rfl hwb hk0 ?_
  refine ep rfl ?_
  refine ew_cond_t rfl rfl ?_
  refine ew_seq ?_
  refine ew_draw follows [.known (.pointer (some ⟨gr, 0, none⟩)), .known (.pointer (some ⟨wb, 0, none⟩)), .known (.pointer (some ⟨wb, 0, none⟩)), .known (.pointer (some ⟨wb, 3, none⟩)), .known E, .known E] [gr, wb]
    (fun b w => (Blk w rb 76 #[.pointer (some ⟨gr, 0, none⟩)] ∧ Blk w ob 120 #[.pointer (some ⟨wb, 0, none⟩)]) ∧ ((b 4 = false → IsR w gr all a 0 ∧ Blk w wb 48 cs) ∧ (b 4 = true → IsR w gr all a' f' ∧ Blk w wb 48 (setL cs 3 [.int .i64 x])))) rfl (stable_known _ rfl) ⟨⟨hrb, hob⟩, fun _ => ⟨hR.keep0 (Keep.drew w), hwb⟩, fun h => by cases h⟩ ?_ ?_
  refine ⟨fun b V ρ w hk hbi hd hu hWd hV => el_loadb rfl rfl rfl rfl rfl hWd.1.1 rfl (el_nil ⟨_, rfl, rfl, Keep.refl _ _, hWd⟩), ?_⟩
  refine ⟨fun b V ρ w hk hbi hd hu hWd hV => el_loadb rfl rfl rfl rfl rfl hWd.1.2 rfl (el_nil ⟨_, rfl, rfl, Keep.refl _ _, hWd⟩), ?_⟩
  refine ⟨pureD rfl (fun _ _ => rfl) (fun _ _ h => h), ?_⟩
  refine ⟨pureD rfl (fun _ _ => rfl) (fun _ _ h => h), ?_⟩
  refine ⟨fun b V ρ w hk hbi hd hu hWd hV => el_call rfl rfl rfl rfl rfl rfl (hspec w (hWd.2.1 hbi).1 (hWd.2.1 hbi).2) (by
    rintro _ w' ⟨rfl, hR', hb', k'⟩
    exact el_nil ⟨_, rfl, rfl, k', ⟨k'.blk hWd.1.1 (by simp; omega), k'.blk hWd.1.2 (by simp; omega)⟩, (fun h => by cases h), fun _ => ⟨hR', hb'⟩⟩), ?_⟩
  refine ⟨pureD rfl (fun _ _ => rfl) (fun _ _ h => h), ?_⟩
  trivial
  intro b V w3 hall k3 hWd hV
  obtain ⟨hR3, hb3⟩ := hWd.2.2 (hall 4 (by decide))
  exact ew_ret (ret_1 E rfl rfl rfl rfl ⟨rfl, hR3, hb3, k3⟩)

/-- What holds while a bundle is taken. -/
def BunG (rb ob gr wb : Nat) (cs : Array Value) (all : List UInt8) (a : Nat) (bs : List UInt8) (e : Int) (a' : Nat) (f' : Int) (w0 : World) (b : Nat → Bool) (V : Nat → Value) (w : World) : Prop :=
  Keep [gr, wb] w0 w ∧ (Blk w rb 76 #[.pointer (some ⟨gr, 0, none⟩)] ∧ Blk w ob 120 #[.pointer (some ⟨wb, 0, none⟩)]) ∧ (b 2 = false → IsR w gr all a 0 ∧ Blk w wb 48 cs) ∧
  (b 2 = true → ∃ ad cap, V 2 = .tuple #[.slice ad bs.length cap, .int .i64 e] ∧ OwnB 5 w w0.heap.size (.slice ad bs.length cap) bs ∧ IsR w gr all a' f' ∧ (b 8 = false → Blk w wb 48 cs) ∧ (b 8 = true → Blk w wb 48 (setL cs 4 [.slice ad bs.length cap])) ∧ (b 4 = true → V 4 = .slice ad bs.length cap)) ∧
  (b 3 = true → b 2 = true ∧ V 3 = V 2) ∧ (b 4 = true → b 2 = true)
theorem part_o4b (rb ob gr wb : Nat) (cs : Array Value) (hcs : cs.size = 11) (k : Int) (hk0 : cs[0]? = some (.int .i64 k)) (hk2 : k ≠ 2) (all : List UInt8) (a : Nat) (w : World) (hC : Caps rb ob gr wb 0 120 cs w) (hR : IsR w gr all a 0) :
    Fn Try.prog 72 [.pointer (some ⟨ob, 0, none⟩), .pointer (some ⟨rb, 0, none⟩)] w fun r w' => ∃ x, r = .int .i64 (rdY all a 0 80000).2.1 ∧ OwnB 5 w' w.heap.size x (rdY all a 0 80000).1 ∧ IsR w' gr all (rdY all a 0 80000).2.2.1 (rdY all a 0 80000).2.2.2 ∧ Blk w' wb 48 (setL cs 4 [x]) ∧ Keep [gr, wb] w w' := by
  obtain ⟨hrb, hob, hwb⟩ := hC
  have h1 : rb ≠ gr := hR.ne hrb (by decide)
  have h2 : ob ≠ gr := hR.ne hob (by decide)
  have h3 : rb ≠ wb := Blk.ne hrb hwb (by decide)
  have h4 : ob ≠ wb := Blk.ne hob hwb (by decide)
  have h5 : wb ≠ gr := hR.ne hwb (by decide)
  obtain ⟨⟨bs, e, a', f'⟩, hS⟩ : ∃ s, rdY all a 0 80000 = s := ⟨_, rfl⟩
  have hspec := fun (w : World) (hR : IsR w gr all a 0) => rbytes_ok gr all a 0 80000 w hR
  have hS' : (rdStep [] all a 0 (decide ((80000 : Int) ≥ 0)) fun l => bytesR l 80000) = (bs, e, a', f') := hS
  rw [hS'] at hspec
  rw [hS]
  dsimp only at hspec ⊢
  let E : Value := .int .i64 e
  refine fn_enter Try.func72 rfl rfl ?_
  refine es rfl ?_
  refine ew_seq (sp rfl ?_)
  refine el_loadb rfl rfl rfl rfl rfl hob rfl ?_
  refine pp rfl ?_
  refine el_loadb rfl rfl rfl rfl rfl hwb hk0 ?_
  refine ep rfl ?_
  refine ew_cond_f rfl (by simpa using hk2) ?_
  refine ew_skip ?_
  refine ew_seq ?_
  refine ew_drawg follows [.known (.pointer (some ⟨wb, 0, none⟩)), .known (.pointer (some ⟨gr, 0, none⟩)), .any, .any, .any, .known E, .known (.pointer (some ⟨wb, 0, none⟩)), .known (.pointer (some ⟨wb, 4, none⟩)), .known undef, .known E]
    (BunG rb ob gr wb cs all a bs e a' f' w) rfl (stable_any _ (by simp [Spec.isK])) ⟨Keep.any (Keep.drew w), ⟨hrb, hob⟩, (fun _ => ⟨hR.keep0 (Keep.drew w), hwb⟩), (fun h => by cases h), (fun h => by cases h), (fun h => by cases h)⟩ ?_ ?_
  refine ⟨fun b V ρ w hbi hd hu hG hV => el_loadb rfl rfl rfl rfl rfl hG.2.1.2 rfl (el_nil ⟨_, rfl, rfl, hG⟩), ?_⟩
  refine ⟨fun b V ρ w hbi hd hu hG hV => el_loadb rfl rfl rfl rfl rfl hG.2.1.1 rfl (el_nil ⟨_, rfl, rfl, hG⟩), ?_⟩
  refine ⟨?_, ?_⟩
  · intro b V ρ w2 hbi hd hu hG hV
    have q3 : b 3 = false := hu 3 _ rfl rfl
    have q8 : b 8 = false := hu 8 _ rfl rfl
    obtain ⟨g1, g2, g3, g4, g5, g6⟩ := hG
    obtain ⟨hR2, hb2⟩ := g3 hbi
    refine el_call rfl rfl rfl rfl rfl rfl (hspec w2 hR2) ?_
    rintro _ w' ⟨x, B, rfl, hB, hown, hR', k'⟩
    obtain ⟨ad, cap, rfl, hc⟩ := own_slice hown
    refine el_nil ⟨_, rfl, trivial, g1.trans k' (by simp), ⟨k'.blk g2.1 (by simp; omega), k'.blk g2.2 (by simp; omega)⟩, (fun h => by cases h), (fun _ => ⟨ad, cap, rfl, own_lower hown (by have := g1.size; omega), hR', (fun _ => k'.blk hb2 (by simp; omega)), (fun h => ?_), fun h => ?_⟩), (fun h => ?_), (fun h => rfl)⟩
    · have h' : b 8 = true := h
      rw [q8] at h'
      cases h'
    · have := g6 h
      rw [hbi] at this
      cases this
    · have h' : b 3 = true := h
      rw [q3] at h'
      cases h'
  refine ⟨?_, ?_⟩
  · intro b V ρ w2 hbi hd hu hG hV
    obtain ⟨g1, g2, g3, g4, g5, g6⟩ := hG
    exact el_pure 1 rfl (el_nil ⟨V 2, rfl, trivial, g1, g2, g3, g4, (fun _ => ⟨hd 2 rfl, rfl⟩), g6⟩)
  refine ⟨?_, ?_⟩
  · intro b V ρ w2 hbi hd hu hG hV
    obtain ⟨g1, g2, g3, g4, g5, g6⟩ := hG
    obtain ⟨q2, q3⟩ := g5 (hd 3 rfl)
    obtain ⟨ad, cap, v2, rest⟩ := g4 q2
    refine el_ext rfl rfl (show V 3 = _ from q3.trans v2) rfl ?_
    refine el_nil ⟨.slice ad bs.length cap, rfl, trivial, g1, g2, g3, (fun _ => ⟨ad, cap, v2, rest.1, rest.2.1, rest.2.2.1, rest.2.2.2.1, fun _ => rfl⟩), g5, fun _ => q2⟩
  refine ⟨?_, ?_⟩
  · intro b V ρ w2 hbi hd hu hG hV
    obtain ⟨g1, g2, g3, g4, g5, g6⟩ := hG
    obtain ⟨q2, q3⟩ := g5 (hd 3 rfl)
    obtain ⟨ad, cap, v2, rest⟩ := g4 q2
    exact el_ext rfl rfl (show V 3 = _ from q3.trans v2) rfl (el_nil ⟨_, rfl, rfl, g1, g2, g3, g4, g5, g6⟩)
  refine ⟨pureG rfl (fun _ _ => rfl) (fun _ _ _ h => h), ?_⟩
  refine ⟨pureG rfl (fun _ _ => rfl) (fun _ _ _ h => h), ?_⟩
  refine ⟨?_, ?_⟩
  · intro b V ρ w2 hbi hd hu hG hV
    obtain ⟨g1, g2, g3, g4, g5, g6⟩ := hG
    have q4 := hd 4 rfl
    have q2 := g6 q4
    obtain ⟨ad, cap, v2, hown, hR2, hb0, _, hv4⟩ := g4 q2
    have hb2 := hb0 hbi
    refine el_store (off := 4) (vs := [.slice ad bs.length cap]) (setL cs 4 [.slice ad bs.length cap]) rfl rfl rfl (show V 4 = _ from hv4 q4) rfl rfl rfl rfl hb2 (Nat.ble_eq_true_of_le (by simp; omega)) rfl ?_
    intro w' k' hs' hb'
    have hne : ∀ b, (Value.slice ad bs.length cap).ownBlock = some b → b ∉ [wb] := own_ne hown hb2 (by decide)
    exact el_nil ⟨_, rfl, rfl, g1.trans k' (by simp), ⟨k'.blk g2.1 (by simp; omega), k'.blk g2.2 (by simp; omega)⟩, (fun h => by
      have h' : b 2 = false := h
      rw [q2] at h'
      cases h'), (fun _ => ⟨ad, cap, v2, own_keep hown k' hne, hR2.keep k' (by simp; omega) (NoE.one hb2 (by decide)), (fun h => by cases h), (fun _ => hb'), hv4⟩), g5, g6⟩
  refine ⟨pureG rfl (fun _ _ => rfl) (fun _ _ _ h => h), ?_⟩
  trivial
  intro b V w3 hall hG hV
  obtain ⟨g1, g2, g3, g4, g5, g6⟩ := hG
  obtain ⟨ad, cap, v2, hown, hR2, _, hb2, _⟩ := g4 (hall 2 (by decide))
  have hb3 := hb2 (hall 8 (by decide))
  refine es rfl ?_
  exact ew_ret (ret_1 E rfl rfl rfl rfl ⟨_, rfl, hown, hR2, hb3, g1⟩)

theorem part_t6 (rb ob gr wb : Nat) (cs : Array Value) (hcs : cs.size = 11) (all : List UInt8) (a : Nat) (w : World) (hC : Caps rb ob gr wb 5 126 cs w) (hR : IsR w gr all a 0) :
    Fn Try.prog 83 [.pointer (some ⟨rb, 0, none⟩), .pointer (some ⟨ob, 0, none⟩)] w fun r w' => r = .int .i64 (rdT all a 0).2.1 ∧ IsR w' gr all (rdT all a 0).2.2.1 (rdT all a 0).2.2.2 ∧ Blk w' wb 48 (setL cs 10 [.bool (rdT all a 0).1]) ∧ Keep [gr, wb] w w' := by
  obtain ⟨hrb, hob, hwb⟩ := hC
  have h1 : rb ≠ gr := hR.ne hrb (by decide)
  have h2 : ob ≠ gr := hR.ne hob (by decide)
  have h3 : rb ≠ wb := Blk.ne hrb hwb (by decide)
  have h4 : ob ≠ wb := Blk.ne hob hwb (by decide)
  have h5 : wb ≠ gr := hR.ne hwb (by decide)
  obtain ⟨⟨x, e, a', f'⟩, hS⟩ : ∃ s, rdT all a 0 = s := ⟨_, rfl⟩
  have hspec := fun (w : World) (hR : IsR w gr all a 0) => rtruth_ok gr all a 0 w hR
  have hS' : (rdStep false all a 0 true truthR) = (x, e, a', f') := hS
  rw [hS'] at hspec
  rw [hS]
  dsimp only at hspec ⊢
  let E : Value := .int .i64 e
  let U : Value := .tuple #[.bool x, .int .i64 e]
  refine fn_enter Try.func83 rfl rfl ?_
  refine es rfl ?_
  refine ew_seq ?_
  refine ew_draw follows [.known (.pointer (some ⟨wb, 5, none⟩)), .known (.pointer (some ⟨gr, 0, none⟩)), .known U, .known U, .known (.bool x), .known E, .known (.pointer (some ⟨wb, 5, none⟩)), .known (.pointer (some ⟨wb, 10, none⟩)), .known undef, .known E] [gr, wb]
    (fun b w => (Blk w rb 76 #[.pointer (some ⟨gr, 0, none⟩)] ∧ Blk w ob 126 #[.pointer (some ⟨wb, 5, none⟩)]) ∧ ((b 2 = false → IsR w gr all a 0) ∧ (b 2 = true → IsR w gr all a' f')) ∧ ((b 8 = false → Blk w wb 48 cs) ∧ (b 8 = true → Blk w wb 48 (setL cs 10 [.bool x])))) rfl (stable_known _ rfl) ⟨⟨hrb, hob⟩, ⟨fun _ => hR.keep0 (Keep.drew w), fun h => by cases h⟩, fun _ => hwb, fun h => by cases h⟩ ?_ ?_
  refine ⟨fun b V ρ w hk hbi hd hu hWd hV => el_loadb rfl rfl rfl rfl rfl hWd.1.2 rfl (el_nil ⟨_, rfl, rfl, Keep.refl _ _, hWd⟩), ?_⟩
  refine ⟨fun b V ρ w hk hbi hd hu hWd hV => el_loadb rfl rfl rfl rfl rfl hWd.1.1 rfl (el_nil ⟨_, rfl, rfl, Keep.refl _ _, hWd⟩), ?_⟩
  refine ⟨fun b V ρ w hk hbi hd hu hWd hV => el_call rfl rfl rfl rfl rfl rfl (hspec w (hWd.2.1.1 hbi)) (by
    rintro _ w' ⟨rfl, hR', k'⟩
    exact el_nil ⟨_, rfl, rfl, k'.mono (by simp), ⟨k'.blk hWd.1.1 (by simp; omega), k'.blk hWd.1.2 (by simp; omega)⟩, ⟨(fun h => by cases h), fun _ => hR'⟩, (fun h => k'.blk (hWd.2.2.1 h) (by simp; omega)), fun h => k'.blk (hWd.2.2.2 h) (by simp; omega)⟩), ?_⟩
  refine ⟨pureD rfl (fun _ _ => rfl) (fun _ _ h => h), ?_⟩
  refine ⟨pureD rfl (fun _ _ => rfl) (fun _ _ h => h), ?_⟩
  refine ⟨pureD rfl (fun _ _ => rfl) (fun _ _ h => h), ?_⟩
  refine ⟨pureD rfl (fun _ _ => rfl) (fun _ _ h => h), ?_⟩
  refine ⟨pureD rfl (fun _ _ => rfl) (fun _ _ h => h), ?_⟩
  refine ⟨?_, ?_⟩
  · intro b V ρ w hk hbi hd hu hWd hV
    obtain ⟨g1, g2, g3⟩ := hWd
    have hb2 := g3.1 hbi
    refine el_store (off := 10) (vs := [.bool x]) (setL cs 10 [.bool x]) rfl rfl rfl rfl rfl rfl rfl rfl hb2 (Nat.ble_eq_true_of_le (by simp; omega)) rfl ?_
    intro w' k' hs' hb'
    exact el_nil ⟨_, rfl, rfl, k'.mono (by simp), ⟨k'.blk g1.1 (by simp; omega), k'.blk g1.2 (by simp; omega)⟩, ⟨fun h => (g2.1 h).keep k' (by simp; omega) (NoE.one hb2 (by decide)), fun h => (g2.2 h).keep k' (by simp; omega) (NoE.one hb2 (by decide))⟩, (fun h => by cases h), fun _ => hb'⟩
  refine ⟨pureD rfl (fun _ _ => rfl) (fun _ _ h => h), ?_⟩
  trivial
  intro b V w3 hall k3 hWd hV
  have hR3 := hWd.2.1.2 (hall 2 (by decide))
  have hb3 := hWd.2.2.2 (hall 8 (by decide))
  refine es rfl ?_
  exact ew_ret (ret_1 E rfl rfl rfl rfl ⟨rfl, hR3, hb3, k3⟩)
end Go.Proofs.Ytpdgfekimnmdnaa
/- Orders: both forms. -/
set_option linter.unusedVariables false
set_option linter.unusedSimpArgs false
namespace Go.Proofs.Ytpdgfekimnmdnaa
open Go.RowKit
set_option maxRecDepth 20000

theorem info_fn : (Try.prog.info? 90).map (fun i => (i.zero, i.size, i.bytes)) = some (some .nilFunc, 1, 8) := by kernel_rfl
theorem each1_ok (fb n : Nat) (w : World) : Fn Try.prog 64 [.slice (some ⟨fb, 0, none⟩) n n] w fun r w' => ∃ sb, r = .func (.func 65) #[] #[.pointer (some ⟨sb, 0, none⟩)] ∧ w.heap.size ≤ sb ∧ Blk w' sb 117 #[.slice (some ⟨fb, 0, none⟩) n n] ∧ Keep [] w w' := by
  refine fn_enter Try.func64 rfl rfl ?_
  refine sp rfl ?_
  refine el_box #[.slice (some ⟨fb, 0, none⟩) n n] rfl rfl rfl rfl ?_
  intro sb w1 e1 e1' k1 hb1
  refine ep rfl ?_
  refine es rfl ?_
  exact ew_ret (ret_1 (.func (.func 65) #[] #[.pointer (some ⟨sb, 0, none⟩)]) rfl rfl rfl rfl ⟨sb, rfl, by omega, hb1, k1⟩)

def fnsO (rb ob : Nat) : List (FuncId × List Value) := [(67, [.pointer (some ⟨rb, 0, none⟩), .pointer (some ⟨ob, 0, none⟩)]), (69, [.pointer (some ⟨rb, 0, none⟩), .pointer (some ⟨ob, 0, none⟩)]), (71, [.pointer (some ⟨rb, 0, none⟩), .pointer (some ⟨ob, 0, none⟩)]), (72, [.pointer (some ⟨ob, 0, none⟩), .pointer (some ⟨rb, 0, none⟩)])]
def fnsT (rb ob : Nat) : List (FuncId × List Value) := [(76, [.pointer (some ⟨rb, 0, none⟩), .pointer (some ⟨ob, 0, none⟩)]), (78, [.pointer (some ⟨rb, 0, none⟩), .pointer (some ⟨ob, 0, none⟩)]), (80, [.pointer (some ⟨rb, 0, none⟩), .pointer (some ⟨ob, 0, none⟩)]),
  (81, [.pointer (some ⟨rb, 0, none⟩), .pointer (some ⟨ob, 0, none⟩)]), (82, [.pointer (some ⟨rb, 0, none⟩), .pointer (some ⟨ob, 0, none⟩)]), (83, [.pointer (some ⟨rb, 0, none⟩), .pointer (some ⟨ob, 0, none⟩)])]
abbrev eachV : Value := .func (.func 64) #[] #[]

theorem formO_ok (gr wb cb : Nat) (w : World) (hc : Blk w cb 119 #[eachV]) : Fn Try.prog 66 [.pointer (some ⟨gr, 0, none⟩), .pointer (some ⟨wb, 0, none⟩), .pointer (some ⟨cb, 0, none⟩)] w fun r w' => ∃ sb fb rb ob,
    r = .func (.func 65) #[] #[.pointer (some ⟨sb, 0, none⟩)] ∧ w.heap.size ≤ sb ∧ w.heap.size ≤ fb ∧ w.heap.size ≤ rb ∧ w.heap.size ≤ ob ∧ PartsAt w' sb fb 4 (fnsO rb ob) ∧ Blk w' rb 76 #[.pointer (some ⟨gr, 0, none⟩)] ∧ Blk w' ob 120 #[.pointer (some ⟨wb, 0, none⟩)] ∧ Keep [] w w' := by
  refine fn_enter Try.func66 rfl rfl ?_
  refine sp rfl ?_
  refine el_box #[.pointer (some ⟨gr, 0, none⟩)] rfl rfl rfl rfl ?_
  intro rb w1 e1 e1' k1 hr1
  refine ep rfl ?_
  refine sp rfl ?_
  refine el_alloc (z := .pointer none) #[.pointer none] rfl rfl rfl rfl ?_
  intro ob w2 e2 e2' k2 ho2
  refine el_store #[.pointer (some ⟨wb, 0, none⟩)] rfl rfl rfl rfl rfl rfl rfl rfl ho2 rfl rfl ?_
  intro w3 k3 hs3 ho3
  have hr3 := k3.blk (k2.blk hr1 (by simp)) (by simp; omega)
  have k03 : Keep [] w w3 := (k1.trans0 k2).trans k3 (by simp; omega)
  have hc3 := k03.blk hc (by simp)
  refine ep rfl ?_
  refine sp rfl ?_
  refine el_loadb rfl rfl rfl rfl rfl hc3 rfl ?_
  refine pp rfl ?_
  refine el_bslice (z := .nilFunc) (bytes := 8) (vs := closV (fnsO rb ob)) rfl rfl rfl info_fn rfl rfl rfl ?_
  intro fb w4 e4 e4' k4 hf4
  refine el_callv (first := []) (captured := []) rfl rfl rfl Try.func64 rfl rfl rfl (each1_ok fb 4 w4) ?_
  rintro _ w5 ⟨sb, rfl, hsb, hs5, k5⟩
  refine ep rfl ?_
  have k05 := (k03.trans0 k4).trans0 k5
  have := k03.size
  exact ew_ret (ret_1 (.func (.func 65) #[] #[.pointer (some ⟨sb, 0, none⟩)]) rfl rfl rfl rfl ⟨sb, fb, rb, ob, rfl, by omega, by omega, by omega, by omega, ⟨hs5, k5.blk hf4 (by simp)⟩, k5.blk (k4.blk hr3 (by simp)) (by simp), k5.blk (k4.blk ho3 (by simp)) (by simp), k05⟩)
theorem formT_ok (gr wb cb : Nat) (w : World) (hc : Blk w cb 119 #[eachV]) : Fn Try.prog 75 [.pointer (some ⟨gr, 0, none⟩), .pointer (some ⟨wb, 0, none⟩), .pointer (some ⟨cb, 0, none⟩)] w fun r w' => ∃ sb fb rb ob,
    r = .func (.func 65) #[] #[.pointer (some ⟨sb, 0, none⟩)] ∧ w.heap.size ≤ sb ∧ w.heap.size ≤ fb ∧ w.heap.size ≤ rb ∧ w.heap.size ≤ ob ∧ PartsAt w' sb fb 6 (fnsT rb ob) ∧ Blk w' rb 76 #[.pointer (some ⟨gr, 0, none⟩)] ∧ Blk w' ob 126 #[.pointer (some ⟨wb, 5, none⟩)] ∧ Keep [] w w' := by
  refine fn_enter Try.func75 rfl rfl ?_
  refine sp rfl ?_
  refine el_box #[.pointer (some ⟨gr, 0, none⟩)] rfl rfl rfl rfl ?_
  intro rb w1 e1 e1' k1 hr1
  refine ep rfl ?_
  refine sp rfl ?_
  refine el_alloc (z := .pointer none) #[.pointer none] rfl rfl rfl rfl ?_
  intro ob w2 e2 e2' k2 ho2
  refine el_store #[.pointer (some ⟨wb, 5, none⟩)] rfl rfl rfl rfl rfl rfl rfl rfl ho2 rfl rfl ?_
  intro w3 k3 hs3 ho3
  have hr3 := k3.blk (k2.blk hr1 (by simp)) (by simp; omega)
  have k03 : Keep [] w w3 := (k1.trans0 k2).trans k3 (by simp; omega)
  have hc3 := k03.blk hc (by simp)
  refine ep rfl ?_
  refine sp rfl ?_
  refine el_loadb rfl rfl rfl rfl rfl hc3 rfl ?_
  refine pp rfl ?_
  refine el_bslice (z := .nilFunc) (bytes := 8) (vs := closV (fnsT rb ob)) rfl rfl rfl info_fn rfl rfl rfl ?_
  intro fb w4 e4 e4' k4 hf4
  refine el_callv (first := []) (captured := []) rfl rfl rfl Try.func64 rfl rfl rfl (each1_ok fb 6 w4) ?_
  rintro _ w5 ⟨sb, rfl, hsb, hs5, k5⟩
  refine ep rfl ?_
  have k05 := (k03.trans0 k4).trans0 k5
  have := k03.size
  exact ew_ret (ret_1 (.func (.func 65) #[] #[.pointer (some ⟨sb, 0, none⟩)]) rfl rfl rfl rfl ⟨sb, fb, rb, ob, rfl, by omega, by omega, by omega, by omega, ⟨hs5, k5.blk hf4 (by simp)⟩, k5.blk (k4.blk hr3 (by simp)) (by simp), k5.blk (k4.blk ho3 (by simp)) (by simp), k05⟩)

def formA (a b cb : Nat) : Value := .agg #[.func (.func a) #[] #[.pointer (some ⟨cb, 0, none⟩)], .func (.func b) #[] #[]]
theorem forms_ok (w : World) : Fn Try.prog 46 [] w fun r w' => ∃ mb cb, r = .map (some mb) ∧ w.heap.size ≤ cb ∧
    w'.heap[mb]? = some (.map #[{ key := .int .i64 1, val := formA 66 74 cb, born := 0 }, { key := .int .i64 2, val := formA 75 85 cb, born := 1 }] 2) ∧ Blk w' cb 119 #[eachV] ∧ Keep [] w w' := by
  refine fn_enter Try.func46 rfl rfl ?_
  refine es rfl ?_
  refine sp rfl ?_
  refine el_alloc (z := .nilFunc) #[.nilFunc] rfl rfl rfl rfl ?_
  intro cb w1 e1 e1' k1 hc1
  refine el_store #[eachV] rfl rfl rfl rfl rfl rfl rfl rfl hc1 rfl rfl ?_
  intro w2 k2 hs2 hc2
  have k02 : Keep [] w w2 := k1.trans k2 (by simp; omega)
  refine ep rfl ?_
  refine sp rfl ?_
  refine el_makeMap rfl rfl ?_
  intro mb w3 em k3 hm3
  have hc3 := k3.blk hc2 (by simp)
  have hcm : cb ≠ mb := by have := Blk.lt hc2; omega
  refine pp rfl ?_
  refine el_build (z := .agg #[.nilFunc, .nilFunc]) (vs := [.func (.func 66) #[] #[.pointer (some ⟨cb, 0, none⟩)], .func (.func 74) #[] #[]]) rfl rfl rfl rfl rfl rfl ?_
  refine el_insert (k := 2) (e := 83) (q := .i64) (q' := .i64) (a := 1) rfl rfl rfl rfl rfl rfl rfl hm3 rfl ?_
  intro w4 k4 hm4
  refine pp rfl ?_
  refine el_build (z := .agg #[.nilFunc, .nilFunc]) (vs := [.func (.func 75) #[] #[.pointer (some ⟨cb, 0, none⟩)], .func (.func 85) #[] #[]]) rfl rfl rfl rfl rfl rfl ?_
  refine el_insert (k := 2) (e := 83) (q := .i64) (q' := .i64) (a := 2) rfl rfl rfl rfl rfl rfl rfl hm4 rfl ?_
  intro w5 k5 hm5
  have hc5 := k5.blk (k4.blk hc3 (by simpa using hcm)) (by simpa using hcm)
  have k03 : Keep [] w w3 := k02.trans0 k3
  refine ep rfl ?_
  have := k02.size
  exact ew_ret (ret_1 (.map (some mb)) rfl rfl rfl rfl ⟨mb, cb, rfl, by omega, hm5, hc5, (k03.trans k4 (by simp; omega)).trans k5 (by simp; omega)⟩)

theorem wrongO_ok (x : WorD) (ad : Option Addr) (cap : Nat) (hn : x.bundle.length ≤ 9223372036854775807) (w : World) : Fn Try.prog 74 [x.V (.slice ad x.bundle.length cap)] w fun r w' => r = .int .i64 (ordE x.k x.e x.t x.v x.bundle.length) ∧ Keep [] w w' := by
  obtain ⟨k, e, t, v, bu, node, rk, re, rt, rv, well⟩ := x
  dsimp only at hn
  refine fn_enter Try.func74 rfl rfl ?_
  refine sp rfl ?_
  refine el_box #[.int .i64 k, .int .i64 e, .int .i64 t, .int .i64 v, .slice ad bu.length cap, .int .i64 node, .int .i64 rk, .int .i64 re, .int .i64 rt, .int .i64 rv, .bool well] rfl rfl rfl rfl ?_
  intro bb w1 e1 e1' k1 hb
  refine ep rfl ?_
  refine sp rfl ?_
  refine el_loada (vs := [.int .i64 k, .int .i64 e, .int .i64 t, .int .i64 v, .slice ad bu.length cap]) rfl rfl rfl rfl rfl rfl hb rfl ?_
  refine el_call rfl rfl rfl rfl rfl rfl (order_ok k e t v ad bu.length cap hn w1) ?_
  rintro _ w2 ⟨rfl, k2⟩
  refine ep rfl ?_
  exact ew_ret (ret_1 (.int .i64 (ordE k e t v bu.length)) rfl rfl rfl rfl ⟨rfl, k1.trans0 k2⟩)
theorem wrongT_ok (x : WorD) (u : Value) (hu : ∃ ad n cap, u = .slice ad n cap) (w : World) : Fn Try.prog 85 [x.V u] w fun r w' => r = .int .i64 (tolE x.node x.rk x.re x.rt x.rv) ∧ Keep [] w w' := by
  obtain ⟨k, e, t, v, bu, node, rk, re, rt, rv, well⟩ := x
  obtain ⟨ad, n, cap, rfl⟩ := hu
  refine fn_enter Try.func85 rfl rfl ?_
  refine sp rfl ?_
  refine el_box #[.int .i64 k, .int .i64 e, .int .i64 t, .int .i64 v, .slice ad n cap, .int .i64 node, .int .i64 rk, .int .i64 re, .int .i64 rt, .int .i64 rv, .bool well] rfl rfl rfl rfl ?_
  intro bb w1 e1 e1' k1 hb
  refine ep rfl ?_
  refine sp rfl ?_
  refine el_loada (vs := [.int .i64 node, .int .i64 rk, .int .i64 re, .int .i64 rt, .int .i64 rv, .bool well]) rfl rfl rfl rfl rfl rfl hb rfl ?_
  refine el_call rfl rfl rfl rfl rfl rfl (told_ok node rk re rt rv well w1) ?_
  rintro _ w2 ⟨rfl, k2⟩
  refine ep rfl ?_
  exact ew_ret (ret_1 (.int .i64 (tolE node rk re rt rv)) rfl rfl rfl rfl ⟨rfl, k1.trans0 k2⟩)
end Go.Proofs.Ytpdgfekimnmdnaa
