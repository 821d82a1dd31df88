/- Orders: reading a message, by the first hand. -/
import Derived.Test.YtpdgfekimnmdnaaForms
/- Orders: which message bytes are: plain. -/
set_option linter.unusedVariables false
set_option linter.unusedSimpArgs false
namespace Go.Proofs.Ytpdgfekimnmdnaa
open Go.RowKit
set_option maxRecDepth 20000

def stepN (all : List UInt8) (g : Int) (a : Nat) : Option (Int × Nat) := if (rdN all a 0 g).2.1 = 0 then some ((rdN all a 0 g).1, (rdN all a 0 g).2.2.1) else none
def stepY (all : List UInt8) (g : Int) (a : Nat) : Option (List UInt8 × Nat) := if (rdY all a 0 g).2.1 = 0 then some ((rdY all a 0 g).1, (rdY all a 0 g).2.2.1) else none
def stepT (all : List UInt8) (a : Nat) : Option (Bool × Nat) := if (rdT all a 0).2.1 = 0 then some ((rdT all a 0).1, (rdT all a 0).2.2.1) else none
def readO (all : List UInt8) (a : Nat) : Option (WorD × Nat) :=
  (stepN all 3 a).bind fun p1 => (stepN all 2147483647 p1.2).bind fun p2 => (stepN all 2147483647 p2.2).bind fun p3 =>
    if p1.1 = 2 then (stepN all 2147483647 p3.2).bind fun p4 => some (⟨p1.1, p2.1, p3.1, p4.1, [], 0, 0, 0, 0, 0, false⟩, p4.2)
    else (stepY all 80000 p3.2).bind fun p4 => some (⟨p1.1, p2.1, p3.1, 0, p4.1, 0, 0, 0, 0, 0, false⟩, p4.2)
def readT (all : List UInt8) (a : Nat) : Option (WorD × Nat) :=
  (stepN all 63 a).bind fun p1 => (stepN all 4 p1.2).bind fun p2 => (stepN all 2147483647 p2.2).bind fun p3 => (stepN all 2147483647 p3.2).bind fun p4 => (stepN all 2147483647 p4.2).bind fun p5 =>
    (stepT all p5.2).bind fun p6 => some (⟨0, 0, 0, 0, [], p1.1, p2.1, p3.1, p4.1, p5.1, p6.1⟩, p6.2)
def fin (all : List UInt8) (o : Option (WorD × Nat)) : Option WorD := o.bind fun q => if q.2 = all.length ∧ q.1.E = 0 then some q.1 else none
/-- The message that bytes are. -/
def readW (all : List UInt8) : Option WorD := (stepN all 2 0).bind fun p => if p.1 = 1 then fin all (readO all p.2) else if p.1 = 2 then fin all (readT all p.2) else none
def zeroW : WorD := ⟨0, 0, 0, 0, [], 0, 0, 0, 0, 0, false⟩
def readR (all : List UInt8) : WorD × Int := match readW all with
  | some x => (x, 0)
  | none => (zeroW, 270)
theorem readR_some {all : List UInt8} {x : WorD} (h : readW all = some x) : readR all = (x, 0) := by unfold readR; rw [h]
theorem readR_none {all : List UInt8} (h : readW all = none) : readR all = (zeroW, 270) := by unfold readR; rw [h]

theorem stepN_ok {all : List UInt8} {g : Int} {a a' : Nat} {x f : Int} (h : rdN all a 0 g = (x, 0, a', f)) : stepN all g a = some (x, a') := by unfold stepN; rw [h]; rfl
theorem stepN_err {all : List UInt8} {g : Int} {a a' : Nat} {x e f : Int} (h : rdN all a 0 g = (x, e, a', f)) (he : e ≠ 0) : stepN all g a = none := by unfold stepN; rw [h, if_neg he]
theorem stepY_ok {all : List UInt8} {g : Int} {a a' : Nat} {x : List UInt8} {f : Int} (h : rdY all a 0 g = (x, 0, a', f)) : stepY all g a = some (x, a') := by unfold stepY; rw [h]; rfl
theorem stepY_err {all : List UInt8} {g : Int} {a a' : Nat} {x : List UInt8} {e f : Int} (h : rdY all a 0 g = (x, e, a', f)) (he : e ≠ 0) : stepY all g a = none := by unfold stepY; rw [h, if_neg he]
theorem stepT_ok {all : List UInt8} {a a' : Nat} {x : Bool} {f : Int} (h : rdT all a 0 = (x, 0, a', f)) : stepT all a = some (x, a') := by unfold stepT; rw [h]; rfl
theorem stepT_err {all : List UInt8} {a a' : Nat} {x : Bool} {e f : Int} (h : rdT all a 0 = (x, e, a', f)) (he : e ≠ 0) : stepT all a = none := by unfold stepT; rw [h, if_neg he]
theorem rdN_zero {all : List UInt8} {g : Int} {a a' : Nat} {x f : Int} (h : rdN all a 0 g = (x, 0, a', f)) : f = 0 := by
  have h1 := rd_ok (z := (0 : Int)) (all := all) (at_ := a) (flaw := 0) (fine := true) (res := fun l => numR l g) (by rw [show rdStep (0 : Int) all a 0 true (fun l => numR l g) = (x, 0, a', f) from h])
  have h2 := h1.2.2.2
  rw [show rdStep (0 : Int) all a 0 true (fun l => numR l g) = (x, 0, a', f) from h] at h2
  simp only [Prod.mk.injEq] at h2
  exact h2.2.2.2
theorem rdY_zero {all : List UInt8} {g : Int} {a a' : Nat} {x : List UInt8} {f : Int} (h : rdY all a 0 g = (x, 0, a', f)) : f = 0 := by
  have h1 := rd_ok (z := ([] : List UInt8)) (all := all) (at_ := a) (flaw := 0) (fine := true) (res := fun l => bytesR l g) (by rw [show rdStep ([] : List UInt8) all a 0 true (fun l => bytesR l g) = (x, 0, a', f) from h])
  have h2 := h1.2.2.2
  rw [show rdStep ([] : List UInt8) all a 0 true (fun l => bytesR l g) = (x, 0, a', f) from h] at h2
  simp only [Prod.mk.injEq] at h2
  exact h2.2.2.2
theorem rdT_zero {all : List UInt8} {a a' : Nat} {x : Bool} {f : Int} (h : rdT all a 0 = (x, 0, a', f)) : f = 0 := by
  have h1 := rd_ok (z := false) (all := all) (at_ := a) (flaw := 0) (fine := true) (res := truthR) (by rw [show rdStep false all a 0 true truthR = (x, 0, a', f) from h])
  have h2 := h1.2.2.2
  rw [show rdStep false all a 0 true truthR = (x, 0, a', f) from h] at h2
  simp only [Prod.mk.injEq] at h2
  exact h2.2.2.2
theorem rdN_err {all : List UInt8} {g : Int} {a a' : Nat} {x e f : Int} (h : rdN all a 0 g = (x, e, a', f)) (he : e ≠ 0) : x = 0 := by
  have h1 := rdStep_err (z := (0 : Int)) (all := all) (at_ := a) (flaw := 0) (fine := true) (res := fun l => numR l g) (by rw [show rdStep (0 : Int) all a 0 true (fun l => numR l g) = (x, e, a', f) from h]; exact he)
  rw [show rdStep (0 : Int) all a 0 true (fun l => numR l g) = (x, e, a', f) from h] at h1
  exact h1
theorem E_order (k e t v : Int) (b : List UInt8) : (WorD.mk k e t v b 0 0 0 0 0 false).E = ordE k e t v b.length := by simp [WorD.E]
theorem E_told {node k e t v : Int} {well : Bool} : (WorD.mk 0 0 0 0 [] node k e t v well).E = 0 ↔ tolE node k e t v = 0 := by
  unfold WorD.E tolE
  dsimp only
  by_cases hk : k = 0
  · subst hk
    rw [if_neg (by simp)]
    have h1 : ¬ tolOk node 0 e t v := by unfold tolOk; omega
    rw [if_neg h1]
    split
    · have h2 : ¬ ordOk 0 0 0 0 0 := by unfold ordOk; omega
      rw [show ([] : List UInt8).length = 0 from rfl, ordE_bad h2]
    · simp
  · rw [if_pos hk]
    have hb : isBare 0 0 0 0 ([] : List UInt8).length := by unfold isBare; simp
    by_cases ht : tolOk node k e t v
    · rw [if_pos ⟨hb, ht⟩, if_pos ht]
    · rw [if_neg (fun h => ht h.2), if_neg ht]
end Go.Proofs.Ytpdgfekimnmdnaa
/- Orders: the range over a message's parts, as reading has it. -/
set_option linter.unusedVariables false
set_option linter.unusedSimpArgs false
namespace Go.Proofs.Ytpdgfekimnmdnaa
open Go.RowKit
set_option maxRecDepth 20000

abbrev zeroA : Array Value := #[.int .i64 0, .int .i64 0, .int .i64 0, .int .i64 0, .slice none 0 0, .int .i64 0, .int .i64 0, .int .i64 0, .int .i64 0, .int .i64 0, .bool false]
/-- The blocks of a reading. -/
structure RB where
  (zb eb f7 rb ob gr wb sb fb n off : Nat)
  OT : TypeId
  fns : List (FuncId × List Value)
  fc : Array Value
def RB.At (B : RB) (w0 : World) (ec : Value) (all : List UInt8) (a : Nat) (f : Int) (cs : Array Value) (W : World) : Prop :=
  Keep [] w0 W ∧ Blk W B.zb 48 zeroA ∧ Blk W B.eb 27 #[ec] ∧ Blk W B.f7 83 B.fc ∧ PartsAt W B.sb B.fb B.n B.fns ∧ Caps B.rb B.ob B.gr B.wb B.off B.OT cs W ∧ IsR W B.gr all a f
/-- What is asked of the blocks. -/
structure RB.Ok (B : RB) (w0 : World) : Prop where
  zw : B.zb ≠ B.wb
  gg : w0.heap.size ≤ B.gr
  ww : w0.heap.size ≤ B.wb
  ee : w0.heap.size ≤ B.eb
  len : B.fns.length = B.n
  n1 : B.n ≤ 100
  ot : B.OT ≠ 113 ∧ B.OT ≠ 48 ∧ B.OT ≠ 27

theorem not_in {W : World} {M : List Nat} {b : Nat} {T : TypeId} {cs : Array Value} {fr : Nat × Nat} (hb : W.heap[b]? = some (.cells cs T fr)) (hM : ∀ b ∈ M, ∃ o, W.heap[b]? = some o ∧ o.isCells = false) : b ∉ M := fun hin => by
  obtain ⟨o, ho, hc⟩ := hM b hin
  rw [hb] at ho
  injection ho with ho
  subst ho
  cases hc
theorem noE_of {W : World} {M : List Nat} {E : TypeId} (hM : ∀ b ∈ M, ∃ o, W.heap[b]? = some o ∧ o.isCells = false) : NoE E W M := fun b hin c fr hc => not_in hc hM hin
theorem RB.stab (B : RB) (w0 : World) (ec : Value) (all : List UInt8) (a : Nat) (f : Int) (cs : Array Value) {S : Nat} (hS : w0.heap.size ≤ S) : Stab S (B.At w0 ec all a f cs) := by
  rintro W W' M ⟨h1, h2, h3, h4, ⟨h5, h5'⟩, ⟨h6, h6', h6''⟩, h7⟩ k hM
  have hM' : ∀ b ∈ M, ∃ o, W.heap[b]? = some o ∧ o.isCells = false := fun b hb => (hM b hb).2
  exact ⟨h1.trans k (fun b hb hlt => by have := (hM b hb).1; omega), k.blk h2 (not_in h2 hM'), k.blk h3 (not_in h3 hM'), k.blk h4 (not_in h4 hM'), ⟨k.blk h5 (not_in h5 hM'), k.blk h5' (not_in h5' hM')⟩, ⟨k.blk h6 (not_in h6 hM'), k.blk h6' (not_in h6' hM'), k.blk h6'' (not_in h6'' hM')⟩, h7.keep k (not_in h7.blk hM') (noE_of hM')⟩
theorem RB.part {B : RB} {w0 : World} (ok : B.Ok w0) {ec : Value} {all : List UInt8} {a : Nat} {f : Int} {cs : Array Value} {W W' : World} (h : B.At w0 ec all a f cs W) {a' : Nat} {f' : Int} {cs' : Array Value} (hR : IsR W' B.gr all a' f') (hb : Blk W' B.wb 48 cs') (k : Keep [B.gr, B.wb] W W') : B.At w0 ec all a' f' cs' W' ∧ KeepsOthers W W' := by
  obtain ⟨h1, h2, h3, h4, ⟨h5, h5'⟩, ⟨h6, h6', h6''⟩, h7⟩ := h
  have ne : ∀ {b : Nat} {T : TypeId} {c : Array Value}, Blk W b T c → T ≠ 113 → T ≠ 48 → b ∉ [B.gr, B.wb] := fun hbb t1 t2 => by
    have e1 := h7.ne hbb t1
    have e2 := Blk.ne hbb h6'' t2
    simp
    exact ⟨e1, e2⟩
  refine ⟨⟨h1.trans k (by have := ok.gg; have := ok.ww; simp; omega), k.blk h2 ?_, k.blk h3 (ne h3 (by decide) (by decide)), k.blk h4 (ne h4 (by decide) (by decide)), ⟨k.blk h5 (ne h5 (by decide) (by decide)), k.blk h5' (ne h5' (by decide) (by decide))⟩, ⟨k.blk h6 (ne h6 (by decide) (by decide)), k.blk h6' (ne h6' ok.ot.1 ok.ot.2.1), hb⟩, hR⟩, others_of k ?_⟩
  · have e1 := h7.ne h2 (by decide)
    simp
    exact ⟨e1, ok.zw⟩
  · intro b hb
    simp at hb
    rcases hb with rfl | rfl
    · exact ⟨_, _, _, h7.blk⟩
    · exact ⟨_, _, _, h6''⟩
theorem RB.setE {B : RB} {w0 : World} (ok : B.Ok w0) {ec ec' : Value} {all : List UInt8} {a : Nat} {f : Int} {cs : Array Value} {W W' : World} (h : B.At w0 ec all a f cs W) (hb : Blk W' B.eb 27 #[ec']) (k : Keep [B.eb] W W') : B.At w0 ec' all a f cs W' ∧ KeepsOthers W W' := by
  obtain ⟨h1, h2, h3, h4, ⟨h5, h5'⟩, ⟨h6, h6', h6''⟩, h7⟩ := h
  have ne : ∀ {b : Nat} {T : TypeId} {c : Array Value}, Blk W b T c → T ≠ 27 → b ∉ [B.eb] := fun hbb t1 => by
    have e1 := Blk.ne hbb h3 t1
    simpa using e1
  refine ⟨⟨h1.trans k (by have := ok.ee; simp; omega), k.blk h2 (ne h2 (by decide)), hb, k.blk h4 (ne h4 (by decide)), ⟨k.blk h5 (ne h5 (by decide)), k.blk h5' (ne h5' (by decide))⟩, ⟨k.blk h6 (ne h6 (by decide)), k.blk h6' (ne h6' ok.ot.2.2), k.blk h6'' (ne h6'' (by decide))⟩, h7.keep k (ne h7.blk (by decide)) (NoE.one h3 (by decide))⟩, others_of k ?_⟩
  intro b hb
  simp at hb
  subst hb
  exact ⟨_, _, _, h3⟩

/-- What holds ahead of part j, behind it, and where it stops. -/
def RI (B : RB) (w0 : World) (all : List UInt8) (e : Nat → Int) (at_ : Nat → Nat) (CS : Nat → Array Value → World → Prop) (j : Nat) (W : World) : Prop := (∀ i, i < j → e i = 0) ∧ ∃ cs, CS j cs W ∧ B.At w0 (.int .i64 0) all (at_ j) 0 cs W
def RP (B : RB) (w0 : World) (all : List UInt8) (e : Nat → Int) (at_ : Nat → Nat) (fl : Nat → Int) (CS : Nat → Array Value → World → Prop) (ec : Value → Value) (j : Nat) (v : Value) (W : World) : Prop := (∀ i, i < j → e i = 0) ∧ v = .int .i64 (e j) ∧ ∃ cs, CS (j + 1) cs W ∧ B.At w0 (ec v) all (at_ (j + 1)) (fl j) cs W
def RS (B : RB) (w0 : World) (all : List UInt8) (e : Nat → Int) (at_ : Nat → Nat) (fl : Nat → Int) (CS : Nat → Array Value → World → Prop) (W : World) : Prop := ∃ j v, j < B.n ∧ e j ≠ 0 ∧ RP B w0 all e at_ fl CS id j v W

theorem range_read {N : Nat} {Q : Post} {ρ : Env} {w w0 : World} {g : Operand} {p : Tmp} {assign body : Code} {B : RB} {all : List UInt8} (ok : B.Ok w0) (hw0 : w0.heap.size ≤ w.heap.size)
    (hg : ev N ρ g = .func (.func 65) #[] #[.pointer (some ⟨B.sb, 0, none⟩)]) (hds : ρ.ds = []) (e : Nat → Int) (at_ : Nat → Nat) (fl : Nat → Int) (CS : Nat → Array Value → World → Prop)
    (stC : ∀ j cs, Stab w0.heap.size (CS j cs)) (h0 : RI B w0 all e at_ CS 0 w)
    (hpart : ∀ j f caps W cs, B.fns[j]? = some (f, caps) → CS j cs W → B.At w0 (.int .i64 0) all (at_ j) 0 cs W → Callable Try.prog f ∧ Fn Try.prog f caps W fun v W' => v = .int .i64 (e j) ∧ ∃ cs', CS (j + 1) cs' W' ∧ IsR W' B.gr all (at_ (j + 1)) (fl j) ∧ Blk W' B.wb 48 cs' ∧ Keep [B.gr, B.wb] W W')
    (hassign : ∀ l j v W, j < B.n → RP B w0 all e at_ fl CS (fun _ => .int .i64 0) j v W → EW Try.prog (some l) N assign (fun ex ρ1 W1 => ex = .normal ∧ ρ1 = ρ.round p v ∧ RP B w0 all e at_ fl CS id j v W1 ∧ KeepsOthers W W1) (ρ.round p v) W)
    (hbody : ∀ l j v W, j < B.n → RP B w0 all e at_ fl CS id j v W → EW Try.prog (some l) N body (fun ex ρ1 W1 => KeepsOthers W W1 ∧ ((ex = .normal ∧ RI B w0 all e at_ CS (j + 1) W1) ∨ (ex = .exit 0 ∧ RS B w0 all e at_ fl CS W1))) (ρ.round p v) W)
    (hdone : ∀ D W, RI B w0 all e at_ CS B.n W → W.heap[D]? = some (.deferred (some [])) → w.heap.size ≤ D → Q .normal ⟨ρ.get, [mark D]⟩ W)
    (hstop : ∀ D W, RS B w0 all e at_ fl CS W → W.heap[D]? = some (.deferred (some [])) → w.heap.size ≤ D → Q (.exit 0) ⟨ρ.get, [mark D]⟩ W) :
    EW Try.prog none N (.rangeFunc g #[p] assign body) Q ρ w := by
  have lift : ∀ {I : World → Prop}, Stab w0.heap.size I → Stab w.heap.size I := fun h W W' M hI k hM => h W W' M hI k (fun b hb => ⟨by have := (hM b hb).1; omega, (hM b hb).2⟩)
  have stP : ∀ ec j v, Stab w0.heap.size (RP B w0 all e at_ fl CS ec j v) := fun ec j v W W' M h k hM => by
    obtain ⟨h1, h2, cs, h3, h4⟩ := h
    exact ⟨h1, h2, cs, stC _ _ W W' M h3 k hM, B.stab w0 _ all _ _ cs (Nat.le_refl _) W W' M h4 k hM⟩
  refine ew_rangeEach (id := 0) (fb := B.fb) (n := B.n) (sb := B.sb) (fns := B.fns) hg hds ok.len ok.n1 (RI B w0 all e at_ CS) (RP B w0 all e at_ fl CS (fun _ => .int .i64 0)) (RP B w0 all e at_ fl CS id) (RS B w0 all e at_ fl CS) ?_ (fun j v => lift (stP _ j v)) (fun j v => lift (stP _ j v)) ?_ ?_ h0 ?_ hassign hbody hdone hstop
  · refine fun j => lift fun W W' M h k hM => ?_
    obtain ⟨h1, cs, h3, h4⟩ := h
    exact ⟨h1, cs, stC _ _ W W' M h3 k hM, B.stab w0 _ all _ _ cs (Nat.le_refl _) W W' M h4 k hM⟩
  · refine lift fun W W' M h k hM => ?_
    obtain ⟨j, v, h1, h2, h3⟩ := h
    exact ⟨j, v, h1, h2, stP _ j v W W' M h3 k hM⟩
  · rintro j W ⟨_, cs, _, h⟩
    exact h.2.2.2.2.1
  · rintro j f caps W hfj ⟨h1, cs, h3, h4⟩
    obtain ⟨hc, hf⟩ := hpart j f caps W cs hfj h3 h4
    refine ⟨hc, hf.mono ?_⟩
    rintro v W' ⟨rfl, cs', hC', hR', hb', k'⟩
    obtain ⟨hA, hO⟩ := RB.part ok h4 hR' hb' k'
    exact ⟨⟨h1, rfl, cs', hC', hA⟩, hO⟩
end Go.Proofs.Ytpdgfekimnmdnaa
/- Orders: reading a message, by the first hand. -/
set_option linter.unusedVariables false
set_option linter.unusedSimpArgs false
namespace Go.Proofs.Ytpdgfekimnmdnaa
open Go.RowKit
set_option maxRecDepth 20000

abbrev wordL (k e t v : Int) (u : Value) (node rk re rt rv : Int) (well : Bool) : List Value := [.int .i64 k, .int .i64 e, .int .i64 t, .int .i64 v, u, .int .i64 node, .int .i64 rk, .int .i64 re, .int .i64 rt, .int .i64 rv, .bool well]
abbrev wordZ : Value := .agg #[.int .i64 0, .int .i64 0, .int .i64 0, .int .i64 0, .slice none 0 0, .int .i64 0, .int .i64 0, .int .i64 0, .int .i64 0, .int .i64 0, .bool false]
def ReadQ (all : List UInt8) (w0 : World) (r : Value) (w' : World) : Prop := ∃ u, r = .tuple #[(readR all).1.V u, .int .i64 (readR all).2] ∧ OwnB 5 w' w0.heap.size u (readR all).1.bundle ∧ Keep [] w0 w'

theorem read_ret {ρ : Env} {W w0 : World} {D zb : Nat} {all : List UInt8} {x : WorD} {e : Int} {u : Value} (hx : readR all = (x, e)) (hd : ρ.ds = [mark D]) (h2 : ρ.get 2 = .pointer (some ⟨zb, 0, none⟩)) (h3 : ρ.get 3 = .int .i64 e)
    (hz : Blk W zb 48 (wordL x.k x.e x.t x.v u x.node x.rk x.re x.rt x.rv x.well).toArray) (hD : W.heap[D]? = some (.deferred (some []))) (hDs : w0.heap.size ≤ D) (hk : Keep [] w0 W) (hu : OwnB 5 W w0.heap.size u x.bundle) :
    retPM Try.prog Try.f21 (ReadQ all w0) .ret ρ W := by
  have hne : zb ≠ D := by
    rintro rfl
    cases (hD.symm.trans hz)
  have hz' : Blk (W.putObj D (.deferred none)) zb 48 (wordL x.k x.e x.t x.v u x.node x.rk x.re x.rt x.rv x.well).toArray := (World.putObj_heap_other hne).trans hz
  refine retM_l [.agg (wordL x.k x.e x.t x.v u x.node x.rk x.re x.rt x.rv x.well).toArray, .int .i64 e] rfl hd hD ⟨⟨⟨zb, 0, none⟩, rfl, h2, run_loadVarA rfl rfl rfl hz'⟩, ⟨rfl, h3⟩, trivial⟩ ?_
  refine ⟨u, by rw [hx]; rfl, ?_, hk.trans (Keep.putObj W D _) (by simp; omega)⟩
  rw [hx]
  refine own_keep hu (Keep.putObj W D _) fun b hb => ?_
  obtain ⟨c, hc⟩ := own_typed hu hb
  simp
  rintro rfl
  cases (hD.symm.trans hc)

/-- The cells of an order while it is read. -/
def csO (w0 : World) (k ep tu vv : Int) (bb : List UInt8) (j : Nat) (cs : Array Value) (W : World) : Prop := match j with
  | 0 => cs = zeroA
  | 1 => cs = (wordL k 0 0 0 (.slice none 0 0) 0 0 0 0 0 false).toArray
  | 2 => cs = (wordL k ep 0 0 (.slice none 0 0) 0 0 0 0 0 false).toArray
  | 3 => cs = (wordL k ep tu 0 (.slice none 0 0) 0 0 0 0 0 false).toArray
  | _ => ∃ ad cap, cs = (wordL k ep tu vv (.slice ad bb.length cap) 0 0 0 0 0 false).toArray ∧ OwnB 5 W w0.heap.size (.slice ad bb.length cap) bb
theorem csO_stab (w0 : World) (k ep tu vv : Int) (bb : List UInt8) (j : Nat) (cs : Array Value) : Stab w0.heap.size (csO w0 k ep tu vv bb j cs) := by
  intro W W' M h kk hM
  match j, h with
  | 0, h => exact h
  | 1, h => exact h
  | 2, h => exact h
  | 3, h => exact h
  | j + 4, h =>
    obtain ⟨ad, cap, h1, h2⟩ := h
    exact ⟨ad, cap, h1, own_keepE h2 kk (noE_of fun b hb => (hM b hb).2)⟩
/-- The cells of a report while it is read. -/
def csT (n1 n2 n3 n4 n5 : Int) (we : Bool) (j : Nat) (cs : Array Value) (W : World) : Prop := match j with
  | 0 => cs = zeroA
  | 1 => cs = (wordL 0 0 0 0 (.slice none 0 0) n1 0 0 0 0 false).toArray
  | 2 => cs = (wordL 0 0 0 0 (.slice none 0 0) n1 n2 0 0 0 false).toArray
  | 3 => cs = (wordL 0 0 0 0 (.slice none 0 0) n1 n2 n3 0 0 false).toArray
  | 4 => cs = (wordL 0 0 0 0 (.slice none 0 0) n1 n2 n3 n4 0 false).toArray
  | 5 => cs = (wordL 0 0 0 0 (.slice none 0 0) n1 n2 n3 n4 n5 false).toArray
  | _ => cs = (wordL 0 0 0 0 (.slice none 0 0) n1 n2 n3 n4 n5 we).toArray
theorem csT_stab (w0 : World) (n1 n2 n3 n4 n5 : Int) (we : Bool) (j : Nat) (cs : Array Value) : Stab w0.heap.size (csT n1 n2 n3 n4 n5 we j cs) := by
  intro W W' M h kk hM
  match j, h with
  | 0, h => exact h
  | 1, h => exact h
  | 2, h => exact h
  | 3, h => exact h
  | 4, h => exact h
  | 5, h => exact h
  | j + 6, h => exact h
def seq4 {α : Type} (a b c d : α) : Nat → α
  | 0 => a
  | 1 => b
  | 2 => c
  | _ => d
def seq5 {α : Type} (a b c d e : α) : Nat → α
  | 0 => a
  | 1 => b
  | 2 => c
  | 3 => d
  | _ => e
def seq7 {α : Type} (a b c d e f g : α) : Nat → α
  | 0 => a
  | 1 => b
  | 2 => c
  | 3 => d
  | 4 => e
  | 5 => f
  | _ => g
def seq6 {α : Type} (a b c d e f : α) : Nat → α
  | 0 => a
  | 1 => b
  | 2 => c
  | 3 => d
  | 4 => e
  | _ => f

theorem parts_o (B : RB) (w0 : World) (ok : B.Ok w0) (all : List UInt8) (hfns : B.fns = fnsO B.rb B.ob) (hoff : B.off = 0) (hOT : B.OT = 120) (k e1 f1 ep e2 f2 tu e3 f3 vv e4 f4 : Int) (bb : List UInt8) (a0 a1 a2 a3 a4 : Nat)
    (h1 : rdN all a0 0 3 = (k, e1, a1, f1)) (h2 : rdN all a1 0 2147483647 = (ep, e2, a2, f2)) (h3 : rdN all a2 0 2147483647 = (tu, e3, a3, f3))
    (h4 : (k = 2 ∧ bb = [] ∧ rdN all a3 0 2147483647 = (vv, e4, a4, f4)) ∨ (k ≠ 2 ∧ vv = 0 ∧ rdY all a3 0 80000 = (bb, e4, a4, f4))) :
    ∀ j f caps W cs, B.fns[j]? = some (f, caps) → csO w0 k ep tu vv bb j cs W → B.At w0 (.int .i64 0) all (seq5 a0 a1 a2 a3 a4 j) 0 cs W → Callable Try.prog f ∧ Fn Try.prog f caps W fun v W' => v = .int .i64 (seq4 e1 e2 e3 e4 j) ∧ ∃ cs', csO w0 k ep tu vv bb (j + 1) cs' W' ∧ IsR W' B.gr all (seq5 a0 a1 a2 a3 a4 (j + 1)) (seq4 f1 f2 f3 f4 j) ∧ Blk W' B.wb 48 cs' ∧ Keep [B.gr, B.wb] W W' := by
  intro j f caps W cs hj hcs hA
  obtain ⟨hk0, _, _, _, _, hC, hR⟩ := hA
  rw [hoff, hOT] at hC
  rw [hfns] at hj
  match j, hj, hcs with
  | 0, hj, hcs =>
    injection hj with hj
    injection hj with hf hc
    subst hf; subst hc; subst hcs
    refine ⟨⟨_, _, Try.func67, rfl, rfl⟩, (part_o1 B.rb B.ob B.gr B.wb _ rfl all a0 W hC hR).mono ?_⟩
    intro r W' h
    rw [h1] at h
    obtain ⟨rfl, hR', hb', k'⟩ := h
    exact ⟨rfl, _, rfl, hR', hb', k'⟩
  | 1, hj, hcs =>
    injection hj with hj
    injection hj with hf hc
    subst hf; subst hc; subst hcs
    refine ⟨⟨_, _, Try.func69, rfl, rfl⟩, (part_o2 B.rb B.ob B.gr B.wb _ rfl all a1 W hC hR).mono ?_⟩
    intro r W' h
    rw [h2] at h
    obtain ⟨rfl, hR', hb', k'⟩ := h
    exact ⟨rfl, _, rfl, hR', hb', k'⟩
  | 2, hj, hcs =>
    injection hj with hj
    injection hj with hf hc
    subst hf; subst hc; subst hcs
    refine ⟨⟨_, _, Try.func71, rfl, rfl⟩, (part_o3 B.rb B.ob B.gr B.wb _ rfl all a2 W hC hR).mono ?_⟩
    intro r W' h
    rw [h3] at h
    obtain ⟨rfl, hR', hb', k'⟩ := h
    exact ⟨rfl, _, rfl, hR', hb', k'⟩
  | 3, hj, hcs =>
    injection hj with hj
    injection hj with hf hc
    subst hf; subst hc; subst hcs
    refine ⟨⟨_, _, Try.func72, rfl, rfl⟩, ?_⟩
    rcases h4 with ⟨rfl, rfl, h4⟩ | ⟨hk, rfl, h4⟩
    · refine (part_o4a B.rb B.ob B.gr B.wb _ rfl rfl all a3 W hC hR).mono ?_
      intro r W' h
      rw [h4] at h
      obtain ⟨rfl, hR', hb', k'⟩ := h
      exact ⟨rfl, _, ⟨none, 0, rfl, World.ownsRow_nil _ _ _ _⟩, hR', hb', k'⟩
    · refine (part_o4b B.rb B.ob B.gr B.wb _ rfl k rfl hk all a3 W hC hR).mono ?_
      intro r W' h
      rw [h4] at h
      obtain ⟨x, rfl, hown, hR', hb', k'⟩ := h
      obtain ⟨ad, cap, rfl, _⟩ := own_slice hown
      exact ⟨rfl, _, ⟨ad, cap, rfl, own_lower hown hk0.size⟩, hR', hb', k'⟩
  | j + 4, hj, hcs => cases hj

theorem parts_t (B : RB) (w0 : World) (ok : B.Ok w0) (all : List UInt8) (hfns : B.fns = fnsT B.rb B.ob) (hoff : B.off = 5) (hOT : B.OT = 126) (n1 e1 f1 n2 e2 f2 n3 e3 f3 n4 e4 f4 n5 e5 f5 e6 f6 : Int) (we : Bool) (a0 a1 a2 a3 a4 a5 a6 : Nat)
    (h1 : rdN all a0 0 63 = (n1, e1, a1, f1)) (h2 : rdN all a1 0 4 = (n2, e2, a2, f2)) (h3 : rdN all a2 0 2147483647 = (n3, e3, a3, f3)) (h4 : rdN all a3 0 2147483647 = (n4, e4, a4, f4)) (h5 : rdN all a4 0 2147483647 = (n5, e5, a5, f5)) (h6 : rdT all a5 0 = (we, e6, a6, f6)) :
    ∀ j f caps W cs, B.fns[j]? = some (f, caps) → csT n1 n2 n3 n4 n5 we j cs W → B.At w0 (.int .i64 0) all (seq7 a0 a1 a2 a3 a4 a5 a6 j) 0 cs W → Callable Try.prog f ∧ Fn Try.prog f caps W fun v W' => v = .int .i64 (seq6 e1 e2 e3 e4 e5 e6 j) ∧ ∃ cs', csT n1 n2 n3 n4 n5 we (j + 1) cs' W' ∧ IsR W' B.gr all (seq7 a0 a1 a2 a3 a4 a5 a6 (j + 1)) (seq6 f1 f2 f3 f4 f5 f6 j) ∧ Blk W' B.wb 48 cs' ∧ Keep [B.gr, B.wb] W W' := by
  intro j f caps W cs hj hcs hA
  obtain ⟨hk0, _, _, _, _, hC, hR⟩ := hA
  rw [hoff, hOT] at hC
  rw [hfns] at hj
  match j, hj, hcs with
  | 0, hj, hcs =>
    injection hj with hj
    injection hj with hf hc
    subst hf; subst hc; subst hcs
    refine ⟨⟨_, _, Try.func76, rfl, rfl⟩, (part_t1 B.rb B.ob B.gr B.wb _ rfl all a0 W hC hR).mono ?_⟩
    intro r W' h
    rw [h1] at h
    obtain ⟨rfl, hR', hb', k'⟩ := h
    exact ⟨rfl, _, rfl, hR', hb', k'⟩
  | 1, hj, hcs =>
    injection hj with hj
    injection hj with hf hc
    subst hf; subst hc; subst hcs
    refine ⟨⟨_, _, Try.func78, rfl, rfl⟩, (part_t2 B.rb B.ob B.gr B.wb _ rfl all a1 W hC hR).mono ?_⟩
    intro r W' h
    rw [h2] at h
    obtain ⟨rfl, hR', hb', k'⟩ := h
    exact ⟨rfl, _, rfl, hR', hb', k'⟩
  | 2, hj, hcs =>
    injection hj with hj
    injection hj with hf hc
    subst hf; subst hc; subst hcs
    refine ⟨⟨_, _, Try.func80, rfl, rfl⟩, (part_t3 B.rb B.ob B.gr B.wb _ rfl all a2 W hC hR).mono ?_⟩
    intro r W' h
    rw [h3] at h
    obtain ⟨rfl, hR', hb', k'⟩ := h
    exact ⟨rfl, _, rfl, hR', hb', k'⟩
  | 3, hj, hcs =>
    injection hj with hj
    injection hj with hf hc
    subst hf; subst hc; subst hcs
    refine ⟨⟨_, _, Try.func81, rfl, rfl⟩, (part_t4 B.rb B.ob B.gr B.wb _ rfl all a3 W hC hR).mono ?_⟩
    intro r W' h
    rw [h4] at h
    obtain ⟨rfl, hR', hb', k'⟩ := h
    exact ⟨rfl, _, rfl, hR', hb', k'⟩
  | 4, hj, hcs =>
    injection hj with hj
    injection hj with hf hc
    subst hf; subst hc; subst hcs
    refine ⟨⟨_, _, Try.func82, rfl, rfl⟩, (part_t5 B.rb B.ob B.gr B.wb _ rfl all a4 W hC hR).mono ?_⟩
    intro r W' h
    rw [h5] at h
    obtain ⟨rfl, hR', hb', k'⟩ := h
    exact ⟨rfl, _, rfl, hR', hb', k'⟩
  | 5, hj, hcs =>
    injection hj with hj
    injection hj with hf hc
    subst hf; subst hc; subst hcs
    refine ⟨⟨_, _, Try.func83, rfl, rfl⟩, (part_t6 B.rb B.ob B.gr B.wb _ rfl all a5 W hC hR).mono ?_⟩
    intro r W' h
    rw [h6] at h
    obtain ⟨rfl, hR', hb', k'⟩ := h
    exact ⟨rfl, _, rfl, hR', hb', k'⟩
  | j + 6, hj, hcs => cases hj
end Go.Proofs.Ytpdgfekimnmdnaa
/- Orders: reading a message, by the first hand: the walk. -/
set_option linter.unusedVariables false
set_option linter.unusedSimpArgs false
namespace Go.Proofs.Ytpdgfekimnmdnaa
open Go.RowKit
set_option maxRecDepth 20000

theorem rd_len {all : List UInt8} {at_ : Nat} {flaw : Int} {fine : Bool} {res : List UInt8 → List UInt8 × Int × Nat} (h : ∀ l, (res l).1.length ≤ l.length) : (rdStep [] all at_ flaw fine res).1.length ≤ all.length := by
  have h1 := h (all.drop at_)
  rw [List.length_drop] at h1
  unfold rdStep
  split
  · simp
  · split
    · simp
    · split
      · dsimp only; omega
      · simp
theorem rdY_len {all : List UInt8} {a : Nat} {f g : Int} {x : List UInt8} {e : Int} {a' : Nat} {f' : Int} (h : rdY all a f g = (x, e, a', f')) : x.length ≤ all.length := by
  have h1 : (rdY all a f g).1.length ≤ all.length := rd_len fun l => by
    unfold bytesR
    split
    · simp
    · split
      · simp
      · simp only [List.length_take, List.length_drop]; omega
  rw [h] at h1
  exact h1
theorem readW_1 {all : List UInt8} {a0 : Nat} {f : Int} (h : rdN all 0 0 2 = (1, 0, a0, f)) : readW all = fin all (readO all a0) := by
  unfold readW
  rw [stepN_ok h]
  rfl
theorem readW_2 {all : List UInt8} {a0 : Nat} {f : Int} (h : rdN all 0 0 2 = (2, 0, a0, f)) : readW all = fin all (readT all a0) := by
  unfold readW
  rw [stepN_ok h]
  rfl
theorem readW_0 {all : List UInt8} {a0 : Nat} {n e f : Int} (h : rdN all 0 0 2 = (n, e, a0, f)) (h1 : n ≠ 1) (h2 : n ≠ 2) : readW all = none := by
  unfold readW
  by_cases he : e = 0
  · subst he
    rw [stepN_ok h]
    simp [h1, h2]
  · rw [stepN_err h he]
    rfl
section
variable {all : List UInt8} {k e1 f1 ep e2 f2 tu e3 f3 vv e4 f4 : Int} {bb : List UInt8} {a0 a1 a2 a3 a4 : Nat}
  (h1 : rdN all a0 0 3 = (k, e1, a1, f1)) (h2 : rdN all a1 0 2147483647 = (ep, e2, a2, f2)) (h3 : rdN all a2 0 2147483647 = (tu, e3, a3, f3))
  (h4 : (k = 2 ∧ bb = [] ∧ rdN all a3 0 2147483647 = (vv, e4, a4, f4)) ∨ (k ≠ 2 ∧ vv = 0 ∧ rdY all a3 0 80000 = (bb, e4, a4, f4)))
include h1 h2 h3 h4
theorem readO_ok (q1 : e1 = 0) (q2 : e2 = 0) (q3 : e3 = 0) (q4 : e4 = 0) : readO all a0 = some (⟨k, ep, tu, vv, bb, 0, 0, 0, 0, 0, false⟩, a4) := by
  subst q1; subst q2; subst q3; subst q4
  unfold readO
  rw [stepN_ok h1]
  simp only [Option.bind_some]
  rw [stepN_ok h2]
  simp only [Option.bind_some]
  rw [stepN_ok h3]
  simp only [Option.bind_some]
  rcases h4 with ⟨hk, rfl, h4⟩ | ⟨hk, rfl, h4⟩
  · rw [if_pos hk, stepN_ok h4]
    rfl
  · rw [if_neg hk, stepY_ok h4]
    rfl
theorem readO_err (j : Nat) (hj : j < 4) (hp : ∀ i, i < j → seq4 e1 e2 e3 e4 i = 0) (hne : seq4 e1 e2 e3 e4 j ≠ 0) : readO all a0 = none := by
  unfold readO
  match j, hj, hp, hne with
  | 0, _, _, hne =>
    rw [stepN_err h1 hne]
    rfl
  | 1, _, hp, hne =>
    have q1 : e1 = 0 := hp 0 (by omega)
    subst q1
    rw [stepN_ok h1]
    simp only [Option.bind_some]
    rw [stepN_err h2 hne]
    rfl
  | 2, _, hp, hne =>
    have q1 : e1 = 0 := hp 0 (by omega)
    have q2 : e2 = 0 := hp 1 (by omega)
    subst q1; subst q2
    rw [stepN_ok h1]
    simp only [Option.bind_some]
    rw [stepN_ok h2]
    simp only [Option.bind_some]
    rw [stepN_err h3 hne]
    rfl
  | 3, _, hp, hne =>
    have q1 : e1 = 0 := hp 0 (by omega)
    have q2 : e2 = 0 := hp 1 (by omega)
    have q3 : e3 = 0 := hp 2 (by omega)
    subst q1; subst q2; subst q3
    rw [stepN_ok h1]
    simp only [Option.bind_some]
    rw [stepN_ok h2]
    simp only [Option.bind_some]
    rw [stepN_ok h3]
    simp only [Option.bind_some]
    rcases h4 with ⟨hk, rfl, h4⟩ | ⟨hk, rfl, h4⟩
    · rw [if_pos hk, stepN_err h4 hne]
      rfl
    · rw [if_neg hk, stepY_err h4 hne]
      rfl
end
section
variable {all : List UInt8} {n1 e1 f1 n2 e2 f2 n3 e3 f3 n4 e4 f4 n5 e5 f5 e6 f6 : Int} {we : Bool} {a0 a1 a2 a3 a4 a5 a6 : Nat}
  (h1 : rdN all a0 0 63 = (n1, e1, a1, f1)) (h2 : rdN all a1 0 4 = (n2, e2, a2, f2)) (h3 : rdN all a2 0 2147483647 = (n3, e3, a3, f3)) (h4 : rdN all a3 0 2147483647 = (n4, e4, a4, f4)) (h5 : rdN all a4 0 2147483647 = (n5, e5, a5, f5)) (h6 : rdT all a5 0 = (we, e6, a6, f6))
include h1 h2 h3 h4 h5 h6
theorem readT_ok (q1 : e1 = 0) (q2 : e2 = 0) (q3 : e3 = 0) (q4 : e4 = 0) (q5 : e5 = 0) (q6 : e6 = 0) : readT all a0 = some (⟨0, 0, 0, 0, [], n1, n2, n3, n4, n5, we⟩, a6) := by
  subst q1; subst q2; subst q3; subst q4; subst q5; subst q6
  unfold readT
  rw [stepN_ok h1]
  simp only [Option.bind_some]
  rw [stepN_ok h2]
  simp only [Option.bind_some]
  rw [stepN_ok h3]
  simp only [Option.bind_some]
  rw [stepN_ok h4]
  simp only [Option.bind_some]
  rw [stepN_ok h5]
  simp only [Option.bind_some]
  rw [stepT_ok h6]
  rfl
theorem readT_err (j : Nat) (hj : j < 6) (hp : ∀ i, i < j → seq6 e1 e2 e3 e4 e5 e6 i = 0) (hne : seq6 e1 e2 e3 e4 e5 e6 j ≠ 0) : readT all a0 = none := by
  unfold readT
  cases hs1 : stepN all 63 a0 with
  | none => rfl
  | some p1 =>
    have q1 : e1 = 0 := by
      by_cases q : e1 = 0
      · exact q
      · rw [stepN_err h1 q] at hs1; cases hs1
    subst q1
    rw [stepN_ok h1] at hs1
    injection hs1 with hs1
    subst hs1
    simp only [Option.bind_some]
    cases hs2 : stepN all 4 a1 with
    | none => rfl
    | some p2 =>
      have q2 : e2 = 0 := by
        by_cases q : e2 = 0
        · exact q
        · rw [stepN_err h2 q] at hs2; cases hs2
      subst q2
      rw [stepN_ok h2] at hs2
      injection hs2 with hs2
      subst hs2
      simp only [Option.bind_some]
      cases hs3 : stepN all 2147483647 a2 with
      | none => rfl
      | some p3 =>
        have q3 : e3 = 0 := by
          by_cases q : e3 = 0
          · exact q
          · rw [stepN_err h3 q] at hs3; cases hs3
        subst q3
        rw [stepN_ok h3] at hs3
        injection hs3 with hs3
        subst hs3
        simp only [Option.bind_some]
        cases hs4 : stepN all 2147483647 a3 with
        | none => rfl
        | some p4 =>
          have q4 : e4 = 0 := by
            by_cases q : e4 = 0
            · exact q
            · rw [stepN_err h4 q] at hs4; cases hs4
          subst q4
          rw [stepN_ok h4] at hs4
          injection hs4 with hs4
          subst hs4
          simp only [Option.bind_some]
          cases hs5 : stepN all 2147483647 a4 with
          | none => rfl
          | some p5 =>
            have q5 : e5 = 0 := by
              by_cases q : e5 = 0
              · exact q
              · rw [stepN_err h5 q] at hs5; cases hs5
            subst q5
            rw [stepN_ok h5] at hs5
            injection hs5 with hs5
            subst hs5
            simp only [Option.bind_some]
            have q6 : e6 ≠ 0 := by
              match j, hj, hne with
              | 0, _, hne => exact absurd rfl hne
              | 1, _, hne => exact absurd rfl hne
              | 2, _, hne => exact absurd rfl hne
              | 3, _, hne => exact absurd rfl hne
              | 4, _, hne => exact absurd rfl hne
              | 5, _, hne => exact hne
            rw [stepT_err h6 q6]
            rfl
end
theorem csO_keep {w0 : World} {k ep tu vv : Int} {bb : List UInt8} {j : Nat} {cs : Array Value} {W W' : World} {b : Nat} {T : TypeId} {c : Array Value} (h : csO w0 k ep tu vv bb j cs W) (kk : Keep [b] W W') (hb : Blk W b T c) (hT : T ≠ 5) : csO w0 k ep tu vv bb j cs W' := by
  match j, h with
  | 0, h => exact h
  | 1, h => exact h
  | 2, h => exact h
  | 3, h => exact h
  | j + 4, h =>
    obtain ⟨ad, cap, h1, h2⟩ := h
    exact ⟨ad, cap, h1, own_keep h2 kk (own_ne h2 hb hT)⟩
theorem csT_keep {n1 n2 n3 n4 n5 : Int} {we : Bool} {j : Nat} {cs : Array Value} {W W' : World} {b : Nat} {T : TypeId} {c : Array Value} (h : csT n1 n2 n3 n4 n5 we j cs W) (kk : Keep [b] W W') (hb : Blk W b T c) (hT : T ≠ 5) : csT n1 n2 n3 n4 n5 we j cs W' := by
  match j, h with
  | 0, h => exact h
  | 1, h => exact h
  | 2, h => exact h
  | 3, h => exact h
  | 4, h => exact h
  | 5, h => exact h
  | j + 6, h => exact h
end Go.Proofs.Ytpdgfekimnmdnaa
/- Orders: reading a message, by the first hand: the walk. -/
set_option linter.unusedVariables false
set_option linter.unusedSimpArgs false
namespace Go.Proofs.Ytpdgfekimnmdnaa
open Go.RowKit
set_option maxRecDepth 20000

set_option maxHeartbeats 4000000 in
theorem Read_ok (v : Value) (all : List UInt8) (w0 : World) (hv : RdB w0 v all) (hal : all.length ≤ 70368744177664) : Fn Try.prog 21 [v] w0 (ReadQ all w0) := by
  obtain ⟨⟨n, e0, a0, f0⟩, hS0⟩ : ∃ s, rdN all 0 0 2 = s := ⟨_, rfl⟩
  have hS0' : (rdStep 0 all 0 0 (decide ((2 : Int) ≥ 0)) fun l => numR l 2) = (n, e0, a0, f0) := hS0
  obtain ⟨ad, cap, rfl, hcap⟩ := hv.slice
  refine fn_enterM Try.func21 rfl rfl ?_
  refine sp rfl ?_
  refine el_alloc (z := wordZ) zeroA rfl rfl rfl rfl ?_
  intro zb w1 z1 z1' k1 hz1
  refine ep rfl ?_
  refine ew_scope ?_
  refine sp rfl ?_
  refine el_call rfl rfl rfl rfl rfl rfl (read_ok _ all w1 (hv.keep0 k1) hal) ?_
  rintro _ w2 ⟨gr, rfl, hgr, hR2, k2⟩
  have hz2 := k2.blk hz1 (by simp)
  refine ep rfl ?_
  refine sp rfl ?_
  refine el_call rfl rfl rfl rfl rfl rfl (rnumber_ok gr all 0 0 2 w2 hR2) ?_
  intro rv w3 h3
  rw [hS0'] at h3
  obtain ⟨rfl, hR3, k3⟩ := h3
  dsimp only at hR3
  have hgz : zb ≠ gr := hR2.ne hz2 (by decide)
  have hz3 := k3.blk hz2 (by simpa using hgz)
  have k03 : Keep [] w0 w3 := (k1.trans0 k2).trans k3 (by have := k1.size; simp; omega)
  refine pp rfl ?_
  refine el_alloc (z := .int .i64 0) #[.int .i64 0] rfl rfl rfl rfl ?_
  intro eb w4 x4 x4' k4 he4
  refine pp rfl ?_
  refine el_store #[.int .i64 e0] rfl rfl rfl rfl rfl rfl rfl rfl he4 rfl rfl ?_
  intro w5 k5 hs5 he5
  have k35 : Keep [] w3 w5 := k4.trans k5 (by simp; omega)
  refine ep rfl ?_
  refine sp rfl ?_
  refine el_call rfl rfl rfl rfl rfl rfl (forms_ok w5) ?_
  rintro _ w6 ⟨mb, cb, rfl, hcb, hm6, hc6, k6⟩
  have k36 := k35.trans0 k6
  have he6 := k6.blk he5 (by simp)
  have hz6 := k36.blk hz3 (by simp)
  have hR6 := hR3.keep0 k36
  have k06 := k03.trans0 k36
  refine pp rfl ?_
  by_cases hn1 : n = 1
  · skip
    subst hn1
    have he0 : e0 = 0 := by
      by_cases q : e0 = 0
      · exact q
      · have := rdN_err hS0 q
        omega
    subst he0
    have hf0 := rdN_zero hS0
    subst hf0
    refine el_lookup (k := 2) (e := 83) (q := .i64) (q' := .i64) (z := .agg #[.nilFunc, .nilFunc]) (v := formA 66 74 cb) (ok := true) rfl rfl rfl rfl rfl rfl hm6 rfl rfl ?_
    refine pp rfl ?_
    refine el_alloc (z := .agg #[.nilFunc, .nilFunc]) #[.nilFunc, .nilFunc] rfl rfl rfl rfl ?_
    intro f7 w7 x7 x7' k7 hf7
    refine el_store #[.func (.func 66) #[] #[.pointer (some ⟨cb, 0, none⟩)], .func (.func 74) #[] #[]] rfl rfl rfl rfl rfl rfl rfl rfl hf7 rfl rfl ?_
    intro w8 k8 hs8 hf8
    have k68 : Keep [] w6 w8 := k7.trans k8 (by simp; omega)
    have he8 := k68.blk he6 (by simp)
    refine ep rfl ?_
    refine ew_seq (sp rfl ?_)
    refine el_loadb rfl rfl rfl rfl rfl he8 rfl ?_
    refine el_neqi (a := 0) (b := 0) (k := .i64) false rfl rfl rfl rfl rfl ?_
    refine ep rfl ?_
    refine ew_cond_f rfl rfl ?_
    refine ew_skip ?_
    refine sp rfl ?_
    refine el_alloc (z := wordZ) zeroA rfl rfl rfl rfl ?_
    intro wb w9 x9 x9' k9 hwb9
    have k69 := k68.trans0 k9
    have hf9 := k9.blk hf8 (by simp)
    have hc9 := k69.blk hc6 (by simp)
    refine ep rfl ?_
    refine ew_seq (ew_label ?_)
    refine ew_seq (sp rfl ?_)
    refine el_loadb rfl rfl rfl rfl rfl hf9 rfl ?_
    refine pp rfl ?_
    refine el_callv (first := []) (captured := [.pointer (some ⟨cb, 0, none⟩)]) rfl rfl rfl Try.func66 rfl rfl rfl (formO_ok gr wb cb w9 hc9) ?_
    rintro _ w10 ⟨sb, fb, rb, ob, rfl, hsb, hfb, hrb, hob, hP, hr10, ho10, k10⟩
    have k610 := k69.trans0 k10
    refine ep rfl ?_
    refine ew_block ?_
    have q1 := k06.size
    have q2 := k610.size
    have q3 := k35.size
    have q4 := k1.size
    have q5 := Blk.lt hz6
    have q6 := k68.size
    have q7 := k03.size
    let B : RB := { zb := zb, eb := eb, f7 := f7, rb := rb, ob := ob, gr := gr, wb := wb, sb := sb, fb := fb, n := 4, off := 0, OT := 120, fns := fnsO rb ob, fc := #[.func (.func 66) #[] #[.pointer (some ⟨cb, 0, none⟩)], .func (.func 74) #[] #[]] }
    have ok : B.Ok w0 := ⟨by show zb ≠ wb; omega, by show w0.heap.size ≤ gr; omega, by show w0.heap.size ≤ wb; omega, by show w0.heap.size ≤ eb; omega, rfl, by show 4 ≤ 100; omega, by show (120 : Nat) ≠ 113; decide, by show (120 : Nat) ≠ 48; decide, by show (120 : Nat) ≠ 27; decide⟩
    have hA0 : B.At w0 (.int .i64 0) all a0 0 zeroA w10 := ⟨k06.trans0 k610, k610.blk hz6 (by simp), k610.blk he6 (by simp), k10.blk hf9 (by simp), hP, ⟨hr10, ho10, k10.blk hwb9 (by simp)⟩, hR6.keep0 k610⟩
    obtain ⟨⟨k, e1, a1, f1⟩, h1⟩ : ∃ s, rdN all a0 0 3 = s := ⟨_, rfl⟩
    obtain ⟨⟨ep_, e2, a2, f2⟩, h2⟩ : ∃ s, rdN all a1 0 2147483647 = s := ⟨_, rfl⟩
    obtain ⟨⟨tu, e3, a3, f3⟩, h3⟩ : ∃ s, rdN all a2 0 2147483647 = s := ⟨_, rfl⟩
    obtain ⟨vv, bb, e4, a4, f4, h4⟩ : ∃ vv bb e4 a4 f4, (k = 2 ∧ bb = [] ∧ rdN all a3 0 2147483647 = (vv, e4, a4, f4)) ∨ (k ≠ 2 ∧ vv = 0 ∧ rdY all a3 0 80000 = (bb, e4, a4, f4)) := by
      by_cases hk : k = 2
      · exact ⟨_, [], _, _, _, .inl ⟨hk, rfl, rfl⟩⟩
      · exact ⟨0, _, _, _, _, .inr ⟨hk, rfl, rfl⟩⟩
    have hbb : bb.length ≤ all.length := by
      rcases h4 with ⟨_, rfl, _⟩ | ⟨_, _, h4⟩
      · simp
      · exact rdY_len h4
    have hfl : ∀ j, j < 4 → seq4 e1 e2 e3 e4 j = 0 → seq4 f1 f2 f3 f4 j = 0 := by
      intro j hj he
      match j, hj, he with
      | 0, _, he =>
        have he : e1 = 0 := he
        subst he
        exact rdN_zero h1
      | 1, _, he =>
        have he : e2 = 0 := he
        subst he
        exact rdN_zero h2
      | 2, _, he =>
        have he : e3 = 0 := he
        subst he
        exact rdN_zero h3
      | 3, _, he =>
        have he : e4 = 0 := he
        subst he
        rcases h4 with ⟨_, _, h4⟩ | ⟨_, _, h4⟩
        · exact rdN_zero h4
        · exact rdY_zero h4
    let EE : Nat → Int := seq4 e1 e2 e3 e4
    let FF : Nat → Int := seq4 f1 f2 f3 f4
    let AA : Nat → Nat := seq5 a0 a1 a2 a3 a4
    refine range_read (B := B) ok (by omega) rfl rfl EE AA FF (csO w0 k ep_ tu vv bb) (csO_stab w0 k ep_ tu vv bb) ⟨fun i hi => by omega, zeroA, rfl, hA0⟩ (parts_o B w0 ok all rfl rfl rfl k e1 f1 ep_ e2 f2 tu e3 f3 vv e4 f4 bb a0 a1 a2 a3 a4 h1 h2 h3 h4)
      (by
        rintro l j v W hj ⟨q1, rfl, cs, hcs, hA⟩
        refine gp rfl ?_
        refine el_store #[.int .i64 (EE j)] rfl rfl rfl rfl rfl rfl rfl rfl hA.2.2.1 rfl rfl ?_
        intro W' kk hs hb
        obtain ⟨hA', hO⟩ := RB.setE ok hA hb kk
        refine ep rfl ?_
        exact ⟨rfl, rfl, ⟨q1, rfl, cs, csO_keep hcs kk hA.2.2.1 (by decide), hA'⟩, hO⟩)
      (by
        rintro l j v W hj ⟨q1, rfl, cs, hcs, hA⟩
        have heb := hA.2.2.1
        refine ew_block ?_
        refine sp rfl ?_
        refine el_loadb rfl rfl rfl rfl rfl heb rfl ?_
        by_cases he : EE j = 0
        · refine el_neqi (a := EE j) (b := 0) (k := .i64) false (by simpa using he) rfl rfl rfl rfl ?_
          refine ep rfl ?_
          refine ew_cond_f rfl rfl ?_
          refine ew_skip ?_
          have hf : FF j = 0 := hfl j hj he
          have hA2 : B.At w0 (.int .i64 0) all (AA (j + 1)) 0 cs W := by
            have hA3 : B.At w0 (.int .i64 (EE j)) all (AA (j + 1)) (FF j) cs W := hA
            rw [he, hf] at hA3
            exact hA3
          exact ⟨KeepsOthers.refl W, .inl ⟨rfl, fun i hi => by
            by_cases hij : i = j
            · rw [hij]; exact he
            · exact q1 i (by omega), cs, hcs, hA2⟩⟩
        · refine el_neqi (a := EE j) (b := 0) (k := .i64) true (by simpa using he) rfl rfl rfl rfl ?_
          refine ep rfl ?_
          refine ew_cond_t rfl rfl ?_
          refine ew_exit ?_
          exact ⟨KeepsOthers.refl W, .inr ⟨rfl, j, _, hj, he, q1, rfl, cs, hcs, hA⟩⟩)
      ?_ ?_
    · intro D W hI hD hDs
      obtain ⟨hes, cs, hcs, hA⟩ := hI
      obtain ⟨adu, capu, rfl, hown⟩ := hcs
      have hro := readO_ok h1 h2 h3 h4 (hes 0 (show 0 < 4 by decide)) (hes 1 (show 1 < 4 by decide)) (hes 2 (show 2 < 4 by decide)) (hes 3 (show 3 < 4 by decide))
      have hk : Keep [] w0 W := hA.1
      have hz : Blk W zb 48 zeroA := hA.2.1
      have heb : Blk W eb 27 #[.int .i64 0] := hA.2.2.1
      have hf := hA.2.2.2.1
      have hwb := hA.2.2.2.2.2.1.2.2
      have hR : IsR W gr all a4 0 := hA.2.2.2.2.2.2
      have hle := hR.2.1
      refine ew_seq (sp rfl ?_)
      refine el_loadb rfl rfl rfl rfl rfl heb rfl ?_
      refine el_neqi (a := 0) (b := 0) (k := .i64) false rfl rfl rfl rfl rfl ?_
      refine pp rfl ?_
      refine el_call rfl rfl rfl rfl rfl rfl (rend_ok gr all a4 0 W hR) ?_
      rintro _ _ ⟨rfl, rfl⟩
      by_cases hlt : a4 < all.length
      · have eE : (if (0 : Int) ≠ 0 then (0 : Int) else if a4 < all.length then 122 else 0) = 122 := by simp [hlt]
        rw [eE]
        refine el_neqi (a := 122) (b := 0) (k := .i64) true rfl rfl rfl rfl rfl ?_
        refine ep rfl ?_
        refine ew_cond_t rfl rfl ?_
        refine sp rfl ?_
        refine el_build (z := wordZ) (vs := wordL 0 0 0 0 (.slice none 0 0) 0 0 0 0 0 false) rfl rfl rfl rfl rfl rfl ?_
        refine el_store zeroA rfl rfl rfl rfl rfl rfl rfl rfl hz rfl rfl ?_
        intro W9 k9' hs9 hz9
        refine ep rfl ?_
        have hDz : D ∉ [zb] := by
          simp
          rintro rfl
          cases (hD.symm.trans hz)
        exact ew_ret (read_ret (x := zeroW) (e := 270) (u := .slice none 0 0) (readR_none (by rw [readW_1 hS0, hro]; simp [fin]; omega)) rfl rfl rfl hz9 (k9'.blk hD hDz) (by omega) (hk.trans k9' (by simp; omega)) (World.ownsRow_nil _ _ _ _))
      have eE : (if (0 : Int) ≠ 0 then (0 : Int) else if a4 < all.length then 122 else 0) = 0 := by simp [hlt]
      rw [eE]
      refine el_neqi (a := 0) (b := 0) (k := .i64) false rfl rfl rfl rfl rfl ?_
      refine pp rfl ?_
      refine el_loadb rfl rfl rfl rfl rfl hf rfl ?_
      refine el_loada (vs := (wordL k ep_ tu vv (.slice adu bb.length capu) 0 0 0 0 0 false)) rfl rfl rfl rfl rfl rfl hwb rfl ?_
      refine el_callv (first := []) (captured := []) rfl rfl rfl Try.func74 rfl rfl rfl (wrongO_ok ⟨k, ep_, tu, vv, bb, 0, 0, 0, 0, 0, false⟩ adu capu (by show bb.length ≤ 9223372036854775807; omega) W) ?_
      rintro _ W2 ⟨rfl, k2'⟩
      have hz := k2'.blk hz (by simp)
      have hwb := k2'.blk hwb (by simp)
      have hD := k2'.blk hD (by simp)
      have hk := hk.trans0 k2'
      by_cases hE : ordE k ep_ tu vv bb.length = 0
      · rw [hE]
        refine el_neqi (a := 0) (b := 0) (k := .i64) false rfl rfl rfl rfl rfl ?_
        refine ep rfl ?_
        refine ew_cond_f rfl rfl ?_
        refine ew_skip ?_
        refine sp rfl ?_
        refine el_loada (vs := (wordL k ep_ tu vv (.slice adu bb.length capu) 0 0 0 0 0 false)) rfl rfl rfl rfl rfl rfl hwb rfl ?_
        refine el_store ((wordL k ep_ tu vv (.slice adu bb.length capu) 0 0 0 0 0 false)).toArray rfl rfl rfl rfl rfl rfl rfl rfl hz rfl rfl ?_
        intro W9 k9' hs9 hz9
        refine ep rfl ?_
        have hDz : D ∉ [zb] := by
          simp
          rintro rfl
          cases (hD.symm.trans hz)
        have hrs : readR all = ((⟨k, ep_, tu, vv, bb, 0, 0, 0, 0, 0, false⟩ : WorD), 0) := readR_some (by rw [readW_1 hS0, hro]; simp only [fin, Option.bind_some]; rw [if_pos ⟨by omega, (by rw [E_order]; exact hE)⟩])
        refine ew_ret (read_ret (x := (⟨k, ep_, tu, vv, bb, 0, 0, 0, 0, 0, false⟩ : WorD)) (e := 0) hrs rfl rfl rfl hz9 (k9'.blk hD hDz) (by omega) (hk.trans k9' (by simp; omega)) ?_)
        exact own_keep (own_keep hown k2' (by simp)) k9' (own_ne (own_keep hown k2' (by simp)) hz (by decide))
      · refine el_neqi (b := 0) (k := .i64) true (by simpa using hE) rfl rfl rfl rfl ?_
        refine ep rfl ?_
        refine ew_cond_t rfl rfl ?_
        refine sp rfl ?_
        refine el_build (z := wordZ) (vs := wordL 0 0 0 0 (.slice none 0 0) 0 0 0 0 0 false) rfl rfl rfl rfl rfl rfl ?_
        refine el_store zeroA rfl rfl rfl rfl rfl rfl rfl rfl hz rfl rfl ?_
        intro W9 k9' hs9 hz9
        refine ep rfl ?_
        have hDz : D ∉ [zb] := by
          simp
          rintro rfl
          cases (hD.symm.trans hz)
        exact ew_ret (read_ret (x := zeroW) (e := 270) (u := .slice none 0 0) (readR_none (by rw [readW_1 hS0, hro]; simp only [fin, Option.bind_some]; rw [if_neg (fun h => hE (((by rw [E_order] : _ ↔ _)).1 h.2))])) rfl rfl rfl hz9 (k9'.blk hD hDz) (by omega) (hk.trans k9' (by simp; omega)) (World.ownsRow_nil _ _ _ _))
    · intro D W hS hD hDs
      obtain ⟨j, v, hj, hne, hp, rfl, cs, hcs, hA⟩ := hS
      have hk : Keep [] w0 W := hA.1
      have hz : Blk W zb 48 zeroA := hA.2.1
      have heb : Blk W eb 27 #[.int .i64 (EE j)] := hA.2.2.1
      refine ew_seq (sp rfl ?_)
      refine el_loadb rfl rfl rfl rfl rfl heb rfl ?_
      refine el_neqi (a := EE j) (b := 0) (k := .i64) true (by simpa using hne) rfl rfl rfl rfl ?_
      refine ep rfl ?_
      refine ew_cond_t rfl rfl ?_
      refine sp rfl ?_
      refine el_build (z := wordZ) (vs := wordL 0 0 0 0 (.slice none 0 0) 0 0 0 0 0 false) rfl rfl rfl rfl rfl rfl ?_
      refine el_store zeroA rfl rfl rfl rfl rfl rfl rfl rfl hz rfl rfl ?_
      intro W9 k9' hs9 hz9
      refine ep rfl ?_
      have hDz : D ∉ [zb] := by
        simp
        rintro rfl
        cases (hD.symm.trans hz)
      exact ew_ret (read_ret (x := zeroW) (e := 270) (u := .slice none 0 0) (readR_none (by rw [readW_1 hS0, readO_err h1 h2 h3 h4 j hj hp hne]; rfl)) rfl rfl rfl hz9 (k9'.blk hD hDz) (by omega) (hk.trans k9' (by simp; omega)) (World.ownsRow_nil _ _ _ _))
  by_cases hn2 : n = 2
  · skip
    subst hn2
    have he0 : e0 = 0 := by
      by_cases q : e0 = 0
      · exact q
      · have := rdN_err hS0 q
        omega
    subst he0
    have hf0 := rdN_zero hS0
    subst hf0
    refine el_lookup (k := 2) (e := 83) (q := .i64) (q' := .i64) (z := .agg #[.nilFunc, .nilFunc]) (v := formA 75 85 cb) (ok := true) rfl rfl rfl rfl rfl rfl hm6 rfl rfl ?_
    refine pp rfl ?_
    refine el_alloc (z := .agg #[.nilFunc, .nilFunc]) #[.nilFunc, .nilFunc] rfl rfl rfl rfl ?_
    intro f7 w7 x7 x7' k7 hf7
    refine el_store #[.func (.func 75) #[] #[.pointer (some ⟨cb, 0, none⟩)], .func (.func 85) #[] #[]] rfl rfl rfl rfl rfl rfl rfl rfl hf7 rfl rfl ?_
    intro w8 k8 hs8 hf8
    have k68 : Keep [] w6 w8 := k7.trans k8 (by simp; omega)
    have he8 := k68.blk he6 (by simp)
    refine ep rfl ?_
    refine ew_seq (sp rfl ?_)
    refine el_loadb rfl rfl rfl rfl rfl he8 rfl ?_
    refine el_neqi (a := 0) (b := 0) (k := .i64) false rfl rfl rfl rfl rfl ?_
    refine ep rfl ?_
    refine ew_cond_f rfl rfl ?_
    refine ew_skip ?_
    refine sp rfl ?_
    refine el_alloc (z := wordZ) zeroA rfl rfl rfl rfl ?_
    intro wb w9 x9 x9' k9 hwb9
    have k69 := k68.trans0 k9
    have hf9 := k9.blk hf8 (by simp)
    have hc9 := k69.blk hc6 (by simp)
    refine ep rfl ?_
    refine ew_seq (ew_label ?_)
    refine ew_seq (sp rfl ?_)
    refine el_loadb rfl rfl rfl rfl rfl hf9 rfl ?_
    refine pp rfl ?_
    refine el_callv (first := []) (captured := [.pointer (some ⟨cb, 0, none⟩)]) rfl rfl rfl Try.func75 rfl rfl rfl (formT_ok gr wb cb w9 hc9) ?_
    rintro _ w10 ⟨sb, fb, rb, ob, rfl, hsb, hfb, hrb, hob, hP, hr10, ho10, k10⟩
    have k610 := k69.trans0 k10
    refine ep rfl ?_
    refine ew_block ?_
    have q1 := k06.size
    have q2 := k610.size
    have q3 := k35.size
    have q4 := k1.size
    have q5 := Blk.lt hz6
    have q6 := k68.size
    have q7 := k03.size
    let B : RB := { zb := zb, eb := eb, f7 := f7, rb := rb, ob := ob, gr := gr, wb := wb, sb := sb, fb := fb, n := 6, off := 5, OT := 126, fns := fnsT rb ob, fc := #[.func (.func 75) #[] #[.pointer (some ⟨cb, 0, none⟩)], .func (.func 85) #[] #[]] }
    have ok : B.Ok w0 := ⟨by show zb ≠ wb; omega, by show w0.heap.size ≤ gr; omega, by show w0.heap.size ≤ wb; omega, by show w0.heap.size ≤ eb; omega, rfl, by show 6 ≤ 100; omega, by show (126 : Nat) ≠ 113; decide, by show (126 : Nat) ≠ 48; decide, by show (126 : Nat) ≠ 27; decide⟩
    have hA0 : B.At w0 (.int .i64 0) all a0 0 zeroA w10 := ⟨k06.trans0 k610, k610.blk hz6 (by simp), k610.blk he6 (by simp), k10.blk hf9 (by simp), hP, ⟨hr10, ho10, k10.blk hwb9 (by simp)⟩, hR6.keep0 k610⟩
    obtain ⟨⟨n1, e1, a1, f1⟩, h1⟩ : ∃ s, rdN all a0 0 63 = s := ⟨_, rfl⟩
    obtain ⟨⟨n2, e2, a2, f2⟩, h2⟩ : ∃ s, rdN all a1 0 4 = s := ⟨_, rfl⟩
    obtain ⟨⟨n3, e3, a3, f3⟩, h3⟩ : ∃ s, rdN all a2 0 2147483647 = s := ⟨_, rfl⟩
    obtain ⟨⟨n4, e4, a4, f4⟩, h4⟩ : ∃ s, rdN all a3 0 2147483647 = s := ⟨_, rfl⟩
    obtain ⟨⟨n5, e5, a5, f5⟩, h5⟩ : ∃ s, rdN all a4 0 2147483647 = s := ⟨_, rfl⟩
    obtain ⟨⟨we, e6, a6, f6⟩, h6⟩ : ∃ s, rdT all a5 0 = s := ⟨_, rfl⟩
    have hfl : ∀ j, j < 6 → seq6 e1 e2 e3 e4 e5 e6 j = 0 → seq6 f1 f2 f3 f4 f5 f6 j = 0 := by
      intro j hj he
      match j, hj, he with
      | 0, _, he =>
        have he : e1 = 0 := he
        subst he
        exact rdN_zero h1
      | 1, _, he =>
        have he : e2 = 0 := he
        subst he
        exact rdN_zero h2
      | 2, _, he =>
        have he : e3 = 0 := he
        subst he
        exact rdN_zero h3
      | 3, _, he =>
        have he : e4 = 0 := he
        subst he
        exact rdN_zero h4
      | 4, _, he =>
        have he : e5 = 0 := he
        subst he
        exact rdN_zero h5
      | 5, _, he =>
        have he : e6 = 0 := he
        subst he
        exact rdT_zero h6
    let EE : Nat → Int := seq6 e1 e2 e3 e4 e5 e6
    let FF : Nat → Int := seq6 f1 f2 f3 f4 f5 f6
    let AA : Nat → Nat := seq7 a0 a1 a2 a3 a4 a5 a6
    refine range_read (B := B) ok (by omega) rfl rfl EE AA FF (csT n1 n2 n3 n4 n5 we) (csT_stab w0 n1 n2 n3 n4 n5 we) ⟨fun i hi => by omega, zeroA, rfl, hA0⟩ (parts_t B w0 ok all rfl rfl rfl n1 e1 f1 n2 e2 f2 n3 e3 f3 n4 e4 f4 n5 e5 f5 e6 f6 we a0 a1 a2 a3 a4 a5 a6 h1 h2 h3 h4 h5 h6)
      (by
        rintro l j v W hj ⟨q1, rfl, cs, hcs, hA⟩
        refine gp rfl ?_
        refine el_store #[.int .i64 (EE j)] rfl rfl rfl rfl rfl rfl rfl rfl hA.2.2.1 rfl rfl ?_
        intro W' kk hs hb
        obtain ⟨hA', hO⟩ := RB.setE ok hA hb kk
        refine ep rfl ?_
        exact ⟨rfl, rfl, ⟨q1, rfl, cs, csT_keep hcs kk hA.2.2.1 (by decide), hA'⟩, hO⟩)
      (by
        rintro l j v W hj ⟨q1, rfl, cs, hcs, hA⟩
        have heb := hA.2.2.1
        refine ew_block ?_
        refine sp rfl ?_
        refine el_loadb rfl rfl rfl rfl rfl heb rfl ?_
        by_cases he : EE j = 0
        · refine el_neqi (a := EE j) (b := 0) (k := .i64) false (by simpa using he) rfl rfl rfl rfl ?_
          refine ep rfl ?_
          refine ew_cond_f rfl rfl ?_
          refine ew_skip ?_
          have hf : FF j = 0 := hfl j hj he
          have hA2 : B.At w0 (.int .i64 0) all (AA (j + 1)) 0 cs W := by
            have hA3 : B.At w0 (.int .i64 (EE j)) all (AA (j + 1)) (FF j) cs W := hA
            rw [he, hf] at hA3
            exact hA3
          exact ⟨KeepsOthers.refl W, .inl ⟨rfl, fun i hi => by
            by_cases hij : i = j
            · rw [hij]; exact he
            · exact q1 i (by omega), cs, hcs, hA2⟩⟩
        · refine el_neqi (a := EE j) (b := 0) (k := .i64) true (by simpa using he) rfl rfl rfl rfl ?_
          refine ep rfl ?_
          refine ew_cond_t rfl rfl ?_
          refine ew_exit ?_
          exact ⟨KeepsOthers.refl W, .inr ⟨rfl, j, _, hj, he, q1, rfl, cs, hcs, hA⟩⟩)
      ?_ ?_
    · intro D W hI hD hDs
      obtain ⟨hes, cs, hcs, hA⟩ := hI
      obtain rfl := hcs
      have hro := readT_ok h1 h2 h3 h4 h5 h6 (hes 0 (show 0 < 6 by decide)) (hes 1 (show 1 < 6 by decide)) (hes 2 (show 2 < 6 by decide)) (hes 3 (show 3 < 6 by decide)) (hes 4 (show 4 < 6 by decide)) (hes 5 (show 5 < 6 by decide))
      have hk : Keep [] w0 W := hA.1
      have hz : Blk W zb 48 zeroA := hA.2.1
      have heb : Blk W eb 27 #[.int .i64 0] := hA.2.2.1
      have hf := hA.2.2.2.1
      have hwb := hA.2.2.2.2.2.1.2.2
      have hR : IsR W gr all a6 0 := hA.2.2.2.2.2.2
      have hle := hR.2.1
      refine ew_seq (sp rfl ?_)
      refine el_loadb rfl rfl rfl rfl rfl heb rfl ?_
      refine el_neqi (a := 0) (b := 0) (k := .i64) false rfl rfl rfl rfl rfl ?_
      refine pp rfl ?_
      refine el_call rfl rfl rfl rfl rfl rfl (rend_ok gr all a6 0 W hR) ?_
      rintro _ _ ⟨rfl, rfl⟩
      by_cases hlt : a6 < all.length
      · have eE : (if (0 : Int) ≠ 0 then (0 : Int) else if a6 < all.length then 122 else 0) = 122 := by simp [hlt]
        rw [eE]
        refine el_neqi (a := 122) (b := 0) (k := .i64) true rfl rfl rfl rfl rfl ?_
        refine ep rfl ?_
        refine ew_cond_t rfl rfl ?_
        refine sp rfl ?_
        refine el_build (z := wordZ) (vs := wordL 0 0 0 0 (.slice none 0 0) 0 0 0 0 0 false) rfl rfl rfl rfl rfl rfl ?_
        refine el_store zeroA rfl rfl rfl rfl rfl rfl rfl rfl hz rfl rfl ?_
        intro W9 k9' hs9 hz9
        refine ep rfl ?_
        have hDz : D ∉ [zb] := by
          simp
          rintro rfl
          cases (hD.symm.trans hz)
        exact ew_ret (read_ret (x := zeroW) (e := 270) (u := .slice none 0 0) (readR_none (by rw [readW_2 hS0, hro]; simp [fin]; omega)) rfl rfl rfl hz9 (k9'.blk hD hDz) (by omega) (hk.trans k9' (by simp; omega)) (World.ownsRow_nil _ _ _ _))
      have eE : (if (0 : Int) ≠ 0 then (0 : Int) else if a6 < all.length then 122 else 0) = 0 := by simp [hlt]
      rw [eE]
      refine el_neqi (a := 0) (b := 0) (k := .i64) false rfl rfl rfl rfl rfl ?_
      refine pp rfl ?_
      refine el_loadb rfl rfl rfl rfl rfl hf rfl ?_
      refine el_loada (vs := (wordL 0 0 0 0 (.slice none 0 0) n1 n2 n3 n4 n5 we)) rfl rfl rfl rfl rfl rfl hwb rfl ?_
      refine el_callv (first := []) (captured := []) rfl rfl rfl Try.func85 rfl rfl rfl (wrongT_ok ⟨0, 0, 0, 0, [], n1, n2, n3, n4, n5, we⟩ (.slice none 0 0) ⟨_, _, _, rfl⟩ W) ?_
      rintro _ W2 ⟨rfl, k2'⟩
      have hz := k2'.blk hz (by simp)
      have hwb := k2'.blk hwb (by simp)
      have hD := k2'.blk hD (by simp)
      have hk := hk.trans0 k2'
      by_cases hE : tolE n1 n2 n3 n4 n5 = 0
      · rw [hE]
        refine el_neqi (a := 0) (b := 0) (k := .i64) false rfl rfl rfl rfl rfl ?_
        refine ep rfl ?_
        refine ew_cond_f rfl rfl ?_
        refine ew_skip ?_
        refine sp rfl ?_
        refine el_loada (vs := (wordL 0 0 0 0 (.slice none 0 0) n1 n2 n3 n4 n5 we)) rfl rfl rfl rfl rfl rfl hwb rfl ?_
        refine el_store ((wordL 0 0 0 0 (.slice none 0 0) n1 n2 n3 n4 n5 we)).toArray rfl rfl rfl rfl rfl rfl rfl rfl hz rfl rfl ?_
        intro W9 k9' hs9 hz9
        refine ep rfl ?_
        have hDz : D ∉ [zb] := by
          simp
          rintro rfl
          cases (hD.symm.trans hz)
        have hrs : readR all = ((⟨0, 0, 0, 0, [], n1, n2, n3, n4, n5, we⟩ : WorD), 0) := readR_some (by rw [readW_2 hS0, hro]; simp only [fin, Option.bind_some]; rw [if_pos ⟨by omega, E_told.2 hE⟩])
        refine ew_ret (read_ret (x := (⟨0, 0, 0, 0, [], n1, n2, n3, n4, n5, we⟩ : WorD)) (e := 0) hrs rfl rfl rfl hz9 (k9'.blk hD hDz) (by omega) (hk.trans k9' (by simp; omega)) ?_)
        exact World.ownsRow_nil _ _ _ _
      · refine el_neqi (b := 0) (k := .i64) true (by simpa using hE) rfl rfl rfl rfl ?_
        refine ep rfl ?_
        refine ew_cond_t rfl rfl ?_
        refine sp rfl ?_
        refine el_build (z := wordZ) (vs := wordL 0 0 0 0 (.slice none 0 0) 0 0 0 0 0 false) rfl rfl rfl rfl rfl rfl ?_
        refine el_store zeroA rfl rfl rfl rfl rfl rfl rfl rfl hz rfl rfl ?_
        intro W9 k9' hs9 hz9
        refine ep rfl ?_
        have hDz : D ∉ [zb] := by
          simp
          rintro rfl
          cases (hD.symm.trans hz)
        exact ew_ret (read_ret (x := zeroW) (e := 270) (u := .slice none 0 0) (readR_none (by rw [readW_2 hS0, hro]; simp only [fin, Option.bind_some]; rw [if_neg (fun h => hE ((E_told).1 h.2))])) rfl rfl rfl hz9 (k9'.blk hD hDz) (by omega) (hk.trans k9' (by simp; omega)) (World.ownsRow_nil _ _ _ _))
    · intro D W hS hD hDs
      obtain ⟨j, v, hj, hne, hp, rfl, cs, hcs, hA⟩ := hS
      have hk : Keep [] w0 W := hA.1
      have hz : Blk W zb 48 zeroA := hA.2.1
      have heb : Blk W eb 27 #[.int .i64 (EE j)] := hA.2.2.1
      refine ew_seq (sp rfl ?_)
      refine el_loadb rfl rfl rfl rfl rfl heb rfl ?_
      refine el_neqi (a := EE j) (b := 0) (k := .i64) true (by simpa using hne) rfl rfl rfl rfl ?_
      refine ep rfl ?_
      refine ew_cond_t rfl rfl ?_
      refine sp rfl ?_
      refine el_build (z := wordZ) (vs := wordL 0 0 0 0 (.slice none 0 0) 0 0 0 0 0 false) rfl rfl rfl rfl rfl rfl ?_
      refine el_store zeroA rfl rfl rfl rfl rfl rfl rfl rfl hz rfl rfl ?_
      intro W9 k9' hs9 hz9
      refine ep rfl ?_
      have hDz : D ∉ [zb] := by
        simp
        rintro rfl
        cases (hD.symm.trans hz)
      exact ew_ret (read_ret (x := zeroW) (e := 270) (u := .slice none 0 0) (readR_none (by rw [readW_2 hS0, readT_err h1 h2 h3 h4 h5 h6 j hj hp hne]; rfl)) rfl rfl rfl hz9 (k9'.blk hD hDz) (by omega) (hk.trans k9' (by simp; omega)) (World.ownsRow_nil _ _ _ _))
  have b1 : (n == 1) = false := by simpa using hn1
  have b2 : (n == 2) = false := by simpa using hn2
  refine el_lookup (k := 2) (e := 83) (q := .i64) (q' := .i64) (a := n) (z := .agg #[.nilFunc, .nilFunc]) (v := .agg #[.nilFunc, .nilFunc]) (ok := false) rfl rfl rfl rfl rfl rfl hm6 rfl (by
    simp [Instr.findNow, Instr.sameNow, b1, b2]) ?_
  refine pp rfl ?_
  refine el_alloc (z := .agg #[.nilFunc, .nilFunc]) #[.nilFunc, .nilFunc] rfl rfl rfl rfl ?_
  intro f7 w7 x7 x7' k7 hf7
  refine el_store #[.nilFunc, .nilFunc] rfl rfl rfl rfl rfl rfl rfl rfl hf7 rfl rfl ?_
  intro w8 k8 hs8 hf8
  have k68 : Keep [] w6 w8 := k7.trans k8 (by simp; omega)
  have he8 := k68.blk he6 (by simp)
  have hz8 := k68.blk hz6 (by simp)
  refine ep rfl ?_
  have hnone := readW_0 hS0 hn1 hn2
  refine ew_seq (sp rfl ?_)
  refine el_loadb rfl rfl rfl rfl rfl he8 rfl ?_
  by_cases he0 : e0 = 0
  · refine el_neqi (a := e0) (b := 0) (k := .i64) false (by simpa using he0) rfl rfl rfl rfl ?_
    refine ep rfl ?_
    refine ew_cond_t rfl rfl ?_
    refine sp rfl ?_
    refine el_build (z := wordZ) (vs := wordL 0 0 0 0 (.slice none 0 0) 0 0 0 0 0 false) rfl rfl rfl rfl rfl rfl ?_
    refine el_store zeroA rfl rfl rfl rfl rfl rfl rfl rfl hz8 rfl rfl ?_
    intro w9 k9 hs9 hz9
    refine ep rfl ?_
    refine ew_ret (retP_M (ret_l [.agg zeroA, .int .i64 270] rfl rfl ⟨⟨_, rfl, rfl, run_loadVarA rfl rfl rfl hz9⟩, ⟨rfl, rfl⟩, trivial⟩ ?_))
    exact ⟨.slice none 0 0, by rw [readR_none hnone]; rfl, by rw [readR_none hnone]; exact World.ownsRow_nil _ _ _ _, (k06.trans0 k68).trans k9 (by simp; omega)⟩
  · refine el_neqi (a := e0) (b := 0) (k := .i64) true (by simpa using he0) rfl rfl rfl rfl ?_
    refine ep rfl ?_
    refine ew_cond_t rfl rfl ?_
    refine sp rfl ?_
    refine el_build (z := wordZ) (vs := wordL 0 0 0 0 (.slice none 0 0) 0 0 0 0 0 false) rfl rfl rfl rfl rfl rfl ?_
    refine el_store zeroA rfl rfl rfl rfl rfl rfl rfl rfl hz8 rfl rfl ?_
    intro w9 k9 hs9 hz9
    refine ep rfl ?_
    refine ew_ret (retP_M (ret_l [.agg zeroA, .int .i64 270] rfl rfl ⟨⟨_, rfl, rfl, run_loadVarA rfl rfl rfl hz9⟩, ⟨rfl, rfl⟩, trivial⟩ ?_))
    exact ⟨.slice none 0 0, by rw [readR_none hnone]; rfl, by rw [readR_none hnone]; exact World.ownsRow_nil _ _ _ _, (k06.trans0 k68).trans k9 (by simp; omega)⟩
end Go.Proofs.Ytpdgfekimnmdnaa
