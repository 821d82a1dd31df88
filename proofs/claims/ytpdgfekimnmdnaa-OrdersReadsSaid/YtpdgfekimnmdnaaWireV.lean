/- The law of what a writer lays, second part: helpers of its round. -/
import Derived.Test.YtpdgfekimnmdnaaWireU
set_option linter.unusedVariables false
set_option linter.unusedSimpArgs false
namespace Go.Proofs.Ytpdgfekimnmdnaa
open Go.RowKit
set_option maxRecDepth 20000

theorem el_neqi {o : Oper} {P : Program} {r : Option Nat} {N : Nat} {Q : Post} {ρ : Env} {w : World} {ops l : List Oper} {t ty : TypeId} {x y : Operand} {k : IntKind} {a b : Int} (e : Bool) (hab : (a != b) = e) (ho : o.op = .binOp .neq t x y ty) (hw : wantedE ops N ρ o = true) (hx : ev N ρ x = .int k a) (hy : ev N ρ y = .int k b)
    (h : EL P r N ops Q l (ρ.upo o.dst (.bool e)) w) : EL P r N ops Q (o :: l) ρ w := by
  subst hab
  exact el_pv _ hw (by rw [ho]; simp only [pureOp, hx, hy, binV, binI, if_true]) h
theorem el_strneq {o : Oper} {P : Program} {r : Option Nat} {N : Nat} {Q : Post} {ρ : Env} {w : World} {ops l : List Oper} {t ty : TypeId} {x y : Operand} {a b : List UInt8} (e : Bool) (hab : (!(a == b)) = e) (ho : o.op = .binOp .neq t x y ty) (hw : wantedE ops N ρ o = true) (hx : ev N ρ x = .string (strOf a)) (hy : ev N ρ y = .string (strOf b))
    (h : EL P r N ops Q l (ρ.upo o.dst (.bool e)) w) : EL P r N ops Q (o :: l) ρ w := by
  subst hab
  exact el_pv _ hw (by rw [ho]; simp only [pureOp, hx, hy, binV, strOf_toList]) h
theorem setL_get {cs : Array Value} {k : Nat} {u : Value} (h : k < cs.size) (j : Nat) : (setL cs k [u])[j]? = if j = k then some u else cs[j]? := by
  unfold setL
  simp only [List.getElem?_toArray]
  by_cases e : j = k
  · subst e
    rw [if_pos rfl, List.append_assoc, List.getElem?_append_right (by simp; omega)]
    simp
    have : min j cs.size = j := by omega
    simp [this]
  · rw [if_neg e]
    by_cases h2 : j < k
    · rw [List.append_assoc, List.getElem?_append_left (by simp; omega)]
      simp [List.getElem?_take, h2]
    · rw [List.getElem?_append_right (by simp; omega)]
      simp
      have : min k cs.size = k := by omega
      rw [this]
      congr 1
      omega
theorem setL_size {cs : Array Value} {k : Nat} {u : Value} (h : k < cs.size) : (setL cs k [u]).size = cs.size := by
  unfold setL
  simp
  omega
theorem cell_keep {M : List Nat} {w w' : World} {a : Addr} {v : Value} (h : w.cell? a = some v) (k : Keep M w w') (hM : a.block ∉ M) : w'.cell? a = some v := by
  have hl : a.block < w.heap.size := by
    simp only [World.cell?] at h
    cases hq : w.heap[a.block]? with
    | none => rw [hq] at h; simp at h
    | some o => exact (Array.getElem?_eq_some_iff.1 hq).1
  rw [World.cell?_of_block (w := w) (k.block a.block hl hM)]
  exact h
theorem cell_lt {w : World} {a : Addr} {v : Value} (h : w.cell? a = some v) : a.block < w.heap.size := by
  simp only [World.cell?] at h
  cases hq : w.heap[a.block]? with
  | none => rw [hq] at h; simp at h
  | some o => exact (Array.getElem?_eq_some_iff.1 hq).1
theorem el_ext {P : Program} {r : Option Nat} {N : Nat} {Q : Post} {ρ : Env} {w : World} {ops l : List Oper} {o : Oper} {x : Operand} {i : Nat} {vs : Array Value} {v : Value} (ho : o.op = .extract x i) (hw : wantedE ops N ρ o = true) (hx : ev N ρ x = .tuple vs) (hv : vs.toList[i]? = some v)
    (h : EL P r N ops Q l (ρ.upo o.dst v) w) : EL P r N ops Q (o :: l) ρ w :=
  el_pv _ hw (by rw [ho]; simp only [pureOp, hx]; exact hv) h

theorem el_len {P : Program} {r : Option Nat} {N : Nat} {Q : Post} {ρ : Env} {w : World} {ops l : List Oper} {o : Oper} {x : Operand} {t e : TypeId} {ad : Option Addr} {n cap : Nat} (ho : o.op = .call { callee := .builtin .len, args := #[x], argTypes := #[t] }) (hw : wantedE ops N ρ o = true) (hT : P.underlying t = some (.slice e)) (hx : ev N ρ x = .slice ad n cap)
    (h : EL P r N ops Q l (ρ.upo o.dst (.int .i64 (n : Int))) w) : EL P r N ops Q (o :: l) ρ w :=
  el_pv _ hw (by rw [ho]; simp only [pureOp, hx, hT]; rfl) h

/-- All that some calls lay. -/
def laidAll (xs : List AddD) : List UInt8 := (xs.map AddD.laid).flatten
theorem laidAll_take {xs : List AddD} {j : Nat} {x : AddD} (h : xs[j]? = some x) : laidAll (xs.take (j + 1)) = laidAll (xs.take j) ++ x.laid := by
  unfold laidAll
  rw [List.take_add_one, h]
  simp
theorem laid_len (x : AddD) (h : x.n ≤ 9223372036854775807) (hb : x.bytes.length ≤ 4000) : x.laid.length ≤ 2 * (30 + min x.bytes.length 4001) := by
  have h1 : (numB x.n.toNat).length ≤ 10 := numB_len10 (by omega)
  have h2 : (numB x.bytes.length).length ≤ 10 := numB_len10 (by omega)
  unfold AddD.laid
  split
  · split
    · simp
    · omega
  · split
    · split
      · rename_i hs
        simp [inSign] at hs
        have h3 : (numB (zig x.n)).length ≤ 10 := numB_len10 (by unfold zig; split <;> omega)
        omega
      · simp
    · split
      · simp; omega
      · split
        · simp; omega
        · split
          · split <;> simp <;> omega
          · simp; omega
theorem fewN_mem {xs : List AddD} {j : Nat} {x : AddD} (h : xs[j]? = some x) : fewN (xs.take j) + (30 + min x.bytes.length 4001) ≤ fewN xs := by
  rw [← fewN_take h]
  exact fewN_le xs (j + 1)
theorem laidAll_len (xs : List AddD) (hn : ∀ (j : Nat) (x : AddD), xs[j]? = some x → x.n ≤ 9223372036854775807) (h : fewN xs ≤ 4000) : ∀ j, j ≤ xs.length → (laidAll (xs.take j)).length ≤ 2 * fewN (xs.take j) := by
  intro j
  induction j with
  | zero => intro _; simp [laidAll]
  | succ j ih =>
    intro hj
    obtain ⟨x, hx⟩ : ∃ x, xs[j]? = some x := ⟨_, List.getElem?_eq_getElem (by omega)⟩
    have h1 := fewN_mem hx
    have h2 := laid_len x (hn j x hx) (by omega)
    rw [laidAll_take hx, fewN_take hx, List.length_append]
    have := ih (by omega)
    omega
theorem IsW.buf {w : World} {g : Nat} {cs : List UInt8} (h : IsW w g cs) : ∃ v, Blk w g 105 #[v, .bool true] ∧ OwnB 5 w 0 v cs ∧ bufOf w g = v.ownBlock := by
  obtain ⟨h1, v, hb, ho⟩ := h
  refine ⟨v, hb, ho, ?_⟩
  unfold bufOf
  rw [hb]
  rfl
theorem IsW.keepb {M : List Nat} {w w' : World} {g : Nat} {cs : List UInt8} (h : IsW w g cs) (k : Keep M w w') (hg : g ∉ M) (hb : ∀ x, bufOf w g = some x → x ∉ M) : IsW w' g cs := by
  obtain ⟨v, h1, h2, h3⟩ := h.buf
  exact ⟨h.1, v, k.blk h1 hg, own_keep h2 k fun b hb' => hb b (h3.trans hb')⟩
theorem IsW.buf_lt {w : World} {g : Nat} {cs : List UInt8} (h : IsW w g cs) {x : Nat} (hx : bufOf w g = some x) : x < w.heap.size := by
  obtain ⟨v, h1, h2, h3⟩ := h.buf
  obtain ⟨c, hc⟩ := own_typed h2 (h3.symm.trans hx)
  exact Blk.lt hc
end Go.Proofs.Ytpdgfekimnmdnaa
