/- The chapter's first row. -/
import Derived.Test.YtpdgfekimnmdnaaWireI
set_option linter.unusedVariables false
set_option linter.unusedSimpArgs false
namespace Go.Proofs.Ytpdgfekimnmdnaa
open Go.RowKit
set_option maxRecDepth 20000

theorem layr_to {g : Nat} {bs : List UInt8} {fine : Bool} {parts : List (List UInt8)} {w w' : World} {r : Value} (bs' : List UInt8) (e : Int) (hb : layB fine bs parts = bs') (he : layE fine bs.length (sumL parts) = e) (h : LayR (some g) bs fine parts w r w') : r = .int .i64 e ∧ IsW w' g bs' ∧ Keep [g] w w' := by
  subst hb; subst he
  exact ⟨h.1, h.2.1, h.2.2.1⟩
theorem layr_buf {g : Nat} {bs : List UInt8} {fine : Bool} {parts : List (List UInt8)} {w w' : World} {r : Value} (h : LayR (some g) bs fine parts w r w') : BufOk g w w' := h.2.2.2

theorem numB300 : numB 300 = [172, 2] := by
  rw [numB_ge (by decide), numB_lt (by decide)]
  rfl
theorem numB3 : numB 3 = [3] := numB_lt (by decide)
theorem numB2 : numB 2 = [2] := numB_lt (by decide)

theorem toList_loop (b : ByteArray) : ∀ k i r, b.size - i = k → ByteArray.toList.loop b i r = r.reverse ++ b.data.toList.drop i := by
  intro k
  induction k with
  | zero =>
    intro i r h
    have hd : b.data.toList.drop i = [] := List.drop_eq_nil_of_le (by rw [Array.length_toList]; show b.size ≤ i; omega)
    rw [ByteArray.toList.loop, if_neg (by omega), hd, List.append_nil]
  | succ k ih =>
    intro i r h
    have hlt : i < b.size := by omega
    rw [ByteArray.toList.loop, if_pos hlt, ih (i + 1) _ (by omega)]
    have hl : i < b.data.toList.length := by rw [Array.length_toList]; exact hlt
    rw [List.drop_eq_getElem_cons hl]
    have hg : b.get! i = b.data.toList[i] := by
      rw [Array.getElem_toList]
      show b.data[i]! = _
      exact getElem!_pos b.data i hlt
    rw [hg]
    simp
theorem strOf_toList (bs : List UInt8) : (strOf bs).toList = bs := by
  show ByteArray.toList.loop (strOf bs) 0 [] = bs
  rw [toList_loop (strOf bs) _ 0 [] rfl]
  simp [strOf]
theorem str_eq {o : Oper} {P : Program} {r : Option Nat} {N : Nat} {Q : Post} {ρ : Env} {w : World} {ops l : List Oper} {t ty : TypeId} {x y : Operand} (a b : List UInt8) (ho : o.op = .binOp .eql t x y ty) (hw : wantedE ops N ρ o = true) (hx : ev N ρ x = .string (strOf a)) (hy : ev N ρ y = .string (strOf b))
    (h : EL P r N ops Q l (ρ.upo o.dst (.bool (a == b))) w) : EL P r N ops Q (o :: l) ρ w :=
  el_pv _ hw (by rw [ho]; simp only [pureOp, hx, hy, binV, strOf_toList]) h

theorem el_eqi {o : Oper} {P : Program} {r : Option Nat} {N : Nat} {Q : Post} {ρ : Env} {w : World} {ops l : List Oper} {t ty : TypeId} {x y : Operand} {k : IntKind} {a b : Int} (e : Bool) (hab : (a == b) = e) (ho : o.op = .binOp .eql t x y ty) (hw : wantedE ops N ρ o = true) (hx : ev N ρ x = .int k a) (hy : ev N ρ y = .int k b)
    (h : EL P r N ops Q l (ρ.upo o.dst (.bool e)) w) : EL P r N ops Q (o :: l) ρ w := by
  subst hab
  exact el_pv _ hw (by rw [ho]; simp only [pureOp, hx, hy, binV, binI, if_true]) h
theorem el_streq {o : Oper} {P : Program} {r : Option Nat} {N : Nat} {Q : Post} {ρ : Env} {w : World} {ops l : List Oper} {t ty : TypeId} {x y : Operand} {a b : List UInt8} (e : Bool) (hab : (a == b) = e) (ho : o.op = .binOp .eql t x y ty) (hw : wantedE ops N ρ o = true) (hx : ev N ρ x = .string (strOf a)) (hy : ev N ρ y = .string (strOf b))
    (h : EL P r N ops Q l (ρ.upo o.dst (.bool e)) w) : EL P r N ops Q (o :: l) ρ w := by
  subst hab
  exact str_eq a b ho hw hx hy h

theorem rd_to {α : Type} {z : α} {all : List UInt8} {at_ : Nat} {flaw : Int} {fine : Bool} {res : List UInt8 → α × Int × Nat} (x : α) (e : Int) (a : Nat) (f : Int) (h : rdStep z all at_ flaw fine res = (x, e, a, f)) : True := trivial

end Go.Proofs.Ytpdgfekimnmdnaa
