/- The chapter's first row. -/
import Derived.Test.YtfbpobhbkadblaaWireI
set_option linter.unusedVariables false
set_option linter.unusedSimpArgs false
namespace Go.Proofs.Ytfbpobhbkadblaa
open Go.RowKit
set_option maxRecDepth 20000

theorem layr_to {g : Nat} {bs : List UInt8} {fine : Bool} {parts : List (List UInt8)} {w w' : World} {r : Value} (bs' : List UInt8) (e : Int) (hb : layB fine bs parts = bs') (he : layE fine bs.length (sumL parts) = e) (h : LayR (some g) bs fine parts w r w') : r = .int .i64 e ∧ IsW w' g bs' ∧ Keep [g] w w' := by
  subst hb; subst he
  exact ⟨h.1, h.2.1, h.2.2.1⟩
theorem layr_buf {g : Nat} {bs : List UInt8} {fine : Bool} {parts : List (List UInt8)} {w w' : World} {r : Value} (h : LayR (some g) bs fine parts w r w') : BufOk g w w' := h.2.2.2

theorem numB300 : numB 300 = [172, 2] := by
  rw [numB_ge (by decide), numB_lt (by decide)]
  rfl
theorem numB3 : numB 3 = [3] := numB_lt (by decide)
theorem numB2 : numB 2 = [2] := numB_lt (by decide)

theorem toList_loop (b : ByteArray) : ∀ k i r, b.size - i = k → ByteArray.toList.loop b i r = r.reverse ++ b.data.toList.drop i := by
  intro k
  induction k with
  | zero =>
    intro i r h
    have hd : b.data.toList.drop i = [] := List.drop_eq_nil_of_le (by rw [Array.length_toList]; show b.size ≤ i; omega)
    rw [ByteArray.toList.loop, if_neg (by omega), hd, List.append_nil]
  | succ k ih =>
    intro i r h
    have hlt : i < b.size := by omega
    rw [ByteArray.toList.loop, if_pos hlt, ih (i + 1) _ (by omega)]
    have hl : i < b.data.toList.length := by rw [Array.length_toList]; exact hlt
    rw [List.drop_eq_getElem_cons hl]
    have hg : b.get! i = b.data.toList[i] := by
      rw [Array.getElem_toList]
      show b.data[i]! = _
      exact getElem!_pos b.data i hlt
    rw [hg]
    simp
theorem strOf_toList (bs : List UInt8) : (strOf bs).toList = bs := by
  show ByteArray.toList.loop (strOf bs) 0 [] = bs
  rw [toList_loop (strOf bs) _ 0 [] rfl]
  simp [strOf]
theorem str_eq {o : Oper} {P : Program} {r : Option Nat} {N : Nat} {Q : Post} {ρ : Env} {w : World} {ops l : List Oper} {t ty : TypeId} {x y : Operand} (a b : List UInt8) (ho : o.op = .binOp .eql t x y ty) (hw : wantedE ops N ρ o = true) (hx : ev N ρ x = .string (strOf a)) (hy : ev N ρ y = .string (strOf b))
    (h : EL P r N ops Q l (ρ.upo o.dst (.bool (a == b))) w) : EL P r N ops Q (o :: l) ρ w :=
  el_pv _ hw (by rw [ho]; simp only [pureOp, hx, hy, binV, strOf_toList]) h

theorem el_eqi {o : Oper} {P : Program} {r : Option Nat} {N : Nat} {Q : Post} {ρ : Env} {w : World} {ops l : List Oper} {t ty : TypeId} {x y : Operand} {k : IntKind} {a b : Int} (e : Bool) (hab : (a == b) = e) (ho : o.op = .binOp .eql t x y ty) (hw : wantedE ops N ρ o = true) (hx : ev N ρ x = .int k a) (hy : ev N ρ y = .int k b)
    (h : EL P r N ops Q l (ρ.upo o.dst (.bool e)) w) : EL P r N ops Q (o :: l) ρ w := by
  subst hab
  exact el_pv _ hw (by rw [ho]; simp only [pureOp, hx, hy, binV, binI, if_true]) h
theorem el_streq {o : Oper} {P : Program} {r : Option Nat} {N : Nat} {Q : Post} {ρ : Env} {w : World} {ops l : List Oper} {t ty : TypeId} {x y : Operand} {a b : List UInt8} (e : Bool) (hab : (a == b) = e) (ho : o.op = .binOp .eql t x y ty) (hw : wantedE ops N ρ o = true) (hx : ev N ρ x = .string (strOf a)) (hy : ev N ρ y = .string (strOf b))
    (h : EL P r N ops Q l (ρ.upo o.dst (.bool e)) w) : EL P r N ops Q (o :: l) ρ w := by
  subst hab
  exact str_eq a b ho hw hx hy h

theorem rd_to {α : Type} {z : α} {all : List UInt8} {at_ : Nat} {flaw : Int} {fine : Bool} {res : List UInt8 → α × Int × Nat} (x : α) (e : Int) (a : Nat) (f : Int) (h : rdStep z all at_ flaw fine res = (x, e, a, f)) : True := trivial

theorem works_ok (w : World) : Fn Try.prog 10 [] w fun r w' => r = .bool true ∧ Keep [] w w' := by
  refine fn_enter Try.func10 rfl rfl ?_
  refine es rfl ?_
  refine sp rfl ?_
  refine el_call rfl rfl rfl rfl rfl rfl (new_ok w) ?_
  rintro rv w1 ⟨g, rfl, hg, hW1, k1⟩
  refine ep rfl ?_
  refine sp rfl ?_
  have hgl1 := hW1.lt
  refine el_call rfl rfl rfl rfl rfl rfl (wnumber_ok (some g) [] 300 (by decide) w1 hW1) ?_
  intro rv w2 h
  obtain ⟨rfl, hW2, k2⟩ := layr_to [172, 2] 0 (by show layB true [] [numB 300] = _; rw [numB300]; rfl) (by show layE true 0 (sumL [numB 300]) = _; rw [numB300]; rfl) h
  refine pp rfl ?_
  have hz : numB (zigU (-2)) = [3] := by rw [zigU_zig _ (by decide) (by decide)]; exact numB3
  refine el_call rfl rfl rfl rfl rfl rfl (wsigned_ok (some g) [172, 2] (-2) w2 hW2) ?_
  intro rv w3 h
  obtain ⟨rfl, hW3, k3⟩ := layr_to [172, 2, 3] 0 (by rw [hz]; rfl) (by rw [hz]; rfl) h
  refine pp rfl ?_
  refine el_call rfl rfl rfl rfl rfl rfl (wtext_ok (some g) [172, 2, 3] [104, 105] w3 hW3 (by decide)) ?_
  intro rv w4 h
  obtain ⟨rfl, hW4, k4⟩ := layr_to [172, 2, 3, 2, 104, 105] 0 (by show layB true _ [numB 2, _] = _; rw [numB2]; rfl) (by show layE true _ (sumL [numB 2, _]) = _; rw [numB2]; rfl) h
  refine pp rfl ?_
  refine el_call rfl rfl rfl rfl rfl rfl (wtruth_ok (some g) [172, 2, 3, 2, 104, 105] true w4 hW4) ?_
  intro rv w5 h
  obtain ⟨rfl, hW5, k5⟩ := layr_to [172, 2, 3, 2, 104, 105, 1] 0 rfl rfl h
  refine ep rfl ?_
  refine sp rfl ?_
  refine el_call rfl rfl rfl rfl rfl rfl (wall_ok (some g) [172, 2, 3, 2, 104, 105, 1] w5 hW5) ?_
  rintro u w6 ⟨ho6, k6⟩
  refine ep rfl ?_
  refine sp rfl ?_
  refine el_call rfl rfl rfl rfl rfl rfl (read_ok u [172, 2, 3, 2, 104, 105, 1] w6 (Rd.of_own ho6) (by decide)) ?_
  rintro rv w7 ⟨g2, rfl, hg2, hR7, k7⟩
  have ho7 := own_keep ho6 k7 (fun _ _ => by simp)
  refine ep rfl ?_
  refine sp rfl ?_
  refine el_call rfl rfl rfl rfl rfl rfl (rnumber_ok g2 _ 0 0 300 w7 hR7) ?_
  have e8 : (rdStep 0 [172, 2, 3, 2, 104, 105, 1] 0 0 (decide ((300 : Int) ≥ 0)) fun l => numR l 300) = (300, 0, 2, 0) := by decide +kernel
  rintro rv w8 h
  rw [e8] at h
  obtain ⟨rfl, hR8, k8⟩ := h
  have ho8 := own_keep ho7 k8 (own_ne ho7 hR7.blk (by decide))
  refine ep rfl ?_
  refine sp rfl ?_
  refine el_call rfl rfl rfl rfl rfl rfl (rsigned_ok g2 _ 2 0 w8 hR8) ?_
  have e9 : (rdStep 0 [172, 2, 3, 2, 104, 105, 1] 2 0 true fun l => numR l 9223372036854775807) = (3, 0, 3, 0) := by decide +kernel
  have e9' : unz 3 = -2 := by decide +kernel
  rintro rv w9 h
  rw [e9] at h
  dsimp only at h
  rw [e9'] at h
  obtain ⟨rfl, hR9, k9⟩ := h
  have ho9 := own_keep ho8 k9 (own_ne ho8 hR8.blk (by decide))
  refine ep rfl ?_
  refine sp rfl ?_
  refine el_call rfl rfl rfl rfl rfl rfl (rtext_ok g2 _ 3 0 2 w9 hR9) ?_
  have e10 : (rdStep [] [172, 2, 3, 2, 104, 105, 1] 3 0 (decide ((2 : Int) ≥ 0)) fun l => bytesR l 2) = ([104, 105], 0, 6, 0) := by decide +kernel
  rintro rv w10 h
  rw [e10] at h
  obtain ⟨rfl, hR10, k10⟩ := h
  have ho10 := own_keep ho9 k10 (own_ne ho9 hR9.blk (by decide))
  refine ep rfl ?_
  refine sp rfl ?_
  refine el_call rfl rfl rfl rfl rfl rfl (rtruth_ok g2 _ 6 0 w10 hR10) ?_
  have e11 : rdStep false [172, 2, 3, 2, 104, 105, 1] 6 0 true truthR = (true, 0, 7, 0) := by decide +kernel
  rintro rv w11 h
  rw [e11] at h
  obtain ⟨rfl, hR11, k11⟩ := h
  have ho11 := own_keep ho10 k11 (own_ne ho10 hR10.blk (by decide))
  refine ep rfl ?_
  refine sp rfl ?_
  refine el_call rfl rfl rfl rfl rfl rfl (num_ok _ w11) ?_
  rintro _ _ ⟨rfl, rfl⟩
  refine pp rfl ?_
  refine el_call rfl rfl rfl rfl rfl rfl (num_ok _ w11) ?_
  rintro _ _ ⟨rfl, rfl⟩
  refine pp rfl ?_
  refine el_call rfl rfl rfl rfl rfl rfl (num_ok _ w11) ?_
  rintro _ _ ⟨rfl, rfl⟩
  refine pp rfl ?_
  refine el_call rfl rfl rfl rfl rfl rfl (num_ok _ w11) ?_
  rintro _ _ ⟨rfl, rfl⟩
  refine pp rfl ?_
  refine el_call rfl rfl rfl rfl rfl rfl (num_ok _ w11) ?_
  rintro _ _ ⟨rfl, rfl⟩
  refine pp rfl ?_
  refine el_call rfl rfl rfl rfl rfl rfl (num_ok _ w11) ?_
  rintro _ _ ⟨rfl, rfl⟩
  refine pp rfl ?_
  refine el_call rfl rfl rfl rfl rfl rfl (num_ok _ w11) ?_
  rintro _ _ ⟨rfl, rfl⟩
  refine pp rfl ?_
  refine el_call rfl rfl rfl rfl rfl rfl (num_ok _ w11) ?_
  rintro _ _ ⟨rfl, rfl⟩
  refine pp rfl ?_
  refine el_call rfl rfl rfl rfl rfl rfl (rend_ok g2 _ 7 0 w11 hR11) ?_
  rintro _ _ ⟨rfl, rfl⟩
  refine pp rfl ?_
  refine el_call rfl rfl rfl rfl rfl rfl (num_ok 0 w11) ?_
  rintro _ _ ⟨rfl, rfl⟩
  refine pp rfl ?_
  refine el_str rfl rfl rfl rfl rfl rfl (Rd.of_own ho11) ?_
  refine str_eq [172, 2, 3, 2, 104, 105, 1] [172, 2, 3, 2, 104, 105, 1] rfl rfl rfl rfl ?_
  refine ppn 11 rfl ?_
  refine str_eq [104, 105] [104, 105] rfl rfl rfl rfl ?_
  refine ep rfl ?_
  refine ew_ret (ret_1 (.bool true) rfl rfl rfl rfl ⟨rfl, ?_⟩)
  have kw : Keep [g] w w5 := ((((k1.any).trans k2 (by simp)).trans k3 (by simp)).trans k4 (by simp)).trans k5 (by simp)
  have kw0 : Keep [] w w5 := (Keep.refl [] w).trans kw (by simp; omega)
  have kr : Keep [g2] w w11 := (((((kw0.trans0 k6).trans0 k7).any.trans k8 (by simp)).trans k9 (by simp)).trans k10 (by simp)).trans k11 (by simp)
  have hs := kw0.size
  have hs6 := k6.size
  exact (Keep.refl [] w).trans kr (by simp; omega)
end Go.Proofs.Ytfbpobhbkadblaa
