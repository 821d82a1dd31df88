/- The engine: a slice's literal, of elements of several cells. -/
import Derived.Test.YtpdgfekimnmdnaaApp2
set_option linter.unusedVariables false
set_option linter.unusedSimpArgs false
namespace Go.Proofs.Ytpdgfekimnmdnaa
open Go.RowKit
section
variable {P : Program} {r : Option Nat} {N : Nat} {Q : Post} {ρ : Env} {w : World} {ops l : List Oper} {o : Oper}

def baseL (z : Value) (n : Nat) : List Value := (List.range n).map fun x => z.cells[x % z.cells.size]!
theorem el_bsliceN {t e : TypeId} {len : Nat} {parts : Array (Nat × Operand)} {z : Value} {size bytes : Nat} {vs : List Value} (ho : o.op = .buildSlice t len parts) (hw : wantedE ops N ρ o = true) (hT : P.underlying t = some (.slice e))
    (hinfo : (P.info? e).map (fun i => (i.zero, i.size, i.bytes)) = some (some z, size, bytes)) (hlen : Nat.ble (len * size) 16777216 = true) (hpos : Nat.blt 0 (len * size) = true) (hf : fillL (fun i => some (i * size, size)) (baseL z (len * size)) (parts.toList.map fun p => (p.1, ev N ρ p.2)) = some vs)
    (h : ∀ b w', w.heap.size = b → w'.heap.size = b + 1 → Keep [] w w' → Blk w' b e vs.toArray → EL P r N ops Q l (ρ.upo o.dst (.slice (some ⟨b, 0, none⟩) len len)) w') : EL P r N ops Q (o :: l) ρ w := by
  obtain ⟨ie, hi, h2, h3, h4⟩ := infos hinfo
  refine el_run hw (fun ro => ?_) (h w.heap.size (w.alloc (.cells vs.toArray e)) rfl (by simp) (Keep.alloc _ _) (Blk.new _ _ _))
  rw [Oper.semAt_eq _ _ _ (by simp [ho])]
  unfold execOp
  simp only [ho]
  refine run_builtin_w _ ?_
  have ef := fill_eq (fun i => some (i * size, size)) _ _ _ hf
  have hle : ¬ (len * size > 2 ^ 24) := by have := Nat.le_of_ble_eq_true hlen; omega
  have h0 : ¬ (len * size = 0) := by have := lt_blt hpos; omega
  have hm : (Array.range (len * size)).map (fun x => z.cells[x % z.cells.size]!) = (baseL z (len * size)).toArray := by
    apply Array.ext'
    simp [baseL, Array.toList_range]
  have e1 : (Array.map (fun x : Nat × Operand => (x.1, ev N ρ x.2)) parts).toList = parts.toList.map fun p => (p.1, ev N ρ p.2) := by simp
  exact Go.run_buildSlice (P := P) w t e len (Array.map (fun x : Nat × Operand => (x.1, ev N ρ x.2)) parts) vs.toArray ie z hT hi h2 (by rw [h3]; exact hle) (by rw [h3]; exact h0) (by rw [h3, hm, e1]; exact ef)
theorem Rd.of_blk1 {b : Nat} {T : TypeId} {vs : List Value} {fr : Nat × Nat} (n : Nat) (h : w.heap[b]? = some (.cells vs.toArray T fr)) : Rd w (.slice (some ⟨b, 0, none⟩) n n) n vs :=
  ⟨_, _, rfl, Nat.le_refl _, fun j u hj => ⟨_, rfl, by rw [add_lit, Blk.cell h]; simpa using hj⟩⟩
end
end Go.Proofs.Ytpdgfekimnmdnaa
