/- The engine, fifth part: short words for what comes up at every step. -/
import Derived.Test.YtpdgfekimnmdnaaApp
set_option linter.unusedVariables false
set_option linter.unusedSimpArgs false
namespace Go.Proofs.Ytpdgfekimnmdnaa
open Go.RowKit
section
variable {P : Program} {r : Option Nat} {N : Nat} {Q : Post} {ρ ρ' : Env} {w : World} {ops l l' : List Oper} {o : Oper} {y : Code} {id : Nat}

/-- A region that is pure, and code behind it. -/
theorem es (h : runPure P N l 200 l ρ = ([], ρ')) (k : EW P r N y Q ρ' w) : EW P r N ((Code.region id l.toArray false).seq y) Q ρ w :=
  ew_seq (ew_region (el_pure 200 h (el_nil k)))
/-- A region, as far as it is pure, and code behind it. -/
theorem sp (h : runPure P N l 200 l ρ = (l', ρ')) (k : EL P r N l (thenP (EW P r N y Q) Q) l' ρ' w) : EW P r N ((Code.region id l.toArray false).seq y) Q ρ w :=
  ew_seq (ew_region (el_pure 200 h k))
/-- The same, n operations of it. -/
theorem spn (n : Nat) (h : runPure P N l n l ρ = (l', ρ')) (k : EL P r N l (thenP (EW P r N y Q) Q) l' ρ' w) : EW P r N ((Code.region id l.toArray false).seq y) Q ρ w :=
  ew_seq (ew_region (el_pure n h k))
/-- A region that is pure. -/
theorem eg (h : runPure P N l 200 l ρ = ([], ρ')) (k : Q .normal ρ' w) : EW P r N (Code.region id l.toArray false) Q ρ w :=
  ew_region (el_pure 200 h (el_nil k))
theorem gp (h : runPure P N l 200 l ρ = (l', ρ')) (k : EL P r N l Q l' ρ' w) : EW P r N (Code.region id l.toArray false) Q ρ w :=
  ew_region (el_pure 200 h k)
/-- What is left of a region is pure. -/
theorem ep (h : runPure P N ops 200 l ρ = ([], ρ')) (k : Q .normal ρ' w) : EL P r N ops Q l ρ w := el_pure 200 h (el_nil k)
theorem pp (h : runPure P N ops 200 l ρ = (l', ρ')) (k : EL P r N ops Q l' ρ' w) : EL P r N ops Q l ρ w := el_pure 200 h k
theorem ppn (n : Nat) (h : runPure P N ops n l ρ = (l', ρ')) (k : EL P r N ops Q l' ρ' w) : EL P r N ops Q l ρ w := el_pure n h k
/-- A slot's value, in another spelling. -/
theorem el_as {t : Nat} {v v' : Value} (h : v = v') (k : EL P r N ops Q l (ρ.up t v') w) : EL P r N ops Q l (ρ.up t v) w := h ▸ k
theorem ew_as {t : Nat} {v v' : Value} (h : v = v') (k : EW P r N y Q (ρ.up t v') w) : EW P r N y Q (ρ.up t v) w := h ▸ k
/-- One pure operation, its value shown by hand. -/
theorem el_pv (v : Value) (hw : wantedE ops N ρ o = true) (h : pureOp P N ρ o.op = some v) (k : EL P r N ops Q l (ρ.upo o.dst v) w) : EL P r N ops Q (o :: l) ρ w := el_run hw (pure_run h) k
theorem shl_some {k : IntKind} {a b : Int} (hb : 0 ≤ b) : shiftI .shl k a b = some (.int k (k.wrap (a * 2 ^ min b.toNat k.bits))) := by
  unfold shiftI
  rw [if_neg (by omega)]
theorem shr_some {k : IntKind} {a b : Int} (hb : 0 ≤ b) : shiftI .shr k a b = some (.int k (a.fdiv (2 ^ min b.toNat k.bits))) := by
  unfold shiftI
  rw [if_neg (by omega)]
theorem el_shl {k yk : IntKind} {a b : Int} {t ty : TypeId} {x y' : Operand} (ho : o.op = .binOp .shl t x y' ty) (hw : wantedE ops N ρ o = true) (hx : ev N ρ x = .int k a) (hy : ev N ρ y' = .int yk b) (hb : 0 ≤ b)
    (h : EL P r N ops Q l (ρ.upo o.dst (.int k (k.wrap (a * 2 ^ min b.toNat k.bits)))) w) : EL P r N ops Q (o :: l) ρ w :=
  el_pv _ hw (by rw [ho]; simp only [pureOp, hx, hy, binV]; exact shl_some hb) h
theorem el_shr {k yk : IntKind} {a b : Int} {t ty : TypeId} {x y' : Operand} (ho : o.op = .binOp .shr t x y' ty) (hw : wantedE ops N ρ o = true) (hx : ev N ρ x = .int k a) (hy : ev N ρ y' = .int yk b) (hb : 0 ≤ b)
    (h : EL P r N ops Q l (ρ.upo o.dst (.int k (a.fdiv (2 ^ min b.toNat k.bits)))) w) : EL P r N ops Q (o :: l) ρ w :=
  el_pv _ hw (by rw [ho]; simp only [pureOp, hx, hy, binV]; exact shr_some hb) h
/-- Forget all slots but some. -/
theorem ew_cut {x : Code} (L : List (Nat × Value)) (I : World → Prop) (h : EW P r N x (thenP (fun ρ' w' => ρ'.ds = ρ.ds ∧ Mt ρ' L ∧ I w') Q) ρ w) (k : ∀ (ρ' : Env) (w' : World), ρ'.ds = ρ.ds → I w' → EW P r N y Q (ρ'.ups L) w') : EW P r N (x.seq y) Q ρ w := by
  refine ew_seq (h.mono fun e ρ' w' hq => ?_)
  cases e with
  | normal =>
    obtain ⟨h1, h2, h3⟩ := hq
    have := k ρ' w' h1 h3
    rw [ups_id h2] at this
    exact this
  | _ => exact hq
/-- A slot that holds a bool: part on it. -/
theorem el_part {t : Nat} {b : Bool} (ht : b = true → EL P r N ops Q l (ρ.up t (.bool true)) w) (hf : b = false → EL P r N ops Q l (ρ.up t (.bool false)) w) : EL P r N ops Q l (ρ.up t (.bool b)) w := by
  cases b with
  | true => exact ht rfl
  | false => exact hf rfl
theorem Mt2 {t : Nat} {v : Value} {l : List (Nat × Value)} (h : ρ.get t = v) (k : Mt ρ l) : Mt ρ ((t, v) :: l) := ⟨h, k⟩

theorem Rd.of_blk {b : Nat} {T : TypeId} {vs : List Value} {fr : Nat × Nat} (h : w.heap[b]? = some (.cells vs.toArray T fr)) : Rd w (.slice (some ⟨b, 0, none⟩) vs.length vs.length) vs.length vs :=
  ⟨_, _, rfl, Nat.le_refl _, fun j u hj => ⟨_, rfl, by rw [add_lit, Nat.zero_add, Blk.cell h]; simpa using hj⟩⟩
theorem Rd.at_ {v : Value} {n : Nat} {xs : List Value} (h : Rd w v n xs) (j : Nat) (u : Value) (hj : xs[j]? = some u) : ∃ a cap, v = .slice (some a) n cap ∧ w.cell? (a.add j) = some u := by
  obtain ⟨ad, cap, rfl, hc, hr⟩ := h
  obtain ⟨a, rfl, ha⟩ := hr j u hj
  exact ⟨a, cap, rfl, ha⟩
theorem Rd.slice {v : Value} {n : Nat} {xs : List Value} (h : Rd w v n xs) : ∃ ad cap, v = .slice ad n cap ∧ n ≤ cap := by
  obtain ⟨ad, cap, rfl, hc, hr⟩ := h
  exact ⟨ad, cap, rfl, hc⟩
theorem own_slice {base : Nat} {e : TypeId} {size : Nat} {v : Value} {n : Nat} {xs : List Value} (h : w.ownsRow base e size v n xs) : ∃ ad cap, v = .slice ad n cap ∧ n ≤ cap := (Rd.of_own h).slice

theorem Keep.app {M : List Nat} {w0 w' : World} {base : Nat} {e : TypeId} {size : Nat} {v : Value} {n : Nat} {xs : List Value} (hk : Keep M w0 w) (hown : w.ownsRow base e size v n xs) (hb : w0.heap.size ≤ base) (hg : w.grownBy w' v.ownBlock) : Keep M w0 w' :=
  hk.trans (Keep.of_grown (M := v.ownBlock.toList) hg (fun b hb _ => by simp [hb])) (fun b hb' hlt => by
    have hl := hown.lt b (by simpa using hb')
    omega)
theorem wrap_i64 {n : Int} (h0 : -9223372036854775808 ≤ n) (h1 : n ≤ 9223372036854775807) : IntKind.wrap .i64 n = n := IntWalk.i64_in n ⟨h0, h1⟩
theorem wrap_u8 {n : Int} : IntKind.wrap .u8 n = n % 256 := by
  unfold IntKind.wrap
  simp [IntKind.bits, IntKind.signed]
theorem wrap_u64 {n : Int} : IntKind.wrap .u64 n = n % 18446744073709551616 := by
  unfold IntKind.wrap
  simp [IntKind.bits, IntKind.signed]
theorem wrap_u32 {n : Int} : IntKind.wrap .u32 n = n % 4294967296 := by
  unfold IntKind.wrap
  simp [IntKind.bits, IntKind.signed]
theorem int_eq {k : IntKind} {a b : Int} (h : a = b) : Value.int k a = Value.int k b := by rw [h]
theorem bool_eq {a b : Bool} (h : a = b) : Value.bool a = Value.bool b := by rw [h]
end
end Go.Proofs.Ytpdgfekimnmdnaa
