/- The engine, third part: memory. 'Keep M w w'': every block of w but those of M stands in w' as it stood. One rule an operation. -/
import Derived.Test.YtpdgfekimnmdnaaPure
import Derived.Laws.CopyRow
import Derived.Laws.Rows
import Derived.Laws.BytesString
import Derived.Lib.ConvBytes
import Derived.Laws.Append
set_option linter.unusedVariables false
set_option linter.unusedSimpArgs false
namespace Go.Proofs.Ytpdgfekimnmdnaa
open Go.RowKit

/-! ### 1. What stays -/
structure Keep (M : List Nat) (w w' : World) : Prop where
  os : w'.os = w.os
  tape : w'.tape = w.tape
  output : w'.output = w.output
  size : w.heap.size ≤ w'.heap.size
  block : ∀ k, k < w.heap.size → k ∉ M → w'.heap[k]? = w.heap[k]?

theorem Keep.refl (M : List Nat) (w : World) : Keep M w w := ⟨rfl, rfl, rfl, Nat.le_refl _, fun _ _ _ => rfl⟩
theorem Keep.trans {M M' : List Nat} {w w1 w2 : World} (h : Keep M w w1) (k : Keep M' w1 w2) (hM : ∀ b ∈ M', b < w.heap.size → b ∈ M) : Keep M w w2 :=
  ⟨k.os.trans h.os, k.tape.trans h.tape, k.output.trans h.output, Nat.le_trans h.size k.size, fun b hb hn =>
    (k.block b (Nat.lt_of_lt_of_le hb h.size) (fun q => hn (hM b q hb))).trans (h.block b hb hn)⟩
theorem Keep.trans0 {M : List Nat} {w w1 w2 : World} (h : Keep M w w1) (k : Keep [] w1 w2) : Keep M w w2 := h.trans k (fun _ q => by cases q)
theorem Keep.mono {M M' : List Nat} {w w' : World} (h : Keep M w w') (hM : ∀ b ∈ M, b ∈ M') : Keep M' w w' := ⟨h.os, h.tape, h.output, h.size, fun b hb hn => h.block b hb (fun q => hn (hM b q))⟩
theorem Keep.any {M : List Nat} {w w' : World} (h : Keep [] w w') : Keep M w w' := h.mono (fun _ q => by cases q)
theorem Keep.below {w w' : World} (h : Keep [] w w') : Below w.heap.size w w' := ⟨h.os, h.tape, h.output, h.size, fun k hk => h.block k hk (by simp)⟩
theorem Keep.of_below {w w' : World} (h : Below w.heap.size w w') : Keep [] w w' := ⟨h.os, h.tape, h.output, h.size, fun k hk _ => h.block k hk⟩
theorem Keep.of_grown {w w' : World} {row : Option Nat} (h : w.grownBy w' row) {M : List Nat} (hM : ∀ b, row = some b → b < w.heap.size → b ∈ M) : Keep M w w' :=
  ⟨h.os, h.tape, h.output, h.size, fun k hk hn => h.block k hk (fun e => hn (hM k e.symm hk))⟩
theorem Keep.blk {M : List Nat} {w w' : World} (h : Keep M w w') {b : Nat} {o : Obj} (hb : w.heap[b]? = some o) (hn : b ∉ M) : w'.heap[b]? = some o :=
  (h.block b (Array.getElem?_eq_some_iff.1 hb).1 hn).trans hb
theorem Keep.cell {M : List Nat} {w w' : World} (h : Keep M w w') {a : Addr} {v : Value} (hc : w.cell? a = some v) (hn : a.block ∉ M) : w'.cell? a = some v :=
  (World.cell?_of_block (h.block a.block (World.block_lt_of_cell? w a hc) hn)).trans hc
theorem Keep.drew (w : World) : Keep [] w w.drew := ⟨rfl, rfl, rfl, Nat.le_refl _, fun _ _ _ => rfl⟩
theorem Keep.alloc (w : World) (o : Obj) : Keep [] w (w.alloc o) := ⟨rfl, rfl, rfl, by simp, fun k hk _ => Below.heap_alloc w o k hk⟩

/-- A block that is known whole. -/
abbrev Blk (w : World) (b : Nat) (T : TypeId) (cs : Array Value) : Prop := w.heap[b]? = some (.cells cs T (0, 0))
theorem Blk.lt {w : World} {b : Nat} {o : Obj} (h : w.heap[b]? = some o) : b < w.heap.size := (Array.getElem?_eq_some_iff.1 h).1
theorem Blk.ne {w : World} {b b' : Nat} {T T' : TypeId} {cs cs' : Array Value} {fr fr' : Nat × Nat} (h : w.heap[b]? = some (.cells cs T fr)) (h' : w.heap[b']? = some (.cells cs' T' fr')) (hT : T ≠ T') : b ≠ b' := by
  rintro rfl
  rw [h] at h'
  injection h' with h'
  injection h' with _ h'
  exact hT h'
theorem Blk.cell {w : World} {b : Nat} {T : TypeId} {cs : Array Value} {fr : Nat × Nat} (h : w.heap[b]? = some (.cells cs T fr)) (j : Nat) : w.cell? ⟨b, j, none⟩ = cs[j]? := by
  simp [World.cell?, h]

theorem add_lit (b off j : Nat) : (⟨b, off, none⟩ : Addr).add j = ⟨b, off + j, none⟩ := by unfold Addr.add; split <;> simp_all
theorem add_block (a : Addr) (j : Nat) : (a.add j).block = a.block := by unfold Addr.add; split <;> rfl

/-- The cells of a block, some of them anew. -/
def setL (cs : Array Value) (off : Nat) (vs : List Value) : Array Value := (cs.toList.take off ++ vs ++ cs.toList.drop (off + vs.length)).toArray

/-! ### 2. Rules -/
section
variable {P : Program} {r : Option Nat} {N : Nat} {Q : Post} {ρ : Env} {w : World} {ops l : List Oper} {o : Oper}

theorem info_of_under {t : TypeId} {T : TypeDesc} (hT : P.underlying t = some T) : ∃ i, P.info? t = some i := by
  unfold Program.underlying at hT
  split at hT <;> first | exact ⟨_, by assumption⟩ | cases hT
theorem info_of_size {t : TypeId} {n : Nat} (h : P.cellsOf t = n) (hn : 0 < n) : ∃ i, P.info? t = some i ∧ i.size = n := by
  unfold Program.cellsOf at h
  cases hq : P.info? t with
  | none => rw [hq] at h; simp at h; omega
  | some i => rw [hq] at h; simp at h; exact ⟨i, rfl, h⟩

/-- A load of one cell. -/
theorem el_load {t : TypeId} {x : Operand} {a : Addr} {v : Value} {T : TypeDesc} (ho : o.op = .load t x) (hw : wantedE ops N ρ o = true) (ha : ev N ρ x = .pointer (some a)) (hT : P.underlying t = some T)
    (hg : aggT (some T) = false) (hc : w.cell? a = some v) (h : EL P r N ops Q l (ρ.upo o.dst v) w) : EL P r N ops Q (o :: l) ρ w := by
  refine el_run hw (fun ro => ?_) h
  rw [Oper.semAt_eq _ _ _ (by simp [ho])]
  unfold execOp
  simp only [ho]
  refine run_builtin_v _ ?_
  simp [Instr.loadAt, ha, Instr.sureAddr, loadVar, run_isAgg hT, hg, hc]
/-- A load of one cell out of a block that is known. -/
theorem el_loadb {t : TypeId} {x : Operand} {b off : Nat} {v : Value} {T : TypeDesc} {B : TypeId} {cs : Array Value} {fr : Nat × Nat} (ho : o.op = .load t x) (hw : wantedE ops N ρ o = true) (ha : ev N ρ x = .pointer (some ⟨b, off, none⟩)) (hT : P.underlying t = some T)
    (hg : aggT (some T) = false) (hb : w.heap[b]? = some (.cells cs B fr)) (hc : cs[off]? = some v) (h : EL P r N ops Q l (ρ.upo o.dst v) w) : EL P r N ops Q (o :: l) ρ w :=
  el_load ho hw ha hT hg ((Blk.cell hb off).trans hc) h
/-- A load of an aggregate. -/
theorem el_loadc {t : TypeId} {x : Operand} {a : Addr} {vs : List Value} {T : TypeDesc} (ho : o.op = .load t x) (hw : wantedE ops N ρ o = true) (ha : ev N ρ x = .pointer (some a)) (hT : P.underlying t = some T)
    (hg : aggT (some T) = true) (hn : P.cellsOf t = vs.length) (hc : ∀ j v, vs[j]? = some v → w.cell? (a.add j) = some v) (h : EL P r N ops Q l (ρ.upo o.dst (.agg vs.toArray)) w) : EL P r N ops Q (o :: l) ρ w := by
  refine el_run hw (fun ro => ?_) h
  rw [Oper.semAt_eq _ _ _ (by simp [ho])]
  unfold execOp
  simp only [ho]
  refine run_builtin_v _ ?_
  obtain ⟨i, hi⟩ := info_of_under hT
  have hs : i.size = vs.length := by rw [← hn]; simp [Program.cellsOf, hi]
  have hl := run_loadCells_list (P := P) w a vs hc
  simp [Instr.loadAt, ha, Instr.sureAddr, loadVar, run_isAgg hT, hg, sizeOf, typeInfo, hi, hs, hl]
theorem el_loada {t : TypeId} {x : Operand} {b off : Nat} {vs : List Value} {T : TypeDesc} {B : TypeId} {cs : Array Value} {fr : Nat × Nat} (ho : o.op = .load t x) (hw : wantedE ops N ρ o = true) (ha : ev N ρ x = .pointer (some ⟨b, off, none⟩)) (hT : P.underlying t = some T)
    (hg : aggT (some T) = true) (hn : P.cellsOf t = vs.length) (hb : w.heap[b]? = some (.cells cs B fr)) (hc : (cs.toList.drop off).take vs.length = vs) (h : EL P r N ops Q l (ρ.upo o.dst (.agg vs.toArray)) w) : EL P r N ops Q (o :: l) ρ w := by
  refine el_loadc ho hw ha hT hg hn (fun j v hj => ?_) h
  rw [add_lit, Blk.cell hb, ← hj, ← hc]
  by_cases hlt : j < vs.length
  · simp [List.getElem?_take, hlt]
  · rw [List.getElem?_eq_none (Nat.le_of_not_lt hlt)] at hj; cases hj

theorem run_storeVar_blk {t : TypeId} {b off : Nat} {B : TypeId} {cs : Array Value} {v : Value} {vs : List Value} (hn : P.cellsOf t = vs.length) (hpos : 0 < vs.length) (hv : v.cells.toList = vs) (h1 : ∀ u ∈ vs, u.oneCell' = true)
    (hb : Blk w b B cs) (hf : off + vs.length ≤ cs.size) : (storeVar t ⟨b, off, none⟩ v).run P w = .ok () (w.setRow b (setL cs off vs)) := by
  obtain ⟨i, hi, hs⟩ := info_of_size hn hpos
  have hsz : v.cells.size = vs.length := by rw [← hv]; simp
  have hst := run_storeCells_at P b off B vs 0 cs w hb (by omega) h1
  unfold storeVar
  simp only [sizeOf, typeInfo, Sem.run_bind, run_program, Result.andThen_ok, hi, Sem.run_pure, hs, hsz]
  simp only [ne_eq, not_true_eq_false, if_false, Sem.run_pure, Result.andThen_ok]
  rw [hv]
  simpa [setL] using hst

theorem Keep.setRow (w : World) (b : Nat) (cs : Array Value) : Keep [b] w (w.setRow b cs) :=
  ⟨rfl, rfl, rfl, by simp, fun k hk hn => setRow_other w b k cs (by simpa using hn)⟩

/-- A store into a block that is known. -/
theorem el_store {t : TypeId} {x y : Operand} {b off : Nat} {B : TypeId} {cs : Array Value} (cs' : Array Value) {v : Value} {vs : List Value} (ho : o.op = .store t x y) (hw : wantedE ops N ρ o = true) (ha : ev N ρ x = .pointer (some ⟨b, off, none⟩)) (hy : ev N ρ y = v)
    (hv : v.cells.toList = vs) (hn : P.cellsOf t = vs.length) (hpos : Nat.blt 0 vs.length = true) (h1 : vs.all Value.oneCell' = true) (hb : Blk w b B cs) (hf : Nat.ble (off + vs.length) cs.size = true) (hcs : setL cs off vs = cs')
    (h : ∀ w', Keep [b] w w' → w'.heap.size = w.heap.size → Blk w' b B cs' → EL P r N ops Q l (ρ.upo o.dst undef) w') : EL P r N ops Q (o :: l) ρ w := by
  refine el_runs hw (fun ro => ?_) (h (w.setRow b (setL cs off vs)) (Keep.setRow _ _ _) (by simp) (hcs ▸ setRow_heap w b cs _ B _ hb))
  rw [Oper.semAt_eq _ _ _ (by simp [ho])]
  unfold execOp
  simp only [ho]
  have hr := run_storeVar_blk (P := P) hn (lt_blt hpos) hv (by simpa using h1) hb (Nat.le_of_ble_eq_true hf)
  simp [Instr.storeAt, ha, Instr.sureAddr, hy, hr]

theorem Blk.new (w : World) (T : TypeId) (cs : Array Value) : Blk (w.alloc (.cells cs T)) w.heap.size T cs := heap_alloc_new w _

theorem run_builtin_w {w' : World} (s : Sem Value) {v : Value} (h : s.run P w = .ok v w') : ((do pure (.value (← s)) : Sem Next)).run P w = .ok (.value v) w' := by
  rw [Sem.run_bind, h]; rfl

/-- A new variable. -/
theorem el_alloc {t : TypeId} {z : Value} (cs : Array Value) (ho : o.op = .alloc t) (hw : wantedE ops N ρ o = true) (hz : (P.info? t).bind (·.zero) = some z) (hcs : z.cells = cs)
    (h : ∀ b w', w.heap.size = b → w'.heap.size = b + 1 → Keep [] w w' → Blk w' b t cs → EL P r N ops Q l (ρ.upo o.dst (.pointer (some ⟨b, 0, none⟩))) w') : EL P r N ops Q (o :: l) ρ w := by
  subst hcs
  refine el_run hw (fun ro => ?_) (h w.heap.size (w.alloc (.cells z.cells t)) rfl (by simp) (Keep.alloc _ _) (Blk.new _ _ _))
  rw [Oper.semAt_eq _ _ _ (by simp [ho])]
  unfold execOp
  simp only [ho]
  refine run_builtin_w _ ?_
  cases hi : P.info? t with
  | none => rw [hi] at hz; cases hz
  | some i =>
    rw [hi] at hz
    have hz' : i.zero = some z := hz
    simp [Instr.alloc, zeroValue, typeInfo, hi, hz', newVar, newRow]
/-- A new variable that holds a value. -/
theorem el_box {t : TypeId} {x : Operand} {v : Value} (cs : Array Value) (ho : o.op = .box t x) (hw : wantedE ops N ρ o = true) (hx : ev N ρ x = v) (hcs : v.cells = cs)
    (h : ∀ b w', w.heap.size = b → w'.heap.size = b + 1 → Keep [] w w' → Blk w' b t cs → EL P r N ops Q l (ρ.upo o.dst (.pointer (some ⟨b, 0, none⟩))) w') : EL P r N ops Q (o :: l) ρ w := by
  subst hcs
  refine el_run hw (fun ro => ?_) (h w.heap.size (w.alloc (.cells v.cells t)) rfl (by simp) (Keep.alloc _ _) (Blk.new _ _ _))
  rw [Oper.semAt_eq _ _ _ (by simp [ho])]
  unfold execOp
  simp only [ho]
  refine run_builtin_w _ ?_
  simp [Instr.box, newVar, newRow, hx]

/-- The address of an element of a slice. -/
theorem el_index {t e : TypeId} {x i : Operand} {ad : Addr} {len cap : Nat} {k : IntKind} {j p : Nat} {n : Int} (ho : o.op = .indexAddr t x i) (hw : wantedE ops N ρ o = true) (hx : ev N ρ x = .slice (some ad) len cap) (hi : ev N ρ i = .int k n)
    (hT : P.underlying t = some (.slice e)) (hn : n = (j : Int)) (hj : j < len) (hp : j * P.cellsOf e = p) (hi' : (P.info? e).isSome = true)
    (h : EL P r N ops Q l (ρ.upo o.dst (.pointer (some (ad.add p)))) w) : EL P r N ops Q (o :: l) ρ w := by
  refine el_run hw (fun ro => ?_) h
  rw [Oper.semAt_eq _ _ _ (by simp [ho])]
  unfold execOp
  simp only [ho]
  refine run_builtin_v _ ?_
  obtain ⟨ie, hie⟩ := Option.isSome_iff_exists.1 hi'
  subst hn
  subst hp
  have h0 : (0 : Int) ≤ (j : Int) := by omega
  have h1 : (j : Int) < (len : Int) := by omega
  simp [Instr.indexAt, hx, hi, asIntOf, run_underlying hT, hj, sizeOf, typeInfo, hie, Program.cellsOf]

/-- A slice of a slice, from the beginning. -/
theorem el_slice_to {t e : TypeId} {x hi : Operand} {a : Option Addr} {len cap : Nat} {k : IntKind} {m : Nat} {n : Int} (ho : o.op = .slice t x none (some hi) none) (hw : wantedE ops N ρ o = true) (hx : ev N ρ x = .slice a len cap) (hhi : ev N ρ hi = .int k n)
    (hT : P.underlying t = some (.slice e)) (hi' : (P.info? e).isSome = true) (hn : n = (m : Int)) (hm : m ≤ cap)
    (h : EL P r N ops Q l (ρ.upo o.dst (.slice a m cap)) w) : EL P r N ops Q (o :: l) ρ w := by
  refine el_run hw (fun ro => ?_) h
  rw [Oper.semAt_eq _ _ _ (by simp [ho])]
  unfold execOp
  simp only [ho]
  refine run_builtin_v _ ?_
  obtain ⟨ie, hie⟩ := Option.isSome_iff_exists.1 hi'
  subst hn
  have h1 : (0 : Int) ≤ (m : Int) := by omega
  have h2 : (m : Int) ≤ (cap : Int) := by omega
  have ha : a.map (fun b : Addr => b.add 0) = a := by cases a <;> simp [Addr.add]
  simp [Instr.sliceAt, hx, hhi, run_underlying hT, Instr.slice, Instr.sliceBounds, Instr.sliceBound, asIntOf, hm, sizeOf, typeInfo, hie, ha]
/-- A slice of a slice, to the end. -/
theorem el_slice_from {t e : TypeId} {x lo : Operand} {a : Option Addr} {len cap : Nat} {k : IntKind} {m : Nat} {n : Int} (ho : o.op = .slice t x (some lo) none none) (hw : wantedE ops N ρ o = true) (hx : ev N ρ x = .slice a len cap) (hlo : ev N ρ lo = .int k n)
    (hT : P.underlying t = some (.slice e)) (hi' : (P.info? e).isSome = true) (hn : n = (m : Int)) (hm : m ≤ len)
    (h : EL P r N ops Q l (ρ.upo o.dst (.slice (if cap = m then a else a.map fun b => b.add (m * P.cellsOf e)) (len - m) (cap - m))) w) : EL P r N ops Q (o :: l) ρ w := by
  refine el_run hw (fun ro => ?_) h
  rw [Oper.semAt_eq _ _ _ (by simp [ho])]
  unfold execOp
  simp only [ho]
  refine run_builtin_v _ ?_
  obtain ⟨ie, hie⟩ := Option.isSome_iff_exists.1 hi'
  subst hn
  have h1 : (0 : Int) ≤ (m : Int) := by omega
  have h2 : (m : Int) ≤ (len : Int) := by omega
  simp [Instr.sliceAt, hx, hlo, run_underlying hT, Instr.slice, Instr.sliceBounds, Instr.sliceBound, asIntOf, hm, sizeOf, typeInfo, hie, Program.cellsOf]
/-- A slice of a slice, both ends. -/
theorem el_slice_in {t e : TypeId} {x lo hi : Operand} {a : Option Addr} {len cap : Nat} {k k2 : IntKind} {m m2 : Nat} {n n2 : Int} (ho : o.op = .slice t x (some lo) (some hi) none) (hw : wantedE ops N ρ o = true) (hx : ev N ρ x = .slice a len cap) (hlo : ev N ρ lo = .int k n) (hhi : ev N ρ hi = .int k2 n2)
    (hT : P.underlying t = some (.slice e)) (hi' : (P.info? e).isSome = true) (hn : n = (m : Int)) (hn2 : n2 = (m2 : Int)) (hm : m ≤ m2) (hm2 : m2 ≤ cap)
    (h : EL P r N ops Q l (ρ.upo o.dst (.slice (if cap = m then a else a.map fun b => b.add (m * P.cellsOf e)) (m2 - m) (cap - m))) w) : EL P r N ops Q (o :: l) ρ w := by
  refine el_run hw (fun ro => ?_) h
  rw [Oper.semAt_eq _ _ _ (by simp [ho])]
  unfold execOp
  simp only [ho]
  refine run_builtin_v _ ?_
  obtain ⟨ie, hie⟩ := Option.isSome_iff_exists.1 hi'
  subst hn
  subst hn2
  have h1 : (0 : Int) ≤ (m : Int) := by omega
  have h2 : (m : Int) ≤ (m2 : Int) := by omega
  have h3 : (0 : Int) ≤ (m2 : Int) := by omega
  have h4 : (m2 : Int) ≤ (cap : Int) := by omega
  simp [Instr.sliceAt, hx, hlo, hhi, run_underlying hT, Instr.slice, Instr.sliceBounds, Instr.sliceBound, asIntOf, hm, hm2, sizeOf, typeInfo, hie, Program.cellsOf]

/-! ### 3. Calls -/
theorem run_callFunc {f : FuncId} {fn : Func} {c : Code} {args : Array Value} (hf : P.funcs[f]? = some fn) (hb : fn.body = some c) (hname : (fn.name == "runtime.NumGoroutine") = false) :
    (callFunc f args).run P w = .ok (.enter f args) w := by
  simp only [beq_eq_false_iff_ne, ne_eq] at hname
  simp [callFunc, hf, hname, hb]

/-- A call of a function that is named. -/
theorem el_call {f : FuncId} {fn : Func} {c : Code} {xs : Array Operand} {ts : Array TypeId} {args : List Value} {R : Value → World → Prop} (ho : o.op = .call { callee := .value (.func f), args := xs, argTypes := ts }) (hw : wantedE ops N ρ o = true)
    (hf : P.funcs[f]? = some fn) (hb : fn.body = some c) (hname : (fn.name == "runtime.NumGoroutine") = false) (hx : xs.toList.map (ev N ρ) = args) (hc : Fn P f args w R)
    (h : ∀ v w', R v w' → EL P r N ops Q l (ρ.upo o.dst v) w') : EL P r N ops Q (o :: l) ρ w := by
  refine el_enter hw (fun ro => ?_) hc h
  rw [Oper.semAt_eq _ _ _ (by simp [ho])]
  unfold execOp
  have e1 : Array.map (ev N ρ) xs = args.toArray := by apply Array.ext'; simp [hx]
  simp only [ho, resolve, Sem.run_bind, e1, ev, Deferred.ofValue, Sem.run_pure, Result.andThen_ok, invoke]
  simp only [List.append_toArray, List.nil_append, List.append_nil]
  exact run_callFunc hf hb hname
/-- A call of a function value. -/
theorem el_callv {f : FuncId} {fn : Func} {c : Code} {x : Operand} {first captured : List Value} {xs : Array Operand} {ts : Array TypeId} {args : List Value} {R : Value → World → Prop} (ho : o.op = .call { callee := .value x, args := xs, argTypes := ts }) (hw : wantedE ops N ρ o = true)
    (hv : ev N ρ x = .func (.func f) first.toArray captured.toArray) (hf : P.funcs[f]? = some fn) (hb : fn.body = some c) (hname : (fn.name == "runtime.NumGoroutine") = false) (hx : xs.toList.map (ev N ρ) = args) (hc : Fn P f (first ++ args ++ captured) w R)
    (h : ∀ v w', R v w' → EL P r N ops Q l (ρ.upo o.dst v) w') : EL P r N ops Q (o :: l) ρ w := by
  refine el_enter hw (fun ro => ?_) hc h
  rw [Oper.semAt_eq _ _ _ (by simp [ho])]
  unfold execOp
  have e1 : Array.map (ev N ρ) xs = args.toArray := by apply Array.ext'; simp [hx]
  simp only [ho, resolve, Sem.run_bind, e1, hv, Deferred.ofValue, Sem.run_pure, Result.andThen_ok, invoke]
  simp only [List.append_toArray]
  exact run_callFunc hf hb hname
end
end Go.Proofs.Ytpdgfekimnmdnaa
