/- The engine: maps with few entries; ranges over a function; functions that hold one. -/
import Derived.Test.YtpdgfekimnmdnaaOrdC
import Derived.RangeFuncCalls
import Derived.RangeFuncLeaves
import Derived.Scope
set_option linter.unusedVariables false
set_option linter.unusedSimpArgs false
namespace Go.Proofs.Ytpdgfekimnmdnaa
open Go.RowKit
set_option maxRecDepth 20000

section
variable {P : Program} {r : Option Nat} {N : Nat} {Q : Post} {ρ : Env} {w : World} {ops l : List Oper} {o : Oper}

theorem Keep.putObj (w : World) (b : Nat) (o : Obj) : Keep [b] w (w.putObj b o) :=
  ⟨rfl, rfl, rfl, by simp, fun k hk hn => World.putObj_heap_other (by simpa using hn)⟩

/-! ### 1. Maps -/
theorem el_makeMap {t : TypeId} (ho : o.op = .makeMap t none) (hw : wantedE ops N ρ o = true)
    (h : ∀ b w', w.heap.size = b → Keep [] w w' → w'.heap[b]? = some (.map #[] 0) → EL P r N ops Q l (ρ.upo o.dst (.map (some b))) w') : EL P r N ops Q (o :: l) ρ w := by
  refine el_run hw (fun ro => ?_) (h w.heap.size (w.alloc (.map #[] 0)) rfl (Keep.alloc _ _) (World.alloc_heap_new w _))
  rw [Oper.semAt_eq _ _ _ (by simp [ho])]
  unfold execOp
  simp only [ho]
  refine run_builtin_w _ ?_
  simp [Instr.makeMap]
theorem run_gmap {b : Nat} {es : Array MapEntry} {clock : Nat} (hb : w.heap[b]? = some (.map es clock)) : (getObj b).run P w = .ok (.map es clock) w := by simp [getObj, Sem.run, hb]
theorem run_smap {b : Nat} {es : Array MapEntry} {clock : Nat} (o' : Obj) (hb : w.heap[b]? = some (.map es clock)) : (setObj b o').run P w = .ok () (w.putObj b o') := by simp [setObj, Sem.run, hb, World.putObj]
theorem run_findKey {k : TypeId} {q : IntKind} {key : Value} {es : List MapEntry} {x : Option (Nat × Value)} (hk : P.underlying k = some (.int q)) (hf : Instr.findNow (.int q) key es 0 = some x) : (Instr.findKey k key es).run P w = .ok x w := by
  unfold Instr.findKey
  rw [Sem.run_bind, run_underlying hk]
  simp only [Result.andThen_ok, hf, Sem.run_pure]
theorem run_checkKey {k : TypeId} {q q' : IntKind} {a : Int} {e : Bool} (hk : P.underlying k = some (.int q)) : (Instr.checkKey e 10000 k (.int q' a)).run P w = .ok () w := by
  rw [show (10000 : Nat) = 9999 + 1 from rfl]
  unfold Instr.checkKey
  rw [Sem.run_bind, run_underlying hk]
  rfl
theorem el_insert {t k e : TypeId} {q q' : IntKind} {m key x : Operand} {b : Nat} {a : Int} {v : Value} {es : Array MapEntry} {clock : Nat} (ho : o.op = .insert t m key x) (hw : wantedE ops N ρ o = true) (hT : P.underlying t = some (.map k e)) (hk : P.underlying k = some (.int q))
    (hm : ev N ρ m = .map (some b)) (hkey : ev N ρ key = .int q' a) (hx : ev N ρ x = v) (hb : w.heap[b]? = some (.map es clock)) (hf : Instr.findNow (.int q) (.int q' a) es.toList 0 = some none)
    (h : ∀ w', Keep [b] w w' → w'.heap[b]? = some (.map (es.push { key := .int q' a, val := v, born := clock }) (clock + 1)) → EL P r N ops Q l (ρ.upo o.dst undef) w') : EL P r N ops Q (o :: l) ρ w := by
  refine el_runs hw (fun ro => ?_) (h (w.putObj b (.map (es.push { key := .int q' a, val := v, born := clock }) (clock + 1))) (Keep.putObj _ _ _) (World.putObj_heap_same (Array.getElem?_eq_some_iff.1 hb).1))
  rw [Oper.semAt_eq _ _ _ (by simp [ho])]
  unfold execOp
  simp only [ho, hm, hkey, hx]
  unfold Instr.mapUpdate
  simp only [Sem.run_bind, run_underlying hT, Result.andThen_ok, run_gmap hb, run_checkKey hk, run_findKey hk hf, run_smap _ hb, Sem.run_pure]
theorem el_lookup {t k e : TypeId} {q q' : IntKind} {m key : Operand} {b : Nat} {a : Int} {es : Array MapEntry} {clock : Nat} {v z : Value} {ok : Bool} (ho : o.op = .lookup t m key true) (hw : wantedE ops N ρ o = true) (hT : P.underlying t = some (.map k e)) (hk : P.underlying k = some (.int q))
    (hm : ev N ρ m = .map (some b)) (hkey : ev N ρ key = .int q' a) (hb : w.heap[b]? = some (.map es clock)) (hz : (P.info? e).bind (·.zero) = some z)
    (hf : (Instr.findNow (.int q) (.int q' a) es.toList 0).map (fun x => match x with | some (_, v) => (v, true) | none => (z, false)) = some (v, ok))
    (h : EL P r N ops Q l (ρ.upo o.dst (.tuple #[v, .bool ok])) w) : EL P r N ops Q (o :: l) ρ w := by
  refine el_run hw (fun ro => ?_) h
  rw [Oper.semAt_eq _ _ _ (by simp [ho])]
  unfold execOp
  simp only [ho, hm, hkey]
  refine run_builtin_w _ ?_
  cases hi : P.info? e with
  | none => rw [hi] at hz; cases hz
  | some i =>
    rw [hi] at hz
    have hz' : i.zero = some z := hz
    unfold Instr.lookup
    cases hq : Instr.findNow (.int q) (.int q' a) es.toList 0 with
    | none => rw [hq] at hf; cases hf
    | some x =>
      rw [hq] at hf
      cases x with
      | none =>
        simp only [Option.map_some, Option.some.injEq, Prod.mk.injEq] at hf
        obtain ⟨rfl, rfl⟩ := hf
        simp [run_underlying hT, run_gmap hb, run_checkKey hk, run_findKey hk hq, zeroValue, typeInfo, hi, hz']
      | some p =>
        simp only [Option.map_some, Option.some.injEq, Prod.mk.injEq] at hf
        obtain ⟨rfl, rfl⟩ := hf
        simp [run_underlying hT, run_gmap hb, run_checkKey hk, run_findKey hk hq]

/-! ### A scope without gotos -/
abbrev nogoP (Q : Post) : Post := fun e ρ w => match e with
  | .goto _ => False
  | e => Q e ρ w
theorem ew_scope {c : Code} (h : EW P none N c (nogoP Q) ρ w) : EW P none N (.scope c) Q ρ w :=
  ⟨fun a ha => (wpIn_wide (n := 0)).2 (wp_scope_straight ((wpIn_wide (n := 0)).1 (wpIn_mono (h.out a ha) fun e a' w' ⟨ρ', h1, h2⟩ => by
    cases e with
    | goto l => exact h2.elim
    | _ => exact ⟨ρ', h1, h2⟩)))⟩

/-! ### 2. A call of yield -/
theorem el_yield {x y : Operand} {ts : Array TypeId} {l' : Nat} {v : Value} {R : Value → World → Prop} (ho : o.op = .call { callee := .value x, args := #[y], argTypes := ts }) (hw : wantedE ops N ρ o = true)
    (hx : ev N ρ x = .func (.yield l') #[] #[]) (hy : ev N ρ y = v) (hY : YieldAt (Fw none) 0 P l' #[v] w fun e w' => ∃ b, e = .returned b ∧ R b w')
    (h : ∀ b w', R b w' → EL P none N ops Q l (ρ.upo o.dst b) w') : EL P none N ops Q (o :: l) ρ w :=
  ⟨fun a ha => by
    obtain ⟨fn, tmps, assign, body, hrun, hR⟩ := hY
    unfold wpListIn
    rw [wanted_of ha, hw]
    simp only [if_true]
    refine ⟨fun _ _ => trivial, ?_⟩
    have hr : (o.semAt (Fw none).round (ev N ρ)).run P w = .ok (.round l' fn tmps assign body) w := by
      rw [Oper.semAt_eq _ _ _ (by simp [ho])]
      unfold execOp
      simp only [ho, resolve, Sem.run_bind, hx, hy, Deferred.ofValue, Sem.run_pure, Result.andThen_ok, invoke, List.map_toArray, List.map_cons, List.map_nil]
      simpa using hrun
    rw [ha.eval_fun, hr]
    refine ⟨fun h => by simp [Fw] at h, ?_⟩
    refine hR.mono fun e w' ⟨b, he, hb⟩ => ?_
    subst he
    exact (h b w' hb).out _ (ha.put _ _)⟩

/-! ### 3. A function that holds a range over a function -/
def mark (D : Nat) : Deferred := { target := .collected D, args := #[] }
def retPM (P : Program) (fn : Func) (R : Value → World → Prop) : Post := fun e ρ w => match e with
  | .normal | .ret => (ρ.ds = [] ∧ ∃ v, (∀ a : Act, Rep fn.ntmps a ρ → (results fn a.tmps).run P w = .ok v w) ∧ R v w) ∨
      (∃ D, ρ.ds = [mark D] ∧ w.heap[D]? = some (.deferred (some [])) ∧ ∃ v, (∀ a : Act, Rep fn.ntmps a ρ → (results fn a.tmps).run P (w.putObj D (.deferred none)) = .ok v (w.putObj D (.deferred none))) ∧ R v (w.putObj D (.deferred none)))
  | _ => False
theorem retP_M {fn : Func} {R : Value → World → Prop} (h : retP P fn R .ret ρ w) : retPM P fn R .ret ρ w := .inl h

theorem leaves_of {fn : Func} {R : Value → World → Prop} {a : Act} (ha : Rep fn.ntmps a ρ) (h : retPM P fn R .ret ρ w) : LeavesInM (Fw none) 0 P fn a.tmps (fun e w' => ∃ v, e = .returned v ∧ R v w') a.defers .returning w := by
  rw [ha.defers]
  rcases h with ⟨hd, v, hv, hR⟩ | ⟨D, hd, hD, v, hv, hR⟩
  · rw [hd]
    exact ⟨v, hv a ha, v, rfl, hR⟩
  · rw [hd]
    refine ⟨by simp, .inl ⟨D, _, rfl, run_takeDeferred hD, ?_⟩⟩
    exact ⟨v, hv a ha, v, rfl, hR⟩
theorem fn_enterM {f : FuncId} {fn : Func} {c : Code} {args : List Value} {R : Value → World → Prop} (hf : P.funcs[f]? = some fn) (hb : fn.body = some c) (hn : Nat.ble args.length fn.ntmps = true)
    (h : EW P none fn.ntmps c (retPM P fn R) (Env.args args) w) : Fn P f args w R := by
  have hle : args.length ≤ fn.ntmps := Nat.le_of_ble_eq_true hn
  refine callsIn_wide (n := 0) |>.1 (callsIn_of_wp_marks (F := Fence.wide) hf hb trivial ?_ rfl)
  refine wpIn_mono (h.out _ (args_rep args hle)) fun e a w ⟨ρ', h1, h2⟩ => ?_
  cases e with
  | normal => exact leaves_of h1 h2
  | ret => exact leaves_of h1 h2
  | _ => exact h2.elim
theorem retM_l {fn : Func} {R : Value → World → Prop} {rs : List ResultVar} {D : Nat} (vs : List Value) (hr : fn.results = rs.toArray) (hd : ρ.ds = [mark D]) (hD : w.heap[D]? = some (.deferred (some []))) (hv : ResOk P fn.ntmps ρ (w.putObj D (.deferred none)) rs vs) (h : R (outV vs) (w.putObj D (.deferred none))) : retPM P fn R .ret ρ w := by
  refine .inr ⟨D, hd, hD, _, fun a ha => ?_, h⟩
  have e := run_resOk ha rs vs hv
  rw [results_one, hr, Array.mapM_eq_mapM_toList]
  simp only [Sem.run_bind]
  have e2 : ((List.toArray <$> (List.mapM (resOne a.tmps) rs.toArray.toList) : Sem (Array Value))).run P (w.putObj D (.deferred none)) = Result.ok vs.toArray (w.putObj D (.deferred none)) := by
    have : rs.toArray.toList = rs := by simp
    rw [this]
    simp [e]
  rw [e2]
  simp only [Result.andThen_ok, Sem.run_pure]
  congr 1
  match vs with
  | [] => rfl
  | [v] => rfl
  | v :: v' :: vs => simp [outV]
end
end Go.Proofs.Ytpdgfekimnmdnaa
