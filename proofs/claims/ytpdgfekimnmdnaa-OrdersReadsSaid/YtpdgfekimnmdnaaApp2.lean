/- The engine: append, where the row's block is told. -/
import Derived.Test.YtpdgfekimnmdnaaShort
set_option linter.unusedVariables false
set_option linter.unusedSimpArgs false
namespace Go.Proofs.Ytpdgfekimnmdnaa
open Go.RowKit
section
variable {P : Program} {r : Option Nat} {N : Nat} {Q : Post} {ρ : Env} {w : World} {ops l : List Oper} {o : Oper}

theorem run_app3 {t ty e : TypeId} {i : TypeInfo} {z : Value} {size bytes base : Nat} (ht : P.underlying t = some (.slice e)) (hi : P.info? e = some i) (hz : i.zero = some z) (hsize : i.size = size) (hby : i.bytes = bytes) (hzs : z.cells.size = size) (hsz : 0 < size)
    {v : Value} {n : Nat} {xs : List Value} (hown : w.ownsRow base e size v n xs) {x : Value} {m : Nat} {ys : List Value} (hx : Rd w x m ys) (hl : ys.length = m * size) (h1 : ∀ u ∈ ys, u.oneCell' = true)
    (h63 : n + m ≤ maxLen) (hbytes : (n + m) * bytes ≤ 140737488355328) (hbase : base ≤ w.heap.size) :
    ∃ v' w', (Builtin.append_ #[t, t] ty #[v, x]).run P w = .ok v' w' ∧ w'.ownsRow base e size v' (n + m) (xs ++ ys) ∧ w.grownBy w' v.ownBlock ∧
      ((v'.ownBlock = some w.heap.size ∧ Keep [] w w') ∨ (v'.ownBlock = v.ownBlock ∧ (m = 0 ∧ Keep [] w w' ∨ ∃ ad cap, v = .slice ad n cap ∧ 0 < m ∧ n + m ≤ cap))) := by
  obtain ⟨v', w', hrun, ho, hg, hb⟩ := run_app (P := P) (ty := ty) ht hi hz hsize hby hzs hsz hown hx hl h1 h63 hbytes hbase
  refine ⟨v', w', hrun, ho, hg, ?_⟩
  rcases Nat.eq_zero_or_pos m with hm | hm
  · subst hm
    have hy : ys = [] := List.eq_nil_of_length_eq_zero (by simpa using hl)
    subst hy
    obtain ⟨ad, cap, rfl, hc, hr⟩ := hx
    have hr2 : (Builtin.append_ #[t, t] ty #[v, .slice ad 0 cap]).run P w = .ok v w := by
      have hdone : ∃ v2, (Builtin.append_ #[t, t] ty #[v, .slice ad 0 cap]).run P w = .ok v2 w ∧ v2 = v := by
        rcases hown.2 with ⟨rfl, rfl⟩ | ⟨g, capv, cur, rfl, hbg, hgg, hnc, hcm, hcs, htake⟩
        · refine ⟨_, ?_, rfl⟩
          cases ad with
          | none => simp [Builtin.append_, run_underlying ht, sizeOf, typeInfo, hi, Builtin.lenOf, Builtin.firstCells]
          | some a => simp [Builtin.append_, run_underlying ht, sizeOf, typeInfo, hi, Builtin.lenOf, Builtin.firstCells, loadCells, loadCellsFrom]
        · refine ⟨_, ?_, rfl⟩
          cases ad with
          | none => simp [Builtin.append_, run_underlying ht, sizeOf, typeInfo, hi, Builtin.lenOf, Builtin.firstCells, hnc, storeCells]
          | some a => simp [Builtin.append_, run_underlying ht, sizeOf, typeInfo, hi, Builtin.lenOf, Builtin.firstCells, loadCells, loadCellsFrom, hnc, storeCells]
      obtain ⟨v2, h, rfl⟩ := hdone
      exact h
    rw [hrun] at hr2
    injection hr2 with e1 e2
    subst e1; subst e2
    exact .inr ⟨rfl, .inl ⟨rfl, Keep.refl _ _⟩⟩
  · obtain ⟨ad, cap, rfl, hc, hr⟩ := hx
    cases ad with
    | none =>
      exfalso
      cases ys with
      | nil => have := Nat.mul_pos hm hsz; simp at hl; omega
      | cons y ys => obtain ⟨a, ha, _⟩ := hr 0 y rfl; cases ha
    | some a =>
      have hnews : ∀ j u, ys[j]? = some u → w.cell? (a.add j) = some u := fun j u hj => by
        obtain ⟨a', ha, hc⟩ := hr j u hj
        injection ha with ha
        subst ha
        exact hc
      subst hsize
      subst hby
      have hsmall : n + m ≤ 9223372036854775807 := by simp only [maxLen] at h63; omega
      rcases hown.2 with ⟨rfl, rfl⟩ | ⟨g, capv, cur, rfl, hbg, hgg, hnc, hcm, hcs, htake⟩
      · have hr2 := run_append_nil (P := P) w t ty e i z ht hi hz a m cap ys hl hnews (by omega) (by omega) (by have hb := hbytes; simp only [Nat.zero_add] at hb; omega)
        rw [hrun] at hr2
        injection hr2 with e1 e2
        subst e1; subst e2
        exact .inl ⟨rfl, (Keep.drew w).trans0 (Keep.alloc _ _)⟩
      · by_cases hroom : n + m ≤ capv
        · have hfit : n * i.size + ys.length ≤ cur.size := by rw [hl, hcs, ← Nat.add_mul]; exact Nat.mul_le_mul_right _ hroom
          have hr2 := run_append_room (P := P) w t ty e i ht hi g n capv cur hgg a m cap ys hl hnews h1 hroom hfit
          rw [hrun] at hr2
          injection hr2 with e1 e2
          subst e1
          exact .inr ⟨rfl, .inr ⟨_, _, rfl, hm, hroom⟩⟩
        · have holds : ∀ j u, xs[j]? = some u → w.cell? ((⟨g, 0, none⟩ : Addr).add j) = some u := hown.cells (g := g) rfl
          have hr2 := run_append_grow (P := P) w t ty e i z ht hi hz ⟨g, 0, none⟩ n capv xs hown.1 holds a m cap ys hl hnews (by omega) (by omega) (growslice_fits (by omega) hbytes)
          rw [hrun] at hr2
          injection hr2 with e1 e2
          subst e1; subst e2
          exact .inl ⟨rfl, (Keep.drew w).trans0 (Keep.alloc _ _)⟩

theorem el_append3 {t e : TypeId} {z : Value} {size bytes base : Nat} {s x : Operand} {v xv : Value} {n m : Nat} {xs ys : List Value} (ho : o.op = .call { callee := .builtin .append, args := #[s, x], argTypes := #[t, t] }) (hw : wantedE ops N ρ o = true)
    (hT : P.underlying t = some (.slice e)) (hinfo : (P.info? e).map (fun i => (i.zero, i.size, i.bytes)) = some (some z, size, bytes)) (hzs : z.cells.size = size) (hsz : Nat.blt 0 size = true)
    (hs : ev N ρ s = v) (hxv : ev N ρ x = xv) (hown : w.ownsRow base e size v n xs) (hx : Rd w xv m ys) (hl : ys.length = m * size) (h1 : ∀ u ∈ ys, u.oneCell' = true)
    (h63 : n + m ≤ maxLen) (hbytes : (n + m) * bytes ≤ 140737488355328) (hbase : base ≤ w.heap.size)
    (h : ∀ v' w', w'.ownsRow base e size v' (n + m) (xs ++ ys) → w.grownBy w' v.ownBlock → ((v'.ownBlock = some w.heap.size ∧ Keep [] w w') ∨ (v'.ownBlock = v.ownBlock ∧ (m = 0 ∧ Keep [] w w' ∨ ∃ ad cap, v = .slice ad n cap ∧ 0 < m ∧ n + m ≤ cap))) → EL P r N ops Q l (ρ.upo o.dst v') w') : EL P r N ops Q (o :: l) ρ w := by
  obtain ⟨i, hi, h2, h3, h4⟩ := infos hinfo
  obtain ⟨v', w', hrun, ho', hg, hb⟩ := run_app3 (P := P) (w := w) (ty := o.type) hT hi h2 h3 h4 hzs (lt_blt hsz) hown hx hl h1 h63 hbytes hbase
  refine el_run hw (fun ro => ?_) (h v' w' ho' hg hb)
  rw [Oper.semAt_eq _ _ _ (by simp [ho])]
  unfold execOp
  simp only [ho, resolve, Sem.run_bind, Sem.run_pure, Result.andThen_ok, invoke, builtin, List.map_toArray, List.map_cons, List.map_nil, hs, hxv]
  rw [hrun]
  rfl
end
end Go.Proofs.Ytpdgfekimnmdnaa
