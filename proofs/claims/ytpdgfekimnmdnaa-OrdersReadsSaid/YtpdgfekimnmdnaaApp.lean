/- The engine, fourth part: slices that are read (Rd), made, appended to; strings. -/
import Derived.Test.YtpdgfekimnmdnaaMem
import Derived.ShutString
import Derived.Great.BuildSlice
set_option linter.unusedVariables false
set_option linter.unusedSimpArgs false
namespace Go.Proofs.Ytpdgfekimnmdnaa
open Go.RowKit

/-! ### 1. What a slice reads as -/
/-- The slice v has n elements, whose cells are xs. -/
def Rd (w : World) (v : Value) (n : Nat) (xs : List Value) : Prop :=
  ∃ ad cap, v = .slice ad n cap ∧ n ≤ cap ∧ ∀ j u, xs[j]? = some u → ∃ a, ad = some a ∧ w.cell? (a.add j) = some u

theorem Rd.keep {M : List Nat} {w w' : World} {v : Value} {n : Nat} {xs : List Value} (h : Rd w v n xs) (k : Keep M w w') (hM : ∀ b, v.ownBlock = some b → b ∉ M) : Rd w' v n xs := by
  obtain ⟨ad, cap, rfl, hc, hx⟩ := h
  refine ⟨ad, cap, rfl, hc, fun j u hj => ?_⟩
  obtain ⟨a, rfl, ha⟩ := hx j u hj
  exact ⟨a, rfl, k.cell ha (by rw [add_block]; exact hM _ rfl)⟩
theorem Rd.keep0 {w w' : World} {v : Value} {n : Nat} {xs : List Value} (h : Rd w v n xs) (k : Keep [] w w') : Rd w' v n xs := h.keep k (fun _ _ => by simp)
theorem Rd.lt {w : World} {v : Value} {n : Nat} {xs : List Value} (h : Rd w v n xs) (hx : xs ≠ []) : ∃ b, v.ownBlock = some b ∧ b < w.heap.size := by
  obtain ⟨ad, cap, rfl, hc, hr⟩ := h
  cases xs with
  | nil => exact absurd rfl hx
  | cons x xs =>
    obtain ⟨a, rfl, ha⟩ := hr 0 x rfl
    exact ⟨a.block, rfl, by have := World.block_lt_of_cell? w _ ha; rwa [add_block] at this⟩
theorem Rd.of_own {w : World} {base : Nat} {e : TypeId} {size : Nat} {v : Value} {n : Nat} {xs : List Value} (h : w.ownsRow base e size v n xs) : Rd w v n xs := by
  have hcells := fun g hg => h.cells (g := g) hg
  obtain ⟨hl, h2⟩ := h
  rcases h2 with ⟨rfl, rfl⟩ | ⟨g, cap, cur, rfl, hb, hg, hnc, r⟩
  · refine ⟨none, 0, rfl, Nat.le_refl _, fun j u hj => ?_⟩
    have : xs = [] := List.eq_nil_of_length_eq_zero (by simpa using hl)
    subst this
    cases hj
  · exact ⟨some ⟨g, 0, none⟩, cap, rfl, hnc, fun j u hj => ⟨_, rfl, hcells g rfl j u hj⟩⟩
theorem Rd.nil (w : World) : Rd w (.slice none 0 0) 0 [] := ⟨none, 0, rfl, Nat.le_refl _, fun j u hj => by cases hj⟩
theorem Rd.of_nil {w : World} {cap n : Nat} {xs : List Value} (h : Rd w (.slice none n cap) n xs) : xs = [] := by
  obtain ⟨ad, cap, he, hc, hr⟩ := h
  cases xs with
  | nil => rfl
  | cons x xs =>
    obtain ⟨a, rfl, ha⟩ := hr 0 x rfl
    cases he
/-- A part of what is read. -/
theorem Rd.take {w : World} {ad : Option Addr} {cap n m : Nat} {xs : List Value} (h : Rd w (.slice ad n cap) n xs) (hm : m ≤ cap) : Rd w (.slice ad m cap) m (xs.take m) := by
  obtain ⟨ad', cap', he, hc, hr⟩ := h
  injection he with e1 e2 e3
  subst e1; subst e3
  refine ⟨ad, cap, rfl, hm, fun j u hj => hr j u ?_⟩
  rw [List.getElem?_take] at hj
  split at hj
  · exact hj
  · cases hj
theorem Rd.drop {w : World} {ad : Option Addr} {cap n m : Nat} {xs : List Value} (h : Rd w (.slice ad n cap) n xs) (hm : m ≤ n) (hl : xs.length = n) :
    Rd w (.slice (if cap = m then ad else ad.map fun b => b.add (m * 1)) (n - m) (cap - m)) (n - m) (xs.drop m) := by
  obtain ⟨ad', cap', he, hc, hr⟩ := h
  injection he with e1 e2 e3
  subst e1; subst e3
  refine ⟨_, _, rfl, by omega, fun j u hj => ?_⟩
  rw [List.getElem?_drop] at hj
  have hlt : m + j < xs.length := (List.getElem?_eq_some_iff.1 hj).1
  have hne : cap ≠ m := by omega
  obtain ⟨a, rfl, ha⟩ := hr (m + j) u hj
  refine ⟨a.add (m * 1), by simp [hne], ?_⟩
  rw [← ha]
  congr 1
  unfold Addr.add
  by_cases h1 : m = 0
  · subst h1; simp
  · by_cases h2 : j = 0
    · subst h2; simp
    · simp [h1, h2]; omega

def byteV (b : UInt8) : Value := .int .u8 (b.toNat : Int)
def bytesV (bs : List UInt8) : List Value := bs.map byteV
theorem bytesV_length (bs : List UInt8) : (bytesV bs).length = bs.length := by simp [bytesV]
theorem bytesV_append (a b : List UInt8) : bytesV (a ++ b) = bytesV a ++ bytesV b := by simp [bytesV]
theorem bytesV_one (bs : List UInt8) : ∀ u ∈ bytesV bs, u.oneCell' = true := by
  intro u hu
  simp only [bytesV, List.mem_map] at hu
  obtain ⟨b, _, rfl⟩ := hu
  rfl
/-- v reads as the bytes bs. -/
abbrev RdB (w : World) (v : Value) (bs : List UInt8) : Prop := Rd w v bs.length (bytesV bs)
/-- v is a row of the call's own: bytes (E: their type), from block 'base' on. -/
abbrev OwnB (E : TypeId) (w : World) (base : Nat) (v : Value) (bs : List UInt8) : Prop := w.ownsRow base E 1 v bs.length (bytesV bs)

theorem own_keep {M : List Nat} {w w' : World} {base : Nat} {e : TypeId} {size : Nat} {v : Value} {n : Nat} {xs : List Value} (h : w.ownsRow base e size v n xs) (k : Keep M w w') (hM : ∀ b, v.ownBlock = some b → b ∉ M) : w'.ownsRow base e size v n xs := by
  refine ⟨h.1, ?_⟩
  rcases h.2 with h2 | ⟨g, cap, cur, rfl, hb, hg, r⟩
  · exact .inl h2
  · exact .inr ⟨g, cap, cur, rfl, hb, k.blk hg (hM g rfl), r⟩
theorem own_lower {w : World} {base base' : Nat} {e : TypeId} {size : Nat} {v : Value} {n : Nat} {xs : List Value} (h : w.ownsRow base e size v n xs) (hb : base' ≤ base) : w.ownsRow base' e size v n xs := by
  refine ⟨h.1, ?_⟩
  rcases h.2 with h2 | ⟨g, cap, cur, rfl, hb2, r⟩
  · exact .inl h2
  · exact .inr ⟨g, cap, cur, rfl, by omega, r⟩

section
variable {P : Program} {r : Option Nat} {N : Nat} {Q : Post} {ρ : Env} {w : World} {ops l : List Oper} {o : Oper}

/-! ### 2. append -/
theorem run_app {t ty e : TypeId} {i : TypeInfo} {z : Value} {size bytes base : Nat} (ht : P.underlying t = some (.slice e)) (hi : P.info? e = some i) (hz : i.zero = some z) (hsize : i.size = size) (hby : i.bytes = bytes) (hzs : z.cells.size = size) (hsz : 0 < size)
    {v : Value} {n : Nat} {xs : List Value} (hown : w.ownsRow base e size v n xs) {x : Value} {m : Nat} {ys : List Value} (hx : Rd w x m ys) (hl : ys.length = m * size) (h1 : ∀ u ∈ ys, u.oneCell' = true)
    (h63 : n + m ≤ maxLen) (hbytes : (n + m) * bytes ≤ 140737488355328) (hbase : base ≤ w.heap.size) :
    ∃ v' w', (Builtin.append_ #[t, t] ty #[v, x]).run P w = .ok v' w' ∧ w'.ownsRow base e size v' (n + m) (xs ++ ys) ∧ w.grownBy w' v.ownBlock ∧ (v'.ownBlock = v.ownBlock ∨ v'.ownBlock = some w.heap.size) := by
  obtain ⟨ad, cap, rfl, hc, hr⟩ := hx
  cases ad with
  | none =>
    have hy : ys = [] := by
      cases ys with
      | nil => rfl
      | cons y ys => obtain ⟨a, ha, _⟩ := hr 0 y rfl; cases ha
    subst hy
    have hm : m = 0 := by
      rcases Nat.eq_zero_or_pos m with h | h
      · exact h
      · have := Nat.mul_pos h hsz; simp at hl; omega
    subst hm
    refine ⟨v, w, ?_, by simpa using hown, ⟨rfl, rfl, rfl, Nat.le_refl _, fun _ _ _ => rfl⟩, .inl rfl⟩
    rcases hown.2 with ⟨rfl, rfl⟩ | ⟨g, cap, cur, rfl, _, _, hnc, _⟩
    · simp [Builtin.append_, run_underlying ht, sizeOf, typeInfo, hi, Builtin.lenOf, Builtin.firstCells]
    · simp [Builtin.append_, run_underlying ht, sizeOf, typeInfo, hi, Builtin.lenOf, Builtin.firstCells, hnc, storeCells]
  | some a =>
    have hnews : ∀ j u, ys[j]? = some u → w.cell? (a.add j) = some u := fun j u hj => by
      obtain ⟨a', ha, hc⟩ := hr j u hj
      injection ha with ha
      subst ha
      exact hc
    obtain ⟨v', w', hrun, ho, hg, _⟩ := run_append_own (P := P) w base t ty e i z size bytes ht hi hz hsize hby hzs hsz v n xs hown a m cap ys hl hnews h1 h63 hbytes hbase
    refine ⟨v', w', hrun, ho, hg, ?_⟩
    subst hsize
    subst hby
    have hsmall : n + m ≤ 9223372036854775807 := by simp only [maxLen] at h63; omega
    rcases hown.2 with ⟨rfl, rfl⟩ | ⟨g, capv, cur, rfl, hbg, hgg, hnc, hcm, hcs, htake⟩
    · by_cases hm : m = 0
      · subst hm
        have hn : ys = [] := List.eq_nil_of_length_eq_zero (by simpa using hl)
        subst hn
        have hx : xs = [] := List.eq_nil_of_length_eq_zero (by simpa using hown.1)
        subst hx
        have hr2 : (Builtin.append_ #[t, t] ty #[.slice none 0 0, .slice (some a) 0 cap]).run P w = .ok (.slice none 0 0) w := by
          simp [Builtin.append_, run_underlying ht, sizeOf, typeInfo, hi, Builtin.lenOf, Builtin.firstCells, loadCells, loadCellsFrom]
        rw [hrun] at hr2
        injection hr2 with e1 e2
        subst e1
        exact .inl rfl
      · have hr2 := run_append_nil (P := P) w t ty e i z ht hi hz a m cap ys hl hnews (by omega) (by omega) (by have hb := hbytes; simp only [Nat.zero_add] at hb; omega)
        rw [hrun] at hr2
        injection hr2 with e1 e2
        subst e1
        exact .inr rfl
    · by_cases hroom : n + m ≤ capv
      · have hfit : n * i.size + ys.length ≤ cur.size := by rw [hl, hcs, ← Nat.add_mul]; exact Nat.mul_le_mul_right _ hroom
        have hr2 := run_append_room (P := P) w t ty e i ht hi g n capv cur hgg a m cap ys hl hnews h1 hroom hfit
        rw [hrun] at hr2
        injection hr2 with e1 e2
        subst e1
        exact .inl rfl
      · have holds : ∀ j u, xs[j]? = some u → w.cell? ((⟨g, 0, none⟩ : Addr).add j) = some u := hown.cells (g := g) rfl
        have hr2 := run_append_grow (P := P) w t ty e i z ht hi hz ⟨g, 0, none⟩ n capv xs hown.1 holds a m cap ys hl hnews (by omega) (by omega) (growslice_fits (by omega) hbytes)
        rw [hrun] at hr2
        injection hr2 with e1 e2
        subst e1
        exact .inr rfl

theorem infos {e : TypeId} {z : Value} {size bytes : Nat} (h : (P.info? e).map (fun i => (i.zero, i.size, i.bytes)) = some (some z, size, bytes)) : ∃ i, P.info? e = some i ∧ i.zero = some z ∧ i.size = size ∧ i.bytes = bytes := by
  cases hq : P.info? e with
  | none => rw [hq] at h; cases h
  | some i =>
    rw [hq] at h
    simp at h
    exact ⟨i, rfl, h.1, h.2.1, h.2.2⟩

/-- append to a row of the call's own. -/
theorem el_append {t e : TypeId} {z : Value} {size bytes base : Nat} {s x : Operand} {v xv : Value} {n m : Nat} {xs ys : List Value} (ho : o.op = .call { callee := .builtin .append, args := #[s, x], argTypes := #[t, t] }) (hw : wantedE ops N ρ o = true)
    (hT : P.underlying t = some (.slice e)) (hinfo : (P.info? e).map (fun i => (i.zero, i.size, i.bytes)) = some (some z, size, bytes)) (hzs : z.cells.size = size) (hsz : Nat.blt 0 size = true)
    (hs : ev N ρ s = v) (hxv : ev N ρ x = xv) (hown : w.ownsRow base e size v n xs) (hx : Rd w xv m ys) (hl : ys.length = m * size) (h1 : ∀ u ∈ ys, u.oneCell' = true)
    (h63 : n + m ≤ maxLen) (hbytes : (n + m) * bytes ≤ 140737488355328) (hbase : base ≤ w.heap.size)
    (h : ∀ v' w', w'.ownsRow base e size v' (n + m) (xs ++ ys) → w.grownBy w' v.ownBlock → (v'.ownBlock = v.ownBlock ∨ v'.ownBlock = some w.heap.size) → EL P r N ops Q l (ρ.upo o.dst v') w') : EL P r N ops Q (o :: l) ρ w := by
  obtain ⟨i, hi, h2, h3, h4⟩ := infos hinfo
  obtain ⟨v', w', hrun, ho', hg, hb⟩ := run_app (P := P) (w := w) (ty := o.type) hT hi h2 h3 h4 hzs (lt_blt hsz) hown hx hl h1 h63 hbytes hbase
  refine el_run hw (fun ro => ?_) (h v' w' ho' hg hb)
  rw [Oper.semAt_eq _ _ _ (by simp [ho])]
  unfold execOp
  simp only [ho, resolve, Sem.run_bind, Sem.run_pure, Result.andThen_ok, invoke, builtin, List.map_toArray, List.map_cons, List.map_nil, hs, hxv]
  rw [hrun]
  rfl

/-- make([]T, n). -/
theorem el_make {t e : TypeId} {z : Value} {size bytes base : Nat} {x y : Operand} {k k2 : IntKind} {n : Nat} {a b : Int} (ho : o.op = .makeSlice t x y) (hw : wantedE ops N ρ o = true)
    (hT : P.underlying t = some (.slice e)) (hinfo : (P.info? e).map (fun i => (i.zero, i.size, i.bytes)) = some (some z, size, bytes)) (hx : ev N ρ x = .int k a) (hy : ev N ρ y = .int k2 b) (ha : a = (n : Int)) (hb : b = (n : Int))
    (hbytes : bytes * n ≤ 281474976710656) (h63 : n ≤ maxLen)
    (h : ∀ w', w'.ownsRow w.heap.size e size (.slice (some ⟨w.heap.size, 0, none⟩) n n) n (madeCells z.cells (n * size)).toList → Keep [] w w' → EL P r N ops Q l (ρ.upo o.dst (.slice (some ⟨w.heap.size, 0, none⟩) n n)) w') : EL P r N ops Q (o :: l) ρ w := by
  obtain ⟨i, hi, h2, h3, h4⟩ := infos hinfo
  subst h4
  subst ha
  subst hb
  obtain ⟨w', hrun, ho', hg⟩ := run_make_full (P := P) w w.heap.size t e i z size hT hi h2 h3 k k2 n hbytes h63 (Nat.le_refl _)
  refine el_run hw (fun ro => ?_) (h w' ho' (Keep.of_grown hg (fun _ q => by cases q)))
  rw [Oper.semAt_eq _ _ _ (by simp [ho])]
  unfold execOp
  simp only [ho]
  refine run_builtin_w _ ?_
  simp only [hx, hy, hrun]

/-! ### 3. Aggregates -/
def fillL (places : Nat → Option (Nat × Nat)) (cells : List Value) : List (Nat × Value) → Option (List Value)
  | [] => some cells
  | (i, v) :: rest => match places i with
    | none => none
    | some (off, size) => cond (Nat.beq v.cells.toList.length size && Nat.ble (off + size) cells.length) (fillL places (cells.take off ++ v.cells.toList ++ cells.drop (off + size)) rest) none

theorem foldl_set (off : Nat) : ∀ (vs : List Value) (k : Nat) (cs : Array Value), off + k + vs.length ≤ cs.size →
    (vs.zipIdx k).foldl (fun cs (p : Value × Nat) => cs.setIfInBounds (off + p.2) p.1) cs = (cs.toList.take (off + k) ++ vs ++ cs.toList.drop (off + k + vs.length)).toArray := by
  intro vs
  induction vs with
  | nil => intro k cs h; simp
  | cons v vs ih =>
    intro k cs h
    simp only [List.zipIdx_cons, List.foldl_cons]
    rw [ih (k + 1) _ (by simp at h ⊢; omega)]
    congr 1
    have hk : off + k < cs.toList.length := by simp at h ⊢; omega
    have e := list_seg_step cs.toList (off + k) v vs (by simp at h ⊢; omega)
    simpa [Array.toList_setIfInBounds, Nat.add_assoc] using e

theorem fill_eq (places : Nat → Option (Nat × Nat)) : ∀ (l : List (Nat × Value)) (cells : List Value) (out : List Value), fillL places cells l = some out → Instr.fill places cells.toArray l = some out.toArray := by
  intro l
  induction l with
  | nil => intro cells out h; simp only [fillL, Option.some.injEq] at h; subst h; rfl
  | cons p l ih =>
    obtain ⟨i, v⟩ := p
    intro cells out h
    simp only [fillL] at h
    simp only [Instr.fill]
    cases hp : places i with
    | none => rw [hp] at h; cases h
    | some q =>
      obtain ⟨off, size⟩ := q
      rw [hp] at h
      simp only at h ⊢
      cases hc : (Nat.beq v.cells.toList.length size && Nat.ble (off + size) cells.length) with
      | false => rw [hc] at h; cases h
      | true =>
        rw [hc] at h
        simp only [cond_true] at h
        simp only [Bool.and_eq_true] at hc
        have h1 : v.cells.size = size := by simpa using Nat.eq_of_beq_eq_true hc.1
        have h2 : off + size ≤ cells.length := Nat.le_of_ble_eq_true hc.2
        have hne : ¬ (v.cells.size ≠ size ∨ off + v.cells.size > cells.toArray.size) := by simp [h1]; omega
        rw [if_neg (by simpa using hne)]
        have hf : v.cells.zipIdx.foldl (fun cs (p : Value × Nat) => cs.setIfInBounds (off + p.2) p.1) cells.toArray = (cells.take off ++ v.cells.toList ++ cells.drop (off + size)).toArray := by
          rw [← Array.foldl_toList, Array.toList_zipIdx, foldl_set off v.cells.toList 0 cells.toArray (by simp [h1]; omega)]
          simp [h1]
        rw [hf]
        exact ih _ _ h

def placesL (P : Program) (fs : List Field) : List (Nat × Nat) := fs.map fun f => (f.offset, P.cellsOf f.type)
theorem places_eq : ∀ (fs : List Field), fs.all (fun f => (P.info? f.type).isSome) = true → fs.mapM (fun f => (P.info? f.type).map fun i => (f.offset, i.size)) = some (placesL P fs) := by
  intro fs
  induction fs with
  | nil => intro _; rfl
  | cons f fs ih =>
    intro h
    simp only [List.all_cons, Bool.and_eq_true] at h
    obtain ⟨i, hi⟩ := Option.isSome_iff_exists.1 h.1
    simp [List.mapM_cons, hi, ih h.2, placesL, Program.cellsOf]

/-- A struct's literal. -/
theorem el_build {t : TypeId} {parts : Array (Nat × Operand)} {fs : Array Field} {z : Value} {vs : List Value} (ho : o.op = .build t parts) (hw : wantedE ops N ρ o = true) (hT : P.underlying t = some (.struct fs)) (hz : (P.info? t).bind (·.zero) = some z)
    (hall : fs.toList.all (fun f => (P.info? f.type).isSome) = true) (hf : fillL (fun i => (placesL P fs.toList)[i]?) z.cells.toList (parts.toList.map fun p => (p.1, ev N ρ p.2)) = some vs)
    (h : EL P r N ops Q l (ρ.upo o.dst (.agg vs.toArray)) w) : EL P r N ops Q (o :: l) ρ w := by
  refine el_run hw (fun ro => ?_) h
  rw [Oper.semAt_eq _ _ _ (by simp [ho])]
  unfold execOp
  simp only [ho]
  refine run_builtin_v _ ?_
  refine run_build w t _ _ ?_
  cases hi : P.info? t with
  | none => rw [hi] at hz; cases hz
  | some it =>
    rw [hi] at hz
    have hz' : it.zero = some z := hz
    unfold Program.built
    rw [hi, hT]
    simp only [hz', places_eq _ hall]
    have e := fill_eq (fun i => (placesL P fs.toList)[i]?) _ _ _ hf
    have e1 : (Array.map (fun x : Nat × Operand => (x.1, ev N ρ x.2)) parts).toList = parts.toList.map fun p => (p.1, ev N ρ p.2) := by simp
    have e2 : z.cells.toList.toArray = z.cells := by simp
    rw [e2] at e
    rw [e1]
    simpa using e

/-- A slice's literal, of elements of one cell. -/
theorem el_bslice {t e : TypeId} {len : Nat} {parts : Array (Nat × Operand)} {z : Value} {bytes : Nat} {vs : List Value} (ho : o.op = .buildSlice t len parts) (hw : wantedE ops N ρ o = true) (hT : P.underlying t = some (.slice e))
    (hinfo : (P.info? e).map (fun i => (i.zero, i.size, i.bytes)) = some (some z, 1, bytes)) (hz : z.cells = #[z]) (hlen : Nat.ble len 16777216 = true) (hf : fillL (fun i => some (i * 1, 1)) (List.replicate len z) (parts.toList.map fun p => (p.1, ev N ρ p.2)) = some vs)
    (h : ∀ b w', w.heap.size = b → w'.heap.size = b + 1 → Keep [] w w' → Blk w' b e vs.toArray → EL P r N ops Q l (ρ.upo o.dst (.slice (some ⟨b, 0, none⟩) len len)) w') : EL P r N ops Q (o :: l) ρ w := by
  obtain ⟨ie, hi, h2, h3, h4⟩ := infos hinfo
  refine el_run hw (fun ro => ?_) (h w.heap.size (w.alloc (.cells vs.toArray e)) rfl (by simp) (Keep.alloc _ _) (Blk.new _ _ _))
  rw [Oper.semAt_eq _ _ _ (by simp [ho])]
  unfold execOp
  simp only [ho]
  refine run_builtin_w _ ?_
  have ef := fill_eq (fun i => some (i * 1, 1)) _ _ _ hf
  have hle : ¬ (len * 1 > 2 ^ 24) := by have := Nat.le_of_ble_eq_true hlen; omega
  have hm : (Array.range (len * 1)).map (fun x => (#[z] : Array Value)[x % (#[z] : Array Value).size]!) = (List.replicate len z).toArray := by
    apply Array.ext'
    have := toList_madeCells_one z len
    unfold madeCells at this
    simpa using this
  have e1 : (Array.map (fun x : Nat × Operand => (x.1, ev N ρ x.2)) parts).toList = parts.toList.map fun p => (p.1, ev N ρ p.2) := by simp
  by_cases h0 : len = 0
  · subst h0
    have e' : Instr.fill (fun i => some (i * 1, 1)) #[] (Array.map (fun x : Nat × Operand => (x.1, ev N ρ x.2)) parts).toList = some vs.toArray := by rw [e1]; exact ef
    simp only [Nat.mul_one, e1] at e'
    simp [Instr.buildSlice, run_underlying hT, sizeOf, typeInfo, hi, h3, newRow]
    rw [show Array.map (fun x : Nat => (default : Value)) (Array.range 0) = #[] from by apply Array.ext'; simp, e']
    simp
  · have e' : Instr.fill (fun i => some (i * 1, 1)) ((Array.range (len * 1)).map (fun x => (#[z] : Array Value)[x % (#[z] : Array Value).size]!)) (Array.map (fun x : Nat × Operand => (x.1, ev N ρ x.2)) parts).toList = some vs.toArray := by rw [hm, e1]; exact ef
    have hlt : ¬ (len * ie.size > 2 ^ 24) := by rw [h3]; exact hle
    have h0' : ¬ (len * ie.size = 0) := by rw [h3]; omega
    have := Go.run_buildSlice (P := P) w t e len (Array.map (fun x : Nat × Operand => (x.1, ev N ρ x.2)) parts) vs.toArray ie z hT hi h2 hlt h0' (by rw [h3, hz]; exact e')
    exact this

/-! ### 4. Strings -/
def strOf (bs : List UInt8) : ByteArray := ⟨bs.toArray⟩
theorem strOf_size (bs : List UInt8) : (strOf bs).size = bs.length := by simp [strOf, ByteArray.size]
theorem foldl_push : ∀ (bs : List UInt8) (s : ByteArray), (bs.map fun b => ((b.toNat : Nat) : Int)).foldl (fun r n => r.push (UInt8.ofNat n.toNat)) s = ⟨s.data ++ bs.toArray⟩ := by
  intro bs
  induction bs with
  | nil => intro s; simp
  | cons b bs ih =>
    intro s
    simp only [List.map_cons, List.foldl_cons]
    rw [ih]
    have : UInt8.ofNat ((b.toNat : Int).toNat) = b := by simp
    rw [this]
    congr 1
    apply Array.ext'
    simp [ByteArray.push]

/-- string(b) -/
theorem el_str {src dst e : TypeId} {x : Operand} {v : Value} {bs : List UInt8} (ho : o.op = .convert src dst x) (hw : wantedE ops N ρ o = true) (hs : P.underlying src = some (.slice e)) (he : P.underlying e = some (.int .u8)) (hd : P.underlying dst = some .string)
    (hx : ev N ρ x = v) (hr : RdB w v bs) (h : EL P r N ops Q l (ρ.upo o.dst (.string (strOf bs))) w) : EL P r N ops Q (o :: l) ρ w := by
  refine el_run hw (fun ro => ?_) h
  rw [Oper.semAt_eq _ _ _ (by simp [ho])]
  unfold execOp
  simp only [ho]
  refine run_builtin_v _ ?_
  rw [hx]
  obtain ⟨ad, cap, rfl, hc, hq⟩ := hr
  rw [run_convert_bytes_string w src dst e ad _ cap hs he hd]
  cases ad with
  | none =>
    have : bs = [] := by
      cases bs with
      | nil => rfl
      | cons b bs => obtain ⟨a, ha, _⟩ := hq 0 (byteV b) rfl; cases ha
    subst this
    simp [Conv.bytesToString, strOf]
    rfl
  | some a =>
    have hl := run_loadCells_list (P := P) w a (bytesV bs) (fun j u hj => by
      obtain ⟨a', ha, hc⟩ := hq j u hj
      injection ha with ha
      subst ha
      exact hc)
    rw [bytesV_length] at hl
    have e1 : bytesV bs = (bs.map fun b => ((b.toNat : Nat) : Int)).map (Value.int .u8) := by simp [bytesV, byteV]
    rw [e1] at hl
    have := run_bytesToString (P := P) w a bs.length cap _ hl
    rw [this, foldl_push]
    simp [strOf]

/-- []byte(s) -/
theorem el_bytes {src dst e : TypeId} {x : Operand} {bs : List UInt8} {u : TypeDesc} (ho : o.op = .convert src dst x) (hw : wantedE ops N ρ o = true) (hs : P.underlying src = some u) (he : P.underlying e = some (.int .u8)) (hd : P.underlying dst = some (.slice e))
    (hx : ev N ρ x = .string (strOf bs)) (h : ∀ b cap w' cs fr, w.heap.size = b → w'.heap.size = b + 1 → Keep [] w w' → w'.heap[b]? = some (.cells cs e fr) → RdB w' (.slice (some ⟨b, 0, none⟩) bs.length cap) bs → EL P r N ops Q l (ρ.upo o.dst (.slice (some ⟨b, 0, none⟩) bs.length cap)) w') :
    EL P r N ops Q (o :: l) ρ w := by
  have hrun := Lib.run_convert_string_bytes (P := P) w src dst e (strOf bs) hs hd he
  refine el_run hw (fun ro => ?_) (h w.heap.size (grownCap w (strOf bs).size 0 e) (Lib.bytesWorld w e (strOf bs)) _ _ rfl (Lib.bytesWorld_size _ _ _)
    ⟨rfl, rfl, rfl, by rw [Lib.bytesWorld_size]; omega, fun k hk _ => Lib.bytesWorld_at_old _ _ _ _ hk⟩ (Lib.bytesWorld_at_new _ _ _) ?_)
  · rw [Oper.semAt_eq _ _ _ (by simp [ho])]
    unfold execOp
    simp only [ho]
    refine run_builtin_w _ ?_
    rw [hx, hrun, strOf_size]
  · refine ⟨_, _, rfl, ?_, fun j u hj => ⟨_, rfl, ?_⟩⟩
    · have := grownCap_ge w (strOf bs).size 0 e
      rw [strOf_size] at this ⊢
      exact this
    · have hlt : j < (bytesV bs).length := (List.getElem?_eq_some_iff.1 hj).1
      rw [bytesV_length] at hlt
      rw [add_lit, Nat.zero_add, Lib.bytesWorld_cell w e (strOf bs) j (by rw [strOf_size]; exact hlt), ← hj]
      simp [bytesV, byteV, strOf, List.getD, hlt]

/-! ### 5. min, max of two integers -/
theorem el_max {ts : Array TypeId} {x y : Operand} {k : IntKind} {a b : Int} (ho : o.op = .call { callee := .builtin .max, args := #[x, y], argTypes := ts }) (hw : wantedE ops N ρ o = true) (hx : ev N ρ x = .int k a) (hy : ev N ρ y = .int k b)
    (h : EL P r N ops Q l (ρ.upo o.dst (.int k (if b > a then b else a))) w) : EL P r N ops Q (o :: l) ρ w := by
  refine el_run hw (fun ro => ?_) h
  rw [Oper.semAt_eq _ _ _ (by simp [ho])]
  unfold execOp
  simp [ho, resolve, invoke, builtin, hx, hy, Builtin.max_, Builtin.max2]
theorem el_min {ts : Array TypeId} {x y : Operand} {k : IntKind} {a b : Int} (ho : o.op = .call { callee := .builtin .min, args := #[x, y], argTypes := ts }) (hw : wantedE ops N ρ o = true) (hx : ev N ρ x = .int k a) (hy : ev N ρ y = .int k b)
    (h : EL P r N ops Q l (ρ.upo o.dst (.int k (if b < a then b else a))) w) : EL P r N ops Q (o :: l) ρ w := by
  refine el_run hw (fun ro => ?_) h
  rw [Oper.semAt_eq _ _ _ (by simp [ho])]
  unfold execOp
  simp [ho, resolve, invoke, builtin, hx, hy, Builtin.min_, Builtin.min2]

/-! ### 6. append(nil, make([]T, n)...), as Grow has it -/
theorem run_append_zeros {t u ty e : TypeId} {i : TypeInfo} {z : Value} {ku : IntKind} (ht : P.underlying t = some (.slice e)) (hu : P.underlying u = some (.int ku)) (hi : P.info? e = some i) (hz : i.zero = some z) (k : IntKind) (n : Nat)
    (h0 : 0 < n) (h63 : (n : Int) ≤ 9223372036854775807) (h48 : n * i.bytes ≤ 281474976710656) (hs : 0 < i.size) :
    (Builtin.append_ #[t, u] ty #[.slice none 0 0, .int k (n : Int)]).run P w =
      .ok (.slice (some ⟨w.heap.size, 0, none⟩) n (grownCap w n 0 e)) (w.drew.alloc (.cells (Builtin.zeroCells z.cells n ++ Builtin.zeroCells z.cells (grownCap w n 0 e - n)) e)) := by
  have hn : n ≠ 0 := by omega
  have h63' : ¬ (9223372036854775807 < (n : Int)) := by omega
  have h48' : ¬ (281474976710656 < Builtin.nextslicecap n 0 * i.bytes) := by rw [nextslicecap_zero h0]; omega
  have hw : IntKind.i64.wrap (n : Int) = (n : Int) := IntWalk.i64_in _ (by omega)
  have hneg : ¬ ((n : Int) < 0) := by omega
  have h48i : ¬ (281474976710656 < (n : Int) * (i.bytes : Int)) := by
    have : ((n * i.bytes : Nat) : Int) ≤ 281474976710656 := by omega
    rw [Int.natCast_mul] at this
    omega
  have hsz : ¬ (n * i.size = 0) := by
    have := Nat.mul_pos h0 hs
    omega
  simp only [Nat.mul_eq_zero] at hsz
  simp [Builtin.append_, run_underlying ht, run_underlying hu, sizeOf, typeInfo, zeroValue, hi, hz, hn, h63', h48', h48i, hw, hneg, hsz, asInt, asIntOf, Question.forced, run_firstCells_none, newRow, grownCap]
  exact fun h => absurd (Nat.mul_eq_zero.1 h) hsz

theorem el_append_zeros {t u e : TypeId} {ku k : IntKind} {z : Value} {size bytes : Nat} {s x : Operand} {n : Nat} {a : Int} (ho : o.op = .call { callee := .builtin .append, args := #[s, x], argTypes := #[t, u] }) (hw : wantedE ops N ρ o = true)
    (hT : P.underlying t = some (.slice e)) (hU : P.underlying u = some (.int ku)) (hinfo : (P.info? e).map (fun i => (i.zero, i.size, i.bytes)) = some (some z, size, bytes)) (hzs : z.cells.size = size) (hsz : Nat.blt 0 size = true)
    (hs : ev N ρ s = .slice none 0 0) (hx : ev N ρ x = .int k a) (ha : a = (n : Int)) (h0 : 0 < n) (h63 : n ≤ maxLen) (hbytes : n * bytes ≤ 281474976710656)
    (h : ∀ b cap cur w', w.heap.size = b → Keep [] w w' → Blk w' b e cur → cur.size = cap * size → n ≤ cap → cap ≤ maxLen → EL P r N ops Q l (ρ.upo o.dst (.slice (some ⟨b, 0, none⟩) n cap)) w') : EL P r N ops Q (o :: l) ρ w := by
  obtain ⟨i, hi, h2, h3, h4⟩ := infos hinfo
  subst ha
  subst h3
  subst h4
  have hcap := grownCap_ge w n 0 e
  refine el_run hw (fun ro => ?_) (h w.heap.size (grownCap w n 0 e) _ (w.drew.alloc (.cells (Builtin.zeroCells z.cells n ++ Builtin.zeroCells z.cells (grownCap w n 0 e - n)) e)) rfl ((Keep.drew w).trans0 (Keep.alloc _ _)) (Blk.new _ _ _) ?_ hcap (grownCap_le_maxLen w n 0 e h63))
  · rw [Oper.semAt_eq _ _ _ (by simp [ho])]
    unfold execOp
    simp only [ho, resolve, Sem.run_bind, Sem.run_pure, Result.andThen_ok, invoke, builtin, List.map_toArray, List.map_cons, List.map_nil, hs, hx]
    rw [run_append_zeros (P := P) hT hU hi h2 k n h0 (by unfold maxLen at h63; omega) hbytes (lt_blt hsz)]
    rfl
  · simp only [Array.size_append, size_zeroCells, hzs, ← Nat.add_mul]
    congr 1
    omega
end
end Go.Proofs.Ytpdgfekimnmdnaa
