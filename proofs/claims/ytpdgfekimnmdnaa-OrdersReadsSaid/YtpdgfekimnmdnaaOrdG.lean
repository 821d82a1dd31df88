/- Orders: a message's bytes, by the second hand. -/
import Derived.Test.YtpdgfekimnmdnaaOrdF
import Derived.Test.YtpdgfekimnmdnaaWireT
set_option linter.unusedVariables false
set_option linter.unusedSimpArgs false
namespace Go.Proofs.Ytpdgfekimnmdnaa
open Go.RowKit
set_option maxRecDepth 20000

theorem own_of_blk {w : World} {base b : Nat} {bs : List UInt8} (hb : Blk w b 5 (bytesV bs).toArray) (hbase : base ≤ b) (hl : bs.length ≤ maxLen) : OwnB 5 w base (.slice (some ⟨b, 0, none⟩) bs.length bs.length) bs :=
  ⟨by simp [bytesV], .inr ⟨b, bs.length, (bytesV bs).toArray, rfl, hbase, hb, Nat.le_refl _, hl, by simp [bytesV], by rw [Nat.mul_one]; exact List.take_of_length_le (by simp [bytesV])⟩⟩

/-- What holds while two numbers are appended. PL, VL: when there is a row, and which; C1, C2: the numbers' rows; A1, A2: the appends; AS: the assignment. -/
def RefG (PL : (Nat → Bool) → Prop) (VL : (Nat → Value) → Value) (C1 A1 C2 A2 AS : Nat) (we : World) (bb : Nat) (BT : TypeId) (cs : Array Value) (A E T : List UInt8) (b : Nat → Bool) (V : Nat → Value) (w : World) : Prop :=
  Keep [] we w ∧ Blk w bb BT cs ∧ (PL b → b A1 = false → OwnB 5 w we.heap.size (VL V) A) ∧ (b C1 = true → b A1 = false → OwnB 5 w we.heap.size (V C1) E) ∧
  (b A1 = true → b A2 = false → OwnB 5 w we.heap.size (V A1) (A ++ E)) ∧ (b C2 = true → b A2 = false → OwnB 5 w we.heap.size (V C2) T) ∧
  (b A2 = true → OwnB 5 w we.heap.size (V A2) (A ++ E ++ T)) ∧ (b AS = true → b A2 = true ∧ V AS = V A2)
theorem RefG.keep0 {PL : (Nat → Bool) → Prop} {VL : (Nat → Value) → Value} {C1 A1 C2 A2 AS : Nat} {we : World} {bb : Nat} {BT : TypeId} {cs : Array Value} {A E T : List UInt8} {b : Nat → Bool} {V : Nat → Value} {w w' : World} (h : RefG PL VL C1 A1 C2 A2 AS we bb BT cs A E T b V w) (k : Keep [] w w') : RefG PL VL C1 A1 C2 A2 AS we bb BT cs A E T b V w' := by
  obtain ⟨h1, h2, h3, h4, h5, h6, h7, h8⟩ := h
  exact ⟨h1.trans0 k, k.blk h2 (by simp), fun x y => own_keep (h3 x y) k (by simp), fun x y => own_keep (h4 x y) k (by simp), fun x y => own_keep (h5 x y) k (by simp), fun x y => own_keep (h6 x y) k (by simp), fun x => own_keep (h7 x) k (by simp), h8⟩
/-- append of a row to a row. -/
theorem el_appB {P : Program} {r : Option Nat} {N : Nat} {Q : Post} {ρ : Env} {w : World} {ops l : List Oper} {o : Oper} {t : TypeId} {s x : Operand} {v xv : Value} {xs ys : List UInt8} {we : World} {bb : Nat} {BT : TypeId} {cs : Array Value}
    (hP : P = Try.prog) (ho : o.op = .call { callee := .builtin .append, args := #[s, x], argTypes := #[t, t] }) (hw : wantedE ops N ρ o = true) (hT : P.underlying t = some (.slice 5)) (hs : ev N ρ s = v) (hxv : ev N ρ x = xv)
    (kw : Keep [] we w) (hB : Blk w bb BT cs) (hBT : BT ≠ 5) (hown : OwnB 5 w we.heap.size v xs) (hx : RdB w xv ys) (hl : xs.length + ys.length ≤ 1000000)
    (h : ∀ v' w', OwnB 5 w' we.heap.size v' (xs ++ ys) → Keep [] we w' → Blk w' bb BT cs → EL P r N ops Q l (ρ.upo o.dst v') w') : EL P r N ops Q (o :: l) ρ w := by
  subst hP
  refine el_append (v := v) (base := we.heap.size) (z := .int .u8 0) (size := 1) (bytes := 1) (n := xs.length) (m := ys.length) (xs := bytesV xs) (ys := bytesV ys) ho hw hT info_u8 rfl rfl hs hxv hown hx (by simp [bytesV_length]) (bytesV_one _) (by unfold maxLen; omega) (by omega) kw.size ?_
  intro v' w' hown' hg' _
  have kk : Keep v.ownBlock.toList w w' := Keep.of_grown hg' (fun b hb _ => by simp [hb])
  refine h v' w' ?_ (kw.trans kk (fun b hb hlt => by have := hown.lt b (by simpa using hb); omega)) (kk.blk hB (fun hin => own_ne hown hB hBT bb (by simpa using hin) (by simp)))
  show World.ownsRow _ _ _ _ _ _ _
  rw [bytesV_append, List.length_append]
  exact hown'

theorem refOrder_ok (k e t v : Int) (u : Value) (bu : List UInt8) (w : World) (hu : RdB w u bu) (hE : ordE k e t v bu.length = 0) :
    Fn Try.prog 16 [.agg #[.int .i64 k, .int .i64 e, .int .i64 t, .int .i64 v, u]] w fun y w' => OwnB 5 w' w.heap.size y (orderB k e t v bu) ∧ Keep [] w w' := by
  obtain ⟨ad, cap, rfl, hcap⟩ := hu.slice
  have hok : ordOk k e t v bu.length ∧ ¬ bu.length > 80000 := by
    by_cases h1 : ordOk k e t v bu.length
    · by_cases h2 : bu.length > 80000
      · rw [ordE_long h1 h2] at hE; cases hE
      · exact ⟨h1, h2⟩
    · rw [ordE_bad h1] at hE; cases hE
  obtain ⟨h1, h2⟩ := hok
  unfold ordOk at h1
  have hBE : orderB k e t v bu = ([1, UInt8.ofNat k.toNat] ++ numB e.toNat ++ numB t.toNat) ++ (if k = 2 then numB v.toNat else numB bu.length ++ bu) := by
    unfold orderB numsB
    have ek : numB k.toNat = [UInt8.ofNat k.toNat] := numB_lt (by omega)
    have e1 : numB 1 = [1] := numB_lt (by decide)
    simp [ek, e1]
  have hle := numB_len10 (n := e.toNat) (by omega)
  have hlt := numB_len10 (n := t.toNat) (by omega)
  have hlv := numB_len10 (n := v.toNat) (by omega)
  have hlb := numB_len10 (n := bu.length) (by omega)
  obtain ⟨kb, hkb⟩ : ∃ kb : UInt8, UInt8.ofNat k.toNat = kb := ⟨_, rfl⟩
  have hkn : (kb.toNat : Int) = k := by
    rw [← hkb]
    simp
    omega
  refine fn_enter Try.func16 rfl rfl ?_
  refine sp rfl ?_
  refine el_box #[.int .i64 k, .int .i64 e, .int .i64 t, .int .i64 v, .slice ad bu.length cap] rfl rfl rfl rfl ?_
  intro bb w1 e1 e1' k1 hb
  refine ep rfl ?_
  refine ew_seq ?_
  refine ew_drawg follows [.known (.pointer (some ⟨bb, 0, none⟩)), .known (.int .i64 k), .known (.int .u8 (kb.toNat : Int)), .any, .known (.pointer (some ⟨bb, 1, none⟩)), .known (.int .i64 e), .any, .any, .known (.pointer (some ⟨bb, 2, none⟩)), .known (.int .i64 t), .any, .any, .any]
    (RefG (fun b => b 3 = true) (fun V => V 3) 6 7 10 11 12 w bb 25 #[.int .i64 k, .int .i64 e, .int .i64 t, .int .i64 v, .slice ad bu.length cap] [1, kb] (numB e.toNat) (numB t.toNat)) rfl (stable_any _ (by simp [Spec.isK])) ⟨k1.trans0 (Keep.drew w1), hb, (fun h => by cases h), (fun h => by cases h), (fun h => by cases h), (fun h => by cases h), (fun h => by cases h), (fun h => by cases h)⟩ ?_ ?_
  refine ⟨pureG rfl (fun _ _ => rfl) (fun _ _ _ h => h), ?_⟩
  refine ⟨fun b V ρ w hbi hd hu hG hV => el_loadb rfl rfl rfl rfl rfl hG.2.1 rfl (el_nil ⟨_, rfl, rfl, hG⟩), ?_⟩
  refine ⟨fun b V ρ w hbi hd hu hG hV => pp rfl (el_as (v' := .int .u8 (kb.toNat : Int)) (int_eq (by rw [wrap_u8]; omega)) (el_nil ⟨_, rfl, rfl, hG⟩)), ?_⟩
  refine ⟨?_, ?_⟩
  · intro b V ρ w hbi hd hu hG hV
    have hA : b 7 = false := hu 7 _ rfl rfl
    refine el_bslice (z := .int .u8 0) (bytes := 1) (vs := [.int .u8 1, .int .u8 (kb.toNat : Int)]) rfl rfl rfl info_u8 rfl rfl rfl ?_
    intro p w' ep1 ep2 kp hp
    have hG' := RefG.keep0 hG kp
    obtain ⟨h1, h2, h3, h4, h5, h6, h7, h8⟩ := hG'
    refine el_nil ⟨_, rfl, trivial, h1, h2, (fun _ _ => ?_), h4, h5, h6, h7, h8⟩
    exact own_of_blk (bs := [1, kb]) (by rw [(show bytesV [1, kb] = [.int .u8 1, .int .u8 (kb.toNat : Int)] from rfl)]; exact hp) (by have := hG.1.size; omega) (by unfold maxLen; simp)
  refine ⟨pureG rfl (fun _ _ => rfl) (fun _ _ _ h => h), ?_⟩
  refine ⟨fun b V ρ w hbi hd hu hG hV => el_loadb rfl rfl rfl rfl rfl hG.2.1 rfl (el_nil ⟨_, rfl, rfl, hG⟩), ?_⟩
  refine ⟨?_, ?_⟩
  · intro b V ρ w hbi hd hu hG hV
    have hA : b 7 = false := hu 7 _ rfl rfl
    refine el_call rfl rfl rfl rfl rfl rfl (refnum_ok e (by omega) (by omega) w) ?_
    rintro y w' ⟨hy, ky⟩
    have hsz := hG.1.size
    have hG' := RefG.keep0 hG ky
    obtain ⟨h1, h2, h3, h4, h5, h6, h7, h8⟩ := hG'
    exact el_nil ⟨_, rfl, trivial, h1, h2, h3, (fun _ _ => own_lower hy hsz), h5, h6, h7, h8⟩
  refine ⟨?_, ?_⟩
  · intro b V ρ w hbi hd hu hG hV
    have hC2 : b 10 = false := hu 10 _ rfl rfl
    have hA2 : b 11 = false := hu 11 _ rfl rfl
    obtain ⟨h1, h2, h3, h4, h5, h6, h7, h8⟩ := hG
    have hL := h3 (hd 3 rfl) hbi
    have hC := h4 (hd 6 rfl) hbi
    refine el_appB rfl rfl rfl rfl rfl rfl h1 h2 (by decide) hL (Rd.of_own hC) (by simp; omega) ?_
    intro v' w' hown' kk hB
    exact el_nil ⟨_, rfl, trivial, kk, hB, (fun _ h => by cases h), (fun _ h => by cases h), (fun _ _ => hown'), (fun h => by
      have h' : b 10 = true := h
      rw [hC2] at h'
      cases h'), (fun h => by
      have h' : b 11 = true := h
      rw [hA2] at h'
      cases h'), h8⟩
  refine ⟨pureG rfl (fun _ _ => rfl) (fun _ _ _ h => h), ?_⟩
  refine ⟨fun b V ρ w hbi hd hu hG hV => el_loadb rfl rfl rfl rfl rfl hG.2.1 rfl (el_nil ⟨_, rfl, rfl, hG⟩), ?_⟩
  refine ⟨?_, ?_⟩
  · intro b V ρ w hbi hd hu hG hV
    refine el_call rfl rfl rfl rfl rfl rfl (refnum_ok t (by omega) (by omega) w) ?_
    rintro y w' ⟨hy, ky⟩
    have hsz := hG.1.size
    have hG' := RefG.keep0 hG ky
    obtain ⟨h1, h2, h3, h4, h5, h6, h7, h8⟩ := hG'
    exact el_nil ⟨_, rfl, trivial, h1, h2, h3, h4, h5, (fun _ _ => own_lower hy hsz), h7, h8⟩
  refine ⟨?_, ?_⟩
  · intro b V ρ w hbi hd hu hG hV
    have hAS : b 12 = false := hu 12 _ rfl rfl
    obtain ⟨h1, h2, h3, h4, h5, h6, h7, h8⟩ := hG
    have hA1 : b 7 = true := hd 7 rfl
    have hL := h5 hA1 hbi
    have hC := h6 (hd 10 rfl) hbi
    refine el_appB rfl rfl rfl rfl rfl rfl h1 h2 (by decide) hL (Rd.of_own hC) (by simp; omega) ?_
    intro v' w' hown' kk hB
    exact el_nil ⟨_, rfl, trivial, kk, hB, (fun _ h => by
      have h' : b 7 = false := h
      rw [hA1] at h'
      cases h'), (fun _ h => by
      have h' : b 7 = false := h
      rw [hA1] at h'
      cases h'), (fun _ h => by cases h), (fun _ h => by cases h), (fun _ => hown'), (fun h => by
      have h' : b 12 = true := h
      rw [hAS] at h'
      cases h')⟩
  refine ⟨fun b V ρ w hbi hd hu hG hV => el_pure 1 rfl (el_nil ⟨V 11, rfl, trivial, hG.1, hG.2.1, hG.2.2.1, hG.2.2.2.1, hG.2.2.2.2.1, hG.2.2.2.2.2.1, hG.2.2.2.2.2.2.1, fun _ => ⟨hd 11 rfl, rfl⟩⟩), ?_⟩
  trivial
  intro b V w2 hall hG hV
  obtain ⟨k02, hb2, _, _, _, _, h7, h8⟩ := hG
  have hown := h7 (hall 11 (by decide))
  obtain ⟨_, h12⟩ := h8 (hall 12 (by decide))
  obtain ⟨row, hrow⟩ : ∃ row, V 11 = row := ⟨_, rfl⟩
  rw [hrow] at hown h12
  refine ew_mt [(1, .pointer (some ⟨bb, 0, none⟩)), (3, row)] ⟨rfl, h12, trivial⟩ ?_
  rw [hBE, hkb]
  refine ew_seq (sp rfl ?_)
  refine el_loadb rfl rfl rfl rfl rfl hb2 rfl ?_
  refine ep rfl ?_
  by_cases hk : k = 2
  · rw [if_pos hk]
    refine ew_cond_t rfl (by simp [hk]) ?_
    refine sp rfl ?_
    refine el_loadb rfl rfl rfl rfl rfl hb2 rfl ?_
    refine el_call rfl rfl rfl rfl rfl rfl (refnum_ok v (by omega) (by omega) w2) ?_
    rintro y w3 ⟨hy, k3⟩
    refine el_appB rfl rfl rfl rfl rfl rfl (k02.trans0 k3) (k3.blk hb2 (by simp)) (by decide) (own_keep hown k3 (by simp)) (Rd.of_own hy) (by simp; omega) ?_
    intro v' w4 hown' kk hB
    refine ep rfl ?_
    exact ew_ret (ret_1 v' rfl rfl rfl rfl ⟨hown', kk⟩)
  · rw [if_neg hk]
    refine ew_cond_f rfl (by simp [hk]) ?_
    refine ew_skip ?_
    refine sp rfl ?_
    refine el_loadb rfl rfl rfl rfl rfl hb2 rfl ?_
    refine el_call rfl rfl rfl rfl rfl rfl (refbytes_ok (.slice ad bu.length cap) bu w2 (hu.keep0 k02) (by omega)) ?_
    rintro y w3 ⟨hy, k3⟩
    refine el_appB rfl rfl rfl rfl rfl rfl (k02.trans0 k3) (k3.blk hb2 (by simp)) (by decide) (own_keep hown k3 (by simp)) (Rd.of_own hy) (by simp; omega) ?_
    intro v' w4 hown' kk hB
    refine ep rfl ?_
    exact ew_ret (ret_1 v' rfl rfl rfl rfl ⟨hown', kk⟩)

/-- What holds while one number is appended. -/
def RefG1 (we : World) (bb : Nat) (BT : TypeId) (cs : Array Value) (A E : List UInt8) (b : Nat → Bool) (V : Nat → Value) (w : World) : Prop :=
  Keep [] we w ∧ Blk w bb BT cs ∧ (b 7 = true → b 12 = false → OwnB 5 w we.heap.size (V 7) A) ∧ (b 11 = true → b 12 = false → OwnB 5 w we.heap.size (V 11) E) ∧
  (b 12 = true → OwnB 5 w we.heap.size (V 12) (A ++ E)) ∧ (b 13 = true → b 12 = true ∧ V 13 = V 12)
theorem RefG1.keep0 {we : World} {bb : Nat} {BT : TypeId} {cs : Array Value} {A E : List UInt8} {b : Nat → Bool} {V : Nat → Value} {w w' : World} (h : RefG1 we bb BT cs A E b V w) (k : Keep [] w w') : RefG1 we bb BT cs A E b V w' := by
  obtain ⟨h1, h2, h3, h4, h7, h8⟩ := h
  exact ⟨h1.trans0 k, k.blk h2 (by simp), fun x y => own_keep (h3 x y) k (by simp), fun x y => own_keep (h4 x y) k (by simp), fun x => own_keep (h7 x) k (by simp), h8⟩
theorem refTold_ok (node k e t v : Int) (well : Bool) (w : World) (h1 : tolOk node k e t v) :
    Fn Try.prog 20 [.agg #[.int .i64 node, .int .i64 k, .int .i64 e, .int .i64 t, .int .i64 v, .bool well]] w fun y w' => OwnB 5 w' w.heap.size y (reportB node k e t v well) ∧ Keep [] w w' := by
  unfold tolOk at h1
  have hBE : reportB node k e t v well = ([2, UInt8.ofNat node.toNat, UInt8.ofNat k.toNat] ++ numB e.toNat ++ numB t.toNat ++ numB v.toNat) ++ [if well then 1 else 0] := by
    unfold reportB numsB
    have en : numB node.toNat = [UInt8.ofNat node.toNat] := numB_lt (by omega)
    have ek : numB k.toNat = [UInt8.ofNat k.toNat] := numB_lt (by omega)
    have e1 : numB 2 = [2] := numB_lt (by decide)
    simp [en, ek, e1]
  have hle := numB_len10 (n := e.toNat) (by omega)
  have hlt := numB_len10 (n := t.toNat) (by omega)
  have hlv := numB_len10 (n := v.toNat) (by omega)
  obtain ⟨kb, hkb⟩ : ∃ kb : UInt8, UInt8.ofNat k.toNat = kb := ⟨_, rfl⟩
  have hkn : (kb.toNat : Int) = k := by
    rw [← hkb]
    simp
    omega
  obtain ⟨nb, hnb⟩ : ∃ nb : UInt8, UInt8.ofNat node.toNat = nb := ⟨_, rfl⟩
  have hnn : (nb.toNat : Int) = node := by
    rw [← hnb]
    simp
    omega
  refine fn_enter Try.func20 rfl rfl ?_
  refine sp rfl ?_
  refine el_box #[.int .i64 node, .int .i64 k, .int .i64 e, .int .i64 t, .int .i64 v, .bool well] rfl rfl rfl rfl ?_
  intro bb w1 e1 e1' k1 hb
  refine ep rfl ?_
  refine ew_seq ?_
  refine ew_drawg follows [.known (.pointer (some ⟨bb, 0, none⟩)), .known (.int .i64 node), .known (.int .u8 (nb.toNat : Int)), .known (.pointer (some ⟨bb, 1, none⟩)), .known (.pointer (some ⟨bb, 1, none⟩)), .known (.int .i64 k), .known (.int .u8 (kb.toNat : Int)), .any, .known (.pointer (some ⟨bb, 1, none⟩)), .known (.pointer (some ⟨bb, 2, none⟩)), .known (.int .i64 e), .any, .any, .any]
    (RefG1 w bb 43 #[.int .i64 node, .int .i64 k, .int .i64 e, .int .i64 t, .int .i64 v, .bool well] [2, nb, kb] (numB e.toNat)) rfl (stable_any _ (by simp [Spec.isK])) ⟨k1.trans0 (Keep.drew w1), hb, (fun h => by cases h), (fun h => by cases h), (fun h => by cases h), (fun h => by cases h)⟩ ?_ ?_
  refine ⟨pureG rfl (fun _ _ => rfl) (fun _ _ _ h => h), ?_⟩
  refine ⟨fun b V ρ w hbi hd hu hG hV => el_loadb rfl rfl rfl rfl rfl hG.2.1 rfl (el_nil ⟨_, rfl, rfl, hG⟩), ?_⟩
  refine ⟨fun b V ρ w hbi hd hu hG hV => pp rfl (el_as (v' := .int .u8 (nb.toNat : Int)) (int_eq (by rw [wrap_u8]; omega)) (el_nil ⟨_, rfl, rfl, hG⟩)), ?_⟩
  refine ⟨pureG rfl (fun _ _ => rfl) (fun _ _ _ h => h), ?_⟩
  refine ⟨pureG rfl (fun _ _ => rfl) (fun _ _ _ h => h), ?_⟩
  refine ⟨fun b V ρ w hbi hd hu hG hV => el_loadb rfl rfl rfl rfl rfl hG.2.1 rfl (el_nil ⟨_, rfl, rfl, hG⟩), ?_⟩
  refine ⟨fun b V ρ w hbi hd hu hG hV => pp rfl (el_as (v' := .int .u8 (kb.toNat : Int)) (int_eq (by rw [wrap_u8]; omega)) (el_nil ⟨_, rfl, rfl, hG⟩)), ?_⟩
  refine ⟨?_, ?_⟩
  · intro b V ρ w hbi hd hu hG hV
    refine el_bslice (z := .int .u8 0) (bytes := 1) (vs := [.int .u8 2, .int .u8 (nb.toNat : Int), .int .u8 (kb.toNat : Int)]) rfl rfl rfl info_u8 rfl rfl rfl ?_
    intro p w' ep1 ep2 kp hp
    have hG' := RefG1.keep0 hG kp
    obtain ⟨h1, h2, h3, h4, h7, h8⟩ := hG'
    refine el_nil ⟨_, rfl, trivial, h1, h2, (fun _ _ => ?_), h4, h7, h8⟩
    exact own_of_blk (bs := [2, nb, kb]) (by rw [show bytesV [2, nb, kb] = [.int .u8 2, .int .u8 (nb.toNat : Int), .int .u8 (kb.toNat : Int)] from rfl]; exact hp) (by have := hG.1.size; omega) (by unfold maxLen; simp)
  refine ⟨pureG rfl (fun _ _ => rfl) (fun _ _ _ h => h), ?_⟩
  refine ⟨pureG rfl (fun _ _ => rfl) (fun _ _ _ h => h), ?_⟩
  refine ⟨fun b V ρ w hbi hd hu hG hV => el_loadb rfl rfl rfl rfl rfl hG.2.1 rfl (el_nil ⟨_, rfl, rfl, hG⟩), ?_⟩
  refine ⟨?_, ?_⟩
  · intro b V ρ w hbi hd hu hG hV
    refine el_call rfl rfl rfl rfl rfl rfl (refnum_ok e (by omega) (by omega) w) ?_
    rintro y w' ⟨hy, ky⟩
    have hsz := hG.1.size
    have hG' := RefG1.keep0 hG ky
    obtain ⟨h1, h2, h3, h4, h7, h8⟩ := hG'
    exact el_nil ⟨_, rfl, trivial, h1, h2, h3, (fun _ _ => own_lower hy hsz), h7, h8⟩
  refine ⟨?_, ?_⟩
  · intro b V ρ w hbi hd hu hG hV
    have h13 : b 13 = false := hu 13 _ rfl rfl
    obtain ⟨h1, h2, h3, h4, h7, h8⟩ := hG
    have hL := h3 (hd 7 rfl) hbi
    have hC := h4 (hd 11 rfl) hbi
    refine el_appB rfl rfl rfl rfl rfl rfl h1 h2 (by decide) hL (Rd.of_own hC) (by simp; omega) ?_
    intro v' w' hown' kk hB
    exact el_nil ⟨_, rfl, trivial, kk, hB, (fun _ h => by cases h), (fun _ h => by cases h), (fun _ => hown'), (fun h => by
      have h' : b 13 = true := h
      rw [h13] at h'
      cases h')⟩
  refine ⟨fun b V ρ w hbi hd hu hG hV => el_pure 1 rfl (el_nil ⟨V 12, rfl, trivial, hG.1, hG.2.1, hG.2.2.1, hG.2.2.2.1, hG.2.2.2.2.1, fun _ => ⟨hd 12 rfl, rfl⟩⟩), ?_⟩
  trivial
  intro b V w2 hall hG hV
  obtain ⟨k02, hb2, _, _, h7, h8⟩ := hG
  have hown := h7 (hall 12 (by decide))
  obtain ⟨_, h13⟩ := h8 (hall 13 (by decide))
  obtain ⟨row, hrow⟩ : ∃ row, V 12 = row := ⟨_, rfl⟩
  rw [hrow] at hown h13
  clear h7 h8 hrow
  refine ew_mt [(1, .pointer (some ⟨bb, 0, none⟩)), (3, row)] ⟨rfl, h13, trivial⟩ ?_
  refine ew_seq ?_
  refine ew_drawg follows [.known row, .known (.pointer (some ⟨bb, 1, none⟩)), .known (.pointer (some ⟨bb, 3, none⟩)), .known (.int .i64 t), .any, .any, .known (.pointer (some ⟨bb, 1, none⟩)), .known (.pointer (some ⟨bb, 4, none⟩)), .known (.int .i64 v), .any, .any, .any]
    (RefG (fun _ => True) (fun _ => row) 4 5 9 10 11 w bb 43 #[.int .i64 node, .int .i64 k, .int .i64 e, .int .i64 t, .int .i64 v, .bool well] ([2, nb, kb] ++ numB e.toNat) (numB t.toNat) (numB v.toNat)) rfl (stable_any _ (by simp [Spec.isK])) ⟨k02.trans0 (Keep.drew w2), hb2, (fun _ _ => own_keep hown (Keep.drew w2) (by simp)), (fun h => by cases h), (fun h => by cases h), (fun h => by cases h), (fun h => by cases h), (fun h => by cases h)⟩ ?_ ?_
  refine ⟨pureG rfl (fun _ _ => rfl) (fun _ _ _ h => h), ?_⟩
  refine ⟨pureG rfl (fun _ _ => rfl) (fun _ _ _ h => h), ?_⟩
  refine ⟨pureG rfl (fun _ _ => rfl) (fun _ _ _ h => h), ?_⟩
  refine ⟨fun b V ρ w hbi hd hu hG hV => el_loadb rfl rfl rfl rfl rfl hG.2.1 rfl (el_nil ⟨_, rfl, rfl, hG⟩), ?_⟩
  refine ⟨?_, ?_⟩
  · intro b V ρ w hbi hd hu hG hV
    have hA : b 5 = false := hu 5 _ rfl rfl
    refine el_call rfl rfl rfl rfl rfl rfl (refnum_ok t (by omega) (by omega) w) ?_
    rintro y w' ⟨hy, ky⟩
    have hsz := hG.1.size
    have hG' := RefG.keep0 hG ky
    obtain ⟨h1, h2, h3, h4, h5, h6, h7, h8⟩ := hG'
    exact el_nil ⟨_, rfl, trivial, h1, h2, h3, (fun _ _ => own_lower hy hsz), h5, h6, h7, h8⟩
  refine ⟨?_, ?_⟩
  · intro b V ρ w hbi hd hu hG hV
    have hC2 : b 9 = false := hu 9 _ rfl rfl
    have hA2 : b 10 = false := hu 10 _ rfl rfl
    obtain ⟨h1, h2, h3, h4, h5, h6, h7, h8⟩ := hG
    have hL := h3 trivial hbi
    have hC := h4 (hd 4 rfl) hbi
    refine el_appB rfl rfl rfl rfl rfl rfl h1 h2 (by decide) hL (Rd.of_own hC) (by simp; omega) ?_
    intro v' w' hown' kk hB
    exact el_nil ⟨_, rfl, trivial, kk, hB, (fun _ h => by cases h), (fun _ h => by cases h), (fun _ _ => hown'), (fun h => by
      have h' : b 9 = true := h
      rw [hC2] at h'
      cases h'), (fun h => by
      have h' : b 10 = true := h
      rw [hA2] at h'
      cases h'), h8⟩
  refine ⟨pureG rfl (fun _ _ => rfl) (fun _ _ _ h => h), ?_⟩
  refine ⟨pureG rfl (fun _ _ => rfl) (fun _ _ _ h => h), ?_⟩
  refine ⟨fun b V ρ w hbi hd hu hG hV => el_loadb rfl rfl rfl rfl rfl hG.2.1 rfl (el_nil ⟨_, rfl, rfl, hG⟩), ?_⟩
  refine ⟨?_, ?_⟩
  · intro b V ρ w hbi hd hu hG hV
    refine el_call rfl rfl rfl rfl rfl rfl (refnum_ok v (by omega) (by omega) w) ?_
    rintro y w' ⟨hy, ky⟩
    have hsz := hG.1.size
    have hG' := RefG.keep0 hG ky
    obtain ⟨h1, h2, h3, h4, h5, h6, h7, h8⟩ := hG'
    exact el_nil ⟨_, rfl, trivial, h1, h2, h3, h4, h5, (fun _ _ => own_lower hy hsz), h7, h8⟩
  refine ⟨?_, ?_⟩
  · intro b V ρ w hbi hd hu hG hV
    have hAS : b 11 = false := hu 11 _ rfl rfl
    obtain ⟨h1, h2, h3, h4, h5, h6, h7, h8⟩ := hG
    have hA1 : b 5 = true := hd 5 rfl
    have hL := h5 hA1 hbi
    have hC := h6 (hd 9 rfl) hbi
    refine el_appB rfl rfl rfl rfl rfl rfl h1 h2 (by decide) hL (Rd.of_own hC) (by simp; omega) ?_
    intro v' w' hown' kk hB
    exact el_nil ⟨_, rfl, trivial, kk, hB, (fun _ h => by
      have h' : b 5 = false := h
      rw [hA1] at h'
      cases h'), (fun _ h => by
      have h' : b 5 = false := h
      rw [hA1] at h'
      cases h'), (fun _ h => by cases h), (fun _ h => by cases h), (fun _ => hown'), (fun h => by
      have h' : b 11 = true := h
      rw [hAS] at h'
      cases h')⟩
  refine ⟨fun b V ρ w hbi hd hu hG hV => el_pure 1 rfl (el_nil ⟨V 10, rfl, trivial, hG.1, hG.2.1, hG.2.2.1, hG.2.2.2.1, hG.2.2.2.2.1, hG.2.2.2.2.2.1, hG.2.2.2.2.2.2.1, fun _ => ⟨hd 10 rfl, rfl⟩⟩), ?_⟩
  trivial
  intro b' V' w3 hall' hG' hV'
  obtain ⟨k03, hb3, _, _, _, _, h7, h8⟩ := hG'
  have hown3 := h7 (hall' 10 (by decide))
  obtain ⟨_, h11⟩ := h8 (hall' 11 (by decide))
  obtain ⟨row', hrow'⟩ : ∃ row, V' 10 = row := ⟨_, rfl⟩
  rw [hrow'] at hown3 h11
  refine ew_mt [(1, .pointer (some ⟨bb, 0, none⟩)), (3, row')] ⟨rfl, h11, trivial⟩ ?_
  rw [hBE, hkb, hnb]
  refine ew_seq (sp rfl ?_)
  refine el_loadb rfl rfl rfl rfl rfl hb3 rfl ?_
  refine ep rfl ?_
  cases well with
  | true =>
    refine ew_cond_t rfl rfl ?_
    refine sp rfl ?_
    refine el_bslice (z := .int .u8 0) (bytes := 1) (vs := [.int .u8 1]) rfl rfl rfl info_u8 rfl rfl rfl ?_
    intro p w4 ep1 ep2 kp hp
    refine el_appB (xv := .slice (some ⟨p, 0, none⟩) 1 1) (ys := [1]) rfl rfl rfl rfl rfl rfl (k03.trans0 kp) (kp.blk hb3 (by simp)) (by decide) (own_keep hown3 kp (by simp)) (Rd.of_blk1 1 hp) (by simp; omega) ?_
    intro v' w5 hown' kk hB
    refine ep rfl ?_
    exact ew_ret (ret_1 v' rfl rfl rfl rfl ⟨hown', kk⟩)
  | false =>
    refine ew_cond_f rfl rfl ?_
    refine ew_skip ?_
    refine sp rfl ?_
    refine el_bslice (z := .int .u8 0) (bytes := 1) (vs := [.int .u8 0]) rfl rfl rfl info_u8 rfl rfl rfl ?_
    intro p w4 ep1 ep2 kp hp
    refine el_appB (xv := .slice (some ⟨p, 0, none⟩) 1 1) (ys := [0]) rfl rfl rfl rfl rfl rfl (k03.trans0 kp) (kp.blk hb3 (by simp)) (by decide) (own_keep hown3 kp (by simp)) (Rd.of_blk1 1 hp) (by simp; omega) ?_
    intro v' w5 hown' kk hB
    refine ep rfl ?_
    exact ew_ret (ret_1 v' rfl rfl rfl rfl ⟨hown', kk⟩)

theorem WorD.E_parts {x : WorD} (h : x.E = 0) : (x.rk ≠ 0 ∧ isBare x.k x.e x.t x.v x.bundle.length ∧ tolOk x.node x.rk x.re x.rt x.rv) ∨ (x.rk = 0 ∧ x.node = 0 ∧ x.re = 0 ∧ x.rt = 0 ∧ x.rv = 0 ∧ x.well = false ∧ ordE x.k x.e x.t x.v x.bundle.length = 0) := by
  unfold WorD.E at h
  by_cases hrk : x.rk ≠ 0
  · rw [if_pos hrk] at h
    by_cases hb : isBare x.k x.e x.t x.v x.bundle.length ∧ tolOk x.node x.rk x.re x.rt x.rv
    · exact .inl ⟨hrk, hb⟩
    · rw [if_neg hb] at h
      cases h
  · rw [if_neg hrk] at h
    by_cases hz : x.node = 0 ∧ x.re = 0 ∧ x.rt = 0 ∧ x.rv = 0 ∧ x.well = false
    · rw [if_pos hz] at h
      exact .inr ⟨Decidable.not_not.1 hrk, hz.1, hz.2.1, hz.2.2.1, hz.2.2.2.1, hz.2.2.2.2, h⟩
    · rw [if_neg hz] at h
      cases h
theorem refRaw_ok (x : WorD) (u : Value) (w : World) (hu : RdB w u x.bundle) (hE : x.E = 0) :
    Fn Try.prog 29 [x.V u] w fun y w' => OwnB 5 w' w.heap.size y x.B ∧ Keep [] w w' := by
  have hp := WorD.E_parts hE
  obtain ⟨k, e, t, v, bu, node, rk, re, rt, rv, well⟩ := x
  dsimp only at hu hp
  obtain ⟨ad, cap, rfl, hcap⟩ := hu.slice
  refine fn_enter Try.func29 rfl rfl ?_
  refine sp rfl ?_
  refine el_box #[.int .i64 k, .int .i64 e, .int .i64 t, .int .i64 v, .slice ad bu.length cap, .int .i64 node, .int .i64 rk, .int .i64 re, .int .i64 rt, .int .i64 rv, .bool well] rfl rfl rfl rfl ?_
  intro bb w1 e1 e1' k1 hb
  refine ep rfl ?_
  refine ew_seq (sp rfl ?_)
  refine el_loada (vs := [.int .i64 k, .int .i64 e, .int .i64 t, .int .i64 v, .slice ad bu.length cap, .int .i64 node, .int .i64 rk, .int .i64 re, .int .i64 rt, .int .i64 rv, .bool well]) rfl rfl rfl rfl rfl rfl hb rfl ?_
  refine el_call rfl rfl rfl rfl rfl rfl (isTold_ok k e t v (.slice ad bu.length cap) node rk re rt rv well w1) ?_
  rintro _ w2 ⟨rfl, k2⟩
  have hb2 := k2.blk hb (by simp)
  have k02 := k1.trans0 k2
  refine ep rfl ?_
  rcases hp with ⟨hrk, hba, hto⟩ | ⟨hrk, _, _, _, _, _, hoE⟩
  · refine ew_cond_t rfl (by simpa using hrk) ?_
    refine sp rfl ?_
    refine el_loada (vs := [.int .i64 node, .int .i64 rk, .int .i64 re, .int .i64 rt, .int .i64 rv, .bool well]) rfl rfl rfl rfl rfl rfl hb2 rfl ?_
    refine el_call rfl rfl rfl rfl rfl rfl (refTold_ok node rk re rt rv well w2 hto) ?_
    rintro y w3 ⟨hy, k3⟩
    refine ep rfl ?_
    refine ew_ret (ret_1 y rfl rfl rfl rfl ⟨?_, k02.trans0 k3⟩)
    have hB : (WorD.mk k e t v bu node rk re rt rv well).B = reportB node rk re rt rv well := by simp [WorD.B, hrk]
    rw [hB]
    exact own_lower hy k02.size
  · refine ew_cond_f rfl (by simpa using hrk) ?_
    refine ew_skip ?_
    refine sp rfl ?_
    refine el_loada (vs := [.int .i64 k, .int .i64 e, .int .i64 t, .int .i64 v, .slice ad bu.length cap]) rfl rfl rfl rfl rfl rfl hb2 rfl ?_
    refine el_call rfl rfl rfl rfl rfl rfl (refOrder_ok k e t v (.slice ad bu.length cap) bu w2 (hu.keep0 k02) hoE) ?_
    rintro y w3 ⟨hy, k3⟩
    refine ep rfl ?_
    refine ew_ret (ret_1 y rfl rfl rfl rfl ⟨?_, k02.trans0 k3⟩)
    have hB : (WorD.mk k e t v bu node rk re rt rv well).B = orderB k e t v bu := by simp [WorD.B, hrk]
    rw [hB]
    exact own_lower hy k02.size
end Go.Proofs.Ytpdgfekimnmdnaa
