/- The engine, second part: operations that neither read nor write memory, evaluated in one go. -/
import Derived.Test.YtpdgfekimnmdnaaEng
set_option linter.unusedVariables false
set_option linter.unusedSimpArgs false
namespace Go.Proofs.Ytpdgfekimnmdnaa
open Go.RowKit

/-- & | ^ &^ on integers. -/
def ibits (op : BinOp) (k : IntKind) (x y : Int) : Int :=
  match op with
  | .and => k.wrap (BitVec.ofInt k.bits x &&& BitVec.ofInt k.bits y).toNat
  | .or => k.wrap (BitVec.ofInt k.bits x ||| BitVec.ofInt k.bits y).toNat
  | .xor => k.wrap (BitVec.ofInt k.bits x ^^^ BitVec.ofInt k.bits y).toNat
  | _ => k.wrap (BitVec.ofInt k.bits x &&& ~~~ BitVec.ofInt k.bits y).toNat

def binI (op : BinOp) (k : IntKind) (a b : Int) : Option Value :=
  match op with
  | .add => some (.int k (k.wrap (a + b)))
  | .sub => some (.int k (k.wrap (a - b)))
  | .mul => some (.int k (k.wrap (a * b)))
  | .quo => if b = 0 then none else some (.int k (k.wrap (a.tdiv b)))
  | .rem => if b = 0 then none else some (.int k (a.tmod b))
  | .and => some (.int k (ibits .and k a b))
  | .or => some (.int k (ibits .or k a b))
  | .xor => some (.int k (ibits .xor k a b))
  | .andNot => some (.int k (ibits .andNot k a b))
  | .eql => some (.bool (a == b))
  | .neq => some (.bool (a != b))
  | .lss => some (.bool (decide (a < b)))
  | .leq => some (.bool (decide (a ≤ b)))
  | .gtr => some (.bool (decide (a > b)))
  | .geq => some (.bool (decide (a ≥ b)))
  | _ => none
def shiftI (op : BinOp) (k : IntKind) (a b : Int) : Option Value :=
  if b < 0 then none else
  match op with
  | .shl => some (.int k (k.wrap (a * 2 ^ min b.toNat k.bits)))
  | .shr => some (.int k (a.fdiv (2 ^ min b.toNat k.bits)))
  | _ => none
def eqV (T : Option TypeDesc) (x y : Value) : Option Bool :=
  match T, x, y with
  | some .bool, .bool a, .bool b => some (a == b)
  | some (.pointer _), .pointer none, .pointer b => some b.isNone
  | some (.pointer _), .pointer (some _), .pointer none => some false
  | some (.slice _), .slice none _ _, .slice b _ _ => some b.isNone
  | some (.slice _), .slice (some _) _ _, .slice none _ _ => some false
  | some (.func _ _ _), .nilFunc, .nilFunc => some true
  | some (.func _ _ _), .func _ _ _, .nilFunc => some false
  | _, _, _ => none
def binV (T : Option TypeDesc) (op : BinOp) (x y : Value) : Option Value :=
  match op, x, y with
  | .shl, .int k a, .int _ b => shiftI .shl k a b
  | .shr, .int k a, .int _ b => shiftI .shr k a b
  | op, .int k a, .int k' b => if k = k' then binI op k a b else none
  | .eql, .string a, .string b => some (.bool (a.toList == b.toList))
  | .neq, .string a, .string b => some (.bool (!(a.toList == b.toList)))
  | .eql, x, y => (eqV T x y).map Value.bool
  | .neq, x, y => (eqV T x y).map fun b => Value.bool (!b)
  | _, _, _ => none
def unV (op : UnOp) (x : Value) : Option Value :=
  match op, x with
  | .not, .bool b => some (.bool (!b))
  | .neg, .int k n => some (.int k (k.wrap (0 - n)))
  | .xor, .int k n => some (.int k (ibits .xor k (if k.signed then -1 else k.max) n))
  | _, _ => none
def aggT (T : Option TypeDesc) : Bool := match T with
  | some (.struct _) => true
  | some (.array _ _) => true
  | _ => false
def lenV (T : Option TypeDesc) (x : Value) : Option Value :=
  match T, x with
  | some .string, .string s => some (.int .i64 s.size)
  | some (.array n _), _ => some (.int .i64 n)
  | some (.slice _), .slice _ n _ => some (.int .i64 n)
  | _, _ => none
def capV (T : Option TypeDesc) (x : Value) : Option Value :=
  match T, x with
  | some (.slice _), .slice _ _ n => some (.int .i64 n)
  | _, _ => none
/-- A part of an aggregate. -/
def partV (T : Option TypeDesc) (size : Nat) (cs : List Value) (off : Nat) : Option Value :=
  cond (aggT T) (some (.agg ((cs.drop off).take size).toArray)) (cs[off]?)

def pureOp (P : Program) (N : Nat) (ρ : Env) : Op → Option Value
  | .move x => some (ev N ρ x)
  | .assign x => some (ev N ρ x)
  | .pick c a b => match ev N ρ c with
    | .bool t => some (cond t (ev N ρ a) (ev N ρ b))
    | _ => none
  | .binOp op t x y _ => binV (P.underlying t) op (ev N ρ x) (ev N ρ y)
  | .unOp op _ x => unV op (ev N ρ x)
  | .nilCheck x => match ev N ρ x with
    | .pointer (some a) => some (.pointer (some a))
    | .func (.func f) a b => some (.func (.func f) a b)
    | _ => none
  | .fieldAddr s x f => match P.underlying s with
    | some (.struct fs) => match fs[f]? with
      | some fd => match Nat.blt 0 (P.cellsOf fd.type) with
        | true => match ev N ρ x with
          | .pointer (some a) => some (.pointer (some (a.add fd.offset)))
          | _ => none
        | false => none
      | none => none
    | _ => none
  | .field s x f => match P.underlying s with
    | some (.struct fs) => match fs[f]? with
      | some fd => match P.underlying fd.type with
        | some T => match ev N ρ x with
          | .agg cs => partV (some T) (P.cellsOf fd.type) cs.toList fd.offset
          | _ => none
        | none => none
      | none => none
    | _ => none
  | .extract t i => match ev N ρ t with
    | .tuple vs => vs.toList[i]?
    | _ => none
  | .makeFunc fn first captured => some (.func fn (first.toList.map (ev N ρ)).toArray (captured.toList.map (ev N ρ)).toArray)
  | .convert src dst x => match P.underlying src with
    | some _ => match P.underlying dst with
      | some (.int k) => match ev N ρ x with
        | .int _ n => some (.int k (k.wrap n))
        | _ => none
      | _ => none
    | none => none
  | .call c => match c.callee with
    | .builtin .len => match c.args.toList, c.argTypes.toList with
      | [x], [t] => lenV (P.underlying t) (ev N ρ x)
      | _, _ => none
    | .builtin .cap => match c.args.toList, c.argTypes.toList with
      | [x], [t] => capV (P.underlying t) (ev N ρ x)
      | _, _ => none
    | _ => none
  | _ => none

section
variable {P : Program} {N : Nat} {ρ : Env} {w : World}

theorem run_binI {op : BinOp} {k : IntKind} {a b : Int} {v : Value} (h : binI op k a b = some v) (hs : op ≠ .shl ∧ op ≠ .shr) (T : TypeId) : (binOp op T (.int k a) (.int k b)).run P w = .ok v w := by
  cases op <;> simp [binI] at h <;> first
    | (subst h; simp [binOp, Op.intArith, Op.intCmp, Op.intBits, ibits]; done)
    | (obtain ⟨h0, h1⟩ := h; subst h1; simp [binOp, Op.intDiv, h0]; done)
    | simp at hs

theorem eqGuard_int (op : BinOp) (t : TypeId) (x y : Operand) (k k' : IntKind) (a b : Int) : (eqGuard op t x y (.int k a) (.int k' b)).run P w = .ok () w := by
  unfold eqGuard
  split <;> simp

theorem run_equal {t : TypeId} {x y : Value} {b : Bool} (h : eqV (P.underlying t) x y = some b) : (Op.equal t x y).run P w = .ok b w := by
  have hd : Op.maxDepth = 9999 + 1 := rfl
  unfold Op.equal
  rw [hd]
  unfold eqV at h
  unfold Op.equalIn
  split at h <;> first | (simp at h; done) | skip
  all_goals
    rename_i hT
    simp at h
    subst h
    simp [run_underlying hT]

theorem eqGuard_eq (op : BinOp) (t : TypeId) (X Y : Operand) (x y : Value) {T : Option TypeDesc} {b : Bool} (h : eqV T x y = some b) : (eqGuard op t X Y x y).run P w = .ok () w := by
  unfold eqV at h
  unfold eqGuard
  split at h <;> first | (simp at h; done) | (split <;> simp)

theorem run_shiftI {op : BinOp} {k yk : IntKind} {a b : Int} {v : Value} (h : shiftI op k a b = some v) : (Op.shift op k a yk b).run P w = .ok v w := by
  unfold shiftI at h
  unfold Op.shift
  by_cases hb : b < 0
  · simp [hb] at h
  · rw [if_neg hb] at h ⊢
    cases op <;> simp at h <;> (subst h; simp)

theorem run_binV {op : BinOp} {t : TypeId} {X Y : Operand} {x y v : Value} (h : binV (P.underlying t) op x y = some v) :
    (do eqGuard op t X Y x y; binOp op t x y : Sem Value).run P w = .ok v w := by
  unfold binV at h
  split at h
  · rename_i k a yk b; rw [Sem.run_bind, eqGuard_int]; simp only [Result.andThen_ok]; exact run_shiftI (yk := yk) h
  · rename_i k a yk b; rw [Sem.run_bind, eqGuard_int]; simp only [Result.andThen_ok]; exact run_shiftI (yk := yk) h
  · rename_i op' k a k' b h1 h2
    split at h
    · rename_i hk
      subst hk
      rw [Sem.run_bind, eqGuard_int]; simp only [Result.andThen_ok]
      exact run_binI h ⟨fun e => h1 e, fun e => h2 e⟩ t
    · cases h
  · rename_i a b
    injection h with h
    subst h
    simp [eqGuard, binOp, Op.stringOp]
  · rename_i a b
    injection h with h
    subst h
    simp [eqGuard, binOp, Op.stringOp]
  · cases he : eqV (P.underlying t) x y with
    | none => rw [he] at h; cases h
    | some b =>
      rw [he] at h
      injection h with h
      subst h
      rw [Sem.run_bind, eqGuard_eq _ _ _ _ _ _ he]
      simp only [Result.andThen_ok]
      have hr := run_equal (w := w) he
      unfold eqV at he
      split at he <;> first | (simp at he; done) | (simp [binOp, hr])
  · cases he : eqV (P.underlying t) x y with
    | none => rw [he] at h; cases h
    | some b =>
      rw [he] at h
      injection h with h
      subst h
      rw [Sem.run_bind, eqGuard_eq _ _ _ _ _ _ he]
      simp only [Result.andThen_ok]
      have hr := run_equal (w := w) he
      unfold eqV at he
      split at he <;> first | (simp at he; done) | (simp [binOp, hr])
  · cases h

theorem run_unV {op : UnOp} {x v : Value} (h : unV op x = some v) : (Op.unary op x).run P w = .ok v w := by
  unfold unV at h
  split at h <;> first | (simp at h; done) | skip
  all_goals
    injection h with h
    subst h
    simp [Op.unary, Op.intArith, Op.intBits, ibits]

theorem run_isAgg {t : TypeId} {T : TypeDesc} (hT : P.underlying t = some T) : (isAgg t).run P w = .ok (aggT (some T)) w := by
  unfold isAgg aggT
  cases T <;> simp [run_underlying hT]

theorem run_part {t : TypeId} {T : TypeDesc} {cs : Array Value} {off : Nat} {v : Value} (hT : P.underlying t = some T) (h : partV (some T) (P.cellsOf t) cs.toList off = some v) :
    (part t cs off).run P w = .ok v w := by
  unfold part
  rw [Sem.run_bind, run_isAgg hT]
  simp only [Result.andThen_ok]
  unfold partV at h
  cases hb : aggT (some T) with
  | true =>
    rw [hb] at h
    simp only [cond_true, Option.some.injEq] at h
    subst h
    have hi : ∃ i, P.info? t = some i := by
      unfold Program.underlying at hT
      split at hT <;> first | exact ⟨_, by assumption⟩ | cases hT
    obtain ⟨i, hi⟩ := hi
    simp [sizeOf, typeInfo, hi, Program.cellsOf]
    apply Array.ext'
    simp [Array.toList_extract, List.extract_eq_take_drop]
  | false =>
    rw [hb] at h
    simp only [cond_false] at h
    have h' : cs[off]? = some v := by rw [← Array.getElem?_toList]; exact h
    simp [h']

theorem run_builtin_v (s : Sem Value) {v : Value} (h : s.run P w = .ok v w) : ((do pure (.value (← s)) : Sem Next)).run P w = .ok (.value v) w := by
  rw [Sem.run_bind, h]; rfl

theorem run_lenV {t ty : TypeId} {x v : Value} (h : lenV (P.underlying t) x = some v) : (Builtin.len_ #[t] ty #[x]).run P w = .ok v w := by
  unfold lenV at h
  split at h <;> first | (simp at h; done) | skip
  all_goals
    rename_i hT
    injection h with h
    subst h
    simp [Builtin.len_, run_underlying hT, goInt]
theorem run_capV {t ty : TypeId} {x v : Value} (h : capV (P.underlying t) x = some v) : (Builtin.cap_ #[t] ty #[x]).run P w = .ok v w := by
  unfold capV at h
  split at h <;> first | (simp at h; done) | skip
  all_goals
    rename_i hT
    injection h with h
    subst h
    simp [Builtin.cap_, run_underlying hT, goInt]

theorem arr_of_list {α : Type} {a : Array α} {l : List α} (h : a.toList = l) : a = l.toArray := by rw [← h]

theorem pure_run {o : Oper} {v : Value} (h : pureOp P N ρ o.op = some v) (ro : Option Nat) : (o.semAt ro (ev N ρ)).run P w = .ok (.value v) w := by
  have hnd : ∀ c, o.op ≠ .defer c := by
    intro c hc
    rw [hc] at h
    simp [pureOp] at h
  rw [Oper.semAt_eq _ _ _ hnd]
  unfold execOp
  unfold pureOp at h
  split at h
  · rename_i x hx; injection h with h; subst h; simp only [hx]; rfl
  · rename_i x hx; injection h with h; subst h; simp only [hx]; rfl
  · rename_i c a b hx
    split at h
    · rename_i t ht
      injection h with h; subst h
      simp only [hx, ht]
      cases t <;> simp [asBool]
    · cases h
  · rename_i op t x y yT hx
    simp only [hx]
    exact run_builtin_v _ (run_binV h)
  · rename_i op t x hx
    simp only [hx]
    exact run_builtin_v _ (run_unV h)
  · rename_i x hx
    simp only [hx]
    split at h
    · rename_i a ha
      injection h with h; subst h
      rw [ha]; rfl
    · rename_i f a b ha
      injection h with h; subst h
      rw [ha]; rfl
    · cases h
  · rename_i s x f hx
    simp only [hx]
    split at h <;> first | cases h | skip
    rename_i fs hs
    split at h <;> first | cases h | skip
    rename_i fd hf
    split at h <;> first | cases h | skip
    rename_i hsz
    split at h <;> first | cases h | skip
    rename_i a ha
    refine run_builtin_v _ ?_
    have hsz' : 0 < P.cellsOf fd.type := lt_blt hsz
    have hi : ∃ i, P.info? fd.type = some i := by
      unfold Program.cellsOf at hsz'
      cases hq : P.info? fd.type with
      | none => rw [hq] at hsz'; simp at hsz'
      | some i => exact ⟨i, rfl⟩
    obtain ⟨i, hi⟩ := hi
    have hi2 : i.size ≠ 0 := by
      unfold Program.cellsOf at hsz'
      rw [hi] at hsz'
      simp at hsz'
      omega
    simp [Instr.fieldAt, run_underlying hs, hf, ha, Instr.sureAddr, fieldPlace, sizeOf, typeInfo, hi, hi2]
  · rename_i s x f hx
    simp only [hx]
    split at h <;> first | cases h | skip
    rename_i fs hs
    split at h <;> first | cases h | skip
    rename_i fd hf
    split at h <;> first | cases h | skip
    rename_i T hT
    split at h <;> first | cases h | skip
    rename_i cs hc
    refine run_builtin_v _ ?_
    simp [Instr.field, run_underlying hs, hf, hc, asAgg, run_part hT h]
  · rename_i t i hx
    simp only [hx]
    split at h <;> first | cases h | skip
    rename_i vs hv
    refine run_builtin_v _ ?_
    have h' : vs[i]? = some v := by rw [← Array.getElem?_toList]; exact h
    simp [Instr.extract, hv, h']
  · rename_i fn first captured hx
    simp only [hx]
    injection h with h; subst h
    refine run_builtin_v _ ?_
    simp only [Instr.makeFunc]
    have e1 : Array.map (ev N ρ) first = (first.toList.map (ev N ρ)).toArray := by apply Array.ext'; simp
    have e2 : Array.map (ev N ρ) captured = (captured.toList.map (ev N ρ)).toArray := by apply Array.ext'; simp
    rw [e1, e2]; rfl
  · rename_i src dst x hx
    simp only [hx]
    split at h <;> first | cases h | skip
    rename_i S hS
    split at h <;> first | cases h | skip
    rename_i k hk
    split at h <;> first | cases h | skip
    rename_i k2 n hn
    refine run_builtin_v _ ?_
    cases S <;> simp [convert, run_underlying hS, run_underlying hk, hn, Conv.intToInt]
  · rename_i c hx
    simp only [hx]
    split at h <;> first | cases h | skip
    · rename_i hcl
      split at h <;> first | cases h | skip
      rename_i x t hxs hts
      have ha := arr_of_list hxs
      have ht := arr_of_list hts
      simp only [resolve, hcl, invoke, builtin, Sem.run_bind, Sem.run_pure, Result.andThen_ok, ha, ht, List.map_toArray, List.map_cons, List.map_nil]
      rw [run_lenV h]; rfl
    · rename_i hcl
      split at h <;> first | cases h | skip
      rename_i x t hxs hts
      have ha := arr_of_list hxs
      have ht := arr_of_list hts
      simp only [resolve, hcl, invoke, builtin, Sem.run_bind, Sem.run_pure, Result.andThen_ok, ha, ht, List.map_toArray, List.map_cons, List.map_nil]
      rw [run_capV h]; rfl
  · cases h

/-- Operations one behind the other, as far as they are pure, at most n of them. -/
def runPure (P : Program) (N : Nat) (ops : List Oper) : Nat → List Oper → Env → List Oper × Env
  | 0, l, ρ => (l, ρ)
  | _ + 1, [], ρ => ([], ρ)
  | n + 1, o :: l, ρ => match wantedE ops N ρ o with
    | false => runPure P N ops n l (ρ.upo o.dst undef)
    | true => match pureOp P N ρ o.op with
      | some v => runPure P N ops n l (ρ.upo o.dst v)
      | none => (o :: l, ρ)

theorem el_pure {r : Option Nat} {Q : Post} {ops : List Oper} (n : Nat) {l l' : List Oper} {ρ' : Env} (h : runPure P N ops n l ρ = (l', ρ')) (k : EL P r N ops Q l' ρ' w) : EL P r N ops Q l ρ w := by
  induction n generalizing l ρ with
  | zero => simp only [runPure, Prod.mk.injEq] at h; obtain ⟨rfl, rfl⟩ := h; exact k
  | succ n ih =>
    cases l with
    | nil => simp only [runPure, Prod.mk.injEq] at h; obtain ⟨rfl, rfl⟩ := h; exact k
    | cons o l =>
      simp only [runPure] at h
      cases hw : wantedE ops N ρ o with
      | false => rw [hw] at h; exact el_skip hw (ih h)
      | true =>
        rw [hw] at h
        simp only at h
        cases hp : pureOp P N ρ o.op with
        | none => rw [hp] at h; simp only [Prod.mk.injEq] at h; obtain ⟨rfl, rfl⟩ := h; exact k
        | some v => rw [hp] at h; exact el_run hw (pure_run hp) (ih h)
end
end Go.Proofs.Ytpdgfekimnmdnaa
