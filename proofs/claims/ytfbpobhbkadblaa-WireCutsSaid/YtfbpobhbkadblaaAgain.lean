/- Whatever a reader takes off, laid again, is the same bytes. -/
import Derived.Test.YtfbpobhbkadblaaBackM
set_option linter.unusedVariables false
set_option linter.unusedSimpArgs false
namespace Go.Proofs.Ytfbpobhbkadblaa
open Go.RowKit
set_option maxRecDepth 20000

/-- v reads as the calls xs (What, N). -/
def RdT (w : World) (v : Value) (xs : List (Int × Int)) : Prop := ∃ ad cap, v = .slice ad xs.length cap ∧ xs.length ≤ cap ∧ xs.length ≤ maxLen ∧ ∀ j x, xs[j]? = some x →
  ∃ a, ad = some a ∧ w.cell? ((a.add (j * 2)).add 0) = some (.int .i64 x.1) ∧ w.cell? ((a.add (j * 2)).add 1) = some (.int .i64 x.2)
theorem RdT.keep0 {w w' : World} {v : Value} {xs : List (Int × Int)} (h : RdT w v xs) (k : Keep [] w w') : RdT w' v xs := by
  obtain ⟨ad, cap, rfl, hc, hm, hx⟩ := h
  refine ⟨ad, cap, rfl, hc, hm, fun j x hj => ?_⟩
  obtain ⟨a, rfl, h1, h2⟩ := hx j x hj
  exact ⟨a, rfl, cell_keep0 h1 k, cell_keep0 h2 k⟩
theorem two_cells {w : World} {a : Addr} {u v : Value} (h0 : w.cell? (a.add 0) = some u) (h1 : w.cell? (a.add 1) = some v) : ∀ j x, [u, v][j]? = some x → w.cell? (a.add j) = some x := fun j x hj => by
  match j, hj with
  | 0, hj => injection hj with hj; subst hj; exact h0
  | 1, hj => injection hj with hj; subst hj; exact h1

theorem lay_fit {cur : List UInt8} {parts : List (List UInt8)} {out : List UInt8} (h : cur ++ parts.flatten = out) (hl : out.length ≤ 1048576) : layB true cur parts = out ∧ layE true cur.length (sumL parts) = 0 := by
  have hs : cur.length + sumL parts = out.length := by rw [← h, List.length_append, sumL_flatten]
  constructor
  · unfold layB
    rw [if_neg (by simp), if_neg (by omega), h]
  · unfold layE
    rw [if_neg (by simp), if_neg (by omega)]

theorem IsW.blkW {w : World} {g : Nat} {bs : List UInt8} (h : IsW w g bs) : ∃ v, Blk w g 74 #[v, .bool true] := by
  obtain ⟨_, v, hb, _⟩ := h
  exact ⟨v, hb⟩


set_option maxHeartbeats 8000000 in
theorem again_ok (v : Value) (bs : List UInt8) (v2 : Value) (xs : List (Int × Int)) (w0 : World) (hv : RdB w0 v bs) (hl : bs.length ≤ 2000) (hv2 : RdT w0 v2 xs) (hn : xs.length ≤ 60) :
    Fn Try.prog 37 [v, v2] w0 fun r w' => r = .bool true ∧ Keep [] w0 w' := by
  obtain ⟨adb, capb, rfl, hcb⟩ := hv.slice
  have hv2A := hv2
  obtain ⟨ad, cap, rfl, hcap, _, hx⟩ := hv2
  refine fn_enter Try.func37 rfl rfl ?_
  refine es rfl ?_
  refine sp rfl ?_
  refine el_call rfl rfl rfl rfl rfl rfl (read_ok _ bs w0 hv (by omega)) ?_
  rintro rv w1 ⟨gr, rfl, hgr, hR1, k1⟩
  refine ep rfl ?_
  refine sp rfl ?_
  refine el_call rfl rfl rfl rfl rfl rfl (new_ok w1) ?_
  rintro rv w2 ⟨gw, rfl, hgw, hW2, k2⟩
  refine ep rfl ?_
  have hR2 := hR1.keep0 k2
  have hgrl := hR1.lt
  have hgwl := k1.size
  have hne : gw ≠ gr := by omega
  refine ew_seq (es rfl ?_)
  refine ew_block ?_
  refine ew_loop (α := Nat × Nat × Int) (fun x => [(0, .slice adb bs.length capb), (1, .slice ad xs.length cap), (5, .pointer (some ⟨gr, 0, none⟩)), (6, .pointer (some ⟨gw, 0, none⟩)), (7, .int .i64 (x.1 : Int))])
    (fun x w' => x.1 ≤ xs.length ∧ x.2.1 ≤ bs.length ∧ IsR w' gr bs x.2.1 x.2.2 ∧ IsW w' gw (bs.take x.2.1) ∧ Keep [] w0 w') (fun x => xs.length - x.1)
    (0, 0, 0) ⟨rfl, rfl, rfl, rfl, rfl, trivial⟩ ⟨Nat.zero_le _, Nat.zero_le _, hR2, hW2, k1.trans0 k2⟩ ?_
  rintro ⟨i, p, flaw⟩ ρ w2 hd ⟨hi, hp, hR2, hW2, k02⟩
  dsimp only at hi hp hR2 hW2 k02
  refine ew_seq (es rfl ?_)
  by_cases hlt : i < xs.length
  · refine ew_cond_t rfl (decide_eq_true (by omega)) ?_
    refine ew_skip ?_
    obtain ⟨⟨what, n⟩, hxi⟩ : ∃ x, xs[i]? = some x := ⟨_, List.getElem?_eq_getElem hlt⟩
    obtain ⟨a, rfl, c1, c2⟩ := hx i _ hxi
    refine ew_seq (ew_block ?_)
    refine sp rfl ?_
    refine el_index (e := 63) (j := i) (p := i * 2) rfl rfl rfl rfl rfl rfl hlt rfl rfl ?_
    refine el_loadc (vs := [.int .i64 what, .int .i64 n]) rfl rfl rfl rfl rfl rfl (two_cells (cell_keep0 c1 k02) (cell_keep0 c2 k02)) ?_
    refine el_alloc (z := .agg #[.int .i64 0, .int .i64 0]) #[.int .i64 0, .int .i64 0] rfl rfl rfl rfl ?_
    intro cb w2a e2 e2' k2a hc2
    refine el_store #[.int .i64 what, .int .i64 n] rfl rfl rfl rfl rfl rfl rfl rfl hc2 rfl rfl ?_
    intro w3 k2b hs3 hc3
    have k23 : Keep [] w2 w3 := k2a.trans k2b (by simp; omega)
    have hR3 := hR2.keep0 k23
    have hW3 := hW2.keep0 k23
    have k03 := k02.trans0 k23
    clear k2a k2b hc2
    refine ep rfl ?_
    refine sp rfl ?_
    refine el_loadb rfl rfl rfl rfl rfl hc3 rfl ?_
    refine ep rfl ?_
    refine ew_block ?_
    refine es rfl ?_
    by_cases h0 : what = 0
    · subst h0
      refine ew_cond_t rfl rfl ?_
      refine sp rfl ?_
      refine el_loadb rfl rfl rfl rfl rfl hc3 rfl ?_
      refine el_call rfl rfl rfl rfl rfl rfl (rnumber_ok gr bs p flaw n w3 hR3) ?_
      intro rv w4 h4
      obtain ⟨⟨x, e, a, f⟩, hS⟩ : ∃ x, (rdStep 0 bs p flaw (decide (n ≥ 0)) fun l => numR l n) = x := ⟨_, rfl⟩
      rw [hS] at h4
      obtain ⟨rfl, hR4, k4⟩ := h4
      dsimp only at hR4
      have hW4 : IsW w4 gw (bs.take p) := hW3.keep k4 (by simpa using hne) (NoE.one hR3.blk (by decide))
      obtain ⟨_, hbW4⟩ := hW4.blkW
      have k04 : Keep [] w0 w4 := k03.trans k4 (by simp; omega)
      refine ep rfl ?_
      by_cases he : e = 0
      · subst he
        obtain ⟨N, a', hS', hN, ha, h8⟩ := back_num hp (by rw [hS])
        rw [hS] at hS'
        simp only [Prod.mk.injEq, true_and] at hS'
        obtain ⟨rfl, rfl, rfl⟩ := hS'
        refine sp rfl ?_
        refine el_call rfl rfl rfl rfl rfl rfl (num_ok _ w4) ?_
        rintro _ _ ⟨rfl, rfl⟩
        refine el_eqi (a := 0) (b := 0) (k := .i64) true rfl rfl rfl rfl rfl ?_
        refine pp rfl ?_
        refine el_call rfl rfl rfl rfl rfl rfl (wnumber_ok (some gw) (bs.take p) (N : Int) (by omega) w4 hW4) ?_
        intro rv w5 h5
        have hde : decide ((N : Int) ≥ 0) = true := decide_eq_true (by omega)
        rw [hde, Int.toNat_natCast] at h5
        obtain ⟨q1, q2⟩ := lay_fit (cur := bs.take p) (parts := [numB N]) (out := bs.take a) (by simpa using h8) (by simp; omega)
        obtain ⟨rfl, hW5, k5⟩ := layr_to _ 0 q1 q2 h5
        refine pp rfl ?_
        refine el_call rfl rfl rfl rfl rfl rfl (num_ok _ w5) ?_
        rintro _ _ ⟨rfl, rfl⟩
        refine el_neqi (a := 0) (b := 0) (k := .i64) false rfl rfl rfl rfl rfl ?_
        refine ep rfl ?_
        refine ew_cond_f rfl rfl ?_
        refine ew_skip ?_
        have hR5 := hR4.keep k5 (by simpa using fun h => hne h.symm) (NoE.one hbW4 (by decide))
        refine eg rfl ?_
        exact ⟨by exact hd, (i + 1, a, 0), ⟨rfl, rfl, rfl, rfl, int_eq (by rw [wrap_i64 (by omega) (by omega)]; omega), trivial⟩, ⟨hlt, ha, hR5, hW5, k04.trans k5 (by simp; omega)⟩, by dsimp only; omega⟩
      · skip
        have hae := rd_fail (by rw [hS]; exact he)
        rw [hS] at hae
        dsimp only at hae
        subst hae
        refine sp rfl ?_
        refine el_call rfl rfl rfl rfl rfl rfl (num_ok _ w4) ?_
        rintro _ _ ⟨rfl, rfl⟩
        refine el_eqi (a := e) (b := 0) (k := .i64) false (by simpa using he) rfl rfl rfl rfl ?_
        refine ep rfl ?_
        refine ew_cond_f rfl rfl ?_
        refine ew_skip ?_
        refine eg rfl ?_
        exact ⟨by exact hd, (i + 1, a, f), ⟨rfl, rfl, rfl, rfl, int_eq (by rw [wrap_i64 (by omega) (by omega)]; omega), trivial⟩, ⟨hlt, hp, hR4, hW4, k04⟩, by dsimp only; omega⟩
    refine ew_cond_f rfl (by simp [h0]) ?_
    refine es rfl ?_
    by_cases h1 : what = 1
    · subst h1
      refine ew_cond_t rfl rfl ?_
      refine sp rfl ?_
      refine el_call rfl rfl rfl rfl rfl rfl (rsigned_ok gr bs p flaw w3 hR3) ?_
      intro rv w4 h4
      obtain ⟨⟨x, e, a, f⟩, hS⟩ : ∃ x, (rdStep 0 bs p flaw true fun l => numR l 9223372036854775807) = x := ⟨_, rfl⟩
      rw [hS] at h4
      obtain ⟨rfl, hR4, k4⟩ := h4
      dsimp only at hR4
      have hW4 : IsW w4 gw (bs.take p) := hW3.keep k4 (by simpa using hne) (NoE.one hR3.blk (by decide))
      obtain ⟨_, hbW4⟩ := hW4.blkW
      have k04 : Keep [] w0 w4 := k03.trans k4 (by simp; omega)
      refine ep rfl ?_
      by_cases he : e = 0
      · subst he
        obtain ⟨N, a', hS', hN, ha, h8⟩ := back_num hp (by rw [hS])
        rw [hS] at hS'
        simp only [Prod.mk.injEq, true_and] at hS'
        obtain ⟨rfl, rfl, rfl⟩ := hS'
        refine sp rfl ?_
        refine el_call rfl rfl rfl rfl rfl rfl (num_ok _ w4) ?_
        rintro _ _ ⟨rfl, rfl⟩
        refine el_eqi (a := 0) (b := 0) (k := .i64) true rfl rfl rfl rfl rfl ?_
        refine pp rfl ?_
        refine el_call rfl rfl rfl rfl rfl rfl (wsigned_ok (some gw) (bs.take p) (unz (N : Int)) w4 hW4) ?_
        intro rv w5 h5
        have hsg := inSign_unzig N hN
        have hsg2 := hsg
        simp [inSign] at hsg2
        rw [unz_eq _ (by omega) (by omega), hsg, zigU_zig _ hsg2.1 hsg2.2, zig_unzig] at h5
        obtain ⟨q1, q2⟩ := lay_fit (cur := bs.take p) (parts := [numB N]) (out := bs.take a) (by simpa using h8) (by simp; omega)
        obtain ⟨rfl, hW5, k5⟩ := layr_to _ 0 q1 q2 h5
        refine pp rfl ?_
        refine el_call rfl rfl rfl rfl rfl rfl (num_ok _ w5) ?_
        rintro _ _ ⟨rfl, rfl⟩
        refine el_neqi (a := 0) (b := 0) (k := .i64) false rfl rfl rfl rfl rfl ?_
        refine ep rfl ?_
        refine ew_cond_f rfl rfl ?_
        refine ew_skip ?_
        have hR5 := hR4.keep k5 (by simpa using fun h => hne h.symm) (NoE.one hbW4 (by decide))
        refine eg rfl ?_
        exact ⟨by exact hd, (i + 1, a, 0), ⟨rfl, rfl, rfl, rfl, int_eq (by rw [wrap_i64 (by omega) (by omega)]; omega), trivial⟩, ⟨hlt, ha, hR5, hW5, k04.trans k5 (by simp; omega)⟩, by dsimp only; omega⟩
      · skip
        have hae := rd_fail (by rw [hS]; exact he)
        rw [hS] at hae
        dsimp only at hae
        subst hae
        refine sp rfl ?_
        refine el_call rfl rfl rfl rfl rfl rfl (num_ok _ w4) ?_
        rintro _ _ ⟨rfl, rfl⟩
        refine el_eqi (a := e) (b := 0) (k := .i64) false (by simpa using he) rfl rfl rfl rfl ?_
        refine ep rfl ?_
        refine ew_cond_f rfl rfl ?_
        refine ew_skip ?_
        refine eg rfl ?_
        exact ⟨by exact hd, (i + 1, a, f), ⟨rfl, rfl, rfl, rfl, int_eq (by rw [wrap_i64 (by omega) (by omega)]; omega), trivial⟩, ⟨hlt, hp, hR4, hW4, k04⟩, by dsimp only; omega⟩
    refine ew_cond_f rfl (by simp [h1]) ?_
    refine es rfl ?_
    by_cases h2 : what = 2
    · subst h2
      refine ew_cond_t rfl rfl ?_
      refine sp rfl ?_
      refine el_loadb rfl rfl rfl rfl rfl hc3 rfl ?_
      refine el_call rfl rfl rfl rfl rfl rfl (rbytes_ok gr bs p flaw n w3 hR3) ?_
      intro rv w4 h4
      obtain ⟨⟨x, e, a, f⟩, hS⟩ : ∃ x, (rdStep [] bs p flaw (decide (n ≥ 0)) fun l => bytesR l n) = x := ⟨_, rfl⟩
      rw [hS] at h4
      obtain ⟨xv, B, rfl, hB, hown4, hR4, k4⟩ := h4
      dsimp only at hR4 hown4
      have hW4 : IsW w4 gw (bs.take p) := hW3.keep k4 (by simpa using hne) (NoE.one hR3.blk (by decide))
      obtain ⟨_, hbW4⟩ := hW4.blkW
      have k04 : Keep [] w0 w4 := k03.trans k4 (by simp; omega)
      refine ep rfl ?_
      by_cases he : e = 0
      · subst he
        obtain ⟨X, a', hS', ha, h8⟩ := back_bytes hp (by rw [hS])
        rw [hS] at hS'
        simp only [Prod.mk.injEq, true_and] at hS'
        obtain ⟨rfl, rfl, rfl⟩ := hS'
        have hlen := congrArg List.length h8
        simp only [List.length_append, List.length_take] at hlen
        refine sp rfl ?_
        refine el_call rfl rfl rfl rfl rfl rfl (num_ok _ w4) ?_
        rintro _ _ ⟨rfl, rfl⟩
        refine el_eqi (a := 0) (b := 0) (k := .i64) true rfl rfl rfl rfl rfl ?_
        refine pp rfl ?_
        refine el_call rfl rfl rfl rfl rfl rfl (wbytes_ok (some gw) (bs.take p) xv x w4 hW4 (Rd.of_own hown4) (by omega)) ?_
        intro rv w5 h5
        obtain ⟨q1, q2⟩ := lay_fit (cur := bs.take p) (parts := [numB x.length, x]) (out := bs.take a) (by simpa using h8) (by simp; omega)
        obtain ⟨rfl, hW5, k5⟩ := layr_to _ 0 q1 q2 h5
        refine pp rfl ?_
        refine el_call rfl rfl rfl rfl rfl rfl (num_ok _ w5) ?_
        rintro _ _ ⟨rfl, rfl⟩
        refine el_neqi (a := 0) (b := 0) (k := .i64) false rfl rfl rfl rfl rfl ?_
        refine ep rfl ?_
        refine ew_cond_f rfl rfl ?_
        refine ew_skip ?_
        have hR5 := hR4.keep k5 (by simpa using fun h => hne h.symm) (NoE.one hbW4 (by decide))
        refine eg rfl ?_
        exact ⟨by exact hd, (i + 1, a, 0), ⟨rfl, rfl, rfl, rfl, int_eq (by rw [wrap_i64 (by omega) (by omega)]; omega), trivial⟩, ⟨hlt, ha, hR5, hW5, k04.trans k5 (by simp; omega)⟩, by dsimp only; omega⟩
      · skip
        have hae := rd_fail (by rw [hS]; exact he)
        rw [hS] at hae
        dsimp only at hae
        subst hae
        refine sp rfl ?_
        refine el_call rfl rfl rfl rfl rfl rfl (num_ok _ w4) ?_
        rintro _ _ ⟨rfl, rfl⟩
        refine el_eqi (a := e) (b := 0) (k := .i64) false (by simpa using he) rfl rfl rfl rfl ?_
        refine ep rfl ?_
        refine ew_cond_f rfl rfl ?_
        refine ew_skip ?_
        refine eg rfl ?_
        exact ⟨by exact hd, (i + 1, a, f), ⟨rfl, rfl, rfl, rfl, int_eq (by rw [wrap_i64 (by omega) (by omega)]; omega), trivial⟩, ⟨hlt, hp, hR4, hW4, k04⟩, by dsimp only; omega⟩
    refine ew_cond_f rfl (by simp [h2]) ?_
    refine es rfl ?_
    by_cases h3 : what = 3
    · subst h3
      refine ew_cond_t rfl rfl ?_
      refine sp rfl ?_
      refine el_loadb rfl rfl rfl rfl rfl hc3 rfl ?_
      refine el_call rfl rfl rfl rfl rfl rfl (rtext_ok gr bs p flaw n w3 hR3) ?_
      intro rv w4 h4
      obtain ⟨⟨x, e, a, f⟩, hS⟩ : ∃ x, (rdStep [] bs p flaw (decide (n ≥ 0)) fun l => bytesR l n) = x := ⟨_, rfl⟩
      rw [hS] at h4
      obtain ⟨rfl, hR4, k4⟩ := h4
      dsimp only at hR4
      have hW4 : IsW w4 gw (bs.take p) := hW3.keep k4 (by simpa using hne) (NoE.one hR3.blk (by decide))
      obtain ⟨_, hbW4⟩ := hW4.blkW
      have k04 : Keep [] w0 w4 := k03.trans k4 (by simp; omega)
      refine ep rfl ?_
      by_cases he : e = 0
      · subst he
        obtain ⟨X, a', hS', ha, h8⟩ := back_bytes hp (by rw [hS])
        rw [hS] at hS'
        simp only [Prod.mk.injEq, true_and] at hS'
        obtain ⟨rfl, rfl, rfl⟩ := hS'
        have hlen := congrArg List.length h8
        simp only [List.length_append, List.length_take] at hlen
        refine sp rfl ?_
        refine el_call rfl rfl rfl rfl rfl rfl (num_ok _ w4) ?_
        rintro _ _ ⟨rfl, rfl⟩
        refine el_eqi (a := 0) (b := 0) (k := .i64) true rfl rfl rfl rfl rfl ?_
        refine pp rfl ?_
        refine el_call rfl rfl rfl rfl rfl rfl (wtext_ok (some gw) (bs.take p) x w4 hW4 (by omega)) ?_
        intro rv w5 h5
        obtain ⟨q1, q2⟩ := lay_fit (cur := bs.take p) (parts := [numB x.length, x]) (out := bs.take a) (by simpa using h8) (by simp; omega)
        obtain ⟨rfl, hW5, k5⟩ := layr_to _ 0 q1 q2 h5
        refine pp rfl ?_
        refine el_call rfl rfl rfl rfl rfl rfl (num_ok _ w5) ?_
        rintro _ _ ⟨rfl, rfl⟩
        refine el_neqi (a := 0) (b := 0) (k := .i64) false rfl rfl rfl rfl rfl ?_
        refine ep rfl ?_
        refine ew_cond_f rfl rfl ?_
        refine ew_skip ?_
        have hR5 := hR4.keep k5 (by simpa using fun h => hne h.symm) (NoE.one hbW4 (by decide))
        refine eg rfl ?_
        exact ⟨by exact hd, (i + 1, a, 0), ⟨rfl, rfl, rfl, rfl, int_eq (by rw [wrap_i64 (by omega) (by omega)]; omega), trivial⟩, ⟨hlt, ha, hR5, hW5, k04.trans k5 (by simp; omega)⟩, by dsimp only; omega⟩
      · skip
        have hae := rd_fail (by rw [hS]; exact he)
        rw [hS] at hae
        dsimp only at hae
        subst hae
        refine sp rfl ?_
        refine el_call rfl rfl rfl rfl rfl rfl (num_ok _ w4) ?_
        rintro _ _ ⟨rfl, rfl⟩
        refine el_eqi (a := e) (b := 0) (k := .i64) false (by simpa using he) rfl rfl rfl rfl ?_
        refine ep rfl ?_
        refine ew_cond_f rfl rfl ?_
        refine ew_skip ?_
        refine eg rfl ?_
        exact ⟨by exact hd, (i + 1, a, f), ⟨rfl, rfl, rfl, rfl, int_eq (by rw [wrap_i64 (by omega) (by omega)]; omega), trivial⟩, ⟨hlt, hp, hR4, hW4, k04⟩, by dsimp only; omega⟩
    refine ew_cond_f rfl (by simp [h3]) ?_
    refine es rfl ?_
    by_cases h4 : what = 4
    · subst h4
      refine ew_cond_t rfl rfl ?_
      refine sp rfl ?_
      refine el_call rfl rfl rfl rfl rfl rfl (rtruth_ok gr bs p flaw w3 hR3) ?_
      intro rv w4 h4
      obtain ⟨⟨x, e, a, f⟩, hS⟩ : ∃ x, (rdStep false bs p flaw true truthR) = x := ⟨_, rfl⟩
      rw [hS] at h4
      obtain ⟨rfl, hR4, k4⟩ := h4
      dsimp only at hR4
      have hW4 : IsW w4 gw (bs.take p) := hW3.keep k4 (by simpa using hne) (NoE.one hR3.blk (by decide))
      obtain ⟨_, hbW4⟩ := hW4.blkW
      have k04 : Keep [] w0 w4 := k03.trans k4 (by simp; omega)
      refine ep rfl ?_
      by_cases he : e = 0
      · subst he
        obtain ⟨X, a', hS', ha, h8⟩ := back_truth hp (by rw [hS])
        rw [hS] at hS'
        simp only [Prod.mk.injEq, true_and] at hS'
        obtain ⟨rfl, rfl, rfl⟩ := hS'
        refine sp rfl ?_
        refine el_call rfl rfl rfl rfl rfl rfl (num_ok _ w4) ?_
        rintro _ _ ⟨rfl, rfl⟩
        refine el_eqi (a := 0) (b := 0) (k := .i64) true rfl rfl rfl rfl rfl ?_
        refine pp rfl ?_
        refine el_call rfl rfl rfl rfl rfl rfl (wtruth_ok (some gw) (bs.take p) x w4 hW4) ?_
        intro rv w5 h5
        obtain ⟨q1, q2⟩ := lay_fit (cur := bs.take p) (parts := [[if x then 1 else 0]]) (out := bs.take a) (by simpa using h8) (by simp; omega)
        obtain ⟨rfl, hW5, k5⟩ := layr_to _ 0 q1 q2 h5
        refine pp rfl ?_
        refine el_call rfl rfl rfl rfl rfl rfl (num_ok _ w5) ?_
        rintro _ _ ⟨rfl, rfl⟩
        refine el_neqi (a := 0) (b := 0) (k := .i64) false rfl rfl rfl rfl rfl ?_
        refine ep rfl ?_
        refine ew_cond_f rfl rfl ?_
        refine ew_skip ?_
        have hR5 := hR4.keep k5 (by simpa using fun h => hne h.symm) (NoE.one hbW4 (by decide))
        refine eg rfl ?_
        exact ⟨by exact hd, (i + 1, a, 0), ⟨rfl, rfl, rfl, rfl, int_eq (by rw [wrap_i64 (by omega) (by omega)]; omega), trivial⟩, ⟨hlt, ha, hR5, hW5, k04.trans k5 (by simp; omega)⟩, by dsimp only; omega⟩
      · skip
        have hae := rd_fail (by rw [hS]; exact he)
        rw [hS] at hae
        dsimp only at hae
        subst hae
        refine sp rfl ?_
        refine el_call rfl rfl rfl rfl rfl rfl (num_ok _ w4) ?_
        rintro _ _ ⟨rfl, rfl⟩
        refine el_eqi (a := e) (b := 0) (k := .i64) false (by simpa using he) rfl rfl rfl rfl ?_
        refine ep rfl ?_
        refine ew_cond_f rfl rfl ?_
        refine ew_skip ?_
        refine eg rfl ?_
        exact ⟨by exact hd, (i + 1, a, f), ⟨rfl, rfl, rfl, rfl, int_eq (by rw [wrap_i64 (by omega) (by omega)]; omega), trivial⟩, ⟨hlt, hp, hR4, hW4, k04⟩, by dsimp only; omega⟩
    refine ew_cond_f rfl (by simp [h4]) ?_
    refine es rfl ?_
    by_cases h5 : what = 5
    · subst h5
      refine ew_cond_t rfl rfl ?_
      refine sp rfl ?_
      refine el_loadb rfl rfl rfl rfl rfl hc3 rfl ?_
      refine el_call rfl rfl rfl rfl rfl rfl (rraw_ok gr bs p flaw n w3 hR3) ?_
      intro rv w4 h4
      obtain ⟨⟨x, e, a, f⟩, hS⟩ : ∃ x, (rdStep [] bs p flaw (decide (n ≥ 0)) fun l => rawR l n.toNat) = x := ⟨_, rfl⟩
      rw [hS] at h4
      obtain ⟨xv, B, rfl, hB, hown4, hR4, k4⟩ := h4
      dsimp only at hR4 hown4
      have hW4 : IsW w4 gw (bs.take p) := hW3.keep k4 (by simpa using hne) (NoE.one hR3.blk (by decide))
      obtain ⟨_, hbW4⟩ := hW4.blkW
      have k04 : Keep [] w0 w4 := k03.trans k4 (by simp; omega)
      refine ep rfl ?_
      by_cases he : e = 0
      · subst he
        obtain ⟨X, a', hS', ha, h8⟩ := back_raw hp (by rw [hS])
        rw [hS] at hS'
        simp only [Prod.mk.injEq, true_and] at hS'
        obtain ⟨rfl, rfl, rfl⟩ := hS'
        have hlen := congrArg List.length h8
        simp only [List.length_append, List.length_take] at hlen
        refine sp rfl ?_
        refine el_call rfl rfl rfl rfl rfl rfl (num_ok _ w4) ?_
        rintro _ _ ⟨rfl, rfl⟩
        refine el_eqi (a := 0) (b := 0) (k := .i64) true rfl rfl rfl rfl rfl ?_
        refine pp rfl ?_
        obtain ⟨adx, capx, rfl, hcx⟩ := own_slice hown4
        refine el_bslice (z := .slice none 0 0) (bytes := 24) (vs := [.slice adx x.length capx]) rfl rfl rfl info_bs rfl rfl rfl ?_
        intro sb w4' e4 e4' k4' hsb
        have hR4 := hR4.keep0 k4'
        have hW4 := hW4.keep0 k4'
        have hown4 := own_keep hown4 k4' (by simp)
        have k04 := k04.trans0 k4'
        obtain ⟨_, hbW4⟩ := hW4.blkW
        refine el_call rfl rfl rfl rfl rfl rfl (wraw_ok (some gw) (bs.take p) _ [x] w4' hW4 (RdBB.of_blk hsb rfl (one_of (Rd.of_own hown4))) (by simp [sumL]; omega) (by simp)) ?_
        intro rv w5 h5
        obtain ⟨q1, q2⟩ := lay_fit (cur := bs.take p) (parts := [x]) (out := bs.take a) (by simpa using h8) (by simp; omega)
        obtain ⟨rfl, hW5, k5⟩ := layr_to _ 0 q1 q2 h5
        refine pp rfl ?_
        refine el_call rfl rfl rfl rfl rfl rfl (num_ok _ w5) ?_
        rintro _ _ ⟨rfl, rfl⟩
        refine el_neqi (a := 0) (b := 0) (k := .i64) false rfl rfl rfl rfl rfl ?_
        refine ep rfl ?_
        refine ew_cond_f rfl rfl ?_
        refine ew_skip ?_
        have hR5 := hR4.keep k5 (by simpa using fun h => hne h.symm) (NoE.one hbW4 (by decide))
        refine eg rfl ?_
        exact ⟨by exact hd, (i + 1, a, 0), ⟨rfl, rfl, rfl, rfl, int_eq (by rw [wrap_i64 (by omega) (by omega)]; omega), trivial⟩, ⟨hlt, ha, hR5, hW5, k04.trans k5 (by simp; omega)⟩, by dsimp only; omega⟩
      · skip
        have hae := rd_fail (by rw [hS]; exact he)
        rw [hS] at hae
        dsimp only at hae
        subst hae
        refine sp rfl ?_
        refine el_call rfl rfl rfl rfl rfl rfl (num_ok _ w4) ?_
        rintro _ _ ⟨rfl, rfl⟩
        refine el_eqi (a := e) (b := 0) (k := .i64) false (by simpa using he) rfl rfl rfl rfl ?_
        refine ep rfl ?_
        refine ew_cond_f rfl rfl ?_
        refine ew_skip ?_
        refine eg rfl ?_
        exact ⟨by exact hd, (i + 1, a, f), ⟨rfl, rfl, rfl, rfl, int_eq (by rw [wrap_i64 (by omega) (by omega)]; omega), trivial⟩, ⟨hlt, hp, hR4, hW4, k04⟩, by dsimp only; omega⟩
    refine ew_cond_f rfl (by simp [h5]) ?_
    refine ew_skip ?_
    refine eg rfl ?_
    exact ⟨by exact hd, (i + 1, p, flaw), ⟨rfl, rfl, rfl, rfl, int_eq (by rw [wrap_i64 (by omega) (by omega)]; omega), trivial⟩, ⟨hlt, hp, hR3, hW3, k03⟩, by dsimp only; omega⟩
  · refine ew_cond_f rfl (decide_eq_false (by omega)) ?_
    refine ew_exit ?_
    refine ew_seq (sp rfl ?_)
    refine el_call rfl rfl rfl rfl rfl rfl (rend_ok gr bs p flaw w2 hR2) ?_
    rintro _ _ ⟨rfl, rfl⟩
    refine el_call rfl rfl rfl rfl rfl rfl (num_ok _ w2) ?_
    rintro _ _ ⟨rfl, rfl⟩
    let T : Value := .bool true
    by_cases hz : (if flaw ≠ 0 then flaw else if p < bs.length then 122 else 0) = 0
    · have hpl : p = bs.length := by
        by_cases hf : flaw = 0
        · by_cases hpl : p < bs.length
          · simp [hf, hpl] at hz
          · omega
        · simp [hf] at hz
      have htk : bs.take p = bs := by rw [hpl, List.take_length]
      rw [htk] at hW2
      rw [hz]
      refine el_eqi (a := 0) (b := 0) (k := .i64) true rfl rfl rfl rfl rfl ?_
      refine ep rfl ?_
      refine ew_cond_t rfl rfl ?_
      refine ew_seq ?_
      let S : Value := .string (strOf bs)
      refine ew_draw follows [.known (.pointer (some ⟨gw, 0, none⟩)), .fact (fun v w => OwnB 5 w 0 v bs), .known S, .known (.slice adb bs.length capb), .known S, .known T, .known T] []
        (fun b w => True) rfl (stable_of _ (fun f hf v w w' hk hfv => by
          simp at hf
          subst hf
          exact own_keep hfv hk (by simp))) trivial ?_ ?_
      refine ⟨pureD rfl (fun _ _ => rfl) (fun _ _ h => h), ?_⟩
      refine ⟨fun b V ρ w hk hbi hd hu hWd hV => el_call rfl rfl rfl rfl rfl rfl (wall_ok (some gw) bs w (IsW.keep0 hW2 hk)) (by rintro u w' ⟨ho, k⟩; exact el_nil ⟨_, rfl, own_lower ho (Nat.zero_le _), k, trivial⟩), ?_⟩
      refine ⟨fun b V ρ w hk hbi hd hu hWd hV => el_str rfl rfl rfl rfl rfl rfl (Rd.of_own (hV 1 (hd 1 rfl))) (el_nil ⟨_, rfl, rfl, Keep.refl _ _, trivial⟩), ?_⟩
      refine ⟨pureD rfl (fun _ _ => rfl) (fun _ _ h => h), ?_⟩
      refine ⟨fun b V ρ w hk hbi hd hu hWd hV => el_str rfl rfl rfl rfl rfl rfl (hv.keep0 (k02.trans0 hk)) (el_nil ⟨_, rfl, rfl, Keep.refl _ _, trivial⟩), ?_⟩
      refine ⟨fun b V ρ w hk hbi hd hu hWd hV => el_streq true (by simp) rfl rfl rfl rfl (el_nil ⟨_, rfl, rfl, Keep.refl _ _, trivial⟩), ?_⟩
      refine ⟨pureD rfl (fun _ _ => rfl) (fun _ _ h => h), ?_⟩
      trivial
      intro b V w9 hall k9 hWd hV
      exact ew_ret (ret_1 T rfl rfl (by exact hd) rfl ⟨rfl, k02.trans0 k9⟩)
    · refine el_eqi (b := 0) (k := .i64) false (by simpa using hz) rfl rfl rfl rfl ?_
      refine ep rfl ?_
      refine ew_cond_f rfl rfl ?_
      refine ew_skip ?_
      refine ew_seq ?_
      let S : Value := .string (strOf (bs.take p))
      let R : Value := .pointer (some ⟨gr, 0, none⟩)
      let W : Value := .pointer (some ⟨gw, 0, none⟩)
      let A : Value := .int .i64 (p : Int)
      let B : Value := .slice adb bs.length capb
      refine ew_draw follows [.known R, .known A, .known B, .known (.int .i64 (bs.length : Int)), .known T, .known T, .known W, .fact (fun v w => OwnB 5 w 0 v (bs.take p)), .known S, .known B, .known R, .known A, .known (.slice adb p capb), .known S, .known T, .known T, .known T] []
        (fun b w => True) rfl (stable_of _ (fun f hf v w w' hk hfv => by
          simp at hf
          subst hf
          exact own_keep hfv hk (by simp))) trivial ?_ ?_
      refine ⟨pureD rfl (fun _ _ => rfl) (fun _ _ h => h), ?_⟩
      refine ⟨fun b V ρ w hk hbi hd hu hWd hV => el_call rfl rfl rfl rfl rfl rfl (rat_ok gr bs p flaw w (IsR.keep0 hR2 hk)) (by rintro u w' ⟨rfl, rfl⟩; exact el_nil ⟨_, rfl, rfl, Keep.refl _ _, trivial⟩), ?_⟩
      refine ⟨pureD rfl (fun _ _ => rfl) (fun _ _ h => h), ?_⟩
      refine ⟨pureD rfl (fun _ _ => rfl) (fun _ _ h => h), ?_⟩
      refine ⟨fun b V ρ w hk hbi hd hu hWd hV => pp rfl (el_as (v' := T) (bool_eq (decide_eq_true (by omega))) (el_nil ⟨_, rfl, rfl, Keep.refl _ _, trivial⟩)), ?_⟩
      refine ⟨pureD rfl (fun _ _ => rfl) (fun _ _ h => h), ?_⟩
      refine ⟨pureD rfl (fun _ _ => rfl) (fun _ _ h => h), ?_⟩
      refine ⟨fun b V ρ w hk hbi hd hu hWd hV => el_call rfl rfl rfl rfl rfl rfl (wall_ok (some gw) (bs.take p) w (IsW.keep0 hW2 hk)) (by rintro u w' ⟨ho, k⟩; exact el_nil ⟨_, rfl, own_lower ho (Nat.zero_le _), k, trivial⟩), ?_⟩
      refine ⟨fun b V ρ w hk hbi hd hu hWd hV => el_str rfl rfl rfl rfl rfl rfl (Rd.of_own (hV 7 (hd 7 rfl))) (el_nil ⟨_, rfl, rfl, Keep.refl _ _, trivial⟩), ?_⟩
      refine ⟨pureD rfl (fun _ _ => rfl) (fun _ _ h => h), ?_⟩
      refine ⟨pureD rfl (fun _ _ => rfl) (fun _ _ h => h), ?_⟩
      refine ⟨fun b V ρ w hk hbi hd hu hWd hV => el_call rfl rfl rfl rfl rfl rfl (rat_ok gr bs p flaw w (IsR.keep0 hR2 hk)) (by rintro u w' ⟨rfl, rfl⟩; exact el_nil ⟨_, rfl, rfl, Keep.refl _ _, trivial⟩), ?_⟩
      refine ⟨fun b V ρ w hk hbi hd hu hWd hV => el_slice_to (e := 5) (m := p) rfl rfl rfl rfl rfl rfl rfl (by omega) (el_nil ⟨_, rfl, rfl, Keep.refl _ _, trivial⟩), ?_⟩
      refine ⟨?_, ?_⟩
      · intro b V ρ w hk hbi hd hu hWd hV
        have ht := (hv.keep0 (k02.trans0 hk)).take (m := p) (by omega)
        have e1 : (bytesV bs).take p = bytesV (bs.take p) := by simp [bytesV]
        have e2 : (bs.take p).length = p := by simp; omega
        have ht2 : RdB w (.slice adb p capb) (bs.take p) := by
          show Rd _ _ _ _
          rw [e2, ← e1]
          exact ht
        exact el_str rfl rfl rfl rfl rfl rfl ht2 (el_nil ⟨_, rfl, rfl, Keep.refl _ _, trivial⟩)
      refine ⟨fun b V ρ w hk hbi hd hu hWd hV => el_streq true (by simp) rfl rfl rfl rfl (el_nil ⟨_, rfl, rfl, Keep.refl _ _, trivial⟩), ?_⟩
      refine ⟨pureD rfl (fun _ _ => rfl) (fun _ _ h => h), ?_⟩
      refine ⟨pureD rfl (fun _ _ => rfl) (fun _ _ h => h), ?_⟩
      trivial
      intro b V w9 hall k9 hWd hV
      exact ew_ret (ret_1 T rfl rfl (by exact hd) rfl ⟨rfl, k02.trans0 k9⟩)
end Go.Proofs.Ytfbpobhbkadblaa
