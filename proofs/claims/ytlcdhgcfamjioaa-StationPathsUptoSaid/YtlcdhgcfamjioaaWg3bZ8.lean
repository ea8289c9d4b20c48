/- Walk: slices.Repeat of one number. -/
import Derived.Test.YtlcdhgcfamjioaaWg2Z8
namespace Go.Am.Try
open Go Go.Am Go.Proofs
set_option linter.unusedVariables false
set_option linter.unusedSimpArgs false
def rep (a : Int) (j m : Nat) : List Value := List.replicate j (.int .i64 a) ++ List.replicate (m - j) (.int .i64 0)
theorem flat_rep (v : Value) (m : Nat) : (List.replicate m [v]).flatten = List.replicate m v := by
  induction m with
  | zero => rfl
  | succ m ih => rw [List.replicate_succ, List.flatten_cons, ih]; rfl
theorem rep_len {a : Int} {j m : Nat} (h : j ≤ m) : (rep a j m).length = m := by simp [rep]; omega
theorem rep_full {a : Int} {j m : Nat} (h : j = m) : rep a j m = List.replicate m (.int .i64 a) := by subst h; simp [rep]
theorem zcells_int (n : Nat) : zcells (Value.int .i64 0).cells n = List.replicate n (.int .i64 0) := by simp [zcells, Value.cells]
theorem zcells_len (n : Nat) : (zcells (Value.int .i64 0).cells n).length = n := by simp [zcells_int]
theorem rep_first {a : Int} {m : Nat} {cs : List Value} (hc : cs.take 1 = [.int .i64 a]) (h : 0 < m) : splice (zcells (Value.int .i64 0).cells (m * 1)) 0 (cs.take (min m 1 * 1)) = rep a 1 m := by
  have h1 : min m 1 = 1 := by omega
  rw [h1, Nat.mul_one, hc, zcells_int]
  simp [splice, rep]
theorem rep_step {a : Int} {j m : Nat} (h0 : 0 < j) (h : j < m) : splice (rep a j m) (0 + j * 1) (((rep a j m).drop 0).take (min (m - j) j * 1)) = rep a (j + min j (m - j)) m := by
  have hc : min (m - j) j = min j (m - j) := Nat.min_comm _ _
  rw [hc, Nat.mul_one, Nat.mul_one, Nat.zero_add, List.drop_zero]
  generalize hq : min j (m - j) = q
  have hq1 : q ≤ j := by omega
  have hq2 : q ≤ m - j := by omega
  unfold splice rep
  rw [List.take_append_of_le_length (by simp), List.take_append_of_le_length (by simpa using hq1), List.drop_append, List.take_replicate, List.take_replicate, List.drop_replicate, List.drop_replicate]
  simp only [List.length_replicate]
  rw [show min j j = j by omega, show min q j = q by omega, show j - (j + q) = 0 by omega, show m - j - (j + q - j) = m - (j + q) by omega]
  simp [List.replicate_append_replicate, ← List.append_assoc]
theorem ok_one {a : Int} {q : Nat} {cs : List Value} (hc : cs.take 1 = [.int .i64 a]) (h : q = 1) : okCells (cs.take (q * 1)) = true := by subst h; rw [Nat.mul_one, hc]; rfl
theorem sl1 {H : AH} {b off cap : Nat} {tg : Option Nat} {k : ABlk} {a : Int} (hb : H.get b = some k) (hl : off + 1 ≤ k.cells.length) (hc : (k.cells.drop off).take 1 = [.int .i64 a]) : Sl H 1 (.slice (some ⟨b, off, tg⟩) 1 cap) [[.int .i64 a]] := ⟨by simp, .inr (.inl ⟨b, off, tg, cap, k, rfl, hb, by simpa using hl, by simpa using hc⟩)⟩
theorem ok_rep (a : Int) (j m q : Nat) : okCells (((rep a j m).drop 0).take q) = true := by
  unfold okCells
  rw [List.all_eq_true]
  intro x hx
  have hx := List.mem_of_mem_take hx
  rw [List.drop_zero, rep, List.mem_append] at hx
  rcases hx with hx | hx <;> (rw [(List.mem_replicate.1 hx).2]; rfl)
theorem wrap_u64 {m : Nat} (h : m ≤ 24) : IntKind.wrap .u64 (m : Int) = m := by
  simp [IntKind.wrap, IntKind.bits, IntKind.signed]; omega
theorem wrap_i64 {m : Nat} (h : m ≤ 24) : IntKind.wrap .i64 (m : Int) = m := by
  simp [IntKind.wrap, IntKind.bits, IntKind.signed]; omega
theorem mul24x {m : Nat} (h : m ≤ 24) (A : AH) : ∃ v H', ACalls Try.prog 126 [.int .u64 1, .int .u64 (m : Int)] A v H' ∧ v = .tuple #[.int .u64 0, .int .u64 (m : Int)] ∧ Ext A H' := ⟨_, A, mul24 m h A, rfl, .refl A⟩

theorem f97_pos (H : AH) (a : Int) (m b off cap : Nat) (tg : Option Nat) (k : ABlk) (hm : m ≤ 24) (h0 : 0 < m) (hb : H.get b = some k) (hl : off + 1 ≤ k.cells.length) (hc : (k.cells.drop off).take 1 = [.int .i64 a]) : ∃ v H', ACalls Try.prog 97 [.slice (some ⟨b, off, tg⟩) 1 cap, .int .i64 (m : Int)] H v H' ∧ (fun v H' => (∃ b', v = .slice (some ⟨b', 0, some 0⟩) m m ∧ H.next ≤ b' ∧ H'.get b' = some ⟨List.replicate m (.int .i64 a), 3, 1, true⟩) ∧ Ext H H') v H' := by
  refine calls_of_AW (n := 48) (fn := Try.f97) (by kernel_rfl) rfl rfl ?_
  refine .seq ?_
  refine .region ?_
  refine W.pure (v := _) rfl rfl (v_assign (oo rfl rfl)) ?_
  refine .nil ?_
  refine .seq ?_
  refine .seq ?_
  refine .region ?_
  refine W.pure (v := .int _ _) rfl rfl (v_move (oo rfl rfl)) ?_
  refine W.pure rfl rfl (v_int (oo rfl rfl) (oo rfl rfl) rfl) ?_
  refine .nil ?_
  refine .condF rfl (congrArg Value.bool (decide_eq_false (by omega))) ?_
  refine .skip ?_
  refine .seq ?_
  refine .region ?_
  refine W.pure (v := .slice (some ⟨b, off, tg⟩) 1 cap) rfl rfl (v_move (oo rfl rfl)) ?_
  refine W.pure rfl rfl (len_sl (oo rfl rfl) (Sl.isSl (sl1 ((Ext.refl _).2 _ _ hb) hl hc)) (elemT_inv el24)) ?_
  refine W.pure (v := .int .u64 1) rfl rfl (v_conv' in3 in163 (oo rfl rfl) (by rfl)) ?_
  refine W.pure (v := .int _ _) rfl rfl (v_move (oo rfl rfl)) ?_
  refine W.pure (v := .int .u64 (m : Int)) rfl rfl (v_conv' in3 in163 (oo rfl rfl) (wrap_u64 (by omega))) ?_
  obtain ⟨_, H1, c2, rfl, x4⟩ := (mul24x (m := m) hm H)
  refine W.call rfl rfl (fn := Try.f126) (by kernel_rfl) rfl rfl c2 ?_
  have e5 := Ext.trans (Ext.refl _) x4
  refine W.pure (v := _) rfl rfl (v_move (oo rfl rfl)) ?_
  refine W.pure rfl rfl (v_extract (oo rfl rfl) rfl) ?_
  refine W.pure rfl rfl (v_extract (oo rfl rfl) rfl) ?_
  refine W.pure (v := .int _ _) rfl rfl (v_assign (oo rfl rfl)) ?_
  refine W.pure (v := .int _ _) rfl rfl (v_assign (oo rfl rfl)) ?_
  refine .nil ?_
  refine .seq ?_
  refine .seq ?_
  refine .region ?_
  refine W.pure (v := .int _ _) rfl rfl (v_move (oo rfl rfl)) ?_
  refine W.pure rfl rfl (v_int (oo rfl rfl) (oo rfl rfl) rfl) ?_
  refine W.pure (v := .bool _) rfl rfl (v_move (oo rfl rfl)) ?_
  refine W.pure (v := .int _ _) (gk rfl rfl (congrArg Value.bool (decide_eq_false (by decide))) rfl) rfl (v_move (oo rfl rfl)) ?_
  refine W.pure (gk rfl rfl (congrArg Value.bool (decide_eq_false (by decide))) rfl) rfl (v_int (oo rfl rfl) (oo rfl rfl) rfl) ?_
  refine W.pure (v := .bool _) rfl rfl (v_pickF (oo rfl (congrArg Value.bool (decide_eq_false (by decide)))) (oo rfl rfl)) ?_
  refine .nil ?_
  refine .condF rfl (congrArg Value.bool (decide_eq_false (by omega))) ?_
  refine .skip ?_
  refine .seq ?_
  refine .region ?_
  refine W.pure (v := .int _ _) rfl rfl (v_move (oo rfl rfl)) ?_
  refine W.pure (v := .int .i64 (m : Int)) rfl rfl (v_conv' in163 in3 (oo rfl rfl) (wrap_i64 (by omega))) ?_
  refine W.makeSlice (N := m) rfl rfl el24 ze3 sz3 (by kernel_rfl) by3 rfl rfl (by omega) (by decide) fun b6 H7 nb8 => ?_
  have fr9 := Nat.le_trans (e5).1 nb8.fresh
  have e10 := Ext.trans e5 nb8.ext
  have k11 := nb8.get
  refine W.pure (v := .slice (some ⟨b6, 0, some 0⟩) m m) rfl rfl (v_assign (oo rfl rfl)) ?_
  refine .nil ?_
  refine .seq ?_
  refine .region ?_
  refine W.pure (v := .slice (some ⟨b6, 0, some 0⟩) m m) rfl rfl (v_move (oo rfl rfl)) ?_
  refine W.pure (v := .slice (some ⟨b, off, tg⟩) 1 cap) rfl rfl (v_move (oo rfl rfl)) ?_
  refine W.copy rfl rfl el24 sz3 rfl rfl k11 (e10.2 _ _ hb) rfl (by omega) (by decide) (by omega) (by simp [zcells_len]; omega) (ok_one hc (by omega)) fun H12 sb13 => ?_
  have e15 := sb13.ext e10 fr9
  have k16 := sb13.get
  refine W.pure (v := .int _ _) rfl rfl (v_assign (oo rfl rfl)) ?_
  refine .nil ?_
  refine .seq ?_
  refine .block ?_
  refine AW.loop (α := Nat) (fun j σ' H' => (Ext H H') ∧ (σ' 8 = .int .i64 (j : Nat)) ∧ (H'.get b6 = some ((⟨rep a j m, 3, 1, true⟩ : ABlk))) ∧ (0 < j) ∧ (j ≤ m)) (fun j => m - j) 1 ⟨e15, (congrArg (fun q : Nat => Value.int .i64 (q : Int)) (show min 1 m = 1 by omega)), (k16.trans (congrArg (fun c => some (⟨c, 3, 1, true⟩ : ABlk)) (rep_first hc h0))), (by decide), (by omega)⟩ ?_
  rintro j σ20 H21 fr22 ⟨e17, t8_18, k19, h1, hj⟩
  have h7_23 : σ20 7 = .slice (some ⟨b6, 0, some 0⟩) m m := (fr22 7 rfl).trans rfl
  refine .seq ?_
  refine .seq ?_
  refine .region ?_
  refine W.pure (v := .int _ _) rfl rfl (v_move (oo rfl t8_18)) ?_
  refine W.pure (v := .slice (some ⟨b6, 0, some 0⟩) m m) rfl rfl (v_move (oo rfl h7_23)) ?_
  refine W.pure rfl rfl (len_sl (oo rfl rfl) (Or.inr ⟨_, _, _, _, rfl⟩) (elemT_inv el24)) ?_
  refine W.pure rfl rfl (v_int (oo rfl rfl) (oo rfl rfl) rfl) ?_
  refine .nil ?_
  refine .cond rfl rfl (fun g24 => ?_) (fun g24 => ?_)
  · try simp only [decide_eq_true_eq, decide_eq_false_iff_not, beq_iff_eq, bne_iff_ne, beq_eq_false_iff_ne, bne_eq_false_iff_eq, List.length_map, gt_iff_lt, ge_iff_le, Int.not_lt, Int.not_le] at g24
    have hlt : j < m := by omega
    refine .skip ?_
    refine .block ?_
    refine .draw (M := [0, 0, 0, 6, 0, 0, 48, 126, 255, 511]) mixed (by kernel_rfl) (by kernel_rfl) fun H25 x26 => ?_
    have e27 := Ext.trans e17 x26
    have k28 := (x26).2 _ _ k19
    refine D.pure (v := .int _ _) rfl rfl (v_move (oo rfl t8_18)) ?_
    refine D.pure (v := .slice (some ⟨b6, 0, some 0⟩) m m) rfl rfl (v_move (oo rfl h7_23)) ?_
    refine D.pure (v := .int _ _) rfl rfl (v_move (oo rfl t8_18)) ?_
    refine D.pure rfl rfl (v_sliceLo (j := j) el24 sz3 (oo rfl rfl) (oo rfl rfl) (by omega) (Nat.le_refl _) (.inr rfl)) ?_
    refine D.pure (v := .slice (some ⟨b6, 0, some 0⟩) m m) rfl rfl (v_move (oo rfl h7_23)) ?_
    refine D.pure (v := .int _ _) rfl rfl (v_move (oo rfl t8_18)) ?_
    refine D.pure rfl rfl (v_sliceHi (j := j) el24 sz3 (oo rfl rfl) (oo rfl rfl) (by omega) (Nat.le_refl _) (.inr rfl)) ?_
    refine D.copy rfl rfl el24 sz3 rfl rfl k28 k28 rfl (by omega) (by decide) (by simp only [rep_len hj]; omega) (by simp only [rep_len hj]; omega) (ok_rep a j m _) RS.nil fa_nil fa_nil fun H29 sb30 rs31 => ?_
    have e32 := sb30.ext e27 fr9
    have k33 := sb30.get
    refine D.pure rfl rfl (v_add (oo rfl rfl) (oo rfl rfl) (by omega) (by omega)) ?_
    refine D.pure (v := .int _ _) rfl rfl (v_assign (oo rfl rfl)) ?_
    refine .nil ?_
    refine ⟨j + min j (m - j), by dsimp only; omega, e32, (congrArg (Value.int .i64) (Int.natCast_add j (min j (m - j))).symm), (k33.trans (congrArg (fun c => some (⟨c, 3, 1, true⟩ : ABlk)) (rep_step h1 hlt))), (by omega), (by omega)⟩
  · try simp only [decide_eq_true_eq, decide_eq_false_iff_not, beq_iff_eq, bne_iff_ne, beq_eq_false_iff_ne, bne_eq_false_iff_eq, List.length_map, gt_iff_lt, ge_iff_le, Int.not_lt, Int.not_le] at g24
    refine .exit ?_
    refine .seq ?_
    refine .region ?_
    refine W.pure (v := .slice (some ⟨b6, 0, some 0⟩) m m) rfl rfl (v_move (oo rfl h7_23)) ?_
    refine W.pure (v := .slice (some ⟨b6, 0, some 0⟩) m m) rfl rfl (v_assign (oo rfl rfl)) ?_
    refine .nil ?_
    refine .ret ?_
    refine ret1V (P := Try.prog) (fn := Try.f97) (n := 48) (R := fun v H' => (∃ b', v = .slice (some ⟨b', 0, some 0⟩) m m ∧ H.next ≤ b' ∧ H'.get b' = some ⟨List.replicate m (.int .i64 a), 3, 1, true⟩) ∧ Ext H H') (v := .slice (some ⟨b6, 0, some 0⟩) m m) (by rfl) (by rfl) (by exact rfl) ?_
    -- leaf 1
    exact ⟨⟨_, rfl, by omega, by rw [k19, rep_full (by omega)]⟩, e17⟩

theorem f97_zero (H : AH) (a : Int) (m b off cap : Nat) (tg : Option Nat) (k : ABlk) (hm : m ≤ 24) (h0 : m = 0) (hb : H.get b = some k) (hl : off + 1 ≤ k.cells.length) (hc : (k.cells.drop off).take 1 = [.int .i64 a]) : ∃ v H', ACalls Try.prog 97 [.slice (some ⟨b, off, tg⟩) 1 cap, .int .i64 (m : Int)] H v H' ∧ (fun v H' => (∃ b', v = .slice (some ⟨b', 0, some 0⟩) m m ∧ H.next ≤ b' ∧ H'.get b' = some ⟨List.replicate m (.int .i64 a), 3, 1, true⟩) ∧ Ext H H') v H' := by
  refine calls_of_AW (n := 48) (fn := Try.f97) (by kernel_rfl) rfl rfl ?_
  refine .seq ?_
  refine .region ?_
  refine W.pure (v := _) rfl rfl (v_assign (oo rfl rfl)) ?_
  refine .nil ?_
  refine .seq ?_
  refine .seq ?_
  refine .region ?_
  refine W.pure (v := .int _ _) rfl rfl (v_move (oo rfl rfl)) ?_
  refine W.pure rfl rfl (v_int (oo rfl rfl) (oo rfl rfl) rfl) ?_
  refine .nil ?_
  refine .condF rfl (congrArg Value.bool (decide_eq_false (by omega))) ?_
  refine .skip ?_
  refine .seq ?_
  refine .region ?_
  refine W.pure (v := .slice (some ⟨b, off, tg⟩) 1 cap) rfl rfl (v_move (oo rfl rfl)) ?_
  refine W.pure rfl rfl (len_sl (oo rfl rfl) (Sl.isSl (sl1 ((Ext.refl _).2 _ _ hb) hl hc)) (elemT_inv el24)) ?_
  refine W.pure (v := .int .u64 1) rfl rfl (v_conv' in3 in163 (oo rfl rfl) (by rfl)) ?_
  refine W.pure (v := .int _ _) rfl rfl (v_move (oo rfl rfl)) ?_
  refine W.pure (v := .int .u64 (m : Int)) rfl rfl (v_conv' in3 in163 (oo rfl rfl) (wrap_u64 (by omega))) ?_
  obtain ⟨_, H1, c2, rfl, x4⟩ := (mul24x (m := m) hm H)
  refine W.call rfl rfl (fn := Try.f126) (by kernel_rfl) rfl rfl c2 ?_
  have e5 := Ext.trans (Ext.refl _) x4
  refine W.pure (v := _) rfl rfl (v_move (oo rfl rfl)) ?_
  refine W.pure rfl rfl (v_extract (oo rfl rfl) rfl) ?_
  refine W.pure rfl rfl (v_extract (oo rfl rfl) rfl) ?_
  refine W.pure (v := .int _ _) rfl rfl (v_assign (oo rfl rfl)) ?_
  refine W.pure (v := .int _ _) rfl rfl (v_assign (oo rfl rfl)) ?_
  refine .nil ?_
  refine .seq ?_
  refine .seq ?_
  refine .region ?_
  refine W.pure (v := .int _ _) rfl rfl (v_move (oo rfl rfl)) ?_
  refine W.pure rfl rfl (v_int (oo rfl rfl) (oo rfl rfl) rfl) ?_
  refine W.pure (v := .bool _) rfl rfl (v_move (oo rfl rfl)) ?_
  refine W.pure (v := .int _ _) (gk rfl rfl (congrArg Value.bool (decide_eq_false (by decide))) rfl) rfl (v_move (oo rfl rfl)) ?_
  refine W.pure (gk rfl rfl (congrArg Value.bool (decide_eq_false (by decide))) rfl) rfl (v_int (oo rfl rfl) (oo rfl rfl) rfl) ?_
  refine W.pure (v := .bool _) rfl rfl (v_pickF (oo rfl (congrArg Value.bool (decide_eq_false (by decide)))) (oo rfl rfl)) ?_
  refine .nil ?_
  refine .condF rfl (congrArg Value.bool (decide_eq_false (by omega))) ?_
  refine .skip ?_
  refine .seq ?_
  refine .region ?_
  refine W.pure (v := .int _ _) rfl rfl (v_move (oo rfl rfl)) ?_
  refine W.pure (v := .int .i64 (m : Int)) rfl rfl (v_conv' in163 in3 (oo rfl rfl) (wrap_i64 (by omega))) ?_
  refine W.makeSlice (N := m) rfl rfl el24 ze3 sz3 (by kernel_rfl) by3 rfl rfl (by omega) (by decide) fun b6 H7 nb8 => ?_
  have fr9 := Nat.le_trans (e5).1 nb8.fresh
  have e10 := Ext.trans e5 nb8.ext
  have k11 := nb8.get
  refine W.pure (v := .slice (some ⟨b6, 0, some 0⟩) m m) rfl rfl (v_assign (oo rfl rfl)) ?_
  refine .nil ?_
  refine .seq ?_
  refine .region ?_
  refine W.pure (v := .slice (some ⟨b6, 0, some 0⟩) m m) rfl rfl (v_move (oo rfl rfl)) ?_
  refine W.pure (v := .slice (some ⟨b, off, tg⟩) 1 cap) rfl rfl (v_move (oo rfl rfl)) ?_
  refine W.copy0 (n2 := 1) rfl rfl el24 sz3 rfl (Sl.isSl (sl1 (e10.2 _ _ hb) hl hc)) (by omega) ?_
  refine W.pure (v := .int _ _) rfl rfl (v_assign (oo rfl rfl)) ?_
  refine .nil ?_
  refine .seq ?_
  refine .block ?_
  refine AW.loop (α := Nat) (fun j σ' H' => (Ext H H') ∧ (σ' 8 = .int .i64 0) ∧ (H'.get b6 = some ((⟨[], 3, 1, true⟩ : ABlk)))) (fun j => m - j) 0 ⟨e10, rfl, (k11.trans (congrArg (fun c => some (⟨c, 3, 1, true⟩ : ABlk)) (by subst h0; rfl)))⟩ ?_
  rintro j σ15 H16 fr17 ⟨e12, t8_13, k14⟩
  have h7_18 : σ15 7 = .slice (some ⟨b6, 0, some 0⟩) m m := (fr17 7 rfl).trans rfl
  refine .seq ?_
  refine .seq ?_
  refine .region ?_
  refine W.pure (v := .int _ _) rfl rfl (v_move (oo rfl t8_13)) ?_
  refine W.pure (v := .slice (some ⟨b6, 0, some 0⟩) m m) rfl rfl (v_move (oo rfl h7_18)) ?_
  refine W.pure rfl rfl (len_sl (oo rfl rfl) (Or.inr ⟨_, _, _, _, rfl⟩) (elemT_inv el24)) ?_
  refine W.pure rfl rfl (v_int (oo rfl rfl) (oo rfl rfl) rfl) ?_
  refine .nil ?_
  refine .condF rfl (congrArg Value.bool (decide_eq_false (by omega))) ?_
  refine .exit ?_
  refine .seq ?_
  refine .region ?_
  refine W.pure (v := .slice (some ⟨b6, 0, some 0⟩) m m) rfl rfl (v_move (oo rfl h7_18)) ?_
  refine W.pure (v := .slice (some ⟨b6, 0, some 0⟩) m m) rfl rfl (v_assign (oo rfl rfl)) ?_
  refine .nil ?_
  refine .ret ?_
  refine ret1V (P := Try.prog) (fn := Try.f97) (n := 48) (R := fun v H' => (∃ b', v = .slice (some ⟨b', 0, some 0⟩) m m ∧ H.next ≤ b' ∧ H'.get b' = some ⟨List.replicate m (.int .i64 a), 3, 1, true⟩) ∧ Ext H H') (v := .slice (some ⟨b6, 0, some 0⟩) m m) (by rfl) (by rfl) (by exact rfl) ?_
  -- leaf 1
  exact ⟨⟨_, rfl, by omega, by rw [k14]; subst h0; rfl⟩, e12⟩

theorem f97_ok (H : AH) (a : Int) (m b off cap : Nat) (tg : Option Nat) (k : ABlk) (hm : m ≤ 24) (hb : H.get b = some k) (hl : off + 1 ≤ k.cells.length) (hc : (k.cells.drop off).take 1 = [.int .i64 a]) : ∃ v H', ACalls Try.prog 97 [.slice (some ⟨b, off, tg⟩) 1 cap, .int .i64 (m : Int)] H v H' ∧ (fun v H' => (∃ b', v = .slice (some ⟨b', 0, some 0⟩) m m ∧ H.next ≤ b' ∧ H'.get b' = some ⟨List.replicate m (.int .i64 a), 3, 1, true⟩) ∧ Ext H H') v H' := by
  rcases Nat.eq_zero_or_pos m with h0 | h0
  · exact f97_zero H a m b off cap tg k hm h0 hb hl hc
  · exact f97_pos H a m b off cap tg k hm h0 hb hl hc
/-- slices.Repeat of one number, as a typed function. -/
def g_slices_Repeat_int (K : Nat) (p0 : List Int) (p1 : Int) : Option (List Int) := match p0 with
  | [a] => if 0 ≤ p1 ∧ p1 ≤ 24 then some (List.replicate p1.toNat a) else none
  | _ => none
theorem g_slices_Repeat_int_ok (K : Nat) {G : GM} {H : AH} {L : List Pc} (v0 : Value) (p0 : List Int) (hp0 : (rSl (rI .i64)).rep G [v0] p0) (p1 : Int) (O : Ow G H L) (r : List Int) (h : g_slices_Repeat_int K p0 p1 = some r) :
    CRF Try.prog 97 [v0, (.int .i64 p1)] G H (fun w => (eSl w 3 (rI .i64) r :: L)) (fun w v G' => w = v) := by
  unfold g_slices_Repeat_int at h
  split at h
  · rename_i a
    obtain ⟨⟨h0, h1⟩, h⟩ := gd_inv h
    cases h
    obtain ⟨v', es, hv, h2, h3⟩ := hp0
    cases hv
    cases h3 with
    | cons h4 h5 =>
      cases h5
      rename_i c
      have hc : c = [.int .i64 a] := h4
      subst hc
      obtain ⟨m, rfl⟩ : ∃ m : Nat, p1 = (m : Int) := ⟨p1.toNat, by omega⟩
      obtain ⟨_, ⟨rfl, h6⟩ | ⟨b, off, tg, cap, k, rfl, h6, h7, h8, _⟩ | ⟨_, _, _, _, _, h6, _⟩⟩ := h2
      · cases h6
      · have h8' : (k.cells.drop off).take 1 = [.int .i64 a] := h8
        obtain ⟨v, H', e1, ⟨b', rfl, e2, e3⟩, e4⟩ := f97_ok H a m b off cap tg k (by omega) (O.fro b k h6) h7 h8'
        have nb : NewB H H' b' ⟨List.replicate m (.int .i64 a), 3, 1, true⟩ := ⟨e4, e3, e2, lt_next e3⟩
        refine ⟨_, _, H', G, e1, O.new nb _ rfl ⟨List.replicate m [.int .i64 a], .inr ⟨b', some 0, m, [], 1, by simp, ?_, ?_, by simp, .inr rfl⟩, All2.replicate (R := (rI .i64).rep G) (a := [.int .i64 a]) rfl m⟩, GM.le.refl _, rfl⟩
        · rw [e3]; simp [flat_rep]
        · show _ = m * 1; simp [flat_rep]
      · cases h6
  · cases h

end Go.Am.Try
