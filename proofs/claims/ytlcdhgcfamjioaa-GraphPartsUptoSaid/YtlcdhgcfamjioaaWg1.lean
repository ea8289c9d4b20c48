/- Walks: graph.Check, slices.Equal. -/
import Derived.Test.YtlcdhgcfamjioaaFacts
namespace Go.Am.Try
open Go Go.Am Go.Proofs
set_option linter.unusedVariables false
set_option linter.unusedSimpArgs false
def pr (p : Int × Int) : List Value := [.int .i64 p.1, .int .i64 p.2]
def ok13 (n : Int) (p : Int × Int) : Bool := decide (0 ≤ p.1 ∧ p.1 < n ∧ 0 ≤ p.2 ∧ p.2 < n)
def checkS (n : Int) (l : List (Int × Int)) : Int := if n < 0 ∨ n > 24 ∨ l.length > 64 then 2 else if l.all (ok13 n) then 0 else 4
theorem checkS_2 {n : Int} {l : List (Int × Int)} (h : n < 0 ∨ n > 24 ∨ l.length > 64) : checkS n l = 2 := by simp [checkS, h]
theorem checkS_bad {n : Int} {l : List (Int × Int)} {i : Nat} (h : ¬ (n < 0 ∨ n > 24 ∨ l.length > 64)) (hi : i < l.length) (hb : ok13 n (l.getD i (0, 0)) = false) : checkS n l = 4 := by
  have hn : l.all (ok13 n) = false := by
    rw [List.all_eq_false]
    exact ⟨l[i], List.getElem_mem hi, by simpa [List.getD_eq_getElem?_getD, hi] using hb⟩
  simp [checkS, h, hn]
theorem checkS_0 {n : Int} {l : List (Int × Int)} (h : ¬ (n < 0 ∨ n > 24 ∨ l.length > 64)) (hp : ∀ j < l.length, ok13 n (l.getD j (0, 0)) = true) : checkS n l = 0 := by
  have hn : l.all (ok13 n) = true := by
    rw [List.all_eq_true]
    intro x hx
    obtain ⟨i, hi, rfl⟩ := List.mem_iff_getElem.1 hx
    simpa [List.getD_eq_getElem?_getD, hi] using hp i hi
  simp [checkS, h, hn]
theorem ok13_step {n : Int} {l : List (Int × Int)} {i : Nat} (hp : ∀ j < i, ok13 n (l.getD j (0, 0)) = true) (h : ok13 n (l.getD i (0, 0)) = true) : ∀ j < i + 1, ok13 n (l.getD j (0, 0)) = true := by
  intro j hj
  rcases Nat.lt_succ_iff_lt_or_eq.1 hj with h' | rfl
  · exact hp j h'
  · exact h
theorem getD_step {xs ys : List Int} {i : Nat} (hp : ∀ j < i, xs.getD j 0 = ys.getD j 0) (h : xs.getD i 0 = ys.getD i 0) : ∀ j < i + 1, xs.getD j 0 = ys.getD j 0 := by
  intro j hj
  rcases Nat.lt_succ_iff_lt_or_eq.1 hj with h' | rfl
  · exact hp j h'
  · exact h
theorem neq_len {xs ys : List Int} (h : xs.length ≠ ys.length) : decide (xs = ys) = false := by
  simp; intro e; exact h (by rw [e])
theorem neq_at {xs ys : List Int} {i : Nat} (h1 : i < xs.length) (h2 : i < ys.length) (h : xs.getD i 0 ≠ ys.getD i 0) : decide (xs = ys) = false := by
  simp; intro e; exact h (by rw [e])
theorem eq_all {xs ys : List Int} (hl : xs.length = ys.length) (h : ∀ j < xs.length, xs.getD j 0 = ys.getD j 0) : decide (xs = ys) = true := by
  simp
  apply List.ext_getElem hl
  intro i h1 h2
  have := h i h1
  simpa [List.getD_eq_getElem?_getD, h1, h2] using this

theorem f13_ok (H : AH) (n : Int) (lv : Value) (l : List (Int × Int)) (hl : Sl H 2 lv (l.map pr)) (hlen : l.length ≤ 1048576) : ∃ v H', ACalls Try.prog 13 [.int .i64 n, lv] H v H' ∧ (fun v H' => v = .int .i64 (checkS n l) ∧ Ext H H') v H' := by
  have he : ∀ i, i < l.length → (l.map pr)[i]? = some [.int .i64 (l.getD i (0,0)).1, .int .i64 (l.getD i (0,0)).2] := by
    intro i hi
    simp [hi, pr, List.getD_eq_getElem?_getD]
  refine calls_of_AW (n := 45) (fn := Try.f13) (by kernel_rfl) rfl rfl ?_
  refine .seq ?_
  refine .region ?_
  refine W.pure (v := .int _ _) rfl rfl (v_assign (oo rfl rfl)) ?_
  refine .nil ?_
  refine .seq ?_
  refine .seq ?_
  refine .region ?_
  refine W.pure (v := .int _ _) rfl rfl (v_move (oo rfl rfl)) ?_
  refine W.pure rfl rfl (v_int (oo rfl rfl) (oo rfl rfl) rfl) ?_
  refine W.pure (v := .bool _) rfl rfl (v_move (oo rfl rfl)) ?_
  refine W.splitAt (t := 9) rfl (fun g1 gv2 => ?_) (fun g1 gv2 => ?_)
  · try simp only [decide_eq_true_eq, decide_eq_false_iff_not, beq_iff_eq, bne_iff_ne, beq_eq_false_iff_ne, bne_eq_false_iff_eq, List.length_map, gt_iff_lt, ge_iff_le, Int.not_lt, Int.not_le] at g1
    refine W.skip (gk rfl rfl gv2 rfl) rfl ?_
    refine W.skip (gk rfl rfl gv2 rfl) rfl ?_
    refine W.pure (v := .bool _) rfl rfl (v_pickT (oo rfl gv2) (oo rfl rfl)) ?_
    refine W.pure (v := .bool _) rfl rfl (v_move (oo rfl rfl)) ?_
    refine W.skip (gk rfl rfl rfl rfl) rfl ?_
    refine W.skip (gk rfl rfl rfl rfl) rfl ?_
    refine W.skip (gk rfl rfl rfl rfl) rfl ?_
    refine W.pure (v := .bool _) rfl rfl (v_pickT (oo rfl rfl) (oo rfl rfl)) ?_
    refine .nil ?_
    refine .condT rfl rfl ?_
    refine .seq ?_
    refine .region ?_
    refine W.pure (v := .int _ _) rfl rfl (v_assign (oo rfl rfl)) ?_
    refine .nil ?_
    refine .ret ?_
    refine ret1V (P := Try.prog) (fn := Try.f13) (n := 45) (R := fun v H' => v = .int .i64 (checkS n l) ∧ Ext H H') (v := .int _ _) (by rfl) (by rfl) (by exact rfl) ?_
    -- leaf 1
    exact ⟨by rw [checkS_2 (by omega)], (Ext.refl _)⟩
  · try simp only [decide_eq_true_eq, decide_eq_false_iff_not, beq_iff_eq, bne_iff_ne, beq_eq_false_iff_ne, bne_eq_false_iff_eq, List.length_map, gt_iff_lt, ge_iff_le, Int.not_lt, Int.not_le] at g1
    refine W.pure (v := .int _ _) (gk rfl rfl gv2 rfl) rfl (v_move (oo rfl rfl)) ?_
    refine W.pure (gk rfl rfl gv2 rfl) rfl (v_int (oo rfl rfl) (oo rfl rfl) rfl) ?_
    refine W.pure (v := .bool _) rfl rfl (v_pickF (oo rfl gv2) (oo rfl rfl)) ?_
    refine W.pure (v := .bool _) rfl rfl (v_move (oo rfl rfl)) ?_
    refine W.splitAt (t := 13) rfl (fun g3 gv4 => ?_) (fun g3 gv4 => ?_)
    · try simp only [decide_eq_true_eq, decide_eq_false_iff_not, beq_iff_eq, bne_iff_ne, beq_eq_false_iff_ne, bne_eq_false_iff_eq, List.length_map, gt_iff_lt, ge_iff_le, Int.not_lt, Int.not_le] at g3
      refine W.skip (gk rfl rfl gv4 rfl) rfl ?_
      refine W.skip (gk rfl rfl gv4 rfl) rfl ?_
      refine W.skip (gk rfl rfl gv4 rfl) rfl ?_
      refine W.pure (v := .bool _) rfl rfl (v_pickT (oo rfl gv4) (oo rfl rfl)) ?_
      refine .nil ?_
      refine .condT rfl rfl ?_
      refine .seq ?_
      refine .region ?_
      refine W.pure (v := .int _ _) rfl rfl (v_assign (oo rfl rfl)) ?_
      refine .nil ?_
      refine .ret ?_
      refine ret1V (P := Try.prog) (fn := Try.f13) (n := 45) (R := fun v H' => v = .int .i64 (checkS n l) ∧ Ext H H') (v := .int _ _) (by rfl) (by rfl) (by exact rfl) ?_
      -- leaf 2
      exact ⟨by rw [checkS_2 (by omega)], (Ext.refl _)⟩
    · try simp only [decide_eq_true_eq, decide_eq_false_iff_not, beq_iff_eq, bne_iff_ne, beq_eq_false_iff_ne, bne_eq_false_iff_eq, List.length_map, gt_iff_lt, ge_iff_le, Int.not_lt, Int.not_le] at g3
      refine W.pure (v := lv) (gk rfl rfl gv4 rfl) rfl (v_move (oo rfl rfl)) ?_
      refine W.pure (gk rfl rfl gv4 rfl) rfl (len_sl (oo rfl rfl) (Sl.isSl (hl.ext (Ext.refl _))) (elemT_inv el22)) ?_
      refine W.pure (gk rfl rfl gv4 rfl) rfl (v_int (oo rfl rfl) (oo rfl rfl) rfl) ?_
      refine W.pure (v := .bool _) rfl rfl (v_pickF (oo rfl gv4) (oo rfl rfl)) ?_
      refine .nil ?_
      refine .cond rfl rfl (fun g5 => ?_) (fun g5 => ?_)
      · try simp only [decide_eq_true_eq, decide_eq_false_iff_not, beq_iff_eq, bne_iff_ne, beq_eq_false_iff_ne, bne_eq_false_iff_eq, List.length_map, gt_iff_lt, ge_iff_le, Int.not_lt, Int.not_le] at g5
        refine .seq ?_
        refine .region ?_
        refine W.pure (v := .int _ _) rfl rfl (v_assign (oo rfl rfl)) ?_
        refine .nil ?_
        refine .ret ?_
        refine ret1V (P := Try.prog) (fn := Try.f13) (n := 45) (R := fun v H' => v = .int .i64 (checkS n l) ∧ Ext H H') (v := .int _ _) (by rfl) (by rfl) (by exact rfl) ?_
        -- leaf 3
        exact ⟨by rw [checkS_2 (by omega)], (Ext.refl _)⟩
      · try simp only [decide_eq_true_eq, decide_eq_false_iff_not, beq_iff_eq, bne_iff_ne, beq_eq_false_iff_ne, bne_eq_false_iff_eq, List.length_map, gt_iff_lt, ge_iff_le, Int.not_lt, Int.not_le] at g5
        refine .skip ?_
        refine .seq ?_
        refine .seq ?_
        refine .region ?_
        refine W.pure (v := lv) rfl rfl (v_move (oo rfl rfl)) ?_
        refine W.pure rfl rfl (len_sl (oo rfl rfl) (Sl.isSl (hl.ext (Ext.refl _))) (elemT_inv el22)) ?_
        refine W.pure (v := .int _ _) rfl rfl (v_move (oo rfl rfl)) ?_
        refine .nil ?_
        refine .block ?_
        refine AW.loop (α := Nat) (fun i σ' H' => (Ext H H') ∧ (σ' 20 = .int .i64 (i : Nat)) ∧ (∀ j < i, ok13 n (l.getD j (0,0)) = true)) (fun i => l.length - i) 0 ⟨(Ext.refl _), rfl, (by intro j hj; omega)⟩ ?_
        rintro i σ8 H9 fr10 ⟨e6, t20_7, hp⟩
        have h0_11 : σ8 0 = _ := (fr10 0 rfl).trans rfl
        have h18_12 : σ8 18 = lv := (fr10 18 rfl).trans rfl
        have h19_13 : σ8 19 = _ := (fr10 19 rfl).trans rfl
        refine .seq ?_
        refine .region ?_
        refine W.pure rfl rfl (v_int (oo rfl t20_7) (oo rfl h19_13) rfl) ?_
        refine .nil ?_
        refine .seq ?_
        refine .cond rfl rfl (fun g14 => ?_) (fun g14 => ?_)
        · try simp only [decide_eq_true_eq, decide_eq_false_iff_not, beq_iff_eq, bne_iff_ne, beq_eq_false_iff_ne, bne_eq_false_iff_eq, List.length_map, gt_iff_lt, ge_iff_le, Int.not_lt, Int.not_le] at g14
          have hi : i < l.length := by omega
          refine .skip ?_
          refine .seq ?_
          refine .block ?_
          refine .seq ?_
          refine .region ?_
          refine W.pure rfl rfl (v_idxN el22 sz29 (oo rfl h18_12) (oo rfl t20_7) (Sl.isSl (hl.ext e6)) (by simp only [List.length_map]; omega)) ?_
          refine W.loadA rfl rfl ag29 sz29 (Sl.idx (hl.ext e6) (he i hi)) rfl ?_
          refine W.alloc rfl rfl ze29 (by kernel_rfl) fun b15 H16 nb17 => ?_
          have fr18 := Nat.le_trans (e6).1 nb17.fresh
          have e19 := Ext.trans e6 nb17.ext
          have k20 := nb17.get
          refine W.storeL (v := .agg _) rfl rfl sz29 rfl rfl k20 rfl rfl rfl (Nat.le_of_ble_eq_true rfl)  fun H21 sb22 => ?_
          have e23 := sb22.ext e19 fr18
          have k24 := sb22.get
          refine .nil ?_
          refine .seq ?_
          refine .region ?_
          refine W.pure rfl rfl (v_idxA ar29 sz3 (oo rfl rfl) (oo rfl rfl) (Pt.loc k24) (by decide) (by decide)) ?_
          refine W.load1 rfl rfl ag3 (Pt.sub (Pt.loc k24) 0 1 rfl) ?_
          refine W.pure rfl rfl (v_int (oo rfl rfl) (oo rfl rfl) rfl) ?_
          refine W.pure (v := .bool _) rfl rfl (v_move (oo rfl rfl)) ?_
          refine W.splitAt (t := 27) rfl (fun g25 gv26 => ?_) (fun g25 gv26 => ?_)
          · try simp only [decide_eq_true_eq, decide_eq_false_iff_not, beq_iff_eq, bne_iff_ne, beq_eq_false_iff_ne, bne_eq_false_iff_eq, List.length_map, gt_iff_lt, ge_iff_le, Int.not_lt, Int.not_le] at g25
            refine W.skip (gk rfl rfl gv26 rfl) rfl ?_
            refine W.skip (gk rfl rfl gv26 rfl) rfl ?_
            refine W.skip (gk rfl rfl gv26 rfl) rfl ?_
            refine W.skip (gk rfl rfl gv26 rfl) rfl ?_
            refine W.pure (v := .bool _) rfl rfl (v_pickT (oo rfl gv26) (oo rfl rfl)) ?_
            refine W.pure (v := .bool _) rfl rfl (v_move (oo rfl rfl)) ?_
            refine W.skip (gk rfl rfl rfl rfl) rfl ?_
            refine W.skip (gk rfl rfl rfl rfl) rfl ?_
            refine W.skip (gk rfl rfl rfl rfl) rfl ?_
            refine W.pure (v := .bool _) rfl rfl (v_pickT (oo rfl rfl) (oo rfl rfl)) ?_
            refine W.pure (v := .bool _) rfl rfl (v_move (oo rfl rfl)) ?_
            refine W.skip (gk rfl rfl rfl rfl) rfl ?_
            refine W.skip (gk rfl rfl rfl rfl) rfl ?_
            refine W.skip (gk rfl rfl rfl rfl) rfl ?_
            refine W.skip (gk rfl rfl rfl rfl) rfl ?_
            refine W.pure (v := .bool _) rfl rfl (v_pickT (oo rfl rfl) (oo rfl rfl)) ?_
            refine .nil ?_
            refine .condT rfl rfl ?_
            refine .seq ?_
            refine .region ?_
            refine W.pure (v := .int _ _) rfl rfl (v_assign (oo rfl rfl)) ?_
            refine .nil ?_
            refine .ret ?_
            refine ret1V (P := Try.prog) (fn := Try.f13) (n := 45) (R := fun v H' => v = .int .i64 (checkS n l) ∧ Ext H H') (v := .int _ _) (by rfl) (by rfl) (by exact rfl) ?_
            -- leaf 4
            exact ⟨by rw [checkS_bad (i := i) (by omega) hi (by simp only [ok13, decide_eq_false_iff_not]; omega)], e23⟩
          · try simp only [decide_eq_true_eq, decide_eq_false_iff_not, beq_iff_eq, bne_iff_ne, beq_eq_false_iff_ne, bne_eq_false_iff_eq, List.length_map, gt_iff_lt, ge_iff_le, Int.not_lt, Int.not_le] at g25
            refine W.pure (gk rfl rfl gv26 rfl) rfl (v_idxA ar29 sz3 (oo rfl rfl) (oo rfl rfl) (Pt.loc k24) (by decide) (by decide)) ?_
            refine W.load1 (gk rfl rfl gv26 rfl) rfl ag3 (Pt.sub (Pt.loc k24) 0 1 rfl) ?_
            refine W.pure (v := .int _ _) (gk rfl rfl gv26 rfl) rfl (v_move (oo rfl h0_11)) ?_
            refine W.pure (gk rfl rfl gv26 rfl) rfl (v_int (oo rfl rfl) (oo rfl rfl) rfl) ?_
            refine W.pure (v := .bool _) rfl rfl (v_pickF (oo rfl gv26) (oo rfl rfl)) ?_
            refine W.pure (v := .bool _) rfl rfl (v_move (oo rfl rfl)) ?_
            refine W.splitAt (t := 33) rfl (fun g27 gv28 => ?_) (fun g27 gv28 => ?_)
            · try simp only [decide_eq_true_eq, decide_eq_false_iff_not, beq_iff_eq, bne_iff_ne, beq_eq_false_iff_ne, bne_eq_false_iff_eq, List.length_map, gt_iff_lt, ge_iff_le, Int.not_lt, Int.not_le] at g27
              refine W.skip (gk rfl rfl gv28 rfl) rfl ?_
              refine W.skip (gk rfl rfl gv28 rfl) rfl ?_
              refine W.skip (gk rfl rfl gv28 rfl) rfl ?_
              refine W.pure (v := .bool _) rfl rfl (v_pickT (oo rfl gv28) (oo rfl rfl)) ?_
              refine W.pure (v := .bool _) rfl rfl (v_move (oo rfl rfl)) ?_
              refine W.skip (gk rfl rfl rfl rfl) rfl ?_
              refine W.skip (gk rfl rfl rfl rfl) rfl ?_
              refine W.skip (gk rfl rfl rfl rfl) rfl ?_
              refine W.skip (gk rfl rfl rfl rfl) rfl ?_
              refine W.pure (v := .bool _) rfl rfl (v_pickT (oo rfl rfl) (oo rfl rfl)) ?_
              refine .nil ?_
              refine .condT rfl rfl ?_
              refine .seq ?_
              refine .region ?_
              refine W.pure (v := .int _ _) rfl rfl (v_assign (oo rfl rfl)) ?_
              refine .nil ?_
              refine .ret ?_
              refine ret1V (P := Try.prog) (fn := Try.f13) (n := 45) (R := fun v H' => v = .int .i64 (checkS n l) ∧ Ext H H') (v := .int _ _) (by rfl) (by rfl) (by exact rfl) ?_
              -- leaf 5
              exact ⟨by rw [checkS_bad (i := i) (by omega) hi (by simp only [ok13, decide_eq_false_iff_not]; omega)], e23⟩
            · try simp only [decide_eq_true_eq, decide_eq_false_iff_not, beq_iff_eq, bne_iff_ne, beq_eq_false_iff_ne, bne_eq_false_iff_eq, List.length_map, gt_iff_lt, ge_iff_le, Int.not_lt, Int.not_le] at g27
              refine W.pure (gk rfl rfl gv28 rfl) rfl (v_idxA ar29 sz3 (oo rfl rfl) (oo rfl rfl) (Pt.loc k24) (by decide) (by decide)) ?_
              refine W.load1 (gk rfl rfl gv28 rfl) rfl ag3 (Pt.sub (Pt.loc k24) 1 1 rfl) ?_
              refine W.pure (gk rfl rfl gv28 rfl) rfl (v_int (oo rfl rfl) (oo rfl rfl) rfl) ?_
              refine W.pure (v := .bool _) rfl rfl (v_pickF (oo rfl gv28) (oo rfl rfl)) ?_
              refine W.pure (v := .bool _) rfl rfl (v_move (oo rfl rfl)) ?_
              refine W.splitAt (t := 38) rfl (fun g29 gv30 => ?_) (fun g29 gv30 => ?_)
              · try simp only [decide_eq_true_eq, decide_eq_false_iff_not, beq_iff_eq, bne_iff_ne, beq_eq_false_iff_ne, bne_eq_false_iff_eq, List.length_map, gt_iff_lt, ge_iff_le, Int.not_lt, Int.not_le] at g29
                refine W.skip (gk rfl rfl gv30 rfl) rfl ?_
                refine W.skip (gk rfl rfl gv30 rfl) rfl ?_
                refine W.skip (gk rfl rfl gv30 rfl) rfl ?_
                refine W.skip (gk rfl rfl gv30 rfl) rfl ?_
                refine W.pure (v := .bool _) rfl rfl (v_pickT (oo rfl gv30) (oo rfl rfl)) ?_
                refine .nil ?_
                refine .condT rfl rfl ?_
                refine .seq ?_
                refine .region ?_
                refine W.pure (v := .int _ _) rfl rfl (v_assign (oo rfl rfl)) ?_
                refine .nil ?_
                refine .ret ?_
                refine ret1V (P := Try.prog) (fn := Try.f13) (n := 45) (R := fun v H' => v = .int .i64 (checkS n l) ∧ Ext H H') (v := .int _ _) (by rfl) (by rfl) (by exact rfl) ?_
                -- leaf 6
                exact ⟨by rw [checkS_bad (i := i) (by omega) hi (by simp only [ok13, decide_eq_false_iff_not]; omega)], e23⟩
              · try simp only [decide_eq_true_eq, decide_eq_false_iff_not, beq_iff_eq, bne_iff_ne, beq_eq_false_iff_ne, bne_eq_false_iff_eq, List.length_map, gt_iff_lt, ge_iff_le, Int.not_lt, Int.not_le] at g29
                refine W.pure (gk rfl rfl gv30 rfl) rfl (v_idxA ar29 sz3 (oo rfl rfl) (oo rfl rfl) (Pt.loc k24) (by decide) (by decide)) ?_
                refine W.load1 (gk rfl rfl gv30 rfl) rfl ag3 (Pt.sub (Pt.loc k24) 1 1 rfl) ?_
                refine W.pure (v := .int _ _) (gk rfl rfl gv30 rfl) rfl (v_move (oo rfl h0_11)) ?_
                refine W.pure (gk rfl rfl gv30 rfl) rfl (v_int (oo rfl rfl) (oo rfl rfl) rfl) ?_
                refine W.pure (v := .bool _) rfl rfl (v_pickF (oo rfl gv30) (oo rfl rfl)) ?_
                refine .nil ?_
                refine .cond rfl rfl (fun g31 => ?_) (fun g31 => ?_)
                · try simp only [decide_eq_true_eq, decide_eq_false_iff_not, beq_iff_eq, bne_iff_ne, beq_eq_false_iff_ne, bne_eq_false_iff_eq, List.length_map, gt_iff_lt, ge_iff_le, Int.not_lt, Int.not_le] at g31
                  refine .seq ?_
                  refine .region ?_
                  refine W.pure (v := .int _ _) rfl rfl (v_assign (oo rfl rfl)) ?_
                  refine .nil ?_
                  refine .ret ?_
                  refine ret1V (P := Try.prog) (fn := Try.f13) (n := 45) (R := fun v H' => v = .int .i64 (checkS n l) ∧ Ext H H') (v := .int _ _) (by rfl) (by rfl) (by exact rfl) ?_
                  -- leaf 7
                  exact ⟨by rw [checkS_bad (i := i) (by omega) hi (by simp only [ok13, decide_eq_false_iff_not]; omega)], e23⟩
                · try simp only [decide_eq_true_eq, decide_eq_false_iff_not, beq_iff_eq, bne_iff_ne, beq_eq_false_iff_ne, bne_eq_false_iff_eq, List.length_map, gt_iff_lt, ge_iff_le, Int.not_lt, Int.not_le] at g31
                  refine .skip ?_
                  refine .region ?_
                  refine W.pure rfl rfl (v_inc (oo rfl t20_7) (by omega)) ?_
                  refine W.pure (v := .int _ _) rfl rfl (v_move (oo rfl rfl)) ?_
                  refine .nil ?_
                  refine ⟨i + 1, by dsimp only; omega, e23, rfl, (ok13_step hp (by simp only [ok13, decide_eq_true_eq]; omega))⟩
        · try simp only [decide_eq_true_eq, decide_eq_false_iff_not, beq_iff_eq, bne_iff_ne, beq_eq_false_iff_ne, bne_eq_false_iff_eq, List.length_map, gt_iff_lt, ge_iff_le, Int.not_lt, Int.not_le] at g14
          refine .exit ?_
          refine .seq ?_
          refine .region ?_
          refine W.pure (v := .int _ _) rfl rfl (v_assign (oo rfl rfl)) ?_
          refine .nil ?_
          refine .ret ?_
          refine ret1V (P := Try.prog) (fn := Try.f13) (n := 45) (R := fun v H' => v = .int .i64 (checkS n l) ∧ Ext H H') (v := .int _ _) (by rfl) (by rfl) (by exact rfl) ?_
          -- leaf 8
          exact ⟨by rw [checkS_0 (by omega) (fun j hj => hp j (by omega))], e6⟩

theorem f16_ok (H : AH) (xv yv : Value) (xs ys : List Int) (hx : Sl H 1 xv (xs.map fun a => [.int .i64 a])) (hy : Sl H 1 yv (ys.map fun a => [.int .i64 a])) (hxl : xs.length ≤ 1048576) : ∃ v H', ACalls Try.prog 16 [xv, yv] H v H' ∧ (fun v H' => v = .bool (decide (xs = ys)) ∧ Ext H H') v H' := by
  have hex : ∀ i, i < xs.length → (xs.map fun a => [Value.int .i64 a])[i]? = some [.int .i64 (xs.getD i 0)] := by
    intro i hi
    simp [hi, List.getD_eq_getElem?_getD]
  have hey : ∀ i, i < ys.length → (ys.map fun a => [Value.int .i64 a])[i]? = some [.int .i64 (ys.getD i 0)] := by
    intro i hi
    simp [hi, List.getD_eq_getElem?_getD]
  refine calls_of_AW (n := 26) (fn := Try.f16) (by kernel_rfl) rfl rfl ?_
  refine .seq ?_
  refine .region ?_
  refine W.pure (v := .bool _) rfl rfl (v_assign (oo rfl rfl)) ?_
  refine .nil ?_
  refine .seq ?_
  refine .seq ?_
  refine .region ?_
  refine W.pure (v := xv) rfl rfl (v_move (oo rfl rfl)) ?_
  refine W.pure rfl rfl (len_sl (oo rfl rfl) (Sl.isSl (hx.ext (Ext.refl _))) (elemT_inv el24)) ?_
  refine W.pure (v := yv) rfl rfl (v_move (oo rfl rfl)) ?_
  refine W.pure rfl rfl (len_sl (oo rfl rfl) (Sl.isSl (hy.ext (Ext.refl _))) (elemT_inv el24)) ?_
  refine W.pure rfl rfl (v_int (oo rfl rfl) (oo rfl rfl) rfl) ?_
  refine .nil ?_
  refine .cond rfl rfl (fun g1 => ?_) (fun g1 => ?_)
  · try simp only [decide_eq_true_eq, decide_eq_false_iff_not, beq_iff_eq, bne_iff_ne, beq_eq_false_iff_ne, bne_eq_false_iff_eq, List.length_map, gt_iff_lt, ge_iff_le, Int.not_lt, Int.not_le] at g1
    refine .seq ?_
    refine .region ?_
    refine W.pure (v := .bool _) rfl rfl (v_assign (oo rfl rfl)) ?_
    refine .nil ?_
    refine .ret ?_
    refine ret1V (P := Try.prog) (fn := Try.f16) (n := 26) (R := fun v H' => v = .bool (decide (xs = ys)) ∧ Ext H H') (v := .bool _) (by rfl) (by rfl) (by exact rfl) ?_
    -- leaf 1
    exact ⟨by rw [neq_len (by omega)], (Ext.refl _)⟩
  · try simp only [decide_eq_true_eq, decide_eq_false_iff_not, beq_iff_eq, bne_iff_ne, beq_eq_false_iff_ne, bne_eq_false_iff_eq, List.length_map, gt_iff_lt, ge_iff_le, Int.not_lt, Int.not_le] at g1
    refine .skip ?_
    refine .seq ?_
    refine .seq ?_
    refine .region ?_
    refine W.pure (v := xv) rfl rfl (v_move (oo rfl rfl)) ?_
    refine W.pure rfl rfl (len_sl (oo rfl rfl) (Sl.isSl (hx.ext (Ext.refl _))) (elemT_inv el24)) ?_
    refine W.pure (v := .int _ _) rfl rfl (v_move (oo rfl rfl)) ?_
    refine .nil ?_
    refine .block ?_
    refine AW.loop (α := Nat) (fun i σ' H' => (Ext H H') ∧ (σ' 13 = .int .i64 (i : Nat)) ∧ (∀ j < i, xs.getD j 0 = ys.getD j 0)) (fun i => xs.length - i) 0 ⟨(Ext.refl _), rfl, (by intro j hj; omega)⟩ ?_
    rintro i σ4 H5 fr6 ⟨e2, t13_3, hp⟩
    have h0_7 : σ4 0 = xv := (fr6 0 rfl).trans rfl
    have h1_8 : σ4 1 = yv := (fr6 1 rfl).trans rfl
    have h12_9 : σ4 12 = _ := (fr6 12 rfl).trans rfl
    have hl : xs.length = ys.length := by omega
    refine .seq ?_
    refine .region ?_
    refine W.pure rfl rfl (v_int (oo rfl t13_3) (oo rfl h12_9) rfl) ?_
    refine .nil ?_
    refine .seq ?_
    refine .cond rfl rfl (fun g10 => ?_) (fun g10 => ?_)
    · try simp only [decide_eq_true_eq, decide_eq_false_iff_not, beq_iff_eq, bne_iff_ne, beq_eq_false_iff_ne, bne_eq_false_iff_eq, List.length_map, gt_iff_lt, ge_iff_le, Int.not_lt, Int.not_le] at g10
      have hi : i < xs.length := by omega
      have hi2 : i < ys.length := by omega
      refine .skip ?_
      refine .seq ?_
      refine .block ?_
      refine .seq ?_
      refine .region ?_
      refine W.pure (v := .int _ _) rfl rfl (v_move (oo rfl t13_3)) ?_
      refine W.pure (v := .int _ _) rfl rfl (v_assign (oo rfl rfl)) ?_
      refine .nil ?_
      refine .seq ?_
      refine .draw (M := [0, 0, 3, 7, 0, 0, 48, 112, 255]) mixed (by kernel_rfl) (by kernel_rfl) fun H11 x12 => ?_
      have e13 := Ext.trans e2 x12
      refine D.pure (v := xv) rfl rfl (v_move (oo rfl h0_7)) ?_
      refine D.pure (v := .int _ _) rfl rfl (v_move (oo rfl rfl)) ?_
      refine D.pure rfl rfl (v_idxN el24 sz3 (oo rfl rfl) (oo rfl rfl) (Sl.isSl (hx.ext e13)) (by simpa using hi)) ?_
      refine D.load1 rfl rfl ag3 (Sl.idx (hx.ext e13) (hex i hi)) RS.nil fa_nil fun rs14 => ?_
      refine D.pure (v := yv) rfl rfl (v_move (oo rfl h1_8)) ?_
      refine D.pure (v := .int _ _) rfl rfl (v_move (oo rfl rfl)) ?_
      refine D.pure rfl rfl (v_idxN el24 sz3 (oo rfl rfl) (oo rfl rfl) (Sl.isSl (hy.ext e13)) (by simpa using hi2)) ?_
      refine D.load1 rfl rfl ag3 (Sl.idx (hy.ext e13) (hey i hi2)) rs14 fa_nil fun rs15 => ?_
      refine D.pure rfl rfl (v_int (oo rfl rfl) (oo rfl rfl) rfl) ?_
      refine .nil ?_
      refine .cond rfl rfl (fun g16 => ?_) (fun g16 => ?_)
      · try simp only [decide_eq_true_eq, decide_eq_false_iff_not, beq_iff_eq, bne_iff_ne, beq_eq_false_iff_ne, bne_eq_false_iff_eq, List.length_map, gt_iff_lt, ge_iff_le, Int.not_lt, Int.not_le] at g16
        refine .seq ?_
        refine .region ?_
        refine W.pure (v := .bool _) rfl rfl (v_assign (oo rfl rfl)) ?_
        refine .nil ?_
        refine .ret ?_
        refine ret1V (P := Try.prog) (fn := Try.f16) (n := 26) (R := fun v H' => v = .bool (decide (xs = ys)) ∧ Ext H H') (v := .bool _) (by rfl) (by rfl) (by exact rfl) ?_
        -- leaf 2
        exact ⟨by rw [neq_at (i := i) hi hi2 (by omega)], e13⟩
      · try simp only [decide_eq_true_eq, decide_eq_false_iff_not, beq_iff_eq, bne_iff_ne, beq_eq_false_iff_ne, bne_eq_false_iff_eq, List.length_map, gt_iff_lt, ge_iff_le, Int.not_lt, Int.not_le] at g16
        refine .skip ?_
        refine .region ?_
        refine W.pure rfl rfl (v_inc (oo rfl t13_3) (by omega)) ?_
        refine W.pure (v := .int _ _) rfl rfl (v_move (oo rfl rfl)) ?_
        refine .nil ?_
        refine ⟨i + 1, by dsimp only; omega, e13, rfl, (getD_step hp (by omega))⟩
    · try simp only [decide_eq_true_eq, decide_eq_false_iff_not, beq_iff_eq, bne_iff_ne, beq_eq_false_iff_ne, bne_eq_false_iff_eq, List.length_map, gt_iff_lt, ge_iff_le, Int.not_lt, Int.not_le] at g10
      refine .exit ?_
      refine .seq ?_
      refine .region ?_
      refine W.pure (v := .bool _) rfl rfl (v_assign (oo rfl rfl)) ?_
      refine .nil ?_
      refine .ret ?_
      refine ret1V (P := Try.prog) (fn := Try.f16) (n := 26) (R := fun v H' => v = .bool (decide (xs = ys)) ∧ Ext H H') (v := .bool _) (by rfl) (by rfl) (by exact rfl) ?_
      -- leaf 3
      exact ⟨by rw [eq_all hl (fun j hj => hp j (by omega))], e2⟩

end Go.Am.Try
