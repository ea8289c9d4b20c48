/- Walks: GraphError, graph.Components. -/
import Derived.Test.YtlcdhgcfamjioaaWg4
namespace Go.Am.Try
open Go Go.Am Go.Proofs
set_option linter.unusedVariables false
set_option linter.unusedSimpArgs false
def sel (p : Int × Int) (j : Nat) : Int := if j = 0 then p.1 else p.2
theorem sel_at {p : Int × Int} {j : Nat} (h : j < 2) : ([Value.int .i64 p.1, Value.int .i64 p.2].toArray).toList[((j : Nat) : Int).toNat * 1]? = some (.int .i64 (sel p j)) := by
  have : j = 0 ∨ j = 1 := by omega
  rcases this with rfl | rfl <;> rfl
theorem sel_step {p : Int × Int} {n : Int} {j : Nat} (hp : ∀ k < j, 0 ≤ sel p k ∧ sel p k < n) (h : 0 ≤ sel p j ∧ sel p j < n) : ∀ k < j + 1, 0 ≤ sel p k ∧ sel p k < n := by
  intro k hk
  rcases Nat.lt_succ_iff_lt_or_eq.1 hk with h' | rfl
  · exact hp k h'
  · exact h
theorem sel_ok {p : Int × Int} {n : Int} {j : Nat} (hp : ∀ k < j, 0 ≤ sel p k ∧ sel p k < n) (hj : 2 ≤ j) : ok13 n p = true := by
  have h0 := hp 0 (by omega)
  have h1 := hp 1 (by omega)
  simp only [sel, if_true, if_neg (show ¬ (1 = 0) by omega)] at h0 h1
  simp only [ok13, decide_eq_true_eq]; omega
theorem sel_bad {p : Int × Int} {n : Int} {j : Nat} (h : sel p j < 0 ∨ n ≤ sel p j) : ok13 n p = false := by
  simp only [ok13, decide_eq_false_iff_not]
  unfold sel at h
  split at h <;> omega
theorem checkS_inv {n : Int} {l : List (Int × Int)} (h : checkS n l = 0) : 0 ≤ n ∧ n ≤ 24 ∧ l.length ≤ 64 ∧ ∀ i < l.length, ok13 n (l.getD i (0, 0)) = true := by
  unfold checkS at h
  split at h
  · omega
  · rename_i h1
    split at h
    · rename_i h2
      refine ⟨by omega, by omega, by omega, fun i hi => ?_⟩
      rw [List.all_eq_true] at h2
      have := h2 l[i] (List.getElem_mem hi)
      simpa [List.getD_eq_getElem?_getD, hi] using this
    · omega
theorem f55_int (H : AH) (n : Int) (lv uv : Value) (l : List (Int × Int)) (U : Nat → Bool) (hc : checkS n l = 0) (hl : Sl H 2 lv (l.map pr)) (hu : Used Try.prog H uv l.length U) : ∃ v H', ACalls Try.prog 55 [.int .i64 n, lv, uv] H v H' ∧ (∃ (b' : Nat) (cs : List Int) (m : Nat), v = .slice (some ⟨b', 0, some 0⟩) n.toNat n.toNat ∧ H.next ≤ b' ∧ H'.get b' = some ⟨cs.map (Value.int .i64), 3, 1, true⟩ ∧ Outer l U n.toNat cs m n.toNat) ∧ Ext H H' := by
  obtain ⟨h0, h1, h2, h3⟩ := checkS_inv hc
  obtain ⟨N, rfl⟩ := Int.eq_ofNat_of_zero_le h0
  exact f55_ok H N lv uv l U (by omega) h2 hl h3 hu

theorem f12_ok (H : AH) (n : Int) (lv : Value) (l : List (Int × Int)) (hl : Sl H 2 lv (l.map pr)) (hlen : l.length ≤ 1048576) : ∃ v H', ACalls Try.prog 12 [.int .i64 n, lv] H v H' ∧ (fun v H' => v = .int .i64 (checkS n l) ∧ Ext H H') v H' := by
  have he : ∀ i, i < l.length → (l.map pr)[i]? = some [.int .i64 (l.getD i (0,0)).1, .int .i64 (l.getD i (0,0)).2] := by
    intro i hi
    simp [hi, pr, List.getD_eq_getElem?_getD]
  refine calls_of_AW (n := 39) (fn := Try.f12) (by kernel_rfl) rfl rfl ?_
  refine .seq ?_
  refine .region ?_
  refine W.pure (v := .int _ _) rfl rfl (v_assign (oo rfl rfl)) ?_
  refine .nil ?_
  refine .seq ?_
  refine .seq ?_
  refine .region ?_
  refine W.pure (v := .int _ _) rfl rfl (v_move (oo rfl rfl)) ?_
  refine W.pure rfl rfl (v_int (oo rfl rfl) (oo rfl rfl) rfl) ?_
  refine W.pure (v := .bool _) rfl rfl (v_move (oo rfl rfl)) ?_
  refine W.splitAt (t := 11) rfl (fun g1 gv2 => ?_) (fun g1 gv2 => ?_)
  · try simp only [decide_eq_true_eq, decide_eq_false_iff_not, beq_iff_eq, bne_iff_ne, beq_eq_false_iff_ne, bne_eq_false_iff_eq, List.length_map, gt_iff_lt, ge_iff_le, Int.not_lt, Int.not_le] at g1
    refine W.skip (gk rfl rfl gv2 rfl) rfl ?_
    refine W.skip (gk rfl rfl gv2 rfl) rfl ?_
    refine W.pure (v := .bool _) rfl rfl (v_pickT (oo rfl gv2) (oo rfl rfl)) ?_
    refine W.pure (v := .bool _) rfl rfl (v_move (oo rfl rfl)) ?_
    refine W.skip (gk rfl rfl rfl rfl) rfl ?_
    refine W.skip (gk rfl rfl rfl rfl) rfl ?_
    refine W.skip (gk rfl rfl rfl rfl) rfl ?_
    refine W.pure (v := .bool _) rfl rfl (v_pickT (oo rfl rfl) (oo rfl rfl)) ?_
    refine .nil ?_
    refine .condT rfl rfl ?_
    refine .seq ?_
    refine .region ?_
    refine W.pure (v := .int _ _) rfl rfl (v_assign (oo rfl rfl)) ?_
    refine .nil ?_
    refine .ret ?_
    refine ret1V (P := Try.prog) (fn := Try.f12) (n := 39) (R := fun v H' => v = .int .i64 (checkS n l) ∧ Ext H H') (v := .int _ _) (by rfl) (by rfl) (by exact rfl) ?_
    -- leaf 1
    exact ⟨by rw [checkS_2 (by omega)], (Ext.refl _)⟩
  · try simp only [decide_eq_true_eq, decide_eq_false_iff_not, beq_iff_eq, bne_iff_ne, beq_eq_false_iff_ne, bne_eq_false_iff_eq, List.length_map, gt_iff_lt, ge_iff_le, Int.not_lt, Int.not_le] at g1
    refine W.pure (v := .int _ _) (gk rfl rfl gv2 rfl) rfl (v_move (oo rfl rfl)) ?_
    refine W.pure (gk rfl rfl gv2 rfl) rfl (v_int (oo rfl rfl) (oo rfl rfl) rfl) ?_
    refine W.pure (v := .bool _) rfl rfl (v_pickF (oo rfl gv2) (oo rfl rfl)) ?_
    refine W.pure (v := .bool _) rfl rfl (v_move (oo rfl rfl)) ?_
    refine W.splitAt (t := 15) rfl (fun g3 gv4 => ?_) (fun g3 gv4 => ?_)
    · try simp only [decide_eq_true_eq, decide_eq_false_iff_not, beq_iff_eq, bne_iff_ne, beq_eq_false_iff_ne, bne_eq_false_iff_eq, List.length_map, gt_iff_lt, ge_iff_le, Int.not_lt, Int.not_le] at g3
      refine W.skip (gk rfl rfl gv4 rfl) rfl ?_
      refine W.skip (gk rfl rfl gv4 rfl) rfl ?_
      refine W.skip (gk rfl rfl gv4 rfl) rfl ?_
      refine W.pure (v := .bool _) rfl rfl (v_pickT (oo rfl gv4) (oo rfl rfl)) ?_
      refine .nil ?_
      refine .condT rfl rfl ?_
      refine .seq ?_
      refine .region ?_
      refine W.pure (v := .int _ _) rfl rfl (v_assign (oo rfl rfl)) ?_
      refine .nil ?_
      refine .ret ?_
      refine ret1V (P := Try.prog) (fn := Try.f12) (n := 39) (R := fun v H' => v = .int .i64 (checkS n l) ∧ Ext H H') (v := .int _ _) (by rfl) (by rfl) (by exact rfl) ?_
      -- leaf 2
      exact ⟨by rw [checkS_2 (by omega)], (Ext.refl _)⟩
    · try simp only [decide_eq_true_eq, decide_eq_false_iff_not, beq_iff_eq, bne_iff_ne, beq_eq_false_iff_ne, bne_eq_false_iff_eq, List.length_map, gt_iff_lt, ge_iff_le, Int.not_lt, Int.not_le] at g3
      refine W.pure (v := lv) (gk rfl rfl gv4 rfl) rfl (v_move (oo rfl rfl)) ?_
      refine W.pure (gk rfl rfl gv4 rfl) rfl (len_sl (oo rfl rfl) (Sl.isSl (hl.ext (Ext.refl _))) (elemT_inv el22)) ?_
      refine W.pure (gk rfl rfl gv4 rfl) rfl (v_int (oo rfl rfl) (oo rfl rfl) rfl) ?_
      refine W.pure (v := .bool _) rfl rfl (v_pickF (oo rfl gv4) (oo rfl rfl)) ?_
      refine .nil ?_
      refine .cond rfl rfl (fun g5 => ?_) (fun g5 => ?_)
      · try simp only [decide_eq_true_eq, decide_eq_false_iff_not, beq_iff_eq, bne_iff_ne, beq_eq_false_iff_ne, bne_eq_false_iff_eq, List.length_map, gt_iff_lt, ge_iff_le, Int.not_lt, Int.not_le] at g5
        refine .seq ?_
        refine .region ?_
        refine W.pure (v := .int _ _) rfl rfl (v_assign (oo rfl rfl)) ?_
        refine .nil ?_
        refine .ret ?_
        refine ret1V (P := Try.prog) (fn := Try.f12) (n := 39) (R := fun v H' => v = .int .i64 (checkS n l) ∧ Ext H H') (v := .int _ _) (by rfl) (by rfl) (by exact rfl) ?_
        -- leaf 3
        exact ⟨by rw [checkS_2 (by omega)], (Ext.refl _)⟩
      · try simp only [decide_eq_true_eq, decide_eq_false_iff_not, beq_iff_eq, bne_iff_ne, beq_eq_false_iff_ne, bne_eq_false_iff_eq, List.length_map, gt_iff_lt, ge_iff_le, Int.not_lt, Int.not_le] at g5
        refine .skip ?_
        refine .seq ?_
        refine .seq ?_
        refine .region ?_
        refine W.pure (v := lv) rfl rfl (v_move (oo rfl rfl)) ?_
        refine W.pure rfl rfl (len_sl (oo rfl rfl) (Sl.isSl (hl.ext (Ext.refl _))) (elemT_inv el22)) ?_
        refine W.pure (v := .int _ _) rfl rfl (v_move (oo rfl rfl)) ?_
        refine .nil ?_
        refine .block ?_
        refine AW.loop (α := Nat) (fun i σ' H' => (Ext H H') ∧ (σ' 22 = .int .i64 (i : Nat)) ∧ (∀ j < i, ok13 n (l.getD j (0,0)) = true)) (fun i => l.length - i) 0 ⟨(Ext.refl _), rfl, (by intro j hj; omega)⟩ ?_
        rintro i σ8 H9 fr10 ⟨e6, t22_7, hp⟩
        have h0_11 : σ8 0 = _ := (fr10 0 rfl).trans rfl
        have h20_12 : σ8 20 = lv := (fr10 20 rfl).trans rfl
        have h21_13 : σ8 21 = _ := (fr10 21 rfl).trans rfl
        refine .seq ?_
        refine .region ?_
        refine W.pure rfl rfl (v_int (oo rfl t22_7) (oo rfl h21_13) rfl) ?_
        refine .nil ?_
        refine .seq ?_
        refine .cond rfl rfl (fun g14 => ?_) (fun g14 => ?_)
        · try simp only [decide_eq_true_eq, decide_eq_false_iff_not, beq_iff_eq, bne_iff_ne, beq_eq_false_iff_ne, bne_eq_false_iff_eq, List.length_map, gt_iff_lt, ge_iff_le, Int.not_lt, Int.not_le] at g14
          have hi : i < l.length := by omega
          refine .skip ?_
          refine .seq ?_
          refine .block ?_
          refine .seq ?_
          refine .region ?_
          refine W.pure rfl rfl (v_idxN el22 sz29 (oo rfl h20_12) (oo rfl t22_7) (Sl.isSl (hl.ext e6)) (by simp only [List.length_map]; omega)) ?_
          refine W.loadA rfl rfl ag29 sz29 (Sl.idx (hl.ext e6) (he i hi)) rfl ?_
          refine W.alloc rfl rfl ze29 (by kernel_rfl) fun b15 H16 nb17 => ?_
          have fr18 := Nat.le_trans (e6).1 nb17.fresh
          have e19 := Ext.trans e6 nb17.ext
          have k20 := nb17.get
          refine W.storeL (v := .agg _) rfl rfl sz29 rfl rfl k20 rfl rfl rfl (Nat.le_of_ble_eq_true rfl)  fun H21 sb22 => ?_
          have e23 := sb22.ext e19 fr18
          have k24 := sb22.get
          refine .nil ?_
          refine .seq ?_
          refine .region ?_
          refine W.loadA rfl rfl ag29 sz29 (Pt.loc k24) rfl ?_
          refine W.pure (v := .int _ _) rfl rfl (v_move (oo rfl rfl)) ?_
          refine .nil ?_
          refine .block ?_
          refine AW.loop (α := Nat) (fun j σ' H' => (Ext H H') ∧ (σ' 27 = .int .i64 (j : Nat)) ∧ (∀ k < j, 0 ≤ sel (l.getD i (0,0)) k ∧ sel (l.getD i (0,0)) k < n)) (fun j => 2 - j) 0 ⟨e23, rfl, (by intro k hk; omega)⟩ ?_
          rintro j σ27 H28 fr29 ⟨e25, t27_26, hj2⟩
          have h0_30 : σ27 0 = _ := (fr29 0 rfl).trans h0_11
          have h22_31 : σ27 22 = _ := (fr29 22 rfl).trans t22_7
          have h26_32 : σ27 26 = _ := (fr29 26 rfl).trans rfl
          have h38_33 : σ27 38 = _ := (fr29 38 rfl).trans rfl
          refine .seq ?_
          refine .region ?_
          refine W.pure rfl rfl (v_int (oo rfl t27_26) (oo rfl rfl) rfl) ?_
          refine .nil ?_
          refine .seq ?_
          refine .cond rfl rfl (fun g34 => ?_) (fun g34 => ?_)
          · try simp only [decide_eq_true_eq, decide_eq_false_iff_not, beq_iff_eq, bne_iff_ne, beq_eq_false_iff_ne, bne_eq_false_iff_eq, List.length_map, gt_iff_lt, ge_iff_le, Int.not_lt, Int.not_le] at g34
            have hj : j < 2 := by omega
            refine .skip ?_
            refine .seq ?_
            refine .block ?_
            refine .seq ?_
            refine .region ?_
            refine W.pure rfl rfl (v_index ar29 sz3 ag3 (oo rfl h26_32) (oo rfl t27_26) (by omega) (by omega) (sel_at hj)) ?_
            refine W.pure (v := .int _ _) rfl rfl (v_assign (oo rfl rfl)) ?_
            refine .nil ?_
            refine .seq ?_
            refine .region ?_
            refine W.pure (v := .int _ _) rfl rfl (v_move (oo rfl rfl)) ?_
            refine W.pure rfl rfl (v_int (oo rfl rfl) (oo rfl rfl) rfl) ?_
            refine W.pure (v := .bool _) rfl rfl (v_move (oo rfl rfl)) ?_
            refine W.splitAt (t := 32) rfl (fun g35 gv36 => ?_) (fun g35 gv36 => ?_)
            · try simp only [decide_eq_true_eq, decide_eq_false_iff_not, beq_iff_eq, bne_iff_ne, beq_eq_false_iff_ne, bne_eq_false_iff_eq, List.length_map, gt_iff_lt, ge_iff_le, Int.not_lt, Int.not_le] at g35
              refine W.skip (gk rfl rfl gv36 rfl) rfl ?_
              refine W.skip (gk rfl rfl gv36 rfl) rfl ?_
              refine W.skip (gk rfl rfl gv36 rfl) rfl ?_
              refine W.pure (v := .bool _) rfl rfl (v_pickT (oo rfl gv36) (oo rfl rfl)) ?_
              refine .nil ?_
              refine .condT rfl rfl ?_
              refine .seq ?_
              refine .region ?_
              refine W.pure (v := .int _ _) rfl rfl (v_assign (oo rfl rfl)) ?_
              refine .nil ?_
              refine .ret ?_
              refine ret1V (P := Try.prog) (fn := Try.f12) (n := 39) (R := fun v H' => v = .int .i64 (checkS n l) ∧ Ext H H') (v := .int _ _) (by rfl) (by rfl) (by exact rfl) ?_
              -- leaf 4
              exact ⟨by rw [checkS_bad (i := i) (by omega) hi (sel_bad (j := j) (by omega))], e25⟩
            · try simp only [decide_eq_true_eq, decide_eq_false_iff_not, beq_iff_eq, bne_iff_ne, beq_eq_false_iff_ne, bne_eq_false_iff_eq, List.length_map, gt_iff_lt, ge_iff_le, Int.not_lt, Int.not_le] at g35
              refine W.pure (v := .int _ _) (gk rfl rfl gv36 rfl) rfl (v_move (oo rfl rfl)) ?_
              refine W.pure (v := .int _ _) (gk rfl rfl gv36 rfl) rfl (v_move (oo rfl h0_30)) ?_
              refine W.pure (gk rfl rfl gv36 rfl) rfl (v_int (oo rfl rfl) (oo rfl rfl) rfl) ?_
              refine W.pure (v := .bool _) rfl rfl (v_pickF (oo rfl gv36) (oo rfl rfl)) ?_
              refine .nil ?_
              refine .cond rfl rfl (fun g37 => ?_) (fun g37 => ?_)
              · try simp only [decide_eq_true_eq, decide_eq_false_iff_not, beq_iff_eq, bne_iff_ne, beq_eq_false_iff_ne, bne_eq_false_iff_eq, List.length_map, gt_iff_lt, ge_iff_le, Int.not_lt, Int.not_le] at g37
                refine .seq ?_
                refine .region ?_
                refine W.pure (v := .int _ _) rfl rfl (v_assign (oo rfl rfl)) ?_
                refine .nil ?_
                refine .ret ?_
                refine ret1V (P := Try.prog) (fn := Try.f12) (n := 39) (R := fun v H' => v = .int .i64 (checkS n l) ∧ Ext H H') (v := .int _ _) (by rfl) (by rfl) (by exact rfl) ?_
                -- leaf 5
                exact ⟨by rw [checkS_bad (i := i) (by omega) hi (sel_bad (j := j) (by omega))], e25⟩
              · try simp only [decide_eq_true_eq, decide_eq_false_iff_not, beq_iff_eq, bne_iff_ne, beq_eq_false_iff_ne, bne_eq_false_iff_eq, List.length_map, gt_iff_lt, ge_iff_le, Int.not_lt, Int.not_le] at g37
                refine .skip ?_
                refine .region ?_
                refine W.pure rfl rfl (v_inc (oo rfl t27_26) (by omega)) ?_
                refine W.pure (v := .int _ _) rfl rfl (v_move (oo rfl rfl)) ?_
                refine .nil ?_
                refine ⟨j + 1, by dsimp only; omega, e25, rfl, (sel_step hj2 (by omega))⟩
          · try simp only [decide_eq_true_eq, decide_eq_false_iff_not, beq_iff_eq, bne_iff_ne, beq_eq_false_iff_ne, bne_eq_false_iff_eq, List.length_map, gt_iff_lt, ge_iff_le, Int.not_lt, Int.not_le] at g34
            refine .exit ?_
            refine .region ?_
            refine W.pure rfl rfl (v_inc (oo rfl h22_31) (by omega)) ?_
            refine W.pure (v := .int _ _) rfl rfl (v_move (oo rfl rfl)) ?_
            refine .nil ?_
            refine ⟨i + 1, by dsimp only; omega, e25, rfl, (ok13_step hp (sel_ok hj2 (by omega)))⟩
        · try simp only [decide_eq_true_eq, decide_eq_false_iff_not, beq_iff_eq, bne_iff_ne, beq_eq_false_iff_ne, bne_eq_false_iff_eq, List.length_map, gt_iff_lt, ge_iff_le, Int.not_lt, Int.not_le] at g14
          refine .exit ?_
          refine .seq ?_
          refine .region ?_
          refine W.pure (v := .int _ _) rfl rfl (v_assign (oo rfl rfl)) ?_
          refine .nil ?_
          refine .ret ?_
          refine ret1V (P := Try.prog) (fn := Try.f12) (n := 39) (R := fun v H' => v = .int .i64 (checkS n l) ∧ Ext H H') (v := .int _ _) (by rfl) (by rfl) (by exact rfl) ?_
          -- leaf 6
          exact ⟨by rw [checkS_0 (by omega) (fun j hj => hp j (by omega))], e6⟩

theorem f10_ok (H : AH) (n : Int) (lv : Value) (l : List (Int × Int)) (hl : Sl H 2 lv (l.map pr)) (hlen : l.length ≤ 1048576) : ∃ v H', ACalls Try.prog 10 [.int .i64 n, lv] H v H' ∧ (fun v H' => (∃ sv : Value, v = .tuple #[sv, .int .i64 (checkS n l)] ∧ (checkS n l ≠ 0 → sv = .slice none 0 0) ∧ (checkS n l = 0 → ∃ (b' : Nat) (cs : List Int) (m : Nat), sv = .slice (some ⟨b', 0, some 0⟩) n.toNat n.toNat ∧ H.next ≤ b' ∧ H'.get b' = some ⟨cs.map (Value.int .i64), 3, 1, true⟩ ∧ Outer l (fun _ => true) n.toNat cs m n.toNat)) ∧ Ext H H') v H' := by
  refine calls_of_AW (n := 16) (fn := Try.f10) (by kernel_rfl) rfl rfl ?_
  refine .seq ?_
  refine .region ?_
  refine W.pure (v := _) rfl rfl (v_assign (oo rfl rfl)) ?_
  refine W.pure (v := .int _ _) rfl rfl (v_assign (oo rfl rfl)) ?_
  refine .nil ?_
  refine .seq ?_
  refine .seq ?_
  refine .region ?_
  refine W.pure (v := .int _ _) rfl rfl (v_move (oo rfl rfl)) ?_
  refine W.pure (v := lv) rfl rfl (v_move (oo rfl rfl)) ?_
  obtain ⟨_, H1, c2, rfl, x4⟩ := (f13_ok H n lv l (hl.ext (Ext.refl _)) hlen)
  refine W.call rfl rfl (fn := Try.f13) (by kernel_rfl) rfl rfl c2 ?_
  have e5 := Ext.trans (Ext.refl _) x4
  refine W.pure (v := .int _ _) rfl rfl (v_assign (oo rfl rfl)) ?_
  refine .nil ?_
  refine .seq ?_
  refine .region ?_
  refine W.pure (v := .int _ _) rfl rfl (v_move (oo rfl rfl)) ?_
  refine W.pure rfl rfl (v_int (oo rfl rfl) (oo rfl rfl) rfl) ?_
  refine .nil ?_
  refine .cond rfl rfl (fun g6 => ?_) (fun g6 => ?_)
  · try simp only [decide_eq_true_eq, decide_eq_false_iff_not, beq_iff_eq, bne_iff_ne, beq_eq_false_iff_ne, bne_eq_false_iff_eq, List.length_map, gt_iff_lt, ge_iff_le, Int.not_lt, Int.not_le] at g6
    refine .seq ?_
    refine .region ?_
    refine W.pure (v := .int _ _) rfl rfl (v_move (oo rfl rfl)) ?_
    refine W.pure (v := _) rfl rfl (v_assign (oo rfl rfl)) ?_
    refine W.pure (v := .int _ _) rfl rfl (v_assign (oo rfl rfl)) ?_
    refine .nil ?_
    refine .ret ?_
    refine ret2V (P := Try.prog) (fn := Try.f10) (n := 16) (R := fun v H' => (∃ sv : Value, v = .tuple #[sv, .int .i64 (checkS n l)] ∧ (checkS n l ≠ 0 → sv = .slice none 0 0) ∧ (checkS n l = 0 → ∃ (b' : Nat) (cs : List Int) (m : Nat), sv = .slice (some ⟨b', 0, some 0⟩) n.toNat n.toNat ∧ H.next ≤ b' ∧ H'.get b' = some ⟨cs.map (Value.int .i64), 3, 1, true⟩ ∧ Outer l (fun _ => true) n.toNat cs m n.toNat)) ∧ Ext H H') (v := _) (w := .int _ _) (by rfl) (by rfl) (by exact rfl) (by exact rfl) ?_
    -- leaf 1
    exact ⟨⟨_, rfl, fun _ => rfl, fun h => absurd h g6⟩, e5⟩
  · try simp only [decide_eq_true_eq, decide_eq_false_iff_not, beq_iff_eq, bne_iff_ne, beq_eq_false_iff_ne, bne_eq_false_iff_eq, List.length_map, gt_iff_lt, ge_iff_le, Int.not_lt, Int.not_le] at g6
    refine .skip ?_
    refine .seq ?_
    refine .region ?_
    refine W.pure (v := .int _ _) rfl rfl (v_move (oo rfl rfl)) ?_
    refine W.pure (v := lv) rfl rfl (v_move (oo rfl rfl)) ?_
    obtain ⟨pv, H7, c8, ⟨bo, cs, m, rfl, hbo, kbo, hO⟩, x10⟩ := (f55_int H1 n lv (.func (.func 56) #[] #[]) l (fun _ => true) g6 (hl.ext e5) (used56 _ _))
    refine W.call rfl rfl (fn := Try.f55) (by kernel_rfl) rfl rfl c8 ?_
    have fr11 := Nat.le_trans (e5).1 hbo
    have e12 := Ext.trans e5 x10
    refine W.pure (v := .slice (some ⟨bo, 0, some 0⟩) n.toNat n.toNat) rfl rfl (v_assign (oo rfl rfl)) ?_
    refine W.pure (v := .int _ _) rfl rfl (v_assign (oo rfl rfl)) ?_
    refine .nil ?_
    refine .ret ?_
    refine ret2V (P := Try.prog) (fn := Try.f10) (n := 16) (R := fun v H' => (∃ sv : Value, v = .tuple #[sv, .int .i64 (checkS n l)] ∧ (checkS n l ≠ 0 → sv = .slice none 0 0) ∧ (checkS n l = 0 → ∃ (b' : Nat) (cs : List Int) (m : Nat), sv = .slice (some ⟨b', 0, some 0⟩) n.toNat n.toNat ∧ H.next ≤ b' ∧ H'.get b' = some ⟨cs.map (Value.int .i64), 3, 1, true⟩ ∧ Outer l (fun _ => true) n.toNat cs m n.toNat)) ∧ Ext H H') (v := .slice (some ⟨bo, 0, some 0⟩) n.toNat n.toNat) (w := .int _ _) (by rfl) (by rfl) (by exact rfl) (by exact rfl) ?_
    -- leaf 2
    exact ⟨⟨_, by rw [g6], fun h => absurd g6 h, fun _ => ⟨bo, cs, m, rfl, fr11, kbo, hO⟩⟩, e12⟩

end Go.Am.Try
