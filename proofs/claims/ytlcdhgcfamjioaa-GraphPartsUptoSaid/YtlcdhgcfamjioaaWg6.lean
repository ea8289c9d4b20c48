/- Walk: graph.Bridges. -/
import Derived.Test.YtlcdhgcfamjioaaWg5
namespace Go.Am.Try
open Go Go.Am Go.Proofs
set_option linter.unusedVariables false
set_option linter.unusedSimpArgs false
def num (k : Nat) : List Value := [.int .i64 (k : Int)]
/-- Whether the two ends of a line are apart without it. -/
noncomputable def isBr (l : List (Int × Int)) (k : Nat) : Bool := @decide (¬ Con l (fun j => j != k) (l.getD k (0, 0)).1.toNat (l.getD k (0, 0)).2.toNat) (Classical.propDecidable _)
noncomputable def brs (l : List (Int × Int)) (i : Nat) : List Nat := (List.range i).filter (isBr l)
theorem brs_len (l : List (Int × Int)) (i : Nat) : (brs l i).length ≤ i := by
  have := List.length_filter_le (isBr l) (List.range i)
  simpa [brs] using this
theorem valid_int {n : Int} {l : List (Int × Int)} (h : checkS n l = 0) : Valid n.toNat l := by
  obtain ⟨h0, h1, h2, h3⟩ := checkS_inv h
  obtain ⟨N, rfl⟩ := Int.eq_ofNat_of_zero_le h0
  exact valid_of h3
theorem isBr_iff {l : List (Int × Int)} {n i m : Nat} {cs : List Int} (hO : Outer l (fun j => j != i) n cs m n) (vl : Valid n l) (hi : i < l.length) : isBr l i = true ↔ cs.getD (l.getD i (0, 0)).1.toNat 0 ≠ cs.getD (l.getD i (0, 0)).2.toNat 0 := by
  have := hO.cls _ _ (vl i hi).2.1 (vl i hi).2.2.2 (hO.done _ (vl i hi).2.1 (vl i hi).2.1)
  unfold isBr
  rw [@decide_eq_true_iff _ (Classical.propDecidable _), ← this]
theorem brs_yes {l : List (Int × Int)} {n i m : Nat} {cs : List Int} (hO : Outer l (fun j => j != i) n cs m n) (vl : Valid n l) (hi : i < l.length) (h : cs.getD (l.getD i (0, 0)).1.toNat 0 ≠ cs.getD (l.getD i (0, 0)).2.toNat 0) : (brs l (i + 1)).map num = (brs l i).map num ++ [[.int .i64 (i : Int)]] := by
  have hn := (isBr_iff hO vl hi).2 h
  unfold brs
  rw [List.range_succ, List.filter_append, List.map_append]
  simp only [List.filter_cons, hn, if_true, List.filter_nil, List.map_cons, List.map_nil, num]
theorem brs_no {l : List (Int × Int)} {n i m : Nat} {cs : List Int} (hO : Outer l (fun j => j != i) n cs m n) (vl : Valid n l) (hi : i < l.length) (h : cs.getD (l.getD i (0, 0)).1.toNat 0 = cs.getD (l.getD i (0, 0)).2.toNat 0) : (brs l (i + 1)).map num = (brs l i).map num := by
  have hn : isBr l i = false := by
    cases hb : isBr l i with
    | false => rfl
    | true => exact absurd h ((isBr_iff hO vl hi).1 hb)
  unfold brs
  rw [List.range_succ, List.filter_append, List.map_append]
  simp [hn]

theorem f11_ok (H : AH) (n : Int) (lv : Value) (l : List (Int × Int)) (hl : Sl H 2 lv (l.map pr)) (hlen : l.length ≤ 1048576) : ∃ v H', ACalls Try.prog 11 [.int .i64 n, lv] H v H' ∧ (fun v H' => (∃ sv : Value, v = .tuple #[sv, .int .i64 (checkS n l)] ∧ (checkS n l ≠ 0 → sv = .slice none 0 0) ∧ (checkS n l = 0 → Sl H' 1 sv ((brs l l.length).map num))) ∧ Ext H H') v H' := by
  have he : ∀ i, i < l.length → (l.map pr)[i]? = some [.int .i64 (l.getD i (0,0)).1, .int .i64 (l.getD i (0,0)).2] := by
    intro i hi
    simp [hi, pr, List.getD_eq_getElem?_getD]
  refine calls_of_AW (n := 45) (fn := Try.f11) (by kernel_rfl) rfl rfl ?_
  refine .seq ?_
  refine .region ?_
  refine W.pure (v := _) rfl rfl (v_assign (oo rfl rfl)) ?_
  refine W.pure (v := .int _ _) rfl rfl (v_assign (oo rfl rfl)) ?_
  refine .nil ?_
  refine .seq ?_
  refine .seq ?_
  refine .region ?_
  refine W.pure (v := .int _ _) rfl rfl (v_move (oo rfl rfl)) ?_
  refine W.pure (v := lv) rfl rfl (v_move (oo rfl rfl)) ?_
  obtain ⟨_, H1, c2, rfl, x4⟩ := (f13_ok H n lv l (hl.ext (Ext.refl _)) hlen)
  refine W.call rfl rfl (fn := Try.f13) (by kernel_rfl) rfl rfl c2 ?_
  have e5 := Ext.trans (Ext.refl _) x4
  refine W.pure (v := .int _ _) rfl rfl (v_assign (oo rfl rfl)) ?_
  refine .nil ?_
  refine .seq ?_
  refine .region ?_
  refine W.pure (v := .int _ _) rfl rfl (v_move (oo rfl rfl)) ?_
  refine W.pure rfl rfl (v_int (oo rfl rfl) (oo rfl rfl) rfl) ?_
  refine .nil ?_
  refine .cond rfl rfl (fun g6 => ?_) (fun g6 => ?_)
  · try simp only [decide_eq_true_eq, decide_eq_false_iff_not, beq_iff_eq, bne_iff_ne, beq_eq_false_iff_ne, bne_eq_false_iff_eq, List.length_map, gt_iff_lt, ge_iff_le, Int.not_lt, Int.not_le] at g6
    refine .seq ?_
    refine .region ?_
    refine W.pure (v := .int _ _) rfl rfl (v_move (oo rfl rfl)) ?_
    refine W.pure (v := _) rfl rfl (v_assign (oo rfl rfl)) ?_
    refine W.pure (v := .int _ _) rfl rfl (v_assign (oo rfl rfl)) ?_
    refine .nil ?_
    refine .ret ?_
    refine ret2V (P := Try.prog) (fn := Try.f11) (n := 45) (R := fun v H' => (∃ sv : Value, v = .tuple #[sv, .int .i64 (checkS n l)] ∧ (checkS n l ≠ 0 → sv = .slice none 0 0) ∧ (checkS n l = 0 → Sl H' 1 sv ((brs l l.length).map num))) ∧ Ext H H') (v := _) (w := .int _ _) (by rfl) (by rfl) (by exact rfl) (by exact rfl) ?_
    -- leaf 1
    exact ⟨⟨_, rfl, fun _ => rfl, fun h => absurd h g6⟩, e5⟩
  · try simp only [decide_eq_true_eq, decide_eq_false_iff_not, beq_iff_eq, bne_iff_ne, beq_eq_false_iff_ne, bne_eq_false_iff_eq, List.length_map, gt_iff_lt, ge_iff_le, Int.not_lt, Int.not_le] at g6
    refine .skip ?_
    refine .seq ?_
    refine .region ?_
    refine W.pure (v := _) rfl rfl (v_assign (oo rfl rfl)) ?_
    refine .nil ?_
    refine .seq ?_
    refine .seq ?_
    refine .region ?_
    refine W.pure (v := lv) rfl rfl (v_move (oo rfl rfl)) ?_
    refine W.pure rfl rfl (len_sl (oo rfl rfl) (Sl.isSl (hl.ext e5)) (elemT_inv el22)) ?_
    refine W.pure (v := .int _ _) rfl rfl (v_move (oo rfl rfl)) ?_
    refine .nil ?_
    refine .block ?_
    refine AW.loop (α := Nat × Value) (fun (i, bv) σ' H' => (Ext H H') ∧ (σ' 19 = .int .i64 (i : Nat)) ∧ (σ' 7 = bv) ∧ (Bld H' H.next 3 1 bv ((brs l i).map num)) ∧ (i ≤ l.length)) (fun (i, bv) => l.length - i) (0, .slice none 0 0) ⟨e5, rfl, rfl, (Bld.nil _ _ _ _), (Nat.zero_le _)⟩ ?_
    rintro ⟨i, bv⟩ σ11 H12 fr13 ⟨e7, t19_8, t7_9, bd10, hil⟩
    have h0_14 : σ11 0 = _ := (fr13 0 rfl).trans rfl
    have h1_15 : σ11 1 = lv := (fr13 1 rfl).trans rfl
    have h17_16 : σ11 17 = lv := (fr13 17 rfl).trans rfl
    have h18_17 : σ11 18 = _ := (fr13 18 rfl).trans rfl
    have h44_18 : σ11 44 = _ := (fr13 44 rfl).trans rfl
    have hc : checkS n l = 0 := g6
    have vl := valid_int hc
    refine .seq ?_
    refine .region ?_
    refine W.pure rfl rfl (v_int (oo rfl t19_8) (oo rfl h18_17) rfl) ?_
    refine .nil ?_
    refine .seq ?_
    refine .cond rfl rfl (fun g19 => ?_) (fun g19 => ?_)
    · try simp only [decide_eq_true_eq, decide_eq_false_iff_not, beq_iff_eq, bne_iff_ne, beq_eq_false_iff_ne, bne_eq_false_iff_eq, List.length_map, gt_iff_lt, ge_iff_le, Int.not_lt, Int.not_le] at g19
      have hi : i < l.length := by omega
      refine .skip ?_
      refine .seq ?_
      refine .block ?_
      refine .seq ?_
      refine .region ?_
      refine W.pure (v := .int _ _) rfl rfl (v_move (oo rfl t19_8)) ?_
      refine W.pure rfl rfl (v_idxN el22 sz29 (oo rfl h17_16) (oo rfl t19_8) (Sl.isSl (hl.ext e7)) (by simpa using hi)) ?_
      refine W.loadA rfl rfl ag29 sz29 (Sl.idx (hl.ext e7) (he i hi)) rfl ?_
      refine W.alloc rfl rfl ze3 (by kernel_rfl) fun b20 H21 nb22 => ?_
      have fr23 := Nat.le_trans (e7).1 nb22.fresh
      have a24 := Bld.apart bd10 nb22.fresh
      have e25 := Ext.trans e7 nb22.ext
      have bd26 := Bld.ext bd10 nb22.ext
      have k27 := nb22.get
      refine W.alloc rfl rfl ze29 (by kernel_rfl) fun b28 H29 nb30 => ?_
      have fr31 := Nat.le_trans (e25).1 nb30.fresh
      have ne32 := nb30.ne k27
      have a33 := Bld.apart bd26 nb30.fresh
      have e34 := Ext.trans e25 nb30.ext
      have k35 := (nb30.ext).2 _ _ k27
      have bd36 := Bld.ext bd26 nb30.ext
      have k37 := nb30.get
      refine W.storeL (v := .int _ _) rfl rfl sz3 rfl rfl k35 rfl rfl rfl (Nat.le_of_ble_eq_true rfl)  fun H38 sb39 => ?_
      have e40 := sb39.ext e34 fr23
      have k41 := sb39.get
      have k42 := sb39.old k37 (Ne.symm ne32)
      have bd43 := Bld.set bd36 sb39 a24
      refine W.storeL (v := .agg _) rfl rfl sz29 rfl rfl k42 rfl rfl rfl (Nat.le_of_ble_eq_true rfl)  fun H44 sb45 => ?_
      have e46 := sb45.ext e40 fr31
      have k47 := sb45.old k41 ne32
      have k48 := sb45.get
      have bd49 := Bld.set bd43 sb45 a33
      refine .nil ?_
      refine .seq ?_
      refine .region ?_
      refine W.pure (v := .int _ _) rfl rfl (v_move (oo rfl h0_14)) ?_
      refine W.pure (v := lv) rfl rfl (v_move (oo rfl h1_15)) ?_
      refine W.pure rfl rfl (v_makeFunc (opndL_ooL rfl rfl) (opndL_ooL rfl rfl)) ?_
      obtain ⟨_, H50, c51, ⟨bo, cs, m, rfl, hbo, kbo, hO⟩, x53⟩ := (f55_int H44 n lv (.func (.func 57) #[] #[.pointer (some ⟨b20, 0, none⟩)]) l (fun k => k != i) hc (hl.ext e46) (used57 _ i _ _ k47 rfl _))
      refine W.call rfl rfl (fn := Try.f55) (by kernel_rfl) rfl rfl c51 ?_
      have fr54 := Nat.le_trans (e46).1 hbo
      have a55 := Bld.apart bd49 hbo
      have ne56 := Nat.ne_of_lt (Nat.lt_of_lt_of_le (lt_next k47) hbo)
      have ne57 := Nat.ne_of_lt (Nat.lt_of_lt_of_le (lt_next k48) hbo)
      have e58 := Ext.trans e46 x53
      have k59 := (x53).2 _ _ k47
      have k60 := (x53).2 _ _ k48
      have bd61 := Bld.ext bd49 x53
      refine W.pure (v := .slice (some ⟨bo, 0, some 0⟩) n.toNat n.toNat) rfl rfl (v_assign (oo rfl rfl)) ?_
      refine .nil ?_
      refine .seq ?_
      refine .draw (M := [0, 0, 2, 7, 15, 0, 0, 64, 224, 480, 1023]) mixed (by kernel_rfl) (by kernel_rfl) fun H62 x63 => ?_
      have e64 := Ext.trans e58 x63
      have k65 := (x63).2 _ _ k59
      have k66 := (x63).2 _ _ k60
      have k67 := (x63).2 _ _ kbo
      have bd68 := Bld.ext bd61 x63
      refine D.pure (v := .slice (some ⟨bo, 0, some 0⟩) n.toNat n.toNat) rfl rfl (v_move (oo rfl rfl)) ?_
      refine D.pure rfl rfl (v_idxA ar29 sz3 (oo rfl rfl) (oo rfl rfl) (Pt.loc k66) (by decide) (by decide)) ?_
      refine D.load1 rfl rfl ag3 (Pt.sub (Pt.loc k66) 0 1 rfl) RS.nil fa_nil fun rs69 => ?_
      refine D.pure rfl rfl (v_idx el24 sz3 (oo rfl rfl) (oo rfl rfl) (Or.inr ⟨_, _, _, _, rfl⟩) (vl i hi).1 (vl i hi).2.1) ?_
      refine D.load1 rfl rfl ag3 (Pt.int k67 (i := (l.getD i (0, 0)).1.toNat) (by rw [hO.len]; exact (vl i hi).2.1)) rs69 fa_nil fun rs70 => ?_
      refine D.pure (v := .slice (some ⟨bo, 0, some 0⟩) n.toNat n.toNat) rfl rfl (v_move (oo rfl rfl)) ?_
      refine D.pure rfl rfl (v_idxA ar29 sz3 (oo rfl rfl) (oo rfl rfl) (Pt.loc k66) (by decide) (by decide)) ?_
      refine D.load1 rfl rfl ag3 (Pt.sub (Pt.loc k66) 1 1 rfl) rs70 fa_nil fun rs71 => ?_
      refine D.pure rfl rfl (v_idx el24 sz3 (oo rfl rfl) (oo rfl rfl) (Or.inr ⟨_, _, _, _, rfl⟩) (vl i hi).2.2.1 (vl i hi).2.2.2) ?_
      refine D.load1 rfl rfl ag3 (Pt.int k67 (i := (l.getD i (0, 0)).2.toNat) (by rw [hO.len]; exact (vl i hi).2.2.2)) rs71 fa_nil fun rs72 => ?_
      refine D.pure rfl rfl (v_int (oo rfl rfl) (oo rfl rfl) rfl) ?_
      refine .nil ?_
      refine .cond rfl rfl (fun g73 => ?_) (fun g73 => ?_)
      · try simp only [decide_eq_true_eq, decide_eq_false_iff_not, beq_iff_eq, bne_iff_ne, beq_eq_false_iff_ne, bne_eq_false_iff_eq, List.length_map, gt_iff_lt, ge_iff_le, Int.not_lt, Int.not_le] at g73
        refine .region ?_
        refine W.pure (v := bv) rfl rfl (v_move (oo rfl t7_9)) ?_
        refine W.load1 rfl rfl ag3 (Pt.loc k65) ?_
        refine W.buildSlice rfl rfl el24 ze3 sz3 (by kernel_rfl) (opndP_oo (by rfl) (by rfl)) (by rfl) fun b74 H75 nb76 => ?_
        have fr77 := Nat.le_trans (e64).1 nb76.fresh
        have ne78 := nb76.ne k65
        have ne79 := nb76.ne k66
        have ne80 := nb76.ne k67
        have a81 := Bld.apart bd68 nb76.fresh
        have e82 := Ext.trans e64 nb76.ext
        have k83 := (nb76.ext).2 _ _ k65
        have k84 := (nb76.ext).2 _ _ k66
        have k85 := (nb76.ext).2 _ _ k67
        have bd86 := Bld.ext bd68 nb76.ext
        have k87 := nb76.get
        refine W.append rfl rfl el24 ni24 ze3 sz3 by3 rfl (by decide) bd86 (Sl.one k87 rfl rfl) rfl (by have := brs_len l i; simp; omega) (e82).1 fun v88 H89 bd90 ap91 => ?_
        have e92 := App.ext ap91 e82 bd86 (Nat.le_refl _)
        have k93 := (ap91.keep _ _ k83 a24).1
        have a94 := (ap91.keep _ _ k83 a24).2
        have k95 := (ap91.keep _ _ k84 a33).1
        have a96 := (ap91.keep _ _ k84 a33).2
        have k97 := (ap91.keep _ _ k85 a55).1
        have a98 := (ap91.keep _ _ k85 a55).2
        have k99 := (ap91.keep _ _ k87 a81).1
        have a100 := (ap91.keep _ _ k87 a81).2
        refine W.pure (v := v88) rfl rfl (v_assign (oo rfl rfl)) ?_
        refine .nil ?_
        refine .region ?_
        refine W.pure rfl rfl (v_inc (oo rfl t19_8) (by omega)) ?_
        refine W.pure (v := .int _ _) rfl rfl (v_move (oo rfl rfl)) ?_
        refine .nil ?_
        refine ⟨(i + 1, v88), by dsimp only; omega, e92, rfl, rfl, (by rw [brs_yes hO vl hi g73]; exact bd90), (by omega)⟩
      · try simp only [decide_eq_true_eq, decide_eq_false_iff_not, beq_iff_eq, bne_iff_ne, beq_eq_false_iff_ne, bne_eq_false_iff_eq, List.length_map, gt_iff_lt, ge_iff_le, Int.not_lt, Int.not_le] at g73
        refine .skip ?_
        refine .region ?_
        refine W.pure rfl rfl (v_inc (oo rfl t19_8) (by omega)) ?_
        refine W.pure (v := .int _ _) rfl rfl (v_move (oo rfl rfl)) ?_
        refine .nil ?_
        refine ⟨(i + 1, bv), by dsimp only; omega, e64, rfl, t7_9, (by rw [brs_no hO vl hi g73]; exact bd68), (by omega)⟩
    · try simp only [decide_eq_true_eq, decide_eq_false_iff_not, beq_iff_eq, bne_iff_ne, beq_eq_false_iff_ne, bne_eq_false_iff_eq, List.length_map, gt_iff_lt, ge_iff_le, Int.not_lt, Int.not_le] at g19
      refine .exit ?_
      refine .seq ?_
      refine .region ?_
      refine W.pure (v := bv) rfl rfl (v_move (oo rfl t7_9)) ?_
      refine W.pure (v := bv) rfl rfl (v_assign (oo rfl rfl)) ?_
      refine W.pure (v := .int _ _) rfl rfl (v_assign (oo rfl rfl)) ?_
      refine .nil ?_
      refine .ret ?_
      refine ret2V (P := Try.prog) (fn := Try.f11) (n := 45) (R := fun v H' => (∃ sv : Value, v = .tuple #[sv, .int .i64 (checkS n l)] ∧ (checkS n l ≠ 0 → sv = .slice none 0 0) ∧ (checkS n l = 0 → Sl H' 1 sv ((brs l l.length).map num))) ∧ Ext H H') (v := bv) (w := .int _ _) (by rfl) (by rfl) (by exact rfl) (by exact rfl) ?_
      -- leaf 2
      have hil2 : i = l.length := by omega
      subst hil2
      exact ⟨⟨_, by rw [hc], fun h => absurd hc h, fun _ => Bld.sl bd10⟩, e7⟩

end Go.Am.Try
