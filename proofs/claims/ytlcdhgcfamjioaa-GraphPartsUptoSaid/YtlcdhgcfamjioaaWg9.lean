/- The law GraphParts. -/
import Derived.Test.YtlcdhgcfamjioaaWg8
import Derived.Test.YtlcdhgcfamjioaaWg9a
namespace Go.Am.Try
open Go Go.Am Go.Proofs
set_option linter.unusedVariables false
set_option linter.unusedSimpArgs false
theorem seg {n : Nat} {xs : List Int} (hr : ∀ i < n, 0 < xs.getD i 0 → ∃ j < i, xs.getD j 0 = xs.getD i 0 - 1) : ∀ i, i < n → ∀ v, 0 ≤ v → v ≤ xs.getD i 0 → ∃ j, j ≤ i ∧ xs.getD j 0 = v := by
  intro i
  induction i using Nat.strongRecOn with
  | ind i ih =>
    intro hi v h0 hv
    by_cases e : v = xs.getD i 0
    · exact ⟨i, Nat.le_refl _, e.symm⟩
    · obtain ⟨j, h1, h2⟩ := hr i hi (by omega)
      obtain ⟨k, h3, h4⟩ := ih j h1 (by omega) v h0 (by omega)
      exact ⟨k, by omega, h4⟩
theorem canon_eq {n : Nat} {R : Nat → Nat → Prop} {xs cs : List Int} (l1 : xs.length = n) (l2 : cs.length = n) (p1 : ∀ i < n, 0 ≤ xs.getD i 0) (p2 : ∀ i < n, 0 ≤ cs.getD i 0)
    (c1 : ∀ i j, i < n → j < n → (xs.getD i 0 = xs.getD j 0 ↔ R i j)) (c2 : ∀ i j, i < n → j < n → (cs.getD i 0 = cs.getD j 0 ↔ R i j))
    (r1 : ∀ i < n, 0 < xs.getD i 0 → ∃ j < i, xs.getD j 0 = xs.getD i 0 - 1) (r2 : ∀ i < n, 0 < cs.getD i 0 → ∃ j < i, cs.getD j 0 = cs.getD i 0 - 1) : xs = cs := by
  have key : ∀ i, i < n → xs.getD i 0 = cs.getD i 0 := by
    intro i
    induction i using Nat.strongRecOn with
    | ind i ih =>
      intro hi
      rcases Int.lt_trichotomy (xs.getD i 0) (cs.getD i 0) with h | h | h
      · exfalso
        have := p1 i hi
        obtain ⟨j, h1, h2⟩ := r2 i hi (by omega)
        obtain ⟨k, h3, h4⟩ := seg r2 j (by omega) (xs.getD i 0) this (by omega)
        have hk := ih k (by omega) (by omega)
        have hR := (c1 i k hi (by omega)).1 (by omega)
        have := (c2 i k hi (by omega)).2 hR
        omega
      · exact h
      · exfalso
        have := p2 i hi
        obtain ⟨j, h1, h2⟩ := r1 i hi (by omega)
        obtain ⟨k, h3, h4⟩ := seg r1 j (by omega) (cs.getD i 0) this (by omega)
        have hk := ih k (by omega) (by omega)
        have hR := (c2 i k hi (by omega)).1 (by omega)
        have := (c1 i k hi (by omega)).2 hR
        omega
  apply List.ext_getElem (by omega)
  intro i h1 h2
  have := key i (by omega)
  simpa [List.getD_eq_getElem?_getD, h1, h2] using this
theorem eqv_of {l : List (Int × Int)} {U : Nat → Bool} {n : Nat} {M : Nat → Nat → Bool} (h : ∀ a b, a < n → b < n → (M a b = true ↔ Con l U a b)) : EqvOn M n :=
  ⟨fun a ha => (h a a ha ha).2 (.refl a), fun a b ha hb e => (h b a hb ha).2 ((h a b ha hb).1 e).symm, fun a b c ha hb hc e1 e2 => (h a c ha hc).2 (((h a b ha hb).1 e1).trans ((h b c hb hc).1 e2))⟩
theorem same_numbers {l : List (Int × Int)} {U : Nat → Bool} {n m m' : Nat} {M : Nat → Nat → Bool} {xs cs : List Int} (hM : ∀ a b, a < n → b < n → (M a b = true ↔ Con l U a b)) (hO : Outer l U n xs m n) (hN : NumOk M cs m' n) : xs = cs :=
  canon_eq (R := Con l U) hO.len hN.len (fun i hi => hO.done i hi hi) (fun i hi => (hN.rng i hi).1) (fun i j hi hj => hO.cls i j hi hj (hO.done i hi hi)) (fun i j hi hj => (hN.cls i j hi hj).trans (hM i j hi hj)) hO.rgs hN.rgs
theorem Sl.ints {H : AH} {b n : Nat} {cs : List Int} {e : TypeId} (hb : H.get b = some ⟨cs.map (Value.int .i64), e, 1, true⟩) (hl : cs.length = n) : Sl H 1 (.slice (some ⟨b, 0, some 0⟩) n n) (cs.map fun a => [Value.int .i64 a]) := by
  subst hl
  refine ⟨by simp, .inr (.inl ⟨b, 0, some 0, cs.length, _, by simp, hb, by simp, ?_⟩)⟩
  rw [flat_one]
  simp only [List.drop_zero, List.length_map, Nat.mul_one]
  exact List.take_of_length_le (by simp)
theorem f10x (H : AH) (n : Int) (lv : Value) (l : List (Int × Int)) (hl : Sl H 2 lv (l.map pr)) (hlen : l.length ≤ 1048576) : ∃ v H', ACalls Try.prog 10 [.int .i64 n, lv] H v H' ∧ (∃ (sv : Value) (xs : List Int), v = .tuple #[sv, .int .i64 (checkS n l)] ∧ Sl H' 1 sv (xs.map fun a => [Value.int .i64 a]) ∧ (checkS n l ≠ 0 → xs = []) ∧ (checkS n l = 0 → ∃ m, Outer l (fun _ => true) n.toNat xs m n.toNat)) ∧ Ext H H' := by
  obtain ⟨v, H', h1, ⟨sv, h2, h3, h4⟩, h5⟩ := f10_ok H n lv l hl hlen
  by_cases hc : checkS n l = 0
  · obtain ⟨b', cs, m, h6, _, h7, h8⟩ := h4 hc
    exact ⟨v, H', h1, ⟨sv, cs, h2, by rw [h6]; exact Sl.ints h7 h8.len, fun h => absurd hc h, fun _ => ⟨m, h8⟩⟩, h5⟩
  · exact ⟨v, H', h1, ⟨sv, [], h2, by rw [h3 hc]; exact Sl.nil _ _, fun _ => rfl, fun h => absurd h hc⟩, h5⟩
theorem num_ints (L : List Nat) : L.map num = (L.map fun k : Nat => (k : Int)).map fun a => [Value.int .i64 a] := by simp [num, Function.comp_def]
theorem f11x (H : AH) (n : Int) (lv : Value) (l : List (Int × Int)) (hl : Sl H 2 lv (l.map pr)) (hlen : l.length ≤ 1048576) : ∃ v H', ACalls Try.prog 11 [.int .i64 n, lv] H v H' ∧ (∃ (sv : Value) (xs : List Int), v = .tuple #[sv, .int .i64 (checkS n l)] ∧ Sl H' 1 sv (xs.map fun a => [Value.int .i64 a]) ∧ (checkS n l ≠ 0 → xs = []) ∧ (checkS n l = 0 → xs = (brs l l.length).map fun k : Nat => (k : Int))) ∧ Ext H H' := by
  obtain ⟨v, H', h1, ⟨sv, h2, h3, h4⟩, h5⟩ := f11_ok H n lv l hl hlen
  by_cases hc : checkS n l = 0
  · exact ⟨v, H', h1, ⟨sv, _, h2, by rw [← num_ints]; exact h4 hc, fun h => absurd hc h, fun _ => rfl⟩, h5⟩
  · exact ⟨v, H', h1, ⟨sv, [], h2, by rw [h3 hc]; exact Sl.nil _ _, fun _ => rfl, fun h => absurd h hc⟩, h5⟩
theorem f14_int (H : AH) (n : Int) (lv uv : Value) (l : List (Int × Int)) (U : Nat → Bool) (hc : checkS n l = 0) (hl : Sl H 2 lv (l.map pr)) (hu : Used Try.prog H uv l.length U) : ∃ v H', ACalls Try.prog 14 [.int .i64 n, lv, uv] H v H' ∧ (∃ (rv : Nat → Value) (M : Nat → Nat → Bool), Sl H' 1 v ((List.range n.toNat).map fun i => [rv i]) ∧ (∀ i < n.toNat, Sl H' 1 (rv i) ((List.range n.toNat).map fun k => [Value.bool (M i k)])) ∧ ∀ a b, a < n.toNat → b < n.toNat → (M a b = true ↔ Con l U a b)) ∧ Ext H H' := by
  have vl := valid_int hc
  obtain ⟨h0, h1, h2, h3⟩ := checkS_inv hc
  obtain ⟨N, rfl⟩ := Int.eq_ofNat_of_zero_le h0
  exact f14_ok H N lv uv l U (by omega) h2 hl vl hu
theorem br_yes {l : List (Int × Int)} {i : Nat} (h : ¬ Con l (fun j => j != i) (l.getD i (0, 0)).1.toNat (l.getD i (0, 0)).2.toNat) : (brs l (i + 1)).map num = (brs l i).map num ++ [[.int .i64 (i : Int)]] := by
  have hn : isBr l i = true := by unfold isBr; rw [@decide_eq_true_iff _ (Classical.propDecidable _)]; exact h
  unfold brs
  rw [List.range_succ, List.filter_append, List.map_append]
  simp only [List.filter_cons, hn, if_true, List.filter_nil, List.map_cons, List.map_nil, num]
theorem br_no {l : List (Int × Int)} {i : Nat} (h : Con l (fun j => j != i) (l.getD i (0, 0)).1.toNat (l.getD i (0, 0)).2.toNat) : (brs l (i + 1)).map num = (brs l i).map num := by
  have hn : isBr l i = false := by unfold isBr; rw [@decide_eq_false_iff_not _ (Classical.propDecidable _)]; exact fun hh => hh h
  unfold brs
  rw [List.range_succ, List.filter_append, List.map_append]
  simp [hn]

theorem f3_ok (H : AH) (n : Int) (lv : Value) (l : List (Int × Int)) (hl : Sl H 2 lv (l.map pr)) (hlen : l.length ≤ 1048576) : ∃ v H', ACalls Try.prog 3 [.int .i64 n, lv] H v H' ∧ (fun v H' => v = .bool true ∧ Ext H H') v H' := by
  have he : ∀ i, i < l.length → (l.map pr)[i]? = some [.int .i64 (l.getD i (0,0)).1, .int .i64 (l.getD i (0,0)).2] := by
    intro i hi
    simp [hi, pr, List.getD_eq_getElem?_getD]
  refine calls_of_AW (n := 100) (fn := Try.f3) (by kernel_rfl) rfl rfl ?_
  refine .seq ?_
  refine .region ?_
  refine W.pure (v := .bool _) rfl rfl (v_assign (oo rfl rfl)) ?_
  refine .nil ?_
  refine .seq ?_
  refine .seq ?_
  refine .region ?_
  obtain ⟨_, H1, c2, rfl, x4⟩ := (f9_ok H)
  refine W.call rfl rfl (fn := Try.f9) (by kernel_rfl) rfl rfl c2 ?_
  have e5 := Ext.trans (Ext.refl _) x4
  refine W.pure rfl rfl (bool_not (oo rfl rfl)) ?_
  refine .nil ?_
  refine .condF rfl rfl ?_
  refine .skip ?_
  refine .seq ?_
  refine .seq ?_
  refine .region ?_
  refine W.pure (v := .int _ _) rfl rfl (v_move (oo rfl rfl)) ?_
  refine W.pure rfl rfl (v_int (oo rfl rfl) (oo rfl rfl) rfl) ?_
  refine W.pure (v := .bool _) rfl rfl (v_move (oo rfl rfl)) ?_
  refine W.splitAt (t := 17) rfl (fun g6 gv7 => ?_) (fun g6 gv7 => ?_)
  · try simp only [decide_eq_true_eq, decide_eq_false_iff_not, beq_iff_eq, bne_iff_ne, beq_eq_false_iff_ne, bne_eq_false_iff_eq, List.length_map, gt_iff_lt, ge_iff_le, Int.not_lt, Int.not_le] at g6
    refine W.pure (v := .int _ _) (gk rfl rfl gv7 rfl) rfl (v_move (oo rfl rfl)) ?_
    refine W.pure (gk rfl rfl gv7 rfl) rfl (v_int (oo rfl rfl) (oo rfl rfl) rfl) ?_
    refine W.pure (v := .bool _) rfl rfl (v_pickT (oo rfl gv7) (oo rfl rfl)) ?_
    refine W.pure (v := .bool _) rfl rfl (v_move (oo rfl rfl)) ?_
    refine W.splitAt (t := 21) rfl (fun g8 gv9 => ?_) (fun g8 gv9 => ?_)
    · try simp only [decide_eq_true_eq, decide_eq_false_iff_not, beq_iff_eq, bne_iff_ne, beq_eq_false_iff_ne, bne_eq_false_iff_eq, List.length_map, gt_iff_lt, ge_iff_le, Int.not_lt, Int.not_le] at g8
      refine W.pure (v := lv) (gk rfl rfl gv9 rfl) rfl (v_move (oo rfl rfl)) ?_
      refine W.pure (gk rfl rfl gv9 rfl) rfl (len_sl (oo rfl rfl) (Sl.isSl (hl.ext e5)) (elemT_inv el22)) ?_
      refine W.pure (gk rfl rfl gv9 rfl) rfl (v_int (oo rfl rfl) (oo rfl rfl) rfl) ?_
      refine W.pure (v := .bool _) rfl rfl (v_pickT (oo rfl gv9) (oo rfl rfl)) ?_
      refine .nil ?_
      refine .cond rfl rfl (fun g10 => ?_) (fun g10 => ?_)
      · try simp only [decide_eq_true_eq, decide_eq_false_iff_not, beq_iff_eq, bne_iff_ne, beq_eq_false_iff_ne, bne_eq_false_iff_eq, List.length_map, gt_iff_lt, ge_iff_le, Int.not_lt, Int.not_le] at g10
        refine .seq ?_
        refine .region ?_
        refine W.pure (v := .bool _) rfl rfl (v_assign (oo rfl rfl)) ?_
        refine .nil ?_
        refine .ret ?_
        refine ret1V (P := Try.prog) (fn := Try.f3) (n := 100) (R := fun v H' => v = .bool true ∧ Ext H H') (v := .bool _) (by rfl) (by rfl) (by exact rfl) ?_
        -- leaf 1
        first
          | exact ⟨rfl, e5⟩
          | exact ⟨by rw [hx0 g10, hz0 g10]; rfl, e5⟩
          | exact ⟨congrArg Value.bool (decide_eq_true (by rw [hz1 hc, show i = l.length by omega])), e5⟩
      · try simp only [decide_eq_true_eq, decide_eq_false_iff_not, beq_iff_eq, bne_iff_ne, beq_eq_false_iff_ne, bne_eq_false_iff_eq, List.length_map, gt_iff_lt, ge_iff_le, Int.not_lt, Int.not_le] at g10
        refine .skip ?_
        refine .seq ?_
        refine .region ?_
        refine W.pure (v := .int _ _) rfl rfl (v_move (oo rfl rfl)) ?_
        refine W.pure (v := lv) rfl rfl (v_move (oo rfl rfl)) ?_
        obtain ⟨_, H11, c12, ⟨sv, xs, rfl, hs5, hx0, hx1⟩, x14⟩ := (f10x H1 n lv l (hl.ext e5) hlen)
        refine W.call rfl rfl (fn := Try.f10) (by kernel_rfl) rfl rfl c12 ?_
        have e15 := Ext.trans e5 x14
        have le16 := (e15).1
        refine W.pure (v := _) rfl rfl (v_move (oo rfl rfl)) ?_
        refine W.pure rfl rfl (v_extract (oo rfl rfl) rfl) ?_
        refine W.pure rfl rfl (v_extract (oo rfl rfl) rfl) ?_
        refine W.pure (v := sv) rfl rfl (v_assign (oo rfl rfl)) ?_
        refine W.pure (v := .int _ _) rfl rfl (v_assign (oo rfl rfl)) ?_
        refine .nil ?_
        refine .seq ?_
        refine .region ?_
        refine W.pure (v := .int _ _) rfl rfl (v_move (oo rfl rfl)) ?_
        refine W.pure (v := lv) rfl rfl (v_move (oo rfl rfl)) ?_
        obtain ⟨_, H17, c18, ⟨bv, zs, rfl, hs7, hz0, hz1⟩, x20⟩ := (f11x H11 n lv l (hl.ext e15) hlen)
        refine W.call rfl rfl (fn := Try.f11) (by kernel_rfl) rfl rfl c18 ?_
        have e21 := Ext.trans e15 x20
        have y22 := Ext.trans (Ext.refl _) x20
        have le23 := (e21).1
        have le24 := (y22).1
        refine W.pure (v := _) rfl rfl (v_move (oo rfl rfl)) ?_
        refine W.pure rfl rfl (v_extract (oo rfl rfl) rfl) ?_
        refine W.pure rfl rfl (v_extract (oo rfl rfl) rfl) ?_
        refine W.pure (v := bv) rfl rfl (v_assign (oo rfl rfl)) ?_
        refine W.pure (v := .int _ _) rfl rfl (v_assign (oo rfl rfl)) ?_
        refine .nil ?_
        refine .seq ?_
        refine .region ?_
        refine W.pure (v := .int _ _) rfl rfl (v_move (oo rfl rfl)) ?_
        refine W.pure (v := lv) rfl rfl (v_move (oo rfl rfl)) ?_
        obtain ⟨_, H25, c26, rfl, x28⟩ := (f12_ok H17 n lv l (hl.ext e21) hlen)
        refine W.call rfl rfl (fn := Try.f12) (by kernel_rfl) rfl rfl c26 ?_
        have e29 := Ext.trans e21 x28
        have y30 := Ext.trans y22 x28
        have y31 := Ext.trans (Ext.refl _) x28
        refine W.pure (v := .int _ _) rfl rfl (v_assign (oo rfl rfl)) ?_
        refine .nil ?_
        refine .seq ?_
        refine .seq ?_
        refine .region ?_
        refine W.pure (v := .int _ _) rfl rfl (v_move (oo rfl rfl)) ?_
        refine W.pure (v := lv) rfl rfl (v_move (oo rfl rfl)) ?_
        obtain ⟨_, H32, c33, rfl, x35⟩ := (f13_ok H25 n lv l (hl.ext e29) hlen)
        refine W.call rfl rfl (fn := Try.f13) (by kernel_rfl) rfl rfl c33 ?_
        have e36 := Ext.trans e29 x35
        have y37 := Ext.trans y30 x35
        have y38 := Ext.trans y31 x35
        refine W.pure (v := .int _ _) rfl rfl (v_move (oo rfl rfl)) ?_
        refine W.pure rfl rfl (v_int (oo rfl rfl) (oo rfl rfl) rfl) ?_
        refine W.pure (v := .bool _) rfl rfl (v_move (oo rfl rfl)) ?_
        refine W.pure (v := .int _ _) (gk rfl rfl (congrArg Value.bool (bne_self_eq_false _)) rfl) rfl (v_move (oo rfl rfl)) ?_
        refine W.pure (v := .int _ _) (gk rfl rfl (congrArg Value.bool (bne_self_eq_false _)) rfl) rfl (v_move (oo rfl rfl)) ?_
        refine W.pure (gk rfl rfl (congrArg Value.bool (bne_self_eq_false _)) rfl) rfl (v_int (oo rfl rfl) (oo rfl rfl) rfl) ?_
        refine W.pure (v := .bool _) rfl rfl (v_pickF (oo rfl (congrArg Value.bool (bne_self_eq_false _))) (oo rfl rfl)) ?_
        refine W.pure (v := .bool _) rfl rfl (v_move (oo rfl rfl)) ?_
        refine W.pure (v := .int _ _) (gk rfl rfl (congrArg Value.bool (bne_self_eq_false _)) rfl) rfl (v_move (oo rfl rfl)) ?_
        refine W.pure (v := .int _ _) (gk rfl rfl (congrArg Value.bool (bne_self_eq_false _)) rfl) rfl (v_move (oo rfl rfl)) ?_
        refine W.pure (gk rfl rfl (congrArg Value.bool (bne_self_eq_false _)) rfl) rfl (v_int (oo rfl rfl) (oo rfl rfl) rfl) ?_
        refine W.pure (v := .bool _) rfl rfl (v_pickF (oo rfl (congrArg Value.bool (bne_self_eq_false _))) (oo rfl rfl)) ?_
        refine .nil ?_
        refine .condF rfl (congrArg Value.bool (bne_self_eq_false _)) ?_
        refine .skip ?_
        refine .seq ?_
        refine .seq ?_
        refine .region ?_
        refine W.pure (v := .int _ _) rfl rfl (v_move (oo rfl rfl)) ?_
        refine W.pure rfl rfl (v_int (oo rfl rfl) (oo rfl rfl) rfl) ?_
        refine .nil ?_
        refine .cond rfl rfl (fun g39 => ?_) (fun g39 => ?_)
        · try simp only [decide_eq_true_eq, decide_eq_false_iff_not, beq_iff_eq, bne_iff_ne, beq_eq_false_iff_ne, bne_eq_false_iff_eq, List.length_map, gt_iff_lt, ge_iff_le, Int.not_lt, Int.not_le] at g39
          refine .seq ?_
          refine .region ?_
          refine W.pure (v := sv) rfl rfl (v_move (oo rfl rfl)) ?_
          refine W.pure rfl rfl (len_sl (oo rfl rfl) (Sl.isSl (hs5.ext y37)) (elemT_inv el24)) ?_
          refine W.pure (v := bv) rfl rfl (v_move (oo rfl rfl)) ?_
          refine W.pure rfl rfl (len_sl (oo rfl rfl) (Sl.isSl (hs7.ext y38)) (elemT_inv el24)) ?_
          refine W.pure rfl rfl (v_add (oo rfl rfl) (oo rfl rfl) (by rw [hx0 g39, hz0 g39]; decide) (by rw [hx0 g39, hz0 g39]; decide)) ?_
          refine W.pure rfl rfl (v_int (oo rfl rfl) (oo rfl rfl) rfl) ?_
          refine W.pure (v := .bool _) rfl rfl (v_assign (oo rfl rfl)) ?_
          refine .nil ?_
          refine .ret ?_
          refine ret1V (P := Try.prog) (fn := Try.f3) (n := 100) (R := fun v H' => v = .bool true ∧ Ext H H') (v := .bool _) (by rfl) (by rfl) (by exact rfl) ?_
          -- leaf 2
          first
            | exact ⟨rfl, e36⟩
            | exact ⟨by rw [hx0 g39, hz0 g39]; rfl, e36⟩
            | exact ⟨congrArg Value.bool (decide_eq_true (by rw [hz1 hc, show i = l.length by omega])), e36⟩
        · try simp only [decide_eq_true_eq, decide_eq_false_iff_not, beq_iff_eq, bne_iff_ne, beq_eq_false_iff_ne, bne_eq_false_iff_eq, List.length_map, gt_iff_lt, ge_iff_le, Int.not_lt, Int.not_le] at g39
          refine .skip ?_
          refine .seq ?_
          refine .region ?_
          refine W.pure (v := _) rfl rfl (v_assign (oo rfl rfl)) ?_
          refine .nil ?_
          refine .seq ?_
          refine .seq ?_
          refine .region ?_
          refine W.pure (v := lv) rfl rfl (v_move (oo rfl rfl)) ?_
          refine W.pure rfl rfl (len_sl (oo rfl rfl) (Sl.isSl (hl.ext e36)) (elemT_inv el22)) ?_
          refine W.pure (v := .int _ _) rfl rfl (v_move (oo rfl rfl)) ?_
          refine .nil ?_
          refine .block ?_
          refine AW.loop (α := Nat × Value) (fun (i, bv2) σ' H' => (Ext H H') ∧ (Ext H11 H') ∧ (Ext H17 H') ∧ (σ' 66 = .int .i64 (i : Nat)) ∧ (σ' 10 = bv2) ∧ (Bld H' H17.next 3 1 bv2 ((brs l i).map num)) ∧ (i ≤ l.length)) (fun (i, bv2) => l.length - i) (0, .slice none 0 0) ⟨e36, y37, y38, rfl, rfl, (Bld.nil _ _ _ _), (Nat.zero_le _)⟩ ?_
          rintro ⟨i, bv2⟩ σ46 H47 fr48 ⟨e40, y41, y42, t66_43, t10_44, bd45, hil⟩
          have h0_49 : σ46 0 = _ := (fr48 0 rfl).trans rfl
          have h1_50 : σ46 1 = lv := (fr48 1 rfl).trans rfl
          have h5_51 : σ46 5 = sv := (fr48 5 rfl).trans rfl
          have h7_52 : σ46 7 = bv := (fr48 7 rfl).trans rfl
          have h64_53 : σ46 64 = lv := (fr48 64 rfl).trans rfl
          have h65_54 : σ46 65 = _ := (fr48 65 rfl).trans rfl
          have h89_55 : σ46 89 = _ := (fr48 89 rfl).trans rfl
          have h90_56 : σ46 90 = _ := (fr48 90 rfl).trans rfl
          have h91_57 : σ46 91 = _ := (fr48 91 rfl).trans rfl
          have h92_58 : σ46 92 = _ := (fr48 92 rfl).trans rfl
          have h93_59 : σ46 93 = _ := (fr48 93 rfl).trans rfl
          have h94_60 : σ46 94 = _ := (fr48 94 rfl).trans rfl
          have h95_61 : σ46 95 = _ := (fr48 95 rfl).trans rfl
          have h96_62 : σ46 96 = _ := (fr48 96 rfl).trans rfl
          have h97_63 : σ46 97 = _ := (fr48 97 rfl).trans rfl
          have h98_64 : σ46 98 = _ := (fr48 98 rfl).trans rfl
          have h99_65 : σ46 99 = _ := (fr48 99 rfl).trans rfl
          have hc : checkS n l = 0 := g39
          have vl := valid_int hc
          refine .seq ?_
          refine .region ?_
          refine W.pure rfl rfl (v_int (oo rfl t66_43) (oo rfl h65_54) rfl) ?_
          refine .nil ?_
          refine .seq ?_
          refine .cond rfl rfl (fun g66 => ?_) (fun g66 => ?_)
          · try simp only [decide_eq_true_eq, decide_eq_false_iff_not, beq_iff_eq, bne_iff_ne, beq_eq_false_iff_ne, bne_eq_false_iff_eq, List.length_map, gt_iff_lt, ge_iff_le, Int.not_lt, Int.not_le] at g66
            have hi : i < l.length := by omega
            refine .skip ?_
            refine .seq ?_
            refine .block ?_
            refine .seq ?_
            refine .region ?_
            refine W.pure (v := .int _ _) rfl rfl (v_move (oo rfl t66_43)) ?_
            refine W.pure rfl rfl (v_idxN el22 sz29 (oo rfl h64_53) (oo rfl t66_43) (Sl.isSl (hl.ext e40)) (by simpa using hi)) ?_
            refine W.loadA rfl rfl ag29 sz29 (Sl.idx (hl.ext e40) (he i hi)) rfl ?_
            refine W.alloc rfl rfl ze3 (by kernel_rfl) fun b67 H68 nb69 => ?_
            have fr70 := Nat.le_trans (e40).1 nb69.fresh
            have a71 := Bld.apart bd45 nb69.fresh
            have fr72 := Nat.le_trans (y41).1 nb69.fresh
            have fr73 := Nat.le_trans (y42).1 nb69.fresh
            have e74 := Ext.trans e40 nb69.ext
            have y75 := Ext.trans y41 nb69.ext
            have y76 := Ext.trans y42 nb69.ext
            have bd77 := Bld.ext bd45 nb69.ext
            have k78 := nb69.get
            refine W.alloc rfl rfl ze29 (by kernel_rfl) fun b79 H80 nb81 => ?_
            have fr82 := Nat.le_trans (e74).1 nb81.fresh
            have ne83 := nb81.ne k78
            have a84 := Bld.apart bd77 nb81.fresh
            have fr85 := Nat.le_trans (y75).1 nb81.fresh
            have fr86 := Nat.le_trans (y76).1 nb81.fresh
            have e87 := Ext.trans e74 nb81.ext
            have k88 := (nb81.ext).2 _ _ k78
            have y89 := Ext.trans y75 nb81.ext
            have y90 := Ext.trans y76 nb81.ext
            have bd91 := Bld.ext bd77 nb81.ext
            have k92 := nb81.get
            refine W.storeL (v := .int _ _) rfl rfl sz3 rfl rfl k88 rfl rfl rfl (Nat.le_of_ble_eq_true rfl)  fun H93 sb94 => ?_
            have e95 := sb94.ext e87 fr70
            have k96 := sb94.get
            have k97 := sb94.old k92 (Ne.symm ne83)
            have y98 := sb94.ext y89 fr72
            have y99 := sb94.ext y90 fr73
            have bd100 := Bld.set bd91 sb94 a71
            refine W.storeL (v := .agg _) rfl rfl sz29 rfl rfl k97 rfl rfl rfl (Nat.le_of_ble_eq_true rfl)  fun H101 sb102 => ?_
            have e103 := sb102.ext e95 fr82
            have k104 := sb102.old k96 ne83
            have k105 := sb102.get
            have y106 := sb102.ext y98 fr85
            have y107 := sb102.ext y99 fr86
            have bd108 := Bld.set bd100 sb102 a84
            refine .nil ?_
            refine .seq ?_
            refine .draw (M := [0, 0, 0, 7, 0, 16, 63, 127, 0, 256, 1023, 2047, 4095]) mixed (by kernel_rfl) (by kernel_rfl) fun H109 x110 => ?_
            have e111 := Ext.trans e103 x110
            have k112 := (x110).2 _ _ k104
            have k113 := (x110).2 _ _ k105
            have y114 := Ext.trans y106 x110
            have y115 := Ext.trans y107 x110
            have bd116 := Bld.ext bd108 x110
            refine D.pure (v := .int _ _) rfl rfl (v_move (oo rfl h0_49)) ?_
            refine D.pure (v := lv) rfl rfl (v_move (oo rfl h1_50)) ?_
            refine D.pure rfl rfl (v_makeFunc (opndL_ooL rfl rfl) (opndL_ooL rfl rfl)) ?_
            obtain ⟨jv, H117, c118, ⟨rv, M, hj, hr, hM3⟩, x120⟩ := (f14_int H109 n lv (.func (.func 15) #[] #[.pointer (some ⟨b67, 0, none⟩)]) l (fun k => k != i) hc (hl.ext e111) (used15 _ i _ _ k112 rfl _))
            refine D.call rfl rfl (fn := Try.f14) (by kernel_rfl) rfl rfl c118 x120 RS.nil fa_nil fun rs121 => ?_
            have e122 := Ext.trans e111 x120
            have k123 := (x120).2 _ _ k112
            have k124 := (x120).2 _ _ k113
            have y125 := Ext.trans y114 x120
            have y126 := Ext.trans y115 x120
            have bd127 := Bld.ext bd116 x120
            have le128 := (e122).1
            have le129 := (y125).1
            have le130 := (y126).1
            refine D.pure rfl rfl (v_idxA ar29 sz3 (oo rfl rfl) (oo rfl rfl) (Pt.loc k124) (by decide) (by decide)) ?_
            refine D.load1 rfl rfl ag3 (Pt.sub (Pt.loc k124) 0 1 rfl) rs121 (faQ_eq (Ext.same x120 (Pt.blk (Pt.sub (Pt.loc k113) 0 1 rfl))) fa_nil) fun rs131 => ?_
            refine D.pure rfl rfl (v_idx el31 sz30 (oo rfl rfl) (oo rfl rfl) (Sl.isSl (hj.ext (Ext.refl _))) (vl i hi).1 (by simpa using (vl i hi).2.1)) ?_
            refine D.load1 rfl rfl ag30 (Sl.idx (hj.ext (Ext.refl _)) (range_at _ (vl i hi).2.1)) rs131 (faQ_bit (by decide) fa_nil) fun rs132 => ?_
            refine D.pure rfl rfl (v_idxA ar29 sz3 (oo rfl rfl) (oo rfl rfl) (Pt.loc k124) (by decide) (by decide)) ?_
            refine D.load1 rfl rfl ag3 (Pt.sub (Pt.loc k124) 1 1 rfl) rs132 (faQ_eq (Ext.same x120 (Pt.blk (Pt.sub (Pt.loc k113) 1 1 rfl))) fa_nil) fun rs133 => ?_
            refine D.pure rfl rfl (v_idx el30 sz4 (oo rfl rfl) (oo rfl rfl) (Sl.isSl ((hr _ (vl i hi).2.1).ext (Ext.refl _))) (vl i hi).2.2.1 (by simpa using (vl i hi).2.2.2)) ?_
            refine D.load1 rfl rfl ag4 (Sl.idx ((hr _ (vl i hi).2.1).ext (Ext.refl _)) (range_at _ (vl i hi).2.2.2)) rs133 (faQ_bit (by decide) fa_nil) fun rs134 => ?_
            refine D.pure rfl rfl (bool_not (oo rfl rfl)) ?_
            refine .nil ?_
            refine .cond rfl rfl (fun g135 => ?_) (fun g135 => ?_)
            · try simp only [decide_eq_true_eq, decide_eq_false_iff_not, beq_iff_eq, bne_iff_ne, beq_eq_false_iff_ne, bne_eq_false_iff_eq, List.length_map, gt_iff_lt, ge_iff_le, Int.not_lt, Int.not_le] at g135
              refine .region ?_
              refine W.pure (v := bv2) rfl rfl (v_move (oo rfl t10_44)) ?_
              refine W.load1 rfl rfl ag3 (Pt.loc k123) ?_
              refine W.buildSlice rfl rfl el24 ze3 sz3 (by kernel_rfl) (opndP_oo (by rfl) (by rfl)) (by rfl) fun b136 H137 nb138 => ?_
              have fr139 := Nat.le_trans (e122).1 nb138.fresh
              have ne140 := nb138.ne k123
              have ne141 := nb138.ne k124
              have a142 := Bld.apart bd127 nb138.fresh
              have fr143 := Nat.le_trans (y125).1 nb138.fresh
              have fr144 := Nat.le_trans (y126).1 nb138.fresh
              have fr145 := Nat.le_trans ((Ext.refl _)).1 nb138.fresh
              have e146 := Ext.trans e122 nb138.ext
              have k147 := (nb138.ext).2 _ _ k123
              have k148 := (nb138.ext).2 _ _ k124
              have y149 := Ext.trans y125 nb138.ext
              have y150 := Ext.trans y126 nb138.ext
              have y151 := Ext.trans (Ext.refl _) nb138.ext
              have bd152 := Bld.ext bd127 nb138.ext
              have k153 := nb138.get
              refine W.append rfl rfl el24 ni24 ze3 sz3 by3 rfl (by decide) bd152 (Sl.one k153 rfl rfl) rfl (by have := brs_len l i; simp; omega) (y150).1 fun v154 H155 bd156 ap157 => ?_
              have e158 := App.ext ap157 e146 bd152 le23
              have y159 := App.ext ap157 y149 bd152 le24
              have y160 := App.ext ap157 y150 bd152 (Nat.le_refl _)
              have k161 := (ap157.keep _ _ k147 a71).1
              have a162 := (ap157.keep _ _ k147 a71).2
              have k163 := (ap157.keep _ _ k148 a84).1
              have a164 := (ap157.keep _ _ k148 a84).2
              have k165 := (ap157.keep _ _ k153 a142).1
              have a166 := (ap157.keep _ _ k153 a142).2
              refine W.pure (v := v154) rfl rfl (v_assign (oo rfl rfl)) ?_
              refine .nil ?_
              refine .region ?_
              refine W.pure rfl rfl (v_inc (oo rfl t66_43) (by omega)) ?_
              refine W.pure (v := .int _ _) rfl rfl (v_move (oo rfl rfl)) ?_
              refine .nil ?_
              refine ⟨(i + 1, v154), by dsimp only; omega, e158, y159, y160, rfl, rfl, (by rw [br_yes (fun c => by have := (hM3 _ _ (vl i hi).2.1 (vl i hi).2.2.2).2 c; rw [this] at g135; exact absurd g135 (by decide))]; exact bd156), (by omega)⟩
            · try simp only [decide_eq_true_eq, decide_eq_false_iff_not, beq_iff_eq, bne_iff_ne, beq_eq_false_iff_ne, bne_eq_false_iff_eq, List.length_map, gt_iff_lt, ge_iff_le, Int.not_lt, Int.not_le] at g135
              refine .skip ?_
              refine .region ?_
              refine W.pure rfl rfl (v_inc (oo rfl t66_43) (by omega)) ?_
              refine W.pure (v := .int _ _) rfl rfl (v_move (oo rfl rfl)) ?_
              refine .nil ?_
              refine ⟨(i + 1, bv2), by dsimp only; omega, e122, y125, y126, rfl, t10_44, (by rw [br_no ((hM3 _ _ (vl i hi).2.1 (vl i hi).2.2.2).1 (by simpa using g135))]; exact bd127), (by omega)⟩
          · try simp only [decide_eq_true_eq, decide_eq_false_iff_not, beq_iff_eq, bne_iff_ne, beq_eq_false_iff_ne, bne_eq_false_iff_eq, List.length_map, gt_iff_lt, ge_iff_le, Int.not_lt, Int.not_le] at g66
            refine .exit ?_
            refine .seq ?_
            refine .region ?_
            refine W.pure (v := sv) rfl rfl (v_move (oo rfl h5_51)) ?_
            refine W.pure (v := .int _ _) rfl rfl (v_move (oo rfl h0_49)) ?_
            refine W.pure (v := lv) rfl rfl (v_move (oo rfl h1_50)) ?_
            obtain ⟨jw, H167, c168, ⟨rw, M2, hj2, hr2, hM4⟩, x170⟩ := (f14_int H47 n lv (.func (.func 18) #[] #[]) l (fun _ => true) hc (hl.ext e40) (used18 _ _))
            refine W.call rfl rfl (fn := Try.f14) (by kernel_rfl) rfl rfl c168 ?_
            have e171 := Ext.trans e40 x170
            have y172 := Ext.trans y41 x170
            have y173 := Ext.trans y42 x170
            have bd174 := Bld.ext bd45 x170
            have le175 := (e171).1
            have le176 := (y172).1
            have le177 := (y173).1
            obtain ⟨nv, H178, c179, ⟨cs, m2, hs93, hN⟩, x181⟩ := (f17_ok H167 n.toNat jw rw M2 (by have := checkS_inv hc; omega) (eqv_of hM4) (hj2.ext (Ext.refl _)) (fun i hi => (hr2 i hi).ext (Ext.refl _)))
            refine W.call rfl rfl (fn := Try.f17) (by kernel_rfl) rfl rfl c179 ?_
            have e182 := Ext.trans e171 x181
            have y183 := Ext.trans y172 x181
            have y184 := Ext.trans y173 x181
            have y185 := Ext.trans (Ext.refl _) x181
            have bd186 := Bld.ext bd174 x181
            have le187 := (e182).1
            have le188 := (y183).1
            have le189 := (y184).1
            have le190 := (y185).1
            obtain ⟨_, H191, c192, rfl, x194⟩ := (f16_ok H178 sv nv xs cs (hs5.ext y183) (hs93.ext (Ext.refl _)) (by have := (hx1 hc).choose_spec.len; have := checkS_inv hc; omega))
            refine W.call rfl rfl (fn := Try.f16) (by kernel_rfl) rfl rfl c192 ?_
            have e195 := Ext.trans e182 x194
            have y196 := Ext.trans y183 x194
            have y197 := Ext.trans y184 x194
            have y198 := Ext.trans y185 x194
            have y199 := Ext.trans (Ext.refl _) x194
            have bd200 := Bld.ext bd186 x194
            refine W.pure (v := .bool _) rfl rfl (v_move (oo rfl rfl)) ?_
            refine W.pure (v := bv) (gk rfl rfl (congrArg Value.bool (decide_eq_true (same_numbers hM4 (hx1 hc).choose_spec hN))) rfl) rfl (v_move (oo rfl h7_52)) ?_
            refine W.pure (v := bv2) (gk rfl rfl (congrArg Value.bool (decide_eq_true (same_numbers hM4 (hx1 hc).choose_spec hN))) rfl) rfl (v_move (oo rfl t10_44)) ?_
            obtain ⟨_, H201, c202, rfl, x204⟩ := (f16_ok H191 bv bv2 zs ((brs l i).map (fun k : Nat => (k : Int))) (hs7.ext y197) (by rw [← num_ints]; exact Bld.sl bd200) (by rw [hz1 hc]; have := brs_len l l.length; simp; omega))
            refine W.call (gk rfl rfl (congrArg Value.bool (decide_eq_true (same_numbers hM4 (hx1 hc).choose_spec hN))) rfl) rfl (fn := Try.f16) (by kernel_rfl) rfl rfl c202 ?_
            have e205 := Ext.trans e195 x204
            have y206 := Ext.trans y196 x204
            have y207 := Ext.trans y197 x204
            have y208 := Ext.trans y198 x204
            have y209 := Ext.trans y199 x204
            have bd210 := Bld.ext bd200 x204
            refine W.pure (v := .bool _) rfl rfl (v_pickT (oo rfl (congrArg Value.bool (decide_eq_true (same_numbers hM4 (hx1 hc).choose_spec hN)))) (oo rfl rfl)) ?_
            refine W.pure (v := .bool _) rfl rfl (v_assign (oo rfl rfl)) ?_
            refine .nil ?_
            refine .ret ?_
            refine ret1V (P := Try.prog) (fn := Try.f3) (n := 100) (R := fun v H' => v = .bool true ∧ Ext H H') (v := .bool _) (by rfl) (by rfl) (by exact rfl) ?_
            -- leaf 3
            first
              | exact ⟨rfl, e205⟩
              | exact ⟨by rw [hx0 g66, hz0 g66]; rfl, e205⟩
              | exact ⟨congrArg Value.bool (decide_eq_true (by rw [hz1 hc, show i = l.length by omega])), e205⟩
    · try simp only [decide_eq_true_eq, decide_eq_false_iff_not, beq_iff_eq, bne_iff_ne, beq_eq_false_iff_ne, bne_eq_false_iff_eq, List.length_map, gt_iff_lt, ge_iff_le, Int.not_lt, Int.not_le] at g8
      refine W.skip (gk rfl rfl gv9 rfl) rfl ?_
      refine W.skip (gk rfl rfl gv9 rfl) rfl ?_
      refine W.skip (gk rfl rfl gv9 rfl) rfl ?_
      refine W.pure (v := .bool _) rfl rfl (v_pickF (oo rfl gv9) (oo rfl rfl)) ?_
      refine .nil ?_
      refine .condF rfl rfl ?_
      refine .skip ?_
      refine .seq ?_
      refine .region ?_
      refine W.pure (v := .int _ _) rfl rfl (v_move (oo rfl rfl)) ?_
      refine W.pure (v := lv) rfl rfl (v_move (oo rfl rfl)) ?_
      obtain ⟨_, H211, c212, ⟨sv, xs, rfl, hs5, hx0, hx1⟩, x214⟩ := (f10x H1 n lv l (hl.ext e5) hlen)
      refine W.call rfl rfl (fn := Try.f10) (by kernel_rfl) rfl rfl c212 ?_
      have e215 := Ext.trans e5 x214
      have le216 := (e215).1
      refine W.pure (v := _) rfl rfl (v_move (oo rfl rfl)) ?_
      refine W.pure rfl rfl (v_extract (oo rfl rfl) rfl) ?_
      refine W.pure rfl rfl (v_extract (oo rfl rfl) rfl) ?_
      refine W.pure (v := sv) rfl rfl (v_assign (oo rfl rfl)) ?_
      refine W.pure (v := .int _ _) rfl rfl (v_assign (oo rfl rfl)) ?_
      refine .nil ?_
      refine .seq ?_
      refine .region ?_
      refine W.pure (v := .int _ _) rfl rfl (v_move (oo rfl rfl)) ?_
      refine W.pure (v := lv) rfl rfl (v_move (oo rfl rfl)) ?_
      obtain ⟨_, H217, c218, ⟨bv, zs, rfl, hs7, hz0, hz1⟩, x220⟩ := (f11x H211 n lv l (hl.ext e215) hlen)
      refine W.call rfl rfl (fn := Try.f11) (by kernel_rfl) rfl rfl c218 ?_
      have e221 := Ext.trans e215 x220
      have y222 := Ext.trans (Ext.refl _) x220
      have le223 := (e221).1
      have le224 := (y222).1
      refine W.pure (v := _) rfl rfl (v_move (oo rfl rfl)) ?_
      refine W.pure rfl rfl (v_extract (oo rfl rfl) rfl) ?_
      refine W.pure rfl rfl (v_extract (oo rfl rfl) rfl) ?_
      refine W.pure (v := bv) rfl rfl (v_assign (oo rfl rfl)) ?_
      refine W.pure (v := .int _ _) rfl rfl (v_assign (oo rfl rfl)) ?_
      refine .nil ?_
      refine .seq ?_
      refine .region ?_
      refine W.pure (v := .int _ _) rfl rfl (v_move (oo rfl rfl)) ?_
      refine W.pure (v := lv) rfl rfl (v_move (oo rfl rfl)) ?_
      obtain ⟨_, H225, c226, rfl, x228⟩ := (f12_ok H217 n lv l (hl.ext e221) hlen)
      refine W.call rfl rfl (fn := Try.f12) (by kernel_rfl) rfl rfl c226 ?_
      have e229 := Ext.trans e221 x228
      have y230 := Ext.trans y222 x228
      have y231 := Ext.trans (Ext.refl _) x228
      refine W.pure (v := .int _ _) rfl rfl (v_assign (oo rfl rfl)) ?_
      refine .nil ?_
      refine .seq ?_
      refine .seq ?_
      refine .region ?_
      refine W.pure (v := .int _ _) rfl rfl (v_move (oo rfl rfl)) ?_
      refine W.pure (v := lv) rfl rfl (v_move (oo rfl rfl)) ?_
      obtain ⟨_, H232, c233, rfl, x235⟩ := (f13_ok H225 n lv l (hl.ext e229) hlen)
      refine W.call rfl rfl (fn := Try.f13) (by kernel_rfl) rfl rfl c233 ?_
      have e236 := Ext.trans e229 x235
      have y237 := Ext.trans y230 x235
      have y238 := Ext.trans y231 x235
      refine W.pure (v := .int _ _) rfl rfl (v_move (oo rfl rfl)) ?_
      refine W.pure rfl rfl (v_int (oo rfl rfl) (oo rfl rfl) rfl) ?_
      refine W.pure (v := .bool _) rfl rfl (v_move (oo rfl rfl)) ?_
      refine W.pure (v := .int _ _) (gk rfl rfl (congrArg Value.bool (bne_self_eq_false _)) rfl) rfl (v_move (oo rfl rfl)) ?_
      refine W.pure (v := .int _ _) (gk rfl rfl (congrArg Value.bool (bne_self_eq_false _)) rfl) rfl (v_move (oo rfl rfl)) ?_
      refine W.pure (gk rfl rfl (congrArg Value.bool (bne_self_eq_false _)) rfl) rfl (v_int (oo rfl rfl) (oo rfl rfl) rfl) ?_
      refine W.pure (v := .bool _) rfl rfl (v_pickF (oo rfl (congrArg Value.bool (bne_self_eq_false _))) (oo rfl rfl)) ?_
      refine W.pure (v := .bool _) rfl rfl (v_move (oo rfl rfl)) ?_
      refine W.pure (v := .int _ _) (gk rfl rfl (congrArg Value.bool (bne_self_eq_false _)) rfl) rfl (v_move (oo rfl rfl)) ?_
      refine W.pure (v := .int _ _) (gk rfl rfl (congrArg Value.bool (bne_self_eq_false _)) rfl) rfl (v_move (oo rfl rfl)) ?_
      refine W.pure (gk rfl rfl (congrArg Value.bool (bne_self_eq_false _)) rfl) rfl (v_int (oo rfl rfl) (oo rfl rfl) rfl) ?_
      refine W.pure (v := .bool _) rfl rfl (v_pickF (oo rfl (congrArg Value.bool (bne_self_eq_false _))) (oo rfl rfl)) ?_
      refine .nil ?_
      refine .condF rfl (congrArg Value.bool (bne_self_eq_false _)) ?_
      refine .skip ?_
      refine .seq ?_
      refine .seq ?_
      refine .region ?_
      refine W.pure (v := .int _ _) rfl rfl (v_move (oo rfl rfl)) ?_
      refine W.pure rfl rfl (v_int (oo rfl rfl) (oo rfl rfl) rfl) ?_
      refine .nil ?_
      refine .cond rfl rfl (fun g239 => ?_) (fun g239 => ?_)
      · try simp only [decide_eq_true_eq, decide_eq_false_iff_not, beq_iff_eq, bne_iff_ne, beq_eq_false_iff_ne, bne_eq_false_iff_eq, List.length_map, gt_iff_lt, ge_iff_le, Int.not_lt, Int.not_le] at g239
        refine .seq ?_
        refine .region ?_
        refine W.pure (v := sv) rfl rfl (v_move (oo rfl rfl)) ?_
        refine W.pure rfl rfl (len_sl (oo rfl rfl) (Sl.isSl (hs5.ext y237)) (elemT_inv el24)) ?_
        refine W.pure (v := bv) rfl rfl (v_move (oo rfl rfl)) ?_
        refine W.pure rfl rfl (len_sl (oo rfl rfl) (Sl.isSl (hs7.ext y238)) (elemT_inv el24)) ?_
        refine W.pure rfl rfl (v_add (oo rfl rfl) (oo rfl rfl) (by rw [hx0 g239, hz0 g239]; decide) (by rw [hx0 g239, hz0 g239]; decide)) ?_
        refine W.pure rfl rfl (v_int (oo rfl rfl) (oo rfl rfl) rfl) ?_
        refine W.pure (v := .bool _) rfl rfl (v_assign (oo rfl rfl)) ?_
        refine .nil ?_
        refine .ret ?_
        refine ret1V (P := Try.prog) (fn := Try.f3) (n := 100) (R := fun v H' => v = .bool true ∧ Ext H H') (v := .bool _) (by rfl) (by rfl) (by exact rfl) ?_
        -- leaf 4
        first
          | exact ⟨rfl, e236⟩
          | exact ⟨by rw [hx0 g239, hz0 g239]; rfl, e236⟩
          | exact ⟨congrArg Value.bool (decide_eq_true (by rw [hz1 hc, show i = l.length by omega])), e236⟩
      · try simp only [decide_eq_true_eq, decide_eq_false_iff_not, beq_iff_eq, bne_iff_ne, beq_eq_false_iff_ne, bne_eq_false_iff_eq, List.length_map, gt_iff_lt, ge_iff_le, Int.not_lt, Int.not_le] at g239
        refine .skip ?_
        refine .seq ?_
        refine .region ?_
        refine W.pure (v := _) rfl rfl (v_assign (oo rfl rfl)) ?_
        refine .nil ?_
        refine .seq ?_
        refine .seq ?_
        refine .region ?_
        refine W.pure (v := lv) rfl rfl (v_move (oo rfl rfl)) ?_
        refine W.pure rfl rfl (len_sl (oo rfl rfl) (Sl.isSl (hl.ext e236)) (elemT_inv el22)) ?_
        refine W.pure (v := .int _ _) rfl rfl (v_move (oo rfl rfl)) ?_
        refine .nil ?_
        refine .block ?_
        refine AW.loop (α := Nat × Value) (fun (i, bv2) σ' H' => (Ext H H') ∧ (Ext H211 H') ∧ (Ext H217 H') ∧ (σ' 66 = .int .i64 (i : Nat)) ∧ (σ' 10 = bv2) ∧ (Bld H' H217.next 3 1 bv2 ((brs l i).map num)) ∧ (i ≤ l.length)) (fun (i, bv2) => l.length - i) (0, .slice none 0 0) ⟨e236, y237, y238, rfl, rfl, (Bld.nil _ _ _ _), (Nat.zero_le _)⟩ ?_
        rintro ⟨i, bv2⟩ σ246 H247 fr248 ⟨e240, y241, y242, t66_243, t10_244, bd245, hil⟩
        have h0_249 : σ246 0 = _ := (fr248 0 rfl).trans rfl
        have h1_250 : σ246 1 = lv := (fr248 1 rfl).trans rfl
        have h5_251 : σ246 5 = sv := (fr248 5 rfl).trans rfl
        have h7_252 : σ246 7 = bv := (fr248 7 rfl).trans rfl
        have h64_253 : σ246 64 = lv := (fr248 64 rfl).trans rfl
        have h65_254 : σ246 65 = _ := (fr248 65 rfl).trans rfl
        have h89_255 : σ246 89 = _ := (fr248 89 rfl).trans rfl
        have h90_256 : σ246 90 = _ := (fr248 90 rfl).trans rfl
        have h91_257 : σ246 91 = _ := (fr248 91 rfl).trans rfl
        have h92_258 : σ246 92 = _ := (fr248 92 rfl).trans rfl
        have h93_259 : σ246 93 = _ := (fr248 93 rfl).trans rfl
        have h94_260 : σ246 94 = _ := (fr248 94 rfl).trans rfl
        have h95_261 : σ246 95 = _ := (fr248 95 rfl).trans rfl
        have h96_262 : σ246 96 = _ := (fr248 96 rfl).trans rfl
        have h97_263 : σ246 97 = _ := (fr248 97 rfl).trans rfl
        have h98_264 : σ246 98 = _ := (fr248 98 rfl).trans rfl
        have h99_265 : σ246 99 = _ := (fr248 99 rfl).trans rfl
        have hc : checkS n l = 0 := g239
        have vl := valid_int hc
        refine .seq ?_
        refine .region ?_
        refine W.pure rfl rfl (v_int (oo rfl t66_243) (oo rfl h65_254) rfl) ?_
        refine .nil ?_
        refine .seq ?_
        refine .cond rfl rfl (fun g266 => ?_) (fun g266 => ?_)
        · try simp only [decide_eq_true_eq, decide_eq_false_iff_not, beq_iff_eq, bne_iff_ne, beq_eq_false_iff_ne, bne_eq_false_iff_eq, List.length_map, gt_iff_lt, ge_iff_le, Int.not_lt, Int.not_le] at g266
          have hi : i < l.length := by omega
          refine .skip ?_
          refine .seq ?_
          refine .block ?_
          refine .seq ?_
          refine .region ?_
          refine W.pure (v := .int _ _) rfl rfl (v_move (oo rfl t66_243)) ?_
          refine W.pure rfl rfl (v_idxN el22 sz29 (oo rfl h64_253) (oo rfl t66_243) (Sl.isSl (hl.ext e240)) (by simpa using hi)) ?_
          refine W.loadA rfl rfl ag29 sz29 (Sl.idx (hl.ext e240) (he i hi)) rfl ?_
          refine W.alloc rfl rfl ze3 (by kernel_rfl) fun b267 H268 nb269 => ?_
          have fr270 := Nat.le_trans (e240).1 nb269.fresh
          have a271 := Bld.apart bd245 nb269.fresh
          have fr272 := Nat.le_trans (y241).1 nb269.fresh
          have fr273 := Nat.le_trans (y242).1 nb269.fresh
          have e274 := Ext.trans e240 nb269.ext
          have y275 := Ext.trans y241 nb269.ext
          have y276 := Ext.trans y242 nb269.ext
          have bd277 := Bld.ext bd245 nb269.ext
          have k278 := nb269.get
          refine W.alloc rfl rfl ze29 (by kernel_rfl) fun b279 H280 nb281 => ?_
          have fr282 := Nat.le_trans (e274).1 nb281.fresh
          have ne283 := nb281.ne k278
          have a284 := Bld.apart bd277 nb281.fresh
          have fr285 := Nat.le_trans (y275).1 nb281.fresh
          have fr286 := Nat.le_trans (y276).1 nb281.fresh
          have e287 := Ext.trans e274 nb281.ext
          have k288 := (nb281.ext).2 _ _ k278
          have y289 := Ext.trans y275 nb281.ext
          have y290 := Ext.trans y276 nb281.ext
          have bd291 := Bld.ext bd277 nb281.ext
          have k292 := nb281.get
          refine W.storeL (v := .int _ _) rfl rfl sz3 rfl rfl k288 rfl rfl rfl (Nat.le_of_ble_eq_true rfl)  fun H293 sb294 => ?_
          have e295 := sb294.ext e287 fr270
          have k296 := sb294.get
          have k297 := sb294.old k292 (Ne.symm ne283)
          have y298 := sb294.ext y289 fr272
          have y299 := sb294.ext y290 fr273
          have bd300 := Bld.set bd291 sb294 a271
          refine W.storeL (v := .agg _) rfl rfl sz29 rfl rfl k297 rfl rfl rfl (Nat.le_of_ble_eq_true rfl)  fun H301 sb302 => ?_
          have e303 := sb302.ext e295 fr282
          have k304 := sb302.old k296 ne283
          have k305 := sb302.get
          have y306 := sb302.ext y298 fr285
          have y307 := sb302.ext y299 fr286
          have bd308 := Bld.set bd300 sb302 a284
          refine .nil ?_
          refine .seq ?_
          refine .draw (M := [0, 0, 0, 7, 0, 16, 63, 127, 0, 256, 1023, 2047, 4095]) mixed (by kernel_rfl) (by kernel_rfl) fun H309 x310 => ?_
          have e311 := Ext.trans e303 x310
          have k312 := (x310).2 _ _ k304
          have k313 := (x310).2 _ _ k305
          have y314 := Ext.trans y306 x310
          have y315 := Ext.trans y307 x310
          have bd316 := Bld.ext bd308 x310
          refine D.pure (v := .int _ _) rfl rfl (v_move (oo rfl h0_249)) ?_
          refine D.pure (v := lv) rfl rfl (v_move (oo rfl h1_250)) ?_
          refine D.pure rfl rfl (v_makeFunc (opndL_ooL rfl rfl) (opndL_ooL rfl rfl)) ?_
          obtain ⟨jv, H317, c318, ⟨rv, M, hj, hr, hM3⟩, x320⟩ := (f14_int H309 n lv (.func (.func 15) #[] #[.pointer (some ⟨b267, 0, none⟩)]) l (fun k => k != i) hc (hl.ext e311) (used15 _ i _ _ k312 rfl _))
          refine D.call rfl rfl (fn := Try.f14) (by kernel_rfl) rfl rfl c318 x320 RS.nil fa_nil fun rs321 => ?_
          have e322 := Ext.trans e311 x320
          have k323 := (x320).2 _ _ k312
          have k324 := (x320).2 _ _ k313
          have y325 := Ext.trans y314 x320
          have y326 := Ext.trans y315 x320
          have bd327 := Bld.ext bd316 x320
          have le328 := (e322).1
          have le329 := (y325).1
          have le330 := (y326).1
          refine D.pure rfl rfl (v_idxA ar29 sz3 (oo rfl rfl) (oo rfl rfl) (Pt.loc k324) (by decide) (by decide)) ?_
          refine D.load1 rfl rfl ag3 (Pt.sub (Pt.loc k324) 0 1 rfl) rs321 (faQ_eq (Ext.same x320 (Pt.blk (Pt.sub (Pt.loc k313) 0 1 rfl))) fa_nil) fun rs331 => ?_
          refine D.pure rfl rfl (v_idx el31 sz30 (oo rfl rfl) (oo rfl rfl) (Sl.isSl (hj.ext (Ext.refl _))) (vl i hi).1 (by simpa using (vl i hi).2.1)) ?_
          refine D.load1 rfl rfl ag30 (Sl.idx (hj.ext (Ext.refl _)) (range_at _ (vl i hi).2.1)) rs331 (faQ_bit (by decide) fa_nil) fun rs332 => ?_
          refine D.pure rfl rfl (v_idxA ar29 sz3 (oo rfl rfl) (oo rfl rfl) (Pt.loc k324) (by decide) (by decide)) ?_
          refine D.load1 rfl rfl ag3 (Pt.sub (Pt.loc k324) 1 1 rfl) rs332 (faQ_eq (Ext.same x320 (Pt.blk (Pt.sub (Pt.loc k313) 1 1 rfl))) fa_nil) fun rs333 => ?_
          refine D.pure rfl rfl (v_idx el30 sz4 (oo rfl rfl) (oo rfl rfl) (Sl.isSl ((hr _ (vl i hi).2.1).ext (Ext.refl _))) (vl i hi).2.2.1 (by simpa using (vl i hi).2.2.2)) ?_
          refine D.load1 rfl rfl ag4 (Sl.idx ((hr _ (vl i hi).2.1).ext (Ext.refl _)) (range_at _ (vl i hi).2.2.2)) rs333 (faQ_bit (by decide) fa_nil) fun rs334 => ?_
          refine D.pure rfl rfl (bool_not (oo rfl rfl)) ?_
          refine .nil ?_
          refine .cond rfl rfl (fun g335 => ?_) (fun g335 => ?_)
          · try simp only [decide_eq_true_eq, decide_eq_false_iff_not, beq_iff_eq, bne_iff_ne, beq_eq_false_iff_ne, bne_eq_false_iff_eq, List.length_map, gt_iff_lt, ge_iff_le, Int.not_lt, Int.not_le] at g335
            refine .region ?_
            refine W.pure (v := bv2) rfl rfl (v_move (oo rfl t10_244)) ?_
            refine W.load1 rfl rfl ag3 (Pt.loc k323) ?_
            refine W.buildSlice rfl rfl el24 ze3 sz3 (by kernel_rfl) (opndP_oo (by rfl) (by rfl)) (by rfl) fun b336 H337 nb338 => ?_
            have fr339 := Nat.le_trans (e322).1 nb338.fresh
            have ne340 := nb338.ne k323
            have ne341 := nb338.ne k324
            have a342 := Bld.apart bd327 nb338.fresh
            have fr343 := Nat.le_trans (y325).1 nb338.fresh
            have fr344 := Nat.le_trans (y326).1 nb338.fresh
            have fr345 := Nat.le_trans ((Ext.refl _)).1 nb338.fresh
            have e346 := Ext.trans e322 nb338.ext
            have k347 := (nb338.ext).2 _ _ k323
            have k348 := (nb338.ext).2 _ _ k324
            have y349 := Ext.trans y325 nb338.ext
            have y350 := Ext.trans y326 nb338.ext
            have y351 := Ext.trans (Ext.refl _) nb338.ext
            have bd352 := Bld.ext bd327 nb338.ext
            have k353 := nb338.get
            refine W.append rfl rfl el24 ni24 ze3 sz3 by3 rfl (by decide) bd352 (Sl.one k353 rfl rfl) rfl (by have := brs_len l i; simp; omega) (y350).1 fun v354 H355 bd356 ap357 => ?_
            have e358 := App.ext ap357 e346 bd352 le223
            have y359 := App.ext ap357 y349 bd352 le224
            have y360 := App.ext ap357 y350 bd352 (Nat.le_refl _)
            have k361 := (ap357.keep _ _ k347 a271).1
            have a362 := (ap357.keep _ _ k347 a271).2
            have k363 := (ap357.keep _ _ k348 a284).1
            have a364 := (ap357.keep _ _ k348 a284).2
            have k365 := (ap357.keep _ _ k353 a342).1
            have a366 := (ap357.keep _ _ k353 a342).2
            refine W.pure (v := v354) rfl rfl (v_assign (oo rfl rfl)) ?_
            refine .nil ?_
            refine .region ?_
            refine W.pure rfl rfl (v_inc (oo rfl t66_243) (by omega)) ?_
            refine W.pure (v := .int _ _) rfl rfl (v_move (oo rfl rfl)) ?_
            refine .nil ?_
            refine ⟨(i + 1, v354), by dsimp only; omega, e358, y359, y360, rfl, rfl, (by rw [br_yes (fun c => by have := (hM3 _ _ (vl i hi).2.1 (vl i hi).2.2.2).2 c; rw [this] at g335; exact absurd g335 (by decide))]; exact bd356), (by omega)⟩
          · try simp only [decide_eq_true_eq, decide_eq_false_iff_not, beq_iff_eq, bne_iff_ne, beq_eq_false_iff_ne, bne_eq_false_iff_eq, List.length_map, gt_iff_lt, ge_iff_le, Int.not_lt, Int.not_le] at g335
            refine .skip ?_
            refine .region ?_
            refine W.pure rfl rfl (v_inc (oo rfl t66_243) (by omega)) ?_
            refine W.pure (v := .int _ _) rfl rfl (v_move (oo rfl rfl)) ?_
            refine .nil ?_
            refine ⟨(i + 1, bv2), by dsimp only; omega, e322, y325, y326, rfl, t10_244, (by rw [br_no ((hM3 _ _ (vl i hi).2.1 (vl i hi).2.2.2).1 (by simpa using g335))]; exact bd327), (by omega)⟩
        · try simp only [decide_eq_true_eq, decide_eq_false_iff_not, beq_iff_eq, bne_iff_ne, beq_eq_false_iff_ne, bne_eq_false_iff_eq, List.length_map, gt_iff_lt, ge_iff_le, Int.not_lt, Int.not_le] at g266
          refine .exit ?_
          refine .seq ?_
          refine .region ?_
          refine W.pure (v := sv) rfl rfl (v_move (oo rfl h5_251)) ?_
          refine W.pure (v := .int _ _) rfl rfl (v_move (oo rfl h0_249)) ?_
          refine W.pure (v := lv) rfl rfl (v_move (oo rfl h1_250)) ?_
          obtain ⟨jw, H367, c368, ⟨rw, M2, hj2, hr2, hM4⟩, x370⟩ := (f14_int H247 n lv (.func (.func 18) #[] #[]) l (fun _ => true) hc (hl.ext e240) (used18 _ _))
          refine W.call rfl rfl (fn := Try.f14) (by kernel_rfl) rfl rfl c368 ?_
          have e371 := Ext.trans e240 x370
          have y372 := Ext.trans y241 x370
          have y373 := Ext.trans y242 x370
          have bd374 := Bld.ext bd245 x370
          have le375 := (e371).1
          have le376 := (y372).1
          have le377 := (y373).1
          obtain ⟨nv, H378, c379, ⟨cs, m2, hs93, hN⟩, x381⟩ := (f17_ok H367 n.toNat jw rw M2 (by have := checkS_inv hc; omega) (eqv_of hM4) (hj2.ext (Ext.refl _)) (fun i hi => (hr2 i hi).ext (Ext.refl _)))
          refine W.call rfl rfl (fn := Try.f17) (by kernel_rfl) rfl rfl c379 ?_
          have e382 := Ext.trans e371 x381
          have y383 := Ext.trans y372 x381
          have y384 := Ext.trans y373 x381
          have y385 := Ext.trans (Ext.refl _) x381
          have bd386 := Bld.ext bd374 x381
          have le387 := (e382).1
          have le388 := (y383).1
          have le389 := (y384).1
          have le390 := (y385).1
          obtain ⟨_, H391, c392, rfl, x394⟩ := (f16_ok H378 sv nv xs cs (hs5.ext y383) (hs93.ext (Ext.refl _)) (by have := (hx1 hc).choose_spec.len; have := checkS_inv hc; omega))
          refine W.call rfl rfl (fn := Try.f16) (by kernel_rfl) rfl rfl c392 ?_
          have e395 := Ext.trans e382 x394
          have y396 := Ext.trans y383 x394
          have y397 := Ext.trans y384 x394
          have y398 := Ext.trans y385 x394
          have y399 := Ext.trans (Ext.refl _) x394
          have bd400 := Bld.ext bd386 x394
          refine W.pure (v := .bool _) rfl rfl (v_move (oo rfl rfl)) ?_
          refine W.pure (v := bv) (gk rfl rfl (congrArg Value.bool (decide_eq_true (same_numbers hM4 (hx1 hc).choose_spec hN))) rfl) rfl (v_move (oo rfl h7_252)) ?_
          refine W.pure (v := bv2) (gk rfl rfl (congrArg Value.bool (decide_eq_true (same_numbers hM4 (hx1 hc).choose_spec hN))) rfl) rfl (v_move (oo rfl t10_244)) ?_
          obtain ⟨_, H401, c402, rfl, x404⟩ := (f16_ok H391 bv bv2 zs ((brs l i).map (fun k : Nat => (k : Int))) (hs7.ext y397) (by rw [← num_ints]; exact Bld.sl bd400) (by rw [hz1 hc]; have := brs_len l l.length; simp; omega))
          refine W.call (gk rfl rfl (congrArg Value.bool (decide_eq_true (same_numbers hM4 (hx1 hc).choose_spec hN))) rfl) rfl (fn := Try.f16) (by kernel_rfl) rfl rfl c402 ?_
          have e405 := Ext.trans e395 x404
          have y406 := Ext.trans y396 x404
          have y407 := Ext.trans y397 x404
          have y408 := Ext.trans y398 x404
          have y409 := Ext.trans y399 x404
          have bd410 := Bld.ext bd400 x404
          refine W.pure (v := .bool _) rfl rfl (v_pickT (oo rfl (congrArg Value.bool (decide_eq_true (same_numbers hM4 (hx1 hc).choose_spec hN)))) (oo rfl rfl)) ?_
          refine W.pure (v := .bool _) rfl rfl (v_assign (oo rfl rfl)) ?_
          refine .nil ?_
          refine .ret ?_
          refine ret1V (P := Try.prog) (fn := Try.f3) (n := 100) (R := fun v H' => v = .bool true ∧ Ext H H') (v := .bool _) (by rfl) (by rfl) (by exact rfl) ?_
          -- leaf 5
          first
            | exact ⟨rfl, e405⟩
            | exact ⟨by rw [hx0 g266, hz0 g266]; rfl, e405⟩
            | exact ⟨congrArg Value.bool (decide_eq_true (by rw [hz1 hc, show i = l.length by omega])), e405⟩
  · try simp only [decide_eq_true_eq, decide_eq_false_iff_not, beq_iff_eq, bne_iff_ne, beq_eq_false_iff_ne, bne_eq_false_iff_eq, List.length_map, gt_iff_lt, ge_iff_le, Int.not_lt, Int.not_le] at g6
    refine W.skip (gk rfl rfl gv7 rfl) rfl ?_
    refine W.skip (gk rfl rfl gv7 rfl) rfl ?_
    refine W.pure (v := .bool _) rfl rfl (v_pickF (oo rfl gv7) (oo rfl rfl)) ?_
    refine W.pure (v := .bool _) rfl rfl (v_move (oo rfl rfl)) ?_
    refine W.skip (gk rfl rfl rfl rfl) rfl ?_
    refine W.skip (gk rfl rfl rfl rfl) rfl ?_
    refine W.skip (gk rfl rfl rfl rfl) rfl ?_
    refine W.pure (v := .bool _) rfl rfl (v_pickF (oo rfl rfl) (oo rfl rfl)) ?_
    refine .nil ?_
    refine .condF rfl rfl ?_
    refine .skip ?_
    refine .seq ?_
    refine .region ?_
    refine W.pure (v := .int _ _) rfl rfl (v_move (oo rfl rfl)) ?_
    refine W.pure (v := lv) rfl rfl (v_move (oo rfl rfl)) ?_
    obtain ⟨_, H411, c412, ⟨sv, xs, rfl, hs5, hx0, hx1⟩, x414⟩ := (f10x H1 n lv l (hl.ext e5) hlen)
    refine W.call rfl rfl (fn := Try.f10) (by kernel_rfl) rfl rfl c412 ?_
    have e415 := Ext.trans e5 x414
    have le416 := (e415).1
    refine W.pure (v := _) rfl rfl (v_move (oo rfl rfl)) ?_
    refine W.pure rfl rfl (v_extract (oo rfl rfl) rfl) ?_
    refine W.pure rfl rfl (v_extract (oo rfl rfl) rfl) ?_
    refine W.pure (v := sv) rfl rfl (v_assign (oo rfl rfl)) ?_
    refine W.pure (v := .int _ _) rfl rfl (v_assign (oo rfl rfl)) ?_
    refine .nil ?_
    refine .seq ?_
    refine .region ?_
    refine W.pure (v := .int _ _) rfl rfl (v_move (oo rfl rfl)) ?_
    refine W.pure (v := lv) rfl rfl (v_move (oo rfl rfl)) ?_
    obtain ⟨_, H417, c418, ⟨bv, zs, rfl, hs7, hz0, hz1⟩, x420⟩ := (f11x H411 n lv l (hl.ext e415) hlen)
    refine W.call rfl rfl (fn := Try.f11) (by kernel_rfl) rfl rfl c418 ?_
    have e421 := Ext.trans e415 x420
    have y422 := Ext.trans (Ext.refl _) x420
    have le423 := (e421).1
    have le424 := (y422).1
    refine W.pure (v := _) rfl rfl (v_move (oo rfl rfl)) ?_
    refine W.pure rfl rfl (v_extract (oo rfl rfl) rfl) ?_
    refine W.pure rfl rfl (v_extract (oo rfl rfl) rfl) ?_
    refine W.pure (v := bv) rfl rfl (v_assign (oo rfl rfl)) ?_
    refine W.pure (v := .int _ _) rfl rfl (v_assign (oo rfl rfl)) ?_
    refine .nil ?_
    refine .seq ?_
    refine .region ?_
    refine W.pure (v := .int _ _) rfl rfl (v_move (oo rfl rfl)) ?_
    refine W.pure (v := lv) rfl rfl (v_move (oo rfl rfl)) ?_
    obtain ⟨_, H425, c426, rfl, x428⟩ := (f12_ok H417 n lv l (hl.ext e421) hlen)
    refine W.call rfl rfl (fn := Try.f12) (by kernel_rfl) rfl rfl c426 ?_
    have e429 := Ext.trans e421 x428
    have y430 := Ext.trans y422 x428
    have y431 := Ext.trans (Ext.refl _) x428
    refine W.pure (v := .int _ _) rfl rfl (v_assign (oo rfl rfl)) ?_
    refine .nil ?_
    refine .seq ?_
    refine .seq ?_
    refine .region ?_
    refine W.pure (v := .int _ _) rfl rfl (v_move (oo rfl rfl)) ?_
    refine W.pure (v := lv) rfl rfl (v_move (oo rfl rfl)) ?_
    obtain ⟨_, H432, c433, rfl, x435⟩ := (f13_ok H425 n lv l (hl.ext e429) hlen)
    refine W.call rfl rfl (fn := Try.f13) (by kernel_rfl) rfl rfl c433 ?_
    have e436 := Ext.trans e429 x435
    have y437 := Ext.trans y430 x435
    have y438 := Ext.trans y431 x435
    refine W.pure (v := .int _ _) rfl rfl (v_move (oo rfl rfl)) ?_
    refine W.pure rfl rfl (v_int (oo rfl rfl) (oo rfl rfl) rfl) ?_
    refine W.pure (v := .bool _) rfl rfl (v_move (oo rfl rfl)) ?_
    refine W.pure (v := .int _ _) (gk rfl rfl (congrArg Value.bool (bne_self_eq_false _)) rfl) rfl (v_move (oo rfl rfl)) ?_
    refine W.pure (v := .int _ _) (gk rfl rfl (congrArg Value.bool (bne_self_eq_false _)) rfl) rfl (v_move (oo rfl rfl)) ?_
    refine W.pure (gk rfl rfl (congrArg Value.bool (bne_self_eq_false _)) rfl) rfl (v_int (oo rfl rfl) (oo rfl rfl) rfl) ?_
    refine W.pure (v := .bool _) rfl rfl (v_pickF (oo rfl (congrArg Value.bool (bne_self_eq_false _))) (oo rfl rfl)) ?_
    refine W.pure (v := .bool _) rfl rfl (v_move (oo rfl rfl)) ?_
    refine W.pure (v := .int _ _) (gk rfl rfl (congrArg Value.bool (bne_self_eq_false _)) rfl) rfl (v_move (oo rfl rfl)) ?_
    refine W.pure (v := .int _ _) (gk rfl rfl (congrArg Value.bool (bne_self_eq_false _)) rfl) rfl (v_move (oo rfl rfl)) ?_
    refine W.pure (gk rfl rfl (congrArg Value.bool (bne_self_eq_false _)) rfl) rfl (v_int (oo rfl rfl) (oo rfl rfl) rfl) ?_
    refine W.pure (v := .bool _) rfl rfl (v_pickF (oo rfl (congrArg Value.bool (bne_self_eq_false _))) (oo rfl rfl)) ?_
    refine .nil ?_
    refine .condF rfl (congrArg Value.bool (bne_self_eq_false _)) ?_
    refine .skip ?_
    refine .seq ?_
    refine .seq ?_
    refine .region ?_
    refine W.pure (v := .int _ _) rfl rfl (v_move (oo rfl rfl)) ?_
    refine W.pure rfl rfl (v_int (oo rfl rfl) (oo rfl rfl) rfl) ?_
    refine .nil ?_
    refine .cond rfl rfl (fun g439 => ?_) (fun g439 => ?_)
    · try simp only [decide_eq_true_eq, decide_eq_false_iff_not, beq_iff_eq, bne_iff_ne, beq_eq_false_iff_ne, bne_eq_false_iff_eq, List.length_map, gt_iff_lt, ge_iff_le, Int.not_lt, Int.not_le] at g439
      refine .seq ?_
      refine .region ?_
      refine W.pure (v := sv) rfl rfl (v_move (oo rfl rfl)) ?_
      refine W.pure rfl rfl (len_sl (oo rfl rfl) (Sl.isSl (hs5.ext y437)) (elemT_inv el24)) ?_
      refine W.pure (v := bv) rfl rfl (v_move (oo rfl rfl)) ?_
      refine W.pure rfl rfl (len_sl (oo rfl rfl) (Sl.isSl (hs7.ext y438)) (elemT_inv el24)) ?_
      refine W.pure rfl rfl (v_add (oo rfl rfl) (oo rfl rfl) (by rw [hx0 g439, hz0 g439]; decide) (by rw [hx0 g439, hz0 g439]; decide)) ?_
      refine W.pure rfl rfl (v_int (oo rfl rfl) (oo rfl rfl) rfl) ?_
      refine W.pure (v := .bool _) rfl rfl (v_assign (oo rfl rfl)) ?_
      refine .nil ?_
      refine .ret ?_
      refine ret1V (P := Try.prog) (fn := Try.f3) (n := 100) (R := fun v H' => v = .bool true ∧ Ext H H') (v := .bool _) (by rfl) (by rfl) (by exact rfl) ?_
      -- leaf 6
      first
        | exact ⟨rfl, e436⟩
        | exact ⟨by rw [hx0 g439, hz0 g439]; rfl, e436⟩
        | exact ⟨congrArg Value.bool (decide_eq_true (by rw [hz1 hc, show i = l.length by omega])), e436⟩
    · try simp only [decide_eq_true_eq, decide_eq_false_iff_not, beq_iff_eq, bne_iff_ne, beq_eq_false_iff_ne, bne_eq_false_iff_eq, List.length_map, gt_iff_lt, ge_iff_le, Int.not_lt, Int.not_le] at g439
      refine .skip ?_
      refine .seq ?_
      refine .region ?_
      refine W.pure (v := _) rfl rfl (v_assign (oo rfl rfl)) ?_
      refine .nil ?_
      refine .seq ?_
      refine .seq ?_
      refine .region ?_
      refine W.pure (v := lv) rfl rfl (v_move (oo rfl rfl)) ?_
      refine W.pure rfl rfl (len_sl (oo rfl rfl) (Sl.isSl (hl.ext e436)) (elemT_inv el22)) ?_
      refine W.pure (v := .int _ _) rfl rfl (v_move (oo rfl rfl)) ?_
      refine .nil ?_
      refine .block ?_
      refine AW.loop (α := Nat × Value) (fun (i, bv2) σ' H' => (Ext H H') ∧ (Ext H411 H') ∧ (Ext H417 H') ∧ (σ' 66 = .int .i64 (i : Nat)) ∧ (σ' 10 = bv2) ∧ (Bld H' H417.next 3 1 bv2 ((brs l i).map num)) ∧ (i ≤ l.length)) (fun (i, bv2) => l.length - i) (0, .slice none 0 0) ⟨e436, y437, y438, rfl, rfl, (Bld.nil _ _ _ _), (Nat.zero_le _)⟩ ?_
      rintro ⟨i, bv2⟩ σ446 H447 fr448 ⟨e440, y441, y442, t66_443, t10_444, bd445, hil⟩
      have h0_449 : σ446 0 = _ := (fr448 0 rfl).trans rfl
      have h1_450 : σ446 1 = lv := (fr448 1 rfl).trans rfl
      have h5_451 : σ446 5 = sv := (fr448 5 rfl).trans rfl
      have h7_452 : σ446 7 = bv := (fr448 7 rfl).trans rfl
      have h64_453 : σ446 64 = lv := (fr448 64 rfl).trans rfl
      have h65_454 : σ446 65 = _ := (fr448 65 rfl).trans rfl
      have h89_455 : σ446 89 = _ := (fr448 89 rfl).trans rfl
      have h90_456 : σ446 90 = _ := (fr448 90 rfl).trans rfl
      have h91_457 : σ446 91 = _ := (fr448 91 rfl).trans rfl
      have h92_458 : σ446 92 = _ := (fr448 92 rfl).trans rfl
      have h93_459 : σ446 93 = _ := (fr448 93 rfl).trans rfl
      have h94_460 : σ446 94 = _ := (fr448 94 rfl).trans rfl
      have h95_461 : σ446 95 = _ := (fr448 95 rfl).trans rfl
      have h96_462 : σ446 96 = _ := (fr448 96 rfl).trans rfl
      have h97_463 : σ446 97 = _ := (fr448 97 rfl).trans rfl
      have h98_464 : σ446 98 = _ := (fr448 98 rfl).trans rfl
      have h99_465 : σ446 99 = _ := (fr448 99 rfl).trans rfl
      have hc : checkS n l = 0 := g439
      have vl := valid_int hc
      refine .seq ?_
      refine .region ?_
      refine W.pure rfl rfl (v_int (oo rfl t66_443) (oo rfl h65_454) rfl) ?_
      refine .nil ?_
      refine .seq ?_
      refine .cond rfl rfl (fun g466 => ?_) (fun g466 => ?_)
      · try simp only [decide_eq_true_eq, decide_eq_false_iff_not, beq_iff_eq, bne_iff_ne, beq_eq_false_iff_ne, bne_eq_false_iff_eq, List.length_map, gt_iff_lt, ge_iff_le, Int.not_lt, Int.not_le] at g466
        have hi : i < l.length := by omega
        refine .skip ?_
        refine .seq ?_
        refine .block ?_
        refine .seq ?_
        refine .region ?_
        refine W.pure (v := .int _ _) rfl rfl (v_move (oo rfl t66_443)) ?_
        refine W.pure rfl rfl (v_idxN el22 sz29 (oo rfl h64_453) (oo rfl t66_443) (Sl.isSl (hl.ext e440)) (by simpa using hi)) ?_
        refine W.loadA rfl rfl ag29 sz29 (Sl.idx (hl.ext e440) (he i hi)) rfl ?_
        refine W.alloc rfl rfl ze3 (by kernel_rfl) fun b467 H468 nb469 => ?_
        have fr470 := Nat.le_trans (e440).1 nb469.fresh
        have a471 := Bld.apart bd445 nb469.fresh
        have fr472 := Nat.le_trans (y441).1 nb469.fresh
        have fr473 := Nat.le_trans (y442).1 nb469.fresh
        have e474 := Ext.trans e440 nb469.ext
        have y475 := Ext.trans y441 nb469.ext
        have y476 := Ext.trans y442 nb469.ext
        have bd477 := Bld.ext bd445 nb469.ext
        have k478 := nb469.get
        refine W.alloc rfl rfl ze29 (by kernel_rfl) fun b479 H480 nb481 => ?_
        have fr482 := Nat.le_trans (e474).1 nb481.fresh
        have ne483 := nb481.ne k478
        have a484 := Bld.apart bd477 nb481.fresh
        have fr485 := Nat.le_trans (y475).1 nb481.fresh
        have fr486 := Nat.le_trans (y476).1 nb481.fresh
        have e487 := Ext.trans e474 nb481.ext
        have k488 := (nb481.ext).2 _ _ k478
        have y489 := Ext.trans y475 nb481.ext
        have y490 := Ext.trans y476 nb481.ext
        have bd491 := Bld.ext bd477 nb481.ext
        have k492 := nb481.get
        refine W.storeL (v := .int _ _) rfl rfl sz3 rfl rfl k488 rfl rfl rfl (Nat.le_of_ble_eq_true rfl)  fun H493 sb494 => ?_
        have e495 := sb494.ext e487 fr470
        have k496 := sb494.get
        have k497 := sb494.old k492 (Ne.symm ne483)
        have y498 := sb494.ext y489 fr472
        have y499 := sb494.ext y490 fr473
        have bd500 := Bld.set bd491 sb494 a471
        refine W.storeL (v := .agg _) rfl rfl sz29 rfl rfl k497 rfl rfl rfl (Nat.le_of_ble_eq_true rfl)  fun H501 sb502 => ?_
        have e503 := sb502.ext e495 fr482
        have k504 := sb502.old k496 ne483
        have k505 := sb502.get
        have y506 := sb502.ext y498 fr485
        have y507 := sb502.ext y499 fr486
        have bd508 := Bld.set bd500 sb502 a484
        refine .nil ?_
        refine .seq ?_
        refine .draw (M := [0, 0, 0, 7, 0, 16, 63, 127, 0, 256, 1023, 2047, 4095]) mixed (by kernel_rfl) (by kernel_rfl) fun H509 x510 => ?_
        have e511 := Ext.trans e503 x510
        have k512 := (x510).2 _ _ k504
        have k513 := (x510).2 _ _ k505
        have y514 := Ext.trans y506 x510
        have y515 := Ext.trans y507 x510
        have bd516 := Bld.ext bd508 x510
        refine D.pure (v := .int _ _) rfl rfl (v_move (oo rfl h0_449)) ?_
        refine D.pure (v := lv) rfl rfl (v_move (oo rfl h1_450)) ?_
        refine D.pure rfl rfl (v_makeFunc (opndL_ooL rfl rfl) (opndL_ooL rfl rfl)) ?_
        obtain ⟨jv, H517, c518, ⟨rv, M, hj, hr, hM3⟩, x520⟩ := (f14_int H509 n lv (.func (.func 15) #[] #[.pointer (some ⟨b467, 0, none⟩)]) l (fun k => k != i) hc (hl.ext e511) (used15 _ i _ _ k512 rfl _))
        refine D.call rfl rfl (fn := Try.f14) (by kernel_rfl) rfl rfl c518 x520 RS.nil fa_nil fun rs521 => ?_
        have e522 := Ext.trans e511 x520
        have k523 := (x520).2 _ _ k512
        have k524 := (x520).2 _ _ k513
        have y525 := Ext.trans y514 x520
        have y526 := Ext.trans y515 x520
        have bd527 := Bld.ext bd516 x520
        have le528 := (e522).1
        have le529 := (y525).1
        have le530 := (y526).1
        refine D.pure rfl rfl (v_idxA ar29 sz3 (oo rfl rfl) (oo rfl rfl) (Pt.loc k524) (by decide) (by decide)) ?_
        refine D.load1 rfl rfl ag3 (Pt.sub (Pt.loc k524) 0 1 rfl) rs521 (faQ_eq (Ext.same x520 (Pt.blk (Pt.sub (Pt.loc k513) 0 1 rfl))) fa_nil) fun rs531 => ?_
        refine D.pure rfl rfl (v_idx el31 sz30 (oo rfl rfl) (oo rfl rfl) (Sl.isSl (hj.ext (Ext.refl _))) (vl i hi).1 (by simpa using (vl i hi).2.1)) ?_
        refine D.load1 rfl rfl ag30 (Sl.idx (hj.ext (Ext.refl _)) (range_at _ (vl i hi).2.1)) rs531 (faQ_bit (by decide) fa_nil) fun rs532 => ?_
        refine D.pure rfl rfl (v_idxA ar29 sz3 (oo rfl rfl) (oo rfl rfl) (Pt.loc k524) (by decide) (by decide)) ?_
        refine D.load1 rfl rfl ag3 (Pt.sub (Pt.loc k524) 1 1 rfl) rs532 (faQ_eq (Ext.same x520 (Pt.blk (Pt.sub (Pt.loc k513) 1 1 rfl))) fa_nil) fun rs533 => ?_
        refine D.pure rfl rfl (v_idx el30 sz4 (oo rfl rfl) (oo rfl rfl) (Sl.isSl ((hr _ (vl i hi).2.1).ext (Ext.refl _))) (vl i hi).2.2.1 (by simpa using (vl i hi).2.2.2)) ?_
        refine D.load1 rfl rfl ag4 (Sl.idx ((hr _ (vl i hi).2.1).ext (Ext.refl _)) (range_at _ (vl i hi).2.2.2)) rs533 (faQ_bit (by decide) fa_nil) fun rs534 => ?_
        refine D.pure rfl rfl (bool_not (oo rfl rfl)) ?_
        refine .nil ?_
        refine .cond rfl rfl (fun g535 => ?_) (fun g535 => ?_)
        · try simp only [decide_eq_true_eq, decide_eq_false_iff_not, beq_iff_eq, bne_iff_ne, beq_eq_false_iff_ne, bne_eq_false_iff_eq, List.length_map, gt_iff_lt, ge_iff_le, Int.not_lt, Int.not_le] at g535
          refine .region ?_
          refine W.pure (v := bv2) rfl rfl (v_move (oo rfl t10_444)) ?_
          refine W.load1 rfl rfl ag3 (Pt.loc k523) ?_
          refine W.buildSlice rfl rfl el24 ze3 sz3 (by kernel_rfl) (opndP_oo (by rfl) (by rfl)) (by rfl) fun b536 H537 nb538 => ?_
          have fr539 := Nat.le_trans (e522).1 nb538.fresh
          have ne540 := nb538.ne k523
          have ne541 := nb538.ne k524
          have a542 := Bld.apart bd527 nb538.fresh
          have fr543 := Nat.le_trans (y525).1 nb538.fresh
          have fr544 := Nat.le_trans (y526).1 nb538.fresh
          have fr545 := Nat.le_trans ((Ext.refl _)).1 nb538.fresh
          have e546 := Ext.trans e522 nb538.ext
          have k547 := (nb538.ext).2 _ _ k523
          have k548 := (nb538.ext).2 _ _ k524
          have y549 := Ext.trans y525 nb538.ext
          have y550 := Ext.trans y526 nb538.ext
          have y551 := Ext.trans (Ext.refl _) nb538.ext
          have bd552 := Bld.ext bd527 nb538.ext
          have k553 := nb538.get
          refine W.append rfl rfl el24 ni24 ze3 sz3 by3 rfl (by decide) bd552 (Sl.one k553 rfl rfl) rfl (by have := brs_len l i; simp; omega) (y550).1 fun v554 H555 bd556 ap557 => ?_
          have e558 := App.ext ap557 e546 bd552 le423
          have y559 := App.ext ap557 y549 bd552 le424
          have y560 := App.ext ap557 y550 bd552 (Nat.le_refl _)
          have k561 := (ap557.keep _ _ k547 a471).1
          have a562 := (ap557.keep _ _ k547 a471).2
          have k563 := (ap557.keep _ _ k548 a484).1
          have a564 := (ap557.keep _ _ k548 a484).2
          have k565 := (ap557.keep _ _ k553 a542).1
          have a566 := (ap557.keep _ _ k553 a542).2
          refine W.pure (v := v554) rfl rfl (v_assign (oo rfl rfl)) ?_
          refine .nil ?_
          refine .region ?_
          refine W.pure rfl rfl (v_inc (oo rfl t66_443) (by omega)) ?_
          refine W.pure (v := .int _ _) rfl rfl (v_move (oo rfl rfl)) ?_
          refine .nil ?_
          refine ⟨(i + 1, v554), by dsimp only; omega, e558, y559, y560, rfl, rfl, (by rw [br_yes (fun c => by have := (hM3 _ _ (vl i hi).2.1 (vl i hi).2.2.2).2 c; rw [this] at g535; exact absurd g535 (by decide))]; exact bd556), (by omega)⟩
        · try simp only [decide_eq_true_eq, decide_eq_false_iff_not, beq_iff_eq, bne_iff_ne, beq_eq_false_iff_ne, bne_eq_false_iff_eq, List.length_map, gt_iff_lt, ge_iff_le, Int.not_lt, Int.not_le] at g535
          refine .skip ?_
          refine .region ?_
          refine W.pure rfl rfl (v_inc (oo rfl t66_443) (by omega)) ?_
          refine W.pure (v := .int _ _) rfl rfl (v_move (oo rfl rfl)) ?_
          refine .nil ?_
          refine ⟨(i + 1, bv2), by dsimp only; omega, e522, y525, y526, rfl, t10_444, (by rw [br_no ((hM3 _ _ (vl i hi).2.1 (vl i hi).2.2.2).1 (by simpa using g535))]; exact bd527), (by omega)⟩
      · try simp only [decide_eq_true_eq, decide_eq_false_iff_not, beq_iff_eq, bne_iff_ne, beq_eq_false_iff_ne, bne_eq_false_iff_eq, List.length_map, gt_iff_lt, ge_iff_le, Int.not_lt, Int.not_le] at g466
        refine .exit ?_
        refine .seq ?_
        refine .region ?_
        refine W.pure (v := sv) rfl rfl (v_move (oo rfl h5_451)) ?_
        refine W.pure (v := .int _ _) rfl rfl (v_move (oo rfl h0_449)) ?_
        refine W.pure (v := lv) rfl rfl (v_move (oo rfl h1_450)) ?_
        obtain ⟨jw, H567, c568, ⟨rw, M2, hj2, hr2, hM4⟩, x570⟩ := (f14_int H447 n lv (.func (.func 18) #[] #[]) l (fun _ => true) hc (hl.ext e440) (used18 _ _))
        refine W.call rfl rfl (fn := Try.f14) (by kernel_rfl) rfl rfl c568 ?_
        have e571 := Ext.trans e440 x570
        have y572 := Ext.trans y441 x570
        have y573 := Ext.trans y442 x570
        have bd574 := Bld.ext bd445 x570
        have le575 := (e571).1
        have le576 := (y572).1
        have le577 := (y573).1
        obtain ⟨nv, H578, c579, ⟨cs, m2, hs93, hN⟩, x581⟩ := (f17_ok H567 n.toNat jw rw M2 (by have := checkS_inv hc; omega) (eqv_of hM4) (hj2.ext (Ext.refl _)) (fun i hi => (hr2 i hi).ext (Ext.refl _)))
        refine W.call rfl rfl (fn := Try.f17) (by kernel_rfl) rfl rfl c579 ?_
        have e582 := Ext.trans e571 x581
        have y583 := Ext.trans y572 x581
        have y584 := Ext.trans y573 x581
        have y585 := Ext.trans (Ext.refl _) x581
        have bd586 := Bld.ext bd574 x581
        have le587 := (e582).1
        have le588 := (y583).1
        have le589 := (y584).1
        have le590 := (y585).1
        obtain ⟨_, H591, c592, rfl, x594⟩ := (f16_ok H578 sv nv xs cs (hs5.ext y583) (hs93.ext (Ext.refl _)) (by have := (hx1 hc).choose_spec.len; have := checkS_inv hc; omega))
        refine W.call rfl rfl (fn := Try.f16) (by kernel_rfl) rfl rfl c592 ?_
        have e595 := Ext.trans e582 x594
        have y596 := Ext.trans y583 x594
        have y597 := Ext.trans y584 x594
        have y598 := Ext.trans y585 x594
        have y599 := Ext.trans (Ext.refl _) x594
        have bd600 := Bld.ext bd586 x594
        refine W.pure (v := .bool _) rfl rfl (v_move (oo rfl rfl)) ?_
        refine W.pure (v := bv) (gk rfl rfl (congrArg Value.bool (decide_eq_true (same_numbers hM4 (hx1 hc).choose_spec hN))) rfl) rfl (v_move (oo rfl h7_452)) ?_
        refine W.pure (v := bv2) (gk rfl rfl (congrArg Value.bool (decide_eq_true (same_numbers hM4 (hx1 hc).choose_spec hN))) rfl) rfl (v_move (oo rfl t10_444)) ?_
        obtain ⟨_, H601, c602, rfl, x604⟩ := (f16_ok H591 bv bv2 zs ((brs l i).map (fun k : Nat => (k : Int))) (hs7.ext y597) (by rw [← num_ints]; exact Bld.sl bd600) (by rw [hz1 hc]; have := brs_len l l.length; simp; omega))
        refine W.call (gk rfl rfl (congrArg Value.bool (decide_eq_true (same_numbers hM4 (hx1 hc).choose_spec hN))) rfl) rfl (fn := Try.f16) (by kernel_rfl) rfl rfl c602 ?_
        have e605 := Ext.trans e595 x604
        have y606 := Ext.trans y596 x604
        have y607 := Ext.trans y597 x604
        have y608 := Ext.trans y598 x604
        have y609 := Ext.trans y599 x604
        have bd610 := Bld.ext bd600 x604
        refine W.pure (v := .bool _) rfl rfl (v_pickT (oo rfl (congrArg Value.bool (decide_eq_true (same_numbers hM4 (hx1 hc).choose_spec hN)))) (oo rfl rfl)) ?_
        refine W.pure (v := .bool _) rfl rfl (v_assign (oo rfl rfl)) ?_
        refine .nil ?_
        refine .ret ?_
        refine ret1V (P := Try.prog) (fn := Try.f3) (n := 100) (R := fun v H' => v = .bool true ∧ Ext H H') (v := .bool _) (by rfl) (by rfl) (by exact rfl) ?_
        -- leaf 7
        first
          | exact ⟨rfl, e605⟩
          | exact ⟨by rw [hx0 g466, hz0 g466]; rfl, e605⟩
          | exact ⟨congrArg Value.bool (decide_eq_true (by rw [hz1 hc, show i = l.length by omega])), e605⟩

end Go.Am.Try
