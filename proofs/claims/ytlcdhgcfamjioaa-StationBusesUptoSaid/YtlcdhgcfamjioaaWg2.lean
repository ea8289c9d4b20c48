/- Walks: function values of graph, bits.Mul. -/
import Derived.Test.YtlcdhgcfamjioaaFacts
namespace Go.Am.Try
open Go Go.Am Go.Proofs
set_option linter.unusedVariables false
set_option linter.unusedSimpArgs false

theorem f56_ok (H : AH) (k : Int) : ∃ v H', ACalls Try.prog 56 [.int .i64 k] H v H' ∧ (fun v H' => v = .bool true ∧ Ext H H') v H' := by
  refine calls_of_AW (n := 3) (fn := Try.f56) (by kernel_rfl) rfl rfl ?_
  refine .seq ?_
  refine .region ?_
  refine W.pure (v := .bool _) rfl rfl (v_assign (oo rfl rfl)) ?_
  refine .nil ?_
  refine .seq ?_
  refine .region ?_
  refine W.pure (v := .bool _) rfl rfl (v_assign (oo rfl rfl)) ?_
  refine .nil ?_
  refine .ret ?_
  refine ret1V (P := Try.prog) (fn := Try.f56) (n := 3) (R := fun v H' => v = .bool true ∧ Ext H H') (v := .bool _) (by rfl) (by rfl) (by exact rfl) ?_
  -- leaf 1
  exact ⟨rfl, (Ext.refl _)⟩

theorem f18_ok (H : AH) (k : Int) : ∃ v H', ACalls Try.prog 18 [.int .i64 k] H v H' ∧ (fun v H' => v = .bool true ∧ Ext H H') v H' := by
  refine calls_of_AW (n := 3) (fn := Try.f18) (by kernel_rfl) rfl rfl ?_
  refine .seq ?_
  refine .region ?_
  refine W.pure (v := .bool _) rfl rfl (v_assign (oo rfl rfl)) ?_
  refine .nil ?_
  refine .seq ?_
  refine .region ?_
  refine W.pure (v := .bool _) rfl rfl (v_assign (oo rfl rfl)) ?_
  refine .nil ?_
  refine .ret ?_
  refine ret1V (P := Try.prog) (fn := Try.f18) (n := 3) (R := fun v H' => v = .bool true ∧ Ext H H') (v := .bool _) (by rfl) (by rfl) (by exact rfl) ?_
  -- leaf 1
  exact ⟨rfl, (Ext.refl _)⟩

theorem f57_ok (H : AH) (k j : Int) (pv : Value) (hp : Pt H pv [.int .i64 j]) : ∃ v H', ACalls Try.prog 57 [.int .i64 k, pv] H v H' ∧ (fun v H' => v = .bool (k != j) ∧ Ext H H') v H' := by
  refine calls_of_AW (n := 7) (fn := Try.f57) (by kernel_rfl) rfl rfl ?_
  refine .seq ?_
  refine .region ?_
  refine W.pure (v := .bool _) rfl rfl (v_assign (oo rfl rfl)) ?_
  refine .nil ?_
  refine .seq ?_
  refine .region ?_
  refine W.pure (v := .int _ _) rfl rfl (v_move (oo rfl rfl)) ?_
  refine W.load1 rfl rfl ag3 (hp.ext (Ext.refl _)) ?_
  refine W.pure rfl rfl (v_int (oo rfl rfl) (oo rfl rfl) rfl) ?_
  refine W.pure (v := .bool _) rfl rfl (v_assign (oo rfl rfl)) ?_
  refine .nil ?_
  refine .ret ?_
  refine ret1V (P := Try.prog) (fn := Try.f57) (n := 7) (R := fun v H' => v = .bool (k != j) ∧ Ext H H') (v := .bool _) (by rfl) (by rfl) (by exact rfl) ?_
  -- leaf 1
  exact ⟨rfl, (Ext.refl _)⟩

theorem f15_ok (H : AH) (k j : Int) (pv : Value) (hp : Pt H pv [.int .i64 j]) : ∃ v H', ACalls Try.prog 15 [.int .i64 k, pv] H v H' ∧ (fun v H' => v = .bool (k != j) ∧ Ext H H') v H' := by
  refine calls_of_AW (n := 7) (fn := Try.f15) (by kernel_rfl) rfl rfl ?_
  refine .seq ?_
  refine .region ?_
  refine W.pure (v := .bool _) rfl rfl (v_assign (oo rfl rfl)) ?_
  refine .nil ?_
  refine .seq ?_
  refine .region ?_
  refine W.pure (v := .int _ _) rfl rfl (v_move (oo rfl rfl)) ?_
  refine W.load1 rfl rfl ag3 (hp.ext (Ext.refl _)) ?_
  refine W.pure rfl rfl (v_int (oo rfl rfl) (oo rfl rfl) rfl) ?_
  refine W.pure (v := .bool _) rfl rfl (v_assign (oo rfl rfl)) ?_
  refine .nil ?_
  refine .ret ?_
  refine ret1V (P := Try.prog) (fn := Try.f15) (n := 7) (R := fun v H' => v = .bool (k != j) ∧ Ext H H') (v := .bool _) (by rfl) (by rfl) (by exact rfl) ?_
  -- leaf 1
  exact ⟨rfl, (Ext.refl _)⟩

theorem used57 (H : AH) (j : Nat) (b : Nat) (k : ABlk) (hb : H.get b = some k) (hc : k.cells = [.int .i64 (j : Int)]) (m : Nat) : Used Try.prog H (.func (.func 57) #[] #[.pointer (some ⟨b, 0, none⟩)]) m (fun i => i != j) := by
  refine ⟨57, #[], #[.pointer (some ⟨b, 0, none⟩)], Try.f57, rfl, by kernel_rfl, by kernel_rfl, fun H1 e i hi => ?_⟩
  obtain ⟨v, H2, h1, h2, h3⟩ := f57_ok H1 (i : Int) (j : Int) (.pointer (some ⟨b, 0, none⟩)) (by have := Pt.loc (e.2 _ _ hb); rw [hc] at this; exact this)
  exact ⟨v, H2, h1, h2.trans (congrArg Value.bool (by rw [Bool.eq_iff_iff]; simp; omega)), h3⟩

theorem used15 (H : AH) (j : Nat) (b : Nat) (k : ABlk) (hb : H.get b = some k) (hc : k.cells = [.int .i64 (j : Int)]) (m : Nat) : Used Try.prog H (.func (.func 15) #[] #[.pointer (some ⟨b, 0, none⟩)]) m (fun i => i != j) := by
  refine ⟨15, #[], #[.pointer (some ⟨b, 0, none⟩)], Try.f15, rfl, by kernel_rfl, by kernel_rfl, fun H1 e i hi => ?_⟩
  obtain ⟨v, H2, h1, h2, h3⟩ := f15_ok H1 (i : Int) (j : Int) (.pointer (some ⟨b, 0, none⟩)) (by have := Pt.loc (e.2 _ _ hb); rw [hc] at this; exact this)
  exact ⟨v, H2, h1, h2.trans (congrArg Value.bool (by rw [Bool.eq_iff_iff]; simp; omega)), h3⟩

theorem used56 (H : AH) (m : Nat) : Used Try.prog H (.func (.func 56) #[] #[]) m (fun _ => true) := by
  refine ⟨56, #[], #[], Try.f56, rfl, by kernel_rfl, by kernel_rfl, fun H1 e i hi => ?_⟩
  obtain ⟨v, H2, h1, h2, h3⟩ := f56_ok H1 (i : Int)
  exact ⟨v, H2, h1, h2, h3⟩

theorem used18 (H : AH) (m : Nat) : Used Try.prog H (.func (.func 18) #[] #[]) m (fun _ => true) := by
  refine ⟨18, #[], #[], Try.f18, rfl, by kernel_rfl, by kernel_rfl, fun H1 e i hi => ?_⟩
  obtain ⟨v, H2, h1, h2, h3⟩ := f18_ok H1 (i : Int)
  exact ⟨v, H2, h1, h2, h3⟩

theorem mul24 : ∀ (m : Nat), m ≤ 24 → ∀ A : AH, ACalls Try.prog 126 [.int .u64 1, .int .u64 (m : Int)] A (.tuple #[.int .u64 0, .int .u64 (m : Int)]) A
  | 0, _, A => run_closed mixed (rounds := 100) (n := 4) (by kernel_rfl) (by kernel_rfl) (by kernel_rfl) A
  | 1, _, A => run_closed mixed (rounds := 100) (n := 4) (by kernel_rfl) (by kernel_rfl) (by kernel_rfl) A
  | 2, _, A => run_closed mixed (rounds := 100) (n := 4) (by kernel_rfl) (by kernel_rfl) (by kernel_rfl) A
  | 3, _, A => run_closed mixed (rounds := 100) (n := 4) (by kernel_rfl) (by kernel_rfl) (by kernel_rfl) A
  | 4, _, A => run_closed mixed (rounds := 100) (n := 4) (by kernel_rfl) (by kernel_rfl) (by kernel_rfl) A
  | 5, _, A => run_closed mixed (rounds := 100) (n := 4) (by kernel_rfl) (by kernel_rfl) (by kernel_rfl) A
  | 6, _, A => run_closed mixed (rounds := 100) (n := 4) (by kernel_rfl) (by kernel_rfl) (by kernel_rfl) A
  | 7, _, A => run_closed mixed (rounds := 100) (n := 4) (by kernel_rfl) (by kernel_rfl) (by kernel_rfl) A
  | 8, _, A => run_closed mixed (rounds := 100) (n := 4) (by kernel_rfl) (by kernel_rfl) (by kernel_rfl) A
  | 9, _, A => run_closed mixed (rounds := 100) (n := 4) (by kernel_rfl) (by kernel_rfl) (by kernel_rfl) A
  | 10, _, A => run_closed mixed (rounds := 100) (n := 4) (by kernel_rfl) (by kernel_rfl) (by kernel_rfl) A
  | 11, _, A => run_closed mixed (rounds := 100) (n := 4) (by kernel_rfl) (by kernel_rfl) (by kernel_rfl) A
  | 12, _, A => run_closed mixed (rounds := 100) (n := 4) (by kernel_rfl) (by kernel_rfl) (by kernel_rfl) A
  | 13, _, A => run_closed mixed (rounds := 100) (n := 4) (by kernel_rfl) (by kernel_rfl) (by kernel_rfl) A
  | 14, _, A => run_closed mixed (rounds := 100) (n := 4) (by kernel_rfl) (by kernel_rfl) (by kernel_rfl) A
  | 15, _, A => run_closed mixed (rounds := 100) (n := 4) (by kernel_rfl) (by kernel_rfl) (by kernel_rfl) A
  | 16, _, A => run_closed mixed (rounds := 100) (n := 4) (by kernel_rfl) (by kernel_rfl) (by kernel_rfl) A
  | 17, _, A => run_closed mixed (rounds := 100) (n := 4) (by kernel_rfl) (by kernel_rfl) (by kernel_rfl) A
  | 18, _, A => run_closed mixed (rounds := 100) (n := 4) (by kernel_rfl) (by kernel_rfl) (by kernel_rfl) A
  | 19, _, A => run_closed mixed (rounds := 100) (n := 4) (by kernel_rfl) (by kernel_rfl) (by kernel_rfl) A
  | 20, _, A => run_closed mixed (rounds := 100) (n := 4) (by kernel_rfl) (by kernel_rfl) (by kernel_rfl) A
  | 21, _, A => run_closed mixed (rounds := 100) (n := 4) (by kernel_rfl) (by kernel_rfl) (by kernel_rfl) A
  | 22, _, A => run_closed mixed (rounds := 100) (n := 4) (by kernel_rfl) (by kernel_rfl) (by kernel_rfl) A
  | 23, _, A => run_closed mixed (rounds := 100) (n := 4) (by kernel_rfl) (by kernel_rfl) (by kernel_rfl) A
  | 24, _, A => run_closed mixed (rounds := 100) (n := 4) (by kernel_rfl) (by kernel_rfl) (by kernel_rfl) A
  | m + 25, h, _ => absurd h (by omega)

end Go.Am.Try
