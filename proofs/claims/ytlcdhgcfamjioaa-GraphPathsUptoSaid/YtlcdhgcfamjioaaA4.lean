/- GraphPaths over the statement's reading of its arguments. -/
import Derived.Test.YtlcdhgcfamjioaaS4G4
import Derived.Test.YtlcdhgcfamjioaaBxR
namespace Go.Am.Try
open Go Go.Am Go.Proofs Go.Proofs.Ytlcdhgcfamjioaa
set_option linter.unusedVariables false
set_option linter.unusedSimpArgs false
set_option maxRecDepth 20000
theorem graphPaths {H : Type} (A : AH) (avs : List Value) (ds : List (DataW H)) (hb : Rows.uptoBulkAll ds ≤ 1048576) (ha : AArgs Try.prog A.get 3 [3, 22, 3, 3] avs ds) : ∃ A', ACalls Try.prog 4 avs A (.bool true) A' := by
  obtain ⟨v0, vs0, d0, ds0, rfl, rfl, a0, ha⟩ := AArgs.cons_inv ha
  obtain ⟨v1, vs1, d1, ds1, rfl, rfl, a1, ha⟩ := AArgs.cons_inv ha
  obtain ⟨v2, vs2, d2, ds2, rfl, rfl, a2, ha⟩ := AArgs.cons_inv ha
  obtain ⟨v3, vs3, d3, ds3, rfl, rfl, a3, ha⟩ := AArgs.cons_inv ha
  obtain ⟨rfl, rfl⟩ := AArgs.nil_inv ha
  simp only [Rows.uptoBulkAll] at hb
  obtain ⟨x0, r0, i0⟩ := ((Arg.int (t := 3) (k := .i64) (by kernel_rfl)) : Arg H Try.prog A.get 3 3 _ 1048576 _) [v0] d0 (AVal.one (by kernel_rfl) a0) (by omega)
  obtain rfl := (List.cons.inj r0).1
  obtain ⟨x1, r1, i1⟩ := ((Arg.sl (t := 22) (e := 29) (by kernel_rfl) (Arg.arr (t := 29) (k := 2) (e := 3) (by kernel_rfl) (Arg.int (t := 3) (k := .i64) (by kernel_rfl)))) : Arg H Try.prog A.get 3 22 _ 1048576 _) [v1] d1 (AVal.one (by kernel_rfl) a1) (by omega)
  obtain ⟨x2, r2, i2⟩ := ((Arg.int (t := 3) (k := .i64) (by kernel_rfl)) : Arg H Try.prog A.get 3 3 _ 1048576 _) [v2] d2 (AVal.one (by kernel_rfl) a2) (by omega)
  obtain rfl := (List.cons.inj r2).1
  obtain ⟨x3, r3, i3⟩ := ((Arg.int (t := 3) (k := .i64) (by kernel_rfl)) : Arg H Try.prog A.get 3 3 _ 1048576 _) [v3] d3 (AVal.one (by kernel_rfl) a3) (by omega)
  obtain rfl := (List.cons.inj r3).1
  obtain ⟨K, hK⟩ := graphPaths_true i0 i1 i2 i3
  exact CR.done (g_law_GraphPaths_ok K x0 v1 x1 r1 x2 x3 (Ow.empty A) true hK)
end Go.Am.Try
