/- NatChecks over the statement's reading of its arguments. -/
import Derived.Test.YtlmgdnhnpkgheaaDoorS3N9
import Derived.Test.YtlmgdnhnpkgheaaDoorBxR
namespace Go.Am.Tryd
open Go Go.Am Go.Proofs Go.Proofs.YtlmgdnhnpkgheaaDoor
set_option linter.unusedVariables false
set_option linter.unusedSimpArgs false
set_option maxRecDepth 20000
theorem natChecks {H : Type} (A : AH) (avs : List Value) (ds : List (DataW H)) (hb : Rows.uptoBulkAll ds ≤ 1048576) (ha : AArgs Tryd.prog A.get 1 [9] avs ds) : ∃ A', ACalls Tryd.prog 3 avs A (.bool true) A' := by
  obtain ⟨v0, vs0, d0, ds0, rfl, rfl, a0, ha⟩ := AArgs.cons_inv ha
  obtain ⟨rfl, rfl⟩ := AArgs.nil_inv ha
  simp only [Rows.uptoBulkAll] at hb
  obtain ⟨x0, r0, i0⟩ := ((Arg.str (t := 9) (by kernel_rfl)) : Arg H Tryd.prog A.get 1 9 _ 1048576 _) [v0] d0 (AVal.one (by kernel_rfl) a0) (by omega)
  obtain rfl := (List.cons.inj r0).1
  obtain ⟨K, hK⟩ := natChecks_true i0
  exact CR.done (g_law_NatChecks_ok K x0 (Ow.empty A) true hK)
end Go.Am.Tryd
