/- Plain law: NatChecks answers true. -/
import Derived.Test.YtlmgdnhnpkgheaaDoorN1x1
import Derived.Test.YtlmgdnhnpkgheaaDoorBxP
namespace Go.Am.Tryd
open Go Go.Am Go.Proofs
set_option linter.unusedSimpArgs false
set_option linter.unusedVariables false
set_option maxRecDepth 100000
theorem natFact_true : g_law_natFact 1048577 = some true := by kernel_rfl
def digB (c : Int) : Bool := decide (48 ≤ c) && decide (c ≤ 57)
theorem runS_dig : ∀ (l : List Int), runS (fun c (_ : Unit) => if digB c then .inr () else .inl (5 : Int)) l () = if l.all digB then .inr () else .inl 5
  | [] => rfl
  | x :: l => by
    simp only [runS, List.all_cons]
    by_cases hp : digB x = true
    · simp only [hp, if_true, Bool.true_and, Sum.elim_inr]; exact runS_dig l
    · simp [hp]
theorem dig_if {α : Type} (c : Int) (A B : Option α) : Option.bind (if (decide (c < 48)) = true then some true else some (decide (c > 57))) (tu1 fun x => if x = true then A else B) = if digB c = true then B else A := by
  unfold digB
  by_cases h1 : c < 48 <;> by_cases h2 : c > 57 <;> simp [h1, h2, tu1, show ¬ (48 : Int) ≤ c ↔ c < 48 by omega] <;> (try split) <;> (try omega) <;> rfl
variable {K : Nat} {s : ByteArray}
theorem digits_prog (hs : s.size ≤ 1048576) (hK : s.size < K) : g_nat_Check_l0 K s K 0 = some (if (bytesOf s).all digB then .inr () else .inl 5) := by
  have hn := bytesOf_length s
  have h : g_nat_Check_l0 K s K 0 = _ := loop_sum0 (bytesOf s) (fun k (_ : Unit) i => g_nat_Check_l0 K s k i) (fun c (_ : Unit) => if digB c then .inr () else .inl (5 : Int)) (fun _ _ => True)
    (fun k _ i x hx _ => by
      have hi := (List.getElem?_eq_some_iff.1 hx).1
      show g_nat_Check_l0 K s (k + 1) i = _
      rw [g_nat_Check_l0, lt_nat hi, if_pos rfl, idx_nat hx]
      simp only [Option.bind_some, dig_if, kw1 hi (by omega)]
      cases digB x <;> simp)
    (fun _ _ _ _ _ _ _ => trivial)
    (fun k _ i hi => by
      show g_nat_Check_l0 K s (k + 1) i = _
      rw [g_nat_Check_l0, nlt_nat hi]; simp) K () (by omega) trivial
  rw [h, runS_dig]
theorem digits_ref (hs : s.size ≤ 1048576) (hK : s.size < K) : g_R_NatError_l0 K s K 0 = some (if (bytesOf s).all digB then .inr () else .inl 5) := by
  have hn := bytesOf_length s
  have h : g_R_NatError_l0 K s K 0 = _ := loop_sum0 (bytesOf s) (fun k (_ : Unit) i => g_R_NatError_l0 K s k i) (fun c (_ : Unit) => if digB c then .inr () else .inl (5 : Int)) (fun _ _ => True)
    (fun k _ i x hx _ => by
      have hi := (List.getElem?_eq_some_iff.1 hx).1
      show g_R_NatError_l0 K s (k + 1) i = _
      rw [g_R_NatError_l0, ← hn, lt_nat hi, if_pos rfl, bidx_eq, idx_nat hx]
      simp only [Option.bind_some, dig_if, kw1 hi (by omega)]
      cases digB x <;> simp)
    (fun _ _ _ _ _ _ _ => trivial)
    (fun k _ i hi => by
      show g_R_NatError_l0 K s (k + 1) i = _
      rw [g_R_NatError_l0, ← hn, nlt_nat hi]; simp) K () (by omega) trivial
  rw [h, runS_dig]
def natE (s : ByteArray) : Int := if s.size = 0 then 5 else if (bytesOf s).head? = some 48 ∧ s.size > 1 then 5 else if !(bytesOf s).all digB then 5 else if s.size > 2000 then 2 else 0
theorem sEq_nil : sEq s ⟨#[]⟩ = (s.size == 0) := by
  cases hq : sEq s ⟨#[]⟩ with
  | true => rw [sEq_iff] at hq; subst hq; rfl
  | false =>
    have : s.size ≠ 0 := fun h => by
      have : s = ⟨#[]⟩ := by
        cases s with
        | mk d => congr 1; exact Array.eq_empty_of_size_eq_zero h
      rw [sEq_iff.2 this] at hq; cases hq
    simp [this]
theorem first_at (h : s.size ≠ 0) : ∃ c, bidx s 0 = some c ∧ (bytesOf s).head? = some c := by
  have hn := bytesOf_length s
  cases hb : bytesOf s with
  | nil => rw [hb] at hn; simp at hn; omega
  | cons c l => exact ⟨c, by rw [bidx_eq, hb]; rfl, rfl⟩
theorem check_prog (hs : s.size ≤ 1048576) (hK : s.size < K) : g_nat_Check K s = some (natE s) := by
  unfold g_nat_Check natE
  rw [digits_prog hs hK, sEq_nil]
  by_cases h0 : s.size = 0
  · simp [h0, tu1]
  · obtain ⟨c, h1, h2⟩ := first_at h0
    rw [h1, h2]
    have h0' : (s.size == 0) = false := by simpa using h0
    by_cases hc : c = 48 <;> by_cases h3 : s.size > 1 <;> by_cases h4 : s.size > 2000 <;> cases h5 : (bytesOf s).all digB <;>
      simp [h0, h0', hc, h3, h4, h5, tu1, tu0, bindS, show ((s.size : Int) > 1) ↔ s.size > 1 by omega, show ((s.size : Int) > 2000) ↔ s.size > 2000 by omega] <;> omega
theorem error_ref (hs : s.size ≤ 1048576) (hK : s.size < K) : g_R_NatError K s = some (natE s) := by
  unfold g_R_NatError natE
  rw [digits_ref hs hK]
  by_cases h0 : s.size = 0
  · simp [h0, tu1]
  · obtain ⟨c, h1, h2⟩ := first_at h0
    rw [h1, h2]
    have h0' : ((s.size : Int) == 0) = false := by rw [beq_eq_false_iff_ne]; omega
    by_cases hc : c = 48 <;> by_cases h3 : s.size > 1 <;> by_cases h4 : s.size > 2000 <;> cases h5 : (bytesOf s).all digB <;>
      simp [h0, h0', hc, h3, h4, h5, tu1, tu0, bindS, show ((s.size : Int) > 1) ↔ s.size > 1 by omega, show ((s.size : Int) > 2000) ↔ s.size > 2000 by omega] <;> omega
theorem natChecks_true (hs : s.size ≤ 1048576) : ∃ K, g_law_NatChecks K s = some true := by
  refine ⟨1048577, ?_⟩
  unfold g_law_NatChecks
  rw [natFact_true, check_prog hs (by omega), error_ref hs (by omega)]
  simp [tu1]
end Go.Am.Tryd
