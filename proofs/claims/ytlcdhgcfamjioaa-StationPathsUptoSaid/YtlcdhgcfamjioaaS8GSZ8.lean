/- Plain law: Shortest says the same as Way. -/
import Derived.Test.YtlcdhgcfamjioaaS8GWZ8
import Derived.Test.YtlcdhgcfamjioaaS8GJZ8
namespace Go.Am.Try
open Go Go.Am Go.Proofs
set_option linter.unusedSimpArgs false
set_option linter.unusedVariables false
variable {K n fr to : Nat} {l : List (Int × Int)} {U : Nat → Bool} {u : Int → Option Bool}
def outS (o : Option (List Nat)) : List Int × Bool := match o with | some es => (es.map Int.ofNat, true) | none => ([], false)
theorem s1_ok (vl : Valid n l) (hl : l.length ≤ 1048576) (hn : n ≤ 1048576) (hK : l.length < K) (hu : ∀ i < l.length, u (i : Int) = some (U i)) (ht : to < n) :
    ∀ (k D v : Nat), k < D → v < n → k ≤ 1048576 → (∀ es, wayS l U to k v = some es → es.length = k) ∧ g_R_Shortest_1 K D v k to (l.map two) u = some (outS (wayS l U to k v)) := by
  intro k
  induction k with
  | zero =>
    intro D v hD hv _
    obtain ⟨D, rfl⟩ : ∃ m, D = m + 1 := ⟨D - 1, by omega⟩
    refine ⟨fun es h => ?_, ?_⟩
    · unfold wayS at h
      split at h
      · cases h; rfl
      · cases h
    · rw [g_R_Shortest_1]
      by_cases e : v = to
      · subst e; simp [wayS, outS]
      · have : ((v : Int) == (to : Int)) = false := by simp; omega
        simp [wayS, outS, e, this]
  | succ k ih =>
    intro D v hD hv hk
    obtain ⟨D, rfl⟩ : ∃ m, D = m + 1 := ⟨D - 1, by omega⟩
    have hlen : ∀ e < l.length, ∀ es, stepS l U to k v e = some es → es.length = k + 1 := by
      intro e he es h
      unfold stepS at h
      split at h
      · rename_i hc
        obtain ⟨A, B, hAB, hA, hB⟩ := lines_at vl he
        rw [hAB] at h hc
        simp only at h hc
        cases hq : wayS l U to k ((A : Int) + (B : Int) - v).toNat with
        | none => rw [hq] at h; cases h
        | some es' =>
          rw [hq] at h
          cases h
          simp only [Bool.and_eq_true, Bool.or_eq_true, beq_iff_eq] at hc
          have hw : ((A : Int) + (B : Int) - v).toNat < n := by omega
          have := (ih (k + 1) _ (by omega) hw (by omega)).1 _ hq
          simp [this]
      · cases h
    have key : ∃ r, g_R_Shortest_1_l0 K (g_R_Shortest_1 K D) v ((k + 1 : Nat) : Int) to (l.map two) u K 0 = some r ∧ ((∃ es, r = .inl (es.map Int.ofNat, true) ∧ wayS l U to (k + 1) v = some es ∧ es.length = k + 1) ∨ (r = .inr () ∧ wayS l U to (k + 1) v = none)) := by
      refine loop_inv (S := Unit) l.length (fun k' _ i => g_R_Shortest_1_l0 K (g_R_Shortest_1 K D) v ((k + 1 : Nat) : Int) to (l.map two) u k' i) (fun _ i => ∀ e < i, stepS l U to k v e = none) _ ?_ ?_ K () hK (fun e he => by omega)
      · rintro k' _ i hi hno
        have e0 : decide ((i : Int) < (((l.map two).length : Nat) : Int)) = true := by rw [List.length_map]; exact lt_nat hi
        obtain ⟨A, B, hAB, hA, hB⟩ := lines_at vl hi
        have eAB : kwrap .i64 ((A : Int) + B) = (A : Int) + B := kw (by omega) (by omega)
        have eABv : kwrap .i64 ((A : Int) + B - v) = (A : Int) + B - v := kw (by omega) (by omega)
        have ek : kwrap .i64 (((k + 1 : Nat) : Int) - 1) = (k : Int) := by rw [kw (by omega) (by omega)]; omega
        have hno' : ∀ {x : Option (List Nat)}, stepS l U to k v i = none → ∀ e < i + 1, stepS l U to k v e = none := fun {_} h e he => by
          rcases Nat.lt_succ_iff_lt_or_eq.1 he with h' | rfl
          · exact hno e h'
          · exact h
        show (∃ r, g_R_Shortest_1_l0 K (g_R_Shortest_1 K D) v ((k + 1 : Nat) : Int) to (l.map two) u (k' + 1) i = some r ∧ _) ∨ _
        rw [g_R_Shortest_1_l0, e0]
        simp only [if_true, idx_lines hi, Option.bind_some, hAB, two, idx_two0, idx_two1, hu i hi, eAB, eABv, ek, kw1 hi (by omega)]
        have hst : stepS l U to k v i = if U i && ((A : Int) == (v : Int) || (B : Int) == (v : Int)) then (wayS l U to k ((A : Int) + (B : Int) - v).toNat).map (i :: ·) else none := by unfold stepS; rw [hAB]
        by_cases hc : (U i && ((A : Int) == (v : Int) || (B : Int) == (v : Int))) = true
        · rw [if_pos hc] at hst
          have hc' := hc
          simp only [Bool.and_eq_true, Bool.or_eq_true, beq_iff_eq] at hc'
          have hw : ((A : Int) + (B : Int) - v).toNat < n := by omega
          have hwe : (((A : Int) + (B : Int) - v).toNat : Int) = (A : Int) + B - v := by omega
          obtain ⟨hlw, hrec⟩ := ih D _ (by omega) hw (by omega)
          rw [hwe] at hrec
          have hcond : (if (!U i) = true then some true else if ((A : Int) != (v : Int)) = true then some ((B : Int) != (v : Int)) else some false) = some false := by
            rw [hc'.1]
            rcases hc'.2 with h | h
            · have : ((A : Int) != (v : Int)) = false := by simpa using h
              simp [this]
            · have : ((B : Int) != (v : Int)) = false := by simpa using h
              simp [this]
          rw [hcond, hrec]
          cases hq : wayS l U to k ((A : Int) + (B : Int) - v).toNat with
          | some es =>
            left
            rw [hq] at hst
            have hle := hlw es hq
            refine ⟨.inl ((i :: es).map Int.ofNat, true), ?_, .inl ⟨i :: es, rfl, way_at hi hno hst, by simp [hle]⟩⟩
            have h9 : 0 + 1 + es.length ≤ 16777216 := by omega
            simp [outS, tu1, tu2, bindS, h9, show 1 + es.length ≤ 16777216 by omega]
          | none =>
            right
            rw [hq] at hst
            refine ⟨(), hno' (x := none) hst, ?_⟩
            simp [outS, tu1, tu0, bindS]
        · right
          rw [if_neg hc] at hst
          refine ⟨(), hno' (x := none) hst, ?_⟩
          have hcond : (if (!U i) = true then some true else if ((A : Int) != (v : Int)) = true then some ((B : Int) != (v : Int)) else some false) = some true := by
            cases hU : U i with
            | false => simp
            | true =>
              rw [hU] at hc
              simp only [Bool.true_and, Bool.or_eq_true, beq_iff_eq, not_or] at hc
              have h1 : ((A : Int) != (v : Int)) = true := by simpa using hc.1
              have h2 : ((B : Int) != (v : Int)) = true := by simpa using hc.2
              simp [h1, h2]
          rw [hcond]
          simp [tu1, tu0, bindS]
      · rintro k' _ i rfl hno
        refine ⟨.inr (), ?_, .inr ⟨rfl, way_no hno⟩⟩
        have e0 : decide (((l.length : Nat) : Int) < (((l.map two).length : Nat) : Int)) = false := by rw [List.length_map]; exact nlt_nat (Nat.le_refl _)
        show g_R_Shortest_1_l0 K (g_R_Shortest_1 K D) v ((k + 1 : Nat) : Int) to (l.map two) u (k' + 1) l.length = _
        rw [g_R_Shortest_1_l0, e0]; simp
    obtain ⟨r, h1, h2⟩ := key
    have hk0 : ((((k + 1 : Nat) : Int)) == 0) = false := by simp; omega
    rw [g_R_Shortest_1, hk0, h1]
    rcases h2 with ⟨es, rfl, h3, h4⟩ | ⟨rfl, h3⟩
    · rw [h3]; exact ⟨fun es' h => by cases h; exact h4, by simp [outS, bindS, tu2]⟩
    · rw [h3]; exact ⟨fun es' h => by (cases h), by simp [outS, bindS, tu0]⟩
theorem shortest_ok (vl : Valid n l) (hl : l.length ≤ 1048576) (hn : n ≤ 24) (hK : l.length + 24 < K) (hu : ∀ i < l.length, u (i : Int) = some (U i)) (hf : fr < n) (ht : to < n) {r : List Int × Bool} (hr : WaySpec l U n fr to r) :
    g_R_Shortest K n (l.map two) fr to u = some r := by
  obtain ⟨M, h1, h2⟩ := joined_ok (K := K) vl hl hn (by omega) (by omega) hu
  unfold g_R_Shortest
  rw [h1]
  simp only [Option.bind_some, idx_mat hf, idx_row ht]
  have hC := h2 fr to hf ht
  rcases hr with ⟨rfl, hno⟩ | ⟨k, es, rfl, hk, hw, hmin⟩
  · have : M fr to = false := by
      cases hM : M fr to with
      | false => rfl
      | true =>
        obtain ⟨k, hk⟩ := wk_of_con (hC.1 hM).symm
        exact absurd hk (hno k)
    simp [this]
  · have hwk := (way_some vl k fr hf).1 (by rw [hw]; rfl)
    have hM : M fr to = true := hC.2 (con_of_wk k fr hwk)
    rw [hM]
    have key : ∃ r, g_R_Shortest_l0 K n (l.map two) fr to u K 0 = some r ∧ r = .inl (es.map Int.ofNat, true) := by
      refine loop_inv (S := Unit) n (fun k' _ i => g_R_Shortest_l0 K n (l.map two) fr to u k' i) (fun _ i => i ≤ k) _ ?_ ?_ K () (by omega) (Nat.zero_le _)
      · rintro k' _ i hi hik
        have h3 := (s1_ok (K := K) vl hl (by omega) (by omega) hu ht i K fr (by omega) hf (by omega)).2
        show (∃ r, g_R_Shortest_l0 K n (l.map two) fr to u (k' + 1) i = some r ∧ _) ∨ _
        rw [g_R_Shortest_l0, lt_nat hi]
        simp only [if_true, h3, Option.bind_some, kw1 hi (by omega)]
        by_cases e : i = k
        · subst e
          left
          rw [hw]
          exact ⟨_, by simp [outS], rfl⟩
        · right
          have : wayS l U to i fr = none := by
            cases hq : wayS l U to i fr with
            | none => rfl
            | some es' => exact absurd ((way_some vl i fr hf).1 (by rw [hq]; rfl)) (hmin i (by omega))
          rw [this]
          exact ⟨(), by omega, by simp [outS]⟩
      · rintro k' _ i rfl hik
        omega
    obtain ⟨r, h3, rfl⟩ := key
    rw [h3]
    simp [bindS, tu2]
end Go.Am.Try
