/- Plain law: the numbers of connected parts, by growing and by the matrix. -/
import Derived.Test.YtlcdhgcfamjioaaS8GJZ8
namespace Go.Am.Try
open Go Go.Am Go.Proofs
set_option linter.unusedSimpArgs false
set_option linter.unusedVariables false
variable {K n : Nat} {l : List (Int × Int)} {U : Nat → Bool} {u : Int → Option Bool}
theorem p_l4 (vl : Valid n l) (hl : l.length ≤ 1048576) (hK : l.length < K) (hu : ∀ i < l.length, u (i : Int) = some (U i)) {base : List Int} {m s : Nat} (hO : Outer l U n base m s) (hs : s < n) {cs : List Int} (hM : Mid l U n base m s cs) :
    ∃ r, g_graph_Parts_l4 K (l.map two) u m K cs false 0 = some r ∧ Mid l U n base m s r.1 ∧ (r.2 = false → r.1 = cs ∧ Pass l U m r.1 l.length) ∧ (r.2 = true → cnt m n r.1 < cnt m n cs) := by
  refine loop_inv (S := List Int × Bool) l.length (fun k s i => g_graph_Parts_l4 K (l.map two) u m k s.1 s.2 i) (fun r i => Mid l U n base m s r.1 ∧ (r.2 = false → r.1 = cs ∧ Pass l U m r.1 i) ∧ (r.2 = true → cnt m n r.1 < cnt m n cs)) _ ?_ ?_ K (cs, false) hK ⟨hM, fun _ => ⟨rfl, pass_0 l U m cs⟩, fun h => by cases h⟩
  · rintro k ⟨ds, g⟩ i hi ⟨hD, hP⟩
    right
    have e0 : decide ((i : Int) < (((l.map two).length : Nat) : Int)) = true := by rw [List.length_map]; exact lt_nat hi
    obtain ⟨A, B, hAB, hA, hB⟩ := jlines_at vl hi
    have lA : A < ds.length := by rw [hD.len]; exact hA
    have lB : B < ds.length := by rw [hD.len]; exact hB
    have lB' : B < (ds.set A (m : Int)).length := by simpa using lB
    have stp : g_graph_Parts_l4 K (l.map two) u m (k + 1) ds g i = if (!((ds.getD A 0 == (m : Int)) == (ds.getD B 0 == (m : Int)))) = true ∧ U i = true then g_graph_Parts_l4 K (l.map two) u m k ((ds.set A (m : Int)).set B (m : Int)) true ((i + 1 : Nat) : Int) else g_graph_Parts_l4 K (l.map two) u m k ds g ((i + 1 : Nat) : Int) := by
      rw [g_graph_Parts_l4, e0]
      simp only [if_true, idx_lines hi, Option.bind_some, hAB, two, idx_two0, idx_two1, idx_getD lA, idx_getD lB, hu i hi, Int.toNat_natCast, idx_getD lB', kw1 hi (by omega)]
      cases hX : (!((ds.getD A 0 == (m : Int)) == (ds.getD B 0 == (m : Int)))) <;> cases hU : U i <;> simp [tu1, tu2]
    by_cases hc : (!((ds.getD A 0 == (m : Int)) == (ds.getD B 0 == (m : Int)))) = true ∧ U i = true
    · have hX : (!((ds.getD (l.getD i (0, 0)).1.toNat 0 == (m : Int)) == (ds.getD (l.getD i (0, 0)).2.toNat 0 == (m : Int)))) = true := by rw [hAB]; exact hc.1
      have h1 := mid_step hO hs hD vl hi hc.2 hX
      have h2 := (pass_grow (B := False) hP hD vl hi hX).2 rfl
      rw [hAB] at h1 h2
      refine ⟨((ds.set A (m : Int)).set B (m : Int), true), ⟨h1, fun h => (by cases h), fun _ => h2⟩, ?_⟩
      show g_graph_Parts_l4 K (l.map two) u m (k + 1) ds g i = _
      rw [stp, if_pos hc]
    · refine ⟨(ds, g), ⟨hD, ?_⟩, ?_⟩
      · refine pass_same (n := n) hP fun hU => ?_
        rw [hAB]
        have : (!((ds.getD A 0 == (m : Int)) == (ds.getD B 0 == (m : Int)))) = false := by
          cases hX : (!((ds.getD A 0 == (m : Int)) == (ds.getD B 0 == (m : Int)))) with
          | true => exact absurd ⟨hX, hU⟩ hc
          | false => rfl
        exact beq_same this
      · show g_graph_Parts_l4 K (l.map two) u m (k + 1) ds g i = _
        rw [stp, if_neg hc]
  · rintro k ⟨ds, g⟩ i rfl ⟨hD, hP⟩
    refine ⟨(ds, g), ?_, hD, hP⟩
    have e0 : decide (((l.length : Nat) : Int) < (((l.map two).length : Nat) : Int)) = false := by rw [List.length_map]; exact nlt_nat (Nat.le_refl _)
    show g_graph_Parts_l4 K (l.map two) u m (k + 1) ds g l.length = _
    rw [g_graph_Parts_l4, e0]; simp
theorem cnt_le {m n : Nat} (cs : List Int) : cnt m n cs ≤ n := by
  have := List.length_filter_le (fun i => cs.getD i 0 != (m : Int)) (List.range n)
  simpa [cnt] using this
theorem p_l2 (vl : Valid n l) (hl : l.length ≤ 1048576) (hK : l.length < K) (hKn : 2 * n + 1 < K) (hu : ∀ i < l.length, u (i : Int) = some (U i)) {base : List Int} {m s : Nat} (hO : Outer l U n base m s) (hs : s < n) {cs : List Int} (hM : Mid l U n base m s cs) :
    ∃ r, g_graph_Parts_l2 K (l.map two) u m K cs true = some r ∧ Mid l U n base m s r ∧ Pass l U m r l.length := by
  refine loop_wf (S := List Int × Bool) (fun k s => g_graph_Parts_l2 K (l.map two) u m k s.1 s.2) (fun r => Mid l U n base m s r.1 ∧ (r.2 = false → Pass l U m r.1 l.length)) (fun r => 2 * cnt m n r.1 + r.2.toNat) _ ?_ K (cs, true) ?_ ⟨hM, fun h => by cases h⟩
  · rintro k ⟨ds, g⟩ ⟨hD, hP⟩
    show (∃ r, g_graph_Parts_l2 K (l.map two) u m (k + 1) ds g = some r ∧ _) ∨ _
    rw [g_graph_Parts_l2]
    cases g with
    | false => left; exact ⟨ds, by simp, hD, hP rfl⟩
    | true =>
      right
      obtain ⟨r, h1, h2, h3⟩ := p_l4 vl hl hK hu hO hs hD
      refine ⟨r, ⟨h2, fun h => (h3.1 h).2⟩, ?_, ?_⟩
      · show 2 * cnt m n r.1 + r.2.toNat < 2 * cnt m n ds + true.toNat
        cases h : r.2 with
        | true => have := h3.2 h; simp; omega
        | false => rw [(h3.1 h).1]; simp
      · simp only [if_true, h1, Option.bind_some, tu2]
  · show 2 * cnt m n cs + true.toNat < K
    have := cnt_le (m := m) (n := n) cs
    simp; omega
theorem parts_ok (vl : Valid n l) (hl : l.length ≤ 1048576) (hn : n ≤ 24) (hK : l.length < K) (hKn : 2 * n + 1 < K) (hu : ∀ i < l.length, u (i : Int) = some (U i)) :
    ∃ xs m, g_graph_Parts K n (l.map two) u = some xs ∧ Outer l U n xs m n := by
  have hR : g_slices_Repeat_int K [(-1)] (n : Int) = some (List.replicate n (-1)) := by
    show (if 0 ≤ (n : Int) ∧ (n : Int) ≤ 24 then some (List.replicate (n : Int).toNat (-1 : Int)) else none) = _
    rw [if_pos (by omega), Int.toNat_natCast]
  have key : ∃ r, g_graph_Parts_l0 K n (l.map two) u K (List.replicate n (-1)) 0 0 = some r ∧ ∃ m, Outer l U n r m n := by
    refine loop_inv (S := List Int × Int) n (fun k s i => g_graph_Parts_l0 K n (l.map two) u k s.1 s.2 i) (fun s i => ∃ m : Nat, s.2 = m ∧ Outer l U n s.1 m i) _ ?_ ?_ K (List.replicate n (-1), 0) (by omega) ⟨0, rfl, outer_init l U n⟩
    · rintro k ⟨cs, _⟩ i hi ⟨m, rfl, hO⟩
      replace hO : Outer l U n cs m i := hO
      right
      have hic : i < cs.length := by rw [hO.len]; exact hi
      have hm := outer_m hO (by omega)
      show ∃ s', _ ∧ g_graph_Parts_l0 K n (l.map two) u (k + 1) cs m i = _
      rw [g_graph_Parts_l0, lt_nat hi]
      simp only [if_true, idx_getD hic, Option.bind_some, kw1 hi (by omega)]
      by_cases h0 : cs.getD i 0 ≥ 0
      · refine ⟨(cs, m), ⟨m, rfl, outer_skip hO hi h0⟩, ?_⟩
        rw [decide_eq_true h0]
        simp [tu2]
      · obtain ⟨r, h1, h2, h3⟩ := p_l2 vl hl hK hKn hu hO hi (mid_start hO hi (by omega))
        refine ⟨(r, (m : Int) + 1), ⟨m + 1, by simp, outer_next hO hi h2 h3⟩, ?_⟩
        rw [decide_eq_false h0]
        simp only [Bool.false_eq_true, if_false, Int.toNat_natCast, h1, Option.bind_some, tu1, tu2, kw (a := (m : Int) + 1) (by omega) (by omega)]
    · rintro k ⟨cs, _⟩ i rfl ⟨m, rfl, hO⟩
      refine ⟨cs, ?_, m, hO⟩
      show g_graph_Parts_l0 K i (l.map two) u (k + 1) cs m i = _
      rw [g_graph_Parts_l0, nlt_nat (Nat.le_refl _)]; simp
  obtain ⟨r, h1, m, h2⟩ := key
  refine ⟨r, m, ?_, h2⟩
  unfold g_graph_Parts
  rw [hR]
  simp only [Option.bind_some, h1, tu1]
theorem n_l2 (hn : n ≤ 24) (hK : 24 < K) {M : Nat → Nat → Bool} {cs : List Int} {i : Nat} (hi : i < n) (hl : cs.length = i) (hr : ∀ a < i, 0 ≤ cs.getD a 0) :
    ∃ r, g_R_Numbers_l2 K (matM n M) cs i K (-1) 0 = some r ∧ AtOk M cs i i r := by
  refine loop_inv (S := Int) i (fun k s j => g_R_Numbers_l2 K (matM n M) cs i k s j) (fun a k => AtOk M cs i k a) _ ?_ ?_ K (-1) (by omega) (at_0 M cs i)
  · rintro k a j hj hA
    right
    have stp : g_R_Numbers_l2 K (matM n M) cs i (k + 1) a j = g_R_Numbers_l2 K (matM n M) cs i k (if M i j = true ∧ a < 0 then cs.getD j 0 else a) ((j + 1 : Nat) : Int) := by
      rw [g_R_Numbers_l2, lt_nat hj]
      simp only [if_true, idx_mat hi, idx_row (show j < n by omega), Option.bind_some, idx_getD (show j < cs.length by omega), kw1 hj (by omega)]
      cases hM : M i j <;> by_cases h0 : a < 0 <;> simp [h0, tu1]
    refine ⟨_, ?_, stp⟩
    by_cases hc : M i j = true ∧ a < 0
    · rw [if_pos hc]; exact at_yes hA hj hc.2 hc.1
    · rw [if_neg hc]
      cases hM : M i j with
      | false => exact at_no1 hA hM
      | true => exact at_no2 hA (by
          by_cases h0 : a < 0
          · exact absurd ⟨hM, h0⟩ hc
          · omega)
  · rintro k a j rfl hA
    refine ⟨a, ?_, hA⟩
    show g_R_Numbers_l2 K (matM n M) cs j (k + 1) a j = _
    rw [g_R_Numbers_l2, nlt_nat (Nat.le_refl _)]; simp
theorem numbers_ok (hn : n ≤ 24) (hK : 24 < K) {M : Nat → Nat → Bool} (hM : EqvOn M n) : ∃ cs m, g_R_Numbers K (matM n M) = some cs ∧ NumOk M cs m n := by
  have hl : (matM n M).length = n := by simp [matM]
  have key : ∃ r, g_R_Numbers_l0 K (matM n M) K [] 0 0 = some r ∧ ∃ m, NumOk M r m n := by
    refine loop_inv (S := List Int × Int) n (fun k s i => g_R_Numbers_l0 K (matM n M) k s.1 s.2 i) (fun s i => ∃ m : Nat, s.2 = m ∧ NumOk M s.1 m i) _ ?_ ?_ K ([], 0) (by omega) ⟨0, rfl, num_0 M⟩
    · rintro k ⟨cs, _⟩ i hi ⟨m, rfl, hN⟩
      replace hN : NumOk M cs m i := hN
      right
      obtain ⟨a, h1, hA⟩ := n_l2 (K := K) hn hK hi hN.len (fun a ha => (hN.rng a ha).1)
      have hm := hN.few
      have hlen := hN.len
      have e0 : decide ((i : Int) < (((matM n M).length : Nat) : Int)) = true := by rw [hl]; exact lt_nat hi
      show ∃ s', _ ∧ g_R_Numbers_l0 K (matM n M) (k + 1) cs m i = _
      rw [g_R_Numbers_l0, e0, if_pos rfl, h1]
      simp only [if_true, Option.bind_some, tu1, kw1 hi (by omega), kw (a := (m : Int) + 1) (by omega) (by omega), List.length_cons, List.length_nil]
      have h9 : cs.length + (0 + 1) ≤ 16777216 := by omega
      by_cases h0 : a < 0
      · refine ⟨(cs ++ [(m : Int)], (m : Int) + 1), ⟨m + 1, by simp, num_new hM hN hi hA rfl h0⟩, ?_⟩
        rw [decide_eq_true h0]
        simp only [if_true, Option.bind_some, tu2, if_pos h9]
      · refine ⟨(cs ++ [a], (m : Int)), ⟨m, rfl, num_old hM hN hi hA rfl (by omega)⟩, ?_⟩
        rw [decide_eq_false h0]
        simp only [Bool.false_eq_true, if_false, Option.bind_some, tu2, if_pos h9]
    · rintro k ⟨cs, _⟩ i rfl ⟨m, rfl, hN⟩
      refine ⟨cs, ?_, m, hN⟩
      have e0 : decide ((i : Int) < (((matM i M).length : Nat) : Int)) = false := by rw [hl]; exact nlt_nat (Nat.le_refl _)
      show g_R_Numbers_l0 K (matM i M) (k + 1) cs m i = _
      rw [g_R_Numbers_l0, e0]; simp
  obtain ⟨r, h1, m, h2⟩ := key
  refine ⟨r, m, ?_, h2⟩
  unfold g_R_Numbers
  rw [h1]
  simp only [Option.bind_some, tu1]
/-- Both ways of numbering say the same. -/
theorem parts_numbers (vl : Valid n l) (hl : l.length ≤ 1048576) (hn : n ≤ 24) (hK : l.length < K) (hKn : 2 * n + 24 < K) {u' : Int → Option Bool} (hu : ∀ i < l.length, u (i : Int) = some (U i)) (hu' : ∀ i < l.length, u' (i : Int) = some (U i)) :
    ∃ xs m M, g_graph_Parts K n (l.map two) u = some xs ∧ g_R_Joined K n (l.map two) u' = some M ∧ g_R_Numbers K M = some xs ∧ Outer l U n xs m n := by
  obtain ⟨xs, m, h1, h2⟩ := parts_ok vl hl hn hK (show 2 * n + 1 < K by omega) hu
  obtain ⟨M, h3, h4⟩ := joined_ok (K := K) vl hl hn (by omega) hK hu'
  obtain ⟨cs, m', h5, h6⟩ := numbers_ok (K := K) hn (by omega) (eqv_of h4)
  have := same_numbers h4 h2 h6
  subst this
  exact ⟨xs, m, _, h1, h3, h5, h2⟩
end Go.Am.Try
