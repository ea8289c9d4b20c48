/- Plain law: Way finds the first shortest way. -/
import Derived.Test.YtlcdhgcfamjioaaP6x3Z8
import Derived.Test.YtlcdhgcfamjioaaBxQZ8
namespace Go.Am.Try
open Go Go.Am Go.Proofs
set_option linter.unusedSimpArgs false
set_option linter.unusedVariables false
variable {K n fr to : Nat} {l : List (Int × Int)} {U : Nat → Bool} {u : Int → Option Bool}

def crossS (d : Nat) (a b : Nat) (st : List Int × Bool) : List Int × Bool := if st.1.getD a 0 = d ∧ st.1.getD b 0 < 0 then (st.1.set b ((d : Int) + 1), true) else st
/-- In the midst of a round: what was found at its start ('fs'), what is found now. -/
structure Mr (l : List (Int × Int)) (U : Nat → Bool) (n to : Nat) (fs : List Int) (d : Nat) (st : List Int × Bool) : Prop where
  rnd : Rnd l U n to fs st.1 d
  no : st.2 = false → st.1 = fs
  yes : st.2 = true → neg n st.1 < neg n fs
theorem cross_ok {fs : List Int} {d : Nat} {st : List Int × Bool} (hF : FarOk l U n to fs d) (hM : Mr l U n to fs d st) {a b : Nat} (ha : a < n) (hb : b < n) (e : Edg l U b a) :
    Mr l U n to fs d (crossS d a b st) ∧ (∀ v < n, 0 ≤ st.1.getD v 0 → 0 ≤ (crossS d a b st).1.getD v 0) ∧ (fs.getD a 0 = d → 0 ≤ (crossS d a b st).1.getD b 0) := by
  have hl : b < st.1.length := by rw [hM.rnd.len]; exact hb
  unfold crossS
  split
  · rename_i h
    have hfa : fs.getD a 0 = d := by
      rcases hM.rnd.old a ha with h1 | ⟨_, h1, _⟩
      · omega
      · omega
    have hfb : fs.getD b 0 = -1 ∧ st.1.getD b 0 = -1 := by
      rcases hM.rnd.old b hb with h1 | ⟨h1, h2, _⟩
      · have := hF.rng b hb; omega
      · omega
    have hw := (hF.fnd a ha d hfa).2.1
    refine ⟨⟨⟨by simp [hM.rnd.len], fun v hv => ?_⟩, fun h2 => (by cases h2), fun _ => ?_⟩, fun v hv h0 => ?_, fun _ => ?_⟩
    · show (st.1.set b _).getD v 0 = _ ∨ _
      rw [getD_set hl]
      by_cases ev : v = b
      · rw [if_pos ev, ev]; exact .inr ⟨hfb.1, rfl, a, e, hw⟩
      · rw [if_neg ev]; exact hM.rnd.old v hv
    · have h3 := neg_set (x := (d : Int) + 1) hM.rnd.len hb hfb.2 (by omega)
      show neg n (st.1.set b _) < _
      cases h4 : st.2 with
      | false => rw [hM.no h4] at h3 ⊢; exact h3
      | true => exact Nat.lt_trans h3 (hM.yes h4)
    · show 0 ≤ (st.1.set b _).getD v 0
      rw [getD_set hl]
      split
      · omega
      · exact h0
    · show 0 ≤ (st.1.set b _).getD b 0
      rw [getD_set hl, if_pos rfl]; omega
  · rename_i h
    refine ⟨hM, fun v hv h0 => h0, fun h2 => ?_⟩
    have : st.1.getD a 0 = d := by
      rcases hM.rnd.old a ha with h1 | ⟨h1, _, _⟩
      · omega
      · omega
    by_cases h3 : st.1.getD b 0 < 0
    · exact absurd ⟨this, h3⟩ h
    · omega
theorem l4_step (k : Nat) (d a b : Nat) (hd : d ≤ 1048576) (c : List Int) (c0 c1 : Int) (gs : List Int) (gr : Bool) (j : Int) (hj : decide (j < 2) = true) (A B : Nat) (row : idx [c, [c0, c1]] j = some [(A : Int), (B : Int)]) (hA : A < gs.length) (hB : B < gs.length) :
    g_graph_Way_l4 K d c c0 c1 (k + 1) gs gr j = g_graph_Way_l4 K d c c0 c1 k (crossS d A B (gs, gr)).1 (crossS d A B (gs, gr)).2 (kwrap .i64 (j + 1)) := by
  rw [g_graph_Way_l4, hj]
  simp only [if_true, row, Option.bind_some, idx_two0, idx_two1, idx_getD hA, idx_getD hB]
  simp only [crossS]
  generalize gs.getD A 0 = x
  generalize gs.getD B 0 = y
  by_cases h1 : x = d
  · by_cases h2 : y < 0
    · simp [h1, h2, tu1, tu2, kw (a := (d : Int) + 1) (by omega) (by omega)]
    · simp [h1, h2, tu1, tu2]
  · simp [h1, tu1, tu2]
theorem l4_ok (hK : 3 ≤ K) (d : Nat) (hd : d ≤ 1048576) (gs : List Int) (gr : Bool) (A B : Nat) (hA : A < gs.length) (hB : B < gs.length) :
    g_graph_Way_l4 K d [(A : Int), (B : Int)] B A K gs gr 0 = some (crossS d B A (crossS d A B (gs, gr))) := by
  obtain ⟨k, hk⟩ : ∃ k, K = k + 3 := ⟨K - 3, by omega⟩
  have hl : (crossS d A B (gs, gr)).1.length = gs.length := by unfold crossS; split <;> simp
  rw [show g_graph_Way_l4 K d [(A : Int), (B : Int)] B A K gs gr 0 = g_graph_Way_l4 K d [(A : Int), (B : Int)] B A (k + 2 + 1) gs gr 0 from by rw [← hk]]
  rw [l4_step (k + 2) d A B hd _ _ _ gs gr 0 (by decide) A B rfl hA hB, w01, l4_step (k + 1) d A B hd _ _ _ _ _ 1 (by decide) B A rfl (by omega) (by omega), w12, g_graph_Way_l4]
  simp
theorem lines_at (vl : Valid n l) {i : Nat} (hi : i < l.length) : ∃ A B : Nat, l.getD i (0, 0) = ((A : Int), (B : Int)) ∧ A < n ∧ B < n := by
  obtain ⟨h1, h2, h3, h4⟩ := vl i hi
  refine ⟨_, _, ?_, h2, h4⟩
  rw [Int.toNat_of_nonneg h1, Int.toNat_of_nonneg h3]
theorem l2_ok (vl : Valid n l) (hl : l.length ≤ 1048576) (hK : l.length < K) (hK3 : 3 ≤ K) (hu : ∀ i < l.length, u (i : Int) = some (U i)) {fs : List Int} {d : Nat} (hd : d ≤ 1048576) (hF : FarOk l U n to fs d) :
    ∃ st, g_graph_Way_l2 K (l.map two) u d K fs false 0 = some st ∧ Mr l U n to fs d st ∧ ∀ k < l.length, Did l U fs st.1 d k := by
  refine loop_inv (S := List Int × Bool) l.length (fun k s i => g_graph_Way_l2 K (l.map two) u d k s.1 s.2 i) (fun s i => Mr l U n to fs d s ∧ ∀ k < i, Did l U fs s.1 d k) (fun st => Mr l U n to fs d st ∧ ∀ k < l.length, Did l U fs st.1 d k) ?_ ?_ K (fs, false) hK ⟨⟨rnd_0 hF.len, fun _ => rfl, fun h => by cases h⟩, fun k hk => by omega⟩
  · rintro k s i hi ⟨hM, hD⟩
    right
    obtain ⟨A, B, hAB, hA, hB⟩ := lines_at vl hi
    have e0 : decide ((i : Int) < (((l.map two).length : Nat) : Int)) = true := by rw [List.length_map]; exact lt_nat hi
    cases hU : U i with
    | false =>
      refine ⟨s, ⟨hM, fun k' hk' => ?_⟩, ?_⟩
      · rcases Nat.lt_succ_iff_lt_or_eq.1 hk' with h | rfl
        · exact hD k' h
        · intro h; rw [hU] at h; cases h
      · show g_graph_Way_l2 K (l.map two) u d (k + 1) s.1 s.2 i = _
        rw [g_graph_Way_l2, e0]
        simp [idx_lines hi, hu i hi, hU, tu2, kw1 hi (by omega)]
    | true =>
      have eg : Edg l U A B := ⟨i, hi, hU, .inl hAB⟩
      obtain ⟨m1, n1, d1⟩ := cross_ok hF hM hA hB eg.symm
      obtain ⟨m2, n2, d2⟩ := cross_ok hF m1 hB hA eg
      refine ⟨_, ⟨m2, fun k' hk' => ?_⟩, ?_⟩
      · rcases Nat.lt_succ_iff_lt_or_eq.1 hk' with h | rfl
        · have hv := lines_at vl (show k' < l.length by omega)
          obtain ⟨A', B', h1, h2, h3⟩ := hv
          intro hU'
          have := hD k' h hU'
          rw [h1] at this ⊢
          simp only [Int.toNat_natCast] at this ⊢
          exact ⟨fun q => n2 _ h3 (n1 _ h3 (this.1 q)), fun q => n2 _ h2 (n1 _ h2 (this.2 q))⟩
        · intro _
          rw [hAB]
          simp only [Int.toNat_natCast]
          exact ⟨fun q => n2 _ hB (d1 q), d2⟩
      · show g_graph_Way_l2 K (l.map two) u d (k + 1) s.1 s.2 i = _
        rw [g_graph_Way_l2, e0]
        simp only [if_true, idx_lines hi, Option.bind_some, hu i hi, hU, Bool.not_true, Bool.false_eq_true, if_false, hAB, two, idx_two0, idx_two1, l4_ok hK3 d hd s.1 s.2 A B (by rw [hM.rnd.len]; exact hA) (by rw [hM.rnd.len]; exact hB), tu2, kw1 hi (by omega)]
  · rintro k s i rfl ⟨hM, hD⟩
    refine ⟨s, ?_, hM, hD⟩
    show g_graph_Way_l2 K (l.map two) u d (k + 1) s.1 s.2 l.length = _
    have e0 : decide (((l.length : Nat) : Int) < (((l.map two).length : Nat) : Int)) = false := by rw [List.length_map]; exact nlt_nat (Nat.le_refl _)
    rw [g_graph_Way_l2, e0]; simp
theorem l0_ok (vl : Valid n l) (hl : l.length ≤ 1048576) (hn : n ≤ 1048576) (hK : l.length + n + 3 < K) (hu : ∀ i < l.length, u (i : Int) = some (U i)) (hf : fr < n) (ht : to < n) :
    ∃ r, g_graph_Way_l0 K fr (l.map two) u K ((List.replicate n (-1)).set to 0) 0 = some r ∧ ((r = .inl ([], false) ∧ ∀ k, ¬ Wk l U to k fr) ∨ ∃ fs d, r = .inr fs ∧ FarOk l U n to fs d ∧ d < n ∧ 0 ≤ fs.getD fr 0) := by
  refine loop_wf (S := List Int × Int) (fun k s => g_graph_Way_l0 K fr (l.map two) u k s.1 s.2) (fun s => ∃ d : Nat, s.2 = d ∧ FarOk l U n to s.1 d ∧ d + neg n s.1 < n) (fun s => neg n s.1) _ ?_ K ((List.replicate n (-1)).set to 0, 0) (by show neg n ((List.replicate n (-1)).set to 0) < K; have := neg_le (n := n) ((List.replicate n (-1)).set to 0); omega) ⟨0, rfl, far_init l U ht, ?_⟩
  · rintro k ⟨fs, _⟩ ⟨d, rfl, hF, hd⟩
    replace hF : FarOk l U n to fs d := hF
    replace hd : d + neg n fs < n := hd
    have hfl : fr < fs.length := by rw [hF.len]; exact hf
    show (∃ r, g_graph_Way_l0 K fr (l.map two) u (k + 1) fs d = some r ∧ _) ∨ _
    rw [g_graph_Way_l0, idx_getD hfl]
    simp only [Option.bind_some]
    by_cases h0 : fs.getD fr 0 < 0
    · obtain ⟨st, h1, hM, hD⟩ := l2_ok (K := K) (d := d) vl hl (by omega) (by omega) hu (by omega) hF
      have hP := did_all (n := n) hD
      rw [h1]
      simp only [h0, decide_true, if_true, Option.bind_some, tu2]
      cases hg : st.2 with
      | false =>
        left
        have hs := hM.no hg
        refine ⟨.inl ([], false), ?_, .inl ⟨rfl, fun j hw => ?_⟩⟩
        · rw [hs, idx_getD hfl]
          simp only [Option.bind_some, decide_eq_true h0]; rfl
        · rw [hs] at hP
          have := far_stuck vl hF hP j fr hf hw
          omega
      | true =>
        right
        refine ⟨(st.1, (d : Int) + 1), ⟨d + 1, by simp, far_next vl hF hM.rnd hP (fun a b e => edg_lt vl e), ?_⟩, hM.yes hg, ?_⟩
        · have := hM.yes hg
          show d + 1 + neg n st.1 < n
          omega
        · simp only [Bool.not_true, Bool.false_eq_true, if_false, Option.bind_some, tu1, kw (a := (d : Int) + 1) (by omega) (by omega)]
    · left
      refine ⟨.inr fs, by rw [decide_eq_false h0]; rfl, .inr ⟨fs, d, rfl, hF, by omega, by omega⟩⟩
  · show 0 + neg n ((List.replicate n (-1)).set to 0) < n
    have h2 : neg n ((List.replicate n (-1)).set to 0) < neg n (List.replicate n (-1)) := neg_set (by simp) ht (by simp [List.getD_eq_getElem?_getD, ht]) (by omega)
    have h3 := neg_le (n := n) (List.replicate n (-1))
    omega
/-- A neighbour is the one that the far list says. -/
theorem far_iff {fs : List Int} {d : Nat} (vl : Valid n l) (hF : FarOk l U n to fs d) {a w k : Nat} (ha : a < n) (hw : w < n) (hk : fs.getD a 0 = ((k + 1 : Nat) : Int)) (e : Edg l U a w) : fs.getD w 0 = (k : Int) ↔ Wk l U to k w := by
  obtain ⟨h1, h2, h3⟩ := hF.fnd a ha (k + 1) hk
  constructor
  · intro h
    exact (hF.fnd w hw k h).2.1
  · intro h
    have hr := hF.rng w hw
    by_cases e1 : fs.getD w 0 = -1
    · exact absurd h (hF.nof w hw e1 k (by omega))
    · obtain ⟨j, hj⟩ := Int.eq_ofNat_of_zero_le (show 0 ≤ fs.getD w 0 by omega)
      obtain ⟨g1, g2, g3⟩ := hF.fnd w hw j hj
      rcases Nat.lt_trichotomy j k with h4 | h4 | h4
      · exact absurd (⟨w, e, g2⟩ : Wk l U to (j + 1) a) (h3 (j + 1) (by omega))
      · omega
      · exact absurd h (g3 k h4)
/-- Does the line e lead from a a step nearer? -/
def nearB (l : List (Int × Int)) (U : Nat → Bool) (fs : List Int) (a e : Nat) : Bool :=
  U e && (if (l.getD e (0, 0)).1 == (a : Int) then fs.getD ((l.getD e (0, 0)).1 + (l.getD e (0, 0)).2 - a).toNat 0 == fs.getD a 0 - 1 else
    (l.getD e (0, 0)).2 == (a : Int) && fs.getD ((l.getD e (0, 0)).1 + (l.getD e (0, 0)).2 - a).toNat 0 == fs.getD a 0 - 1)
theorem near_iff {fs : List Int} {d : Nat} (vl : Valid n l) (hF : FarOk l U n to fs d) {a k e : Nat} (ha : a < n) (he : e < l.length) (hk : fs.getD a 0 = ((k + 1 : Nat) : Int)) :
    if nearB l U fs a e then ∃ w : Nat, w < n ∧ (l.getD e (0, 0)).1 + (l.getD e (0, 0)).2 - a = (w : Int) ∧ fs.getD w 0 = k ∧ stepS l U to k a e = (wayS l U to k w).map (e :: ·) ∧ Wk l U to k w else stepS l U to k a e = none := by
  obtain ⟨A, B, hAB, hA, hB⟩ := lines_at vl he
  unfold nearB stepS
  rw [hAB]
  simp only
  have hk1 : fs.getD a 0 - 1 = (k : Int) := by omega
  rw [hk1]
  cases hU : U e with
  | false => simp
  | true =>
    simp only [Bool.true_and]
    by_cases h1 : (A : Int) = a
    · have eA : A = a := by omega
      subst eA
      have ew : ((A : Int) + (B : Int) - (A : Int)) = (B : Int) := by omega
      have eg : Edg l U A B := ⟨e, he, hU, .inl hAB⟩
      have hi := far_iff vl hF ha hB hk eg
      simp only [ew, beq_self_eq_true, if_true, Bool.true_or, Int.toNat_natCast]
      by_cases h2 : fs.getD B 0 = k
      · rw [if_pos (by rw [h2]; simp)]
        exact ⟨B, hB, rfl, h2, rfl, hi.1 h2⟩
      · rw [if_neg (by simpa [List.getD_eq_getElem?_getD] using h2)]
        have : wayS l U to k B = none := by
          cases hq : wayS l U to k B with
          | none => rfl
          | some es => exact absurd (hi.2 ((way_some vl k B hB).1 (by rw [hq]; rfl))) h2
        rw [this]; rfl
    · by_cases h3 : (B : Int) = a
      · have eB : B = a := by omega
        subst eB
        have ew : ((A : Int) + (B : Int) - (B : Int)) = (A : Int) := by omega
        have eg : Edg l U B A := ⟨e, he, hU, .inr hAB⟩
        have hi := far_iff vl hF ha hA hk eg
        have h1' : ((A : Int) == (B : Int)) = false := by simpa using h1
        simp only [ew, h1', beq_self_eq_true, Bool.false_eq_true, if_false, Bool.true_and, Bool.false_or, Int.toNat_natCast]
        by_cases h2 : fs.getD A 0 = k
        · rw [if_pos (by rw [h2]; simp)]
          exact ⟨A, hA, rfl, h2, rfl, hi.1 h2⟩
        · rw [if_neg (by simpa [List.getD_eq_getElem?_getD] using h2)]
          have : wayS l U to k A = none := by
            cases hq : wayS l U to k A with
            | none => rfl
            | some es => exact absurd (hi.2 ((way_some vl k A hA).1 (by rw [hq]; rfl))) h2
          rw [this]; rfl
      · have h1' : ((A : Int) == (a : Int)) = false := by simpa using h1
        have h3' : ((B : Int) == (a : Int)) = false := by simpa using h3
        simp [h1', h3']
theorem l8_ok (vl : Valid n l) (hl : l.length ≤ 1048576) (hn : n ≤ 1048576) (hK : l.length < K) (hu : ∀ i < l.length, u (i : Int) = some (U i)) {fs : List Int} {d : Nat} (hd : d < n) (hF : FarOk l U n to fs d) (out : List Int) (ho : out.length ≤ 1048576) {a k : Nat} (ha : a < n) (hk : fs.getD a 0 = ((k + 1 : Nat) : Int)) :
    ∃ r, g_graph_Way_l8 K (l.map two) u fs out a K 0 = some r ∧ ∃ e w : Nat, r = (out ++ [(e : Int)], (w : Int)) ∧ w < n ∧ fs.getD w 0 = k ∧ wayS l U to (k + 1) a = (wayS l U to k w).map (e :: ·) := by
  have hfa : a < fs.length := by rw [hF.len]; exact ha
  refine loop_inv (S := Unit) l.length (fun k _ i => g_graph_Way_l8 K (l.map two) u fs out a k i) (fun _ i => ∀ e < i, nearB l U fs a e = false) _ ?_ ?_ K () hK (fun e he => by omega)
  · rintro k' _ i hi hno
    obtain ⟨A, B, hAB, hA, hB⟩ := lines_at vl hi
    have hn := near_iff vl hF ha hi hk
    have e0 : decide ((i : Int) < (((l.map two).length : Nat) : Int)) = true := by rw [List.length_map]; exact lt_nat hi
    have eAB : kwrap .i64 ((A : Int) + B) = (A : Int) + B := kw (by omega) (by omega)
    have eABa : kwrap .i64 ((A : Int) + B - a) = (A : Int) + B - a := kw (by omega) (by omega)
    have efa : kwrap .i64 (fs.getD a 0 - 1) = fs.getD a 0 - 1 := by rw [hk]; exact kw (by omega) (by have := (hF.fnd a ha _ hk).1; have := ha; omega)
    have hcond : (if U i = true then (if ((A : Int) == (a : Int)) = true then ((idx fs ((A : Int) + B - a)).bind fun x371 => some (x371 == fs.getD a 0 - 1)) else (if ((B : Int) == (a : Int)) = true then ((idx fs ((A : Int) + B - a)).bind fun x387 => some (x387 == fs.getD a 0 - 1)) else some false)) else some false) = some (nearB l U fs a i) := by
      unfold nearB
      rw [hAB]
      simp only
      cases U i with
      | false => simp
      | true =>
        by_cases h1 : (A : Int) = a
        · have ew : ((A : Int) + (B : Int) - (a : Int)) = (B : Int) := by omega
          have h1' : ((A : Int) == (a : Int)) = true := by simpa using h1
          simp only [ew, h1', if_true, Bool.true_and, idx_getD (show B < fs.length by rw [hF.len]; exact hB), Option.bind_some, Int.toNat_natCast]
        · have h1' : ((A : Int) == (a : Int)) = false := by simpa using h1
          by_cases h3 : (B : Int) = a
          · have ew : ((A : Int) + (B : Int) - (a : Int)) = (A : Int) := by omega
            have h3' : ((B : Int) == (a : Int)) = true := by simpa using h3
            simp only [ew, h1', h3', Bool.false_eq_true, if_true, if_false, Bool.true_and, idx_getD (show A < fs.length by rw [hF.len]; exact hA), Option.bind_some, Int.toNat_natCast]
          · have h3' : ((B : Int) == (a : Int)) = false := by simpa using h3
            simp [h1', h3']
    have hstep : g_graph_Way_l8 K (l.map two) u fs out a (k' + 1) i = if nearB l U fs a i = true then some (out ++ [(i : Int)], (A : Int) + B - a) else g_graph_Way_l8 K (l.map two) u fs out a k' ((i + 1 : Nat) : Int) := by
      rw [g_graph_Way_l8, e0]
      simp only [if_true, idx_lines hi, Option.bind_some, hAB, two, idx_two0, idx_two1, hu i hi, eAB, eABa, idx_getD hfa, efa, kw1 hi (by omega), hcond, tu1, List.length_cons, List.length_nil]
      rw [if_pos (show out.length + (0 + 1) ≤ 16777216 by omega)]
    show (∃ r, g_graph_Way_l8 K (l.map two) u fs out a (k' + 1) i = some r ∧ _) ∨ _
    rw [hstep]
    cases hb : nearB l U fs a i with
    | true =>
      left
      rw [hb, if_pos rfl] at hn
      obtain ⟨w, hw, h1, h2, h3, h4⟩ := hn
      rw [hAB] at h1
      simp only at h1
      refine ⟨_, rfl, i, w, by rw [h1], hw, h2, ?_⟩
      cases hq : wayS l U to k w with
      | none => have := (way_some vl k w hw).2 h4; rw [hq] at this; cases this
      | some es =>
        rw [hq] at h3
        refine way_at hi (fun e he => ?_) h3
        have := near_iff vl hF ha (show e < l.length by omega) hk
        rw [hno e he] at this
        simpa using this
    | false =>
      right
      refine ⟨(), fun e he => ?_, by simp⟩
      rcases Nat.lt_succ_iff_lt_or_eq.1 he with h | rfl
      · exact hno e h
      · exact hb
  · rintro k' _ i rfl hno
    exfalso
    have h1 := (hF.fnd a ha _ hk).2.1
    have h2 := (way_some vl (k + 1) a ha).2 h1
    rw [way_no (fun e he => by have := near_iff vl hF ha he hk; rw [hno e he] at this; simpa using this)] at h2
    cases h2
theorem l6_ok (vl : Valid n l) (hl : l.length ≤ 1048576) (hn : n ≤ 1048576) (hK : l.length + n < K) (hu : ∀ i < l.length, u (i : Int) = some (U i)) {fs : List Int} {d : Nat} (hF : FarOk l U n to fs d) (hd : d < n) (hf : fr < n) (k : Nat) (hk : fs.getD fr 0 = k) :
    ∃ r, g_graph_Way_l6 K to (l.map two) u fs K [] fr = some r ∧ ∃ es : List Nat, wayS l U to k fr = some es ∧ r = es.map Int.ofNat := by
  refine loop_wf (S := List Int × Int) (fun k s => g_graph_Way_l6 K to (l.map two) u fs k s.1 s.2) (fun s => ∃ (a j : Nat) (es : List Nat), s.2 = a ∧ a < n ∧ fs.getD a 0 = j ∧ s.1 = es.map Int.ofNat ∧ es.length + j = k ∧ wayS l U to k fr = (wayS l U to j a).map (es ++ ·)) (fun s => (fs.getD s.2.toNat 0).toNat) _ ?_ K ([], (fr : Int)) ?_ ⟨fr, k, [], rfl, hf, hk, rfl, by simp, by simp⟩
  · rintro k' ⟨out, _⟩ ⟨a, j, es, rfl, ha, hj, ho, hlen, hw⟩
    replace ho : out = es.map Int.ofNat := ho
    subst ho
    have hkd := (hF.fnd fr hf k hk).1
    show (∃ r, g_graph_Way_l6 K to (l.map two) u fs (k' + 1) (es.map Int.ofNat) a = some r ∧ _) ∨ _
    rw [g_graph_Way_l6]
    by_cases e : a = to
    · left
      subst e
      have hj0 : j = 0 := by
        rcases Nat.eq_zero_or_pos j with h | h
        · exact h
        · exact absurd rfl ((hF.fnd a ha j hj).2.2 0 h)
      subst hj0
      refine ⟨es.map Int.ofNat, by simp, es, ?_, rfl⟩
      rw [hw]; simp [wayS]
    · right
      have hj0 : ∃ m, j = m + 1 := by
        cases j with
        | zero => exact absurd (hF.fnd a ha 0 hj).2.1 e
        | succ m => exact ⟨m, rfl⟩
      obtain ⟨m, rfl⟩ := hj0
      obtain ⟨r, h1, e', w, h2, h3, h4, h5⟩ := l8_ok vl hl hn (show l.length < K by omega) hu hd hF (es.map Int.ofNat) (by rw [List.length_map]; omega) ha hj
      have hne : ((a : Int) != (to : Int)) = true := by simp; omega
      subst h2
      refine ⟨(es.map Int.ofNat ++ [(e' : Int)], (w : Int)), ⟨w, m, es ++ [e'], rfl, h3, h4, by simp, by simp; omega, ?_⟩, ?_, ?_⟩
      · rw [hw, h5, Option.map_map]
        congr 1
        funext x
        simp
      · show (fs.getD ((w : Int)).toNat 0).toNat < (fs.getD ((a : Int)).toNat 0).toNat
        simp only [Int.toNat_natCast, h4, hj]; omega
      · rw [hne]
        simp only [if_true, h1, Option.bind_some, tu2]
  · show (fs.getD ((fr : Int)).toNat 0).toNat < K
    have hkd := (hF.fnd fr hf k hk).1
    simp only [Int.toNat_natCast, hk]; omega
/-- What Way says. -/
def WaySpec (l : List (Int × Int)) (U : Nat → Bool) (n fr to : Nat) (r : List Int × Bool) : Prop :=
  (r = ([], false) ∧ ∀ k, ¬ Wk l U to k fr) ∨ ∃ (k : Nat) (es : List Nat), r = (es.map Int.ofNat, true) ∧ k < n ∧ wayS l U to k fr = some es ∧ ∀ j < k, ¬ Wk l U to j fr
theorem way_ok (vl : Valid n l) (hl : l.length ≤ 1048576) (hn : n ≤ 24) (hK : l.length + n + 3 < K) (hu : ∀ i < l.length, u (i : Int) = some (U i)) (hf : fr < n) (ht : to < n) :
    ∃ r, g_graph_Way K n (l.map two) fr to u = some r ∧ WaySpec l U n fr to r := by
  have hR : g_slices_Repeat_int K [(-1)] (n : Int) = some (List.replicate n (-1)) := by
    show (if 0 ≤ (n : Int) ∧ (n : Int) ≤ 24 then some (List.replicate (n : Int).toNat (-1 : Int)) else none) = _
    rw [if_pos (by omega), Int.toNat_natCast]
  have hto : idx (List.replicate n (-1 : Int)) (to : Int) = some ((List.replicate n (-1 : Int)).getD to 0) := idx_getD (by simpa using ht)
  obtain ⟨r, h1, h2⟩ := l0_ok (fr := fr) vl hl (by omega) hK hu hf ht
  unfold g_graph_Way
  rw [hR]
  simp only [Option.bind_some, hto, Int.toNat_natCast, h1]
  rcases h2 with ⟨rfl, h3⟩ | ⟨fs, d, rfl, hF, hd, h0⟩
  · exact ⟨([], false), rfl, .inl ⟨rfl, h3⟩⟩
  · obtain ⟨k, hk⟩ := Int.eq_ofNat_of_zero_le h0
    obtain ⟨r, h3, es, h4, rfl⟩ := l6_ok (K := K) vl hl (by omega) (by omega) hu hF hd hf k hk
    obtain ⟨g1, g2, g3⟩ := hF.fnd fr hf k hk
    refine ⟨(es.map Int.ofNat, true), ?_, .inr ⟨k, es, rfl, by omega, h4, g3⟩⟩
    simp only [bindS, Option.bind_some, tu1, h3]
end Go.Am.Try
