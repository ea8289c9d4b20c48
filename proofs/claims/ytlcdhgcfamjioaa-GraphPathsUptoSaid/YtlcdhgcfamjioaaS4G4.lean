/- Plain law: GraphPaths answers true. -/
import Derived.Test.YtlcdhgcfamjioaaS4GS
namespace Go.Am.Try
open Go Go.Am Go.Proofs
set_option linter.unusedSimpArgs false
set_option linter.unusedVariables false
variable {K : Nat} {n fr to : Int} {l : List (Int × Int)}
theorem ok_if (a b n : Int) : (if (decide (a < 0)) = true then some true else (if (decide (a ≥ n)) = true then some true else (if (decide (b < 0)) = true then some true else some (decide (b ≥ n))))) = some (!ok13 n (a, b)) := by
  unfold ok13
  by_cases h1 : a < 0 <;> by_cases h2 : a ≥ n <;> by_cases h3 : b < 0 <;> by_cases h4 : b ≥ n <;> simp [h1, h2, h3, h4] <;> omega
theorem big_if (n : Int) (k : Nat) : (if (decide (n < 0)) = true then some true else (if (decide (n > 24)) = true then some true else some (decide ((k : Int) > 64)))) = some (decide (n < 0 ∨ n > 24 ∨ k > 64)) := by
  by_cases h1 : n < 0 <;> by_cases h2 : n > 24 <;> by_cases h3 : k > 64 <;> simp [h1, h2, h3] <;> omega
theorem gcheck_ok (hK : 64 < K) : g_graph_Check K n (l.map two) = some (checkS n l) := by
  unfold g_graph_Check checkS
  rw [List.length_map, big_if]
  simp only [Option.bind_some, tu1]
  by_cases hb : n < 0 ∨ n > 24 ∨ l.length > 64
  · simp [hb]
  · have h : g_graph_Check_l0 K n (l.map two) K 0 = _ := loop_sum0 l (fun k (_ : Unit) i => g_graph_Check_l0 K n (l.map two) k i) (fun x (_ : Unit) => if ok13 n x then .inr () else .inl (4 : Int)) (fun _ _ => True)
      (fun k s i x hx _ => by
        have hi := (List.getElem?_eq_some_iff.1 hx).1
        have e0 : decide ((i : Int) < (((l.map two).length : Nat) : Int)) = true := by rw [List.length_map]; exact lt_nat hi
        have e1 : idx (l.map two) (i : Int) = some (two x) := idx_nat (by simp [hx])
        show g_graph_Check_l0 K n (l.map two) (k + 1) i = _
        rw [g_graph_Check_l0, e0]
        simp only [if_true, e1, two, idx_two0, idx_two1, Option.bind_some, kw1 hi (by omega), ok_if, tu1]
        cases ok13 n x <;> simp)
      (fun _ _ _ _ _ _ _ => trivial)
      (fun k s i hi => by
        have e0 : decide ((i : Int) < (((l.map two).length : Nat) : Int)) = false := by rw [List.length_map]; exact nlt_nat hi
        show g_graph_Check_l0 K n (l.map two) (k + 1) i = _
        rw [g_graph_Check_l0, e0]; simp) K () (by omega) trivial
    rw [h, runS_ok]
    rw [if_neg hb]
    simp only [decide_eq_false hb, Bool.false_eq_true, if_false]
    cases l.all (ok13 n) <;> simp [bindS, tu0, tu1]
theorem two_err (hK : 3 ≤ K) (a b : Int) : g_R_GraphError_l2 K n [a, b] K 0 = some (if ok13 n (a, b) then .inr () else .inl 4) := by
  have st : ∀ k (j x : Int), decide (j < 2) = true → idx [a, b] j = some x → g_R_GraphError_l2 K n [a, b] (k + 1) j = if decide (x < 0) || decide (x ≥ n) then some (.inl 4) else g_R_GraphError_l2 K n [a, b] k (kwrap .i64 (j + 1)) := fun k j x hj hx => by
    rw [g_R_GraphError_l2, hj]
    simp only [if_true, hx, Option.bind_some]
    by_cases h1 : x < 0 <;> by_cases h2 : x ≥ n <;> simp [h1, h2, tu1]
  obtain ⟨k, hk⟩ : ∃ k, K = k + 3 := ⟨K - 3, by omega⟩
  rw [show g_R_GraphError_l2 K n [a, b] K 0 = g_R_GraphError_l2 K n [a, b] (k + 2 + 1) 0 from by rw [← hk]]
  rw [st (k + 2) 0 a (by decide) rfl, w01, st (k + 1) 1 b (by decide) rfl, w12, g_R_GraphError_l2]
  unfold ok13
  by_cases h1 : a < 0 <;> by_cases h2 : a ≥ n <;> by_cases h3 : b < 0 <;> by_cases h4 : b ≥ n <;> simp [h1, h2, h3, h4] <;> omega
theorem gerr_ok (hK : 64 < K) : g_R_GraphError K n (l.map two) = some (checkS n l) := by
  unfold g_R_GraphError checkS
  rw [List.length_map, big_if]
  simp only [Option.bind_some, tu1]
  by_cases hb : n < 0 ∨ n > 24 ∨ l.length > 64
  · simp [hb]
  · have h : g_R_GraphError_l0 K (l.map two) n K 0 = _ := loop_sum0 l (fun k (_ : Unit) i => g_R_GraphError_l0 K (l.map two) n k i) (fun x (_ : Unit) => if ok13 n x then .inr () else .inl (4 : Int)) (fun _ _ => True)
      (fun k s i x hx _ => by
        have hi := (List.getElem?_eq_some_iff.1 hx).1
        have e0 : decide ((i : Int) < (((l.map two).length : Nat) : Int)) = true := by rw [List.length_map]; exact lt_nat hi
        have e1 : idx (l.map two) (i : Int) = some (two x) := idx_nat (by simp [hx])
        show g_R_GraphError_l0 K (l.map two) n (k + 1) i = _
        rw [g_R_GraphError_l0, e0]
        simp only [if_true, e1, two, two_err (show 3 ≤ K by omega), Option.bind_some, kw1 hi (by omega)]
        cases ok13 n x <;> simp [bindS, tu0, tu1])
      (fun _ _ _ _ _ _ _ => trivial)
      (fun k s i hi => by
        have e0 : decide ((i : Int) < (((l.map two).length : Nat) : Int)) = false := by rw [List.length_map]; exact nlt_nat hi
        show g_R_GraphError_l0 K (l.map two) n (k + 1) i = _
        rw [g_R_GraphError_l0, e0]; simp) K () (by omega) trivial
    rw [h, runS_ok]
    rw [if_neg hb]
    simp only [decide_eq_false hb, Bool.false_eq_true, if_false]
    cases l.all (ok13 n) <;> simp [bindS, tu0, tu1]
theorem equal_self (xs : List Int) (hl : xs.length ≤ 1048576) (hK : xs.length < K) : g_slices_Equal_int_int K xs xs = some true := by
  unfold g_slices_Equal_int_int
  have : ∃ r, g_slices_Equal_int_int_l0 K xs xs K 0 = some r ∧ r = .inr () := by
    refine loop_inv (S := Unit) xs.length (fun k _ i => g_slices_Equal_int_int_l0 K xs xs k i) (fun _ _ => True) _ ?_ ?_ K () hK trivial
    · rintro k _ i hi _
      right
      refine ⟨(), trivial, ?_⟩
      show g_slices_Equal_int_int_l0 K xs xs (k + 1) i = _
      rw [g_slices_Equal_int_int_l0, lt_nat hi]
      simp only [if_true, idx_getD hi, Option.bind_some, kw1 hi (by omega), bne_self_eq_false, Bool.false_eq_true, if_false]
    · rintro k _ i rfl _
      refine ⟨_, ?_, rfl⟩
      show g_slices_Equal_int_int_l0 K xs xs (k + 1) xs.length = _
      rw [g_slices_Equal_int_int_l0, nlt_nat (Nat.le_refl _)]; simp
  obtain ⟨r, h1, rfl⟩ := this
  rw [h1]
  simp [bindS, tu0]
theorem way_len {N a b : Nat} {U : Nat → Bool} (vl : Valid N l) (hl : l.length ≤ 1048576) (ha : a < N) (hb : b < N) : ∀ k v es, v < N → wayS l U b k v = some es → es.length = k := by
  intro k
  induction k with
  | zero =>
    intro v es _ h
    unfold wayS at h
    split at h
    · cases h; rfl
    · cases h
  | succ k ih =>
    intro v es hv h
    unfold wayS at h
    obtain ⟨e, he, h2⟩ := List.exists_of_findSome?_eq_some h
    have he := List.mem_range.1 he
    obtain ⟨A, B, hAB, hA, hB⟩ := lines_at vl he
    rw [hAB] at h2
    split at h2
    · rename_i hc
      simp only [Bool.and_eq_true, Bool.or_eq_true, beq_iff_eq] at hc
      simp only at h2
      cases hq : wayS l U b k ((A : Int) + (B : Int) - v).toNat with
      | none => rw [hq] at h2; cases h2
      | some es' =>
        rw [hq] at h2
        cases h2
        have := ih _ es' (by omega) hq
        simp [this]
    · cases h2
theorem paths_law (hK : 100 < K) (hl : l.length ≤ 1048576) : ∃ b, g_law_graphFact K = some b ∧ g_law_GraphPaths K n (l.map two) fr to = some b := by
  refine ⟨true, rfl, ?_⟩
  have hF : g_law_graphFact K = some true := rfl
  unfold g_law_GraphPaths g_graph_Path
  rw [hF, gcheck_ok (show 64 < K by omega), gerr_ok (show 64 < K by omega)]
  simp only [Option.bind_some, Bool.not_true, Bool.false_eq_true, if_false, ok_if, tu1]
  by_cases hc : checkS n l = 0
  · have vl := valid_int hc
    obtain ⟨h0, h1, h2, h3⟩ := checkS_inv hc
    obtain ⟨N, rfl⟩ := Int.eq_ofNat_of_zero_le h0
    rw [Int.toNat_natCast] at vl
    simp only [hc, bne_self_eq_false, Bool.false_eq_true, if_false, beq_self_eq_true, if_true]
    by_cases hr : ok13 N (fr, to) = true
    · have hr' := hr
      simp only [ok13, decide_eq_true_eq] at hr'
      obtain ⟨f, rfl⟩ := Int.eq_ofNat_of_zero_le hr'.1
      obtain ⟨t, rfl⟩ := Int.eq_ofNat_of_zero_le hr'.2.2.1
      have hu : ∀ i < l.length, (fun x => g_graph_all K x) (i : Int) = some ((fun _ => true) i) := fun i _ => rfl
      have hu' : ∀ i < l.length, (fun x => g_law_yes K x) (i : Int) = some ((fun _ => true) i) := fun i _ => rfl
      obtain ⟨r, h4, h5⟩ := way_ok (K := K) (fr := f) (to := t) vl hl (by omega) (by omega) hu (by omega) (by omega)
      have h6 := shortest_ok (K := K) vl hl (by omega) (by omega) hu' (by omega) (by omega) h5
      simp only [hr, Bool.not_true, Bool.false_eq_true, if_false, Option.bind_some, h4, h6, bne_self_eq_false]
      have hbig : (if (decide ((N : Int) > 7)) = true then some true else some (decide (((l.map two).length : Int) > 9))) = some (decide ((N : Int) > 7) || decide (((l.map two).length : Int) > 9)) := by
        cases decide ((N : Int) > 7) <;> simp
      rw [hbig]
      simp only [Option.bind_some]
      cases (decide ((N : Int) > 7) || decide (((l.map two).length : Int) > 9)) with
      | true => rcases h5 with ⟨rfl, _⟩ | ⟨k, es, rfl, hk, hw, _⟩ <;> simp
      | false =>
        rcases h5 with ⟨rfl, _⟩ | ⟨k, es, rfl, hk, hw, _⟩
        · simp
        · have hle := way_len vl hl (show f < N by omega) (show t < N by omega) k f es (by omega) hw
          simp [equal_self (K := K) (es.map Int.ofNat) (by simp; omega) (by simp; omega)]
    · have hr' : ok13 N (fr, to) = false := by simpa using hr
      simp [hr']
  · have hcb : (checkS n l != 0) = true := by simpa using hc
    have hcb' : (checkS n l == 0) = false := by simpa using hc
    simp only [hcb, hcb', if_true, Bool.false_eq_true, if_false, Option.bind_some]
    simp [hcb]
theorem graphPaths_true {n fr to : Int} {ls : List (List Int)} (hn : krange .i64 n = true) (h : ls.length ≤ 1048576 ∧ ∀ y ∈ ls, (y.length = 2 ∧ ∀ z ∈ y, krange .i64 z = true)) (hf : krange .i64 fr = true) (ht : krange .i64 to = true) : ∃ K, g_law_GraphPaths K n ls fr to = some true := by
  obtain ⟨l, rfl⟩ := two_of fun y hy => (h.2 y hy).1
  have hl := h.1
  rw [List.length_map] at hl
  obtain ⟨b, h1, h2⟩ := paths_law (K := 2097152) (n := n) (fr := fr) (to := to) (by omega) hl
  cases h1
  exact ⟨_, h2⟩
end Go.Am.Try
