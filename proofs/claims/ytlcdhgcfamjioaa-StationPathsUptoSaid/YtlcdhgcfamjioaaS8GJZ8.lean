/- Plain law: Joined is the matrix of what is connected. -/
import Derived.Test.YtlcdhgcfamjioaaP6x3Z8
import Derived.Test.YtlcdhgcfamjioaaBxQZ8
namespace Go.Am.Try
open Go Go.Am Go.Proofs
set_option linter.unusedSimpArgs false
set_option linter.unusedVariables false
variable {K n : Nat} {l : List (Int × Int)} {U : Nat → Bool} {u : Int → Option Bool}
def rowM (n : Nat) (f : Nat → Bool) : List Bool := (List.range n).map f
def matM (n : Nat) (M : Nat → Nat → Bool) : List (List Bool) := (List.range n).map fun a => rowM n (M a)
theorem idx_range {α : Type} {f : Nat → α} {a : Nat} (h : a < n) : idx ((List.range n).map f) (a : Int) = some (f a) := by
  apply idx_nat
  simp [h]
theorem idx_mat {M : Nat → Nat → Bool} {a : Nat} (h : a < n) : idx (matM n M) (a : Int) = some (rowM n (M a)) := idx_range h
theorem idx_row {f : Nat → Bool} {a : Nat} (h : a < n) : idx (rowM n f) (a : Int) = some (f a) := idx_range h
theorem set_range {α : Type} {f : Nat → α} {j : Nat} {v : α} (h : j < n) : ((List.range n).map f).set j v = (List.range n).map fun k => if k = j then v else f k := by
  apply List.ext_getElem (by simp)
  intro i h1 h2
  simp at h1
  rw [List.getElem_set]
  by_cases e : j = i
  · simp [e]
  · have e2 : ¬ i = j := fun h => e h.symm
    simp [e, e2]
theorem mat_set {M : Nat → Nat → Bool} {a b : Nat} {v : Bool} (ha : a < n) (hb : b < n) : (matM n M).set a ((rowM n (M a)).set b v) = matM n (setM M a b v) := by
  unfold matM rowM
  rw [set_range ha, set_range hb]
  apply List.map_congr_left
  intro k _
  by_cases e : k = a
  · subst e
    simp only [if_true]
    apply List.map_congr_left
    intro j _
    by_cases e2 : j = b <;> simp [setM, e2]
  · simp [e, setM]
def preM (n i : Nat) : List (List Bool) := (List.range n).map fun a => if a < i then rowM n (idM a) else []
theorem j_l0 (hn : n ≤ 24) (hK : 24 < K) : g_R_Joined_l0 K n K (List.replicate n ([] : List Bool)) 0 = some (matM n idM) := by
  suffices h : ∃ r, g_R_Joined_l0 K n K (List.replicate n ([] : List Bool)) 0 = some r ∧ r = matM n idM by
    obtain ⟨r, h1, rfl⟩ := h
    exact h1
  refine loop_inv (S := List (List Bool)) n (fun k s i => g_R_Joined_l0 K n k s i) (fun s i => s = preM n i) (fun r => r = matM n idM) ?_ ?_ K (List.replicate n []) (by omega) (by simp [preM, List.map_const'])
  · rintro k _ i hi rfl
    right
    refine ⟨preM n (i + 1), rfl, ?_⟩
    have h0 : decide ((i : Int) < (((List.replicate ((n : Int)).toNat ([] : List Bool)).length : Nat) : Int)) = true := by rw [List.length_replicate, Int.toNat_natCast]; exact lt_nat hi
    have h1 : idx (preM n i) (i : Int) = some [] := by unfold preM; rw [idx_range hi]; simp
    have hr : List.replicate n false = rowM n (fun _ => false) := by simp [rowM, List.map_const']
    have h2 : idx ((preM n i).set i (rowM n fun _ => false)) (i : Int) = some (rowM n fun _ => false) := by unfold preM; rw [set_range hi, idx_range hi]; simp
    show g_R_Joined_l0 K n (k + 1) (preM n i) i = _
    rw [g_R_Joined_l0, h0]
    simp only [lt, if_true, hr, Int.toNat_natCast, h1, h2, Option.bind_some, idx_row hi, kw1 hi (by omega)]
    rw [if_pos (by omega)]
    congr 1
    unfold preM
    rw [set_range hi, set_range hi]
    apply List.map_congr_left
    intro a _
    by_cases e : a = i
    · subst e
      simp only [if_true, Nat.lt_succ_self]
      rw [rowM, set_range hi, rowM]
      apply List.map_congr_left
      intro b _
      by_cases e2 : b = a
      · simp [idM, e2]
      · have : ¬ a = b := fun h => e2 h.symm
        simp [idM, e2, this]
    · by_cases e2 : a < i
      · simp [e, e2, show a < i + 1 by omega]
      · simp [e, e2, show ¬ a < i + 1 by omega]
  · rintro k _ i rfl rfl
    refine ⟨_, ?_, rfl⟩
    have h0 : decide ((i : Int) < (((List.replicate ((i : Int)).toNat ([] : List Bool)).length : Nat) : Int)) = false := by rw [List.length_replicate, Int.toNat_natCast]; exact nlt_nat (Nat.le_refl _)
    show g_R_Joined_l0 K i (k + 1) (preM i i) i = _
    rw [g_R_Joined_l0, h0]
    simp only [lt, Bool.false_eq_true, if_false]
    congr 1
    unfold preM matM
    apply List.map_congr_left
    intro a ha
    rw [if_pos (List.mem_range.1 ha)]
theorem jlines_at (vl : Valid n l) {i : Nat} (hi : i < l.length) : ∃ A B : Nat, l.getD i (0, 0) = ((A : Int), (B : Int)) ∧ A < n ∧ B < n := by
  obtain ⟨h1, h2, h3, h4⟩ := vl i hi
  refine ⟨_, _, ?_, h2, h4⟩
  rw [Int.toNat_of_nonneg h1, Int.toNat_of_nonneg h3]
theorem j_l2 (vl : Valid n l) (hl : l.length ≤ 1048576) (hK : l.length < K) (hu : ∀ i < l.length, u (i : Int) = some (U i)) :
    ∃ r, g_R_Joined_l2 K (l.map two) u K (matM n idM) 0 = some r ∧ ∃ M, r = matM n M ∧ JOk l U n M l.length := by
  refine loop_inv (S := List (List Bool)) l.length (fun k s i => g_R_Joined_l2 K (l.map two) u k s i) (fun s i => ∃ M, s = matM n M ∧ JOk l U n M i) _ ?_ ?_ K _ hK ⟨idM, rfl, j_0 l U n⟩
  · rintro k _ i hi ⟨M, rfl, hM⟩
    right
    have e0 : decide ((i : Int) < (((l.map two).length : Nat) : Int)) = true := by rw [List.length_map]; exact lt_nat hi
    obtain ⟨A, B, hAB, hA, hB⟩ := jlines_at vl hi
    cases hU : U i with
    | false =>
      refine ⟨matM n M, ⟨M, rfl, j_no hM hU⟩, ?_⟩
      show g_R_Joined_l2 K (l.map two) u (k + 1) (matM n M) i = _
      rw [g_R_Joined_l2, e0]
      simp [idx_lines hi, hu i hi, hU, tu1, kw1 hi (by omega)]
    | true =>
      have h2 := j_yes vl hM hi hU
      rw [hAB] at h2
      simp only [Int.toNat_natCast] at h2
      refine ⟨_, ⟨_, rfl, h2⟩, ?_⟩
      show g_R_Joined_l2 K (l.map two) u (k + 1) (matM n M) i = _
      rw [g_R_Joined_l2, e0]
      simp only [if_true, idx_lines hi, Option.bind_some, hu i hi, hU, hAB, two, idx_two0, idx_two1, idx_mat hA, idx_mat hB, idx_row hA, idx_row hB, Int.toNat_natCast, mat_set hA hB, mat_set hB hA, tu1, kw1 hi (by omega)]
  · rintro k _ i rfl ⟨M, rfl, hM⟩
    refine ⟨_, ?_, M, rfl, hM⟩
    have e0 : decide (((l.length : Nat) : Int) < (((l.map two).length : Nat) : Int)) = false := by rw [List.length_map]; exact nlt_nat (Nat.le_refl _)
    show g_R_Joined_l2 K (l.map two) u (k + 1) (matM n M) l.length = _
    rw [g_R_Joined_l2, e0]; simp
theorem j_l8 (hn : n ≤ 24) (hK : 24 < K) {M : Nat → Nat → Bool} {m i : Nat} (hm : m < n) (hi : i < n) {B : Nat → Nat → Bool} (hB : ∀ a b, a < n → b < n → B a b = phM M m i 0 a b) :
    ∃ r, g_R_Joined_l8 K n m i K (matM n B) 0 = some r ∧ ∃ B', r = matM n B' ∧ ∀ a b, a < n → b < n → B' a b = phM M m (i + 1) 0 a b := by
  refine loop_inv (S := List (List Bool)) n (fun k s j => g_R_Joined_l8 K n m i k s j) (fun s k => ∃ B, s = matM n B ∧ ∀ a b, a < n → b < n → B a b = phM M m i k a b) _ ?_ ?_ K _ (by omega) ⟨B, rfl, hB⟩
  · rintro k _ j hj ⟨B, rfl, hB⟩
    right
    refine ⟨_, ⟨_, rfl, ph_step hB hi hj hm rfl⟩, ?_⟩
    show g_R_Joined_l8 K n m i (k + 1) (matM n B) j = _
    rw [g_R_Joined_l8, lt_nat hj]
    simp only [if_true, idx_mat hi, idx_mat hm, idx_row hj, idx_row hm, Option.bind_some, Int.toNat_natCast, mat_set hi hj, kw1 hj (by omega)]
    cases h1 : B i j with
    | true => simp [tu1]
    | false => cases h2 : B i m <;> simp [tu1]
  · rintro k _ j rfl ⟨B, rfl, hB⟩
    refine ⟨_, ?_, B, rfl, ph_row hB (Nat.le_refl _)⟩
    show g_R_Joined_l8 K j m i (k + 1) (matM j B) j = _
    rw [g_R_Joined_l8, nlt_nat (Nat.le_refl _)]; simp
theorem j_l6 (hn : n ≤ 24) (hK : 24 < K) {M : Nat → Nat → Bool} {m : Nat} (hm : m < n) (hM : WOk l U n M m) :
    ∃ r, g_R_Joined_l6 K n m K (matM n M) 0 = some r ∧ ∃ B, r = matM n B ∧ WOk l U n B (m + 1) := by
  refine loop_inv (S := List (List Bool)) n (fun k s j => g_R_Joined_l6 K n m k s j) (fun s i => ∃ B, s = matM n B ∧ ∀ a b, a < n → b < n → B a b = phM M m i 0 a b) _ ?_ ?_ K _ (by omega) ⟨M, rfl, ph_00 M m⟩
  · rintro k _ i hi ⟨B, rfl, hB⟩
    right
    obtain ⟨r, h1, B', rfl, h2⟩ := j_l8 hn hK hm hi hB
    refine ⟨_, ⟨B', rfl, h2⟩, ?_⟩
    show g_R_Joined_l6 K n m (k + 1) (matM n B) i = _
    rw [g_R_Joined_l6, lt_nat hi]
    simp only [if_true, h1, Option.bind_some, tu1, kw1 hi (by omega)]
  · rintro k _ i rfl ⟨B, rfl, hB⟩
    refine ⟨_, ?_, B, rfl, w_next hM hm hB (Nat.le_refl _)⟩
    show g_R_Joined_l6 K i m (k + 1) (matM i B) i = _
    rw [g_R_Joined_l6, nlt_nat (Nat.le_refl _)]; simp
theorem j_l4 (hn : n ≤ 24) (hK : 24 < K) {M : Nat → Nat → Bool} (hM : WOk l U n M 0) :
    ∃ r, g_R_Joined_l4 K n K (matM n M) 0 = some r ∧ ∃ B, r = matM n B ∧ WOk l U n B n := by
  refine loop_inv (S := List (List Bool)) n (fun k s j => g_R_Joined_l4 K n k s j) (fun s m => ∃ B, s = matM n B ∧ WOk l U n B m) _ ?_ ?_ K _ (by omega) ⟨M, rfl, hM⟩
  · rintro k _ m hm ⟨B, rfl, hB⟩
    right
    obtain ⟨r, h1, B', rfl, h2⟩ := j_l6 hn hK hm hB
    refine ⟨_, ⟨B', rfl, h2⟩, ?_⟩
    show g_R_Joined_l4 K n (k + 1) (matM n B) m = _
    rw [g_R_Joined_l4, lt_nat hm]
    simp only [if_true, h1, Option.bind_some, tu1, kw1 hm (by omega)]
  · rintro k _ m rfl ⟨B, rfl, hB⟩
    refine ⟨_, ?_, B, rfl, hB⟩
    show g_R_Joined_l4 K m (k + 1) (matM m B) m = _
    rw [g_R_Joined_l4, nlt_nat (Nat.le_refl _)]; simp
theorem joined_ok (vl : Valid n l) (hl : l.length ≤ 1048576) (hn : n ≤ 24) (hK : 24 < K) (hKl : l.length < K) (hu : ∀ i < l.length, u (i : Int) = some (U i)) :
    ∃ M, g_R_Joined K n (l.map two) u = some (matM n M) ∧ ∀ a b, a < n → b < n → (M a b = true ↔ Con l U a b) := by
  obtain ⟨r, h1, M, rfl, h2⟩ := j_l2 (K := K) vl hl hKl hu
  obtain ⟨r, h3, B, rfl, h4⟩ := j_l4 hn hK (w_0 h2 rfl)
  refine ⟨B, ?_, fun a b ha hb => w_end vl h4 (Nat.le_refl _) ha hb⟩
  unfold g_R_Joined
  rw [if_pos (by omega), Int.toNat_natCast, j_l0 hn hK]
  simp only [Option.bind_some, tu1, h1, h3]
end Go.Am.Try
