/- Plain law: the program's and the reference's checks of a network, of a name and of a branch are the same. -/
import Derived.Test.YtlcdhgcfamjioaaP6x3Z8
import Derived.Test.YtlcdhgcfamjioaaBxPZ8
namespace Go.Am.Try
open Go Go.Am Go.Proofs
set_option linter.unusedSimpArgs false
set_option linter.unusedVariables false

/-! ### Names -/
def chP (i : Nat) (c : Int) : Bool := !(!(decide (c ≥ 65) && decide (c ≤ 90)) && ((i == 0) || decide (c < 48) || decide (c > 57)))
def nameS (s : ByteArray) : Bool := !(s.size == 0) && !decide (s.size > 8) && (bytesOf s).zipIdx.all fun p => chP p.2 p.1
theorem all_drop {α : Type} {p : α → Bool} {xs : List α} {i : Nat} {x : α} (h : xs[i]? = some x) : (xs.drop i).all p = (p x && (xs.drop (i + 1)).all p) := by
  have hl := (List.getElem?_eq_some_iff.1 h).1
  rw [List.drop_eq_getElem_cons hl, List.all_cons]
  congr 2
  rw [List.getElem?_eq_getElem hl] at h; simpa using h
theorem step_p {α : Type} (p q z u v : Bool) (A B : Option α) : Option.bind (if p = true then some q else some false) (tu1 fun x34 => Option.bind (if (!x34) = true then (if z = true then some true else (if u = true then some true else some v)) else some false) (tu1 fun x59 => if x59 = true then A else B)) = if (!(!(p && q) && (z || u || v))) = true then B else A := by
  cases p <;> cases q <;> cases z <;> cases u <;> cases v <;> rfl
theorem step_r {α : Type} (p q u v : Bool) (A B : Option α) : Option.bind (if p = true then (if u = true then some true else some v) else (if q = true then (if u = true then some true else some v) else some false)) (tu1 fun x => if x = true then A else B) = if (!(!(!p && !q) && (u || v))) = true then B else A := by
  cases p <;> cases q <;> cases u <;> cases v <;> rfl
theorem chP_1 (c : Int) : chP 1 c = !(!(!decide (c < 65) && !decide (c > 90)) && (decide (c < 48) || decide (c > 57))) := by
  unfold chP
  have h1 : decide (c ≥ 65) = !decide (c < 65) := by by_cases h : c < 65 <;> simp [h] <;> omega
  have h2 : decide (c ≤ 90) = !decide (c > 90) := by by_cases h : c > 90 <;> simp [h] <;> omega
  rw [h1, h2]; simp
/-- The program's loop over a name's bytes. -/
theorem name_loop (K : Nat) (s : ByteArray) (hs : s.size ≤ 1048576) : ∀ d k (i : Nat), (bytesOf s).length - i = d → d < k →
    g_netmodel_Name_l0 K s k (i : Int) = some (if ((bytesOf s).zipIdx.drop i).all (fun p => chP p.2 p.1) then .inr () else .inl false) := by
  have hn := bytesOf_length s
  intro d
  induction d with
  | zero =>
    intro k i hd hk
    obtain ⟨k, rfl⟩ : ∃ m, k = m + 1 := ⟨k - 1, by omega⟩
    rw [g_netmodel_Name_l0, nlt_nat (by omega), List.drop_eq_nil_of_le (by simp; omega)]
    simp
  | succ d ih =>
    intro k i hd hk
    obtain ⟨k, rfl⟩ : ∃ m, k = m + 1 := ⟨k - 1, by omega⟩
    have hl : i < (bytesOf s).length := by omega
    have hx : (bytesOf s)[i]? = some (bytesOf s)[i] := List.getElem?_eq_getElem hl
    have hz : (bytesOf s).zipIdx[i]? = some ((bytesOf s)[i], i) := by simp [hl]
    rw [g_netmodel_Name_l0, lt_nat hl, all_drop hz]
    simp only [if_true, idx_nat hx, Option.bind_some]
    generalize (bytesOf s)[i] = c
    have h1 := ih k (i + 1) (by omega) (by omega)
    rw [← kw1 hl (by omega)] at h1
    have h0 : ((i : Int) == 0) = (i == 0) := by cases i <;> simp <;> omega
    rw [step_p, h0, h1]
    show (if chP i c = true then _ else _) = _
    cases chP i c <;> simp only [Bool.true_and, Bool.false_and, if_true, Bool.false_eq_true, if_false]
theorem name_prog (K : Nat) (s : ByteArray) (hs : s.size ≤ 1048576) (hK : s.size < K) : g_netmodel_Name K s = some (nameS s) := by
  have h := name_loop K s hs (bytesOf s).length K 0 (by omega) (by rw [bytesOf_length]; exact hK)
  unfold g_netmodel_Name
  rw [show ((0 : Nat) : Int) = 0 from rfl] at h
  rw [h]
  have he : sEq s ⟨#[]⟩ = (s.size == 0) := by
    cases hq : sEq s ⟨#[]⟩ with
    | true => rw [sEq_iff] at hq; subst hq; rfl
    | false =>
      have : s.size ≠ 0 := fun h => by
        have : s = ⟨#[]⟩ := by
          cases s with
          | mk d => congr 1; exact Array.eq_empty_of_size_eq_zero h
        rw [sEq_iff.2 this] at hq; cases hq
      simp [this]
  unfold nameS
  rw [List.drop_zero]
  cases hall : (bytesOf s).zipIdx.all fun p => chP p.2 p.1 with
  | false => simp [bindS, tu1, hall]
  | true =>
    simp only [bindS, tu0, tu1, hall, he, Option.bind_some, if_true]
    by_cases h0 : s.size = 0
    · simp [h0]
    · by_cases h8 : s.size ≤ 8
      · have : (s.size : Int) ≤ 8 := by omega
        have h9 : ¬ s.size > 8 := by omega
        simp [h0, this, h9]
      · have : ¬ (s.size : Int) ≤ 8 := by omega
        have h9 : s.size > 8 := by omega
        simp [h0, this, h9]
theorem isname_loop (K : Nat) (s : ByteArray) (hs : s.size ≤ 1048576) : ∀ d k (i : Nat), (bytesOf s).length - i = d → d < k →
    g_R_IsName_l0 K s k (i : Int) = some (if ((bytesOf s).drop i).all (fun c => chP 1 c) then .inr () else .inl false) := by
  have hn := bytesOf_length s
  intro d
  induction d with
  | zero =>
    intro k i hd hk
    obtain ⟨k, rfl⟩ : ∃ m, k = m + 1 := ⟨k - 1, by omega⟩
    rw [g_R_IsName_l0, ← hn, nlt_nat (by omega), List.drop_eq_nil_of_le (by omega)]
    simp
  | succ d ih =>
    intro k i hd hk
    obtain ⟨k, rfl⟩ : ∃ m, k = m + 1 := ⟨k - 1, by omega⟩
    have hl : i < (bytesOf s).length := by omega
    have hx : (bytesOf s)[i]? = some (bytesOf s)[i] := List.getElem?_eq_getElem hl
    rw [g_R_IsName_l0, ← hn, lt_nat hl, all_drop hx]
    simp only [if_true, bidx_eq, idx_nat hx, Option.bind_some]
    generalize (bytesOf s)[i] = c
    have h1 := ih k (i + 1) (by omega) (by omega)
    rw [← kw1 hl (by omega)] at h1
    rw [step_r, h1, ← chP_1]
    cases chP 1 c <;> simp only [Bool.true_and, Bool.false_and, if_true, Bool.false_eq_true, if_false]
theorem all_zip (xs : List Int) : ∀ k, 0 < k → (xs.zipIdx k).all (fun p => chP p.2 p.1) = xs.all (fun c => chP 1 c) := by
  induction xs with
  | nil => intro k _; rfl
  | cons c xs ih =>
    intro k hk
    rw [List.zipIdx_cons, List.all_cons, List.all_cons, ih (k + 1) (by omega)]
    have : chP k c = chP 1 c := by unfold chP; have : (k == 0) = false := by simp; omega
                                   simp [this]
    rw [this]
theorem isname_ref (K : Nat) (s : ByteArray) (hs : s.size ≤ 1048576) (hK : s.size < K) : g_R_IsName K s = some (nameS s) := by
  have h := isname_loop K s hs (bytesOf s).length K 0 (by omega) (by rw [bytesOf_length]; exact hK)
  rw [show ((0 : Nat) : Int) = 0 from rfl, List.drop_zero] at h
  have hn := bytesOf_length s
  unfold g_R_IsName nameS
  rw [h]
  by_cases h0 : s.size = 0
  · simp [h0, tu1]
  · have h0' : ¬ ((s.size : Int) = 0) := by omega
    by_cases h8 : s.size > 8
    · have : (s.size : Int) > 8 := by omega
      simp [h0, h8, this, tu1]
    · have h8' : ¬ (s.size : Int) > 8 := by omega
      cases hb : bytesOf s with
      | nil => rw [hb] at hn; simp at hn; omega
      | cons c xs =>
        have hi : bidx s 0 = some c := by rw [bidx_eq, hb]; rfl
        rw [List.zipIdx_cons, List.all_cons, List.all_cons, all_zip xs (0 + 1) (by omega)]
        by_cases a : c < 65
        · have a' : ¬ c ≥ 65 := by omega
          simp [h0, h0', h8, h8', tu1, hi, a, a', chP]
        · have a' : c ≥ 65 := by omega
          by_cases b : c > 90
          · have b' : ¬ c ≤ 90 := by omega
            simp [h0, h0', h8, h8', tu1, hi, a, a', b, b', chP]
          · have b' : c ≤ 90 := by omega
            cases hall : xs.all fun c => chP 1 c <;> simp [h0, h0', h8, h8', tu1, tu0, hi, a, a', b, b', chP, bindS, hall]

/-! ### Is a text in a list? -/
def hasS (l : List ByteArray) (s : ByteArray) : Bool := l.any fun x => sEq s x
theorem index_loop (K : Nat) (l : List ByteArray) (s : ByteArray) (hl : l.length ≤ 1048576) : ∀ d k (i : Nat), l.length - i = d → d < k →
    ∃ j : Nat, g_slices_Index_string_string_l0 K l s k (i : Int) = some (if (l.drop i).any (fun x => sEq s x) then .inl (j : Int) else .inr ()) := by
  intro d
  induction d with
  | zero =>
    intro k i hd hk
    obtain ⟨k, rfl⟩ : ∃ m, k = m + 1 := ⟨k - 1, by omega⟩
    exact ⟨0, by rw [g_slices_Index_string_string_l0, nlt_nat (by omega), List.drop_eq_nil_of_le (by omega)]; simp⟩
  | succ d ih =>
    intro k i hd hk
    obtain ⟨k, rfl⟩ : ∃ m, k = m + 1 := ⟨k - 1, by omega⟩
    have hi : i < l.length := by omega
    have hx : l[i]? = some l[i] := List.getElem?_eq_getElem hi
    obtain ⟨j, h1⟩ := ih k (i + 1) (by omega) (by omega)
    rw [← kw1 hi (by omega)] at h1
    rw [g_slices_Index_string_string_l0, lt_nat hi, List.drop_eq_getElem_cons hi, List.any_cons]
    simp only [if_true, idx_nat hx, Option.bind_some]
    cases hq : sEq s l[i] with
    | true => exact ⟨i, by simp⟩
    | false => exact ⟨j, by simpa using h1⟩
theorem contains_prog (K : Nat) (l : List ByteArray) (s : ByteArray) (hl : l.length ≤ 1048576) (hK : l.length < K) : g_slices_Contains_string_string K l s = some (hasS l s) := by
  obtain ⟨j, h⟩ := index_loop K l s hl l.length K 0 (by omega) hK
  rw [show ((0 : Nat) : Int) = 0 from rfl, List.drop_zero] at h
  unfold g_slices_Contains_string_string g_slices_Index_string_string hasS
  rw [h]
  cases hq : l.any fun x => sEq s x with
  | true => simp [bindS, tu1]
  | false => simp [bindS, tu0]
theorem place_loop (K : Nat) (l : List ByteArray) (s : ByteArray) (hl : l.length ≤ 1048576) : ∀ d k (i : Nat), l.length - i = d → d < k →
    ∃ j : Nat, g_R_Place_l0 K l s k (i : Int) = some (if (l.drop i).any (fun x => sEq s x) then .inl (j : Int) else .inr ()) := by
  intro d
  induction d with
  | zero =>
    intro k i hd hk
    obtain ⟨k, rfl⟩ : ∃ m, k = m + 1 := ⟨k - 1, by omega⟩
    exact ⟨0, by rw [g_R_Place_l0, nlt_nat (by omega), List.drop_eq_nil_of_le (by omega)]; simp⟩
  | succ d ih =>
    intro k i hd hk
    obtain ⟨k, rfl⟩ : ∃ m, k = m + 1 := ⟨k - 1, by omega⟩
    have hi : i < l.length := by omega
    have hx : l[i]? = some l[i] := List.getElem?_eq_getElem hi
    obtain ⟨j, h1⟩ := ih k (i + 1) (by omega) (by omega)
    rw [← kw1 hi (by omega)] at h1
    rw [g_R_Place_l0, lt_nat hi, List.drop_eq_getElem_cons hi, List.any_cons]
    simp only [if_true, idx_nat hx, Option.bind_some]
    rw [sEq_comm l[i] s]
    cases hq : sEq s l[i] with
    | true => exact ⟨i, by simp⟩
    | false => exact ⟨j, by simpa using h1⟩
theorem has_ref (K : Nat) (l : List ByteArray) (s : ByteArray) (hl : l.length ≤ 1048576) (hK : l.length < K) : g_R_Has K l s = some (hasS l s) := by
  obtain ⟨j, h⟩ := place_loop K l s hl l.length K 0 (by omega) hK
  rw [show ((0 : Nat) : Int) = 0 from rfl, List.drop_zero] at h
  unfold g_R_Has g_R_Place hasS
  rw [h]
  cases hq : l.any fun x => sEq s x with
  | true => simp [bindS, tu1]
  | false => simp [bindS, tu0]
end Go.Am.Try
