/- Plain lemmas for typed functions: loops over lists, texts, whole numbers. -/
import Derived.Test.YtlmgdnhnpkgheaaDoorBxG
import Derived.Laws.Strings
namespace Go.Am
open Go
set_option linter.unusedSimpArgs false
set_option linter.unusedVariables false

/-! ### Whole numbers -/
theorem kw {a : Int} (h1 : -9223372036854775808 ≤ a) (h2 : a ≤ 9223372036854775807) : kwrap .i64 a = a := kwrap_in (krange_i64 h1 h2)
theorem kw1 {i n : Nat} (h : i < n) (hn : n ≤ 4611686018427387904) : kwrap .i64 ((i : Int) + 1) = ((i + 1 : Nat) : Int) := by rw [kw (by omega) (by omega)]; omega
theorem idx_nat {α : Type} {xs : List α} {i : Nat} {x : α} (h : xs[i]? = some x) : idx xs (i : Int) = some x := by
  unfold idx
  rw [if_neg (by omega)]
  simpa using h
theorem idx_none {α : Type} {xs : List α} {i : Int} (h : i < 0 ∨ (xs.length : Int) ≤ i) : idx xs i = none := by
  unfold idx
  split
  · rfl
  · rw [List.getElem?_eq_none]; omega
theorem lt_nat {i n : Nat} (h : i < n) : decide ((i : Int) < (n : Int)) = true := by simp; omega
theorem nlt_nat {i n : Nat} (h : n ≤ i) : decide ((i : Int) < (n : Int)) = false := by simp; omega

/-! ### Loops over a list that may end early -/
@[simp] theorem Sum.elim_ite {α β γ : Type} (f : α → γ) (g : β → γ) (c : Prop) [Decidable c] (x y : α ⊕ β) : Sum.elim f g (if c then x else y) = if c then Sum.elim f g x else Sum.elim f g y := by split <;> rfl
def runS {α S E : Type} (chk : α → S → E ⊕ S) : List α → S → E ⊕ S
  | [], s => .inr s
  | x :: xs, s => Sum.elim .inl (runS chk xs) (chk x s)
theorem runS_append {α S E : Type} (chk : α → S → E ⊕ S) : ∀ (xs ys : List α) (s : S), runS chk (xs ++ ys) s = Sum.elim .inl (runS chk ys) (runS chk xs s)
  | [], ys, s => rfl
  | x :: xs, ys, s => by
    simp only [List.cons_append, runS]
    cases chk x s with
    | inl e => rfl
    | inr s' => exact runS_append chk xs ys s'
theorem runS_map {α β S E : Type} (chk : β → S → E ⊕ S) (f : α → β) : ∀ (xs : List α) (s : S), runS chk (xs.map f) s = runS (fun x => chk (f x)) xs s
  | [], s => rfl
  | x :: xs, s => by
    simp only [List.map_cons, runS]
    cases chk (f x) s with
    | inl e => rfl
    | inr s' => exact runS_map chk f xs s'
theorem runS_congr {α S E : Type} {c1 c2 : α → S → E ⊕ S} : ∀ (xs : List α), (∀ x ∈ xs, ∀ s, c1 x s = c2 x s) → ∀ s, runS c1 xs s = runS c2 xs s
  | [], _, s => rfl
  | x :: xs, h, s => by
    simp only [runS]
    rw [h x (by simp) s]
    cases c2 x s with
    | inl e => rfl
    | inr s' => exact runS_congr xs (fun y hy => h y (by simp [hy])) s'
/-- A loop with a counter comes to what the list says. -/
theorem loop_sum {α S E : Type} (xs : List α) (l : Nat → S → Int → Option (E ⊕ S)) (chk : α → S → E ⊕ S) (I : S → Nat → Prop)
    (h : ∀ k s (i : Nat) x, xs[i]? = some x → I s i → l (k + 1) s i = Sum.elim (fun e => some (.inl e)) (fun s' => l k s' ((i + 1 : Nat) : Int)) (chk x s))
    (hI : ∀ s (i : Nat) x s', xs[i]? = some x → I s i → chk x s = .inr s' → I s' (i + 1))
    (h0 : ∀ k s (i : Nat), xs.length ≤ i → l (k + 1) s i = some (.inr s)) : ∀ d k s (i : Nat), xs.length - i = d → d < k → I s i → l k s i = some (runS chk (xs.drop i) s) := by
  intro d
  induction d with
  | zero =>
    intro k s i hd hk _
    obtain ⟨k, rfl⟩ : ∃ m, k = m + 1 := ⟨k - 1, by omega⟩
    rw [h0 k s i (by omega), List.drop_eq_nil_of_le (by omega)]; rfl
  | succ d ih =>
    intro k s i hd hk hi
    obtain ⟨k, rfl⟩ : ∃ m, k = m + 1 := ⟨k - 1, by omega⟩
    have hl : i < xs.length := by omega
    have hx : xs[i]? = some xs[i] := List.getElem?_eq_getElem hl
    rw [h k s i _ hx hi, List.drop_eq_getElem_cons hl, runS]
    cases hc : chk xs[i] s with
    | inl e => rfl
    | inr s' => exact ih k s' (i + 1) (by omega) (by omega) (hI s i _ s' hx hi hc)
theorem loop_sum0 {α S E : Type} (xs : List α) (l : Nat → S → Int → Option (E ⊕ S)) (chk : α → S → E ⊕ S) (I : S → Nat → Prop)
    (h : ∀ k s (i : Nat) x, xs[i]? = some x → I s i → l (k + 1) s i = Sum.elim (fun e => some (.inl e)) (fun s' => l k s' ((i + 1 : Nat) : Int)) (chk x s))
    (hI : ∀ s (i : Nat) x s', xs[i]? = some x → I s i → chk x s = .inr s' → I s' (i + 1))
    (h0 : ∀ k s (i : Nat), xs.length ≤ i → l (k + 1) s i = some (.inr s)) (k : Nat) (s : S) (hk : xs.length < k) (hi : I s 0) : l k s 0 = some (runS chk xs s) := by
  have := loop_sum xs l chk I h hI h0 xs.length k s 0 (by omega) hk hi
  simpa using this

/-- A loop that gathers. -/
theorem loop_acc {α β : Type} (xs : List α) (l : Nat → List β → Int → Option (List β)) (f : α → β) (m : Nat)
    (h : ∀ k acc (i : Nat) x, xs[i]? = some x → acc.length = m + i → l (k + 1) acc i = l k (acc ++ [f x]) ((i + 1 : Nat) : Int))
    (h0 : ∀ k acc (i : Nat), xs.length ≤ i → l (k + 1) acc i = some acc) : ∀ d k acc (i : Nat), xs.length - i = d → d < k → acc.length = m + i → l k acc i = some (acc ++ (xs.drop i).map f) := by
  intro d
  induction d with
  | zero =>
    intro k acc i hd hk _
    obtain ⟨k, rfl⟩ : ∃ m, k = m + 1 := ⟨k - 1, by omega⟩
    rw [h0 k acc i (by omega), List.drop_eq_nil_of_le (by omega)]; simp
  | succ d ih =>
    intro k acc i hd hk hi
    obtain ⟨k, rfl⟩ : ∃ m, k = m + 1 := ⟨k - 1, by omega⟩
    have hl : i < xs.length := by omega
    have hx : xs[i]? = some xs[i] := List.getElem?_eq_getElem hl
    rw [h k acc i _ hx hi, ih k _ (i + 1) (by omega) (by omega) (by simp; omega), List.drop_eq_getElem_cons hl]
    simp only [List.map_cons, List.append_assoc, List.singleton_append]
theorem loop_acc0 {α β : Type} (xs : List α) (l : Nat → List β → Int → Option (List β)) (f : α → β) (acc : List β)
    (h : ∀ k acc' (i : Nat) x, xs[i]? = some x → acc'.length = acc.length + i → l (k + 1) acc' i = l k (acc' ++ [f x]) ((i + 1 : Nat) : Int))
    (h0 : ∀ k acc (i : Nat), xs.length ≤ i → l (k + 1) acc i = some acc) (k : Nat) (hk : xs.length < k) : l k acc 0 = some (acc ++ xs.map f) := by
  have := loop_acc xs l f acc.length h h0 xs.length k acc 0 (by omega) hk (by simp)
  simpa using this
theorem runS_pair {α S T E : Type} (chk : α → S → E ⊕ S) (g : S → T) (chk' : α → T → E ⊕ T) (h : ∀ x s, chk' x (g s) = Sum.elim .inl (fun s' => .inr (g s')) (chk x s)) :
    ∀ (xs : List α) (s : S), runS chk' xs (g s) = Sum.elim .inl (fun s' => .inr (g s')) (runS chk xs s)
  | [], s => rfl
  | x :: xs, s => by
    simp only [runS]
    rw [h]
    cases chk x s with
    | inl e => rfl
    | inr s' => exact runS_pair chk g chk' h xs s'

/-! ### Texts -/
theorem sEq_iff {a b : ByteArray} : sEq a b = true ↔ a = b := by
  unfold sEq
  rw [beq_iff_eq, ByteArray.toList_eq, ByteArray.toList_eq]
  constructor
  · intro h
    cases a; cases b
    simp at h
    rw [h]
  · rintro rfl; rfl
theorem sEq_comm (a b : ByteArray) : sEq a b = sEq b a := by
  cases h : sEq a b with
  | true => rw [sEq_iff] at h; subst h; exact (sEq_iff.2 rfl).symm
  | false =>
    cases h' : sEq b a with
    | true => rw [sEq_iff] at h'; subst h'; rw [sEq_iff.2 rfl] at h; cases h
    | false => rfl
theorem bytesOf_length (a : ByteArray) : (bytesOf a).length = a.size := by unfold bytesOf; rw [List.length_map, Array.length_toList]; rfl
theorem bidx_eq (a : ByteArray) (i : Int) : bidx a i = idx (bytesOf a) i := by
  unfold bidx idx
  by_cases h : 0 ≤ i
  · rw [if_pos h, if_neg (by omega)]
    unfold bytesOf
    rw [List.getElem?_map, Array.getElem?_toList]
    rfl
  · rw [if_neg h, if_pos (by omega)]
theorem bytes_range {a : ByteArray} {c : Int} (h : c ∈ bytesOf a) : 0 ≤ c ∧ c ≤ 255 := by
  unfold bytesOf at h
  obtain ⟨b, _, rfl⟩ := List.mem_map.1 h
  have := b.toNat_lt
  omega
end Go.Am
