/- Plain law: TopologyParts answers true. -/
import Derived.Test.YtlcdhgcfamjioaaS6NBZ6
namespace Go.Am.Try
open Go Go.Am Go.Proofs
set_option linter.unusedSimpArgs false
set_option linter.unusedVariables false
variable {K : Nat} {n : Network}
theorem least {P : Nat → Prop} (h : ∃ j, P j) : ∃ f, P f ∧ ∀ j < f, ¬ P j := by
  obtain ⟨j, hj⟩ := h
  induction j using Nat.strongRecOn with
  | ind j ih =>
    by_cases e : ∃ i, i < j ∧ P i
    · obtain ⟨i, h1, h2⟩ := e
      exact ih i h1 h2
    · exact ⟨j, hj, fun i hi hp => e ⟨i, hi, hp⟩⟩
theorem outer_cnt {l : List (Int × Int)} {U : Nat → Bool} {N m : Nat} {xs : List Int} (h : Outer l U N xs m N) : cntS xs = m := by
  have h1 := outer_mem h
  have h2 : cntS xs ≤ m := cnt_le' m xs 0 (by omega) (fun x hx => by have := h1 x hx; omega)
  have h3 : 0 ≤ cntS xs := (cnt_ge xs 0).1
  by_cases h0 : m = 0
  · omega
  · obtain ⟨j, hj, hjn, e⟩ := h.last (by omega)
    have hm : xs.getD j 0 ∈ xs := by
      rw [List.getD_eq_getElem?_getD, List.getElem?_eq_getElem (by rw [h.len]; exact hjn)]
      simp
    have : xs.getD j 0 + 1 ≤ cntS xs := (cnt_ge xs 0).2 _ hm
    omega
theorem outer_at {l : List (Int × Int)} {U : Nat → Bool} {N m : Nat} {xs : List Int} (h : Outer l U N xs m N) {i : Nat} (hi : i < N) : 0 ≤ xs.getD i 0 ∧ xs.getD i 0 < m := ⟨h.done i hi hi, (h.rng i hi).2⟩
/-- Every number is some node's. -/
theorem outer_onto {l : List (Int × Int)} {U : Nat → Bool} {N m : Nat} {xs : List Int} (h : Outer l U N xs m N) {b : Nat} (hb : b < m) : ∃ j < N, xs.getD j 0 = b := by
  obtain ⟨j, hj, hjn, e⟩ := h.last (by omega)
  obtain ⟨k, h1, h2⟩ := seg h.rgs j hjn b (by omega) (by omega)
  exact ⟨k, by omega, h2⟩
/-! ### Lines between buses, lines between nodes -/
def bothL (n : Network) : List (Int × Int) := n.Branches.map fun x => (posS n.Nodes x.From, posS n.Nodes x.To)
def wiresL (n : Network) (xs : List Int) : List (Int × Int) := n.Branches.map fun x => (xs.getD (posS n.Nodes x.From).toNat 0, xs.getD (posS n.Nodes x.To).toNat 0)
def allU (n : Network) (i : Nat) : Bool := if (edgesL n).length ≤ i then true else usedS n i
theorem both_valid (G : Good n) : Valid n.Nodes.length (edgesL n ++ bothL n) := by
  intro i hi
  by_cases h : i < (edgesL n).length
  · have := edges_valid G i h
    rw [List.getD_eq_getElem?_getD, List.getElem?_append_left h, ← List.getD_eq_getElem?_getD]
    exact this
  · have hi' : i - (edgesL n).length < n.Branches.length := by simp [bothL] at hi; omega
    have hb := G.br (List.getElem_mem hi')
    have h1 := posS_range n.Nodes n.Branches[i - (edgesL n).length].From
    have h2 := posS_range n.Nodes n.Branches[i - (edgesL n).length].To
    have : (edgesL n ++ bothL n).getD i (0, 0) = (posS n.Nodes n.Branches[i - (edgesL n).length].From, posS n.Nodes n.Branches[i - (edgesL n).length].To) := by
      rw [List.getD_eq_getElem?_getD, List.getElem?_append_right (by omega)]
      simp [bothL, hi']
    rw [this]
    simp only
    omega
theorem edg_left {a b : Nat} (h : Edg (edgesL n) (usedS n) a b) : Edg (edgesL n ++ bothL n) (allU n) a b := by
  obtain ⟨k, h1, h2, h3⟩ := h
  refine ⟨k, by simp; omega, ?_, ?_⟩
  · unfold allU; rw [if_neg (by omega)]; exact h2
  · rw [List.getD_eq_getElem?_getD, List.getElem?_append_left h1, ← List.getD_eq_getElem?_getD]; exact h3
theorem con_left {a b : Nat} (h : Con (edgesL n) (usedS n) a b) : Con (edgesL n ++ bothL n) (allU n) a b := by
  induction h with
  | refl => exact .refl _
  | tail _ e ih => exact .tail ih (edg_left e)
theorem edg_all (G : Good n) {a b : Nat} (h : Edg (edgesL n ++ bothL n) (allU n) a b) : Edg (edgesL n) (usedS n) a b ∨ ∃ i, i < n.Branches.length ∧ (bothL n).getD i (0, 0) = (bothL n).getD i (0, 0) ∧ (((bothL n).getD i (0, 0)) = ((a : Int), (b : Int)) ∨ ((bothL n).getD i (0, 0)) = ((b : Int), (a : Int))) := by
  obtain ⟨k, h1, h2, h3⟩ := h
  by_cases hk : k < (edgesL n).length
  · left
    refine ⟨k, hk, ?_, ?_⟩
    · unfold allU at h2; rw [if_neg (by omega)] at h2; exact h2
    · rw [List.getD_eq_getElem?_getD, List.getElem?_append_left hk, ← List.getD_eq_getElem?_getD] at h3; exact h3
  · right
    refine ⟨k - (edgesL n).length, by simp [bothL] at h1; omega, rfl, ?_⟩
    rw [List.getD_eq_getElem?_getD, List.getElem?_append_right (by omega), ← List.getD_eq_getElem?_getD] at h3
    exact h3
theorem wire_at {xs : List Int} {i : Nat} (hi : i < n.Branches.length) : (wiresL n xs).getD i (0, 0) = (xs.getD ((bothL n).getD i (0, 0)).1.toNat 0, xs.getD ((bothL n).getD i (0, 0)).2.toNat 0) := by
  simp [wiresL, bothL, List.getD_eq_getElem?_getD, hi]
theorem both_at (G : Good n) {i : Nat} (hi : i < n.Branches.length) : ∃ f t : Nat, (bothL n).getD i (0, 0) = ((f : Int), (t : Int)) ∧ f < n.Nodes.length ∧ t < n.Nodes.length := by
  have hb := G.br (List.getElem_mem hi)
  have h1 := posS_range n.Nodes n.Branches[i].From
  have h2 := posS_range n.Nodes n.Branches[i].To
  refine ⟨(posS n.Nodes n.Branches[i].From).toNat, (posS n.Nodes n.Branches[i].To).toNat, ?_, by omega, by omega⟩
  have : (bothL n).getD i (0, 0) = (posS n.Nodes n.Branches[i].From, posS n.Nodes n.Branches[i].To) := by simp [bothL, List.getD_eq_getElem?_getD, hi]
  rw [this, Int.toNat_of_nonneg hb.1, Int.toNat_of_nonneg hb.2]
variable {xs : List Int} {m : Nat}
theorem wires_valid (G : Good n) (hO : Outer (edgesL n) (usedS n) n.Nodes.length xs m n.Nodes.length) : Valid m (wiresL n xs) := by
  intro i hi
  have hi' : i < n.Branches.length := by simpa [wiresL] using hi
  obtain ⟨f, t, h1, h2, h3⟩ := both_at G hi'
  have h4 := outer_at hO h2
  have h5 := outer_at hO h3
  rw [wire_at hi', h1]
  simp only [Int.toNat_natCast]
  omega
def allT : Nat → Bool := fun _ => true
theorem con_down (G : Good n) (hO : Outer (edgesL n) (usedS n) n.Nodes.length xs m n.Nodes.length) {a b : Nat} (ha : a < n.Nodes.length) (h : Con (edgesL n ++ bothL n) (allU n) a b) : b < n.Nodes.length ∧ Con (wiresL n xs) allT (xs.getD a 0).toNat (xs.getD b 0).toNat := by
  induction h with
  | refl => exact ⟨ha, .refl _⟩
  | tail _ e ih =>
    rename_i c d _
    obtain ⟨hc, hcon⟩ := ih
    have hd := (edg_lt (both_valid G) e).2
    refine ⟨hd, ?_⟩
    rcases edg_all G e with e | ⟨i, hi, _, h3⟩
    · have : xs.getD c 0 = xs.getD d 0 := (hO.cls c d hc hd (outer_at hO hc).1).2 (.tail (.refl _) e)
      rw [← this]; exact hcon
    · refine .tail hcon ⟨i, by simpa [wiresL] using hi, rfl, ?_⟩
      have hc0 := (outer_at hO hc).1
      have hd0 := (outer_at hO hd).1
      rw [wire_at hi, Int.toNat_of_nonneg hc0, Int.toNat_of_nonneg hd0]
      rcases h3 with h3 | h3 <;> rw [h3] <;> simp only [Int.toNat_natCast]
      · exact .inl trivial
      · exact .inr trivial
theorem con_up (G : Good n) (hO : Outer (edgesL n) (usedS n) n.Nodes.length xs m n.Nodes.length) {p q : Nat} (h : Con (wiresL n xs) allT p q) : ∀ a b, a < n.Nodes.length → b < n.Nodes.length → xs.getD a 0 = p → xs.getD b 0 = q → Con (edgesL n ++ bothL n) (allU n) a b := by
  induction h with
  | refl =>
    intro a b ha hb h1 h2
    exact con_left ((hO.cls a b ha hb (outer_at hO ha).1).1 (by omega))
  | tail _ e ih =>
    intro a b ha hb h1 h2
    obtain ⟨i, hi, _, h3⟩ := e
    have hi' : i < n.Branches.length := by simpa [wiresL] using hi
    obtain ⟨f, t, h4, hf, ht⟩ := both_at G hi'
    rw [wire_at hi', h4] at h3
    simp only [Int.toNat_natCast, Prod.mk.injEq] at h3
    have key : ∀ f t, f < n.Nodes.length → t < n.Nodes.length → Edg (edgesL n ++ bothL n) (allU n) f t → xs.getD f 0 = _ → xs.getD t 0 = _ → Con (edgesL n ++ bothL n) (allU n) a b := fun f t hf ht he g1 g2 =>
      Con.trans (.tail (ih a f ha hf h1 g1) he) (con_left ((hO.cls t b ht hb (outer_at hO ht).1).1 (g2.trans h2.symm)))
    have he : Edg (edgesL n ++ bothL n) (allU n) f t := by
      refine ⟨(edgesL n).length + i, by simp [bothL]; omega, by unfold allU; rw [if_pos (by omega)], .inl ?_⟩
      rw [List.getD_eq_getElem?_getD, List.getElem?_append_right (by omega), Nat.add_sub_cancel_left, ← List.getD_eq_getElem?_getD]
      exact h4
    rcases h3 with ⟨g1, g2⟩ | ⟨g1, g2⟩
    · exact key f t hf ht he g1 g2
    · exact key t f ht hf he.symm g2 g1
/-- A table from buses to the numbers of their nodes. -/
structure Tab (xs gs : List Int) (m i : Nat) (T : List Int) : Prop where
  len : T.length = m
  at_ : ∀ b < m, (∃ j < i, xs.getD j 0 = b) → ∃ j < i, xs.getD j 0 = b ∧ T.getD b 0 = gs.getD j 0
theorem same_islands (G : Good n) (hO : Outer (edgesL n) (usedS n) n.Nodes.length xs m n.Nodes.length) {gs is T : List Int} {mg mi : Nat} (hg : Outer (edgesL n ++ bothL n) (allU n) n.Nodes.length gs mg n.Nodes.length) (hi : Outer (wiresL n xs) allT m is mi m) (hT : Tab xs gs m n.Nodes.length T) : is = T := by
  have hat : ∀ b < m, ∃ j < n.Nodes.length, xs.getD j 0 = b ∧ T.getD b 0 = gs.getD j 0 := fun b hb => hT.at_ b hb (outer_onto hO hb)
  refine canon_eq (R := Con (wiresL n xs) allT) hi.len hT.len (fun i h => hi.done i h h) (fun b hb => ?_) (fun a b ha hb => hi.cls a b ha hb (hi.done a ha ha)) (fun a b ha hb => ?_) hi.rgs (fun b hb h0 => ?_)
  · obtain ⟨j, h1, _, h3⟩ := hat b hb
    rw [h3]; exact (outer_at hg h1).1
  · obtain ⟨j, h1, h2, h3⟩ := hat a ha
    obtain ⟨k, h4, h5, h6⟩ := hat b hb
    rw [h3, h6, hg.cls j k h1 h4 (outer_at hg h1).1]
    constructor
    · intro h
      have := (con_down G hO h1 h).2
      rw [h2, h5, Int.toNat_natCast, Int.toNat_natCast] at this
      exact this
    · intro h
      exact con_up G hO h j k h1 h4 h2 h5
  · -- the first node of the bus b
    have hex : ∃ j, j < n.Nodes.length ∧ xs.getD j 0 = b := outer_onto hO hb
    obtain ⟨f, ⟨hfn, hfb⟩, hmin⟩ := least hex
    obtain ⟨j, h1, h2, h3⟩ := hat b hb
    have e1 : gs.getD j 0 = gs.getD f 0 := (hg.cls j f h1 hfn (outer_at hg h1).1).2 (con_left ((hO.cls j f h1 hfn (outer_at hO h1).1).1 (by omega)))
    obtain ⟨j', h4, h5⟩ := hg.rgs f hfn (by omega)
    have hj'n : j' < n.Nodes.length := by omega
    have hx := outer_at hO hj'n
    obtain ⟨b', hb'⟩ := Int.eq_ofNat_of_zero_le hx.1
    have hlt : b' < b := by
      rcases Nat.lt_trichotomy b' b with h | h | h
      · exact h
      · exact absurd ⟨hj'n, by rw [hb', h]⟩ (hmin j' h4)
      · obtain ⟨k, h6, h7⟩ := seg hO.rgs j' hj'n b (by omega) (by omega)
        exact absurd ⟨by omega, h7⟩ (hmin k (by omega))
    refine ⟨b', hlt, ?_⟩
    obtain ⟨k, g1, g2, g3⟩ := hat b' (by omega)
    have e2 : gs.getD k 0 = gs.getD j' 0 := (hg.cls k j' g1 hj'n (outer_at hg g1).1).2 (con_left ((hO.cls k j' g1 hj'n (outer_at hO g1).1).1 (by omega)))
    omega
end Go.Am.Try
