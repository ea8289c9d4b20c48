/- Graphs: connected parts, their numbers, closure of a matrix, ways. Plain, no program. -/
import Derived.Test.YtlcdhgcfamjioaaBxPZ8
namespace Go.Am
open Go
set_option linter.unusedVariables false
set_option linter.unusedSimpArgs false
def Edg (l : List (Int × Int)) (U : Nat → Bool) (a b : Nat) : Prop := ∃ k, k < l.length ∧ U k = true ∧ (l.getD k (0, 0) = ((a : Int), (b : Int)) ∨ l.getD k (0, 0) = ((b : Int), (a : Int)))
inductive Con (l : List (Int × Int)) (U : Nat → Bool) : Nat → Nat → Prop
  | refl (a : Nat) : Con l U a a
  | tail {a b c : Nat} : Con l U a b → Edg l U b c → Con l U a c
structure Outer (l : List (Int × Int)) (U : Nat → Bool) (n : Nat) (cs : List Int) (m s : Nat) : Prop where
  len : cs.length = n
  rng : ∀ i < n, -1 ≤ cs.getD i 0 ∧ cs.getD i 0 < m
  done : ∀ i < s, i < n → 0 ≤ cs.getD i 0
  cls : ∀ i j, i < n → j < n → 0 ≤ cs.getD i 0 → (cs.getD i 0 = cs.getD j 0 ↔ Con l U i j)
  last : 0 < m → ∃ j < s, j < n ∧ cs.getD j 0 = (m : Int) - 1
  rgs : ∀ i < n, 0 < cs.getD i 0 → ∃ j < i, cs.getD j 0 = cs.getD i 0 - 1
  few : m ≤ s
structure Mid (l : List (Int × Int)) (U : Nat → Bool) (n : Nat) (base : List Int) (m s : Nat) (cs : List Int) : Prop where
  len : cs.length = n
  own : ∀ i < n, (cs.getD i 0 = m ∧ base.getD i 0 = -1 ∧ Con l U s i) ∨ cs.getD i 0 = base.getD i 0
  start : cs.getD s 0 = m
def Pass (l : List (Int × Int)) (U : Nat → Bool) (m : Nat) (cs : List Int) (i : Nat) : Prop :=
  ∀ k < i, U k = true → (cs.getD (l.getD k (0, 0)).1.toNat 0 = m ↔ cs.getD (l.getD k (0, 0)).2.toNat 0 = m)
def cnt (m n : Nat) (cs : List Int) : Nat := ((List.range n).filter (fun i => cs.getD i 0 != (m : Int))).length
def Valid (n : Nat) (l : List (Int × Int)) : Prop := ∀ i, i < l.length → 0 ≤ (l.getD i (0, 0)).1 ∧ (l.getD i (0, 0)).1.toNat < n ∧ 0 ≤ (l.getD i (0, 0)).2 ∧ (l.getD i (0, 0)).2.toNat < n
theorem beq_same {a b m : Int} (h : (!((a == m) == (b == m))) = false) : a = m ↔ b = m := by
  simp only [Bool.not_eq_false', beq_iff_eq] at h
  rw [← beq_iff_eq, ← beq_iff_eq (a := b), h]
theorem pass_0 (l : List (Int × Int)) (U : Nat → Bool) (m : Nat) (cs : List Int) : Pass l U m cs 0 := fun k hk => by omega
theorem pass_same {l : List (Int × Int)} {U : Nat → Bool} {n m i : Nat} {ds cs2 : List Int} {g : Bool} (h : (g = false → ds = cs2 ∧ Pass l U m ds i) ∧ (g = true → cnt m n ds < cnt m n cs2)) (hs : U i = true → (ds.getD (l.getD i (0, 0)).1.toNat 0 = m ↔ ds.getD (l.getD i (0, 0)).2.toNat 0 = m)) :
    (g = false → ds = cs2 ∧ Pass l U m ds (i + 1)) ∧ (g = true → cnt m n ds < cnt m n cs2) := by
  refine ⟨fun hg => ⟨(h.1 hg).1, fun k hk hu => ?_⟩, h.2⟩
  rcases Nat.lt_succ_iff_lt_or_eq.1 hk with h' | rfl
  · exact (h.1 hg).2 k h' hu
  · exact hs hu
theorem outer_m {l : List (Int × Int)} {U : Nat → Bool} {n m s : Nat} {cs : List Int} (h : Outer l U n cs m s) (hs : s ≤ n) : m ≤ n := Nat.le_trans h.few hs
theorem outer_init (l : List (Int × Int)) (U : Nat → Bool) (n : Nat) : Outer l U n (List.replicate n (-1)) 0 0 := by
  have hg : ∀ i < n, (List.replicate n (-1 : Int)).getD i 0 = -1 := fun i hi => by simp [List.getD_eq_getElem?_getD, hi]
  refine ⟨by simp, fun i hi => ?_, fun i hi => by omega, fun i j hi hj h => ?_, fun h => by omega, fun i hi h => ?_, Nat.le_refl _⟩
  · rw [hg i hi]; omega
  · rw [hg i hi] at h; omega
  · rw [hg i hi] at h; omega
theorem outer_skip {l : List (Int × Int)} {U : Nat → Bool} {n m s : Nat} {cs : List Int} (h : Outer l U n cs m s) (hs : s < n) (h0 : 0 ≤ cs.getD s 0) : Outer l U n cs m (s + 1) := by
  refine ⟨h.len, h.rng, fun i hi hn => ?_, h.cls, fun hm => ?_, h.rgs, Nat.le_succ_of_le h.few⟩
  · rcases Nat.lt_succ_iff_lt_or_eq.1 hi with h' | rfl
    · exact h.done i h' hn
    · exact h0
  · obtain ⟨j, h1, h2⟩ := h.last hm
    exact ⟨j, Nat.lt_succ_of_lt h1, h2⟩
theorem getD_set {cs : List Int} {i j : Nat} {v : Int} (hi : i < cs.length) : (cs.set i v).getD j 0 = if j = i then v else cs.getD j 0 := by
  rw [List.getD_eq_getElem?_getD, List.getElem?_set]
  by_cases h : i = j
  · subst h; simp [hi]
  · rw [if_neg h, if_neg (fun e => h e.symm), List.getD_eq_getElem?_getD]
theorem mid_start {l : List (Int × Int)} {U : Nat → Bool} {n m s : Nat} {cs : List Int} (h : Outer l U n cs m s) (hs : s < n) (h0 : cs.getD s 0 < 0) : Mid l U n cs m s (cs.set s (m : Int)) := by
  have hl : s < cs.length := by rw [h.len]; exact hs
  refine ⟨by simp [h.len], fun i hi => ?_, ?_⟩
  · rw [getD_set hl]
    by_cases e : i = s
    · subst e; rw [if_pos rfl]
      have := h.rng i hi
      exact .inl ⟨rfl, by omega, .refl i⟩
    · rw [if_neg e]; exact .inr rfl
  · rw [getD_set hl, if_pos rfl]
theorem Edg.symm {l : List (Int × Int)} {U : Nat → Bool} {a b : Nat} (h : Edg l U a b) : Edg l U b a := by
  obtain ⟨k, h1, h2, h3⟩ := h
  exact ⟨k, h1, h2, h3.symm⟩
theorem Con.trans {l : List (Int × Int)} {U : Nat → Bool} {a b c : Nat} (h : Con l U a b) (k : Con l U b c) : Con l U a c := by
  induction k with
  | refl => exact h
  | tail _ e ih => exact .tail ih e
theorem Con.symm {l : List (Int × Int)} {U : Nat → Bool} {a b : Nat} (h : Con l U a b) : Con l U b a := by
  induction h with
  | refl => exact .refl _
  | tail _ e ih => exact (Con.tail (.refl _) e.symm).trans ih
theorem edg_of {n : Nat} {l : List (Int × Int)} {U : Nat → Bool} {i : Nat} (vl : Valid n l) (hi : i < l.length) (hU : U i = true) : Edg l U (l.getD i (0, 0)).1.toNat (l.getD i (0, 0)).2.toNat := by
  have h := vl i hi
  refine ⟨i, hi, hU, .inl ?_⟩
  rw [Int.toNat_of_nonneg h.1, Int.toNat_of_nonneg h.2.2.1]
theorem mid_own {l : List (Int × Int)} {U : Nat → Bool} {n m s x : Nat} {cs ds : List Int} (hO : Outer l U n cs m s) (h : Mid l U n cs m s ds) (hx : x < n) (hm : ds.getD x 0 = m) : cs.getD x 0 = -1 ∧ Con l U s x := by
  rcases h.own x hx with ⟨_, h1, h2⟩ | h1
  · exact ⟨h1, h2⟩
  · have := hO.rng x hx; omega
theorem mid_new {l : List (Int × Int)} {U : Nat → Bool} {n m s x : Nat} {cs ds : List Int} (hO : Outer l U n cs m s) (hs : s < n) (h : Mid l U n cs m s ds) (hx : x < n) (hc : Con l U s x) : cs.getD x 0 = -1 := by
  have h1 := (mid_own hO h hs h.start).1
  have h2 := hO.rng x hx
  by_cases h3 : 0 ≤ cs.getD x 0
  · have := (hO.cls x s hx hs h3).2 hc.symm; omega
  · omega
theorem mid_step {l : List (Int × Int)} {U : Nat → Bool} {n m s i : Nat} {cs ds : List Int} (hO : Outer l U n cs m s) (hs : s < n) (h : Mid l U n cs m s ds) (vl : Valid n l) (hi : i < l.length) (hU : U i = true) (hX : (!((ds.getD (l.getD i (0, 0)).1.toNat 0 == (m : Int)) == (ds.getD (l.getD i (0, 0)).2.toNat 0 == (m : Int)))) = true) :
    Mid l U n cs m s ((ds.set (l.getD i (0, 0)).1.toNat (m : Int)).set (l.getD i (0, 0)).2.toNat (m : Int)) := by
  have he := edg_of vl hi hU
  obtain ⟨_, h0, _, h1⟩ := vl i hi
  generalize (l.getD i (0, 0)).1.toNat = x0 at *
  generalize (l.getD i (0, 0)).2.toNat = x1 at *
  have hboth : Con l U s x0 ∧ Con l U s x1 := by
    by_cases c0 : ds.getD x0 0 = m
    · have := (mid_own hO h h0 c0).2
      exact ⟨this, .tail this he⟩
    · by_cases c1 : ds.getD x1 0 = m
      · have := (mid_own hO h h1 c1).2
        exact ⟨.tail this he.symm, this⟩
      · have e0 : (ds.getD x0 0 == (m : Int)) = false := by simpa using c0
        have e1 : (ds.getD x1 0 == (m : Int)) = false := by simpa using c1
        rw [e0, e1] at hX; simp at hX
  have l0 : x0 < ds.length := by rw [h.len]; exact h0
  have l1 : x1 < (ds.set x0 (m : Int)).length := by rw [List.length_set, h.len]; exact h1
  refine ⟨by simp [h.len], fun j hj => ?_, ?_⟩
  · rw [getD_set l1, getD_set l0]
    by_cases e1 : j = x1
    · subst e1; rw [if_pos rfl]; exact .inl ⟨rfl, mid_new hO hs h hj hboth.2, hboth.2⟩
    · rw [if_neg e1]
      by_cases e0 : j = x0
      · subst e0; rw [if_pos rfl]; exact .inl ⟨rfl, mid_new hO hs h hj hboth.1, hboth.1⟩
      · rw [if_neg e0]; exact h.own j hj
  · rw [getD_set l1, getD_set l0]
    by_cases e1 : s = x1
    · rw [if_pos e1]
    · rw [if_neg e1]
      by_cases e0 : s = x0
      · rw [if_pos e0]
      · rw [if_neg e0]; exact h.start
theorem filter_lt {α : Type} {p q : α → Bool} : ∀ {L : List α}, (∀ a ∈ L, p a = true → q a = true) → (∃ a ∈ L, q a = true ∧ p a = false) → (L.filter p).length < (L.filter q).length
  | [], _, h => by obtain ⟨a, h, _⟩ := h; cases h
  | x :: L, h, hx => by
    have hle : (L.filter p).length ≤ (L.filter q).length := by
      have hi : ∀ a ∈ L, p a = true → q a = true := fun a ha => h a (List.mem_cons_of_mem _ ha)
      clear h hx
      induction L with
      | nil => simp
      | cons y L ih =>
        have h2 := ih fun a ha => hi a (List.mem_cons_of_mem _ ha)
        have h1 := hi y (List.mem_cons_self)
        simp only [List.filter_cons]
        cases hp : p y with
        | true => rw [h1 hp]; simpa using h2
        | false => cases q y <;> simp <;> omega
    simp only [List.filter_cons]
    obtain ⟨a, ha, hq, hp⟩ := hx
    rcases List.mem_cons.1 ha with rfl | ha
    · rw [hq, hp]; simp; omega
    · have := filter_lt (fun b hb => h b (List.mem_cons_of_mem _ hb)) ⟨a, ha, hq, hp⟩
      cases hpx : p x with
      | true => rw [h x List.mem_cons_self hpx]; simp; omega
      | false => cases q x <;> simp <;> omega
theorem cnt_grow {l : List (Int × Int)} {U : Nat → Bool} {n m s x0 x1 : Nat} {cs ds : List Int} (h : Mid l U n cs m s ds) (h0 : x0 < n) (h1 : x1 < n) (hX : (!((ds.getD x0 0 == (m : Int)) == (ds.getD x1 0 == (m : Int)))) = true) : cnt m n ((ds.set x0 (m : Int)).set x1 (m : Int)) < cnt m n ds := by
  have l0 : x0 < ds.length := by rw [h.len]; exact h0
  have l1 : x1 < (ds.set x0 (m : Int)).length := by rw [List.length_set, h.len]; exact h1
  have hg : ∀ j, ((ds.set x0 (m : Int)).set x1 (m : Int)).getD j 0 = if j = x1 then (m : Int) else if j = x0 then (m : Int) else ds.getD j 0 := fun j => by rw [getD_set l1, getD_set l0]
  refine filter_lt (fun a _ hp => ?_) ?_
  · rw [hg a] at hp
    by_cases e1 : a = x1
    · rw [if_pos e1] at hp; simp at hp
    · rw [if_neg e1] at hp
      by_cases e0 : a = x0
      · rw [if_pos e0] at hp; simp at hp
      · rw [if_neg e0] at hp; exact hp
  · by_cases c0 : ds.getD x0 0 = m
    · refine ⟨x1, List.mem_range.2 h1, ?_, ?_⟩
      · have e0 : (ds.getD x0 0 == (m : Int)) = true := by simpa using c0
        rw [e0] at hX
        simp at hX; simp; exact hX
      · rw [hg, if_pos rfl]; simp
    · refine ⟨x0, List.mem_range.2 h0, by simp; exact c0, ?_⟩
      rw [hg]; simp
theorem pass_grow {l : List (Int × Int)} {U : Nat → Bool} {n m s i : Nat} {cs ds cs2 : List Int} {g : Bool} (hP : (g = false → ds = cs2 ∧ Pass l U m ds i) ∧ (g = true → cnt m n ds < cnt m n cs2)) (h : Mid l U n cs m s ds) (vl : Valid n l) (hi : i < l.length) (hX : (!((ds.getD (l.getD i (0, 0)).1.toNat 0 == (m : Int)) == (ds.getD (l.getD i (0, 0)).2.toNat 0 == (m : Int)))) = true) {B : Prop} :
    (true = false → B) ∧ (true = true → cnt m n ((ds.set (l.getD i (0, 0)).1.toNat (m : Int)).set (l.getD i (0, 0)).2.toNat (m : Int)) < cnt m n cs2) := by
  refine ⟨fun h => absurd h (by decide), fun _ => ?_⟩
  have := cnt_grow h (vl i hi).2.1 (vl i hi).2.2.2 hX
  cases g with
  | true => exact Nat.lt_trans this (hP.2 rfl)
  | false => rw [(hP.1 rfl).1] at this ⊢; exact this
theorem con_closed {l : List (Int × Int)} {U : Nat → Bool} {m a b : Nat} {ds : List Int} (hp : Pass l U m ds l.length) (h : Con l U a b) (ha : ds.getD a 0 = m) : ds.getD b 0 = m := by
  induction h with
  | refl => exact ha
  | tail _ e ih =>
    obtain ⟨k, h1, h2, h3⟩ := e
    have := hp k h1 h2
    rcases h3 with h3 | h3 <;> rw [h3] at this <;> simp only [Int.toNat_natCast] at this
    · exact this.1 ih
    · exact this.2 ih
theorem outer_next {l : List (Int × Int)} {U : Nat → Bool} {n m s : Nat} {cs ds : List Int} (hO : Outer l U n cs m s) (hs : s < n) (h : Mid l U n cs m s ds) (hp : Pass l U m ds l.length) : Outer l U n ds (m + 1) (s + 1) := by
  have hst := h.start
  have K : ∀ j, Con l U s j → ds.getD j 0 = m := fun j hj => con_closed hp hj hst
  refine ⟨h.len, fun i hi => ?_, fun i hi hn => ?_, fun i j hi hj h0 => ?_, fun _ => ⟨s, Nat.lt_succ_self s, hs, by rw [hst]; omega⟩, fun i hi h0 => ?_, Nat.succ_le_succ hO.few⟩
  · rcases h.own i hi with ⟨h1, _⟩ | h1
    · rw [h1]; omega
    · rw [h1]; have := hO.rng i hi; omega
  · rcases Nat.lt_succ_iff_lt_or_eq.1 hi with h' | rfl
    · rcases h.own i hn with ⟨h1, _⟩ | h1
      · rw [h1]; omega
      · rw [h1]; exact hO.done i h' hn
    · rw [hst]; omega
  · by_cases hm : ds.getD i 0 = m
    · have ci := (mid_own hO h hi hm).2
      rw [hm]
      constructor
      · intro e; exact ci.symm.trans (mid_own hO h hj e.symm).2
      · intro c; exact (K j (ci.trans c)).symm
    · have hb : ds.getD i 0 = cs.getD i 0 := by
        rcases h.own i hi with ⟨h1, _⟩ | h1
        · exact absurd h1 hm
        · exact h1
      rw [hb] at h0 hm ⊢
      constructor
      · intro e
        rcases h.own j hj with ⟨h1, _⟩ | h1
        · exact absurd (e.trans h1) hm
        · exact (hO.cls i j hi hj h0).1 (e.trans h1)
      · intro c
        have e := (hO.cls i j hi hj h0).2 c
        rcases h.own j hj with ⟨_, h1, _⟩ | h1
        · omega
        · rw [h1]; exact e
  · by_cases hm : ds.getD i 0 = m
    · have hb := (mid_own hO h hi hm).1
      rw [hm] at h0 ⊢
      obtain ⟨j, h1, h2, h3⟩ := hO.last (by omega)
      have hsi : s ≤ i := by
        rcases Nat.lt_or_ge i s with h' | h'
        · have := hO.done i h' hi; omega
        · exact h'
      refine ⟨j, by omega, ?_⟩
      rcases h.own j h2 with ⟨_, h4, _⟩ | h4
      · omega
      · rw [h4]; exact h3
    · have hb : ds.getD i 0 = cs.getD i 0 := by
        rcases h.own i hi with ⟨h1, _⟩ | h1
        · exact absurd h1 hm
        · exact h1
      rw [hb] at h0 ⊢
      obtain ⟨j, h1, h2⟩ := hO.rgs i hi h0
      refine ⟨j, h1, ?_⟩
      rcases h.own j (by omega) with ⟨_, h4, _⟩ | h4
      · omega
      · rw [h4]; exact h2
structure EqvOn (M : Nat → Nat → Bool) (n : Nat) : Prop where
  refl : ∀ a < n, M a a = true
  symm : ∀ a b, a < n → b < n → M a b = true → M b a = true
  trans : ∀ a b c, a < n → b < n → c < n → M a b = true → M b c = true → M a c = true
structure NumOk (M : Nat → Nat → Bool) (cs : List Int) (m i : Nat) : Prop where
  len : cs.length = i
  rng : ∀ a < i, 0 ≤ cs.getD a 0 ∧ cs.getD a 0 < m
  cls : ∀ a b, a < i → b < i → (cs.getD a 0 = cs.getD b 0 ↔ M a b = true)
  last : 0 < m → ∃ a < i, cs.getD a 0 = (m : Int) - 1
  rgs : ∀ a < i, 0 < cs.getD a 0 → ∃ b < a, cs.getD b 0 = cs.getD a 0 - 1
  few : m ≤ i
def AtOk (M : Nat → Nat → Bool) (cs : List Int) (i k : Nat) (at_ : Int) : Prop := (at_ = -1 ∧ ∀ j < k, M i j = false) ∨ ∃ j < k, M i j = true ∧ at_ = cs.getD j 0
theorem num_0 (M : Nat → Nat → Bool) : NumOk M [] 0 0 := ⟨rfl, fun a h => by omega, fun a b h => by omega, fun h => by omega, fun a h => by omega, Nat.le_refl _⟩
theorem at_0 (M : Nat → Nat → Bool) (cs : List Int) (i : Nat) : AtOk M cs i 0 (-1) := .inl ⟨rfl, fun j h => by omega⟩
theorem at_yes {M : Nat → Nat → Bool} {cs : List Int} {i k : Nat} {at_ : Int} (h : AtOk M cs i k at_) (hk : k < i) (h0 : at_ < 0) (hm : M i k = true) : AtOk M cs i (k + 1) (cs.getD k 0) := .inr ⟨k, Nat.lt_succ_self k, hm, rfl⟩
theorem at_no1 {M : Nat → Nat → Bool} {cs : List Int} {i k : Nat} {at_ : Int} (h : AtOk M cs i k at_) (hm : M i k = false) : AtOk M cs i (k + 1) at_ := by
  rcases h with ⟨h1, h2⟩ | ⟨j, h1, h2⟩
  · refine .inl ⟨h1, fun j hj => ?_⟩
    rcases Nat.lt_succ_iff_lt_or_eq.1 hj with h' | rfl
    · exact h2 j h'
    · exact hm
  · exact .inr ⟨j, Nat.lt_succ_of_lt h1, h2⟩
theorem at_no2 {M : Nat → Nat → Bool} {cs : List Int} {i k : Nat} {at_ : Int} (h : AtOk M cs i k at_) (hm : 0 ≤ at_) : AtOk M cs i (k + 1) at_ := by
  rcases h with ⟨h1, h2⟩ | ⟨j, h1, h2⟩
  · omega
  · exact .inr ⟨j, Nat.lt_succ_of_lt h1, h2⟩
theorem getD_app {cs : List Int} {x : Int} {a i : Nat} (hl : cs.length = i) (ha : a ≤ i) : (cs ++ [x]).getD a 0 = if a = i then x else cs.getD a 0 := by
  rw [List.getD_eq_getElem?_getD, List.getElem?_append]
  by_cases e : a = i
  · subst e; simp [hl]
  · rw [if_pos (by omega), if_neg e, List.getD_eq_getElem?_getD]
theorem num_new {M : Nat → Nat → Bool} {cs : List Int} {m i n k : Nat} {at_ : Int} (hM : EqvOn M n) (h : NumOk M cs m i) (hi : i < n) (hA : AtOk M cs i k at_) (hk : k = i) (h0 : at_ < 0) : NumOk M (cs ++ [(m : Int)]) (m + 1) (i + 1) := by
  subst hk
  have hno : ∀ j < k, M k j = false := by
    rcases hA with ⟨_, h2⟩ | ⟨j, h1, _, h3⟩
    · exact h2
    · have := h.rng j h1; omega
  have g := fun a (ha : a ≤ k) => getD_app (x := (m : Int)) h.len ha
  refine ⟨by simp [h.len], fun a ha => ?_, fun a b ha hb => ?_, fun _ => ⟨k, Nat.lt_succ_self k, by rw [g k (Nat.le_refl _), if_pos rfl]; omega⟩, fun a ha h1 => ?_, Nat.succ_le_succ h.few⟩
  · rw [g a (by omega)]
    by_cases e : a = k
    · rw [if_pos e]; omega
    · rw [if_neg e]; have := h.rng a (by omega); omega
  · rw [g a (by omega), g b (by omega)]
    by_cases ea : a = k
    · rw [if_pos ea]
      by_cases eb : b = k
      · rw [if_pos eb, ea, eb]; simp [hM.refl k hi]
      · rw [if_neg eb]
        have := h.rng b (by omega)
        rw [ea, hno b (by omega)]
        exact ⟨fun e => by omega, fun e => by cases e⟩
    · rw [if_neg ea]
      by_cases eb : b = k
      · rw [if_pos eb]
        have := h.rng a (by omega)
        have hn : M a b ≠ true := fun e => by
          rw [eb] at e
          have := hM.symm a k (by omega) hi e
          rw [hno a (by omega)] at this; cases this
        constructor
        · intro e; omega
        · intro e; exact absurd e hn
      · rw [if_neg eb]; exact h.cls a b (by omega) (by omega)
  · rw [g a (by omega)] at h1 ⊢
    by_cases e : a = k
    · rw [if_pos e] at h1 ⊢
      obtain ⟨b, hb1, hb2⟩ := h.last (by omega)
      exact ⟨b, by omega, by rw [g b (by omega), if_neg (by omega)]; exact hb2⟩
    · rw [if_neg e] at h1 ⊢
      obtain ⟨b, hb1, hb2⟩ := h.rgs a (by omega) h1
      exact ⟨b, hb1, by rw [g b (by omega), if_neg (by omega)]; exact hb2⟩
theorem num_old {M : Nat → Nat → Bool} {cs : List Int} {m i n k : Nat} {at_ : Int} (hM : EqvOn M n) (h : NumOk M cs m i) (hi : i < n) (hA : AtOk M cs i k at_) (hk : k = i) (h0 : 0 ≤ at_) : NumOk M (cs ++ [at_]) m (i + 1) := by
  subst hk
  obtain ⟨j, hj, hm, hat⟩ : ∃ j < k, M k j = true ∧ at_ = cs.getD j 0 := by
    rcases hA with ⟨h1, _⟩ | h1
    · omega
    · exact h1
  have g := fun a (ha : a ≤ k) => getD_app (x := at_) h.len ha
  have hrj := h.rng j hj
  refine ⟨by simp [h.len], fun a ha => ?_, fun a b ha hb => ?_, fun h1 => ?_, fun a ha h1 => ?_, Nat.le_succ_of_le h.few⟩
  · rw [g a (by omega)]
    by_cases e : a = k
    · rw [if_pos e]; omega
    · rw [if_neg e]; exact h.rng a (by omega)
  · rw [g a (by omega), g b (by omega)]
    by_cases ea : a = k
    · rw [if_pos ea]
      by_cases eb : b = k
      · rw [if_pos eb, ea, eb]; simp [hM.refl k hi]
      · rw [if_neg eb, hat, h.cls j b hj (by omega), ea]
        exact ⟨fun e => hM.trans k j b hi (by omega) (by omega) hm e, fun e => hM.trans j k b (by omega) hi (by omega) (hM.symm k j hi (by omega) hm) e⟩
    · rw [if_neg ea]
      by_cases eb : b = k
      · rw [if_pos eb, hat, h.cls a j (by omega) hj, eb]
        exact ⟨fun e => hM.trans a j k (by omega) (by omega) hi e (hM.symm k j hi (by omega) hm), fun e => hM.trans a k j (by omega) hi (by omega) e hm⟩
      · rw [if_neg eb]; exact h.cls a b (by omega) (by omega)
  · obtain ⟨b, hb1, hb2⟩ := h.last h1
    exact ⟨b, by omega, by rw [g b (by omega), if_neg (by omega)]; exact hb2⟩
  · rw [g a (by omega)] at h1 ⊢
    by_cases e : a = k
    · rw [if_pos e] at h1 ⊢
      obtain ⟨b, hb1, hb2⟩ := h.rgs j hj (by omega)
      exact ⟨b, by omega, by rw [g b (by omega), if_neg (by omega)]; omega⟩
    · rw [if_neg e] at h1 ⊢
      obtain ⟨b, hb1, hb2⟩ := h.rgs a (by omega) h1
      exact ⟨b, hb1, by rw [g b (by omega), if_neg (by omega)]; exact hb2⟩
def idM (a b : Nat) : Bool := a == b
def setM (M : Nat → Nat → Bool) (x y : Nat) (v : Bool) : Nat → Nat → Bool := fun a b => if a = x ∧ b = y then v else M a b
def JOk (l : List (Int × Int)) (U : Nat → Bool) (n : Nat) (M : Nat → Nat → Bool) (e : Nat) : Prop :=
  ∀ a b, a < n → b < n → (M a b = true ↔ a = b ∨ ∃ k, k < e ∧ U k = true ∧ (l.getD k (0, 0) = ((a : Int), (b : Int)) ∨ l.getD k (0, 0) = ((b : Int), (a : Int))))
structure WOk (l : List (Int × Int)) (U : Nat → Bool) (n : Nat) (M : Nat → Nat → Bool) (m : Nat) : Prop where
  sound : ∀ a b, a < n → b < n → M a b = true → Con l U a b
  refl : ∀ a < n, M a a = true
  edge : ∀ a b, a < n → b < n → Edg l U a b → M a b = true
  tr : ∀ c < m, ∀ a b, a < n → b < n → M a c = true → M c b = true → M a b = true
def phM (M : Nat → Nat → Bool) (m i k a b : Nat) : Bool := if a < i ∨ (a = i ∧ b < k) then (M a b || (M a m && M m b)) else M a b
theorem j_0 (l : List (Int × Int)) (U : Nat → Bool) (n : Nat) : JOk l U n idM 0 := by
  intro a b ha hb
  simp [idM]
theorem j_no {l : List (Int × Int)} {U : Nat → Bool} {n e : Nat} {M : Nat → Nat → Bool} (h : JOk l U n M e) (hU : U e = false) : JOk l U n M (e + 1) := by
  intro a b ha hb
  rw [h a b ha hb]
  constructor
  · rintro (h | ⟨k, h1, h2⟩)
    · exact .inl h
    · exact .inr ⟨k, by omega, h2⟩
  · rintro (h | ⟨k, h1, h2, h3⟩)
    · exact .inl h
    · refine .inr ⟨k, ?_, h2, h3⟩
      have : k ≠ e := fun e2 => by rw [e2, hU] at h2; cases h2
      omega
theorem j_yes {l : List (Int × Int)} {U : Nat → Bool} {n e : Nat} {M : Nat → Nat → Bool} (vl : Valid n l) (h : JOk l U n M e) (he : e < l.length) (hU : U e = true) :
    JOk l U n (setM (setM M (l.getD e (0, 0)).1.toNat (l.getD e (0, 0)).2.toNat true) (l.getD e (0, 0)).2.toNat (l.getD e (0, 0)).1.toNat true) (e + 1) := by
  have hv := vl e he
  have hp : l.getD e (0, 0) = (((l.getD e (0, 0)).1.toNat : Int), ((l.getD e (0, 0)).2.toNat : Int)) := by
    rw [Int.toNat_of_nonneg hv.1, Int.toNat_of_nonneg hv.2.2.1]
  generalize hx0 : (l.getD e (0, 0)).1.toNat = x0 at *
  generalize hx1 : (l.getD e (0, 0)).2.toNat = x1 at *
  intro a b ha hb
  unfold setM
  by_cases c1 : a = x1 ∧ b = x0
  · rw [if_pos c1]
    refine ⟨fun _ => .inr ⟨e, Nat.lt_succ_self e, hU, .inr ?_⟩, fun _ => rfl⟩
    rw [hp, c1.1, c1.2]
  · rw [if_neg c1]
    by_cases c2 : a = x0 ∧ b = x1
    · rw [if_pos c2]
      refine ⟨fun _ => .inr ⟨e, Nat.lt_succ_self e, hU, .inl ?_⟩, fun _ => rfl⟩
      rw [hp, c2.1, c2.2]
    · rw [if_neg c2, h a b ha hb]
      constructor
      · rintro (h | ⟨k, h1, h2⟩)
        · exact .inl h
        · exact .inr ⟨k, by omega, h2⟩
      · rintro (h | ⟨k, h1, h2, h3⟩)
        · exact .inl h
        · rcases Nat.lt_succ_iff_lt_or_eq.1 h1 with h4 | h4
          · exact .inr ⟨k, h4, h2, h3⟩
          · exfalso
            rw [h4, hp] at h3
            simp only [Prod.mk.injEq] at h3
            omega
theorem w_0 {l : List (Int × Int)} {U : Nat → Bool} {n e : Nat} {M : Nat → Nat → Bool} (h : JOk l U n M e) (he : e = l.length) : WOk l U n M 0 := by
  subst he
  refine ⟨fun a b ha hb hm => ?_, fun a ha => (h a a ha ha).2 (.inl rfl), fun a b ha hb e => ?_, fun c hc => by omega⟩
  · rcases (h a b ha hb).1 hm with rfl | ⟨k, h1, h2, h3⟩
    · exact .refl _
    · exact .tail (.refl _) ⟨k, h1, h2, h3⟩
  · obtain ⟨k, h1, h2, h3⟩ := e
    exact (h a b ha hb).2 (.inr ⟨k, h1, h2, h3⟩)
theorem ph_00 {n : Nat} (M : Nat → Nat → Bool) (m : Nat) : ∀ a b, a < n → b < n → M a b = phM M m 0 0 a b := by
  intro a b _ _
  simp [phM]
theorem ph_step {M B : Nat → Nat → Bool} {n m i k : Nat} {v : Bool} (h : ∀ a b, a < n → b < n → B a b = phM M m i k a b) (hi : i < n) (hk : k < n) (hm : m < n) (hv : v = (B i k || (B i m && B m k))) : ∀ a b, a < n → b < n → setM B i k v a b = phM M m i (k + 1) a b := by
  have h1 : B i k = M i k := by rw [h i k hi hk]; simp [phM]
  have h2 : B i m = M i m := by
    rw [h i m hi hm]; unfold phM
    split
    · cases M i m <;> simp
    · rfl
  have h3 : B m k = M m k := by
    rw [h m k hm hk]; unfold phM
    split
    · cases M m k <;> simp
    · rfl
  intro a b ha hb
  unfold setM
  by_cases e : a = i ∧ b = k
  · obtain ⟨rfl, rfl⟩ := e
    rw [if_pos ⟨rfl, rfl⟩, hv, h1, h2, h3]
    unfold phM
    rw [if_pos (.inr ⟨rfl, Nat.lt_succ_self _⟩)]
  · rw [if_neg e, h a b ha hb]
    have hc : (a < i ∨ (a = i ∧ b < k)) ↔ (a < i ∨ (a = i ∧ b < k + 1)) := by omega
    simp only [phM, hc]
theorem ph_row {M B : Nat → Nat → Bool} {n m i k : Nat} (h : ∀ a b, a < n → b < n → B a b = phM M m i k a b) (hk : n ≤ k) : ∀ a b, a < n → b < n → B a b = phM M m (i + 1) 0 a b := by
  intro a b ha hb
  rw [h a b ha hb]
  have hc : (a < i ∨ (a = i ∧ b < k)) ↔ (a < i + 1 ∨ (a = i + 1 ∧ b < 0)) := by omega
  simp only [phM, hc]
theorem w_next {l : List (Int × Int)} {U : Nat → Bool} {n m i : Nat} {M A : Nat → Nat → Bool} (h : WOk l U n M m) (hm : m < n) (hA : ∀ a b, a < n → b < n → A a b = phM M m i 0 a b) (hi : n ≤ i) : WOk l U n A (m + 1) := by
  have key : ∀ a b, a < n → b < n → (A a b = true ↔ M a b = true ∨ (M a m = true ∧ M m b = true)) := by
    intro a b ha hb
    rw [hA a b ha hb]
    unfold phM
    rw [if_pos (.inl (by omega)), Bool.or_eq_true, Bool.and_eq_true]
  refine ⟨fun a b ha hb e => ?_, fun a ha => (key a a ha ha).2 (.inl (h.refl a ha)), fun a b ha hb e => (key a b ha hb).2 (.inl (h.edge a b ha hb e)), fun c hc a b ha hb e1 e2 => ?_⟩
  · rcases (key a b ha hb).1 e with e | ⟨e1, e2⟩
    · exact h.sound a b ha hb e
    · exact (h.sound a m ha hm e1).trans (h.sound m b hm hb e2)
  · have hcn : c < n := by omega
    rw [key a b ha hb]
    rcases Nat.lt_succ_iff_lt_or_eq.1 hc with hc | rfl
    · rcases (key a c ha hcn).1 e1 with e1 | ⟨e1, e1'⟩ <;> rcases (key c b hcn hb).1 e2 with e2 | ⟨e2, e2'⟩
      · exact .inl (h.tr c hc a b ha hb e1 e2)
      · exact .inr ⟨h.tr c hc a m ha hm e1 e2, e2'⟩
      · exact .inr ⟨e1, h.tr c hc m b hm hb e1' e2⟩
      · exact .inr ⟨e1, e2'⟩
    · have f1 : M a c = true := by rcases (key a c ha hcn).1 e1 with e | ⟨e, _⟩ <;> exact e
      have f2 : M c b = true := by rcases (key c b hcn hb).1 e2 with e | ⟨_, e⟩ <;> exact e
      exact .inr ⟨f1, f2⟩
theorem w_end {l : List (Int × Int)} {U : Nat → Bool} {n : Nat} {M : Nat → Nat → Bool} {m : Nat} (vl : Valid n l) (h : WOk l U n M m) (hm : n ≤ m) {a b : Nat} (ha : a < n) (hb : b < n) : M a b = true ↔ Con l U a b := by
  refine ⟨h.sound a b ha hb, fun c => ?_⟩
  have : b < n ∧ M a b = true := by
    clear hb
    induction c with
    | refl => exact ⟨ha, h.refl a ha⟩
    | tail _ e ih =>
      rename_i x y _
      obtain ⟨hx, hm1⟩ := ih
      have hy : y < n := by
        obtain ⟨k, h1, h2, h3⟩ := e
        have hv := vl k h1
        rcases h3 with h3 | h3 <;> (rw [h3] at hv; simp at hv; omega)
      exact ⟨hy, h.tr x (by omega) a y ha hy hm1 (h.edge x y hx hy e)⟩
  exact this.2
theorem seg {n : Nat} {xs : List Int} (hr : ∀ i < n, 0 < xs.getD i 0 → ∃ j < i, xs.getD j 0 = xs.getD i 0 - 1) : ∀ i, i < n → ∀ v, 0 ≤ v → v ≤ xs.getD i 0 → ∃ j, j ≤ i ∧ xs.getD j 0 = v := by
  intro i
  induction i using Nat.strongRecOn with
  | ind i ih =>
    intro hi v h0 hv
    by_cases e : v = xs.getD i 0
    · exact ⟨i, Nat.le_refl _, e.symm⟩
    · obtain ⟨j, h1, h2⟩ := hr i hi (by omega)
      obtain ⟨k, h3, h4⟩ := ih j h1 (by omega) v h0 (by omega)
      exact ⟨k, by omega, h4⟩
theorem canon_eq {n : Nat} {R : Nat → Nat → Prop} {xs cs : List Int} (l1 : xs.length = n) (l2 : cs.length = n) (p1 : ∀ i < n, 0 ≤ xs.getD i 0) (p2 : ∀ i < n, 0 ≤ cs.getD i 0)
    (c1 : ∀ i j, i < n → j < n → (xs.getD i 0 = xs.getD j 0 ↔ R i j)) (c2 : ∀ i j, i < n → j < n → (cs.getD i 0 = cs.getD j 0 ↔ R i j))
    (r1 : ∀ i < n, 0 < xs.getD i 0 → ∃ j < i, xs.getD j 0 = xs.getD i 0 - 1) (r2 : ∀ i < n, 0 < cs.getD i 0 → ∃ j < i, cs.getD j 0 = cs.getD i 0 - 1) : xs = cs := by
  have key : ∀ i, i < n → xs.getD i 0 = cs.getD i 0 := by
    intro i
    induction i using Nat.strongRecOn with
    | ind i ih =>
      intro hi
      rcases Int.lt_trichotomy (xs.getD i 0) (cs.getD i 0) with h | h | h
      · exfalso
        have := p1 i hi
        obtain ⟨j, h1, h2⟩ := r2 i hi (by omega)
        obtain ⟨k, h3, h4⟩ := seg r2 j (by omega) (xs.getD i 0) this (by omega)
        have hk := ih k (by omega) (by omega)
        have hR := (c1 i k hi (by omega)).1 (by omega)
        have := (c2 i k hi (by omega)).2 hR
        omega
      · exact h
      · exfalso
        have := p2 i hi
        obtain ⟨j, h1, h2⟩ := r1 i hi (by omega)
        obtain ⟨k, h3, h4⟩ := seg r1 j (by omega) (cs.getD i 0) this (by omega)
        have hk := ih k (by omega) (by omega)
        have hR := (c2 i k hi (by omega)).1 (by omega)
        have := (c1 i k hi (by omega)).2 hR
        omega
  apply List.ext_getElem (by omega)
  intro i h1 h2
  have := key i (by omega)
  simpa [List.getD_eq_getElem?_getD, h1, h2] using this
theorem eqv_of {l : List (Int × Int)} {U : Nat → Bool} {n : Nat} {M : Nat → Nat → Bool} (h : ∀ a b, a < n → b < n → (M a b = true ↔ Con l U a b)) : EqvOn M n :=
  ⟨fun a ha => (h a a ha ha).2 (.refl a), fun a b ha hb e => (h b a hb ha).2 ((h a b ha hb).1 e).symm, fun a b c ha hb hc e1 e2 => (h a c ha hc).2 (((h a b ha hb).1 e1).trans ((h b c hb hc).1 e2))⟩
theorem same_numbers {l : List (Int × Int)} {U : Nat → Bool} {n m m' : Nat} {M : Nat → Nat → Bool} {xs cs : List Int} (hM : ∀ a b, a < n → b < n → (M a b = true ↔ Con l U a b)) (hO : Outer l U n xs m n) (hN : NumOk M cs m' n) : xs = cs :=
  canon_eq (R := Con l U) hO.len hN.len (fun i hi => hO.done i hi hi) (fun i hi => (hN.rng i hi).1) (fun i j hi hj => hO.cls i j hi hj (hO.done i hi hi)) (fun i j hi hj => (hN.cls i j hi hj).trans (hM i j hi hj)) hO.rgs hN.rgs
/-- There is a walk of exactly k used lines from v to 'to'. -/
def Wk (l : List (Int × Int)) (U : Nat → Bool) (to : Nat) : Nat → Nat → Prop
  | 0, v => v = to
  | k + 1, v => ∃ w, Edg l U v w ∧ Wk l U to k w
structure FarOk (l : List (Int × Int)) (U : Nat → Bool) (n to : Nat) (fs : List Int) (d : Nat) : Prop where
  len : fs.length = n
  rng : ∀ v < n, -1 ≤ fs.getD v 0
  fnd : ∀ v < n, ∀ k : Nat, fs.getD v 0 = k → k ≤ d ∧ Wk l U to k v ∧ ∀ j < k, ¬ Wk l U to j v
  nof : ∀ v < n, fs.getD v 0 = -1 → ∀ j ≤ d, ¬ Wk l U to j v
theorem far_init (l : List (Int × Int)) (U : Nat → Bool) {n to : Nat} (ht : to < n) : FarOk l U n to ((List.replicate n (-1)).set to 0) 0 := by
  have hl : to < (List.replicate n (-1 : Int)).length := by simpa using ht
  have hg : ∀ v, v < n → ((List.replicate n (-1 : Int)).set to 0).getD v 0 = if v = to then 0 else -1 := fun v hv => by
    rw [getD_set hl]
    by_cases e : v = to
    · rw [if_pos e, if_pos e]
    · rw [if_neg e, if_neg e]; simp [List.getD_eq_getElem?_getD, hv]
  refine ⟨by simp, fun v hv => ?_, fun v hv k hk => ?_, fun v hv h j hj => ?_⟩
  · rw [hg v hv]; split <;> omega
  · rw [hg v hv] at hk
    by_cases e : v = to
    · rw [if_pos e] at hk
      have : k = 0 := by omega
      subst this
      exact ⟨Nat.le_refl _, e, fun j hj => by omega⟩
    · rw [if_neg e] at hk; omega
  · rw [hg v hv] at h
    have e : v ≠ to := fun e => by rw [if_pos e] at h; omega
    have : j = 0 := by omega
    subst this
    exact e
/-- In the midst of a round: 'fs' the distances at its start, 'gs' now. -/
structure Rnd (l : List (Int × Int)) (U : Nat → Bool) (n to : Nat) (fs gs : List Int) (d : Nat) : Prop where
  len : gs.length = n
  old : ∀ v < n, gs.getD v 0 = fs.getD v 0 ∨ (fs.getD v 0 = -1 ∧ gs.getD v 0 = (d : Int) + 1 ∧ Wk l U to (d + 1) v)
theorem rnd_0 {l : List (Int × Int)} {U : Nat → Bool} {n to : Nat} {fs : List Int} {d : Nat} (h : fs.length = n) : Rnd l U n to fs fs d := ⟨h, fun v hv => .inl rfl⟩
theorem edg_lt {n : Nat} {l : List (Int × Int)} {U : Nat → Bool} (vl : Valid n l) {a b : Nat} (e : Edg l U a b) : a < n ∧ b < n := by
  obtain ⟨k, h1, _, h3⟩ := e
  have hv := vl k h1
  rcases h3 with h3 | h3 <;> (rw [h3] at hv; simp at hv; omega)
theorem far_next {l : List (Int × Int)} {U : Nat → Bool} {n to : Nat} {fs gs : List Int} {d : Nat} (vl : Valid n l) (h : FarOk l U n to fs d) (r : Rnd l U n to fs gs d)
    (hp : ∀ a b, a < n → b < n → Edg l U a b → fs.getD b 0 = d → 0 ≤ gs.getD a 0) (ha : ∀ a b, Edg l U a b → a < n ∧ b < n) : FarOk l U n to gs (d + 1) := by
  refine ⟨r.len, fun v hv => ?_, fun v hv k hk => ?_, fun v hv hm j hj hw => ?_⟩
  · rcases r.old v hv with e | ⟨_, e, _⟩
    · rw [e]; exact h.rng v hv
    · rw [e]; omega
  · rcases r.old v hv with e | ⟨e1, e2, e3⟩
    · rw [e] at hk
      obtain ⟨h1, h2, h3⟩ := h.fnd v hv k hk
      exact ⟨by omega, h2, h3⟩
    · have : k = d + 1 := by omega
      subst this
      exact ⟨Nat.le_refl _, e3, fun j hj => h.nof v hv e1 j (by omega)⟩
  · have hf : fs.getD v 0 = -1 := by
      rcases r.old v hv with e | ⟨e1, e2, _⟩
      · rw [← e]; exact hm
      · omega
    rcases Nat.lt_or_ge j (d + 1) with hj2 | hj2
    · exact h.nof v hv hf j (by omega) hw
    · have : j = d + 1 := by omega
      subst this
      obtain ⟨w, he, hww⟩ := hw
      obtain ⟨_, hwn⟩ := ha v w he
      have hr := h.rng w hwn
      by_cases h0 : fs.getD w 0 = -1
      · exact h.nof w hwn h0 d (Nat.le_refl _) hww
      · obtain ⟨k, hk⟩ := Int.eq_ofNat_of_zero_le (show 0 ≤ fs.getD w 0 by omega)
        obtain ⟨h1, h2, h3⟩ := h.fnd w hwn k hk
        rcases Nat.lt_or_ge k d with h4 | h4
        · exact h.nof v hv hf (k + 1) (by omega) ⟨w, he, h2⟩
        · have : k = d := by omega
          subst this
          have := hp v w hv hwn he hk
          omega
/-- Nothing grew: what is not found has no walk at all. -/
theorem far_stuck {l : List (Int × Int)} {U : Nat → Bool} {n to : Nat} {fs : List Int} {d : Nat} (vl : Valid n l) (h : FarOk l U n to fs d)
    (hp : ∀ a b, a < n → b < n → Edg l U a b → fs.getD b 0 = d → 0 ≤ fs.getD a 0) : ∀ (k v : Nat), v < n → Wk l U to k v → 0 ≤ fs.getD v 0 := by
  intro k
  induction k with
  | zero =>
    intro v hv hw
    have := h.rng v hv
    by_cases e : fs.getD v 0 = -1
    · exact absurd hw (h.nof v hv e 0 (Nat.zero_le _))
    · omega
  | succ k ih =>
    rintro v hv ⟨w, he, hw⟩
    have hwn := (edg_lt vl he).2
    have h0 := ih w hwn hw
    obtain ⟨j, hj⟩ := Int.eq_ofNat_of_zero_le h0
    obtain ⟨h1, h2, _⟩ := h.fnd w hwn j hj
    by_cases e : j = d
    · subst e; exact hp v w hv hwn he hj
    · have := h.rng v hv
      by_cases e2 : fs.getD v 0 = -1
      · exact absurd ⟨w, he, h2⟩ (h.nof v hv e2 (j + 1) (by omega))
      · omega
def neg (n : Nat) (fs : List Int) : Nat := ((List.range n).filter fun v => fs.getD v 0 == -1).length
theorem neg_set {n : Nat} {fs : List Int} {v : Nat} {x : Int} (hl : fs.length = n) (hv : v < n) (h : fs.getD v 0 = -1) (hx : x ≠ -1) : neg n (fs.set v x) < neg n fs := by
  have l0 : v < fs.length := by omega
  refine filter_lt (fun a _ hp => ?_) ⟨v, List.mem_range.2 hv, by simpa using h, ?_⟩
  · rw [getD_set l0] at hp
    by_cases e : a = v
    · rw [if_pos e] at hp; simp at hp; exact absurd hp hx
    · rw [if_neg e] at hp; exact hp
  · rw [getD_set l0, if_pos rfl]; simpa using hx
/-- What a round has to do for the line k. -/
def Did (l : List (Int × Int)) (U : Nat → Bool) (fs gs : List Int) (d k : Nat) : Prop :=
  U k = true → (fs.getD (l.getD k (0, 0)).1.toNat 0 = d → 0 ≤ gs.getD (l.getD k (0, 0)).2.toNat 0) ∧ (fs.getD (l.getD k (0, 0)).2.toNat 0 = d → 0 ≤ gs.getD (l.getD k (0, 0)).1.toNat 0)
theorem did_all {l : List (Int × Int)} {U : Nat → Bool} {n : Nat} {fs gs : List Int} {d : Nat} (h : ∀ k < l.length, Did l U fs gs d k) : ∀ a b, a < n → b < n → Edg l U a b → fs.getD b 0 = d → 0 ≤ gs.getD a 0 := by
  rintro a b _ _ ⟨k, h1, h2, h3⟩ hd
  have hk := h k h1 h2
  rcases h3 with h3 | h3 <;> rw [h3] at hk <;> simp only [Int.toNat_natCast] at hk
  · exact hk.2 hd
  · exact hk.1 hd
/-- The first way of exactly k used lines, in the order of the lines. -/
def wayS (l : List (Int × Int)) (U : Nat → Bool) (to : Nat) : Nat → Nat → Option (List Nat)
  | 0, v => if v = to then some [] else none
  | k + 1, v => (List.range l.length).findSome? fun e =>
      if U e && ((l.getD e (0, 0)).1 == (v : Int) || (l.getD e (0, 0)).2 == (v : Int)) then (wayS l U to k ((l.getD e (0, 0)).1 + (l.getD e (0, 0)).2 - v).toNat).map (e :: ·) else none
theorem way_some {n : Nat} {l : List (Int × Int)} {U : Nat → Bool} {to : Nat} (vl : Valid n l) : ∀ (k v : Nat), v < n → ((wayS l U to k v).isSome = true ↔ Wk l U to k v) := by
  intro k
  induction k with
  | zero =>
    intro v hv
    by_cases e : v = to <;> simp [wayS, Wk, e]
  | succ k ih =>
    intro v hv
    unfold wayS
    rw [List.findSome?_isSome_iff]
    constructor
    · rintro ⟨e, he, h⟩
      have he := List.mem_range.1 he
      have hv1 := vl e he
      split at h
      · rename_i hc
        simp only [Bool.and_eq_true, Bool.or_eq_true, beq_iff_eq] at hc
        rw [Option.isSome_map] at h
        rcases hc.2 with h1 | h1
        · have hw : ((l.getD e (0, 0)).1 + (l.getD e (0, 0)).2 - v).toNat = (l.getD e (0, 0)).2.toNat := by omega
          rw [hw] at h
          refine ⟨_, ⟨e, he, hc.1, .inl ?_⟩, (ih _ hv1.2.2.2).1 h⟩
          rw [Int.toNat_of_nonneg hv1.2.2.1, ← h1]
        · have hw : ((l.getD e (0, 0)).1 + (l.getD e (0, 0)).2 - v).toNat = (l.getD e (0, 0)).1.toNat := by omega
          rw [hw] at h
          refine ⟨_, ⟨e, he, hc.1, .inr ?_⟩, (ih _ hv1.2.1).1 h⟩
          rw [Int.toNat_of_nonneg hv1.1, ← h1]
      · cases h
    · rintro ⟨w, ⟨e, he, hu, h3⟩, hw⟩
      have hwn := (edg_lt (U := U) vl ⟨e, he, hu, h3⟩).2
      refine ⟨e, List.mem_range.2 he, ?_⟩
      rcases h3 with h3 | h3
      · rw [h3]
        simp only [hu, beq_self_eq_true, Bool.true_or, Bool.and_self, if_true, Option.isSome_map]
        rw [show ((v : Int) + (w : Int) - (v : Int)).toNat = w by omega]
        exact (ih w hwn).2 hw
      · rw [h3]
        simp only [hu, beq_self_eq_true, Bool.or_true, Bool.and_self, if_true, Option.isSome_map]
        rw [show ((w : Int) + (v : Int) - (v : Int)).toNat = w by omega]
        exact (ih w hwn).2 hw
/-! ### Loops -/
theorem loop_inv {S R : Type} (n : Nat) (l : Nat → S → Int → Option R) (I : S → Nat → Prop) (Q : R → Prop)
    (h : ∀ k s (i : Nat), i < n → I s i → (∃ r, l (k + 1) s (i : Int) = some r ∧ Q r) ∨ ∃ s', I s' (i + 1) ∧ l (k + 1) s (i : Int) = l k s' ((i + 1 : Nat) : Int))
    (h0 : ∀ k s (i : Nat), i = n → I s i → ∃ r, l (k + 1) s (i : Int) = some r ∧ Q r) : ∀ k s, n < k → I s 0 → ∃ r, l k s 0 = some r ∧ Q r := by
  have key : ∀ d k s (i : Nat), n - i = d → i ≤ n → d < k → I s i → ∃ r, l k s (i : Int) = some r ∧ Q r := by
    intro d
    induction d with
    | zero =>
      intro k s i hd hi hk hI
      obtain ⟨k, rfl⟩ : ∃ m, k = m + 1 := ⟨k - 1, by omega⟩
      exact h0 k s i (by omega) hI
    | succ d ih =>
      intro k s i hd hi hk hI
      obtain ⟨k, rfl⟩ : ∃ m, k = m + 1 := ⟨k - 1, by omega⟩
      rcases h k s i (by omega) hI with h1 | ⟨s', h1, h2⟩
      · exact h1
      · rw [h2]; exact ih k s' (i + 1) (by omega) (by omega) (by omega) h1
  intro k s hk hI
  exact key n k s 0 (by omega) (Nat.zero_le _) hk hI
theorem loop_wf {S R : Type} (l : Nat → S → Option R) (I : S → Prop) (mu : S → Nat) (Q : R → Prop)
    (h : ∀ k s, I s → (∃ r, l (k + 1) s = some r ∧ Q r) ∨ ∃ s', I s' ∧ mu s' < mu s ∧ l (k + 1) s = l k s') : ∀ k s, mu s < k → I s → ∃ r, l k s = some r ∧ Q r := by
  intro k
  induction k with
  | zero => intro s h1; omega
  | succ k ih =>
    intro s h1 hI
    rcases h k s hI with h2 | ⟨s', h2, h3, h4⟩
    · exact h2
    · rw [h4]; exact ih s' (by omega) h2
/-! ### Lines as rows of two numbers -/
def two (p : Int × Int) : List Int := [p.1, p.2]
theorem idx_two0 (a b : Int) : idx [a, b] 0 = some a := rfl
theorem idx_two1 (a b : Int) : idx [a, b] 1 = some b := rfl
theorem idx_lines {l : List (Int × Int)} {i : Nat} (h : i < l.length) : idx (l.map two) (i : Int) = some (two (l.getD i (0, 0))) := by
  apply idx_nat
  simp [h, List.getD_eq_getElem?_getD]
theorem idx_getD {cs : List Int} {a : Nat} (h : a < cs.length) : idx cs (a : Int) = some (cs.getD a 0) := by
  apply idx_nat
  simp [h, List.getD_eq_getElem?_getD]
theorem w01 : kwrap .i64 (0 + 1) = 1 := by rw [kw (by omega) (by omega)]; rfl
theorem w12 : kwrap .i64 (1 + 1) = 2 := by rw [kw (by omega) (by omega)]; rfl
/-! ### Ways, once more -/
/-- The one line that a way's first step may take. -/
def stepS (l : List (Int × Int)) (U : Nat → Bool) (to k v e : Nat) : Option (List Nat) :=
  if U e && ((l.getD e (0, 0)).1 == (v : Int) || (l.getD e (0, 0)).2 == (v : Int)) then (wayS l U to k ((l.getD e (0, 0)).1 + (l.getD e (0, 0)).2 - v).toNat).map (e :: ·) else none
theorem find_at {β : Type} {f : Nat → Option β} {n e : Nat} {b : β} (h : e < n) (h1 : ∀ i < e, f i = none) (h2 : f e = some b) : (List.range n).findSome? f = some b := by
  induction n with
  | zero => omega
  | succ n ih =>
    rw [List.range_succ, List.findSome?_append]
    rcases Nat.lt_succ_iff_lt_or_eq.1 h with h3 | rfl
    · rw [ih h3]; rfl
    · have : (List.range e).findSome? f = none := by
        rw [List.findSome?_eq_none_iff]
        intro x hx
        exact h1 x (List.mem_range.1 hx)
      rw [this]; simp [h2]
theorem find_no {β : Type} {f : Nat → Option β} {n : Nat} (h1 : ∀ i < n, f i = none) : (List.range n).findSome? f = none := by
  rw [List.findSome?_eq_none_iff]
  intro x hx
  exact h1 x (List.mem_range.1 hx)
theorem way_at {l : List (Int × Int)} {U : Nat → Bool} {to k v e : Nat} {es : List Nat} (h : e < l.length) (h1 : ∀ i < e, stepS l U to k v i = none) (h2 : stepS l U to k v e = some es) : wayS l U to (k + 1) v = some es := find_at h h1 h2
theorem way_no {l : List (Int × Int)} {U : Nat → Bool} {to k v : Nat} (h1 : ∀ i < l.length, stepS l U to k v i = none) : wayS l U to (k + 1) v = none := find_no h1
theorem neg_le {n : Nat} (fs : List Int) : neg n fs ≤ n := by
  have := List.length_filter_le (fun v => fs.getD v 0 == -1) (List.range n)
  simpa [neg] using this
theorem con_of_wk {l : List (Int × Int)} {U : Nat → Bool} {to : Nat} : ∀ k v, Wk l U to k v → Con l U v to
  | 0, v, h => by cases h; exact .refl _
  | k + 1, v, ⟨w, he, hw⟩ => (Con.tail (.refl _) he).trans (con_of_wk k w hw)
theorem wk_of_con {l : List (Int × Int)} {U : Nat → Bool} {to v : Nat} (h : Con l U to v) : ∃ k, Wk l U to k v := by
  induction h with
  | refl => exact ⟨0, rfl⟩
  | tail _ e ih =>
    obtain ⟨k, hk⟩ := ih
    exact ⟨k + 1, _, e.symm, hk⟩
end Go.Am

