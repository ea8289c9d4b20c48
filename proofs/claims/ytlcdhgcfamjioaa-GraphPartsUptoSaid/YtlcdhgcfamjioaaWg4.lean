/- Walk: graph.Parts. -/
import Derived.Test.YtlcdhgcfamjioaaWg3
import Derived.Test.YtlcdhgcfamjioaaWg1
namespace Go.Am.Try
open Go Go.Am Go.Proofs
set_option linter.unusedVariables false
set_option linter.unusedSimpArgs false
def Edg (l : List (Int × Int)) (U : Nat → Bool) (a b : Nat) : Prop := ∃ k, k < l.length ∧ U k = true ∧ (l.getD k (0, 0) = ((a : Int), (b : Int)) ∨ l.getD k (0, 0) = ((b : Int), (a : Int)))
inductive Con (l : List (Int × Int)) (U : Nat → Bool) : Nat → Nat → Prop
  | refl (a : Nat) : Con l U a a
  | tail {a b c : Nat} : Con l U a b → Edg l U b c → Con l U a c
structure Outer (l : List (Int × Int)) (U : Nat → Bool) (n : Nat) (cs : List Int) (m s : Nat) : Prop where
  len : cs.length = n
  rng : ∀ i < n, -1 ≤ cs.getD i 0 ∧ cs.getD i 0 < m
  done : ∀ i < s, i < n → 0 ≤ cs.getD i 0
  cls : ∀ i j, i < n → j < n → 0 ≤ cs.getD i 0 → (cs.getD i 0 = cs.getD j 0 ↔ Con l U i j)
  last : 0 < m → ∃ j < s, j < n ∧ cs.getD j 0 = (m : Int) - 1
  rgs : ∀ i < n, 0 < cs.getD i 0 → ∃ j < i, cs.getD j 0 = cs.getD i 0 - 1
  few : m ≤ s
structure Mid (l : List (Int × Int)) (U : Nat → Bool) (n : Nat) (base : List Int) (m s : Nat) (cs : List Int) : Prop where
  len : cs.length = n
  own : ∀ i < n, (cs.getD i 0 = m ∧ base.getD i 0 = -1 ∧ Con l U s i) ∨ cs.getD i 0 = base.getD i 0
  start : cs.getD s 0 = m
def Pass (l : List (Int × Int)) (U : Nat → Bool) (m : Nat) (cs : List Int) (i : Nat) : Prop :=
  ∀ k < i, U k = true → (cs.getD (l.getD k (0, 0)).1.toNat 0 = m ↔ cs.getD (l.getD k (0, 0)).2.toNat 0 = m)
def cnt (m n : Nat) (cs : List Int) : Nat := ((List.range n).filter (fun i => cs.getD i 0 != (m : Int))).length
def Valid (n : Nat) (l : List (Int × Int)) : Prop := ∀ i, i < l.length → 0 ≤ (l.getD i (0, 0)).1 ∧ (l.getD i (0, 0)).1.toNat < n ∧ 0 ≤ (l.getD i (0, 0)).2 ∧ (l.getD i (0, 0)).2.toNat < n

theorem valid_of {n : Nat} {l : List (Int × Int)} (h : ∀ i < l.length, ok13 n (l.getD i (0, 0)) = true) : Valid n l := by
  intro i hi
  have := h i hi
  simp only [ok13, decide_eq_true_eq] at this
  omega
theorem set_map {cs : List Int} {i : Nat} {v : Int} : (cs.map (Value.int .i64)).set i (.int .i64 v) = (cs.set i v).map (Value.int .i64) := by
  rw [List.map_set]
theorem splice_set {cs : List Int} {i : Nat} {v : Int} (h : i < cs.length) : splice (cs.map (Value.int .i64)) (0 + i * 1) (Value.int .i64 v).cells.toList = (cs.set i v).map (Value.int .i64) := by
  rw [← set_map, Nat.zero_add, Nat.mul_one]
  show (cs.map (Value.int .i64)).take i ++ [.int .i64 v] ++ (cs.map (Value.int .i64)).drop (i + 1) = _
  rw [List.set_eq_take_append_cons_drop, if_pos (by simpa using h)]
  simp
theorem Pt.int {H : AH} {b i : Nat} {cs : List Int} {e : TypeId} {sz : Nat} {ow : Bool} (hb : H.get b = some ⟨cs.map (Value.int .i64), e, sz, ow⟩) (hi : i < cs.length) : Pt H (.pointer (some ⟨b, 0 + i * 1, none⟩)) [.int .i64 (cs.getD i 0)] := by
  refine ⟨b, _, _, rfl, hb, by simp; omega, ?_⟩
  apply List.ext_getElem?
  intro j
  cases j with
  | zero => simp [hi, List.getD_eq_getElem?_getD]
  | succ j => simp; omega
theorem beq_same {a b m : Int} (h : (!((a == m) == (b == m))) = false) : a = m ↔ b = m := by
  simp only [Bool.not_eq_false', beq_iff_eq] at h
  rw [← beq_iff_eq, ← beq_iff_eq (a := b), h]
theorem pass_0 (l : List (Int × Int)) (U : Nat → Bool) (m : Nat) (cs : List Int) : Pass l U m cs 0 := fun k hk => by omega
theorem pass_end {l : List (Int × Int)} {U : Nat → Bool} {m i : Nat} {ds cs2 : List Int} {g : Bool} (h : g = false → ds = cs2 ∧ Pass l U m ds i) (hi : i = l.length) : g = false → Pass l U m ds l.length := fun hg => hi ▸ (h hg).2
theorem pass_same {l : List (Int × Int)} {U : Nat → Bool} {n m i : Nat} {ds cs2 : List Int} {g : Bool} (h : (g = false → ds = cs2 ∧ Pass l U m ds i) ∧ (g = true → cnt m n ds < cnt m n cs2)) (hs : U i = true → (ds.getD (l.getD i (0, 0)).1.toNat 0 = m ↔ ds.getD (l.getD i (0, 0)).2.toNat 0 = m)) :
    (g = false → ds = cs2 ∧ Pass l U m ds (i + 1)) ∧ (g = true → cnt m n ds < cnt m n cs2) := by
  refine ⟨fun hg => ⟨(h.1 hg).1, fun k hk hu => ?_⟩, h.2⟩
  rcases Nat.lt_succ_iff_lt_or_eq.1 hk with h' | rfl
  · exact (h.1 hg).2 k h' hu
  · exact hs hu
theorem meas_lt {l : List (Int × Int)} {U : Nat → Bool} {n m i : Nat} {ds cs2 : List Int} {g gr : Bool} (h : (g = false → ds = cs2 ∧ Pass l U m ds i) ∧ (g = true → cnt m n ds < cnt m n cs2)) (hg : gr = true) : 2 * cnt m n ds + g.toNat < 2 * cnt m n cs2 + gr.toNat := by
  subst hg
  cases g with
  | true => have := h.2 rfl; simp; omega
  | false => rw [(h.1 rfl).1]; simp
theorem outer_m {l : List (Int × Int)} {U : Nat → Bool} {n m s : Nat} {cs : List Int} (h : Outer l U n cs m s) (hs : s ≤ n) : m ≤ n := Nat.le_trans h.few hs
theorem outer_init (l : List (Int × Int)) (U : Nat → Bool) (n : Nat) : Outer l U n (List.replicate n (-1)) 0 0 := by
  have hg : ∀ i < n, (List.replicate n (-1 : Int)).getD i 0 = -1 := fun i hi => by simp [List.getD_eq_getElem?_getD, hi]
  refine ⟨by simp, fun i hi => ?_, fun i hi => by omega, fun i j hi hj h => ?_, fun h => by omega, fun i hi h => ?_, Nat.le_refl _⟩
  · rw [hg i hi]; omega
  · rw [hg i hi] at h; omega
  · rw [hg i hi] at h; omega
theorem outer_skip {l : List (Int × Int)} {U : Nat → Bool} {n m s : Nat} {cs : List Int} (h : Outer l U n cs m s) (hs : s < n) (h0 : 0 ≤ cs.getD s 0) : Outer l U n cs m (s + 1) := by
  refine ⟨h.len, h.rng, fun i hi hn => ?_, h.cls, fun hm => ?_, h.rgs, Nat.le_succ_of_le h.few⟩
  · rcases Nat.lt_succ_iff_lt_or_eq.1 hi with h' | rfl
    · exact h.done i h' hn
    · exact h0
  · obtain ⟨j, h1, h2⟩ := h.last hm
    exact ⟨j, Nat.lt_succ_of_lt h1, h2⟩
theorem getD_set {cs : List Int} {i j : Nat} {v : Int} (hi : i < cs.length) : (cs.set i v).getD j 0 = if j = i then v else cs.getD j 0 := by
  rw [List.getD_eq_getElem?_getD, List.getElem?_set]
  by_cases h : i = j
  · subst h; simp [hi]
  · rw [if_neg h, if_neg (fun e => h e.symm), List.getD_eq_getElem?_getD]
theorem mid_start {l : List (Int × Int)} {U : Nat → Bool} {n m s : Nat} {cs : List Int} (h : Outer l U n cs m s) (hs : s < n) (h0 : cs.getD s 0 < 0) : Mid l U n cs m s (cs.set s (m : Int)) := by
  have hl : s < cs.length := by rw [h.len]; exact hs
  refine ⟨by simp [h.len], fun i hi => ?_, ?_⟩
  · rw [getD_set hl]
    by_cases e : i = s
    · subst e; rw [if_pos rfl]
      have := h.rng i hi
      exact .inl ⟨rfl, by omega, .refl i⟩
    · rw [if_neg e]; exact .inr rfl
  · rw [getD_set hl, if_pos rfl]
theorem Edg.symm {l : List (Int × Int)} {U : Nat → Bool} {a b : Nat} (h : Edg l U a b) : Edg l U b a := by
  obtain ⟨k, h1, h2, h3⟩ := h
  exact ⟨k, h1, h2, h3.symm⟩
theorem Con.trans {l : List (Int × Int)} {U : Nat → Bool} {a b c : Nat} (h : Con l U a b) (k : Con l U b c) : Con l U a c := by
  induction k with
  | refl => exact h
  | tail _ e ih => exact .tail ih e
theorem Con.symm {l : List (Int × Int)} {U : Nat → Bool} {a b : Nat} (h : Con l U a b) : Con l U b a := by
  induction h with
  | refl => exact .refl _
  | tail _ e ih => exact (Con.tail (.refl _) e.symm).trans ih
theorem edg_of {n : Nat} {l : List (Int × Int)} {U : Nat → Bool} {i : Nat} (vl : Valid n l) (hi : i < l.length) (hU : U i = true) : Edg l U (l.getD i (0, 0)).1.toNat (l.getD i (0, 0)).2.toNat := by
  have h := vl i hi
  refine ⟨i, hi, hU, .inl ?_⟩
  rw [Int.toNat_of_nonneg h.1, Int.toNat_of_nonneg h.2.2.1]
theorem mid_own {l : List (Int × Int)} {U : Nat → Bool} {n m s x : Nat} {cs ds : List Int} (hO : Outer l U n cs m s) (h : Mid l U n cs m s ds) (hx : x < n) (hm : ds.getD x 0 = m) : cs.getD x 0 = -1 ∧ Con l U s x := by
  rcases h.own x hx with ⟨_, h1, h2⟩ | h1
  · exact ⟨h1, h2⟩
  · have := hO.rng x hx; omega
theorem mid_new {l : List (Int × Int)} {U : Nat → Bool} {n m s x : Nat} {cs ds : List Int} (hO : Outer l U n cs m s) (hs : s < n) (h : Mid l U n cs m s ds) (hx : x < n) (hc : Con l U s x) : cs.getD x 0 = -1 := by
  have h1 := (mid_own hO h hs h.start).1
  have h2 := hO.rng x hx
  by_cases h3 : 0 ≤ cs.getD x 0
  · have := (hO.cls x s hx hs h3).2 hc.symm; omega
  · omega
theorem mid_step {l : List (Int × Int)} {U : Nat → Bool} {n m s i : Nat} {cs ds : List Int} (hO : Outer l U n cs m s) (hs : s < n) (h : Mid l U n cs m s ds) (vl : Valid n l) (hi : i < l.length) (hU : U i = true) (hX : (!((ds.getD (l.getD i (0, 0)).1.toNat 0 == (m : Int)) == (ds.getD (l.getD i (0, 0)).2.toNat 0 == (m : Int)))) = true) :
    Mid l U n cs m s ((ds.set (l.getD i (0, 0)).1.toNat (m : Int)).set (l.getD i (0, 0)).2.toNat (m : Int)) := by
  have he := edg_of vl hi hU
  obtain ⟨_, h0, _, h1⟩ := vl i hi
  generalize (l.getD i (0, 0)).1.toNat = x0 at *
  generalize (l.getD i (0, 0)).2.toNat = x1 at *
  have hboth : Con l U s x0 ∧ Con l U s x1 := by
    by_cases c0 : ds.getD x0 0 = m
    · have := (mid_own hO h h0 c0).2
      exact ⟨this, .tail this he⟩
    · by_cases c1 : ds.getD x1 0 = m
      · have := (mid_own hO h h1 c1).2
        exact ⟨.tail this he.symm, this⟩
      · have e0 : (ds.getD x0 0 == (m : Int)) = false := by simpa using c0
        have e1 : (ds.getD x1 0 == (m : Int)) = false := by simpa using c1
        rw [e0, e1] at hX; simp at hX
  have l0 : x0 < ds.length := by rw [h.len]; exact h0
  have l1 : x1 < (ds.set x0 (m : Int)).length := by rw [List.length_set, h.len]; exact h1
  refine ⟨by simp [h.len], fun j hj => ?_, ?_⟩
  · rw [getD_set l1, getD_set l0]
    by_cases e1 : j = x1
    · subst e1; rw [if_pos rfl]; exact .inl ⟨rfl, mid_new hO hs h hj hboth.2, hboth.2⟩
    · rw [if_neg e1]
      by_cases e0 : j = x0
      · subst e0; rw [if_pos rfl]; exact .inl ⟨rfl, mid_new hO hs h hj hboth.1, hboth.1⟩
      · rw [if_neg e0]; exact h.own j hj
  · rw [getD_set l1, getD_set l0]
    by_cases e1 : s = x1
    · rw [if_pos e1]
    · rw [if_neg e1]
      by_cases e0 : s = x0
      · rw [if_pos e0]
      · rw [if_neg e0]; exact h.start
theorem filter_lt {α : Type} {p q : α → Bool} : ∀ {L : List α}, (∀ a ∈ L, p a = true → q a = true) → (∃ a ∈ L, q a = true ∧ p a = false) → (L.filter p).length < (L.filter q).length
  | [], _, h => by obtain ⟨a, h, _⟩ := h; cases h
  | x :: L, h, hx => by
    have hle : (L.filter p).length ≤ (L.filter q).length := by
      have hi : ∀ a ∈ L, p a = true → q a = true := fun a ha => h a (List.mem_cons_of_mem _ ha)
      clear h hx
      induction L with
      | nil => simp
      | cons y L ih =>
        have h2 := ih fun a ha => hi a (List.mem_cons_of_mem _ ha)
        have h1 := hi y (List.mem_cons_self)
        simp only [List.filter_cons]
        cases hp : p y with
        | true => rw [h1 hp]; simpa using h2
        | false => cases q y <;> simp <;> omega
    simp only [List.filter_cons]
    obtain ⟨a, ha, hq, hp⟩ := hx
    rcases List.mem_cons.1 ha with rfl | ha
    · rw [hq, hp]; simp; omega
    · have := filter_lt (fun b hb => h b (List.mem_cons_of_mem _ hb)) ⟨a, ha, hq, hp⟩
      cases hpx : p x with
      | true => rw [h x List.mem_cons_self hpx]; simp; omega
      | false => cases q x <;> simp <;> omega
theorem cnt_grow {l : List (Int × Int)} {U : Nat → Bool} {n m s x0 x1 : Nat} {cs ds : List Int} (h : Mid l U n cs m s ds) (h0 : x0 < n) (h1 : x1 < n) (hX : (!((ds.getD x0 0 == (m : Int)) == (ds.getD x1 0 == (m : Int)))) = true) : cnt m n ((ds.set x0 (m : Int)).set x1 (m : Int)) < cnt m n ds := by
  have l0 : x0 < ds.length := by rw [h.len]; exact h0
  have l1 : x1 < (ds.set x0 (m : Int)).length := by rw [List.length_set, h.len]; exact h1
  have hg : ∀ j, ((ds.set x0 (m : Int)).set x1 (m : Int)).getD j 0 = if j = x1 then (m : Int) else if j = x0 then (m : Int) else ds.getD j 0 := fun j => by rw [getD_set l1, getD_set l0]
  refine filter_lt (fun a _ hp => ?_) ?_
  · rw [hg a] at hp
    by_cases e1 : a = x1
    · rw [if_pos e1] at hp; simp at hp
    · rw [if_neg e1] at hp
      by_cases e0 : a = x0
      · rw [if_pos e0] at hp; simp at hp
      · rw [if_neg e0] at hp; exact hp
  · by_cases c0 : ds.getD x0 0 = m
    · refine ⟨x1, List.mem_range.2 h1, ?_, ?_⟩
      · have e0 : (ds.getD x0 0 == (m : Int)) = true := by simpa using c0
        rw [e0] at hX
        simp at hX; simp; exact hX
      · rw [hg, if_pos rfl]; simp
    · refine ⟨x0, List.mem_range.2 h0, by simp; exact c0, ?_⟩
      rw [hg]; simp
theorem pass_grow {l : List (Int × Int)} {U : Nat → Bool} {n m s i : Nat} {cs ds cs2 : List Int} {g : Bool} (hP : (g = false → ds = cs2 ∧ Pass l U m ds i) ∧ (g = true → cnt m n ds < cnt m n cs2)) (h : Mid l U n cs m s ds) (vl : Valid n l) (hi : i < l.length) (hX : (!((ds.getD (l.getD i (0, 0)).1.toNat 0 == (m : Int)) == (ds.getD (l.getD i (0, 0)).2.toNat 0 == (m : Int)))) = true) {B : Prop} :
    (true = false → B) ∧ (true = true → cnt m n ((ds.set (l.getD i (0, 0)).1.toNat (m : Int)).set (l.getD i (0, 0)).2.toNat (m : Int)) < cnt m n cs2) := by
  refine ⟨fun h => absurd h (by decide), fun _ => ?_⟩
  have := cnt_grow h (vl i hi).2.1 (vl i hi).2.2.2 hX
  cases g with
  | true => exact Nat.lt_trans this (hP.2 rfl)
  | false => rw [(hP.1 rfl).1] at this ⊢; exact this
theorem con_closed {l : List (Int × Int)} {U : Nat → Bool} {m a b : Nat} {ds : List Int} (hp : Pass l U m ds l.length) (h : Con l U a b) (ha : ds.getD a 0 = m) : ds.getD b 0 = m := by
  induction h with
  | refl => exact ha
  | tail _ e ih =>
    obtain ⟨k, h1, h2, h3⟩ := e
    have := hp k h1 h2
    rcases h3 with h3 | h3 <;> rw [h3] at this <;> simp only [Int.toNat_natCast] at this
    · exact this.1 ih
    · exact this.2 ih
theorem outer_next {l : List (Int × Int)} {U : Nat → Bool} {n m s : Nat} {cs ds : List Int} (hO : Outer l U n cs m s) (hs : s < n) (h : Mid l U n cs m s ds) (hp : Pass l U m ds l.length) : Outer l U n ds (m + 1) (s + 1) := by
  have hst := h.start
  have K : ∀ j, Con l U s j → ds.getD j 0 = m := fun j hj => con_closed hp hj hst
  refine ⟨h.len, fun i hi => ?_, fun i hi hn => ?_, fun i j hi hj h0 => ?_, fun _ => ⟨s, Nat.lt_succ_self s, hs, by rw [hst]; omega⟩, fun i hi h0 => ?_, Nat.succ_le_succ hO.few⟩
  · rcases h.own i hi with ⟨h1, _⟩ | h1
    · rw [h1]; omega
    · rw [h1]; have := hO.rng i hi; omega
  · rcases Nat.lt_succ_iff_lt_or_eq.1 hi with h' | rfl
    · rcases h.own i hn with ⟨h1, _⟩ | h1
      · rw [h1]; omega
      · rw [h1]; exact hO.done i h' hn
    · rw [hst]; omega
  · by_cases hm : ds.getD i 0 = m
    · have ci := (mid_own hO h hi hm).2
      rw [hm]
      constructor
      · intro e; exact ci.symm.trans (mid_own hO h hj e.symm).2
      · intro c; exact (K j (ci.trans c)).symm
    · have hb : ds.getD i 0 = cs.getD i 0 := by
        rcases h.own i hi with ⟨h1, _⟩ | h1
        · exact absurd h1 hm
        · exact h1
      rw [hb] at h0 hm ⊢
      constructor
      · intro e
        rcases h.own j hj with ⟨h1, _⟩ | h1
        · exact absurd (e.trans h1) hm
        · exact (hO.cls i j hi hj h0).1 (e.trans h1)
      · intro c
        have e := (hO.cls i j hi hj h0).2 c
        rcases h.own j hj with ⟨_, h1, _⟩ | h1
        · omega
        · rw [h1]; exact e
  · by_cases hm : ds.getD i 0 = m
    · have hb := (mid_own hO h hi hm).1
      rw [hm] at h0 ⊢
      obtain ⟨j, h1, h2, h3⟩ := hO.last (by omega)
      have hsi : s ≤ i := by
        rcases Nat.lt_or_ge i s with h' | h'
        · have := hO.done i h' hi; omega
        · exact h'
      refine ⟨j, by omega, ?_⟩
      rcases h.own j h2 with ⟨_, h4, _⟩ | h4
      · omega
      · rw [h4]; exact h3
    · have hb : ds.getD i 0 = cs.getD i 0 := by
        rcases h.own i hi with ⟨h1, _⟩ | h1
        · exact absurd h1 hm
        · exact h1
      rw [hb] at h0 ⊢
      obtain ⟨j, h1, h2⟩ := hO.rgs i hi h0
      refine ⟨j, h1, ?_⟩
      rcases h.own j (by omega) with ⟨_, h4, _⟩ | h4
      · omega
      · rw [h4]; exact h2

theorem f55_ok (H : AH) (n : Nat) (lv uv : Value) (l : List (Int × Int)) (U : Nat → Bool) (hn : n ≤ 24) (hll : l.length ≤ 64) (hl : Sl H 2 lv (l.map pr)) (hv : ∀ i < l.length, ok13 n (l.getD i (0, 0)) = true) (hu : Used Try.prog H uv l.length U) : ∃ v H', ACalls Try.prog 55 [.int .i64 (n : Int), lv, uv] H v H' ∧ (fun v H' => (∃ (b' : Nat) (cs : List Int) (m : Nat), v = .slice (some ⟨b', 0, some 0⟩) n n ∧ H.next ≤ b' ∧ H'.get b' = some ⟨cs.map (Value.int .i64), 3, 1, true⟩ ∧ Outer l U n cs m n) ∧ Ext H H') v H' := by
  have he : ∀ i, i < l.length → (l.map pr)[i]? = some [.int .i64 (l.getD i (0,0)).1, .int .i64 (l.getD i (0,0)).2] := by
    intro i hi
    simp [hi, pr, List.getD_eq_getElem?_getD]
  have vl := valid_of hv
  refine calls_of_AW (n := 76) (fn := Try.f55) (by kernel_rfl) rfl rfl ?_
  refine .seq ?_
  refine .region ?_
  refine W.pure (v := _) rfl rfl (v_assign (oo rfl rfl)) ?_
  refine .nil ?_
  refine .seq ?_
  refine .region ?_
  refine W.buildSlice rfl rfl el24 ze3 sz3 (by kernel_rfl) (opndP_oo (by rfl) (by rfl)) (by rfl) fun b1 H2 nb3 => ?_
  have fr4 := Nat.le_trans ((Ext.refl _)).1 nb3.fresh
  have e5 := Ext.trans (Ext.refl _) nb3.ext
  have k6 := nb3.get
  refine W.pure (v := .int _ _) rfl rfl (v_move (oo rfl rfl)) ?_
  obtain ⟨_, H7, c8, ⟨bo, rfl, hbo, kbo⟩, x10⟩ := (f97_ok H2 (-1) n b1 _ hn k6 rfl)
  refine W.call rfl rfl (fn := Try.f97) (by kernel_rfl) rfl rfl c8 ?_
  have fr11 := Nat.le_trans (e5).1 hbo
  have ne12 := Nat.ne_of_lt (Nat.lt_of_lt_of_le (lt_next k6) hbo)
  have e13 := Ext.trans e5 x10
  have k14 := (x10).2 _ _ k6
  refine W.pure (v := .slice (some ⟨bo, 0, some 0⟩) n n) rfl rfl (v_assign (oo rfl rfl)) ?_
  refine .nil ?_
  refine .seq ?_
  refine .region ?_
  refine W.pure (v := .int _ _) rfl rfl (v_assign (oo rfl rfl)) ?_
  refine .nil ?_
  refine .seq ?_
  refine .seq ?_
  refine .region ?_
  refine W.pure (v := .int _ _) rfl rfl (v_move (oo rfl rfl)) ?_
  refine W.pure (v := .int _ _) rfl rfl (v_move (oo rfl rfl)) ?_
  refine .nil ?_
  refine .block ?_
  refine AW.loop (α := Nat × List Int × Nat) (fun (s, cs, m) σ' H' => (Ext H H') ∧ (σ' 19 = .int .i64 (s : Nat)) ∧ (σ' 8 = .int .i64 (m : Nat)) ∧ (H'.get bo = some ((⟨cs.map (Value.int .i64), 3, 1, true⟩ : ABlk))) ∧ (Outer l U n cs m s) ∧ (s ≤ n)) (fun (s, cs, m) => n - s) (0, List.replicate n (-1), 0) ⟨e13, rfl, rfl, (kbo.trans (by rw [List.map_replicate])), (outer_init l U n), (Nat.zero_le _)⟩ ?_
  rintro ⟨s, cs, m⟩ σ19 H20 fr21 ⟨e15, t19_16, t8_17, k18, hO, hsn⟩
  have h1_22 : σ19 1 = lv := (fr21 1 rfl).trans rfl
  have h2_23 : σ19 2 = uv := (fr21 2 rfl).trans rfl
  have h7_24 : σ19 7 = .slice (some ⟨bo, 0, some 0⟩) n n := (fr21 7 rfl).trans rfl
  have h18_25 : σ19 18 = _ := (fr21 18 rfl).trans rfl
  have h75_26 : σ19 75 = _ := (fr21 75 rfl).trans rfl
  have hcl := hO.len
  refine .seq ?_
  refine .region ?_
  refine W.pure rfl rfl (v_int (oo rfl t19_16) (oo rfl h18_25) rfl) ?_
  refine .nil ?_
  refine .seq ?_
  refine .cond rfl rfl (fun g27 => ?_) (fun g27 => ?_)
  · try simp only [decide_eq_true_eq, decide_eq_false_iff_not, beq_iff_eq, bne_iff_ne, beq_eq_false_iff_ne, bne_eq_false_iff_eq, List.length_map, gt_iff_lt, ge_iff_le, Int.not_lt, Int.not_le] at g27
    have hs : s < n := by omega
    have hml : m ≤ n := outer_m hO hsn
    refine .skip ?_
    refine .seq ?_
    refine .block ?_
    refine .seq ?_
    refine .region ?_
    refine W.pure (v := .int _ _) rfl rfl (v_move (oo rfl t19_16)) ?_
    refine W.pure (v := .int _ _) rfl rfl (v_assign (oo rfl rfl)) ?_
    refine .nil ?_
    refine .seq ?_
    refine .seq ?_
    refine .region ?_
    refine W.pure (v := .slice (some ⟨bo, 0, some 0⟩) n n) rfl rfl (v_move (oo rfl h7_24)) ?_
    refine W.pure (v := .int _ _) rfl rfl (v_move (oo rfl rfl)) ?_
    refine W.pure rfl rfl (v_idxN el24 sz3 (oo rfl rfl) (oo rfl rfl) (Or.inr ⟨_, _, _, _, rfl⟩) (by omega)) ?_
    refine W.load1 rfl rfl ag3 (Pt.int k18 (i := s) (by first | omega | (simp only [List.length_set]; omega))) ?_
    refine W.pure rfl rfl (v_int (oo rfl rfl) (oo rfl rfl) rfl) ?_
    refine .nil ?_
    refine .cond rfl rfl (fun g28 => ?_) (fun g28 => ?_)
    · try simp only [decide_eq_true_eq, decide_eq_false_iff_not, beq_iff_eq, bne_iff_ne, beq_eq_false_iff_ne, bne_eq_false_iff_eq, List.length_map, gt_iff_lt, ge_iff_le, Int.not_lt, Int.not_le] at g28
      refine .exit ?_
      refine .region ?_
      refine W.pure rfl rfl (v_inc (oo rfl t19_16) (by omega)) ?_
      refine W.pure (v := .int _ _) rfl rfl (v_move (oo rfl rfl)) ?_
      refine .nil ?_
      refine ⟨(s + 1, cs, m), by dsimp only; omega, e15, rfl, t8_17, k18, (outer_skip hO hs g28), (by omega)⟩
    · try simp only [decide_eq_true_eq, decide_eq_false_iff_not, beq_iff_eq, bne_iff_ne, beq_eq_false_iff_ne, bne_eq_false_iff_eq, List.length_map, gt_iff_lt, ge_iff_le, Int.not_lt, Int.not_le] at g28
      refine .skip ?_
      refine .seq ?_
      refine .region ?_
      refine W.pure (v := .slice (some ⟨bo, 0, some 0⟩) n n) rfl rfl (v_move (oo rfl h7_24)) ?_
      refine W.pure (v := .int _ _) rfl rfl (v_move (oo rfl rfl)) ?_
      refine W.pure (v := .int _ _) rfl rfl (v_move (oo rfl t8_17)) ?_
      refine W.pure rfl rfl (v_idxN el24 sz3 (oo rfl rfl) (oo rfl rfl) (Or.inr ⟨_, _, _, _, rfl⟩) (by omega)) ?_
      refine W.storeL (v := .int _ _) rfl rfl sz3 rfl rfl k18 rfl rfl rfl (by simp only [List.length_map]; omega)  fun H29 sb30 => ?_
      have e31 := sb30.ext e15 fr11
      have k32 := (sb30.get).trans (congrArg (fun c => some (⟨c, 3, 1, true⟩ : ABlk)) (splice_set (by first | omega | (simp only [List.length_set]; omega))))
      refine .nil ?_
      refine .seq ?_
      refine .seq ?_
      refine .region ?_
      refine W.pure (v := .bool _) rfl rfl (v_assign (oo rfl rfl)) ?_
      refine .nil ?_
      refine .block ?_
      refine AW.loop (α := List Int × Bool) (fun (cs2, gr) σ' H' => (Ext H H') ∧ (σ' 10 = .bool gr) ∧ (H'.get bo = some ((⟨cs2.map (Value.int .i64), 3, 1, true⟩ : ABlk))) ∧ (Mid l U n cs m s cs2) ∧ (gr = false → Pass l U m cs2 l.length)) (fun (cs2, gr) => 2 * cnt m n cs2 + gr.toNat) (cs.set s (m : Int), true) ⟨e31, rfl, k32, (mid_start hO hs (by omega)), (fun h => by cases h)⟩ ?_
      rintro ⟨cs2, gr⟩ σ36 H37 fr38 ⟨e33, t10_34, k35, hM, hC⟩
      have h1_39 : σ36 1 = lv := (fr38 1 rfl).trans h1_22
      have h2_40 : σ36 2 = uv := (fr38 2 rfl).trans h2_23
      have h7_41 : σ36 7 = .slice (some ⟨bo, 0, some 0⟩) n n := (fr38 7 rfl).trans h7_24
      have h8_42 : σ36 8 = _ := (fr38 8 rfl).trans t8_17
      have h19_43 : σ36 19 = _ := (fr38 19 rfl).trans t19_16
      have h72_44 : σ36 72 = _ := (fr38 72 rfl).trans rfl
      have h73_45 : σ36 73 = _ := (fr38 73 rfl).trans rfl
      have h74_46 : σ36 74 = _ := (fr38 74 rfl).trans rfl
      have h75_47 : σ36 75 = _ := (fr38 75 rfl).trans h75_26
      have hcl2 := hM.len
      refine .seq ?_
      refine .seq ?_
      refine .region ?_
      refine W.pure (v := .bool _) rfl rfl (v_move (oo rfl t10_34)) ?_
      refine .nil ?_
      refine .cond rfl rfl (fun g48 => ?_) (fun g48 => ?_)
      · try simp only [decide_eq_true_eq, decide_eq_false_iff_not, beq_iff_eq, bne_iff_ne, beq_eq_false_iff_ne, bne_eq_false_iff_eq, List.length_map, gt_iff_lt, ge_iff_le, Int.not_lt, Int.not_le] at g48
        have hgr := g48
        refine .skip ?_
        refine .block ?_
        refine .seq ?_
        refine .region ?_
        refine W.pure (v := .bool _) rfl rfl (v_assign (oo rfl rfl)) ?_
        refine .nil ?_
        refine .seq ?_
        refine .region ?_
        refine W.pure (v := lv) rfl rfl (v_move (oo rfl h1_39)) ?_
        refine W.pure rfl rfl (len_sl (oo rfl rfl) (Sl.isSl (hl.ext e33)) (elemT_inv el22)) ?_
        refine W.pure (v := .int _ _) rfl rfl (v_move (oo rfl rfl)) ?_
        refine .nil ?_
        refine .block ?_
        refine AW.loop (α := Nat × List Int × Bool) (fun (i, ds, gr3) σ' H' => (Ext H H') ∧ (σ' 34 = .int .i64 (i : Nat)) ∧ (σ' 10 = .bool gr3) ∧ (H'.get bo = some ((⟨ds.map (Value.int .i64), 3, 1, true⟩ : ABlk))) ∧ (Mid l U n cs m s ds) ∧ ((gr3 = false → ds = cs2 ∧ Pass l U m ds i) ∧ (gr3 = true → cnt m n ds < cnt m n cs2)) ∧ (i ≤ l.length)) (fun (i, ds, gr3) => l.length - i) (0, cs2, false) ⟨e33, rfl, rfl, k35, hM, ⟨fun _ => ⟨rfl, pass_0 l U m cs2⟩, fun h => by cases h⟩, (Nat.zero_le _)⟩ ?_
        rintro ⟨i, ds, gr3⟩ σ53 H54 fr55 ⟨e49, t34_50, t10_51, k52, hM3, hP, hil⟩
        have h2_56 : σ53 2 = uv := (fr55 2 rfl).trans h2_40
        have h7_57 : σ53 7 = .slice (some ⟨bo, 0, some 0⟩) n n := (fr55 7 rfl).trans h7_41
        have h8_58 : σ53 8 = _ := (fr55 8 rfl).trans h8_42
        have h19_59 : σ53 19 = _ := (fr55 19 rfl).trans h19_43
        have h32_60 : σ53 32 = lv := (fr55 32 rfl).trans rfl
        have h33_61 : σ53 33 = _ := (fr55 33 rfl).trans rfl
        have h72_62 : σ53 72 = _ := (fr55 72 rfl).trans h72_44
        have h73_63 : σ53 73 = _ := (fr55 73 rfl).trans h73_45
        have h74_64 : σ53 74 = _ := (fr55 74 rfl).trans h74_46
        have h75_65 : σ53 75 = _ := (fr55 75 rfl).trans h75_47
        have hcl3 := hM3.len
        refine .seq ?_
        refine .region ?_
        refine W.pure rfl rfl (v_int (oo rfl t34_50) (oo rfl h33_61) rfl) ?_
        refine .nil ?_
        refine .seq ?_
        refine .cond rfl rfl (fun g66 => ?_) (fun g66 => ?_)
        · try simp only [decide_eq_true_eq, decide_eq_false_iff_not, beq_iff_eq, bne_iff_ne, beq_eq_false_iff_ne, bne_eq_false_iff_eq, List.length_map, gt_iff_lt, ge_iff_le, Int.not_lt, Int.not_le] at g66
          have hi : i < l.length := by omega
          refine .skip ?_
          refine .seq ?_
          refine .block ?_
          refine .seq ?_
          refine .region ?_
          refine W.pure (v := .int _ _) rfl rfl (v_move (oo rfl t34_50)) ?_
          refine W.pure rfl rfl (v_idxN el22 sz29 (oo rfl h32_60) (oo rfl t34_50) (Sl.isSl (hl.ext e49)) (by simpa using hi)) ?_
          refine W.loadA rfl rfl ag29 sz29 (Sl.idx (hl.ext e49) (he i hi)) rfl ?_
          refine W.alloc rfl rfl ze29 (by kernel_rfl) fun b67 H68 nb69 => ?_
          have fr70 := Nat.le_trans (e49).1 nb69.fresh
          have ne71 := nb69.ne k52
          have e72 := Ext.trans e49 nb69.ext
          have k73 := (nb69.ext).2 _ _ k52
          have k74 := nb69.get
          refine W.pure (v := .int _ _) rfl rfl (v_assign (oo rfl rfl)) ?_
          refine W.storeL (v := .agg _) rfl rfl sz29 rfl rfl k74 rfl rfl rfl (Nat.le_of_ble_eq_true rfl)  fun H75 sb76 => ?_
          have e77 := sb76.ext e72 fr70
          have k78 := sb76.old k73 ne71
          have k79 := sb76.get
          refine .nil ?_
          refine .seq ?_
          refine .draw (M := [0, 0, 2, 7, 15, 0, 63, 0, 0, 256, 896, 1920, 0, 8064, 127, 32767]) mixed (by kernel_rfl) (by kernel_rfl) fun H80 x81 => ?_
          have e82 := Ext.trans e77 x81
          have k83 := (x81).2 _ _ k78
          have k84 := (x81).2 _ _ k79
          refine D.pure (v := .slice (some ⟨bo, 0, some 0⟩) n n) rfl rfl (v_move (oo rfl h7_57)) ?_
          refine D.pure rfl rfl (v_idxA ar29 sz3 (oo rfl rfl) (oo rfl rfl) (Pt.loc k84) (by decide) (by decide)) ?_
          refine D.load1 rfl rfl ag3 (Pt.sub (Pt.loc k84) 0 1 rfl) RS.nil fa_nil fun rs85 => ?_
          refine D.pure rfl rfl (v_idx el24 sz3 (oo rfl rfl) (oo rfl rfl) (Or.inr ⟨_, _, _, _, rfl⟩) (vl i hi).1 (vl i hi).2.1) ?_
          refine D.load1 rfl rfl ag3 (Pt.int k83 (i := (l.getD i (0, 0)).1.toNat) (by have := (vl i hi).2.1; omega)) rs85 fa_nil fun rs86 => ?_
          refine D.pure (v := .int _ _) rfl rfl (v_move (oo rfl h8_58)) ?_
          refine D.pure rfl rfl (v_int (oo rfl rfl) (oo rfl rfl) rfl) ?_
          refine D.pure (v := .slice (some ⟨bo, 0, some 0⟩) n n) rfl rfl (v_move (oo rfl h7_57)) ?_
          refine D.pure rfl rfl (v_idxA ar29 sz3 (oo rfl rfl) (oo rfl rfl) (Pt.loc k84) (by decide) (by decide)) ?_
          refine D.load1 rfl rfl ag3 (Pt.sub (Pt.loc k84) 1 1 rfl) rs86 fa_nil fun rs87 => ?_
          refine D.pure rfl rfl (v_idx el24 sz3 (oo rfl rfl) (oo rfl rfl) (Or.inr ⟨_, _, _, _, rfl⟩) (vl i hi).2.2.1 (vl i hi).2.2.2) ?_
          refine D.load1 rfl rfl ag3 (Pt.int k83 (i := (l.getD i (0, 0)).2.toNat) (by have := (vl i hi).2.2.2; omega)) rs87 fa_nil fun rs88 => ?_
          refine D.pure (v := .int _ _) rfl rfl (v_move (oo rfl h8_58)) ?_
          refine D.pure rfl rfl (v_int (oo rfl rfl) (oo rfl rfl) rfl) ?_
          refine D.pure (v := .bool _) rfl rfl (v_assign (oo rfl rfl)) ?_
          refine D.pure (v := .bool _) rfl rfl (v_assign (oo rfl rfl)) ?_
          refine .nil ?_
          refine .seq ?_
          refine .region ?_
          refine W.pure (v := .bool _) rfl rfl (v_move (oo rfl rfl)) ?_
          refine W.pure (v := .bool _) rfl rfl (v_move (oo rfl rfl)) ?_
          refine W.pure rfl rfl (bool_neq (oo rfl rfl) (oo rfl rfl) un4) ?_
          refine W.pure (v := .bool _) rfl rfl (v_move (oo rfl rfl)) ?_
          refine W.splitAt (t := 56) rfl (fun g89 gv90 => ?_) (fun g89 gv90 => ?_)
          · try simp only [decide_eq_true_eq, decide_eq_false_iff_not, beq_iff_eq, bne_iff_ne, beq_eq_false_iff_ne, bne_eq_false_iff_eq, List.length_map, gt_iff_lt, ge_iff_le, Int.not_lt, Int.not_le] at g89
            refine W.pure (v := uv) (gk rfl rfl gv90 rfl) rfl (v_move (oo rfl h2_56)) ?_
            refine W.pure (v := .int _ _) (gk rfl rfl gv90 rfl) rfl (v_move (oo rfl rfl)) ?_
            refine W.callU (k := i) (gk rfl rfl gv90 rfl) rfl (hu.ext e82) (Ext.refl _) rfl hi fun H91 x92 => ?_
            have e93 := Ext.trans e82 x92
            have k94 := (x92).2 _ _ k83
            have k95 := (x92).2 _ _ k84
            refine W.pure (v := .bool _) rfl rfl (v_pickT (oo rfl gv90) (oo rfl rfl)) ?_
            refine .nil ?_
            refine .cond rfl rfl (fun g96 => ?_) (fun g96 => ?_)
            · try simp only [decide_eq_true_eq, decide_eq_false_iff_not, beq_iff_eq, bne_iff_ne, beq_eq_false_iff_ne, bne_eq_false_iff_eq, List.length_map, gt_iff_lt, ge_iff_le, Int.not_lt, Int.not_le] at g96
              refine .draw (M := [0, 0, 2, 0, 0, 16, 0, 0, 71, 327, 1023, 2047, 4095]) mixed (by kernel_rfl) (by kernel_rfl) fun H97 x98 => ?_
              have e99 := Ext.trans e93 x98
              have k100 := (x98).2 _ _ k94
              have k101 := (x98).2 _ _ k95
              refine D.pure (v := .slice (some ⟨bo, 0, some 0⟩) n n) rfl rfl (v_move (oo rfl h7_57)) ?_
              refine D.pure rfl rfl (v_idxA ar29 sz3 (oo rfl rfl) (oo rfl rfl) (Pt.loc k101) (by decide) (by decide)) ?_
              refine D.load1 rfl rfl ag3 (Pt.sub (Pt.loc k101) 0 1 rfl) RS.nil fa_nil fun rs102 => ?_
              refine D.pure (v := .slice (some ⟨bo, 0, some 0⟩) n n) rfl rfl (v_move (oo rfl h7_57)) ?_
              refine D.pure rfl rfl (v_idxA ar29 sz3 (oo rfl rfl) (oo rfl rfl) (Pt.loc k101) (by decide) (by decide)) ?_
              refine D.load1 rfl rfl ag3 (Pt.sub (Pt.loc k101) 1 1 rfl) rs102 fa_nil fun rs103 => ?_
              refine D.pure (v := .int _ _) rfl rfl (v_move (oo rfl h8_58)) ?_
              refine D.pure (v := .int _ _) rfl rfl (v_move (oo rfl h8_58)) ?_
              refine D.pure rfl rfl (v_idx el24 sz3 (oo rfl rfl) (oo rfl rfl) (Or.inr ⟨_, _, _, _, rfl⟩) (vl i hi).1 (vl i hi).2.1) ?_
              refine D.store (v := .int _ _) rfl rfl sz3 rfl rfl k100 rfl rfl rfl (by have := (vl i hi).2.1; simp only [List.length_map]; omega) rs103 (faR_ne (Ne.symm ne71) (faR_bit (by decide) fa_nil)) fa_nil fun H104 sb105 rs106 => ?_
              have e107 := sb105.ext e99 fr11
              have k108 := (sb105.get).trans (congrArg (fun c => some (⟨c, 3, 1, true⟩ : ABlk)) (splice_set (by have := (vl i hi).2.1; omega)))
              have k109 := sb105.old k101 (Ne.symm ne71)
              refine D.pure rfl rfl (v_idx el24 sz3 (oo rfl rfl) (oo rfl rfl) (Or.inr ⟨_, _, _, _, rfl⟩) (vl i hi).2.2.1 (vl i hi).2.2.2) ?_
              refine D.store (v := .int _ _) rfl rfl sz3 rfl rfl k108 rfl rfl rfl (by have := (vl i hi).2.2.2; simp only [List.length_map, List.length_set]; omega) rs106 (faR_bit (by decide) (faR_bit (by decide) fa_nil)) (faL_bit (by decide) fa_nil) fun H110 sb111 rs112 => ?_
              have e113 := sb111.ext e107 fr11
              have k114 := (sb111.get).trans (congrArg (fun c => some (⟨c, 3, 1, true⟩ : ABlk)) (splice_set (by have := (vl i hi).2.2.2; simp only [List.length_set]; omega)))
              have k115 := sb111.old k109 (Ne.symm ne71)
              refine D.pure (v := .bool _) rfl rfl (v_assign (oo rfl rfl)) ?_
              refine .nil ?_
              refine .region ?_
              refine W.pure rfl rfl (v_inc (oo rfl t34_50) (by omega)) ?_
              refine W.pure (v := .int _ _) rfl rfl (v_move (oo rfl rfl)) ?_
              refine .nil ?_
              refine ⟨(i + 1, (ds.set (l.getD i (0, 0)).1.toNat (m : Int)).set (l.getD i (0, 0)).2.toNat (m : Int), true), by dsimp only; omega, e113, rfl, rfl, k114, (mid_step hO hs hM3 vl hi g96 g89), (pass_grow hP hM3 vl hi g89), (by omega)⟩
            · try simp only [decide_eq_true_eq, decide_eq_false_iff_not, beq_iff_eq, bne_iff_ne, beq_eq_false_iff_ne, bne_eq_false_iff_eq, List.length_map, gt_iff_lt, ge_iff_le, Int.not_lt, Int.not_le] at g96
              refine .skip ?_
              refine .region ?_
              refine W.pure rfl rfl (v_inc (oo rfl t34_50) (by omega)) ?_
              refine W.pure (v := .int _ _) rfl rfl (v_move (oo rfl rfl)) ?_
              refine .nil ?_
              refine ⟨(i + 1, ds, gr3), by dsimp only; omega, e93, rfl, t10_51, k94, hM3, (pass_same hP (fun h => absurd h (by rw [g96]; decide))), (by omega)⟩
          · try simp only [decide_eq_true_eq, decide_eq_false_iff_not, beq_iff_eq, bne_iff_ne, beq_eq_false_iff_ne, bne_eq_false_iff_eq, List.length_map, gt_iff_lt, ge_iff_le, Int.not_lt, Int.not_le] at g89
            refine W.skip (gk rfl rfl gv90 rfl) rfl ?_
            refine W.skip (gk rfl rfl gv90 rfl) rfl ?_
            refine W.skip (gk rfl rfl gv90 rfl) rfl ?_
            refine W.pure (v := .bool _) rfl rfl (v_pickF (oo rfl gv90) (oo rfl rfl)) ?_
            refine .nil ?_
            refine .condF rfl rfl ?_
            refine .skip ?_
            refine .region ?_
            refine W.pure rfl rfl (v_inc (oo rfl t34_50) (by omega)) ?_
            refine W.pure (v := .int _ _) rfl rfl (v_move (oo rfl rfl)) ?_
            refine .nil ?_
            refine ⟨(i + 1, ds, gr3), by dsimp only; omega, e82, rfl, t10_51, k83, hM3, (pass_same hP (fun _ => beq_same g89)), (by omega)⟩
        · try simp only [decide_eq_true_eq, decide_eq_false_iff_not, beq_iff_eq, bne_iff_ne, beq_eq_false_iff_ne, bne_eq_false_iff_eq, List.length_map, gt_iff_lt, ge_iff_le, Int.not_lt, Int.not_le] at g66
          refine .exit ?_
          refine ⟨(ds, gr3), meas_lt hP hgr, e49, t10_51, k52, hM3, (pass_end hP.1 (by omega))⟩
      · try simp only [decide_eq_true_eq, decide_eq_false_iff_not, beq_iff_eq, bne_iff_ne, beq_eq_false_iff_ne, bne_eq_false_iff_eq, List.length_map, gt_iff_lt, ge_iff_le, Int.not_lt, Int.not_le] at g48
        refine .exit ?_
        refine .region ?_
        refine W.pure (v := .int _ _) rfl rfl (v_move (oo rfl h8_42)) ?_
        refine W.pure rfl rfl (v_inc (oo rfl rfl) (by omega)) ?_
        refine W.pure (v := .int _ _) rfl rfl (v_assign (oo rfl rfl)) ?_
        refine .nil ?_
        refine .region ?_
        refine W.pure rfl rfl (v_inc (oo rfl h19_43) (by omega)) ?_
        refine W.pure (v := .int _ _) rfl rfl (v_move (oo rfl rfl)) ?_
        refine .nil ?_
        refine ⟨(s + 1, cs2, m + 1), by dsimp only; omega, e33, rfl, rfl, k35, (outer_next hO hs hM (hC g48)), (by omega)⟩
  · try simp only [decide_eq_true_eq, decide_eq_false_iff_not, beq_iff_eq, bne_iff_ne, beq_eq_false_iff_ne, bne_eq_false_iff_eq, List.length_map, gt_iff_lt, ge_iff_le, Int.not_lt, Int.not_le] at g27
    refine .exit ?_
    refine .seq ?_
    refine .region ?_
    refine W.pure (v := .slice (some ⟨bo, 0, some 0⟩) n n) rfl rfl (v_move (oo rfl h7_24)) ?_
    refine W.pure (v := .slice (some ⟨bo, 0, some 0⟩) n n) rfl rfl (v_assign (oo rfl rfl)) ?_
    refine .nil ?_
    refine .ret ?_
    refine ret1V (P := Try.prog) (fn := Try.f55) (n := 76) (R := fun v H' => (∃ (b' : Nat) (cs : List Int) (m : Nat), v = .slice (some ⟨b', 0, some 0⟩) n n ∧ H.next ≤ b' ∧ H'.get b' = some ⟨cs.map (Value.int .i64), 3, 1, true⟩ ∧ Outer l U n cs m n) ∧ Ext H H') (v := .slice (some ⟨bo, 0, some 0⟩) n n) (by rfl) (by rfl) (by exact rfl) ?_
    -- leaf 1
    have hsn2 : s = n := by omega
    subst hsn2
    exact ⟨⟨_, cs, m, rfl, fr11, k18, hO⟩, e15⟩
end Go.Am.Try
