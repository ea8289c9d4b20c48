/- Walk: Numbers. -/
import Derived.Test.YtlcdhgcfamjioaaWg6
namespace Go.Am.Try
open Go Go.Am Go.Proofs
set_option linter.unusedVariables false
set_option linter.unusedSimpArgs false
structure EqvOn (M : Nat → Nat → Bool) (n : Nat) : Prop where
  refl : ∀ a < n, M a a = true
  symm : ∀ a b, a < n → b < n → M a b = true → M b a = true
  trans : ∀ a b c, a < n → b < n → c < n → M a b = true → M b c = true → M a c = true
structure NumOk (M : Nat → Nat → Bool) (cs : List Int) (m i : Nat) : Prop where
  len : cs.length = i
  rng : ∀ a < i, 0 ≤ cs.getD a 0 ∧ cs.getD a 0 < m
  cls : ∀ a b, a < i → b < i → (cs.getD a 0 = cs.getD b 0 ↔ M a b = true)
  last : 0 < m → ∃ a < i, cs.getD a 0 = (m : Int) - 1
  rgs : ∀ a < i, 0 < cs.getD a 0 → ∃ b < a, cs.getD b 0 = cs.getD a 0 - 1
  few : m ≤ i
def AtOk (M : Nat → Nat → Bool) (cs : List Int) (i k : Nat) (at_ : Int) : Prop := (at_ = -1 ∧ ∀ j < k, M i j = false) ∨ ∃ j < k, M i j = true ∧ at_ = cs.getD j 0
theorem range_at {α : Type} {n i : Nat} (f : Nat → α) (h : i < n) : ((List.range n).map f)[i]? = some (f i) := by simp [h]
theorem ints_at {cs : List Int} {k : Nat} (h : k < cs.length) : (cs.map fun c => [Value.int .i64 c])[k]? = some [.int .i64 (cs.getD k 0)] := by simp [h, List.getD_eq_getElem?_getD]
theorem map_snoc {cs : List Int} {x : Int} : (cs ++ [x]).map (fun c => [Value.int .i64 c]) = cs.map (fun c => [Value.int .i64 c]) ++ [[.int .i64 x]] := by simp
theorem num_0 (M : Nat → Nat → Bool) : NumOk M [] 0 0 := ⟨rfl, fun a h => by omega, fun a b h => by omega, fun h => by omega, fun a h => by omega, Nat.le_refl _⟩
theorem at_0 (M : Nat → Nat → Bool) (cs : List Int) (i : Nat) : AtOk M cs i 0 (-1) := .inl ⟨rfl, fun j h => by omega⟩
theorem at_yes {M : Nat → Nat → Bool} {cs : List Int} {i k : Nat} {at_ : Int} (h : AtOk M cs i k at_) (hk : k < i) (h0 : at_ < 0) (hm : M i k = true) : AtOk M cs i (k + 1) (cs.getD k 0) := .inr ⟨k, Nat.lt_succ_self k, hm, rfl⟩
theorem at_no1 {M : Nat → Nat → Bool} {cs : List Int} {i k : Nat} {at_ : Int} (h : AtOk M cs i k at_) (hm : M i k = false) : AtOk M cs i (k + 1) at_ := by
  rcases h with ⟨h1, h2⟩ | ⟨j, h1, h2⟩
  · refine .inl ⟨h1, fun j hj => ?_⟩
    rcases Nat.lt_succ_iff_lt_or_eq.1 hj with h' | rfl
    · exact h2 j h'
    · exact hm
  · exact .inr ⟨j, Nat.lt_succ_of_lt h1, h2⟩
theorem at_no2 {M : Nat → Nat → Bool} {cs : List Int} {i k : Nat} {at_ : Int} (h : AtOk M cs i k at_) (hm : 0 ≤ at_) : AtOk M cs i (k + 1) at_ := by
  rcases h with ⟨h1, h2⟩ | ⟨j, h1, h2⟩
  · omega
  · exact .inr ⟨j, Nat.lt_succ_of_lt h1, h2⟩
theorem getD_app {cs : List Int} {x : Int} {a i : Nat} (hl : cs.length = i) (ha : a ≤ i) : (cs ++ [x]).getD a 0 = if a = i then x else cs.getD a 0 := by
  rw [List.getD_eq_getElem?_getD, List.getElem?_append]
  by_cases e : a = i
  · subst e; simp [hl]
  · rw [if_pos (by omega), if_neg e, List.getD_eq_getElem?_getD]
theorem num_new {M : Nat → Nat → Bool} {cs : List Int} {m i n k : Nat} {at_ : Int} (hM : EqvOn M n) (h : NumOk M cs m i) (hi : i < n) (hA : AtOk M cs i k at_) (hk : k = i) (h0 : at_ < 0) : NumOk M (cs ++ [(m : Int)]) (m + 1) (i + 1) := by
  subst hk
  have hno : ∀ j < k, M k j = false := by
    rcases hA with ⟨_, h2⟩ | ⟨j, h1, _, h3⟩
    · exact h2
    · have := h.rng j h1; omega
  have g := fun a (ha : a ≤ k) => getD_app (x := (m : Int)) h.len ha
  refine ⟨by simp [h.len], fun a ha => ?_, fun a b ha hb => ?_, fun _ => ⟨k, Nat.lt_succ_self k, by rw [g k (Nat.le_refl _), if_pos rfl]; omega⟩, fun a ha h1 => ?_, Nat.succ_le_succ h.few⟩
  · rw [g a (by omega)]
    by_cases e : a = k
    · rw [if_pos e]; omega
    · rw [if_neg e]; have := h.rng a (by omega); omega
  · rw [g a (by omega), g b (by omega)]
    by_cases ea : a = k
    · rw [if_pos ea]
      by_cases eb : b = k
      · rw [if_pos eb, ea, eb]; simp [hM.refl k hi]
      · rw [if_neg eb]
        have := h.rng b (by omega)
        rw [ea, hno b (by omega)]
        exact ⟨fun e => by omega, fun e => by cases e⟩
    · rw [if_neg ea]
      by_cases eb : b = k
      · rw [if_pos eb]
        have := h.rng a (by omega)
        have hn : M a b ≠ true := fun e => by
          rw [eb] at e
          have := hM.symm a k (by omega) hi e
          rw [hno a (by omega)] at this; cases this
        constructor
        · intro e; omega
        · intro e; exact absurd e hn
      · rw [if_neg eb]; exact h.cls a b (by omega) (by omega)
  · rw [g a (by omega)] at h1 ⊢
    by_cases e : a = k
    · rw [if_pos e] at h1 ⊢
      obtain ⟨b, hb1, hb2⟩ := h.last (by omega)
      exact ⟨b, by omega, by rw [g b (by omega), if_neg (by omega)]; exact hb2⟩
    · rw [if_neg e] at h1 ⊢
      obtain ⟨b, hb1, hb2⟩ := h.rgs a (by omega) h1
      exact ⟨b, hb1, by rw [g b (by omega), if_neg (by omega)]; exact hb2⟩
theorem num_old {M : Nat → Nat → Bool} {cs : List Int} {m i n k : Nat} {at_ : Int} (hM : EqvOn M n) (h : NumOk M cs m i) (hi : i < n) (hA : AtOk M cs i k at_) (hk : k = i) (h0 : 0 ≤ at_) : NumOk M (cs ++ [at_]) m (i + 1) := by
  subst hk
  obtain ⟨j, hj, hm, hat⟩ : ∃ j < k, M k j = true ∧ at_ = cs.getD j 0 := by
    rcases hA with ⟨h1, _⟩ | h1
    · omega
    · exact h1
  have g := fun a (ha : a ≤ k) => getD_app (x := at_) h.len ha
  have hrj := h.rng j hj
  refine ⟨by simp [h.len], fun a ha => ?_, fun a b ha hb => ?_, fun h1 => ?_, fun a ha h1 => ?_, Nat.le_succ_of_le h.few⟩
  · rw [g a (by omega)]
    by_cases e : a = k
    · rw [if_pos e]; omega
    · rw [if_neg e]; exact h.rng a (by omega)
  · rw [g a (by omega), g b (by omega)]
    by_cases ea : a = k
    · rw [if_pos ea]
      by_cases eb : b = k
      · rw [if_pos eb, ea, eb]; simp [hM.refl k hi]
      · rw [if_neg eb, hat, h.cls j b hj (by omega), ea]
        exact ⟨fun e => hM.trans k j b hi (by omega) (by omega) hm e, fun e => hM.trans j k b (by omega) hi (by omega) (hM.symm k j hi (by omega) hm) e⟩
    · rw [if_neg ea]
      by_cases eb : b = k
      · rw [if_pos eb, hat, h.cls a j (by omega) hj, eb]
        exact ⟨fun e => hM.trans a j k (by omega) (by omega) hi e (hM.symm k j hi (by omega) hm), fun e => hM.trans a k j (by omega) hi (by omega) e hm⟩
      · rw [if_neg eb]; exact h.cls a b (by omega) (by omega)
  · obtain ⟨b, hb1, hb2⟩ := h.last h1
    exact ⟨b, by omega, by rw [g b (by omega), if_neg (by omega)]; exact hb2⟩
  · rw [g a (by omega)] at h1 ⊢
    by_cases e : a = k
    · rw [if_pos e] at h1 ⊢
      obtain ⟨b, hb1, hb2⟩ := h.rgs j hj (by omega)
      exact ⟨b, by omega, by rw [g b (by omega), if_neg (by omega)]; omega⟩
    · rw [if_neg e] at h1 ⊢
      obtain ⟨b, hb1, hb2⟩ := h.rgs a (by omega) h1
      exact ⟨b, hb1, by rw [g b (by omega), if_neg (by omega)]; exact hb2⟩

theorem f17_ok (H : AH) (n : Nat) (jv : Value) (rv : Nat → Value) (M : Nat → Nat → Bool) (hn : n ≤ 24) (hM : EqvOn M n) (hj : Sl H 1 jv ((List.range n).map fun i => [rv i])) (hr : ∀ i < n, Sl H 1 (rv i) ((List.range n).map fun k => [Value.bool (M i k)])) : ∃ v H', ACalls Try.prog 17 [jv] H v H' ∧ (fun v H' => (∃ (cs : List Int) (m : Nat), Sl H' 1 v (cs.map fun c => [Value.int .i64 c]) ∧ NumOk M cs m n) ∧ Ext H H') v H' := by
  refine calls_of_AW (n := 44) (fn := Try.f17) (by kernel_rfl) rfl rfl ?_
  refine .seq ?_
  refine .region ?_
  refine W.pure (v := _) rfl rfl (v_assign (oo rfl rfl)) ?_
  refine .nil ?_
  refine .seq ?_
  refine .region ?_
  refine W.pure (v := _) rfl rfl (v_assign (oo rfl rfl)) ?_
  refine .nil ?_
  refine .seq ?_
  refine .region ?_
  refine W.pure (v := .int _ _) rfl rfl (v_assign (oo rfl rfl)) ?_
  refine .nil ?_
  refine .seq ?_
  refine .seq ?_
  refine .region ?_
  refine W.pure (v := jv) rfl rfl (v_move (oo rfl rfl)) ?_
  refine W.pure rfl rfl (len_sl (oo rfl rfl) (Sl.isSl (hj.ext (Ext.refl _))) (elemT_inv el31)) ?_
  refine W.pure (v := .int _ _) rfl rfl (v_move (oo rfl rfl)) ?_
  refine .nil ?_
  refine .block ?_
  refine AW.loop (α := Nat × Nat × List Int × Value) (fun (i, m, cs, bv) σ' H' => (Ext H H') ∧ (σ' 10 = .int .i64 (i : Nat)) ∧ (σ' 4 = .int .i64 (m : Nat)) ∧ (σ' 3 = bv) ∧ (Bld H' H.next 3 1 bv (cs.map fun c => [Value.int .i64 c])) ∧ (NumOk M cs m i) ∧ (i ≤ n)) (fun (i, m, cs, bv) => n - i) (0, 0, [], .slice none 0 0) ⟨(Ext.refl _), rfl, rfl, rfl, (Bld.nil _ _ _ _), (num_0 M), (Nat.zero_le _)⟩ ?_
  rintro ⟨i, m, cs, bv⟩ σ6 H7 fr8 ⟨e1, t10_2, t4_3, t3_4, bd5, hN, hin⟩
  have h0_9 : σ6 0 = jv := (fr8 0 rfl).trans rfl
  have h9_10 : σ6 9 = _ := (fr8 9 rfl).trans rfl
  have h43_11 : σ6 43 = _ := (fr8 43 rfl).trans rfl
  have hcl := hN.len
  have hmi := hN.few
  refine .seq ?_
  refine .region ?_
  refine W.pure rfl rfl (v_int (oo rfl t10_2) (oo rfl h9_10) rfl) ?_
  refine .nil ?_
  refine .seq ?_
  refine .cond rfl rfl (fun g12 => ?_) (fun g12 => ?_)
  · try simp only [decide_eq_true_eq, decide_eq_false_iff_not, beq_iff_eq, bne_iff_ne, beq_eq_false_iff_ne, bne_eq_false_iff_eq, List.length_map, gt_iff_lt, ge_iff_le, Int.not_lt, Int.not_le] at g12
    have hi : i < n := by simpa using g12
    refine .skip ?_
    refine .seq ?_
    refine .block ?_
    refine .seq ?_
    refine .region ?_
    refine W.pure (v := .int _ _) rfl rfl (v_move (oo rfl t10_2)) ?_
    refine W.pure (v := .int _ _) rfl rfl (v_assign (oo rfl rfl)) ?_
    refine .nil ?_
    refine .seq ?_
    refine .region ?_
    refine W.pure (v := .int _ _) rfl rfl (v_assign (oo rfl rfl)) ?_
    refine .nil ?_
    refine .seq ?_
    refine .seq ?_
    refine .region ?_
    refine W.pure (v := .int _ _) rfl rfl (v_move (oo rfl rfl)) ?_
    refine W.pure (v := .int _ _) rfl rfl (v_move (oo rfl rfl)) ?_
    refine .nil ?_
    refine .block ?_
    refine AW.loop (α := Nat × Int) (fun (k, at_) σ' H' => (Ext H H') ∧ (σ' 14 = .int .i64 (k : Nat)) ∧ (σ' 6 = .int .i64 at_) ∧ (σ' 3 = bv) ∧ (Bld H' H.next 3 1 bv (cs.map fun c => [Value.int .i64 c])) ∧ (AtOk M cs i k at_) ∧ (k ≤ i)) (fun (k, at_) => i - k) (0, -1) ⟨e1, rfl, rfl, t3_4, bd5, (at_0 M cs i), (Nat.zero_le _)⟩ ?_
    rintro ⟨k, at_⟩ σ18 H19 fr20 ⟨e13, t14_14, t6_15, t3_16, bd17, hA, hki⟩
    have h0_21 : σ18 0 = jv := (fr20 0 rfl).trans h0_9
    have h3_22 : σ18 3 = bv := (fr20 3 rfl).trans t3_4
    have h4_23 : σ18 4 = _ := (fr20 4 rfl).trans t4_3
    have h5_24 : σ18 5 = _ := (fr20 5 rfl).trans rfl
    have h10_25 : σ18 10 = _ := (fr20 10 rfl).trans t10_2
    have h13_26 : σ18 13 = _ := (fr20 13 rfl).trans rfl
    have h33_27 : σ18 33 = _ := (fr20 33 rfl).trans rfl
    have h34_28 : σ18 34 = _ := (fr20 34 rfl).trans rfl
    have h35_29 : σ18 35 = _ := (fr20 35 rfl).trans rfl
    have h36_30 : σ18 36 = _ := (fr20 36 rfl).trans rfl
    have h37_31 : σ18 37 = _ := (fr20 37 rfl).trans rfl
    have h38_32 : σ18 38 = _ := (fr20 38 rfl).trans rfl
    have h39_33 : σ18 39 = _ := (fr20 39 rfl).trans rfl
    have h40_34 : σ18 40 = _ := (fr20 40 rfl).trans rfl
    have h41_35 : σ18 41 = _ := (fr20 41 rfl).trans rfl
    have h42_36 : σ18 42 = _ := (fr20 42 rfl).trans rfl
    have h43_37 : σ18 43 = _ := (fr20 43 rfl).trans h43_11
    refine .seq ?_
    refine .region ?_
    refine W.pure rfl rfl (v_int (oo rfl t14_14) (oo rfl h13_26) rfl) ?_
    refine .nil ?_
    refine .seq ?_
    refine .cond rfl rfl (fun g38 => ?_) (fun g38 => ?_)
    · try simp only [decide_eq_true_eq, decide_eq_false_iff_not, beq_iff_eq, bne_iff_ne, beq_eq_false_iff_ne, bne_eq_false_iff_eq, List.length_map, gt_iff_lt, ge_iff_le, Int.not_lt, Int.not_le] at g38
      have hk : k < i := by omega
      refine .skip ?_
      refine .seq ?_
      refine .block ?_
      refine .seq ?_
      refine .region ?_
      refine W.pure (v := .int _ _) rfl rfl (v_move (oo rfl t14_14)) ?_
      refine W.pure (v := .int _ _) rfl rfl (v_assign (oo rfl rfl)) ?_
      refine .nil ?_
      refine .seq ?_
      refine .region ?_
      refine W.pure (v := jv) rfl rfl (v_move (oo rfl h0_21)) ?_
      refine W.pure (v := .int _ _) rfl rfl (v_move (oo rfl h5_24)) ?_
      refine W.pure rfl rfl (v_idxN el31 sz30 (oo rfl rfl) (oo rfl rfl) (Sl.isSl (hj.ext e13)) (by simpa using hi)) ?_
      refine W.load1 rfl rfl ag30 (Sl.idx (hj.ext e13) (range_at _ hi)) ?_
      refine W.pure (v := .int _ _) rfl rfl (v_move (oo rfl rfl)) ?_
      refine W.pure rfl rfl (v_idxN el30 sz4 (oo rfl rfl) (oo rfl rfl) (Sl.isSl ((hr i hi).ext e13)) (by simp; omega)) ?_
      refine W.load1 rfl rfl ag4 (Sl.idx ((hr i hi).ext e13) (range_at _ (show k < n by omega))) ?_
      refine W.pure (v := .bool _) rfl rfl (v_move (oo rfl rfl)) ?_
      refine W.splitAt (t := 24) rfl (fun g39 gv40 => ?_) (fun g39 gv40 => ?_)
      · try simp only [decide_eq_true_eq, decide_eq_false_iff_not, beq_iff_eq, bne_iff_ne, beq_eq_false_iff_ne, bne_eq_false_iff_eq, List.length_map, gt_iff_lt, ge_iff_le, Int.not_lt, Int.not_le] at g39
        refine W.pure (v := .int _ _) (gk rfl rfl gv40 rfl) rfl (v_move (oo rfl t6_15)) ?_
        refine W.pure (gk rfl rfl gv40 rfl) rfl (v_int (oo rfl rfl) (oo rfl rfl) rfl) ?_
        refine W.pure (v := .bool _) rfl rfl (v_pickT (oo rfl gv40) (oo rfl rfl)) ?_
        refine .nil ?_
        refine .cond rfl rfl (fun g41 => ?_) (fun g41 => ?_)
        · try simp only [decide_eq_true_eq, decide_eq_false_iff_not, beq_iff_eq, bne_iff_ne, beq_eq_false_iff_ne, bne_eq_false_iff_eq, List.length_map, gt_iff_lt, ge_iff_le, Int.not_lt, Int.not_le] at g41
          refine .region ?_
          refine W.pure (v := bv) rfl rfl (v_move (oo rfl t3_16)) ?_
          refine W.pure (v := .int _ _) rfl rfl (v_move (oo rfl rfl)) ?_
          refine W.pure rfl rfl (v_idxN el24 sz3 (oo rfl rfl) (oo rfl rfl) (Sl.isSl (Bld.sl bd17)) (by simp; omega)) ?_
          refine W.load1 rfl rfl ag3 (Sl.idx (Bld.sl bd17) (ints_at (cs := cs) (by omega))) ?_
          refine W.pure (v := .int _ _) rfl rfl (v_assign (oo rfl rfl)) ?_
          refine .nil ?_
          refine .region ?_
          refine W.pure rfl rfl (v_inc (oo rfl t14_14) (by omega)) ?_
          refine W.pure (v := .int _ _) rfl rfl (v_move (oo rfl rfl)) ?_
          refine .nil ?_
          refine ⟨(k + 1, cs.getD k 0), by dsimp only; omega, e13, rfl, rfl, t3_16, bd17, (at_yes hA hk g41 g39), (by omega)⟩
        · try simp only [decide_eq_true_eq, decide_eq_false_iff_not, beq_iff_eq, bne_iff_ne, beq_eq_false_iff_ne, bne_eq_false_iff_eq, List.length_map, gt_iff_lt, ge_iff_le, Int.not_lt, Int.not_le] at g41
          refine .skip ?_
          refine .region ?_
          refine W.pure rfl rfl (v_inc (oo rfl t14_14) (by omega)) ?_
          refine W.pure (v := .int _ _) rfl rfl (v_move (oo rfl rfl)) ?_
          refine .nil ?_
          refine ⟨(k + 1, at_), by dsimp only; omega, e13, rfl, t6_15, t3_16, bd17, (at_no2 hA g41), (by omega)⟩
      · try simp only [decide_eq_true_eq, decide_eq_false_iff_not, beq_iff_eq, bne_iff_ne, beq_eq_false_iff_ne, bne_eq_false_iff_eq, List.length_map, gt_iff_lt, ge_iff_le, Int.not_lt, Int.not_le] at g39
        refine W.skip (gk rfl rfl gv40 rfl) rfl ?_
        refine W.skip (gk rfl rfl gv40 rfl) rfl ?_
        refine W.pure (v := .bool _) rfl rfl (v_pickF (oo rfl gv40) (oo rfl rfl)) ?_
        refine .nil ?_
        refine .condF rfl rfl ?_
        refine .skip ?_
        refine .region ?_
        refine W.pure rfl rfl (v_inc (oo rfl t14_14) (by omega)) ?_
        refine W.pure (v := .int _ _) rfl rfl (v_move (oo rfl rfl)) ?_
        refine .nil ?_
        refine ⟨(k + 1, at_), by dsimp only; omega, e13, rfl, t6_15, t3_16, bd17, (at_no1 hA g39), (by omega)⟩
    · try simp only [decide_eq_true_eq, decide_eq_false_iff_not, beq_iff_eq, bne_iff_ne, beq_eq_false_iff_ne, bne_eq_false_iff_eq, List.length_map, gt_iff_lt, ge_iff_le, Int.not_lt, Int.not_le] at g38
      refine .exit ?_
      refine .seq ?_
      refine .seq ?_
      refine .region ?_
      refine W.pure (v := .int _ _) rfl rfl (v_move (oo rfl t6_15)) ?_
      refine W.pure rfl rfl (v_int (oo rfl rfl) (oo rfl rfl) rfl) ?_
      refine .nil ?_
      refine .cond rfl rfl (fun g42 => ?_) (fun g42 => ?_)
      · try simp only [decide_eq_true_eq, decide_eq_false_iff_not, beq_iff_eq, bne_iff_ne, beq_eq_false_iff_ne, bne_eq_false_iff_eq, List.length_map, gt_iff_lt, ge_iff_le, Int.not_lt, Int.not_le] at g42
        refine .seq ?_
        refine .region ?_
        refine W.pure (v := .int _ _) rfl rfl (v_move (oo rfl h4_23)) ?_
        refine W.pure (v := .int _ _) rfl rfl (v_assign (oo rfl rfl)) ?_
        refine .nil ?_
        refine .region ?_
        refine W.pure (v := .int _ _) rfl rfl (v_move (oo rfl h4_23)) ?_
        refine W.pure rfl rfl (v_inc (oo rfl rfl) (by omega)) ?_
        refine W.pure (v := .int _ _) rfl rfl (v_assign (oo rfl rfl)) ?_
        refine .nil ?_
        refine .region ?_
        refine W.pure (v := bv) rfl rfl (v_move (oo rfl t3_16)) ?_
        refine W.pure (v := .int _ _) rfl rfl (v_move (oo rfl rfl)) ?_
        refine W.buildSlice rfl rfl el24 ze3 sz3 (by kernel_rfl) (opndP_oo (by rfl) (by rfl)) (by rfl) fun b43 H44 nb45 => ?_
        have fr46 := Nat.le_trans (e13).1 nb45.fresh
        have a47 := Bld.apart bd17 nb45.fresh
        have e48 := Ext.trans e13 nb45.ext
        have bd49 := Bld.ext bd17 nb45.ext
        have k50 := nb45.get
        refine W.append rfl rfl el24 ni24 ze3 sz3 by3 rfl (by decide) bd49 (Sl.one k50 rfl rfl) rfl (by simp; omega) (e48).1 fun v51 H52 bd53 ap54 => ?_
        have e55 := App.ext ap54 e48 bd49 (Nat.le_refl _)
        have k56 := (ap54.keep _ _ k50 a47).1
        have a57 := (ap54.keep _ _ k50 a47).2
        refine W.pure (v := v51) rfl rfl (v_assign (oo rfl rfl)) ?_
        refine .nil ?_
        refine .region ?_
        refine W.pure rfl rfl (v_inc (oo rfl h10_25) (by omega)) ?_
        refine W.pure (v := .int _ _) rfl rfl (v_move (oo rfl rfl)) ?_
        refine .nil ?_
        refine ⟨(i + 1, m + 1, cs ++ [(m : Int)], v51), by dsimp only; omega, e55, rfl, rfl, rfl, (by rw [map_snoc]; exact bd53), (num_new hM hN hi hA (by omega) (by omega)), (by omega)⟩
      · try simp only [decide_eq_true_eq, decide_eq_false_iff_not, beq_iff_eq, bne_iff_ne, beq_eq_false_iff_ne, bne_eq_false_iff_eq, List.length_map, gt_iff_lt, ge_iff_le, Int.not_lt, Int.not_le] at g42
        refine .skip ?_
        refine .region ?_
        refine W.pure (v := bv) rfl rfl (v_move (oo rfl t3_16)) ?_
        refine W.pure (v := .int _ _) rfl rfl (v_move (oo rfl t6_15)) ?_
        refine W.buildSlice rfl rfl el24 ze3 sz3 (by kernel_rfl) (opndP_oo (by rfl) (by rfl)) (by rfl) fun b58 H59 nb60 => ?_
        have fr61 := Nat.le_trans (e13).1 nb60.fresh
        have a62 := Bld.apart bd17 nb60.fresh
        have e63 := Ext.trans e13 nb60.ext
        have bd64 := Bld.ext bd17 nb60.ext
        have k65 := nb60.get
        refine W.append rfl rfl el24 ni24 ze3 sz3 by3 rfl (by decide) bd64 (Sl.one k65 rfl rfl) rfl (by simp; omega) (e63).1 fun v66 H67 bd68 ap69 => ?_
        have e70 := App.ext ap69 e63 bd64 (Nat.le_refl _)
        have k71 := (ap69.keep _ _ k65 a62).1
        have a72 := (ap69.keep _ _ k65 a62).2
        refine W.pure (v := v66) rfl rfl (v_assign (oo rfl rfl)) ?_
        refine .nil ?_
        refine .region ?_
        refine W.pure rfl rfl (v_inc (oo rfl h10_25) (by omega)) ?_
        refine W.pure (v := .int _ _) rfl rfl (v_move (oo rfl rfl)) ?_
        refine .nil ?_
        refine ⟨(i + 1, m, cs ++ [at_], v66), by dsimp only; omega, e70, rfl, h4_23, rfl, (by rw [map_snoc]; exact bd68), (num_old hM hN hi hA (by omega) (by omega)), (by omega)⟩
  · try simp only [decide_eq_true_eq, decide_eq_false_iff_not, beq_iff_eq, bne_iff_ne, beq_eq_false_iff_ne, bne_eq_false_iff_eq, List.length_map, gt_iff_lt, ge_iff_le, Int.not_lt, Int.not_le] at g12
    refine .exit ?_
    refine .seq ?_
    refine .region ?_
    refine W.pure (v := bv) rfl rfl (v_move (oo rfl t3_4)) ?_
    refine W.pure (v := bv) rfl rfl (v_assign (oo rfl rfl)) ?_
    refine .nil ?_
    refine .ret ?_
    refine ret1V (P := Try.prog) (fn := Try.f17) (n := 44) (R := fun v H' => (∃ (cs : List Int) (m : Nat), Sl H' 1 v (cs.map fun c => [Value.int .i64 c]) ∧ NumOk M cs m n) ∧ Ext H H') (v := bv) (by rfl) (by rfl) (by exact rfl) ?_
    -- leaf 1
    have hin2 : i = n := by have h := g12; simp at h; omega
    subst hin2
    exact ⟨⟨cs, m, Bld.sl bd5, hN⟩, e1⟩

end Go.Am.Try
