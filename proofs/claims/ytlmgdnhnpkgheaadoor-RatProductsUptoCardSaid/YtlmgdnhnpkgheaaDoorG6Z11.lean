/- Plain law: the reference's parts of a rational number's text and its error. -/
import Derived.Test.YtlmgdnhnpkgheaaDoorG5Z11
import Derived.Test.YtlmgdnhnpkgheaaDoorG2Z11
import Derived.Test.YtlmgdnhnpkgheaaDoorRows
namespace Go.Am.Tryd
open Go Go.Am Go.Proofs
set_option linter.unusedSimpArgs false
set_option linter.unusedVariables false
variable {K : Nat}
theorem getD_app_l {l r : List Int} {i : Nat} (h : i < l.length) : (l ++ r).getD i 0 = l.getD i 0 := by
  rw [List.getD_eq_getElem?_getD, List.getElem?_append_left h, List.getD_eq_getElem?_getD]
theorem getD_mem {l : List Int} {i : Nat} (h : i < l.length) : l.getD i 0 ∈ l := by
  rw [List.getD_eq_getElem?_getD, List.getElem?_eq_getElem h]; exact List.getElem_mem h
theorem ext_left {s n : ByteArray} {r : List Int} (h : bytesOf s = bytesOf n ++ r) : s.extract 0 n.size = n := by
  have hl := congrArg List.length h
  rw [List.length_append, bytesOf_length, bytesOf_length] at hl
  apply bytesOf_inj
  rw [(extract_bytes s (by omega) (by omega)).1, h, List.drop_zero, Nat.sub_zero, List.take_append_of_le_length (by rw [bytesOf_length]; omega), List.take_of_length_le (by rw [bytesOf_length]; omega)]
theorem ext_right {s n d : ByteArray} (h : bytesOf s = bytesOf n ++ 47 :: bytesOf d) : s.extract (n.size + 1) s.size = d := by
  have hl := congrArg List.length h
  rw [List.length_append, List.length_cons, bytesOf_length, bytesOf_length, bytesOf_length] at hl
  apply bytesOf_inj
  rw [(extract_bytes s (by omega) (by omega)).1, h, List.drop_append, bytesOf_length]
  rw [List.drop_eq_nil_of_le (by rw [bytesOf_length]; omega), show n.size + 1 - n.size = 1 by omega]
  simp only [List.nil_append, List.drop_succ_cons, List.drop_zero]
  rw [List.take_of_length_le (by rw [bytesOf_length]; omega)]
/-- The text without its sign. -/
theorem tail_sign {s : ByteArray} {neg : Bool} {r : List Int} (h : bytesOf s = (if neg then [45] else []) ++ r) (hd : neg = false → (bytesOf s).head? ≠ some 45) (K : Nat) :
    ∃ s1, (Option.bind ((if (decide ((s.size : Int) > 0)) = true then ((bidx s 0).bind fun x7 => some (x7 == 45)) else some false)) (tu1 fun x11 => ((if x11 = true then ((ssl s 1 (s.size : Int)).bind fun x26 => some (x26, true)) else some (s, false))))) = some (s1, neg) ∧ bytesOf s1 = r ∧ s1.size ≤ s.size := by
  have hn := bytesOf_length s
  cases neg with
  | true =>
    simp only [if_true, List.cons_append, List.nil_append] at h
    obtain ⟨t, t1, t2, t3⟩ := ssl_tail h
    have hb : bidx s 0 = some 45 := by rw [bidx_eq, h]; rfl
    have hs : 0 < s.size := by rw [h] at hn; simp at hn; omega
    refine ⟨t, ?_, t2, by rw [h] at hn; simp at hn; omega⟩
    rw [decide_eq_true (by omega), if_pos rfl, hb, bsome, bsome, tu1a]
    simp only [beq_self_eq_true, if_true, t1, bsome]
  | false =>
    simp only [Bool.false_eq_true, if_false, List.nil_append] at h
    refine ⟨s, ?_, h, Nat.le_refl _⟩
    by_cases h0 : 0 < s.size
    · cases hb : bytesOf s with
      | nil => rw [hb] at hn; simp at hn; omega
      | cons c l =>
        have hc : c ≠ 45 := fun e => hd rfl (by rw [hb, e]; rfl)
        have hx : bidx s 0 = some c := by rw [bidx_eq, hb]; rfl
        have e : (c == 45) = false := by rw [beq_eq_false_iff_ne]; exact hc
        rw [decide_eq_true (by omega), if_pos rfl, hx, bsome, e, bsome, tu1a]
        rfl
    · rw [decide_eq_false (by omega)]
      rfl
theorem raterr_loop {s n d : ByteArray} {many : Bool} (hs : s.size ≤ 1048576) (hK : 2000000000 < K) (h : bytesOf s = bytesOf n ++ (if many then 47 :: bytesOf d else [])) (hno : 47 ∉ bytesOf n) :
    ∃ r : Int × ByteArray × ByteArray, g_R_RatError_l0 K s K 1 s ⟨#[50]⟩ 0 = some r ∧ r = (if many then (2, n, d) else (1, s, ⟨#[50]⟩)) := by
  have hn := bytesOf_length s
  have hln : n.size ≤ s.size := by
    have := congrArg List.length h
    rw [List.length_append, bytesOf_length, bytesOf_length] at this; omega
  have hlt : many = true → n.size < s.size := fun hm => by
    subst hm
    have := congrArg List.length h
    rw [List.length_append, bytesOf_length, bytesOf_length] at this
    simp at this; omega
  refine loopW (fun k (q : Int × ByteArray × ByteArray × Int) => g_R_RatError_l0 K s k q.1 q.2.1 q.2.2.1 q.2.2.2) (fun q => ∃ i : Nat, q.2.2.2 = i ∧ i ≤ s.size ∧ (q.1, q.2.1, q.2.2.1) = (if many = true ∧ n.size < i then (2, n, d) else (1, s, ⟨#[50]⟩))) (fun q => (s.size - q.2.2.2 : Int).toNat) _ ?_ ((1, s, ⟨#[50]⟩, 0) : Int × ByteArray × ByteArray × Int) (by dsimp only; omega) ⟨0, rfl, by omega, by rw [if_neg (by omega)]⟩
  rintro k ⟨m, a, b, _⟩ ⟨i, rfl, h0, h1⟩
  dsimp only at h1 ⊢
  by_cases hi : i < s.size
  · right
    have hb : bidx s i = some ((bytesOf s).getD i 0) := by rw [bidxI (by omega) (by omega), Int.toNat_natCast]
    by_cases c : many = true ∧ n.size < i
    · rw [if_pos c] at h1
      simp only [Prod.mk.injEq] at h1
      obtain ⟨rfl, rfl, rfl⟩ := h1
      refine ⟨(2, a, b, (i : Int) + 1), ?_, by dsimp only; omega, i + 1, rfl, by omega, by rw [if_pos ⟨c.1, by omega⟩]⟩
      rw [g_R_RatError_l0, if_pos (decide_eq_true (by omega)), hb, bsome, k64 (by omega) (by omega)]
      have e : ((2 : Int) == 1) = false := rfl
      rw [e]
      by_cases c2 : (bytesOf s).getD i 0 == 47 <;> simp [c2, bsome, tu1a, tu3a]
    · rw [if_neg c] at h1
      simp only [Prod.mk.injEq] at h1
      obtain ⟨rfl, rfl, rfl⟩ := h1
      by_cases c3 : many = true ∧ i = n.size
      · obtain ⟨hm, rfl⟩ := c3
        subst hm
        simp only [if_true] at h
        have hch : (bytesOf a).getD n.size 0 = 47 := by
          rw [h, List.getD_eq_getElem?_getD, List.getElem?_append_right (by rw [bytesOf_length]; omega), bytesOf_length]
          simp
        refine ⟨(2, n, d, (n.size : Int) + 1), ?_, by dsimp only; omega, n.size + 1, rfl, by omega, by rw [if_pos ⟨rfl, by omega⟩]⟩
        have t0 : Int.toNat 0 = 0 := rfl
        have t1 : ((n.size : Int) + 1).toNat = n.size + 1 := by omega
        rw [g_R_RatError_l0, if_pos (decide_eq_true (by omega)), hb, bsome, hch, k64 (by omega) (by omega), sslI (l := 0) (by omega) (by omega) (by omega), sslI (by omega) (by omega) (by omega), t0, t1, Int.toNat_natCast, Int.toNat_natCast, ext_left h, ext_right h]
        rfl
      · have hin : i < n.size := by
          cases many with
          | true => simp at c c3; omega
          | false =>
            simp only [Bool.false_eq_true, if_false, List.append_nil] at h
            have := congrArg List.length h
            rw [bytesOf_length, bytesOf_length] at this; omega
        have hch : (bytesOf a).getD i 0 ≠ 47 := fun e => by
          rw [h, getD_app_l (by rw [bytesOf_length]; omega)] at e
          exact hno (e ▸ getD_mem (by rw [bytesOf_length]; omega))
        have e : ((bytesOf a).getD i 0 == 47) = false := by rw [beq_eq_false_iff_ne]; exact hch
        refine ⟨(1, a, ⟨#[50]⟩, (i : Int) + 1), ?_, by dsimp only; omega, i + 1, rfl, by omega, by rw [if_neg (by omega)]⟩
        rw [g_R_RatError_l0, if_pos (decide_eq_true (by omega)), hb, bsome, e, k64 (by omega) (by omega)]
        rfl
  · left
    have : i = s.size := by omega
    subst this
    refine ⟨(m, a, b), by rw [g_R_RatError_l0, if_neg (by simp)], ?_⟩
    cases many with
    | true => have := hlt rfl; simp only [true_and, if_pos this] at h1; exact h1
    | false => simpa using h1
theorem error_rat {s n d : ByteArray} {neg many : Bool} (hs : s.size ≤ 1048576) (hK : 2000000000 < K) (h : Sp s neg n many d) : g_R_RatError K s = some (ratS neg n many d) := by
  have hsz := h.size
  obtain ⟨s1, h1, h2, h3⟩ := tail_sign h.eq h.hd K
  obtain ⟨r, r1, rfl⟩ := raterr_loop (K := K) (s := s1) (n := n) (d := d) (many := many) (by omega) hK h2 h.no
  unfold g_R_RatError ratS
  -- the sign
  have hsplit : ∀ {α : Type} (F : ByteArray × Bool → Option α), (Option.bind ((if (decide ((s.size : Int) > 0)) = true then ((bidx s 0).bind fun x7 => some (x7 == 45)) else some false)) (tu1 fun x11 => (Option.bind ((if x11 = true then ((ssl s 1 (s.size : Int)).bind fun x26 => some (x26, true)) else some (s, false))) F))) = F (s1, neg) := by
    intro α F
    have : ∀ (m : Option Bool) (f : Bool → Option (ByteArray × Bool)), (Option.bind m (tu1 fun x => Option.bind (f x) F)) = Option.bind (Option.bind m (tu1 f)) F := by
      intro m f; cases m <;> rfl
    rw [this, h1]; rfl
  rw [hsplit, tu2a, r1, bsome, tu3a]
  cases many with
  | false =>
    have hs1 : s1 = n := bytesOf_inj (by simpa using h2)
    subst hs1
    have e2 : natE ⟨#[50]⟩ = 0 := (natE_ok _).2 ⟨⟨by decide, rfl, fun h => by simp [bytesOf] at h⟩, by decide⟩
    simp only [Bool.false_eq_true, if_false, false_and, false_or, or_false]
    rw [error_ref (by omega) (by omega), error_ref (s := ⟨#[50]⟩) (by decide) (by show 1 < K; omega), bsome, bsome, e2]
    by_cases e5 : natE s1 = 5
    · simp [e5, bsome, tu1a]
    · have e5' : (natE s1 == 5) = false := by rw [beq_eq_false_iff_ne]; exact e5
      have e05 : ((0 : Int) == 5) = false := rfl
      rw [e5', e05]
      cases neg <;> by_cases e0 : natE s1 = 0 <;> by_cases en : s1 = ⟨#[48]⟩ <;> simp [e0, e5, en, sEq_dec, bsome, tu1a, natE48]
  | true =>
    have hd := hsz.2 rfl
    simp only [if_true, true_and]
    rw [error_ref (by omega) (by omega), error_ref (s := d) (by omega) (by omega), bsome, bsome]
    by_cases e5 : natE n = 5
    · simp [e5, bsome, tu1a]
    · have e5' : (natE n == 5) = false := by rw [beq_eq_false_iff_ne]; exact e5
      by_cases f5 : natE d = 5
      · simp [e5, f5, bsome, tu1a]
      · have f5' : (natE d == 5) = false := by rw [beq_eq_false_iff_ne]; exact f5
        have hneg : (if neg = true then some (sEq n (⟨#[48]⟩ : ByteArray)) else some false) = some (decide (neg = true ∧ n = ⟨#[48]⟩)) := by
          cases neg <;> simp [sEq_dec]
        rw [e5', f5', hneg]
        simp only [Bool.false_eq_true, if_false, bsome, tu1a, e5, f5, false_or]
        by_cases hz : neg = true ∧ n = ⟨#[48]⟩
        · rw [decide_eq_true hz, if_pos rfl, if_pos hz]
        · rw [decide_eq_false hz, if_neg (by simp), if_neg hz]
          by_cases e0 : natE n = 0
          · by_cases f0 : natE d = 0
            · obtain ⟨cn, ln⟩ := (natE_ok n).1 e0
              obtain ⟨cd, ld⟩ := (natE_ok d).1 f0
              have nn := numT_nonneg cn.2.1
              have nd := numT_nonneg cd.2.1
              obtain ⟨g, g1, g2, g3⟩ := gcd_ref (K := K) (x := n) (y := d) (a := (numT n).toNat) (b := (numT d).toNat) (by omega) (by omega) hK cn cd (by omega) (by omega)
              have hg : (!(decide (g = ⟨#[49]⟩))) = decide (Nat.gcd (numT n).toNat (numT d).toNat ≠ 1) := by
                by_cases hG : Nat.gcd (numT n).toNat (numT d).toNat = 1
                · have : g = ⟨#[49]⟩ := numT_inj g2 canT_one (by rw [g3, numT_one, hG]; rfl)
                  simp [this, hG]
                · have : g ≠ ⟨#[49]⟩ := fun e => hG (by rw [e, numT_one] at g3; omega)
                  simp [this, hG]
              have e22 : ((2 : Int) == 2) = true := rfl
              rw [e0, f0, e22]
              simp only [bne_self_eq_false, Bool.false_eq_true, if_false, bsome, tu1a, ne_eq, not_true, or_self, g1, hg, sEq_dec, if_true]
              by_cases d0 : d = ⟨#[48]⟩
              · simp [d0, bsome, tu1a]
              · by_cases d1 : d = ⟨#[49]⟩
                · simp [d1, bsome, tu1a]
                · by_cases hG : Nat.gcd (numT n).toNat (numT d).toNat = 1 <;> simp [d0, d1, hG, bsome, tu1a]
            · simp [e0, f0, bsome, tu1a]
          · simp [e0, bsome, tu1a]
theorem parts_loop {s n d : ByteArray} {many : Bool} {x1 : Int} (hs : s.size ≤ 1048576) (hK : 2000000000 < K) (h : bytesOf s = bytesOf n ++ (if many then 47 :: bytesOf d else [])) (hno : 47 ∉ bytesOf n) :
    ∃ r : (Bool × ByteArray × ByteArray) ⊕ Unit, g_R_parts_l0 K x1 s K 0 = some r ∧ r = (if many then .inl (x1 == 45, n, d) else .inr ()) := by
  have hn := bytesOf_length s
  have hln : n.size ≤ s.size := by
    have := congrArg List.length h
    rw [List.length_append, bytesOf_length, bytesOf_length] at this; omega
  refine loopW (fun k (q : Int) => g_R_parts_l0 K x1 s k q) (fun q => ∃ i : Nat, q = i ∧ i ≤ n.size) (fun q => (s.size - q : Int).toNat) _ ?_ (0 : Int) (by omega) ⟨0, rfl, by omega⟩
  rintro k _ ⟨i, rfl, h0⟩
  by_cases hi : i < n.size
  · right
    have hb : bidx s i = some ((bytesOf s).getD i 0) := by rw [bidxI (by omega) (by omega), Int.toNat_natCast]
    have hch : (bytesOf s).getD i 0 ≠ 47 := fun e => by
      rw [h, getD_app_l (by rw [bytesOf_length]; omega)] at e
      exact hno (e ▸ getD_mem (by rw [bytesOf_length]; omega))
    have e : ((bytesOf s).getD i 0 == 47) = false := by rw [beq_eq_false_iff_ne]; exact hch
    refine ⟨(i : Int) + 1, ?_, by omega, i + 1, rfl, by omega⟩
    rw [g_R_parts_l0, if_pos (decide_eq_true (by omega)), hb, bsome, e, k64 (by omega) (by omega)]
    rfl
  · left
    have : i = n.size := by omega
    subst this
    cases many with
    | true =>
      simp only [if_true] at h
      have hlt : n.size < s.size := by
        have := congrArg List.length h
        rw [List.length_append, bytesOf_length, bytesOf_length] at this
        simp at this; omega
      have hb : bidx s n.size = some ((bytesOf s).getD n.size 0) := by rw [bidxI (by omega) (by omega), Int.toNat_natCast]
      have hch : (bytesOf s).getD n.size 0 = 47 := by
        rw [h, List.getD_eq_getElem?_getD, List.getElem?_append_right (by rw [bytesOf_length]; omega), bytesOf_length]
        simp
      have t0 : Int.toNat 0 = 0 := rfl
      have t1 : ((n.size : Int) + 1).toNat = n.size + 1 := by omega
      refine ⟨_, ?_, rfl⟩
      rw [g_R_parts_l0, if_pos (decide_eq_true (by omega)), hb, bsome, hch, k64 (by omega) (by omega), sslI (l := 0) (by omega) (by omega) (by omega), sslI (by omega) (by omega) (by omega), t0, t1, Int.toNat_natCast, Int.toNat_natCast, ext_left h, ext_right h]
      rfl
    | false =>
      simp only [Bool.false_eq_true, if_false, List.append_nil] at h
      have : n.size = s.size := by
        have := congrArg List.length h
        rw [bytesOf_length, bytesOf_length] at this; omega
      exact ⟨.inr (), by rw [g_R_parts_l0, if_neg (by simp; omega)], rfl⟩
theorem parts_rat {s n d : ByteArray} {neg many : Bool} (hs : s.size ≤ 1048576) (h0 : s.size ≠ 0) (hK : 2000000000 < K) (h : Sp s neg n many d) : g_R_parts K s = some (neg, n, if many then d else ⟨#[49]⟩) := by
  have hn := bytesOf_length s
  obtain ⟨c, l, hc⟩ : ∃ c l, bytesOf s = c :: l := by
    cases hb : bytesOf s with
    | nil => rw [hb] at hn; simp at hn; omega
    | cons c l => exact ⟨c, l, rfl⟩
  have hx : bidx s 0 = some c := by rw [bidx_eq, hc]; rfl
  have hneg : (c == 45) = neg := by
    cases neg with
    | true => have := h.eq; rw [hc] at this; simp at this; rw [this.1]; rfl
    | false => have := h.hd rfl; rw [hc] at this; simpa using this
  obtain ⟨s1, e1, e2, e3⟩ : ∃ s1, (if neg = true then ((ssl s 1 (s.size : Int)).bind fun x9 => some x9) else some s) = some s1 ∧ bytesOf s1 = bytesOf n ++ (if many then 47 :: bytesOf d else []) ∧ s1.size ≤ s.size := by
    cases neg with
    | true =>
      have he := h.eq
      simp only [if_true, List.cons_append, List.nil_append] at he
      obtain ⟨t, t1, t2, t3⟩ := ssl_tail he
      exact ⟨t, by rw [if_pos rfl, t1]; rfl, t2, by rw [he] at hn; rw [List.length_cons] at hn; omega⟩
    | false => exact ⟨s, rfl, by simpa using h.eq, Nat.le_refl _⟩
  obtain ⟨r, r1, rfl⟩ := parts_loop (K := K) (s := s1) (n := n) (d := d) (many := many) (x1 := c) (by omega) hK e2 h.no
  unfold g_R_parts
  rw [hx, bsome, hneg, e1, bsome, tu1a, r1]
  cases many with
  | true => simp only [if_true, bindSl, tu3a, hneg]
  | false =>
    have hs1 : s1 = n := bytesOf_inj (by simpa using e2)
    subst hs1
    simp only [Bool.false_eq_true, if_false, bindSr, tu0a]
end Go.Am.Tryd
/- Plain law: the program's rational numbers and their texts. -/
namespace Go.Am.Tryd
open Go Go.Am Go.Proofs
set_option linter.unusedSimpArgs false
set_option linter.unusedVariables false
variable {K : Nat}
/-- A text is the canonical text of a rational number. -/
def RTx (s : ByteArray) (x : Rat) : Prop := ∃ n d, CanT n ∧ CanT d ∧ numT n = (x.num.natAbs : Nat) ∧ numT d = (x.den : Nat) ∧ Sp s (decide (x.num < 0)) n (decide (x.den ≠ 1)) d
theorem RTx.inj {s t : ByteArray} {x : Rat} (h : RTx s x) (k : RTx t x) : s = t := by
  obtain ⟨n, d, h1, h2, h3, h4, h5⟩ := h
  obtain ⟨n', d', k1, k2, k3, k4, k5⟩ := k
  have e1 : n = n' := numT_inj h1 k1 (by rw [h3, k3])
  have e2 : d = d' := numT_inj h2 k2 (by rw [h4, k4])
  subst e1 e2
  exact bytesOf_inj (by rw [h5.eq, k5.eq])
theorem RTx.val {s : ByteArray} {x y : Rat} (h : RTx s x) (k : RTx s y) : x = y := by
  obtain ⟨n, d, h1, h2, h3, h4, h5⟩ := h
  obtain ⟨n', d', k1, k2, k3, k4, k5⟩ := k
  obtain ⟨e1, rfl, e3, e4⟩ := h5.uniq k5
  have e5 : x.num = y.num := by
    rw [← sgn_num x, ← sgn_num y, e1]
    congr 1
    omega
  have e6 : x.den = y.den := by
    by_cases c : x.den ≠ 1
    · have := e4 (decide_eq_true c)
      subst this; omega
    · have c2 : ¬ y.den ≠ 1 := fun c2 => by
        rw [decide_eq_false c, decide_eq_true c2] at e3; cases e3
      omega
  exact Rat.ext e5 e6
/-- The program's number. -/
def QV (a : Q) (x : Rat) : Prop := a.neg = decide (x.num < 0) ∧ NumN (x.num.natAbs : Nat) a.num ∧ (NumN (x.den : Nat) a.den ∨ (a.den = [] ∧ x.den = 1))
theorem ten_le (N : Nat) : (10 : Int) ^ N ≤ 1000000000 ^ N := by
  have g5 : (1000000000 : Int) = 10 ^ 9 := by decide
  rw [g5, ← Int.pow_mul]
  exact ipow_le (by omega) (by omega)
theorem nat_pow_cast (N : Nat) : ((10 ^ N : Nat) : Int) = (10 : Int) ^ N := by simp
theorem num_len {n N : Nat} {l : List Int} (h : NumN n l) (hn : n < 10 ^ N) : l.length ≤ N := by
  refine Nat.not_lt.1 fun hlt => ?_
  have g1 := can_ge (B := 1000000000) (by omega) h.1 (by rintro rfl; simp at hlt)
  rw [h.2] at g1
  have g2 : (1000000000 : Int) ^ N ≤ 1000000000 ^ (l.length - 1) := ipow_le (by omega) (by omega)
  have g3 := ten_le N
  have g4 : (n : Int) < (10 : Int) ^ N := by rw [← nat_pow_cast]; omega
  omega
theorem txt_len {n N : Nat} {t : ByteArray} (h : CanT t) (ht : numT t = n) (hn : n < 10 ^ N) : t.size ≤ N + 1 := by
  refine Nat.not_lt.1 fun hlt => ?_
  have g1 := canT_ge h (by omega)
  have g2 : (10 : Int) ^ N ≤ 10 ^ (t.size - 1) := ipow_le (by omega) (by omega)
  have g4 : (n : Int) < (10 : Int) ^ N := by rw [← nat_pow_cast]; omega
  omega
theorem len_txt {n N : Nat} {t : ByteArray} (h : (bytesOf t).all digT = true) (ht : numT t = n) (hN : t.size ≤ N) : n < 10 ^ N := by
  have g1 := numT_lt h
  have g2 : (10 : Int) ^ t.size ≤ 10 ^ N := ipow_le (by omega) hN
  have g4 : (n : Int) < (10 : Int) ^ N := by omega
  rw [← nat_pow_cast] at g4
  omega
theorem QV.lens {a : Q} {x : Rat} {N : Nat} (h : QV a x) (hx : Dl x N) : a.num.length ≤ N ∧ a.den.length ≤ N := by
  refine ⟨num_len h.2.1 hx.1, ?_⟩
  rcases h.2.2 with h2 | ⟨h2, _⟩
  · exact num_len h2 hx.2
  · rw [h2]; exact Nat.zero_le _
theorem QV.zero : QV ⟨false, [], []⟩ 0 := ⟨rfl, .nil, .inr ⟨rfl, rfl⟩⟩
theorem QV.num0 {a : Q} {x : Rat} (h : QV a x) : a.num.length = 0 ↔ x = 0 := by
  rw [h.2.1.len0, ← Rat.num_eq_zero]; omega
theorem whole_ok {a : Q} {x : Rat} (h : QV a x) (hK : 2000000000 < K) : ∃ w, g_rat_Q_whole K a = some w ∧ NumN (x.den : Nat) w ∧ w.length ≤ max a.den.length 1 := by
  unfold g_rat_Q_whole
  rcases h.2.2 with h2 | ⟨h2, h3⟩
  · have hp := x.den_pos
    have h0 : a.den.length ≠ 0 := fun e => by have := h2.len0.1 e; omega
    refine ⟨a.den, ?_, h2, by omega⟩
    rw [if_neg (by rw [beq_iff_eq]; omega)]
  · refine ⟨[1], ?_, by rw [h3]; exact .one (by omega) (by omega), by simp; omega⟩
    rw [h2, if_pos (by rfl), one_num hK, bsome]
theorem low_ok {neg : Bool} {n d : Nat} {num den : List Int} (hd : d ≠ 0) (hn : NumN n num) (hdn : NumN d den) (l1 : num.length ≤ 1000000) (l2 : den.length ≤ 1000000) (hK : 2000000000 < K) :
    ∃ q, g_rat_low K neg num den = some q ∧ QV q (mkRat (sgn neg n) d) := by
  unfold g_rat_low
  by_cases h0 : num.length = 0
  · have e := hn.len0.1 h0
    have e' : n = 0 := by omega
    subst e'
    refine ⟨⟨false, [], []⟩, by rw [if_pos (by rw [beq_iff_eq]; omega)], ?_⟩
    have : mkRat (sgn neg 0) d = 0 := by
      have : sgn neg 0 = 0 := by cases neg <;> rfl
      rw [this, Rat.zero_mkRat]
    rw [this]; exact QV.zero
  · have hn0 : n ≠ 0 := fun e => h0 (hn.len0.2 (by omega))
    obtain ⟨g, g1, g2⟩ := ngcd_ok (K := K) (by omega) (by omega) hK hn hdn
    have gp : 0 < Nat.gcd n d := Nat.gcd_pos_of_pos_left d (by omega)
    have gl := len_mono g2 hn (by have := Nat.gcd_le_left (m := n) d (by omega); omega)
    have hc := ncmp_ok (K := K) (x := g) (y := [1]) (by omega) (by simp) hK g2 (.one (by omega) (by omega))
    rw [if_neg (by rw [beq_iff_eq]; omega), g1, bsome, one_num hK, bsome, hc, bsome]
    have m1 := mk_num neg n d hd
    have m2 := mk_den neg n d hd
    have m3 := mk_neg neg n d hd hn0
    by_cases h1 : Nat.gcd n d = 1
    · refine ⟨⟨neg, num, den⟩, ?_, m3.symm, ?_, .inl ?_⟩
      · rw [h1]; rfl
      · rw [m1, h1, Nat.div_one]; exact hn
      · rw [m2, h1, Nat.div_one]; exact hdn
    · obtain ⟨q1, r1, a1, a2, a3, a4, a5⟩ := ndiv_ok (K := K) (x := num) (y := g) (by omega) (by omega) hK hn g2 (by omega)
      obtain ⟨q2, r2, b1, b2, b3, b4, b5⟩ := ndiv_ok (K := K) (x := den) (y := g) (by omega) (by omega) hK hdn g2 (by omega)
      refine ⟨⟨neg, q1, q2⟩, ?_, m3.symm, ?_, .inl ?_⟩
      · have e : decide ((if ((Nat.gcd n d : Nat) : Int) < 1 then (-1 : Int) else if ((Nat.gcd n d : Nat) : Int) = 1 then 0 else 1) > 0) = true := by
          rw [if_neg (by omega), if_neg (by omega)]; rfl
        rw [e, if_pos rfl, a1, bsome, b1, bsome, bsome, tu2a]
      · rw [m1]
        have e : ((n : Int) / ((Nat.gcd n d : Nat) : Int)) = ((n / Nat.gcd n d : Nat) : Int) := by simp
        rw [e] at a2; exact a2
      · rw [m2]
        have e : ((d : Int) / ((Nat.gcd n d : Nat) : Int)) = ((d / Nat.gcd n d : Nat) : Int) := by simp
        rw [e] at b2; exact b2
theorem qmul_ok {a b : Q} {x y : Rat} {N : Nat} (ha : QV a x) (hb : QV b y) (dx : Dl x N) (dy : Dl y N) (hN : N ≤ 300000) (hK : 2000000000 < K) : ∃ q, g_rat_Q_Mul K a b = some q ∧ QV q (x * y) := by
  have la := ha.lens dx
  have lb := hb.lens dy
  have hN1 := dx.pos
  unfold g_rat_Q_Mul
  by_cases hz : x = 0 ∨ y = 0
  · refine ⟨⟨false, [], []⟩, ?_, ?_⟩
    · rcases hz with rfl | rfl
      · have := ha.num0.2 rfl
        rw [if_pos (by rw [beq_iff_eq]; omega)]
        rfl
      · have := hb.num0.2 rfl
        have e : ((b.num.length : Int) == 0) = true := by rw [beq_iff_eq]; omega
        rw [e]
        by_cases c : ((a.num.length : Int) == 0) = true
        · rw [if_pos c]; rfl
        · rw [if_neg c]; rfl
    · have : x * y = 0 := by rcases hz with rfl | rfl <;> simp
      rw [this]; exact QV.zero
  · have hx0 : a.num.length ≠ 0 := fun e => hz (.inl (ha.num0.1 e))
    have hy0 : b.num.length ≠ 0 := fun e => hz (.inr (hb.num0.1 e))
    have e1 : ((a.num.length : Int) == 0) = false := by rw [beq_eq_false_iff_ne]; omega
    have e2 : ((b.num.length : Int) == 0) = false := by rw [beq_eq_false_iff_ne]; omega
    obtain ⟨wa, wa1, wa2, wa3⟩ := whole_ok (K := K) ha hK
    obtain ⟨wb, wb1, wb2, wb3⟩ := whole_ok (K := K) hb hK
    obtain ⟨X, X1, X2, X3⟩ := nmul_ok (K := K) (x := a.num) (y := b.num) (by omega) hK ha.2.1 hb.2.1
    obtain ⟨D, D1, D2, D3⟩ := nmul_ok (K := K) (x := wa) (y := wb) (by omega) hK wa2 wb2
    rw [← Int.natCast_mul] at X2 D2
    have hD : x.den * y.den ≠ 0 := Nat.mul_ne_zero x.den_nz y.den_nz
    obtain ⟨q, q1, q2⟩ := low_ok (K := K) (neg := !(a.neg == b.neg)) hD X2 D2 (by omega) (by omega) hK
    refine ⟨q, ?_, ?_⟩
    · rw [e1, e2]
      simp only [Bool.false_eq_true, if_false, bsome, tu1a, X1, wa1, wb1, D1, q1]
    · rw [rat_mul, ← ha.1, ← hb.1]
      exact q2
theorem qquo_ok {a b : Q} {x y : Rat} {N : Nat} (ha : QV a x) (hb : QV b y) (dx : Dl x N) (dy : Dl y N) (hN : N ≤ 300000) (hK : 2000000000 < K) : ∃ q, g_rat_Q_Quo K a b = some q ∧ QV q (x / y) := by
  have la := ha.lens dx
  have lb := hb.lens dy
  have hN1 := dx.pos
  unfold g_rat_Q_Quo
  by_cases hz : x = 0 ∨ y = 0
  · refine ⟨⟨false, [], []⟩, ?_, ?_⟩
    · rcases hz with rfl | rfl
      · have := ha.num0.2 rfl
        rw [if_pos (by rw [beq_iff_eq]; omega)]
        rfl
      · have := hb.num0.2 rfl
        have e : ((b.num.length : Int) == 0) = true := by rw [beq_iff_eq]; omega
        rw [e]
        by_cases c : ((a.num.length : Int) == 0) = true
        · rw [if_pos c]; rfl
        · rw [if_neg c]; rfl
    · have : x / y = 0 := by rcases hz with rfl | rfl <;> grind
      rw [this]; exact QV.zero
  · have hx0 : a.num.length ≠ 0 := fun e => hz (.inl (ha.num0.1 e))
    have hy0 : b.num.length ≠ 0 := fun e => hz (.inr (hb.num0.1 e))
    have e1 : ((a.num.length : Int) == 0) = false := by rw [beq_eq_false_iff_ne]; omega
    have e2 : ((b.num.length : Int) == 0) = false := by rw [beq_eq_false_iff_ne]; omega
    obtain ⟨wa, wa1, wa2, wa3⟩ := whole_ok (K := K) ha hK
    obtain ⟨wb, wb1, wb2, wb3⟩ := whole_ok (K := K) hb hK
    obtain ⟨X, X1, X2, X3⟩ := nmul_ok (K := K) (x := a.num) (y := wb) (by omega) hK ha.2.1 wb2
    obtain ⟨D, D1, D2, D3⟩ := nmul_ok (K := K) (x := wa) (y := b.num) (by omega) hK wa2 hb.2.1
    rw [← Int.natCast_mul] at X2 D2
    have hyn : y.num ≠ 0 := fun e => hz (.inr (Rat.num_eq_zero.1 e))
    have hD : x.den * y.num.natAbs ≠ 0 := Nat.mul_ne_zero x.den_nz (by omega)
    obtain ⟨q, q1, q2⟩ := low_ok (K := K) (neg := !(a.neg == b.neg)) hD X2 D2 (by omega) (by omega) hK
    refine ⟨q, ?_, ?_⟩
    · rw [e1, e2]
      simp only [Bool.false_eq_true, if_false, bsome, tu1a, X1, wa1, wb1, D1, q1]
    · rw [rat_div x y (fun e => hz (.inr e)), ← ha.1, ← hb.1]
      exact q2
end Go.Am.Tryd
/- Plain law: texts in and out of the program's rational numbers; the reference's sums and products. -/
namespace Go.Am.Tryd
open Go Go.Am Go.Proofs
set_option linter.unusedSimpArgs false
set_option linter.unusedVariables false
variable {K : Nat}
theorem ten_two {d : ByteArray} (h : CanT d) : d = ⟨#[49]⟩ ↔ numT d = 1 := ⟨fun e => by rw [e, numT_one], fun e => numT_inj h canT_one (by rw [e, numT_one])⟩
theorem one_lt_ten (N : Nat) (h : N ≠ 0) : 1 < 10 ^ N := Nat.one_lt_pow h (by omega)
/-- A text without error is the text of a number. -/
theorem rt_of {s n d : ByteArray} {neg many : Bool} (h : Sp s neg n many d) (h0 : ratS neg n many d = 0) : ∃ x, RTx s x ∧ Dl x 2000 := by
  unfold ratS at h0
  by_cases c1 : natE n = 5 ∨ (many = true ∧ natE d = 5) ∨ (neg = true ∧ n = ⟨#[48]⟩)
  · rw [if_pos c1] at h0; cases h0
  · rw [if_neg c1] at h0
    by_cases c2 : natE n ≠ 0 ∨ (many = true ∧ natE d ≠ 0)
    · rw [if_pos c2] at h0; cases h0
    · rw [if_neg c2] at h0
      by_cases c3 : many = true ∧ (d = ⟨#[48]⟩ ∨ d = ⟨#[49]⟩ ∨ Nat.gcd (numT n).toNat (numT d).toNat ≠ 1)
      · rw [if_pos c3] at h0; cases h0
      · have en : natE n = 0 := by
          by_cases e : natE n = 0
          · exact e
          · exact absurd (.inl e) c2
        obtain ⟨cn, ln⟩ := (natE_ok n).1 en
        have nn := numT_nonneg cn.2.1
        have hNN : numT n = ((numT n).toNat : Int) := by omega
        have hneg : neg = true → (numT n).toNat ≠ 0 := fun e hz => c1 (.inr (.inr ⟨e, (canT_eq0 cn).1 (by omega)⟩))
        have lN := len_txt (N := 2000) cn.2.1 hNN ln
        -- the number whose parts these are
        have key : ∀ (D : Nat) (d' : ByteArray), CanT d' → numT d' = D → D ≠ 0 → Nat.gcd (numT n).toNat D = 1 → D < 10 ^ 2000 → (many = true ↔ D ≠ 1) → Sp s neg n many d' → ∃ x, RTx s x ∧ Dl x 2000 := by
          intro D d' cd hD hD0 hg hD2 hm hsp
          have m1 := mk_num neg (numT n).toNat D hD0
          have m2 := mk_den neg (numT n).toNat D hD0
          rw [hg, Nat.div_one] at m1 m2
          have m3 : decide ((mkRat (sgn neg (numT n).toNat) D).num < 0) = neg := by
            by_cases hz : (numT n).toNat = 0
            · have : neg = false := by
                cases hne : neg with
                | false => rfl
                | true => exact absurd hz (hneg hne)
              subst this
              rw [hz]
              have : mkRat (sgn false 0) D = 0 := by have : sgn false 0 = 0 := rfl; rw [this, Rat.zero_mkRat]
              rw [this]; rfl
            · exact mk_neg neg _ D hD0 hz
          refine ⟨mkRat (sgn neg (numT n).toNat) D, ⟨n, d', cn, cd, by rw [m1]; exact hNN, by rw [m2]; exact hD, ?_⟩, Dl.mk _ hD0 lN hD2⟩
          rw [m3, m2]
          have : decide (D ≠ 1) = many := by
            cases hmm : many with
            | false => exact decide_eq_false (fun h => by rw [hmm] at hm; have := hm.2 h; cases this)
            | true => exact decide_eq_true (hm.1 hmm)
          rw [this]
          exact hsp
        cases many with
        | false =>
          refine key 1 ⟨#[49]⟩ canT_one numT_one (by omega) (Nat.gcd_one_right _) (one_lt_ten 2000 (by omega)) (by simp) ⟨by simpa using h.eq, h.no, h.hd⟩
        | true =>
          have ed : natE d = 0 := by
            by_cases e : natE d = 0
            · exact e
            · exact absurd (.inr ⟨rfl, e⟩) c2
          obtain ⟨cd, ld⟩ := (natE_ok d).1 ed
          have nd := numT_nonneg cd.2.1
          have hDD : numT d = ((numT d).toNat : Int) := by omega
          have d0 : d ≠ ⟨#[48]⟩ := fun e => c3 ⟨rfl, .inl e⟩
          have d1 : d ≠ ⟨#[49]⟩ := fun e => c3 ⟨rfl, .inr (.inl e)⟩
          have hg : Nat.gcd (numT n).toNat (numT d).toNat = 1 := by
            by_cases e : Nat.gcd (numT n).toNat (numT d).toNat = 1
            · exact e
            · exact absurd ⟨rfl, .inr (.inr e)⟩ c3
          exact key (numT d).toNat d cd hDD (fun e => d0 ((canT_eq0 cd).1 (by omega))) hg (len_txt (N := 2000) cd.2.1 hDD ld) (by
            simp only [true_iff]
            exact fun e => d1 ((ten_two cd).2 (by omega))) h
theorem RTx.size {s : ByteArray} {x : Rat} {N : Nat} (h : RTx s x) (dx : Dl x N) : s.size ≤ 2 * N + 4 := by
  obtain ⟨n, d, h1, h2, h3, h4, h5⟩ := h
  have l1 := txt_len h1 h3 dx.1
  have l2 := txt_len h2 h4 dx.2
  have := congrArg List.length h5.eq
  rw [bytesOf_length, List.length_append, List.length_append, bytesOf_length] at this
  have e1 : (if decide (x.num < 0) = true then ([45] : List Int) else []).length ≤ 1 := by split <;> simp
  have e2 : (if decide (x.den ≠ 1) = true then (47 :: bytesOf d : List Int) else []).length ≤ d.size + 1 := by
    split
    · rw [List.length_cons, bytesOf_length]; omega
    · simp
  omega
/-- From the text's size to the size of the number. -/
theorem RTx.dl {s : ByteArray} {x : Rat} {N : Nat} (h : RTx s x) (hs : s.size ≤ N) : Dl x (N + 1) := by
  obtain ⟨n, d, h1, h2, h3, h4, h5⟩ := h
  have hsz := h5.size
  refine ⟨Nat.lt_of_lt_of_le (len_txt h1.2.1 h3 (Nat.le_trans hsz.1 hs)) (Nat.pow_le_pow_right (by omega) (by omega)), ?_⟩
  by_cases c : x.den ≠ 1
  · exact Nat.lt_of_lt_of_le (len_txt h2.2.1 h4 (Nat.le_trans (hsz.2 (decide_eq_true c)) hs)) (Nat.pow_le_pow_right (by omega) (by omega))
  · have : x.den = 1 := by omega
    rw [this]
    exact Nat.one_lt_pow (by omega) (by omega)
theorem RTx.pos {s : ByteArray} {x : Rat} (h : RTx s x) : s.size ≠ 0 := by
  obtain ⟨n, d, h1, h2, h3, h4, h5⟩ := h
  have := h5.size.1
  have := h1.1
  omega
theorem rin_ok {s : ByteArray} {x : Rat} (h : RTx s x) (hs : s.size ≤ 1048576) (hK : 2000000000 < K) : ∃ q, g_rat_In K s = some q ∧ QV q x := by
  obtain ⟨n, d, h1, h2, h3, h4, h5⟩ := h
  obtain ⟨s1, neg', n', d', many', c1, c2, c3, c4, c5⟩ := parts_of K hs
  obtain ⟨rfl, rfl, rfl, hd⟩ := h5.uniq c3
  have hsz := h5.size
  obtain ⟨a, a1, a2, a3⟩ := read_ok (K := K) (s := n) (by omega) hK h1.2.1
  rw [h3] at a2
  unfold g_rat_In
  rw [c1, bsome, c2, bsome]
  dsimp only
  rw [a1, bsome, one_num hK, bsome]
  by_cases c : x.den ≠ 1
  · have := hd (decide_eq_true c)
    subst this
    obtain ⟨b, b1, b2, b3⟩ := read_ok (K := K) (s := d) (by have := hsz.2 (decide_eq_true c); omega) hK h2.2.1
    rw [h4] at b2
    exact ⟨⟨decide (x.num < 0), a, b⟩, by rw [decide_eq_true c, if_pos rfl, b1, bsome, bsome, tu1a], rfl, a2, .inl b2⟩
  · have e : x.den = 1 := by omega
    exact ⟨⟨decide (x.num < 0), a, [1]⟩, by rw [decide_eq_false c]; rfl, rfl, a2, .inl (by rw [e]; exact .one (by omega) (by omega))⟩
theorem not_stroke {n : ByteArray} (h : (bytesOf n).all digT = true) : (47 : Int) ∉ bytesOf n := fun hm => by
  have := digT_iff.1 (List.all_eq_true.1 h _ hm); omega
/-- The text that is laid together of its parts. -/
theorem rt_mk {s n d : ByteArray} {x : Rat} (h1 : CanT n) (h2 : CanT d) (h3 : numT n = (x.num.natAbs : Nat)) (h4 : numT d = (x.den : Nat)) (h : bytesOf s = (if decide (x.num < 0) then [45] else []) ++ (bytesOf n ++ (if decide (x.den ≠ 1) then 47 :: bytesOf d else []))) : RTx s x := by
  refine ⟨n, d, h1, h2, h3, h4, h, not_stroke h1.2.1, fun hn => ?_⟩
  rw [h, hn]
  have hl := bytesOf_length n
  cases hb : bytesOf n with
  | nil => rw [hb] at hl; simp at hl; exact absurd hl.symm h1.1
  | cons c l =>
    have := digT_iff.1 (List.all_eq_true.1 h1.2.1 c (by rw [hb]; simp))
    simp only [Bool.false_eq_true, if_false, List.nil_append, List.cons_append, List.head?_cons]
    intro e; cases e; omega
theorem qout_ok {a : Q} {x : Rat} {N : Nat} (ha : QV a x) (dx : Dl x N) (hN : N ≤ 900000) (hK : 2000000000 < K) : ∃ s, g_rat_Q_Out K a = some s ∧ RTx s x := by
  have la := ha.lens dx
  have hN1 := dx.pos
  unfold g_rat_Q_Out
  by_cases hx : x = 0
  · subst hx
    have := ha.num0.2 rfl
    refine ⟨⟨#[48]⟩, by rw [if_pos (by rw [beq_iff_eq]; omega)], rt_mk canT_zero canT_one numT_zero numT_one rfl⟩
  · have hx0 : a.num.length ≠ 0 := fun e => hx (ha.num0.1 e)
    obtain ⟨w, w1, w2, w3⟩ := whole_ok (K := K) ha hK
    obtain ⟨n, n1, n2, n3, n4⟩ := text_ok (K := K) (x := a.num) (by omega) hK ha.2.1
    obtain ⟨d, d1, d2, d3, d4⟩ := text_ok (K := K) (x := w) (by omega) hK w2
    rw [if_neg (by rw [beq_iff_eq]; omega), n1, bsome, ha.1]
    have hm : sEq d ⟨#[49]⟩ = decide (x.den = 1) := by
      rw [sEq_dec]
      congr 1
      rw [ten_two d2, d3, eq_iff_iff]; omega
    have e45 : ((⟨#[45]⟩ : ByteArray)).size = 1 := rfl
    have e47 : ((⟨#[47]⟩ : ByteArray)).size = 1 := rfl
    have b45 : bytesOf (⟨#[45]⟩ : ByteArray) = [45] := rfl
    have b47 : bytesOf (⟨#[47]⟩ : ByteArray) = [47] := rfl
    obtain ⟨m, m1, m2, m3⟩ : ∃ m, (if decide (x.num < 0) = true then (if ((⟨#[45]⟩ : ByteArray)).size + (n).size ≤ 4611686018427387904 then some ((⟨#[45]⟩ : ByteArray) ++ n) else none) else some n) = some m ∧ bytesOf m = (if decide (x.num < 0) = true then [45] else []) ++ bytesOf n ∧ m.size ≤ n.size + 1 := by
      by_cases c : x.num < 0
      · refine ⟨(⟨#[45]⟩ : ByteArray) ++ n, ?_, ?_, ?_⟩
        · rw [decide_eq_true c, if_pos rfl, if_pos (by omega)]
        · rw [decide_eq_true c, bytesOf_append, b45]; rfl
        · rw [← bytesOf_length, bytesOf_append, b45, List.length_append, bytesOf_length]; simp; omega
      · exact ⟨n, by rw [decide_eq_false c]; rfl, by rw [decide_eq_false c]; rfl, by omega⟩
    rw [m1, bsome, tu1a, w1, bsome, d1, bsome, hm]
    by_cases c : x.den = 1
    · refine ⟨m, by rw [decide_eq_true c]; rfl, rt_mk n2 d2 n3 d3 ?_⟩
      have hdd : decide (x.den ≠ 1) = false := decide_eq_false (fun h => h c)
      rw [m2, hdd]; simp
    · have hsd : ((⟨#[47]⟩ : ByteArray) ++ d).size = d.size + 1 := by rw [← bytesOf_length, bytesOf_append, b47, List.length_append, bytesOf_length]; simp; omega
      refine ⟨m ++ ((⟨#[47]⟩ : ByteArray) ++ d), ?_, rt_mk n2 d2 n3 d3 ?_⟩
      · rw [decide_eq_false c]
        simp only [Bool.not_false, if_true]
        rw [if_pos (by omega), if_pos (by omega), bsome, tu1a]
      · have hdd : decide (x.den ≠ 1) = true := decide_eq_true c
        rw [bytesOf_append, bytesOf_append, m2, b47, hdd]; simp
theorem digits_ok {l : List Int} {n : Nat} (hl : l.length ≤ 1000000) (hK : 2000000000 < K) (h : NumN n l) : ∃ k : Nat, g_nat_N_Digits K l = some (k : Int) ∧ (k ≤ 2000 ↔ n < 10 ^ 2000) := by
  obtain ⟨t, t1, t2, t3, t4⟩ := text_ok hl hK h
  refine ⟨t.size, by unfold g_nat_N_Digits; rw [t1, bsome], fun h => len_txt (N := 2000) t2.2.1 t3 h, fun h => ?_⟩
  refine Nat.not_lt.1 fun hlt => ?_
  have g1 := canT_ge t2 (by omega)
  rw [t3] at g1
  have g2 : (10 : Int) ^ 2000 ≤ 10 ^ (t.size - 1) := ipow_le (by omega) (by omega)
  have g3 := nat_pow_cast 2000
  have g4 : (n : Int) < ((10 ^ 2000 : Nat) : Int) := Int.ofNat_lt.2 h
  rw [g3] at g4
  exact absurd (Int.lt_of_lt_of_le g4 (Int.le_trans g2 g1)) (Int.lt_irrefl _)
theorem fits_ok {a : Q} {x : Rat} {N : Nat} (ha : QV a x) (dx : Dl x N) (hN : N ≤ 900000) (hK : 2000000000 < K) : (Dl x 2000 → g_rat_Fits K a = some 0) ∧ (¬ Dl x 2000 → g_rat_Fits K a = some 2) := by
  have la := ha.lens dx
  obtain ⟨k, k1, k2⟩ := digits_ok (K := K) (l := a.num) (by omega) hK ha.2.1
  obtain ⟨m, m1, m2⟩ : ∃ m : Nat, g_nat_N_Digits K a.den = some (m : Int) ∧ (m ≤ 2000 ↔ x.den < 10 ^ 2000) := by
    rcases ha.2.2 with h | ⟨h, h2⟩
    · exact digits_ok (by omega) hK h
    · refine ⟨1, ?_, ?_⟩
      · rw [h]; rfl
      · rw [h2]; exact ⟨fun _ => one_lt_ten 2000 (by omega), fun _ => by decide⟩
  unfold g_rat_Fits
  rw [k1, m1]
  by_cases c1 : k ≤ 2000
  · by_cases c2 : m ≤ 2000
    · have hd : Dl x 2000 := ⟨k2.1 c1, m2.1 c2⟩
      refine ⟨fun _ => ?_, fun h => absurd hd h⟩
      have e1 : decide ((k : Int) > 2000) = false := decide_eq_false (by omega)
      have e2 : decide ((m : Int) > 2000) = false := decide_eq_false (by omega)
      rw [bsome, e1]
      simp only [Bool.false_eq_true, if_false, bsome, e2, tu1a]
    · refine ⟨fun h => absurd (m2.2 h.2) c2, fun _ => ?_⟩
      have e1 : decide ((k : Int) > 2000) = false := decide_eq_false (by omega)
      have e2 : decide ((m : Int) > 2000) = true := decide_eq_true (by omega)
      rw [bsome, e1]
      simp only [Bool.false_eq_true, if_false, bsome, e2, tu1a, if_true]
  · refine ⟨fun h => absurd (k2.2 h.1) c1, fun _ => ?_⟩
    have e1 : decide ((k : Int) > 2000) = true := decide_eq_true (by omega)
    rw [bsome, e1]
    simp only [bsome, tu1a, if_true]
theorem rtold_ok {a : Q} {x : Rat} {N : Nat} (ha : QV a x) (dx : Dl x N) (hN : N ≤ 900000) (hK : 2000000000 < K) : (Dl x 2000 → ∃ s, g_rat_told K a = some (s, 0) ∧ RTx s x) ∧ (¬ Dl x 2000 → g_rat_told K a = some (⟨#[]⟩, 2)) := by
  obtain ⟨f1, f2⟩ := fits_ok ha dx hN hK
  unfold g_rat_told
  refine ⟨fun h => ?_, fun h => ?_⟩
  · obtain ⟨s, s1, s2⟩ := qout_ok ha dx hN hK
    exact ⟨s, by rw [f1 h, bsome, if_neg (by simp), s1, bsome], s2⟩
  · rw [f2 h, bsome]; rfl
/-! ### The reference -/
theorem canon_ok {neg : Bool} {n d : ByteArray} {N D : Nat} (hD : D ≠ 0) (cn : CanT n) (cd : CanT d) (hn : numT n = N) (hd : numT d = D) (ln : n.size ≤ 400000) (ld : d.size ≤ 400000) (hK : 2000000000 < K) :
    ∃ s, g_R_Canon K neg n d = some s ∧ RTx s (mkRat (sgn neg N) D) := by
  unfold g_R_Canon
  by_cases h0 : N = 0
  · subst h0
    have : n = ⟨#[48]⟩ := (canT_eq0 cn).1 (by omega)
    subst this
    have e : mkRat (sgn neg 0) D = 0 := by
      have : sgn neg 0 = 0 := by cases neg <;> rfl
      rw [this, Rat.zero_mkRat]
    refine ⟨⟨#[48]⟩, by rw [sEq_self]; rfl, ?_⟩
    rw [e]
    exact rt_mk canT_zero canT_one numT_zero numT_one rfl
  · have e0 : sEq n ⟨#[48]⟩ = false := sEq_f (fun e => by rw [e, numT_zero] at hn; omega)
    obtain ⟨g, g1, g2, g3⟩ := gcd_ref (K := K) (x := n) (y := d) ln ld hK cn cd hn hd
    have gp : 0 < Nat.gcd N D := Nat.gcd_pos_of_pos_left D (by omega)
    have gl := canT_size cn g2 (by rw [g3, hn]; have := Nat.gcd_le_left (m := N) D (by omega); omega)
    obtain ⟨q1, r1, a1, a2, a3, a4, a5⟩ := div_ref (K := K) (a := n) (b := g) ln (by omega) hK cn g2 (by omega)
    obtain ⟨q2, r2, b1, b2, b3, b4, b5⟩ := div_ref (K := K) (a := d) (b := g) ld (by omega) hK cd g2 (by omega)
    rw [hn, g3] at a4
    rw [hd, g3] at b4
    have m1 := mk_num neg N D hD
    have m2 := mk_den neg N D hD
    have m3 := mk_neg neg N D hD h0
    have f1 : numT q1 = ((mkRat (sgn neg N) D).num.natAbs : Nat) := by rw [m1, a4]; simp
    have f2 : numT q2 = ((mkRat (sgn neg N) D).den : Nat) := by rw [m2, b4]; simp
    generalize mkRat (sgn neg N) D = x at *
    rw [e0]
    simp only [Bool.false_eq_true, if_false]
    rw [g1, bsome, a1, bsome, b1, bsome]
    have hm : sEq q2 ⟨#[49]⟩ = decide (x.den = 1) := by
      rw [sEq_dec]
      congr 1
      rw [ten_two b2, f2, eq_iff_iff]; omega
    have l1 := canT_size cn a2 (by rw [a4, hn]; exact Int.ediv_le_self _ (by omega))
    have l2 := canT_size cd b2 (by rw [b4, hd]; exact Int.ediv_le_self _ (by omega))
    have e45 : ((⟨#[45]⟩ : ByteArray)).size = 1 := rfl
    have e47 : ((⟨#[47]⟩ : ByteArray)).size = 1 := rfl
    have b45 : bytesOf (⟨#[45]⟩ : ByteArray) = [45] := rfl
    have b47 : bytesOf (⟨#[47]⟩ : ByteArray) = [47] := rfl
    obtain ⟨m, k1, k2, k3⟩ : ∃ m, (if neg = true then (if ((⟨#[45]⟩ : ByteArray)).size + (q1).size ≤ 4611686018427387904 then some ((⟨#[45]⟩ : ByteArray) ++ q1) else none) else some q1) = some m ∧ bytesOf m = (if decide (x.num < 0) = true then [45] else []) ++ bytesOf q1 ∧ m.size ≤ q1.size + 1 := by
      rw [m3]
      cases neg with
      | true =>
        refine ⟨(⟨#[45]⟩ : ByteArray) ++ q1, ?_, ?_, ?_⟩
        · rw [if_pos rfl, if_pos (by omega)]
        · rw [bytesOf_append, b45]; rfl
        · rw [← bytesOf_length, bytesOf_append, b45, List.length_append, bytesOf_length]; simp; omega
      | false => exact ⟨q1, rfl, rfl, by omega⟩
    dsimp only
    rw [k1, bsome, tu1a, hm]
    by_cases c : x.den = 1
    · refine ⟨m, by rw [decide_eq_true c]; rfl, rt_mk a2 b2 f1 f2 ?_⟩
      have hdd : decide (x.den ≠ 1) = false := decide_eq_false (fun h => h c)
      rw [k2, hdd]; simp
    · have hsm : (m ++ (⟨#[47]⟩ : ByteArray)).size = m.size + 1 := by rw [← bytesOf_length, bytesOf_append, b47, List.length_append, bytesOf_length]; simp
      refine ⟨(m ++ (⟨#[47]⟩ : ByteArray)) ++ q2, ?_, rt_mk a2 b2 f1 f2 ?_⟩
      · rw [decide_eq_false c]
        simp only [Bool.false_eq_true, if_false]
        rw [if_pos (by omega), if_pos (by omega)]
      · have hdd : decide (x.den ≠ 1) = true := decide_eq_true c
        rw [bytesOf_append, bytesOf_append, k2, b47, hdd]; simp
theorem rparts_ok {a : ByteArray} {x : Rat} {N : Nat} (h : RTx a x) (dx : Dl x N) (hN : N ≤ 100000) (hK : 2000000000 < K) : ∃ n d, g_R_parts K a = some (decide (x.num < 0), n, d) ∧ CanT n ∧ CanT d ∧ numT n = (x.num.natAbs : Nat) ∧ numT d = (x.den : Nat) ∧ n.size ≤ N + 1 ∧ d.size ≤ N + 1 := by
  have hs := h.size dx
  have h0 := h.pos
  obtain ⟨n, d, h1, h2, h3, h4, h5⟩ := h
  have hp := parts_rat (K := K) (by omega) h0 hK h5
  have l1 := txt_len h1 h3 dx.1
  have l2 := txt_len h2 h4 dx.2
  by_cases c : x.den ≠ 1
  · rw [decide_eq_true c] at hp
    exact ⟨n, d, hp, h1, h2, h3, h4, l1, l2⟩
  · rw [decide_eq_false c] at hp
    have e : x.den = 1 := by omega
    exact ⟨n, ⟨#[49]⟩, hp, h1, canT_one, h3, by rw [e]; rfl, l1, by show 1 ≤ N + 1; omega⟩
theorem rmul_ok {a b : ByteArray} {x y : Rat} {N : Nat} (ha : RTx a x) (hb : RTx b y) (dx : Dl x N) (dy : Dl y N) (hN : N ≤ 100000) (hK : 2000000000 < K) : ∃ c, g_R_RatMul K a b = some c ∧ RTx c (x * y) := by
  obtain ⟨n, d, p1, p2, p3, p4, p5, p6, p7⟩ := rparts_ok (K := K) ha dx hN hK
  obtain ⟨m, e, q1, q2, q3, q4, q5, q6, q7⟩ := rparts_ok (K := K) hb dy hN hK
  obtain ⟨X, X1, X2, X3⟩ := mul_ref (K := K) (a := n) (b := m) (by omega) (by omega) hK p2.2.1 q2.2.1
  obtain ⟨D, D1, D2, D3⟩ := mul_ref (K := K) (a := d) (b := e) (by omega) (by omega) hK p3.2.1 q3.2.1
  rw [p4, q4, ← Int.natCast_mul] at X3
  rw [p5, q5, ← Int.natCast_mul] at D3
  have hD : x.den * y.den ≠ 0 := Nat.mul_ne_zero x.den_nz y.den_nz
  have lX := txt_len X2 X3 (mul_lt_pow dx.1 dy.1)
  have lD := txt_len D2 D3 (mul_lt_pow dx.2 dy.2)
  obtain ⟨s, s1, s2⟩ := canon_ok (K := K) (neg := !(decide (x.num < 0) == decide (y.num < 0))) (n := X) (d := D) hD X2 D2 X3 D3 (by omega) (by omega) hK
  refine ⟨s, ?_, by rw [rat_mul]; exact s2⟩
  unfold g_R_RatMul
  rw [p1, bsome, q1, bsome]
  dsimp only
  rw [X1, bsome, D1, bsome, s1, bsome]
theorem rdivq_ok {a b : ByteArray} {x y : Rat} {N : Nat} (ha : RTx a x) (hb : RTx b y) (dx : Dl x N) (dy : Dl y N) (hy : y ≠ 0) (hN : N ≤ 100000) (hK : 2000000000 < K) : ∃ c, g_R_RatDiv K a b = some c ∧ RTx c (x / y) := by
  obtain ⟨n, d, p1, p2, p3, p4, p5, p6, p7⟩ := rparts_ok (K := K) ha dx hN hK
  obtain ⟨m, e, q1, q2, q3, q4, q5, q6, q7⟩ := rparts_ok (K := K) hb dy hN hK
  obtain ⟨X, X1, X2, X3⟩ := mul_ref (K := K) (a := n) (b := e) (by omega) (by omega) hK p2.2.1 q3.2.1
  obtain ⟨D, D1, D2, D3⟩ := mul_ref (K := K) (a := d) (b := m) (by omega) (by omega) hK p3.2.1 q2.2.1
  rw [p4, q5, ← Int.natCast_mul] at X3
  rw [p5, q4, ← Int.natCast_mul] at D3
  have hyn : y.num ≠ 0 := fun e => hy (Rat.num_eq_zero.1 e)
  have hD : x.den * y.num.natAbs ≠ 0 := Nat.mul_ne_zero x.den_nz (by omega)
  have lX := txt_len X2 X3 (mul_lt_pow dx.1 dy.2)
  have lD := txt_len D2 D3 (mul_lt_pow dx.2 dy.1)
  obtain ⟨s, s1, s2⟩ := canon_ok (K := K) (neg := !(decide (x.num < 0) == decide (y.num < 0))) (n := X) (d := D) hD X2 D2 X3 D3 (by omega) (by omega) hK
  refine ⟨s, ?_, by rw [rat_div x y hy]; exact s2⟩
  unfold g_R_RatDiv
  rw [p1, bsome, q1, bsome]
  dsimp only
  rw [X1, bsome, D1, bsome, s1, bsome]
end Go.Am.Tryd
/- Plain law: RatChecks, RatSums and RatProducts answer true. -/
namespace Go.Am.Tryd
open Go Go.Am Go.Proofs
set_option linter.unusedSimpArgs false
set_option linter.unusedVariables false
set_option maxRecDepth 100000
variable {K : Nat}
theorem ratFact_true : g_law_ratFact 2000000001 = some true := by kernel_rfl
/-- The error of a rational number's text. -/
noncomputable def ratE (s : ByteArray) : Int := @dite Int (∃ e, ∃ neg n many d, Sp s neg n many d ∧ ratS neg n many d = e) (Classical.propDecidable _) (fun h => h.choose) fun _ => 0
theorem ratE_eq {s n d : ByteArray} {neg many : Bool} (h : Sp s neg n many d) : ratE s = ratS neg n many d := by
  have hex : ∃ e, ∃ neg n many d, Sp s neg n many d ∧ ratS neg n many d = e := ⟨_, _, _, _, _, h, rfl⟩
  unfold ratE
  rw [dif_pos hex]
  obtain ⟨neg', n', many', d', h1, h2⟩ := hex.choose_spec
  rw [← h2]
  obtain ⟨rfl, rfl, rfl, h3⟩ := h.uniq h1
  cases many with
  | true => rw [h3 rfl]
  | false => unfold ratS; simp
theorem ratcheck_ok {s : ByteArray} (hs : s.size ≤ 1048576) (hK : 2000000000 < K) : g_rat_Check K s = some (ratE s) := by
  obtain ⟨s1, neg, n, d, many, _, _, h, _⟩ := parts_of K hs
  rw [ratE_eq h]; exact check_rat hs hK h
theorem raterr_ok {s : ByteArray} (hs : s.size ≤ 1048576) (hK : 2000000000 < K) : g_R_RatError K s = some (ratE s) := by
  obtain ⟨s1, neg, n, d, many, _, _, h, _⟩ := parts_of K hs
  rw [ratE_eq h]; exact error_rat hs hK h
theorem ratE_zero {s : ByteArray} (hs : s.size ≤ 1048576) (h : ratE s = 0) : ∃ x, RTx s x ∧ Dl x 2000 := by
  obtain ⟨s1, neg, n, d, many, _, _, hp, _⟩ := parts_of 0 hs
  rw [ratE_eq hp] at h
  exact rt_of hp h
noncomputable def firstE : List ByteArray → Int
  | [] => 0
  | s :: l => if ratE s ≠ 0 then ratE s else firstE l
theorem firstE_zero : ∀ {l : List ByteArray}, firstE l = 0 → ∀ s ∈ l, ratE s = 0
  | [], _, s, hs => by simp at hs
  | t :: l, h, s, hs => by
    rw [firstE] at h
    by_cases c : ratE t = 0
    · rw [if_neg (by simpa using c)] at h
      rcases List.mem_cons.1 hs with rfl | hs
      · exact c
      · exact firstE_zero h s hs
    · rw [if_pos c] at h; exact absurd h c
theorem drop_firstE {l : List ByteArray} {i : Nat} (h : i < l.length) : firstE (l.drop i) = if ratE l[i] ≠ 0 then ratE l[i] else firstE (l.drop (i + 1)) := by
  rw [List.drop_eq_getElem_cons h, firstE]
theorem checkAll_ok {l : List ByteArray} (hl : l.length ≤ 1048576) (hs : ∀ s ∈ l, s.size ≤ 1048576) (hK : 2000000000 < K) : g_rat_CheckAll K l = some (firstE l) := by
  have key : ∃ r : Int ⊕ Unit, g_rat_CheckAll_l0 K l K 0 = some r ∧ ((r = .inr () ∧ firstE l = 0) ∨ r = .inl (firstE l)) := by
    refine loopW (fun k (s : Int) => g_rat_CheckAll_l0 K l k s) (fun s => ∃ i : Nat, s = i ∧ i ≤ l.length ∧ firstE l = firstE (l.drop i)) (fun s => (l.length - s : Int).toNat) _ ?_ (0 : Int) (by omega) ⟨0, rfl, by omega, by simp⟩
    rintro k _ ⟨i, rfl, h0, h1⟩
    by_cases hi : i < l.length
    · have hx : idx l (i : Int) = some l[i] := idx_nat (List.getElem?_eq_getElem hi)
      have hc := ratcheck_ok (K := K) (s := l[i]) (hs _ (List.getElem_mem hi)) hK
      rw [drop_firstE hi] at h1
      by_cases c : ratE l[i] = 0
      · right
        rw [if_neg (by simpa using c)] at h1
        refine ⟨(i : Int) + 1, ?_, by omega, i + 1, rfl, by omega, h1⟩
        rw [g_rat_CheckAll_l0, if_pos (decide_eq_true (by omega)), hx, bsome, hc, bsome, if_neg (by simpa using c), k64 (by omega) (by omega)]
      · left
        rw [if_pos c] at h1
        refine ⟨.inl (ratE l[i]), ?_, .inr (by rw [h1])⟩
        rw [g_rat_CheckAll_l0, if_pos (decide_eq_true (by omega)), hx, bsome, hc, bsome, if_pos (by simpa using c)]
    · left
      have : i = l.length := by omega
      subst this
      rw [List.drop_eq_nil_of_le (Nat.le_refl _)] at h1
      exact ⟨.inr (), by rw [g_rat_CheckAll_l0, if_neg (by simp)], .inl ⟨rfl, h1⟩⟩
  obtain ⟨r, h1, h2⟩ := key
  unfold g_rat_CheckAll
  rw [h1]
  rcases h2 with ⟨rfl, h2⟩ | rfl
  · rw [bindSr, tu0a, h2]
  · rw [bindSl, tu1a]
theorem errors_ok {l : List ByteArray} (hl : l.length ≤ 1048576) (hs : ∀ s ∈ l, s.size ≤ 1048576) (hK : 2000000000 < K) : g_R_RatErrors K l = some (firstE l) := by
  have key : ∃ r : Int ⊕ Unit, g_R_RatErrors_l0 K l K 0 = some r ∧ ((r = .inr () ∧ firstE l = 0) ∨ r = .inl (firstE l)) := by
    refine loopW (fun k (s : Int) => g_R_RatErrors_l0 K l k s) (fun s => ∃ i : Nat, s = i ∧ i ≤ l.length ∧ firstE l = firstE (l.drop i)) (fun s => (l.length - s : Int).toNat) _ ?_ (0 : Int) (by omega) ⟨0, rfl, by omega, by simp⟩
    rintro k _ ⟨i, rfl, h0, h1⟩
    by_cases hi : i < l.length
    · have hx : idx l (i : Int) = some l[i] := idx_nat (List.getElem?_eq_getElem hi)
      have hc := raterr_ok (K := K) (s := l[i]) (hs _ (List.getElem_mem hi)) hK
      rw [drop_firstE hi] at h1
      by_cases c : ratE l[i] = 0
      · right
        rw [if_neg (by simpa using c)] at h1
        refine ⟨(i : Int) + 1, ?_, by omega, i + 1, rfl, by omega, h1⟩
        rw [g_R_RatErrors_l0, if_pos (decide_eq_true (by omega)), hx, bsome, hc, bsome, if_neg (by simpa using c), k64 (by omega) (by omega)]
      · left
        rw [if_pos c] at h1
        refine ⟨.inl (ratE l[i]), ?_, .inr (by rw [h1])⟩
        rw [g_R_RatErrors_l0, if_pos (decide_eq_true (by omega)), hx, bsome, hc, bsome, if_pos (by simpa using c)]
    · left
      have : i = l.length := by omega
      subst this
      rw [List.drop_eq_nil_of_le (Nat.le_refl _)] at h1
      exact ⟨.inr (), by rw [g_R_RatErrors_l0, if_neg (by simp)], .inl ⟨rfl, h1⟩⟩
  obtain ⟨r, h1, h2⟩ := key
  unfold g_R_RatErrors
  rw [h1]
  rcases h2 with ⟨rfl, h2⟩ | rfl
  · rw [bindSr, tu0a, h2]
  · rw [bindSl, tu1a]
theorem two_sizes {a b : ByteArray} (ha : a.size ≤ 1048576) (hb : b.size ≤ 1048576) : ∀ s ∈ [a, b], s.size ≤ 1048576 := fun s hs => by
  simp at hs; rcases hs with rfl | rfl <;> assumption
/-- What an operation on two valid texts comes to. -/
theorem two_ok {a b : ByteArray} {x y z : Rat} {F : Q × Q → Option Q} {N : Nat} (ha : a.size ≤ 1048576) (hb : b.size ≤ 1048576) (h0 : firstE [a, b] = 0) (hx : RTx a x) (hy : RTx b y) (hF : ∀ p q, QV p x → QV q y → ∃ r, F (p, q) = some r ∧ QV r z) (dz : Dl z N) (hN : N ≤ 900000) (hK : 2000000000 < K) :
    (Dl z 2000 → ∃ s, g_rat_two K a b F = some (s, 0) ∧ RTx s z) ∧ (¬ Dl z 2000 → g_rat_two K a b F = some (⟨#[]⟩, 2)) := by
  obtain ⟨p, p1, p2⟩ := rin_ok (K := K) hx ha hK
  obtain ⟨q, q1, q2⟩ := rin_ok (K := K) hy hb hK
  obtain ⟨r, r1, r2⟩ := hF p q p2 q2
  obtain ⟨t1, t2⟩ := rtold_ok (K := K) r2 dz hN hK
  unfold g_rat_two
  rw [checkAll_ok (by simp) (two_sizes ha hb) hK, h0, bsome]
  simp only [bne_self_eq_false, Bool.false_eq_true, if_false]
  rw [p1, bsome, q1, bsome, r1, bsome]
  refine ⟨fun h => ?_, fun h => ?_⟩
  · obtain ⟨s, s1, s2⟩ := t1 h
    exact ⟨s, by rw [s1, bsome], s2⟩
  · rw [t2 h, bsome]
theorem two_err {a b : ByteArray} {F : Q × Q → Option Q} (ha : a.size ≤ 1048576) (hb : b.size ≤ 1048576) (h0 : firstE [a, b] ≠ 0) (hK : 2000000000 < K) : g_rat_two K a b F = some (⟨#[]⟩, firstE [a, b]) := by
  unfold g_rat_two
  rw [checkAll_ok (by simp) (two_sizes ha hb) hK, bsome, if_pos (by simpa using h0)]
theorem two_res {a b : ByteArray} {x y z : Rat} {F : Q × Q → Option Q} {N : Nat} (ha : a.size ≤ 1048576) (hb : b.size ≤ 1048576) (h0 : firstE [a, b] = 0) (hx : RTx a x) (hy : RTx b y) (hF : ∀ p q, QV p x → QV q y → ∃ r, F (p, q) = some r ∧ QV r z) (dz : Dl z N) (hN : N ≤ 900000) (hK : 2000000000 < K) :
    ∃ s e, g_rat_two K a b F = some (s, e) ∧ (Dl z 2000 → e = 0 ∧ RTx s z) := by
  obtain ⟨t1, t2⟩ := two_ok (K := K) ha hb h0 hx hy hF dz hN hK
  by_cases c : Dl z 2000
  · obtain ⟨s, s1, s2⟩ := t1 c
    exact ⟨s, 0, s1, fun _ => ⟨rfl, s2⟩⟩
  · exact ⟨_, _, t2 c, fun h => absurd h c⟩
theorem RTx.zero_iff {s : ByteArray} {x : Rat} (h : RTx s x) : s = ⟨#[48]⟩ ↔ x = 0 := by
  have hz : RTx ⟨#[48]⟩ 0 := rt_mk canT_zero canT_one numT_zero numT_one rfl
  constructor
  · rintro rfl; exact h.val hz
  · rintro rfl; exact h.inj hz
theorem ratProducts_true {a b : ByteArray} (ha : a.size ≤ 1048576) (hb : b.size ≤ 1048576) : ∃ K, g_law_RatProducts K a b = some true := by
  refine ⟨2000000001, ?_⟩
  have hK : 2000000000 < 2000000001 := by omega
  unfold g_law_RatProducts g_rat_Mul g_rat_Div
  rw [ratFact_true, checkAll_ok (by simp) (two_sizes ha hb) hK, errors_ok (by simp) (two_sizes ha hb) hK, bsome]
  simp only [Bool.not_true, Bool.false_eq_true, if_false, bsome]
  by_cases h0 : firstE [a, b] = 0
  · have e1 := firstE_zero h0 a (by simp)
    have e2 := firstE_zero h0 b (by simp)
    obtain ⟨x, hx, dx⟩ := ratE_zero ha e1
    obtain ⟨y, hy, dy⟩ := ratE_zero hb e2
    obtain ⟨s, e, s1, s2⟩ := two_res (K := 2000000001) (F := fun x => g_rat_Q_Mul 2000000001 x.1 x.2) ha hb h0 hx hy (fun p q hp hq => qmul_ok hp hq dx dy (by omega) hK) (dx.mul dy) (by omega) hK
    obtain ⟨t, f, t1, t2⟩ := two_res (K := 2000000001) (F := fun x => g_rat_Q_Quo 2000000001 x.1 x.2) ha hb h0 hx hy (fun p q hp hq => qquo_ok hp hq dx dy (by omega) hK) (dx.div dy) (by omega) hK
    rw [s1, t1, h0, sEq_dec]
    simp only [bne_self_eq_false, Bool.false_eq_true, if_false, bsome, long_two hK]
    by_cases hl : (decide ((a.size : Int) > 100) || decide ((b.size : Int) > 100)) = true
    · by_cases hb0 : b = ⟨#[48]⟩ <;> simp [hl, hb0, bsome] <;> (try (intro h; subst hb0; simp at hl; omega))
    · have la : a.size ≤ 100 := by
        refine Nat.not_lt.1 fun h => hl ?_
        rw [decide_eq_true (by omega)]; rfl
      have lb : b.size ≤ 100 := by
        refine Nat.not_lt.1 fun h => hl ?_
        rw [decide_eq_true (p := (b.size : Int) > 100) (by omega), Bool.or_true]
      have dx2 := hx.dl la
      have dy2 := hy.dl lb
      obtain ⟨rfl, s3⟩ := s2 ((dx2.mul dy2).mono (by omega))
      obtain ⟨rfl, t3⟩ := t2 ((dx2.div dy2).mono (by omega))
      obtain ⟨c, c1, c2⟩ := rmul_ok (K := 2000000001) hx hy dx2 dy2 (by omega) hK
      have hl' : (decide ((a.size : Int) > 100) || decide ((b.size : Int) > 100)) = false := by simpa using hl
      rw [c1, s3.inj c2, hl']
      by_cases hb0 : b = ⟨#[48]⟩
      · rw [decide_eq_true hb0]
        simp [bsome, tu1a, sEq_self]
      · have hy0 : y ≠ 0 := fun e => hb0 (hy.zero_iff.2 e)
        obtain ⟨d, d1, d2⟩ := rdivq_ok (K := 2000000001) hx hy dx2 dy2 hy0 (by omega) hK
        rw [decide_eq_false hb0, d1, t3.inj d2]
        simp [bsome, tu1a, sEq_self]
  · rw [two_err ha hb h0 hK]
    simp [bsome, tu1a, sEq_self, h0]
end Go.Am.Tryd
/- Plain law: RatOfs and RatLists answer true. -/
namespace Go.Am.Tryd
open Go Go.Am Go.Proofs
set_option linter.unusedSimpArgs false
set_option linter.unusedVariables false
set_option maxRecDepth 100000
variable {K : Nat}
end Go.Am.Tryd
/- Plain law: RatLists answers true. -/
namespace Go.Am.Tryd
open Go Go.Am Go.Proofs
set_option linter.unusedSimpArgs false
set_option linter.unusedVariables false
set_option maxRecDepth 100000
variable {K : Nat}
end Go.Am.Tryd
/- From a statement's arguments, read as data, to typed data. -/
namespace Go.Am
open Go Go.Proofs.YtlmgdnhnpkgheaaDoor
set_option linter.unusedSimpArgs false
set_option linter.unusedVariables false
section
variable {H : Type} {P : Program} {G : GM} {n B : Nat} {t e : TypeId} {α β S : Type} {r : RT α} {s : RT β} {I : α → Prop} {J : β → Prop}
theorem bulk_pos {H : Type} (d : DataW H) : 1 ≤ Rows.uptoBulk d := by
  cases d with
  | lit l => cases l <;> simp [Rows.uptoBulk]
  | _ => simp [Rows.uptoBulk]
theorem bulk_len {H : Type} : ∀ (ds : List (DataW H)), ds.length ≤ Rows.uptoBulkAll ds
  | [] => Nat.zero_le _
  | d :: r => by
    have := bulk_len r
    have := bulk_pos d
    simp only [Rows.uptoBulkAll, List.length_cons]; omega
def Arg (H : Type) (P : Program) (G : GM) (n : Nat) (t : TypeId) (r : RT α) (B : Nat) (I : α → Prop) : Prop := ∀ (cs : List Value) (d : DataW H), AData P G n t cs d → Rows.uptoBulk d ≤ B → ∃ x, r.rep G cs x ∧ I x
def ArgS (H : Type) (P : Program) (G : GM) (n : Nat) (ts : List TypeId) (r : RT α) (B : Nat) (I : α → Prop) : Prop :=
  ∀ (css : List (List Value)) (ds : List (DataW H)), AllD (AData P G n) P.cellsOf ts css ds → Rows.uptoBulkAll ds ≤ B → ∃ x, r.rep G css.flatten x ∧ I x
theorem wf_range {k : IntKind} {x : Int} (h : (Lit.int k x).wf = true) : krange k x = true := by
  cases k <;> simp [Lit.wf, IntKind.min, IntKind.max, IntKind.signed, IntKind.bits] at h <;> simp [krange] <;> omega
theorem Arg.mono {I J : α → Prop} (h : Arg H P G n t r B I) (k : ∀ x, I x → J x) : Arg H P G n t r B J := fun cs d hd hb => by
  obtain ⟨x, h1, h2⟩ := h cs d hd hb
  exact ⟨x, h1, k x h2⟩
theorem Arg.int {k : IntKind} (hu : P.underlying t = some (.int k)) : Arg H P G (n + 1) t (rI k) B (fun x => krange k x = true) := fun cs d h _ => by
  unfold AData at h
  simp only [hu] at h
  obtain ⟨x, h1, h2, h3⟩ := h
  exact ⟨x, h1, wf_range h3⟩
theorem Arg.bool (hu : P.underlying t = some .bool) : Arg H P G (n + 1) t rB B (fun _ => True) := fun cs d h _ => by
  unfold AData at h
  simp only [hu] at h
  obtain ⟨x, h1, _⟩ := h
  exact ⟨x, h1, trivial⟩
theorem Arg.str (hu : P.underlying t = some .string) : Arg H P G (n + 1) t rS B (fun x => x.size ≤ B) := fun cs d h hb => by
  unfold AData at h
  simp only [hu] at h
  obtain ⟨x, h1, h2, _⟩ := h
  refine ⟨x, h1, ?_⟩
  rw [h2] at hb
  simp only [Rows.uptoBulk, Array.length_toList] at hb
  have : x.data.size = x.size := rfl
  omega
theorem allD_reps (h : Arg H P G n e r B I) : ∀ (k : Nat) (css : List (List Value)) (ds : List (DataW H)), AllD (AData P G n) P.cellsOf (List.replicate k e) css ds → Rows.uptoBulkAll ds ≤ B → ∃ xs : List α, All2 (r.rep G) css xs ∧ (∀ x ∈ xs, I x) ∧ xs.length = k
  | 0, [], [], _, _ => ⟨[], .nil, by simp, rfl⟩
  | 0, _ :: _, _, h, _ => by simp [List.replicate, AllD] at h
  | 0, [], _ :: _, h, _ => by simp [List.replicate, AllD] at h
  | k + 1, [], _, h, _ => by simp [List.replicate, AllD] at h
  | k + 1, _ :: _, [], h, _ => by simp [List.replicate, AllD] at h
  | k + 1, c :: css, d :: ds, hA, hb => by
    simp only [List.replicate, AllD] at hA
    simp only [Rows.uptoBulkAll] at hb
    obtain ⟨x, h1, h2⟩ := h _ _ hA.1.1 (by omega)
    obtain ⟨xs, h3, h4, h5⟩ := allD_reps h k css ds hA.2 (by omega)
    refine ⟨x :: xs, .cons h1 h3, fun y hy => ?_, by simp [h5]⟩
    rcases List.mem_cons.1 hy with rfl | hy
    · exact h2
    · exact h4 y hy
theorem allD_take {R : TypeId → List Value → DataW H → Prop} {sz : TypeId → Nat} : ∀ (k : Nat) {ts : List TypeId} {cs : List (List Value)} {ds : List (DataW H)}, AllD R sz ts cs ds → AllD R sz (ts.take k) (cs.take k) (ds.take k)
  | 0, _, _, _, _ => by simp [AllD]
  | k + 1, [], [], [], _ => by simp [AllD]
  | k + 1, _ :: _, _ :: _, _ :: _, h => by simp only [List.take_succ_cons]; exact ⟨h.1, allD_take k h.2⟩
theorem allD_len {R : TypeId → List Value → DataW H → Prop} {sz : TypeId → Nat} {e : TypeId} : ∀ (k : Nat) (css : List (List Value)) (ds : List (DataW H)), AllD R sz (List.replicate k e) css ds → ∀ c ∈ css, c.length = sz e
  | 0, [], [], _, c, hc => by simp at hc
  | 0, _ :: _, _, h, _, _ => by simp [List.replicate, AllD] at h
  | 0, [], _ :: _, h, _, _ => by simp [List.replicate, AllD] at h
  | k + 1, [], _, h, _, _ => by simp [List.replicate, AllD] at h
  | k + 1, _ :: _, [], h, _, _ => by simp [List.replicate, AllD] at h
  | k + 1, c :: css, d :: ds, hA, u, hu => by
    simp only [List.replicate, AllD] at hA
    rcases List.mem_cons.1 hu with rfl | hu
    · exact hA.1.2
    · exact allD_len k css ds hA.2 u hu
theorem Arg.sl (hu : P.underlying t = some (.slice e)) (h : Arg H P G n e r B I) : Arg H P G (n + 1) t (rSl r) B (fun xs => xs.length ≤ B ∧ ∀ x ∈ xs, I x) := fun cs d hA hb => by
  unfold AData at hA
  simp only [hu] at hA
  rcases hA with ⟨h1, h2⟩ | ⟨b, len, cap, elems, spare, css, h1, h2, h3, h4, _, h6, h7⟩
  · subst h1
    exact ⟨[], sl_nil, Nat.zero_le _, by simp⟩
  · subst h2
    simp only [Rows.uptoBulk] at hb
    have hlen := bulk_len elems
    have h8 := allD_take len h7
    rw [List.take_replicate, show min len cap = len by omega, ← h3, List.take_left] at h8
    obtain ⟨xs, k1, k2, k3⟩ := allD_reps h elems.length (css.take elems.length) elems h8 (by omega)
    refine ⟨xs, ?_, by omega, k2⟩
    have hcl := allD_len _ _ _ h7
    have hel := k1.length
    by_cases hz : elems.length = 0
    · have hx : xs = [] := List.length_eq_zero_iff.1 (by omega)
      subst hx
      refine ⟨_, [], h1, ⟨by simp, .inr (.inr ⟨b, 0, some 0, cap, by rw [← h3, hz], rfl, .inr rfl⟩)⟩, .nil⟩
    · rcases h6 with h6 | ⟨x, g1, _, g3⟩
      · omega
      · refine ⟨_, css.take elems.length, h1, ⟨k1.each, .inr (.inl ⟨b, 0, some 0, cap, x, by rw [hel, k3, ← h3], g1, ?_, ?_, by rw [hel, k3]; omega, .inr rfl⟩)⟩, k1⟩
        · rw [g3]
          have h9 : css.flatten = (css.take elems.length).flatten ++ (css.drop elems.length).flatten := by rw [← List.flatten_append, List.take_append_drop]
          rw [h9, List.length_append, k1.flatLen, hel]; omega
        · rw [g3, List.drop_zero]
          have h9 : css.flatten = (css.take elems.length).flatten ++ (css.drop elems.length).flatten := by rw [← List.flatten_append, List.take_append_drop]
          have h10 : (css.take elems.length).length * r.sz = (css.take elems.length).flatten.length := by rw [k1.flatLen, hel]
          rw [h9, h10, List.take_left]
theorem Arg.arr {k : Nat} (hu : P.underlying t = some (.array k e)) (h : Arg H P G n e r B I) : Arg H P G (n + 1) t (rArr k r) B (fun xs => xs.length = k ∧ ∀ x ∈ xs, I x) := fun cs d hA hb => by
  unfold AData at hA
  simp only [hu] at hA
  obtain ⟨css, parts, h1, h2, h3⟩ := hA
  subst h2
  simp only [Rows.uptoBulk] at hb
  obtain ⟨xs, k1, k2, k3⟩ := allD_reps h k css parts h3 (by omega)
  exact ⟨xs, ⟨k3, css, h1, k1⟩, k3, k2⟩
theorem ArgS.one (h : Arg H P G n t r B I) : ArgS H P G n [t] r B I := fun css ds hA hb => by
  match css, ds, hA with
  | [c], [d], hA =>
    simp only [Rows.uptoBulkAll] at hb
    obtain ⟨x, h1, h2⟩ := h c d hA.1.1 (by omega)
    exact ⟨x, by simpa using h1, h2⟩
  | [], _, hA => simp [AllD] at hA
  | _ :: _ :: _, [], hA => simp [AllD] at hA
  | _ :: _ :: _, [_], hA => simp [AllD] at hA
  | _ :: _ :: _, _ :: _ :: _, hA => simp [AllD] at hA
  | [_], [], hA => simp [AllD] at hA
  | [_], _ :: _ :: _, hA => simp [AllD] at hA
theorem ArgS.cons {ts : List TypeId} (h : Arg H P G n t r B I) (k : ArgS H P G n ts s B J) : ArgS H P G n (t :: ts) (rP r s) B (fun x => I x.1 ∧ J x.2) := fun css ds hA hb => by
  match css, ds, hA with
  | c :: css, d :: ds, hA =>
    simp only [Rows.uptoBulkAll] at hb
    obtain ⟨x, h1, h2⟩ := h c d hA.1.1 (by omega)
    obtain ⟨y, h3, h4⟩ := k css ds hA.2 (by omega)
    exact ⟨(x, y), ⟨c, css.flatten, by simp, h1, h3⟩, h2, h4⟩
  | [], _, hA => simp [AllD] at hA
  | _ :: _, [], hA => simp [AllD] at hA
theorem Arg.struct {fs : Array Field} {ts : List TypeId} (hu : P.underlying t = some (.struct fs)) (hts : fs.toList.map (·.type) = ts) (h : ArgS H P G n ts r B I) (f : S → α) (g : α → S) (hg : ∀ p, f (g p) = p) : Arg H P G (n + 1) t (rIso r f) B (fun x => I (f x)) := fun cs d hA hb => by
  unfold AData at hA
  simp only [hu] at hA
  obtain ⟨css, parts, h1, h2, h3⟩ := hA
  subst h2
  simp only [Rows.uptoBulk] at hb
  rw [hts] at h3
  obtain ⟨p, k1, k2⟩ := h css parts h3 (by omega)
  exact ⟨g p, by rw [h1]; show r.rep G css.flatten (f (g p)); rw [hg]; exact k1, by show I (f (g p)); rw [hg]; exact k2⟩
theorem AArgs.cons_inv {ts : List TypeId} {avs : List Value} {ds : List (DataW H)} (h : AArgs P G n (t :: ts) avs ds) : ∃ v vs d dr, avs = v :: vs ∧ ds = d :: dr ∧ AVal P G n t v d ∧ AArgs P G n ts vs dr := by
  match avs, ds, h with
  | v :: vs, d :: dr, h => exact ⟨v, vs, d, dr, rfl, rfl, h.1, h.2⟩
  | [], _, h => simp [AArgs] at h
  | _ :: _, [], h => simp [AArgs] at h
theorem AArgs.nil_inv {avs : List Value} {ds : List (DataW H)} (h : AArgs P G n [] avs ds) : avs = [] ∧ ds = [] := by
  match avs, ds, h with
  | [], [], h => exact ⟨rfl, rfl⟩
  | [], _ :: _, h => simp [AArgs] at h
  | _ :: _, _, h => simp [AArgs] at h
/-- A single cell's value. -/
theorem AVal.one {v : Value} {d : DataW H} (hu : isAggT P t = some false) (h : AVal P G n t v d) : AData P G n t [v] d := by
  unfold AVal at h
  unfold isAggT at hu
  split at h
  · rename_i q; rw [q] at hu; cases hu
  · rename_i q; rw [q] at hu; cases hu
  · exact h
theorem AVal.agg {v : Value} {d : DataW H} (hu : isAggT P t = some true) (h : AVal P G n t v d) : ∃ cs, v = .agg (List.toArray cs) ∧ AData P G n t cs d := by
  unfold AVal at h
  unfold isAggT at hu
  split at h
  · exact h
  · exact h
  · rename_i q1 q2
    split at hu
    · rename_i q; exact absurd q (q1 _)
    · rename_i q; exact absurd q (q2 _ _)
    · cases hu
    · cases hu
theorem Ow.empty (A : AH) : Ow A.get A [] := ⟨fun _ _ h => h, fun i e h => by simp at h, fun i j e e' _ h => by simp at h, fun i e h => by simp at h⟩
theorem CR.done {f : FuncId} {args : List Value} {A : AH} {b : Value} (h : CR P f args A.get A [] fun v _ _ => v = b) : ∃ A', ACalls P f args A b A' := by
  obtain ⟨v, H', G', h1, _, _, rfl⟩ := h
  exact ⟨H', h1⟩
end
end Go.Am
/- RatProducts over the statement's reading of its arguments. -/
namespace Go.Am.Tryd
open Go Go.Am Go.Proofs Go.Proofs.YtlmgdnhnpkgheaaDoor
set_option linter.unusedVariables false
set_option linter.unusedSimpArgs false
set_option maxRecDepth 20000
theorem ratProducts {H : Type} (A : AH) (avs : List Value) (ds : List (DataW H)) (hb : Rows.uptoBulkAll ds ≤ 1048576) (ha : AArgs Tryd.prog A.get 1 [40, 40] avs ds) : ∃ A', ACalls Tryd.prog 11 avs A (.bool true) A' := by
  obtain ⟨v0, vs0, d0, ds0, rfl, rfl, a0, ha⟩ := AArgs.cons_inv ha
  obtain ⟨v1, vs1, d1, ds1, rfl, rfl, a1, ha⟩ := AArgs.cons_inv ha
  obtain ⟨rfl, rfl⟩ := AArgs.nil_inv ha
  simp only [Rows.uptoBulkAll] at hb
  obtain ⟨x0, r0, i0⟩ := ((Arg.str (t := 40) (by kernel_rfl)) : Arg H Tryd.prog A.get 1 40 _ 1048576 _) [v0] d0 (AVal.one (by kernel_rfl) a0) (by omega)
  obtain rfl := (List.cons.inj r0).1
  obtain ⟨x1, r1, i1⟩ := ((Arg.str (t := 40) (by kernel_rfl)) : Arg H Tryd.prog A.get 1 40 _ 1048576 _) [v1] d1 (AVal.one (by kernel_rfl) a1) (by omega)
  obtain rfl := (List.cons.inj r1).1
  obtain ⟨K, hK⟩ := ratProducts_true i0 i1
  exact CR.done (g_law_RatProducts_ok K x0 x1 (Ow.empty A) true hK)
end Go.Am.Tryd
