/- Plain law: the reference's texts of digits. -/
import Derived.Test.YtlmgdnhnpkgheaaDoorG4Z7
import Derived.Test.YtlmgdnhnpkgheaaDoorG2Z7
import Derived.Test.YtlmgdnhnpkgheaaDoorRows
namespace Go.Am.Tryd
open Go Go.Am Go.Proofs
set_option linter.unusedSimpArgs false
set_option linter.unusedVariables false
variable {K : Nat}
theorem head_bidx {s : ByteArray} {c : Int} {l : List Int} (h : bytesOf s = c :: l) : bidx s 0 = some c := by rw [bidx_eq, h]; rfl
theorem strip_loop : ∀ n k (s : ByteArray), s.size = n → n < k → 0 < n → (bytesOf s).all digT = true → ∃ t, g_R_strip_l0 K k s = some t ∧ CanT t ∧ numT t = numT s := by
  intro n
  induction n with
  | zero => intro k s _ _ h; omega
  | succ n ih =>
    intro k s hs hk _ hd
    obtain ⟨k, rfl⟩ : ∃ m, k = m + 1 := ⟨k - 1, by omega⟩
    have hn := bytesOf_length s
    cases hb : bytesOf s with
    | nil => rw [hb] at hn; simp at hn; omega
    | cons c l =>
      rw [g_R_strip_l0, head_bidx hb]
      by_cases h1 : (s.size : Int) > 1
      · by_cases h2 : c = 48
        · obtain ⟨t, h3, h4, h5⟩ := ssl_tail hb
          have hl : l.length = n := by rw [hb] at hn; simp at hn; omega
          obtain ⟨r, h6, h7, h8⟩ := ih k t (by omega) (by omega) (by omega) (by rw [h4]; rw [hb] at hd; simp only [List.all_cons, Bool.and_eq_true] at hd; exact hd.2)
          refine ⟨r, ?_, h7, ?_⟩
          · simp [h1, h2, h3, h6, tu1]
          · rw [h8, numT_cons (s := s) (t := t) (c := c) (by rw [hb, h4]), h2]; simp
        · refine ⟨s, by simp [h1, h2, tu1], ⟨by omega, hd, fun e => ?_⟩, rfl⟩
          rw [hb] at e; simp at e; exact absurd e h2
      · exact ⟨s, by simp [h1, tu1], ⟨by omega, hd, fun e => by omega⟩, rfl⟩
theorem strip_ref {s : ByteArray} (hs : s.size ≤ 1048576) (h0 : 0 < s.size) (hK : s.size < K) (hd : (bytesOf s).all digT = true) : ∃ t, g_R_strip K s = some t ∧ CanT t ∧ numT t = numT s := by
  obtain ⟨t, h1, h2⟩ := strip_loop (K := K) s.size K s rfl hK h0 hd
  exact ⟨t, by unfold g_R_strip; rw [h1]; rfl, h2⟩
theorem digit_ref {s : ByteArray} (hs : s.size ≤ 1048576) (hd : (bytesOf s).all digT = true) (k : Nat) (hk : k ≤ 1048577) : g_R_digit K s k = some ((digsT s).getD k 0) := by
  have hn := bytesOf_length s
  unfold g_R_digit
  by_cases h : k < s.size
  · have h' : ((k : Int) < (s.size : Int)) := by omega
    have hi : s.size - 1 - k < (bytesOf s).length := by omega
    have e1 : kwrap .i64 (kwrap .i64 ((s.size : Int) - 1) - (k : Int)) = ((s.size - 1 - k : Nat) : Int) := by
      rw [kw (a := (s.size : Int) - 1) (by omega) (by omega), kw (by omega) (by omega)]; omega
    have hx : (bytesOf s)[s.size - 1 - k]? = some (bytesOf s)[s.size - 1 - k] := List.getElem?_eq_getElem hi
    have hc := List.all_eq_true.1 hd _ (List.getElem_mem hi)
    simp only [digT, Bool.and_eq_true, decide_eq_true_eq] at hc
    rw [decide_eq_true h', if_pos rfl, e1, bidx_eq, idx_nat hx]
    have hg : (digsT s).getD k 0 = (bytesOf s)[s.size - 1 - k] - 48 := by
      unfold digsT
      rw [List.getD_eq_getElem?_getD, List.getElem?_reverse (by simp; omega), List.length_map, hn, List.getElem?_map, hx]
      rfl
    rw [hg]
    generalize (bytesOf s)[s.size - 1 - k] = c at hc
    have e2 : kwrap .u8 (c - 48) = c - 48 := kwrap_in (by simp [krange]; omega)
    have e3 : IntKind.wrap .i64 (c - 48) = c - 48 := by rw [← kwrap_eq]; exact kw (by omega) (by omega)
    simp [e2, e3]
  · have h' : ¬ ((k : Int) < (s.size : Int)) := by omega
    rw [decide_eq_false h', if_neg (by simp)]
    congr 1
    rw [List.getD_eq_getElem?_getD, List.getElem?_eq_none (by rw [digsT_len]; omega)]
    rfl
theorem u8_in {x : Int} (h : 0 ≤ x) (h' : x ≤ 255) : kwrap .u8 x = x := kwrap_in (by simp [krange]; omega)
theorem text_loop {l : List Int} (hl : l.length ≤ 1048577) (hK : l.length < K) (hd : DigB 10 l) : g_R_text_l0 K l K (List.replicate l.length 0) 0 = some (l.map (48 + ·)).reverse := by
  suffices h : ∃ r, g_R_text_l0 K l K (List.replicate l.length 0) 0 = some r ∧ r = (l.map (48 + ·)).reverse by
    obtain ⟨r, h1, rfl⟩ := h; exact h1
  refine loop_inv (S := List Int) l.length (fun k s i => g_R_text_l0 K l k s i) (fun b i => b.length = l.length ∧ ∀ j < l.length, b.getD j 0 = if l.length - 1 - j < i then 48 + l.getD (l.length - 1 - j) 0 else 0) _ ?_ ?_ K _ hK ⟨by simp, fun j hj => by simp [List.getD_eq_getElem?_getD, hj]⟩
  · rintro k b i hi ⟨hb, hj⟩
    right
    have hp : l.length - 1 - i < b.length := by omega
    have e1 : kwrap .i64 (kwrap .i64 ((l.length : Int) - 1) - (i : Int)) = ((l.length - 1 - i : Nat) : Int) := by
      rw [kw (a := (l.length : Int) - 1) (by omega) (by omega), kw (by omega) (by omega)]; omega
    have hx := hd (l.getD i 0) (by rw [List.getD_eq_getElem?_getD, List.getElem?_eq_getElem hi]; simp)
    have e2 : IntKind.wrap .u8 (kwrap .i64 (48 + l.getD i 0)) = 48 + l.getD i 0 := by
      rw [kw (a := 48 + l.getD i 0) (by omega) (by omega), ← kwrap_eq]; exact u8_in (by omega) (by omega)
    refine ⟨b.set (l.length - 1 - i) (48 + l.getD i 0), ⟨by simp [hb], fun j hjl => ?_⟩, ?_⟩
    · have hg : (b.set (l.length - 1 - i) (48 + l.getD i 0)).getD j 0 = if j = l.length - 1 - i then 48 + l.getD i 0 else b.getD j 0 := getD_set hp
      rw [hg, hj j hjl]
      by_cases e : j = l.length - 1 - i
      · have e3 : l.length - 1 - j = i := by omega
        rw [if_pos e, e3, if_pos (Nat.lt_succ_self i)]
      · rw [if_neg e]
        by_cases e3 : l.length - 1 - j < i
        · rw [if_pos e3, if_pos (by omega)]
        · rw [if_neg e3, if_neg (by omega)]
    · show g_R_text_l0 K l (k + 1) b i = _
      rw [g_R_text_l0, lt_nat hi, if_pos rfl, idx_getD hi]
      simp only [Option.bind_some, e1, idx_getD hp, e2, Int.toNat_natCast, kw1 hi (by omega)]
  · rintro k b i rfl ⟨hb, hj⟩
    refine ⟨b, ?_, ?_⟩
    · show g_R_text_l0 K l (k + 1) b l.length = _
      rw [g_R_text_l0, nlt_nat (Nat.le_refl _)]; simp
    · apply List.ext_getElem (by simp [hb])
      intro j h1 h2
      have h3 := hj j (by omega)
      rw [if_pos (by omega), List.getD_eq_getElem?_getD, List.getElem?_eq_getElem h1, List.getD_eq_getElem?_getD, List.getElem?_eq_getElem (show l.length - 1 - j < l.length by omega)] at h3
      simp at h3
      simp [h3]
/-- The text of digits. -/
theorem text_ref {l : List Int} (hl : l.length ≤ 1048575) (h0 : l ≠ []) (hK : l.length + 1 < K) (hd : DigB 10 l) : ∃ t, g_R_text K l = some t ∧ CanT t ∧ numT t = valB 10 l := by
  have hlen : 0 < l.length := by cases l with | nil => exact absurd rfl h0 | cons _ _ => simp
  have hrange : ∀ x ∈ (l.map (48 + ·)).reverse, 0 ≤ x ∧ x ≤ 255 := fun x hx => by
    rw [List.mem_reverse, List.mem_map] at hx
    obtain ⟨d, h1, rfl⟩ := hx
    have := hd d h1
    omega
  have hb := bytesOf_str _ hrange
  have hz : bytesOf ((⟨#[48]⟩ : ByteArray) ++ strOfNums (l.map (48 + ·)).reverse) = 48 :: (l.map (48 + ·)).reverse := by
    rw [bytesOf_append, hb]; rfl
  have hsz : ((⟨#[48]⟩ : ByteArray) ++ strOfNums (l.map (48 + ·)).reverse).size = l.length + 1 := by
    rw [← bytesOf_length, hz]; simp
  have hdg : (bytesOf ((⟨#[48]⟩ : ByteArray) ++ strOfNums (l.map (48 + ·)).reverse)).all digT = true := by
    rw [hz, List.all_eq_true]
    intro x hx
    rcases List.mem_cons.1 hx with rfl | hx
    · rfl
    · rw [List.mem_reverse, List.mem_map] at hx
      obtain ⟨d, h1, rfl⟩ := hx
      have := hd d h1
      simp [digT]; omega
  obtain ⟨t, h1, h2, h3⟩ := strip_ref (K := K) (s := (⟨#[48]⟩ : ByteArray) ++ strOfNums (l.map (48 + ·)).reverse) (by omega) (by omega) (by omega) hdg
  refine ⟨t, ?_, h2, ?_⟩
  · unfold g_R_text
    rw [if_pos (by omega), Int.toNat_natCast, text_loop (by omega) (by omega) hd]
    have e1 : (⟨#[48]⟩ : ByteArray).size = 1 := rfl
    simp only [Option.bind_some, tu1, List.length_reverse, List.length_map, strOfNums_size, e1]
    rw [if_pos hlen, if_pos (by omega), h1]
    rfl
  · rw [h3]
    unfold numT digsT
    rw [hz, List.map_cons, List.reverse_cons, valB_app, List.map_reverse, List.reverse_reverse, List.map_map]
    have : l.map ((fun x => x - 48) ∘ (fun x => 48 + x)) = l := by
      conv => rhs; rw [← List.map_id l]
      apply List.map_congr_left
      intro x _
      show 48 + x - 48 = x
      omega
    rw [this]
    simp [valB]
end Go.Am.Tryd
/- Plain law: the reference's sum and difference of texts. -/
namespace Go.Am.Tryd
open Go Go.Am Go.Proofs
set_option linter.unusedSimpArgs false
set_option linter.unusedVariables false
variable {K : Nat}
end Go.Am.Tryd
/- Plain law: the reference's comparison, product, quotient and divisor of texts. -/
namespace Go.Am.Tryd
open Go Go.Am Go.Proofs
set_option linter.unusedSimpArgs false
set_option linter.unusedVariables false
variable {K : Nat}
/-! ### Canonical texts -/
theorem numT_nonneg {s : ByteArray} (h : (bytesOf s).all digT = true) : 0 ≤ numT s := numB_nonneg h
theorem numT_lt {s : ByteArray} (h : (bytesOf s).all digT = true) : numT s < 10 ^ s.size := by
  have := numB_lt h
  rwa [bytesOf_length] at this
theorem canT_zero : CanT ⟨#[48]⟩ := ⟨by decide, rfl, fun _ => rfl⟩
theorem numT_zero : numT ⟨#[48]⟩ = 0 := rfl
theorem canT_one : CanT ⟨#[49]⟩ := ⟨by decide, rfl, fun h => by simp [bytesOf] at h⟩
theorem numT_one : numT ⟨#[49]⟩ = 1 := rfl
theorem canT_eq0 {s : ByteArray} (h : CanT s) : numT s = 0 ↔ s = ⟨#[48]⟩ := ⟨fun e => numT_inj h canT_zero (by rw [e, numT_zero]), fun e => by rw [e, numT_zero]⟩
/-! ### Products -/
theorem rmul_in {b : ByteArray} {out : List Int} {u : Int} {i : Nat} (hb : b.size ≤ 1000000) (hl : i + b.size < out.length) (ho : out.length ≤ 8000000) (hK : 2000000000 < K) (hu : 0 ≤ u ∧ u ≤ 9) (db : (bytesOf b).all digT = true) (d0 : DigB 10 out) :
    ∃ r : List Int, g_R_NatMul_l2 K b (i : Int) u K out 0 = some r ∧ r.length = out.length ∧ (∀ j, 0 ≤ r.getD j 0 ∧ r.getD j 0 ≤ 90) ∧ valB 10 r = valB 10 out + 10 ^ i * (u * numT b) := by
  have dx := digsT_dig db
  have lx := digsT_len b
  refine loopW (fun k (s : List Int × Int) => g_R_NatMul_l2 K b (i : Int) u k s.1 s.2) (fun s => ∃ q : Nat, s.2 = q ∧ q ≤ b.size ∧ s.1.length = out.length ∧ (∀ j, 0 ≤ s.1.getD j 0 ∧ s.1.getD j 0 ≤ 90) ∧ (∀ j, i + q ≤ j → s.1.getD j 0 ≤ 9) ∧ valB 10 s.1 = valB 10 out + 10 ^ i * (u * valB 10 ((digsT b).take q))) (fun s => (b.size - s.2 : Int).toNat) _ ?_ ((out, 0) : List Int × Int) (by simp; omega) ⟨0, rfl, by omega, rfl, fun j => by have := getD_dig (by omega) d0 j; dsimp only; omega, fun j _ => by have := getD_dig (by omega) d0 j; dsimp only; omega, by simp [valB]⟩
  rintro k ⟨o, _⟩ ⟨q, rfl, h0, h1, h2, h3, h4⟩
  dsimp only at h1 h2 h3 h4 ⊢
  by_cases hq : q < b.size
  · right
    have ey := getD_dig (by omega) dx q
    have eo := h2 (i + q)
    have eo9 := h3 (i + q) (Nat.le_refl _)
    have ty := valB_take 10 (digsT b) q
    have hdg := digit_ref (K := K) (s := b) (by omega) db q (by omega)
    have hm : 0 ≤ u * (digsT b).getD q 0 ∧ u * (digsT b).getD q 0 ≤ 81 := by
      have := mul_le hu.1 (show (digsT b).getD q 0 ≤ 9 by omega)
      exact ⟨mul_nn hu.1 ey.1, by omega⟩
    have hset := fun d => valB_set 10 o (i + q) d (by omega)
    have hgs := fun d j => getD_set (cs := o) (i := i + q) (j := j) (v := d) (by omega)
    have e1 : ((i : Int) + (q : Int)) = ((i + q : Nat) : Int) := by omega
    generalize hw : u * (digsT b).getD q 0 = w at hm
    generalize ho : o.getD (i + q) 0 = z at eo eo9 hset
    refine ⟨(o.set (i + q) (z + w), (q : Int) + 1), ?_, by dsimp only; omega, q + 1, rfl, by omega, by simp [h1], fun j => ?_, fun j hj => ?_, ?_⟩
    · rw [g_R_NatMul_l2, hdg]
      simp (discharger := omega) only [decide_eq_true_eq, if_pos, if_neg, if_true, if_false, bsome, beq_iff, bne_iff, idxI, bidxI, sslI, lslI, k64, ku64, ku32, ku8, i64w, u64w, u32w, u8w, tdivI, tmodI, tu0a, tu1a, tu2a, tu3a, tu4a, tu5a, lta, bindSl, bindSr, outSl, outSr, Int.toNat_natCast, List.length_cons, List.length_nil, List.length_set, Int.toNat_zero, List.replicate_zero, e1, hw, ho]
    · dsimp only; rw [hgs]; split
      · omega
      · exact h2 j
    · dsimp only; rw [hgs, if_neg (by omega)]; exact h3 j (by omega)
    · dsimp only
      rw [hset, h4, ty, ← hw, Int.pow_add]
      grind
  · left
    have : q = b.size := by omega
    subst this
    rw [List.take_of_length_le (by omega)] at h4
    exact ⟨o, by rw [g_R_NatMul_l2]; simp (discharger := omega) only [decide_eq_true_eq, if_pos, if_neg, if_true, if_false, bsome, beq_iff, bne_iff, idxI, bidxI, sslI, lslI, k64, ku64, ku32, ku8, i64w, u64w, u32w, u8w, tdivI, tmodI, tu0a, tu1a, tu2a, tu3a, tu4a, tu5a, lta, bindSl, bindSr, outSl, outSr, Int.toNat_natCast, List.length_cons, List.length_nil, List.length_set, Int.toNat_zero, List.replicate_zero], h1, h2, h4⟩
theorem rmul_carry {c v : List Int} (hv : v.length + 1 = c.length) (hl : c.length ≤ 8000000) (hK : 2000000000 < K) (hc : ∀ j, 0 ≤ c.getD j 0 ∧ c.getD j 0 ≤ 90) :
    ∃ r : List Int, g_R_NatMul_l4 K v K c 0 = some r ∧ r.length = c.length ∧ (∀ j, 0 ≤ r.getD j 0) ∧ (∀ j < v.length, r.getD j 0 ≤ 9) ∧ valB 10 r = valB 10 c := by
  refine loopW (fun k (s : List Int × Int) => g_R_NatMul_l4 K v k s.1 s.2) (fun s => ∃ i : Nat, s.2 = i ∧ i ≤ v.length ∧ s.1.length = c.length ∧ (∀ j, 0 ≤ s.1.getD j 0 ∧ s.1.getD j 0 ≤ 100) ∧ (∀ j, i < j → s.1.getD j 0 ≤ 90) ∧ (∀ j < i, s.1.getD j 0 ≤ 9) ∧ valB 10 s.1 = valB 10 c) (fun s => (v.length - s.2 : Int).toNat) _ ?_ ((c, 0) : List Int × Int) (by simp; omega) ⟨0, rfl, by omega, rfl, fun j => by have := hc j; dsimp only; omega, fun j _ => by have := hc j; dsimp only; omega, fun j hj => by omega, rfl⟩
  rintro k ⟨o, _⟩ ⟨i, rfl, h0, h1, h2, h3, h4, h5⟩
  dsimp only at h1 h2 h3 h4 h5 ⊢
  by_cases hi : i < v.length
  · right
    have e1 : ((i : Int) + 1).toNat = i + 1 := by omega
    have b1 := h2 i
    have b2 := h2 (i + 1)
    have b3 := h3 (i + 1) (by omega)
    by_cases h9 : o.getD i 0 > 9
    · generalize hz : o.getD i 0 = z at *
      generalize hz1 : o.getD (i + 1) 0 = z1 at *
      have hdm := Int.emod_add_mul_ediv z 10
      have hset := fun d => valB_set 10 o (i + 1) d (by omega)
      have hset2 := fun d e => valB_set 10 (o.set (i + 1) d) i e (by simp; omega)
      have hgs := fun d j => getD_set (cs := o) (i := i + 1) (j := j) (v := d) (by omega)
      have hgs2 := fun d e j => getD_set (cs := o.set (i + 1) d) (i := i) (j := j) (v := e) (by simp; omega)
      have hgi := fun d => hgs d i
      simp only [show ¬ i = i + 1 by omega, if_false, hz] at hgi
      have hsi : ∀ d, idx (o.set (i + 1) d) (i : Int) = some z := fun d => by rw [idxI (by omega) (by simp; omega), Int.toNat_natCast, hgi]
      refine ⟨((o.set (i + 1) (z1 + z / 10)).set i (z % 10), (i : Int) + 1), ?_, by dsimp only; omega, i + 1, rfl, by omega, by simp [h1], fun j => ?_, fun j hj => ?_, fun j hj => ?_, ?_⟩
      · rw [g_R_NatMul_l4]
        simp (discharger := omega) only [decide_eq_true_eq, if_pos, if_neg, if_true, if_false, bsome, beq_iff, bne_iff, idxI, bidxI, sslI, lslI, k64, ku64, ku32, ku8, i64w, u64w, u32w, u8w, tdivI, tmodI, tu0a, tu1a, tu2a, tu3a, tu4a, tu5a, lta, bindSl, bindSr, outSl, outSr, Int.toNat_natCast, List.length_cons, List.length_nil, List.length_set, Int.toNat_zero, List.replicate_zero, e1, hz, hz1, hsi]
      · dsimp only; rw [hgs2, hgs]
        have := h2 j
        split
        · omega
        · split <;> omega
      · dsimp only; rw [hgs2, hgs, if_neg (by omega), if_neg (by omega)]; exact h3 j (by omega)
      · dsimp only; rw [hgs2]
        split
        · omega
        · rw [hgs, if_neg (by omega)]; exact h4 j (by omega)
      · dsimp only
        rw [hset2, hset, hgi, hz1, h5, Int.pow_succ]
        grind
    · refine ⟨(o, (i : Int) + 1), ?_, by dsimp only; omega, i + 1, rfl, by omega, h1, h2, fun j hj => h3 j (by omega), fun j hj => ?_, h5⟩
      · have e : decide (o.getD i 0 > 9) = false := decide_eq_false h9
        rw [g_R_NatMul_l4]
        simp (discharger := omega) only [decide_eq_true_eq, if_pos, if_neg, if_true, if_false, bsome, beq_iff, bne_iff, idxI, bidxI, sslI, lslI, k64, ku64, ku32, ku8, i64w, u64w, u32w, u8w, tdivI, tmodI, tu0a, tu1a, tu2a, tu3a, tu4a, tu5a, lta, bindSl, bindSr, outSl, outSr, Int.toNat_natCast, List.length_cons, List.length_nil, List.length_set, Int.toNat_zero, List.replicate_zero, e, Bool.false_eq_true]
      · by_cases hj2 : j = i
        · subst hj2; dsimp only; omega
        · exact h4 j (by omega)
  · left
    have : i = v.length := by omega
    subst this
    exact ⟨o, by rw [g_R_NatMul_l4]; simp (discharger := omega) only [decide_eq_true_eq, if_pos, if_neg, if_true, if_false, bsome, beq_iff, bne_iff, idxI, bidxI, sslI, lslI, k64, ku64, ku32, ku8, i64w, u64w, u32w, u8w, tdivI, tmodI, tu0a, tu1a, tu2a, tu3a, tu4a, tu5a, lta, bindSl, bindSr, outSl, outSr, Int.toNat_natCast, List.length_cons, List.length_nil, List.length_set, Int.toNat_zero, List.replicate_zero], h1, fun j => (h2 j).1, h4, h5⟩
theorem kr1 {A B p q X : Int} : A * B + p * (q * B) = (A + p * q) * B := by grind
theorem rmul_loop {a b : ByteArray} (ha : a.size ≤ 500000) (hb : b.size ≤ 500000) (hK : 2000000000 < K) (da : (bytesOf a).all digT = true) (db : (bytesOf b).all digT = true) :
    ∃ r : List Int, g_R_NatMul_l0 K a b K (List.replicate (a.size + b.size + 1) 0) 0 = some r ∧ r.length = a.size + b.size + 1 ∧ DigB 10 r ∧ valB 10 r = numT a * numT b := by
  have dx := digsT_dig da
  have lx := digsT_len a
  refine loopW (fun k (s : List Int × Int) => g_R_NatMul_l0 K a b k s.1 s.2) (fun s => ∃ i : Nat, s.2 = i ∧ i ≤ a.size ∧ s.1.length = a.size + b.size + 1 ∧ DigB 10 s.1 ∧ valB 10 s.1 = valB 10 ((digsT a).take i) * numT b) (fun s => (a.size - s.2 : Int).toNat) _ ?_ ((List.replicate (a.size + b.size + 1) 0, 0) : List Int × Int) (by simp; omega) ⟨0, rfl, by omega, by simp, .zeros (by omega) _, by simp [valB, valB_zeros]⟩
  rintro k ⟨o, _⟩ ⟨i, rfl, h0, h1, h2, h4⟩
  dsimp only at h1 h2 h4 ⊢
  by_cases hi : i < a.size
  · right
    have ex := getD_dig (by omega) dx i
    have tx := valB_take 10 (digsT a) i
    have hdg := digit_ref (K := K) (s := a) (by omega) da i (by omega)
    obtain ⟨c, c1, c2, c3, c4⟩ := rmul_in (K := K) (b := b) (out := o) (u := (digsT a).getD i 0) (i := i) (by omega) (by omega) (by omega) hK ⟨ex.1, by omega⟩ db h2
    obtain ⟨v, hv⟩ : ∃ v, lsl c 0 ((c.length : Int) - 1) = some v := ⟨_, lslI (by omega) (by omega) (by omega)⟩
    have hvl : v.length + 1 = c.length := by
      rw [lslI (by omega) (by omega) (by omega)] at hv
      cases hv
      rw [List.length_take, List.length_drop]
      omega
    obtain ⟨r, r1, r2, r3, r4, r5⟩ := rmul_carry (K := K) (c := c) (v := v) hvl (by omega) hK c3
    have hval : valB 10 r = valB 10 ((digsT a).take (i + 1)) * numT b := by
      rw [r5, c4, h4, tx, kr1 (X := 0)]
    -- no digit is left over
    have htop : r.getD v.length 0 = 0 := by
      have s1 := valB_split 10 r v.length (by omega)
      have dlow : DigB 10 (r.take v.length) := fun d hd => by
        obtain ⟨j, hj, rfl⟩ := List.mem_iff_getElem.1 hd
        rw [List.length_take] at hj
        have q1 := r3 j
        have q2 := r4 j (by omega)
        rw [List.getElem_take]
        rw [List.getD_eq_getElem?_getD, List.getElem?_eq_getElem (by omega)] at q1 q2
        simp at q1 q2
        omega
      have s2 := valB_nonneg (B := 10) (by omega) _ dlow
      have s3 : r.drop v.length = [r.getD v.length 0] := by
        rw [List.drop_eq_getElem_cons (by omega), List.drop_eq_nil_of_le (by omega), List.getD_eq_getElem?_getD, List.getElem?_eq_getElem (by omega)]; rfl
      rw [s3] at s1
      simp only [valB, Int.mul_zero, Int.add_zero] at s1
      have t1 := valB_lt (B := 10) (by omega) _ (dx.take (i + 1))
      have t2 := numT_lt db
      have t3 := numT_nonneg db
      have t4 := valB_nonneg (B := 10) (by omega) _ (dx.take (i + 1))
      have t5 : (10 : Int) ^ ((digsT a).take (i + 1)).length ≤ 10 ^ a.size := ipow_le (by omega) (by rw [List.length_take]; omega)
      have t6 : valB 10 r < 10 ^ v.length := by
        rw [hval, show v.length = a.size + b.size by omega, Int.pow_add]
        have p0 : (0 : Int) < 10 ^ b.size := Int.pow_pos (by omega)
        have m1 := mul_le t4 (show numT b ≤ 10 ^ b.size by omega)
        have m2 := Int.mul_lt_mul_of_pos_right (show valB 10 ((digsT a).take (i + 1)) < 10 ^ a.size by omega) p0
        omega
      refine Int.le_antisymm (Int.not_lt.1 fun hlt => ?_) (r3 _)
      have p0 : (0 : Int) < 10 ^ v.length := Int.pow_pos (by omega)
      have := mul_le (Int.le_of_lt p0) (show 1 ≤ r.getD v.length 0 by omega)
      omega
    have dr : DigB 10 r := fun d hd => by
      obtain ⟨j, hj, rfl⟩ := List.mem_iff_getElem.1 hd
      have q1 := r3 j
      have q2 : r.getD j 0 ≤ 9 := by
        by_cases hjv : j < v.length
        · exact r4 j hjv
        · have : j = v.length := by omega
          subst this; omega
      rw [List.getD_eq_getElem?_getD, List.getElem?_eq_getElem hj] at q1 q2
      simp at q1 q2
      omega
    refine ⟨(r, (i : Int) + 1), ?_, by dsimp only; omega, i + 1, rfl, by omega, by dsimp only; omega, dr, hval⟩
    have hcl : (c.length : Int) - 1 = c.length - 1 := rfl
    rw [g_R_NatMul_l0, hdg, if_pos (decide_eq_true (by omega)), bsome, c1, bsome, tu1a, k64 (by omega) (by omega), hv, bsome, r1, bsome, tu1a, k64 (by omega) (by omega)]
  · left
    have : i = a.size := by omega
    subst this
    rw [List.take_of_length_le (by omega)] at h4
    exact ⟨o, by rw [g_R_NatMul_l0]; simp (discharger := omega) only [decide_eq_true_eq, if_pos, if_neg, if_true, if_false, bsome, beq_iff, bne_iff, idxI, bidxI, sslI, lslI, k64, ku64, ku32, ku8, i64w, u64w, u32w, u8w, tdivI, tmodI, tu0a, tu1a, tu2a, tu3a, tu4a, tu5a, lta, bindSl, bindSr, outSl, outSr, Int.toNat_natCast, List.length_cons, List.length_nil, List.length_set, Int.toNat_zero, List.replicate_zero], h1, h2, h4⟩
theorem mul_ref {a b : ByteArray} (ha : a.size ≤ 500000) (hb : b.size ≤ 500000) (hK : 2000000000 < K) (da : (bytesOf a).all digT = true) (db : (bytesOf b).all digT = true) : ∃ t, g_R_NatMul K a b = some t ∧ CanT t ∧ numT t = numT a * numT b := by
  obtain ⟨r, h1, h2, h3, h4⟩ := rmul_loop ha hb hK da db
  obtain ⟨t, t1, t2, t3⟩ := text_ref (K := K) (l := r) (by omega) (by intro e; rw [e] at h2; simp at h2) (by omega) h3
  refine ⟨t, ?_, t2, by rw [t3, h4]⟩
  unfold g_R_NatMul
  have e1 : ((a.size : Int) + (b.size : Int) + 1) = ((a.size + b.size + 1 : Nat) : Int) := by omega
  simp (discharger := omega) only [decide_eq_true_eq, if_pos, if_neg, if_true, if_false, bsome, beq_iff, bne_iff, idxI, bidxI, sslI, lslI, k64, ku64, ku32, ku8, i64w, u64w, u32w, u8w, tdivI, tmodI, tu0a, tu1a, tu2a, tu3a, tu4a, tu5a, lta, bindSl, bindSr, outSl, outSr, Int.toNat_natCast, List.length_cons, List.length_nil, List.length_set, Int.toNat_zero, List.replicate_zero, e1, h1, t1]
end Go.Am.Tryd
/- Plain law: long division of the program's numbers. -/
namespace Go.Am.Tryd
open Go Go.Am Go.Proofs
set_option linter.unusedSimpArgs false
set_option linter.unusedVariables false
variable {K : Nat}
end Go.Am.Tryd
/- Plain law: quotient and remainder, greatest common divisor of the program's numbers. -/
namespace Go.Am.Tryd
open Go Go.Am Go.Proofs
set_option linter.unusedSimpArgs false
set_option linter.unusedVariables false
variable {K : Nat}
section
variable {p X Y V M HI LO U g q b c rr M1 M2 U1 U2 P v1 v2 vl t1 t2 t3 ul top : Int}
end
end Go.Am.Tryd
/- Plain law: Div and Gcd of the program's numbers. -/
namespace Go.Am.Tryd
open Go Go.Am Go.Proofs
set_option linter.unusedSimpArgs false
set_option linter.unusedVariables false
variable {K : Nat}
/-! ### The greatest common divisor -/
end Go.Am.Tryd
/- Plain law: the reference's quotient and divisor of texts. -/
namespace Go.Am.Tryd
open Go Go.Am Go.Proofs
set_option linter.unusedSimpArgs false
set_option linter.unusedVariables false
variable {K : Nat}
end Go.Am.Tryd
/- Plain law: NatChecks answers true. -/
namespace Go.Am.Tryd
open Go Go.Am Go.Proofs
set_option linter.unusedSimpArgs false
set_option linter.unusedVariables false
set_option maxRecDepth 100000
theorem natFact_true : g_law_natFact 2000000001 = some true := by kernel_rfl
def digB (c : Int) : Bool := decide (48 ≤ c) && decide (c ≤ 57)
theorem runS_dig : ∀ (l : List Int), runS (fun c (_ : Unit) => if digB c then .inr () else .inl (5 : Int)) l () = if l.all digB then .inr () else .inl 5
  | [] => rfl
  | x :: l => by
    simp only [runS, List.all_cons]
    by_cases hp : digB x = true
    · simp only [hp, if_true, Bool.true_and, Sum.elim_inr]; exact runS_dig l
    · simp [hp]
theorem dig_if {α : Type} (c : Int) (A B : Option α) : Option.bind (if (decide (c < 48)) = true then some true else some (decide (c > 57))) (tu1 fun x => if x = true then A else B) = if digB c = true then B else A := by
  unfold digB
  by_cases h1 : c < 48 <;> by_cases h2 : c > 57 <;> simp [h1, h2, tu1, show ¬ (48 : Int) ≤ c ↔ c < 48 by omega] <;> (try split) <;> (try omega) <;> rfl
variable {K : Nat} {s : ByteArray}
theorem digits_prog (hs : s.size ≤ 1048576) (hK : s.size < K) : g_nat_Check_l0 K s K 0 = some (if (bytesOf s).all digB then .inr () else .inl 5) := by
  have hn := bytesOf_length s
  have h : g_nat_Check_l0 K s K 0 = _ := loop_sum0 (bytesOf s) (fun k (_ : Unit) i => g_nat_Check_l0 K s k i) (fun c (_ : Unit) => if digB c then .inr () else .inl (5 : Int)) (fun _ _ => True)
    (fun k _ i x hx _ => by
      have hi := (List.getElem?_eq_some_iff.1 hx).1
      show g_nat_Check_l0 K s (k + 1) i = _
      rw [g_nat_Check_l0, lt_nat hi, if_pos rfl, idx_nat hx]
      simp only [Option.bind_some, dig_if, kw1 hi (by omega)]
      cases digB x <;> simp)
    (fun _ _ _ _ _ _ _ => trivial)
    (fun k _ i hi => by
      show g_nat_Check_l0 K s (k + 1) i = _
      rw [g_nat_Check_l0, nlt_nat hi]; simp) K () (by omega) trivial
  rw [h, runS_dig]
theorem digits_ref (hs : s.size ≤ 1048576) (hK : s.size < K) : g_R_NatError_l0 K s K 0 = some (if (bytesOf s).all digB then .inr () else .inl 5) := by
  have hn := bytesOf_length s
  have h : g_R_NatError_l0 K s K 0 = _ := loop_sum0 (bytesOf s) (fun k (_ : Unit) i => g_R_NatError_l0 K s k i) (fun c (_ : Unit) => if digB c then .inr () else .inl (5 : Int)) (fun _ _ => True)
    (fun k _ i x hx _ => by
      have hi := (List.getElem?_eq_some_iff.1 hx).1
      show g_R_NatError_l0 K s (k + 1) i = _
      rw [g_R_NatError_l0, ← hn, lt_nat hi, if_pos rfl, bidx_eq, idx_nat hx]
      simp only [Option.bind_some, dig_if, kw1 hi (by omega)]
      cases digB x <;> simp)
    (fun _ _ _ _ _ _ _ => trivial)
    (fun k _ i hi => by
      show g_R_NatError_l0 K s (k + 1) i = _
      rw [g_R_NatError_l0, ← hn, nlt_nat hi]; simp) K () (by omega) trivial
  rw [h, runS_dig]
def natE (s : ByteArray) : Int := if s.size = 0 then 5 else if (bytesOf s).head? = some 48 ∧ s.size > 1 then 5 else if !(bytesOf s).all digB then 5 else if s.size > 2000 then 2 else 0
theorem sEq_nil : sEq s ⟨#[]⟩ = (s.size == 0) := by
  cases hq : sEq s ⟨#[]⟩ with
  | true => rw [sEq_iff] at hq; subst hq; rfl
  | false =>
    have : s.size ≠ 0 := fun h => by
      have : s = ⟨#[]⟩ := by
        cases s with
        | mk d => congr 1; exact Array.eq_empty_of_size_eq_zero h
      rw [sEq_iff.2 this] at hq; cases hq
    simp [this]
theorem first_at (h : s.size ≠ 0) : ∃ c, bidx s 0 = some c ∧ (bytesOf s).head? = some c := by
  have hn := bytesOf_length s
  cases hb : bytesOf s with
  | nil => rw [hb] at hn; simp at hn; omega
  | cons c l => exact ⟨c, by rw [bidx_eq, hb]; rfl, rfl⟩
theorem check_prog (hs : s.size ≤ 1048576) (hK : s.size < K) : g_nat_Check K s = some (natE s) := by
  unfold g_nat_Check natE
  rw [digits_prog hs hK, sEq_nil]
  by_cases h0 : s.size = 0
  · simp [h0, tu1]
  · obtain ⟨c, h1, h2⟩ := first_at h0
    rw [h1, h2]
    have h0' : (s.size == 0) = false := by simpa using h0
    by_cases hc : c = 48 <;> by_cases h3 : s.size > 1 <;> by_cases h4 : s.size > 2000 <;> cases h5 : (bytesOf s).all digB <;>
      simp [h0, h0', hc, h3, h4, h5, tu1, tu0, bindS, show ((s.size : Int) > 1) ↔ s.size > 1 by omega, show ((s.size : Int) > 2000) ↔ s.size > 2000 by omega] <;> omega
theorem error_ref (hs : s.size ≤ 1048576) (hK : s.size < K) : g_R_NatError K s = some (natE s) := by
  unfold g_R_NatError natE
  rw [digits_ref hs hK]
  by_cases h0 : s.size = 0
  · simp [h0, tu1]
  · obtain ⟨c, h1, h2⟩ := first_at h0
    rw [h1, h2]
    have h0' : ((s.size : Int) == 0) = false := by rw [beq_eq_false_iff_ne]; omega
    by_cases hc : c = 48 <;> by_cases h3 : s.size > 1 <;> by_cases h4 : s.size > 2000 <;> cases h5 : (bytesOf s).all digB <;>
      simp [h0, h0', hc, h3, h4, h5, tu1, tu0, bindS, show ((s.size : Int) > 1) ↔ s.size > 1 by omega, show ((s.size : Int) > 2000) ↔ s.size > 2000 by omega] <;> omega
/-- The error of a number is none: it is a canonical text of at most 2000 digits. -/
theorem digB_eq : digB = digT := rfl
theorem natE_ok (s : ByteArray) : natE s = 0 ↔ CanT s ∧ s.size ≤ 2000 := by
  unfold natE CanT
  rw [digB_eq]
  by_cases h0 : s.size = 0
  · simp [h0]
  · by_cases h1 : (bytesOf s).head? = some 48 ∧ s.size > 1
    · rw [if_neg h0, if_pos h1]
      constructor
      · intro h; cases h
      · rintro ⟨⟨_, _, h⟩, _⟩; have := h h1.1; omega
    · rw [if_neg h0, if_neg h1]
      cases h2 : (bytesOf s).all digT with
      | false => simp
      | true =>
        simp only [Bool.not_true, Bool.false_eq_true, if_false]
        by_cases h3 : s.size > 2000
        · rw [if_pos h3]; constructor
          · intro h; cases h
          · rintro ⟨_, h⟩; omega
        · rw [if_neg h3]
          exact ⟨fun _ => ⟨⟨h0, trivial, fun e => by
            refine Nat.le_antisymm (Nat.not_lt.1 fun h => h1 ⟨e, h⟩) (by omega)⟩, by omega⟩, fun _ => rfl⟩
theorem told_ok {x : List Int} {n : Int} (hx : x.length ≤ 1000000) (hK : 2000000000 < K) (nx : NumN n x) : ∃ t, CanT t ∧ numT t = n ∧ g_nat_told K x = some (if t.size > 2000 then (⟨#[]⟩, 2) else (t, 0)) := by
  obtain ⟨t, t1, t2, t3, t4⟩ := text_ok hx hK nx
  refine ⟨t, t2, t3, ?_⟩
  unfold g_nat_told
  rw [t1, bsome]
  by_cases h : t.size > 2000
  · rw [if_pos h, if_pos (decide_eq_true (by omega))]
  · rw [if_neg h, if_neg (by simp; omega)]
theorem sEq_self (s : ByteArray) : sEq s s = true := sEq_iff.2 rfl
end Go.Am.Tryd
/- Plain law: NatProducts, NatDivides and NatPowers answer true. -/
namespace Go.Am.Tryd
open Go Go.Am Go.Proofs
set_option linter.unusedSimpArgs false
set_option linter.unusedVariables false
set_option maxRecDepth 100000
variable {K : Nat}
theorem sEq_f {s t : ByteArray} (h : s ≠ t) : sEq s t = false := by
  cases e : sEq s t with
  | false => rfl
  | true => exact absurd (sEq_iff.1 e) h
/-! ### Powers -/
/-- A number has more digits than are allowed. -/
def Big (m : Int) : Prop := ∃ t, CanT t ∧ numT t = m ∧ t.size > 2000
theorem big_iff {t : ByteArray} {m : Int} (h : CanT t) (hm : numT t = m) : Big m ↔ t.size > 2000 := by
  constructor
  · rintro ⟨u, u1, u2, u3⟩
    have : u = t := numT_inj u1 h (by rw [u2, hm])
    subst this; exact u3
  · intro h2; exact ⟨t, h, hm, h2⟩
theorem one_num (hK : 2000000000 < K) : g_nat_Of K 1 = some [1] := by
  obtain ⟨k, rfl⟩ : ∃ k, K = k + 2 := ⟨K - 2, by omega⟩
  unfold g_nat_Of
  have e1 : decide ((1 : Int) > 0) = true := rfl
  have e2 : IntKind.wrap .u32 (Int.tmod 1 1000000000) = 1 := rfl
  have e3 : kwrap .i64 (Int.tdiv 1 1000000000) = 0 := rfl
  have e4 : decide ((0 : Int) > 0) = false := rfl
  rw [g_nat_Of_l0, e1, if_pos rfl, e2, e3, if_pos (by decide), g_nat_Of_l0, e4]
  rfl
theorem pow_prog {x : List Int} {a n : Int} (hx : x.length ≤ 1000) (hK : 2000000000 < K) (nx : NumN a x) (hn : 0 ≤ n ∧ n ≤ 10000) :
    ∃ r : (ByteArray × Int) ⊕ List Int, g_nat_Power_l0 K n x K [1] 0 = some r ∧ ((r = .inl (⟨#[]⟩, 2) ∧ ∃ j : Nat, (j : Int) ≤ n ∧ Big (a ^ j)) ∨ ∃ z, r = .inr z ∧ NumN (a ^ n.toNat) z ∧ z.length ≤ 2000 ∧ ∀ j : Nat, (j : Int) ≤ n → ¬ Big (a ^ j)) := by
  have hb0 : ¬ Big (a ^ 0) := fun h => by
    have := (big_iff canT_one (show numT ⟨#[49]⟩ = a ^ 0 by rw [numT_one, Int.pow_zero])).1 h
    have e : (⟨#[49]⟩ : ByteArray).size = 1 := rfl
    omega
  refine loopW (fun k (s : List Int × Int) => g_nat_Power_l0 K n x k s.1 s.2) (fun s => ∃ i : Nat, s.2 = i ∧ (i : Int) ≤ n ∧ NumN (a ^ i) s.1 ∧ s.1.length ≤ 2000 ∧ ∀ j ≤ i, ¬ Big (a ^ j)) (fun s => (n - s.2).toNat) _ ?_ (([1], 0) : List Int × Int) (by dsimp only; omega) ⟨0, rfl, by omega, by rw [Int.pow_zero]; exact .one (by omega) (by omega), by simp, fun j hj => by rw [Nat.le_zero.1 hj]; exact hb0⟩
  rintro k ⟨o, _⟩ ⟨i, rfl, h0, h1, h2, h3⟩
  dsimp only at h0 h1 h2 h3 ⊢
  by_cases hi : (i : Int) < n
  · obtain ⟨z, z1, z2, z3⟩ := nmul_ok (K := K) (x := o) (y := x) (by omega) hK h1 nx
    obtain ⟨t, t1, t2, t3, t4⟩ := text_ok (K := K) (x := z) (by omega) hK z2
    have hd : g_nat_N_Digits K z = some (t.size : Int) := by unfold g_nat_N_Digits; rw [t1, bsome]
    have hp : a ^ i * a = a ^ (i + 1) := (Int.pow_succ a i).symm
    rw [hp] at z2 t3
    by_cases hbig : t.size > 2000
    · left
      refine ⟨.inl (⟨#[]⟩, 2), ?_, .inl ⟨rfl, i + 1, by omega, (big_iff t2 t3).2 hbig⟩⟩
      rw [g_nat_Power_l0, if_pos (decide_eq_true hi), z1, bsome, hd, bsome, if_pos (decide_eq_true (by omega))]
    · right
      have hzl : z.length ≤ 2000 := by
        refine Nat.not_lt.1 fun hlt => ?_
        have g1 := can_ge (B := 1000000000) (by omega) z2.1 (by rintro rfl; simp at hlt)
        rw [z2.2, ← t3] at g1
        have g2 := numT_lt t2.2.1
        have g3 : (10 : Int) ^ t.size ≤ 10 ^ 2000 := ipow_le (by omega) (by omega)
        have g4 : (10 : Int) ^ 2000 ≤ 1000000000 ^ 2000 := by
          have g5 : (1000000000 : Int) = 10 ^ 9 := by decide
          rw [g5, ← Int.pow_mul]
          exact ipow_le (by omega) (by omega)
        have g6 : (1000000000 : Int) ^ 2000 ≤ 1000000000 ^ (z.length - 1) := ipow_le (by omega) (by omega)
        exact absurd (Int.lt_of_lt_of_le g2 (Int.le_trans g3 (Int.le_trans g4 (Int.le_trans g6 g1)))) (Int.lt_irrefl _)
      refine ⟨(z, (i : Int) + 1), ?_, by dsimp only; omega, i + 1, rfl, by omega, z2, hzl, fun j hj => ?_⟩
      · rw [g_nat_Power_l0, if_pos (decide_eq_true hi), z1, bsome, hd, bsome, if_neg (by simp; omega), k64 (by omega) (by omega)]
      · by_cases hj2 : j = i + 1
        · subst hj2; exact fun h => hbig ((big_iff t2 t3).1 h)
        · exact h3 j (by omega)
  · left
    have : n.toNat = i := by omega
    refine ⟨.inr o, ?_, .inr ⟨o, rfl, by rw [this]; exact h1, h2, fun j hj => h3 j (by omega)⟩⟩
    rw [g_nat_Power_l0, if_neg (by simp; omega)]
theorem pow_ref {a : ByteArray} {n : Int} {x15 : ByteArray × Int} (ha : CanT a) (hs : a.size ≤ 2000) (hK : 2000000000 < K) (hn : 0 ≤ n) :
    ∃ r : Bool ⊕ ByteArray, g_law_NatPowers_l0 K a n x15 K ⟨#[49]⟩ 0 = some r ∧ ((r = .inl (decide (x15.2 = 2) && sEq x15.1 ⟨#[]⟩) ∧ ∃ j : Nat, (j : Int) ≤ imin n 30 ∧ Big (numT a ^ j)) ∨ ∃ z, r = .inr z ∧ CanT z ∧ numT z = numT a ^ (imin n 30).toNat ∧ ∀ j : Nat, (j : Int) ≤ imin n 30 → ¬ Big (numT a ^ j)) := by
  have hm : 0 ≤ imin n 30 ∧ imin n 30 ≤ 30 := by unfold imin; split <;> omega
  generalize hmm : imin n 30 = m at *
  have hb0 : ¬ Big (numT a ^ 0) := fun h => by
    have := (big_iff canT_one (show numT ⟨#[49]⟩ = numT a ^ 0 by rw [numT_one, Int.pow_zero])).1 h
    have e : (⟨#[49]⟩ : ByteArray).size = 1 := rfl
    omega
  refine loopW (fun k (s : ByteArray × Int) => g_law_NatPowers_l0 K a n x15 k s.1 s.2) (fun s => ∃ i : Nat, s.2 = i ∧ (i : Int) ≤ m ∧ CanT s.1 ∧ numT s.1 = numT a ^ i ∧ s.1.size ≤ 2000 ∧ ∀ j ≤ i, ¬ Big (numT a ^ j)) (fun s => (m - s.2).toNat) _ ?_ ((⟨#[49]⟩, 0) : ByteArray × Int) (by dsimp only; omega) ⟨0, rfl, by omega, canT_one, by rw [Int.pow_zero]; exact numT_one, by show 1 ≤ 2000; omega, fun j hj => by
      have : j = 0 := by omega
      subst this; exact hb0⟩
  rintro k ⟨o, _⟩ ⟨i, rfl, h0, h1, h2, h3, h4⟩
  dsimp only at h0 h1 h2 h3 h4 ⊢
  by_cases hi : (i : Int) < m
  · obtain ⟨t, t1, t2, t3⟩ := mul_ref (K := K) (a := o) (b := a) (by omega) (by omega) hK h1.2.1 ha.2.1
    have hp : numT a ^ i * numT a = numT a ^ (i + 1) := (Int.pow_succ _ i).symm
    rw [h2, hp] at t3
    by_cases hbig : t.size > 2000
    · left
      refine ⟨_, ?_, .inl ⟨rfl, i + 1, by omega, (big_iff t2 t3).2 hbig⟩⟩
      rw [g_law_NatPowers_l0, hmm, if_pos (decide_eq_true hi), t1, bsome, if_pos (decide_eq_true (by omega))]
      by_cases c : x15.2 = 2 <;> simp [c, bsome, tu1a]
    · right
      refine ⟨(t, (i : Int) + 1), ?_, by dsimp only; omega, i + 1, rfl, by omega, t2, t3, by dsimp only; omega, fun j hj => ?_⟩
      · rw [g_law_NatPowers_l0, hmm, if_pos (decide_eq_true hi), t1, bsome, if_neg (by simp; omega), k64 (by omega) (by omega)]
      · by_cases hj2 : j = i + 1
        · subst hj2; exact fun h => hbig ((big_iff t2 t3).1 h)
        · exact h4 j (by omega)
  · left
    have : m.toNat = i := by omega
    refine ⟨.inr o, ?_, .inr ⟨o, rfl, h1, by rw [this]; exact h2, fun j hj => h4 j (by omega)⟩⟩
    rw [g_law_NatPowers_l0, hmm, if_neg (by simp; omega)]
theorem not_big01 {m : Int} (h : m = 0 ∨ m = 1) : ¬ Big m := by
  rcases h with rfl | rfl
  · intro h; have := (big_iff canT_zero numT_zero).1 h; have e : (⟨#[48]⟩ : ByteArray).size = 1 := rfl; omega
  · intro h; have := (big_iff canT_one numT_one).1 h; have e : (⟨#[49]⟩ : ByteArray).size = 1 := rfl; omega
theorem pow01 {a : Int} (h : a = 0 ∨ a = 1) {n : Nat} (hn : n ≠ 0) : a ^ n = a := by
  rcases h with rfl | rfl
  · exact Int.zero_pow hn
  · exact Int.one_pow
theorem natPowers_true {a : ByteArray} {n : Int} (ha : a.size ≤ 1048576) (hn : krange .i64 n = true) : ∃ K, g_law_NatPowers K a n = some true := by
  refine ⟨2000000001, ?_⟩
  have hK : 2000000000 < 2000000001 := by omega
  unfold g_law_NatPowers g_nat_Power
  rw [natFact_true, error_ref ha (by omega), check_prog ha (by omega), bsome]
  simp only [Bool.not_true, Bool.false_eq_true, if_false, bsome]
  by_cases e1 : natE a = 0
  · obtain ⟨ca, la⟩ := (natE_ok a).1 e1
    have a0 := numT_nonneg ca.2.1
    rw [e1]
    simp only [bne_self_eq_false, Bool.false_eq_true, if_false, beq_self_eq_true, if_true]
    by_cases hr : n < 0 ∨ n > 10000
    · have hc : (if (decide (n < 0)) = true then some true else some (decide (n > 10000))) = some true := by
        by_cases c : n < 0
        · simp [c]
        · have : n > 10000 := by omega
          simp [c, this]
      rw [hc]
      simp [bsome, tu1a, sEq_self]
    · have hc : (if (decide (n < 0)) = true then some true else some (decide (n > 10000))) = some false := by
        have c1 : ¬ n < 0 := by omega
        have c2 : ¬ n > 10000 := by omega
        simp [c1, c2]
      rw [hc]
      obtain ⟨x, x1, x2, x3⟩ := read_ok (K := 2000000001) (s := a) (by omega) hK ca.2.1
      have hcmp := ncmp_ok (K := 2000000001) (x := x) (y := [1]) (by omega) (by simp) hK x2 (.one (by omega) (by omega))
      simp only [bsome, tu1a, Bool.false_eq_true, if_false, x1, one_num hK, hcmp]
      by_cases h01 : numT a = 0 ∨ numT a = 1
      · -- a nought or a one
        have hle : decide ((if numT a < 1 then (-1 : Int) else if numT a = 1 then 0 else 1) ≤ 0) = true := by
          rcases h01 with h | h <;> rw [h] <;> rfl
        rw [hle, if_pos rfl]
        have hnot : (if (decide (n > 30)) = true then (if (!(sEq a (⟨#[48]⟩ : ByteArray))) = true then some (!(sEq a (⟨#[49]⟩ : ByteArray))) else some false) else some false) = some false := by
          rcases h01 with h | h
          · have : a = ⟨#[48]⟩ := (canT_eq0 ca).1 h
            rw [this, sEq_self]; simp
          · have : a = ⟨#[49]⟩ := numT_inj ca canT_one (by rw [h, numT_one])
            rw [this, sEq_self]; by_cases c : n > 30 <;> simp [c]
        rw [hnot]
        obtain ⟨r, r1, r2⟩ := pow_ref (K := 2000000001) (a := a) (n := n) (x15 := if (n == 0) = true then (⟨#[49]⟩, 0) else (a, 0)) ca la hK (by omega)
        have hnb : ∀ j : Nat, ¬ Big (numT a ^ j) := fun j => by
          by_cases hj : j = 0
          · subst hj; exact not_big01 (.inr (Int.pow_zero _))
          · exact not_big01 (by rw [pow01 h01 hj]; exact h01)
        rcases r2 with ⟨_, j, _, hj⟩ | ⟨z, rfl, z1, z2, z3⟩
        · exact absurd hj (hnb j)
        · by_cases hn0 : n = 0
          · subst hn0
            have : z = ⟨#[49]⟩ := numT_inj z1 canT_one (by rw [z2, numT_one]; exact Int.pow_zero _)
            subst this
            simp only [beq_self_eq_true, if_true] at r1 ⊢
            simp only [bsome, tu1a, bne_self_eq_false, Bool.false_eq_true, if_false, r1, bindSr, beq_self_eq_true, if_true, sEq_self]
          · have hz : z = a := numT_inj z1 ca (by
              rw [z2]
              refine pow01 h01 ?_
              unfold imin; split <;> omega)
            subst hz
            have e0 : (n == 0) = false := by rw [beq_eq_false_iff_ne]; exact hn0
            rw [e0] at r1 ⊢
            simp only [Bool.false_eq_true, if_false] at r1 ⊢
            simp only [bsome, tu1a, bne_self_eq_false, Bool.false_eq_true, if_false, r1, bindSr, beq_self_eq_true, if_true, sEq_self]
      · have hle : decide ((if numT a < 1 then (-1 : Int) else if numT a = 1 then 0 else 1) ≤ 0) = false := by
          rw [if_neg (by omega), if_neg (by omega)]; rfl
        rw [hle]
        simp only [Bool.false_eq_true, if_false]
        have hs48 : sEq a ⟨#[48]⟩ = false := sEq_f (fun e => h01 (.inl (by rw [e, numT_zero])))
        have hs49 : sEq a ⟨#[49]⟩ = false := sEq_f (fun e => h01 (.inr (by rw [e, numT_one])))
        obtain ⟨p, p1, p2⟩ := pow_prog (K := 2000000001) (x := x) (a := numT a) (n := n) (by omega) hK x2 (by omega)
        rw [hs48, hs49]
        -- the answer of the program
        obtain ⟨res, hres, hspec⟩ : ∃ res : ByteArray × Int, (bindS (g_nat_Power_l0 2000000001 n x 2000000001 [1] 0) (tu2 fun a177 a178 => some (a177, a178)) (tu1 fun x156 => ((g_nat_told 2000000001 x156).bind fun x166 => some (x166.1, x166.2)))) = some res ∧ ((res = (⟨#[]⟩, 2) ∧ ∃ j : Nat, (j : Int) ≤ n ∧ Big (numT a ^ j)) ∨ (res.2 = 0 ∧ CanT res.1 ∧ numT res.1 = numT a ^ n.toNat ∧ ∀ j : Nat, (j : Int) ≤ n → ¬ Big (numT a ^ j))) := by
          rw [p1]
          rcases p2 with ⟨rfl, hj⟩ | ⟨z, rfl, z1, z2, z3⟩
          · exact ⟨_, by rw [bindSl, tu2a], .inl ⟨rfl, hj⟩⟩
          · obtain ⟨t, t1, t2, t3⟩ := told_ok (K := 2000000001) (x := z) (by omega) hK z1
            have hnb := z3 n.toNat (by omega)
            have hsz : ¬ t.size > 2000 := fun h => hnb ((big_iff t1 t2).2 h)
            rw [if_neg hsz] at t3
            exact ⟨(t, 0), by rw [bindSr, tu1a, t3, bsome], .inr ⟨rfl, t1, t2, z3⟩⟩
        rw [hres]
        simp only [bsome, bne_self_eq_false, Bool.false_eq_true, if_false]
        by_cases h30 : n > 30
        · simp [h30, bsome, tu1a]
        · have hmin : imin n 30 = n := by
            unfold imin
            by_cases c : 30 < n
            · omega
            · rw [if_neg c]
          obtain ⟨r, r1, r2⟩ := pow_ref (K := 2000000001) (a := a) (n := n) (x15 := res) ca la hK (by omega)
          rw [hmin] at r2
          have h30' : decide (n > 30) = false := decide_eq_false h30
          rw [h30', r1]
          simp only [Bool.false_eq_true, if_false, bsome, tu1a]
          rcases r2 with ⟨rfl, j, hj, hb⟩ | ⟨z, rfl, z1, z2, z3⟩
          · rcases hspec with ⟨rfl, _⟩ | ⟨_, _, _, h⟩
            · simp [bindSl, tu1a, sEq_self]
            · exact absurd hb (h j hj)
          · rcases hspec with ⟨_, j, hj, hb⟩ | ⟨h1, h2, h3, h4⟩
            · exact absurd hb (z3 j hj)
            · have : z = res.1 := numT_inj z1 h2 (by rw [z2, h3])
              subst this
              simp [bindSr, tu1a, sEq_self, h1, bsome]
  · have e2 : (natE a == 0) = false := by rw [beq_eq_false_iff_ne]; exact e1
    have e3 : (natE a != 0) = true := by rw [bne_iff_ne]; exact e1
    rw [e2, e3]
    simp [bsome, tu1a, sEq_self, e1]
end Go.Am.Tryd
/- From a statement's arguments, read as data, to typed data. -/
namespace Go.Am
open Go Go.Proofs.YtlmgdnhnpkgheaaDoor
set_option linter.unusedSimpArgs false
set_option linter.unusedVariables false
section
variable {H : Type} {P : Program} {G : GM} {n B : Nat} {t e : TypeId} {α β S : Type} {r : RT α} {s : RT β} {I : α → Prop} {J : β → Prop}
theorem bulk_pos {H : Type} (d : DataW H) : 1 ≤ Rows.uptoBulk d := by
  cases d with
  | lit l => cases l <;> simp [Rows.uptoBulk]
  | _ => simp [Rows.uptoBulk]
theorem bulk_len {H : Type} : ∀ (ds : List (DataW H)), ds.length ≤ Rows.uptoBulkAll ds
  | [] => Nat.zero_le _
  | d :: r => by
    have := bulk_len r
    have := bulk_pos d
    simp only [Rows.uptoBulkAll, List.length_cons]; omega
def Arg (H : Type) (P : Program) (G : GM) (n : Nat) (t : TypeId) (r : RT α) (B : Nat) (I : α → Prop) : Prop := ∀ (cs : List Value) (d : DataW H), AData P G n t cs d → Rows.uptoBulk d ≤ B → ∃ x, r.rep G cs x ∧ I x
def ArgS (H : Type) (P : Program) (G : GM) (n : Nat) (ts : List TypeId) (r : RT α) (B : Nat) (I : α → Prop) : Prop :=
  ∀ (css : List (List Value)) (ds : List (DataW H)), AllD (AData P G n) P.cellsOf ts css ds → Rows.uptoBulkAll ds ≤ B → ∃ x, r.rep G css.flatten x ∧ I x
theorem wf_range {k : IntKind} {x : Int} (h : (Lit.int k x).wf = true) : krange k x = true := by
  cases k <;> simp [Lit.wf, IntKind.min, IntKind.max, IntKind.signed, IntKind.bits] at h <;> simp [krange] <;> omega
theorem Arg.mono {I J : α → Prop} (h : Arg H P G n t r B I) (k : ∀ x, I x → J x) : Arg H P G n t r B J := fun cs d hd hb => by
  obtain ⟨x, h1, h2⟩ := h cs d hd hb
  exact ⟨x, h1, k x h2⟩
theorem Arg.int {k : IntKind} (hu : P.underlying t = some (.int k)) : Arg H P G (n + 1) t (rI k) B (fun x => krange k x = true) := fun cs d h _ => by
  unfold AData at h
  simp only [hu] at h
  obtain ⟨x, h1, h2, h3⟩ := h
  exact ⟨x, h1, wf_range h3⟩
theorem Arg.bool (hu : P.underlying t = some .bool) : Arg H P G (n + 1) t rB B (fun _ => True) := fun cs d h _ => by
  unfold AData at h
  simp only [hu] at h
  obtain ⟨x, h1, _⟩ := h
  exact ⟨x, h1, trivial⟩
theorem Arg.str (hu : P.underlying t = some .string) : Arg H P G (n + 1) t rS B (fun x => x.size ≤ B) := fun cs d h hb => by
  unfold AData at h
  simp only [hu] at h
  obtain ⟨x, h1, h2, _⟩ := h
  refine ⟨x, h1, ?_⟩
  rw [h2] at hb
  simp only [Rows.uptoBulk, Array.length_toList] at hb
  have : x.data.size = x.size := rfl
  omega
theorem allD_reps (h : Arg H P G n e r B I) : ∀ (k : Nat) (css : List (List Value)) (ds : List (DataW H)), AllD (AData P G n) P.cellsOf (List.replicate k e) css ds → Rows.uptoBulkAll ds ≤ B → ∃ xs : List α, All2 (r.rep G) css xs ∧ (∀ x ∈ xs, I x) ∧ xs.length = k
  | 0, [], [], _, _ => ⟨[], .nil, by simp, rfl⟩
  | 0, _ :: _, _, h, _ => by simp [List.replicate, AllD] at h
  | 0, [], _ :: _, h, _ => by simp [List.replicate, AllD] at h
  | k + 1, [], _, h, _ => by simp [List.replicate, AllD] at h
  | k + 1, _ :: _, [], h, _ => by simp [List.replicate, AllD] at h
  | k + 1, c :: css, d :: ds, hA, hb => by
    simp only [List.replicate, AllD] at hA
    simp only [Rows.uptoBulkAll] at hb
    obtain ⟨x, h1, h2⟩ := h _ _ hA.1.1 (by omega)
    obtain ⟨xs, h3, h4, h5⟩ := allD_reps h k css ds hA.2 (by omega)
    refine ⟨x :: xs, .cons h1 h3, fun y hy => ?_, by simp [h5]⟩
    rcases List.mem_cons.1 hy with rfl | hy
    · exact h2
    · exact h4 y hy
theorem allD_take {R : TypeId → List Value → DataW H → Prop} {sz : TypeId → Nat} : ∀ (k : Nat) {ts : List TypeId} {cs : List (List Value)} {ds : List (DataW H)}, AllD R sz ts cs ds → AllD R sz (ts.take k) (cs.take k) (ds.take k)
  | 0, _, _, _, _ => by simp [AllD]
  | k + 1, [], [], [], _ => by simp [AllD]
  | k + 1, _ :: _, _ :: _, _ :: _, h => by simp only [List.take_succ_cons]; exact ⟨h.1, allD_take k h.2⟩
theorem allD_len {R : TypeId → List Value → DataW H → Prop} {sz : TypeId → Nat} {e : TypeId} : ∀ (k : Nat) (css : List (List Value)) (ds : List (DataW H)), AllD R sz (List.replicate k e) css ds → ∀ c ∈ css, c.length = sz e
  | 0, [], [], _, c, hc => by simp at hc
  | 0, _ :: _, _, h, _, _ => by simp [List.replicate, AllD] at h
  | 0, [], _ :: _, h, _, _ => by simp [List.replicate, AllD] at h
  | k + 1, [], _, h, _, _ => by simp [List.replicate, AllD] at h
  | k + 1, _ :: _, [], h, _, _ => by simp [List.replicate, AllD] at h
  | k + 1, c :: css, d :: ds, hA, u, hu => by
    simp only [List.replicate, AllD] at hA
    rcases List.mem_cons.1 hu with rfl | hu
    · exact hA.1.2
    · exact allD_len k css ds hA.2 u hu
theorem Arg.sl (hu : P.underlying t = some (.slice e)) (h : Arg H P G n e r B I) : Arg H P G (n + 1) t (rSl r) B (fun xs => xs.length ≤ B ∧ ∀ x ∈ xs, I x) := fun cs d hA hb => by
  unfold AData at hA
  simp only [hu] at hA
  rcases hA with ⟨h1, h2⟩ | ⟨b, len, cap, elems, spare, css, h1, h2, h3, h4, _, h6, h7⟩
  · subst h1
    exact ⟨[], sl_nil, Nat.zero_le _, by simp⟩
  · subst h2
    simp only [Rows.uptoBulk] at hb
    have hlen := bulk_len elems
    have h8 := allD_take len h7
    rw [List.take_replicate, show min len cap = len by omega, ← h3, List.take_left] at h8
    obtain ⟨xs, k1, k2, k3⟩ := allD_reps h elems.length (css.take elems.length) elems h8 (by omega)
    refine ⟨xs, ?_, by omega, k2⟩
    have hcl := allD_len _ _ _ h7
    have hel := k1.length
    by_cases hz : elems.length = 0
    · have hx : xs = [] := List.length_eq_zero_iff.1 (by omega)
      subst hx
      refine ⟨_, [], h1, ⟨by simp, .inr (.inr ⟨b, 0, some 0, cap, by rw [← h3, hz], rfl, .inr rfl⟩)⟩, .nil⟩
    · rcases h6 with h6 | ⟨x, g1, _, g3⟩
      · omega
      · refine ⟨_, css.take elems.length, h1, ⟨k1.each, .inr (.inl ⟨b, 0, some 0, cap, x, by rw [hel, k3, ← h3], g1, ?_, ?_, by rw [hel, k3]; omega, .inr rfl⟩)⟩, k1⟩
        · rw [g3]
          have h9 : css.flatten = (css.take elems.length).flatten ++ (css.drop elems.length).flatten := by rw [← List.flatten_append, List.take_append_drop]
          rw [h9, List.length_append, k1.flatLen, hel]; omega
        · rw [g3, List.drop_zero]
          have h9 : css.flatten = (css.take elems.length).flatten ++ (css.drop elems.length).flatten := by rw [← List.flatten_append, List.take_append_drop]
          have h10 : (css.take elems.length).length * r.sz = (css.take elems.length).flatten.length := by rw [k1.flatLen, hel]
          rw [h9, h10, List.take_left]
theorem Arg.arr {k : Nat} (hu : P.underlying t = some (.array k e)) (h : Arg H P G n e r B I) : Arg H P G (n + 1) t (rArr k r) B (fun xs => xs.length = k ∧ ∀ x ∈ xs, I x) := fun cs d hA hb => by
  unfold AData at hA
  simp only [hu] at hA
  obtain ⟨css, parts, h1, h2, h3⟩ := hA
  subst h2
  simp only [Rows.uptoBulk] at hb
  obtain ⟨xs, k1, k2, k3⟩ := allD_reps h k css parts h3 (by omega)
  exact ⟨xs, ⟨k3, css, h1, k1⟩, k3, k2⟩
theorem ArgS.one (h : Arg H P G n t r B I) : ArgS H P G n [t] r B I := fun css ds hA hb => by
  match css, ds, hA with
  | [c], [d], hA =>
    simp only [Rows.uptoBulkAll] at hb
    obtain ⟨x, h1, h2⟩ := h c d hA.1.1 (by omega)
    exact ⟨x, by simpa using h1, h2⟩
  | [], _, hA => simp [AllD] at hA
  | _ :: _ :: _, [], hA => simp [AllD] at hA
  | _ :: _ :: _, [_], hA => simp [AllD] at hA
  | _ :: _ :: _, _ :: _ :: _, hA => simp [AllD] at hA
  | [_], [], hA => simp [AllD] at hA
  | [_], _ :: _ :: _, hA => simp [AllD] at hA
theorem ArgS.cons {ts : List TypeId} (h : Arg H P G n t r B I) (k : ArgS H P G n ts s B J) : ArgS H P G n (t :: ts) (rP r s) B (fun x => I x.1 ∧ J x.2) := fun css ds hA hb => by
  match css, ds, hA with
  | c :: css, d :: ds, hA =>
    simp only [Rows.uptoBulkAll] at hb
    obtain ⟨x, h1, h2⟩ := h c d hA.1.1 (by omega)
    obtain ⟨y, h3, h4⟩ := k css ds hA.2 (by omega)
    exact ⟨(x, y), ⟨c, css.flatten, by simp, h1, h3⟩, h2, h4⟩
  | [], _, hA => simp [AllD] at hA
  | _ :: _, [], hA => simp [AllD] at hA
theorem Arg.struct {fs : Array Field} {ts : List TypeId} (hu : P.underlying t = some (.struct fs)) (hts : fs.toList.map (·.type) = ts) (h : ArgS H P G n ts r B I) (f : S → α) (g : α → S) (hg : ∀ p, f (g p) = p) : Arg H P G (n + 1) t (rIso r f) B (fun x => I (f x)) := fun cs d hA hb => by
  unfold AData at hA
  simp only [hu] at hA
  obtain ⟨css, parts, h1, h2, h3⟩ := hA
  subst h2
  simp only [Rows.uptoBulk] at hb
  rw [hts] at h3
  obtain ⟨p, k1, k2⟩ := h css parts h3 (by omega)
  exact ⟨g p, by rw [h1]; show r.rep G css.flatten (f (g p)); rw [hg]; exact k1, by show I (f (g p)); rw [hg]; exact k2⟩
theorem AArgs.cons_inv {ts : List TypeId} {avs : List Value} {ds : List (DataW H)} (h : AArgs P G n (t :: ts) avs ds) : ∃ v vs d dr, avs = v :: vs ∧ ds = d :: dr ∧ AVal P G n t v d ∧ AArgs P G n ts vs dr := by
  match avs, ds, h with
  | v :: vs, d :: dr, h => exact ⟨v, vs, d, dr, rfl, rfl, h.1, h.2⟩
  | [], _, h => simp [AArgs] at h
  | _ :: _, [], h => simp [AArgs] at h
theorem AArgs.nil_inv {avs : List Value} {ds : List (DataW H)} (h : AArgs P G n [] avs ds) : avs = [] ∧ ds = [] := by
  match avs, ds, h with
  | [], [], h => exact ⟨rfl, rfl⟩
  | [], _ :: _, h => simp [AArgs] at h
  | _ :: _, _, h => simp [AArgs] at h
/-- A single cell's value. -/
theorem AVal.one {v : Value} {d : DataW H} (hu : isAggT P t = some false) (h : AVal P G n t v d) : AData P G n t [v] d := by
  unfold AVal at h
  unfold isAggT at hu
  split at h
  · rename_i q; rw [q] at hu; cases hu
  · rename_i q; rw [q] at hu; cases hu
  · exact h
theorem AVal.agg {v : Value} {d : DataW H} (hu : isAggT P t = some true) (h : AVal P G n t v d) : ∃ cs, v = .agg (List.toArray cs) ∧ AData P G n t cs d := by
  unfold AVal at h
  unfold isAggT at hu
  split at h
  · exact h
  · exact h
  · rename_i q1 q2
    split at hu
    · rename_i q; exact absurd q (q1 _)
    · rename_i q; exact absurd q (q2 _ _)
    · cases hu
    · cases hu
theorem Ow.empty (A : AH) : Ow A.get A [] := ⟨fun _ _ h => h, fun i e h => by simp at h, fun i j e e' _ h => by simp at h, fun i e h => by simp at h⟩
theorem CR.done {f : FuncId} {args : List Value} {A : AH} {b : Value} (h : CR P f args A.get A [] fun v _ _ => v = b) : ∃ A', ACalls P f args A b A' := by
  obtain ⟨v, H', G', h1, _, _, rfl⟩ := h
  exact ⟨H', h1⟩
end
end Go.Am
/- NatPowers over the statement's reading of its arguments. -/
namespace Go.Am.Tryd
open Go Go.Am Go.Proofs Go.Proofs.YtlmgdnhnpkgheaaDoor
set_option linter.unusedVariables false
set_option linter.unusedSimpArgs false
set_option maxRecDepth 20000
theorem natPowers {H : Type} (A : AH) (avs : List Value) (ds : List (DataW H)) (hb : Rows.uptoBulkAll ds ≤ 1048576) (ha : AArgs Tryd.prog A.get 1 [9, 3] avs ds) : ∃ A', ACalls Tryd.prog 7 avs A (.bool true) A' := by
  obtain ⟨v0, vs0, d0, ds0, rfl, rfl, a0, ha⟩ := AArgs.cons_inv ha
  obtain ⟨v1, vs1, d1, ds1, rfl, rfl, a1, ha⟩ := AArgs.cons_inv ha
  obtain ⟨rfl, rfl⟩ := AArgs.nil_inv ha
  simp only [Rows.uptoBulkAll] at hb
  obtain ⟨x0, r0, i0⟩ := ((Arg.str (t := 9) (by kernel_rfl)) : Arg H Tryd.prog A.get 1 9 _ 1048576 _) [v0] d0 (AVal.one (by kernel_rfl) a0) (by omega)
  obtain rfl := (List.cons.inj r0).1
  obtain ⟨x1, r1, i1⟩ := ((Arg.int (t := 3) (k := .i64) (by kernel_rfl)) : Arg H Tryd.prog A.get 1 3 _ 1048576 _) [v1] d1 (AVal.one (by kernel_rfl) a1) (by omega)
  obtain rfl := (List.cons.inj r1).1
  obtain ⟨K, hK⟩ := natPowers_true i0 i1
  exact CR.done (g_law_NatPowers_ok K x0 x1 (Ow.empty A) true hK)
end Go.Am.Tryd
